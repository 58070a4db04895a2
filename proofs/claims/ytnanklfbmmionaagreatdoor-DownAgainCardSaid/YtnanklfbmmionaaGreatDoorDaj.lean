/- Da: walks and plain laws, joined: IdxCheck MvsUnder DnAbove Own GrStart. Conditions: at each theorem. -/
import Derived.Test.YtnanklfbmmionaaGreatDoorDai
import Derived.Test.YtnanklfbmmionaaGreatDoorDag
import Derived.Test.YtnanklfbmmionaaGreatDoorDah
import Derived.Test.YtnanklfbmmionaaGreatDoorDae
import Derived.Test.YtnanklfbmmionaaGreatDoorDaf
import Derived.Deep.AppendLies
import Derived.Deep.RegionLaw

namespace Go.Proofs.Pw
open Go.RowKit
open Go.Lib hiding intOf
theorem any_findI {α : Type} {p : α → Bool} {l : List α} : l.any p = true ↔ 0 ≤ findI p l := by
  by_cases h : findI p l < 0
  · refine iff_of_false (fun h2 => ?_) (by omega)
    obtain ⟨x, hx, h3⟩ := List.any_eq_true.1 h2
    have := findI_eq_none.1 h x hx
    rw [this] at h3; cases h3
  · refine iff_of_true ?_ (by omega)
    obtain ⟨x, hx, h3⟩ := findI_spec (show findI p l = ((findI p l).toNat : Int) by omega)
    exact List.any_eq_true.2 ⟨x, List.mem_of_getElem? hx, h3⟩
theorem containsMf_calls (g : Nat) (lb : Array Value) (eg : ∀ args w, (callFunc g args).run Tryz.prog w = .ok (.enter g args) w) (p : Md → Bool) (a : Option Addr) (n cap base : Nat) (P V : Nat → ByteArray) (w : World) (hn : n ≤ 1000000) (hbase : base ≤ w.heap.size)
    (hc : ∀ j, j < n → ∃ b o, a = some ⟨b, o, none⟩ ∧ w.cell? ⟨b, o + j * 2, none⟩ = some (.string (P j)) ∧ w.cell? ⟨b, o + j * 2 + 1, none⟩ = some (.string (V j))) (hT : TestsM g lb p n P V base w) :
    Calls Tryz.prog 97 #[.slice a n cap, .func (.func g) #[] lb] w fun e w' => e = .returned (.bool ((mdF n P V).any p)) ∧ Below w.heap.size w w' := by
  have hi := indexFuncM_calls g lb eg p a n cap base P V w hn hbase hc hT
  have hany := any_findI (p := p) (l := mdF n P V)
  generalize (mdF n P V).any p = X at hany ⊢
  generalize findI p (mdF n P V) = i at hany hi
  replace hi := Lib.hid hi
  clear hc hT
  go_enter Tryz.func97, Tryz.ntmps97
  go_wp2_with fail
  refine hi.out.mono ?_
  rintro e w1 ⟨rfl, hb⟩
  cases X with
  | true =>
    have h0 := hany.1 rfl
    clear hany
    go_wp2_with fail
    go_ret
    exact ⟨rfl, hb⟩
  | false =>
    have h0 : ¬ (0 ≤ i) := fun h => by have := hany.2 h; cases this
    clear hany
    go_wp2_with fail
    go_ret
    refine ⟨?_, hb⟩
    show Ending.returned (Value.bool (decide (0 ≤ i))) = _
    rw [decide_eq_false (by omega)]
theorem Tryz.enters_icheck1 : ∀ args w, (callFunc 105 args).run Tryz.prog w = .ok (.enter 105 args) w := Go.Proofs.enters_of Tryz.func105 (by kernel_rfl) rfl
theorem idxCheck1_calls (a : Option Addr) (n cap : Nat) (P V : Nat → ByteArray) (R : Nat → List Md) (K : Nat → List Str) (B : Nat → Bool) (Rv Kv : Nat → Value) (b : Nat) (p v : ByteArray) (w : World) (h : EntsIn w a n cap P V R K B Rv Kv) (hl : n ≤ 1000000) (z : w.cell? ⟨b, 0, none⟩ = some (.slice a n cap)) :
    Calls Tryz.prog 105 #[.agg #[.string p, .string v], .pointer (some ⟨b, 0, none⟩)] w fun e w' => e = .returned (.bool (lost (enF n P V R K B) (p.data.toList, v.data.toList))) ∧ Below w.heap.size w w' := by
  have hb := below_alloc w (.cells #[.string p, .string v] 29)
  have hz := box2_alloc w (.string p) (.string v) 29
  have z1 := Below.cell_some hb z
  have hf := idxFind_in a n cap P V R K B Rv Kv p v (w.alloc (.cells #[.string p, .string v] 29)) (h.below hb) hl
  show Calls _ _ _ _ fun e w' => e = .returned (.bool (decide (findE (enF n P V R K B) (p.data.toList, v.data.toList) < 0))) ∧ Below w.heap.size w w'
  generalize findE (enF n P V R K B) (p.data.toList, v.data.toList) = x at hf ⊢
  replace hf := Lib.hid hf
  clear h z
  obtain ⟨y0, y1, _⟩ := hz
  go_enter Tryz.func105, Tryz.ntmps105
  go_wp2_with fail
  refine hf.out.mono ?_
  rintro e w1 ⟨rfl, hb1⟩
  go_wp2_with fail
  go_ret
  exact ⟨rfl, below_step hb hb1⟩
set_option maxHeartbeats 4000000 in
set_option maxRecDepth 100000 in
theorem idxCheck_in (ks : List Nat) (A : Nat → Addr) (hks : IdxKs ks) (a : Option Addr) (n cap : Nat) (P V : Nat → ByteArray) (R : Nat → List Md) (K : Nat → List Str) (B : Nat → Bool) (Rv Kv : Nat → Value) (w : World) (hE : EnvP ks A w) (h : EntsIn w a n cap P V R K B Rv Kv) (hs : ShortI (enF n P V R K B)) :
    Calls Tryz.prog 41 #[.slice a n cap] w fun e w' => (∃ v, e = .returned v ∧ FaultAt A w' v (idxErr (enF n P V R K B))) ∧ Below w.heap.size w w' := by
  have hB := below_alloc w (.cells #[.slice a n cap] 22)
  have z1 : (w.alloc (.cells #[.slice a n cap] 22)).cell? ⟨w.heap.size, 0, none⟩ = some (.slice a n cap) := by simp
  have hn : n ≤ 1000000 := by have := hs.len; rw [enF_length] at this; exact this
  replace hE := hE.below hB
  have HE : Hid (idxErr (enF n P V R K B) = if 100 < n then (7, -1) else orE (firstE (entErr (enF n P V R K B)) n) (firstE (lostE (enF n P V R K B)) n)) := Lib.hid (by unfold idxErr; rw [enF_length])
  have H := Lib.hid h
  have HS := Lib.hid hs
  clear h hs
  by_cases h100 : 100 < n
  · have h100' : (100 : Int) < (n : Int) := by omega
    have HF : Hid (idxErr (enF n P V R K B) = (7, -1)) := Lib.hid (by rw [HE.out, if_pos h100])
    have HR : Hid (∀ W, FaultAt A W (errV A 7) (7, -1)) := Lib.hid (fun W => .inr (.inl ⟨by decide, rfl, rfl⟩))
    rw [errV_pos A (c := 7) (by decide)] at HR
    have g7 := hE.errs.var 7 hks.2.2.2.1
    simp only [errG] at g7
    go_enter Tryz.func41, Tryz.ntmps41
    go_wp2_with fail
    go_ret
    rw [HF.out]
    exact ⟨⟨_, rfl, HR.out _⟩, hB⟩
  · have h100' : ¬ (100 : Int) < (n : Int) := by omega
    have HE1 : Hid (idxErr (enF n P V R K B) = orE (firstE (entErr (enF n P V R K B)) n) (firstE (lostE (enF n P V R K B)) n)) := Lib.hid (by rw [HE.out, if_neg h100])
    clear HE h100
    go_enter Tryz.func41, Tryz.ntmps41
    go_wp2_with fail
    generalize hw1 : w.alloc (.cells #[.slice a n cap] 22) = w1 at *
    clear hw1 h100'
    go_loopw [13] (fun i wr => ∃ k : Nat, k ≤ n ∧ i = .int .i64 k ∧ Below w1.heap.size w1 wr ∧ Hid (∀ j, j < k → entErr (enF n P V R K B) j = 0)) (fun i _ => n - (intOf i).toNat)
    case atStart => exact ⟨0, Nat.zero_le _, rfl, Below.refl _ _, Lib.hid (fun j hj => absurd hj (Nat.not_lt_zero _))⟩
    case round =>
      obtain ⟨k, hk, rfl, hb, HA⟩ := hrel
      have hBr := below_step hB hb
      have d1 := Below.cell_some hb z1
      by_cases hlt : k < n
      · have hkn : (k : Int) < (n : Int) := by omega
        have hen := idxEntry_calls ks A hks a n cap P V R K B Rv Kv k wr (hE.below hb) (H.out.below hBr) HS.out hlt
        by_cases h0 : entErr (enF n P V R K B) k = 0
        · have HN : Hid (∀ j, j < k + 1 → entErr (enF n P V R K B) j = 0) := Lib.hid (fun j hj => by
            by_cases e : j = k
            · subst e; exact h0
            · exact HA.out j (by omega))
          rw [h0, errV_zero] at hen
          clear h0
          replace hen := Lib.hid hen
          go_wp2_with fail
          refine hen.out.mono ?_
          rintro e w3 ⟨rfl, hb3⟩
          go_wp2_with fail
          go_roundw
          case rel => exact ⟨k + 1, by omega, by go_num, below_step hb hb3, HN⟩
          case measure => simp [intOf]; omega
        · have HF : Hid (idxErr (enF n P V R K B) = (entErr (enF n P V R K B) k, (k : Int))) := Lib.hid (by
            rw [HE1.out]; unfold orE; rw [firstE_hit h0 HA.out hlt, if_pos h0])
          have H0 := Lib.hid h0
          rw [errV_pos A h0] at hen
          clear h0
          replace hen := Lib.hid hen
          go_wp2_with fail
          refine hen.out.mono ?_
          rintro e w3 ⟨rfl, hb3⟩
          go_wp2_with fail
          go_ret
          rw [HF.out]
          refine ⟨⟨_, rfl, .inr (.inr ⟨H0.out, w3.heap.size, rfl, by simp, ?_⟩)⟩, (below_step hBr hb3).alloc (below_step hBr hb3).size _⟩
          rw [errV_pos A H0.out]
          simp
      · obtain rfl : n = k := by omega
        have HE2 : Hid (idxErr (enF n P V R K B) = firstE (lostE (enF n P V R K B)) n) := Lib.hid (by
          rw [HE1.out]; unfold orE; rw [firstE_none HA.out, if_neg (by decide)])
        have hE5 := hE.below hb
        clear HE1 HA hlt hk z1 hE hB hb
        go_wp2_with fail
        generalize wr = w5 at *
        go_loopw [29] (fun i wr => ∃ k : Nat, k ≤ n ∧ i = .int .i64 k ∧ Below w5.heap.size w5 wr ∧ Hid (∀ j, j < k → lostE (enF n P V R K B) j = 0)) (fun i _ => n - (intOf i).toNat)
        case atStart => exact ⟨0, Nat.zero_le _, rfl, Below.refl _ _, Lib.hid (fun j hj => absurd hj (Nat.not_lt_zero _))⟩
        case round =>
          obtain ⟨k, hk, rfl, hb, HA⟩ := hrel
          have hB6 := below_step hBr hb
          replace d1 := Below.cell_some hb d1
          by_cases hlt : k < n
          · have hkn : (k : Int) < (n : Int) := by omega
            obtain ⟨b1, o1, ea, hcell⟩ := (H.out.below hB6).at_ k hlt
            obtain ⟨a1, n1, s1, a2, n2, s2, e1, e2⟩ := H.out.forms hlt
            have hM := (H.out.below hB6).reqs k hlt
            have hsR := (HS.out.at_ hlt).2.2.2.1
            rw [e1, e2] at hcell
            rw [e1] at hM
            obtain ⟨aM, nM, cM, P2, V2, e3, e4, h5, h6, h7⟩ := hM
            injection e3 with e5 e6 e7
            subst e5 e6 e7
            have hnM : n1 ≤ 1000000 := by have := hsR.1; rw [e4, mdF_length] at this; exact this
            have hba := below_alloc wr (.cells #[.string (P k), .string (V k), .slice a1 n1 s1, .slice a2 n2 s2, .bool (B k)] 37)
            have y2 : (wr.alloc (.cells #[.string (P k), .string (V k), .slice a1 n1 s1, .slice a2 n2 s2, .bool (B k)] 37)).cell? ⟨wr.heap.size, 2, none⟩ = some (.slice a1 n1 s1) := by simp
            have hB7 := below_step hB6 hba
            have hb7 := below_step hb hba
            have hcm := containsMf_calls 105 #[.pointer (some ⟨w.heap.size, 0, none⟩)] Tryz.enters_icheck1 (lost (enF n P V R K B)) a1 n1 s1 (wr.alloc (.cells #[.string (P k), .string (V k), .slice a1 n1 s1, .slice a2 n2 s2, .bool (B k)] 37)).heap.size P2 V2 (wr.alloc (.cells #[.string (P k), .string (V k), .slice a1 n1 s1, .slice a2 n2 s2, .bool (B k)] 37)) hnM (Nat.le_refl _)
              (fun j hj => let ⟨b, o, e, h1, h2⟩ := h7 j hj; ⟨b, o, e, Below.cell_some hba h1, Below.cell_some hba h2⟩)
              (fun W hW j hj => idxCheck1_calls a n cap P V R K B Rv Kv w.heap.size (P2 j) (V2 j) W ((H.out.below hB7).below hW) hn (Below.cell_some hW (Below.cell_some hba d1)))
            have hR : lostE (enF n P V R K B) k = if (mdF n1 P2 V2).any (lost (enF n P V R K B)) = true then 5 else 0 := by
              unfold lostE
              rw [enAt_enF hlt]
              show (if (R k).any _ = true then 5 else 0) = _
              rw [e4]
            have hE7 := hE5.below hb7
            subst ea
            obtain ⟨c0, c1, c2, c3, c4⟩ := hcell
            clear e1 e2 e4 h5 h6 h7 hsR hnM hB6
            cases hX : (mdF n1 P2 V2).any (lost (enF n P V R K B)) with
            | false =>
              rw [hX] at hcm
              rw [hX, if_neg (by decide)] at hR
              have HN : Hid (∀ j, j < k + 1 → lostE (enF n P V R K B) j = 0) := Lib.hid (fun j hj => by
                by_cases e : j = k
                · subst e; exact hR
                · exact HA.out j (by omega))
              clear hX hR
              replace hcm := Lib.hid hcm
              go_wp2_with fail
              refine hcm.out.mono ?_
              rintro e w8 ⟨rfl, hb8⟩
              go_wp2_with fail
              go_roundw
              case rel => exact ⟨k + 1, by omega, by go_num, below_step hb7 hb8, HN⟩
              case measure => simp [intOf]; omega
            | true =>
              rw [hX] at hcm
              rw [hX, if_pos rfl] at hR
              have HF : Hid (idxErr (enF n P V R K B) = (5, (k : Int))) := Lib.hid (by
                rw [HE2.out, firstE_hit (by rw [hR]; decide) HA.out hlt, hR])
              clear hX hR
              replace hcm := Lib.hid hcm
              go_wp2_with fail
              refine hcm.out.mono ?_
              rintro e w8 ⟨rfl, hb8⟩
              have hE8 := hE7.below hb8
              have g5 := hE8.errs.var 5 hks.2.2.1
              simp only [errG] at g5
              go_wp2_with fail
              go_ret
              rw [HF.out]
              refine ⟨⟨_, rfl, .inr (.inr ⟨(show (5 : Nat) ≠ 0 by decide), w8.heap.size, rfl, by simp, ?_⟩)⟩, (below_step hB7 hb8).alloc (below_step hB7 hb8).size _⟩
              show _ = some (errV A 5)
              rw [errV_pos A (show (5 : Nat) ≠ 0 by decide)]
              simp
          · obtain rfl : n = k := by omega
            have HF : Hid (idxErr (enF n P V R K B) = (0, -1)) := Lib.hid (by rw [HE2.out, firstE_none HA.out])
            go_wp2_with fail
            go_ret
            rw [HF.out]
            exact ⟨⟨_, rfl, .inl ⟨rfl, rfl, rfl⟩⟩, hB6⟩
end Go.Proofs.Pw

namespace Go.Proofs.Pw
open Go.RowKit
open Go.Lib hiding intOf
end Go.Proofs.Pw

namespace Go.Proofs.Pw
open Go.RowKit
open Go.Lib hiding intOf
theorem aboveB_no {sel : List Md} {m : Md} (h : findI (hasP m.1) sel < 0) : aboveB sel m = false := by
  unfold aboveB
  rw [decide_eq_false (by omega), Bool.false_and]
theorem aboveB_at {sel : List Md} {m : Md} {k : Nat} (h : findI (hasP m.1) sel = k) : aboveB sel m = (decide ((mdAt sel k).2 = noneS) || verLess (mdAt sel k).2 m.2) := by
  unfold aboveB
  rw [h, decide_eq_true (by omega), Bool.true_and, show ((k : Nat) : Int).toNat = k from rfl]
set_option maxHeartbeats 1000000 in
set_option maxRecDepth 100000 in
theorem above_calls (ks : List Nat) (A : Nat → Addr) (v : Value) (l : List Md) (p q : ByteArray) (w : World) (hE : EnvP ks A w) (h : ModsAt w v l) (hl : l.length ≤ 1000000) (hs : ∀ m ∈ l, m.2.length ≤ 1000000000) (hq : q.size ≤ 1000000000) :
    Calls Tryz.prog 96 #[v, .agg #[.string p, .string q]] w fun e w' => e = .returned (.bool (aboveB l (p.data.toList, q.data.toList))) ∧ Below w.heap.size w w' := by
  have hb := below_alloc w (.cells #[.string p, .string q] 29)
  have hz := box2_alloc w (.string p) (.string q) 29
  have hE1 := hE.below hb
  have hf := modFind_calls v l p (w.alloc (.cells #[.string p, .string q] 29)) (h.below hb) hl
  have hno := aboveB_no (sel := l) (m := (p.data.toList, q.data.toList))
  have hat := fun k => aboveB_at (sel := l) (m := (p.data.toList, q.data.toList)) (k := k)
  unfold hasP at hno hat
  simp only at hno hat
  have hsp := fun k => @findI_spec _ (fun m : Md => decide (m.1 = p.data.toList)) l k
  generalize findI (fun m : Md => decide (m.1 = p.data.toList)) l = x at hf hno hat hsp
  obtain ⟨a, n, cap, P, V, rfl, rfl, hnc, hcap, hc⟩ := h
  replace hf := Lib.hid hf
  by_cases hx : x < 0
  · have HR := Lib.hid (hno hx)
    clear hno hat hsp hc hs
    go_enter Tryz.func96, Tryz.ntmps96
    go_wp2_with fail
    refine hf.out.mono ?_
    rintro e w1 ⟨rfl, hb1⟩
    have hB := below_step hb hb1
    clear hb1 hb hf hz
    go_wp2_with fail
    have hx1 : decide (0 ≤ x) = false := decide_eq_false (by omega)
    have hx2 : decide (x ≥ 0) = false := decide_eq_false (by omega)
    refine wp_region_quiet_patch (by kernel_rfl) (by kernel_rfl) ?_
    repeat (go_big_quiet_step (fail))
    refine wpQuiet_nil ?_
    intro _ hw'
    obtain ⟨⟨dq, osq⟩, hw''⟩ := hw'
    subst hw''
    have hb := below_patch w1 dq osq
    replace hB := below_step hB hb
    clear hb
    generalize patch w1 dq osq = w2 at hB ⊢
    clear hx1 hx2
    go_wp2_with fail
    go_ret
    rw [HR.out]
    exact ⟨rfl, hB⟩
  · obtain ⟨k, rfl⟩ : ∃ k : Nat, x = k := ⟨x.toNat, by omega⟩
    obtain ⟨y, hy, hp⟩ := hsp k rfl
    have hkn : k < n := by have := (List.getElem?_eq_some_iff.1 hy).1; rwa [mdF_length] at this
    have hkz : (k : Int) < (n : Int) := by omega
    obtain ⟨b1, o1, rfl, c0, c1⟩ := hc k hkn
    have hR := hat k rfl
    rw [mdAt_mdF hkn] at hR
    have hVs := hs _ (List.mem_of_getElem? (mdF_get n P V k hkn))
    have hless := fun W hW => verLess_calls ks A (V k) q W hW (by rw [size_eq]; exact hVs) hq
    have HR := Lib.hid hR
    have hn0 : ((V k).toList == [110, 111, 110, 101]) = decide ((V k).data.toList = noneS) := by rw [toList_data, Bool.eq_iff_iff, beq_iff_eq, decide_eq_true_iff]; rfl
    generalize decide ((V k).data.toList = noneS) = N at HR hn0
    generalize verLess (V k).data.toList q.data.toList = D at hless HR
    replace hless := Lib.hid hless
    have hB := hb
    have d0 := Below.cell_some hb c0
    have d1 := Below.cell_some hb c1
    obtain ⟨y0, y1, _⟩ := hz
    clear hno hat hsp hc hs hR hVs hy hp c0 c1 hb hE
    cases N with
    | true =>
      go_enter Tryz.func96, Tryz.ntmps96
      go_wp2_with fail
      refine (hf.out).mono ?_
      rintro e w1 ⟨rfl, hb⟩
      replace hB := below_step hB hb
      replace hE1 := hE1.below hb
      replace d0 := Below.cell_some hb d0
      replace d1 := Below.cell_some hb d1
      replace y0 := Below.cell_some hb y0
      replace y1 := Below.cell_some hb y1
      clear hb
      go_wp2_with fail
      have hx1 : decide (0 ≤ (k : Int)) = true := decide_eq_true (by omega)
      have hx2 : decide ((k : Int) ≥ 0) = true := decide_eq_true (by omega)
      have kqd1 := fun d os => cell_patch (d := d) (os := os) d1
      have kqy1 := fun d os => cell_patch (d := d) (os := os) y1
      refine wp_region_quiet_patch (by kernel_rfl) (by kernel_rfl) ?_
      repeat (go_big_quiet_step (fail))
      refine wpQuiet_nil ?_
      intro _ hw'
      obtain ⟨⟨dq, osq⟩, hw''⟩ := hw'
      subst hw''
      clear kqd1 kqy1
      have hb := below_patch w1 dq osq
      replace hB := below_step hB hb
      clear hb
      generalize patch w1 dq osq = w2 at hB ⊢
      go_wp2_with fail
      go_ret
      rw [HR.out]
      exact ⟨rfl, hB⟩
    | false =>
      go_enter Tryz.func96, Tryz.ntmps96
      go_wp2_with fail
      refine (hf.out).mono ?_
      rintro e w1 ⟨rfl, hb⟩
      replace hB := below_step hB hb
      replace hE1 := hE1.below hb
      replace d0 := Below.cell_some hb d0
      replace d1 := Below.cell_some hb d1
      replace y0 := Below.cell_some hb y0
      replace y1 := Below.cell_some hb y1
      clear hb
      go_wp2_with fail
      have hx1 : decide (0 ≤ (k : Int)) = true := decide_eq_true (by omega)
      have hx2 : decide ((k : Int) ≥ 0) = true := decide_eq_true (by omega)
      have kE := Lib.hid (fun d os => hE1.below (below_patch w1 d os))
      have kqd1 := fun d os => cell_patch (d := d) (os := os) d1
      have kqy1 := fun d os => cell_patch (d := d) (os := os) y1
      refine wp_region_quiet_patch (by kernel_rfl) (by kernel_rfl) ?_
      repeat (go_big_quiet_step ((go_at_call 46; exact Calls.patch_of (hless.out _ (kE.out _ _)))))
      refine wpQuiet_nil ?_
      intro _ hw'
      obtain ⟨⟨dq, osq⟩, hw''⟩ := hw'
      subst hw''
      clear kqd1 kqy1
      have hb := below_patch w1 dq osq
      replace hB := below_step hB hb
      clear hb
      generalize patch w1 dq osq = w2 at hB ⊢
      go_wp2_with fail
      go_ret
      rw [HR.out]
      exact ⟨rfl, hB⟩
end Go.Proofs.Pw

namespace Go.Proofs.Pw
open Go.RowKit
open Go.Lib hiding intOf
theorem ownsRow_kept {w w' : World} {base e size n : Nat} {v : Value} {xs : List Value} (h : w.ownsRow base e size v n xs) (hb : Below w.heap.size w w') : w'.ownsRow base e size v n xs := by
  refine ⟨h.1, ?_⟩
  rcases h.2 with h2 | ⟨g, c, cur, h1, h2, h3, h4⟩
  · exact .inl h2
  · exact .inr ⟨g, c, cur, h1, h2, (hb.block g (Array.getElem?_eq_some_iff.1 h3).1).trans h3, h4⟩
theorem _root_.Go.World.ownsRow.below {w w' : World} {base e size n : Nat} {v : Value} {xs : List Value} (h : w.ownsRow base e size v n xs) (hb : Below w.heap.size w w') : w'.ownsRow base e size v n xs := ownsRow_kept h hb
theorem ownsRow_set {w : World} {base e k n b j : Nat} {v : Value} {xs : List Value} (h : w.ownsRow base e k v n xs) (hn : v.ownBlock ≠ some b) (u : Value) : (w.setCell ⟨b, j, none⟩ u).ownsRow base e k v n xs := by
  refine ⟨h.1, ?_⟩
  rcases h.2 with h2 | ⟨g, c, cur, rfl, h2, h3, h4⟩
  · exact .inl h2
  · have hg : g ≠ b := fun e => hn (by rw [e]; rfl)
    exact .inr ⟨g, c, cur, rfl, h2, (Go.Deep.blk_setCell_other _ _ _ _ hg).trans h3, h4⟩
theorem cell_two_new (w : World) (x y : ByteArray) (t : TypeId) : ∀ j u, ([.string x, .string y] : List Value)[j]? = some u → (w.alloc (.cells #[.string x, .string y] t)).cell? ((⟨w.heap.size, 0, none⟩ : Addr).add j) = some u :=
  World.news_of_block (cs := #[.string x, .string y]) (Go.Deep.blk_alloc_new w _)
theorem mdVs_snoc (l : List (ByteArray × ByteArray)) (x y : ByteArray) : mdVs l ++ [.string x, .string y] = mdVs (l ++ [(x, y)]) := by rw [mdVs_append]; rfl
theorem apart_row {u o : Value} (h : ∀ b, o.ownBlock = some b → u.ownBlock ≠ some b) : u.ownBlock = none ∨ u.ownBlock ≠ o.ownBlock := by
  by_cases hu : u.ownBlock = none
  · exact .inl hu
  · refine .inr (fun e => ?_)
    cases ho : o.ownBlock with
    | none => exact hu (e.trans ho)
    | some b => exact h b ho (e.trans ho)
theorem own_form {w : World} {base e k n : Nat} {v : Value} {xs : List Value} (h : w.ownsRow base e k v n xs) : ∃ a m c, v = .slice a m c := by
  rcases h.2 with ⟨rfl, _⟩ | ⟨g, cap, cur, rfl, _⟩
  · exact ⟨_, _, _, rfl⟩
  · exact ⟨_, _, _, rfl⟩
theorem own_ne {w : World} {base e k n b : Nat} {v : Value} {xs : List Value} (h : w.ownsRow base e k v n xs) (hb : b < base) : v.ownBlock ≠ some b := fun e => by
  have := (h.lt b e).1
  omega
theorem fault_form {A : Nat → Addr} {w : World} {v : Value} {r : Nat × Int} (h : FaultAt A w v r) : (r.1 = 0 ∧ v = .nilIface) ∨ (r.1 ≠ 0 ∧ ∃ t q, v = .iface t (.pointer q)) := by
  rcases h with h | h | ⟨h, b, rfl, _⟩
  · exact .inl ⟨h.1, h.2.2⟩
  · refine .inr ⟨h.1, ?_⟩
    rw [h.2.2, errV_pos A h.1]; exact ⟨_, _, rfl⟩
  · exact .inr ⟨h, _, _, rfl⟩
theorem ModsAt.cells {w : World} {v : Value} {l : List Md} (h : ModsAt w v l) : ∃ a c P V, v = .slice a l.length c ∧ l = mdF l.length P V ∧ ∀ j, j < l.length → ∃ b o, a = some ⟨b, o, none⟩ ∧ w.cell? ⟨b, o + j * 2, none⟩ = some (.string (P j)) ∧ w.cell? ⟨b, o + j * 2 + 1, none⟩ = some (.string (V j)) := by
  obtain ⟨a, n, cap, P, V, rfl, rfl, h3, h4, h5⟩ := h
  rw [mdF_length]
  exact ⟨a, cap, P, V, rfl, rfl, h5⟩
theorem ModsAt.cell {w : World} {v : Value} {l : List Md} {k : Nat} {p q : ByteArray} (h : ModsAt w v l) (hk : l[k]? = some (p.data.toList, q.data.toList)) : ∃ b o c, v = .slice (some ⟨b, o, none⟩) l.length c ∧ k < l.length ∧ w.cell? ⟨b, o + k * 2, none⟩ = some (.string p) ∧ w.cell? ⟨b, o + k * 2 + 1, none⟩ = some (.string q) := by
  obtain ⟨a, n, cap, P, V, rfl, rfl, h3, h4, h5⟩ := h
  have hl : k < n := by have := (List.getElem?_eq_some_iff.1 hk).1; rwa [mdF_length] at this
  obtain ⟨b, o, rfl, e1, e2⟩ := h5 k hl
  rw [mdF_get n P V k hl] at hk
  have := bytes_pair.1 (Option.some.inj hk)
  rw [this.1] at e1
  rw [this.2] at e2
  rw [mdF_length]
  exact ⟨b, o, cap, rfl, hl, e1, e2⟩
end Go.Proofs.Pw

namespace Go.Proofs.Pw
open Go.RowKit
open Go.Lib hiding intOf
set_option maxHeartbeats 4000000 in
set_option maxRecDepth 100000 in
theorem grStart_in (ks : List Nat) (A : Nat → Addr) (hks : IdxKs ks) (a : Option Addr) (n cap : Nat) (P V : Nat → ByteArray) (R : Nat → List Md) (K : Nat → List Str) (B : Nat → Bool) (Rv Kv : Nat → Value) (rv : Value) (roots : List Md) (w : World) (hE : EnvP ks A w) (h : EntsIn w a n cap P V R K B Rv Kv) (hs : ShortI (enF n P V R K B)) (hr : ModsAt w rv roots) (hl : roots.length ≤ 1000000) :
    Calls Tryz.prog 101 #[.slice a n cap, rv] w fun e w' => (∃ v, e = .returned v ∧ FaultAt A w' v (startErr (enF n P V R K B) roots)) ∧ Below w.heap.size w w' := by
  have hn : n ≤ 1000000 := by have := hs.len; rw [enF_length] at this; exact this
  have hck := idxCheck_in ks A hks a n cap P V R K B Rv Kv w hE h hs
  have HE : Hid (startErr (enF n P V R K B) roots = orE (idxErr (enF n P V R K B)) (firstE (rootE (enF n P V R K B) roots) roots.length)) := Lib.hid rfl
  have H := Lib.hid h
  clear h hs
  obtain ⟨ar, rn, rc, P2, V2, rfl, rfl, h5, h6, h7⟩ := hr
  rw [mdF_length] at hl HE
  replace hck := Lib.hid hck
  replace h7 := Lib.hid h7
  clear h5 h6
  go_enter Tryz.func101, Tryz.ntmps101
  go_wp2_with fail
  refine hck.out.mono ?_
  rintro e w1 ⟨⟨v, rfl, hv⟩, hB⟩
  have hE1 := hE.below hB
  clear hck hE
  rcases fault_form hv with ⟨h0, rfl⟩ | ⟨h0, ty, q, rfl⟩
  · have HE1 : Hid (startErr (enF n P V R K B) (mdF rn P2 V2) = firstE (rootE (enF n P V R K B) (mdF rn P2 V2)) rn) := Lib.hid (by rw [HE.out]; unfold orE; rw [if_neg (by simp [h0])])
    clear HE h0 hv
    go_wp2_with fail
    go_loopw [15] (fun i wr => ∃ k : Nat, k ≤ rn ∧ i = .int .i64 k ∧ Below w1.heap.size w1 wr ∧ Hid (∀ j, j < k → rootE (enF n P V R K B) (mdF rn P2 V2) j = 0)) (fun i _ => rn - (intOf i).toNat)
    case atStart => exact ⟨0, Nat.zero_le _, rfl, Below.refl _ _, Lib.hid (fun j hj => absurd hj (Nat.not_lt_zero _))⟩
    case round =>
      obtain ⟨k, hk, rfl, hb, HA⟩ := hrel
      have hBr := below_step hB hb
      by_cases hlt : k < rn
      · have hkn : (k : Int) < (rn : Int) := by omega
        obtain ⟨b1, o1, ea, c0, c1⟩ := h7.out k hlt
        replace c0 := Below.cell_some hBr c0
        replace c1 := Below.cell_some hBr c1
        have hba := below_alloc wr (.cells #[.string (P2 k), .string (V2 k)] 29)
        obtain ⟨y0, y1, _⟩ := box2_alloc wr (.string (P2 k)) (.string (V2 k)) 29
        have hB2 := below_step hBr hba
        have hb2 := below_step hb hba
        have hE2 := hE1.below hb2
        have hf := idxFind_in a n cap P V R K B Rv Kv (P2 k) (V2 k) (wr.alloc (.cells #[.string (P2 k), .string (V2 k)] 29)) (H.out.below hB2) hn
        have hR : rootE (enF n P V R K B) (mdF rn P2 V2) k = if findE (enF n P V R K B) ((P2 k).data.toList, (V2 k).data.toList) < 0 then 5 else 0 := by
          unfold rootE
          rw [mdAt_mdF hlt]
        generalize findE (enF n P V R K B) ((P2 k).data.toList, (V2 k).data.toList) = x at hf hR
        subst ea
        replace hf := Lib.hid hf
        by_cases hx : x < 0
        · rw [if_pos hx] at hR
          have HF : Hid (startErr (enF n P V R K B) (mdF rn P2 V2) = (5, (k : Int))) := Lib.hid (by rw [HE1.out, firstE_hit (by rw [hR]; decide) HA.out hlt, hR])
          clear hR hk
          go_wp2_with fail
          refine hf.out.mono ?_
          rintro e w8 ⟨rfl, hb8⟩
          have hE8 := hE2.below hb8
          have g5 := hE8.errs.var 5 hks.2.2.1
          simp only [errG] at g5
          go_wp2_with fail
          go_ret
          rw [HF.out]
          refine ⟨⟨_, rfl, .inr (.inr ⟨(show (5 : Nat) ≠ 0 by decide), w8.heap.size, rfl, by simp, ?_⟩)⟩, (below_step hB2 hb8).alloc (below_step hB2 hb8).size _⟩
          show _ = some (errV A 5)
          rw [errV_pos A (show (5 : Nat) ≠ 0 by decide)]
          simp
        · rw [if_neg hx] at hR
          have HN : Hid (∀ j, j < k + 1 → rootE (enF n P V R K B) (mdF rn P2 V2) j = 0) := Lib.hid (fun j hj => by
            by_cases e : j = k
            · subst e; exact hR
            · exact HA.out j (by omega))
          clear hR hk
          go_wp2_with fail
          refine hf.out.mono ?_
          rintro e w8 ⟨rfl, hb8⟩
          go_wp2_with fail
          go_roundw
          case rel => exact ⟨k + 1, by omega, by go_num, below_step hb2 hb8, HN⟩
          case measure => simp [intOf]; omega
      · obtain rfl : rn = k := by omega
        have HF : Hid (startErr (enF n P V R K B) (mdF rn P2 V2) = (0, -1)) := Lib.hid (by rw [HE1.out, firstE_none HA.out])
        go_wp2_with fail
        go_ret
        rw [HF.out]
        exact ⟨⟨_, rfl, .inl ⟨rfl, rfl, rfl⟩⟩, hBr⟩
  · have HF : Hid (startErr (enF n P V R K B) (mdF rn P2 V2) = idxErr (enF n P V R K B)) := Lib.hid (by rw [HE.out]; unfold orE; rw [if_pos h0])
    have HV := Lib.hid hv
    clear hv h0
    go_wp2_with fail
    go_ret
    rw [HF.out]
    exact ⟨⟨_, rfl, HV.out⟩, hB⟩
end Go.Proofs.Pw
