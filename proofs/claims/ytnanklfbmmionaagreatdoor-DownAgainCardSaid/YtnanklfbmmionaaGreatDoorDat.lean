/- Da: walks and plain laws, joined: GrWalk Box DnLower ModCmpD. Conditions: at each theorem. -/
import Derived.Test.YtnanklfbmmionaaGreatDoorDas
import Derived.Test.YtnanklfbmmionaaGreatDoorDah
import Derived.Deep.RegionWith
import Derived.Test.YtnanklfbmmionaaGreatDoorDae
import Derived.Test.YtnanklfbmmionaaGreatDoorDaf
import Derived.Test.YtnanklfbmmionaaGreatDoorDap
import Derived.Test.YtnanklfbmmionaaGreatDoorDar
import Derived.Test.YtnanklfbmmionaaGreatDoorDab
import Derived.Test.YtnanklfbmmionaaGreatDoorDad

namespace Go.Proofs.Pw
open Go.RowKit
open Go.Lib hiding intOf
def mbT (m : MB) : Md := (m.1.data.toList, m.2.data.toList)
theorem mbT_inj {a b : MB} : mbT a = mbT b ↔ a = b := by
  refine ⟨fun h => ?_, fun h => by rw [h]⟩
  unfold mbT at h
  rw [Prod.mk.injEq] at h
  exact Prod.ext (bytes_eq.1 h.1) (bytes_eq.1 h.2)
def cameOf (S : List (MB × MB)) : Came := S.map fun p => (mbT p.1, mbT p.2)
theorem cameOf_length (S : List (MB × MB)) : (cameOf S).length = S.length := by simp [cameOf]
theorem cameOf_mem {S : List (MB × MB)} {m : MB} : mbT m ∈ (cameOf S).map (·.1) ↔ m ∈ S.map (·.1) := by
  unfold cameOf
  rw [List.map_map]
  constructor
  · intro h
    obtain ⟨p, hp, e⟩ := List.mem_map.1 h
    exact List.mem_map.2 ⟨p, hp, mbT_inj.1 e⟩
  · intro h
    obtain ⟨p, hp, e⟩ := List.mem_map.1 h
    exact List.mem_map.2 ⟨p, hp, by show mbT p.1 = _; rw [e]⟩
theorem mapF_isSome {S : List (MB × MB)} {m : MB} : (mapF S m).isSome = true ↔ m ∈ S.map (·.1) := by
  constructor
  · intro h
    by_cases h2 : m ∈ S.map (·.1)
    · exact h2
    · rw [mapF_none.2 h2] at h; cases h
  · intro h
    cases h2 : mapF S m with
    | none => exact absurd h (mapF_none.1 h2)
    | some f => rfl
theorem cameOf_come (S : List (MB × MB)) (m f : MB) : cameOf (comeB S m f) = comeS (cameOf S) (mbT m) (mbT f) := by
  unfold comeB comeS
  by_cases h : m ∈ S.map (·.1)
  · rw [if_pos (mapF_isSome.2 h), if_pos (cameOf_mem.2 h)]
  · rw [if_neg (fun h2 => h (mapF_isSome.1 h2)), if_neg (fun h2 => h (cameOf_mem.1 h2))]
    simp [cameOf]
theorem comeAll_len (f : Md) : ∀ (l : List Md) (S : Came), (comeAll S f l).length ≤ S.length + l.length
  | [], S => by simp [comeAll]
  | m :: l, S => by
    rw [comeAll_cons]
    have h := comeAll_len f l (comeS S m f)
    have h2 : (comeS S m f).length ≤ S.length + 1 := by unfold comeS; split <;> simp
    rw [List.length_cons]; omega
theorem cell_new1 (w : World) (v : Value) (t : TypeId) {N : Nat} (h : w.heap.size = N) : (w.alloc (.cells #[v] t)).cell? ⟨N, 0, none⟩ = some v ∧ ∀ i, (w.alloc (.cells #[v] t)).frozen? ⟨N, i, none⟩ = false := by
  subst h
  exact ⟨by simp, fun i => by simp⟩
theorem Going.drew {B : Nat} {w : World} {x : Value} {S : List (MB × MB)} (h : Going B w x S) : Going B w.drew x S := h.below (Below.refl _ w).drew
theorem Going.row {B : Nat} {w : World} {x : Value} {S : List (MB × MB)} (h : Going B w x S) {i : Nat} (hi : i < S.length) :
    ∃ b o c P V, x = .slice (some ⟨b, o, none⟩) S.length c ∧ (P, V) = (S[i]).1 ∧ w.cell? ⟨b, o + i * 2, none⟩ = some (.string P) ∧ w.cell? ⟨b, o + i * 2 + 1, none⟩ = some (.string V) := by
  obtain ⟨a, n, cap, P, V, e1, e2, h3, h4, h5⟩ := modsAt_own h.own
  have hl : n = S.length := by have := congrArg List.length e2; rw [mdF_length] at this; rw [← this]; simp [mdTs]
  obtain ⟨b, o, rfl, c0, c1⟩ := h5 i (by omega)
  refine ⟨b, o, cap, P i, V i, by rw [e1, hl], ?_, c0, c1⟩
  have h6 := mdF_get n P V i (by omega)
  rw [← e2] at h6
  apply mbT_inj.1
  have h7 : (mdTs (S.map (·.1)))[i]? = some (mbT (S[i]).1) := by simp [mdTs, mbT, List.getElem?_eq_getElem hi]
  rw [h7] at h6
  exact (Option.some.inj h6).symm
theorem atS_came {S : List (MB × MB)} {i : Nat} (hi : i < S.length) : atS (cameOf S) i = mbT (S[i]).1 := by
  unfold atS cameOf
  rw [List.getD_eq_getElem?_getD, List.getElem?_map, List.getElem?_eq_getElem hi]
  rfl
set_option maxHeartbeats 4000000 in
set_option maxRecDepth 100000 in
theorem grWalk_in (a : Option Addr) (n cap : Nat) (P V : Nat → ByteArray) (R : Nat → List Md) (K : Nat → List Str) (Bk : Nat → Bool) (Rv Kv : Nat → Value) (rv : Value) (roots : List Md) (w : World) (h : EntsIn w a n cap P V R K Bk Rv Kv) (hr : ModsAt w rv roots) (hl : roots.length ≤ 100000) (hn : n ≤ 1000) (hR : ∀ j, j < n → (R j).length ≤ 1000) (hG : RightG (enF n P V R K Bk) roots) :
    Calls Tryz.prog 102 #[.slice a n cap, rv] w fun e w' => (∃ x S, e = .returned (.tuple #[x, .map (some w.heap.size)]) ∧ Going w.heap.size w' x S ∧ cameOf S = walkS (enF n P V R K Bk) roots) ∧ Below w.heap.size w w' := by
  obtain ⟨ar, rn, rc, P2, V2, rfl, rfl, h5, h6, h7⟩ := hr
  rw [mdF_length] at hl
  have hb1 := below_alloc w (.map #[] 0)
  have hb2 := below_alloc (w.alloc (.map #[] 0)) (.cells #[.map (some w.heap.size)] 147)
  have hb3 := below_alloc ((w.alloc (.map #[] 0)).alloc (.cells #[.map (some w.heap.size)] 147)) (.cells #[.slice none 0 0] 23)
  have hB := below_step (below_step hb1 hb2) hb3
  have hGo : Going w.heap.size (((w.alloc (.map #[] 0)).alloc (.cells #[.map (some w.heap.size)] 147)).alloc (.cells #[.slice none 0 0] 23)) (.slice none 0 0) [] := by
    refine ⟨?_, ?_, fun i => ?_, World.ownsRow_nil _ _ _ _, ((mapIs_made w).below hb2).below hb3⟩
    · have := Below.cell_some hb3 (cell_new1 (w.alloc (.map #[] 0)) (.map (some w.heap.size)) 147 (N := w.heap.size + 1) (by simp)).1
      exact this
    · exact (cell_new1 _ (.slice none 0 0) 23 (N := w.heap.size + 2) (by simp)).1
    · exact (cell_new1 _ (.slice none 0 0) 23 (N := w.heap.size + 2) (by simp)).2 i
  have H := Lib.hid h
  have HG := Lib.hid hG
  have hRR := Lib.hid hR
  replace h7 := Lib.hid h7
  clear h hG hb1 hb2 hb3 h5 h6 hR
  have hmk := fun W => run_makeMap (P := Tryz.prog) 147 W
  go_enter Tryz.func102, Tryz.ntmps102
  go_wp2_with fail
  generalize hw1 : ((w.alloc (.map #[] 0)).alloc (.cells #[.map (some w.heap.size)] 147)).alloc (.cells #[.slice none 0 0] 23) = w1 at *
  clear hw1
  go_loopw [18] (fun i wr => ∃ k : Nat, k ≤ rn ∧ i = .int .i64 k ∧ ∃ x S, Hid (Going w.heap.size wr x S) ∧ Below w.heap.size w wr ∧ Hid (cameOf S = comeAll [] noMd ((mdF rn P2 V2).take k))) (fun i _ => rn - (intOf i).toNat)
  case atStart => exact ⟨0, Nat.zero_le _, rfl, _, [], Lib.hid hGo, hB, Lib.hid rfl⟩
  case round =>
    obtain ⟨k, hk, rfl, x, S, hGo, hBr, hC⟩ := hrel
    by_cases hlt : k < rn
    · have hkn : (k : Int) < (rn : Int) := by omega
      obtain ⟨b1, o1, ea, c0, c1⟩ := h7.out k hlt
      replace c0 := hBr.cell (lt_of_cell c0) |>.trans c0
      replace c1 := hBr.cell (lt_of_cell c1) |>.trans c1
      have hba := below_alloc wr (.cells #[.string (P2 k), .string (V2 k)] 29)
      obtain ⟨y0, y1, _⟩ := box2_alloc wr (.string (P2 k)) (.string (V2 k)) 29
      have hSl : S.length ≤ 100000 := by
        have h1 := comeAll_len noMd ((mdF rn P2 V2).take k) []
        rw [← hC.out, cameOf_length, List.length_take, mdF_length] at h1
        simp at h1; omega
      have hcm := come_calls w.heap.size (P2 k) (V2 k) ⟨#[]⟩ ⟨#[]⟩ x S (wr.alloc (.cells #[.string (P2 k), .string (V2 k)] 29)) (hGo.out.below hba) (by omega)
      have hN : Hid (cameOf (comeB S (P2 k, V2 k) (⟨#[]⟩, ⟨#[]⟩)) = comeAll [] noMd ((mdF rn P2 V2).take (k + 1))) := Lib.hid (by
        rw [cameOf_come, hC.out, mdF_take_succ rn P2 V2 k hlt, comeAll_snoc]
        rfl)
      have hB2 : Below w.heap.size w (wr.alloc (.cells #[.string (P2 k), .string (V2 k)] 29)) := hBr.alloc hBr.size _
      subst ea
      replace hcm := Lib.hid hcm
      clear hC hba
      go_wp2_with fail
      refine hcm.out.mono ?_
      rintro e w3 ⟨rfl, ⟨x', hG'⟩, hb3⟩
      have hG' := Lib.hid hG'
      go_wp2_with fail
      go_roundw
      case rel => exact ⟨k + 1, by omega, by go_num, x', _, hG', hB2.trans hb3, hN⟩
      case measure => simp [intOf]; omega
    · obtain rfl : rn = k := by omega
      rw [mdF_take_all] at hC
      have hW := walked_start (l := enF n P V R K Bk) (roots := mdF rn P2 V2)
      rw [← hC.out] at hW
      have hrun : walkS (enF n P V R K Bk) (mdF rn P2 V2) = runS (enF n P V R K Bk) (n + 1) (cameOf S) 0 := by
        unfold walkS
        rw [enF_length, hC.out]
      have HW := Lib.hid hW
      have HR := Lib.hid hrun
      clear hW hrun hC hlt hk hB
      go_wp2_with fail
      go_loopw [11] (fun i wr => ∃ k : Nat, i = .int .i64 k ∧ ∃ x S, Hid (Going w.heap.size wr x S) ∧ Below w.heap.size w wr ∧ Hid (Walked (enF n P V R K Bk) (mdF rn P2 V2) (cameOf S) k ∧ k ≤ S.length ∧ ∃ m, walkS (enF n P V R K Bk) (mdF rn P2 V2) = runS (enF n P V R K Bk) m (cameOf S) k ∧ n < m + k)) (fun i _ => n - (intOf i).toNat)
      case atStart => exact ⟨0, rfl, x, S, hGo, hBr, Lib.hid ⟨HW.out, Nat.zero_le _, n + 1, HR.out, by omega⟩⟩
      case round =>
        clear hGo hBr HW HR
        obtain ⟨k, rfl, y, T, hGo, hBr, hI⟩ := hrel
        have hTl : T.length ≤ n := by
          have h1 := hI.out.1.len HG.out
          rw [cameOf_length, enF_length] at h1; exact h1
        have ct := hGo.out.ct
        have cm := hGo.out.cm
        by_cases hlt : k < T.length
        · have hkT : (k : Int) < (T.length : Int) := by omega
          obtain ⟨b4, o4, c4, P4, V4, ex, e4, d0, d1⟩ := hGo.out.row hlt
          subst ex
          have hat : atS (cameOf T) k = mbT (P4, V4) := by rw [atS_came hlt, e4]
          have hreach := hI.out.1.all _ (atS_mem (S := cameOf T) (i := k) (by rw [cameOf_length]; exact hlt))
          obtain ⟨en, hen, hem⟩ := HG.out.entry hreach
          have hnf : ¬ findE (enF n P V R K Bk) (mbT (P4, V4)) < 0 := fun h => findE_lt.1 h en hen (by rw [hem, hat])
          obtain ⟨i, hi, hil, him⟩ := findE_nat hnf
          rw [enF_length] at hil
          have hreq : reqsOf (enF n P V R K Bk) (atS (cameOf T) k) = R i := by
            unfold reqsOf
            rw [hat, hi]
            show (enAt _ i).reqs = _
            rw [enAt_enF hil]
          have hfi := idxFind_in a n cap P V R K Bk Rv Kv P4 V4 wr (H.out.below (hBr.mono (Nat.le_refl _))) (by omega)
          rw [show (P4.data.toList, V4.data.toList) = mbT (P4, V4) from rfl, hi] at hfi
          obtain ⟨b5, o5, ea, hcell⟩ := H.out.at_ i hil
          obtain ⟨a1, n1, s1, a2, n2, s2, e1, e2⟩ := H.out.forms hil
          have hM := H.out.reqs i hil
          have hRl := hRR.out i hil
          rw [e1, e2] at hcell
          rw [e1] at hM
          obtain ⟨aM, nM, cM, P5, V5, e3, e5, _, _, hcs⟩ := hM
          injection e3 with e6 e7 e8
          subst e6 e7 e8
          rw [e5, mdF_length] at hRl
          have hin : (i : Int) < (n : Int) := by omega
          have HReq := Lib.hid (hreq.trans e5)
          have HAt := Lib.hid hat
          subst ea
          have cr := hcell.c2
          replace cr := (hBr.cell (lt_of_cell cr)).trans cr
          have hcT : k < (cameOf T).length := by rw [cameOf_length]; exact hlt
          replace hfi := Lib.hid hfi
          replace hcs := Lib.hid hcs
          replace hcT := Lib.hid hcT
          clear hcell e1 e2 e5 e4 hreach hen hem hnf hi him hreq hat
          go_wp2_with fail
          refine hfi.out.mono ?_
          rintro e w3 ⟨rfl, hb3⟩
          have hGo3 := Lib.hid (hGo.out.below hb3)
          replace cr := Below.cell_some hb3 cr
          have hB3 := below_step hBr hb3
          clear hGo hBr hb3 ct cm d0 d1 hfi
          go_wp2_with fail
          go_loopw [44] (fun j wq => ∃ q : Nat, q ≤ n1 ∧ j = .int .i64 q ∧ ∃ y2 S2, Hid (Going w.heap.size wq y2 S2) ∧ Below w.heap.size w wq ∧ Hid (cameOf S2 = comeAll (cameOf T) (mbT (P4, V4)) ((mdF n1 P5 V5).take q))) (fun j _ => n1 - (intOf j).toNat)
          case atStart => exact ⟨0, Nat.zero_le _, rfl, _, T, hGo3, hB3, Lib.hid rfl⟩
          case round =>
            clear hGo3 hB3 cr
            obtain ⟨q, hq, rfl, y2, S2, hGo2, hB2, hC2⟩ := hrel
            have hpre : cameOf T <+: cameOf S2 := by rw [hC2.out]; exact comeAll_pre _ _ _
            have hk2 : k < S2.length := by
              have := hpre.length_le
              rw [cameOf_length, cameOf_length] at this; omega
            by_cases hq2 : q < n1
            · have hqn : (q : Int) < (n1 : Int) := by omega
              obtain ⟨b6, o6, ea6, r0, r1⟩ := hcs.out q hq2
              replace r0 := (hB2.cell (lt_of_cell r0)).trans r0
              replace r1 := (hB2.cell (lt_of_cell r1)).trans r1
              obtain ⟨b7, o7, c7, P7, V7, ey2, e7, g0, g1⟩ := hGo2.out.row hk2
              have e8 : (P7, V7) = (P4, V4) := by
                apply mbT_inj.1
                rw [e7, ← atS_came hk2, atS_pre hpre hcT.out, HAt.out]
              injection e8 with e9 e10
              subst e9 e10 ey2
              have hkS : (k : Int) < (S2.length : Int) := by omega
              have hS2l : S2.length ≤ 100000 := by
                have h1 := comeAll_len (mbT (P7, V7)) ((mdF n1 P5 V5).take q) (cameOf T)
                rw [← hC2.out, cameOf_length, cameOf_length, List.length_take, mdF_length] at h1
                omega
              have hba := below_alloc wr (.cells #[.string (P5 q), .string (V5 q)] 29)
              obtain ⟨y0, y1, _⟩ := box2_alloc wr (.string (P5 q)) (.string (V5 q)) 29
              have hcm := fun W (h : Going w.heap.size W (.slice (some ⟨b7, o7, none⟩) S2.length c7) S2) => come_calls w.heap.size (P5 q) (V5 q) P7 V7 (.slice (some ⟨b7, o7, none⟩) S2.length c7) S2 W h (by omega)
              have hN : Hid (cameOf (comeB S2 (P5 q, V5 q) (P7, V7)) = comeAll (cameOf T) (mbT (P7, V7)) ((mdF n1 P5 V5).take (q + 1))) := Lib.hid (by
                rw [cameOf_come, hC2.out, mdF_take_succ n1 P5 V5 q hq2, comeAll_snoc]
                rfl)
              have hGa := hGo2.out.below hba
              have hBa : Below w.heap.size w (wr.alloc (.cells #[.string (P5 q), .string (V5 q)] 29)) := hB2.alloc hB2.size _
              have ct := hGa.ct
              replace g0 := Below.cell_some hba g0
              replace g1 := Below.cell_some hba g1
              subst ea6
              replace hcm := Lib.hid hcm
              have HGa := Lib.hid hGa
              clear hC2 hba e7 hpre hGo2 hB2 hGa hS2l hk2
              go_wp2_with fail
              generalize wr.alloc (.cells #[.string (P5 q), .string (V5 q)] 29) = wx at *
              go_region_with (go_at_call 162; refine (hcm.out _ ?_).mono ?_; exact HGa.out.drew; rintro e w5 ⟨rfl, ⟨y5, hG5⟩, hb5⟩)
              all_goals
                go_wp2_with fail
                have HG5 := Lib.hid hG5
                go_roundw
                case rel => exact ⟨q + 1, by omega, by go_num, y5, _, HG5, hBa.drew.trans hb5, hN⟩
                case measure => simp [intOf]; omega
            · obtain rfl : n1 = q := by omega
              rw [mdF_take_all] at hC2
              have hst : cameOf S2 = stepS (enF n P V R K Bk) (cameOf T) k := by
                unfold stepS
                rw [hC2.out, HAt.out, ← HReq.out, HAt.out]
              have hI2 : Hid (Walked (enF n P V R K Bk) (mdF rn P2 V2) (cameOf S2) (k + 1) ∧ k + 1 ≤ S2.length ∧ ∃ m, walkS (enF n P V R K Bk) (mdF rn P2 V2) = runS (enF n P V R K Bk) m (cameOf S2) (k + 1) ∧ n < m + (k + 1)) := Lib.hid (by
                refine ⟨by rw [hst]; exact walked_step HG.out hI.out.1 hcT.out, hk2, ?_⟩
                obtain ⟨m, hm1, hm2⟩ := hI.out.2.2
                obtain ⟨m', rfl⟩ : ∃ m', m = m' + 1 := ⟨m - 1, by omega⟩
                refine ⟨m', ?_, by omega⟩
                rw [hm1, runS, if_pos hcT.out, hst])
              have hkn2 : k < n := by omega
              clear hC2 hst hpre hcs
              go_wp2_with fail
              go_roundw
              case rel => exact ⟨k + 1, by go_num, y2, S2, hGo2, hB2, hI2⟩
              case measure => simp [intOf]; omega
        · obtain ⟨ay, ny, cy, Py, Vy, ey, el, _⟩ := modsAt_own hGo.out.own
          have hny : ny = T.length := by have := congrArg List.length el; rw [mdF_length] at this; rw [← this]; simp [mdTs]
          subst ey
          have hTk : ¬ ((k : Int) < (ny : Int)) := by omega
          clear el hny
          have hfin : Hid (cameOf T = walkS (enF n P V R K Bk) (mdF rn P2 V2)) := Lib.hid (by
            obtain ⟨m, hm1, _⟩ := hI.out.2.2
            rw [hm1, runS_done m (by rw [cameOf_length]; omega)])
          have hGo1 := hGo.out
          clear hI hGo
          go_wp2_with fail
          have kqct := fun d os => cell_patch (d := d) (os := os) ct
          have kqcm := fun d os => cell_patch (d := d) (os := os) cm
          refine wp_region_quiet_patch (by kernel_rfl) (by kernel_rfl) ?_
          repeat (go_big_quiet_step (fail))
          refine wpQuiet_nil ?_
          intro _ hw'
          obtain ⟨⟨dq, osq⟩, hw''⟩ := hw'
          subst hw''
          clear kqct kqcm
          have hb := below_patch wr dq osq
          replace hGo1 := hGo1.below hb
          replace hBr := below_step hBr hb
          clear hb
          generalize patch wr dq osq = w9 at hGo1 hBr ⊢
          go_wp2_with fail
          go_ret2
          exact ⟨⟨_, T, rfl, hGo1, hfin.out⟩, hBr⟩
end Go.Proofs.Pw

namespace Go.Proofs.Pw
open Go.RowKit
open Go.Lib hiding intOf
theorem ModsAt.flt {w : World} {b : Nat} {v : Value} {l : List Md} {x y : Int} (hm : ModsAt w v l) (hb : Box2 w b (.int .i64 x) (.int .i64 y)) (u0 u1 : Value) : ModsAt ((w.setCell ⟨b, 0, none⟩ u0).setCell ⟨b, 1, none⟩ u1) v l := by
  have key : ∀ (q : Addr) (s : ByteArray), w.cell? q = some (.string s) → ((w.setCell ⟨b, 0, none⟩ u0).setCell ⟨b, 1, none⟩ u1).cell? q = some (.string s) := fun q s hq => by
    rw [World.cell?_setCell_other _ _ _ _ (fun e => by rw [← e, hb.c1] at hq; cases hq), World.cell?_setCell_other _ _ _ _ (fun e => by rw [← e, hb.c0] at hq; cases hq)]
    exact hq
  obtain ⟨a, n, cap, P, V, e, e2, h3, h4, h5⟩ := hm
  exact ⟨a, n, cap, P, V, e, e2, h3, h4, fun j hj => let ⟨b', o', e', c0, c1⟩ := h5 j hj; ⟨b', o', e', key _ _ c0, key _ _ c1⟩⟩
theorem Box2.sto {w : World} {b : Nat} {u0 u1 : Value} (h : Box2 w b u0 u1) (v0 v1 : Value) : Box2 ((w.setCell ⟨b, 0, none⟩ v0).setCell ⟨b, 1, none⟩ v1) b v0 v1 := ⟨by rw [set_off _ (by decide)]; exact set_same _ h.c0, set_same _ (by rw [set_off _ (by decide)]; exact h.c1), fun j => by simp [h.fr j]⟩
theorem below_sto2 {B : Nat} {w W : World} (h : Below B w W) {b : Nat} (hb : B ≤ b) (u0 u1 : Value) : Below B w ((W.setCell ⟨b, 0, none⟩ u0).setCell ⟨b, 1, none⟩ u1) := (h.setCell (p := ⟨b, 0, none⟩) hb u0).setCell (p := ⟨b, 1, none⟩) hb u1
theorem FaultAt.flt {A : Nat → Addr} {w : World} {b : Nat} {v : Value} {r : Nat × Int} {x y : Int} (h : FaultAt A w v r) (hb : Box2 w b (.int .i64 x) (.int .i64 y)) (u0 u1 : Value) : FaultAt A ((w.setCell ⟨b, 0, none⟩ u0).setCell ⟨b, 1, none⟩ u1) v r := by
  rcases h with h | h | ⟨h, c, h1, h2, h3⟩
  · exact .inl h
  · exact .inr (.inl h)
  · have hne : c ≠ b := fun e => by
      subst e
      rw [hb.c1, errV_pos A h] at h3
      cases h3
    exact .inr (.inr ⟨h, c, h1, by rw [set_blk _ hne, set_blk _ hne]; exact h2, by rw [set_blk _ hne, set_blk _ hne]; exact h3⟩)
end Go.Proofs.Pw

namespace Go.Proofs.Pw
open Go.RowKit
open Go.Lib hiding intOf
attribute [local go_sem] Oper.semAt_some
def okLow (l : List En) (M : Nat → Bool) (m : Md) (v : Str) : Bool := !verLess m.2 v && !M (findE l (m.1, v)).toNat
def lowF (l : List En) (M : Nat → Bool) (m : Md) : Option Str := (vsort (versL l m.1)).reverse.find? (okLow l M m)
theorem lstF_fin (n : Nat) (L : Nat → ByteArray) : lstF n L = (List.finRange n).map fun x => (L x.val).data.toList := by
  apply List.ext_getElem
  · simp [lstF]
  · intro i h1 h2
    simp [lstF]
theorem lowF_fin {l : List En} {M : Nat → Bool} {m : Md} {n : Nat} {L : Nat → ByteArray} (h : vsort (versL l m.1) = lstF n L) : lowF l M m = ((backTo n n).map fun x => (L x.val).data.toList).find? (okLow l M m) := by
  unfold lowF
  rw [h, lstF_fin, ← List.map_reverse, backTo_all]
theorem lowF_none {l : List En} {M : Nat → Bool} {m : Md} {n : Nat} {L : Nat → ByteArray} (h : vsort (versL l m.1) = lstF n L) (hA : ∀ x ∈ backTo n n, okLow l M m (L x.val).data.toList = false) : lowF l M m = none := by
  rw [lowF_fin h, List.find?_eq_none]
  intro y hy
  obtain ⟨x, hx, rfl⟩ := List.mem_map.1 hy
  rw [hA x hx]; decide
theorem lowF_some {l : List En} {M : Nat → Bool} {m : Md} {n : Nat} {L : Nat → ByteArray} (h : vsort (versL l m.1) = lstF n L) {k : Nat} {ini : List (Fin n)} {last : Fin n} (e : backTo n k = ini ++ [last]) (hA : ∀ x ∈ ini, okLow l M m (L x.val).data.toList = false) (hok : okLow l M m (L last.val).data.toList = true) : lowF l M m = some (L last.val).data.toList := by
  have h1 : backTo n n = ini ++ [last] ++ ((List.finRange n).reverse.drop k) := by
    rw [backTo_all, ← e]
    exact (List.take_append_drop k _).symm
  rw [lowF_fin h, h1, List.append_assoc, List.map_append, List.find?_append]
  have h2 : (ini.map fun x => (L x.val).data.toList).find? (okLow l M m) = none := by
    rw [List.find?_eq_none]
    intro y hy
    obtain ⟨x, hx, rfl⟩ := List.mem_map.1 hy
    rw [hA x hx]; decide
  rw [h2]
  simp [hok]
theorem keeps_below {w w' : World} (h : Below w.heap.size w w') : KeepsOthers w w' := ⟨h.size, fun i _ h1 _ => (h.block i (Array.getElem?_eq_some_iff.1 h1).1).trans h1⟩
theorem cell_blk {w : World} {a : Addr} {v : Value} (h : w.cell? a = some v) : a.block < w.heap.size := by
  rcases Nat.lt_or_ge a.block w.heap.size with h1 | h1
  · exact h1
  · have h2 : w.heap[a.block]? = none := by simp [h1]
    simp [World.cell?, h2] at h
set_option maxHeartbeats 8000000 in
set_option maxRecDepth 100000 in
theorem lower_in (ks : List Nat) (A : Nat → Addr) (a : Option Addr) (n cap : Nat) (P V : Nat → ByteArray) (R : Nat → List Md) (K : Nat → List Str) (Bk : Nat → Bool) (Rv Kv : Nat → Value) (g : Nat) (M : Nat → Bool) (p q : ByteArray) (w : World) (hE : EnvP ks A w) (h : EntsIn w a n cap P V R K Bk Rv Kv) (hs : ShortI (enF n P V R K Bk)) (hrow : MarkRow w g n M) (hq : q.size ≤ 1000000) :
    Calls Tryz.prog 92 #[.slice a n cap, .slice (some ⟨g, 0, none⟩) n n, .agg #[.string p, .string q]] w fun e w' => (∃ (v : ByteArray) (b : Bool), e = .returned (.tuple #[.agg #[.string (if b = true then p else ⟨#[]⟩), .string v], .bool b]) ∧ (if b = true then some v.data.toList else none) = lowF (enF n P V R K Bk) M (p.data.toList, q.data.toList)) ∧ Below w.heap.size w w' := by
  refine (callsIn_wide (n := 6)).1 ?_
  have hvs := fun W (hW : Below w.heap.size w W) => idxVersions_in ks A a n cap P V R K Bk Rv Kv p W (hE.below hW) (h.below hW) hs
  refine callsIn_of_wp_marks Tryz.func92 rfl trivial ?_ rfl
  simp only [Tryz.ntmps92, List.size_toArray, List.length_cons, List.length_nil, Nat.reduceAdd, Nat.reduceSub, Array.replicate_succ, Array.replicate_zero, List.push_toArray, List.append_toArray, List.nil_append, List.cons_append]
  have hB5 : Below w.heap.size w (((((w.alloc (.cells #[.slice a n cap] 22)).alloc (.cells #[.slice (some ⟨g, 0, none⟩) n n] 64)).alloc (.cells #[.string p, .string q] 29)).alloc (.cells #[.string ⟨#[]⟩, .string ⟨#[]⟩] 29)).alloc (.cells #[.bool false] 4)) := below_step (below_step (below_step (below_step (below_alloc _ _) (below_alloc _ _)) (below_alloc _ _)) (below_alloc _ _)) (below_alloc _ _)
  have z3 : (((((w.alloc (.cells #[.slice a n cap] 22)).alloc (.cells #[.slice (some ⟨g, 0, none⟩) n n] 64)).alloc (.cells #[.string p, .string q] 29)).alloc (.cells #[.string ⟨#[]⟩, .string ⟨#[]⟩] 29)).alloc (.cells #[.bool false] 4)).cell? ⟨w.heap.size, 0, none⟩ = some (.slice a n cap) := Below.cell_some (below_alloc _ _) (Below.cell_some (below_alloc _ _) (Below.cell_some (below_alloc _ _) (Below.cell_some (below_alloc _ _) (cell_new1 w (.slice a n cap) _ rfl).1)))
  have z4 : (((((w.alloc (.cells #[.slice a n cap] 22)).alloc (.cells #[.slice (some ⟨g, 0, none⟩) n n] 64)).alloc (.cells #[.string p, .string q] 29)).alloc (.cells #[.string ⟨#[]⟩, .string ⟨#[]⟩] 29)).alloc (.cells #[.bool false] 4)).cell? ⟨w.heap.size + 1, 0, none⟩ = some (.slice (some ⟨g, 0, none⟩) n n) := Below.cell_some (below_alloc _ _) (Below.cell_some (below_alloc _ _) (Below.cell_some (below_alloc _ _) (cell_new1 _ _ _ (by simp)).1))
  have z5 : Box2 (((((w.alloc (.cells #[.slice a n cap] 22)).alloc (.cells #[.slice (some ⟨g, 0, none⟩) n n] 64)).alloc (.cells #[.string p, .string q] 29)).alloc (.cells #[.string ⟨#[]⟩, .string ⟨#[]⟩] 29)).alloc (.cells #[.bool false] 4)) (w.heap.size + 1 + 1) (.string p) (.string q) := by
    have h5 := box2_alloc ((w.alloc (.cells #[.slice a n cap] 22)).alloc (.cells #[.slice (some ⟨g, 0, none⟩) n n] 64)) (.string p) (.string q) 29
    simp only [World.size_alloc] at h5
    exact (h5.below (below_alloc _ _)).below (below_alloc _ _)
  have z6 : Box2 (((((w.alloc (.cells #[.slice a n cap] 22)).alloc (.cells #[.slice (some ⟨g, 0, none⟩) n n] 64)).alloc (.cells #[.string p, .string q] 29)).alloc (.cells #[.string ⟨#[]⟩, .string ⟨#[]⟩] 29)).alloc (.cells #[.bool false] 4)) (w.heap.size + 1 + 1 + 1) (.string ⟨#[]⟩) (.string ⟨#[]⟩) := by
    have h5 := box2_alloc (((w.alloc (.cells #[.slice a n cap] 22)).alloc (.cells #[.slice (some ⟨g, 0, none⟩) n n] 64)).alloc (.cells #[.string p, .string q] 29)) (.string ⟨#[]⟩) (.string ⟨#[]⟩) 29
    simp only [World.size_alloc] at h5
    exact h5.below (below_alloc _ _)
  have z7 := cell_new1 ((((w.alloc (.cells #[.slice a n cap] 22)).alloc (.cells #[.slice (some ⟨g, 0, none⟩) n n] 64)).alloc (.cells #[.string p, .string q] 29)).alloc (.cells #[.string ⟨#[]⟩, .string ⟨#[]⟩] 29)) (.bool false) 4 (N := w.heap.size + 1 + 1 + 1 + 1) (by simp)
  have hb3 : w.heap.size < w.heap.size + 1 + 1 + 1 := by omega
  have hb7 : w.heap.size + 1 + 1 + 1 + 1 ≠ w.heap.size + 1 + 1 + 1 := by omega
  have hbl : w.heap.size ≤ w.heap.size + 1 + 1 + 1 ∧ w.heap.size ≤ w.heap.size + 1 + 1 + 1 + 1 := by omega
  have Hvs := Lib.hid hvs
  clear hvs
  gi_wp2
  generalize ((((w.alloc (.cells #[.slice a n cap] 22)).alloc (.cells #[.slice (some ⟨g, 0, none⟩) n n] 64)).alloc (.cells #[.string p, .string q] 29)).alloc (.cells #[.string ⟨#[]⟩, .string ⟨#[]⟩] 29)).alloc (.cells #[.bool false] 4) = w5 at *
  generalize w.heap.size + 1 + 1 + 1 + 1 = b7 at *
  generalize w.heap.size + 1 + 1 + 1 = b6 at *
  generalize w.heap.size + 1 + 1 = b5 at *
  generalize w.heap.size + 1 = b4 at *
  refine ⟨trivial, ?_⟩
  refine (callsIn_wide.2 (Hvs.out w5 hB5)).mono ?_
  rintro e w6 ⟨⟨v, rfl, hv⟩, hb6⟩
  obtain ⟨av, nv, cv, L, rfl, hvl, _, _, hcv⟩ := hv
  have hB6 := below_step hB5 hb6
  gi_wp2
  refine ⟨trivial, ?_⟩
  refine (back_in Fence.wide _ trivial rfl _ _ _ _).mono ?_
  rintro e w7' ⟨rfl, rfl⟩
  gi_wp2
  have hba := below_alloc w6 (.cells #[.slice av nv cv] 35)
  have hb8 := cell_new1 w6 (.slice av nv cv) 35 rfl
  have hsz : (w6.alloc (.cells #[.slice av nv cv] 35)).heap.size = w6.heap.size + 1 := World.size_alloc _ _
  have hstr : StrsB (w6.heap.size + 1) (w6.alloc (.cells #[.slice av nv cv] 35)) av nv L := by
    by_cases h0 : nv = 0
    · exact .inl h0
    · obtain ⟨b, o, e, h1⟩ := hcv 0 (by omega)
      refine .inr ⟨b, o, e, by have := cell_blk h1; simp only at this; omega, fun j hj => ?_⟩
      obtain ⟨b', o', e', h1'⟩ := hcv j hj
      rw [e] at e'
      injection e' with e'
      injection e' with e1 e2
      subst e1 e2
      exact Below.cell_some hba h1'
  generalize w6.alloc (.cells #[.slice av nv cv] 35) = w7 at *
  obtain ⟨b8, hb8e⟩ : ∃ b8, w6.heap.size = b8 := ⟨_, rfl⟩
  rw [hb8e] at hb8 hsz hstr
  simp only [hb8e]
  have hB7 := below_step hB6 hba
  have hB57 := below_step hb6 hba
  have hvm : ∀ j, j < nv → (L j).data.toList ∈ versL (enF n P V R K Bk) p.data.toList := fun j hj => ((vsort_mem _ _).1 (by rw [hvl]; exact List.mem_of_getElem? (lstF_get nv L j hj))).1
  have hnv : nv ≤ 1000000 := by
    have h1 := vsort_len (versL (enF n P V R K Bk) p.data.toList)
    rw [hvl, lstF_length] at h1
    exact Nat.le_trans h1 (versL_size hs).1
  have HV : Hid (∀ x : Fin nv, (L x.val).size ≤ 1000000 ∧ ∃ k, k < n ∧ findE (enF n P V R K Bk) (p.data.toList, (L x.val).data.toList) = (k : Int)) := Lib.hid (fun x => by
    have h1 := hvm x.val x.isLt
    refine ⟨by rw [size_eq]; exact (versL_size hs).2 _ h1, ?_⟩
    obtain ⟨e, he, h2⟩ := versL_mem.1 h1
    have h3 : ¬ findE (enF n P V R K Bk) (p.data.toList, (L x.val).data.toList) < 0 := fun h => findE_lt.1 h e he h2
    obtain ⟨k, h4, h5, _⟩ := findE_nat h3
    rw [enF_length] at h5
    exact ⟨k, h5, h4⟩)
  have hn : n ≤ 1000000 := by have := hs.len; rwa [enF_length] at this
  have hmo : Tryz.prog.follows .mixedOrders = true := by kernel_rfl
  refine wpIn_rangeFunc_ownG (α := Fin nv) rfl (by omega) (gf := 211) (lb := #[.pointer (some ⟨b8, 0, none⟩)]) rfl trivial (enters_of Tryz.func211 (by kernel_rfl) rfl)
    (back_stops Fence.wide 5 trivial rfl (by omega) b8 (b8 + 1) av nv cv L hnv w7 (by omega) (by omega) (by omega) hb8.1 hstr) belowK_t (belowK_b (by omega)) (Below.refl _ _) (fun _ => rfl)
    (fun pre W => (∀ x ∈ pre, okLow (enF n P V R K Bk) M (p.data.toList, q.data.toList) (L x.val).data.toList = false) ∧ Below w7.heap.size w7 W)
    (fun c pre W => (c = .ret ∧ ∃ ini last, pre = ini ++ [last] ∧ (∀ x ∈ ini, okLow (enF n P V R K Bk) M (p.data.toList, q.data.toList) (L x.val).data.toList = false) ∧ okLow (enF n P V R K Bk) M (p.data.toList, q.data.toList) (L last.val).data.toList = true ∧ W.cell? ⟨b6, 0, none⟩ = some (.string p) ∧ W.cell? ⟨b6, 1, none⟩ = some (.string (L last.val)) ∧ W.cell? ⟨b7, 0, none⟩ = some (.bool true)) ∧ Below w.heap.size w W)
    (OwnFrom.and (Own.from (fun s A B row hs hg hr => hs) _) (ownFrom_below (Nat.le_refl _) (Nat.le_refl _)))
    (fun c => OwnFrom.and (Own.from (fun s A B row hs hg hr => by
      obtain ⟨hc, ini, last, e1, e2, e3, e4, e5, e6⟩ := hs
      exact ⟨hc, ini, last, e1, e2, e3, cell_kept e4 hg hr, cell_kept e5 hg hr, cell_kept e6 hg hr⟩) _) (ownFrom_below (Nat.le_refl _) hB7.size))
    ⟨fun x hx => absurd hx List.not_mem_nil, Below.refl _ _⟩ ?a1 ?assign ?body ?done ?stop
  case assign =>
    intro l x W K hK
    gi_wp2
    exact hK
  case body =>
    rintro l pre x W ⟨hA, hBW⟩ _
    have hBw := below_step hB57 hBW
    have x3 := Below.cell_some hBw z3
    have x4 := Below.cell_some hBw z4
    obtain ⟨x50, x51, _⟩ := z5.below hBw
    obtain ⟨hLs, k, hkn, hfk⟩ := HV.out x
    have hless := fun W' hE' => verLess_calls ks A q (L x.val) W' hE' (by omega) (by omega)
    have hfi := fun W' (hb : Below w.heap.size w W') => idxFind_in a n cap P V R K Bk Rv Kv p (L x.val) W' (h.below hb) hn
    rw [hfk] at hfi
    have hok : okLow (enF n P V R K Bk) M (p.data.toList, q.data.toList) (L x.val).data.toList = (!verLess q.data.toList (L x.val).data.toList && !M k) := by
      unfold okLow
      rw [hfk]; rfl
    have hba8 := below_alloc W (.cells #[.string p, .string (L x.val)] 29)
    obtain ⟨y0, y1, _⟩ := box2_alloc W (.string p) (.string (L x.val)) 29
    replace x3 := Below.cell_some hba8 x3
    replace x4 := Below.cell_some hba8 x4
    have x50q := Below.cell_some hba8 x50
    have x51q := Below.cell_some hba8 x51
    have hg0 := Below.cell_some (below_step (below_step hB7 hBW) hba8) (hrow.cell hkn)
    gi_wp2
    generalize W.alloc (.cells #[.string p, .string (L x.val)] 29) = w8 at *
    have hBx := hba8
    have hfn1 : Fence.wide.fn 46 := trivial
    have hfn2 : Fence.wide.fn 61 := trivial
    have kW := Lib.hid (fun d os => below_step (below_step hB7 (below_step hBW hba8)) (below_patch w8 d os))
    cases hl : verLess q.data.toList (L x.val).data.toList with
    | true =>
      rw [hl] at hless hok
      have kqx50q := fun d os => cell_patch (d := d) (os := os) x50q
      have kqx51q := fun d os => cell_patch (d := d) (os := os) x51q
      have kqy0 := fun d os => cell_patch (d := d) (os := os) y0
      have kqy1 := fun d os => cell_patch (d := d) (os := os) y1
      refine wpIn_region_quiet_round (by kernel_rfl) (by kernel_rfl) (by kernel_rfl) ?_
      repeat (gi_big_quiet_step ((gi_at_call 46; exact callsIn_wide.2 (Calls.patch_of (hless _ (hE.below (kW.out _ _)))))))
      refine wpQuietIn_nil ?_
      intro _ hw'
      obtain ⟨⟨dq, osq⟩, hw''⟩ := hw'
      subst hw''
      clear kqx50q kqx51q kqy0 kqy1
      have hb := below_patch w8 dq osq
      replace hBx := below_step hBx hb
      clear hb
      generalize patch w8 dq osq = w9 at hBx ⊢
      gi_wp2
      refine ⟨(keeps_below hBx).from _, hBx.mono (by have := hBW.size; omega), fun y hy => ?_, below_step hBW hBx⟩
      rcases List.mem_append.1 hy with hy | hy
      · exact hA y hy
      · rw [List.mem_singleton] at hy; subst hy; rw [hok]; rfl
    | false =>
      rw [hl] at hless hok
      cases hMk : M k with
      | true =>
        rw [hMk] at hok hg0
        have kqx50q := fun d os => cell_patch (d := d) (os := os) x50q
        have kqx51q := fun d os => cell_patch (d := d) (os := os) x51q
        have kqy0 := fun d os => cell_patch (d := d) (os := os) y0
        have kqy1 := fun d os => cell_patch (d := d) (os := os) y1
        have kqx3 := fun d os => cell_patch (d := d) (os := os) x3
        have kqx4 := fun d os => cell_patch (d := d) (os := os) x4
        have kqhg0 := fun d os => cell_patch (d := d) (os := os) hg0
        refine wpIn_region_quiet_round (by kernel_rfl) (by kernel_rfl) (by kernel_rfl) ?_
        repeat (gi_big_quiet_step (first | (gi_at_call 46; exact callsIn_wide.2 (Calls.patch_of (hless _ (hE.below (kW.out _ _))))) | (gi_at_call 61; exact callsIn_wide.2 (Calls.patch_of (hfi _ (kW.out _ _))))))
        refine wpQuietIn_nil ?_
        intro _ hw'
        obtain ⟨⟨dq, osq⟩, hw''⟩ := hw'
        subst hw''
        clear kqx50q kqx51q kqy0 kqy1 kqx3 kqx4 kqhg0
        have hb := below_patch w8 dq osq
        replace hBx := below_step hBx hb
        clear hb
        generalize patch w8 dq osq = w9 at hBx ⊢
        gi_wp2
        refine ⟨(keeps_below hBx).from _, hBx.mono (by have := hBW.size; omega), fun y hy => ?_, below_step hBW hBx⟩
        rcases List.mem_append.1 hy with hy | hy
        · exact hA y hy
        · rw [List.mem_singleton] at hy; subst hy; rw [hok]; rfl
      | false =>
        rw [hMk] at hok hg0
        have kqx50q := fun d os => cell_patch (d := d) (os := os) x50q
        have kqx51q := fun d os => cell_patch (d := d) (os := os) x51q
        have kqy0 := fun d os => cell_patch (d := d) (os := os) y0
        have kqy1 := fun d os => cell_patch (d := d) (os := os) y1
        have kqx3 := fun d os => cell_patch (d := d) (os := os) x3
        have kqx4 := fun d os => cell_patch (d := d) (os := os) x4
        have kqhg0 := fun d os => cell_patch (d := d) (os := os) hg0
        refine wpIn_region_quiet_round (by kernel_rfl) (by kernel_rfl) (by kernel_rfl) ?_
        repeat (gi_big_quiet_step (first | (gi_at_call 46; exact callsIn_wide.2 (Calls.patch_of (hless _ (hE.below (kW.out _ _))))) | (gi_at_call 61; exact callsIn_wide.2 (Calls.patch_of (hfi _ (kW.out _ _))))))
        refine wpQuietIn_nil ?_
        intro _ hw'
        obtain ⟨⟨dq, osq⟩, hw''⟩ := hw'
        subst hw''
        clear kqx50q kqx51q kqy0 kqy1 kqx3 kqx4 kqhg0
        have hb := below_patch w8 dq osq
        replace hBx := below_step hBx hb
        replace y0 := Below.cell_some hb y0
        replace y1 := Below.cell_some hb y1
        clear hb
        generalize patch w8 dq osq = w9 at hBx y0 y1 ⊢
        have hBz := below_step hBw hBx
        have q6 := z6.below hBz
        obtain ⟨c60, c61, f6⟩ := id q6
        have c70 := Below.cell_some hBz z7.1
        have f7 := (hBz.frozen (p := ⟨b7, 0, none⟩) (cell_blk z7.1)).trans (z7.2 0)
        gi_wp2
        have q6' := q6.sto (.string p) (.string (L x.val))
        refine ⟨((keeps_below hBx).trans ((KeepsOthers.setCell _ _ _).trans ((KeepsOthers.setCell _ _ _).trans (KeepsOthers.setCell _ _ _)))).from _, ⟨rfl, pre, x, rfl, hA, by rw [hok]; rfl, ?_, ?_, ?_⟩, (below_sto2 (below_step hB5 hBz) hbl.1 _ _).setCell (p := ⟨b7, 0, none⟩) hbl.2 _⟩
        · rw [set_blk _ (Ne.symm hb7)]; exact q6'.c0
        · rw [set_blk _ (Ne.symm hb7)]; exact q6'.c1
        · exact set_same _ (by rw [set_blk _ hb7, set_blk _ hb7]; exact c70)
  case done =>
    rintro D ys W hD rfl ⟨hA, hBW⟩ hK
    have hBz := below_step hB57 hBW
    have q6 := z6.below hBz
    obtain ⟨c60, c61, f6⟩ := id q6
    have c70 := Below.cell_some hBz z7.1
    have f7 := (hBz.frozen (p := ⟨b7, 0, none⟩) (cell_blk z7.1)).trans (z7.2 0)
    gi_wp2
    have hK' := ((KeepsOthers.setCell W ⟨b6, 0, none⟩ (.string ⟨#[]⟩)).trans ((KeepsOthers.setCell _ ⟨b6, 1, none⟩ (.string ⟨#[]⟩)).trans (KeepsOthers.setCell _ ⟨b7, 0, none⟩ (.bool false)))).same D _ hK rfl
    refine ⟨by simp, .inl ⟨_, _, rfl, run_takeDeferred hK', ?_⟩⟩
    have q6' := q6.sto (.string ⟨#[]⟩) (.string ⟨#[]⟩)
    have hc0 := cell_kept (show _ from ((set_blk _ (Ne.symm hb7)).trans q6'.c0 : (((W.setCell ⟨b6, 0, none⟩ (.string ⟨#[]⟩)).setCell ⟨b6, 1, none⟩ (.string ⟨#[]⟩)).setCell ⟨b7, 0, none⟩ (.bool false)).cell? ⟨b6, 0, none⟩ = some (.string ⟨#[]⟩))) (grownBy_putObj' _ D (.deferred none)) (fun r e => by cases e; exact ⟨_, hK', rfl⟩)
    have hc1 := cell_kept (show _ from ((set_blk _ (Ne.symm hb7)).trans q6'.c1 : (((W.setCell ⟨b6, 0, none⟩ (.string ⟨#[]⟩)).setCell ⟨b6, 1, none⟩ (.string ⟨#[]⟩)).setCell ⟨b7, 0, none⟩ (.bool false)).cell? ⟨b6, 1, none⟩ = some (.string ⟨#[]⟩))) (grownBy_putObj' _ D (.deferred none)) (fun r e => by cases e; exact ⟨_, hK', rfl⟩)
    have hc7 := cell_kept (show (((W.setCell ⟨b6, 0, none⟩ (.string ⟨#[]⟩)).setCell ⟨b6, 1, none⟩ (.string ⟨#[]⟩)).setCell ⟨b7, 0, none⟩ (.bool false)).cell? ⟨b7, 0, none⟩ = some (.bool false) from set_same _ (by rw [set_blk _ hb7, set_blk _ hb7]; exact c70)) (grownBy_putObj' _ D (.deferred none)) (fun r e => by cases e; exact ⟨_, hK', rfl⟩)
    refine ⟨.tuple #[.agg #[.string ⟨#[]⟩, .string ⟨#[]⟩], .bool false], ?_, ⟨⟨#[]⟩, false, rfl, (lowF_none (m := (p.data.toList, q.data.toList)) hvl hA).symm⟩, ((below_sto2 (below_step hB5 hBz) hbl.1 _ _).setCell (p := ⟨b7, 0, none⟩) hbl.2 _).trans (belowK_b (w := w) (Nat.le_refl _) _ D _ _ (by have := hB7.size; omega) hK' rfl rfl)⟩
    simp [results, Tryz.f92, go_sem, hc0, hc1, hc7]
  case stop =>
    rintro D c pre W hD ⟨k, hk, rfl⟩ ⟨⟨rfl, ini, last, e1, e2, e3, c60, c61, c70⟩, hBz⟩ hK
    gi_wp2
    refine ⟨by simp, .inl ⟨_, _, rfl, run_takeDeferred hK, ?_⟩⟩
    have hc0 := cell_kept c60 (grownBy_putObj' _ D (.deferred none)) (fun r e => by cases e; exact ⟨_, hK, rfl⟩)
    have hc1 := cell_kept c61 (grownBy_putObj' _ D (.deferred none)) (fun r e => by cases e; exact ⟨_, hK, rfl⟩)
    have hc7 := cell_kept c70 (grownBy_putObj' _ D (.deferred none)) (fun r e => by cases e; exact ⟨_, hK, rfl⟩)
    refine ⟨.tuple #[.agg #[.string p, .string (L last.val)], .bool true], ?_, ⟨L last.val, true, rfl, (lowF_some (m := (p.data.toList, q.data.toList)) hvl e1 e2 e3).symm⟩, hBz.trans (belowK_b (w := w) (Nat.le_refl _) _ D _ _ (by have := hB7.size; omega) hK rfl rfl)⟩
    simp [results, Tryz.f92, go_sem, hc0, hc1, hc7]
end Go.Proofs.Pw

namespace Go.Proofs.Pw
open Go.RowKit
open Go.Lib hiding intOf
theorem modCompareD (ks : List Nat) (A : Nat → Addr) (p v q u : ByteArray) (w : World) (hE : EnvP ks A w) (hv : v.size ≤ 1000000000) (hu : u.size ≤ 1000000000) (okv : verErr v.data.toList = 0) (oku : verErr u.data.toList = 0) :
    Calls Tryz.prog 94 #[.agg #[.string p, .string v], .agg #[.string q, .string u]] w fun e w' => e = .returned (.int .i64 (modCmp (p.data.toList, v.data.toList) (q.data.toList, u.data.toList))) ∧ Bel w.heap.size w w' := by
  have hb1 := bel_alloc w (.cells #[.string p, .string v] 29)
  have hb2 := bel_alloc (w.alloc (.cells #[.string p, .string v] 29)) (.cells #[.string q, .string u] 29)
  have hB := bel_step hb1 hb2
  obtain ⟨m0, m1, _⟩ := (box2_alloc w (.string p) (.string v) 29).below hb2.b
  obtain ⟨f0, f1, _⟩ := box2_alloc (w.alloc (.cells #[.string p, .string v] 29)) (.string q) (.string u) 29
  simp only [World.size_alloc] at f0 f1
  have hS := Tryz.strings_Compare p q
  have hC := verCompareD ks A v u ((w.alloc (.cells #[.string p, .string v] 29)).alloc (.cells #[.string q, .string u] 29)) (hE.below hB.b) hv hu okv oku
  have hm : modCmp (p.data.toList, v.data.toList) (q.data.toList, u.data.toList) = if p = q then verCmp v.data.toList u.data.toList else compareBytes p.data.toList q.data.toList := by
    unfold modCmp orI
    by_cases h : p = q
    · subst h
      rw [if_pos (compareBytes_ord.self _), if_pos rfl]
    · rw [if_neg (fun h2 => h (bytes_eq.1 (compareBytes_zero h2))), if_neg h]
  generalize compareBytes p.data.toList q.data.toList = x at hS hm
  generalize verCmp v.data.toList u.data.toList = y at hC hm
  replace hS := Lib.hid hS
  replace hC := Lib.hid hC
  clear hb1 hb2 hE okv oku
  by_cases h : p = q
  · rw [if_pos h] at hm
    have HM := Lib.hid hm
    subst h
    have h1 : (p.toList != p.toList) = false := by simp
    clear hm hS
    go_enter Tryz.func94, Tryz.ntmps94
    go_wp2_with fail
    refine hC.out.mono ?_
    rintro e w' ⟨rfl, hb⟩
    go_wp2_with fail
    go_ret
    rw [HM.out]
    exact ⟨rfl, bel_step hB hb⟩
  · rw [if_neg h] at hm
    have HM := Lib.hid hm
    have h1 : (p.toList != q.toList) = true := by rw [toList_data, toList_data]; exact bne_iff_ne.2 (fun e => h (bytes_eq.1 e))
    have h2 : p.toList ≠ q.toList := by rw [toList_data, toList_data]; exact fun e => h (bytes_eq.1 e)
    have h3 : (p.toList == q.toList) = false := beq_eq_false_iff_ne.2 h2
    clear hm hC
    go_enter Tryz.func94, Tryz.ntmps94
    go_wp2_with fail
    refine (hS.out _).mono ?_
    rintro e w' ⟨rfl, rfl⟩
    go_wp2_with fail
    go_ret
    rw [HM.out]
    exact ⟨rfl, hB⟩
end Go.Proofs.Pw
