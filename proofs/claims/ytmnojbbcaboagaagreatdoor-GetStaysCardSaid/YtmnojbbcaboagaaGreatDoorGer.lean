/- Ge: walks and plain laws, joined: GrWalk ModCmpD SortLayM SortM GrReach. Conditions: at each theorem. -/
import Derived.Test.YtmnojbbcaboagaaGreatDoorGeq
import Derived.Test.YtmnojbbcaboagaaGreatDoorGem
import Derived.Deep.RegionWith
import Derived.Test.YtmnojbbcaboagaaGreatDoorGeg
import Derived.Test.YtmnojbbcaboagaaGreatDoorGek
import Derived.Test.YtmnojbbcaboagaaGreatDoorGeb
import Derived.Test.YtmnojbbcaboagaaGreatDoorGef
import Derived.Test.YtmnojbbcaboagaaGreatDoorProg
import Derived.Shelf.SlSortCmp.NoneTotal
import Derived.Test.YtmnojbbcaboagaaGreatDoorGep

namespace Go.Proofs.Pw
open Go.RowKit
open Go.Lib hiding intOf
def mbT (m : MB) : Md := (m.1.data.toList, m.2.data.toList)
theorem mbT_inj {a b : MB} : mbT a = mbT b ↔ a = b := by
  refine ⟨fun h => ?_, fun h => by rw [h]⟩
  unfold mbT at h
  rw [Prod.mk.injEq] at h
  exact Prod.ext (bytes_eq.1 h.1) (bytes_eq.1 h.2)
def cameOf (S : List (MB × MB)) : Came := S.map fun p => (mbT p.1, mbT p.2)
theorem cameOf_length (S : List (MB × MB)) : (cameOf S).length = S.length := by simp [cameOf]
theorem cameOf_mem {S : List (MB × MB)} {m : MB} : mbT m ∈ (cameOf S).map (·.1) ↔ m ∈ S.map (·.1) := by
  unfold cameOf
  rw [List.map_map]
  constructor
  · intro h
    obtain ⟨p, hp, e⟩ := List.mem_map.1 h
    exact List.mem_map.2 ⟨p, hp, mbT_inj.1 e⟩
  · intro h
    obtain ⟨p, hp, e⟩ := List.mem_map.1 h
    exact List.mem_map.2 ⟨p, hp, by show mbT p.1 = _; rw [e]⟩
theorem mapF_isSome {S : List (MB × MB)} {m : MB} : (mapF S m).isSome = true ↔ m ∈ S.map (·.1) := by
  constructor
  · intro h
    by_cases h2 : m ∈ S.map (·.1)
    · exact h2
    · rw [mapF_none.2 h2] at h; cases h
  · intro h
    cases h2 : mapF S m with
    | none => exact absurd h (mapF_none.1 h2)
    | some f => rfl
theorem cameOf_come (S : List (MB × MB)) (m f : MB) : cameOf (comeB S m f) = comeS (cameOf S) (mbT m) (mbT f) := by
  unfold comeB comeS
  by_cases h : m ∈ S.map (·.1)
  · rw [if_pos (mapF_isSome.2 h), if_pos (cameOf_mem.2 h)]
  · rw [if_neg (fun h2 => h (mapF_isSome.1 h2)), if_neg (fun h2 => h (cameOf_mem.1 h2))]
    simp [cameOf]
theorem comeAll_len (f : Md) : ∀ (l : List Md) (S : Came), (comeAll S f l).length ≤ S.length + l.length
  | [], S => by simp [comeAll]
  | m :: l, S => by
    rw [comeAll_cons]
    have h := comeAll_len f l (comeS S m f)
    have h2 : (comeS S m f).length ≤ S.length + 1 := by unfold comeS; split <;> simp
    rw [List.length_cons]; omega
theorem cell_new1 (w : World) (v : Value) (t : TypeId) {N : Nat} (h : w.heap.size = N) : (w.alloc (.cells #[v] t)).cell? ⟨N, 0, none⟩ = some v ∧ ∀ i, (w.alloc (.cells #[v] t)).frozen? ⟨N, i, none⟩ = false := by
  subst h
  exact ⟨by simp, fun i => by simp⟩
theorem Going.drew {B : Nat} {w : World} {x : Value} {S : List (MB × MB)} (h : Going B w x S) : Going B w.drew x S := h.below (Below.refl _ w).drew
theorem Going.row {B : Nat} {w : World} {x : Value} {S : List (MB × MB)} (h : Going B w x S) {i : Nat} (hi : i < S.length) :
    ∃ b o c P V, x = .slice (some ⟨b, o, none⟩) S.length c ∧ (P, V) = (S[i]).1 ∧ w.cell? ⟨b, o + i * 2, none⟩ = some (.string P) ∧ w.cell? ⟨b, o + i * 2 + 1, none⟩ = some (.string V) := by
  obtain ⟨a, n, cap, P, V, e1, e2, h3, h4, h5⟩ := modsAt_own h.own
  have hl : n = S.length := by have := congrArg List.length e2; rw [mdF_length] at this; rw [← this]; simp [mdTs]
  obtain ⟨b, o, rfl, c0, c1⟩ := h5 i (by omega)
  refine ⟨b, o, cap, P i, V i, by rw [e1, hl], ?_, c0, c1⟩
  have h6 := mdF_get n P V i (by omega)
  rw [← e2] at h6
  apply mbT_inj.1
  have h7 : (mdTs (S.map (·.1)))[i]? = some (mbT (S[i]).1) := by simp [mdTs, mbT, List.getElem?_eq_getElem hi]
  rw [h7] at h6
  exact (Option.some.inj h6).symm
theorem atS_came {S : List (MB × MB)} {i : Nat} (hi : i < S.length) : atS (cameOf S) i = mbT (S[i]).1 := by
  unfold atS cameOf
  rw [List.getD_eq_getElem?_getD, List.getElem?_map, List.getElem?_eq_getElem hi]
  rfl
set_option maxHeartbeats 4000000 in
set_option maxRecDepth 100000 in
theorem grWalk_in (a : Option Addr) (n cap : Nat) (P V : Nat → ByteArray) (R : Nat → List Md) (K : Nat → List Str) (Bk : Nat → Bool) (Rv Kv : Nat → Value) (rv : Value) (roots : List Md) (w : World) (h : EntsIn w a n cap P V R K Bk Rv Kv) (hr : ModsAt w rv roots) (hl : roots.length ≤ 100000) (hn : n ≤ 1000) (hR : ∀ j, j < n → (R j).length ≤ 1000) (hG : RightG (enF n P V R K Bk) roots) :
    Calls Tryz.prog 65 #[.slice a n cap, rv] w fun e w' => (∃ x S, e = .returned (.tuple #[x, .map (some w.heap.size)]) ∧ Going w.heap.size w' x S ∧ cameOf S = walkS (enF n P V R K Bk) roots) ∧ Below w.heap.size w w' := by
  obtain ⟨ar, rn, rc, P2, V2, rfl, rfl, h5, h6, h7⟩ := hr
  rw [mdF_length] at hl
  have hb1 := below_alloc w (.map #[] 0)
  have hb2 := below_alloc (w.alloc (.map #[] 0)) (.cells #[.map (some w.heap.size)] 108)
  have hb3 := below_alloc ((w.alloc (.map #[] 0)).alloc (.cells #[.map (some w.heap.size)] 108)) (.cells #[.slice none 0 0] 23)
  have hB := below_step (below_step hb1 hb2) hb3
  have hGo : Going w.heap.size (((w.alloc (.map #[] 0)).alloc (.cells #[.map (some w.heap.size)] 108)).alloc (.cells #[.slice none 0 0] 23)) (.slice none 0 0) [] := by
    refine ⟨?_, ?_, fun i => ?_, World.ownsRow_nil _ _ _ _, ((mapIs_made w).below hb2).below hb3⟩
    · have := Below.cell_some hb3 (cell_new1 (w.alloc (.map #[] 0)) (.map (some w.heap.size)) 108 (N := w.heap.size + 1) (by simp)).1
      exact this
    · exact (cell_new1 _ (.slice none 0 0) 23 (N := w.heap.size + 2) (by simp)).1
    · exact (cell_new1 _ (.slice none 0 0) 23 (N := w.heap.size + 2) (by simp)).2 i
  have H := Lib.hid h
  have HG := Lib.hid hG
  have hRR := Lib.hid hR
  replace h7 := Lib.hid h7
  clear h hG hb1 hb2 hb3 h5 h6 hR
  have hmk := fun W => run_makeMap (P := Tryz.prog) 108 W
  go_enter Tryz.func65, Tryz.ntmps65
  go_wp2_with fail
  generalize hw1 : ((w.alloc (.map #[] 0)).alloc (.cells #[.map (some w.heap.size)] 108)).alloc (.cells #[.slice none 0 0] 23) = w1 at *
  clear hw1
  go_loopw [18] (fun i wr => ∃ k : Nat, k ≤ rn ∧ i = .int .i64 k ∧ ∃ x S, Hid (Going w.heap.size wr x S) ∧ Below w.heap.size w wr ∧ Hid (cameOf S = comeAll [] noMd ((mdF rn P2 V2).take k))) (fun i _ => rn - (intOf i).toNat)
  case atStart => exact ⟨0, Nat.zero_le _, rfl, _, [], Lib.hid hGo, hB, Lib.hid rfl⟩
  case round =>
    obtain ⟨k, hk, rfl, x, S, hGo, hBr, hC⟩ := hrel
    by_cases hlt : k < rn
    · have hkn : (k : Int) < (rn : Int) := by omega
      obtain ⟨b1, o1, ea, c0, c1⟩ := h7.out k hlt
      replace c0 := hBr.cell (lt_of_cell c0) |>.trans c0
      replace c1 := hBr.cell (lt_of_cell c1) |>.trans c1
      have hba := below_alloc wr (.cells #[.string (P2 k), .string (V2 k)] 47)
      obtain ⟨y0, y1, _⟩ := box2_alloc wr (.string (P2 k)) (.string (V2 k)) 47
      have hSl : S.length ≤ 100000 := by
        have h1 := comeAll_len noMd ((mdF rn P2 V2).take k) []
        rw [← hC.out, cameOf_length, List.length_take, mdF_length] at h1
        simp at h1; omega
      have hcm := come_calls w.heap.size (P2 k) (V2 k) ⟨#[]⟩ ⟨#[]⟩ x S (wr.alloc (.cells #[.string (P2 k), .string (V2 k)] 47)) (hGo.out.below hba) (by omega)
      have hN : Hid (cameOf (comeB S (P2 k, V2 k) (⟨#[]⟩, ⟨#[]⟩)) = comeAll [] noMd ((mdF rn P2 V2).take (k + 1))) := Lib.hid (by
        rw [cameOf_come, hC.out, mdF_take_succ rn P2 V2 k hlt, comeAll_snoc]
        rfl)
      have hB2 : Below w.heap.size w (wr.alloc (.cells #[.string (P2 k), .string (V2 k)] 47)) := hBr.alloc hBr.size _
      subst ea
      replace hcm := Lib.hid hcm
      clear hC hba
      go_wp2_with fail
      refine hcm.out.mono ?_
      rintro e w3 ⟨rfl, ⟨x', hG'⟩, hb3⟩
      have hG' := Lib.hid hG'
      go_wp2_with fail
      go_roundw
      case rel => exact ⟨k + 1, by omega, by go_num, x', _, hG', hB2.trans hb3, hN⟩
      case measure => simp [intOf]; omega
    · obtain rfl : rn = k := by omega
      rw [mdF_take_all] at hC
      have hW := walked_start (l := enF n P V R K Bk) (roots := mdF rn P2 V2)
      rw [← hC.out] at hW
      have hrun : walkS (enF n P V R K Bk) (mdF rn P2 V2) = runS (enF n P V R K Bk) (n + 1) (cameOf S) 0 := by
        unfold walkS
        rw [enF_length, hC.out]
      have HW := Lib.hid hW
      have HR := Lib.hid hrun
      clear hW hrun hC hlt hk hB
      go_wp2_with fail
      go_loopw [11] (fun i wr => ∃ k : Nat, i = .int .i64 k ∧ ∃ x S, Hid (Going w.heap.size wr x S) ∧ Below w.heap.size w wr ∧ Hid (Walked (enF n P V R K Bk) (mdF rn P2 V2) (cameOf S) k ∧ k ≤ S.length ∧ ∃ m, walkS (enF n P V R K Bk) (mdF rn P2 V2) = runS (enF n P V R K Bk) m (cameOf S) k ∧ n < m + k)) (fun i _ => n - (intOf i).toNat)
      case atStart => exact ⟨0, rfl, x, S, hGo, hBr, Lib.hid ⟨HW.out, Nat.zero_le _, n + 1, HR.out, by omega⟩⟩
      case round =>
        clear hGo hBr HW HR
        obtain ⟨k, rfl, y, T, hGo, hBr, hI⟩ := hrel
        have hTl : T.length ≤ n := by
          have h1 := hI.out.1.len HG.out
          rw [cameOf_length, enF_length] at h1; exact h1
        have ct := hGo.out.ct
        have cm := hGo.out.cm
        by_cases hlt : k < T.length
        · have hkT : (k : Int) < (T.length : Int) := by omega
          obtain ⟨b4, o4, c4, P4, V4, ex, e4, d0, d1⟩ := hGo.out.row hlt
          subst ex
          have hat : atS (cameOf T) k = mbT (P4, V4) := by rw [atS_came hlt, e4]
          have hreach := hI.out.1.all _ (atS_mem (S := cameOf T) (i := k) (by rw [cameOf_length]; exact hlt))
          obtain ⟨en, hen, hem⟩ := HG.out.entry hreach
          have hnf : ¬ findE (enF n P V R K Bk) (mbT (P4, V4)) < 0 := fun h => findE_lt.1 h en hen (by rw [hem, hat])
          obtain ⟨i, hi, hil, him⟩ := findE_nat hnf
          rw [enF_length] at hil
          have hreq : reqsOf (enF n P V R K Bk) (atS (cameOf T) k) = R i := by
            unfold reqsOf
            rw [hat, hi]
            show (enAt _ i).reqs = _
            rw [enAt_enF hil]
          have hfi := idxFind_in a n cap P V R K Bk Rv Kv P4 V4 wr (H.out.below (hBr.mono (Nat.le_refl _))) (by omega)
          rw [show (P4.data.toList, V4.data.toList) = mbT (P4, V4) from rfl, hi] at hfi
          obtain ⟨b5, o5, ea, hcell⟩ := H.out.at_ i hil
          obtain ⟨a1, n1, s1, a2, n2, s2, e1, e2⟩ := H.out.forms hil
          have hM := H.out.reqs i hil
          have hRl := hRR.out i hil
          rw [e1, e2] at hcell
          rw [e1] at hM
          obtain ⟨aM, nM, cM, P5, V5, e3, e5, _, _, hcs⟩ := hM
          injection e3 with e6 e7 e8
          subst e6 e7 e8
          rw [e5, mdF_length] at hRl
          have hin : (i : Int) < (n : Int) := by omega
          have HReq := Lib.hid (hreq.trans e5)
          have HAt := Lib.hid hat
          subst ea
          have cr := hcell.c2
          replace cr := (hBr.cell (lt_of_cell cr)).trans cr
          have hcT : k < (cameOf T).length := by rw [cameOf_length]; exact hlt
          replace hfi := Lib.hid hfi
          replace hcs := Lib.hid hcs
          replace hcT := Lib.hid hcT
          clear hcell e1 e2 e5 e4 hreach hen hem hnf hi him hreq hat
          go_wp2_with fail
          refine hfi.out.mono ?_
          rintro e w3 ⟨rfl, hb3⟩
          have hGo3 := Lib.hid (hGo.out.below hb3)
          replace cr := Below.cell_some hb3 cr
          have hB3 := below_step hBr hb3
          clear hGo hBr hb3 ct cm d0 d1 hfi
          go_wp2_with fail
          go_loopw [44] (fun j wq => ∃ q : Nat, q ≤ n1 ∧ j = .int .i64 q ∧ ∃ y2 S2, Hid (Going w.heap.size wq y2 S2) ∧ Below w.heap.size w wq ∧ Hid (cameOf S2 = comeAll (cameOf T) (mbT (P4, V4)) ((mdF n1 P5 V5).take q))) (fun j _ => n1 - (intOf j).toNat)
          case atStart => exact ⟨0, Nat.zero_le _, rfl, _, T, hGo3, hB3, Lib.hid rfl⟩
          case round =>
            clear hGo3 hB3 cr
            obtain ⟨q, hq, rfl, y2, S2, hGo2, hB2, hC2⟩ := hrel
            have hpre : cameOf T <+: cameOf S2 := by rw [hC2.out]; exact comeAll_pre _ _ _
            have hk2 : k < S2.length := by
              have := hpre.length_le
              rw [cameOf_length, cameOf_length] at this; omega
            by_cases hq2 : q < n1
            · have hqn : (q : Int) < (n1 : Int) := by omega
              obtain ⟨b6, o6, ea6, r0, r1⟩ := hcs.out q hq2
              replace r0 := (hB2.cell (lt_of_cell r0)).trans r0
              replace r1 := (hB2.cell (lt_of_cell r1)).trans r1
              obtain ⟨b7, o7, c7, P7, V7, ey2, e7, g0, g1⟩ := hGo2.out.row hk2
              have e8 : (P7, V7) = (P4, V4) := by
                apply mbT_inj.1
                rw [e7, ← atS_came hk2, atS_pre hpre hcT.out, HAt.out]
              injection e8 with e9 e10
              subst e9 e10 ey2
              have hkS : (k : Int) < (S2.length : Int) := by omega
              have hS2l : S2.length ≤ 100000 := by
                have h1 := comeAll_len (mbT (P7, V7)) ((mdF n1 P5 V5).take q) (cameOf T)
                rw [← hC2.out, cameOf_length, cameOf_length, List.length_take, mdF_length] at h1
                omega
              have hba := below_alloc wr (.cells #[.string (P5 q), .string (V5 q)] 47)
              obtain ⟨y0, y1, _⟩ := box2_alloc wr (.string (P5 q)) (.string (V5 q)) 47
              have hcm := fun W (h : Going w.heap.size W (.slice (some ⟨b7, o7, none⟩) S2.length c7) S2) => come_calls w.heap.size (P5 q) (V5 q) P7 V7 (.slice (some ⟨b7, o7, none⟩) S2.length c7) S2 W h (by omega)
              have hN : Hid (cameOf (comeB S2 (P5 q, V5 q) (P7, V7)) = comeAll (cameOf T) (mbT (P7, V7)) ((mdF n1 P5 V5).take (q + 1))) := Lib.hid (by
                rw [cameOf_come, hC2.out, mdF_take_succ n1 P5 V5 q hq2, comeAll_snoc]
                rfl)
              have hGa := hGo2.out.below hba
              have hBa : Below w.heap.size w (wr.alloc (.cells #[.string (P5 q), .string (V5 q)] 47)) := hB2.alloc hB2.size _
              have ct := hGa.ct
              replace g0 := Below.cell_some hba g0
              replace g1 := Below.cell_some hba g1
              subst ea6
              replace hcm := Lib.hid hcm
              have HGa := Lib.hid hGa
              clear hC2 hba e7 hpre hGo2 hB2 hGa hS2l hk2
              go_wp2_with fail
              generalize wr.alloc (.cells #[.string (P5 q), .string (V5 q)] 47) = wx at *
              go_region_with (go_at_call 126; refine (hcm.out _ ?_).mono ?_; exact HGa.out.drew; rintro e w5 ⟨rfl, ⟨y5, hG5⟩, hb5⟩)
              all_goals
                go_wp2_with fail
                have HG5 := Lib.hid hG5
                go_roundw
                case rel => exact ⟨q + 1, by omega, by go_num, y5, _, HG5, hBa.drew.trans hb5, hN⟩
                case measure => simp [intOf]; omega
            · obtain rfl : n1 = q := by omega
              rw [mdF_take_all] at hC2
              have hst : cameOf S2 = stepS (enF n P V R K Bk) (cameOf T) k := by
                unfold stepS
                rw [hC2.out, HAt.out, ← HReq.out, HAt.out]
              have hI2 : Hid (Walked (enF n P V R K Bk) (mdF rn P2 V2) (cameOf S2) (k + 1) ∧ k + 1 ≤ S2.length ∧ ∃ m, walkS (enF n P V R K Bk) (mdF rn P2 V2) = runS (enF n P V R K Bk) m (cameOf S2) (k + 1) ∧ n < m + (k + 1)) := Lib.hid (by
                refine ⟨by rw [hst]; exact walked_step HG.out hI.out.1 hcT.out, hk2, ?_⟩
                obtain ⟨m, hm1, hm2⟩ := hI.out.2.2
                obtain ⟨m', rfl⟩ : ∃ m', m = m' + 1 := ⟨m - 1, by omega⟩
                refine ⟨m', ?_, by omega⟩
                rw [hm1, runS, if_pos hcT.out, hst])
              have hkn2 : k < n := by omega
              clear hC2 hst hpre hcs
              go_wp2_with fail
              go_roundw
              case rel => exact ⟨k + 1, by go_num, y2, S2, hGo2, hB2, hI2⟩
              case measure => simp [intOf]; omega
        · obtain ⟨ay, ny, cy, Py, Vy, ey, el, _⟩ := modsAt_own hGo.out.own
          have hny : ny = T.length := by have := congrArg List.length el; rw [mdF_length] at this; rw [← this]; simp [mdTs]
          subst ey
          have hTk : ¬ ((k : Int) < (ny : Int)) := by omega
          clear el hny
          have hfin : Hid (cameOf T = walkS (enF n P V R K Bk) (mdF rn P2 V2)) := Lib.hid (by
            obtain ⟨m, hm1, _⟩ := hI.out.2.2
            rw [hm1, runS_done m (by rw [cameOf_length]; omega)])
          have hGo1 := hGo.out
          clear hI hGo
          go_wp2_with fail
          have kqct := fun d os => cell_patch (d := d) (os := os) ct
          have kqcm := fun d os => cell_patch (d := d) (os := os) cm
          refine wp_region_quiet_patch (by kernel_rfl) (by kernel_rfl) ?_
          repeat (go_big_quiet_step (fail))
          refine wpQuiet_nil ?_
          intro _ hw'
          obtain ⟨⟨dq, osq⟩, hw''⟩ := hw'
          subst hw''
          clear kqct kqcm
          have hb := below_patch wr dq osq
          replace hGo1 := hGo1.below hb
          replace hBr := below_step hBr hb
          clear hb
          generalize patch wr dq osq = w9 at hGo1 hBr ⊢
          go_wp2_with fail
          go_ret2
          exact ⟨⟨_, T, rfl, hGo1, hfin.out⟩, hBr⟩
end Go.Proofs.Pw

namespace Go.Proofs.Pw
open Go.RowKit
open Go.Lib hiding intOf
theorem modCompareD (ks : List Nat) (A : Nat → Addr) (p v q u : ByteArray) (w : World) (hE : EnvP ks A w) (hv : v.size ≤ 1000000000) (hu : u.size ≤ 1000000000) (okv : verErr v.data.toList = 0) (oku : verErr u.data.toList = 0) :
    Calls Tryz.prog 67 #[.agg #[.string p, .string v], .agg #[.string q, .string u]] w fun e w' => e = .returned (.int .i64 (modCmp (p.data.toList, v.data.toList) (q.data.toList, u.data.toList))) ∧ Bel w.heap.size w w' := by
  have hb1 := bel_alloc w (.cells #[.string p, .string v] 47)
  have hb2 := bel_alloc (w.alloc (.cells #[.string p, .string v] 47)) (.cells #[.string q, .string u] 47)
  have hB := bel_step hb1 hb2
  obtain ⟨m0, m1, _⟩ := (box2_alloc w (.string p) (.string v) 47).below hb2.b
  obtain ⟨f0, f1, _⟩ := box2_alloc (w.alloc (.cells #[.string p, .string v] 47)) (.string q) (.string u) 47
  simp only [World.size_alloc] at f0 f1
  have hS := Tryz.strings_Compare p q
  have hC := verCompareD ks A v u ((w.alloc (.cells #[.string p, .string v] 47)).alloc (.cells #[.string q, .string u] 47)) (hE.below hB.b) hv hu okv oku
  have hm : modCmp (p.data.toList, v.data.toList) (q.data.toList, u.data.toList) = if p = q then verCmp v.data.toList u.data.toList else compareBytes p.data.toList q.data.toList := by
    unfold modCmp orI
    by_cases h : p = q
    · subst h
      rw [if_pos (compareBytes_ord.self _), if_pos rfl]
    · rw [if_neg (fun h2 => h (bytes_eq.1 (compareBytes_zero h2))), if_neg h]
  generalize compareBytes p.data.toList q.data.toList = x at hS hm
  generalize verCmp v.data.toList u.data.toList = y at hC hm
  replace hS := Lib.hid hS
  replace hC := Lib.hid hC
  clear hb1 hb2 hE okv oku
  by_cases h : p = q
  · rw [if_pos h] at hm
    have HM := Lib.hid hm
    subst h
    have h1 : (p.toList != p.toList) = false := by simp
    clear hm hS
    go_enter Tryz.func67, Tryz.ntmps67
    go_wp2_with fail
    refine hC.out.mono ?_
    rintro e w' ⟨rfl, hb⟩
    go_wp2_with fail
    go_ret
    rw [HM.out]
    exact ⟨rfl, bel_step hB hb⟩
  · rw [if_neg h] at hm
    have HM := Lib.hid hm
    have h1 : (p.toList != q.toList) = true := by rw [toList_data, toList_data]; exact bne_iff_ne.2 (fun e => h (bytes_eq.1 e))
    have h2 : p.toList ≠ q.toList := by rw [toList_data, toList_data]; exact fun e => h (bytes_eq.1 e)
    have h3 : (p.toList == q.toList) = false := beq_eq_false_iff_ne.2 h2
    clear hm hC
    go_enter Tryz.func67, Tryz.ntmps67
    go_wp2_with fail
    refine (hS.out _).mono ?_
    rintro e w' ⟨rfl, rfl⟩
    go_wp2_with fail
    go_ret
    rw [HM.out]
    exact ⟨rfl, hB⟩
end Go.Proofs.Pw

namespace Go.Proofs.Pw
open Go.RowKit
def laysSortMR : Go.Shelf.Ren := ⟨fun | 6 => 66 | 14 => 127 | 15 => 128 | 20 => 185 | 21 => 186 | 22 => 187 | 23 => 188 | 24 => 189 | 25 => 190 | 26 => 191 | 27 => 192 | 28 => 193 | 29 => 194 | 46 => 245 | 47 => 246 | 48 => 247 | 49 => 248 | 50 => 249 | 57 => 277 | n => n,
  fun | 0 => 0 | 3 => 3 | 4 => 4 | 5 => 5 | 9 => 9 | 22 => 23 | 24 => 47 | 25 => 112 | 39 => 183 | 45 => 224 | 46 => 225 | 50 => 229 | 53 => 232 | 55 => 234 | 66 => 282 | 70 => 286 | 76 => 303 | 77 => 93 | n => n, fun n => n⟩
theorem laysSortM : Go.Proofs.SlLaysF0.n6 Tryz.prog laysSortMR := {
  mixed := by kernel_rfl
  f6 := ⟨Tryz.f66.name, by decide, Tryz.func66.trans (congrArg some (by kernel_rfl))⟩
  f14 := ⟨Tryz.f127.name, by decide, Tryz.func127.trans (congrArg some (by kernel_rfl))⟩
  f15 := Tryz.func128.trans (congrArg some (by kernel_rfl))
  f20 := ⟨Tryz.f185.name, by decide, Tryz.func185.trans (congrArg some (by kernel_rfl))⟩
  f21 := ⟨Tryz.f186.name, by decide, Tryz.func186.trans (congrArg some (by kernel_rfl))⟩
  f22 := ⟨Tryz.f187.name, by decide, Tryz.func187.trans (congrArg some (by kernel_rfl))⟩
  f23 := ⟨Tryz.f188.name, by decide, Tryz.func188.trans (congrArg some (by kernel_rfl))⟩
  f24 := ⟨Tryz.f189.name, by decide, Tryz.func189.trans (congrArg some (by kernel_rfl))⟩
  f25 := ⟨Tryz.f190.name, by decide, Tryz.func190.trans (congrArg some (by kernel_rfl))⟩
  f26 := ⟨Tryz.f191.name, by decide, Tryz.func191.trans (congrArg some (by kernel_rfl))⟩
  f27 := ⟨Tryz.f192.name, by decide, Tryz.func192.trans (congrArg some (by kernel_rfl))⟩
  f28 := Tryz.func193.trans (congrArg some (by kernel_rfl))
  f29 := Tryz.func194.trans (congrArg some (by kernel_rfl))
  f46 := ⟨Tryz.f245.name, by decide, Tryz.func245.trans (congrArg some (by kernel_rfl))⟩
  f47 := Tryz.func246.trans (congrArg some (by kernel_rfl))
  f48 := Tryz.func247.trans (congrArg some (by kernel_rfl))
  f49 := ⟨Tryz.f248.name, by decide, Tryz.func248.trans (congrArg some (by kernel_rfl))⟩
  f50 := ⟨Tryz.f249.name, by decide, Tryz.func249.trans (congrArg some (by kernel_rfl))⟩
  f57 := ⟨Tryz.f277.name, by decide, Tryz.func277.trans (congrArg some (by kernel_rfl))⟩
  t0 := Tryz.underlying0
  a0 := Tryz.isAgg0
  z0 := Tryz.sizeOf0
  v0 := Tryz.zeroValue0
  t3 := Tryz.underlying3
  a3 := Tryz.isAgg3
  z3 := Tryz.sizeOf3
  v3 := Tryz.zeroValue3
  t4 := Tryz.underlying4
  a4 := Tryz.isAgg4
  z4 := Tryz.sizeOf4
  v4 := Tryz.zeroValue4
  t5 := Tryz.underlying5
  a5 := Tryz.isAgg5
  z5 := Tryz.sizeOf5
  v5 := Tryz.zeroValue5
  t9 := Tryz.underlying9
  a9 := Tryz.isAgg9
  z9 := Tryz.sizeOf9
  v9 := Tryz.zeroValue9
  t22 := Tryz.underlying23
  a22 := Tryz.isAgg23
  z22 := Tryz.sizeOf23
  v22 := Tryz.zeroValue23
  t25 := Tryz.underlying112
  a25 := Tryz.isAgg112
  z25 := Tryz.sizeOf112
  v25 := Tryz.zeroValue112
  t39 := Tryz.underlying183
  a39 := Tryz.isAgg183
  z39 := Tryz.sizeOf183
  v39 := Tryz.zeroValue183
  t45 := Tryz.underlying224
  a45 := Tryz.isAgg224
  z45 := Tryz.sizeOf224
  v45 := Tryz.zeroValue224
  t46 := Tryz.underlying225
  a46 := Tryz.isAgg225
  z46 := Tryz.sizeOf225
  v46 := Tryz.zeroValue225
  t50 := Tryz.underlying229
  a50 := Tryz.isAgg229
  z50 := Tryz.sizeOf229
  v50 := Tryz.zeroValue229
  t53 := Tryz.underlying232
  a53 := Tryz.isAgg232
  z53 := Tryz.sizeOf232
  v53 := Tryz.zeroValue232
  t55 := Tryz.underlying234
  a55 := Tryz.isAgg234
  z55 := Tryz.sizeOf234
  v55 := Tryz.zeroValue234
  t66 := Tryz.underlying282
  a66 := Tryz.isAgg282
  z66 := Tryz.sizeOf282
  v66 := Tryz.zeroValue282
  t70 := Tryz.underlying286
  a70 := Tryz.isAgg286
  z70 := Tryz.sizeOf286
  v70 := Tryz.zeroValue286
  t76 := Tryz.underlying303
  a76 := Tryz.isAgg303
  z76 := Tryz.sizeOf303
  v76 := Tryz.zeroValue303
  t77 := Tryz.underlying93
  a77 := Tryz.isAgg93
  z77 := Tryz.sizeOf93
  v77 := Tryz.zeroValue93 }
end Go.Proofs.Pw

namespace Go.Proofs.Pw
open Go.RowKit
open Go.Proofs Go.Sort
open Go.Lib hiding intOf
def OkM (m : ByteArray × ByteArray) : Prop := verErr m.2.data.toList = 0 ∧ m.2.size ≤ 1000000000
abbrev RM := {m : ByteArray × ByteArray // OkM m}
instance : Inhabited RM := ⟨⟨(⟨#[]⟩, ⟨#[118, 48, 46, 48, 46, 48]⟩), by decide +kernel, by decide⟩⟩
def tRM (x : RM) : Md := (x.1.1.data.toList, x.1.2.data.toList)
def encRM (x : RM) : List Value := [.string x.1.1, .string x.1.2]
def cmpRM (x y : RM) : Int := modCmp (tRM x) (tRM y)
theorem swo_of {α : Type} {f : α → α → Int} (h : Ord3 f) : SWO (ltOf f) := by
  refine ⟨fun x => ?_, fun x y z h1 h2 => ?_, fun x y z h1 h2 => ?_⟩
  · unfold ltOf
    rw [h.self]; rfl
  · unfold ltOf at *
    rw [decide_eq_true_iff] at *
    have a1 := h.tr x y z (by omega) (by omega)
    rcases Int.lt_or_eq_of_le a1 with a2 | a2
    · exact a2
    · exfalso
      have a3 := h.zero a2
      have a4 := h.tr z x y (by omega) (by omega)
      have a5 := (h.anti y z).1 h2
      omega
  · unfold ltOf at *
    rw [decide_eq_false_iff_not] at *
    intro h3
    have b1 := (h.anti x z).1 h3
    have b2 := h.anti y x
    have b3 := h.anti z y
    have b4 := h.anti x y
    have b5 := h.anti y z
    have := h.tr z y x (by omega) (by omega)
    omega
theorem cmpRM_ord : Ord3 cmpRM := modCmp_ord.comap tRM
theorem encRM_len (x : RM) : (encRM x).length = 2 := rfl
theorem encRM_one (x : RM) : ∀ v ∈ encRM x, v.oneCell' = true := by
  intro v hv
  simp [encRM] at hv
  rcases hv with rfl | rfl <;> rfl
theorem below_sortWK {B : Nat} {w0 w : World} (h : Below B w0 w) (hB : B ≤ w0.heap.size) {blk : Nat} (hb : B ≤ blk) (off m : Nat) (d : Array RM) (os : Array Obj) : Below B w0 (sortWorldK encRM 2 w blk off m d os) := by
  have hBs := h.size
  refine h.trans ⟨rfl, rfl, rfl, ?_, fun k hk => ?_⟩
  · simp [sortWorldK, grow, putRowK, putRow, mapBlock, Sort.ahead]
  · simp only [sortWorldK, grow, putRowK, putRow, mapBlock, Sort.ahead]
    by_cases hk2 : k < w.heap.size
    · rw [Array.getElem?_append_left (by simpa using hk2), Array.getElem?_modify, if_neg (by omega)]
    · exact absurd (Nat.lt_of_lt_of_le hk (Nat.le_trans hB hBs)) hk2
theorem map_subM {P : ByteArray × ByteArray → Prop} : ∀ (l : List (ByteArray × ByteArray)), (∀ x ∈ l, P x) → ∃ m : List {s : ByteArray × ByteArray // P s}, m.map (·.1) = l
  | [], _ => ⟨[], rfl⟩
  | a :: r, h => by
    obtain ⟨m, hm⟩ := map_subM r (fun x hx => h x (by simp [hx]))
    exact ⟨⟨a, h a (by simp)⟩ :: m, by simp [hm]⟩
theorem modsAt_holds {w : World} {g cap : Nat} {d : Array RM} (h : HoldsK encRM 2 w g 0 d) (hc : d.size ≤ cap) (hm : cap ≤ 9223372036854775807) : ModsAt w (.slice (some ⟨g, 0, none⟩) d.size cap) (d.toList.map tRM) := by
  refine ⟨some ⟨g, 0, none⟩, d.size, cap, fun i => (d[i]!).1.1, fun i => (d[i]!).1.2, rfl, ?_, hc, hm, fun j hj => ?_⟩
  · apply List.ext_getElem?
    intro i
    by_cases hi : i < d.size
    · rw [mdF_get _ _ _ i hi, List.getElem?_map, List.getElem?_eq_getElem (by simpa using hi)]
      rw [getElem!_pos d i hi]
      simp [tRM]
    · rw [List.getElem?_eq_none (by simpa using hi), List.getElem?_eq_none (by rw [mdF_length]; omega)]
  · have h0 := (h.cell hj (show 0 < 2 by decide)).1
    have h1 := (h.cell hj (show 1 < 2 by decide)).1
    exact ⟨g, 0, rfl, by simpa [encRM] using h0, by simpa [encRM] using h1⟩
theorem holds_own {w : World} {base e g cap : Nat} {L : List (ByteArray × ByteArray)} {d : Array RM} (hd : d.toList.map (·.1) = L) (h : w.ownsRow base e 2 (.slice (some ⟨g, 0, none⟩) L.length cap) L.length (mdVs L)) : HoldsK encRM 2 w g 0 d := by
  have hs : d.size = L.length := by rw [← hd]; simp
  rcases h.2 with ⟨h2, _⟩ | ⟨g', c', cur, e1, _, hg, hn, _, hcs, ht⟩
  · cases h2
  · injection e1 with e1 _ e2
    injection e1 with e1
    injection e1 with e1
    subst e1 e2
    intro j hj
    rw [size_flatK] at hj
    have hjl : j < (mdVs L).length := by rw [mdVs_length]; omega
    have hcur : j < cur.size := by rw [hcs]; omega
    have e3 : cur[j]? = (mdVs L)[j]? := by
      rw [← ht, List.getElem?_take, if_pos (by omega)]
      simp
    rw [get_flatK _ _ _ _ hj]
    have e4 : (mdVs L)[j]? = some ((encRM d[j / 2]!)[j % 2]!) := by
      have hget : L[j / 2]? = some (d[j / 2]!).1 := by
        have h2 : j / 2 < d.size := by omega
        rw [← hd, List.getElem?_map, List.getElem?_eq_getElem (by simpa using h2), getElem!_pos d _ h2]
        simp
      obtain ⟨q0, q1⟩ := mdVs_get hget
      rcases Nat.mod_two_eq_zero_or_one j with h2 | h2
      · rw [show j / 2 * 2 = j by omega] at q0
        rw [q0, h2]; rfl
      · rw [show j / 2 * 2 + 1 = j by omega] at q1
        rw [q1, h2]; rfl
    refine ⟨?_, ?_⟩
    · rw [Nat.zero_add, cell_of_row w g j cur e (0, 0) hg, e3, e4]; rfl
    · simp [World.frozen?, hg]
theorem sortM_calls (ks : List Nat) (A : Nat → Addr) (w0 w : World) (hE : EnvP ks A w0) (base : Nat) (x : Value) (L : List (ByteArray × ByteArray)) (hB : Below w0.heap.size w0 w) (hb : w0.heap.size ≤ base) (ho : w.ownsRow base 47 2 x L.length (mdVs L)) (hL : ∀ m ∈ L, OkM m) (hsz : L.length ≤ 1000000) :
    Calls Tryz.prog 66 #[x, .func (.func 67) #[] #[]] w fun e w' => e = .returned (.tuple #[]) ∧ (∃ l' : List Md, ModsAt w' x l' ∧ l'.Perm (mdTs L) ∧ l'.Pairwise fun a b => modCmp a b ≤ 0) ∧ Below w0.heap.size w0 w' := by
  rcases ho.2 with ⟨rfl, h0⟩ | ⟨g, cap, cur, rfl, hbg, hg, hn, hm, hcs, ht⟩
  · have : L = [] := List.eq_nil_of_length_eq_zero h0
    subst this
    refine (AnyF.slices_SortFunc_none laysSortM none 0 _ w).mono ?_
    rintro e w' ⟨rfl, rfl⟩
    exact ⟨rfl, ⟨[], ModsAt.nil _, List.Perm.refl _, List.Pairwise.nil⟩, hB⟩
  · obtain ⟨m, hd⟩ := map_subM L hL
    have hd' : (m.toArray).toList.map (·.1) = L := by simpa using hd
    have hH := holds_own (d := m.toArray) hd' ho
    have hms : m.toArray.size = L.length := by rw [← hd]; simp
    have hgw : g < w.heap.size := (Array.getElem?_eq_some_iff.1 hg).1
    have hcmp : CmpLays Tryz.prog 67 #[] encRM 2 cmpRM g 0 m.toArray.size w := by
      intro n os dk hs a b
      refine (modCompareD ks A a.1.1 a.1.2 b.1.1 b.1.2 _ (hE.below (below_sortWK hB (Nat.le_refl _) (by omega) 0 n dk os)) a.2.2 b.2.2 a.2.1 b.2.1).mono ?_
      rintro e w' ⟨rfl, hb⟩
      exact ⟨rfl, hb.grown⟩
    have h := AnyQ.slices_SortFunc laysSortM 2 Tryz.isAgg47 Tryz.sizeOf47 encRM encRM_len encRM_one cmpRM (swo_of cmpRM_ord) 67 #[] g 0 cap m.toArray w (Go.Proofs.enters_of Tryz.func67 (by kernel_rfl) rfl) hcmp hH hgw (by omega)
    rw [hms] at h
    refine h.mono ?_
    rintro e w' ⟨rfl, d', n, os, hp, hs, rfl⟩
    obtain ⟨hp1, _, hp3⟩ := hp
    have hH2 : HoldsK encRM 2 (sortWorldK encRM 2 w g 0 n d' os) g 0 d' := holdsK_sortWorldK_c encRM 2 w g 0 m.toArray d' n os hH hgw hp1
    refine ⟨rfl, ⟨d'.toList.map tRM, ?_, ?_, ?_⟩, below_sortWK hB (Nat.le_refl _) (by omega) 0 n d' os⟩
    · have := modsAt_holds (cap := cap) hH2 (by omega) (by unfold maxLen at hm; exact hm)
      rw [hp1, hms] at this
      exact this
    · have hpm := hp3
      rw [Array.extract_eq_self_of_le (show d'.size ≤ L.length by omega), Array.extract_eq_self_of_le (show m.toArray.size ≤ L.length by omega)] at hpm
      rw [← hd]
      unfold mdTs
      rw [List.map_map]
      exact hpm.map tRM
    · rw [List.pairwise_map, List.pairwise_iff_getElem]
      intro i j hi hj hij
      have hj' : j < d'.size := by simpa using hj
      have h1 := hs i j (Nat.zero_le _) hij (by omega)
      unfold ltOf at h1
      rw [decide_eq_false_iff_not, getElem!_pos d' i (by omega), getElem!_pos d' j hj'] at h1
      have := cmpRM_ord.anti d'[i] d'[j]
      have := cmpRM_ord.anti d'[j] d'[i]
      show cmpRM d'.toList[i] d'.toList[j] ≤ 0
      rw [Array.getElem_toList, Array.getElem_toList]
      omega
end Go.Proofs.Pw

namespace Go.Proofs.Pw
open Go.RowKit
open Go.Lib hiding intOf
noncomputable def reachR (l : List En) (roots : List Md) : List Md := if (startErr l roots).1 = 0 then reachL l roots else []
theorem rises_le {l : List Md} (h : l.Pairwise fun a b => modCmp a b ≤ 0) (hn : l.Nodup) (hr : ∀ m ∈ l, mdErr m = 0) : Rises modCmp l := by
  unfold Rises
  have h2 := h.and hn
  refine List.Pairwise.imp_of_mem ?_ h2
  intro a b ha hb ⟨h3, h4⟩
  rcases Int.lt_or_eq_of_le h3 with h5 | h5
  · exact h5
  · exact absurd (modCmp_zero (hr a ha) (hr b hb) h5) h4
theorem RightI.small {l : List En} (h : RightI l) {e : En} (he : e ∈ l) : e.reqs.length ≤ 20 := by
  have h1 := h.reqs e he
  unfold reqsErr at h1
  by_cases h2 : 20 < e.reqs.length
  · rw [if_pos h2] at h1; cases h1
  · omega
theorem mdTs_keys (S : List (MB × MB)) : mdTs (S.map (·.1)) = (cameOf S).map (·.1) := by
  unfold mdTs cameOf
  rw [List.map_map, List.map_map]
  rfl
theorem came_ok {l : List En} {roots : List Md} {S : List (MB × MB)} (hG : RightG l roots) (hs : ShortI l) (hS : cameOf S = walkS l roots) : ∀ m ∈ S.map (·.1), OkM m := by
  intro m hm
  have h1 := cameOf_mem.2 hm
  rw [hS] at h1
  have h2 := (walkS_mem hG _).1 h1
  obtain ⟨e, he, e1⟩ := hG.entry h2
  have h3 := hs.mds e he
  rw [e1] at h3
  refine ⟨(modErr_zero (hG.right h2)).2, ?_⟩
  rw [size_eq]
  exact Nat.le_trans h3.2 (by decide)
theorem walk_sorted {l : List En} {roots l' : List Md} {S : List (MB × MB)} (hG : RightG l roots) (hS : cameOf S = walkS l roots) (hp : l'.Perm (mdTs (S.map (·.1)))) (hl : l'.Pairwise fun a b => modCmp a b ≤ 0) : l' = reachL l roots := by
  have hm : ∀ m, m ∈ l' ↔ Reached l roots m := fun m => by
    rw [hp.mem_iff, mdTs_keys, hS, walkS_mem hG]
  have hn : l'.Nodup := by
    rw [hp.nodup_iff, mdTs_keys, hS]
    exact (walkS_walked hG).nd
  exact hG.is (rises_le hl hn (fun m h => hG.right ((hm m).1 h))) hm
set_option maxHeartbeats 4000000 in
set_option maxRecDepth 100000 in
theorem grReach_in (ks : List Nat) (A : Nat → Addr) (hks : IdxKs ks) (a : Option Addr) (n cap : Nat) (P V : Nat → ByteArray) (R : Nat → List Md) (K : Nat → List Str) (Bk : Nat → Bool) (Rv Kv : Nat → Value) (rv : Value) (roots : List Md) (w : World) (hE : EnvP ks A w) (h : EntsIn w a n cap P V R K Bk Rv Kv) (hs : ShortI (enF n P V R K Bk)) (hr : ModsAt w rv roots) (hl : roots.length ≤ 100000) :
    Calls Tryz.prog 27 #[.slice a n cap, rv] w fun e w' => (∃ x ev, e = .returned (.tuple #[x, ev]) ∧ FaultAt A w' ev (startErr (enF n P V R K Bk) roots) ∧ ModsAt w' x (reachR (enF n P V R K Bk) roots)) ∧ Below w.heap.size w w' := by
  have hst := grStart_in ks A hks a n cap P V R K Bk Rv Kv rv roots w hE h hs hr (by omega)
  have H := Lib.hid h
  have HS := Lib.hid hs
  have HE := Lib.hid hE
  obtain ⟨ar, rn, rc, _, _, rfl, _⟩ := id hr
  have HR := Lib.hid hr
  replace hst := Lib.hid hst
  clear h hs hE hr
  go_enter Tryz.func27, Tryz.ntmps27
  go_wp2_with fail
  refine hst.out.mono ?_
  rintro e w1 ⟨⟨v, rfl, hv⟩, hB⟩
  clear hst
  rcases fault_form hv with ⟨h0, rfl⟩ | ⟨h0, ty, q, rfl⟩
  · have hG := rightG_of h0
    have hn : n ≤ 100 := by have := hG.idx.len; rwa [enF_length] at this
    have hRj : ∀ j, j < n → (R j).length ≤ 1000 := fun j hj => by
      have h2 := hG.idx.small (List.mem_of_getElem? (enF_get n P V R K Bk j hj))
      have h3 : (R j).length ≤ 20 := h2
      omega
    have hwk := grWalk_in a n cap P V R K Bk Rv Kv (.slice ar rn rc) roots w1 (H.out.below hB) (HR.out.below hB) hl (by omega) hRj hG
    have h00 := startErr_at h0
    have HG := Lib.hid hG
    have H0 := Lib.hid h00
    replace hwk := Lib.hid hwk
    clear hG h00 h0 hv hRj hn
    go_wp2_with fail
    refine hwk.out.mono ?_
    rintro e w2 ⟨⟨x, S, rfl, hGo, hS⟩, hb2⟩
    have hB2 := below_step hB hb2
    have hSl : (S.map (·.1)).length ≤ 1000000 := by
      have h1 := (walkS_walked HG.out).len HG.out
      rw [← hS, cameOf_length, enF_length] at h1
      have h2 := HG.out.idx.len
      rw [enF_length] at h2
      rw [List.length_map]; omega
    have hso := sortM_calls ks A w w2 HE.out (w1.heap.size + 3) x (S.map (·.1)) hB2 (by have := hB.size; omega) hGo.own (came_ok HG.out HS.out hS) hSl
    obtain ⟨ax, nx, cx, rfl⟩ := own_form hGo.own
    have HSS := Lib.hid hS
    replace hso := Lib.hid hso
    clear hwk hGo hS hSl
    go_wp2_with fail
    refine hso.out.mono ?_
    rintro e w3 ⟨rfl, ⟨l', hM, hp, hpw⟩, hB3⟩
    have HM := Lib.hid (And.intro hM (And.intro hp hpw))
    clear hM hp hpw
    go_wp2_with fail
    go_ret2
    refine ⟨⟨_, _, rfl, ?_, ?_⟩, hB3⟩
    · rw [H0.out]; exact .inl ⟨rfl, rfl, rfl⟩
    · unfold reachR
      rw [if_pos (by rw [H0.out]), ← walk_sorted HG.out HSS.out HM.out.2.1 HM.out.2.2]
      exact HM.out.1
  · have HV := Lib.hid hv
    have H0 := Lib.hid h0
    clear hv h0
    go_wp2_with fail
    go_ret2
    refine ⟨⟨_, _, rfl, HV.out, ?_⟩, hB⟩
    unfold reachR
    rw [if_neg H0.out]
    exact ModsAt.nil _
end Go.Proofs.Pw
