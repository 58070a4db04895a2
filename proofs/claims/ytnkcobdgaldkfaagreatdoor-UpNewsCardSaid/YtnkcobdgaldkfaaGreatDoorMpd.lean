/- Mp: walks and plain laws, joined: IdxCheck GrStart MapMd GrCome GrWalkMath GrWalk Bel VerD VerSplitD VerCmpD ModCmpD SortLayM SortM GrReach ReachOf Mvs GrEdges BuildOf Reached MvsUnder Built TrimMath SlEqM Trim Trimmed. Conditions: at each theorem. -/
import Derived.Test.YtnkcobdgaldkfaaGreatDoorMpb
import Derived.Test.YtnkcobdgaldkfaaGreatDoorMpc
import Derived.Test.YtnkcobdgaldkfaaGreatDoorMpa
import Derived.MapKept
import Derived.Carry
import Derived.DeepKeys3
import Derived.Laws.Entries
import Derived.Deep.RegionWith
import Derived.Test.YtnkcobdgaldkfaaGreatDoorProg
import Derived.Shelf.SlSortCmp.NoneTotal

/- index.Check. Conditions: texts of at most 1000000 bytes, lists of at most 1000000. -/
namespace Go.Proofs.Pw
open Go.RowKit
open Go.Lib hiding intOf

theorem any_findI {α : Type} {p : α → Bool} {l : List α} : l.any p = true ↔ 0 ≤ findI p l := by
  by_cases h : findI p l < 0
  · refine iff_of_false (fun h2 => ?_) (by omega)
    obtain ⟨x, hx, h3⟩ := List.any_eq_true.1 h2
    have := findI_eq_none.1 h x hx
    rw [this] at h3; cases h3
  · refine iff_of_true ?_ (by omega)
    obtain ⟨x, hx, h3⟩ := findI_spec (show findI p l = ((findI p l).toNat : Int) by omega)
    exact List.any_eq_true.2 ⟨x, List.mem_of_getElem? hx, h3⟩

theorem containsMf_calls (g : Nat) (lb : Array Value) (eg : ∀ args w, (callFunc g args).run Tryz.prog w = .ok (.enter g args) w) (p : Md → Bool) (a : Option Addr) (n cap base : Nat) (P V : Nat → ByteArray) (w : World) (hn : n ≤ 1000000) (hbase : base ≤ w.heap.size)
    (hc : ∀ j, j < n → ∃ b o, a = some ⟨b, o, none⟩ ∧ w.cell? ⟨b, o + j * 2, none⟩ = some (.string (P j)) ∧ w.cell? ⟨b, o + j * 2 + 1, none⟩ = some (.string (V j))) (hT : TestsM g lb p n P V base w) :
    Calls Tryz.prog 60 #[.slice a n cap, .func (.func g) #[] lb] w fun e w' => e = .returned (.bool ((mdF n P V).any p)) ∧ Below w.heap.size w w' := by
  have hi := indexFuncM_calls g lb eg p a n cap base P V w hn hbase hc hT
  have hany := any_findI (p := p) (l := mdF n P V)
  generalize (mdF n P V).any p = X at hany ⊢
  generalize findI p (mdF n P V) = i at hany hi
  replace hi := Lib.hid hi
  clear hc hT
  go_enter Tryz.func60, Tryz.ntmps60
  go_wp2_with fail
  refine hi.out.mono ?_
  rintro e w1 ⟨rfl, hb⟩
  cases X with
  | true =>
    have h0 := hany.1 rfl
    clear hany
    go_wp2_with fail
    go_ret
    exact ⟨rfl, hb⟩
  | false =>
    have h0 : ¬ (0 ≤ i) := fun h => by have := hany.2 h; cases this
    clear hany
    go_wp2_with fail
    go_ret
    refine ⟨?_, hb⟩
    show Ending.returned (Value.bool (decide (0 ≤ i))) = _
    rw [decide_eq_false (by omega)]

theorem Tryz.enters_icheck1 : ∀ args w, (callFunc 107 args).run Tryz.prog w = .ok (.enter 107 args) w := Go.Proofs.enters_of Tryz.func107 (by kernel_rfl) rfl
theorem idxCheck1_calls (a : Option Addr) (n cap : Nat) (P V : Nat → ByteArray) (R : Nat → List Md) (K : Nat → List Str) (B : Nat → Bool) (Rv Kv : Nat → Value) (b : Nat) (p v : ByteArray) (w : World) (h : EntsIn w a n cap P V R K B Rv Kv) (hl : n ≤ 1000000) (z : w.cell? ⟨b, 0, none⟩ = some (.slice a n cap)) :
    Calls Tryz.prog 107 #[.agg #[.string p, .string v], .pointer (some ⟨b, 0, none⟩)] w fun e w' => e = .returned (.bool (lost (enF n P V R K B) (p.data.toList, v.data.toList))) ∧ Below w.heap.size w w' := by
  have hb := below_alloc w (.cells #[.string p, .string v] 38)
  have hz := box2_alloc w (.string p) (.string v) 38
  have z1 := Below.cell_some hb z
  have hf := idxFind_in a n cap P V R K B Rv Kv p v (w.alloc (.cells #[.string p, .string v] 38)) (h.below hb) hl
  show Calls _ _ _ _ fun e w' => e = .returned (.bool (decide (findE (enF n P V R K B) (p.data.toList, v.data.toList) < 0))) ∧ Below w.heap.size w w'
  generalize findE (enF n P V R K B) (p.data.toList, v.data.toList) = x at hf ⊢
  replace hf := Lib.hid hf
  clear h z
  obtain ⟨y0, y1, _⟩ := hz
  go_enter Tryz.func107, Tryz.ntmps107
  go_wp2_with fail
  refine hf.out.mono ?_
  rintro e w1 ⟨rfl, hb1⟩
  go_wp2_with fail
  go_ret
  exact ⟨rfl, below_step hb hb1⟩

set_option maxHeartbeats 4000000 in
set_option maxRecDepth 100000 in
theorem idxCheck_in (ks : List Nat) (A : Nat → Addr) (hks : IdxKs ks) (a : Option Addr) (n cap : Nat) (P V : Nat → ByteArray) (R : Nat → List Md) (K : Nat → List Str) (B : Nat → Bool) (Rv Kv : Nat → Value) (w : World) (hE : EnvP ks A w) (h : EntsIn w a n cap P V R K B Rv Kv) (hs : ShortI (enF n P V R K B)) :
    Calls Tryz.prog 58 #[.slice a n cap] w fun e w' => (∃ v, e = .returned v ∧ FaultAt A w' v (idxErr (enF n P V R K B))) ∧ Below w.heap.size w w' := by
  have hB := below_alloc w (.cells #[.slice a n cap] 22)
  have z1 : (w.alloc (.cells #[.slice a n cap] 22)).cell? ⟨w.heap.size, 0, none⟩ = some (.slice a n cap) := by simp
  have hn : n ≤ 1000000 := by have := hs.len; rw [enF_length] at this; exact this
  replace hE := hE.below hB
  have HE : Hid (idxErr (enF n P V R K B) = if 100 < n then (7, -1) else orE (firstE (entErr (enF n P V R K B)) n) (firstE (lostE (enF n P V R K B)) n)) := Lib.hid (by unfold idxErr; rw [enF_length])
  have H := Lib.hid h
  have HS := Lib.hid hs
  clear h hs
  by_cases h100 : 100 < n
  · have h100' : (100 : Int) < (n : Int) := by omega
    have HF : Hid (idxErr (enF n P V R K B) = (7, -1)) := Lib.hid (by rw [HE.out, if_pos h100])
    have HR : Hid (∀ W, FaultAt A W (errV A 7) (7, -1)) := Lib.hid (fun W => .inr (.inl ⟨by decide, rfl, rfl⟩))
    rw [errV_pos A (c := 7) (by decide)] at HR
    have g7 := hE.errs.var 7 hks.2.2.2.1
    simp only [errG] at g7
    go_enter Tryz.func58, Tryz.ntmps58
    go_wp2_with fail
    go_ret
    rw [HF.out]
    exact ⟨⟨_, rfl, HR.out _⟩, hB⟩
  · have h100' : ¬ (100 : Int) < (n : Int) := by omega
    have HE1 : Hid (idxErr (enF n P V R K B) = orE (firstE (entErr (enF n P V R K B)) n) (firstE (lostE (enF n P V R K B)) n)) := Lib.hid (by rw [HE.out, if_neg h100])
    clear HE h100
    go_enter Tryz.func58, Tryz.ntmps58
    go_wp2_with fail
    generalize hw1 : w.alloc (.cells #[.slice a n cap] 22) = w1 at *
    clear hw1 h100'
    go_loopw [13] (fun i wr => ∃ k : Nat, k ≤ n ∧ i = .int .i64 k ∧ Below w1.heap.size w1 wr ∧ Hid (∀ j, j < k → entErr (enF n P V R K B) j = 0)) (fun i _ => n - (intOf i).toNat)
    case atStart => exact ⟨0, Nat.zero_le _, rfl, Below.refl _ _, Lib.hid (fun j hj => absurd hj (Nat.not_lt_zero _))⟩
    case round =>
      obtain ⟨k, hk, rfl, hb, HA⟩ := hrel
      have hBr := below_step hB hb
      have d1 := Below.cell_some hb z1
      by_cases hlt : k < n
      · have hkn : (k : Int) < (n : Int) := by omega
        have hen := idxEntry_calls ks A hks a n cap P V R K B Rv Kv k wr (hE.below hb) (H.out.below hBr) HS.out hlt
        by_cases h0 : entErr (enF n P V R K B) k = 0
        · have HN : Hid (∀ j, j < k + 1 → entErr (enF n P V R K B) j = 0) := Lib.hid (fun j hj => by
            by_cases e : j = k
            · subst e; exact h0
            · exact HA.out j (by omega))
          rw [h0, errV_zero] at hen
          clear h0
          replace hen := Lib.hid hen
          go_wp2_with fail
          refine hen.out.mono ?_
          rintro e w3 ⟨rfl, hb3⟩
          go_wp2_with fail
          go_roundw
          case rel => exact ⟨k + 1, by omega, by go_num, below_step hb hb3, HN⟩
          case measure => simp [intOf]; omega
        · have HF : Hid (idxErr (enF n P V R K B) = (entErr (enF n P V R K B) k, (k : Int))) := Lib.hid (by
            rw [HE1.out]; unfold orE; rw [firstE_hit h0 HA.out hlt, if_pos h0])
          have H0 := Lib.hid h0
          rw [errV_pos A h0] at hen
          clear h0
          replace hen := Lib.hid hen
          go_wp2_with fail
          refine hen.out.mono ?_
          rintro e w3 ⟨rfl, hb3⟩
          go_wp2_with fail
          go_ret
          rw [HF.out]
          refine ⟨⟨_, rfl, .inr (.inr ⟨H0.out, w3.heap.size, rfl, by simp, ?_⟩)⟩, (below_step hBr hb3).alloc (below_step hBr hb3).size _⟩
          rw [errV_pos A H0.out]
          simp
      · obtain rfl : n = k := by omega
        have HE2 : Hid (idxErr (enF n P V R K B) = firstE (lostE (enF n P V R K B)) n) := Lib.hid (by
          rw [HE1.out]; unfold orE; rw [firstE_none HA.out, if_neg (by decide)])
        have hE5 := hE.below hb
        clear HE1 HA hlt hk z1 hE hB hb
        go_wp2_with fail
        generalize wr = w5 at *
        go_loopw [29] (fun i wr => ∃ k : Nat, k ≤ n ∧ i = .int .i64 k ∧ Below w5.heap.size w5 wr ∧ Hid (∀ j, j < k → lostE (enF n P V R K B) j = 0)) (fun i _ => n - (intOf i).toNat)
        case atStart => exact ⟨0, Nat.zero_le _, rfl, Below.refl _ _, Lib.hid (fun j hj => absurd hj (Nat.not_lt_zero _))⟩
        case round =>
          obtain ⟨k, hk, rfl, hb, HA⟩ := hrel
          have hB6 := below_step hBr hb
          replace d1 := Below.cell_some hb d1
          by_cases hlt : k < n
          · have hkn : (k : Int) < (n : Int) := by omega
            obtain ⟨b1, o1, ea, hcell⟩ := (H.out.below hB6).at_ k hlt
            obtain ⟨a1, n1, s1, a2, n2, s2, e1, e2⟩ := H.out.forms hlt
            have hM := (H.out.below hB6).reqs k hlt
            have hsR := (HS.out.at_ hlt).2.2.2.1
            rw [e1, e2] at hcell
            rw [e1] at hM
            obtain ⟨aM, nM, cM, P2, V2, e3, e4, h5, h6, h7⟩ := hM
            injection e3 with e5 e6 e7
            subst e5 e6 e7
            have hnM : n1 ≤ 1000000 := by have := hsR.1; rw [e4, mdF_length] at this; exact this
            have hba := below_alloc wr (.cells #[.string (P k), .string (V k), .slice a1 n1 s1, .slice a2 n2 s2, .bool (B k)] 43)
            have y2 : (wr.alloc (.cells #[.string (P k), .string (V k), .slice a1 n1 s1, .slice a2 n2 s2, .bool (B k)] 43)).cell? ⟨wr.heap.size, 2, none⟩ = some (.slice a1 n1 s1) := by simp
            have hB7 := below_step hB6 hba
            have hb7 := below_step hb hba
            have hcm := containsMf_calls 107 #[.pointer (some ⟨w.heap.size, 0, none⟩)] Tryz.enters_icheck1 (lost (enF n P V R K B)) a1 n1 s1 (wr.alloc (.cells #[.string (P k), .string (V k), .slice a1 n1 s1, .slice a2 n2 s2, .bool (B k)] 43)).heap.size P2 V2 (wr.alloc (.cells #[.string (P k), .string (V k), .slice a1 n1 s1, .slice a2 n2 s2, .bool (B k)] 43)) hnM (Nat.le_refl _)
              (fun j hj => let ⟨b, o, e, h1, h2⟩ := h7 j hj; ⟨b, o, e, Below.cell_some hba h1, Below.cell_some hba h2⟩)
              (fun W hW j hj => idxCheck1_calls a n cap P V R K B Rv Kv w.heap.size (P2 j) (V2 j) W ((H.out.below hB7).below hW) hn (Below.cell_some hW (Below.cell_some hba d1)))
            have hR : lostE (enF n P V R K B) k = if (mdF n1 P2 V2).any (lost (enF n P V R K B)) = true then 5 else 0 := by
              unfold lostE
              rw [enAt_enF hlt]
              show (if (R k).any _ = true then 5 else 0) = _
              rw [e4]
            have hE7 := hE5.below hb7
            subst ea
            obtain ⟨c0, c1, c2, c3, c4⟩ := hcell
            clear e1 e2 e4 h5 h6 h7 hsR hnM hB6
            cases hX : (mdF n1 P2 V2).any (lost (enF n P V R K B)) with
            | false =>
              rw [hX] at hcm
              rw [hX, if_neg (by decide)] at hR
              have HN : Hid (∀ j, j < k + 1 → lostE (enF n P V R K B) j = 0) := Lib.hid (fun j hj => by
                by_cases e : j = k
                · subst e; exact hR
                · exact HA.out j (by omega))
              clear hX hR
              replace hcm := Lib.hid hcm
              go_wp2_with fail
              refine hcm.out.mono ?_
              rintro e w8 ⟨rfl, hb8⟩
              go_wp2_with fail
              go_roundw
              case rel => exact ⟨k + 1, by omega, by go_num, below_step hb7 hb8, HN⟩
              case measure => simp [intOf]; omega
            | true =>
              rw [hX] at hcm
              rw [hX, if_pos rfl] at hR
              have HF : Hid (idxErr (enF n P V R K B) = (5, (k : Int))) := Lib.hid (by
                rw [HE2.out, firstE_hit (by rw [hR]; decide) HA.out hlt, hR])
              clear hX hR
              replace hcm := Lib.hid hcm
              go_wp2_with fail
              refine hcm.out.mono ?_
              rintro e w8 ⟨rfl, hb8⟩
              have hE8 := hE7.below hb8
              have g5 := hE8.errs.var 5 hks.2.2.1
              simp only [errG] at g5
              go_wp2_with fail
              go_ret
              rw [HF.out]
              refine ⟨⟨_, rfl, .inr (.inr ⟨(show (5 : Nat) ≠ 0 by decide), w8.heap.size, rfl, by simp, ?_⟩)⟩, (below_step hB7 hb8).alloc (below_step hB7 hb8).size _⟩
              show _ = some (errV A 5)
              rw [errV_pos A (show (5 : Nat) ≠ 0 by decide)]
              simp
          · obtain rfl : n = k := by omega
            have HF : Hid (idxErr (enF n P V R K B) = (0, -1)) := Lib.hid (by rw [HE2.out, firstE_none HA.out])
            go_wp2_with fail
            go_ret
            rw [HF.out]
            exact ⟨⟨_, rfl, .inl ⟨rfl, rfl, rfl⟩⟩, hB6⟩
theorem idxCheck_calls (ks : List Nat) (A : Nat → Addr) (hks : IdxKs ks) (v : Value) (l : List En) (w : World) (hE : EnvP ks A w) (h : EntsAt w v l) (hs : ShortI l) :
    Calls Tryz.prog 58 #[v] w fun e w' => (∃ v, e = .returned v ∧ FaultAt A w' v (idxErr l)) ∧ Below w.heap.size w w' := by
  obtain ⟨a, n, cap, P, V, R, K, B, Rv, Kv, rfl, rfl, hin⟩ := h
  exact idxCheck_in ks A hks a n cap P V R K B Rv Kv w hE hin hs
end Go.Proofs.Pw

/- graph.start. Conditions: texts of at most 1000000 bytes, lists of at most 1000000. -/
namespace Go.Proofs.Pw
open Go.RowKit
open Go.Lib hiding intOf

set_option maxHeartbeats 4000000 in
set_option maxRecDepth 100000 in
theorem grStart_in (ks : List Nat) (A : Nat → Addr) (hks : IdxKs ks) (a : Option Addr) (n cap : Nat) (P V : Nat → ByteArray) (R : Nat → List Md) (K : Nat → List Str) (B : Nat → Bool) (Rv Kv : Nat → Value) (rv : Value) (roots : List Md) (w : World) (hE : EnvP ks A w) (h : EntsIn w a n cap P V R K B Rv Kv) (hs : ShortI (enF n P V R K B)) (hr : ModsAt w rv roots) (hl : roots.length ≤ 1000000) :
    Calls Tryz.prog 65 #[.slice a n cap, rv] w fun e w' => (∃ v, e = .returned v ∧ FaultAt A w' v (startErr (enF n P V R K B) roots)) ∧ Below w.heap.size w w' := by
  have hn : n ≤ 1000000 := by have := hs.len; rw [enF_length] at this; exact this
  have hck := idxCheck_in ks A hks a n cap P V R K B Rv Kv w hE h hs
  have HE : Hid (startErr (enF n P V R K B) roots = orE (idxErr (enF n P V R K B)) (firstE (rootE (enF n P V R K B) roots) roots.length)) := Lib.hid rfl
  have H := Lib.hid h
  clear h hs
  obtain ⟨ar, rn, rc, P2, V2, rfl, rfl, h5, h6, h7⟩ := hr
  rw [mdF_length] at hl HE
  replace hck := Lib.hid hck
  replace h7 := Lib.hid h7
  clear h5 h6
  go_enter Tryz.func65, Tryz.ntmps65
  go_wp2_with fail
  refine hck.out.mono ?_
  rintro e w1 ⟨⟨v, rfl, hv⟩, hB⟩
  have hE1 := hE.below hB
  clear hck hE
  rcases fault_form hv with ⟨h0, rfl⟩ | ⟨h0, ty, q, rfl⟩
  · have HE1 : Hid (startErr (enF n P V R K B) (mdF rn P2 V2) = firstE (rootE (enF n P V R K B) (mdF rn P2 V2)) rn) := Lib.hid (by rw [HE.out]; unfold orE; rw [if_neg (by simp [h0])])
    clear HE h0 hv
    go_wp2_with fail
    go_loopw [15] (fun i wr => ∃ k : Nat, k ≤ rn ∧ i = .int .i64 k ∧ Below w1.heap.size w1 wr ∧ Hid (∀ j, j < k → rootE (enF n P V R K B) (mdF rn P2 V2) j = 0)) (fun i _ => rn - (intOf i).toNat)
    case atStart => exact ⟨0, Nat.zero_le _, rfl, Below.refl _ _, Lib.hid (fun j hj => absurd hj (Nat.not_lt_zero _))⟩
    case round =>
      obtain ⟨k, hk, rfl, hb, HA⟩ := hrel
      have hBr := below_step hB hb
      by_cases hlt : k < rn
      · have hkn : (k : Int) < (rn : Int) := by omega
        obtain ⟨b1, o1, ea, c0, c1⟩ := h7.out k hlt
        replace c0 := Below.cell_some hBr c0
        replace c1 := Below.cell_some hBr c1
        have hba := below_alloc wr (.cells #[.string (P2 k), .string (V2 k)] 38)
        obtain ⟨y0, y1, _⟩ := box2_alloc wr (.string (P2 k)) (.string (V2 k)) 38
        have hB2 := below_step hBr hba
        have hb2 := below_step hb hba
        have hE2 := hE1.below hb2
        have hf := idxFind_in a n cap P V R K B Rv Kv (P2 k) (V2 k) (wr.alloc (.cells #[.string (P2 k), .string (V2 k)] 38)) (H.out.below hB2) hn
        have hR : rootE (enF n P V R K B) (mdF rn P2 V2) k = if findE (enF n P V R K B) ((P2 k).data.toList, (V2 k).data.toList) < 0 then 5 else 0 := by
          unfold rootE
          rw [mdAt_mdF hlt]
        generalize findE (enF n P V R K B) ((P2 k).data.toList, (V2 k).data.toList) = x at hf hR
        subst ea
        replace hf := Lib.hid hf
        by_cases hx : x < 0
        · rw [if_pos hx] at hR
          have HF : Hid (startErr (enF n P V R K B) (mdF rn P2 V2) = (5, (k : Int))) := Lib.hid (by rw [HE1.out, firstE_hit (by rw [hR]; decide) HA.out hlt, hR])
          clear hR hk
          go_wp2_with fail
          refine hf.out.mono ?_
          rintro e w8 ⟨rfl, hb8⟩
          have hE8 := hE2.below hb8
          have g5 := hE8.errs.var 5 hks.2.2.1
          simp only [errG] at g5
          go_wp2_with fail
          go_ret
          rw [HF.out]
          refine ⟨⟨_, rfl, .inr (.inr ⟨(show (5 : Nat) ≠ 0 by decide), w8.heap.size, rfl, by simp, ?_⟩)⟩, (below_step hB2 hb8).alloc (below_step hB2 hb8).size _⟩
          show _ = some (errV A 5)
          rw [errV_pos A (show (5 : Nat) ≠ 0 by decide)]
          simp
        · rw [if_neg hx] at hR
          have HN : Hid (∀ j, j < k + 1 → rootE (enF n P V R K B) (mdF rn P2 V2) j = 0) := Lib.hid (fun j hj => by
            by_cases e : j = k
            · subst e; exact hR
            · exact HA.out j (by omega))
          clear hR hk
          go_wp2_with fail
          refine hf.out.mono ?_
          rintro e w8 ⟨rfl, hb8⟩
          go_wp2_with fail
          go_roundw
          case rel => exact ⟨k + 1, by omega, by go_num, below_step hb2 hb8, HN⟩
          case measure => simp [intOf]; omega
      · obtain rfl : rn = k := by omega
        have HF : Hid (startErr (enF n P V R K B) (mdF rn P2 V2) = (0, -1)) := Lib.hid (by rw [HE1.out, firstE_none HA.out])
        go_wp2_with fail
        go_ret
        rw [HF.out]
        exact ⟨⟨_, rfl, .inl ⟨rfl, rfl, rfl⟩⟩, hBr⟩
  · have HF : Hid (startErr (enF n P V R K B) (mdF rn P2 V2) = idxErr (enF n P V R K B)) := Lib.hid (by rw [HE.out]; unfold orE; rw [if_pos h0])
    have HV := Lib.hid hv
    clear hv h0
    go_wp2_with fail
    go_ret
    rw [HF.out]
    exact ⟨⟨_, rfl, HV.out⟩, hB⟩
end Go.Proofs.Pw

/- A map from modules to modules in memory: look-up, a new entry. -/
namespace Go.Proofs.Pw
open Go.RowKit
open Go.Lib hiding intOf

abbrev MB := ByteArray × ByteArray
def mdV (m : MB) : Value := .agg #[.string m.1, .string m.2]
def noMB : MB := (⟨#[]⟩, ⟨#[]⟩)
def mapF (S : List (MB × MB)) (k : MB) : Option MB := (S.find? fun p => decide (k = p.1)).map (·.2)
def MapIs (w : World) (b : Nat) (S : List (MB × MB)) : Prop :=
  ∃ es clock, w.heap[b]? = some (.map es clock) ∧ es.toList.map (fun e => (e.key, e.val)) = S.map fun p => (mdV p.1, mdV p.2)

theorem mdV_equal (k m : MB) (w : World) : (Op.equal 38 (mdV k) (mdV m)).run Tryz.prog w = .ok (decide (k = m)) w := by
  have h := md_equal k.1 k.2 m.1 m.2 w
  have e : decide (k.1 = m.1 ∧ k.2 = m.2) = decide (k = m) := by
    exact decide_eq_decide.2 (Prod.ext_iff (x := k) (y := m)).symm
  rw [e] at h
  exact h
theorem run_findAsking_md (k : MB) (w : World) : ∀ (es : List MapEntry) (S : List (MB × MB)) (i : Nat), es.map (fun e => (e.key, e.val)) = S.map (fun p => (mdV p.1, mdV p.2)) →
    ∃ r, (Instr.findAsking 38 (mdV k) es i).run Tryz.prog w = .ok r w ∧ r.map (·.2) = (mapF S k).map mdV
  | [], [], i, _ => ⟨none, rfl, rfl⟩
  | [], _ :: _, i, h => by cases h
  | _ :: _, [], i, h => by cases h
  | e :: es, p :: S, i, h => by
    rw [List.map_cons, List.map_cons] at h
    injection h with h1 h2
    injection h1 with h3 h4
    have hq := mdV_equal k p.1 w
    unfold Instr.findAsking mapF
    rw [List.find?_cons, h3]
    by_cases hk : k = p.1
    · rw [decide_eq_true hk] at hq
      simp only [decide_eq_true hk]
      refine ⟨some (i, e.val), ?_, by simp [h4]⟩
      simp only [Sem.run_bind, hq, Result.andThen_ok, if_true, Sem.run_pure]
    · rw [decide_eq_false hk] at hq
      simp only [decide_eq_false hk]
      obtain ⟨r, hr, e2⟩ := run_findAsking_md k w es S (i + 1) h2
      refine ⟨r, ?_, e2⟩
      simp only [Sem.run_bind, hq, Result.andThen_ok, Bool.false_eq_true, if_false, hr]
theorem run_findKey_md (k : MB) (w : World) (es : List MapEntry) (S : List (MB × MB)) (h : es.map (fun e => (e.key, e.val)) = S.map (fun p => (mdV p.1, mdV p.2))) :
    ∃ r, (Instr.findKey 38 (mdV k) es).run Tryz.prog w = .ok r w ∧ r.map (·.2) = (mapF S k).map mdV := by
  unfold Instr.findKey
  simp only [Sem.run_bind, run_underlying Tryz.md_fields, Result.andThen_ok]
  cases es with
  | nil =>
    cases S with
    | nil => exact ⟨none, rfl, rfl⟩
    | cons _ _ => cases h
  | cons e es =>
    have : Instr.findNow (.struct (Tryz.prog.fieldsOf 38)) (mdV k) (e :: es) 0 = none := rfl
    rw [this]
    exact run_findAsking_md k w _ S 0 h
theorem md_part0 (p q : ByteArray) (w : World) : (part 9 #[.string p, .string q] 0).run Tryz.prog w = .ok (.string p) w := by
  have hu := Tryz.isAgg9
  have hs := Tryz.sizeOf9
  simp [part, hu, hs]
theorem md_part1 (p q : ByteArray) (w : World) : (part 9 #[.string p, .string q] 1).run Tryz.prog w = .ok (.string q) w := by
  have hu := Tryz.isAgg9
  have hs := Tryz.sizeOf9
  simp [part, hu, hs]
theorem run_checkKey_str (em : Bool) (n : Nat) (p : ByteArray) (w : World) : (Instr.checkKey em (n + 1) 9 (.string p)).run Tryz.prog w = .ok () w := by
  have hs := Tryz.underlying9
  rw [Instr.checkKey]
  simp only [Sem.run_bind, run_underlying hs, Result.andThen_ok]
  rfl
theorem run_checkKey_md (em : Bool) (k : MB) (w : World) : (Instr.checkKey em 10000 38 (mdV k)).run Tryz.prog w = .ok () w := by
  have hu := Tryz.underlying38
  unfold mdV
  rw [show (10000 : Nat) = 9998 + 1 + 1 from rfl, Instr.checkKey]
  simp only [Sem.run_bind, run_underlying hu, Result.andThen_ok]
  rw [← Array.forIn_toList]
  simp only [List.forIn_cons, List.forIn_nil, Sem.run_bind, Sem.run_pure, if_pos (show "Path" ≠ "_" by decide), if_pos (show "Ver" ≠ "_" by decide), md_part0, md_part1, run_checkKey_str, Result.andThen_ok]
theorem mapF_none {S : List (MB × MB)} {k : MB} : mapF S k = none ↔ k ∉ S.map (·.1) := by
  unfold mapF
  rw [Option.map_eq_none_iff, List.find?_eq_none]
  constructor
  · intro h hm
    obtain ⟨p, hp, e⟩ := List.mem_map.1 hm
    exact h p hp (by simp [e])
  · intro h p hp
    simp only [decide_eq_true_eq]
    exact fun e => h (e ▸ List.mem_map.2 ⟨p, hp, rfl⟩)
theorem run_zero_md (w : World) : (zeroValue 38).run Tryz.prog w = .ok (mdV noMB) w := Tryz.zeroValue38 w
/-- 'v, is := m[k]' -/
theorem md_lookup {w : World} {b : Nat} {S : List (MB × MB)} (h : MapIs w b S) (k : MB) (c : Bool) :
    (Instr.lookup 82 (.map (some b)) (mdV k) c).run Tryz.prog w = .ok (if c then .tuple #[mdV ((mapF S k).getD noMB), .bool (mapF S k).isSome] else mdV ((mapF S k).getD noMB)) w := by
  obtain ⟨es, clock, hb, he⟩ := h
  obtain ⟨r, hr, e⟩ := run_findKey_md k w es.toList S he
  unfold Instr.lookup
  simp only [Sem.run_bind, run_underlying Tryz.underlying82, Result.andThen_ok, MapKept.run_getObj_map hb, Sem.run_pure, run_checkKey_md, hr]
  cases r with
  | none =>
    rw [Option.map_none] at e
    have e' : mapF S k = none := by
      cases hm : mapF S k with
      | none => rfl
      | some _ => rw [hm] at e; cases e
    rw [e']
    simp only [Sem.run_bind, run_zero_md, Result.andThen_ok, Sem.run_pure]
    cases c <;> rfl
  | some jv =>
    cases hm : mapF S k with
    | none => rw [hm] at e; cases e
    | some m =>
      rw [hm] at e
      have e2 : jv.2 = mdV m := Option.some.inj e
      obtain ⟨j, v⟩ := jv
      simp only at e2
      subst e2
      simp only [Sem.run_bind, Result.andThen_ok, Sem.run_pure]
      cases c <;> rfl
/-- 'm[k] = v', at a new key -/
theorem md_new {w : World} {b : Nat} {S : List (MB × MB)} (h : MapIs w b S) (k v : MB) (hk : k ∉ S.map (·.1)) :
    ∃ w', (Instr.mapUpdate 82 (.map (some b)) (mdV k) (mdV v)).run Tryz.prog w = .ok () w' ∧ MapIs w' b (S ++ [(k, v)]) ∧ w.grownBy w' (some b) := by
  obtain ⟨es, clock, hb, he⟩ := h
  obtain ⟨r, hr, e⟩ := run_findKey_md k w es.toList S he
  have hn : r = none := by
    rw [mapF_none.2 hk] at e
    cases r with
    | none => rfl
    | some _ => cases e
  subst hn
  have hh := MapKept.heap_set (o' := .map (es.push { key := mdV k, val := mdV v, born := clock }) (clock + 1)) hb
  refine ⟨{ w with heap := w.heap.setIfInBounds b (.map (es.push { key := mdV k, val := mdV v, born := clock }) (clock + 1)) }, ?_, ⟨_, _, hh.1, ?_⟩, ⟨rfl, rfl, rfl, by simp, fun i _ hi => hh.2 i (fun e => hi (by rw [e]))⟩⟩
  · unfold Instr.mapUpdate
    simp only [Sem.run_bind, run_underlying Tryz.underlying82, Result.andThen_ok, MapKept.run_getObj_map hb, run_checkKey_md, hr, MapKept.run_setObj_map _ hb]
  · simp [he]
theorem MapIs.grown {w w' : World} {b : Nat} {S : List (MB × MB)} {row : Option Nat} (h : MapIs w b S) (hg : w.grownBy w' row) (hne : some b ≠ row) : MapIs w' b S := by
  obtain ⟨es, clock, hb, he⟩ := h
  have hl : b < w.heap.size := (Array.getElem?_eq_some_iff.1 hb).1
  exact ⟨es, clock, by rw [hg.block b hl hne]; exact hb, he⟩
theorem MapIs.below {w w' : World} {b : Nat} {S : List (MB × MB)} (h : MapIs w b S) (hb : Below w.heap.size w w') : MapIs w' b S := by
  obtain ⟨es, clock, h1, he⟩ := h
  have hl : b < w.heap.size := (Array.getElem?_eq_some_iff.1 h1).1
  exact ⟨es, clock, by rw [hb.block b hl]; exact h1, he⟩
theorem mapIs_made (w : World) : MapIs (w.alloc (.map #[] 0)) w.heap.size [] := ⟨#[], 0, Go.Deep.blk_alloc_new w _, rfl⟩
end Go.Proofs.Pw

/- graph.walk's closure: a module comes. -/
namespace Go.Proofs.Pw
open Go.RowKit
open Go.Lib hiding intOf

/-- what walk has made: a map (block B), its variable's box (B + 1), the row's box (B + 2); the row stands behind them -/
structure Going (B : Nat) (w : World) (x : Value) (S : List (MB × MB)) : Prop where
  cm : w.cell? ⟨B + 1, 0, none⟩ = some (.map (some B))
  ct : w.cell? ⟨B + 2, 0, none⟩ = some x
  ft : ∀ i, w.frozen? ⟨B + 2, i, none⟩ = false
  own : w.ownsRow (B + 3) 38 2 x (S.map (·.1)).length (mdVs (S.map (·.1)))
  map : MapIs w B S
theorem Going.below {B : Nat} {w w' : World} {x : Value} {S : List (MB × MB)} (h : Going B w x S) (hb : Below w.heap.size w w') : Going B w' x S :=
  ⟨Below.cell_some hb h.cm, Below.cell_some hb h.ct, fun i => (hb.frozen (p := ⟨B + 2, i, none⟩) (show B + 2 < w.heap.size from lt_of_cell h.ct)).trans (h.ft i), ownsRow_kept h.own hb, h.map.below hb⟩
theorem Going.lt {B : Nat} {w : World} {x : Value} {S : List (MB × MB)} (h : Going B w x S) : B + 2 < w.heap.size := lt_of_cell h.ct
theorem Going.ne {B : Nat} {w : World} {x : Value} {S : List (MB × MB)} (h : Going B w x S) {k : Nat} (hk : k < B + 3) : some k ≠ x.ownBlock := fun e => by
  have := (h.own.lt k e.symm).1; omega
theorem MapIs.setCell {w : World} {b c : Nat} {S : List (MB × MB)} (h : MapIs w b S) (hc : b ≠ c) (u : Value) : MapIs (w.setCell ⟨c, 0, none⟩ u) b S := by
  obtain ⟨es, clock, h1, he⟩ := h
  exact ⟨es, clock, (Go.Deep.blk_setCell_other _ _ _ _ hc).trans h1, he⟩
def comeB (S : List (MB × MB)) (m f : MB) : List (MB × MB) := if (mapF S m).isSome then S else S ++ [(m, f)]

set_option maxHeartbeats 2000000 in
set_option maxRecDepth 100000 in
theorem come_new (B : Nat) (p v q u : ByteArray) (x : Value) (S : List (MB × MB)) (w : World) (hG : Going B w x S) (hm : (p, v) ∉ S.map (·.1)) (hl : S.length ≤ 1000000) :
    Calls Tryz.prog 112 #[.agg #[.string p, .string v], .agg #[.string q, .string u], .pointer (some ⟨B + 1, 0, none⟩), .pointer (some ⟨B + 2, 0, none⟩)] w fun e w' => e = .returned (.tuple #[]) ∧ (∃ x', Going B w' x' (S ++ [((p, v), (q, u))])) ∧ Below B w w' := by
  obtain ⟨i0, hi0, hz0, hz1, hz2⟩ := info_parts Tryz.infoMod
  have hlt := hG.lt
  have hb1 := below_alloc w (.cells #[.string p, .string v] 38)
  have hb2 := below_alloc (w.alloc (.cells #[.string p, .string v] 38)) (.cells #[.string q, .string u] 38)
  have hb3 := below_alloc ((w.alloc (.cells #[.string p, .string v] 38)).alloc (.cells #[.string q, .string u] 38)) (.cells #[.string ⟨#[]⟩, .string ⟨#[]⟩] 38)
  have hB := below_step (below_step hb1 hb2) hb3
  obtain ⟨m0, m1, _⟩ := ((box2_alloc w (.string p) (.string v) 38).below hb2).below hb3
  obtain ⟨f0, f1, _⟩ := (box2_alloc (w.alloc (.cells #[.string p, .string v] 38)) (.string q) (.string u) 38).below hb3
  simp only [World.size_alloc] at f0 f1
  have hG3 := hG.below hB
  have hmf : mapF S (p, v) = none := mapF_none.2 hm
  have hlk := fun W (h : MapIs W B S) => md_lookup h (p, v) true
  simp only [hmf, Option.getD_none, Option.isSome_none, if_true, mdV, noMB] at hlk
  have hlk2 := hlk _ ((hG.map.below hb1).below hb2)
  obtain ⟨wD, hup, hMD, hgD⟩ := md_new hG3.map (p, v) (q, u) hm
  have hBD : Below B w wD := by
    have h1 := hB.mono (show B ≤ w.heap.size by omega)
    exact h1.grown hgD (by have := hB.size; omega) (fun k hk => by cases hk; exact Nat.le_refl _)
  simp only [mdV] at hup
  have nB : ∀ k, k ≠ B → some k ≠ some B := fun k h e => h (Option.some.inj e)
  have t0 := hgD.cell hG3.ct (nB (B + 2) (by omega))
  have t1 := hgD.cell hG3.cm (nB (B + 1) (by omega))
  have tf := fun i => (hgD.frozen_far ⟨B + 2, i, none⟩ (show B + 2 < _ from lt_of_cell hG3.ct) (nB (B + 2) (by omega))).trans (hG3.ft i)
  have n0 := hgD.cell m0 (nB w.heap.size (by omega))
  have n1 := hgD.cell m1 (nB w.heap.size (by omega))
  have hownD : wD.ownsRow (B + 3) 38 2 x (S.map (·.1)).length (mdVs (S.map (·.1))) := hG3.own.kept hgD (apart_row (o := .slice (some ⟨B, 0, none⟩) 0 0) (fun b hb e => by
    have := (hG3.own.lt b e).1
    have : b = B := (Option.some.inj hb).symm
    omega))
  have hszD := hBD.size
  have nx1 : some (B + 1) ≠ x.ownBlock := hG.ne (by omega)
  have nx2 : some (B + 2) ≠ x.ownBlock := hG.ne (by omega)
  have nx0 : some B ≠ x.ownBlock := hG.ne (by omega)
  have hge := fun k (e : x.ownBlock = some k) => (hownD.lt k e).1
  have hlen : (S.map (·.1)).length ≤ 1000000 := by rw [List.length_map]; exact hl
  have hba := below_alloc wD (.cells #[.string p, .string v] 38)
  have g0 := Below.cell_some hba t0
  have g1 := Below.cell_some hba t1
  have gl : B + 2 < (wD.alloc (.cells #[.string p, .string v] 38)).heap.size := lt_of_cell g0
  have gf := fun i => (hba.frozen (p := ⟨B + 2, i, none⟩) (show B + 2 < wD.heap.size from lt_of_cell t0)).trans (tf i)
  have gM := hMD.below hba
  have HH := Lib.hid (And.intro hownD (And.intro hge (And.intro gM (And.intro nx1 (And.intro nx2 nx0)))))
  have HG := Lib.hid (And.intro g0 (And.intro g1 gf))
  have HB := Lib.hid (hBD.alloc (show B ≤ wD.heap.size by omega) (.cells #[.string p, .string v] 38))
  obtain ⟨cm, ct, _, _, _⟩ := hG
  have c1 := Below.cell_some (below_step hb1 hb2) cm
  have c2 := Below.cell_some hB cm
  have c3 := Below.cell_some hB ct
  clear hlk hmf hm hG3 hgD hMD hownD hge g0 g1 gf gM nx1 nx2 nx0 nB tf hBD hb1 hb2 hb3 hB t1
  go_enter Tryz.func112, Tryz.ntmps112
  go_wp2_with (at_builtin; refine wpList_append_own _ rfl _ _ 23 rfl (B + 3) 38 i0 (.agg #[.string ⟨#[]⟩, .string ⟨#[]⟩]) 2 32 Tryz.underlying23 hi0 hz0 hz1 hz2 rfl (by decide) _ _ _ rfl (HH.out.1.alloc _) ⟨wD.heap.size, 0, none⟩ 1 1 [.string p, .string v] rfl rfl (cell_two_new _ _ _ _) (by intro u hu; simp at hu; rcases hu with rfl | rfl <;> rfl) (by unfold maxLen; omega) (by omega) (by simp; omega) ?_; intro x' wE hownE hgE _; obtain ⟨ax, nx, cx, rfl⟩ := own_form hownE; have e0 := hgE.cell HG.out.1 HH.out.2.2.2.2.1; have ef := fun i => (hgE.frozen_far ⟨B + 2, i, none⟩ gl HH.out.2.2.2.2.1).trans (HG.out.2.2 i))
  go_end0
  have hS : (S ++ [((p, v), (q, u))]).map (·.1) = S.map (·.1) ++ [(p, v)] := by simp
  have hE1 := hgE.cell HG.out.2.1 HH.out.2.2.2.1
  have hME := HH.out.2.2.1.grown hgE HH.out.2.2.2.2.2
  have hBE : Below B w wE := HB.out.grown hgE (by have := HB.out.size; omega) (fun k hk => by have := HH.out.2.1 k hk; omega)
  have hxne : (Value.slice ax nx cx).ownBlock ≠ some (B + 2) := own_ne hownE (by omega)
  refine ⟨rfl, ⟨.slice ax nx cx, ?_, set_same _ e0, fun i => by simp [ef i], ?_, hME.setCell (by omega) _⟩, hBE.setCell (p := ⟨B + 2, 0, none⟩) (by show B ≤ B + 2; omega) _⟩
  · rw [set_blk _ (by omega)]; exact hE1
  · rw [hS]
    have h := ownsRow_set (b := B + 2) (j := 0) hownE hxne (.slice ax nx cx)
    rw [mdVs_snoc] at h
    simpa using h

set_option maxRecDepth 100000 in
theorem come_old (B : Nat) (p v q u : ByteArray) (x : Value) (S : List (MB × MB)) (w : World) (hG : Going B w x S) (hm : (p, v) ∈ S.map (·.1)) :
    Calls Tryz.prog 112 #[.agg #[.string p, .string v], .agg #[.string q, .string u], .pointer (some ⟨B + 1, 0, none⟩), .pointer (some ⟨B + 2, 0, none⟩)] w fun e w' => e = .returned (.tuple #[]) ∧ Below w.heap.size w w' := by
  have hb1 := below_alloc w (.cells #[.string p, .string v] 38)
  have hb2 := below_alloc (w.alloc (.cells #[.string p, .string v] 38)) (.cells #[.string q, .string u] 38)
  have hB := below_step hb1 hb2
  obtain ⟨m0, m1, _⟩ := (box2_alloc w (.string p) (.string v) 38).below hb2
  have hlk := md_lookup ((hG.map.below hb1).below hb2) (p, v) true
  obtain ⟨f, hf⟩ : ∃ f, mapF S (p, v) = some f := by
    cases h : mapF S (p, v) with
    | none => exact absurd hm (mapF_none.1 h)
    | some f => exact ⟨f, rfl⟩
  simp only [hf, Option.getD_some, Option.isSome_some, if_true, mdV] at hlk
  have hB3 := hB.alloc hB.size (.cells #[.string f.1, .string f.2] 38)
  have cm := hG.cm
  have c1 := Below.cell_some hB cm
  clear hf hm hG hb1 hb2 cm
  go_enter Tryz.func112, Tryz.ntmps112
  go_wp2_with fail
  go_end0
  exact ⟨rfl, hB3⟩
theorem come_calls (B : Nat) (p v q u : ByteArray) (x : Value) (S : List (MB × MB)) (w : World) (hG : Going B w x S) (hl : S.length ≤ 1000000) :
    Calls Tryz.prog 112 #[.agg #[.string p, .string v], .agg #[.string q, .string u], .pointer (some ⟨B + 1, 0, none⟩), .pointer (some ⟨B + 2, 0, none⟩)] w fun e w' => e = .returned (.tuple #[]) ∧ (∃ x', Going B w' x' (comeB S (p, v) (q, u))) ∧ Below B w w' := by
  unfold comeB
  cases h : mapF S (p, v) with
  | none => exact come_new B p v q u x S w hG (mapF_none.1 h) hl
  | some f =>
    have hm : (p, v) ∈ S.map (·.1) := by
      by_cases h2 : (p, v) ∈ S.map (·.1)
      · exact h2
      · rw [mapF_none.2 h2] at h; cases h
    refine (come_old B p v q u x S w hG hm).mono ?_
    rintro e w' ⟨rfl, hb⟩
    exact ⟨rfl, ⟨x, hG.below hb⟩, hb.mono (Nat.le_of_lt (Nat.lt_of_le_of_lt (Nat.le_add_right B 2) hG.lt))⟩
end Go.Proofs.Pw

/- Plain mathematics of package graph: the walk, step by step. No program in sight. -/
namespace Go.Proofs.Pw
open Go.Lib hiding intOf

/-- who came, by whom -/
abbrev Came := List (Md × Md)
def noMd : Md := ([], [])
def comeS (S : Came) (m f : Md) : Came := if m ∈ S.map (·.1) then S else S ++ [(m, f)]
def comeAll (S : Came) (f : Md) (l : List Md) : Came := l.foldl (fun S m => comeS S m f) S
def reqsOf (l : List En) (m : Md) : List Md := (enAt l (findE l m).toNat).reqs
def atS (S : Came) (i : Nat) : Md := (S.getD i (noMd, noMd)).1
theorem atS_get {S : Came} {i : Nat} (h : i < S.length) : ∃ f, S[i]? = some (atS S i, f) := by
  unfold atS
  rw [List.getD_eq_getElem?_getD, List.getElem?_eq_getElem h]
  exact ⟨S[i].2, rfl⟩
theorem atS_mem {S : Came} {i : Nat} (h : i < S.length) : atS S i ∈ S.map (·.1) := by
  obtain ⟨f, hf⟩ := atS_get h
  exact List.mem_map.2 ⟨_, List.mem_of_getElem? hf, rfl⟩
def stepS (l : List En) (S : Came) (i : Nat) : Came := comeAll S (atS S i) (reqsOf l (atS S i))
def runS (l : List En) : Nat → Came → Nat → Came
  | 0, S, _ => S
  | n + 1, S, i => if i < S.length then runS l n (stepS l S i) (i + 1) else S
def walkS (l : List En) (roots : List Md) : Came := runS l (l.length + 1) (comeAll [] noMd roots) 0

theorem comeS_pre (S : Came) (m f : Md) : S <+: comeS S m f := by
  unfold comeS
  split
  · exact List.prefix_refl _
  · exact List.prefix_append _ _
theorem comeS_mem (S : Came) (m f x : Md) : x ∈ (comeS S m f).map (·.1) ↔ x ∈ S.map (·.1) ∨ x = m := by
  unfold comeS
  split
  · rename_i h
    exact ⟨fun hx => .inl hx, fun hx => by rcases hx with hx | rfl <;> assumption⟩
  · simp [or_comm, eq_comm]
theorem comeS_nd {S : Came} (m f : Md) (h : (S.map (·.1)).Nodup) : ((comeS S m f).map (·.1)).Nodup := by
  unfold comeS
  split
  · exact h
  · rename_i hm
    rw [List.map_append, List.nodup_append]
    exact ⟨h, by simp, fun a ha b hb => by simp at hb; subst hb; exact fun e => hm (e ▸ ha)⟩
theorem comeAll_cons (S : Came) (f m : Md) (l : List Md) : comeAll S f (m :: l) = comeAll (comeS S m f) f l := rfl
theorem comeAll_snoc (S : Came) (f m : Md) (l : List Md) : comeAll S f (l ++ [m]) = comeS (comeAll S f l) m f := by simp [comeAll]
theorem comeAll_pre (f : Md) : ∀ (l : List Md) (S : Came), S <+: comeAll S f l
  | [], _ => List.prefix_refl _
  | m :: l, S => (comeS_pre S m f).trans (comeAll_pre f l _)
theorem comeAll_mem (f x : Md) : ∀ (l : List Md) (S : Came), x ∈ (comeAll S f l).map (·.1) ↔ x ∈ S.map (·.1) ∨ x ∈ l
  | [], S => by simp [comeAll]
  | m :: l, S => by
    rw [comeAll_cons, comeAll_mem f x l, comeS_mem, List.mem_cons, or_assoc]
theorem comeAll_nd (f : Md) : ∀ (l : List Md) (S : Came), (S.map (·.1)).Nodup → ((comeAll S f l).map (·.1)).Nodup
  | [], _, h => h
  | m :: l, _, h => comeAll_nd f l _ (comeS_nd m f h)
/-- whoever is new came by the one that is named -/
theorem comeAll_new (f : Md) : ∀ (l : List Md) (S : Came) (k : Nat) (p : Md × Md), (comeAll S f l)[k]? = some p → S[k]? = some p ∨ (S.length ≤ k ∧ p.2 = f ∧ p.1 ∈ l)
  | [], S, k, p, h => .inl h
  | m :: l, S, k, p, h => by
    rcases comeAll_new f l (comeS S m f) k p h with h1 | ⟨h1, h2, h3⟩
    · unfold comeS at h1
      split at h1
      · exact .inl h1
      · by_cases hk : k < S.length
        · rw [List.getElem?_append_left hk] at h1
          exact .inl h1
        · rw [List.getElem?_append_right (by omega)] at h1
          have hk2 : k - S.length = 0 := by
            have := (List.getElem?_eq_some_iff.1 h1).1
            simp at this; omega
          rw [hk2] at h1
          simp at h1
          exact .inr ⟨by omega, by rw [← h1], by rw [← h1]; simp⟩
    · exact .inr ⟨Nat.le_trans (comeS_pre S m f).length_le h1, h2, by simp [h3]⟩

/-- what holds of the walk ahead of round i -/
structure Walked (l : List En) (roots : List Md) (S : Came) (i : Nat) : Prop where
  nd : (S.map (·.1)).Nodup
  all : ∀ m ∈ S.map (·.1), Reached l roots m
  start : ∀ m ∈ roots, m ∈ S.map (·.1)
  done : ∀ j, j < i → j < S.length → ∀ r ∈ reqsOf l (atS S j), r ∈ S.map (·.1)
  by_ : ∀ k p, S[k]? = some p → (p.2 = noMd ∧ p.1 ∈ roots) ∨ ∃ j, j < k ∧ p.2 = atS S j ∧ p.1 ∈ reqsOf l (atS S j)
theorem reqsOf_entry {l : List En} (h : RightI l) {e : En} (he : e ∈ l) : reqsOf l e.md = e.reqs := by
  unfold reqsOf
  have h0 : ¬ findE l e.md < 0 := fun hn => findE_lt.1 hn e he rfl
  obtain ⟨k, hk, hl, e1⟩ := findE_nat h0
  rw [hk]
  show (enAt l k).reqs = _
  rw [h.one (enAt_mem hl) he e1]
theorem atS_pre {S T : Came} (h : S <+: T) {i : Nat} (hi : i < S.length) : atS T i = atS S i := by
  obtain ⟨R, rfl⟩ := h
  unfold atS
  rw [List.getD_eq_getElem?_getD, List.getD_eq_getElem?_getD, List.getElem?_append_left hi]
theorem walked_start {l : List En} {roots : List Md} : Walked l roots (comeAll [] noMd roots) 0 := by
  refine ⟨comeAll_nd _ _ _ (by simp), fun m hm => ?_, fun m hm => (comeAll_mem _ _ _ _).2 (.inr hm), fun j hj => absurd hj (Nat.not_lt_zero _), fun k p hp => ?_⟩
  · rcases (comeAll_mem _ _ _ _).1 hm with h | h
    · simp at h
    · exact .root h
  · rcases comeAll_new _ _ _ k p hp with h | ⟨_, h1, h2⟩
    · simp at h
    · exact .inl ⟨h1, h2⟩
theorem walked_step {l : List En} {roots : List Md} {S : Came} {i : Nat} (hG : RightG l roots) (h : Walked l roots S i) (hi : i < S.length) : Walked l roots (stepS l S i) (i + 1) := by
  have hpre := comeAll_pre (atS S i) (reqsOf l (atS S i)) S
  refine ⟨comeAll_nd _ _ _ h.nd, fun m hm => ?_, fun m hm => (comeAll_mem _ _ _ _).2 (.inl (h.start m hm)), fun j hj hjl r hr => ?_, fun k p hp => ?_⟩
  · rcases (comeAll_mem _ _ _ _).1 hm with h1 | h1
    · exact h.all m h1
    · have hR := h.all _ (atS_mem hi)
      obtain ⟨e, he, e1⟩ := hG.entry hR
      rw [← e1] at hR h1
      rw [reqsOf_entry hG.idx he] at h1
      exact .step he hR h1
  · unfold stepS at hr ⊢
    rw [comeAll_mem]
    have hjS : j < S.length := by omega
    rw [atS_pre hpre hjS] at hr
    by_cases e : j = i
    · subst e; exact .inr hr
    · exact .inl (h.done j (by omega) hjS r hr)
  · rcases comeAll_new _ _ _ k p hp with h1 | ⟨h1, h2, h3⟩
    · rcases h.by_ k p h1 with h2 | ⟨j, hj, h2, h3⟩
      · exact .inl h2
      · have hk := (List.getElem?_eq_some_iff.1 h1).1
        refine .inr ⟨j, hj, ?_⟩
        unfold stepS
        rw [atS_pre hpre (by omega)]
        exact ⟨h2, h3⟩
    · refine .inr ⟨i, by omega, ?_⟩
      unfold stepS
      rw [atS_pre hpre hi]
      exact ⟨h2, h3⟩
theorem nodup_len {α : Type} [DecidableEq α] : ∀ (a b : List α), a.Nodup → (∀ x ∈ a, x ∈ b) → a.length ≤ b.length
  | [], b, _, _ => Nat.zero_le _
  | x :: a, b, hn, hs => by
    rw [List.nodup_cons] at hn
    have hx := hs x (by simp)
    have h1 := nodup_len a (b.erase x) hn.2 (fun y hy => by
      have hne : y ≠ x := fun e => hn.1 (e ▸ hy)
      exact (List.mem_erase_of_ne hne).2 (hs y (by simp [hy])))
    rw [List.length_erase_of_mem hx] at h1
    have := List.length_pos_of_mem hx
    rw [List.length_cons]
    omega
theorem Walked.len {l : List En} {roots : List Md} {S : Came} {i : Nat} (hG : RightG l roots) (h : Walked l roots S i) : S.length ≤ l.length := by
  have := nodup_len (S.map (·.1)) (l.map (·.md)) h.nd (fun m hm => by
    obtain ⟨e, he, e1⟩ := hG.entry (h.all m hm)
    exact List.mem_map.2 ⟨e, he, e1⟩)
  simpa using this
theorem runS_done {l : List En} : ∀ (n : Nat) {S : Came} {i : Nat}, S.length ≤ i → runS l n S i = S
  | 0, _, _, _ => rfl
  | n + 1, S, i, h => by rw [runS, if_neg (by omega)]
theorem runS_walked {l : List En} {roots : List Md} (hG : RightG l roots) : ∀ (n : Nat) {S : Came} {i : Nat}, Walked l roots S i → l.length ≤ n + i → Walked l roots (runS l n S i) (runS l n S i).length
  | 0, S, i, h, hn => by
    have hl := h.len hG
    show Walked l roots S S.length
    exact ⟨h.nd, h.all, h.start, fun j _ hj => h.done j (by omega) hj, h.by_⟩
  | n + 1, S, i, h, hn => by
    rw [runS]
    by_cases hi : i < S.length
    · rw [if_pos hi]
      exact runS_walked hG n (walked_step hG h hi) (by omega)
    · rw [if_neg hi]
      exact ⟨h.nd, h.all, h.start, fun j hj hjl => h.done j (by omega) hjl, h.by_⟩
theorem walkS_walked {l : List En} {roots : List Md} (hG : RightG l roots) : Walked l roots (walkS l roots) (walkS l roots).length := runS_walked hG _ walked_start (by omega)
theorem walkS_mem {l : List En} {roots : List Md} (hG : RightG l roots) (m : Md) : m ∈ (walkS l roots).map (·.1) ↔ Reached l roots m := by
  have h := walkS_walked hG
  refine ⟨h.all m, fun hm => ?_⟩
  refine reached_closed h.start (fun e he hT r hr => ?_) hm
  obtain ⟨p, hp, e1⟩ := List.mem_map.1 hT
  obtain ⟨j, hj⟩ := List.getElem?_of_mem hp
  have hjl := (List.getElem?_eq_some_iff.1 hj).1
  have ha : atS (walkS l roots) j = e.md := by
    unfold atS
    rw [List.getD_eq_getElem?_getD, hj]
    exact e1
  refine h.done j hjl hjl r ?_
  rw [ha, reqsOf_entry hG.idx he]
  exact hr
end Go.Proofs.Pw

/- graph.walk, at roots of an index, both right. -/
namespace Go.Proofs.Pw
open Go.RowKit
open Go.Lib hiding intOf

def mbT (m : MB) : Md := (m.1.data.toList, m.2.data.toList)
theorem mbT_inj {a b : MB} : mbT a = mbT b ↔ a = b := by
  refine ⟨fun h => ?_, fun h => by rw [h]⟩
  unfold mbT at h
  rw [Prod.mk.injEq] at h
  exact Prod.ext (bytes_eq.1 h.1) (bytes_eq.1 h.2)
theorem mbT_no : mbT noMB = noMd := rfl
def cameOf (S : List (MB × MB)) : Came := S.map fun p => (mbT p.1, mbT p.2)
theorem cameOf_length (S : List (MB × MB)) : (cameOf S).length = S.length := by simp [cameOf]
theorem cameOf_mem {S : List (MB × MB)} {m : MB} : mbT m ∈ (cameOf S).map (·.1) ↔ m ∈ S.map (·.1) := by
  unfold cameOf
  rw [List.map_map]
  constructor
  · intro h
    obtain ⟨p, hp, e⟩ := List.mem_map.1 h
    exact List.mem_map.2 ⟨p, hp, mbT_inj.1 e⟩
  · intro h
    obtain ⟨p, hp, e⟩ := List.mem_map.1 h
    exact List.mem_map.2 ⟨p, hp, by show mbT p.1 = _; rw [e]⟩
theorem mapF_isSome {S : List (MB × MB)} {m : MB} : (mapF S m).isSome = true ↔ m ∈ S.map (·.1) := by
  constructor
  · intro h
    by_cases h2 : m ∈ S.map (·.1)
    · exact h2
    · rw [mapF_none.2 h2] at h; cases h
  · intro h
    cases h2 : mapF S m with
    | none => exact absurd h (mapF_none.1 h2)
    | some f => rfl
theorem cameOf_come (S : List (MB × MB)) (m f : MB) : cameOf (comeB S m f) = comeS (cameOf S) (mbT m) (mbT f) := by
  unfold comeB comeS
  by_cases h : m ∈ S.map (·.1)
  · rw [if_pos (mapF_isSome.2 h), if_pos (cameOf_mem.2 h)]
  · rw [if_neg (fun h2 => h (mapF_isSome.1 h2)), if_neg (fun h2 => h (cameOf_mem.1 h2))]
    simp [cameOf]
theorem comeAll_len (f : Md) : ∀ (l : List Md) (S : Came), (comeAll S f l).length ≤ S.length + l.length
  | [], S => by simp [comeAll]
  | m :: l, S => by
    rw [comeAll_cons]
    have h := comeAll_len f l (comeS S m f)
    have h2 : (comeS S m f).length ≤ S.length + 1 := by unfold comeS; split <;> simp
    rw [List.length_cons]; omega
theorem cell_new1 (w : World) (v : Value) (t : TypeId) {N : Nat} (h : w.heap.size = N) : (w.alloc (.cells #[v] t)).cell? ⟨N, 0, none⟩ = some v ∧ ∀ i, (w.alloc (.cells #[v] t)).frozen? ⟨N, i, none⟩ = false := by
  subst h
  exact ⟨by simp, fun i => by simp⟩
theorem Going.drew {B : Nat} {w : World} {x : Value} {S : List (MB × MB)} (h : Going B w x S) : Going B w.drew x S := h.below (Below.refl _ w).drew
/-- the row's cells -/
theorem Going.row {B : Nat} {w : World} {x : Value} {S : List (MB × MB)} (h : Going B w x S) {i : Nat} (hi : i < S.length) :
    ∃ b o c P V, x = .slice (some ⟨b, o, none⟩) S.length c ∧ (P, V) = (S[i]).1 ∧ w.cell? ⟨b, o + i * 2, none⟩ = some (.string P) ∧ w.cell? ⟨b, o + i * 2 + 1, none⟩ = some (.string V) := by
  obtain ⟨a, n, cap, P, V, e1, e2, h3, h4, h5⟩ := modsAt_own h.own
  have hl : n = S.length := by have := congrArg List.length e2; rw [mdF_length] at this; rw [← this]; simp [mdTs]
  obtain ⟨b, o, rfl, c0, c1⟩ := h5 i (by omega)
  refine ⟨b, o, cap, P i, V i, by rw [e1, hl], ?_, c0, c1⟩
  have h6 := mdF_get n P V i (by omega)
  rw [← e2] at h6
  apply mbT_inj.1
  have h7 : (mdTs (S.map (·.1)))[i]? = some (mbT (S[i]).1) := by simp [mdTs, mbT, List.getElem?_eq_getElem hi]
  rw [h7] at h6
  exact (Option.some.inj h6).symm
theorem atS_came {S : List (MB × MB)} {i : Nat} (hi : i < S.length) : atS (cameOf S) i = mbT (S[i]).1 := by
  unfold atS cameOf
  rw [List.getD_eq_getElem?_getD, List.getElem?_map, List.getElem?_eq_getElem hi]
  rfl

set_option maxHeartbeats 4000000 in
set_option maxRecDepth 100000 in
theorem grWalk_in (a : Option Addr) (n cap : Nat) (P V : Nat → ByteArray) (R : Nat → List Md) (K : Nat → List Str) (Bk : Nat → Bool) (Rv Kv : Nat → Value) (rv : Value) (roots : List Md) (w : World) (h : EntsIn w a n cap P V R K Bk Rv Kv) (hr : ModsAt w rv roots) (hl : roots.length ≤ 100000) (hn : n ≤ 1000) (hR : ∀ j, j < n → (R j).length ≤ 1000) (hG : RightG (enF n P V R K Bk) roots) :
    Calls Tryz.prog 66 #[.slice a n cap, rv] w fun e w' => (∃ x S, e = .returned (.tuple #[x, .map (some w.heap.size)]) ∧ Going w.heap.size w' x S ∧ cameOf S = walkS (enF n P V R K Bk) roots) ∧ Below w.heap.size w w' := by
  obtain ⟨ar, rn, rc, P2, V2, rfl, rfl, h5, h6, h7⟩ := hr
  rw [mdF_length] at hl
  have hb1 := below_alloc w (.map #[] 0)
  have hb2 := below_alloc (w.alloc (.map #[] 0)) (.cells #[.map (some w.heap.size)] 82)
  have hb3 := below_alloc ((w.alloc (.map #[] 0)).alloc (.cells #[.map (some w.heap.size)] 82)) (.cells #[.slice none 0 0] 23)
  have hB := below_step (below_step hb1 hb2) hb3
  have hGo : Going w.heap.size (((w.alloc (.map #[] 0)).alloc (.cells #[.map (some w.heap.size)] 82)).alloc (.cells #[.slice none 0 0] 23)) (.slice none 0 0) [] := by
    refine ⟨?_, ?_, fun i => ?_, World.ownsRow_nil _ _ _ _, ((mapIs_made w).below hb2).below hb3⟩
    · have := Below.cell_some hb3 (cell_new1 (w.alloc (.map #[] 0)) (.map (some w.heap.size)) 82 (N := w.heap.size + 1) (by simp)).1
      exact this
    · exact (cell_new1 _ (.slice none 0 0) 23 (N := w.heap.size + 2) (by simp)).1
    · exact (cell_new1 _ (.slice none 0 0) 23 (N := w.heap.size + 2) (by simp)).2 i
  have H := Lib.hid h
  have HG := Lib.hid hG
  have hRR := Lib.hid hR
  replace h7 := Lib.hid h7
  clear h hG hb1 hb2 hb3 h5 h6 hR
  have hmk := fun W => run_makeMap (P := Tryz.prog) 82 W
  go_enter Tryz.func66, Tryz.ntmps66
  go_wp2_with fail
  generalize hw1 : ((w.alloc (.map #[] 0)).alloc (.cells #[.map (some w.heap.size)] 82)).alloc (.cells #[.slice none 0 0] 23) = w1 at *
  clear hw1
  go_loopw [18] (fun i wr => ∃ k : Nat, k ≤ rn ∧ i = .int .i64 k ∧ ∃ x S, Hid (Going w.heap.size wr x S) ∧ Below w.heap.size w wr ∧ Hid (cameOf S = comeAll [] noMd ((mdF rn P2 V2).take k))) (fun i _ => rn - (intOf i).toNat)
  case atStart => exact ⟨0, Nat.zero_le _, rfl, _, [], Lib.hid hGo, hB, Lib.hid rfl⟩
  case round =>
    obtain ⟨k, hk, rfl, x, S, hGo, hBr, hC⟩ := hrel
    by_cases hlt : k < rn
    · have hkn : (k : Int) < (rn : Int) := by omega
      obtain ⟨b1, o1, ea, c0, c1⟩ := h7.out k hlt
      replace c0 := hBr.cell (lt_of_cell c0) |>.trans c0
      replace c1 := hBr.cell (lt_of_cell c1) |>.trans c1
      have hba := below_alloc wr (.cells #[.string (P2 k), .string (V2 k)] 38)
      obtain ⟨y0, y1, _⟩ := box2_alloc wr (.string (P2 k)) (.string (V2 k)) 38
      have hSl : S.length ≤ 100000 := by
        have h1 := comeAll_len noMd ((mdF rn P2 V2).take k) []
        rw [← hC.out, cameOf_length, List.length_take, mdF_length] at h1
        simp at h1; omega
      have hcm := come_calls w.heap.size (P2 k) (V2 k) ⟨#[]⟩ ⟨#[]⟩ x S (wr.alloc (.cells #[.string (P2 k), .string (V2 k)] 38)) (hGo.out.below hba) (by omega)
      have hN : Hid (cameOf (comeB S (P2 k, V2 k) (⟨#[]⟩, ⟨#[]⟩)) = comeAll [] noMd ((mdF rn P2 V2).take (k + 1))) := Lib.hid (by
        rw [cameOf_come, hC.out, mdF_take_succ rn P2 V2 k hlt, comeAll_snoc]
        rfl)
      have hB2 : Below w.heap.size w (wr.alloc (.cells #[.string (P2 k), .string (V2 k)] 38)) := hBr.alloc hBr.size _
      subst ea
      replace hcm := Lib.hid hcm
      clear hC hba
      go_wp2_with fail
      refine hcm.out.mono ?_
      rintro e w3 ⟨rfl, ⟨x', hG'⟩, hb3⟩
      have hG' := Lib.hid hG'
      go_wp2_with fail
      go_roundw
      case rel => exact ⟨k + 1, by omega, by go_num, x', _, hG', hB2.trans hb3, hN⟩
      case measure => simp [intOf]; omega
    · obtain rfl : rn = k := by omega
      rw [mdF_take_all] at hC
      have hW := walked_start (l := enF n P V R K Bk) (roots := mdF rn P2 V2)
      rw [← hC.out] at hW
      have hrun : walkS (enF n P V R K Bk) (mdF rn P2 V2) = runS (enF n P V R K Bk) (n + 1) (cameOf S) 0 := by
        unfold walkS
        rw [enF_length, hC.out]
      have HW := Lib.hid hW
      have HR := Lib.hid hrun
      clear hW hrun hC hlt hk hB
      go_wp2_with fail
      go_loopw [11] (fun i wr => ∃ k : Nat, i = .int .i64 k ∧ ∃ x S, Hid (Going w.heap.size wr x S) ∧ Below w.heap.size w wr ∧ Hid (Walked (enF n P V R K Bk) (mdF rn P2 V2) (cameOf S) k ∧ k ≤ S.length ∧ ∃ m, walkS (enF n P V R K Bk) (mdF rn P2 V2) = runS (enF n P V R K Bk) m (cameOf S) k ∧ n < m + k)) (fun i _ => n - (intOf i).toNat)
      case atStart => exact ⟨0, rfl, x, S, hGo, hBr, Lib.hid ⟨HW.out, Nat.zero_le _, n + 1, HR.out, by omega⟩⟩
      case round =>
        clear hGo hBr HW HR
        obtain ⟨k, rfl, y, T, hGo, hBr, hI⟩ := hrel
        have hTl : T.length ≤ n := by
          have h1 := hI.out.1.len HG.out
          rw [cameOf_length, enF_length] at h1; exact h1
        have ct := hGo.out.ct
        have cm := hGo.out.cm
        by_cases hlt : k < T.length
        · have hkT : (k : Int) < (T.length : Int) := by omega
          obtain ⟨b4, o4, c4, P4, V4, ex, e4, d0, d1⟩ := hGo.out.row hlt
          subst ex
          have hat : atS (cameOf T) k = mbT (P4, V4) := by rw [atS_came hlt, e4]
          have hreach := hI.out.1.all _ (atS_mem (S := cameOf T) (i := k) (by rw [cameOf_length]; exact hlt))
          obtain ⟨en, hen, hem⟩ := HG.out.entry hreach
          have hnf : ¬ findE (enF n P V R K Bk) (mbT (P4, V4)) < 0 := fun h => findE_lt.1 h en hen (by rw [hem, hat])
          obtain ⟨i, hi, hil, him⟩ := findE_nat hnf
          rw [enF_length] at hil
          have hreq : reqsOf (enF n P V R K Bk) (atS (cameOf T) k) = R i := by
            unfold reqsOf
            rw [hat, hi]
            show (enAt _ i).reqs = _
            rw [enAt_enF hil]
          have hfi := idxFind_in a n cap P V R K Bk Rv Kv P4 V4 wr (H.out.below (hBr.mono (Nat.le_refl _))) (by omega)
          rw [show (P4.data.toList, V4.data.toList) = mbT (P4, V4) from rfl, hi] at hfi
          obtain ⟨b5, o5, ea, hcell⟩ := H.out.at_ i hil
          obtain ⟨a1, n1, s1, a2, n2, s2, e1, e2⟩ := H.out.forms hil
          have hM := H.out.reqs i hil
          have hRl := hRR.out i hil
          rw [e1, e2] at hcell
          rw [e1] at hM
          obtain ⟨aM, nM, cM, P5, V5, e3, e5, _, _, hcs⟩ := hM
          injection e3 with e6 e7 e8
          subst e6 e7 e8
          rw [e5, mdF_length] at hRl
          have hin : (i : Int) < (n : Int) := by omega
          have HReq := Lib.hid (hreq.trans e5)
          have HAt := Lib.hid hat
          subst ea
          have cr := hcell.c2
          replace cr := (hBr.cell (lt_of_cell cr)).trans cr
          have hcT : k < (cameOf T).length := by rw [cameOf_length]; exact hlt
          replace hfi := Lib.hid hfi
          replace hcs := Lib.hid hcs
          replace hcT := Lib.hid hcT
          clear hcell e1 e2 e5 e4 hreach hen hem hnf hi him hreq hat
          go_wp2_with fail
          refine hfi.out.mono ?_
          rintro e w3 ⟨rfl, hb3⟩
          have hGo3 := Lib.hid (hGo.out.below hb3)
          replace cr := Below.cell_some hb3 cr
          have hB3 := below_step hBr hb3
          clear hGo hBr hb3 ct cm d0 d1 hfi
          go_wp2_with fail
          go_loopw [44] (fun j wq => ∃ q : Nat, q ≤ n1 ∧ j = .int .i64 q ∧ ∃ y2 S2, Hid (Going w.heap.size wq y2 S2) ∧ Below w.heap.size w wq ∧ Hid (cameOf S2 = comeAll (cameOf T) (mbT (P4, V4)) ((mdF n1 P5 V5).take q))) (fun j _ => n1 - (intOf j).toNat)
          case atStart => exact ⟨0, Nat.zero_le _, rfl, _, T, hGo3, hB3, Lib.hid rfl⟩
          case round =>
            clear hGo3 hB3 cr
            obtain ⟨q, hq, rfl, y2, S2, hGo2, hB2, hC2⟩ := hrel
            have hpre : cameOf T <+: cameOf S2 := by rw [hC2.out]; exact comeAll_pre _ _ _
            have hk2 : k < S2.length := by
              have := hpre.length_le
              rw [cameOf_length, cameOf_length] at this; omega
            by_cases hq2 : q < n1
            · have hqn : (q : Int) < (n1 : Int) := by omega
              obtain ⟨b6, o6, ea6, r0, r1⟩ := hcs.out q hq2
              replace r0 := (hB2.cell (lt_of_cell r0)).trans r0
              replace r1 := (hB2.cell (lt_of_cell r1)).trans r1
              obtain ⟨b7, o7, c7, P7, V7, ey2, e7, g0, g1⟩ := hGo2.out.row hk2
              have e8 : (P7, V7) = (P4, V4) := by
                apply mbT_inj.1
                rw [e7, ← atS_came hk2, atS_pre hpre hcT.out, HAt.out]
              injection e8 with e9 e10
              subst e9 e10 ey2
              have hkS : (k : Int) < (S2.length : Int) := by omega
              have hS2l : S2.length ≤ 100000 := by
                have h1 := comeAll_len (mbT (P7, V7)) ((mdF n1 P5 V5).take q) (cameOf T)
                rw [← hC2.out, cameOf_length, cameOf_length, List.length_take, mdF_length] at h1
                omega
              have hba := below_alloc wr (.cells #[.string (P5 q), .string (V5 q)] 38)
              obtain ⟨y0, y1, _⟩ := box2_alloc wr (.string (P5 q)) (.string (V5 q)) 38
              have hcm := fun W (h : Going w.heap.size W (.slice (some ⟨b7, o7, none⟩) S2.length c7) S2) => come_calls w.heap.size (P5 q) (V5 q) P7 V7 (.slice (some ⟨b7, o7, none⟩) S2.length c7) S2 W h (by omega)
              have hN : Hid (cameOf (comeB S2 (P5 q, V5 q) (P7, V7)) = comeAll (cameOf T) (mbT (P7, V7)) ((mdF n1 P5 V5).take (q + 1))) := Lib.hid (by
                rw [cameOf_come, hC2.out, mdF_take_succ n1 P5 V5 q hq2, comeAll_snoc]
                rfl)
              have hGa := hGo2.out.below hba
              have hBa : Below w.heap.size w (wr.alloc (.cells #[.string (P5 q), .string (V5 q)] 38)) := hB2.alloc hB2.size _
              have ct := hGa.ct
              replace g0 := Below.cell_some hba g0
              replace g1 := Below.cell_some hba g1
              subst ea6
              replace hcm := Lib.hid hcm
              have HGa := Lib.hid hGa
              clear hC2 hba e7 hpre hGo2 hB2 hGa hS2l hk2
              go_wp2_with fail
              generalize wr.alloc (.cells #[.string (P5 q), .string (V5 q)] 38) = wx at *
              go_region_with (go_at_call 112; refine (hcm.out _ ?_).mono ?_; exact HGa.out.drew; rintro e w5 ⟨rfl, ⟨y5, hG5⟩, hb5⟩)
              all_goals
                go_wp2_with fail
                have HG5 := Lib.hid hG5
                go_roundw
                case rel => exact ⟨q + 1, by omega, by go_num, y5, _, HG5, hBa.drew.trans hb5, hN⟩
                case measure => simp [intOf]; omega
            · obtain rfl : n1 = q := by omega
              rw [mdF_take_all] at hC2
              have hst : cameOf S2 = stepS (enF n P V R K Bk) (cameOf T) k := by
                unfold stepS
                rw [hC2.out, HAt.out, ← HReq.out, HAt.out]
              have hI2 : Hid (Walked (enF n P V R K Bk) (mdF rn P2 V2) (cameOf S2) (k + 1) ∧ k + 1 ≤ S2.length ∧ ∃ m, walkS (enF n P V R K Bk) (mdF rn P2 V2) = runS (enF n P V R K Bk) m (cameOf S2) (k + 1) ∧ n < m + (k + 1)) := Lib.hid (by
                refine ⟨by rw [hst]; exact walked_step HG.out hI.out.1 hcT.out, hk2, ?_⟩
                obtain ⟨m, hm1, hm2⟩ := hI.out.2.2
                obtain ⟨m', rfl⟩ : ∃ m', m = m' + 1 := ⟨m - 1, by omega⟩
                refine ⟨m', ?_, by omega⟩
                rw [hm1, runS, if_pos hcT.out, hst])
              have hkn2 : k < n := by omega
              clear hC2 hst hpre hcs
              go_wp2_with fail
              go_roundw
              case rel => exact ⟨k + 1, by go_num, y2, S2, hGo2, hB2, hI2⟩
              case measure => simp [intOf]; omega
        · obtain ⟨ay, ny, cy, Py, Vy, ey, el, _⟩ := modsAt_own hGo.out.own
          have hny : ny = T.length := by have := congrArg List.length el; rw [mdF_length] at this; rw [← this]; simp [mdTs]
          subst ey
          have hTk : ¬ ((k : Int) < (ny : Int)) := by omega
          clear el hny
          have hfin : Hid (cameOf T = walkS (enF n P V R K Bk) (mdF rn P2 V2)) := Lib.hid (by
            obtain ⟨m, hm1, _⟩ := hI.out.2.2
            rw [hm1, runS_done m (by rw [cameOf_length]; omega)])
          have hGo1 := hGo.out
          clear hI hGo
          go_wp2_with fail
          have kqct := fun d os => cell_patch (d := d) (os := os) ct
          have kqcm := fun d os => cell_patch (d := d) (os := os) cm
          refine wp_region_quiet_patch (by kernel_rfl) (by kernel_rfl) ?_
          repeat (go_big_quiet_step (fail))
          refine wpQuiet_nil ?_
          intro _ hw'
          obtain ⟨⟨dq, osq⟩, hw''⟩ := hw'
          subst hw''
          clear kqct kqcm
          have hb := below_patch wr dq osq
          replace hGo1 := hGo1.below hb
          replace hBr := below_step hBr hb
          clear hb
          generalize patch wr dq osq = w9 at hGo1 hBr ⊢
          go_wp2_with fail
          go_ret2
          exact ⟨⟨_, T, rfl, hGo1, hfin.out⟩, hBr⟩
end Go.Proofs.Pw

/- 'Below' with the tape's place told: what was drawn stays drawn. So the world behind is some draws on, with some blocks laid. -/
namespace Go.Proofs.Pw
open Go.RowKit
open Go.Sort (grow)

def Bel (B : Nat) (w w' : World) : Prop := Below B w w' ∧ w.drawn ≤ w'.drawn
theorem Bel.b {B : Nat} {w w' : World} (h : Bel B w w') : Below B w w' := h.1
theorem Bel.size {B : Nat} {w w' : World} (h : Bel B w w') : w.heap.size ≤ w'.heap.size := h.1.size
theorem Bel.refl (B : Nat) (w : World) : Bel B w w := ⟨Below.refl _ _, Nat.le_refl _⟩
theorem Bel.trans {B : Nat} {a b c : World} (h : Bel B a b) (k : Bel B b c) : Bel B a c := ⟨h.1.trans k.1, Nat.le_trans h.2 k.2⟩
theorem Bel.mono {B B' : Nat} {w w' : World} (h : Bel B w w') (hB : B' ≤ B) : Bel B' w w' := ⟨h.1.mono hB, h.2⟩
theorem Bel.alloc {B : Nat} {a w : World} (h : Bel B a w) (hB : B ≤ w.heap.size) (o : Obj) : Bel B a (w.alloc o) := ⟨h.1.alloc hB o, h.2⟩
theorem Bel.drewN {B : Nat} {a w : World} (h : Bel B a w) (n : Nat) : Bel B a (w.drewN n) := ⟨below_drewN h.1 n, Nat.le_trans h.2 (by show w.drawn ≤ w.drawn + n; omega)⟩
theorem Bel.drew {B : Nat} {a w : World} (h : Bel B a w) : Bel B a w.drew := ⟨h.1.drew, Nat.le_trans h.2 (by show w.drawn ≤ w.drawn + 1; omega)⟩
theorem drawn_setCell (w : World) (p : Addr) (u : Value) : (w.setCell p u).drawn = w.drawn := by
  unfold World.setCell
  first | rfl | (split <;> rfl) | (simp only []; split <;> rfl)
theorem Bel.setCell {B : Nat} {a w : World} (h : Bel B a w) {p : Addr} (hp : B ≤ p.block) (u : Value) : Bel B a (w.setCell p u) := ⟨h.1.setCell hp u, by rw [drawn_setCell]; exact h.2⟩
theorem bel_step {w w1 w2 : World} (h : Bel w.heap.size w w1) (h2 : Bel w1.heap.size w1 w2) : Bel w.heap.size w w2 := h.trans (h2.mono h.size)
theorem bel_alloc (w : World) (o : Obj) : Bel w.heap.size w (w.alloc o) := (Bel.refl _ _).alloc (Nat.le_refl _) _
theorem Bel.grown {w w' : World} (h : Bel w.heap.size w w') : ∃ q os, w' = grow (w.drewN q) os := by
  obtain ⟨⟨d, os⟩, rfl⟩ := patch_of_below h.1
  have h2 : w.drawn ≤ d := h.2
  refine ⟨d - w.drawn, os, ?_⟩
  show ({ w with heap := w.heap ++ os, drawn := d } : World) = { w with heap := w.heap ++ os, drawn := w.drawn + (d - w.drawn) }
  rw [Nat.add_sub_cancel' h2]
theorem bel_patch (w : World) (d : Nat) (os : Array Obj) (h : w.drawn ≤ d) : Bel w.heap.size w (patch w d os) := ⟨below_patch w d os, h⟩
end Go.Proofs.Pw

/- The walks of package ver's small functions at right versions, the tape's place told. MADE BY mkd.py out of XVer. -/
namespace Go.Proofs.Pw
open Go.RowKit
open Go.Lib hiding intOf

theorem trimD_calls (s cs : ByteArray) (w : World) (hs : s.size ≤ 4000000000) (hc : cs.size ≤ 1000) (h2 : 2 ≤ cs.size) (h0 : 0 < s.size) (ha : ∀ b ∈ cs.data.toList, b.toNat < 128) :
    Calls Tryz.prog 171 #[.string s, .string cs] w fun e w' => e = .returned (.string ⟨(Lib.trimS s.data.toList cs.data.toList).toArray⟩) ∧ Bel w.heap.size w w' := by
  have hz := zero_of_info (P := Tryz.prog) (t := Tryz.lays160_ren.t 116) (v := .agg (Array.replicate 256 (.bool false))) (n := 256) (by kernel_rfl)
  refine (Any.strings_Trim_set Tryz.lays160 hz.1 hz.2 s cs w h2 h0 (by omega) (by omega) (fun j b h => ha b (List.mem_of_getElem? h))).mono ?_
  rintro e w' ⟨rfl, q, rfl⟩
  exact ⟨rfl, (((bel_alloc _ _).alloc (by simp) _)).drewN q⟩

theorem digitsD_calls (s : ByteArray) (w : World) (hs : s.size ≤ 4000000000) :
    Calls Tryz.prog 194 #[.string s] w fun e w' => e = .returned (.bool (areDigits s.data.toList)) ∧ Bel w.heap.size w w' := by
  have HT := Lib.hid (trimS_nil_bool s.data.toList digitsSet isDig digitsSet_ok)
  cases he : s.data.toList.isEmpty with
  | true =>
    have h1 : s.toList.isEmpty = true := by rw [isEmpty_toList, he]
    have h2 : s.toList = [] := by simpa using h1
    have HD : Hid (areDigits s.data.toList = false) := by unfold areDigits; show _ = _; rw [he]; rfl
    clear he
    go_enter Tryz.func194, Tryz.ntmps194
    go_wp2_with fail
    go_ret
    exact ⟨by rw [HD.out]; simp, Bel.refl _ _⟩
  | false =>
    have h00 : 0 < s.size := by
      rw [size_eq]
      cases hsd : s.data.toList with
      | nil => rw [hsd] at he; cases he
      | cons c r => simp
    have h1 : s.toList.isEmpty = false := by rw [isEmpty_toList, he]
    have h2 : (s.toList == []) = false := by simpa using h1
    have HD : Hid (areDigits s.data.toList = s.data.toList.all isDig) := by unfold areDigits; show _ = _; rw [he]; rfl
    clear he
    go_enter Tryz.func194, Tryz.ntmps194
    go_wp2_with fail
    refine (trimD_calls _ _ _ hs (by decide) (by decide) h00 (by decide)).mono ?_
    rintro e w1 ⟨rfl, hb1⟩
    cases ha : s.data.toList.all isDig with
    | true =>
      have e1 : trimS s.data.toList (⟨#[48, 49, 50, 51, 52, 53, 54, 55, 56, 57]⟩ : ByteArray).data.toList = [] := by
        have := HT.out
        rw [ha] at this
        exact beq_iff_eq.1 this
      rw [e1]
      clear e1
      go_wp2_with fail
      go_ret
      exact ⟨by rw [HD.out, ha]; simp, hb1⟩
    | false =>
      have e1 : (trimS s.data.toList (⟨#[48, 49, 50, 51, 52, 53, 54, 55, 56, 57]⟩ : ByteArray).data.toList == []) = false := by
        have := HT.out
        rw [ha] at this
        exact this
      generalize trimS s.data.toList (⟨#[48, 49, 50, 51, 52, 53, 54, 55, 56, 57]⟩ : ByteArray).data.toList = t at e1 ⊢
      have e2 : (⟨t.toArray⟩ : ByteArray).toList.isEmpty = false := by rw [toList_mk]; simpa using e1
      clear e1
      go_wp2_with fail
      go_ret
      exact ⟨by rw [HD.out, ha]; simp_all, hb1⟩


theorem atoiD_calls (s : ByteArray) (w : World) (hs : s.size ≤ 4000000000) (hd : areDigits s.data.toList = true) (h6 : ¬ 6 < s.size) :
    Calls Tryz.prog 172 #[.string s] w fun e w' => e = .returned (.tuple #[.int .i64 (decVal s.data.toList), .nilIface]) ∧ Bel w.heap.size w w' := by
  rcases atoiAll_digits hd with h | h
  · exact absurd (by rw [size_eq]; exact atoiAll_range_long hd h) h6
  · refine (Tryz.strconv_Atoi_ok s (by omega) _ h w).mono ?_
    rintro e w' ⟨rfl, hw⟩
    refine ⟨rfl, ?_⟩
    rcases hw with rfl | ⟨t, rfl⟩
    · exact Bel.refl _ _
    · exact ⟨Lib.bytesWorld_below _ _ _, by show w.drawn ≤ w.drawn + 1; omega⟩

set_option maxHeartbeats 400000 in
/-- ver.number at digits without needless zeros -/
theorem numberOkD (ks : List Nat) (A : Nat → Addr) (s : ByteArray) (w : World) (hE : EnvP ks A w) (hs : s.size ≤ 4000000000) (hd : areDigits s.data.toList = true) (hz : ¬ (1 < s.data.toList.length ∧ s.data.toList.head? = some 48)) (h6 : ¬ 6 < s.size) :
    Calls Tryz.prog 177 #[.string s] w fun e w' => e = .returned (.tuple #[.int .i64 (decVal s.data.toList), errV A 0]) ∧ Bel w.heap.size w w' := by
  have HD := Lib.hid hd
  have hv := decVal_small hd hz
  rw [← size_eq] at hv
  have HS := Lib.hid hv
  have hne : 0 < s.size := by
    rw [size_eq]
    cases hsd : s.data.toList with
    | nil => rw [hsd] at hd; simp [areDigits] at hd
    | cons c r => simp
  have h01 : (1 < s.size ∧ (((s[0]'hne).toNat : Int) == 48) = false) ∨ ¬ 1 < s.size := by
    by_cases h1 : 1 < s.size
    · refine .inl ⟨h1, ?_⟩
      rw [beq_eq_false_iff_ne]
      intro e
      apply hz
      refine ⟨by rw [← size_eq]; exact h1, ?_⟩
      have h2 : s.data.toList[0]? = some (s[0]'hne) := by
        rw [List.getElem?_eq_getElem (by rw [← size_eq]; omega)]; rfl
      rw [List.head?_eq_getElem?, h2]
      have : (s[0]'hne).toNat = 48 := by exact_mod_cast e
      rw [show (48 : UInt8) = UInt8.ofNat 48 from rfl, ← this, UInt8.ofNat_toNat]
    · exact .inr h1
  clear hd hz hv
  rcases h01 with ⟨h1, h2⟩ | h1
  all_goals
    go_enter Tryz.func177, Tryz.ntmps177
    go_wp2_with fail
    refine (digitsD_calls _ _ hs).mono ?_
    rintro e w1 ⟨rfl, hb1⟩
    rw [HD.out]
    have hEa := hE.below hb1.b
    go_wp2_with fail
    refine (atoiD_calls _ _ hs HD.out h6).mono ?_
    rintro e w2 ⟨rfl, hb2⟩
    have hE2 := (hEa.below hb2.b).errs.var 2 hE.has.2
    simp only [errG] at hE2
    have hsm : decVal s.data.toList ≤ 999999 := HS.out.2 (by omega)
    go_wp2_with fail
    go_ret2
    exact ⟨rfl, bel_step hb1 hb2⟩

theorem numberD_calls (ks : List Nat) (A : Nat → Addr) (s : ByteArray) (w : World) (hE : EnvP ks A w) (hs : s.size ≤ 4000000000) (h0 : (numberOf s.data.toList).2 = 0) :
    Calls Tryz.prog 177 #[.string s] w fun e w' => e = .returned (.tuple #[.int .i64 ((numberOf s.data.toList).1 : Nat), errV A (numberOf s.data.toList).2]) ∧ Bel w.heap.size w w' := by
  obtain ⟨hd, hz, hv, h6⟩ := numberOf_err h0
  rw [h0, hv]
  exact numberOkD ks A s w hE hs hd hz (by rw [size_eq]; omega)

set_option maxHeartbeats 400000 in
/-- ver.part: a part's error -/
theorem partD_calls (ks : List Nat) (A : Nat → Addr) (s : ByteArray) (w : World) (hE : EnvP ks A w) (hs : s.size ≤ 4000000000) (hok : partErr s.data.toList = 0) :
    Calls Tryz.prog 179 #[.string s] w fun e w' => e = .returned (errV A (partErr s.data.toList)) ∧ Bel w.heap.size w w' := by
  have hT := hE.errs.var 1 hE.has.1
  simp only [errG] at hT
  have HP := Lib.hid (trimS_nil_bool s.data.toList partSet isPartByte partSet_ok)
  have hsz := size_eq s
  by_cases he : s.data.toList = []
  · rw [partErr_text (.inl he)] at hok; cases hok
  · have h1 : s.toList.isEmpty = false := by rw [isEmpty_toList]; simpa using he
    have h2 : (s.toList == []) = false := by simpa using h1
    by_cases hl : 8 < s.size
    · rw [partErr_text (.inr (.inl (by rw [← hsz]; exact hl)))] at hok; cases hok
    · have HL := Lib.hid hsz
      have h00 : 0 < s.size := by
        rw [size_eq]
        cases hsd : s.data.toList with
        | nil => exact absurd hsd he
        | cons c r => simp
      have HE := Lib.hid he
      clear hsz he
      cases ha : s.data.toList.all isPartByte with
      | false => rw [partErr_text (.inr (.inr ha))] at hok; cases hok
      | true =>
        have e1 : trimS s.data.toList partSet = [] := by
          have := HP.out
          rw [ha] at this
          exact beq_iff_eq.1 this
        have hpe : partErr s.data.toList = if areDigits s.data.toList then (numberOf s.data.toList).2 else 0 := by
          unfold partErr
          rw [if_neg]
          rintro (h | h | h)
          · exact HE.out h
          · rw [← HL.out] at h; exact hl h
          · rw [ha] at h; exact absurd h (by decide)
        have HPE := Lib.hid (hpe.symm.trans hok)
        rw [hpe]
        clear hpe ha hok
        generalize hc : (if areDigits s.data.toList then (numberOf s.data.toList).2 else 0) = c
        have HC := Lib.hid hc
        clear hc
        have E1 := Lib.hid e1
        clear e1
        go_enter Tryz.func179, Tryz.ntmps179
        go_wp2_with fail
        refine (trimD_calls _ _ _ hs (by decide) (by decide) h00 (by decide)).mono ?_
        rintro e w1 ⟨rfl, hb1⟩
        rw [show (⟨#[97, 98, 99, 100, 101, 102, 103, 104, 105, 106, 107, 108, 109, 110, 111, 112, 113, 114, 115, 116, 117, 118, 119, 120, 121, 122, 65, 66, 67, 68, 69, 70, 71, 72, 73, 74, 75, 76, 77, 78, 79, 80, 81, 82, 83, 84, 85, 86, 87, 88, 89, 90, 48, 49, 50, 51, 52, 53, 54, 55, 56, 57, 45]⟩ : ByteArray).data.toList = partSet from rfl, E1.out]
        go_wp2_with fail
        refine (digitsD_calls _ _ hs).mono ?_
        rintro e w2 ⟨rfl, hb2⟩
        cases hd : areDigits s.data.toList with
        | false =>
          obtain rfl : c = 0 := by have := HC.out; rw [hd] at this; exact this.symm
          clear hd
          go_wp2_with fail
          go_ret
          exact ⟨rfl, bel_step hb1 hb2⟩
        | true =>
          obtain rfl : c = (numberOf s.data.toList).2 := by have := HC.out; rw [hd] at this; exact this.symm
          have HK : Hid ((numberOf s.data.toList).2 = 0) := Lib.hid (by have := HPE.out; rw [hd] at this; exact this)
          clear hd
          go_wp2_with fail
          refine (numberD_calls ks A _ _ ((hE.below hb1.b).below hb2.b) hs HK.out).mono ?_
          rintro e w3 ⟨rfl, hb3⟩
          go_wp2_with fail
          go_ret
          exact ⟨rfl, bel_step (bel_step hb1 hb2) hb3⟩

end Go.Proofs.Pw

/- ver.Split at right versions, the tape's place told. MADE BY mkd.py out of XVerLong. -/
namespace Go.Proofs.Pw
open Go.RowKit
open Go.Lib hiding intOf

/-- strings.Split: a new row of pieces -/
theorem splitD_calls (s sep : ByteArray) (w : World) (hE : EnvM w) (hs : s.size ≤ 4000000000) (h1 : 1 ≤ sep.size) :
    Calls Tryz.prog 124 #[.string s, .string sep] w fun e w' => ∃ n, e = .returned (.slice (some ⟨w.heap.size, 0, none⟩) n n) ∧ 1 ≤ n ∧ n ≤ s.size + 1 ∧
      Hid (lstF n (splitL s sep) = split s.data.toList sep.data.toList) ∧ Bel w.heap.size w w' ∧ (∀ j, j < n → w'.cell? ⟨w.heap.size, j, none⟩ = some (.string (splitL s sep j))) ∧ w.heap.size < w'.heap.size := by
  obtain ⟨m, hm⟩ := hE.maxLen
  refine (Tryz.strings_Split s sep m w (by omega) hm h1).mono fun e w' ⟨h, h2⟩ => ?_
  refine ⟨_, h, by omega, by have := countB_le sep h1 s.size s (Nat.le_refl _); omega, splitL_lstF s sep h1, h2 ▸ bel_alloc _ _, ?_, by rw [h2]; simp⟩
  intro j hj
  have hl := splitB_all sep h1 0 _ s rfl
  rw [h2, World.cell?_alloc_at _ _ _ _ rfl]
  simp only [List.getElem?_toArray, List.getElem?_map, splitL]
  rw [List.getElem?_eq_getElem (by omega)]
  simp [List.getD_eq_getElem?_getD, List.getElem?_eq_getElem (show j < (splitB sep 0 (countB s sep) s).length by omega)]


theorem cutD_calls (s sep : ByteArray) (w : World) (hE : EnvM w) (hs : s.size ≤ 4000000000) :
    Calls Tryz.prog 176 #[.string s, .string sep] w fun e w' => e = .returned (.tuple #[.string ⟨(Lib.cut s.data.toList sep.data.toList).1.toArray⟩, .string ⟨(Lib.cut s.data.toList sep.data.toList).2.1.toArray⟩, .bool (Lib.cut s.data.toList sep.data.toList).2.2]) ∧ Bel w.heap.size w w' := by
  obtain ⟨m, hm⟩ := hE.maxLen
  refine (Tryz.strings_Cut s sep m w (by omega) hm).mono ?_
  rintro e w' ⟨rfl, n, rfl⟩
  exact ⟨rfl, Bel.drewN (Bel.refl _ _) _⟩


set_option maxHeartbeats 2000000 in
set_option maxRecDepth 100000 in
theorem verSplitD_calls (ks : List Nat) (A : Nat → Addr) (s : ByteArray) (w : World) (hE : EnvP ks A w) (hs : s.size ≤ 1000000000) (hok : verErr s.data.toList = 0) :
    Calls Tryz.prog 130 #[.string s] w fun e w' => Bel w.heap.size w w' ∧ ∃ v, e = .returned (.tuple #[.agg #[.int .i64 (verNum s.data.toList 0 : Nat), .int .i64 (verNum s.data.toList 1 : Nat), .int .i64 (verNum s.data.toList 2 : Nat), v], errV A (verErr s.data.toList)]) ∧ StrsAt w' v (verPre s.data.toList) := by
  obtain ⟨hf, hl, hws, hps, _⟩ := (verErr_zero s.data.toList).1 hok
  have HWS := Lib.hid hws
  have HPS := Lib.hid hps
  clear hws hps hok
  have ht : (trimPrefix s.data.toList [118]).length ≤ s.size := by rw [size_eq s]; exact trimPrefix_le _ _
  have hc1 := (cut_le (trimPrefix s.data.toList [118]) [45])
  have ht4 : (⟨(trimPrefix s.data.toList [118]).toArray⟩ : ByteArray).size ≤ 4000000000 := Nat.le_trans ht (by omega)
  have hc4 : (⟨(cut (trimPrefix s.data.toList [118]) [45]).1.toArray⟩ : ByteArray).size ≤ 4000000000 := Nat.le_trans hc1.1 (Nat.le_trans ht (by omega))
  have hp4 : (⟨(cut (trimPrefix s.data.toList [118]) [45]).2.1.toArray⟩ : ByteArray).size ≤ 1000000000 := Nat.le_trans hc1.2 (Nat.le_trans ht hs)
  have h5 : ∀ n L, (Hid (lstF n L = split (cut (trimPrefix s.data.toList [118]) [45]).1 [46])) → n = 3 ∧ lstF 3 L = verWords s.data.toList := fun n L h => by
    have := congrArg List.length h.out
    rw [lstF_length] at this
    have e : n = 3 := this.trans hl
    subst e
    exact ⟨rfl, h.out⟩
  have HW : Hid (verWords s.data.toList = split (cut (trimPrefix s.data.toList [118]) [45]).1 [46]) := Lib.hid rfl
  have HP : Hid (verPres s.data.toList = if (cut (trimPrefix s.data.toList [118]) [45]).2.2 then split (cut (trimPrefix s.data.toList [118]) [45]).2.1 [46] else []) := Lib.hid rfl
  have HV : Hid (verErr s.data.toList = verErrs s.data.toList) := Lib.hid (by unfold verErr; rw [if_neg]; rw [hf, hl]; simp)
  have HF := Lib.hid hf
  clear hf hl
  go_enter Tryz.func130, Tryz.ntmps130
  go_wp2_with fail
  have hb0 := bel_alloc w (.cells #[.int .i64 0, .int .i64 0, .int .i64 0, .slice none 0 0] 143)
  refine (cutPrefix_calls _ _ _).mono ?_
  rintro e w1 ⟨rfl, hw1⟩
  subst hw1
  rw [show (⟨#[118]⟩ : ByteArray).data.toList = [118] from rfl, HF.out]
  have hE0 := hE.below hb0.b
  go_wp2_with fail
  refine (cutD_calls _ _ _ hE0.m ht4).mono ?_
  rintro e w2 ⟨rfl, hb1⟩
  have hE1 := hE0.below hb1.b
  have hb01 := bel_step hb0 hb1
  have hz0 := (box4_alloc w (.int .i64 0) (.int .i64 0) (.int .i64 0) (.slice none 0 0) 143).below hb1.b
  have hz0s : w.heap.size < w2.heap.size := lt_of_cell hz0.c0
  rw [show (⟨#[45]⟩ : ByteArray).data.toList = [45] from rfl]
  rw [data_mk]
  generalize hH : (cut (trimPrefix s.data.toList [118]) [45]).1 = hd at hc4 h5 HW ⊢
  generalize hG : (cut (trimPrefix s.data.toList [118]) [45]).2.1 = pr at hp4 HP ⊢
  generalize hB : (cut (trimPrefix s.data.toList [118]) [45]).2.2 = has at HP ⊢
  clear hH hG hB hc1 ht4 ht
  go_wp2_with fail
  refine (splitD_calls _ ⟨#[46]⟩ _ hE1.m hc4 (by decide)).mono ?_
  rintro e w3 ⟨n, rfl, hn1, hn2, HL, hb2, hc2, hz2⟩
  obtain ⟨rfl, hn⟩ := h5 n _ HL
  have hE2 := hE1.below hb2.b
  have hb02 := bel_step hb01 hb2
  have hz2 := hz0.below hb2.b
  have HN := Lib.hid hn
  have hLs := lstF_mem_le (by decide) HL.out
  rw [data_mk] at hLs
  have hhd : hd.length ≤ 4000000000 := hc4
  generalize splitL ⟨hd.toArray⟩ ⟨#[46]⟩ = L at hc2 HN hLs ⊢
  have hLs4 : ∀ j, j < 3 → (L j).size ≤ 4000000000 := fun j hj => Nat.le_trans (hLs j hj) hhd
  have hHC := Lib.hid hc2
  clear hn h5 hb1 hb2 hb01 hE0 hE1 hz0 HL HW hn1 hn2 hc4 hLs hhd hc2
  go_wp2_with fail
  have hba := bel_alloc w3 (.cells #[.int .i64 0, .int .i64 0, .int .i64 0] 106)
  go_loopw [10, 41] (fun e i wr => ∃ k : Nat, k ≤ 3 ∧ i = .int .i64 k ∧ e = errV A (numErrs ((lstF 3 L).take k) 0) ∧ Bel w3.heap.size w3 wr ∧ Nums wr w3.heap.size L k) (fun _ i _ => 3 - (intOf i).toNat)
  case atStart => exact ⟨0, by omega, rfl, rfl, hba, nums_alloc _ _ _⟩
  case round =>
    obtain ⟨k, hk, rfl, rfl, hbr, hN⟩ := hrel
    have hEr := hE2.below hbr.b
    by_cases hlt : k < 3
    · have hck := Below.cell_some hbr.b (hHC.out k hlt)
      go_wp2_with fail
      refine (numberD_calls ks A (L k) wr hEr (hLs4 k hlt) (HWS.out _ (by rw [← HN.out]; exact List.mem_of_getElem? (lstF_get 3 L k hlt)))).mono ?_
      rintro e w4 ⟨rfl, hb4⟩
      have hN4 := hN.below hb4.b
      have hE4 := hEr.below hb4.b
      have hbr4 := bel_step hbr hb4
      have hn1 := hN4.c k hlt
      have hn2 := hN4.fr k
      go_wp2_with fail
      have hbs : Bel w3.heap.size w3 (w4.setCell ⟨w3.heap.size, k, none⟩ (.int .i64 ((numberOf (L k).data.toList).1 : Nat))) := hbr4.setCell (Nat.le_refl _) _
      have hE5 := hE2.below hbs.b
      have hN5 := hN4.step hlt
      refine (worse_calls ks A (numErrs ((lstF 3 L).take k) 0) (numberOf (L k).data.toList).2 _ hE5 ?_).mono ?_
      · have := numErrs_le ((lstF 3 L).take k) 0 (by decide)
        have h12 := hE.has
        rcases (by omega : numErrs ((lstF 3 L).take k) 0 = 0 ∨ numErrs ((lstF 3 L).take k) 0 = 1 ∨ numErrs ((lstF 3 L).take k) 0 = 2) with h | h | h
        · exact .inl h
        · rw [h]; exact .inr h12.1
        · rw [h]; exact .inr h12.2
      rintro e w5 ⟨rfl, hw5⟩
      subst hw5
      have hst := numErrs_snoc ((lstF 3 L).take k) (L k).data.toList 0
      rw [← lstF_take_succ 3 L k hlt] at hst
      rw [← hst]
      clear hst
      go_wp2_with fail
      go_roundw
      case rel => exact ⟨k + 1, by omega, by go_num, rfl, hbs, hN5⟩
      case measure => simp [intOf]; omega
    · obtain rfl : k = 3 := by omega
      have hn0 := hN.c 0 (by decide)
      have hn1 := hN.c 1 (by decide)
      have hn2 := hN.c 2 (by decide)
      rw [lstF_take_all, HN.out]
      have hbA := bel_alloc wr (.cells #[.int .i64 (numAt L 3 0), .int .i64 (numAt L 3 1), .int .i64 (numAt L 3 2), .slice none 0 0] 143)
      have hpA := box4_alloc wr (.int .i64 (numAt L 3 0)) (.int .i64 (numAt L 3 1)) (.int .i64 (numAt L 3 2)) (.slice none 0 0) 143
      have hb3A : Bel w3.heap.size w3 _ := bel_step hbr hbA
      have hEA := hE2.below hb3A.b
      have hnew : w.heap.size < wr.heap.size := Nat.lt_of_lt_of_le (lt_of_cell hz2.c0) hbr.size
      have hrs : w3.heap.size ≤ wr.heap.size := hbr.size
      have hE3' := hE2
      clear hba hE2 hEr hN hHC hLs4 hbr
      cases has
      case' false =>
        have hPr : verPres s.data.toList = [] := HP.out
        have hce : numErrs (verWords s.data.toList) 0 = verErrs s.data.toList := by unfold verErrs; rw [hPr]; rfl
        rw [hce]
        have hS : StrsAt' (wr.alloc (.cells #[.int .i64 (numAt L 3 0), .int .i64 (numAt L 3 1), .int .i64 (numAt L 3 2), .slice none 0 0] 143)) (.slice none 0 0) (verPres s.data.toList) w.heap.size := by
          rw [hPr]; exact ⟨StrsAt.nil _, by intro q n c h; cases h⟩
        have hzf := hz2.below hb3A.b
        have hbF := bel_step hb02 hb3A
        have hpF := hpA
        clear hPr hce
        go_wp2_with fail
        go_loop [10, 71] (fun e i => e = errV A (verErrs s.data.toList) ∧ i = .int .i64 0) (fun _ _ => 0)
        case atStart => exact ⟨rfl, rfl⟩
        case' round =>
          obtain ⟨rfl, rfl⟩ := hrel
          generalize hwF : wr.alloc (.cells #[.int .i64 (numAt L 3 0), .int .i64 (numAt L 3 1), .int .i64 (numAt L 3 2), .slice none 0 0] 143) = wF at hS hzf hbF hpF ⊢
          generalize wr.heap.size = pb at hpF hnew hrs ⊢
          clear hpA hbA hb3A hEA hE3' HP
      case' true =>
        have hPr : verPres s.data.toList = split pr [46] := HP.out
        go_wp2_with fail
        generalize wr.alloc (.cells #[.int .i64 (numAt L 3 0), .int .i64 (numAt L 3 1), .int .i64 (numAt L 3 2), .slice none 0 0] 143) = wA at hbA hpA hb3A hEA ⊢
        have hrA : wr.heap.size < wA.heap.size := lt_of_cell hpA.c0
        refine (splitD_calls _ ⟨#[46]⟩ _ hEA.m (Nat.le_trans hp4 (by decide)) (by decide)).mono ?_
        rintro e wB ⟨n, rfl, hm1, hm2, HLp, hbB, hcB, hzB⟩
        have hLp := lstF_mem_le (by decide) HLp.out
        have hn9 : n ≤ 1000000001 := Nat.le_trans hm2 (Nat.succ_le_succ hp4)
        have hPn : Hid (lstF n (splitL ⟨pr.toArray⟩ ⟨#[46]⟩) = verPres s.data.toList) := Lib.hid (HLp.out.trans hPr.symm)
        rw [data_mk] at hLp
        have hpr : pr.length ≤ 4000000000 := Nat.le_trans hp4 (by decide)
        generalize splitL ⟨pr.toArray⟩ ⟨#[46]⟩ = P at hcB hPn hLp ⊢
        have hPs : ∀ j, j < n → (P j).size ≤ 4000000000 := fun j hj => Nat.le_trans (hLp j hj) hpr
        have hpB := hpA.below hbB.b
        have pb3 := hpB.c3
        have pf3 := hpB.fr 3
        have hpC := hpB.set3 (.slice (some ⟨wA.heap.size, 0, none⟩) n n)
        have hb3B := bel_step hb3A hbB
        have hb3C : Bel w3.heap.size w3 (wB.setCell ⟨wr.heap.size, 3, none⟩ (.slice (some ⟨wA.heap.size, 0, none⟩) n n)) := hb3B.setCell (by have := lt_of_cell hpA.c0; exact hrs) _
        have hcC : ∀ j, j < n → (wB.setCell ⟨wr.heap.size, 3, none⟩ (.slice (some ⟨wA.heap.size, 0, none⟩) n n)).cell? ⟨wA.heap.size, j, none⟩ = some (.string (P j)) := fun j hj => by
          rw [World.cell?_setCell_other _ _ _ _ (by intro e; injection e with e1 _ _; omega)]; exact hcB j hj
        have HC := Lib.hid hcC
        have hE3 := hE3'.below hb3C.b
        clear hm1 hm2 HLp hLp hpr HP hPr hcB hbB hbA hEA hcC hpA hpB hzB
        go_wp2_with fail
        clear pb3 pf3
        generalize wB.setCell ⟨wr.heap.size, 3, none⟩ (.slice (some ⟨wA.heap.size, 0, none⟩) n n) = wC at hb3C HC hE3 hpC ⊢
        generalize wr.heap.size = pb at hpC hrA hnew hrs ⊢
        go_loopw [10, 71] (fun e i wr' => ∃ k : Nat, k ≤ n ∧ i = .int .i64 k ∧ e = errV A (partErrs ((lstF n P).take k) (numErrs (verWords s.data.toList) 0)) ∧ Bel wC.heap.size wC wr') (fun _ i _ => n - (intOf i).toNat)
        case atStart => exact ⟨0, by omega, rfl, rfl, Bel.refl _ _⟩
        case' round =>
          obtain ⟨k, hk, rfl, rfl, hbl⟩ := hrel
          have hEl := hE3.below hbl.b
          by_cases hlt : k < n
          case' pos =>
            have hck := Below.cell_some hbl.b (HC.out k hlt)
            go_wp2_with fail
            refine (partD_calls ks A (P k) _ hEl (hPs k hlt) (HPS.out _ (by rw [← hPn.out]; exact List.mem_of_getElem? (lstF_get n P k hlt)))).mono ?_
            rintro e w4 ⟨rfl, hb4⟩
            have hb4C := bel_step hbl hb4
            have hE4 := hEl.below hb4.b
            go_wp2_with fail
            refine (worse_calls ks A (partErrs ((lstF n P).take k) (numErrs (verWords s.data.toList) 0)) (partErr (P k).data.toList) _ hE4 ?_).mono ?_
            · have := partErrs_le ((lstF n P).take k) _ (numErrs_le (verWords s.data.toList) 0 (by decide))
              have h12 := hE.has
              generalize partErrs ((lstF n P).take k) (numErrs (verWords s.data.toList) 0) = c at this
              rcases (by omega : c = 0 ∨ c = 1 ∨ c = 2) with h | h | h
              · exact .inl h
              · rw [h]; exact .inr h12.1
              · rw [h]; exact .inr h12.2
            rintro e w5 ⟨rfl, hw5⟩
            subst hw5
            have hst := partErrs_snoc ((lstF n P).take k) (P k).data.toList (numErrs (verWords s.data.toList) 0)
            rw [← lstF_take_succ n P k hlt] at hst
            rw [← hst]
            clear hst
            go_wp2_with fail
            go_roundw
            case rel => exact ⟨k + 1, by omega, by go_num, rfl, hb4C⟩
            case measure => simp [intOf]; omega
          case' neg =>
            obtain rfl : k = n := by omega
            rw [lstF_take_all, hPn.out]
            have hzf := (hz2.below hb3C.b).below hbl.b
            have hbF := bel_step (bel_step hb02 hb3C) hbl
            have hpF := hpC.below hbl.b
            have hw0 : w.heap.size < wA.heap.size := Nat.lt_trans hnew hrA
            have hS : StrsAt' wr (.slice (some ⟨wA.heap.size, 0, none⟩) k k) (verPres s.data.toList) w.heap.size := ⟨⟨_, k, k, P, rfl, hPn.out.symm, Nat.le_refl _, Nat.le_trans hn9 (by decide), fun j hj => ⟨_, 0, rfl, by rw [Nat.zero_add]; exact Below.cell_some hbl.b (HC.out j hj)⟩⟩, by intro q n' c' h; injection h with h _ _; injection h with h; subst h; exact Nat.ne_of_gt hw0⟩
            have hlen : (verPres s.data.toList).length = k := by rw [← hPn.out, lstF_length]
            have hev : verErrs s.data.toList = if 5 < k then worseN (partErrs (verPres s.data.toList) (numErrs (verWords s.data.toList) 0)) 2 else partErrs (verPres s.data.toList) (numErrs (verWords s.data.toList) 0) := by unfold verErrs; rw [hlen]
            have hlec := partErrs_le (verPres s.data.toList) _ (numErrs_le (verWords s.data.toList) 0 (by decide))
            have p3 := hpF.c3
            clear hPn hb3C HC hpC hE3 hE3' hPs
            by_cases hk5 : 5 < k
            case' neg =>
              rw [if_neg hk5] at hev
              rw [← hev]
              clear hev hlec hlen p3 hEl hbl
            case' pos =>
              rw [if_pos hk5] at hev
              have g2 := hEl.errs.var 2 hE.has.2
              simp only [errG] at g2
              have h12 := hE.has
              have HEV := Lib.hid hev
              clear hev hlen hbl
              go_wp2_with fail
              clear p3 g2
              rw [show (Value.iface 271 (.pointer (some (A 2)))) = errV A 2 from (errV_pos A (c := 2) (by decide)).symm]
              refine (worse_calls ks A (partErrs (verPres s.data.toList) (numErrs (verWords s.data.toList) 0)) 2 _ hEl ?_).mono ?_
              · rcases (by omega : partErrs (verPres s.data.toList) (numErrs (verWords s.data.toList) 0) = 0 ∨ partErrs (verPres s.data.toList) (numErrs (verWords s.data.toList) 0) = 1 ∨ partErrs (verPres s.data.toList) (numErrs (verWords s.data.toList) 0) = 2) with h | h | h
                · exact .inl h
                · rw [h]; exact .inr h12.1
                · rw [h]; exact .inr h12.2
              rintro e w5 ⟨rfl, hw5⟩
              subst hw5
              rw [← HEV.out]
              clear HEV h12 hlec hEl
      all_goals
        have hne : w.heap.size ≠ pb := Nat.ne_of_lt hnew
        have hne' : pb ≠ w.heap.size := hne.symm
        obtain ⟨p0, p1, p2, p3, pf⟩ := hpF
        obtain ⟨z0, z1, z2, z3, zf⟩ := hzf
        have zf0 := zf 0
        have zf1 := zf 1
        have zf2 := zf 2
        have zf3 := zf 3
        have hn3 := numAt_three L s.data.toList HN.out
        clear pf zf
        by_cases hc : verErrs s.data.toList = 0
        · have hv0 := HV.out.trans hc
          have e0 := hn3 hv0 0 (by decide)
          have e1 := hn3 hv0 1 (by decide)
          have e2 := hn3 hv0 2 (by decide)
          have hpre := verPre_ok hv0
          have hS2 := fun u => ((((hS.set 0 (.int .i64 (numAt L 3 0))).set 1 (.int .i64 (numAt L 3 1))).set 2 (.int .i64 (numAt L 3 2))).set 3 u).at_
          have HX := Lib.hid (And.intro hpre (And.intro e0 (And.intro e1 (And.intro e2 hv0))))
          rw [hc, errV_zero]
          clear hS hn3 e0 e1 e2 hpre hv0 hc HV
          go_wp2_with fail
          refine bodyPost_ret (v := .tuple #[.agg #[.int .i64 (numAt L 3 0), .int .i64 (numAt L 3 1), .int .i64 (numAt L 3 2), _], .nilIface]) (by simp [results, Tryz.results130, go_sem, *]; rfl) rfl ?_
          obtain ⟨hpre, e0, e1, e2, hv0⟩ := HX.out
          rw [hpre, ← e0, ← e1, ← e2, hv0]
          exact ⟨((((hbF.setCell (Nat.le_refl _) _).setCell (Nat.le_refl _) _).setCell (Nat.le_refl _) _).setCell (Nat.le_refl _) _), _, rfl, hS2 _⟩
        · have hv0 : verErr s.data.toList ≠ 0 := by rw [HV.out]; exact hc
          have HX := Lib.hid (And.intro hv0 HV.out)
          rw [errV_pos A hc]
          clear hS hn3 hv0 hc HV
          go_wp2_with fail
          refine bodyPost_ret (v := .tuple #[.agg #[.int .i64 0, .int .i64 0, .int .i64 0, .slice none 0 0], .iface 271 (.pointer (some (A (verErrs s.data.toList))))]) (by simp [results, Tryz.results130, go_sem, *]) rfl ?_
          rw [verNum_bad HX.out.1, verNum_bad HX.out.1, verNum_bad HX.out.1, verPre_bad HX.out.1, errV_pos A HX.out.1, HX.out.2]
          exact ⟨((((hbF.setCell (Nat.le_refl _) _).setCell (Nat.le_refl _) _).setCell (Nat.le_refl _) _).setCell (Nat.le_refl _) _), _, rfl, StrsAt.nil _⟩


end Go.Proofs.Pw

/- ver.Compare at right versions, the tape's place told. MADE BY mkd.py out of XVerCmp. -/
namespace Go.Proofs.Pw
open Go.RowKit
open Go.Lib hiding intOf

theorem cmpOrD (b n : Nat) (V : Nat → Int) (w : World) (hn : n ≤ 100) (hc : ∀ j, j < n → w.cell? ⟨b, j, none⟩ = some (.int .i64 (V j))) :
    Calls Tryz.prog 153 #[.slice (some ⟨b, 0, none⟩) n n] w fun e w' => e = .returned (.int .i64 (orN n V)) ∧ Bel w.heap.size w w' := by
  have HC := Lib.hid hc
  clear hc
  go_enter Tryz.func153, Tryz.ntmps153
  go_wp2_with fail
  go_loopw [8] (fun i wr => ∃ k : Nat, k ≤ n ∧ i = .int .i64 k ∧ Bel w.heap.size w wr ∧ Hid (∀ j, j < k → V j = 0)) (fun i _ => n - (intOf i).toNat)
  case atStart => exact ⟨0, by omega, rfl, Bel.refl _ _, Lib.hid (fun j hj => absurd hj (Nat.not_lt_zero _))⟩
  case round =>
    obtain ⟨k, hk, rfl, hbl, HA⟩ := hrel
    by_cases hlt : k < n
    · have hck := Below.cell_some hbl.b (HC.out k hlt)
      by_cases hv : V k = 0
      · have HV := Lib.hid hv
        rw [hv] at hck
        clear hv
        go_wp2_with fail
        go_roundw
        case rel =>
          refine ⟨k + 1, by omega, by go_num, hbl, Lib.hid (fun j hj => ?_)⟩
          by_cases e : j = k
          · subst e; exact HV.out
          · exact HA.out j (by omega)
        case measure => simp [intOf]; omega
      · have HV := Lib.hid hv
        have hv2 : (V k == 0) = false := beq_eq_false_iff_ne.2 hv
        have hres := Lib.hid (orN_hit V k HA.out hv n hlt)
        generalize V k = v at hck hv2 hres
        clear hv HV
        go_wp2_with fail
        go_ret
        rw [hres.out]
        exact ⟨rfl, hbl⟩
    · obtain rfl : k = n := by omega
      go_wp2_with fail
      go_ret
      rw [orN_none V k HA.out]
      exact ⟨rfl, hbl⟩


set_option maxHeartbeats 400000 in
/-- ver.comparePart -/
theorem cmpPartD (a b : ByteArray) (w : World) (ha : a.size ≤ 1000000000) (hb : b.size ≤ 1000000000) :
    Calls Tryz.prog 155 #[.string a, .string b] w fun e w' => e = .returned (.int .i64 (cmpPart a.data.toList b.data.toList)) ∧ Bel w.heap.size w w' := by
  have hm : cmpPart a.data.toList b.data.toList = if areDigits a.data.toList && areDigits b.data.toList then orI ((a.size : Int) - b.size) (compareBytes a.data.toList b.data.toList) else if areDigits a.data.toList then -1 else if areDigits b.data.toList then 1 else compareBytes a.data.toList b.data.toList := by
    rw [size_eq, size_eq]; rfl
  generalize cmpPart a.data.toList b.data.toList = R at hm ⊢
  generalize hx : areDigits a.data.toList = x at hm
  generalize hy : areDigits b.data.toList = y at hm
  have HX := Lib.hid hx
  have HY := Lib.hid hy
  have hS := Tryz.strings_Compare a b
  generalize compareBytes a.data.toList b.data.toList = c at hm hS
  have HS := Lib.hid hS
  have HM := Lib.hid hm
  clear hx hy hm hS
  go_enter Tryz.func155, Tryz.ntmps155
  go_wp2_with fail
  refine (digitsD_calls a w (Nat.le_trans ha (by decide))).mono ?_
  rintro e w1 ⟨rfl, hb1⟩
  go_wp2_with fail
  refine (digitsD_calls b w1 (Nat.le_trans hb (by decide))).mono ?_
  rintro e w2 ⟨rfl, hb2⟩
  rw [HX.out, HY.out]
  have hb02 := bel_step hb1 hb2
  cases x <;> cases y
  case false.false =>
    go_wp2_with fail
    refine (HS.out w2).mono ?_
    rintro e w3 ⟨rfl, rfl⟩
    go_wp2_with fail
    go_ret
    rw [HM.out]
    exact ⟨rfl, hb02⟩
  case false.true =>
    go_wp2_with fail
    go_ret
    rw [HM.out]
    exact ⟨rfl, hb02⟩
  case true.false =>
    go_wp2_with fail
    go_ret
    rw [HM.out]
    exact ⟨rfl, hb02⟩
  case true.true =>
    go_wp2_with fail
    refine (HS.out w2).mono ?_
    rintro e w3 ⟨rfl, rfl⟩
    go_wp2_with fail
    refine (cmpOrD _ 2 (fun j => if j = 0 then (a.size : Int) - b.size else c) _ (by decide) ?_).mono ?_
    · intro j hj
      obtain rfl | rfl : j = 0 ∨ j = 1 := by omega
      all_goals simp
    rintro e w4 ⟨rfl, hb4⟩
    have ho : orN 2 (fun j => if j = 0 then (a.size : Int) - b.size else c) = orI ((a.size : Int) - b.size) c := by
      rw [orN_succ, orN_succ]
      show orI (orI 0 _) _ = _
      rw [orI_zero]
      rfl
    rw [ho]
    have hb05 := bel_step hb02 (bel_step (bel_alloc _ _) hb4)
    clear ho hb4
    go_wp2_with fail
    go_ret
    rw [HM.out]
    exact ⟨rfl, hb05⟩


set_option maxHeartbeats 400000 in
/-- slices.CompareFunc with comparePart -/
theorem cmpFuncD (a1 a2 : Option Addr) (n c1 m c2 : Nat) (L M : Nat → ByteArray) (w : World) (hn : n ≤ 1000000001) (hm : m ≤ 1000000001)
    (h1 : ∀ j, j < n → ∃ b o, a1 = some ⟨b, o, none⟩ ∧ w.cell? ⟨b, o + j, none⟩ = some (.string (L j))) (h2 : ∀ j, j < m → ∃ b o, a2 = some ⟨b, o, none⟩ ∧ w.cell? ⟨b, o + j, none⟩ = some (.string (M j)))
    (hL : ∀ j, j < n → (L j).size ≤ 1000000000) (hM : ∀ j, j < m → (M j).size ≤ 1000000000) :
    Calls Tryz.prog 154 #[.slice a1 n c1, .slice a2 m c2, .func (.func 155) #[] #[]] w fun e w' => e = .returned (.int .i64 (cmpList (lstF n L) (lstF m M))) ∧ Bel w.heap.size w w' := by
  have H1 := Lib.hid h1
  have H2 := Lib.hid h2
  have HL := Lib.hid hL
  have HM := Lib.hid hM
  clear h1 h2 hL hM
  go_enter Tryz.func154, Tryz.ntmps154
  go_wp2_with fail
  go_loopw [13] (fun i wr => ∃ k : Nat, k ≤ n ∧ k ≤ m ∧ i = .int .i64 k ∧ Bel w.heap.size w wr ∧ Hid (cmpList (lstF n L) (lstF m M) = cmpList ((lstF n L).drop k) ((lstF m M).drop k))) (fun i _ => n - (intOf i).toNat)
  case atStart => exact ⟨0, by omega, by omega, rfl, Bel.refl _ _, Lib.hid rfl⟩
  case round =>
    obtain ⟨k, hk, hkm, rfl, hbl, HA⟩ := hrel
    by_cases hlt : k < n
    · obtain ⟨b1, o1, rfl, d1⟩ := H1.out k hlt
      replace d1 := Below.cell_some hbl.b d1
      by_cases hlm : k < m
      · obtain ⟨b2, o2, rfl, d2⟩ := H2.out k hlm
        replace d2 := Below.cell_some hbl.b d2
        have hcall := cmpPartD (L k) (M k) wr (HL.out k hlt) (HM.out k hlm)
        have hst := cmpList_drop n m L M k hlt hlm
        generalize cmpPart (L k).data.toList (M k).data.toList = c at hcall hst
        by_cases hc : c = 0
        · rw [hc, orI_zero] at hst
          subst hc
          have HS := Lib.hid (HA.out.trans hst)
          clear hst
          go_wp2_with fail
          refine hcall.mono ?_
          rintro e w' ⟨rfl, hb2⟩
          go_wp2_with fail
          go_roundw
          case rel => exact ⟨k + 1, by omega, by omega, by go_num, bel_step hbl hb2, HS⟩
          case measure => simp [intOf]; omega
        · rw [orI_left hc] at hst
          have HS := Lib.hid (HA.out.trans hst)
          have hc2 : (c == 0) = false := beq_eq_false_iff_ne.2 hc
          clear hst hc
          go_wp2_with fail
          refine hcall.mono ?_
          rintro e w' ⟨rfl, hb2⟩
          go_wp2_with fail
          go_ret
          rw [HS.out]
          exact ⟨rfl, bel_step hbl hb2⟩
      · obtain rfl : k = m := by omega
        have HS : Hid (cmpList (lstF n L) (lstF k M) = 1) := by
          refine Lib.hid (HA.out.trans ?_)
          rw [List.drop_of_length_le (l := lstF k M) (by rw [lstF_length]; exact Nat.le_refl _), List.drop_eq_getElem_cons (by rw [lstF_length]; exact hlt)]
          rfl
        go_wp2_with fail
        go_ret
        rw [HS.out]
        exact ⟨rfl, hbl⟩
    · obtain rfl : k = n := by omega
      by_cases hlm : k < m
      · have HS : Hid (cmpList (lstF k L) (lstF m M) = -1) := by
          refine Lib.hid (HA.out.trans ?_)
          rw [List.drop_of_length_le (l := lstF k L) (by rw [lstF_length]; exact Nat.le_refl _), List.drop_eq_getElem_cons (by rw [lstF_length]; exact hlm)]
          rfl
        go_wp2_with fail
        go_ret
        rw [HS.out]
        exact ⟨rfl, hbl⟩
      · obtain rfl : k = m := by omega
        have HS : Hid (cmpList (lstF k L) (lstF k M) = 0) := by
          refine Lib.hid (HA.out.trans ?_)
          rw [List.drop_of_length_le (l := lstF k L) (by rw [lstF_length]; exact Nat.le_refl _), List.drop_of_length_le (l := lstF k M) (by rw [lstF_length]; exact Nat.le_refl _)]
          rfl
        go_wp2_with fail
        go_ret
        rw [HS.out]
        exact ⟨rfl, hbl⟩


set_option maxHeartbeats 1000000 in
theorem verCompareD (ks : List Nat) (A : Nat → Addr) (a b : ByteArray) (w : World) (hE : EnvP ks A w) (ha : a.size ≤ 1000000000) (hb : b.size ≤ 1000000000) (oka : verErr a.data.toList = 0) (okb : verErr b.data.toList = 0) :
    Calls Tryz.prog 105 #[.string a, .string b] w fun e w' => e = .returned (.int .i64 (verCmp a.data.toList b.data.toList)) ∧ Bel w.heap.size w w' := by
  have OKA := Lib.hid oka
  have OKB := Lib.hid okb
  clear oka okb
  have la0 := verNum_le a.data.toList 0
  have la1 := verNum_le a.data.toList 1
  have la2 := verNum_le a.data.toList 2
  have lb0 := verNum_le b.data.toList 0
  have lb1 := verNum_le b.data.toList 1
  have lb2 := verNum_le b.data.toList 2
  have hm : verCmp a.data.toList b.data.toList = (let n := orI ((verNum a.data.toList 0 : Int) - verNum b.data.toList 0) (orI ((verNum a.data.toList 1 : Int) - verNum b.data.toList 1) ((verNum a.data.toList 2 : Int) - verNum b.data.toList 2)); if n = 0 ∧ decide ((verPre a.data.toList).length = 0) ≠ decide ((verPre b.data.toList).length = 0) then ((verPre b.data.toList).length : Int) - (verPre a.data.toList).length else orI n (cmpList (verPre a.data.toList) (verPre b.data.toList))) := rfl
  generalize verCmp a.data.toList b.data.toList = R at hm ⊢
  have HM := Lib.hid hm
  clear hm
  go_enter Tryz.func105, Tryz.ntmps105
  go_wp2_with fail
  refine (verSplitD_calls ks A a w hE ha OKA.out).mono ?_
  rintro e w1 ⟨hb1, va, rfl, a1, n1, cap1, L1, rfl, HL1, hn1, hn1', hc1⟩
  go_wp2_with fail
  have hbA := bel_alloc w1 (.cells #[.int .i64 (verNum a.data.toList 0 : Nat), .int .i64 (verNum a.data.toList 1 : Nat), .int .i64 (verNum a.data.toList 2 : Nat), .slice a1 n1 cap1] 143)
  have hzA := box4_alloc w1 (.int .i64 (verNum a.data.toList 0 : Nat)) (.int .i64 (verNum a.data.toList 1 : Nat)) (.int .i64 (verNum a.data.toList 2 : Nat)) (.slice a1 n1 cap1) 143
  have hb1A := bel_step hb1 hbA
  refine (verSplitD_calls ks A b _ (hE.below hb1A.b) hb OKB.out).mono ?_
  rintro e w2 ⟨hb2, vb, rfl, a2, n2, cap2, L2, rfl, HL2, hn2, hn2', hc2⟩
  have hbB := bel_alloc w2 (.cells #[.int .i64 (verNum b.data.toList 0 : Nat), .int .i64 (verNum b.data.toList 1 : Nat), .int .i64 (verNum b.data.toList 2 : Nat), .slice a2 n2 cap2] 143)
  have hzB := box4_alloc w2 (.int .i64 (verNum b.data.toList 0 : Nat)) (.int .i64 (verNum b.data.toList 1 : Nat)) (.int .i64 (verNum b.data.toList 2 : Nat)) (.slice a2 n2 cap2) 143
  have hzA2 := (hzA.below hb2.b).below hbB.b
  have hb2B := bel_step (bel_step hb1A hb2) hbB
  obtain ⟨p0, p1, p2, p3, _⟩ := hzA2
  obtain ⟨q0, q1, q2, q3, _⟩ := hzB
  have hs1 := verPre_small a.data.toList
  have hs2 := verPre_small b.data.toList
  rw [HL1, lstF_length] at hs1
  rw [HL2, lstF_length] at hs2
  have hL1 : ∀ j, j < n1 → (L1 j).size ≤ 1000000000 := fun j hj => by
    have := (hs1.2 _ (List.mem_of_getElem? (lstF_get n1 L1 j hj))).1
    rw [size_eq]; omega
  have hL2 : ∀ j, j < n2 → (L2 j).size ≤ 1000000000 := fun j hj => by
    have := (hs2.2 _ (List.mem_of_getElem? (lstF_get n2 L2 j hj))).1
    rw [size_eq]; omega
  have hm1 := hs1.1
  have hm2 := hs2.1
  have hcf := fun (W : World) (h : Bel w1.heap.size w1 W) (h' : Bel w2.heap.size w2 W) => cmpFuncD a1 a2 n1 cap1 n2 cap2 L1 L2 W (by omega) (by omega)
    (fun j hj => let ⟨b, o, e, h2⟩ := hc1 j hj; ⟨b, o, e, Below.cell_some h.b h2⟩) (fun j hj => let ⟨b, o, e, h2⟩ := hc2 j hj; ⟨b, o, e, Below.cell_some h'.b h2⟩) hL1 hL2
  have HCF := Lib.hid hcf
  have HM2 : Hid (R = if orI ((verNum a.data.toList 0 : Int) - verNum b.data.toList 0) (orI ((verNum a.data.toList 1 : Int) - verNum b.data.toList 1) ((verNum a.data.toList 2 : Int) - verNum b.data.toList 2)) = 0 ∧ decide (n1 = 0) ≠ decide (n2 = 0) then (n2 : Int) - n1 else orI (orI ((verNum a.data.toList 0 : Int) - verNum b.data.toList 0) (orI ((verNum a.data.toList 1 : Int) - verNum b.data.toList 1) ((verNum a.data.toList 2 : Int) - verNum b.data.toList 2))) (cmpList (lstF n1 L1) (lstF n2 L2))) := Lib.hid (by
    rw [HM.out]
    show (if _ ∧ _ then _ else _) = _
    rw [HL1, HL2, lstF_length, lstF_length])
  clear hs1 hs2 hcf HM HL1 HL2 hL1 hL2 hc1 hc2 hzA hb1A
  generalize cmpList (lstF n1 L1) (lstF n2 L2) = cl at HCF HM2
  have hb12 : Bel w1.heap.size w1 w2 := bel_step hbA hb2
  have hpz : w1.heap.size < w2.heap.size := lt_of_cell (show w2.cell? ⟨w1.heap.size, 0, none⟩ = some _ from (box4_alloc w1 (.int .i64 (verNum a.data.toList 0 : Nat)) (.int .i64 (verNum a.data.toList 1 : Nat)) (.int .i64 (verNum a.data.toList 2 : Nat)) (.slice a1 n1 cap1) 143 |>.below hb2.b).c0)
  generalize verNum a.data.toList 0 = x0 at *
  generalize verNum a.data.toList 1 = x1 at *
  generalize verNum a.data.toList 2 = x2 at *
  generalize verNum b.data.toList 0 = y0 at *
  generalize verNum b.data.toList 1 = y1 at *
  generalize verNum b.data.toList 2 = y2 at *
  have hmn : ∀ n, n = orI ((x0 : Int) - y0) (orI ((x1 : Int) - y1) ((x2 : Int) - y2)) → -1000000 ≤ n ∧ n ≤ 1000000 := fun n e => by
    rw [e]; unfold orI; split <;> (try split) <;> omega
  go_wp2_with fail
  refine (cmpOrD (w2.heap.size + 1) 3 (fun j => if j = 0 then (x0 : Int) - y0 else if j = 1 then (x1 : Int) - y1 else (x2 : Int) - y2) _ (by decide) ?_).mono ?_
  · intro j hj
    obtain rfl | rfl | rfl : j = 0 ∨ j = 1 ∨ j = 2 := by omega
    all_goals simp
  rintro e w4 ⟨rfl, hb4⟩
  have ho : orN 3 (fun j => if j = 0 then (x0 : Int) - y0 else if j = 1 then (x1 : Int) - y1 else (x2 : Int) - y2) = orI ((x0 : Int) - y0) (orI ((x1 : Int) - y1) ((x2 : Int) - y2)) := by
    rw [orN_succ, orN_succ, orN_succ]
    show orI (orI (orI 0 _) _) _ = _
    rw [orI_zero]
    simp only [↓reduceIte]
    unfold orI
    by_cases h1 : (x0 : Int) - y0 = 0
    · simp [h1]
    · simp [h1]
  rw [ho]
  have hN := hmn _ rfl
  clear ho hmn
  generalize orI ((x0 : Int) - y0) (orI ((x1 : Int) - y1) ((x2 : Int) - y2)) = N at hN HM2 ⊢
  have hbC := bel_step (bel_alloc _ _) hb4
  have p3' := Below.cell_some hbC.b p3
  have q3' := Below.cell_some hbC.b q3
  have hbW := bel_step hb2B hbC
  have hb14 : Bel w1.heap.size w1 w4 := bel_step (bel_step hb12 hbB) hbC
  have hb24 : Bel w2.heap.size w2 w4 := bel_step hbB hbC
  clear p0 p1 p2 p3 q0 q1 q2 q3 la0 la1 la2 lb0 lb1 lb2 hb4 hbC hb2B hb12 hbB hb1 hb2 hbA hpz
  have go_on : Hid (R = orI N cl) → Hid (∀ W, Bel w1.heap.size w1 W → Bel w2.heap.size w2 W → Calls Tryz.prog 154 #[.slice a1 n1 cap1, .slice a2 n2 cap2, .func (.func 155) #[] #[]] W fun e w' => e = .returned (.int .i64 cl) ∧ Bel W.heap.size W w') := fun _ => HCF
  by_cases h0 : N = 0
  · subst h0
    by_cases h1 : n1 = 0
    · subst h1
      by_cases h2 : n2 = 0
      · subst h2
        have HR : Hid (R = orI 0 cl) := Lib.hid (by rw [HM2.out, if_neg (by simp)])
        clear go_on
        go_wp2_with fail
        refine (HCF.out _ hb14 hb24).mono ?_
        rintro e w5 ⟨rfl, hb5⟩
        go_wp2_with fail
        refine (cmpOrD _ 2 (fun j => if j = 0 then 0 else cl) _ (by decide) ?_).mono ?_
        · intro j hj
          obtain rfl | rfl : j = 0 ∨ j = 1 := by omega
          all_goals simp
        rintro e w6 ⟨rfl, hb6⟩
        have ho : orN 2 (fun j => if j = 0 then 0 else cl) = orI 0 cl := by
          rw [orN_succ, orN_succ]
          show orI (orI 0 _) _ = _
          rw [orI_zero]
          rfl
        rw [ho]
        have hbE := bel_step hbW (bel_step hb5 (bel_step (bel_alloc _ _) hb6))
        clear ho hb6 hb5
        go_wp2_with fail
        go_ret
        rw [HR.out]
        exact ⟨rfl, hbE⟩
      · have HR : Hid (R = (n2 : Int) - (0 : Nat)) := Lib.hid (by rw [HM2.out, if_pos ⟨rfl, by simp [h2]⟩])
        have h2' : ((n2 : Int) == 0) = false := beq_eq_false_iff_ne.2 (by omega)
        clear h2
        go_wp2_with fail
        go_ret
        rw [HR.out]
        exact ⟨by simp, hbW⟩
    · by_cases h2 : n2 = 0
      · subst h2
        have HR : Hid (R = ((0 : Nat) : Int) - n1) := Lib.hid (by rw [HM2.out, if_pos ⟨rfl, by simp [h1]⟩])
        have h1' : ((n1 : Int) == 0) = false := beq_eq_false_iff_ne.2 (by omega)
        clear h1
        go_wp2_with fail
        go_ret
        rw [HR.out]
        exact ⟨by simp, hbW⟩
      · have HR : Hid (R = orI 0 cl) := Lib.hid (by rw [HM2.out, if_neg (by simp [h1, h2])])
        have h1' : ((n1 : Int) == 0) = false := beq_eq_false_iff_ne.2 (by omega)
        have h2' : ((n2 : Int) == 0) = false := beq_eq_false_iff_ne.2 (by omega)
        clear go_on h1 h2
        go_wp2_with fail
        refine (HCF.out _ hb14 hb24).mono ?_
        rintro e w5 ⟨rfl, hb5⟩
        go_wp2_with fail
        refine (cmpOrD _ 2 (fun j => if j = 0 then 0 else cl) _ (by decide) ?_).mono ?_
        · intro j hj
          obtain rfl | rfl : j = 0 ∨ j = 1 := by omega
          all_goals simp
        rintro e w6 ⟨rfl, hb6⟩
        have ho : orN 2 (fun j => if j = 0 then 0 else cl) = orI 0 cl := by
          rw [orN_succ, orN_succ]
          show orI (orI 0 _) _ = _
          rw [orI_zero]
          rfl
        rw [ho]
        have hbE := bel_step hbW (bel_step hb5 (bel_step (bel_alloc _ _) hb6))
        clear ho hb6 hb5
        go_wp2_with fail
        go_ret
        rw [HR.out]
        exact ⟨rfl, hbE⟩
  · have HR : Hid (R = orI N cl) := Lib.hid (by rw [HM2.out, if_neg (fun h => h0 h.1)])
    have h0' : (N == 0) = false := beq_eq_false_iff_ne.2 h0
    clear h0 go_on
    go_wp2_with fail
    refine (HCF.out _ hb14 hb24).mono ?_
    rintro e w5 ⟨rfl, hb5⟩
    go_wp2_with fail
    refine (cmpOrD _ 2 (fun j => if j = 0 then N else cl) _ (by decide) ?_).mono ?_
    · intro j hj
      obtain rfl | rfl : j = 0 ∨ j = 1 := by omega
      all_goals simp
    rintro e w6 ⟨rfl, hb6⟩
    have ho : orN 2 (fun j => if j = 0 then N else cl) = orI N cl := by
      rw [orN_succ, orN_succ]
      show orI (orI 0 _) _ = _
      rw [orI_zero]
      rfl
    rw [ho]
    have hbE := bel_step hbW (bel_step hb5 (bel_step (bel_alloc _ _) hb6))
    clear ho hb6 hb5
    go_wp2_with fail
    go_ret
    rw [HR.out]
    exact ⟨rfl, hbE⟩


end Go.Proofs.Pw

/- mod.Compare at right modules, the tape's place told. -/
namespace Go.Proofs.Pw
open Go.RowKit
open Go.Lib hiding intOf

theorem modCompareD (ks : List Nat) (A : Nat → Addr) (p v q u : ByteArray) (w : World) (hE : EnvP ks A w) (hv : v.size ≤ 1000000000) (hu : u.size ≤ 1000000000) (okv : verErr v.data.toList = 0) (oku : verErr u.data.toList = 0) :
    Calls Tryz.prog 56 #[.agg #[.string p, .string v], .agg #[.string q, .string u]] w fun e w' => e = .returned (.int .i64 (modCmp (p.data.toList, v.data.toList) (q.data.toList, u.data.toList))) ∧ Bel w.heap.size w w' := by
  have hb1 := bel_alloc w (.cells #[.string p, .string v] 38)
  have hb2 := bel_alloc (w.alloc (.cells #[.string p, .string v] 38)) (.cells #[.string q, .string u] 38)
  have hB := bel_step hb1 hb2
  obtain ⟨m0, m1, _⟩ := (box2_alloc w (.string p) (.string v) 38).below hb2.b
  obtain ⟨f0, f1, _⟩ := box2_alloc (w.alloc (.cells #[.string p, .string v] 38)) (.string q) (.string u) 38
  simp only [World.size_alloc] at f0 f1
  have hS := Tryz.strings_Compare p q
  have hC := verCompareD ks A v u ((w.alloc (.cells #[.string p, .string v] 38)).alloc (.cells #[.string q, .string u] 38)) (hE.below hB.b) hv hu okv oku
  have hm : modCmp (p.data.toList, v.data.toList) (q.data.toList, u.data.toList) = if p = q then verCmp v.data.toList u.data.toList else compareBytes p.data.toList q.data.toList := by
    unfold modCmp orI
    by_cases h : p = q
    · subst h
      rw [if_pos (compareBytes_ord.self _), if_pos rfl]
    · rw [if_neg (fun h2 => h (bytes_eq.1 (compareBytes_zero h2))), if_neg h]
  generalize compareBytes p.data.toList q.data.toList = x at hS hm
  generalize verCmp v.data.toList u.data.toList = y at hC hm
  replace hS := Lib.hid hS
  replace hC := Lib.hid hC
  clear hb1 hb2 hE okv oku
  by_cases h : p = q
  · rw [if_pos h] at hm
    have HM := Lib.hid hm
    subst h
    have h1 : (p.toList != p.toList) = false := by simp
    clear hm hS
    go_enter Tryz.func56, Tryz.ntmps56
    go_wp2_with fail
    refine hC.out.mono ?_
    rintro e w' ⟨rfl, hb⟩
    go_wp2_with fail
    go_ret
    rw [HM.out]
    exact ⟨rfl, bel_step hB hb⟩
  · rw [if_neg h] at hm
    have HM := Lib.hid hm
    have h1 : (p.toList != q.toList) = true := by rw [toList_data, toList_data]; exact bne_iff_ne.2 (fun e => h (bytes_eq.1 e))
    have h2 : p.toList ≠ q.toList := by rw [toList_data, toList_data]; exact fun e => h (bytes_eq.1 e)
    have h3 : (p.toList == q.toList) = false := beq_eq_false_iff_ne.2 h2
    clear hm hC
    go_enter Tryz.func56, Tryz.ntmps56
    go_wp2_with fail
    refine (hS.out _).mono ?_
    rintro e w' ⟨rfl, rfl⟩
    go_wp2_with fail
    go_ret
    rw [HM.out]
    exact ⟨rfl, hB⟩
end Go.Proofs.Pw

/- slices.SortFunc at []api.Mod: the kit's contract laid by hand at this program's numbers. -/
namespace Go.Proofs.Pw
open Go.RowKit

def laysSortMR : Go.Shelf.Ren := ⟨fun | 6 => 55 | 14 => 102 | 15 => 103 | 20 => 142 | 21 => 143 | 22 => 144 | 23 => 145 | 24 => 146 | 25 => 147 | 26 => 148 | 27 => 149 | 28 => 150 | 29 => 151 | 46 => 188 | 47 => 189 | 48 => 190 | 49 => 191 | 50 => 192 | 57 => 219 | n => n,
  fun | 0 => 0 | 3 => 3 | 4 => 4 | 5 => 5 | 9 => 9 | 22 => 23 | 24 => 38 | 25 => 76 | 39 => 122 | 45 => 155 | 46 => 156 | 50 => 160 | 53 => 163 | 55 => 165 | 66 => 197 | 70 => 201 | 76 => 230 | 77 => 91 | n => n, fun n => n⟩
theorem laysSortM : Go.Proofs.SlLaysF0.n6 Tryz.prog laysSortMR := {
  mixed := by kernel_rfl
  f6 := ⟨Tryz.f55.name, by decide, Tryz.func55.trans (congrArg some (by kernel_rfl))⟩
  f14 := ⟨Tryz.f102.name, by decide, Tryz.func102.trans (congrArg some (by kernel_rfl))⟩
  f15 := Tryz.func103.trans (congrArg some (by kernel_rfl))
  f20 := ⟨Tryz.f142.name, by decide, Tryz.func142.trans (congrArg some (by kernel_rfl))⟩
  f21 := ⟨Tryz.f143.name, by decide, Tryz.func143.trans (congrArg some (by kernel_rfl))⟩
  f22 := ⟨Tryz.f144.name, by decide, Tryz.func144.trans (congrArg some (by kernel_rfl))⟩
  f23 := ⟨Tryz.f145.name, by decide, Tryz.func145.trans (congrArg some (by kernel_rfl))⟩
  f24 := ⟨Tryz.f146.name, by decide, Tryz.func146.trans (congrArg some (by kernel_rfl))⟩
  f25 := ⟨Tryz.f147.name, by decide, Tryz.func147.trans (congrArg some (by kernel_rfl))⟩
  f26 := ⟨Tryz.f148.name, by decide, Tryz.func148.trans (congrArg some (by kernel_rfl))⟩
  f27 := ⟨Tryz.f149.name, by decide, Tryz.func149.trans (congrArg some (by kernel_rfl))⟩
  f28 := Tryz.func150.trans (congrArg some (by kernel_rfl))
  f29 := Tryz.func151.trans (congrArg some (by kernel_rfl))
  f46 := ⟨Tryz.f188.name, by decide, Tryz.func188.trans (congrArg some (by kernel_rfl))⟩
  f47 := Tryz.func189.trans (congrArg some (by kernel_rfl))
  f48 := Tryz.func190.trans (congrArg some (by kernel_rfl))
  f49 := ⟨Tryz.f191.name, by decide, Tryz.func191.trans (congrArg some (by kernel_rfl))⟩
  f50 := ⟨Tryz.f192.name, by decide, Tryz.func192.trans (congrArg some (by kernel_rfl))⟩
  f57 := ⟨Tryz.f219.name, by decide, Tryz.func219.trans (congrArg some (by kernel_rfl))⟩
  t0 := Tryz.underlying0
  a0 := Tryz.isAgg0
  z0 := Tryz.sizeOf0
  v0 := Tryz.zeroValue0
  t3 := Tryz.underlying3
  a3 := Tryz.isAgg3
  z3 := Tryz.sizeOf3
  v3 := Tryz.zeroValue3
  t4 := Tryz.underlying4
  a4 := Tryz.isAgg4
  z4 := Tryz.sizeOf4
  v4 := Tryz.zeroValue4
  t5 := Tryz.underlying5
  a5 := Tryz.isAgg5
  z5 := Tryz.sizeOf5
  v5 := Tryz.zeroValue5
  t9 := Tryz.underlying9
  a9 := Tryz.isAgg9
  z9 := Tryz.sizeOf9
  v9 := Tryz.zeroValue9
  t22 := Tryz.underlying23
  a22 := Tryz.isAgg23
  z22 := Tryz.sizeOf23
  v22 := Tryz.zeroValue23
  t25 := Tryz.underlying76
  a25 := Tryz.isAgg76
  z25 := Tryz.sizeOf76
  v25 := Tryz.zeroValue76
  t39 := Tryz.underlying122
  a39 := Tryz.isAgg122
  z39 := Tryz.sizeOf122
  v39 := Tryz.zeroValue122
  t45 := Tryz.underlying155
  a45 := Tryz.isAgg155
  z45 := Tryz.sizeOf155
  v45 := Tryz.zeroValue155
  t46 := Tryz.underlying156
  a46 := Tryz.isAgg156
  z46 := Tryz.sizeOf156
  v46 := Tryz.zeroValue156
  t50 := Tryz.underlying160
  a50 := Tryz.isAgg160
  z50 := Tryz.sizeOf160
  v50 := Tryz.zeroValue160
  t53 := Tryz.underlying163
  a53 := Tryz.isAgg163
  z53 := Tryz.sizeOf163
  v53 := Tryz.zeroValue163
  t55 := Tryz.underlying165
  a55 := Tryz.isAgg165
  z55 := Tryz.sizeOf165
  v55 := Tryz.zeroValue165
  t66 := Tryz.underlying197
  a66 := Tryz.isAgg197
  z66 := Tryz.sizeOf197
  v66 := Tryz.zeroValue197
  t70 := Tryz.underlying201
  a70 := Tryz.isAgg201
  z70 := Tryz.sizeOf201
  v70 := Tryz.zeroValue201
  t76 := Tryz.underlying230
  a76 := Tryz.isAgg230
  z76 := Tryz.sizeOf230
  v76 := Tryz.zeroValue230
  t77 := Tryz.underlying91
  a77 := Tryz.isAgg91
  z77 := Tryz.sizeOf91
  v77 := Tryz.zeroValue91 }
end Go.Proofs.Pw

/- slices.SortFunc at modules, by mod.Compare: what is right is sorted. -/
namespace Go.Proofs.Pw
open Go.RowKit
open Go.Proofs Go.Sort
open Go.Lib hiding intOf

def OkM (m : ByteArray × ByteArray) : Prop := verErr m.2.data.toList = 0 ∧ m.2.size ≤ 1000000000
abbrev RM := {m : ByteArray × ByteArray // OkM m}
instance : Inhabited RM := ⟨⟨(⟨#[]⟩, ⟨#[118, 48, 46, 48, 46, 48]⟩), by decide +kernel, by decide⟩⟩
def tRM (x : RM) : Md := (x.1.1.data.toList, x.1.2.data.toList)
def encRM (x : RM) : List Value := [.string x.1.1, .string x.1.2]
def cmpRM (x y : RM) : Int := modCmp (tRM x) (tRM y)
theorem swo_of {α : Type} {f : α → α → Int} (h : Ord3 f) : SWO (ltOf f) := by
  refine ⟨fun x => ?_, fun x y z h1 h2 => ?_, fun x y z h1 h2 => ?_⟩
  · unfold ltOf
    rw [h.self]; rfl
  · unfold ltOf at *
    rw [decide_eq_true_iff] at *
    have a1 := h.tr x y z (by omega) (by omega)
    rcases Int.lt_or_eq_of_le a1 with a2 | a2
    · exact a2
    · exfalso
      have a3 := h.zero a2
      have a4 := h.tr z x y (by omega) (by omega)
      have a5 := (h.anti y z).1 h2
      omega
  · unfold ltOf at *
    rw [decide_eq_false_iff_not] at *
    intro h3
    have b1 := (h.anti x z).1 h3
    have b2 := h.anti y x
    have b3 := h.anti z y
    have b4 := h.anti x y
    have b5 := h.anti y z
    have := h.tr z y x (by omega) (by omega)
    omega
theorem cmpRM_ord : Ord3 cmpRM := modCmp_ord.comap tRM
theorem encRM_len (x : RM) : (encRM x).length = 2 := rfl
theorem encRM_one (x : RM) : ∀ v ∈ encRM x, v.oneCell' = true := by
  intro v hv
  simp [encRM] at hv
  rcases hv with rfl | rfl <;> rfl

theorem below_sortWK {B : Nat} {w0 w : World} (h : Below B w0 w) (hB : B ≤ w0.heap.size) {blk : Nat} (hb : B ≤ blk) (off m : Nat) (d : Array RM) (os : Array Obj) : Below B w0 (sortWorldK encRM 2 w blk off m d os) := by
  have hBs := h.size
  refine h.trans ⟨rfl, rfl, rfl, ?_, fun k hk => ?_⟩
  · simp [sortWorldK, grow, putRowK, putRow, mapBlock, Sort.ahead]
  · simp only [sortWorldK, grow, putRowK, putRow, mapBlock, Sort.ahead]
    by_cases hk2 : k < w.heap.size
    · rw [Array.getElem?_append_left (by simpa using hk2), Array.getElem?_modify, if_neg (by omega)]
    · exact absurd (Nat.lt_of_lt_of_le hk (Nat.le_trans hB hBs)) hk2

theorem map_subM {P : ByteArray × ByteArray → Prop} : ∀ (l : List (ByteArray × ByteArray)), (∀ x ∈ l, P x) → ∃ m : List {s : ByteArray × ByteArray // P s}, m.map (·.1) = l
  | [], _ => ⟨[], rfl⟩
  | a :: r, h => by
    obtain ⟨m, hm⟩ := map_subM r (fun x hx => h x (by simp [hx]))
    exact ⟨⟨a, h a (by simp)⟩ :: m, by simp [hm]⟩
/-- a row that is held, as a slice of modules -/
theorem modsAt_holds {w : World} {g cap : Nat} {d : Array RM} (h : HoldsK encRM 2 w g 0 d) (hc : d.size ≤ cap) (hm : cap ≤ 9223372036854775807) : ModsAt w (.slice (some ⟨g, 0, none⟩) d.size cap) (d.toList.map tRM) := by
  refine ⟨some ⟨g, 0, none⟩, d.size, cap, fun i => (d[i]!).1.1, fun i => (d[i]!).1.2, rfl, ?_, hc, hm, fun j hj => ?_⟩
  · apply List.ext_getElem?
    intro i
    by_cases hi : i < d.size
    · rw [mdF_get _ _ _ i hi, List.getElem?_map, List.getElem?_eq_getElem (by simpa using hi)]
      rw [getElem!_pos d i hi]
      simp [tRM]
    · rw [List.getElem?_eq_none (by simpa using hi), List.getElem?_eq_none (by rw [mdF_length]; omega)]
  · have h0 := (h.cell hj (show 0 < 2 by decide)).1
    have h1 := (h.cell hj (show 1 < 2 by decide)).1
    exact ⟨g, 0, rfl, by simpa [encRM] using h0, by simpa [encRM] using h1⟩
/-- a row of one's own is held -/
theorem holds_own {w : World} {base e g cap : Nat} {L : List (ByteArray × ByteArray)} {d : Array RM} (hd : d.toList.map (·.1) = L) (h : w.ownsRow base e 2 (.slice (some ⟨g, 0, none⟩) L.length cap) L.length (mdVs L)) : HoldsK encRM 2 w g 0 d := by
  have hs : d.size = L.length := by rw [← hd]; simp
  rcases h.2 with ⟨h2, _⟩ | ⟨g', c', cur, e1, _, hg, hn, _, hcs, ht⟩
  · cases h2
  · injection e1 with e1 _ e2
    injection e1 with e1
    injection e1 with e1
    subst e1 e2
    intro j hj
    rw [size_flatK] at hj
    have hjl : j < (mdVs L).length := by rw [mdVs_length]; omega
    have hcur : j < cur.size := by rw [hcs]; omega
    have e3 : cur[j]? = (mdVs L)[j]? := by
      rw [← ht, List.getElem?_take, if_pos (by omega)]
      simp
    rw [get_flatK _ _ _ _ hj]
    have e4 : (mdVs L)[j]? = some ((encRM d[j / 2]!)[j % 2]!) := by
      have hget : L[j / 2]? = some (d[j / 2]!).1 := by
        have h2 : j / 2 < d.size := by omega
        rw [← hd, List.getElem?_map, List.getElem?_eq_getElem (by simpa using h2), getElem!_pos d _ h2]
        simp
      obtain ⟨q0, q1⟩ := mdVs_get hget
      rcases Nat.mod_two_eq_zero_or_one j with h2 | h2
      · rw [show j / 2 * 2 = j by omega] at q0
        rw [q0, h2]; rfl
      · rw [show j / 2 * 2 + 1 = j by omega] at q1
        rw [q1, h2]; rfl
    refine ⟨?_, ?_⟩
    · rw [Nat.zero_add, cell_of_row w g j cur e (0, 0) hg, e3, e4]; rfl
    · simp [World.frozen?, hg]

theorem sortM_calls (ks : List Nat) (A : Nat → Addr) (w0 w : World) (hE : EnvP ks A w0) (base : Nat) (x : Value) (L : List (ByteArray × ByteArray)) (hB : Below w0.heap.size w0 w) (hb : w0.heap.size ≤ base) (ho : w.ownsRow base 38 2 x L.length (mdVs L)) (hL : ∀ m ∈ L, OkM m) (hsz : L.length ≤ 1000000) :
    Calls Tryz.prog 55 #[x, .func (.func 56) #[] #[]] w fun e w' => e = .returned (.tuple #[]) ∧ (∃ l' : List Md, ModsAt w' x l' ∧ l'.Perm (mdTs L) ∧ l'.Pairwise fun a b => modCmp a b ≤ 0) ∧ Below w0.heap.size w0 w' := by
  rcases ho.2 with ⟨rfl, h0⟩ | ⟨g, cap, cur, rfl, hbg, hg, hn, hm, hcs, ht⟩
  · have : L = [] := List.eq_nil_of_length_eq_zero h0
    subst this
    refine (AnyF.slices_SortFunc_none laysSortM none 0 _ w).mono ?_
    rintro e w' ⟨rfl, rfl⟩
    exact ⟨rfl, ⟨[], ModsAt.nil _, List.Perm.refl _, List.Pairwise.nil⟩, hB⟩
  · obtain ⟨m, hd⟩ := map_subM L hL
    have hd' : (m.toArray).toList.map (·.1) = L := by simpa using hd
    have hH := holds_own (d := m.toArray) hd' ho
    have hms : m.toArray.size = L.length := by rw [← hd]; simp
    have hgw : g < w.heap.size := (Array.getElem?_eq_some_iff.1 hg).1
    have hcmp : CmpLays Tryz.prog 56 #[] encRM 2 cmpRM g 0 m.toArray.size w := by
      intro n os dk hs a b
      refine (modCompareD ks A a.1.1 a.1.2 b.1.1 b.1.2 _ (hE.below (below_sortWK hB (Nat.le_refl _) (by omega) 0 n dk os)) a.2.2 b.2.2 a.2.1 b.2.1).mono ?_
      rintro e w' ⟨rfl, hb⟩
      exact ⟨rfl, hb.grown⟩
    have h := AnyQ.slices_SortFunc laysSortM 2 Tryz.isAgg38 Tryz.sizeOf38 encRM encRM_len encRM_one cmpRM (swo_of cmpRM_ord) 56 #[] g 0 cap m.toArray w (Go.Proofs.enters_of Tryz.func56 (by kernel_rfl) rfl) hcmp hH hgw (by omega)
    rw [hms] at h
    refine h.mono ?_
    rintro e w' ⟨rfl, d', n, os, hp, hs, rfl⟩
    obtain ⟨hp1, _, hp3⟩ := hp
    have hH2 : HoldsK encRM 2 (sortWorldK encRM 2 w g 0 n d' os) g 0 d' := holdsK_sortWorldK_c encRM 2 w g 0 m.toArray d' n os hH hgw hp1
    refine ⟨rfl, ⟨d'.toList.map tRM, ?_, ?_, ?_⟩, below_sortWK hB (Nat.le_refl _) (by omega) 0 n d' os⟩
    · have := modsAt_holds (cap := cap) hH2 (by omega) (by unfold maxLen at hm; exact hm)
      rw [hp1, hms] at this
      exact this
    · have hpm := hp3
      rw [Array.extract_eq_self_of_le (show d'.size ≤ L.length by omega), Array.extract_eq_self_of_le (show m.toArray.size ≤ L.length by omega)] at hpm
      rw [← hd]
      unfold mdTs
      rw [List.map_map]
      exact hpm.map tRM
    · rw [List.pairwise_map, List.pairwise_iff_getElem]
      intro i j hi hj hij
      have hj' : j < d'.size := by simpa using hj
      have h1 := hs i j (Nat.zero_le _) hij (by omega)
      unfold ltOf at h1
      rw [decide_eq_false_iff_not, getElem!_pos d' i (by omega), getElem!_pos d' j hj'] at h1
      have := cmpRM_ord.anti d'[i] d'[j]
      have := cmpRM_ord.anti d'[j] d'[i]
      show cmpRM d'.toList[i] d'.toList[j] ≤ 0
      rw [Array.getElem_toList, Array.getElem_toList]
      omega
end Go.Proofs.Pw

/- graph.Reach. Conditions: texts of at most 1000000 bytes, lists of at most 1000000. -/
namespace Go.Proofs.Pw
open Go.RowKit
open Go.Lib hiding intOf

/-- what is answered -/
noncomputable def reachR (l : List En) (roots : List Md) : List Md := if (startErr l roots).1 = 0 then reachL l roots else []
theorem rises_le {l : List Md} (h : l.Pairwise fun a b => modCmp a b ≤ 0) (hn : l.Nodup) (hr : ∀ m ∈ l, mdErr m = 0) : Rises modCmp l := by
  unfold Rises
  have h2 := h.and hn
  refine List.Pairwise.imp_of_mem ?_ h2
  intro a b ha hb ⟨h3, h4⟩
  rcases Int.lt_or_eq_of_le h3 with h5 | h5
  · exact h5
  · exact absurd (modCmp_zero (hr a ha) (hr b hb) h5) h4
theorem RightI.small {l : List En} (h : RightI l) {e : En} (he : e ∈ l) : e.reqs.length ≤ 20 := by
  have h1 := h.reqs e he
  unfold reqsErr at h1
  by_cases h2 : 20 < e.reqs.length
  · rw [if_pos h2] at h1; cases h1
  · omega
theorem mdTs_keys (S : List (MB × MB)) : mdTs (S.map (·.1)) = (cameOf S).map (·.1) := by
  unfold mdTs cameOf
  rw [List.map_map, List.map_map]
  rfl
/-- who came is right -/
theorem came_ok {l : List En} {roots : List Md} {S : List (MB × MB)} (hG : RightG l roots) (hs : ShortI l) (hS : cameOf S = walkS l roots) : ∀ m ∈ S.map (·.1), OkM m := by
  intro m hm
  have h1 := cameOf_mem.2 hm
  rw [hS] at h1
  have h2 := (walkS_mem hG _).1 h1
  obtain ⟨e, he, e1⟩ := hG.entry h2
  have h3 := hs.mds e he
  rw [e1] at h3
  refine ⟨(modErr_zero (hG.right h2)).2, ?_⟩
  rw [size_eq]
  exact Nat.le_trans h3.2 (by decide)
theorem walk_sorted {l : List En} {roots l' : List Md} {S : List (MB × MB)} (hG : RightG l roots) (hS : cameOf S = walkS l roots) (hp : l'.Perm (mdTs (S.map (·.1)))) (hl : l'.Pairwise fun a b => modCmp a b ≤ 0) : l' = reachL l roots := by
  have hm : ∀ m, m ∈ l' ↔ Reached l roots m := fun m => by
    rw [hp.mem_iff, mdTs_keys, hS, walkS_mem hG]
  have hn : l'.Nodup := by
    rw [hp.nodup_iff, mdTs_keys, hS]
    exact (walkS_walked hG).nd
  exact hG.is (rises_le hl hn (fun m h => hG.right ((hm m).1 h))) hm

set_option maxHeartbeats 4000000 in
set_option maxRecDepth 100000 in
theorem grReach_in (ks : List Nat) (A : Nat → Addr) (hks : IdxKs ks) (a : Option Addr) (n cap : Nat) (P V : Nat → ByteArray) (R : Nat → List Md) (K : Nat → List Str) (Bk : Nat → Bool) (Rv Kv : Nat → Value) (rv : Value) (roots : List Md) (w : World) (hE : EnvP ks A w) (h : EntsIn w a n cap P V R K Bk Rv Kv) (hs : ShortI (enF n P V R K Bk)) (hr : ModsAt w rv roots) (hl : roots.length ≤ 100000) :
    Calls Tryz.prog 22 #[.slice a n cap, rv] w fun e w' => (∃ x ev, e = .returned (.tuple #[x, ev]) ∧ FaultAt A w' ev (startErr (enF n P V R K Bk) roots) ∧ ModsAt w' x (reachR (enF n P V R K Bk) roots)) ∧ Below w.heap.size w w' := by
  have hst := grStart_in ks A hks a n cap P V R K Bk Rv Kv rv roots w hE h hs hr (by omega)
  have H := Lib.hid h
  have HS := Lib.hid hs
  have HE := Lib.hid hE
  obtain ⟨ar, rn, rc, _, _, rfl, _⟩ := id hr
  have HR := Lib.hid hr
  replace hst := Lib.hid hst
  clear h hs hE hr
  go_enter Tryz.func22, Tryz.ntmps22
  go_wp2_with fail
  refine hst.out.mono ?_
  rintro e w1 ⟨⟨v, rfl, hv⟩, hB⟩
  clear hst
  rcases fault_form hv with ⟨h0, rfl⟩ | ⟨h0, ty, q, rfl⟩
  · have hG := rightG_of h0
    have hn : n ≤ 100 := by have := hG.idx.len; rwa [enF_length] at this
    have hRj : ∀ j, j < n → (R j).length ≤ 1000 := fun j hj => by
      have h2 := hG.idx.small (List.mem_of_getElem? (enF_get n P V R K Bk j hj))
      have h3 : (R j).length ≤ 20 := h2
      omega
    have hwk := grWalk_in a n cap P V R K Bk Rv Kv (.slice ar rn rc) roots w1 (H.out.below hB) (HR.out.below hB) hl (by omega) hRj hG
    have h00 := startErr_at h0
    have HG := Lib.hid hG
    have H0 := Lib.hid h00
    replace hwk := Lib.hid hwk
    clear hG h00 h0 hv hRj hn
    go_wp2_with fail
    refine hwk.out.mono ?_
    rintro e w2 ⟨⟨x, S, rfl, hGo, hS⟩, hb2⟩
    have hB2 := below_step hB hb2
    have hSl : (S.map (·.1)).length ≤ 1000000 := by
      have h1 := (walkS_walked HG.out).len HG.out
      rw [← hS, cameOf_length, enF_length] at h1
      have h2 := HG.out.idx.len
      rw [enF_length] at h2
      rw [List.length_map]; omega
    have hso := sortM_calls ks A w w2 HE.out (w1.heap.size + 3) x (S.map (·.1)) hB2 (by have := hB.size; omega) hGo.own (came_ok HG.out HS.out hS) hSl
    obtain ⟨ax, nx, cx, rfl⟩ := own_form hGo.own
    have HSS := Lib.hid hS
    replace hso := Lib.hid hso
    clear hwk hGo hS hSl
    go_wp2_with fail
    refine hso.out.mono ?_
    rintro e w3 ⟨rfl, ⟨l', hM, hp, hpw⟩, hB3⟩
    have HM := Lib.hid (And.intro hM (And.intro hp hpw))
    clear hM hp hpw
    go_wp2_with fail
    go_ret2
    refine ⟨⟨_, _, rfl, ?_, ?_⟩, hB3⟩
    · rw [H0.out]; exact .inl ⟨rfl, rfl, rfl⟩
    · unfold reachR
      rw [if_pos (by rw [H0.out]), ← walk_sorted HG.out HSS.out HM.out.2.1 HM.out.2.2]
      exact HM.out.1
  · have HV := Lib.hid hv
    have H0 := Lib.hid h0
    clear hv h0
    go_wp2_with fail
    go_ret2
    refine ⟨⟨_, _, rfl, HV.out, ?_⟩, hB⟩
    unfold reachR
    rw [if_neg H0.out]
    exact ModsAt.nil _
end Go.Proofs.Pw

/- B.ReachOf: what is reached, and the fault. Conditions: an index and roots that are short. -/
namespace Go.Proofs.Pw
open Go.RowKit
open Go.Lib hiding intOf

theorem reach_take {n : Nat} {P V : Nat → ByteArray} {R : Nat → List Md} {K : Nat → List Str} {B : Nat → Bool} {roots : List Md} (k : Nat) (hk : k < n) :
    (((enF n P V R K B).map (·.md)).take (k + 1)).filter (isReached (enF n P V R K B) roots) = (((enF n P V R K B).map (·.md)).take k).filter (isReached (enF n P V R K B) roots) ++ (if isReached (enF n P V R K B) roots ((P k).data.toList, (V k).data.toList) then [((P k).data.toList, (V k).data.toList)] else []) := by
  rw [List.take_add_one, List.filter_append]
  congr 1
  rw [List.getElem?_map, enF_get _ _ _ _ _ _ k hk]
  simp only [Option.map_some, Option.toList_some, List.filter_cons, List.filter_nil]

set_option maxHeartbeats 8000000 in
set_option maxRecDepth 100000 in
theorem reachOf_in (a : Option Addr) (n cap : Nat) (P V : Nat → ByteArray) (R : Nat → List Md) (K : Nat → List Str) (B : Nat → Bool) (Rv Kv : Nat → Value) (rv : Value) (roots : List Md) (w : World) (h : EntsIn w a n cap P V R K B Rv Kv) (hr : ModsAt w rv roots) (hs : ShortI (enF n P V R K B)) (hl2 : roots.length ≤ 1000000) :
    Calls Tryz.prog 25 #[.slice a n cap, rv] w fun e w' => (∃ v, e = .returned (.tuple #[v, fltV (startErr (enF n P V R K B) roots)]) ∧ ModsAt w' v (reachR (enF n P V R K B) roots)) ∧ Below w.heap.size w w' := by
  obtain ⟨i0, hi, hz0, hz1, hz2⟩ := info_parts Tryz.infoMod
  obtain ⟨a2, m, cap2, _, _, rfl, -⟩ := id hr
  have hn : n ≤ 1000000 := by have := hs.len; rwa [enF_length] at this
  have hB := below_alloc w (.cells #[.int .i64 0, .int .i64 0] 49)
  have hz := box2_alloc w (.int .i64 0) (.int .i64 0) 49
  have hif := fun (W : World) (hb : Below w.heap.size w W) => indexFault_in a n cap P V R K B Rv Kv W (h.below hb) hs
  have hrf := fun (W : World) (hb : Below w.heap.size w W) => rootsFault_in a n cap P V R K B Rv Kv (.slice a2 m cap2) roots W (h.below hb) (hr.below hb) hn hl2
  have hma := fun (hG : RightG (enF n P V R K B) roots) (W : World) (hb : Below w.heap.size w W) => marks_in a n cap P V R K B Rv Kv (.slice a2 m cap2) roots W (h.below hb) (hr.below hb) hG hs hl2
  have H := Lib.hid h
  have HSE : Hid (startErr (enF n P V R K B) roots = orE (idxErr (enF n P V R K B)) (rootsErr (enF n P V R K B) roots)) := Lib.hid rfl
  obtain ⟨F, hF⟩ : ∃ F, idxErr (enF n P V R K B) = F := ⟨_, rfl⟩
  obtain ⟨G, hGG⟩ : ∃ G, rootsErr (enF n P V R K B) roots = G := ⟨_, rfl⟩
  simp only [hF] at hif HSE
  simp only [hGG] at hrf HSE
  obtain ⟨fc, fa⟩ := F
  obtain ⟨gc, ga⟩ := G
  unfold fltV at hif hrf
  simp only at hif hrf
  replace hif := Lib.hid hif
  replace hrf := Lib.hid hrf
  replace hma := Lib.hid hma
  clear h hr hs hF hGG
  go_enter Tryz.func25, Tryz.ntmps25
  go_wp2_with fail
  generalize w.alloc (.cells #[.int .i64 0, .int .i64 0] 49) = w1 at *
  refine (hif.out _ hB).mono ?_
  rintro e w2 ⟨rfl, hb⟩
  have hba := below_alloc w2 (.cells #[.int .i64 (fc : Nat), .int .i64 fa] 49)
  have hx := box2_alloc w2 (.int .i64 (fc : Nat)) (.int .i64 fa) 49
  have hs2 : w.heap.size < w2.heap.size := Nat.lt_of_lt_of_le (lt_of_cell hz.c0) hb.size
  replace hb := below_step hb hba
  replace hz := hz.below hb
  replace hB := below_step hB hb
  clear hb hba hif
  obtain ⟨x0, x1, xf⟩ := id hx
  have nx1 : w.heap.size ≠ w2.heap.size := by omega
  have nx2 : w2.heap.size ≠ w.heap.size := by omega
  by_cases h0 : fc = 0
  · subst h0
    go_wp2_with fail
    generalize w2.alloc (.cells #[.int .i64 ((0 : Nat) : Int), .int .i64 fa] 49) = w3 at *
    generalize w2.heap.size = bx at *
    refine (hrf.out _ hB).mono ?_
    rintro e w4 ⟨rfl, hb⟩
    replace hz := hz.below hb
    replace hx := hx.below hb
    replace hB := below_step hB hb
    clear x0 x1 xf hb hrf
    obtain ⟨x0, x1, xf⟩ := id hx
    have HF : Hid (startErr (enF n P V R K B) roots = (gc, ga)) := Lib.hid (by rw [HSE.out]; unfold orE; rw [if_neg (by simp)])
    by_cases h1 : gc = 0
    · subst h1
      have HSA : Hid (startErr (enF n P V R K B) roots = (0, -1)) := Lib.hid (startErr_at (by rw [HF.out]))
      have hG := rightG_of (l := enF n P V R K B) (roots := roots) (by rw [HF.out])
      have HRR : Hid (reachR (enF n P V R K B) roots = reachL (enF n P V R K B) roots) := Lib.hid (by unfold reachR; rw [if_pos (by rw [HF.out])])
      have hma1 := hma.out hG
      have hz2 : Box2 ((w4.setCell ⟨bx, 0, none⟩ (.int .i64 ((0 : Nat) : Int))).setCell ⟨bx, 1, none⟩ (.int .i64 ga)) w.heap.size (.int .i64 0) (.int .i64 0) := ⟨by rw [set_blk _ nx1, set_blk _ nx1]; exact hz.c0, by rw [set_blk _ nx1, set_blk _ nx1]; exact hz.c1, fun j => by simp [hz.fr j]⟩
      replace hB := (hB.setCell (p := ⟨bx, 0, none⟩) (by show w.heap.size ≤ bx; omega) (.int .i64 ((0 : Nat) : Int))).setCell (p := ⟨bx, 1, none⟩) (by show w.heap.size ≤ bx; omega) (.int .i64 ga)
      replace hma1 := Lib.hid hma1
      clear HSE HF hG hma
      have y0 : ((w4.setCell ⟨bx, 0, none⟩ (.int .i64 ((0 : Nat) : Int))).setCell ⟨bx, 1, none⟩ (.int .i64 ga)).cell? ⟨bx, 0, none⟩ = some (.int .i64 ((0 : Nat) : Int)) := by rw [set_off _ (by decide)]; exact set_same _ x0
      go_wp2_with fail
      generalize hw5 : ((w4.setCell ⟨bx, 0, none⟩ (.int .i64 ((0 : Nat) : Int))).setCell ⟨bx, 1, none⟩ (.int .i64 ga)) = w5 at *
      clear x0 x1 xf hx hz hw5 y0
      refine (hma1.out _ hB).mono ?_
      rintro e w6 ⟨⟨M, rfl, hrow, hM⟩, hb⟩
      have HRow := Lib.hid hrow
      have HM := Lib.hid hM
      have hz := hz2.below hb
      replace hB := below_step hB hb
      have hlt0 : w.heap.size < w6.heap.size := lt_of_cell hz.c0
      clear hb hz2 hrow hM hma1 nx1 nx2
      go_wp2_with fail
      go_loopw [8, 9] (fun o x wr => ∃ (k : Nat) (L : List (ByteArray × ByteArray)), k ≤ n ∧ x = .int .i64 k ∧ Hid (wr.ownsRow w6.heap.size 38 2 o L.length (mdVs L)) ∧ L.length ≤ k ∧ Hid (mdTs L = (((enF n P V R K B).map (·.md)).take k).filter (isReached (enF n P V R K B) roots)) ∧ Below w6.heap.size w6 wr) (fun _ x _ => n - (intOf x).toNat)
      case atStart => exact ⟨0, [], Nat.zero_le _, rfl, Lib.hid (World.ownsRow_nil _ _ _ _), Nat.le_refl _, Lib.hid (by simp [mdTs]), Below.refl _ _⟩
      case round =>
        obtain ⟨k, L, hk, rfl, hO, hLk, hT, hBr⟩ := hrel
        obtain ⟨ao, no, co, rfl⟩ := own_form hO.out
        have hown := Lib.hid (fun q (e : (Value.slice ao no co).ownBlock = some q) => (hO.out.lt q e).1)
        by_cases hlt : k < n
        · have hkn : (k : Int) < (n : Int) := by omega
          have g0 := (HRow.out.below hBr).cell hlt
          have hMk := HM.out k hlt
          rw [enAt_enF hlt] at hMk
          cases hMv : M k with
          | false =>
            rw [hMv] at g0
            have HN : Hid (mdTs L = (((enF n P V R K B).map (·.md)).take (k + 1)).filter (isReached (enF n P V R K B) roots)) := Lib.hid (by
              rw [reach_take k hlt, if_neg (fun h => by rw [isReached_iff, ← hMk, hMv] at h; cases h), List.append_nil]
              exact hT.out)
            have HLk := Lib.hid hLk
            clear hMv hMk hLk hT
            go_wp2_with fail
            go_roundw
            case rel => exact ⟨k + 1, L, by omega, by go_num, hO, by have := HLk.out; omega, HN, hBr⟩
            case measure => simp [intOf]; omega
          | true =>
            rw [hMv] at g0
            obtain ⟨b1, o1, ea, hcell⟩ := H.out.at_ k hlt
            have c0 := Below.cell_some (below_step hB hBr) hcell.c0
            have c1 := Below.cell_some (below_step hB hBr) hcell.c1
            subst ea
            have HN : Hid (mdTs (L ++ [(P k, V k)]) = (((enF n P V R K B).map (·.md)).take (k + 1)).filter (isReached (enF n P V R K B) roots)) := Lib.hid (by
              rw [reach_take k hlt, if_pos (by rw [isReached_iff, ← hMk, hMv]), mdTs_sn, hT.out])
            clear hMv hMk hT hcell
            go_wp2_with (at_builtin; refine wpList_append_own _ rfl _ _ 23 rfl w6.heap.size 38 i0 (.agg #[.string ⟨#[]⟩, .string ⟨#[]⟩]) 2 32 Tryz.underlying23 hi hz0 hz1 hz2 rfl (by decide) _ _ _ rfl (hO.out.alloc _) ⟨wr.heap.size, 0, none⟩ 1 1 [.string (P k), .string (V k)] rfl rfl (cell_two_new _ _ _ _) (by intro u hu; simp at hu; rcases hu with rfl | rfl <;> rfl) (by unfold maxLen; omega) (by omega) (by have := hBr.size; simp; omega) ?_; intro o' w7 hown4 hgrow4 _)
            go_roundw
            case rel =>
              refine ⟨k + 1, L ++ [(P k, V k)], by omega, by go_num, Lib.hid ?_, by simp; omega, HN, ?_⟩
              · rw [List.length_append, List.length_singleton, ← mdVs_snoc]
                exact hown4
              · exact (hBr.alloc hBr.size _).grown hgrow4 (by have := hBr.size; simp; omega) hown.out
            case measure => simp [intOf]; omega
        · have hkn : k = n := by omega
          have HL : Hid (mdTs L = reachR (enF n P V R K B) roots) := Lib.hid (by
            rw [hT.out, HRR.out, hkn]
            unfold reachL
            rw [List.take_of_length_le (by rw [List.length_map, enF_length]; exact Nat.le_refl _)])
          have hfi := fun W => refFine_calls W
          unfold fltV at hfi
          have hnk : ¬ (k : Int) < (n : Int) := by omega
          replace hfi := Lib.hid hfi
          clear hlt hT hLk hk hkn hown
          go_wp2_with fail
          refine (hfi.out _).mono ?_
          rintro e w8 ⟨rfl, hb⟩
          have hB8 := below_step hB (below_step hBr hb)
          obtain ⟨z0, z1, zf⟩ := hz.below (below_step hBr hb)
          have hO8 := ownsRow_kept hO.out hb
          have hne := own_ne (b := w.heap.size) hO8 hlt0
          have HFIN : Hid (∀ u0 u1 : Value, ModsAt ((w8.setCell ⟨w.heap.size, 0, none⟩ u0).setCell ⟨w.heap.size, 1, none⟩ u1) (.slice ao no co) (reachR (enF n P V R K B) roots)) := Lib.hid (fun u0 u1 => by
            have hM := modsAt_own (w := (w8.setCell ⟨w.heap.size, 0, none⟩ u0).setCell ⟨w.heap.size, 1, none⟩ u1) (ownsRow_set (ownsRow_set hO8 hne u0) hne u1)
            rw [HL.out] at hM
            exact hM)
          clear hb hfi hne hO8 hnk
          go_wp2_with fail
          refine bodyPost_ret (v := .tuple #[(.slice ao no co), fltV (0, -1)]) (by simp [results, Tryz.results25, fltV, go_sem, *]) rfl ?_
          rw [HSA.out]
          exact ⟨⟨_, rfl, HFIN.out _ _⟩, (hB8.setCell (p := ⟨w.heap.size, 0, none⟩) (Nat.le_refl _) _).setCell (p := ⟨w.heap.size, 1, none⟩) (Nat.le_refl _) _⟩
    · have hc9 : (0 : Int) < (gc : Int) := by omega
      have hc8 : ((gc : Int) == 0) = false := beq_eq_false_iff_ne.2 (by omega)
      have HR : Hid (reachR (enF n P V R K B) roots = []) := Lib.hid (by unfold reachR; rw [if_neg (by rw [HF.out]; exact h1)])
      have hx2 : Box2 ((w4.setCell ⟨bx, 0, none⟩ (.int .i64 (gc : Nat))).setCell ⟨bx, 1, none⟩ (.int .i64 ga)) bx (.int .i64 (gc : Nat)) (.int .i64 ga) := ⟨by rw [set_off _ (by decide)]; exact set_same _ x0, set_same _ (by rw [set_off _ (by decide)]; exact x1), fun j => by simp [xf j]⟩
      have hz2 : Box2 ((w4.setCell ⟨bx, 0, none⟩ (.int .i64 (gc : Nat))).setCell ⟨bx, 1, none⟩ (.int .i64 ga)) w.heap.size (.int .i64 0) (.int .i64 0) := ⟨by rw [set_blk _ nx1, set_blk _ nx1]; exact hz.c0, by rw [set_blk _ nx1, set_blk _ nx1]; exact hz.c1, fun j => by simp [hz.fr j]⟩
      replace hB := (hB.setCell (p := ⟨bx, 0, none⟩) (by show w.heap.size ≤ bx; omega) (.int .i64 (gc : Nat))).setCell (p := ⟨bx, 1, none⟩) (by show w.heap.size ≤ bx; omega) (.int .i64 ga)
      clear h1 HSE
      go_wp2_with fail
      generalize (w4.setCell ⟨bx, 0, none⟩ (.int .i64 (gc : Nat))).setCell ⟨bx, 1, none⟩ (.int .i64 ga) = w5 at *
      clear x0 x1 xf hx hz
      obtain ⟨x0, x1, xf⟩ := id hx2
      obtain ⟨z0, z1, zf⟩ := id hz2
      go_region
      all_goals
        go_wp2_with fail
        refine bodyPost_ret (v := .tuple #[.slice none 0 0, fltV (gc, ga)]) (by simp [results, Tryz.results25, fltV, go_sem, *]) rfl ?_
        rw [HF.out, HR.out]
        exact ⟨⟨_, rfl, ModsAt.nil _⟩, (hB.drew.setCell (p := ⟨w.heap.size, 0, none⟩) (Nat.le_refl _) _).setCell (p := ⟨w.heap.size, 1, none⟩) (Nat.le_refl _) _⟩
  · have hc9 : (0 : Int) < (fc : Int) := by omega
    have hc8 : ((fc : Int) == 0) = false := beq_eq_false_iff_ne.2 (by omega)
    have HF : Hid (startErr (enF n P V R K B) roots = (fc, fa)) := Lib.hid (by rw [HSE.out]; unfold orE; rw [if_pos h0])
    have HR : Hid (reachR (enF n P V R K B) roots = []) := Lib.hid (by unfold reachR; rw [if_neg (by rw [HF.out]; exact h0)])
    obtain ⟨z0, z1, zf⟩ := id hz
    clear h0 HSE
    go_wp2_with fail
    generalize w2.alloc (.cells #[.int .i64 (fc : Nat), .int .i64 fa] 49) = w3 at *
    generalize w2.heap.size = bx at *
    go_region
    all_goals
      go_wp2_with fail
      refine bodyPost_ret (v := .tuple #[.slice none 0 0, fltV (fc, fa)]) (by simp [results, Tryz.results25, fltV, go_sem, *]) rfl ?_
      rw [HF.out, HR.out]
      exact ⟨⟨_, rfl, ModsAt.nil _⟩, (hB.drew.setCell (p := ⟨w.heap.size, 0, none⟩) (Nat.le_refl _) _).setCell (p := ⟨w.heap.size, 1, none⟩) (Nat.le_refl _) _⟩
end Go.Proofs.Pw

/- mvs.Build. Conditions: texts of at most 1000000 bytes, lists of at most 1000000. -/
namespace Go.Proofs.Pw
open Go.RowKit
open Go.Lib hiding intOf

noncomputable def buildR (l : List En) (roots : List Md) : List Md := if (startErr l roots).1 = 0 then buildL l roots else []
theorem build_of {l : List En} {roots : List Md} : greatest (reachR l roots) = buildR l roots := by
  unfold reachR buildR
  by_cases h0 : (startErr l roots).1 = 0
  · rw [if_pos h0, if_pos h0]; rfl
  · rw [if_neg h0, if_neg h0]; rfl
theorem build_len {l : List En} {roots : List Md} (h : RightG l roots) : (buildL l roots).length ≤ 100 := by
  have h1 : (buildL l roots).length ≤ (reachL l roots).length := List.Nodup.length_le_of_subset (by
    have := h.great.rises
    unfold Rises at this
    exact this.imp fun {x y} h e => by subst e; rw [modCmp_ord.self] at h; omega) (fun m hm => h.great.sub m hm)
  have h2 : (reachL l roots).length ≤ l.length := by
    unfold reachL
    exact Nat.le_trans (List.length_filter_le _ _) (by rw [List.length_map]; exact Nat.le_refl _)
  have := h.idx.len
  omega
/-- mvs.Build -/
theorem mvsBuild_in (ks : List Nat) (A : Nat → Addr) (hks : IdxKs ks) (a : Option Addr) (n cap : Nat) (P V : Nat → ByteArray) (R : Nat → List Md) (K : Nat → List Str) (Bk : Nat → Bool) (Rv Kv : Nat → Value) (rv : Value) (roots : List Md) (w : World) (hE : EnvP ks A w) (h : EntsIn w a n cap P V R K Bk Rv Kv) (hs : ShortI (enF n P V R K Bk)) (hr : ModsAt w rv roots) (hl : roots.length ≤ 100000) :
    Calls Tryz.prog 21 #[.slice a n cap, rv] w fun e w' => (∃ x ev, e = .returned (.tuple #[x, ev]) ∧ FaultAt A w' ev (startErr (enF n P V R K Bk) roots) ∧ ModsAt w' x (buildR (enF n P V R K Bk) roots)) ∧ Below w.heap.size w w' := by
  have hre := grReach_in ks A hks a n cap P V R K Bk Rv Kv rv roots w hE h hs hr hl
  obtain ⟨ar, rn, rc, _, _, rfl, _⟩ := id hr
  have hlen : (reachR (enF n P V R K Bk) roots).length ≤ 1000000 := by
    unfold reachR
    by_cases h0 : (startErr (enF n P V R K Bk) roots).1 = 0
    · rw [if_pos h0]
      have h2 : (reachL (enF n P V R K Bk) roots).length ≤ (enF n P V R K Bk).length := by
        unfold reachL
        exact Nat.le_trans (List.length_filter_le _ _) (by rw [List.length_map]; exact Nat.le_refl _)
      have := (rightG_of h0).idx.len
      omega
    · rw [if_neg h0]; decide
  have hbu := build_of (l := enF n P V R K Bk) (roots := roots)
  have hbe : (startErr (enF n P V R K Bk) roots).1 ≠ 0 → buildR (enF n P V R K Bk) roots = [] := fun h0 => by unfold buildR; rw [if_neg h0]
  generalize reachR (enF n P V R K Bk) roots = X at hre hlen hbu
  generalize buildR (enF n P V R K Bk) roots = Y at hbu hbe ⊢
  replace hre := Lib.hid hre
  clear h hs hr hE
  go_enter Tryz.func21, Tryz.ntmps21
  go_wp2_with fail
  refine hre.out.mono ?_
  rintro e w1 ⟨⟨x, ev, rfl, hf, hx⟩, hB⟩
  have hgr := greatest_calls x X w1 hx hlen
  obtain ⟨ax, nx, cx, _, _, rfl, _⟩ := id hx
  replace hgr := Lib.hid hgr
  clear hre hx hlen
  rcases fault_form hf with ⟨h0, rfl⟩ | ⟨h0, ty, q, rfl⟩
  · have HF := Lib.hid hf
    clear hf h0 hbe
    go_wp2_with fail
    refine hgr.out.mono ?_
    rintro e w2 ⟨⟨v2, L, rfl, hL, ho⟩, hb2⟩
    have hM := modsAt_own ho
    rw [hL, hbu] at hM
    have HM := Lib.hid hM
    clear hM ho hL
    go_wp2_with fail
    go_ret2
    exact ⟨⟨_, _, rfl, HF.out.below hb2, HM.out⟩, below_step hB hb2⟩
  · have HF := Lib.hid hf
    have HY := Lib.hid (hbe h0)
    clear hf h0 hbe hbu hgr
    go_wp2_with fail
    go_ret2
    refine ⟨⟨_, _, rfl, HF.out, ?_⟩, hB⟩
    rw [HY.out]
    exact ModsAt.nil _
end Go.Proofs.Pw

/- graph.Edges: how many requirements the reached ones have. -/
namespace Go.Proofs.Pw
open Go.RowKit
open Go.Lib hiding intOf

def edgesN (l : List En) (x : List Md) : Nat := (x.map fun m => (reqsOf l m).length).sum
theorem edgesN_snoc (l : List En) (x : List Md) (m : Md) : edgesN l (x ++ [m]) = edgesN l x + (reqsOf l m).length := by simp [edgesN]
theorem edgesN_le {l : List En} {x : List Md} (h : ∀ m ∈ x, (reqsOf l m).length ≤ 20) : edgesN l x ≤ x.length * 20 := by
  induction x with
  | nil => simp [edgesN]
  | cons m x ih =>
    have h1 := h m (by simp)
    have h2 := ih (fun y hy => h y (by simp [hy]))
    unfold edgesN at h2 ⊢
    rw [List.map_cons, List.sum_cons, List.length_cons]
    omega
theorem reach_reqs {l : List En} {roots : List Md} {m : Md} (hm : m ∈ reachR l roots) : (reqsOf l m).length ≤ 20 ∧ (findE l m).toNat < l.length ∧ findE l m = ((findE l m).toNat : Int) := by
  unfold reachR at hm
  by_cases h0 : (startErr l roots).1 = 0
  · rw [if_pos h0] at hm
    have hG := rightG_of h0
    obtain ⟨e, he, h1⟩ := hG.entry (hG.mem.1 hm)
    have h2 := reqsOf_entry hG.idx he
    rw [h1] at h2
    rw [h2]
    have h3 : ¬ findE l m < 0 := fun h => findE_lt.1 h e he h1
    obtain ⟨k, h4, h5, _⟩ := findE_nat h3
    rw [h4]
    exact ⟨hG.idx.small he, h5, rfl⟩
  · rw [if_neg h0] at hm
    cases hm
theorem reachR_len (l : List En) (roots : List Md) : (reachR l roots).length ≤ 100 := by
  unfold reachR
  by_cases h0 : (startErr l roots).1 = 0
  · rw [if_pos h0]
    have h2 : (reachL l roots).length ≤ l.length := by
      unfold reachL
      exact Nat.le_trans (List.length_filter_le _ _) (by rw [List.length_map]; exact Nat.le_refl _)
    have := (rightG_of h0).idx.len
    omega
  · rw [if_neg h0]; decide

set_option maxHeartbeats 4000000 in
set_option maxRecDepth 100000 in
theorem grEdges_in (ks : List Nat) (A : Nat → Addr) (hks : IdxKs ks) (a : Option Addr) (n cap : Nat) (P V : Nat → ByteArray) (R : Nat → List Md) (K : Nat → List Str) (Bk : Nat → Bool) (Rv Kv : Nat → Value) (rv : Value) (roots : List Md) (w : World) (hE : EnvP ks A w) (h : EntsIn w a n cap P V R K Bk Rv Kv) (hs : ShortI (enF n P V R K Bk)) (hr : ModsAt w rv roots) (hl : roots.length ≤ 100000) :
    Calls Tryz.prog 27 #[.slice a n cap, rv] w fun e w' => (∃ ev, e = .returned (.tuple #[.int .i64 (edgesN (enF n P V R K Bk) (reachR (enF n P V R K Bk) roots) : Nat), ev]) ∧ FaultAt A w' ev (startErr (enF n P V R K Bk) roots)) ∧ Below w.heap.size w w' := by
  have hre := grReach_in ks A hks a n cap P V R K Bk Rv Kv rv roots w hE h hs hr hl
  obtain ⟨ar, rn, rc, _, _, rfl, -⟩ := id hr
  have hn : n ≤ 1000000 := by have := hs.len; rwa [enF_length] at this
  have hfo := fun (p v : ByteArray) (W : World) (hb : Below w.heap.size w W) => idxFind_in a n cap P V R K Bk Rv Kv p v W (h.below hb) hn
  have H := Lib.hid h
  have hrr : ∀ m ∈ reachR (enF n P V R K Bk) roots, (reqsOf (enF n P V R K Bk) m).length ≤ 20 ∧ (findE (enF n P V R K Bk) m).toNat < (enF n P V R K Bk).length ∧ findE (enF n P V R K Bk) m = ((findE (enF n P V R K Bk) m).toNat : Int) := fun m hm => reach_reqs hm
  have hxl := reachR_len (enF n P V R K Bk) roots
  generalize reachR (enF n P V R K Bk) roots = X at *
  generalize hst : startErr (enF n P V R K Bk) roots = SE at *
  have HRR := Lib.hid hrr
  replace hre := Lib.hid hre
  replace hfo := Lib.hid hfo
  clear h hs hr hE hrr hst
  go_enter Tryz.func27, Tryz.ntmps27
  go_wp2_with fail
  refine hre.out.mono ?_
  rintro e w1 ⟨⟨x, ev, rfl, hf, hx⟩, hB⟩
  obtain ⟨ax, nx, cx, Q, U, rfl, rfl, hmc, hcap2, hc2⟩ := hx
  rw [mdF_length] at hxl
  have HF := Lib.hid hf
  replace hc2 := Lib.hid hc2
  clear hf hre
  go_wp2_with fail
  go_loopw [8, 19] (fun s i wr => ∃ k : Nat, k ≤ nx ∧ i = .int .i64 k ∧ s = .int .i64 (edgesN (enF n P V R K Bk) ((mdF nx Q U).take k) : Nat) ∧ Below w1.heap.size w1 wr) (fun _ i _ => nx - (intOf i).toNat)
  case atStart => exact ⟨0, Nat.zero_le _, rfl, rfl, Below.refl _ _⟩
  case round =>
    obtain ⟨k, hk, rfl, rfl, hBk⟩ := hrel
    by_cases hlt : k < nx
    · have hkn : (k : Int) < (nx : Int) := by omega
      obtain ⟨b1, o1, ea, c0, c1⟩ := hc2.out k hlt
      replace c0 := Below.cell_some hBk c0
      replace c1 := Below.cell_some hBk c1
      subst ea
      have hba := below_alloc wr (.cells #[.string (Q k), .string (U k)] 38)
      obtain ⟨z0, z1, _⟩ := box2_alloc wr (.string (Q k)) (.string (U k)) 38
      replace hBk := below_step hBk hba
      have hf := hfo.out (Q k) (U k) _ (below_step hB hBk)
      have hm := HRR.out _ (List.mem_of_getElem? (mdF_get nx Q U k hlt))
      obtain ⟨hm1, hm2, hm3⟩ := hm
      rw [enF_length] at hm2
      have HTK : Hid (edgesN (enF n P V R K Bk) ((mdF nx Q U).take (k + 1)) = edgesN (enF n P V R K Bk) ((mdF nx Q U).take k) + (reqsOf (enF n P V R K Bk) ((Q k).data.toList, (U k).data.toList)).length) := Lib.hid (by rw [mdF_take_succ nx Q U k hlt, edgesN_snoc])
      have hes := edgesN_le (l := enF n P V R K Bk) (x := (mdF nx Q U).take k) (fun m hm => (HRR.out m (List.mem_of_mem_take hm)).1)
      have htl : ((mdF nx Q U).take k).length ≤ 100 := by rw [List.length_take]; omega
      have hes2 : edgesN (enF n P V R K Bk) ((mdF nx Q U).take k) ≤ 2000 := by omega
      unfold reqsOf at hm1 HTK
      rw [hm3] at hf
      generalize (findE (enF n P V R K Bk) ((Q k).data.toList, (U k).data.toList)).toNat = x at *
      rw [enAt_enF hm2] at hm1 HTK
      simp only at hm1 HTK
      obtain ⟨b2, o2, eb, hcell⟩ := H.out.at_ x hm2
      obtain ⟨a3, n3, c3, e1, e2, _, _⟩ := (show ∃ a3 n3 c3, Rv x = .slice a3 n3 c3 ∧ (R x).length = n3 ∧ True ∧ True from by
        obtain ⟨a3, n3, c3, _, _, e1, e2, _⟩ := H.out.reqs x hm2
        exact ⟨a3, n3, c3, e1, by rw [e2, mdF_length], trivial, trivial⟩)
      rw [e2] at hm1 HTK
      have d2 := hcell.c2
      rw [e1] at d2
      subst eb
      generalize edgesN (enF n P V R K Bk) ((mdF nx Q U).take k) = S at *
      have hxn : (x : Int) < (n : Int) := by omega
      have hwr := wrap_nat (S + n3) (by omega)
      have hc0 : (((S + n3 : Nat)) : Int) = (S : Int) + (n3 : Int) := by omega
      rw [hc0] at hwr
      have HTK2 : Hid ((edgesN (enF n P V R K Bk) ((mdF nx Q U).take (k + 1)) : Nat) = S + n3) := Lib.hid HTK.out
      replace hf := Lib.hid hf
      clear hm1 hm3 hes hes2 htl HTK e1 e2 hcell hc0
      go_wp2_with fail
      generalize wr.alloc (.cells #[.string (Q k), .string (U k)] 38) = wa at *
      refine hf.out.mono ?_
      rintro e w3 ⟨rfl, hb⟩
      replace hBk := below_step hBk hb
      replace d2 := Below.cell_some (below_step hB hBk) d2
      clear hb hf c0 c1 z0 z1 hba
      go_wp2_with fail
      go_roundw
      case rel => exact ⟨k + 1, by omega, by go_num, by rw [HTK2.out]; first | rfl | (congr 1; omega) | simp, hBk⟩
      case measure => simp [intOf]; omega
    · have hkn : k = nx := by omega
      have hnk : ¬ (k : Int) < (nx : Int) := by omega
      have HT : Hid ((mdF nx Q U).take k = mdF nx Q U) := Lib.hid (by rw [hkn]; exact mdF_take_all nx Q U)
      have HFk := HF.out.below hBk
      have HFH := Lib.hid HFk
      clear hkn hlt hk HFk
      go_wp2_with fail
      go_ret2
      rw [HT.out]
      exact ⟨⟨_, rfl, HFH.out⟩, below_step hB hBk⟩
end Go.Proofs.Pw

/- B.BuildOf: of what is reached the greatest of each path, and the fault. Conditions: an index and roots that are short. -/
namespace Go.Proofs.Pw
open Go.RowKit
open Go.Lib hiding intOf

/-- the loop's state: what is kept ahead of place k, and the k-th -/
def KeptOf (X : List Md) (k : Nat) (T : List Md) : Prop := (∀ h : k < X.length, greatest (X.take (k + 1)) = T ++ [X[k]]) ∧ (k = X.length → greatest X = T)
theorem kept_start (X : List Md) : KeptOf X 0 [] := by
  refine ⟨fun h => ?_, fun h => ?_⟩
  · cases X with
    | nil => exact absurd h (Nat.not_lt_zero _)
    | cons a r => rfl
  · rw [List.eq_nil_of_length_eq_zero h.symm]; rfl
theorem kept_same {X : List Md} {k : Nat} {T : List Md} (h : KeptOf X k T) (hk : k + 1 < X.length) (he : (X[k + 1]).1 = (X[k]).1) : KeptOf X (k + 1) T := by
  refine ⟨fun _ => ?_, fun h' => absurd h' (by omega)⟩
  rw [List.take_add_one, List.getElem?_eq_getElem hk, Option.toList_some, greatest_snoc, h.1 (by omega)]
  unfold grow1
  rw [if_pos (by simp [he])]
  simp
theorem kept_more {X : List Md} {k : Nat} {T : List Md} (h : KeptOf X k T) (hk : k < X.length) (he : ∀ h2 : k + 1 < X.length, (X[k + 1]).1 ≠ (X[k]).1) : KeptOf X (k + 1) (T ++ [X[k]]) := by
  refine ⟨fun h2 => ?_, fun h2 => ?_⟩
  · rw [List.take_add_one, List.getElem?_eq_getElem h2, Option.toList_some, greatest_snoc, h.1 hk]
    unfold grow1
    rw [if_neg (by simp only [List.getLast?_append, List.getLast?_singleton, Option.some_or, Option.map_some]; exact fun e => he h2 (Option.some.inj e).symm)]
  · have := h.1 hk
    rwa [h2, List.take_length] at this
theorem mdF_getElem {n : Nat} {P V : Nat → ByteArray} {k : Nat} (h : k < n) (h2 : k < (mdF n P V).length) : (mdF n P V)[k] = ((P k).data.toList, (V k).data.toList) := by
  have := mdF_get n P V k h
  rw [List.getElem?_eq_getElem h2] at this
  exact Option.some.inj this

set_option maxHeartbeats 8000000 in
set_option maxRecDepth 100000 in
theorem buildOf_in (a : Option Addr) (n cap : Nat) (P V : Nat → ByteArray) (R : Nat → List Md) (K : Nat → List Str) (B : Nat → Bool) (Rv Kv : Nat → Value) (rv : Value) (roots : List Md) (w : World) (h : EntsIn w a n cap P V R K B Rv Kv) (hr : ModsAt w rv roots) (hs : ShortI (enF n P V R K B)) (hl2 : roots.length ≤ 1000000) :
    Calls Tryz.prog 39 #[.slice a n cap, rv] w fun e w' => (∃ v, e = .returned (.tuple #[v, fltV (startErr (enF n P V R K B) roots)]) ∧ ModsAt w' v (buildR (enF n P V R K B) roots)) ∧ Below w.heap.size w w' := by
  obtain ⟨i0, hi, hz0, hz1, hz2⟩ := info_parts Tryz.infoMod
  have hB := below_alloc w (.cells #[.int .i64 0, .int .i64 0] 49)
  have hz := box2_alloc w (.int .i64 0) (.int .i64 0) 49
  have hre := fun (W : World) (hb : Below w.heap.size w W) => reachOf_in a n cap P V R K B Rv Kv rv roots W (h.below hb) (hr.below hb) hs hl2
  obtain ⟨a2, m, cap2, _, _, rfl, -⟩ := id hr
  have hbo := build_of (l := enF n P V R K B) (roots := roots)
  have hxl := reachR_len (enF n P V R K B) roots
  have hse : (startErr (enF n P V R K B) roots).1 = 0 → startErr (enF n P V R K B) roots = (0, -1) := fun h => startErr_at h
  have hbe : (startErr (enF n P V R K B) roots).1 ≠ 0 → buildR (enF n P V R K B) roots = [] := fun h0 => by unfold buildR; rw [if_neg h0]
  generalize reachR (enF n P V R K B) roots = X at *
  generalize buildR (enF n P V R K B) roots = Y at *
  generalize startErr (enF n P V R K B) roots = SE at *
  obtain ⟨fc, fa⟩ := SE
  unfold fltV at hre
  simp only at hre hbe
  replace hre := Lib.hid hre
  clear h hr hs
  go_enter Tryz.func39, Tryz.ntmps39
  go_wp2_with fail
  generalize w.alloc (.cells #[.int .i64 0, .int .i64 0] 49) = w1 at *
  refine (hre.out _ hB).mono ?_
  rintro e w2 ⟨⟨x, rfl, hx⟩, hb⟩
  obtain ⟨ax, nx, cx, Q, U, rfl, rfl, hmc, hcap2, hc2⟩ := hx
  rw [mdF_length] at hxl
  have hba := below_alloc w2 (.cells #[.int .i64 (fc : Nat), .int .i64 fa] 49)
  have hy := box2_alloc w2 (.int .i64 (fc : Nat)) (.int .i64 fa) 49
  have hs2 : w.heap.size < w2.heap.size := Nat.lt_of_lt_of_le (lt_of_cell hz.c0) hb.size
  have hc3 : ∀ j, j < nx → ∃ b o, ax = some ⟨b, o, none⟩ ∧ (w2.alloc (.cells #[.int .i64 (fc : Nat), .int .i64 fa] 49)).cell? ⟨b, o + j * 2, none⟩ = some (.string (Q j)) ∧ (w2.alloc (.cells #[.int .i64 (fc : Nat), .int .i64 fa] 49)).cell? ⟨b, o + j * 2 + 1, none⟩ = some (.string (U j)) := fun j hj => let ⟨b, o, e, h1, h2⟩ := hc2 j hj; ⟨b, o, e, Below.cell_some hba h1, Below.cell_some hba h2⟩
  replace hb := below_step hb hba
  replace hz := hz.below hb
  replace hB := below_step hB hb
  replace hc3 := Lib.hid hc3
  clear hb hba hre hc2
  obtain ⟨x0, x1, xf⟩ := id hy
  have nx1 : w.heap.size ≠ w2.heap.size := by omega
  have nx2 : w2.heap.size ≠ w.heap.size := by omega
  by_cases h0 : fc = 0
  · have HSE := Lib.hid (hse h0)
    have HBO := Lib.hid hbo
    subst h0
    clear hbe hse hbo
    go_wp2_with fail
    generalize w2.alloc (.cells #[.int .i64 ((0 : Nat) : Int), .int .i64 fa] 49) = w3 at *
    have hlt0 : w.heap.size < w3.heap.size := lt_of_cell hz.c0
    clear x0 x1 xf hy nx1 nx2
    go_loopw [8, 9] (fun o x wr => ∃ (k : Nat) (L : List (ByteArray × ByteArray)), k ≤ nx ∧ x = .int .i64 k ∧ Hid (wr.ownsRow w3.heap.size 38 2 o L.length (mdVs L)) ∧ L.length ≤ k ∧ Hid (KeptOf (mdF nx Q U) k (mdTs L)) ∧ Below w3.heap.size w3 wr) (fun _ x _ => nx - (intOf x).toNat)
    case atStart => exact ⟨0, [], Nat.zero_le _, rfl, Lib.hid (World.ownsRow_nil _ _ _ _), Nat.le_refl _, Lib.hid (kept_start _), Below.refl _ _⟩
    case round =>
      obtain ⟨k, L, hk, rfl, hO, hLk, hT, hBr⟩ := hrel
      obtain ⟨ao, no, co, rfl⟩ := own_form hO.out
      have hown := Lib.hid (fun q (e : (Value.slice ao no co).ownBlock = some q) => (hO.out.lt q e).1)
      have hw1 := wrap_nat (k + 1) (by omega)
      by_cases hlt : k < nx
      · have hkn : (k : Int) < (nx : Int) := by omega
        have hkx : k < (mdF nx Q U).length := by rw [mdF_length]; exact hlt
        obtain ⟨b1, o1, ea, c0, c1⟩ := hc3.out k hlt
        replace c0 := Below.cell_some hBr c0
        replace c1 := Below.cell_some hBr c1
        subst ea
        by_cases hl3 : k + 1 < nx
        · have hkn3 : (k : Int) + 1 < (nx : Int) := by omega
          have hkn4 : ((k : Int) + 1).toNat = k + 1 := by omega
          have hkn5 : (0 : Int) ≤ (k : Int) + 1 := by omega
          have hkn6 : ¬ ((k : Int) + 1 < 0) := by omega
          have hkx2 : k + 1 < (mdF nx Q U).length := by rw [mdF_length]; exact hl3
          obtain ⟨b2, o2, eb, d0, d1⟩ := hc3.out (k + 1) hl3
          injection eb with eb
          injection eb with eb1 eb2
          subst eb1 eb2
          replace d0 := Below.cell_some hBr d0
          by_cases hp : Q (k + 1) = Q k
          · have hq1 : ((Q (k + 1)).toList == (Q k).toList) = true := by rw [hp]; simp
            have HN : Hid (KeptOf (mdF nx Q U) (k + 1) (mdTs L)) := Lib.hid (kept_same hT.out hkx2 (by rw [mdF_getElem hl3, mdF_getElem hlt, hp]))
            have HLk := Lib.hid hLk
            clear hp hT hLk d1
            go_wp2_with fail
            have hOa := hO.out
            have kqd0 := fun d os => cell_patch (d := d) (os := os) d0
            have kqc0 := fun d os => cell_patch (d := d) (os := os) c0
            refine wp_region_quiet_patch (by kernel_rfl) (by kernel_rfl) ?_
            repeat (go_big_quiet_step (fail))
            refine wpQuiet_nil ?_
            intro _ hw'
            obtain ⟨⟨dq, osq⟩, hw''⟩ := hw'
            subst hw''
            clear kqd0 kqc0
            have hb := below_patch wr dq osq
            replace hBr := below_step hBr hb
            replace hOa := hOa.below hb
            clear hb
            generalize patch wr dq osq = wq1 at hBr hOa ⊢
            have HO := Lib.hid hOa
            clear hOa d0 c0 c1 hO
            go_wp2_with fail
            go_roundw
            case rel => exact ⟨k + 1, L, by omega, by go_num, HO, by have := HLk.out; omega, HN, hBr⟩
            case measure => simp [intOf]; omega
          · have hq1 : ((Q (k + 1)).toList == (Q k).toList) = false := by rw [toList_data, toList_data]; exact beq_eq_false_iff_ne.2 (fun e => hp (bytes_eq.1 e))
            have HN : Hid (KeptOf (mdF nx Q U) (k + 1) (mdTs (L ++ [(Q k, U k)]))) := Lib.hid (by
              have := kept_more hT.out hkx (fun h2 => by rw [mdF_getElem hl3, mdF_getElem hlt]; exact fun e => hp (bytes_eq.1 e))
              rw [mdF_getElem hlt] at this
              rw [mdTs_sn]
              exact this)
            clear hp hT d1
            go_wp2_with fail
            have hOa := hO.out
            have kqd0 := fun d os => cell_patch (d := d) (os := os) d0
            have kqc0 := fun d os => cell_patch (d := d) (os := os) c0
            refine wp_region_quiet_patch (by kernel_rfl) (by kernel_rfl) ?_
            repeat (go_big_quiet_step (fail))
            refine wpQuiet_nil ?_
            intro _ hw'
            obtain ⟨⟨dq, osq⟩, hw''⟩ := hw'
            subst hw''
            clear kqd0 kqc0
            have hb := below_patch wr dq osq
            replace hBr := below_step hBr hb
            replace hOa := hOa.below hb
            replace c0 := Below.cell_some hb c0
            replace c1 := Below.cell_some hb c1
            clear hb
            generalize patch wr dq osq = wq1 at hBr hOa c0 c1 ⊢
            have HO := Lib.hid hOa
            clear hOa d0 hO
            go_wp2_with (at_builtin; refine wpList_append_own _ rfl _ _ 23 rfl w3.heap.size 38 i0 (.agg #[.string ⟨#[]⟩, .string ⟨#[]⟩]) 2 32 Tryz.underlying23 hi hz0 hz1 hz2 rfl (by decide) _ _ _ rfl (HO.out.alloc _) ⟨wq1.heap.size, 0, none⟩ 1 1 [.string (Q k), .string (U k)] rfl rfl (cell_two_new _ _ _ _) (by intro u hu; simp at hu; rcases hu with rfl | rfl <;> rfl) (by unfold maxLen; omega) (by omega) (by have := hBr.size; simp; omega) ?_; intro o' w7 hown4 hgrow4 _)
            go_roundw
            case rel =>
              refine ⟨k + 1, L ++ [(Q k, U k)], by omega, by go_num, Lib.hid ?_, by simp; omega, HN, ?_⟩
              · rw [List.length_append, List.length_singleton, ← mdVs_snoc]
                exact hown4
              · exact (hBr.alloc hBr.size _).grown hgrow4 (by have := hBr.size; simp; omega) hown.out
            case measure => simp [intOf]; omega
        · have hkn3 : ¬ (k : Int) + 1 < (nx : Int) := by omega
          have HN : Hid (KeptOf (mdF nx Q U) (k + 1) (mdTs (L ++ [(Q k, U k)]))) := Lib.hid (by
            have := kept_more hT.out hkx (fun h2 => absurd h2 (by rw [mdF_length]; exact hl3))
            rw [mdF_getElem hlt] at this
            rw [mdTs_sn]
            exact this)
          have HO := hO
          clear hT hl3
          go_wp2_with (at_builtin; refine wpList_append_own _ rfl _ _ 23 rfl w3.heap.size 38 i0 (.agg #[.string ⟨#[]⟩, .string ⟨#[]⟩]) 2 32 Tryz.underlying23 hi hz0 hz1 hz2 rfl (by decide) _ _ _ rfl (HO.out.alloc _) ⟨wr.heap.size, 0, none⟩ 1 1 [.string (Q k), .string (U k)] rfl rfl (cell_two_new _ _ _ _) (by intro u hu; simp at hu; rcases hu with rfl | rfl <;> rfl) (by unfold maxLen; omega) (by omega) (by have := hBr.size; simp; omega) ?_; intro o' w7 hown4 hgrow4 _)
          go_roundw
          case rel =>
            refine ⟨k + 1, L ++ [(Q k, U k)], by omega, by go_num, Lib.hid ?_, by simp; omega, HN, ?_⟩
            · rw [List.length_append, List.length_singleton, ← mdVs_snoc]
              exact hown4
            · exact (hBr.alloc hBr.size _).grown hgrow4 (by have := hBr.size; simp; omega) hown.out
          case measure => simp [intOf]; omega
      · have HL : Hid (mdTs L = Y) := Lib.hid (by
          rw [← HBO.out]
          exact (hT.out.2 (by rw [mdF_length]; omega)).symm)
        have hfi := fun W => refFine_calls W
        unfold fltV at hfi
        have hnk : ¬ (k : Int) < (nx : Int) := by omega
        replace hfi := Lib.hid hfi
        clear hlt hT hLk hk hown hw1
        go_wp2_with fail
        refine (hfi.out _).mono ?_
        rintro e w8 ⟨rfl, hb⟩
        have hB8 := below_step hB (below_step hBr hb)
        obtain ⟨z0, z1, zf⟩ := hz.below (below_step hBr hb)
        have hO8 := ownsRow_kept hO.out hb
        have hne := own_ne (b := w.heap.size) hO8 hlt0
        have HFIN : Hid (∀ u0 u1 : Value, ModsAt ((w8.setCell ⟨w.heap.size, 0, none⟩ u0).setCell ⟨w.heap.size, 1, none⟩ u1) (.slice ao no co) Y) := Lib.hid (fun u0 u1 => by
          have hM := modsAt_own (w := (w8.setCell ⟨w.heap.size, 0, none⟩ u0).setCell ⟨w.heap.size, 1, none⟩ u1) (ownsRow_set (ownsRow_set hO8 hne u0) hne u1)
          rw [HL.out] at hM
          exact hM)
        clear hb hfi hne hO8 hnk
        go_wp2_with fail
        refine bodyPost_ret (v := .tuple #[(.slice ao no co), fltV (0, -1)]) (by simp [results, Tryz.results39, fltV, go_sem, *]) rfl ?_
        rw [HSE.out]
        exact ⟨⟨_, rfl, HFIN.out _ _⟩, (hB8.setCell (p := ⟨w.heap.size, 0, none⟩) (Nat.le_refl _) _).setCell (p := ⟨w.heap.size, 1, none⟩) (Nat.le_refl _) _⟩
  · have hc9 : (0 : Int) < (fc : Int) := by omega
    have hc8 : ((fc : Int) == 0) = false := beq_eq_false_iff_ne.2 (by omega)
    have HY := Lib.hid (hbe h0)
    obtain ⟨z0, z1, zf⟩ := id hz
    clear h0 hbe hse hbo
    go_wp2_with fail
    generalize w2.alloc (.cells #[.int .i64 (fc : Nat), .int .i64 fa] 49) = w3 at *
    generalize w2.heap.size = bx at *
    go_region
    all_goals
      go_wp2_with fail
      refine bodyPost_ret (v := .tuple #[.slice none 0 0, fltV (fc, fa)]) (by simp [results, Tryz.results39, fltV, go_sem, *]) rfl ?_
      rw [HY.out]
      exact ⟨⟨_, rfl, ModsAt.nil _⟩, (hB.drew.setCell (p := ⟨w.heap.size, 0, none⟩) (Nat.le_refl _) _).setCell (p := ⟨w.heap.size, 1, none⟩) (Nat.le_refl _) _⟩
end Go.Proofs.Pw

/- small, reached of the statements: a closed fact. -/
namespace Go.Proofs.Pw
open Go.RowKit
open Go.Lib hiding intOf

def sA : ByteArray := ⟨#[97]⟩
def sB : ByteArray := ⟨#[98]⟩
def v100 : ByteArray := ⟨#[118, 49, 46, 48, 46, 48]⟩
def v110 : ByteArray := ⟨#[118, 49, 46, 49, 46, 48]⟩
def v010 : ByteArray := ⟨#[118, 48, 46, 49, 46, 48]⟩
def smP (j : Nat) : ByteArray := if j = 2 then sB else sA
def smV (j : Nat) : ByteArray := if j = 0 then v100 else if j = 1 then v110 else v010
def smR (j : Nat) : List Md := if j = 1 then [(sB.data.toList, v010.data.toList)] else []
def smK (_ : Nat) : List Str := []
def smB (_ : Nat) : Bool := false
def smL : List En := enF 3 smP smV smR smK smB
def smRoots : List Md := [(sA.data.toList, v110.data.toList)]
def smX : List Md := [(sA.data.toList, v110.data.toList), (sB.data.toList, v010.data.toList)]
theorem sm_err : startErr smL smRoots = (0, -1) := by decide +kernel
theorem sm_rises : Rises modCmp smX := by
  unfold Rises smX
  refine List.Pairwise.cons (fun b hb => ?_) (List.Pairwise.cons (fun b hb => by cases hb) List.Pairwise.nil)
  simp only [List.mem_singleton] at hb
  subst hb
  decide +kernel
theorem sm_short : ShortI smL := by
  refine ⟨by decide +kernel, ?_, ?_, ?_⟩
  · decide +kernel
  · intro e he
    have : ∀ e ∈ smL, e.reqs.length ≤ 1000000 ∧ ∀ m ∈ e.reqs, m.1.length ≤ 1000000 ∧ m.2.length ≤ 1000000 := by decide +kernel
    exact this e he
  · decide +kernel
theorem sm_right : RightG smL smRoots := rightG_of (by rw [sm_err])
theorem sm_reach : reachR smL smRoots = smX := by
  unfold reachR
  rw [if_pos (by rw [sm_err])]
  refine (sm_right.is sm_rises (fun m => ⟨fun h => ?_, fun h => ?_⟩)).symm
  · have h0 : Reached smL smRoots (sA.data.toList, v110.data.toList) := .root (by decide +kernel)
    have hm : (enAt smL 1) ∈ smL := enAt_mem (by decide +kernel)
    have h1 : Reached smL smRoots (sB.data.toList, v010.data.toList) := .step (e := enAt smL 1) hm h0 (by decide +kernel)
    simp only [smX, List.mem_cons, List.mem_nil_iff, or_false] at h
    rcases h with rfl | rfl
    · exact h0
    · exact h1
  · refine reached_closed (T := smX) ?_ ?_ h
    · decide +kernel
    · decide +kernel

theorem new_cell (W : World) (cs : List Value) (t : TypeId) {N : Nat} (h : W.heap.size = N) {c : Nat} {u : Value} (hc : cs[c]? = some u) : (W.alloc (.cells cs.toArray t)).cell? ⟨N, c, none⟩ = some u := by
  subst h
  have := World.news_of_block (cs := cs.toArray) (Go.Deep.blk_alloc_new W (.cells cs.toArray t)) c u (by simpa using hc)
  rw [Addr.add_lit, Nat.zero_add] at this
  exact this
def smRv (N j : Nat) : Value := if j = 1 then .slice (some ⟨N, 0, none⟩) 1 1 else .slice none 0 0
def smW (w : World) : World := (w.alloc (.cells #[.string sB, .string v010] 38)).alloc (.cells #[.string sA, .string v100, .slice none 0 0, .slice none 0 0, .bool false, .string sA, .string v110, .slice (some ⟨w.heap.size, 0, none⟩) 1 1, .slice none 0 0, .bool false, .string sB, .string v010, .slice none 0 0, .slice none 0 0, .bool false] 43)
theorem smW_below (w : World) : Below w.heap.size w (smW w) := below_step (below_alloc w _) (below_alloc _ _)
theorem smW_in (w : World) : EntsIn (smW w) (some ⟨w.heap.size + 1, 0, none⟩) 3 3 smP smV smR smK smB (smRv w.heap.size) (fun _ => .slice none 0 0) := by
  have hc : ∀ (c : Nat) (u : Value), ([.string sA, .string v100, .slice none 0 0, .slice none 0 0, .bool false, .string sA, .string v110, .slice (some ⟨w.heap.size, 0, none⟩) 1 1, .slice none 0 0, .bool false, .string sB, .string v010, .slice none 0 0, .slice none 0 0, .bool false] : List Value)[c]? = some u → (smW w).cell? ⟨w.heap.size + 1, c, none⟩ = some u := fun c u h => new_cell _ _ _ (by simp) h
  refine ⟨Nat.le_refl _, by decide, fun j hj => ⟨w.heap.size + 1, 0, rfl, ?_⟩, fun j hj => ?_, fun j hj => StrsAt.nil _⟩
  · match j, hj with
    | 0, _ => exact ⟨hc _ _ rfl, hc _ _ rfl, hc _ _ rfl, hc _ _ rfl, hc _ _ rfl⟩
    | 1, _ => exact ⟨hc _ _ rfl, hc _ _ rfl, hc _ _ rfl, hc _ _ rfl, hc _ _ rfl⟩
    | 2, _ => exact ⟨hc _ _ rfl, hc _ _ rfl, hc _ _ rfl, hc _ _ rfl, hc _ _ rfl⟩
  · match j, hj with
    | 0, _ => exact ModsAt.nil _
    | 2, _ => exact ModsAt.nil _
    | 1, _ =>
      have hb := below_alloc (w.alloc (.cells #[.string sB, .string v010] 38)) (.cells #[.string sA, .string v100, .slice none 0 0, .slice none 0 0, .bool false, .string sA, .string v110, .slice (some ⟨w.heap.size, 0, none⟩) 1 1, .slice none 0 0, .bool false, .string sB, .string v010, .slice none 0 0, .slice none 0 0, .bool false] 43)
      have h0 := Below.cell_some hb (new_cell w [.string sB, .string v010] 38 rfl (c := 0) rfl)
      have h1 := Below.cell_some hb (new_cell w [.string sB, .string v010] 38 rfl (c := 1) rfl)
      refine ⟨some ⟨w.heap.size, 0, none⟩, 1, 1, fun _ => sB, fun _ => v010, rfl, rfl, Nat.le_refl _, by decide, fun i hi => ?_⟩
      obtain rfl : i = 0 := by omega
      exact ⟨w.heap.size, 0, rfl, h0, h1⟩

set_option maxHeartbeats 2000000 in
set_option maxRecDepth 100000 in
theorem small_calls (w : World) :
    Calls Tryz.prog 53 #[] w fun e w' => e = .returned (.slice (some ⟨w.heap.size + 1, 0, none⟩) 3 3) ∧ w' = smW w := by
  go_enter Tryz.func53, Tryz.ntmps53
  go_wp2_with fail
  go_ret
  exact ⟨rfl, rfl⟩

set_option maxHeartbeats 2000000 in
set_option maxRecDepth 100000 in
theorem reached_calls (ks : List Nat) (A : Nat → Addr) (hks : IdxKs ks) (w : World) (hE : EnvP ks A w) :
    Calls Tryz.prog 24 #[] w fun e w' => e = .returned (.bool true) ∧ Below w.heap.size w w' := by
  have hsm := small_calls w
  have hB := smW_below w
  have hb := below_alloc (smW w) (.cells #[.string sA, .string v110] 38)
  have hB2 := below_step hB hb
  have hmods : ModsAt ((smW w).alloc (.cells #[.string sA, .string v110] 38)) (.slice (some ⟨(smW w).heap.size, 0, none⟩) 1 1) smRoots := by
    refine ⟨_, 1, 1, fun _ => sA, fun _ => v110, rfl, rfl, Nat.le_refl _, by decide, fun i hi => ?_⟩
    obtain rfl : i = 0 := by omega
    exact ⟨_, 0, rfl, new_cell (smW w) [.string sA, .string v110] 38 rfl (c := 0) rfl, new_cell (smW w) [.string sA, .string v110] 38 rfl (c := 1) rfl⟩
  have hre := grReach_in ks A hks (some ⟨w.heap.size + 1, 0, none⟩) 3 3 smP smV smR smK smB (smRv w.heap.size) (fun _ => .slice none 0 0) (.slice (some ⟨(smW w).heap.size, 0, none⟩) 1 1) smRoots ((smW w).alloc (.cells #[.string sA, .string v110] 38)) (hE.below hB2) ((smW_in w).below hb) sm_short hmods (by decide)
  rw [show enF 3 smP smV smR smK smB = smL from rfl, sm_err, sm_reach] at hre
  generalize smW w = w1 at *
  unfold sA v110 at hre hB2
  replace hsm := Lib.hid hsm
  replace hre := Lib.hid hre
  clear hB hb hmods hE
  go_enter Tryz.func24, Tryz.ntmps24
  go_wp2_with fail
  refine hsm.out.mono ?_
  rintro e w' ⟨rfl, rfl⟩
  go_wp2_with fail
  refine hre.out.mono ?_
  rintro e w3 ⟨⟨x, ev, rfl, hf, hx⟩, hb3⟩
  have hev : ev = .nilIface := by
    rcases hf with ⟨_, _, h⟩ | ⟨h, _⟩ | ⟨h, _⟩
    · exact h
    · exact absurd rfl h
    · exact absurd rfl h
  subst hev
  obtain ⟨b0, o0, c0, e0, _, d0, _⟩ := hx.cell (k := 0) (p := sA) (q := v110) rfl
  obtain ⟨b1, o1, c1, e1, _, d1, _⟩ := hx.cell (k := 1) (p := sB) (q := v010) rfl
  rw [e0] at e1
  injection e1 with e2 _ _
  injection e2 with e2
  injection e2 with e2 e3
  subst e0 e2 e3
  have hB3 := below_step hB2 hb3
  unfold sA at d0
  unfold sB at d1
  simp only [Nat.zero_mul, Nat.one_mul, Nat.add_zero, show smX.length = 2 from rfl] at d0 d1 ⊢
  clear hf hx hre hsm hB2 hb3
  go_wp2_with fail
  go_ret
  exact ⟨rfl, hB3⟩
end Go.Proofs.Pw

/- mvs.has, mvs.Under. Conditions: texts of at most 1000000000 bytes, lists of at most 1000000. -/
namespace Go.Proofs.Pw
open Go.RowKit
open Go.Lib hiding intOf

theorem hasB_no {sel : List Md} {m : Md} (h : findI (hasP m.1) sel < 0) : hasB sel m = false := by
  unfold hasB
  rw [decide_eq_false (by omega), Bool.false_and]
theorem hasB_at {sel : List Md} {m : Md} {k : Nat} (h : findI (hasP m.1) sel = k) : hasB sel m = !verLess (mdAt sel k).2 m.2 := by
  unfold hasB
  rw [h, decide_eq_true (by omega), Bool.true_and, show ((k : Nat) : Int).toNat = k from rfl]
set_option maxHeartbeats 1000000 in
set_option maxRecDepth 100000 in
theorem has_calls (ks : List Nat) (A : Nat → Addr) (v : Value) (l : List Md) (p q : ByteArray) (w : World) (hE : EnvP ks A w) (h : ModsAt w v l) (hl : l.length ≤ 1000000) (hs : ∀ m ∈ l, m.2.length ≤ 1000000000) (hq : q.size ≤ 1000000000) :
    Calls Tryz.prog 80 #[v, .agg #[.string p, .string q]] w fun e w' => e = .returned (.bool (hasB l (p.data.toList, q.data.toList))) ∧ Below w.heap.size w w' := by
  have hb := below_alloc w (.cells #[.string p, .string q] 38)
  have hz := box2_alloc w (.string p) (.string q) 38
  have hE1 := hE.below hb
  have hf := modFind_calls v l p (w.alloc (.cells #[.string p, .string q] 38)) (h.below hb) hl
  have hno := hasB_no (sel := l) (m := (p.data.toList, q.data.toList))
  have hat := fun k => hasB_at (sel := l) (m := (p.data.toList, q.data.toList)) (k := k)
  unfold hasP at hno hat
  simp only at hno hat
  have hsp := fun k => @findI_spec _ (fun m : Md => decide (m.1 = p.data.toList)) l k
  generalize findI (fun m : Md => decide (m.1 = p.data.toList)) l = x at hf hno hat hsp
  obtain ⟨a, n, cap, P, V, rfl, rfl, hnc, hcap, hc⟩ := h
  replace hf := Lib.hid hf
  by_cases hx : x < 0
  · have HR := Lib.hid (hno hx)
    clear hno hat hsp hc hs
    go_enter Tryz.func80, Tryz.ntmps80
    go_wp2_with fail
    refine hf.out.mono ?_
    rintro e w1 ⟨rfl, hb1⟩
    have hB := below_step hb hb1
    clear hb1 hb hf hz
    go_wp2_with fail
    have hx1 : decide (0 ≤ x) = false := decide_eq_false (by omega)
    have hx2 : decide (x ≥ 0) = false := decide_eq_false (by omega)
    refine wp_region_quiet_patch (by kernel_rfl) (by kernel_rfl) ?_
    repeat (go_big_quiet_step (fail))
    refine wpQuiet_nil ?_
    intro _ hw'
    obtain ⟨⟨dq, osq⟩, hw''⟩ := hw'
    subst hw''
    have hb := below_patch w1 dq osq
    replace hB := below_step hB hb
    clear hb
    generalize patch w1 dq osq = w2 at hB ⊢
    clear hx1 hx2
    go_wp2_with fail
    go_ret
    rw [HR.out]
    exact ⟨rfl, hB⟩
  · obtain ⟨k, rfl⟩ : ∃ k : Nat, x = k := ⟨x.toNat, by omega⟩
    obtain ⟨y, hy, hp⟩ := hsp k rfl
    have hkn : k < n := by have := (List.getElem?_eq_some_iff.1 hy).1; rwa [mdF_length] at this
    have hkz : (k : Int) < (n : Int) := by omega
    obtain ⟨b1, o1, rfl, c0, c1⟩ := hc k hkn
    have hR := hat k rfl
    rw [mdAt_mdF hkn] at hR
    have hVs := hs _ (List.mem_of_getElem? (mdF_get n P V k hkn))
    have hless := fun W hW => verLess_calls ks A (V k) q W hW (by rw [size_eq]; exact hVs) hq
    have HR := Lib.hid hR
    generalize verLess (V k).data.toList q.data.toList = D at hless HR
    replace hless := Lib.hid hless
    have hB := hb
    have d0 := Below.cell_some hb c0
    have d1 := Below.cell_some hb c1
    obtain ⟨y0, y1, _⟩ := hz
    clear hno hat hsp hc hs hR hVs hy hp c0 c1 hb hE
    go_enter Tryz.func80, Tryz.ntmps80
    go_wp2_with fail
    refine (hf.out).mono ?_
    rintro e w1 ⟨rfl, hb⟩
    replace hB := below_step hB hb
    replace hE1 := hE1.below hb
    replace d0 := Below.cell_some hb d0
    replace d1 := Below.cell_some hb d1
    replace y0 := Below.cell_some hb y0
    replace y1 := Below.cell_some hb y1
    clear hb
    go_wp2_with fail
    have hx1 : decide (0 ≤ (k : Int)) = true := decide_eq_true (by omega)
    have hx2 : decide ((k : Int) ≥ 0) = true := decide_eq_true (by omega)
    have kE := Lib.hid (fun d os => hE1.below (below_patch w1 d os))
    have kqd1 := fun d os => cell_patch (d := d) (os := os) d1
    have kqy1 := fun d os => cell_patch (d := d) (os := os) y1
    refine wp_region_quiet_patch (by kernel_rfl) (by kernel_rfl) ?_
    repeat (go_big_quiet_step ((go_at_call 82; exact Calls.patch_of (hless.out _ (kE.out _ _)))))
    refine wpQuiet_nil ?_
    intro _ hw'
    obtain ⟨⟨dq, osq⟩, hw''⟩ := hw'
    subst hw''
    clear kqd1 kqy1
    have hb := below_patch w1 dq osq
    replace hB := below_step hB hb
    clear hb
    generalize patch w1 dq osq = w2 at hB ⊢
    go_wp2_with fail
    go_ret
    rw [HR.out]
    exact ⟨rfl, hB⟩

theorem Tryz.enters_under1 : ∀ args w, (callFunc 79 args).run Tryz.prog w = .ok (.enter 79 args) w := Go.Proofs.enters_of Tryz.func79 (by kernel_rfl) rfl
theorem under1_calls (ks : List Nat) (A : Nat → Addr) (v : Value) (l : List Md) (p q : ByteArray) (b : Nat) (w : World) (hE : EnvP ks A w) (h : ModsAt w v l) (hl : l.length ≤ 1000000) (hs : ∀ m ∈ l, m.2.length ≤ 1000000000) (hq : q.size ≤ 1000000000) (hc : w.cell? ⟨b, 0, none⟩ = some v) :
    Calls Tryz.prog 79 #[.agg #[.string p, .string q], .pointer (some ⟨b, 0, none⟩)] w fun e w' => e = .returned (.bool (!hasB l (p.data.toList, q.data.toList))) ∧ Below w.heap.size w w' := by
  have hb := below_alloc w (.cells #[.string p, .string q] 38)
  have c0 := Below.cell_some hb hc
  obtain ⟨y0, y1, _⟩ := box2_alloc w (.string p) (.string q) 38
  have hh := has_calls ks A v l p q (w.alloc (.cells #[.string p, .string q] 38)) (hE.below hb) (h.below hb) hl hs hq
  have hh0 := has_calls ks A v l p q w hE h hl hs hq
  obtain ⟨a, n, cap, _, _, rfl, _⟩ := id h
  generalize hasB l (p.data.toList, q.data.toList) = D at hh hh0 ⊢
  have hb0 := Below.refl w.heap.size w
  replace hh := Lib.hid hh
  replace hh0 := Lib.hid hh0
  clear h hs
  go_enter Tryz.func79, Tryz.ntmps79
  go_wp2_with fail
  first
  | (refine hh.out.mono ?_
     rintro e w1 ⟨rfl, hb1⟩
     go_wp2_with fail
     go_ret
     exact ⟨rfl, below_step hb hb1⟩)
  | (refine hh0.out.mono ?_
     rintro e w1 ⟨rfl, hb1⟩
     go_wp2_with fail
     go_ret
     exact ⟨rfl, below_step hb0 hb1⟩)
set_option maxHeartbeats 1000000 in
set_option maxRecDepth 100000 in
/-- mvs.Under -/
theorem mvsUnder_calls (ks : List Nat) (A : Nat → Addr) (va vb : Value) (la lb : List Md) (w : World) (hE : EnvP ks A w) (ha : ModsAt w va la) (hb0 : ModsAt w vb lb) (hla : la.length ≤ 1000000) (hlb : lb.length ≤ 1000000) (hsa : ∀ m ∈ la, m.2.length ≤ 1000000000) (hsb : ∀ m ∈ lb, m.2.length ≤ 1000000000) :
    Calls Tryz.prog 32 #[va, vb] w fun e w' => e = .returned (.bool (underB la lb)) ∧ Below w.heap.size w w' := by
  obtain ⟨a2, n2, cap2, _, _, rfl, _⟩ := id hb0
  obtain ⟨a, n, cap, P, V, rfl, rfl, hnc, hcap, hc⟩ := ha
  rw [mdF_length] at hla
  have hb := below_alloc w (.cells #[.slice a2 n2 cap2] 23)
  have hcs : (w.alloc (.cells #[.slice a2 n2 cap2] 23)).cell? ⟨w.heap.size, 0, none⟩ = some (.slice a2 n2 cap2) := by simp
  have hi := containsMf_calls 79 #[.pointer (some ⟨w.heap.size, 0, none⟩)] Tryz.enters_under1 (fun m => !hasB lb m) a n cap (w.alloc (.cells #[.slice a2 n2 cap2] 23)).heap.size P V (w.alloc (.cells #[.slice a2 n2 cap2] 23)) hla (Nat.le_refl _)
    (fun j hj => let ⟨b, o, e, h1, h2⟩ := hc j hj; ⟨b, o, e, Below.cell_some hb h1, Below.cell_some hb h2⟩)
    (fun W hW j hj => under1_calls ks A (.slice a2 n2 cap2) lb (P j) (V j) w.heap.size W (hE.below (below_step hb hW)) (hb0.below (below_step hb hW)) hlb hsb (by rw [size_eq]; exact hsa _ (List.mem_of_getElem? (mdF_get n P V j hj))) (Below.cell_some hW hcs))
  have hany : (mdF n P V).any (fun m => !hasB lb m) = !underB (mdF n P V) lb := by
    unfold underB
    rw [List.not_all_eq_any_not]
  rw [hany] at hi
  generalize underB (mdF n P V) lb = D at hi ⊢
  replace hi := Lib.hid hi
  clear hc hcs hb0 hsa hsb hany
  go_enter Tryz.func32, Tryz.ntmps32
  go_wp2_with fail
  refine hi.out.mono ?_
  rintro e w1 ⟨rfl, hb1⟩
  go_wp2_with fail
  go_ret
  exact ⟨rfl, below_step hb hb1⟩
end Go.Proofs.Pw

/- built of the statements: a closed fact; slices of slices of modules. -/
namespace Go.Proofs.Pw
open Go.RowKit
open Go.Lib hiding intOf

theorem ModsAt.take {w : World} {a : Option Addr} {n cap k : Nat} {l : List Md} (h : ModsAt w (.slice a n cap) l) (hk : k ≤ n) : ModsAt w (.slice a k cap) (l.take k) := by
  obtain ⟨a', n', cap', P, V, e, rfl, h3, h4, h5⟩ := h
  injection e with e1 e2 e3
  subst e1 e2 e3
  refine ⟨a, k, cap, P, V, rfl, ?_, by omega, h4, fun j hj => h5 j (by omega)⟩
  unfold mdF
  rw [← List.map_take, List.take_range, Nat.min_eq_left hk]

def smRoots2 : List Md := [(sA.data.toList, v100.data.toList), (sA.data.toList, v110.data.toList)]
theorem sm_err2 : startErr smL smRoots2 = (0, -1) := by decide +kernel
theorem sm_right2 : RightG smL smRoots2 := rightG_of (by rw [sm_err2])
theorem sm_build : buildR smL smRoots2 = smX := by
  unfold buildR
  rw [if_pos (by rw [sm_err2])]
  refine rises_ext modCmp_ord sm_right2.great.rises sm_rises fun m => ?_
  rw [build_mem sm_right2]
  have hT : ∀ x, Reached smL smRoots2 x → x ∈ [(sA.data.toList, v100.data.toList), (sA.data.toList, v110.data.toList), (sB.data.toList, v010.data.toList)] := fun x hx => reached_closed (by decide +kernel) (by decide +kernel) hx
  have r110 : Reached smL smRoots2 (sA.data.toList, v110.data.toList) := .root (by decide +kernel)
  have hm : (enAt smL 1) ∈ smL := enAt_mem (by decide +kernel)
  have r010 : Reached smL smRoots2 (sB.data.toList, v010.data.toList) := .step (e := enAt smL 1) hm r110 (by decide +kernel)
  constructor
  · rintro ⟨h1, h2⟩
    have h3 := hT m h1
    simp only [List.mem_cons, List.mem_nil_iff, or_false] at h3
    rcases h3 with rfl | rfl | rfl
    · exact absurd (h2 _ r110 rfl) (by decide +kernel)
    · simp [smX]
    · simp [smX]
  · intro h
    simp only [smX, List.mem_cons, List.mem_nil_iff, or_false] at h
    rcases h with rfl | rfl
    · refine ⟨r110, fun x hx e => ?_⟩
      have h3 := hT x hx
      simp only [List.mem_cons, List.mem_nil_iff, or_false] at h3
      rcases h3 with rfl | rfl | rfl
      · decide +kernel
      · decide +kernel
      · exact absurd e (by decide +kernel)
    · refine ⟨r010, fun x hx e => ?_⟩
      have h3 := hT x hx
      simp only [List.mem_cons, List.mem_nil_iff, or_false] at h3
      rcases h3 with rfl | rfl | rfl
      · exact absurd e (by decide +kernel)
      · exact absurd e (by decide +kernel)
      · decide +kernel

set_option maxHeartbeats 2000000 in
set_option maxRecDepth 100000 in
theorem built_calls (ks : List Nat) (A : Nat → Addr) (hks : IdxKs ks) (w : World) (hE : EnvP ks A w) :
    Calls Tryz.prog 44 #[] w fun e w' => e = .returned (.bool true) ∧ Below w.heap.size w w' := by
  have hsm := small_calls w
  have hB := smW_below w
  have hb := below_alloc (smW w) (.cells #[.string sA, .string v100, .string sA, .string v110] 38)
  have hB2 := below_step hB hb
  have hmods : ModsAt ((smW w).alloc (.cells #[.string sA, .string v100, .string sA, .string v110] 38)) (.slice (some ⟨(smW w).heap.size, 0, none⟩) 2 2) smRoots2 := by
    refine ⟨_, 2, 2, fun _ => sA, fun j => if j = 0 then v100 else v110, rfl, rfl, Nat.le_refl _, by decide, fun i hi => ?_⟩
    have hc : ∀ (c : Nat) (u : Value), ([.string sA, .string v100, .string sA, .string v110] : List Value)[c]? = some u → ((smW w).alloc (.cells #[.string sA, .string v100, .string sA, .string v110] 38)).cell? ⟨(smW w).heap.size, c, none⟩ = some u := fun c u h => new_cell _ _ _ rfl h
    match i, hi with
    | 0, _ => exact ⟨_, 0, rfl, hc _ _ rfl, hc _ _ rfl⟩
    | 1, _ => exact ⟨_, 0, rfl, hc _ _ rfl, hc _ _ rfl⟩
  have hre := mvsBuild_in ks A hks (some ⟨w.heap.size + 1, 0, none⟩) 3 3 smP smV smR smK smB (smRv w.heap.size) (fun _ => .slice none 0 0) (.slice (some ⟨(smW w).heap.size, 0, none⟩) 2 2) smRoots2 ((smW w).alloc (.cells #[.string sA, .string v100, .string sA, .string v110] 38)) (hE.below hB2) ((smW_in w).below hb) sm_short hmods (by decide)
  rw [show enF 3 smP smV smR smK smB = smL from rfl, sm_err2, sm_build] at hre
  generalize smW w = w1 at *
  unfold sA v100 v110 at hre hB2
  have HE := Lib.hid hE
  replace hsm := Lib.hid hsm
  replace hre := Lib.hid hre
  clear hB hb hmods hE
  go_enter Tryz.func44, Tryz.ntmps44
  go_wp2_with fail
  refine hsm.out.mono ?_
  rintro e w' ⟨rfl, rfl⟩
  go_wp2_with fail
  refine hre.out.mono ?_
  rintro e w3 ⟨⟨x, ev, rfl, hf, hx⟩, hb3⟩
  have hev : ev = .nilIface := by
    rcases hf with ⟨_, _, h⟩ | ⟨h, _⟩ | ⟨h, _⟩
    · exact h
    · exact absurd rfl h
    · exact absurd rfl h
  subst hev
  obtain ⟨b0, o0, c0, e0, _, d0, d1⟩ := hx.cell (k := 0) (p := sA) (q := v110) rfl
  have hB3 := below_step hB2 hb3
  subst e0
  have hcap : 2 ≤ c0 := by
    obtain ⟨_, _, _, _, _, e, _, h3, _⟩ := hx
    injection e with _ e2 e3
    have : smX.length = 2 := rfl
    omega
  have hun := mvsUnder_calls ks A (.slice (some ⟨b0, o0, none⟩) 1 c0) (.slice (some ⟨b0, o0, none⟩) 2 c0) (smX.take 1) smX w3 (HE.out.below hB3) (hx.take (k := 1) (by decide)) hx (by decide) (by decide) (by decide +kernel) (by decide +kernel)
  rw [show underB (smX.take 1) smX = true by decide +kernel] at hun
  unfold v110 at d1
  simp only [Nat.zero_mul, Nat.add_zero, show smX.length = 2 from rfl] at d0 d1 hx ⊢
  replace hun := Lib.hid hun
  clear hf hx hre hsm hB2 hb3
  go_wp2_with fail
  refine hun.out.mono ?_
  rintro e w4 ⟨rfl, hb4⟩
  go_wp2_with fail
  go_ret
  exact ⟨rfl, below_step hB3 hb4⟩
end Go.Proofs.Pw

/- Plain mathematics of package trim: the fewest roots. No program in sight. -/
namespace Go.Proofs.Pw
open Go.Lib hiding intOf

/-- trim's loop: one root less, where it builds the same -/
noncomputable def trimF (l : List En) (sel : List Md) : Nat → List Md → Nat → List Md
  | 0, out, _ => out
  | n + 1, out, i => if i < out.length then (if buildL l (out.eraseIdx i) = sel then trimF l sel n (out.eraseIdx i) i else trimF l sel n out (i + 1)) else out
theorem trimF_done {l : List En} {sel out : List Md} {i : Nat} (h : ¬ i < out.length) : ∀ n, trimF l sel n out i = out
  | 0 => rfl
  | n + 1 => by rw [trimF, if_neg h]
theorem trimF_fuel {l : List En} {sel : List Md} : ∀ (n m : Nat) (out : List Md) (i : Nat), out.length - i ≤ n → out.length - i ≤ m → trimF l sel n out i = trimF l sel m out i
  | 0, m, out, i, h, _ => by rw [trimF_done (by omega), trimF_done (by omega)]
  | n, 0, out, i, _, h => by rw [trimF_done (by omega), trimF_done (by omega)]
  | n + 1, m + 1, out, i, h1, h2 => by
    rw [trimF, trimF]
    by_cases h : i < out.length
    · rw [if_pos h, if_pos h]
      have e : (out.eraseIdx i).length = out.length - 1 := List.length_eraseIdx_of_lt h
      split
      · exact trimF_fuel n m _ _ (by rw [e]; omega) (by rw [e]; omega)
      · exact trimF_fuel n m _ _ (by omega) (by omega)
    · rw [if_neg h, if_neg h]
noncomputable def trimL (l : List En) (sel : List Md) : List Md := trimF l sel sel.length sel 0
/-- roots of a selection: an error -/
noncomputable def trimErr (l : List En) (sel : List Md) : Nat × Int := if (startErr l sel).1 ≠ 0 then startErr l sel else if buildL l sel = sel then (0, -1) else (3, -1)
noncomputable def trimR (l : List En) (sel : List Md) : List Md := if (startErr l sel).1 = 0 ∧ buildL l sel = sel then trimL l sel else []

/-- what stays of the loop -/
structure TrimInv (l : List En) (sel out : List Md) (i : Nat) : Prop where
  sub : out.Sublist sel
  same : buildL l out = sel
  least : ∀ j, j < i → j < out.length → buildL l (out.eraseIdx j) ≠ sel
theorem RightG.subl {l : List En} {sel out : List Md} (h : RightG l sel) (hs : out.Sublist sel) : RightG l out := ⟨h.idx, fun m hm => h.at_ m (hs.subset hm)⟩
theorem reached_subl {l : List En} {sel out : List Md} (hs : out.Sublist sel) {m : Md} (h : Reached l out m) : Reached l sel m := reached_sub (fun _ hy => .root (hs.subset hy)) h
theorem erase_two {α : Type} (l : List α) (i j : Nat) (h : j < i) : ((l.eraseIdx i).eraseIdx j).Sublist (l.eraseIdx j) := by
  have e : (l.eraseIdx i).eraseIdx j = (l.eraseIdx j).eraseIdx (i - 1) := by
    apply List.ext_getElem?
    intro k
    simp only [List.getElem?_eraseIdx]
    split <;> split <;> split <;> first | rfl | omega | (split <;> first | rfl | omega)
  rw [e]
  exact List.eraseIdx_sublist _ _
theorem trimF_inv {l : List En} {sel : List Md} (hG : RightG l sel) (hS : buildL l sel = sel) : ∀ (n : Nat) (out : List Md) (i : Nat), TrimInv l sel out i → out.length - i ≤ n → ∃ k, TrimInv l sel (trimF l sel n out i) k ∧ (trimF l sel n out i).length ≤ k
  | 0, out, i, h, hn => ⟨i, h, by show out.length ≤ i; omega⟩
  | n + 1, out, i, h, hn => by
    rw [trimF]
    by_cases hi : i < out.length
    · rw [if_pos hi]
      by_cases hb : buildL l (out.eraseIdx i) = sel
      · rw [if_pos hb]
        have hsub := (List.eraseIdx_sublist out i).trans h.sub
        refine trimF_inv hG hS n _ _ ⟨hsub, hb, fun j hj hl => ?_⟩ (by rw [List.length_eraseIdx_of_lt hi]; omega)
        intro hc
        have hl2 : j < out.length := by omega
        refine h.least j hj hl2 ?_
        have s1 : ((out.eraseIdx i).eraseIdx j).Sublist (out.eraseIdx j) := erase_two out i j hj
        have s2 : (out.eraseIdx j).Sublist sel := (List.eraseIdx_sublist out j).trans h.sub
        have := build_between (hG.subl (s1.trans s2)) (hG.subl s2) hG (fun m hm => reached_subl s1 hm) (fun m hm => reached_subl s2 hm) (hc.trans hS.symm)
        exact this.trans hS
      · rw [if_neg hb]
        refine trimF_inv hG hS n _ _ ⟨h.sub, h.same, fun j hj hl => ?_⟩ (by omega)
        by_cases e : j = i
        · subst e; exact hb
        · exact h.least j (by omega) hl
    · rw [if_neg hi]
      exact ⟨i, h, by omega⟩
/-- what TrimLeast says -/
structure TlFacts (l : List En) (sel x : List Md) : Prop where
  sub : x.Sublist sel
  same : buildL l x = sel
  least : ∀ j, j < x.length → buildL l (x.eraseIdx j) ≠ sel
theorem trimL_facts {l : List En} {sel : List Md} (hG : RightG l sel) (hS : buildL l sel = sel) : TlFacts l sel (trimL l sel) := by
  obtain ⟨k, h1, h2⟩ := trimF_inv hG hS sel.length sel 0 ⟨List.Sublist.refl _, hS, fun j hj => absurd hj (Nat.not_lt_zero _)⟩ (by omega)
  exact ⟨h1.sub, h1.same, fun j hj => h1.least j (by unfold trimL at hj; omega) hj⟩
theorem TlFacts.under {l : List En} {sel x : List Md} (hG : RightG l sel) (hS : buildL l sel = sel) (h : TlFacts l sel x) {y : List Md} (hy : y.Sublist x) : underB (buildL l y) sel = true := by
  have hs := hy.trans h.sub
  have := build_under (hG.subl hs) hG (fun m hm => reached_subl hs hm)
  rw [hS] at this
  exact this
theorem TlFacts.underX {l : List En} {sel x : List Md} (hG : RightG l sel) (hS : buildL l sel = sel) (h : TlFacts l sel x) : underB x sel = true := by
  have hr : RiseP sel := by rw [← hS]; exact hG.great.rise
  exact under_sub (fun m hm => h.sub.subset hm) (great_self hr).under
end Go.Proofs.Pw

/- slices.Equal at modules. -/
namespace Go.Proofs.Pw
open Go.RowKit
open Go.Lib hiding intOf

set_option maxRecDepth 100000 in
theorem equalM_calls (v u : Value) (l m : List Md) (w : World) (h : ModsAt w v l) (g : ModsAt w u m) :
    Calls Tryz.prog 78 #[v, u] w fun e w' => e = .returned (.bool (decide (l = m))) ∧ Below w.heap.size w w' := by
  obtain ⟨a, n, cap, P, V, rfl, rfl, hn, hcap, hc⟩ := h
  obtain ⟨a', n', cap', Q, U, rfl, rfl, hn', hcap', hc'⟩ := g
  have hg := Tryz.md_guard
  have hq := md_neq
  by_cases hnn : n = n'
  · subst hnn
    replace hc := Lib.hid hc
    replace hc' := Lib.hid hc'
    go_enter Tryz.func78, Tryz.ntmps78
    go_wp2_with fail
    go_loopw [5, 13] (fun _ i wr => ∃ k : Nat, k ≤ n ∧ i = .int .i64 k ∧ Below w.heap.size w wr ∧ Hid (∀ j, j < k → P j = Q j ∧ V j = U j)) (fun _ i _ => n - (intOf i).toNat)
    case atStart => exact ⟨0, by omega, rfl, Below.refl _ _, Lib.hid (fun j hj => absurd hj (Nat.not_lt_zero _))⟩
    case round =>
      obtain ⟨k, hk, rfl, hb, HA⟩ := hrel
      by_cases hlt : k < n
      · obtain ⟨b1, o1, rfl, d1, d2⟩ := hc.out k hlt
        obtain ⟨b2, o2, rfl, d3, d4⟩ := hc'.out k hlt
        replace d1 := Below.cell_some hb d1
        replace d2 := Below.cell_some hb d2
        replace d3 := Below.cell_some hb d3
        replace d4 := Below.cell_some hb d4
        by_cases he : P k = Q k ∧ V k = U k
        · have HE := Lib.hid he
          have hd := decide_eq_true he
          clear he
          go_wp2_with fail
          go_region
          all_goals
            go_wp2_with fail
            go_roundw
            case rel =>
              refine ⟨k + 1, by omega, by go_num, hb.drew, Lib.hid (fun j hj => ?_)⟩
              by_cases e : j = k
              · subst e; exact HE.out
              · exact HA.out j (by omega)
            case measure => simp [intOf]; omega
        · have HF : Hid (decide (mdF n P V = mdF n Q U) = false) := Lib.hid (decide_eq_false (fun e => he (mdF_ext.1 e k hlt)))
          have hd := decide_eq_false he
          clear he
          go_wp2_with fail
          go_region
          all_goals
            go_wp2_with fail
            go_ret
            rw [HF.out]
            exact ⟨rfl, hb.drew⟩
      · obtain rfl : k = n := by omega
        have HF : Hid (decide (mdF k P V = mdF k Q U) = true) := Lib.hid (decide_eq_true (mdF_ext.2 HA.out))
        go_wp2_with fail
        go_ret
        rw [HF.out]
        exact ⟨rfl, hb⟩
  · have HF : Hid (decide (mdF n P V = mdF n' Q U) = false) := Lib.hid (decide_eq_false (fun e => hnn (by have := congrArg List.length e; rwa [mdF_length, mdF_length] at this)))
    have hnn2 : ((n : Int) == (n' : Int)) = false := beq_eq_false_iff_ne.2 (by omega)
    clear hc hc' hnn hg hq
    go_enter Tryz.func78, Tryz.ntmps78
    go_wp2_with fail
    go_ret
    rw [HF.out]
    exact ⟨rfl, Below.refl _ _⟩

end Go.Proofs.Pw

/- trim.Same, trim.Roots. Conditions: texts of at most 1000000 bytes, lists of at most 100000. -/
namespace Go.Proofs.Pw
open Go.RowKit
open Go.Lib hiding intOf

/-- what trim.Same answers -/
noncomputable def sameR (l : List En) (a b : List Md) : Bool := if (startErr l a).1 = 0 ∧ (startErr l b).1 = 0 then decide (buildL l a = buildL l b) else false
theorem trimSame_in (ks : List Nat) (A : Nat → Addr) (hks : IdxKs ks) (a : Option Addr) (n cap : Nat) (P V : Nat → ByteArray) (R : Nat → List Md) (K : Nat → List Str) (Bk : Nat → Bool) (Rv Kv : Nat → Value) (va vb : Value) (la lb : List Md) (w : World) (hE : EnvP ks A w) (h : EntsIn w a n cap P V R K Bk Rv Kv) (hs : ShortI (enF n P V R K Bk)) (ha : ModsAt w va la) (hb0 : ModsAt w vb lb) (hla : la.length ≤ 100000) (hlb : lb.length ≤ 100000) :
    Calls Tryz.prog 38 #[.slice a n cap, va, vb] w fun e w' => (∃ ev, e = .returned (.tuple #[.bool (sameR (enF n P V R K Bk) la lb), ev]) ∧ FaultAt A w' ev (orE (startErr (enF n P V R K Bk) la) (startErr (enF n P V R K Bk) lb))) ∧ Below w.heap.size w w' := by
  have h1 := fun W hb => mvsBuild_in ks A hks a n cap P V R K Bk Rv Kv va la W (hE.below hb) (h.below hb) hs (ha.below hb) hla
  have h2 := fun W hb => mvsBuild_in ks A hks a n cap P V R K Bk Rv Kv vb lb W (hE.below hb) (h.below hb) hs (hb0.below hb) hlb
  obtain ⟨a1, n1, c1, _, _, rfl, _⟩ := id ha
  obtain ⟨a2, n2, c2, _, _, rfl, _⟩ := id hb0
  have hB := Below.refl w.heap.size w
  have hS : sameR (enF n P V R K Bk) la lb = if (startErr (enF n P V R K Bk) la).1 = 0 ∧ (startErr (enF n P V R K Bk) lb).1 = 0 then decide (buildR (enF n P V R K Bk) la = buildR (enF n P V R K Bk) lb) else false := by
    unfold sameR buildR
    by_cases h3 : (startErr (enF n P V R K Bk) la).1 = 0 ∧ (startErr (enF n P V R K Bk) lb).1 = 0
    · rw [if_pos h3, if_pos h3, if_pos h3.1, if_pos h3.2]
    · rw [if_neg h3, if_neg h3]
  obtain ⟨Sv, hSv⟩ : ∃ Sv, sameR (enF n P V R K Bk) la lb = Sv := ⟨_, rfl⟩
  rw [hSv] at hS ⊢
  clear hSv
  generalize buildR (enF n P V R K Bk) la = X at *
  generalize buildR (enF n P V R K Bk) lb = Y at *
  generalize startErr (enF n P V R K Bk) la = r1 at *
  generalize startErr (enF n P V R K Bk) lb = r2 at *
  have HS := Lib.hid hS
  replace h1 := Lib.hid h1
  replace h2 := Lib.hid h2
  clear h hs ha hb0 hE hS
  go_enter Tryz.func38, Tryz.ntmps38
  go_wp2_with fail
  refine (h1.out _ hB).mono ?_
  rintro e w1 ⟨⟨x, ev, rfl, hf, hx⟩, hb⟩
  replace hB := below_step hB hb
  obtain ⟨ax, cx, rfl⟩ := mods_len hx
  clear hb
  rcases fault_form hf with ⟨h0, rfl⟩ | ⟨h0, ty, q, rfl⟩
  · have HX := Lib.hid hx
    have H0 := Lib.hid h0
    clear hf h0 hx
    go_wp2_with fail
    refine (h2.out _ hB).mono ?_
    rintro e w2 ⟨⟨y, ev2, rfl, hf2, hy⟩, hb⟩
    replace hB := below_step hB hb
    obtain ⟨ay, cy, rfl⟩ := mods_len hy
    have HOR : Hid (orE r1 r2 = r2) := Lib.hid (by unfold orE; rw [if_neg (by simp [H0.out])])
    rcases fault_form hf2 with ⟨h3, rfl⟩ | ⟨h3, ty, q, rfl⟩
    · have hq := equalM_calls _ _ _ _ w2 (HX.out.below hb) hy
      have HF := Lib.hid hf2
      have H3 := Lib.hid (And.intro H0.out h3)
      obtain ⟨D, hD⟩ : ∃ D, decide (X = Y) = D := ⟨_, rfl⟩
      rw [hD] at hq
      have HD := Lib.hid hD
      replace hq := Lib.hid hq
      clear hD
      clear hf2 h3 hy hb HX
      go_wp2_with fail
      refine hq.out.mono ?_
      rintro e w3 ⟨rfl, hb⟩
      go_wp2_with fail
      go_ret2
      rw [HOR.out, HS.out, if_pos H3.out, HD.out]
      exact ⟨⟨_, rfl, HF.out.below hb⟩, below_step hB hb⟩
    · have HF := Lib.hid hf2
      have H3 := Lib.hid h3
      clear hf2 h3 hy hb HX
      go_wp2_with fail
      go_ret2
      rw [HOR.out, HS.out, if_neg (fun h => H3.out h.2)]
      exact ⟨⟨_, rfl, HF.out⟩, hB⟩
  · have HF := Lib.hid hf
    have HOR : Hid (orE r1 r2 = r1) := Lib.hid (by unfold orE; rw [if_pos h0])
    have H0 := Lib.hid h0
    clear hf h0 hx
    go_wp2_with fail
    go_ret2
    rw [HOR.out, HS.out, if_neg (fun h => H0.out h.1)]
    exact ⟨⟨_, rfl, HF.out⟩, hB⟩

/-- the length that a slice says -/
def lenOf : Value → Nat
  | .slice _ n _ => n
  | _ => 0
theorem mdTs_erase (L : List (ByteArray × ByteArray)) (i : Nat) : mdTs (L.take i ++ L.drop (i + 1)) = (mdTs L).eraseIdx i := by
  rw [List.eraseIdx_eq_take_drop_succ]
  simp [mdTs, List.map_take, List.map_drop]

set_option maxHeartbeats 4000000 in
set_option maxRecDepth 100000 in
theorem trimRoots_in (ks : List Nat) (A : Nat → Addr) (hks : IdxKs ks) (a : Option Addr) (n cap : Nat) (P V : Nat → ByteArray) (R : Nat → List Md) (K : Nat → List Str) (Bk : Nat → Bool) (Rv Kv : Nat → Value) (va : Value) (sel : List Md) (w : World) (hE : EnvP ks A w) (h : EntsIn w a n cap P V R K Bk Rv Kv) (hs : ShortI (enF n P V R K Bk)) (ha : ModsAt w va sel) (hla : sel.length ≤ 100000) :
    Calls Tryz.prog 36 #[.slice a n cap, va] w fun e w' => (∃ x ev, e = .returned (.tuple #[x, ev]) ∧ FaultAt A w' ev (trimErr (enF n P V R K Bk) sel) ∧ ModsAt w' x (trimR (enF n P V R K Bk) sel)) ∧ Below w.heap.size w w' := by
  have hbu := fun W hb rv roots (hr : ModsAt W rv roots) hl => mvsBuild_in ks A hks a n cap P V R K Bk Rv Kv rv roots W (hE.below hb) (h.below hb) hs hr hl
  obtain ⟨a1, n1, c1, _, _, rfl, _⟩ := id ha
  have hB := Below.refl w.heap.size w
  have HA := Lib.hid ha
  have HE := Lib.hid hE
  generalize hl0 : enF n P V R K Bk = l at *
  have h1 := hbu w hB _ _ ha hla
  replace hbu := Lib.hid hbu
  replace h1 := Lib.hid h1
  clear h hs ha hE hl0
  go_enter Tryz.func36, Tryz.ntmps36
  go_wp2_with fail
  refine h1.out.mono ?_
  rintro e w1 ⟨⟨x, ev, rfl, hf, hx⟩, hb⟩
  replace hB := below_step hB hb
  obtain ⟨ax, nx, cx, _, _, rfl, _⟩ := id hx
  clear hb h1
  rcases fault_form hf with ⟨h0, rfl⟩ | ⟨h0, ty, q, rfl⟩
  · have hG := rightG_of h0
    have hX : buildR l sel = buildL l sel := by unfold buildR; rw [if_pos h0]
    rw [hX] at hx
    have hq := equalM_calls _ _ _ _ w1 hx (HA.out.below hB)
    by_cases he : buildL l sel = sel
    · rw [decide_eq_true he] at hq
      have hT1 : trimErr l sel = (0, -1) := by unfold trimErr; rw [if_neg (by simp [h0]), if_pos he]
      have hT2 : trimR l sel = trimL l sel := by unfold trimR; rw [if_pos ⟨h0, he⟩]
      have HTR := Lib.hid (And.intro hT1 hT2)
      have HT : Hid (trimL l sel = trimF l sel sel.length sel 0) := Lib.hid rfl
      have HG := Lib.hid hG
      have HH := Lib.hid (And.intro h0 he)
      replace hq := Lib.hid hq
      clear hf hx h0 hX he hG hT1 hT2
      go_wp2_with fail
      refine hq.out.mono ?_
      rintro e w2 ⟨rfl, hb⟩
      replace hB := below_step hB hb
      clear hq hb
      have hcl := cloneM_calls _ _ w2 (HA.out.below hB) (by omega)
      replace hcl := Lib.hid hcl
      go_wp2_with fail
      refine hcl.out.mono ?_
      rintro e w3 ⟨v3, L3, rfl, hL3, ho3, hb⟩
      replace hB := below_step hB hb
      have hM3 := modsAt_own ho3
      rw [← hL3] at hM3
      have HM3 := Lib.hid hM3
      have HL0 := Lib.hid hla
      clear hcl ho3 hb hM3
      go_wp2_with fail
      go_loopw [8, 9, 10, 11, 12] (fun o i _ _ _ wr => ∃ (k : Nat) (T : List Md), i = .int .i64 k ∧ k ≤ T.length ∧ Hid (ModsAt wr o T) ∧ Below w.heap.size w wr ∧ Hid (T.Sublist sel ∧ trimF l sel T.length T k = trimF l sel sel.length sel 0)) (fun o i _ _ _ _ => (lenOf o) - (intOf i).toNat)
      case atStart => exact ⟨0, sel, rfl, Nat.zero_le _, HM3, hB, Lib.hid ⟨List.Sublist.refl _, rfl⟩⟩
      case round =>
        clear hB HM3
        obtain ⟨k, T, rfl, hk, hM, hB, hI⟩ := hrel
        obtain ⟨ao, co, rfl⟩ := mods_len hM.out
        have hTl : T.length ≤ sel.length := hI.out.1.length_le
        have hla := HL0.out
        by_cases hlt : k < T.length
        · have hkn : (k : Int) < (T.length : Int) := by omega
          have hcl := cloneM_calls _ T wr hM.out (by omega)
          have hwk := wrap_nat (k + 1) (by omega)
          have hte : (T.eraseIdx k).length = T.length - 1 := List.length_eraseIdx_of_lt hlt
          have hsub : (T.eraseIdx k).Sublist sel := (List.eraseIdx_sublist T k).trans hI.out.1
          have hse : (startErr l (T.eraseIdx k)).1 = 0 := startErr_sub HH.out.1 (fun m hm => .root (hsub.subset hm))
          have hstep : trimF l sel T.length T k = if buildL l (T.eraseIdx k) = sel then trimF l sel (T.eraseIdx k).length (T.eraseIdx k) k else trimF l sel T.length T (k + 1) := by
            obtain ⟨m, hm⟩ : ∃ m, T.length = m + 1 := ⟨T.length - 1, by omega⟩
            have h1 : trimF l sel (m + 1) T k = if k < T.length then (if buildL l (T.eraseIdx k) = sel then trimF l sel m (T.eraseIdx k) k else trimF l sel m T (k + 1)) else T := rfl
            rw [hm, h1, if_pos hlt, hte, hm, Nat.add_sub_cancel]
            split
            · rfl
            · exact trimF_fuel _ _ _ _ (by omega) (by omega)
          have HST := Lib.hid (And.intro hstep (And.intro hte (And.intro hsub hse)))
          replace hcl := Lib.hid hcl
          clear hte hsub hse hstep
          go_wp2_with fail
          refine hcl.out.mono ?_
          rintro e w4 ⟨v4, L4, rfl, hL4, ho4, hb4⟩
          have hl4 : L4.length = T.length := by rw [hL4, mdTs_length]
          have hdl := deleteM_calls wr.heap.size v4 L4 k w4 ho4 (by omega) (by omega)
          rw [show (((k + 1 : Nat)) : Int) = (k : Int) + 1 from by omega] at hdl
          obtain ⟨a4, m4, c4, rfl⟩ := own_form ho4
          have hB4 := below_step hB hb4
          have HL4 := Lib.hid hL4
          have hsz4 := hB.size
          have hW4 := hb4
          replace hdl := Lib.hid hdl
          clear hl4 hL4 ho4 hcl hb4
          go_wp2_with fail
          refine hdl.out.mono ?_
          rintro e w5 ⟨v5, rfl, ho5, hb5, -⟩
          have hM5 := modsAt_own ho5
          rw [mdTs_erase, ← HL4.out] at hM5
          have hB5 := hB4.trans (hb5.mono hsz4)
          have hW5 := hW4.trans hb5
          have hb := hbu.out w5 hB5 v5 _ hM5 (by rw [HST.out.2.1]; omega)
          have hbR : buildR l (T.eraseIdx k) = buildL l (T.eraseIdx k) := by unfold buildR; rw [if_pos HST.out.2.2.2]
          rw [hbR] at hb
          obtain ⟨a5, c5, rfl⟩ := mods_len hM5
          have HM5 := Lib.hid hM5
          replace hb := Lib.hid hb
          clear hdl ho5 hM5 hb5 hbR hB4
          go_wp2_with fail
          refine hb.out.mono ?_
          rintro e w6 ⟨⟨x6, ev6, rfl, hf6, hx6⟩, hb6⟩
          obtain rfl : ev6 = .nilIface := by
            rcases fault_form hf6 with ⟨_, h⟩ | ⟨h, _⟩
            · exact h
            · exact absurd HST.out.2.2.2 h
          have hB6 := below_step hB5 hb6
          have hq6 := equalM_calls _ _ _ _ w6 hx6 (HA.out.below hB6)
          obtain ⟨a6, m6, c6, _, _, rfl, _⟩ := id hx6
          have HM6 := Lib.hid (HM5.out.below hb6)
          have HMT := Lib.hid (hM.out.below (below_step hW5 hb6))
          by_cases hbe : buildL l (T.eraseIdx k) = sel
          · rw [decide_eq_true hbe] at hq6
            have HBE := Lib.hid hbe
            replace hq6 := Lib.hid hq6
            clear hf6 hx6 hb hb6 hB5 hbe
            go_wp2_with fail
            refine hq6.out.mono ?_
            rintro e w7 ⟨rfl, hb7⟩
            go_wp2_with fail
            go_roundw
            case rel =>
              refine ⟨k, T.eraseIdx k, rfl, by rw [HST.out.2.1]; omega, Lib.hid (HM6.out.below hb7), below_step hB6 hb7, Lib.hid ⟨HST.out.2.2.1, ?_⟩⟩
              rw [← hI.out.2, HST.out.1, if_pos HBE.out]
            case measure => simp only [lenOf, intOf]; have := HST.out.2.1; omega
          · rw [decide_eq_false hbe] at hq6
            have HBE := Lib.hid hbe
            replace hq6 := Lib.hid hq6
            clear hf6 hx6 hb hb6 hB5 hbe
            go_wp2_with fail
            refine hq6.out.mono ?_
            rintro e w7 ⟨rfl, hb7⟩
            go_wp2_with fail
            go_roundw
            case rel =>
              refine ⟨k + 1, T, by go_num, hlt, Lib.hid (HMT.out.below hb7), below_step hB6 hb7, Lib.hid ⟨hI.out.1, ?_⟩⟩
              rw [← hI.out.2, HST.out.1, if_neg HBE.out]
            case measure => simp only [lenOf, intOf]; omega
        · obtain rfl : k = T.length := by omega
          have hF : T = trimL l sel := by
            rw [HT.out, ← hI.out.2, trimF_done hlt]
          have HF := Lib.hid hF
          clear hF hlt
          go_wp2_with fail
          go_ret2
          rw [HTR.out.1, HTR.out.2, ← HF.out]
          exact ⟨⟨_, _, rfl, .inl ⟨rfl, rfl, rfl⟩, hM.out⟩, hB⟩
    · rw [decide_eq_false he] at hq
      have hT1 : trimErr l sel = (3, -1) := by unfold trimErr; rw [if_neg (by simp [h0]), if_neg he]
      have hT2 : trimR l sel = [] := by unfold trimR; rw [if_neg (fun h => he h.2)]
      have HTR := Lib.hid (And.intro hT1 hT2)
      replace hq := Lib.hid hq
      clear hf hx h0 hX he hG hT1 hT2
      go_wp2_with fail
      refine hq.out.mono ?_
      rintro e w2 ⟨rfl, hb⟩
      replace hB := below_step hB hb
      have g3 := (HE.out.below hB).errs.var 3 hks.1
      simp only [errG] at g3
      clear hq hb
      go_wp2_with fail
      go_region
      all_goals
        go_wp2_with fail
        go_ret2
        rw [HTR.out.1, HTR.out.2]
        refine ⟨⟨_, _, rfl, .inr (.inl ⟨by decide, rfl, ?_⟩), ModsAt.nil _⟩, hB.drew⟩
        show _ = errV A 3
        rw [errV_pos A (show (3 : Nat) ≠ 0 by decide)]
        rfl
  · have HF := Lib.hid hf
    have hT1 : trimErr l sel = startErr l sel := by unfold trimErr; rw [if_pos h0]
    have hT2 : trimR l sel = [] := by unfold trimR; rw [if_neg (fun h => h0 h.1)]
    have HTR := Lib.hid (And.intro hT1 hT2)
    clear hf h0 hx hT1 hT2
    go_wp2_with fail
    go_ret2
    rw [HTR.out.1, HTR.out.2]
    exact ⟨⟨_, _, rfl, HF.out, ModsAt.nil _⟩, hB⟩
end Go.Proofs.Pw

/- trimmed of the statements: a closed fact. -/
namespace Go.Proofs.Pw
open Go.RowKit
open Go.Lib hiding intOf

theorem smX_err : startErr smL smX = (0, -1) := by decide +kernel
theorem smX_right : RightG smL smX := rightG_of (by rw [smX_err])
theorem sm_build2 : buildL smL smRoots2 = smX := by
  have := sm_build
  unfold buildR at this
  rw [if_pos (by rw [sm_err2])] at this
  exact this
theorem smX_build : buildL smL smX = smX := by
  have := build_again sm_right2
  rw [sm_build2] at this
  exact this
theorem smA_build : buildL smL smRoots = smX := by
  have h : reachL smL smRoots = smX := by
    have := sm_reach
    unfold reachR at this
    rw [if_pos (by rw [sm_err])] at this
    exact this
  unfold buildL
  rw [h]
  decide +kernel
theorem smB_build : buildL smL (smX.eraseIdx 0) ≠ smX := by
  intro h
  have hG : RightG smL (smX.eraseIdx 0) := smX_right.subl (List.eraseIdx_sublist _ _)
  have h1 : (sA.data.toList, v110.data.toList) ∈ buildL smL (smX.eraseIdx 0) := by rw [h]; decide +kernel
  have h2 := build_reached hG h1
  have h3 := reached_closed (T := [(sB.data.toList, v010.data.toList)]) (by decide +kernel) (by decide +kernel) h2
  exact absurd h3 (by decide +kernel)
theorem smX_trim : trimErr smL smX = (0, -1) ∧ trimR smL smX = smRoots := by
  refine ⟨?_, ?_⟩
  · unfold trimErr
    rw [if_neg (by rw [smX_err]; decide), if_pos smX_build]
  · unfold trimR
    rw [if_pos ⟨by rw [smX_err], smX_build⟩]
    show trimF smL smX (0 + 1 + 1) smX 0 = smRoots
    rw [trimF, if_pos (by decide), if_neg smB_build, trimF, if_pos (by decide)]
    have e : smX.eraseIdx (0 + 1) = smRoots := by decide +kernel
    rw [e, if_pos smA_build]
    rfl

set_option maxHeartbeats 2000000 in
set_option maxRecDepth 100000 in
theorem trimmed_calls (ks : List Nat) (A : Nat → Addr) (hks : IdxKs ks) (w : World) (hE : EnvP ks A w) :
    Calls Tryz.prog 35 #[] w fun e w' => e = .returned (.bool true) ∧ Below w.heap.size w w' := by
  have hsm := small_calls w
  have hB := smW_below w
  have hb := below_alloc (smW w) (.cells #[.string sA, .string v110, .string sB, .string v010] 38)
  have hB2 := below_step hB hb
  have hmods : ModsAt ((smW w).alloc (.cells #[.string sA, .string v110, .string sB, .string v010] 38)) (.slice (some ⟨(smW w).heap.size, 0, none⟩) 2 2) smX := by
    refine ⟨_, 2, 2, fun j => if j = 0 then sA else sB, fun j => if j = 0 then v110 else v010, rfl, rfl, Nat.le_refl _, by decide, fun i hi => ?_⟩
    have hc : ∀ (c : Nat) (u : Value), ([.string sA, .string v110, .string sB, .string v010] : List Value)[c]? = some u → ((smW w).alloc (.cells #[.string sA, .string v110, .string sB, .string v010] 38)).cell? ⟨(smW w).heap.size, c, none⟩ = some u := fun c u h => new_cell _ _ _ rfl h
    match i, hi with
    | 0, _ => exact ⟨_, 0, rfl, hc _ _ rfl, hc _ _ rfl⟩
    | 1, _ => exact ⟨_, 0, rfl, hc _ _ rfl, hc _ _ rfl⟩
  have hre := trimRoots_in ks A hks (some ⟨w.heap.size + 1, 0, none⟩) 3 3 smP smV smR smK smB (smRv w.heap.size) (fun _ => .slice none 0 0) (.slice (some ⟨(smW w).heap.size, 0, none⟩) 2 2) smX ((smW w).alloc (.cells #[.string sA, .string v110, .string sB, .string v010] 38)) (hE.below hB2) ((smW_in w).below hb) sm_short hmods (by decide)
  rw [show enF 3 smP smV smR smK smB = smL from rfl, smX_trim.1, smX_trim.2] at hre
  generalize smW w = w1 at *
  unfold sA v110 sB v010 at hre hB2
  replace hsm := Lib.hid hsm
  replace hre := Lib.hid hre
  clear hB hb hmods hE
  go_enter Tryz.func35, Tryz.ntmps35
  go_wp2_with fail
  refine hsm.out.mono ?_
  rintro e w' ⟨rfl, rfl⟩
  go_wp2_with fail
  refine hre.out.mono ?_
  rintro e w3 ⟨⟨x, ev, rfl, hf, hx⟩, hb3⟩
  have hev : ev = .nilIface := by
    rcases hf with ⟨_, _, h⟩ | ⟨h, _⟩ | ⟨h, _⟩
    · exact h
    · exact absurd rfl h
    · exact absurd rfl h
  subst hev
  obtain ⟨b0, o0, c0, e0, _, d0, _⟩ := hx.cell (k := 0) (p := sA) (q := v110) rfl
  subst e0
  have hB3 := below_step hB2 hb3
  unfold sA at d0
  simp only [Nat.zero_mul, Nat.add_zero, show smRoots.length = 1 from rfl] at d0 ⊢
  clear hf hx hre hsm hB2 hb3
  go_wp2_with fail
  go_ret
  exact ⟨rfl, hB3⟩
end Go.Proofs.Pw
