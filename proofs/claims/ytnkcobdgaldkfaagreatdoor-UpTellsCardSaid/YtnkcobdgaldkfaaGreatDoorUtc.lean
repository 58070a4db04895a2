/- Ut: walks and plain laws, joined: IdxFind IdxReqs IdxEnt IdxCheck Own GrMath GrStart MapMd GrCome GrWalkMath GrWalk. Conditions: at each theorem. -/
import Derived.Test.YtnkcobdgaldkfaaGreatDoorUtb
import Derived.Deep.AppendLies
import Derived.Deep.RegionLaw
import Derived.Test.YtnkcobdgaldkfaaGreatDoorUta
import Derived.MapKept
import Derived.Carry
import Derived.DeepKeys3
import Derived.Laws.Entries
import Derived.Deep.RegionWith

namespace Go.Proofs.Pw
open Go.RowKit
open Go.Lib hiding intOf
theorem EntsIn.forms {w : World} {a n cap P V R K B Rv Kv} (h : EntsIn w a n cap P V R K B Rv Kv) {j : Nat} (hj : j < n) : ∃ a1 n1 c1 a2 n2 c2, Rv j = .slice a1 n1 c1 ∧ Kv j = .slice a2 n2 c2 := by
  obtain ⟨a1, n1, c1, _, _, e1, _⟩ := h.reqs j hj
  obtain ⟨a2, n2, c2, _, e2, _⟩ := h.packs j hj
  exact ⟨_, _, _, _, _, _, e1, e2⟩
def TestsE (g : Nat) (lb : Array Value) (p : Nat → Bool) (n : Nat) (P V : Nat → ByteArray) (Rv Kv : Nat → Value) (B : Nat → Bool) (base : Nat) (w : World) : Prop :=
  ∀ W, Below base w W → ∀ j, j < n → Calls Tryz.prog g (#[.agg #[.string (P j), .string (V j), Rv j, Kv j, .bool (B j)]] ++ lb) W fun e w'' => e = .returned (.bool (p j)) ∧ Below W.heap.size W w''
set_option maxHeartbeats 1000000 in
set_option maxRecDepth 100000 in
theorem indexFuncE_calls (g : Nat) (lb : Array Value) (eg : ∀ args w, (callFunc g args).run Tryz.prog w = .ok (.enter g args) w) (p : Nat → Bool) (q : En → Bool) (a : Option Addr) (n cap base : Nat) (P V : Nat → ByteArray) (R : Nat → List Md) (K : Nat → List Str) (B : Nat → Bool) (Rv Kv : Nat → Value) (w : World) (hn : n ≤ 1000000) (hbase : base ≤ w.heap.size)
    (hc : EntsIn w a n cap P V R K B Rv Kv) (hq : ∀ j, j < n → q (enAt (enF n P V R K B) j) = p j) (hT : TestsE g lb p n P V Rv Kv B base w) :
    Calls Tryz.prog 110 #[.slice a n cap, .func (.func g) #[] lb] w fun e w' => e = .returned (.int .i64 (findI q (enF n P V R K B))) ∧ Below w.heap.size w w' := by
  replace hc := Lib.hid hc
  replace hT := Lib.hid hT
  replace hq := Lib.hid hq
  go_enter Tryz.func110, Tryz.ntmps110
  go_wp2_with fail
  go_loopw [8] (fun i wr => ∃ k : Nat, k ≤ n ∧ i = .int .i64 k ∧ Below w.heap.size w wr ∧ Hid (∀ j, j < k → p j = false)) (fun i _ => n - (intOf i).toNat)
  case atStart => exact ⟨0, by omega, rfl, Below.refl _ _, Lib.hid (fun j hj => absurd hj (Nat.not_lt_zero _))⟩
  case round =>
    obtain ⟨k, hk, rfl, hb, HA⟩ := hrel
    by_cases hlt : k < n
    · obtain ⟨b1, o1, rfl, hcell⟩ := hc.out.at_ k hlt
      obtain ⟨c0, c1, c2, c3, c4⟩ := hcell.below hb
      have hcall := hT.out wr (hb.mono hbase) k hlt
      have hget := enF_get n P V R K B k hlt
      obtain ⟨a1, n1, s1, a2, n2, s2, e1, e2⟩ := hc.out.forms hlt
      rw [e1] at c2
      rw [e2] at c3
      rw [e1, e2] at hcall
      clear hcell
      cases hp : p k with
      | true =>
        have HR : Hid (findI q (enF n P V R K B) = k) := Lib.hid (findI_hit hget (by have := hq.out k hlt; rw [enAt_enF hlt] at this; rw [this, hp]) (fun j y hj hy => by
          rw [enF_get n P V R K B j (by omega)] at hy
          have h1 := hq.out j (by omega)
          rw [enAt_enF (by omega)] at h1
          cases hy
          rw [h1]; exact HA.out j hj))
        rw [hp] at hcall
        clear hp hget e1 e2
        go_wp2_with (go_at_fn g; refine hcall.mono ?_; rintro e w' ⟨rfl, hb2⟩)
        go_ret
        rw [HR.out]
        exact ⟨rfl, below_step hb hb2⟩
      | false =>
        have HN : Hid (∀ j, j < k + 1 → p j = false) := Lib.hid (fun j hj => by
          by_cases e : j = k
          · subst e; exact hp
          · exact HA.out j (by omega))
        rw [hp] at hcall
        clear hp hget e1 e2
        go_wp2_with (go_at_fn g; refine hcall.mono ?_; rintro e w' ⟨rfl, hb2⟩)
        go_roundw
        case rel => exact ⟨k + 1, by omega, by go_num, below_step hb hb2, HN⟩
        case measure => simp [intOf]; omega
    · obtain rfl : k = n := by omega
      have HR : Hid (findI q (enF k P V R K B) = -1) := Lib.hid (findI_none (fun j y hy => by
        have hj : j < k := by have := (List.getElem?_eq_some_iff.1 hy).1; rwa [enF_length] at this
        have h1 := hq.out j hj
        rw [enAt_enF hj] at h1
        rw [enF_get k P V R K B j hj] at hy
        cases hy
        rw [h1]; exact HA.out j hj))
      go_wp2_with fail
      go_ret
      rw [HR.out]
      exact ⟨rfl, hb⟩
theorem Tryz.enters_ifind1 : ∀ args w, (callFunc 111 args).run Tryz.prog w = .ok (.enter 111 args) w := Go.Proofs.enters_of Tryz.func111 (by kernel_rfl) rfl
theorem idxFind1_calls (p v s u : ByteArray) (a1 a2 : Option Addr) (n1 c1 n2 c2 : Nat) (bk : Bool) (b : Nat) (w : World) (h0 : w.cell? ⟨b, 0, none⟩ = some (.string s)) (h1 : w.cell? ⟨b, 1, none⟩ = some (.string u)) :
    Calls Tryz.prog 111 #[.agg #[.string p, .string v, .slice a1 n1 c1, .slice a2 n2 c2, .bool bk], .pointer (some ⟨b, 0, none⟩)] w fun e w' => e = .returned (.bool (decide (p = s ∧ v = u))) ∧ Below w.heap.size w w' := by
  have hb := below_alloc w (.cells #[.string p, .string v, .slice a1 n1 c1, .slice a2 n2 c2, .bool bk] 43)
  have d0 := Below.cell_some hb h0
  have d1 := Below.cell_some hb h1
  have hg := Tryz.md_guard
  have hq := md_eql p v s u
  generalize decide (p = s ∧ v = u) = X at hq ⊢
  go_enter Tryz.func111, Tryz.ntmps111
  go_wp2_with fail
  go_ret
  exact ⟨rfl, hb⟩
theorem idxFind_in (a : Option Addr) (n cap : Nat) (P V : Nat → ByteArray) (R : Nat → List Md) (K : Nat → List Str) (B : Nat → Bool) (Rv Kv : Nat → Value) (p v : ByteArray) (w : World) (h : EntsIn w a n cap P V R K B Rv Kv) (hl : n ≤ 1000000) :
    Calls Tryz.prog 62 #[.slice a n cap, .agg #[.string p, .string v]] w fun e w' => e = .returned (.int .i64 (findE (enF n P V R K B) (p.data.toList, v.data.toList))) ∧ Below w.heap.size w w' := by
  have hb := below_alloc w (.cells #[.string p, .string v] 38)
  have hz := box2_alloc w (.string p) (.string v) 38
  have hi := indexFuncE_calls 111 #[.pointer (some ⟨w.heap.size, 0, none⟩)] Tryz.enters_ifind1 (fun j => decide (P j = p ∧ V j = v)) (isMd (p.data.toList, v.data.toList)) a n cap (w.alloc (.cells #[.string p, .string v] 38)).heap.size P V R K B Rv Kv (w.alloc (.cells #[.string p, .string v] 38)) hl (Nat.le_refl _) (h.below hb)
    (fun j hj => by
      rw [enAt_enF hj]
      unfold isMd
      rw [Bool.eq_iff_iff, decide_eq_true_iff, decide_eq_true_iff]
      exact bytes_pair)
    (fun W hW j hj => by
      obtain ⟨a1, n1, s1, a2, n2, s2, e1, e2⟩ := h.forms hj
      rw [e1, e2]
      exact idxFind1_calls (P j) (V j) p v a1 a2 n1 s1 n2 s2 (B j) w.heap.size W (Below.cell_some hW hz.c0) (Below.cell_some hW hz.c1))
  show Calls _ _ _ _ fun e w' => e = .returned (.int .i64 (findI (isMd (p.data.toList, v.data.toList)) (enF n P V R K B))) ∧ Below w.heap.size w w'
  generalize findI (isMd (p.data.toList, v.data.toList)) (enF n P V R K B) = x at hi ⊢
  replace hi := Lib.hid hi
  clear hz h
  go_enter Tryz.func62, Tryz.ntmps62
  go_wp2_with fail
  refine hi.out.mono ?_
  rintro e w1 ⟨rfl, hb1⟩
  go_wp2_with fail
  go_ret
  exact ⟨rfl, below_step hb hb1⟩
end Go.Proofs.Pw

namespace Go.Proofs.Pw
open Go.RowKit
open Go.Lib hiding intOf
def reqsE (p : Str) (R : List Md) : Nat := if 20 < R.length then 7 else (firstE (reqE p R) R.length).1
def packsE (K : List Str) : Nat := if 10 < K.length then 7 else if K.all packOk then (firstE (packE K) K.length).1 else 1
def IdxKs (ks : List Nat) : Prop := 3 ∈ ks ∧ 4 ∈ ks ∧ 5 ∈ ks ∧ 7 ∈ ks ∧ 8 ∈ ks
set_option maxHeartbeats 4000000 in
set_option maxRecDepth 100000 in
theorem idxReqs_calls (ks : List Nat) (A : Nat → Addr) (hks : IdxKs ks) (p v : ByteArray) (rv : Value) (a2 : Option Addr) (n2 s2 : Nat) (bk : Bool) (R : List Md) (w : World) (hE : EnvP ks A w) (hr : ModsAt w rv R) (hs : Short R) :
    Calls Tryz.prog 157 #[.agg #[.string p, .string v, rv, .slice a2 n2 s2, .bool bk]] w fun e w' => e = .returned (errV A (reqsE p.data.toList R)) ∧ Below w.heap.size w w' := by
  obtain ⟨a, n, cap, P, V, rfl, rfl, hnc, hcap, hc⟩ := hr
  have hP : Hid (∀ j, j < n → (P j).size ≤ 1000000 ∧ (V j).size ≤ 1000000) := Lib.hid (fun j hj => by
    have := hs.2 _ (List.mem_of_getElem? (mdF_get n P V j hj))
    rw [size_eq, size_eq]; exact this)
  have hn : n ≤ 1000000 := by have := hs.1; rw [mdF_length] at this; exact this
  have hB := below_alloc w (.cells #[.string p, .string v, .slice a n cap, .slice a2 n2 s2, .bool bk] 43)
  have z0 : (w.alloc (.cells #[.string p, .string v, .slice a n cap, .slice a2 n2 s2, .bool bk] 43)).cell? ⟨w.heap.size, 0, none⟩ = some (.string p) := by simp
  have z1 : (w.alloc (.cells #[.string p, .string v, .slice a n cap, .slice a2 n2 s2, .bool bk] 43)).cell? ⟨w.heap.size, 2, none⟩ = some (.slice a n cap) := by simp
  replace hc : ∀ j, j < n → ∃ b o, a = some ⟨b, o, none⟩ ∧ (w.alloc (.cells #[.string p, .string v, .slice a n cap, .slice a2 n2 s2, .bool bk] 43)).cell? ⟨b, o + j * 2, none⟩ = some (.string (P j)) ∧ (w.alloc (.cells #[.string p, .string v, .slice a n cap, .slice a2 n2 s2, .bool bk] 43)).cell? ⟨b, o + j * 2 + 1, none⟩ = some (.string (V j)) := fun j hj =>
    let ⟨b, o, e, h1, h2⟩ := hc j hj; ⟨b, o, e, Below.cell_some hB h1, Below.cell_some hB h2⟩
  replace hE := hE.below hB
  replace hc := Lib.hid hc
  clear hs
  by_cases h20 : 20 < n
  · have h20' : (20 : Int) < (n : Int) := by omega
    have HF : Hid (reqsE p.data.toList (mdF n P V) = 7) := Lib.hid (by unfold reqsE; rw [if_pos (by rw [mdF_length]; exact h20)])
    have g7 := hE.errs.var 7 hks.2.2.2.1
    simp only [errG] at g7
    go_enter Tryz.func157, Tryz.ntmps157
    go_wp2_with fail
    go_ret
    rw [HF.out]
    exact ⟨rfl, hB⟩
  · have h20' : ¬ (20 : Int) < (n : Int) := by omega
    go_enter Tryz.func157, Tryz.ntmps157
    go_wp2_with fail
    generalize hw1 : w.alloc (.cells #[.string p, .string v, .slice a n cap, .slice a2 n2 s2, .bool bk] 43) = w1 at *
    clear hw1
    go_loopw [14] (fun i wr => ∃ k : Nat, k ≤ n ∧ i = .int .i64 k ∧ Below w1.heap.size w1 wr ∧ Hid (∀ j, j < k → reqE p.data.toList (mdF n P V) j = 0)) (fun i _ => n - (intOf i).toNat)
    case atStart => exact ⟨0, Nat.zero_le _, rfl, Below.refl _ _, Lib.hid (fun j hj => absurd hj (Nat.not_lt_zero _))⟩
    case round =>
      obtain ⟨k, hk, rfl, hb, HA⟩ := hrel
      by_cases hlt : k < n
      · have hkn0 : (k : Int) < (n : Int) := by omega
        obtain ⟨b1, o1, rfl, c1, c2⟩ := hc.out k hlt
        have hba := below_alloc wr (.cells #[.string (P k), .string (V k)] 38)
        have hBr := below_step (below_step hB hb) hba
        have hB1 := below_step hb hba
        have hE2 := (hE.below hb).below hba
        have d0 := Below.cell_some hB1 z0
        have d1 := Below.cell_some hB1 z1
        obtain ⟨y0, y1, _⟩ := box2_alloc wr (.string (P k)) (.string (V k)) 38
        replace c1 := Below.cell_some hb c1
        replace c2 := Below.cell_some hb c2
        have hck := fun W hW => modCheck_calls ks A hks.2.1 (P k) (V k) W hW (by have := (hP.out k hlt).1; omega) (by have := (hP.out k hlt).2; omega)
        have hR : reqE p.data.toList (mdF n P V) k = if modErr (P k).data.toList (V k).data.toList ≠ 0 then modErr (P k).data.toList (V k).data.toList else if (P k).data.toList = p.data.toList then 3 else if 0 < k ∧ compareBytes (P k).data.toList (mdAt (mdF n P V) (k - 1)).1 ≤ 0 then 8 else 0 := by
          unfold reqE
          rw [mdAt_mdF hlt]; rfl
        by_cases h0 : modErr (P k).data.toList (V k).data.toList = 0
        · rw [if_neg (by simp [h0])] at hR
          rw [h0, errV_zero] at hck
          by_cases hp : (P k).data.toList = p.data.toList
          · rw [if_pos hp] at hR
            have hpb := bytes_eq.1 hp
            have HF : Hid (reqsE p.data.toList (mdF n P V) = 3) := Lib.hid (by
              unfold reqsE
              rw [if_neg (by rw [mdF_length]; exact h20), mdF_length, firstE_hit (by rw [hR]; decide) HA.out hlt, hR])
            replace hck := Lib.hid hck
            have hp1 : ((P k).toList == p.toList) = true := by rw [hpb]; simp
            clear hpb h0 hp hR z0 z1 hb hba
            go_wp2_with fail
            refine (hck.out _ hE2).mono ?_
            rintro e w2 ⟨rfl, hb⟩
            have hB := below_step hBr hb
            replace hE2 := hE2.below hb
            replace d0 := Below.cell_some hb d0
            replace y0 := Below.cell_some hb y0
            have g3 := hE2.errs.var 3 hks.1
            simp only [errG] at g3
            go_wp2_with fail
            go_ret
            rw [HF.out]
            exact ⟨rfl, hB⟩
          · rw [if_neg hp] at hR
            have hp1 : ((P k).toList == p.toList) = false := by rw [toList_data, toList_data]; exact beq_eq_false_iff_ne.2 hp
            have hp2 : (P k).toList ≠ p.toList := by rw [toList_data, toList_data]; exact hp
            have hp3 : P k ≠ p := fun e => hp (by rw [e])
            by_cases hi0 : k = 0
            · subst hi0
              rw [if_neg (by omega)] at hR
              have HN : Hid (∀ j, j < 0 + 1 → reqE p.data.toList (mdF n P V) j = 0) := Lib.hid (fun j hj => by
                obtain rfl : j = 0 := by omega
                exact hR)
              replace hck := Lib.hid hck
              simp only [Nat.zero_mul, Nat.add_zero] at c1 c2
              clear h0 hp hR z0 z1 hb hba
              go_wp2_with fail
              refine (hck.out _ hE2).mono ?_
              rintro e w2 ⟨rfl, hb⟩
              replace hB1 := below_step hB1 hb
              replace d0 := Below.cell_some hb d0
              replace d1 := Below.cell_some hb d1
              replace y0 := Below.cell_some hb y0
              clear hb
              go_wp2_with fail
              have kqy0 := fun d os => cell_patch (d := d) (os := os) y0
              have kqd1 := fun d os => cell_patch (d := d) (os := os) d1
              refine wp_region_quiet_patch (by kernel_rfl) (by kernel_rfl) ?_
              repeat (go_big_quiet_step (fail))
              refine wpQuiet_nil ?_
              intro _ hw'
              obtain ⟨⟨dq, osq⟩, hw''⟩ := hw'
              subst hw''
              clear kqy0 kqd1
              have hb := below_patch w2 dq osq
              replace hB1 := below_step hB1 hb
              clear hb
              generalize patch w2 dq osq = w3 at hB1 ⊢
              clear y0 d0 d1
              go_wp2_with fail
              go_roundw
              case rel => exact ⟨1, by omega, by go_num, hB1, HN⟩
              case measure => simp [intOf]; omega
            · obtain ⟨m, rfl⟩ : ∃ m, k = m + 1 := ⟨k - 1, by omega⟩
              rw [Nat.add_sub_cancel, mdAt_mdF (show m < n by omega)] at hR
              have hle := leq_eq (P (m + 1)) (P m)
              have hk0 : (0 : Int) < ((m + 1 : Nat) : Int) := by omega
              have hk1 : ((m + 1 : Nat) : Int) - 1 = (m : Int) := by omega
              have hkw := wrap_nat m (by omega)
              have hkn : m < n := by omega
              have hkn2 : (m : Int) < (n : Int) := by omega
              obtain ⟨b2, o2, e1, c3, _⟩ := hc.out m (by omega)
              injection e1 with e1
              injection e1 with e1 e2
              subst e1 e2
              have d3 := Below.cell_some hB1 c3
              clear c3
              by_cases hc0 : compareBytes (P (m + 1)).data.toList (P m).data.toList ≤ 0
              · rw [if_pos ⟨Nat.succ_pos m, hc0⟩] at hR
                rw [decide_eq_true hc0] at hle
                have HF : Hid (reqsE p.data.toList (mdF n P V) = 8) := Lib.hid (by
                  unfold reqsE
                  rw [if_neg (by rw [mdF_length]; exact h20), mdF_length, firstE_hit (by rw [hR]; decide) HA.out hlt, hR])
                replace hck := Lib.hid hck
                clear h0 hp hR z0 z1 hb hba hc0
                go_wp2_with fail
                refine (hck.out _ hE2).mono ?_
                rintro e w2 ⟨rfl, hb⟩
                replace hBr := below_step hBr hb
                replace hE2 := hE2.below hb
                replace d0 := Below.cell_some hb d0
                replace d1 := Below.cell_some hb d1
                replace d3 := Below.cell_some hb d3
                replace y0 := Below.cell_some hb y0
                clear hb
                go_wp2_with fail
                have kqy0 := fun d os => cell_patch (d := d) (os := os) y0
                have kqd1 := fun d os => cell_patch (d := d) (os := os) d1
                have kqd3 := fun d os => cell_patch (d := d) (os := os) d3
                refine wp_region_quiet_patch (by kernel_rfl) (by kernel_rfl) ?_
                repeat (go_big_quiet_step (fail))
                refine wpQuiet_nil ?_
                intro _ hw'
                obtain ⟨⟨dq, osq⟩, hw''⟩ := hw'
                subst hw''
                clear kqy0 kqd1 kqd3
                have hb := below_patch w2 dq osq
                replace hBr := below_step hBr hb
                replace hE2 := hE2.below hb
                clear hb
                generalize patch w2 dq osq = w3 at hBr hE2 ⊢
                clear y0 d1 d3 d0
                have g8 := hE2.errs.var 8 hks.2.2.2.2
                simp only [errG] at g8
                go_wp2_with fail
                go_ret
                rw [HF.out]
                exact ⟨rfl, hBr⟩
              · rw [if_neg (fun h => hc0 h.2)] at hR
                rw [decide_eq_false hc0] at hle
                have HN : Hid (∀ j, j < m + 1 + 1 → reqE p.data.toList (mdF n P V) j = 0) := Lib.hid (fun j hj => by
                  by_cases e : j = m + 1
                  · subst e; exact hR
                  · exact HA.out j (by omega))
                replace hck := Lib.hid hck
                clear h0 hp hR z0 z1 hb hba hc0
                go_wp2_with fail
                refine (hck.out _ hE2).mono ?_
                rintro e w2 ⟨rfl, hb⟩
                replace hB1 := below_step hB1 hb
                replace d0 := Below.cell_some hb d0
                replace d1 := Below.cell_some hb d1
                replace d3 := Below.cell_some hb d3
                replace y0 := Below.cell_some hb y0
                clear hb
                go_wp2_with fail
                have kqy0 := fun d os => cell_patch (d := d) (os := os) y0
                have kqd1 := fun d os => cell_patch (d := d) (os := os) d1
                have kqd3 := fun d os => cell_patch (d := d) (os := os) d3
                refine wp_region_quiet_patch (by kernel_rfl) (by kernel_rfl) ?_
                repeat (go_big_quiet_step (fail))
                refine wpQuiet_nil ?_
                intro _ hw'
                obtain ⟨⟨dq, osq⟩, hw''⟩ := hw'
                subst hw''
                clear kqy0 kqd1 kqd3
                have hb := below_patch w2 dq osq
                replace hB1 := below_step hB1 hb
                clear hb
                generalize patch w2 dq osq = w3 at hB1 ⊢
                clear y0 d1 d3 d0
                go_wp2_with fail
                go_roundw
                case rel => exact ⟨m + 1 + 1, by omega, by go_num, hB1, HN⟩
                case measure => simp [intOf]; omega
        · rw [if_pos h0] at hR
          rw [errV_pos A h0] at hck
          have HF : Hid (errV A (reqsE p.data.toList (mdF n P V)) = .iface 271 (.pointer (some (A (modErr (P k).data.toList (V k).data.toList))))) := Lib.hid (by
            unfold reqsE
            rw [if_neg (by rw [mdF_length]; exact h20), mdF_length, firstE_hit (by rw [hR]; exact h0) HA.out hlt, hR]
            exact errV_pos A h0)
          replace hck := Lib.hid hck
          clear h0 hR z0 z1 hb hba
          go_wp2_with fail
          refine (hck.out _ hE2).mono ?_
          rintro e w2 ⟨rfl, hb⟩
          have hB := below_step hBr hb
          go_wp2_with fail
          go_ret
          rw [HF.out]
          exact ⟨rfl, hB⟩
      · obtain rfl : k = n := by omega
        have HF : Hid (reqsE p.data.toList (mdF k P V) = 0) := Lib.hid (by
          unfold reqsE
          rw [if_neg (by rw [mdF_length]; exact h20), mdF_length, firstE_none HA.out])
        have hBB := below_step hB hb
        go_wp2_with fail
        go_ret
        rw [HF.out]
        exact ⟨rfl, hBB⟩
set_option maxHeartbeats 400000 in
theorem indexFuncT_calls (g : Nat) (lb : Array Value) (eg : ∀ args w, (callFunc g args).run Tryz.prog w = .ok (.enter g args) w) (p : Str → Bool) (a : Option Addr) (n cap : Nat) (L : Nat → ByteArray) (w : World) (hn : n ≤ 4000000001)
    (hc : ∀ j, j < n → ∃ b o, a = some ⟨b, o, none⟩ ∧ w.cell? ⟨b, o + j, none⟩ = some (.string (L j))) (hT : Tests g lb p n L w) :
    Calls Tryz.prog 174 #[.slice a n cap, .func (.func g) #[] lb] w fun e w' => (∃ i : Int, e = .returned (.int .i64 i) ∧ (0 ≤ i ↔ (lstF n L).any p = true)) ∧ Below w.heap.size w w' := by
  replace hc := Lib.hid hc
  replace hT := Lib.hid hT
  go_enter Tryz.func174, Tryz.ntmps174
  go_wp2_with fail
  go_loopw [8] (fun i wr => ∃ k : Nat, k ≤ n ∧ i = .int .i64 k ∧ Below w.heap.size w wr ∧ Hid (∀ j, j < k → p (L j).data.toList = false)) (fun i _ => n - (intOf i).toNat)
  case atStart => exact ⟨0, by omega, rfl, Below.refl _ _, Lib.hid (fun j hj => absurd hj (Nat.not_lt_zero _))⟩
  case round =>
    obtain ⟨k, hk, rfl, hb, HA⟩ := hrel
    by_cases hlt : k < n
    · obtain ⟨b1, o1, rfl, c0⟩ := hc.out k hlt
      have hck := Below.cell_some hb c0
      have hcall := hT.out wr hb k hlt
      clear c0
      cases hq : p (L k).data.toList with
      | true =>
        have HF : Hid ((lstF n L).any p = true) := Lib.hid ((any_lstF p L n).2 ⟨k, hlt, hq⟩)
        rw [hq] at hcall
        clear hq
        go_wp2_with (go_at_fn g; refine hcall.mono ?_; rintro e w' ⟨rfl, hb2⟩)
        go_ret
        exact ⟨⟨_, rfl, iff_of_true (by omega) HF.out⟩, below_step hb hb2⟩
      | false =>
        have HN : Hid (∀ j, j < k + 1 → p (L j).data.toList = false) := Lib.hid (fun j hj => by
          by_cases e : j = k
          · subst e; exact hq
          · exact HA.out j (by omega))
        rw [hq] at hcall
        clear hq
        go_wp2_with (go_at_fn g; refine hcall.mono ?_; rintro e w' ⟨rfl, hb2⟩)
        go_roundw
        case rel => exact ⟨k + 1, by omega, by go_num, below_step hb hb2, HN⟩
        case measure => simp [intOf]; omega
    · obtain rfl : k = n := by omega
      go_wp2_with fail
      go_ret
      refine ⟨⟨_, rfl, iff_of_false (by decide) ?_⟩, hb⟩
      intro h
      obtain ⟨j, hj, h2⟩ := (any_lstF p L k).1 h
      rw [HA.out j hj] at h2
      cases h2
theorem containsT_calls (g : Nat) (lb : Array Value) (eg : ∀ args w, (callFunc g args).run Tryz.prog w = .ok (.enter g args) w) (p : Str → Bool) (a : Option Addr) (n cap : Nat) (L : Nat → ByteArray) (w : World) (hn : n ≤ 4000000001)
    (hc : ∀ j, j < n → ∃ b o, a = some ⟨b, o, none⟩ ∧ w.cell? ⟨b, o + j, none⟩ = some (.string (L j))) (hT : Tests g lb p n L w) :
    Calls Tryz.prog 126 #[.slice a n cap, .func (.func g) #[] lb] w fun e w' => e = .returned (.bool ((lstF n L).any p)) ∧ Below w.heap.size w w' := by
  have hi := indexFuncT_calls g lb eg p a n cap L w hn hc hT
  generalize (lstF n L).any p = X at hi ⊢
  replace hi := Lib.hid hi
  clear hc hT
  go_enter Tryz.func126, Tryz.ntmps126
  go_wp2_with fail
  refine hi.out.mono ?_
  rintro e w1 ⟨⟨i, rfl, hiff⟩, hb⟩
  cases X with
  | true =>
    have h0 := hiff.2 rfl
    clear hiff
    go_wp2_with fail
    go_ret
    exact ⟨rfl, hb⟩
  | false =>
    have h0 : ¬ (0 ≤ i) := fun h => by have := hiff.1 h; cases this
    clear hiff
    go_wp2_with fail
    go_ret
    refine ⟨?_, hb⟩
    show Ending.returned (Value.bool (decide (0 ≤ i))) = _
    rw [decide_eq_false (by omega)]
theorem Tryz.enters_packs1 : ∀ args w, (callFunc 195 args).run Tryz.prog w = .ok (.enter 195 args) w := Go.Proofs.enters_of Tryz.func195 (by kernel_rfl) rfl
theorem packs1_calls (ks : List Nat) (A : Nat → Addr) (h4 : 4 ∈ ks) (s : ByteArray) (w : World) (hE : EnvP ks A w) (hs : s.size ≤ 1000000) :
    Calls Tryz.prog 195 #[.string s] w fun e w' => e = .returned (.bool (!packOk s.data.toList)) ∧ Below w.heap.size w w' := by
  have hpa := path_calls ks A h4 s w hE (by omega)
  by_cases h1 : s.data.toList = [46]
  · have HF : Hid ((!packOk s.data.toList) = false) := Lib.hid (by unfold packOk; rw [decide_eq_true h1]; rfl)
    have h2 : (s.toList != [46]) = false := by rw [toList_data, h1]; rfl
    have h3 : s.toList = [46] := by rw [toList_data, h1]
    clear h1 hpa
    go_enter Tryz.func195, Tryz.ntmps195
    go_wp2_with fail
    go_ret
    rw [HF.out]
    exact ⟨rfl, Below.refl _ _⟩
  · have h2 : (s.toList != [46]) = true := by rw [toList_data]; exact bne_iff_ne.2 h1
    have h3 : s.toList ≠ [46] := by rw [toList_data]; exact h1
    have h5 : (s.toList == [46]) = false := beq_eq_false_iff_ne.2 h3
    by_cases h0 : pathErr s.data.toList = 0
    · have HF : Hid ((!packOk s.data.toList) = false) := Lib.hid (by unfold packOk; rw [decide_eq_true h0, Bool.or_true]; rfl)
      rw [h0, errV_zero] at hpa
      clear h0 h1
      replace hpa := Lib.hid hpa
      go_enter Tryz.func195, Tryz.ntmps195
      go_wp2_with fail
      refine hpa.out.mono ?_
      rintro e w1 ⟨rfl, hb⟩
      go_wp2_with fail
      go_ret
      rw [HF.out]
      exact ⟨rfl, hb⟩
    · have HF : Hid ((!packOk s.data.toList) = true) := Lib.hid (by unfold packOk; rw [decide_eq_false h0, decide_eq_false h1]; rfl)
      rw [errV_pos A h0] at hpa
      clear h0 h1
      replace hpa := Lib.hid hpa
      go_enter Tryz.func195, Tryz.ntmps195
      go_wp2_with fail
      refine hpa.out.mono ?_
      rintro e w1 ⟨rfl, hb⟩
      go_wp2_with fail
      go_ret
      rw [HF.out]
      exact ⟨rfl, hb⟩
theorem getD_lstF {n : Nat} {L : Nat → ByteArray} {j : Nat} (h : j < n) : (lstF n L).getD j [] = (L j).data.toList := by
  rw [List.getD_eq_getElem?_getD]
  simp [lstF, h]
set_option maxHeartbeats 2000000 in
set_option maxRecDepth 100000 in
theorem idxPacks_calls (ks : List Nat) (A : Nat → Addr) (hks : IdxKs ks) (p v : ByteArray) (kv : Value) (a1 : Option Addr) (n1 s1 : Nat) (bk : Bool) (K : List Str) (w : World) (hE : EnvP ks A w) (hk : StrsAt w kv K) (hK : K.length ≤ 1000000) (hs : ∀ s ∈ K, s.length ≤ 1000000) :
    Calls Tryz.prog 158 #[.agg #[.string p, .string v, .slice a1 n1 s1, kv, .bool bk]] w fun e w' => e = .returned (errV A (packsE K)) ∧ Below w.heap.size w w' := by
  obtain ⟨a, n, cap, L, rfl, rfl, hnc, hcap, hc⟩ := hk
  have hn : n ≤ 1000000 := by simpa [lstF] using hK
  have hL : Hid (∀ j, j < n → (L j).size ≤ 1000000) := Lib.hid (fun j hj => by
    rw [size_eq]
    exact hs _ (List.mem_of_getElem? (show (lstF n L)[j]? = some (L j).data.toList by simp [lstF, hj])))
  have hlen : (lstF n L).length = n := by simp [lstF]
  have hB := below_alloc w (.cells #[.string p, .string v, .slice a1 n1 s1, .slice a n cap, .bool bk] 43)
  have z1 : (w.alloc (.cells #[.string p, .string v, .slice a1 n1 s1, .slice a n cap, .bool bk] 43)).cell? ⟨w.heap.size, 3, none⟩ = some (.slice a n cap) := by simp
  replace hc : ∀ j, j < n → ∃ b o, a = some ⟨b, o, none⟩ ∧ (w.alloc (.cells #[.string p, .string v, .slice a1 n1 s1, .slice a n cap, .bool bk] 43)).cell? ⟨b, o + j, none⟩ = some (.string (L j)) := fun j hj =>
    let ⟨b, o, e, h1⟩ := hc j hj; ⟨b, o, e, Below.cell_some hB h1⟩
  replace hE := hE.below hB
  have hct := containsT_calls 195 #[] Tryz.enters_packs1 (fun s => !packOk s) a n cap L (w.alloc (.cells #[.string p, .string v, .slice a1 n1 s1, .slice a n cap, .bool bk] 43)) (by omega) hc
    (fun W hW j hj => packs1_calls ks A hks.2.1 (L j) W (hE.below hW) (hL.out j hj))
  replace hc := Lib.hid hc
  clear hs hK hL
  by_cases h10 : 10 < n
  · have h10' : (10 : Int) < (n : Int) := by omega
    have HF : Hid (packsE (lstF n L) = 7) := Lib.hid (by unfold packsE; rw [if_pos (by rw [hlen]; exact h10)])
    have g7 := hE.errs.var 7 hks.2.2.2.1
    simp only [errG] at g7
    clear hct
    go_enter Tryz.func158, Tryz.ntmps158
    go_wp2_with fail
    go_ret
    rw [HF.out]
    exact ⟨rfl, hB⟩
  · have h10' : ¬ (10 : Int) < (n : Int) := by omega
    by_cases hall : (lstF n L).all packOk = true
    · have HF0 : Hid (packsE (lstF n L) = (firstE (packE (lstF n L)) n).1) := Lib.hid (by unfold packsE; rw [if_neg (by rw [hlen]; exact h10), if_pos hall, hlen])
      have e0 : (lstF n L).any (fun s => !packOk s) = false := by
        rw [List.all_eq_true] at hall
        rw [List.any_eq_false]
        intro x hx
        rw [hall x hx]; decide
      rw [e0] at hct
      clear hall e0
      replace hct := Lib.hid hct
      go_enter Tryz.func158, Tryz.ntmps158
      go_wp2_with fail
      refine hct.out.mono ?_
      rintro e w1 ⟨rfl, hb⟩
      replace z1 := Below.cell_some hb z1
      replace hE := hE.below hb
      have hc1 : Hid (∀ j, j < n → ∃ b o, a = some ⟨b, o, none⟩ ∧ w1.cell? ⟨b, o + j, none⟩ = some (.string (L j))) := Lib.hid (fun j hj => let ⟨b, o, e, h1⟩ := hc.out j hj; ⟨b, o, e, Below.cell_some hb h1⟩)
      replace hB := below_step hB hb
      clear hct hb hc
      go_wp2_with fail
      go_loopw [3] (fun i wr => ∃ k : Nat, k ≤ n ∧ i = .int .i64 ((k : Int) + 1) ∧ Below w1.heap.size w1 wr ∧ Hid (∀ j, j < k + 1 → j < n → packE (lstF n L) j = 0)) (fun i _ => n + 1 - (intOf i).toNat)
      case atStart => exact ⟨0, Nat.zero_le _, rfl, Below.refl _ _, Lib.hid (fun j hj _ => by
        obtain rfl : j = 0 := by omega
        unfold packE
        rw [if_neg (fun h => absurd h.1 (Nat.lt_irrefl _))])⟩
      case round =>
        obtain ⟨m, hm, rfl, hb, HA⟩ := hrel
        have d1 := Below.cell_some hb z1
        have hwm := wrap_nat (m + 1) (by omega)
        by_cases hlt : m + 1 < n
        · have hlt' : (m : Int) + 1 < (n : Int) := by omega
          obtain ⟨b1, o1, rfl, c1⟩ := hc1.out (m + 1) hlt
          obtain ⟨b2, o2, e1, c2⟩ := hc1.out m (by omega)
          injection e1 with e1
          injection e1 with e1 e2
          subst e1 e2
          replace c1 := Below.cell_some hb c1
          replace c2 := Below.cell_some hb c2
          have hle := leq_eq (L (m + 1)) (L m)
          have hR : packE (lstF n L) (m + 1) = if compareBytes (L (m + 1)).data.toList (L m).data.toList ≤ 0 then 8 else 0 := by
            unfold packE
            rw [getD_lstF hlt, Nat.add_sub_cancel, getD_lstF (by omega)]
            by_cases hq : compareBytes (L (m + 1)).data.toList (L m).data.toList ≤ 0
            · rw [if_pos ⟨Nat.succ_pos _, hq⟩, if_pos hq]
            · rw [if_neg (fun h => hq h.2), if_neg hq]
          have hkw := wrap_nat m (by omega)
          have hwm' : IntKind.i64.wrap ((m : Int) + 1) = (m : Int) + 1 := by have := hwm; push_cast at this; exact this
          have hm0 : ((m : Int) + 1 - 1) = (m : Int) := by omega
          have hm1 : (m : Int) < (n : Int) := by omega
          have hm2 : ((m : Int) + 1).toNat = m + 1 := by omega
          have hm3 : (0 : Int) ≤ (m : Int) + 1 := by omega
          have hm4 : ¬ ((m : Int) + 1 < 0) := by omega
          by_cases hc0 : compareBytes (L (m + 1)).data.toList (L m).data.toList ≤ 0
          · rw [if_pos hc0] at hR
            rw [decide_eq_true hc0] at hle
            have HF : Hid (packsE (lstF n L) = 8) := Lib.hid (by
              rw [HF0.out, firstE_hit (by rw [hR]; decide) (fun j hj => HA.out j (by omega) (by omega)) hlt, hR])
            have hE2 := hE.below hb
            have hBr := below_step hB hb
            clear hc0 hR HF0 HA z1 hb
            go_wp2_with fail
            have kqc1 := fun d os => cell_patch (d := d) (os := os) c1
            have kqd1 := fun d os => cell_patch (d := d) (os := os) d1
            have kqc2 := fun d os => cell_patch (d := d) (os := os) c2
            refine wp_region_quiet_patch (by kernel_rfl) (by kernel_rfl) ?_
            repeat (go_big_quiet_step (fail))
            refine wpQuiet_nil ?_
            intro _ hw'
            obtain ⟨⟨dq, osq⟩, hw''⟩ := hw'
            subst hw''
            clear kqc1 kqd1 kqc2
            have hb := below_patch wr dq osq
            replace hBr := below_step hBr hb
            replace hE2 := hE2.below hb
            clear hb
            generalize patch wr dq osq = w3 at hBr hE2 ⊢
            clear c1 d1 c2
            have g8 := hE2.errs.var 8 hks.2.2.2.2
            simp only [errG] at g8
            go_wp2_with fail
            go_ret
            rw [HF.out]
            exact ⟨rfl, hBr⟩
          · rw [if_neg hc0] at hR
            rw [decide_eq_false hc0] at hle
            have HN : Hid (∀ j, j < m + 1 + 1 → j < n → packE (lstF n L) j = 0) := Lib.hid (fun j hj hjn => by
              by_cases e : j = m + 1
              · subst e; exact hR
              · exact HA.out j (by omega) hjn)
            clear hc0 hR z1
            have hB1 := hb
            clear hb
            go_wp2_with fail
            have kqc1 := fun d os => cell_patch (d := d) (os := os) c1
            have kqd1 := fun d os => cell_patch (d := d) (os := os) d1
            have kqc2 := fun d os => cell_patch (d := d) (os := os) c2
            refine wp_region_quiet_patch (by kernel_rfl) (by kernel_rfl) ?_
            repeat (go_big_quiet_step (fail))
            refine wpQuiet_nil ?_
            intro _ hw'
            obtain ⟨⟨dq, osq⟩, hw''⟩ := hw'
            subst hw''
            clear kqc1 kqd1 kqc2
            have hb := below_patch wr dq osq
            replace hB1 := below_step hB1 hb
            clear hb
            generalize patch wr dq osq = w3 at hB1 ⊢
            clear c1 d1 c2
            go_wp2_with fail
            go_roundw
            case rel => exact ⟨m + 1, by omega, by go_num, hB1, HN⟩
            case measure => simp [intOf]; omega
        · have hlt' : ¬ (m : Int) + 1 < (n : Int) := by omega
          have HF : Hid (packsE (lstF n L) = 0) := Lib.hid (by
            rw [HF0.out, firstE_none (fun j hj => HA.out j (by omega) hj)])
          have hBB := below_step hB hb
          go_wp2_with fail
          go_ret
          rw [HF.out]
          exact ⟨rfl, hBB⟩
    · have HF : Hid (packsE (lstF n L) = 1) := Lib.hid (by unfold packsE; rw [if_neg (by rw [hlen]; exact h10), if_neg hall])
      have e0 : (lstF n L).any (fun s => !packOk s) = true := by
        by_cases h : (lstF n L).any (fun s => !packOk s) = true
        · exact h
        · exfalso
          apply hall
          rw [List.all_eq_true]
          intro x hx
          by_cases hx2 : packOk x = true
          · exact hx2
          · exact absurd (List.any_eq_true.2 ⟨x, hx, by simpa using hx2⟩) h
      rw [e0] at hct
      clear hall e0
      replace hct := Lib.hid hct
      go_enter Tryz.func158, Tryz.ntmps158
      go_wp2_with fail
      refine hct.out.mono ?_
      rintro e w1 ⟨rfl, hb⟩
      replace hE := hE.below hb
      replace hB := below_step hB hb
      have g1 := hE.errs.var 1 hE.has.1
      simp only [errG] at g1
      go_wp2_with fail
      go_ret
      rw [HF.out]
      exact ⟨rfl, hB⟩
end Go.Proofs.Pw

namespace Go.Proofs.Pw
open Go.RowKit
open Go.Lib hiding intOf
theorem reqsE_of (e : En) : reqsErr e = reqsE e.md.1 e.reqs := rfl
theorem packsE_of (e : En) : packsErr e = packsE e.packs := rfl
def stagesE (a : Nat) (b : Bool) (c d : Nat) : Nat := if a ≠ 0 then a else if b = true then 8 else if c ≠ 0 then c else d
theorem entErr_stages (l : List En) (i : Nat) : entErr l i = stagesE (mdErr (enAt l i).md) (decide (0 < i ∧ modAhead (enAt l (i - 1)).md (enAt l i).md = false)) (reqsErr (enAt l i)) (packsErr (enAt l i)) := by
  unfold entErr stagesE
  simp only [decide_eq_true_eq]
set_option maxHeartbeats 4000000 in
set_option maxRecDepth 100000 in
theorem idxEntry_calls (ks : List Nat) (A : Nat → Addr) (hks : IdxKs ks) (a : Option Addr) (n cap : Nat) (P V : Nat → ByteArray) (R : Nat → List Md) (K : Nat → List Str) (B : Nat → Bool) (Rv Kv : Nat → Value) (i : Nat) (w : World) (hE : EnvP ks A w) (h : EntsIn w a n cap P V R K B Rv Kv) (hs : ShortI (enF n P V R K B)) (hi : i < n) :
    Calls Tryz.prog 106 #[.slice a n cap, .int .i64 i] w fun e w' => e = .returned (errV A (entErr (enF n P V R K B) i)) ∧ Below w.heap.size w w' := by
  have hB := Below.refl w.heap.size w
  obtain ⟨hn, hp1, hv1, hsr, hk1, hk2⟩ := hs.at_ hi
  have HS0 := entErr_stages (enF n P V R K B) i
  rw [reqsE_of, packsE_of, enAt_enF hi] at HS0
  have hck := fun W hW => modCheck_calls ks A hks.2.1 (P i) (V i) W hW (by omega) (by omega)
  obtain ⟨b1, o1, ea, hcell⟩ := h.at_ i hi
  obtain ⟨a1, n1, s1, a2, n2, s2, e1, e2⟩ := h.forms hi
  have hrq := fun W (hW : EnvP ks A W) (hb : Below w.heap.size w W) => idxReqs_calls ks A hks (P i) (V i) (Rv i) a2 n2 s2 (B i) (R i) W hW ((h.reqs i hi).below hb) hsr
  have hpk := fun W (hW : EnvP ks A W) (hb : Below w.heap.size w W) => idxPacks_calls ks A hks (P i) (V i) (Kv i) a1 n1 s1 (B i) (K i) W hW ((h.packs i hi).below hb) hk1 hk2
  rw [e1, e2] at hcell
  simp only [e1] at hrq
  simp only [e2] at hpk
  have hki : (i : Int) < (n : Int) := by omega
  by_cases h0 : modErr (P i).data.toList (V i).data.toList = 0
  · rw [h0, errV_zero] at hck
    by_cases hi0 : i = 0
    · subst hi0
      rw [decide_eq_false (p := _ ∧ _) (fun h => absurd h.1 (by omega))] at HS0
      have HS := Lib.hid HS0
      clear HS0
      simp only [Nat.zero_mul, Nat.add_zero] at hcell
      subst ea
      replace hck := Lib.hid hck
      replace h0 := Lib.hid h0
      clear h hs e1 e2
      obtain ⟨c0, c1, c2, c3, c4⟩ := id hcell
      go_enter Tryz.func106, Tryz.ntmps106
      go_wp2_with fail
      refine (hck.out _ hE).mono ?_
      rintro e w1 ⟨rfl, hb⟩
      replace hB := below_step hB hb
      replace hE := hE.below hb
      replace hcell := hcell.below hb
      clear hb
      clear c0 c1 c2 c3 c4
      go_wp2_with fail
      refine wp_region_quiet_patch (by kernel_rfl) (by kernel_rfl) ?_
      repeat (go_big_quiet_step (fail))
      refine wpQuiet_nil ?_
      intro _ hw'
      obtain ⟨⟨dq, osq⟩, hw''⟩ := hw'
      subst hw''
      have hb := below_patch w1 dq osq
      replace hB := below_step hB hb
      replace hE := hE.below hb
      replace hcell := hcell.below hb
      clear hb
      generalize patch w1 dq osq = w2 at hB hE hcell ⊢
      obtain ⟨c0, c1, c2, c3, c4⟩ := id hcell
      cases hq : decide (reqsE (P 0).data.toList (R 0) = 0) with
      | true =>
        have hq := of_decide_eq_true hq
        rw [hq, errV_zero] at hrq
        have HF2 : Hid (entErr (enF n P V R K B) 0 = packsE (K 0)) := Lib.hid (by rw [HS.out]; unfold stagesE; rw [if_neg (fun h => h h0.out), if_neg (by simp), if_neg (by simp [hq])])
        replace hrq := Lib.hid hrq
        replace hpk := Lib.hid hpk
        clear hq
        go_wp2_with fail
        refine (hrq.out _ hE hB).mono ?_
        rintro e w5 ⟨rfl, hb⟩
        replace hB := below_step hB hb
        replace hE := hE.below hb
        replace hcell := hcell.below hb
        clear hb
        clear c0 c1 c2 c3 c4
        obtain ⟨c0, c1, c2, c3, c4⟩ := id hcell
        go_wp2_with fail
        refine (hpk.out _ hE hB).mono ?_
        rintro e w6 ⟨rfl, hb⟩
        have hB6 := below_step hB hb
        go_wp2_with fail
        go_ret
        rw [HF2.out]
        exact ⟨rfl, hB6⟩
      | false =>
        have hq := of_decide_eq_false hq
        have HF2 : Hid (entErr (enF n P V R K B) 0 = reqsE (P 0).data.toList (R 0)) := Lib.hid (by rw [HS.out]; unfold stagesE; rw [if_neg (fun h => h h0.out), if_neg (by simp), if_pos hq])
        have HF3 : Hid (errV A (reqsE (P 0).data.toList (R 0)) = .iface 271 (.pointer (some (A (reqsE (P 0).data.toList (R 0)))))) := Lib.hid (errV_pos A hq)
        rw [errV_pos A hq] at hrq
        replace hrq := Lib.hid hrq
        replace hpk := Lib.hid hpk
        clear hq
        go_wp2_with fail
        refine (hrq.out _ hE hB).mono ?_
        rintro e w5 ⟨rfl, hb⟩
        have hB5 := below_step hB hb
        go_wp2_with fail
        go_ret
        rw [HF2.out, HF3.out]
        exact ⟨rfl, hB5⟩
    · obtain ⟨k, rfl⟩ : ∃ k, i = k + 1 := ⟨i - 1, by omega⟩
      have hkn : k < n := by omega
      obtain ⟨_, hp2, hv2, _, _, _⟩ := hs.at_ hkn
      rw [Nat.add_sub_cancel, enAt_enF hkn] at HS0
      have hk0 : (0 : Int) < ((k + 1 : Nat) : Int) := by omega
      have hk1' : ((k + 1 : Nat) : Int) - 1 = (k : Int) := by omega
      have hkw := wrap_nat k (by omega)
      have hkw1 := wrap_nat (k + 1) (by omega)
      have hkn2 : (k : Int) < (n : Int) := by omega
      have hkn3 : (k : Int) + 1 < (n : Int) := by omega
      have hkn4 : ((k : Int) + 1).toNat = k + 1 := by omega
      have hkn5 : (0 : Int) ≤ (k : Int) + 1 := by omega
      have hkn6 : ¬ ((k : Int) + 1 < 0) := by omega
      obtain ⟨b2, o2, eb, hcell2⟩ := h.at_ k hkn
      rw [ea] at eb
      injection eb with eb
      injection eb with eb1 eb2
      subst eb1 eb2
      obtain ⟨d0, d1, d2, d3, d4⟩ := hcell2
      subst ea
      have hah := fun W hW => modAhead_calls ks A (P k) (V k) (P (k + 1)) (V (k + 1)) W hW (by omega) (by omega)
      cases hX : modAhead ((P k).data.toList, (V k).data.toList) ((P (k + 1)).data.toList, (V (k + 1)).data.toList) with
      | true =>
        rw [hX] at hah
        rw [decide_eq_false (p := _ ∧ _) (fun h => by rw [hX] at h; cases h.2)] at HS0
        have HS := Lib.hid HS0
        clear HS0
        replace hck := Lib.hid hck
        replace hah := Lib.hid hah
        replace h0 := Lib.hid h0
        clear h hs e1 e2 hX d2 d3 d4
        obtain ⟨c0, c1, c2, c3, c4⟩ := id hcell
        go_enter Tryz.func106, Tryz.ntmps106
        go_wp2_with fail
        refine (hck.out _ hE).mono ?_
        rintro e w1 ⟨rfl, hb⟩
        replace hB := below_step hB hb
        replace hE := hE.below hb
        replace hcell := hcell.below hb
        replace c0 := Below.cell_some hb c0
        replace c1 := Below.cell_some hb c1
        replace d0 := Below.cell_some hb d0
        replace d1 := Below.cell_some hb d1
        clear hb
        go_wp2_with fail
        have kE := Lib.hid (fun d os => hE.below (below_patch w1 d os))
        have kqc0 := fun d os => cell_patch (d := d) (os := os) c0
        have kqc1 := fun d os => cell_patch (d := d) (os := os) c1
        have kqd0 := fun d os => cell_patch (d := d) (os := os) d0
        have kqd1 := fun d os => cell_patch (d := d) (os := os) d1
        refine wp_region_quiet_patch (by kernel_rfl) (by kernel_rfl) ?_
        repeat (go_big_quiet_step ((go_at_call 156; with_reducible exact Calls.patch_of (hah.out _ (kE.out _ _)))))
        refine wpQuiet_nil ?_
        intro _ hw'
        obtain ⟨⟨dq, osq⟩, hw''⟩ := hw'
        subst hw''
        clear kqc0 kqc1 kqd0 kqd1
        have hb := below_patch w1 dq osq
        replace hB := below_step hB hb
        replace hE := hE.below hb
        replace hcell := hcell.below hb
        clear hb
        generalize patch w1 dq osq = w2 at hB hE hcell ⊢
        clear c0 c1 c2 c3 c4 d0 d1
        obtain ⟨c0, c1, c2, c3, c4⟩ := id hcell
        cases hq : decide (reqsE (P (k + 1)).data.toList (R (k + 1)) = 0) with
        | true =>
          have hq := of_decide_eq_true hq
          rw [hq, errV_zero] at hrq
          have HF2 : Hid (entErr (enF n P V R K B) (k + 1) = packsE (K (k + 1))) := Lib.hid (by rw [HS.out]; unfold stagesE; rw [if_neg (fun h => h h0.out), if_neg (by simp), if_neg (by simp [hq])])
          replace hrq := Lib.hid hrq
          replace hpk := Lib.hid hpk
          clear hq
          go_wp2_with fail
          refine (hrq.out _ hE hB).mono ?_
          rintro e w5 ⟨rfl, hb⟩
          replace hB := below_step hB hb
          replace hE := hE.below hb
          replace hcell := hcell.below hb
          clear hb
          clear c0 c1 c2 c3 c4
          obtain ⟨c0, c1, c2, c3, c4⟩ := id hcell
          go_wp2_with fail
          refine (hpk.out _ hE hB).mono ?_
          rintro e w6 ⟨rfl, hb⟩
          have hB6 := below_step hB hb
          go_wp2_with fail
          go_ret
          rw [HF2.out]
          exact ⟨rfl, hB6⟩
        | false =>
          have hq := of_decide_eq_false hq
          have HF2 : Hid (entErr (enF n P V R K B) (k + 1) = reqsE (P (k + 1)).data.toList (R (k + 1))) := Lib.hid (by rw [HS.out]; unfold stagesE; rw [if_neg (fun h => h h0.out), if_neg (by simp), if_pos hq])
          have HF3 : Hid (errV A (reqsE (P (k + 1)).data.toList (R (k + 1))) = .iface 271 (.pointer (some (A (reqsE (P (k + 1)).data.toList (R (k + 1))))))) := Lib.hid (errV_pos A hq)
          rw [errV_pos A hq] at hrq
          replace hrq := Lib.hid hrq
          replace hpk := Lib.hid hpk
          clear hq
          go_wp2_with fail
          refine (hrq.out _ hE hB).mono ?_
          rintro e w5 ⟨rfl, hb⟩
          have hB5 := below_step hB hb
          go_wp2_with fail
          go_ret
          rw [HF2.out, HF3.out]
          exact ⟨rfl, hB5⟩
      | false =>
        rw [hX] at hah
        rw [decide_eq_true (p := _ ∧ _) ⟨Nat.succ_pos k, hX⟩] at HS0
        have HF : Hid (entErr (enF n P V R K B) (k + 1) = 8) := Lib.hid (by rw [HS0]; unfold stagesE; rw [if_neg (by show ¬ mdErr _ ≠ 0; simp [mdErr, h0]), if_pos rfl])
        clear HS0
        replace hck := Lib.hid hck
        replace hah := Lib.hid hah
        replace h0 := Lib.hid h0
        obtain ⟨c0, c1, c2, c3, c4⟩ := hcell
        clear h hs e1 e2 hX d2 d3 d4 c2 c3 c4 hrq hpk
        go_enter Tryz.func106, Tryz.ntmps106
        go_wp2_with fail
        refine (hck.out _ hE).mono ?_
        rintro e w1 ⟨rfl, hb⟩
        replace hB := below_step hB hb
        replace hE := hE.below hb
        replace c0 := Below.cell_some hb c0
        replace c1 := Below.cell_some hb c1
        replace d0 := Below.cell_some hb d0
        replace d1 := Below.cell_some hb d1
        clear hb
        go_wp2_with fail
        have kE := Lib.hid (fun d os => hE.below (below_patch w1 d os))
        have kqc0 := fun d os => cell_patch (d := d) (os := os) c0
        have kqc1 := fun d os => cell_patch (d := d) (os := os) c1
        have kqd0 := fun d os => cell_patch (d := d) (os := os) d0
        have kqd1 := fun d os => cell_patch (d := d) (os := os) d1
        refine wp_region_quiet_patch (by kernel_rfl) (by kernel_rfl) ?_
        repeat (go_big_quiet_step ((go_at_call 156; with_reducible exact Calls.patch_of (hah.out _ (kE.out _ _)))))
        refine wpQuiet_nil ?_
        intro _ hw'
        obtain ⟨⟨dq, osq⟩, hw''⟩ := hw'
        subst hw''
        clear kqc0 kqc1 kqd0 kqd1
        have hb := below_patch w1 dq osq
        replace hB := below_step hB hb
        replace hE := hE.below hb
        clear hb
        generalize patch w1 dq osq = w2 at hB hE ⊢
        clear c0 c1 d0 d1
        have g8 := hE.errs.var 8 hks.2.2.2.2
        simp only [errG] at g8
        go_wp2_with fail
        go_ret
        rw [HF.out]
        exact ⟨rfl, hB⟩
  · have HF : Hid (errV A (entErr (enF n P V R K B) i) = .iface 271 (.pointer (some (A (modErr (P i).data.toList (V i).data.toList))))) := Lib.hid (by
      rw [HS0]
      unfold stagesE
      rw [if_pos (by exact h0)]
      exact errV_pos A h0)
    rw [errV_pos A h0] at hck
    subst ea
    replace hck := Lib.hid hck
    obtain ⟨c0, c1, c2, c3, c4⟩ := hcell
    clear h hs e1 e2 hrq hpk HS0 c2 c3 c4
    go_enter Tryz.func106, Tryz.ntmps106
    go_wp2_with fail
    refine (hck.out _ hE).mono ?_
    rintro e w1 ⟨rfl, hb⟩
    replace hB := below_step hB hb
    clear hb
    go_wp2_with fail
    go_ret
    rw [HF.out]
    exact ⟨rfl, hB⟩
end Go.Proofs.Pw

namespace Go.Proofs.Pw
open Go.RowKit
open Go.Lib hiding intOf
theorem any_findI {α : Type} {p : α → Bool} {l : List α} : l.any p = true ↔ 0 ≤ findI p l := by
  by_cases h : findI p l < 0
  · refine iff_of_false (fun h2 => ?_) (by omega)
    obtain ⟨x, hx, h3⟩ := List.any_eq_true.1 h2
    have := findI_eq_none.1 h x hx
    rw [this] at h3; cases h3
  · refine iff_of_true ?_ (by omega)
    obtain ⟨x, hx, h3⟩ := findI_spec (show findI p l = ((findI p l).toNat : Int) by omega)
    exact List.any_eq_true.2 ⟨x, List.mem_of_getElem? hx, h3⟩
theorem containsMf_calls (g : Nat) (lb : Array Value) (eg : ∀ args w, (callFunc g args).run Tryz.prog w = .ok (.enter g args) w) (p : Md → Bool) (a : Option Addr) (n cap base : Nat) (P V : Nat → ByteArray) (w : World) (hn : n ≤ 1000000) (hbase : base ≤ w.heap.size)
    (hc : ∀ j, j < n → ∃ b o, a = some ⟨b, o, none⟩ ∧ w.cell? ⟨b, o + j * 2, none⟩ = some (.string (P j)) ∧ w.cell? ⟨b, o + j * 2 + 1, none⟩ = some (.string (V j))) (hT : TestsM g lb p n P V base w) :
    Calls Tryz.prog 60 #[.slice a n cap, .func (.func g) #[] lb] w fun e w' => e = .returned (.bool ((mdF n P V).any p)) ∧ Below w.heap.size w w' := by
  have hi := indexFuncM_calls g lb eg p a n cap base P V w hn hbase hc hT
  have hany := any_findI (p := p) (l := mdF n P V)
  generalize (mdF n P V).any p = X at hany ⊢
  generalize findI p (mdF n P V) = i at hany hi
  replace hi := Lib.hid hi
  clear hc hT
  go_enter Tryz.func60, Tryz.ntmps60
  go_wp2_with fail
  refine hi.out.mono ?_
  rintro e w1 ⟨rfl, hb⟩
  cases X with
  | true =>
    have h0 := hany.1 rfl
    clear hany
    go_wp2_with fail
    go_ret
    exact ⟨rfl, hb⟩
  | false =>
    have h0 : ¬ (0 ≤ i) := fun h => by have := hany.2 h; cases this
    clear hany
    go_wp2_with fail
    go_ret
    refine ⟨?_, hb⟩
    show Ending.returned (Value.bool (decide (0 ≤ i))) = _
    rw [decide_eq_false (by omega)]
theorem Tryz.enters_icheck1 : ∀ args w, (callFunc 107 args).run Tryz.prog w = .ok (.enter 107 args) w := Go.Proofs.enters_of Tryz.func107 (by kernel_rfl) rfl
theorem idxCheck1_calls (a : Option Addr) (n cap : Nat) (P V : Nat → ByteArray) (R : Nat → List Md) (K : Nat → List Str) (B : Nat → Bool) (Rv Kv : Nat → Value) (b : Nat) (p v : ByteArray) (w : World) (h : EntsIn w a n cap P V R K B Rv Kv) (hl : n ≤ 1000000) (z : w.cell? ⟨b, 0, none⟩ = some (.slice a n cap)) :
    Calls Tryz.prog 107 #[.agg #[.string p, .string v], .pointer (some ⟨b, 0, none⟩)] w fun e w' => e = .returned (.bool (lost (enF n P V R K B) (p.data.toList, v.data.toList))) ∧ Below w.heap.size w w' := by
  have hb := below_alloc w (.cells #[.string p, .string v] 38)
  have hz := box2_alloc w (.string p) (.string v) 38
  have z1 := Below.cell_some hb z
  have hf := idxFind_in a n cap P V R K B Rv Kv p v (w.alloc (.cells #[.string p, .string v] 38)) (h.below hb) hl
  show Calls _ _ _ _ fun e w' => e = .returned (.bool (decide (findE (enF n P V R K B) (p.data.toList, v.data.toList) < 0))) ∧ Below w.heap.size w w'
  generalize findE (enF n P V R K B) (p.data.toList, v.data.toList) = x at hf ⊢
  replace hf := Lib.hid hf
  clear h z
  obtain ⟨y0, y1, _⟩ := hz
  go_enter Tryz.func107, Tryz.ntmps107
  go_wp2_with fail
  refine hf.out.mono ?_
  rintro e w1 ⟨rfl, hb1⟩
  go_wp2_with fail
  go_ret
  exact ⟨rfl, below_step hb hb1⟩
set_option maxHeartbeats 4000000 in
set_option maxRecDepth 100000 in
theorem idxCheck_in (ks : List Nat) (A : Nat → Addr) (hks : IdxKs ks) (a : Option Addr) (n cap : Nat) (P V : Nat → ByteArray) (R : Nat → List Md) (K : Nat → List Str) (B : Nat → Bool) (Rv Kv : Nat → Value) (w : World) (hE : EnvP ks A w) (h : EntsIn w a n cap P V R K B Rv Kv) (hs : ShortI (enF n P V R K B)) :
    Calls Tryz.prog 58 #[.slice a n cap] w fun e w' => (∃ v, e = .returned v ∧ FaultAt A w' v (idxErr (enF n P V R K B))) ∧ Below w.heap.size w w' := by
  have hB := below_alloc w (.cells #[.slice a n cap] 22)
  have z1 : (w.alloc (.cells #[.slice a n cap] 22)).cell? ⟨w.heap.size, 0, none⟩ = some (.slice a n cap) := by simp
  have hn : n ≤ 1000000 := by have := hs.len; rw [enF_length] at this; exact this
  replace hE := hE.below hB
  have HE : Hid (idxErr (enF n P V R K B) = if 100 < n then (7, -1) else orE (firstE (entErr (enF n P V R K B)) n) (firstE (lostE (enF n P V R K B)) n)) := Lib.hid (by unfold idxErr; rw [enF_length])
  have H := Lib.hid h
  have HS := Lib.hid hs
  clear h hs
  by_cases h100 : 100 < n
  · have h100' : (100 : Int) < (n : Int) := by omega
    have HF : Hid (idxErr (enF n P V R K B) = (7, -1)) := Lib.hid (by rw [HE.out, if_pos h100])
    have HR : Hid (∀ W, FaultAt A W (errV A 7) (7, -1)) := Lib.hid (fun W => .inr (.inl ⟨by decide, rfl, rfl⟩))
    rw [errV_pos A (c := 7) (by decide)] at HR
    have g7 := hE.errs.var 7 hks.2.2.2.1
    simp only [errG] at g7
    go_enter Tryz.func58, Tryz.ntmps58
    go_wp2_with fail
    go_ret
    rw [HF.out]
    exact ⟨⟨_, rfl, HR.out _⟩, hB⟩
  · have h100' : ¬ (100 : Int) < (n : Int) := by omega
    have HE1 : Hid (idxErr (enF n P V R K B) = orE (firstE (entErr (enF n P V R K B)) n) (firstE (lostE (enF n P V R K B)) n)) := Lib.hid (by rw [HE.out, if_neg h100])
    clear HE h100
    go_enter Tryz.func58, Tryz.ntmps58
    go_wp2_with fail
    generalize hw1 : w.alloc (.cells #[.slice a n cap] 22) = w1 at *
    clear hw1 h100'
    go_loopw [13] (fun i wr => ∃ k : Nat, k ≤ n ∧ i = .int .i64 k ∧ Below w1.heap.size w1 wr ∧ Hid (∀ j, j < k → entErr (enF n P V R K B) j = 0)) (fun i _ => n - (intOf i).toNat)
    case atStart => exact ⟨0, Nat.zero_le _, rfl, Below.refl _ _, Lib.hid (fun j hj => absurd hj (Nat.not_lt_zero _))⟩
    case round =>
      obtain ⟨k, hk, rfl, hb, HA⟩ := hrel
      have hBr := below_step hB hb
      have d1 := Below.cell_some hb z1
      by_cases hlt : k < n
      · have hkn : (k : Int) < (n : Int) := by omega
        have hen := idxEntry_calls ks A hks a n cap P V R K B Rv Kv k wr (hE.below hb) (H.out.below hBr) HS.out hlt
        by_cases h0 : entErr (enF n P V R K B) k = 0
        · have HN : Hid (∀ j, j < k + 1 → entErr (enF n P V R K B) j = 0) := Lib.hid (fun j hj => by
            by_cases e : j = k
            · subst e; exact h0
            · exact HA.out j (by omega))
          rw [h0, errV_zero] at hen
          clear h0
          replace hen := Lib.hid hen
          go_wp2_with fail
          refine hen.out.mono ?_
          rintro e w3 ⟨rfl, hb3⟩
          go_wp2_with fail
          go_roundw
          case rel => exact ⟨k + 1, by omega, by go_num, below_step hb hb3, HN⟩
          case measure => simp [intOf]; omega
        · have HF : Hid (idxErr (enF n P V R K B) = (entErr (enF n P V R K B) k, (k : Int))) := Lib.hid (by
            rw [HE1.out]; unfold orE; rw [firstE_hit h0 HA.out hlt, if_pos h0])
          have H0 := Lib.hid h0
          rw [errV_pos A h0] at hen
          clear h0
          replace hen := Lib.hid hen
          go_wp2_with fail
          refine hen.out.mono ?_
          rintro e w3 ⟨rfl, hb3⟩
          go_wp2_with fail
          go_ret
          rw [HF.out]
          refine ⟨⟨_, rfl, .inr (.inr ⟨H0.out, w3.heap.size, rfl, by simp, ?_⟩)⟩, (below_step hBr hb3).alloc (below_step hBr hb3).size _⟩
          rw [errV_pos A H0.out]
          simp
      · obtain rfl : n = k := by omega
        have HE2 : Hid (idxErr (enF n P V R K B) = firstE (lostE (enF n P V R K B)) n) := Lib.hid (by
          rw [HE1.out]; unfold orE; rw [firstE_none HA.out, if_neg (by decide)])
        have hE5 := hE.below hb
        clear HE1 HA hlt hk z1 hE hB hb
        go_wp2_with fail
        generalize wr = w5 at *
        go_loopw [29] (fun i wr => ∃ k : Nat, k ≤ n ∧ i = .int .i64 k ∧ Below w5.heap.size w5 wr ∧ Hid (∀ j, j < k → lostE (enF n P V R K B) j = 0)) (fun i _ => n - (intOf i).toNat)
        case atStart => exact ⟨0, Nat.zero_le _, rfl, Below.refl _ _, Lib.hid (fun j hj => absurd hj (Nat.not_lt_zero _))⟩
        case round =>
          obtain ⟨k, hk, rfl, hb, HA⟩ := hrel
          have hB6 := below_step hBr hb
          replace d1 := Below.cell_some hb d1
          by_cases hlt : k < n
          · have hkn : (k : Int) < (n : Int) := by omega
            obtain ⟨b1, o1, ea, hcell⟩ := (H.out.below hB6).at_ k hlt
            obtain ⟨a1, n1, s1, a2, n2, s2, e1, e2⟩ := H.out.forms hlt
            have hM := (H.out.below hB6).reqs k hlt
            have hsR := (HS.out.at_ hlt).2.2.2.1
            rw [e1, e2] at hcell
            rw [e1] at hM
            obtain ⟨aM, nM, cM, P2, V2, e3, e4, h5, h6, h7⟩ := hM
            injection e3 with e5 e6 e7
            subst e5 e6 e7
            have hnM : n1 ≤ 1000000 := by have := hsR.1; rw [e4, mdF_length] at this; exact this
            have hba := below_alloc wr (.cells #[.string (P k), .string (V k), .slice a1 n1 s1, .slice a2 n2 s2, .bool (B k)] 43)
            have y2 : (wr.alloc (.cells #[.string (P k), .string (V k), .slice a1 n1 s1, .slice a2 n2 s2, .bool (B k)] 43)).cell? ⟨wr.heap.size, 2, none⟩ = some (.slice a1 n1 s1) := by simp
            have hB7 := below_step hB6 hba
            have hb7 := below_step hb hba
            have hcm := containsMf_calls 107 #[.pointer (some ⟨w.heap.size, 0, none⟩)] Tryz.enters_icheck1 (lost (enF n P V R K B)) a1 n1 s1 (wr.alloc (.cells #[.string (P k), .string (V k), .slice a1 n1 s1, .slice a2 n2 s2, .bool (B k)] 43)).heap.size P2 V2 (wr.alloc (.cells #[.string (P k), .string (V k), .slice a1 n1 s1, .slice a2 n2 s2, .bool (B k)] 43)) hnM (Nat.le_refl _)
              (fun j hj => let ⟨b, o, e, h1, h2⟩ := h7 j hj; ⟨b, o, e, Below.cell_some hba h1, Below.cell_some hba h2⟩)
              (fun W hW j hj => idxCheck1_calls a n cap P V R K B Rv Kv w.heap.size (P2 j) (V2 j) W ((H.out.below hB7).below hW) hn (Below.cell_some hW (Below.cell_some hba d1)))
            have hR : lostE (enF n P V R K B) k = if (mdF n1 P2 V2).any (lost (enF n P V R K B)) = true then 5 else 0 := by
              unfold lostE
              rw [enAt_enF hlt]
              show (if (R k).any _ = true then 5 else 0) = _
              rw [e4]
            have hE7 := hE5.below hb7
            subst ea
            obtain ⟨c0, c1, c2, c3, c4⟩ := hcell
            clear e1 e2 e4 h5 h6 h7 hsR hnM hB6
            cases hX : (mdF n1 P2 V2).any (lost (enF n P V R K B)) with
            | false =>
              rw [hX] at hcm
              rw [hX, if_neg (by decide)] at hR
              have HN : Hid (∀ j, j < k + 1 → lostE (enF n P V R K B) j = 0) := Lib.hid (fun j hj => by
                by_cases e : j = k
                · subst e; exact hR
                · exact HA.out j (by omega))
              clear hX hR
              replace hcm := Lib.hid hcm
              go_wp2_with fail
              refine hcm.out.mono ?_
              rintro e w8 ⟨rfl, hb8⟩
              go_wp2_with fail
              go_roundw
              case rel => exact ⟨k + 1, by omega, by go_num, below_step hb7 hb8, HN⟩
              case measure => simp [intOf]; omega
            | true =>
              rw [hX] at hcm
              rw [hX, if_pos rfl] at hR
              have HF : Hid (idxErr (enF n P V R K B) = (5, (k : Int))) := Lib.hid (by
                rw [HE2.out, firstE_hit (by rw [hR]; decide) HA.out hlt, hR])
              clear hX hR
              replace hcm := Lib.hid hcm
              go_wp2_with fail
              refine hcm.out.mono ?_
              rintro e w8 ⟨rfl, hb8⟩
              have hE8 := hE7.below hb8
              have g5 := hE8.errs.var 5 hks.2.2.1
              simp only [errG] at g5
              go_wp2_with fail
              go_ret
              rw [HF.out]
              refine ⟨⟨_, rfl, .inr (.inr ⟨(show (5 : Nat) ≠ 0 by decide), w8.heap.size, rfl, by simp, ?_⟩)⟩, (below_step hB7 hb8).alloc (below_step hB7 hb8).size _⟩
              show _ = some (errV A 5)
              rw [errV_pos A (show (5 : Nat) ≠ 0 by decide)]
              simp
          · obtain rfl : n = k := by omega
            have HF : Hid (idxErr (enF n P V R K B) = (0, -1)) := Lib.hid (by rw [HE2.out, firstE_none HA.out])
            go_wp2_with fail
            go_ret
            rw [HF.out]
            exact ⟨⟨_, rfl, .inl ⟨rfl, rfl, rfl⟩⟩, hB6⟩
end Go.Proofs.Pw

namespace Go.Proofs.Pw
open Go.RowKit
open Go.Lib hiding intOf
theorem ownsRow_kept {w w' : World} {base e size n : Nat} {v : Value} {xs : List Value} (h : w.ownsRow base e size v n xs) (hb : Below w.heap.size w w') : w'.ownsRow base e size v n xs := by
  refine ⟨h.1, ?_⟩
  rcases h.2 with h2 | ⟨g, c, cur, h1, h2, h3, h4⟩
  · exact .inl h2
  · exact .inr ⟨g, c, cur, h1, h2, (hb.block g (Array.getElem?_eq_some_iff.1 h3).1).trans h3, h4⟩
theorem _root_.Go.World.ownsRow.below {w w' : World} {base e size n : Nat} {v : Value} {xs : List Value} (h : w.ownsRow base e size v n xs) (hb : Below w.heap.size w w') : w'.ownsRow base e size v n xs := ownsRow_kept h hb
theorem ownsRow_set {w : World} {base e k n b j : Nat} {v : Value} {xs : List Value} (h : w.ownsRow base e k v n xs) (hn : v.ownBlock ≠ some b) (u : Value) : (w.setCell ⟨b, j, none⟩ u).ownsRow base e k v n xs := by
  refine ⟨h.1, ?_⟩
  rcases h.2 with h2 | ⟨g, c, cur, rfl, h2, h3, h4⟩
  · exact .inl h2
  · have hg : g ≠ b := fun e => hn (by rw [e]; rfl)
    exact .inr ⟨g, c, cur, rfl, h2, (Go.Deep.blk_setCell_other _ _ _ _ hg).trans h3, h4⟩
theorem cell_two_new (w : World) (x y : ByteArray) (t : TypeId) : ∀ j u, ([.string x, .string y] : List Value)[j]? = some u → (w.alloc (.cells #[.string x, .string y] t)).cell? ((⟨w.heap.size, 0, none⟩ : Addr).add j) = some u :=
  World.news_of_block (cs := #[.string x, .string y]) (Go.Deep.blk_alloc_new w _)
theorem mdVs_snoc (l : List (ByteArray × ByteArray)) (x y : ByteArray) : mdVs l ++ [.string x, .string y] = mdVs (l ++ [(x, y)]) := by rw [mdVs_append]; rfl
theorem apart_row {u o : Value} (h : ∀ b, o.ownBlock = some b → u.ownBlock ≠ some b) : u.ownBlock = none ∨ u.ownBlock ≠ o.ownBlock := by
  by_cases hu : u.ownBlock = none
  · exact .inl hu
  · refine .inr (fun e => ?_)
    cases ho : o.ownBlock with
    | none => exact hu (e.trans ho)
    | some b => exact h b ho (e.trans ho)
theorem own_form {w : World} {base e k n : Nat} {v : Value} {xs : List Value} (h : w.ownsRow base e k v n xs) : ∃ a m c, v = .slice a m c := by
  rcases h.2 with ⟨rfl, _⟩ | ⟨g, cap, cur, rfl, _⟩
  · exact ⟨_, _, _, rfl⟩
  · exact ⟨_, _, _, rfl⟩
theorem own_ne {w : World} {base e k n b : Nat} {v : Value} {xs : List Value} (h : w.ownsRow base e k v n xs) (hb : b < base) : v.ownBlock ≠ some b := fun e => by
  have := (h.lt b e).1
  omega
theorem fault_form {A : Nat → Addr} {w : World} {v : Value} {r : Nat × Int} (h : FaultAt A w v r) : (r.1 = 0 ∧ v = .nilIface) ∨ (r.1 ≠ 0 ∧ ∃ t q, v = .iface t (.pointer q)) := by
  rcases h with h | h | ⟨h, b, rfl, _⟩
  · exact .inl ⟨h.1, h.2.2⟩
  · refine .inr ⟨h.1, ?_⟩
    rw [h.2.2, errV_pos A h.1]; exact ⟨_, _, rfl⟩
  · exact .inr ⟨h, _, _, rfl⟩
theorem ModsAt.cells {w : World} {v : Value} {l : List Md} (h : ModsAt w v l) : ∃ a c P V, v = .slice a l.length c ∧ l = mdF l.length P V ∧ ∀ j, j < l.length → ∃ b o, a = some ⟨b, o, none⟩ ∧ w.cell? ⟨b, o + j * 2, none⟩ = some (.string (P j)) ∧ w.cell? ⟨b, o + j * 2 + 1, none⟩ = some (.string (V j)) := by
  obtain ⟨a, n, cap, P, V, rfl, rfl, h3, h4, h5⟩ := h
  rw [mdF_length]
  exact ⟨a, cap, P, V, rfl, rfl, h5⟩
theorem ModsAt.cell {w : World} {v : Value} {l : List Md} {k : Nat} {p q : ByteArray} (h : ModsAt w v l) (hk : l[k]? = some (p.data.toList, q.data.toList)) : ∃ b o c, v = .slice (some ⟨b, o, none⟩) l.length c ∧ k < l.length ∧ w.cell? ⟨b, o + k * 2, none⟩ = some (.string p) ∧ w.cell? ⟨b, o + k * 2 + 1, none⟩ = some (.string q) := by
  obtain ⟨a, n, cap, P, V, rfl, rfl, h3, h4, h5⟩ := h
  have hl : k < n := by have := (List.getElem?_eq_some_iff.1 hk).1; rwa [mdF_length] at this
  obtain ⟨b, o, rfl, e1, e2⟩ := h5 k hl
  rw [mdF_get n P V k hl] at hk
  have := bytes_pair.1 (Option.some.inj hk)
  rw [this.1] at e1
  rw [this.2] at e2
  rw [mdF_length]
  exact ⟨b, o, cap, rfl, hl, e1, e2⟩
end Go.Proofs.Pw

namespace Go.Proofs.Pw
open Go.Lib hiding intOf
inductive Reached (l : List En) (roots : List Md) : Md → Prop
  | root {m : Md} : m ∈ roots → Reached l roots m
  | step {e : En} {r : Md} : e ∈ l → Reached l roots e.md → r ∈ e.reqs → Reached l roots r
noncomputable def isReached (l : List En) (roots : List Md) (m : Md) : Bool := @decide (Reached l roots m) (Classical.propDecidable _)
theorem isReached_iff {l : List En} {roots : List Md} {m : Md} : isReached l roots m = true ↔ Reached l roots m := by
  unfold isReached
  exact @decide_eq_true_iff _ (Classical.propDecidable _)
noncomputable def reachL (l : List En) (roots : List Md) : List Md := (l.map (·.md)).filter (isReached l roots)
def rootE (l : List En) (roots : List Md) (i : Nat) : Nat := if findE l (mdAt roots i) < 0 then 5 else 0
def rootsErr (l : List En) (roots : List Md) : Nat × Int := firstE (rootE l roots) roots.length
def startErr (l : List En) (roots : List Md) : Nat × Int := orE (idxErr l) (rootsErr l roots)
structure RightG (l : List En) (roots : List Md) : Prop where
  idx : RightI l
  at_ : ∀ m ∈ roots, ∃ e ∈ l, e.md = m
theorem rootsErr_zero {l : List En} {roots : List Md} : (rootsErr l roots).1 = 0 ↔ ∀ m ∈ roots, ∃ e ∈ l, e.md = m := by
  constructor
  · intro h m hm
    obtain ⟨i, hi⟩ := List.getElem?_of_mem hm
    have hl := (List.getElem?_eq_some_iff.1 hi).1
    have h1 := firstE_zero h i hl
    unfold rootE at h1
    rw [mdAt_get hl] at hi
    rw [Option.some.inj hi] at h1
    by_cases h2 : findE l m < 0
    · rw [if_pos h2] at h1; cases h1
    · obtain ⟨k, _, hk, e⟩ := findE_nat h2
      exact ⟨_, enAt_mem hk, e⟩
  · intro h
    unfold rootsErr
    rw [firstE_none fun i hi => ?_]
    unfold rootE
    rw [if_neg]
    rw [findE_lt]
    obtain ⟨e, he, h1⟩ := h _ (mdAt_mem hi)
    exact fun h2 => h2 e he h1
theorem rightG_of {l : List En} {roots : List Md} (h : (startErr l roots).1 = 0) : RightG l roots := by
  unfold startErr at h
  rw [orE_zero] at h
  exact ⟨rightI_of h.1, rootsErr_zero.1 h.2⟩
theorem startErr_app {l : List En} {a b : List Md} : (startErr l (a ++ b)).1 = 0 ↔ (startErr l a).1 = 0 ∧ (startErr l b).1 = 0 := by
  unfold startErr
  rw [orE_zero, orE_zero, orE_zero, rootsErr_zero, rootsErr_zero, rootsErr_zero]
  constructor
  · rintro ⟨h1, h2⟩
    exact ⟨⟨h1, fun m hm => h2 m (by simp [hm])⟩, h1, fun m hm => h2 m (by simp [hm])⟩
  · rintro ⟨⟨h1, h2⟩, _, h3⟩
    refine ⟨h1, fun m hm => ?_⟩
    rcases List.mem_append.1 hm with h | h
    · exact h2 m h
    · exact h3 m h
theorem startErr_at {l : List En} {roots : List Md} (h : (startErr l roots).1 = 0) : startErr l roots = (0, -1) := by
  unfold startErr at h ⊢
  rw [orE_zero] at h
  unfold orE
  rw [if_neg (by simp [h.1])]
  unfold rootsErr at h ⊢
  exact firstE_none (firstE_zero h.2)
theorem reached_closed {l : List En} {roots T : List Md} (h1 : ∀ m ∈ roots, m ∈ T) (h2 : ∀ e ∈ l, e.md ∈ T → ∀ r ∈ e.reqs, r ∈ T) {m : Md} (h : Reached l roots m) : m ∈ T := by
  induction h with
  | root hm => exact h1 _ hm
  | step he _ hr ih => exact h2 _ he ih _ hr
theorem RightG.entry {l : List En} {roots : List Md} (h : RightG l roots) {m : Md} (hm : Reached l roots m) : ∃ e ∈ l, e.md = m := by
  induction hm with
  | root hm => exact h.at_ _ hm
  | step he _ hr _ => exact h.idx.all _ he _ hr
theorem RightG.mem {l : List En} {roots : List Md} (h : RightG l roots) {m : Md} : m ∈ reachL l roots ↔ Reached l roots m := by
  unfold reachL
  rw [List.mem_filter, isReached_iff]
  exact ⟨fun h => h.2, fun hm => by
    obtain ⟨e, he, h1⟩ := h.entry hm
    exact ⟨List.mem_map.2 ⟨e, he, h1⟩, hm⟩⟩
theorem reachL_rises {l : List En} (h : RightI l) (roots : List Md) : Rises modCmp (reachL l roots) := List.Pairwise.sublist List.filter_sublist h.rise
theorem RightG.is {l : List En} {roots x : List Md} (h : RightG l roots) (hx : Rises modCmp x) (hm : ∀ m, m ∈ x ↔ Reached l roots m) : x = reachL l roots :=
  rises_ext modCmp_ord hx (reachL_rises h.idx roots) fun m => by rw [hm, h.mem]
theorem reached_sub {l : List En} {a b : List Md} (h : ∀ m ∈ a, Reached l b m) {m : Md} (hm : Reached l a m) : Reached l b m := by
  induction hm with
  | root hm => exact h _ hm
  | step he _ hr ih => exact .step he ih hr
theorem reached_app {l : List En} {a b : List Md} {m : Md} : Reached l (a ++ b) m ↔ Reached l a m ∨ Reached l b m := by
  constructor
  · intro h
    induction h with
    | root hm =>
      rcases List.mem_append.1 hm with h | h
      · exact .inl (.root h)
      · exact .inr (.root h)
    | step he _ hr ih =>
      rcases ih with h | h
      · exact .inl (.step he h hr)
      · exact .inr (.step he h hr)
  · rintro (h | h)
    · exact reached_sub (fun m hm => .root (by simp [hm])) h
    · exact reached_sub (fun m hm => .root (by simp [hm])) h
theorem RightG.right {l : List En} {roots : List Md} (h : RightG l roots) {m : Md} (hm : Reached l roots m) : mdErr m = 0 := by
  obtain ⟨e, he, rfl⟩ := h.entry hm
  exact h.idx.mds e he
end Go.Proofs.Pw

namespace Go.Proofs.Pw
open Go.RowKit
open Go.Lib hiding intOf
set_option maxHeartbeats 4000000 in
set_option maxRecDepth 100000 in
theorem grStart_in (ks : List Nat) (A : Nat → Addr) (hks : IdxKs ks) (a : Option Addr) (n cap : Nat) (P V : Nat → ByteArray) (R : Nat → List Md) (K : Nat → List Str) (B : Nat → Bool) (Rv Kv : Nat → Value) (rv : Value) (roots : List Md) (w : World) (hE : EnvP ks A w) (h : EntsIn w a n cap P V R K B Rv Kv) (hs : ShortI (enF n P V R K B)) (hr : ModsAt w rv roots) (hl : roots.length ≤ 1000000) :
    Calls Tryz.prog 65 #[.slice a n cap, rv] w fun e w' => (∃ v, e = .returned v ∧ FaultAt A w' v (startErr (enF n P V R K B) roots)) ∧ Below w.heap.size w w' := by
  have hn : n ≤ 1000000 := by have := hs.len; rw [enF_length] at this; exact this
  have hck := idxCheck_in ks A hks a n cap P V R K B Rv Kv w hE h hs
  have HE : Hid (startErr (enF n P V R K B) roots = orE (idxErr (enF n P V R K B)) (firstE (rootE (enF n P V R K B) roots) roots.length)) := Lib.hid rfl
  have H := Lib.hid h
  clear h hs
  obtain ⟨ar, rn, rc, P2, V2, rfl, rfl, h5, h6, h7⟩ := hr
  rw [mdF_length] at hl HE
  replace hck := Lib.hid hck
  replace h7 := Lib.hid h7
  clear h5 h6
  go_enter Tryz.func65, Tryz.ntmps65
  go_wp2_with fail
  refine hck.out.mono ?_
  rintro e w1 ⟨⟨v, rfl, hv⟩, hB⟩
  have hE1 := hE.below hB
  clear hck hE
  rcases fault_form hv with ⟨h0, rfl⟩ | ⟨h0, ty, q, rfl⟩
  · have HE1 : Hid (startErr (enF n P V R K B) (mdF rn P2 V2) = firstE (rootE (enF n P V R K B) (mdF rn P2 V2)) rn) := Lib.hid (by rw [HE.out]; unfold orE; rw [if_neg (by simp [h0])])
    clear HE h0 hv
    go_wp2_with fail
    go_loopw [15] (fun i wr => ∃ k : Nat, k ≤ rn ∧ i = .int .i64 k ∧ Below w1.heap.size w1 wr ∧ Hid (∀ j, j < k → rootE (enF n P V R K B) (mdF rn P2 V2) j = 0)) (fun i _ => rn - (intOf i).toNat)
    case atStart => exact ⟨0, Nat.zero_le _, rfl, Below.refl _ _, Lib.hid (fun j hj => absurd hj (Nat.not_lt_zero _))⟩
    case round =>
      obtain ⟨k, hk, rfl, hb, HA⟩ := hrel
      have hBr := below_step hB hb
      by_cases hlt : k < rn
      · have hkn : (k : Int) < (rn : Int) := by omega
        obtain ⟨b1, o1, ea, c0, c1⟩ := h7.out k hlt
        replace c0 := Below.cell_some hBr c0
        replace c1 := Below.cell_some hBr c1
        have hba := below_alloc wr (.cells #[.string (P2 k), .string (V2 k)] 38)
        obtain ⟨y0, y1, _⟩ := box2_alloc wr (.string (P2 k)) (.string (V2 k)) 38
        have hB2 := below_step hBr hba
        have hb2 := below_step hb hba
        have hE2 := hE1.below hb2
        have hf := idxFind_in a n cap P V R K B Rv Kv (P2 k) (V2 k) (wr.alloc (.cells #[.string (P2 k), .string (V2 k)] 38)) (H.out.below hB2) hn
        have hR : rootE (enF n P V R K B) (mdF rn P2 V2) k = if findE (enF n P V R K B) ((P2 k).data.toList, (V2 k).data.toList) < 0 then 5 else 0 := by
          unfold rootE
          rw [mdAt_mdF hlt]
        generalize findE (enF n P V R K B) ((P2 k).data.toList, (V2 k).data.toList) = x at hf hR
        subst ea
        replace hf := Lib.hid hf
        by_cases hx : x < 0
        · rw [if_pos hx] at hR
          have HF : Hid (startErr (enF n P V R K B) (mdF rn P2 V2) = (5, (k : Int))) := Lib.hid (by rw [HE1.out, firstE_hit (by rw [hR]; decide) HA.out hlt, hR])
          clear hR hk
          go_wp2_with fail
          refine hf.out.mono ?_
          rintro e w8 ⟨rfl, hb8⟩
          have hE8 := hE2.below hb8
          have g5 := hE8.errs.var 5 hks.2.2.1
          simp only [errG] at g5
          go_wp2_with fail
          go_ret
          rw [HF.out]
          refine ⟨⟨_, rfl, .inr (.inr ⟨(show (5 : Nat) ≠ 0 by decide), w8.heap.size, rfl, by simp, ?_⟩)⟩, (below_step hB2 hb8).alloc (below_step hB2 hb8).size _⟩
          show _ = some (errV A 5)
          rw [errV_pos A (show (5 : Nat) ≠ 0 by decide)]
          simp
        · rw [if_neg hx] at hR
          have HN : Hid (∀ j, j < k + 1 → rootE (enF n P V R K B) (mdF rn P2 V2) j = 0) := Lib.hid (fun j hj => by
            by_cases e : j = k
            · subst e; exact hR
            · exact HA.out j (by omega))
          clear hR hk
          go_wp2_with fail
          refine hf.out.mono ?_
          rintro e w8 ⟨rfl, hb8⟩
          go_wp2_with fail
          go_roundw
          case rel => exact ⟨k + 1, by omega, by go_num, below_step hb2 hb8, HN⟩
          case measure => simp [intOf]; omega
      · obtain rfl : rn = k := by omega
        have HF : Hid (startErr (enF n P V R K B) (mdF rn P2 V2) = (0, -1)) := Lib.hid (by rw [HE1.out, firstE_none HA.out])
        go_wp2_with fail
        go_ret
        rw [HF.out]
        exact ⟨⟨_, rfl, .inl ⟨rfl, rfl, rfl⟩⟩, hBr⟩
  · have HF : Hid (startErr (enF n P V R K B) (mdF rn P2 V2) = idxErr (enF n P V R K B)) := Lib.hid (by rw [HE.out]; unfold orE; rw [if_pos h0])
    have HV := Lib.hid hv
    clear hv h0
    go_wp2_with fail
    go_ret
    rw [HF.out]
    exact ⟨⟨_, rfl, HV.out⟩, hB⟩
end Go.Proofs.Pw

namespace Go.Proofs.Pw
open Go.RowKit
open Go.Lib hiding intOf
abbrev MB := ByteArray × ByteArray
def mdV (m : MB) : Value := .agg #[.string m.1, .string m.2]
def noMB : MB := (⟨#[]⟩, ⟨#[]⟩)
def mapF (S : List (MB × MB)) (k : MB) : Option MB := (S.find? fun p => decide (k = p.1)).map (·.2)
def MapIs (w : World) (b : Nat) (S : List (MB × MB)) : Prop :=
  ∃ es clock, w.heap[b]? = some (.map es clock) ∧ es.toList.map (fun e => (e.key, e.val)) = S.map fun p => (mdV p.1, mdV p.2)
theorem mdV_equal (k m : MB) (w : World) : (Op.equal 38 (mdV k) (mdV m)).run Tryz.prog w = .ok (decide (k = m)) w := by
  have h := md_equal k.1 k.2 m.1 m.2 w
  have e : decide (k.1 = m.1 ∧ k.2 = m.2) = decide (k = m) := by
    exact decide_eq_decide.2 (Prod.ext_iff (x := k) (y := m)).symm
  rw [e] at h
  exact h
theorem run_findAsking_md (k : MB) (w : World) : ∀ (es : List MapEntry) (S : List (MB × MB)) (i : Nat), es.map (fun e => (e.key, e.val)) = S.map (fun p => (mdV p.1, mdV p.2)) →
    ∃ r, (Instr.findAsking 38 (mdV k) es i).run Tryz.prog w = .ok r w ∧ r.map (·.2) = (mapF S k).map mdV
  | [], [], i, _ => ⟨none, rfl, rfl⟩
  | [], _ :: _, i, h => by cases h
  | _ :: _, [], i, h => by cases h
  | e :: es, p :: S, i, h => by
    rw [List.map_cons, List.map_cons] at h
    injection h with h1 h2
    injection h1 with h3 h4
    have hq := mdV_equal k p.1 w
    unfold Instr.findAsking mapF
    rw [List.find?_cons, h3]
    by_cases hk : k = p.1
    · rw [decide_eq_true hk] at hq
      simp only [decide_eq_true hk]
      refine ⟨some (i, e.val), ?_, by simp [h4]⟩
      simp only [Sem.run_bind, hq, Result.andThen_ok, if_true, Sem.run_pure]
    · rw [decide_eq_false hk] at hq
      simp only [decide_eq_false hk]
      obtain ⟨r, hr, e2⟩ := run_findAsking_md k w es S (i + 1) h2
      refine ⟨r, ?_, e2⟩
      simp only [Sem.run_bind, hq, Result.andThen_ok, Bool.false_eq_true, if_false, hr]
theorem run_findKey_md (k : MB) (w : World) (es : List MapEntry) (S : List (MB × MB)) (h : es.map (fun e => (e.key, e.val)) = S.map (fun p => (mdV p.1, mdV p.2))) :
    ∃ r, (Instr.findKey 38 (mdV k) es).run Tryz.prog w = .ok r w ∧ r.map (·.2) = (mapF S k).map mdV := by
  unfold Instr.findKey
  simp only [Sem.run_bind, run_underlying Tryz.md_fields, Result.andThen_ok]
  cases es with
  | nil =>
    cases S with
    | nil => exact ⟨none, rfl, rfl⟩
    | cons _ _ => cases h
  | cons e es =>
    have : Instr.findNow (.struct (Tryz.prog.fieldsOf 38)) (mdV k) (e :: es) 0 = none := rfl
    rw [this]
    exact run_findAsking_md k w _ S 0 h
theorem md_part0 (p q : ByteArray) (w : World) : (part 9 #[.string p, .string q] 0).run Tryz.prog w = .ok (.string p) w := by
  have hu := Tryz.isAgg9
  have hs := Tryz.sizeOf9
  simp [part, hu, hs]
theorem md_part1 (p q : ByteArray) (w : World) : (part 9 #[.string p, .string q] 1).run Tryz.prog w = .ok (.string q) w := by
  have hu := Tryz.isAgg9
  have hs := Tryz.sizeOf9
  simp [part, hu, hs]
theorem run_checkKey_str (em : Bool) (n : Nat) (p : ByteArray) (w : World) : (Instr.checkKey em (n + 1) 9 (.string p)).run Tryz.prog w = .ok () w := by
  have hs := Tryz.underlying9
  rw [Instr.checkKey]
  simp only [Sem.run_bind, run_underlying hs, Result.andThen_ok]
  rfl
theorem run_checkKey_md (em : Bool) (k : MB) (w : World) : (Instr.checkKey em 10000 38 (mdV k)).run Tryz.prog w = .ok () w := by
  have hu := Tryz.underlying38
  unfold mdV
  rw [show (10000 : Nat) = 9998 + 1 + 1 from rfl, Instr.checkKey]
  simp only [Sem.run_bind, run_underlying hu, Result.andThen_ok]
  rw [← Array.forIn_toList]
  simp only [List.forIn_cons, List.forIn_nil, Sem.run_bind, Sem.run_pure, if_pos (show "Path" ≠ "_" by decide), if_pos (show "Ver" ≠ "_" by decide), md_part0, md_part1, run_checkKey_str, Result.andThen_ok]
theorem mapF_none {S : List (MB × MB)} {k : MB} : mapF S k = none ↔ k ∉ S.map (·.1) := by
  unfold mapF
  rw [Option.map_eq_none_iff, List.find?_eq_none]
  constructor
  · intro h hm
    obtain ⟨p, hp, e⟩ := List.mem_map.1 hm
    exact h p hp (by simp [e])
  · intro h p hp
    simp only [decide_eq_true_eq]
    exact fun e => h (e ▸ List.mem_map.2 ⟨p, hp, rfl⟩)
theorem run_zero_md (w : World) : (zeroValue 38).run Tryz.prog w = .ok (mdV noMB) w := Tryz.zeroValue38 w
theorem md_lookup {w : World} {b : Nat} {S : List (MB × MB)} (h : MapIs w b S) (k : MB) (c : Bool) :
    (Instr.lookup 82 (.map (some b)) (mdV k) c).run Tryz.prog w = .ok (if c then .tuple #[mdV ((mapF S k).getD noMB), .bool (mapF S k).isSome] else mdV ((mapF S k).getD noMB)) w := by
  obtain ⟨es, clock, hb, he⟩ := h
  obtain ⟨r, hr, e⟩ := run_findKey_md k w es.toList S he
  unfold Instr.lookup
  simp only [Sem.run_bind, run_underlying Tryz.underlying82, Result.andThen_ok, MapKept.run_getObj_map hb, Sem.run_pure, run_checkKey_md, hr]
  cases r with
  | none =>
    rw [Option.map_none] at e
    have e' : mapF S k = none := by
      cases hm : mapF S k with
      | none => rfl
      | some _ => rw [hm] at e; cases e
    rw [e']
    simp only [Sem.run_bind, run_zero_md, Result.andThen_ok, Sem.run_pure]
    cases c <;> rfl
  | some jv =>
    cases hm : mapF S k with
    | none => rw [hm] at e; cases e
    | some m =>
      rw [hm] at e
      have e2 : jv.2 = mdV m := Option.some.inj e
      obtain ⟨j, v⟩ := jv
      simp only at e2
      subst e2
      simp only [Sem.run_bind, Result.andThen_ok, Sem.run_pure]
      cases c <;> rfl
theorem md_new {w : World} {b : Nat} {S : List (MB × MB)} (h : MapIs w b S) (k v : MB) (hk : k ∉ S.map (·.1)) :
    ∃ w', (Instr.mapUpdate 82 (.map (some b)) (mdV k) (mdV v)).run Tryz.prog w = .ok () w' ∧ MapIs w' b (S ++ [(k, v)]) ∧ w.grownBy w' (some b) := by
  obtain ⟨es, clock, hb, he⟩ := h
  obtain ⟨r, hr, e⟩ := run_findKey_md k w es.toList S he
  have hn : r = none := by
    rw [mapF_none.2 hk] at e
    cases r with
    | none => rfl
    | some _ => cases e
  subst hn
  have hh := MapKept.heap_set (o' := .map (es.push { key := mdV k, val := mdV v, born := clock }) (clock + 1)) hb
  refine ⟨{ w with heap := w.heap.setIfInBounds b (.map (es.push { key := mdV k, val := mdV v, born := clock }) (clock + 1)) }, ?_, ⟨_, _, hh.1, ?_⟩, ⟨rfl, rfl, rfl, by simp, fun i _ hi => hh.2 i (fun e => hi (by rw [e]))⟩⟩
  · unfold Instr.mapUpdate
    simp only [Sem.run_bind, run_underlying Tryz.underlying82, Result.andThen_ok, MapKept.run_getObj_map hb, run_checkKey_md, hr, MapKept.run_setObj_map _ hb]
  · simp [he]
theorem MapIs.grown {w w' : World} {b : Nat} {S : List (MB × MB)} {row : Option Nat} (h : MapIs w b S) (hg : w.grownBy w' row) (hne : some b ≠ row) : MapIs w' b S := by
  obtain ⟨es, clock, hb, he⟩ := h
  have hl : b < w.heap.size := (Array.getElem?_eq_some_iff.1 hb).1
  exact ⟨es, clock, by rw [hg.block b hl hne]; exact hb, he⟩
theorem MapIs.below {w w' : World} {b : Nat} {S : List (MB × MB)} (h : MapIs w b S) (hb : Below w.heap.size w w') : MapIs w' b S := by
  obtain ⟨es, clock, h1, he⟩ := h
  have hl : b < w.heap.size := (Array.getElem?_eq_some_iff.1 h1).1
  exact ⟨es, clock, by rw [hb.block b hl]; exact h1, he⟩
theorem mapIs_made (w : World) : MapIs (w.alloc (.map #[] 0)) w.heap.size [] := ⟨#[], 0, Go.Deep.blk_alloc_new w _, rfl⟩
end Go.Proofs.Pw

namespace Go.Proofs.Pw
open Go.RowKit
open Go.Lib hiding intOf
structure Going (B : Nat) (w : World) (x : Value) (S : List (MB × MB)) : Prop where
  cm : w.cell? ⟨B + 1, 0, none⟩ = some (.map (some B))
  ct : w.cell? ⟨B + 2, 0, none⟩ = some x
  ft : ∀ i, w.frozen? ⟨B + 2, i, none⟩ = false
  own : w.ownsRow (B + 3) 38 2 x (S.map (·.1)).length (mdVs (S.map (·.1)))
  map : MapIs w B S
theorem Going.below {B : Nat} {w w' : World} {x : Value} {S : List (MB × MB)} (h : Going B w x S) (hb : Below w.heap.size w w') : Going B w' x S :=
  ⟨Below.cell_some hb h.cm, Below.cell_some hb h.ct, fun i => (hb.frozen (p := ⟨B + 2, i, none⟩) (show B + 2 < w.heap.size from lt_of_cell h.ct)).trans (h.ft i), ownsRow_kept h.own hb, h.map.below hb⟩
theorem Going.lt {B : Nat} {w : World} {x : Value} {S : List (MB × MB)} (h : Going B w x S) : B + 2 < w.heap.size := lt_of_cell h.ct
theorem Going.ne {B : Nat} {w : World} {x : Value} {S : List (MB × MB)} (h : Going B w x S) {k : Nat} (hk : k < B + 3) : some k ≠ x.ownBlock := fun e => by
  have := (h.own.lt k e.symm).1; omega
theorem MapIs.setCell {w : World} {b c : Nat} {S : List (MB × MB)} (h : MapIs w b S) (hc : b ≠ c) (u : Value) : MapIs (w.setCell ⟨c, 0, none⟩ u) b S := by
  obtain ⟨es, clock, h1, he⟩ := h
  exact ⟨es, clock, (Go.Deep.blk_setCell_other _ _ _ _ hc).trans h1, he⟩
def comeB (S : List (MB × MB)) (m f : MB) : List (MB × MB) := if (mapF S m).isSome then S else S ++ [(m, f)]
set_option maxHeartbeats 2000000 in
set_option maxRecDepth 100000 in
theorem come_new (B : Nat) (p v q u : ByteArray) (x : Value) (S : List (MB × MB)) (w : World) (hG : Going B w x S) (hm : (p, v) ∉ S.map (·.1)) (hl : S.length ≤ 1000000) :
    Calls Tryz.prog 112 #[.agg #[.string p, .string v], .agg #[.string q, .string u], .pointer (some ⟨B + 1, 0, none⟩), .pointer (some ⟨B + 2, 0, none⟩)] w fun e w' => e = .returned (.tuple #[]) ∧ (∃ x', Going B w' x' (S ++ [((p, v), (q, u))])) ∧ Below B w w' := by
  obtain ⟨i0, hi0, hz0, hz1, hz2⟩ := info_parts Tryz.infoMod
  have hlt := hG.lt
  have hb1 := below_alloc w (.cells #[.string p, .string v] 38)
  have hb2 := below_alloc (w.alloc (.cells #[.string p, .string v] 38)) (.cells #[.string q, .string u] 38)
  have hb3 := below_alloc ((w.alloc (.cells #[.string p, .string v] 38)).alloc (.cells #[.string q, .string u] 38)) (.cells #[.string ⟨#[]⟩, .string ⟨#[]⟩] 38)
  have hB := below_step (below_step hb1 hb2) hb3
  obtain ⟨m0, m1, _⟩ := ((box2_alloc w (.string p) (.string v) 38).below hb2).below hb3
  obtain ⟨f0, f1, _⟩ := (box2_alloc (w.alloc (.cells #[.string p, .string v] 38)) (.string q) (.string u) 38).below hb3
  simp only [World.size_alloc] at f0 f1
  have hG3 := hG.below hB
  have hmf : mapF S (p, v) = none := mapF_none.2 hm
  have hlk := fun W (h : MapIs W B S) => md_lookup h (p, v) true
  simp only [hmf, Option.getD_none, Option.isSome_none, if_true, mdV, noMB] at hlk
  have hlk2 := hlk _ ((hG.map.below hb1).below hb2)
  obtain ⟨wD, hup, hMD, hgD⟩ := md_new hG3.map (p, v) (q, u) hm
  have hBD : Below B w wD := by
    have h1 := hB.mono (show B ≤ w.heap.size by omega)
    exact h1.grown hgD (by have := hB.size; omega) (fun k hk => by cases hk; exact Nat.le_refl _)
  simp only [mdV] at hup
  have nB : ∀ k, k ≠ B → some k ≠ some B := fun k h e => h (Option.some.inj e)
  have t0 := hgD.cell hG3.ct (nB (B + 2) (by omega))
  have t1 := hgD.cell hG3.cm (nB (B + 1) (by omega))
  have tf := fun i => (hgD.frozen_far ⟨B + 2, i, none⟩ (show B + 2 < _ from lt_of_cell hG3.ct) (nB (B + 2) (by omega))).trans (hG3.ft i)
  have n0 := hgD.cell m0 (nB w.heap.size (by omega))
  have n1 := hgD.cell m1 (nB w.heap.size (by omega))
  have hownD : wD.ownsRow (B + 3) 38 2 x (S.map (·.1)).length (mdVs (S.map (·.1))) := hG3.own.kept hgD (apart_row (o := .slice (some ⟨B, 0, none⟩) 0 0) (fun b hb e => by
    have := (hG3.own.lt b e).1
    have : b = B := (Option.some.inj hb).symm
    omega))
  have hszD := hBD.size
  have nx1 : some (B + 1) ≠ x.ownBlock := hG.ne (by omega)
  have nx2 : some (B + 2) ≠ x.ownBlock := hG.ne (by omega)
  have nx0 : some B ≠ x.ownBlock := hG.ne (by omega)
  have hge := fun k (e : x.ownBlock = some k) => (hownD.lt k e).1
  have hlen : (S.map (·.1)).length ≤ 1000000 := by rw [List.length_map]; exact hl
  have hba := below_alloc wD (.cells #[.string p, .string v] 38)
  have g0 := Below.cell_some hba t0
  have g1 := Below.cell_some hba t1
  have gl : B + 2 < (wD.alloc (.cells #[.string p, .string v] 38)).heap.size := lt_of_cell g0
  have gf := fun i => (hba.frozen (p := ⟨B + 2, i, none⟩) (show B + 2 < wD.heap.size from lt_of_cell t0)).trans (tf i)
  have gM := hMD.below hba
  have HH := Lib.hid (And.intro hownD (And.intro hge (And.intro gM (And.intro nx1 (And.intro nx2 nx0)))))
  have HG := Lib.hid (And.intro g0 (And.intro g1 gf))
  have HB := Lib.hid (hBD.alloc (show B ≤ wD.heap.size by omega) (.cells #[.string p, .string v] 38))
  obtain ⟨cm, ct, _, _, _⟩ := hG
  have c1 := Below.cell_some (below_step hb1 hb2) cm
  have c2 := Below.cell_some hB cm
  have c3 := Below.cell_some hB ct
  clear hlk hmf hm hG3 hgD hMD hownD hge g0 g1 gf gM nx1 nx2 nx0 nB tf hBD hb1 hb2 hb3 hB t1
  go_enter Tryz.func112, Tryz.ntmps112
  go_wp2_with (at_builtin; refine wpList_append_own _ rfl _ _ 23 rfl (B + 3) 38 i0 (.agg #[.string ⟨#[]⟩, .string ⟨#[]⟩]) 2 32 Tryz.underlying23 hi0 hz0 hz1 hz2 rfl (by decide) _ _ _ rfl (HH.out.1.alloc _) ⟨wD.heap.size, 0, none⟩ 1 1 [.string p, .string v] rfl rfl (cell_two_new _ _ _ _) (by intro u hu; simp at hu; rcases hu with rfl | rfl <;> rfl) (by unfold maxLen; omega) (by omega) (by simp; omega) ?_; intro x' wE hownE hgE _; obtain ⟨ax, nx, cx, rfl⟩ := own_form hownE; have e0 := hgE.cell HG.out.1 HH.out.2.2.2.2.1; have ef := fun i => (hgE.frozen_far ⟨B + 2, i, none⟩ gl HH.out.2.2.2.2.1).trans (HG.out.2.2 i))
  go_end0
  have hS : (S ++ [((p, v), (q, u))]).map (·.1) = S.map (·.1) ++ [(p, v)] := by simp
  have hE1 := hgE.cell HG.out.2.1 HH.out.2.2.2.1
  have hME := HH.out.2.2.1.grown hgE HH.out.2.2.2.2.2
  have hBE : Below B w wE := HB.out.grown hgE (by have := HB.out.size; omega) (fun k hk => by have := HH.out.2.1 k hk; omega)
  have hxne : (Value.slice ax nx cx).ownBlock ≠ some (B + 2) := own_ne hownE (by omega)
  refine ⟨rfl, ⟨.slice ax nx cx, ?_, set_same _ e0, fun i => by simp [ef i], ?_, hME.setCell (by omega) _⟩, hBE.setCell (p := ⟨B + 2, 0, none⟩) (by show B ≤ B + 2; omega) _⟩
  · rw [set_blk _ (by omega)]; exact hE1
  · rw [hS]
    have h := ownsRow_set (b := B + 2) (j := 0) hownE hxne (.slice ax nx cx)
    rw [mdVs_snoc] at h
    simpa using h
set_option maxRecDepth 100000 in
theorem come_old (B : Nat) (p v q u : ByteArray) (x : Value) (S : List (MB × MB)) (w : World) (hG : Going B w x S) (hm : (p, v) ∈ S.map (·.1)) :
    Calls Tryz.prog 112 #[.agg #[.string p, .string v], .agg #[.string q, .string u], .pointer (some ⟨B + 1, 0, none⟩), .pointer (some ⟨B + 2, 0, none⟩)] w fun e w' => e = .returned (.tuple #[]) ∧ Below w.heap.size w w' := by
  have hb1 := below_alloc w (.cells #[.string p, .string v] 38)
  have hb2 := below_alloc (w.alloc (.cells #[.string p, .string v] 38)) (.cells #[.string q, .string u] 38)
  have hB := below_step hb1 hb2
  obtain ⟨m0, m1, _⟩ := (box2_alloc w (.string p) (.string v) 38).below hb2
  have hlk := md_lookup ((hG.map.below hb1).below hb2) (p, v) true
  obtain ⟨f, hf⟩ : ∃ f, mapF S (p, v) = some f := by
    cases h : mapF S (p, v) with
    | none => exact absurd hm (mapF_none.1 h)
    | some f => exact ⟨f, rfl⟩
  simp only [hf, Option.getD_some, Option.isSome_some, if_true, mdV] at hlk
  have hB3 := hB.alloc hB.size (.cells #[.string f.1, .string f.2] 38)
  have cm := hG.cm
  have c1 := Below.cell_some hB cm
  clear hf hm hG hb1 hb2 cm
  go_enter Tryz.func112, Tryz.ntmps112
  go_wp2_with fail
  go_end0
  exact ⟨rfl, hB3⟩
theorem come_calls (B : Nat) (p v q u : ByteArray) (x : Value) (S : List (MB × MB)) (w : World) (hG : Going B w x S) (hl : S.length ≤ 1000000) :
    Calls Tryz.prog 112 #[.agg #[.string p, .string v], .agg #[.string q, .string u], .pointer (some ⟨B + 1, 0, none⟩), .pointer (some ⟨B + 2, 0, none⟩)] w fun e w' => e = .returned (.tuple #[]) ∧ (∃ x', Going B w' x' (comeB S (p, v) (q, u))) ∧ Below B w w' := by
  unfold comeB
  cases h : mapF S (p, v) with
  | none => exact come_new B p v q u x S w hG (mapF_none.1 h) hl
  | some f =>
    have hm : (p, v) ∈ S.map (·.1) := by
      by_cases h2 : (p, v) ∈ S.map (·.1)
      · exact h2
      · rw [mapF_none.2 h2] at h; cases h
    refine (come_old B p v q u x S w hG hm).mono ?_
    rintro e w' ⟨rfl, hb⟩
    exact ⟨rfl, ⟨x, hG.below hb⟩, hb.mono (Nat.le_of_lt (Nat.lt_of_le_of_lt (Nat.le_add_right B 2) hG.lt))⟩
end Go.Proofs.Pw

namespace Go.Proofs.Pw
open Go.Lib hiding intOf
abbrev Came := List (Md × Md)
def noMd : Md := ([], [])
def comeS (S : Came) (m f : Md) : Came := if m ∈ S.map (·.1) then S else S ++ [(m, f)]
def comeAll (S : Came) (f : Md) (l : List Md) : Came := l.foldl (fun S m => comeS S m f) S
def reqsOf (l : List En) (m : Md) : List Md := (enAt l (findE l m).toNat).reqs
def atS (S : Came) (i : Nat) : Md := (S.getD i (noMd, noMd)).1
theorem atS_get {S : Came} {i : Nat} (h : i < S.length) : ∃ f, S[i]? = some (atS S i, f) := by
  unfold atS
  rw [List.getD_eq_getElem?_getD, List.getElem?_eq_getElem h]
  exact ⟨S[i].2, rfl⟩
theorem atS_mem {S : Came} {i : Nat} (h : i < S.length) : atS S i ∈ S.map (·.1) := by
  obtain ⟨f, hf⟩ := atS_get h
  exact List.mem_map.2 ⟨_, List.mem_of_getElem? hf, rfl⟩
def stepS (l : List En) (S : Came) (i : Nat) : Came := comeAll S (atS S i) (reqsOf l (atS S i))
def runS (l : List En) : Nat → Came → Nat → Came
  | 0, S, _ => S
  | n + 1, S, i => if i < S.length then runS l n (stepS l S i) (i + 1) else S
def walkS (l : List En) (roots : List Md) : Came := runS l (l.length + 1) (comeAll [] noMd roots) 0
theorem comeS_pre (S : Came) (m f : Md) : S <+: comeS S m f := by
  unfold comeS
  split
  · exact List.prefix_refl _
  · exact List.prefix_append _ _
theorem comeS_mem (S : Came) (m f x : Md) : x ∈ (comeS S m f).map (·.1) ↔ x ∈ S.map (·.1) ∨ x = m := by
  unfold comeS
  split
  · rename_i h
    exact ⟨fun hx => .inl hx, fun hx => by rcases hx with hx | rfl <;> assumption⟩
  · simp [or_comm, eq_comm]
theorem comeS_nd {S : Came} (m f : Md) (h : (S.map (·.1)).Nodup) : ((comeS S m f).map (·.1)).Nodup := by
  unfold comeS
  split
  · exact h
  · rename_i hm
    rw [List.map_append, List.nodup_append]
    exact ⟨h, by simp, fun a ha b hb => by simp at hb; subst hb; exact fun e => hm (e ▸ ha)⟩
theorem comeAll_cons (S : Came) (f m : Md) (l : List Md) : comeAll S f (m :: l) = comeAll (comeS S m f) f l := rfl
theorem comeAll_snoc (S : Came) (f m : Md) (l : List Md) : comeAll S f (l ++ [m]) = comeS (comeAll S f l) m f := by simp [comeAll]
theorem comeAll_pre (f : Md) : ∀ (l : List Md) (S : Came), S <+: comeAll S f l
  | [], _ => List.prefix_refl _
  | m :: l, S => (comeS_pre S m f).trans (comeAll_pre f l _)
theorem comeAll_mem (f x : Md) : ∀ (l : List Md) (S : Came), x ∈ (comeAll S f l).map (·.1) ↔ x ∈ S.map (·.1) ∨ x ∈ l
  | [], S => by simp [comeAll]
  | m :: l, S => by
    rw [comeAll_cons, comeAll_mem f x l, comeS_mem, List.mem_cons, or_assoc]
theorem comeAll_nd (f : Md) : ∀ (l : List Md) (S : Came), (S.map (·.1)).Nodup → ((comeAll S f l).map (·.1)).Nodup
  | [], _, h => h
  | m :: l, _, h => comeAll_nd f l _ (comeS_nd m f h)
theorem comeAll_new (f : Md) : ∀ (l : List Md) (S : Came) (k : Nat) (p : Md × Md), (comeAll S f l)[k]? = some p → S[k]? = some p ∨ (S.length ≤ k ∧ p.2 = f ∧ p.1 ∈ l)
  | [], S, k, p, h => .inl h
  | m :: l, S, k, p, h => by
    rcases comeAll_new f l (comeS S m f) k p h with h1 | ⟨h1, h2, h3⟩
    · unfold comeS at h1
      split at h1
      · exact .inl h1
      · by_cases hk : k < S.length
        · rw [List.getElem?_append_left hk] at h1
          exact .inl h1
        · rw [List.getElem?_append_right (by omega)] at h1
          have hk2 : k - S.length = 0 := by
            have := (List.getElem?_eq_some_iff.1 h1).1
            simp at this; omega
          rw [hk2] at h1
          simp at h1
          exact .inr ⟨by omega, by rw [← h1], by rw [← h1]; simp⟩
    · exact .inr ⟨Nat.le_trans (comeS_pre S m f).length_le h1, h2, by simp [h3]⟩
structure Walked (l : List En) (roots : List Md) (S : Came) (i : Nat) : Prop where
  nd : (S.map (·.1)).Nodup
  all : ∀ m ∈ S.map (·.1), Reached l roots m
  start : ∀ m ∈ roots, m ∈ S.map (·.1)
  done : ∀ j, j < i → j < S.length → ∀ r ∈ reqsOf l (atS S j), r ∈ S.map (·.1)
  by_ : ∀ k p, S[k]? = some p → (p.2 = noMd ∧ p.1 ∈ roots) ∨ ∃ j, j < k ∧ p.2 = atS S j ∧ p.1 ∈ reqsOf l (atS S j)
theorem reqsOf_entry {l : List En} (h : RightI l) {e : En} (he : e ∈ l) : reqsOf l e.md = e.reqs := by
  unfold reqsOf
  have h0 : ¬ findE l e.md < 0 := fun hn => findE_lt.1 hn e he rfl
  obtain ⟨k, hk, hl, e1⟩ := findE_nat h0
  rw [hk]
  show (enAt l k).reqs = _
  rw [h.one (enAt_mem hl) he e1]
theorem atS_pre {S T : Came} (h : S <+: T) {i : Nat} (hi : i < S.length) : atS T i = atS S i := by
  obtain ⟨R, rfl⟩ := h
  unfold atS
  rw [List.getD_eq_getElem?_getD, List.getD_eq_getElem?_getD, List.getElem?_append_left hi]
theorem walked_start {l : List En} {roots : List Md} : Walked l roots (comeAll [] noMd roots) 0 := by
  refine ⟨comeAll_nd _ _ _ (by simp), fun m hm => ?_, fun m hm => (comeAll_mem _ _ _ _).2 (.inr hm), fun j hj => absurd hj (Nat.not_lt_zero _), fun k p hp => ?_⟩
  · rcases (comeAll_mem _ _ _ _).1 hm with h | h
    · simp at h
    · exact .root h
  · rcases comeAll_new _ _ _ k p hp with h | ⟨_, h1, h2⟩
    · simp at h
    · exact .inl ⟨h1, h2⟩
theorem walked_step {l : List En} {roots : List Md} {S : Came} {i : Nat} (hG : RightG l roots) (h : Walked l roots S i) (hi : i < S.length) : Walked l roots (stepS l S i) (i + 1) := by
  have hpre := comeAll_pre (atS S i) (reqsOf l (atS S i)) S
  refine ⟨comeAll_nd _ _ _ h.nd, fun m hm => ?_, fun m hm => (comeAll_mem _ _ _ _).2 (.inl (h.start m hm)), fun j hj hjl r hr => ?_, fun k p hp => ?_⟩
  · rcases (comeAll_mem _ _ _ _).1 hm with h1 | h1
    · exact h.all m h1
    · have hR := h.all _ (atS_mem hi)
      obtain ⟨e, he, e1⟩ := hG.entry hR
      rw [← e1] at hR h1
      rw [reqsOf_entry hG.idx he] at h1
      exact .step he hR h1
  · unfold stepS at hr ⊢
    rw [comeAll_mem]
    have hjS : j < S.length := by omega
    rw [atS_pre hpre hjS] at hr
    by_cases e : j = i
    · subst e; exact .inr hr
    · exact .inl (h.done j (by omega) hjS r hr)
  · rcases comeAll_new _ _ _ k p hp with h1 | ⟨h1, h2, h3⟩
    · rcases h.by_ k p h1 with h2 | ⟨j, hj, h2, h3⟩
      · exact .inl h2
      · have hk := (List.getElem?_eq_some_iff.1 h1).1
        refine .inr ⟨j, hj, ?_⟩
        unfold stepS
        rw [atS_pre hpre (by omega)]
        exact ⟨h2, h3⟩
    · refine .inr ⟨i, by omega, ?_⟩
      unfold stepS
      rw [atS_pre hpre hi]
      exact ⟨h2, h3⟩
theorem nodup_len {α : Type} [DecidableEq α] : ∀ (a b : List α), a.Nodup → (∀ x ∈ a, x ∈ b) → a.length ≤ b.length
  | [], b, _, _ => Nat.zero_le _
  | x :: a, b, hn, hs => by
    rw [List.nodup_cons] at hn
    have hx := hs x (by simp)
    have h1 := nodup_len a (b.erase x) hn.2 (fun y hy => by
      have hne : y ≠ x := fun e => hn.1 (e ▸ hy)
      exact (List.mem_erase_of_ne hne).2 (hs y (by simp [hy])))
    rw [List.length_erase_of_mem hx] at h1
    have := List.length_pos_of_mem hx
    rw [List.length_cons]
    omega
theorem Walked.len {l : List En} {roots : List Md} {S : Came} {i : Nat} (hG : RightG l roots) (h : Walked l roots S i) : S.length ≤ l.length := by
  have := nodup_len (S.map (·.1)) (l.map (·.md)) h.nd (fun m hm => by
    obtain ⟨e, he, e1⟩ := hG.entry (h.all m hm)
    exact List.mem_map.2 ⟨e, he, e1⟩)
  simpa using this
theorem runS_done {l : List En} : ∀ (n : Nat) {S : Came} {i : Nat}, S.length ≤ i → runS l n S i = S
  | 0, _, _, _ => rfl
  | n + 1, S, i, h => by rw [runS, if_neg (by omega)]
theorem runS_walked {l : List En} {roots : List Md} (hG : RightG l roots) : ∀ (n : Nat) {S : Came} {i : Nat}, Walked l roots S i → l.length ≤ n + i → Walked l roots (runS l n S i) (runS l n S i).length
  | 0, S, i, h, hn => by
    have hl := h.len hG
    show Walked l roots S S.length
    exact ⟨h.nd, h.all, h.start, fun j _ hj => h.done j (by omega) hj, h.by_⟩
  | n + 1, S, i, h, hn => by
    rw [runS]
    by_cases hi : i < S.length
    · rw [if_pos hi]
      exact runS_walked hG n (walked_step hG h hi) (by omega)
    · rw [if_neg hi]
      exact ⟨h.nd, h.all, h.start, fun j hj hjl => h.done j (by omega) hjl, h.by_⟩
theorem walkS_walked {l : List En} {roots : List Md} (hG : RightG l roots) : Walked l roots (walkS l roots) (walkS l roots).length := runS_walked hG _ walked_start (by omega)
theorem walkS_mem {l : List En} {roots : List Md} (hG : RightG l roots) (m : Md) : m ∈ (walkS l roots).map (·.1) ↔ Reached l roots m := by
  have h := walkS_walked hG
  refine ⟨h.all m, fun hm => ?_⟩
  refine reached_closed h.start (fun e he hT r hr => ?_) hm
  obtain ⟨p, hp, e1⟩ := List.mem_map.1 hT
  obtain ⟨j, hj⟩ := List.getElem?_of_mem hp
  have hjl := (List.getElem?_eq_some_iff.1 hj).1
  have ha : atS (walkS l roots) j = e.md := by
    unfold atS
    rw [List.getD_eq_getElem?_getD, hj]
    exact e1
  refine h.done j hjl hjl r ?_
  rw [ha, reqsOf_entry hG.idx he]
  exact hr
end Go.Proofs.Pw

namespace Go.Proofs.Pw
open Go.RowKit
open Go.Lib hiding intOf
def mbT (m : MB) : Md := (m.1.data.toList, m.2.data.toList)
theorem mbT_inj {a b : MB} : mbT a = mbT b ↔ a = b := by
  refine ⟨fun h => ?_, fun h => by rw [h]⟩
  unfold mbT at h
  rw [Prod.mk.injEq] at h
  exact Prod.ext (bytes_eq.1 h.1) (bytes_eq.1 h.2)
def cameOf (S : List (MB × MB)) : Came := S.map fun p => (mbT p.1, mbT p.2)
theorem cameOf_length (S : List (MB × MB)) : (cameOf S).length = S.length := by simp [cameOf]
theorem cameOf_mem {S : List (MB × MB)} {m : MB} : mbT m ∈ (cameOf S).map (·.1) ↔ m ∈ S.map (·.1) := by
  unfold cameOf
  rw [List.map_map]
  constructor
  · intro h
    obtain ⟨p, hp, e⟩ := List.mem_map.1 h
    exact List.mem_map.2 ⟨p, hp, mbT_inj.1 e⟩
  · intro h
    obtain ⟨p, hp, e⟩ := List.mem_map.1 h
    exact List.mem_map.2 ⟨p, hp, by show mbT p.1 = _; rw [e]⟩
theorem mapF_isSome {S : List (MB × MB)} {m : MB} : (mapF S m).isSome = true ↔ m ∈ S.map (·.1) := by
  constructor
  · intro h
    by_cases h2 : m ∈ S.map (·.1)
    · exact h2
    · rw [mapF_none.2 h2] at h; cases h
  · intro h
    cases h2 : mapF S m with
    | none => exact absurd h (mapF_none.1 h2)
    | some f => rfl
theorem cameOf_come (S : List (MB × MB)) (m f : MB) : cameOf (comeB S m f) = comeS (cameOf S) (mbT m) (mbT f) := by
  unfold comeB comeS
  by_cases h : m ∈ S.map (·.1)
  · rw [if_pos (mapF_isSome.2 h), if_pos (cameOf_mem.2 h)]
  · rw [if_neg (fun h2 => h (mapF_isSome.1 h2)), if_neg (fun h2 => h (cameOf_mem.1 h2))]
    simp [cameOf]
theorem comeAll_len (f : Md) : ∀ (l : List Md) (S : Came), (comeAll S f l).length ≤ S.length + l.length
  | [], S => by simp [comeAll]
  | m :: l, S => by
    rw [comeAll_cons]
    have h := comeAll_len f l (comeS S m f)
    have h2 : (comeS S m f).length ≤ S.length + 1 := by unfold comeS; split <;> simp
    rw [List.length_cons]; omega
theorem cell_new1 (w : World) (v : Value) (t : TypeId) {N : Nat} (h : w.heap.size = N) : (w.alloc (.cells #[v] t)).cell? ⟨N, 0, none⟩ = some v ∧ ∀ i, (w.alloc (.cells #[v] t)).frozen? ⟨N, i, none⟩ = false := by
  subst h
  exact ⟨by simp, fun i => by simp⟩
theorem Going.drew {B : Nat} {w : World} {x : Value} {S : List (MB × MB)} (h : Going B w x S) : Going B w.drew x S := h.below (Below.refl _ w).drew
theorem Going.row {B : Nat} {w : World} {x : Value} {S : List (MB × MB)} (h : Going B w x S) {i : Nat} (hi : i < S.length) :
    ∃ b o c P V, x = .slice (some ⟨b, o, none⟩) S.length c ∧ (P, V) = (S[i]).1 ∧ w.cell? ⟨b, o + i * 2, none⟩ = some (.string P) ∧ w.cell? ⟨b, o + i * 2 + 1, none⟩ = some (.string V) := by
  obtain ⟨a, n, cap, P, V, e1, e2, h3, h4, h5⟩ := modsAt_own h.own
  have hl : n = S.length := by have := congrArg List.length e2; rw [mdF_length] at this; rw [← this]; simp [mdTs]
  obtain ⟨b, o, rfl, c0, c1⟩ := h5 i (by omega)
  refine ⟨b, o, cap, P i, V i, by rw [e1, hl], ?_, c0, c1⟩
  have h6 := mdF_get n P V i (by omega)
  rw [← e2] at h6
  apply mbT_inj.1
  have h7 : (mdTs (S.map (·.1)))[i]? = some (mbT (S[i]).1) := by simp [mdTs, mbT, List.getElem?_eq_getElem hi]
  rw [h7] at h6
  exact (Option.some.inj h6).symm
theorem atS_came {S : List (MB × MB)} {i : Nat} (hi : i < S.length) : atS (cameOf S) i = mbT (S[i]).1 := by
  unfold atS cameOf
  rw [List.getD_eq_getElem?_getD, List.getElem?_map, List.getElem?_eq_getElem hi]
  rfl
set_option maxHeartbeats 4000000 in
set_option maxRecDepth 100000 in
theorem grWalk_in (a : Option Addr) (n cap : Nat) (P V : Nat → ByteArray) (R : Nat → List Md) (K : Nat → List Str) (Bk : Nat → Bool) (Rv Kv : Nat → Value) (rv : Value) (roots : List Md) (w : World) (h : EntsIn w a n cap P V R K Bk Rv Kv) (hr : ModsAt w rv roots) (hl : roots.length ≤ 100000) (hn : n ≤ 1000) (hR : ∀ j, j < n → (R j).length ≤ 1000) (hG : RightG (enF n P V R K Bk) roots) :
    Calls Tryz.prog 66 #[.slice a n cap, rv] w fun e w' => (∃ x S, e = .returned (.tuple #[x, .map (some w.heap.size)]) ∧ Going w.heap.size w' x S ∧ cameOf S = walkS (enF n P V R K Bk) roots) ∧ Below w.heap.size w w' := by
  obtain ⟨ar, rn, rc, P2, V2, rfl, rfl, h5, h6, h7⟩ := hr
  rw [mdF_length] at hl
  have hb1 := below_alloc w (.map #[] 0)
  have hb2 := below_alloc (w.alloc (.map #[] 0)) (.cells #[.map (some w.heap.size)] 82)
  have hb3 := below_alloc ((w.alloc (.map #[] 0)).alloc (.cells #[.map (some w.heap.size)] 82)) (.cells #[.slice none 0 0] 23)
  have hB := below_step (below_step hb1 hb2) hb3
  have hGo : Going w.heap.size (((w.alloc (.map #[] 0)).alloc (.cells #[.map (some w.heap.size)] 82)).alloc (.cells #[.slice none 0 0] 23)) (.slice none 0 0) [] := by
    refine ⟨?_, ?_, fun i => ?_, World.ownsRow_nil _ _ _ _, ((mapIs_made w).below hb2).below hb3⟩
    · have := Below.cell_some hb3 (cell_new1 (w.alloc (.map #[] 0)) (.map (some w.heap.size)) 82 (N := w.heap.size + 1) (by simp)).1
      exact this
    · exact (cell_new1 _ (.slice none 0 0) 23 (N := w.heap.size + 2) (by simp)).1
    · exact (cell_new1 _ (.slice none 0 0) 23 (N := w.heap.size + 2) (by simp)).2 i
  have H := Lib.hid h
  have HG := Lib.hid hG
  have hRR := Lib.hid hR
  replace h7 := Lib.hid h7
  clear h hG hb1 hb2 hb3 h5 h6 hR
  have hmk := fun W => run_makeMap (P := Tryz.prog) 82 W
  go_enter Tryz.func66, Tryz.ntmps66
  go_wp2_with fail
  generalize hw1 : ((w.alloc (.map #[] 0)).alloc (.cells #[.map (some w.heap.size)] 82)).alloc (.cells #[.slice none 0 0] 23) = w1 at *
  clear hw1
  go_loopw [18] (fun i wr => ∃ k : Nat, k ≤ rn ∧ i = .int .i64 k ∧ ∃ x S, Hid (Going w.heap.size wr x S) ∧ Below w.heap.size w wr ∧ Hid (cameOf S = comeAll [] noMd ((mdF rn P2 V2).take k))) (fun i _ => rn - (intOf i).toNat)
  case atStart => exact ⟨0, Nat.zero_le _, rfl, _, [], Lib.hid hGo, hB, Lib.hid rfl⟩
  case round =>
    obtain ⟨k, hk, rfl, x, S, hGo, hBr, hC⟩ := hrel
    by_cases hlt : k < rn
    · have hkn : (k : Int) < (rn : Int) := by omega
      obtain ⟨b1, o1, ea, c0, c1⟩ := h7.out k hlt
      replace c0 := hBr.cell (lt_of_cell c0) |>.trans c0
      replace c1 := hBr.cell (lt_of_cell c1) |>.trans c1
      have hba := below_alloc wr (.cells #[.string (P2 k), .string (V2 k)] 38)
      obtain ⟨y0, y1, _⟩ := box2_alloc wr (.string (P2 k)) (.string (V2 k)) 38
      have hSl : S.length ≤ 100000 := by
        have h1 := comeAll_len noMd ((mdF rn P2 V2).take k) []
        rw [← hC.out, cameOf_length, List.length_take, mdF_length] at h1
        simp at h1; omega
      have hcm := come_calls w.heap.size (P2 k) (V2 k) ⟨#[]⟩ ⟨#[]⟩ x S (wr.alloc (.cells #[.string (P2 k), .string (V2 k)] 38)) (hGo.out.below hba) (by omega)
      have hN : Hid (cameOf (comeB S (P2 k, V2 k) (⟨#[]⟩, ⟨#[]⟩)) = comeAll [] noMd ((mdF rn P2 V2).take (k + 1))) := Lib.hid (by
        rw [cameOf_come, hC.out, mdF_take_succ rn P2 V2 k hlt, comeAll_snoc]
        rfl)
      have hB2 : Below w.heap.size w (wr.alloc (.cells #[.string (P2 k), .string (V2 k)] 38)) := hBr.alloc hBr.size _
      subst ea
      replace hcm := Lib.hid hcm
      clear hC hba
      go_wp2_with fail
      refine hcm.out.mono ?_
      rintro e w3 ⟨rfl, ⟨x', hG'⟩, hb3⟩
      have hG' := Lib.hid hG'
      go_wp2_with fail
      go_roundw
      case rel => exact ⟨k + 1, by omega, by go_num, x', _, hG', hB2.trans hb3, hN⟩
      case measure => simp [intOf]; omega
    · obtain rfl : rn = k := by omega
      rw [mdF_take_all] at hC
      have hW := walked_start (l := enF n P V R K Bk) (roots := mdF rn P2 V2)
      rw [← hC.out] at hW
      have hrun : walkS (enF n P V R K Bk) (mdF rn P2 V2) = runS (enF n P V R K Bk) (n + 1) (cameOf S) 0 := by
        unfold walkS
        rw [enF_length, hC.out]
      have HW := Lib.hid hW
      have HR := Lib.hid hrun
      clear hW hrun hC hlt hk hB
      go_wp2_with fail
      go_loopw [11] (fun i wr => ∃ k : Nat, i = .int .i64 k ∧ ∃ x S, Hid (Going w.heap.size wr x S) ∧ Below w.heap.size w wr ∧ Hid (Walked (enF n P V R K Bk) (mdF rn P2 V2) (cameOf S) k ∧ k ≤ S.length ∧ ∃ m, walkS (enF n P V R K Bk) (mdF rn P2 V2) = runS (enF n P V R K Bk) m (cameOf S) k ∧ n < m + k)) (fun i _ => n - (intOf i).toNat)
      case atStart => exact ⟨0, rfl, x, S, hGo, hBr, Lib.hid ⟨HW.out, Nat.zero_le _, n + 1, HR.out, by omega⟩⟩
      case round =>
        clear hGo hBr HW HR
        obtain ⟨k, rfl, y, T, hGo, hBr, hI⟩ := hrel
        have hTl : T.length ≤ n := by
          have h1 := hI.out.1.len HG.out
          rw [cameOf_length, enF_length] at h1; exact h1
        have ct := hGo.out.ct
        have cm := hGo.out.cm
        by_cases hlt : k < T.length
        · have hkT : (k : Int) < (T.length : Int) := by omega
          obtain ⟨b4, o4, c4, P4, V4, ex, e4, d0, d1⟩ := hGo.out.row hlt
          subst ex
          have hat : atS (cameOf T) k = mbT (P4, V4) := by rw [atS_came hlt, e4]
          have hreach := hI.out.1.all _ (atS_mem (S := cameOf T) (i := k) (by rw [cameOf_length]; exact hlt))
          obtain ⟨en, hen, hem⟩ := HG.out.entry hreach
          have hnf : ¬ findE (enF n P V R K Bk) (mbT (P4, V4)) < 0 := fun h => findE_lt.1 h en hen (by rw [hem, hat])
          obtain ⟨i, hi, hil, him⟩ := findE_nat hnf
          rw [enF_length] at hil
          have hreq : reqsOf (enF n P V R K Bk) (atS (cameOf T) k) = R i := by
            unfold reqsOf
            rw [hat, hi]
            show (enAt _ i).reqs = _
            rw [enAt_enF hil]
          have hfi := idxFind_in a n cap P V R K Bk Rv Kv P4 V4 wr (H.out.below (hBr.mono (Nat.le_refl _))) (by omega)
          rw [show (P4.data.toList, V4.data.toList) = mbT (P4, V4) from rfl, hi] at hfi
          obtain ⟨b5, o5, ea, hcell⟩ := H.out.at_ i hil
          obtain ⟨a1, n1, s1, a2, n2, s2, e1, e2⟩ := H.out.forms hil
          have hM := H.out.reqs i hil
          have hRl := hRR.out i hil
          rw [e1, e2] at hcell
          rw [e1] at hM
          obtain ⟨aM, nM, cM, P5, V5, e3, e5, _, _, hcs⟩ := hM
          injection e3 with e6 e7 e8
          subst e6 e7 e8
          rw [e5, mdF_length] at hRl
          have hin : (i : Int) < (n : Int) := by omega
          have HReq := Lib.hid (hreq.trans e5)
          have HAt := Lib.hid hat
          subst ea
          have cr := hcell.c2
          replace cr := (hBr.cell (lt_of_cell cr)).trans cr
          have hcT : k < (cameOf T).length := by rw [cameOf_length]; exact hlt
          replace hfi := Lib.hid hfi
          replace hcs := Lib.hid hcs
          replace hcT := Lib.hid hcT
          clear hcell e1 e2 e5 e4 hreach hen hem hnf hi him hreq hat
          go_wp2_with fail
          refine hfi.out.mono ?_
          rintro e w3 ⟨rfl, hb3⟩
          have hGo3 := Lib.hid (hGo.out.below hb3)
          replace cr := Below.cell_some hb3 cr
          have hB3 := below_step hBr hb3
          clear hGo hBr hb3 ct cm d0 d1 hfi
          go_wp2_with fail
          go_loopw [44] (fun j wq => ∃ q : Nat, q ≤ n1 ∧ j = .int .i64 q ∧ ∃ y2 S2, Hid (Going w.heap.size wq y2 S2) ∧ Below w.heap.size w wq ∧ Hid (cameOf S2 = comeAll (cameOf T) (mbT (P4, V4)) ((mdF n1 P5 V5).take q))) (fun j _ => n1 - (intOf j).toNat)
          case atStart => exact ⟨0, Nat.zero_le _, rfl, _, T, hGo3, hB3, Lib.hid rfl⟩
          case round =>
            clear hGo3 hB3 cr
            obtain ⟨q, hq, rfl, y2, S2, hGo2, hB2, hC2⟩ := hrel
            have hpre : cameOf T <+: cameOf S2 := by rw [hC2.out]; exact comeAll_pre _ _ _
            have hk2 : k < S2.length := by
              have := hpre.length_le
              rw [cameOf_length, cameOf_length] at this; omega
            by_cases hq2 : q < n1
            · have hqn : (q : Int) < (n1 : Int) := by omega
              obtain ⟨b6, o6, ea6, r0, r1⟩ := hcs.out q hq2
              replace r0 := (hB2.cell (lt_of_cell r0)).trans r0
              replace r1 := (hB2.cell (lt_of_cell r1)).trans r1
              obtain ⟨b7, o7, c7, P7, V7, ey2, e7, g0, g1⟩ := hGo2.out.row hk2
              have e8 : (P7, V7) = (P4, V4) := by
                apply mbT_inj.1
                rw [e7, ← atS_came hk2, atS_pre hpre hcT.out, HAt.out]
              injection e8 with e9 e10
              subst e9 e10 ey2
              have hkS : (k : Int) < (S2.length : Int) := by omega
              have hS2l : S2.length ≤ 100000 := by
                have h1 := comeAll_len (mbT (P7, V7)) ((mdF n1 P5 V5).take q) (cameOf T)
                rw [← hC2.out, cameOf_length, cameOf_length, List.length_take, mdF_length] at h1
                omega
              have hba := below_alloc wr (.cells #[.string (P5 q), .string (V5 q)] 38)
              obtain ⟨y0, y1, _⟩ := box2_alloc wr (.string (P5 q)) (.string (V5 q)) 38
              have hcm := fun W (h : Going w.heap.size W (.slice (some ⟨b7, o7, none⟩) S2.length c7) S2) => come_calls w.heap.size (P5 q) (V5 q) P7 V7 (.slice (some ⟨b7, o7, none⟩) S2.length c7) S2 W h (by omega)
              have hN : Hid (cameOf (comeB S2 (P5 q, V5 q) (P7, V7)) = comeAll (cameOf T) (mbT (P7, V7)) ((mdF n1 P5 V5).take (q + 1))) := Lib.hid (by
                rw [cameOf_come, hC2.out, mdF_take_succ n1 P5 V5 q hq2, comeAll_snoc]
                rfl)
              have hGa := hGo2.out.below hba
              have hBa : Below w.heap.size w (wr.alloc (.cells #[.string (P5 q), .string (V5 q)] 38)) := hB2.alloc hB2.size _
              have ct := hGa.ct
              replace g0 := Below.cell_some hba g0
              replace g1 := Below.cell_some hba g1
              subst ea6
              replace hcm := Lib.hid hcm
              have HGa := Lib.hid hGa
              clear hC2 hba e7 hpre hGo2 hB2 hGa hS2l hk2
              go_wp2_with fail
              generalize wr.alloc (.cells #[.string (P5 q), .string (V5 q)] 38) = wx at *
              go_region_with (go_at_call 112; refine (hcm.out _ ?_).mono ?_; exact HGa.out.drew; rintro e w5 ⟨rfl, ⟨y5, hG5⟩, hb5⟩)
              all_goals
                go_wp2_with fail
                have HG5 := Lib.hid hG5
                go_roundw
                case rel => exact ⟨q + 1, by omega, by go_num, y5, _, HG5, hBa.drew.trans hb5, hN⟩
                case measure => simp [intOf]; omega
            · obtain rfl : n1 = q := by omega
              rw [mdF_take_all] at hC2
              have hst : cameOf S2 = stepS (enF n P V R K Bk) (cameOf T) k := by
                unfold stepS
                rw [hC2.out, HAt.out, ← HReq.out, HAt.out]
              have hI2 : Hid (Walked (enF n P V R K Bk) (mdF rn P2 V2) (cameOf S2) (k + 1) ∧ k + 1 ≤ S2.length ∧ ∃ m, walkS (enF n P V R K Bk) (mdF rn P2 V2) = runS (enF n P V R K Bk) m (cameOf S2) (k + 1) ∧ n < m + (k + 1)) := Lib.hid (by
                refine ⟨by rw [hst]; exact walked_step HG.out hI.out.1 hcT.out, hk2, ?_⟩
                obtain ⟨m, hm1, hm2⟩ := hI.out.2.2
                obtain ⟨m', rfl⟩ : ∃ m', m = m' + 1 := ⟨m - 1, by omega⟩
                refine ⟨m', ?_, by omega⟩
                rw [hm1, runS, if_pos hcT.out, hst])
              have hkn2 : k < n := by omega
              clear hC2 hst hpre hcs
              go_wp2_with fail
              go_roundw
              case rel => exact ⟨k + 1, by go_num, y2, S2, hGo2, hB2, hI2⟩
              case measure => simp [intOf]; omega
        · obtain ⟨ay, ny, cy, Py, Vy, ey, el, _⟩ := modsAt_own hGo.out.own
          have hny : ny = T.length := by have := congrArg List.length el; rw [mdF_length] at this; rw [← this]; simp [mdTs]
          subst ey
          have hTk : ¬ ((k : Int) < (ny : Int)) := by omega
          clear el hny
          have hfin : Hid (cameOf T = walkS (enF n P V R K Bk) (mdF rn P2 V2)) := Lib.hid (by
            obtain ⟨m, hm1, _⟩ := hI.out.2.2
            rw [hm1, runS_done m (by rw [cameOf_length]; omega)])
          have hGo1 := hGo.out
          clear hI hGo
          go_wp2_with fail
          have kqct := fun d os => cell_patch (d := d) (os := os) ct
          have kqcm := fun d os => cell_patch (d := d) (os := os) cm
          refine wp_region_quiet_patch (by kernel_rfl) (by kernel_rfl) ?_
          repeat (go_big_quiet_step (fail))
          refine wpQuiet_nil ?_
          intro _ hw'
          obtain ⟨⟨dq, osq⟩, hw''⟩ := hw'
          subst hw''
          clear kqct kqcm
          have hb := below_patch wr dq osq
          replace hGo1 := hGo1.below hb
          replace hBr := below_step hBr hb
          clear hb
          generalize patch wr dq osq = w9 at hGo1 hBr ⊢
          go_wp2_with fail
          go_ret2
          exact ⟨⟨_, T, rfl, hGo1, hfin.out⟩, hBr⟩
end Go.Proofs.Pw
