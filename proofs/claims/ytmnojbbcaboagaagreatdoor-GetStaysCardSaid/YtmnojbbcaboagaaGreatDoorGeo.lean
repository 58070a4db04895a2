/- Ge: walks and plain laws, joined: IdxReqs. Conditions: at each theorem. -/
import Derived.Test.YtmnojbbcaboagaaGreatDoorGem
import Derived.Test.YtmnojbbcaboagaaGreatDoorGei

namespace Go.Proofs.Pw
open Go.RowKit
open Go.Lib hiding intOf
def reqsE (p : Str) (R : List Md) : Nat := if 20 < R.length then 7 else (firstE (reqE p R) R.length).1
def packsE (K : List Str) : Nat := if 10 < K.length then 7 else if K.all packOk then (firstE (packE K) K.length).1 else 1
def IdxKs (ks : List Nat) : Prop := 3 ∈ ks ∧ 4 ∈ ks ∧ 5 ∈ ks ∧ 7 ∈ ks ∧ 8 ∈ ks
set_option maxHeartbeats 4000000 in
set_option maxRecDepth 100000 in
theorem idxReqs_calls (ks : List Nat) (A : Nat → Addr) (hks : IdxKs ks) (p v : ByteArray) (rv : Value) (a2 : Option Addr) (n2 s2 : Nat) (bk : Bool) (R : List Md) (w : World) (hE : EnvP ks A w) (hr : ModsAt w rv R) (hs : Short R) :
    Calls Tryz.prog 199 #[.agg #[.string p, .string v, rv, .slice a2 n2 s2, .bool bk]] w fun e w' => e = .returned (errV A (reqsE p.data.toList R)) ∧ Below w.heap.size w w' := by
  obtain ⟨a, n, cap, P, V, rfl, rfl, hnc, hcap, hc⟩ := hr
  have hP : Hid (∀ j, j < n → (P j).size ≤ 1000000 ∧ (V j).size ≤ 1000000) := Lib.hid (fun j hj => by
    have := hs.2 _ (List.mem_of_getElem? (mdF_get n P V j hj))
    rw [size_eq, size_eq]; exact this)
  have hn : n ≤ 1000000 := by have := hs.1; rw [mdF_length] at this; exact this
  have hB := below_alloc w (.cells #[.string p, .string v, .slice a n cap, .slice a2 n2 s2, .bool bk] 62)
  have z0 : (w.alloc (.cells #[.string p, .string v, .slice a n cap, .slice a2 n2 s2, .bool bk] 62)).cell? ⟨w.heap.size, 0, none⟩ = some (.string p) := by simp
  have z1 : (w.alloc (.cells #[.string p, .string v, .slice a n cap, .slice a2 n2 s2, .bool bk] 62)).cell? ⟨w.heap.size, 2, none⟩ = some (.slice a n cap) := by simp
  replace hc : ∀ j, j < n → ∃ b o, a = some ⟨b, o, none⟩ ∧ (w.alloc (.cells #[.string p, .string v, .slice a n cap, .slice a2 n2 s2, .bool bk] 62)).cell? ⟨b, o + j * 2, none⟩ = some (.string (P j)) ∧ (w.alloc (.cells #[.string p, .string v, .slice a n cap, .slice a2 n2 s2, .bool bk] 62)).cell? ⟨b, o + j * 2 + 1, none⟩ = some (.string (V j)) := fun j hj =>
    let ⟨b, o, e, h1, h2⟩ := hc j hj; ⟨b, o, e, Below.cell_some hB h1, Below.cell_some hB h2⟩
  replace hE := hE.below hB
  replace hc := Lib.hid hc
  clear hs
  by_cases h20 : 20 < n
  · have h20' : (20 : Int) < (n : Int) := by omega
    have HF : Hid (reqsE p.data.toList (mdF n P V) = 7) := Lib.hid (by unfold reqsE; rw [if_pos (by rw [mdF_length]; exact h20)])
    have g7 := hE.errs.var 7 hks.2.2.2.1
    simp only [errG] at g7
    go_enter Tryz.func199, Tryz.ntmps199
    go_wp2_with fail
    go_ret
    rw [HF.out]
    exact ⟨rfl, hB⟩
  · have h20' : ¬ (20 : Int) < (n : Int) := by omega
    go_enter Tryz.func199, Tryz.ntmps199
    go_wp2_with fail
    generalize hw1 : w.alloc (.cells #[.string p, .string v, .slice a n cap, .slice a2 n2 s2, .bool bk] 62) = w1 at *
    clear hw1
    go_loopw [14] (fun i wr => ∃ k : Nat, k ≤ n ∧ i = .int .i64 k ∧ Below w1.heap.size w1 wr ∧ Hid (∀ j, j < k → reqE p.data.toList (mdF n P V) j = 0)) (fun i _ => n - (intOf i).toNat)
    case atStart => exact ⟨0, Nat.zero_le _, rfl, Below.refl _ _, Lib.hid (fun j hj => absurd hj (Nat.not_lt_zero _))⟩
    case round =>
      obtain ⟨k, hk, rfl, hb, HA⟩ := hrel
      by_cases hlt : k < n
      · have hkn0 : (k : Int) < (n : Int) := by omega
        obtain ⟨b1, o1, rfl, c1, c2⟩ := hc.out k hlt
        have hba := below_alloc wr (.cells #[.string (P k), .string (V k)] 47)
        have hBr := below_step (below_step hB hb) hba
        have hB1 := below_step hb hba
        have hE2 := (hE.below hb).below hba
        have d0 := Below.cell_some hB1 z0
        have d1 := Below.cell_some hB1 z1
        obtain ⟨y0, y1, _⟩ := box2_alloc wr (.string (P k)) (.string (V k)) 47
        replace c1 := Below.cell_some hb c1
        replace c2 := Below.cell_some hb c2
        have hck := fun W hW => modCheck_calls ks A hks.2.1 (P k) (V k) W hW (by have := (hP.out k hlt).1; omega) (by have := (hP.out k hlt).2; omega)
        have hR : reqE p.data.toList (mdF n P V) k = if modErr (P k).data.toList (V k).data.toList ≠ 0 then modErr (P k).data.toList (V k).data.toList else if (P k).data.toList = p.data.toList then 3 else if 0 < k ∧ compareBytes (P k).data.toList (mdAt (mdF n P V) (k - 1)).1 ≤ 0 then 8 else 0 := by
          unfold reqE
          rw [mdAt_mdF hlt]; rfl
        by_cases h0 : modErr (P k).data.toList (V k).data.toList = 0
        · rw [if_neg (by simp [h0])] at hR
          rw [h0, errV_zero] at hck
          by_cases hp : (P k).data.toList = p.data.toList
          · rw [if_pos hp] at hR
            have hpb := bytes_eq.1 hp
            have HF : Hid (reqsE p.data.toList (mdF n P V) = 3) := Lib.hid (by
              unfold reqsE
              rw [if_neg (by rw [mdF_length]; exact h20), mdF_length, firstE_hit (by rw [hR]; decide) HA.out hlt, hR])
            replace hck := Lib.hid hck
            have hp1 : ((P k).toList == p.toList) = true := by rw [hpb]; simp
            clear hpb h0 hp hR z0 z1 hb hba
            go_wp2_with fail
            refine (hck.out _ hE2).mono ?_
            rintro e w2 ⟨rfl, hb⟩
            have hB := below_step hBr hb
            replace hE2 := hE2.below hb
            replace d0 := Below.cell_some hb d0
            replace y0 := Below.cell_some hb y0
            have g3 := hE2.errs.var 3 hks.1
            simp only [errG] at g3
            go_wp2_with fail
            go_ret
            rw [HF.out]
            exact ⟨rfl, hB⟩
          · rw [if_neg hp] at hR
            have hp1 : ((P k).toList == p.toList) = false := by rw [toList_data, toList_data]; exact beq_eq_false_iff_ne.2 hp
            have hp2 : (P k).toList ≠ p.toList := by rw [toList_data, toList_data]; exact hp
            have hp3 : P k ≠ p := fun e => hp (by rw [e])
            by_cases hi0 : k = 0
            · subst hi0
              rw [if_neg (by omega)] at hR
              have HN : Hid (∀ j, j < 0 + 1 → reqE p.data.toList (mdF n P V) j = 0) := Lib.hid (fun j hj => by
                obtain rfl : j = 0 := by omega
                exact hR)
              replace hck := Lib.hid hck
              simp only [Nat.zero_mul, Nat.add_zero] at c1 c2
              clear h0 hp hR z0 z1 hb hba
              go_wp2_with fail
              refine (hck.out _ hE2).mono ?_
              rintro e w2 ⟨rfl, hb⟩
              replace hB1 := below_step hB1 hb
              replace d0 := Below.cell_some hb d0
              replace d1 := Below.cell_some hb d1
              replace y0 := Below.cell_some hb y0
              clear hb
              go_wp2_with fail
              have kqy0 := fun d os => cell_patch (d := d) (os := os) y0
              have kqd1 := fun d os => cell_patch (d := d) (os := os) d1
              refine wp_region_quiet_patch (by kernel_rfl) (by kernel_rfl) ?_
              repeat (go_big_quiet_step (fail))
              refine wpQuiet_nil ?_
              intro _ hw'
              obtain ⟨⟨dq, osq⟩, hw''⟩ := hw'
              subst hw''
              clear kqy0 kqd1
              have hb := below_patch w2 dq osq
              replace hB1 := below_step hB1 hb
              clear hb
              generalize patch w2 dq osq = w3 at hB1 ⊢
              clear y0 d0 d1
              go_wp2_with fail
              go_roundw
              case rel => exact ⟨1, by omega, by go_num, hB1, HN⟩
              case measure => simp [intOf]; omega
            · obtain ⟨m, rfl⟩ : ∃ m, k = m + 1 := ⟨k - 1, by omega⟩
              rw [Nat.add_sub_cancel, mdAt_mdF (show m < n by omega)] at hR
              have hle := leq_eq (P (m + 1)) (P m)
              have hk0 : (0 : Int) < ((m + 1 : Nat) : Int) := by omega
              have hk1 : ((m + 1 : Nat) : Int) - 1 = (m : Int) := by omega
              have hkw := wrap_nat m (by omega)
              have hkn : m < n := by omega
              have hkn2 : (m : Int) < (n : Int) := by omega
              obtain ⟨b2, o2, e1, c3, _⟩ := hc.out m (by omega)
              injection e1 with e1
              injection e1 with e1 e2
              subst e1 e2
              have d3 := Below.cell_some hB1 c3
              clear c3
              by_cases hc0 : compareBytes (P (m + 1)).data.toList (P m).data.toList ≤ 0
              · rw [if_pos ⟨Nat.succ_pos m, hc0⟩] at hR
                rw [decide_eq_true hc0] at hle
                have HF : Hid (reqsE p.data.toList (mdF n P V) = 8) := Lib.hid (by
                  unfold reqsE
                  rw [if_neg (by rw [mdF_length]; exact h20), mdF_length, firstE_hit (by rw [hR]; decide) HA.out hlt, hR])
                replace hck := Lib.hid hck
                clear h0 hp hR z0 z1 hb hba hc0
                go_wp2_with fail
                refine (hck.out _ hE2).mono ?_
                rintro e w2 ⟨rfl, hb⟩
                replace hBr := below_step hBr hb
                replace hE2 := hE2.below hb
                replace d0 := Below.cell_some hb d0
                replace d1 := Below.cell_some hb d1
                replace d3 := Below.cell_some hb d3
                replace y0 := Below.cell_some hb y0
                clear hb
                go_wp2_with fail
                have kqy0 := fun d os => cell_patch (d := d) (os := os) y0
                have kqd1 := fun d os => cell_patch (d := d) (os := os) d1
                have kqd3 := fun d os => cell_patch (d := d) (os := os) d3
                refine wp_region_quiet_patch (by kernel_rfl) (by kernel_rfl) ?_
                repeat (go_big_quiet_step (fail))
                refine wpQuiet_nil ?_
                intro _ hw'
                obtain ⟨⟨dq, osq⟩, hw''⟩ := hw'
                subst hw''
                clear kqy0 kqd1 kqd3
                have hb := below_patch w2 dq osq
                replace hBr := below_step hBr hb
                replace hE2 := hE2.below hb
                clear hb
                generalize patch w2 dq osq = w3 at hBr hE2 ⊢
                clear y0 d1 d3 d0
                have g8 := hE2.errs.var 8 hks.2.2.2.2
                simp only [errG] at g8
                go_wp2_with fail
                go_ret
                rw [HF.out]
                exact ⟨rfl, hBr⟩
              · rw [if_neg (fun h => hc0 h.2)] at hR
                rw [decide_eq_false hc0] at hle
                have HN : Hid (∀ j, j < m + 1 + 1 → reqE p.data.toList (mdF n P V) j = 0) := Lib.hid (fun j hj => by
                  by_cases e : j = m + 1
                  · subst e; exact hR
                  · exact HA.out j (by omega))
                replace hck := Lib.hid hck
                clear h0 hp hR z0 z1 hb hba hc0
                go_wp2_with fail
                refine (hck.out _ hE2).mono ?_
                rintro e w2 ⟨rfl, hb⟩
                replace hB1 := below_step hB1 hb
                replace d0 := Below.cell_some hb d0
                replace d1 := Below.cell_some hb d1
                replace d3 := Below.cell_some hb d3
                replace y0 := Below.cell_some hb y0
                clear hb
                go_wp2_with fail
                have kqy0 := fun d os => cell_patch (d := d) (os := os) y0
                have kqd1 := fun d os => cell_patch (d := d) (os := os) d1
                have kqd3 := fun d os => cell_patch (d := d) (os := os) d3
                refine wp_region_quiet_patch (by kernel_rfl) (by kernel_rfl) ?_
                repeat (go_big_quiet_step (fail))
                refine wpQuiet_nil ?_
                intro _ hw'
                obtain ⟨⟨dq, osq⟩, hw''⟩ := hw'
                subst hw''
                clear kqy0 kqd1 kqd3
                have hb := below_patch w2 dq osq
                replace hB1 := below_step hB1 hb
                clear hb
                generalize patch w2 dq osq = w3 at hB1 ⊢
                clear y0 d1 d3 d0
                go_wp2_with fail
                go_roundw
                case rel => exact ⟨m + 1 + 1, by omega, by go_num, hB1, HN⟩
                case measure => simp [intOf]; omega
        · rw [if_pos h0] at hR
          rw [errV_pos A h0] at hck
          have HF : Hid (errV A (reqsE p.data.toList (mdF n P V)) = .iface 328 (.pointer (some (A (modErr (P k).data.toList (V k).data.toList))))) := Lib.hid (by
            unfold reqsE
            rw [if_neg (by rw [mdF_length]; exact h20), mdF_length, firstE_hit (by rw [hR]; exact h0) HA.out hlt, hR]
            exact errV_pos A h0)
          replace hck := Lib.hid hck
          clear h0 hR z0 z1 hb hba
          go_wp2_with fail
          refine (hck.out _ hE2).mono ?_
          rintro e w2 ⟨rfl, hb⟩
          have hB := below_step hBr hb
          go_wp2_with fail
          go_ret
          rw [HF.out]
          exact ⟨rfl, hB⟩
      · obtain rfl : k = n := by omega
        have HF : Hid (reqsE p.data.toList (mdF k P V) = 0) := Lib.hid (by
          unfold reqsE
          rw [if_neg (by rw [mdF_length]; exact h20), mdF_length, firstE_none HA.out])
        have hBB := below_step hB hb
        go_wp2_with fail
        go_ret
        rw [HF.out]
        exact ⟨rfl, hBB⟩
set_option maxHeartbeats 400000 in
theorem indexFuncT_calls (g : Nat) (lb : Array Value) (eg : ∀ args w, (callFunc g args).run Tryz.prog w = .ok (.enter g args) w) (p : Str → Bool) (a : Option Addr) (n cap : Nat) (L : Nat → ByteArray) (w : World) (hn : n ≤ 4000000001)
    (hc : ∀ j, j < n → ∃ b o, a = some ⟨b, o, none⟩ ∧ w.cell? ⟨b, o + j, none⟩ = some (.string (L j))) (hT : Tests g lb p n L w) :
    Calls Tryz.prog 149 #[.slice a n cap, .func (.func g) #[] lb] w fun e w' => (∃ i : Int, e = .returned (.int .i64 i) ∧ (0 ≤ i ↔ (lstF n L).any p = true)) ∧ Below w.heap.size w w' := by
  replace hc := Lib.hid hc
  replace hT := Lib.hid hT
  go_enter Tryz.func149, Tryz.ntmps149
  go_wp2_with fail
  go_loopw [8] (fun i wr => ∃ k : Nat, k ≤ n ∧ i = .int .i64 k ∧ Below w.heap.size w wr ∧ Hid (∀ j, j < k → p (L j).data.toList = false)) (fun i _ => n - (intOf i).toNat)
  case atStart => exact ⟨0, by omega, rfl, Below.refl _ _, Lib.hid (fun j hj => absurd hj (Nat.not_lt_zero _))⟩
  case round =>
    obtain ⟨k, hk, rfl, hb, HA⟩ := hrel
    by_cases hlt : k < n
    · obtain ⟨b1, o1, rfl, c0⟩ := hc.out k hlt
      have hck := Below.cell_some hb c0
      have hcall := hT.out wr hb k hlt
      clear c0
      cases hq : p (L k).data.toList with
      | true =>
        have HF : Hid ((lstF n L).any p = true) := Lib.hid ((any_lstF p L n).2 ⟨k, hlt, hq⟩)
        rw [hq] at hcall
        clear hq
        go_wp2_with (go_at_fn g; refine hcall.mono ?_; rintro e w' ⟨rfl, hb2⟩)
        go_ret
        exact ⟨⟨_, rfl, iff_of_true (by omega) HF.out⟩, below_step hb hb2⟩
      | false =>
        have HN : Hid (∀ j, j < k + 1 → p (L j).data.toList = false) := Lib.hid (fun j hj => by
          by_cases e : j = k
          · subst e; exact hq
          · exact HA.out j (by omega))
        rw [hq] at hcall
        clear hq
        go_wp2_with (go_at_fn g; refine hcall.mono ?_; rintro e w' ⟨rfl, hb2⟩)
        go_roundw
        case rel => exact ⟨k + 1, by omega, by go_num, below_step hb hb2, HN⟩
        case measure => simp [intOf]; omega
    · obtain rfl : k = n := by omega
      go_wp2_with fail
      go_ret
      refine ⟨⟨_, rfl, iff_of_false (by decide) ?_⟩, hb⟩
      intro h
      obtain ⟨j, hj, h2⟩ := (any_lstF p L k).1 h
      rw [HA.out j hj] at h2
      cases h2
theorem containsT_calls (g : Nat) (lb : Array Value) (eg : ∀ args w, (callFunc g args).run Tryz.prog w = .ok (.enter g args) w) (p : Str → Bool) (a : Option Addr) (n cap : Nat) (L : Nat → ByteArray) (w : World) (hn : n ≤ 4000000001)
    (hc : ∀ j, j < n → ∃ b o, a = some ⟨b, o, none⟩ ∧ w.cell? ⟨b, o + j, none⟩ = some (.string (L j))) (hT : Tests g lb p n L w) :
    Calls Tryz.prog 79 #[.slice a n cap, .func (.func g) #[] lb] w fun e w' => e = .returned (.bool ((lstF n L).any p)) ∧ Below w.heap.size w w' := by
  have hi := indexFuncT_calls g lb eg p a n cap L w hn hc hT
  generalize (lstF n L).any p = X at hi ⊢
  replace hi := Lib.hid hi
  clear hc hT
  go_enter Tryz.func79, Tryz.ntmps79
  go_wp2_with fail
  refine hi.out.mono ?_
  rintro e w1 ⟨⟨i, rfl, hiff⟩, hb⟩
  cases X with
  | true =>
    have h0 := hiff.2 rfl
    clear hiff
    go_wp2_with fail
    go_ret
    exact ⟨rfl, hb⟩
  | false =>
    have h0 : ¬ (0 ≤ i) := fun h => by have := hiff.1 h; cases this
    clear hiff
    go_wp2_with fail
    go_ret
    refine ⟨?_, hb⟩
    show Ending.returned (Value.bool (decide (0 ≤ i))) = _
    rw [decide_eq_false (by omega)]
theorem Tryz.enters_packs1 : ∀ args w, (callFunc 251 args).run Tryz.prog w = .ok (.enter 251 args) w := Go.Proofs.enters_of Tryz.func251 (by kernel_rfl) rfl
theorem packs1_calls (ks : List Nat) (A : Nat → Addr) (h4 : 4 ∈ ks) (s : ByteArray) (w : World) (hE : EnvP ks A w) (hs : s.size ≤ 1000000) :
    Calls Tryz.prog 251 #[.string s] w fun e w' => e = .returned (.bool (!packOk s.data.toList)) ∧ Below w.heap.size w w' := by
  have hpa := path_calls ks A h4 s w hE (by omega)
  by_cases h1 : s.data.toList = [46]
  · have HF : Hid ((!packOk s.data.toList) = false) := Lib.hid (by unfold packOk; rw [decide_eq_true h1]; rfl)
    have h2 : (s.toList != [46]) = false := by rw [toList_data, h1]; rfl
    have h3 : s.toList = [46] := by rw [toList_data, h1]
    clear h1 hpa
    go_enter Tryz.func251, Tryz.ntmps251
    go_wp2_with fail
    go_ret
    rw [HF.out]
    exact ⟨rfl, Below.refl _ _⟩
  · have h2 : (s.toList != [46]) = true := by rw [toList_data]; exact bne_iff_ne.2 h1
    have h3 : s.toList ≠ [46] := by rw [toList_data]; exact h1
    have h5 : (s.toList == [46]) = false := beq_eq_false_iff_ne.2 h3
    by_cases h0 : pathErr s.data.toList = 0
    · have HF : Hid ((!packOk s.data.toList) = false) := Lib.hid (by unfold packOk; rw [decide_eq_true h0, Bool.or_true]; rfl)
      rw [h0, errV_zero] at hpa
      clear h0 h1
      replace hpa := Lib.hid hpa
      go_enter Tryz.func251, Tryz.ntmps251
      go_wp2_with fail
      refine hpa.out.mono ?_
      rintro e w1 ⟨rfl, hb⟩
      go_wp2_with fail
      go_ret
      rw [HF.out]
      exact ⟨rfl, hb⟩
    · have HF : Hid ((!packOk s.data.toList) = true) := Lib.hid (by unfold packOk; rw [decide_eq_false h0, decide_eq_false h1]; rfl)
      rw [errV_pos A h0] at hpa
      clear h0 h1
      replace hpa := Lib.hid hpa
      go_enter Tryz.func251, Tryz.ntmps251
      go_wp2_with fail
      refine hpa.out.mono ?_
      rintro e w1 ⟨rfl, hb⟩
      go_wp2_with fail
      go_ret
      rw [HF.out]
      exact ⟨rfl, hb⟩
theorem getD_lstF {n : Nat} {L : Nat → ByteArray} {j : Nat} (h : j < n) : (lstF n L).getD j [] = (L j).data.toList := by
  rw [List.getD_eq_getElem?_getD]
  simp [lstF, h]
set_option maxHeartbeats 2000000 in
set_option maxRecDepth 100000 in
theorem idxPacks_calls (ks : List Nat) (A : Nat → Addr) (hks : IdxKs ks) (p v : ByteArray) (kv : Value) (a1 : Option Addr) (n1 s1 : Nat) (bk : Bool) (K : List Str) (w : World) (hE : EnvP ks A w) (hk : StrsAt w kv K) (hK : K.length ≤ 1000000) (hs : ∀ s ∈ K, s.length ≤ 1000000) :
    Calls Tryz.prog 200 #[.agg #[.string p, .string v, .slice a1 n1 s1, kv, .bool bk]] w fun e w' => e = .returned (errV A (packsE K)) ∧ Below w.heap.size w w' := by
  obtain ⟨a, n, cap, L, rfl, rfl, hnc, hcap, hc⟩ := hk
  have hn : n ≤ 1000000 := by simpa [lstF] using hK
  have hL : Hid (∀ j, j < n → (L j).size ≤ 1000000) := Lib.hid (fun j hj => by
    rw [size_eq]
    exact hs _ (List.mem_of_getElem? (show (lstF n L)[j]? = some (L j).data.toList by simp [lstF, hj])))
  have hlen : (lstF n L).length = n := by simp [lstF]
  have hB := below_alloc w (.cells #[.string p, .string v, .slice a1 n1 s1, .slice a n cap, .bool bk] 62)
  have z1 : (w.alloc (.cells #[.string p, .string v, .slice a1 n1 s1, .slice a n cap, .bool bk] 62)).cell? ⟨w.heap.size, 3, none⟩ = some (.slice a n cap) := by simp
  replace hc : ∀ j, j < n → ∃ b o, a = some ⟨b, o, none⟩ ∧ (w.alloc (.cells #[.string p, .string v, .slice a1 n1 s1, .slice a n cap, .bool bk] 62)).cell? ⟨b, o + j, none⟩ = some (.string (L j)) := fun j hj =>
    let ⟨b, o, e, h1⟩ := hc j hj; ⟨b, o, e, Below.cell_some hB h1⟩
  replace hE := hE.below hB
  have hct := containsT_calls 251 #[] Tryz.enters_packs1 (fun s => !packOk s) a n cap L (w.alloc (.cells #[.string p, .string v, .slice a1 n1 s1, .slice a n cap, .bool bk] 62)) (by omega) hc
    (fun W hW j hj => packs1_calls ks A hks.2.1 (L j) W (hE.below hW) (hL.out j hj))
  replace hc := Lib.hid hc
  clear hs hK hL
  by_cases h10 : 10 < n
  · have h10' : (10 : Int) < (n : Int) := by omega
    have HF : Hid (packsE (lstF n L) = 7) := Lib.hid (by unfold packsE; rw [if_pos (by rw [hlen]; exact h10)])
    have g7 := hE.errs.var 7 hks.2.2.2.1
    simp only [errG] at g7
    clear hct
    go_enter Tryz.func200, Tryz.ntmps200
    go_wp2_with fail
    go_ret
    rw [HF.out]
    exact ⟨rfl, hB⟩
  · have h10' : ¬ (10 : Int) < (n : Int) := by omega
    by_cases hall : (lstF n L).all packOk = true
    · have HF0 : Hid (packsE (lstF n L) = (firstE (packE (lstF n L)) n).1) := Lib.hid (by unfold packsE; rw [if_neg (by rw [hlen]; exact h10), if_pos hall, hlen])
      have e0 : (lstF n L).any (fun s => !packOk s) = false := by
        rw [List.all_eq_true] at hall
        rw [List.any_eq_false]
        intro x hx
        rw [hall x hx]; decide
      rw [e0] at hct
      clear hall e0
      replace hct := Lib.hid hct
      go_enter Tryz.func200, Tryz.ntmps200
      go_wp2_with fail
      refine hct.out.mono ?_
      rintro e w1 ⟨rfl, hb⟩
      replace z1 := Below.cell_some hb z1
      replace hE := hE.below hb
      have hc1 : Hid (∀ j, j < n → ∃ b o, a = some ⟨b, o, none⟩ ∧ w1.cell? ⟨b, o + j, none⟩ = some (.string (L j))) := Lib.hid (fun j hj => let ⟨b, o, e, h1⟩ := hc.out j hj; ⟨b, o, e, Below.cell_some hb h1⟩)
      replace hB := below_step hB hb
      clear hct hb hc
      go_wp2_with fail
      go_loopw [3] (fun i wr => ∃ k : Nat, k ≤ n ∧ i = .int .i64 ((k : Int) + 1) ∧ Below w1.heap.size w1 wr ∧ Hid (∀ j, j < k + 1 → j < n → packE (lstF n L) j = 0)) (fun i _ => n + 1 - (intOf i).toNat)
      case atStart => exact ⟨0, Nat.zero_le _, rfl, Below.refl _ _, Lib.hid (fun j hj _ => by
        obtain rfl : j = 0 := by omega
        unfold packE
        rw [if_neg (fun h => absurd h.1 (Nat.lt_irrefl _))])⟩
      case round =>
        obtain ⟨m, hm, rfl, hb, HA⟩ := hrel
        have d1 := Below.cell_some hb z1
        have hwm := wrap_nat (m + 1) (by omega)
        by_cases hlt : m + 1 < n
        · have hlt' : (m : Int) + 1 < (n : Int) := by omega
          obtain ⟨b1, o1, rfl, c1⟩ := hc1.out (m + 1) hlt
          obtain ⟨b2, o2, e1, c2⟩ := hc1.out m (by omega)
          injection e1 with e1
          injection e1 with e1 e2
          subst e1 e2
          replace c1 := Below.cell_some hb c1
          replace c2 := Below.cell_some hb c2
          have hle := leq_eq (L (m + 1)) (L m)
          have hR : packE (lstF n L) (m + 1) = if compareBytes (L (m + 1)).data.toList (L m).data.toList ≤ 0 then 8 else 0 := by
            unfold packE
            rw [getD_lstF hlt, Nat.add_sub_cancel, getD_lstF (by omega)]
            by_cases hq : compareBytes (L (m + 1)).data.toList (L m).data.toList ≤ 0
            · rw [if_pos ⟨Nat.succ_pos _, hq⟩, if_pos hq]
            · rw [if_neg (fun h => hq h.2), if_neg hq]
          have hkw := wrap_nat m (by omega)
          have hwm' : IntKind.i64.wrap ((m : Int) + 1) = (m : Int) + 1 := by have := hwm; push_cast at this; exact this
          have hm0 : ((m : Int) + 1 - 1) = (m : Int) := by omega
          have hm1 : (m : Int) < (n : Int) := by omega
          have hm2 : ((m : Int) + 1).toNat = m + 1 := by omega
          have hm3 : (0 : Int) ≤ (m : Int) + 1 := by omega
          have hm4 : ¬ ((m : Int) + 1 < 0) := by omega
          by_cases hc0 : compareBytes (L (m + 1)).data.toList (L m).data.toList ≤ 0
          · rw [if_pos hc0] at hR
            rw [decide_eq_true hc0] at hle
            have HF : Hid (packsE (lstF n L) = 8) := Lib.hid (by
              rw [HF0.out, firstE_hit (by rw [hR]; decide) (fun j hj => HA.out j (by omega) (by omega)) hlt, hR])
            have hE2 := hE.below hb
            have hBr := below_step hB hb
            clear hc0 hR HF0 HA z1 hb
            go_wp2_with fail
            have kqc1 := fun d os => cell_patch (d := d) (os := os) c1
            have kqd1 := fun d os => cell_patch (d := d) (os := os) d1
            have kqc2 := fun d os => cell_patch (d := d) (os := os) c2
            refine wp_region_quiet_patch (by kernel_rfl) (by kernel_rfl) ?_
            repeat (go_big_quiet_step (fail))
            refine wpQuiet_nil ?_
            intro _ hw'
            obtain ⟨⟨dq, osq⟩, hw''⟩ := hw'
            subst hw''
            clear kqc1 kqd1 kqc2
            have hb := below_patch wr dq osq
            replace hBr := below_step hBr hb
            replace hE2 := hE2.below hb
            clear hb
            generalize patch wr dq osq = w3 at hBr hE2 ⊢
            clear c1 d1 c2
            have g8 := hE2.errs.var 8 hks.2.2.2.2
            simp only [errG] at g8
            go_wp2_with fail
            go_ret
            rw [HF.out]
            exact ⟨rfl, hBr⟩
          · rw [if_neg hc0] at hR
            rw [decide_eq_false hc0] at hle
            have HN : Hid (∀ j, j < m + 1 + 1 → j < n → packE (lstF n L) j = 0) := Lib.hid (fun j hj hjn => by
              by_cases e : j = m + 1
              · subst e; exact hR
              · exact HA.out j (by omega) hjn)
            clear hc0 hR z1
            have hB1 := hb
            clear hb
            go_wp2_with fail
            have kqc1 := fun d os => cell_patch (d := d) (os := os) c1
            have kqd1 := fun d os => cell_patch (d := d) (os := os) d1
            have kqc2 := fun d os => cell_patch (d := d) (os := os) c2
            refine wp_region_quiet_patch (by kernel_rfl) (by kernel_rfl) ?_
            repeat (go_big_quiet_step (fail))
            refine wpQuiet_nil ?_
            intro _ hw'
            obtain ⟨⟨dq, osq⟩, hw''⟩ := hw'
            subst hw''
            clear kqc1 kqd1 kqc2
            have hb := below_patch wr dq osq
            replace hB1 := below_step hB1 hb
            clear hb
            generalize patch wr dq osq = w3 at hB1 ⊢
            clear c1 d1 c2
            go_wp2_with fail
            go_roundw
            case rel => exact ⟨m + 1, by omega, by go_num, hB1, HN⟩
            case measure => simp [intOf]; omega
        · have hlt' : ¬ (m : Int) + 1 < (n : Int) := by omega
          have HF : Hid (packsE (lstF n L) = 0) := Lib.hid (by
            rw [HF0.out, firstE_none (fun j hj => HA.out j (by omega) hj)])
          have hBB := below_step hB hb
          go_wp2_with fail
          go_ret
          rw [HF.out]
          exact ⟨rfl, hBB⟩
    · have HF : Hid (packsE (lstF n L) = 1) := Lib.hid (by unfold packsE; rw [if_neg (by rw [hlen]; exact h10), if_neg hall])
      have e0 : (lstF n L).any (fun s => !packOk s) = true := by
        by_cases h : (lstF n L).any (fun s => !packOk s) = true
        · exact h
        · exfalso
          apply hall
          rw [List.all_eq_true]
          intro x hx
          by_cases hx2 : packOk x = true
          · exact hx2
          · exact absurd (List.any_eq_true.2 ⟨x, hx, by simpa using hx2⟩) h
      rw [e0] at hct
      clear hall e0
      replace hct := Lib.hid hct
      go_enter Tryz.func200, Tryz.ntmps200
      go_wp2_with fail
      refine hct.out.mono ?_
      rintro e w1 ⟨rfl, hb⟩
      replace hE := hE.below hb
      replace hB := below_step hB hb
      have g1 := hE.errs.var 1 hE.has.1
      simp only [errG] at g1
      go_wp2_with fail
      go_ret
      rw [HF.out]
      exact ⟨rfl, hB⟩
end Go.Proofs.Pw
