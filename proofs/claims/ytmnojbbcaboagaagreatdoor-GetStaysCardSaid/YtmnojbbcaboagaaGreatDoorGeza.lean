/- Ge: walks and plain laws, joined: SlCom DdMath DnTo ToMath Lowered Mvs. Conditions: at each theorem. -/
import Derived.Test.YtmnojbbcaboagaaGreatDoorGez
import Derived.Test.YtmnojbbcaboagaaGreatDoorGeb
import Derived.Test.YtmnojbbcaboagaaGreatDoorGer
import Derived.Test.YtmnojbbcaboagaaGreatDoorGey
import Derived.Test.YtmnojbbcaboagaaGreatDoorGes
import Derived.Test.YtmnojbbcaboagaaGreatDoorGeu

namespace Go.Proofs.Pw
open Go.RowKit
open Go.Lib hiding intOf
abbrev MB2 := ByteArray × ByteArray
def keepI (L : List MB2) (i : Nat) : Bool := decide (i = 0) || decide (L[i]? ≠ L[i - 1]?)
def ddT (L : List MB2) : Nat → List MB2
  | 0 => []
  | t + 1 => ddT L t ++ (if keepI L t then L[t]?.toList else [])
def ddB (L : List MB2) : List MB2 := ddT L L.length
theorem keepI_same {L : List MB2} {j : Nat} {x y : MB2} (h0 : L[j]? = some x) (h1 : L[j + 1]? = some y) : keepI L (j + 1) = decide (x ≠ y) := by
  unfold keepI
  rw [Nat.add_sub_cancel, h0, h1]
  by_cases h : x = y
  · subst h; simp
  · simp [h, Ne.symm h]
theorem ddT_all {L : List MB2} : ∀ {t : Nat}, t ≤ L.length → (∀ i, i < t → keepI L i = true) → ddT L t = L.take t
  | 0, _, _ => by simp [ddT]
  | t + 1, ht, h => by
    rw [ddT, ddT_all (by omega) (fun i hi => h i (by omega)), h t (by omega), if_pos rfl, List.take_add_one]
theorem ddT_skip {L : List MB2} {t : Nat} (h : keepI L t = false) : ddT L (t + 1) = ddT L t := by rw [ddT, h]; simp
theorem ddT_keep {L : List MB2} {t : Nat} {x : MB2} (h : keepI L t = true) (hx : L[t]? = some x) : ddT L (t + 1) = ddT L t ++ [x] := by rw [ddT, h, hx]; rfl
theorem take_set {M : List MB2} {k : Nat} {x : MB2} (hk : k < M.length) : (M.set k x).take (k + 1) = M.take k ++ [x] := by
  rw [List.take_add_one, List.take_set_of_le (Nat.le_refl _), List.getElem?_set_self hk]; rfl
set_option maxHeartbeats 8000000 in
set_option maxRecDepth 100000 in
theorem compM_calls (base : Nat) (v : Value) (L : List (ByteArray × ByteArray)) (w : World) (hown : w.ownsRow base 47 2 v L.length (mdVs L)) (hbase : base ≤ w.heap.size) (hl : L.length ≤ 1000000) :
    Calls Tryz.prog 148 #[v] w fun e w' => (∃ v', e = .returned v' ∧ w'.ownsRow base 47 2 v' (ddB L).length (mdVs (ddB L))) ∧ Below base w w' := by
  by_cases h2 : L.length < 2
  · obtain ⟨a, m, c, rfl⟩ := own_form hown
    obtain rfl := own_len hown
    have hdd : ddB L = L := by
      unfold ddB
      rw [ddT_all (Nat.le_refl _) (fun i hi => by obtain rfl : i = 0 := by omega
                                                  rfl), List.take_length]
    have h2' : (L.length : Int) < 2 := by omega
    have HO := Lib.hid hown
    have HDD := Lib.hid hdd
    clear hdd h2 hown
    go_enter Tryz.func148, Tryz.ntmps148
    go_wp2_with fail
    go_ret
    rw [HDD.out]
    exact ⟨⟨_, rfl, HO.out⟩, Below.refl _ _⟩
  · rcases hown.2 with ⟨_, h3⟩ | ⟨g, cap, cur, rfl, hbg, hg, hnc, hm, hcs, htk⟩
    · omega
    · have h2' : ¬ (L.length : Int) < 2 := by omega
      have HO := Lib.hid hown
      have hgw : g < w.heap.size := (Array.getElem?_eq_some_iff.1 hg).1
      generalize hnL : L.length = n at *
      replace hnL := Lib.hid hnL
      clear hg htk hcs hown
      go_enter Tryz.func148, Tryz.ntmps148
      go_wp2_with fail
      go_loopw [3] (fun i wr => ∃ j : Nat, j + 1 ≤ n ∧ i = .int .i64 ((j : Int) + 1) ∧ Below w.heap.size w wr ∧ Hid (∀ i, i < j + 1 → keepI L i = true)) (fun i _ => n - (intOf i).toNat)
      case atStart => exact ⟨0, by omega, rfl, Below.refl _ _, Lib.hid (fun i (hi : i < 0 + 1) => by
        obtain rfl : i = 0 := by omega
        rfl)⟩
      case round =>
        obtain ⟨j, hj, rfl, hB, HA⟩ := hrel
        have hj1 : (0 : Int) ≤ (j : Int) + 1 := by omega
        have hj2 : ((j : Int) + 1).toNat = j + 1 := by omega
        have hj3 := wrap_nat j (by omega)
        have hj4 : (j : Int) + 1 - 1 = (j : Int) := by omega
        have hj5 := wrap_nat (j + 1 + 1) (by omega)
        by_cases hlt : j + 1 < n
        · have hlt' : (j : Int) + 1 < (n : Int) := by omega
          have hj6 : (j : Int) < (n : Int) := by omega
          have hj7 : ¬ ((j : Int) + 1 < 0) := by omega
          obtain ⟨⟨x1, y1⟩, hx1⟩ : ∃ m, L[j + 1]? = some m := ⟨_, List.getElem?_eq_getElem (by have := hnL.out; omega)⟩
          obtain ⟨⟨x0, y0⟩, hx0⟩ : ∃ m, L[j]? = some m := ⟨_, List.getElem?_eq_getElem (by have := hnL.out; omega)⟩
          have hOr : wr.ownsRow base 47 2 (.slice (some ⟨g, 0, none⟩) n cap) L.length (mdVs L) := by rw [hnL.out]; exact ownsRow_kept HO.out hB
          obtain ⟨c0, c1, -⟩ := own_cells hOr hx1
          obtain ⟨c2, c3, -⟩ := own_cells hOr hx0
          have HK := Lib.hid (keepI_same hx0 hx1)
          have heq := fun W => md_eql x1 y1 x0 y0 W
          clear hx0 hx1 hOr
          go_wp2_with fail
          by_cases he : x1 = x0 ∧ y1 = y0
          · rw [decide_eq_true he] at heq
            have kqc0 := fun d os => cell_patch (d := d) (os := os) c0
            have kqc1 := fun d os => cell_patch (d := d) (os := os) c1
            have kqc2 := fun d os => cell_patch (d := d) (os := os) c2
            have kqc3 := fun d os => cell_patch (d := d) (os := os) c3
            refine wp_region_quiet_patch (by kernel_rfl) (by kernel_rfl) ?_
            repeat (go_big_quiet_step (fail))
            refine wpQuiet_nil ?_
            intro _ hw'
            obtain ⟨⟨dq, osq⟩, hw''⟩ := hw'
            subst hw''
            clear kqc0 kqc1 kqc2 kqc3
            have hb := below_patch wr dq osq
            replace hB := below_step hB hb
            clear hb
            generalize patch wr dq osq = w2 at hB ⊢
            have HDD : Hid (L.take (j + 1) = ddT L (j + 1 + 1)) := Lib.hid (by
              rw [ddT_skip (by rw [HK.out]; obtain ⟨rfl, rfl⟩ := he; simp), ddT_all (by have := hnL.out; omega) HA.out])
            clear c0 c1 c2 c3 heq HA he HK
            have HQ : Hid (n = j + 1 + (n - (j + 1)) ∧ 1 ≤ n - (j + 1)) := Lib.hid ⟨by omega, by omega⟩
            have hq1 : 1 ≤ n - (j + 1) := by omega
            have hB2 := hB.mono hbase
            have hO2 : Hid (w2.ownsRow base 47 2 (.slice (some ⟨g, 0, none⟩) n cap) L.length (mdVs L)) := Lib.hid (by rw [hnL.out]; exact ownsRow_kept HO.out hB)
            go_wp2_with fail
            generalize n - (j + 1) = q at *
            have hq9 : q ≤ 1000000 := by have := HQ.out; omega
            go_loopw [3, 5] (fun i5 i7 wr => ∃ (k m : Nat) (M : List (ByteArray × ByteArray)), i5 = .int .i64 k ∧ i7 = .int .i64 ((m : Int) + 1) ∧ m + 1 ≤ q ∧ k ≤ j + 1 + m ∧ Hid (M.take k = ddT L (j + 1 + m + 1) ∧ ∀ i, j + 1 + m ≤ i → M[i]? = L[i]?) ∧ Below base w wr ∧ Hid (wr.ownsRow base 47 2 (.slice (some ⟨g, 0, none⟩) n cap) M.length (mdVs M)) ∧ Hid (M.length = n)) (fun _ i7 _ => q - (intOf i7).toNat)
            case atStart => exact ⟨j + 1, 0, L, by go_num, rfl, hq1, Nat.le_refl _, Lib.hid ⟨HDD.out, fun _ _ => rfl⟩, hB2, hO2, Lib.hid hnL.out⟩
            case round =>
              clear hB2 hO2 HDD
              obtain ⟨k, m, M, rfl, rfl, hmq, hkm, HMD, hBr, hOM, hMl⟩ := hrel
              have hBs := hBr.size
              have hm1 : (0 : Int) ≤ (m : Int) + 1 := by omega
              have hm2 : ((m : Int) + 1).toNat = m + 1 := by omega
              have hm3 := wrap_nat m (by have := HQ.out; omega)
              have hm4 : (m : Int) + 1 - 1 = (m : Int) := by omega
              have hm5 := wrap_nat (m + 1 + 1) (by have := HQ.out; omega)
              have hm7 : ¬ ((m : Int) + 1 < 0) := by omega
              by_cases hlt2 : m + 1 < q
              · have hlt3 : (m : Int) + 1 < (q : Int) := by omega
                have hm6 : (m : Int) < (q : Int) := by omega
                obtain ⟨⟨xa, ya⟩, hxa⟩ : ∃ z, M[j + 1 + (m + 1)]? = some z := ⟨_, List.getElem?_eq_getElem (by have := hMl.out; have := HQ.out; omega)⟩
                obtain ⟨⟨xb, yb⟩, hxb⟩ : ∃ z, M[j + 1 + m]? = some z := ⟨_, List.getElem?_eq_getElem (by have := hMl.out; have := HQ.out; omega)⟩
                obtain ⟨⟨xc, yc⟩, hxc⟩ : ∃ z, M[k]? = some z := ⟨_, List.getElem?_eq_getElem (by have := hMl.out; have := HQ.out; omega)⟩
                obtain ⟨c0, c1, -⟩ := own_cells hOM.out hxa
                obtain ⟨c2, c3, -⟩ := own_cells hOM.out hxb
                rw [show (j + 1 + (m + 1)) * 2 = (j + 1) * 2 + (m + 1) * 2 by omega] at c0 c1
                rw [show (j + 1 + m) * 2 = (j + 1) * 2 + m * 2 by omega] at c2 c3
                have hkn : (k : Int) < (n : Int) := by have := HQ.out; omega
                have hk0 : (0 : Int) ≤ (k : Int) := by omega
                have hne := fun W => md_neq xa ya xb yb W
                have HXC := Lib.hid hxc
                have hLa : L[j + 1 + m + 1]? = some (xa, ya) := by rw [← HMD.out.2 _ (by omega)]; exact hxa
                have hLb : L[j + 1 + m]? = some (xb, yb) := by rw [← HMD.out.2 _ (by omega)]; exact hxb
                have HK := Lib.hid (keepI_same hLb hLa)
                have HLA := Lib.hid hLa
                obtain ⟨D, hD⟩ : ∃ D, D = decide (xa = xb ∧ ya = yb) := ⟨_, rfl⟩
                rw [← hD] at hne
                have HD := Lib.hid hD
                have hBq := Below.refl wr.heap.size wr
                clear hD hxa hxb hxc hLa hLb
                cases D with
                | true =>
                  have HMD' : Hid (M.take k = ddT L (j + 1 + (m + 1) + 1) ∧ ∀ i, j + 1 + (m + 1) ≤ i → M[i]? = L[i]?) := Lib.hid ⟨by
                    have h9 := of_decide_eq_true HD.out.symm
                    rw [HMD.out.1, show j + 1 + (m + 1) + 1 = (j + 1 + m + 1) + 1 by omega, ddT_skip (t := j + 1 + m + 1) (by rw [HK.out]; obtain ⟨rfl, rfl⟩ := h9; simp)], fun i hi => HMD.out.2 i (by omega)⟩
                  clear HMD HK HLA HD
                  go_wp2_with fail
                  have kqc0 := fun d os => cell_patch (d := d) (os := os) c0
                  have kqc1 := fun d os => cell_patch (d := d) (os := os) c1
                  have kqc2 := fun d os => cell_patch (d := d) (os := os) c2
                  have kqc3 := fun d os => cell_patch (d := d) (os := os) c3
                  refine wp_region_quiet_patch (by kernel_rfl) (by kernel_rfl) ?_
                  repeat (go_big_quiet_step (fail))
                  refine wpQuiet_nil ?_
                  intro _ hw'
                  obtain ⟨⟨dq, osq⟩, hw''⟩ := hw'
                  subst hw''
                  clear kqc0 kqc1 kqc2 kqc3
                  have hb := below_patch wr dq osq
                  replace hBq := below_step hBq hb
                  clear hb
                  generalize patch wr dq osq = w3 at hBq ⊢
                  clear c0 c1 c2 c3
                  go_wp2_with fail
                  go_roundw
                  case rel => exact ⟨k, m + 1, M, rfl, by go_num, by omega, by omega, HMD', hBr.trans (hBq.mono (Nat.le_trans hbase hBs)), Lib.hid (ownsRow_kept hOM.out hBq), hMl⟩
                  case measure => simp [intOf]; omega
                | false =>
                  have HMD' : Hid ((M.set k (xa, ya)).take (k + 1) = ddT L (j + 1 + (m + 1) + 1) ∧ ∀ i, j + 1 + (m + 1) ≤ i → (M.set k (xa, ya))[i]? = L[i]?) := Lib.hid ⟨by
                    have h9 := of_decide_eq_false HD.out.symm
                    rw [take_set (by have := hMl.out; have := HQ.out; omega), HMD.out.1, show j + 1 + (m + 1) + 1 = (j + 1 + m + 1) + 1 by omega, ddT_keep (t := j + 1 + m + 1) (by rw [HK.out, decide_eq_true_iff]; intro e; injection e with e1 e2; exact h9 ⟨e1.symm, e2.symm⟩) HLA.out], fun i hi => by
                    rw [List.getElem?_set_ne (by omega)]; exact HMD.out.2 i (by omega)⟩
                  clear HMD HK HLA HD
                  go_wp2_with fail
                  have kqc0 := fun d os => cell_patch (d := d) (os := os) c0
                  have kqc1 := fun d os => cell_patch (d := d) (os := os) c1
                  have kqc2 := fun d os => cell_patch (d := d) (os := os) c2
                  have kqc3 := fun d os => cell_patch (d := d) (os := os) c3
                  refine wp_region_quiet_patch (by kernel_rfl) (by kernel_rfl) ?_
                  repeat (go_big_quiet_step (fail))
                  refine wpQuiet_nil ?_
                  intro _ hw'
                  obtain ⟨⟨dq, osq⟩, hw''⟩ := hw'
                  subst hw''
                  clear kqc0 kqc1 kqc2 kqc3
                  have hb := below_patch wr dq osq
                  replace hBq := below_step hBq hb
                  replace c0 := Below.cell_some hb c0
                  replace c1 := Below.cell_some hb c1
                  clear hb
                  generalize patch wr dq osq = w3 at hBq c0 c1 ⊢
                  clear c2 c3
                  have hOq := ownsRow_kept hOM.out hBq
                  obtain ⟨d0, d1, -⟩ := own_cells (i := k) hOq HXC.out
                  have f0 := own_frozen (j := k * 2) hOq
                  have f1 := own_frozen (j := k * 2 + 1) hOq
                  have s1 : (w3.setCell ⟨g, k * 2, none⟩ (.string xa)).cell? ⟨g, k * 2 + 1, none⟩ = some (.string yc) := by rw [set_off _ (by omega)]; exact d1
                  have s2 : (w3.setCell ⟨g, k * 2, none⟩ (.string xa)).frozen? ⟨g, k * 2 + 1, none⟩ = false := by simpa using f1
                  have HP := Lib.hid (own_put (i := k) hOq xa ya)
                  have hB3 := hBr.trans (hBq.mono (Nat.le_trans hbase hBs))
                  have hwk := wrap_nat (k + 1) (by have := HQ.out; omega)
                  clear hOq
                  go_wp2_with fail
                  go_roundw
                  case rel => exact ⟨k + 1, m + 1, M.set k (xa, ya), by go_num, by go_num, by omega, by omega, HMD', below_put hB3 hbg _ _, HP, Lib.hid (by rw [List.length_set]; exact hMl.out)⟩
                  case measure => simp [intOf]; omega
              · obtain rfl : q = m + 1 := by omega
                have hkn : k < n := by have := HQ.out; omega
                have hMk : M.take k = ddB L := by
                  unfold ddB
                  rw [HMD.out.1, hnL.out, show j + 1 + m + 1 = n by have := HQ.out; omega]
                rcases hOM.out.2 with ⟨h9, _⟩ | ⟨g5, c5, cur5, e5, _, hg5, _, _, hcs5, htk5⟩
                · cases h9
                · injection e5 with e5 e7 e6
                  clear e7
                  injection e5 with e5
                  injection e5 with e5
                  subst e5 e6
                  have hfit : k * 2 + (n - k) * 2 ≤ cur5.toList.length := by rw [Array.length_toList, hcs5]; omega
                  have hg5' : wr.heap[g]? = some (.cells cur5.toList.toArray 47 (0, 0)) := by rw [Array.toArray_toList]; exact hg5
                  have hzl := zeroCells_len (Value.agg #[.string ⟨#[]⟩, .string ⟨#[]⟩]).cells rfl (n - k)
                  have hkl : (M.take k).length = k := by rw [List.length_take]; have := hMl.out; omega
                  have htk6 : cur5.toList.take (k * 2) = mdVs (M.take k) := by
                    have h1 : cur5.toList.take (k * 2) = (cur5.toList.take (M.length * 2)).take (k * 2) := by rw [List.take_take]; congr 1; have := hMl.out; omega
                    rw [h1, htk5, mdVs_take]
                  have HF := Lib.hid (And.intro hfit (And.intro hzl (zeroMd_one (n - k))))
                  have HT := Lib.hid (And.intro htk6 (And.intro hcs5 (And.intro hkl hMk)))
                  have HG := Lib.hid hg5'
                  have hi1 : (k : Int) ≤ (n : Int) := by omega
                  have hi2 : ¬ (cap = k) := by omega
                  have hi3 : k ≤ cap := by omega
                  have hi4 : (k : Int) ≤ (cap : Int) := by omega
                  have hi5 : (n : Int) ≤ (cap : Int) := by omega
                  have hltz : ¬ (m : Int) + 1 < (m : Int) + 1 := by omega
                  have hzv : ∀ w, (zeroValue 47).run Tryz.prog w = .ok (.agg #[.string ⟨#[]⟩, .string ⟨#[]⟩]) w := Tryz.zeroValue47
                  clear hOM hg5 hg5' hfit hzl htk5 hcs5 htk6 hkl hMk HMD
                  go_wp2_with (refine wpList_clearK rfl _ 23 rfl 47 (.agg #[.string ⟨#[]⟩, .string ⟨#[]⟩]) (n - k) Tryz.underlying23 hzv HF.out.2.1 HF.out.2.2 g (k * 2) _ (by omega) rfl _ 47 HG.out HF.out.1 base w hBr hbg ?_; intro w5 hg5 hb15 hc15)
                  go_ret
                  have hg5 := hg5.out
                  refine ⟨⟨_, rfl, ?_⟩, hb15⟩
                  rw [← HT.out.2.2.2, HT.out.2.2.1]
                  refine ⟨by rw [mdVs_length, HT.out.2.2.1], .inr ⟨g, cap, _, rfl, hbg, hg5, by omega, hm, ?_, ?_⟩⟩
                  · have h1 := splice_length (L := cur5.toList) (cs := (Builtin.zeroCells (Value.agg #[.string ⟨#[]⟩, .string ⟨#[]⟩]).cells (n - k)).toList) (o := k * 2) (by rw [HF.out.2.1]; exact HF.out.1)
                    rw [List.size_toArray, h1, Array.length_toList]
                    exact HT.out.2.1
                  · have h2 := splice_take (L := cur5.toList) (cs := (Builtin.zeroCells (Value.agg #[.string ⟨#[]⟩, .string ⟨#[]⟩]).cells (n - k)).toList) (o := k * 2) (by rw [HF.out.2.1]; exact HF.out.1)
                    rw [List.toList_toArray, h2]
                    exact HT.out.1
          · rw [decide_eq_false he] at heq
            have kqc0 := fun d os => cell_patch (d := d) (os := os) c0
            have kqc1 := fun d os => cell_patch (d := d) (os := os) c1
            have kqc2 := fun d os => cell_patch (d := d) (os := os) c2
            have kqc3 := fun d os => cell_patch (d := d) (os := os) c3
            refine wp_region_quiet_patch (by kernel_rfl) (by kernel_rfl) ?_
            repeat (go_big_quiet_step (fail))
            refine wpQuiet_nil ?_
            intro _ hw'
            obtain ⟨⟨dq, osq⟩, hw''⟩ := hw'
            subst hw''
            clear kqc0 kqc1 kqc2 kqc3
            have hb := below_patch wr dq osq
            replace hB := below_step hB hb
            clear hb
            generalize patch wr dq osq = w2 at hB ⊢
            clear c0 c1 c2 c3
            have HA' : Hid (∀ i, i < j + 1 + 1 → keepI L i = true) := Lib.hid (fun i hi => by
              by_cases e : i = j + 1
              · subst e; rw [HK.out, decide_eq_true_iff]; intro e; injection e with e1 e2; exact he ⟨e1.symm, e2.symm⟩
              · exact HA.out i (by omega))
            clear he HA HK
            go_wp2_with fail
            go_roundw
            case rel => exact ⟨j + 1, by omega, by go_num, hB, HA'⟩
            case measure => simp [intOf]; omega
        · have hlt' : ¬ (j : Int) + 1 < (n : Int) := by omega
          have HDD : Hid (ddB L = L) := Lib.hid (by
            unfold ddB
            rw [ddT_all (Nat.le_refl _) (fun i hi => HA.out i (by have := hnL.out; omega)), List.take_length])
          have hO9 : Hid (wr.ownsRow base 47 2 (.slice (some ⟨g, 0, none⟩) n cap) L.length (mdVs L)) := Lib.hid (by rw [hnL.out]; exact ownsRow_kept HO.out hB)
          clear HA
          go_wp2_with fail
          go_ret
          rw [HDD.out]
          exact ⟨⟨_, rfl, hO9.out⟩, hB.mono hbase⟩
end Go.Proofs.Pw

namespace Go.Proofs.Pw
open Go.Lib hiding intOf
theorem keepI_false {L : List MB2} {t : Nat} (h : keepI L t = false) : t ≠ 0 ∧ L[t]? = L[t - 1]? := by
  unfold keepI at h
  rw [Bool.or_eq_false_iff, decide_eq_false_iff_not, decide_eq_false_iff_not] at h
  exact ⟨h.1, Classical.not_not.1 h.2⟩
theorem mem_ddT {L : List MB2} : ∀ {t : Nat}, t ≤ L.length → ∀ m, m ∈ ddT L t ↔ m ∈ L.take t
  | 0, _, m => by simp [ddT]
  | t + 1, ht, m => by
    have ih := mem_ddT (L := L) (t := t) (by omega) m
    have hx : L[t]? = some (L[t]'(by omega)) := List.getElem?_eq_getElem (by omega)
    cases hk : keepI L t with
    | true => rw [ddT_keep hk hx, List.take_add_one, hx, List.mem_append, List.mem_append, ih]; simp
    | false =>
      rw [ddT_skip hk, ih, List.take_add_one, List.mem_append]
      refine ⟨.inl, fun h => h.elim id fun h => ?_⟩
      obtain ⟨h0, h1⟩ := keepI_false hk
      rw [hx] at h h1
      have hm : m = L[t]'(by omega) := by simpa using h
      have h2 : (L.take t)[t - 1]? = some m := by rw [List.getElem?_take, if_pos (by omega), ← h1, hm]
      exact List.mem_of_getElem? h2
theorem mem_ddB {L : List MB2} {m : MB2} : m ∈ ddB L ↔ m ∈ L := by
  unfold ddB
  rw [mem_ddT (Nat.le_refl _), List.take_length]
theorem ddT_rises {L : List MB2} (hs : (mdTs L).Pairwise fun a b => modCmp a b ≤ 0) (hr : ∀ m ∈ mdTs L, mdErr m = 0) : ∀ {t : Nat}, t ≤ L.length → Rises modCmp (mdTs (ddT L t))
  | 0, _ => List.Pairwise.nil
  | t + 1, ht => by
    have ih := ddT_rises hs hr (t := t) (by omega)
    have hx : L[t]? = some (L[t]'(by omega)) := List.getElem?_eq_getElem (by omega)
    cases hk : keepI L t with
    | false => rw [ddT_skip hk]; exact ih
    | true =>
      rw [ddT_keep hk hx]
      unfold mdTs at ih ⊢
      rw [List.map_append]
      refine List.pairwise_append.2 ⟨ih, List.pairwise_singleton _ _, fun a ha b hb => ?_⟩
      rw [List.map_singleton, List.mem_singleton] at hb
      subst hb
      obtain ⟨a', ha', rfl⟩ := List.mem_map.1 ha
      rw [mem_ddT (by omega)] at ha'
      obtain ⟨i, hi⟩ := List.getElem?_of_mem ha'
      have hit : i < t := by
        have := (List.getElem?_eq_some_iff.1 hi).1
        rw [List.length_take] at this
        omega
      rw [List.getElem?_take, if_pos hit] at hi
      have hia : L[i]'(by omega) = a' := by rw [List.getElem?_eq_getElem (by omega)] at hi; exact Option.some.inj hi
      have hle : ∀ (i k : Nat) (hi : i < L.length) (hk : k < L.length), i ≤ k → modCmp (((L[i]).1.data.toList, (L[i]).2.data.toList)) (((L[k]).1.data.toList, (L[k]).2.data.toList)) ≤ 0 := fun i k hi hk hik => by
        by_cases e : i = k
        · subst e; rw [modCmp_ord.self]; exact Int.le_refl _
        · have hp := List.pairwise_iff_getElem.1 hs i k (by unfold mdTs; simpa using hi) (by unfold mdTs; simpa using hk) (by omega)
          unfold mdTs at hp
          rw [List.getElem_map, List.getElem_map] at hp
          exact hp
      have hne : L[t]'(by omega) ≠ L[t - 1]'(by omega) := by
        unfold keepI at hk
        rw [Bool.or_eq_true, decide_eq_true_iff, decide_eq_true_iff] at hk
        rcases hk with h | h
        · omega
        · intro e
          exact h (by rw [hx, List.getElem?_eq_getElem (by omega), e])
      have h1 := hle i (t - 1) (by omega) (by omega) (by omega)
      have h2 := hle (t - 1) t (by omega) (by omega) (by omega)
      have h3 : modCmp (((L[t - 1]'(by omega)).1.data.toList, (L[t - 1]'(by omega)).2.data.toList)) (((L[t]'(by omega)).1.data.toList, (L[t]'(by omega)).2.data.toList)) ≠ 0 := fun e => by
        have h4 := modCmp_zero (hr _ (List.mem_map.2 ⟨_, List.getElem_mem _, rfl⟩)) (hr _ (List.mem_map.2 ⟨_, List.getElem_mem _, rfl⟩)) e
        exact hne (Prod.ext (bytes_pair.1 h4).1.symm (bytes_pair.1 h4).2.symm)
      rw [hia] at h1
      generalize ((L[t - 1]'(by omega)).1.data.toList, (L[t - 1]'(by omega)).2.data.toList) = y at h1 h2 h3
      generalize ((L[t]'(by omega)).1.data.toList, (L[t]'(by omega)).2.data.toList) = x at h2 h3 ⊢
      have h5 := modCmp_ord.tr _ _ _ h1 h2
      have h6 := modCmp_ord.anti y x
      have h7 : modCmp (a'.1.data.toList, a'.2.data.toList) x ≠ 0 := fun e => by
        have h8 := modCmp_ord.zero e
        have h9 := modCmp_ord.tr _ _ _ (show modCmp x (a'.1.data.toList, a'.2.data.toList) ≤ 0 by omega) h1
        omega
      omega
theorem ddB_rises {L : List MB2} (hs : (mdTs L).Pairwise fun a b => modCmp a b ≤ 0) (hr : ∀ m ∈ mdTs L, mdErr m = 0) : Rises modCmp (mdTs (ddB L)) := ddT_rises hs hr (Nat.le_refl _)
theorem mem_mdTs_ddB {L : List MB2} {m : Md} : m ∈ mdTs (ddB L) ↔ m ∈ mdTs L := by
  unfold mdTs
  rw [List.mem_map, List.mem_map]
  exact ⟨fun ⟨a, h, e⟩ => ⟨a, mem_ddB.1 h, e⟩, fun ⟨a, h, e⟩ => ⟨a, mem_ddB.2 h, e⟩⟩
end Go.Proofs.Pw

namespace Go.Proofs.Pw
open Go.RowKit
open Go.Lib hiding intOf
def lowsF (l : List En) (M : Nat → Bool) (rs : List Md) : List Md := rs.filterMap fun r => (lowF l M r).map fun v => (r.1, v)
def toErr (l : List En) (roots caps : List Md) : Nat × Int := orE (badErr l caps) (rootsErr l roots)
def ToP (l : List En) (caps roots T : List Md) : Prop := ∃ M : Nat → Bool, (∀ j, j < l.length → (M j = true ↔ BadP l caps (enAt l j).md)) ∧ Rises modCmp T ∧ ∀ m, m ∈ T ↔ m ∈ lowsF l M roots
theorem lowF_mem {l : List En} {M : Nat → Bool} {m : Md} {v : Str} (h : lowF l M m = some v) : verErr v = 0 ∧ ∃ e ∈ l, e.md = (m.1, v) := by
  unfold lowF at h
  have h1 := List.mem_of_find?_eq_some h
  rw [List.mem_reverse] at h1
  obtain ⟨h2, h3⟩ := (vsort_mem _ _).1 h1
  exact ⟨h3, versL_mem.1 h2⟩
theorem lowsF_mem {l : List En} {M : Nat → Bool} {rs : List Md} {m : Md} (h : m ∈ lowsF l M rs) : verErr m.2 = 0 ∧ ∃ e ∈ l, e.md = m := by
  unfold lowsF at h
  obtain ⟨r, _, h1⟩ := List.mem_filterMap.1 h
  cases hv : lowF l M r with
  | none => rw [hv] at h1; cases h1
  | some v =>
    rw [hv] at h1
    obtain rfl := Option.some.inj h1
    exact lowF_mem hv
theorem lowsF_snoc (l : List En) (M : Nat → Bool) (rs : List Md) (r : Md) : lowsF l M (rs ++ [r]) = lowsF l M rs ++ ((lowF l M r).map fun v => (r.1, v)).toList := by
  unfold lowsF
  rw [List.filterMap_append]
  congr 1
end Go.Proofs.Pw

namespace Go.Proofs.Pw
open Go.Lib hiding intOf
def bestT (l : List En) (M : Nat → Bool) (m : Md) : Nat → Option Nat
  | 0 => none
  | t + 1 => if (enAt l t).md.1 = m.1 ∧ verLess m.2 (enAt l t).md.2 = false ∧ M t = false then some t else bestT l M m t
theorem versL_take {l : List En} {p : Str} {t : Nat} (h : t < l.length) : versL (l.take (t + 1)) p = versL (l.take t) p ++ (if (enAt l t).md.1 = p then [(enAt l t).md.2] else []) := by
  rw [List.take_add_one, List.getElem?_eq_getElem h, ← enAt_elem h]
  exact versL_snoc _ _ _
theorem find_best {l : List En} {M : Nat → Bool} {m : Md} (hR : RightI l) : ∀ {t : Nat}, t ≤ l.length → (versL (l.take t) m.1).reverse.find? (okLow l M m) = (bestT l M m t).map fun k => (enAt l k).md.2
  | 0, _ => by simp [versL, bestT]
  | t + 1, ht => by
    have ih := find_best (M := M) (m := m) hR (t := t) (by omega)
    rw [versL_take (by omega), bestT]
    by_cases hp : (enAt l t).md.1 = m.1
    · rw [if_pos hp, List.reverse_append, List.reverse_singleton, List.singleton_append, List.find?_cons]
      have hpl := hR.place (j := t) (by omega)
      have hok : okLow l M m (enAt l t).md.2 = (!verLess m.2 (enAt l t).md.2 && !M t) := by
        unfold okLow
        rw [show (m.1, (enAt l t).md.2) = (enAt l t).md from by rw [← hp], hpl]
        rfl
      rw [hok]
      cases h1 : verLess m.2 (enAt l t).md.2 <;> cases h2 : M t <;> simp [hp, ih]
    · rw [if_neg hp, List.append_nil, ih, if_neg (fun h => hp h.1)]
theorem versL_rises {l : List En} (hR : RightI l) (p : Str) : Rises verCmp (versL l p) := by
  unfold versL Rises
  rw [List.pairwise_map]
  have h1 := hR.rise
  unfold Rises at h1
  rw [List.pairwise_map] at h1
  refine (List.Pairwise.sublist List.filter_sublist h1).imp_of_mem ?_
  intro a b ha hb h
  have h2 := of_decide_eq_true (List.mem_filter.1 ha).2
  have h3 := of_decide_eq_true (List.mem_filter.1 hb).2
  unfold modCmp at h
  rw [orI_lt] at h
  rcases h with h | h
  · rw [h2, h3, compareBytes_ord.self] at h
    exact absurd h (by decide)
  · exact h.2
theorem vsort_versL {l : List En} (hR : RightI l) (p : Str) : vsort (versL l p) = versL l p :=
  rises_ext verCmp_ord (vsort_rises _) (versL_rises hR p) fun x => by
    rw [vsort_mem]
    refine ⟨fun h => h.1, fun h => ⟨h, ?_⟩⟩
    obtain ⟨e, he, h1⟩ := versL_mem.1 h
    have h2 := hR.mds e he
    rw [h1] at h2
    exact (modErr_zero h2).2
theorem lowF_best {l : List En} {M : Nat → Bool} {m : Md} (hR : RightI l) : lowF l M m = (bestT l M m l.length).map fun k => (enAt l k).md.2 := by
  have h := find_best (M := M) (m := m) hR (Nat.le_refl l.length)
  rw [List.take_length] at h
  unfold lowF
  rw [vsort_versL hR, h]
theorem bestT_at {l : List En} {M : Nat → Bool} {m : Md} : ∀ {t k : Nat}, bestT l M m t = some k → k < t ∧ (enAt l k).md.1 = m.1
  | 0, _, h => by cases h
  | t + 1, k, h => by
    rw [bestT] at h
    split at h
    · rename_i h1
      obtain rfl := Option.some.inj h
      exact ⟨Nat.lt_succ_self _, h1.1⟩
    · obtain ⟨h2, h3⟩ := bestT_at h
      exact ⟨by omega, h3⟩
theorem lowsF_best {l : List En} {M : Nat → Bool} {rs : List Md} (hR : RightI l) {m : Md} : m ∈ lowsF l M rs ↔ ∃ r ∈ rs, ∃ k, bestT l M r l.length = some k ∧ m = (enAt l k).md := by
  unfold lowsF
  rw [List.mem_filterMap]
  constructor
  · rintro ⟨r, hr, h⟩
    rw [lowF_best hR] at h
    cases hb : bestT l M r l.length with
    | none => rw [hb] at h; cases h
    | some k =>
      rw [hb] at h
      obtain rfl := Option.some.inj h
      exact ⟨r, hr, k, hb, Prod.ext (bestT_at hb).2.symm rfl⟩
  · rintro ⟨r, hr, k, hb, rfl⟩
    refine ⟨r, hr, ?_⟩
    rw [lowF_best hR, hb]
    exact congrArg some (Prod.ext (bestT_at hb).2.symm rfl)
def outM (l : List En) (S : Nat → Bool) : Nat → List Md
  | 0 => []
  | t + 1 => outM l S t ++ (if S t then [(enAt l t).md] else [])
theorem mem_outM {l : List En} {S : Nat → Bool} {m : Md} : ∀ {t : Nat}, m ∈ outM l S t ↔ ∃ k, k < t ∧ S k = true ∧ m = (enAt l k).md
  | 0 => by simp [outM]
  | t + 1 => by
    rw [outM, List.mem_append, mem_outM (t := t)]
    constructor
    · rintro (⟨k, h1, h2⟩ | h)
      · exact ⟨k, by omega, h2⟩
      · cases hS : S t with
        | false => rw [hS] at h; simp at h
        | true => rw [hS] at h; exact ⟨t, Nat.lt_succ_self _, hS, by simpa using h⟩
    · rintro ⟨k, h1, h2, h3⟩
      by_cases e : k = t
      · subst e; right; rw [h2]; simpa using h3
      · exact .inl ⟨k, by omega, h2, h3⟩
theorem outM_rises {l : List En} (hR : RightI l) (S : Nat → Bool) : ∀ {t : Nat}, t ≤ l.length → Rises modCmp (outM l S t)
  | 0, _ => List.Pairwise.nil
  | t + 1, ht => by
    have ih := outM_rises hR S (t := t) (by omega)
    rw [outM]
    refine List.pairwise_append.2 ⟨ih, by split <;> simp, fun a ha b hb => ?_⟩
    obtain ⟨k, h1, _, rfl⟩ := mem_outM.1 ha
    have hb' : b = (enAt l t).md := by
      cases hS : S t with
      | false => rw [hS] at hb; simp at hb
      | true => rw [hS] at hb; simpa using hb
    subst hb'
    have hp := List.pairwise_iff_getElem.1 hR.rise k t (by rw [List.length_map]; omega) (by rw [List.length_map]; omega) h1
    rw [List.getElem_map, List.getElem_map, ← enAt_elem (by omega), ← enAt_elem (by omega)] at hp
    exact hp
theorem toP_out {l : List En} {caps roots T : List Md} {S : Nat → Bool} (hR : RightI l) (M : Nat → Bool) (hM : ∀ j, j < l.length → (M j = true ↔ BadP l caps (enAt l j).md)) (hS : ∀ k, k < l.length → (S k = true ↔ ∃ r ∈ roots, bestT l M r l.length = some k)) (h : ToP l caps roots T) : T = outM l S l.length := by
  obtain ⟨M', hM', hT, hm⟩ := h
  have hMM : ∀ (r : Md) (t : Nat), t ≤ l.length → bestT l M' r t = bestT l M r t := by
    intro r t
    induction t with
    | zero => intro _; rfl
    | succ t ih =>
      intro ht
      have e : M' t = M t := Bool.eq_iff_iff.2 ((hM' t (by omega)).trans (hM t (by omega)).symm)
      rw [bestT, bestT, ih (by omega), e]
  refine rises_ext modCmp_ord hT (outM_rises hR S (Nat.le_refl _)) fun m => ?_
  rw [hm, lowsF_best hR, mem_outM]
  constructor
  · rintro ⟨r, hr, k, hb, rfl⟩
    rw [hMM r _ (Nat.le_refl _)] at hb
    exact ⟨k, (bestT_at hb).1, (hS k (bestT_at hb).1).2 ⟨r, hr, hb⟩, rfl⟩
  · rintro ⟨k, hk, hs, rfl⟩
    obtain ⟨r, hr, hb⟩ := (hS k hk).1 hs
    exact ⟨r, hr, k, by rw [hMM r _ (Nat.le_refl _)]; exact hb, rfl⟩
end Go.Proofs.Pw

namespace Go.Proofs.Pw
open Go.Lib hiding intOf
end Go.Proofs.Pw

namespace Go.Proofs.Pw
open Go.RowKit
open Go.Lib hiding intOf
noncomputable def buildR (l : List En) (roots : List Md) : List Md := if (startErr l roots).1 = 0 then buildL l roots else []
theorem build_of {l : List En} {roots : List Md} : greatest (reachR l roots) = buildR l roots := by
  unfold reachR buildR
  by_cases h0 : (startErr l roots).1 = 0
  · rw [if_pos h0, if_pos h0]; rfl
  · rw [if_neg h0, if_neg h0]; rfl
theorem build_len {l : List En} {roots : List Md} (h : RightG l roots) : (buildL l roots).length ≤ 100 := by
  have h1 : (buildL l roots).length ≤ (reachL l roots).length := List.Nodup.length_le_of_subset (by
    have := h.great.rises
    unfold Rises at this
    exact this.imp fun {x y} h e => by subst e; rw [modCmp_ord.self] at h; omega) (fun m hm => h.great.sub m hm)
  have h2 : (reachL l roots).length ≤ l.length := by
    unfold reachL
    exact Nat.le_trans (List.length_filter_le _ _) (by rw [List.length_map]; exact Nat.le_refl _)
  have := h.idx.len
  omega
theorem mvsBuild_in (ks : List Nat) (A : Nat → Addr) (hks : IdxKs ks) (a : Option Addr) (n cap : Nat) (P V : Nat → ByteArray) (R : Nat → List Md) (K : Nat → List Str) (Bk : Nat → Bool) (Rv Kv : Nat → Value) (rv : Value) (roots : List Md) (w : World) (hE : EnvP ks A w) (h : EntsIn w a n cap P V R K Bk Rv Kv) (hs : ShortI (enF n P V R K Bk)) (hr : ModsAt w rv roots) (hl : roots.length ≤ 100000) :
    Calls Tryz.prog 10 #[.slice a n cap, rv] w fun e w' => (∃ x ev, e = .returned (.tuple #[x, ev]) ∧ FaultAt A w' ev (startErr (enF n P V R K Bk) roots) ∧ ModsAt w' x (buildR (enF n P V R K Bk) roots)) ∧ Below w.heap.size w w' := by
  have hre := grReach_in ks A hks a n cap P V R K Bk Rv Kv rv roots w hE h hs hr hl
  obtain ⟨ar, rn, rc, _, _, rfl, _⟩ := id hr
  have hlen : (reachR (enF n P V R K Bk) roots).length ≤ 1000000 := by
    unfold reachR
    by_cases h0 : (startErr (enF n P V R K Bk) roots).1 = 0
    · rw [if_pos h0]
      have h2 : (reachL (enF n P V R K Bk) roots).length ≤ (enF n P V R K Bk).length := by
        unfold reachL
        exact Nat.le_trans (List.length_filter_le _ _) (by rw [List.length_map]; exact Nat.le_refl _)
      have := (rightG_of h0).idx.len
      omega
    · rw [if_neg h0]; decide
  have hbu := build_of (l := enF n P V R K Bk) (roots := roots)
  have hbe : (startErr (enF n P V R K Bk) roots).1 ≠ 0 → buildR (enF n P V R K Bk) roots = [] := fun h0 => by unfold buildR; rw [if_neg h0]
  generalize reachR (enF n P V R K Bk) roots = X at hre hlen hbu
  generalize buildR (enF n P V R K Bk) roots = Y at hbu hbe ⊢
  replace hre := Lib.hid hre
  clear h hs hr hE
  go_enter Tryz.func10, Tryz.ntmps10
  go_wp2_with fail
  refine hre.out.mono ?_
  rintro e w1 ⟨⟨x, ev, rfl, hf, hx⟩, hB⟩
  have hgr := greatest_calls x X w1 hx hlen
  obtain ⟨ax, nx, cx, _, _, rfl, _⟩ := id hx
  replace hgr := Lib.hid hgr
  clear hre hx hlen
  rcases fault_form hf with ⟨h0, rfl⟩ | ⟨h0, ty, q, rfl⟩
  · have HF := Lib.hid hf
    clear hf h0 hbe
    go_wp2_with fail
    refine hgr.out.mono ?_
    rintro e w2 ⟨⟨v2, L, rfl, hL, ho⟩, hb2⟩
    have hM := modsAt_own ho
    rw [hL, hbu] at hM
    have HM := Lib.hid hM
    clear hM ho hL
    go_wp2_with fail
    go_ret2
    exact ⟨⟨_, _, rfl, HF.out.below hb2, HM.out⟩, below_step hB hb2⟩
  · have HF := Lib.hid hf
    have HY := Lib.hid (hbe h0)
    clear hf h0 hbe hbu hgr
    go_wp2_with fail
    go_ret2
    refine ⟨⟨_, _, rfl, HF.out, ?_⟩, hB⟩
    rw [HY.out]
    exact ModsAt.nil _
end Go.Proofs.Pw
