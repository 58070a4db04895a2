/- Po: walks and plain laws, joined: PkgEntries PkgHas InsHead Stable. Conditions: at each theorem. -/
import Derived.Test.YtglhgbcebpeomaaGreatDoorPoh
import Derived.Test.YtglhgbcebpeomaaGreatDoorPoi
import Derived.Test.YtglhgbcebpeomaaGreatDoorPoj
import Derived.Test.YtglhgbcebpeomaaGreatDoorPoo
import Derived.Sort.LotA
import Derived.Test.YtglhgbcebpeomaaGreatDoorPob
import Derived.Test.YtglhgbcebpeomaaGreatDoorPon
import Derived.Test.YtglhgbcebpeomaaGreatDoorPol

namespace Go.Proofs.Pw
open Go.RowKit
open Go.Lib hiding intOf
theorem entsAt_own2 {w : World} {base n : Nat} {e : TypeId} {v : Value} {P V : Nat → ByteArray} {R : Nat → List Md} {K : Nat → List Str} {B : Nat → Bool} {Rv Kv : Nat → Value} (h : w.ownsRow base e 5 v n (enVs P V Rv Kv B n)) (hR : ∀ j, j < n → ModsAt w (Rv j) (R j)) (hK : ∀ j, j < n → StrsAt w (Kv j) (K j)) : EntsAt w v (enF n P V R K B) := by
  rcases h.2 with ⟨rfl, h0⟩ | ⟨g, cap, cur, rfl, hb, hg, hn, hm, hs, ht⟩
  · subst h0
    exact EntsAt.nil w
  · refine ⟨some ⟨g, 0, none⟩, n, cap, P, V, R, K, B, Rv, Kv, rfl, rfl, hn, by unfold maxLen at hm; exact hm, fun j hj => ⟨g, 0, rfl, ?_⟩, hR, hK⟩
    have hcell : ∀ c u, c < 5 → (ec P V Rv Kv B j)[c]? = some u → w.cell? ⟨g, 0 + j * 5 + c, none⟩ = some u := fun c u hc hu => by
      rw [← enVs_get P V Rv Kv B n j c hj hc, ← ht, List.getElem?_take, if_pos (by omega)] at hu
      rw [Nat.zero_add, cell_of_row w g _ cur e (0, 0) hg]
      simpa using hu
    exact ⟨hcell 0 _ (by decide) rfl, hcell 1 _ (by decide) rfl, hcell 2 _ (by decide) rfl, hcell 3 _ (by decide) rfl, hcell 4 _ (by decide) rfl⟩
set_option maxHeartbeats 8000000 in
set_option maxRecDepth 100000 in
theorem pkgEntries_in (ks : List Nat) (A : Nat → Addr) (hks : IdxKs ks) (a : Option Addr) (n cap : Nat) (P V : Nat → ByteArray) (R : Nat → List Md) (K : Nat → List Str) (B : Nat → Bool) (Rv Kv : Nat → Value) (sv : Value) (sel : List Md) (w : World) (hE : EnvP ks A w) (h : EntsIn w a n cap P V R K B Rv Kv) (hn : n ≤ 1000000) (hr : ModsAt w sv sel) (hl : sel.length ≤ 1000000) :
    Calls Tryz.prog 76 #[.slice a n cap, sv] w fun e w' => (∃ v ev, e = .returned (.tuple #[v, ev]) ∧ FaultAt A w' ev (rootsErr (enF n P V R K B) sel) ∧ ((rootsErr (enF n P V R K B) sel).1 = 0 → EntsAt w' v (sel.map (entOf (enF n P V R K B)))) ∧ ((rootsErr (enF n P V R K B) sel).1 ≠ 0 → v = .slice none 0 0)) ∧ Below w.heap.size w w' := by
  obtain ⟨i0, hi, hz0, hz1, hz2⟩ := info_parts Tryz.infoEnt
  obtain ⟨a2, m, cap2, Q, U, rfl, rfl, hmc, hcap2, hc2⟩ := hr
  rw [mdF_length] at hl
  have HFE : Hid (rootsErr (enF n P V R K B) (mdF m Q U) = firstE (rootE (enF n P V R K B) (mdF m Q U)) m) := Lib.hid (by unfold rootsErr; rw [mdF_length])
  have hfo := fun (p v : ByteArray) (W : World) (hb : Below w.heap.size w W) => idxFind_in a n cap P V R K B Rv Kv p v W (h.below hb) hn
  obtain ⟨f, hf⟩ : ∃ f : Nat → Nat, ∀ j, f j = (findE (enF n P V R K B) ((Q j).data.toList, (U j).data.toList)).toNat := ⟨_, fun _ => rfl⟩
  have HF0 : Hid (∀ j, ¬ findE (enF n P V R K B) ((Q j).data.toList, (U j).data.toList) < 0 → findE (enF n P V R K B) ((Q j).data.toList, (U j).data.toList) = (f j : Int) ∧ f j < n) := Lib.hid (fun j hj => by
    obtain ⟨k, e1, e2, _⟩ := findE_nat hj
    rw [enF_length] at e2
    rw [hf, e1]
    exact ⟨rfl, e2⟩)
  have HFN := Lib.hid hf
  have H := Lib.hid h
  replace hc2 := Lib.hid hc2
  replace hfo := Lib.hid hfo
  clear h hf
  go_enter Tryz.func76, Tryz.ntmps76
  go_wp2_with fail
  go_loopw [6, 12] (fun o i wr => ∃ k : Nat, k ≤ m ∧ i = .int .i64 k ∧ Hid (wr.ownsRow w.heap.size 37 5 o k (enVs (fun j => P (f j)) (fun j => V (f j)) (fun j => Rv (f j)) (fun j => Kv (f j)) (fun j => B (f j)) k)) ∧ Below w.heap.size w wr ∧ Hid (∀ j, j < k → rootE (enF n P V R K B) (mdF m Q U) j = 0)) (fun _ i _ => m - (intOf i).toNat)
  case atStart => exact ⟨0, Nat.zero_le _, rfl, Lib.hid (World.ownsRow_nil _ _ _ _), Below.refl _ _, Lib.hid (fun j hj => absurd hj (Nat.not_lt_zero _))⟩
  case round =>
    obtain ⟨k, hk, rfl, hO, hBr, HA⟩ := hrel
    by_cases hlt : k < m
    · obtain ⟨ao, no, co, rfl⟩ := own_form hO.out
      have hkn : (k : Int) < (m : Int) := by omega
      obtain ⟨b1, o1, ea, c0, c1⟩ := hc2.out k hlt
      replace c0 := Below.cell_some hBr c0
      replace c1 := Below.cell_some hBr c1
      subst ea
      have hba := below_alloc wr (.cells #[.string (Q k), .string (U k)] 29)
      obtain ⟨y0, y1, _⟩ := box2_alloc wr (.string (Q k)) (.string (U k)) 29
      have hB2 := below_step hBr hba
      have hO2 := Lib.hid (hO.out.below hba)
      have hf := hfo.out (Q k) (U k) _ hB2
      have hR : rootE (enF n P V R K B) (mdF m Q U) k = if findE (enF n P V R K B) ((Q k).data.toList, (U k).data.toList) < 0 then 5 else 0 := by
        unfold rootE
        rw [mdAt_mdF hlt]
      have hpos := HF0.out k
      generalize findE (enF n P V R K B) ((Q k).data.toList, (U k).data.toList) = x at hf hR hpos
      by_cases hx : x < 0
      · rw [if_pos hx] at hR
        have HF : Hid (rootsErr (enF n P V R K B) (mdF m Q U) = (5, (k : Int))) := Lib.hid (by rw [HFE.out, firstE_hit (by rw [hR]; decide) HA.out hlt, hR])
        replace hf := Lib.hid hf
        clear hR hpos hO hO2 hk
        go_wp2_with fail
        refine hf.out.mono ?_
        rintro e w8 ⟨rfl, hb8⟩
        have hE8 := (hE.below hB2).below hb8
        have g5 := hE8.errs.var 5 hks.2.2.1
        simp only [errG] at g5
        go_wp2_with fail
        go_region
        all_goals
          go_wp2_with fail
          go_ret2
          rw [HF.out]
          refine ⟨⟨_, _, rfl, .inr (.inr ⟨(show (5 : Nat) ≠ 0 by decide), w8.heap.size, rfl, by simp, ?_⟩), fun h => absurd h (show (5 : Nat) ≠ 0 by decide), fun _ => rfl⟩, (below_step hB2 hb8).drew.alloc (below_step hB2 hb8).size _⟩
          show _ = some (errV A 5)
          rw [errV_pos A (show (5 : Nat) ≠ 0 by decide)]
          simp
      · rw [if_neg hx] at hR
        have HN : Hid (∀ j, j < k + 1 → rootE (enF n P V R K B) (mdF m Q U) j = 0) := Lib.hid (fun j hj => by
          by_cases e : j = k
          · subst e; exact hR
          · exact HA.out j (by omega))
        obtain ⟨rfl, hq⟩ := hpos (by omega)
        have hq' : ¬ ((f k : Nat) : Int) < 0 := by omega
        have hqn : ((f k : Nat) : Int) < (n : Int) := by omega
        obtain ⟨a1, n1, s1, aK, nK, cK, e1, e2⟩ := H.out.forms2 hq
        have hEN : enVs (fun j => P (f j)) (fun j => V (f j)) (fun j => Rv (f j)) (fun j => Kv (f j)) (fun j => B (f j)) (k + 1) = enVs (fun j => P (f j)) (fun j => V (f j)) (fun j => Rv (f j)) (fun j => Kv (f j)) (fun j => B (f j)) k ++ [.string (P (f k)), .string (V (f k)), .slice a1 n1 s1, .slice aK nK cK, .bool (B (f k))] := by
          rw [enVs_succ]
          show _ ++ [.string (P (f k)), .string (V (f k)), Rv (f k), Kv (f k), .bool (B (f k))] = _
          rw [e1, e2]
        have HEN := Lib.hid hEN
        replace hf := Lib.hid hf
        clear hR hpos hO hx hEN
        go_wp2_with fail
        refine hf.out.mono ?_
        rintro e w8 ⟨rfl, hb8⟩
        have hO8 := Lib.hid (hO2.out.below hb8)
        have hB8 := below_step hB2 hb8
        obtain ⟨b3, o3, ea, hcell⟩ := (H.out.below hB8).at_ (f k) hq
        rw [e1, e2] at hcell
        obtain ⟨d0, d1, d2, d3, d4⟩ := hcell
        subst ea
        have hnew := World.news_of_block (cs := #[.string (P (f k)), .string (V (f k)), .slice a1 n1 s1, .slice aK nK cK, .bool (B (f k))]) (Go.Deep.blk_alloc_new w8 (.cells #[.string (P (f k)), .string (V (f k)), .slice a1 n1 s1, .slice aK nK cK, .bool (B (f k))] 37))
        have HNW := Lib.hid hnew
        have hs8 := hB8.size
        clear hf e1 e2 hO2 hnew hb8 y0 y1 c0 c1 hba hB2
        go_wp2_with (at_builtin; refine wpList_append_own _ rfl _ _ 22 rfl w.heap.size 37 i0 (.agg #[.string ⟨#[]⟩, .string ⟨#[]⟩, .slice none 0 0, .slice none 0 0, .bool false]) 5 88 Tryz.underlying22 hi hz0 hz1 hz2 rfl (by decide) _ _ _ rfl (hO8.out.alloc _) ⟨w8.heap.size, 0, none⟩ 1 1 [.string (P (f k)), .string (V (f k)), .slice a1 n1 s1, .slice aK nK cK, .bool (B (f k))] rfl rfl HNW.out (by intro u hu; simp at hu; rcases hu with rfl | rfl | rfl | rfl | rfl <;> rfl) (by unfold maxLen; omega) (by omega) (by simp; omega) ?_; intro o' w6 hown6 hgrow6 _)
        go_roundw
        case rel =>
          refine ⟨k + 1, by omega, by go_num, Lib.hid ?_, ?_, HN⟩
          · rw [HEN.out]; exact hown6
          · exact (hB8.alloc hs8 _).grown hgrow6 (by simp; omega) (fun q hq => (hO8.out.lt q hq).1)
        case measure => simp [intOf]; omega
    · obtain rfl : m = k := by omega
      have HF : Hid (rootsErr (enF n P V R K B) (mdF m Q U) = (0, -1)) := Lib.hid (by rw [HFE.out, firstE_none HA.out])
      have hfm : ∀ j, j < m → f j < n := fun j hj => by
        have h1 := HA.out j hj
        unfold rootE at h1
        rw [mdAt_mdF hj] at h1
        by_cases h2 : findE (enF n P V R K B) ((Q j).data.toList, (U j).data.toList) < 0
        · rw [if_pos h2] at h1; cases h1
        · exact (HF0.out j (by omega)).2
      have hfin := entsAt_own2 hO.out (R := fun j => R (f j)) (K := fun j => K (f j)) (fun j hj => (H.out.below hBr).reqs _ (hfm j hj)) (fun j hj => (H.out.below hBr).packs _ (hfm j hj))
      have hmap : enF m (fun j => P (f j)) (fun j => V (f j)) (fun j => R (f j)) (fun j => K (f j)) (fun j => B (f j)) = (mdF m Q U).map (entOf (enF n P V R K B)) := by
        apply List.ext_getElem?
        intro i
        by_cases hi : i < m
        · rw [enF_get _ _ _ _ _ _ i hi, List.getElem?_map, mdF_get _ _ _ i hi]
          show some _ = some (entOf _ _)
          unfold entOf
          rw [← HFN.out, enAt_enF (hfm i hi)]
        · rw [List.getElem?_eq_none (by rw [enF_length]; omega), List.getElem?_eq_none (by rw [List.length_map, mdF_length]; omega)]
      rw [hmap] at hfin
      obtain ⟨ao, no, co, rfl⟩ := own_form hO.out
      replace hfin := Lib.hid hfin
      clear hmap hfm hO
      go_wp2_with fail
      go_ret2
      rw [HF.out]
      exact ⟨⟨_, _, rfl, .inl ⟨rfl, rfl, rfl⟩, fun _ => hfin.out, fun h => absurd rfl h⟩, hBr⟩
end Go.Proofs.Pw

namespace Go.Proofs.Pw
open Go.RowKit
open Go.Lib hiding intOf
set_option maxHeartbeats 2000000 in
set_option maxRecDepth 100000 in
theorem pkgHas_calls (p v : ByteArray) (a1 : Option Addr) (n1 s1 : Nat) (kv : Value) (b : Bool) (R : List Md) (K : List Str) (q : ByteArray) (w : World) (hk : StrsAt w kv K) (hl : K.length ≤ 1000000) (hp : p.size ≤ 1000000) :
    Calls Tryz.prog 85 #[.agg #[.string p, .string v, .slice a1 n1 s1, kv, .bool b], .string q] w fun e w' => e = .returned (.bool (hasK ⟨(p.data.toList, v.data.toList), R, K, b⟩ q.data.toList)) ∧ Below w.heap.size w w' := by
  have hk2 := hk
  obtain ⟨a2, n2, s2, _, rfl, -, -, -, -⟩ := hk2
  have hB := below_alloc w (.cells #[.string p, .string v, .slice a1 n1 s1, .slice a2 n2 s2, .bool b] 37)
  have y0 : (w.alloc (.cells #[.string p, .string v, .slice a1 n1 s1, .slice a2 n2 s2, .bool b] 37)).cell? ⟨w.heap.size, 0, none⟩ = some (.string p) := by simp
  have y3 : (w.alloc (.cells #[.string p, .string v, .slice a1 n1 s1, .slice a2 n2 s2, .bool b] 37)).cell? ⟨w.heap.size, 3, none⟩ = some (.slice a2 n2 s2) := by simp
  have hco := fun s => containsQ_calls (.slice a2 n2 s2) s K _ (hk.below hB) hl
  by_cases hqp : q.data.toList = p.data.toList
  · have HR : Hid (hasK ⟨(p.data.toList, v.data.toList), R, K, b⟩ q.data.toList = decide ([46] ∈ K)) := Lib.hid (by unfold hasK; rw [if_pos hqp])
    have q1 : (q.toList == p.toList) = true := by rw [toList_data, toList_data, hqp]; simp
    have hc1 := hco ⟨#[46]⟩
    rw [show (⟨#[46]⟩ : ByteArray).data.toList = [46] from rfl] at hc1
    replace hc1 := Lib.hid hc1
    clear hqp hco hk
    go_enter Tryz.func85, Tryz.ntmps85
    go_wp2_with fail
    refine hc1.out.mono ?_
    rintro e w' ⟨rfl, rfl⟩
    go_wp2_with fail
    go_ret
    rw [HR.out]
    exact ⟨rfl, hB⟩
  · have q1 : (q.toList == p.toList) = false := by rw [toList_data, toList_data]; exact beq_eq_false_iff_ne.2 hqp
    have hcp := fun W => Tryz.strings_CutPrefix q (p ++ ⟨#[47]⟩) W
    rw [app_byP, show (⟨#[47]⟩ : ByteArray).data.toList = [47] from rfl] at hcp
    have hH : hasK ⟨(p.data.toList, v.data.toList), R, K, b⟩ q.data.toList = (hasPrefix q.data.toList (p.data.toList ++ [47]) && (!decide (trimPrefix q.data.toList (p.data.toList ++ [47]) = [46]) && decide (trimPrefix q.data.toList (p.data.toList ++ [47]) ∈ K))) := by
      unfold hasK
      rw [if_neg hqp]
    generalize hasK ⟨(p.data.toList, v.data.toList), R, K, b⟩ q.data.toList = H at hH ⊢
    generalize trimPrefix q.data.toList (p.data.toList ++ [47]) = rest at hcp hH
    obtain ⟨rb, hrb⟩ : ∃ x : ByteArray, x = ⟨rest.toArray⟩ := ⟨_, rfl⟩
    rw [← hrb] at hcp
    have hrd : rb.data.toList = rest := by rw [hrb]
    have hc1 := hco rb
    rw [hrd] at hc1
    cases hp : hasPrefix q.data.toList (p.data.toList ++ [47]) with
    | false =>
      rw [hp] at hcp hH
      have HR : Hid (H = false) := Lib.hid hH
      replace hcp := Lib.hid hcp
      clear hqp hco hk hc1 hp hH hrb hrd
      go_enter Tryz.func85, Tryz.ntmps85
      go_wp2_with fail
      refine (hcp.out _).mono ?_
      rintro e w' ⟨rfl, rfl⟩
      go_wp2_with fail
      go_ret
      rw [HR.out]
      exact ⟨rfl, hB⟩
    | true =>
      rw [hp] at hcp hH
      by_cases hd : rest = [46]
      · rw [decide_eq_true hd] at hH
        have HR : Hid (H = false) := Lib.hid hH
        obtain rfl : rb = ⟨#[46]⟩ := bytes_ext.1 (by rw [hrd, hd])
        replace hcp := Lib.hid hcp
        clear hqp hco hk hc1 hp hH hrd hd
        go_enter Tryz.func85, Tryz.ntmps85
        go_wp2_with fail
        refine (hcp.out _).mono ?_
        rintro e w' ⟨rfl, rfl⟩
        go_wp2_with fail
        go_ret
        rw [HR.out]
        exact ⟨rfl, hB⟩
      · rw [decide_eq_false hd] at hH
        have HR : Hid (H = decide (rest ∈ K)) := Lib.hid (by rw [hH]; rfl)
        have r1 : (rb.toList != [46]) = true := by rw [toList_data, hrd]; exact bne_iff_ne.2 hd
        have r2 : rb.toList ≠ [46] := by rw [toList_data, hrd]; exact hd
        have r3 : (rb.toList == [46]) = false := beq_eq_false_iff_ne.2 r2
        replace hcp := Lib.hid hcp
        replace hc1 := Lib.hid hc1
        clear hqp hco hk hp hH hrb hrd hd
        go_enter Tryz.func85, Tryz.ntmps85
        go_wp2_with fail
        refine (hcp.out _).mono ?_
        rintro e w' ⟨rfl, rfl⟩
        go_wp2_with fail
        refine hc1.out.mono ?_
        rintro e w' ⟨rfl, rfl⟩
        go_wp2_with fail
        go_ret
        rw [HR.out]
        exact ⟨rfl, hB⟩
end Go.Proofs.Pw

namespace Go.Proofs.Pw
open Go.Sort
section
variable {α : Type} [Inhabited α] {lt : α → α → Bool}
theorem insInner_above : ∀ (j : Nat) (d : Array α) (p : Nat), j < p → j < d.size → (insInner lt 0 j d)[p]! = d[p]!
  | 0, _, _, _, _ => rfl
  | j + 1, d, p, h, hs => by
    unfold insInner
    split
    · rw [insInner_above j _ p (by omega) (by rw [size_swp]; omega), swp_other _ _ _ _ (by omega) (by omega)]
    · rfl
theorem insInner_zero (hS : SWO lt) : ∀ (j : Nat) (d : Array α), 1 ≤ j → j < d.size → SortedIn lt 0 j d → (insInner lt 0 j d)[0]! = if lt d[j]! d[0]! then d[j]! else d[0]!
  | 0, _, h, _, _ => absurd h (by decide)
  | j + 1, d, _, hs, hI => by
    unfold insInner
    by_cases hc : lt d[j + 1]! d[j]! = true
    · rw [if_pos (by simp [hc])]
      by_cases hj : j = 0
      · subst hj
        show (swp d 1 0)[0]! = _
        rw [swp_right _ _ _ (by omega), if_pos hc]
      · rw [insInner_zero hS j _ (by omega) (by rw [size_swp]; omega) (fun p q h1 h2 h3 => by
          rw [swp_other _ _ _ _ (by omega) (by omega), swp_other _ _ _ _ (by omega) (by omega)]
          exact hI p q h1 h2 (by omega))]
        rw [swp_right _ _ _ (by omega), swp_other _ _ _ _ (by omega) (by omega)]
    · rw [if_neg (by simp [hc])]
      have h2 : lt d[j + 1]! d[0]! = false := by
        by_cases hj : j = 0
        · subst hj; simpa using hc
        · exact hS.ntrans _ _ _ (by simpa using hc) (hI 0 j (Nat.le_refl _) (by omega) (by omega))
      rw [h2]
      rfl
theorem insOuter_zero (hS : SWO lt) (b : Nat) : ∀ (n i : Nat) (d : Array α), b - i = n → 1 ≤ i → i ≤ b → b ≤ d.size → SortedIn lt 0 i d → (insOuter lt 0 b i d)[0]! = (List.range' i n).foldl (fun m j => if lt d[j]! m then d[j]! else m) d[0]!
  | 0, i, d, hn, _, hib, _, _ => by
    rw [insOuter, if_neg (by omega)]
    rfl
  | n + 1, i, d, hn, hi, hib, hb, hI => by
    have hlt : i < b := by omega
    rw [insOuter, if_pos hlt]
    have h1 := insInner_spec hS swp_permIn permIn_refl permIn_trans 0 b i hlt i d (by omega) (Nat.le_refl _) hb ⟨fun p q hap hpq hqi _ hq => hI p q hap hpq (by omega), fun q h1 h2 => by omega⟩
    rw [insOuter_zero hS b n (i + 1) _ (by omega) (by omega) (by omega) (by rw [h1.1.1]; exact hb) h1.2]
    rw [insInner_zero hS i d hi (by omega) hI, List.range'_succ, List.foldl_cons]
    have hcong : ∀ (l : List Nat), (∀ j ∈ l, i < j) → ∀ m, l.foldl (fun m j => if lt (insInner lt 0 i d)[j]! m then (insInner lt 0 i d)[j]! else m) m = l.foldl (fun m j => if lt d[j]! m then d[j]! else m) m := by
      intro l
      induction l with
      | nil => intro _ _; rfl
      | cons x r ih =>
        intro h m
        rw [List.foldl_cons, List.foldl_cons, insInner_above i d x (h x (by simp)) (by omega)]
        exact ih (fun j hj => h j (by simp [hj])) _
    exact hcong _ (fun j hj => by have := List.mem_range'_1.1 hj; omega) _
theorem insertionSort_head (hS : SWO lt) (x : α) (r : List α) : (insertionSort lt (x :: r).toArray 0 (r.length + 1))[0]! = r.foldl (fun m y => if lt y m then y else m) x := by
  unfold insertionSort
  rw [insOuter_zero hS (r.length + 1) r.length 1 _ (by omega) (by omega) (by omega) (by simp) (fun i j h1 h2 h3 => by omega)]
  have h0 : (x :: r).toArray[0]! = x := by simp
  have hm : (List.range' 1 r.length).map (fun j => (x :: r).toArray[j]!) = r := by
    apply List.ext_getElem
    · simp
    · intro i h1 h2
      rw [List.getElem_map, List.getElem_range']
      rw [getElem!_pos _ _ (by simp; omega)]
      simp [Nat.add_comm]
  rw [h0]
  conv => rhs; rw [← hm, List.foldl_map]
end
end Go.Proofs.Pw

namespace Go.Proofs.Pw
open Go.RowKit
open Go.Proofs Go.Sort
open Go.Lib hiding intOf
abbrev BM := ByteArray × ByteArray
def encBM (x : BM) : List Value := [.string x.1, .string x.2]
def tBM (x : BM) : Md := (x.1.data.toList, x.2.data.toList)
def cmpBM (x y : BM) : Int := if (y.1.size : Int) < x.1.size then -1 else if (x.1.size : Int) < y.1.size then 1 else 0
theorem cmpBM_ord : Ord3 cmpBM := ⟨fun a b => by unfold cmpBM; split <;> (try split) <;> (try split) <;> omega, fun a b c h1 h2 => by
  unfold cmpBM at *
  by_cases h3 : (b.1.size : Int) < a.1.size <;> by_cases h4 : (c.1.size : Int) < b.1.size <;> by_cases h5 : (c.1.size : Int) < a.1.size <;> by_cases h6 : (a.1.size : Int) < b.1.size <;> by_cases h7 : (b.1.size : Int) < c.1.size <;> by_cases h8 : (a.1.size : Int) < c.1.size <;> simp [h3, h4, h5, h6, h7, h8] at h1 h2 ⊢ <;> omega⟩
theorem ltBM (x y : BM) : ltOf cmpBM x y = decide (y.1.size < x.1.size) := by
  unfold ltOf cmpBM
  rw [Bool.eq_iff_iff, decide_eq_true_iff, decide_eq_true_iff]
  split
  · omega
  · split <;> omega
theorem encBM_len (x : BM) : (encBM x).length = 2 := rfl
theorem encBM_one (x : BM) : ∀ v ∈ encBM x, v.oneCell' = true := by
  intro v hv
  simp [encBM] at hv
  rcases hv with rfl | rfl <;> rfl
theorem below_sortWB {B : Nat} {w0 w : World} (h : Below B w0 w) (hB : B ≤ w0.heap.size) {blk : Nat} (hb : B ≤ blk) (off m : Nat) (d : Array BM) (os : Array Obj) : Below B w0 (sortWorldK encBM 2 w blk off m d os) := by
  have hBs := h.size
  refine h.trans ⟨rfl, rfl, rfl, ?_, fun k hk => ?_⟩
  · simp [sortWorldK, grow, putRowK, putRow, mapBlock, Sort.ahead]
  · simp only [sortWorldK, grow, putRowK, putRow, mapBlock, Sort.ahead]
    by_cases hk2 : k < w.heap.size
    · rw [Array.getElem?_append_left (by simpa using hk2), Array.getElem?_modify, if_neg (by omega)]
    · exact absurd (Nat.lt_of_lt_of_le hk (Nat.le_trans hB hBs)) hk2
theorem modsAt_holdsB {w : World} {g cap : Nat} {d : Array BM} (h : HoldsK encBM 2 w g 0 d) (hc : d.size ≤ cap) (hm : cap ≤ 9223372036854775807) : ModsAt w (.slice (some ⟨g, 0, none⟩) d.size cap) (mdTs d.toList) := by
  refine ⟨some ⟨g, 0, none⟩, d.size, cap, fun i => (d[i]!).1, fun i => (d[i]!).2, rfl, ?_, hc, hm, fun j hj => ?_⟩
  · apply List.ext_getElem?
    intro i
    unfold mdTs
    by_cases hi : i < d.size
    · rw [mdF_get _ _ _ i hi, List.getElem?_map, List.getElem?_eq_getElem (by simpa using hi)]
      rw [getElem!_pos d i hi]
      simp
    · rw [List.getElem?_eq_none (by simpa using hi), List.getElem?_eq_none (by rw [mdF_length]; omega)]
  · have h0 := (h.cell hj (show 0 < 2 by decide)).1
    have h1 := (h.cell hj (show 1 < 2 by decide)).1
    exact ⟨g, 0, rfl, by simpa [encBM] using h0, by simpa [encBM] using h1⟩
theorem holdsB_own {w : World} {base e g cap : Nat} {L : List BM} (h : w.ownsRow base e 2 (.slice (some ⟨g, 0, none⟩) L.length cap) L.length (mdVs L)) : HoldsK encBM 2 w g 0 L.toArray := by
  rcases h.2 with ⟨h2, _⟩ | ⟨g', c', cur, e1, _, hg, hn, _, hcs, ht⟩
  · cases h2
  · injection e1 with e1 _ e2
    injection e1 with e1
    injection e1 with e1
    subst e1 e2
    intro j hj
    rw [size_flatK] at hj
    have hjL : j < L.length * 2 := by simpa using hj
    have hjl : j < (mdVs L).length := by rw [mdVs_length]; omega
    have hcur : j < cur.size := by rw [hcs]; omega
    have e3 : cur[j]? = (mdVs L)[j]? := by
      rw [← ht, List.getElem?_take, if_pos (by omega)]
      simp
    rw [get_flatK _ _ _ _ hj]
    have e4 : (mdVs L)[j]? = some ((encBM L.toArray[j / 2]!)[j % 2]!) := by
      have hget : L[j / 2]? = some (L.toArray[j / 2]!) := by
        have h2 : j / 2 < L.length := by omega
        rw [List.getElem?_eq_getElem h2, getElem!_pos _ _ (by simpa using h2)]
        simp
      obtain ⟨q0, q1⟩ := mdVs_get hget
      rcases Nat.mod_two_eq_zero_or_one j with h2 | h2
      · rw [show j / 2 * 2 = j by omega] at q0
        rw [q0, h2]; rfl
      · rw [show j / 2 * 2 + 1 = j by omega] at q1
        rw [q1, h2]; rfl
    refine ⟨?_, ?_⟩
    · rw [Nat.zero_add, cell_of_row w g j cur e (0, 0) hg, e3, e4]; rfl
    · simp [World.frozen?, hg]
theorem cmpNaN_calls (x : Int) (w : World) :
    Calls Tryz.prog 238 #[.int .i64 x] w fun e w' => e = .returned (.bool false) ∧ w' = w := by
  have h : (x != x) = false := by simp
  go_enter Tryz.func238, Tryz.ntmps238
  go_wp2_with fail
  go_ret
  exact ⟨by simp, rfl⟩
theorem cmpInt_calls (x y : Int) (w : World) :
    Calls Tryz.prog 149 #[.int .i64 x, .int .i64 y] w fun e w' => e = .returned (.int .i64 (if x < y then -1 else if y < x then 1 else 0)) ∧ w' = w := by
  have hn := fun (z : Int) W => cmpNaN_calls z W
  replace hn := Lib.hid hn
  rcases Int.lt_trichotomy x y with h | h | h
  · rw [if_pos h]
    have h2 : ¬ y < x := by omega
    go_enter Tryz.func149, Tryz.ntmps149
    go_wp2_with fail
    refine (hn.out _ _).mono ?_
    rintro e w1 ⟨rfl, rfl⟩
    go_wp2_with fail
    refine (hn.out _ _).mono ?_
    rintro e w1 ⟨rfl, rfl⟩
    go_wp2_with fail
    go_ret
    exact ⟨rfl, rfl⟩
  · subst h
    rw [if_neg (by omega), if_neg (by omega)]
    have h2 : ¬ x < x := by omega
    go_enter Tryz.func149, Tryz.ntmps149
    go_wp2_with fail
    refine (hn.out _ _).mono ?_
    rintro e w1 ⟨rfl, rfl⟩
    go_wp2_with fail
    refine (hn.out _ _).mono ?_
    rintro e w1 ⟨rfl, rfl⟩
    go_wp2_with fail
    go_ret
    exact ⟨rfl, rfl⟩
  · rw [if_neg (by omega), if_pos h]
    have h2 : ¬ x < y := by omega
    go_enter Tryz.func149, Tryz.ntmps149
    go_wp2_with fail
    refine (hn.out _ _).mono ?_
    rintro e w1 ⟨rfl, rfl⟩
    go_wp2_with fail
    refine (hn.out _ _).mono ?_
    rintro e w1 ⟨rfl, rfl⟩
    go_wp2_with fail
    go_ret
    exact ⟨rfl, rfl⟩
set_option maxRecDepth 100000 in
theorem longest_calls (p v q u : ByteArray) (w : World) :
    Calls Tryz.prog 87 #[.agg #[.string p, .string v], .agg #[.string q, .string u]] w fun e w' => e = .returned (.int .i64 (cmpBM (p, v) (q, u))) ∧ Bel w.heap.size w w' := by
  have hb1 := bel_alloc w (.cells #[.string p, .string v] 29)
  have hb2 := bel_alloc (w.alloc (.cells #[.string p, .string v] 29)) (.cells #[.string q, .string u] 29)
  have hB := bel_step hb1 hb2
  obtain ⟨m0, m1, _⟩ := (box2_alloc w (.string p) (.string v) 29).below hb2.b
  obtain ⟨f0, f1, _⟩ := box2_alloc (w.alloc (.cells #[.string p, .string v] 29)) (.string q) (.string u) 29
  simp only [World.size_alloc] at f0 f1
  have hc := fun W => cmpInt_calls q.size p.size W
  rw [show (if (q.size : Int) < p.size then (-1 : Int) else if (p.size : Int) < q.size then 1 else 0) = cmpBM (p, v) (q, u) from rfl] at hc
  generalize cmpBM (p, v) (q, u) = x at hc ⊢
  replace hc := Lib.hid hc
  clear hb1 hb2
  go_enter Tryz.func87, Tryz.ntmps87
  go_wp2_with fail
  refine (hc.out _).mono ?_
  rintro e w' ⟨rfl, rfl⟩
  go_wp2_with fail
  go_ret
  exact ⟨rfl, hB⟩
theorem Tryz.enters_longest : ∀ args w, (callFunc 87 args).run Tryz.prog w = .ok (.enter 87 args) w := Go.Proofs.enters_of Tryz.func87 (by kernel_rfl) rfl
set_option maxRecDepth 100000 in
theorem stableFn_calls (g cap : Nat) (L : List BM) (w : World) (hH : HoldsK encBM 2 w g 0 L.toArray) (hg : g < w.heap.size) (hn : L.length ≤ 19) :
    Calls Tryz.prog 148 #[.slice (some ⟨g, 0, none⟩) L.length cap, .int .i64 (L.length : Nat), .func (.func 87) #[] #[]] w fun e w' => e = .returned (.tuple #[]) ∧ ∃ n os, w' = sortWorldK encBM 2 w g 0 n (insertionSort (ltOf cmpBM) L.toArray 0 L.length) os := by
  have hcmp : CmpLays Tryz.prog 87 #[] encBM 2 cmpBM g 0 L.toArray.size w := by
    intro n os dk hs a b
    refine (longest_calls a.1 a.2 b.1 b.2 _).mono ?_
    rintro e w' ⟨rfl, hb⟩
    exact ⟨rfl, hb.grown⟩
  have hsz : L.toArray.size = L.length := by simp
  have hi := AnyQ.insertionSortCmpFunc (P := Tryz.prog) (ρ := laysSortMR) { laysSortM with } 2 Tryz.isAgg29 Tryz.sizeOf29 encBM encBM_len encBM_one cmpBM 87 #[] g 0 cap 0 L.length L.toArray w Tryz.enters_longest hcmp hH hg (Nat.zero_le _) (by rw [hsz]; exact Nat.le_refl _) (by rw [hsz]; omega)
  rw [hsz] at hi
  replace hi : Calls Tryz.prog 236 #[.slice (some ⟨g, 0, none⟩) L.length cap, .int .i64 0, .int .i64 (L.length : Nat), .func (.func 87) #[] #[]] w _ := hi
  have h1 : ¬ (20 : Int) ≤ (L.length : Int) := by omega
  have h2 : ¬ (20 : Int) < (L.length : Int) := by omega
  replace hi := Lib.hid hi
  clear hcmp hH hsz hg hn
  go_enter Tryz.func148, Tryz.ntmps148
  go_wp2_with fail
  refine wp_loop_rounds 1 ?_
  rw [rounds_succ]
  go_wp2_with fail
  refine hi.out.mono ?_
  rintro e w' ⟨rfl, n, os, rfl⟩
  go_wp2_with fail
  refine wp_loop_rounds 1 ?_
  rw [rounds_succ]
  go_wp2_with fail
  go_end0
  exact ⟨rfl, n, os, rfl⟩
set_option maxRecDepth 100000 in
theorem stableNone_calls (w : World) :
    Calls Tryz.prog 148 #[.slice none 0 0, .int .i64 0, .func (.func 87) #[] #[]] w fun e w' => e = .returned (.tuple #[]) ∧ w' = w := by
  have hi : Calls Tryz.prog 236 #[.slice none 0 0, .int .i64 0, .int .i64 0, .func (.func 87) #[] #[]] w fun e w' => e = .returned (.tuple #[]) ∧ w' = w := AnyF.insertionSortCmpFunc_none (P := Tryz.prog) (ρ := laysSortMR) { laysSortM with } none 0 _ w
  replace hi := Lib.hid hi
  go_enter Tryz.func148, Tryz.ntmps148
  go_wp2_with fail
  refine wp_loop_rounds 1 ?_
  rw [rounds_succ]
  go_wp2_with fail
  refine hi.out.mono ?_
  rintro e w' ⟨rfl, rfl⟩
  go_wp2_with fail
  refine wp_loop_rounds 1 ?_
  rw [rounds_succ]
  go_wp2_with fail
  go_end0
  exact ⟨rfl, rfl⟩
def stableL (L : List BM) : List Md := mdTs (insertionSort (ltOf cmpBM) L.toArray 0 L.length).toList
theorem swoBM : SWO (ltOf cmpBM) := swo_of cmpBM_ord
theorem stable_perm (L : List BM) : (insertionSort (ltOf cmpBM) L.toArray 0 L.length).size = L.length ∧ (stableL L).Perm (mdTs L) ∧ (stableL L).Pairwise fun a b => b.1.length ≤ a.1.length := by
  obtain ⟨⟨h1, _, h3⟩, h4⟩ := insertionSort_holds (lt := ltOf cmpBM) swoBM L.toArray 0 L.length (Nat.zero_le _) (by simp)
  have hs : (insertionSort (ltOf cmpBM) L.toArray 0 L.length).size = L.length := by rw [h1]; simp
  refine ⟨hs, ?_, ?_⟩
  · rw [Array.extract_eq_self_of_le (by omega), Array.extract_eq_self_of_le (by simp)] at h3
    unfold stableL mdTs
    exact h3.map _
  · unfold stableL mdTs
    rw [List.pairwise_map, List.pairwise_iff_getElem]
    intro i j hi hj hij
    have hj' : j < (insertionSort (ltOf cmpBM) L.toArray 0 L.length).size := by simpa using hj
    have h5 := h4 i j (Nat.zero_le _) hij (by omega)
    rw [ltBM, decide_eq_false_iff_not, getElem!_pos _ i (by omega), getElem!_pos _ j hj'] at h5
    rw [Array.getElem_toList, Array.getElem_toList, ← size_eq, ← size_eq]
    omega
theorem stable_head (x : BM) (r : List BM) (hx2 : x.1.data.toList ≠ []) : (stableL (x :: r)).head? = some (bestM (mdTs (x :: r))) := by
  have hh := insertionSort_head (lt := ltOf cmpBM) swoBM x r
  have hs := (stable_perm (x :: r)).1
  unfold stableL mdTs
  have hp : 0 < (insertionSort (ltOf cmpBM) (x :: r).toArray 0 (x :: r).length).size := by rw [hs]; simp
  rw [List.head?_map, List.head?_eq_getElem?, Array.getElem?_toList, Array.getElem?_eq_getElem hp]
  have hh2 : (insertionSort (ltOf cmpBM) (x :: r).toArray 0 (x :: r).length)[0] = r.foldl (fun m y => if ltOf cmpBM y m then y else m) x := by
    rw [← hh, getElem!_pos _ 0 hp]
    rfl
  rw [hh2]
  rw [List.map_cons, bestM_head _ _ hx2]
  have key : ∀ (r : List BM) (x : BM), tBM (r.foldl (fun m y => if ltOf cmpBM y m = true then y else m) x) = (r.map tBM).foldl longM (tBM x) := by
    intro r
    induction r with
    | nil => intro x; rfl
    | cons y r ih =>
      intro x
      rw [List.foldl_cons, List.map_cons, List.foldl_cons, ih]
      congr 1
      unfold longM
      rw [ltBM]
      by_cases h : x.1.size < y.1.size
      · rw [if_pos (decide_eq_true h), if_pos (by rw [size_eq, size_eq] at h; exact h)]
      · rw [if_neg (by simpa using h), if_neg (by rw [size_eq, size_eq] at h; exact h)]
  exact congrArg some (key r x)
set_option maxRecDepth 100000 in
theorem sortStable_calls (w0 w : World) (base : Nat) (x : Value) (L : List BM) (hB : Below w0.heap.size w0 w) (hb : w0.heap.size ≤ base) (ho : w.ownsRow base 29 2 x L.length (mdVs L)) (hsz : L.length ≤ 19) :
    Calls Tryz.prog 86 #[x, .func (.func 87) #[] #[]] w fun e w' => e = .returned (.tuple #[]) ∧ ModsAt w' x (stableL L) ∧ Below w0.heap.size w0 w' := by
  rcases ho.2 with ⟨rfl, h0⟩ | ⟨g, cap, cur, rfl, hbg, hg, hn, hm, hcs, ht⟩
  · have : L = [] := List.eq_nil_of_length_eq_zero h0
    subst this
    have hc := fun W => stableNone_calls W
    replace hc := Lib.hid hc
    clear ho h0 hsz
    go_enter Tryz.func86, Tryz.ntmps86
    go_wp2_with fail
    refine (hc.out _).mono ?_
    rintro e w' ⟨rfl, rfl⟩
    go_wp2_with fail
    go_end0
    refine ⟨rfl, ?_, hB⟩
    have h := (stable_perm []).2.1
    rw [List.perm_nil.1 (show (stableL []).Perm [] from h)]
    exact ModsAt.nil _
  · have hH := holdsB_own ho
    have hgw : g < w.heap.size := (Array.getElem?_eq_some_iff.1 hg).1
    have hc := stableFn_calls g cap L w hH hgw hsz
    have HB := Lib.hid hB
    have hfin : ∀ n os, ModsAt (sortWorldK encBM 2 w g 0 n (insertionSort (ltOf cmpBM) L.toArray 0 L.length) os) (.slice (some ⟨g, 0, none⟩) L.length cap) (stableL L) := fun n os => by
      have hs := (stable_perm L).1
      have hH2 : HoldsK encBM 2 (sortWorldK encBM 2 w g 0 n (insertionSort (ltOf cmpBM) L.toArray 0 L.length) os) g 0 (insertionSort (ltOf cmpBM) L.toArray 0 L.length) := holdsK_sortWorldK_c encBM 2 w g 0 L.toArray _ n os hH hgw (by rw [hs]; simp)
      have h := modsAt_holdsB (cap := cap) hH2 (by omega) (by unfold maxLen at hm; exact hm)
      rw [hs] at h
      exact h
    have HF := Lib.hid hfin
    replace hc := Lib.hid hc
    clear hfin hH hB ho ht hcs hm hn hg
    go_enter Tryz.func86, Tryz.ntmps86
    go_wp2_with fail
    refine hc.out.mono ?_
    rintro e w' ⟨rfl, n, os, rfl⟩
    go_wp2_with fail
    go_end0
    exact ⟨rfl, HF.out n os, below_sortWB HB.out (Nat.le_refl _) (by omega) 0 n _ os⟩
end Go.Proofs.Pw
