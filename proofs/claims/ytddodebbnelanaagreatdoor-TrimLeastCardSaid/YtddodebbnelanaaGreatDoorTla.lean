/- Tl: walks and plain laws, joined: TrimMath SlEqM Trim Trimmed TrimLeast TrimLeast2. Conditions: at each theorem. -/
import Derived.Test.YtddodebbnelanaaGreatDoorMpc
import Derived.Test.YtddodebbnelanaaGreatDoorMpb
import Derived.Test.YtddodebbnelanaaGreatDoorMpd

/- Plain mathematics of package trim: the fewest roots. No program in sight. -/
namespace Go.Proofs.Pw
open Go.Lib hiding intOf

/-- trim's loop: one root less, where it builds the same -/
noncomputable def trimF (l : List En) (sel : List Md) : Nat → List Md → Nat → List Md
  | 0, out, _ => out
  | n + 1, out, i => if i < out.length then (if buildL l (out.eraseIdx i) = sel then trimF l sel n (out.eraseIdx i) i else trimF l sel n out (i + 1)) else out
theorem trimF_done {l : List En} {sel out : List Md} {i : Nat} (h : ¬ i < out.length) : ∀ n, trimF l sel n out i = out
  | 0 => rfl
  | n + 1 => by rw [trimF, if_neg h]
theorem trimF_fuel {l : List En} {sel : List Md} : ∀ (n m : Nat) (out : List Md) (i : Nat), out.length - i ≤ n → out.length - i ≤ m → trimF l sel n out i = trimF l sel m out i
  | 0, m, out, i, h, _ => by rw [trimF_done (by omega), trimF_done (by omega)]
  | n, 0, out, i, _, h => by rw [trimF_done (by omega), trimF_done (by omega)]
  | n + 1, m + 1, out, i, h1, h2 => by
    rw [trimF, trimF]
    by_cases h : i < out.length
    · rw [if_pos h, if_pos h]
      have e : (out.eraseIdx i).length = out.length - 1 := List.length_eraseIdx_of_lt h
      split
      · exact trimF_fuel n m _ _ (by rw [e]; omega) (by rw [e]; omega)
      · exact trimF_fuel n m _ _ (by omega) (by omega)
    · rw [if_neg h, if_neg h]
noncomputable def trimL (l : List En) (sel : List Md) : List Md := trimF l sel sel.length sel 0
/-- roots of a selection: an error -/
noncomputable def trimErr (l : List En) (sel : List Md) : Nat × Int := if (startErr l sel).1 ≠ 0 then startErr l sel else if buildL l sel = sel then (0, -1) else (3, -1)
noncomputable def trimR (l : List En) (sel : List Md) : List Md := if (startErr l sel).1 = 0 ∧ buildL l sel = sel then trimL l sel else []

/-- what stays of the loop -/
structure TrimInv (l : List En) (sel out : List Md) (i : Nat) : Prop where
  sub : out.Sublist sel
  same : buildL l out = sel
  least : ∀ j, j < i → j < out.length → buildL l (out.eraseIdx j) ≠ sel
theorem RightG.subl {l : List En} {sel out : List Md} (h : RightG l sel) (hs : out.Sublist sel) : RightG l out := ⟨h.idx, fun m hm => h.at_ m (hs.subset hm)⟩
theorem reached_subl {l : List En} {sel out : List Md} (hs : out.Sublist sel) {m : Md} (h : Reached l out m) : Reached l sel m := reached_sub (fun _ hy => .root (hs.subset hy)) h
theorem erase_two {α : Type} (l : List α) (i j : Nat) (h : j < i) : ((l.eraseIdx i).eraseIdx j).Sublist (l.eraseIdx j) := by
  have e : (l.eraseIdx i).eraseIdx j = (l.eraseIdx j).eraseIdx (i - 1) := by
    apply List.ext_getElem?
    intro k
    simp only [List.getElem?_eraseIdx]
    split <;> split <;> split <;> first | rfl | omega | (split <;> first | rfl | omega)
  rw [e]
  exact List.eraseIdx_sublist _ _
theorem trimF_inv {l : List En} {sel : List Md} (hG : RightG l sel) (hS : buildL l sel = sel) : ∀ (n : Nat) (out : List Md) (i : Nat), TrimInv l sel out i → out.length - i ≤ n → ∃ k, TrimInv l sel (trimF l sel n out i) k ∧ (trimF l sel n out i).length ≤ k
  | 0, out, i, h, hn => ⟨i, h, by show out.length ≤ i; omega⟩
  | n + 1, out, i, h, hn => by
    rw [trimF]
    by_cases hi : i < out.length
    · rw [if_pos hi]
      by_cases hb : buildL l (out.eraseIdx i) = sel
      · rw [if_pos hb]
        have hsub := (List.eraseIdx_sublist out i).trans h.sub
        refine trimF_inv hG hS n _ _ ⟨hsub, hb, fun j hj hl => ?_⟩ (by rw [List.length_eraseIdx_of_lt hi]; omega)
        intro hc
        have hl2 : j < out.length := by omega
        refine h.least j hj hl2 ?_
        have s1 : ((out.eraseIdx i).eraseIdx j).Sublist (out.eraseIdx j) := erase_two out i j hj
        have s2 : (out.eraseIdx j).Sublist sel := (List.eraseIdx_sublist out j).trans h.sub
        have := build_between (hG.subl (s1.trans s2)) (hG.subl s2) hG (fun m hm => reached_subl s1 hm) (fun m hm => reached_subl s2 hm) (hc.trans hS.symm)
        exact this.trans hS
      · rw [if_neg hb]
        refine trimF_inv hG hS n _ _ ⟨h.sub, h.same, fun j hj hl => ?_⟩ (by omega)
        by_cases e : j = i
        · subst e; exact hb
        · exact h.least j (by omega) hl
    · rw [if_neg hi]
      exact ⟨i, h, by omega⟩
/-- what TrimLeast says -/
structure TlFacts (l : List En) (sel x : List Md) : Prop where
  sub : x.Sublist sel
  same : buildL l x = sel
  least : ∀ j, j < x.length → buildL l (x.eraseIdx j) ≠ sel
theorem trimL_facts {l : List En} {sel : List Md} (hG : RightG l sel) (hS : buildL l sel = sel) : TlFacts l sel (trimL l sel) := by
  obtain ⟨k, h1, h2⟩ := trimF_inv hG hS sel.length sel 0 ⟨List.Sublist.refl _, hS, fun j hj => absurd hj (Nat.not_lt_zero _)⟩ (by omega)
  exact ⟨h1.sub, h1.same, fun j hj => h1.least j (by unfold trimL at hj; omega) hj⟩
theorem TlFacts.under {l : List En} {sel x : List Md} (hG : RightG l sel) (hS : buildL l sel = sel) (h : TlFacts l sel x) {y : List Md} (hy : y.Sublist x) : underB (buildL l y) sel = true := by
  have hs := hy.trans h.sub
  have := build_under (hG.subl hs) hG (fun m hm => reached_subl hs hm)
  rw [hS] at this
  exact this
theorem TlFacts.underX {l : List En} {sel x : List Md} (hG : RightG l sel) (hS : buildL l sel = sel) (h : TlFacts l sel x) : underB x sel = true := by
  have hr : RiseP sel := by rw [← hS]; exact hG.great.rise
  exact under_sub (fun m hm => h.sub.subset hm) (great_self hr).under
end Go.Proofs.Pw

/- slices.Equal at modules. -/
namespace Go.Proofs.Pw
open Go.RowKit
open Go.Lib hiding intOf

set_option maxRecDepth 100000 in
theorem equalM_calls (v u : Value) (l m : List Md) (w : World) (h : ModsAt w v l) (g : ModsAt w u m) :
    Calls Tryz.prog 106 #[v, u] w fun e w' => e = .returned (.bool (decide (l = m))) ∧ Below w.heap.size w w' := by
  obtain ⟨a, n, cap, P, V, rfl, rfl, hn, hcap, hc⟩ := h
  obtain ⟨a', n', cap', Q, U, rfl, rfl, hn', hcap', hc'⟩ := g
  have hg := Tryz.md_guard
  have hq := md_neq
  by_cases hnn : n = n'
  · subst hnn
    replace hc := Lib.hid hc
    replace hc' := Lib.hid hc'
    go_enter Tryz.func106, Tryz.ntmps106
    go_wp2_with fail
    go_loopw [5, 13] (fun _ i wr => ∃ k : Nat, k ≤ n ∧ i = .int .i64 k ∧ Below w.heap.size w wr ∧ Hid (∀ j, j < k → P j = Q j ∧ V j = U j)) (fun _ i _ => n - (intOf i).toNat)
    case atStart => exact ⟨0, by omega, rfl, Below.refl _ _, Lib.hid (fun j hj => absurd hj (Nat.not_lt_zero _))⟩
    case round =>
      obtain ⟨k, hk, rfl, hb, HA⟩ := hrel
      by_cases hlt : k < n
      · obtain ⟨b1, o1, rfl, d1, d2⟩ := hc.out k hlt
        obtain ⟨b2, o2, rfl, d3, d4⟩ := hc'.out k hlt
        replace d1 := Below.cell_some hb d1
        replace d2 := Below.cell_some hb d2
        replace d3 := Below.cell_some hb d3
        replace d4 := Below.cell_some hb d4
        by_cases he : P k = Q k ∧ V k = U k
        · have HE := Lib.hid he
          have hd := decide_eq_true he
          clear he
          go_wp2_with fail
          go_region
          all_goals
            go_wp2_with fail
            go_roundw
            case rel =>
              refine ⟨k + 1, by omega, by go_num, hb.drew, Lib.hid (fun j hj => ?_)⟩
              by_cases e : j = k
              · subst e; exact HE.out
              · exact HA.out j (by omega)
            case measure => simp [intOf]; omega
        · have HF : Hid (decide (mdF n P V = mdF n Q U) = false) := Lib.hid (decide_eq_false (fun e => he (mdF_ext.1 e k hlt)))
          have hd := decide_eq_false he
          clear he
          go_wp2_with fail
          go_region
          all_goals
            go_wp2_with fail
            go_ret
            rw [HF.out]
            exact ⟨rfl, hb.drew⟩
      · obtain rfl : k = n := by omega
        have HF : Hid (decide (mdF k P V = mdF k Q U) = true) := Lib.hid (decide_eq_true (mdF_ext.2 HA.out))
        go_wp2_with fail
        go_ret
        rw [HF.out]
        exact ⟨rfl, hb⟩
  · have HF : Hid (decide (mdF n P V = mdF n' Q U) = false) := Lib.hid (decide_eq_false (fun e => hnn (by have := congrArg List.length e; rwa [mdF_length, mdF_length] at this)))
    have hnn2 : ((n : Int) == (n' : Int)) = false := beq_eq_false_iff_ne.2 (by omega)
    clear hc hc' hnn hg hq
    go_enter Tryz.func106, Tryz.ntmps106
    go_wp2_with fail
    go_ret
    rw [HF.out]
    exact ⟨rfl, Below.refl _ _⟩

end Go.Proofs.Pw

/- trim.Same, trim.Roots. Conditions: texts of at most 1000000 bytes, lists of at most 100000. -/
namespace Go.Proofs.Pw
open Go.RowKit
open Go.Lib hiding intOf

/-- what trim.Same answers -/
noncomputable def sameR (l : List En) (a b : List Md) : Bool := if (startErr l a).1 = 0 ∧ (startErr l b).1 = 0 then decide (buildL l a = buildL l b) else false
theorem trimSame_in (ks : List Nat) (A : Nat → Addr) (hks : IdxKs ks) (a : Option Addr) (n cap : Nat) (P V : Nat → ByteArray) (R : Nat → List Md) (K : Nat → List Str) (Bk : Nat → Bool) (Rv Kv : Nat → Value) (va vb : Value) (la lb : List Md) (w : World) (hE : EnvP ks A w) (h : EntsIn w a n cap P V R K Bk Rv Kv) (hs : ShortI (enF n P V R K Bk)) (ha : ModsAt w va la) (hb0 : ModsAt w vb lb) (hla : la.length ≤ 100000) (hlb : lb.length ≤ 100000) :
    Calls Tryz.prog 47 #[.slice a n cap, va, vb] w fun e w' => (∃ ev, e = .returned (.tuple #[.bool (sameR (enF n P V R K Bk) la lb), ev]) ∧ FaultAt A w' ev (orE (startErr (enF n P V R K Bk) la) (startErr (enF n P V R K Bk) lb))) ∧ Below w.heap.size w w' := by
  have h1 := fun W hb => mvsBuild_in ks A hks a n cap P V R K Bk Rv Kv va la W (hE.below hb) (h.below hb) hs (ha.below hb) hla
  have h2 := fun W hb => mvsBuild_in ks A hks a n cap P V R K Bk Rv Kv vb lb W (hE.below hb) (h.below hb) hs (hb0.below hb) hlb
  obtain ⟨a1, n1, c1, _, _, rfl, _⟩ := id ha
  obtain ⟨a2, n2, c2, _, _, rfl, _⟩ := id hb0
  have hB := Below.refl w.heap.size w
  have hS : sameR (enF n P V R K Bk) la lb = if (startErr (enF n P V R K Bk) la).1 = 0 ∧ (startErr (enF n P V R K Bk) lb).1 = 0 then decide (buildR (enF n P V R K Bk) la = buildR (enF n P V R K Bk) lb) else false := by
    unfold sameR buildR
    by_cases h3 : (startErr (enF n P V R K Bk) la).1 = 0 ∧ (startErr (enF n P V R K Bk) lb).1 = 0
    · rw [if_pos h3, if_pos h3, if_pos h3.1, if_pos h3.2]
    · rw [if_neg h3, if_neg h3]
  obtain ⟨Sv, hSv⟩ : ∃ Sv, sameR (enF n P V R K Bk) la lb = Sv := ⟨_, rfl⟩
  rw [hSv] at hS ⊢
  clear hSv
  generalize buildR (enF n P V R K Bk) la = X at *
  generalize buildR (enF n P V R K Bk) lb = Y at *
  generalize startErr (enF n P V R K Bk) la = r1 at *
  generalize startErr (enF n P V R K Bk) lb = r2 at *
  have HS := Lib.hid hS
  replace h1 := Lib.hid h1
  replace h2 := Lib.hid h2
  clear h hs ha hb0 hE hS
  go_enter Tryz.func47, Tryz.ntmps47
  go_wp2_with fail
  refine (h1.out _ hB).mono ?_
  rintro e w1 ⟨⟨x, ev, rfl, hf, hx⟩, hb⟩
  replace hB := below_step hB hb
  obtain ⟨ax, cx, rfl⟩ := mods_len hx
  clear hb
  rcases fault_form hf with ⟨h0, rfl⟩ | ⟨h0, ty, q, rfl⟩
  · have HX := Lib.hid hx
    have H0 := Lib.hid h0
    clear hf h0 hx
    go_wp2_with fail
    refine (h2.out _ hB).mono ?_
    rintro e w2 ⟨⟨y, ev2, rfl, hf2, hy⟩, hb⟩
    replace hB := below_step hB hb
    obtain ⟨ay, cy, rfl⟩ := mods_len hy
    have HOR : Hid (orE r1 r2 = r2) := Lib.hid (by unfold orE; rw [if_neg (by simp [H0.out])])
    rcases fault_form hf2 with ⟨h3, rfl⟩ | ⟨h3, ty, q, rfl⟩
    · have hq := equalM_calls _ _ _ _ w2 (HX.out.below hb) hy
      have HF := Lib.hid hf2
      have H3 := Lib.hid (And.intro H0.out h3)
      obtain ⟨D, hD⟩ : ∃ D, decide (X = Y) = D := ⟨_, rfl⟩
      rw [hD] at hq
      have HD := Lib.hid hD
      replace hq := Lib.hid hq
      clear hD
      clear hf2 h3 hy hb HX
      go_wp2_with fail
      refine hq.out.mono ?_
      rintro e w3 ⟨rfl, hb⟩
      go_wp2_with fail
      go_ret2
      rw [HOR.out, HS.out, if_pos H3.out, HD.out]
      exact ⟨⟨_, rfl, HF.out.below hb⟩, below_step hB hb⟩
    · have HF := Lib.hid hf2
      have H3 := Lib.hid h3
      clear hf2 h3 hy hb HX
      go_wp2_with fail
      go_ret2
      rw [HOR.out, HS.out, if_neg (fun h => H3.out h.2)]
      exact ⟨⟨_, rfl, HF.out⟩, hB⟩
  · have HF := Lib.hid hf
    have HOR : Hid (orE r1 r2 = r1) := Lib.hid (by unfold orE; rw [if_pos h0])
    have H0 := Lib.hid h0
    clear hf h0 hx
    go_wp2_with fail
    go_ret2
    rw [HOR.out, HS.out, if_neg (fun h => H0.out h.1)]
    exact ⟨⟨_, rfl, HF.out⟩, hB⟩

/-- the length that a slice says -/
def lenOf : Value → Nat
  | .slice _ n _ => n
  | _ => 0
theorem mdTs_erase (L : List (ByteArray × ByteArray)) (i : Nat) : mdTs (L.take i ++ L.drop (i + 1)) = (mdTs L).eraseIdx i := by
  rw [List.eraseIdx_eq_take_drop_succ]
  simp [mdTs, List.map_take, List.map_drop]

set_option maxHeartbeats 4000000 in
set_option maxRecDepth 100000 in
theorem trimRoots_in (ks : List Nat) (A : Nat → Addr) (hks : IdxKs ks) (a : Option Addr) (n cap : Nat) (P V : Nat → ByteArray) (R : Nat → List Md) (K : Nat → List Str) (Bk : Nat → Bool) (Rv Kv : Nat → Value) (va : Value) (sel : List Md) (w : World) (hE : EnvP ks A w) (h : EntsIn w a n cap P V R K Bk Rv Kv) (hs : ShortI (enF n P V R K Bk)) (ha : ModsAt w va sel) (hla : sel.length ≤ 100000) :
    Calls Tryz.prog 46 #[.slice a n cap, va] w fun e w' => (∃ x ev, e = .returned (.tuple #[x, ev]) ∧ FaultAt A w' ev (trimErr (enF n P V R K Bk) sel) ∧ ModsAt w' x (trimR (enF n P V R K Bk) sel)) ∧ Below w.heap.size w w' := by
  have hbu := fun W hb rv roots (hr : ModsAt W rv roots) hl => mvsBuild_in ks A hks a n cap P V R K Bk Rv Kv rv roots W (hE.below hb) (h.below hb) hs hr hl
  obtain ⟨a1, n1, c1, _, _, rfl, _⟩ := id ha
  have hB := Below.refl w.heap.size w
  have HA := Lib.hid ha
  have HE := Lib.hid hE
  generalize hl0 : enF n P V R K Bk = l at *
  have h1 := hbu w hB _ _ ha hla
  replace hbu := Lib.hid hbu
  replace h1 := Lib.hid h1
  clear h hs ha hE hl0
  go_enter Tryz.func46, Tryz.ntmps46
  go_wp2_with fail
  refine h1.out.mono ?_
  rintro e w1 ⟨⟨x, ev, rfl, hf, hx⟩, hb⟩
  replace hB := below_step hB hb
  obtain ⟨ax, nx, cx, _, _, rfl, _⟩ := id hx
  clear hb h1
  rcases fault_form hf with ⟨h0, rfl⟩ | ⟨h0, ty, q, rfl⟩
  · have hG := rightG_of h0
    have hX : buildR l sel = buildL l sel := by unfold buildR; rw [if_pos h0]
    rw [hX] at hx
    have hq := equalM_calls _ _ _ _ w1 hx (HA.out.below hB)
    by_cases he : buildL l sel = sel
    · rw [decide_eq_true he] at hq
      have hT1 : trimErr l sel = (0, -1) := by unfold trimErr; rw [if_neg (by simp [h0]), if_pos he]
      have hT2 : trimR l sel = trimL l sel := by unfold trimR; rw [if_pos ⟨h0, he⟩]
      have HTR := Lib.hid (And.intro hT1 hT2)
      have HT : Hid (trimL l sel = trimF l sel sel.length sel 0) := Lib.hid rfl
      have HG := Lib.hid hG
      have HH := Lib.hid (And.intro h0 he)
      replace hq := Lib.hid hq
      clear hf hx h0 hX he hG hT1 hT2
      go_wp2_with fail
      refine hq.out.mono ?_
      rintro e w2 ⟨rfl, hb⟩
      replace hB := below_step hB hb
      clear hq hb
      have hcl := cloneM_calls _ _ w2 (HA.out.below hB) (by omega)
      replace hcl := Lib.hid hcl
      go_wp2_with fail
      refine hcl.out.mono ?_
      rintro e w3 ⟨v3, L3, rfl, hL3, ho3, hb⟩
      replace hB := below_step hB hb
      have hM3 := modsAt_own ho3
      rw [← hL3] at hM3
      have HM3 := Lib.hid hM3
      have HL0 := Lib.hid hla
      clear hcl ho3 hb hM3
      go_wp2_with fail
      go_loopw [8, 9, 10, 11, 12] (fun o i _ _ _ wr => ∃ (k : Nat) (T : List Md), i = .int .i64 k ∧ k ≤ T.length ∧ Hid (ModsAt wr o T) ∧ Below w.heap.size w wr ∧ Hid (T.Sublist sel ∧ trimF l sel T.length T k = trimF l sel sel.length sel 0)) (fun o i _ _ _ _ => (lenOf o) - (intOf i).toNat)
      case atStart => exact ⟨0, sel, rfl, Nat.zero_le _, HM3, hB, Lib.hid ⟨List.Sublist.refl _, rfl⟩⟩
      case round =>
        clear hB HM3
        obtain ⟨k, T, rfl, hk, hM, hB, hI⟩ := hrel
        obtain ⟨ao, co, rfl⟩ := mods_len hM.out
        have hTl : T.length ≤ sel.length := hI.out.1.length_le
        have hla := HL0.out
        by_cases hlt : k < T.length
        · have hkn : (k : Int) < (T.length : Int) := by omega
          have hcl := cloneM_calls _ T wr hM.out (by omega)
          have hwk := wrap_nat (k + 1) (by omega)
          have hte : (T.eraseIdx k).length = T.length - 1 := List.length_eraseIdx_of_lt hlt
          have hsub : (T.eraseIdx k).Sublist sel := (List.eraseIdx_sublist T k).trans hI.out.1
          have hse : (startErr l (T.eraseIdx k)).1 = 0 := startErr_sub HH.out.1 (fun m hm => .root (hsub.subset hm))
          have hstep : trimF l sel T.length T k = if buildL l (T.eraseIdx k) = sel then trimF l sel (T.eraseIdx k).length (T.eraseIdx k) k else trimF l sel T.length T (k + 1) := by
            obtain ⟨m, hm⟩ : ∃ m, T.length = m + 1 := ⟨T.length - 1, by omega⟩
            have h1 : trimF l sel (m + 1) T k = if k < T.length then (if buildL l (T.eraseIdx k) = sel then trimF l sel m (T.eraseIdx k) k else trimF l sel m T (k + 1)) else T := rfl
            rw [hm, h1, if_pos hlt, hte, hm, Nat.add_sub_cancel]
            split
            · rfl
            · exact trimF_fuel _ _ _ _ (by omega) (by omega)
          have HST := Lib.hid (And.intro hstep (And.intro hte (And.intro hsub hse)))
          replace hcl := Lib.hid hcl
          clear hte hsub hse hstep
          go_wp2_with fail
          refine hcl.out.mono ?_
          rintro e w4 ⟨v4, L4, rfl, hL4, ho4, hb4⟩
          have hl4 : L4.length = T.length := by rw [hL4, mdTs_length]
          have hdl := deleteM_calls wr.heap.size v4 L4 k w4 ho4 (by omega) (by omega)
          rw [show (((k + 1 : Nat)) : Int) = (k : Int) + 1 from by omega] at hdl
          obtain ⟨a4, m4, c4, rfl⟩ := own_form ho4
          have hB4 := below_step hB hb4
          have HL4 := Lib.hid hL4
          have hsz4 := hB.size
          have hW4 := hb4
          replace hdl := Lib.hid hdl
          clear hl4 hL4 ho4 hcl hb4
          go_wp2_with fail
          refine hdl.out.mono ?_
          rintro e w5 ⟨v5, rfl, ho5, hb5, -⟩
          have hM5 := modsAt_own ho5
          rw [mdTs_erase, ← HL4.out] at hM5
          have hB5 := hB4.trans (hb5.mono hsz4)
          have hW5 := hW4.trans hb5
          have hb := hbu.out w5 hB5 v5 _ hM5 (by rw [HST.out.2.1]; omega)
          have hbR : buildR l (T.eraseIdx k) = buildL l (T.eraseIdx k) := by unfold buildR; rw [if_pos HST.out.2.2.2]
          rw [hbR] at hb
          obtain ⟨a5, c5, rfl⟩ := mods_len hM5
          have HM5 := Lib.hid hM5
          replace hb := Lib.hid hb
          clear hdl ho5 hM5 hb5 hbR hB4
          go_wp2_with fail
          refine hb.out.mono ?_
          rintro e w6 ⟨⟨x6, ev6, rfl, hf6, hx6⟩, hb6⟩
          obtain rfl : ev6 = .nilIface := by
            rcases fault_form hf6 with ⟨_, h⟩ | ⟨h, _⟩
            · exact h
            · exact absurd HST.out.2.2.2 h
          have hB6 := below_step hB5 hb6
          have hq6 := equalM_calls _ _ _ _ w6 hx6 (HA.out.below hB6)
          obtain ⟨a6, m6, c6, _, _, rfl, _⟩ := id hx6
          have HM6 := Lib.hid (HM5.out.below hb6)
          have HMT := Lib.hid (hM.out.below (below_step hW5 hb6))
          by_cases hbe : buildL l (T.eraseIdx k) = sel
          · rw [decide_eq_true hbe] at hq6
            have HBE := Lib.hid hbe
            replace hq6 := Lib.hid hq6
            clear hf6 hx6 hb hb6 hB5 hbe
            go_wp2_with fail
            refine hq6.out.mono ?_
            rintro e w7 ⟨rfl, hb7⟩
            go_wp2_with fail
            go_roundw
            case rel =>
              refine ⟨k, T.eraseIdx k, rfl, by rw [HST.out.2.1]; omega, Lib.hid (HM6.out.below hb7), below_step hB6 hb7, Lib.hid ⟨HST.out.2.2.1, ?_⟩⟩
              rw [← hI.out.2, HST.out.1, if_pos HBE.out]
            case measure => simp only [lenOf, intOf]; have := HST.out.2.1; omega
          · rw [decide_eq_false hbe] at hq6
            have HBE := Lib.hid hbe
            replace hq6 := Lib.hid hq6
            clear hf6 hx6 hb hb6 hB5 hbe
            go_wp2_with fail
            refine hq6.out.mono ?_
            rintro e w7 ⟨rfl, hb7⟩
            go_wp2_with fail
            go_roundw
            case rel =>
              refine ⟨k + 1, T, by go_num, hlt, Lib.hid (HMT.out.below hb7), below_step hB6 hb7, Lib.hid ⟨hI.out.1, ?_⟩⟩
              rw [← hI.out.2, HST.out.1, if_neg HBE.out]
            case measure => simp only [lenOf, intOf]; omega
        · obtain rfl : k = T.length := by omega
          have hF : T = trimL l sel := by
            rw [HT.out, ← hI.out.2, trimF_done hlt]
          have HF := Lib.hid hF
          clear hF hlt
          go_wp2_with fail
          go_ret2
          rw [HTR.out.1, HTR.out.2, ← HF.out]
          exact ⟨⟨_, _, rfl, .inl ⟨rfl, rfl, rfl⟩, hM.out⟩, hB⟩
    · rw [decide_eq_false he] at hq
      have hT1 : trimErr l sel = (3, -1) := by unfold trimErr; rw [if_neg (by simp [h0]), if_neg he]
      have hT2 : trimR l sel = [] := by unfold trimR; rw [if_neg (fun h => he h.2)]
      have HTR := Lib.hid (And.intro hT1 hT2)
      replace hq := Lib.hid hq
      clear hf hx h0 hX he hG hT1 hT2
      go_wp2_with fail
      refine hq.out.mono ?_
      rintro e w2 ⟨rfl, hb⟩
      replace hB := below_step hB hb
      have g3 := (HE.out.below hB).errs.var 3 hks.1
      simp only [errG] at g3
      clear hq hb
      go_wp2_with fail
      go_region
      all_goals
        go_wp2_with fail
        go_ret2
        rw [HTR.out.1, HTR.out.2]
        refine ⟨⟨_, _, rfl, .inr (.inl ⟨by decide, rfl, ?_⟩), ModsAt.nil _⟩, hB.drew⟩
        show _ = errV A 3
        rw [errV_pos A (show (3 : Nat) ≠ 0 by decide)]
        rfl
  · have HF := Lib.hid hf
    have hT1 : trimErr l sel = startErr l sel := by unfold trimErr; rw [if_pos h0]
    have hT2 : trimR l sel = [] := by unfold trimR; rw [if_neg (fun h => h0 h.1)]
    have HTR := Lib.hid (And.intro hT1 hT2)
    clear hf h0 hx hT1 hT2
    go_wp2_with fail
    go_ret2
    rw [HTR.out.1, HTR.out.2]
    exact ⟨⟨_, _, rfl, HF.out, ModsAt.nil _⟩, hB⟩
end Go.Proofs.Pw

/- trimmed of the statements: a closed fact. -/
namespace Go.Proofs.Pw
open Go.RowKit
open Go.Lib hiding intOf

theorem smX_err : startErr smL smX = (0, -1) := by decide +kernel
theorem smX_right : RightG smL smX := rightG_of (by rw [smX_err])
theorem sm_build2 : buildL smL smRoots2 = smX := by
  have := sm_build
  unfold buildR at this
  rw [if_pos (by rw [sm_err2])] at this
  exact this
theorem smX_build : buildL smL smX = smX := by
  have := build_again sm_right2
  rw [sm_build2] at this
  exact this
theorem smA_build : buildL smL smRoots = smX := by
  have h : reachL smL smRoots = smX := by
    have := sm_reach
    unfold reachR at this
    rw [if_pos (by rw [sm_err])] at this
    exact this
  unfold buildL
  rw [h]
  decide +kernel
theorem smB_build : buildL smL (smX.eraseIdx 0) ≠ smX := by
  intro h
  have hG : RightG smL (smX.eraseIdx 0) := smX_right.subl (List.eraseIdx_sublist _ _)
  have h1 : (sA.data.toList, v110.data.toList) ∈ buildL smL (smX.eraseIdx 0) := by rw [h]; decide +kernel
  have h2 := build_reached hG h1
  have h3 := reached_closed (T := [(sB.data.toList, v010.data.toList)]) (by decide +kernel) (by decide +kernel) h2
  exact absurd h3 (by decide +kernel)
theorem smX_trim : trimErr smL smX = (0, -1) ∧ trimR smL smX = smRoots := by
  refine ⟨?_, ?_⟩
  · unfold trimErr
    rw [if_neg (by rw [smX_err]; decide), if_pos smX_build]
  · unfold trimR
    rw [if_pos ⟨by rw [smX_err], smX_build⟩]
    show trimF smL smX (0 + 1 + 1) smX 0 = smRoots
    rw [trimF, if_pos (by decide), if_neg smB_build, trimF, if_pos (by decide)]
    have e : smX.eraseIdx (0 + 1) = smRoots := by decide +kernel
    rw [e, if_pos smA_build]
    rfl

set_option maxHeartbeats 2000000 in
set_option maxRecDepth 100000 in
theorem trimmed_calls (ks : List Nat) (A : Nat → Addr) (hks : IdxKs ks) (w : World) (hE : EnvP ks A w) :
    Calls Tryz.prog 45 #[] w fun e w' => e = .returned (.bool true) ∧ Below w.heap.size w w' := by
  have hsm := small_calls w
  have hB := smW_below w
  have hb := below_alloc (smW w) (.cells #[.string sA, .string v110, .string sB, .string v010] 26)
  have hB2 := below_step hB hb
  have hmods : ModsAt ((smW w).alloc (.cells #[.string sA, .string v110, .string sB, .string v010] 26)) (.slice (some ⟨(smW w).heap.size, 0, none⟩) 2 2) smX := by
    refine ⟨_, 2, 2, fun j => if j = 0 then sA else sB, fun j => if j = 0 then v110 else v010, rfl, rfl, Nat.le_refl _, by decide, fun i hi => ?_⟩
    have hc : ∀ (c : Nat) (u : Value), ([.string sA, .string v110, .string sB, .string v010] : List Value)[c]? = some u → ((smW w).alloc (.cells #[.string sA, .string v110, .string sB, .string v010] 26)).cell? ⟨(smW w).heap.size, c, none⟩ = some u := fun c u h => new_cell _ _ _ rfl h
    match i, hi with
    | 0, _ => exact ⟨_, 0, rfl, hc _ _ rfl, hc _ _ rfl⟩
    | 1, _ => exact ⟨_, 0, rfl, hc _ _ rfl, hc _ _ rfl⟩
  have hre := trimRoots_in ks A hks (some ⟨w.heap.size + 1, 0, none⟩) 3 3 smP smV smR smK smB (smRv w.heap.size) (fun _ => .slice none 0 0) (.slice (some ⟨(smW w).heap.size, 0, none⟩) 2 2) smX ((smW w).alloc (.cells #[.string sA, .string v110, .string sB, .string v010] 26)) (hE.below hB2) ((smW_in w).below hb) sm_short hmods (by decide)
  rw [show enF 3 smP smV smR smK smB = smL from rfl, smX_trim.1, smX_trim.2] at hre
  generalize smW w = w1 at *
  unfold sA v110 sB v010 at hre hB2
  replace hsm := Lib.hid hsm
  replace hre := Lib.hid hre
  clear hB hb hmods hE
  go_enter Tryz.func45, Tryz.ntmps45
  go_wp2_with fail
  refine hsm.out.mono ?_
  rintro e w' ⟨rfl, rfl⟩
  go_wp2_with fail
  refine hre.out.mono ?_
  rintro e w3 ⟨⟨x, ev, rfl, hf, hx⟩, hb3⟩
  have hev : ev = .nilIface := by
    rcases hf with ⟨_, _, h⟩ | ⟨h, _⟩ | ⟨h, _⟩
    · exact h
    · exact absurd rfl h
    · exact absurd rfl h
  subst hev
  obtain ⟨b0, o0, c0, e0, _, d0, _⟩ := hx.cell (k := 0) (p := sA) (q := v110) rfl
  subst e0
  have hB3 := below_step hB2 hb3
  unfold sA at d0
  simp only [Nat.zero_mul, Nat.add_zero, show smRoots.length = 1 from rfl] at d0 ⊢
  clear hf hx hre hsm hB2 hb3
  go_wp2_with fail
  go_ret
  exact ⟨rfl, hB3⟩
end Go.Proofs.Pw

/- TrimLeast: its walk. -/
namespace Go.Proofs.Pw
open Go.RowKit
open Go.Lib hiding intOf

theorem ModsAt.dropS {w : World} {b o n cap k : Nat} {l : List Md} (h : ModsAt w (.slice (some ⟨b, o, none⟩) n cap) l) (hk : k ≤ n) : ModsAt w (.slice (some ⟨b, o + k * 2, none⟩) (n - k) (cap - k)) (l.drop k) := by
  obtain ⟨a', n', cap', P, V, e, rfl, h3, h4, h5⟩ := h
  injection e with e1 e2 e3
  subst e1 e2 e3
  refine ⟨_, n - k, cap - k, fun j => P (k + j), fun j => V (k + j), rfl, ?_, by omega, by omega, fun j hj => ?_⟩
  · apply List.ext_getElem?
    intro i
    rw [List.getElem?_drop]
    by_cases hi : i < n - k
    · rw [mdF_get n P V (k + i) (by omega), mdF_get _ _ _ i hi]
    · rw [List.getElem?_eq_none (by rw [mdF_length]; omega), List.getElem?_eq_none (by rw [mdF_length]; omega)]
  · obtain ⟨b', o', e, c0, c1⟩ := h5 (k + j) (by omega)
    injection e with e
    injection e with e1 e2 _
    subst e1 e2
    refine ⟨b, o + k * 2, rfl, ?_, ?_⟩
    · rw [show o + k * 2 + j * 2 = o + (k + j) * 2 by omega]; exact c0
    · rw [show o + k * 2 + j * 2 + 1 = o + (k + j) * 2 + 1 by omega]; exact c1
theorem mods_none (w : World) (a : Option Addr) : ModsAt w (.slice a 0 0) [] := ⟨a, 0, 0, fun _ => ⟨#[]⟩, fun _ => ⟨#[]⟩, rfl, rfl, Nat.le_refl _, by decide, fun j hj => absurd hj (Nat.not_lt_zero _)⟩
theorem take_drop_erase {α : Type} (l : List α) (i : Nat) : l.take i ++ l.drop (i + 1) = l.eraseIdx i := (List.eraseIdx_eq_take_drop_succ l i).symm

/-- what is shared by the walks -/
structure TlArgs (ks : List Nat) (A : Nat → Addr) (la : Option Addr) (ln lc : Nat) (P V : Nat → ByteArray) (R : Nat → List Md) (K : Nat → List Str) (Bk : Nat → Bool) (Rv Kv : Nat → Value) (av : Value) (Am : List Md) (w : World) : Prop where
  idx : IdxKs ks
  env : EnvP ks A w
  l : EntsIn w la ln lc P V R K Bk Rv Kv
  a : ModsAt w av Am

set_option maxHeartbeats 4000000 in
set_option maxRecDepth 100000 in
theorem trimLeast_long (ks : List Nat) (A : Nat → Addr) (la : Option Addr) (ln lc : Nat) (P V : Nat → ByteArray) (R : Nat → List Md) (K : Nat → List Str) (Bk : Nat → Bool) (Rv Kv : Nat → Value) (av : Value) (Am : List Md) (w : World) (H : TlArgs ks A la ln lc P V R K Bk Rv Kv av Am w)
    (hlong : longIdx (enF ln P V R K Bk) = true ∨ (longIdx (enF ln P V R K Bk) = false ∧ (30 < ln ∨ (ln ≤ 30 ∧ longMods Am 15 = true)))) :
    Calls Tryz.prog 7 #[.slice la ln lc, av] w fun e w' => e = .returned (.bool true) ∧ Below w.heap.size w w' := by
  obtain ⟨a1, n1, c1, _, _, rfl, _⟩ := id H.a
  have hre := trimmed_calls ks A H.idx w H.env
  have hlx := fun (W : World) (hb : Below w.heap.size w W) => longIndex_in la ln lc P V R K Bk Rv Kv W (H.l.below hb)
  have hlm := fun (W : World) (hb : Below w.heap.size w W) => longMods_calls (.slice a1 n1 c1) Am 15 W (H.a.below hb)
  replace hre := Lib.hid hre
  replace hlx := Lib.hid hlx
  replace hlm := Lib.hid hlm
  clear H
  rcases hlong with h1 | ⟨h1, h2 | ⟨h2, h3⟩⟩
  · rw [longII_yes h1] at hlx
    clear h1
    go_enter Tryz.func7, Tryz.ntmps7
    go_wp2_with fail
    refine hre.out.mono ?_
    rintro e w1 ⟨rfl, hB⟩
    go_wp2_with fail
    refine (hlx.out _ hB).mono ?_
    rintro e w' ⟨rfl, rfl⟩
    go_wp2_with fail
    go_ret
    exact ⟨rfl, hB⟩
  · rw [longII_no h1] at hlx
    have h2' : (30 : Int) < (ln : Int) := by omega
    clear h1
    go_enter Tryz.func7, Tryz.ntmps7
    go_wp2_with fail
    refine hre.out.mono ?_
    rintro e w1 ⟨rfl, hB⟩
    go_wp2_with fail
    refine (hlx.out _ hB).mono ?_
    rintro e w' ⟨rfl, rfl⟩
    go_wp2_with fail
    go_ret
    exact ⟨rfl, hB⟩
  · rw [longII_no h1] at hlx
    rw [longI_yes h3] at hlm
    have h2' : ¬ (30 : Int) < (ln : Int) := by omega
    clear h1 h3
    go_enter Tryz.func7, Tryz.ntmps7
    go_wp2_with fail
    refine hre.out.mono ?_
    rintro e w1 ⟨rfl, hB⟩
    go_wp2_with fail
    refine (hlx.out _ hB).mono ?_
    rintro e w' ⟨rfl, rfl⟩
    go_wp2_with fail
    refine (hlm.out _ hB).mono ?_
    rintro e w' ⟨rfl, rfl⟩
    go_wp2_with fail
    go_ret
    exact ⟨rfl, hB⟩

set_option maxHeartbeats 8000000 in
set_option maxRecDepth 100000 in
theorem trimLeast_main (ks : List Nat) (A : Nat → Addr) (la : Option Addr) (ln lc : Nat) (P V : Nat → ByteArray) (R : Nat → List Md) (K : Nat → List Str) (Bk : Nat → Bool) (Rv Kv : Nat → Value) (av : Value) (Am : List Md) (w : World) (H : TlArgs ks A la ln lc P V R K Bk Rv Kv av Am w)
    (h1 : longIdx (enF ln P V R K Bk) = false) (h2 : ln ≤ 30) (h3 : longMods Am 15 = false) :
    Calls Tryz.prog 7 #[.slice la ln lc, av] w fun e w' => e = .returned (.bool true) ∧ Below w.heap.size w w' := by
  obtain ⟨a1, n1, c1, _, _, rfl, _⟩ := id H.a
  have hre := trimmed_calls ks A H.idx w H.env
  have hlx := fun (W : World) (hb : Below w.heap.size w W) => longIndex_in la ln lc P V R K Bk Rv Kv W (H.l.below hb)
  have hlm := fun (W : World) (hb : Below w.heap.size w W) => longMods_calls (.slice a1 n1 c1) Am 15 W (H.a.below hb)
  have hsi := longIdx_short h1
  have hsm := longIdx_small h1
  have hA1 := longMods_small h3
  have h2' : ¬ (30 : Int) < (ln : Int) := by omega
  have HH := Lib.hid H
  have HSI := Lib.hid hsi
  have how := fun (W : World) (hb : Below w.heap.size w W) => ownIndex_calls (.slice la ln lc) (enF ln P V R K Bk) W ⟨la, ln, lc, P, V, R, K, Bk, Rv, Kv, rfl, rfl, HH.out.l.below hb⟩ (by rw [enF_length]; omega) (fun e he => by
    have h4 := longEn_small (hsm.2 e he)
    have h5 := longMods_small h4.2.2.1
    exact ⟨by omega, by omega⟩)
  have hom := fun (W : World) (hb : Below w.heap.size w W) => ownMods_calls (.slice a1 n1 c1) Am W (HH.out.a.below hb) (by omega)
  have hE := fun (W : World) (hb : Below w.heap.size w W) => HH.out.env.below hb
  rw [longII_no h1] at hlx
  rw [longI_no h3] at hlm
  have HA1 := Lib.hid hA1.1
  generalize hl0 : enF ln P V R K Bk = l at *
  have HI := Lib.hid HH.out.idx
  replace hre := Lib.hid hre
  replace hlx := Lib.hid hlx
  replace hlm := Lib.hid hlm
  replace how := Lib.hid how
  replace hom := Lib.hid hom
  replace hE := Lib.hid hE
  clear h1 h3 hsi hsm hA1 H hl0
  go_enter Tryz.func7, Tryz.ntmps7
  go_wp2_with fail
  refine hre.out.mono ?_
  rintro e w1 ⟨rfl, hB⟩
  go_wp2_with fail
  refine (hlx.out _ hB).mono ?_
  rintro e w' ⟨rfl, rfl⟩
  go_wp2_with fail
  refine (hlm.out _ hB).mono ?_
  rintro e w' ⟨rfl, rfl⟩
  clear hre hlx hlm
  go_wp2_with fail
  refine (how.out _ hB).mono ?_
  rintro e w2 ⟨⟨ov, rfl, hOE⟩, hb⟩
  replace hB := below_step hB hb
  obtain ⟨oa, on, oc, P', V', R', K', B', Rv', Kv', rfl, hOl, hO⟩ := hOE
  have HO := Lib.hid hO
  have hbu := fun (W : World) (hb : Below w.heap.size w W) (hc : Below w2.heap.size w2 W) (rv : Value) (roots : List Md) (hr : ModsAt W rv roots) (hlr : roots.length ≤ 100000) => mvsBuild_in ks A HI.out oa on oc P' V' R' K' B' Rv' Kv' rv roots W (hE.out W hb) (HO.out.below hc) (by rw [← hOl]; exact HSI.out) hr hlr
  have hro := fun (W : World) (hb : Below w.heap.size w W) (hc : Below w2.heap.size w2 W) (rv : Value) (sel : List Md) (hr : ModsAt W rv sel) (hlr : sel.length ≤ 100000) => trimRoots_in ks A HI.out oa on oc P' V' R' K' B' Rv' Kv' rv sel W (hE.out W hb) (HO.out.below hc) (by rw [← hOl]; exact HSI.out) hr hlr
  have hsa := fun (W : World) (hb : Below w.heap.size w W) (hc : Below w2.heap.size w2 W) (va vb : Value) (la lb : List Md) (h8 : ModsAt W va la) (h9 : ModsAt W vb lb) (hla : la.length ≤ 100000) (hlb : lb.length ≤ 100000) => trimSame_in ks A HI.out oa on oc P' V' R' K' B' Rv' Kv' va vb la lb W (hE.out W hb) (HO.out.below hc) (by rw [← hOl]; exact HSI.out) h8 h9 hla hlb
  have hun := fun (W : World) (hb : Below w.heap.size w W) (va vb : Value) (la lb : List Md) (x1 : ModsAt W va la) (x2 : ModsAt W vb lb) => mvsUnder_calls ks A va vb la lb W (hE.out W hb) x1 x2
  simp only [← hOl] at hbu hro hsa
  have hC := Below.refl w2.heap.size w2
  replace hbu := Lib.hid hbu
  replace hro := Lib.hid hro
  replace hsa := Lib.hid hsa
  replace hun := Lib.hid hun
  clear hOl hO hb how
  go_wp2_with fail
  refine (hom.out _ hB).mono ?_
  rintro e w3 ⟨⟨v3, rfl, hM3, _⟩, hb⟩
  replace hB := below_step hB hb
  replace hC := below_step hC hb
  obtain ⟨a3, n3, c3, _, _, rfl, _⟩ := id hM3
  have hb4 := hbu.out _ hB hC _ _ hM3 (by have := HA1.out; omega)
  replace hb4 := Lib.hid hb4
  clear hb hM3
  go_wp2_with fail
  refine hb4.out.mono ?_
  rintro e w4 ⟨⟨x4, ev4, rfl, hf4, hx4⟩, hb⟩
  replace hB := below_step hB hb
  replace hC := below_step hC hb
  clear hb hb4
  rcases fault_form hf4 with ⟨h0, rfl⟩ | ⟨h0, ty, q, rfl⟩
  · have hG := rightG_of h0
    have hGb := hG.build
    have hba := build_again hG
    have hse : (startErr l (buildL l Am)).1 = 0 := startErr_sub h0 (fun m hm => build_reached hG hm)
    have hX : buildR l Am = buildL l Am := by unfold buildR; rw [if_pos h0]
    have hte : trimErr l (buildL l Am) = (0, -1) := by unfold trimErr; rw [if_neg (by simp [hse]), if_pos hba]
    have htr : trimR l (buildL l Am) = trimL l (buildL l Am) := by unfold trimR; rw [if_pos ⟨hse, hba⟩]
    have hTF := trimL_facts hGb hba
    have hlen : (buildL l Am).length ≤ 100 := build_len hG
    have hsz : ∀ m ∈ buildL l Am, m.2.length ≤ 1000000000 := fun m hm => by
      obtain ⟨e, he, e1⟩ := hG.entry (build_reached hG hm)
      have := (HSI.out.mds e he).2
      rw [e1] at this
      omega
    rw [hX] at hx4
    have hr5 := hro.out _ hB hC _ _ hx4 (by omega)
    rw [hte, htr] at hr5
    have HSAME : Hid (sameR l (trimL l (buildL l Am)) Am = true ∧ orE (startErr l (trimL l (buildL l Am))) (startErr l Am) = (0, -1)) := Lib.hid (by
      have hsx : (startErr l (trimL l (buildL l Am))).1 = 0 := startErr_sub hse (fun m hm => .root (hTF.sub.subset hm))
      refine ⟨?_, ?_⟩
      · unfold sameR
        rw [if_pos ⟨hsx, h0⟩]
        exact decide_eq_true hTF.same
      · unfold orE
        rw [if_neg (by simp [hsx])]
        exact startErr_at h0)
    have HTF := Lib.hid (And.intro hTF (And.intro hGb hba))
    have HSE := Lib.hid hse
    have HLN := Lib.hid (And.intro hlen (Nat.le_trans hTF.sub.length_le hlen))
    have HSZ := Lib.hid (And.intro hsz (fun (m : Md) (hm : m ∈ trimL l (buildL l Am)) => hsz m (hTF.sub.subset hm)))
    clear hf4 h0 hG hGb hba hse hX hte htr hTF hlen hsz
    generalize buildL l Am = sel at *
    generalize trimL l sel = X at *
    obtain ⟨a4, n4, c4, _, _, rfl, _⟩ := id hx4
    have HX4 := Lib.hid hx4
    replace hr5 := Lib.hid hr5
    clear hx4
    go_wp2_with fail
    refine hr5.out.mono ?_
    rintro e w5 ⟨⟨x5, ev5, rfl, hf5, hx5⟩, hb⟩
    obtain rfl : ev5 = .nilIface := by
      rcases fault_form hf5 with ⟨_, h⟩ | ⟨h, _⟩
      · exact h
      · exact absurd rfl h
    replace hB := below_step hB hb
    replace hC := below_step hC hb
    have hx4 := HX4.out.below hb
    have hu6 := hun.out _ hB _ _ _ _ hx5 hx4 (by have := HLN.out; omega) (by have := HLN.out; omega) HSZ.out.2 HSZ.out.1
    rw [HTF.out.1.underX HTF.out.2.1 HTF.out.2.2] at hu6
    obtain ⟨a5, c5, rfl⟩ := mods_len hx5
    have HXX := Lib.hid (And.intro hx4 hx5)
    replace hu6 := Lib.hid hu6
    clear hx4 hx5 hf5 hb hr5 HX4
    go_wp2_with fail
    refine hu6.out.mono ?_
    rintro e w6 ⟨rfl, hb⟩
    replace hB := below_step hB hb
    replace hC := below_step hC hb
    have hx4 := HXX.out.1.below hb
    have hx5 := HXX.out.2.below hb
    clear hb hu6 HXX
    go_wp2_with fail
    refine (hom.out _ hB).mono ?_
    rintro e w7 ⟨⟨v7, rfl, hM7, _⟩, hb⟩
    replace hB := below_step hB hb
    replace hC := below_step hC hb
    replace hx4 := hx4.below hb
    replace hx5 := hx5.below hb
    obtain ⟨a7, n7, c7, _, _, rfl, _⟩ := id hM7
    have hs8 := hsa.out _ hB hC _ _ _ _ hx5 hM7 (by have := HLN.out; omega) (by have := HA1.out; omega)
    rw [HSAME.out.1, HSAME.out.2] at hs8
    have HXX := Lib.hid (And.intro hx4 hx5)
    replace hs8 := Lib.hid hs8
    clear hx4 hx5 hb hM7 HSAME
    go_wp2_with fail
    refine hs8.out.mono ?_
    rintro e w8 ⟨⟨ev8, rfl, hf8⟩, hb⟩
    obtain rfl : ev8 = .nilIface := by
      rcases fault_form hf8 with ⟨_, h⟩ | ⟨h, _⟩
      · exact h
      · exact absurd rfl h
    replace hB := below_step hB hb
    replace hC := below_step hC hb
    have hx4 := HXX.out.1.below hb
    have hx5 := HXX.out.2.below hb
    replace HXX := Lib.hid (And.intro hx4 hx5)
    have hB8 := hB
    have hC8 := hC
    have hXl : X.length ≤ 100 := HLN.out.2
    clear hb hs8 hf8 hx4 hx5 hB hC
    go_wp2_with fail
    go_loopw [11, 12, 13, 14] (fun i _ _ _ wr => ∃ k : Nat, k ≤ X.length ∧ i = .int .i64 k ∧ Below w8.heap.size w8 wr) (fun i _ _ _ _ => X.length - (intOf i).toNat)
    case atStart => exact ⟨0, Nat.zero_le _, rfl, Below.refl _ _⟩
    case round =>
      obtain ⟨k, hk, rfl, hbr⟩ := hrel
      have hB := below_step hB8 hbr
      have hC := below_step hC8 hbr
      by_cases hlt : k < X.length
      · have hkn : (k : Int) < (X.length : Int) := by omega
        have hx4 := HXX.out.1.below hbr
        have hx5 := HXX.out.2.below hbr
        obtain ⟨b5, o5, rfl⟩ : ∃ b o, a5 = some ⟨b, o, none⟩ := by
          obtain ⟨a', c', P9, V9, e, _, h⟩ := hx5.cells
          obtain ⟨b, o, h, _⟩ := h k hlt
          injection e with e
          exact ⟨b, o, e.trans h⟩
        have hcap : X.length ≤ c5 := by
          obtain ⟨_, n', _, _, _, e, e2, h3, _⟩ := id hx5
          injection e with _ e3 e4
          omega
        have hsl : (X.eraseIdx k).Sublist X := List.eraseIdx_sublist X k
        have hG2 : RightG l (X.eraseIdx k) := HTF.out.2.1.subl (hsl.trans HTF.out.1.sub)
        have hse2 : (startErr l (X.eraseIdx k)).1 = 0 := startErr_sub HSE.out (fun m hm => .root ((hsl.trans HTF.out.1.sub).subset hm))
        have hbR : buildR l (X.eraseIdx k) = buildL l (X.eraseIdx k) := by unfold buildR; rw [if_pos hse2]
        have hne : decide (buildL l (X.eraseIdx k) = sel) = false := decide_eq_false (HTF.out.1.least k hlt)
        have hund : underB (buildL l (X.eraseIdx k)) sel = true := HTF.out.1.under HTF.out.2.1 HTF.out.2.2 hsl
        have hlen2 : (buildL l (X.eraseIdx k)).length ≤ 100 := build_len hG2
        have hsz2 : ∀ m ∈ buildL l (X.eraseIdx k), m.2.length ≤ 1000000000 := fun m hm => by
          obtain ⟨e, he, e1⟩ := hG2.entry (build_reached hG2 hm)
          have := (HSI.out.mds e he).2
          rw [e1] at this
          omega
        have hel : (X.eraseIdx k).length ≤ 100 := by have := hsl.length_le; omega
        have HY := Lib.hid (And.intro hse2 (And.intro hbR (And.intro hne (And.intro hund (And.intro hlen2 (And.intro hsz2 hel))))))
        have HX4 := Lib.hid hx4
        have HX5 := Lib.hid hx5
        have how9 := ownMods_calls (.slice (some ⟨b5, o5, none⟩) k c5) (X.take k) wr (hx5.take (by omega)) (by rw [List.length_take]; omega)
        have hwk := wrap_nat (k + 1) (by omega)
        have hk1 : k ≤ c5 := by omega
        have hk2 : k + 1 ≤ c5 := by omega
        have hk3 : (k : Int) ≤ (c5 : Int) := by omega
        have hk4 : (k : Int) + 1 ≤ (c5 : Int) := by omega
        have hk5 : (k : Int) + 1 ≤ (X.length : Int) := by omega
        have hk6 : (X.length : Int) ≤ (c5 : Int) := by omega
        have hk7 : ((k : Int) + 1).toNat = k + 1 := by omega
        have hk8 : (0 : Int) ≤ (k : Int) + 1 := by omega
        replace how9 := Lib.hid how9
        clear hsl hG2 hse2 hbR hne hund hlen2 hsz2 hel hx4 hx5
        by_cases hc1 : c5 = k + 1
        · subst hc1
          have hdr : ∀ W, Below wr.heap.size wr W → ModsAt W (.slice (some ⟨b5, o5, none⟩) 0 0) (X.drop (k + 1)) := fun W hW => by
            rw [List.drop_eq_nil_of_le (by omega)]
            exact mods_none _ _
          replace hdr := Lib.hid hdr
          go_wp2_with fail
          refine how9.out.mono ?_
          rintro e w9 ⟨⟨v9, rfl, _, L9, hL9, ho9⟩, hb9⟩
          obtain ⟨o10, w10, hap, ⟨L10, hL10, ho10⟩, hg10⟩ := app_mods w9 wr.heap.size hb9.size v9 _ L9 _ ho9 (hdr.out w9 hb9) (by have := congrArg List.length hL9; rw [mdTs_length, List.length_take] at this; omega) (by rw [List.length_drop]; omega)
          have hb10 : Below wr.heap.size wr w10 := hb9.grown hg10 hb9.size (fun q hq => (ho9.lt q hq).1)
          have hM10 := modsAt_own ho10
          rw [hL10, ← hL9, take_drop_erase] at hM10
          obtain ⟨a9, m9, c9, rfl⟩ := own_form ho9
          have hB10 := below_step hB hb10
          have hC10 := below_step hC hb10
          have hbu10 := hbu.out _ hB10 hC10 _ _ hM10 (by have := HY.out.2.2.2.2.2.2; omega)
          rw [HY.out.2.1] at hbu10
          obtain ⟨a10, m10, c10, rfl⟩ := own_form ho10
          have HAP := Lib.hid hap
          have HX4 := Lib.hid (HX4.out.below hb10)
          replace hbu10 := Lib.hid hbu10
          clear hap hM10 hL10 hL9 ho9 ho10 hg10 hb9 how9 hdr
          go_wp2_with (at_builtin; refine wpList_append_run rfl _ _ 22 rfl _ _ rfl rfl _ _ HAP.out ?_)
          refine hbu10.out.mono ?_
          rintro e w11 ⟨⟨y11, ev11, rfl, hf11, hy11⟩, hb11⟩
          obtain rfl : ev11 = .nilIface := by
            rcases fault_form hf11 with ⟨_, h⟩ | ⟨h, _⟩
            · exact h
            · exact absurd HY.out.1 h
          have hB11 := below_step hB10 hb11
          have hsm11 := sameMods_calls _ _ _ _ w11 hy11 (HX4.out.below hb11)
          rw [HY.out.2.2.1] at hsm11
          have hb11w := below_step hb10 hb11
          obtain ⟨a11, c11, rfl⟩ := mods_len hy11
          have HY11 := Lib.hid (And.intro hy11 (HX4.out.below hb11))
          replace hsm11 := Lib.hid hsm11
          clear hf11 hy11 hbu10 hb11 hb10 hB10 hC10 HAP
          go_wp2_with fail
          refine hsm11.out.mono ?_
          rintro e w12 ⟨rfl, hb12⟩
          have hB12 := below_step hB11 hb12
          have hu12 := hun.out _ hB12 _ _ _ _ (HY11.out.1.below hb12) (HY11.out.2.below hb12) (by have := HY.out.2.2.2.2.1; omega) (by have := HLN.out; omega) HY.out.2.2.2.2.2.1 HSZ.out.1
          rw [HY.out.2.2.2.1] at hu12
          replace hu12 := Lib.hid hu12
          clear hsm11
          go_wp2_with fail
          refine hu12.out.mono ?_
          rintro e w13 ⟨rfl, hb13⟩
          go_wp2_with fail
          go_roundw
          case rel => exact ⟨k + 1, hlt, by go_num, below_step hbr (below_step (below_step hb11w hb12) hb13)⟩
          case measure => simp [intOf]; omega
        · have hdr : ∀ W, Below wr.heap.size wr W → ModsAt W (.slice (some ⟨b5, o5 + (k + 1) * 2, none⟩) (X.length - (k + 1)) (c5 - (k + 1))) (X.drop (k + 1)) := fun W hW =>
            (HX5.out.below hW).dropS (by omega)
          replace hdr := Lib.hid hdr
          go_wp2_with fail
          refine how9.out.mono ?_
          rintro e w9 ⟨⟨v9, rfl, _, L9, hL9, ho9⟩, hb9⟩
          obtain ⟨o10, w10, hap, ⟨L10, hL10, ho10⟩, hg10⟩ := app_mods w9 wr.heap.size hb9.size v9 _ L9 _ ho9 (hdr.out w9 hb9) (by have := congrArg List.length hL9; rw [mdTs_length, List.length_take] at this; omega) (by rw [List.length_drop]; omega)
          have hb10 : Below wr.heap.size wr w10 := hb9.grown hg10 hb9.size (fun q hq => (ho9.lt q hq).1)
          have hM10 := modsAt_own ho10
          rw [hL10, ← hL9, take_drop_erase] at hM10
          obtain ⟨a9, m9, c9, rfl⟩ := own_form ho9
          have hB10 := below_step hB hb10
          have hC10 := below_step hC hb10
          have hbu10 := hbu.out _ hB10 hC10 _ _ hM10 (by have := HY.out.2.2.2.2.2.2; omega)
          rw [HY.out.2.1] at hbu10
          obtain ⟨a10, m10, c10, rfl⟩ := own_form ho10
          have HAP := Lib.hid hap
          have HX4 := Lib.hid (HX4.out.below hb10)
          replace hbu10 := Lib.hid hbu10
          clear hap hM10 hL10 hL9 ho9 ho10 hg10 hb9 how9 hdr
          go_wp2_with (at_builtin; refine wpList_append_run rfl _ _ 22 rfl _ _ rfl rfl _ _ HAP.out ?_)
          refine hbu10.out.mono ?_
          rintro e w11 ⟨⟨y11, ev11, rfl, hf11, hy11⟩, hb11⟩
          obtain rfl : ev11 = .nilIface := by
            rcases fault_form hf11 with ⟨_, h⟩ | ⟨h, _⟩
            · exact h
            · exact absurd HY.out.1 h
          have hB11 := below_step hB10 hb11
          have hsm11 := sameMods_calls _ _ _ _ w11 hy11 (HX4.out.below hb11)
          rw [HY.out.2.2.1] at hsm11
          have hb11w := below_step hb10 hb11
          obtain ⟨a11, c11, rfl⟩ := mods_len hy11
          have HY11 := Lib.hid (And.intro hy11 (HX4.out.below hb11))
          replace hsm11 := Lib.hid hsm11
          clear hf11 hy11 hbu10 hb11 hb10 hB10 hC10 HAP
          go_wp2_with fail
          refine hsm11.out.mono ?_
          rintro e w12 ⟨rfl, hb12⟩
          have hB12 := below_step hB11 hb12
          have hu12 := hun.out _ hB12 _ _ _ _ (HY11.out.1.below hb12) (HY11.out.2.below hb12) (by have := HY.out.2.2.2.2.1; omega) (by have := HLN.out; omega) HY.out.2.2.2.2.2.1 HSZ.out.1
          rw [HY.out.2.2.2.1] at hu12
          replace hu12 := Lib.hid hu12
          clear hsm11
          go_wp2_with fail
          refine hu12.out.mono ?_
          rintro e w13 ⟨rfl, hb13⟩
          go_wp2_with fail
          go_roundw
          case rel => exact ⟨k + 1, hlt, by go_num, below_step hbr (below_step (below_step hb11w hb12) hb13)⟩
          case measure => simp [intOf]; omega
      · obtain rfl : k = X.length := by omega
        go_wp2_with fail
        go_ret
        exact ⟨rfl, hB⟩
  · clear hf4 hx4 h0
    go_wp2_with fail
    go_ret
    exact ⟨rfl, hB⟩
end Go.Proofs.Pw

/- TrimLeast: its walk, joined. -/
namespace Go.Proofs.Pw
open Go.RowKit
open Go.Lib hiding intOf

theorem trimLeast_calls (ks : List Nat) (A : Nat → Addr) (hks : IdxKs ks) (lv av : Value) (l : List En) (Am : List Md) (w : World) (hE : EnvP ks A w) (hl : EntsAt w lv l) (ha : ModsAt w av Am) :
    Calls Tryz.prog 7 #[lv, av] w fun e w' => e = .returned (.bool true) ∧ Below w.heap.size w w' := by
  obtain ⟨la, ln, lc, P, V, R, K, Bk, Rv, Kv, rfl, rfl, hin⟩ := hl
  have H : TlArgs ks A la ln lc P V R K Bk Rv Kv av Am w := ⟨hks, hE, hin, ha⟩
  cases h1 : longIdx (enF ln P V R K Bk)
  · by_cases h2 : ln ≤ 30
    · cases h3 : longMods Am 15
      · exact trimLeast_main ks A la ln lc P V R K Bk Rv Kv av Am w H h1 h2 h3
      · exact trimLeast_long ks A la ln lc P V R K Bk Rv Kv av Am w H (.inr ⟨h1, .inr ⟨h2, h3⟩⟩)
    · exact trimLeast_long ks A la ln lc P V R K Bk Rv Kv av Am w H (.inr ⟨h1, .inl (by omega)⟩)
  · exact trimLeast_long ks A la ln lc P V R K Bk Rv Kv av Am w H (.inl h1)
end Go.Proofs.Pw
