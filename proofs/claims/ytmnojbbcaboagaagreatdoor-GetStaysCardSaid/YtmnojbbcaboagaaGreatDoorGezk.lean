/- Ge: walks and plain laws, joined: GetCheck SlEqM Trim GetOut GetOut2. Conditions: at each theorem. -/
import Derived.Test.YtmnojbbcaboagaaGreatDoorGezj
import Derived.Test.YtmnojbbcaboagaaGreatDoorGei
import Derived.Test.YtmnojbbcaboagaaGreatDoorGev
import Derived.Test.YtmnojbbcaboagaaGreatDoorGeza
import Derived.Test.YtmnojbbcaboagaaGreatDoorGez
import Derived.Test.YtmnojbbcaboagaaGreatDoorGeu
import Derived.Test.YtmnojbbcaboagaaGreatDoorGep
import Derived.Test.YtmnojbbcaboagaaGreatDoorGeh

namespace Go.Proofs.Pw
open Go.RowKit
open Go.Lib hiding intOf
theorem Tryz.infoArr2 : (Tryz.prog.info? 72).map (fun i => (i.zero, i.size, i.bytes)) = some (some (.agg #[.string ⟨#[]⟩, .string ⟨#[]⟩]), 2, 32) := by kernel_rfl
def argPQ (s : Str) : Md := (argP s, argQ s)
def ChkOut (A : Nat → Addr) (base : Nat) (E : Nat × Int) (args : List Str) (w w' : World) (e : Ending) : Prop :=
  (∃ x ev, e = .returned (.tuple #[x, ev]) ∧ FaultAt A w' ev E ∧ (E.1 ≠ 0 → x = .slice none 0 0) ∧ (E.1 = 0 → ∃ L : List RB, w'.ownsRow base 72 2 x L.length (mdVs L) ∧ mdTs L = args.map argPQ)) ∧ Below w.heap.size w w'
def GetKs (ks : List Nat) : Prop := IdxKs ks ∧ FileKs ks ∧ 1 ∈ ks ∧ 9 ∈ ks
theorem chkOut_bad {A : Nat → Addr} {base : Nat} {E : Nat × Int} {args : List Str} {w w' : World} {ev : Value} (hf : FaultAt A w' ev E) (h0 : E.1 ≠ 0) (hb : Below w.heap.size w w') : ChkOut A base E args w w' (.returned (.tuple #[.slice none 0 0, ev])) :=
  ⟨⟨_, _, rfl, hf, fun _ => rfl, fun h => absurd h h0⟩, hb⟩
set_option maxHeartbeats 8000000 in
set_option maxRecDepth 100000 in
theorem getCheck_in (ks : List Nat) (A : Nat → Addr) (hks : GetKs ks) (a : Option Addr) (n cap : Nat) (P V : Nat → ByteArray) (R : Nat → List Md) (K : Nat → List Str) (Bk : Nat → Bool) (Rv Kv : Nat → Value) (path : ByteArray) (rv xv av : Value) (reqs excl : List Md) (args : List Str) (w : World) (hE : EnvP ks A w) (h : EntsIn w a n cap P V R K Bk Rv Kv) (hs : ShortI (enF n P V R K Bk)) (hr : ModsAt w rv reqs) (hx : ModsAt w xv excl) (hp : path.size ≤ 1000000) (hsr : Short reqs) (hsx : Short excl) (ha : StrsAt w av args) (hal : ∀ s ∈ args, s.length ≤ 1000000) :
    Calls Tryz.prog 29 #[.slice a n cap, .agg #[.string path, rv, xv], av] w fun e w' => ChkOut A w.heap.size (chkErr (enF n P V R K Bk) ⟨path.data.toList, reqs, excl⟩ args) args w w' e := by
  obtain ⟨i0, hi, hz0, hz1, hz2⟩ := info_parts Tryz.infoArr2
  have hb0 := below_alloc w (.cells #[.string path, rv, xv] 25)
  have hz := box3f_alloc w (.string path) rv xv 25
  have hic := fun W (hb : Below w.heap.size w W) => idxCheck_in ks A hks.1 a n cap P V R K Bk Rv Kv W (hE.below hb) (h.below hb) hs
  have hfc := fun W (hb : Below w.heap.size w W) => fileCheck_calls ks A hks.2.1 path rv xv reqs excl W (hE.below hb) (hr.below hb) (hx.below hb) hp hsr hsx
  have hbc := fun W v r (hf : FaultAt A W v r) => bare_calls A v r W hf
  have hga := fun W (hb : Below w.heap.size w W) (s : ByteArray) (hl : s.size ≤ 1000000) => getArg_calls ks A hks.1.2.1 s W (hE.below hb) hl
  have hv7 := fun W (hb : Below w.heap.size w W) => (hE.below hb).errs.var 7 hks.1.2.2.2.1
  simp only [errG] at hv7
  obtain ⟨aa, na, ca, La, rfl, rfl, ha3, ha4, hat⟩ := ha
  have hna : na ≤ 9223372036854775807 := Nat.le_trans ha3 ha4
  have HAT := Lib.hid hat
  have HAL : Hid (∀ j, j < na → (La j).size ≤ 1000000) := Lib.hid (fun j hj => by rw [size_eq]; exact hal _ (List.mem_of_getElem? (lstF_get na La j hj)))
  obtain ⟨l, hll⟩ : ∃ x, enF n P V R K Bk = x := ⟨_, rfl⟩
  simp only [hll] at hic ⊢
  obtain ⟨ff, hff⟩ : ∃ x : Fl, (⟨path.data.toList, reqs, excl⟩ : Fl) = x := ⟨_, rfl⟩
  simp only [hff] at hfc ⊢
  have HC : Hid (chkErr l ff (lstF na La) = orE (idxErr l) (orE ((fileErr ff).1, -1) (orE (if 10 < na then (7, -1) else (0, -1)) (firstE (fun i => argE ((lstF na La).getD i [])) na)))) := Lib.hid (by
    unfold chkErr argsErr
    rw [lstF_length])
  generalize chkErr l ff (lstF na La) = CE at *
  obtain ⟨ar, nr, cr, _, _, rfl, _⟩ := id hr
  obtain ⟨ax, nx, cx, _, _, rfl, _⟩ := id hx
  obtain ⟨z0, z1, z2, zf⟩ := id hz
  replace hic := Lib.hid hic
  replace hfc := Lib.hid hfc
  replace hbc := Lib.hid hbc
  replace hga := Lib.hid hga
  replace hv7 := Lib.hid hv7
  clear hE h hs hr hx hp hsr hsx hal hat ha3 ha4 hks hll hff
  go_enter Tryz.func29, Tryz.ntmps29
  go_wp2_with fail
  generalize w.alloc (.cells #[.string path, .slice ar nr cr, .slice ax nx cx] 25) = w0 at *
  refine (hic.out _ hb0).mono ?_
  rintro e w1 ⟨⟨ev1, rfl, hf1⟩, hb⟩
  have hB := below_step hb0 hb
  replace hz := hz.below hb
  clear z0 z1 z2 zf hb hb0
  rcases fault_form hf1 with ⟨h0, rfl⟩ | ⟨h0, ty, q, rfl⟩
  · have HC1 : Hid (CE = orE ((fileErr ff).1, -1) (orE (if 10 < na then (7, -1) else (0, -1)) (firstE (fun i => argE ((lstF na La).getD i [])) na))) := Lib.hid (by rw [HC.out]; unfold orE; rw [if_neg (by simp [h0])])
    obtain ⟨z0, z1, z2, zf⟩ := id hz
    have hfc1 := hfc.out _ hB
    replace hfc1 := Lib.hid hfc1
    clear HC h0 hf1 hic hfc
    go_wp2_with fail
    refine hfc1.out.mono ?_
    rintro e w2 ⟨⟨ev2, rfl, hf2⟩, hb⟩
    replace hB := below_step hB hb
    clear hb hfc1 z0 z1 z2 zf hz
    rcases fault_form hf2 with ⟨h0, rfl⟩ | ⟨h0, ty, q, rfl⟩
    · have HC2 : Hid (CE = orE (if 10 < na then (7, -1) else (0, -1)) (firstE (fun i => argE ((lstF na La).getD i [])) na)) := Lib.hid (by rw [HC1.out]; unfold orE; rw [if_neg (by simp [h0])])
      clear HC1 h0 hf2 hbc
      by_cases h10 : 10 < na
      · have h10' : (10 : Int) < (na : Int) := by omega
        have HF : Hid (CE = (7, -1)) := Lib.hid (by rw [HC2.out]; unfold orE; rw [if_pos h10, if_pos (by decide)])
        have hv := hv7.out w2 hB
        have HV7 : Hid (errV A 7 = .iface 328 (.pointer (some (A 7)))) := Lib.hid (errV_pos A (by decide))
        clear h10 hga hv7 HC2
        go_wp2_with fail
        have kqhv := fun d os => cell_patch (d := d) (os := os) hv
        refine wp_region_quiet_patch (by kernel_rfl) (by kernel_rfl) ?_
        repeat (go_big_quiet_step (fail))
        refine wpQuiet_nil ?_
        intro _ hw'
        obtain ⟨⟨dq, osq⟩, hw''⟩ := hw'
        subst hw''
        clear kqhv
        have hb := below_patch w2 dq osq
        replace hB := below_step hB hb
        clear hb
        generalize patch w2 dq osq = w3 at hB ⊢
        clear hv
        go_wp2_with fail
        refine bodyPost_ret (v := .tuple #[.slice none 0 0, .iface 328 (.pointer (some (A 7)))]) (by simp [results, Tryz.results29, go_sem, *]) rfl ?_
        rw [HF.out]
        refine chkOut_bad (.inr (.inl ⟨by decide, rfl, HV7.out.symm⟩)) (by decide) hB
      · have h10' : ¬ (10 : Int) < (na : Int) := by omega
        have HC3 : Hid (CE = firstE (fun i => argE ((lstF na La).getD i [])) na) := Lib.hid (by rw [HC2.out, if_neg h10]; unfold orE; rw [if_neg (by simp)])
        have HN10 := Lib.hid h10
        clear h10 HC2 hv7
        go_wp2_with fail
        have HBW := Lib.hid hB
        clear hB
        go_loopw [10, 11, 12, 13, 14, 15, 33] (fun o _ _ _ _ _ x wr => ∃ (k : Nat) (L : List RB), k ≤ na ∧ x = .int .i64 k ∧ Hid (wr.ownsRow w.heap.size 72 2 o L.length (mdVs L)) ∧ Hid (L.length = k) ∧ Hid (mdTs L = ((lstF na La).take k).map argPQ) ∧ Hid (Below w.heap.size w wr) ∧ Hid (∀ j, j < k → argE ((lstF na La).getD j []) = 0)) (fun _ _ _ _ _ _ x _ => na - (intOf x).toNat)
        case atStart => exact ⟨0, [], Nat.zero_le _, rfl, Lib.hid (World.ownsRow_nil _ _ _ _), Lib.hid rfl, Lib.hid rfl, HBW, Lib.hid (fun j hj => absurd hj (Nat.not_lt_zero _))⟩
        case round =>
          obtain ⟨k, L, hk, rfl, hO, hLk, hT, hBr, hA0⟩ := hrel
          obtain ⟨ao, no, co, rfl⟩ := own_form hO.out
          by_cases hlt : k < na
          · have hkn : (k : Int) < (na : Int) := by omega
            obtain ⟨b1, o1, ea, c0'⟩ := HAT.out k hlt
            have c0 := Below.cell_some hBr.out c0'
            subst ea
            have hga1 := hga.out wr hBr.out (La k) (HAL.out k hlt)
            have HG : Hid ((lstF na La).getD k [] = (La k).data.toList) := Lib.hid (by rw [List.getD_eq_getElem?_getD, lstF_get na La k hlt]; rfl)
            replace hga1 := Lib.hid hga1
            clear c0'
            go_wp2_with fail
            refine hga1.out.mono ?_
            rintro e w3 ⟨⟨p, q, rfl, hpq, -⟩, hb3⟩
            obtain ⟨ae, hae⟩ : ∃ x, argE (La k).data.toList = x := ⟨_, rfl⟩
            rw [hae] at hpq ⊢
            by_cases h0 : ae = 0
            · subst h0
              rw [errV_zero]
              obtain ⟨hp1, hq1⟩ := hpq rfl
              have HT1 : Hid (mdTs (L ++ [(p, q)]) = ((lstF na La).take (k + 1)).map argPQ) := Lib.hid (by
                rw [List.take_add_one, lstF_get na La k hlt, List.map_append, mdTs_sn, hT.out, hp1, hq1]
                rfl)
              have HA1 : Hid (∀ j, j < k + 1 → argE ((lstF na La).getD j []) = 0) := Lib.hid (fun j hj => by
                by_cases e : j = k
                · subst e; rw [HG.out, hae]
                · exact hA0.out j (by omega))
              have HO3 := Lib.hid (hO.out.below hb3)
              have HB3 := Lib.hid (below_step hBr.out hb3)
              have HL3 : Hid (L.length + 1 ≤ 11) := Lib.hid (by have := hLk.out; have := HN10.out; omega)
              have HLK : Hid ((L ++ [(p, q)]).length = k + 1) := Lib.hid (by simp [hLk.out])
              clear hp1 hq1 hpq hae hT hA0 hO hBr hLk hb3 hga1 HG c0
              go_wp2_with (at_builtin; refine wpList_append_own _ rfl _ _ 63 rfl w.heap.size 72 i0 (.agg #[.string ⟨#[]⟩, .string ⟨#[]⟩]) 2 32 Tryz.underlying63 hi hz0 hz1 hz2 rfl (by decide) _ _ _ rfl (HO3.out.alloc _) ⟨w3.heap.size, 0, none⟩ 1 1 [.string p, .string q] rfl rfl (cell_two_new _ _ _ _) (by intro u hu; simp at hu; rcases hu with rfl | rfl <;> rfl) (by unfold maxLen; have := HL3.out; omega) (by have := HL3.out; omega) (by have := HB3.out.size; simp; omega) ?_; intro o' w4 hown4 hgrow4 _)
              go_roundw
              case rel =>
                refine ⟨k + 1, L ++ [(p, q)], by omega, by go_num, Lib.hid ?_, HLK, HT1, Lib.hid ?_, HA1⟩
                · rw [List.length_append, List.length_singleton, ← mdVs_snoc]
                  exact hown4
                · exact (HB3.out.alloc HB3.out.size _).grown hgrow4 (by have := HB3.out.size; simp; omega) (fun q hq => (HO3.out.lt q hq).1)
              case measure => simp [intOf]; omega
            · have HF : Hid (CE = (ae, (k : Int))) := Lib.hid (by
                rw [HC3.out, firstE_hit (g := fun i => argE ((lstF na La).getD i [])) (k := k) (by simp only [HG.out, hae]; exact h0) hA0.out hlt]
                simp only [HG.out, hae])
              have HVA : Hid (errV A ae = .iface 328 (.pointer (some (A ae)))) := Lib.hid (errV_pos A h0)
              have H0 := Lib.hid h0
              have HB3 := Lib.hid (below_step hBr.out hb3)
              rw [HVA.out]
              clear h0 hpq hae hA0 hT hO hLk hBr hb3 hga1 HG HC3 c0
              go_wp2_with fail
              refine bodyPost_ret (v := .tuple #[.slice none 0 0, .iface 74 (.pointer (some ⟨w3.heap.size, 0, none⟩))]) (by simp [results, Tryz.results29, go_sem, *]) rfl ?_
              rw [HF.out]
              refine chkOut_bad (.inr (.inr ⟨H0.out, w3.heap.size, rfl, by simp, ?_⟩)) H0.out (HB3.out.alloc HB3.out.size _)
              rw [HVA.out]
              simp
          · obtain rfl : k = na := by omega
            have hnk : ¬ (k : Int) < (k : Int) := by omega
            have HF : Hid (CE = (0, -1)) := Lib.hid (by rw [HC3.out, firstE_none hA0.out])
            have HTT : Hid (mdTs L = (lstF k La).map argPQ) := Lib.hid (by rw [hT.out, List.take_of_length_le (by rw [lstF_length]; exact Nat.le_refl _)])
            clear hlt hk hT hA0 hLk
            go_wp2_with fail
            refine bodyPost_ret (v := .tuple #[.slice ao no co, .nilIface]) (by simp [results, Tryz.results29, go_sem, *]) rfl ?_
            rw [HF.out]
            exact ⟨⟨_, _, rfl, .inl ⟨rfl, rfl, rfl⟩, fun h => absurd rfl h, fun _ => ⟨L, hO.out, HTT.out⟩⟩, hBr.out⟩
    · have HF : Hid (CE = ((fileErr ff).1, -1)) := Lib.hid (by rw [HC1.out]; unfold orE; rw [if_pos h0])
      have H0 := Lib.hid h0
      have hbc1 := hbc.out w2 _ _ hf2
      have HVE : Hid (errV A (fileErr ff).1 = .iface 328 (.pointer (some (A (fileErr ff).1)))) := Lib.hid (errV_pos A h0)
      rw [HVE.out] at hbc1
      replace hbc1 := Lib.hid hbc1
      clear h0 hf2 hbc HC1
      go_wp2_with fail
      refine hbc1.out.mono ?_
      rintro e w3 ⟨rfl, hb⟩
      have HB3 := Lib.hid (below_step hB hb)
      clear hb hB hbc1
      go_wp2_with fail
      refine bodyPost_ret (v := .tuple #[.slice none 0 0, .iface 328 (.pointer (some (A (fileErr ff).1)))]) (by simp [results, Tryz.results29, go_sem, *]) rfl ?_
      rw [HF.out]
      exact chkOut_bad (.inr (.inl ⟨H0.out, rfl, HVE.out.symm⟩)) H0.out HB3.out
  · have HF : Hid (CE = idxErr l) := Lib.hid (by rw [HC.out]; unfold orE; rw [if_pos h0])
    have HV := Lib.hid hf1
    have H0 := Lib.hid h0
    clear h0 hf1 hz
    go_wp2_with fail
    refine bodyPost_ret (v := .tuple #[.slice none 0 0, .iface ty (.pointer q)]) (by simp [results, Tryz.results29, go_sem, *]) rfl ?_
    rw [HF.out]
    exact chkOut_bad HV.out H0.out hB
end Go.Proofs.Pw

namespace Go.Proofs.Pw
open Go.RowKit
open Go.Lib hiding intOf
set_option maxRecDepth 100000 in
theorem equalM_calls (v u : Value) (l m : List Md) (w : World) (h : ModsAt w v l) (g : ModsAt w u m) :
    Calls Tryz.prog 150 #[v, u] w fun e w' => e = .returned (.bool (decide (l = m))) ∧ Below w.heap.size w w' := by
  obtain ⟨a, n, cap, P, V, rfl, rfl, hn, hcap, hc⟩ := h
  obtain ⟨a', n', cap', Q, U, rfl, rfl, hn', hcap', hc'⟩ := g
  have hg := Tryz.md_guard
  have hq := md_neq
  by_cases hnn : n = n'
  · subst hnn
    replace hc := Lib.hid hc
    replace hc' := Lib.hid hc'
    go_enter Tryz.func150, Tryz.ntmps150
    go_wp2_with fail
    go_loopw [5, 13] (fun _ i wr => ∃ k : Nat, k ≤ n ∧ i = .int .i64 k ∧ Below w.heap.size w wr ∧ Hid (∀ j, j < k → P j = Q j ∧ V j = U j)) (fun _ i _ => n - (intOf i).toNat)
    case atStart => exact ⟨0, by omega, rfl, Below.refl _ _, Lib.hid (fun j hj => absurd hj (Nat.not_lt_zero _))⟩
    case round =>
      obtain ⟨k, hk, rfl, hb, HA⟩ := hrel
      by_cases hlt : k < n
      · obtain ⟨b1, o1, rfl, d1, d2⟩ := hc.out k hlt
        obtain ⟨b2, o2, rfl, d3, d4⟩ := hc'.out k hlt
        replace d1 := Below.cell_some hb d1
        replace d2 := Below.cell_some hb d2
        replace d3 := Below.cell_some hb d3
        replace d4 := Below.cell_some hb d4
        by_cases he : P k = Q k ∧ V k = U k
        · have HE := Lib.hid he
          have hd := decide_eq_true he
          clear he
          go_wp2_with fail
          go_region
          all_goals
            go_wp2_with fail
            go_roundw
            case rel =>
              refine ⟨k + 1, by omega, by go_num, hb.drew, Lib.hid (fun j hj => ?_)⟩
              by_cases e : j = k
              · subst e; exact HE.out
              · exact HA.out j (by omega)
            case measure => simp [intOf]; omega
        · have HF : Hid (decide (mdF n P V = mdF n Q U) = false) := Lib.hid (decide_eq_false (fun e => he (mdF_ext.1 e k hlt)))
          have hd := decide_eq_false he
          clear he
          go_wp2_with fail
          go_region
          all_goals
            go_wp2_with fail
            go_ret
            rw [HF.out]
            exact ⟨rfl, hb.drew⟩
      · obtain rfl : k = n := by omega
        have HF : Hid (decide (mdF k P V = mdF k Q U) = true) := Lib.hid (decide_eq_true (mdF_ext.2 HA.out))
        go_wp2_with fail
        go_ret
        rw [HF.out]
        exact ⟨rfl, hb⟩
  · have HF : Hid (decide (mdF n P V = mdF n' Q U) = false) := Lib.hid (decide_eq_false (fun e => hnn (by have := congrArg List.length e; rwa [mdF_length, mdF_length] at this)))
    have hnn2 : ((n : Int) == (n' : Int)) = false := beq_eq_false_iff_ne.2 (by omega)
    clear hc hc' hnn hg hq
    go_enter Tryz.func150, Tryz.ntmps150
    go_wp2_with fail
    go_ret
    rw [HF.out]
    exact ⟨rfl, Below.refl _ _⟩
end Go.Proofs.Pw

namespace Go.Proofs.Pw
open Go.RowKit
open Go.Lib hiding intOf
theorem mods_lenT {w : World} {v : Value} {l : List Md} (h : ModsAt w v l) : ∃ a c, v = .slice a l.length c := by
  obtain ⟨a, n, cap, P, V, rfl, rfl, _⟩ := h
  exact ⟨a, cap, by rw [mdF_length]⟩
def lenOf : Value → Nat
  | .slice _ n _ => n
  | _ => 0
theorem mdTs_erase (L : List (ByteArray × ByteArray)) (i : Nat) : mdTs (L.take i ++ L.drop (i + 1)) = (mdTs L).eraseIdx i := by
  rw [List.eraseIdx_eq_take_drop_succ]
  simp [mdTs, List.map_take, List.map_drop]
set_option maxHeartbeats 4000000 in
set_option maxRecDepth 100000 in
theorem trimRoots_in (ks : List Nat) (A : Nat → Addr) (hks : IdxKs ks) (a : Option Addr) (n cap : Nat) (P V : Nat → ByteArray) (R : Nat → List Md) (K : Nat → List Str) (Bk : Nat → Bool) (Rv Kv : Nat → Value) (va : Value) (sel : List Md) (w : World) (hE : EnvP ks A w) (h : EntsIn w a n cap P V R K Bk Rv Kv) (hs : ShortI (enF n P V R K Bk)) (ha : ModsAt w va sel) (hla : sel.length ≤ 100000) :
    Calls Tryz.prog 81 #[.slice a n cap, va] w fun e w' => (∃ x ev, e = .returned (.tuple #[x, ev]) ∧ FaultAt A w' ev (trimErr (enF n P V R K Bk) sel) ∧ ModsAt w' x (trimR (enF n P V R K Bk) sel)) ∧ Below w.heap.size w w' := by
  have hbu := fun W hb rv roots (hr : ModsAt W rv roots) hl => mvsBuild_in ks A hks a n cap P V R K Bk Rv Kv rv roots W (hE.below hb) (h.below hb) hs hr hl
  obtain ⟨a1, n1, c1, _, _, rfl, _⟩ := id ha
  have hB := Below.refl w.heap.size w
  have HA := Lib.hid ha
  have HE := Lib.hid hE
  generalize hl0 : enF n P V R K Bk = l at *
  have h1 := hbu w hB _ _ ha hla
  replace hbu := Lib.hid hbu
  replace h1 := Lib.hid h1
  clear h hs ha hE hl0
  go_enter Tryz.func81, Tryz.ntmps81
  go_wp2_with fail
  refine h1.out.mono ?_
  rintro e w1 ⟨⟨x, ev, rfl, hf, hx⟩, hb⟩
  replace hB := below_step hB hb
  obtain ⟨ax, nx, cx, _, _, rfl, _⟩ := id hx
  clear hb h1
  rcases fault_form hf with ⟨h0, rfl⟩ | ⟨h0, ty, q, rfl⟩
  · have hG := rightG_of h0
    have hX : buildR l sel = buildL l sel := by unfold buildR; rw [if_pos h0]
    rw [hX] at hx
    have hq := equalM_calls _ _ _ _ w1 hx (HA.out.below hB)
    by_cases he : buildL l sel = sel
    · rw [decide_eq_true he] at hq
      have hT1 : trimErr l sel = (0, -1) := by unfold trimErr; rw [if_neg (by simp [h0]), if_pos he]
      have hT2 : trimR l sel = trimL l sel := by unfold trimR; rw [if_pos ⟨h0, he⟩]
      have HTR := Lib.hid (And.intro hT1 hT2)
      have HT : Hid (trimL l sel = trimF l sel sel.length sel 0) := Lib.hid rfl
      have HG := Lib.hid hG
      have HH := Lib.hid (And.intro h0 he)
      replace hq := Lib.hid hq
      clear hf hx h0 hX he hG hT1 hT2
      go_wp2_with fail
      refine hq.out.mono ?_
      rintro e w2 ⟨rfl, hb⟩
      replace hB := below_step hB hb
      clear hq hb
      have hcl := cloneM_calls _ _ w2 (HA.out.below hB) (by omega)
      replace hcl := Lib.hid hcl
      go_wp2_with fail
      refine hcl.out.mono ?_
      rintro e w3 ⟨v3, L3, rfl, hL3, ho3, hb⟩
      replace hB := below_step hB hb
      have hM3 := modsAt_own ho3
      rw [← hL3] at hM3
      have HM3 := Lib.hid hM3
      have HL0 := Lib.hid hla
      clear hcl ho3 hb hM3
      go_wp2_with fail
      go_loopw [8, 9, 10, 11, 12] (fun o i _ _ _ wr => ∃ (k : Nat) (T : List Md), i = .int .i64 k ∧ k ≤ T.length ∧ Hid (ModsAt wr o T) ∧ Below w.heap.size w wr ∧ Hid (T.Sublist sel ∧ trimF l sel T.length T k = trimF l sel sel.length sel 0)) (fun o i _ _ _ _ => (lenOf o) - (intOf i).toNat)
      case atStart => exact ⟨0, sel, rfl, Nat.zero_le _, HM3, hB, Lib.hid ⟨List.Sublist.refl _, rfl⟩⟩
      case round =>
        clear hB HM3
        obtain ⟨k, T, rfl, hk, hM, hB, hI⟩ := hrel
        obtain ⟨ao, co, rfl⟩ := mods_lenT hM.out
        have hTl : T.length ≤ sel.length := hI.out.1.length_le
        have hla := HL0.out
        by_cases hlt : k < T.length
        · have hkn : (k : Int) < (T.length : Int) := by omega
          have hcl := cloneM_calls _ T wr hM.out (by omega)
          have hwk := wrap_nat (k + 1) (by omega)
          have hte : (T.eraseIdx k).length = T.length - 1 := List.length_eraseIdx_of_lt hlt
          have hsub : (T.eraseIdx k).Sublist sel := (List.eraseIdx_sublist T k).trans hI.out.1
          have hse : (startErr l (T.eraseIdx k)).1 = 0 := startErr_sub HH.out.1 (fun m hm => .root (hsub.subset hm))
          have hstep : trimF l sel T.length T k = if buildL l (T.eraseIdx k) = sel then trimF l sel (T.eraseIdx k).length (T.eraseIdx k) k else trimF l sel T.length T (k + 1) := by
            obtain ⟨m, hm⟩ : ∃ m, T.length = m + 1 := ⟨T.length - 1, by omega⟩
            have h1 : trimF l sel (m + 1) T k = if k < T.length then (if buildL l (T.eraseIdx k) = sel then trimF l sel m (T.eraseIdx k) k else trimF l sel m T (k + 1)) else T := rfl
            rw [hm, h1, if_pos hlt, hte, hm, Nat.add_sub_cancel]
            split
            · rfl
            · exact trimF_fuel _ _ _ _ (by omega) (by omega)
          have HST := Lib.hid (And.intro hstep (And.intro hte (And.intro hsub hse)))
          replace hcl := Lib.hid hcl
          clear hte hsub hse hstep
          go_wp2_with fail
          refine hcl.out.mono ?_
          rintro e w4 ⟨v4, L4, rfl, hL4, ho4, hb4⟩
          have hl4 : L4.length = T.length := by rw [hL4, mdTs_length]
          have hdl := deleteM_calls wr.heap.size v4 L4 k w4 ho4 (by omega) (by omega)
          rw [show (((k + 1 : Nat)) : Int) = (k : Int) + 1 from by omega] at hdl
          obtain ⟨a4, m4, c4, rfl⟩ := own_form ho4
          have hB4 := below_step hB hb4
          have HL4 := Lib.hid hL4
          have hsz4 := hB.size
          have hW4 := hb4
          replace hdl := Lib.hid hdl
          clear hl4 hL4 ho4 hcl hb4
          go_wp2_with fail
          refine hdl.out.mono ?_
          rintro e w5 ⟨v5, rfl, ho5, hb5, -⟩
          have hM5 := modsAt_own ho5
          rw [mdTs_erase, ← HL4.out] at hM5
          have hB5 := hB4.trans (hb5.mono hsz4)
          have hW5 := hW4.trans hb5
          have hb := hbu.out w5 hB5 v5 _ hM5 (by rw [HST.out.2.1]; omega)
          have hbR : buildR l (T.eraseIdx k) = buildL l (T.eraseIdx k) := by unfold buildR; rw [if_pos HST.out.2.2.2]
          rw [hbR] at hb
          obtain ⟨a5, c5, rfl⟩ := mods_lenT hM5
          have HM5 := Lib.hid hM5
          replace hb := Lib.hid hb
          clear hdl ho5 hM5 hb5 hbR hB4
          go_wp2_with fail
          refine hb.out.mono ?_
          rintro e w6 ⟨⟨x6, ev6, rfl, hf6, hx6⟩, hb6⟩
          obtain rfl : ev6 = .nilIface := by
            rcases fault_form hf6 with ⟨_, h⟩ | ⟨h, _⟩
            · exact h
            · exact absurd HST.out.2.2.2 h
          have hB6 := below_step hB5 hb6
          have hq6 := equalM_calls _ _ _ _ w6 hx6 (HA.out.below hB6)
          obtain ⟨a6, m6, c6, _, _, rfl, _⟩ := id hx6
          have HM6 := Lib.hid (HM5.out.below hb6)
          have HMT := Lib.hid (hM.out.below (below_step hW5 hb6))
          by_cases hbe : buildL l (T.eraseIdx k) = sel
          · rw [decide_eq_true hbe] at hq6
            have HBE := Lib.hid hbe
            replace hq6 := Lib.hid hq6
            clear hf6 hx6 hb hb6 hB5 hbe
            go_wp2_with fail
            refine hq6.out.mono ?_
            rintro e w7 ⟨rfl, hb7⟩
            go_wp2_with fail
            go_roundw
            case rel =>
              refine ⟨k, T.eraseIdx k, rfl, by rw [HST.out.2.1]; omega, Lib.hid (HM6.out.below hb7), below_step hB6 hb7, Lib.hid ⟨HST.out.2.2.1, ?_⟩⟩
              rw [← hI.out.2, HST.out.1, if_pos HBE.out]
            case measure => simp only [lenOf, intOf]; have := HST.out.2.1; omega
          · rw [decide_eq_false hbe] at hq6
            have HBE := Lib.hid hbe
            replace hq6 := Lib.hid hq6
            clear hf6 hx6 hb hb6 hB5 hbe
            go_wp2_with fail
            refine hq6.out.mono ?_
            rintro e w7 ⟨rfl, hb7⟩
            go_wp2_with fail
            go_roundw
            case rel =>
              refine ⟨k + 1, T, by go_num, hlt, Lib.hid (HMT.out.below hb7), below_step hB6 hb7, Lib.hid ⟨hI.out.1, ?_⟩⟩
              rw [← hI.out.2, HST.out.1, if_neg HBE.out]
            case measure => simp only [lenOf, intOf]; omega
        · obtain rfl : k = T.length := by omega
          have hF : T = trimL l sel := by
            rw [HT.out, ← hI.out.2, trimF_done hlt]
          have HF := Lib.hid hF
          clear hF hlt
          go_wp2_with fail
          go_ret2
          rw [HTR.out.1, HTR.out.2, ← HF.out]
          exact ⟨⟨_, _, rfl, .inl ⟨rfl, rfl, rfl⟩, hM.out⟩, hB⟩
    · rw [decide_eq_false he] at hq
      have hT1 : trimErr l sel = (3, -1) := by unfold trimErr; rw [if_neg (by simp [h0]), if_neg he]
      have hT2 : trimR l sel = [] := by unfold trimR; rw [if_neg (fun h => he h.2)]
      have HTR := Lib.hid (And.intro hT1 hT2)
      replace hq := Lib.hid hq
      clear hf hx h0 hX he hG hT1 hT2
      go_wp2_with fail
      refine hq.out.mono ?_
      rintro e w2 ⟨rfl, hb⟩
      replace hB := below_step hB hb
      have g3 := (HE.out.below hB).errs.var 3 hks.1
      simp only [errG] at g3
      clear hq hb
      go_wp2_with fail
      go_region
      all_goals
        go_wp2_with fail
        go_ret2
        rw [HTR.out.1, HTR.out.2]
        refine ⟨⟨_, _, rfl, .inr (.inl ⟨by decide, rfl, ?_⟩), ModsAt.nil _⟩, hB.drew⟩
        show _ = errV A 3
        rw [errV_pos A (show (3 : Nat) ≠ 0 by decide)]
        rfl
  · have HF := Lib.hid hf
    have hT1 : trimErr l sel = startErr l sel := by unfold trimErr; rw [if_pos h0]
    have hT2 : trimR l sel = [] := by unfold trimR; rw [if_neg (fun h => h0 h.1)]
    have HTR := Lib.hid (And.intro hT1 hT2)
    clear hf h0 hx hT1 hT2
    go_wp2_with fail
    go_ret2
    rw [HTR.out.1, HTR.out.2]
    exact ⟨⟨_, _, rfl, HF.out, ModsAt.nil _⟩, hB⟩
end Go.Proofs.Pw

namespace Go.Proofs.Pw
open Go.RowKit
open Go.Lib hiding intOf
set_option maxHeartbeats 1000000 in
set_option maxRecDepth 100000 in
theorem getOut1_calls (b : Nat) (a2 : Option Addr) (m cap2 : Nat) (Q U : Nat → ByteArray) (p v : ByteArray) (w : World) (hx : w.cell? ⟨b, 0, none⟩ = some (.slice a2 m cap2))
    (hc2 : ∀ j, j < m → ∃ b o, a2 = some ⟨b, o, none⟩ ∧ w.cell? ⟨b, o + j * 2, none⟩ = some (.string (Q j)) ∧ w.cell? ⟨b, o + j * 2 + 1, none⟩ = some (.string (U j))) (hm : m ≤ 1000000) :
    Calls Tryz.prog 70 #[.agg #[.string p, .string v], .pointer (some ⟨b, 0, none⟩)] w fun e w' => e = .returned (.bool (decide ((p.data.toList, v.data.toList) ∈ mdF m Q U))) ∧ Below w.heap.size w w' := by
  have hb0 := below_alloc w (.cells #[.string p, .string v] 47)
  have hct := fun W (hb : Below w.heap.size w W) => containsM_calls a2 m cap2 Q U p v W hm (fun j hj => let ⟨b, o, e, h1, h2⟩ := hc2 j hj; ⟨b, o, e, Below.cell_some hb h1, Below.cell_some hb h2⟩)
  have c0 := Below.cell_some hb0 hx
  have hct1 := hct _ hb0
  replace hct1 := Lib.hid hct1
  clear hct hc2 hx
  go_enter Tryz.func70, Tryz.ntmps70
  go_wp2_with fail
  refine hct1.out.mono ?_
  rintro e w2 ⟨rfl, hb⟩
  go_wp2_with fail
  go_ret
  exact ⟨rfl, below_step hb0 hb⟩
end Go.Proofs.Pw

namespace Go.Proofs.Pw
open Go.RowKit
open Go.Lib hiding intOf
theorem Tryz.enters_getOut1 : ∀ args w, (callFunc 70 args).run Tryz.prog w = .ok (.enter 70 args) w := Go.Proofs.enters_of Tryz.func70 (by kernel_rfl) rfl
theorem isOutM_any (X S : List Md) : isOutM X S = X.any fun m => decide (m ∈ S) := by
  cases h : isOutM X S with
  | true =>
    unfold isOutM at h
    obtain ⟨m, hm, h2⟩ := List.any_eq_true.1 h
    obtain ⟨e, he, h3⟩ := List.any_eq_true.1 h2
    obtain rfl := of_decide_eq_true h3
    exact (List.any_eq_true.2 ⟨m, he, decide_eq_true hm⟩).symm
  | false =>
    refine (List.any_eq_false.2 fun m hm h2 => ?_).symm
    have := isOutM_yes (of_decide_eq_true h2) hm
    rw [h] at this
    cases this
set_option maxHeartbeats 1000000 in
set_option maxRecDepth 100000 in
theorem getOut_calls (p : ByteArray) (rv xv sv : Value) (X S : List Md) (w : World) (hx : ModsAt w xv X) (hs : ModsAt w sv S) (hX : X.length ≤ 1000000) (hS : S.length ≤ 1000000) :
    Calls Tryz.prog 31 #[.agg #[.string p, rv, xv], sv] w fun e w' => e = .returned (.bool (isOutM X S)) ∧ Below w.heap.size w w' := by
  obtain ⟨ax, nx, cx, PX, VX, rfl, rfl, hx3, hx4, hx5⟩ := hx
  obtain ⟨ap, ns, cs, PS, VS, rfl, rfl, hs3, hs4, hs5⟩ := hs
  rw [mdF_length] at hX hS
  have hb0 := below_alloc w (.cells #[.string p, rv, .slice ax nx cx] 25)
  have hb1 := below_alloc (w.alloc (.cells #[.string p, rv, .slice ax nx cx] 25)) (.cells #[.slice ap ns cs] 23)
  have hz := (box3f_alloc w (.string p) rv (.slice ax nx cx) 25).below hb1
  have hbb := below_step hb0 hb1
  have hc0 : ((w.alloc (.cells #[.string p, rv, .slice ax nx cx] 25)).alloc (.cells #[.slice ap ns cs] 23)).cell? ⟨w.heap.size + 1, 0, none⟩ = some (.slice ap ns cs) := by
    have e : (w.alloc (.cells #[.string p, rv, .slice ax nx cx] 25)).heap.size = w.heap.size + 1 := by simp
    rw [← e]
    simp
  have hct := containsMf_calls 70 #[.pointer (some ⟨w.heap.size + 1, 0, none⟩)] Tryz.enters_getOut1 (fun m => decide (m ∈ mdF ns PS VS)) ax nx cx _ PX VX _ hX (Nat.le_refl _) (fun j hj => let ⟨b, o, e, h1, h2⟩ := hx5 j hj; ⟨b, o, e, Below.cell_some hbb h1, Below.cell_some hbb h2⟩) (fun W hW j hj => getOut1_calls _ ap ns cs PS VS (PX j) (VX j) W (Below.cell_some hW hc0) (fun i hi => let ⟨b, o, e, h1, h2⟩ := hs5 i hi; ⟨b, o, e, Below.cell_some (below_step hbb hW) h1, Below.cell_some (below_step hbb hW) h2⟩) hS)
  rw [← isOutM_any] at hct
  obtain ⟨z0, z1, z2, zf⟩ := hz
  replace hct := Lib.hid hct
  clear hx3 hx4 hx5 hs3 hs4 hs5 hb0 hb1
  go_enter Tryz.func31, Tryz.ntmps31
  go_wp2_with fail
  refine hct.out.mono ?_
  rintro e w2 ⟨rfl, hb⟩
  go_wp2_with fail
  go_ret
  exact ⟨rfl, below_step hbb hb⟩
end Go.Proofs.Pw
