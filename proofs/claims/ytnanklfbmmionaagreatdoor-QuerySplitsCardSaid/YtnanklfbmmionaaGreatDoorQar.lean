/- Qa: walks and plain laws, joined: RefSort IdxVers IdxLatest. Conditions: at each theorem. -/
import Derived.Test.YtnanklfbmmionaaGreatDoorQah
import Derived.Test.YtnanklfbmmionaaGreatDoorQae
import Derived.Test.YtnanklfbmmionaaGreatDoorQab
import Derived.Test.YtnanklfbmmionaaGreatDoorQaq
import Derived.Test.YtnanklfbmmionaaGreatDoorQaj
import Derived.Lib.AppendZeros
import Derived.Deep.Upon
import Derived.Deep.Onto
import Derived.Test.YtnanklfbmmionaaGreatDoorQac
import Derived.Test.YtnanklfbmmionaaGreatDoorQak
import Derived.Test.YtnanklfbmmionaaGreatDoorQam
import Derived.Test.YtnanklfbmmionaaGreatDoorQad
import Derived.Laws.EntriesVeiled

namespace Go.Proofs.Pw
open Go.RowKit
open Go.Lib hiding intOf
def AccAt (w : World) (base : Nat) (o : Value) (P : List ByteArray) : Prop :=
  (P = [] ∧ o = .slice none 0 0) ∨ ∃ g c, P ≠ [] ∧ o = .slice (some ⟨g, 0, none⟩) P.length c ∧ base ≤ g ∧ g < w.heap.size ∧ P.length ≤ c ∧ c ≤ 9223372036854775807 ∧ ∀ j, j < P.length → w.cell? ⟨g, j, none⟩ = some (.string (P.getD j ByteArray.empty))
theorem AccAt.below {w w' : World} {base : Nat} {o : Value} {P : List ByteArray} (h : AccAt w base o P) (hb : Below w.heap.size w w') : AccAt w' base o P := by
  rcases h with h | ⟨g, c, h1, h2, h3, h4, h5, h6, h7⟩
  · exact .inl h
  · exact .inr ⟨g, c, h1, h2, h3, Nat.lt_of_lt_of_le h4 hb.size, h5, h6, fun j hj => Below.cell_some hb (h7 j hj)⟩
theorem AccAt.mono {w : World} {base base' : Nat} {o : Value} {P : List ByteArray} (h : AccAt w base o P) (hb : base' ≤ base) : AccAt w base' o P := by
  rcases h with h | ⟨g, c, h1, h2, h3, r⟩
  · exact .inl h
  · exact .inr ⟨g, c, h1, h2, by omega, r⟩
theorem AccAt.strs {w : World} {base : Nat} {o : Value} {P : List ByteArray} (h : AccAt w base o P) : StrsAt w o (strTs P) := by
  rcases h with ⟨rfl, rfl⟩ | ⟨g, c, h1, rfl, h3, h4, h5, h6, h7⟩
  · exact StrsAt.nil w
  · exact ⟨_, P.length, c, fun j => P.getD j ByteArray.empty, rfl, (lstF_list P).symm, h5, h6, fun j hj => ⟨g, 0, rfl, by rw [Nat.zero_add]; exact h7 j hj⟩⟩
end Go.Proofs.Pw

namespace Go.Proofs.Pw
open Go.RowKit
open Go.Lib hiding intOf
theorem enF_take_succ {n : Nat} {P V : Nat → ByteArray} {R : Nat → List Md} {K : Nat → List Str} {B : Nat → Bool} {k : Nat} (hk : k < n) : (enF n P V R K B).take (k + 1) = (enF n P V R K B).take k ++ [⟨((P k).data.toList, (V k).data.toList), R k, K k, B k⟩] := by
  rw [List.take_add_one, enF_get n P V R K B k hk]; rfl
theorem enF_take_all (n : Nat) (P V : Nat → ByteArray) (R : Nat → List Md) (K : Nat → List Str) (B : Nat → Bool) : (enF n P V R K B).take n = enF n P V R K B := List.take_of_length_le (by rw [enF_length]; exact Nat.le_refl _)
theorem versL_size {l : List En} {p : Str} (h : ShortI l) : (versL l p).length ≤ 1000000 ∧ ∀ x ∈ versL l p, x.length ≤ 1000000 := by
  refine ⟨Nat.le_trans (versL_len l p) h.len, fun x hx => ?_⟩
  obtain ⟨e, he, e1⟩ := versL_mem.1 hx
  have := (h.mds e he).2
  rw [e1] at this
  exact this
set_option maxHeartbeats 4000000 in
set_option maxRecDepth 100000 in
theorem idxVersions_in (ks : List Nat) (A : Nat → Addr) (a : Option Addr) (n cap : Nat) (P V : Nat → ByteArray) (R : Nat → List Md) (K : Nat → List Str) (Bk : Nat → Bool) (Rv Kv : Nat → Value) (p : ByteArray) (w : World) (hE : EnvP ks A w) (h : EntsIn w a n cap P V R K Bk Rv Kv) (hs : ShortI (enF n P V R K Bk)) :
    Calls Tryz.prog 42 #[.slice a n cap, .string p] w fun e w' => (∃ v, e = .returned v ∧ StrsAt w' v (vsort (versL (enF n P V R K Bk) p.data.toList))) ∧ Below w.heap.size w w' := by
  obtain ⟨i0, hi, hz0, hz1, hz2⟩ := info_parts Tryz.infoString
  have hn : n ≤ 1000000 := by have := hs.len; rwa [enF_length] at this
  have H := Lib.hid h
  have HE := Lib.hid hE
  have HSZ := Lib.hid (versL_size (p := p.data.toList) hs)
  clear h hs hE
  go_enter Tryz.func42, Tryz.ntmps42
  go_wp2_with fail
  go_loopw [5, 10] (fun o i wr => ∃ (k : Nat) (L : List ByteArray), k ≤ n ∧ i = .int .i64 k ∧ Hid (wr.ownsRow w.heap.size 9 1 o L.length (strVs L)) ∧ L.length ≤ k ∧ Hid (strTs L = versL ((enF n P V R K Bk).take k) p.data.toList) ∧ Below w.heap.size w wr) (fun _ i _ => n - (intOf i).toNat)
  case atStart => exact ⟨0, [], Nat.zero_le _, rfl, Lib.hid (World.ownsRow_nil _ _ _ _), Nat.le_refl _, Lib.hid rfl, Below.refl _ _⟩
  case round =>
    obtain ⟨k, L, hk, rfl, hO, hLk, hT, hBr⟩ := hrel
    obtain ⟨ao, no, co, rfl⟩ := own_form hO.out
    by_cases hlt : k < n
    · have hkn : (k : Int) < (n : Int) := by omega
      obtain ⟨b1, o1, ea, hcell⟩ := H.out.at_ k hlt
      obtain ⟨c0, c1, c2, c3, c4⟩ := hcell.below hBr
      obtain ⟨a1, n1, s1, a2, n2, s2, e1, e2⟩ := H.out.forms hlt
      rw [e1] at c2
      rw [e2] at c3
      subst ea
      have hba := below_alloc wr (.cells #[.string (P k), .string (V k), .slice a1 n1 s1, .slice a2 n2 s2, .bool (Bk k)] 37)
      have y0 : (wr.alloc (.cells #[.string (P k), .string (V k), .slice a1 n1 s1, .slice a2 n2 s2, .bool (Bk k)] 37)).cell? ⟨wr.heap.size, 0, none⟩ = some (.string (P k)) := by simp
      have y1 : (wr.alloc (.cells #[.string (P k), .string (V k), .slice a1 n1 s1, .slice a2 n2 s2, .bool (Bk k)] 37)).cell? ⟨wr.heap.size, 1, none⟩ = some (.string (V k)) := by simp
      have hO2 := hO.out.below hba
      have hB2 := below_step hBr hba
      obtain ⟨w2, hW⟩ : ∃ W, wr.alloc (.cells #[.string (P k), .string (V k), .slice a1 n1 s1, .slice a2 n2 s2, .bool (Bk k)] 37) = W := ⟨_, rfl⟩
      rw [hW] at y0 y1 hO2 hB2
      replace hO2 := Lib.hid hO2
      clear hba
      have hTk : versL ((enF n P V R K Bk).take (k + 1)) p.data.toList = versL ((enF n P V R K Bk).take k) p.data.toList ++ (if (P k).data.toList = p.data.toList then [(V k).data.toList] else []) := by
        rw [enF_take_succ hlt, versL_snoc]
      by_cases hpe : (P k).data.toList = p.data.toList
      · have hp0 := bytes_eq.1 hpe
        have hp1 : ((P k).toList == p.toList) = true := by rw [hp0]; simp
        have HN : Hid (strTs (L ++ [V k]) = versL ((enF n P V R K Bk).take (k + 1)) p.data.toList) := Lib.hid (by rw [hTk, if_pos hpe, strTs_snoc, hT.out])
        clear hcell e1 e2 hT hTk hpe hp0 hO
        go_wp2_with (at_builtin; refine wpList_append_own _ rfl _ _ 35 rfl w.heap.size 9 i0 (.string ⟨#[]⟩) 1 16 Tryz.underlying35 hi hz0 hz1 hz2 rfl (by decide) _ _ _ rfl (hO2.out.alloc _) ⟨w2.heap.size, 0, none⟩ 1 1 [.string (V k)] rfl rfl (cell_one_new _ _ _) (fun x hx => by simp at hx; subst hx; rfl) (by unfold maxLen; omega) (by omega) (by have := hB2.size; simp; omega) ?_; intro o' w4 hown4 hgrow4 _)
        go_roundw
        case rel =>
          refine ⟨k + 1, L ++ [V k], by omega, by go_num, Lib.hid ?_, by simp; omega, HN, ?_⟩
          · rw [List.length_append, List.length_singleton, ← strVs_snoc]; exact hown4
          · exact (hB2.alloc hB2.size _).grown hgrow4 (by have := hB2.size; simp; omega) (fun q hq => (hO2.out.lt q hq).1)
        case measure => simp [intOf]; omega
      · have hp1 : ((P k).toList == p.toList) = false := by rw [toList_data, toList_data]; exact beq_eq_false_iff_ne.2 hpe
        have HN : Hid (strTs L = versL ((enF n P V R K Bk).take (k + 1)) p.data.toList) := Lib.hid (by rw [hTk, if_neg hpe, List.append_nil, hT.out])
        clear hcell e1 e2 hT hTk hpe hO
        go_wp2_with fail
        go_roundw
        case rel => exact ⟨k + 1, L, by omega, by go_num, hO2, by omega, HN, hB2⟩
        case measure => simp [intOf]; omega
    · have hT2 : strTs L = versL (enF n P V R K Bk) p.data.toList := by rw [hT.out, show k = n by omega, enF_take_all]
      have hSo := strsAt_own hO.out
      rw [hT2] at hSo
      have hso := verSort_calls ks A _ _ wr (HE.out.below hBr) hSo HSZ.out.1 (fun x hx => by have := HSZ.out.2 x hx; omega)
      have hnk : ¬ (k : Int) < (n : Int) := by omega
      replace hso := Lib.hid hso
      clear hT hT2 hSo hO hlt
      go_wp2_with fail
      refine hso.out.mono ?_
      rintro e w5 ⟨⟨v5, rfl, hv5⟩, hb⟩
      go_wp2_with fail
      go_ret
      exact ⟨⟨_, rfl, hv5⟩, below_step hBr hb⟩
end Go.Proofs.Pw

namespace Go.Proofs.Pw
open Go.RowKit Go.Sort
open Go.Lib hiding intOf
theorem enters_liked1 : ∀ args w, (callFunc 186 args).run Tryz.prog w = .ok (.enter 186 args) w := Go.Proofs.enters_of Tryz.func186 (by kernel_rfl) rfl
theorem enters_liked2 : ∀ args w, (callFunc 187 args).run Tryz.prog w = .ok (.enter 187 args) w := Go.Proofs.enters_of Tryz.func187 (by kernel_rfl) rfl
set_option maxHeartbeats 1000000 in
theorem idxPre_calls (ks : List Nat) (A : Nat → Addr) (s : ByteArray) (w : World) (hE : EnvP ks A w) (hs : s.size ≤ 1000000000) :
    Calls Tryz.prog 188 #[.string s] w fun e w' => e = .returned (.bool (preB s.data.toList)) ∧ Below w.heap.size w w' := by
  have hsp := verSplit_calls ks A s w hE hs
  have hP : preB s.data.toList = (decide (verErr s.data.toList ≠ 0) || decide (0 < (verPre s.data.toList).length)) := rfl
  obtain ⟨X, hX⟩ : ∃ X, preB s.data.toList = X := ⟨_, rfl⟩
  rw [hX] at hP ⊢
  generalize verPre s.data.toList = VP at *
  generalize verErr s.data.toList = VE at *
  by_cases h0 : VE = 0
  · subst h0
    rw [errV_zero] at hsp
    have hPX : X = decide (0 < VP.length) := by rw [hP]; simp
    clear hP hX
    replace hsp := Lib.hid hsp
    go_enter Tryz.func188, Tryz.ntmps188
    go_wp2_with fail
    refine hsp.out.mono ?_
    rintro e w1 ⟨hb, v, rfl, hv⟩
    obtain ⟨a1, n1, c1, L1, rfl, rfl, _⟩ := hv
    rw [lstF_length] at hPX
    have hba := below_alloc w1 (.cells #[.int .i64 (verNum s.data.toList 0 : Nat), .int .i64 (verNum s.data.toList 1 : Nat), .int .i64 (verNum s.data.toList 2 : Nat), .slice a1 n1 c1] 101)
    by_cases hn : 0 < n1
    · have hn' : (0 : Int) < (n1 : Int) := by omega
      rw [decide_eq_true hn] at hPX
      subst hPX
      go_wp2_with fail
      go_ret
      exact ⟨rfl, below_step hb hba⟩
    · have hn' : ¬ (0 : Int) < (n1 : Int) := by omega
      rw [decide_eq_false hn] at hPX
      subst hPX
      go_wp2_with fail
      go_ret
      exact ⟨rfl, below_step hb hba⟩
  · rw [errV_pos A h0] at hsp
    have hPX : X = true := by rw [hP]; simp [h0]
    subst hPX
    clear hP hX h0
    replace hsp := Lib.hid hsp
    go_enter Tryz.func188, Tryz.ntmps188
    go_wp2_with fail
    refine hsp.out.mono ?_
    rintro e w1 ⟨hb, v, rfl, hv⟩
    obtain ⟨a1, n1, c1, L1, rfl, rfl, _⟩ := hv
    have hba := below_alloc w1 (.cells #[.int .i64 (verNum s.data.toList 0 : Nat), .int .i64 (verNum s.data.toList 1 : Nat), .int .i64 (verNum s.data.toList 2 : Nat), .slice a1 n1 c1] 101)
    go_wp2_with fail
    go_ret
    exact ⟨rfl, below_step hb hba⟩
theorem liked1_in (a : Option Addr) (n cap : Nat) (P V : Nat → ByteArray) (R : Nat → List Md) (K : Nat → List Str) (Bk : Nat → Bool) (Rv Kv : Nat → Value) (bl bp : Nat) (s p : ByteArray) (w : World) (h : EntsIn w a n cap P V R K Bk Rv Kv) (hn : n ≤ 1000000) (zl : w.cell? ⟨bl, 0, none⟩ = some (.slice a n cap)) (zp : w.cell? ⟨bp, 0, none⟩ = some (.string p)) :
    Calls Tryz.prog 186 #[.string s, .pointer (some ⟨bl, 0, none⟩), .pointer (some ⟨bp, 0, none⟩)] w fun e w' => e = .returned (.bool (backB (enF n P V R K Bk) p.data.toList s.data.toList)) ∧ Below w.heap.size w w' := by
  have hf := idxFind_in a n cap P V R K Bk Rv Kv p s w h hn
  have hB : backB (enF n P V R K Bk) p.data.toList s.data.toList = (decide (0 ≤ findE (enF n P V R K Bk) (p.data.toList, s.data.toList)) && (enAt (enF n P V R K Bk) (findE (enF n P V R K Bk) (p.data.toList, s.data.toList)).toNat).back) := rfl
  have hfn := fun h => findE_nat (l := enF n P V R K Bk) (m := (p.data.toList, s.data.toList)) h
  generalize findE (enF n P V R K Bk) (p.data.toList, s.data.toList) = x at hf hB hfn
  by_cases h0 : x < 0
  · have HR : Hid (backB (enF n P V R K Bk) p.data.toList s.data.toList = false) := Lib.hid (by rw [hB, decide_eq_false (by omega)]; rfl)
    have h0' : ¬ (0 : Int) ≤ x := by omega
    clear hfn hB
    replace hf := Lib.hid hf
    go_enter Tryz.func186, Tryz.ntmps186
    go_wp2_with fail
    refine hf.out.mono ?_
    rintro e w1 ⟨rfl, hb⟩
    replace zl := Below.cell_some hb zl
    go_wp2_with fail
    go_ret
    rw [HR.out]
    exact ⟨rfl, hb⟩
  · obtain ⟨k, rfl, hk, _⟩ := hfn h0
    rw [enF_length] at hk
    obtain ⟨b1, o1, rfl, hcell⟩ := h.at_ k hk
    have HR : Hid (backB (enF n P V R K Bk) p.data.toList s.data.toList = Bk k) := Lib.hid (by
      rw [hB, decide_eq_true (by omega), Bool.true_and]
      show (enAt (enF n P V R K Bk) k).back = _
      rw [enAt_enF hk])
    have h0' : (0 : Int) ≤ (k : Int) := by omega
    have hkn : (k : Int) < (n : Int) := by omega
    have c4 := hcell.c4
    clear hfn hB h0 hcell
    generalize Bk k = X at c4 HR
    replace hf := Lib.hid hf
    go_enter Tryz.func186, Tryz.ntmps186
    go_wp2_with fail
    refine hf.out.mono ?_
    rintro e w1 ⟨rfl, hb⟩
    replace zl := Below.cell_some hb zl
    replace c4 := Below.cell_some hb c4
    go_wp2_with fail
    go_ret
    rw [HR.out]
    exact ⟨rfl, hb⟩
theorem liked2_in (ks : List Nat) (A : Nat → Addr) (a : Option Addr) (n cap : Nat) (P V : Nat → ByteArray) (R : Nat → List Md) (K : Nat → List Str) (Bk : Nat → Bool) (Rv Kv : Nat → Value) (bl bp bf : Nat) (s p : ByteArray) (w : World) (hE : EnvP ks A w) (h : EntsIn w a n cap P V R K Bk Rv Kv) (hn : n ≤ 1000000) (hs : s.size ≤ 1000000000) (zl : w.cell? ⟨bl, 0, none⟩ = some (.slice a n cap)) (zp : w.cell? ⟨bp, 0, none⟩ = some (.string p)) (zf : w.cell? ⟨bf, 0, none⟩ = some (.func (.func 186) #[] #[.pointer (some ⟨bl, 0, none⟩), .pointer (some ⟨bp, 0, none⟩)])) :
    Calls Tryz.prog 187 #[.string s, .pointer (some ⟨bf, 0, none⟩)] w fun e w' => e = .returned (.bool (backB (enF n P V R K Bk) p.data.toList s.data.toList || preB s.data.toList)) ∧ Below w.heap.size w w' := by
  have h1 := liked1_in a n cap P V R K Bk Rv Kv bl bp s p w h hn zl zp
  have h2 := fun W hb => idxPre_calls ks A s W (hE.below hb) hs
  have eg := enters_liked1
  generalize backB (enF n P V R K Bk) p.data.toList s.data.toList = X at h1 ⊢
  generalize preB s.data.toList = Y at h2 ⊢
  replace h1 := Lib.hid h1
  replace h2 := Lib.hid h2
  clear h zl zp
  cases X with
  | true =>
    go_enter Tryz.func187, Tryz.ntmps187
    go_wp2_with (go_at_fn 186; refine h1.out.mono ?_; rintro e w1 ⟨rfl, hb⟩)
    go_ret
    exact ⟨rfl, hb⟩
  | false =>
    go_enter Tryz.func187, Tryz.ntmps187
    go_wp2_with (go_at_fn 186; refine h1.out.mono ?_; rintro e w1 ⟨rfl, hb⟩)
    refine (h2.out _ hb).mono ?_
    rintro e w2 ⟨rfl, hb2⟩
    go_wp2_with fail
    go_ret
    exact ⟨rfl, below_step hb hb2⟩
theorem del_new (g : Nat) (lb : Array Value) (eg : ∀ args w, (callFunc g args).run Tryz.prog w = .ok (.enter g args) w) (q : Str → Bool) (l : List Str) (w0 w : World) (e : Ending) (hl : l.length ≤ 1000000)
    (hT : ∀ W, Below w0.heap.size w0 W → ∀ s ∈ l, Calls Tryz.prog g (#[encStr s] ++ lb) W fun e w'' => e = .returned (.bool (q s)) ∧ Below W.heap.size W w'')
    (n : Nat) (L : Nat → ByteArray) (hL : l = lstF n L)
    (h : ((e = .returned (.slice none 0 0) ∧ n = 0) ∨ ∃ g c, e = .returned (.slice (some ⟨g, 0, none⟩) n c) ∧ w0.heap.size ≤ g ∧ g < w.heap.size ∧ n ≤ c ∧ c ≤ 9223372036854775807 ∧ Holds encStr w g 0 (lstF n L).toArray) ∧ Below w0.heap.size w0 w) :
    ∃ u, e = .returned u ∧ (∃ a m c, u = .slice a m c) ∧ Calls Tryz.prog 111 #[u, .func (.func g) #[] lb] w fun e' w' => (∃ v', e' = .returned v' ∧ StrsAt w' v' (l.filter fun x => !q x)) ∧ Below w0.heap.size w0 w' := by
  obtain ⟨h | ⟨g', c, h1, h2, h3, h4, h5, h6⟩, hb⟩ := h
  · obtain ⟨h1, h2⟩ := h
    subst h2
    refine ⟨_, h1, ⟨_, _, _, rfl⟩, (deleteFunc_nil _ 0 _).mono ?_⟩
    rintro e' w' ⟨rfl, rfl⟩
    have : l.filter (fun x => !q x) = [] := by rw [hL]; rfl
    rw [this]
    exact ⟨⟨_, rfl, StrsAt.nil _⟩, hb⟩
  · refine ⟨_, h1, ⟨_, _, _, rfl⟩, ?_⟩
    have hdz : (lstF n L).toArray.size = n := by rw [List.size_toArray, lstF_length]
    have hn : n ≤ 1000000 := by rw [hL, lstF_length] at hl; exact hl
    have hD := deleteFunc_calls g lb eg q g' 0 c w0.heap.size (lstF n L).toArray w (by rw [hdz]; omega) (by rw [hdz]; exact h4) h2 h3 h6 (fun W hW s hs => hT W (hb.trans hW) s (by rw [hL]; simpa using hs))
    rw [hdz] at hD
    refine hD.mono ?_
    rintro e' w' ⟨rfl, hb2, hH⟩
    simp only at hH ⊢
    rw [hL]
    refine ⟨⟨_, rfl, strsAt_holds hH ?_ h5⟩, hb.trans hb2⟩
    have := List.length_filter_le (fun x => !q x) (lstF n L)
    rw [lstF_length] at this
    omega
set_option maxHeartbeats 4000000 in
set_option maxRecDepth 100000 in
theorem liked_in (ks : List Nat) (A : Nat → Addr) (a : Option Addr) (n cap : Nat) (P V : Nat → ByteArray) (R : Nat → List Md) (K : Nat → List Str) (Bk : Nat → Bool) (Rv Kv : Nat → Value) (p : ByteArray) (sv : Value) (l : List Str) (w : World) (hE : EnvP ks A w) (h : EntsIn w a n cap P V R K Bk Rv Kv) (hn : n ≤ 1000000) (hv : StrsAt w sv l) (hl : l.length ≤ 1000000) (hls : ∀ x ∈ l, x.length ≤ 1000000) :
    Calls Tryz.prog 136 #[.slice a n cap, .string p, sv] w fun e w' => (∃ v, e = .returned v ∧ StrsAt w' v (likedL (enF n P V R K Bk) p.data.toList l)) ∧ Below w.heap.size w w' := by
  obtain ⟨sa, sn, sc, L, rfl, hL, _, _, hc⟩ := id hv
  have hb1 := below_alloc w (.cells #[.slice a n cap] 22)
  have z1 : (w.alloc (.cells #[.slice a n cap] 22)).cell? ⟨w.heap.size, 0, none⟩ = some (.slice a n cap) := by simp
  generalize hw1 : w.alloc (.cells #[.slice a n cap] 22) = w1 at *
  have hb2 := below_alloc w1 (.cells #[.string p] 9)
  have z2 : (w1.alloc (.cells #[.string p] 9)).cell? ⟨w1.heap.size, 0, none⟩ = some (.string p) := by simp
  replace z1 := Below.cell_some hb2 z1
  replace hb1 := below_step hb1 hb2
  generalize hw2 : w1.alloc (.cells #[.string p] 9) = w2 at *
  obtain ⟨FV, hFV⟩ : ∃ FV : Value, FV = .func (.func 186) #[] #[.pointer (some ⟨w.heap.size, 0, none⟩), .pointer (some ⟨w1.heap.size, 0, none⟩)] := ⟨_, rfl⟩
  have hb3 := below_alloc w2 (.cells #[.func (.func 186) #[] #[.pointer (some ⟨w.heap.size, 0, none⟩), .pointer (some ⟨w1.heap.size, 0, none⟩)]] 136)
  have z3 : (w2.alloc (.cells #[.func (.func 186) #[] #[.pointer (some ⟨w.heap.size, 0, none⟩), .pointer (some ⟨w1.heap.size, 0, none⟩)]] 136)).cell? ⟨w2.heap.size, 0, none⟩ = some (.func (.func 186) #[] #[.pointer (some ⟨w.heap.size, 0, none⟩), .pointer (some ⟨w1.heap.size, 0, none⟩)]) := by simp
  replace z1 := Below.cell_some hb3 z1
  replace z2 := Below.cell_some hb3 z2
  replace hb1 := below_step hb1 hb3
  generalize hw3 : w2.alloc (.cells #[.func (.func 186) #[] #[.pointer (some ⟨w.heap.size, 0, none⟩), .pointer (some ⟨w1.heap.size, 0, none⟩)]] 136) = w3 at *
  have hb4 := below_alloc w3 (.cells #[.func (.func 187) #[] #[.pointer (some ⟨w2.heap.size, 0, none⟩)], .func (.func 186) #[] #[.pointer (some ⟨w.heap.size, 0, none⟩), .pointer (some ⟨w1.heap.size, 0, none⟩)]] 136)
  have z4 : (w3.alloc (.cells #[.func (.func 187) #[] #[.pointer (some ⟨w2.heap.size, 0, none⟩)], .func (.func 186) #[] #[.pointer (some ⟨w.heap.size, 0, none⟩), .pointer (some ⟨w1.heap.size, 0, none⟩)]] 136)).cell? ⟨w3.heap.size, 0, none⟩ = some (.func (.func 187) #[] #[.pointer (some ⟨w2.heap.size, 0, none⟩)]) := by simp
  have z5 : (w3.alloc (.cells #[.func (.func 187) #[] #[.pointer (some ⟨w2.heap.size, 0, none⟩)], .func (.func 186) #[] #[.pointer (some ⟨w.heap.size, 0, none⟩), .pointer (some ⟨w1.heap.size, 0, none⟩)]] 136)).cell? ⟨w3.heap.size, 1, none⟩ = some (.func (.func 186) #[] #[.pointer (some ⟨w.heap.size, 0, none⟩), .pointer (some ⟨w1.heap.size, 0, none⟩)]) := by simp
  generalize hw4 : w3.alloc (.cells #[.func (.func 187) #[] #[.pointer (some ⟨w2.heap.size, 0, none⟩)], .func (.func 186) #[] #[.pointer (some ⟨w.heap.size, 0, none⟩), .pointer (some ⟨w1.heap.size, 0, none⟩)]] 136) = w4 at *
  have hcl := fun W (hW : Below w.heap.size w W) => cloneS_calls sa sn sc L W (by rw [hL, lstF_length] at hl; omega) (fun j hj => let ⟨b, o, e, c⟩ := hc j hj; ⟨b, o, e, Below.cell_some hW c⟩)
  have hT1 : ∀ W, Below w3.heap.size w3 W → ∀ s ∈ l, Calls Tryz.prog 186 (#[encStr s] ++ #[.pointer (some ⟨w.heap.size, 0, none⟩), .pointer (some ⟨w1.heap.size, 0, none⟩)]) W fun e w'' => e = .returned (.bool (backB (enF n P V R K Bk) p.data.toList s)) ∧ Below W.heap.size W w'' := fun W hW s hs =>
    liked1_in a n cap P V R K Bk Rv Kv w.heap.size w1.heap.size ⟨s.toArray⟩ p W (h.below (below_step hb1 hW)) hn (Below.cell_some hW z1) (Below.cell_some hW z2)
  have hT2 : ∀ W, Below w3.heap.size w3 W → ∀ s ∈ l, Calls Tryz.prog 187 (#[encStr s] ++ #[.pointer (some ⟨w2.heap.size, 0, none⟩)]) W fun e w'' => e = .returned (.bool (backB (enF n P V R K Bk) p.data.toList s || preB s)) ∧ Below W.heap.size W w'' := fun W hW s hs =>
    liked2_in ks A a n cap P V R K Bk Rv Kv w.heap.size w1.heap.size w2.heap.size ⟨s.toArray⟩ p W (hE.below (below_step hb1 hW)) (h.below (below_step hb1 hW)) hn (by have := hls s hs; simp [ByteArray.size]; omega) (Below.cell_some hW z1) (Below.cell_some hW z2) (Below.cell_some hW z3)
  have hd1 := fun (W0 W : World) (hW0 : Below w3.heap.size w3 W0) (e : Ending) h => del_new 186 #[.pointer (some ⟨w.heap.size, 0, none⟩), .pointer (some ⟨w1.heap.size, 0, none⟩)] enters_liked1 (backB (enF n P V R K Bk) p.data.toList) l W0 W e hl (fun W' hW' => hT1 W' (below_step hW0 hW')) sn L hL h
  have hd2 := fun (W0 W : World) (hW0 : Below w3.heap.size w3 W0) (e : Ending) h => del_new 187 #[.pointer (some ⟨w2.heap.size, 0, none⟩)] enters_liked2 (fun s => backB (enF n P V R K Bk) p.data.toList s || preB s) l W0 W e hl (fun W' hW' => hT2 W' (below_step hW0 hW')) sn L hL h
  have HLK : Hid (likedL (enF n P V R K Bk) p.data.toList l = if l.filter (fun v => !(backB (enF n P V R K Bk) p.data.toList v || preB v)) ≠ [] then l.filter (fun v => !(backB (enF n P V R K Bk) p.data.toList v || preB v)) else if l.filter (fun v => !backB (enF n P V R K Bk) p.data.toList v) ≠ [] then l.filter (fun v => !backB (enF n P V R K Bk) p.data.toList v) else l) := Lib.hid rfl
  generalize l.filter (fun v => !(backB (enF n P V R K Bk) p.data.toList v || preB v)) = L2 at *
  generalize l.filter (fun v => !backB (enF n P V R K Bk) p.data.toList v) = L1 at *
  generalize likedL (enF n P V R K Bk) p.data.toList l = LK at *
  have HV := Lib.hid hv
  have HB1 := Lib.hid hb1
  have HB34 := Lib.hid hb4
  replace hcl := Lib.hid hcl
  replace hd1 := Lib.hid hd1
  replace hd2 := Lib.hid hd2
  clear h hv hT1 hT2 hFV hb2 hb3 hE hls hL hc hb4 hb1
  go_enter Tryz.func136, Tryz.ntmps136
  go_wp2_with fail
  clear hw1 hw2 hw3 hw4 z1 z2 z3
  go_loopw [9, 10, 16] (fun _ _ i wr => ∃ k : Nat, k ≤ 2 ∧ i = .int .i64 k ∧ Below w4.heap.size w4 wr ∧ Hid ((0 < k → L2 = []) ∧ (1 < k → L1 = []))) (fun _ _ i _ => 2 - (intOf i).toNat)
  case atStart => exact ⟨0, Nat.zero_le _, rfl, Below.refl _ _, Lib.hid ⟨fun h => absurd h (by decide), fun h => absurd h (by decide)⟩⟩
  case round =>
    obtain ⟨k, hk, rfl, hBr, HI⟩ := hrel
    have hB3 := below_step HB34.out hBr
    have hB := below_step HB1.out hB3
    have hcp := hcl.out wr hB
    have hd1r := fun W e h => hd1.out wr W hB3 e h
    have hd2r := fun W e h => hd2.out wr W hB3 e h
    have hk3 : k = 0 ∨ k = 1 ∨ k = 2 := by omega
    rcases hk3 with rfl | rfl | rfl
    · have y4 := Below.cell_some hBr z4
      replace hcp := Lib.hid hcp
      replace hd1r := Lib.hid hd1r
      replace hd2r := Lib.hid hd2r
      go_wp2_with fail
      refine hcp.out.mono ?_
      rintro e w5 h5
      obtain ⟨u, rfl, ⟨ua, um, uc, rfl⟩, hdel⟩ := hd2r.out w5 e h5
      replace hdel := Lib.hid hdel
      clear h5 hcp
      go_wp2_with fail
      refine hdel.out.mono ?_
      rintro e w6 ⟨⟨v', rfl, hS⟩, hb6⟩
      obtain ⟨va, vm, vc, M, rfl, hM, _⟩ := id hS
      have hB6 := below_step hB hb6
      by_cases hlt : 0 < vm
      · have hlt' : (0 : Int) < (vm : Int) := by omega
        have HL : Hid (LK = L2) := Lib.hid (by
          rw [HLK.out, if_pos (fun e => by have := congrArg List.length (hM.symm.trans e); rw [lstF_length] at this; simp at this; omega)])
        have HS := Lib.hid hS
        clear hM hS
        go_wp2_with fail
        go_ret
        rw [HL.out]
        exact ⟨⟨_, rfl, HS.out⟩, hB6⟩
      · have hlt' : ¬ (0 : Int) < (vm : Int) := by omega
        have HI2 : Hid ((0 < 0 + 1 → L2 = []) ∧ (1 < 0 + 1 → L1 = [])) := Lib.hid ⟨fun _ => by
          rw [hM, show vm = 0 by omega]; rfl, fun h => absurd h (by decide)⟩
        clear hM hS
        go_wp2_with fail
        go_roundw
        case rel => exact ⟨0 + 1, by decide, by go_num, hBr.trans (hb6.mono hBr.size), HI2⟩
        case measure => simp [intOf]
    · have y5 := Below.cell_some hBr z5
      have HI1 := HI.out.1 (by decide)
      replace hcp := Lib.hid hcp
      replace hd1r := Lib.hid hd1r
      replace hd2r := Lib.hid hd2r
      replace HI1 := Lib.hid HI1
      go_wp2_with fail
      refine hcp.out.mono ?_
      rintro e w5 h5
      obtain ⟨u, rfl, ⟨ua, um, uc, rfl⟩, hdel⟩ := hd1r.out w5 e h5
      replace hdel := Lib.hid hdel
      clear h5 hcp
      go_wp2_with fail
      refine hdel.out.mono ?_
      rintro e w6 ⟨⟨v', rfl, hS⟩, hb6⟩
      obtain ⟨va, vm, vc, M, rfl, hM, _⟩ := id hS
      have hB6 := below_step hB hb6
      by_cases hlt : 0 < vm
      · have hlt' : (0 : Int) < (vm : Int) := by omega
        have HL : Hid (LK = L1) := Lib.hid (by
          rw [HLK.out, if_neg (fun h => h HI1.out), if_pos (fun e => by have := congrArg List.length (hM.symm.trans e); rw [lstF_length] at this; simp at this; omega)])
        have HS := Lib.hid hS
        clear hM hS
        go_wp2_with fail
        go_ret
        rw [HL.out]
        exact ⟨⟨_, rfl, HS.out⟩, hB6⟩
      · have hlt' : ¬ (0 : Int) < (vm : Int) := by omega
        have HI2 : Hid ((0 < 1 + 1 → L2 = []) ∧ (1 < 1 + 1 → L1 = [])) := Lib.hid ⟨fun _ => HI1.out, fun _ => by
          rw [hM, show vm = 0 by omega]; rfl⟩
        clear hM hS
        go_wp2_with fail
        go_roundw
        case rel => exact ⟨1 + 1, by decide, by go_num, hBr.trans (hb6.mono hBr.size), HI2⟩
        case measure => simp [intOf]
    · have HL : Hid (LK = l) := Lib.hid (by
        rw [HLK.out, if_neg (fun h => h (HI.out.1 (by decide))), if_neg (fun h => h (HI.out.2 (by decide)))])
      clear hcp hd1r hd2r
      go_wp2_with fail
      go_ret
      rw [HL.out]
      exact ⟨⟨_, rfl, HV.out.below hB⟩, hB⟩
end Go.Proofs.Pw
