/- Ge: walks and plain laws, joined: IdxFind Own IdxVers Kleene RefP RefP2 RefG Repl PatRest RefPaths PinMath. Conditions: at each theorem. -/
import Derived.Test.YtmnojbbcaboagaaGreatDoorGej
import Derived.Test.YtmnojbbcaboagaaGreatDoorGel
import Derived.Test.YtmnojbbcaboagaaGreatDoorGei
import Derived.Test.YtmnojbbcaboagaaGreatDoorGeh
import Derived.Deep.AppendLies
import Derived.Deep.RegionLaw
import Derived.Test.YtmnojbbcaboagaaGreatDoorGec
import Derived.Test.YtmnojbbcaboagaaGreatDoorGea
import Derived.Lib.Replace
import Derived.Lib.ReplaceLaws
import Derived.Lib.CountLaws
import Derived.Lib.IndexLaws
import Derived.Test.YtmnojbbcaboagaaGreatDoorGef
import Derived.Test.YtmnojbbcaboagaaGreatDoorGeb
import Derived.Deep.OwnRows
import Derived.Test.YtmnojbbcaboagaaGreatDoorShelf
import Derived.Test.YtmnojbbcaboagaaGreatDoorGed

namespace Go.Proofs.Pw
open Go.RowKit
open Go.Lib hiding intOf
theorem EntsIn.forms {w : World} {a n cap P V R K B Rv Kv} (h : EntsIn w a n cap P V R K B Rv Kv) {j : Nat} (hj : j < n) : ∃ a1 n1 c1 a2 n2 c2, Rv j = .slice a1 n1 c1 ∧ Kv j = .slice a2 n2 c2 := by
  obtain ⟨a1, n1, c1, _, _, e1, _⟩ := h.reqs j hj
  obtain ⟨a2, n2, c2, _, e2, _⟩ := h.packs j hj
  exact ⟨_, _, _, _, _, _, e1, e2⟩
def TestsE (g : Nat) (lb : Array Value) (p : Nat → Bool) (n : Nat) (P V : Nat → ByteArray) (Rv Kv : Nat → Value) (B : Nat → Bool) (base : Nat) (w : World) : Prop :=
  ∀ W, Below base w W → ∀ j, j < n → Calls Tryz.prog g (#[.agg #[.string (P j), .string (V j), Rv j, Kv j, .bool (B j)]] ++ lb) W fun e w'' => e = .returned (.bool (p j)) ∧ Below W.heap.size W w''
set_option maxHeartbeats 1000000 in
set_option maxRecDepth 100000 in
theorem indexFuncE_calls (g : Nat) (lb : Array Value) (eg : ∀ args w, (callFunc g args).run Tryz.prog w = .ok (.enter g args) w) (p : Nat → Bool) (q : En → Bool) (a : Option Addr) (n cap base : Nat) (P V : Nat → ByteArray) (R : Nat → List Md) (K : Nat → List Str) (B : Nat → Bool) (Rv Kv : Nat → Value) (w : World) (hn : n ≤ 1000000) (hbase : base ≤ w.heap.size)
    (hc : EntsIn w a n cap P V R K B Rv Kv) (hq : ∀ j, j < n → q (enAt (enF n P V R K B) j) = p j) (hT : TestsE g lb p n P V Rv Kv B base w) :
    Calls Tryz.prog 183 #[.slice a n cap, .func (.func g) #[] lb] w fun e w' => e = .returned (.int .i64 (findI q (enF n P V R K B))) ∧ Below w.heap.size w w' := by
  replace hc := Lib.hid hc
  replace hT := Lib.hid hT
  replace hq := Lib.hid hq
  go_enter Tryz.func183, Tryz.ntmps183
  go_wp2_with fail
  go_loopw [8] (fun i wr => ∃ k : Nat, k ≤ n ∧ i = .int .i64 k ∧ Below w.heap.size w wr ∧ Hid (∀ j, j < k → p j = false)) (fun i _ => n - (intOf i).toNat)
  case atStart => exact ⟨0, by omega, rfl, Below.refl _ _, Lib.hid (fun j hj => absurd hj (Nat.not_lt_zero _))⟩
  case round =>
    obtain ⟨k, hk, rfl, hb, HA⟩ := hrel
    by_cases hlt : k < n
    · obtain ⟨b1, o1, rfl, hcell⟩ := hc.out.at_ k hlt
      obtain ⟨c0, c1, c2, c3, c4⟩ := hcell.below hb
      have hcall := hT.out wr (hb.mono hbase) k hlt
      have hget := enF_get n P V R K B k hlt
      obtain ⟨a1, n1, s1, a2, n2, s2, e1, e2⟩ := hc.out.forms hlt
      rw [e1] at c2
      rw [e2] at c3
      rw [e1, e2] at hcall
      clear hcell
      cases hp : p k with
      | true =>
        have HR : Hid (findI q (enF n P V R K B) = k) := Lib.hid (findI_hit hget (by have := hq.out k hlt; rw [enAt_enF hlt] at this; rw [this, hp]) (fun j y hj hy => by
          rw [enF_get n P V R K B j (by omega)] at hy
          have h1 := hq.out j (by omega)
          rw [enAt_enF (by omega)] at h1
          cases hy
          rw [h1]; exact HA.out j hj))
        rw [hp] at hcall
        clear hp hget e1 e2
        go_wp2_with (go_at_fn g; refine hcall.mono ?_; rintro e w' ⟨rfl, hb2⟩)
        go_ret
        rw [HR.out]
        exact ⟨rfl, below_step hb hb2⟩
      | false =>
        have HN : Hid (∀ j, j < k + 1 → p j = false) := Lib.hid (fun j hj => by
          by_cases e : j = k
          · subst e; exact hp
          · exact HA.out j (by omega))
        rw [hp] at hcall
        clear hp hget e1 e2
        go_wp2_with (go_at_fn g; refine hcall.mono ?_; rintro e w' ⟨rfl, hb2⟩)
        go_roundw
        case rel => exact ⟨k + 1, by omega, by go_num, below_step hb hb2, HN⟩
        case measure => simp [intOf]; omega
    · obtain rfl : k = n := by omega
      have HR : Hid (findI q (enF k P V R K B) = -1) := Lib.hid (findI_none (fun j y hy => by
        have hj : j < k := by have := (List.getElem?_eq_some_iff.1 hy).1; rwa [enF_length] at this
        have h1 := hq.out j hj
        rw [enAt_enF hj] at h1
        rw [enF_get k P V R K B j hj] at hy
        cases hy
        rw [h1]; exact HA.out j hj))
      go_wp2_with fail
      go_ret
      rw [HR.out]
      exact ⟨rfl, hb⟩
theorem Tryz.enters_ifind1 : ∀ args w, (callFunc 184 args).run Tryz.prog w = .ok (.enter 184 args) w := Go.Proofs.enters_of Tryz.func184 (by kernel_rfl) rfl
theorem idxFind1_calls (p v s u : ByteArray) (a1 a2 : Option Addr) (n1 c1 n2 c2 : Nat) (bk : Bool) (b : Nat) (w : World) (h0 : w.cell? ⟨b, 0, none⟩ = some (.string s)) (h1 : w.cell? ⟨b, 1, none⟩ = some (.string u)) :
    Calls Tryz.prog 184 #[.agg #[.string p, .string v, .slice a1 n1 c1, .slice a2 n2 c2, .bool bk], .pointer (some ⟨b, 0, none⟩)] w fun e w' => e = .returned (.bool (decide (p = s ∧ v = u))) ∧ Below w.heap.size w w' := by
  have hb := below_alloc w (.cells #[.string p, .string v, .slice a1 n1 c1, .slice a2 n2 c2, .bool bk] 62)
  have d0 := Below.cell_some hb h0
  have d1 := Below.cell_some hb h1
  have hg := Tryz.md_guard
  have hq := md_eql p v s u
  generalize decide (p = s ∧ v = u) = X at hq ⊢
  go_enter Tryz.func184, Tryz.ntmps184
  go_wp2_with fail
  go_ret
  exact ⟨rfl, hb⟩
theorem idxFind_in (a : Option Addr) (n cap : Nat) (P V : Nat → ByteArray) (R : Nat → List Md) (K : Nat → List Str) (B : Nat → Bool) (Rv Kv : Nat → Value) (p v : ByteArray) (w : World) (h : EntsIn w a n cap P V R K B Rv Kv) (hl : n ≤ 1000000) :
    Calls Tryz.prog 125 #[.slice a n cap, .agg #[.string p, .string v]] w fun e w' => e = .returned (.int .i64 (findE (enF n P V R K B) (p.data.toList, v.data.toList))) ∧ Below w.heap.size w w' := by
  have hb := below_alloc w (.cells #[.string p, .string v] 47)
  have hz := box2_alloc w (.string p) (.string v) 47
  have hi := indexFuncE_calls 184 #[.pointer (some ⟨w.heap.size, 0, none⟩)] Tryz.enters_ifind1 (fun j => decide (P j = p ∧ V j = v)) (isMd (p.data.toList, v.data.toList)) a n cap (w.alloc (.cells #[.string p, .string v] 47)).heap.size P V R K B Rv Kv (w.alloc (.cells #[.string p, .string v] 47)) hl (Nat.le_refl _) (h.below hb)
    (fun j hj => by
      rw [enAt_enF hj]
      unfold isMd
      rw [Bool.eq_iff_iff, decide_eq_true_iff, decide_eq_true_iff]
      exact bytes_pair)
    (fun W hW j hj => by
      obtain ⟨a1, n1, s1, a2, n2, s2, e1, e2⟩ := h.forms hj
      rw [e1, e2]
      exact idxFind1_calls (P j) (V j) p v a1 a2 n1 s1 n2 s2 (B j) w.heap.size W (Below.cell_some hW hz.c0) (Below.cell_some hW hz.c1))
  show Calls _ _ _ _ fun e w' => e = .returned (.int .i64 (findI (isMd (p.data.toList, v.data.toList)) (enF n P V R K B))) ∧ Below w.heap.size w w'
  generalize findI (isMd (p.data.toList, v.data.toList)) (enF n P V R K B) = x at hi ⊢
  replace hi := Lib.hid hi
  clear hz h
  go_enter Tryz.func125, Tryz.ntmps125
  go_wp2_with fail
  refine hi.out.mono ?_
  rintro e w1 ⟨rfl, hb1⟩
  go_wp2_with fail
  go_ret
  exact ⟨rfl, below_step hb hb1⟩
end Go.Proofs.Pw

namespace Go.Proofs.Pw
open Go.RowKit
open Go.Lib hiding intOf
theorem ownsRow_kept {w w' : World} {base e size n : Nat} {v : Value} {xs : List Value} (h : w.ownsRow base e size v n xs) (hb : Below w.heap.size w w') : w'.ownsRow base e size v n xs := by
  refine ⟨h.1, ?_⟩
  rcases h.2 with h2 | ⟨g, c, cur, h1, h2, h3, h4⟩
  · exact .inl h2
  · exact .inr ⟨g, c, cur, h1, h2, (hb.block g (Array.getElem?_eq_some_iff.1 h3).1).trans h3, h4⟩
theorem _root_.Go.World.ownsRow.below {w w' : World} {base e size n : Nat} {v : Value} {xs : List Value} (h : w.ownsRow base e size v n xs) (hb : Below w.heap.size w w') : w'.ownsRow base e size v n xs := ownsRow_kept h hb
theorem ownsRow_set {w : World} {base e k n b j : Nat} {v : Value} {xs : List Value} (h : w.ownsRow base e k v n xs) (hn : v.ownBlock ≠ some b) (u : Value) : (w.setCell ⟨b, j, none⟩ u).ownsRow base e k v n xs := by
  refine ⟨h.1, ?_⟩
  rcases h.2 with h2 | ⟨g, c, cur, rfl, h2, h3, h4⟩
  · exact .inl h2
  · have hg : g ≠ b := fun e => hn (by rw [e]; rfl)
    exact .inr ⟨g, c, cur, rfl, h2, (Go.Deep.blk_setCell_other _ _ _ _ hg).trans h3, h4⟩
theorem cell_two_new (w : World) (x y : ByteArray) (t : TypeId) : ∀ j u, ([.string x, .string y] : List Value)[j]? = some u → (w.alloc (.cells #[.string x, .string y] t)).cell? ((⟨w.heap.size, 0, none⟩ : Addr).add j) = some u :=
  World.news_of_block (cs := #[.string x, .string y]) (Go.Deep.blk_alloc_new w _)
theorem mdVs_snoc (l : List (ByteArray × ByteArray)) (x y : ByteArray) : mdVs l ++ [.string x, .string y] = mdVs (l ++ [(x, y)]) := by rw [mdVs_append]; rfl
theorem apart_row {u o : Value} (h : ∀ b, o.ownBlock = some b → u.ownBlock ≠ some b) : u.ownBlock = none ∨ u.ownBlock ≠ o.ownBlock := by
  by_cases hu : u.ownBlock = none
  · exact .inl hu
  · refine .inr (fun e => ?_)
    cases ho : o.ownBlock with
    | none => exact hu (e.trans ho)
    | some b => exact h b ho (e.trans ho)
theorem own_form {w : World} {base e k n : Nat} {v : Value} {xs : List Value} (h : w.ownsRow base e k v n xs) : ∃ a m c, v = .slice a m c := by
  rcases h.2 with ⟨rfl, _⟩ | ⟨g, cap, cur, rfl, _⟩
  · exact ⟨_, _, _, rfl⟩
  · exact ⟨_, _, _, rfl⟩
theorem own_ne {w : World} {base e k n b : Nat} {v : Value} {xs : List Value} (h : w.ownsRow base e k v n xs) (hb : b < base) : v.ownBlock ≠ some b := fun e => by
  have := (h.lt b e).1
  omega
theorem fault_form {A : Nat → Addr} {w : World} {v : Value} {r : Nat × Int} (h : FaultAt A w v r) : (r.1 = 0 ∧ v = .nilIface) ∨ (r.1 ≠ 0 ∧ ∃ t q, v = .iface t (.pointer q)) := by
  rcases h with h | h | ⟨h, b, rfl, _⟩
  · exact .inl ⟨h.1, h.2.2⟩
  · refine .inr ⟨h.1, ?_⟩
    rw [h.2.2, errV_pos A h.1]; exact ⟨_, _, rfl⟩
  · exact .inr ⟨h, _, _, rfl⟩
theorem ModsAt.cells {w : World} {v : Value} {l : List Md} (h : ModsAt w v l) : ∃ a c P V, v = .slice a l.length c ∧ l = mdF l.length P V ∧ ∀ j, j < l.length → ∃ b o, a = some ⟨b, o, none⟩ ∧ w.cell? ⟨b, o + j * 2, none⟩ = some (.string (P j)) ∧ w.cell? ⟨b, o + j * 2 + 1, none⟩ = some (.string (V j)) := by
  obtain ⟨a, n, cap, P, V, rfl, rfl, h3, h4, h5⟩ := h
  rw [mdF_length]
  exact ⟨a, cap, P, V, rfl, rfl, h5⟩
theorem ModsAt.cell {w : World} {v : Value} {l : List Md} {k : Nat} {p q : ByteArray} (h : ModsAt w v l) (hk : l[k]? = some (p.data.toList, q.data.toList)) : ∃ b o c, v = .slice (some ⟨b, o, none⟩) l.length c ∧ k < l.length ∧ w.cell? ⟨b, o + k * 2, none⟩ = some (.string p) ∧ w.cell? ⟨b, o + k * 2 + 1, none⟩ = some (.string q) := by
  obtain ⟨a, n, cap, P, V, rfl, rfl, h3, h4, h5⟩ := h
  have hl : k < n := by have := (List.getElem?_eq_some_iff.1 hk).1; rwa [mdF_length] at this
  obtain ⟨b, o, rfl, e1, e2⟩ := h5 k hl
  rw [mdF_get n P V k hl] at hk
  have := bytes_pair.1 (Option.some.inj hk)
  rw [this.1] at e1
  rw [this.2] at e2
  rw [mdF_length]
  exact ⟨b, o, cap, rfl, hl, e1, e2⟩
end Go.Proofs.Pw

namespace Go.Proofs.Pw
open Go.RowKit
open Go.Lib hiding intOf
theorem enF_take_succ {n : Nat} {P V : Nat → ByteArray} {R : Nat → List Md} {K : Nat → List Str} {B : Nat → Bool} {k : Nat} (hk : k < n) : (enF n P V R K B).take (k + 1) = (enF n P V R K B).take k ++ [⟨((P k).data.toList, (V k).data.toList), R k, K k, B k⟩] := by
  rw [List.take_add_one, enF_get n P V R K B k hk]; rfl
theorem enF_take_all (n : Nat) (P V : Nat → ByteArray) (R : Nat → List Md) (K : Nat → List Str) (B : Nat → Bool) : (enF n P V R K B).take n = enF n P V R K B := List.take_of_length_le (by rw [enF_length]; exact Nat.le_refl _)
theorem versL_size {l : List En} {p : Str} (h : ShortI l) : (versL l p).length ≤ 1000000 ∧ ∀ x ∈ versL l p, x.length ≤ 1000000 := by
  refine ⟨Nat.le_trans (versL_len l p) h.len, fun x hx => ?_⟩
  obtain ⟨e, he, e1⟩ := versL_mem.1 hx
  have := (h.mds e he).2
  rw [e1] at this
  exact this
set_option maxHeartbeats 4000000 in
set_option maxRecDepth 100000 in
theorem idxVersions_in (ks : List Nat) (A : Nat → Addr) (a : Option Addr) (n cap : Nat) (P V : Nat → ByteArray) (R : Nat → List Md) (K : Nat → List Str) (Bk : Nat → Bool) (Rv Kv : Nat → Value) (p : ByteArray) (w : World) (hE : EnvP ks A w) (h : EntsIn w a n cap P V R K Bk Rv Kv) (hs : ShortI (enF n P V R K Bk)) :
    Calls Tryz.prog 134 #[.slice a n cap, .string p] w fun e w' => (∃ v, e = .returned v ∧ StrsAt w' v (vsort (versL (enF n P V R K Bk) p.data.toList))) ∧ Below w.heap.size w w' := by
  obtain ⟨i0, hi, hz0, hz1, hz2⟩ := info_parts Tryz.infoString
  have hn : n ≤ 1000000 := by have := hs.len; rwa [enF_length] at this
  have H := Lib.hid h
  have HE := Lib.hid hE
  have HSZ := Lib.hid (versL_size (p := p.data.toList) hs)
  clear h hs hE
  go_enter Tryz.func134, Tryz.ntmps134
  go_wp2_with fail
  go_loopw [5, 10] (fun o i wr => ∃ (k : Nat) (L : List ByteArray), k ≤ n ∧ i = .int .i64 k ∧ Hid (wr.ownsRow w.heap.size 9 1 o L.length (strVs L)) ∧ L.length ≤ k ∧ Hid (strTs L = versL ((enF n P V R K Bk).take k) p.data.toList) ∧ Below w.heap.size w wr) (fun _ i _ => n - (intOf i).toNat)
  case atStart => exact ⟨0, [], Nat.zero_le _, rfl, Lib.hid (World.ownsRow_nil _ _ _ _), Nat.le_refl _, Lib.hid rfl, Below.refl _ _⟩
  case round =>
    obtain ⟨k, L, hk, rfl, hO, hLk, hT, hBr⟩ := hrel
    obtain ⟨ao, no, co, rfl⟩ := own_form hO.out
    by_cases hlt : k < n
    · have hkn : (k : Int) < (n : Int) := by omega
      obtain ⟨b1, o1, ea, hcell⟩ := H.out.at_ k hlt
      obtain ⟨c0, c1, c2, c3, c4⟩ := hcell.below hBr
      obtain ⟨a1, n1, s1, a2, n2, s2, e1, e2⟩ := H.out.forms hlt
      rw [e1] at c2
      rw [e2] at c3
      subst ea
      have hba := below_alloc wr (.cells #[.string (P k), .string (V k), .slice a1 n1 s1, .slice a2 n2 s2, .bool (Bk k)] 62)
      have y0 : (wr.alloc (.cells #[.string (P k), .string (V k), .slice a1 n1 s1, .slice a2 n2 s2, .bool (Bk k)] 62)).cell? ⟨wr.heap.size, 0, none⟩ = some (.string (P k)) := by simp
      have y1 : (wr.alloc (.cells #[.string (P k), .string (V k), .slice a1 n1 s1, .slice a2 n2 s2, .bool (Bk k)] 62)).cell? ⟨wr.heap.size, 1, none⟩ = some (.string (V k)) := by simp
      have hO2 := hO.out.below hba
      have hB2 := below_step hBr hba
      obtain ⟨w2, hW⟩ : ∃ W, wr.alloc (.cells #[.string (P k), .string (V k), .slice a1 n1 s1, .slice a2 n2 s2, .bool (Bk k)] 62) = W := ⟨_, rfl⟩
      rw [hW] at y0 y1 hO2 hB2
      replace hO2 := Lib.hid hO2
      clear hba
      have hTk : versL ((enF n P V R K Bk).take (k + 1)) p.data.toList = versL ((enF n P V R K Bk).take k) p.data.toList ++ (if (P k).data.toList = p.data.toList then [(V k).data.toList] else []) := by
        rw [enF_take_succ hlt, versL_snoc]
      by_cases hpe : (P k).data.toList = p.data.toList
      · have hp0 := bytes_eq.1 hpe
        have hp1 : ((P k).toList == p.toList) = true := by rw [hp0]; simp
        have HN : Hid (strTs (L ++ [V k]) = versL ((enF n P V R K Bk).take (k + 1)) p.data.toList) := Lib.hid (by rw [hTk, if_pos hpe, strTs_snoc, hT.out])
        clear hcell e1 e2 hT hTk hpe hp0 hO
        go_wp2_with (at_builtin; refine wpList_append_own _ rfl _ _ 26 rfl w.heap.size 9 i0 (.string ⟨#[]⟩) 1 16 Tryz.underlying26 hi hz0 hz1 hz2 rfl (by decide) _ _ _ rfl (hO2.out.alloc _) ⟨w2.heap.size, 0, none⟩ 1 1 [.string (V k)] rfl rfl (cell_one_new _ _ _) (fun x hx => by simp at hx; subst hx; rfl) (by unfold maxLen; omega) (by omega) (by have := hB2.size; simp; omega) ?_; intro o' w4 hown4 hgrow4 _)
        go_roundw
        case rel =>
          refine ⟨k + 1, L ++ [V k], by omega, by go_num, Lib.hid ?_, by simp; omega, HN, ?_⟩
          · rw [List.length_append, List.length_singleton, ← strVs_snoc]; exact hown4
          · exact (hB2.alloc hB2.size _).grown hgrow4 (by have := hB2.size; simp; omega) (fun q hq => (hO2.out.lt q hq).1)
        case measure => simp [intOf]; omega
      · have hp1 : ((P k).toList == p.toList) = false := by rw [toList_data, toList_data]; exact beq_eq_false_iff_ne.2 hpe
        have HN : Hid (strTs L = versL ((enF n P V R K Bk).take (k + 1)) p.data.toList) := Lib.hid (by rw [hTk, if_neg hpe, List.append_nil, hT.out])
        clear hcell e1 e2 hT hTk hpe hO
        go_wp2_with fail
        go_roundw
        case rel => exact ⟨k + 1, L, by omega, by go_num, hO2, by omega, HN, hB2⟩
        case measure => simp [intOf]; omega
    · have hT2 : strTs L = versL (enF n P V R K Bk) p.data.toList := by rw [hT.out, show k = n by omega, enF_take_all]
      have hSo := strsAt_own hO.out
      rw [hT2] at hSo
      have hso := verSort_calls ks A _ _ wr (HE.out.below hBr) hSo HSZ.out.1 (fun x hx => by have := HSZ.out.2 x hx; omega)
      have hnk : ¬ (k : Int) < (n : Int) := by omega
      replace hso := Lib.hid hso
      clear hT hT2 hSo hO hlt
      go_wp2_with fail
      refine hso.out.mono ?_
      rintro e w5 ⟨⟨v5, rfl, hv5⟩, hb⟩
      go_wp2_with fail
      go_ret
      exact ⟨⟨_, rfl, hv5⟩, below_step hBr hb⟩
end Go.Proofs.Pw

namespace Go.Proofs.Pw
open Go.Lib hiding intOf
def toks : Str → List (Option UInt8)
  | [] => []
  | c :: r => if hasPrefix (c :: r) dots then none :: toks (r.drop 2) else some c :: toks r
termination_by s => s.length
decreasing_by
  · simp only [List.length_drop, List.length_cons]; omega
  · simp only [List.length_cons]; omega
theorem toks_nil : toks [] = [] := by rw [toks]
theorem toks_hitc {c : UInt8} {r : Str} (h : hasPrefix (c :: r) dots = true) : toks (c :: r) = none :: toks (r.drop 2) := by rw [toks, if_pos h]
theorem toks_missc {c : UInt8} {r : Str} (h : hasPrefix (c :: r) dots = false) : toks (c :: r) = some c :: toks r := by
  rw [toks, if_neg (by rw [h]; decide)]
theorem index_spec : ∀ (s q : Str) (k : Nat), index s q = k → s = s.take k ++ (q ++ s.drop (k + q.length))
  | [], q, k, h => by
    unfold index at h
    split at h
    · rename_i hq
      have : q = [] := by simpa using hq
      subst this
      have : k = 0 := by omega
      subst this; rfl
    · omega
  | b :: l, q, k, h => by
    unfold index at h
    split at h
    · rename_i hp
      have : k = 0 := by omega
      subst this
      obtain ⟨t, ht⟩ := List.isPrefixOf_iff_prefix.1 hp
      rw [← ht]; simp
    · split at h
      · omega
      · rename_i hm
        have hm' : index l q ≠ -1 := fun e => hm (beq_iff_eq.2 e)
        have hge := index_ge l q
        obtain ⟨j, rfl⟩ : ∃ j, k = j + 1 := ⟨k - 1, by omega⟩
        have := index_spec l q j (by omega)
        rw [show j + 1 + q.length = (j + q.length) + 1 by omega, List.take_succ_cons, List.drop_succ_cons, List.cons_append, ← this]
theorem index_le : ∀ (u q v : Str), 0 ≤ index (u ++ (q ++ v)) q ∧ index (u ++ (q ++ v)) q ≤ u.length
  | [], q, v => by
    have hp : q.isPrefixOf (q ++ v) = true := List.isPrefixOf_iff_prefix.2 ⟨v, rfl⟩
    rw [List.nil_append]
    cases hs : q ++ v with
    | nil =>
      obtain ⟨rfl, rfl⟩ := List.append_eq_nil_iff.1 hs
      exact ⟨by decide, by decide⟩
    | cons b l =>
      rw [hs] at hp
      unfold index
      rw [if_pos hp]
      exact ⟨Int.le_refl _, Int.le_refl _⟩
  | b :: u, q, v => by
    have ih := index_le u q v
    rw [List.cons_append]
    unfold index
    split
    · exact ⟨Int.le_refl _, by omega⟩
    · split
      · rename_i e
        have e := beq_iff_eq.1 e
        omega
      · rw [List.length_cons]; omega
theorem toks_none : ∀ (p : Str), index p dots = -1 → toks p = p.map some
  | [], _ => toks_nil
  | c :: r, h => by
    unfold index at h
    split at h
    · omega
    · rename_i hp
      have hge := index_ge r dots
      split at h
      · rename_i h1
        rw [toks_missc (by unfold hasPrefix; exact Bool.eq_false_iff.2 hp), toks_none r (beq_iff_eq.1 h1), List.map_cons]
      · rename_i h1
        have h1 : index r dots ≠ -1 := fun e => h1 (beq_iff_eq.2 e)
        omega
theorem toks_hit : ∀ (p : Str) (i : Nat), index p dots = i → toks p = (p.take i).map some ++ none :: toks (p.drop (i + 3))
  | [], i, h => by
    have : index [] dots = -1 := by decide
    omega
  | c :: r, i, h => by
    unfold index at h
    split at h
    · rename_i hp
      have : i = 0 := by omega
      subst this
      rw [toks_hitc (by unfold hasPrefix; exact hp)]; rfl
    · rename_i hp
      have hge := index_ge r dots
      split at h
      · omega
      · rename_i hm
        have hm' : index r dots ≠ -1 := fun e => hm (beq_iff_eq.2 e)
        obtain ⟨j, rfl⟩ : ∃ j, i = j + 1 := ⟨i - 1, by omega⟩
        rw [toks_missc (by unfold hasPrefix; exact Bool.eq_false_iff.2 hp), toks_hit r j (by omega)]; rfl
def xs (T : List (Option UInt8)) : Str := T.map (·.getD 120)
theorem repl_toks : ∀ (n : Nat) (p : Str), p.length ≤ n → replaceK dots [120] (count p dots) p = xs (toks p) := by
  intro n
  induction n with
  | zero =>
    intro p hp
    obtain rfl : p = [] := List.length_eq_zero_iff.1 (by omega)
    rw [count_miss (by decide), toks_nil]; rfl
  | succ n ih =>
    intro p hp
    rcases Int.lt_or_le (index p dots) 0 with hi | hi
    · have hi : index p dots = -1 := by have := index_ge p dots; omega
      rw [count_miss hi, toks_none p hi, replaceK]
      simp [xs, Function.comp_def]
    · obtain ⟨i, hi⟩ : ∃ i : Nat, index p dots = i := ⟨(index p dots).toNat, by omega⟩
      have hpl : p.length ≠ 0 := by
        intro e
        obtain rfl := List.length_eq_zero_iff.1 e
        have : index [] dots = -1 := by decide
        omega
      rw [count_hit (by decide) hi, Nat.add_comm 1, replaceK_hit _ _ _ _ i hi, toks_hit p i hi, show dots.length = 3 from rfl, ih _ (by rw [List.length_drop]; omega)]
      simp [xs, Function.comp_def]
theorem repl_all (p : Str) : replaceAll p dots [120] = xs (toks p) := by
  unfold replaceAll replace replaceNum
  rw [if_neg (by decide), if_pos (by left; decide)]
  exact repl_toks p.length p (Nat.le_refl _)
theorem toks_len : ∀ (n : Nat) (p : Str), p.length ≤ n → (toks p).length ≤ p.length := by
  intro n
  induction n with
  | zero =>
    intro p hp
    obtain rfl : p = [] := List.length_eq_zero_iff.1 (by omega)
    rw [toks_nil]; exact Nat.le_refl _
  | succ n ih =>
    intro p hp
    cases p with
    | nil => rw [toks_nil]; exact Nat.le_refl _
    | cons c r =>
      rw [List.length_cons] at hp ⊢
      cases h : hasPrefix (c :: r) dots with
      | true =>
        rw [toks_hitc h, List.length_cons]
        have := ih (r.drop 2) (by rw [List.length_drop]; omega)
        rw [List.length_drop] at this
        omega
      | false =>
        rw [toks_missc h, List.length_cons]
        have := ih r (by omega)
        omega
theorem xs_len (p : Str) : (xs (toks p)).length ≤ p.length := by
  unfold xs; rw [List.length_map]; exact toks_len p.length p (Nat.le_refl _)
def patErrOf (e : Nat) : Nat := if e = 4 then 0 else e
end Go.Proofs.Pw

namespace Go.Proofs.Pw
open Go.RowKit
open Go.Lib hiding intOf
end Go.Proofs.Pw

namespace Go.Proofs.Pw
open Go.RowKit
open Go.Lib hiding intOf
theorem pathErr_elem {s x : Str} (hm : x ∈ split s [47]) (h : elemOk x = false) : pathErr s = 1 := by
  unfold pathErr
  simp only
  rw [if_pos (List.any_eq_true.2 ⟨x, hm, by rw [h]; rfl⟩)]
end Go.Proofs.Pw

namespace Go.Proofs.Pw
open Go.RowKit
open Go.Lib hiding intOf
theorem Tryz.infoBool : (Tryz.prog.info? 4).map (fun i => (i.zero, i.size, i.bytes)) = some (some (.bool false), 1, 1) := by kernel_rfl
end Go.Proofs.Pw

namespace Go.Proofs.Pw
open Go.RowKit
open Go.Lib hiding intOf
theorem replAll_calls (p : ByteArray) (w : World) (hE : EnvM w) (hp : p.size ≤ 1000000) :
    Calls Tryz.prog 84 #[.string p, .string ⟨#[46, 46, 46]⟩, .string ⟨#[120]⟩] w fun e w' => e = .returned (.string ⟨(xs (toks p.data.toList)).toArray⟩) ∧ Below w.heap.size w w' := by
  obtain ⟨m, hm⟩ := hE.maxLen
  have hmul := countB_mul_le (⟨#[46, 46, 46]⟩ : ByteArray) (by decide) p.size p (Nat.le_refl _)
  have h := Tryz.strings_ReplaceAll p ⟨#[46, 46, 46]⟩ ⟨#[120]⟩ m w (by omega) hm (by decide) (by
    have : (⟨#[46, 46, 46]⟩ : ByteArray).size = 3 := rfl
    rw [this] at hmul
    show p.size + countB p ⟨#[46, 46, 46]⟩ * 1 ≤ _
    omega)
  rw [show (⟨#[46, 46, 46]⟩ : ByteArray).data.toList = dots from rfl, show (⟨#[120]⟩ : ByteArray).data.toList = [120] from rfl, repl_all] at h
  exact h
end Go.Proofs.Pw

namespace Go.Proofs.Pw
open Go.RowKit
open Go.Lib hiding intOf
theorem pathErr_in (p : Str) : pathErr p = 0 ∨ pathErr p = 1 ∨ pathErr p = 2 ∨ pathErr p = 4 := by
  unfold pathErr
  simp only
  split
  · exact .inr (.inl rfl)
  · split
    · exact .inr (.inr (.inl rfl))
    · split
      · exact .inr (.inr (.inr rfl))
      · exact .inl rfl
theorem patCheck_calls (ks : List Nat) (A : Nat → Addr) (h4 : 4 ∈ ks) (p : ByteArray) (w : World) (hE : EnvP ks A w) (hp : p.size ≤ 1000000) :
    Calls Tryz.prog 37 #[.string p] w fun e w' => e = .returned (errV A (patErrOf (pathErr (xs (toks p.data.toList))))) ∧ Below w.heap.size w w' := by
  have hxl := xs_len p.data.toList
  rw [← size_eq] at hxl
  have hr := fun W hW => replAll_calls p W hW hp
  have hc := fun W hW => path_calls ks A h4 ⟨(xs (toks p.data.toList)).toArray⟩ W hW (by rw [size_eq]; show (xs (toks p.data.toList)).length ≤ _; omega)
  rw [show (⟨(xs (toks p.data.toList)).toArray⟩ : ByteArray).data.toList = xs (toks p.data.toList) from rfl] at hc
  have hq4 := pathErr_in (xs (toks p.data.toList))
  generalize xs (toks p.data.toList) = X at hc hr hq4 ⊢
  generalize pathErr X = q at hc hq4 ⊢
  obtain ⟨i0, hi0, hcmp⟩ := Option.map_eq_some_iff.1 Tryz.err_comp
  obtain ⟨j0, hj0, hjs⟩ := Option.map_eq_some_iff.1 Tryz.err_size
  replace hr := Lib.hid hr
  replace hc := Lib.hid hc
  by_cases h0 : q = 0
  · subst h0
    rw [show patErrOf 0 = 0 from rfl]
    have heq := fun W => run_eql_iface_nil_left (P := Tryz.prog) W 328 (.pointer (some (A 4))) Tryz.underlying33
    rw [errV_zero] at hc ⊢
    go_enter Tryz.func37, Tryz.ntmps37
    go_wp2_with fail
    refine (hr.out _ hE.m).mono ?_
    rintro e w1 ⟨rfl, hb1⟩
    have hE1 := hE.below hb1
    go_wp2_with fail
    refine (hc.out _ hE1).mono ?_
    rintro e w2 ⟨rfl, hb2⟩
    have hT := (hE1.below hb2).errs.var 4 h4
    simp only [errG] at hT
    go_wp2_with fail
    go_ret
    exact ⟨rfl, below_step hb1 hb2⟩
  · rw [errV_pos A h0] at hc
    by_cases h4q : q = 4
    · subst h4q
      rw [show patErrOf 4 = 0 from rfl, errV_zero]
      have heq := fun W => run_eql_iface_ptr_same (P := Tryz.prog) W (A 4) Tryz.underlying33 Tryz.underlying328 hi0 hcmp hj0
      go_enter Tryz.func37, Tryz.ntmps37
      go_wp2_with fail
      refine (hr.out _ hE.m).mono ?_
      rintro e w1 ⟨rfl, hb1⟩
      have hE1 := hE.below hb1
      go_wp2_with fail
      refine (hc.out _ hE1).mono ?_
      rintro e w2 ⟨rfl, hb2⟩
      have hT := (hE1.below hb2).errs.var 4 h4
      simp only [errG] at hT
      go_wp2_with fail
      go_ret
      exact ⟨rfl, below_step hb1 hb2⟩
    · rw [show patErrOf q = q from if_neg h4q, errV_pos A h0]
      have hqk : q ∈ ks := by
        rcases hq4 with h | h | h | h
        · exact absurd h h0
        · rw [h]; exact hE.has.1
        · rw [h]; exact hE.has.2
        · exact absurd h h4q
      have hne : A q ≠ A 4 := fun e => h4q (hE.errs.inj _ hqk _ h4 e)
      go_enter Tryz.func37, Tryz.ntmps37
      go_wp2_with fail
      refine (hr.out _ hE.m).mono ?_
      rintro e w1 ⟨rfl, hb1⟩
      have hE1 := hE.below hb1
      go_wp2_with fail
      refine (hc.out _ hE1).mono ?_
      rintro e w2 ⟨rfl, hb2⟩
      have hE2 := hE1.below hb2
      have hT := hE2.errs.var 4 h4
      simp only [errG] at hT
      obtain ⟨ca, ta, ha⟩ := hE2.errs.row q hqk
      obtain ⟨cb, tb, hb⟩ := hE2.errs.row 4 h4
      have heq := run_eql_iface_ptr_other (P := Tryz.prog) w2 Tryz.underlying33 Tryz.underlying328 hi0 hcmp hj0 (by rw [hjs]; decide) hne ha hb
      go_wp2_with fail
      go_ret
      exact ⟨rfl, below_step hb1 hb2⟩
end Go.Proofs.Pw

namespace Go.Proofs.Pw
open Go.RowKit
open Go.Lib hiding intOf
def wildL (b : List Md) (p : Str) : List Str := (b.filter fun m => pMatch p m.1).map (·.1)
def pathsO (l : List En) (b : List Md) (p : Str) : List Str := if contains p dots then wildL b p else if vsort (versL l p) = [] then [] else [p]
def pathsE (l : List En) (p : Str) : Nat := if contains p dots then 0 else if vsort (versL l p) = [] then 5 else 0
end Go.Proofs.Pw

namespace Go.Proofs.Pw
open Go.Lib hiding intOf
structure PinM where
  path : Str
  ver : Str
  wild : Bool
deriving DecidableEq
def pinAt (l : List PinM) (p : Str) : Option PinM := l.find? fun x => decide (x.path = p)
def pinBad (x p : PinM) : Bool := decide (x.wild = p.wild ∧ x.ver ≠ p.ver)
def pinOne (x p : PinM) : PinM := if x.wild = true ∧ p.wild = false then p else x
def pinAdd : List PinM → PinM → Option (List PinM)
  | [], p => some [p]
  | x :: r, p =>
    if x.path = p.path then (if (x.wild = true ∧ p.wild = false) ∨ ¬ pinBad x p = true then some (pinOne x p :: r) else none)
    else (pinAdd r p).map (x :: ·)
theorem pinAdd_paths : ∀ {l k : List PinM} {p : PinM}, pinAdd l p = some k → k.map (·.path) = if p.path ∈ l.map (·.path) then l.map (·.path) else l.map (·.path) ++ [p.path]
  | [], k, p, h => by
    rw [pinAdd] at h
    rw [← Option.some.inj h]
    simp
  | x :: r, k, p, h => by
    rw [pinAdd] at h
    by_cases hx : x.path = p.path
    · rw [if_pos hx] at h
      split at h
      · rw [← Option.some.inj h]
        have h1 : (pinOne x p).path = x.path := by
          unfold pinOne
          split
          · exact hx.symm
          · rfl
        simp [h1, hx]
      · cases h
    · rw [if_neg hx] at h
      obtain ⟨k', hk, rfl⟩ := Option.map_eq_some_iff.1 h
      have ih := pinAdd_paths hk
      rw [List.map_cons, List.map_cons, ih]
      by_cases hm : p.path ∈ r.map (·.path)
      · rw [if_pos hm, if_pos (List.mem_cons_of_mem _ hm)]
      · rw [if_neg hm, if_neg (by
          intro h2
          rcases List.mem_cons.1 h2 with h2 | h2
          · exact hx h2.symm
          · exact hm h2)]
        rfl
theorem pinAdd_nodup {l k : List PinM} {p : PinM} (h : pinAdd l p = some k) (hn : (l.map (·.path)).Nodup) : (k.map (·.path)).Nodup := by
  rw [pinAdd_paths h]
  by_cases hm : p.path ∈ l.map (·.path)
  · rw [if_pos hm]; exact hn
  · rw [if_neg hm]
    exact List.nodup_append.2 ⟨hn, by simp, fun a ha b hb => by
      rw [List.mem_singleton.1 hb]
      exact fun e => hm (e ▸ ha)⟩
def pinTakes (x p : PinM) : Prop := (x.wild = true ∧ p.wild = false) ∨ ¬ pinBad x p = true
theorem pinAdd_none : ∀ {l : List PinM} {p : PinM}, pinAdd l p = none ↔ ∃ x, pinAt l p.path = some x ∧ ¬ pinTakes x p
  | [], p => by
    rw [pinAdd]
    simp [pinAt]
  | x :: r, p => by
    rw [pinAdd]
    unfold pinAt
    rw [List.find?_cons]
    by_cases hx : x.path = p.path
    · rw [if_pos hx, decide_eq_true hx]
      by_cases ht : pinTakes x p
      · unfold pinTakes at ht
        rw [if_pos ht]
        exact ⟨fun h => (by cases h), fun ⟨y, hy, hn⟩ => absurd ht (by rw [Option.some.inj hy]; exact hn)⟩
      · unfold pinTakes at ht
        rw [if_neg ht]
        exact ⟨fun _ => ⟨x, rfl, ht⟩, fun _ => rfl⟩
    · rw [if_neg hx, decide_eq_false hx, Option.map_eq_none_iff]
      exact pinAdd_none
theorem pinAdd_at : ∀ {l k : List PinM} {p : PinM}, pinAdd l p = some k → ∀ q, pinAt k q = if q = p.path then some (match pinAt l q with | some x => pinOne x p | none => p) else pinAt l q
  | [], k, p, h, q => by
    rw [pinAdd] at h
    rw [← Option.some.inj h]
    unfold pinAt
    rw [List.find?_cons]
    by_cases hq : q = p.path
    · rw [decide_eq_true hq.symm, if_pos hq]; rfl
    · rw [decide_eq_false (fun e => hq e.symm), if_neg hq]
  | x :: r, k, p, h, q => by
    rw [pinAdd] at h
    by_cases hx : x.path = p.path
    · rw [if_pos hx] at h
      split at h
      · rw [← Option.some.inj h]
        have h1 : (pinOne x p).path = x.path := by
          unfold pinOne
          split
          · exact hx.symm
          · rfl
        unfold pinAt
        rw [List.find?_cons, List.find?_cons, h1]
        by_cases hq : q = p.path
        · rw [decide_eq_true (hx.trans hq.symm), if_pos hq]
        · rw [decide_eq_false (fun e => hq (e.symm.trans hx)), if_neg hq]
      · cases h
    · rw [if_neg hx] at h
      obtain ⟨k', hk, rfl⟩ := Option.map_eq_some_iff.1 h
      have ih := pinAdd_at hk q
      unfold pinAt at ih ⊢
      rw [List.find?_cons, List.find?_cons]
      by_cases hq : x.path = q
      · rw [decide_eq_true hq, if_neg (fun e => hx (hq.trans e))]
      · rw [decide_eq_false hq]
        exact ih
end Go.Proofs.Pw
