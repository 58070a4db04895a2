/- Ge: walks and plain laws, joined: OwnIdx Reached ErrIs Query1. Conditions: at each theorem. -/
import Derived.Test.YtmnojbbcaboagaaGreatDoorGej
import Derived.Test.YtmnojbbcaboagaaGreatDoorGel
import Derived.Test.YtmnojbbcaboagaaGreatDoorGem
import Derived.Test.YtmnojbbcaboagaaGreatDoorGer
import Derived.Test.YtmnojbbcaboagaaGreatDoorProg
import Derived.WalkKit
import Derived.LaidEql
import Derived.Stop.Asserts
import Derived.RowKitTokens
import Derived.Lib.Hide
import Derived.Test.YtmnojbbcaboagaaGreatDoorGen
import Derived.Test.YtmnojbbcaboagaaGreatDoorShelf

namespace Go.Proofs.Pw
open Go.RowKit
open Go.Lib hiding intOf
set_option maxRecDepth 100000 in
theorem app_strs (w : World) (base : Nat) (hb : base ≤ w.heap.size) (v : Value) (l : List Str) (h : StrsAt w v l) (hl : l.length ≤ 1000000) :
    ∃ kv w', (Builtin.append_ #[26, 26] 26 #[.slice none 0 0, v]).run Tryz.prog w = .ok kv w' ∧ (∃ T, l = strTs T ∧ w'.ownsRow base 9 1 kv T.length (strVs T)) ∧ w.grownBy w' none := by
  obtain ⟨i0, hi, hz0, hz1, hz2⟩ := info_parts Tryz.infoString
  obtain ⟨a, n, cap, L, rfl, rfl, hnc, hcap, hc⟩ := h
  rw [lstF_length] at hl
  cases a with
  | none =>
    have hn0 : n = 0 := by
      rcases Nat.eq_zero_or_pos n with h | h
      · exact h
      · obtain ⟨b, o, e, _⟩ := hc 0 h
        cases e
    subst hn0
    exact ⟨_, w, run_append_nothing (P := Tryz.prog) w 26 26 26 9 i0 Tryz.underlying26 hi none 0 0 (Nat.le_refl _) (.slice none 0 cap) (Src.ofNil w Tryz.underlying26 cap), ⟨[], rfl, World.ownsRow_nil _ _ _ _⟩, World.grownBy.refl _ _⟩
  | some a =>
    have hnews : ∀ j u, (strVs ((List.range n).map L))[j]? = some u → w.cell? (a.add j) = some u := by
      intro j u hu
      have hj : j < n := by
        have := (List.getElem?_eq_some_iff.1 hu).1
        simpa [strVs] using this
      obtain ⟨b, o, e, h1⟩ := hc j hj
      injection e with e
      subst e
      have hu2 : u = .string (L j) := by
        simp [strVs, hj] at hu
        exact hu.symm
      rw [hu2, show (⟨b, o, none⟩ : Addr).add j = ⟨b, o + j, none⟩ from by unfold Addr.add; split <;> simp_all]
      exact h1
    obtain ⟨kv, w', h1, h2, h3, _⟩ := run_append_own (P := Tryz.prog) w base 26 26 9 i0 (.string ⟨#[]⟩) 1 16 Tryz.underlying26 hi hz0 hz1 hz2 rfl (by decide) (.slice none 0 0) 0 [] (World.ownsRow_nil _ _ _ _) a n cap (strVs ((List.range n).map L)) (by simp [strVs]) hnews (fun u hu => by
      simp [strVs] at hu
      obtain ⟨_, _, rfl⟩ := hu
      rfl) (by unfold maxLen; omega) (by omega) hb
    refine ⟨kv, w', h1, ⟨(List.range n).map L, by simp [strTs, lstF], ?_⟩, h3⟩
    simpa using h2
def ec (P V : Nat → ByteArray) (Rv Kv : Nat → Value) (B : Nat → Bool) (j : Nat) : List Value := [.string (P j), .string (V j), Rv j, Kv j, .bool (B j)]
def enVs (P V : Nat → ByteArray) (Rv Kv : Nat → Value) (B : Nat → Bool) (k : Nat) : List Value := (List.range k).flatMap (ec P V Rv Kv B)
theorem enVs_succ (P V Rv Kv B k) : enVs P V Rv Kv B (k + 1) = enVs P V Rv Kv B k ++ ec P V Rv Kv B k := by
  unfold enVs
  rw [List.range_succ, List.flatMap_append]
  simp
theorem enVs_length (P V Rv Kv B) : ∀ k, (enVs P V Rv Kv B k).length = k * 5
  | 0 => rfl
  | k + 1 => by rw [enVs_succ, List.length_append, enVs_length]; simp [ec]; omega
theorem enVs_get (P V Rv Kv B) : ∀ (k j c : Nat), j < k → c < 5 → (enVs P V Rv Kv B k)[j * 5 + c]? = (ec P V Rv Kv B j)[c]?
  | 0, j, c, h, _ => absurd h (Nat.not_lt_zero _)
  | k + 1, j, c, h, hc => by
    rw [enVs_succ]
    by_cases e : j = k
    · subst e
      rw [List.getElem?_append_right (by rw [enVs_length]; omega), enVs_length]
      congr 1; omega
    · rw [List.getElem?_append_left (by rw [enVs_length]; omega)]
      exact enVs_get P V Rv Kv B k j c (by omega) hc
theorem enVs_cong {P V : Nat → ByteArray} {Rv Kv Rv' Kv' : Nat → Value} {B : Nat → Bool} : ∀ {k : Nat}, (∀ j, j < k → Rv j = Rv' j ∧ Kv j = Kv' j) → enVs P V Rv Kv B k = enVs P V Rv' Kv' B k
  | 0, _ => rfl
  | k + 1, h => by
    rw [enVs_succ, enVs_succ, enVs_cong (k := k) (fun j hj => h j (by omega))]
    unfold ec
    rw [(h k (by omega)).1, (h k (by omega)).2]
structure RowsE (w : World) (base k : Nat) (R : Nat → List Md) (K : Nat → List Str) (Rv Kv : Nat → Value) : Prop where
  r : ∀ j, j < k → ∃ M, R j = mdTs M ∧ w.ownsRow base 47 2 (Rv j) M.length (mdVs M)
  s : ∀ j, j < k → ∃ T, K j = strTs T ∧ w.ownsRow base 9 1 (Kv j) T.length (strVs T)
theorem tag_apart {w : World} {b b' s s' m m' : Nat} {e e' : TypeId} {u o : Value} {xs ys : List Value} (h : w.ownsRow b e s u m xs) (h2 : w.ownsRow b' e' s' o m' ys) (hne : e ≠ e') : u.ownBlock = none ∨ u.ownBlock ≠ o.ownBlock := by
  refine apart_row fun g hg hu => ?_
  rcases h.2 with ⟨rfl, _⟩ | ⟨g1, c1, cur1, rfl, _, k1, _⟩
  · cases hu
  · rcases h2.2 with ⟨rfl, _⟩ | ⟨g2, c2, cur2, rfl, _, k2, _⟩
    · cases hg
    · have e1 : g1 = g := Option.some.inj hu
      have e2 : g2 = g := Option.some.inj hg
      subst e1 e2
      rw [k1] at k2
      injection k2 with k2
      injection k2 with _ k3 _
      exact hne k3
theorem entsAt_own {w : World} {base n : Nat} {e : TypeId} {v : Value} {P V : Nat → ByteArray} {R : Nat → List Md} {K : Nat → List Str} {B : Nat → Bool} {Rv Kv : Nat → Value} (h : w.ownsRow base e 5 v n (enVs P V Rv Kv B n)) (hr : RowsE w base n R K Rv Kv) : EntsAt w v (enF n P V R K B) := by
  have hR : ∀ j, j < n → ModsAt w (Rv j) (R j) := fun j hj => by
    obtain ⟨M, e1, h1⟩ := hr.r j hj
    rw [e1]; exact modsAt_own h1
  have hK : ∀ j, j < n → StrsAt w (Kv j) (K j) := fun j hj => by
    obtain ⟨T, e1, h1⟩ := hr.s j hj
    rw [e1]; exact strsAt_own h1
  rcases h.2 with ⟨rfl, h0⟩ | ⟨g, cap, cur, rfl, hb, hg, hn, hm, hs, ht⟩
  · subst h0
    exact EntsAt.nil w
  · refine ⟨some ⟨g, 0, none⟩, n, cap, P, V, R, K, B, Rv, Kv, rfl, rfl, hn, by unfold maxLen at hm; exact hm, fun j hj => ⟨g, 0, rfl, ?_⟩, hR, hK⟩
    have hcell : ∀ c u, c < 5 → (ec P V Rv Kv B j)[c]? = some u → w.cell? ⟨g, 0 + j * 5 + c, none⟩ = some u := fun c u hc hu => by
      rw [← enVs_get P V Rv Kv B n j c hj hc, ← ht, List.getElem?_take, if_pos (by omega)] at hu
      rw [Nat.zero_add, cell_of_row w g _ cur e (0, 0) hg]
      simpa using hu
    exact ⟨hcell 0 _ (by decide) rfl, hcell 1 _ (by decide) rfl, hcell 2 _ (by decide) rfl, hcell 3 _ (by decide) rfl, hcell 4 _ (by decide) rfl⟩
theorem EntsIn.forms2 {w : World} {a n cap P V R K B Rv Kv} (h : EntsIn w a n cap P V R K B Rv Kv) {j : Nat} (hj : j < n) : ∃ a1 n1 c1 a2 n2 c2, Rv j = .slice a1 n1 c1 ∧ Kv j = .slice a2 n2 c2 := by
  obtain ⟨a1, n1, c1, _, _, e1, _⟩ := h.reqs j hj
  obtain ⟨a2, n2, c2, _, e2, _⟩ := h.packs j hj
  exact ⟨_, _, _, _, _, _, e1, e2⟩
theorem Tryz.infoEnt : (Tryz.prog.info? 62).map (fun i => (i.zero, i.size, i.bytes)) = some (some (.agg #[.string ⟨#[]⟩, .string ⟨#[]⟩, .slice none 0 0, .slice none 0 0, .bool false]), 5, 88) := by kernel_rfl
theorem wpList_append_run {P : Program} {w : World} {ops : Array Oper} {rest : List Oper} {o : Oper} {a : Act} {Q : Exit → Act → World → Prop} (hgd : o.guard = none) (s x : Operand) (t : TypeId)
    (ho : o.op = .call { callee := .builtin .append, args := #[s, x], argTypes := #[t, t] }) (v y : Value) (hs : a.eval s = v) (hx : a.eval x = y) (v' : Value) (w' : World)
    (hr : (Builtin.append_ #[t, t] o.type #[v, y]).run P w = .ok v' w') (h : wpList P ops Q rest (a.put o.dst v') w') : wpList P ops Q (o :: rest) a w :=
  wpList_plain hgd fun _ hK => by
    unfold Oper.wp execOp
    simp only [ho, resolve, invoke, builtin, Sem.run_bind, Sem.run_pure, Result.andThen_ok, List.map_toArray, List.map_cons, List.map_nil, hs, hx, hr]
    exact hK _ _ h
theorem World.ownsRow.mono_base {w : World} {b b' e s m : Nat} {u : Value} {xs : List Value} (h : w.ownsRow b e s u m xs) (hb : b' ≤ b) : w.ownsRow b' e s u m xs := by
  refine ⟨h.1, ?_⟩
  rcases h.2 with h2 | ⟨g, c, cur, h1, h2, h3⟩
  · exact .inl h2
  · exact .inr ⟨g, c, cur, h1, Nat.le_trans hb h2, h3⟩
theorem grown_none {v : Value} : v.ownBlock = none ∨ v.ownBlock ≠ none := by
  cases v.ownBlock with
  | none => exact .inl rfl
  | some b => exact .inr (fun h => by cases h)
set_option maxHeartbeats 4000000 in
set_option maxRecDepth 100000 in
theorem ownIndex_calls (v : Value) (l : List En) (w : World) (h : EntsAt w v l) (hn : l.length ≤ 1000) (hl : ∀ e ∈ l, e.reqs.length ≤ 100000 ∧ e.packs.length ≤ 100000) :
    Calls Tryz.prog 9 #[v] w fun e w' => (∃ v', e = .returned v' ∧ EntsAt w' v' l) ∧ Below w.heap.size w w' := by
  obtain ⟨i0, hi, hz0, hz1, hz2⟩ := info_parts Tryz.infoEnt
  obtain ⟨a, n, cap, P, V, R, K, B, Rv, Kv, rfl, rfl, hin⟩ := h
  rw [enF_length] at hn
  have H := Lib.hid hin
  have HL : Hid (∀ j, j < n → (R j).length ≤ 100000 ∧ (K j).length ≤ 100000) := Lib.hid (fun j hj => hl _ (List.mem_of_getElem? (enF_get n P V R K B j hj)))
  clear hl hin
  go_enter Tryz.func9, Tryz.ntmps9
  go_wp2_with fail
  go_loopw [3, 4] (fun o i wr => ∃ (k : Nat) (Rv' Kv' : Nat → Value), k ≤ n ∧ i = .int .i64 k ∧ Hid (wr.ownsRow w.heap.size 62 5 o k (enVs P V Rv' Kv' B k)) ∧ Hid (RowsE wr w.heap.size k R K Rv' Kv') ∧ Below w.heap.size w wr) (fun _ i _ => n - (intOf i).toNat)
  case atStart => exact ⟨0, Rv, Kv, Nat.zero_le _, rfl, Lib.hid (World.ownsRow_nil _ _ _ _), Lib.hid ⟨fun j hj => absurd hj (Nat.not_lt_zero _), fun j hj => absurd hj (Nat.not_lt_zero _)⟩, Below.refl _ _⟩
  case round =>
    obtain ⟨k, Rv', Kv', hk, rfl, hO, hRows, hBr⟩ := hrel
    by_cases hlt : k < n
    · have hkn : (k : Int) < (n : Int) := by omega
      obtain ⟨b1, o1, ea, hcell⟩ := (H.out.below hBr).at_ k hlt
      obtain ⟨a1, n1, s1, aK, nK, cK, e1, e2⟩ := H.out.forms2 hlt
      have hM := (H.out.below hBr).reqs k hlt
      have hS := (H.out.below hBr).packs k hlt
      rw [e1, e2] at hcell
      rw [e1] at hM
      rw [e2] at hS
      subst ea
      obtain ⟨c0, c1, c2, c3, c4⟩ := hcell
      have hba := below_alloc wr (.cells #[.string (P k), .string (V k), .slice a1 n1 s1, .slice aK nK cK, .bool (B k)] 62)
      have x0 : (wr.alloc (.cells #[.string (P k), .string (V k), .slice a1 n1 s1, .slice aK nK cK, .bool (B k)] 62)).cell? ⟨wr.heap.size, 0, none⟩ = some (.string (P k)) := by simp
      have x1 : (wr.alloc (.cells #[.string (P k), .string (V k), .slice a1 n1 s1, .slice aK nK cK, .bool (B k)] 62)).cell? ⟨wr.heap.size, 1, none⟩ = some (.string (V k)) := by simp
      have x2 : (wr.alloc (.cells #[.string (P k), .string (V k), .slice a1 n1 s1, .slice aK nK cK, .bool (B k)] 62)).cell? ⟨wr.heap.size, 2, none⟩ = some (.slice a1 n1 s1) := by simp
      have x3 : (wr.alloc (.cells #[.string (P k), .string (V k), .slice a1 n1 s1, .slice aK nK cK, .bool (B k)] 62)).cell? ⟨wr.heap.size, 3, none⟩ = some (.slice aK nK cK) := by simp
      have x4 : (wr.alloc (.cells #[.string (P k), .string (V k), .slice a1 n1 s1, .slice aK nK cK, .bool (B k)] 62)).cell? ⟨wr.heap.size, 4, none⟩ = some (.bool (B k)) := by simp
      have xf : ∀ i, (wr.alloc (.cells #[.string (P k), .string (V k), .slice a1 n1 s1, .slice aK nK cK, .bool (B k)] 62)).frozen? ⟨wr.heap.size, i, none⟩ = false := fun i => by simp
      have hom := ownMods_calls (.slice a1 n1 s1) (R k) (wr.alloc (.cells #[.string (P k), .string (V k), .slice a1 n1 s1, .slice aK nK cK, .bool (B k)] 62)) (hM.below hba) (by have := (HL.out k hlt).1; omega)
      have hszN : (wr.alloc (.cells #[.string (P k), .string (V k), .slice a1 n1 s1, .slice aK nK cK, .bool (B k)] 62)).heap.size = wr.heap.size + 1 := by simp
      replace hom := Lib.hid hom
      clear hM e1 e2
      go_wp2_with fail
      generalize wr.alloc (.cells #[.string (P k), .string (V k), .slice a1 n1 s1, .slice aK nK cK, .bool (B k)] 62) = w1 at *
      refine hom.out.mono ?_
      rintro e w2 ⟨⟨v', rfl, _, M, hRM, hoM⟩, hb2⟩
      obtain ⟨aM, nM, cM, rfl⟩ := own_form hoM
      have hs1 := hba.size
      have hs2 := hb2.size
      have hNlt : wr.heap.size < w2.heap.size := by omega
      replace x0 := Below.cell_some hb2 x0
      replace x1 := Below.cell_some hb2 x1
      replace x2 := Below.cell_some hb2 x2
      replace x3 := Below.cell_some hb2 x3
      replace x4 := Below.cell_some hb2 x4
      replace xf := fun i => (hb2.frozen (p := ⟨wr.heap.size, i, none⟩) (show wr.heap.size < w1.heap.size by omega)).trans (xf i)
      have neM := own_ne (b := wr.heap.size) hoM (by omega)
      have hS3 : StrsAt (w2.setCell ⟨wr.heap.size, 2, none⟩ (.slice aM nM cM)) (.slice aK nK cK) (K k) := by
        obtain ⟨a', n', cap', L', q1, q2, q3, q4, q5⟩ := hS
        refine ⟨a', n', cap', L', q1, q2, q3, q4, fun j hj => ?_⟩
        obtain ⟨b, o, e, c⟩ := q5 j hj
        refine ⟨b, o, e, ?_⟩
        have : b < wr.heap.size := lt_of_cell c
        rw [set_blk _ (by omega)]
        exact Below.cell_some hb2 (Below.cell_some hba c)
      obtain ⟨kv, w4, hap, ⟨T, hKT, hoK⟩, hg4⟩ := app_strs (w2.setCell ⟨wr.heap.size, 2, none⟩ (.slice aM nM cM)) w2.heap.size (by simp) (.slice aK nK cK) (K k) hS3 (by have := (HL.out k hlt).2; omega)
      obtain ⟨aq, nq, cq, rfl⟩ := own_form hoK
      have neK := own_ne (b := wr.heap.size) hoK hNlt
      have hs4 := hg4.size
      have hs3 : (w2.setCell ⟨wr.heap.size, 2, none⟩ (.slice aM nM cM)).heap.size = w2.heap.size := by simp
      have hsome : ∀ k : Nat, some k ≠ (none : Option Nat) := fun k h => by cases h
      have u0 := hg4.cell ((set_off (.slice aM nM cM) (by decide)).trans x0) (hsome _)
      have u1 := hg4.cell ((set_off (.slice aM nM cM) (by decide)).trans x1) (hsome _)
      have u2 := hg4.cell (set_same (.slice aM nM cM) x2) (hsome _)
      have u3 := hg4.cell ((set_off (.slice aM nM cM) (by decide)).trans x3) (hsome _)
      have u4 := hg4.cell ((set_off (.slice aM nM cM) (by decide)).trans x4) (hsome _)
      have uf : ∀ i, w4.frozen? ⟨wr.heap.size, i, none⟩ = false := fun i => (hg4.frozen_far ⟨wr.heap.size, i, none⟩ (show wr.heap.size < _ by rw [hs3]; exact hNlt) (hsome _)).trans (by simp [xf i])
      have t0 := (set_off (w := w4) (b := wr.heap.size) (k := 3) (.slice aq nq cq) (by decide)).trans u0
      have t1 := (set_off (w := w4) (b := wr.heap.size) (k := 3) (.slice aq nq cq) (by decide)).trans u1
      have t2 := (set_off (w := w4) (b := wr.heap.size) (k := 3) (.slice aq nq cq) (by decide)).trans u2
      have t3 := set_same (.slice aq nq cq) u3
      have t4 := (set_off (w := w4) (b := wr.heap.size) (k := 3) (.slice aq nq cq) (by decide)).trans u4
      have chain : ∀ (b e s m : Nat) (u : Value) (xs : List Value), w2.ownsRow b e s u m xs → u.ownBlock ≠ some wr.heap.size → (w4.setCell ⟨wr.heap.size, 3, none⟩ (.slice aq nq cq)).ownsRow b e s u m xs := fun _ _ _ _ _ _ h hne => ownsRow_set ((ownsRow_set h hne _).kept hg4 grown_none) hne _
      have old : ∀ (b e s m : Nat) (u : Value) (xs : List Value), wr.ownsRow b e s u m xs → (w4.setCell ⟨wr.heap.size, 3, none⟩ (.slice aq nq cq)).ownsRow b e s u m xs := fun _ _ _ _ _ _ h => chain _ _ _ _ _ _ (ownsRow_kept (ownsRow_kept h hba) hb2) (fun e => by have := (h.lt _ e).2; omega)
      have hO5 := old _ _ _ _ _ _ hO.out
      have hoM5 := chain _ _ _ _ _ _ hoM neM
      have hoK5 := ownsRow_set (b := wr.heap.size) (j := 3) hoK neK (.slice aq nq cq)
      have hsz5 : (w4.setCell ⟨wr.heap.size, 3, none⟩ (.slice aq nq cq)).heap.size = w4.heap.size := by simp
      have hnew := World.news_of_block (cs := #[.string (P k), .string (V k), .slice aM nM cM, .slice aq nq cq, .bool (B k)]) (Go.Deep.blk_alloc_new (w4.setCell ⟨wr.heap.size, 3, none⟩ (.slice aq nq cq)) (.cells #[.string (P k), .string (V k), .slice aM nM cM, .slice aq nq cq, .bool (B k)] 62))
      rw [hsz5] at hnew
      have hB5 : Below w.heap.size w (w4.setCell ⟨wr.heap.size, 3, none⟩ (.slice aq nq cq)) := by
        have hsw := hBr.size
        have h1 : Below w.heap.size w w2 := hBr.trans ((below_step hba hb2).mono hsw)
        have h2 : Below w.heap.size w (w2.setCell ⟨wr.heap.size, 2, none⟩ (.slice aM nM cM)) := h1.setCell (p := ⟨wr.heap.size, 2, none⟩) hsw _
        exact (h2.grown hg4 (by rw [hs3]; omega) (fun k hk => by cases hk)).setCell (p := ⟨wr.heap.size, 3, none⟩) hsw _
      have hbase5 : w.heap.size ≤ w4.heap.size := by have := hB5.size; rw [hsz5] at this; exact this
      have z3 := (set_off (w := w2) (b := wr.heap.size) (k := 2) (.slice aM nM cM) (by decide)).trans x3
      have HR := Lib.hid (And.intro hRM hKT)
      have HO := Lib.hid (And.intro hO5 (And.intro hoM5 (And.intro hoK5 hnew)))
      have HOLD := Lib.hid old
      have HAP := Lib.hid hap
      clear hap hS3 hS hO hoM hoK hg4 hRM hKT hnew hO5 hoM5 hoK5 chain old x0 x1 x3 x4 hom hsome neM neK hba hb2 c0 c1 c2 c3 c4 u0 u1 u2 u4
      go_wp2_with (at_builtin; first | (refine wpList_append_run rfl _ _ 26 rfl _ _ rfl rfl _ _ HAP.out ?_) | (refine wpList_append_own _ rfl _ _ 22 rfl w.heap.size 62 i0 (.agg #[.string ⟨#[]⟩, .string ⟨#[]⟩, .slice none 0 0, .slice none 0 0, .bool false]) 5 88 Tryz.underlying22 hi hz0 hz1 hz2 rfl (by decide) _ _ _ rfl (HO.out.1.alloc _) ⟨w4.heap.size, 0, none⟩ 1 1 [.string (P k), .string (V k), .slice aM nM cM, .slice aq nq cq, .bool (B k)] rfl rfl HO.out.2.2.2 (by intro u hu; simp at hu; rcases hu with rfl | rfl | rfl | rfl | rfl <;> rfl) (by unfold maxLen; omega) (by omega) (by simp; omega) ?_; intro o' w6 hown6 hgrow6 _))
      go_roundw
      case rel =>
        have hkeep : ∀ (b e s m : Nat) (u : Value) (xs : List Value), (w4.setCell ⟨wr.heap.size, 3, none⟩ (.slice aq nq cq)).ownsRow b e s u m xs → e ≠ 62 → w6.ownsRow b e s u m xs := fun _ _ _ _ _ _ h hne =>
          (h.alloc _).kept hgrow6 (tag_apart (h.alloc (.cells #[.string (P k), .string (V k), .slice aM nM cM, .slice aq nq cq, .bool (B k)] 62)) (HO.out.1.alloc _) hne)
        refine ⟨k + 1, fun j => if j = k then .slice aM nM cM else Rv' j, fun j => if j = k then .slice aq nq cq else Kv' j, by omega, by go_num, Lib.hid ?_, Lib.hid ⟨fun j hj => ?_, fun j hj => ?_⟩, ?_⟩
        · have h1 : enVs P V (fun j => if j = k then .slice aM nM cM else Rv' j) (fun j => if j = k then .slice aq nq cq else Kv' j) B (k + 1) = enVs P V Rv' Kv' B k ++ [.string (P k), .string (V k), .slice aM nM cM, .slice aq nq cq, .bool (B k)] := by
            rw [enVs_succ, enVs_cong (Rv' := Rv') (Kv' := Kv') (fun j hj => ⟨if_neg (by omega), if_neg (by omega)⟩)]
            simp [ec]
          rw [h1]
          exact hown6
        · by_cases e : j = k
          · subst e
            refine ⟨M, HR.out.1, ?_⟩
            rw [if_pos rfl]
            exact (World.ownsRow.mono_base (hkeep _ _ _ _ _ _ HO.out.2.1 (by decide)) (by have := hBr.size; omega))
          · obtain ⟨M', q1, q2⟩ := hRows.out.r j (by omega)
            refine ⟨M', q1, ?_⟩
            rw [if_neg e]
            exact hkeep _ _ _ _ _ _ (HOLD.out _ _ _ _ _ _ q2) (by decide)
        · by_cases e : j = k
          · subst e
            refine ⟨T, HR.out.2, ?_⟩
            rw [if_pos rfl]
            exact (World.ownsRow.mono_base (hkeep _ _ _ _ _ _ HO.out.2.2.1 (by decide)) (by have := hBr.size; omega))
          · obtain ⟨M', q1, q2⟩ := hRows.out.s j (by omega)
            refine ⟨M', q1, ?_⟩
            rw [if_neg e]
            exact hkeep _ _ _ _ _ _ (HOLD.out _ _ _ _ _ _ q2) (by decide)
        · exact (hB5.alloc (by rw [hsz5]; exact hbase5) _).grown hgrow6 (by simp; omega) (fun q hq => (HO.out.1.lt q hq).1)
      case measure => simp [intOf]; omega
    · obtain rfl : n = k := by omega
      have hfin : EntsAt wr _ (enF n P V R K B) := entsAt_own hO.out hRows.out
      replace hfin := Lib.hid hfin
      go_wp2_with fail
      go_ret
      exact ⟨⟨_, rfl, hfin.out⟩, hBr⟩
end Go.Proofs.Pw

namespace Go.Proofs.Pw
open Go.RowKit
open Go.Lib hiding intOf
def sA : ByteArray := ⟨#[97]⟩
def sB : ByteArray := ⟨#[98]⟩
def v100 : ByteArray := ⟨#[118, 49, 46, 48, 46, 48]⟩
def v110 : ByteArray := ⟨#[118, 49, 46, 49, 46, 48]⟩
def v010 : ByteArray := ⟨#[118, 48, 46, 49, 46, 48]⟩
def smB (_ : Nat) : Bool := false
theorem new_cell (W : World) (cs : List Value) (t : TypeId) {N : Nat} (h : W.heap.size = N) {c : Nat} {u : Value} (hc : cs[c]? = some u) : (W.alloc (.cells cs.toArray t)).cell? ⟨N, c, none⟩ = some u := by
  subst h
  have := World.news_of_block (cs := cs.toArray) (Go.Deep.blk_alloc_new W (.cells cs.toArray t)) c u (by simpa using hc)
  rw [Addr.add_lit, Nat.zero_add] at this
  exact this
end Go.Proofs.Pw

namespace Go.Proofs.Pw
open Go.RowKit Go.Extern.Stop Go.Stop Go.Extern
theorem Tryz.is_typeOf (v : Value) (w : World) : (Extern.ReflectliteType.typeOf #[.iface 328 v]).run Tryz.prog w = .ok (.iface 266 (.agg #[.pointer (some ⟨19, 328, none⟩)])) w := by kernel_rfl
theorem Tryz.is_comp : (Tryz.prog.info? 328).map (·.comparable) = some true := by kernel_rfl
theorem Tryz.is_size : (Tryz.prog.info? 330).map (·.size) = some 1 := by kernel_rfl
theorem Tryz.no_asE (v : Value) (xT : TypeId) (w : World) : (Instr.typeAssert (.iface 328 v) xT 270 true).run Tryz.prog w = .ok (.tuple #[.nilIface, .bool false]) w := run_typeAssert_lacksB Tryz.underlying270 (by kernel_rfl) (by kernel_rfl) v xT w
theorem Tryz.no_unwrapE (v : Value) (xT : TypeId) (w : World) : (Instr.typeAssert (.iface 328 v) xT 273 true).run Tryz.prog w = .ok (.tuple #[.nilIface, .bool false]) w := run_typeAssert_lacksB Tryz.underlying273 (by kernel_rfl) (by kernel_rfl) v xT w
theorem Tryz.no_unwrapsE (v : Value) (xT : TypeId) (w : World) : (Instr.typeAssert (.iface 328 v) xT 275 true).run Tryz.prog w = .ok (.tuple #[.nilIface, .bool false]) w := run_typeAssert_lacksB Tryz.underlying275 (by kernel_rfl) (by kernel_rfl) v xT w
end Go.Proofs.Pw

namespace Go.Proofs.Pw
open Go.RowKit
open Go.Lib hiding intOf
def bLatest : ByteArray := ⟨#[108, 97, 116, 101, 115, 116]⟩
def bUpgrade : ByteArray := ⟨#[117, 112, 103, 114, 97, 100, 101]⟩
def bPatch : ByteArray := ⟨#[112, 97, 116, 99, 104]⟩
def bNone : ByteArray := ⟨#[110, 111, 110, 101]⟩
set_option maxHeartbeats 1000000 in
set_option maxRecDepth 100000 in
theorem qWord_calls (q : ByteArray) (w : World) :
    Calls Tryz.prog 85 #[.string q] w fun e w' => e = .returned (.bool (qWord q.data.toList)) ∧ Below w.heap.size w w' := by
  have hB := below_alloc w (.cells #[.string bLatest, .string bUpgrade, .string bPatch, .string bNone] 9)
  have hc := fun c u h => new_cell w [.string bLatest, .string bUpgrade, .string bPatch, .string bNone] 9 rfl (c := c) (u := u) h
  have hco := Tryz.slices_Contains_string w.heap.size 0 4 4 [bLatest, bUpgrade, bPatch, bNone] q (w.alloc (.cells #[.string bLatest, .string bUpgrade, .string bPatch, .string bNone] 9)) (Nat.le_refl _) (by decide) (fun j hj => by
    have hj4 : j < 4 := hj
    rw [Nat.zero_add]
    match j, hj4 with
    | 0, _ => exact hc 0 _ rfl
    | 1, _ => exact hc 1 _ rfl
    | 2, _ => exact hc 2 _ rfl
    | 3, _ => exact hc 3 _ rfl)
  have hR : Lib.containsS (([bLatest, bUpgrade, bPatch, bNone] : List ByteArray).take 4) q = qWord q.data.toList := by
    rw [Bool.eq_iff_iff, Lib.containsS_iff]
    unfold qWord
    rw [decide_eq_true_iff]
    have hb : ∀ (b : ByteArray), q = b ↔ q.data.toList = b.data.toList := fun b => (bytes_eq (a := q) (b := b)).symm
    show q ∈ [bLatest, bUpgrade, bPatch, bNone] ↔ _
    simp only [List.mem_cons, List.mem_nil_iff, or_false, hb]
    exact Iff.rfl
  rw [hR] at hco
  unfold bLatest bUpgrade bPatch bNone at hco hB
  replace hco := Lib.hid hco
  clear hc hR
  go_enter Tryz.func85, Tryz.ntmps85
  go_wp2_with fail
  refine hco.out.mono ?_
  rintro e w' ⟨rfl, rfl⟩
  go_wp2_with fail
  go_ret
  exact ⟨rfl, hB⟩
set_option maxHeartbeats 2000000 in
set_option maxRecDepth 100000 in
theorem within_calls (ks : List Nat) (A : Nat → Addr) (sign v s : ByteArray) (w : World) (hE : EnvP ks A w) (hv : v.size ≤ 1000000000) (hs : s.size ≤ 1000000000) :
    Calls Tryz.prog 141 #[.string sign, .string v, .string s] w fun e w' => e = .returned (.bool (withinF sign.data.toList v.data.toList s.data.toList)) ∧ Below w.heap.size w w' := by
  have h1 := verLess_calls ks A s v w hE hs hv
  have h2 := verLess_calls ks A v s w hE hv hs
  have hm : withinF sign.data.toList v.data.toList s.data.toList = if sign.data.toList = [60] then verLess s.data.toList v.data.toList else if sign.data.toList = [60, 61] then !verLess v.data.toList s.data.toList else if sign.data.toList = [62] then verLess v.data.toList s.data.toList else !verLess s.data.toList v.data.toList := rfl
  generalize withinF sign.data.toList v.data.toList s.data.toList = X at hm ⊢
  generalize verLess s.data.toList v.data.toList = D1 at h1 hm
  generalize verLess v.data.toList s.data.toList = D2 at h2 hm
  replace h1 := Lib.hid h1
  replace h2 := Lib.hid h2
  clear hE
  by_cases e1 : sign.data.toList = [60]
  · rw [if_pos e1] at hm
    subst hm
    have q1 : (sign.toList == [60]) = true := by rw [toList_data, e1]; rfl
    clear e1
    go_enter Tryz.func141, Tryz.ntmps141
    go_wp2_with fail
    refine h1.out.mono ?_
    rintro e w1 ⟨rfl, hb⟩
    go_wp2_with fail
    go_ret
    exact ⟨rfl, hb⟩
  · rw [if_neg e1] at hm
    have q1 : (sign.toList == [60]) = false := by rw [toList_data]; exact beq_eq_false_iff_ne.2 e1
    clear e1
    by_cases e2 : sign.data.toList = [60, 61]
    · rw [if_pos e2] at hm
      subst hm
      have q2 : (sign.toList == [60, 61]) = true := by rw [toList_data, e2]; rfl
      clear e2
      go_enter Tryz.func141, Tryz.ntmps141
      go_wp2_with fail
      refine h2.out.mono ?_
      rintro e w1 ⟨rfl, hb⟩
      go_wp2_with fail
      go_ret
      exact ⟨rfl, hb⟩
    · rw [if_neg e2] at hm
      have q2 : (sign.toList == [60, 61]) = false := by rw [toList_data]; exact beq_eq_false_iff_ne.2 e2
      clear e2
      by_cases e3 : sign.data.toList = [62]
      · rw [if_pos e3] at hm
        subst hm
        have q3 : (sign.toList == [62]) = true := by rw [toList_data, e3]; rfl
        clear e3
        go_enter Tryz.func141, Tryz.ntmps141
        go_wp2_with fail
        refine h2.out.mono ?_
        rintro e w1 ⟨rfl, hb⟩
        go_wp2_with fail
        go_ret
        exact ⟨rfl, hb⟩
      · rw [if_neg e3] at hm
        subst hm
        have q3 : (sign.toList == [62]) = false := by rw [toList_data]; exact beq_eq_false_iff_ne.2 e3
        clear e3
        go_enter Tryz.func141, Tryz.ntmps141
        go_wp2_with fail
        refine h1.out.mono ?_
        rintro e w1 ⟨rfl, hb⟩
        go_wp2_with fail
        go_ret
        exact ⟨rfl, hb⟩
def boundV : Option (Str × Str) → Value
  | none => .tuple #[.string ⟨#[]⟩, .string ⟨#[]⟩, .bool false]
  | some b => .tuple #[.string ⟨b.1.toArray⟩, .string ⟨b.2.toArray⟩, .bool true]
def bS (j : Nat) : ByteArray := if j = 0 then ⟨#[60, 61]⟩ else if j = 1 then ⟨#[62, 61]⟩ else if j = 2 then ⟨#[60]⟩ else ⟨#[62]⟩
theorem boundF_drop (q : Str) (k : Nat) (hk : k < 4) : boundF (signs.drop k) q = if hasPrefix q (bS k).data.toList then some ((bS k).data.toList, trimPrefix q (bS k).data.toList) else boundF (signs.drop (k + 1)) q := by
  match k, hk with
  | 0, _ => rfl
  | 1, _ => rfl
  | 2, _ => rfl
  | 3, _ => rfl
set_option maxHeartbeats 2000000 in
set_option maxRecDepth 100000 in
theorem bound_calls (q : ByteArray) (w : World) :
    Calls Tryz.prog 86 #[.string q] w fun e w' => e = .returned (boundV (qBound q.data.toList)) ∧ Below w.heap.size w w' := by
  have hB := below_alloc w (.cells #[.string ⟨#[60, 61]⟩, .string ⟨#[62, 61]⟩, .string ⟨#[60]⟩, .string ⟨#[62]⟩] 9)
  have hc : ∀ j, j < 4 → (w.alloc (.cells #[.string ⟨#[60, 61]⟩, .string ⟨#[62, 61]⟩, .string ⟨#[60]⟩, .string ⟨#[62]⟩] 9)).cell? ⟨w.heap.size, j, none⟩ = some (.string (bS j)) := fun j hj => by
    have h := fun c u h => new_cell w [.string ⟨#[60, 61]⟩, .string ⟨#[62, 61]⟩, .string ⟨#[60]⟩, .string ⟨#[62]⟩] 9 rfl (c := c) (u := u) h
    match j, hj with
    | 0, _ => exact h 0 _ rfl
    | 1, _ => exact h 1 _ rfl
    | 2, _ => exact h 2 _ rfl
    | 3, _ => exact h 3 _ rfl
  have hcp := Tryz.strings_CutPrefix q
  have HC := Lib.hid hc
  replace hcp := Lib.hid hcp
  clear hc
  go_enter Tryz.func86, Tryz.ntmps86
  go_wp2_with fail
  generalize w.alloc (.cells #[.string ⟨#[60, 61]⟩, .string ⟨#[62, 61]⟩, .string ⟨#[60]⟩, .string ⟨#[62]⟩] 9) = w1 at *
  go_loopw [6, 7, 8, 11] (fun _ _ _ i wr => ∃ k : Nat, k ≤ 4 ∧ i = .int .i64 k ∧ wr = w1 ∧ Hid (qBound q.data.toList = boundF (signs.drop k) q.data.toList)) (fun _ _ _ i _ => 4 - (intOf i).toNat)
  case atStart => exact ⟨0, by decide, rfl, rfl, Lib.hid rfl⟩
  case round =>
    obtain ⟨k, hk, rfl, rfl, HQ⟩ := hrel
    by_cases hlt : k < 4
    · have hkn : (k : Int) < 4 := by omega
      have c0 := HC.out k hlt
      have hst := boundF_drop q.data.toList k hlt
      rw [← HQ.out] at hst
      have hcc := hcp.out (bS k) wr
      cases hp : hasPrefix q.data.toList (bS k).data.toList with
      | true =>
        rw [hp] at hcc
        rw [hp, if_pos rfl] at hst
        have HST := Lib.hid hst
        generalize trimPrefix q.data.toList (bS k).data.toList = R at hcc HST
        generalize bS k = s at *
        replace hcc := Lib.hid hcc
        clear hp hst
        go_wp2_with fail
        refine hcc.out.mono ?_
        rintro e w' ⟨rfl, rfl⟩
        go_wp2_with fail
        refine bodyPost_ret (v := .tuple #[.string s, .string ⟨R.toArray⟩, .bool true]) (by simp [results, Tryz.results86, go_sem, *]) rfl ?_
        rw [HST.out]
        refine ⟨?_, hB⟩
        show _ = Ending.returned (.tuple #[.string ⟨s.data.toList.toArray⟩, .string ⟨R.toArray⟩, .bool true])
        rw [show (⟨s.data.toList.toArray⟩ : ByteArray) = s from bytes_eq.1 rfl]
      | false =>
        rw [hp] at hcc
        rw [hp, if_neg (by simp)] at hst
        have HST := Lib.hid hst
        generalize (⟨(trimPrefix q.data.toList (bS k).data.toList).toArray⟩ : ByteArray) = R at hcc
        generalize bS k = s at *
        replace hcc := Lib.hid hcc
        clear hp hst
        go_wp2_with fail
        refine hcc.out.mono ?_
        rintro e w' ⟨rfl, rfl⟩
        go_wp2_with fail
        go_roundw
        case rel => exact ⟨k + 1, by omega, by go_num, trivial, HST⟩
        case measure => simp [intOf]; omega
    · obtain rfl : k = 4 := by omega
      clear hlt hk
      go_wp2_with fail
      refine bodyPost_ret (v := .tuple #[.string ⟨#[]⟩, .string ⟨#[]⟩, .bool false]) (by simp [results, Tryz.results86, go_sem, *]) rfl ?_
      rw [HQ.out]
      exact ⟨rfl, hB⟩
end Go.Proofs.Pw
