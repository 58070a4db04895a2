/- slices.Insert of one module into a row of the caller's own. -/
import Derived.Test.YtfkimddlgopgbaaGreatDoorSlModK
import Derived.Shelf.RegionOpenPlain
namespace Go.Proofs.Pw
open Go.RowKit
open Go.Lib hiding intOf

theorem ins_grow {α : Type} {Z A pq D : List α} {o : Nat} (hA : A.length = o) (hl : o + pq.length + D.length ≤ A.length + Z.length) : (splice (splice (A ++ Z) o pq) (o + pq.length) D).take (o + pq.length + D.length) = A ++ (pq ++ D) := by
  subst hA
  have e1 : splice (A ++ Z) A.length pq = A ++ (pq ++ Z.drop pq.length) := by
    unfold splice
    rw [List.take_left', List.drop_append, List.drop_eq_nil_of_le (by omega)]
    · simp
    · rfl
  rw [e1]
  unfold splice
  have e2 : (A ++ (pq ++ Z.drop pq.length)).take (A.length + pq.length) = A ++ pq := by
    rw [← List.append_assoc]
    exact List.take_left' (by simp)
  rw [e2, ← List.append_assoc (A ++ pq), List.take_left' (by simp; omega), List.append_assoc]
theorem ins_shift {α : Type} {cur X pq : List α} {o n : Nat} (hX : cur.take n = X) (hn : X.length = n) (ho : o ≤ n) (hl : n + pq.length ≤ cur.length) : (splice (splice cur (o + pq.length) (X.drop o)) o pq).take (n + pq.length) = X.take o ++ (pq ++ X.drop o) := by
  have hd : (X.drop o).length = n - o := by rw [List.length_drop, hn]
  apply List.ext_getElem?
  intro j
  rw [List.getElem?_take]
  by_cases hj : j < n + pq.length
  · rw [if_pos hj, splice_get (by rw [splice_length (by omega)]; omega)]
    by_cases h1 : o ≤ j ∧ j < o + pq.length
    · rw [if_pos h1, List.getElem?_append_right (by simp; omega), List.getElem?_append_left (by simp; omega)]
      congr 1
      simp; omega
    · rw [if_neg h1, splice_get (by omega)]
      by_cases h2 : j < o
      · rw [if_neg (by omega), List.getElem?_append_left (by simp; omega), List.getElem?_take, if_pos h2, ← hX, List.getElem?_take, if_pos (by omega)]
      · rw [if_pos (by omega), List.getElem?_append_right (by simp; omega), List.getElem?_append_right (by simp; omega)]
        congr 1
        simp; omega
  · rw [if_neg hj, List.getElem?_eq_none (by simp; omega)]

theorem mdVs_take : ∀ (l : List (ByteArray × ByteArray)) (i : Nat), mdVs (l.take i) = (mdVs l).take (i * 2)
  | [], i => by simp [mdVs]
  | a :: r, 0 => by simp [mdVs]
  | a :: r, i + 1 => by
    have ih := mdVs_take r i
    have e : mdVs (a :: r) = .string a.1 :: .string a.2 :: mdVs r := rfl
    have e2 : mdVs (a :: r.take i) = .string a.1 :: .string a.2 :: mdVs (r.take i) := rfl
    rw [List.take_succ_cons, e, e2, ih, show (i + 1) * 2 = i * 2 + 1 + 1 by omega, List.take_succ_cons, List.take_succ_cons]
theorem mdVs_drop : ∀ (l : List (ByteArray × ByteArray)) (i : Nat), mdVs (l.drop i) = (mdVs l).drop (i * 2)
  | [], i => by simp [mdVs]
  | a :: r, 0 => by simp [mdVs]
  | a :: r, i + 1 => by
    have ih := mdVs_drop r i
    have e : mdVs (a :: r) = .string a.1 :: .string a.2 :: mdVs r := rfl
    rw [List.drop_succ_cons, e, ih, show (i + 1) * 2 = i * 2 + 1 + 1 by omega, List.drop_succ_cons, List.drop_succ_cons]
theorem mdVs_ins (l : List (ByteArray × ByteArray)) (i : Nat) (p q : ByteArray) : mdVs (l.take i ++ (p, q) :: l.drop i) = (mdVs l).take (i * 2) ++ ([.string p, .string q] ++ (mdVs l).drop (i * 2)) := by
  rw [mdVs_append, mdVs_take, ← mdVs_drop]; rfl

/-- what Insert hands back -/
def InsOut (base : Nat) (v : Value) (L : List (ByteArray × ByteArray)) (w : World) (e : Ending) (w' : World) : Prop :=
  ∃ v', e = .returned v' ∧ w'.ownsRow base 26 2 v' L.length (mdVs L) ∧ Below base w w' ∧ w.grownBy w' v.ownBlock

theorem pq_cells {w : World} {vb : Nat} {p q : ByteArray} (hv : w.heap[vb]? = some (.cells #[.string p, .string q] 26 (0, 0))) : ∀ j u, ([.string p, .string q] : List Value)[j]? = some u → w.cell? ((⟨vb, 0, none⟩ : Addr).add j) = some u :=
  World.news_of_block (cs := #[.string p, .string q]) hv

set_option maxHeartbeats 2000000 in
set_option maxRecDepth 100000 in
/-- at the end -/
theorem insertM_end (base : Nat) (v : Value) (L : List (ByteArray × ByteArray)) (vb : Nat) (p q : ByteArray) (w : World) (hown : w.ownsRow base 26 2 v L.length (mdVs L)) (hl : L.length ≤ 1000000) (hb : base ≤ w.heap.size) (hv : w.heap[vb]? = some (.cells #[.string p, .string q] 26 (0, 0))) :
    Calls Tryz.prog 55 #[v, .int .i64 L.length, .slice (some ⟨vb, 0, none⟩) 1 1] w (InsOut base v (L.take L.length ++ (p, q) :: L.drop L.length) w) := by
  obtain ⟨i0, hi, hz0, hz1, hz2⟩ := info_parts Tryz.infoMod
  have hpq := Lib.hid (pq_cells hv)
  have hge : ∀ k, v.ownBlock = some k → base ≤ k := fun k hk => (hown.lt k hk).1
  have ho := Lib.hid hown
  have hfin : L.take L.length ++ (p, q) :: L.drop L.length = L ++ [(p, q)] := by simp
  rw [hfin]
  have HE := Lib.hid (mdVs_append L [(p, q)])
  rcases hown.2 with ⟨rfl, h0⟩ | ⟨g, cap, cur, rfl, hbg, hg, hn, hm, hs, ht⟩
  · have : L = [] := List.eq_nil_of_length_eq_zero h0
    subst this
    clear hown h0
    go_enter Tryz.func55, Tryz.ntmps55
    go_wp2_with (at_builtin; refine wpList_append_own _ rfl _ _ 22 rfl base 26 i0 (.agg #[.string ⟨#[]⟩, .string ⟨#[]⟩]) 2 32 Tryz.underlying22 hi hz0 hz1 hz2 rfl (by decide) _ _ _ rfl ho.out ⟨vb, 0, none⟩ 1 1 [.string p, .string q] rfl rfl hpq.out (by intro u hu; simp at hu; rcases hu with rfl | rfl <;> rfl) (by decide) (by decide) hb ?_; intro v' w1 hown1 hgrow1 _)
    go_ret
    exact ⟨v', rfl, hown1, (Below.refl _ w).grown hgrow1 hb hge, hgrow1⟩
  · clear hown hg hn hm hs ht
    generalize hN : L.length = n at *
    go_enter Tryz.func55, Tryz.ntmps55
    go_wp2_with (at_builtin; refine wpList_append_own _ rfl _ _ 22 rfl base 26 i0 (.agg #[.string ⟨#[]⟩, .string ⟨#[]⟩]) 2 32 Tryz.underlying22 hi hz0 hz1 hz2 rfl (by decide) _ _ _ rfl ho.out ⟨vb, 0, none⟩ 1 1 [.string p, .string q] rfl rfl hpq.out (by intro u hu; simp at hu; rcases hu with rfl | rfl <;> rfl) (by unfold maxLen; omega) (by omega) hb ?_; intro v' w1 hown1 hgrow1 _)
    all_goals
      go_ret
      exact ⟨v', rfl, by rw [HE.out, List.length_append, hN]; exact hown1, (Below.refl _ w).grown hgrow1 hb hge, hgrow1⟩

set_option maxHeartbeats 4000000 in
set_option maxRecDepth 100000 in
/-- ahead of the end, with room -/
theorem insertM_shift (base g cap : Nat) (cur : Array Value) (L : List (ByteArray × ByteArray)) (i vb : Nat) (p q : ByteArray) (w : World) (hbg : base ≤ g) (hg : w.heap[g]? = some (.cells cur 26 (0, 0))) (hroom : L.length + 1 ≤ cap) (hm : cap ≤ maxLen) (hs : cur.size = cap * 2) (ht : cur.toList.take (L.length * 2) = mdVs L) (hi : i < L.length) (hl : L.length ≤ 1000000) (hv : w.heap[vb]? = some (.cells #[.string p, .string q] 26 (0, 0))) (hne : vb ≠ g) :
    Calls Tryz.prog 55 #[.slice (some ⟨g, 0, none⟩) L.length cap, .int .i64 i, .slice (some ⟨vb, 0, none⟩) 1 1] w (InsOut base (.slice (some ⟨g, 0, none⟩) L.length cap) (L.take i ++ (p, q) :: L.drop i) w) := by
  have hsz : (Tryz.prog.info? 26).map (·.size) = some 2 := by
    obtain ⟨i0, hi, hz0, hz1, hz2⟩ := info_parts Tryz.infoMod
    rw [hi]; simp [hz1]
  have mixed : Tryz.prog.follows Departure.mixedOrders = true := by kernel_rfl
  have hpq := Lib.hid (pq_cells hv)
  unfold maxLen at hm
  have hXl : (mdVs L).length = L.length * 2 := mdVs_length L
  have hdl : ((mdVs L).drop (i * 2)).length = (L.length - i) * 2 := by rw [List.length_drop, hXl]; omega
  have hov : ∀ o lb cb, (callFunc 90 #[.slice (some ⟨vb, 0, none⟩) 1 1, .slice (some ⟨g, o, none⟩) lb cb]).run Tryz.prog w = .ok (.value (.bool false)) w := fun o lb cb => by
    rw [run_callFunc_extern Tryz.func90 (by kernel_rfl) (by kernel_rfl) (by kernel_rfl) (e := Extern.SlicesOverlaps.overlaps #[22, 22] #[4]) (by kernel_rfl),
      Lib.run_overlaps_apart w 22 4 26 Tryz.underlying22 2 Tryz.sizeOf26 ⟨vb, 0, none⟩ ⟨g, o, none⟩ 1 1 lb cb hne 26 26 2 (cap * 2) (by simp [World.shape?, hv]) (by simp [World.shape?, hg, hs]) (by omega) (by simp [World.frozen?, hv]) (by simp [World.frozen?, hv])]
    rfl
  have hsrc : Hid (∀ j v, ((mdVs L).drop (i * 2))[j]? = some v → w.cell? ⟨g, i * 2 + j, none⟩ = some v) := Lib.hid fun j v hj => by
    rw [List.getElem?_drop] at hj
    have hjl := (List.getElem?_eq_some_iff.1 hj).1
    rw [cell_of_row w g _ cur _ (0, 0) hg]
    rw [← ht, List.getElem?_take, if_pos (by omega)] at hj
    simpa using hj
  have hfin := Lib.hid (ins_shift (cur := cur.toList) (X := mdVs L) (pq := [.string p, .string q]) (o := i * 2) (n := L.length * 2) ht hXl (by omega) (by simp; omega))
  have hV := Lib.hid (mdVs_ins L i p q)
  have h1D : Hid (∀ v ∈ (mdVs L).drop (i * 2), v.oneCell' = true) := Lib.hid fun v hv => mdVs_one v (List.mem_of_mem_drop hv)
  have hg' : w.heap[g]? = some (.cells cur.toList.toArray 26 (0, 0)) := by rw [Array.toArray_toList]; exact hg
  have HG := Lib.hid hg'
  have hlen2 : (L.take i ++ (p, q) :: L.drop i).length = L.length + 1 := by simp; omega
  have HL2 := Lib.hid hlen2
  have hcl : cur.toList.length = cap * 2 := by simp [hs]
  have hw1 : IntKind.i64.wrap ((i : Int) + 1) = (i : Int) + 1 := by rw [IntKind.wrap_i64]; omega
  have hw2 : IntKind.i64.wrap ((L.length : Int) + 1) = (L.length : Int) + 1 := by rw [IntKind.wrap_i64]; omega
  have hb1 : (0 : Int) ≤ (i : Int) + 1 := by omega
  have htn : ((i : Int) + 1).toNat = i + 1 := by omega
  have htn2 : ((L.length : Int) + 1).toNat = L.length + 1 := by omega
  have hb2 : ¬ (cap = i + 1) := by omega
  have hb4 : ¬ (cap = i) := by omega
  have hb7 : (i : Int) ≤ (L.length : Int) + 1 := by omega
  have hb8 : (i : Int) ≤ (L.length : Int) := by omega
  have hb5 : ¬ ((i : Int) = (L.length : Int)) := by omega
  have hb6 : ¬ ((cap : Int) < (L.length : Int) + 1) := by omega
  generalize hD : (mdVs L).drop (i * 2) = D at *
  generalize hX : mdVs L = X at *
  generalize hNN : L.length = n at *
  have hmin : D.length = Nat.min (n + 1 - i) (n + 1 - (i + 1)) * 2 := by
    rw [hdl]; congr 1; simp only [Nat.min_def]; split <;> omega
  have hmin2 : ([.string p, .string q] : List Value).length = Nat.min 1 (n + 1 - i) * 2 := by
    have : Nat.min 1 (n + 1 - i) = 1 := by simp only [Nat.min_def]; split <;> omega
    rw [this]; rfl
  have hfit : (i + 1) * 2 + D.length ≤ cur.toList.length := by omega
  have hfit2 : i * 2 + ([.string p, .string q] : List Value).length ≤ (splice cur.toList ((i + 1) * 2) D).length := by
    rw [splice_length hfit]; simp; omega
  have HSZ := Lib.hid hcl
  have HM := Lib.hid (And.intro hmin (And.intro hmin2 (And.intro hfit hfit2)))
  clear hlen2 hg hg' hv ht hX hD hs hmin hmin2 hfit hfit2 hdl hcl hXl
  go_enter Tryz.func55, Tryz.ntmps55
  go_wp2_with (simp only [hov])
  go_region_law_o (refine step_copyK rfl (.tmp 73) (.tmp 76) 22 22 rfl 26 Tryz.underlying22 2 hsz g ((i + 1) * 2) (n + 1 - (i + 1)) (cap - (i + 1)) ⟨g, i * 2, none⟩ (n + 1 - i) (cap - i) (by simp [Act.eval, Act.put]) (by simp [Act.eval, Act.put]) cur.toList 26 HG.out D HM.out.1 (fun j v hj => by rw [Addr.add_lit]; exact hsrc.out j v hj) HM.out.2.2.1 h1D.out base w (Below.refl _ _).drew hbg ?_; intro w4 hg4 hb4 hc4)
  go_wp2_with (refine wpList_copyK rfl _ _ 22 22 rfl 26 Tryz.underlying22 2 hsz g (i * 2) _ _ ⟨vb, 0, none⟩ 1 1 rfl rfl _ 26 hg4.out [.string p, .string q] HM.out.2.1 (fun j v hj => hc4.out.cell (hpq.out j v hj) (by rw [Addr.add_lit]; simpa using hne)) HM.out.2.2.2 (by intro u hu; simp at hu; rcases hu with rfl | rfl <;> rfl) base w hb4 hbg ?_; intro w5 hg5 hb5 hc5)

  go_ret
  refine ⟨_, rfl, ⟨by rw [mdVs_length], .inr ⟨g, cap, _, by rw [HL2.out]; rfl, hbg, hg5.out, by rw [HL2.out]; exact hroom, by unfold maxLen; omega, ?_, ?_⟩⟩, hb5, grownBy_trans (w1 := w4) (grownBy_undrawn hc4.out) hc5.out⟩
  · have h1 := splice_length HM.out.2.2.1
    have h2 := splice_length HM.out.2.2.2
    rw [h1, HSZ.out] at h2
    simpa using h2
  · rw [HL2.out, hV.out, ← hfin.out]
    simp only [List.length_cons, List.length_nil]
    rw [show (n + 1) * 2 = n * 2 + 2 by omega, show (i + 1) * 2 = i * 2 + 2 by omega]

theorem zeroCells_len (z : Array Value) (h : z.size = 2) (n : Nat) : (Builtin.zeroCells z n).toList.length = n * 2 := by
  simp [Builtin.zeroCells, h]

set_option maxHeartbeats 4000000 in
set_option maxRecDepth 100000 in
/-- ahead of the end, with no room -/
theorem insertM_grow (base g cap : Nat) (cur : Array Value) (L : List (ByteArray × ByteArray)) (i vb : Nat) (p q : ByteArray) (w : World) (hb : base ≤ w.heap.size) (hg : w.heap[g]? = some (.cells cur 26 (0, 0))) (hnc : L.length ≤ cap) (hroom : cap < L.length + 1) (hs : cur.size = cap * 2) (ht : cur.toList.take (L.length * 2) = mdVs L) (hi : i < L.length) (hl : L.length ≤ 1000000) (hv : w.heap[vb]? = some (.cells #[.string p, .string q] 26 (0, 0))) :
    Calls Tryz.prog 55 #[.slice (some ⟨g, 0, none⟩) L.length cap, .int .i64 i, .slice (some ⟨vb, 0, none⟩) 1 1] w (InsOut base (.slice (some ⟨g, 0, none⟩) L.length cap) (L.take i ++ (p, q) :: L.drop i) w) := by
  obtain ⟨i0, hi0, hz0, hz1, hz2⟩ := info_parts Tryz.infoMod
  have hsz : (Tryz.prog.info? 26).map (·.size) = some 2 := by rw [hi0]; simp [hz1]
  have mixed : Tryz.prog.follows Departure.mixedOrders = true := by kernel_rfl
  have hXl : (mdVs L).length = L.length * 2 := mdVs_length L
  have hdl : ((mdVs L).drop (i * 2)).length = (L.length - i) * 2 := by rw [List.length_drop, hXl]; omega
  have hal : ((mdVs L).take (i * 2)).length = i * 2 := by rw [List.length_take, hXl]; omega
  have hX : ∀ j v, (mdVs L)[j]? = some v → w.cell? ⟨g, j, none⟩ = some v := fun j v hj => by
    have hjl := (List.getElem?_eq_some_iff.1 hj).1
    rw [cell_of_row w g _ cur _ (0, 0) hg]
    rw [← ht, List.getElem?_take, if_pos (by omega)] at hj
    simpa using hj
  have hold : (Builtin.firstCells i0.size i (.slice (some ⟨g, 0, none⟩) i cap)).run Tryz.prog w.drew = .ok ((mdVs L).take (i * 2)).toArray w.drew := by
    rw [hz1]
    exact run_firstCells_some w.drew 2 i ⟨g, 0, none⟩ i cap _ hal (fun j v hj => by
      rw [Addr.add_lit, Nat.zero_add]
      rw [List.getElem?_take] at hj
      split at hj
      · exact hX j v hj
      · cases hj)
  obtain ⟨G, hG⟩ : ∃ G, G = grownCap w (L.length + 1) cap 26 := ⟨_, rfl⟩
  obtain ⟨Z, hZ⟩ : ∃ Z, Z = (Builtin.zeroCells (Value.agg #[.string ⟨#[]⟩, .string ⟨#[]⟩]).cells (L.length + 1 - i) ++ Builtin.zeroCells (Value.agg #[.string ⟨#[]⟩, .string ⟨#[]⟩]).cells (G - (L.length + 1))).toList := ⟨_, rfl⟩
  have hGn : L.length + 1 ≤ G := by rw [hG]; exact grownCap_ge w _ _ _
  have hG63 : G ≤ maxLen := by
    rw [hG]
    exact grownCap_le_maxLen w (L.length + 1) cap _ (by unfold maxLen; omega)
  have hZl : Z.length = (G - i) * 2 := by
    rw [hZ, Array.toList_append, List.length_append, zeroCells_len _ rfl, zeroCells_len _ rfl]; omega
  obtain ⟨W1, hW1⟩ : ∃ W1, W1 = w.drew.alloc (.cells ((mdVs L).take (i * 2) ++ Z).toArray 26) := ⟨_, rfl⟩
  have hrz : ∀ ty, (Builtin.append_ #[22, 3] ty #[.slice (some ⟨g, 0, none⟩) i cap, .int .i64 ((L.length : Int) + 1 - (i : Int))]).run Tryz.prog w =
      .ok (.slice (some ⟨w.heap.size, 0, none⟩) (L.length + 1) G) W1 := fun ty => by
    have h := Lib.run_append_grow_zeros w 22 3 ty 26 i0 _ .i64 .i64 Tryz.underlying22 Tryz.underlying3 hi0 hz0 (some ⟨g, 0, none⟩) i cap _ hold (L.length + 1 - i) (by omega) (by omega) (by omega) (by omega) (by rw [hz2]; omega) (by rw [hz2, show i + (L.length + 1 - i) = L.length + 1 by omega]; exact growslice_fits hroom (by omega))
    rw [show i + (L.length + 1 - i) = L.length + 1 by omega, ← hG] at h
    rw [show (L.length : Int) + 1 - (i : Int) = ((L.length + 1 - i : Nat) : Int) by omega, h, hW1, hZ]
    congr 4
    simp
  have hgw : g < w.heap.size := (Array.getElem?_eq_some_iff.1 hg).1
  have hvw : vb < w.heap.size := (Array.getElem?_eq_some_iff.1 hv).1
  have hBW : Below w.heap.size w W1 := by rw [hW1]; exact (Below.refl _ w).drew.alloc (Nat.le_refl _) _
  have hHW : W1.heap[w.heap.size]? = some (.cells ((mdVs L).take (i * 2) ++ Z).toArray 26 (0, 0)) := by rw [hW1]; exact Go.Deep.blk_alloc_new w.drew _
  have hpq : ∀ W, Below w.heap.size w W → ∀ j u, ([.string p, .string q] : List Value)[j]? = some u → W.cell? ((⟨vb, 0, none⟩ : Addr).add j) = some u := fun W hW => pq_cells (by rw [hW.block vb hvw]; exact hv)
  have hsrc : ∀ W, Below w.heap.size w W → ∀ j v, ((mdVs L).drop (i * 2))[j]? = some v → W.cell? ((⟨g, i * 2, none⟩ : Addr).add j) = some v := fun W hW j v hj => by
    rw [Addr.add_lit]
    rw [List.getElem?_drop] at hj
    exact Below.cell_some hW (hX _ _ hj)
  have h1D : ∀ v ∈ (mdVs L).drop (i * 2), v.oneCell' = true := fun v hv => mdVs_one v (List.mem_of_mem_drop hv)
  have hfin := ins_grow (A := (mdVs L).take (i * 2)) (Z := Z) (pq := [.string p, .string q]) (D := (mdVs L).drop (i * 2)) (o := i * 2) hal (by simp only [List.length_cons, List.length_nil]; rw [hal, hdl]; omega)
  have hV := mdVs_ins L i p q
  have hlen2 : (L.take i ++ (p, q) :: L.drop i).length = L.length + 1 := by simp; omega
  unfold maxLen at hG63
  have hw1 : IntKind.i64.wrap ((i : Int) + 1) = (i : Int) + 1 := by rw [IntKind.wrap_i64]; omega
  have hw2 : IntKind.i64.wrap ((L.length : Int) + 1) = (L.length : Int) + 1 := by rw [IntKind.wrap_i64]; omega
  have hw3 : IntKind.i64.wrap ((L.length : Int) + 1 - (i : Int)) = (L.length : Int) + 1 - (i : Int) := by rw [IntKind.wrap_i64]; omega
  have hb1 : (0 : Int) ≤ (i : Int) + 1 := by omega
  have htn : ((i : Int) + 1).toNat = i + 1 := by omega
  have hb2 : ¬ (G = i + 1) := by omega
  have hb3 : ¬ (G = i) := by omega
  have hb4 : ¬ (cap = i) := by omega
  have hb5 : ¬ ((i : Int) = (L.length : Int)) := by omega
  have hb6 : (cap : Int) < (L.length : Int) + 1 := by omega
  have hb7 : (i : Int) ≤ (L.length : Int) + 1 := by omega
  have hb8 : (i : Int) ≤ (L.length : Int) := by omega
  generalize hD : (mdVs L).drop (i * 2) = D at *
  generalize hA : (mdVs L).take (i * 2) = A at *
  generalize hXX : mdVs L = X at *
  generalize hNN : L.length = n at *
  have hmin : D.length = Nat.min (n - i) (n + 1 - (i + 1)) * 2 := by
    rw [hdl]; congr 1; simp only [Nat.min_def]; split <;> omega
  have hmin2 : ([.string p, .string q] : List Value).length = Nat.min 1 (n + 1 - i) * 2 := by
    have : Nat.min 1 (n + 1 - i) = 1 := by simp only [Nat.min_def]; split <;> omega
    rw [this]; rfl
  have hAZ : (A ++ Z).length = G * 2 := by rw [List.length_append, hal, hZl]; omega
  have hfit2 : i * 2 + ([.string p, .string q] : List Value).length ≤ (A ++ Z).length := by rw [hAZ]; simp; omega
  have hfit : (i + 1) * 2 + D.length ≤ (splice (A ++ Z) (i * 2) [.string p, .string q]).length := by
    rw [splice_length hfit2, hAZ]; omega
  have HM := Lib.hid (And.intro hmin (And.intro hmin2 (And.intro hfit (And.intro hfit2 hAZ))))
  have HR := Lib.hid (And.intro hrz (And.intro hHW hBW))
  have HS := Lib.hid (And.intro hpq (And.intro hsrc h1D))
  have HF := Lib.hid (And.intro hfin (And.intro hV hlen2))
  clear hmin hmin2 hfit hfit2 hAZ hrz hHW hBW hpq hsrc h1D hfin hV hlen2 hW1 hZ hG hold hX hXl hdl hal ht hg hv hD hA hXX hZl hs
  go_enter Tryz.func55, Tryz.ntmps55
  go_wp2_with (first
    | (at_builtin; refine Lib.wpList_append_run _ rfl _ _ _ _ rfl _ _ rfl rfl _ _ (HR.out.1 _) ?_)
    | (refine wpList_copyK rfl _ _ 22 22 rfl 26 Tryz.underlying22 2 hsz w.heap.size (i * 2) _ _ ⟨vb, 0, none⟩ 1 1 rfl rfl _ 26 HR.out.2.1 [.string p, .string q] HM.out.2.1 (HS.out.1 W1 HR.out.2.2) HM.out.2.2.2.1 (by intro u hu; simp at hu; rcases hu with rfl | rfl <;> rfl) w.heap.size w HR.out.2.2 (Nat.le_refl _) ?_; intro w2 hg2 hb9 _))
  go_region_law_o (refine step_copyK rfl (.tmp 50) (.tmp 53) 22 22 rfl 26 Tryz.underlying22 2 hsz w.heap.size ((i + 1) * 2) (n + 1 - (i + 1)) (G - (i + 1)) ⟨g, i * 2, none⟩ (n - i) (cap - i) (by simp [Act.eval, Act.put]) (by simp [Act.eval, Act.put]) _ 26 hg2.out D HM.out.1 (HS.out.2.1 w2.drew hb9.drew) HM.out.2.2.1 HS.out.2.2 w.heap.size w hb9.drew (Nat.le_refl _) ?_; intro w4 hg4 hb10 _)
  go_wp2_with fail
  go_ret
  refine ⟨_, rfl, ⟨by rw [mdVs_length], .inr ⟨w.heap.size, G, _, by rw [HF.out.2.2]; rfl, hb, hg4.out, by rw [HF.out.2.2]; exact hGn, by unfold maxLen; omega, ?_, ?_⟩⟩, hb10.mono hb, grownBy_below _ hb10⟩
  · have h1 := splice_length HM.out.2.2.1
    have h2 := splice_length HM.out.2.2.2.1
    rw [h2, HM.out.2.2.2.2] at h1
    simpa using h1
  · rw [HF.out.2.2, HF.out.2.1, ← HF.out.1]
    simp only [List.length_cons, List.length_nil]
    have e := HM.out.1
    have : Nat.min (n - i) (n + 1 - (i + 1)) = n - i := by simp only [Nat.min_def]; split <;> omega
    rw [this] at e
    rw [show (n + 1) * 2 = i * 2 + 2 + D.length by omega, show (i + 1) * 2 = i * 2 + 2 by omega]

/-- slices.Insert of one module, into a row of one's own -/
theorem insertM_calls (base : Nat) (v : Value) (L : List (ByteArray × ByteArray)) (i vb : Nat) (p q : ByteArray) (w : World) (hown : w.ownsRow base 26 2 v L.length (mdVs L)) (hi : i ≤ L.length) (hl : L.length ≤ 1000000) (hb : base ≤ w.heap.size) (hv : w.heap[vb]? = some (.cells #[.string p, .string q] 26 (0, 0))) (hne : v.ownBlock ≠ some vb) :
    Calls Tryz.prog 55 #[v, .int .i64 i, .slice (some ⟨vb, 0, none⟩) 1 1] w (InsOut base v (L.take i ++ (p, q) :: L.drop i) w) := by
  by_cases hi2 : i = L.length
  · subst hi2
    exact insertM_end base v L vb p q w hown hl hb hv
  · rcases hown.2 with ⟨rfl, h0⟩ | ⟨g, cap, cur, rfl, hbg, hg, hn, hm, hs, ht⟩
    · omega
    · by_cases hroom : L.length + 1 ≤ cap
      · exact insertM_shift base g cap cur L i vb p q w hbg hg hroom hm hs ht (by omega) hl hv (fun e => hne (by rw [e]; rfl))
      · exact insertM_grow base g cap cur L i vb p q w hb hg hn (by omega) hs ht (by omega) hl hv
end Go.Proofs.Pw
