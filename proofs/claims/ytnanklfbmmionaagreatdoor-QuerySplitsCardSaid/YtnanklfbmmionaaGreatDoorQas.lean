/- Qa: walks and plain laws, joined: Query2 PathsOf Fresh. Conditions: at each theorem. -/
import Derived.Test.YtnanklfbmmionaaGreatDoorQap
import Derived.Test.YtnanklfbmmionaaGreatDoorQar
import Derived.LaidEql
import Derived.Test.YtnanklfbmmionaaGreatDoorQak
import Derived.Test.YtnanklfbmmionaaGreatDoorQag

namespace Go.Proofs.Pw
open Go.RowKit
open Go.Lib hiding intOf
theorem run_neq_ptr_same {P : Program} (w : World) {ti tp te : TypeId} {ms : Array (String × TypeId)} {i j : TypeInfo} (a : Addr)
    (hi : P.underlying ti = some (.interface ms)) (hp : P.underlying tp = some (.pointer te)) (hinfo : P.info? tp = some i) (hcomp : i.comparable = true) (hte : P.info? te = some j) :
    (binOp .neq ti (.iface tp (.pointer (some a))) (.iface tp (.pointer (some a)))).run P w = .ok (.bool false) w := by
  simp only [binOp]
  simp [Op.equal, Op.maxDepth, run_equalIn_iface_ptr_same w 9998 a hi hp hinfo hcomp hte]
theorem run_neq_ptr_other {P : Program} (w : World) {ti tp te : TypeId} {ms : Array (String × TypeId)} {i j : TypeInfo} {a b : Addr} {ca cb : Array Value} {ta tb : TypeId}
    (hi : P.underlying ti = some (.interface ms)) (hp : P.underlying tp = some (.pointer te)) (hinfo : P.info? tp = some i) (hcomp : i.comparable = true) (hte : P.info? te = some j) (hsz : j.size ≠ 0)
    (hne : a ≠ b) (ha : w.heap[a.block]? = some (.cells ca ta (0, 0))) (hb : w.heap[b.block]? = some (.cells cb tb (0, 0))) :
    (binOp .neq ti (.iface tp (.pointer (some a))) (.iface tp (.pointer (some b)))).run P w = .ok (.bool true) w := by
  simp only [binOp]
  simp [Op.equal, Op.maxDepth, run_equalIn_iface_ptr_other w 9998 hi hp hinfo hcomp hte hsz hne ha hb]
theorem run_neq_nil_left {P : Program} (w : World) {ti : TypeId} {ms : Array (String × TypeId)} (tp : TypeId) (v : Value) (hi : P.underlying ti = some (.interface ms)) :
    (binOp .neq ti .nilIface (.iface tp v)).run P w = .ok (.bool true) w := by
  have h : ∀ d : Nat, (Op.equalIn (d + 1) ti .nilIface (.iface tp v)).run P w = .ok false w := fun d => by simp [Op.equalIn, run_underlying hi]
  simp only [binOp]
  simp [Op.equal, Op.maxDepth, h 9999]
set_option maxHeartbeats 2000000 in
set_option maxRecDepth 100000 in
theorem qCheck_calls (ks : List Nat) (A : Nat → Addr) (q : ByteArray) (w : World) (hE : EnvP ks A w) (hq : q.size ≤ 1000000) :
    Calls Tryz.prog 55 #[.string q] w fun e w' => e = .returned (errV A (qErr q.data.toList)) ∧ Below w.heap.size w w' := by
  have hw := qWord_calls q w
  have hbo := fun W => bound_calls q W
  have hck := fun (s : ByteArray) (hs : s.size ≤ 1000000000) (W : World) (hb : Below w.heap.size w W) => verCheck_calls ks A s W (hE.below hb) hs
  have hhd := fun (W : World) (hb : Below w.heap.size w W) => verHead_calls ks A q W (hE.below hb) (by omega)
  have hQ : qErr q.data.toList = if qWord q.data.toList then 0 else match qBound q.data.toList with
    | some b => verErr b.2
    | none => if verErr q.data.toList = 1 then headErr q.data.toList else verErr q.data.toList := rfl
  cases hqw : qWord q.data.toList with
  | true =>
    rw [hqw] at hw hQ
    simp only [if_true] at hQ
    have HQ := Lib.hid hQ
    replace hw := Lib.hid hw
    clear hbo hck hhd hE hQ hqw
    go_enter Tryz.func55, Tryz.ntmps55
    go_wp2_with fail
    refine hw.out.mono ?_
    rintro e w1 ⟨rfl, hb⟩
    go_wp2_with fail
    go_ret
    rw [HQ.out]
    exact ⟨rfl, hb⟩
  | false =>
    rw [hqw] at hw hQ
    simp only [Bool.false_eq_true, if_false] at hQ
    cases hqb : qBound q.data.toList with
    | some b =>
      rw [hqb] at hbo hQ
      simp only at hQ
      have hbl : b.2.length ≤ 1000000 := by
        have h := boundF_len (l := signs) (q := q.data.toList) (b := b) hqb
        rw [size_eq] at hq
        exact Nat.le_trans h hq
      have hcb := hck ⟨b.2.toArray⟩ (by simp [ByteArray.size]; omega)
      have HQ := Lib.hid hQ
      unfold boundV at hbo
      simp only at hbo
      generalize verErr b.2 = x at hcb HQ
      generalize (⟨b.2.toArray⟩ : ByteArray) = s2 at hcb hbo
      generalize (⟨b.1.toArray⟩ : ByteArray) = s1 at hbo
      replace hw := Lib.hid hw
      replace hbo := Lib.hid hbo
      replace hcb := Lib.hid hcb
      clear hck hhd hE hQ hqw hqb hbl
      go_enter Tryz.func55, Tryz.ntmps55
      go_wp2_with fail
      refine hw.out.mono ?_
      rintro e w1 ⟨rfl, hB⟩
      go_wp2_with fail
      refine (hbo.out _).mono ?_
      rintro e w2 ⟨rfl, hb⟩
      replace hB := below_step hB hb
      clear hb
      go_wp2_with fail
      refine (hcb.out _ hB).mono ?_
      rintro e w3 ⟨rfl, hb⟩
      go_wp2_with fail
      go_ret
      rw [HQ.out]
      exact ⟨rfl, below_step hB hb⟩
    | none =>
      rw [hqb] at hbo hQ
      simp only at hQ
      have hcq := hck q (by omega)
      unfold boundV at hbo
      simp only at hbo
      obtain ⟨i, hi, hcmp⟩ := Option.map_eq_some_iff.1 Tryz.is_comp
      obtain ⟨j, hj, hjs⟩ := Option.map_eq_some_iff.1 Tryz.is_size
      have hv2 := verErr_le q.data.toList
      have hE1 := fun (W : World) (hb : Below w.heap.size w W) => (hE.below hb)
      by_cases h0 : verErr q.data.toList = 0
      · rw [h0] at hcq hQ
        rw [if_neg (by decide)] at hQ
        rw [errV_zero] at hcq
        have HQ := Lib.hid hQ
        replace hw := Lib.hid hw
        replace hbo := Lib.hid hbo
        replace hcq := Lib.hid hcq
        replace hE1 := Lib.hid hE1
        clear hck hhd hE hQ hqw hqb hv2 h0
        go_enter Tryz.func55, Tryz.ntmps55
        go_wp2_with fail
        refine hw.out.mono ?_
        rintro e w1 ⟨rfl, hB⟩
        go_wp2_with fail
        refine (hbo.out _).mono ?_
        rintro e w2 ⟨rfl, hb⟩
        replace hB := below_step hB hb
        clear hb
        go_wp2_with fail
        refine (hcq.out _ hB).mono ?_
        rintro e w3 ⟨rfl, hb⟩
        replace hB := below_step hB hb
        clear hb
        have g1 := (hE1.out _ hB).errs.var 1 (hE1.out _ hB).has.1
        simp only [errG] at g1
        have hne := run_neq_nil_left (P := Tryz.prog) w3 317 (.pointer (some (A 1))) Tryz.underlying41
        go_wp2_with fail
        go_ret
        rw [HQ.out]
        exact ⟨rfl, hB⟩
      · by_cases h1 : verErr q.data.toList = 1
        · rw [if_pos h1] at hQ
          rw [h1, errV_pos A (by decide)] at hcq
          have HQ := Lib.hid hQ
          replace hw := Lib.hid hw
          replace hbo := Lib.hid hbo
          replace hcq := Lib.hid hcq
          replace hE1 := Lib.hid hE1
          replace hhd := Lib.hid hhd
          clear hck hE hQ hqw hqb hv2 h0 h1
          go_enter Tryz.func55, Tryz.ntmps55
          go_wp2_with fail
          refine hw.out.mono ?_
          rintro e w1 ⟨rfl, hB⟩
          go_wp2_with fail
          refine (hbo.out _).mono ?_
          rintro e w2 ⟨rfl, hb⟩
          replace hB := below_step hB hb
          clear hb
          go_wp2_with fail
          refine (hcq.out _ hB).mono ?_
          rintro e w3 ⟨rfl, hb⟩
          replace hB := below_step hB hb
          clear hb
          have g1 := (hE1.out _ hB).errs.var 1 (hE1.out _ hB).has.1
          simp only [errG] at g1
          have hne := run_neq_ptr_same (P := Tryz.prog) w3 (A 1) Tryz.underlying41 Tryz.underlying317 hi hcmp hj
          go_wp2_with fail
          refine (hhd.out _ hB).mono ?_
          rintro e w4 ⟨⟨v, rfl, _⟩, hb⟩
          go_wp2_with fail
          go_ret
          rw [HQ.out]
          exact ⟨rfl, below_step hB hb⟩
        · have h2 : verErr q.data.toList = 2 := by omega
          rw [if_neg h1, h2] at hQ
          rw [h2, errV_pos A (by decide)] at hcq
          have HQ := Lib.hid hQ
          replace hw := Lib.hid hw
          replace hbo := Lib.hid hbo
          replace hcq := Lib.hid hcq
          replace hE1 := Lib.hid hE1
          clear hck hhd hE hQ hqw hqb hv2 h0 h1 h2
          go_enter Tryz.func55, Tryz.ntmps55
          go_wp2_with fail
          refine hw.out.mono ?_
          rintro e w1 ⟨rfl, hB⟩
          go_wp2_with fail
          refine (hbo.out _).mono ?_
          rintro e w2 ⟨rfl, hb⟩
          replace hB := below_step hB hb
          clear hb
          go_wp2_with fail
          refine (hcq.out _ hB).mono ?_
          rintro e w3 ⟨rfl, hb⟩
          replace hB := below_step hB hb
          clear hb
          have g1 := (hE1.out _ hB).errs.var 1 (hE1.out _ hB).has.1
          simp only [errG] at g1
          obtain ⟨ca, ta, ha⟩ := (hE1.out _ hB).errs.row 2 (hE1.out _ hB).has.2
          obtain ⟨cb, tb, hbq⟩ := (hE1.out _ hB).errs.row 1 (hE1.out _ hB).has.1
          have hAne : A 2 ≠ A 1 := fun e => absurd ((hE1.out _ hB).errs.inj _ (hE1.out _ hB).has.2 _ (hE1.out _ hB).has.1 e) (by decide)
          have hne := run_neq_ptr_other (P := Tryz.prog) w3 Tryz.underlying41 Tryz.underlying317 hi hcmp hj (by rw [hjs]; decide) hAne ha hbq
          go_wp2_with fail
          go_ret
          rw [HQ.out, errV_pos A (by decide)]
          exact ⟨rfl, hB⟩
def likedV (A : Nat → Addr) : Option Str → Value
  | none => .tuple #[.string ⟨#[]⟩, errV A 5]
  | some s => .tuple #[.string ⟨s.toArray⟩, .nilIface]
set_option maxHeartbeats 2000000 in
set_option maxRecDepth 100000 in
theorem qLiked_in (ks : List Nat) (A : Nat → Addr) (h5 : 5 ∈ ks) (a : Option Addr) (n cap : Nat) (P V : Nat → ByteArray) (R : Nat → List Md) (K : Nat → List Str) (Bk : Nat → Bool) (Rv Kv : Nat → Value) (p : ByteArray) (sv : Value) (l : List Str) (least : Bool) (w : World) (hE : EnvP ks A w) (h : EntsIn w a n cap P V R K Bk Rv Kv) (hn : n ≤ 1000000) (hv : StrsAt w sv l) (hl : l.length ≤ 1000000) (hls : ∀ x ∈ l, x.length ≤ 1000000) :
    Calls Tryz.prog 110 #[.slice a n cap, .string p, sv, .bool least] w fun e w' => e = .returned (likedV A (likedF (enF n P V R K Bk) p.data.toList l least)) ∧ Below w.heap.size w w' := by
  have hli := liked_in ks A a n cap P V R K Bk Rv Kv p sv l w hE h hn hv hl hls
  have hF : likedF (enF n P V R K Bk) p.data.toList l least = if likedL (enF n P V R K Bk) p.data.toList l = [] then none else some (if least then (likedL (enF n P V R K Bk) p.data.toList l).headD [] else lastS (likedL (enF n P V R K Bk) p.data.toList l)) := rfl
  have hlen := likedL_len (enF n P V R K Bk) p.data.toList l
  generalize likedL (enF n P V R K Bk) p.data.toList l = LK at hli hF hlen
  have HF := Lib.hid hF
  have HE := Lib.hid hE
  obtain ⟨a3, n3, c3, _, rfl, _⟩ := id hv
  replace hli := Lib.hid hli
  clear hE h hv hF hls
  go_enter Tryz.func110, Tryz.ntmps110
  go_wp2_with fail
  refine hli.out.mono ?_
  rintro e w1 ⟨⟨v1, rfl, hs1⟩, hB⟩
  obtain ⟨a1, n1, c1, L1, rfl, e1, _, _, hc1⟩ := hs1
  have hn1 : n1 ≤ 1000000 := by rw [e1, lstF_length] at hlen; omega
  clear hli hlen
  by_cases h0 : n1 = 0
  · subst h0
    have HQ : Hid (likedF (enF n P V R K Bk) p.data.toList l least = none) := Lib.hid (by
      rw [HF.out, if_pos (by rw [e1]; rfl)])
    have g5 := (HE.out.below hB).errs.var 5 h5
    simp only [errG] at g5
    clear hc1 e1 HF
    go_wp2_with fail
    have kqg5 := fun d os => cell_patch (d := d) (os := os) g5
    refine wp_region_quiet_patch (by kernel_rfl) (by kernel_rfl) ?_
    repeat (go_big_quiet_step (fail))
    refine wpQuiet_nil ?_
    intro _ hw'
    obtain ⟨⟨dq, osq⟩, hw''⟩ := hw'
    subst hw''
    clear kqg5
    have hb := below_patch w1 dq osq
    replace hB := below_step hB hb
    clear hb
    generalize patch w1 dq osq = w2 at hB ⊢
    go_wp2_with fail
    go_ret2
    rw [HQ.out]
    exact ⟨rfl, hB⟩
  · obtain ⟨m, rfl⟩ : ∃ m, n1 = m + 1 := ⟨n1 - 1, by omega⟩
    have hne : LK ≠ [] := by rw [e1]; unfold lstF; intro h; simp at h
    rw [if_neg hne] at HF
    obtain ⟨b1, o1, rfl, d0⟩ := hc1 0 (by omega)
    obtain ⟨b2, o2, e2, d1⟩ := hc1 m (by omega)
    injection e2 with e2
    injection e2 with e3 e4
    subst e3 e4
    have hq1 : (((m : Int) + 1) == 0) = false := beq_eq_false_iff_ne.2 (by omega)
    have hwm := wrap_nat m (by omega)
    have hm0 : ((m : Int) + 1 - 1) = (m : Int) := by omega
    have hm1 : (m : Int) < (m : Int) + 1 := by omega
    cases least with
    | true =>
      have hh : LK.headD [] = (L1 0).data.toList := by
        rw [e1]
        have := lstF_get (m + 1) L1 0 (by omega)
        cases hL : lstF (m + 1) L1 with
        | nil => rw [hL] at this; cases this
        | cons x r => rw [hL] at this; simpa using this
      have HQ : Hid (likedF (enF n P V R K Bk) p.data.toList l true = some (L1 0).data.toList) := Lib.hid (by rw [HF.out, ← hh]; rfl)
      clear hc1 e1 HF hne hh d1 h0
      simp only [Nat.add_zero] at d0
      go_wp2_with fail
      go_ret2
      rw [HQ.out]
      exact ⟨rfl, hB⟩
    | false =>
      have hh : lastS LK = (L1 m).data.toList := by
        rw [e1]
        unfold lastS
        rw [List.getLast?_eq_getElem?, lstF_length, Nat.add_sub_cancel, lstF_get (m + 1) L1 m (by omega)]
        rfl
      have HQ : Hid (likedF (enF n P V R K Bk) p.data.toList l false = some (L1 m).data.toList) := Lib.hid (by rw [HF.out, ← hh]; rfl)
      clear hc1 e1 HF hne hh d0 h0
      go_wp2_with fail
      go_ret2
      rw [HQ.out]
      exact ⟨rfl, hB⟩
end Go.Proofs.Pw

namespace Go.Proofs.Pw
open Go.RowKit
open Go.Lib hiding intOf
end Go.Proofs.Pw

namespace Go.Proofs.Pw
open Go.RowKit Go.Sort
open Go.Lib hiding intOf
def FreshS (B : Nat) (w : World) (v : Value) (l : List Str) : Prop :=
  (v = .slice none 0 0 ∧ l = []) ∨ ∃ g c, v = .slice (some ⟨g, 0, none⟩) l.length c ∧ B ≤ g ∧ g < w.heap.size ∧ l.length ≤ c ∧ c ≤ 9223372036854775807 ∧ Holds encStr w g 0 l.toArray
theorem FreshS.strs {B : Nat} {w : World} {v : Value} {l : List Str} (h : FreshS B w v l) : StrsAt w v l := by
  rcases h with ⟨rfl, rfl⟩ | ⟨g, c, rfl, _, _, h1, h2, h3⟩
  · exact StrsAt.nil w
  · exact strsAt_holds h3 h1 h2
theorem FreshS.mono {B B' : Nat} {w : World} {v : Value} {l : List Str} (h : FreshS B w v l) (hb : B' ≤ B) : FreshS B' w v l := by
  rcases h with h | ⟨g, c, h0, h1, r⟩
  · exact .inl h
  · exact .inr ⟨g, c, h0, by omega, r⟩
theorem FreshS.below {B : Nat} {w w' : World} {v : Value} {l : List Str} (h : FreshS B w v l) (hb : Below w.heap.size w w') : FreshS B w' v l := by
  rcases h with h | ⟨g, c, h0, h1, h2, h3, h4, h5⟩
  · exact .inl h
  · exact .inr ⟨g, c, h0, h1, Nat.lt_of_lt_of_le h2 hb.size, h3, h4, fun j hj => ⟨Below.cell_some hb (h5 j hj).1, (hb.frozen (p := ⟨g, 0 + j, none⟩) h2).trans (h5 j hj).2⟩⟩
set_option maxHeartbeats 1000000 in
set_option maxRecDepth 100000 in
theorem verSortF_calls (ks : List Nat) (A : Nat → Addr) (v : Value) (l : List Str) (w : World) (hE : EnvP ks A w) (hS : StrsAt w v l) (hn : l.length ≤ 1000000) (hl : ∀ x ∈ l, x.length ≤ 1000000000) :
    Calls Tryz.prog 106 #[v] w fun e w' => (∃ v', e = .returned v' ∧ FreshS w.heap.size w' v' (vsort l)) ∧ Below w.heap.size w w' := by
  obtain ⟨a, n, cap, L, rfl, rfl, hnc, hcap, hc⟩ := hS
  rw [lstF_length] at hn
  have hcl := cloneS_calls a n cap L w (by omega) hc
  have hsn := AnyF.slices_SortFunc_none (P := Tryz.prog) (ρ := laysSortSR) { laysSortS with }
  have hce := Tryz.slices_Compact_string_empty
  have HL := Lib.hid hl
  replace hcl := Lib.hid hcl
  replace hsn := Lib.hid hsn
  replace hce := Lib.hid hce
  clear hc hl
  go_enter Tryz.func106, Tryz.ntmps106
  go_wp2_with fail
  refine hcl.out.mono ?_
  rintro e w1 ⟨h, hb1⟩
  rcases h with ⟨rfl, rfl⟩ | ⟨g, c, rfl, h1, h2, h3, h4, h5⟩
  · go_wp2_with fail
    refine (deleteFunc_nil _ 0 _).mono ?_
    rintro e w' ⟨rfl, rfl⟩
    go_wp2_with fail
    refine (hsn.out none 0 _ _).mono ?_
    rintro e w' ⟨rfl, rfl⟩
    go_wp2_with fail
    refine (hce.out none 0 _).mono ?_
    rintro e w' ⟨rfl, rfl⟩
    go_wp2_with fail
    go_ret
    exact ⟨⟨_, rfl, .inl ⟨rfl, rfl⟩⟩, hb1⟩
  · have hdz : (lstF n L).toArray.size = n := by rw [List.size_toArray, lstF_length]
    have hT : TestsB 166 #[] (fun s => !decide (verErr s = 0)) (lstF n L).toArray.toList w.heap.size w1 := by
      intro W hB s hs
      obtain ⟨j, hj, rfl⟩ := lstF_mem'.1 (by simpa using hs)
      have := verSort1_calls ks A (L j) W (hE.below (hb1.trans hB)) (by rw [size_eq]; exact HL.out _ (lstF_mem'.2 ⟨j, hj, rfl⟩))
      rw [← bytes_back (L j)] at this
      exact this
    have hD := deleteFunc_calls 166 #[] Tryz.enters_sort1 (fun s => !decide (verErr s = 0)) g 0 c w.heap.size (lstF n L).toArray w1 (by rw [hdz]; omega) (by rw [hdz]; exact h3) h1 h2 h5 hT
    rw [hdz] at hD
    have hfe : ((lstF n L).toArray.toList.filter fun x => !(!decide (verErr x = 0))) = (lstF n L).filter fun x => decide (verErr x = 0) := by
      congr 1; funext x; simp
    simp only [hfe] at hD
    obtain ⟨m, hm⟩ := map_sub (P := OkV) ((lstF n L).filter fun x => decide (verErr x = 0)) (fun x hx => ⟨by have := (List.mem_filter.1 hx).2; simpa using this, HL.out x (List.mem_filter.1 hx).1⟩)
    have hml : ((lstF n L).filter fun x => decide (verErr x = 0)).length = m.length := by rw [← hm, List.length_map]
    have hmn : m.length ≤ n := by
      have := List.length_filter_le (fun x => decide (verErr x = 0)) (lstF n L)
      rw [lstF_length, hml] at this
      exact this
    have hma : m.toArray.map (·.1) = ((lstF n L).filter fun x => decide (verErr x = 0)).toArray := by rw [← hm]; simp
    rw [hml, ← hma] at hD
    have hmem : ∀ x : RV, x ∈ m ↔ x.1 ∈ lstF n L := by
      intro x
      constructor
      · intro hx
        have : x.1 ∈ m.map (·.1) := List.mem_map.2 ⟨x, hx, rfl⟩
        rw [hm] at this
        exact (List.mem_filter.1 this).1
      · intro hx
        have : x.1 ∈ m.map (·.1) := by rw [hm]; exact List.mem_filter.2 ⟨hx, by simpa using x.2.1⟩
        obtain ⟨y, hy, e⟩ := List.mem_map.1 this
        have : y = x := Subtype.ext e
        rw [← this]; exact hy
    have HM := Lib.hid hmem
    replace hD := Lib.hid hD
    clear hT hfe hm hma hmem hcl
    go_wp2_with fail
    refine hD.out.mono ?_
    rintro e w2 ⟨rfl, hb2, h6⟩
    have hb02 := hb1.trans hb2
    have hso := sortV_calls ks A w w2 hE g c m.toArray hb02 h1 (Nat.lt_of_lt_of_le h2 hb2.size) (holds_rv.2 h6) (by simp; omega)
    rw [List.size_toArray] at hso
    replace hso := Lib.hid hso
    clear hD h6
    go_wp2_with fail
    refine hso.out.mono ?_
    rintro e w3 ⟨rfl, d', hd1, hd2, hd3, hd4, hd5, hb3⟩
    have hdm : (d'.map (·.1)).size = m.length := by rw [Array.size_map, hd1]
    have hH3 := holds_rv.1 hd4
    have hco := Tryz.slices_Compact_string_arr g 0 c (d'.map (·.1)) w3 hH3 (by rw [hdm]; omega) (by rw [hdm]; omega)
    have hv := vsort_of (l := lstF n L) (d := d') (fun x => by rw [hd2 x]; exact HM.out x) HL.out hd3
    rw [hv, hdm] at hco
    have hvl : (vsort (lstF n L)).length ≤ m.length := by
      rw [← hv, ← hdm]
      exact compactUpTo_length_le _
    replace hco := Lib.hid hco
    clear hso hv hd2 hd3 hd4 hsn hce
    go_wp2_with fail
    refine hco.out.mono ?_
    rintro e w4 ⟨rfl, q, rfl⟩
    go_wp2_with fail
    go_ret
    refine ⟨⟨_, rfl, .inr ⟨g, c, rfl, h1, by simp [putRow, mapBlock, Sort.ahead]; omega, by omega, h4, holds_take (m := List.replicate (m.length - (vsort (lstF n L)).length) []) ?_⟩⟩, below_putRow (below_drewN hb3 q) h1 0 _⟩
    have hH4 : Holds encStr (Sort.ahead w3 q) g 0 (d'.map (·.1)) := fun j hj => hH3 j hj
    exact holds_putRow encStr (Sort.ahead w3 q) g 0 _ _ hH4 (by simp [hd1]; omega)
set_option maxHeartbeats 4000000 in
set_option maxRecDepth 100000 in
theorem idxVersionsF_in (ks : List Nat) (A : Nat → Addr) (a : Option Addr) (n cap : Nat) (P V : Nat → ByteArray) (R : Nat → List Md) (K : Nat → List Str) (Bk : Nat → Bool) (Rv Kv : Nat → Value) (p : ByteArray) (w : World) (hE : EnvP ks A w) (h : EntsIn w a n cap P V R K Bk Rv Kv) (hs : ShortI (enF n P V R K Bk)) :
    Calls Tryz.prog 42 #[.slice a n cap, .string p] w fun e w' => (∃ v, e = .returned v ∧ FreshS w.heap.size w' v (vsort (versL (enF n P V R K Bk) p.data.toList))) ∧ Below w.heap.size w w' := by
  obtain ⟨i0, hi, hz0, hz1, hz2⟩ := info_parts Tryz.infoString
  have hn : n ≤ 1000000 := by have := hs.len; rwa [enF_length] at this
  have H := Lib.hid h
  have HE := Lib.hid hE
  have HSZ := Lib.hid (versL_size (p := p.data.toList) hs)
  clear h hs hE
  go_enter Tryz.func42, Tryz.ntmps42
  go_wp2_with fail
  go_loopw [5, 10] (fun o i wr => ∃ (k : Nat) (L : List ByteArray), k ≤ n ∧ i = .int .i64 k ∧ Hid (wr.ownsRow w.heap.size 9 1 o L.length (strVs L)) ∧ L.length ≤ k ∧ Hid (strTs L = versL ((enF n P V R K Bk).take k) p.data.toList) ∧ Below w.heap.size w wr) (fun _ i _ => n - (intOf i).toNat)
  case atStart => exact ⟨0, [], Nat.zero_le _, rfl, Lib.hid (World.ownsRow_nil _ _ _ _), Nat.le_refl _, Lib.hid rfl, Below.refl _ _⟩
  case round =>
    obtain ⟨k, L, hk, rfl, hO, hLk, hT, hBr⟩ := hrel
    obtain ⟨ao, no, co, rfl⟩ := own_form hO.out
    by_cases hlt : k < n
    · have hkn : (k : Int) < (n : Int) := by omega
      obtain ⟨b1, o1, ea, hcell⟩ := H.out.at_ k hlt
      obtain ⟨c0, c1, c2, c3, c4⟩ := hcell.below hBr
      obtain ⟨a1, n1, s1, a2, n2, s2, e1, e2⟩ := H.out.forms hlt
      rw [e1] at c2
      rw [e2] at c3
      subst ea
      have hba := below_alloc wr (.cells #[.string (P k), .string (V k), .slice a1 n1 s1, .slice a2 n2 s2, .bool (Bk k)] 37)
      have y0 : (wr.alloc (.cells #[.string (P k), .string (V k), .slice a1 n1 s1, .slice a2 n2 s2, .bool (Bk k)] 37)).cell? ⟨wr.heap.size, 0, none⟩ = some (.string (P k)) := by simp
      have y1 : (wr.alloc (.cells #[.string (P k), .string (V k), .slice a1 n1 s1, .slice a2 n2 s2, .bool (Bk k)] 37)).cell? ⟨wr.heap.size, 1, none⟩ = some (.string (V k)) := by simp
      have hO2 := hO.out.below hba
      have hB2 := below_step hBr hba
      obtain ⟨w2, hW⟩ : ∃ W, wr.alloc (.cells #[.string (P k), .string (V k), .slice a1 n1 s1, .slice a2 n2 s2, .bool (Bk k)] 37) = W := ⟨_, rfl⟩
      rw [hW] at y0 y1 hO2 hB2
      replace hO2 := Lib.hid hO2
      clear hba
      have hTk : versL ((enF n P V R K Bk).take (k + 1)) p.data.toList = versL ((enF n P V R K Bk).take k) p.data.toList ++ (if (P k).data.toList = p.data.toList then [(V k).data.toList] else []) := by
        rw [enF_take_succ hlt, versL_snoc]
      by_cases hpe : (P k).data.toList = p.data.toList
      · have hp0 := bytes_eq.1 hpe
        have hp1 : ((P k).toList == p.toList) = true := by rw [hp0]; simp
        have HN : Hid (strTs (L ++ [V k]) = versL ((enF n P V R K Bk).take (k + 1)) p.data.toList) := Lib.hid (by rw [hTk, if_pos hpe, strTs_snoc, hT.out])
        clear hcell e1 e2 hT hTk hpe hp0 hO
        go_wp2_with (at_builtin; refine wpList_append_own _ rfl _ _ 35 rfl w.heap.size 9 i0 (.string ⟨#[]⟩) 1 16 Tryz.underlying35 hi hz0 hz1 hz2 rfl (by decide) _ _ _ rfl (hO2.out.alloc _) ⟨w2.heap.size, 0, none⟩ 1 1 [.string (V k)] rfl rfl (cell_one_new _ _ _) (fun x hx => by simp at hx; subst hx; rfl) (by unfold maxLen; omega) (by omega) (by have := hB2.size; simp; omega) ?_; intro o' w4 hown4 hgrow4 _)
        go_roundw
        case rel =>
          refine ⟨k + 1, L ++ [V k], by omega, by go_num, Lib.hid ?_, by simp; omega, HN, ?_⟩
          · rw [List.length_append, List.length_singleton, ← strVs_snoc]; exact hown4
          · exact (hB2.alloc hB2.size _).grown hgrow4 (by have := hB2.size; simp; omega) (fun q hq => (hO2.out.lt q hq).1)
        case measure => simp [intOf]; omega
      · have hp1 : ((P k).toList == p.toList) = false := by rw [toList_data, toList_data]; exact beq_eq_false_iff_ne.2 hpe
        have HN : Hid (strTs L = versL ((enF n P V R K Bk).take (k + 1)) p.data.toList) := Lib.hid (by rw [hTk, if_neg hpe, List.append_nil, hT.out])
        clear hcell e1 e2 hT hTk hpe hO
        go_wp2_with fail
        go_roundw
        case rel => exact ⟨k + 1, L, by omega, by go_num, hO2, by omega, HN, hB2⟩
        case measure => simp [intOf]; omega
    · have hT2 : strTs L = versL (enF n P V R K Bk) p.data.toList := by rw [hT.out, show k = n by omega, enF_take_all]
      have hSo := strsAt_own hO.out
      rw [hT2] at hSo
      have hso := verSortF_calls ks A _ _ wr (HE.out.below hBr) hSo HSZ.out.1 (fun x hx => by have := HSZ.out.2 x hx; omega)
      have hnk : ¬ (k : Int) < (n : Int) := by omega
      replace hso := Lib.hid hso
      clear hT hT2 hSo hO hlt
      go_wp2_with fail
      refine hso.out.mono ?_
      rintro e w5 ⟨⟨v5, rfl, hv5⟩, hb⟩
      go_wp2_with fail
      go_ret
      exact ⟨⟨_, rfl, hv5.mono hBr.size⟩, below_step hBr hb⟩
end Go.Proofs.Pw
