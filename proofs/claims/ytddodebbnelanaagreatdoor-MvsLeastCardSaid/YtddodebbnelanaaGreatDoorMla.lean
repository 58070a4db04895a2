/- Ml: walks and plain laws, joined: LeastMath Rise Rise2 Sel Closed RefC RefV RefV2 RefO RefUnder Rises MvsLeast MvsLeast2. Conditions: at each theorem. -/
import Derived.Test.YtddodebbnelanaaGreatDoorMpc
import Derived.Test.YtddodebbnelanaaGreatDoorMpb
import Derived.Deep.LoopGhost
import Derived.Test.YtddodebbnelanaaGreatDoorMpd
import Derived.Laws.IdiomStrings
import Derived.Shelf.SlSortCmp.QuietGrown
import Derived.Lib.AppendIntMem
import Derived.Deep.CutRange
import Derived.Deep.CutBlock
import Derived.RegionTactic
import Derived.BigRegion

/- Plain mathematics: closed selections; what MvsLeast asks. No program in sight. -/
namespace Go.Proofs.Pw
open Go.Lib hiding intOf

def riseB (l : List Md) : Bool := (List.range (l.length - 1)).all fun i => decide (compareBytes (mdAt l i).1 (mdAt l (i + 1)).1 < 0)
theorem riseB_iff {l : List Md} : riseB l = true ↔ RiseP l := by
  unfold riseB
  rw [List.all_eq_true]
  constructor
  · intro h
    have hf : Ord3 (fun a b : Md => compareBytes a.1 b.1) := compareBytes_ord.comap (fun m : Md => m.1)
    have := rises_step hf (l := l) (fun i h1 => by
      have h2 := of_decide_eq_true (h i (by rw [List.mem_range]; omega))
      have e1 := mdAt_get (l := l) (i := i) (by omega)
      have e2 := mdAt_get (l := l) (i := i + 1) h1
      rw [List.getElem?_eq_getElem (by omega)] at e1
      rw [List.getElem?_eq_getElem h1] at e2
      rw [Option.some.inj e1, Option.some.inj e2]
      exact h2)
    exact this
  · intro h i hi
    rw [List.mem_range] at hi
    unfold RiseP at h
    rw [List.pairwise_iff_getElem] at h
    have h2 := h i (i + 1) (by omega) (by omega) (Nat.lt_succ_self _)
    have e1 := mdAt_get (l := l) (i := i) (by omega)
    have e2 := mdAt_get (l := l) (i := i + 1) (by omega)
    rw [List.getElem?_eq_getElem (by omega)] at e1
    rw [List.getElem?_eq_getElem (by omega)] at e2
    rw [Option.some.inj e1, Option.some.inj e2] at h2
    exact decide_eq_true h2

def selErr (l : List En) (sel : List Md) : Nat × Int := orE (rootsErr l sel) (if riseB sel = true then (0, -1) else (8, -1))
def closErr (l : List En) (roots sel : List Md) : Nat × Int := orE (startErr l roots) (selErr l sel)
def reqsAt (l : List En) (m : Md) : List Md := (enAt l (findE l m).toNat).reqs
def closB (l : List En) (roots sel : List Md) : Bool := underB (roots ++ sel.flatMap (reqsAt l)) sel
def closR (l : List En) (roots sel : List Md) : Bool := if (closErr l roots sel).1 = 0 then closB l roots sel else false
theorem selErr_zero {l : List En} {sel : List Md} : (selErr l sel).1 = 0 ↔ (∀ m ∈ sel, ∃ e ∈ l, e.md = m) ∧ RiseP sel := by
  unfold selErr
  rw [orE_zero, rootsErr_zero, ← riseB_iff]
  refine and_congr_right fun _ => ?_
  by_cases h : riseB sel = true
  · rw [if_pos h]; exact ⟨fun _ => h, fun _ => rfl⟩
  · rw [if_neg h]; exact ⟨fun h2 => absurd h2 (by decide), fun h2 => absurd h2 h⟩
theorem closErr_zero {l : List En} {roots sel : List Md} : (closErr l roots sel).1 = 0 ↔ (startErr l roots).1 = 0 ∧ (∀ m ∈ sel, ∃ e ∈ l, e.md = m) ∧ RiseP sel := by
  unfold closErr
  rw [orE_zero, selErr_zero]
/-- the requirements of a module -/
theorem reqsAt_of {l : List En} (h : RightI l) {e : En} (he : e ∈ l) : reqsAt l e.md = e.reqs := by
  have h0 : ¬ findE l e.md < 0 := fun hn => findE_lt.1 hn e he rfl
  obtain ⟨k, hk, hl, e1⟩ := findE_nat h0
  unfold reqsAt
  rw [hk, show ((k : Nat) : Int).toNat = k from rfl, h.one (enAt_mem hl) he e1]
theorem closB_iff {l : List En} (h : RightI l) {roots sel : List Md} (hs : ∀ m ∈ sel, ∃ e ∈ l, e.md = m) : closB l roots sel = true ↔ (∀ m ∈ roots, hasB sel m = true) ∧ ∀ e ∈ l, e.md ∈ sel → ∀ r ∈ e.reqs, hasB sel r = true := by
  unfold closB
  rw [under_mem]
  constructor
  · intro h1
    refine ⟨fun m hm => h1 m (List.mem_append.2 (.inl hm)), fun e he hm r hr => h1 r (List.mem_append.2 (.inr (List.mem_flatMap.2 ⟨e.md, hm, by rw [reqsAt_of h he]; exact hr⟩)))⟩
  · rintro ⟨h1, h2⟩ m hm
    rcases List.mem_append.1 hm with h3 | h3
    · exact h1 m h3
    · obtain ⟨s, hs1, hr⟩ := List.mem_flatMap.1 h3
      obtain ⟨e, he, rfl⟩ := hs s hs1
      rw [reqsAt_of h he] at hr
      exact h2 e he hs1 m hr

/-- does of each path a newer version require what an older one does, in no less a version -/
def risesB (l : List En) : Bool := (List.range l.length).all fun i => (List.range l.length).all fun k => !(decide (i < k) && decide ((enAt l i).md.1 = (enAt l k).md.1)) || underB (enAt l i).reqs (enAt l k).reqs
theorem risesB_at {l : List En} (h : risesB l = true) {i k : Nat} (hik : i < k) (hk : k < l.length) (e : (enAt l i).md.1 = (enAt l k).md.1) : underB (enAt l i).reqs (enAt l k).reqs = true := by
  unfold risesB at h
  rw [List.all_eq_true] at h
  have h1 := h i (by rw [List.mem_range]; omega)
  rw [List.all_eq_true] at h1
  have h2 := h1 k (by rw [List.mem_range]; omega)
  rw [decide_eq_true hik, decide_eq_true e] at h2
  simpa using h2

/-- COX: the least of those that are closed -/
theorem cox {l : List En} {roots sel : List Md} (hG : RightG l roots) (hs : ∀ m ∈ sel, ∃ e ∈ l, e.md = m) (hr : RiseP sel) (hc : closB l roots sel = true) (hl : risesB l = true) {m : Md} (hm : Reached l roots m) : hasB sel m = true := by
  obtain ⟨c1, c2⟩ := (closB_iff hG.idx hs).1 hc
  induction hm with
  | root hm => exact c1 _ hm
  | @step e r he hre hr1 ih =>
    obtain ⟨s, hs1, e1, e2⟩ := (hasB_rise hr).1 ih
    obtain ⟨x, hx, rfl⟩ := hs s hs1
    have v1 := (modErr_zero (hG.idx.mds e he)).2
    have v2 := (modErr_zero (hG.idx.mds x hx)).2
    rw [verLess_no v2 v1] at e2
    by_cases hex : x = e
    · subst hex
      exact c2 x hx hs1 r hr1
    · obtain ⟨i, hi, rfl⟩ := mem_enAt he
      obtain ⟨k, hk, rfl⟩ := mem_enAt hx
      have hik : i < k := by
        rcases Nat.lt_trichotomy i k with h | h | h
        · exact h
        · subst h; exact absurd rfl hex
        · exfalso
          have hR := hG.idx.rise
          unfold Rises at hR
          rw [List.pairwise_iff_getElem] at hR
          have h3 := hR k i (by rw [List.length_map]; omega) (by rw [List.length_map]; omega) h
          rw [List.getElem_map, List.getElem_map, ← enAt_elem hk, ← enAt_elem hi] at h3
          unfold modCmp at h3
          rw [orI_lt] at h3
          rcases h3 with h3 | ⟨_, h3⟩
          · rw [e1] at h3; exact path_self _ h3
          · have := (verCmp_ord.anti _ _).1 h3
            omega
      have hu := risesB_at hl hik hk e1.symm
      rw [under_mem] at hu
      obtain ⟨j, hj1, hj2⟩ := hasB_iff.1 (hu r hr1)
      obtain ⟨y, hy, hp⟩ := findI_spec hj1
      have hjl := (List.getElem?_eq_some_iff.1 hy).1
      have hym := List.mem_of_getElem? hy
      rw [mdAt_get hjl] at hy
      rw [Option.some.inj hy] at hj2
      have hyp : y.1 = r.1 := of_decide_eq_true hp
      obtain ⟨z, hz, f1, f2⟩ := (hasB_rise hr).1 (c2 _ hx hs1 y hym)
      rw [hasB_rise hr]
      refine ⟨z, hz, f1.trans hyp, ?_⟩
      obtain ⟨ez, hez, rfl⟩ := hs z hz
      have v3 := (modErr_zero (hG.idx.mds ez hez)).2
      have v4 := (modErr_zero (hG.idx.req hx y hym)).2
      have v5 := (modErr_zero (hG.idx.req he r hr1)).2
      rw [verLess_no v3 v4] at f2
      rw [verLess_no v4 v5] at hj2
      rw [verLess_no v3 v5]
      exact le_trans3 hj2 f2
/-- what is built is closed -/
theorem build_closed {l : List En} {roots : List Md} (h0 : (startErr l roots).1 = 0) : closErr l roots (buildL l roots) = (0, -1) ∧ closB l roots (buildL l roots) = true := by
  have hG := rightG_of h0
  have hs : ∀ m ∈ buildL l roots, ∃ e ∈ l, e.md = m := fun m hm => hG.entry (build_reached hG hm)
  have hz : (selErr l (buildL l roots)).1 = 0 := selErr_zero.2 ⟨hs, hG.great.rise⟩
  have hr := riseB_iff.2 hG.great.rise
  refine ⟨?_, (closB_iff hG.idx hs).2 ⟨fun m hm => ?_, fun e he hm r hr => ?_⟩⟩
  · unfold closErr
    rw [startErr_at h0]
    unfold orE
    rw [if_neg (by simp)]
    unfold selErr
    rw [if_pos hr]
    unfold orE
    rw [if_neg (by have := (selErr_zero.1 hz).1; have := rootsErr_zero.2 this; simp [this])]
  · obtain ⟨x, hx, e1, e2⟩ := build_over hG (.root hm)
    exact (hasB_rise hG.great.rise).2 ⟨x, hx, e1, verLess_of_le e2⟩
  · obtain ⟨x, hx, e1, e2⟩ := build_over hG (.step he (build_reached hG hm) hr)
    exact (hasB_rise hG.great.rise).2 ⟨x, hx, e1, verLess_of_le e2⟩
theorem build_roots {l : List En} {roots : List Md} (hG : RightG l roots) : underB roots (buildL l roots) = true := by
  rw [under_mem]
  intro m hm
  obtain ⟨x, hx, e1, e2⟩ := build_over hG (.root hm)
  exact (hasB_rise hG.great.rise).2 ⟨x, hx, e1, verLess_of_le e2⟩
/-- what is built is under each that is closed -/
theorem build_least {l : List En} {roots sel : List Md} (h : (closErr l roots sel).1 = 0) (hc : closB l roots sel = true) (hl : risesB l = true) : underB (buildL l roots) sel = true := by
  obtain ⟨h0, hs, hr⟩ := closErr_zero.1 h
  have hG := rightG_of h0
  rw [under_mem]
  exact fun m hm => cox hG hs hr hc hl (build_reached hG hm)
end Go.Proofs.Pw

/- mod.Rise; slices.IsSortedFunc and slices.CompactFunc with its tests. Conditions: lists of at most 1000000. -/
namespace Go.Proofs.Pw
open Go.RowKit
open Go.Lib hiding intOf

theorem Tryz.enters_rise1 : ∀ args w, (callFunc 153 args).run Tryz.prog w = .ok (.enter 153 args) w := Go.Proofs.enters_of Tryz.func153 (by kernel_rfl) rfl
theorem Tryz.enters_rise2 : ∀ args w, (callFunc 155 args).run Tryz.prog w = .ok (.enter 155 args) w := Go.Proofs.enters_of Tryz.func155 (by kernel_rfl) rfl
theorem rise1_calls (p v q u : ByteArray) (w : World) :
    Calls Tryz.prog 153 #[.agg #[.string p, .string v], .agg #[.string q, .string u]] w fun e w' => e = .returned (.int .i64 (compareBytes p.data.toList q.data.toList)) ∧ Below w.heap.size w w' := by
  have hb1 := below_alloc w (.cells #[.string p, .string v] 26)
  have hb2 := below_alloc (w.alloc (.cells #[.string p, .string v] 26)) (.cells #[.string q, .string u] 26)
  have hB := below_step hb1 hb2
  obtain ⟨m0, m1, _⟩ := (box2_alloc w (.string p) (.string v) 26).below hb2
  obtain ⟨f0, f1, _⟩ := box2_alloc (w.alloc (.cells #[.string p, .string v] 26)) (.string q) (.string u) 26
  simp only [World.size_alloc] at f0 f1
  have hS := Tryz.strings_Compare p q
  replace hS := Lib.hid hS
  go_enter Tryz.func153, Tryz.ntmps153
  go_wp2_with fail
  refine (hS.out _).mono ?_
  rintro e w' ⟨rfl, rfl⟩
  go_wp2_with fail
  go_ret
  exact ⟨rfl, hB⟩
theorem rise2_calls (p v q u : ByteArray) (w : World) :
    Calls Tryz.prog 155 #[.agg #[.string p, .string v], .agg #[.string q, .string u]] w fun e w' => e = .returned (.bool (decide (p = q))) ∧ Below w.heap.size w w' := by
  have hb1 := below_alloc w (.cells #[.string p, .string v] 26)
  have hb2 := below_alloc (w.alloc (.cells #[.string p, .string v] 26)) (.cells #[.string q, .string u] 26)
  have hB := below_step hb1 hb2
  obtain ⟨m0, m1, _⟩ := (box2_alloc w (.string p) (.string v) 26).below hb2
  obtain ⟨f0, f1, _⟩ := box2_alloc (w.alloc (.cells #[.string p, .string v] 26)) (.string q) (.string u) 26
  simp only [World.size_alloc] at f0 f1
  have HD : Hid (decide (p = q) = (p.toList == q.toList)) := Lib.hid (by
    rw [toList_data, toList_data, Bool.eq_iff_iff, decide_eq_true_iff, beq_iff_eq, bytes_eq])
  go_enter Tryz.func155, Tryz.ntmps155
  go_wp2_with fail
  go_ret
  rw [HD.out]
  exact ⟨rfl, hB⟩

/-- are the paths in order (equal ones allowed) -/
def SortP (n : Nat) (P : Nat → ByteArray) : Prop := ∀ j, j + 1 < n → 0 ≤ compareBytes (P (j + 1)).data.toList (P j).data.toList
noncomputable def sortB (n : Nat) (P : Nat → ByteArray) : Bool := @decide (SortP n P) (Classical.propDecidable _)
theorem sortB_iff {n : Nat} {P : Nat → ByteArray} : sortB n P = true ↔ SortP n P := by
  unfold sortB
  exact @decide_eq_true_iff _ (Classical.propDecidable _)
set_option maxHeartbeats 2000000 in
set_option maxRecDepth 100000 in
theorem isSortedM_calls (a : Option Addr) (n cap : Nat) (P V : Nat → ByteArray) (w : World) (hn : n ≤ 1000000)
    (hc : ∀ j, j < n → ∃ b o, a = some ⟨b, o, none⟩ ∧ w.cell? ⟨b, o + j * 2, none⟩ = some (.string (P j)) ∧ w.cell? ⟨b, o + j * 2 + 1, none⟩ = some (.string (V j))) :
    Calls Tryz.prog 152 #[.slice a n cap, .func (.func 153) #[] #[]] w fun e w' => e = .returned (.bool (sortB n P)) ∧ Below w.heap.size w w' := by
  have eg := Tryz.enters_rise1
  have hDS := sortB_iff (n := n) (P := P)
  generalize sortB n P = DS at hDS ⊢
  replace hc := Lib.hid hc
  replace hDS := Lib.hid hDS
  go_enter Tryz.func152, Tryz.ntmps152
  have hn1 := wrap_nat n (by omega)
  go_wp2_with fail
  go_loopw [5] (fun i wr => ∃ k : Nat, (k : Int) ≤ n ∧ i = .int .i64 ((k : Int) - 1) ∧ Below w.heap.size w wr ∧ Hid (∀ j, k ≤ j + 1 → j + 1 < n → 0 ≤ compareBytes (P (j + 1)).data.toList (P j).data.toList)) (fun i _ => (intOf i).toNat)
  case atStart => exact ⟨n, by omega, rfl, Below.refl _ _, Lib.hid (fun j h1 h2 => by omega)⟩
  case round =>
    obtain ⟨k, hk, rfl, hB, HA⟩ := hrel
    by_cases hlt : (0 : Int) < (k : Int) - 1
    · obtain ⟨m, rfl⟩ : ∃ m, k = m + 2 := ⟨k - 2, by omega⟩
      have hm1 : ((m + 2 : Nat) : Int) - 1 = (m : Int) + 1 := by omega
      rw [hm1] at hlt ⊢
      obtain ⟨b1, o1, ea, c0, c1⟩ := hc.out (m + 1) (by omega)
      obtain ⟨b2, o2, eb, c2, c3⟩ := hc.out m (by omega)
      rw [ea] at eb
      injection eb with eb
      injection eb with eb1 eb2 _
      subst eb1 eb2 ea
      replace c0 := Below.cell_some hB c0
      replace c1 := Below.cell_some hB c1
      replace c2 := Below.cell_some hB c2
      replace c3 := Below.cell_some hB c3
      have hm2 : (m : Int) + 1 < (n : Int) := by omega
      have hm3 : (m : Int) < (n : Int) := by omega
      have hm4 : ((m : Int) + 1).toNat = m + 1 := by omega
      have hm5 : (0 : Int) ≤ (m : Int) + 1 := by omega
      have hm6 : (m : Int) + 1 - 1 = (m : Int) := by omega
      have hm7 := wrap_nat m (by omega)
      have hm8 : ¬ ((m : Int) + 1 < 0) := by omega
      have hcall := fun W => rise1_calls (P (m + 1)) (V (m + 1)) (P m) (V m) W
      obtain ⟨D, hD⟩ : ∃ D, D = compareBytes (P (m + 1)).data.toList (P m).data.toList := ⟨_, rfl⟩
      rw [← hD] at hcall
      have HD := Lib.hid hD
      replace hcall := Lib.hid hcall
      clear hD hk
      go_wp2_with fail
      by_cases h0 : D < 0
      ·
        have kqc0 := fun d os => cell_patch (d := d) (os := os) c0
        have kqc1 := fun d os => cell_patch (d := d) (os := os) c1
        have kqc2 := fun d os => cell_patch (d := d) (os := os) c2
        have kqc3 := fun d os => cell_patch (d := d) (os := os) c3
        refine wp_region_quiet_patch (by kernel_rfl) (by kernel_rfl) ?_
        repeat (go_big_quiet_step ((go_at_fn 153; exact Calls.patch_of (hcall.out _))))
        refine wpQuiet_nil ?_
        intro _ hw'
        obtain ⟨⟨dq, osq⟩, hw''⟩ := hw'
        subst hw''
        clear kqc0 kqc1 kqc2 kqc3
        have hb := below_patch wr dq osq
        replace hB := below_step hB hb
        clear hb
        generalize patch wr dq osq = w2 at hB ⊢
        clear c0 c1 c2 c3
        go_wp2_with fail
        go_ret
        have hF : DS = false := by
          cases DS with
          | false => rfl
          | true =>
            have := hDS.out.1 rfl m (by omega)
            rw [← HD.out] at this
            omega
        rw [hF]
        exact ⟨rfl, hB⟩
      ·
        have kqc0 := fun d os => cell_patch (d := d) (os := os) c0
        have kqc1 := fun d os => cell_patch (d := d) (os := os) c1
        have kqc2 := fun d os => cell_patch (d := d) (os := os) c2
        have kqc3 := fun d os => cell_patch (d := d) (os := os) c3
        refine wp_region_quiet_patch (by kernel_rfl) (by kernel_rfl) ?_
        repeat (go_big_quiet_step ((go_at_fn 153; exact Calls.patch_of (hcall.out _))))
        refine wpQuiet_nil ?_
        intro _ hw'
        obtain ⟨⟨dq, osq⟩, hw''⟩ := hw'
        subst hw''
        clear kqc0 kqc1 kqc2 kqc3
        have hb := below_patch wr dq osq
        replace hB := below_step hB hb
        clear hb
        generalize patch wr dq osq = w2 at hB ⊢
        clear c0 c1 c2 c3
        go_wp2_with fail
        go_roundw
        case rel =>
          refine ⟨m + 1, by omega, by go_num, hB, Lib.hid (fun j h1 h2 => ?_)⟩
          by_cases e : j = m
          · subst e; rw [← HD.out]; omega
          · exact HA.out j (by omega) h2
        case measure => simp [intOf]
    · have hk1 : ¬ ((k : Int) - 1 > 0) := by omega
      go_wp2_with fail
      go_ret
      rw [hDS.out.2 (fun j hj => HA.out j (by omega) hj)]
      exact ⟨rfl, hB⟩
end Go.Proofs.Pw

/- slices.CompactFunc with mod.Rise's test, in a row of one's own; mod.Rise. Conditions: lists of at most 1000000. -/
namespace Go.Proofs.Pw
open Go.RowKit
open Go.Lib hiding intOf

/-- no two neighbours of one path -/
def NoTwin (L : List (ByteArray × ByteArray)) : Prop := ∀ (i : Nat) (x y : ByteArray × ByteArray), L[i]? = some x → L[i + 1]? = some y → x.1 ≠ y.1
/-- what CompactFunc hands back: a slice that is as long if and only if there were no twins -/
def CompOut (L : List (ByteArray × ByteArray)) (e : Ending) : Prop := ∃ a m c, e = .returned (.slice a m c) ∧ m ≤ L.length ∧ (m = L.length ↔ NoTwin L)

set_option maxHeartbeats 8000000 in
set_option maxRecDepth 100000 in
theorem compactM_calls (base : Nat) (v : Value) (L : List (ByteArray × ByteArray)) (w : World) (hown : w.ownsRow base 26 2 v L.length (mdVs L)) (hbase : base ≤ w.heap.size) (hl : L.length ≤ 1000000) :
    Calls Tryz.prog 154 #[v, .func (.func 155) #[] #[]] w fun e w' => CompOut L e ∧ Below base w w' := by
  have eg := Tryz.enters_rise2
  by_cases h2 : L.length < 2
  · obtain ⟨a, m, c, rfl⟩ := own_form hown
    obtain rfl := own_len hown
    have hOut : CompOut L (.returned (.slice a L.length c)) := ⟨a, L.length, c, rfl, Nat.le_refl _, iff_of_true rfl (fun i x y _ hy => by have := (List.getElem?_eq_some_iff.1 hy).1; omega)⟩
    have h2' : (L.length : Int) < 2 := by omega
    have HO := Lib.hid hOut
    clear hOut h2
    go_enter Tryz.func154, Tryz.ntmps154
    go_wp2_with fail
    go_ret
    exact ⟨HO.out, Below.refl _ _⟩
  · rcases hown.2 with ⟨_, h3⟩ | ⟨g, cap, cur, rfl, hbg, hg, hnc, hm, hcs, htk⟩
    · omega
    · have h2' : ¬ (L.length : Int) < 2 := by omega
      have HO := Lib.hid hown
      have hgw : g < w.heap.size := (Array.getElem?_eq_some_iff.1 hg).1
      generalize hnL : L.length = n at *
      replace hnL := Lib.hid hnL
      clear hg htk hcs hown
      go_enter Tryz.func154, Tryz.ntmps154
      go_wp2_with fail
      go_loopw [5] (fun i wr => ∃ j : Nat, j + 1 ≤ n ∧ i = .int .i64 ((j : Int) + 1) ∧ Below w.heap.size w wr ∧ Hid (∀ (i : Nat) (x y : ByteArray × ByteArray), i < j → L[i]? = some x → L[i + 1]? = some y → x.1 ≠ y.1)) (fun i _ => n - (intOf i).toNat)
      case atStart => exact ⟨0, by omega, rfl, Below.refl _ _, Lib.hid (fun i x y h => absurd h (Nat.not_lt_zero _))⟩
      case round =>
        obtain ⟨j, hj, rfl, hB, HA⟩ := hrel
        have hj1 : (0 : Int) ≤ (j : Int) + 1 := by omega
        have hj2 : ((j : Int) + 1).toNat = j + 1 := by omega
        have hj3 := wrap_nat j (by omega)
        have hj4 : (j : Int) + 1 - 1 = (j : Int) := by omega
        have hj5 := wrap_nat (j + 1 + 1) (by omega)
        by_cases hlt : j + 1 < n
        · have hlt' : (j : Int) + 1 < (n : Int) := by omega
          have hj6 : (j : Int) < (n : Int) := by omega
          have hj7 : ¬ ((j : Int) + 1 < 0) := by omega
          obtain ⟨⟨x1, y1⟩, hx1⟩ : ∃ m, L[j + 1]? = some m := ⟨_, List.getElem?_eq_getElem (by have := hnL.out; omega)⟩
          obtain ⟨⟨x0, y0⟩, hx0⟩ : ∃ m, L[j]? = some m := ⟨_, List.getElem?_eq_getElem (by have := hnL.out; omega)⟩
          have hOr : wr.ownsRow base 26 2 (.slice (some ⟨g, 0, none⟩) n cap) L.length (mdVs L) := by rw [hnL.out]; exact ownsRow_kept HO.out hB
          obtain ⟨c0, c1, -⟩ := own_cells hOr hx1
          obtain ⟨c2, c3, -⟩ := own_cells hOr hx0
          have hcall := fun W => rise2_calls x1 y1 x0 y0 W
          have HX := Lib.hid (And.intro hx0 (And.intro hx1 hOr))
          replace hcall := Lib.hid hcall
          clear hx0 hx1 hOr
          go_wp2_with fail
          by_cases he : x1 = x0
          · subst he
            rw [decide_eq_true rfl] at hcall
            have kqc0 := fun d os => cell_patch (d := d) (os := os) c0
            have kqc1 := fun d os => cell_patch (d := d) (os := os) c1
            have kqc2 := fun d os => cell_patch (d := d) (os := os) c2
            have kqc3 := fun d os => cell_patch (d := d) (os := os) c3
            refine wp_region_quiet_patch (by kernel_rfl) (by kernel_rfl) ?_
            repeat (go_big_quiet_step ((go_at_fn 155; exact Calls.patch_of (hcall.out _))))
            refine wpQuiet_nil ?_
            intro _ hw'
            obtain ⟨⟨dq, osq⟩, hw''⟩ := hw'
            subst hw''
            clear kqc0 kqc1 kqc2 kqc3
            have hb := below_patch wr dq osq
            replace hB := below_step hB hb
            clear hb
            generalize patch wr dq osq = w2 at hB ⊢
            have hnt : ¬ NoTwin L := fun h => h j (x1, y0) (x1, y1) HX.out.1 HX.out.2.1 rfl
            have HNT := Lib.hid hnt
            clear c0 c1 c2 c3 hcall hnt HX HA
            have HQ : Hid (n = j + 1 + (n - (j + 1)) ∧ 1 ≤ n - (j + 1)) := Lib.hid ⟨by omega, by omega⟩
            have hq1 : 1 ≤ n - (j + 1) := by omega
            have hB2 := hB.mono hbase
            have hO2 : Hid (w2.ownsRow base 26 2 (.slice (some ⟨g, 0, none⟩) n cap) L.length (mdVs L)) := Lib.hid (by rw [hnL.out]; exact ownsRow_kept HO.out hB)
            go_wp2_with fail
            generalize n - (j + 1) = q at *
            have hq9 : q ≤ 1000000 := by have := HQ.out; omega
            go_loopw [5, 7] (fun i5 i7 wr => ∃ (k m : Nat) (M : List (ByteArray × ByteArray)), i5 = .int .i64 k ∧ i7 = .int .i64 ((m : Int) + 1) ∧ m + 1 ≤ q ∧ k ≤ j + 1 + m ∧ Below base w wr ∧ Hid (wr.ownsRow base 26 2 (.slice (some ⟨g, 0, none⟩) n cap) M.length (mdVs M)) ∧ Hid (M.length = n)) (fun _ i7 _ => q - (intOf i7).toNat)
            case atStart => exact ⟨j + 1, 0, L, by go_num, rfl, hq1, Nat.le_refl _, hB2, hO2, Lib.hid hnL.out⟩
            case round =>
              clear hB2 hO2
              obtain ⟨k, m, M, rfl, rfl, hmq, hkm, hBr, hOM, hMl⟩ := hrel
              have hBs := hBr.size
              have hm1 : (0 : Int) ≤ (m : Int) + 1 := by omega
              have hm2 : ((m : Int) + 1).toNat = m + 1 := by omega
              have hm3 := wrap_nat m (by have := HQ.out; omega)
              have hm4 : (m : Int) + 1 - 1 = (m : Int) := by omega
              have hm5 := wrap_nat (m + 1 + 1) (by have := HQ.out; omega)
              have hm7 : ¬ ((m : Int) + 1 < 0) := by omega
              by_cases hlt2 : m + 1 < q
              · have hlt3 : (m : Int) + 1 < (q : Int) := by omega
                have hm6 : (m : Int) < (q : Int) := by omega
                obtain ⟨⟨xa, ya⟩, hxa⟩ : ∃ z, M[j + 1 + (m + 1)]? = some z := ⟨_, List.getElem?_eq_getElem (by have := hMl.out; have := HQ.out; omega)⟩
                obtain ⟨⟨xb, yb⟩, hxb⟩ : ∃ z, M[j + 1 + m]? = some z := ⟨_, List.getElem?_eq_getElem (by have := hMl.out; have := HQ.out; omega)⟩
                obtain ⟨⟨xc, yc⟩, hxc⟩ : ∃ z, M[k]? = some z := ⟨_, List.getElem?_eq_getElem (by have := hMl.out; have := HQ.out; omega)⟩
                obtain ⟨c0, c1, -⟩ := own_cells hOM.out hxa
                obtain ⟨c2, c3, -⟩ := own_cells hOM.out hxb
                rw [show (j + 1 + (m + 1)) * 2 = (j + 1) * 2 + (m + 1) * 2 by omega] at c0 c1
                rw [show (j + 1 + m) * 2 = (j + 1) * 2 + m * 2 by omega] at c2 c3
                have hkn : (k : Int) < (n : Int) := by have := HQ.out; omega
                have hk0 : (0 : Int) ≤ (k : Int) := by omega
                have hcall := fun W => rise2_calls xa ya xb yb W
                obtain ⟨D, hD⟩ : ∃ D, D = decide (xa = xb) := ⟨_, rfl⟩
                rw [← hD] at hcall
                have HXC := Lib.hid hxc
                have hBq := Below.refl wr.heap.size wr
                replace hcall := Lib.hid hcall
                clear hD hxa hxb hxc
                cases D with
                | true =>
                  go_wp2_with fail
                  have kqc0 := fun d os => cell_patch (d := d) (os := os) c0
                  have kqc1 := fun d os => cell_patch (d := d) (os := os) c1
                  have kqc2 := fun d os => cell_patch (d := d) (os := os) c2
                  have kqc3 := fun d os => cell_patch (d := d) (os := os) c3
                  refine wp_region_quiet_patch (by kernel_rfl) (by kernel_rfl) ?_
                  repeat (go_big_quiet_step ((go_at_fn 155; exact Calls.patch_of (hcall.out _))))
                  refine wpQuiet_nil ?_
                  intro _ hw'
                  obtain ⟨⟨dq, osq⟩, hw''⟩ := hw'
                  subst hw''
                  clear kqc0 kqc1 kqc2 kqc3
                  have hb := below_patch wr dq osq
                  replace hBq := below_step hBq hb
                  clear hb
                  generalize patch wr dq osq = w3 at hBq ⊢
                  clear c0 c1 c2 c3
                  go_wp2_with fail
                  go_roundw
                  case rel => exact ⟨k, m + 1, M, rfl, by go_num, by omega, by omega, hBr.trans (hBq.mono (Nat.le_trans hbase hBs)), Lib.hid (ownsRow_kept hOM.out hBq), hMl⟩
                  case measure => simp [intOf]; omega
                | false =>
                  go_wp2_with fail
                  have kqc0 := fun d os => cell_patch (d := d) (os := os) c0
                  have kqc1 := fun d os => cell_patch (d := d) (os := os) c1
                  have kqc2 := fun d os => cell_patch (d := d) (os := os) c2
                  have kqc3 := fun d os => cell_patch (d := d) (os := os) c3
                  refine wp_region_quiet_patch (by kernel_rfl) (by kernel_rfl) ?_
                  repeat (go_big_quiet_step ((go_at_fn 155; exact Calls.patch_of (hcall.out _))))
                  refine wpQuiet_nil ?_
                  intro _ hw'
                  obtain ⟨⟨dq, osq⟩, hw''⟩ := hw'
                  subst hw''
                  clear kqc0 kqc1 kqc2 kqc3
                  have hb := below_patch wr dq osq
                  replace hBq := below_step hBq hb
                  replace c0 := Below.cell_some hb c0
                  replace c1 := Below.cell_some hb c1
                  clear hb
                  generalize patch wr dq osq = w3 at hBq c0 c1 ⊢
                  clear c2 c3
                  have hOq := ownsRow_kept hOM.out hBq
                  obtain ⟨d0, d1, -⟩ := own_cells (i := k) hOq HXC.out
                  have f0 := own_frozen (j := k * 2) hOq
                  have f1 := own_frozen (j := k * 2 + 1) hOq
                  have s1 : (w3.setCell ⟨g, k * 2, none⟩ (.string xa)).cell? ⟨g, k * 2 + 1, none⟩ = some (.string yc) := by rw [set_off _ (by omega)]; exact d1
                  have s2 : (w3.setCell ⟨g, k * 2, none⟩ (.string xa)).frozen? ⟨g, k * 2 + 1, none⟩ = false := by simpa using f1
                  have HP := Lib.hid (own_put (i := k) hOq xa ya)
                  have hB3 := hBr.trans (hBq.mono (Nat.le_trans hbase hBs))
                  have hwk := wrap_nat (k + 1) (by have := HQ.out; omega)
                  clear hOq
                  go_wp2_with fail
                  go_roundw
                  case rel => exact ⟨k + 1, m + 1, M.set k (xa, ya), by go_num, by go_num, by omega, by omega, below_put hB3 hbg _ _, HP, Lib.hid (by rw [List.length_set]; exact hMl.out)⟩
                  case measure => simp [intOf]; omega
              · obtain rfl : q = m + 1 := by omega
                have hkn : k < n := by have := HQ.out; omega
                have hOut : ∀ c, CompOut L (.returned (.slice (some ⟨g, 0, none⟩) k c)) := fun c => ⟨_, k, c, rfl, by rw [hnL.out]; omega, iff_of_false (by rw [hnL.out]; omega) HNT.out⟩
                rcases hOM.out.2 with ⟨h9, _⟩ | ⟨g5, c5, cur5, e5, _, hg5, _, _, hcs5, htk5⟩
                · cases h9
                · injection e5 with e5 e7 e6
                  clear e7
                  injection e5 with e5
                  injection e5 with e5
                  subst e5 e6
                  have hfit : k * 2 + (n - k) * 2 ≤ cur5.toList.length := by rw [Array.length_toList, hcs5]; omega
                  have hg5' : wr.heap[g]? = some (.cells cur5.toList.toArray 26 (0, 0)) := by rw [Array.toArray_toList]; exact hg5
                  have hzl := zeroCells_len (Value.agg #[.string ⟨#[]⟩, .string ⟨#[]⟩]).cells rfl (n - k)
                  have HF := Lib.hid (And.intro hfit (And.intro hzl (zeroMd_one (n - k))))
                  have HG := Lib.hid hg5'
                  have HOut := Lib.hid hOut
                  have hi1 : (k : Int) ≤ (n : Int) := by omega
                  have hi2 : ¬ (cap = k) := by omega
                  have hi3 : k ≤ cap := by omega
                  have hi4 : (k : Int) ≤ (cap : Int) := by omega
                  have hi5 : (n : Int) ≤ (cap : Int) := by omega
                  have hltz : ¬ (m : Int) + 1 < (m : Int) + 1 := by omega
                  have hzv : ∀ w, (zeroValue 26).run Tryz.prog w = .ok (.agg #[.string ⟨#[]⟩, .string ⟨#[]⟩]) w := Tryz.zeroValue26
                  clear hOM hg5 hg5' hfit hzl htk5 hcs5 hMl hOut
                  go_wp2_with (refine wpList_clearK rfl _ 22 rfl 26 (.agg #[.string ⟨#[]⟩, .string ⟨#[]⟩]) (n - k) Tryz.underlying22 hzv HF.out.2.1 HF.out.2.2 g (k * 2) _ (by omega) rfl _ 26 HG.out HF.out.1 base w hBr hbg ?_; intro w5 hg5 hb15 hc15)
                  go_ret
                  exact ⟨HOut.out _, hb15⟩
          · rw [decide_eq_false he] at hcall
            have kqc0 := fun d os => cell_patch (d := d) (os := os) c0
            have kqc1 := fun d os => cell_patch (d := d) (os := os) c1
            have kqc2 := fun d os => cell_patch (d := d) (os := os) c2
            have kqc3 := fun d os => cell_patch (d := d) (os := os) c3
            refine wp_region_quiet_patch (by kernel_rfl) (by kernel_rfl) ?_
            repeat (go_big_quiet_step ((go_at_fn 155; exact Calls.patch_of (hcall.out _))))
            refine wpQuiet_nil ?_
            intro _ hw'
            obtain ⟨⟨dq, osq⟩, hw''⟩ := hw'
            subst hw''
            clear kqc0 kqc1 kqc2 kqc3
            have hb := below_patch wr dq osq
            replace hB := below_step hB hb
            clear hb
            generalize patch wr dq osq = w2 at hB ⊢
            clear c0 c1 c2 c3
            have HE := Lib.hid he
            clear he
            go_wp2_with fail
            go_roundw
            case rel =>
              refine ⟨j + 1, by omega, by go_num, hB, Lib.hid (fun i x y hi h3 h4 => ?_)⟩
              by_cases e : i = j
              · subst e
                rw [HX.out.1] at h3
                rw [HX.out.2.1] at h4
                cases h3
                cases h4
                exact fun e => HE.out e.symm
              · exact HA.out i x y (by omega) h3 h4
            case measure => simp [intOf]; omega
        · have hlt' : ¬ (j : Int) + 1 < (n : Int) := by omega
          have hOut : CompOut L (.returned (.slice (some ⟨g, 0, none⟩) n cap)) := ⟨_, n, cap, rfl, by rw [hnL.out]; exact Nat.le_refl _, iff_of_true hnL.out.symm (fun i x y hx hy => HA.out i x y (by have := (List.getElem?_eq_some_iff.1 hy).1; have := hnL.out; omega) hx hy)⟩
          have HOut := Lib.hid hOut
          clear hOut
          go_wp2_with fail
          go_ret
          exact ⟨HOut.out, hB.mono hbase⟩

/-- the paths rise: in order, and no twins -/
theorem rise_parts {n : Nat} {P V : Nat → ByteArray} {L : List (ByteArray × ByteArray)} (hL : mdF n P V = mdTs L) : riseB (mdF n P V) = true ↔ SortP n P ∧ NoTwin L := by
  have hlen : L.length = n := by have := congrArg List.length hL; rw [mdF_length, mdTs_length] at this; exact this.symm
  have hget : ∀ i, i < n → ∃ y, L[i]? = some (P i, y) := fun i hi => by
    have h1 := mdF_get n P V i hi
    rw [hL] at h1
    unfold mdTs at h1
    rw [List.getElem?_map, List.getElem?_eq_getElem (by omega)] at h1
    have h2 := bytes_pair.1 (Option.some.inj h1)
    refine ⟨L[i].2, ?_⟩
    rw [List.getElem?_eq_getElem (by omega), ← h2.1]
  unfold riseB
  rw [List.all_eq_true, mdF_length]
  constructor
  · intro h
    have h1 : ∀ i, i + 1 < n → compareBytes (P i).data.toList (P (i + 1)).data.toList < 0 := fun i hi => by
      have := of_decide_eq_true (h i (by rw [List.mem_range]; omega))
      rw [mdAt_mdF (by omega), mdAt_mdF hi] at this
      exact this
    refine ⟨fun j hj => ?_, fun i x y hx hy => ?_⟩
    · have := (compareBytes_ord.anti _ _).1 (h1 j hj)
      omega
    · have hi := (List.getElem?_eq_some_iff.1 hy).1
      obtain ⟨u, hu⟩ := hget i (by omega)
      obtain ⟨v, hv⟩ := hget (i + 1) (by omega)
      rw [hu] at hx
      rw [hv] at hy
      cases hx
      cases hy
      intro e
      have := h1 i (by omega)
      rw [show P i = P (i + 1) from e, compareBytes_ord.self] at this
      omega
  · rintro ⟨h1, h2⟩ i hi
    rw [List.mem_range] at hi
    rw [mdAt_mdF (show i < n by omega), mdAt_mdF (show i + 1 < n by omega)]
    refine decide_eq_true ?_
    have h3 := h1 i (by omega)
    obtain ⟨u, hu⟩ := hget i (by omega)
    obtain ⟨v, hv⟩ := hget (i + 1) (by omega)
    have h4 := h2 i _ _ hu hv
    have h5 : compareBytes (P (i + 1)).data.toList (P i).data.toList ≠ 0 := fun e => h4 (bytes_eq.1 (compareBytes_zero e).symm)
    show compareBytes (P i).data.toList (P (i + 1)).data.toList < 0
    exact (compareBytes_ord.anti _ _).2 (by omega)

set_option maxHeartbeats 2000000 in
set_option maxRecDepth 100000 in
theorem modRise_calls (v : Value) (l : List Md) (w : World) (h : ModsAt w v l) (hl : l.length ≤ 1000000) :
    Calls Tryz.prog 116 #[v] w fun e w' => e = .returned (.bool (riseB l)) ∧ Below w.heap.size w w' := by
  have hcl := fun W hb => cloneM_calls v l W (h.below hb) hl
  obtain ⟨a, n, cap, P, V, rfl, rfl, hnc, hcap, hc⟩ := h
  rw [mdF_length] at hl
  have hso := isSortedM_calls a n cap P V w hl hc
  have hSI := sortB_iff (n := n) (P := P)
  have HRP := Lib.hid (fun L hL => rise_parts (n := n) (P := P) (V := V) (L := L) hL)
  generalize sortB n P = DS at hso hSI
  generalize hRB : riseB (mdF n P V) = RB at *
  replace hso := Lib.hid hso
  replace hcl := Lib.hid hcl
  replace hSI := Lib.hid hSI
  clear hc hRB
  cases DS with
  | false =>
    have hF : RB = false := by
      cases RB with
      | false => rfl
      | true =>
        obtain ⟨L, hL⟩ : ∃ L, mdF n P V = mdTs L := ⟨mdL n P V, (mdL_ts n P V).symm⟩
        exact absurd (hSI.out.2 ((HRP.out L hL).1 rfl).1) (by decide)
    rw [hF]
    clear HRP hF
    go_enter Tryz.func116, Tryz.ntmps116
    go_wp2_with fail
    refine hso.out.mono ?_
    rintro e w1 ⟨rfl, hb⟩
    go_wp2_with fail
    go_ret
    exact ⟨rfl, hb⟩
  | true =>
    go_enter Tryz.func116, Tryz.ntmps116
    go_wp2_with fail
    refine hso.out.mono ?_
    rintro e w1 ⟨rfl, hb⟩
    have hcl1 := hcl.out w1 hb
    replace hcl1 := Lib.hid hcl1
    clear hso hcl
    go_wp2_with fail
    refine hcl1.out.mono ?_
    rintro e w2 ⟨v2, L2, rfl, hL2, ho2, hb2⟩
    have hl2 : L2.length = n := by have := congrArg List.length hL2; rw [mdF_length, mdTs_length] at this; exact this.symm
    have hco := compactM_calls w1.heap.size v2 L2 w2 ho2 hb2.size (by omega)
    have hR := HRP.out L2 hL2
    have HB : Hid (∀ m : Nat, (m = L2.length ↔ NoTwin L2) → (((m : Int) == (n : Int)) = RB)) := Lib.hid (fun m hm => by
      rw [Bool.eq_iff_iff, hR, beq_iff_eq]
      constructor
      · intro e
        exact ⟨by first | exact hSI.out.1 rfl | exact hSI.out.1 trivial, hm.1 (by omega)⟩
      · intro e
        have := hm.2 e.2
        omega)
    obtain ⟨a2, n2, c2, rfl⟩ := own_form ho2
    have hB2 := below_step hb hb2
    have hbs := hb2.size
    replace hco := Lib.hid hco
    clear hcl1 hL2 ho2 hl2 hR
    go_wp2_with fail
    refine hco.out.mono ?_
    rintro e w3 ⟨⟨a3, m3, c3, rfl, _, hm3⟩, hb3⟩
    have HM := Lib.hid (HB.out m3 hm3)
    clear hco hm3 HB
    go_wp2_with fail
    go_ret
    refine ⟨?_, hB2.trans (hb3.mono (Nat.le_trans hb.size (Nat.le_refl _)))⟩
    rw [← HM.out]
    rfl
end Go.Proofs.Pw

/- mvs.Selection. Conditions: texts of at most 1000000 bytes, lists of at most 1000000. -/
namespace Go.Proofs.Pw
open Go.RowKit
open Go.Lib hiding intOf

set_option maxHeartbeats 4000000 in
set_option maxRecDepth 100000 in
theorem selection_in (ks : List Nat) (A : Nat → Addr) (hks : IdxKs ks) (a : Option Addr) (n cap : Nat) (P V : Nat → ByteArray) (R : Nat → List Md) (K : Nat → List Str) (B : Nat → Bool) (Rv Kv : Nat → Value) (rv : Value) (sel : List Md) (w : World) (hE : EnvP ks A w) (h : EntsIn w a n cap P V R K B Rv Kv) (hn : n ≤ 1000000) (hr : ModsAt w rv sel) (hl : sel.length ≤ 1000000) :
    Calls Tryz.prog 109 #[.slice a n cap, rv] w fun e w' => (∃ v, e = .returned v ∧ FaultAt A w' v (selErr (enF n P V R K B) sel)) ∧ Below w.heap.size w w' := by
  have HSL : Hid (selErr (enF n P V R K B) sel = orE (firstE (rootE (enF n P V R K B) sel) sel.length) (if riseB sel = true then (0, -1) else (8, -1))) := Lib.hid rfl
  have hri := fun W hb => modRise_calls rv sel W (hr.below hb) hl
  have H := Lib.hid h
  clear h
  obtain ⟨ar, rn, rc, P2, V2, rfl, rfl, h5, h6, h7⟩ := hr
  rw [mdF_length] at hl HSL
  have hB0 := Below.refl w.heap.size w
  replace h7 := Lib.hid h7
  replace hri := Lib.hid hri
  clear h5 h6
  go_enter Tryz.func109, Tryz.ntmps109
  go_wp2_with fail
  go_loopw [5, 6, 9] (fun _ _ i wr => ∃ k : Nat, k ≤ rn ∧ i = .int .i64 k ∧ Below w.heap.size w wr ∧ Hid (∀ j, j < k → rootE (enF n P V R K B) (mdF rn P2 V2) j = 0)) (fun _ _ i _ => rn - (intOf i).toNat)
  case atStart => exact ⟨0, Nat.zero_le _, rfl, hB0, Lib.hid (fun j hj => absurd hj (Nat.not_lt_zero _))⟩
  case round =>
    obtain ⟨k, hk, rfl, hBr, HA⟩ := hrel
    by_cases hlt : k < rn
    · have hkn : (k : Int) < (rn : Int) := by omega
      obtain ⟨b1, o1, ea, c0, c1⟩ := h7.out k hlt
      replace c0 := Below.cell_some hBr c0
      replace c1 := Below.cell_some hBr c1
      have hba := below_alloc wr (.cells #[.string (P2 k), .string (V2 k)] 26)
      obtain ⟨y0, y1, _⟩ := box2_alloc wr (.string (P2 k)) (.string (V2 k)) 26
      have hB2 := below_step hBr hba
      have hE2 := hE.below hB2
      have hf := idxFind_in a n cap P V R K B Rv Kv (P2 k) (V2 k) (wr.alloc (.cells #[.string (P2 k), .string (V2 k)] 26)) (H.out.below hB2) hn
      have hR : rootE (enF n P V R K B) (mdF rn P2 V2) k = if findE (enF n P V R K B) ((P2 k).data.toList, (V2 k).data.toList) < 0 then 5 else 0 := by
        unfold rootE
        rw [mdAt_mdF hlt]
      generalize findE (enF n P V R K B) ((P2 k).data.toList, (V2 k).data.toList) = x at hf hR
      subst ea
      replace hf := Lib.hid hf
      by_cases hx : x < 0
      · rw [if_pos hx] at hR
        have HF : Hid (selErr (enF n P V R K B) (mdF rn P2 V2) = (5, (k : Int))) := Lib.hid (by
          have h0 := firstE_hit (g := rootE (enF n P V R K B) (mdF rn P2 V2)) (by rw [hR]; decide) HA.out hlt
          rw [HSL.out, h0, hR]
          rfl)
        clear hR hk
        go_wp2_with fail
        refine hf.out.mono ?_
        rintro e w8 ⟨rfl, hb8⟩
        have hE8 := hE2.below hb8
        have g5 := hE8.errs.var 5 hks.2.2.1
        simp only [errG] at g5
        go_wp2_with fail
        go_ret
        rw [HF.out]
        refine ⟨⟨_, rfl, .inr (.inr ⟨(show (5 : Nat) ≠ 0 by decide), w8.heap.size, rfl, by simp, ?_⟩)⟩, (below_step hB2 hb8).alloc (below_step hB2 hb8).size _⟩
        show _ = some (errV A 5)
        rw [errV_pos A (show (5 : Nat) ≠ 0 by decide)]
        simp
      · rw [if_neg hx] at hR
        have HN : Hid (∀ j, j < k + 1 → rootE (enF n P V R K B) (mdF rn P2 V2) j = 0) := Lib.hid (fun j hj => by
          by_cases e : j = k
          · subst e; exact hR
          · exact HA.out j (by omega))
        clear hR hk
        go_wp2_with fail
        refine hf.out.mono ?_
        rintro e w8 ⟨rfl, hb8⟩
        go_wp2_with fail
        go_roundw
        case rel => exact ⟨k + 1, by omega, by go_num, below_step hB2 hb8, HN⟩
        case measure => simp [intOf]; omega
    · obtain rfl : rn = k := by omega
      have HF : Hid (selErr (enF n P V R K B) (mdF rn P2 V2) = if riseB (mdF rn P2 V2) = true then (0, -1) else (8, -1)) := Lib.hid (by
        rw [HSL.out, firstE_none HA.out]; rfl)
      have hri := hri.out _ hBr
      generalize riseB (mdF rn P2 V2) = D at hri HF
      have hEr := hE.below hBr
      replace hri := Lib.hid hri
      clear hlt HA HSL
      cases D with
      | true =>
        go_wp2_with fail
        refine hri.out.mono ?_
        rintro e w8 ⟨rfl, hb8⟩
        go_wp2_with fail
        go_ret
        rw [HF.out]
        exact ⟨⟨_, rfl, .inl ⟨rfl, rfl, rfl⟩⟩, below_step hBr hb8⟩
      | false =>
        go_wp2_with fail
        refine hri.out.mono ?_
        rintro e w8 ⟨rfl, hb8⟩
        have g8 := (hEr.below hb8).errs.var 8 hks.2.2.2.2
        simp only [errG] at g8
        go_wp2_with fail
        go_ret
        rw [HF.out]
        refine ⟨⟨_, rfl, .inr (.inl ⟨by decide, rfl, ?_⟩)⟩, below_step hBr hb8⟩
        show _ = errV A 8
        rw [errV_pos A (show (8 : Nat) ≠ 0 by decide)]
        rfl
end Go.Proofs.Pw

/- mvs.Closed. Conditions: texts of at most 1000000 bytes, lists of at most 100000. -/
namespace Go.Proofs.Pw
open Go.RowKit
open Go.Lib hiding intOf

theorem Tryz.enters_closed1 : ∀ args w, (callFunc 110 args).run Tryz.prog w = .ok (.enter 110 args) w := Go.Proofs.enters_of Tryz.func110 (by kernel_rfl) rfl
theorem closed1_calls (ks : List Nat) (A : Nat → Addr) (v : Value) (l : List Md) (p q : ByteArray) (b : Nat) (w : World) (hE : EnvP ks A w) (h : ModsAt w v l) (hl : l.length ≤ 1000000) (hs : ∀ m ∈ l, m.2.length ≤ 1000000000) (hq : q.size ≤ 1000000000) (hc : w.cell? ⟨b, 0, none⟩ = some v) :
    Calls Tryz.prog 110 #[.agg #[.string p, .string q], .pointer (some ⟨b, 0, none⟩)] w fun e w' => e = .returned (.bool (!hasB l (p.data.toList, q.data.toList))) ∧ Below w.heap.size w w' := by
  have hb := below_alloc w (.cells #[.string p, .string q] 26)
  have c0 := Below.cell_some hb hc
  obtain ⟨y0, y1, _⟩ := box2_alloc w (.string p) (.string q) 26
  have hh := has_calls ks A v l p q (w.alloc (.cells #[.string p, .string q] 26)) (hE.below hb) (h.below hb) hl hs hq
  obtain ⟨a, n, cap, _, _, rfl, _⟩ := id h
  generalize hasB l (p.data.toList, q.data.toList) = D at hh ⊢
  replace hh := Lib.hid hh
  clear h hs
  go_enter Tryz.func110, Tryz.ntmps110
  go_wp2_with fail
  refine hh.out.mono ?_
  rintro e w1 ⟨rfl, hb1⟩
  go_wp2_with fail
  go_ret
  exact ⟨rfl, below_step hb hb1⟩

theorem mods_form {w : World} {v : Value} {l : List Md} (h : ModsAt w v l) : ∃ P V, l = mdF l.length P V := by
  obtain ⟨a, n, cap, P, V, rfl, rfl, _⟩ := h
  exact ⟨P, V, by rw [mdF_length]⟩
theorem flat_snoc {l : List En} {n : Nat} {P V : Nat → ByteArray} {k : Nat} (hk : k < n) : ((mdF n P V).take (k + 1)).flatMap (reqsAt l) = ((mdF n P V).take k).flatMap (reqsAt l) ++ reqsAt l ((P k).data.toList, (V k).data.toList) := by
  rw [mdF_take_succ n P V k hk, List.flatMap_append]; simp
theorem reqsAt_nat {l : List En} {m : Md} {i : Nat} (h : findE l m = i) : reqsAt l m = (enAt l i).reqs := by
  unfold reqsAt
  rw [h]; rfl
theorem closErr_idx {l : List En} {roots sel : List Md} (h : (idxErr l).1 ≠ 0) : closErr l roots sel = idxErr l := by
  unfold closErr startErr
  have e : orE (idxErr l) (rootsErr l roots) = idxErr l := by unfold orE; rw [if_pos h]
  rw [e]
  unfold orE; rw [if_pos h]
theorem closErr_root {l : List En} {roots sel : List Md} (h : (idxErr l).1 = 0) (h2 : (rootsErr l roots).1 ≠ 0) : closErr l roots sel = rootsErr l roots := by
  unfold closErr startErr
  have e : orE (idxErr l) (rootsErr l roots) = rootsErr l roots := by unfold orE; rw [if_neg (by simp [h])]
  rw [e]
  unfold orE; rw [if_pos h2]
theorem closErr_sel {l : List En} {roots sel : List Md} (h : (idxErr l).1 = 0) (h2 : (rootsErr l roots).1 = 0) : closErr l roots sel = selErr l sel := by
  unfold closErr startErr
  have e : orE (idxErr l) (rootsErr l roots) = rootsErr l roots := by unfold orE; rw [if_neg (by simp [h])]
  rw [e]
  unfold orE; rw [if_neg (by simp [h2])]
theorem closR_bad {l : List En} {roots sel : List Md} (h : (closErr l roots sel).1 ≠ 0) : closR l roots sel = false := if_neg h
theorem rightI_small {l : List En} (h : RightI l) (hs : ShortI l) (m : Md) : (reqsAt l m).length ≤ 20 ∧ ∀ r ∈ reqsAt l m, r.2.length ≤ 1000000 := by
  unfold reqsAt
  by_cases hk : (findE l m).toNat < l.length
  · have he := enAt_mem hk
    exact ⟨h.small he, fun r hr => ((hs.reqs _ he).2 r hr).2⟩
  · unfold enAt
    rw [List.getD_eq_getElem?_getD, List.getElem?_eq_none (by omega)]
    exact ⟨by decide, fun r hr => by cases hr⟩
theorem flat_len {f : Md → List Md} (h : ∀ m, (f m).length ≤ 20) : ∀ l : List Md, (l.flatMap f).length ≤ l.length * 20
  | [] => by simp
  | a :: r => by
    rw [List.flatMap_cons, List.length_append, List.length_cons]
    have := flat_len h r
    have := h a
    omega

set_option maxHeartbeats 8000000 in
set_option maxRecDepth 100000 in
theorem closed_in (ks : List Nat) (A : Nat → Addr) (hks : IdxKs ks) (a : Option Addr) (n cap : Nat) (P V : Nat → ByteArray) (R : Nat → List Md) (K : Nat → List Str) (B : Nat → Bool) (Rv Kv : Nat → Value) (rv sv : Value) (roots sel : List Md) (w : World) (hE : EnvP ks A w) (h : EntsIn w a n cap P V R K B Rv Kv) (hs : ShortI (enF n P V R K B)) (hr : ModsAt w rv roots) (hv : ModsAt w sv sel) (hl : roots.length ≤ 10000) (hl2 : sel.length ≤ 10000) (hrs : ∀ m ∈ roots, m.2.length ≤ 1000000) (hss : ∀ m ∈ sel, m.2.length ≤ 1000000) :
    Calls Tryz.prog 48 #[.slice a n cap, rv, sv] w fun e w' => (∃ ev, e = .returned (.tuple #[.bool (closR (enF n P V R K B) roots sel), ev]) ∧ FaultAt A w' ev (closErr (enF n P V R K B) roots sel)) ∧ Below w.heap.size w w' := by
  have hn : n ≤ 1000000 := by have := hs.len; rw [enF_length] at this; exact this
  obtain ⟨a2, n2, c2, P4, V4, rfl, hsel, _, _, hc4⟩ := id hv
  have hb0 := below_alloc w (.cells #[.slice a2 n2 c2] 22)
  have z0 : (w.alloc (.cells #[.slice a2 n2 c2] 22)).cell? ⟨w.heap.size, 0, none⟩ = some (.slice a2 n2 c2) := by simp
  have hck := fun W hb => idxCheck_in ks A hks a n cap P V R K B Rv Kv W (hE.below hb) (h.below hb) hs
  have hse := fun W hb => selection_in ks A hks a n cap P V R K B Rv Kv (.slice a2 n2 c2) sel W (hE.below hb) (h.below hb) hn (hv.below hb) (by omega)
  have hcl := fun W hb => cloneM_calls rv roots W (hr.below hb) (by omega)
  have H := Lib.hid h
  have HE := Lib.hid hE
  have HV := Lib.hid hv
  have HRV := Lib.hid hr
  have HS := Lib.hid hs
  have HRS := Lib.hid hrs
  have HSS := Lib.hid hss
  have HCE : Hid (∀ r : Nat × Int, r = rootsErr (enF n P V R K B) roots → r = firstE (rootE (enF n P V R K B) roots) roots.length) := Lib.hid (fun r h => h)
  obtain ⟨ar, rn, rc, P2, V2, rfl, hro, h5, h6, h7⟩ := hr
  have hrn : rn ≤ 10000 := by have := congrArg List.length hro; rw [mdF_length] at this; omega
  have hn2 : n2 ≤ 10000 := by have := congrArg List.length hsel; rw [mdF_length] at this; omega
  have HRO := Lib.hid hro
  have HSEL := Lib.hid hsel
  have hB := hb0
  replace hck := Lib.hid hck
  replace hse := Lib.hid hse
  replace hcl := Lib.hid hcl
  replace h7 := Lib.hid h7
  replace hc4 := Lib.hid hc4
  clear h hs hrs hss hv h5 h6 hb0 hE hro hsel
  go_enter Tryz.func48, Tryz.ntmps48
  go_wp2_with fail
  generalize w.alloc (.cells #[.slice a2 n2 c2] 22) = w0 at *
  refine (hck.out _ hB).mono ?_
  rintro e w1 ⟨⟨v, rfl, hv⟩, hb⟩
  replace hB := below_step hB hb
  replace z0 := Below.cell_some hb z0
  clear hb
  rcases fault_form hv with ⟨h0, rfl⟩ | ⟨h0, ty, q, rfl⟩
  · have HI0 := Lib.hid h0
    clear hv h0
    go_wp2_with fail
    go_loopw [9, 10, 22] (fun _ _ i wr => ∃ k : Nat, k ≤ rn ∧ i = .int .i64 k ∧ Below w1.heap.size w1 wr ∧ Hid (∀ j, j < k → rootE (enF n P V R K B) roots j = 0)) (fun _ _ i _ => rn - (intOf i).toNat)
    case atStart => exact ⟨0, Nat.zero_le _, rfl, Below.refl _ _, Lib.hid (fun j hj => absurd hj (Nat.not_lt_zero _))⟩
    case round =>
      obtain ⟨k, hk, rfl, hbr, HA⟩ := hrel
      have hBr := below_step hB hbr
      by_cases hlt : k < rn
      · have hkn : (k : Int) < (rn : Int) := by omega
        obtain ⟨b1, o1, ea, c0, c1⟩ := h7.out k hlt
        replace c0 := Below.cell_some hBr c0
        replace c1 := Below.cell_some hBr c1
        have hba := below_alloc wr (.cells #[.string (P2 k), .string (V2 k)] 26)
        obtain ⟨y0, y1, _⟩ := box2_alloc wr (.string (P2 k)) (.string (V2 k)) 26
        have hb2 := below_step hbr hba
        have hB2 := below_step hBr hba
        have hE2 := HE.out.below hB2
        have hf := idxFind_in a n cap P V R K B Rv Kv (P2 k) (V2 k) (wr.alloc (.cells #[.string (P2 k), .string (V2 k)] 26)) (H.out.below hB2) hn
        have hR : rootE (enF n P V R K B) roots k = if findE (enF n P V R K B) ((P2 k).data.toList, (V2 k).data.toList) < 0 then 5 else 0 := by
          unfold rootE
          rw [HRO.out, mdAt_mdF hlt]
        generalize findE (enF n P V R K B) ((P2 k).data.toList, (V2 k).data.toList) = x at hf hR
        subst ea
        replace hf := Lib.hid hf
        by_cases hx : x < 0
        · rw [if_pos hx] at hR
          have hrl : roots.length = rn := by rw [HRO.out, mdF_length]
          have hre : rootsErr (enF n P V R K B) roots = (5, (k : Int)) := by
            have h0 := firstE_hit (g := rootE (enF n P V R K B) roots) (by rw [hR]; decide) HA.out hlt
            rw [hR] at h0
            unfold rootsErr
            rw [hrl, h0]
          have hce := closErr_root (sel := sel) HI0.out (by rw [hre]; exact (by decide : (5 : Nat) ≠ 0))
          rw [hre] at hce
          have HF := Lib.hid (And.intro hce (closR_bad (by rw [hce]; exact (by decide : (5 : Nat) ≠ 0))))
          clear hR hk hre hce hrl
          go_wp2_with fail
          refine hf.out.mono ?_
          rintro e w8 ⟨rfl, hb8⟩
          have hE8 := hE2.below hb8
          have hB8 := below_step hB2 hb8
          have g5 := hE8.errs.var 5 hks.2.2.1
          simp only [errG] at g5
          go_wp2_with fail
          go_region
          all_goals
            go_wp2_with fail
            go_ret2
            rw [HF.out.1, HF.out.2]
            refine ⟨⟨_, rfl, .inr (.inr ⟨(show (5 : Nat) ≠ 0 by decide), w8.heap.size, rfl, by simp, ?_⟩)⟩, hB8.drew.alloc (by have := hB8.size; simpa using this) _⟩
            show _ = some (errV A 5)
            rw [errV_pos A (show (5 : Nat) ≠ 0 by decide)]
            simp
        · rw [if_neg hx] at hR
          have HN : Hid (∀ j, j < k + 1 → rootE (enF n P V R K B) roots j = 0) := Lib.hid (fun j hj => by
            by_cases e : j = k
            · subst e; exact hR
            · exact HA.out j (by omega))
          clear hR hk
          go_wp2_with fail
          refine hf.out.mono ?_
          rintro e w8 ⟨rfl, hb8⟩
          go_wp2_with fail
          go_roundw
          case rel => exact ⟨k + 1, by omega, by go_num, below_step hb2 hb8, HN⟩
          case measure => simp [intOf]; omega
      · obtain rfl : rn = k := by omega
        have hre : (rootsErr (enF n P V R K B) roots).1 = 0 := by
          unfold rootsErr
          rw [show roots.length = rn by rw [HRO.out, mdF_length], firstE_none HA.out]
        have hce := closErr_sel (sel := sel) HI0.out hre
        have HCS := Lib.hid hce
        have HRE := Lib.hid hre
        replace z0 := Below.cell_some hbr z0
        clear hlt HA hre hce hB hbr HCE h7
        go_wp2_with fail
        refine (hse.out _ hBr).mono ?_
        rintro e w2 ⟨⟨v, rfl, hv⟩, hb⟩
        have hB2 := below_step hBr hb
        replace z0 := Below.cell_some hb z0
        clear hb hBr hse hck
        rcases fault_form hv with ⟨h0, rfl⟩ | ⟨h0, ty, q, rfl⟩
        · have HSE := Lib.hid h0
          have hRI := rightI_of HI0.out
          have hsm := rightI_small hRI HS.out
          have hsx := (selErr_zero.1 h0).1
          have HF := Lib.hid hv
          clear hv h0
          have HSM := Lib.hid hsm
          have HSX := Lib.hid hsx
          have hz2 := z0
          have hCR : closR (enF n P V R K B) roots sel = closB (enF n P V R K B) roots sel := by unfold closR; rw [if_pos (by rw [HCS.out]; exact HSE.out)]
          have HCR := Lib.hid hCR
          clear hRI hsm hsx hCR
          go_wp2_with fail
          refine (hcl.out _ hB2).mono ?_
          rintro e w3 ⟨v3, L3, rfl, hL3, ho3, hb⟩
          have hB3 := below_step hB2 hb
          replace z0 := Below.cell_some hb z0
          have hl3 : L3.length ≤ 10000 := by have := congrArg List.length hL3; rw [mdTs_length] at this; omega
          have HO3 := Lib.hid ho3
          have HL3 : Hid (mdTs L3 = roots ++ (sel.take 0).flatMap (reqsAt (enF n P V R K B))) := Lib.hid (by rw [← hL3]; simp)
          clear hcl ho3 hL3
          go_wp2_with fail
          go_loopw [12, 14, 47] (fun o _ i wr => ∃ (k : Nat) (L : List (ByteArray × ByteArray)), k ≤ n2 ∧ i = .int .i64 k ∧ Hid (wr.ownsRow w2.heap.size 26 2 o L.length (mdVs L)) ∧ L.length ≤ 10000 + k * 20 ∧ Hid (mdTs L = roots ++ (sel.take k).flatMap (reqsAt (enF n P V R K B))) ∧ Below w2.heap.size w2 wr) (fun _ _ i _ => n2 - (intOf i).toNat)
          case atStart => exact ⟨0, L3, Nat.zero_le _, rfl, HO3, by omega, HL3, hb⟩
          case round =>
            clear HO3 HL3 z0 hb hl3
            obtain ⟨k, L, hk, rfl, hO, hLk, hT, hbr⟩ := hrel
            have hBr := below_step hB2 hbr
            have z0 := Below.cell_some hbr hz2
            obtain ⟨ao, no, co, rfl⟩ := own_form hO.out
            by_cases hlt : k < n2
            · have hkn : (k : Int) < (n2 : Int) := by omega
              obtain ⟨b1, o1, ea, c0, c1⟩ := hc4.out k hlt
              replace c0 := Below.cell_some hBr c0
              replace c1 := Below.cell_some hBr c1
              have hba := below_alloc wr (.cells #[.string (P4 k), .string (V4 k)] 26)
              obtain ⟨y0, y1, _⟩ := box2_alloc wr (.string (P4 k)) (.string (V4 k)) 26
              have hbr2 := below_step hbr hba
              have hBr2 := below_step hBr hba
              have hf := idxFind_in a n cap P V R K B Rv Kv (P4 k) (V4 k) (wr.alloc (.cells #[.string (P4 k), .string (V4 k)] 26)) (H.out.below hBr2) hn
              have hmem : ((P4 k).data.toList, (V4 k).data.toList) ∈ sel := by rw [HSEL.out]; exact List.mem_of_getElem? (mdF_get n2 P4 V4 k hlt)
              obtain ⟨en, hen, hem⟩ := HSX.out _ hmem
              have hnf : ¬ findE (enF n P V R K B) ((P4 k).data.toList, (V4 k).data.toList) < 0 := fun h => findE_lt.1 h en hen hem
              obtain ⟨i, hi, hil, him⟩ := findE_nat hnf
              rw [enF_length] at hil
              have hreq : reqsAt (enF n P V R K B) ((P4 k).data.toList, (V4 k).data.toList) = R i := by
                rw [reqsAt_nat hi, enAt_enF hil]
              have hRl : (R i).length ≤ 20 := by rw [← hreq]; exact (HSM.out _).1
              rw [hi] at hf
              obtain ⟨b5, o5, ea5, hcell⟩ := H.out.at_ i hil
              obtain ⟨a7, n7, s7, a8, n8, s8, e7, e8⟩ := H.out.forms hil
              have hMi := H.out.reqs i hil
              rw [e7, e8] at hcell
              rw [e7] at hMi
              have HMi := Lib.hid hMi
              have c5 := Below.cell_some hBr2 hcell.c2
              have hin : (i : Int) < (n : Int) := by omega
              have HN : Hid (roots ++ (sel.take (k + 1)).flatMap (reqsAt (enF n P V R K B)) = mdTs L ++ R i) := Lib.hid (by
                rw [hT.out, HSEL.out, flat_snoc hlt, hreq, ← List.append_assoc])
              subst ea ea5
              have hOa := Lib.hid (ownsRow_kept hO.out hba)
              replace hf := Lib.hid hf
              clear hmem hen hem hnf hi him hreq hMi hcell e7 e8 hO hT
              go_wp2_with fail
              refine hf.out.mono ?_
              rintro e w8 ⟨rfl, hb8⟩
              have hbr8 := below_step hbr2 hb8
              have hBr8 := below_step hBr2 hb8
              replace c5 := Below.cell_some hb8 c5
              have hO8 := ownsRow_kept hOa.out hb8
              obtain ⟨o9, w9, hap, ⟨L9, hL9, ho9⟩, hg9⟩ := app_mods w8 w2.heap.size hbr8.size _ _ L _ hO8 (HMi.out.below hBr8) (by omega) (by omega)
              have hown := fun q (e : (Value.slice ao no co).ownBlock = some q) => (hO8.lt q e).1
              have hbr9 : Below w2.heap.size w2 w9 := hbr8.grown hg9 hbr8.size hown
              have hl9 : L9.length ≤ 10000 + (k + 1) * 20 := by
                have := congrArg List.length hL9
                rw [mdTs_length, List.length_append, mdTs_length] at this
                omega
              have HAP := Lib.hid hap
              have HO9 := Lib.hid ho9
              have HL9 : Hid (mdTs L9 = roots ++ (sel.take (k + 1)).flatMap (reqsAt (enF n P V R K B))) := Lib.hid (by rw [hL9, HN.out])
              clear hap ho9 hL9 hg9 hO8 hf hown hb8
              go_wp2_with (at_builtin; refine wpList_append_run rfl _ _ 22 rfl _ _ rfl rfl _ _ HAP.out ?_)
              go_roundw
              case rel => exact ⟨k + 1, L9, hlt, by go_num, HO9, hl9, HL9, hbr9⟩
              case measure => simp [intOf]; omega
            · obtain rfl : n2 = k := by omega
              have hst : sel.take n2 = sel := List.take_of_length_le (by rw [HSEL.out, mdF_length]; exact Nat.le_refl _)
              have hT2 := hT.out
              rw [hst] at hT2
              have hm := modsAt_own hO.out
              rw [hT2] at hm
              obtain ⟨a9, n9, c9, P9, V9, e9, e10, _, _, hc9⟩ := hm
              have hn9 : n9 ≤ 1000000 := by
                have := congrArg List.length hT2
                rw [e10, mdF_length, mdTs_length] at this
                omega
              have hss9 : ∀ m ∈ sel, m.2.length ≤ 1000000000 := fun m hm => by have := HSS.out m hm; omega
              have hall9 : ∀ m ∈ roots ++ sel.flatMap (reqsAt (enF n P V R K B)), m.2.length ≤ 1000000000 := fun m hm => by
                rcases List.mem_append.1 hm with h | h
                · have := HRS.out m h; omega
                · obtain ⟨s, _, hr⟩ := List.mem_flatMap.1 h
                  have := (HSM.out s).2 m hr
                  omega
              have hcf := containsMf_calls 110 #[.pointer (some ⟨w.heap.size, 0, none⟩)] Tryz.enters_closed1 (fun m => !hasB sel m) a9 n9 c9 wr.heap.size P9 V9 wr hn9 (Nat.le_refl _) hc9
                (fun W hW j hj => closed1_calls ks A (.slice a2 n2 c2) sel (P9 j) (V9 j) w.heap.size W (HE.out.below (below_step hBr hW)) (HV.out.below (below_step hBr hW)) (by rw [HSEL.out, mdF_length]; omega) hss9 (by
                  rw [size_eq]
                  exact hall9 ((P9 j).data.toList, (V9 j).data.toList) (by rw [e10]; exact List.mem_of_getElem? (mdF_get n9 P9 V9 j hj))) (Below.cell_some hW z0))
              have hany : (mdF n9 P9 V9).any (fun m => !hasB sel m) = !closB (enF n P V R K B) roots sel := by
                rw [← e10]
                unfold closB underB
                rw [List.not_all_eq_any_not]
              rw [hany] at hcf
              rw [← e9] at hcf
              obtain ⟨D, hD⟩ : ∃ D, D = closB (enF n P V R K B) roots sel := ⟨_, rfl⟩
              rw [← hD] at hcf
              have HD := Lib.hid hD
              replace hcf := Lib.hid hcf
              clear hc9 hany hD hall9 hss9 e10 e9 hT2 hT hst hlt
              go_wp2_with fail
              refine hcf.out.mono ?_
              rintro e w9 ⟨rfl, hb9⟩
              go_wp2_with fail
              go_ret2
              rw [HCS.out, HCR.out, ← HD.out]
              exact ⟨⟨_, by cases D <;> rfl, (HF.out.below hbr).below hb9⟩, below_step hBr hb9⟩
        · have HF := Lib.hid hv
          have HC := Lib.hid (closR_bad (l := enF n P V R K B) (roots := roots) (sel := sel) (by rw [HCS.out]; exact h0))
          clear hv h0
          go_wp2_with fail
          go_ret2
          rw [HCS.out, HC.out]
          exact ⟨⟨_, rfl, HF.out⟩, hB2⟩
  · have HF := Lib.hid hv
    have hce := closErr_idx (roots := roots) (sel := sel) h0
    have HC := Lib.hid (And.intro hce (closR_bad (l := enF n P V R K B) (roots := roots) (sel := sel) (by rw [hce]; exact h0)))
    clear hv h0 hce
    go_wp2_with fail
    go_ret2
    rw [HC.out.1, HC.out.2]
    exact ⟨⟨_, rfl, HF.out⟩, hB⟩
end Go.Proofs.Pw

/- The references' small functions: Byte, below, Decimal. -/
namespace Go.Proofs.Pw
open Go.RowKit
open Go.Lib hiding intOf
open Go.Sort (grow grow_grow grow_empty)

/-- some draws on, some blocks laid -/
def GrownW (w w' : World) : Prop := ∃ q os, w' = grow (w.drewN q) os
theorem GrownW.below {w w' : World} (h : GrownW w w') : Below w.heap.size w w' := by
  obtain ⟨q, os, rfl⟩ := h
  exact below_grow _ _ (Nat.le_refl _) _ _
theorem GrownW.trans {a b c : World} (h : GrownW a b) (k : GrownW b c) : GrownW a c := by
  obtain ⟨q, os, rfl⟩ := h
  obtain ⟨q', os', rfl⟩ := k
  refine ⟨q + q', os ++ os', ?_⟩
  show grow (grow ((a.drewN q).drewN q') os) os' = _
  rw [grow_grow, World.drewN_drewN]
theorem grownW_alloc (w : World) (o : Obj) : GrownW w (w.alloc o) := ⟨0, #[o], Go.Sort.alloc_eq_grow w o⟩
theorem GrownW.refl (w : World) : GrownW w w := ⟨0, #[], (grow_empty _).symm⟩


theorem decDigits_small {m : Nat} (h : m < 10) : decDigits m = [UInt8.ofNat (48 + m)] := by rw [decDigits, dif_pos h]
theorem decDigits_large {m : Nat} (h : ¬ m < 10) : decDigits m = decDigits (m / 10) ++ [UInt8.ofNat (48 + m % 10)] := by rw [decDigits, dif_neg h]
theorem byte_of_digit {d : Nat} (h : d < 10) {x : Int} (hx : x = 48 + d) : ((UInt8.ofNat (48 + d)).toNat : Int) = x := by
  rw [(isDig_ofNat h).2, hx]; omega

theorem decDigits_len_le (u : Nat) : (decDigits u).length ≤ u + 1 := by
  induction u using Nat.strongRecOn with
  | _ u ih =>
    rw [decDigits]
    split
    · simp
    · rename_i h
      have := ih (u / 10) (by omega)
      simp only [List.length_append, List.length_singleton]
      omega


end Go.Proofs.Pw

/- R.VerOf: its walk. Conditions: a text of at most 1000000000 bytes. -/
namespace Go.Proofs.Pw
open Go.RowKit
open Go.Lib hiding intOf

theorem worseN_one_left (b : Nat) : worseN 1 b = 1 := by unfold worseN; rw [if_pos (.inl rfl)]
theorem worseN_one_right (a : Nat) : worseN a 1 = 1 := by unfold worseN; split <;> omega
theorem numErrs_one : ∀ (l : List Str) (b : Nat), (b = 1 ∨ ∃ w ∈ l, (numberOf w).2 = 1) → numErrs l b = 1
  | [], b, h => by
    rcases h with h | ⟨w, hw, _⟩
    · exact h
    · cases hw
  | w :: r, b, h => by
    show numErrs r (worseN b (numberOf w).2) = 1
    apply numErrs_one r
    rcases h with rfl | ⟨x, hx, h1⟩
    · exact .inl (worseN_one_left _)
    · rcases List.mem_cons.1 hx with rfl | hx
      · rw [h1]; exact .inl (worseN_one_right _)
      · exact .inr ⟨x, hx, h1⟩
theorem partErrs_one : ∀ (l : List Str) (b : Nat), (b = 1 ∨ ∃ w ∈ l, partErr w = 1) → partErrs l b = 1
  | [], b, h => by
    rcases h with h | ⟨w, hw, _⟩
    · exact h
    · cases hw
  | w :: r, b, h => by
    show partErrs r (worseN b (partErr w)) = 1
    apply partErrs_one r
    rcases h with rfl | ⟨x, hx, h1⟩
    · exact .inl (worseN_one_left _)
    · rcases List.mem_cons.1 hx with rfl | hx
      · rw [h1]; exact .inl (worseN_one_right _)
      · exact .inr ⟨x, hx, h1⟩
theorem verErr_is {s : Str} (h1 : hasPrefix s [118] = true) (h2 : (verWords s).length = 3) : verErr s = verErrs s := by
  unfold verErr; rw [if_neg]; rw [h1, h2]; simp
theorem verErrs_one {s : Str} (h : partErrs (verPres s) (numErrs (verWords s) 0) = 1) : verErrs s = 1 := by
  unfold verErrs
  simp only
  rw [h]
  split
  · exact worseN_one_left _
  · rfl
theorem verErrs_num {s w : Str} (h : w ∈ verWords s) (h1 : (numberOf w).2 = 1) : verErrs s = 1 :=
  verErrs_one (partErrs_one _ _ (.inl (numErrs_one _ _ (.inr ⟨w, h, h1⟩))))
theorem verErrs_part {s w : Str} (h : w ∈ verPres s) (h1 : partErr w = 1) : verErrs s = 1 :=
  verErrs_one (partErrs_one _ _ (.inr ⟨w, h, h1⟩))
/-- the bound seen so far, as an error's number -/
def bndN (b : Bool) : Nat := if b then 2 else 0
theorem bndN_step (b : Bool) {e : Nat} (h1 : e ≠ 1) (h2 : e ≤ 2) : worseN (bndN b) e = bndN (b || decide (0 < e)) := by
  obtain rfl | rfl : e = 0 ∨ e = 2 := by omega
  all_goals cases b <;> rfl
theorem verErrs_bnd {s : Str} {b : Bool} (h : partErrs (verPres s) (numErrs (verWords s) 0) = bndN b) : verErrs s = if b = true ∨ 5 < (verPres s).length then 2 else 0 := by
  unfold verErrs
  simp only
  rw [h]
  by_cases h5 : 5 < (verPres s).length
  · rw [if_pos h5, if_pos (.inr h5)]
    cases b <;> rfl
  · rw [if_neg h5]
    cases b
    · rw [if_neg (by simp [h5])]; rfl
    · rw [if_pos (.inl rfl)]; rfl

structure NBox (w : World) (b : Nat) (L : Nat → ByteArray) (k : Nat) (v3 : Value) : Prop where
  c : ∀ j, j < 3 → w.cell? ⟨b, j, none⟩ = some (.int .i64 (numAt L k j))
  c3 : w.cell? ⟨b, 3, none⟩ = some v3
  fr : ∀ j, w.frozen? ⟨b, j, none⟩ = false
theorem NBox.below {w w' : World} {b : Nat} {L : Nat → ByteArray} {k : Nat} {v3 : Value} (h : NBox w b L k v3) (hb : Below w.heap.size w w') : NBox w' b L k v3 :=
  ⟨fun j hj => Below.cell_some hb (h.c j hj), Below.cell_some hb h.c3, fun j => (hb.frozen (p := ⟨b, j, none⟩) (show b < w.heap.size from lt_of_cell h.c3)).trans (h.fr j)⟩
theorem nbox_alloc (w : World) (t : TypeId) (L : Nat → ByteArray) : NBox (w.alloc (.cells #[.int .i64 0, .int .i64 0, .int .i64 0, .slice none 0 0] t)) w.heap.size L 0 (.slice none 0 0) :=
  ⟨fun j hj => by rw [numAt_zero]; obtain rfl | rfl | rfl : j = 0 ∨ j = 1 ∨ j = 2 := by omega
                  all_goals simp, by simp, fun j => by simp⟩
theorem NBox.step {w : World} {b : Nat} {L : Nat → ByteArray} {k : Nat} {v3 : Value} (h : NBox w b L k v3) (hk : k < 3) : NBox (w.setCell ⟨b, k, none⟩ (.int .i64 ((numberOf (L k).data.toList).1 : Nat))) b L (k + 1) v3 := by
  refine ⟨fun j hj => ?_, ?_, fun j => by simp [h.fr]⟩
  · by_cases e : j = k
    · subst e
      rw [numAt_new]
      exact World.cell?_setCell_same _ _ _ (h.c j hj)
    · rw [numAt_old _ _ _ e, World.cell?_setCell_other _ _ _ _ (fun h2 => e (by injection h2 with _ h3 _; exact h3.symm))]
      exact h.c j hj
  · rw [World.cell?_setCell_other _ _ _ _ (fun h2 => by injection h2 with _ h3 _; omega)]
    exact h.c3
theorem NBox.set3 {w : World} {b : Nat} {L : Nat → ByteArray} {k : Nat} {v3 : Value} (h : NBox w b L k v3) (v : Value) : NBox (w.setCell ⟨b, 3, none⟩ v) b L k v := by
  refine ⟨fun j hj => ?_, World.cell?_setCell_same _ _ _ h.c3, fun j => by simp [h.fr]⟩
  rw [World.cell?_setCell_other _ _ _ _ (by intro e; injection e with _ e2 _; omega)]
  exact h.c j hj

theorem hasPrefix_byte (s : ByteArray) (h : 0 < s.size) : hasPrefix s.data.toList [118] = decide (s[0] = 118) := by
  have e : s.data.toList = s[0] :: s.data.toList.drop 1 := by
    have := drop_cons s 0 h
    simpa using this
  rw [e]
  unfold hasPrefix
  rw [Bool.eq_iff_iff]
  simp only [List.isPrefixOf, Bool.and_true, decide_eq_true_eq, beq_iff_eq]
  exact eq_comm
theorem trimPrefix_byte (s : ByteArray) (h : hasPrefix s.data.toList [118] = true) : trimPrefix s.data.toList [118] = s.data.toList.drop 1 := by
  unfold trimPrefix; rw [if_pos h]; rfl

set_option maxRecDepth 100000 in
set_option maxHeartbeats 400000 in
/-- R.VerOf at what does not begin with v -/
theorem refVerOf_none (s : ByteArray) (w : World) (hs : s.size ≤ 1000000000) (hp : hasPrefix s.data.toList [118] = false) :
    Calls Tryz.prog 97 #[.string s] w fun e w' => e = .returned (.tuple #[.agg #[.int .i64 0, .int .i64 0, .int .i64 0, .slice none 0 0], .int .i64 1]) ∧ Below w.heap.size w w' := by
  have hbA := below_alloc w (.cells #[.int .i64 0, .int .i64 0, .int .i64 0, .slice none 0 0] 130)
  obtain ⟨z0, z1, z2, z3, zf⟩ := box4_alloc w (.int .i64 0) (.int .i64 0) (.int .i64 0) (.slice none 0 0) 130
  have zf0 := zf 0
  have zf1 := zf 1
  have zf2 := zf 2
  have zf3 := zf 3
  clear zf
  by_cases h0 : s.size = 0
  · have h0' : ((s.size : Nat) : Int) = 0 := by omega
    clear hp
    go_enter Tryz.func97, Tryz.ntmps97
    go_wp2_with fail
    refine bodyPost_ret (v := .tuple #[.agg #[.int .i64 0, .int .i64 0, .int .i64 0, .slice none 0 0], .int .i64 1]) (by simp [results, Tryz.results97, go_sem, *]) rfl ⟨rfl, ?_⟩
    exact below_alloc _ _
  · have hlt : 0 < s.size := by omega
    rw [hasPrefix_byte s hlt] at hp
    have hp1 : ((s[0].toNat : Int) == 118) = false := beq_eq_false_iff_ne.2 (fun e => by
      have : s[0] = 118 := UInt8.toNat_inj.1 (by have : s[0].toNat = 118 := by exact_mod_cast e
                                                 rw [this]; rfl)
      simp [this] at hp)
    have h00 : ((s.size : Int) == 0) = false := beq_eq_false_iff_ne.2 (by omega)
    clear hp h0
    go_enter Tryz.func97, Tryz.ntmps97
    go_wp2_with fail
    refine bodyPost_ret (v := .tuple #[.agg #[.int .i64 0, .int .i64 0, .int .i64 0, .slice none 0 0], .int .i64 1]) (by simp [results, Tryz.results97, go_sem, *]) rfl ⟨rfl, ?_⟩
    exact below_alloc _ _
end Go.Proofs.Pw

/- R.VerOf: the way behind v. -/
namespace Go.Proofs.Pw
open Go.RowKit
open Go.Lib hiding intOf

theorem partErr_bad {s : ByteArray} {k : Nat} (h : k < s.size) (hb : isPartByte s[k] = false) : partErr s.data.toList = 1 := by
  apply partErr_text
  refine .inr (.inr ?_)
  rw [Bool.eq_false_iff]
  intro e
  have := List.all_eq_true.1 e _ (byte_mem s k h)
  rw [hb] at this
  cases this
theorem partErr_good {s : ByteArray} (h1 : 1 ≤ s.size) (h8 : s.size ≤ 8) (ha : (s.data.toList.take s.size).all isPartByte = true) : partErr s.data.toList = if areDigits s.data.toList then (numberOf s.data.toList).2 else 0 := by
  rw [take_size] at ha
  unfold partErr
  rw [if_neg]
  rintro (h | h | h)
  · rw [size_eq, h] at h1; simp at h1
  · rw [← size_eq] at h; omega
  · rw [ha] at h; cases h
theorem partErr_size {s : ByteArray} (h : s.size < 1 ∨ 8 < s.size) : partErr s.data.toList = 1 := by
  apply partErr_text
  rcases h with h | h
  · refine .inl (List.length_eq_zero_iff.1 (by rw [← size_eq]; omega))
  · exact .inr (.inl (by rw [← size_eq]; exact h))
theorem isPartByte_iff (c : UInt8) : isPartByte c = true ↔ (97 ≤ (c.toNat : Int) ∧ (c.toNat : Int) ≤ 122) ∨ (65 ≤ (c.toNat : Int) ∧ (c.toNat : Int) ≤ 90) ∨ (48 ≤ (c.toNat : Int) ∧ (c.toNat : Int) ≤ 57) ∨ (c.toNat : Int) = 45 := by
  unfold isPartByte isDig isLetter
  have e : (c == 45) = decide (c.toNat = 45) := by
    rw [Bool.eq_iff_iff, beq_iff_eq, decide_eq_true_eq]
    constructor
    · rintro rfl; rfl
    · intro h; exact UInt8.toNat_inj.1 (by rw [h]; rfl)
  rw [e]
  simp only [Bool.or_eq_true, decide_eq_true_eq]
  omega

/-- texts in a row that lies above a block -/
def CellsOver (w : World) (B : Nat) (a : Option Addr) (n : Nat) (P : Nat → ByteArray) : Prop := ∀ j, j < n → ∃ b o, a = some ⟨b, o, none⟩ ∧ B < b ∧ w.cell? ⟨b, o + j, none⟩ = some (.string (P j))
theorem CellsOver.set {w : World} {B B' n : Nat} {a : Option Addr} {P : Nat → ByteArray} (h : CellsOver w B a n P) (hB : B' ≤ B) (i : Nat) (u : Value) : CellsOver (w.setCell ⟨B', i, none⟩ u) B a n P := by
  intro j hj
  obtain ⟨b, o, rfl, h1, h2⟩ := h j hj
  refine ⟨b, o, rfl, h1, ?_⟩
  rw [World.cell?_setCell_other _ _ _ _ (by intro e; injection e with e1 _ _; omega)]
  exact h2
theorem CellsOver.strs {w : World} {B n cap : Nat} {a : Option Addr} {P : Nat → ByteArray} (h : CellsOver w B a n P) (hn : n ≤ cap) (hc : cap ≤ 9223372036854775807) : StrsAt w (.slice a n cap) (lstF n P) :=
  ⟨a, n, cap, P, rfl, rfl, hn, hc, fun j hj => let ⟨b, o, e, _, h2⟩ := h j hj; ⟨b, o, e, h2⟩⟩
theorem cutAt_len (c : UInt8) : ∀ (l acc : Str), (cutAt c acc l).length ≤ l.length + 1
  | [], acc => by simp [cutAt]
  | b :: l, acc => by
    rw [cutAt]
    split
    · have := cutAt_len c l []
      simp only [List.length_cons]; omega
    · have := cutAt_len c l (acc ++ [b])
      simp only [List.length_cons]; omega
theorem split_len (c : UInt8) (s : Str) : (split s [c]).length ≤ s.length + 1 := by rw [split_eq]; exact cutAt_len c s []
theorem extract_size_le (s : ByteArray) (a b : Nat) : (s.extract a b).size ≤ s.size := by rw [ByteArray.size_extract]; omega
theorem refCut_dot (s : ByteArray) (w : World) (hs : s.size ≤ 1000000000) :
    Calls Tryz.prog 78 #[.string s, .int .u8 46] w fun e w' => (∃ v, e = .returned v ∧ StrsAt w' v (split s.data.toList [46]) ∧ NewRow w v) ∧ Below w.heap.size w w' := refCut_calls s 46 w hs
theorem byte_ne_int {b c : UInt8} {n : Int} (hn : n = c.toNat) (h : b ≠ c) : ((b.toNat : Int) == n) = false :=
  beq_eq_false_iff_ne.2 fun e => h (UInt8.toNat_inj.1 (by rw [hn] at e; exact_mod_cast e))
theorem byte_classes (c : Int) :
    ((97 ≤ c ∧ c ≤ 122 ∧ 65 ≤ c ∧ ¬ c ≤ 90 ∧ 48 ≤ c ∧ ¬ c ≤ 57) ∨ (¬ 97 ≤ c ∧ c ≤ 122 ∧ 65 ≤ c ∧ c ≤ 90 ∧ 48 ≤ c ∧ ¬ c ≤ 57) ∨ (¬ 97 ≤ c ∧ c ≤ 122 ∧ ¬ 65 ≤ c ∧ c ≤ 90 ∧ 48 ≤ c ∧ c ≤ 57) ∨ c = 45) ∨
    ((c == 45) = false ∧ ¬ ((97 ≤ c ∧ c ≤ 122) ∨ (65 ≤ c ∧ c ≤ 90) ∨ (48 ≤ c ∧ c ≤ 57)) ∧
      ((¬ 97 ≤ c ∧ c ≤ 122 ∧ ¬ 65 ≤ c ∧ c ≤ 90 ∧ ¬ 48 ≤ c ∧ c ≤ 57) ∨ (¬ 97 ≤ c ∧ c ≤ 122 ∧ ¬ 65 ≤ c ∧ c ≤ 90 ∧ 48 ≤ c ∧ ¬ c ≤ 57) ∨ (¬ 97 ≤ c ∧ c ≤ 122 ∧ 65 ≤ c ∧ ¬ c ≤ 90 ∧ 48 ≤ c ∧ ¬ c ≤ 57) ∨ (97 ≤ c ∧ ¬ c ≤ 122 ∧ 65 ≤ c ∧ ¬ c ≤ 90 ∧ 48 ≤ c ∧ ¬ c ≤ 57))) := by
  have e : (c == 45) = false ↔ c ≠ 45 := by rw [beq_eq_false_iff_ne]
  rw [e]
  omega

theorem drop1_cut (s : ByteArray) (k : Nat) (hk : k < s.size) (h1 : 1 ≤ k) (h45 : s[k] = 45) (hno : (45 : UInt8) ∉ (s.data.toList.take k).drop 1) :
    cut (s.data.toList.drop 1) [45] = ((s.extract 1 k).data.toList, (s.extract (k + 1) s.size).data.toList, true) := by
  have e : s.data.toList.drop 1 = (s.data.toList.take k).drop 1 ++ 45 :: s.data.toList.drop (k + 1) := by
    conv => lhs; rw [← List.take_append_drop k s.data.toList]
    rw [List.drop_append_of_le_length (by rw [List.length_take, ← size_eq]; omega), drop_cons s k hk, h45]
  rw [e, cut_at hno, extract_take_drop s 1 k (by omega), extract_to_end]
theorem drop1_none (s : ByteArray) (hno : (45 : UInt8) ∉ (s.data.toList.take s.size).drop 1) :
    cut (s.data.toList.drop 1) [45] = ((s.extract 1 s.size).data.toList, (⟨#[]⟩ : ByteArray).data.toList, false) := by
  rw [take_size] at hno
  rw [cut_no hno, extract_to_end]
theorem take_drop1_snoc (s : ByteArray) (k : Nat) (h : k < s.size) (c : UInt8) (h0 : k = 0 ∨ s[k] ≠ c) (hno : c ∉ (s.data.toList.take k).drop 1) : c ∉ (s.data.toList.take (k + 1)).drop 1 := by
  rw [take_snoc s k h]
  rcases Nat.eq_zero_or_pos k with rfl | hk
  · simp
  · rw [List.drop_append_of_le_length (by rw [List.length_take, ← size_eq]; omega)]
    simp only [List.mem_append, List.mem_singleton, not_or]
    exact ⟨hno, fun e => (h0.resolve_left (by omega)) e.symm⟩

set_option maxHeartbeats 2000000 in
set_option maxRecDepth 100000 in
theorem refVerOf_v (s : ByteArray) (w : World) (hs : s.size ≤ 1000000000) (hp : hasPrefix s.data.toList [118] = true) :
    Calls Tryz.prog 97 #[.string s] w fun e w' => (∃ v, e = .returned (.tuple #[.agg #[.int .i64 (verNum s.data.toList 0 : Nat), .int .i64 (verNum s.data.toList 1 : Nat), .int .i64 (verNum s.data.toList 2 : Nat), v], .int .i64 (verErr s.data.toList : Nat)]) ∧ StrsAt w' v (verPre s.data.toList)) ∧ Below w.heap.size w w' := by
  have hbA := below_alloc w (.cells #[.int .i64 0, .int .i64 0, .int .i64 0, .slice none 0 0] 130)
  have hzA := box4_alloc w (.int .i64 0) (.int .i64 0) (.int .i64 0) (.slice none 0 0) 130
  have h1 : 1 ≤ s.size := by
    rcases Nat.eq_zero_or_pos s.size with h | h
    · have : s.data.toList = [] := List.length_eq_zero_iff.1 (by rw [← size_eq]; exact h)
      rw [this] at hp; cases hp
    · exact h
  have h118 : (s[0].toNat : Int) = 118 := by
    rw [hasPrefix_byte s h1] at hp
    have : s[0] = 118 := of_decide_eq_true hp
    rw [this]; rfl
  have ht := trimPrefix_byte s hp
  have HP := Lib.hid hp
  have HT := Lib.hid ht
  have HW : Hid (verWords s.data.toList = split (cut (s.data.toList.drop 1) [45]).1 [46]) := Lib.hid (by unfold verWords; rw [ht])
  have HR : Hid (verPres s.data.toList = if (cut (s.data.toList.drop 1) [45]).2.2 then split (cut (s.data.toList.drop 1) [45]).2.1 [46] else []) := Lib.hid (by unfold verPres; rw [ht])
  clear hp ht
  have h00 : ((s.size : Int) == 0) = false := beq_eq_false_iff_ne.2 (by omega)
  go_enter Tryz.func97, Tryz.ntmps97
  go_upto_block 0 with fail
  generalize hwA : w.alloc (.cells #[.int .i64 0, .int .i64 0, .int .i64 0, .slice none 0 0] 130) = wA at hbA hzA ⊢
  clear hwA
  go_cut [4, 5, 6, 7] from 33 to 53 (fun h p b _ wx => ∃ (H R : ByteArray) (B : Bool), h = .string H ∧ p = .string R ∧ b = .bool B ∧ wx = wA ∧ H.size ≤ s.size ∧ R.size ≤ s.size ∧ Hid (cut (s.data.toList.drop 1) [45] = (H.data.toList, R.data.toList, B)))
  case first =>
    go_wp2_with fail
    go_loop [4, 5, 6, 7] (fun h p b i => ∃ (k : Nat) (H R : ByteArray) (B : Bool), k ≤ s.size ∧ i = .int .i64 k ∧ h = .string H ∧ p = .string R ∧ b = .bool B ∧ H.size ≤ s.size ∧ R.size ≤ s.size ∧
        Hid (if B = true then cut (s.data.toList.drop 1) [45] = (H.data.toList, R.data.toList, true) else (H = s.extract 1 s.size ∧ R = ⟨#[]⟩ ∧ (45 : UInt8) ∉ (s.data.toList.take k).drop 1))) (fun _ _ _ i => s.size - (intOf i).toNat)
    case atStart => exact ⟨0, s.extract 1 s.size, ⟨#[]⟩, false, Nat.zero_le _, rfl, rfl, rfl, rfl, extract_size_le s _ _, Nat.zero_le _, Lib.hid ⟨rfl, rfl, by simp⟩⟩
    case round =>
      obtain ⟨k, H, R, B, hk, rfl, rfl, rfl, rfl, hH, hR, HC⟩ := hrel
      cases B with
      | true =>
        have HC2 : Hid (cut (s.data.toList.drop 1) [45] = (H.data.toList, R.data.toList, true)) := HC
        clear HC
        by_cases hlt : k < s.size
        all_goals
          go_wp2_with fail
          go_meet
          exact ⟨H, R, true, rfl, rfl, rfl, rfl, hH, hR, HC2⟩
      | false =>
        obtain ⟨rfl, rfl, hno⟩ : H = s.extract 1 s.size ∧ R = ⟨#[]⟩ ∧ (45 : UInt8) ∉ (s.data.toList.take k).drop 1 := HC.out
        have HN := Lib.hid hno
        clear HC hno
        by_cases hlt : k < s.size
        · by_cases h45 : s[k] = 45
          · have hk1 : 1 ≤ k := by
              rcases Nat.eq_zero_or_pos k with rfl | h
              · rw [h45] at h118; exact absurd h118 (by decide)
              · exact h
            have h45' : (s[k].toNat : Int) = 45 := by rw [h45]; rfl
            have HX := Lib.hid (drop1_cut s k hlt hk1 h45 HN.out)
            clear h45
            go_wp2_with fail
            go_round
            case rel => exact ⟨k + 1, s.extract 1 k, s.extract (k + 1) s.size, true, by omega, by go_num, rfl, rfl, rfl, extract_size_le s _ _, extract_size_le s _ _, HX⟩
            case measure => simp [intOf]; omega
          · have h45' : ((s[k].toNat : Int) == 45) = false := byte_ne_int (c := 45) rfl h45
            have HX := Lib.hid (take_drop1_snoc s k hlt 45 (.inr h45) HN.out)
            clear h45
            go_wp2_with fail
            go_round
            case rel => exact ⟨k + 1, _, _, false, by omega, by go_num, rfl, rfl, rfl, hH, hR, Lib.hid ⟨rfl, rfl, HX.out⟩⟩
            case measure => simp [intOf]; omega
        · obtain rfl : k = s.size := by omega
          have HX := Lib.hid (drop1_none s HN.out)
          go_wp2_with fail
          go_meet
          exact ⟨_, _, false, rfl, rfl, rfl, rfl, hH, hR, HX⟩
  case rest =>
    obtain ⟨H, R, B, rfl, rfl, rfl, rfl, hH, hR, HC⟩ := hcut
    have HW2 : Hid (verWords s.data.toList = split H.data.toList [46]) := Lib.hid (by rw [HW.out, HC.out])
    have HR2 : Hid (verPres s.data.toList = if B = true then split R.data.toList [46] else []) := Lib.hid (by rw [HR.out, HC.out])
    have hH9 := Nat.le_trans hH hs
    have hR9 := Nat.le_trans hR hs
    clear HW HR HC hH hR
    go_wp2_with fail
    refine (refCut_dot H wc hH9).mono ?_
    rintro e w1 ⟨⟨v, rfl, hS, hNew⟩, hb1⟩
    obtain ⟨a, n, cap, L, rfl, hl, hn, hcap, hc⟩ := hS
    have hz1 := hzA.below hb1
    have hb01 := below_step hbA hb1
    have hnl : (verWords s.data.toList).length = n := by rw [HW2.out, hl, lstF_length]
    have hLs := lstF_mem_le (by decide) hl.symm
    have hH9' : H.data.toList.length ≤ 1000000000 := by rw [← size_eq]; exact hH9
    have HL : Hid (lstF n L = verWords s.data.toList) := Lib.hid (by rw [HW2.out, hl])
    have HC := Lib.hid hc
    have hLs9 : ∀ j, j < n → (L j).size ≤ 4000000000 := fun j hj => Nat.le_trans (hLs j hj) (by omega)
    have HN := Lib.hid hnl
    obtain ⟨z0, z1, z2, z3, zf⟩ := id hz1
    have zf0 := zf 0
    have zf1 := zf 1
    have zf2 := zf 2
    have zf3 := zf 3
    clear zf HW2 hl hc hLs hH9' hnl hH9 hNew hzA
    by_cases h3 : n = 3
    case neg =>
      have HF : Hid (verErr s.data.toList = 1) := Lib.hid (by unfold verErr; rw [if_pos (.inr (by rw [HN.out]; exact h3))])
      have h3' : ((n : Int) == 3) = false := beq_eq_false_iff_ne.2 (by omega)
      clear h3
      go_wp2_with fail
      refine bodyPost_ret (v := .tuple #[.agg #[.int .i64 0, .int .i64 0, .int .i64 0, .slice none 0 0], .int .i64 1]) (by simp [results, Tryz.results97, go_sem, *]) rfl ?_
      have hne : verErr s.data.toList ≠ 0 := by rw [HF.out]; decide
      rw [verNum_bad hne, verNum_bad hne, verNum_bad hne, verPre_bad hne, HF.out]
      exact ⟨⟨_, rfl, StrsAt.nil _⟩, (((hb01.setCell (Nat.le_refl _) _).setCell (Nat.le_refl _) _).setCell (Nat.le_refl _) _).setCell (Nat.le_refl _) _⟩
    case pos =>
      subst h3
      clear z0 z1 z2 z3 zf0 zf1 zf2 zf3
      have hVE : Hid (verErr s.data.toList = verErrs s.data.toList) := Lib.hid (verErr_is HP.out HN.out)
      go_upto_block 2 with fail
      have hbB := below_alloc w1 (.cells #[.int .i64 0, .int .i64 0, .int .i64 0, .slice none 0 0] 130)
      have hNB := nbox_alloc w1 130 L
      have hBs : w1.heap.size < (w1.alloc (.cells #[.int .i64 0, .int .i64 0, .int .i64 0, .slice none 0 0] 130)).heap.size := by simp
      have hwz : w.heap.size < w1.heap.size := lt_of_cell hz1.c0
      go_cut [10, 11, 12, 13] from 61 to 84 (fun b _ _ _ wx => ∃ B' : Bool, b = .bool B' ∧ Below w1.heap.size w1 wx ∧ NBox wx w1.heap.size L 3 (.slice none 0 0) ∧ Hid (numErrs (verWords s.data.toList) 0 = bndN B'))
      case first =>
        go_wp2_with fail
        go_loopw [10, 11, 12, 13] (fun b i _ _ wr => ∃ (k : Nat) (B' : Bool), k ≤ 3 ∧ i = .int .i64 k ∧ b = .bool B' ∧ Below w1.heap.size w1 wr ∧ NBox wr w1.heap.size L k (.slice none 0 0) ∧ Hid (numErrs ((lstF 3 L).take k) 0 = bndN B')) (fun _ i _ _ _ => 3 - (intOf i).toNat)
        case atStart => exact ⟨0, false, by omega, rfl, rfl, hbB, hNB, Lib.hid rfl⟩
        case round =>
          obtain ⟨k, B', hk, rfl, rfl, hbr, hN⟩ := hrel
          obtain ⟨hN, HB⟩ := hN
          by_cases hlt : k < 3
          · obtain ⟨b1, o1, rfl, hck⟩ := HC.out k hlt
            replace hck := Below.cell_some hbr hck
            have hzr := hz1.below hbr
            obtain ⟨z0, z1, z2, z3, zf⟩ := id hzr
            have zf0 := zf 0
            have zf1 := zf 1
            have zf2 := zf 2
            have zf3 := zf 3
            have hn1 := hN.c k hlt
            have hn2 := hN.fr k
            have hcall := refNumber_calls (L k) wr (hLs9 k hlt)
            have hle := (numberOf_le (L k).data.toList).2
            have hmem : (L k).data.toList ∈ verWords s.data.toList := by rw [← HL.out]; exact List.mem_of_getElem? (lstF_get 3 L k hlt)
            have hsn := numErrs_snoc ((lstF 3 L).take k) (L k).data.toList 0
            rw [← lstF_take_succ 3 L k hlt] at hsn
            have hstp := hN.step hlt
            by_cases he1 : (numberOf (L k).data.toList).2 = 1
            · have HF : Hid (verErr s.data.toList = 1) := Lib.hid (by rw [hVE.out]; exact verErrs_num hmem he1)
              rw [he1] at hcall
              generalize (numberOf (L k).data.toList).1 = nk at hcall
              clear hsn hle he1 zf hmem hstp hn1 hn2 hzr
              go_wp2_with fail
              refine hcall.mono ?_
              rintro e w5 ⟨rfl, hw5⟩
              subst hw5
              clear hcall
              go_wp2_with fail
              refine bodyPost_ret (v := .tuple #[.agg #[.int .i64 0, .int .i64 0, .int .i64 0, .slice none 0 0], .int .i64 1]) (by simp [results, Tryz.results97, go_sem, *]) rfl ?_
              have hne : verErr s.data.toList ≠ 0 := by rw [HF.out]; decide
              rw [verNum_bad hne, verNum_bad hne, verNum_bad hne, verPre_bad hne, HF.out]
              exact ⟨⟨_, rfl, StrsAt.nil _⟩, ((((below_step hb01 hbr).setCell (Nat.le_refl _) _).setCell (Nat.le_refl _) _).setCell (Nat.le_refl _) _).setCell (Nat.le_refl _) _⟩
            · have HS : Hid (numErrs ((lstF 3 L).take (k + 1)) 0 = bndN (B' || decide (0 < (numberOf (L k).data.toList).2))) := Lib.hid (by rw [hsn, HB.out, bndN_step B' he1 hle])
              have he1' : (((numberOf (L k).data.toList).2 : Int) == 1) = false := beq_eq_false_iff_ne.2 (by omega)
              have hbst : Below w1.heap.size w1 (wr.setCell ⟨w1.heap.size, k, none⟩ (.int .i64 ((numberOf (L k).data.toList).1 : Nat))) := hbr.setCell (Nat.le_refl _) _
              generalize (numberOf (L k).data.toList).2 = ek at hcall he1' HS
              generalize (numberOf (L k).data.toList).1 = nk at hcall hstp hbst
              clear hsn hle he1 zf hmem z0 z1 z2 z3 zf0 zf1 zf2 zf3 hzr
              cases B' with
              | true =>
                go_wp2_with fail
                refine hcall.mono ?_
                rintro e w5 ⟨rfl, hw5⟩
                subst hw5
                clear hcall
                go_wp2_with fail
                go_roundw
                case rel => exact ⟨k + 1, true, by omega, by go_num, rfl, hbst, hstp, HS⟩
                case measure => simp [intOf]; omega
              | false =>
                by_cases h0 : 0 < ek
                · have HS2 : Hid (numErrs ((lstF 3 L).take (k + 1)) 0 = bndN true) := Lib.hid (by rw [HS.out, decide_eq_true h0]; rfl)
                  clear HS
                  have h0' : (0 : Int) < (ek : Int) := by omega
                  go_wp2_with fail
                  refine hcall.mono ?_
                  rintro e w5 ⟨rfl, hw5⟩
                  subst hw5
                  clear hcall
                  go_wp2_with fail
                  go_roundw
                  case rel => exact ⟨k + 1, true, by omega, by go_num, rfl, hbst, hstp, HS2⟩
                  case measure => simp [intOf]; omega
                · have HS2 : Hid (numErrs ((lstF 3 L).take (k + 1)) 0 = bndN false) := Lib.hid (by rw [HS.out, decide_eq_false h0]; rfl)
                  clear HS
                  obtain rfl : ek = 0 := by omega
                  go_wp2_with fail
                  refine hcall.mono ?_
                  rintro e w5 ⟨rfl, hw5⟩
                  subst hw5
                  clear hcall
                  go_wp2_with fail
                  go_roundw
                  case rel => exact ⟨k + 1, false, by omega, by go_num, rfl, hbst, hstp, HS2⟩
                  case measure => simp [intOf]; omega
          · obtain rfl : k = 3 := by omega
            have HS : Hid (numErrs (verWords s.data.toList) 0 = bndN B') := Lib.hid (by rw [← HB.out, lstF_take_all, HL.out])
            go_wp2_with fail
            go_meet
            exact ⟨B', rfl, hbr, hN, HS⟩
      case rest =>
        obtain ⟨B', rfl, hbr, hN, HB⟩ := hcut
        clear hbB hNB
        go_upto_if 85 with fail
        go_cut [] from 86 to 88 (fun wx => ∃ (a' : Option Addr) (n' cap' : Nat) (P : Nat → ByteArray), NBox wx w1.heap.size L 3 (.slice a' n' cap') ∧ Below w1.heap.size w1 wx ∧ n' ≤ cap' ∧ cap' ≤ 9223372036854775807 ∧ n' ≤ 1000000001 ∧ Hid (lstF n' P = verPres s.data.toList) ∧ (∀ j, j < n' → ∃ b o, a' = some ⟨b, o, none⟩ ∧ w1.heap.size < b ∧ wx.cell? ⟨b, o + j, none⟩ = some (.string (P j))) ∧ ∀ j, j < n' → (P j).size ≤ 4000000000)
        case first =>
          cases B with
          | false =>
            have hPr : Hid (verPres s.data.toList = []) := Lib.hid (by rw [HR2.out]; rfl)
            go_wp2_with fail
            go_meet
            exact ⟨none, 0, 0, fun _ => ByteArray.empty, hN, hbr, Nat.le_refl _, by decide, by decide, Lib.hid (by rw [hPr.out]; rfl), fun j hj => absurd hj (Nat.not_lt_zero _), fun j hj => absurd hj (Nat.not_lt_zero _)⟩
          | true =>
            have hPr : Hid (verPres s.data.toList = split R.data.toList [46]) := Lib.hid (by rw [HR2.out]; rfl)
            go_wp2_with fail
            refine (refCut_dot R wc hR9).mono ?_
            rintro e w2 ⟨⟨v2, rfl, hS2, hNew2⟩, hb2⟩
            obtain ⟨a2, n2, cap2, P, rfl, hl2, hn2, hcap2, hc2⟩ := hS2
            have hN2 := hN.below hb2
            have h3 := hN2.c3
            have hf3 := hN2.fr 3
            have hN3 := hN2.set3 (.slice a2 n2 cap2)
            have hbz : w1.heap.size < wc.heap.size := lt_of_cell hN.c3
            have hb3 : Below w1.heap.size w1 (w2.setCell ⟨w1.heap.size, 3, none⟩ (.slice a2 n2 cap2)) := (below_step hbr hb2).setCell (Nat.le_refl _) _
            have hcells : ∀ j, j < n2 → ∃ b o, a2 = some ⟨b, o, none⟩ ∧ w1.heap.size < b ∧ (w2.setCell ⟨w1.heap.size, 3, none⟩ (.slice a2 n2 cap2)).cell? ⟨b, o + j, none⟩ = some (.string (P j)) := fun j hj => by
              obtain ⟨b, o, rfl, h⟩ := hc2 j hj
              have hq : wc.heap.size ≤ b := hNew2 _ _ _ rfl
              refine ⟨b, o, rfl, by omega, ?_⟩
              rw [World.cell?_setCell_other _ _ _ _ (by intro e; injection e with e1 _ _; omega)]
              exact h
            have HX : Hid (lstF n2 P = verPres s.data.toList) := Lib.hid (by rw [hPr.out, hl2])
            have hsz := lstF_mem_le (by decide) hl2.symm
            have hR9' : R.data.toList.length ≤ 1000000000 := by rw [← size_eq]; exact hR9
            have hn9 : n2 ≤ 1000000001 := by
              have h5 := congrArg List.length hl2
              rw [lstF_length] at h5
              have := split_len 46 R.data.toList
              omega
            have HCl := Lib.hid hcells
            clear hc2 hl2 hNew2 hcells
            go_wp2_with fail
            go_meet
            exact ⟨a2, n2, cap2, P, hN3, hb3, hn2, hcap2, hn9, HX, HCl.out, fun j hj => Nat.le_trans (hsz j hj) (by omega)⟩
        case rest =>
          clear hbr hN
          obtain ⟨a', n', cap', P, hN, hbr, hn', hcap', hn9, HP', hcP, hPs⟩ := hcut
          have HcP := Lib.hid hcP
          have hzr := hz1.below hbr
          have c3 := hN.c3
          have hbw := below_step hb01 hbr
          clear hcP
          go_wp2_with fail
          go_loop [10, 14] (fun b i => ∃ (k : Nat) (C : Bool), k ≤ n' ∧ i = .int .i64 k ∧ b = .bool C ∧ Hid (partErrs ((lstF n' P).take k) (numErrs (verWords s.data.toList) 0) = bndN C)) (fun _ i => n' - (intOf i).toNat)
          case atStart => exact ⟨0, B', by omega, rfl, rfl, HB⟩
          case round =>
            obtain ⟨k, C, hk, rfl, rfl, HC'⟩ := hrel
            by_cases hlt : k < n'
            · obtain ⟨b1, o1, rfl, _, hck⟩ := HcP.out k hlt
              have hmem : (P k).data.toList ∈ verPres s.data.toList := by rw [← HP'.out]; exact List.mem_of_getElem? (lstF_get n' P k hlt)
              have hsn := partErrs_snoc ((lstF n' P).take k) (P k).data.toList (numErrs (verWords s.data.toList) 0)
              rw [← lstF_take_succ n' P k hlt, HC'.out] at hsn
              have HSN := Lib.hid hsn
              have HM := Lib.hid hmem
              have hp4 := hPs k hlt
              clear hsn hmem
              generalize P k = p at hck HSN HM hp4
              by_cases hs1 : p.size < 1
              · have HF : Hid (verErr s.data.toList = 1) := Lib.hid (by rw [hVE.out]; exact verErrs_part HM.out (partErr_size (.inl hs1)))
                obtain ⟨z0, z1, z2, z3, zf⟩ := id hzr
                have zf0 := zf 0
                have zf1 := zf 1
                have zf2 := zf 2
                have zf3 := zf 3
                clear zf
                go_wp2_with fail
                refine bodyPost_ret (v := .tuple #[.agg #[.int .i64 0, .int .i64 0, .int .i64 0, .slice none 0 0], .int .i64 1]) (by simp [results, Tryz.results97, go_sem, *]) rfl ?_
                have hne : verErr s.data.toList ≠ 0 := by rw [HF.out]; decide
                rw [verNum_bad hne, verNum_bad hne, verNum_bad hne, verPre_bad hne, HF.out]
                exact ⟨⟨_, rfl, StrsAt.nil _⟩, ((((hbw).setCell (Nat.le_refl _) _).setCell (Nat.le_refl _) _).setCell (Nat.le_refl _) _).setCell (Nat.le_refl _) _⟩
              · by_cases hs8 : 8 < p.size
                · have HF : Hid (verErr s.data.toList = 1) := Lib.hid (by rw [hVE.out]; exact verErrs_part HM.out (partErr_size (.inr hs8)))
                  obtain ⟨z0, z1, z2, z3, zf⟩ := id hzr
                  have zf0 := zf 0
                  have zf1 := zf 1
                  have zf2 := zf 2
                  have zf3 := zf 3
                  clear zf
                  go_wp2_with fail
                  refine bodyPost_ret (v := .tuple #[.agg #[.int .i64 0, .int .i64 0, .int .i64 0, .slice none 0 0], .int .i64 1]) (by simp [results, Tryz.results97, go_sem, *]) rfl ?_
                  have hne : verErr s.data.toList ≠ 0 := by rw [HF.out]; decide
                  rw [verNum_bad hne, verNum_bad hne, verNum_bad hne, verPre_bad hne, HF.out]
                  exact ⟨⟨_, rfl, StrsAt.nil _⟩, ((((hbw).setCell (Nat.le_refl _) _).setCell (Nat.le_refl _) _).setCell (Nat.le_refl _) _).setCell (Nat.le_refl _) _⟩
                · go_upto_block 6 with fail
                  go_cut [16, 17, 18, 19] from 110 to 162 (fun _ _ _ _ wx => wx = wc ∧ Hid ((p.data.toList.take p.size).all isPartByte = true))
                  case first =>
                    go_wp2_with fail
                    go_loop [16, 17, 18, 19] (fun i _ _ _ => ∃ m : Nat, m ≤ p.size ∧ i = .int .i64 m ∧ Hid ((p.data.toList.take m).all isPartByte = true)) (fun i _ _ _ => p.size - (intOf i).toNat)
                    case atStart => exact ⟨0, Nat.zero_le _, rfl, Lib.hid rfl⟩
                    case round =>
                      obtain ⟨m, hm, rfl, HA⟩ := hrel
                      by_cases hml : m < p.size
                      · have hip := isPartByte_iff p[m]
                        rcases byte_classes (p[m].toNat : Int) with h | h
                        · have hyes : isPartByte p[m] = true := hip.2 (by omega)
                          have HN : Hid ((p.data.toList.take (m + 1)).all isPartByte = true) := Lib.hid (by rw [take_snoc p m hml, List.all_append, HA.out]; simp [hyes])
                          clear hip hyes
                          rcases h with ⟨h1, h2, h3, h4, h5, h6⟩ | ⟨h1, h2, h3, h4, h5, h6⟩ | ⟨h1, h2, h3, h4, h5, h6⟩ | h
                          all_goals
                            go_wp2_with fail
                            go_round
                            case rel => exact ⟨m + 1, by omega, by go_num, HN⟩
                            case measure => simp [intOf]; omega
                        · obtain ⟨hd, hno, h⟩ := h
                          have hnot : isPartByte p[m] = false := by
                            rw [Bool.eq_false_iff]
                            intro e
                            have := hip.1 e
                            have h45 : (p[m].toNat : Int) ≠ 45 := beq_eq_false_iff_ne.1 hd
                            omega
                          have HF : Hid (verErr s.data.toList = 1) := Lib.hid (by rw [hVE.out]; exact verErrs_part HM.out (partErr_bad hml hnot))
                          clear hip hnot hno
                          rcases h with ⟨h1, h2, h3, h4, h5, h6⟩ | ⟨h1, h2, h3, h4, h5, h6⟩ | ⟨h1, h2, h3, h4, h5, h6⟩ | ⟨h1, h2, h3, h4, h5, h6⟩
                          all_goals
                            obtain ⟨z0, z1, z2, z3, zf⟩ := id hzr
                            have zf0 := zf 0
                            have zf1 := zf 1
                            have zf2 := zf 2
                            have zf3 := zf 3
                            clear zf
                            go_wp2_with fail
                            refine bodyPost_ret (v := .tuple #[.agg #[.int .i64 0, .int .i64 0, .int .i64 0, .slice none 0 0], .int .i64 1]) (by simp [results, Tryz.results97, go_sem, *]) rfl ?_
                            have hne : verErr s.data.toList ≠ 0 := by rw [HF.out]; decide
                            rw [verNum_bad hne, verNum_bad hne, verNum_bad hne, verPre_bad hne, HF.out]
                            exact ⟨⟨_, rfl, StrsAt.nil _⟩, ((((hbw).setCell (Nat.le_refl _) _).setCell (Nat.le_refl _) _).setCell (Nat.le_refl _) _).setCell (Nat.le_refl _) _⟩
                      · obtain rfl : m = p.size := by omega
                        go_wp2_with fail
                        go_meet
                        exact ⟨rfl, HA⟩
                  case rest =>
                    obtain ⟨rfl, HA⟩ := hcut
                    have HPE := Lib.hid (partErr_good (by omega) (by omega) HA.out)
                    have hdc := refDigits_calls p wc hp4
                    have hnc := refNumber_calls p wc hp4
                    have hle := (numberOf_le p.data.toList).2
                    have HNC := Lib.hid hnc
                    clear hnc
                    cases hd : areDigits p.data.toList with
                    | false =>
                      have HS : Hid (partErrs ((lstF n' P).take (k + 1)) (numErrs (verWords s.data.toList) 0) = bndN C) := Lib.hid (by
                        rw [HSN.out, HPE.out, hd]
                        show worseN (bndN C) 0 = _
                        unfold worseN
                        rw [if_pos (.inr rfl)])
                      rw [hd] at hdc
                      clear hd hle
                      go_wp2_with fail
                      refine hdc.mono ?_
                      rintro e w5 ⟨rfl, hw5⟩
                      subst hw5
                      clear hdc
                      go_wp2_with fail
                      go_round
                      case rel => exact ⟨k + 1, C, by omega, by go_num, rfl, HS⟩
                      case measure => simp [intOf]; omega
                    | true =>
                      have HE : Hid (partErr p.data.toList = (numberOf p.data.toList).2) := Lib.hid (by rw [HPE.out, hd]; rfl)
                      rw [hd] at hdc
                      clear hd
                      have hnc := HNC.out
                      clear HNC
                      by_cases he1 : (numberOf p.data.toList).2 = 1
                      · have HF : Hid (verErr s.data.toList = 1) := Lib.hid (by rw [hVE.out]; exact verErrs_part HM.out (HE.out.trans he1))
                        rw [he1] at hnc
                        generalize (numberOf p.data.toList).1 = nk at hnc
                        clear he1 hle
                        go_wp2_with fail
                        refine hdc.mono ?_
                        rintro e w5 ⟨rfl, hw5⟩
                        subst hw5
                        clear hdc
                        go_wp2_with fail
                        refine hnc.mono ?_
                        rintro e w5 ⟨rfl, hw5⟩
                        subst hw5
                        clear hnc
                        obtain ⟨z0, z1, z2, z3, zf⟩ := id hzr
                        have zf0 := zf 0
                        have zf1 := zf 1
                        have zf2 := zf 2
                        have zf3 := zf 3
                        clear zf
                        go_wp2_with fail
                        refine bodyPost_ret (v := .tuple #[.agg #[.int .i64 0, .int .i64 0, .int .i64 0, .slice none 0 0], .int .i64 1]) (by simp [results, Tryz.results97, go_sem, *]) rfl ?_
                        have hne : verErr s.data.toList ≠ 0 := by rw [HF.out]; decide
                        rw [verNum_bad hne, verNum_bad hne, verNum_bad hne, verPre_bad hne, HF.out]
                        exact ⟨⟨_, rfl, StrsAt.nil _⟩, ((((hbw).setCell (Nat.le_refl _) _).setCell (Nat.le_refl _) _).setCell (Nat.le_refl _) _).setCell (Nat.le_refl _) _⟩
                      · have HS : Hid (partErrs ((lstF n' P).take (k + 1)) (numErrs (verWords s.data.toList) 0) = bndN (C || decide (0 < (numberOf p.data.toList).2))) := Lib.hid (by rw [HSN.out, HE.out, bndN_step C he1 hle])
                        have he1' : (((numberOf p.data.toList).2 : Int) == 1) = false := beq_eq_false_iff_ne.2 (by omega)
                        generalize (numberOf p.data.toList).2 = ek at hnc he1' HS
                        generalize (numberOf p.data.toList).1 = nk at hnc
                        clear hle he1 HE HPE
                        cases C with
                        | true =>
                          go_wp2_with fail
                          refine hdc.mono ?_
                          rintro e w5 ⟨rfl, hw5⟩
                          subst hw5
                          clear hdc
                          go_wp2_with fail
                          refine hnc.mono ?_
                          rintro e w5 ⟨rfl, hw5⟩
                          subst hw5
                          clear hnc
                          go_wp2_with fail
                          go_round
                          case rel => exact ⟨k + 1, true, by omega, by go_num, rfl, HS⟩
                          case measure => simp [intOf]; omega
                        | false =>
                          by_cases h0 : 0 < ek
                          · have HS2 : Hid (partErrs ((lstF n' P).take (k + 1)) (numErrs (verWords s.data.toList) 0) = bndN true) := Lib.hid (by rw [HS.out, decide_eq_true h0]; rfl)
                            clear HS
                            have h0' : (0 : Int) < (ek : Int) := by omega
                            go_wp2_with fail
                            refine hdc.mono ?_
                            rintro e w5 ⟨rfl, hw5⟩
                            subst hw5
                            clear hdc
                            go_wp2_with fail
                            refine hnc.mono ?_
                            rintro e w5 ⟨rfl, hw5⟩
                            subst hw5
                            clear hnc
                            go_wp2_with fail
                            go_round
                            case rel => exact ⟨k + 1, true, by omega, by go_num, rfl, HS2⟩
                            case measure => simp [intOf]; omega
                          · have HS2 : Hid (partErrs ((lstF n' P).take (k + 1)) (numErrs (verWords s.data.toList) 0) = bndN false) := Lib.hid (by rw [HS.out, decide_eq_false h0]; rfl)
                            clear HS
                            obtain rfl : ek = 0 := by omega
                            go_wp2_with fail
                            refine hdc.mono ?_
                            rintro e w5 ⟨rfl, hw5⟩
                            subst hw5
                            clear hdc
                            go_wp2_with fail
                            refine hnc.mono ?_
                            rintro e w5 ⟨rfl, hw5⟩
                            subst hw5
                            clear hnc
                            go_wp2_with fail
                            go_round
                            case rel => exact ⟨k + 1, false, by omega, by go_num, rfl, HS2⟩
                            case measure => simp [intOf]; omega
            · obtain rfl : k = n' := by omega
              have HS : Hid (verErr s.data.toList = if C = true ∨ 5 < k then 2 else 0) := Lib.hid (by
                have h1 := HC'.out
                rw [lstF_take_all, HP'.out] at h1
                rw [hVE.out, verErrs_bnd h1, ← HP'.out, lstF_length])
              by_cases hbad : C = true ∨ 5 < k
              · have HF : Hid (verErr s.data.toList = 2) := Lib.hid (by rw [HS.out, if_pos hbad])
                clear HS
                cases C with
                | true =>
                  clear hbad
                  obtain ⟨z0, z1, z2, z3, zf⟩ := id hzr
                  have zf0 := zf 0
                  have zf1 := zf 1
                  have zf2 := zf 2
                  have zf3 := zf 3
                  clear zf
                  go_wp2_with fail
                  refine bodyPost_ret (v := .tuple #[.agg #[.int .i64 0, .int .i64 0, .int .i64 0, .slice none 0 0], .int .i64 2]) (by simp [results, Tryz.results97, go_sem, *]) rfl ?_
                  have hne : verErr s.data.toList ≠ 0 := by rw [HF.out]; decide
                  rw [verNum_bad hne, verNum_bad hne, verNum_bad hne, verPre_bad hne, HF.out]
                  exact ⟨⟨_, rfl, StrsAt.nil _⟩, ((((hbw).setCell (Nat.le_refl _) _).setCell (Nat.le_refl _) _).setCell (Nat.le_refl _) _).setCell (Nat.le_refl _) _⟩
                | false =>
                  have h5 : 5 < k := hbad.resolve_left (by decide)
                  clear hbad
                  obtain ⟨z0, z1, z2, z3, zf⟩ := id hzr
                  have zf0 := zf 0
                  have zf1 := zf 1
                  have zf2 := zf 2
                  have zf3 := zf 3
                  clear zf
                  go_wp2_with fail
                  refine bodyPost_ret (v := .tuple #[.agg #[.int .i64 0, .int .i64 0, .int .i64 0, .slice none 0 0], .int .i64 2]) (by simp [results, Tryz.results97, go_sem, *]) rfl ?_
                  have hne : verErr s.data.toList ≠ 0 := by rw [HF.out]; decide
                  rw [verNum_bad hne, verNum_bad hne, verNum_bad hne, verPre_bad hne, HF.out]
                  exact ⟨⟨_, rfl, StrsAt.nil _⟩, ((((hbw).setCell (Nat.le_refl _) _).setCell (Nat.le_refl _) _).setCell (Nat.le_refl _) _).setCell (Nat.le_refl _) _⟩
              · have HF : Hid (verErr s.data.toList = 0) := Lib.hid (by rw [HS.out, if_neg hbad])
                rw [not_or] at hbad
                obtain ⟨hC, h5⟩ := hbad
                obtain rfl : C = false := by simpa using hC
                have hv0 := HF.out
                have hn3 := numAt_three L s.data.toList HL.out hv0
                have HX := Lib.hid (And.intro (verPre_ok hv0) (And.intro (hn3 0 (by decide)) (And.intro (hn3 1 (by decide)) (hn3 2 (by decide)))))
                have p0 := hN.c 0 (by decide)
                have p1 := hN.c 1 (by decide)
                have p2 := hN.c 2 (by decide)
                obtain ⟨z0, z1, z2, z3, zf⟩ := id hzr
                have zf0 := zf 0
                have zf1 := zf 1
                have zf2 := zf 2
                have zf3 := zf 3
                have hne : w.heap.size ≠ w1.heap.size := Nat.ne_of_lt hwz
                have hne' : w1.heap.size ≠ w.heap.size := hne.symm
                have hCO : CellsOver wc w1.heap.size a' k P := HcP.out
                have hCf := fun v0 v1 v2 v3 => ((((hCO.set (Nat.le_of_lt hwz) 0 v0).set (Nat.le_of_lt hwz) 1 v1).set (Nat.le_of_lt hwz) 2 v2).set (Nat.le_of_lt hwz) 3 v3).strs hn' hcap'
                have HCF := Lib.hid hCf
                clear zf hC hv0 hn3 HS hCf hCO
                go_wp2_with fail
                refine bodyPost_ret (v := .tuple #[.agg #[.int .i64 (numAt L 3 0), .int .i64 (numAt L 3 1), .int .i64 (numAt L 3 2), .slice a' k cap'], .int .i64 0]) (by simp [results, Tryz.results97, go_sem, *]) rfl ?_
                obtain ⟨hpre, e0, e1, e2⟩ := HX.out
                rw [hpre, ← e0, ← e1, ← e2, HF.out, ← HP'.out]
                exact ⟨⟨_, rfl, HCF.out _ _ _ _⟩, ((((hbw).setCell (Nat.le_refl _) _).setCell (Nat.le_refl _) _).setCell (Nat.le_refl _) _).setCell (Nat.le_refl _) _⟩

/-- R.VerOf -/
theorem refVerOf_calls (s : ByteArray) (w : World) (hs : s.size ≤ 1000000000) :
    Calls Tryz.prog 97 #[.string s] w fun e w' => (∃ v, e = .returned (.tuple #[.agg #[.int .i64 (verNum s.data.toList 0 : Nat), .int .i64 (verNum s.data.toList 1 : Nat), .int .i64 (verNum s.data.toList 2 : Nat), v], .int .i64 (verErr s.data.toList : Nat)]) ∧ StrsAt w' v (verPre s.data.toList)) ∧ Below w.heap.size w w' := by
  cases hp : hasPrefix s.data.toList [118] with
  | true => exact refVerOf_v s w hs hp
  | false =>
    have h1 : verErr s.data.toList = 1 := by unfold verErr; rw [if_pos (.inl hp)]
    have hne : verErr s.data.toList ≠ 0 := by rw [h1]; decide
    refine (refVerOf_none s w hs hp).mono ?_
    rintro e w' ⟨rfl, hb⟩
    rw [verNum_bad hne, verNum_bad hne, verNum_bad hne, verPre_bad hne, h1]
    exact ⟨⟨_, rfl, StrsAt.nil _⟩, hb⟩
end Go.Proofs.Pw

/- The references' order of versions: sign, orderPart, OrderVer, IsVer, IsLess, MaxOf. -/
namespace Go.Proofs.Pw
open Go.RowKit
open Go.Lib hiding intOf

/-! ### the plain side -/
def sgnB (x y : Bool) : Int := if x then -1 else if y then 1 else 0
theorem sgnB_int (a b : Int) : sgnB (decide (a < b)) (decide (b < a)) = sgn (a - b) := by
  unfold sgnB sgn
  by_cases h : a < b
  · simp [h]; omega
  · by_cases h2 : b < a
    · simp [h, h2]; omega
    · simp [h, h2]; omega
theorem sgnB_bytes (a b : Str) : sgnB (Op.bytesLess a b) (!Op.bytesLess a b && !(a == b)) = sgn (compareBytes a b) := by
  rw [bytesLess_iff]
  unfold sgnB sgn
  by_cases h : compareBytes a b < 0
  · simp [h]
  · by_cases h2 : 0 < compareBytes a b
    · have : ¬ a = b := fun e => by subst e; rw [compareBytes_ord.self] at h2; omega
      simp [h, h2, this]
    · have : a = b := compareBytes_zero (by omega)
      subst this
      simp [compareBytes_ord.self]
theorem sgn_zero' : sgn 0 = 0 := rfl

/-- R.sign -/
theorem sign_calls (x y : Bool) (w : World) :
    Calls Tryz.prog 216 #[.bool x, .bool y] w fun e w' => e = .returned (.int .i64 (sgnB x y)) ∧ w' = w := by
  cases x with
  | true =>
    go_enter Tryz.func216, Tryz.ntmps216
    go_wp2_with fail
    go_ret
    exact ⟨rfl, rfl⟩
  | false =>
    cases y with
    | true =>
      go_enter Tryz.func216, Tryz.ntmps216
      go_wp2_with fail
      go_ret
      exact ⟨rfl, rfl⟩
    | false =>
      go_enter Tryz.func216, Tryz.ntmps216
      go_wp2_with fail
      go_ret
      exact ⟨rfl, rfl⟩

/-- R.orderPart -/
theorem orderPart_calls (a b : ByteArray) (w : World) (ha : a.size ≤ 4000000000) (hb : b.size ≤ 4000000000) :
    Calls Tryz.prog 217 #[.string a, .string b] w fun e w' => e = .returned (.int .i64 (ordPart a.data.toList b.data.toList)) ∧ w' = w := by
  have hm : ordPart a.data.toList b.data.toList = if areDigits a.data.toList && areDigits b.data.toList then sgnB (decide (((numberOf a.data.toList).1 : Int) < (numberOf b.data.toList).1)) (decide (((numberOf b.data.toList).1 : Int) < (numberOf a.data.toList).1)) else if areDigits a.data.toList || areDigits b.data.toList then sgnB (areDigits a.data.toList) (areDigits b.data.toList) else sgnB (Op.bytesLess a.toList b.toList) (!Op.bytesLess a.toList b.toList && !(a.toList == b.toList)) := by
    rw [toList_data, toList_data, sgnB_bytes, sgnB_int]
    unfold ordPart
    cases areDigits a.data.toList <;> cases areDigits b.data.toList <;> rfl
  generalize ordPart a.data.toList b.data.toList = R at hm ⊢
  have h1 := fun W => refDigits_calls a W ha
  have h2 := fun W => refDigits_calls b W hb
  have h3 := fun W => refNumber_calls a W ha
  have h4 := fun W => refNumber_calls b W hb
  generalize areDigits a.data.toList = x at h1 hm
  generalize areDigits b.data.toList = y at h2 hm
  generalize (numberOf a.data.toList).1 = m at h3 hm
  generalize (numberOf b.data.toList).1 = n at h4 hm
  have HM := Lib.hid hm
  have H1 := Lib.hid h1
  have H2 := Lib.hid h2
  have H3 := Lib.hid h3
  have H4 := Lib.hid h4
  clear hm h1 h2 h3 h4
  go_enter Tryz.func217, Tryz.ntmps217
  go_wp2_with fail
  refine (H1.out w).mono ?_
  rintro e w1 ⟨rfl, rfl⟩
  go_wp2_with fail
  refine (H2.out w).mono ?_
  rintro e w1 ⟨rfl, rfl⟩
  cases x <;> cases y
  case false.false =>
    go_wp2_with fail
    refine (sign_calls _ _ w).mono ?_
    rintro e w1 ⟨rfl, rfl⟩
    go_wp2_with fail
    go_ret
    rw [HM.out]
    exact ⟨by simp, rfl⟩
  case true.true =>
    go_wp2_with fail
    refine (H3.out w).mono ?_
    rintro e w1 ⟨rfl, rfl⟩
    go_wp2_with fail
    refine (H4.out w).mono ?_
    rintro e w1 ⟨rfl, rfl⟩
    go_wp2_with fail
    refine (sign_calls _ _ w).mono ?_
    rintro e w1 ⟨rfl, rfl⟩
    go_wp2_with fail
    go_ret
    rw [HM.out]
    exact ⟨by simp, rfl⟩
  all_goals
    go_wp2_with fail
    refine (sign_calls _ _ w).mono ?_
    rintro e w1 ⟨rfl, rfl⟩
    go_wp2_with fail
    go_ret
    rw [HM.out]
    exact ⟨rfl, rfl⟩

theorem verNums_at {a b : Str} {k : Nat} (hk : k < 3) (h0 : ∀ j, j < k → verNum a j = verNum b j) (hne : verNum a k ≠ verNum b k) : verNums a b = (verNum a k : Int) - verNum b k := by
  unfold verNums orI
  obtain rfl | rfl | rfl : k = 0 ∨ k = 1 ∨ k = 2 := by omega
  · rw [if_neg (by omega)]
  · have := h0 0 (by omega)
    rw [if_pos (by omega), if_neg (by omega)]
  · have := h0 0 (by omega)
    have := h0 1 (by omega)
    rw [if_pos (by omega), if_pos (by omega)]
theorem verNums_same {a b : Str} (h0 : ∀ j, j < 3 → verNum a j = verNum b j) : verNums a b = 0 := by
  have := h0 0 (by omega)
  have := h0 1 (by omega)
  have := h0 2 (by omega)
  unfold verNums orI
  rw [if_pos (by omega), if_pos (by omega)]
  omega
theorem sgn_verKey {a b : Str} : sgn (verKey a b) = sgn (verCmp a b) := by
  have := verCmp_sign a b
  have h3 := verKey_ord.anti a b
  unfold sgn
  split <;> split <;> (try split) <;> (try split) <;> omega
theorem verKey_nums {a b : Str} (h : verNums a b ≠ 0) : verKey a b = verNums a b := by unfold verKey orI; rw [if_neg h]
theorem verKey_pre {a b : Str} (h : verNums a b = 0) : verKey a b = orI (preEnd a - preEnd b) (cmpList (verPre a) (verPre b)) := by unfold verKey; rw [h]; rfl

theorem sgnB_ne {x y : Nat} (h : x ≠ y) : sgnB (decide ((x : Int) < y)) true = sgn ((x : Int) - y) := by
  by_cases h1 : x < y
  · rw [sgn_neg (by omega)]
    simp [sgnB, h1]
  · rw [sgn_pos (by omega)]
    simp [sgnB, h1]
theorem ordEnd {a b : Str} {n1 n2 : Nat} {L1 L2 : Nat → ByteArray} (h : verNums a b = 0) (h1 : verPre a = lstF n1 L1) (h2 : verPre b = lstF n2 L2) :
    (n1 = 0 ∨ n2 = 0 → sgn (verKey a b) = sgnB (decide ((0 : Int) < n1)) (decide ((0 : Int) < n2))) ∧ (n1 ≠ 0 → n2 ≠ 0 → sgn (verKey a b) = sgn (cmpList (lstF n1 L1) (lstF n2 L2))) := by
  rw [verKey_pre h]
  unfold preEnd
  rw [h1, h2, lstF_length, lstF_length]
  refine ⟨fun h0 => ?_, fun q1 q2 => ?_⟩
  · by_cases q1 : n1 = 0
    · subst q1
      by_cases q2 : n2 = 0
      · subst q2; rfl
      · have hd : decide ((0 : Int) < n2) = true := decide_eq_true (by omega)
        rw [hd, if_pos rfl, if_neg q2]; rfl
    · obtain rfl : n2 = 0 := by omega
      have hd : decide ((0 : Int) < n1) = true := decide_eq_true (by omega)
      rw [hd, if_neg q1, if_pos rfl]; rfl
  · rw [if_neg q1, if_neg q2]; rfl
theorem cmpList_end1 {n m : Nat} {L M : Nat → ByteArray} {k : Nat} (h : k = n) (hm : k ≤ m) : sgn (cmpList ((lstF n L).drop k) ((lstF m M).drop k)) = sgnB (decide ((n : Int) < m)) (decide ((m : Int) < n)) := by
  subst h
  rw [List.drop_of_length_le (l := lstF k L) (by rw [lstF_length]; exact Nat.le_refl _)]
  by_cases h2 : k < m
  · rw [List.drop_eq_getElem_cons (by rw [lstF_length]; exact h2), decide_eq_true (show (k : Int) < m by omega)]; rfl
  · rw [List.drop_of_length_le (by rw [lstF_length]; omega), decide_eq_false (show ¬ (k : Int) < m by omega), decide_eq_false (show ¬ (m : Int) < k by omega)]; rfl
theorem cmpList_end2 {n m : Nat} {L M : Nat → ByteArray} {k : Nat} (h : k = m) (hm : k < n) : sgn (cmpList ((lstF n L).drop k) ((lstF m M).drop k)) = sgnB (decide ((n : Int) < m)) (decide ((m : Int) < n)) := by
  subst h
  rw [List.drop_of_length_le (l := lstF k M) (by rw [lstF_length]; exact Nat.le_refl _), List.drop_eq_getElem_cons (by rw [lstF_length]; exact hm), decide_eq_false (show ¬ (n : Int) < k by omega), decide_eq_true (show (k : Int) < n by omega)]; rfl

structure NumsAt (w : World) (b : Nat) (s : Str) (v3 : Value) : Prop where
  c : ∀ j, j < 3 → w.cell? ⟨b, j, none⟩ = some (.int .i64 (verNum s j : Nat))
  c3 : w.cell? ⟨b, 3, none⟩ = some v3
theorem NumsAt.below {w w' : World} {b : Nat} {s : Str} {v3 : Value} (h : NumsAt w b s v3) (hb : Below w.heap.size w w') : NumsAt w' b s v3 :=
  ⟨fun j hj => Below.cell_some hb (h.c j hj), Below.cell_some hb h.c3⟩
theorem numsAt_alloc (w : World) (s : Str) (v3 : Value) (t : TypeId) : NumsAt (w.alloc (.cells #[.int .i64 (verNum s 0 : Nat), .int .i64 (verNum s 1 : Nat), .int .i64 (verNum s 2 : Nat), v3] t)) w.heap.size s v3 :=
  ⟨fun j hj => by obtain rfl | rfl | rfl : j = 0 ∨ j = 1 ∨ j = 2 := by omega
                  all_goals simp, by simp⟩

set_option maxRecDepth 100000 in
set_option maxHeartbeats 1000000 in
/-- R.OrderVer -/
theorem orderVer_calls (a b : ByteArray) (w : World) (ha : a.size ≤ 1000000000) (hb : b.size ≤ 1000000000) :
    Calls Tryz.prog 175 #[.string a, .string b] w fun e w' => e = .returned (.int .i64 (sgn (verCmp a.data.toList b.data.toList))) ∧ Below w.heap.size w w' := by
  have hR := sgn_verKey (a := a.data.toList) (b := b.data.toList)
  rw [← hR]
  clear hR
  have hs1 := verPre_small a.data.toList
  have hs2 := verPre_small b.data.toList
  go_enter Tryz.func175, Tryz.ntmps175
  go_wp2_with fail
  refine (refVerOf_calls a w ha).mono ?_
  rintro e w1 ⟨⟨va, rfl, a1, n1, cap1, L1, rfl, HL1, hn1, hn1', hc1⟩, hb1⟩
  have hbA := below_alloc w1 (.cells #[.int .i64 (verNum a.data.toList 0 : Nat), .int .i64 (verNum a.data.toList 1 : Nat), .int .i64 (verNum a.data.toList 2 : Nat), .slice a1 n1 cap1] 130)
  have hzA := numsAt_alloc w1 a.data.toList (.slice a1 n1 cap1) 130
  have hb1A := below_step hb1 hbA
  go_wp2_with fail
  refine (refVerOf_calls b _ hb).mono ?_
  rintro e w2 ⟨⟨vb, rfl, a2, n2, cap2, L2, rfl, HL2, hn2, hn2', hc2⟩, hb2⟩
  have hbB := below_alloc w2 (.cells #[.int .i64 (verNum b.data.toList 0 : Nat), .int .i64 (verNum b.data.toList 1 : Nat), .int .i64 (verNum b.data.toList 2 : Nat), .slice a2 n2 cap2] 130)
  have hzB := numsAt_alloc w2 b.data.toList (.slice a2 n2 cap2) 130
  have hzA2 := (hzA.below hb2).below hbB
  have hbw := below_step (below_step hb1A hb2) hbB
  have hc1' := fun j (hj : j < n1) => (let ⟨b, o, e, h2⟩ := hc1 j hj; ⟨b, o, e, Below.cell_some (below_step hbA (below_step hb2 hbB)) h2⟩ : ∃ b o, a1 = some ⟨b, o, none⟩ ∧ _)
  have hc2' := fun j (hj : j < n2) => (let ⟨b, o, e, h2⟩ := hc2 j hj; ⟨b, o, e, Below.cell_some hbB h2⟩ : ∃ b o, a2 = some ⟨b, o, none⟩ ∧ _)
  rw [HL1] at hs1
  rw [HL2] at hs2
  rw [lstF_length] at hs1 hs2
  have hL1 : ∀ j, j < n1 → (L1 j).size ≤ 4000000000 ∧ partErr (L1 j).data.toList = 0 := fun j hj => by
    have := hs1.2 _ (List.mem_of_getElem? (lstF_get n1 L1 j hj))
    exact ⟨by rw [size_eq]; omega, this.2⟩
  have hL2 : ∀ j, j < n2 → (L2 j).size ≤ 4000000000 ∧ partErr (L2 j).data.toList = 0 := fun j hj => by
    have := hs2.2 _ (List.mem_of_getElem? (lstF_get n2 L2 j hj))
    exact ⟨by rw [size_eq]; omega, this.2⟩
  have hm1 := hs1.1
  have hm2 := hs2.1
  have HPA := Lib.hid HL1
  have HPB := Lib.hid HL2
  have HC1 := Lib.hid hc1'
  have HC2 := Lib.hid hc2'
  have HS1 := Lib.hid hL1
  have HS2 := Lib.hid hL2
  clear hs1 hs2 hL1 hL2 hc1 hc2 hc1' hc2' HL1 HL2 hzA hb1 hbA hb1A
  go_wp2_with fail
  generalize hwB : w2.alloc (.cells #[.int .i64 (verNum b.data.toList 0 : Nat), .int .i64 (verNum b.data.toList 1 : Nat), .int .i64 (verNum b.data.toList 2 : Nat), .slice a2 n2 cap2] 130) = wB at *
  clear hwB
  go_loopw [9] (fun i wr => ∃ k : Nat, k ≤ 3 ∧ i = .int .i64 k ∧ Below wB.heap.size wB wr ∧ Hid (∀ j, j < k → verNum a.data.toList j = verNum b.data.toList j)) (fun i _ => 3 - (intOf i).toNat)
  case atStart => exact ⟨0, by omega, rfl, Below.refl _ _, Lib.hid (fun j hj => absurd hj (Nat.not_lt_zero _))⟩
  case round =>
    obtain ⟨k, hk, rfl, hbr, HA⟩ := hrel
    have hbrw := below_step hbw hbr
    by_cases hlt : k < 3
    · have d1 := (hzA2.below hbr).c k hlt
      have d2 := (hzB.below hbr).c k hlt
      by_cases he : verNum a.data.toList k = verNum b.data.toList k
      · have HN : Hid (∀ j, j < k + 1 → verNum a.data.toList j = verNum b.data.toList j) := Lib.hid (fun j hj => by
          by_cases e : j = k
          · subst e; exact he
          · exact HA.out j (by omega))
        rw [he] at d1
        generalize verNum b.data.toList k = x at d1 d2
        clear he
        go_wp2_with fail
        go_region
        all_goals
          go_wp2_with fail
          go_roundw
          case rel => exact ⟨k + 1, by omega, by go_num, hbr.drew, HN⟩
          case measure => simp [intOf]; omega
      · have hX : sgn (verKey a.data.toList b.data.toList) = sgnB (decide ((verNum a.data.toList k : Int) < verNum b.data.toList k)) true := by
          have h1 := verNums_at hlt HA.out he
          rw [verKey_nums (by rw [h1]; omega), h1, sgnB_ne he]
        have hne : ((verNum a.data.toList k : Int) == (verNum b.data.toList k : Int)) = false := beq_eq_false_iff_ne.2 (by omega)
        generalize verNum a.data.toList k = x at d1 hX hne
        generalize verNum b.data.toList k = y at d2 hX hne
        have HX := Lib.hid hX
        clear he hX
        go_wp2_with fail
        go_region
        go_wp2_with fail
        have e1 : wr.drew.cell? _ = _ := d1
        have e2 : wr.drew.cell? _ = _ := d2
        have hbd := Below.drew hbrw
        generalize wr.drew = wd at e1 e2 hbd ⊢
        clear d1 d2
        go_quiet ((go_at_call 216; exact Calls.quiet_of_same (sign_calls _ _ _)))
        go_wp2_with fail
        go_ret
        rw [HX.out]
        exact ⟨by simp, Below.drewN hbd _⟩
    · obtain rfl : k = 3 := by omega
      have hEnd := ordEnd (verNums_same HA.out) HPA.out HPB.out
      have p3 := (hzA2.below hbr).c3
      have q3 := (hzB.below hbr).c3
      have hE1 := Lib.hid hEnd.1
      have hE2 := Lib.hid hEnd.2
      clear hEnd HA
      by_cases p1 : n1 = 0
      · have HX := Lib.hid (hE1.out (.inl p1))
        have p1' : ((n1 : Int) == 0) = true := beq_iff_eq.2 (by omega)
        have p1'' : ¬ (0 : Int) < (n1 : Int) := by omega
        clear p1
        go_wp2_with fail
        refine (sign_calls _ _ _).mono ?_
        rintro e w5 ⟨rfl, rfl⟩
        go_wp2_with fail
        go_ret
        rw [HX.out]
        exact ⟨by simp, hbrw⟩
      · have p1' : ((n1 : Int) == 0) = false := beq_eq_false_iff_ne.2 (by omega)
        have p1'' : (0 : Int) < (n1 : Int) := by omega
        by_cases p2 : n2 = 0
        · have HX := Lib.hid (hE1.out (.inr p2))
          have p2' : ((n2 : Int) == 0) = true := beq_iff_eq.2 (by omega)
          have p2'' : ¬ (0 : Int) < (n2 : Int) := by omega
          clear p1 p2
          go_wp2_with fail
          refine (sign_calls _ _ _).mono ?_
          rintro e w5 ⟨rfl, rfl⟩
          go_wp2_with fail
          go_ret
          rw [HX.out]
          exact ⟨by simp, hbrw⟩
        · have HX := Lib.hid (hE2.out p1 p2)
          have p2' : ((n2 : Int) == 0) = false := beq_eq_false_iff_ne.2 (by omega)
          clear p1 p2 p1'' hE1 hE2
          obtain ⟨wo, hwo⟩ : ∃ wo : World, wo = wr := ⟨_, rfl⟩
          subst hwo
          go_wp2_with fail
          go_loopw [10, 11] (fun i _ wq => ∃ m : Nat, m ≤ n1 ∧ m ≤ n2 ∧ i = .int .i64 m ∧ Below wo.heap.size wo wq ∧ Hid (sgn (verKey a.data.toList b.data.toList) = sgn (cmpList ((lstF n1 L1).drop m) ((lstF n2 L2).drop m)))) (fun i _ _ => n1 - (intOf i).toNat)
          case atStart => exact ⟨0, by omega, by omega, rfl, Below.refl _ _, HX⟩
          case round =>
            obtain ⟨m, hm, hm', rfl, hbq, HC⟩ := hrel
            have hbqw := below_step hbrw hbq
            have hbqB := below_step hbr hbq
            replace p3 := Below.cell_some hbq p3
            replace q3 := Below.cell_some hbq q3
            by_cases hl1 : m < n1
            · by_cases hl2 : m < n2
              · obtain ⟨b1, o1, rfl, e1⟩ := HC1.out m hl1
                obtain ⟨b2, o2, rfl, e2⟩ := HC2.out m hl2
                replace e1 := Below.cell_some hbqB e1
                replace e2 := Below.cell_some hbqB e2
                have hcall := fun W => orderPart_calls (L1 m) (L2 m) W (HS1.out m hl1).1 (HS2.out m hl2).1
                rw [ordPart_eq (HS1.out m hl1).2 (HS2.out m hl2).2] at hcall
                have hst := cmpList_drop n1 n2 L1 L2 m hl1 hl2
                generalize cmpPart (L1 m).data.toList (L2 m).data.toList = c at hcall hst
                by_cases hc : c = 0
                · subst hc
                  rw [orI_zero] at hst
                  rw [sgn_zero'] at hcall
                  have HN : Hid (sgn (verKey a.data.toList b.data.toList) = sgn (cmpList ((lstF n1 L1).drop (m + 1)) ((lstF n2 L2).drop (m + 1)))) := Lib.hid (by rw [HC.out, hst])
                  have HCall := Lib.hid hcall
                  clear hst hcall
                  go_wp2_with fail
                  go_quiet ((go_at_call 217; exact Calls.quiet_of_same (HCall.out _)))
                  go_wp2_with fail
                  go_roundw
                  case rel => exact ⟨m + 1, by omega, by omega, by go_num, Below.drewN hbq _, HN⟩
                  case measure => simp [intOf]; omega
                · have hne : (sgn c == 0) = false := beq_eq_false_iff_ne.2 (fun e => hc (sgn_zero.1 e))
                  rw [orI_left hc] at hst
                  have HN : Hid (sgn (verKey a.data.toList b.data.toList) = sgn c) := Lib.hid (by rw [HC.out, hst])
                  generalize sgn c = sc at hcall hne HN
                  have HCall := Lib.hid hcall
                  clear hst hcall hc
                  go_wp2_with fail
                  go_quiet ((go_at_call 217; exact Calls.quiet_of_same (HCall.out _)))
                  go_wp2_with fail
                  go_ret
                  rw [HN.out]
                  exact ⟨rfl, Below.drewN hbqw _⟩
              · have HN : Hid (sgn (verKey a.data.toList b.data.toList) = sgnB (decide ((n1 : Int) < n2)) (decide ((n2 : Int) < n1))) := Lib.hid (by rw [HC.out, cmpList_end2 (by omega) hl1])
                go_wp2_with fail
                refine (sign_calls _ _ _).mono ?_
                rintro e w5 ⟨rfl, rfl⟩
                go_wp2_with fail
                go_ret
                rw [HN.out]
                exact ⟨by simp, hbqw⟩
            · have HN : Hid (sgn (verKey a.data.toList b.data.toList) = sgnB (decide ((n1 : Int) < n2)) (decide ((n2 : Int) < n1))) := Lib.hid (by rw [HC.out, cmpList_end1 (by omega) hm'])
              go_wp2_with fail
              refine (sign_calls _ _ _).mono ?_
              rintro e w5 ⟨rfl, rfl⟩
              go_wp2_with fail
              go_ret
              rw [HN.out]
              exact ⟨by simp, hbqw⟩

/-- R.IsVer -/
theorem isVer_calls (a : ByteArray) (w : World) (ha : a.size ≤ 1000000000) :
    Calls Tryz.prog 174 #[.string a] w fun e w' => e = .returned (.bool (decide (verErr a.data.toList = 0))) ∧ Below w.heap.size w w' := by
  go_enter Tryz.func174, Tryz.ntmps174
  go_wp2_with fail
  refine (refVerOf_calls a w ha).mono ?_
  rintro e w1 ⟨⟨va, rfl, a1, n1, cap1, L1, rfl, _, _, _, _⟩, hb1⟩
  by_cases h : verErr a.data.toList = 0
  · have HF := Lib.hid (decide_eq_true h)
    rw [h]
    clear h
    go_wp2_with fail
    go_ret
    rw [HF.out]
    exact ⟨rfl, hb1.alloc hb1.size _⟩
  · have h' : ((verErr a.data.toList : Int) == 0) = false := beq_eq_false_iff_ne.2 (by omega)
    have HF := Lib.hid (decide_eq_false h)
    clear h
    go_wp2_with fail
    go_ret
    rw [HF.out]
    exact ⟨rfl, hb1.alloc hb1.size _⟩

/-- R.IsLess -/
theorem isLess_calls (a b : ByteArray) (w : World) (ha : a.size ≤ 1000000000) (hb : b.size ≤ 1000000000) :
    Calls Tryz.prog 130 #[.string a, .string b] w fun e w' => e = .returned (.bool (verLess a.data.toList b.data.toList)) ∧ Below w.heap.size w w' := by
  have hm : verLess a.data.toList b.data.toList = (decide (verErr a.data.toList = 0) && (decide (verErr b.data.toList = 0) && decide (sgn (verCmp a.data.toList b.data.toList) < 0))) := by
    unfold verLess
    rw [Bool.eq_iff_iff]
    simp [sgn_lt]
  generalize verLess a.data.toList b.data.toList = R at hm ⊢
  have h1 := fun W => isVer_calls a W ha
  have h2 := fun W => isVer_calls b W hb
  have h3 := fun W => orderVer_calls a b W ha hb
  generalize decide (verErr a.data.toList = 0) = x at h1 hm
  generalize decide (verErr b.data.toList = 0) = y at h2 hm
  generalize sgn (verCmp a.data.toList b.data.toList) = c at h3 hm
  have HM := Lib.hid hm
  have H1 := Lib.hid h1
  have H2 := Lib.hid h2
  have H3 := Lib.hid h3
  clear hm h1 h2 h3
  go_enter Tryz.func130, Tryz.ntmps130
  go_wp2_with fail
  refine (H1.out w).mono ?_
  rintro e w1 ⟨rfl, hb1⟩
  go_wp2_with fail
  refine (H2.out w1).mono ?_
  rintro e w2 ⟨rfl, hb2⟩
  have hb12 := below_step hb1 hb2
  cases x <;> cases y
  case true.true =>
    go_wp2_with fail
    refine (H3.out w2).mono ?_
    rintro e w3 ⟨rfl, hb3⟩
    have hb13 := below_step hb12 hb3
    go_wp2_with fail
    go_ret
    rw [HM.out]
    exact ⟨by simp, hb13⟩
  all_goals
    go_wp2_with fail
    go_ret
    rw [HM.out]
    exact ⟨rfl, hb12⟩

/-- the greater of two versions -/
def verMax (a b : Str) : Str := if verErr a ≠ 0 ∧ verErr b ≠ 0 then [] else if verErr a ≠ 0 then b else if verErr b ≠ 0 then a else if verCmp a b < 0 then b else a
theorem verMax_eq (a b : Str) : verMax a b = (match decide (verErr a = 0), decide (verErr b = 0) with
    | false, false => [] | false, true => b | true, false => a | true, true => if sgn (verCmp a b) < 0 then b else a) := by
  unfold verMax
  by_cases h1 : verErr a = 0 <;> by_cases h2 : verErr b = 0 <;> simp [h1, h2, sgn_lt]
theorem mk_data (b : ByteArray) : (⟨b.data.toList.toArray⟩ : ByteArray) = b := by apply bytes_ext.1; rfl

/-- R.MaxOf -/
theorem maxOf_calls (a b : ByteArray) (w : World) (ha : a.size ≤ 1000000000) (hb : b.size ≤ 1000000000) :
    Calls Tryz.prog 150 #[.string a, .string b] w fun e w' => e = .returned (.string ⟨(verMax a.data.toList b.data.toList).toArray⟩) ∧ Below w.heap.size w w' := by
  have hm := verMax_eq a.data.toList b.data.toList
  generalize verMax a.data.toList b.data.toList = R at hm ⊢
  have h1 := fun W => isVer_calls a W ha
  have h2 := fun W => isVer_calls b W hb
  have h3 := fun W => orderVer_calls a b W ha hb
  generalize decide (verErr a.data.toList = 0) = x at h1 hm
  generalize decide (verErr b.data.toList = 0) = y at h2 hm
  generalize sgn (verCmp a.data.toList b.data.toList) = c at h3 hm
  have HM := Lib.hid hm
  have H1 := Lib.hid h1
  have H2 := Lib.hid h2
  have H3 := Lib.hid h3
  clear hm h1 h2 h3
  go_enter Tryz.func150, Tryz.ntmps150
  go_wp2_with fail
  refine (H1.out w).mono ?_
  rintro e w1 ⟨rfl, hb1⟩
  go_wp2_with fail
  refine (H2.out w1).mono ?_
  rintro e w2 ⟨rfl, hb2⟩
  have hb12 := below_step hb1 hb2
  cases x <;> cases y
  case true.true =>
    by_cases hc : c < 0
    · have HF : Hid (R = b.data.toList) := Lib.hid (by rw [HM.out]; simp [hc])
      go_wp2_with fail
      refine (H3.out w2).mono ?_
      rintro e w3 ⟨rfl, hb3⟩
      have hb13 := below_step hb12 hb3
      go_wp2_with fail
      go_ret
      rw [HF.out, mk_data]
      exact ⟨rfl, hb13⟩
    · have HF : Hid (R = a.data.toList) := Lib.hid (by rw [HM.out]; simp [hc])
      go_wp2_with fail
      refine (H3.out w2).mono ?_
      rintro e w3 ⟨rfl, hb3⟩
      have hb13 := below_step hb12 hb3
      go_wp2_with fail
      go_ret
      rw [HF.out, mk_data]
      exact ⟨rfl, hb13⟩
  case false.false =>
    go_wp2_with fail
    go_ret
    rw [HM.out]
    exact ⟨rfl, hb12⟩
  case false.true =>
    go_wp2_with fail
    go_ret
    rw [HM.out]
    exact ⟨by rw [mk_data]; rfl, hb12⟩
  case true.false =>
    go_wp2_with fail
    go_ret
    rw [HM.out]
    exact ⟨by rw [mk_data]; rfl, hb12⟩
end Go.Proofs.Pw

/- The references' has, IsUnder; rises of the statements. Conditions: texts of at most 1000000000 bytes, lists of at most 1000000. -/
namespace Go.Proofs.Pw
open Go.RowKit
open Go.Lib hiding intOf

set_option maxHeartbeats 1000000 in
set_option maxRecDepth 100000 in
theorem refHas_calls (v : Value) (l : List Md) (p q : ByteArray) (w : World) (h : ModsAt w v l) (hs : ∀ m ∈ l, m.2.length ≤ 1000000000) (hq : q.size ≤ 1000000000) :
    Calls Tryz.prog 112 #[v, .agg #[.string p, .string q]] w fun e w' => e = .returned (.bool (hasB l (p.data.toList, q.data.toList))) ∧ Below w.heap.size w w' := by
  have hB := below_alloc w (.cells #[.string p, .string q] 26)
  have hz := box2_alloc w (.string p) (.string q) 26
  have hf := findPath_calls v l p (w.alloc (.cells #[.string p, .string q] 26)) (h.below hB)
  have hno := hasB_no (sel := l) (m := (p.data.toList, q.data.toList))
  have hat := fun k => hasB_at (sel := l) (m := (p.data.toList, q.data.toList)) (k := k)
  unfold hasP at hno hat
  simp only at hno hat
  have hsp := fun k => @findI_spec _ (fun m : Md => decide (m.1 = p.data.toList)) l k
  generalize findI (fun m : Md => decide (m.1 = p.data.toList)) l = x at hf hno hat hsp
  obtain ⟨a, n, cap, P, V, rfl, rfl, hnc, hcap, hc⟩ := h
  obtain ⟨y0, y1, _⟩ := hz
  replace hf := Lib.hid hf
  by_cases hx : x < 0
  · have HR := Lib.hid (hno hx)
    clear hno hat hsp hc hs
    go_enter Tryz.func112, Tryz.ntmps112
    go_wp2_with fail
    refine hf.out.mono ?_
    rintro e w' ⟨rfl, rfl⟩
    go_wp2_with fail
    go_ret
    rw [HR.out]
    exact ⟨rfl, hB⟩
  · obtain ⟨k, rfl⟩ : ∃ k : Nat, x = k := ⟨x.toNat, by omega⟩
    obtain ⟨y, hy, hp⟩ := hsp k rfl
    have hkn : k < n := by have := (List.getElem?_eq_some_iff.1 hy).1; rwa [mdF_length] at this
    have hkz : (k : Int) < (n : Int) := by omega
    have hk0 : ¬ ((k : Int) < 0) := by omega
    obtain ⟨b1, o1, rfl, c0, c1⟩ := hc k hkn
    have hR := hat k rfl
    rw [mdAt_mdF hkn] at hR
    have hVs := hs _ (List.mem_of_getElem? (mdF_get n P V k hkn))
    have hless := fun W => isLess_calls (V k) q W (by rw [size_eq]; exact hVs) hq
    have HR := Lib.hid hR
    generalize verLess (V k).data.toList q.data.toList = D at hless HR
    replace hless := Lib.hid hless
    have d1 := Below.cell_some hB c1
    clear hno hat hsp hc hs hR hVs hy hp c0 c1 hx
    go_enter Tryz.func112, Tryz.ntmps112
    go_wp2_with fail
    refine hf.out.mono ?_
    rintro e w' ⟨rfl, rfl⟩
    go_wp2_with fail
    generalize w.alloc (.cells #[.string p, .string q] 26) = w1 at *
    have kqd1 := fun d os => cell_patch (d := d) (os := os) d1
    have kqy1 := fun d os => cell_patch (d := d) (os := os) y1
    refine wp_region_quiet_patch (by kernel_rfl) (by kernel_rfl) ?_
    repeat (go_big_quiet_step ((go_at_call 130; exact Calls.patch_of (hless.out _))))
    refine wpQuiet_nil ?_
    intro _ hw'
    obtain ⟨⟨dq, osq⟩, hw''⟩ := hw'
    subst hw''
    clear kqd1 kqy1
    have hb := below_patch w1 dq osq
    replace hB := below_step hB hb
    clear hb
    generalize patch w1 dq osq = w2 at hB ⊢
    go_wp2_with fail
    go_ret
    rw [HR.out]
    exact ⟨rfl, hB⟩

set_option maxHeartbeats 1000000 in
set_option maxRecDepth 100000 in
theorem isUnder_calls (va vb : Value) (la lb : List Md) (w : World) (ha : ModsAt w va la) (hb0 : ModsAt w vb lb) (hsa : ∀ m ∈ la, m.2.length ≤ 1000000000) (hsb : ∀ m ∈ lb, m.2.length ≤ 1000000000) :
    Calls Tryz.prog 52 #[va, vb] w fun e w' => e = .returned (.bool (underB la lb)) ∧ Below w.heap.size w w' := by
  obtain ⟨a2, n2, cap2, _, _, rfl, _⟩ := id hb0
  obtain ⟨a, n, cap, P, V, rfl, rfl, hnc, hcap, hc⟩ := ha
  have HSA := Lib.hid hsa
  have HSB := Lib.hid hsb
  have HB := Lib.hid hb0
  replace hc := Lib.hid hc
  clear hsa hsb hb0
  go_enter Tryz.func52, Tryz.ntmps52
  go_wp2_with fail
  go_loopw [5] (fun i wr => ∃ k : Nat, k ≤ n ∧ i = .int .i64 k ∧ Below w.heap.size w wr ∧ Hid (∀ j, j < k → hasB lb ((P j).data.toList, (V j).data.toList) = true)) (fun i _ => n - (intOf i).toNat)
  case atStart => exact ⟨0, Nat.zero_le _, rfl, Below.refl _ _, Lib.hid (fun j hj => absurd hj (Nat.not_lt_zero _))⟩
  case round =>
    obtain ⟨k, hk, rfl, hB, HA⟩ := hrel
    by_cases hlt : k < n
    · have hkn : (k : Int) < (n : Int) := by omega
      obtain ⟨b1, o1, ea, c0, c1⟩ := hc.out k hlt
      replace c0 := Below.cell_some hB c0
      replace c1 := Below.cell_some hB c1
      have hm := List.mem_of_getElem? (mdF_get n P V k hlt)
      have hh := refHas_calls (.slice a2 n2 cap2) lb (P k) (V k) wr (HB.out.below hB) HSB.out (by rw [size_eq]; exact HSA.out _ hm)
      obtain ⟨D, hD⟩ : ∃ D, D = hasB lb ((P k).data.toList, (V k).data.toList) := ⟨_, rfl⟩
      rw [← hD] at hh
      have HM := Lib.hid hm
      have HD := Lib.hid hD
      subst ea
      replace hh := Lib.hid hh
      clear hm hD
      cases D with
      | false =>
        have HF : Hid (underB (mdF n P V) lb = false) := Lib.hid (by
          cases h2 : underB (mdF n P V) lb
          · rfl
          · rw [under_mem] at h2
            have := h2 _ HM.out
            rw [← HD.out] at this
            cases this)
        go_wp2_with fail
        refine hh.out.mono ?_
        rintro e w2 ⟨rfl, hb⟩
        go_wp2_with fail
        go_ret
        rw [HF.out]
        exact ⟨rfl, below_step hB hb⟩
      | true =>
        have HN : Hid (∀ j, j < k + 1 → hasB lb ((P j).data.toList, (V j).data.toList) = true) := Lib.hid (fun j hj => by
          by_cases e : j = k
          · subst e; exact HD.out.symm
          · exact HA.out j (by omega))
        go_wp2_with fail
        refine hh.out.mono ?_
        rintro e w2 ⟨rfl, hb⟩
        go_wp2_with fail
        go_roundw
        case rel => exact ⟨k + 1, by omega, by go_num, below_step hB hb, HN⟩
        case measure => simp [intOf]; omega
    · obtain rfl : n = k := by omega
      have HF : Hid (underB (mdF n P V) lb = true) := Lib.hid (by
        rw [under_mem]
        intro m hm
        obtain ⟨j, hj⟩ := List.getElem?_of_mem hm
        have hl : j < n := by have := (List.getElem?_eq_some_iff.1 hj).1; rwa [mdF_length] at this
        rw [mdF_get n P V j hl] at hj
        cases hj
        exact HA.out j hl)
      go_wp2_with fail
      go_ret
      rw [HF.out]
      exact ⟨rfl, hB⟩
end Go.Proofs.Pw

/- rises of the statements. Conditions: texts of at most 1000000 bytes, lists of at most 1000000. -/
namespace Go.Proofs.Pw
open Go.RowKit
open Go.Lib hiding intOf

theorem risesB_of {n : Nat} {P V : Nat → ByteArray} {R : Nat → List Md} {K : Nat → List Str} {B : Nat → Bool} (h : ∀ i k, i < k → k < n → (P i).data.toList = (P k).data.toList → underB (R i) (R k) = true) : risesB (enF n P V R K B) = true := by
  unfold risesB
  rw [List.all_eq_true]
  intro i hi
  rw [List.all_eq_true]
  intro k hk
  rw [List.mem_range, enF_length] at hi hk
  rw [enAt_enF hi, enAt_enF hk]
  by_cases h1 : i < k
  · by_cases h2 : (P i).data.toList = (P k).data.toList
    · rw [h i k h1 hk h2, Bool.or_true]
    · rw [show decide ((P i).data.toList = (P k).data.toList) = false from decide_eq_false h2]; simp
  · rw [decide_eq_false h1]; simp
theorem risesB_not {n : Nat} {P V : Nat → ByteArray} {R : Nat → List Md} {K : Nat → List Str} {B : Nat → Bool} {i k : Nat} (h1 : i < k) (h2 : k < n) (h3 : (P i).data.toList = (P k).data.toList) (h4 : underB (R i) (R k) = false) : risesB (enF n P V R K B) = false := by
  cases h : risesB (enF n P V R K B)
  · rfl
  · have := risesB_at h h1 (by rw [enF_length]; exact h2) (by rw [enAt_enF (by omega), enAt_enF h2]; exact h3)
    rw [enAt_enF (by omega), enAt_enF h2] at this
    rw [show underB (R i) (R k) = true from this] at h4
    cases h4

set_option maxHeartbeats 8000000 in
set_option maxRecDepth 100000 in
theorem rises_in (a : Option Addr) (n cap : Nat) (P V : Nat → ByteArray) (R : Nat → List Md) (K : Nat → List Str) (B : Nat → Bool) (Rv Kv : Nat → Value) (w : World) (h : EntsIn w a n cap P V R K B Rv Kv) (hs : ShortI (enF n P V R K B)) (hn : n ≤ 1000000) :
    Calls Tryz.prog 49 #[.slice a n cap] w fun e w' => e = .returned (.bool (risesB (enF n P V R K B))) ∧ Below w.heap.size w w' := by
  have H := Lib.hid h
  have HS : Hid (∀ j, j < n → ∀ m ∈ R j, m.2.length ≤ 1000000000) := Lib.hid (fun j hj m hm => by
    have := ((hs.reqs _ (List.mem_of_getElem? (enF_get n P V R K B j hj))).2 m hm).2
    omega)
  have HT := Lib.hid (fun h => risesB_of (n := n) (P := P) (V := V) (R := R) (K := K) (B := B) h)
  have HF := Lib.hid (fun i k h1 h2 h3 h4 => risesB_not (n := n) (P := P) (V := V) (R := R) (K := K) (B := B) (i := i) (k := k) h1 h2 h3 h4)
  generalize risesB (enF n P V R K B) = RB at *
  clear h hs
  go_enter Tryz.func49, Tryz.ntmps49
  go_wp2_with fail
  go_loopw [3, 4, 5] (fun i _ _ wr => ∃ p : Nat, p ≤ n ∧ i = .int .i64 p ∧ Below w.heap.size w wr ∧ Hid (∀ x y, x < p → x < y → y < n → (P x).data.toList = (P y).data.toList → underB (R x) (R y) = true)) (fun i _ _ _ => n - (intOf i).toNat)
  case atStart => exact ⟨0, Nat.zero_le _, rfl, Below.refl _ _, Lib.hid (fun x y h => absurd h (Nat.not_lt_zero _))⟩
  case round =>
    obtain ⟨p, hp, rfl, hB, HA⟩ := hrel
    by_cases hlt : p < n
    · have hpn : (p : Int) < (n : Int) := by omega
      have hwp := wrap_nat (p + 1) (by omega)
      go_wp2_with fail
      go_loopw [4, 5] (fun i _ wq => ∃ q : Nat, q + 1 ≤ n ∧ p ≤ q ∧ i = .int .i64 ((q : Int) + 1) ∧ Below w.heap.size w wq ∧ Hid (∀ y, p < y → y ≤ q → (P p).data.toList = (P y).data.toList → underB (R p) (R y) = true)) (fun i _ _ => n - (intOf i).toNat)
      case atStart => exact ⟨p, hlt, Nat.le_refl _, by go_num, hB, Lib.hid (fun y h1 h2 => by omega)⟩
      case round =>
        clear hB
        obtain ⟨q, hq, hpq, rfl, hB, HQ⟩ := hrel
        have hq1 : (0 : Int) ≤ (q : Int) + 1 := by omega
        have hq2 : ((q : Int) + 1).toNat = q + 1 := by omega
        have hq4 : ¬ ((q : Int) + 1 < 0) := by omega
        have hq5 := wrap_nat (q + 1 + 1) (by omega)
        by_cases hlt2 : q + 1 < n
        · have hqn : (q : Int) + 1 < (n : Int) := by omega
          obtain ⟨b1, o1, ea, hc1⟩ := H.out.at_ p hlt
          obtain ⟨b2, o2, eb, hc2⟩ := H.out.at_ (q + 1) hlt2
          rw [ea] at eb
          injection eb with eb
          injection eb with eb1 eb2 _
          subst eb1 eb2
          obtain ⟨a7, n7, s7, a8, n8, s8, e7, e8⟩ := H.out.forms hlt
          obtain ⟨a5, n5, s5, a6, n6, s6, e5, e6⟩ := H.out.forms hlt2
          have hM1 := H.out.reqs p hlt
          have hM2 := H.out.reqs (q + 1) hlt2
          rw [e7, e8] at hc1
          rw [e5, e6] at hc2
          rw [e7] at hM1
          rw [e5] at hM2
          have c0 := Below.cell_some hB hc1.c0
          have c2 := Below.cell_some hB hc1.c2
          have d0 := Below.cell_some hB hc2.c0
          have d2 := Below.cell_some hB hc2.c2
          have hiu := fun W (hb : Below w.heap.size w W) => isUnder_calls (.slice a7 n7 s7) (.slice a5 n5 s5) (R p) (R (q + 1)) W (hM1.below hb) (hM2.below hb) (HS.out p hlt) (HS.out (q + 1) hlt2)
          subst ea
          replace hiu := Lib.hid hiu
          clear hc1 hc2 hM1 hM2 e5 e6 e7 e8
          by_cases he : (P p).data.toList = (P (q + 1)).data.toList
          · have he1 : P p = P (q + 1) := bytes_eq.1 he
            have he2 : ((P p).toList != (P (q + 1)).toList) = false := by rw [he1]; simp
            have he3 : ((P p).toList == (P (q + 1)).toList) = true := by rw [he1]; simp
            obtain ⟨D, hD⟩ : ∃ D, D = underB (R p) (R (q + 1)) := ⟨_, rfl⟩
            rw [← hD] at hiu
            have HD := Lib.hid (And.intro hD he)
            clear he he1 hD
            go_wp2_with fail
            have kB := Lib.hid (fun d os => below_step hB (below_patch wr d os))
            have kqc0 := fun d os => cell_patch (d := d) (os := os) c0
            have kqd0 := fun d os => cell_patch (d := d) (os := os) d0
            refine wp_region_quiet_patch (by kernel_rfl) (by kernel_rfl) ?_
            repeat (go_big_quiet_step (fail))
            refine wpQuiet_nil ?_
            intro _ hw'
            obtain ⟨⟨dq, osq⟩, hw''⟩ := hw'
            subst hw''
            clear kqc0 kqd0
            have hb := below_patch wr dq osq
            replace hB := below_step hB hb
            replace c2 := Below.cell_some hb c2
            replace d2 := Below.cell_some hb d2
            clear hb
            generalize patch wr dq osq = w2 at hB c2 d2 ⊢
            clear c0 d0 kB
            go_wp2_with fail
            have kB := Lib.hid (fun d os => below_step hB (below_patch w2 d os))
            have kqc2 := fun d os => cell_patch (d := d) (os := os) c2
            have kqd2 := fun d os => cell_patch (d := d) (os := os) d2
            refine wp_region_quiet_patch (by kernel_rfl) (by kernel_rfl) ?_
            repeat (go_big_quiet_step ((go_at_call 52; exact Calls.patch_of (hiu.out _ (kB.out _ _)))))
            refine wpQuiet_nil ?_
            intro _ hw'
            obtain ⟨⟨dq, osq⟩, hw''⟩ := hw'
            subst hw''
            clear kqc2 kqd2
            have hb := below_patch w2 dq osq
            replace hB := below_step hB hb
            clear hb
            generalize patch w2 dq osq = w3 at hB ⊢
            clear c2 d2 kB
            cases D with
            | false =>
              have hR : RB = false := HF.out p (q + 1) (by omega) hlt2 HD.out.2 HD.out.1.symm
              subst hR
              go_wp2_with fail
              go_ret
              exact ⟨rfl, hB⟩
            | true =>
              go_wp2_with fail
              go_roundw
              case rel =>
                refine ⟨q + 1, hlt2, by omega, by go_num, hB, Lib.hid (fun y h1 h2 h3 => ?_)⟩
                by_cases e : y = q + 1
                · subst e; exact HD.out.1.symm
                · exact HQ.out y h1 (by omega) h3
              case measure => simp [intOf]; omega
          · have he2 : ((P p).toList != (P (q + 1)).toList) = true := by rw [toList_data, toList_data]; exact bne_iff_ne.2 he
            have he3 : ((P p).toList == (P (q + 1)).toList) = false := by rw [toList_data, toList_data]; exact beq_eq_false_iff_ne.2 he
            have he4 : (P p).toList ≠ (P (q + 1)).toList := by rw [toList_data, toList_data]; exact he
            have HE := Lib.hid he
            clear he
            go_wp2_with fail
            have kqc0 := fun d os => cell_patch (d := d) (os := os) c0
            have kqd0 := fun d os => cell_patch (d := d) (os := os) d0
            refine wp_region_quiet_patch (by kernel_rfl) (by kernel_rfl) ?_
            repeat (go_big_quiet_step (fail))
            refine wpQuiet_nil ?_
            intro _ hw'
            obtain ⟨⟨dq, osq⟩, hw''⟩ := hw'
            subst hw''
            clear kqc0 kqd0
            have hb := below_patch wr dq osq
            replace hB := below_step hB hb
            clear hb
            generalize patch wr dq osq = w2 at hB ⊢
            clear c0 d0
            go_wp2_with fail
            go_roundw
            case rel =>
              refine ⟨q + 1, hlt2, by omega, by go_num, hB, Lib.hid (fun y h1 h2 h3 => ?_)⟩
              by_cases e : y = q + 1
              · subst e; exact absurd h3 HE.out
              · exact HQ.out y h1 (by omega) h3
            case measure => simp [intOf]; omega
        · have hqn : ¬ (q : Int) + 1 < (n : Int) := by omega
          go_wp2_with fail
          go_roundw
          case rel =>
            refine ⟨p + 1, hlt, by go_num, hB, Lib.hid (fun x y h1 h2 h3 h4 => ?_)⟩
            by_cases e : x = p
            · subst e; exact HQ.out y h2 (by omega) h4
            · exact HA.out x y (by omega) h2 h3 h4
          case measure => simp [intOf]; omega
    · have hpn : ¬ (p : Int) < (n : Int) := by omega
      have hR : RB = true := HT.out (fun i k h1 h2 h3 => HA.out i k (by omega) h1 h2 h3)
      subst hR
      go_wp2_with fail
      go_ret
      exact ⟨rfl, hB⟩
end Go.Proofs.Pw

/- MvsLeast: its walk. -/
namespace Go.Proofs.Pw
open Go.RowKit
open Go.Lib hiding intOf

theorem longI_is (l : List Md) (most : Nat) : longI l most = if longMods l most then 1 else 0 := rfl
/-- what is shared by the walks -/
structure MlArgs (ks : List Nat) (A : Nat → Addr) (la : Option Addr) (ln lc : Nat) (P V : Nat → ByteArray) (R : Nat → List Md) (K : Nat → List Str) (Bk : Nat → Bool) (Rv Kv : Nat → Value) (av bv cv : Value) (Am Bm Cm : List Md) (w : World) : Prop where
  idx : IdxKs ks
  env : EnvP ks A w
  l : EntsIn w la ln lc P V R K Bk Rv Kv
  a : ModsAt w av Am
  b : ModsAt w bv Bm
  c : ModsAt w cv Cm

set_option maxHeartbeats 4000000 in
set_option maxRecDepth 100000 in
theorem mvsLeast_long (ks : List Nat) (A : Nat → Addr) (la : Option Addr) (ln lc : Nat) (P V : Nat → ByteArray) (R : Nat → List Md) (K : Nat → List Str) (Bk : Nat → Bool) (Rv Kv : Nat → Value) (av bv cv : Value) (Am Bm Cm : List Md) (w : World) (H : MlArgs ks A la ln lc P V R K Bk Rv Kv av bv cv Am Bm Cm w)
    (hlong : longIdx (enF ln P V R K Bk) = true ∨ (longIdx (enF ln P V R K Bk) = false ∧ ¬ (longMods Am 15 = false ∧ longMods Bm 15 = false ∧ longMods Cm 15 = false))) :
    Calls Tryz.prog 8 #[.slice la ln lc, av, bv, cv] w fun e w' => e = .returned (.bool true) ∧ Below w.heap.size w w' := by
  obtain ⟨a1, n1, c1, _, _, rfl, -⟩ := id H.a
  obtain ⟨a2, n2, c2, _, _, rfl, -⟩ := id H.b
  obtain ⟨a3, n3, c3, _, _, rfl, -⟩ := id H.c
  have hre := built_calls ks A H.idx w H.env
  have hlx := fun (W : World) (hb : Below w.heap.size w W) => longIndex_in la ln lc P V R K Bk Rv Kv W (H.l.below hb)
  have hlm1 := fun (W : World) (hb : Below w.heap.size w W) => longMods_calls (.slice a1 n1 c1) Am 15 W (H.a.below hb)
  have hlm2 := fun (W : World) (hb : Below w.heap.size w W) => longMods_calls (.slice a2 n2 c2) Bm 15 W (H.b.below hb)
  have hlm3 := fun (W : World) (hb : Below w.heap.size w W) => longMods_calls (.slice a3 n3 c3) Cm 15 W (H.c.below hb)
  replace hre := Lib.hid hre
  replace hlx := Lib.hid hlx
  replace hlm1 := Lib.hid hlm1
  replace hlm2 := Lib.hid hlm2
  replace hlm3 := Lib.hid hlm3
  clear H
  rcases hlong with h0 | ⟨h0, hlong⟩
  · rw [longII_yes h0] at hlx
    clear h0
    go_enter Tryz.func8, Tryz.ntmps8
    go_wp2_with fail
    refine hre.out.mono ?_
    rintro e w1 ⟨rfl, hB⟩
    go_wp2_with fail
    refine (hlx.out _ hB).mono ?_
    rintro e w' ⟨rfl, rfl⟩
    go_wp2_with fail
    go_ret
    exact ⟨rfl, hB⟩
  · rw [longII_no h0] at hlx
    clear h0
    cases h1 : longMods Am 15 <;> cases h2 : longMods Bm 15 <;> cases h3 : longMods Cm 15
    · exact absurd ⟨h1, h2, h3⟩ hlong
    all_goals
      clear hlong
      have e1 := longI_is Am 15
      have e2 := longI_is Bm 15
      have e3 := longI_is Cm 15
      rw [h1] at e1
      rw [h2] at e2
      rw [h3] at e3
      simp only [e1, e2, e3] at hlm1 hlm2 hlm3
      clear h1 h2 h3 e1 e2 e3
      go_enter Tryz.func8, Tryz.ntmps8
      go_wp2_with fail
      refine hre.out.mono ?_
      rintro e w1 ⟨rfl, hB⟩
      go_wp2_with fail
      refine (hlx.out _ hB).mono ?_
      rintro e w' ⟨rfl, rfl⟩
      go_wp2_with fail
      refine (hlm1.out _ hB).mono ?_
      rintro e w' ⟨rfl, rfl⟩
      go_wp2_with fail
      refine (hlm2.out _ hB).mono ?_
      rintro e w' ⟨rfl, rfl⟩
      go_wp2_with fail
      refine (hlm3.out _ hB).mono ?_
      rintro e w' ⟨rfl, rfl⟩
      go_wp2_with fail
      go_ret
      exact ⟨rfl, hB⟩

set_option maxHeartbeats 8000000 in
set_option maxRecDepth 100000 in
theorem mvsLeast_main (ks : List Nat) (A : Nat → Addr) (la : Option Addr) (ln lc : Nat) (P V : Nat → ByteArray) (R : Nat → List Md) (K : Nat → List Str) (Bk : Nat → Bool) (Rv Kv : Nat → Value) (av bv cv : Value) (Am Bm Cm : List Md) (w : World) (H : MlArgs ks A la ln lc P V R K Bk Rv Kv av bv cv Am Bm Cm w)
    (h0 : longIdx (enF ln P V R K Bk) = false) (h1 : longMods Am 15 = false) (h2 : longMods Bm 15 = false) (h3 : longMods Cm 15 = false) :
    Calls Tryz.prog 8 #[.slice la ln lc, av, bv, cv] w fun e w' => e = .returned (.bool true) ∧ Below w.heap.size w w' := by
  obtain ⟨a1, n1, c1, _, _, rfl, -⟩ := id H.a
  obtain ⟨a2, n2, c2, _, _, rfl, -⟩ := id H.b
  obtain ⟨a3, n3, c3, _, _, rfl, -⟩ := id H.c
  have hre := built_calls ks A H.idx w H.env
  have hlx := fun (W : World) (hb : Below w.heap.size w W) => longIndex_in la ln lc P V R K Bk Rv Kv W (H.l.below hb)
  have hlm1 := fun (W : World) (hb : Below w.heap.size w W) => longMods_calls (.slice a1 n1 c1) Am 15 W (H.a.below hb)
  have hlm2 := fun (W : World) (hb : Below w.heap.size w W) => longMods_calls (.slice a2 n2 c2) Bm 15 W (H.b.below hb)
  have hlm3 := fun (W : World) (hb : Below w.heap.size w W) => longMods_calls (.slice a3 n3 c3) Cm 15 W (H.c.below hb)
  have hsi := longIdx_short h0
  have hsm := longIdx_small h0
  have s1 := longMods_small h1
  have s2 := longMods_small h2
  have s3 := longMods_small h3
  have hln : ln ≤ 101 := by have := hsm.1; rwa [enF_length] at this
  have HH := Lib.hid H
  have HSI := Lib.hid hsi
  have how := fun (W : World) (hb : Below w.heap.size w W) => ownIndex_calls (.slice la ln lc) (enF ln P V R K Bk) W ⟨la, ln, lc, P, V, R, K, Bk, Rv, Kv, rfl, rfl, HH.out.l.below hb⟩ (by rw [enF_length]; omega) (fun e he => by
    have h4 := longEn_small (hsm.2 e he)
    have h5 := longMods_small h4.2.2.1
    exact ⟨by omega, by omega⟩)
  have hom := fun (W : World) (hb : Below w.heap.size w W) => ownMods_calls (.slice a1 n1 c1) Am W (HH.out.a.below hb) (by omega)
  have homc := fun (W : World) (hb : Below w.heap.size w W) => ownMods_calls (.slice a3 n3 c3) Cm W (HH.out.c.below hb) (by omega)
  have hri := fun (W : World) (hb : Below w.heap.size w W) => rises_in la ln lc P V R K Bk Rv Kv W (HH.out.l.below hb) hsi (by omega)
  have hE := fun (W : World) (hb : Below w.heap.size w W) => HH.out.env.below hb
  rw [longII_no h0] at hlx
  rw [longI_no h1] at hlm1
  rw [longI_no h2] at hlm2
  rw [longI_no h3] at hlm3
  have HS1 := Lib.hid s1
  have HS2 := Lib.hid s2
  have HS3 := Lib.hid s3
  generalize hl0 : enF ln P V R K Bk = l at *
  have HI := Lib.hid HH.out.idx
  replace hre := Lib.hid hre
  replace hlx := Lib.hid hlx
  replace hlm1 := Lib.hid hlm1
  replace hlm2 := Lib.hid hlm2
  replace hlm3 := Lib.hid hlm3
  replace how := Lib.hid how
  replace hom := Lib.hid hom
  replace homc := Lib.hid homc
  replace hri := Lib.hid hri
  replace hE := Lib.hid hE
  clear h0 h1 h2 h3 hsi hsm s1 s2 s3 H hl0
  go_enter Tryz.func8, Tryz.ntmps8
  go_wp2_with fail
  refine hre.out.mono ?_
  rintro e w1 ⟨rfl, hB⟩
  go_wp2_with fail
  refine (hlx.out _ hB).mono ?_
  rintro e w' ⟨rfl, rfl⟩
  go_wp2_with fail
  refine (hlm1.out _ hB).mono ?_
  rintro e w' ⟨rfl, rfl⟩
  go_wp2_with fail
  refine (hlm2.out _ hB).mono ?_
  rintro e w' ⟨rfl, rfl⟩
  go_wp2_with fail
  refine (hlm3.out _ hB).mono ?_
  rintro e w' ⟨rfl, rfl⟩
  clear hre hlx hlm1 hlm2 hlm3
  go_wp2_with fail
  refine (how.out _ hB).mono ?_
  rintro e w2 ⟨⟨ov, rfl, hOE⟩, hb⟩
  replace hB := below_step hB hb
  obtain ⟨oa, on, oc, P', V', R', K', B', Rv', Kv', rfl, hOl, hO⟩ := hOE
  have HO := Lib.hid hO
  have hbu := fun (W : World) (hb : Below w.heap.size w W) (hc : Below w2.heap.size w2 W) (rv : Value) (roots : List Md) (hr : ModsAt W rv roots) (hlr : roots.length ≤ 100000) => mvsBuild_in ks A HI.out oa on oc P' V' R' K' B' Rv' Kv' rv roots W (hE.out W hb) (HO.out.below hc) (by rw [← hOl]; exact HSI.out) hr hlr
  have hcl := fun (W : World) (hb : Below w.heap.size w W) (hc : Below w2.heap.size w2 W) (rv sv : Value) (roots sel : List Md) (hr : ModsAt W rv roots) (hv : ModsAt W sv sel) => closed_in ks A HI.out oa on oc P' V' R' K' B' Rv' Kv' rv sv roots sel W (hE.out W hb) (HO.out.below hc) (by rw [← hOl]; exact HSI.out) hr hv
  have hun := fun (W : World) (hb : Below w.heap.size w W) (va vb : Value) (la lb : List Md) (x1 : ModsAt W va la) (x2 : ModsAt W vb lb) => mvsUnder_calls ks A va vb la lb W (hE.out W hb) x1 x2
  simp only [← hOl] at hbu hcl
  have hC := Below.refl w2.heap.size w2
  replace hbu := Lib.hid hbu
  replace hcl := Lib.hid hcl
  replace hun := Lib.hid hun
  clear hOl hO hb how
  go_wp2_with fail
  refine (hom.out _ hB).mono ?_
  rintro e w3 ⟨⟨v3, rfl, hM3, _⟩, hb⟩
  replace hB := below_step hB hb
  replace hC := below_step hC hb
  obtain ⟨x3, y3, z3, _, _, rfl, -⟩ := id hM3
  have hb4 := hbu.out _ hB hC _ _ hM3 (by have := HS1.out.1; omega)
  replace hb4 := Lib.hid hb4
  clear hb hM3
  go_wp2_with fail
  refine hb4.out.mono ?_
  rintro e w4 ⟨⟨xv, ev4, rfl, hf4, hx⟩, hb⟩
  replace hB := below_step hB hb
  replace hC := below_step hC hb
  clear hb hb4
  rcases fault_form hf4 with ⟨h0, rfl⟩ | ⟨h0, ty, q, rfl⟩
  · have hG := rightG_of h0
    have hse : (startErr l (buildL l Am)).1 = 0 := startErr_sub h0 (fun m hm => build_reached hG hm)
    have hX : buildR l Am = buildL l Am := by unfold buildR; rw [if_pos h0]
    have hX2 : buildR l (buildL l Am) = buildL l Am := by unfold buildR; rw [if_pos hse]; exact build_again hG
    have hlen : (buildL l Am).length ≤ 100 := build_len hG
    have hsz : ∀ m ∈ buildL l Am, m.2.length ≤ 1000000 := fun m hm => by
      obtain ⟨e, he, e1⟩ := hG.entry (build_reached hG hm)
      have := (HSI.out.mds e he).2
      rw [e1] at this
      exact this
    have hbc := build_closed h0
    have hcr : closR l Am (buildL l Am) = true := by unfold closR; rw [if_pos (by rw [hbc.1])]; exact hbc.2
    have hbr := build_roots hG
    rw [hX] at hx
    have HF : Hid ((startErr l (buildL l Am)).1 = 0 ∧ buildR l (buildL l Am) = buildL l Am ∧ (buildL l Am).length ≤ 100 ∧ closErr l Am (buildL l Am) = (0, -1) ∧ closR l Am (buildL l Am) = true ∧ underB Am (buildL l Am) = true) := Lib.hid ⟨hse, hX2, hlen, hbc.1, hcr, hbr⟩
    have HSZ : Hid ((∀ m ∈ buildL l Am, m.2.length ≤ 1000000) ∧ (∀ m ∈ buildL l Am, m.2.length ≤ 1000000000)) := Lib.hid ⟨hsz, fun m hm => Nat.le_trans (hsz m hm) (by decide)⟩
    have HMORE : Hid ((startErr l (Am ++ Bm)).1 = 0 → underB (buildL l Am) (buildL l (Am ++ Bm)) = true ∧ (buildL l (Am ++ Bm)).length ≤ 100 ∧ (∀ m ∈ buildL l (Am ++ Bm), m.2.length ≤ 1000000000) ∧ buildR l (Am ++ Bm) = buildL l (Am ++ Bm)) := Lib.hid (fun h9 => by
      have hG9 := rightG_of h9
      refine ⟨build_under hG hG9 (fun m hm => reached_app.2 (.inl hm)), build_len hG9, fun m hm => ?_, by unfold buildR; rw [if_pos h9]⟩
      obtain ⟨e, he, e1⟩ := hG9.entry (build_reached hG9 hm)
      have := (HSI.out.mds e he).2
      rw [e1] at this
      omega)
    have HLEAST : Hid ((closErr l Am Cm).1 = 0 → closR l Am Cm = true → risesB l = true → underB (buildL l Am) Cm = true) := Lib.hid (fun g1 g2 g3 => build_least g1 (by unfold closR at g2; rw [if_pos g1] at g2; exact g2) g3)
    clear hf4 h0 hG hse hX hX2 hlen hsz hbc hcr hbr
    generalize buildL l Am = X at *
    obtain ⟨ax, cx, rfl⟩ := mods_len hx
    go_wp2_with fail
    refine (hom.out _ hB).mono ?_
    rintro e w5 ⟨⟨v5, rfl, hM5, _⟩, hb⟩
    replace hB := below_step hB hb
    replace hC := below_step hC hb
    replace hx := hx.below hb
    obtain ⟨x5, y5, z5, _, _, rfl, -⟩ := id hM5
    have hc6 := hcl.out _ hB hC _ _ _ _ hM5 hx (by have := HS1.out.1; omega) (by have := HF.out.2.2.1; omega) (fun m hm => by have := HS1.out.2 m hm; omega) HSZ.out.1
    rw [HF.out.2.2.2.1, HF.out.2.2.2.2.1] at hc6
    have HX := Lib.hid hx
    replace hc6 := Lib.hid hc6
    clear hb hM5 hx
    go_wp2_with fail
    refine hc6.out.mono ?_
    rintro e w6 ⟨⟨ev6, rfl, hf6⟩, hb⟩
    obtain rfl : ev6 = .nilIface := by
      rcases fault_form hf6 with ⟨_, h⟩ | ⟨h, _⟩
      · exact h
      · exact absurd rfl h
    replace hB := below_step hB hb
    replace hC := below_step hC hb
    have hx := HX.out.below hb
    clear hb hf6 hc6 HX
    go_wp2_with fail
    refine (hom.out _ hB).mono ?_
    rintro e w7 ⟨⟨v7, rfl, hM7, _⟩, hb⟩
    replace hB := below_step hB hb
    replace hC := below_step hC hb
    replace hx := hx.below hb
    obtain ⟨x7, y7, z7, _, _, rfl, -⟩ := id hM7
    have hu8 := hun.out _ hB _ _ _ _ hM7 hx (by have := HS1.out.1; omega) (by have := HF.out.2.2.1; omega) (fun m hm => by have := HS1.out.2 m hm; omega) HSZ.out.2
    rw [HF.out.2.2.2.2.2] at hu8
    have HX := Lib.hid hx
    replace hu8 := Lib.hid hu8
    clear hb hM7 hx
    go_wp2_with fail
    refine hu8.out.mono ?_
    rintro e w8 ⟨rfl, hb⟩
    replace hB := below_step hB hb
    replace hC := below_step hC hb
    have hx := HX.out.below hb
    have hb9 := hbu.out _ hB hC _ _ hx (by have := HF.out.2.2.1; omega)
    rw [HF.out.2.1] at hb9
    replace HX := Lib.hid hx
    replace hb9 := Lib.hid hb9
    clear hb hu8 hx
    go_wp2_with fail
    refine hb9.out.mono ?_
    rintro e w9 ⟨⟨y9, ev9, rfl, hf9, hy9⟩, hb⟩
    obtain rfl : ev9 = .nilIface := by
      rcases fault_form hf9 with ⟨_, h⟩ | ⟨h, _⟩
      · exact h
      · exact absurd HF.out.1 h
    replace hB := below_step hB hb
    replace hC := below_step hC hb
    have hx := HX.out.below hb
    have hs9 := sameMods_calls _ _ _ _ w9 hy9 hx
    rw [decide_eq_true rfl] at hs9
    obtain ⟨a9, c9, rfl⟩ := mods_len hy9
    replace HX := Lib.hid hx
    replace hs9 := Lib.hid hs9
    clear hb hf9 hb9 hx hy9
    go_wp2_with fail
    refine hs9.out.mono ?_
    rintro e w10 ⟨rfl, hb⟩
    replace hB := below_step hB hb
    replace hC := below_step hC hb
    have hx := HX.out.below hb
    clear hb hs9 HX
    go_wp2_with fail
    refine (hom.out _ hB).mono ?_
    rintro e w11 ⟨⟨v11, rfl, _, L11, hL11, ho11⟩, hb⟩
    have hB11 := below_step hB hb
    have hC11 := below_step hC hb
    obtain ⟨o12, w12, hap, ⟨L12, hL12, ho12⟩, hg12⟩ := app_mods w11 w10.heap.size hb.size v11 (.slice a2 n2 c2) L11 Bm ho11 (HH.out.b.below hB11) (by have := congrArg List.length hL11; rw [mdTs_length] at this; have := HS1.out.1; omega) (by have := HS2.out.1; omega)
    have hb12 : Below w10.heap.size w10 w12 := hb.grown hg12 hb.size (fun k hk => (ho11.lt k hk).1)
    have hB12 := below_step hB hb12
    have hC12 := below_step hC hb12
    have hM12 := modsAt_own ho12
    rw [hL12, ← hL11] at hM12
    replace hx := hx.below hb12
    obtain ⟨a11, m11, c11, rfl⟩ := own_form ho11
    obtain ⟨a12, m12, c12, rfl⟩ := own_form ho12
    have hb13 := hbu.out _ hB12 hC12 _ _ hM12 (by rw [List.length_append]; have := HS1.out.1; have := HS2.out.1; omega)
    have HAP := Lib.hid hap
    have HX := Lib.hid hx
    replace hb13 := Lib.hid hb13
    clear hap hM12 hL12 hL11 ho11 ho12 hg12 hb hb12 hB hC hB11 hC11 hx
    go_wp2_with (at_builtin; refine wpList_append_run rfl _ _ 22 rfl _ _ rfl rfl _ _ HAP.out ?_)
    refine hb13.out.mono ?_
    rintro e w13 ⟨⟨y13, ev13, rfl, hf13, hy13⟩, hb⟩
    have hB := below_step hB12 hb
    have hC := below_step hC12 hb
    have hx := HX.out.below hb
    replace HX := Lib.hid hx
    clear hb13 hb hB12 hC12 HAP
    have hrest : ∀ W, Below w13.heap.size w13 W → Hid (Below w.heap.size w W ∧ Below w2.heap.size w2 W ∧ ModsAt W (.slice ax X.length cx) X) := fun W hb => Lib.hid ⟨below_step hB hb, below_step hC hb, HX.out.below hb⟩
    rcases fault_form hf13 with ⟨h9, rfl⟩ | ⟨h9, ty, q, rfl⟩
    · have hmo := HMORE.out h9
      rw [hmo.2.2.2] at hy13
      obtain ⟨a13, c13, rfl⟩ := mods_len hy13
      have hu14 := hun.out _ hB _ _ _ _ hx hy13 (by have := HF.out.2.2.1; omega) (by have := hmo.2.1; omega) HSZ.out.2 hmo.2.2.1
      rw [hmo.1] at hu14
      replace hu14 := Lib.hid hu14
      replace hrest := Lib.hid hrest
      clear hf13 h9 hmo hy13 hx HMORE hB hC
      go_wp2_with fail
      refine hu14.out.mono ?_
      rintro e w14 ⟨rfl, hb14⟩
      have H14 := hrest.out _ hb14
      clear hrest hu14 hb14 HX
      have hB := H14.out.1
      have hC := H14.out.2.1
      have hx := H14.out.2.2
      go_wp2_with fail
      refine (hom.out _ hB).mono ?_
      rintro e w15 ⟨⟨v15, rfl, hM15, _⟩, hb⟩
      replace hB := below_step hB hb
      replace hC := below_step hC hb
      replace hx := hx.below hb
      obtain ⟨x15, y15, z15, _, _, rfl, -⟩ := id hM15
      clear hb H14
      go_wp2_with fail
      refine (homc.out _ hB).mono ?_
      rintro e w16 ⟨⟨v16, rfl, hM16, _⟩, hb⟩
      replace hB := below_step hB hb
      replace hC := below_step hC hb
      replace hx := hx.below hb
      replace hM15 := hM15.below hb
      obtain ⟨x16, y16, z16, _, _, rfl, -⟩ := id hM16
      have hc17 := hcl.out _ hB hC _ _ _ _ hM15 hM16 (by have := HS1.out.1; omega) (by have := HS3.out.1; omega) (fun m hm => by have := HS1.out.2 m hm; omega) (fun m hm => by have := HS3.out.2 m hm; omega)
      obtain ⟨D, hD⟩ : ∃ D, D = closR l Am Cm := ⟨_, rfl⟩
      rw [← hD] at hc17
      have HD := Lib.hid hD
      have HX := Lib.hid hx
      replace hc17 := Lib.hid hc17
      clear hb hM15 hM16 hx hD
      go_wp2_with fail
      refine hc17.out.mono ?_
      rintro e w17 ⟨⟨ev17, rfl, hf17⟩, hb⟩
      replace hB := below_step hB hb
      have hx := HX.out.below hb
      clear hc17 HX hb hC
      rcases fault_form hf17 with ⟨h8, rfl⟩ | ⟨h8, ty8, q8, rfl⟩
      · have H8 := Lib.hid h8
        clear hf17 h8
        cases D with
        | false =>
          clear hx
          go_wp2_with fail
          go_ret
          exact ⟨rfl, hB⟩
        | true =>
          have hri18 := hri.out _ hB
          obtain ⟨RB, hRB⟩ : ∃ RB, RB = risesB l := ⟨_, rfl⟩
          rw [← hRB] at hri18
          have HRB := Lib.hid hRB
          have HX := Lib.hid hx
          replace hri18 := Lib.hid hri18
          clear hRB hx
          go_wp2_with fail
          refine hri18.out.mono ?_
          rintro e w18 ⟨rfl, hb⟩
          replace hB := below_step hB hb
          have hx := HX.out.below hb
          clear hb hri18 HX
          cases RB with
          | false =>
            clear hx
            go_wp2_with fail
            go_ret
            exact ⟨rfl, hB⟩
          | true =>
            go_wp2_with fail
            refine (homc.out _ hB).mono ?_
            rintro e w19 ⟨⟨v19, rfl, hM19, _⟩, hb⟩
            replace hB := below_step hB hb
            replace hx := hx.below hb
            obtain ⟨x19, y19, z19, _, _, rfl, -⟩ := id hM19
            have hu20 := hun.out _ hB _ _ _ _ hx hM19 (by have := HF.out.2.2.1; omega) (by have := HS3.out.1; omega) HSZ.out.2 (fun m hm => by have := HS3.out.2 m hm; omega)
            rw [HLEAST.out H8.out HD.out.symm HRB.out.symm] at hu20
            replace hu20 := Lib.hid hu20
            clear hb hx hM19
            go_wp2_with fail
            refine hu20.out.mono ?_
            rintro e w20 ⟨rfl, hb⟩
            go_wp2_with fail
            go_ret
            exact ⟨rfl, below_step hB hb⟩
      · clear hf17 h8 hx
        go_wp2_with fail
        go_ret
        exact ⟨rfl, hB⟩
    · have H14 := hrest _ (Below.refl _ _)
      obtain ⟨a13, m13, c13, _, _, rfl, -⟩ := id hy13
      clear hf13 h9 hy13 hx HMORE hB hC hrest HX
      generalize w13 = w14 at *
      have hB := H14.out.1
      have hC := H14.out.2.1
      have hx := H14.out.2.2
      go_wp2_with fail
      refine (hom.out _ hB).mono ?_
      rintro e w15 ⟨⟨v15, rfl, hM15, _⟩, hb⟩
      replace hB := below_step hB hb
      replace hC := below_step hC hb
      replace hx := hx.below hb
      obtain ⟨x15, y15, z15, _, _, rfl, -⟩ := id hM15
      clear hb H14
      go_wp2_with fail
      refine (homc.out _ hB).mono ?_
      rintro e w16 ⟨⟨v16, rfl, hM16, _⟩, hb⟩
      replace hB := below_step hB hb
      replace hC := below_step hC hb
      replace hx := hx.below hb
      replace hM15 := hM15.below hb
      obtain ⟨x16, y16, z16, _, _, rfl, -⟩ := id hM16
      have hc17 := hcl.out _ hB hC _ _ _ _ hM15 hM16 (by have := HS1.out.1; omega) (by have := HS3.out.1; omega) (fun m hm => by have := HS1.out.2 m hm; omega) (fun m hm => by have := HS3.out.2 m hm; omega)
      obtain ⟨D, hD⟩ : ∃ D, D = closR l Am Cm := ⟨_, rfl⟩
      rw [← hD] at hc17
      have HD := Lib.hid hD
      have HX := Lib.hid hx
      replace hc17 := Lib.hid hc17
      clear hb hM15 hM16 hx hD
      go_wp2_with fail
      refine hc17.out.mono ?_
      rintro e w17 ⟨⟨ev17, rfl, hf17⟩, hb⟩
      replace hB := below_step hB hb
      have hx := HX.out.below hb
      clear hc17 HX hb hC
      rcases fault_form hf17 with ⟨h8, rfl⟩ | ⟨h8, ty8, q8, rfl⟩
      · have H8 := Lib.hid h8
        clear hf17 h8
        cases D with
        | false =>
          clear hx
          go_wp2_with fail
          go_ret
          exact ⟨rfl, hB⟩
        | true =>
          have hri18 := hri.out _ hB
          obtain ⟨RB, hRB⟩ : ∃ RB, RB = risesB l := ⟨_, rfl⟩
          rw [← hRB] at hri18
          have HRB := Lib.hid hRB
          have HX := Lib.hid hx
          replace hri18 := Lib.hid hri18
          clear hRB hx
          go_wp2_with fail
          refine hri18.out.mono ?_
          rintro e w18 ⟨rfl, hb⟩
          replace hB := below_step hB hb
          have hx := HX.out.below hb
          clear hb hri18 HX
          cases RB with
          | false =>
            clear hx
            go_wp2_with fail
            go_ret
            exact ⟨rfl, hB⟩
          | true =>
            go_wp2_with fail
            refine (homc.out _ hB).mono ?_
            rintro e w19 ⟨⟨v19, rfl, hM19, _⟩, hb⟩
            replace hB := below_step hB hb
            replace hx := hx.below hb
            obtain ⟨x19, y19, z19, _, _, rfl, -⟩ := id hM19
            have hu20 := hun.out _ hB _ _ _ _ hx hM19 (by have := HF.out.2.2.1; omega) (by have := HS3.out.1; omega) HSZ.out.2 (fun m hm => by have := HS3.out.2 m hm; omega)
            rw [HLEAST.out H8.out HD.out.symm HRB.out.symm] at hu20
            replace hu20 := Lib.hid hu20
            clear hb hx hM19
            go_wp2_with fail
            refine hu20.out.mono ?_
            rintro e w20 ⟨rfl, hb⟩
            go_wp2_with fail
            go_ret
            exact ⟨rfl, below_step hB hb⟩
      · clear hf17 h8 hx
        go_wp2_with fail
        go_ret
        exact ⟨rfl, hB⟩
  · have hY : buildR l Am = [] := by unfold buildR; rw [if_neg h0]
    rw [hY] at hx
    obtain ⟨ax, cx, rfl⟩ := mods_len hx
    clear hf4 hx h0 hY
    go_wp2_with fail
    go_ret
    exact ⟨rfl, hB⟩
end Go.Proofs.Pw

/- MvsLeast: its walk, joined. -/
namespace Go.Proofs.Pw
open Go.RowKit
open Go.Lib hiding intOf

theorem mvsLeast_calls (ks : List Nat) (A : Nat → Addr) (hks : IdxKs ks) (lv av bv cv : Value) (l : List En) (Am Bm Cm : List Md) (w : World) (hE : EnvP ks A w) (hl : EntsAt w lv l) (ha : ModsAt w av Am) (hb : ModsAt w bv Bm) (hc : ModsAt w cv Cm) :
    Calls Tryz.prog 8 #[lv, av, bv, cv] w fun e w' => e = .returned (.bool true) ∧ Below w.heap.size w w' := by
  obtain ⟨la, ln, lc, P, V, R, K, Bk, Rv, Kv, rfl, rfl, hin⟩ := hl
  have H : MlArgs ks A la ln lc P V R K Bk Rv Kv av bv cv Am Bm Cm w := ⟨hks, hE, hin, ha, hb, hc⟩
  cases h1 : longIdx (enF ln P V R K Bk)
  · by_cases h2 : longMods Am 15 = false ∧ longMods Bm 15 = false ∧ longMods Cm 15 = false
    · exact mvsLeast_main ks A la ln lc P V R K Bk Rv Kv av bv cv Am Bm Cm w H h1 h2.1 h2.2.1 h2.2.2
    · exact mvsLeast_long ks A la ln lc P V R K Bk Rv Kv av bv cv Am Bm Cm w H (.inr ⟨h1, h2⟩)
  · exact mvsLeast_long ks A la ln lc P V R K Bk Rv Kv av bv cv Am Bm Cm w H (.inl h1)
end Go.Proofs.Pw
