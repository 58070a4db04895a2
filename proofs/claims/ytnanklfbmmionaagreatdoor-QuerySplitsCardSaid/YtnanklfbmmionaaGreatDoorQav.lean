/- Qa: walks and plain laws, joined: Picked MvsMath MvsMath2 QSplitMath. Conditions: at each theorem. -/
import Derived.Test.YtnanklfbmmionaaGreatDoorQau
import Derived.Test.YtnanklfbmmionaaGreatDoorQam
import Derived.Test.YtnanklfbmmionaaGreatDoorQai

namespace Go.Proofs.Pw
open Go.RowKit Go.Sort
open Go.Lib hiding intOf
def sDot : ByteArray := ⟨#[46]⟩
def sX : ByteArray := ⟨#[120]⟩
def v020rc : ByteArray := ⟨#[118, 48, 46, 50, 46, 48, 45, 114, 99]⟩
def qv1 : ByteArray := ⟨#[118, 49]⟩
def qge : ByteArray := ⟨#[62, 61, 118, 48, 46, 49, 46, 48]⟩
def s3P (j : Nat) : ByteArray := if j < 2 then sA else sB
def s3V (j : Nat) : ByteArray := if j = 0 then v100 else if j = 1 then v110 else if j = 2 then v010 else v020rc
def s3R (j : Nat) : List Md := if j = 1 then [(sB.data.toList, v010.data.toList)] else []
def s3K (j : Nat) : List Str := if j = 0 then [sDot.data.toList, sX.data.toList] else if j = 1 then [sDot.data.toList] else []
def s3L : List En := enF 4 s3P s3V s3R s3K smB
theorem s3_short : ShortI s3L := by
  refine ⟨by decide +kernel, ?_, ?_, ?_⟩
  · decide +kernel
  · intro e he
    have : ∀ e ∈ s3L, e.reqs.length ≤ 1000000 ∧ ∀ m ∈ e.reqs, m.1.length ≤ 1000000 ∧ m.2.length ≤ 1000000 := by decide +kernel
    exact this e he
  · decide +kernel
def s3Rv (N j : Nat) : Value := if j = 1 then .slice (some ⟨N + 1, 0, none⟩) 1 1 else .slice none 0 0
def s3Kv (N j : Nat) : Value := if j = 0 then .slice (some ⟨N, 0, none⟩) 2 2 else if j = 1 then .slice (some ⟨N + 2, 0, none⟩) 1 1 else .slice none 0 0
def s3W0 (w : World) : World := ((w.alloc (.cells #[.string sDot, .string sX] 9)).alloc (.cells #[.string sB, .string v010] 29)).alloc (.cells #[.string sDot] 9)
def s3C (N : Nat) : List Value := [.string sA, .string v100, .slice none 0 0, .slice (some ⟨N, 0, none⟩) 2 2, .bool false, .string sA, .string v110, .slice (some ⟨N + 1, 0, none⟩) 1 1, .slice (some ⟨N + 2, 0, none⟩) 1 1, .bool false, .string sB, .string v010, .slice none 0 0, .slice none 0 0, .bool false, .string sB, .string v020rc, .slice none 0 0, .slice none 0 0, .bool false]
def s3W (w : World) : World := (s3W0 w).alloc (.cells (s3C w.heap.size).toArray 37)
theorem s3_size (w : World) : (s3W0 w).heap.size = w.heap.size + 3 := by unfold s3W0; simp
theorem s3W_below (w : World) : Below w.heap.size w (s3W w) := below_step (below_step (below_step (below_alloc w _) (below_alloc _ _)) (below_alloc _ _)) (below_alloc _ _)
theorem s3W_in (w : World) : EntsIn (s3W w) (some ⟨w.heap.size + 3, 0, none⟩) 4 4 s3P s3V s3R s3K smB (s3Rv w.heap.size) (s3Kv w.heap.size) := by
  have hc : ∀ (c : Nat) (u : Value), (s3C w.heap.size)[c]? = some u → (s3W w).cell? ⟨w.heap.size + 3, c, none⟩ = some u := fun c u h => new_cell (s3W0 w) (s3C w.heap.size) 37 (s3_size w) h
  have hb3 : Below (s3W0 w).heap.size (s3W0 w) (s3W w) := below_alloc _ _
  have hb2 := below_step (below_alloc ((w.alloc (.cells #[.string sDot, .string sX] 9)).alloc (.cells #[.string sB, .string v010] 29)) (.cells #[.string sDot] 9)) hb3
  have hb1 := below_step (below_alloc (w.alloc (.cells #[.string sDot, .string sX] 9)) (.cells #[.string sB, .string v010] 29)) hb2
  refine ⟨Nat.le_refl _, by decide, fun j hj => ⟨w.heap.size + 3, 0, rfl, ?_⟩, fun j hj => ?_, fun j hj => ?_⟩
  · match j, hj with
    | 0, _ => exact ⟨hc _ _ rfl, hc _ _ rfl, hc _ _ rfl, hc _ _ rfl, hc _ _ rfl⟩
    | 1, _ => exact ⟨hc _ _ rfl, hc _ _ rfl, hc _ _ rfl, hc _ _ rfl, hc _ _ rfl⟩
    | 2, _ => exact ⟨hc _ _ rfl, hc _ _ rfl, hc _ _ rfl, hc _ _ rfl, hc _ _ rfl⟩
    | 3, _ => exact ⟨hc _ _ rfl, hc _ _ rfl, hc _ _ rfl, hc _ _ rfl, hc _ _ rfl⟩
  · match j, hj with
    | 0, _ => exact ModsAt.nil _
    | 2, _ => exact ModsAt.nil _
    | 3, _ => exact ModsAt.nil _
    | 1, _ =>
      have h0 := Below.cell_some hb2 (new_cell (w.alloc (.cells #[.string sDot, .string sX] 9)) [.string sB, .string v010] 29 (World.size_alloc _ _) (c := 0) rfl)
      have h1 := Below.cell_some hb2 (new_cell (w.alloc (.cells #[.string sDot, .string sX] 9)) [.string sB, .string v010] 29 (World.size_alloc _ _) (c := 1) rfl)
      refine ⟨some ⟨w.heap.size + 1, 0, none⟩, 1, 1, fun _ => sB, fun _ => v010, rfl, rfl, Nat.le_refl _, by decide, fun i hi => ?_⟩
      obtain rfl : i = 0 := by omega
      exact ⟨w.heap.size + 1, 0, rfl, h0, h1⟩
  · match j, hj with
    | 2, _ => exact StrsAt.nil _
    | 3, _ => exact StrsAt.nil _
    | 0, _ =>
      have h0 := Below.cell_some hb1 (new_cell w [.string sDot, .string sX] 9 rfl (c := 0) rfl)
      have h1 := Below.cell_some hb1 (new_cell w [.string sDot, .string sX] 9 rfl (c := 1) rfl)
      refine ⟨some ⟨w.heap.size, 0, none⟩, 2, 2, fun i => if i = 0 then sDot else sX, rfl, rfl, Nat.le_refl _, by decide, fun i hi => ?_⟩
      have hi2 : i = 0 ∨ i = 1 := by omega
      rcases hi2 with rfl | rfl
      · exact ⟨w.heap.size, 0, rfl, h0⟩
      · exact ⟨w.heap.size, 0, rfl, h1⟩
    | 1, _ =>
      have h0 := Below.cell_some hb3 (new_cell ((w.alloc (.cells #[.string sDot, .string sX] 9)).alloc (.cells #[.string sB, .string v010] 29)) [.string sDot] 9 (N := w.heap.size + 2) (by simp) (c := 0) rfl)
      refine ⟨some ⟨w.heap.size + 2, 0, none⟩, 1, 1, fun _ => sDot, rfl, rfl, Nat.le_refl _, by decide, fun i hi => ?_⟩
      obtain rfl : i = 0 := by omega
      exact ⟨w.heap.size + 2, 0, rfl, h0⟩
set_option maxHeartbeats 2000000 in
set_option maxRecDepth 100000 in
theorem small3_calls (w : World) :
    Calls Tryz.prog 69 #[] w fun e w' => e = .returned (.slice (some ⟨w.heap.size + 3, 0, none⟩) 4 4) ∧ w' = s3W w := by
  go_enter Tryz.func69, Tryz.ntmps69
  go_wp2_with fail
  go_ret
  exact ⟨rfl, rfl⟩
theorem pk_err1 : pickErr s3L sA.data.toList qv1.data.toList [] = (0, -1) := by decide +kernel
theorem pk_err2 : pickErr s3L sB.data.toList qge.data.toList [] = (0, -1) := by decide +kernel
theorem pk_s1 : pickS s3L sA.data.toList qv1.data.toList [] = v110.data.toList := by decide +kernel
theorem pk_s2 : pickS s3L sB.data.toList qge.data.toList [] = v010.data.toList := by decide +kernel
set_option maxHeartbeats 2000000 in
set_option maxRecDepth 100000 in
theorem picked_calls (ks : List Nat) (A : Nat → Addr) (hks : IdxKs ks) (w : World) (hE : EnvP ks A w) :
    Calls Tryz.prog 40 #[] w fun e w' => e = .returned (.bool true) ∧ Below w.heap.size w w' := by
  have hsm := fun W => small3_calls W
  have hB := s3W_below w
  have hp1 := qPickN_in ks A hks (some ⟨w.heap.size + 3, 0, none⟩) 4 4 s3P s3V s3R s3K smB (s3Rv w.heap.size) (s3Kv w.heap.size) sA qv1 ⟨#[]⟩ (s3W w) (hE.below hB) (s3W_in w) s3_short (by decide) (by decide +kernel)
  have hp2 := fun (W : World) (hb : Below w.heap.size w W) => qPickN_in ks A hks (some ⟨W.heap.size + 3, 0, none⟩) 4 4 s3P s3V s3R s3K smB (s3Rv W.heap.size) (s3Kv W.heap.size) sB qge ⟨#[]⟩ (s3W W) (hE.below (below_step hb (s3W_below W))) (s3W_in W) s3_short (by decide) (by decide +kernel)
  rw [show enF 4 s3P s3V s3R s3K smB = s3L from rfl] at hp1 hp2
  rw [show (⟨#[]⟩ : ByteArray).data.toList = [] from rfl] at hp1 hp2
  rw [pk_err1, pk_s1, show (⟨v110.data.toList.toArray⟩ : ByteArray) = v110 from bytes_eq.1 rfl] at hp1
  rw [pk_err2, pk_s2, show (⟨v010.data.toList.toArray⟩ : ByteArray) = v010 from bytes_eq.1 rfl] at hp2
  have hSB := Lib.hid (fun W => s3W_below W)
  obtain ⟨w1, hW1⟩ : ∃ W, s3W w = W := ⟨_, rfl⟩
  rw [hW1] at hp1 hB
  have HS1 := Lib.hid hW1
  clear hW1
  unfold sA qv1 v110 at hp1
  unfold sB qge v010 at hp2
  replace hsm := Lib.hid hsm
  replace hp1 := Lib.hid hp1
  replace hp2 := Lib.hid hp2
  clear hE
  go_enter Tryz.func40, Tryz.ntmps40
  go_wp2_with fail
  refine (hsm.out _).mono ?_
  rintro e w' ⟨rfl, hw'⟩
  rw [HS1.out] at hw'
  subst hw'
  go_wp2_with fail
  refine hp1.out.mono ?_
  rintro e w2 ⟨⟨ev1, rfl, hf1⟩, hb⟩
  obtain rfl : ev1 = .nilIface := by
    rcases fault_form hf1 with ⟨_, h⟩ | ⟨h, _⟩
    · exact h
    · exact absurd rfl h
  replace hB := below_step hB hb
  clear hb hf1 hp1
  go_wp2_with fail
  refine (hsm.out _).mono ?_
  rintro e w3 ⟨rfl, hw3⟩
  subst hw3
  have hp3 := hp2.out w2 hB
  replace hB := below_step hB (hSB.out w2)
  generalize s3W w2 = w4 at *
  replace hp3 := Lib.hid hp3
  clear hp2 hsm
  go_wp2_with fail
  refine hp3.out.mono ?_
  rintro e w5 ⟨⟨ev2, rfl, hf2⟩, hb⟩
  obtain rfl : ev2 = .nilIface := by
    rcases fault_form hf2 with ⟨_, h⟩ | ⟨h, _⟩
    · exact h
    · exact absurd rfl h
  replace hB := below_step hB hb
  clear hb hf2 hp3
  go_wp2_with fail
  go_ret
  exact ⟨rfl, hB⟩
end Go.Proofs.Pw

namespace Go.Proofs.Pw
open Go.Lib hiding intOf
def grow1 (out : List Md) (m : Md) : List Md := if out.getLast?.map (·.1) = some m.1 then out.dropLast ++ [m] else out ++ [m]
def greatest (l : List Md) : List Md := l.foldl grow1 []
structure Great (l out : List Md) : Prop where
  rise : out.Pairwise fun a b => compareBytes a.1 b.1 < 0
  sub : ∀ m ∈ out, m ∈ l
  over : ∀ m ∈ l, ∃ x ∈ out, x.1 = m.1 ∧ verCmp m.2 x.2 ≤ 0
theorem Great.one {l out : List Md} (h : Great l out) {a b : Md} (ha : a ∈ out) (hb : b ∈ out) (e : a.1 = b.1) : a = b := RiseP.unique h.rise ha hb e
theorem Great.mem {l out : List Md} (h : Great l out) (hr : ∀ m ∈ l, mdErr m = 0) (m : Md) : m ∈ out ↔ m ∈ l ∧ ∀ x ∈ l, x.1 = m.1 → verCmp x.2 m.2 ≤ 0 := by
  constructor
  · intro hm
    refine ⟨h.sub m hm, fun x hx e => ?_⟩
    obtain ⟨z, hz, e1, e2⟩ := h.over x hx
    rw [h.one hz hm (e1.trans e)] at e2
    exact e2
  · rintro ⟨hm, h1⟩
    obtain ⟨z, hz, e1, e2⟩ := h.over m hm
    have h2 := h1 z (h.sub z hz) e1
    have h3 : verCmp m.2 z.2 = 0 := by
      have := verCmp_ord.anti z.2 m.2
      have := verCmp_ord.anti m.2 z.2
      omega
    have : m = z := modCmp_zero (hr m hm) (hr z (h.sub z hz)) (by unfold modCmp; rw [orI_eq, e1, compareBytes_self]; exact ⟨rfl, h3⟩)
    rw [this]; exact hz
def hasB (sel : List Md) (m : Md) : Bool := decide (0 ≤ findI (hasP m.1) sel) && !verLess (mdAt sel (findI (hasP m.1) sel).toNat).2 m.2
def underB (a b : List Md) : Bool := a.all (hasB b)
theorem hasB_iff {sel : List Md} {m : Md} : hasB sel m = true ↔ ∃ k : Nat, findI (hasP m.1) sel = k ∧ verLess (mdAt sel k).2 m.2 = false := by
  unfold hasB
  rw [Bool.and_eq_true, decide_eq_true_iff]
  constructor
  · rintro ⟨h1, h2⟩
    exact ⟨(findI (hasP m.1) sel).toNat, by omega, by simpa using h2⟩
  · rintro ⟨k, h1, h2⟩
    rw [h1]
    exact ⟨by omega, by simpa using h2⟩
theorem hasB_rise {sel : List Md} (h : RiseP sel) {m : Md} : hasB sel m = true ↔ ∃ x ∈ sel, x.1 = m.1 ∧ verLess x.2 m.2 = false := by
  rw [hasB_iff]
  constructor
  · rintro ⟨k, h1, h2⟩
    obtain ⟨x, hx, hp⟩ := findI_spec h1
    have hl := (List.getElem?_eq_some_iff.1 hx).1
    rw [mdAt_get hl] at hx
    rw [Option.some.inj hx] at h2
    exact ⟨x, by rw [← Option.some.inj hx]; exact mdAt_mem hl, of_decide_eq_true hp, h2⟩
  · rintro ⟨x, hx, e, h2⟩
    have h0 : ¬ findI (hasP m.1) sel < 0 := fun hn => by
      have := findI_eq_none.1 hn x hx
      unfold hasP at this
      rw [decide_eq_false_iff_not] at this
      exact this e
    refine ⟨(findI (hasP m.1) sel).toNat, by omega, ?_⟩
    obtain ⟨y, hy, hp⟩ := findI_spec (show findI (hasP m.1) sel = ((findI (hasP m.1) sel).toNat : Nat) by omega)
    have hl := (List.getElem?_eq_some_iff.1 hy).1
    have hym := List.mem_of_getElem? hy
    rw [mdAt_get hl] at hy
    rw [Option.some.inj hy, h.unique hym hx ((of_decide_eq_true hp).trans e.symm)]
    exact h2
end Go.Proofs.Pw

namespace Go.Proofs.Pw
open Go.Lib hiding intOf
theorem verLess_of_le {a b : Str} (h : verCmp b a ≤ 0) : verLess a b = false := by
  unfold verLess
  refine decide_eq_false (fun h1 => ?_)
  have := (verCmp_ord.anti a b).1 h1.2.2
  omega
theorem Great.under {l out : List Md} (h : Great l out) : underB l out = true := by
  unfold underB
  rw [List.all_eq_true]
  intro m hm
  obtain ⟨x, hx, e1, e2⟩ := h.over m hm
  rw [hasB_rise h.rise]
  exact ⟨x, hx, e1, verLess_of_le e2⟩
theorem RightG.sub {l : List En} {A B : List Md} (hB : RightG l B) (h : ∀ m ∈ A, Reached l B m) : RightG l A := ⟨hB.idx, fun m hm => hB.entry (h m hm)⟩
end Go.Proofs.Pw

namespace Go.Proofs.Pw
open Go.Lib hiding intOf
theorem ver_v {v : Str} (h : verErr v = 0) : ∃ r, v = 118 :: r := by
  have h1 := ((verErr_zero v).1 h).1
  cases v with
  | nil => simp [hasPrefix] at h1
  | cons c r =>
    simp [hasPrefix] at h1
    exact ⟨r, by rw [h1]⟩
theorem likedF_none {l : List En} {p : Str} {vs : List Str} {b : Bool} : (likedF l p vs b).isNone = decide (vs = []) := by
  unfold likedF
  by_cases h : vs = []
  · subst h
    rfl
  · rw [if_neg (likedL_ne h), decide_eq_false h]
    rfl
theorem bound_of {s v : Str} (hs : s ∈ signs) (hv : verErr v = 0) : qWord (s ++ v) = false ∧ qBound (s ++ v) = some (s, v) := by
  obtain ⟨r, rfl⟩ := ver_v hv
  unfold signs at hs
  simp only [List.mem_cons, List.mem_nil_iff, or_false] at hs
  rcases hs with rfl | rfl | rfl | rfl
  all_goals
    refine ⟨?_, ?_⟩
    · simp [qWord, wLatest, wUpgrade, wPatch, wNone]
    · simp [qBound, signs, boundF, hasPrefix, trimPrefix]
theorem pick_bound {l : List En} {p s v now : Str} (h0 : (idxErr l).1 = 0) (hs : s ∈ signs) (hv : verErr v = 0) : (pickErr l p (s ++ v) now).1 = 0 ↔ ∃ x ∈ vsort (versL l p), withinF s v x = true := by
  obtain ⟨h1, h2⟩ := bound_of hs hv
  have hq : qErr (s ++ v) = 0 := by
    unfold qErr
    rw [h1, h2]
    exact hv
  have hpf : pickF l p (s ++ v) now = likedF l p ((vsort (versL l p)).filter fun x => !!withinF s v x) (decide (s.headD 0 = 62)) := by
    unfold pickF
    rw [h1, h2]
    rfl
  unfold pickErr
  rw [if_neg (by rw [hq]; simp), orE_zero, hpf, likedF_none]
  by_cases he : ((vsort (versL l p)).filter fun x => !!withinF s v x) = []
  · rw [decide_eq_true he]
    constructor
    · rintro ⟨_, h⟩; cases h
    · rintro ⟨x, hx, h⟩
      have := List.filter_eq_nil_iff.1 he x hx
      rw [h] at this
      exact absurd rfl this
  · rw [decide_eq_false he]
    constructor
    · intro _
      obtain ⟨x, hx⟩ := List.exists_mem_of_ne_nil _ he
      have h3 := List.mem_filter.1 hx
      exact ⟨x, h3.1, by simpa using h3.2⟩
    · intro _
      exact ⟨h0, rfl⟩
theorem pick_ver {l : List En} {p v now : Str} (h0 : (idxErr l).1 = 0) (hv : verErr v = 0) : qWord v = false ∧ ((pickErr l p v now).1 = 0 ↔ v ∈ vsort (versL l p)) ∧ ((pickErr l p v now).1 = 0 → pickS l p v now = v) := by
  have hw : qWord v = false := by
    obtain ⟨r, rfl⟩ := ver_v hv
    simp [qWord, wLatest, wUpgrade, wPatch, wNone]
  have hb : qBound v = none := by
    obtain ⟨r, rfl⟩ := ver_v hv
    simp [qBound, signs, boundF, hasPrefix]
  have hq : qErr v = 0 := by
    unfold qErr
    rw [hw, hb]
    simp [hv]
  have hpf : pickF l p v now = if v ∈ vsort (versL l p) then some v else none := by
    unfold pickF
    rw [hw, hb]
    simp [hv]
  have hpe : pickErr l p v now = orE (idxErr l) (if (pickF l p v now).isNone then (5, -1) else (0, -1)) := by
    unfold pickErr
    rw [if_neg (by rw [hq]; simp)]
  refine ⟨hw, ?_, fun h => ?_⟩
  · rw [hpe, orE_zero, hpf]
    by_cases hm : v ∈ vsort (versL l p)
    · rw [if_pos hm]; exact ⟨fun _ => hm, fun _ => ⟨h0, rfl⟩⟩
    · rw [if_neg hm]
      exact ⟨fun h => (by cases h.2), fun h => absurd h hm⟩
  · unfold pickS
    rw [if_pos h]
    rw [hpe, orE_zero, hpf] at h
    rw [hpf]
    by_cases hm : v ∈ vsort (versL l p)
    · rw [if_pos hm]; rfl
    · rw [if_neg hm] at h; cases h.2
def cntL (v : Str) : List Str → Nat
  | [] => 0
  | x :: r => (if verCmp x v < 0 then 1 else 0) + cntL v r
def cntM (v : Str) : List Str → Nat
  | [] => 0
  | x :: r => (if 0 < verCmp x v then 1 else 0) + cntM v r
def cntE (v : Str) : List Str → Nat
  | [] => 0
  | x :: r => (if verCmp x v = 0 then 1 else 0) + cntE v r
theorem cntL_app (v : Str) : ∀ (a b : List Str), cntL v (a ++ b) = cntL v a + cntL v b
  | [], b => by simp [cntL]
  | x :: r, b => by rw [List.cons_append, cntL, cntL, cntL_app v r b, Nat.add_assoc]
theorem cntM_app (v : Str) : ∀ (a b : List Str), cntM v (a ++ b) = cntM v a + cntM v b
  | [], b => by simp [cntM]
  | x :: r, b => by rw [List.cons_append, cntM, cntM, cntM_app v r b, Nat.add_assoc]
theorem cntE_app (v : Str) : ∀ (a b : List Str), cntE v (a ++ b) = cntE v a + cntE v b
  | [], b => by simp [cntE]
  | x :: r, b => by rw [List.cons_append, cntE, cntE, cntE_app v r b, Nat.add_assoc]
theorem cnt_len (v : Str) : ∀ l : List Str, cntL v l + cntM v l + cntE v l = l.length
  | [] => rfl
  | x :: r => by
    have := cnt_len v r
    rw [cntL, cntM, cntE, List.length_cons]
    by_cases h1 : verCmp x v < 0
    · rw [if_pos h1, if_neg (by omega), if_neg (by omega)]; omega
    · by_cases h2 : 0 < verCmp x v
      · rw [if_neg h1, if_pos h2, if_neg (by omega)]; omega
      · rw [if_neg h1, if_neg h2, if_pos (by omega)]; omega
theorem cntL_pos {v : Str} : ∀ {l : List Str}, 0 < cntL v l ↔ ∃ x ∈ l, verCmp x v < 0
  | [] => by simp [cntL]
  | x :: r => by
    rw [cntL]
    have ih := cntL_pos (v := v) (l := r)
    by_cases h : verCmp x v < 0
    · rw [if_pos h]; exact ⟨fun _ => ⟨x, by simp, h⟩, fun _ => by omega⟩
    · rw [if_neg h, Nat.zero_add, ih]
      constructor
      · rintro ⟨y, hy, h2⟩; exact ⟨y, by simp [hy], h2⟩
      · rintro ⟨y, hy, h2⟩
        rcases List.mem_cons.1 hy with rfl | hy
        · exact absurd h2 h
        · exact ⟨y, hy, h2⟩
theorem cntM_pos {v : Str} : ∀ {l : List Str}, 0 < cntM v l ↔ ∃ x ∈ l, 0 < verCmp x v
  | [] => by simp [cntM]
  | x :: r => by
    rw [cntM]
    have ih := cntM_pos (v := v) (l := r)
    by_cases h : 0 < verCmp x v
    · rw [if_pos h]; exact ⟨fun _ => ⟨x, by simp, h⟩, fun _ => by omega⟩
    · rw [if_neg h, Nat.zero_add, ih]
      constructor
      · rintro ⟨y, hy, h2⟩; exact ⟨y, by simp [hy], h2⟩
      · rintro ⟨y, hy, h2⟩
        rcases List.mem_cons.1 hy with rfl | hy
        · exact absurd h2 h
        · exact ⟨y, hy, h2⟩
theorem cntE_pos {v : Str} : ∀ {l : List Str}, 0 < cntE v l ↔ ∃ x ∈ l, verCmp x v = 0
  | [] => by simp [cntE]
  | x :: r => by
    rw [cntE]
    have ih := cntE_pos (v := v) (l := r)
    by_cases h : verCmp x v = 0
    · rw [if_pos h]; exact ⟨fun _ => ⟨x, by simp, h⟩, fun _ => by omega⟩
    · rw [if_neg h, Nat.zero_add, ih]
      constructor
      · rintro ⟨y, hy, h2⟩; exact ⟨y, by simp [hy], h2⟩
      · rintro ⟨y, hy, h2⟩
        rcases List.mem_cons.1 hy with rfl | hy
        · exact absurd h2 h
        · exact ⟨y, hy, h2⟩
theorem within_lt {v x : Str} (hv : verErr v = 0) (hx : verErr x = 0) : withinF [60] v x = true ↔ verCmp x v < 0 := by
  show verLess x v = true ↔ _
  unfold verLess
  rw [decide_eq_true_iff]
  exact ⟨fun h => h.2.2, fun h => ⟨hx, hv, h⟩⟩
theorem within_gt {v x : Str} (hv : verErr v = 0) (hx : verErr x = 0) : withinF [62] v x = true ↔ 0 < verCmp x v := by
  show verLess v x = true ↔ _
  unfold verLess
  rw [decide_eq_true_iff, ← verCmp_ord.anti]
  exact ⟨fun h => h.2.2, fun h => ⟨hv, hx, h⟩⟩
theorem within_le {v x : Str} (hv : verErr v = 0) (hx : verErr x = 0) : withinF [60, 61] v x = true ↔ ¬ 0 < verCmp x v := by
  rw [← within_gt hv hx]
  show (!verLess v x) = true ↔ ¬ verLess v x = true
  cases verLess v x <;> simp
theorem within_ge {v x : Str} (hv : verErr v = 0) (hx : verErr x = 0) : withinF [62, 61] v x = true ↔ ¬ verCmp x v < 0 := by
  rw [← within_lt hv hx]
  show (!verLess x v) = true ↔ ¬ verLess x v = true
  cases verLess x v <;> simp
structure SplitF (l : List En) (p v : Str) : Prop where
  lt : (pickErr l p ([60] ++ v) []).1 = 0 ↔ 0 < cntL v (vsort (versL l p))
  gt : (pickErr l p ([62] ++ v) []).1 = 0 ↔ 0 < cntM v (vsort (versL l p))
  le : (pickErr l p ([60, 61] ++ v) []).1 = 0 ↔ 0 < cntL v (vsort (versL l p)) + cntE v (vsort (versL l p))
  ge : (pickErr l p ([62, 61] ++ v) []).1 = 0 ↔ 0 < cntM v (vsort (versL l p)) + cntE v (vsort (versL l p))
  eq : (pickErr l p v []).1 = 0 ↔ 0 < cntE v (vsort (versL l p))
  is : (pickErr l p v []).1 = 0 → pickS l p v [] = v
  w1 : qWord ([60] ++ v) = false
  w2 : qWord ([62] ++ v) = false
  w3 : qWord ([60, 61] ++ v) = false
  w4 : qWord ([62, 61] ++ v) = false
  w5 : qWord v = false
theorem splitF {l : List En} {p v : Str} (h0 : (idxErr l).1 = 0) (hv : verErr v = 0) : SplitF l p v := by
  have hx : ∀ x ∈ vsort (versL l p), verErr x = 0 := fun x h => ((vsort_mem _ _).1 h).2
  have hs : ∀ s, s ∈ signs → s = [60, 61] ∨ s = [62, 61] ∨ s = [60] ∨ s = [62] := fun s h => by simpa [signs] using h
  have s1 : ([60] : Str) ∈ signs := by decide
  have s2 : ([62] : Str) ∈ signs := by decide
  have s3 : ([60, 61] : Str) ∈ signs := by decide
  have s4 : ([62, 61] : Str) ∈ signs := by decide
  obtain ⟨p1, p2, p3⟩ := pick_ver (l := l) (p := p) (now := []) h0 hv
  have hadd : ∀ a b : Nat, 0 < a + b ↔ 0 < a ∨ 0 < b := fun a b => by omega
  refine ⟨?_, ?_, ?_, ?_, ?_, p3, (bound_of s1 hv).1, (bound_of s2 hv).1, (bound_of s3 hv).1, (bound_of s4 hv).1, p1⟩
  · rw [pick_bound h0 s1 hv, cntL_pos]
    exact ⟨fun ⟨x, h1, h2⟩ => ⟨x, h1, (within_lt hv (hx x h1)).1 h2⟩, fun ⟨x, h1, h2⟩ => ⟨x, h1, (within_lt hv (hx x h1)).2 h2⟩⟩
  · rw [pick_bound h0 s2 hv, cntM_pos]
    exact ⟨fun ⟨x, h1, h2⟩ => ⟨x, h1, (within_gt hv (hx x h1)).1 h2⟩, fun ⟨x, h1, h2⟩ => ⟨x, h1, (within_gt hv (hx x h1)).2 h2⟩⟩
  · rw [pick_bound h0 s3 hv, hadd, cntL_pos, cntE_pos]
    constructor
    · rintro ⟨x, h1, h2⟩
      have h3 := (within_le hv (hx x h1)).1 h2
      rcases Int.lt_trichotomy (verCmp x v) 0 with h | h | h
      · exact .inl ⟨x, h1, h⟩
      · exact .inr ⟨x, h1, h⟩
      · exact absurd h h3
    · rintro (⟨x, h1, h2⟩ | ⟨x, h1, h2⟩)
      · exact ⟨x, h1, (within_le hv (hx x h1)).2 (by omega)⟩
      · exact ⟨x, h1, (within_le hv (hx x h1)).2 (by omega)⟩
  · rw [pick_bound h0 s4 hv, hadd, cntM_pos, cntE_pos]
    constructor
    · rintro ⟨x, h1, h2⟩
      have h3 := (within_ge hv (hx x h1)).1 h2
      rcases Int.lt_trichotomy (verCmp x v) 0 with h | h | h
      · exact absurd h h3
      · exact .inr ⟨x, h1, h⟩
      · exact .inl ⟨x, h1, h⟩
    · rintro (⟨x, h1, h2⟩ | ⟨x, h1, h2⟩)
      · exact ⟨x, h1, (within_ge hv (hx x h1)).2 (by omega)⟩
      · exact ⟨x, h1, (within_ge hv (hx x h1)).2 (by omega)⟩
  · rw [p2, cntE_pos]
    constructor
    · intro h
      exact ⟨v, h, verCmp_ord.self v⟩
    · rintro ⟨x, h1, h2⟩
      rwa [← (verCmp_same (hx x h1) hv).1 h2]
end Go.Proofs.Pw
