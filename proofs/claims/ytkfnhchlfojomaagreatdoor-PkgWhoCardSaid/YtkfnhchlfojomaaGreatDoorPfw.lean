/- Pf: walks and plain laws, joined: Picked Query4 Query5 Query6. Conditions: at each theorem. -/
import Derived.Test.YtkfnhchlfojomaaGreatDoorPfv
import Derived.Test.YtkfnhchlfojomaaGreatDoorPfi

namespace Go.Proofs.Pw
open Go.RowKit Go.Sort
open Go.Lib hiding intOf
def sDot : ByteArray := ⟨#[46]⟩
def sX : ByteArray := ⟨#[120]⟩
def v020rc : ByteArray := ⟨#[118, 48, 46, 50, 46, 48, 45, 114, 99]⟩
def qv1 : ByteArray := ⟨#[118, 49]⟩
def qge : ByteArray := ⟨#[62, 61, 118, 48, 46, 49, 46, 48]⟩
def s3P (j : Nat) : ByteArray := if j < 2 then sA else sB
def s3V (j : Nat) : ByteArray := if j = 0 then v100 else if j = 1 then v110 else if j = 2 then v010 else v020rc
def s3R (j : Nat) : List Md := if j = 1 then [(sB.data.toList, v010.data.toList)] else []
def s3K (j : Nat) : List Str := if j = 0 then [sDot.data.toList, sX.data.toList] else if j = 1 then [sDot.data.toList] else []
def s3L : List En := enF 4 s3P s3V s3R s3K smB
theorem s3_short : ShortI s3L := by
  refine ⟨by decide +kernel, ?_, ?_, ?_⟩
  · decide +kernel
  · intro e he
    have : ∀ e ∈ s3L, e.reqs.length ≤ 1000000 ∧ ∀ m ∈ e.reqs, m.1.length ≤ 1000000 ∧ m.2.length ≤ 1000000 := by decide +kernel
    exact this e he
  · decide +kernel
def s3Rv (N j : Nat) : Value := if j = 1 then .slice (some ⟨N + 1, 0, none⟩) 1 1 else .slice none 0 0
def s3Kv (N j : Nat) : Value := if j = 0 then .slice (some ⟨N, 0, none⟩) 2 2 else if j = 1 then .slice (some ⟨N + 2, 0, none⟩) 1 1 else .slice none 0 0
def s3W0 (w : World) : World := ((w.alloc (.cells #[.string sDot, .string sX] 9)).alloc (.cells #[.string sB, .string v010] 29)).alloc (.cells #[.string sDot] 9)
def s3C (N : Nat) : List Value := [.string sA, .string v100, .slice none 0 0, .slice (some ⟨N, 0, none⟩) 2 2, .bool false, .string sA, .string v110, .slice (some ⟨N + 1, 0, none⟩) 1 1, .slice (some ⟨N + 2, 0, none⟩) 1 1, .bool false, .string sB, .string v010, .slice none 0 0, .slice none 0 0, .bool false, .string sB, .string v020rc, .slice none 0 0, .slice none 0 0, .bool false]
def s3W (w : World) : World := (s3W0 w).alloc (.cells (s3C w.heap.size).toArray 37)
theorem s3_size (w : World) : (s3W0 w).heap.size = w.heap.size + 3 := by unfold s3W0; simp
theorem s3W_below (w : World) : Below w.heap.size w (s3W w) := below_step (below_step (below_step (below_alloc w _) (below_alloc _ _)) (below_alloc _ _)) (below_alloc _ _)
theorem s3W_in (w : World) : EntsIn (s3W w) (some ⟨w.heap.size + 3, 0, none⟩) 4 4 s3P s3V s3R s3K smB (s3Rv w.heap.size) (s3Kv w.heap.size) := by
  have hc : ∀ (c : Nat) (u : Value), (s3C w.heap.size)[c]? = some u → (s3W w).cell? ⟨w.heap.size + 3, c, none⟩ = some u := fun c u h => new_cell (s3W0 w) (s3C w.heap.size) 37 (s3_size w) h
  have hb3 : Below (s3W0 w).heap.size (s3W0 w) (s3W w) := below_alloc _ _
  have hb2 := below_step (below_alloc ((w.alloc (.cells #[.string sDot, .string sX] 9)).alloc (.cells #[.string sB, .string v010] 29)) (.cells #[.string sDot] 9)) hb3
  have hb1 := below_step (below_alloc (w.alloc (.cells #[.string sDot, .string sX] 9)) (.cells #[.string sB, .string v010] 29)) hb2
  refine ⟨Nat.le_refl _, by decide, fun j hj => ⟨w.heap.size + 3, 0, rfl, ?_⟩, fun j hj => ?_, fun j hj => ?_⟩
  · match j, hj with
    | 0, _ => exact ⟨hc _ _ rfl, hc _ _ rfl, hc _ _ rfl, hc _ _ rfl, hc _ _ rfl⟩
    | 1, _ => exact ⟨hc _ _ rfl, hc _ _ rfl, hc _ _ rfl, hc _ _ rfl, hc _ _ rfl⟩
    | 2, _ => exact ⟨hc _ _ rfl, hc _ _ rfl, hc _ _ rfl, hc _ _ rfl, hc _ _ rfl⟩
    | 3, _ => exact ⟨hc _ _ rfl, hc _ _ rfl, hc _ _ rfl, hc _ _ rfl, hc _ _ rfl⟩
  · match j, hj with
    | 0, _ => exact ModsAt.nil _
    | 2, _ => exact ModsAt.nil _
    | 3, _ => exact ModsAt.nil _
    | 1, _ =>
      have h0 := Below.cell_some hb2 (new_cell (w.alloc (.cells #[.string sDot, .string sX] 9)) [.string sB, .string v010] 29 (World.size_alloc _ _) (c := 0) rfl)
      have h1 := Below.cell_some hb2 (new_cell (w.alloc (.cells #[.string sDot, .string sX] 9)) [.string sB, .string v010] 29 (World.size_alloc _ _) (c := 1) rfl)
      refine ⟨some ⟨w.heap.size + 1, 0, none⟩, 1, 1, fun _ => sB, fun _ => v010, rfl, rfl, Nat.le_refl _, by decide, fun i hi => ?_⟩
      obtain rfl : i = 0 := by omega
      exact ⟨w.heap.size + 1, 0, rfl, h0, h1⟩
  · match j, hj with
    | 2, _ => exact StrsAt.nil _
    | 3, _ => exact StrsAt.nil _
    | 0, _ =>
      have h0 := Below.cell_some hb1 (new_cell w [.string sDot, .string sX] 9 rfl (c := 0) rfl)
      have h1 := Below.cell_some hb1 (new_cell w [.string sDot, .string sX] 9 rfl (c := 1) rfl)
      refine ⟨some ⟨w.heap.size, 0, none⟩, 2, 2, fun i => if i = 0 then sDot else sX, rfl, rfl, Nat.le_refl _, by decide, fun i hi => ?_⟩
      have hi2 : i = 0 ∨ i = 1 := by omega
      rcases hi2 with rfl | rfl
      · exact ⟨w.heap.size, 0, rfl, h0⟩
      · exact ⟨w.heap.size, 0, rfl, h1⟩
    | 1, _ =>
      have h0 := Below.cell_some hb3 (new_cell ((w.alloc (.cells #[.string sDot, .string sX] 9)).alloc (.cells #[.string sB, .string v010] 29)) [.string sDot] 9 (N := w.heap.size + 2) (by simp) (c := 0) rfl)
      refine ⟨some ⟨w.heap.size + 2, 0, none⟩, 1, 1, fun _ => sDot, rfl, rfl, Nat.le_refl _, by decide, fun i hi => ?_⟩
      obtain rfl : i = 0 := by omega
      exact ⟨w.heap.size + 2, 0, rfl, h0⟩
set_option maxHeartbeats 2000000 in
set_option maxRecDepth 100000 in
theorem small3_calls (w : World) :
    Calls Tryz.prog 52 #[] w fun e w' => e = .returned (.slice (some ⟨w.heap.size + 3, 0, none⟩) 4 4) ∧ w' = s3W w := by
  go_enter Tryz.func52, Tryz.ntmps52
  go_wp2_with fail
  go_ret
  exact ⟨rfl, rfl⟩
theorem pk_err1 : pickErr s3L sA.data.toList qv1.data.toList [] = (0, -1) := by decide +kernel
theorem pk_err2 : pickErr s3L sB.data.toList qge.data.toList [] = (0, -1) := by decide +kernel
theorem pk_s1 : pickS s3L sA.data.toList qv1.data.toList [] = v110.data.toList := by decide +kernel
theorem pk_s2 : pickS s3L sB.data.toList qge.data.toList [] = v010.data.toList := by decide +kernel
set_option maxHeartbeats 2000000 in
set_option maxRecDepth 100000 in
theorem picked_calls (ks : List Nat) (A : Nat → Addr) (hks : IdxKs ks) (w : World) (hE : EnvP ks A w) :
    Calls Tryz.prog 28 #[] w fun e w' => e = .returned (.bool true) ∧ Below w.heap.size w w' := by
  have hsm := fun W => small3_calls W
  have hB := s3W_below w
  have hp1 := qPickN_in ks A hks (some ⟨w.heap.size + 3, 0, none⟩) 4 4 s3P s3V s3R s3K smB (s3Rv w.heap.size) (s3Kv w.heap.size) sA qv1 ⟨#[]⟩ (s3W w) (hE.below hB) (s3W_in w) s3_short (by decide) (by decide +kernel)
  have hp2 := fun (W : World) (hb : Below w.heap.size w W) => qPickN_in ks A hks (some ⟨W.heap.size + 3, 0, none⟩) 4 4 s3P s3V s3R s3K smB (s3Rv W.heap.size) (s3Kv W.heap.size) sB qge ⟨#[]⟩ (s3W W) (hE.below (below_step hb (s3W_below W))) (s3W_in W) s3_short (by decide) (by decide +kernel)
  rw [show enF 4 s3P s3V s3R s3K smB = s3L from rfl] at hp1 hp2
  rw [show (⟨#[]⟩ : ByteArray).data.toList = [] from rfl] at hp1 hp2
  rw [pk_err1, pk_s1, show (⟨v110.data.toList.toArray⟩ : ByteArray) = v110 from bytes_eq.1 rfl] at hp1
  rw [pk_err2, pk_s2, show (⟨v010.data.toList.toArray⟩ : ByteArray) = v010 from bytes_eq.1 rfl] at hp2
  have hSB := Lib.hid (fun W => s3W_below W)
  obtain ⟨w1, hW1⟩ : ∃ W, s3W w = W := ⟨_, rfl⟩
  rw [hW1] at hp1 hB
  have HS1 := Lib.hid hW1
  clear hW1
  unfold sA qv1 v110 at hp1
  unfold sB qge v010 at hp2
  replace hsm := Lib.hid hsm
  replace hp1 := Lib.hid hp1
  replace hp2 := Lib.hid hp2
  clear hE
  go_enter Tryz.func28, Tryz.ntmps28
  go_wp2_with fail
  refine (hsm.out _).mono ?_
  rintro e w' ⟨rfl, hw'⟩
  rw [HS1.out] at hw'
  subst hw'
  go_wp2_with fail
  refine hp1.out.mono ?_
  rintro e w2 ⟨⟨ev1, rfl, hf1⟩, hb⟩
  obtain rfl : ev1 = .nilIface := by
    rcases fault_form hf1 with ⟨_, h⟩ | ⟨h, _⟩
    · exact h
    · exact absurd rfl h
  replace hB := below_step hB hb
  clear hb hf1 hp1
  go_wp2_with fail
  refine (hsm.out _).mono ?_
  rintro e w3 ⟨rfl, hw3⟩
  subst hw3
  have hp3 := hp2.out w2 hB
  replace hB := below_step hB (hSB.out w2)
  generalize s3W w2 = w4 at *
  replace hp3 := Lib.hid hp3
  clear hp2 hsm
  go_wp2_with fail
  refine hp3.out.mono ?_
  rintro e w5 ⟨⟨ev2, rfl, hf2⟩, hb⟩
  obtain rfl : ev2 = .nilIface := by
    rcases fault_form hf2 with ⟨_, h⟩ | ⟨h, _⟩
    · exact h
    · exact absurd rfl h
  replace hB := below_step hB hb
  clear hb hf2 hp3
  go_wp2_with fail
  go_ret
  exact ⟨rfl, hB⟩
end Go.Proofs.Pw

namespace Go.Proofs.Pw
open Go.RowKit Go.Sort
open Go.Lib hiding intOf
theorem enters_patch1 : ∀ args w, (callFunc 199 args).run Tryz.prog w = .ok (.enter 199 args) w := Go.Proofs.enters_of Tryz.func199 (by kernel_rfl) rfl
set_option maxHeartbeats 1000000 in
set_option maxRecDepth 100000 in
theorem patch1_in (ks : List Nat) (A : Nat → Addr) (b1 b2 : Nat) (head now s : ByteArray) (w : World) (hE : EnvP ks A w) (hh : head.size ≤ 1000000) (hn : now.size ≤ 1000000) (hs : s.size ≤ 1000000) (z1 : w.cell? ⟨b1, 0, none⟩ = some (.string head)) (z2 : w.cell? ⟨b2, 0, none⟩ = some (.string now)) :
    Calls Tryz.prog 199 #[.string s, .pointer (some ⟨b1, 0, none⟩), .pointer (some ⟨b2, 0, none⟩)] w fun e w' => e = .returned (.bool (!verBegins s.data.toList head.data.toList || verLess s.data.toList now.data.toList)) ∧ Below w.heap.size w w' := by
  have hw := verBegins_calls ks A s head w hE (by omega) (by omega)
  have hl := fun (W : World) (hb : Below w.heap.size w W) => verLess_calls ks A s now W (hE.below hb) (by omega) (by omega)
  generalize verBegins s.data.toList head.data.toList = X at hw ⊢
  generalize verLess s.data.toList now.data.toList = D at hl ⊢
  replace hw := Lib.hid hw
  replace hl := Lib.hid hl
  clear hE
  cases X with
  | false =>
    go_enter Tryz.func199, Tryz.ntmps199
    go_wp2_with fail
    refine hw.out.mono ?_
    rintro e w1 ⟨rfl, hb⟩
    go_wp2_with fail
    go_ret
    exact ⟨rfl, hb⟩
  | true =>
    go_enter Tryz.func199, Tryz.ntmps199
    go_wp2_with fail
    refine hw.out.mono ?_
    rintro e w1 ⟨rfl, hb⟩
    replace z2 := Below.cell_some hb z2
    go_wp2_with fail
    refine (hl.out _ hb).mono ?_
    rintro e w2 ⟨rfl, hb2⟩
    go_wp2_with fail
    go_ret
    exact ⟨by simp, below_step hb hb2⟩
structure BoxP (w : World) (k : Nat) (v : Value) : Prop where
  c0 : w.cell? ⟨k, 0, none⟩ = some v
  fz : ∀ i, w.frozen? ⟨k, i, none⟩ = false
theorem BoxP.new (w : World) (v : Value) (t : TypeId) : BoxP (w.alloc (.cells #[v] t)) w.heap.size v := ⟨by simp, fun i => by simp⟩
theorem BoxP.below {w w' : World} {k : Nat} {v : Value} (h : BoxP w k v) (hb : Below w.heap.size w w') : BoxP w' k v :=
  ⟨Below.cell_some hb h.c0, fun i => (hb.frozen (p := ⟨k, i, none⟩) (show k < w.heap.size from lt_of_cell h.c0)).trans (h.fz i)⟩
theorem BoxP.kept {w w' : World} {v : Value} {t : TypeId} (hb : Below (w.alloc (.cells #[v] t)).heap.size (w.alloc (.cells #[v] t)) w') : BoxP w' w.heap.size v := (BoxP.new w v t).below hb
theorem BoxP.set {w : World} {k : Nat} {v : Value} (h : BoxP w k v) (u : Value) : BoxP (w.setCell ⟨k, 0, none⟩ u) k u := ⟨World.cell?_setCell_same _ _ _ h.c0, fun i => by simpa using h.fz i⟩
theorem patchDel (ks : List Nat) (A : Nat → Addr) (hd now : ByteArray) (B kb : Nat) (v : Value) (l : List Str) (w wf : World) (HEB : ∀ W, Below B w W → EnvP ks A W) (hh : hd.size ≤ 1000000) (hnow : now.size ≤ 1000000) (hB0 : B ≤ w.heap.size) (hF : FreshS B w v l) (hl : l.length ≤ 1000000) (hls : ∀ x ∈ l, x.length ≤ 1000000) (hC : Below w.heap.size w wf) (hkb : w.heap.size ≤ kb) (z0 : wf.cell? ⟨w.heap.size, 0, none⟩ = some (.string now)) (zk : wf.cell? ⟨kb, 0, none⟩ = some (.string hd)) (hhd : hd.data.toList = patchHead now.data.toList) (W : World) (hW : Below wf.heap.size wf W) :
    Calls Tryz.prog 86 #[v, .func (.func 199) #[] #[.pointer (some ⟨kb, 0, none⟩), .pointer (some ⟨w.heap.size, 0, none⟩)]] W fun e w' => (∃ v', e = .returned v' ∧ StrsAt w' v' (l.filter fun s => !patchOut now.data.toList s)) ∧ Below B w w' := by
  have hR : ∀ k c, v = .slice (some ⟨k, 0, none⟩) l.length c → B ≤ k ∧ k < w.heap.size := fun k c e => by
    rcases hF with ⟨h1, _⟩ | ⟨g, c', h1, h2, h3, _⟩
    · rw [h1] at e; cases e
    · rw [h1] at e; cases e; exact ⟨h2, h3⟩
  have hCW := below_step hC hW
  have hs := hCW.size
  refine (delK_calls 199 #[.pointer (some ⟨kb, 0, none⟩), .pointer (some ⟨w.heap.size, 0, none⟩)] enters_patch1 (fun s => patchOut now.data.toList s) B v l W (by omega) hl (hF.below hCW) (fun k c e W' hW' s hs' => ?_)).mono ?_
  · have hk := hR k c e
    have h1 := patch1_in ks A kb w.heap.size hd now ⟨s.toArray⟩ W' (HEB W' ((hCW.mono hB0).trans (hW'.below hk.1 (by omega)))) hh hnow (by have := hls s hs'; simpa [ByteArray.size] using this) (hW'.cell (Below.cell_some hW zk) (fun e => by have e' : kb = k := e; omega)) (hW'.cell (Below.cell_some hW z0) (fun e => by have e' : w.heap.size = k := e; omega))
    rw [hhd] at h1
    simpa [patchOut] using h1
  · rintro e w' ⟨h1, h2, _⟩
    exact ⟨h1, (hCW.mono hB0).trans h2⟩
set_option maxHeartbeats 8000000 in
set_option maxRecDepth 100000 in
theorem qPatch_in (ks : List Nat) (A : Nat → Addr) (h5 : 5 ∈ ks) (a : Option Addr) (n cap : Nat) (P V : Nat → ByteArray) (R : Nat → List Md) (K : Nat → List Str) (Bk : Nat → Bool) (Rv Kv : Nat → Value) (p now : ByteArray) (B : Nat) (v : Value) (l : List Str) (w : World) (hE : EnvP ks A w) (_h : EntsIn w a n cap P V R K Bk Rv Kv) (hn : n ≤ 1000000) (hnow : now.size ≤ 1000000) (hB0 : B ≤ w.heap.size) (hEB : ∀ W, Below B w W → EnvP ks A W) (hIB : ∀ W, Below B w W → EntsIn W a n cap P V R K Bk Rv Kv) (hF : FreshS B w v l) (hl : l.length ≤ 1000000) (hls : ∀ x ∈ l, x.length ≤ 1000000) :
    Calls Tryz.prog 147 #[.slice a n cap, .string p, .string now, v] w fun e w' => e = .returned (likedV A (patchF (enF n P V R K Bk) p.data.toList now.data.toList l)) ∧ Below B w w' := by
  have hb0 := below_alloc w (.cells #[.string now] 9)
  have z0 : (w.alloc (.cells #[.string now] 9)).cell? ⟨w.heap.size, 0, none⟩ = some (.string now) := by simp
  have hsp := fun (W : World) (hb : Below w.heap.size w W) => verSplit_calls ks A now W (hE.below hb) (by omega)
  have HLI := Lib.hid (fun (sv : Value) (vs : List Str) (W : World) (hb : Below B w W) (hv : StrsAt W sv vs) (h1 : vs.length ≤ 1000000) (h2 : ∀ x ∈ vs, x.length ≤ 1000000) => qLiked_in ks A h5 a n cap P V R K Bk Rv Kv p sv vs false W (hEB W hb) (hIB W hb) hn hv h1 h2)
  have hPF : patchF (enF n P V R K Bk) p.data.toList now.data.toList l = if verErr now.data.toList ≠ 0 then likedF (enF n P V R K Bk) p.data.toList l false else likedF (enF n P V R K Bk) p.data.toList (l.filter fun s => !patchOut now.data.toList s) false := rfl
  generalize patchF (enF n P V R K Bk) p.data.toList now.data.toList l = PF at hPF ⊢
  have HPF := Lib.hid hPF
  obtain ⟨EV, hEV⟩ : ∃ x, x = errV A (if PF.isNone then 5 else 0) := ⟨_, rfl⟩
  obtain ⟨SV, hSV⟩ : ∃ x : ByteArray, x = ⟨(PF.getD []).toArray⟩ := ⟨_, rfl⟩
  have HLV : Hid (likedV A PF = .tuple #[.string SV, EV]) := Lib.hid (by rw [likedV_is, hEV, hSV])
  have HF := Lib.hid hF
  have HEB := Lib.hid hEB
  have HLL := Lib.hid (And.intro hl hls)
  have HE0 := Lib.hid (fun (W : World) (hb : Below w.heap.size w W) => hE.below hb)
  replace hsp := Lib.hid hsp
  clear hE _h hPF hEV hSV hF hEB hIB hl hls
  go_enter Tryz.func147, Tryz.ntmps147
  go_wp2_with fail
  generalize w.alloc (.cells #[.string now] 9) = w0 at *
  refine (hsp.out _ hb0).mono ?_
  rintro e w1 ⟨hb, va, rfl, hs1⟩
  obtain ⟨a1, m1, c1, _, rfl, _⟩ := hs1
  obtain ⟨N0, hN0⟩ : ∃ N, verNum now.data.toList 0 = N := ⟨_, rfl⟩
  obtain ⟨N1, hN1⟩ : ∃ N, verNum now.data.toList 1 = N := ⟨_, rfl⟩
  rw [hN0, hN1]
  generalize verNum now.data.toList 2 = N2
  have hba := below_alloc w1 (.cells #[.int .i64 (N0 : Nat), .int .i64 (N1 : Nat), .int .i64 (N2 : Nat), .slice a1 m1 c1] 132)
  have y0 := new_cell w1 [.int .i64 (N0 : Nat), .int .i64 (N1 : Nat), .int .i64 (N2 : Nat), .slice a1 m1 c1] 132 rfl (c := 0) rfl
  have y1 := new_cell w1 [.int .i64 (N0 : Nat), .int .i64 (N1 : Nat), .int .i64 (N2 : Nat), .slice a1 m1 c1] 132 rfl (c := 1) rfl
  have hwb : w.heap.size < w1.heap.size := Nat.lt_of_lt_of_le (lt_of_cell z0) hb.size
  replace hb := below_step hb hba
  replace z0 := Below.cell_some hb z0
  have hC := below_step hb0 hb
  have HN := Lib.hid (And.intro hN0 hN1)
  clear hb hba hb0 hsp hN0 hN1
  by_cases hv0 : verErr now.data.toList = 0
  · rw [hv0, errV_zero]
    have HPF1 : Hid (PF = likedF (enF n P V R K Bk) p.data.toList (l.filter fun s => !patchOut now.data.toList s) false) := Lib.hid (by rw [HPF.out, if_neg (by simp [hv0])])
    clear HPF
    go_wp2_with fail
    generalize w1.alloc (.cells #[.int .i64 (N0 : Nat), .int .i64 (N1 : Nat), .int .i64 (N2 : Nat), .slice a1 m1 c1] 132) = w2 at *
    generalize w1.heap.size = b1 at *
    have hN := HN.out
    have hit := fun (k : Nat) (hk : k ≤ 999999) (W : World) (hb : Below w2.heap.size w2 W) => itoa_calls ks A k W (HE0.out W (below_step hC hb)) (by omega)
    have hk0 : N0 ≤ 999999 := by rw [← hN.1]; exact verNum_le _ _
    have hk1 : N1 ≤ 999999 := by rw [← hN.2]; exact verNum_le _ _
    have HK := Lib.hid (And.intro hk0 hk1)
    have hit0 := hit N0 hk0
    have hit1 := hit N1 hk1
    obtain ⟨I0, hI0⟩ : ∃ x : ByteArray, x = ⟨(Lib.itoa (N0 : Nat)).toArray⟩ := ⟨_, rfl⟩
    obtain ⟨I1, hI1⟩ : ∃ x : ByteArray, x = ⟨(Lib.itoa (N1 : Nat)).toArray⟩ := ⟨_, rfl⟩
    rw [← hI0] at hit0
    rw [← hI1] at hit1
    have hz0 : I0.size ≤ 20 := by rw [hI0]; have := itoa_len (x := (N0 : Int)) (by omega) (by omega); simpa [ByteArray.size] using this
    have hz1 : I1.size ≤ 20 := by rw [hI1]; have := itoa_len (x := (N1 : Int)) (by omega) (by omega); simpa [ByteArray.size] using this
    have HZD : Hid (((⟨#[118]⟩ : ByteArray) ++ I0 ++ ⟨#[46]⟩ ++ I1).size ≤ 1000000) := Lib.hid (by
      rw [ByteArray.size_append, ByteArray.size_append, ByteArray.size_append, show (⟨#[118]⟩ : ByteArray).size = 1 from rfl, show (⟨#[46]⟩ : ByteArray).size = 1 from rfl]
      omega)
    have HII := Lib.hid (And.intro hI0 hI1)
    have HY := Lib.hid (And.intro y0 y1)
    have hbW := (Below.refl w2.heap.size w2).drew
    have hq1 : ¬ 9223372036854775807 < 1 + I0.size := by omega
    have hq2 : ¬ 9223372036854775807 < 1 + I0.size + 1 := by omega
    have hq3 : ¬ 9223372036854775807 < 1 + I0.size + 1 + I1.size := by omega
    replace hit0 := Lib.hid hit0
    replace hit1 := Lib.hid hit1
    clear hit hk0 hk1 hI0 hI1 hN y0 y1
    go_region_held2 (fun W => W.cell? ⟨b1, 0, none⟩ = some (.int .i64 (N0 : Nat)) ∧ W.cell? ⟨b1, 1, none⟩ = some (.int .i64 (N1 : Nat))) (first
      | with_reducible exact ⟨Below.cell_some hbW HY.out.1, Below.cell_some hbW HY.out.2⟩
      | with_reducible exact ⟨Below.cell_some (Below.alloc hbW hbW.size _) HY.out.1, Below.cell_some (Below.alloc hbW hbW.size _) HY.out.2⟩
      | with_reducible exact ⟨Below.cell_some (Below.setCell hbW (p := ⟨_, 0, none⟩) hkn _) HY.out.1, Below.cell_some (Below.setCell hbW (p := ⟨_, 0, none⟩) hkn _) HY.out.2⟩
      | with_reducible exact ⟨Below.cell_some (Below.setCell (Below.alloc hbW hbW.size _) (p := ⟨_, 0, none⟩) hbW.size _) HY.out.1, Below.cell_some (Below.setCell (Below.alloc hbW hbW.size _) (p := ⟨_, 0, none⟩) hbW.size _) HY.out.2⟩
      | with_reducible exact ⟨Below.cell_some (Below.drew (Below.alloc (Below.refl w2.heap.size w2) (Nat.le_refl _) (.cells #[.string ⟨#[]⟩] 9))) HY.out.1, Below.cell_some (Below.drew (Below.alloc (Below.refl w2.heap.size w2) (Nat.le_refl _) (.cells #[.string ⟨#[]⟩] 9))) HY.out.2⟩) (first
      | (go_at_call 136; refine (hit0.out _ hbW).mono ?_; rintro e w7 ⟨rfl, hb7⟩; replace hbW := below_step hbW hb7)
      | (go_at_call 136; refine (hit1.out _ hbW).mono ?_; rintro e w8 ⟨rfl, hb8⟩; have hd0 := (hdr.below hb8).c0; have hdf := (hdr.below hb8).fz; clear hdr; replace hcn := hcn.below hb8; have hc0 := hcn.c0; have hfn := hcn.fz; replace hbW := below_step hbW hb8)
      | (go_at_call 136; refine (hit1.out _ hbW).mono ?_; rintro e w8 ⟨rfl, hb8⟩; replace hcn := hcn.below hb8; have hc0 := hcn.c0; have hfn := hcn.fz; replace hbW := below_step hbW hb8)
      | (go_at_call 136; refine (hit1.out _ hbW).mono ?_; rintro e w8 ⟨rfl, hb8⟩; replace hbW := below_step hbW hb8)
      | (go_at_call 136; refine (hit1.out _ (Below.alloc hbW hbW.size _)).mono ?_; rintro e w8 ⟨rfl, hb8⟩; have hkn := hbW.size; have hcn := BoxP.kept hb8; have hc0 := hcn.c0; have hfn := hcn.fz; replace hbW := below_step (Below.alloc hbW hbW.size _) hb8)
      | (go_at_call 136; refine (hit0.out _ (Below.drew (Below.alloc (Below.refl w2.heap.size w2) (Nat.le_refl _) (.cells #[.string ⟨#[]⟩] 9)))).mono ?_; rintro e w7 ⟨rfl, hb7⟩; have hkn := Nat.le_refl w2.heap.size; have hcn := ((BoxP.new w2 (.string ⟨#[]⟩) 9).below (Below.refl _ _).drew).below hb7; have hdr : BoxP w7 w2.drew.heap.size (.string ⟨#[]⟩) := hcn; replace hbW := below_step (Below.drew (Below.alloc (Below.refl w2.heap.size w2) (Nat.le_refl _) (.cells #[.string ⟨#[]⟩] 9))) hb7))
    all_goals
      obtain ⟨hcf, hBf, hkf⟩ : True ∧ True ∧ True := ⟨trivial, trivial, trivial⟩
      first
        | (replace hcf := hcn.set (.string ((⟨#[118]⟩ : ByteArray) ++ I0 ++ ⟨#[46]⟩ ++ I1))
           replace hBf := Below.setCell hbW (p := ⟨_, 0, none⟩) hkn (.string ((⟨#[118]⟩ : ByteArray) ++ I0 ++ ⟨#[46]⟩ ++ I1))
           replace hkf := hkn
           generalize w8.setCell _ (.string ((⟨#[118]⟩ : ByteArray) ++ I0 ++ ⟨#[46]⟩ ++ I1)) = wf at hcf hBf ⊢)
        | (replace hcf := BoxP.new w8 (.string ((⟨#[118]⟩ : ByteArray) ++ I0 ++ ⟨#[46]⟩ ++ I1)) 9
           replace hBf := Below.alloc hbW hbW.size (.cells #[.string ((⟨#[118]⟩ : ByteArray) ++ I0 ++ ⟨#[46]⟩ ++ I1)] 9)
           replace hkf := hbW.size
           generalize w8.alloc (.cells #[.string ((⟨#[118]⟩ : ByteArray) ++ I0 ++ ⟨#[46]⟩ ++ I1)] 9) = wf at hcf hBf ⊢)
      have hsf := hBf.size
      have hsw := hC.size
      have hdel := patchDel ks A ((⟨#[118]⟩ : ByteArray) ++ I0 ++ ⟨#[46]⟩ ++ I1) now B _ v l w wf HEB.out HZD.out hnow hB0 HF.out HLL.out.1 HLL.out.2 (below_step hC hBf) (by omega) (Below.cell_some hBf z0) hcf.c0 (by rw [HII.out.1, HII.out.2]; simp [patchHead, HN.out.1, HN.out.2])
      have hbX := (Below.refl wf.heap.size wf).drew
      have HBW := Lib.hid hB0
      replace hdel := Lib.hid hdel
      clear hcf hBf hkf hsf hsw hbW z0 hC hz0 hz1
      go_wp2_with fail
      refine (hdel.out _ (Below.refl _ _)).mono ?_
      rintro e w9 ⟨⟨v9, rfl, hs9⟩, hBq⟩
      clear hdel hbX
      have hli := HLI.out v9 _ w9 hBq hs9 (Nat.le_trans (List.length_filter_le _ _) HLL.out.1) (fun x hx => HLL.out.2 x (List.mem_filter.1 hx).1)
      rw [← HPF1.out, HLV.out] at hli
      replace hli := Lib.hid hli
      clear hs9
      go_wp2_with fail
      refine hli.out.mono ?_
      rintro e w10 ⟨rfl, hb10⟩
      replace hBq := hBq.trans (hb10.mono (Nat.le_trans HBW.out hBq.size))
      clear hb10 hli
      go_wp2_with fail
      go_ret2
      rw [HLV.out]
      exact ⟨rfl, hBq⟩
  · rw [errV_pos A hv0]
    rw [if_pos hv0] at HPF
    have hli := HLI.out v l _ (hC.mono hB0) ((HF.out.below hC).strs) HLL.out.1 HLL.out.2
    rw [← HPF.out, HLV.out] at hli
    replace hli := Lib.hid hli
    clear hv0
    go_wp2_with fail
    refine hli.out.mono ?_
    rintro e w3 ⟨rfl, hb⟩
    have hC3 := (below_step hC hb).mono hB0
    clear hb hli
    go_wp2_with fail
    go_ret2
    rw [HLV.out]
    exact ⟨rfl, hC3⟩
end Go.Proofs.Pw

namespace Go.Proofs.Pw
open Go.RowKit Go.Sort
open Go.Lib hiding intOf
theorem likedF_size {l : List En} {p s : Str} {vs : List Str} (h : likedF l p vs false = some s) (hls : ∀ x ∈ vs, x.length ≤ 1000000) : s.length ≤ 1000000 := by
  unfold likedF at h
  split at h
  · cases h
  · rename_i h0
    obtain rfl := Option.some.inj h
    exact hls _ (likedL_sub (lastS_mem h0))
set_option maxHeartbeats 2000000 in
set_option maxRecDepth 100000 in
theorem qNamed_in (ks : List Nat) (A : Nat → Addr) (h5 : 5 ∈ ks) (a : Option Addr) (n cap : Nat) (P V : Nat → ByteArray) (R : Nat → List Md) (K : Nat → List Str) (Bk : Nat → Bool) (Rv Kv : Nat → Value) (p q now : ByteArray) (B : Nat) (v : Value) (l : List Str) (w : World) (hn : n ≤ 1000000) (hnow : now.size ≤ 1000000) (hB0 : B ≤ w.heap.size) (hEB : ∀ W, Below B w W → EnvP ks A W) (hIB : ∀ W, Below B w W → EntsIn W a n cap P V R K Bk Rv Kv) (hF : FreshS B w v l) (hl : l.length ≤ 1000000) (hls : ∀ x ∈ l, x.length ≤ 1000000) :
    Calls Tryz.prog 83 #[.slice a n cap, .string p, .string q, .string now, v] w fun e w' => e = .returned (likedV A (namedF (enF n P V R K Bk) p.data.toList q.data.toList now.data.toList l)) ∧ Below B w w' := by
  have hpa := qPatch_in ks A h5 a n cap P V R K Bk Rv Kv p now B v l w (hEB w (Below.refl _ _)) (hIB w (Below.refl _ _)) hn hnow hB0 hEB hIB hF hl hls
  have hli := qLiked_in ks A h5 a n cap P V R K Bk Rv Kv p v l false w (hEB w (Below.refl _ _)) (hIB w (Below.refl _ _)) hn hF.strs hl hls
  have hN : namedF (enF n P V R K Bk) p.data.toList q.data.toList now.data.toList l = if q.data.toList = wNone then some q.data.toList else if q.data.toList = wPatch then patchF (enF n P V R K Bk) p.data.toList now.data.toList l else (likedF (enF n P V R K Bk) p.data.toList l false).map fun s => if q.data.toList = wUpgrade then verMax s now.data.toList else s := rfl
  have hsz := fun s (h : likedF (enF n P V R K Bk) p.data.toList l false = some s) => likedF_size h hls
  generalize namedF (enF n P V R K Bk) p.data.toList q.data.toList now.data.toList l = X at hN ⊢
  generalize patchF (enF n P V R K Bk) p.data.toList now.data.toList l = PF at hN hpa
  generalize likedF (enF n P V R K Bk) p.data.toList l false = LF at hN hli hsz
  have HM := Lib.hid (fun (s : ByteArray) (hs : s.size ≤ 1000000) (W : World) (hb : Below B w W) => verMax_calls ks A s now W (hEB W hb) (by omega) (by omega))
  have hb1 : Below B w w := Below.refl _ _
  clear hEB hIB hF hl hls
  by_cases e1 : q.data.toList = wNone
  · rw [if_pos e1] at hN
    have HN := Lib.hid hN
    have q1 : (q.toList == [110, 111, 110, 101]) = true := by rw [toList_data, e1]; rfl
    clear e1 hpa hli hN hsz
    go_enter Tryz.func83, Tryz.ntmps83
    go_wp2_with fail
    go_ret2
    rw [HN.out]
    exact ⟨rfl, hb1⟩
  · rw [if_neg e1] at hN
    have q1 : (q.toList == [110, 111, 110, 101]) = false := by rw [toList_data]; exact beq_eq_false_iff_ne.2 e1
    clear e1
    by_cases e2 : q.data.toList = wPatch
    · rw [if_pos e2] at hN
      subst hN
      have q2 : (q.toList == [112, 97, 116, 99, 104]) = true := by rw [toList_data, e2]; rfl
      obtain ⟨EV, hEV⟩ : ∃ x, x = errV A (if X.isNone then 5 else 0) := ⟨_, rfl⟩
      obtain ⟨SV, hSV⟩ : ∃ x : ByteArray, x = ⟨(X.getD []).toArray⟩ := ⟨_, rfl⟩
      have HLV : Hid (likedV A X = .tuple #[.string SV, EV]) := Lib.hid (by rw [likedV_is, hEV, hSV])
      rw [HLV.out] at hpa
      replace hpa := Lib.hid hpa
      clear e2 hli hsz hEV hSV
      go_enter Tryz.func83, Tryz.ntmps83
      go_wp2_with fail
      refine hpa.out.mono ?_
      rintro e w1 ⟨rfl, hb⟩
      go_wp2_with fail
      go_ret2
      rw [HLV.out]
      exact ⟨rfl, hb⟩
    · rw [if_neg e2] at hN
      have q2 : (q.toList == [112, 97, 116, 99, 104]) = false := by rw [toList_data]; exact beq_eq_false_iff_ne.2 e2
      clear e2 hpa
      cases LF with
      | none =>
        have HN := Lib.hid hN
        have hli2 : Calls Tryz.prog 85 #[.slice a n cap, .string p, v, .bool false] w fun e w' => e = .returned (.tuple #[.string ⟨#[]⟩, errV A 5]) ∧ Below w.heap.size w w' := hli
        rw [errV_pos A (c := 5) (by decide)] at hli2
        replace hli2 := Lib.hid hli2
        clear hli hN hsz
        go_enter Tryz.func83, Tryz.ntmps83
        go_wp2_with fail
        refine hli2.out.mono ?_
        rintro e w1 ⟨rfl, hb⟩
        replace hb := hb.mono hB0
        go_wp2_with fail
        go_ret2
        rw [HN.out]
        refine ⟨?_, hb⟩
        show _ = Ending.returned (.tuple #[.string ⟨#[]⟩, errV A 5])
        rw [errV_pos A (c := 5) (by decide)]
        rfl
      | some s =>
        have hss := hsz s rfl
        have hli2 : Calls Tryz.prog 85 #[.slice a n cap, .string p, v, .bool false] w fun e w' => e = .returned (.tuple #[.string ⟨s.toArray⟩, .nilIface]) ∧ Below w.heap.size w w' := hli
        obtain ⟨sb, hsb⟩ : ∃ x : ByteArray, x = ⟨s.toArray⟩ := ⟨_, rfl⟩
        have hsd : sb.data.toList = s := by rw [hsb]
        have hs1 : sb.size ≤ 1000000 := by rw [hsb]; simpa [ByteArray.size] using hss
        rw [← hsb] at hli2
        have hmx := HM.out sb hs1
        by_cases e3 : q.data.toList = wUpgrade
        · have HN : Hid (X = some (verMax s now.data.toList)) := Lib.hid (by rw [hN]; simp [e3])
          have q3 : (q.toList == [117, 112, 103, 114, 97, 100, 101]) = true := by rw [toList_data, e3]; rfl
          have HSD := Lib.hid hsd
          replace hli2 := Lib.hid hli2
          replace hmx := Lib.hid hmx
          clear hli hN hsz hss e3 hsb hs1 hsd
          go_enter Tryz.func83, Tryz.ntmps83
          go_wp2_with fail
          refine hli2.out.mono ?_
          rintro e w1 ⟨rfl, hb⟩
          replace hb := hb.mono hB0
          go_wp2_with fail
          refine (hmx.out w1 hb).mono ?_
          rintro e w2 ⟨rfl, hb2⟩
          replace hb := hb.trans (hb2.mono (Nat.le_trans hB0 hb.size))
          clear hb2 hmx hli2
          go_wp2_with fail
          go_ret2
          rw [HN.out, HSD.out]
          exact ⟨rfl, hb⟩
        · have HN : Hid (X = some s) := Lib.hid (by rw [hN]; simp [e3])
          have q3 : (q.toList == [117, 112, 103, 114, 97, 100, 101]) = false := by rw [toList_data]; exact beq_eq_false_iff_ne.2 e3
          have HSD := Lib.hid hsb
          replace hli2 := Lib.hid hli2
          clear hli hN hsz hss e3 hsb hs1 hsd hmx
          go_enter Tryz.func83, Tryz.ntmps83
          go_wp2_with fail
          refine hli2.out.mono ?_
          rintro e w1 ⟨rfl, hb⟩
          replace hb := hb.mono hB0
          go_wp2_with fail
          go_ret2
          rw [HN.out, HSD.out]
          exact ⟨rfl, hb⟩
end Go.Proofs.Pw

namespace Go.Proofs.Pw
open Go.RowKit Go.Sort
open Go.Lib hiding intOf
set_option maxHeartbeats 8000000 in
set_option maxRecDepth 100000 in
theorem qPickW_in (ks : List Nat) (A : Nat → Addr) (hks : IdxKs ks) (a : Option Addr) (n cap : Nat) (P V : Nat → ByteArray) (R : Nat → List Md) (K : Nat → List Str) (Bk : Nat → Bool) (Rv Kv : Nat → Value) (p q now : ByteArray) (w : World) (hE : EnvP ks A w) (h : EntsIn w a n cap P V R K Bk Rv Kv) (hs : ShortI (enF n P V R K Bk)) (hq : q.size ≤ 1000000) (hqw : qWord q.data.toList = true) (hnow : now.size ≤ 1000000) :
    Calls Tryz.prog 33 #[.slice a n cap, .string p, .string q, .string now] w fun e w' => (∃ ev, e = .returned (.tuple #[.string ⟨(pickS (enF n P V R K Bk) p.data.toList q.data.toList now.data.toList).toArray⟩, ev]) ∧ FaultAt A w' ev (pickErr (enF n P V R K Bk) p.data.toList q.data.toList now.data.toList)) ∧ Below w.heap.size w w' := by
  have hn : n ≤ 1000000 := by have := hs.len; rwa [enF_length] at this
  have hb0 := below_alloc w (.cells #[.string q] 9)
  have z0 : (w.alloc (.cells #[.string q] 9)).cell? ⟨w.heap.size, 0, none⟩ = some (.string q) := by simp
  have hE1 := fun (W : World) (hb : Below w.heap.size w W) => hE.below hb
  have H := Lib.hid (fun (W : World) (hb : Below w.heap.size w W) => h.below hb)
  have hqc := fun (W : World) (hb : Below w.heap.size w W) => qCheck_calls ks A q W (hE1 W hb) hq
  have hic := fun (W : World) (hb : Below w.heap.size w W) => idxCheck_in ks A hks a n cap P V R K Bk Rv Kv W (hE1 W hb) (H.out W hb) hs
  have hvs := fun (W : World) (hb : Below w.heap.size w W) => idxVersionsF_in ks A a n cap P V R K Bk Rv Kv p W (hE1 W hb) (H.out W hb) hs
  have hwo := fun (W : World) => qWord_calls q W
  have HNM := Lib.hid (fun (B : Nat) (hBB : w.heap.size ≤ B) (v : Value) (W : World) (hb : Below w.heap.size w W) (hBW : B ≤ W.heap.size) (hF : FreshS B W v (vsort (versL (enF n P V R K Bk) p.data.toList))) (h1 : (vsort (versL (enF n P V R K Bk) p.data.toList)).length ≤ 1000000) (h2 : ∀ x ∈ vsort (versL (enF n P V R K Bk) p.data.toList), x.length ≤ 1000000) => qNamed_in ks A hks.2.2.1 a n cap P V R K Bk Rv Kv p q now B v _ W hn hnow hBW (fun W' hW' => hE1 W' (hb.trans (hW'.mono hBB))) (fun W' hW' => H.out W' (hb.trans (hW'.mono hBB))) hF h1 h2)
  have hsz := versL_size (p := p.data.toList) hs
  have hvl : (vsort (versL (enF n P V R K Bk) p.data.toList)).length ≤ 1000000 := Nat.le_trans (vsort_len _) hsz.1
  have hvz : ∀ x ∈ vsort (versL (enF n P V R K Bk) p.data.toList), x.length ≤ 1000000 := fun x hx => hsz.2 x ((vsort_mem _ _).1 hx).1
  have hPE : pickErr (enF n P V R K Bk) p.data.toList q.data.toList now.data.toList = if qErr q.data.toList ≠ 0 then (qErr q.data.toList, -1) else orE (idxErr (enF n P V R K Bk)) (if (pickF (enF n P V R K Bk) p.data.toList q.data.toList now.data.toList).isNone then (5, -1) else (0, -1)) := rfl
  have hPS : pickS (enF n P V R K Bk) p.data.toList q.data.toList now.data.toList = if (pickErr (enF n P V R K Bk) p.data.toList q.data.toList now.data.toList).1 = 0 then (pickF (enF n P V R K Bk) p.data.toList q.data.toList now.data.toList).getD [] else [] := rfl
  have hPF : pickF (enF n P V R K Bk) p.data.toList q.data.toList now.data.toList = namedF (enF n P V R K Bk) p.data.toList q.data.toList now.data.toList (vsort (versL (enF n P V R K Bk) p.data.toList)) := by
    unfold pickF
    rw [if_pos hqw]
  generalize pickErr (enF n P V R K Bk) p.data.toList q.data.toList now.data.toList = PE at hPE hPS ⊢
  generalize pickS (enF n P V R K Bk) p.data.toList q.data.toList now.data.toList = PS at hPS ⊢
  generalize pickF (enF n P V R K Bk) p.data.toList q.data.toList now.data.toList = PF at hPE hPS hPF
  rw [hqw] at hwo
  have HPE := Lib.hid hPE
  have HPS := Lib.hid hPS
  have HPF := Lib.hid hPF
  have HVL := Lib.hid (And.intro hvl hvz)
  replace hqc := Lib.hid hqc
  replace hic := Lib.hid hic
  replace hvs := Lib.hid hvs
  replace hwo := Lib.hid hwo
  clear hE h hs hsz hvl hvz hPE hPS hPF hqw hE1
  go_enter Tryz.func33, Tryz.ntmps33
  go_wp2_with fail
  generalize w.alloc (.cells #[.string q] 9) = w0 at *
  refine (hqc.out _ hb0).mono ?_
  rintro e w1 ⟨rfl, hb⟩
  have hB := below_step hb0 hb
  replace z0 := Below.cell_some hb z0
  clear hb hb0 hqc
  by_cases hq0 : qErr q.data.toList = 0
  · rw [hq0, errV_zero]
    have HPE1 : Hid (PE = orE (idxErr (enF n P V R K Bk)) (if PF.isNone then (5, -1) else (0, -1))) := Lib.hid (by rw [HPE.out, if_neg (by simp [hq0])])
    clear HPE
    go_wp2_with fail
    refine (hic.out _ hB).mono ?_
    rintro e w2 ⟨⟨ev2, rfl, hf2⟩, hb⟩
    replace hB := below_step hB hb
    replace z0 := Below.cell_some hb z0
    clear hb hic
    rcases fault_form hf2 with ⟨h0, rfl⟩ | ⟨h0, ty, qq, rfl⟩
    · have HPE2 : Hid (PE = if PF.isNone then (5, -1) else (0, -1)) := Lib.hid (by rw [HPE1.out]; unfold orE; rw [if_neg (by simp [h0])])
      obtain ⟨EV, hEV⟩ : ∃ x, x = errV A (if PF.isNone then 5 else 0) := ⟨_, rfl⟩
      obtain ⟨SV, hSV⟩ : ∃ x : ByteArray, x = ⟨(PF.getD []).toArray⟩ := ⟨_, rfl⟩
      have HLV : Hid (likedV A PF = .tuple #[.string SV, EV]) := Lib.hid (by rw [likedV_is, hEV, hSV])
      have HFA : Hid (∀ W : World, FaultAt A W EV PE) := Lib.hid (fun W => by
        rw [HPE2.out, hEV]
        cases PF <;> exact FaultAt.bare)
      have HPV : Hid ((⟨PS.toArray⟩ : ByteArray) = SV) := Lib.hid (by
        rw [HPS.out, HPE2.out, hSV]
        cases PF <;> rfl)
      have HEV := Lib.hid (And.intro hEV hSV)
      clear hEV hSV
      have hw2 : w.heap.size < w2.heap.size := lt_of_cell z0
      clear hf2 h0 HPE1 HPE2 HPS
      go_wp2_with fail
      refine (hvs.out _ hB).mono ?_
      rintro e w3 ⟨⟨v3, rfl, hF3⟩, hb⟩
      have hz3 : w.heap.size < w3.heap.size := Nat.lt_of_lt_of_le (lt_of_cell z0) hb.size
      have hs3 : w2.heap.size ≤ w3.heap.size := hb.size
      replace hB := below_step hB hb
      replace z0 := Below.cell_some hb z0
      clear hb hvs
      go_wp2_with fail
      refine (hwo.out _).mono ?_
      rintro e w4 ⟨rfl, hb⟩
      replace hB := below_step hB hb
      replace z0 := Below.cell_some hb z0
      replace hF3 := hF3.below hb
      have hs4 : w3.heap.size ≤ w4.heap.size := hb.size
      have hnm := HNM.out w2.heap.size (by omega) v3 w4 hB (by omega) hF3 HVL.out.1 HVL.out.2
      rw [← HPF.out, HLV.out] at hnm
      have HW2 := Lib.hid (Nat.le_of_lt hw2)
      replace hnm := Lib.hid hnm
      clear hb hwo hF3 hs3 hs4 hz3 hw2
      go_wp2_with fail
      refine hnm.out.mono ?_
      rintro e w5 ⟨rfl, hb⟩
      replace hB := hB.trans (hb.mono HW2.out)
      clear hb hnm
      go_wp2_with fail
      go_ret2
      rw [HPV.out]
      exact ⟨⟨_, rfl, HFA.out _⟩, hB⟩
    · have HV := Lib.hid hf2
      have H0 := Lib.hid h0
      have HPE2 : Hid (PE = idxErr (enF n P V R K Bk)) := Lib.hid (by rw [HPE1.out]; unfold orE; rw [if_pos h0])
      have HPS2 : Hid (PS = []) := Lib.hid (by rw [HPS.out, HPE2.out, if_neg h0])
      clear hf2 h0
      go_wp2_with fail
      go_ret2
      rw [HPS2.out, HPE2.out]
      exact ⟨⟨_, rfl, HV.out⟩, hB⟩
  · have HPE2 : Hid (PE = (qErr q.data.toList, -1)) := Lib.hid (by rw [HPE.out, if_pos hq0])
    have HPS2 : Hid (PS = []) := Lib.hid (by rw [HPS.out, HPE2.out, if_neg hq0])
    have HFB : Hid (∀ W : World, FaultAt A W (errV A (qErr q.data.toList)) (qErr q.data.toList, -1)) := Lib.hid (fun W => FaultAt.bare)
    rw [errV_pos A hq0] at HFB
    rw [errV_pos A hq0]
    clear hq0
    go_wp2_with fail
    go_ret2
    rw [HPS2.out, HPE2.out]
    exact ⟨⟨_, rfl, HFB.out _⟩, hB⟩
theorem qPick_in (ks : List Nat) (A : Nat → Addr) (hks : IdxKs ks) (a : Option Addr) (n cap : Nat) (P V : Nat → ByteArray) (R : Nat → List Md) (K : Nat → List Str) (Bk : Nat → Bool) (Rv Kv : Nat → Value) (p q now : ByteArray) (w : World) (hE : EnvP ks A w) (h : EntsIn w a n cap P V R K Bk Rv Kv) (hs : ShortI (enF n P V R K Bk)) (hq : q.size ≤ 1000000) (hnow : now.size ≤ 1000000) :
    Calls Tryz.prog 33 #[.slice a n cap, .string p, .string q, .string now] w fun e w' => (∃ ev, e = .returned (.tuple #[.string ⟨(pickS (enF n P V R K Bk) p.data.toList q.data.toList now.data.toList).toArray⟩, ev]) ∧ FaultAt A w' ev (pickErr (enF n P V R K Bk) p.data.toList q.data.toList now.data.toList)) ∧ Below w.heap.size w w' := by
  cases hqw : qWord q.data.toList with
  | true => exact qPickW_in ks A hks a n cap P V R K Bk Rv Kv p q now w hE h hs hq hqw hnow
  | false => exact qPickN_in ks A hks a n cap P V R K Bk Rv Kv p q now w hE h hs hq hqw
end Go.Proofs.Pw
