/- Mp: walks and plain laws, joined: Mvs MvsUnder Built LongIdx LongMath SlDelF MvsJoin MvsParts MvsParts2 Env EnvP Open OpenE Law Facts. Conditions: at each theorem. -/
import Derived.Test.YtddodebbnelanaaGreatDoorMpc
import Derived.Test.YtddodebbnelanaaGreatDoorMpb
import Derived.Lib.SlKept
import Derived.Deep.LoopGhost
import Derived.Test.YtddodebbnelanaaGreatDoorMpa
import Derived.Stop.LaidErr
import Derived.LaidHandle
import Derived.SliceStrings
import Derived.Deep.Slices
import Derived.Deep.Fields
import Derived.ChangeArms
import Derived.ProofKit
import Derived.LaidMore
import Derived.Lay
import Derived.OpenShut
import Derived.SevenTiedAt
import Derived.Stop.Joined
import Derived.HandedShaped
import Derived.Test.YtddodebbnelanaaGreatDoorRows

/- mvs.Build. Conditions: texts of at most 1000000 bytes, lists of at most 1000000. -/
namespace Go.Proofs.Pw
open Go.RowKit
open Go.Lib hiding intOf

noncomputable def buildR (l : List En) (roots : List Md) : List Md := if (startErr l roots).1 = 0 then buildL l roots else []
theorem build_of {l : List En} {roots : List Md} : greatest (reachR l roots) = buildR l roots := by
  unfold reachR buildR
  by_cases h0 : (startErr l roots).1 = 0
  · rw [if_pos h0, if_pos h0]; rfl
  · rw [if_neg h0, if_neg h0]; rfl
theorem build_len {l : List En} {roots : List Md} (h : RightG l roots) : (buildL l roots).length ≤ 100 := by
  have h1 : (buildL l roots).length ≤ (reachL l roots).length := List.Nodup.length_le_of_subset (by
    have := h.great.rises
    unfold Rises at this
    exact this.imp fun {x y} h e => by subst e; rw [modCmp_ord.self] at h; omega) (fun m hm => h.great.sub m hm)
  have h2 : (reachL l roots).length ≤ l.length := by
    unfold reachL
    exact Nat.le_trans (List.length_filter_le _ _) (by rw [List.length_map]; exact Nat.le_refl _)
  have := h.idx.len
  omega
/-- mvs.Build -/
theorem mvsBuild_in (ks : List Nat) (A : Nat → Addr) (hks : IdxKs ks) (a : Option Addr) (n cap : Nat) (P V : Nat → ByteArray) (R : Nat → List Md) (K : Nat → List Str) (Bk : Nat → Bool) (Rv Kv : Nat → Value) (rv : Value) (roots : List Md) (w : World) (hE : EnvP ks A w) (h : EntsIn w a n cap P V R K Bk Rv Kv) (hs : ShortI (enF n P V R K Bk)) (hr : ModsAt w rv roots) (hl : roots.length ≤ 100000) :
    Calls Tryz.prog 44 #[.slice a n cap, rv] w fun e w' => (∃ x ev, e = .returned (.tuple #[x, ev]) ∧ FaultAt A w' ev (startErr (enF n P V R K Bk) roots) ∧ ModsAt w' x (buildR (enF n P V R K Bk) roots)) ∧ Below w.heap.size w w' := by
  have hre := grReach_in ks A hks a n cap P V R K Bk Rv Kv rv roots w hE h hs hr hl
  obtain ⟨ar, rn, rc, _, _, rfl, _⟩ := id hr
  have hlen : (reachR (enF n P V R K Bk) roots).length ≤ 1000000 := by
    unfold reachR
    by_cases h0 : (startErr (enF n P V R K Bk) roots).1 = 0
    · rw [if_pos h0]
      have h2 : (reachL (enF n P V R K Bk) roots).length ≤ (enF n P V R K Bk).length := by
        unfold reachL
        exact Nat.le_trans (List.length_filter_le _ _) (by rw [List.length_map]; exact Nat.le_refl _)
      have := (rightG_of h0).idx.len
      omega
    · rw [if_neg h0]; decide
  have hbu := build_of (l := enF n P V R K Bk) (roots := roots)
  have hbe : (startErr (enF n P V R K Bk) roots).1 ≠ 0 → buildR (enF n P V R K Bk) roots = [] := fun h0 => by unfold buildR; rw [if_neg h0]
  generalize reachR (enF n P V R K Bk) roots = X at hre hlen hbu
  generalize buildR (enF n P V R K Bk) roots = Y at hbu hbe ⊢
  replace hre := Lib.hid hre
  clear h hs hr hE
  go_enter Tryz.func44, Tryz.ntmps44
  go_wp2_with fail
  refine hre.out.mono ?_
  rintro e w1 ⟨⟨x, ev, rfl, hf, hx⟩, hB⟩
  have hgr := greatest_calls x X w1 hx hlen
  obtain ⟨ax, nx, cx, _, _, rfl, _⟩ := id hx
  replace hgr := Lib.hid hgr
  clear hre hx hlen
  rcases fault_form hf with ⟨h0, rfl⟩ | ⟨h0, ty, q, rfl⟩
  · have HF := Lib.hid hf
    clear hf h0 hbe
    go_wp2_with fail
    refine hgr.out.mono ?_
    rintro e w2 ⟨⟨v2, L, rfl, hL, ho⟩, hb2⟩
    have hM := modsAt_own ho
    rw [hL, hbu] at hM
    have HM := Lib.hid hM
    clear hM ho hL
    go_wp2_with fail
    go_ret2
    exact ⟨⟨_, _, rfl, HF.out.below hb2, HM.out⟩, below_step hB hb2⟩
  · have HF := Lib.hid hf
    have HY := Lib.hid (hbe h0)
    clear hf h0 hbe hbu hgr
    go_wp2_with fail
    go_ret2
    refine ⟨⟨_, _, rfl, HF.out, ?_⟩, hB⟩
    rw [HY.out]
    exact ModsAt.nil _
end Go.Proofs.Pw

/- mvs.has, mvs.Under. Conditions: texts of at most 1000000000 bytes, lists of at most 1000000. -/
namespace Go.Proofs.Pw
open Go.RowKit
open Go.Lib hiding intOf

theorem hasB_no {sel : List Md} {m : Md} (h : findI (hasP m.1) sel < 0) : hasB sel m = false := by
  unfold hasB
  rw [decide_eq_false (by omega), Bool.false_and]
theorem hasB_at {sel : List Md} {m : Md} {k : Nat} (h : findI (hasP m.1) sel = k) : hasB sel m = !verLess (mdAt sel k).2 m.2 := by
  unfold hasB
  rw [h, decide_eq_true (by omega), Bool.true_and, show ((k : Nat) : Int).toNat = k from rfl]
set_option maxHeartbeats 1000000 in
set_option maxRecDepth 100000 in
theorem has_calls (ks : List Nat) (A : Nat → Addr) (v : Value) (l : List Md) (p q : ByteArray) (w : World) (hE : EnvP ks A w) (h : ModsAt w v l) (hl : l.length ≤ 1000000) (hs : ∀ m ∈ l, m.2.length ≤ 1000000000) (hq : q.size ≤ 1000000000) :
    Calls Tryz.prog 105 #[v, .agg #[.string p, .string q]] w fun e w' => e = .returned (.bool (hasB l (p.data.toList, q.data.toList))) ∧ Below w.heap.size w w' := by
  have hb := below_alloc w (.cells #[.string p, .string q] 26)
  have hz := box2_alloc w (.string p) (.string q) 26
  have hE1 := hE.below hb
  have hf := modFind_calls v l p (w.alloc (.cells #[.string p, .string q] 26)) (h.below hb) hl
  have hno := hasB_no (sel := l) (m := (p.data.toList, q.data.toList))
  have hat := fun k => hasB_at (sel := l) (m := (p.data.toList, q.data.toList)) (k := k)
  unfold hasP at hno hat
  simp only at hno hat
  have hsp := fun k => @findI_spec _ (fun m : Md => decide (m.1 = p.data.toList)) l k
  generalize findI (fun m : Md => decide (m.1 = p.data.toList)) l = x at hf hno hat hsp
  obtain ⟨a, n, cap, P, V, rfl, rfl, hnc, hcap, hc⟩ := h
  replace hf := Lib.hid hf
  by_cases hx : x < 0
  · have HR := Lib.hid (hno hx)
    clear hno hat hsp hc hs
    go_enter Tryz.func105, Tryz.ntmps105
    go_wp2_with fail
    refine hf.out.mono ?_
    rintro e w1 ⟨rfl, hb1⟩
    have hB := below_step hb hb1
    clear hb1 hb hf hz
    go_wp2_with fail
    have hx1 : decide (0 ≤ x) = false := decide_eq_false (by omega)
    have hx2 : decide (x ≥ 0) = false := decide_eq_false (by omega)
    refine wp_region_quiet_patch (by kernel_rfl) (by kernel_rfl) ?_
    repeat (go_big_quiet_step (fail))
    refine wpQuiet_nil ?_
    intro _ hw'
    obtain ⟨⟨dq, osq⟩, hw''⟩ := hw'
    subst hw''
    have hb := below_patch w1 dq osq
    replace hB := below_step hB hb
    clear hb
    generalize patch w1 dq osq = w2 at hB ⊢
    clear hx1 hx2
    go_wp2_with fail
    go_ret
    rw [HR.out]
    exact ⟨rfl, hB⟩
  · obtain ⟨k, rfl⟩ : ∃ k : Nat, x = k := ⟨x.toNat, by omega⟩
    obtain ⟨y, hy, hp⟩ := hsp k rfl
    have hkn : k < n := by have := (List.getElem?_eq_some_iff.1 hy).1; rwa [mdF_length] at this
    have hkz : (k : Int) < (n : Int) := by omega
    obtain ⟨b1, o1, rfl, c0, c1⟩ := hc k hkn
    have hR := hat k rfl
    rw [mdAt_mdF hkn] at hR
    have hVs := hs _ (List.mem_of_getElem? (mdF_get n P V k hkn))
    have hless := fun W hW => verLess_calls ks A (V k) q W hW (by rw [size_eq]; exact hVs) hq
    have HR := Lib.hid hR
    generalize verLess (V k).data.toList q.data.toList = D at hless HR
    replace hless := Lib.hid hless
    have hB := hb
    have d0 := Below.cell_some hb c0
    have d1 := Below.cell_some hb c1
    obtain ⟨y0, y1, _⟩ := hz
    clear hno hat hsp hc hs hR hVs hy hp c0 c1 hb hE
    go_enter Tryz.func105, Tryz.ntmps105
    go_wp2_with fail
    refine (hf.out).mono ?_
    rintro e w1 ⟨rfl, hb⟩
    replace hB := below_step hB hb
    replace hE1 := hE1.below hb
    replace d0 := Below.cell_some hb d0
    replace d1 := Below.cell_some hb d1
    replace y0 := Below.cell_some hb y0
    replace y1 := Below.cell_some hb y1
    clear hb
    go_wp2_with fail
    have hx1 : decide (0 ≤ (k : Int)) = true := decide_eq_true (by omega)
    have hx2 : decide ((k : Int) ≥ 0) = true := decide_eq_true (by omega)
    have kE := Lib.hid (fun d os => hE1.below (below_patch w1 d os))
    have kqd1 := fun d os => cell_patch (d := d) (os := os) d1
    have kqy1 := fun d os => cell_patch (d := d) (os := os) y1
    refine wp_region_quiet_patch (by kernel_rfl) (by kernel_rfl) ?_
    repeat (go_big_quiet_step ((go_at_call 117; exact Calls.patch_of (hless.out _ (kE.out _ _)))))
    refine wpQuiet_nil ?_
    intro _ hw'
    obtain ⟨⟨dq, osq⟩, hw''⟩ := hw'
    subst hw''
    clear kqd1 kqy1
    have hb := below_patch w1 dq osq
    replace hB := below_step hB hb
    clear hb
    generalize patch w1 dq osq = w2 at hB ⊢
    go_wp2_with fail
    go_ret
    rw [HR.out]
    exact ⟨rfl, hB⟩

theorem Tryz.enters_under1 : ∀ args w, (callFunc 104 args).run Tryz.prog w = .ok (.enter 104 args) w := Go.Proofs.enters_of Tryz.func104 (by kernel_rfl) rfl
theorem under1_calls (ks : List Nat) (A : Nat → Addr) (v : Value) (l : List Md) (p q : ByteArray) (b : Nat) (w : World) (hE : EnvP ks A w) (h : ModsAt w v l) (hl : l.length ≤ 1000000) (hs : ∀ m ∈ l, m.2.length ≤ 1000000000) (hq : q.size ≤ 1000000000) (hc : w.cell? ⟨b, 0, none⟩ = some v) :
    Calls Tryz.prog 104 #[.agg #[.string p, .string q], .pointer (some ⟨b, 0, none⟩)] w fun e w' => e = .returned (.bool (!hasB l (p.data.toList, q.data.toList))) ∧ Below w.heap.size w w' := by
  have hb := below_alloc w (.cells #[.string p, .string q] 26)
  have c0 := Below.cell_some hb hc
  obtain ⟨y0, y1, _⟩ := box2_alloc w (.string p) (.string q) 26
  have hh := has_calls ks A v l p q (w.alloc (.cells #[.string p, .string q] 26)) (hE.below hb) (h.below hb) hl hs hq
  have hh0 := has_calls ks A v l p q w hE h hl hs hq
  obtain ⟨a, n, cap, _, _, rfl, _⟩ := id h
  generalize hasB l (p.data.toList, q.data.toList) = D at hh hh0 ⊢
  have hb0 := Below.refl w.heap.size w
  replace hh := Lib.hid hh
  replace hh0 := Lib.hid hh0
  clear h hs
  go_enter Tryz.func104, Tryz.ntmps104
  go_wp2_with fail
  first
  | (refine hh.out.mono ?_
     rintro e w1 ⟨rfl, hb1⟩
     go_wp2_with fail
     go_ret
     exact ⟨rfl, below_step hb hb1⟩)
  | (refine hh0.out.mono ?_
     rintro e w1 ⟨rfl, hb1⟩
     go_wp2_with fail
     go_ret
     exact ⟨rfl, below_step hb0 hb1⟩)
set_option maxHeartbeats 1000000 in
set_option maxRecDepth 100000 in
/-- mvs.Under -/
theorem mvsUnder_calls (ks : List Nat) (A : Nat → Addr) (va vb : Value) (la lb : List Md) (w : World) (hE : EnvP ks A w) (ha : ModsAt w va la) (hb0 : ModsAt w vb lb) (hla : la.length ≤ 1000000) (hlb : lb.length ≤ 1000000) (hsa : ∀ m ∈ la, m.2.length ≤ 1000000000) (hsb : ∀ m ∈ lb, m.2.length ≤ 1000000000) :
    Calls Tryz.prog 43 #[va, vb] w fun e w' => e = .returned (.bool (underB la lb)) ∧ Below w.heap.size w w' := by
  obtain ⟨a2, n2, cap2, _, _, rfl, _⟩ := id hb0
  obtain ⟨a, n, cap, P, V, rfl, rfl, hnc, hcap, hc⟩ := ha
  rw [mdF_length] at hla
  have hb := below_alloc w (.cells #[.slice a2 n2 cap2] 22)
  have hcs : (w.alloc (.cells #[.slice a2 n2 cap2] 22)).cell? ⟨w.heap.size, 0, none⟩ = some (.slice a2 n2 cap2) := by simp
  have hi := containsMf_calls 104 #[.pointer (some ⟨w.heap.size, 0, none⟩)] Tryz.enters_under1 (fun m => !hasB lb m) a n cap (w.alloc (.cells #[.slice a2 n2 cap2] 22)).heap.size P V (w.alloc (.cells #[.slice a2 n2 cap2] 22)) hla (Nat.le_refl _)
    (fun j hj => let ⟨b, o, e, h1, h2⟩ := hc j hj; ⟨b, o, e, Below.cell_some hb h1, Below.cell_some hb h2⟩)
    (fun W hW j hj => under1_calls ks A (.slice a2 n2 cap2) lb (P j) (V j) w.heap.size W (hE.below (below_step hb hW)) (hb0.below (below_step hb hW)) hlb hsb (by rw [size_eq]; exact hsa _ (List.mem_of_getElem? (mdF_get n P V j hj))) (Below.cell_some hW hcs))
  have hany : (mdF n P V).any (fun m => !hasB lb m) = !underB (mdF n P V) lb := by
    unfold underB
    rw [List.not_all_eq_any_not]
  rw [hany] at hi
  generalize underB (mdF n P V) lb = D at hi ⊢
  replace hi := Lib.hid hi
  clear hc hcs hb0 hsa hsb hany
  go_enter Tryz.func43, Tryz.ntmps43
  go_wp2_with fail
  refine hi.out.mono ?_
  rintro e w1 ⟨rfl, hb1⟩
  go_wp2_with fail
  go_ret
  exact ⟨rfl, below_step hb hb1⟩
end Go.Proofs.Pw

/- built of the statements: a closed fact; slices of slices of modules. -/
namespace Go.Proofs.Pw
open Go.RowKit
open Go.Lib hiding intOf

theorem ModsAt.take {w : World} {a : Option Addr} {n cap k : Nat} {l : List Md} (h : ModsAt w (.slice a n cap) l) (hk : k ≤ n) : ModsAt w (.slice a k cap) (l.take k) := by
  obtain ⟨a', n', cap', P, V, e, rfl, h3, h4, h5⟩ := h
  injection e with e1 e2 e3
  subst e1 e2 e3
  refine ⟨a, k, cap, P, V, rfl, ?_, by omega, h4, fun j hj => h5 j (by omega)⟩
  unfold mdF
  rw [← List.map_take, List.take_range, Nat.min_eq_left hk]

def smRoots2 : List Md := [(sA.data.toList, v100.data.toList), (sA.data.toList, v110.data.toList)]
theorem sm_err2 : startErr smL smRoots2 = (0, -1) := by decide +kernel
theorem sm_right2 : RightG smL smRoots2 := rightG_of (by rw [sm_err2])
theorem sm_build : buildR smL smRoots2 = smX := by
  unfold buildR
  rw [if_pos (by rw [sm_err2])]
  refine rises_ext modCmp_ord sm_right2.great.rises sm_rises fun m => ?_
  rw [build_mem sm_right2]
  have hT : ∀ x, Reached smL smRoots2 x → x ∈ [(sA.data.toList, v100.data.toList), (sA.data.toList, v110.data.toList), (sB.data.toList, v010.data.toList)] := fun x hx => reached_closed (by decide +kernel) (by decide +kernel) hx
  have r110 : Reached smL smRoots2 (sA.data.toList, v110.data.toList) := .root (by decide +kernel)
  have hm : (enAt smL 1) ∈ smL := enAt_mem (by decide +kernel)
  have r010 : Reached smL smRoots2 (sB.data.toList, v010.data.toList) := .step (e := enAt smL 1) hm r110 (by decide +kernel)
  constructor
  · rintro ⟨h1, h2⟩
    have h3 := hT m h1
    simp only [List.mem_cons, List.mem_nil_iff, or_false] at h3
    rcases h3 with rfl | rfl | rfl
    · exact absurd (h2 _ r110 rfl) (by decide +kernel)
    · simp [smX]
    · simp [smX]
  · intro h
    simp only [smX, List.mem_cons, List.mem_nil_iff, or_false] at h
    rcases h with rfl | rfl
    · refine ⟨r110, fun x hx e => ?_⟩
      have h3 := hT x hx
      simp only [List.mem_cons, List.mem_nil_iff, or_false] at h3
      rcases h3 with rfl | rfl | rfl
      · decide +kernel
      · decide +kernel
      · exact absurd e (by decide +kernel)
    · refine ⟨r010, fun x hx e => ?_⟩
      have h3 := hT x hx
      simp only [List.mem_cons, List.mem_nil_iff, or_false] at h3
      rcases h3 with rfl | rfl | rfl
      · exact absurd e (by decide +kernel)
      · exact absurd e (by decide +kernel)
      · decide +kernel

set_option maxHeartbeats 2000000 in
set_option maxRecDepth 100000 in
theorem built_calls (ks : List Nat) (A : Nat → Addr) (hks : IdxKs ks) (w : World) (hE : EnvP ks A w) :
    Calls Tryz.prog 40 #[] w fun e w' => e = .returned (.bool true) ∧ Below w.heap.size w w' := by
  have hsm := small_calls w
  have hB := smW_below w
  have hb := below_alloc (smW w) (.cells #[.string sA, .string v100, .string sA, .string v110] 26)
  have hB2 := below_step hB hb
  have hmods : ModsAt ((smW w).alloc (.cells #[.string sA, .string v100, .string sA, .string v110] 26)) (.slice (some ⟨(smW w).heap.size, 0, none⟩) 2 2) smRoots2 := by
    refine ⟨_, 2, 2, fun _ => sA, fun j => if j = 0 then v100 else v110, rfl, rfl, Nat.le_refl _, by decide, fun i hi => ?_⟩
    have hc : ∀ (c : Nat) (u : Value), ([.string sA, .string v100, .string sA, .string v110] : List Value)[c]? = some u → ((smW w).alloc (.cells #[.string sA, .string v100, .string sA, .string v110] 26)).cell? ⟨(smW w).heap.size, c, none⟩ = some u := fun c u h => new_cell _ _ _ rfl h
    match i, hi with
    | 0, _ => exact ⟨_, 0, rfl, hc _ _ rfl, hc _ _ rfl⟩
    | 1, _ => exact ⟨_, 0, rfl, hc _ _ rfl, hc _ _ rfl⟩
  have hre := mvsBuild_in ks A hks (some ⟨w.heap.size + 1, 0, none⟩) 3 3 smP smV smR smK smB (smRv w.heap.size) (fun _ => .slice none 0 0) (.slice (some ⟨(smW w).heap.size, 0, none⟩) 2 2) smRoots2 ((smW w).alloc (.cells #[.string sA, .string v100, .string sA, .string v110] 26)) (hE.below hB2) ((smW_in w).below hb) sm_short hmods (by decide)
  rw [show enF 3 smP smV smR smK smB = smL from rfl, sm_err2, sm_build] at hre
  generalize smW w = w1 at *
  unfold sA v100 v110 at hre hB2
  have HE := Lib.hid hE
  replace hsm := Lib.hid hsm
  replace hre := Lib.hid hre
  clear hB hb hmods hE
  go_enter Tryz.func40, Tryz.ntmps40
  go_wp2_with fail
  refine hsm.out.mono ?_
  rintro e w' ⟨rfl, rfl⟩
  go_wp2_with fail
  refine hre.out.mono ?_
  rintro e w3 ⟨⟨x, ev, rfl, hf, hx⟩, hb3⟩
  have hev : ev = .nilIface := by
    rcases hf with ⟨_, _, h⟩ | ⟨h, _⟩ | ⟨h, _⟩
    · exact h
    · exact absurd rfl h
    · exact absurd rfl h
  subst hev
  obtain ⟨b0, o0, c0, e0, _, d0, d1⟩ := hx.cell (k := 0) (p := sA) (q := v110) rfl
  have hB3 := below_step hB2 hb3
  subst e0
  have hcap : 2 ≤ c0 := by
    obtain ⟨_, _, _, _, _, e, _, h3, _⟩ := hx
    injection e with _ e2 e3
    have : smX.length = 2 := rfl
    omega
  have hun := mvsUnder_calls ks A (.slice (some ⟨b0, o0, none⟩) 1 c0) (.slice (some ⟨b0, o0, none⟩) 2 c0) (smX.take 1) smX w3 (HE.out.below hB3) (hx.take (k := 1) (by decide)) hx (by decide) (by decide) (by decide +kernel) (by decide +kernel)
  rw [show underB (smX.take 1) smX = true by decide +kernel] at hun
  unfold v110 at d1
  simp only [Nat.zero_mul, Nat.add_zero, show smX.length = 2 from rfl] at d0 d1 hx ⊢
  replace hun := Lib.hid hun
  clear hf hx hre hsm hB2 hb3
  go_wp2_with fail
  refine hun.out.mono ?_
  rintro e w4 ⟨rfl, hb4⟩
  go_wp2_with fail
  go_ret
  exact ⟨rfl, below_step hB3 hb4⟩
end Go.Proofs.Pw

/- LongIndex of the statements. -/
namespace Go.Proofs.Pw
open Go.RowKit
open Go.Lib hiding intOf

def longEn (e : En) : Bool := decide (70 < e.md.1.length) || (decide (60 < e.md.2.length) || (longMods e.reqs 25 || (decide (15 < e.packs.length) || e.packs.any fun s => decide (70 < s.length))))
def longIdx (l : List En) : Bool := decide (30 < l.length ∧ l.length ≠ 101) || l.any longEn
def longII (l : List En) : Int := if longIdx l = true then 1 else 0
theorem longIdx_hit {l : List En} {k : Nat} (hk : k < l.length) (h : longEn (enAt l k) = true) : longII l = 1 := by
  unfold longII longIdx
  rw [if_pos]
  rw [Bool.or_eq_true]
  exact .inr (List.any_eq_true.2 ⟨_, enAt_mem hk, h⟩)
theorem longIdx_none {l : List En} (h0 : ¬ (30 < l.length ∧ l.length ≠ 101)) (h : ∀ j, j < l.length → longEn (enAt l j) = false) : longII l = 0 := by
  unfold longII longIdx
  rw [if_neg]
  rw [Bool.or_eq_true]
  rintro (h1 | h1)
  · exact h0 (of_decide_eq_true h1)
  · obtain ⟨e, he, h2⟩ := List.any_eq_true.1 h1
    obtain ⟨i, hi⟩ := List.getElem?_of_mem he
    have hl := (List.getElem?_eq_some_iff.1 hi).1
    rw [enAt_get hl] at hi
    rw [← Option.some.inj hi, h i hl] at h2
    cases h2


set_option maxHeartbeats 4000000 in
set_option maxRecDepth 100000 in
theorem longIndex_in (a : Option Addr) (n cap : Nat) (P V : Nat → ByteArray) (R : Nat → List Md) (K : Nat → List Str) (Bk : Nat → Bool) (Rv Kv : Nat → Value) (w : World) (h : EntsIn w a n cap P V R K Bk Rv Kv) :
    Calls Tryz.prog 29 #[.slice a n cap] w fun e w' => e = .returned (.int .i64 (longII (enF n P V R K Bk))) ∧ w = w' := by
  have hcap := h.cap
  have hle := h.le
  have H := Lib.hid h
  clear h
  by_cases h30 : 30 < n ∧ n ≠ 101
  · have HF : Hid (longII (enF n P V R K Bk) = 1) := Lib.hid (by
      unfold longII longIdx
      rw [if_pos]
      rw [Bool.or_eq_true, enF_length]
      exact .inl (decide_eq_true h30))
    have h1 : (30 : Int) < (n : Int) := by omega
    have h2 : ((n : Int) != 101) = true := bne_iff_ne.2 (by omega)
    have h3 : ((n : Int) == 101) = false := beq_eq_false_iff_ne.2 (by omega)
    clear h30
    go_enter Tryz.func29, Tryz.ntmps29
    go_wp2_with fail
    go_ret
    rw [HF.out]
    exact ⟨rfl, rfl⟩
  · have hn101 : n ≤ 101 := by omega
    by_cases h31 : n = 101
    · have h1 : (30 : Int) < (n : Int) := by omega
      have h2 : ((n : Int) != 101) = false := by subst h31; rfl
      have h3 : ((n : Int) == 101) = true := by subst h31; rfl
      clear h31
      go_enter Tryz.func29, Tryz.ntmps29
      go_wp2_with fail
      go_loop [3] (fun i => ∃ k : Nat, k ≤ n ∧ i = .int .i64 k ∧ Hid (∀ j, j < k → longEn (enAt (enF n P V R K Bk) j) = false)) (fun i => n - (intOf i).toNat)
      case atStart => exact ⟨0, Nat.zero_le _, rfl, Lib.hid (fun j hj => absurd hj (Nat.not_lt_zero _))⟩
      case round =>
        obtain ⟨k, hk, rfl, HA⟩ := hrel
        by_cases hlt : k < n
        · have hkn : (k : Int) < (n : Int) := by omega
          obtain ⟨b1, o1, ea, hcell⟩ := H.out.at_ k hlt
          have hM := H.out.reqs k hlt
          obtain ⟨aK, nK, cK, LK, eK, eKl, _, _, hKc⟩ := H.out.packs k hlt
          obtain ⟨aM, nM, cM, _, _, eM, _⟩ := id hM
          rw [eM, eK] at hcell
          rw [eM] at hM
          have hlm := longMods_calls (.slice aM nM cM) (R k) 25 w hM
          have hEn : longEn (enAt (enF n P V R K Bk) k) = (decide (70 < (P k).size) || (decide (60 < (V k).size) || (longMods (R k) 25 || (decide (15 < nK) || (lstF nK LK).any fun s => decide (70 < s.length))))) := by
            rw [enAt_enF hlt]
            unfold longEn
            simp only [← size_eq, eKl, lstF_length]
          have hhit : longEn (enAt (enF n P V R K Bk) k) = true → longII (enF n P V R K Bk) = 1 := longIdx_hit (by rw [enF_length]; exact hlt)
          subst ea
          obtain ⟨d0, d1, d2, d3, d4⟩ := hcell
          replace hhit := Lib.hid hhit
          replace hEn := Lib.hid hEn
          replace hlm := Lib.hid hlm
          replace hKc := Lib.hid hKc
          clear hM eM eK eKl
          by_cases c1 : 70 < (P k).size
          · have HF : Hid (longII (enF n P V R K Bk) = 1) := Lib.hid (hhit.out (by rw [hEn.out, decide_eq_true c1]; rfl))
            have c1' : (70 : Int) < ((P k).size : Int) := by omega
            go_wp2_with fail
            go_ret
            rw [HF.out]
            exact ⟨rfl, rfl⟩
          · have c1' : ¬ (70 : Int) < ((P k).size : Int) := by omega
            by_cases c2 : 60 < (V k).size
            · have HF : Hid (longII (enF n P V R K Bk) = 1) := Lib.hid (hhit.out (by rw [hEn.out, decide_eq_false c1, decide_eq_true c2]; rfl))
              have c2' : (60 : Int) < ((V k).size : Int) := by omega
              go_wp2_with fail
              go_ret
              rw [HF.out]
              exact ⟨rfl, rfl⟩
            · have c2' : ¬ (60 : Int) < ((V k).size : Int) := by omega
              cases c3 : longMods (R k) 25 with
              | true =>
                have HF : Hid (longII (enF n P V R K Bk) = 1) := Lib.hid (hhit.out (by rw [hEn.out, decide_eq_false c1, decide_eq_false c2, c3]; rfl))
                rw [longI_yes c3] at hlm
                clear c3
                go_wp2_with fail
                refine hlm.out.mono ?_
                rintro e w' ⟨rfl, rfl⟩
                go_wp2_with fail
                go_ret
                rw [HF.out]
                exact ⟨rfl, rfl⟩
              | false =>
                rw [longI_no c3] at hlm
                by_cases c4 : 15 < nK
                · have HF : Hid (longII (enF n P V R K Bk) = 1) := Lib.hid (hhit.out (by rw [hEn.out, decide_eq_false c1, decide_eq_false c2, c3, decide_eq_true c4]; rfl))
                  have c4' : (15 : Int) < (nK : Int) := by omega
                  clear c3
                  go_wp2_with fail
                  refine hlm.out.mono ?_
                  rintro e w' ⟨rfl, rfl⟩
                  go_wp2_with fail
                  go_ret
                  rw [HF.out]
                  exact ⟨rfl, rfl⟩
                · have c4' : ¬ (15 : Int) < (nK : Int) := by omega
                  have HE2 : Hid (longEn (enAt (enF n P V R K Bk) k) = (lstF nK LK).any fun s => decide (70 < s.length)) := Lib.hid (by rw [hEn.out, decide_eq_false c1, decide_eq_false c2, c3, decide_eq_false c4]; rfl)
                  clear c3
                  go_wp2_with fail
                  refine hlm.out.mono ?_
                  rintro e w' ⟨rfl, rfl⟩
                  go_wp2_with fail
                  go_loop [4] (fun i => ∃ q : Nat, q ≤ nK ∧ i = .int .i64 q ∧ Hid (∀ j, j < q → ¬ 70 < (LK j).size)) (fun i => nK - (intOf i).toNat)
                  case atStart => exact ⟨0, Nat.zero_le _, rfl, Lib.hid (fun j hj => absurd hj (Nat.not_lt_zero _))⟩
                  case round =>
                    obtain ⟨q, hq, rfl, HA2⟩ := hrel
                    by_cases hq2 : q < nK
                    · have hqn : (q : Int) < (nK : Int) := by omega
                      obtain ⟨b2, o2, ek, r0⟩ := hKc.out q hq2
                      subst ek
                      by_cases c5 : 70 < (LK q).size
                      · have HF : Hid (longII (enF n P V R K Bk) = 1) := Lib.hid (hhit.out (by
                          rw [HE2.out, List.any_eq_true]
                          refine ⟨_, List.mem_of_getElem? (show (lstF nK LK)[q]? = some (LK q).data.toList by simp [lstF, hq2]), ?_⟩
                          rw [← size_eq]; exact decide_eq_true c5))
                        have c5' : (70 : Int) < ((LK q).size : Int) := by omega
                        go_wp2_with fail
                        go_ret
                        rw [HF.out]
                        exact ⟨rfl, rfl⟩
                      · have c5' : ¬ (70 : Int) < ((LK q).size : Int) := by omega
                        have HN : Hid (∀ j, j < q + 1 → ¬ 70 < (LK j).size) := Lib.hid (fun j hj => by
                          by_cases e : j = q
                          · subst e; exact c5
                          · exact HA2.out j (by omega))
                        go_wp2_with fail
                        go_round
                        case rel => exact ⟨q + 1, by omega, by go_num, HN⟩
                        case measure => simp [intOf]; omega
                    · obtain rfl : nK = q := by omega
                      have HN : Hid (∀ j, j < k + 1 → longEn (enAt (enF n P V R K Bk) j) = false) := Lib.hid (fun j hj => by
                        by_cases e : j = k
                        · subst e
                          rw [HE2.out, List.any_eq_false]
                          intro s hs
                          obtain ⟨i, hi⟩ := List.getElem?_of_mem hs
                          have hil : i < nK := by have := (List.getElem?_eq_some_iff.1 hi).1; simpa [lstF] using this
                          have : (lstF nK LK)[i]? = some (LK i).data.toList := by simp [lstF, hil]
                          rw [this] at hi
                          rw [← Option.some.inj hi, ← size_eq]
                          have := HA2.out i hil
                          simpa using this
                        · exact HA.out j (by omega))
                      go_wp2_with fail
                      go_round
                      case rel => exact ⟨k + 1, by omega, by go_num, HN⟩
                      case measure => simp [intOf]; omega
        · obtain rfl : n = k := by omega
          have HF : Hid (longII (enF n P V R K Bk) = 0) := Lib.hid (longIdx_none (by rw [enF_length]; exact h30) (by rw [enF_length]; exact HA.out))
          go_wp2_with fail
          go_ret
          rw [HF.out]
          exact ⟨rfl, rfl⟩
    · have h1 : ¬ (30 : Int) < (n : Int) := by omega
      clear h31
      go_enter Tryz.func29, Tryz.ntmps29
      go_wp2_with fail
      go_loop [3] (fun i => ∃ k : Nat, k ≤ n ∧ i = .int .i64 k ∧ Hid (∀ j, j < k → longEn (enAt (enF n P V R K Bk) j) = false)) (fun i => n - (intOf i).toNat)
      case atStart => exact ⟨0, Nat.zero_le _, rfl, Lib.hid (fun j hj => absurd hj (Nat.not_lt_zero _))⟩
      case round =>
        obtain ⟨k, hk, rfl, HA⟩ := hrel
        by_cases hlt : k < n
        · have hkn : (k : Int) < (n : Int) := by omega
          obtain ⟨b1, o1, ea, hcell⟩ := H.out.at_ k hlt
          have hM := H.out.reqs k hlt
          obtain ⟨aK, nK, cK, LK, eK, eKl, _, _, hKc⟩ := H.out.packs k hlt
          obtain ⟨aM, nM, cM, _, _, eM, _⟩ := id hM
          rw [eM, eK] at hcell
          rw [eM] at hM
          have hlm := longMods_calls (.slice aM nM cM) (R k) 25 w hM
          have hEn : longEn (enAt (enF n P V R K Bk) k) = (decide (70 < (P k).size) || (decide (60 < (V k).size) || (longMods (R k) 25 || (decide (15 < nK) || (lstF nK LK).any fun s => decide (70 < s.length))))) := by
            rw [enAt_enF hlt]
            unfold longEn
            simp only [← size_eq, eKl, lstF_length]
          have hhit : longEn (enAt (enF n P V R K Bk) k) = true → longII (enF n P V R K Bk) = 1 := longIdx_hit (by rw [enF_length]; exact hlt)
          subst ea
          obtain ⟨d0, d1, d2, d3, d4⟩ := hcell
          replace hhit := Lib.hid hhit
          replace hEn := Lib.hid hEn
          replace hlm := Lib.hid hlm
          replace hKc := Lib.hid hKc
          clear hM eM eK eKl
          by_cases c1 : 70 < (P k).size
          · have HF : Hid (longII (enF n P V R K Bk) = 1) := Lib.hid (hhit.out (by rw [hEn.out, decide_eq_true c1]; rfl))
            have c1' : (70 : Int) < ((P k).size : Int) := by omega
            go_wp2_with fail
            go_ret
            rw [HF.out]
            exact ⟨rfl, rfl⟩
          · have c1' : ¬ (70 : Int) < ((P k).size : Int) := by omega
            by_cases c2 : 60 < (V k).size
            · have HF : Hid (longII (enF n P V R K Bk) = 1) := Lib.hid (hhit.out (by rw [hEn.out, decide_eq_false c1, decide_eq_true c2]; rfl))
              have c2' : (60 : Int) < ((V k).size : Int) := by omega
              go_wp2_with fail
              go_ret
              rw [HF.out]
              exact ⟨rfl, rfl⟩
            · have c2' : ¬ (60 : Int) < ((V k).size : Int) := by omega
              cases c3 : longMods (R k) 25 with
              | true =>
                have HF : Hid (longII (enF n P V R K Bk) = 1) := Lib.hid (hhit.out (by rw [hEn.out, decide_eq_false c1, decide_eq_false c2, c3]; rfl))
                rw [longI_yes c3] at hlm
                clear c3
                go_wp2_with fail
                refine hlm.out.mono ?_
                rintro e w' ⟨rfl, rfl⟩
                go_wp2_with fail
                go_ret
                rw [HF.out]
                exact ⟨rfl, rfl⟩
              | false =>
                rw [longI_no c3] at hlm
                by_cases c4 : 15 < nK
                · have HF : Hid (longII (enF n P V R K Bk) = 1) := Lib.hid (hhit.out (by rw [hEn.out, decide_eq_false c1, decide_eq_false c2, c3, decide_eq_true c4]; rfl))
                  have c4' : (15 : Int) < (nK : Int) := by omega
                  clear c3
                  go_wp2_with fail
                  refine hlm.out.mono ?_
                  rintro e w' ⟨rfl, rfl⟩
                  go_wp2_with fail
                  go_ret
                  rw [HF.out]
                  exact ⟨rfl, rfl⟩
                · have c4' : ¬ (15 : Int) < (nK : Int) := by omega
                  have HE2 : Hid (longEn (enAt (enF n P V R K Bk) k) = (lstF nK LK).any fun s => decide (70 < s.length)) := Lib.hid (by rw [hEn.out, decide_eq_false c1, decide_eq_false c2, c3, decide_eq_false c4]; rfl)
                  clear c3
                  go_wp2_with fail
                  refine hlm.out.mono ?_
                  rintro e w' ⟨rfl, rfl⟩
                  go_wp2_with fail
                  go_loop [4] (fun i => ∃ q : Nat, q ≤ nK ∧ i = .int .i64 q ∧ Hid (∀ j, j < q → ¬ 70 < (LK j).size)) (fun i => nK - (intOf i).toNat)
                  case atStart => exact ⟨0, Nat.zero_le _, rfl, Lib.hid (fun j hj => absurd hj (Nat.not_lt_zero _))⟩
                  case round =>
                    obtain ⟨q, hq, rfl, HA2⟩ := hrel
                    by_cases hq2 : q < nK
                    · have hqn : (q : Int) < (nK : Int) := by omega
                      obtain ⟨b2, o2, ek, r0⟩ := hKc.out q hq2
                      subst ek
                      by_cases c5 : 70 < (LK q).size
                      · have HF : Hid (longII (enF n P V R K Bk) = 1) := Lib.hid (hhit.out (by
                          rw [HE2.out, List.any_eq_true]
                          refine ⟨_, List.mem_of_getElem? (show (lstF nK LK)[q]? = some (LK q).data.toList by simp [lstF, hq2]), ?_⟩
                          rw [← size_eq]; exact decide_eq_true c5))
                        have c5' : (70 : Int) < ((LK q).size : Int) := by omega
                        go_wp2_with fail
                        go_ret
                        rw [HF.out]
                        exact ⟨rfl, rfl⟩
                      · have c5' : ¬ (70 : Int) < ((LK q).size : Int) := by omega
                        have HN : Hid (∀ j, j < q + 1 → ¬ 70 < (LK j).size) := Lib.hid (fun j hj => by
                          by_cases e : j = q
                          · subst e; exact c5
                          · exact HA2.out j (by omega))
                        go_wp2_with fail
                        go_round
                        case rel => exact ⟨q + 1, by omega, by go_num, HN⟩
                        case measure => simp [intOf]; omega
                    · obtain rfl : nK = q := by omega
                      have HN : Hid (∀ j, j < k + 1 → longEn (enAt (enF n P V R K Bk) j) = false) := Lib.hid (fun j hj => by
                        by_cases e : j = k
                        · subst e
                          rw [HE2.out, List.any_eq_false]
                          intro s hs
                          obtain ⟨i, hi⟩ := List.getElem?_of_mem hs
                          have hil : i < nK := by have := (List.getElem?_eq_some_iff.1 hi).1; simpa [lstF] using this
                          have : (lstF nK LK)[i]? = some (LK i).data.toList := by simp [lstF, hil]
                          rw [this] at hi
                          rw [← Option.some.inj hi, ← size_eq]
                          have := HA2.out i hil
                          simpa using this
                        · exact HA.out j (by omega))
                      go_wp2_with fail
                      go_round
                      case rel => exact ⟨k + 1, by omega, by go_num, HN⟩
                      case measure => simp [intOf]; omega
        · obtain rfl : n = k := by omega
          have HF : Hid (longII (enF n P V R K Bk) = 0) := Lib.hid (longIdx_none (by rw [enF_length]; exact h30) (by rw [enF_length]; exact HA.out))
          go_wp2_with fail
          go_ret
          rw [HF.out]
          exact ⟨rfl, rfl⟩
theorem longIndex_calls (v : Value) (l : List En) (w : World) (h : EntsAt w v l) :
    Calls Tryz.prog 29 #[v] w fun e w' => e = .returned (.int .i64 (longII l)) ∧ w = w' := by
  obtain ⟨a, n, cap, P, V, R, K, B, Rv, Kv, rfl, rfl, hin⟩ := h
  exact longIndex_in a n cap P V R K B Rv Kv w hin
end Go.Proofs.Pw

/- What is not too long for a statement is short. No program in sight. -/
namespace Go.Proofs.Pw
open Go.Lib hiding intOf

/-! ### no program in sight -/
theorem longMods_small {l : List Md} {k : Nat} (h : longMods l k = false) : l.length ≤ k ∧ ∀ m ∈ l, m.1.length ≤ 70 ∧ m.2.length ≤ 60 := by
  unfold longMods at h
  rw [Bool.or_eq_false_iff] at h
  refine ⟨by have := of_decide_eq_false h.1; omega, fun m hm => ?_⟩
  have h2 := List.any_eq_false.1 h.2 m hm
  simp only [Bool.or_eq_true, decide_eq_true_eq] at h2
  omega
theorem longEn_small {e : En} (h : longEn e = false) : e.md.1.length ≤ 70 ∧ e.md.2.length ≤ 60 ∧ longMods e.reqs 25 = false ∧ e.packs.length ≤ 15 ∧ ∀ s ∈ e.packs, s.length ≤ 70 := by
  unfold longEn at h
  rw [Bool.or_eq_false_iff, Bool.or_eq_false_iff, Bool.or_eq_false_iff, Bool.or_eq_false_iff] at h
  obtain ⟨h1, h2, h3, h4, h5⟩ := h
  refine ⟨by have := of_decide_eq_false h1; omega, by have := of_decide_eq_false h2; omega, h3, by have := of_decide_eq_false h4; omega, fun s hs => ?_⟩
  have := List.any_eq_false.1 h5 s hs
  simp only [decide_eq_true_eq] at this
  omega
theorem longIdx_small {l : List En} (h : longIdx l = false) : l.length ≤ 101 ∧ ∀ e ∈ l, longEn e = false := by
  unfold longIdx at h
  rw [Bool.or_eq_false_iff] at h
  refine ⟨by have := of_decide_eq_false h.1; omega, fun e he => ?_⟩
  have := List.any_eq_false.1 h.2 e he
  simpa using this
theorem longIdx_short {l : List En} (h : longIdx l = false) : ShortI l := by
  obtain ⟨h1, h2⟩ := longIdx_small h
  refine ⟨by omega, fun e he => ?_, fun e he => ?_, fun e he => ?_⟩
  · have := longEn_small (h2 e he); omega
  · have h3 := longMods_small (longEn_small (h2 e he)).2.2.1
    exact ⟨by omega, fun m hm => by have := h3.2 m hm; omega⟩
  · have h3 := longEn_small (h2 e he)
    exact ⟨by omega, fun s hs => by have := h3.2.2.2.2 s hs; omega⟩
theorem longII_no {l : List En} (h : longIdx l = false) : longII l = 0 := by unfold longII; rw [h]; rfl
theorem longII_yes {l : List En} (h : longIdx l = true) : longII l = 1 := by unfold longII; rw [h]; rfl
theorem any_md {l : List Md} {m : Md} : (l.any fun x => decide (x = m)) = decide (m ∈ l) := by
  rw [Bool.eq_iff_iff, List.any_eq_true, decide_eq_true_iff]
  constructor
  · rintro ⟨x, hx, h⟩
    rw [← of_decide_eq_true h]; exact hx
  · intro h
    exact ⟨m, h, decide_eq_true rfl⟩
end Go.Proofs.Pw

/- slices.DeleteFunc of modules out of a row of one's own, with a test that may lay blocks. -/
namespace Go.Proofs.Pw
open Go.RowKit
open Go.Lib hiding intOf

/-- a test of modules by a function value, in whatever world that stands over w from block base on -/
def TestsL (g : Nat) (lb : Array Value) (p : Md → Bool) (L : List (ByteArray × ByteArray)) (base : Nat) (w : World) : Prop :=
  ∀ W, Below base w W → ∀ x y, (x, y) ∈ L → Calls Tryz.prog g (#[.agg #[.string x, .string y]] ++ lb) W fun e w'' => e = .returned (.bool (p (x.data.toList, y.data.toList))) ∧ Below W.heap.size W w''
def pOf (p : Md → Bool) (m : ByteArray × ByteArray) : Bool := p (m.1.data.toList, m.2.data.toList)
theorem mdTs_filter (L : List (ByteArray × ByteArray)) (p : Md → Bool) : mdTs (L.filter (pOf p)) = (mdTs L).filter p := by
  unfold mdTs
  rw [List.filter_map]
  rfl
/-- the row within the loop: what is kept stands ahead, what is not yet looked at stands as it was -/
structure DelInv (q : ByteArray × ByteArray → Bool) (L M : List (ByteArray × ByteArray)) (i j : Nat) : Prop where
  len : M.length = L.length
  lt : i < j
  le : j ≤ L.length
  low : M.take i = (L.take j).filter q
  high : M.drop j = L.drop j
theorem DelInv.get {q : ByteArray × ByteArray → Bool} {L M : List (ByteArray × ByteArray)} {i j : Nat} (h : DelInv q L M i j) : M[j]? = L[j]? := by
  have := congrArg (fun l => l[0]?) h.high
  simpa using this
theorem take_sn {α : Type} {l : List α} {j : Nat} {x : α} (h : l[j]? = some x) : l.take (j + 1) = l.take j ++ [x] := by
  rw [List.take_add_one, h]; rfl
theorem DelInv.skip {q : ByteArray × ByteArray → Bool} {L M : List (ByteArray × ByteArray)} {i j : Nat} {x : ByteArray × ByteArray} (h : DelInv q L M i j) (hx : L[j]? = some x) (hq : q x = false) : DelInv q L M i (j + 1) := by
  have hl := (List.getElem?_eq_some_iff.1 hx).1
  have h1 := h.lt
  refine ⟨h.len, by omega, hl, ?_, ?_⟩
  · rw [take_sn hx, List.filter_append, ← h.low]; simp [hq]
  · rw [← List.drop_drop, ← List.drop_drop, h.high]
theorem DelInv.keep {q : ByteArray × ByteArray → Bool} {L M : List (ByteArray × ByteArray)} {i j : Nat} {x : ByteArray × ByteArray} (h : DelInv q L M i j) (hx : L[j]? = some x) (hq : q x = true) : DelInv q L (M.set i x) (i + 1) (j + 1) := by
  have hl := (List.getElem?_eq_some_iff.1 hx).1
  have h1 := h.lt
  have h2 := h.len
  refine ⟨by rw [List.length_set]; exact h.len, by omega, hl, ?_, ?_⟩
  · rw [take_sn (x := x) (by rw [List.getElem?_set_self (by omega)]), List.take_set_of_le (by omega), h.low, take_sn hx, List.filter_append]
    simp [hq]
  · rw [List.drop_set_of_lt (by omega), ← List.drop_drop, ← List.drop_drop, h.high]
theorem DelInv.start {q : ByteArray × ByteArray → Bool} {L : List (ByteArray × ByteArray)} {k : Nat} {x : ByteArray × ByteArray} (hk : L[k]? = some x) (hq : q x = false) (h0 : ∀ y ∈ L.take k, q y = true) : DelInv q L L k (k + 1) := by
  have hl := (List.getElem?_eq_some_iff.1 hk).1
  refine ⟨rfl, Nat.lt_succ_self _, hl, ?_, rfl⟩
  rw [take_sn hk, List.filter_append, List.filter_eq_self.2 h0]; simp [hq]
theorem filter_len {q : ByteArray × ByteArray → Bool} {L M : List (ByteArray × ByteArray)} {i : Nat} (h : DelInv q L M i L.length) : L.filter q = M.take i ∧ i < L.length := by
  have := h.low
  rw [List.take_length] at this
  exact ⟨this.symm, h.lt⟩

theorem splice_take {α : Type} {L cs : List α} {o : Nat} (h : o + cs.length ≤ L.length) : (splice L o cs).take o = L.take o := by
  unfold splice
  rw [List.take_append_of_le_length (by simp; omega), List.take_take, Nat.min_self]
theorem zeroMd_one (n : Nat) : ∀ u ∈ (Builtin.zeroCells (Value.agg #[.string ⟨#[]⟩, .string ⟨#[]⟩]).cells n).toList, u.oneCell' = true := by
  intro u hu
  have h2 : ((Value.agg #[.string ⟨#[]⟩, .string ⟨#[]⟩]).cells).size = 2 := rfl
  simp only [Builtin.zeroCells, Array.toList_map, List.mem_map] at hu
  obtain ⟨i, _, rfl⟩ := hu
  rw [h2]
  rcases Nat.mod_two_eq_zero_or_one i with h | h <;> rw [h] <;> rfl
theorem findI_list (p : Md → Bool) (L : List (ByteArray × ByteArray)) : (findI p (mdTs L) = -1 ∧ ∀ m ∈ L, pOf p m = false) ∨ ∃ (k : Nat) (x : ByteArray × ByteArray), findI p (mdTs L) = (k : Int) ∧ L[k]? = some x ∧ pOf p x = true ∧ ∀ y ∈ L.take k, pOf p y = false := by
  cases h : (mdTs L).findIdx? p with
  | none =>
    left
    refine ⟨by unfold findI; rw [h], fun m hm => ?_⟩
    rw [List.findIdx?_eq_none_iff] at h
    exact h _ (List.mem_map.2 ⟨m, hm, rfl⟩)
  | some k =>
    right
    have hf : findI p (mdTs L) = (k : Int) := by unfold findI; rw [h]
    rw [List.findIdx?_eq_some_iff_getElem] at h
    obtain ⟨hk, h1, h2⟩ := h
    have hkl : k < L.length := by rwa [mdTs_length] at hk
    have e : ∀ j (hj : j < L.length), (mdTs L)[j]'(by rw [mdTs_length]; exact hj) = (L[j].1.data.toList, L[j].2.data.toList) := fun j hj => by simp [mdTs]
    refine ⟨k, L[k], hf, List.getElem?_eq_getElem hkl, by rw [e k hkl] at h1; exact h1, fun y hy => ?_⟩
    obtain ⟨j, hj⟩ := List.getElem?_of_mem hy
    have hjk : j < k := by
      have := (List.getElem?_eq_some_iff.1 hj).1
      rw [List.length_take] at this
      omega
    rw [List.getElem?_take, if_pos hjk, List.getElem?_eq_getElem (by omega)] at hj
    have h3 := h2 j hjk
    rw [e j (by omega)] at h3
    rw [← Option.some.inj hj]
    simpa [pOf] using h3

set_option maxHeartbeats 4000000 in
set_option maxRecDepth 100000 in
theorem deleteFuncM_calls (g : Nat) (lb : Array Value) (eg : ∀ args w, (callFunc g args).run Tryz.prog w = .ok (.enter g args) w) (p : Md → Bool) (base : Nat) (v : Value) (L : List (ByteArray × ByteArray)) (w : World) (hown : w.ownsRow base 26 2 v L.length (mdVs L)) (hbase : base ≤ w.heap.size) (hl : L.length ≤ 1000000) (hT : TestsL g lb p L base w) :
    Calls Tryz.prog 99 #[v, .func (.func g) #[] lb] w fun e w' => (∃ v', e = .returned v' ∧ w'.ownsRow base 26 2 v' (L.filter fun m => !pOf p m).length (mdVs (L.filter fun m => !pOf p m))) ∧ Below base w w' := by
  have hm := modsAt_own hown
  obtain ⟨a0, n0, cap0, P, V, e0, e1, hnc, hcap, hc⟩ := id hm
  have hn0 : n0 = L.length := by have := congrArg List.length e1; rw [mdF_length, mdTs_length] at this; exact this.symm
  subst hn0
  have hPV : ∀ j, j < L.length → (P j, V j) ∈ L := fun j hj => by
    have h1 := mdF_get L.length P V j hj
    rw [← e1] at h1
    unfold mdTs at h1
    rw [List.getElem?_map, List.getElem?_eq_getElem hj] at h1
    have h2 := Option.some.inj h1
    have h3 := bytes_pair.1 h2
    rw [← h3.1, ← h3.2]
    exact List.getElem_mem hj
  have hIF := indexFuncM_calls g lb eg p a0 L.length cap0 base P V w hl hbase hc (fun W hW j hj => hT W hW _ _ (hPV j hj))
  rw [← e1] at hIF
  subst e0
  clear hc hPV e1 hm hnc
  rcases findI_list p L with ⟨h1, hall⟩ | ⟨k0, x0, h1, hk0, ht, hall⟩
  · rw [h1] at hIF
    have hF : L.filter (fun m => !pOf p m) = L := List.filter_eq_self.2 (fun m hm => by rw [hall m hm]; rfl)
    rw [hF]
    have HO := Lib.hid hown
    clear hT hall hF h1 hown
    go_enter Tryz.func99, Tryz.ntmps99
    go_wp2_with fail
    refine hIF.mono ?_
    rintro e w1 ⟨rfl, hb1⟩
    go_wp2_with fail
    go_ret
    exact ⟨⟨_, rfl, ownsRow_kept HO.out hb1⟩, hb1.mono hbase⟩
  · rw [h1] at hIF
    have hkl : k0 < L.length := (List.getElem?_eq_some_iff.1 hk0).1
    have hI0 : DelInv (fun m => !pOf p m) L L k0 (k0 + 1) := DelInv.start hk0 (by rw [ht]; rfl) (fun y hy => by rw [hall y hy]; rfl)
    have hne1 : ((k0 : Int) == -1) = false := beq_eq_false_iff_ne.2 (by omega)
    rcases hown.2 with ⟨_, h2⟩ | ⟨g0, c0, cur, e1, hbg, hg, hn2, hm2, hcs, htk⟩
    · omega
    · injection e1 with e1 _ e3
      subst e1 e3
      have zr := Tryz.zeroValue26
      have HO := Lib.hid hown
      have HT := Lib.hid hT
      have HI := Lib.hid hI0
      have hgw : g0 < w.heap.size := (Array.getElem?_eq_some_iff.1 hg).1
      generalize hnL : L.length = n at *
      replace hnL := Lib.hid hnL
      clear hall h1 ht hk0 hT hown hI0 hg htk hcs
      go_enter Tryz.func99, Tryz.ntmps99
      go_wp2_with fail
      refine hIF.mono ?_
      rintro e w1 ⟨rfl, hb1⟩
      go_wp2_with fail
      go_loopg [5, 6, 7] n (fun gg s5 s6 _ wr => ∃ (i j : Nat) (M : List (ByteArray × ByteArray)), s5 = .int .i64 i ∧ s6 = .int .i64 j ∧ j ≤ n ∧ n - j ≤ gg ∧ Below base w wr ∧ Hid (wr.ownsRow base 26 2 (.slice (some ⟨g0, 0, none⟩) n cap0) M.length (mdVs M)) ∧ Hid (DelInv (fun m => !pOf p m) L M i j))
      case atStart => exact ⟨k0, k0 + 1, L, rfl, by go_num, by omega, by omega, hb1.mono hbase, Lib.hid (by rw [hnL.out]; exact ownsRow_kept HO.out hb1), HI⟩
      case round =>
        obtain ⟨i, j, M, rfl, rfl, hjd, hgg, hB, hOM, hI⟩ := hrel
        have hij := hI.out.lt
        have hML := hI.out.len
        have hBs := hB.size
        by_cases hlt : j < n
        · have hltz : (j : Int) < (n : Int) := by omega
          obtain ⟨⟨x, y⟩, hxy⟩ : ∃ m, L[j]? = some m := ⟨_, List.getElem?_eq_getElem (by have := hnL.out; omega)⟩
          obtain ⟨cx, cy, -⟩ := own_cells hOM.out (hI.out.get.trans hxy)
          have hba := below_alloc wr (.cells #[.string x, .string y] 26)
          obtain ⟨z0, z1, _⟩ := box2_alloc wr (.string x) (.string y) 26
          have hcall := HT.out (wr.alloc (.cells #[.string x, .string y] 26)) (hB.trans (hba.mono (Nat.le_trans hbase hBs))) x y (List.mem_of_getElem? hxy)
          have hOa := ownsRow_kept hOM.out hba
          have hBa := hB.trans (hba.mono (Nat.le_trans hbase hBs))
          have hin : (i : Int) < (n : Int) := by omega
          have HJ := Lib.hid (And.intro hI.out (And.intro hxy (And.intro hij hML)))
          obtain ⟨⟨u, s⟩, hus⟩ : ∃ m, M[i]? = some m := ⟨_, List.getElem?_eq_getElem (by have := hnL.out; omega)⟩
          have HOA := Lib.hid (And.intro hOa hus)
          cases hq : p (x.data.toList, y.data.toList) with
          | false =>
            rw [hq] at hcall
            have HQ : Hid (pOf p (x, y) = false) := Lib.hid hq
            clear hq hOa hus hI hxy hij hML hOM
            go_wp2_with (go_at_fn g; refine hcall.mono ?_; rintro e w2 ⟨rfl, hb2⟩; (have hO2 := Lib.hid (ownsRow_kept HOA.out.1 hb2)); (have hB2 := hBa.trans (hb2.mono (Nat.le_trans hbase (Nat.le_trans hBs hba.size)))); (replace z0 := Below.cell_some hb2 z0); (replace z1 := Below.cell_some hb2 z1); (obtain ⟨d0, d1, -⟩ := own_cells (i := i) hO2.out HOA.out.2); (have f0 := own_frozen (j := i * 2) hO2.out); (have f1 := own_frozen (j := i * 2 + 1) hO2.out); (have s1 : (w2.setCell ⟨g0, i * 2, none⟩ (.string x)).cell? ⟨g0, i * 2 + 1, none⟩ = some (.string s) := by rw [set_off _ (by omega)]; exact d1); (have s2 : (w2.setCell ⟨g0, i * 2, none⟩ (.string x)).frozen? ⟨g0, i * 2 + 1, none⟩ = false := by simpa using f1))
            go_roundg (n - (j + 1))
            case measure => omega
            case rel =>
              refine ⟨i + 1, j + 1, M.set i (x, y), by go_num, by go_num, by omega, Nat.le_refl _, below_put hB2 hbg _ _, Lib.hid (own_put (i := i) hO2.out x y), Lib.hid (HJ.out.1.keep HJ.out.2.1 (by rw [HQ.out]; rfl))⟩
          | true =>
            rw [hq] at hcall
            have HQ : Hid (pOf p (x, y) = true) := Lib.hid hq
            clear hq hOa hus hI hxy hij hML hOM
            go_wp2_with (go_at_fn g; refine hcall.mono ?_; rintro e w2 ⟨rfl, hb2⟩)
            go_roundg (n - (j + 1))
            case measure => omega
            case rel => exact ⟨i, j + 1, M, rfl, by go_num, by omega, Nat.le_refl _, hBa.trans (hb2.mono (Nat.le_trans hbase (Nat.le_trans hBs hba.size))), Lib.hid (ownsRow_kept HOA.out.1 hb2), Lib.hid (HJ.out.1.skip HJ.out.2.1 (by rw [HQ.out]; rfl))⟩
        · obtain rfl : j = n := by omega
          have hltz : ¬ (j : Int) < (j : Int) := by omega
          have hfl := filter_len (q := fun m => !pOf p m) (L := L) (M := M) (i := i) (by rw [hnL.out]; exact hI.out)
          have hMn : M.length = j := by rw [hML]; exact hnL.out
          have hlen : (M.take i).length = i := by rw [List.length_take]; omega
          have HFL : Hid (L.filter (fun m => !pOf p m) = M.take i ∧ (M.take i).length = i) := Lib.hid ⟨hfl.1, hlen⟩
          rcases hOM.out.2 with ⟨h2, _⟩ | ⟨g5, c5, cur5, e5, _, hg5, _, _, hcs5, htk5⟩
          · cases h2
          · injection e5 with e5 e7 e6
            clear e7
            injection e5 with e5
            injection e5 with e5
            subst e5 e6
            have hfit : i * 2 + (j - i) * 2 ≤ cur5.toList.length := by rw [Array.length_toList, hcs5]; omega
            have hg5' : wr.heap[g0]? = some (.cells cur5.toList.toArray 26 (0, 0)) := by rw [Array.toArray_toList]; exact hg5
            have hzl := zeroCells_len (Value.agg #[.string ⟨#[]⟩, .string ⟨#[]⟩]).cells rfl (j - i)
            have hz1c : ∀ u ∈ (Builtin.zeroCells (Value.agg #[.string ⟨#[]⟩, .string ⟨#[]⟩]).cells (j - i)).toList, u.oneCell' = true := zeroMd_one (j - i)
            have hmv : (mdVs M).take (i * 2) = mdVs (M.take i) := (mdVs_take M i).symm
            have htk6 : cur5.toList.take (i * 2) = mdVs (M.take i) := by
              rw [← hmv, ← htk5, List.take_take]
              congr 1
              omega
            have HF := Lib.hid (And.intro hfit (And.intro hzl (And.intro htk6 hcs5)))
            have HG := Lib.hid hg5'
            have HZ := Lib.hid hz1c
            have hi1 : (i : Int) ≤ (j : Int) := by omega
            have hi2 : ¬ (cap0 = i) := by omega
            have hi3 : i ≤ cap0 := by omega
            have hi4 : (i : Int) ≤ (cap0 : Int) := by omega
            have hi5 : (j : Int) ≤ (cap0 : Int) := by omega
            have hzv : ∀ w, (zeroValue 26).run Tryz.prog w = .ok (.agg #[.string ⟨#[]⟩, .string ⟨#[]⟩]) w := Tryz.zeroValue26
            clear hfl hMn hlen hOM hg5 hg5' hfit hzl hz1c hmv htk6 htk5 hcs5 hI hML
            go_wp2_with (refine wpList_clearK rfl _ 22 rfl 26 (.agg #[.string ⟨#[]⟩, .string ⟨#[]⟩]) (j - i) Tryz.underlying22 hzv HF.out.2.1 HZ.out g0 (i * 2) _ (by omega) rfl _ 26 HG.out HF.out.1 base w hB hbg ?_; intro w5 hg5 hb15 hc15)
            go_ret
            have hg5 := hg5.out
            refine ⟨⟨_, rfl, ?_⟩, hb15⟩
            rw [HFL.out.1, HFL.out.2]
            refine ⟨by rw [mdVs_length, HFL.out.2], .inr ⟨g0, cap0, _, rfl, hbg, hg5, by omega, hm2, ?_, ?_⟩⟩
            · have h1 := splice_length (L := cur5.toList) (cs := (Builtin.zeroCells (Value.agg #[.string ⟨#[]⟩, .string ⟨#[]⟩]).cells (j - i)).toList) (o := i * 2) (by rw [HF.out.2.1]; exact HF.out.1)
              rw [List.size_toArray, h1, Array.length_toList]
              exact HF.out.2.2.2
            · have h2 := splice_take (L := cur5.toList) (cs := (Builtin.zeroCells (Value.agg #[.string ⟨#[]⟩, .string ⟨#[]⟩]).cells (j - i)).toList) (o := i * 2) (by rw [HF.out.2.1]; exact HF.out.1)
              rw [List.toList_toArray, h2]
              exact HF.out.2.2.1
end Go.Proofs.Pw

/- mvs.Join. Conditions: texts of at most 1000000 bytes, lists of at most 1000. -/
namespace Go.Proofs.Pw
open Go.RowKit
open Go.Lib hiding intOf

theorem Tryz.enters_join1 : ∀ args w, (callFunc 101 args).run Tryz.prog w = .ok (.enter 101 args) w := Go.Proofs.enters_of Tryz.func101 (by kernel_rfl) rfl
theorem join1_calls (ks : List Nat) (A : Nat → Addr) (h4 : 4 ∈ ks) (p q : ByteArray) (w : World) (hE : EnvP ks A w) (hp : p.size ≤ 1000000000) (hq : q.size ≤ 1000000000) :
    Calls Tryz.prog 101 #[.agg #[.string p, .string q]] w fun e w' => e = .returned (.bool (!decide (mdErr (p.data.toList, q.data.toList) = 0))) ∧ Below w.heap.size w w' := by
  have hb := below_alloc w (.cells #[.string p, .string q] 26)
  obtain ⟨y0, y1, _⟩ := box2_alloc w (.string p) (.string q) 26
  have hk := modCheck_calls ks A h4 p q (w.alloc (.cells #[.string p, .string q] 26)) (hE.below hb) hp hq
  show Calls _ _ _ _ fun e w' => e = .returned (.bool (!decide (modErr p.data.toList q.data.toList = 0))) ∧ Below w.heap.size w w'
  by_cases h0 : modErr p.data.toList q.data.toList = 0
  · rw [decide_eq_true h0]
    rw [h0, errV_zero] at hk
    clear h0
    replace hk := Lib.hid hk
    go_enter Tryz.func101, Tryz.ntmps101
    go_wp2_with fail
    refine hk.out.mono ?_
    rintro e w1 ⟨rfl, hb1⟩
    go_wp2_with fail
    go_ret
    exact ⟨rfl, below_step hb hb1⟩
  · rw [decide_eq_false h0]
    rw [errV_pos A h0] at hk
    clear h0
    replace hk := Lib.hid hk
    go_enter Tryz.func101, Tryz.ntmps101
    go_wp2_with fail
    refine hk.out.mono ?_
    rintro e w1 ⟨rfl, hb1⟩
    go_wp2_with fail
    go_ret
    exact ⟨rfl, below_step hb hb1⟩

set_option maxHeartbeats 2000000 in
set_option maxRecDepth 100000 in
/-- mvs.Join -/
theorem mvsJoin_calls (ks : List Nat) (A : Nat → Addr) (hks : IdxKs ks) (va vb : Value) (la lb : List Md) (w : World) (hE : EnvP ks A w) (ha : ModsAt w va la) (hb0 : ModsAt w vb lb) (hla : la.length ≤ 1000) (hlb : lb.length ≤ 1000) (hs : ∀ m ∈ la ++ lb, m.2.length ≤ 1000000 ∧ m.1.length ≤ 1000000) :
    Calls Tryz.prog 42 #[va, vb] w fun e w' => (∃ v, e = .returned v ∧ ModsAt w' v (joinL la lb)) ∧ Below w.heap.size w w' := by
  obtain ⟨a1, k1, e1⟩ := mods_len ha
  obtain ⟨a2, k2, e2⟩ := mods_len hb0
  subst e1 e2
  have hb := below_alloc w (.cells #[.slice a1 la.length k1, .slice a2 lb.length k2] 22)
  obtain ⟨y0, y1, _⟩ := box2_alloc w (.slice a1 la.length k1) (.slice a2 lb.length k2) 22
  have hcat := concatM_calls w.heap.size (.slice a1 la.length k1) (.slice a2 lb.length k2) la lb (w.alloc (.cells #[.slice a1 la.length k1, .slice a2 lb.length k2] 22)) (ha.below hb) (hb0.below hb) (by omega) (by omega) y0 y1
  have HE := Lib.hid hE
  have HS := Lib.hid hs
  have hl := Lib.hid (And.intro hla hlb)
  generalize hn1 : la.length = n1 at *
  generalize hn2 : lb.length = n2 at *
  replace hcat := Lib.hid hcat
  clear ha hb0 hs hE y0 y1
  go_enter Tryz.func42, Tryz.ntmps42
  go_wp2_with fail
  generalize w.alloc (.cells #[.slice a1 n1 k1, .slice a2 n2 k2] 22) = w1 at *
  refine hcat.out.mono ?_
  rintro e w2 ⟨⟨v2, L, rfl, hL, ho⟩, hb2⟩
  have hB := below_step hb hb2
  have hLl : L.length = n1 + n2 := by have := congrArg List.length hL; rw [mdTs_length, List.length_append] at this; omega
  have hT : TestsL 101 #[] (fun m => !decide (mdErr m = 0)) L w1.heap.size w2 := by
    intro W hW x y hxy
    have hm : (x.data.toList, y.data.toList) ∈ la ++ lb := by
      rw [← hL]; exact List.mem_map.2 ⟨(x, y), hxy, rfl⟩
    have h2 := HS.out _ hm
    exact join1_calls ks A hks.2.1 x y W (HE.out.below (hB.trans (hW.mono (by have := hb.size; omega)))) (by rw [size_eq]; exact Nat.le_trans h2.2 (by decide)) (by rw [size_eq]; exact Nat.le_trans h2.1 (by decide))
  have hdel := deleteFuncM_calls 101 #[] Tryz.enters_join1 (fun m => !decide (mdErr m = 0)) w1.heap.size v2 L w2 ho hb2.size (by have := hl.out; omega) hT
  have hfl : (L.filter fun m => !pOf (fun m => !decide (mdErr m = 0)) m) = L.filter (pOf fun m => decide (mdErr m = 0)) := by
    congr 1
    funext m
    unfold pOf
    simp
  rw [hfl] at hdel
  have hF : mdTs (L.filter (pOf fun m => decide (mdErr m = 0))) = (la ++ lb).filter fun m => decide (mdErr m = 0) := by rw [mdTs_filter, hL]
  have hok : ∀ m ∈ L.filter (pOf fun m => decide (mdErr m = 0)), OkM m := by
    rintro ⟨x, y⟩ hm
    obtain ⟨h1, h2⟩ := List.mem_filter.1 hm
    have hm2 : (x.data.toList, y.data.toList) ∈ la ++ lb := by
      rw [← hL]; exact List.mem_map.2 ⟨(x, y), h1, rfl⟩
    have h3 := HS.out _ hm2
    refine ⟨(modErr_zero (of_decide_eq_true h2)).2, ?_⟩
    show y.size ≤ _
    rw [size_eq]
    exact Nat.le_trans h3.1 (by decide)
  have hlf : (L.filter (pOf fun m => decide (mdErr m = 0))).length ≤ 1000000 := by
    have := List.length_filter_le (pOf fun m => decide (mdErr m = 0)) L
    have := hl.out
    omega
  generalize L.filter (pOf fun m => decide (mdErr m = 0)) = M at *
  obtain ⟨x2, z2, c2, rfl⟩ := own_form ho
  have HOK := Lib.hid (And.intro hok (And.intro hlf hF))
  replace hdel := Lib.hid hdel
  clear hcat ho hT hfl hok hlf hF hL hLl
  go_wp2_with fail
  refine hdel.out.mono ?_
  rintro e w3 ⟨⟨v3, rfl, ho3⟩, hb3⟩
  have hB3 := hB.trans (hb3.mono (show w.heap.size ≤ w1.heap.size from hb.size))
  have hso := sortM_calls ks A w w3 HE.out w1.heap.size v3 M hB3 hb.size ho3 HOK.out.1 HOK.out.2.1
  obtain ⟨x3, z3, c3, rfl⟩ := own_form ho3
  replace hso := Lib.hid hso
  clear hdel ho3 hb3 hB hb2
  go_wp2_with fail
  refine hso.out.mono ?_
  rintro e w4 ⟨rfl, ⟨l', hM, hp, hpw⟩, hB4⟩
  have hlen : l'.length ≤ 1000000 := by
    have := hp.length_eq
    rw [mdTs_length] at this
    have := HOK.out.2.1
    omega
  have hgr := greatest_calls _ l' w4 hM hlen
  have hJ : greatest l' = joinL la lb := join_of (by rw [← HOK.out.2.2]; exact hp) hpw
  rw [hJ] at hgr
  replace hgr := Lib.hid hgr
  clear hso hM hp hpw hlen hJ HOK
  go_wp2_with fail
  refine hgr.out.mono ?_
  rintro e w5 ⟨⟨v5, L5, rfl, hL5, ho5⟩, hb5⟩
  have hM5 := modsAt_own ho5
  rw [hL5] at hM5
  obtain ⟨x5, z5, c5, rfl⟩ := own_form ho5
  have HM := Lib.hid hM5
  clear hM5 ho5 hL5 hgr
  go_wp2_with fail
  go_ret
  exact ⟨⟨_, rfl, HM.out⟩, below_step hB4 hb5⟩
end Go.Proofs.Pw

/- MvsParts: its walk. -/
namespace Go.Proofs.Pw
open Go.RowKit
open Go.Lib hiding intOf

set_option maxHeartbeats 4000000 in
set_option maxRecDepth 100000 in
theorem mvsParts_long (ks : List Nat) (A : Nat → Addr) (hks : IdxKs ks) (la : Option Addr) (ln lc : Nat) (P V : Nat → ByteArray) (R : Nat → List Md) (K : Nat → List Str) (Bk : Nat → Bool) (Rv Kv : Nat → Value) (av bv : Value) (Am Bm : List Md) (w : World) (hE : EnvP ks A w) (hl : EntsIn w la ln lc P V R K Bk Rv Kv) (ha : ModsAt w av Am) (hb0 : ModsAt w bv Bm)
    (hlong : longIdx (enF ln P V R K Bk) = true ∨ (longIdx (enF ln P V R K Bk) = false ∧ ((longMods Am 10 = true ∧ longMods Bm 10 = true) ∨ (longMods Am 10 = true ∧ longMods Bm 10 = false) ∨ (longMods Am 10 = false ∧ longMods Bm 10 = true)))) :
    Calls Tryz.prog 6 #[.slice la ln lc, av, bv] w fun e w' => e = .returned (.bool true) ∧ Below w.heap.size w w' := by
  obtain ⟨a1, n1, c1, _, _, rfl, _⟩ := id ha
  obtain ⟨a2, n2, c2, _, _, rfl, _⟩ := id hb0
  have hre := built_calls ks A hks w hE
  have hlx := fun (W : World) (hb : Below w.heap.size w W) => longIndex_in la ln lc P V R K Bk Rv Kv W (hl.below hb)
  have hlm1 := fun (W : World) (hb : Below w.heap.size w W) => longMods_calls (.slice a1 n1 c1) Am 10 W (ha.below hb)
  have hlm2 := fun (W : World) (hb : Below w.heap.size w W) => longMods_calls (.slice a2 n2 c2) Bm 10 W (hb0.below hb)
  replace hre := Lib.hid hre
  replace hlx := Lib.hid hlx
  replace hlm1 := Lib.hid hlm1
  replace hlm2 := Lib.hid hlm2
  rcases hlong with h1 | ⟨h1, ⟨h2, h3⟩ | ⟨h2, h3⟩ | ⟨h2, h3⟩⟩
  · rw [longII_yes h1] at hlx
    clear h1
    go_enter Tryz.func6, Tryz.ntmps6
    go_wp2_with fail
    refine hre.out.mono ?_
    rintro e w1 ⟨rfl, hB⟩
    go_wp2_with fail
    refine (hlx.out _ hB).mono ?_
    rintro e w' ⟨rfl, rfl⟩
    go_wp2_with fail
    go_ret
    exact ⟨rfl, hB⟩
  · rw [longII_no h1] at hlx
    rw [longI_yes h2] at hlm1
    rw [longI_yes h3] at hlm2
    clear h1 h2 h3
    go_enter Tryz.func6, Tryz.ntmps6
    go_wp2_with fail
    refine hre.out.mono ?_
    rintro e w1 ⟨rfl, hB⟩
    go_wp2_with fail
    refine (hlx.out _ hB).mono ?_
    rintro e w' ⟨rfl, rfl⟩
    go_wp2_with fail
    refine (hlm1.out _ hB).mono ?_
    rintro e w' ⟨rfl, rfl⟩
    go_wp2_with fail
    refine (hlm2.out _ hB).mono ?_
    rintro e w' ⟨rfl, rfl⟩
    go_wp2_with fail
    go_ret
    exact ⟨rfl, hB⟩
  · rw [longII_no h1] at hlx
    rw [longI_yes h2] at hlm1
    rw [longI_no h3] at hlm2
    clear h1 h2 h3
    go_enter Tryz.func6, Tryz.ntmps6
    go_wp2_with fail
    refine hre.out.mono ?_
    rintro e w1 ⟨rfl, hB⟩
    go_wp2_with fail
    refine (hlx.out _ hB).mono ?_
    rintro e w' ⟨rfl, rfl⟩
    go_wp2_with fail
    refine (hlm1.out _ hB).mono ?_
    rintro e w' ⟨rfl, rfl⟩
    go_wp2_with fail
    refine (hlm2.out _ hB).mono ?_
    rintro e w' ⟨rfl, rfl⟩
    go_wp2_with fail
    go_ret
    exact ⟨rfl, hB⟩
  · rw [longII_no h1] at hlx
    rw [longI_no h2] at hlm1
    rw [longI_yes h3] at hlm2
    clear h1 h2 h3
    go_enter Tryz.func6, Tryz.ntmps6
    go_wp2_with fail
    refine hre.out.mono ?_
    rintro e w1 ⟨rfl, hB⟩
    go_wp2_with fail
    refine (hlx.out _ hB).mono ?_
    rintro e w' ⟨rfl, rfl⟩
    go_wp2_with fail
    refine (hlm1.out _ hB).mono ?_
    rintro e w' ⟨rfl, rfl⟩
    go_wp2_with fail
    refine (hlm2.out _ hB).mono ?_
    rintro e w' ⟨rfl, rfl⟩
    go_wp2_with fail
    go_ret
    exact ⟨rfl, hB⟩

set_option maxHeartbeats 8000000 in
set_option maxRecDepth 100000 in
theorem mvsParts_main (ks : List Nat) (A : Nat → Addr) (hks : IdxKs ks) (la : Option Addr) (ln lc : Nat) (P V : Nat → ByteArray) (R : Nat → List Md) (K : Nat → List Str) (Bk : Nat → Bool) (Rv Kv : Nat → Value) (av bv : Value) (Am Bm : List Md) (w : World) (hE : EnvP ks A w) (hl : EntsIn w la ln lc P V R K Bk Rv Kv) (ha : ModsAt w av Am) (hb0 : ModsAt w bv Bm)
    (h1 : longIdx (enF ln P V R K Bk) = false) (h2 : longMods Am 10 = false) (h3 : longMods Bm 10 = false) :
    Calls Tryz.prog 6 #[.slice la ln lc, av, bv] w fun e w' => e = .returned (.bool true) ∧ Below w.heap.size w w' := by
  obtain ⟨a1, n1, c1, _, _, rfl, _⟩ := id ha
  obtain ⟨a2, n2, c2, _, _, rfl, _⟩ := id hb0
  have hre := built_calls ks A hks w hE
  have hlx := fun (W : World) (hb : Below w.heap.size w W) => longIndex_in la ln lc P V R K Bk Rv Kv W (hl.below hb)
  have hlm1 := fun (W : World) (hb : Below w.heap.size w W) => longMods_calls (.slice a1 n1 c1) Am 10 W (ha.below hb)
  have hlm2 := fun (W : World) (hb : Below w.heap.size w W) => longMods_calls (.slice a2 n2 c2) Bm 10 W (hb0.below hb)
  replace hre := Lib.hid hre
  replace hlx := Lib.hid hlx
  replace hlm1 := Lib.hid hlm1
  replace hlm2 := Lib.hid hlm2
  have hsi := longIdx_short h1
  have hsm := longIdx_small h1
  have hA1 := (longMods_small h2).1
  have hA2 := (longMods_small h3).1
  have hln : ln ≤ 101 := by have := hsm.1; rwa [enF_length] at this
  have HA := Lib.hid ha
  have HB := Lib.hid hb0
  have HL := Lib.hid hl
  have HE := Lib.hid hE
  have HSI := Lib.hid hsi
  have how := fun (W : World) (hb : Below w.heap.size w W) => ownIndex_calls (.slice la ln lc) (enF ln P V R K Bk) W ⟨la, ln, lc, P, V, R, K, Bk, Rv, Kv, rfl, rfl, HL.out.below hb⟩ (by rw [enF_length]; omega) (fun e he => by
    have h4 := longEn_small (hsm.2 e he)
    have h5 := longMods_small h4.2.2.1
    exact ⟨by omega, by omega⟩)
  have hom1 := fun (W : World) (hb : Below w.heap.size w W) => ownMods_calls (.slice a1 n1 c1) Am W (HA.out.below hb) (by omega)
  have hom2 := fun (W : World) (hb : Below w.heap.size w W) => ownMods_calls (.slice a2 n2 c2) Bm W (HB.out.below hb) (by omega)
  rw [longII_no h1] at hlx
  rw [longI_no h2] at hlm1
  rw [longI_no h3] at hlm2
  replace how := Lib.hid how
  replace hom1 := Lib.hid hom1
  replace hom2 := Lib.hid hom2
  clear h1 h2 h3 hsi hsm hE hl ha hb0
  go_enter Tryz.func6, Tryz.ntmps6
  go_wp2_with fail
  refine hre.out.mono ?_
  rintro e w1 ⟨rfl, hB⟩
  go_wp2_with fail
  refine (hlx.out _ hB).mono ?_
  rintro e w' ⟨rfl, rfl⟩
  go_wp2_with fail
  refine (hlm1.out _ hB).mono ?_
  rintro e w' ⟨rfl, rfl⟩
  go_wp2_with fail
  refine (hlm2.out _ hB).mono ?_
  rintro e w' ⟨rfl, rfl⟩
  go_wp2_with fail
  clear hre hlx hlm1 hlm2
  refine (how.out _ hB).mono ?_
  rintro e w2 ⟨⟨ov, rfl, hOE⟩, hb⟩
  replace hB := below_step hB hb
  clear how hb
  obtain ⟨oa, on, oc, P', V', R', K', B', Rv', Kv', rfl, hOl, hO⟩ := hOE
  go_wp2_with fail
  refine (hom1.out _ hB).mono ?_
  rintro e w3 ⟨⟨xv, rfl, _, L1', hL1, ho1⟩, hb⟩
  have hB3 := below_step hB hb
  obtain ⟨o', w4, hap, ⟨L2', hL2, ho2⟩, hg4⟩ := app_mods w3 w2.heap.size hb.size xv (.slice a2 n2 c2) L1' Bm ho1 (HB.out.below hB3) (by have := congrArg List.length hL1; rw [mdTs_length] at this; omega) (by omega)
  have hc4 : Below w2.heap.size w2 w4 := hb.grown hg4 hb.size (fun k hk => (ho1.lt k hk).1)
  have hB4 := below_step hB hc4
  obtain ⟨ax0, nx0, cx0, rfl⟩ := own_form ho1
  obtain ⟨a3, n3, c3, rfl⟩ := own_form ho2
  have hM3 := modsAt_own ho2
  rw [hL2, ← hL1] at hM3
  have HO := Lib.hid hO
  have HOL := Lib.hid hOl
  have hrc := fun (W : World) (hb : Below w.heap.size w W) (hc : Below w2.heap.size w2 W) (rv : Value) (roots : List Md) (hr : ModsAt W rv roots) (hlr : roots.length ≤ 100000) => mvsBuild_in ks A hks oa on oc P' V' R' K' B' Rv' Kv' rv roots W (HE.out.below hb) (HO.out.below hc) (by rw [← HOL.out]; exact HSI.out) hr hlr
  simp only [← hOl] at hrc
  have HAP := Lib.hid hap
  replace hrc := Lib.hid hrc
  clear hap hg4 ho1 ho2 hL1 hL2 hO hOl hB3 hb
  go_wp2_with (at_builtin; refine wpList_append_run rfl _ _ 22 rfl _ _ rfl rfl _ _ HAP.out ?_)
  refine (hom1.out _ hB4).mono ?_
  rintro e w5 ⟨⟨v5, rfl, hM5, _⟩, hb5⟩
  have hc5 := below_step hc4 hb5
  have hB5 := below_step hB4 hb5
  replace hM3 := hM3.below hb5
  obtain ⟨a5, n5, c5, _, _, rfl, _⟩ := id hM5
  go_wp2_with fail
  refine (hrc.out _ hB5 hc5 _ _ hM5 (by omega)).mono ?_
  rintro e w6 ⟨⟨x6, ev1, rfl, hf1, hX⟩, hb6⟩
  have hc6 := below_step hc5 hb6
  have hB6 := below_step hB5 hb6
  replace hM3 := hM3.below hb6
  clear hM5 hb5 hc5 hB5 hc4 hB4 HAP
  go_wp2_with fail
  refine (hom2.out _ hB6).mono ?_
  rintro e w7 ⟨⟨v7, rfl, hM7, _⟩, hb7⟩
  have hc7 := below_step hc6 hb7
  have hB7 := below_step hB6 hb7
  replace hM3 := hM3.below hb7
  replace hf1 := hf1.below hb7
  replace hX := hX.below hb7
  obtain ⟨a7, n7, c7, _, _, rfl, _⟩ := id hM7
  go_wp2_with fail
  refine (hrc.out _ hB7 hc7 _ _ hM7 (by omega)).mono ?_
  rintro e w8 ⟨⟨y8, ev2, rfl, hf2, hY⟩, hb8⟩
  have hc8 := below_step hc7 hb8
  have hB8 := below_step hB7 hb8
  replace hM3 := hM3.below hb8
  replace hf1 := hf1.below hb8
  replace hX := hX.below hb8
  clear hM7 hb7 hc7 hB7 hb6 hc6 hB6 hom1 hom2
  go_wp2_with fail
  refine (hrc.out _ hB8 hc8 _ _ hM3 (by simp; omega)).mono ?_
  rintro e w9 ⟨⟨z9, ev3, rfl, hf3, hZ⟩, hb9⟩
  have hB9 := below_step hB8 hb9
  replace hf1 := hf1.below hb9
  replace hX := hX.below hb9
  replace hf2 := hf2.below hb9
  replace hY := hY.below hb9
  clear hM3 hb9 hB8 hc8 hb8 hrc HO HOL
  have happ := startErr_app (l := enF ln P V R K Bk) (a := Am) (b := Bm)
  rcases fault_form hf1 with ⟨q1, rfl⟩ | ⟨q1, ty1, p1, rfl⟩
  · rcases fault_form hf2 with ⟨q2, rfl⟩ | ⟨q2, ty2, p2, rfl⟩
    · have q3 := happ.2 ⟨q1, q2⟩
      obtain rfl : ev3 = .nilIface := by
        rcases fault_form hf3 with ⟨_, h⟩ | ⟨h, _⟩
        · exact h
        · exact absurd q3 h
      have g1 := rightG_of q1
      have g2 := rightG_of q2
      have g3 := rightG_of q3
      have hJ := join_parts g1 g2 g3
      have hok : ∀ m ∈ buildL (enF ln P V R K Bk) Am ++ buildL (enF ln P V R K Bk) Bm, m.2.length ≤ 1000000 ∧ m.1.length ≤ 1000000 := fun m hm => by
        have hx : ∃ e ∈ enF ln P V R K Bk, e.md = m := by
          rcases List.mem_append.1 hm with h | h
          · exact g1.entry (build_reached g1 h)
          · exact g2.entry (build_reached g2 h)
        obtain ⟨e, he, rfl⟩ := hx
        exact ⟨(HSI.out.mds e he).2, (HSI.out.mds e he).1⟩
      have hlx : (buildL (enF ln P V R K Bk) Am).length ≤ 1000 := Nat.le_trans (build_len g1) (by decide)
      have hly : (buildL (enF ln P V R K Bk) Bm).length ≤ 1000 := Nat.le_trans (build_len g2) (by decide)
      unfold buildR at hX hY hZ
      rw [if_pos q1] at hX
      rw [if_pos q2] at hY
      rw [if_pos q3, ← hJ] at hZ
      have hjo := mvsJoin_calls ks A hks x6 y8 _ _ w9 (HE.out.below hB9) hX hY hlx hly hok
      generalize buildL (enF ln P V R K Bk) Am = XX at *
      generalize buildL (enF ln P V R K Bk) Bm = YY at *
      obtain ⟨ax, nX, cx, PX, VX, rfl, _⟩ := id hX
      obtain ⟨ay, nY, cy, PY, VY, rfl, _⟩ := id hY
      obtain ⟨az, nZ, cz, PZ, VZ, rfl, _⟩ := id hZ
      have HZ := Lib.hid hZ
      replace hjo := Lib.hid hjo
      clear hf1 hf2 hf3 happ q1 q2 q3 g1 g2 g3 hX hY hZ hJ hok hlx hly
      go_wp2_with fail
      refine hjo.out.mono ?_
      rintro e w10 ⟨⟨v10, rfl, hM10⟩, hb10⟩
      have hB10 := below_step hB9 hb10
      have hsa := sameMods_calls _ _ _ _ w10 (HZ.out.below hb10) hM10
      rw [decide_eq_true rfl] at hsa
      obtain ⟨a10, n10, c10, _, _, rfl, _⟩ := id hM10
      replace hsa := Lib.hid hsa
      clear hM10 hjo HZ
      go_wp2_with fail
      refine hsa.out.mono ?_
      rintro e w11 ⟨rfl, hb11⟩
      go_wp2_with fail
      go_ret
      exact ⟨rfl, below_step hB10 hb11⟩
    · have q3 : (startErr (enF ln P V R K Bk) (Am ++ Bm)).1 ≠ 0 := fun h => q2 (happ.1 h).2
      unfold buildR at hZ
      rw [if_neg q3] at hZ
      obtain ⟨az, nz, cz, PZ, VZ, rfl, eZ, _⟩ := hZ
      obtain rfl : nz = 0 := by have := congrArg List.length eZ; rw [mdF_length] at this; exact this.symm
      rcases fault_form hf3 with ⟨h, _⟩ | ⟨_, ty3, p3, rfl⟩
      · exact absurd h q3
      · obtain ⟨ax, nx, cx, _, _, rfl, _⟩ := hX
        obtain ⟨ay, ny, cy, _, _, rfl, _⟩ := hY
        clear hf1 hf2 hf3 happ eZ q1 q3
        go_wp2_with fail
        go_ret
        exact ⟨rfl, hB9⟩
  · have q3 : (startErr (enF ln P V R K Bk) (Am ++ Bm)).1 ≠ 0 := fun h => q1 (happ.1 h).1
    unfold buildR at hZ
    rw [if_neg q3] at hZ
    obtain ⟨az, nz, cz, PZ, VZ, rfl, eZ, _⟩ := hZ
    obtain rfl : nz = 0 := by have := congrArg List.length eZ; rw [mdF_length] at this; exact this.symm
    rcases fault_form hf3 with ⟨h, _⟩ | ⟨_, ty3, p3, rfl⟩
    · exact absurd h q3
    · obtain ⟨ax, nx, cx, _, _, rfl, _⟩ := hX
      obtain ⟨ay, ny, cy, _, _, rfl, _⟩ := hY
      clear hf1 hf2 hf3 happ eZ q1 q3
      go_wp2_with fail
      go_ret
      exact ⟨rfl, hB9⟩
end Go.Proofs.Pw

/- MvsParts: its walk, joined. -/
namespace Go.Proofs.Pw
open Go.RowKit
open Go.Lib hiding intOf

theorem mvsParts_calls (ks : List Nat) (A : Nat → Addr) (hks : IdxKs ks) (lv av bv : Value) (l : List En) (Am Bm : List Md) (w : World) (hE : EnvP ks A w) (hl : EntsAt w lv l) (ha : ModsAt w av Am) (hb0 : ModsAt w bv Bm) :
    Calls Tryz.prog 6 #[lv, av, bv] w fun e w' => e = .returned (.bool true) ∧ Below w.heap.size w w' := by
  obtain ⟨la, ln, lc, P, V, R, K, Bk, Rv, Kv, rfl, rfl, hin⟩ := hl
  cases h1 : longIdx (enF ln P V R K Bk)
  · cases h2 : longMods Am 10 <;> cases h3 : longMods Bm 10
    · exact mvsParts_main ks A hks la ln lc P V R K Bk Rv Kv av bv Am Bm w hE hin ha hb0 h1 h2 h3
    · exact mvsParts_long ks A hks la ln lc P V R K Bk Rv Kv av bv Am Bm w hE hin ha hb0 (.inr ⟨h1, .inr (.inr ⟨h2, h3⟩)⟩)
    · exact mvsParts_long ks A hks la ln lc P V R K Bk Rv Kv av bv Am Bm w hE hin ha hb0 (.inr ⟨h1, .inr (.inl ⟨h2, h3⟩)⟩)
    · exact mvsParts_long ks A hks la ln lc P V R K Bk Rv Kv av bv Am Bm w hE hin ha hb0 (.inr ⟨h1, .inl ⟨h2, h3⟩⟩)
  · exact mvsParts_long ks A hks la ln lc P V R K Bk Rv Kv av bv Am Bm w hE hin ha hb0 (.inl h1)
end Go.Proofs.Pw

/- From a row's listed variables to what the walks ask: the sentinels, each at its own place; errors.errorType's handle. -/
namespace Go.Proofs.Pw
open Go.RowKit Go.ChangeShapes

/-- a sentinel's datum -/
def sentD (text : List UInt8) : DataW Unit := .iface "*errors.errorString" (.ptr (.agg [.lit (.string text)]))

theorem Tryz.star : "*" ++ "errors.errorString" = "*errors.errorString" := by decide
theorem Tryz.rowES : ∀ u, Tryz.prog.typeName? 3 u = some "*errors.errorString" → u = 283 := fun u h =>
  typeName_ptr_named (P := Tryz.prog) (nm := "errors.errorString") (by rw [Tryz.star]; kernel_rfl) (by kernel_rfl) (by decide) u (by rw [Tryz.star]; exact h)

section
variable {W : World}

set_option maxRecDepth 100000 in
theorem sent_mem {n : String} {text : List UInt8} : ∀ {l : List (String × DataW Unit)} {ps : List MemPlace}, DataW.LaidVars Tryz.prog W l ps →
    (∀ b off, MemPlace.cell b off ∈ ps → (∃ c t, W.heap[b]? = some (.cells c t (0, 0))) ∧ ∀ u v, W.cell? ⟨b, off, none⟩ = some (.iface u v) → Value.okWide Tryz.prog W .any 0 u v) →
    (n, sentD text) ∈ l → (∀ g, Tryz.prog.globalNamed n = some g → (Tryz.prog.globals[g]?).map (·.type) = some 32) →
    ∃ (g : Nat) (a : Addr), Tryz.prog.globalNamed n = some g ∧ W.cell? ⟨g, 0, none⟩ = some (.iface 283 (.pointer (some a))) ∧ MemPlace.cell a.block a.off ∈ ps
  | [], _, _, _, hm, _ => by cases hm
  | (n0, d0) :: r, ps, h, hrows, hm, ht => by
    obtain ⟨g, t, cs, fuel, p, q, hg, htt, hv, hd, hq, rfl⟩ := h
    rcases List.mem_cons.1 hm with he | hm
    · obtain ⟨rfl, rfl⟩ := Prod.mk.injEq .. ▸ he
      obtain rfl := Option.some.inj ((ht g hg).symm.trans htt)
      obtain ⟨l0⟩ := cs
      have ok0 : ∀ u v, l0 = [.iface u v] → Value.okWide Tryz.prog W .any 0 u v := fun u v e => by
        subst e
        exact (hrows g 0 (by simp [MemPlace.row])).2 u v (by simpa using World.var?_cell hg hv 0)
      obtain ⟨a, s, rfl, _, _, _, rfl⟩ := errorString_of_trod Tryz.underlying32 Tryz.rowES Tryz.underlying283 Tryz.underlying285 rfl rfl Tryz.underlying9 (by kernel_rfl) (by kernel_rfl) hd ok0
      exact ⟨g, a, hg, by simpa using World.var?_cell hg hv 0, by simp [MemPlace.row]⟩
    · obtain ⟨g', a, h1, h2, h3⟩ := sent_mem hq (fun b off hm => hrows b off (List.mem_append_right _ hm)) hm ht
      exact ⟨g', a, h1, h2, List.mem_append_right _ h3⟩

set_option maxRecDepth 100000 in
theorem sent_ne {n n' : String} {text text' : List UInt8} (hnn : n ≠ n') : ∀ {l : List (String × DataW Unit)} {ps : List MemPlace}, DataW.LaidVars Tryz.prog W l ps → ps.Nodup →
    (∀ b off, MemPlace.cell b off ∈ ps → (∃ c t, W.heap[b]? = some (.cells c t (0, 0))) ∧ ∀ u v, W.cell? ⟨b, off, none⟩ = some (.iface u v) → Value.okWide Tryz.prog W .any 0 u v) →
    (n, sentD text) ∈ l → (n', sentD text') ∈ l → (∀ g, Tryz.prog.globalNamed n = some g → (Tryz.prog.globals[g]?).map (·.type) = some 32) → (∀ g, Tryz.prog.globalNamed n' = some g → (Tryz.prog.globals[g]?).map (·.type) = some 32) →
    ∀ (g g' : Nat) (a a' : Addr), Tryz.prog.globalNamed n = some g → Tryz.prog.globalNamed n' = some g' → W.cell? ⟨g, 0, none⟩ = some (.iface 283 (.pointer (some a))) → W.cell? ⟨g', 0, none⟩ = some (.iface 283 (.pointer (some a'))) → a ≠ a'
  | [], _, _, _, _, hm, _, _, _ => by cases hm
  | (n0, d0) :: r, ps, h, hnd, hrows, hm, hm', ht, ht' => by
    intro g g' a a' hg hg' hc hc'
    obtain ⟨g0, t0, cs, fuel, p, q, hg0, htt, hv, hd, hq, rfl⟩ := h
    have hrq : ∀ b off, MemPlace.cell b off ∈ q → (∃ c t, W.heap[b]? = some (.cells c t (0, 0))) ∧ ∀ u v, W.cell? ⟨b, off, none⟩ = some (.iface u v) → Value.okWide Tryz.prog W .any 0 u v := fun b off hm => hrows b off (List.mem_append_right _ hm)
    have head : ∀ {m : String} {tx : List UInt8} {gm : Nat} {am : Addr}, (m, sentD tx) = (n0, d0) → (∀ g, Tryz.prog.globalNamed m = some g → (Tryz.prog.globals[g]?).map (·.type) = some 32) → Tryz.prog.globalNamed m = some gm → W.cell? ⟨gm, 0, none⟩ = some (.iface 283 (.pointer (some am))) → MemPlace.cell am.block am.off ∈ p := by
      intro m tx gm am he htm hgm hcm
      obtain ⟨rfl, rfl⟩ := Prod.mk.injEq .. ▸ he
      obtain rfl := Option.some.inj (hg0.symm.trans hgm)
      obtain rfl := Option.some.inj ((htm g0 hg0).symm.trans htt)
      obtain ⟨l0⟩ := cs
      have ok0 : ∀ u v, l0 = [.iface u v] → Value.okWide Tryz.prog W .any 0 u v := fun u v e => by
        subst e
        exact (hrows g0 0 (by simp [MemPlace.row])).2 u v (by simpa using World.var?_cell hg0 hv 0)
      obtain ⟨a1, s, rfl, _, _, _, rfl⟩ := errorString_of_trod Tryz.underlying32 Tryz.rowES Tryz.underlying283 Tryz.underlying285 rfl rfl Tryz.underlying9 (by kernel_rfl) (by kernel_rfl) hd ok0
      have e := World.var?_cell hg0 hv 0
      rw [hcm] at e
      simp at e
      subst e
      simp [MemPlace.row]
    have tail : ∀ {m : String} {tx : List UInt8} {gm : Nat} {am : Addr}, (m, sentD tx) ∈ r → (∀ g, Tryz.prog.globalNamed m = some g → (Tryz.prog.globals[g]?).map (·.type) = some 32) → Tryz.prog.globalNamed m = some gm → W.cell? ⟨gm, 0, none⟩ = some (.iface 283 (.pointer (some am))) → MemPlace.cell am.block am.off ∈ q := by
      intro m tx gm am hmm htm hgm hcm
      obtain ⟨g2, a2, h1, h2, h3⟩ := sent_mem hq hrq hmm htm
      obtain rfl := Option.some.inj (hgm.symm.trans h1)
      rw [hcm] at h2
      simp at h2
      subst h2
      exact h3
    rw [List.nodup_append] at hnd
    have hpq : ∀ x, x ∈ p → x ∈ q → False := fun x hx hy => hnd.2.2 x (List.mem_append_right _ hx) x hy rfl
    rcases List.mem_cons.1 hm with he | hm
    · rcases List.mem_cons.1 hm' with he' | hm'
      · exact absurd ((Prod.mk.inj he).1.trans (Prod.mk.inj he').1.symm) hnn
      · intro e
        subst e
        exact hpq _ (head he ht hg hc) (tail hm' ht' hg' hc')
    · rcases List.mem_cons.1 hm' with he' | hm'
      · intro e
        subst e
        exact hpq _ (head he' ht' hg' hc') (tail hm ht hg hc)
      · exact sent_ne hnn hq hnd.2.1 hrq hm hm' ht ht' g g' a a' hg hg' hc hc'
end

/-- where the sentinel of a number lies, in a world -/
def errA (W : World) (k : Nat) : Addr := match W.cell? ⟨errG k, 0, none⟩ with
  | some (.iface _ (.pointer (some a))) => a
  | _ => default

/-- THE SENTINELS OF A LIST: names and texts by number. -/
theorem envE_of {W : World} {l : List (String × DataW Unit)} (h : laidMet Tryz.prog l W) (ks : List Nat) (nm : Nat → String) (tx : Nat → List UInt8)
    (hm : ∀ k ∈ ks, (nm k, sentD (tx k)) ∈ l) (hg : ∀ k ∈ ks, Tryz.prog.globalNamed (nm k) = some (errG k)) (ht : ∀ k ∈ ks, (Tryz.prog.globals[errG k]?).map (·.type) = some 32)
    (hne : ∀ j ∈ ks, ∀ k ∈ ks, j ≠ k → nm j ≠ nm k) : EnvE ks (errA W) W := by
  obtain ⟨ps, hv, hnd, hrows⟩ := h
  have htt : ∀ k ∈ ks, ∀ g, Tryz.prog.globalNamed (nm k) = some g → (Tryz.prog.globals[g]?).map (·.type) = some 32 := fun k hk g h => by
    obtain rfl := Option.some.inj ((hg k hk).symm.trans h)
    exact ht k hk
  have cell : ∀ k ∈ ks, W.cell? ⟨errG k, 0, none⟩ = some (.iface 283 (.pointer (some (errA W k)))) ∧ MemPlace.cell (errA W k).block (errA W k).off ∈ ps := fun k hk => by
    obtain ⟨g, a, h1, h2, h3⟩ := sent_mem hv hrows (hm k hk) (htt k hk)
    obtain rfl := Option.some.inj ((hg k hk).symm.trans h1)
    have e : errA W k = a := by unfold errA; rw [h2]
    rw [e]
    exact ⟨h2, h3⟩
  refine ⟨fun k hk => (cell k hk).1, fun k hk => (hrows _ _ (cell k hk).2).1, fun j hj k hk e => ?_⟩
  rcases Nat.decEq j k with hjk | hjk
  · exact absurd e (sent_ne (hne j hj k hk hjk) hv hnd hrows (hm j hj) (hm k hk) (htt j hj) (htt k hk) _ _ _ _ (hg j hj) (hg k hk) (cell j hj).1 (cell k hk).1)
  · exact hjk

theorem Tryz.et : Tryz.prog.globalNamed "errors.errorType" = some 10 := by kernel_rfl
theorem Tryz.rt : (Tryz.prog.cutTypes.find? (·.1 == "internal/reflectlite.rtype")).map (·.2) = some 215 := by kernel_rfl
theorem Tryz.oneRow : ((List.range 327).filter fun t => Tryz.prog.rowNamed t [101, 114, 114, 111, 114]) = [32] := by kernel_rfl
theorem Tryz.typesSize : Tryz.prog.types.size = 327 := by kernel_rfl

/-- errors.errorType's cell -/
theorem handle_of {W : World} {hs : List (String × DataW Unit)} (h : handlesMet Tryz.prog hs W)
    (hm : ("errors.errorType", (.iface "internal/reflectlite.rtype" (.agg [.ptr (.lit (.string [101, 114, 114, 111, 114]))]) : DataW Unit)) ∈ hs) :
    W.cell? ⟨10, 0, none⟩ = some (.iface 215 (.agg #[.pointer (some ⟨19, 32, none⟩)])) := by
  obtain ⟨name, u, ty, e1, e2, e3, e4, e5⟩ := h _ hm
  have en : name = [101, 114, 114, 111, 114] := (Option.some.inj e1).symm
  subst en
  obtain rfl := Option.some.inj (Tryz.rt.symm.trans e2)
  have hmm : ty ∈ (List.range 327).filter fun t => Tryz.prog.rowNamed t [101, 114, 114, 111, 114] := List.mem_filter.2 ⟨List.mem_range.2 (by rw [← Tryz.typesSize]; exact e3), e4⟩
  rw [Tryz.oneRow] at hmm
  obtain rfl := List.mem_singleton.1 hmm
  have hh : typeHandle Tryz.prog 32 = .pointer (some ⟨19, 32, none⟩) := by kernel_rfl
  rw [hh] at e5
  simpa using World.var?_cell Tryz.et e5 0
end Go.Proofs.Pw

/- From a row's listed variables to what packages ver and mod ask: the sentinels, strconv.ErrRange, the table of powers. -/
namespace Go.Proofs.Pw
open Go.RowKit Go.ChangeShapes

theorem tab_mem {W : World} {n : String} {k : IntKind} {zs : List Int} {g : Nat} {t e : TypeId} {m : Nat}
    (hg : Tryz.prog.globalNamed n = some g) (hty : (Tryz.prog.globals[g]?).map (·.type) = some t) (ht : Tryz.prog.underlying t = some (.array m e)) (he : Tryz.prog.underlying e = some (.int k)) (hce : Tryz.prog.cellsOf e = 1) (hct : Tryz.prog.cellsOf t = m) :
    ∀ {l : List (String × DataW Unit)} {ps : List MemPlace}, DataW.LaidVars Tryz.prog W l ps → (n, Lib.tabData k zs) ∈ l → Lib.TabIs Tryz.prog W n k zs
  | [], _, _, hm => by cases hm
  | (n0, d0) :: r, ps, h, hm => by
    obtain ⟨g', t', cs, fuel, p, q, hg', ht', hvar, hd, hq, rfl⟩ := h
    rcases List.mem_cons.1 hm with heq | hm
    · obtain ⟨rfl, rfl⟩ := Prod.mk.injEq .. ▸ heq
      obtain rfl := Option.some.inj (hg.symm.trans hg')
      obtain rfl := Option.some.inj (hty.symm.trans ht')
      unfold Lib.TabIs
      rw [hvar, ← Lib.cells_of_tab ht he hce hct hd]
    · exact tab_mem hg hty ht he hce hct hq hm

/-- an error's name and text by its number -/
def errNm : Nat → String
  | 1 => "pewholder/api.ErrText" | 2 => "pewholder/api.ErrBound" | 3 => "pewholder/api.ErrShape" | 4 => "pewholder/api.ErrMajor" | 5 => "pewholder/api.ErrNone"
  | 6 => "pewholder/api.ErrExist" | 7 => "pewholder/api.ErrFull" | 8 => "pewholder/api.ErrOrder" | 9 => "pewholder/api.ErrClash" | _ => "pewholder/api.ErrSum"
def errTx : Nat → List UInt8
  | 1 => [112, 101, 119, 104, 111, 108, 100, 101, 114, 58, 32, 116, 101, 120, 116]
  | 2 => [112, 101, 119, 104, 111, 108, 100, 101, 114, 58, 32, 98, 111, 117, 110, 100]
  | 3 => [112, 101, 119, 104, 111, 108, 100, 101, 114, 58, 32, 115, 104, 97, 112, 101]
  | 4 => [112, 101, 119, 104, 111, 108, 100, 101, 114, 58, 32, 109, 97, 106, 111, 114]
  | 5 => [112, 101, 119, 104, 111, 108, 100, 101, 114, 58, 32, 110, 111, 110, 101]
  | 6 => [112, 101, 119, 104, 111, 108, 100, 101, 114, 58, 32, 101, 120, 105, 115, 116]
  | 7 => [112, 101, 119, 104, 111, 108, 100, 101, 114, 58, 32, 102, 117, 108, 108]
  | 8 => [112, 101, 119, 104, 111, 108, 100, 101, 114, 58, 32, 111, 114, 100, 101, 114]
  | 9 => [112, 101, 119, 104, 111, 108, 100, 101, 114, 58, 32, 99, 108, 97, 115, 104]
  | _ => [112, 101, 119, 104, 111, 108, 100, 101, 114, 58, 32, 115, 117, 109]
def rangeTx : List UInt8 := [118, 97, 108, 117, 101, 32, 111, 117, 116, 32, 111, 102, 32, 114, 97, 110, 103, 101]

theorem maxLenEnv {W : World} (h : W.ShapedOpen Tryz.prog) : EnvM W := by
  obtain ⟨m, hm⟩ := Tryz.laysM143.s1_3 W h
  exact ⟨m, hm⟩

theorem envP_of {W : World} {l : List (String × DataW Unit)} (h : laidMet Tryz.prog l W) (hsh : W.ShapedOpen Tryz.prog) (ks : List Nat) (hks : 1 ∈ ks ∧ 2 ∈ ks)
    (hm : ∀ k ∈ ks, (errNm k, sentD (errTx k)) ∈ l) (hg : ∀ k ∈ ks, Tryz.prog.globalNamed (errNm k) = some (errG k)) (ht : ∀ k ∈ ks, (Tryz.prog.globals[errG k]?).map (·.type) = some 32)
    (hne : ∀ j ∈ ks, ∀ k ∈ ks, j ≠ k → errNm j ≠ errNm k) (hr : ("strconv.ErrRange", sentD rangeTx) ∈ l) (hp : ("internal/strconv.uint64pow10", Lib.tabData .u64 Lib.pow10Tab) ∈ l) : EnvP ks (errA W) W := by
  refine { m := maxLenEnv hsh, errs := envE_of h ks errNm errTx hm hg ht hne, has := hks, range := ?_, pow10 := ?_ }
  · obtain ⟨ps, hv, hnd, hrows⟩ := h
    obtain ⟨g, a, h1, h2, _⟩ := sent_mem hv hrows hr (fun g hg => by
      obtain rfl := Option.some.inj ((show Tryz.prog.globalNamed "strconv.ErrRange" = some 13 by kernel_rfl).symm.trans hg)
      kernel_rfl)
    obtain rfl := Option.some.inj ((show Tryz.prog.globalNamed "strconv.ErrRange" = some 13 by kernel_rfl).symm.trans h1)
    exact ⟨_, _, h2⟩
  · obtain ⟨ps, hv, _, _⟩ := h
    exact tab_mem (g := 16) (by kernel_rfl) (by kernel_rfl) (Tryz.underlying287) (Tryz.underlying208) (by kernel_rfl) (by kernel_rfl) hv hp

/-- a slice of texts that came in -/
theorem strsAt_open {w : World} {a : Addr} {len cap : Nat} {ss : List ByteArray} (hl : len ≤ cap) (hm : cap ≤ maxLen) (hlen : len ≤ ss.length) (hc : ∀ i, i < ss.length → w.cell? (a.add i) = some (.string (ss.getD i ByteArray.empty))) :
    StrsAt w (.slice (some a) len cap) (lstF len fun j => ss.getD j ByteArray.empty) := by
  refine ⟨some a, len, cap, _, rfl, rfl, hl, by unfold maxLen at hm; exact hm, fun j hj => ?_⟩
  have h0 := hc 0 (by omega)
  have hs : a.spot = none := by
    have e : a.add 0 = a := rfl
    rw [e] at h0
    unfold World.cell? at h0
    split at h0
    · split at h0
      · cases h0
      · rename_i h
        simpa using h
    · cases h0
  obtain ⟨b, o, s⟩ := a
  obtain rfl : s = none := hs
  refine ⟨b, o, rfl, ?_⟩
  have := hc j (by omega)
  have e : (⟨b, o, none⟩ : Addr).add j = ⟨b, o + j, none⟩ := by unfold Addr.add; split <;> simp_all
  rw [e] at this
  exact this

theorem wf64 {x : Int} (h : (Lit.int .i64 x).wf = true) : -9223372036854775808 ≤ x ∧ x ≤ 9223372036854775807 := by
  unfold Lit.wf at h
  simp only [Bool.and_eq_true, decide_eq_true_eq] at h
  exact h

set_option maxRecDepth 100000 in
theorem strsOpen {H : Type} {enc : TypeId × Value → H} {W : World} {base : Nat} {v : Value} {d : DataW H} {p : List MemPlace} (hv : Value.okWide Tryz.prog W .any base 61 v)
    (h : DataW.Trod enc Tryz.prog W 0 (fun _ => true) true 61 v d p) : ∃ l, StrsAt W v l := by
  obtain ⟨a0, len, cap, rfl⟩ := WideShapes.okWide_slice Tryz.underlying61 hv
  obtain ⟨fuel, hf⟩ := h
  rcases ChangeShapes.open_strings Tryz.underlying61 Tryz.underlying9 (by kernel_rfl) hf with ⟨hcs, _⟩ | ⟨a, len', cap', ss, hcs, _, hl, hm, hz, _, hcell, _⟩
  · simp [Value.cells] at hcs
    obtain ⟨rfl, rfl, rfl⟩ := hcs
    exact ⟨[], StrsAt.nil W⟩
  · simp [Value.cells] at hcs
    obtain ⟨rfl, rfl, rfl⟩ := hcs
    exact ⟨_, strsAt_open hl hm (by rw [hz, if_pos rfl]; exact hl) hcell⟩
end Go.Proofs.Pw

/- Arguments of the statements: a module, a slice of modules, as they lie in memory. -/
namespace Go.Proofs.Pw
open Go.RowKit Go.ChangeShapes Go.WideShapes

theorem spot_none {w : World} {a : Addr} {v : Value} (h : w.cell? a = some v) : a.spot = none := by
  unfold World.cell? at h
  split at h
  · split at h
    · cases h
    · rename_i hs
      simpa using hs
  · cases h
theorem add_off (b o i : Nat) : (⟨b, o, none⟩ : Addr).add i = ⟨b, o + i, none⟩ := by unfold Addr.add; split <;> simp_all
set_option maxRecDepth 100000 in
/-- a module's two cells -/
theorem mdTrod {H : Type} {enc : TypeId × Value → H} {w : World} {base : Nat} {spare : Nat → Bool} {held : Bool} {fuel : Nat} {cs : List Value} {x : DataW H × List MemPlace}
    (h : DataW.trod enc Tryz.prog w base spare held fuel 26 cs = some x) : ∃ p v : ByteArray, cs = [.string p, .string v] := by
  obtain ⟨xs, n, _, _, hl, hx, hf⟩ := DataW.trod_struct Tryz.underlying26 h
  have hc : Tryz.prog.cellsOf 26 = 2 := by kernel_rfl
  have hs : Tryz.prog.cellsOf 9 = 1 := by kernel_rfl
  have h0 : DataW.trod enc Tryz.prog w base spare held n 9 ((cs.drop 0).take (Tryz.prog.cellsOf 9)) = xs[0]? := hf 0 _ rfl
  have h1 : DataW.trod enc Tryz.prog w base spare held n 9 ((cs.drop 1).take (Tryz.prog.cellsOf 9)) = xs[1]? := hf 1 _ rfl
  match cs, hl.trans hc with
  | [c0, c1], _ =>
    rw [hs] at h0 h1
    match xs, hx with
    | [x0, x1], _ =>
      obtain ⟨p, e0, _⟩ := DataW.trod_string Tryz.underlying9 h0
      obtain ⟨v, e1, _⟩ := DataW.trod_string Tryz.underlying9 h1
      simp at e0 e1
      exact ⟨p, v, by rw [e0, e1]⟩

set_option maxRecDepth 100000 in
theorem mdOpen {H : Type} {enc : TypeId × Value → H} {W : World} {base : Nat} {v : Value} {d : DataW H} {p : List MemPlace} (hv : Value.okWide Tryz.prog W .any base 26 v)
    (h : DataW.Trod enc Tryz.prog W 0 (fun _ => true) true 26 v d p) : ∃ p v' : ByteArray, v = .agg #[.string p, .string v'] := by
  obtain ⟨cs, rfl, _⟩ := okWide_struct Tryz.underlying26 hv
  obtain ⟨fuel, hf⟩ := h
  obtain ⟨p, v', e⟩ := mdTrod hf
  obtain ⟨l⟩ := cs
  simp [Value.cells] at e
  exact ⟨p, v', by rw [e]⟩

set_option maxRecDepth 100000 in
/-- the cells of a slice of modules -/
theorem modsCells {H : Type} {enc : TypeId × Value → H} {W : World} {fuel : Nat} {cs : List Value} {x : DataW H × List MemPlace}
    (h : DataW.trod enc Tryz.prog W 0 (fun _ => true) true fuel 22 cs = some x) : ∃ a n cap l, cs = [.slice a n cap] ∧ ModsAt W (.slice a n cap) l := by
  rcases Go.Deep.open_slice Tryz.underlying22 h with ⟨rfl, _⟩ | ⟨a, len, cap, m, n, D, Pl, rfl, _, hl, hm, hmm, _, hi⟩
  · exact ⟨none, 0, 0, [], rfl, ModsAt.nil W⟩
  · have hc : Tryz.prog.cellsOf 26 = 2 := by kernel_rfl
    rw [if_pos rfl] at hmm
    have key : ∀ i, i < len → ∃ p v : ByteArray, W.cell? (a.add (i * 2)) = some (.string p) ∧ W.cell? (a.add (i * 2 + 1)) = some (.string v) := fun i h => by
      obtain ⟨cs', h1, h2⟩ := hi i (by omega)
      rw [hc] at h1
      obtain ⟨p, v, rfl⟩ := mdTrod h2
      obtain ⟨_, _, hat⟩ := World.cells?_some h1
      have a0 := hat 0 (by decide)
      have a1 := hat 1 (by decide)
      rw [Go.Deep.add_add] at a0 a1
      exact ⟨p, v, a0, a1⟩
    classical
    let P : Nat → ByteArray := fun i => if h : i < len then (key i h).choose else ByteArray.empty
    let V : Nat → ByteArray := fun i => if h : i < len then (key i h).choose_spec.choose else ByteArray.empty
    refine ⟨some a, len, cap, mdF len P V, rfl, some a, len, cap, P, V, rfl, rfl, hl, by unfold maxLen at hm; exact hm, fun j hj => ?_⟩
    have h0 := (key j hj).choose_spec.choose_spec
    have hs : a.spot = none := by
      have := (key 0 (by omega)).choose_spec.choose_spec.1
      exact spot_none (a := a) this
    obtain ⟨b, o, s⟩ := a
    obtain rfl : s = none := hs
    refine ⟨b, o, rfl, ?_, ?_⟩
    · refine (congrArg W.cell? (add_off b o (j * 2)).symm).trans (h0.1.trans ?_)
      show _ = some (Value.string (if h : j < len then (key j h).choose else ByteArray.empty))
      rw [dif_pos hj]
    · refine (congrArg W.cell? (add_off b o (j * 2 + 1)).symm).trans (h0.2.trans ?_)
      show _ = some (Value.string (if h : j < len then (key j h).choose_spec.choose else ByteArray.empty))
      rw [dif_pos hj]
set_option maxRecDepth 100000 in
theorem modsOpen {H : Type} {enc : TypeId × Value → H} {W : World} {base : Nat} {v : Value} {d : DataW H} {p : List MemPlace} (hv : Value.okWide Tryz.prog W .any base 22 v)
    (h : DataW.Trod enc Tryz.prog W 0 (fun _ => true) true 22 v d p) : ∃ l, ModsAt W v l := by
  obtain ⟨a0, len, cap, rfl⟩ := okWide_slice Tryz.underlying22 hv
  obtain ⟨fuel, hf⟩ := h
  obtain ⟨a, n, c, l, e, hM⟩ := modsCells hf
  simp [Value.cells] at e
  obtain ⟨rfl, rfl, rfl⟩ := e
  exact ⟨l, hM⟩
end Go.Proofs.Pw

/- Arguments of the statements: an index, as it lies in memory. -/
namespace Go.Proofs.Pw
open Go.RowKit Go.ChangeShapes Go.WideShapes

set_option maxRecDepth 100000 in
/-- the cells of a slice of texts -/
theorem strsCells {H : Type} {enc : TypeId × Value → H} {W : World} {fuel : Nat} {cs : List Value} {x : DataW H × List MemPlace}
    (h : DataW.trod enc Tryz.prog W 0 (fun _ => true) true fuel 61 cs = some x) : ∃ a n cap l, cs = [.slice a n cap] ∧ StrsAt W (.slice a n cap) l := by
  rcases ChangeShapes.open_strings Tryz.underlying61 Tryz.underlying9 (by kernel_rfl) h with ⟨hcs, _⟩ | ⟨a, len', cap', ss, hcs, _, hl, hm, hz, _, hcell, _⟩
  · exact ⟨none, 0, 0, [], hcs, StrsAt.nil W⟩
  · exact ⟨_, _, _, _, hcs, strsAt_open hl hm (by rw [hz, if_pos rfl]; exact hl) hcell⟩

set_option maxRecDepth 100000 in
theorem entTrod {H : Type} {enc : TypeId × Value → H} {W : World} {fuel : Nat} {cs : List Value} {x : DataW H × List MemPlace}
    (h : DataW.trod enc Tryz.prog W 0 (fun _ => true) true fuel 63 cs = some x) : ∃ (p v : ByteArray) (rv kv : Value) (R : List Md) (K : List Str) (b : Bool), cs = [.string p, .string v, rv, kv, .bool b] ∧ ModsAt W rv R ∧ StrsAt W kv K := by
  obtain ⟨xs, n, _, _, hl, hx, hf⟩ := DataW.trod_struct Tryz.underlying63 h
  have hc : Tryz.prog.cellsOf 63 = 5 := by kernel_rfl
  have hd : Tryz.prog.cellsOf 26 = 2 := by kernel_rfl
  have hm : Tryz.prog.cellsOf 22 = 1 := by kernel_rfl
  have hk : Tryz.prog.cellsOf 61 = 1 := by kernel_rfl
  have hb : Tryz.prog.cellsOf 4 = 1 := by kernel_rfl
  have h0 : DataW.trod enc Tryz.prog W 0 (fun _ => true) true n 26 ((cs.drop 0).take (Tryz.prog.cellsOf 26)) = xs[0]? := hf 0 _ rfl
  have h1 : DataW.trod enc Tryz.prog W 0 (fun _ => true) true n 22 ((cs.drop 2).take (Tryz.prog.cellsOf 22)) = xs[1]? := hf 1 _ rfl
  have h2 : DataW.trod enc Tryz.prog W 0 (fun _ => true) true n 61 ((cs.drop 3).take (Tryz.prog.cellsOf 61)) = xs[2]? := hf 2 _ rfl
  have h3 : DataW.trod enc Tryz.prog W 0 (fun _ => true) true n 4 ((cs.drop 4).take (Tryz.prog.cellsOf 4)) = xs[3]? := hf 3 _ rfl
  match cs, hl.trans hc with
  | [c0, c1, c2, c3, c4], _ =>
    rw [hd] at h0
    rw [hm] at h1
    rw [hk] at h2
    rw [hb] at h3
    match xs, hx with
    | [x0, x1, x2, x3], _ =>
      obtain ⟨p, v, e0⟩ := mdTrod h0
      obtain ⟨a1, n1, q1, R, e1, hR⟩ := modsCells h1
      obtain ⟨a2, n2, q2, K, e2, hK⟩ := strsCells h2
      obtain ⟨b, e3, _⟩ := DataW.trod_bool Tryz.underlying4 h3
      simp at e0 e1 e2 e3
      exact ⟨p, v, _, _, R, K, b, by rw [e0.1, e0.2, e1, e2, e3], hR, hK⟩

set_option maxRecDepth 100000 in
/-- the cells of a slice of entries -/
theorem entsCells {H : Type} {enc : TypeId × Value → H} {W : World} {fuel : Nat} {cs : List Value} {x : DataW H × List MemPlace}
    (h : DataW.trod enc Tryz.prog W 0 (fun _ => true) true fuel 50 cs = some x) : ∃ a n cap l, cs = [.slice a n cap] ∧ EntsAt W (.slice a n cap) l := by
  rcases Go.Deep.open_slice Tryz.underlying50 h with ⟨rfl, _⟩ | ⟨a, len, cap, m, n, D, Pl, rfl, _, hl, hm, hmm, _, hi⟩
  · exact ⟨none, 0, 0, [], rfl, EntsAt.nil W⟩
  · have hc : Tryz.prog.cellsOf 63 = 5 := by kernel_rfl
    rw [if_pos rfl] at hmm
    have key : ∀ i, i < len → ∃ x : ByteArray × ByteArray × Value × Value × List Md × List Str × Bool, (W.cell? (a.add (i * 5)) = some (.string x.1) ∧ W.cell? (a.add (i * 5 + 1)) = some (.string x.2.1) ∧ W.cell? (a.add (i * 5 + 2)) = some x.2.2.1 ∧ W.cell? (a.add (i * 5 + 3)) = some x.2.2.2.1 ∧ W.cell? (a.add (i * 5 + 4)) = some (.bool x.2.2.2.2.2.2)) ∧ ModsAt W x.2.2.1 x.2.2.2.2.1 ∧ StrsAt W x.2.2.2.1 x.2.2.2.2.2.1 := fun i h => by
      obtain ⟨cs', h1, h2⟩ := hi i (by omega)
      rw [hc] at h1
      obtain ⟨p, v, rv, kv, R, K, b, rfl, hR, hK⟩ := entTrod h2
      obtain ⟨_, _, hat⟩ := World.cells?_some h1
      have a0 := hat 0 (by decide)
      have a1 := hat 1 (by decide)
      have a2 := hat 2 (by decide)
      have a3 := hat 3 (by decide)
      have a4 := hat 4 (by decide)
      rw [Go.Deep.add_add] at a0 a1 a2 a3 a4
      exact ⟨(p, v, rv, kv, R, K, b), ⟨a0, a1, a2, a3, a4⟩, hR, hK⟩
    obtain ⟨F, hF⟩ : ∃ F : Nat → ByteArray × ByteArray × Value × Value × List Md × List Str × Bool, ∀ i, i < len → (W.cell? (a.add (i * 5)) = some (.string (F i).1) ∧ W.cell? (a.add (i * 5 + 1)) = some (.string (F i).2.1) ∧ W.cell? (a.add (i * 5 + 2)) = some (F i).2.2.1 ∧ W.cell? (a.add (i * 5 + 3)) = some (F i).2.2.2.1 ∧ W.cell? (a.add (i * 5 + 4)) = some (.bool (F i).2.2.2.2.2.2)) ∧ ModsAt W (F i).2.2.1 (F i).2.2.2.2.1 ∧ StrsAt W (F i).2.2.2.1 (F i).2.2.2.2.2.1 := by
      classical
      refine ⟨fun i => if h : i < len then (key i h).choose else (ByteArray.empty, ByteArray.empty, .nilIface, .nilIface, [], [], false), fun i hi => ?_⟩
      simp only [dif_pos hi]
      exact (key i hi).choose_spec
    refine ⟨some a, len, cap, enF len (fun i => (F i).1) (fun i => (F i).2.1) (fun i => (F i).2.2.2.2.1) (fun i => (F i).2.2.2.2.2.1) (fun i => (F i).2.2.2.2.2.2), rfl, some a, len, cap, _, _, _, _, _, fun i => (F i).2.2.1, fun i => (F i).2.2.2.1, rfl, rfl, hl, by unfold maxLen at hm; exact hm, fun j hj => ?_, fun j hj => (hF j hj).2.1, fun j hj => (hF j hj).2.2⟩
    have hs : a.spot = none := spot_none (a := a) (hF 0 (by omega)).1.1
    obtain ⟨b, o, s⟩ := a
    obtain rfl : s = none := hs
    obtain ⟨c0, c1, c2, c3, c4⟩ := (hF j hj).1
    rw [add_off] at c0 c1 c2 c3 c4
    exact ⟨b, o, rfl, c0, by rw [Nat.add_assoc]; exact c1, by rw [Nat.add_assoc]; exact c2, by rw [Nat.add_assoc]; exact c3, by rw [Nat.add_assoc]; exact c4⟩
set_option maxRecDepth 100000 in
theorem entsOpen {H : Type} {enc : TypeId × Value → H} {W : World} {base : Nat} {v : Value} {d : DataW H} {p : List MemPlace} (hv : Value.okWide Tryz.prog W .any base 50 v)
    (h : DataW.Trod enc Tryz.prog W 0 (fun _ => true) true 50 v d p) : ∃ l, EntsAt W v l := by
  obtain ⟨a0, len, cap, rfl⟩ := okWide_slice Tryz.underlying50 hv
  obtain ⟨fuel, hf⟩ := h
  obtain ⟨a, n, c, l, e, hM⟩ := entsCells hf
  simp [Value.cells] at e
  obtain ⟨rfl, rfl, rfl⟩ := e
  exact ⟨l, hM⟩
end Go.Proofs.Pw

/- What every law's proof shares: from a call that returns true and writes nothing that was there, to the row's post; the builder that hands on the listed variables and the world's shape together. No program in sight. -/
namespace Go.Proofs.Pw
open Go.RowKit

theorem trodAll_below {H : Type} {enc : TypeId × Value → H} {P : Program} (hl : laidOutB P = true) {W W' : World} (hb : Below W.heap.size W W') :
    ∀ (ts : List TypeId) (vs : List Value) (ds : List (DataW H)) (ps : List MemPlace), (∀ t ∈ ts, P.readableRec t = true ∧ t < P.types.size) → (∀ x ∈ ps, x.block < W.heap.size) →
      DataW.TrodAll enc P W 0 (fun _ => true) true ts vs ds ps → DataW.TrodAll enc P W' 0 (fun b => decide (b < W.heap.size)) true ts vs ds ps
  | [], [], [], _, _, _, h => h
  | t :: ts, v :: vs, d :: ds, ps, hr, hlt, h => by
    obtain ⟨p, q, h1, h2, rfl⟩ := h
    exact ⟨p, q, Below.trod hl (hr t (by simp)).1 (hr t (by simp)).2 h1 hb (fun x hx => hlt x (by simp [hx])),
      trodAll_below hl hb ts vs ds q (fun u hu => hr u (by simp [hu])) (fun x hx => hlt x (by simp [hx])) h2, rfl⟩
  | [], _ :: _, _, _, _, _, h => h.elim
  | [], [], _ :: _, _, _, _, h => h.elim
  | _ :: _, [], _, _, _, _, h => h.elim
  | _ :: _, _ :: _, [], _, _, _, h => h.elim

theorem law_post {H : Type} {enc : TypeId × Value → H} {P : Program} {fn : Func} {s : ChangeSpec} {tb : TypeId} {W W' : World} {args : Array Value} {ds gs : List (DataW H)} {before : List MemPlace}
    (hl : laidOutB P = true) (hr : (fn.params.toList.all fun t => P.readableRec t && decide (t < P.types.size)) = true) (hres : fn.resultTypes = #[tb]) (htb : P.underlying tb = some .bool)
    (hvars : s.vars = []) (hspec : s.fn H (ds ++ gs) = { results := [.lit (.bool true)], args := ds })
    (hW : DataW.Whole enc P fn.params.toList s.vars false W args.toList ds gs before) (hb : Below W.heap.size W W') :
    s.post enc P fn false true false false W args (.bool true) W' := by
  have hW' := hW
  have hlt := hW.lt
  obtain ⟨p, q, hA, hV, rfl, hfz, _⟩ := hW
  have hlp : ∀ x ∈ p, x.block < W.heap.size := fun x hx => hlt x (by simp [hx])
  rw [List.all_eq_true] at hr
  refine ⟨ds, gs, _, [], p, [], hW', ?_, ?_, ?_, hb.frame _, fun h => by cases h⟩
  · rw [hspec, hres]
    exact ChangeShapes.trodAll_mk1 (shut_bool htb true)
  · rw [hspec]
    exact trodAll_below hl hb _ _ _ _ (fun t ht => by simpa using hr t ht) hlp hA
  · rw [hspec, hvars]
    rfl

theorem law_lifted {H : Type} {enc : TypeId × Value → H} {C : Checked} {os : Os} {f : FuncId} {fn : Func} {s : ChangeSpec} {tb : TypeId} {laid : List (String × DataW Unit)}
    (own : ownKnob C.prog.godebug = none) (started : os.Started) (noInit : C.prog.inits.idxOf? f = none) (hfn : C.prog.funcs[f]? = some fn)
    (hl : laidOutB C.prog = true) (hr : (fn.params.toList.all fun t => C.prog.readableRec t && decide (t < C.prog.types.size)) = true) (hres : fn.resultTypes = #[tb]) (htb : C.prog.underlying tb = some .bool)
    (hvars : s.vars = [])
    (witness : ∃ (w : World) (tape : Tape) (i : Input), w.os = os ∧ (w.forCall tape i).Shaped C.prog ∧ i.vars = [] ∧ Input.okWide C.prog (w.forCall tape i) .any w.heap.size f i ∧
      ((s.pre enc C.prog fn [] false (w.forCall tape i).memory i.args ∧ laidMetH C.prog laid (w.forCall tape i).memory) ∧ sizedMet enc C.prog fn (OpenSpec.ofChange s) false (w.forCall tape i).memory i.args) ∧ ({} : Assume).holds C.prog (lone (Frame.enter C.prog f i.args .normal) [] (w.forCall tape i)))
    (contract : ∀ (W : World) (base : Nat) (args : Array Value) (ds gs : List (DataW H)) (p q : List MemPlace),
      (∀ (j : Nat) t v, fn.params[j]? = some t → args[j]? = some v → Value.okWide C.prog W .any base t v) →
      DataW.TrodAll enc C.prog W 0 (fun _ => true) true fn.params.toList args.toList ds p → DataW.TrodVars enc C.prog W (fun _ => true) s.vars gs q →
      (∀ x ∈ p, x.block < W.heap.size) →
      (DataW.weightsEach C.prog (fn.params.toList ++ s.plain.varTypes C.prog) (ds ++ gs)).all (· ≤ reachBytes) = true → laidMetH C.prog laid W → W.ShapedOpen C.prog →
      s.fn H (ds ++ gs) = { results := [.lit (.bool true)], args := ds } ∧ Calls C.prog f args W fun e W' => e = .returned (.bool true) ∧ Below W.heap.size W W') :
    ReturnsInHanded {} C os f .any (fun w args => (s.pre enc C.prog fn [] false w args ∧ laidMetH C.prog laid w) ∧ sizedMet enc C.prog fn (OpenSpec.ofChange s) false w args) (s.post enc C.prog fn false true false false) := by
  refine returnsInHanded_of_calls own started noInit witness ?_
  intro w tape i _ hsh _ hok hpre _
  obtain ⟨_, _, _, fn', hfn', _, _, _, _, hval⟩ := hok
  obtain rfl : fn' = fn := Option.some.inj (hfn'.symm.trans hfn)
  obtain ⟨⟨⟨ds, gs, before, hw, _⟩, hx⟩, hz⟩ := hpre
  have hw' := DataW.Whole.of_heap (w' := w.forCall tape i) (by rfl) hw
  have hlt := hw'.lt
  obtain ⟨p, q, hA, hV, hpq, _, _⟩ := id hw'
  obtain ⟨hspec, hcall⟩ := contract (w.forCall tape i) w.heap.size i.args ds gs p q hval hA hV (fun x hx => hlt x (by rw [hpq]; simp [hx])) (hz.weights hw) (hx.of_heap (by rfl)) hsh
  refine hcall.mono fun e W' ⟨he, hb⟩ => ?_
  subst he
  exact ChangeSpec.post_blind (law_post hl hr hres htb hvars hspec hw' hb)
end Go.Proofs.Pw

/- Closed facts of the seat's program that every law's last text uses. -/
namespace Go.Proofs.Pw
open Go.RowKit
theorem Tryz.factLaid : laidOutB Tryz.prog = true := by kernel_rfl
theorem Tryz.factMaps : mapsRowed Tryz.prog = true := by kernel_rfl
end Go.Proofs.Pw
