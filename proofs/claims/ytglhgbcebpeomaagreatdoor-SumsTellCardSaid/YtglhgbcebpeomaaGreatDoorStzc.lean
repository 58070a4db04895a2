/- St: walks and plain laws, joined: SumsTell. Conditions: at each theorem. -/
import Derived.Test.YtglhgbcebpeomaaGreatDoorStt
import Derived.Test.YtglhgbcebpeomaaGreatDoorStu
import Derived.Test.YtglhgbcebpeomaaGreatDoorStw
import Derived.Test.YtglhgbcebpeomaaGreatDoorStza
import Derived.Test.YtglhgbcebpeomaaGreatDoorStzb
import Derived.Test.YtglhgbcebpeomaaGreatDoorStm
import Derived.Test.YtglhgbcebpeomaaGreatDoorStj

namespace Go.Proofs.Pw
open Go.RowKit Go.Sort
open Go.Lib hiding intOf
theorem firstE_leS {g : Nat → Nat} {c : Nat} (hg : ∀ j, g j ≤ c) : ∀ n, (firstE g n).1 ≤ c
  | 0 => Nat.zero_le _
  | n + 1 => by
    rw [firstE]
    split
    · exact firstE_leS hg n
    · split
      · exact hg n
      · exact Nat.zero_le _
theorem mdErr_le10 (m : Md) : mdErr m ≤ 10 := by
  have h := reqE_le [] [m] 0
  unfold reqE at h
  rw [show mdAt [m] 0 = m from rfl] at h
  by_cases h0 : mdErr m ≠ 0
  · rw [if_pos h0] at h; exact h
  · have : mdErr m = 0 := Decidable.not_not.1 h0
    omega
theorem linesErr_le (l : List Ln) : (linesErr l).1 ≤ 10 := firstE_leS (fun j => by
  unfold excE
  split
  · exact mdErr_le10 _
  · split <;> decide) _
theorem verifyErr_le (l : List En) (S : List Md) (h : List Ln) : (verifyErr l S h).1 ≤ 10 := orE_le (startErr_le l S) (firstE_leS (fun j => by
  unfold verE
  split
  · decide
  · split <;> decide) _)
theorem lineE_le (t : Str) : lineE t ≤ 10 := by
  unfold lineE
  simp only
  split
  · decide
  · split
    · decide
    · exact mdErr_le10 (_, _)
theorem readX_le : ∀ (x : List Str) (out : List Ln) (i : Nat), (readX out i x).2.1 ≤ 10
  | [], _, _ => by rw [readX]; exact Nat.zero_le _
  | [t], _, _ => by
    rw [readX]
    split
    · exact (show (1 : Nat) ≤ 10 by decide)
    · exact Nat.zero_le _
  | t :: u :: r, out, i => by
    rw [readX]
    split
    · exact lineE_le t
    · split
      · exact (show (8 : Nat) ≤ 10 by decide)
      · exact readX_le (u :: r) _ _
theorem readLs_le (s : Str) : (readLs s).2.1 ≤ 10 := readX_le _ _ _
theorem sumsL_32 (l : List En) (S : List Md) : ∀ x ∈ sumsL l S, x.2 < 4294967296 := fun x hx => by
  unfold sumsL at hx
  split at hx
  · obtain ⟨m, _, rfl⟩ := List.mem_map.1 hx
    exact sumOf_32 _
  · cases hx
theorem LnsAt.other {kd : IntKind} {w : World} {v : Value} {l : List Ln} {c k : Nat} (h : LnsAt kd w v l) (hc : ∀ q n m, v = .slice (some q) n m → q.block ≠ c) (u : Value) : LnsAt kd (w.setCell ⟨c, k, none⟩ u) v l := by
  obtain ⟨a, n, cap, P, V, S, rfl, rfl, h3⟩ := h
  refine ⟨a, n, cap, P, V, S, rfl, rfl, h3.le, h3.cap, fun j hj => ?_⟩
  obtain ⟨b, o, e, c0, c1, c2⟩ := h3.at_ j hj
  have hne : b ≠ c := hc ⟨b, o, none⟩ n cap (by rw [e])
  exact ⟨b, o, e, by rw [set_blk _ hne]; exact c0, by rw [set_blk _ hne]; exact c1, by rw [set_blk _ hne]; exact c2⟩
theorem sumIn_small {e : En} (h : longEn e = false) : SumIn e.reqs e.packs := by
  obtain ⟨_, _, h3, h4, h5⟩ := longEn_small h
  obtain ⟨h6, h7⟩ := longMods_small h3
  exact ⟨by omega, fun m hm => by have := h7 m hm; omega, by omega, fun s hs => by have := h5 s hs; omega⟩
theorem sumsOf_own (ks : List Nat) (A : Nat → Addr) (h4 : 4 ∈ ks) {ln : Nat} {P V : Nat → ByteArray} {R : Nat → List Md} {K : Nat → List Str} {Bk : Nat → Bool} {l : List En} (hl0 : enF ln P V R K Bk = l) (oa : Option Addr) (on oc : Nat) (P' V' : Nat → ByteArray) (R' : Nat → List Md) (K' : Nat → List Str) (B' : Nat → Bool) (Rv' Kv' : Nat → Value) (hOl : l = enF on P' V' R' K' B') (k : Nat) (hk : k < ln) (W : World) (hE : EnvP ks A W) (hO : EntsIn W oa on oc P' V' R' K' B' Rv' Kv') (h1 : (P k).size ≤ 1000000) (h2 : (V k).size ≤ 1000000) (h3 : SumIn (R k) (K k)) :
    Calls Tryz.prog 13 #[.agg #[.string (P' k), .string (V' k), Rv' k, Kv' k, .bool (B' k)]] W fun e w' => e = .returned (.int .u32 (sumOf ⟨((P k).data.toList, (V k).data.toList), R k, K k, Bk k⟩ : Nat)) ∧ Below W.heap.size W w' := by
  have hon : on = ln := by
    have := congrArg List.length (hl0.trans hOl)
    rw [enF_length, enF_length] at this
    exact this.symm
  have hen : enAt l k = ⟨((P' k).data.toList, (V' k).data.toList), R' k, K' k, B' k⟩ := by rw [hOl, enAt_enF (by omega)]
  have hen2 : enAt l k = ⟨((P k).data.toList, (V k).data.toList), R k, K k, Bk k⟩ := by rw [← hl0, enAt_enF hk]
  rw [hen2] at hen
  have g2 : R k = R' k := congrArg (·.reqs) hen
  have g3 : K k = K' k := congrArg (·.packs) hen
  have g1 := congrArg (·.md) hen
  have g1a : (P k).data.toList = (P' k).data.toList := congrArg (·.1) g1
  have g1b : (V k).data.toList = (V' k).data.toList := congrArg (·.2) g1
  rw [hen]
  refine sumsOf_calls ks A h4 (P' k) (V' k) (Rv' k) (Kv' k) (B' k) (R' k) (K' k) W hE (hO.reqs k (by omega)) (hO.packs k (by omega)) ?_ ?_ ?_
  · rw [size_eq, ← g1a, ← size_eq]; exact h1
  · rw [size_eq, ← g1b, ← size_eq]; exact h2
  · rw [← g2, ← g3]; exact h3
structure StArgs (ks : List Nat) (A : Nat → Addr) (la : Option Addr) (ln lc : Nat) (P V : Nat → ByteArray) (R : Nat → List Md) (K : Nat → List Str) (Bk : Nat → Bool) (Rv Kv : Nat → Value) (sv : Value) (sel : List Md) (w : World) : Prop where
  idx : IdxKs ks
  ten : 10 ∈ ks
  env : EnvP ks A w
  envC : EnvC A w
  l : EntsIn w la ln lc P V R K Bk Rv Kv
  s : ModsAt w sv sel
theorem longI_isS (l : List Md) (most : Nat) : longI l most = if longMods l most then 1 else 0 := rfl
set_option maxHeartbeats 8000000 in
set_option maxRecDepth 100000 in
theorem sumsTell_long (ks : List Nat) (A : Nat → Addr) (la : Option Addr) (ln lc : Nat) (P V : Nat → ByteArray) (R : Nat → List Md) (K : Nat → List Str) (Bk : Nat → Bool) (Rv Kv : Nat → Value) (sv : Value) (sel : List Md) (ha : Option Addr) (hn hc : Nat) (Ph Vh : Nat → ByteArray) (Sh : Nat → Int) (s : ByteArray) (w : World) (H : StArgs ks A la ln lc P V R K Bk Rv Kv sv sel w) (hh : LnsIn .i64 w ha hn hc Ph Vh Sh)
    (hlong : longIdx (enF ln P V R K Bk) = true ∨ (longIdx (enF ln P V R K Bk) = false ∧ (longMods sel 15 = true ∨ (longMods sel 15 = false ∧ (20 < hn ∨ (hn ≤ 20 ∧ (500 < s.size ∨ (s.size ≤ 500 ∧ ∃ k, k < hn ∧ (70 < (Ph k).size ∨ 60 < (Vh k).size ∨ Sh k < 0 ∨ 4294967295 < Sh k) ∧ ∀ j, j < k → (Ph j).size ≤ 70 ∧ (Vh j).size ≤ 60 ∧ 0 ≤ Sh j ∧ Sh j ≤ 4294967295)))))))) :
    Calls Tryz.prog 3 #[.slice la ln lc, sv, .slice ha hn hc, .string s] w fun e w' => e = .returned (.bool true) ∧ Below w.heap.size w w' := by
  have hre := summed_calls ks A H.idx H.ten w H.env
  have hlx := fun (W : World) (hb : Below w.heap.size w W) => longIndex_in la ln lc P V R K Bk Rv Kv W (H.l.below hb)
  have hlm := fun (W : World) (hb : Below w.heap.size w W) => longMods_calls sv sel 15 W (H.s.below hb)
  rw [longI_isS] at hlm
  have HIN := Lib.hid hh
  replace hre := Lib.hid hre
  replace hlx := Lib.hid hlx
  replace hlm := Lib.hid hlm
  clear H hh
  rcases hlong with h1 | ⟨h1, h2 | ⟨h2, h3 | ⟨h3, h4 | ⟨h4, k0, hk0, hbad, hgood⟩⟩⟩⟩
  · rw [longII_yes h1] at hlx
    clear h1
    go_enter Tryz.func3, Tryz.ntmps3
    go_wp2_with fail
    refine hre.out.mono ?_
    rintro e w1 ⟨rfl, hB⟩
    go_wp2_with fail
    refine (hlx.out _ hB).mono ?_
    rintro e w' ⟨rfl, rfl⟩
    clear hlx hre
    go_wp2_with fail
    go_ret
    exact ⟨rfl, hB⟩
  · rw [longII_no h1] at hlx
    rw [h2] at hlm
    simp only [if_true] at hlm
    clear h1 h2
    go_enter Tryz.func3, Tryz.ntmps3
    go_wp2_with fail
    refine hre.out.mono ?_
    rintro e w1 ⟨rfl, hB⟩
    go_wp2_with fail
    refine (hlx.out _ hB).mono ?_
    rintro e w' ⟨rfl, rfl⟩
    clear hlx hre
    go_wp2_with fail
    refine (hlm.out _ hB).mono ?_
    rintro e w' ⟨rfl, rfl⟩
    clear hlm
    go_wp2_with fail
    go_ret
    exact ⟨rfl, hB⟩
  · rw [longII_no h1] at hlx
    rw [h2] at hlm
    simp only [Bool.false_eq_true, if_false] at hlm
    have h3' : (20 : Int) < (hn : Int) := by omega
    clear h1 h2
    go_enter Tryz.func3, Tryz.ntmps3
    go_wp2_with fail
    refine hre.out.mono ?_
    rintro e w1 ⟨rfl, hB⟩
    go_wp2_with fail
    refine (hlx.out _ hB).mono ?_
    rintro e w' ⟨rfl, rfl⟩
    clear hlx hre
    go_wp2_with fail
    refine (hlm.out _ hB).mono ?_
    rintro e w' ⟨rfl, rfl⟩
    clear hlm
    go_wp2_with fail
    go_ret
    exact ⟨rfl, hB⟩
  · rw [longII_no h1] at hlx
    rw [h2] at hlm
    simp only [Bool.false_eq_true, if_false] at hlm
    have h3' : ¬ (20 : Int) < (hn : Int) := by omega
    have h4' : (500 : Int) < (s.size : Int) := by omega
    clear h1 h2
    go_enter Tryz.func3, Tryz.ntmps3
    go_wp2_with fail
    refine hre.out.mono ?_
    rintro e w1 ⟨rfl, hB⟩
    go_wp2_with fail
    refine (hlx.out _ hB).mono ?_
    rintro e w' ⟨rfl, rfl⟩
    clear hlx hre
    go_wp2_with fail
    refine (hlm.out _ hB).mono ?_
    rintro e w' ⟨rfl, rfl⟩
    clear hlm
    go_wp2_with fail
    go_ret
    exact ⟨rfl, hB⟩
  · rw [longII_no h1] at hlx
    rw [h2] at hlm
    simp only [Bool.false_eq_true, if_false] at hlm
    have h3' : ¬ (20 : Int) < (hn : Int) := by omega
    have h4' : ¬ (500 : Int) < (s.size : Int) := by omega
    have HG := Lib.hid hgood
    have HBD := Lib.hid hbad
    clear h1 h2 hgood hbad
    go_enter Tryz.func3, Tryz.ntmps3
    go_wp2_with fail
    refine hre.out.mono ?_
    rintro e w1 ⟨rfl, hB⟩
    go_wp2_with fail
    refine (hlx.out _ hB).mono ?_
    rintro e w' ⟨rfl, rfl⟩
    clear hlx hre
    go_wp2_with fail
    refine (hlm.out _ hB).mono ?_
    rintro e w' ⟨rfl, rfl⟩
    clear hlm
    go_wp2_with fail
    go_loop [10] (fun i => ∃ k : Nat, k ≤ k0 ∧ i = .int .i64 k) (fun i => k0 - (intOf i).toNat)
    case atStart => exact ⟨0, Nat.zero_le _, rfl⟩
    case round =>
      obtain ⟨k, hk, rfl⟩ := hrel
      have hkn : (k : Int) < (hn : Int) := by omega
      obtain ⟨b1, o1, ea, c0, c1, c2⟩ := (HIN.out.below hB).at_ k (by omega)
      subst ea
      by_cases hlt : k < k0
      · obtain ⟨g1, g2, g3, g4⟩ := HG.out k hlt
        have g1' : ¬ (70 : Int) < ((Ph k).size : Int) := by omega
        have g2' : ¬ (60 : Int) < ((Vh k).size : Int) := by omega
        have g3' : ¬ Sh k < 0 := by omega
        have g4' : ¬ 4294967295 < Sh k := by omega
        clear g1 g2 g3 g4
        go_wp2_with fail
        go_round
        case rel => exact ⟨k + 1, by omega, by go_num⟩
        case measure => simp [intOf]; omega
      · obtain rfl : k = k0 := by omega
        by_cases g1 : 70 < (Ph k).size
        · have g1' : (70 : Int) < ((Ph k).size : Int) := by omega
          clear g1
          go_wp2_with fail
          go_ret
          exact ⟨rfl, hB⟩
        · have g1' : ¬ (70 : Int) < ((Ph k).size : Int) := by omega
          by_cases g2 : 60 < (Vh k).size
          · have g2' : (60 : Int) < ((Vh k).size : Int) := by omega
            clear g1 g2
            go_wp2_with fail
            go_ret
            exact ⟨rfl, hB⟩
          · have g2' : ¬ (60 : Int) < ((Vh k).size : Int) := by omega
            by_cases g3 : Sh k < 0
            · clear g1 g2
              go_wp2_with fail
              go_ret
              exact ⟨rfl, hB⟩
            · have g4 : 4294967295 < Sh k := by
                rcases HBD.out with h | h | h | h
                · exact absurd h g1
                · exact absurd h g2
                · exact absurd h g3
                · exact h
              clear g1 g2
              go_wp2_with fail
              go_ret
              exact ⟨rfl, hB⟩
set_option maxHeartbeats 16000000 in
set_option maxRecDepth 100000 in
theorem sumsTell_main (ks : List Nat) (A : Nat → Addr) (la : Option Addr) (ln lc : Nat) (P V : Nat → ByteArray) (R : Nat → List Md) (K : Nat → List Str) (Bk : Nat → Bool) (Rv Kv : Nat → Value) (sv : Value) (sel : List Md) (ha : Option Addr) (hn hc : Nat) (Ph Vh : Nat → ByteArray) (Th : Nat → Nat) (s : ByteArray) (w : World) (H : StArgs ks A la ln lc P V R K Bk Rv Kv sv sel w) (hh : LnsIn .i64 w ha hn hc Ph Vh fun j => ((Th j : Nat) : Int))
    (h1 : longIdx (enF ln P V R K Bk) = false) (h2 : longMods sel 15 = false) (h3 : hn ≤ 20) (h4 : s.size ≤ 500) (hok : ∀ j, j < hn → (Ph j).size ≤ 70 ∧ (Vh j).size ≤ 60 ∧ Th j < 4294967296) :
    Calls Tryz.prog 3 #[.slice la ln lc, sv, .slice ha hn hc, .string s] w fun e w' => e = .returned (.bool true) ∧ Below w.heap.size w w' := by
  have hre := summed_calls ks A H.idx H.ten w H.env
  have hlx := fun (W : World) (hb : Below w.heap.size w W) => longIndex_in la ln lc P V R K Bk Rv Kv W (H.l.below hb)
  have hlm := fun (W : World) (hb : Below w.heap.size w W) => longMods_calls sv sel 15 W (H.s.below hb)
  rw [longI_isS, h2] at hlm
  simp only [Bool.false_eq_true, if_false] at hlm
  have hsi := longIdx_short h1
  have hsm := longIdx_small h1
  have hs15 := (longMods_small h2).1
  have h3' : ¬ (20 : Int) < (hn : Int) := by omega
  have h4' : ¬ (500 : Int) < (s.size : Int) := by omega
  have HH := Lib.hid H
  have HIN := Lib.hid hh
  have HOKJ := Lib.hid hok
  have how := fun (W : World) (hb : Below w.heap.size w W) => ownIndex_calls (.slice la ln lc) (enF ln P V R K Bk) W ⟨la, ln, lc, P, V, R, K, Bk, Rv, Kv, rfl, rfl, HH.out.l.below hb⟩ (by have := hsm.1; omega) (fun e he => by
    have h4 := longEn_small (hsm.2 e he)
    have h5 := longMods_small h4.2.2.1
    exact ⟨by omega, by omega⟩)
  have hom := fun (W : World) (hb : Below w.heap.size w W) => ownMods_calls sv sel W (HH.out.s.below hb) (by omega)
  have HSM : Hid (∀ k, k < ln → (P k).size ≤ 1000000 ∧ (V k).size ≤ 1000000 ∧ SumIn (R k) (K k)) := Lib.hid (fun k hk => by
    have he := List.mem_of_getElem? (enF_get ln P V R K Bk k hk)
    have h5 := sumIn_small (hsm.2 _ he)
    have h6 := longEn_small (hsm.2 _ he)
    exact ⟨by rw [size_eq]; exact Nat.le_trans h6.1 (by decide), by rw [size_eq]; exact Nat.le_trans h6.2.1 (by decide), h5⟩)
  obtain ⟨HLn, hHL⟩ : ∃ x, x = lnF hn Ph Vh Th := ⟨_, rfl⟩
  have hHA : LnsAt .i64 w (.slice ha hn hc) HLn := ⟨ha, hn, hc, Ph, Vh, Th, rfl, hHL, hh⟩
  have hOK : LnOk HLn := ⟨by rw [hHL, lnF_length]; omega, fun x hx => by
    rw [hHL] at hx
    obtain ⟨j, hj⟩ := List.mem_iff_getElem?.1 hx
    have hjl : j < hn := by have := (List.getElem?_eq_some_iff.1 hj).1; rwa [lnF_length] at this
    rw [lnF_get _ _ _ _ j hjl] at hj
    rw [← Option.some.inj hj]
    obtain ⟨g1, g2, g3⟩ := hok j hjl
    rw [size_eq] at g1 g2
    exact ⟨Nat.le_trans g1 (by decide), Nat.le_trans g2 (by decide), g3⟩⟩
  have h32 : ∀ x ∈ HLn, x.2 < 4294967296 := fun x hx => (hOK.at_ x hx).2.2
  have hlen : HLn.length ≤ 1000000 := by have := hOK.len; omega
  obtain ⟨l, hl0⟩ : ∃ l, enF ln P V R K Bk = l := ⟨_, rfl⟩
  have HLEN : Hid (l.length = ln) := Lib.hid (by rw [← hl0, enF_length])
  have hso := fun (W : World) (hb : Below w.heap.size w W) => refSumsOf_in la ln lc P V R K Bk Rv Kv sv sel l hl0 W (HH.out.l.below hb) (HH.out.s.below hb) (by rw [← hl0]; exact hsi) (by omega)
  have hrv := fun (W : World) (hb : Below w.heap.size w W) => refVerify_in la ln lc P V R K Bk Rv Kv sv (.slice ha hn hc) sel HLn l hl0 W (HH.out.l.below hb) (HH.out.s.below hb) (by rw [← hl0]; exact hsi) (by omega) (hHA.below hb) hlen
  have hrt := fun (W : World) (hb : Below w.heap.size w W) => refLines_calls (.slice ha hn hc) HLn W (hHA.below hb) hOK
  have hrr := fun (W : World) (_ : Below w.heap.size w W) => refReadL_calls s W (by omega)
  have has := fun (W : World) (hb : Below w.heap.size w W) => asLines_calls (.slice ha hn hc) HLn W (hHA.below hb) hlen h32
  have hpt := fun (v : Value) (W : World) (hb : Below w.heap.size w W) (hv : LnsAt .u32 W v HLn) => sumsText_calls ks A HH.out.idx v HLn W (HH.out.env.below hb) hv hOK
  have hpr := fun (W : World) (hb : Below w.heap.size w W) => sumsRead_calls ks A HH.out.idx s W (HH.out.env.below hb) (by omega)
  have hrs := fun (k : Nat) (hk : k < ln) (W : World) (hb : Below w.heap.size w W) => refSumOf_calls (P k) (V k) (Rv k) (Kv k) (Bk k) (R k) (K k) W ((HH.out.l.below hb).reqs k hk) ((HH.out.l.below hb).packs k hk) (HSM.out k hk).1 (HSM.out k hk).2.1 (HSM.out k hk).2.2
  simp only [hl0] at hsi hlx how h1
  have hpa := fun (oa : Option Addr) (on oc : Nat) P' V' R' K' B' Rv' Kv' (hOl : l = enF on P' V' R' K' B') (v : Value) (W : World) (hb : Below w.heap.size w W) (hO : EntsIn W oa on oc P' V' R' K' B' Rv' Kv') (hv : ModsAt W v sel) => sumsAll_in ks A HH.out.idx oa on oc P' V' R' K' B' Rv' Kv' v sel l hOl.symm W (HH.out.env.below hb) hO hsi hv (by omega)
  have hpv := fun (oa : Option Addr) (on oc : Nat) P' V' R' K' B' Rv' Kv' (hOl : l = enF on P' V' R' K' B') (v hv : Value) (W : World) (hb : Below w.heap.size w W) (hO : EntsIn W oa on oc P' V' R' K' B' Rv' Kv') (hm : ModsAt W v sel) (hx : LnsAt .u32 W hv HLn) => sumsVerify_in ks A HH.out.idx HH.out.ten oa on oc P' V' R' K' B' Rv' Kv' v hv sel HLn l hOl.symm W (HH.out.env.below hb) hO hsi hm (by omega) hx hlen
  have hps := fun (oa : Option Addr) (on oc : Nat) P' V' R' K' B' Rv' Kv' (hOl : l = enF on P' V' R' K' B') (k : Nat) (hk : k < ln) (W : World) (hb : Below w.heap.size w W) (hO : EntsIn W oa on oc P' V' R' K' B' Rv' Kv') => sumsOf_own ks A HH.out.idx.2.1 hl0 oa on oc P' V' R' K' B' Rv' Kv' hOl k hk W (HH.out.env.below hb) hO (HSM.out k hk).1 (HSM.out k hk).2.1 (HSM.out k hk).2.2
  rw [longII_no h1] at hlx
  have l1 := startErr_le l sel
  have l2 := linesErr_le HLn
  have l3 := readLs_le s.data.toList
  have l4 := verifyErr_le l sel HLn
  have hf1 := fun (W : World) (ev : Value) (h1 : Below w.heap.size w W) (h2 : FaultAt A W ev (allErr l sel)) => faulted3_calls A ev _ W (HH.out.envC.below h1) h2 l1
  have hf2 := fun (W : World) (ev : Value) (h1 : Below w.heap.size w W) (h2 : FaultAt A W ev (linesErr HLn)) => faulted3_calls A ev _ W (HH.out.envC.below h1) h2 l2
  have hf3 := fun (W : World) (ev : Value) (h1 : Below w.heap.size w W) (h2 : FaultAt A W ev ((readLs s.data.toList).2.1, (readLs s.data.toList).2.2)) => faulted3_calls A ev _ W (HH.out.envC.below h1) h2 l3
  have hf4 := fun (W : World) (ev : Value) (h1 : Below w.heap.size w W) (h2 : FaultAt A W ev (verifyErr l sel HLn)) => faulted3_calls A ev _ W (HH.out.envC.below h1) h2 l4
  have HL1 : Hid (∀ x ∈ sumsL l sel, x.2 < 4294967296) := Lib.hid (sumsL_32 l sel)
  have HL3 : Hid (∀ x ∈ (readLs s.data.toList).1, x.2 < 4294967296) := Lib.hid (readLs_32 _)
  unfold SumsOut at hpa
  unfold ReadLnOut at hpr
  unfold fltV at hso hrv hrt hrr
  obtain ⟨E1, hE1⟩ : ∃ x, x = allErr l sel := ⟨_, rfl⟩
  obtain ⟨E2, hE2⟩ : ∃ x, x = linesErr HLn := ⟨_, rfl⟩
  obtain ⟨RL, hRL⟩ : ∃ x, x = readLs s.data.toList := ⟨_, rfl⟩
  obtain ⟨E4, hE4⟩ : ∃ x, x = verifyErr l sel HLn := ⟨_, rfl⟩
  simp only [← hE1, ← hE2, ← hRL, ← hE4] at hso hrv hrt hrr hpa hpt hpr hpv hf1 hf2 hf3 hf4 HL3
  obtain ⟨e1c, e1a⟩ := E1
  obtain ⟨e2c, e2a⟩ := E2
  obtain ⟨RLx, e3c, e3a⟩ := RL
  obtain ⟨e4c, e4a⟩ := E4
  simp only at hso hrv hrt hrr hpa hpt hpr hpv hf1 hf2 hf3 hf4 HL3
  obtain ⟨X, hX⟩ : ∃ X : ByteArray, (⟨(linesTxt HLn).toArray⟩ : ByteArray) = X := ⟨_, rfl⟩
  simp only [hX] at hrt hpt
  have hsl := fun (l : List Ln) (v1 v2 : Value) (W : World) (g1 : LnsAt .u32 W v1 l) (g2 : LnsAt .i64 W v2 l) (g3 : ∀ x ∈ l, x.2 < 4294967296) => sameLines_calls v1 v2 l l W g1 g2 g3
  simp only [decide_true] at hsl
  have hq1 : (X.toList != X.toList) = false := by simp
  have hq2 : (X.toList == X.toList) = true := beq_self_eq_true _
  replace hre := Lib.hid hre
  replace hlx := Lib.hid hlx
  replace hlm := Lib.hid hlm
  replace how := Lib.hid how
  replace hom := Lib.hid hom
  replace hso := Lib.hid hso
  replace hrv := Lib.hid hrv
  replace hrt := Lib.hid hrt
  replace hrr := Lib.hid hrr
  replace has := Lib.hid has
  replace hpt := Lib.hid hpt
  replace hpr := Lib.hid hpr
  replace hrs := Lib.hid hrs
  replace hpa := Lib.hid hpa
  replace hpv := Lib.hid hpv
  replace hps := Lib.hid hps
  replace hf1 := Lib.hid hf1
  replace hf2 := Lib.hid hf2
  replace hf3 := Lib.hid hf3
  replace hf4 := Lib.hid hf4
  replace hsl := Lib.hid hsl
  clear h1 h2 h3 h4 hsi hsm hs15 H hh hok hHA hOK h32 hlen hl0 l1 l2 l3 l4 hHL hE1 hE2 hRL hE4 hX
  go_enter Tryz.func3, Tryz.ntmps3
  go_wp2_with fail
  refine hre.out.mono ?_
  rintro e w1 ⟨rfl, hB⟩
  go_wp2_with fail
  refine (hlx.out _ hB).mono ?_
  rintro e w' ⟨rfl, rfl⟩
  clear hlx hre
  go_wp2_with fail
  refine (hlm.out _ hB).mono ?_
  rintro e w' ⟨rfl, rfl⟩
  clear hlm
  go_wp2_with fail
  clear h3' h4'
  go_loop [10] (fun i => ∃ k : Nat, k ≤ hn ∧ i = .int .i64 k) (fun i => hn - (intOf i).toNat)
  case atStart => exact ⟨0, Nat.zero_le _, rfl⟩
  case round =>
    obtain ⟨k, hk, rfl⟩ := hrel
    by_cases hlt : k < hn
    · have hkn : (k : Int) < (hn : Int) := by omega
      obtain ⟨b1, o1, ea, c0, c1, c2⟩ := (HIN.out.below hB).at_ k hlt
      subst ea
      obtain ⟨g1, g2, g3⟩ := HOKJ.out k hlt
      have g1' : ¬ (70 : Int) < ((Ph k).size : Int) := by omega
      have g2' : ¬ (60 : Int) < ((Vh k).size : Int) := by omega
      have g3' : ¬ ((Th k : Nat) : Int) < 0 := by omega
      have g4' : ¬ (4294967295 : Int) < ((Th k : Nat) : Int) := by omega
      clear g1 g2 g3
      go_wp2_with fail
      go_round
      case rel => exact ⟨k + 1, by omega, by go_num⟩
      case measure => simp [intOf]; omega
    · obtain rfl : k = hn := by omega
      have hkn : ¬ (k : Int) < (k : Int) := by omega
      clear hlt hk
      go_wp2_with fail
      refine (how.out _ hB).mono ?_
      rintro e w2 ⟨⟨ov, rfl, hOE⟩, hb⟩
      replace hB := below_step hB hb
      obtain ⟨oa, on, oc, P', V', R', K', B', Rv', Kv', rfl, hOl, hO⟩ := hOE
      have hpa2 := fun v W hb hc hv => hpa.out oa on oc _ _ _ _ _ _ _ hOl v W hb (hO.below (w' := W) hc) hv
      have hpv2 := fun v hv W hb hc hm hx => hpv.out oa on oc _ _ _ _ _ _ _ hOl v hv W hb (hO.below (w' := W) hc) hm hx
      have hps2 := fun k hk W hb hc => hps.out oa on oc _ _ _ _ _ _ _ hOl k hk W hb (hO.below (w' := W) hc)
      have HB2 := Lib.hid hB
      replace hpa2 := fun v W hc hv => hpa2 v W (below_step HB2.out hc) hc hv
      replace hpv2 := fun v hv W hc hm hx => hpv2 v hv W (below_step HB2.out hc) hc hm hx
      replace hps2 := fun k hk W hc => hps2 k hk W (below_step HB2.out hc) hc
      have HON : Hid (on = ln) := Lib.hid (by have := HLEN.out; rw [hOl, enF_length] at this; exact this)
      have HO := Lib.hid hO
      replace hpa2 := Lib.hid hpa2
      replace hpv2 := Lib.hid hpv2
      replace hps2 := Lib.hid hps2
      clear hO hb how hOl hpa hpv hps hB
      go_wp2_with fail
      go_loopw [12] (fun i wr => ∃ k : Nat, k ≤ ln ∧ i = .int .i64 k ∧ Below w2.heap.size w2 wr) (fun i _ => ln - (intOf i).toNat)
      case atStart => exact ⟨0, Nat.zero_le _, rfl, Below.refl _ _⟩
      case round =>
        obtain ⟨k, hk, rfl, hC⟩ := hrel
        by_cases hrun : k < ln ∧ k < 5
        · obtain ⟨g1, g2⟩ := hrun
          have g1' : (k : Int) < (ln : Int) := by omega
          have g2' : (k : Int) < 5 := by omega
          have g3' : (k : Int) < (on : Int) := by have := HON.out; omega
          have hon : k < on := by rw [HON.out]; exact g1
          obtain ⟨b1, o1, ea, hc1⟩ := (HO.out.below hC).at_ k hon
          obtain ⟨b2, o2, eb, hc2⟩ := (HH.out.l.below (below_step HB2.out hC)).at_ k g1
          obtain ⟨a1, n1, s1, aK, nK, cK, e1, e2⟩ := HO.out.forms2 hon
          obtain ⟨a2, n2, s2, aJ, nJ, cJ, f1, f2⟩ := HH.out.l.forms2 g1
          have hps3 := fun W hc => hps2.out k g1 W hc
          have hrs3 := fun W hb => hrs.out k g1 W hb
          obtain ⟨S, hS⟩ : ∃ S, sumOf ⟨((P k).data.toList, (V k).data.toList), R k, K k, Bk k⟩ = S := ⟨_, rfl⟩
          have hS32 : S < 4294967296 := by rw [← hS]; exact sumOf_32 _
          simp only [hS, e1, e2] at hps3
          simp only [hS, f1, f2] at hrs3
          rw [e1, e2] at hc1
          rw [f1, f2] at hc2
          obtain ⟨c0, c1, c2, c3, c4⟩ := hc1
          obtain ⟨d0, d1, d2, d3, d4⟩ := hc2
          subst ea eb
          have hw := wrap63 S (by omega)
          have hne : ((S : Int) != (S : Int)) = false := by simp
          have hD := fun d os => below_patch wr d os
          have kC := Lib.hid (fun d os => below_step hC (hD d os))
          replace hps3 := Lib.hid hps3
          replace hrs3 := Lib.hid hrs3
          clear hS e1 e2 f1 f2 hD g1 g2 hon hps2
          have hBC := hC
          clear hC
          go_wp2_with fail
          have kqc0 := fun d os => cell_patch (d := d) (os := os) c0
          have kqc1 := fun d os => cell_patch (d := d) (os := os) c1
          have kqc2 := fun d os => cell_patch (d := d) (os := os) c2
          have kqc3 := fun d os => cell_patch (d := d) (os := os) c3
          have kqc4 := fun d os => cell_patch (d := d) (os := os) c4
          have kqd0 := fun d os => cell_patch (d := d) (os := os) d0
          have kqd1 := fun d os => cell_patch (d := d) (os := os) d1
          have kqd2 := fun d os => cell_patch (d := d) (os := os) d2
          have kqd3 := fun d os => cell_patch (d := d) (os := os) d3
          have kqd4 := fun d os => cell_patch (d := d) (os := os) d4
          refine wp_region_quiet_patch (by kernel_rfl) (by kernel_rfl) ?_
          repeat (go_big_quiet_step (first | (go_at_call 13; with_reducible exact Calls.patch_of (hps3.out _ (kC.out _ _))) | (go_at_call 14; with_reducible exact Calls.patch_of (hrs3.out _ (below_step HB2.out (kC.out _ _))))))
          refine wpQuiet_nil ?_
          intro _ hw'
          obtain ⟨⟨dq, osq⟩, hw''⟩ := hw'
          subst hw''
          clear kqc0 kqc1 kqc2 kqc3 kqc4 kqd0 kqd1 kqd2 kqd3 kqd4
          have hb := below_patch wr dq osq
          replace hBC := below_step hBC hb
          clear hb
          generalize patch wr dq osq = wq1 at hBC ⊢
          clear c0 c1 c2 c3 c4 d0 d1 d2 d3 d4
          go_wp2_with fail
          go_roundw
          case rel => exact ⟨k + 1, by omega, by go_num, hBC⟩
          case measure => simp [intOf]; omega
        · have hx : ((k : Int) < (ln : Int) ∧ ¬ (k : Int) < 5) ∨ ¬ (k : Int) < (ln : Int) := by omega
          clear hrun hk hps2
          rcases hx with ⟨g1', g2'⟩ | g1'
          all_goals
            go_wp2_with fail
            refine (hom.out _ (below_step HB2.out hC)).mono ?_
            rintro e w3 ⟨⟨mv1, rfl, hm1, L1, hL1, hoL1⟩, hb⟩
            replace hC := below_step hC hb
            obtain ⟨a3, n3, c3, rfl⟩ := own_form hoL1
            have hpa3 := hpa2.out _ _ hC hm1
            replace hpa3 := Lib.hid hpa3
            clear hb hm1 hL1 hoL1
            go_wp2_with fail
            refine hpa3.out.mono ?_
            rintro e w4 ⟨⟨v1, ev1, T1, rfl, hO1, hT1, hv1⟩, hb⟩
            replace hC := below_step hC hb
            have hx1 := lnsAt_own hO1
            rw [hT1] at hx1
            obtain ⟨a4, n4, c4, rfl⟩ := own_form hO1
            clear hb hpa3 hO1 hT1
            go_wp2_with fail
            refine (hso.out _ (below_step HB2.out hC)).mono ?_
            rintro e w5 ⟨⟨v2, rfl, hy1⟩, hb⟩
            replace hC := below_step hC hb
            replace hx1 := hx1.below hb
            replace hv1 := hv1.below hb
            obtain ⟨a5, n5, c5, _, _, _, e5, -⟩ := id hy1
            subst e5
            have hba := below_alloc w5 (.cells #[.int .i64 (e1c : Nat), .int .i64 e1a] 46)
            have hz := box2_alloc w5 (.int .i64 (e1c : Nat)) (.int .i64 e1a) 46
            have hbw := hC.size
            replace hC := below_step hC hba
            replace hx1 := hx1.below hba
            replace hy1 := hy1.below hba
            replace hv1 := hv1.below hba
            have hfb := hf1.out _ ev1 (below_step HB2.out hC) hv1
            obtain ⟨z0, z1, zf⟩ := id hz
            replace hfb := Lib.hid hfb
            clear hb hba hv1
            go_wp2_with fail
            generalize w5.alloc (.cells #[.int .i64 (e1c : Nat), .int .i64 e1a] 46) = w6 at *
            generalize w5.heap.size = bx at *
            refine hfb.out.mono ?_
            rintro e w7 ⟨rfl, hb⟩
            have hsm := hsl.out _ _ _ _ (hx1.below hb) (hy1.below hb) HL1.out
            replace hC := below_step hC hb
            replace hz := hz.below hb
            replace hsm := Lib.hid hsm
            clear hb hfb hx1 hy1 z0 z1 zf
            go_wp2_with fail
            refine hsm.out.mono ?_
            rintro e w8 ⟨rfl, hb⟩
            replace hC := below_step hC hb
            replace hz := hz.below hb
            have hal := has.out _ (below_step HB2.out hC)
            replace hal := Lib.hid hal
            clear hb hsm
            go_wp2_with fail
            refine hal.out.mono ?_
            rintro e w9 ⟨⟨v3, T3, rfl, hO3, hT3⟩, hb⟩
            replace hC := below_step hC hb
            replace hz := hz.below hb
            have hx3 := lnsAt_own hO3
            rw [hT3] at hx3
            obtain ⟨a6, n6, c6, rfl⟩ := own_form hO3
            have hpt3 := hpt.out _ _ (below_step HB2.out hC) hx3
            replace hpt3 := Lib.hid hpt3
            clear hb hal hO3 hT3 hx3
            go_wp2_with fail
            refine hpt3.out.mono ?_
            rintro e w10 ⟨⟨ev2, rfl, hv2⟩, hb⟩
            replace hC := below_step hC hb
            replace hz := hz.below hb
            clear hb hpt3
            go_wp2_with fail
            refine (hrt.out _ (below_step HB2.out hC)).mono ?_
            rintro e w11 ⟨rfl, hb⟩
            replace hC := below_step hC hb
            replace hz := hz.below hb
            replace hv2 := hv2.below hb
            have hv2b := hv2.flt hz (.int .i64 (e2c : Nat)) (.int .i64 e2a)
            have hC2 := below_sto2 hC (show w2.heap.size ≤ bx by omega) (.int .i64 (e2c : Nat)) (.int .i64 e2a)
            have hz2 := hz.sto (.int .i64 (e2c : Nat)) (.int .i64 e2a)
            have hfb := hf2.out _ ev2 (below_step HB2.out hC2) hv2b
            obtain ⟨z0, z1, zf⟩ := id hz
            replace hfb := Lib.hid hfb
            clear hb hv2
            go_wp2_with fail
            refine hfb.out.mono ?_
            rintro e w12 ⟨rfl, hb⟩
            replace hC := below_step hC2 hb
            replace hz := hz2.below hb
            have hbx := lt_of_cell hz.c0
            have hpr3 := hpr.out _ (below_step HB2.out hC)
            replace hpr3 := Lib.hid hpr3
            clear hb hfb hv2b hC2 hz2 z0 z1 zf
            go_wp2_with fail
            refine hpr3.out.mono ?_
            rintro e w13 ⟨⟨v4, ev3, T4, rfl, hO4, hT4, hv3⟩, hb⟩
            replace hC := below_step hC hb
            replace hz := hz.below hb
            have hx4 := lnsAt_own hO4
            rw [hT4] at hx4
            obtain ⟨a7, n7, c7, rfl⟩ := own_form hO4
            have hn4 := newRow_own hO4
            have hbx2 := lt_of_cell hz.c0
            clear hb hpr3 hO4 hT4
            go_wp2_with fail
            refine (hrr.out _ (below_step HB2.out hC)).mono ?_
            rintro e w14 ⟨⟨v5, rfl, hy4, hn5⟩, hb⟩
            replace hC := below_step hC hb
            replace hz := hz.below hb
            replace hx4 := hx4.below hb
            replace hv3 := hv3.below hb
            obtain ⟨a8, n8, c8, _, _, _, e8, -⟩ := id hy4
            subst e8
            have hy4b := LnsAt.other (k := 1) (LnsAt.other (k := 0) (c := bx) hy4 (fun q n m e => by have := hn5 q n m e; omega) (.int .i64 (e3c : Nat))) (c := bx) (fun q n m e => by have := hn5 q n m e; omega) (.int .i64 e3a)
            have hx4b := LnsAt.other (k := 1) (LnsAt.other (k := 0) (c := bx) hx4 (fun q n m e => by have := hn4 q n m e; omega) (.int .i64 (e3c : Nat))) (c := bx) (fun q n m e => by have := hn4 q n m e; omega) (.int .i64 e3a)
            have hv3b := hv3.flt hz (.int .i64 (e3c : Nat)) (.int .i64 e3a)
            have hC2 := below_sto2 hC (show w2.heap.size ≤ bx by omega) (.int .i64 (e3c : Nat)) (.int .i64 e3a)
            have hfb := hf3.out _ ev3 (below_step HB2.out hC2) hv3b
            obtain ⟨z0, z1, zf⟩ := id hz
            replace hfb := Lib.hid hfb
            clear hb hy4 hx4 hv3 hn4 hn5 hbx hbx2
            go_wp2_with fail
            refine hfb.out.mono ?_
            rintro e w15 ⟨rfl, hb⟩
            have hsm := hsl.out _ _ _ _ (hx4b.below hb) (hy4b.below hb) HL3.out
            replace hC := below_step hC2 hb
            replace hsm := Lib.hid hsm
            clear hb hfb hx4b hy4b hv3b hC2 z0 z1 zf hz
            go_wp2_with fail
            refine hsm.out.mono ?_
            rintro e w16 ⟨rfl, hb⟩
            replace hC := below_step hC hb
            clear hb hsm
            go_wp2_with fail
            refine (hom.out _ (below_step HB2.out hC)).mono ?_
            rintro e w17 ⟨⟨mv2, rfl, hm3, L3, hL3, hoL3⟩, hb⟩
            replace hC := below_step hC hb
            obtain ⟨a9, n9, c9, rfl⟩ := own_form hoL3
            have hal := has.out _ (below_step HB2.out hC)
            replace hal := Lib.hid hal
            clear hb hL3 hoL3
            go_wp2_with fail
            refine hal.out.mono ?_
            rintro e w18 ⟨⟨v6, T6, rfl, hO6, hT6⟩, hb⟩
            replace hC := below_step hC hb
            replace hm3 := hm3.below hb
            have hx6 := lnsAt_own hO6
            rw [hT6] at hx6
            obtain ⟨a10, n10, c10, rfl⟩ := own_form hO6
            have hpv3 := hpv2.out _ _ _ hC hm3 hx6
            replace hpv3 := Lib.hid hpv3
            clear hb hal hm3 hO6 hT6 hx6
            go_wp2_with fail
            refine hpv3.out.mono ?_
            rintro e w19 ⟨⟨ev4, rfl, hv4⟩, hb⟩
            replace hC := below_step hC hb
            clear hb hpv3
            go_wp2_with fail
            refine (hrv.out _ (below_step HB2.out hC)).mono ?_
            rintro e w20 ⟨rfl, hb⟩
            replace hC := below_step hC hb
            replace hv4 := hv4.below hb
            have hfb := hf4.out _ ev4 (below_step HB2.out hC) hv4
            replace hfb := Lib.hid hfb
            clear hb hv4
            go_wp2_with fail
            refine hfb.out.mono ?_
            rintro e w21 ⟨rfl, hb⟩
            go_wp2_with fail
            go_ret
            exact ⟨by simp, below_step HB2.out (below_step hC hb)⟩
set_option maxHeartbeats 4000000 in
theorem sumsTell_calls (ks : List Nat) (A : Nat → Addr) (hks : IdxKs ks) (h10 : 10 ∈ ks) (lv sv : Value) (l : List En) (sel : List Md) (ha : Option Addr) (hn hc : Nat) (Ph Vh : Nat → ByteArray) (Sh : Nat → Int) (s : ByteArray) (w : World) (hE : EnvP ks A w) (hC : EnvC A w) (hl : EntsAt w lv l) (hs : ModsAt w sv sel) (hh : LnsIn .i64 w ha hn hc Ph Vh Sh) :
    Calls Tryz.prog 3 #[lv, sv, .slice ha hn hc, .string s] w fun e w' => e = .returned (.bool true) ∧ Below w.heap.size w w' := by
  obtain ⟨la, ln, lc, P, V, R, K, Bk, Rv, Kv, rfl, rfl, hin⟩ := hl
  have H : StArgs ks A la ln lc P V R K Bk Rv Kv sv sel w := ⟨hks, h10, hE, hC, hin, hs⟩
  cases h1 : longIdx (enF ln P V R K Bk)
  · cases h2 : longMods sel 15
    · by_cases h3 : hn ≤ 20
      · by_cases h4 : s.size ≤ 500
        · by_cases h5 : ∃ k, k < hn ∧ (70 < (Ph k).size ∨ 60 < (Vh k).size ∨ Sh k < 0 ∨ 4294967295 < Sh k) ∧ ∀ j, j < k → (Ph j).size ≤ 70 ∧ (Vh j).size ≤ 60 ∧ 0 ≤ Sh j ∧ Sh j ≤ 4294967295
          · exact sumsTell_long ks A la ln lc P V R K Bk Rv Kv sv sel ha hn hc Ph Vh Sh s w H hh (.inr ⟨h1, .inr ⟨h2, .inr ⟨h3, .inr ⟨h4, h5⟩⟩⟩⟩)
          · have key : ∀ k, k ≤ hn → ∀ j, j < k → (Ph j).size ≤ 70 ∧ (Vh j).size ≤ 60 ∧ 0 ≤ Sh j ∧ Sh j ≤ 4294967295 := fun k => by
              induction k with
              | zero => exact fun _ j hj => absurd hj (Nat.not_lt_zero _)
              | succ k ih =>
                intro hk j hj
                by_cases e : j = k
                · subst e
                  have h6 := ih (by omega)
                  by_cases h7 : (70 < (Ph j).size ∨ 60 < (Vh j).size ∨ Sh j < 0 ∨ 4294967295 < Sh j)
                  · exact absurd ⟨j, by omega, h7, h6⟩ h5
                  · refine ⟨?_, ?_, ?_, ?_⟩
                    · by_cases h8 : (Ph j).size ≤ 70
                      · exact h8
                      · exact absurd (.inl (by omega)) h7
                    · by_cases h8 : (Vh j).size ≤ 60
                      · exact h8
                      · exact absurd (.inr (.inl (by omega))) h7
                    · by_cases h8 : 0 ≤ Sh j
                      · exact h8
                      · exact absurd (.inr (.inr (.inl (by omega)))) h7
                    · by_cases h8 : Sh j ≤ 4294967295
                      · exact h8
                      · exact absurd (.inr (.inr (.inr (by omega)))) h7
                · exact ih (by omega) j (by omega)
            have hall := key hn (Nat.le_refl _)
            refine sumsTell_main ks A la ln lc P V R K Bk Rv Kv sv sel ha hn hc Ph Vh (fun j => (Sh j).toNat) s w H ⟨hh.le, hh.cap, fun j hj => ?_⟩ h1 h2 h3 h4 fun j hj => ⟨(hall j hj).1, (hall j hj).2.1, by have := hall j hj; omega⟩
            obtain ⟨b, o, e, c0, c1, c2⟩ := hh.at_ j hj
            refine ⟨b, o, e, c0, c1, ?_⟩
            rw [c2]
            have := (hall j hj).2.2.1
            congr 2
            omega
        · exact sumsTell_long ks A la ln lc P V R K Bk Rv Kv sv sel ha hn hc Ph Vh Sh s w H hh (.inr ⟨h1, .inr ⟨h2, .inr ⟨h3, .inl (by omega)⟩⟩⟩)
      · exact sumsTell_long ks A la ln lc P V R K Bk Rv Kv sv sel ha hn hc Ph Vh Sh s w H hh (.inr ⟨h1, .inr ⟨h2, .inl (by omega)⟩⟩)
    · exact sumsTell_long ks A la ln lc P V R K Bk Rv Kv sv sel ha hn hc Ph Vh Sh s w H hh (.inr ⟨h1, .inl h2⟩)
  · exact sumsTell_long ks A la ln lc P V R K Bk Rv Kv sv sel ha hn hc Ph Vh Sh s w H hh (.inl h1)
end Go.Proofs.Pw
