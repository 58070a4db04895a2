/- Ge: walks and plain laws, joined: GetArg CrcMath PathsOf MvsMath MvsMath2 LeastMath UpMath PkgMath FileRefMath SumMath SumMem Bld SumCrc FmtUint RefP3 SumOf SumText SumSame SumLine RefIsOut. Conditions: at each theorem. -/
import Derived.Test.YtmnojbbcaboagaaGreatDoorGet
import Derived.Test.YtmnojbbcaboagaaGreatDoorGem
import Derived.Stop.IfaceNil
import Derived.Test.YtmnojbbcaboagaaGreatDoorGea
import Derived.Laws.BitsAllLaws
import Derived.Test.YtmnojbbcaboagaaGreatDoorGel
import Derived.Test.YtmnojbbcaboagaaGreatDoorGej
import Derived.Test.YtmnojbbcaboagaaGreatDoorGeg
import Derived.Test.YtmnojbbcaboagaaGreatDoorGep
import Derived.Test.YtmnojbbcaboagaaGreatDoorGec
import Derived.Test.YtmnojbbcaboagaaGreatDoorGeb
import Derived.Test.YtmnojbbcaboagaaGreatDoorGek
import Derived.Test.YtmnojbbcaboagaaGreatDoorShelf
import Derived.Lib.AppendIntMem
import Derived.Lib.ItoaMem
import Derived.Test.YtmnojbbcaboagaaGreatDoorGef
import Derived.Test.YtmnojbbcaboagaaGreatDoorGeo
import Derived.Deep.RegionHeld2
import Derived.Deep.Upon
import Derived.Test.YtmnojbbcaboagaaGreatDoorGed
import Derived.Test.YtmnojbbcaboagaaGreatDoorGee

namespace Go.Proofs.Pw
open Go.RowKit
open Go.Lib hiding intOf
def upgrade : Str := [117, 112, 103, 114, 97, 100, 101]
def patEr (p : Str) : Nat := patErrOf (pathErr (xs (toks p)))
def argP (s : Str) : Str := (split s [64]).getD 0 []
def argQ (s : Str) : Str := if (split s [64]).length = 2 then (split s [64]).getD 1 [] else upgrade
def argE (s : Str) : Nat :=
  if 2 < (split s [64]).length then 1 else if patEr (argP s) ≠ 0 then patEr (argP s) else qErr (argQ s)
def ArgOut (A : Nat → Addr) (s : Str) (e : Ending) : Prop :=
  ∃ p q : ByteArray, e = .returned (.tuple #[.string p, .string q, errV A (argE s)]) ∧ (argE s = 0 → p.data.toList = argP s ∧ q.data.toList = argQ s) ∧ (argE s ≠ 0 → p = ⟨#[]⟩ ∧ q = ⟨#[]⟩)
theorem argOut_bad {A : Nat → Addr} {s : Str} {c : Nat} (h : argE s = c) (hc : c ≠ 0) : ArgOut A s (.returned (.tuple #[.string ⟨#[]⟩, .string ⟨#[]⟩, .iface 328 (.pointer (some (A c)))])) :=
  ⟨⟨#[]⟩, ⟨#[]⟩, by rw [h, errV_pos A hc], fun h0 => absurd (h.symm.trans h0) hc, fun _ => ⟨rfl, rfl⟩⟩
theorem argOut_good {A : Nat → Addr} {s : Str} {p q : ByteArray} (h : argE s = 0) (hp : p.data.toList = argP s) (hq : q.data.toList = argQ s) : ArgOut A s (.returned (.tuple #[.string p, .string q, .nilIface])) :=
  ⟨p, q, by rw [h]; rfl, fun _ => ⟨hp, hq⟩, fun hn => absurd h hn⟩
set_option maxHeartbeats 4000000 in
set_option maxRecDepth 100000 in
theorem getArg_calls (ks : List Nat) (A : Nat → Addr) (h4 : 4 ∈ ks) (s : ByteArray) (w : World) (hE : EnvP ks A w) (hs : s.size ≤ 1000000) :
    Calls Tryz.prog 15 #[.string s] w fun e w' => ArgOut A s.data.toList e ∧ Below w.heap.size w w' := by
  have hsp := split_calls s ⟨#[64]⟩ w hE.m (by omega) (by decide)
  have hpc := fun p W hW h1 => patCheck_calls ks A h4 p W hW h1
  have hqc := fun q W hW h1 => qCheck_calls ks A q W hW h1
  replace hsp := Lib.hid hsp
  replace hpc := Lib.hid hpc
  replace hqc := Lib.hid hqc
  go_enter Tryz.func15, Tryz.ntmps15
  go_wp2_with fail
  refine hsp.out.mono ?_
  rintro e w1 ⟨n, rfl, hn1, hn2, HL, hB, hc, hz1⟩
  have hL : lstF n (splitL s ⟨#[64]⟩) = split s.data.toList [64] := HL.out
  obtain ⟨L, hLL⟩ : ∃ L, splitL s ⟨#[64]⟩ = L := ⟨_, rfl⟩
  rw [hLL] at hL hc
  have hE1 := hE.below hB
  have hlens : ∀ j, j < n → (L j).size ≤ 1000000 := fun j hj => by
    have hm : (L j).data.toList ∈ split s.data.toList [64] := by rw [← hL]; exact List.mem_of_getElem? (lstF_get n L j hj)
    have := split_mem_le [64] (by simp) _ _ (Nat.le_refl _) _ hm
    rw [size_eq] at hs ⊢
    omega
  have hlen : (split s.data.toList [64]).length = n := by rw [← hL, lstF_length]
  clear HL hsp hLL
  by_cases h3 : 2 < n
  · have h3' : (2 : Int) < (n : Int) := by omega
    have HF : Hid (argE s.data.toList = 1) := Lib.hid (by unfold argE; rw [if_pos (by omega)])
    have g1 := hE1.errs.var 1 hE1.has.1
    simp only [errG] at g1
    clear hc hL hlens hlen h3 hn1 hn2 hz1
    go_wp2_with fail
    go_region
    all_goals
      go_wp2_with fail
      refine bodyPost_ret (v := .tuple #[.string ⟨#[]⟩, .string ⟨#[]⟩, .iface 328 (.pointer (some (A 1)))]) (by simp [results, Tryz.results15, go_sem, *]) rfl ?_
      exact ⟨argOut_bad HF.out (by decide), hB.drew⟩
  · have h3' : ¬ (2 : Int) < (n : Int) := by omega
    have c0 := hc 0 (by omega)
    have hp0 : argP s.data.toList = (L 0).data.toList := by
      unfold argP
      rw [← hL, List.getD_eq_getElem?_getD, lstF_get n L 0 (by omega)]
      rfl
    have hl0 := hlens 0 (by omega)
    have hA : argE s.data.toList = if patEr (L 0).data.toList ≠ 0 then patEr (L 0).data.toList else qErr (argQ s.data.toList) := by unfold argE; rw [if_neg (by omega), hp0]
    have hpc1 := hpc.out (L 0) w1 hE1 hl0
    rw [show patErrOf (pathErr (xs (toks (L 0).data.toList))) = patEr (L 0).data.toList from rfl] at hpc1
    obtain ⟨pe, hpe⟩ : ∃ x, patEr (L 0).data.toList = x := ⟨_, rfl⟩
    rw [hpe] at hpc1 hA
    by_cases h0 : pe = 0
    · subst h0
      rw [if_neg (by simp)] at hA
      rw [show errV A 0 = .nilIface from rfl] at hpc1
      by_cases h2 : n = 2
      · subst h2
        have c1 := hc 1 (by decide)
        have hq0 : argQ s.data.toList = (L 1).data.toList := by
          unfold argQ
          rw [if_pos hlen, ← hL, List.getD_eq_getElem?_getD, lstF_get 2 L 1 (by decide)]
          rfl
        have hl1 := hlens 1 (by decide)
        rw [hq0] at hA
        have HA := Lib.hid hA
        have HP := Lib.hid hp0
        have HQ := Lib.hid hq0
        have hqc1 := fun W hW => hqc.out (L 1) W hW hl1
        generalize L 0 = p at *
        generalize L 1 = q at *
        replace hpc1 := Lib.hid hpc1
        replace hqc1 := Lib.hid hqc1
        clear hc hL hlens hlen h3 hn1 hn2 hz1 hp0 hq0 hA hpe
        go_wp2_with fail
        refine hpc1.out.mono ?_
        rintro e w2 ⟨rfl, hb⟩
        replace hB := below_step hB hb
        replace c0 := Below.cell_some hb c0
        replace c1 := Below.cell_some hb c1
        have hE2 := hE1.below hb
        clear hb hpc1
        go_wp2_with fail
        refine (hqc1.out _ hE2).mono ?_
        rintro e w3 ⟨rfl, hb⟩
        replace hB := below_step hB hb
        replace c0 := Below.cell_some hb c0
        clear hb hqc1 c1
        by_cases hq : qErr q.data.toList = 0
        · rw [hq] at HA
          rw [hq, show errV A 0 = .nilIface from rfl]
          go_wp2_with fail
          refine bodyPost_ret (v := .tuple #[.string p, .string q, .nilIface]) (by simp [results, Tryz.results15, go_sem, *]) rfl ?_
          exact ⟨argOut_good HA.out HP.out.symm HQ.out.symm, hB⟩
        · rw [errV_pos A hq]
          have HF := HA
          generalize qErr q.data.toList = qe at *
          go_wp2_with fail
          refine bodyPost_ret (v := .tuple #[.string ⟨#[]⟩, .string ⟨#[]⟩, .iface 328 (.pointer (some (A qe)))]) (by simp [results, Tryz.results15, go_sem, *]) rfl ?_
          exact ⟨argOut_bad HF.out hq, hB⟩
      · have hn : n = 1 := by omega
        subst hn
        have hq0 : argQ s.data.toList = upgrade := by
          unfold argQ
          rw [if_neg (by omega)]
        have hqu : qErr upgrade = 0 := by decide +kernel
        rw [hq0, hqu] at hA
        have HA := Lib.hid hA
        have HP := Lib.hid hp0
        have HQ := Lib.hid hq0
        have hqc1 := fun W hW => hqc.out ⟨#[117, 112, 103, 114, 97, 100, 101]⟩ W hW (by decide)
        rw [show (⟨#[117, 112, 103, 114, 97, 100, 101]⟩ : ByteArray).data.toList = upgrade from rfl, hqu, show errV A 0 = .nilIface from rfl] at hqc1
        generalize L 0 = p at *
        replace hpc1 := Lib.hid hpc1
        replace hqc1 := Lib.hid hqc1
        clear hc hL hlens hlen h3 hn1 hn2 hz1 hp0 hq0 hA hpe hqu
        go_wp2_with fail
        refine hpc1.out.mono ?_
        rintro e w2 ⟨rfl, hb⟩
        replace hB := below_step hB hb
        replace c0 := Below.cell_some hb c0
        have hE2 := hE1.below hb
        clear hb hpc1
        go_wp2_with fail
        refine (hqc1.out _ hE2).mono ?_
        rintro e w3 ⟨rfl, hb⟩
        replace hB := below_step hB hb
        replace c0 := Below.cell_some hb c0
        clear hb hqc1
        go_wp2_with fail
        refine bodyPost_ret (v := .tuple #[.string p, .string ⟨#[117, 112, 103, 114, 97, 100, 101]⟩, .nilIface]) (by simp [results, Tryz.results15, go_sem, *]) rfl ?_
        exact ⟨argOut_good HA.out HP.out.symm HQ.out.symm, hB⟩
    · rw [if_pos h0] at hA
      rw [errV_pos A h0] at hpc1
      have HF := Lib.hid hA
      have hn0 : (0 : Int) < (n : Int) := by omega
      generalize L 0 = p at *
      replace hpc1 := Lib.hid hpc1
      clear hc hL hlens hlen h3 hn1 hn2 hz1 hp0 hA hpe
      go_wp2_with fail
      refine hpc1.out.mono ?_
      rintro e w2 ⟨rfl, hb⟩
      replace hB := below_step hB hb
      clear hb hpc1 c0
      go_wp2_with fail
      refine bodyPost_ret (v := .tuple #[.string ⟨#[]⟩, .string ⟨#[]⟩, .iface 328 (.pointer (some (A pe)))]) (by simp [results, Tryz.results15, go_sem, *]) rfl ?_
      exact ⟨argOut_bad HF.out h0, hB⟩
end Go.Proofs.Pw

namespace Go.Proofs.Pw
open Go.Lib hiding intOf
end Go.Proofs.Pw

namespace Go.Proofs.Pw
open Go.RowKit
open Go.Lib hiding intOf
end Go.Proofs.Pw

namespace Go.Proofs.Pw
open Go.Lib hiding intOf
def grow1 (out : List Md) (m : Md) : List Md := if out.getLast?.map (·.1) = some m.1 then out.dropLast ++ [m] else out ++ [m]
def greatest (l : List Md) : List Md := l.foldl grow1 []
theorem greatest_snoc (l : List Md) (m : Md) : greatest (l ++ [m]) = grow1 (greatest l) m := by simp [greatest]
def Climbs (l : List Md) : Prop := l.Pairwise fun a b => modCmp a b ≤ 0
theorem climbs_of_rises {l : List Md} (h : Rises modCmp l) : Climbs l := h.imp fun {a b} h => by omega
theorem modCmp_path {a b : Md} (h : modCmp a b ≤ 0) : compareBytes a.1 b.1 < 0 ∨ (a.1 = b.1 ∧ verCmp a.2 b.2 ≤ 0) := by
  unfold modCmp at h
  rw [orI_le] at h
  rcases h with h | ⟨h1, h2⟩
  · exact .inl h
  · exact .inr ⟨compareBytes_zero h1, h2⟩
theorem path_self (p : Str) : ¬ compareBytes p p < 0 := by rw [compareBytes_self]; decide
theorem last_some {α : Type} {l : List α} {y : α} (h : l.getLast? = some y) : ∃ hne : l ≠ [], l.getLast hne = y := by
  have hne : l ≠ [] := fun e => by rw [e] at h; cases h
  rw [List.getLast?_eq_some_getLast hne] at h
  exact ⟨hne, Option.some.inj h⟩
structure Great (l out : List Md) : Prop where
  rise : out.Pairwise fun a b => compareBytes a.1 b.1 < 0
  sub : ∀ m ∈ out, m ∈ l
  over : ∀ m ∈ l, ∃ x ∈ out, x.1 = m.1 ∧ verCmp m.2 x.2 ≤ 0
theorem great_nil : Great [] [] := ⟨by simp, by simp, by simp⟩
theorem great_snoc {l out : List Md} {m : Md} (h : Great l out) (hc : Climbs (l ++ [m])) : Great (l ++ [m]) (grow1 out m) := by
  have hle : ∀ x ∈ l, modCmp x m ≤ 0 := fun x hx => (List.pairwise_append.1 hc).2.2 x hx m (by simp)
  have hself : verCmp m.2 m.2 ≤ 0 := by rw [verCmp_ord.self]; decide
  unfold grow1
  by_cases hl : out.getLast?.map (·.1) = some m.1
  · rw [if_pos hl]
    obtain ⟨y, hy, e⟩ : ∃ y, out.getLast? = some y ∧ y.1 = m.1 := by
      cases h1 : out.getLast? with
      | none => rw [h1] at hl; cases hl
      | some y => rw [h1] at hl; exact ⟨y, rfl, by simpa using hl⟩
    obtain ⟨hne, hlast⟩ := last_some hy
    have hout : out = out.dropLast ++ [y] := by rw [← hlast]; exact (List.dropLast_concat_getLast hne).symm
    have hp := h.rise
    rw [hout, List.pairwise_append] at hp
    refine ⟨?_, fun x hx => ?_, fun x hx => ?_⟩
    · rw [List.pairwise_append]
      refine ⟨hp.1, by simp, fun a ha b hb => ?_⟩
      simp at hb
      subst hb
      rw [← e]
      exact hp.2.2 a ha y (by simp)
    · rcases List.mem_append.1 hx with h1 | h1
      · exact List.mem_append.2 (.inl (h.sub x (List.dropLast_subset _ h1)))
      · exact List.mem_append.2 (.inr h1)
    · rcases List.mem_append.1 hx with h1 | h1
      · obtain ⟨z, hz, e1, e2⟩ := h.over x h1
        rw [hout] at hz
        rcases List.mem_append.1 hz with h2 | h2
        · exact ⟨z, List.mem_append.2 (.inl h2), e1, e2⟩
        · simp at h2
          subst h2
          refine ⟨m, by simp, by rw [← e, e1], ?_⟩
          rcases modCmp_path (hle x h1) with h3 | h3
          · rw [← e1, e] at h3
            exact absurd h3 (path_self _)
          · exact h3.2
      · simp at h1
        subst h1
        exact ⟨x, by simp, rfl, hself⟩
  · rw [if_neg hl]
    have hlt : ∀ a ∈ out, compareBytes a.1 m.1 < 0 := by
      intro a ha
      rcases modCmp_path (hle a (h.sub a ha)) with h1 | ⟨h1, _⟩
      · exact h1
      · exfalso
        obtain ⟨y, hy⟩ : ∃ y, out.getLast? = some y := by
          cases h2 : out.getLast? with
          | none => rw [List.getLast?_eq_none_iff] at h2; subst h2; simp at ha
          | some y => exact ⟨y, rfl⟩
        obtain ⟨hne, hlast⟩ := last_some hy
        have hout : out = out.dropLast ++ [y] := by rw [← hlast]; exact (List.dropLast_concat_getLast hne).symm
        have hym : y.1 ≠ m.1 := fun e => hl (by rw [hy]; simp [e])
        have hyl : y ∈ l := h.sub y (by rw [hout]; simp)
        rw [hout] at ha
        rcases List.mem_append.1 ha with h2 | h2
        · have hp := h.rise
          rw [hout, List.pairwise_append] at hp
          have h3 := hp.2.2 a h2 y (by simp)
          rcases modCmp_path (hle y hyl) with h4 | h4
          · rw [h1] at h3
            have := (compareBytes_ord.anti _ _).1 h3
            omega
          · exact hym h4.1
        · simp at h2
          subst h2
          exact hym h1
    refine ⟨?_, fun x hx => ?_, fun x hx => ?_⟩
    · rw [List.pairwise_append]
      exact ⟨h.rise, by simp, fun a ha b hb => by simp at hb; subst hb; exact hlt a ha⟩
    · rcases List.mem_append.1 hx with h1 | h1
      · exact List.mem_append.2 (.inl (h.sub x h1))
      · exact List.mem_append.2 (.inr h1)
    · rcases List.mem_append.1 hx with h1 | h1
      · obtain ⟨z, hz, e1, e2⟩ := h.over x h1
        exact ⟨z, List.mem_append.2 (.inl hz), e1, e2⟩
      · simp at h1
        subst h1
        exact ⟨x, by simp, rfl, hself⟩
theorem great_fold : ∀ (r l out : List Md), Great l out → Climbs (l ++ r) → Great (l ++ r) (r.foldl grow1 out)
  | [], l, out, h, _ => by simpa using h
  | m :: r, l, out, h, hc => by
    have e : l ++ m :: r = (l ++ [m]) ++ r := by simp
    rw [e] at hc ⊢
    exact great_fold r (l ++ [m]) (grow1 out m) (great_snoc h (List.pairwise_append.1 hc).1) hc
theorem great_of {l : List Md} (h : Climbs l) : Great l (greatest l) := great_fold l [] [] great_nil (by simpa using h)
theorem Great.rises {l out : List Md} (h : Great l out) : Rises modCmp out := h.rise.imp fun {a b} h => by
  unfold modCmp
  rw [orI_lt]
  exact .inl h
theorem Great.one {l out : List Md} (h : Great l out) {a b : Md} (ha : a ∈ out) (hb : b ∈ out) (e : a.1 = b.1) : a = b := RiseP.unique h.rise ha hb e
theorem Great.mem {l out : List Md} (h : Great l out) (hr : ∀ m ∈ l, mdErr m = 0) (m : Md) : m ∈ out ↔ m ∈ l ∧ ∀ x ∈ l, x.1 = m.1 → verCmp x.2 m.2 ≤ 0 := by
  constructor
  · intro hm
    refine ⟨h.sub m hm, fun x hx e => ?_⟩
    obtain ⟨z, hz, e1, e2⟩ := h.over x hx
    rw [h.one hz hm (e1.trans e)] at e2
    exact e2
  · rintro ⟨hm, h1⟩
    obtain ⟨z, hz, e1, e2⟩ := h.over m hm
    have h2 := h1 z (h.sub z hz) e1
    have h3 : verCmp m.2 z.2 = 0 := by
      have := verCmp_ord.anti z.2 m.2
      have := verCmp_ord.anti m.2 z.2
      omega
    have : m = z := modCmp_zero (hr m hm) (hr z (h.sub z hz)) (by unfold modCmp; rw [orI_eq, e1, compareBytes_self]; exact ⟨rfl, h3⟩)
    rw [this]; exact hz
noncomputable def buildL (l : List En) (roots : List Md) : List Md := greatest (reachL l roots)
theorem RightG.great {l : List En} {roots : List Md} (h : RightG l roots) : Great (reachL l roots) (buildL l roots) := great_of (climbs_of_rises (reachL_rises h.idx roots))
def hasB (sel : List Md) (m : Md) : Bool := decide (0 ≤ findI (hasP m.1) sel) && !verLess (mdAt sel (findI (hasP m.1) sel).toNat).2 m.2
def underB (a b : List Md) : Bool := a.all (hasB b)
theorem hasB_iff {sel : List Md} {m : Md} : hasB sel m = true ↔ ∃ k : Nat, findI (hasP m.1) sel = k ∧ verLess (mdAt sel k).2 m.2 = false := by
  unfold hasB
  rw [Bool.and_eq_true, decide_eq_true_iff]
  constructor
  · rintro ⟨h1, h2⟩
    exact ⟨(findI (hasP m.1) sel).toNat, by omega, by simpa using h2⟩
  · rintro ⟨k, h1, h2⟩
    rw [h1]
    exact ⟨by omega, by simpa using h2⟩
theorem hasB_rise {sel : List Md} (h : RiseP sel) {m : Md} : hasB sel m = true ↔ ∃ x ∈ sel, x.1 = m.1 ∧ verLess x.2 m.2 = false := by
  rw [hasB_iff]
  constructor
  · rintro ⟨k, h1, h2⟩
    obtain ⟨x, hx, hp⟩ := findI_spec h1
    have hl := (List.getElem?_eq_some_iff.1 hx).1
    rw [mdAt_get hl] at hx
    rw [Option.some.inj hx] at h2
    exact ⟨x, by rw [← Option.some.inj hx]; exact mdAt_mem hl, of_decide_eq_true hp, h2⟩
  · rintro ⟨x, hx, e, h2⟩
    have h0 : ¬ findI (hasP m.1) sel < 0 := fun hn => by
      have := findI_eq_none.1 hn x hx
      unfold hasP at this
      rw [decide_eq_false_iff_not] at this
      exact this e
    refine ⟨(findI (hasP m.1) sel).toNat, by omega, ?_⟩
    obtain ⟨y, hy, hp⟩ := findI_spec (show findI (hasP m.1) sel = ((findI (hasP m.1) sel).toNat : Nat) by omega)
    have hl := (List.getElem?_eq_some_iff.1 hy).1
    have hym := List.mem_of_getElem? hy
    rw [mdAt_get hl] at hy
    rw [Option.some.inj hy, h.unique hym hx ((of_decide_eq_true hp).trans e.symm)]
    exact h2
end Go.Proofs.Pw

namespace Go.Proofs.Pw
open Go.Lib hiding intOf
theorem verLess_of_le {a b : Str} (h : verCmp b a ≤ 0) : verLess a b = false := by
  unfold verLess
  refine decide_eq_false (fun h1 => ?_)
  have := (verCmp_ord.anti a b).1 h1.2.2
  omega
theorem Great.under {l out : List Md} (h : Great l out) : underB l out = true := by
  unfold underB
  rw [List.all_eq_true]
  intro m hm
  obtain ⟨x, hx, e1, e2⟩ := h.over m hm
  rw [hasB_rise h.rise]
  exact ⟨x, hx, e1, verLess_of_le e2⟩
theorem under_mem {a c : List Md} : underB a c = true ↔ ∀ m ∈ a, hasB c m = true := by
  unfold underB
  rw [List.all_eq_true]
theorem le_trans3 {a b c : Str} (h1 : verCmp a b ≤ 0) (h2 : verCmp b c ≤ 0) : verCmp a c ≤ 0 := verCmp_ord.tr a b c h1 h2
theorem build_right {l : List En} {roots : List Md} (h : RightG l roots) : ∀ m ∈ buildL l roots, mdErr m = 0 := fun m hm => h.right (h.mem.1 (h.great.sub m hm))
theorem build_mem {l : List En} {roots : List Md} (h : RightG l roots) (m : Md) : m ∈ buildL l roots ↔ Reached l roots m ∧ ∀ x, Reached l roots x → x.1 = m.1 → verCmp x.2 m.2 ≤ 0 := by
  rw [h.great.mem (fun m hm => h.right (h.mem.1 hm)), h.mem]
  exact ⟨fun ⟨h1, h2⟩ => ⟨h1, fun x hx => h2 x (h.mem.2 hx)⟩, fun ⟨h1, h2⟩ => ⟨h1, fun x hx => h2 x (h.mem.1 hx)⟩⟩
theorem build_over {l : List En} {roots : List Md} (h : RightG l roots) {m : Md} (hm : Reached l roots m) : ∃ x ∈ buildL l roots, x.1 = m.1 ∧ verCmp m.2 x.2 ≤ 0 := h.great.over m (h.mem.2 hm)
theorem build_reached {l : List En} {roots : List Md} (h : RightG l roots) {m : Md} (hm : m ∈ buildL l roots) : Reached l roots m := h.mem.1 (h.great.sub m hm)
theorem RightG.sub {l : List En} {A B : List Md} (hB : RightG l B) (h : ∀ m ∈ A, Reached l B m) : RightG l A := ⟨hB.idx, fun m hm => hB.entry (h m hm)⟩
theorem RightG.build {l : List En} {A : List Md} (h : RightG l A) : RightG l (buildL l A) := h.sub fun _ hm => build_reached h hm
theorem startErr_sub {l : List En} {A B : List Md} (h0 : (startErr l B).1 = 0) (h : ∀ m ∈ A, Reached l B m) : (startErr l A).1 = 0 := by
  have hB := rightG_of h0
  unfold startErr at *
  rw [orE_zero] at *
  exact ⟨h0.1, rootsErr_zero.2 fun m hm => hB.entry (h m hm)⟩
theorem build_under {l : List En} {A B : List Md} (hA : RightG l A) (hB : RightG l B) (h : ∀ m, Reached l A m → Reached l B m) : underB (buildL l A) (buildL l B) = true := by
  rw [under_mem]
  intro m hm
  obtain ⟨x, hx, e1, e2⟩ := build_over hB (h m (build_reached hA hm))
  rw [hasB_rise hB.great.rise]
  exact ⟨x, hx, e1, verLess_of_le e2⟩
theorem build_again {l : List En} {A : List Md} (h : RightG l A) : buildL l (buildL l A) = buildL l A := by
  have hb := h.build
  refine rises_ext modCmp_ord hb.great.rises h.great.rises fun m => ?_
  have hr : ∀ x, Reached l (buildL l A) x → Reached l A x := fun x hx => reached_sub (fun y hy => build_reached h hy) hx
  rw [build_mem hb]
  constructor
  · rintro ⟨h1, h2⟩
    obtain ⟨z, hz, e1, e2⟩ := build_over h (hr m h1)
    have e3 := h2 z (.root hz) e1
    have : m = z := modCmp_zero (hb.right h1) (build_right h z hz) (by
      unfold modCmp
      rw [orI_eq, e1, compareBytes_self]
      have := verCmp_ord.anti m.2 z.2
      have := verCmp_ord.anti z.2 m.2
      exact ⟨rfl, by omega⟩)
    rw [this]; exact hz
  · intro hm
    have h3 := (build_mem h m).1 hm
    exact ⟨.root hm, fun x hx e => h3.2 x (hr x hx) e⟩
theorem build_between {l : List En} {A B C : List Md} (hA : RightG l A) (hB : RightG l B) (hC : RightG l C) (h1 : ∀ m, Reached l A m → Reached l B m) (h2 : ∀ m, Reached l B m → Reached l C m) (he : buildL l A = buildL l C) : buildL l B = buildL l C := by
  refine rises_ext modCmp_ord hB.great.rises hC.great.rises fun m => ?_
  rw [build_mem hB]
  constructor
  · rintro ⟨h3, h4⟩
    obtain ⟨z, hz, e1, e2⟩ := build_over hC (h2 m h3)
    rw [← he] at hz
    have e3 := h4 z (h1 z (build_reached hA hz)) e1
    have : m = z := modCmp_zero (hB.right h3) (build_right hA z hz) (by
      unfold modCmp
      rw [orI_eq, e1, compareBytes_self]
      have := verCmp_ord.anti m.2 z.2
      have := verCmp_ord.anti z.2 m.2
      exact ⟨rfl, by omega⟩)
    rw [this, ← he]; exact hz
  · intro hm
    have h3 := (build_mem hC m).1 hm
    rw [← he] at hm
    exact ⟨h1 m (build_reached hA hm), fun x hx e => h3.2 x (h2 x hx) e⟩
end Go.Proofs.Pw

namespace Go.Proofs.Pw
open Go.Lib hiding intOf
end Go.Proofs.Pw

namespace Go.Proofs.Pw
open Go.Lib hiding intOf
def latestM (l : List En) (sel : List Md) : List Md := sel.map fun m => (m.1, latestL l m.1)
theorem latest_in {l : List En} (h : RightI l) {m : Md} {e : En} (he : e ∈ l) (hm : e.md = m) : ∃ e ∈ l, e.md = (m.1, latestL l m.1) := by
  have h1 : m.2 ∈ versL l m.1 := versL_mem.2 ⟨e, he, hm⟩
  have h2 : m.2 ∈ vsort (versL l m.1) := (vsort_mem _ _).2 ⟨h1, by rw [← hm]; exact (modErr_zero (h.mds e he)).2⟩
  have h3 : vsort (versL l m.1) ≠ [] := fun e => by rw [e] at h2; cases h2
  have h4 := likedL_sub (lastS_mem (likedL_ne (l := l) (p := m.1) h3))
  exact versL_mem.1 ((vsort_mem _ _).1 h4).1
def newsB (l : List En) (m : Md) : Bool := verLess m.2 (latestL l m.1)
def newsL (l : List En) (sel : List Md) : List Md := latestM l (sel.filter (newsB l))
noncomputable def nextL (l : List En) (sel : List Md) : List Md := buildL l (sel ++ latestM l sel)
noncomputable def allF (l : List En) : Nat → List Md → List Md
  | 0, sel => sel
  | n + 1, sel => if nextL l sel = sel then sel else allF l n (nextL l sel)
noncomputable def allL (l : List En) (roots : List Md) : List Md := allF l (l.length + 1) (buildL l roots)
structure SelOk (l : List En) (x : List Md) : Prop where
  right : RightG l x
  rise : RiseP x
def OverM (x y : List Md) : Prop := ∀ m ∈ x, ∃ z ∈ y, z.1 = m.1 ∧ verCmp m.2 z.2 ≤ 0
theorem OverM.trans {x y z : List Md} (h1 : OverM x y) (h2 : OverM y z) : OverM x z := fun m hm => by
  obtain ⟨a, ha, e1, h3⟩ := h1 m hm
  obtain ⟨b, hb, e2, h4⟩ := h2 a ha
  exact ⟨b, hb, e2.trans e1, le_trans3 h3 h4⟩
theorem SelOk.md {l : List En} {x : List Md} (h : SelOk l x) {m : Md} (hm : m ∈ x) : mdErr m = 0 := h.right.right (.root hm)
theorem next_right {l : List En} {x : List Md} (hx : RightG l x) : RightG l (x ++ latestM l x) := ⟨hx.idx, fun m hm => by
  rcases List.mem_append.1 hm with h | h
  · exact hx.at_ m h
  · unfold latestM at h
    obtain ⟨y, hy, rfl⟩ := List.mem_map.1 h
    obtain ⟨e, he, e1⟩ := hx.at_ y hy
    exact latest_in hx.idx he e1⟩
theorem allF_stop {l : List En} {x : List Md} (h : nextL l x = x) : ∀ n, allF l n x = x
  | 0 => rfl
  | n + 1 => by rw [allF, if_pos h]
structure AllOk (l : List En) (x y : List Md) : Prop where
  ok : SelOk l y
  over : OverM x y
  stop : nextL l y = y
theorem AllOk.none {l : List En} {x y : List Md} (h : AllOk l x y) : newsL l y = [] := by
  unfold newsL
  have : y.filter (newsB l) = [] := by
    rw [List.filter_eq_nil_iff]
    intro m hm hn
    have h1 := next_right h.ok.right
    have h2 : (m.1, latestL l m.1) ∈ y ++ latestM l y := List.mem_append.2 (.inr (List.mem_map.2 ⟨m, hm, rfl⟩))
    obtain ⟨z, hz, e1, h3⟩ := build_over h1 (.root h2)
    have hz2 : z ∈ nextL l y := hz
    rw [h.stop] at hz2
    have e2 : z = m := h.ok.rise.unique hz2 hm e1
    subst e2
    unfold newsB at hn
    rw [verLess_of_le h3] at hn
    cases hn
  rw [this]; rfl
theorem AllOk.again {l : List En} {x y : List Md} (h : AllOk l x y) : buildL l y = y ∧ allL l y = y := by
  have h1 : buildL l y = y := by
    have := build_again (next_right h.ok.right)
    have e : buildL l (y ++ latestM l y) = y := h.stop
    rw [e] at this
    exact this
  refine ⟨h1, ?_⟩
  unfold allL
  rw [h1]
  exact allF_stop h.stop _
end Go.Proofs.Pw

namespace Go.Proofs.Pw
open Go.Lib hiding intOf
end Go.Proofs.Pw

namespace Go.Proofs.Pw
open Go.Lib hiding intOf
end Go.Proofs.Pw

namespace Go.Proofs.Pw
open Go.Lib hiding intOf
def mtL (m : Md) : Str := mdText m ++ [10]
def mtLs (l : List Md) : Str := l.flatMap mtL
def pkL (p : Str) : Str := 47 :: p ++ [10]
def pkLs (l : List Str) : Str := l.flatMap pkL
theorem mdText_len (m : Md) : (mdText m).length ≤ m.1.length + m.2.length + 1 := by
  unfold mdText modText
  split
  · simp; omega
  · simp
theorem mtLs_len (c : Nat) : ∀ l : List Md, (∀ m ∈ l, m.1.length ≤ c ∧ m.2.length ≤ c) → (mtLs l).length ≤ l.length * (2 * c + 2)
  | [], _ => Nat.zero_le _
  | m :: r, h => by
    have ih := mtLs_len c r (fun x hx => h x (by simp [hx]))
    have h1 := h m (by simp)
    have h2 := mdText_len m
    have e : (mtLs (m :: r)).length = (mdText m).length + 1 + (mtLs r).length := by
      show (mtL m ++ mtLs r).length = _
      rw [List.length_append]; unfold mtL; simp
    rw [e, List.length_cons, Nat.add_mul, Nat.one_mul]
    omega
theorem pkLs_len (c : Nat) : ∀ l : List Str, (∀ m ∈ l, m.length ≤ c) → (pkLs l).length ≤ l.length * (c + 2)
  | [], _ => Nat.zero_le _
  | m :: r, h => by
    have ih := pkLs_len c r (fun x hx => h x (by simp [hx]))
    have h1 := h m (by simp)
    have e : (pkLs (m :: r)).length = m.length + 2 + (pkLs r).length := by
      show (pkL m ++ pkLs r).length = _
      rw [List.length_append]; unfold pkL; simp
    rw [e, List.length_cons, Nat.add_mul, Nat.one_mul]
    omega
abbrev Ln := Md × Nat
def lnTxt (x : Ln) : Str := x.1.1 ++ [32] ++ x.1.2 ++ [32] ++ decDigits x.2 ++ [10]
def lnsTxt (l : List Ln) : Str := l.flatMap lnTxt
end Go.Proofs.Pw

namespace Go.Proofs.Pw
open Go.RowKit
open Go.Lib hiding intOf
def lnF (n : Nat) (P V : Nat → ByteArray) (S : Nat → Nat) : List Ln := (List.range n).map fun j => (((P j).data.toList, (V j).data.toList), S j)
structure LnC (kd : IntKind) (w : World) (b o : Nat) (p v : ByteArray) (s : Int) : Prop where
  c0 : w.cell? ⟨b, o, none⟩ = some (.string p)
  c1 : w.cell? ⟨b, o + 1, none⟩ = some (.string v)
  c2 : w.cell? ⟨b, o + 2, none⟩ = some (.int kd s)
theorem LnC.below {kd : IntKind} {w w' : World} {b o : Nat} {p v : ByteArray} {s : Int} (h : LnC kd w b o p v s) (hb : Below w.heap.size w w') : LnC kd w' b o p v s :=
  ⟨Below.cell_some hb h.c0, Below.cell_some hb h.c1, Below.cell_some hb h.c2⟩
structure LnsIn (kd : IntKind) (w : World) (a : Option Addr) (n cap : Nat) (P V : Nat → ByteArray) (S : Nat → Int) : Prop where
  le : n ≤ cap
  cap : cap ≤ 9223372036854775807
  at_ : ∀ j, j < n → ∃ b o, a = some ⟨b, o, none⟩ ∧ LnC kd w b (o + j * 3) (P j) (V j) (S j)
theorem LnsIn.below {kd : IntKind} {w w' : World} {a n cap P V S} (h : LnsIn kd w a n cap P V S) (hb : Below w.heap.size w w') : LnsIn kd w' a n cap P V S :=
  ⟨h.le, h.cap, fun j hj => let ⟨b, o, e, c⟩ := h.at_ j hj; ⟨b, o, e, c.below hb⟩⟩
def LnsAt (kd : IntKind) (w : World) (v : Value) (l : List Ln) : Prop :=
  ∃ a n cap P V, ∃ S : Nat → Nat, v = .slice a n cap ∧ l = lnF n P V S ∧ LnsIn kd w a n cap P V fun j => ((S j : Nat) : Int)
theorem LnsAt.below {kd : IntKind} {w w' : World} {v : Value} {l : List Ln} (h : LnsAt kd w v l) (hb : Below w.heap.size w w') : LnsAt kd w' v l := by
  obtain ⟨a, n, cap, P, V, S, h1, h2, h3⟩ := h
  exact ⟨a, n, cap, P, V, S, h1, h2, h3.below hb⟩
theorem LnsIn.nil (kd : IntKind) (w : World) (S : Nat → Int) : LnsIn kd w none 0 0 (fun _ => ByteArray.empty) (fun _ => ByteArray.empty) S := ⟨Nat.le_refl _, by decide, fun j hj => absurd hj (Nat.not_lt_zero _)⟩
theorem LnsAt.nil (kd : IntKind) (w : World) : LnsAt kd w (.slice none 0 0) [] :=
  ⟨none, 0, 0, fun _ => ByteArray.empty, fun _ => ByteArray.empty, fun _ => 0, rfl, rfl, LnsIn.nil kd w _⟩
end Go.Proofs.Pw

namespace Go.Proofs.Pw
open Go.RowKit
open Go.Lib hiding intOf
def BAt (B b : Nat) (l : Str) (w : World) : Prop := IsBuilder 253 5 B b (Lib.byteCells l) w
theorem builderAt_below {B b : Nat} {p : Value} {bs : List Value} {w w' : World} (h : BuilderAt 253 5 B b p bs w) (hb : Below w.heap.size w w') : BuilderAt 253 5 B b p bs w' := by
  obtain ⟨h1, v, h2, h3, h4⟩ := h
  exact ⟨h1, v, (hb.block b (Array.getElem?_eq_some_iff.1 h2).1).trans h2, ownsRow_kept h3 hb, h4⟩
theorem BAt.below {B b : Nat} {l : Str} {w w' : World} (h : BAt B b l w) (hb : Below w.heap.size w w') : BAt B b l w' := by
  rcases h with h | h
  · exact .inl (builderAt_below h hb)
  · exact .inr (builderAt_below h hb)
def BF (B b : Nat) (l : Str) (w : World) : Prop := IsBuilderF 253 5 B b (Lib.byteCells l) w
theorem builderAtF_below {B b : Nat} {p : Value} {bs : List Value} {w w' : World} (h : BuilderAtF 253 5 B b p bs w) (hb : Below w.heap.size w w') : BuilderAtF 253 5 B b p bs w' := by
  obtain ⟨h1, v, h2, h3, h4⟩ := h
  exact ⟨h1, v, (hb.block b (Array.getElem?_eq_some_iff.1 h2).1).trans h2, h3.kept (row := none) ⟨hb.os, hb.tape, hb.output, hb.size, fun k hk _ => hb.block k hk⟩ (Classical.em _), h4⟩
theorem BF.below {B b : Nat} {l : Str} {w w' : World} (h : BF B b l w) (hb : Below w.heap.size w w') : BF B b l w' := by
  rcases h with h | h
  · exact .inl (builderAtF_below h hb)
  · exact .inr (builderAtF_below h hb)
theorem BF.lt {B b : Nat} {l : Str} {w : World} (h : BF B b l w) : b < w.heap.size := by
  rcases h with ⟨_, v, h2, _⟩ | ⟨_, v, h2, _⟩
  · exact (Array.getElem?_eq_some_iff.1 h2).1
  · exact (Array.getElem?_eq_some_iff.1 h2).1
end Go.Proofs.Pw

namespace Go.Proofs.Pw
open Go.RowKit
open Go.Lib hiding intOf
end Go.Proofs.Pw

namespace Go.Proofs.Pw
open Go.RowKit Go.Sort
open Go.Lib hiding intOf
end Go.Proofs.Pw

namespace Go.Proofs.Pw
open Go.RowKit
open Go.Lib hiding intOf
end Go.Proofs.Pw

namespace Go.Proofs.Pw
open Go.RowKit
open Go.Lib hiding intOf
structure SumIn (R : List Md) (K : List Str) : Prop where
  r : R.length ≤ 10000
  rs : ∀ m ∈ R, m.1.length ≤ 1000000 ∧ m.2.length ≤ 1000000
  k : K.length ≤ 10000
  ks : ∀ s ∈ K, s.length ≤ 1000000
theorem SumIn.mt {R : List Md} {K : List Str} (h : SumIn R K) (k : Nat) : (mtLs (R.take k)).length ≤ 20000020000 := by
  have h1 := mtLs_len 1000000 (R.take k) fun m hm => h.rs m (List.mem_of_mem_take hm)
  have h2 : (R.take k).length ≤ 10000 := by rw [List.length_take]; have := h.r; omega
  have := Nat.mul_le_mul_right (2 * 1000000 + 2) h2
  omega
theorem SumIn.pk {R : List Md} {K : List Str} (h : SumIn R K) (k : Nat) : (pkLs (K.take k)).length ≤ 10000020000 := by
  have h1 := pkLs_len 1000000 (K.take k) fun m hm => h.ks m (List.mem_of_mem_take hm)
  have h2 : (K.take k).length ≤ 10000 := by rw [List.length_take]; have := h.k; omega
  have := Nat.mul_le_mul_right (1000000 + 2) h2
  omega
end Go.Proofs.Pw

namespace Go.Proofs.Pw
open Go.RowKit
open Go.Lib hiding intOf
theorem decDigits_len20 {u : Nat} (h : u < 18446744073709551616) : (Lib.decDigits u).length ≤ 20 := by
  rw [Lib.decDigits_length]
  by_cases h0 : u = 0
  · subst h0
    rw [Lib.nDigits_small (by decide)]
    decide
  · have := Lib.numDigits_eq u (by omega) h
    split at this <;> omega
theorem lnTxt_len {x : Ln} (h : x.1.1.length ≤ 1000000 ∧ x.1.2.length ≤ 1000000 ∧ x.2 < 4294967296) : (lnTxt x).length ≤ 2000023 := by
  unfold lnTxt
  have := decDigits_len20 (u := x.2) (by omega)
  simp only [List.length_append, List.length_cons, List.length_nil]
  omega
theorem lnsTxt_len : ∀ l : List Ln, (∀ x ∈ l, x.1.1.length ≤ 1000000 ∧ x.1.2.length ≤ 1000000 ∧ x.2 < 4294967296) → (lnsTxt l).length ≤ l.length * 2000023
  | [], _ => Nat.zero_le _
  | m :: r, h => by
    have ih := lnsTxt_len r (fun x hx => h x (by simp [hx]))
    have h1 := lnTxt_len (h m (by simp))
    have e : (lnsTxt (m :: r)).length = (lnTxt m).length + (lnsTxt r).length := by
      show (lnTxt m ++ lnsTxt r).length = _
      rw [List.length_append]
    rw [e, List.length_cons, Nat.add_mul, Nat.one_mul]
    omega
structure LnOk (l : List Ln) : Prop where
  len : l.length ≤ 1000
  at_ : ∀ x ∈ l, x.1.1.length ≤ 1000000 ∧ x.1.2.length ≤ 1000000 ∧ x.2 < 4294967296
theorem LnOk.txt {l : List Ln} (h : LnOk l) (k : Nat) : (lnsTxt (l.take k)).length ≤ 2000023000 := by
  have h1 := lnsTxt_len (l.take k) fun x hx => h.at_ x (List.mem_of_mem_take hx)
  have h2 : (l.take k).length ≤ 1000 := by rw [List.length_take]; have := h.len; omega
  have := Nat.mul_le_mul_right 2000023 h2
  omega
end Go.Proofs.Pw

namespace Go.Proofs.Pw
open Go.RowKit
open Go.Lib hiding intOf
end Go.Proofs.Pw

namespace Go.Proofs.Pw
open Go.RowKit
open Go.Lib hiding intOf
end Go.Proofs.Pw

namespace Go.Proofs.Pw
open Go.RowKit
open Go.Lib hiding intOf
def isOutM (x S : List Md) : Bool := S.any fun m => x.any fun e => decide (m = e)
theorem isOutM_yes {x S : List Md} {m : Md} (h1 : m ∈ S) (h2 : m ∈ x) : isOutM x S = true := by
  unfold isOutM
  exact List.any_eq_true.2 ⟨m, h1, List.any_eq_true.2 ⟨m, h2, decide_eq_true rfl⟩⟩
end Go.Proofs.Pw
