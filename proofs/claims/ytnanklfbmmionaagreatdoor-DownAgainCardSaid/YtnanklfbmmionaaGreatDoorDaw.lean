/- Da: walks and plain laws, joined: GrReach DdMath DnTo ToMath Reached Lowered LoweredW. Conditions: at each theorem. -/
import Derived.Test.YtnanklfbmmionaaGreatDoorDaj
import Derived.Test.YtnanklfbmmionaaGreatDoorDat
import Derived.Test.YtnanklfbmmionaaGreatDoorDau
import Derived.Test.YtnanklfbmmionaaGreatDoorDav

namespace Go.Proofs.Pw
open Go.RowKit
open Go.Lib hiding intOf
noncomputable def reachR (l : List En) (roots : List Md) : List Md := if (startErr l roots).1 = 0 then reachL l roots else []
theorem rises_le {l : List Md} (h : l.Pairwise fun a b => modCmp a b ≤ 0) (hn : l.Nodup) (hr : ∀ m ∈ l, mdErr m = 0) : Rises modCmp l := by
  unfold Rises
  have h2 := h.and hn
  refine List.Pairwise.imp_of_mem ?_ h2
  intro a b ha hb ⟨h3, h4⟩
  rcases Int.lt_or_eq_of_le h3 with h5 | h5
  · exact h5
  · exact absurd (modCmp_zero (hr a ha) (hr b hb) h5) h4
theorem RightI.small {l : List En} (h : RightI l) {e : En} (he : e ∈ l) : e.reqs.length ≤ 20 := by
  have h1 := h.reqs e he
  unfold reqsErr at h1
  by_cases h2 : 20 < e.reqs.length
  · rw [if_pos h2] at h1; cases h1
  · omega
theorem mdTs_keys (S : List (MB × MB)) : mdTs (S.map (·.1)) = (cameOf S).map (·.1) := by
  unfold mdTs cameOf
  rw [List.map_map, List.map_map]
  rfl
theorem came_ok {l : List En} {roots : List Md} {S : List (MB × MB)} (hG : RightG l roots) (hs : ShortI l) (hS : cameOf S = walkS l roots) : ∀ m ∈ S.map (·.1), OkM m := by
  intro m hm
  have h1 := cameOf_mem.2 hm
  rw [hS] at h1
  have h2 := (walkS_mem hG _).1 h1
  obtain ⟨e, he, e1⟩ := hG.entry h2
  have h3 := hs.mds e he
  rw [e1] at h3
  refine ⟨(modErr_zero (hG.right h2)).2, ?_⟩
  rw [size_eq]
  exact Nat.le_trans h3.2 (by decide)
theorem walk_sorted {l : List En} {roots l' : List Md} {S : List (MB × MB)} (hG : RightG l roots) (hS : cameOf S = walkS l roots) (hp : l'.Perm (mdTs (S.map (·.1)))) (hl : l'.Pairwise fun a b => modCmp a b ≤ 0) : l' = reachL l roots := by
  have hm : ∀ m, m ∈ l' ↔ Reached l roots m := fun m => by
    rw [hp.mem_iff, mdTs_keys, hS, walkS_mem hG]
  have hn : l'.Nodup := by
    rw [hp.nodup_iff, mdTs_keys, hS]
    exact (walkS_walked hG).nd
  exact hG.is (rises_le hl hn (fun m h => hG.right ((hm m).1 h))) hm
set_option maxHeartbeats 4000000 in
set_option maxRecDepth 100000 in
theorem grReach_in (ks : List Nat) (A : Nat → Addr) (hks : IdxKs ks) (a : Option Addr) (n cap : Nat) (P V : Nat → ByteArray) (R : Nat → List Md) (K : Nat → List Str) (Bk : Nat → Bool) (Rv Kv : Nat → Value) (rv : Value) (roots : List Md) (w : World) (hE : EnvP ks A w) (h : EntsIn w a n cap P V R K Bk Rv Kv) (hs : ShortI (enF n P V R K Bk)) (hr : ModsAt w rv roots) (hl : roots.length ≤ 100000) :
    Calls Tryz.prog 38 #[.slice a n cap, rv] w fun e w' => (∃ x ev, e = .returned (.tuple #[x, ev]) ∧ FaultAt A w' ev (startErr (enF n P V R K Bk) roots) ∧ ModsAt w' x (reachR (enF n P V R K Bk) roots)) ∧ Below w.heap.size w w' := by
  have hst := grStart_in ks A hks a n cap P V R K Bk Rv Kv rv roots w hE h hs hr (by omega)
  have H := Lib.hid h
  have HS := Lib.hid hs
  have HE := Lib.hid hE
  obtain ⟨ar, rn, rc, _, _, rfl, _⟩ := id hr
  have HR := Lib.hid hr
  replace hst := Lib.hid hst
  clear h hs hE hr
  go_enter Tryz.func38, Tryz.ntmps38
  go_wp2_with fail
  refine hst.out.mono ?_
  rintro e w1 ⟨⟨v, rfl, hv⟩, hB⟩
  clear hst
  rcases fault_form hv with ⟨h0, rfl⟩ | ⟨h0, ty, q, rfl⟩
  · have hG := rightG_of h0
    have hn : n ≤ 100 := by have := hG.idx.len; rwa [enF_length] at this
    have hRj : ∀ j, j < n → (R j).length ≤ 1000 := fun j hj => by
      have h2 := hG.idx.small (List.mem_of_getElem? (enF_get n P V R K Bk j hj))
      have h3 : (R j).length ≤ 20 := h2
      omega
    have hwk := grWalk_in a n cap P V R K Bk Rv Kv (.slice ar rn rc) roots w1 (H.out.below hB) (HR.out.below hB) hl (by omega) hRj hG
    have h00 := startErr_at h0
    have HG := Lib.hid hG
    have H0 := Lib.hid h00
    replace hwk := Lib.hid hwk
    clear hG h00 h0 hv hRj hn
    go_wp2_with fail
    refine hwk.out.mono ?_
    rintro e w2 ⟨⟨x, S, rfl, hGo, hS⟩, hb2⟩
    have hB2 := below_step hB hb2
    have hSl : (S.map (·.1)).length ≤ 1000000 := by
      have h1 := (walkS_walked HG.out).len HG.out
      rw [← hS, cameOf_length, enF_length] at h1
      have h2 := HG.out.idx.len
      rw [enF_length] at h2
      rw [List.length_map]; omega
    have hso := sortM_calls ks A w w2 HE.out (w1.heap.size + 3) x (S.map (·.1)) hB2 (by have := hB.size; omega) hGo.own (came_ok HG.out HS.out hS) hSl
    obtain ⟨ax, nx, cx, rfl⟩ := own_form hGo.own
    have HSS := Lib.hid hS
    replace hso := Lib.hid hso
    clear hwk hGo hS hSl
    go_wp2_with fail
    refine hso.out.mono ?_
    rintro e w3 ⟨rfl, ⟨l', hM, hp, hpw⟩, hB3⟩
    have HM := Lib.hid (And.intro hM (And.intro hp hpw))
    clear hM hp hpw
    go_wp2_with fail
    go_ret2
    refine ⟨⟨_, _, rfl, ?_, ?_⟩, hB3⟩
    · rw [H0.out]; exact .inl ⟨rfl, rfl, rfl⟩
    · unfold reachR
      rw [if_pos (by rw [H0.out]), ← walk_sorted HG.out HSS.out HM.out.2.1 HM.out.2.2]
      exact HM.out.1
  · have HV := Lib.hid hv
    have H0 := Lib.hid h0
    clear hv h0
    go_wp2_with fail
    go_ret2
    refine ⟨⟨_, _, rfl, HV.out, ?_⟩, hB⟩
    unfold reachR
    rw [if_neg H0.out]
    exact ModsAt.nil _
end Go.Proofs.Pw

namespace Go.Proofs.Pw
open Go.Lib hiding intOf
theorem keepI_false {L : List MB2} {t : Nat} (h : keepI L t = false) : t ≠ 0 ∧ L[t]? = L[t - 1]? := by
  unfold keepI at h
  rw [Bool.or_eq_false_iff, decide_eq_false_iff_not, decide_eq_false_iff_not] at h
  exact ⟨h.1, Classical.not_not.1 h.2⟩
theorem mem_ddT {L : List MB2} : ∀ {t : Nat}, t ≤ L.length → ∀ m, m ∈ ddT L t ↔ m ∈ L.take t
  | 0, _, m => by simp [ddT]
  | t + 1, ht, m => by
    have ih := mem_ddT (L := L) (t := t) (by omega) m
    have hx : L[t]? = some (L[t]'(by omega)) := List.getElem?_eq_getElem (by omega)
    cases hk : keepI L t with
    | true => rw [ddT_keep hk hx, List.take_add_one, hx, List.mem_append, List.mem_append, ih]; simp
    | false =>
      rw [ddT_skip hk, ih, List.take_add_one, List.mem_append]
      refine ⟨.inl, fun h => h.elim id fun h => ?_⟩
      obtain ⟨h0, h1⟩ := keepI_false hk
      rw [hx] at h h1
      have hm : m = L[t]'(by omega) := by simpa using h
      have h2 : (L.take t)[t - 1]? = some m := by rw [List.getElem?_take, if_pos (by omega), ← h1, hm]
      exact List.mem_of_getElem? h2
theorem mem_ddB {L : List MB2} {m : MB2} : m ∈ ddB L ↔ m ∈ L := by
  unfold ddB
  rw [mem_ddT (Nat.le_refl _), List.take_length]
theorem ddT_rises {L : List MB2} (hs : (mdTs L).Pairwise fun a b => modCmp a b ≤ 0) (hr : ∀ m ∈ mdTs L, mdErr m = 0) : ∀ {t : Nat}, t ≤ L.length → Rises modCmp (mdTs (ddT L t))
  | 0, _ => List.Pairwise.nil
  | t + 1, ht => by
    have ih := ddT_rises hs hr (t := t) (by omega)
    have hx : L[t]? = some (L[t]'(by omega)) := List.getElem?_eq_getElem (by omega)
    cases hk : keepI L t with
    | false => rw [ddT_skip hk]; exact ih
    | true =>
      rw [ddT_keep hk hx]
      unfold mdTs at ih ⊢
      rw [List.map_append]
      refine List.pairwise_append.2 ⟨ih, List.pairwise_singleton _ _, fun a ha b hb => ?_⟩
      rw [List.map_singleton, List.mem_singleton] at hb
      subst hb
      obtain ⟨a', ha', rfl⟩ := List.mem_map.1 ha
      rw [mem_ddT (by omega)] at ha'
      obtain ⟨i, hi⟩ := List.getElem?_of_mem ha'
      have hit : i < t := by
        have := (List.getElem?_eq_some_iff.1 hi).1
        rw [List.length_take] at this
        omega
      rw [List.getElem?_take, if_pos hit] at hi
      have hia : L[i]'(by omega) = a' := by rw [List.getElem?_eq_getElem (by omega)] at hi; exact Option.some.inj hi
      have hle : ∀ (i k : Nat) (hi : i < L.length) (hk : k < L.length), i ≤ k → modCmp (((L[i]).1.data.toList, (L[i]).2.data.toList)) (((L[k]).1.data.toList, (L[k]).2.data.toList)) ≤ 0 := fun i k hi hk hik => by
        by_cases e : i = k
        · subst e; rw [modCmp_ord.self]; exact Int.le_refl _
        · have hp := List.pairwise_iff_getElem.1 hs i k (by unfold mdTs; simpa using hi) (by unfold mdTs; simpa using hk) (by omega)
          unfold mdTs at hp
          rw [List.getElem_map, List.getElem_map] at hp
          exact hp
      have hne : L[t]'(by omega) ≠ L[t - 1]'(by omega) := by
        unfold keepI at hk
        rw [Bool.or_eq_true, decide_eq_true_iff, decide_eq_true_iff] at hk
        rcases hk with h | h
        · omega
        · intro e
          exact h (by rw [hx, List.getElem?_eq_getElem (by omega), e])
      have h1 := hle i (t - 1) (by omega) (by omega) (by omega)
      have h2 := hle (t - 1) t (by omega) (by omega) (by omega)
      have h3 : modCmp (((L[t - 1]'(by omega)).1.data.toList, (L[t - 1]'(by omega)).2.data.toList)) (((L[t]'(by omega)).1.data.toList, (L[t]'(by omega)).2.data.toList)) ≠ 0 := fun e => by
        have h4 := modCmp_zero (hr _ (List.mem_map.2 ⟨_, List.getElem_mem _, rfl⟩)) (hr _ (List.mem_map.2 ⟨_, List.getElem_mem _, rfl⟩)) e
        exact hne (Prod.ext (bytes_pair.1 h4).1.symm (bytes_pair.1 h4).2.symm)
      rw [hia] at h1
      generalize ((L[t - 1]'(by omega)).1.data.toList, (L[t - 1]'(by omega)).2.data.toList) = y at h1 h2 h3
      generalize ((L[t]'(by omega)).1.data.toList, (L[t]'(by omega)).2.data.toList) = x at h2 h3 ⊢
      have h5 := modCmp_ord.tr _ _ _ h1 h2
      have h6 := modCmp_ord.anti y x
      have h7 : modCmp (a'.1.data.toList, a'.2.data.toList) x ≠ 0 := fun e => by
        have h8 := modCmp_ord.zero e
        have h9 := modCmp_ord.tr _ _ _ (show modCmp x (a'.1.data.toList, a'.2.data.toList) ≤ 0 by omega) h1
        omega
      omega
theorem ddB_rises {L : List MB2} (hs : (mdTs L).Pairwise fun a b => modCmp a b ≤ 0) (hr : ∀ m ∈ mdTs L, mdErr m = 0) : Rises modCmp (mdTs (ddB L)) := ddT_rises hs hr (Nat.le_refl _)
theorem mem_mdTs_ddB {L : List MB2} {m : Md} : m ∈ mdTs (ddB L) ↔ m ∈ mdTs L := by
  unfold mdTs
  rw [List.mem_map, List.mem_map]
  exact ⟨fun ⟨a, h, e⟩ => ⟨a, mem_ddB.1 h, e⟩, fun ⟨a, h, e⟩ => ⟨a, mem_ddB.2 h, e⟩⟩
end Go.Proofs.Pw

namespace Go.Proofs.Pw
open Go.RowKit
open Go.Lib hiding intOf
def lowsF (l : List En) (M : Nat → Bool) (rs : List Md) : List Md := rs.filterMap fun r => (lowF l M r).map fun v => (r.1, v)
def toErr (l : List En) (roots caps : List Md) : Nat × Int := orE (badErr l caps) (rootsErr l roots)
def ToP (l : List En) (caps roots T : List Md) : Prop := ∃ M : Nat → Bool, (∀ j, j < l.length → (M j = true ↔ BadP l caps (enAt l j).md)) ∧ Rises modCmp T ∧ ∀ m, m ∈ T ↔ m ∈ lowsF l M roots
theorem lowF_mem {l : List En} {M : Nat → Bool} {m : Md} {v : Str} (h : lowF l M m = some v) : verErr v = 0 ∧ ∃ e ∈ l, e.md = (m.1, v) := by
  unfold lowF at h
  have h1 := List.mem_of_find?_eq_some h
  rw [List.mem_reverse] at h1
  obtain ⟨h2, h3⟩ := (vsort_mem _ _).1 h1
  exact ⟨h3, versL_mem.1 h2⟩
theorem lowsF_mem {l : List En} {M : Nat → Bool} {rs : List Md} {m : Md} (h : m ∈ lowsF l M rs) : verErr m.2 = 0 ∧ ∃ e ∈ l, e.md = m := by
  unfold lowsF at h
  obtain ⟨r, _, h1⟩ := List.mem_filterMap.1 h
  cases hv : lowF l M r with
  | none => rw [hv] at h1; cases h1
  | some v =>
    rw [hv] at h1
    obtain rfl := Option.some.inj h1
    exact lowF_mem hv
theorem lowsF_snoc (l : List En) (M : Nat → Bool) (rs : List Md) (r : Md) : lowsF l M (rs ++ [r]) = lowsF l M rs ++ ((lowF l M r).map fun v => (r.1, v)).toList := by
  unfold lowsF
  rw [List.filterMap_append]
  congr 1
set_option maxHeartbeats 8000000 in
set_option maxRecDepth 100000 in
theorem to_in (ks : List Nat) (A : Nat → Addr) (hks : IdxKs ks) (a : Option Addr) (n cap : Nat) (P V : Nat → ByteArray) (R : Nat → List Md) (K : Nat → List Str) (B : Nat → Bool) (Rv Kv : Nat → Value) (rv cv : Value) (roots caps : List Md) (w : World) (hE : EnvP ks A w) (h : EntsIn w a n cap P V R K B Rv Kv) (hs : ShortI (enF n P V R K B)) (hr : ModsAt w rv roots) (hl : roots.length ≤ 10000) (hrs : Short roots) (hc : ModsAt w cv caps) (hsc : Short caps) :
    Calls Tryz.prog 32 #[.slice a n cap, rv, cv] w fun e w' => (∃ x ev, e = .returned (.tuple #[x, ev]) ∧ FaultAt A w' ev (toErr (enF n P V R K B) roots caps) ∧ ((toErr (enF n P V R K B) roots caps).1 = 0 → ∃ T, ModsAt w' x T ∧ ToP (enF n P V R K B) caps roots T) ∧ ((toErr (enF n P V R K B) roots caps).1 ≠ 0 → x = .slice none 0 0)) ∧ Below w.heap.size w w' := by
  obtain ⟨i0, hi, hz0, hz1, hz2⟩ := info_parts Tryz.infoMod
  have hbad := bad_in ks A hks a n cap P V R K B Rv Kv cv caps w hE h hs hc hsc
  have hre := fun W (hW : Below w.heap.size w W) => grReach_in ks A hks a n cap P V R K B Rv Kv rv roots W (hE.below hW) (h.below hW) hs (hr.below hW) (by omega)
  have hlo := fun W (hW : Below w.heap.size w W) (g : Nat) (M : Nat → Bool) (p q : ByteArray) (hrow : MarkRow W g n M) (hq : q.size ≤ 1000000) => lower_in ks A a n cap P V R K B Rv Kv g M p q W (hE.below hW) (h.below hW) hs hrow hq
  have H := Lib.hid h
  have HSH := Lib.hid hs
  have HE := Lib.hid hE
  have HT0 : Hid (toErr (enF n P V R K B) roots caps = orE (badErr (enF n P V R K B) caps) (rootsErr (enF n P V R K B) roots)) := Lib.hid rfl
  obtain ⟨ar, rn, rc, Q, U, rfl, hrE, hrnc, hrcap, hrc⟩ := hr
  have HRL : Hid (∀ j, j < rn → (U j).size ≤ 1000000) := Lib.hid (fun j hj => by
    rw [hrE] at hrs
    exact ((short_F hrs).2 j hj).2)
  have hrn : rn ≤ 10000 := by rw [hrE, mdF_length] at hl; exact hl
  have HRE := Lib.hid hrE
  obtain ⟨ac, cn, cc, _, _, rfl, _⟩ := id hc
  replace hbad := Lib.hid hbad
  replace hre := Lib.hid hre
  replace hlo := Lib.hid hlo
  replace hrc := Lib.hid hrc
  clear h hs hE hrs hsc hc hl hrE
  go_enter Tryz.func32, Tryz.ntmps32
  go_wp2_with fail
  refine hbad.out.mono ?_
  rintro e w1 ⟨⟨x1, ev1, rfl, hf1, hx1, hx1n⟩, hB⟩
  rcases fault_form hf1 with ⟨h0, rfl⟩ | ⟨h0, ty, q, rfl⟩
  · obtain ⟨g, M, rfl, hrow, hM⟩ := hx1 h0
    rw [enF_length] at hrow hM
    have HROW := Lib.hid hrow
    have HM := Lib.hid hM
    have HB0 := Lib.hid h0
    have hre1 := hre.out w1 hB
    rw [enF_length]
    replace hre1 := Lib.hid hre1
    clear hf1 hx1 hx1n h0 hrow hM hbad hre
    go_wp2_with fail
    refine hre1.out.mono ?_
    rintro e w2 ⟨⟨x2, ev2, rfl, hf2, _⟩, hb2⟩
    have hB2 := below_step hB hb2
    have HSE : Hid (toErr (enF n P V R K B) roots caps = startErr (enF n P V R K B) roots ∧ (idxErr (enF n P V R K B)).1 = 0) := Lib.hid (by
      have h1 := HB0.out
      unfold badErr at h1
      rw [orE_zero] at h1
      refine ⟨?_, h1.1⟩
      rw [HT0.out]
      unfold startErr orE
      rw [if_neg (by rw [HB0.out]; simp), if_neg (by rw [h1.1]; simp)])
    have HROW2 := Lib.hid (HROW.out.below hb2)
    clear hb2 HROW hre1
    rcases fault_form hf2 with ⟨h0, rfl⟩ | ⟨h0, ty, q, rfl⟩
    · have HG := Lib.hid (rightG_of h0)
      have HS0 := Lib.hid (startErr_at h0)
      have hn : n ≤ 100 := by have := HG.out.idx.len; rwa [enF_length] at this
      clear hf2 h0
      go_wp2_with fail
      go_loopw [12, 16, 37] (fun o _ x wr => ∃ (k : Nat) (L : List (ByteArray × ByteArray)), k ≤ rn ∧ x = .int .i64 k ∧ Hid (wr.ownsRow w2.heap.size 29 2 o L.length (mdVs L)) ∧ L.length ≤ k ∧ Hid (mdTs L = lowsF (enF n P V R K B) M ((mdF rn Q U).take k)) ∧ Below w2.heap.size w2 wr) (fun _ _ x _ => rn - (intOf x).toNat)
      case atStart => exact ⟨0, [], Nat.zero_le _, rfl, Lib.hid (World.ownsRow_nil _ _ _ _), Nat.le_refl _, Lib.hid (by simp [mdTs, lowsF]), Below.refl _ _⟩
      case round =>
        obtain ⟨k, L, hk, rfl, hO, hLk, hT, hBr⟩ := hrel
        obtain ⟨ao, no, co, rfl⟩ := own_form hO.out
        by_cases hlt : k < rn
        · have hkn : (k : Int) < (rn : Int) := by omega
          obtain ⟨b1, o1, ea, c0, c1⟩ := hrc.out k hlt
          replace c0 := Below.cell_some (below_step hB2 hBr) c0
          replace c1 := Below.cell_some (below_step hB2 hBr) c1
          have hba := below_alloc wr (.cells #[.string (Q k), .string (U k)] 29)
          obtain ⟨y0, y1, _⟩ := box2_alloc wr (.string (Q k)) (.string (U k)) 29
          have hB3 := below_step hBr hba
          have hlo3 := hlo.out _ (below_step hB2 hB3) g M (Q k) (U k) (HROW2.out.below hB3) (HRL.out k hlt)
          have hO3 := Lib.hid (hO.out.below hba)
          have hTk : lowsF (enF n P V R K B) M ((mdF rn Q U).take (k + 1)) = lowsF (enF n P V R K B) M ((mdF rn Q U).take k) ++ ((lowF (enF n P V R K B) M ((Q k).data.toList, (U k).data.toList)).map fun v => ((Q k).data.toList, v)).toList := by
            rw [List.take_add_one, mdF_get rn Q U k hlt]
            exact lowsF_snoc _ _ _ _
          have HTK := Lib.hid hTk
          subst ea
          replace hlo3 := Lib.hid hlo3
          clear hTk hba hO
          go_wp2_with fail
          generalize wr.alloc (.cells #[.string (Q k), .string (U k)] 29) = w3 at *
          refine hlo3.out.mono ?_
          rintro e w4 ⟨⟨v, b, rfl, hlow⟩, hb4⟩
          have hba2 := below_alloc w4 (.cells #[.string (if b = true then Q k else ⟨#[]⟩), .string v] 29)
          obtain ⟨u0, u1, _⟩ := box2_alloc w4 (.string (if b = true then Q k else ⟨#[]⟩)) (.string v) 29
          have hO4 := Lib.hid ((ownsRow_kept hO3.out hb4).below hba2)
          have hB4 := below_step (below_step hB3 hb4) hba2
          have HLOW := Lib.hid hlow
          clear hlow hlo3 hb4 hba2 c0 c1 y0 y1 hO3 hB3
          cases b with
          | false =>
            have HN : Hid (mdTs L = lowsF (enF n P V R K B) M ((mdF rn Q U).take (k + 1))) := Lib.hid (by
              rw [HTK.out, ← HLOW.out, hT.out]
              simp)
            clear hT HTK HLOW
            simp only [Bool.false_eq_true, if_false] at u0 u1 hO4 hB4
            go_wp2_with fail
            go_roundw
            case rel => exact ⟨k + 1, L, by omega, by go_num, hO4, by omega, HN, hB4⟩
            case measure => simp [intOf]; omega
          | true =>
            have HN : Hid (mdTs (L ++ [(Q k, v)]) = lowsF (enF n P V R K B) M ((mdF rn Q U).take (k + 1))) := Lib.hid (by
              rw [HTK.out, ← HLOW.out, mdTs_sn, hT.out]
              simp)
            clear hT HTK HLOW
            simp only [if_true] at u0 u1 hO4 hB4
            obtain ⟨w5, hW⟩ : ∃ W, w4.alloc (.cells #[.string (Q k), .string v] 29) = W := ⟨_, rfl⟩
            rw [hW] at u0 u1 hO4 hB4
            have hown := Lib.hid (fun q (e : (Value.slice ao no co).ownBlock = some q) => (hO4.out.lt q e).1)
            go_wp2_with (at_builtin; refine wpList_append_own _ rfl _ _ 23 rfl w2.heap.size 29 i0 (.agg #[.string ⟨#[]⟩, .string ⟨#[]⟩]) 2 32 Tryz.underlying23 hi hz0 hz1 hz2 rfl (by decide) _ _ _ rfl (hO4.out.alloc _) ⟨w5.heap.size, 0, none⟩ 1 1 [.string (Q k), .string v] rfl rfl (cell_two_new _ _ _ _) (by intro u hu; simp at hu; rcases hu with rfl | rfl <;> rfl) (by unfold maxLen; omega) (by omega) (by have := hB4.size; simp; omega) ?_; intro o' w7 hown4 hgrow4 _)
            go_roundw
            case rel =>
              refine ⟨k + 1, L ++ [(Q k, v)], by omega, by go_num, Lib.hid ?_, by simp; omega, HN, ?_⟩
              · rw [List.length_append, List.length_singleton, ← mdVs_snoc]
                exact hown4
              · exact (hB4.alloc hB4.size _).grown hgrow4 (by have := hB4.size; simp; omega) hown.out
            case measure => simp [intOf]; omega
        · obtain rfl : rn = k := by omega
          have hTL : mdTs L = lowsF (enF n P V R K B) M (mdF rn Q U) := by
            rw [hT.out, List.take_of_length_le (by rw [mdF_length]; exact Nat.le_refl _)]
          have hOK : ∀ m ∈ L, OkM m := fun m hm => by
            have h1 : (m.1.data.toList, m.2.data.toList) ∈ lowsF (enF n P V R K B) M (mdF rn Q U) := by rw [← hTL]; exact List.mem_map.2 ⟨m, hm, rfl⟩
            obtain ⟨h2, e, he, h3⟩ := lowsF_mem h1
            have h4 := (HSH.out.mds e he).2
            rw [h3] at h4
            refine ⟨h2, ?_⟩
            rw [size_eq]
            have h5 : m.2.data.toList.length ≤ 1000000 := h4
            omega
          have hB9 := below_step hB2 hBr
          have hso := sortMO_calls ks A w wr HE.out w.heap.size _ L hB9 (Nat.le_refl _) (hO.out.mono (base' := w.heap.size) hB2.size) hOK (by omega)
          have HTL := Lib.hid hTL
          have hnk : ¬ (rn : Int) < (rn : Int) := by omega
          replace hso := Lib.hid hso
          clear hTL hOK hT hlt hk
          go_wp2_with fail
          refine hso.out.mono ?_
          rintro e w8 ⟨rfl, ⟨L', hlL, hO', hpm, hpw⟩, hB8⟩
          have hco := compM_calls w.heap.size _ L' w8 hO' hB8.size (by omega)
          have HP := Lib.hid (And.intro hpm hpw)
          replace hco := Lib.hid hco
          clear hpm hpw hO' hso hlL hLk
          go_wp2_with fail
          refine hco.out.mono ?_
          rintro e w9 ⟨⟨v9, rfl, hO9⟩, hb9⟩
          have hM9 := modsAt_own hO9
          have HM9 := Lib.hid hM9
          obtain ⟨a9, n9, c9, rfl⟩ := own_form hO9
          clear hM9 hO9 hco
          go_wp2_with fail
          go_ret2
          rw [HSE.out.1, HS0.out]
          refine ⟨⟨_, _, rfl, .inl ⟨rfl, rfl, rfl⟩, fun _ => ⟨_, HM9.out, M, fun j hj => HM.out j (by rwa [enF_length] at hj), ?_, fun m => ?_⟩, fun h => absurd rfl h⟩, hB8.trans hb9⟩
          · refine ddB_rises HP.out.2 (fun m hm => ?_)
            have h1 := HP.out.1.mem_iff.1 hm
            rw [HTL.out] at h1
            obtain ⟨_, e, he, h3⟩ := lowsF_mem h1
            rw [← h3]
            exact HG.out.idx.mds e he
          · rw [mem_mdTs_ddB, HP.out.1.mem_iff, HTL.out, HRE.out]
    · have HV := Lib.hid hf2
      have H0 := Lib.hid h0
      clear hf2 h0
      go_wp2_with fail
      go_ret2
      rw [HSE.out.1]
      exact ⟨⟨_, _, rfl, HV.out, fun h => absurd h H0.out, fun _ => rfl⟩, hB2⟩
  · have HV := Lib.hid hf1
    have H0 := Lib.hid h0
    have HTE : Hid (toErr (enF n P V R K B) roots caps = badErr (enF n P V R K B) caps) := Lib.hid (by
      rw [HT0.out]; unfold orE; rw [if_pos h0])
    clear hf1 hx1 hx1n h0
    go_wp2_with fail
    go_ret2
    rw [HTE.out]
    exact ⟨⟨_, _, rfl, HV.out, fun h => absurd h H0.out, fun _ => rfl⟩, hB⟩
end Go.Proofs.Pw

namespace Go.Proofs.Pw
open Go.Lib hiding intOf
def bestT (l : List En) (M : Nat → Bool) (m : Md) : Nat → Option Nat
  | 0 => none
  | t + 1 => if (enAt l t).md.1 = m.1 ∧ verLess m.2 (enAt l t).md.2 = false ∧ M t = false then some t else bestT l M m t
theorem versL_take {l : List En} {p : Str} {t : Nat} (h : t < l.length) : versL (l.take (t + 1)) p = versL (l.take t) p ++ (if (enAt l t).md.1 = p then [(enAt l t).md.2] else []) := by
  rw [List.take_add_one, List.getElem?_eq_getElem h, ← enAt_elem h]
  exact versL_snoc _ _ _
theorem find_best {l : List En} {M : Nat → Bool} {m : Md} (hR : RightI l) : ∀ {t : Nat}, t ≤ l.length → (versL (l.take t) m.1).reverse.find? (okLow l M m) = (bestT l M m t).map fun k => (enAt l k).md.2
  | 0, _ => by simp [versL, bestT]
  | t + 1, ht => by
    have ih := find_best (M := M) (m := m) hR (t := t) (by omega)
    rw [versL_take (by omega), bestT]
    by_cases hp : (enAt l t).md.1 = m.1
    · rw [if_pos hp, List.reverse_append, List.reverse_singleton, List.singleton_append, List.find?_cons]
      have hpl := hR.place (j := t) (by omega)
      have hok : okLow l M m (enAt l t).md.2 = (!verLess m.2 (enAt l t).md.2 && !M t) := by
        unfold okLow
        rw [show (m.1, (enAt l t).md.2) = (enAt l t).md from by rw [← hp], hpl]
        rfl
      rw [hok]
      cases h1 : verLess m.2 (enAt l t).md.2 <;> cases h2 : M t <;> simp [hp, ih]
    · rw [if_neg hp, List.append_nil, ih, if_neg (fun h => hp h.1)]
theorem versL_rises {l : List En} (hR : RightI l) (p : Str) : Rises verCmp (versL l p) := by
  unfold versL Rises
  rw [List.pairwise_map]
  have h1 := hR.rise
  unfold Rises at h1
  rw [List.pairwise_map] at h1
  refine (List.Pairwise.sublist List.filter_sublist h1).imp_of_mem ?_
  intro a b ha hb h
  have h2 := of_decide_eq_true (List.mem_filter.1 ha).2
  have h3 := of_decide_eq_true (List.mem_filter.1 hb).2
  unfold modCmp at h
  rw [orI_lt] at h
  rcases h with h | h
  · rw [h2, h3, compareBytes_ord.self] at h
    exact absurd h (by decide)
  · exact h.2
theorem vsort_versL {l : List En} (hR : RightI l) (p : Str) : vsort (versL l p) = versL l p :=
  rises_ext verCmp_ord (vsort_rises _) (versL_rises hR p) fun x => by
    rw [vsort_mem]
    refine ⟨fun h => h.1, fun h => ⟨h, ?_⟩⟩
    obtain ⟨e, he, h1⟩ := versL_mem.1 h
    have h2 := hR.mds e he
    rw [h1] at h2
    exact (modErr_zero h2).2
theorem lowF_best {l : List En} {M : Nat → Bool} {m : Md} (hR : RightI l) : lowF l M m = (bestT l M m l.length).map fun k => (enAt l k).md.2 := by
  have h := find_best (M := M) (m := m) hR (Nat.le_refl l.length)
  rw [List.take_length] at h
  unfold lowF
  rw [vsort_versL hR, h]
theorem bestT_at {l : List En} {M : Nat → Bool} {m : Md} : ∀ {t k : Nat}, bestT l M m t = some k → k < t ∧ (enAt l k).md.1 = m.1
  | 0, _, h => by cases h
  | t + 1, k, h => by
    rw [bestT] at h
    split at h
    · rename_i h1
      obtain rfl := Option.some.inj h
      exact ⟨Nat.lt_succ_self _, h1.1⟩
    · obtain ⟨h2, h3⟩ := bestT_at h
      exact ⟨by omega, h3⟩
theorem lowsF_best {l : List En} {M : Nat → Bool} {rs : List Md} (hR : RightI l) {m : Md} : m ∈ lowsF l M rs ↔ ∃ r ∈ rs, ∃ k, bestT l M r l.length = some k ∧ m = (enAt l k).md := by
  unfold lowsF
  rw [List.mem_filterMap]
  constructor
  · rintro ⟨r, hr, h⟩
    rw [lowF_best hR] at h
    cases hb : bestT l M r l.length with
    | none => rw [hb] at h; cases h
    | some k =>
      rw [hb] at h
      obtain rfl := Option.some.inj h
      exact ⟨r, hr, k, hb, Prod.ext (bestT_at hb).2.symm rfl⟩
  · rintro ⟨r, hr, k, hb, rfl⟩
    refine ⟨r, hr, ?_⟩
    rw [lowF_best hR, hb]
    exact congrArg some (Prod.ext (bestT_at hb).2.symm rfl)
def outM (l : List En) (S : Nat → Bool) : Nat → List Md
  | 0 => []
  | t + 1 => outM l S t ++ (if S t then [(enAt l t).md] else [])
theorem mem_outM {l : List En} {S : Nat → Bool} {m : Md} : ∀ {t : Nat}, m ∈ outM l S t ↔ ∃ k, k < t ∧ S k = true ∧ m = (enAt l k).md
  | 0 => by simp [outM]
  | t + 1 => by
    rw [outM, List.mem_append, mem_outM (t := t)]
    constructor
    · rintro (⟨k, h1, h2⟩ | h)
      · exact ⟨k, by omega, h2⟩
      · cases hS : S t with
        | false => rw [hS] at h; simp at h
        | true => rw [hS] at h; exact ⟨t, Nat.lt_succ_self _, hS, by simpa using h⟩
    · rintro ⟨k, h1, h2, h3⟩
      by_cases e : k = t
      · subst e; right; rw [h2]; simpa using h3
      · exact .inl ⟨k, by omega, h2, h3⟩
theorem outM_rises {l : List En} (hR : RightI l) (S : Nat → Bool) : ∀ {t : Nat}, t ≤ l.length → Rises modCmp (outM l S t)
  | 0, _ => List.Pairwise.nil
  | t + 1, ht => by
    have ih := outM_rises hR S (t := t) (by omega)
    rw [outM]
    refine List.pairwise_append.2 ⟨ih, by split <;> simp, fun a ha b hb => ?_⟩
    obtain ⟨k, h1, _, rfl⟩ := mem_outM.1 ha
    have hb' : b = (enAt l t).md := by
      cases hS : S t with
      | false => rw [hS] at hb; simp at hb
      | true => rw [hS] at hb; simpa using hb
    subst hb'
    have hp := List.pairwise_iff_getElem.1 hR.rise k t (by rw [List.length_map]; omega) (by rw [List.length_map]; omega) h1
    rw [List.getElem_map, List.getElem_map, ← enAt_elem (by omega), ← enAt_elem (by omega)] at hp
    exact hp
theorem toP_out {l : List En} {caps roots T : List Md} {S : Nat → Bool} (hR : RightI l) (M : Nat → Bool) (hM : ∀ j, j < l.length → (M j = true ↔ BadP l caps (enAt l j).md)) (hS : ∀ k, k < l.length → (S k = true ↔ ∃ r ∈ roots, bestT l M r l.length = some k)) (h : ToP l caps roots T) : T = outM l S l.length := by
  obtain ⟨M', hM', hT, hm⟩ := h
  have hMM : ∀ (r : Md) (t : Nat), t ≤ l.length → bestT l M' r t = bestT l M r t := by
    intro r t
    induction t with
    | zero => intro _; rfl
    | succ t ih =>
      intro ht
      have e : M' t = M t := Bool.eq_iff_iff.2 ((hM' t (by omega)).trans (hM t (by omega)).symm)
      rw [bestT, bestT, ih (by omega), e]
  refine rises_ext modCmp_ord hT (outM_rises hR S (Nat.le_refl _)) fun m => ?_
  rw [hm, lowsF_best hR, mem_outM]
  constructor
  · rintro ⟨r, hr, k, hb, rfl⟩
    rw [hMM r _ (Nat.le_refl _)] at hb
    exact ⟨k, (bestT_at hb).1, (hS k (bestT_at hb).1).2 ⟨r, hr, hb⟩, rfl⟩
  · rintro ⟨k, hk, hs, rfl⟩
    obtain ⟨r, hr, hb⟩ := (hS k hk).1 hs
    exact ⟨r, hr, k, by rw [hMM r _ (Nat.le_refl _)]; exact hb, rfl⟩
end Go.Proofs.Pw

namespace Go.Proofs.Pw
open Go.RowKit
open Go.Lib hiding intOf
def sA : ByteArray := ⟨#[97]⟩
def sB : ByteArray := ⟨#[98]⟩
def v100 : ByteArray := ⟨#[118, 49, 46, 48, 46, 48]⟩
def v110 : ByteArray := ⟨#[118, 49, 46, 49, 46, 48]⟩
def v010 : ByteArray := ⟨#[118, 48, 46, 49, 46, 48]⟩
def smP (j : Nat) : ByteArray := if j = 2 then sB else sA
def smV (j : Nat) : ByteArray := if j = 0 then v100 else if j = 1 then v110 else v010
def smR (j : Nat) : List Md := if j = 1 then [(sB.data.toList, v010.data.toList)] else []
def smK (_ : Nat) : List Str := []
def smB (_ : Nat) : Bool := false
def smL : List En := enF 3 smP smV smR smK smB
def smRoots : List Md := [(sA.data.toList, v110.data.toList)]
theorem sm_short : ShortI smL := by
  refine ⟨by decide +kernel, ?_, ?_, ?_⟩
  · decide +kernel
  · intro e he
    have : ∀ e ∈ smL, e.reqs.length ≤ 1000000 ∧ ∀ m ∈ e.reqs, m.1.length ≤ 1000000 ∧ m.2.length ≤ 1000000 := by decide +kernel
    exact this e he
  · decide +kernel
theorem new_cell (W : World) (cs : List Value) (t : TypeId) {N : Nat} (h : W.heap.size = N) {c : Nat} {u : Value} (hc : cs[c]? = some u) : (W.alloc (.cells cs.toArray t)).cell? ⟨N, c, none⟩ = some u := by
  subst h
  have := World.news_of_block (cs := cs.toArray) (Go.Deep.blk_alloc_new W (.cells cs.toArray t)) c u (by simpa using hc)
  rw [Addr.add_lit, Nat.zero_add] at this
  exact this
def smRv (N j : Nat) : Value := if j = 1 then .slice (some ⟨N, 0, none⟩) 1 1 else .slice none 0 0
def smW (w : World) : World := (w.alloc (.cells #[.string sB, .string v010] 29)).alloc (.cells #[.string sA, .string v100, .slice none 0 0, .slice none 0 0, .bool false, .string sA, .string v110, .slice (some ⟨w.heap.size, 0, none⟩) 1 1, .slice none 0 0, .bool false, .string sB, .string v010, .slice none 0 0, .slice none 0 0, .bool false] 37)
theorem smW_below (w : World) : Below w.heap.size w (smW w) := below_step (below_alloc w _) (below_alloc _ _)
theorem smW_in (w : World) : EntsIn (smW w) (some ⟨w.heap.size + 1, 0, none⟩) 3 3 smP smV smR smK smB (smRv w.heap.size) (fun _ => .slice none 0 0) := by
  have hc : ∀ (c : Nat) (u : Value), ([.string sA, .string v100, .slice none 0 0, .slice none 0 0, .bool false, .string sA, .string v110, .slice (some ⟨w.heap.size, 0, none⟩) 1 1, .slice none 0 0, .bool false, .string sB, .string v010, .slice none 0 0, .slice none 0 0, .bool false] : List Value)[c]? = some u → (smW w).cell? ⟨w.heap.size + 1, c, none⟩ = some u := fun c u h => new_cell _ _ _ (by simp) h
  refine ⟨Nat.le_refl _, by decide, fun j hj => ⟨w.heap.size + 1, 0, rfl, ?_⟩, fun j hj => ?_, fun j hj => StrsAt.nil _⟩
  · match j, hj with
    | 0, _ => exact ⟨hc _ _ rfl, hc _ _ rfl, hc _ _ rfl, hc _ _ rfl, hc _ _ rfl⟩
    | 1, _ => exact ⟨hc _ _ rfl, hc _ _ rfl, hc _ _ rfl, hc _ _ rfl, hc _ _ rfl⟩
    | 2, _ => exact ⟨hc _ _ rfl, hc _ _ rfl, hc _ _ rfl, hc _ _ rfl, hc _ _ rfl⟩
  · match j, hj with
    | 0, _ => exact ModsAt.nil _
    | 2, _ => exact ModsAt.nil _
    | 1, _ =>
      have hb := below_alloc (w.alloc (.cells #[.string sB, .string v010] 29)) (.cells #[.string sA, .string v100, .slice none 0 0, .slice none 0 0, .bool false, .string sA, .string v110, .slice (some ⟨w.heap.size, 0, none⟩) 1 1, .slice none 0 0, .bool false, .string sB, .string v010, .slice none 0 0, .slice none 0 0, .bool false] 37)
      have h0 := Below.cell_some hb (new_cell w [.string sB, .string v010] 29 rfl (c := 0) rfl)
      have h1 := Below.cell_some hb (new_cell w [.string sB, .string v010] 29 rfl (c := 1) rfl)
      refine ⟨some ⟨w.heap.size, 0, none⟩, 1, 1, fun _ => sB, fun _ => v010, rfl, rfl, Nat.le_refl _, by decide, fun i hi => ?_⟩
      obtain rfl : i = 0 := by omega
      exact ⟨w.heap.size, 0, rfl, h0, h1⟩
set_option maxHeartbeats 2000000 in
set_option maxRecDepth 100000 in
theorem small_calls (w : World) :
    Calls Tryz.prog 91 #[] w fun e w' => e = .returned (.slice (some ⟨w.heap.size + 1, 0, none⟩) 3 3) ∧ w' = smW w := by
  go_enter Tryz.func91, Tryz.ntmps91
  go_wp2_with fail
  go_ret
  exact ⟨rfl, rfl⟩
end Go.Proofs.Pw

namespace Go.Proofs.Pw
open Go.Lib hiding intOf
theorem badOf_iff {l : List En} {caps : List Md} {i : Nat} (hi : i < l.length) {M : Nat → Bool} (hM : ∀ k, k < l.length → (M k = true ↔ Reached l [(enAt l i).md] (enAt l k).md)) : (∃ k, k < l.length ∧ M k = true ∧ aboveB caps (enAt l k).md = true) ↔ BadP l caps (enAt l i).md := by
  rw [badP_reached (enAt_mem hi)]
  constructor
  · rintro ⟨k, hk, h1, h2⟩
    exact ⟨_, enAt_mem hk, (hM k hk).1 h1, h2⟩
  · rintro ⟨f, hf, h1, h2⟩
    obtain ⟨k, hk, e⟩ := mem_enAt hf
    subst e
    exact ⟨k, hk, (hM k hk).2 h1, h2⟩
theorem rightG_one {l : List En} (hR : RightI l) {i : Nat} (hi : i < l.length) : RightG l [(enAt l i).md] :=
  ⟨hR, fun _ hm => ⟨_, enAt_mem hi, (List.mem_singleton.1 hm).symm⟩⟩
def lwCaps : List Md := [(sB.data.toList, noneS)]
def lwM (j : Nat) : Bool := decide (j = 1) || decide (j = 2)
def lwS (j : Nat) : Bool := decide (j = 0)
theorem lw_err : toErr smL smRoots lwCaps = (0, -1) := by decide +kernel
theorem lw_idx : RightI smL := rightI_of (by decide +kernel)
theorem lw_len : smL.length = 3 := by decide +kernel
theorem lw_sound : SoundB smL lwCaps lwM := by
  intro j hj hM
  have h2 : BadP smL lwCaps (enAt smL 2).md := .above (enAt_mem (by decide +kernel)) (by decide +kernel)
  have h1 : BadP smL lwCaps (enAt smL 1).md := .req (r := (enAt smL 2).md) (enAt_mem (by decide +kernel)) (by decide +kernel) h2
  rw [lw_len] at hj
  match j, hj, hM with
  | 0, _, hM => cases hM
  | 1, _, _ => exact h1
  | 2, _, _ => exact h2
theorem lw_closed : ∀ i, i < smL.length → ClosedB smL lwCaps lwM i := by
  intro i hi
  rw [lw_len] at hi
  match i, hi with
  | 0, _ =>
    intro h
    have h0 : (aboveB lwCaps (enAt smL 0).md || anyB smL lwM (enAt smL 0).reqs) = false := by decide +kernel
    rw [h0] at h
    cases h
  | 1, _ => exact fun _ => rfl
  | 2, _ => exact fun _ => rfl
theorem lw_best : bestT smL lwM (sA.data.toList, v110.data.toList) 3 = some 0 := by decide +kernel
theorem lw_to {T : List Md} (h : ToP smL lwCaps smRoots T) : T = [(sA.data.toList, v100.data.toList)] := by
  rw [toP_out (S := lwS) lw_idx lwM (fun j hj => bad_done lw_idx lw_sound lw_closed hj) (fun k hk => ?_) h]
  · rw [lw_len]; decide +kernel
  · rw [lw_len]
    constructor
    · intro h1
      have : k = 0 := of_decide_eq_true h1
      subst this
      exact ⟨_, List.mem_singleton.2 rfl, lw_best⟩
    · rintro ⟨r, hr, hb⟩
      obtain rfl := List.mem_singleton.1 hr
      rw [lw_best] at hb
      cases hb
      rfl
end Go.Proofs.Pw

namespace Go.Proofs.Pw
open Go.RowKit
open Go.Lib hiding intOf
def sNone : ByteArray := ⟨#[110, 111, 110, 101]⟩
set_option maxHeartbeats 2000000 in
set_option maxRecDepth 100000 in
theorem lowered_calls (ks : List Nat) (A : Nat → Addr) (hks : IdxKs ks) (w : World) (hE : EnvP ks A w) :
    Calls Tryz.prog 31 #[] w fun e w' => e = .returned (.bool true) ∧ Below w.heap.size w w' := by
  have hsm := small_calls w
  have hB := smW_below w
  have hb := below_alloc (smW w) (.cells #[.string sA, .string v110] 29)
  have hb2 := below_alloc ((smW w).alloc (.cells #[.string sA, .string v110] 29)) (.cells #[.string sB, .string sNone] 29)
  have hB2 := below_step (below_step hB hb) hb2
  have hmods : ModsAt (((smW w).alloc (.cells #[.string sA, .string v110] 29)).alloc (.cells #[.string sB, .string sNone] 29)) (.slice (some ⟨(smW w).heap.size, 0, none⟩) 1 1) smRoots := by
    have h : ModsAt ((smW w).alloc (.cells #[.string sA, .string v110] 29)) (.slice (some ⟨(smW w).heap.size, 0, none⟩) 1 1) smRoots := by
      refine ⟨_, 1, 1, fun _ => sA, fun _ => v110, rfl, rfl, Nat.le_refl _, by decide, fun i hi => ?_⟩
      obtain rfl : i = 0 := by omega
      exact ⟨_, 0, rfl, new_cell (smW w) [.string sA, .string v110] 29 rfl (c := 0) rfl, new_cell (smW w) [.string sA, .string v110] 29 rfl (c := 1) rfl⟩
    exact h.below hb2
  have hcaps : ModsAt (((smW w).alloc (.cells #[.string sA, .string v110] 29)).alloc (.cells #[.string sB, .string sNone] 29)) (.slice (some ⟨(smW w).heap.size + 1, 0, none⟩) 1 1) lwCaps := by
    refine ⟨_, 1, 1, fun _ => sB, fun _ => sNone, rfl, rfl, Nat.le_refl _, by decide, fun i hi => ?_⟩
    obtain rfl : i = 0 := by omega
    exact ⟨_, 0, rfl, new_cell _ [.string sB, .string sNone] 29 (by simp) (c := 0) rfl, new_cell _ [.string sB, .string sNone] 29 (by simp) (c := 1) rfl⟩
  have hre := to_in ks A hks (some ⟨w.heap.size + 1, 0, none⟩) 3 3 smP smV smR smK smB (smRv w.heap.size) (fun _ => .slice none 0 0) (.slice (some ⟨(smW w).heap.size, 0, none⟩) 1 1) (.slice (some ⟨(smW w).heap.size + 1, 0, none⟩) 1 1) smRoots lwCaps (((smW w).alloc (.cells #[.string sA, .string v110] 29)).alloc (.cells #[.string sB, .string sNone] 29)) (hE.below hB2) (((smW_in w).below hb).below hb2) sm_short hmods (by decide) ⟨by decide, by decide +kernel⟩ hcaps ⟨by decide, by decide +kernel⟩
  rw [show enF 3 smP smV smR smK smB = smL from rfl, lw_err] at hre
  generalize smW w = w1 at *
  unfold sA v110 sB sNone at hre hB2
  replace hsm := Lib.hid hsm
  replace hre := Lib.hid hre
  clear hB hb hb2 hmods hcaps hE
  go_enter Tryz.func31, Tryz.ntmps31
  go_wp2_with fail
  refine hsm.out.mono ?_
  rintro e w' ⟨rfl, rfl⟩
  go_wp2_with fail
  refine hre.out.mono ?_
  rintro e w3 ⟨⟨x, ev, rfl, hf, hx, -⟩, hb3⟩
  obtain ⟨T, hx, hT⟩ := hx trivial
  obtain rfl := lw_to hT
  have hev : ev = .nilIface := by
    rcases hf with ⟨_, _, h⟩ | ⟨h, _⟩ | ⟨h, _⟩
    · exact h
    · exact absurd rfl h
    · exact absurd rfl h
  subst hev
  obtain ⟨b0, o0, c0, e0, _, d0, d1⟩ := hx.cell (k := 0) (p := sA) (q := v100) rfl
  subst e0
  have hB3 := below_step hB2 hb3
  unfold sA at d0
  unfold v100 at d1
  simp only [Nat.zero_mul, Nat.add_zero, Nat.zero_add, List.length_cons, List.length_nil] at d0 d1 ⊢
  clear hf hx hT hre hsm hB2 hb3
  go_wp2_with fail
  go_ret
  exact ⟨rfl, hB3⟩
end Go.Proofs.Pw
