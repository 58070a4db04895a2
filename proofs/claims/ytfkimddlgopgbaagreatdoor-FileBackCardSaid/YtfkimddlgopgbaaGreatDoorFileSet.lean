/- file.Set. -/
import Derived.Test.YtfkimddlgopgbaaGreatDoorFileCopy
import Derived.Test.YtfkimddlgopgbaaGreatDoorFileRead
import Derived.Test.YtfkimddlgopgbaaGreatDoorSlBin
import Derived.Test.YtfkimddlgopgbaaGreatDoorSlIns
namespace Go.Proofs.Pw
open Go.RowKit
open Go.Lib hiding intOf

theorem mdVs_put (l : List (ByteArray × ByteArray)) (k : Nat) (p q : ByteArray) : mdVs (l.take k ++ (p, q) :: l.drop (k + 1)) = (mdVs l).take (k * 2) ++ ([.string p, .string q] ++ (mdVs l).drop ((k + 1) * 2)) := by
  rw [mdVs_append, mdVs_take, ← mdVs_drop]; rfl
theorem put_list {α : Type} (X : List α) (o : Nat) (a b : α) (h : o + 2 ≤ X.length) : (X.set o a).set (o + 1) b = X.take o ++ ([a, b] ++ X.drop (o + 2)) := by
  apply List.ext_getElem?
  intro j
  rw [List.getElem?_set, List.getElem?_set]
  by_cases h1 : j < o
  · rw [if_neg (by omega), if_neg (by omega), List.getElem?_append_left (by simp; omega), List.getElem?_take, if_pos h1]
  · rw [List.getElem?_append_right (by simp; omega)]
    simp only [List.length_take]
    rw [show j - min o X.length = j - o by omega]
    by_cases h2 : j < o + 2
    · rw [List.getElem?_append_left (by simp; omega)]
      by_cases h3 : j = o
      · subst h3
        rw [if_neg (by omega), if_pos rfl, if_pos (by omega)]; simp
      · obtain rfl : j = o + 1 := by omega
        rw [if_pos rfl, if_pos (by simp; omega), show o + 1 - o = 1 by omega]; rfl
    · rw [if_neg (by omega), if_neg (by omega), List.getElem?_append_right (by simp; omega), List.getElem?_drop]
      congr 1; simp; omega
theorem ownsRow_put {w : World} {base e g cap k : Nat} {L : List (ByteArray × ByteArray)} {p q : ByteArray} (h : w.ownsRow base e 2 (.slice (some ⟨g, 0, none⟩) L.length cap) L.length (mdVs L)) (hk : k < L.length) :
    ((w.setCell ⟨g, k * 2, none⟩ (.string p)).setCell ⟨g, k * 2 + 1, none⟩ (.string q)).ownsRow base e 2 (.slice (some ⟨g, 0, none⟩) L.length cap) L.length (mdVs (L.take k ++ (p, q) :: L.drop (k + 1))) := by
  have hl : (L.take k ++ (p, q) :: L.drop (k + 1)).length = L.length := by simp; omega
  refine ⟨by rw [mdVs_length, hl], ?_⟩
  rcases h.2 with ⟨h1, h2⟩ | ⟨g', c, cur, h1, hb, hg, hn, hm, hs, ht⟩
  · omega
  · injection h1 with h1 _ h3
    injection h1 with h1
    injection h1 with h1
    subst h1 h3
    have hX : (mdVs L).length = L.length * 2 := mdVs_length L
    have e1 := setCell_eq_setRow w g (k * 2) cur e (0, 0) (.string p) hg
    have e2 := setRow_heap w g cur (cur.setIfInBounds (k * 2) (.string p)) e (0, 0) hg
    have e3 := setCell_eq_setRow (w.setRow g (cur.setIfInBounds (k * 2) (.string p))) g (k * 2 + 1) _ e (0, 0) (.string q) e2
    have e4 := setRow_heap _ g _ ((cur.setIfInBounds (k * 2) (.string p)).setIfInBounds (k * 2 + 1) (.string q)) e (0, 0) e2
    refine .inr ⟨g, cap, _, rfl, hb, by rw [e1, e3]; exact e4, hn, hm, by simp [hs], ?_⟩
    rw [mdVs_put, show (k + 1) * 2 = k * 2 + 2 by omega, ← put_list _ _ _ _ (by omega), ← ht]
    rw [Array.toList_setIfInBounds, Array.toList_setIfInBounds, List.take_set, List.take_set]

theorem mdTs_put (L : List (ByteArray × ByteArray)) (k j : Nat) (p q : ByteArray) : mdTs (L.take k ++ (p, q) :: L.drop j) = (mdTs L).take k ++ (p.data.toList, q.data.toList) :: (mdTs L).drop j := by
  simp [mdTs, List.map_take, List.map_drop]
theorem mods_of {w : World} {v : Value} {l : List Md} (h : ModsAt w v l) : ∃ L, l = mdTs L := by
  obtain ⟨a, n, cap, P, V, _, rfl, _⟩ := h
  exact ⟨mdL n P V, (mdL_ts n P V).symm⟩

/-- a box of three cells, stored to whole -/
def st3 (w : World) (b : Nat) (u0 u1 u2 : Value) : World := ((w.setCell ⟨b, 0, none⟩ u0).setCell ⟨b, 1, none⟩ u1).setCell ⟨b, 2, none⟩ u2
theorem Box3f.st {w : World} {b : Nat} {v0 v1 v2 : Value} (h : Box3f w b v0 v1 v2) (u0 u1 u2 : Value) : Box3f (st3 w b u0 u1 u2) b u0 u1 u2 := ((h.set0 u0).set1 u1).set2 u2
theorem Box3f.sto {w : World} {b c : Nat} {v0 v1 v2 : Value} (h : Box3f w b v0 v1 v2) (hc : b ≠ c) (u0 u1 u2 : Value) : Box3f (st3 w c u0 u1 u2) b v0 v1 v2 := ((h.other hc u0).other hc u1).other hc u2
theorem cell_sto {w : World} {b c j : Nat} {v : Value} (h : w.cell? ⟨b, j, none⟩ = some v) (hc : b ≠ c) (u0 u1 u2 : Value) : (st3 w c u0 u1 u2).cell? ⟨b, j, none⟩ = some v := by
  unfold st3
  rw [set_blk u2 hc, set_blk u1 hc, set_blk u0 hc]; exact h
theorem ownsRow_sto {w : World} {base e k n b : Nat} {v : Value} {xs : List Value} (h : w.ownsRow base e k v n xs) (hn : v.ownBlock ≠ some b) (u0 u1 u2 : Value) : (st3 w b u0 u1 u2).ownsRow base e k v n xs := ownsRow_set (ownsRow_set (ownsRow_set h hn u0) hn u1) hn u2
theorem below_sto {w w' : World} {B b : Nat} (h : Below B w w') (hb : B ≤ b) (u0 u1 u2 : Value) : Below B w (st3 w' b u0 u1 u2) := ((h.setCell (p := ⟨b, 0, none⟩) hb u0).setCell (p := ⟨b, 1, none⟩) hb u1).setCell (p := ⟨b, 2, none⟩) hb u2
theorem ModsAt.sto {w : World} {v : Value} {l : List Md} {c : Nat} (h : ModsAt w v l) (hc : ∀ q n m, v = .slice (some q) n m → q.block ≠ c) (u0 u1 u2 : Value) : ModsAt (st3 w c u0 u1 u2) v l := ((h.other hc u0).other hc u1).other hc u2
theorem Box3f.grownBy {w w' : World} {b : Nat} {v0 v1 v2 : Value} {r : Option Nat} (h : Box3f w b v0 v1 v2) (hg : w.grownBy w' r) (hr : some b ≠ r) : Box3f w' b v0 v1 v2 :=
  ⟨hg.cell h.c0 hr, hg.cell h.c1 hr, hg.cell h.c2 hr, fun i => (hg.frozen_far ⟨b, i, none⟩ (show b < w.heap.size from lt_of_cell h.c0) hr).trans (h.fz i)⟩
theorem own_some {v : Value} {k : Nat} (h : v.ownBlock = some k) : ∃ q n m, v = .slice (some q) n m ∧ q.block = k := by
  cases v with
  | slice a n m =>
    cases a with
    | none => cases h
    | some q => exact ⟨q, n, m, rfl, Option.some.inj h⟩
  | _ => cases h
theorem ne_own {v : Value} {k : Nat} (h : ∀ q n m, v = .slice (some q) n m → q.block ≠ k) : v.ownBlock ≠ some k := fun e => by
  obtain ⟨q, n, m, e1, e2⟩ := own_some e
  exact h q n m e1 e2

/-- what Set and Drop hand back -/
def SetOut (A : Nat → Addr) (g : Fl × Nat) (w : World) (e : Ending) (w' : World) : Prop :=
  (∃ (p : ByteArray) (r x : Value), e = .returned (.tuple #[.agg #[.string p, r, x], errV A g.2]) ∧ p.data.toList = g.1.path ∧ ModsAt w' r g.1.reqs ∧ ModsAt w' x g.1.excl) ∧ Below w.heap.size w w'
theorem setOut_err {A : Nat → Addr} {w w' : World} {k : Nat} (h : Below w.heap.size w w') : SetOut A (noFl, k) w (.returned (.tuple #[.agg #[.string ⟨#[]⟩, .slice none 0 0, .slice none 0 0], errV A k])) w' :=
  ⟨⟨⟨#[]⟩, _, _, rfl, rfl, ModsAt.nil _, ModsAt.nil _⟩, h⟩
theorem fileSet_err {f : Fl} {m : Md} (h : (fileErr f).1 ≠ 0) : fileSet f m = (noFl, (fileErr f).1) := by unfold fileSet; rw [if_pos h]
theorem fileSet_err2 {f : Fl} {m : Md} (h : (fileErr f).1 = 0) (h2 : (fileErr { f with reqs := setAt f.reqs m }).1 ≠ 0) : fileSet f m = (noFl, (fileErr { f with reqs := setAt f.reqs m }).1) := by unfold fileSet; rw [if_neg (by simp [h]), if_pos h2]
theorem fileSet_ok {f : Fl} {m : Md} (h : (fileErr f).1 = 0) (h2 : (fileErr { f with reqs := setAt f.reqs m }).1 = 0) : fileSet f m = ({ f with reqs := setAt f.reqs m }, 0) := by unfold fileSet; rw [if_neg (by simp [h]), if_neg (by simp [h2])]
theorem fault_form {A : Nat → Addr} {w : World} {v : Value} {r : Nat × Int} (h : FaultAt A w v r) : (r.1 = 0 ∧ v = .nilIface) ∨ (r.1 ≠ 0 ∧ ∃ t q, v = .iface t (.pointer q)) := by
  rcases h with h | h | ⟨h, b, rfl, _⟩
  · exact .inl ⟨h.1, h.2.2⟩
  · refine .inr ⟨h.1, ?_⟩
    rw [h.2.2, errV_pos A h.1]; exact ⟨_, _, rfl⟩
  · exact .inr ⟨h, _, _, rfl⟩
theorem setAt_len_le (l : List Md) (m : Md) : (setAt l m).length ≤ l.length + 1 := by
  rcases setAt_cases l m with ⟨x, hx, _, e⟩ | ⟨_, e⟩ <;> (rw [e]; have := lowAt_le m.1 l; simp; omega)
theorem setAt_mem {l : List Md} {m x : Md} (h : x ∈ setAt l m) : x = m ∨ x ∈ l := by
  rcases setAt_cases l m with ⟨y, hy, _, e⟩ | ⟨_, e⟩ <;>
  · rw [e] at h
    rcases List.mem_append.1 h with h | h
    · exact .inr (List.mem_of_mem_take h)
    · rcases List.mem_cons.1 h with h | h
      · exact .inl h
      · exact .inr (List.mem_of_mem_drop h)


set_option maxHeartbeats 8000000 in
set_option maxRecDepth 100000 in
theorem fileSet_calls (ks : List Nat) (A : Nat → Addr) (hks : FileKs ks) (p mp mv : ByteArray) (rv xv : Value) (R X : List Md) (w : World) (hE : EnvP ks A w) (hr : ModsAt w rv R) (hx : ModsAt w xv X) (hp : p.size ≤ 1000000) (hsr : Short R) (hsx : Short X) (hR9 : R.length ≤ 900000) (hmp : mp.size ≤ 1000000) (hmv : mv.size ≤ 1000000) :
    Calls Tryz.prog 15 #[.agg #[.string p, rv, xv], .agg #[.string mp, .string mv]] w (SetOut A (fileSet ⟨p.data.toList, R, X⟩ (mp.data.toList, mv.data.toList)) w) := by
  have hb1 := below_alloc w (.cells #[.string p, rv, xv] 24)
  have hb2 := below_alloc (w.alloc (.cells #[.string p, rv, xv] 24)) (.cells #[.string mp, .string mv] 26)
  have hb3 := below_alloc ((w.alloc (.cells #[.string p, rv, xv] 24)).alloc (.cells #[.string mp, .string mv] 26)) (.cells #[.string ⟨#[]⟩, .slice none 0 0, .slice none 0 0] 24)
  have hB := below_step (below_step hb1 hb2) hb3
  have hz := ((box3f_alloc w (.string p) rv xv 24).below hb2).below hb3
  have hy := box3f_alloc ((w.alloc (.cells #[.string p, rv, xv] 24)).alloc (.cells #[.string mp, .string mv] 26)) (.string ⟨#[]⟩) (.slice none 0 0) (.slice none 0 0) 24
  simp only [World.size_alloc] at hy
  have hm0 := Below.cell_some hb3 (show ((w.alloc (.cells #[.string p, rv, xv] 24)).alloc (.cells #[.string mp, .string mv] 26)).cell? ⟨(w.alloc (.cells #[.string p, rv, xv] 24)).heap.size, 0, none⟩ = some (.string mp) by simp)
  have hm1 := Below.cell_some hb3 (show ((w.alloc (.cells #[.string p, rv, xv] 24)).alloc (.cells #[.string mp, .string mv] 26)).cell? ⟨(w.alloc (.cells #[.string p, rv, xv] 24)).heap.size, 1, none⟩ = some (.string mv) by simp)
  simp only [World.size_alloc] at hm0 hm1
  have hck := fun W hW h1 h2 => fileCheck_calls ks A hks p rv xv R X W hW h1 h2 hp hsr hsx
  have hcp := fun W h1 h2 => fileCopy_calls p rv xv R X W h1 h2 hsr.1 hsx.1
  obtain ⟨a1, n1, c1, _, _, rfl, _⟩ := id hr
  obtain ⟨a3, n3, c3, _, _, rfl, _⟩ := id hx
  replace hck := Lib.hid hck
  replace hcp := Lib.hid hcp
  replace hsr := Lib.hid hsr
  replace hsx := Lib.hid hsx
  clear hb1 hb2 hb3
  obtain ⟨z0, z1, z2, zf⟩ := id hz
  go_enter Tryz.func15, Tryz.ntmps15
  go_wp2_with fail
  generalize hw2 : ((w.alloc (.cells #[.string p, .slice a1 n1 c1, .slice a3 n3 c3] 24)).alloc (.cells #[.string mp, .string mv] 26)).alloc (.cells #[.string ⟨#[]⟩, .slice none 0 0, .slice none 0 0] 24) = w2 at *
  have hsz : w2.heap.size = w.heap.size + 3 := by rw [← hw2]; simp
  clear hw2
  refine (hck.out _ (hE.below hB) (hr.below hB) (hx.below hB)).mono ?_
  rintro e w3 ⟨⟨v, rfl, hv⟩, hb⟩
  have hs3 := hb.size
  replace hz := hz.below hb
  replace hy := hy.below hb
  replace hB := below_step hB hb
  replace hm0 := Below.cell_some hb hm0
  replace hm1 := Below.cell_some hb hm1
  clear hck z0 z1 z2 zf hb
  obtain ⟨z0, z1, z2, zf⟩ := id hz
  rcases fault_form hv with ⟨h0, rfl⟩ | ⟨h0, ty, q, rfl⟩
  · have hrise : Hid (RiseP R) := Lib.hid (right_of h0).rise
    replace h0 := Lib.hid h0
    clear hv
    go_wp2_with fail
    refine (hcp.out _ (hr.below hB) (hx.below hB)).mono ?_
    rintro e w4 ⟨⟨v1, v2, L1, L2, rfl, rfl, rfl, ho1, ho2, hap⟩, hb⟩
    have hs4 := hb.size
    obtain ⟨a5, n5, c5, rfl⟩ := own_form ho1
    obtain ⟨a6, n6, c6, rfl⟩ := own_form ho2
    replace hz := hz.below hb
    replace hy := hy.below hb
    replace hB := below_step hB hb
    replace hm0 := Below.cell_some hb hm0
    replace hm1 := Below.cell_some hb hm1
    clear z0 z1 z2 zf hb hcp
    obtain ⟨z0, z1, z2, zf⟩ := id hz
    have hge1 := own_ge ho1
    have hge2 := own_ge ho2
    replace hz := hz.st (.string p) (.slice a5 n5 c5) (.slice a6 n6 c6)
    replace hy := hy.sto (c := w.heap.size) (by omega) (.string p) (.slice a5 n5 c5) (.slice a6 n6 c6)
    replace hm0 := cell_sto (c := w.heap.size) hm0 (by omega) (.string p) (.slice a5 n5 c5) (.slice a6 n6 c6)
    replace hm1 := cell_sto (c := w.heap.size) hm1 (by omega) (.string p) (.slice a5 n5 c5) (.slice a6 n6 c6)
    replace ho1 := ownsRow_sto (b := w.heap.size) ho1 (own_ne ho1 (by omega)) (.string p) (.slice a5 n5 c5) (.slice a6 n6 c6)
    replace ho2 := ownsRow_sto (b := w.heap.size) ho2 (own_ne ho2 (by omega)) (.string p) (.slice a5 n5 c5) (.slice a6 n6 c6)
    replace hB := below_sto hB (b := w.heap.size) (Nat.le_refl _) (.string p) (.slice a5 n5 c5) (.slice a6 n6 c6)
    unfold st3 at hz hy hm0 hm1 ho1 ho2 hB
    have hbin := fun W h => binM_calls (.slice a5 n5 c5) (mdTs L1) mp W h hrise.out (by rw [mdTs_length] at hR9 ⊢; omega)
    have hM := fun (W : World) (h : World.ownsRow W w3.heap.size 26 2 (.slice a5 n5 c5) L1.length (mdVs L1)) => modsAt_own h
    replace hM := Lib.hid hM
    replace hap := Lib.hid hap
    obtain ⟨kk, hkk⟩ : ∃ kk : Nat, Hid (lowAt mp.data.toList (mdTs L1) = kk) := ⟨_, Lib.hid rfl⟩
    have hkl : kk ≤ L1.length := by have := lowAt_le mp.data.toList (mdTs L1); rw [hkk.out, mdTs_length] at this; exact this
    have hsr2 : Hid (Short (setAt (mdTs L1) (mp.data.toList, mv.data.toList))) := Lib.hid ⟨by
      have := setAt_len_le (mdTs L1) (mp.data.toList, mv.data.toList)
      omega, fun m hm => by
      rcases setAt_mem hm with rfl | hm
      · rw [size_eq] at hmp hmv
        exact ⟨hmp, hmv⟩
      · exact hsr.out.2 m hm⟩
    obtain ⟨u0, u1, u2, uf⟩ := id hz
    go_wp2_with fail
    have hs45 : w4.heap.size ≤ (((w4.setCell ⟨w.heap.size, 0, none⟩ (.string p)).setCell ⟨w.heap.size, 1, none⟩ (.slice a5 n5 c5)).setCell ⟨w.heap.size, 2, none⟩ (.slice a6 n6 c6)).heap.size := by simp
    generalize ((w4.setCell ⟨w.heap.size, 0, none⟩ (.string p)).setCell ⟨w.heap.size, 1, none⟩ (.slice a5 n5 c5)).setCell ⟨w.heap.size, 2, none⟩ (.slice a6 n6 c6) = w5 at *
    have hs5 : w3.heap.size ≤ w5.heap.size := Nat.le_trans hs4 hs45
    clear z0 z1 z2 zf
    by_cases hit : (mdTs L1)[kk]?.map (·.1) = some mp.data.toList
    · have hset : setAt (mdTs L1) (mp.data.toList, mv.data.toList) = mdTs (L1.take kk ++ (mp, mv) :: L1.drop (kk + 1)) := by
        rw [mdTs_put]
        unfold setAt
        rw [hkk.out, if_pos hit]
      have hklt : kk < L1.length := by
        rcases Nat.lt_or_ge kk L1.length with h | h
        · exact h
        · rw [List.getElem?_eq_none (by rw [mdTs_length]; exact h)] at hit
          cases hit
      rw [hkk.out, decide_eq_true hit] at hbin
      refine (hbin w5 (hM.out _ ho1)).mono ?_
      rintro e w6 ⟨rfl, hb⟩
      replace hz := hz.below hb
      replace hy := hy.below hb
      replace hm0 := Below.cell_some hb hm0
      replace hm1 := Below.cell_some hb hm1
      replace ho1 := ownsRow_kept ho1 hb
      replace ho2 := ownsRow_kept ho2 hb
      replace hB := below_step hB hb
      clear hit hbin hb u0 u1 u2 uf
      obtain ⟨g, rfl, rfl, hbg, hcs⟩ : ∃ g, a5 = some ⟨g, 0, none⟩ ∧ n5 = L1.length ∧ w3.heap.size ≤ g ∧ w6.heap[g]? ≠ none := by
        rcases ho1.2 with ⟨h, h2⟩ | ⟨g, c, cur, h, h2, h3, _⟩
        · omega
        · injection h with h4 h5 h6
          exact ⟨g, h4, h5, h2, by rw [h3]; simp⟩
      have hput := ownsRow_put (p := mp) (q := mv) ho1 hklt
      have hgs : w.heap.size ≤ g := by omega
      have hl2 : (L1.take kk ++ (mp, mv) :: L1.drop (kk + 1)).length = L1.length := by simp; omega
      have hM1 : ModsAt ((w6.setCell ⟨g, kk * 2, none⟩ (.string mp)).setCell ⟨g, kk * 2 + 1, none⟩ (.string mv)) (.slice (some ⟨g, 0, none⟩) L1.length c5) (setAt (mdTs L1) (mp.data.toList, mv.data.toList)) := by
        rw [hset]
        exact modsAt_own (base := w3.heap.size) (e := 26) (by rw [hl2]; exact hput)
      have hn1 : (Value.slice (some ⟨g, 0, none⟩) L1.length c5).ownBlock ≠ none := by simp [Value.ownBlock]
      have hM2 := ((modsAt_own ho2).other (c := g) (k := kk * 2) (fun q n m e => fun e2 => hap.out g rfl (by rw [e]; exact congrArg some e2)) (.string mp)).other (c := g) (k := kk * 2 + 1) (fun q n m e => fun e2 => hap.out g rfl (by rw [e]; exact congrArg some e2)) (.string mv)
      obtain ⟨x0, x1, x2⟩ : (∃ v, w6.cell? ⟨g, kk * 2, none⟩ = some v) ∧ (∃ v, w6.cell? ⟨g, kk * 2 + 1, none⟩ = some v) ∧ ∀ i, w6.frozen? ⟨g, i, none⟩ = false := by
        rcases ho1.2 with ⟨h, h2⟩ | ⟨g', c, cur, h, h2, h3, h4, h5, h6, h7⟩
        · omega
        · injection h with h8 h9 h10
          injection h8 with h8
          injection h8 with h8
          subst h8
          have hX := mdVs_length L1
          refine ⟨⟨(mdVs L1)[kk * 2], ?_⟩, ⟨(mdVs L1)[kk * 2 + 1], ?_⟩, fun i => by simp [World.frozen?, h3]⟩
          · rw [cell_of_row w6 g _ cur _ (0, 0) h3]
            have e : (mdVs L1)[kk * 2]? = some (mdVs L1)[kk * 2] := List.getElem?_eq_getElem _
            rw [← e, ← h7, List.getElem?_take, if_pos (by omega)]
            simp
          · rw [cell_of_row w6 g _ cur _ (0, 0) h3]
            have e : (mdVs L1)[kk * 2 + 1]? = some (mdVs L1)[kk * 2 + 1] := List.getElem?_eq_getElem _
            rw [← e, ← h7, List.getElem?_take, if_pos (by omega)]
            simp
      obtain ⟨x0v, x0⟩ := x0
      obtain ⟨x1v, x1⟩ := x1
      obtain ⟨z0, z1, z2, zf⟩ := id hz
      replace hz := (hz.other (c := g) (k := kk * 2) (by omega) (.string mp)).other (c := g) (k := kk * 2 + 1) (by omega) (.string mv)
      replace hy := (hy.other (c := g) (k := kk * 2) (by omega) (.string mp)).other (c := g) (k := kk * 2 + 1) (by omega) (.string mv)
      replace hB := (hB.setCell (p := ⟨g, kk * 2, none⟩) hgs (.string mp)).setCell (p := ⟨g, kk * 2 + 1, none⟩) hgs (.string mv)
      have hnn1 : ∀ q n m, Value.slice (some ⟨g, 0, none⟩) L1.length c5 = .slice (some q) n m → q.block ≠ w.heap.size + 2 := fun q n m e => by
        injection e with e _ _
        injection e with e
        rw [← e]
        show g ≠ _
        omega
      have hnn2 : ∀ q n m, Value.slice a6 n6 c6 = .slice (some q) n m → q.block ≠ w.heap.size + 2 := fun q n m e => by have := hge2 q n m e; omega
      have HN := Lib.hid (And.intro hnn1 hnn2)
      have hk1 : (kk : Int) < (L1.length : Int) := by omega
      replace hput := Lib.hid hput
      clear ho1 ho2 hge1 hge2 hn1 hnn1 hnn2 hap hcs hset hl2
      obtain ⟨u0, u1, u2, uf⟩ := id hz
      go_wp2_with fail
      generalize (w6.setCell ⟨g, kk * 2, none⟩ (.string mp)).setCell ⟨g, kk * 2 + 1, none⟩ (.string mv) = w7 at *
      clear z0 z1 z2 zf x0 x1 x2 hm0 hm1
      obtain ⟨z0, z1, z2, zf⟩ := id hz
      have hck2 := fileCheck_calls ks A hks p _ _ (setAt (mdTs L1) (mp.data.toList, mv.data.toList)) (mdTs L2) _ (hE.below hB) hM1 hM2 hp hsr2.out hsx.out
      replace hck2 := Lib.hid hck2
      go_wp2_with fail
      refine hck2.out.mono ?_
      rintro e w8 ⟨⟨v, rfl, hv⟩, hb⟩
      replace hz := hz.below hb
      replace hy := hy.below hb
      replace hM1 := hM1.below hb
      replace hM2 := hM2.below hb
      replace hB := below_step hB hb
      clear hck2 hb z0 z1 z2 zf
      obtain ⟨z0, z1, z2, zf⟩ := id hz
      rcases fault_form hv with ⟨h1, rfl⟩ | ⟨h1, ty, q, rfl⟩
      · have HF := Lib.hid (fileSet_ok (m := (mp.data.toList, mv.data.toList)) h0.out h1)
        have hB4 := below_sto hB (b := w.heap.size + 2) (by omega) (.string p) (.slice (some ⟨g, 0, none⟩) L1.length c5) (.slice a6 n6 c6)
        have hM14 := hM1.sto (c := w.heap.size + 2) HN.out.1 (.string p) (.slice (some ⟨g, 0, none⟩) L1.length c5) (.slice a6 n6 c6)
        have hM24 := hM2.sto (c := w.heap.size + 2) HN.out.2 (.string p) (.slice (some ⟨g, 0, none⟩) L1.length c5) (.slice a6 n6 c6)
        have hfin : SetOut A (fileSet ⟨p.data.toList, mdTs L1, mdTs L2⟩ (mp.data.toList, mv.data.toList)) w (.returned (.tuple #[.agg #[.string p, (.slice (some ⟨g, 0, none⟩) L1.length c5), .slice a6 n6 c6], .nilIface])) (st3 w8 (w.heap.size + 2) (.string p) (.slice (some ⟨g, 0, none⟩) L1.length c5) (.slice a6 n6 c6)) := by
          rw [HF.out]
          exact ⟨⟨p, _, _, rfl, rfl, hM14, hM24⟩, hB4⟩
        replace hfin := Lib.hid hfin
        clear hv h1 hB4 hM14 hM24 hM1 hM2
        obtain ⟨y0, y1, y2, yf⟩ := id hy
        go_wp2_with fail
        refine bodyPost_ret (v := .tuple #[.agg #[.string p, (.slice (some ⟨g, 0, none⟩) L1.length c5), .slice a6 n6 c6], .nilIface]) (by simp [results, Tryz.results15, go_sem, *]) rfl ?_
        exact hfin.out
      ·
        have HV := Lib.hid (bare_calls A _ _ w8 hv)
        have HF := Lib.hid (fileSet_err2 h0.out h1)
        have h0' := Lib.hid h1
        clear hv h1
        go_wp2_with fail
        refine HV.out.mono ?_
        rintro e w9 ⟨rfl, hb⟩
        replace hy := hy.below hb
        replace hB := below_step hB hb
        clear HV
        obtain ⟨y0, y1, y2, yf⟩ := id hy
        rw [errV_pos A h0'.out]
        have hB4 := below_sto hB (b := w.heap.size + 2) (by omega) (.string ⟨#[]⟩) (.slice none 0 0) (.slice none 0 0)
        unfold st3 at hB4
        go_wp2_with fail
        refine bodyPost_ret (v := .tuple #[.agg #[.string ⟨#[]⟩, .slice none 0 0, .slice none 0 0], .iface 259 (.pointer (some (A (fileErr ⟨p.data.toList, setAt (mdTs L1) (mp.data.toList, mv.data.toList), mdTs L2⟩).1)))]) (by simp [results, Tryz.results15, go_sem, *]) rfl ?_
        rw [HF.out, ← errV_pos A h0'.out]
        first
        | exact setOut_err hB
        | exact setOut_err hB4
    · have hset : setAt (mdTs L1) (mp.data.toList, mv.data.toList) = mdTs (L1.take kk ++ (mp, mv) :: L1.drop kk) := by
        rw [mdTs_put]
        unfold setAt
        rw [hkk.out, if_neg hit]
      rw [hkk.out, decide_eq_false hit] at hbin
      refine (hbin w5 (hM.out _ ho1)).mono ?_
      rintro e w6 ⟨rfl, hb⟩
      have hs6 : w3.heap.size ≤ w6.heap.size := Nat.le_trans hs5 hb.size
      replace hz := hz.below hb
      replace hy := hy.below hb
      replace hm0 := Below.cell_some hb hm0
      replace hm1 := Below.cell_some hb hm1
      replace ho1 := ownsRow_kept ho1 hb
      replace ho2 := ownsRow_kept ho2 hb
      replace hB := below_step hB hb
      clear hit hbin hb u0 u1 u2 uf
      have hBw := below_alloc w6 (.cells #[.string mp, .string mv] 26)
      have hne : (Value.slice a5 n5 c5).ownBlock ≠ some w6.heap.size := fun e => by have := (ho1.lt _ e).2; omega
      have hL9 : L1.length ≤ 1000000 := by rw [mdTs_length] at hR9; omega
      have hins := insertM_calls w3.heap.size (.slice a5 n5 c5) L1 kk w6.heap.size mp mv (w6.alloc (.cells #[.string mp, .string mv] 26)) (ownsRow_kept ho1 hBw) hkl hL9 (by simp; omega) (Go.Deep.blk_alloc_new w6 _) hne
      obtain ⟨u0, u1, u2, uf⟩ := id hz
      replace hz := hz.below hBw
      replace hy := hy.below hBw
      replace ho2 := ownsRow_kept ho2 hBw
      replace hB := below_step hB hBw
      have hn1 := own_ne (b := w.heap.size) ho1 (by omega)
      have hn2 := own_ne (b := w.heap.size + 2) ho1 (by omega)
      replace hins := Lib.hid hins
      clear ho1
      go_wp2_with fail
      refine hins.out.mono ?_
      rintro e w7 ⟨v', rfl, ho', hb', hg'⟩
      obtain ⟨a7, n7, c7, rfl⟩ := own_form ho'
      clear u0 u1 u2 uf hm0 hm1 hBw hins
      replace hz := hz.grownBy hg' (fun e => hn1 e.symm)
      replace hy := hy.grownBy hg' (fun e => hn2 e.symm)
      replace ho2 := ho2.kept hg' (apart_row (fun b hb h2 => hap.out b hb h2))
      replace hB := hB.trans (hb'.mono (by omega))
      have hge7 := own_ge ho'
      have hM1 : ModsAt w7 (.slice a7 n7 c7) (setAt (mdTs L1) (mp.data.toList, mv.data.toList)) := by
        rw [hset]
        exact modsAt_own ho'
      have hM2 := modsAt_own ho2
      have hnn1 : ∀ q n m, Value.slice a7 n7 c7 = .slice (some q) n m → q.block ≠ w.heap.size + 2 := fun q n m e => by have := hge7 q n m e; omega
      have hnn2 : ∀ q n m, Value.slice a6 n6 c6 = .slice (some q) n m → q.block ≠ w.heap.size + 2 := fun q n m e => by have := hge2 q n m e; omega
      have hnm1 : ∀ q n m, Value.slice a7 n7 c7 = .slice (some q) n m → q.block ≠ w.heap.size := fun q n m e => by have := hge7 q n m e; omega
      have hnm2 : ∀ q n m, Value.slice a6 n6 c6 = .slice (some q) n m → q.block ≠ w.heap.size := fun q n m e => by have := hge2 q n m e; omega
      have HN := Lib.hid (And.intro hnn1 hnn2)
      obtain ⟨z0, z1, z2, zf⟩ := id hz
      replace hz := hz.set1 (.slice a7 n7 c7)
      replace hy := hy.other (c := w.heap.size) (k := 1) (by omega) (.slice a7 n7 c7)
      replace hB := hB.setCell (p := ⟨w.heap.size, 1, none⟩) (Nat.le_refl _) (.slice a7 n7 c7)
      replace hM1 := hM1.other (c := w.heap.size) (k := 1) hnm1 (.slice a7 n7 c7)
      replace hM2 := hM2.other (c := w.heap.size) (k := 1) hnm2 (.slice a7 n7 c7)
      clear ho' hb' hg' hge7 hge1 hge2 ho2 hnn1 hnn2 hnm1 hnm2 hset hap hn1 hn2 hne
      obtain ⟨u0, u1, u2, uf⟩ := id hz
      go_wp2_with fail
      generalize w7.setCell ⟨w.heap.size, 1, none⟩ (.slice a7 n7 c7) = w8 at *
      clear z0 z1 z2 zf
      obtain ⟨z0, z1, z2, zf⟩ := id hz
      have hck2 := fileCheck_calls ks A hks p _ _ (setAt (mdTs L1) (mp.data.toList, mv.data.toList)) (mdTs L2) _ (hE.below hB) hM1 hM2 hp hsr2.out hsx.out
      replace hck2 := Lib.hid hck2
      go_wp2_with fail
      refine hck2.out.mono ?_
      rintro e w8 ⟨⟨v, rfl, hv⟩, hb⟩
      replace hz := hz.below hb
      replace hy := hy.below hb
      replace hM1 := hM1.below hb
      replace hM2 := hM2.below hb
      replace hB := below_step hB hb
      clear hck2 hb z0 z1 z2 zf
      obtain ⟨z0, z1, z2, zf⟩ := id hz
      rcases fault_form hv with ⟨h1, rfl⟩ | ⟨h1, ty, q, rfl⟩
      · have HF := Lib.hid (fileSet_ok (m := (mp.data.toList, mv.data.toList)) h0.out h1)
        have hB4 := below_sto hB (b := w.heap.size + 2) (by omega) (.string p) (.slice a7 n7 c7) (.slice a6 n6 c6)
        have hM14 := hM1.sto (c := w.heap.size + 2) HN.out.1 (.string p) (.slice a7 n7 c7) (.slice a6 n6 c6)
        have hM24 := hM2.sto (c := w.heap.size + 2) HN.out.2 (.string p) (.slice a7 n7 c7) (.slice a6 n6 c6)
        have hfin : SetOut A (fileSet ⟨p.data.toList, mdTs L1, mdTs L2⟩ (mp.data.toList, mv.data.toList)) w (.returned (.tuple #[.agg #[.string p, (.slice a7 n7 c7), .slice a6 n6 c6], .nilIface])) (st3 w8 (w.heap.size + 2) (.string p) (.slice a7 n7 c7) (.slice a6 n6 c6)) := by
          rw [HF.out]
          exact ⟨⟨p, _, _, rfl, rfl, hM14, hM24⟩, hB4⟩
        replace hfin := Lib.hid hfin
        clear hv h1 hB4 hM14 hM24 hM1 hM2
        obtain ⟨y0, y1, y2, yf⟩ := id hy
        go_wp2_with fail
        refine bodyPost_ret (v := .tuple #[.agg #[.string p, (.slice a7 n7 c7), .slice a6 n6 c6], .nilIface]) (by simp [results, Tryz.results15, go_sem, *]) rfl ?_
        exact hfin.out
      ·
        have HV := Lib.hid (bare_calls A _ _ w8 hv)
        have HF := Lib.hid (fileSet_err2 h0.out h1)
        have h0' := Lib.hid h1
        clear hv h1
        go_wp2_with fail
        refine HV.out.mono ?_
        rintro e w9 ⟨rfl, hb⟩
        replace hy := hy.below hb
        replace hB := below_step hB hb
        clear HV
        obtain ⟨y0, y1, y2, yf⟩ := id hy
        rw [errV_pos A h0'.out]
        have hB4 := below_sto hB (b := w.heap.size + 2) (by omega) (.string ⟨#[]⟩) (.slice none 0 0) (.slice none 0 0)
        unfold st3 at hB4
        go_wp2_with fail
        refine bodyPost_ret (v := .tuple #[.agg #[.string ⟨#[]⟩, .slice none 0 0, .slice none 0 0], .iface 259 (.pointer (some (A (fileErr ⟨p.data.toList, setAt (mdTs L1) (mp.data.toList, mv.data.toList), mdTs L2⟩).1)))]) (by simp [results, Tryz.results15, go_sem, *]) rfl ?_
        rw [HF.out, ← errV_pos A h0'.out]
        first
        | exact setOut_err hB
        | exact setOut_err hB4
  ·
    have HV := Lib.hid (bare_calls A _ _ w3 hv)
    have HF := Lib.hid (fileSet_err (m := (mp.data.toList, mv.data.toList)) h0)
    have h0' := Lib.hid h0
    clear hv h0
    go_wp2_with fail
    refine HV.out.mono ?_
    rintro e w9 ⟨rfl, hb⟩
    replace hy := hy.below hb
    replace hB := below_step hB hb
    clear HV
    obtain ⟨y0, y1, y2, yf⟩ := id hy
    rw [errV_pos A h0'.out]
    have hB4 := below_sto hB (b := w.heap.size + 2) (by omega) (.string ⟨#[]⟩) (.slice none 0 0) (.slice none 0 0)
    unfold st3 at hB4
    go_wp2_with fail
    refine bodyPost_ret (v := .tuple #[.agg #[.string ⟨#[]⟩, .slice none 0 0, .slice none 0 0], .iface 259 (.pointer (some (A (fileErr ⟨p.data.toList, R, X⟩).1)))]) (by simp [results, Tryz.results15, go_sem, *]) rfl ?_
    rw [HF.out, ← errV_pos A h0'.out]
    first
    | exact setOut_err hB
    | exact setOut_err hB4
end Go.Proofs.Pw
