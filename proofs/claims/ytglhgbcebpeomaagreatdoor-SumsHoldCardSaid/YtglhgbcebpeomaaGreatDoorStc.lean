/- St: walks and plain laws, joined: IdxMath LatestMath Ver Pat VerSplit. Conditions: at each theorem. -/
import Derived.Test.YtglhgbcebpeomaaGreatDoorStb
import Derived.Test.YtglhgbcebpeomaaGreatDoorShelf
import Derived.Test.YtglhgbcebpeomaaGreatDoorSta
import Derived.WalkLawsBesides
import Derived.WalkSpells
import Derived.Stop.IfaceNil
import Derived.LaidEql
import Derived.Deep.QuietTactic
import Derived.BigQuiet
import Derived.Shelf.Strings.SlTrimAscii
import Derived.WalkKit
import Derived.RegionTactic
import Derived.BigRegion

namespace Go.Proofs.Pw
open Go.Lib hiding intOf
structure En where
  md : Md
  reqs : List Md
  packs : List Str
  back : Bool
def noEn : En := ⟨([], []), [], [], false⟩
def enAt (l : List En) (i : Nat) : En := l.getD i noEn
theorem enAt_get {l : List En} {i : Nat} (h : i < l.length) : l[i]? = some (enAt l i) := by
  unfold enAt
  rw [List.getD_eq_getElem?_getD, List.getElem?_eq_getElem h]; rfl
theorem enAt_mem {l : List En} {i : Nat} (h : i < l.length) : enAt l i ∈ l := List.mem_of_getElem? (enAt_get h)
theorem enAt_elem {l : List En} {i : Nat} (h : i < l.length) : enAt l i = l[i] := by
  have := enAt_get h
  rw [List.getElem?_eq_getElem h] at this
  exact (Option.some.inj this).symm
def reqsErr (e : En) : Nat := if 20 < e.reqs.length then 7 else (firstE (reqE e.md.1 e.reqs) e.reqs.length).1
def packOk (s : Str) : Bool := decide (s = [46]) || decide (pathErr s = 0)
def packE (l : List Str) (i : Nat) : Nat := if 0 < i ∧ compareBytes (l.getD i []) (l.getD (i - 1) []) ≤ 0 then 8 else 0
def packsErr (e : En) : Nat := if 10 < e.packs.length then 7 else if e.packs.all packOk then (firstE (packE e.packs) e.packs.length).1 else 1
def entErr (l : List En) (i : Nat) : Nat :=
  if mdErr (enAt l i).md ≠ 0 then mdErr (enAt l i).md
  else if 0 < i ∧ modAhead (enAt l (i - 1)).md (enAt l i).md = false then 8
  else if reqsErr (enAt l i) ≠ 0 then reqsErr (enAt l i) else packsErr (enAt l i)
def isMd (m : Md) (e : En) : Bool := decide (e.md = m)
def findE (l : List En) (m : Md) : Int := findI (isMd m) l
def lost (l : List En) (m : Md) : Bool := decide (findE l m < 0)
def lostE (l : List En) (i : Nat) : Nat := if (enAt l i).reqs.any (lost l) then 5 else 0
def idxErr (l : List En) : Nat × Int :=
  if 100 < l.length then (7, -1) else orE (firstE (entErr l) l.length) (firstE (lostE l) l.length)
theorem findE_lt {l : List En} {m : Md} : findE l m < 0 ↔ ∀ e ∈ l, e.md ≠ m := by
  unfold findE
  rw [findI_eq_none]
  exact ⟨fun h e he => of_decide_eq_false (h e he), fun h e he => decide_eq_false (h e he)⟩
theorem findE_at {l : List En} {m : Md} {k : Nat} (h : findE l m = k) : k < l.length ∧ (enAt l k).md = m := by
  obtain ⟨x, hx, hp⟩ := findI_spec h
  have hl := (List.getElem?_eq_some_iff.1 hx).1
  rw [enAt_get hl] at hx
  exact ⟨hl, by rw [Option.some.inj hx]; exact of_decide_eq_true hp⟩
theorem findE_nat {l : List En} {m : Md} (h : ¬ findE l m < 0) : ∃ k : Nat, findE l m = k ∧ k < l.length ∧ (enAt l k).md = m :=
  have h0 : findE l m = ((findE l m).toNat : Int) := by omega
  ⟨(findE l m).toNat, h0, findE_at h0⟩
structure RightI (l : List En) : Prop where
  len : l.length ≤ 100
  mds : ∀ e ∈ l, mdErr e.md = 0
  rise : Rises modCmp (l.map (·.md))
  reqs : ∀ e ∈ l, reqsErr e = 0
  packs : ∀ e ∈ l, packsErr e = 0
  all : ∀ e ∈ l, ∀ m ∈ e.reqs, ∃ x ∈ l, x.md = m
theorem entErr_zero {l : List En} {i : Nat} (h : entErr l i = 0) : mdErr (enAt l i).md = 0 ∧ (0 < i → modAhead (enAt l (i - 1)).md (enAt l i).md = true) ∧ reqsErr (enAt l i) = 0 ∧ packsErr (enAt l i) = 0 := by
  unfold entErr at h
  by_cases h1 : mdErr (enAt l i).md = 0
  · rw [if_neg (by simp [h1])] at h
    by_cases h2 : 0 < i ∧ modAhead (enAt l (i - 1)).md (enAt l i).md = false
    · rw [if_pos h2] at h; cases h
    · rw [if_neg h2] at h
      by_cases h3 : reqsErr (enAt l i) = 0
      · rw [if_neg (by simp [h3])] at h
        refine ⟨h1, fun hi => ?_, h3, h⟩
        cases h4 : modAhead (enAt l (i - 1)).md (enAt l i).md
        · exact absurd ⟨hi, h4⟩ h2
        · rfl
      · rw [if_pos h3] at h; exact absurd h h3
  · rw [if_pos h1] at h; exact absurd h h1
theorem rises_step {α : Type} {f : α → α → Int} (hf : Ord3 f) {l : List α} (h : ∀ i (h1 : i + 1 < l.length), f l[i] l[i + 1] < 0) : Rises f l := by
  have tr : ∀ a b c, f a b < 0 → f b c < 0 → f a c < 0 := fun a b c h1 h2 => by
    have a1 := hf.tr a b c (by omega) (by omega)
    rcases Int.lt_or_eq_of_le a1 with a2 | a2
    · exact a2
    · exfalso
      have a3 := hf.zero a2
      have a4 := hf.tr c a b (by omega) (by omega)
      have a5 := (hf.anti b c).1 h2
      omega
  have all : ∀ j i (hij : i < j) (hj : j < l.length), f l[i] l[j] < 0 := by
    intro j
    induction j with
    | zero => intro i hi; exact absurd hi (Nat.not_lt_zero _)
    | succ j ih =>
      intro i hi hj
      by_cases e : i = j
      · subst e; exact h i hj
      · exact tr _ _ _ (ih i (by omega) (by omega)) (h j hj)
  unfold Rises
  rw [List.pairwise_iff_getElem]
  exact fun i j _ hj hij => all j i hij hj
theorem mem_enAt {l : List En} {e : En} (h : e ∈ l) : ∃ i, i < l.length ∧ enAt l i = e := by
  obtain ⟨i, hi⟩ := List.getElem?_of_mem h
  have hl := (List.getElem?_eq_some_iff.1 hi).1
  rw [enAt_get hl] at hi
  exact ⟨i, hl, Option.some.inj hi⟩
theorem rightI_of {l : List En} (h : (idxErr l).1 = 0) : RightI l := by
  unfold idxErr at h
  by_cases h0 : 100 < l.length
  · rw [if_pos h0] at h; cases h
  · rw [if_neg h0, orE_zero] at h
    have h1 := fun i hi => entErr_zero (firstE_zero h.1 i hi)
    have h2 := firstE_zero h.2
    have hm : ∀ e ∈ l, mdErr e.md = 0 := fun e he => by
      obtain ⟨i, hi, rfl⟩ := mem_enAt he
      exact (h1 i hi).1
    refine ⟨by omega, hm, rises_step modCmp_ord fun i hi => ?_, fun e he => ?_, fun e he => ?_, fun e he m hme => ?_⟩
    · rw [List.length_map] at hi
      have := (h1 (i + 1) hi).2.1 (by omega)
      rw [Nat.add_sub_cancel, modAhead_iff (hm _ (enAt_mem (by omega))) (hm _ (enAt_mem hi)), enAt_elem (by omega), enAt_elem hi] at this
      simpa using of_decide_eq_true this
    · obtain ⟨i, hi, rfl⟩ := mem_enAt he
      exact (h1 i hi).2.2.1
    · obtain ⟨i, hi, rfl⟩ := mem_enAt he
      exact (h1 i hi).2.2.2
    · obtain ⟨i, hi, rfl⟩ := mem_enAt he
      have h3 := h2 i hi
      unfold lostE at h3
      by_cases h4 : (enAt l i).reqs.any (lost l) = true
      · rw [if_pos h4] at h3; cases h3
      · have h5 : lost l m = false := by
          cases h6 : lost l m
          · rfl
          · exact absurd (List.any_eq_true.2 ⟨m, hme, h6⟩) h4
        unfold lost at h5
        rw [decide_eq_false_iff_not] at h5
        obtain ⟨k, _, hk, e⟩ := findE_nat h5
        exact ⟨_, enAt_mem hk, e⟩
theorem RightI.req {l : List En} (h : RightI l) {e : En} (he : e ∈ l) : ∀ m ∈ e.reqs, mdErr m = 0 := fun m hm => by
  obtain ⟨x, hx, rfl⟩ := h.all e he m hm
  exact h.mds x hx
theorem rises_inj {α β : Type} {f : α → α → Int} (hf : Ord3 f) {k : β → α} : ∀ {l : List β}, Rises f (l.map k) → ∀ {a b : β}, a ∈ l → b ∈ l → k a = k b → a = b
  | [], _, _, _, h, _, _ => by simp at h
  | x :: r, h, a, b, ha, hb, e => by
    have h1 := List.pairwise_cons.1 h
    rcases List.mem_cons.1 ha with ea | ha' <;> rcases List.mem_cons.1 hb with eb | hb'
    · rw [ea, eb]
    · have := h1.1 (k b) (List.mem_map_of_mem hb')
      rw [← ea, e, hf.self] at this
      omega
    · have := h1.1 (k a) (List.mem_map_of_mem ha')
      rw [← eb, e, hf.self] at this
      omega
    · exact rises_inj hf h1.2 ha' hb' e
theorem RightI.one {l : List En} (h : RightI l) {a b : En} (ha : a ∈ l) (hb : b ∈ l) (e : a.md = b.md) : a = b := rises_inj modCmp_ord (k := (·.md)) h.rise ha hb e
def enF (n : Nat) (P V : Nat → ByteArray) (R : Nat → List Md) (K : Nat → List Str) (B : Nat → Bool) : List En := (List.range n).map fun j => ⟨((P j).data.toList, (V j).data.toList), R j, K j, B j⟩
theorem enF_length (n P V R K B) : (enF n P V R K B).length = n := by simp [enF]
theorem enF_get (n P V R K B) (j : Nat) (h : j < n) : (enF n P V R K B)[j]? = some ⟨((P j).data.toList, (V j).data.toList), R j, K j, B j⟩ := by simp [enF, h]
theorem enAt_enF {n P V R K B} {j : Nat} (h : j < n) : enAt (enF n P V R K B) j = ⟨((P j).data.toList, (V j).data.toList), R j, K j, B j⟩ := by
  unfold enAt
  rw [List.getD_eq_getElem?_getD, enF_get n P V R K B j h]; rfl
end Go.Proofs.Pw

namespace Go.Proofs.Pw
open Go.Lib hiding intOf
def versL (l : List En) (p : Str) : List Str := (l.filter fun e => decide (e.md.1 = p)).map (·.md.2)
def backB (l : List En) (p v : Str) : Bool := decide (0 ≤ findE l (p, v)) && (enAt l (findE l (p, v)).toNat).back
def preB (v : Str) : Bool := decide (verErr v ≠ 0) || decide (0 < (verPre v).length)
def likedL (l : List En) (p : Str) (vs : List Str) : List Str :=
  if vs.filter (fun v => !(backB l p v || preB v)) ≠ [] then vs.filter (fun v => !(backB l p v || preB v))
  else if vs.filter (fun v => !backB l p v) ≠ [] then vs.filter (fun v => !backB l p v) else vs
def lastS (vs : List Str) : Str := (vs.getLast?).getD []
def latestL (l : List En) (p : Str) : Str := lastS (likedL l p (vsort (versL l p)))
theorem snoc_ind {α : Type} {p : List α → Prop} (h0 : p []) (h1 : ∀ l a, p l → p (l ++ [a])) (l : List α) : p l := by
  have : ∀ r : List α, p r.reverse := fun r => by
    induction r with
    | nil => exact h0
    | cons a r ih => rw [List.reverse_cons]; exact h1 _ _ ih
  have h := this l.reverse
  rwa [List.reverse_reverse] at h
theorem likedL_sub {l : List En} {p : Str} {vs : List Str} {v : Str} (h : v ∈ likedL l p vs) : v ∈ vs := by
  unfold likedL at h
  split at h
  · exact (List.mem_filter.1 h).1
  · split at h
    · exact (List.mem_filter.1 h).1
    · exact h
theorem likedL_ne {l : List En} {p : Str} {vs : List Str} (h : vs ≠ []) : likedL l p vs ≠ [] := by
  unfold likedL
  split
  · assumption
  · split
    · assumption
    · exact h
theorem lastS_mem {vs : List Str} (h : vs ≠ []) : lastS vs ∈ vs := by
  unfold lastS
  rw [List.getLast?_eq_some_getLast h, Option.getD_some]
  exact List.getLast_mem h
theorem versL_mem {l : List En} {p v : Str} : v ∈ versL l p ↔ ∃ e ∈ l, e.md = (p, v) := by
  unfold versL
  rw [List.mem_map]
  constructor
  · rintro ⟨e, he, rfl⟩
    exact ⟨e, (List.mem_filter.1 he).1, by rw [← of_decide_eq_true (List.mem_filter.1 he).2]⟩
  · rintro ⟨e, he, e1⟩
    refine ⟨e, List.mem_filter.2 ⟨he, decide_eq_true (by rw [e1])⟩, by rw [e1]⟩
end Go.Proofs.Pw

namespace Go.Proofs.Pw
open Go.RowKit
open Go.Lib hiding intOf
theorem Tryz.err_comp : (Tryz.prog.info? 371).map (·.comparable) = some true := by kernel_rfl
theorem Tryz.err_size : (Tryz.prog.info? 373).map (·.size) = some 1 := by kernel_rfl
theorem trim_calls (s cs : ByteArray) (w : World) (hs : s.size ≤ 4000000000) (hc : cs.size ≤ 1000) (ha : ∀ b ∈ cs.data.toList, b.toNat < 128) :
    Calls Tryz.prog 145 #[.string s, .string cs] w fun e w' => e = .returned (.string ⟨(Lib.trimS s.data.toList cs.data.toList).toArray⟩) ∧ Below w.heap.size w w' :=
  Any.strings_Trim_laid Tryz.lays160 (by kernel_rfl) s cs w (by omega) (by omega) (fun j b h => ha b (List.mem_of_getElem? h))
theorem toList_mk (l : Str) : (⟨l.toArray⟩ : ByteArray).toList = l := by rw [toList_data]
theorem data_mk (l : Str) : (⟨l.toArray⟩ : ByteArray).data.toList = l := rfl
theorem isEmpty_toList (s : ByteArray) : s.toList.isEmpty = s.data.toList.isEmpty := by rw [toList_data]
theorem digits_calls (s : ByteArray) (w : World) (hs : s.size ≤ 4000000000) :
    Calls Tryz.prog 257 #[.string s] w fun e w' => e = .returned (.bool (areDigits s.data.toList)) ∧ Below w.heap.size w w' := by
  have HT := Lib.hid (trimS_nil_bool s.data.toList digitsSet isDig digitsSet_ok)
  cases he : s.data.toList.isEmpty with
  | true =>
    have h1 : s.toList.isEmpty = true := by rw [isEmpty_toList, he]
    have h2 : s.toList = [] := by simpa using h1
    have HD : Hid (areDigits s.data.toList = false) := by unfold areDigits; show _ = _; rw [he]; rfl
    clear he
    go_enter Tryz.func257, Tryz.ntmps257
    go_wp2_with fail
    go_ret
    exact ⟨by rw [HD.out]; simp, Below.refl _ _⟩
  | false =>
    have h1 : s.toList.isEmpty = false := by rw [isEmpty_toList, he]
    have h2 : (s.toList == []) = false := by simpa using h1
    have HD : Hid (areDigits s.data.toList = s.data.toList.all isDig) := by unfold areDigits; show _ = _; rw [he]; rfl
    clear he
    go_enter Tryz.func257, Tryz.ntmps257
    go_wp2_with fail
    refine (trim_calls _ _ _ hs (by decide) (by decide)).mono ?_
    rintro e w1 ⟨rfl, hb1⟩
    cases ha : s.data.toList.all isDig with
    | true =>
      have e1 : trimS s.data.toList (⟨#[48, 49, 50, 51, 52, 53, 54, 55, 56, 57]⟩ : ByteArray).data.toList = [] := by
        have := HT.out
        rw [ha] at this
        exact beq_iff_eq.1 this
      rw [e1]
      clear e1
      go_wp2_with fail
      go_ret
      exact ⟨by rw [HD.out, ha]; simp, hb1⟩
    | false =>
      have e1 : (trimS s.data.toList (⟨#[48, 49, 50, 51, 52, 53, 54, 55, 56, 57]⟩ : ByteArray).data.toList == []) = false := by
        have := HT.out
        rw [ha] at this
        exact this
      generalize trimS s.data.toList (⟨#[48, 49, 50, 51, 52, 53, 54, 55, 56, 57]⟩ : ByteArray).data.toList = t at e1 ⊢
      have e2 : (⟨t.toArray⟩ : ByteArray).toList.isEmpty = false := by rw [toList_mk]; simpa using e1
      clear e1
      go_wp2_with fail
      go_ret
      exact ⟨by rw [HD.out, ha]; simp_all, hb1⟩
theorem atoi_calls (ks : List Nat) (A : Nat → Addr) (s : ByteArray) (w : World) (hE : EnvP ks A w) (hs : s.size ≤ 4000000000) (hd : areDigits s.data.toList = true) :
    Calls Tryz.prog 135 #[.string s] w fun e w' => ((∃ x te pe, e = .returned (.tuple #[.int .i64 x, .iface te pe]) ∧ 6 < s.size) ∨ (e = .returned (.tuple #[.int .i64 (decVal s.data.toList), .nilIface]))) ∧ Below w.heap.size w w' := by
  rcases atoiAll_digits hd with h | h
  · obtain ⟨te, pe, hr⟩ := hE.range
    refine (Tryz.strconv_Atoi_range s (by omega) h _ w hr (.inr ⟨te, pe, rfl⟩)).mono ?_
    rintro e w' ⟨N, rfl, _, _, hb⟩
    exact ⟨.inl ⟨_, _, _, rfl, by rw [size_eq]; exact atoiAll_range_long hd h⟩, hb⟩
  · refine (Tryz.strconv_Atoi_ok s (by omega) _ h w).mono ?_
    rintro e w' ⟨rfl, hw⟩
    refine ⟨.inr rfl, ?_⟩
    rcases hw with rfl | ⟨t, rfl⟩
    · exact Below.refl _ _
    · exact Lib.bytesWorld_below _ _ _
theorem numberOf_text {s : Str} (h : areDigits s = false ∨ (1 < s.length ∧ s.head? = some 48)) : numberOf s = (0, 1) := by unfold numberOf; rw [if_pos h]
theorem numberOf_long {s : Str} (h : ¬ (areDigits s = false ∨ (1 < s.length ∧ s.head? = some 48))) (hl : 6 < s.length) : numberOf s = (0, 2) := by unfold numberOf; rw [if_neg h, if_pos hl]
theorem numberOf_ok {s : Str} (h : ¬ (areDigits s = false ∨ (1 < s.length ∧ s.head? = some 48))) (hl : ¬ 6 < s.length) : numberOf s = (decVal s, 0) := by unfold numberOf; rw [if_neg h, if_neg hl]
theorem number_text (ks : List Nat) (A : Nat → Addr) (s : ByteArray) (w : World) (hE : EnvP ks A w) (hs : s.size ≤ 4000000000) (hd : areDigits s.data.toList = false ∨ (areDigits s.data.toList = true ∧ 1 < s.data.toList.length ∧ s.data.toList.head? = some 48)) :
    Calls Tryz.prog 167 #[.string s] w fun e w' => e = .returned (.tuple #[.int .i64 0, errV A 1]) ∧ Below w.heap.size w w' := by
  rcases hd with hd | ⟨hd, hl, h0⟩
  · have HD := Lib.hid hd
    clear hd
    go_enter Tryz.func167, Tryz.ntmps167
    go_wp2_with fail
    refine (digits_calls _ _ hs).mono ?_
    rintro e w1 ⟨rfl, hb1⟩
    rw [HD.out]
    have hE1 := (hE.below hb1).errs.var 1 hE.has.1
    simp only [errG] at hE1
    go_wp2_with fail
    go_quiet (fail)
    go_wp2_with fail
    go_ret2
    exact ⟨rfl, Below.drewN hb1 _⟩
  · have HD := Lib.hid hd
    have hl' : 1 < s.size := by rw [size_eq]; exact hl
    have h0' : (s[0]'(by omega)) = 48 := by
      cases hsd : s.data.toList with
      | nil => rw [hsd] at hl; simp at hl
      | cons c r =>
        rw [hsd] at h0
        simp at h0
        have : s.data.toList[0]? = some 48 := by rw [hsd, h0]; rfl
        have h2 : s.data.toList[0]? = some (s[0]'(by omega)) := by
          rw [List.getElem?_eq_getElem (by rw [← size_eq]; omega)]; rfl
        rw [h2] at this
        exact Option.some.inj this
    have h0'' : ((s[0]'(by omega)).toNat : Int) = 48 := by rw [h0']; rfl
    clear hd hl h0 h0'
    go_enter Tryz.func167, Tryz.ntmps167
    go_wp2_with fail
    refine (digits_calls _ _ hs).mono ?_
    rintro e w1 ⟨rfl, hb1⟩
    rw [HD.out]
    have hE1 := (hE.below hb1).errs.var 1 hE.has.1
    simp only [errG] at hE1
    go_wp2_with fail
    go_quiet (fail)
    go_wp2_with fail
    go_ret2
    exact ⟨rfl, Below.drewN hb1 _⟩
set_option maxHeartbeats 400000 in
theorem number_long (ks : List Nat) (A : Nat → Addr) (s : ByteArray) (w : World) (hE : EnvP ks A w) (hs : s.size ≤ 4000000000) (hd : areDigits s.data.toList = true) (hz : ¬ (1 < s.data.toList.length ∧ s.data.toList.head? = some 48)) (h6 : 6 < s.size) :
    Calls Tryz.prog 167 #[.string s] w fun e w' => e = .returned (.tuple #[.int .i64 0, errV A 2]) ∧ Below w.heap.size w w' := by
  have HD := Lib.hid hd
  have hv := decVal_small hd hz
  rw [← size_eq] at hv
  have HS := Lib.hid hv
  have hne : 0 < s.size := by
    rw [size_eq]
    cases hsd : s.data.toList with
    | nil => rw [hsd] at hd; simp [areDigits] at hd
    | cons c r => simp
  have h01 : (1 < s.size ∧ (((s[0]'hne).toNat : Int) == 48) = false) ∨ ¬ 1 < s.size := by
    by_cases h1 : 1 < s.size
    · refine .inl ⟨h1, ?_⟩
      rw [beq_eq_false_iff_ne]
      intro e
      apply hz
      refine ⟨by rw [← size_eq]; exact h1, ?_⟩
      have h2 : s.data.toList[0]? = some (s[0]'hne) := by
        rw [List.getElem?_eq_getElem (by rw [← size_eq]; omega)]; rfl
      rw [List.head?_eq_getElem?, h2]
      have : (s[0]'hne).toNat = 48 := by exact_mod_cast e
      rw [show (48 : UInt8) = UInt8.ofNat 48 from rfl, ← this, UInt8.ofNat_toNat]
    · exact .inr h1
  clear hd hz hv
  obtain ⟨h1, h2⟩ := h01.resolve_right (by omega)
  all_goals
    go_enter Tryz.func167, Tryz.ntmps167
    go_wp2_with fail
    refine (digits_calls _ _ hs).mono ?_
    rintro e w1 ⟨rfl, hb1⟩
    rw [HD.out]
    have hEa := hE.below hb1
    go_wp2_with fail
    refine (atoi_calls ks A _ _ hEa hs HD.out).mono ?_
    rintro e w2 ⟨hr, hb2⟩
    have hE2 := (hEa.below hb2).errs.var 2 hE.has.2
    simp only [errG] at hE2
    rcases hr with ⟨x, te, pe, rfl, h7⟩ | rfl
    · go_wp2_with fail
      go_quiet (fail)
      go_wp2_with fail
      go_ret2
      exact ⟨rfl, Below.drewN (below_step hb1 hb2) _⟩
    · have hbig : 999999 < decVal s.data.toList := by
        rcases Nat.lt_or_ge 999999 (decVal s.data.toList) with h | h
        · exact h
        · have := HS.out.1 h
          omega
      generalize decVal s.data.toList = v at hbig ⊢
      go_wp2_with fail
      go_quiet (fail)
      go_wp2_with fail
      go_ret2
      exact ⟨rfl, Below.drewN (below_step hb1 hb2) _⟩
set_option maxHeartbeats 400000 in
theorem number_ok (ks : List Nat) (A : Nat → Addr) (s : ByteArray) (w : World) (hE : EnvP ks A w) (hs : s.size ≤ 4000000000) (hd : areDigits s.data.toList = true) (hz : ¬ (1 < s.data.toList.length ∧ s.data.toList.head? = some 48)) (h6 : ¬ 6 < s.size) :
    Calls Tryz.prog 167 #[.string s] w fun e w' => e = .returned (.tuple #[.int .i64 (decVal s.data.toList), errV A 0]) ∧ Below w.heap.size w w' := by
  have HD := Lib.hid hd
  have hv := decVal_small hd hz
  rw [← size_eq] at hv
  have HS := Lib.hid hv
  have hne : 0 < s.size := by
    rw [size_eq]
    cases hsd : s.data.toList with
    | nil => rw [hsd] at hd; simp [areDigits] at hd
    | cons c r => simp
  have h01 : (1 < s.size ∧ (((s[0]'hne).toNat : Int) == 48) = false) ∨ ¬ 1 < s.size := by
    by_cases h1 : 1 < s.size
    · refine .inl ⟨h1, ?_⟩
      rw [beq_eq_false_iff_ne]
      intro e
      apply hz
      refine ⟨by rw [← size_eq]; exact h1, ?_⟩
      have h2 : s.data.toList[0]? = some (s[0]'hne) := by
        rw [List.getElem?_eq_getElem (by rw [← size_eq]; omega)]; rfl
      rw [List.head?_eq_getElem?, h2]
      have : (s[0]'hne).toNat = 48 := by exact_mod_cast e
      rw [show (48 : UInt8) = UInt8.ofNat 48 from rfl, ← this, UInt8.ofNat_toNat]
    · exact .inr h1
  clear hd hz hv
  rcases h01 with ⟨h1, h2⟩ | h1
  all_goals
    go_enter Tryz.func167, Tryz.ntmps167
    go_wp2_with fail
    refine (digits_calls _ _ hs).mono ?_
    rintro e w1 ⟨rfl, hb1⟩
    rw [HD.out]
    have hEa := hE.below hb1
    go_wp2_with fail
    refine (atoi_calls ks A _ _ hEa hs HD.out).mono ?_
    rintro e w2 ⟨hr, hb2⟩
    have hE2 := (hEa.below hb2).errs.var 2 hE.has.2
    simp only [errG] at hE2
    rcases hr with ⟨x, te, pe, rfl, h7⟩ | rfl
    · exact absurd h7 h6
    · have hsm : decVal s.data.toList ≤ 999999 := HS.out.2 (by omega)
      go_wp2_with fail
      go_ret2
      exact ⟨rfl, below_step hb1 hb2⟩
theorem number_calls (ks : List Nat) (A : Nat → Addr) (s : ByteArray) (w : World) (hE : EnvP ks A w) (hs : s.size ≤ 4000000000) :
    Calls Tryz.prog 167 #[.string s] w fun e w' => e = .returned (.tuple #[.int .i64 ((numberOf s.data.toList).1 : Nat), errV A (numberOf s.data.toList).2]) ∧ Below w.heap.size w w' := by
  by_cases h : areDigits s.data.toList = false ∨ (1 < s.data.toList.length ∧ s.data.toList.head? = some 48)
  · rw [numberOf_text h]
    refine number_text ks A s w hE hs ?_
    cases hd : areDigits s.data.toList with
    | false => exact .inl rfl
    | true => exact .inr ⟨rfl, h.resolve_left (by rw [hd]; decide)⟩
  · have hd : areDigits s.data.toList = true := by simpa using fun e => h (.inl e)
    have hz : ¬ (1 < s.data.toList.length ∧ s.data.toList.head? = some 48) := fun e => h (.inr e)
    by_cases hl : 6 < s.data.toList.length
    · rw [numberOf_long h hl]
      exact number_long ks A s w hE hs hd hz (by rw [size_eq]; exact hl)
    · rw [numberOf_ok h hl]
      exact number_ok ks A s w hE hs hd hz (by rw [size_eq]; exact hl)
theorem worse_calls (ks : List Nat) (A : Nat → Addr) (i j : Nat) (w : World) (hE : EnvP ks A w) (hi : i = 0 ∨ i ∈ ks) :
    Calls Tryz.prog 168 #[errV A i, errV A j] w fun e w' => e = .returned (errV A (worseN i j)) ∧ w = w' := by
  have hT := hE.errs.var 1 hE.has.1
  simp only [errG] at hT
  obtain ⟨i0, hi0, hcmp⟩ := Option.map_eq_some_iff.1 Tryz.err_comp
  obtain ⟨j0, hj0, hjs⟩ := Option.map_eq_some_iff.1 Tryz.err_size
  by_cases hi1 : i = 1
  · subst hi1
    have hw : worseN 1 j = 1 := by simp [worseN]
    rw [hw, errV_pos A (c := 1) (by decide)]
    have heq := run_eql_iface_ptr_same (P := Tryz.prog) w (A 1) Tryz.underlying41 Tryz.underlying371 hi0 hcmp hj0
    clear hw
    go_enter Tryz.func168, Tryz.ntmps168
    go_wp2_with fail
    go_ret
    exact ⟨rfl, rfl⟩
  · by_cases h0 : i = 0
    · subst h0
      have hw : worseN 0 j = j := by unfold worseN; split <;> simp_all
      rw [hw, errV_zero]
      have heq := run_eql_iface_nil_left (P := Tryz.prog) w 371 (.pointer (some (A 1))) Tryz.underlying41
      clear hw hi1 hi
      by_cases hj1 : j = 0
      · subst hj1
        rw [errV_zero]
        go_enter Tryz.func168, Tryz.ntmps168
        go_wp2_with fail
        go_ret
        exact ⟨rfl, rfl⟩
      · rw [errV_pos A hj1]
        clear hj1
        go_enter Tryz.func168, Tryz.ntmps168
        go_wp2_with fail
        go_ret
        exact ⟨rfl, rfl⟩
    · have hik := hi.resolve_left h0
      obtain ⟨ca, ta, ha⟩ := hE.errs.row i hik
      obtain ⟨cb, tb, hb⟩ := hE.errs.row 1 hE.has.1
      have heq := run_eql_iface_ptr_other (P := Tryz.prog) w Tryz.underlying41 Tryz.underlying371 hi0 hcmp hj0 (by rw [hjs]; decide) (fun e => hi1 (hE.errs.inj _ hik _ hE.has.1 e)) ha hb
      by_cases hj1 : j = 0
      · subst hj1
        have hw : worseN i 0 = i := by simp [worseN]
        rw [hw, errV_zero, errV_pos A h0]
        clear hw h0 hi1 hi
        go_enter Tryz.func168, Tryz.ntmps168
        go_wp2_with fail
        go_ret
        exact ⟨rfl, rfl⟩
      · have hw : worseN i j = j := by simp [worseN, hi1, hj1]
        rw [hw, errV_pos A h0, errV_pos A hj1]
        clear hw h0 hi1 hi hj1
        go_enter Tryz.func168, Tryz.ntmps168
        go_wp2_with fail
        go_ret
        exact ⟨rfl, rfl⟩
theorem partErr_text {s : Str} (h : s = [] ∨ 8 < s.length ∨ s.all isPartByte = false) : partErr s = 1 := by unfold partErr; rw [if_pos h]
set_option maxHeartbeats 400000 in
theorem part_calls (ks : List Nat) (A : Nat → Addr) (s : ByteArray) (w : World) (hE : EnvP ks A w) (hs : s.size ≤ 4000000000) :
    Calls Tryz.prog 169 #[.string s] w fun e w' => e = .returned (errV A (partErr s.data.toList)) ∧ Below w.heap.size w w' := by
  have hT := hE.errs.var 1 hE.has.1
  simp only [errG] at hT
  have HP := Lib.hid (trimS_nil_bool s.data.toList partSet isPartByte partSet_ok)
  have hsz := size_eq s
  by_cases he : s.data.toList = []
  · rw [partErr_text (.inl he), errV_pos A (c := 1) (by decide)]
    have h1 : s.toList.isEmpty = true := by rw [isEmpty_toList, he]; rfl
    have h2 : s.toList = [] := by simpa using h1
    clear he hsz
    go_enter Tryz.func169, Tryz.ntmps169
    go_wp2_with fail
    go_ret
    exact ⟨rfl, Below.refl _ _⟩
  · have h1 : s.toList.isEmpty = false := by rw [isEmpty_toList]; simpa using he
    have h2 : (s.toList == []) = false := by simpa using h1
    by_cases hl : 8 < s.size
    · rw [partErr_text (.inr (.inl (by rw [← hsz]; exact hl))), errV_pos A (c := 1) (by decide)]
      clear he hsz
      go_enter Tryz.func169, Tryz.ntmps169
      go_wp2_with fail
      go_ret
      exact ⟨rfl, Below.refl _ _⟩
    · have HL := Lib.hid hsz
      have HE := Lib.hid he
      clear hsz he
      cases ha : s.data.toList.all isPartByte with
      | false =>
        rw [partErr_text (.inr (.inr ha)), errV_pos A (c := 1) (by decide)]
        have e1 : (trimS s.data.toList partSet == []) = false := by rw [HP.out, ha]
        clear ha
        go_enter Tryz.func169, Tryz.ntmps169
        go_wp2_with fail
        refine (trim_calls _ _ _ hs (by decide) (by decide)).mono ?_
        rintro e w1 ⟨rfl, hb1⟩
        have hT1 := Below.cell_some hb1 hT
        rw [show (⟨#[97, 98, 99, 100, 101, 102, 103, 104, 105, 106, 107, 108, 109, 110, 111, 112, 113, 114, 115, 116, 117, 118, 119, 120, 121, 122, 65, 66, 67, 68, 69, 70, 71, 72, 73, 74, 75, 76, 77, 78, 79, 80, 81, 82, 83, 84, 85, 86, 87, 88, 89, 90, 48, 49, 50, 51, 52, 53, 54, 55, 56, 57, 45]⟩ : ByteArray).data.toList = partSet from rfl]
        generalize trimS s.data.toList partSet = t at e1 ⊢
        have e2 : (⟨t.toArray⟩ : ByteArray).toList.isEmpty = false := by rw [toList_mk]; simpa using e1
        have e3 : t.isEmpty = false := by simpa using e1
        clear e1 hT
        go_wp2_with fail
        go_ret
        exact ⟨rfl, hb1⟩
      | true =>
        have e1 : trimS s.data.toList partSet = [] := by
          have := HP.out
          rw [ha] at this
          exact beq_iff_eq.1 this
        have hpe : partErr s.data.toList = if areDigits s.data.toList then (numberOf s.data.toList).2 else 0 := by
          unfold partErr
          rw [if_neg]
          rintro (h | h | h)
          · exact HE.out h
          · rw [← HL.out] at h; exact hl h
          · rw [ha] at h; exact absurd h (by decide)
        rw [hpe]
        clear hpe ha
        generalize hc : (if areDigits s.data.toList then (numberOf s.data.toList).2 else 0) = c
        have HC := Lib.hid hc
        clear hc
        have E1 := Lib.hid e1
        clear e1
        go_enter Tryz.func169, Tryz.ntmps169
        go_wp2_with fail
        refine (trim_calls _ _ _ hs (by decide) (by decide)).mono ?_
        rintro e w1 ⟨rfl, hb1⟩
        rw [show (⟨#[97, 98, 99, 100, 101, 102, 103, 104, 105, 106, 107, 108, 109, 110, 111, 112, 113, 114, 115, 116, 117, 118, 119, 120, 121, 122, 65, 66, 67, 68, 69, 70, 71, 72, 73, 74, 75, 76, 77, 78, 79, 80, 81, 82, 83, 84, 85, 86, 87, 88, 89, 90, 48, 49, 50, 51, 52, 53, 54, 55, 56, 57, 45]⟩ : ByteArray).data.toList = partSet from rfl, E1.out]
        go_wp2_with fail
        refine (digits_calls _ _ hs).mono ?_
        rintro e w2 ⟨rfl, hb2⟩
        cases hd : areDigits s.data.toList with
        | false =>
          obtain rfl : c = 0 := by have := HC.out; rw [hd] at this; exact this.symm
          clear hd
          go_wp2_with fail
          go_ret
          exact ⟨rfl, below_step hb1 hb2⟩
        | true =>
          obtain rfl : c = (numberOf s.data.toList).2 := by have := HC.out; rw [hd] at this; exact this.symm
          clear hd
          go_wp2_with fail
          refine (number_calls ks A _ _ ((hE.below hb1).below hb2) hs).mono ?_
          rintro e w3 ⟨rfl, hb3⟩
          go_wp2_with fail
          go_ret
          exact ⟨rfl, below_step (below_step hb1 hb2) hb3⟩
end Go.Proofs.Pw

namespace Go.Proofs.Pw
open Go.RowKit
open Go.Lib hiding intOf
theorem contains_calls (s sub : ByteArray) (w : World) (hE : EnvM w) (hs : s.size ≤ 4000000000) :
    Calls Tryz.prog 97 #[.string s, .string sub] w fun e w' => e = .returned (.bool (Lib.contains s.data.toList sub.data.toList)) ∧ w = w' := by
  obtain ⟨m, hm⟩ := hE.maxLen
  exact (Tryz.strings_Contains s sub m w (by omega) hm).mono fun e w' ⟨h, h2⟩ => ⟨h, h2.symm⟩
theorem cutPrefix_calls (s p : ByteArray) (w : World) :
    Calls Tryz.prog 144 #[.string s, .string p] w fun e w' => e = .returned (.tuple #[.string ⟨(Lib.trimPrefix s.data.toList p.data.toList).toArray⟩, .bool (Lib.hasPrefix s.data.toList p.data.toList)]) ∧ w = w' :=
  (Tryz.strings_CutPrefix s p w).mono fun _ _ ⟨h, h2⟩ => ⟨h, h2.symm⟩
theorem split_calls (s sep : ByteArray) (w : World) (hE : EnvM w) (hs : s.size ≤ 4000000000) (h1 : 1 ≤ sep.size) :
    Calls Tryz.prog 79 #[.string s, .string sep] w fun e w' => ∃ n, e = .returned (.slice (some ⟨w.heap.size, 0, none⟩) n n) ∧ 1 ≤ n ∧ n ≤ s.size + 1 ∧
      Hid (lstF n (splitL s sep) = split s.data.toList sep.data.toList) ∧ Below w.heap.size w w' ∧ (∀ j, j < n → w'.cell? ⟨w.heap.size, j, none⟩ = some (.string (splitL s sep j))) ∧ w.heap.size < w'.heap.size := by
  obtain ⟨m, hm⟩ := hE.maxLen
  refine (Tryz.strings_Split s sep m w (by omega) hm h1).mono fun e w' ⟨h, h2⟩ => ?_
  refine ⟨_, h, by omega, by have := countB_le sep h1 s.size s (Nat.le_refl _); omega, splitL_lstF s sep h1, h2 ▸ below_alloc _ _, ?_, by rw [h2]; simp⟩
  intro j hj
  have hl := splitB_all sep h1 0 _ s rfl
  rw [h2, World.cell?_alloc_at _ _ _ _ rfl]
  simp only [List.getElem?_toArray, List.getElem?_map, splitL]
  rw [List.getElem?_eq_getElem (by omega)]
  simp [List.getD_eq_getElem?_getD, List.getElem?_eq_getElem (show j < (splitB sep 0 (countB s sep) s).length by omega)]
end Go.Proofs.Pw

namespace Go.Proofs.Pw
open Go.RowKit
open Go.Lib hiding intOf
theorem cut_calls (s sep : ByteArray) (w : World) (hE : EnvM w) (hs : s.size ≤ 4000000000) :
    Calls Tryz.prog 68 #[.string s, .string sep] w fun e w' => e = .returned (.tuple #[.string ⟨(Lib.cut s.data.toList sep.data.toList).1.toArray⟩, .string ⟨(Lib.cut s.data.toList sep.data.toList).2.1.toArray⟩, .bool (Lib.cut s.data.toList sep.data.toList).2.2]) ∧ Below w.heap.size w w' := by
  obtain ⟨m, hm⟩ := hE.maxLen
  refine (Tryz.strings_Cut s sep m w (by omega) hm).mono ?_
  rintro e w' ⟨rfl, n, rfl⟩
  exact ⟨rfl, Below.drewN (Below.refl _ _) _⟩
theorem cut_le (s sep : Str) : (cut s sep).1.length ≤ s.length ∧ (cut s sep).2.1.length ≤ s.length := by
  unfold cut
  split
  · exact ⟨by simp [List.length_take]; omega, by simp⟩
  · exact ⟨Nat.le_refl _, by simp⟩
def StrsAt (w : World) (v : Value) (l : List Str) : Prop :=
  ∃ a n cap L, v = .slice a n cap ∧ l = lstF n L ∧ n ≤ cap ∧ cap ≤ 9223372036854775807 ∧ ∀ j, j < n → ∃ b o, a = some ⟨b, o, none⟩ ∧ w.cell? ⟨b, o + j, none⟩ = some (.string (L j))
theorem StrsAt.below {w w' : World} {v : Value} {l : List Str} (h : StrsAt w v l) (hb : Below w.heap.size w w') : StrsAt w' v l := by
  obtain ⟨a, n, cap, L, h1, h2, h3, h4, h5⟩ := h
  exact ⟨a, n, cap, L, h1, h2, h3, h4, fun j hj => let ⟨b, o, e1, e2⟩ := h5 j hj; ⟨b, o, e1, Below.cell_some hb e2⟩⟩
theorem StrsAt.nil (w : World) : StrsAt w (.slice none 0 0) [] := ⟨none, 0, 0, fun _ => ByteArray.empty, rfl, rfl, Nat.le_refl _, by decide, fun j hj => absurd hj (Nat.not_lt_zero _)⟩
structure Box4 (w : World) (b : Nat) (v0 v1 v2 v3 : Value) : Prop where
  c0 : w.cell? ⟨b, 0, none⟩ = some v0
  c1 : w.cell? ⟨b, 1, none⟩ = some v1
  c2 : w.cell? ⟨b, 2, none⟩ = some v2
  c3 : w.cell? ⟨b, 3, none⟩ = some v3
  fr : ∀ j, w.frozen? ⟨b, j, none⟩ = false
theorem Box4.below {w w' : World} {b : Nat} {v0 v1 v2 v3 : Value} (h : Box4 w b v0 v1 v2 v3) (hb : Below w.heap.size w w') : Box4 w' b v0 v1 v2 v3 :=
  ⟨Below.cell_some hb h.c0, Below.cell_some hb h.c1, Below.cell_some hb h.c2, Below.cell_some hb h.c3, fun j => (hb.frozen (p := ⟨b, j, none⟩) (show b < w.heap.size from lt_of_cell h.c0)).trans (h.fr j)⟩
theorem box4_alloc (w : World) (v0 v1 v2 v3 : Value) (t : TypeId) : Box4 (w.alloc (.cells #[v0, v1, v2, v3] t)) w.heap.size v0 v1 v2 v3 :=
  ⟨by simp, by simp, by simp, by simp, fun j => by simp⟩
set_option maxHeartbeats 1000000 in
theorem verSplit_form (ks : List Nat) (A : Nat → Addr) (s : ByteArray) (w : World) (hE : EnvP ks A w) (hs : s.size ≤ 1000000000) (hf : hasPrefix s.data.toList [118] = false ∨ (hasPrefix s.data.toList [118] = true ∧ (verWords s.data.toList).length ≠ 3)) :
    Calls Tryz.prog 98 #[.string s] w fun e w' => e = .returned (.tuple #[.agg #[.int .i64 0, .int .i64 0, .int .i64 0, .slice none 0 0], errV A 1]) ∧ Below w.heap.size w w' := by
  have ht : (trimPrefix s.data.toList [118]).length ≤ s.size := by rw [size_eq s]; exact trimPrefix_le _ _
  have hc1 := (cut_le (trimPrefix s.data.toList [118]) [45]).1
  have ht4 : (⟨(trimPrefix s.data.toList [118]).toArray⟩ : ByteArray).size ≤ 4000000000 := Nat.le_trans ht (by omega)
  have hc4 : (⟨(cut (trimPrefix s.data.toList [118]) [45]).1.toArray⟩ : ByteArray).size ≤ 4000000000 := Nat.le_trans hc1 (Nat.le_trans ht (by omega))
  have h5 : ∀ n, (Hid (lstF n (splitL ⟨(cut (trimPrefix s.data.toList [118]) [45]).1.toArray⟩ ⟨#[46]⟩) = split (cut (trimPrefix s.data.toList [118]) [45]).1 [46])) → n = (verWords s.data.toList).length := fun n h => by
    have := congrArg List.length h.out
    rw [lstF_length] at this
    exact this
  have hgo : (hasPrefix s.data.toList [118] = false ∨ (hasPrefix s.data.toList [118] = true ∧ (((verWords s.data.toList).length : Nat) : Int) ≠ 3)) := by
    rcases hf with hf | ⟨hf, hl⟩
    · exact .inl hf
    · exact .inr ⟨hf, by omega⟩
  clear hf
  rcases hgo with hf | ⟨hf, hl⟩
  all_goals
    go_enter Tryz.func98, Tryz.ntmps98
    go_wp2_with fail
    have hb0 := below_alloc w (.cells #[.int .i64 0, .int .i64 0, .int .i64 0, .slice none 0 0] 154)
    refine (cutPrefix_calls _ _ _).mono ?_
    rintro e w1 ⟨rfl, hw1⟩
    subst hw1
    rw [show (⟨#[118]⟩ : ByteArray).data.toList = [118] from rfl, hf]
    have hE0 := hE.below hb0
    go_wp2_with fail
    refine (cut_calls _ _ _ hE0.m ht4).mono ?_
    rintro e w2 ⟨rfl, hb1⟩
    have hE1 := hE0.below hb1
    have hb01 := below_step hb0 hb1
    have hz0 := (box4_alloc w (.int .i64 0) (.int .i64 0) (.int .i64 0) (.slice none 0 0) 154).below hb1
    go_wp2_with fail
    refine (split_calls _ ⟨#[46]⟩ _ hE1.m hc4 (by decide)).mono ?_
    rintro e w3 ⟨n, rfl, hn1, hn2, HL, hb2, hc2, hz2⟩
    have hn := h5 n HL
    have hE2 := hE1.below hb2
    have hb02 := below_step hb01 hb2
    have hz2 := hz0.below hb2
    have g1 := hE2.errs.var 1 hE2.has.1
    simp only [errG] at g1
    have hn3 : n ≤ 1000000001 := Nat.le_trans hn2 (Nat.succ_le_succ (Nat.le_trans hc1 (Nat.le_trans ht hs)))
    try rw [← hn, ← beq_eq_false_iff_ne] at hl
    clear hn HL h5 hc2 hb1 hb2 hb01 hE0 hE1 hE2
    obtain ⟨z0, z1, z2, z3, zf⟩ := hz2
    have zf0 := zf 0
    have zf1 := zf 1
    have zf2 := zf 2
    have zf3 := zf 3
    clear zf
    have g0 := hE.errs.var 1 hE.has.1
    simp only [errG] at g0
    have hne : 2 ≠ w.heap.size := Nat.ne_of_lt (lt_of_cell g0)
    clear g0
    have hne' : w.heap.size ≠ 2 := hne.symm
    go_wp2_with fail
    go_region
    go_wp2_with fail
    have hne3 := hne
    refine bodyPost_ret (v := .tuple #[.agg #[.int .i64 0, .int .i64 0, .int .i64 0, .slice none 0 0], errV A 1]) (by simp [results, Tryz.results98, go_sem, *, errV]) rfl ⟨rfl, ?_⟩
    exact ((((hb02.setCell (Nat.le_refl _) _).setCell (Nat.le_refl _) _).setCell (Nat.le_refl _) _).setCell (Nat.le_refl _) _).drew
end Go.Proofs.Pw
