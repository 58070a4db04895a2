/- Ge: walks and plain laws, joined: Query5 Query6. Conditions: at each theorem. -/
import Derived.Test.YtmnojbbcaboagaaGreatDoorGeze
import Derived.Test.YtmnojbbcaboagaaGreatDoorGen

namespace Go.Proofs.Pw
open Go.RowKit Go.Sort
open Go.Lib hiding intOf
theorem likedF_size {l : List En} {p s : Str} {vs : List Str} (h : likedF l p vs false = some s) (hls : ∀ x ∈ vs, x.length ≤ 1000000) : s.length ≤ 1000000 := by
  unfold likedF at h
  split at h
  · cases h
  · rename_i h0
    obtain rfl := Option.some.inj h
    exact hls _ (likedL_sub (lastS_mem h0))
set_option maxHeartbeats 2000000 in
set_option maxRecDepth 100000 in
theorem qNamed_in (ks : List Nat) (A : Nat → Addr) (h5 : 5 ∈ ks) (a : Option Addr) (n cap : Nat) (P V : Nat → ByteArray) (R : Nat → List Md) (K : Nat → List Str) (Bk : Nat → Bool) (Rv Kv : Nat → Value) (p q now : ByteArray) (B : Nat) (v : Value) (l : List Str) (w : World) (hn : n ≤ 1000000) (hnow : now.size ≤ 1000000) (hB0 : B ≤ w.heap.size) (hEB : ∀ W, Below B w W → EnvP ks A W) (hIB : ∀ W, Below B w W → EntsIn W a n cap P V R K Bk Rv Kv) (hF : FreshS B w v l) (hl : l.length ≤ 1000000) (hls : ∀ x ∈ l, x.length ≤ 1000000) :
    Calls Tryz.prog 137 #[.slice a n cap, .string p, .string q, .string now, v] w fun e w' => e = .returned (likedV A (namedF (enF n P V R K Bk) p.data.toList q.data.toList now.data.toList l)) ∧ Below B w w' := by
  have hpa := qPatch_in ks A h5 a n cap P V R K Bk Rv Kv p now B v l w (hEB w (Below.refl _ _)) (hIB w (Below.refl _ _)) hn hnow hB0 hEB hIB hF hl hls
  have hli := qLiked_in ks A h5 a n cap P V R K Bk Rv Kv p v l false w (hEB w (Below.refl _ _)) (hIB w (Below.refl _ _)) hn hF.strs hl hls
  have hN : namedF (enF n P V R K Bk) p.data.toList q.data.toList now.data.toList l = if q.data.toList = wNone then some q.data.toList else if q.data.toList = wPatch then patchF (enF n P V R K Bk) p.data.toList now.data.toList l else (likedF (enF n P V R K Bk) p.data.toList l false).map fun s => if q.data.toList = wUpgrade then verMax s now.data.toList else s := rfl
  have hsz := fun s (h : likedF (enF n P V R K Bk) p.data.toList l false = some s) => likedF_size h hls
  generalize namedF (enF n P V R K Bk) p.data.toList q.data.toList now.data.toList l = X at hN ⊢
  generalize patchF (enF n P V R K Bk) p.data.toList now.data.toList l = PF at hN hpa
  generalize likedF (enF n P V R K Bk) p.data.toList l false = LF at hN hli hsz
  have HM := Lib.hid (fun (s : ByteArray) (hs : s.size ≤ 1000000) (W : World) (hb : Below B w W) => verMax_calls ks A s now W (hEB W hb) (by omega) (by omega))
  have hb1 : Below B w w := Below.refl _ _
  clear hEB hIB hF hl hls
  by_cases e1 : q.data.toList = wNone
  · rw [if_pos e1] at hN
    have HN := Lib.hid hN
    have q1 : (q.toList == [110, 111, 110, 101]) = true := by rw [toList_data, e1]; rfl
    clear e1 hpa hli hN hsz
    go_enter Tryz.func137, Tryz.ntmps137
    go_wp2_with fail
    go_ret2
    rw [HN.out]
    exact ⟨rfl, hb1⟩
  · rw [if_neg e1] at hN
    have q1 : (q.toList == [110, 111, 110, 101]) = false := by rw [toList_data]; exact beq_eq_false_iff_ne.2 e1
    clear e1
    by_cases e2 : q.data.toList = wPatch
    · rw [if_pos e2] at hN
      subst hN
      have q2 : (q.toList == [112, 97, 116, 99, 104]) = true := by rw [toList_data, e2]; rfl
      obtain ⟨EV, hEV⟩ : ∃ x, x = errV A (if X.isNone then 5 else 0) := ⟨_, rfl⟩
      obtain ⟨SV, hSV⟩ : ∃ x : ByteArray, x = ⟨(X.getD []).toArray⟩ := ⟨_, rfl⟩
      have HLV : Hid (likedV A X = .tuple #[.string SV, EV]) := Lib.hid (by rw [likedV_is, hEV, hSV])
      rw [HLV.out] at hpa
      replace hpa := Lib.hid hpa
      clear e2 hli hsz hEV hSV
      go_enter Tryz.func137, Tryz.ntmps137
      go_wp2_with fail
      refine hpa.out.mono ?_
      rintro e w1 ⟨rfl, hb⟩
      go_wp2_with fail
      go_ret2
      rw [HLV.out]
      exact ⟨rfl, hb⟩
    · rw [if_neg e2] at hN
      have q2 : (q.toList == [112, 97, 116, 99, 104]) = false := by rw [toList_data]; exact beq_eq_false_iff_ne.2 e2
      clear e2 hpa
      cases LF with
      | none =>
        have HN := Lib.hid hN
        have hli2 : Calls Tryz.prog 138 #[.slice a n cap, .string p, v, .bool false] w fun e w' => e = .returned (.tuple #[.string ⟨#[]⟩, errV A 5]) ∧ Below w.heap.size w w' := hli
        rw [errV_pos A (c := 5) (by decide)] at hli2
        replace hli2 := Lib.hid hli2
        clear hli hN hsz
        go_enter Tryz.func137, Tryz.ntmps137
        go_wp2_with fail
        refine hli2.out.mono ?_
        rintro e w1 ⟨rfl, hb⟩
        replace hb := hb.mono hB0
        go_wp2_with fail
        go_ret2
        rw [HN.out]
        refine ⟨?_, hb⟩
        show _ = Ending.returned (.tuple #[.string ⟨#[]⟩, errV A 5])
        rw [errV_pos A (c := 5) (by decide)]
        rfl
      | some s =>
        have hss := hsz s rfl
        have hli2 : Calls Tryz.prog 138 #[.slice a n cap, .string p, v, .bool false] w fun e w' => e = .returned (.tuple #[.string ⟨s.toArray⟩, .nilIface]) ∧ Below w.heap.size w w' := hli
        obtain ⟨sb, hsb⟩ : ∃ x : ByteArray, x = ⟨s.toArray⟩ := ⟨_, rfl⟩
        have hsd : sb.data.toList = s := by rw [hsb]
        have hs1 : sb.size ≤ 1000000 := by rw [hsb]; simpa [ByteArray.size] using hss
        rw [← hsb] at hli2
        have hmx := HM.out sb hs1
        by_cases e3 : q.data.toList = wUpgrade
        · have HN : Hid (X = some (verMax s now.data.toList)) := Lib.hid (by rw [hN]; simp [e3])
          have q3 : (q.toList == [117, 112, 103, 114, 97, 100, 101]) = true := by rw [toList_data, e3]; rfl
          have HSD := Lib.hid hsd
          replace hli2 := Lib.hid hli2
          replace hmx := Lib.hid hmx
          clear hli hN hsz hss e3 hsb hs1 hsd
          go_enter Tryz.func137, Tryz.ntmps137
          go_wp2_with fail
          refine hli2.out.mono ?_
          rintro e w1 ⟨rfl, hb⟩
          replace hb := hb.mono hB0
          go_wp2_with fail
          refine (hmx.out w1 hb).mono ?_
          rintro e w2 ⟨rfl, hb2⟩
          replace hb := hb.trans (hb2.mono (Nat.le_trans hB0 hb.size))
          clear hb2 hmx hli2
          go_wp2_with fail
          go_ret2
          rw [HN.out, HSD.out]
          exact ⟨rfl, hb⟩
        · have HN : Hid (X = some s) := Lib.hid (by rw [hN]; simp [e3])
          have q3 : (q.toList == [117, 112, 103, 114, 97, 100, 101]) = false := by rw [toList_data]; exact beq_eq_false_iff_ne.2 e3
          have HSD := Lib.hid hsb
          replace hli2 := Lib.hid hli2
          clear hli hN hsz hss e3 hsb hs1 hsd hmx
          go_enter Tryz.func137, Tryz.ntmps137
          go_wp2_with fail
          refine hli2.out.mono ?_
          rintro e w1 ⟨rfl, hb⟩
          replace hb := hb.mono hB0
          go_wp2_with fail
          go_ret2
          rw [HN.out, HSD.out]
          exact ⟨rfl, hb⟩
end Go.Proofs.Pw

namespace Go.Proofs.Pw
open Go.RowKit Go.Sort
open Go.Lib hiding intOf
end Go.Proofs.Pw
