/- file.line, every line. Conditions: texts of at most 1000000 bytes. -/
import Derived.Test.YtfkimddlgopgbaaGreatDoorFileLine2
namespace Go.Proofs.Pw
open Go.RowKit
open Go.Lib hiding intOf

/-- all texts are of at most c bytes -/
def ShortB (c : Nat) (p : ByteArray) (R X : List (ByteArray × ByteArray)) : Prop := p.size ≤ c ∧ (∀ m ∈ R, m.1.size ≤ c ∧ m.2.size ≤ c) ∧ ∀ m ∈ X, m.1.size ≤ c ∧ m.2.size ≤ c
theorem shortB_snoc {c : Nat} {R : List (ByteArray × ByteArray)} {x y : ByteArray} (h : ∀ m ∈ R, m.1.size ≤ c ∧ m.2.size ≤ c) (hx : x.size ≤ c) (hy : y.size ≤ c) : ∀ m ∈ R ++ [(x, y)], m.1.size ≤ c ∧ m.2.size ≤ c := by
  intro m hm
  rcases List.mem_append.1 hm with h1 | h1
  · exact h m h1
  · rw [List.mem_singleton.1 h1]; exact ⟨hx, hy⟩

theorem line_calls (base b c : Nat) (p : ByteArray) (R X : List (ByteArray × ByteArray)) (rv xv : Value) (s : ByteArray) (i : Nat) (w : World) (hE : EnvM w) (h : FS base b w p R X rv xv) (hx0 : X = [] → xv = .slice none 0 0) (hR : R.length ≤ 100000) (hX : X.length ≤ 100000) (hs : s.size ≤ c) (hc : c ≤ 1000000) (hsh : ShortB c p R X) :
    Calls Tryz.prog 49 #[.pointer (some ⟨b, 0, none⟩), .string s, .int .i64 i] w fun e w' => e = .returned (.bool (lineF (flOf p R X) s.data.toList i).1) ∧ Below base w w' ∧
      ((lineF (flOf p R X) s.data.toList i).1 = true → ∃ p' R' X' rv' xv', flOf p' R' X' = (lineF (flOf p R X) s.data.toList i).2 ∧ FS base b w' p' R' X' rv' xv' ∧ (X' = [] → xv' = .slice none 0 0) ∧ R'.length ≤ R.length + 1 ∧ X'.length ≤ X.length + 1 ∧ ShortB c p' R' X') := by
  have hmem : ∀ x ∈ split s.data.toList [32], x.length ≤ c := fun x hx => by
    have := split_mem_le [32] (by simp) s.data.toList.length s.data.toList (Nat.le_refl _) x hx
    rw [← size_eq] at this
    omega
  by_cases hi : i = 0
  · subst hi
    refine (line_first base b p R X rv xv s w hE h (by omega)).mono ?_
    rintro e w' ⟨rfl, hB, p', hp, hF⟩
    refine ⟨rfl, hB, fun _ => ⟨p', R, X, rv, xv, ?_, hF, hx0, by omega, by omega, ?_, hsh.2⟩⟩
    · unfold flOf lineF
      rw [if_pos rfl, hp]
    · rw [size_eq, hp]
      cases hl : (split s.data.toList [32]).getLast? with
      | none => exact Nat.zero_le _
      | some x => exact hmem x (List.mem_of_getLast? hl)
  · by_cases h3 : (split s.data.toList [32]).length = 3
    · obtain ⟨a, x, y, e3⟩ : ∃ a x y, split s.data.toList [32] = [a, x, y] := by
        match hs : split s.data.toList [32], h3 with
        | [a, x, y], _ => exact ⟨a, x, y, rfl⟩
      have hlf := lineF_three (f := flOf p R X) hi e3
      have hxl : x.length ≤ c := hmem x (by rw [e3]; simp)
      have hyl : y.length ≤ c := hmem y (by rw [e3]; simp)
      by_cases h1 : a = reqW ∧ X = []
      · obtain ⟨rfl, rfl⟩ := h1
        obtain rfl := hx0 rfl
        have hle : (flOf p R []).excl = [] := rfl
        rw [if_pos ⟨rfl, hle⟩] at hlf
        refine (line_req base b p R rv s i w hE h hi hR (by omega) x y e3).mono ?_
        rintro e w' ⟨rfl, hB, x', y', rv', hx', hy', hF⟩
        rw [hlf]
        refine ⟨rfl, hB, fun _ => ⟨p, R ++ [(x', y')], [], rv', .slice none 0 0, ?_, hF, fun _ => rfl, by simp, by simp, hsh.1, ?_, hsh.2.2⟩⟩
        · unfold flOf
          rw [mdTs_snoc, hx', hy']
        · exact shortB_snoc hsh.2.1 (by rw [size_eq, hx']; exact hxl) (by rw [size_eq, hy']; exact hyl)
      · have hle : ¬ (a = reqW ∧ (flOf p R X).excl = []) := fun hh => h1 ⟨hh.1, by
          have := hh.2
          exact List.map_eq_nil_iff.1 this⟩
        rw [if_neg hle] at hlf
        by_cases h2 : a = excW
        · subst h2
          rw [if_pos rfl] at hlf
          refine (line_exc base b p R X rv xv s i w hE h hi hX (by omega) x y e3).mono ?_
          rintro e w' ⟨rfl, hB, x', y', xv', hx', hy', hF⟩
          rw [hlf]
          refine ⟨rfl, hB, fun _ => ⟨p, R, X ++ [(x', y')], rv, xv', ?_, hF, fun hh => by simp at hh, by omega, by simp, hsh.1, hsh.2.1, ?_⟩⟩
          · unfold flOf
            rw [mdTs_snoc, hx', hy']
          · exact shortB_snoc hsh.2.2 (by rw [size_eq, hx']; exact hxl) (by rw [size_eq, hy']; exact hyl)
        · rw [if_neg h2] at hlf
          refine (line_none base b p R X rv xv s i w hE h hi (by omega) a x y e3 (by
            by_cases ha : a = reqW
            · exact .inr (fun hX => h1 ⟨ha, hX⟩)
            · exact .inl ha) h2).mono ?_
          rintro e w' ⟨rfl, hB⟩
          rw [hlf]
          exact ⟨rfl, hB, fun hh => by cases hh⟩
    · have hlf := lineF_not (f := flOf p R X) hi h3
      refine (line_count base b p R X rv xv s i w hE h hi (by omega) h3).mono ?_
      rintro e w' ⟨rfl, hB⟩
      rw [hlf]
      exact ⟨rfl, hB, fun hh => by cases hh⟩
end Go.Proofs.Pw
