/- filed: the closed test of package file. -/
import Derived.Test.YtfkimddlgopgbaaGreatDoorFileRead
import Derived.Test.YtfkimddlgopgbaaGreatDoorFileText
namespace Go.Proofs.Pw
open Go.RowKit
open Go.Lib hiding intOf

def fl0 : Fl := ⟨[109, 97, 105, 110], [([97], [118, 49, 46, 48, 46, 48])], [([98], [118, 48, 46, 49, 46, 48])]⟩
theorem fl0_err : (fileErr fl0).1 = 0 := by decide +kernel
def fl0T : ByteArray := ⟨#[109, 111, 100, 117, 108, 101, 32, 109, 97, 105, 110, 10, 114, 101, 113, 117, 105, 114, 101, 32, 97, 32, 118, 49, 46, 48, 46, 48, 10, 101, 120, 99, 108, 117, 100, 101, 32, 98, 32, 118, 48, 46, 49, 46, 48, 10]⟩
theorem fl0_txt : fileTxt fl0 = fl0T.data.toList := by decide +kernel
theorem fl0_read : fileRead fl0T.data.toList = (fl0, 0, -1) := by
  rw [← fl0_txt]
  exact file_back fl0_err (by rw [fl0_txt]; decide +kernel)
theorem fl0_text : fileText fl0 = fl0T.data.toList := by
  unfold fileText
  rw [if_pos fl0_err, fl0_txt]
/-- a slice of so many modules -/
theorem modsAt_form {w : World} {v : Value} {l : List Md} (h : ModsAt w v l) : ∃ a c, v = .slice a l.length c := by
  obtain ⟨a, n, c, P, V, rfl, rfl, _⟩ := h
  exact ⟨a, c, by rw [mdF_length]⟩
theorem bytes_toArray (b : ByteArray) : (⟨b.data.toList.toArray⟩ : ByteArray) = b := by
  obtain ⟨⟨l⟩⟩ := b
  rfl

set_option maxRecDepth 100000 in
theorem filed_calls (ks : List Nat) (A : Nat → Addr) (hks : FileKs ks) (w : World) (hE : EnvP ks A w) :
    Calls Tryz.prog 8 #[] w fun e w' => e = .returned (.bool true) ∧ Below w.heap.size w w' := by
  have hrd := fileRead_calls ks A hks fl0T w hE (by decide)
  unfold ReadOut at hrd
  rw [fl0_read] at hrd
  have htx := fun (p : ByteArray) (rv xv : Value) (W : World) (hW : EnvP ks A W) (hp : p.data.toList = fl0.path) (h1 : ModsAt W rv fl0.reqs) (h2 : ModsAt W xv fl0.excl) =>
    fileText_calls ks A hks p rv xv fl0.reqs fl0.excl W hW h1 h2 (by rw [size_eq, hp]; decide) ⟨by decide, by decide⟩ ⟨by decide, by decide⟩
  have htx2 := fun (p : ByteArray) (rv xv : Value) (W : World) (hW : EnvP ks A W) (hp : p.data.toList = fl0.path) (h1 : ModsAt W rv fl0.reqs) (h2 : ModsAt W xv fl0.excl) => by
    have h := htx p rv xv W hW hp h1 h2
    rw [hp, show (⟨fl0.path, fl0.reqs, fl0.excl⟩ : Fl) = fl0 from rfl, fl0_text, bytes_toArray] at h
    exact h
  unfold fl0T at hrd htx2
  replace hrd := Lib.hid hrd
  replace htx2 := Lib.hid htx2
  clear htx
  go_enter Tryz.func8, Tryz.ntmps8
  go_wp2_with fail
  refine hrd.out.mono ?_
  rintro e w1 ⟨⟨p, r, x, ev, rfl, hp, hr, hx, hf⟩, hb⟩
  obtain ⟨a1, c1, rfl⟩ := modsAt_form hr
  obtain ⟨a2, c2, rfl⟩ := modsAt_form hx
  have hev : ev = .nilIface := by
    rcases hf with ⟨_, _, h⟩ | ⟨h, _⟩ | ⟨h, _⟩
    · exact h
    · exact absurd rfl h
    · exact absurd rfl h
  subst hev
  have hb1 := below_alloc w1 (.cells #[.string p, .slice a1 1 c1, .slice a2 1 c2] 24)
  have hz := box3_alloc w1 (.string p) (.slice a1 1 c1) (.slice a2 1 c2) 24
  have hB := below_step hb hb1
  replace hr := hr.below hb1
  replace hx := hx.below hb1
  replace hE := hE.below hB
  have ht := htx2.out p _ _ _ hE hp hr hx
  simp only [show fl0.reqs.length = 1 from rfl, show fl0.excl.length = 1 from rfl] at ht ⊢
  obtain ⟨z0, z1, z2⟩ := hz
  replace ht := Lib.hid ht
  replace hE := Lib.hid hE
  clear hf hr hx hp hrd htx2
  go_wp2_with fail
  refine ht.out.mono ?_
  rintro e w2 ⟨rfl, hb2⟩
  go_wp2_with fail
  go_ret
  exact ⟨rfl, below_step hB hb2⟩
end Go.Proofs.Pw
