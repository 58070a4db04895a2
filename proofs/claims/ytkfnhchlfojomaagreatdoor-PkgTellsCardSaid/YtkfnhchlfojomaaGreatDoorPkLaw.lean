/- PkgTells: for every input the law returns true and turns nothing that was there; conditions: none beyond the row's own (the listed variables as the card ties them). -/
import Derived.Test.YtkfnhchlfojomaaGreatDoorRows
import Derived.Test.YtkfnhchlfojomaaGreatDoorTie
import Derived.Test.YtkfnhchlfojomaaGreatDoorCards
import Derived.Test.YtkfnhchlfojomaaGreatDoorPfa
import Derived.Test.YtkfnhchlfojomaaGreatDoorPfb
import Derived.Test.YtkfnhchlfojomaaGreatDoorPfc
import Derived.Test.YtkfnhchlfojomaaGreatDoorPfd
import Derived.Test.YtkfnhchlfojomaaGreatDoorPfe
import Derived.Test.YtkfnhchlfojomaaGreatDoorPff
import Derived.Test.YtkfnhchlfojomaaGreatDoorPfg
import Derived.Test.YtkfnhchlfojomaaGreatDoorPfh
import Derived.Test.YtkfnhchlfojomaaGreatDoorPfi
import Derived.Test.YtkfnhchlfojomaaGreatDoorPfj
import Derived.Test.YtkfnhchlfojomaaGreatDoorPfk
import Derived.Test.YtkfnhchlfojomaaGreatDoorPfl
import Derived.Test.YtkfnhchlfojomaaGreatDoorPfm
import Derived.Test.YtkfnhchlfojomaaGreatDoorPfn
import Derived.Test.YtkfnhchlfojomaaGreatDoorPfo
import Derived.Test.YtkfnhchlfojomaaGreatDoorPfp
import Derived.Test.YtkfnhchlfojomaaGreatDoorPfq
import Derived.Test.YtkfnhchlfojomaaGreatDoorPfr
import Derived.Test.YtkfnhchlfojomaaGreatDoorPfs
import Derived.Test.YtkfnhchlfojomaaGreatDoorPft
import Derived.Test.YtkfnhchlfojomaaGreatDoorPfu
import Derived.Test.YtkfnhchlfojomaaGreatDoorPfv
import Derived.Test.YtkfnhchlfojomaaGreatDoorPfw
import Derived.Test.YtkfnhchlfojomaaGreatDoorPfx
import Derived.Test.YtkfnhchlfojomaaGreatDoorPfy
import Derived.Test.YtkfnhchlfojomaaGreatDoorPfz
import Derived.Test.YtkfnhchlfojomaaGreatDoorPfza
import Derived.Test.YtkfnhchlfojomaaGreatDoorPfzb
import Derived.Test.YtkfnhchlfojomaaGreatDoorPfzc
import Derived.Test.YtkfnhchlfojomaaGreatDoorPfze
import Derived.Test.YtkfnhchlfojomaaGreatDoorPka
import Derived.Test.YtkfnhchlfojomaaGreatDoorPkb
import Derived.Test.YtkfnhchlfojomaaGreatDoorPkc
import Derived.Test.YtkfnhchlfojomaaGreatDoorPkd
import Derived.Test.YtkfnhchlfojomaaGreatDoorPke
import Derived.Test.YtkfnhchlfojomaaGreatDoorPkf
import Derived.Test.YtkfnhchlfojomaaGreatDoorPkg
import Derived.Test.YtkfnhchlfojomaaGreatDoorPkh
import Derived.Test.YtkfnhchlfojomaaGreatDoorPki
import Derived.Test.YtkfnhchlfojomaaGreatDoorPkj
import Derived.Test.YtkfnhchlfojomaaGreatDoorPkk
import Derived.Test.YtkfnhchlfojomaaGreatDoorPkl
namespace Go.Proofs.YtkfnhchlfojomaaGreatDoor.lawPkgTells
open Go.ChangeShapes Go.WideShapes Go.ChangeAt Go.RowKit Go.Proofs.Pw
open Go.ChangeMaps (open_string shut_string)

theorem own : ownKnob Tryz.prog.godebug = none := by kernel_rfl
def nm : Nat → String
  | 1 => "pewholder/api.ErrText" | 2 => "pewholder/api.ErrBound" | 3 => "pewholder/api.ErrShape" | 4 => "pewholder/api.ErrMajor" | 5 => "pewholder/api.ErrNone"
  | 6 => "pewholder/api.ErrExist" | 7 => "pewholder/api.ErrFull" | 8 => "pewholder/api.ErrOrder" | 9 => "pewholder/api.ErrClash" | _ => "pewholder/api.ErrSum"
def tx : Nat → List UInt8
  | 1 => [112, 101, 119, 104, 111, 108, 100, 101, 114, 58, 32, 116, 101, 120, 116]
  | 2 => [112, 101, 119, 104, 111, 108, 100, 101, 114, 58, 32, 98, 111, 117, 110, 100]
  | 3 => [112, 101, 119, 104, 111, 108, 100, 101, 114, 58, 32, 115, 104, 97, 112, 101]
  | 4 => [112, 101, 119, 104, 111, 108, 100, 101, 114, 58, 32, 109, 97, 106, 111, 114]
  | 5 => [112, 101, 119, 104, 111, 108, 100, 101, 114, 58, 32, 110, 111, 110, 101]
  | 6 => [112, 101, 119, 104, 111, 108, 100, 101, 114, 58, 32, 101, 120, 105, 115, 116]
  | 7 => [112, 101, 119, 104, 111, 108, 100, 101, 114, 58, 32, 102, 117, 108, 108]
  | 8 => [112, 101, 119, 104, 111, 108, 100, 101, 114, 58, 32, 111, 114, 100, 101, 114]
  | 9 => [112, 101, 119, 104, 111, 108, 100, 101, 114, 58, 32, 99, 108, 97, 115, 104]
  | _ => [112, 101, 119, 104, 111, 108, 100, 101, 114, 58, 32, 115, 117, 109]


/-- the list without the handle -/
abbrev laidP : List (String × DataW Unit) := Rows.pkgTellsRow.laid.filter fun x => x.2.handleName?.isNone

theorem envC {W : World} (h : laidMetH Tryz.prog Rows.pkgTellsRow.laid W) : EnvC (errA W) W := by
  have h' : laidMet Tryz.prog laidP W ∧ handlesMet Tryz.prog (Rows.pkgTellsRow.laid.filter fun x => x.2.handleName?.isSome) W := h
  refine ⟨envE_of h'.1 allErrs nm tx ?_ ?_ ?_ ?_, handle_of h'.2 (List.mem_of_getElem? (i := 0) (by kernel_rfl))⟩
  · intro k hk
    simp only [allErrs, List.mem_cons, List.mem_nil_iff, or_false] at hk
    rcases hk with rfl | rfl | rfl | rfl | rfl | rfl | rfl | rfl | rfl | rfl
    · exact List.mem_of_getElem? (i := 4) (by kernel_rfl)
    · exact List.mem_of_getElem? (i := 5) (by kernel_rfl)
    · exact List.mem_of_getElem? (i := 6) (by kernel_rfl)
    · exact List.mem_of_getElem? (i := 7) (by kernel_rfl)
    · exact List.mem_of_getElem? (i := 8) (by kernel_rfl)
    · exact List.mem_of_getElem? (i := 9) (by kernel_rfl)
    · exact List.mem_of_getElem? (i := 10) (by kernel_rfl)
    · exact List.mem_of_getElem? (i := 11) (by kernel_rfl)
    · exact List.mem_of_getElem? (i := 12) (by kernel_rfl)
    · exact List.mem_of_getElem? (i := 13) (by kernel_rfl)
  · intro k hk
    simp only [allErrs, List.mem_cons, List.mem_nil_iff, or_false] at hk
    rcases hk with rfl | rfl | rfl | rfl | rfl | rfl | rfl | rfl | rfl | rfl <;> kernel_rfl
  · intro k hk
    simp only [allErrs, List.mem_cons, List.mem_nil_iff, or_false] at hk
    rcases hk with rfl | rfl | rfl | rfl | rfl | rfl | rfl | rfl | rfl | rfl <;> kernel_rfl
  · intro j hj k hk
    simp only [allErrs, List.mem_cons, List.mem_nil_iff, or_false] at hj hk
    rcases hj with rfl | rfl | rfl | rfl | rfl | rfl | rfl | rfl | rfl | rfl <;> rcases hk with rfl | rfl | rfl | rfl | rfl | rfl | rfl | rfl | rfl | rfl <;> decide


theorem envP {W : World} (h : laidMetH Tryz.prog Rows.pkgTellsRow.laid W) (hsh : W.ShapedOpen Tryz.prog) : EnvP allErrs (errA W) W := by
  have h' : laidMet Tryz.prog laidP W ∧ handlesMet Tryz.prog (Rows.pkgTellsRow.laid.filter fun x => x.2.handleName?.isSome) W := h
  have hlm := h'.1
  exact envP_of hlm hsh allErrs (by decide)
    (by
      intro k hk
      simp only [allErrs, List.mem_cons, List.mem_nil_iff, or_false] at hk
      rcases hk with rfl | rfl | rfl | rfl | rfl | rfl | rfl | rfl | rfl | rfl
      · exact List.mem_of_getElem? (i := 4) (by kernel_rfl)
      · exact List.mem_of_getElem? (i := 5) (by kernel_rfl)
      · exact List.mem_of_getElem? (i := 6) (by kernel_rfl)
      · exact List.mem_of_getElem? (i := 7) (by kernel_rfl)
      · exact List.mem_of_getElem? (i := 8) (by kernel_rfl)
      · exact List.mem_of_getElem? (i := 9) (by kernel_rfl)
      · exact List.mem_of_getElem? (i := 10) (by kernel_rfl)
      · exact List.mem_of_getElem? (i := 11) (by kernel_rfl)
      · exact List.mem_of_getElem? (i := 12) (by kernel_rfl)
      · exact List.mem_of_getElem? (i := 13) (by kernel_rfl))
    (by
      intro k hk
      simp only [allErrs, List.mem_cons, List.mem_nil_iff, or_false] at hk
      rcases hk with rfl | rfl | rfl | rfl | rfl | rfl | rfl | rfl | rfl | rfl <;> kernel_rfl)
    (by
      intro k hk
      simp only [allErrs, List.mem_cons, List.mem_nil_iff, or_false] at hk
      rcases hk with rfl | rfl | rfl | rfl | rfl | rfl | rfl | rfl | rfl | rfl <;> kernel_rfl)
    (by
      intro j hj k hk
      simp only [allErrs, List.mem_cons, List.mem_nil_iff, or_false] at hj hk
      rcases hj with rfl | rfl | rfl | rfl | rfl | rfl | rfl | rfl | rfl | rfl <;> rcases hk with rfl | rfl | rfl | rfl | rfl | rfl | rfl | rfl | rfl | rfl <;> decide)
    (List.mem_of_getElem? (i := 14) (by kernel_rfl)) (List.mem_of_getElem? (i := 2) (by kernel_rfl))

/-- a world in which all that is listed is laid: the errors, then errors.errorType's handle. -/
noncomputable def witnessWorld (os : Os) : World :=
  let w0 := World.laidAll Tryz.prog os laidP
  { w0 with heap := w0.heap.modify 10 fun
      | .cells _ t frozen => .cells #[.iface 252 (.agg #[.pointer (some ⟨19, 41, none⟩)])] t frozen
      | o => o }
theorem witness_met (os : Os) (args : Array Value) : laidMetH Tryz.prog Rows.pkgTellsRow.laid ((witnessWorld os).forCall (fun _ _ => 0) ⟨#[], args, []⟩).memory :=
  laidMetH_of_parts (laidMet_of_run' 8 (by kernel_rfl) (by kernel_rfl)) (by kernel_rfl)


set_option maxRecDepth 100000 in
theorem lifted (os : Os) (started : os.Started) (H : Type) (enc : TypeId × Value → H) :
    ReturnsInHanded {} Tryz.checked os 9 .any (fun w args => (Rows.pkgTellsSpec.pre enc Tryz.prog Tryz.f9 [] false w args ∧ laidMetH Tryz.prog Rows.pkgTellsRow.laid w) ∧ sizedMet enc Tryz.prog Tryz.f9 (OpenSpec.ofChange Rows.pkgTellsSpec) false w args)
      (Rows.pkgTellsSpec.post enc Tryz.prog Tryz.f9 false true false false) := by
  refine law_lifted (C := Tryz.checked) (tb := 4) own started (by kernel_rfl) Tryz.func9 Tryz.factLaid (by kernel_rfl) (by kernel_rfl) Tryz.underlying4 rfl
    (ChangeSpec.witness_shaped (enc := enc) (C := Tryz.checked) (os := os) (X := fun w _ => laidMetH Tryz.prog Rows.pkgTellsRow.laid w) false (witnessWorld os) #[.slice none 0 0, .slice none 0 0, .string ⟨#[]⟩] 8 (rfl)
      (World.shaped_of_RefB (by kernel_rfl) (by kernel_rfl)) (by kernel_rfl) (by kernel_rfl) (by kernel_rfl)
      (witness_met os _)) ?_
  intro W base args ds gs p q hval0 hA0 hV hlt _ hL hsh
  have hval : ∀ (j : Nat) t v, Tryz.f9.params[j]? = some t → args[j]? = some v → Value.okWide Tryz.prog W .any base t v := hval0
  have hA : DataW.TrodAll enc Tryz.prog W 0 (fun _ => true) true Tryz.f9.params.toList args.toList ds p := hA0
  rw [Tryz.params9] at hA hval
  obtain ⟨v0, vs0, d0, ds0, p0, q0, hargs, rfl, rfl, h0, r0⟩ := trodAll_cons hA
  obtain ⟨v1, vs1, d1, ds1, p1, q1, rfl, rfl, rfl, h1, r1⟩ := trodAll_cons r0
  obtain ⟨v2, vs2, d2, ds2, p2, q2, rfl, rfl, rfl, h2, r2⟩ := trodAll_cons r1
  obtain ⟨rfl, rfl, rfl⟩ := trodAll_nil r2
  obtain ⟨l⟩ := args
  obtain rfl : l = [v0, v1, v2] := hargs
  obtain ⟨ll, hIl⟩ := entsOpen (hval 0 22 v0 rfl rfl) h0
  obtain ⟨la, hMa⟩ := modsOpen (hval 1 23 v1 rfl rfl) h1
  obtain ⟨p, rfl, _, _, _⟩ := open_string Tryz.underlying9 (hval 2 9 v2 rfl rfl) h2
  obtain ⟨rfl, rfl⟩ := trodVars_none hV

  exact ⟨rfl, pkgTells_calls allErrs (errA W) (by unfold IdxKs; decide) v0 v1 ll la p W (envP hL hsh) (envC hL) hIl hMa⟩

theorem jInPlace : (Rows.pkgTellsRow.inPlace == Tryz.prog.inPlace 9) = true := by kernel_rfl
theorem jUnfollowed : (Rows.pkgTellsRow.unfollowed == Tryz.prog.unfollowed 9) = true := by kernel_rfl
theorem jRecurses : (Rows.pkgTellsRow.recurses == Tryz.prog.recurses 9) = true := by kernel_rfl
theorem jNamed : (Rows.pkgTellsRow.named == Tryz.prog.varsNamed 9) = true := by kernel_rfl
theorem closed : joinedFacts Tryz.prog 9 Tryz.f9 Rows.pkgTellsSpec Rows.pkgTellsRow = true := by
  unfold joinedFacts
  rw [jInPlace, jUnfollowed, jRecurses, jNamed, Tryz.factLaid, Tryz.factMaps]
  kernel_rfl
theorem inst : Tryz.f9.isInstance Tryz.prog Rows.pkgTellsRow.origin Rows.pkgTellsRow.targs := of_decide_eq_true (by kernel_rfl)
theorem wrapped : Tryz.f9.isWrapper Tryz.prog Rows.pkgTellsRow.wrapper Rows.pkgTellsRow.mainSum := by unfold Func.isWrapper; first | (rw [if_pos (by decide +kernel)]; kernel_rfl) | (rw [if_neg (by decide +kernel)]; exact ⟨rfl, rfl⟩)
theorem said : Rows.PkgTellsSaid :=
  OpenClaim.holds_of_wide 9 Tryz.f9 rfl rfl rfl rfl rfl rfl rfl ⟨rfl, rfl, rfl, rfl, rfl⟩ rfl rfl rfl rfl rfl (by kernel_rfl) Tryz.func9 closed
    inst wrapped
    (fun os started H enc _ => lifted os started H enc)
#print axioms said

theorem jWf : Rows.pkgTellsRow.wfByText (OpenSpec.ofChange Rows.pkgTellsSpec) = true := by kernel_rfl
theorem jMain : Tryz.prog.mainIs = some (Rows.pkgTellsCard.stood.harness.1, Rows.pkgTellsCard.stood.harness.2.toList) := by kernel_rfl
theorem jFunc : Tryz.prog.funcNamed Rows.pkgTellsRow.func = some 9 := by kernel_rfl
theorem jLooks : Rows.pkgTellsCard.stood.looks = Tryz.prog.looks [] := by kernel_rfl
theorem jGoes : false = Rows.pkgTellsRow.goesBy Tryz.prog := by kernel_rfl
theorem jStand : (([22, 23, 9] : List TypeId).all fun u => !Tryz.prog.wantsStandIn u) = true := by kernel_rfl
theorem card : Rows.PkgTellsCardSaid :=
  Claim7.holds_tied_plain_at .later [] [.data, .data, .data, .data, .handle, .sentinel, .sentinel, .sentinel, .sentinel, .sentinel, .sentinel, .sentinel, .sentinel, .sentinel, .sentinel, .sentinel, .sentinel, .pinned] true Rows.pkgTellsCard.stood.harness Rows.pkgTellsCard.stood.looks said (fun _ h => by cases h) jWf (fun _ h => by cases h) pkgTells_row_tie rfl ⟨rfl, rfl⟩ jMain rfl
    (fun f fn hf hfn => by
      obtain rfl : f = 9 := Option.some.inj (jFunc.symm.trans hf) |>.symm
      obtain rfl : fn = Tryz.f9 := (Option.some.inj (Tryz.func9.symm.trans hfn)).symm
      exact ⟨jLooks, fun j t ht => by
        rw [Tryz.params9] at ht
        have hm : t ∈ ([22, 23, 9] : List TypeId) := by simpa using Array.mem_of_getElem? ht
        exact (show Tryz.prog.wantsStandIn t = false by simpa using List.all_eq_true.1 jStand t hm)⟩)
    jGoes
#print axioms card
end Go.Proofs.YtkfnhchlfojomaaGreatDoor.lawPkgTells
