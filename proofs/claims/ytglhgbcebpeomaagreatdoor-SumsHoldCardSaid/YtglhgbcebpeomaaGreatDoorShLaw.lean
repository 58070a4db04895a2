/- SumsHold: for every input the law returns true and turns nothing that was there; conditions: none beyond the row's own (the listed variables as the card ties them). -/
import Derived.Test.YtglhgbcebpeomaaGreatDoorRows
import Derived.Test.YtglhgbcebpeomaaGreatDoorTie
import Derived.Test.YtglhgbcebpeomaaGreatDoorCards
import Derived.Test.YtglhgbcebpeomaaGreatDoorSta
import Derived.Test.YtglhgbcebpeomaaGreatDoorStb
import Derived.Test.YtglhgbcebpeomaaGreatDoorStc
import Derived.Test.YtglhgbcebpeomaaGreatDoorStd
import Derived.Test.YtglhgbcebpeomaaGreatDoorSte
import Derived.Test.YtglhgbcebpeomaaGreatDoorStf
import Derived.Test.YtglhgbcebpeomaaGreatDoorStg
import Derived.Test.YtglhgbcebpeomaaGreatDoorSth
import Derived.Test.YtglhgbcebpeomaaGreatDoorSti
import Derived.Test.YtglhgbcebpeomaaGreatDoorStj
import Derived.Test.YtglhgbcebpeomaaGreatDoorStk
import Derived.Test.YtglhgbcebpeomaaGreatDoorStl
import Derived.Test.YtglhgbcebpeomaaGreatDoorStm
import Derived.Test.YtglhgbcebpeomaaGreatDoorStn
import Derived.Test.YtglhgbcebpeomaaGreatDoorSto
import Derived.Test.YtglhgbcebpeomaaGreatDoorStp
import Derived.Test.YtglhgbcebpeomaaGreatDoorStq
import Derived.Test.YtglhgbcebpeomaaGreatDoorStr
import Derived.Test.YtglhgbcebpeomaaGreatDoorSts
import Derived.Test.YtglhgbcebpeomaaGreatDoorStt
import Derived.Test.YtglhgbcebpeomaaGreatDoorStu
import Derived.Test.YtglhgbcebpeomaaGreatDoorStv
import Derived.Test.YtglhgbcebpeomaaGreatDoorStx
import Derived.Test.YtglhgbcebpeomaaGreatDoorSty
import Derived.Test.YtglhgbcebpeomaaGreatDoorStz
import Derived.Test.YtglhgbcebpeomaaGreatDoorStza
import Derived.Test.YtglhgbcebpeomaaGreatDoorStzb
import Derived.Test.YtglhgbcebpeomaaGreatDoorStzd
import Derived.Test.YtglhgbcebpeomaaGreatDoorSha
import Derived.Test.YtglhgbcebpeomaaGreatDoorShb
import Derived.Test.YtglhgbcebpeomaaGreatDoorShc
import Derived.Test.YtglhgbcebpeomaaGreatDoorShd
import Derived.Test.YtglhgbcebpeomaaGreatDoorShe
import Derived.Test.YtglhgbcebpeomaaGreatDoorShf
namespace Go.Proofs.YtglhgbcebpeomaaGreatDoor.lawSumsHold
open Go.ChangeShapes Go.WideShapes Go.ChangeAt Go.RowKit Go.Proofs.Pw
open Go.ChangeMaps (open_string shut_string)

theorem own : ownKnob Tryz.prog.godebug = none := by kernel_rfl
def nm : Nat → String
  | 1 => "pewholder/api.ErrText" | 2 => "pewholder/api.ErrBound" | 3 => "pewholder/api.ErrShape" | 4 => "pewholder/api.ErrMajor" | 5 => "pewholder/api.ErrNone"
  | 6 => "pewholder/api.ErrExist" | 7 => "pewholder/api.ErrFull" | 8 => "pewholder/api.ErrOrder" | 9 => "pewholder/api.ErrClash" | _ => "pewholder/api.ErrSum"
def tx : Nat → List UInt8
  | 1 => [112, 101, 119, 104, 111, 108, 100, 101, 114, 58, 32, 116, 101, 120, 116]
  | 2 => [112, 101, 119, 104, 111, 108, 100, 101, 114, 58, 32, 98, 111, 117, 110, 100]
  | 3 => [112, 101, 119, 104, 111, 108, 100, 101, 114, 58, 32, 115, 104, 97, 112, 101]
  | 4 => [112, 101, 119, 104, 111, 108, 100, 101, 114, 58, 32, 109, 97, 106, 111, 114]
  | 5 => [112, 101, 119, 104, 111, 108, 100, 101, 114, 58, 32, 110, 111, 110, 101]
  | 6 => [112, 101, 119, 104, 111, 108, 100, 101, 114, 58, 32, 101, 120, 105, 115, 116]
  | 7 => [112, 101, 119, 104, 111, 108, 100, 101, 114, 58, 32, 102, 117, 108, 108]
  | 8 => [112, 101, 119, 104, 111, 108, 100, 101, 114, 58, 32, 111, 114, 100, 101, 114]
  | 9 => [112, 101, 119, 104, 111, 108, 100, 101, 114, 58, 32, 99, 108, 97, 115, 104]
  | _ => [112, 101, 119, 104, 111, 108, 100, 101, 114, 58, 32, 115, 117, 109]


/-- the list without the handle -/
abbrev laidP : List (String × DataW Unit) := Rows.sumsHoldRow.laid.filter fun x => x.2.handleName?.isNone

theorem envC {W : World} (h : laidMetH Tryz.prog Rows.sumsHoldRow.laid W) : EnvC (errA W) W := by
  have h' : laidMet Tryz.prog laidP W ∧ handlesMet Tryz.prog (Rows.sumsHoldRow.laid.filter fun x => x.2.handleName?.isSome) W := h
  refine ⟨envE_of h'.1 allErrs nm tx ?_ ?_ ?_ ?_, handle_of h'.2 (List.mem_of_getElem? (i := 0) (by kernel_rfl))⟩
  · intro k hk
    simp only [allErrs, List.mem_cons, List.mem_nil_iff, or_false] at hk
    rcases hk with rfl | rfl | rfl | rfl | rfl | rfl | rfl | rfl | rfl | rfl
    · exact List.mem_of_getElem? (i := 4) (by kernel_rfl)
    · exact List.mem_of_getElem? (i := 5) (by kernel_rfl)
    · exact List.mem_of_getElem? (i := 6) (by kernel_rfl)
    · exact List.mem_of_getElem? (i := 7) (by kernel_rfl)
    · exact List.mem_of_getElem? (i := 8) (by kernel_rfl)
    · exact List.mem_of_getElem? (i := 9) (by kernel_rfl)
    · exact List.mem_of_getElem? (i := 10) (by kernel_rfl)
    · exact List.mem_of_getElem? (i := 11) (by kernel_rfl)
    · exact List.mem_of_getElem? (i := 12) (by kernel_rfl)
    · exact List.mem_of_getElem? (i := 13) (by kernel_rfl)
  · intro k hk
    simp only [allErrs, List.mem_cons, List.mem_nil_iff, or_false] at hk
    rcases hk with rfl | rfl | rfl | rfl | rfl | rfl | rfl | rfl | rfl | rfl <;> kernel_rfl
  · intro k hk
    simp only [allErrs, List.mem_cons, List.mem_nil_iff, or_false] at hk
    rcases hk with rfl | rfl | rfl | rfl | rfl | rfl | rfl | rfl | rfl | rfl <;> kernel_rfl
  · intro j hj k hk
    simp only [allErrs, List.mem_cons, List.mem_nil_iff, or_false] at hj hk
    rcases hj with rfl | rfl | rfl | rfl | rfl | rfl | rfl | rfl | rfl | rfl <;> rcases hk with rfl | rfl | rfl | rfl | rfl | rfl | rfl | rfl | rfl | rfl <;> decide


theorem envP {W : World} (h : laidMetH Tryz.prog Rows.sumsHoldRow.laid W) (hsh : W.ShapedOpen Tryz.prog) : EnvP allErrs (errA W) W := by
  have h' : laidMet Tryz.prog laidP W ∧ handlesMet Tryz.prog (Rows.sumsHoldRow.laid.filter fun x => x.2.handleName?.isSome) W := h
  have hlm := h'.1
  exact envP_of hlm hsh allErrs (by decide)
    (by
      intro k hk
      simp only [allErrs, List.mem_cons, List.mem_nil_iff, or_false] at hk
      rcases hk with rfl | rfl | rfl | rfl | rfl | rfl | rfl | rfl | rfl | rfl
      · exact List.mem_of_getElem? (i := 4) (by kernel_rfl)
      · exact List.mem_of_getElem? (i := 5) (by kernel_rfl)
      · exact List.mem_of_getElem? (i := 6) (by kernel_rfl)
      · exact List.mem_of_getElem? (i := 7) (by kernel_rfl)
      · exact List.mem_of_getElem? (i := 8) (by kernel_rfl)
      · exact List.mem_of_getElem? (i := 9) (by kernel_rfl)
      · exact List.mem_of_getElem? (i := 10) (by kernel_rfl)
      · exact List.mem_of_getElem? (i := 11) (by kernel_rfl)
      · exact List.mem_of_getElem? (i := 12) (by kernel_rfl)
      · exact List.mem_of_getElem? (i := 13) (by kernel_rfl))
    (by
      intro k hk
      simp only [allErrs, List.mem_cons, List.mem_nil_iff, or_false] at hk
      rcases hk with rfl | rfl | rfl | rfl | rfl | rfl | rfl | rfl | rfl | rfl <;> kernel_rfl)
    (by
      intro k hk
      simp only [allErrs, List.mem_cons, List.mem_nil_iff, or_false] at hk
      rcases hk with rfl | rfl | rfl | rfl | rfl | rfl | rfl | rfl | rfl | rfl <;> kernel_rfl)
    (by
      intro j hj k hk
      simp only [allErrs, List.mem_cons, List.mem_nil_iff, or_false] at hj hk
      rcases hj with rfl | rfl | rfl | rfl | rfl | rfl | rfl | rfl | rfl | rfl <;> rcases hk with rfl | rfl | rfl | rfl | rfl | rfl | rfl | rfl | rfl | rfl <;> decide)
    (List.mem_of_getElem? (i := 14) (by kernel_rfl)) (List.mem_of_getElem? (i := 15) (by kernel_rfl)) (List.mem_of_getElem? (i := 2) (by kernel_rfl))

/-- a world in which all that is listed is laid: the errors, then errors.errorType's handle. -/
noncomputable def witnessWorld (os : Os) : World :=
  let w0 := World.laidAll Tryz.prog os laidP
  { w0 with heap := w0.heap.modify 10 fun
      | .cells _ t frozen => .cells #[.iface 301 (.agg #[.pointer (some ⟨19, 41, none⟩)])] t frozen
      | o => o }
theorem witness_met (os : Os) (args : Array Value) : laidMetH Tryz.prog Rows.sumsHoldRow.laid ((witnessWorld os).forCall (fun _ _ => 0) ⟨#[], args, []⟩).memory :=
  laidMetH_of_parts (laidMet_of_run' 8 (by kernel_rfl) (by kernel_rfl)) (by kernel_rfl)


set_option maxRecDepth 100000 in
theorem lifted (os : Os) (started : os.Started) (H : Type) (enc : TypeId × Value → H) :
    ReturnsInHanded {} Tryz.checked os 4 .any (fun w args => (Rows.sumsHoldSpec.pre enc Tryz.prog Tryz.f4 [] false w args ∧ laidMetH Tryz.prog Rows.sumsHoldRow.laid w) ∧ sizedMet enc Tryz.prog Tryz.f4 (OpenSpec.ofChange Rows.sumsHoldSpec) false w args)
      (Rows.sumsHoldSpec.post enc Tryz.prog Tryz.f4 false true false false) := by
  refine law_lifted (C := Tryz.checked) (tb := 4) own started (by kernel_rfl) Tryz.func4 Tryz.factLaid (by kernel_rfl) (by kernel_rfl) Tryz.underlying4 rfl
    (ChangeSpec.witness_shaped (enc := enc) (C := Tryz.checked) (os := os) (X := fun w _ => laidMetH Tryz.prog Rows.sumsHoldRow.laid w) false (witnessWorld os) #[.slice none 0 0, .slice none 0 0, .int .i64 0, .int .u32 0] 8 (rfl)
      (World.shaped_of_RefB (by kernel_rfl) (by kernel_rfl)) (by kernel_rfl) (by kernel_rfl) (by kernel_rfl)
      (witness_met os _)) ?_
  intro W base args ds gs p q hval0 hA0 hV hlt _ hL hsh
  have hval : ∀ (j : Nat) t v, Tryz.f4.params[j]? = some t → args[j]? = some v → Value.okWide Tryz.prog W .any base t v := hval0
  have hA : DataW.TrodAll enc Tryz.prog W 0 (fun _ => true) true Tryz.f4.params.toList args.toList ds p := hA0
  rw [Tryz.params4] at hA hval
  obtain ⟨v0, vs0, d0, ds0, p0, q0, hargs, rfl, rfl, h0, r0⟩ := trodAll_cons hA
  obtain ⟨v1, vs1, d1, ds1, p1, q1, rfl, rfl, rfl, h1, r1⟩ := trodAll_cons r0
  obtain ⟨v2, vs2, d2, ds2, p2, q2, rfl, rfl, rfl, h2, r2⟩ := trodAll_cons r1
  obtain ⟨v3, vs3, d3, ds3, p3, q3, rfl, rfl, rfl, h3, r3⟩ := trodAll_cons r2
  obtain ⟨rfl, rfl, rfl⟩ := trodAll_nil r3
  obtain ⟨l⟩ := args
  obtain rfl : l = [v0, v1, v2, v3] := hargs
  obtain ⟨ll, hIl⟩ := entsOpen (hval 0 22 v0 rfl rfl) h0
  obtain ⟨la, hMa⟩ := modsOpen (hval 1 23 v1 rfl rfl) h1
  obtain ⟨k, rfl, _, _, wk⟩ := open_int Tryz.underlying3 (hval 2 3 v2 rfl rfl) h2
  obtain ⟨o, rfl, _, _, wo⟩ := open_int Tryz.underlying33 (hval 3 33 v3 rfl rfl) h3
  obtain ⟨rfl, rfl⟩ := trodVars_none hV

  exact ⟨rfl, sumsHold_calls allErrs (errA W) (by unfold IdxKs; decide) (by decide) v0 v1 ll la k o W (envP hL hsh) (envC hL) hIl hMa wo⟩

theorem jInPlace : (Rows.sumsHoldRow.inPlace == Tryz.prog.inPlace 4) = true := by kernel_rfl
theorem jUnfollowed : (Rows.sumsHoldRow.unfollowed == Tryz.prog.unfollowed 4) = true := by kernel_rfl
theorem jRecurses : (Rows.sumsHoldRow.recurses == Tryz.prog.recurses 4) = true := by kernel_rfl
theorem jNamed : (Rows.sumsHoldRow.named == Tryz.prog.varsNamed 4) = true := by kernel_rfl
theorem closed : joinedFacts Tryz.prog 4 Tryz.f4 Rows.sumsHoldSpec Rows.sumsHoldRow = true := by
  unfold joinedFacts
  rw [jInPlace, jUnfollowed, jRecurses, jNamed, Tryz.factLaid, Tryz.factMaps]
  kernel_rfl
theorem inst : Tryz.f4.isInstance Tryz.prog Rows.sumsHoldRow.origin Rows.sumsHoldRow.targs := of_decide_eq_true (by kernel_rfl)
theorem wrapped : Tryz.f4.isWrapper Tryz.prog Rows.sumsHoldRow.wrapper Rows.sumsHoldRow.mainSum := by unfold Func.isWrapper; first | (rw [if_pos (by decide +kernel)]; kernel_rfl) | (rw [if_neg (by decide +kernel)]; exact ⟨rfl, rfl⟩)
theorem said : Rows.SumsHoldSaid :=
  OpenClaim.holds_of_wide 4 Tryz.f4 rfl rfl rfl rfl rfl rfl rfl ⟨rfl, rfl, rfl, rfl, rfl⟩ rfl rfl rfl rfl rfl (by kernel_rfl) Tryz.func4 closed
    inst wrapped
    (fun os started H enc _ => lifted os started H enc)
#print axioms said

theorem jWf : Rows.sumsHoldRow.wfByText (OpenSpec.ofChange Rows.sumsHoldSpec) = true := by kernel_rfl
theorem jMain : Tryz.prog.mainIs = some (Rows.sumsHoldCard.stood.harness.1, Rows.sumsHoldCard.stood.harness.2.toList) := by kernel_rfl
theorem jFunc : Tryz.prog.funcNamed Rows.sumsHoldRow.func = some 4 := by kernel_rfl
theorem jLooks : Rows.sumsHoldCard.stood.looks = Tryz.prog.looks [] := by kernel_rfl
theorem jGoes : false = Rows.sumsHoldRow.goesBy Tryz.prog := by kernel_rfl
theorem jStand : (([22, 23, 3, 33] : List TypeId).all fun u => !Tryz.prog.wantsStandIn u) = true := by kernel_rfl
theorem card : Rows.SumsHoldCardSaid :=
  Claim7.holds_tied_plain_at .later [] [.data, .data, .data, .data, .handle, .sentinel, .sentinel, .sentinel, .sentinel, .sentinel, .sentinel, .sentinel, .sentinel, .sentinel, .sentinel, .sentinel, .sentinel, .pinned] true Rows.sumsHoldCard.stood.harness Rows.sumsHoldCard.stood.looks said (fun _ h => by cases h) jWf (fun _ h => by cases h) sumsHold_row_tie rfl ⟨rfl, rfl⟩ jMain rfl
    (fun f fn hf hfn => by
      obtain rfl : f = 4 := Option.some.inj (jFunc.symm.trans hf) |>.symm
      obtain rfl : fn = Tryz.f4 := (Option.some.inj (Tryz.func4.symm.trans hfn)).symm
      exact ⟨jLooks, fun j t ht => by
        rw [Tryz.params4] at ht
        have hm : t ∈ ([22, 23, 3, 33] : List TypeId) := by simpa using Array.mem_of_getElem? ht
        exact (show Tryz.prog.wantsStandIn t = false by simpa using List.all_eq_true.1 jStand t hm)⟩)
    jGoes
#print axioms card
end Go.Proofs.YtglhgbcebpeomaaGreatDoor.lawSumsHold
