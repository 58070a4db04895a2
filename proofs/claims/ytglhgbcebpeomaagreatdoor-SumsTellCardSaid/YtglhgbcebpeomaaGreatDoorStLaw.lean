/- SumsTell: for every input the law returns true and turns nothing that was there; conditions: none beyond the row's own (the listed variables as the card ties them). -/
import Derived.Test.YtglhgbcebpeomaaGreatDoorStzc
import Derived.Test.YtglhgbcebpeomaaGreatDoorStzd
import Derived.Test.YtglhgbcebpeomaaGreatDoorRows
import Derived.Test.YtglhgbcebpeomaaGreatDoorTie
import Derived.Test.YtglhgbcebpeomaaGreatDoorCards
namespace Go.Proofs.YtglhgbcebpeomaaGreatDoor.lawSumsTell
open Go.ChangeShapes Go.WideShapes Go.ChangeAt Go.RowKit Go.Proofs.Pw
open Go.ChangeMaps (open_string shut_string)

theorem own : ownKnob Tryz.prog.godebug = none := by kernel_rfl
def nm : Nat → String
  | 1 => "pewholder/api.ErrText" | 2 => "pewholder/api.ErrBound" | 3 => "pewholder/api.ErrShape" | 4 => "pewholder/api.ErrMajor" | 5 => "pewholder/api.ErrNone"
  | 6 => "pewholder/api.ErrExist" | 7 => "pewholder/api.ErrFull" | 8 => "pewholder/api.ErrOrder" | 9 => "pewholder/api.ErrClash" | _ => "pewholder/api.ErrSum"
def tx : Nat → List UInt8
  | 1 => [112, 101, 119, 104, 111, 108, 100, 101, 114, 58, 32, 116, 101, 120, 116]
  | 2 => [112, 101, 119, 104, 111, 108, 100, 101, 114, 58, 32, 98, 111, 117, 110, 100]
  | 3 => [112, 101, 119, 104, 111, 108, 100, 101, 114, 58, 32, 115, 104, 97, 112, 101]
  | 4 => [112, 101, 119, 104, 111, 108, 100, 101, 114, 58, 32, 109, 97, 106, 111, 114]
  | 5 => [112, 101, 119, 104, 111, 108, 100, 101, 114, 58, 32, 110, 111, 110, 101]
  | 6 => [112, 101, 119, 104, 111, 108, 100, 101, 114, 58, 32, 101, 120, 105, 115, 116]
  | 7 => [112, 101, 119, 104, 111, 108, 100, 101, 114, 58, 32, 102, 117, 108, 108]
  | 8 => [112, 101, 119, 104, 111, 108, 100, 101, 114, 58, 32, 111, 114, 100, 101, 114]
  | 9 => [112, 101, 119, 104, 111, 108, 100, 101, 114, 58, 32, 99, 108, 97, 115, 104]
  | _ => [112, 101, 119, 104, 111, 108, 100, 101, 114, 58, 32, 115, 117, 109]


/-- the list without the handle -/
abbrev laidP : List (String × DataW Unit) := Rows.sumsTellRow.laid.filter fun x => x.2.handleName?.isNone

theorem envC {W : World} (h : laidMetH Tryz.prog Rows.sumsTellRow.laid W) : EnvC (errA W) W := by
  have h' : laidMet Tryz.prog laidP W ∧ handlesMet Tryz.prog (Rows.sumsTellRow.laid.filter fun x => x.2.handleName?.isSome) W := h
  refine ⟨envE_of h'.1 allErrs nm tx ?_ ?_ ?_ ?_, handle_of h'.2 (List.mem_of_getElem? (i := 0) (by kernel_rfl))⟩
  · intro k hk
    simp only [allErrs, List.mem_cons, List.mem_nil_iff, or_false] at hk
    rcases hk with rfl | rfl | rfl | rfl | rfl | rfl | rfl | rfl | rfl | rfl
    · exact List.mem_of_getElem? (i := 4) (by kernel_rfl)
    · exact List.mem_of_getElem? (i := 5) (by kernel_rfl)
    · exact List.mem_of_getElem? (i := 6) (by kernel_rfl)
    · exact List.mem_of_getElem? (i := 7) (by kernel_rfl)
    · exact List.mem_of_getElem? (i := 8) (by kernel_rfl)
    · exact List.mem_of_getElem? (i := 9) (by kernel_rfl)
    · exact List.mem_of_getElem? (i := 10) (by kernel_rfl)
    · exact List.mem_of_getElem? (i := 11) (by kernel_rfl)
    · exact List.mem_of_getElem? (i := 12) (by kernel_rfl)
    · exact List.mem_of_getElem? (i := 13) (by kernel_rfl)
  · intro k hk
    simp only [allErrs, List.mem_cons, List.mem_nil_iff, or_false] at hk
    rcases hk with rfl | rfl | rfl | rfl | rfl | rfl | rfl | rfl | rfl | rfl <;> kernel_rfl
  · intro k hk
    simp only [allErrs, List.mem_cons, List.mem_nil_iff, or_false] at hk
    rcases hk with rfl | rfl | rfl | rfl | rfl | rfl | rfl | rfl | rfl | rfl <;> kernel_rfl
  · intro j hj k hk
    simp only [allErrs, List.mem_cons, List.mem_nil_iff, or_false] at hj hk
    rcases hj with rfl | rfl | rfl | rfl | rfl | rfl | rfl | rfl | rfl | rfl <;> rcases hk with rfl | rfl | rfl | rfl | rfl | rfl | rfl | rfl | rfl | rfl <;> decide


theorem envP {W : World} (h : laidMetH Tryz.prog Rows.sumsTellRow.laid W) (hsh : W.ShapedOpen Tryz.prog) : EnvP allErrs (errA W) W := by
  have h' : laidMet Tryz.prog laidP W ∧ handlesMet Tryz.prog (Rows.sumsTellRow.laid.filter fun x => x.2.handleName?.isSome) W := h
  have hlm := h'.1
  exact envP_of hlm hsh allErrs (by decide)
    (by
      intro k hk
      simp only [allErrs, List.mem_cons, List.mem_nil_iff, or_false] at hk
      rcases hk with rfl | rfl | rfl | rfl | rfl | rfl | rfl | rfl | rfl | rfl
      · exact List.mem_of_getElem? (i := 4) (by kernel_rfl)
      · exact List.mem_of_getElem? (i := 5) (by kernel_rfl)
      · exact List.mem_of_getElem? (i := 6) (by kernel_rfl)
      · exact List.mem_of_getElem? (i := 7) (by kernel_rfl)
      · exact List.mem_of_getElem? (i := 8) (by kernel_rfl)
      · exact List.mem_of_getElem? (i := 9) (by kernel_rfl)
      · exact List.mem_of_getElem? (i := 10) (by kernel_rfl)
      · exact List.mem_of_getElem? (i := 11) (by kernel_rfl)
      · exact List.mem_of_getElem? (i := 12) (by kernel_rfl)
      · exact List.mem_of_getElem? (i := 13) (by kernel_rfl))
    (by
      intro k hk
      simp only [allErrs, List.mem_cons, List.mem_nil_iff, or_false] at hk
      rcases hk with rfl | rfl | rfl | rfl | rfl | rfl | rfl | rfl | rfl | rfl <;> kernel_rfl)
    (by
      intro k hk
      simp only [allErrs, List.mem_cons, List.mem_nil_iff, or_false] at hk
      rcases hk with rfl | rfl | rfl | rfl | rfl | rfl | rfl | rfl | rfl | rfl <;> kernel_rfl)
    (by
      intro j hj k hk
      simp only [allErrs, List.mem_cons, List.mem_nil_iff, or_false] at hj hk
      rcases hj with rfl | rfl | rfl | rfl | rfl | rfl | rfl | rfl | rfl | rfl <;> rcases hk with rfl | rfl | rfl | rfl | rfl | rfl | rfl | rfl | rfl | rfl <;> decide)
    (List.mem_of_getElem? (i := 14) (by kernel_rfl)) (List.mem_of_getElem? (i := 15) (by kernel_rfl)) (List.mem_of_getElem? (i := 2) (by kernel_rfl))

/-- a world in which all that is listed is laid: the errors, then errors.errorType's handle. -/
noncomputable def witnessWorld (os : Os) : World :=
  let w0 := World.laidAll Tryz.prog os laidP
  { w0 with heap := w0.heap.modify 10 fun
      | .cells _ t frozen => .cells #[.iface 301 (.agg #[.pointer (some ⟨19, 41, none⟩)])] t frozen
      | o => o }
theorem witness_met (os : Os) (args : Array Value) : laidMetH Tryz.prog Rows.sumsTellRow.laid ((witnessWorld os).forCall (fun _ _ => 0) ⟨#[], args, []⟩).memory :=
  laidMetH_of_parts (laidMet_of_run' 8 (by kernel_rfl) (by kernel_rfl)) (by kernel_rfl)


set_option maxRecDepth 100000 in
theorem lifted (os : Os) (started : os.Started) (H : Type) (enc : TypeId × Value → H) :
    ReturnsInHanded {} Tryz.checked os 3 .any (fun w args => (Rows.sumsTellSpec.pre enc Tryz.prog Tryz.f3 [] false w args ∧ laidMetH Tryz.prog Rows.sumsTellRow.laid w) ∧ sizedMet enc Tryz.prog Tryz.f3 (OpenSpec.ofChange Rows.sumsTellSpec) false w args)
      (Rows.sumsTellSpec.post enc Tryz.prog Tryz.f3 false true false false) := by
  refine law_lifted (C := Tryz.checked) (tb := 4) own started (by kernel_rfl) Tryz.func3 Tryz.factLaid (by kernel_rfl) (by kernel_rfl) Tryz.underlying4 rfl
    (ChangeSpec.witness_shaped (enc := enc) (C := Tryz.checked) (os := os) (X := fun w _ => laidMetH Tryz.prog Rows.sumsTellRow.laid w) false (witnessWorld os) #[.slice none 0 0, .slice none 0 0, .slice none 0 0, .string ⟨#[]⟩] 8 (rfl)
      (World.shaped_of_RefB (by kernel_rfl) (by kernel_rfl)) (by kernel_rfl) (by kernel_rfl) (by kernel_rfl)
      (witness_met os _)) ?_
  intro W base args ds gs p q hval0 hA0 hV hlt _ hL hsh
  have hval : ∀ (j : Nat) t v, Tryz.f3.params[j]? = some t → args[j]? = some v → Value.okWide Tryz.prog W .any base t v := hval0
  have hA : DataW.TrodAll enc Tryz.prog W 0 (fun _ => true) true Tryz.f3.params.toList args.toList ds p := hA0
  rw [Tryz.params3] at hA hval
  obtain ⟨v0, vs0, d0, ds0, p0, q0, hargs, rfl, rfl, h0, r0⟩ := trodAll_cons hA
  obtain ⟨v1, vs1, d1, ds1, p1, q1, rfl, rfl, rfl, h1, r1⟩ := trodAll_cons r0
  obtain ⟨v2, vs2, d2, ds2, p2, q2, rfl, rfl, rfl, h2, r2⟩ := trodAll_cons r1
  obtain ⟨v3, vs3, d3, ds3, p3, q3, rfl, rfl, rfl, h3, r3⟩ := trodAll_cons r2
  obtain ⟨rfl, rfl, rfl⟩ := trodAll_nil r3
  obtain ⟨l⟩ := args
  obtain rfl : l = [v0, v1, v2, v3] := hargs
  obtain ⟨ll, hIl⟩ := entsOpen (hval 0 22 v0 rfl rfl) h0
  obtain ⟨la, hMa⟩ := modsOpen (hval 1 23 v1 rfl rfl) h1
  obtain ⟨ha, hn, hc, hxP, hxV, hxS, rfl, hLh⟩ := lnsOpen (hval 2 24 v2 rfl rfl) h2
  obtain ⟨s, rfl, _, _, _⟩ := open_string Tryz.underlying9 (hval 3 9 v3 rfl rfl) h3
  obtain ⟨rfl, rfl⟩ := trodVars_none hV

  exact ⟨rfl, sumsTell_calls allErrs (errA W) (by unfold IdxKs; decide) (by decide) v0 v1 ll la ha hn hc hxP hxV hxS s W (envP hL hsh) (envC hL) hIl hMa hLh⟩

theorem jInPlace : (Rows.sumsTellRow.inPlace == Tryz.prog.inPlace 3) = true := by kernel_rfl
theorem jUnfollowed : (Rows.sumsTellRow.unfollowed == Tryz.prog.unfollowed 3) = true := by kernel_rfl
theorem jRecurses : (Rows.sumsTellRow.recurses == Tryz.prog.recurses 3) = true := by kernel_rfl
theorem jNamed : (Rows.sumsTellRow.named == Tryz.prog.varsNamed 3) = true := by kernel_rfl
theorem closed : joinedFacts Tryz.prog 3 Tryz.f3 Rows.sumsTellSpec Rows.sumsTellRow = true := by
  unfold joinedFacts
  rw [jInPlace, jUnfollowed, jRecurses, jNamed, Tryz.factLaid, Tryz.factMaps]
  kernel_rfl
theorem inst : Tryz.f3.isInstance Tryz.prog Rows.sumsTellRow.origin Rows.sumsTellRow.targs := of_decide_eq_true (by kernel_rfl)
theorem wrapped : Tryz.f3.isWrapper Tryz.prog Rows.sumsTellRow.wrapper Rows.sumsTellRow.mainSum := by unfold Func.isWrapper; first | (rw [if_pos (by decide +kernel)]; kernel_rfl) | (rw [if_neg (by decide +kernel)]; exact ⟨rfl, rfl⟩)
theorem said : Rows.SumsTellSaid :=
  OpenClaim.holds_of_wide 3 Tryz.f3 rfl rfl rfl rfl rfl rfl rfl ⟨rfl, rfl, rfl, rfl, rfl⟩ rfl rfl rfl rfl rfl (by kernel_rfl) Tryz.func3 closed
    inst wrapped
    (fun os started H enc _ => lifted os started H enc)
#print axioms said

theorem jWf : Rows.sumsTellRow.wfByText (OpenSpec.ofChange Rows.sumsTellSpec) = true := by kernel_rfl
theorem jMain : Tryz.prog.mainIs = some (Rows.sumsTellCard.stood.harness.1, Rows.sumsTellCard.stood.harness.2.toList) := by kernel_rfl
theorem jFunc : Tryz.prog.funcNamed Rows.sumsTellRow.func = some 3 := by kernel_rfl
theorem jLooks : Rows.sumsTellCard.stood.looks = Tryz.prog.looks [] := by kernel_rfl
theorem jGoes : false = Rows.sumsTellRow.goesBy Tryz.prog := by kernel_rfl
theorem jStand : (([22, 23, 24, 9] : List TypeId).all fun u => !Tryz.prog.wantsStandIn u) = true := by kernel_rfl
theorem card : Rows.SumsTellCardSaid :=
  Claim7.holds_tied_plain_at .later [] [.data, .data, .data, .data, .handle, .sentinel, .sentinel, .sentinel, .sentinel, .sentinel, .sentinel, .sentinel, .sentinel, .sentinel, .sentinel, .sentinel, .sentinel, .pinned] true Rows.sumsTellCard.stood.harness Rows.sumsTellCard.stood.looks said (fun _ h => by cases h) jWf (fun _ h => by cases h) sumsTell_row_tie rfl ⟨rfl, rfl⟩ jMain rfl
    (fun f fn hf hfn => by
      obtain rfl : f = 3 := Option.some.inj (jFunc.symm.trans hf) |>.symm
      obtain rfl : fn = Tryz.f3 := (Option.some.inj (Tryz.func3.symm.trans hfn)).symm
      exact ⟨jLooks, fun j t ht => by
        rw [Tryz.params3] at ht
        have hm : t ∈ ([22, 23, 24, 9] : List TypeId) := by simpa using Array.mem_of_getElem? ht
        exact (show Tryz.prog.wantsStandIn t = false by simpa using List.all_eq_true.1 jStand t hm)⟩)
    jGoes
#print axioms card
end Go.Proofs.YtglhgbcebpeomaaGreatDoor.lawSumsTell
