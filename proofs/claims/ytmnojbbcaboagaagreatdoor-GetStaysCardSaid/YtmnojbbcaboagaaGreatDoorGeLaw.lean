/- GetStays: for every input the law returns true and turns nothing that was there; conditions: none beyond the row's own (the listed variables as the card ties them). -/
import Derived.Test.YtmnojbbcaboagaaGreatDoorGezq
import Derived.Test.YtmnojbbcaboagaaGreatDoorRows
import Derived.Test.YtmnojbbcaboagaaGreatDoorTie
import Derived.Test.YtmnojbbcaboagaaGreatDoorCards
namespace Go.Proofs.YtmnojbbcaboagaaGreatDoor.lawGetStays
open Go.ChangeShapes Go.WideShapes Go.ChangeAt Go.RowKit Go.Proofs.Pw
open Go.ChangeMaps (open_string shut_string)

theorem own : ownKnob Tryz.prog.godebug = none := by kernel_rfl

set_option maxRecDepth 100000 in
theorem lifted (os : Os) (started : os.Started) (H : Type) (enc : TypeId × Value → H) :
    ReturnsInHanded {} Tryz.checked os 3 .any (fun w args => (Rows.getStaysSpec.pre enc Tryz.prog Tryz.f3 [] false w args ∧ laidMetH Tryz.prog Rows.getStaysRow.laid w) ∧ sizedMet enc Tryz.prog Tryz.f3 (OpenSpec.ofChange Rows.getStaysSpec) false w args)
      (Rows.getStaysSpec.post enc Tryz.prog Tryz.f3 false true false false) := by
  refine law_lifted (C := Tryz.checked) (tb := 4) own started (by kernel_rfl) Tryz.func3 Tryz.factLaid (by kernel_rfl) (by kernel_rfl) Tryz.underlying4 rfl
    (ChangeSpec.witness_shaped (enc := enc) (C := Tryz.checked) (os := os) (X := fun w _ => laidMetH Tryz.prog Rows.getStaysRow.laid w) false (World.laidAll Tryz.prog os Rows.getStaysRow.laid) #[.slice none 0 0, .agg #[.string ⟨#[]⟩, .slice none 0 0, .slice none 0 0], .slice none 0 0] 8 (World.laidAll_os _ _ _)
      (World.shaped_of_ZipB (by kernel_rfl) (by kernel_rfl)) (by kernel_rfl) (by kernel_rfl) (by kernel_rfl)
      (by rw [MakeChecks.laidMetH_plain _ _ _ (by kernel_rfl)]; exact laidMet_laidAll _ (by kernel_rfl) (by kernel_rfl))) ?_
  intro W base args ds gs p q hval0 hA0 hV hlt _ hL hsh
  have hval : ∀ (j : Nat) t v, Tryz.f3.params[j]? = some t → args[j]? = some v → Value.okWide Tryz.prog W .any base t v := hval0
  have hA : DataW.TrodAll enc Tryz.prog W 0 (fun _ => true) true Tryz.f3.params.toList args.toList ds p := hA0
  rw [Tryz.params3] at hA hval
  obtain ⟨v0, vs0, d0, ds0, p0, q0, hargs, rfl, rfl, h0, r0⟩ := trodAll_cons hA
  obtain ⟨v1, vs1, d1, ds1, p1, q1, rfl, rfl, rfl, h1, r1⟩ := trodAll_cons r0
  obtain ⟨v2, vs2, d2, ds2, p2, q2, rfl, rfl, rfl, h2, r2⟩ := trodAll_cons r1
  obtain ⟨rfl, rfl, rfl⟩ := trodAll_nil r2
  obtain ⟨l⟩ := args
  obtain rfl : l = [v0, v1, v2] := hargs
  obtain ⟨ll, hIl⟩ := entsOpen (hval 0 22 v0 rfl rfl) h0
  obtain ⟨fp, fr, fx, fR, fX, rfl, fhR, fhX⟩ := fileOpen (hval 1 25 v1 rfl rfl) h1
  obtain ⟨lv, hSv⟩ := strsOpen (hval 2 26 v2 rfl rfl) h2
  obtain ⟨rfl, rfl⟩ := trodVars_none hV
  have hlm : laidMet Tryz.prog Rows.getStaysRow.laid W := by rw [MakeChecks.laidMetH_plain _ _ _ (by kernel_rfl)] at hL; exact hL
  have hE : EnvP [1, 2, 3, 4, 5, 7, 8, 9] (errA W) W := envP_of hlm hsh [1, 2, 3, 4, 5, 7, 8, 9] (by decide)
    (by
      intro k hk
      simp only [List.mem_cons, List.mem_nil_iff, or_false] at hk
      rcases hk with rfl | rfl | rfl | rfl | rfl | rfl | rfl | rfl
      · exact List.mem_of_getElem? (i := 4) (by kernel_rfl)
      · exact List.mem_of_getElem? (i := 5) (by kernel_rfl)
      · exact List.mem_of_getElem? (i := 6) (by kernel_rfl)
      · exact List.mem_of_getElem? (i := 7) (by kernel_rfl)
      · exact List.mem_of_getElem? (i := 8) (by kernel_rfl)
      · exact List.mem_of_getElem? (i := 9) (by kernel_rfl)
      · exact List.mem_of_getElem? (i := 10) (by kernel_rfl)
      · exact List.mem_of_getElem? (i := 11) (by kernel_rfl))
    (by
      intro k hk
      simp only [List.mem_cons, List.mem_nil_iff, or_false] at hk
      rcases hk with rfl | rfl | rfl | rfl | rfl | rfl | rfl | rfl <;> kernel_rfl)
    (by
      intro k hk
      simp only [List.mem_cons, List.mem_nil_iff, or_false] at hk
      rcases hk with rfl | rfl | rfl | rfl | rfl | rfl | rfl | rfl <;> kernel_rfl)
    (by
      intro j hj k hk
      simp only [List.mem_cons, List.mem_nil_iff, or_false] at hj hk
      rcases hj with rfl | rfl | rfl | rfl | rfl | rfl | rfl | rfl <;> rcases hk with rfl | rfl | rfl | rfl | rfl | rfl | rfl | rfl <;> decide)
    (List.mem_of_getElem? (i := 12) (by kernel_rfl)) (List.mem_of_getElem? (i := 13) (by kernel_rfl)) (List.mem_of_getElem? (i := 2) (by kernel_rfl))
  exact ⟨rfl, getStays_calls [1, 2, 3, 4, 5, 7, 8, 9] (errA W) (by unfold GetKs IdxKs FileKs; decide) v0 ll fp fr fx v2 fR fX lv W hE hIl fhR fhX hSv⟩

theorem jInPlace : (Rows.getStaysRow.inPlace == Tryz.prog.inPlace 3) = true := by kernel_rfl
theorem jUnfollowed : (Rows.getStaysRow.unfollowed == Tryz.prog.unfollowed 3) = true := by kernel_rfl
theorem jRecurses : (Rows.getStaysRow.recurses == Tryz.prog.recurses 3) = true := by kernel_rfl
theorem jNamed : (Rows.getStaysRow.named == Tryz.prog.varsNamed 3) = true := by kernel_rfl
theorem closed : joinedFacts Tryz.prog 3 Tryz.f3 Rows.getStaysSpec Rows.getStaysRow = true := by
  unfold joinedFacts
  rw [jInPlace, jUnfollowed, jRecurses, jNamed, Tryz.factLaid, Tryz.factMaps]
  kernel_rfl
theorem inst : Tryz.f3.isInstance Tryz.prog Rows.getStaysRow.origin Rows.getStaysRow.targs := of_decide_eq_true (by kernel_rfl)
theorem wrapped : Tryz.f3.isWrapper Tryz.prog Rows.getStaysRow.wrapper Rows.getStaysRow.mainSum := by unfold Func.isWrapper; first | (rw [if_pos (by decide +kernel)]; kernel_rfl) | (rw [if_neg (by decide +kernel)]; exact ⟨rfl, rfl⟩)
theorem said : Rows.GetStaysSaid :=
  OpenClaim.holds_of_wide 3 Tryz.f3 rfl rfl rfl rfl rfl rfl rfl ⟨rfl, rfl, rfl, rfl, rfl⟩ rfl rfl rfl rfl rfl (by kernel_rfl) Tryz.func3 closed
    inst wrapped
    (fun os started H enc _ => lifted os started H enc)
#print axioms said

theorem jWf : Rows.getStaysRow.wfByText (OpenSpec.ofChange Rows.getStaysSpec) = true := by kernel_rfl
theorem jMain : Tryz.prog.mainIs = some (Rows.getStaysCard.stood.harness.1, Rows.getStaysCard.stood.harness.2.toList) := by kernel_rfl
theorem jFunc : Tryz.prog.funcNamed Rows.getStaysRow.func = some 3 := by kernel_rfl
theorem jLooks : Rows.getStaysCard.stood.looks = Tryz.prog.looks [] := by kernel_rfl
theorem jGoes : false = Rows.getStaysRow.goesBy Tryz.prog := by kernel_rfl
theorem jStand : (([22, 25, 26] : List TypeId).all fun u => !Tryz.prog.wantsStandIn u) = true := by kernel_rfl
theorem card : Rows.GetStaysCardSaid :=
  Claim7.holds_tied_plain_at .later [] [.data, .data, .data, .data, .sentinel, .sentinel, .sentinel, .sentinel, .sentinel, .sentinel, .sentinel, .sentinel, .sentinel, .sentinel, .pinned] true Rows.getStaysCard.stood.harness Rows.getStaysCard.stood.looks said (fun _ h => by cases h) jWf (fun _ h => by cases h) getStays_row_tie rfl ⟨rfl, rfl⟩ jMain rfl
    (fun f fn hf hfn => by
      obtain rfl : f = 3 := Option.some.inj (jFunc.symm.trans hf) |>.symm
      obtain rfl : fn = Tryz.f3 := (Option.some.inj (Tryz.func3.symm.trans hfn)).symm
      exact ⟨jLooks, fun j t ht => by
        rw [Tryz.params3] at ht
        have hm : t ∈ ([22, 25, 26] : List TypeId) := by simpa using Array.mem_of_getElem? ht
        exact (show Tryz.prog.wantsStandIn t = false by simpa using List.all_eq_true.1 jStand t hm)⟩)
    jGoes
#print axioms card
end Go.Proofs.YtmnojbbcaboagaaGreatDoor.lawGetStays
