/- MvsLeast: for every input the law returns true and turns nothing that was there; conditions: none beyond the row's own (the listed variables as the card ties them). -/
import Derived.Test.YtddodebbnelanaaGreatDoorMla
import Derived.Test.YtddodebbnelanaaGreatDoorMpd
import Derived.Test.YtddodebbnelanaaGreatDoorRows
import Derived.Test.YtddodebbnelanaaGreatDoorTie
import Derived.Test.YtddodebbnelanaaGreatDoorCards
namespace Go.Proofs.YtddodebbnelanaaGreatDoor.lawMvsLeast
open Go.ChangeShapes Go.WideShapes Go.ChangeAt Go.RowKit Go.Proofs.Pw
open Go.ChangeMaps (open_string shut_string)

theorem own : ownKnob Tryz.prog.godebug = none := by kernel_rfl

set_option maxRecDepth 100000 in
theorem lifted (os : Os) (started : os.Started) (H : Type) (enc : TypeId × Value → H) :
    ReturnsInHanded {} Tryz.checked os 8 .any (fun w args => (Rows.mvsLeastSpec.pre enc Tryz.prog Tryz.f8 [] false w args ∧ laidMetH Tryz.prog Rows.mvsLeastRow.laid w) ∧ sizedMet enc Tryz.prog Tryz.f8 (OpenSpec.ofChange Rows.mvsLeastSpec) false w args)
      (Rows.mvsLeastSpec.post enc Tryz.prog Tryz.f8 false true false false) := by
  refine law_lifted (C := Tryz.checked) (tb := 4) own started (by kernel_rfl) Tryz.func8 Tryz.factLaid (by kernel_rfl) (by kernel_rfl) Tryz.underlying4 rfl
    (ChangeSpec.witness_shaped (enc := enc) (C := Tryz.checked) (os := os) (X := fun w _ => laidMetH Tryz.prog Rows.mvsLeastRow.laid w) false (World.laidAll Tryz.prog os Rows.mvsLeastRow.laid) #[.slice none 0 0, .slice none 0 0, .slice none 0 0, .slice none 0 0] 8 (World.laidAll_os _ _ _)
      (World.shaped_of_ZipB (by kernel_rfl) (by kernel_rfl)) (by kernel_rfl) (by kernel_rfl) (by kernel_rfl)
      (by rw [MakeChecks.laidMetH_plain _ _ _ (by kernel_rfl)]; exact laidMet_laidAll _ (by kernel_rfl) (by kernel_rfl))) ?_
  intro W base args ds gs p q hval0 hA0 hV hlt _ hL hsh
  have hval : ∀ (j : Nat) t v, Tryz.f8.params[j]? = some t → args[j]? = some v → Value.okWide Tryz.prog W .any base t v := hval0
  have hA : DataW.TrodAll enc Tryz.prog W 0 (fun _ => true) true Tryz.f8.params.toList args.toList ds p := hA0
  rw [Tryz.params8] at hA hval
  obtain ⟨v0, vs0, d0, ds0, p0, q0, hargs, rfl, rfl, h0, r0⟩ := trodAll_cons hA
  obtain ⟨v1, vs1, d1, ds1, p1, q1, rfl, rfl, rfl, h1, r1⟩ := trodAll_cons r0
  obtain ⟨v2, vs2, d2, ds2, p2, q2, rfl, rfl, rfl, h2, r2⟩ := trodAll_cons r1
  obtain ⟨v3, vs3, d3, ds3, p3, q3, rfl, rfl, rfl, h3, r3⟩ := trodAll_cons r2
  obtain ⟨rfl, rfl, rfl⟩ := trodAll_nil r3
  obtain ⟨l⟩ := args
  obtain rfl : l = [v0, v1, v2, v3] := hargs
  obtain ⟨ll, hIl⟩ := entsOpen (hval 0 50 v0 rfl rfl) h0
  obtain ⟨la, hMa⟩ := modsOpen (hval 1 22 v1 rfl rfl) h1
  obtain ⟨lb, hMb⟩ := modsOpen (hval 2 22 v2 rfl rfl) h2
  obtain ⟨lc, hMc⟩ := modsOpen (hval 3 22 v3 rfl rfl) h3
  obtain ⟨rfl, rfl⟩ := trodVars_none hV
  have hlm : laidMet Tryz.prog Rows.mvsLeastRow.laid W := by rw [MakeChecks.laidMetH_plain _ _ _ (by kernel_rfl)] at hL; exact hL
  have hE : EnvP [1, 2, 3, 4, 5, 7, 8] (errA W) W := envP_of hlm hsh [1, 2, 3, 4, 5, 7, 8] (by decide)
    (by
      intro k hk
      simp only [List.mem_cons, List.mem_nil_iff, or_false] at hk
      rcases hk with rfl | rfl | rfl | rfl | rfl | rfl | rfl
      · exact List.mem_of_getElem? (i := 4) (by kernel_rfl)
      · exact List.mem_of_getElem? (i := 5) (by kernel_rfl)
      · exact List.mem_of_getElem? (i := 6) (by kernel_rfl)
      · exact List.mem_of_getElem? (i := 7) (by kernel_rfl)
      · exact List.mem_of_getElem? (i := 8) (by kernel_rfl)
      · exact List.mem_of_getElem? (i := 9) (by kernel_rfl)
      · exact List.mem_of_getElem? (i := 10) (by kernel_rfl))
    (by
      intro k hk
      simp only [List.mem_cons, List.mem_nil_iff, or_false] at hk
      rcases hk with rfl | rfl | rfl | rfl | rfl | rfl | rfl <;> kernel_rfl)
    (by
      intro k hk
      simp only [List.mem_cons, List.mem_nil_iff, or_false] at hk
      rcases hk with rfl | rfl | rfl | rfl | rfl | rfl | rfl <;> kernel_rfl)
    (by
      intro j hj k hk
      simp only [List.mem_cons, List.mem_nil_iff, or_false] at hj hk
      rcases hj with rfl | rfl | rfl | rfl | rfl | rfl | rfl <;> rcases hk with rfl | rfl | rfl | rfl | rfl | rfl | rfl <;> decide)
    (List.mem_of_getElem? (i := 11) (by kernel_rfl)) (List.mem_of_getElem? (i := 2) (by kernel_rfl))
  exact ⟨rfl, mvsLeast_calls [1, 2, 3, 4, 5, 7, 8] (errA W) (by unfold IdxKs; decide) v0 v1 v2 v3 ll la lb lc W hE hIl hMa hMb hMc⟩

theorem jInPlace : (Rows.mvsLeastRow.inPlace == Tryz.prog.inPlace 8) = true := by kernel_rfl
theorem jUnfollowed : (Rows.mvsLeastRow.unfollowed == Tryz.prog.unfollowed 8) = true := by kernel_rfl
theorem jRecurses : (Rows.mvsLeastRow.recurses == Tryz.prog.recurses 8) = true := by kernel_rfl
theorem jNamed : (Rows.mvsLeastRow.named == Tryz.prog.varsNamed 8) = true := by kernel_rfl
theorem closed : joinedFacts Tryz.prog 8 Tryz.f8 Rows.mvsLeastSpec Rows.mvsLeastRow = true := by
  unfold joinedFacts
  rw [jInPlace, jUnfollowed, jRecurses, jNamed, Tryz.factLaid, Tryz.factMaps]
  kernel_rfl
theorem inst : Tryz.f8.isInstance Tryz.prog Rows.mvsLeastRow.origin Rows.mvsLeastRow.targs := of_decide_eq_true (by kernel_rfl)
theorem wrapped : Tryz.f8.isWrapper Tryz.prog Rows.mvsLeastRow.wrapper Rows.mvsLeastRow.mainSum := by unfold Func.isWrapper; first | (rw [if_pos (by decide +kernel)]; kernel_rfl) | (rw [if_neg (by decide +kernel)]; exact ⟨rfl, rfl⟩)
theorem said : Rows.MvsLeastSaid :=
  OpenClaim.holds_of_wide 8 Tryz.f8 rfl rfl rfl rfl rfl rfl rfl ⟨rfl, rfl, rfl, rfl, rfl⟩ rfl rfl rfl rfl rfl (by kernel_rfl) Tryz.func8 closed
    inst wrapped
    (fun os started H enc _ => lifted os started H enc)
#print axioms said

theorem jWf : Rows.mvsLeastRow.wfByText (OpenSpec.ofChange Rows.mvsLeastSpec) = true := by kernel_rfl
theorem jMain : Tryz.prog.mainIs = some (Rows.mvsLeastCard.stood.harness.1, Rows.mvsLeastCard.stood.harness.2.toList) := by kernel_rfl
theorem jFunc : Tryz.prog.funcNamed Rows.mvsLeastRow.func = some 8 := by kernel_rfl
theorem jLooks : Rows.mvsLeastCard.stood.looks = Tryz.prog.looks [] := by kernel_rfl
theorem jGoes : false = Rows.mvsLeastRow.goesBy Tryz.prog := by kernel_rfl
theorem jStand : (([50, 22, 22, 22] : List TypeId).all fun u => !Tryz.prog.wantsStandIn u) = true := by kernel_rfl
theorem card : Rows.MvsLeastCardSaid :=
  Claim7.holds_tied_plain_at .later [] [.data, .data, .data, .data, .sentinel, .sentinel, .sentinel, .sentinel, .sentinel, .sentinel, .sentinel, .sentinel, .sentinel, .pinned] true Rows.mvsLeastCard.stood.harness Rows.mvsLeastCard.stood.looks said (fun _ h => by cases h) jWf (fun _ h => by cases h) mvsLeast_row_tie rfl ⟨rfl, rfl⟩ jMain rfl
    (fun f fn hf hfn => by
      obtain rfl : f = 8 := Option.some.inj (jFunc.symm.trans hf) |>.symm
      obtain rfl : fn = Tryz.f8 := (Option.some.inj (Tryz.func8.symm.trans hfn)).symm
      exact ⟨jLooks, fun j t ht => by
        rw [Tryz.params8] at ht
        have hm : t ∈ ([50, 22, 22, 22] : List TypeId) := by simpa using Array.mem_of_getElem? ht
        exact (show Tryz.prog.wantsStandIn t = false by simpa using List.all_eq_true.1 jStand t hm)⟩)
    jGoes
#print axioms card
end Go.Proofs.YtddodebbnelanaaGreatDoor.lawMvsLeast
