/- The row and the tied card of SchedMore: whatever the list of picks and the pick more, the law answers true and the list reads as before. -/
import Derived.Test.YtnohaiobpmmomaaGreatDoorRow1
set_option linter.unusedVariables false
set_option maxRecDepth 100000
namespace Go.Proofs.YtnohaiobpmmomaaGreatDoor
open Go Go.Pt Go.ChangeShapes Go.WideShapes Go.ChangeAt Go.RowKit

theorem shapedM (os : Os) (args : Array Value) : ((World.laidAll Tryz.prog os Rows.schedMoreRow.laid).forCall (fun _ _ => 0) ⟨#[], args, []⟩).Shaped Tryz.prog := shapedF os args
theorem laidM (os : Os) (args : Array Value) : laidMetH Tryz.prog Rows.schedMoreRow.laid ((World.laidAll Tryz.prog os Rows.schedMoreRow.laid).forCall (fun _ _ => 0) ⟨#[], args, []⟩).memory := laidF os args
theorem schedMore_lifted (os : Os) (started : os.Started) (H : Type) (enc : TypeId × Value → H) :
    ReturnsInHanded {} Tryz.checked os 4 .any (fun w args => (Rows.schedMoreSpec.pre enc Tryz.prog Tryz.f4 [] false w args ∧ laidMetH Tryz.prog Rows.schedMoreRow.laid w) ∧ sizedMet enc Tryz.prog Tryz.f4 (OpenSpec.ofChange Rows.schedMoreSpec) false w args)
      (Rows.schedMoreSpec.post enc Tryz.prog Tryz.f4 false true false false) := by
  refine returnsInHanded_of_change_and (C := Tryz.checked) (X := fun w _ => laidMetH Tryz.prog Rows.schedMoreRow.laid w) (fun _ _ _ hh h => h.of_heap hh) own started (by kernel_rfl) Tryz.func4
    (ChangeSpec.witness_shaped (enc := enc) (C := Tryz.checked) (os := os) (X := fun w _ => laidMetH Tryz.prog Rows.schedMoreRow.laid w) false (World.laidAll Tryz.prog os Rows.schedMoreRow.laid) #[.slice none 0 0, .int .i64 0] 8 (World.laidAll_os _ _ _)
      (shapedM os _) (by kernel_rfl) (by kernel_rfl) (by kernel_rfl) (laidM os _)) ?_
  intro W base args ds gs before hval0 hW hc _ hL _
  have hval : ∀ (j : Nat) t v, Tryz.f4.params[j]? = some t → args[j]? = some v → Value.okWide Tryz.prog W .any base t v := hval0
  have hW' := hW
  obtain ⟨p, q, hA0, hV, rfl, _, _⟩ := hW
  have hA : DataW.TrodAll enc Tryz.prog W 0 (fun _ => true) true Tryz.f4.params.toList args.toList ds p := hA0
  rw [Tryz.params4] at hA hval
  obtain ⟨v0, v1, d0, d1, p0, p1, rfl, rfl, rfl, h0, h1⟩ := trodAll_two hA
  obtain ⟨rfl, rfl⟩ := trodVars_none hV
  obtain ⟨n, zs, hn, hr⟩ := arg_ints (hval 0 22 v0 rfl rfl) h0
  obtain ⟨z, rfl, _, _, _⟩ := open_int Tryz.underlying3 (hval 1 3 v1 rfl rfl) h1
  refine (more_law z hn W (allU W) [v0, .int .i64 z] (allU_wf W) (gok_nil _ _) (.cons hr (.cons (.raw _) .nil))).mono fun e W' he => ?_
  obtain ⟨v, U', rfl, hag, _, hv⟩ := he
  cases hv
  refine ⟨_, rfl, law_post laidB ?_ rfl hW' hag.below rfl rfl fun b => trodAll_mk1 (shut_bool Tryz.underlying4 _)⟩
  intro t ht
  have hall : (Tryz.f4.params.toList.all fun t => Tryz.prog.readableRec t && decide (t < Tryz.prog.types.size)) = true := by kernel_rfl
  have h2 := List.all_eq_true.1 hall t ht
  rw [Bool.and_eq_true] at h2
  exact ⟨h2.1, of_decide_eq_true h2.2⟩
theorem schedMore_joined : joinedFacts Tryz.pinned.checked.prog 4 Tryz.f4 Rows.schedMoreSpec Rows.schedMoreRow = true := by kernel_rfl
theorem schedMore_row : Rows.SchedMoreSaid :=
  OpenClaim.holds_of_wide 4 Tryz.f4 rfl rfl rfl rfl rfl rfl rfl ⟨rfl, rfl, rfl, rfl, rfl⟩ rfl rfl rfl rfl rfl (by kernel_rfl) Tryz.func4 schedMore_joined
    (of_decide_eq_true (by kernel_rfl)) (by unfold Func.isWrapper; first | (rw [if_pos (by decide +kernel)]; kernel_rfl) | (rw [if_neg (by decide +kernel)]; exact ⟨rfl, rfl⟩))
    (fun os started H enc _ => schedMore_lifted os started H enc)
theorem schedMore_holds : Rows.SchedMoreCardSaid :=
  Claim7.holds_tied_plain_at .later [] [.data, .data, .data, .data, .sentinel, .sentinel, .pinned, .pinned] true (true, "068eabffc2eb74e4b33c04797ec8eb469a261a43229456563fd220cfe52371a7") true schedMore_row (fun _ h => by cases h) (by kernel_rfl) (fun _ h => by cases h) schedMore_row_tie rfl ⟨rfl, rfl⟩ (by kernel_rfl) rfl
    (fun f fn hf hfn => by
      obtain rfl : f = 4 := Option.some.inj ((show Tryz.prog.funcNamed "pentrough/pentroughlaw21.SchedMore" = some 4 by kernel_rfl).symm.trans hf) |>.symm
      obtain rfl : fn = Tryz.f4 := (Option.some.inj (Tryz.func4.symm.trans hfn)).symm
      exact ⟨by kernel_rfl, fun j t ht => by
        rw [Tryz.params4] at ht
        have hm : t ∈ [22, 3] := by simpa using Array.mem_of_getElem? ht
        have hall : ([22, 3].all fun u => !Tryz.prog.wantsStandIn u) = true := by kernel_rfl
        exact (show Tryz.prog.wantsStandIn t = false by simpa using List.all_eq_true.1 hall t hm)⟩)
    (by kernel_rfl)
#print axioms schedMore_holds
end Go.Proofs.YtnohaiobpmmomaaGreatDoor
