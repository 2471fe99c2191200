/- Lays the row of SchedFair: whatever the list of picks, the law answers true and the list reads as before. -/
import Derived.Test.YtnohaiobpmmomaaGreatDoorPure
import Derived.Test.YtnohaiobpmmomaaGreatDoorTie
import Derived.Test.YtnohaiobpmmomaaGreatDoorCards
import Derived.ProofKit
import Derived.OpenShut
import Derived.LaidMore
import Derived.Lay
import Derived.SevenTiedAt
import Derived.Stop.Joined
set_option linter.unusedVariables false
set_option maxRecDepth 100000
namespace Go.Proofs.YtnohaiobpmmomaaGreatDoor
open Go Go.Pt Go.ChangeShapes Go.WideShapes Go.ChangeAt Go.RowKit

theorem own : ownKnob Tryz.prog.godebug = none := by kernel_rfl
theorem laidB : laidOutB Tryz.prog = true := by kernel_rfl
theorem shapedF (os : Os) (args : Array Value) : ((World.laidAll Tryz.prog os Rows.schedFairRow.laid).forCall (fun _ _ => 0) ⟨#[], args, []⟩).Shaped Tryz.prog := World.shaped_of_ZipB (by kernel_rfl) (by kernel_rfl)
theorem laidF (os : Os) (args : Array Value) : laidMetH Tryz.prog Rows.schedFairRow.laid ((World.laidAll Tryz.prog os Rows.schedFairRow.laid).forCall (fun _ _ => 0) ⟨#[], args, []⟩).memory := by
  rw [MakeChecks.laidMetH_plain _ _ _ (by kernel_rfl)]
  exact laidMet_laidAll _ (by kernel_rfl) (by kernel_rfl)
/-- A list of whole numbers as it is handed: its data. -/
theorem arg_ints {H : Type} {enc : TypeId × Value → H} {W : World} {v : Value} {d : DataW H} {ps : List MemPlace} {b : Nat} (hval : Value.okWide Tryz.prog W .any b 22 v) (h : DataW.Trod enc Tryz.prog W 0 (fun _ => true) true 22 v d ps) : ∃ n zs, zs.length = n ∧ RD W (allU W) (.sl n (intsD .i64 zs)) v := by
  obtain ⟨fuel, hf⟩ := h
  have hc3 : Tryz.prog.cellsOf 3 = 1 := by kernel_rfl
  obtain ⟨a0, len0, cap0, rfl⟩ := okWide_slice Tryz.underlying22 hval
  rcases open_ints Tryz.underlying22 Tryz.underlying3 hc3 hf with ⟨hcs, _⟩ | ⟨a, len, cap, zs, hcs, _, hlc, hm, hlen, _, hcell, _⟩
  · simp [Value.cells] at hcs
    obtain ⟨rfl, rfl, rfl⟩ := hcs
    exact ⟨0, [], rfl, .nil _ _⟩
  · simp [Value.cells] at hcs
    obtain ⟨rfl, rfl, rfl⟩ := hcs
    have hle : len0 ≤ zs.length := by rw [hlen]; split <;> omega
    exact ⟨len0, zs.take len0, by rw [List.length_take]; omega, RD.ints hlc (by simpa [maxLen] using hm) hle hcell⟩
end Go.Proofs.YtnohaiobpmmomaaGreatDoor
