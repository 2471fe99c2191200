/- A part of the proof: contracts of functions of the given program, out of walks over data. -/
import Derived.Test.YtnohaiobpmmomaaGreatDoorB26
import Derived.Test.YtnohaiobpmmomaaGreatDoorProg
set_option linter.unusedVariables false
set_option linter.unusedSimpArgs false
set_option maxRecDepth 100000
namespace Go.Pt
open Go.Proofs
theorem mixes : Tryz.prog.follows .mixedOrders = true := by kernel_rfl
theorem noLib : CallOk [] Tryz.prog (fun _ _ => none) := fun f ds rv h => by cases h
theorem ai {x y : Bool} (h1 : x = true) (h2 : y = true) : (x && y) = true := by rw [h1, h2]; rfl

/-! ### slices.Clone -/
/-- What a clone may be of: as many cells as it says, and not too many. -/
def flat1 (n : Nat) (cs : List DV) : Bool := Nat.beq cs.length n && (Nat.ble n 1000000 && onesA (cs.map .d))
theorem flat1_ok {n : Nat} {cs : List DV} (h : flat1 n cs = true) : cs.length = n ∧ n ≤ 1000000 ∧ onesA (cs.map .d) = true := by
  simp only [flat1, Bool.and_eq_true] at h
  exact ⟨Nat.eq_of_beq_eq_true h.1, Nat.le_of_ble_eq_true h.2.1, h.2.2⟩
theorem clone_of {f e sz : Nat} (h1 : ∀ n cs, flat1 n cs = true → FnA [] Tryz.prog f [.nn n cs] (.row e sz n cs)) (h2 : ∀ k, FnA [] Tryz.prog f [.d (.raw (.slice none 0 k))] (.row e sz 0 [])) {n : Nat} {cs : List DV} (h : flat1 n cs = true) : FnC [] Tryz.prog f [.sl n cs] (.row e sz n cs) := by
  intro W U vs wf hg hr
  cases hr with
  | cons hv hr =>
    cases hr
    cases hv with
    | nil a k =>
      cases a with
      | none => exact h2 k W U _ wf hg (.cons (.d (.raw _)) .nil)
      | some a => exact h1 0 [] rfl W U _ wf hg (.cons (.nn (.nil _ _)) .nil)
    | sl hk hm hrr hc => exact h1 n cs h W U _ wf hg (.cons (.nn (.sl hk hm hrr hc)) .nil)
theorem clone_nn (n : Nat) (cs : List DV) (h1 : cs.length = n) (h2 : n ≤ 1000000) (h3 : onesA (cs.map .d) = true) : Inl [] Tryz.prog 64 [.nn n cs] [] (.own 5) ((5, .row 3 1 (0 + n) ([] ++ cs) false) :: (3, .dead) :: (3, .row 3 1 0 [] false) :: []) := by
  refine (walkB_ok mixes noLib (m := 0) (n := 5) (nx := 0) (Fr.nil 0) rfl ?_).1
  repeat' (refine ai ?_ ?_)
  all_goals first
    | exact h3
    | (show Nat.beq cs.length (n * 1) = true; rw [h1, Nat.mul_one]; exact Nat.beq_refl n)
    | (show decide (0 + n ≤ 9223372036854775807) = true; exact decide_eq_true (by omega))
    | (show decide ((0 + n) * 8 ≤ 140737488355328) = true; exact decide_eq_true (by omega))
    | rfl
theorem clone_nil (k : Nat) : Inl [] Tryz.prog 64 [.d (.raw (.slice none 0 k))] [] (.d (.raw (.slice none 0 0))) [] := by
  refine (walkB_ok mixes noLib (m := 0) (n := 5) (nx := 0) (Fr.nil 0) rfl ?_).1
  repeat' (refine ai ?_ ?_)
  all_goals rfl
theorem clone_int {n : Nat} {cs : List DV} (h : flat1 n cs = true) : FnC [] Tryz.prog 64 [.sl n cs] (.row 3 1 n cs) := by
  refine clone_of (fun n cs h => ?_) (fun k => (clone_nil k).toNil 3 1) h
  obtain ⟨h1, h2, h3⟩ := flat1_ok h
  have := (clone_nn n cs h1 h2 h3).toFnA (r := .row 3 1 (0 + n) ([] ++ cs)) rfl
  simpa using this
theorem cloneb_nn (n : Nat) (cs : List DV) (h1 : cs.length = n) (h2 : n ≤ 1000000) (h3 : onesA (cs.map .d) = true) : Inl [] Tryz.prog 56 [.nn n cs] [] (.own 5) ((5, .row 5 1 (0 + n) ([] ++ cs) false) :: (3, .dead) :: (3, .row 5 1 0 [] false) :: []) := by
  refine (walkB_ok mixes noLib (m := 0) (n := 5) (nx := 0) (Fr.nil 0) rfl ?_).1
  repeat' (refine ai ?_ ?_)
  all_goals first
    | exact h3
    | (show Nat.beq cs.length (n * 1) = true; rw [h1, Nat.mul_one]; exact Nat.beq_refl n)
    | (show decide (0 + n ≤ 9223372036854775807) = true; exact decide_eq_true (by omega))
    | (show decide ((0 + n) * 1 ≤ 140737488355328) = true; exact decide_eq_true (by omega))
    | rfl
theorem cloneb_nil (k : Nat) : Inl [] Tryz.prog 56 [.d (.raw (.slice none 0 k))] [] (.d (.raw (.slice none 0 0))) [] := by
  refine (walkB_ok mixes noLib (m := 0) (n := 5) (nx := 0) (Fr.nil 0) rfl ?_).1
  repeat' (refine ai ?_ ?_)
  all_goals rfl
theorem clone_byte {n : Nat} {cs : List DV} (h : flat1 n cs = true) : FnC [] Tryz.prog 56 [.sl n cs] (.row 5 1 n cs) := by
  refine clone_of (fun n cs h => ?_) (fun k => (cloneb_nil k).toNil 5 1) h
  obtain ⟨h1, h2, h3⟩ := flat1_ok h
  have := (cloneb_nn n cs h1 h2 h3).toFnA (r := .row 5 1 (0 + n) ([] ++ cs)) rfl
  simpa using this
end Go.Pt
