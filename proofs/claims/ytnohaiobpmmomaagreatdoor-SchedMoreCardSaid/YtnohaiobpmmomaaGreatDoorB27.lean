/- A part of a logic over data for the given program's language: rules for single operations and walks as functions. -/
import Derived.Test.YtnohaiobpmmomaaGreatDoorB26
set_option linter.unusedVariables false
set_option linter.unusedSimpArgs false
namespace Go.Pt
open Go.RowKit

/-! ### Loops: what is known at their head -/
/-- Each of these is known there. -/
def Knows {α : Type} (F : List (Nat × α)) : List (Nat × α) → Prop
  | [] => True
  | p :: r => lk F p.1 = some p.2 ∧ Knows F r
theorem Knows.LX {α : Type} {F : List (Nat × α)} : ∀ {G : List (Nat × α)}, Knows F G → LX G F
  | [], _ => fun t x h => by simp [lk] at h
  | p :: r, h => fun t x hx => by
    obtain ⟨s, y⟩ := p
    by_cases e : s = t
    · subst e
      rw [lk_self] at hx; cases hx
      exact h.1
    · rw [lk_ne e] at hx
      exact h.2.LX t x hx
/-- The same memory, told shorter. -/
def SameH (H G : List (Nat × Ent)) : Prop := ∀ t, lk G t = lk H t
theorem SameH.refl (H : List (Nat × Ent)) : SameH H H := fun _ => rfl
theorem SameH.shadow {i : Nat} {e e' : Ent} {H G : List (Nat × Ent)} (h : SameH H G) : SameH ((i, e) :: H) ((i, e) :: (i, e') :: G) := fun t => by
  by_cases hi : i = t
  · subst hi; rw [lk_self, lk_self]
  · rw [lk_ne hi, lk_ne hi, lk_ne hi]; exact h t
theorem SameH.drop {i : Nat} {e e' : Ent} {H : List (Nat × Ent)} : SameH ((i, e) :: (i, e') :: H) ((i, e) :: H) := fun t => by
  by_cases hi : i = t
  · subst hi; rw [lk_self, lk_self]
  · rw [lk_ne hi, lk_ne hi, lk_ne hi]
section
variable {P : Program} {Q : Exit → Act → World → Prop} {k : K0} {N : Nat}
theorem SR.to {F G : List (Nat × AV)} {H J : List (Nat × Ent)} (h1 : Knows F G) (h2 : SameH H J) {a : Act} {w : World} (h : SR k N F H a w) : SR k N G J a w := h.cong h1.LX h2
/-- A code that was run, as a step of a walk. -/
theorem AC.run {gl : List (Nat × AV)} (hkg : k.gl = gl) (hmix : P.follows .mixedOrders = true) {lib : FuncId → List DV → Option RV} (hl : CallOk gl P lib) {m n : Nat} {c : Code} {S S' : St} {b : Bool} {e : Exit} (hf : Fr S.H S.nx)
    (h : codeX P (closedX lib (callX gl P lib m)) (callX gl P lib m) N n c S = some (b, e, S')) (hb : b = true) (hq : AQ Q e (SR k N S'.F S'.H)) : AC P c Q (SR k N S.F S.H) :=
  (codeX_ok hkg hmix ((callX_ok hmix hl m).toCall hl) (callX_ok hmix hl m) c S b e S' hf h hb).2 Q hq
/-- A loop whose head is told by F and H. -/
theorem AC.loopS {X : Type} {c : Code} (F : X → List (Nat × AV)) (H : X → List (Nat × Ent)) (m : X → Nat) (x0 : X)
    (round : ∀ x, AC P c (Exit.then (fun a w => ∃ y, m y < m x ∧ SR k N (F y) (H y) a w) Q) (SR k N (F x) (H x))) : AC P (.loop c) Q (SR k N (F x0) (H x0)) :=
  AC.loop (fun x => SR k N (F x) (H x)) m x0 (fun _ _ h => h) round
end
end Go.Pt
namespace Go.Pt
open Go.RowKit
section
variable {P : Program} {ops : Array Oper} {Q : Exit → Act → World → Prop} {k : K0} {N : Nat}
/-- Some operations run, the rest to come. -/
theorem AL.pre {gl : List (Nat × AV)} (hkg : k.gl = gl) {call : FuncId → List DV → Option RV} {inl : InlX} (hcall : CallOk gl P call) (hin : InlOk gl P inl) : ∀ {l1 l2 : List Oper} {S S' : St} {b : Bool}, Fr S.H S.nx → opsX P call inl N ops.toList l1 S = some (b, S') → b = true → (Fr S'.H S'.nx → AL P ops Q l2 (SR k N S'.F S'.H)) → AL P ops Q (l1 ++ l2) (SR k N S.F S.H)
  | [], l2, S, S', b, hf, h, hb, hq => by simp only [opsX, Option.some.injEq, Prod.mk.injEq] at h; obtain ⟨_, rfl⟩ := h; exact hq hf
  | o :: r, l2, S, S', b, hf, h, hb, hq => by
    simp only [opsX] at h
    split at h
    · rename_i b1 S1 h1
      split at h
      · rename_i b2 S2 h2
        cases h
        rw [Bool.and_eq_true] at hb
        obtain ⟨g1, g2⟩ := stepX_ok (Q := Q) (k := k) hkg hcall hin hf h1 hb.1
        exact AL.step g2 (AL.pre hkg hcall hin g1 h2 hb.2 hq)
      · cases h
    · cases h
end
end Go.Pt
