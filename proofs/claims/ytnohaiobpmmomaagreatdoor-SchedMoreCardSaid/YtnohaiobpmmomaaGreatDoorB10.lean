/- A part of a logic over data for the given program's language: rules for single operations and walks as functions. -/
import Derived.Test.YtnohaiobpmmomaaGreatDoorB9
set_option linter.unusedVariables false
set_option linter.unusedSimpArgs false
namespace Go.Pt
open Go.RowKit

/-! ### Closing: what the call owns is sealed and read as data -/
/-- A nil slice is an empty one. -/
def nrm : DV → DV
  | .raw (.slice none 0 0) => .sl 0 []
  | x => x
theorem nrm_RD {W : World} {U : Nat → Nat} {x : DV} {v : Value} (h : RD W U x v) : RD W U (nrm x) v := by
  unfold nrm
  split
  · cases h; exact .nil _ _
  · exact h
mutual
def clo (H : List (Nat × Ent)) : AV → Option (List (Nat × Ent) × DV)
  | .d x => some (H, nrm x)
  | .full n cs => some (H, .sl n cs)
  | .nn n cs => some (H, .sl n cs)
  | .own i => match lk H i with
    | some (.row e s n cs b) => some (bif b then H else (i, .row e s n cs true) :: H, .sl n cs)
    | _ => none
  | .agg cs => match clos H cs with
    | some (H', xs) => some (H', .agg xs)
    | none => none
  | .tup cs => match clos H cs with
    | some (H', xs) => some (H', .tup xs)
    | none => none
  | _ => none
def clos (H : List (Nat × Ent)) : List AV → Option (List (Nat × Ent) × List DV)
  | [] => some (H, [])
  | x :: r => match clo H x with
    | some (H1, y) => match clos H1 r with
      | some (H2, ys) => some (H2, y :: ys)
      | none => none
    | none => none
end

theorem MR.shutRow {k : K0} {H : List (Nat × Ent)} {W : World} {U : Nat → Nat} {γ : Nat → Option Value} (h : MR k H W U γ) {i e sz n : Nat} {cs : List DV} (hi : lk H i = some (.row e sz n cs false)) :
    ∃ U', MR k ((i, .row e sz n cs true) :: H) W U' γ ∧ ExtA W U γ W U' γ := by
  obtain ⟨v, vs, h1, h2, h3, h4⟩ := h.ent i _ hi
  rcases h2.2 with ⟨rfl, hn⟩ | ⟨b, cap, cur, rfl, _, hg, hcap, hmx, hsz, htk⟩
  · refine ⟨U, h.retell ⟨_, hi, by simp⟩ h1 ⟨_, vs, h1, h2, h3, fun b hb => by simp [blkOf] at hb⟩, ExtA.refl _ _ _⟩
  · have hU := h4 b rfl
    simp only [cond_false] at hU
    have hlt : b < W.heap.size := (Array.getElem?_eq_some_iff.1 hg).1
    refine ⟨fun b' => if b' = b then n * sz else U b', ?_⟩
    refine h.change ⟨_, hi, by simp⟩ h1 (.inr rfl) (x := some b) ⟨rfl, rfl, rfl, Nat.le_refl _, fun q _ hne => ⟨rfl, ?_⟩⟩ (fun q hq => ?_) (fun q hq => ?_) (fun ex => ⟨_, vs, h1, h2, h3.mono ex.toExt, fun q hq => ?_⟩)
    · have : q ≠ b := fun e => hne (by rw [e])
      simp [this]
    · have : q ≠ b := by omega
      simp only [if_neg this]
      exact h.wf q hq
    · cases hq
      exact ⟨fun _ _ => rfl, by simp; omega⟩
    · simp [blkOf] at hq
      simp [hq]

theorem row_reads {W : World} {U : Nat → Nat} {γ : Nat → Option Value} {i e sz n : Nat} {cs : List DV} (h : RE W U γ i (.row e sz n cs true)) {v : Value} (hv : γ i = some v) : RD W U (.sl n cs) v := by
  obtain ⟨v', vs, h1, h2, h3, h4⟩ := h
  rw [hv] at h1; cases h1
  have hl := h2.1
  rcases h2.2 with ⟨rfl, rfl⟩ | ⟨b, cap, cur, rfl, _, hg, hcap, hmx, hsz, htk⟩
  · have : cs = [] := List.eq_nil_of_length_eq_zero (by rw [h3.length, hl]; simp)
    subst this
    exact .nil _ _
  · refine .sl hcap hmx h3 (fun j u hu => ?_)
    have hc := h2.cells (g := b) rfl _ _ hu
    rw [Addr.add_mid] at hc
    have hlt : j < vs.length := by
      rcases Nat.lt_or_ge j vs.length with h | h
      · exact h
      · rw [List.getElem?_eq_none h] at hu; cases hu
    refine ⟨hc, ?_⟩
    have := h4 b rfl
    simp only [cond_true] at this
    omega

mutual
theorem clo_RD {k : K0} {W : World} : ∀ {y : AV} {H H' : List (Nat × Ent)} {x : DV} {U : Nat → Nat} {γ : Nat → Option Value} {v : Value}, clo H y = some (H', x) → MR k H W U γ → RA W U γ y v → ∃ U', MR k H' W U' γ ∧ ExtA W U γ W U' γ ∧ RD W U' x v
  | .d x, H, H', x', U, γ, v, hc, hm, hr => by
    simp only [clo, Option.some.injEq, Prod.mk.injEq] at hc
    obtain ⟨rfl, rfl⟩ := hc
    cases hr with
    | d h => exact ⟨U, hm, ExtA.refl _ _ _, nrm_RD h⟩
  | .nn n cs, H, H', x', U, γ, v, hc, hm, hr => by
    simp only [clo, Option.some.injEq, Prod.mk.injEq] at hc
    obtain ⟨rfl, rfl⟩ := hc
    cases hr with
    | nn h => exact ⟨U, hm, ExtA.refl _ _ _, h⟩
  | .full n cs, H, H', x', U, γ, v, hc, hm, hr => by
    simp only [clo, Option.some.injEq, Prod.mk.injEq] at hc
    obtain ⟨rfl, rfl⟩ := hc
    cases hr with
    | full h => exact ⟨U, hm, ExtA.refl _ _ _, h⟩
  | .own i, H, H', x', U, γ, v, hc, hm, hr => by
    simp only [clo] at hc
    cases hr with
    | own hv =>
      split at hc
      · rename_i e s n cs b hi
        simp only [Option.some.injEq, Prod.mk.injEq] at hc
        obtain ⟨rfl, rfl⟩ := hc
        cases b
        · obtain ⟨U', h1, h2⟩ := hm.shutRow hi
          refine ⟨U', h1, h2, row_reads (h1.ent i _ (lk_self _ _ _)) (h2.num _ _ hv)⟩
        · exact ⟨U, hm, ExtA.refl _ _ _, row_reads (hm.ent i _ hi) hv⟩
      · cases hc
  | .agg cs, H, H', x', U, γ, v, hc, hm, hr => by
    simp only [clo] at hc
    cases hr with
    | agg hr =>
      split at hc
      · rename_i H1 xs h1
        simp only [Option.some.injEq, Prod.mk.injEq] at hc
        obtain ⟨rfl, rfl⟩ := hc
        obtain ⟨U', h2, h3, h4⟩ := clos_RD h1 hm hr
        exact ⟨U', h2, h3, .agg h4⟩
      · cases hc
  | .tup cs, H, H', x', U, γ, v, hc, hm, hr => by
    simp only [clo] at hc
    cases hr with
    | tup hr =>
      split at hc
      · rename_i H1 xs h1
        simp only [Option.some.injEq, Prod.mk.injEq] at hc
        obtain ⟨rfl, rfl⟩ := hc
        obtain ⟨U', h2, h3, h4⟩ := clos_RD h1 hm hr
        exact ⟨U', h2, h3, .tup h4⟩
      · cases hc
  | .ptr _ _, _, _, _, _, _, _, hc, _, _ => by simp [clo] at hc
  | .rp _ _, _, _, _, _, _, _, hc, _, _ => by simp [clo] at hc
  | .ep _, _, _, _, _, _, _, hc, _, _ => by simp [clo] at hc
  | .fn _ _ _, _, _, _, _, _, _, hc, _, _ => by simp [clo] at hc
theorem clos_RD {k : K0} {W : World} : ∀ {ys : List AV} {H H' : List (Nat × Ent)} {xs : List DV} {U : Nat → Nat} {γ : Nat → Option Value} {vs : List Value}, clos H ys = some (H', xs) → MR k H W U γ → RAs W U γ ys vs → ∃ U', MR k H' W U' γ ∧ ExtA W U γ W U' γ ∧ RDs W U' xs vs
  | [], H, H', xs, U, γ, vs, hc, hm, hr => by
    simp only [clos, Option.some.injEq, Prod.mk.injEq] at hc
    obtain ⟨rfl, rfl⟩ := hc
    cases hr
    exact ⟨U, hm, ExtA.refl _ _ _, .nil⟩
  | y :: r, H, H', xs, U, γ, vs, hc, hm, hr => by
    simp only [clos] at hc
    cases hr with
    | cons hy hr =>
      split at hc
      · rename_i H1 x h1
        split at hc
        · rename_i H2 zs h2
          simp only [Option.some.injEq, Prod.mk.injEq] at hc
          obtain ⟨rfl, rfl⟩ := hc
          obtain ⟨U1, g1, g2, g3⟩ := clo_RD h1 hm hy
          obtain ⟨U2, g4, g5, g6⟩ := clos_RD h2 g1 (hr.mono g2)
          exact ⟨U2, g4, g2.trans g5, .cons (g3.mono g5.toExt) g6⟩
        · cases hc
      · cases hc
end
end Go.Pt
