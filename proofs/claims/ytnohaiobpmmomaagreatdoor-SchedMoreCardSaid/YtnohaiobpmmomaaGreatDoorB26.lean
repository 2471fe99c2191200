/- A part of a logic over data for the given program's language: rules for single operations and walks as functions. -/
import Derived.Test.YtnohaiobpmmomaaGreatDoorB25
set_option linter.unusedVariables false
set_option linter.unusedSimpArgs false
namespace Go.Pt
open Go.RowKit

/-! ### Contracts out of walks -/
/-- A function of slots that own nothing. -/
def FnA (gl : List (Nat × AV)) (P : Program) (f : FuncId) (xs : List AV) (r : RV) : Prop :=
  ∀ (W : World) (U : Nat → Nat) (vs : List Value), (∀ b, W.heap.size ≤ b → U b = 0) → Gok gl W U → RAs W U (fun _ => none) xs vs →
    Calls P f vs.toArray W fun e W' => ∃ v U', e = .returned v ∧ Agree W U W' U' none ∧ (∀ b, W'.heap.size ≤ b → U' b = 0) ∧ RVR W W' U' r v
theorem FnA.toFnC {gl : List (Nat × AV)} {P : Program} {f : FuncId} {ds : List DV} {r : RV} (h : FnA gl P f (ds.map .d) r) : FnC gl P f ds r :=
  fun W U vs wf hg hr => h W U vs wf hg (RAs.of_RDs hr)
theorem Inl.toFnA {gl : List (Nat × AV)} {P : Program} {f : FuncId} {xs : List AV} {y : AV} {H' : List (Nat × Ent)} {r : RV} (h : Inl gl P f xs [] y H') (hh : hand H' y = some r) : FnA gl P f xs r := by
  intro W U vs wf hg hr
  refine (h (k0 gl W U) W U (fun _ => none) vs rfl (MR.start wf hg) hr).mono fun e W' he => ?_
  obtain ⟨v, U', γ', rfl, h1, _, h2⟩ := he
  obtain ⟨U2, h3, h4, h5⟩ := hand_RV h1 h2 hh
  exact ⟨v, U2, rfl, h3, h4, h5⟩
/-- A nil slice is a row of nothing. -/
theorem Inl.toNil {gl : List (Nat × AV)} {P : Program} {f : FuncId} {xs : List AV} {H' : List (Nat × Ent)} (h : Inl gl P f xs [] (.d (.raw (.slice none 0 0))) H') (e sz : Nat) : FnA gl P f xs (.row e sz 0 []) := by
  intro W U vs wf hg hr
  refine (h (k0 gl W U) W U (fun _ => none) vs rfl (MR.start wf hg) hr).mono fun e' W' he => ?_
  obtain ⟨v, U', γ', rfl, h1, _, h2⟩ := he
  have hv := h2.raw_eq
  subst hv
  exact ⟨_, U', rfl, h1.keep.toAgree, h1.wf, rfl, [], World.ownsRow_nil W' 0 e sz, .nil, fun b hb => by simp [blkOf] at hb⟩
/-- A walk whose conditions are still to be shown. -/
theorem Inl.of_code {gl : List (Nat × AV)} {P : Program} (hmix : P.follows .mixedOrders = true) {lib : FuncId → List DV → Option RV} (hl : CallOk gl P lib) {m n : Nat} {f : FuncId} {fn : Func} {c : Code} {xs : List AV} {H : List (Nat × Ent)} {nx : Nat} {r : AV} {b : Bool} {e : Exit} {S' : St} (hf : P.funcs[f]? = some fn) (hb : fn.body = some c) (hN : Nat.ble xs.length fn.ntmps = true) (hcap : Nat.ble fn.ntmps gbase = true) (hfr : Fr H nx)
    (hrun : codeX P (closedX lib (callX gl P lib m)) (callX gl P lib m) fn.ntmps n c ⟨slots 0 xs ++ gl, H, nx⟩ = some (b, e, S')) (hbt : b = true) (he : e = .normal ∨ e = .ret) (hres : resX P fn.results.toList S'.F S'.H = some r) : Inl gl P f xs H r S'.H := by
  have ih := callX_ok hmix hl m
  exact Inl.of hf hb hN hcap fun k hkg => (codeX_ok (k := k) (N := fn.ntmps) hkg hmix (ih.toCall hl) ih c _ _ _ _ hfr hrun hbt).2 _ (AQ.results hres he)
/-- The walk, its conditions handed back. -/
def walkB (gl : List (Nat × AV)) (P : Program) (lib : FuncId → List DV → Option RV) (inl : InlX) (n : Nat) (f : FuncId) (xs : List AV) (H : List (Nat × Ent)) (nx : Nat) : Option (Bool × AV × List (Nat × Ent) × Nat) :=
  match P.funcs[f]? with
  | some fn => match fn.body with
    | some c => match codeX P (closedX lib inl) inl fn.ntmps n c ⟨slots 0 xs ++ gl, H, nx⟩ with
      | some (b, .ret, S') => match resX P fn.results.toList S'.F S'.H with
        | some r => some (b && (Nat.ble xs.length fn.ntmps && Nat.ble fn.ntmps gbase), r, S'.H, S'.nx)
        | none => none
      | some (b, .normal, S') => match resX P fn.results.toList S'.F S'.H with
        | some r => some (b && (Nat.ble xs.length fn.ntmps && Nat.ble fn.ntmps gbase), r, S'.H, S'.nx)
        | none => none
      | _ => none
    | none => none
  | none => none
theorem walkB_ok {gl : List (Nat × AV)} {P : Program} (hmix : P.follows .mixedOrders = true) {lib : FuncId → List DV → Option RV} (hl : CallOk gl P lib) {m n : Nat} {f : FuncId} {xs : List AV} {H : List (Nat × Ent)} {nx : Nat} {b : Bool} {r : AV} {H' : List (Nat × Ent)} {nx' : Nat} (hf : Fr H nx) (h : walkB gl P lib (callX gl P lib m) n f xs H nx = some (b, r, H', nx')) (hb : b = true) : Inl gl P f xs H r H' ∧ Fr H' nx' := by
  refine walkX_ok hmix hl (callX_ok hmix hl m) (n := n) (nx := nx) ?_ hf
  unfold walkB at h
  unfold walkX
  subst hb
  split at h
  · rename_i fn hfn
    split at h
    · rename_i c hc
      split at h
      · rename_i b1 S' h1
        split at h
        · rename_i r1 h2
          simp only [Option.some.injEq, Prod.mk.injEq, Bool.and_eq_true] at h
          obtain ⟨⟨rfl, h3⟩, rfl, rfl, rfl⟩ := h
          simp only [hfn, hc, h1, h2, h3.1, h3.2, Bool.and_self, cond_true]
        · cases h
      · rename_i b1 S' h1
        split at h
        · rename_i r1 h2
          simp only [Option.some.injEq, Prod.mk.injEq, Bool.and_eq_true] at h
          obtain ⟨⟨rfl, h3⟩, rfl, rfl, rfl⟩ := h
          simp only [hfn, hc, h1, h2, h3.1, h3.2, Bool.and_self, cond_true]
        · cases h
      · cases h
    · cases h
  · cases h
end Go.Pt
