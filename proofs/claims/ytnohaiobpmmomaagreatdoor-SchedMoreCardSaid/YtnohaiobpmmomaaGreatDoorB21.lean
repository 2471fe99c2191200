/- A part of a logic over data for the given program's language: rules for single operations and walks as functions. -/
import Derived.Test.YtnohaiobpmmomaaGreatDoorB20
set_option linter.unusedVariables false
set_option linter.unusedSimpArgs false
namespace Go.Pt
open Go.RowKit

/-! ### Guards -/
/-- Is the operation wanted? -/
def wantX (l : List Oper) (F : List (Nat × AV)) : Option (Nat × Bool) → Option Bool
  | none => some true
  | some (j, want) => match (l[j]?).bind (·.dst) with
    | some t => match lkt F t with
      | some (.d (.raw (.bool b))) => some (b == want)
      | some (.d (.raw (.tuple _))) => some false
      | _ => none
    | none => none
section
variable {P : Program} {ops : Array Oper} {Q : Exit → Act → World → Prop} {k : K0} {N : Nat}
theorem wantX_ok {F : List (Nat × AV)} {H : List (Nat × Ent)} {o : Oper} {b : Bool} (h : wantX ops.toList F o.guard = some b) : ∀ a w, SR k N F H a w → Region.wanted o (yielded ops a.tmps) = b := by
  intro a w hs
  obtain ⟨U, γ, hm, hf⟩ := hs
  unfold Region.wanted
  cases hg : o.guard with
  | none => rw [hg] at h; simp [wantX] at h; simp [h]
  | some g =>
    obtain ⟨j, want⟩ := g
    rw [hg] at h
    simp only [wantX] at h
    have he : ops.toList[j]? = ops[j]? := by simp
    rw [he] at h
    unfold yielded
    cases hd : (ops[j]?).bind (·.dst) with
    | none => simp [hd] at h
    | some t =>
      simp only [hd, Option.bind_some] at h ⊢
      split at h
      · rename_i b' hl
        cases h
        obtain ⟨hl1, hl2⟩ := lkt_some hl
        have h0 := hf.slot t _ hl2
        rw [val_tmp hl1] at h0
        have h1 := h0.raw_eq
        have : a.tmps[t]? = some (.bool b') := by
          rw [Array.getD_eq_getD_getElem?] at h1
          cases hq : a.tmps[t]? with
          | none => rw [hq] at h1; simp [undef] at h1
          | some v => rw [hq] at h1; simpa using h1
        simp only [this]
        cases b' <;> cases want <;> rfl
      · rename_i v hl
        cases h
        obtain ⟨hl1, hl2⟩ := lkt_some hl
        have h0 := hf.slot t _ hl2
        rw [val_tmp hl1] at h0
        have h1 := h0.raw_eq
        cases hq : a.tmps[t]? with
        | none => rfl
        | some u =>
          rw [Array.getD_eq_getD_getElem?, hq] at h1
          simp at h1
          subst h1
          rfl
      · cases h
theorem OS.skip {F : List (Nat × AV)} {H : List (Nat × Ent)} {o : Oper} (h : ∀ a w, SR k N F H a w → Region.wanted o (yielded ops a.tmps) = false) :
    OS P ops Q o (SR k N F H) (SR k N (match o.dst with
      | some d => bif Nat.blt d N then (d, .d (.raw undef)) :: F else F
      | none => F) H) := by
  refine OS.off h fun a w hs => ?_
  obtain ⟨U, γ, hm, hf⟩ := hs
  cases hd : o.dst with
  | none => exact ⟨U, γ, hm, hf⟩
  | some d =>
    cases hb : Nat.blt d N with
    | true =>
      simp only [hb, cond_true]
      exact ⟨U, γ, hm, hf.put (ExtA.refl _ _ _) (Nat.le_of_ble_eq_true hb) (.d (.raw _))⟩
    | false =>
      simp only [hb, cond_false]
      refine ⟨U, γ, hm, ?_⟩
      have hge : N ≤ d := by
        rcases Nat.lt_or_ge d N with h1 | h1
        · have : Nat.blt d N = true := Nat.ble_eq_true_of_le h1
          rw [this] at hb; cases hb
        · exact h1
      have hsz := hf.size
      have : a.tmps.setIfInBounds d undef = a.tmps := by
        apply Array.ext_getElem?
        intro i
        rw [Array.getElem?_setIfInBounds]
        split
        · rename_i h1; subst h1
          rw [if_neg (by omega)]
          exact (Array.getElem?_eq_none (by omega)).symm
        · rfl
      exact ⟨by simp [Act.put, hsz], hf.cap, by simp [Act.put, hf.defers], fun t y hy => by simpa [Act.put, val, this] using hf.slot t y hy⟩
end

def stepX (P : Program) (call : FuncId → List DV → Option RV) (inl : InlX) (N : Nat) (l : List Oper) (S : St) (o : Oper) : Option (Bool × St) :=
  match wantX l S.F o.guard with
  | some true => opX P call inl S o.dst N o.op
  | some false => some (true, ⟨match o.dst with
      | some d => bif Nat.blt d N then (d, .d (.raw undef)) :: S.F else S.F
      | none => S.F, S.H, S.nx⟩)
  | none => none
def opsX (P : Program) (call : FuncId → List DV → Option RV) (inl : InlX) (N : Nat) (all : List Oper) : List Oper → St → Option (Bool × St)
  | [], S => some (true, S)
  | o :: r, S => match stepX P call inl N all S o with
    | some (b, S1) => match opsX P call inl N all r S1 with
      | some (b', S2) => some (b && b', S2)
      | none => none
    | none => none
section
variable {P : Program} {ops : Array Oper} {Q : Exit → Act → World → Prop} {k : K0} {N : Nat} {call : FuncId → List DV → Option RV} {inl : InlX} {gl : List (Nat × AV)}
theorem stepX_ok (hkg : k.gl = gl) (hcall : CallOk gl P call) (hin : InlOk gl P inl) {S S' : St} (hf : Fr S.H S.nx) {o : Oper} {b : Bool} (h : stepX P call inl N ops.toList S o = some (b, S')) (hb : b = true) : Fr S'.H S'.nx ∧ OS P ops Q o (SR k N S.F S.H) (SR k N S'.F S'.H) := by
  unfold stepX at h
  split at h
  · rename_i hw
    have h1 := opX_ok (ops := ops) (Q := Q) (k := k) (N := N) (ty := o.type) (pos := o.pos) (after := o.after) hkg hcall hin hf h hb
    refine ⟨h1.1, OS.on (o := o) ?_ (fun a w hs => wantX_ok hw a w hs)⟩
    exact h1.2
  · rename_i hw
    cases h
    exact ⟨hf, OS.skip (fun a w hs => wantX_ok hw a w hs)⟩
  · cases h
theorem opsX_ok (hkg : k.gl = gl) (hcall : CallOk gl P call) (hin : InlOk gl P inl) : ∀ {l : List Oper} {S S' : St} {b : Bool}, Fr S.H S.nx → opsX P call inl N ops.toList l S = some (b, S') → b = true → Fr S'.H S'.nx ∧ (AQ Q .normal (SR k N S'.F S'.H) → AL P ops Q l (SR k N S.F S.H))
  | [], S, S', b, hf, h, hb => by simp only [opsX, Option.some.injEq, Prod.mk.injEq] at h; obtain ⟨_, rfl⟩ := h; exact ⟨hf, AL.nil⟩
  | o :: r, S, S', b, hf, h, hb => by
    simp only [opsX] at h
    split at h
    · rename_i b1 S1 h1
      split at h
      · rename_i b2 S2 h2
        cases h
        rw [Bool.and_eq_true] at hb
        obtain ⟨g1, g2⟩ := stepX_ok (Q := Q) (k := k) hkg hcall hin hf h1 hb.1
        obtain ⟨g3, g4⟩ := opsX_ok hkg hcall hin g1 h2 hb.2
        exact ⟨g3, fun hq => AL.step g2 (g4 hq)⟩
      · cases h
    · cases h
end
end Go.Pt
