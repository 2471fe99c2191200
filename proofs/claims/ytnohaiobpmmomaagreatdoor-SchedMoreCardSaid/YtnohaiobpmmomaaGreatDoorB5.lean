/- A part of a logic over data for the given program's language: rules for single operations and walks as functions. -/
import Derived.Test.YtnohaiobpmmomaaGreatDoorB4
set_option linter.unusedVariables false
set_option linter.unusedSimpArgs false
namespace Go.Pt
open Go.RowKit

/-! ### Types: what the program's table says, each asked once by the kernel -/
def aggB (P : Program) (t : TypeId) : Option Bool := (P.underlying t).map fun | .struct _ | .array _ _ => true | _ => false
/-- size in cells, and whether it is an aggregate. -/
def szB (P : Program) (t : TypeId) : Option (Nat × Bool) := (P.info? t).bind fun i => (aggB P t).map fun b => (i.size, b)
/-- a field: offset, size, aggregate? -/
def fldB (P : Program) (t : TypeId) (f : Nat) : Option (Nat × Nat × Bool) :=
  (P.underlying t).bind fun | .struct fs => (fs[f]?).bind fun fl => (szB P fl.type).map fun s => (fl.offset, s.1, s.2) | _ => none
/-- an array: length, element's size. -/
def arrB (P : Program) (t : TypeId) : Option (Nat × Nat × Bool) := (P.underlying t).bind fun | .array n e => (szB P e).map fun s => (n, s.1, s.2) | _ => none
/-- a slice: element, its size in cells, aggregate?, its bytes. -/
def slB (P : Program) (t : TypeId) : Option (TypeId × Nat × Bool × Nat) := (P.underlying t).bind fun | .slice e => (szB P e).bind fun s => (P.info? e).map fun i => (e, s.1, s.2, i.bytes) | _ => none
/-- the zero value's cells. -/
def zeroB (P : Program) (t : TypeId) : Option Value := (P.info? t).bind (·.zero)

section
variable {P : Program} {w : World}
theorem run_isAgg {t : TypeId} {b : Bool} (h : aggB P t = some b) : (isAgg t).run P w = .ok b w := by
  unfold aggB at h
  cases hu : P.underlying t with
  | none => simp [hu] at h
  | some D =>
    unfold isAgg
    rw [Sem.run_bind, run_underlying hu w]
    rw [hu] at h
    cases D <;> simp at h <;> subst h <;> simp
theorem szB_info {t : TypeId} {n : Nat} {b : Bool} (h : szB P t = some (n, b)) : ∃ i, P.info? t = some i ∧ i.size = n ∧ aggB P t = some b := by
  unfold szB at h
  cases hi : P.info? t with
  | none => simp [hi] at h
  | some i =>
    cases hb : aggB P t with
    | none => simp [hi, hb] at h
    | some b' => simp [hi, hb] at h; exact ⟨i, rfl, h.1, by rw [h.2]⟩
theorem run_szOf {t : TypeId} {n : Nat} {b : Bool} (h : szB P t = some (n, b)) : (sizeOf t).run P w = .ok n w := by
  obtain ⟨i, hi, hn, _⟩ := szB_info h
  simp [sizeOf, typeInfo, hi, hn]
theorem run_part {t : TypeId} {n : Nat} {b : Bool} (h : szB P t = some (n, b)) (cs : Array Value) (off : Nat) {v : Value} (hv : (if b then some (.agg (cs.extract off (off + n))) else cs[off]?) = some v) : (part t cs off).run P w = .ok v w := by
  obtain ⟨i, hi, hn, hb⟩ := szB_info h
  unfold part
  rw [Sem.run_bind, run_isAgg hb]
  cases b
  · simp at hv; simp [hv]
  · simp at hv; subst hv; simp [run_szOf h]
theorem run_zero {t : TypeId} {z : Value} (h : zeroB P t = some z) : (zeroValue t).run P w = .ok z w := by
  unfold zeroB at h
  cases hi : P.info? t with
  | none => simp [hi] at h
  | some i => simp [hi] at h; simp [zeroValue, typeInfo, hi, h]
theorem fldB_info {t : TypeId} {f off n : Nat} {b : Bool} (h : fldB P t f = some (off, n, b)) : ∃ fs fl, P.underlying t = some (.struct fs) ∧ fs[f]? = some fl ∧ fl.offset = off ∧ szB P fl.type = some (n, b) := by
  unfold fldB at h
  cases hu : P.underlying t with
  | none => simp [hu] at h
  | some D =>
    rw [hu] at h
    cases D with
    | struct fs =>
      simp only [Option.bind_some] at h
      cases hf : fs[f]? with
      | none => simp [hf] at h
      | some fl =>
        cases hs : szB P fl.type with
        | none => simp [hf, hs] at h
        | some s => simp [hf, hs] at h; exact ⟨fs, fl, rfl, hf, h.1, by rw [hs]; simp [← h.2.1, ← h.2.2]⟩
    | _ => simp at h
theorem arrB_info {t : TypeId} {n s : Nat} {b : Bool} (h : arrB P t = some (n, s, b)) : ∃ e, P.underlying t = some (.array n e) ∧ szB P e = some (s, b) := by
  unfold arrB at h
  cases hu : P.underlying t with
  | none => simp [hu] at h
  | some D =>
    rw [hu] at h
    cases D with
    | array m e =>
      simp only [Option.bind_some] at h
      cases hs : szB P e with
      | none => simp [hs] at h
      | some q => simp [hs] at h; exact ⟨e, by rw [h.1], by rw [hs]; simp [← h.2.1, ← h.2.2]⟩
    | _ => simp at h
theorem slB_info {t e : TypeId} {s y : Nat} {b : Bool} (h : slB P t = some (e, s, b, y)) : P.underlying t = some (.slice e) ∧ szB P e = some (s, b) ∧ ∃ i, P.info? e = some i ∧ i.bytes = y ∧ i.size = s := by
  unfold slB at h
  cases hu : P.underlying t with
  | none => simp [hu] at h
  | some D =>
    rw [hu] at h
    cases D with
    | slice e' =>
      simp only [Option.bind_some] at h
      cases hs : szB P e' with
      | none => simp [hs] at h
      | some q =>
        cases hi : P.info? e' with
        | none => simp [hs, hi] at h
        | some i =>
          simp [hs, hi] at h
          obtain ⟨rfl, h2, h3, h4⟩ := h
          obtain ⟨i', hi', hn, _⟩ := szB_info (n := q.1) (b := q.2) hs
          rw [hi] at hi'; cases hi'
          exact ⟨rfl, by rw [hs]; simp [← h2, ← h3], i, hi, h4, by rw [hn, h2]⟩
    | _ => simp at h
end

/-! ### Aggregates -/
/-- The cells of a value. -/
def cellsA : AV → Option (List AV)
  | .agg cs => some cs
  | .d (.agg cs) => some (cs.map .d)
  | _ => none
theorem cellsA_RA {W : World} {U : Nat → Nat} {γ : Nat → Option Value} {x : AV} {cs : List AV} {v : Value} (hc : cellsA x = some cs) (h : RA W U γ x v) : ∃ vs, v = .agg (List.toArray vs) ∧ RAs W U γ cs vs := by
  cases h with
  | agg hr => simp [cellsA] at hc; subst hc; exact ⟨_, rfl, hr⟩
  | d hd =>
    cases hd with
    | agg hr => simp [cellsA] at hc; subst hc; exact ⟨_, rfl, RAs.of_RDs hr⟩
    | _ => simp [cellsA] at hc
  | _ => simp [cellsA] at hc
/-- A part of some cells: a cell, or an aggregate. -/
def sub (cs : List AV) (off n : Nat) (b : Bool) : Option AV := bif b then some (.agg ((cs.drop off).take n)) else (cs.drop off).head?
theorem sub_RA {W : World} {U : Nat → Nat} {γ : Nat → Option Value} {cs : List AV} {vs : List Value} (h : RAs W U γ cs vs) {off n : Nat} {b : Bool} {x : AV} (hx : sub cs off n b = some x) :
    ∃ v, (if b then some (.agg ((List.toArray vs).extract off (off + n))) else (List.toArray vs)[off]?) = some v ∧ RA W U γ x v := by
  cases b
  · simp only [sub, cond_false] at hx
    rw [List.head?_drop] at hx
    obtain ⟨v, h1, h2⟩ := h.get hx
    exact ⟨v, by simpa using h1, h2⟩
  · simp only [sub, cond_true, Option.some.injEq] at hx
    subst hx
    refine ⟨_, rfl, ?_⟩
    have := (h.drop off).take n
    have e : (List.toArray vs).extract off (off + n) = ((vs.drop off).take n).toArray := by
      apply Array.ext'
      simp [List.extract_eq_take_drop]
    rw [e]
    exact .agg this
section
variable {P : Program} {ops : Array Oper} {Q : Exit → Act → World → Prop} {k : K0} {N : Nat} {F : List (Nat × AV)} {H : List (Nat × Ent)}
variable {ty : TypeId} {pos : String} {after : Array Edge} {d : Nat}
theorem OS.field {t : TypeId} {x : Operand} {f off n : Nat} {b : Bool} {y z : AV} {cs : List AV} (ht : fldB P t f = some (off, n, b)) (hx : ev F x = some y) (hc : cellsA y = some cs) (hz : sub cs off n b = some z) (hN : Nat.blt d N = true) :
    OS P ops Q ⟨some d, .field t x f, ty, pos, after, none⟩ (SR k N F H) (SR k N ((d, z) :: F) H) :=
  OS.plain rfl rfl hN fun act w U γ _ hf => by
    have h := ev_RA hf hx
    generalize hv : act.eval x = v at h
    obtain ⟨vs, rfl, hr⟩ := cellsA_RA hc h
    obtain ⟨fs, fl, h1, h2, h3, h4⟩ := fldB_info ht
    obtain ⟨u, h5, h6⟩ := sub_RA hr hz
    refine ⟨u, ?_, h6⟩
    unfold execOp
    simp only [hv]
    refine run_v ?_
    unfold Instr.field
    rw [Sem.run_bind, run_underlying h1]
    simp only [Result.andThen_ok, h2, asAgg, Sem.run_bind, Sem.run_pure]
    rw [h3]
    exact run_part h4 _ _ h5
end
end Go.Pt
