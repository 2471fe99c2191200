/- A part of a logic over data for the given program's language: rules for single operations and walks as functions. -/
import Derived.Test.YtnohaiobpmmomaaGreatDoorB8
import Derived.Laws.Tables
set_option linter.unusedVariables false
set_option linter.unusedSimpArgs false
namespace Go.Pt
open Go.RowKit

/-! ### Building -/
/-- The operands of a literal. -/
def evs (F : List (Nat × AV)) : List (Nat × Operand) → Option (List (Nat × AV))
  | [] => some []
  | (i, x) :: r => match ev F x, evs F r with
    | some y, some ys => some ((i, y) :: ys)
    | _, _ => none
theorem evs_RA {N : Nat} {F : List (Nat × AV)} {W : World} {U : Nat → Nat} {γ : Nat → Option Value} {a : Act} (h : FR N F W U γ a) : ∀ {l : List (Nat × Operand)} {ys : List (Nat × AV)}, evs F l = some ys →
    ys.map (·.1) = (l.map fun x => (x.1, a.eval x.2)).map (·.1) ∧ RAs W U γ (ys.map (·.2)) ((l.map fun x => (x.1, a.eval x.2)).map (·.2))
  | [], ys, he => by simp [evs] at he; subst he; exact ⟨rfl, .nil⟩
  | (i, x) :: r, ys, he => by
    simp only [evs] at he
    cases h1 : ev F x with
    | none => simp [h1] at he
    | some y =>
      cases h2 : evs F r with
      | none => simp [h1, h2] at he
      | some zs =>
        simp only [h1, h2, Option.some.injEq] at he
        subst he
        obtain ⟨h3, h4⟩ := evs_RA h h2
        exact ⟨by simpa using h3, .cons (ev_RA h h1) h4⟩
/-- What the type's table says of an aggregate: is it an array, its element's size, its fields' places, its zero value. -/
def bldB (P : Program) (t : TypeId) : Option (Bool × Nat × List (Nat × Nat) × Value) :=
  (P.info? t).bind fun it => it.zero.bind fun z => (P.underlying t).bind fun
    | .array _ e => (P.info? e).map fun ie => (true, ie.size, [], z)
    | .struct fs => (fs.toList.mapM fun (f : Field) => (P.info? f.type).map fun (i : TypeInfo) => (f.offset, i.size)).map fun l => (false, 0, l, z)
    | _ => none
def plc (b : Bool) (s : Nat) (l : List (Nat × Nat)) : Nat → Option (Nat × Nat) := fun i => bif b then some (i * s, s) else l[i]?
theorem built_of {P : Program} {t : TypeId} {b : Bool} {s : Nat} {l : List (Nat × Nat)} {z : Value} (h : bldB P t = some (b, s, l, z)) (qs : List (Nat × Value)) : P.built t qs = Instr.fill (plc b s l) z.cells qs := by
  unfold bldB at h
  unfold Program.built
  cases hi : P.info? t with
  | none => simp [hi] at h
  | some it =>
    cases hz : it.zero with
    | none => simp [hi, hz] at h
    | some z' =>
      cases hu : P.underlying t with
      | none => simp [hi, hz, hu] at h
      | some D =>
        simp only [hi, hz, hu, Option.bind_some] at h
        cases D <;> try (simp at h; done)
        case array n e =>
          cases he : P.info? e with
          | none => simp [he] at h
          | some ie =>
            simp [he] at h
            obtain ⟨rfl, rfl, rfl, rfl⟩ := h
            simp only [hz, he]
            rfl
        case struct fs =>
          cases hm : fs.toList.mapM (fun (f : Field) => (P.info? f.type).map fun (i : TypeInfo) => (f.offset, i.size)) with
          | none => simp [hm] at h
          | some l' =>
            simp [hm] at h
            obtain ⟨rfl, rfl, rfl, rfl⟩ := h
            simp only [hm, hz]
            congr 1
            funext i
            simp [plc]

section
variable {P : Program} {ops : Array Oper} {Q : Exit → Act → World → Prop} {k : K0} {N : Nat} {F : List (Nat × AV)} {H : List (Nat × Ent)}
variable {ty : TypeId} {pos : String} {after : Array Edge} {d : Nat}
theorem OS.build {t : TypeId} {parts : Array (Nat × Operand)} {b : Bool} {s : Nat} {l : List (Nat × Nat)} {z : Value} {ps : List (Nat × AV)} {cs : List AV} (ht : bldB P t = some (b, s, l, z)) (hp : evs F parts.toList = some ps) (hc : fillA (plc b s l) (rawsA z.cells.toList) ps = some cs) (hN : Nat.blt d N = true) :
    OS P ops Q ⟨some d, .build t parts, ty, pos, after, none⟩ (SR k N F H) (SR k N ((d, .agg cs) :: F) H) :=
  OS.plain rfl rfl hN fun act w U γ hm hf => by
    obtain ⟨h1, h2⟩ := evs_RA hf hp
    obtain ⟨vs', h3, h4⟩ := fill_RA hm.one (vs := z.cells) (rawsA_RA _) h1 h2 hc
    refine ⟨.agg vs', ?_, ?_⟩
    · unfold execOp
      refine run_v ?_
      refine run_build w t _ _ ?_
      rw [built_of ht, Array.toList_map]
      exact h3
    · have := RA.agg h4
      simpa using this
/-- The parts of a slice's literal, side by side. -/
def dense (s : Nat) : Nat → List (Nat × AV) → Option (List AV)
  | _, [] => some []
  | k, (i, y) :: r => match cells1 y, dense s (k + 1) r with
    | some ns, some cs => bif Nat.beq i k && Nat.beq ns.length s then some (ns ++ cs) else none
    | _, _ => none
theorem dense_fill (s : Nat) : ∀ (ps : List (Nat × AV)) (k : Nat) (cs pre : List AV) (post : List AV), dense s k ps = some cs → pre.length = k * s → post.length = cs.length → fillA (fun i => some (i * s, s)) (pre ++ post) ps = some (pre ++ cs)
  | [], k, cs, pre, post, h, _, hl => by simp [dense] at h; subst h; simp at hl; subst hl; rfl
  | (i, y) :: r, k, cs, pre, post, h, hp, hl => by
    simp only [dense] at h
    cases h1 : cells1 y with
    | none => simp [h1] at h
    | some ns =>
      cases h2 : dense s (k + 1) r with
      | none => simp [h1, h2] at h
      | some cs' =>
        simp only [h1, h2] at h
        cases hb : Nat.beq i k && Nat.beq ns.length s with
        | false => simp [hb] at h
        | true =>
          simp only [hb, cond_true, Option.some.injEq] at h
          subst h
          rw [Bool.and_eq_true] at hb
          have e1 : i = k := Nat.eq_of_beq_eq_true hb.1
          have e2 : ns.length = s := Nat.eq_of_beq_eq_true hb.2
          subst e1
          have hle : Nat.ble (i * s + s) (pre ++ post).length = true := by
            apply Nat.ble_eq_true_of_le
            simp only [List.length_append] at hl ⊢
            omega
          simp only [fillA, h1, e2, Nat.beq_refl, hle, Bool.and_self, cond_true]
          have hput : putA (pre ++ post) (i * s) ns = (pre ++ ns) ++ post.drop s := by
            unfold putA
            rw [← hp, List.take_left, List.drop_append]
            simp [e2]
          rw [hput]
          have := dense_fill s r (i + 1) cs' (pre ++ ns) (post.drop s) h2 (by simp [hp, e2, Nat.add_mul]) (by simp at hl ⊢; omega)
          simpa using this
end
end Go.Pt
