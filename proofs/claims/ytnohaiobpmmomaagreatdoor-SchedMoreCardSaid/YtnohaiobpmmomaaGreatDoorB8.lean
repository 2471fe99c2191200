/- A part of a logic over data for the given program's language: rules for single operations and walks as functions. -/
import Derived.Test.YtnohaiobpmmomaaGreatDoorB7
import Derived.WalkSpells
set_option linter.unusedVariables false
set_option linter.unusedSimpArgs false
namespace Go.Pt
open Go.RowKit

section
variable {P : Program} {ops : Array Oper} {Q : Exit → Act → World → Prop} {k : K0} {N : Nat} {F : List (Nat × AV)} {H : List (Nat × Ent)}
variable {ty : TypeId} {pos : String} {after : Array Edge} {d : Nat}

/-! ### New variables, aggregates, literals -/
def rawsA (l : List Value) : List AV := l.map fun v => .d (.raw v)
theorem rawsA_RA {W : World} {U : Nat → Nat} {γ : Nat → Option Value} : ∀ l : List Value, RAs W U γ (rawsA l) l
  | [] => .nil
  | v :: r => .cons (.d (.raw v)) (rawsA_RA r)
theorem OS.alloc {T : TypeId} {z : Value} {i : Nat} (hz : zeroB P T = some z) (hi : lk H i = none) (hN : Nat.blt d N = true) :
    OS P ops Q ⟨some d, .alloc T, ty, pos, after, none⟩ (SR k N F H) (SR k N ((d, .ptr i 0) :: F) ((i, .box T (rawsA z.cells.toList)) :: H)) :=
  OS.of_value rfl fun act w hs => by
    obtain ⟨U, γ, hm, hf⟩ := hs
    have := hm.box hi T (rawsA_RA z.cells.toList)
    refine ⟨.pointer (some ⟨w.heap.size, 0, none⟩), w.alloc (.cells z.cells.toList.toArray T), ?_, _, _, this.1, hf.put this.2 (Nat.le_of_ble_eq_true hN) (.ptr (upd_self _ _ _))⟩
    unfold execOp
    refine run_v ?_
    unfold Instr.alloc
    rw [Sem.run_bind, run_zero hz]
    rfl
theorem OS.box {T : TypeId} {x : Operand} {y : AV} {cs : List AV} {i : Nat} (hx : ev F x = some y) (hc : cells1 y = some cs) (hi : lk H i = none) (hN : Nat.blt d N = true) :
    OS P ops Q ⟨some d, .box T x, ty, pos, after, none⟩ (SR k N F H) (SR k N ((d, .ptr i 0) :: F) ((i, .box T cs) :: H)) :=
  OS.of_value rfl fun act w hs => by
    obtain ⟨U, γ, hm, hf⟩ := hs
    have := hm.box hi T (cells1_RA hm.one (ev_RA hf hx) hc)
    refine ⟨.pointer (some ⟨w.heap.size, 0, none⟩), w.alloc (.cells (act.eval x).cells.toList.toArray T), ?_, _, _, this.1, hf.put this.2 (Nat.le_of_ble_eq_true hN) (.ptr (upd_self _ _ _))⟩
    unfold execOp
    refine run_v ?_
    rfl
/-- Parts put into cells, each at its place. -/
def fillA (place : Nat → Option (Nat × Nat)) : List AV → List (Nat × AV) → Option (List AV)
  | cs, [] => some cs
  | cs, (i, y) :: r => match place i, cells1 y with
    | some (off, n), some ns => bif Nat.beq ns.length n && Nat.ble (off + n) cs.length then fillA place (putA cs off ns) r else none
    | _, _ => none
theorem fold_set (off : Nat) : ∀ (us : List Value) (j : Nat) (cs : Array Value), off + j + us.length ≤ cs.size →
    ((us.zipIdx j).foldl (fun (cs : Array Value) (c : Value × Nat) => cs.setIfInBounds (off + c.2) c.1) cs).toList = cs.toList.take (off + j) ++ us ++ cs.toList.drop (off + j + us.length) := by
  intro us
  induction us with
  | nil => intro j cs _; simp
  | cons u us ih =>
    intro j cs hl
    simp only [List.zipIdx_cons, List.foldl_cons]
    rw [ih (j + 1) _ (by simp at hl ⊢; omega)]
    have hlt : off + j < cs.toList.length := by simp at hl ⊢; omega
    rw [Array.toList_setIfInBounds, show off + (j + 1) = off + j + 1 by omega, List.drop_set_of_lt (by omega), List.take_succ_eq_append_getElem (by simpa using hlt)]
    simp [List.take_set_of_le, show off + j + 1 + us.length = off + j + (us.length + 1) by omega]
theorem fill_RA {W : World} {U : Nat → Nat} {γ : Nat → Option Value} (hγ : ∀ i u, γ i = some u → u.oneCell' = true) {place : Nat → Option (Nat × Nat)} : ∀ {ps : List (Nat × AV)} {qs : List (Nat × Value)} {cs cs' : List AV} {vs : Array Value}, RAs W U γ cs vs.toList → ps.map (·.1) = qs.map (·.1) → RAs W U γ (ps.map (·.2)) (qs.map (·.2)) → fillA place cs ps = some cs' → ∃ vs', Instr.fill place vs qs = some vs' ∧ RAs W U γ cs' vs'.toList
  | [], [], cs, cs', vs, h, _, _, hf => by simp [fillA] at hf; subst hf; exact ⟨vs, rfl, h⟩
  | [], _ :: _, _, _, _, _, hi, _, _ => by simp at hi
  | _ :: _, [], _, _, _, _, hi, _, _ => by simp at hi
  | (i, y) :: ps, (j, v) :: qs, cs, cs', vs, h, hi, hr, hf => by
    simp only [List.map_cons, List.cons.injEq] at hi
    obtain ⟨rfl, hi⟩ := hi
    cases hr with
    | cons hy hr =>
      simp only [fillA] at hf
      cases hp : place i with
      | none => simp [hp] at hf
      | some q =>
        obtain ⟨off, n⟩ := q
        cases hc : cells1 y with
        | none => simp [hp, hc] at hf
        | some ns =>
          simp only [hp, hc] at hf
          cases hb : Nat.beq ns.length n && Nat.ble (off + n) cs.length with
          | false => simp [hb] at hf
          | true =>
            rw [hb, cond_true] at hf
            rw [Bool.and_eq_true] at hb
            have hn : ns.length = n := Nat.eq_of_beq_eq_true hb.1
            have hl : off + n ≤ cs.length := Nat.le_of_ble_eq_true hb.2
            have hcr := cells1_RA hγ hy hc
            have hvl : v.cells.size = n := by have := hcr.length; simp at this; omega
            have hcl : cs.length = vs.size := by have := h.length; simpa using this
            have key := fold_set off v.cells.toList 0 vs (by simp; omega)
            obtain ⟨vs', h1, h2⟩ := fill_RA hγ (vs := v.cells.zipIdx.foldl (fun (cs : Array Value) (c : Value × Nat) => cs.setIfInBounds (off + c.2) c.1) vs) (by
              rw [← Array.foldl_toList, Array.toList_zipIdx]
              rw [key]
              simpa using putA_RA h hcr off) hi hr hf
            refine ⟨vs', ?_, h2⟩
            unfold Instr.fill
            rw [hp]
            have h3 : (decide (v.cells.size ≠ n) || decide (off + v.cells.size > vs.size)) = false := by
              simp only [hvl, ne_eq, not_true_eq_false, decide_false, Bool.false_or, decide_eq_false_iff_not]
              omega
            simp only [h3, Bool.false_eq_true, if_false]
            exact h1
end
end Go.Pt
