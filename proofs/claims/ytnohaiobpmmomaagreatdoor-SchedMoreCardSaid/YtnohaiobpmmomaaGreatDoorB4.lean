/- A part of a logic over data for the given program's language: rules for single operations and walks as functions. -/
import Derived.Test.YtnohaiobpmmomaaGreatDoorB3
import Derived.Deep.MidRow
import Derived.Great.BuildSlice
import Derived.Laws.Small
set_option linter.unusedVariables false
set_option linter.unusedSimpArgs false
namespace Go.Pt
open Go.RowKit

section
variable {P : Program} {ops : Array Oper} {Q : Exit → Act → World → Prop} {k : K0} {N : Nat} {F : List (Nat × AV)} {H : List (Nat × Ent)}
variable {ty : TypeId} {pos : String} {after : Array Edge} {d : Nat}

/-! ### Values of one cell -/
theorem RA.raw_eq {W : World} {U : Nat → Nat} {γ : Nat → Option Value} {u v : Value} (h : RA W U γ (.d (.raw v)) u) : u = v := by
  cases h with
  | d h => cases h; rfl
theorem raw_eval {W : World} {U : Nat → Nat} {γ : Nat → Option Value} {a : Act} (h : FR N F W U γ a) {x : Operand} {v : Value} (he : ev F x = some (.d (.raw v))) : a.eval x = v := (ev_RA h he).raw_eq

/-- Arithmetic and tests of two whole numbers. -/
def binI : BinOp → IntKind → Int → Int → Option Value
  | .add, k, a, b => some (.int k (k.wrap (a + b)))
  | .sub, k, a, b => some (.int k (k.wrap (a - b)))
  | .mul, k, a, b => some (.int k (k.wrap (a * b)))
  | .eql, _, a, b => some (.bool (a == b))
  | .neq, _, a, b => some (.bool (a != b))
  | .lss, _, a, b => some (.bool (decide (a < b)))
  | .leq, _, a, b => some (.bool (decide (a ≤ b)))
  | .gtr, _, a, b => some (.bool (decide (a > b)))
  | .geq, _, a, b => some (.bool (decide (a ≥ b)))
  | _, _, _, _ => none
theorem run_binI (P : Program) {op : BinOp} {k : IntKind} {a b : Int} {v : Value} (h : binI op k a b = some v) (t : TypeId) (x y : Operand) (w : World) : (do eqGuard op t x y (.int k a) (.int k b); binOp op t (.int k a) (.int k b) : Sem Value).run P w = .ok v w := by
  cases op <;> simp [binI] at h <;> subst h <;> simp [eqGuard, binOp, Op.intArith, Op.intCmp]
theorem run_v {S : Sem Value} {w w' : World} {v : Value} (h : S.run P w = .ok v w') : (do pure (Next.value (← S)) : Sem Next).run P w = .ok (.value v) w' := by
  rw [Sem.run_bind, h]; rfl
theorem run_u {S : Sem Unit} {w w' : World} (h : S.run P w = .ok () w') : (do S; pure Next.skip : Sem Next).run P w = .ok .skip w' := by
  rw [Sem.run_bind, h]; rfl
theorem OS.bin {op : BinOp} {xt yt : TypeId} {x y : Operand} {kk : IntKind} {a b : Int} {v : Value} (hx : ev F x = some (.d (.raw (.int kk a)))) (hy : ev F y = some (.d (.raw (.int kk b)))) (hv : binI op kk a b = some v) (hN : Nat.blt d N = true) :
    OS P ops Q ⟨some d, .binOp op xt x y yt, ty, pos, after, none⟩ (SR k N F H) (SR k N ((d, .d (.raw v)) :: F) H) :=
  OS.plain rfl rfl hN fun act w U γ _ hf => ⟨v, by unfold execOp; simp only [raw_eval hf hx, raw_eval hf hy]; exact run_v (run_binI P hv xt x y w), .d (.raw _)⟩
/-- The same, the wrap told away. -/
def arI : BinOp → Int → Int → Option Int
  | .add, a, b => some (a + b)
  | .sub, a, b => some (a - b)
  | .mul, a, b => some (a * b)
  | _, _, _ => none
theorem wrap_in {k : IntKind} {n : Int} (h : k.min ≤ n ∧ n ≤ k.max) : k.wrap n = n := by
  cases k <;> simp [IntKind.min, IntKind.max, IntKind.bits, IntKind.signed] at h <;> simp [IntKind.wrap, IntKind.bits, IntKind.signed] <;> omega
theorem OS.arith {op : BinOp} {xt yt : TypeId} {x y : Operand} {a b r : Int} (hx : ev F x = some (.d (.raw (.int .i64 a)))) (hy : ev F y = some (.d (.raw (.int .i64 b)))) (hv : arI op a b = some r) (hN : Nat.blt d N = true) (hr : -9223372036854775808 ≤ r ∧ r ≤ 9223372036854775807) :
    OS P ops Q ⟨some d, .binOp op xt x y yt, ty, pos, after, none⟩ (SR k N F H) (SR k N ((d, .d (.raw (.int .i64 r))) :: F) H) := by
  have h : binI op .i64 a b = some (.int .i64 r) := by
    cases op <;> simp [arI] at hv <;> subst hv <;> simp only [binI] <;> rw [wrap_in (by simpa [IntKind.min, IntKind.max, IntKind.bits, IntKind.signed] using hr)]
  exact OS.bin hx hy h hN
/-- '/' and '%' by a number above 0, of a number not below it. -/
def dvI : BinOp → Int → Int → Option Int
  | .quo, a, b => some (a / b)
  | .rem, a, b => some (a % b)
  | _, _, _ => none
theorem OS.div {op : BinOp} {xt yt : TypeId} {x y : Operand} {a b r : Int} (hx : ev F x = some (.d (.raw (.int .i64 a)))) (hy : ev F y = some (.d (.raw (.int .i64 b)))) (hv : dvI op a b = some r) (hN : Nat.blt d N = true) (h0 : 0 ≤ a) (hm : a ≤ 9223372036854775807) (hb : 0 < b) :
    OS P ops Q ⟨some d, .binOp op xt x y yt, ty, pos, after, none⟩ (SR k N F H) (SR k N ((d, .d (.raw (.int .i64 r))) :: F) H) :=
  OS.plain rfl rfl hN fun act w U γ _ hf => ⟨.int .i64 r, by
    unfold execOp
    simp only [raw_eval hf hx, raw_eval hf hy]
    refine run_v ?_
    have hb0 : b ≠ 0 := by omega
    have hq : a / b ≤ a := Int.ediv_le_self b h0
    have hq0 : 0 ≤ a / b := Int.ediv_nonneg h0 (by omega)
    cases op <;> simp [dvI] at hv <;> subst hv <;> simp only [eqGuard, binOp, Op.intDiv, if_neg hb0, Int.tdiv_eq_ediv_of_nonneg h0, Int.tmod_eq_emod_of_nonneg h0]
    · simp; exact wrap_in (by simp [IntKind.min, IntKind.max, IntKind.bits, IntKind.signed]; omega)
    · simp, .d (.raw _)⟩
/-- Bools held against each other. -/
theorem OS.beq {xt yt : TypeId} {x y : Operand} {a b : Bool} (hx : ev F x = some (.d (.raw (.bool a)))) (hy : ev F y = some (.d (.raw (.bool b)))) (hN : Nat.blt d N = true) (hu : P.underlying xt = some .bool) :
    OS P ops Q ⟨some d, .binOp .eql xt x y yt, ty, pos, after, none⟩ (SR k N F H) (SR k N ((d, .d (.raw (.bool (a == b)))) :: F) H) :=
  OS.plain rfl rfl hN fun act w U γ _ hf => ⟨.bool (a == b), by
    unfold execOp
    simp only [raw_eval hf hx, raw_eval hf hy]
    refine run_v ?_
    have h1 : (Op.equal xt (.bool a) (.bool b)).run P w = .ok (a == b) w := run_equalIn_bool w 9999 xt a b hu
    simp [eqGuard, binOp, h1], .d (.raw _)⟩
/-- Texts. -/
def binS : BinOp → ByteArray → ByteArray → Option Value
  | .eql, a, b => some (.bool (a.toList == b.toList))
  | .neq, a, b => some (.bool (!(a.toList == b.toList)))
  | _, _, _ => none
theorem OS.str {op : BinOp} {xt yt : TypeId} {x y : Operand} {a b : ByteArray} {v : Value} (hx : ev F x = some (.d (.raw (.string a)))) (hy : ev F y = some (.d (.raw (.string b)))) (hv : binS op a b = some v) (hN : Nat.blt d N = true) :
    OS P ops Q ⟨some d, .binOp op xt x y yt, ty, pos, after, none⟩ (SR k N F H) (SR k N ((d, .d (.raw v)) :: F) H) :=
  OS.plain rfl rfl hN fun act w U γ _ hf => ⟨v, by
    unfold execOp
    simp only [raw_eval hf hx, raw_eval hf hy]
    refine run_v ?_
    cases op <;> simp [binS] at hv <;> subst hv <;> simp [eqGuard, binOp, Op.stringOp], .d (.raw _)⟩
theorem OS.cat {xt yt : TypeId} {x y : Operand} {a b : ByteArray} (hx : ev F x = some (.d (.raw (.string a)))) (hy : ev F y = some (.d (.raw (.string b)))) (hN : Nat.blt d N = true) (hs : a.size + b.size ≤ 9223372036854775807) :
    OS P ops Q ⟨some d, .binOp .add xt x y yt, ty, pos, after, none⟩ (SR k N F H) (SR k N ((d, .d (.raw (.string (a ++ b)))) :: F) H) :=
  OS.plain rfl rfl hN fun act w U γ _ hf => ⟨.string (a ++ b), by
    unfold execOp
    simp only [raw_eval hf hx, raw_eval hf hy]
    refine run_v ?_
    have : ¬ ((a.size + b.size : Nat) : Int) > IntKind.i64.max := by simp [IntKind.max, IntKind.bits, IntKind.signed]; omega
    simp only [eqGuard, binOp, Op.stringOp, if_neg this]; rfl, .d (.raw _)⟩
theorem OS.not {xt : TypeId} {x : Operand} {a : Bool} (hx : ev F x = some (.d (.raw (.bool a)))) (hN : Nat.blt d N = true) :
    OS P ops Q ⟨some d, .unOp .not xt x, ty, pos, after, none⟩ (SR k N F H) (SR k N ((d, .d (.raw (.bool (!a)))) :: F) H) :=
  OS.plain rfl rfl hN fun act w U γ _ hf => ⟨.bool (!a), by unfold execOp; simp only [raw_eval hf hx]; exact run_v rfl, .d (.raw _)⟩
theorem OS.pick {c x y : Operand} {b : Bool} {z : AV} (hc : ev F c = some (.d (.raw (.bool b)))) (hz : ev F (bif b then x else y) = some z) (hN : Nat.blt d N = true) :
    OS P ops Q ⟨some d, .pick c x y, ty, pos, after, none⟩ (SR k N F H) (SR k N ((d, z) :: F) H) :=
  OS.plain rfl rfl hN fun act w U γ _ hf => ⟨act.eval (bif b then x else y), by unfold execOp; simp only [raw_eval hf hc]; cases b <;> rfl, ev_RA hf hz⟩
/-- Part i of a tuple. -/
def part? : AV → Nat → Option AV
  | .tup vs, i => vs[i]?
  | .d (.tup vs), i => (vs[i]?).map .d
  | _, _ => none
theorem OS.extract {x : Operand} {i : Nat} {y z : AV} (hx : ev F x = some y) (hz : part? y i = some z) (hN : Nat.blt d N = true) :
    OS P ops Q ⟨some d, .extract x i, ty, pos, after, none⟩ (SR k N F H) (SR k N ((d, z) :: F) H) :=
  OS.plain rfl rfl hN fun act w U γ _ hf => by
    have h := ev_RA hf hx
    generalize hv : act.eval x = v at h
    cases h with
    | tup hr =>
      simp only [part?] at hz
      obtain ⟨u, h1, h2⟩ := hr.get hz
      exact ⟨u, by unfold execOp; simp only [hv]; refine run_v ?_; simp [Instr.extract, h1], h2⟩
    | d hd =>
      cases hd with
      | tup hr =>
        simp only [part?, Option.map_eq_some_iff] at hz
        obtain ⟨q, hq, rfl⟩ := hz
        obtain ⟨u, h1, h2⟩ := hr.get hq
        exact ⟨u, by unfold execOp; simp only [hv]; refine run_v ?_; simp [Instr.extract, h1], .d h2⟩
      | _ => simp [part?] at hz
    | _ => simp [part?] at hz
theorem OS.nilCheck {x : Operand} {i off : Nat} (hx : ev F x = some (.ptr i off)) (hN : Nat.blt d N = true) :
    OS P ops Q ⟨some d, .nilCheck x, ty, pos, after, none⟩ (SR k N F H) (SR k N ((d, .ptr i off) :: F) H) :=
  OS.plain rfl rfl hN fun act w U γ _ hf => by
    have h := ev_RA hf hx
    generalize hv : act.eval x = v at h
    cases h with
    | ptr hp => exact ⟨_, by unfold execOp; simp only [hv]; rfl, .ptr hp⟩
end
end Go.Pt
