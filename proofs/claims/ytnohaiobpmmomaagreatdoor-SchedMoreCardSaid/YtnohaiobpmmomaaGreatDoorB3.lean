/- A part of a logic over data for the given program's language: rules for single operations and walks as functions. -/
import Derived.Test.YtnohaiobpmmomaaGreatDoorB2
set_option linter.unusedVariables false
set_option linter.unusedSimpArgs false
namespace Go.Pt
open Go.RowKit

section
variable {P : Program} {ops : Array Oper} {Q : Exit → Act → World → Prop}

/-- One operation: out of S it comes to S'. -/
def OS (P : Program) (ops : Array Oper) (Q : Exit → Act → World → Prop) (o : Oper) (S S' : Act → World → Prop) : Prop :=
  ∀ a w, S a w → ∀ K : Act → World → Prop, (∀ a' w', S' a' w' → K a' w') → if Region.wanted o (yielded ops a.tmps) then Oper.wp P o a w K Q else K (a.put o.dst undef) w

/-- The rest of a region that keeps the text's order. -/
def AL (P : Program) (ops : Array Oper) (Q : Exit → Act → World → Prop) (l : List Oper) (S : Act → World → Prop) : Prop := ∀ a w, S a w → wpList P ops Q l a w
def AC (P : Program) (c : Code) (Q : Exit → Act → World → Prop) (S : Act → World → Prop) : Prop := ∀ a w, S a w → c.wp P Q a w
def AQ (Q : Exit → Act → World → Prop) (e : Exit) (S : Act → World → Prop) : Prop := ∀ a w, S a w → Q e a w

theorem AL.step {o : Oper} {l : List Oper} {S S' : Act → World → Prop} (h : OS P ops Q o S S') (r : AL P ops Q l S') : AL P ops Q (o :: l) S :=
  fun a w hs => wpList_step fun K hK => h a w hs K (fun a' w' hs' => hK a' w' (r a' w' hs'))
theorem AL.nil {S : Act → World → Prop} (h : AQ Q .normal S) : AL P ops Q [] S := fun a w hs => wpList_nil (h a w hs)

/-- An operation without a guard that comes to a value. -/
theorem OS.of_value {o : Oper} {S S' : Act → World → Prop} (hg : o.guard = none) (h : ∀ a w, S a w → ∃ v w', (execOp a.eval o).run P w = .ok (.value v) w' ∧ S' (a.put o.dst v) w') : OS P ops Q o S S' := by
  intro a w hs K hK
  obtain ⟨v, w', hr, hs'⟩ := h a w hs
  rw [if_pos (by simp [Region.wanted, hg])]
  show o.upon P a K Q ((execOp a.eval o).run P w)
  rw [hr]
  exact hK _ _ hs'
theorem OS.of_skip {o : Oper} {S S' : Act → World → Prop} (hg : o.guard = none) (h : ∀ a w, S a w → ∃ w', (execOp a.eval o).run P w = .ok .skip w' ∧ S' (a.put o.dst undef) w') : OS P ops Q o S S' := by
  intro a w hs K hK
  obtain ⟨w', hr, hs'⟩ := h a w hs
  rw [if_pos (by simp [Region.wanted, hg])]
  show o.upon P a K Q ((execOp a.eval o).run P w)
  rw [hr]
  exact hK _ _ hs'
theorem OS.of_call {o : Oper} {S S' : Act → World → Prop} (hg : o.guard = none) (h : ∀ a w, S a w → ∃ f args w1, (execOp a.eval o).run P w = .ok (.enter f args) w1 ∧ Calls P f args w1 fun e w' => ∃ v, e = .returned v ∧ S' (a.put o.dst v) w') : OS P ops Q o S S' := by
  intro a w hs K hK
  obtain ⟨f, args, w1, hr, hc⟩ := h a w hs
  rw [if_pos (by simp [Region.wanted, hg])]
  show o.upon P a K Q ((execOp a.eval o).run P w)
  rw [hr]
  refine hc.mono fun e w' he => ?_
  obtain ⟨v, rfl, hs'⟩ := he
  exact hK _ _ hs'
theorem OS.mono {o : Oper} {S T S' T' : Act → World → Prop} (h : OS P ops Q o S S') (h1 : ∀ a w, T a w → S a w) (h2 : ∀ a w, S' a w → T' a w) : OS P ops Q o T T' :=
  fun a w ht K hK => h a w (h1 a w ht) K (fun a' w' hs => hK a' w' (h2 a' w' hs))

/-! ### Guards -/
/-- The same operation, its guard struck. -/
def bareOp (o : Oper) : Oper := { o with guard := none }
theorem OS.on {o : Oper} {S S' : Act → World → Prop} (h : OS P ops Q (bareOp o) S S') (hw : ∀ a w, S a w → Region.wanted o (yielded ops a.tmps) = true) : OS P ops Q o S S' := by
  intro a w hs K hK
  rw [if_pos (hw a w hs)]
  have := h a w hs K hK
  rw [if_pos (by simp [Region.wanted, bareOp])] at this
  exact this
theorem OS.off {o : Oper} {S S' : Act → World → Prop} (hw : ∀ a w, S a w → Region.wanted o (yielded ops a.tmps) = false) (h : ∀ a w, S a w → S' (a.put o.dst undef) w) : OS P ops Q o S S' := by
  intro a w hs K hK
  rw [if_neg (by rw [hw a w hs]; decide)]
  exact hK _ _ (h a w hs)
end

/-! ### Codes -/
section
variable {P : Program} {Q : Exit → Act → World → Prop} {S : Act → World → Prop}
theorem AC.region {id : Nat} {ops : Array Oper} (h : AL P ops Q ops.toList S) : AC P (.region id ops false) Q S := fun a w hs => wp_region_list (h a w hs)
theorem AC.lit {id : Nat} {l : List Oper} (h : AL P l.toArray Q l S) : AC P (.region id l.toArray false) Q S := fun a w hs => wp_region_lit (h a w hs)
theorem AC.seq {x y : Code} (h : AC P x (Exit.then (y.wp P Q) Q) S) : AC P (.seq x y) Q S := fun a w hs => wp_seq (h a w hs)
theorem AC.block {id : Nat} {c : Code} (h : AC P c (Exit.inBlock id Q) S) : AC P (.block id c) Q S := fun a w hs => wp_block (h a w hs)
theorem AC.skip (h : AQ Q .normal S) : AC P .skip Q S := fun a w hs => wp_skip (h a w hs)
theorem AC.label {l : Nat} (h : AQ Q .normal S) : AC P (.label l) Q S := fun a w hs => wp_label (h a w hs)
theorem AC.exit {id : Nat} (h : AQ Q (.exit id) S) : AC P (.exit id) Q S := fun a w hs => wp_exit (h a w hs)
theorem AC.ret (h : AQ Q .ret S) : AC P .ret Q S := fun a w hs => wp_ret (h a w hs)
theorem AC.weaken {c : Code} {S' : Act → World → Prop} (h : AC P c Q S') (hs : ∀ a w, S a w → S' a w) : AC P c Q S := fun a w h0 => h a w (hs a w h0)
theorem AQ.weaken {e : Exit} {S' : Act → World → Prop} (h : AQ Q e S') (hs : ∀ a w, S a w → S' a w) : AQ Q e S := fun a w h0 => h a w (hs a w h0)
theorem AL.weaken {ops : Array Oper} {l : List Oper} {S' : Act → World → Prop} (h : AL P ops Q l S') (hs : ∀ a w, S a w → S' a w) : AL P ops Q l S := fun a w h0 => h a w (hs a w h0)
theorem AQ.then_n {K : Act → World → Prop} (h : ∀ a w, S a w → K a w) : AQ (Exit.then K Q) .normal S := h
theorem AQ.then_seq {y : Code} (h : AC P y Q S) : AQ (Exit.then (y.wp P Q) Q) .normal S := h
theorem AQ.then_ret {K : Act → World → Prop} (h : AQ Q .ret S) : AQ (Exit.then K Q) .ret S := h
theorem AQ.then_exit {K : Act → World → Prop} {id : Nat} (h : AQ Q (.exit id) S) : AQ (Exit.then K Q) (.exit id) S := h
theorem AQ.block_n {id : Nat} (h : AQ Q .normal S) : AQ (Exit.inBlock id Q) .normal S := h
theorem AQ.block_ret {id : Nat} (h : AQ Q .ret S) : AQ (Exit.inBlock id Q) .ret S := h
theorem AQ.block_here {id : Nat} (h : AQ Q .normal S) : AQ (Exit.inBlock id Q) (.exit id) S := fun a w hs => by
  simpa [Exit.inBlock] using h a w hs
theorem AQ.block_out {id id' : Nat} (hne : Nat.beq id' id = false) (h : AQ Q (.exit id') S) : AQ (Exit.inBlock id Q) (.exit id') S := fun a w hs => by
  have : id' ≠ id := fun e => by rw [e, Nat.beq_refl] at hne; cases hne
  simpa [Exit.inBlock, this] using h a w hs
theorem least (p : Nat → Prop) : ∀ n, p n → ∃ n, p n ∧ ∀ m, p m → n ≤ m := by
  intro n
  induction n using Nat.strongRecOn with
  | _ n ih =>
    intro hn
    by_cases h : ∃ m, m < n ∧ p m
    · obtain ⟨m, h1, h2⟩ := h
      exact ih m h1 h2
    · exact ⟨n, hn, fun m hm => Nat.le_of_not_lt fun hl => h ⟨m, hl, hm⟩⟩
/-- A loop: x tells where it stands; each round brings m down. -/
theorem AC.loop {X : Type} {c : Code} (I : X → Act → World → Prop) (m : X → Nat) (x0 : X) (h0 : ∀ a w, S a w → I x0 a w)
    (round : ∀ x, AC P c (Exit.then (fun a w => ∃ y, m y < m x ∧ I y a w) Q) (I x)) : AC P (.loop c) Q S := by
  intro a w hs
  classical
  let p : Act → World → Nat → Prop := fun a w n => ∃ x, m x = n ∧ I x a w
  let μ : Act → World → Nat := fun a w => if h : ∃ n, p a w n ∧ ∀ m, p a w m → n ≤ m then Classical.choose h else 0
  have hμ : ∀ a w, (∃ x, I x a w) → p a w (μ a w) ∧ ∀ m, p a w m → μ a w ≤ m := by
    rintro a w ⟨x, hx⟩
    have h := least (p a w) (m x) ⟨x, rfl, hx⟩
    simp only [μ, dif_pos h]
    exact Classical.choose_spec h
  refine wp_loop (fun a w => ∃ x, I x a w) μ ⟨x0, h0 a w hs⟩ ?_
  intro a w hJ
  obtain ⟨⟨y, hy, hI⟩, _⟩ := hμ a w hJ
  refine wp_mono (round y a w hI) ?_
  intro e a' w' hq
  cases e with
  | normal =>
    obtain ⟨z, hz, hIz⟩ := hq
    have := (hμ a' w' ⟨z, hIz⟩).2 (m z) ⟨z, rfl, hIz⟩
    exact ⟨⟨z, hIz⟩, by omega⟩
  | _ => exact hq
end

/-! ### The state's part: operands, tests -/
/-- A constant as data. -/
def cv : Value → DV
  | .agg cs => .agg (cs.toList.map .raw)
  | v => .raw v
/-- What a slot holds. -/
def lkt (F : List (Nat × AV)) (t : Nat) : Option AV := bif Nat.blt t gbase then lk F t else none
theorem lkt_some {F : List (Nat × AV)} {t : Nat} {y : AV} (h : lkt F t = some y) : Nat.blt t gbase = true ∧ lk F t = some y := by
  unfold lkt at h
  cases hb : Nat.blt t gbase with
  | true => rw [hb] at h; exact ⟨rfl, by simpa using h⟩
  | false => rw [hb] at h; cases h
def ev (F : List (Nat × AV)) : Operand → Option AV
  | .tmp t => lkt F t
  | .const (.agg _) => none
  | .const (.tuple _) => none
  | .const v => some (.d (.raw v))
  | .global g => lk F (gbase + g)
  | .func f => some (.d (.raw (.func (.func f) #[] #[])))
theorem ev_RA {N : Nat} {F : List (Nat × AV)} {W : World} {U : Nat → Nat} {γ : Nat → Option Value} {a : Act} (h : FR N F W U γ a) {x : Operand} {y : AV} (he : ev F x = some y) : RA W U γ y (a.eval x) := by
  cases x with
  | tmp t =>
    obtain ⟨h1, h2⟩ := lkt_some he
    have := h.slot t y h2
    rw [val_tmp h1] at this
    exact this
  | const v =>
    cases v <;> simp [ev] at he <;> subst he <;> exact .d (.raw _)
  | global g =>
    have := h.slot _ _ he
    have hv : val a (gbase + g) = .pointer (some ⟨g, 0, none⟩) := by
      have hb : Nat.blt (gbase + g) gbase = false := by
        cases hb : Nat.blt (gbase + g) gbase with
        | false => rfl
        | true => have := Nat.le_of_ble_eq_true hb; omega
      simp [val, hb]
    rw [hv] at this
    exact this
  | func f => simp [ev] at he; subst he; exact .d (.raw _)

section
variable {P : Program} {ops : Array Oper} {Q : Exit → Act → World → Prop} {k : K0} {N : Nat} {F : List (Nat × AV)} {H : List (Nat × Ent)}
/-- An operation that reads the frame (and perhaps memory) and leaves the world alone. -/
theorem OS.plain {o : Oper} {d : Nat} {y : AV} (hg : o.guard = none) (hd : o.dst = some d) (hN : Nat.blt d N = true)
    (h : ∀ a w U γ, MR k H w U γ → FR N F w U γ a → ∃ v, (execOp a.eval o).run P w = .ok (.value v) w ∧ RA w U γ y v) :
    OS P ops Q o (SR k N F H) (SR k N ((d, y) :: F) H) := by
  refine OS.of_value hg fun a w hs => ?_
  obtain ⟨U, γ, hm, hf⟩ := hs
  obtain ⟨v, hr, hv⟩ := h a w U γ hm hf
  refine ⟨v, w, hr, U, γ, hm, ?_⟩
  rw [hd]
  exact hf.put (ExtA.refl _ _ _) (Nat.le_of_ble_eq_true hN) hv
theorem OS.move {ty pos after d x y} (hx : ev F x = some y) (hN : Nat.blt d N = true) : OS P ops Q ⟨some d, .move x, ty, pos, after, none⟩ (SR k N F H) (SR k N ((d, y) :: F) H) := by
  exact OS.plain rfl rfl hN fun a w U γ _ hf => ⟨a.eval x, rfl, ev_RA hf hx⟩
theorem OS.assign {ty pos after d x y} (hx : ev F x = some y) (hN : Nat.blt d N = true) : OS P ops Q ⟨some d, .assign x, ty, pos, after, none⟩ (SR k N F H) (SR k N ((d, y) :: F) H) :=
  OS.plain rfl rfl hN fun a w U γ _ hf => ⟨a.eval x, rfl, ev_RA hf hx⟩
theorem AC.cond {c : Operand} {x y : Code} {b : Bool} (hc : ev F c = some (.d (.raw (.bool b)))) (h1 : b = true → AC P x Q (SR k N F H)) (h2 : b = false → AC P y Q (SR k N F H)) : AC P (.cond c x y) Q (SR k N F H) := by
  intro a w hs
  have hb : a.eval c = .bool b := by
    obtain ⟨U, γ, _, hf⟩ := hs
    have := ev_RA hf hc
    generalize a.eval c = v at this ⊢
    cases this with
    | d h => cases h; rfl
  exact wp_cond_split hb (fun e => h1 e a w hs) (fun e => h2 e a w hs)
end
end Go.Pt
