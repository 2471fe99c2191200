/- A part of a logic over data for the given program's language: rules for single operations and walks as functions. -/
import Derived.Test.YtnohaiobpmmomaaGreatDoorB13
import Derived.Laws.BytesArg
import Derived.Laws.IdiomStrings
set_option linter.unusedVariables false
set_option linter.unusedSimpArgs false
namespace Go.Pt
open Go.RowKit

/-- Data as a slice. -/
def asSl : DV → Option (Nat × List DV)
  | .sl n cs => some (n, cs)
  | .raw (.slice none _ _) => some (0, [])
  | _ => none
def nilSl : DV → Bool
  | .raw (.slice none 0 0) => true
  | _ => false

section
variable {P : Program} {ops : Array Oper} {Q : Exit → Act → World → Prop} {k : K0} {N : Nat} {F : List (Nat × AV)} {H : List (Nat × Ent)}
variable {ty : TypeId} {pos : String} {after : Array Edge} {d : Nat}

theorem run_call_builtin {b : Builtin} {act : Act} {args : Array Operand} {tys : Array TypeId} {d : Option Tmp} {w w' : World} {v : Value} (f : Array TypeId → TypeId → Array Value → Sem Value)
    (hb : ∀ t ty cs as, builtin b t ty cs as = (do pure (Next.value (← f t ty as)))) (h : (f tys ty (args.map act.eval)).run P w = .ok v w') :
    (execOp act.eval ⟨d, .call ⟨.builtin b, args, tys⟩, ty, pos, after, none⟩).run P w = .ok (.value v) w' := by
  unfold execOp
  simp only [resolve, Sem.run_bind, Sem.run_pure, Result.andThen_ok, invoke, hb, h]

theorem asSl_RD {W : World} {U : Nat → Nat} {x : DV} {v : Value} {n : Nat} {cs : List DV} (h : RD W U x v) (ha : asSl x = some (n, cs)) (hn : ∀ m c, v = .slice none m c → m = 0) : RD W U (.sl n cs) v := by
  cases h with
  | nil a c => simp [asSl] at ha; obtain ⟨rfl, rfl⟩ := ha; exact .nil _ _
  | sl hk hm hr hc => simp [asSl] at ha; obtain ⟨rfl, rfl⟩ := ha; exact .sl hk hm hr hc
  | raw u =>
    cases v <;> simp [asSl] at ha
    rename_i a m c
    cases a with
    | some _ => simp at ha
    | none =>
      simp at ha
      obtain ⟨rfl, rfl⟩ := ha
      have := hn m c rfl
      subst this
      exact .nil _ _
  | _ => simp [asSl] at ha

theorem OS.append {s x : Operand} {t e i j sz y n m : Nat} {bb b : Bool} {z : Value} {xv : AV} {xd : DV} {cs ds : List DV} {H' : List (Nat × Ent)} (ht : slB P t = some (e, sz, bb, y)) (hz : zeroB P e = some z) (hzs : Nat.beq z.cells.size sz = true) (hsz : Nat.blt 0 sz = true)
    (hs : ev F s = some (.own i)) (hx : ev F x = some xv) (hc : clo H xv = some (H', .sl m ds)) (hi : lk H' i = some (.row e sz n cs b)) (hj : lk H' j = none) (hone : onesA (ds.map .d) = true) (hl : Nat.beq ds.length (m * sz) = true)
    (hN : Nat.blt d N = true) (h63 : n + m ≤ 9223372036854775807) (hby : (n + m) * y ≤ 140737488355328) :
    OS P ops Q ⟨some d, .call ⟨.builtin .append, #[s, x], #[t, t]⟩, ty, pos, after, none⟩ (SR k N F H) (SR k N ((d, .own j) :: F) ((j, .row e sz (n + m) (cs ++ ds) b) :: (i, .dead) :: H')) :=
  OS.of_value rfl fun act w hs' => by
    obtain ⟨U, γ, hm, hf⟩ := hs'
    have h1 := ev_RA hf hs
    obtain ⟨U1, g1, g2, g3⟩ := clo_RD hc hm (ev_RA hf hx)
    generalize hv : act.eval s = v at h1
    cases h1 with
    | own hγ =>
      obtain ⟨v', W', U', γ', q1, q2, q3, q4⟩ := g1.append (ty := ty) ht hz hzs hsz hi hj (g2.num _ _ hγ) g3 hone (Nat.eq_of_beq_eq_true hl) h63 hby
      refine ⟨v', W', run_call_builtin Builtin.append_ (fun _ _ _ _ => rfl) ?_, U', γ', q2, (hf.mono g2).put q3 (Nat.le_of_ble_eq_true hN) (.own q4)⟩
      simpa [hv] using q1
/-- A nil slice becomes a row of the call's own. -/
theorem MR.nilRow {k : K0} {H : List (Nat × Ent)} {W : World} {U : Nat → Nat} {γ : Nat → Option Value} (h : MR k H W U γ) {i : Nat} (hi : lk H i = none) (e sz : Nat) (s : Bool) : MR k ((i, .row e sz 0 [] s) :: H) W U (upd γ i (.slice none 0 0)) ∧ ExtA W U γ W U (upd γ i (.slice none 0 0)) :=
  h.fresh hi ⟨rfl, rfl, rfl, Nat.le_refl _, fun _ _ _ => ⟨rfl, rfl⟩⟩ h.wf rfl (fun b hb => by simp [blkOf] at hb) (fun ex => ⟨_, [], upd_self _ _ _, World.ownsRow_nil W 0 e sz, .nil, fun b hb => by simp [blkOf] at hb⟩)
theorem OS.appendNil {s x : Operand} {t e i j sz y m : Nat} {bb : Bool} {z : Value} {xv : AV} {xd : DV} {ds : List DV} {H' : List (Nat × Ent)} (ht : slB P t = some (e, sz, bb, y)) (hz : zeroB P e = some z) (hzs : Nat.beq z.cells.size sz = true) (hsz : Nat.blt 0 sz = true)
    (hs : ev F s = some (.d (.raw (.slice none 0 0)))) (hx : ev F x = some xv) (hc : clo H xv = some (H', .sl m ds)) (hi : lk H' i = none) (hj : lk H' j = none) (hij : Nat.beq i j = false) (hone : onesA (ds.map .d) = true) (hl : Nat.beq ds.length (m * sz) = true)
    (hN : Nat.blt d N = true) (h63 : m ≤ 9223372036854775807) (hby : m * y ≤ 140737488355328) :
    OS P ops Q ⟨some d, .call ⟨.builtin .append, #[s, x], #[t, t]⟩, ty, pos, after, none⟩ (SR k N F H) (SR k N ((d, .own j) :: F) ((j, .row e sz m ds false) :: (i, .dead) :: (i, .row e sz 0 [] false) :: H')) :=
  OS.of_value rfl fun act w hs' => by
    obtain ⟨U, γ, hm, hf⟩ := hs'
    have hv := raw_eval hf hs
    obtain ⟨U1, g1, g2, g3⟩ := clo_RD hc hm (ev_RA hf hx)
    have g4 := g1.nilRow hi e sz false
    have hne : i ≠ j := fun e => by rw [e, Nat.beq_refl] at hij; cases hij
    obtain ⟨v', W', U', γ', q1, q2, q3, q4⟩ := g4.1.append (ty := ty) ht hz hzs hsz (lk_self _ _ _) (by rw [lk_ne hne]; exact hj) (upd_self _ _ _) (g3.mono g4.2.toExt) hone (Nat.eq_of_beq_eq_true hl) (by omega) (by rw [Nat.zero_add]; exact hby)
    rw [Nat.zero_add] at q2
    refine ⟨v', W', run_call_builtin Builtin.append_ (fun _ _ _ _ => rfl) ?_, U', γ', q2, ((hf.mono g2).mono g4.2).put q3 (Nat.le_of_ble_eq_true hN) (.own q4)⟩
    simpa [hv] using q1

/-! ### Lengths -/
def lenA (H : List (Nat × Ent)) : AV → Option Nat
  | .d (.sl n _) => some n
  | .d (.raw (.slice none 0 0)) => some 0
  | .own i => match lk H i with
    | some (.row _ _ n _ _) => some n
    | _ => none
  | .d (.raw (.string b)) => some b.size
  | _ => none
/-- What 'len' is asked about. -/
def lenB (P : Program) (t : TypeId) : Option Bool := (P.underlying t).bind fun | .slice _ => some true | .string => some false | _ => none
def isStr : AV → Bool
  | .d (.raw (.string _)) => true
  | _ => false
theorem lenA_slice {W : World} {U : Nat → Nat} {γ : Nat → Option Value} {k : K0} (hm : MR k H W U γ) {y : AV} {v : Value} {n : Nat} (h : lenA H y = some n) (hr : RA W U γ y v) (hs : isStr y = false) : ∃ a c, v = .slice a n c := by
  cases hr with
  | d hd =>
    cases hd with
    | nil a c => simp [lenA] at h; subst h; exact ⟨_, _, rfl⟩
    | sl _ _ _ _ => simp [lenA] at h; subst h; exact ⟨_, _, rfl⟩
    | raw u =>
      unfold lenA at h
      split at h
      · rename_i h2; cases h2
      · rename_i h2; cases h2; cases h; exact ⟨_, _, rfl⟩
      · rename_i h2; cases h2
      · rename_i h2; cases h2; simp [isStr] at hs
      · cases h
    | _ => simp [lenA] at h
  | own hγ =>
    simp only [lenA] at h
    split at h
    · rename_i e s n' cs b hi
      cases h
      obtain ⟨v', vs, h1, h2, _⟩ := hm.ent _ _ hi
      rw [hγ] at h1; cases h1
      rcases h2.2 with ⟨rfl, rfl⟩ | ⟨b, cap, cur, rfl, _⟩ <;> exact ⟨_, _, rfl⟩
    · cases h
  | _ => simp [lenA] at h
theorem OS.lenSl {t : TypeId} {x : Operand} {y : AV} {n : Nat} (ht : lenB P t = some true) (hx : ev F x = some y) (hn : lenA H y = some n) (hs : isStr y = false) (hN : Nat.blt d N = true) :
    OS P ops Q ⟨some d, .call ⟨.builtin .len, #[x], #[t]⟩, ty, pos, after, none⟩ (SR k N F H) (SR k N ((d, .d (.raw (.int .i64 n))) :: F) H) :=
  OS.plain rfl rfl hN fun act w U γ hm hf => by
    obtain ⟨a, c, hv⟩ := lenA_slice hm hn (ev_RA hf hx) hs
    refine ⟨.int .i64 n, run_call_builtin Builtin.len_ (fun _ _ _ _ => rfl) ?_, .d (.raw _)⟩
    unfold lenB at ht
    cases hu : P.underlying t with
    | none => simp [hu] at ht
    | some D =>
      rw [hu] at ht
      cases D <;> simp at ht
      simp [Builtin.len_, run_underlying hu, hv, goInt]
theorem OS.lenStr {t : TypeId} {x : Operand} {s : ByteArray} (ht : lenB P t = some false) (hx : ev F x = some (.d (.raw (.string s)))) (hN : Nat.blt d N = true) :
    OS P ops Q ⟨some d, .call ⟨.builtin .len, #[x], #[t]⟩, ty, pos, after, none⟩ (SR k N F H) (SR k N ((d, .d (.raw (.int .i64 s.size))) :: F) H) :=
  OS.plain rfl rfl hN fun act w U γ hm hf => by
    have hv := raw_eval hf hx
    refine ⟨.int .i64 s.size, run_call_builtin Builtin.len_ (fun _ _ _ _ => rfl) ?_, .d (.raw _)⟩
    unfold lenB at ht
    cases hu : P.underlying t with
    | none => simp [hu] at ht
    | some D =>
      rw [hu] at ht
      cases D <;> simp at ht
      simp [Builtin.len_, run_underlying hu, hv, goInt]
theorem OS.max {x y : Operand} {t1 t2 : TypeId} {a b : Int} {kk : IntKind} (hx : ev F x = some (.d (.raw (.int kk a)))) (hy : ev F y = some (.d (.raw (.int kk b)))) (hN : Nat.blt d N = true) :
    OS P ops Q ⟨some d, .call ⟨.builtin .max, #[x, y], #[t1, t2]⟩, ty, pos, after, none⟩ (SR k N F H) (SR k N ((d, .d (.raw (.int kk (Max.max a b)))) :: F) H) :=
  OS.plain rfl rfl hN fun act w U γ hm hf => by
    refine ⟨.int kk (Max.max a b), run_call_builtin Builtin.max_ (fun _ _ _ _ => rfl) ?_, .d (.raw _)⟩
    simp [raw_eval hf hx, raw_eval hf hy, Builtin.max_, Builtin.max2]
    by_cases h : a < b
    · rw [if_pos h]; omega
    · rw [if_neg h]; omega
theorem OS.min {x y : Operand} {t1 t2 : TypeId} {a b : Int} {kk : IntKind} (hx : ev F x = some (.d (.raw (.int kk a)))) (hy : ev F y = some (.d (.raw (.int kk b)))) (hN : Nat.blt d N = true) :
    OS P ops Q ⟨some d, .call ⟨.builtin .min, #[x, y], #[t1, t2]⟩, ty, pos, after, none⟩ (SR k N F H) (SR k N ((d, .d (.raw (.int kk (Min.min a b)))) :: F) H) :=
  OS.plain rfl rfl hN fun act w U γ hm hf => by
    refine ⟨.int kk (Min.min a b), run_call_builtin Builtin.min_ (fun _ _ _ _ => rfl) ?_, .d (.raw _)⟩
    simp [raw_eval hf hx, raw_eval hf hy, Builtin.min_, Builtin.min2]
    by_cases h : b < a
    · rw [if_pos h]; omega
    · rw [if_neg h]; omega
end
end Go.Pt
