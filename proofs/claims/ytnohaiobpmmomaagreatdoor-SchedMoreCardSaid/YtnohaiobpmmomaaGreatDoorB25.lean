/- A part of a logic over data for the given program's language: rules for single operations and walks as functions. -/
import Derived.Test.YtnohaiobpmmomaaGreatDoorB24
set_option linter.unusedVariables false
set_option linter.unusedSimpArgs false
namespace Go.Pt
open Go.RowKit

/-! ### Codes, functions: the walk as a function -/
theorem row_closes {W W' : World} {U U0 : Nat → Nat} {e sz n : Nat} {cs : List DV} {v : Value} (h : RVR W W' U (.row e sz n cs) v) (ag : Agree W U0 W' U none) (wf : ∀ b, W'.heap.size ≤ b → U b = 0) : ∃ U', Agree W U0 W' U' none ∧ (∀ b, W'.heap.size ≤ b → U' b = 0) ∧ RVR W W' U' (.cl (.sl n cs)) v := by
  obtain ⟨h1, vs, h2, h3, h4⟩ := h
  have hl := h2.1
  rcases h2.2 with ⟨rfl, rfl⟩ | ⟨b, cap, cur, rfl, _, hg, hcap, hmx, hsz, htk⟩
  · refine ⟨U, ag, wf, ?_⟩
    have : cs = [] := List.eq_nil_of_length_eq_zero (by rw [h3.length, hl]; simp)
    subst this
    exact .nil _ _
  · obtain ⟨h5, h6⟩ := h4 b rfl
    have hlt : b < W'.heap.size := (Array.getElem?_eq_some_iff.1 hg).1
    have ex : Ext W' U W' (fun q => if q = b then n * sz else U q) := ⟨fun _ _ _ => rfl, fun q => by
      by_cases hq : q = b
      · subst hq; rw [h6]; exact Nat.zero_le _
      · simp [hq]⟩
    refine ⟨fun q => if q = b then n * sz else U q, ⟨ag.os, ag.tape, ag.output, ag.size, fun q hq hne => ⟨(ag.block q hq hne).1, ?_⟩⟩, fun q hq => ?_, .sl hcap hmx (h3.mono ex) (fun j u hu => ?_)⟩
    · have : q ≠ b := by omega
      simp only [if_neg this]
      exact (ag.block q hq hne).2
    · have : q ≠ b := by omega
      simp only [if_neg this]
      exact wf q hq
    · have hc := h2.cells (g := b) rfl _ _ hu
      rw [Addr.add_mid] at hc
      have hlt : j < vs.length := by
        rcases Nat.lt_or_ge j vs.length with h | h
        · exact h
        · rw [List.getElem?_eq_none h] at hu; cases hu
      refine ⟨hc, ?_⟩
      simp
      omega
/-- The same calls, their rows read as data at once. -/
def closeC (call : FuncId → List DV → Option RV) (f : FuncId) (ds : List DV) : Option RV := match call f ds with
  | some (.row _ _ n cs) => some (.cl (.sl n cs))
  | r => r
theorem closeC_ok {gl : List (Nat × AV)} {P : Program} {call : FuncId → List DV → Option RV} (h : CallOk gl P call) : CallOk gl P (closeC call) := by
  intro f ds rv hc
  unfold closeC at hc
  split at hc
  · rename_i e sz n cs h1
    cases hc
    intro W U vs wf hg hr
    refine (h _ _ _ h1 W U vs wf hg hr).mono fun e' W' he => ?_
    obtain ⟨v, U', rfl, h6, h7, h8⟩ := he
    obtain ⟨U2, g1, g2, g3⟩ := row_closes h8 h6 h7
    exact ⟨v, U2, rfl, g1, g2, g3⟩
  · exact h _ _ _ hc
mutual
theorem clo_box {i : Nat} {T : TypeId} {bs : List AV} : ∀ {y : AV} {H H' : List (Nat × Ent)} {x : DV}, clo H y = some (H', x) → lk H i = some (.box T bs) → lk H' i = some (.box T bs)
  | .d x, H, H', x', h, hf => by simp only [clo, Option.some.injEq, Prod.mk.injEq] at h; obtain ⟨rfl, _⟩ := h; exact hf
  | .nn n cs, H, H', x', h, hf => by simp only [clo, Option.some.injEq, Prod.mk.injEq] at h; obtain ⟨rfl, _⟩ := h; exact hf
  | .full n cs, H, H', x', h, hf => by simp only [clo, Option.some.injEq, Prod.mk.injEq] at h; obtain ⟨rfl, _⟩ := h; exact hf
  | .own j, H, H', x', h, hf => by
    simp only [clo] at h
    split at h
    · rename_i b hi
      simp only [Option.some.injEq, Prod.mk.injEq] at h
      obtain ⟨rfl, _⟩ := h
      cases b
      · have : j ≠ i := fun q => by subst q; rw [hi] at hf; cases hf
        simp only [cond_false]
        rw [lk_ne this]; exact hf
      · exact hf
    · cases h
  | .agg cs, H, H', x', h, hf => by
    simp only [clo] at h
    split at h
    · rename_i h1; simp only [Option.some.injEq, Prod.mk.injEq] at h; obtain ⟨rfl, _⟩ := h; exact clos_box h1 hf
    · cases h
  | .tup cs, H, H', x', h, hf => by
    simp only [clo] at h
    split at h
    · rename_i h1; simp only [Option.some.injEq, Prod.mk.injEq] at h; obtain ⟨rfl, _⟩ := h; exact clos_box h1 hf
    · cases h
  | .ptr _ _, _, _, _, h, _ => by simp [clo] at h
  | .rp _ _, _, _, _, h, _ => by simp [clo] at h
  | .ep _, _, _, _, h, _ => by simp [clo] at h
  | .fn _ _ _, _, _, _, h, _ => by simp [clo] at h
theorem clos_box {i : Nat} {T : TypeId} {bs : List AV} : ∀ {ys : List AV} {H H' : List (Nat × Ent)} {xs : List DV}, clos H ys = some (H', xs) → lk H i = some (.box T bs) → lk H' i = some (.box T bs)
  | [], H, H', xs, h, hf => by simp only [clos, Option.some.injEq, Prod.mk.injEq] at h; obtain ⟨rfl, _⟩ := h; exact hf
  | y :: r, H, H', xs, h, hf => by
    simp only [clos] at h
    split at h
    · rename_i h1
      split at h
      · rename_i h2; simp only [Option.some.injEq, Prod.mk.injEq] at h; obtain ⟨rfl, _⟩ := h; exact clos_box h2 (clo_box h1 hf)
      · cases h
    · cases h
end
/-- Slots that hold rows of the call's own, or variables that do, read as data from now on. -/
def shutS : List Nat → St → St
  | [], S => S
  | t :: r, S => match lk S.F t with
    | some (.ptr i off) => match lk S.H i with
      | some (.box T cs) => match clos S.H cs with
        | some (H', ds) => shutS r ⟨S.F, (i, .box T (ds.map .d)) :: H', S.nx⟩
        | none => shutS r S
      | _ => shutS r S
    | some y => match clo S.H y with
      | some (H', x) => shutS r ⟨(t, .d x) :: S.F, H', S.nx⟩
      | none => shutS r S
    | none => shutS r S
theorem shut_box {k : K0} {W : World} {U : Nat → Nat} {γ : Nat → Option Value} {i : Nat} {T : TypeId} {cs : List AV} {H H' : List (Nat × Ent)} {ds : List DV} (hm : MR k H W U γ) (hi : lk H i = some (.box T cs)) (hc : clos H cs = some (H', ds)) (hi' : lk H' i = some (.box T cs)) :
    ∃ U', MR k ((i, .box T (ds.map .d)) :: H') W U' γ ∧ ExtA W U γ W U' γ := by
  obtain ⟨b, vs, h1, h2, h3, h4⟩ := hm.ent i _ hi
  obtain ⟨U', g1, g2, g3⟩ := clos_RD hc hm h3
  obtain ⟨b', vs', q1, q2, q3, q4⟩ := g1.ent i _ hi'
  rw [h1] at q1
  cases q1
  rw [h2] at q2
  simp only [Option.some.injEq, Obj.cells.injEq, and_true] at q2
  refine ⟨U', g1.retell ⟨_, hi', by simp⟩ h1 ⟨b, vs, h1, h2, RAs.of_RDs g3, q4⟩, g2⟩
theorem shutS_ok {k : K0} {N : Nat} : ∀ {ts : List Nat} {S : St}, Fr S.H S.nx → Fr (shutS ts S).H (shutS ts S).nx ∧ ∀ a w, SR k N S.F S.H a w → SR k N (shutS ts S).F (shutS ts S).H a w
  | [], S, hf => ⟨hf, fun _ _ h => h⟩
  | t :: r, S, hf => by
    have close : ∀ {y : AV} {H' : List (Nat × Ent)} {x : DV}, lk S.F t = some y → clo S.H y = some (H', x) → Fr (shutS r ⟨(t, .d x) :: S.F, H', S.nx⟩).H (shutS r ⟨(t, .d x) :: S.F, H', S.nx⟩).nx ∧ ∀ a w, SR k N S.F S.H a w → SR k N (shutS r ⟨(t, .d x) :: S.F, H', S.nx⟩).F (shutS r ⟨(t, .d x) :: S.F, H', S.nx⟩).H a w := fun {y H' x} h1 h2 => by
      have ih := shutS_ok (k := k) (N := N) (ts := r) (S := ⟨(t, .d x) :: S.F, H', S.nx⟩) (clo_Fr h2 hf)
      refine ⟨ih.1, fun a w hs => ih.2 a w ?_⟩
      obtain ⟨U, γ, hm, hfr⟩ := hs
      obtain ⟨U', g1, g2, g3⟩ := clo_RD h2 hm (hfr.slot t y h1)
      refine ⟨U', γ, g1, hfr.size, hfr.cap, hfr.defers, fun t' z hz => ?_⟩
      by_cases ht : t = t'
      · subst ht
        simp only at hz
        rw [lk_self] at hz; cases hz
        exact .d g3
      · simp only at hz
        rw [lk_ne ht] at hz
        exact (hfr.slot t' z hz).mono g2
    simp only [shutS]
    split
    · rename_i i off h1
      split
      · rename_i T cs h2
        split
        · rename_i H' ds h3
          have hf' := clos_Fr h3 hf
          have hi' := clos_box h3 h2
          have ih := shutS_ok (k := k) (N := N) (ts := r) (S := ⟨S.F, (i, .box T (ds.map .d)) :: H', S.nx⟩) (Fr.same hi' hf')
          refine ⟨ih.1, fun a w hs => ih.2 a w ?_⟩
          obtain ⟨U, γ, hm, hfr⟩ := hs
          obtain ⟨U', g1, g2⟩ := shut_box hm h2 h3 hi'
          exact ⟨U', γ, g1, hfr.mono g2⟩
        · exact shutS_ok hf
      · exact shutS_ok hf
    · rename_i y _ h1
      split
      · rename_i H' x h2
        exact close h1 h2
      · exact shutS_ok hf
    · exact shutS_ok hf
/-- The slots that a region reads. -/
def readsOf (l : List Oper) : List Nat := l.flatMap fun o => o.op.operands.toList.filterMap fun x => match x with
  | .tmp t => some t
  | _ => none
def drawX2 (P : Program) (call : FuncId → List DV → Option RV) (inl : InlX) (N : Nat) (l : List Oper) (S : St) : Option (Bool × St) := match drawX P call inl N l S with
  | some r => some r
  | none => match drawX P (closeC call) inl N l S with
    | some r => some r
    | none => drawX P (closeC call) inl N l (shutS (readsOf l) S)
theorem drawX2_ok {gl : List (Nat × AV)} {P : Program} {ops : Array Oper} {Q : Exit → Act → World → Prop} {k : K0} (hkg : k.gl = gl) {N : Nat} {call : FuncId → List DV → Option RV} {inl : InlX} (hmix : P.follows .mixedOrders = true) (hcall : CallOk gl P call) (hin : InlOk gl P inl) {S S' : St} {b : Bool} (hf : Fr S.H S.nx) (h : drawX2 P call inl N ops.toList S = some (b, S')) (hb : b = true) :
    Fr S'.H S'.nx ∧ (AQ Q .normal (SR k N S'.F S'.H) → ∀ id, AC P (.region id ops true) Q (SR k N S.F S.H)) := by
  unfold drawX2 at h
  split at h
  · rename_i h1
    cases h
    exact drawX_ok hkg hmix hcall hin hf h1 hb
  · split at h
    · rename_i h1
      cases h
      exact drawX_ok hkg hmix (closeC_ok hcall) hin hf h1 hb
    · have hs := shutS_ok (k := k) (N := N) (ts := readsOf ops.toList) hf
      have := drawX_ok (Q := Q) (k := k) hkg hmix (closeC_ok hcall) hin hs.1 h hb
      exact ⟨this.1, fun hq id => AC.weaken (this.2 hq id) hs.2⟩
def iterX (body : St → Option (Bool × Exit × St)) : Nat → St → Option (Bool × Exit × St)
  | 0, _ => none
  | n + 1, S => match body S with
    | some (b, .normal, S1) => match iterX body n S1 with
      | some (b', e, S2) => some (b && b', e, S2)
      | none => none
    | r => r
def codeX (P : Program) (call : FuncId → List DV → Option RV) (inl : InlX) (N n : Nat) : Code → St → Option (Bool × Exit × St)
  | .skip, S => some (true, .normal, S)
  | .label _, S => some (true, .normal, S)
  | .region _ ops draw, S => match (bif draw then drawX2 P call inl N ops.toList S else opsX P call inl N ops.toList ops.toList S) with
    | some (b, S1) => some (b, .normal, S1)
    | none => none
  | .seq x y, S => match codeX P call inl N n x S with
    | some (b, .normal, S1) => match codeX P call inl N n y S1 with
      | some (b', e, S2) => some (b && b', e, S2)
      | none => none
    | r => r
  | .cond c x y, S => match ev S.F c with
    | some (.d (.raw (.bool true))) => codeX P call inl N n x S
    | some (.d (.raw (.bool false))) => codeX P call inl N n y S
    | _ => none
  | .block id c, S => match codeX P call inl N n c S with
    | some (b, .exit id', S1) => bif Nat.beq id' id then some (b, .normal, S1) else some (b, .exit id', S1)
    | r => r
  | .loop c, S => iterX (codeX P call inl N n c) n S
  | .exit id, S => some (true, .exit id, S)
  | .ret, S => some (true, .ret, S)
  | _, _ => none

section
variable {gl : List (Nat × AV)} {P : Program} {Q : Exit → Act → World → Prop} {k : K0} {N : Nat} {call : FuncId → List DV → Option RV} {inl : InlX}
/-- What is shown of a code that was run. -/
def Runs (P : Program) (c : Code) (k : K0) (N : Nat) (S : St) (e : Exit) (S' : St) : Prop :=
  Fr S'.H S'.nx ∧ ∀ Q : Exit → Act → World → Prop, AQ Q e (SR k N S'.F S'.H) → AC P c Q (SR k N S.F S.H)
theorem iterX_ok {c : Code} {body : St → Option (Bool × Exit × St)} (hb : ∀ S b e S', Fr S.H S.nx → body S = some (b, e, S') → b = true → Runs P c k N S e S') :
    ∀ (n : Nat) (S : St) (b : Bool) (e : Exit) (S' : St), Fr S.H S.nx → iterX body n S = some (b, e, S') → b = true → Runs P (.loop c) k N S e S' := by
  intro n S b e S' hf h hbt
  -- the walk through the rounds
  have fin : ∀ (n : Nat) (S : St) (b : Bool), Fr S.H S.nx → iterX body n S = some (b, e, S') → b = true → Fr S'.H S'.nx ∧ e ≠ .normal := by
    intro n
    induction n with
    | zero => intro S b hf h; simp [iterX] at h
    | succ n ih =>
      intro S b hf h hbt
      simp only [iterX] at h
      split at h
      · rename_i b1 S1 h1
        split at h
        · rename_i b2 e2 S2 h2
          simp only [Option.some.injEq, Prod.mk.injEq] at h
          obtain ⟨hbb, rfl, rfl⟩ := h
          rw [← hbb, Bool.and_eq_true] at hbt
          exact ih S1 b2 (hb S b1 _ S1 hf h1 hbt.1).1 h2 hbt.2
        · cases h
      · rename_i hne
        refine ⟨(hb S b e S' hf h hbt).1, fun e' => ?_⟩
        subst e'
        exact hne b S' h
  refine ⟨(fin n S b hf h hbt).1, fun Q hq => ?_⟩
  refine AC.loop (X := Nat × St × Bool) (fun x a w => SR k N x.2.1.F x.2.1.H a w ∧ Fr x.2.1.H x.2.1.nx ∧ iterX body x.1 x.2.1 = some (x.2.2, e, S') ∧ x.2.2 = true) (fun x => x.1) (n, S, b) (fun a w hs => ⟨hs, hf, h, hbt⟩) ?_
  rintro ⟨m, T, b1⟩
  intro a w ⟨hs, hfT, hT, hb1⟩
  simp only at hs hfT hT hb1
  cases m with
  | zero => simp [iterX] at hT
  | succ m =>
    simp only [iterX] at hT
    split at hT
    · rename_i b2 T1 h1
      split at hT
      · rename_i b3 e3 T2 h2
        simp only [Option.some.injEq, Prod.mk.injEq] at hT
        obtain ⟨hbb, rfl, rfl⟩ := hT
        rw [← hbb, Bool.and_eq_true] at hb1
        have hr := hb T b2 _ T1 hfT h1 hb1.1
        exact hr.2 _ (fun a' w' hs' => ⟨(m, T1, b3), Nat.lt_succ_self _, hs', hr.1, h2, hb1.2⟩) a w hs
      · cases hT
    · rename_i hno
      have hr := hb T b1 e S' hfT hT hb1
      have hne : e ≠ .normal := fun e' => by rw [e'] at hT; exact hno _ _ hT
      refine hr.2 _ ?_ a w hs
      intro a' w' hs'
      cases e with
      | normal => exact absurd rfl hne
      | _ => exact hq a' w' hs'
theorem codeX_ok (hkg : k.gl = gl) (hmix : P.follows .mixedOrders = true) (hcall : CallOk gl P call) (hin : InlOk gl P inl) {n : Nat} : ∀ (c : Code) (S : St) (b : Bool) (e : Exit) (S' : St), Fr S.H S.nx → codeX P call inl N n c S = some (b, e, S') → b = true → Runs P c k N S e S' := by
  intro c
  induction c with
  | skip => intro S b e S' hf h hb; simp only [codeX, Option.some.injEq, Prod.mk.injEq] at h; obtain ⟨_, rfl, rfl⟩ := h; exact ⟨hf, fun Q hq => AC.skip hq⟩
  | label l => intro S b e S' hf h hb; simp only [codeX, Option.some.injEq, Prod.mk.injEq] at h; obtain ⟨_, rfl, rfl⟩ := h; exact ⟨hf, fun Q hq => AC.label hq⟩
  | exit id => intro S b e S' hf h hb; simp only [codeX, Option.some.injEq, Prod.mk.injEq] at h; obtain ⟨_, rfl, rfl⟩ := h; exact ⟨hf, fun Q hq => AC.exit hq⟩
  | ret => intro S b e S' hf h hb; simp only [codeX, Option.some.injEq, Prod.mk.injEq] at h; obtain ⟨_, rfl, rfl⟩ := h; exact ⟨hf, fun Q hq => AC.ret hq⟩
  | region id ops draw =>
    intro S b e S' hf h hb
    simp only [codeX] at h
    split at h
    · rename_i b1 S1 h1
      simp only [Option.some.injEq, Prod.mk.injEq] at h
      obtain ⟨rfl, rfl, rfl⟩ := h
      cases draw with
      | true =>
        simp only [cond_true] at h1
        exact ⟨(drawX2_ok (Q := fun _ _ _ => True) (k := k) hkg hmix hcall hin hf h1 hb).1, fun Q hq => (drawX2_ok (Q := Q) (k := k) hkg hmix hcall hin hf h1 hb).2 hq id⟩
      | false =>
        simp only [cond_false] at h1
        exact ⟨(opsX_ok (ops := ops) (Q := fun _ _ _ => True) (k := k) hkg hcall hin hf h1 hb).1, fun Q hq => AC.region ((opsX_ok (ops := ops) (Q := Q) (k := k) hkg hcall hin hf h1 hb).2 hq)⟩
    · cases h
  | seq x y ihx ihy =>
    intro S b e S' hf h hb
    simp only [codeX] at h
    split at h
    · rename_i b1 S1 h1
      split at h
      · rename_i b2 e2 S2 h2
        simp only [Option.some.injEq, Prod.mk.injEq] at h
        obtain ⟨hbb, rfl, rfl⟩ := h
        rw [← hbb, Bool.and_eq_true] at hb
        have hx := ihx S b1 _ S1 hf h1 hb.1
        have hy := ihy S1 b2 e2 S2 hx.1 h2 hb.2
        exact ⟨hy.1, fun Q hq => AC.seq (hx.2 _ (AQ.then_seq (hy.2 Q hq)))⟩
      · cases h
    · rename_i hne
      have hx := ihx S b e S' hf h hb
      refine ⟨hx.1, fun Q hq => AC.seq (hx.2 _ ?_)⟩
      intro a w hs
      cases e with
      | normal => exact absurd h (hne b S')
      | _ => exact hq a w hs
  | cond c x y ihx ihy =>
    intro S b e S' hf h hb
    simp only [codeX] at h
    split at h
    · rename_i hc
      have hx := ihx S b e S' hf h hb
      exact ⟨hx.1, fun Q hq => AC.cond hc (fun _ => hx.2 Q hq) (fun e => by cases e)⟩
    · rename_i hc
      have hy := ihy S b e S' hf h hb
      exact ⟨hy.1, fun Q hq => AC.cond hc (fun e => by cases e) (fun _ => hy.2 Q hq)⟩
    · cases h
  | block id c ih =>
    intro S b e S' hf h hb
    simp only [codeX] at h
    split at h
    · rename_i b1 id' S1 h1
      cases hbi : Nat.beq id' id with
      | true =>
        simp only [hbi, cond_true, Option.some.injEq, Prod.mk.injEq] at h
        obtain ⟨rfl, rfl, rfl⟩ := h
        have e := Nat.eq_of_beq_eq_true hbi
        subst e
        have hc := ih S b1 _ S1 hf h1 hb
        exact ⟨hc.1, fun Q hq => AC.block (hc.2 _ (AQ.block_here hq))⟩
      | false =>
        simp only [hbi, cond_false, Option.some.injEq, Prod.mk.injEq] at h
        obtain ⟨rfl, rfl, rfl⟩ := h
        have hc := ih S b1 _ S1 hf h1 hb
        exact ⟨hc.1, fun Q hq => AC.block (hc.2 _ (AQ.block_out hbi hq))⟩
    · rename_i hne
      have hc := ih S b e S' hf h hb
      refine ⟨hc.1, fun Q hq => AC.block (hc.2 _ ?_)⟩
      intro a w hs
      cases e with
      | exit id' => exact absurd h (hne b id' S')
      | _ => exact hq a w hs
  | loop c ih =>
    intro S b e S' hf h hb
    simp only [codeX] at h
    exact iterX_ok (fun S b e S' hf h hb => ih S b e S' hf h hb) n S b e S' hf h hb
  | rangeFunc f params x y _ _ => intro S b e S' hf h hb; simp [codeX] at h
  | scope c _ => intro S b e S' hf h hb; simp [codeX] at h
  | goto l => intro S b e S' hf h hb; simp [codeX] at h
  | refuse why => intro S b e S' hf h hb; simp [codeX] at h
end

/-- A closed call: by what is known of the function, or walked. -/
def closedX (lib : FuncId → List DV → Option RV) (inl : InlX) (g : FuncId) (ds : List DV) : Option RV := match lib g ds with
  | some rv => some rv
  | none => match inl g (ds.map .d) [] 0 with
    | some (r, H', _) => hand H' r
    | none => none
/-- A call in its caller's memory, walked. -/
def walkX (gl : List (Nat × AV)) (P : Program) (lib : FuncId → List DV → Option RV) (inl : InlX) (n : Nat) (f : FuncId) (xs : List AV) (H : List (Nat × Ent)) (nx : Nat) : Option (AV × List (Nat × Ent) × Nat) :=
  match P.funcs[f]? with
  | some fn => match fn.body with
    | some c => match codeX P (closedX lib inl) inl fn.ntmps n c ⟨slots 0 xs ++ gl, H, nx⟩ with
      | some (true, .ret, S') => match resX P fn.results.toList S'.F S'.H with
        | some r => bif Nat.ble xs.length fn.ntmps && Nat.ble fn.ntmps gbase then some (r, S'.H, S'.nx) else none
        | none => none
      | some (true, .normal, S') => match resX P fn.results.toList S'.F S'.H with
        | some r => bif Nat.ble xs.length fn.ntmps && Nat.ble fn.ntmps gbase then some (r, S'.H, S'.nx) else none
        | none => none
      | _ => none
    | none => none
  | none => none
def callX (gl : List (Nat × AV)) (P : Program) (lib : FuncId → List DV → Option RV) : Nat → InlX
  | 0, _, _, _, _ => none
  | n + 1, f, xs, H, nx => match clos H xs with
    | some (H', ds) => match lib f ds with
      | some (.cl x) => some (.d x, H', nx)
      | some (.row e sz m cs) => some (.own nx, (nx, .row e sz m cs false) :: H', nx + 1)
      | none => walkX gl P lib (callX gl P lib n) n f xs H nx
    | none => walkX gl P lib (callX gl P lib n) n f xs H nx
theorem Fr.nil (n : Nat) : Fr [] n := fun _ _ => rfl
theorem InlOk.toCall {gl : List (Nat × AV)} {P : Program} {lib : FuncId → List DV → Option RV} (hl : CallOk gl P lib) {inl : InlX} (h : InlOk gl P inl) : CallOk gl P (closedX lib inl) := by
  intro f ds rv hc
  unfold closedX at hc
  split at hc
  · rename_i h0; cases hc; exact hl _ _ _ h0
  · split at hc
    · rename_i r H' nx' h1
      exact (h _ _ _ _ _ _ _ h1 (Fr.nil 0)).1.toFnC hc
    · cases hc
theorem FnC.toInl {gl : List (Nat × AV)} {P : Program} {f : FuncId} {xs : List AV} {ds : List DV} {rv : RV} {H H' : List (Nat × Ent)} {nx : Nat} (h : FnC gl P f ds rv) (hc : clos H xs = some (H', ds)) (hf : Fr H nx) :
    match rv with
    | .cl x => Inl gl P f xs H (.d x) H' ∧ Fr H' nx
    | .row e sz m cs => Inl gl P f xs H (.own nx) ((nx, .row e sz m cs false) :: H') ∧ Fr ((nx, .row e sz m cs false) :: H') (nx + 1) := by
  have hf' := clos_Fr hc hf
  cases rv with
  | cl x =>
    refine ⟨fun k W U γ vs hkg hm hr => ?_, hf'⟩
    obtain ⟨U1, h3, h4, h5⟩ := clos_RD hc hm hr
    refine (h W U1 vs h3.wf (by rw [← hkg]; exact k.hg _ _ _ h3.anc) h5).mono fun e W' he => ?_
    obtain ⟨v, U', rfl, h6, h7, h8⟩ := he
    obtain ⟨h9, h10⟩ := h3.agree h6 h7
    exact ⟨v, U', γ, rfl, h9, h4.trans h10, .d h8⟩
  | row e sz m cs =>
    refine ⟨fun k W U γ vs hkg hm hr => ?_, hf'.cons (Nat.le_succ _) (Nat.lt_succ_self _)⟩
    obtain ⟨U1, h3, h4, h5⟩ := clos_RD hc hm hr
    refine (h W U1 vs h3.wf (by rw [← hkg]; exact k.hg _ _ _ h3.anc) h5).mono fun e' W' he => ?_
    obtain ⟨v, U', rfl, h6, h7, q1, us, q2, q3, q4⟩ := he
    have := h3.fresh (hf' nx (Nat.le_refl _)) h6 h7 q1 (fun b hb => (q4 b hb).1) (e := .row e sz m cs false) (fun ex => ⟨v, us, upd_self _ _ _, q2, q3, fun b hb => by simpa using (q4 b hb).2⟩)
    exact ⟨v, U', _, rfl, this.1, h4.trans this.2, .own (upd_self _ _ _)⟩
theorem walkX_ok {gl : List (Nat × AV)} {P : Program} (hmix : P.follows .mixedOrders = true) {lib : FuncId → List DV → Option RV} (hl : CallOk gl P lib) {inl : InlX} (ih : InlOk gl P inl) {n : Nat} {f : FuncId} {xs : List AV} {H : List (Nat × Ent)} {nx : Nat} {r : AV} {H' : List (Nat × Ent)} {nx' : Nat} (h : walkX gl P lib inl n f xs H nx = some (r, H', nx')) (hf : Fr H nx) : Inl gl P f xs H r H' ∧ Fr H' nx' := by
  unfold walkX at h
  split at h
  · rename_i fn hfn
    split at h
    · rename_i c hc
      have fin : ∀ {e : Exit} {S' : St}, (e = .normal ∨ e = .ret) → (codeX P (closedX lib inl) inl fn.ntmps n c ⟨slots 0 xs ++ gl, H, nx⟩ = some (true, e, S')) → (match resX P fn.results.toList S'.F S'.H with
        | some r => bif Nat.ble xs.length fn.ntmps && Nat.ble fn.ntmps gbase then some (r, S'.H, S'.nx) else none
        | none => none) = some (r, H', nx') → Inl gl P f xs H r H' ∧ Fr H' nx' := fun {e S'} he hrun hres => by
        split at hres
        · rename_i r1 h1
          cases hb : Nat.ble xs.length fn.ntmps && Nat.ble fn.ntmps gbase with
          | false => simp [hb] at hres
          | true =>
            simp only [hb, cond_true, Option.some.injEq, Prod.mk.injEq] at hres
            obtain ⟨rfl, rfl, rfl⟩ := hres
            rw [Bool.and_eq_true] at hb
            have hr := fun (k : K0) (hkg : k.gl = gl) => codeX_ok (k := k) (N := fn.ntmps) hkg hmix (ih.toCall hl) ih c _ _ _ _ hf hrun rfl
            refine ⟨Inl.of hfn hc hb.1 hb.2 fun k hkg => (hr k hkg).2 _ (AQ.results h1 he), (hr (k0 gl default (fun _ => 0)) rfl).1⟩
        · cases hres
      split at h
      · rename_i S' h1; exact fin (.inr rfl) h1 h
      · rename_i S' h1; exact fin (.inl rfl) h1 h
      · cases h
    · cases h
  · cases h
theorem callX_ok {gl : List (Nat × AV)} {P : Program} (hmix : P.follows .mixedOrders = true) {lib : FuncId → List DV → Option RV} (hl : CallOk gl P lib) : ∀ n, InlOk gl P (callX gl P lib n)
  | 0 => fun f xs H nx r H' nx' h _ => by simp [callX] at h
  | n + 1 => fun f xs H nx r H' nx' h hf => by
    have ih := callX_ok hmix hl n
    simp only [callX] at h
    split at h
    · rename_i H1 ds h1
      split at h
      · rename_i x h2
        simp only [Option.some.injEq, Prod.mk.injEq] at h
        obtain ⟨rfl, rfl, rfl⟩ := h
        exact (hl _ _ _ h2).toInl h1 hf
      · rename_i e sz m cs h2
        simp only [Option.some.injEq, Prod.mk.injEq] at h
        obtain ⟨rfl, rfl, rfl⟩ := h
        exact (hl _ _ _ h2).toInl h1 hf
      · exact walkX_ok hmix hl ih h hf
    · exact walkX_ok hmix hl ih h hf
end Go.Pt
