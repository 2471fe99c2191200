/- A part of a logic over data for the given program's language: rules for single operations and walks as functions. -/
import Derived.Test.YtnohaiobpmmomaaGreatDoorB21
set_option linter.unusedVariables false
set_option linter.unusedSimpArgs false
namespace Go.Pt
open Go.RowKit

/-! ### Regions whose order is drawn -/
def selL {α : Type} (L : List (Nat × Nat × α)) (b : Nat → Bool) : List (Nat × α) := L.filterMap fun p => bif b p.1 then some p.2 else none
def fk {α : Type} : List (Nat × Nat × α) → Nat → Option (Nat × α)
  | [], _ => none
  | (i, k, x) :: r, t => bif Nat.beq k t then some (i, x) else fk r t
def keysL {α : Type} (L : List (Nat × Nat × α)) : List Nat := L.map (·.2.1)
theorem fk_none {α : Type} : ∀ {L : List (Nat × Nat × α)} {t : Nat}, t ∉ keysL L → fk L t = none
  | [], _, _ => rfl
  | (i, k, x) :: r, t, h => by
    simp only [keysL, List.map_cons, List.mem_cons, not_or] at h
    have : Nat.beq k t = false := by
      cases hb : Nat.beq k t with
      | false => rfl
      | true => exact absurd (Nat.eq_of_beq_eq_true hb).symm h.1
    simp only [fk, this, cond_false]
    exact fk_none h.2
theorem fk_mem {α : Type} : ∀ {L : List (Nat × Nat × α)} {t i : Nat} {x : α}, fk L t = some (i, x) → (i, t, x) ∈ L
  | [], _, _, _, h => by simp [fk] at h
  | (j, k, y) :: r, t, i, x, h => by
    simp only [fk] at h
    cases hb : Nat.beq k t with
    | true => rw [hb] at h; simp at h; obtain ⟨rfl, rfl⟩ := h; have := Nat.eq_of_beq_eq_true hb; subst this; exact List.mem_cons_self
    | false => rw [hb] at h; exact List.mem_cons_of_mem _ (fk_mem (by simpa using h))
theorem fk_of_mem {α : Type} : ∀ {L : List (Nat × Nat × α)} {t i : Nat} {x : α}, (keysL L).Nodup → (i, t, x) ∈ L → fk L t = some (i, x)
  | (j, k, y) :: r, t, i, x, hn, hm => by
    simp only [keysL, List.map_cons, List.nodup_cons] at hn
    rcases List.mem_cons.1 hm with h | h
    · cases h; simp [fk]
    · have : k ≠ t := fun e => hn.1 (List.mem_map.2 ⟨_, h, e.symm⟩)
      have hb : Nat.beq k t = false := by
        cases hb : Nat.beq k t with
        | false => rfl
        | true => exact absurd (Nat.eq_of_beq_eq_true hb) this
      simp only [fk, hb, cond_false]
      exact fk_of_mem hn.2 h
theorem lk_sel {α : Type} (b : Nat → Bool) (F0 : List (Nat × α)) : ∀ {L : List (Nat × Nat × α)} (t : Nat), (keysL L).Nodup → lk (selL L b ++ F0) t = match fk L t with
    | some (i, x) => bif b i then some x else lk F0 t
    | none => lk F0 t
  | [], t, _ => rfl
  | (i, k, x) :: r, t, hn => by
    simp only [keysL, List.map_cons, List.nodup_cons] at hn
    have ih := lk_sel b F0 (L := r) t hn.2
    simp only [selL, List.filterMap_cons] at ih ⊢
    cases hb : Nat.beq k t with
    | true =>
      have e := Nat.eq_of_beq_eq_true hb
      subst e
      have hnone : fk r k = none := fk_none hn.1
      rw [hnone] at ih
      simp only [fk, hb, cond_true]
      cases hbi : b i with
      | true => simp [lk]
      | false => simpa using ih
    | false =>
      simp only [fk, hb, cond_false]
      cases hbi : b i with
      | true => simp only [cond_true, List.cons_append, lk, hb, cond_false]; exact ih
      | false => simpa using ih

/-- The operations that must come before. -/
def dirs (o : Oper) : List Nat := (o.after.toList.filter (Region.binds .any)).map (·.on)
def mkMask (ms : List Nat) : List Nat → Nat
  | [] => 0
  | j :: r => (2 ^ j ||| ms.getD j 0) ||| mkMask ms r
theorem mkMask_bit {ms : List Nat} : ∀ {ds : List Nat} {p : Nat}, (mkMask ms ds).testBit p = true → ∃ j ∈ ds, p = j ∨ (ms.getD j 0).testBit p = true
  | [], p, h => by simp [mkMask] at h
  | j :: r, p, h => by
    simp only [mkMask, Nat.testBit_or, Bool.or_eq_true, Nat.testBit_two_pow, decide_eq_true_eq] at h
    rcases h with (h | h) | h
    · exact ⟨j, List.mem_cons_self, .inl h.symm⟩
    · exact ⟨j, List.mem_cons_self, .inr h⟩
    · obtain ⟨q, h1, h2⟩ := mkMask_bit h
      exact ⟨q, List.mem_cons_of_mem _ h1, h2⟩
def masksX : List Oper → List Nat → List Nat
  | [], ms => ms
  | o :: r, ms => masksX r (ms ++ [mkMask ms (dirs o)])
theorem masksX_spec : ∀ (l : List Oper) (ms : List Nat), ∃ t, masksX l ms = ms ++ t ∧ t.length = l.length ∧ ∀ (i : Nat) (o : Oper), l[i]? = some o → ∃ m, t[i]? = some m ∧ m = mkMask (ms ++ t.take i) (dirs o)
  | [], ms => ⟨[], by simp [masksX], rfl, fun i o h => by simp at h⟩
  | o :: r, ms => by
    obtain ⟨t, h1, h2, h3⟩ := masksX_spec r (ms ++ [mkMask ms (dirs o)])
    refine ⟨mkMask ms (dirs o) :: t, by simp [masksX, h1], by simp [h2], fun i o' h => ?_⟩
    cases i with
    | zero => simp at h; subst h; exact ⟨mkMask ms (dirs o), by simp, by simp⟩
    | succ i =>
      obtain ⟨m, h4, h5⟩ := h3 i o' (by simpa using h)
      exact ⟨m, by simpa using h4, by simpa [List.append_assoc] using h5⟩
/-- The masks of a region: each bit set comes from an operation that must come before, or from its mask. -/
theorem masks_bit {l : List Oper} {i p : Nat} {o : Oper} (ho : l[i]? = some o) {m : Nat} (hm : (masksX l [])[i]? = some m) (h : m.testBit p = true) : ∃ j ∈ dirs o, p = j ∨ ∃ m', (masksX l [])[j]? = some m' ∧ m'.testBit p = true := by
  obtain ⟨t, h1, h2, h3⟩ := masksX_spec l []
  rw [List.nil_append] at h1
  rw [h1] at hm ⊢
  obtain ⟨m', h4, h5⟩ := h3 i o ho
  rw [h4] at hm; cases hm
  rw [h5] at h
  obtain ⟨j, h6, h7⟩ := mkMask_bit h
  refine ⟨j, h6, h7.imp id fun h8 => ?_⟩
  rw [List.nil_append] at h8
  rw [List.getD_eq_getElem?_getD] at h8
  cases hq : (t.take i)[j]? with
  | none => rw [hq] at h8; simp at h8
  | some q =>
    rw [hq] at h8
    rw [List.getElem?_take] at hq
    split at hq
    · exact ⟨q, hq, by simpa using h8⟩
    · cases hq

/-- The numbers of memory that an operation looks at. -/
def idOf : Option AV → List Nat
  | some (.ptr i _) => [i]
  | some (.rp i _) => [i]
  | some (.own i) => [i]
  | _ => []
def readIds (F : List (Nat × AV)) : Op → List Nat
  | .load _ a => idOf (ev F a)
  | .store _ x _ => idOf (ev F x)
  | .indexAddr _ x _ => match ev F x with
    | some (.own i) => [i]
    | _ => []
  | .call ⟨.builtin .len, ⟨[x]⟩, _⟩ => idOf (ev F x)
  | _ => []
/-- What is known of them. -/
def pickH (H : List (Nat × Ent)) (R : List Nat) : List (Nat × Ent) := R.filterMap fun i => (lk H i).map fun e => (i, e)
theorem pickH_LX {H H' : List (Nat × Ent)} : ∀ {R : List Nat}, (∀ κ ∈ R, lk H' κ = lk H κ) → LX (pickH H R) H'
  | [], h => fun t x hx => by simp [pickH, lk] at hx
  | i :: R, h => fun t x hx => by
    have ih := pickH_LX (R := R) (fun κ hκ => h κ (List.mem_cons_of_mem _ hκ)) t x
    simp only [pickH, List.filterMap_cons] at hx ih
    cases hq : lk H i with
    | none => rw [hq] at hx; exact ih hx
    | some e =>
      rw [hq] at hx
      simp only [Option.map_some] at hx
      by_cases hit : i = t
      · subst hit
        rw [lk_self] at hx; cases hx
        rw [h i List.mem_cons_self, hq]
      · rw [lk_ne hit] at hx
        exact ih hx
/-- A store into a variable that was there ahead of the region. -/
def freeStore (P : Program) (F : List (Nat × AV)) (H : List (Nat × Ent)) (nx m : Nat) : Op → Option (Bool × Nat × Ent)
  | .store t x y => match szB P t, ev F x, ev F y with
    | some (n, b), some (.ptr i off), some yv => match cells1 yv, lk H i with
      | some ns, some (.box T cs) => some ((Nat.blt i nx || m.testBit (i - nx)) && (onesA ns && (Nat.beq ns.length n && Nat.ble (off + n) cs.length)), i, .box T (putA cs off ns))
      | _, _ => none
    | _, _, _ => none
  | _ => none
theorem freeStore_ok {P : Program} {F F' : List (Nat × AV)} {H H' : List (Nat × Ent)} {nx m : Nat} {op : Op} {b : Bool} {i : Nat} {e : Ent} (h : freeStore P F H nx m op = some (b, i, e)) (hb : b = true) (hF : LX F F') (hH : lk H' i = lk H i) {ops : Array Oper} {Q : Exit → Act → World → Prop} {k : K0} {N : Nat} {ty : TypeId} {pos : String} {after : Array Edge} :
    ((i < nx ∨ m.testBit (i - nx) = true) ∧ i ∈ readIds F op) ∧ OS P ops Q ⟨none, op, ty, pos, after, none⟩ (SR k N F' H') (SR k N F' ((i, e) :: H')) := by
  unfold freeStore at h
  split at h
  · split at h
    · rename_i n b' j off yv h1 h2 h3
      split at h
      · rename_i ns T cs h4 h5
        cases h
        simp only [Bool.and_eq_true] at hb
        have hk : i < nx ∨ m.testBit (i - nx) = true := by
          rcases (Bool.or_eq_true _ _).mp hb.1 with h9 | h9
          · exact .inl (Nat.le_of_ble_eq_true h9)
          · exact .inr h9
        exact ⟨⟨hk, by simp [readIds, h2, idOf]⟩, OS.store h1 (ev_mono hF h2) (ev_mono hF h3) h4 (hH.trans h5) hb.2.1 hb.2.2.1 hb.2.2.2⟩
      · cases h
    · cases h
  · cases h
/-- The effects of the free operations, one by one: each is shown what those before it (by the edges) have done. -/
def buildX (P : Program) (call : FuncId → List DV → Option RV) (N nx : Nat) (all : List Oper) (F0 : List (Nat × AV)) (HS : List (Nat × Ent)) :
    Nat → List Oper → List Nat → List (Nat × Nat × AV) → List (Nat × Nat × Ent) → List (Nat × Nat × List Nat) → Option (Bool × List (Nat × Nat × AV) × List (Nat × Nat × Ent) × List (Nat × Nat × List Nat))
  | _, [], _, L, LE, RR => some (true, L, LE, RR)
  | i, o :: r, m :: ms, L, LE, RR => match wantX all (selL L m.testBit ++ F0) o.guard with
    | some true => match o.dst with
      | some d => match effX P call (selL L m.testBit ++ F0) (pickH (selL LE m.testBit ++ HS) (readIds (selL L m.testBit ++ F0) o.op)) (nx + i) o.op with
        | some e => match buildX P call N nx all F0 HS (i + 1) r ms (L ++ [(i, d, e.y)]) ((match e.e with
              | some x => [(i, nx + i, x)]
              | none => []) ++ LE) ((i, m, readIds (selL L m.testBit ++ F0) o.op) :: RR) with
          | some (b, q) => some (e.ob && (Nat.blt d N && b), q)
          | none => none
        | none => none
      | none => match freeStore P (selL L m.testBit ++ F0) (selL LE m.testBit ++ HS) nx m o.op with
        | some (ob, κ, e) => match buildX P call N nx all F0 HS (i + 1) r ms L ((i, κ, e) :: LE) ((i, m, readIds (selL L m.testBit ++ F0) o.op) :: RR) with
          | some (b, q) => some (ob && b, q)
          | none => none
        | none => none
    | some false => match o.dst with
      | some d => match buildX P call N nx all F0 HS (i + 1) r ms (L ++ [(i, d, .d (.raw undef))]) LE ((i, m, []) :: RR) with
        | some (b, q) => some (Nat.blt d N && b, q)
        | none => none
      | none => buildX P call N nx all F0 HS (i + 1) r ms L LE ((i, m, []) :: RR)
    | none => none
  | _, _, _, _, _, _ => none

/-- What is shown of the free operation number i. -/
def FreeOk (P : Program) (ops : Array Oper) (Q : Exit → Act → World → Prop) (k : K0) (N nx : Nat) (F0 : List (Nat × AV)) (HS : List (Nat × Ent)) (L : List (Nat × Nat × AV)) (LE : List (Nat × Nat × Ent)) (i : Nat) (o : Oper) (m : Nat) (R : List Nat) (Do : Option (Nat × AV)) (Eo : Option (Nat × Ent)) : Prop :=
  (∀ κ e, Eo = some (κ, e) → κ = nx + i ∨ ((κ < nx ∨ m.testBit (κ - nx) = true) ∧ κ ∈ R)) ∧
  ∀ F' H', LX (selL L m.testBit ++ F0) F' → (∀ κ ∈ R, lk H' κ = lk (selL LE m.testBit ++ HS) κ) → lk H' (nx + i) = none → OS P ops Q o (SR k N F' H') (SR k N (Do.toList ++ F') (Eo.toList ++ H'))
def tag {α : Type} (i : Nat) (o : Option α) : List (Nat × α) := o.toList.map fun x => (i, x)
theorem tag_mem {α : Type} {i : Nat} {o : Option α} {p : Nat × α} (h : p ∈ tag i o) : p.1 = i ∧ o = some p.2 := by
  cases o with
  | none => simp [tag] at h
  | some x => simp [tag] at h; subst h; exact ⟨rfl, rfl⟩

/-- What is shown of all of them. -/
def FactsOk (P : Program) (ops : Array Oper) (Q : Exit → Act → World → Prop) (k : K0) (N nx : Nat) (F0 : List (Nat × AV)) (HS : List (Nat × Ent)) (i : Nat) (l : List Oper) (ms : List Nat) (L L' : List (Nat × Nat × AV)) (LE LE' : List (Nat × Nat × Ent)) (RR RR' : List (Nat × Nat × List Nat)) : Prop :=
  (∃ tL, L' = L ++ tL ∧ ∀ p ∈ tL, i ≤ p.1 ∧ p.1 < i + l.length) ∧ (∃ tE, LE' = tE ++ LE ∧ ∀ p ∈ tE, i ≤ p.1 ∧ p.1 < i + l.length ∧ (p.2.1 = nx + p.1 ∨ (∃ m R, (p.1, m, R) ∈ RR' ∧ p.2.1 ∈ R ∧ (p.2.1 < nx ∨ m.testBit (p.2.1 - nx) = true)))) ∧ (∃ tR, RR' = tR ++ RR ∧ ∀ p ∈ tR, ∃ q, p.1 = i + q ∧ ms[q]? = some p.2.1) ∧
  ∀ (q : Nat) (o : Oper), l[q]? = some o → ∃ m R Do Eo Lq LEq tL tE, ms[q]? = some m ∧ (i + q, m, R) ∈ RR' ∧ L' = Lq ++ (tag (i + q) Do ++ tL) ∧ (∀ p ∈ Lq, p ∈ L ∨ (i ≤ p.1 ∧ p.1 < i + q)) ∧ (∀ p ∈ tL, i + q < p.1) ∧
    LE' = tE ++ (tag (i + q) Eo ++ LEq) ∧ (∀ p ∈ LEq, p ∈ LE ∨ (i ≤ p.1 ∧ p.1 < i + q)) ∧ (∀ p ∈ tE, i + q < p.1) ∧ FreeOk P ops Q k N nx F0 HS Lq LEq (i + q) o m R Do Eo

theorem FactsOk.cons {P : Program} {ops : Array Oper} {Q : Exit → Act → World → Prop} {k : K0} {N nx : Nat} {F0 : List (Nat × AV)} {HS : List (Nat × Ent)} {i : Nat} {o : Oper} {r : List Oper} {m : Nat} {ms : List Nat} {L L' : List (Nat × Nat × AV)} {LE LE' : List (Nat × Nat × Ent)} {RR RR' : List (Nat × Nat × List Nat)} {R : List Nat} {Do : Option (Nat × AV)} {Eo : Option (Nat × Ent)}
    (h : FactsOk P ops Q k N nx F0 HS (i + 1) r ms (L ++ tag i Do) L' (tag i Eo ++ LE) LE' ((i, m, R) :: RR) RR') (free : FreeOk P ops Q k N nx F0 HS L LE i o m R Do Eo) : FactsOk P ops Q k N nx F0 HS i (o :: r) (m :: ms) L L' LE LE' RR RR' := by
  obtain ⟨⟨tL, g1, g1'⟩, ⟨tE, g2, g2'⟩, ⟨tR, g4, g4'⟩, g3⟩ := h
  have hR : (i, m, R) ∈ RR' := by rw [g4]; simp
  refine ⟨⟨tag i Do ++ tL, by rw [g1, List.append_assoc], ?_⟩, ⟨tE ++ tag i Eo, by rw [g2, List.append_assoc], ?_⟩, ⟨tR ++ [(i, m, R)], by rw [g4]; simp, fun p hp => by
    rcases List.mem_append.1 hp with hp | hp
    · obtain ⟨q, h1, h2⟩ := g4' p hp
      exact ⟨q + 1, by omega, by simpa using h2⟩
    · simp at hp; subst hp; exact ⟨0, by simp, by simp⟩⟩, ?_⟩
  · intro p hp
    rcases List.mem_append.1 hp with hp | hp
    · have := (tag_mem hp).1; simp; omega
    · have := g1' p hp; simp; omega
  · intro p hp
    rcases List.mem_append.1 hp with hp | hp
    · have := g2' p hp; exact ⟨by omega, by simp; omega, this.2.2⟩
    · obtain ⟨h1, h2⟩ := tag_mem hp
      refine ⟨by omega, by simp; omega, ?_⟩
      rcases free.1 p.2.1 p.2.2 h2 with h3 | h3
      · rw [h1]; exact .inl h3
      · exact .inr ⟨m, R, by rw [h1]; exact hR, h3.2, h3.1⟩
  · intro q o' hq
    cases q with
    | zero =>
      simp at hq; subst hq
      refine ⟨m, R, Do, Eo, L, LE, tL, tE, rfl, hR, by rw [g1, List.append_assoc]; rfl, fun p hp => .inl hp, fun p hp => by have := g1' p hp; omega, g2, fun p hp => .inl hp, fun p hp => by have := g2' p hp; omega, free⟩
    | succ q =>
      obtain ⟨m', R', Do', Eo', Lq, LEq, tL', tE', c1, c0, c2, c3, c4, c5, c6, c7, c8⟩ := g3 q o' (by simpa using hq)
      rw [show i + 1 + q = i + (q + 1) by omega] at c0 c2 c4 c5 c7 c8
      refine ⟨m', R', Do', Eo', Lq, LEq, tL', tE', by simpa using c1, c0, c2, fun p hp => ?_, c4, c5, fun p hp => ?_, c7, c8⟩
      · rcases c3 p hp with h5 | h5
        · rcases List.mem_append.1 h5 with h6 | h6
          · exact .inl h6
          · have := (tag_mem h6).1; exact .inr (by omega)
        · exact .inr (by omega)
      · rcases c6 p hp with h5 | h5
        · rcases List.mem_append.1 h5 with h6 | h6
          · have := (tag_mem h6).1; exact .inr (by omega)
          · exact .inl h6
        · exact .inr (by omega)

theorem buildX_ok {gl : List (Nat × AV)} {P : Program} {call : FuncId → List DV → Option RV} (hcall : CallOk gl P call) {N nx : Nat} {ops : Array Oper} {F0 : List (Nat × AV)} {HS : List (Nat × Ent)} (Q : Exit → Act → World → Prop) (k : K0) (hkg : k.gl = gl) :
    ∀ {l : List Oper} {i : Nat} {ms : List Nat} {L L' : List (Nat × Nat × AV)} {LE LE' : List (Nat × Nat × Ent)} {RR RR' : List (Nat × Nat × List Nat)} {b : Bool}, buildX P call N nx ops.toList F0 HS i l ms L LE RR = some (b, L', LE', RR') → b = true → FactsOk P ops Q k N nx F0 HS i l ms L L' LE LE' RR RR'
  | [], i, ms, L, L', LE, LE', RR, RR', b, h, hb => by
    simp only [buildX, Option.some.injEq, Prod.mk.injEq] at h
    obtain ⟨_, rfl, rfl, rfl⟩ := h
    exact ⟨⟨[], by simp, by simp⟩, ⟨[], by simp, by simp⟩, ⟨[], by simp, by simp⟩, fun q o h => by simp at h⟩
  | o :: r, i, [], L, L', LE, LE', RR, RR', b, h, hb => by simp [buildX] at h
  | o :: r, i, m :: ms, L, L', LE, LE', RR, RR', b, h, hb => by
    have weak : ∀ {F' : List (Nat × AV)} {H' : List (Nat × Ent)}, LX (selL L m.testBit ++ F0) F' → ∀ {a : Act} {w : World}, SR k N F' H' a w → SR k N (selL L m.testBit ++ F0) H' a w := fun {F' H'} hF {a w} hs => by
      obtain ⟨U, γ, hm, hf⟩ := hs
      exact ⟨U, γ, hm, hf.size, hf.cap, hf.defers, fun t y hy => hf.slot t y (hF t y hy)⟩
    simp only [buildX] at h
    split at h
    · rename_i hw
      split at h
      · rename_i d hd
        split at h
        · rename_i e he
          split at h
          · rename_i b1 q1 h1
            simp only [Option.some.injEq, Prod.mk.injEq] at h
            obtain ⟨hbb, rfl⟩ := h
            rw [← hbb] at hb
            simp only [Bool.and_eq_true] at hb
            have hE : (match e.e with
              | some x => [(i, nx + i, x)]
              | none => []) = tag i (e.e.map fun x => (nx + i, x)) := by cases e.e <;> rfl
            rw [hE] at h1
            have rest := buildX_ok (ops := ops) hcall Q k hkg (L := L ++ tag i (some (d, e.y))) h1 hb.2.2
            refine rest.cons ⟨fun κ x hx => ?_, fun F' H' hF hH hn => ?_⟩
            · rw [Option.map_eq_some_iff] at hx
              obtain ⟨z, _, hz⟩ := hx
              cases hz; exact .inl rfl
            · have hdo := effX_ok (ty := o.type) (pos := o.pos) (after := o.after) (d := d) hcall he ops Q k hkg N F' H' hF (pickH_LX hH) hn hb.2.1 hb.1
              have hon := OS.on (o := o) (by
                have : bareOp o = ⟨some d, o.op, o.type, o.pos, o.after, none⟩ := by rw [← hd]; rfl
                rw [this]; exact hdo) (fun a w hs => wantX_ok hw a w (weak hF hs))
              have hE2 : e.E (nx + i) = (e.e.map fun x => (nx + i, x)).toList := by unfold Eff.E; cases e.e <;> rfl
              rw [hE2] at hon
              exact hon
          · cases h
        · cases h
      · rename_i hd
        split at h
        · rename_i ob κ e he
          split at h
          · rename_i b1 q1 h1
            simp only [Option.some.injEq, Prod.mk.injEq] at h
            obtain ⟨hbb, rfl⟩ := h
            rw [← hbb] at hb
            simp only [Bool.and_eq_true] at hb
            have h1' : buildX P call N nx ops.toList F0 HS (i + 1) r ms (L ++ tag i (none : Option (Nat × AV))) (tag i (some (κ, e)) ++ LE) ((i, m, readIds (selL L m.testBit ++ F0) o.op) :: RR) = some (b1, L', LE', RR') := by
              simpa [tag] using h1
            have hfs := freeStore_ok (ops := ops) (Q := Q) (k := k) (N := N) (ty := o.type) (pos := o.pos) (after := o.after) he hb.1 (LX.refl _) (rfl : lk (selL LE m.testBit ++ HS) κ = lk (selL LE m.testBit ++ HS) κ)
            refine (buildX_ok (ops := ops) hcall Q k hkg h1' hb.2).cons ⟨fun κ' x hx => ?_, fun F' H' hF hH hn => ?_⟩
            · cases hx
              exact .inr hfs.1
            · have := (freeStore_ok (ops := ops) (Q := Q) (k := k) (N := N) (ty := o.type) (pos := o.pos) (after := o.after) he hb.1 hF (hH κ hfs.1.2)).2
              refine OS.on (o := o) ?_ (fun a w hs => wantX_ok hw a w (weak hF hs))
              have hbare : bareOp o = ⟨none, o.op, o.type, o.pos, o.after, none⟩ := by rw [← hd]; rfl
              rw [hbare]; exact this
          · cases h
        · cases h
    · rename_i hw
      split at h
      · rename_i d hd
        split at h
        · rename_i b1 q1 h1
          simp only [Option.some.injEq, Prod.mk.injEq] at h
          obtain ⟨hbb, rfl⟩ := h
          rw [← hbb] at hb
          simp only [Bool.and_eq_true] at hb
          have h1' : buildX P call N nx ops.toList F0 HS (i + 1) r ms (L ++ tag i (some (d, .d (.raw undef)))) (tag i (none : Option (Nat × Ent)) ++ LE) ((i, m, []) :: RR) = some (b1, L', LE', RR') := by
            simpa [tag] using h1
          refine (buildX_ok (ops := ops) hcall Q k hkg h1' hb.2).cons ⟨(fun κ' x hx => by cases hx), fun F' H' hF hH hn => ?_⟩
          have := OS.skip (P := P) (ops := ops) (Q := Q) (k := k) (N := N) (F := F') (H := H') (o := o) (fun a w hs => wantX_ok hw a w (weak hF hs))
          rw [hd] at this
          simp only [hb.1, cond_true] at this
          exact this
        · cases h
      · rename_i hd
        have h1' : buildX P call N nx ops.toList F0 HS (i + 1) r ms (L ++ tag i (none : Option (Nat × AV))) (tag i (none : Option (Nat × Ent)) ++ LE) ((i, m, []) :: RR) = some (b, L', LE', RR') := by
          simpa [tag] using h
        refine (buildX_ok (ops := ops) hcall Q k hkg h1' hb).cons ⟨(fun κ' x hx => by cases hx), fun F' H' hF hH hn => ?_⟩
        have := OS.skip (P := P) (ops := ops) (Q := Q) (k := k) (N := N) (F := F') (H := H') (o := o) (fun a w hs => wantX_ok hw a w (weak hF hs))
        rw [hd] at this
        exact this
    · cases h
end Go.Pt
