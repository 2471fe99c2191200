/- A part of a logic over data for the given program's language: rules for single operations and walks as functions. -/
import Derived.Test.YtnohaiobpmmomaaGreatDoorB1
namespace Go.Pt
open Go.RowKit

/-- What the call's own memory holds: a variable (its cells), a row that it may append to (sealed: what is in it stays). -/
inductive Ent where
  | box (T : TypeId) (cs : List AV)
  | row (e sz n : Nat) (cs : List DV) (sealed : Bool)
  | dead

def blkOf : Value → Option Nat
  | .pointer (some a) => some a.block
  | .slice (some a) _ _ => some a.block
  | _ => none

theorem blkOf_own {v : Value} {n k : Nat} {a : Option Addr} (h : v = .slice a n k) : blkOf v = v.ownBlock := by subst h; cases a <;> rfl

def RE (W : World) (U : Nat → Nat) (γ : Nat → Option Value) (i : Nat) : Ent → Prop
  | .box T cs => ∃ b vs, γ i = some (.pointer (some ⟨b, 0, none⟩)) ∧ W.heap[b]? = some (.cells (List.toArray vs) T (0, 0)) ∧ RAs W U γ cs vs ∧ U b = 0
  | .row e sz n cs s => ∃ v vs, γ i = some v ∧ W.ownsRow 0 e sz v n vs ∧ RDs W U cs vs ∧ ∀ b, blkOf v = some b → U b = bif s then n * sz else 0
  | .dead => True

def Live (H : List (Nat × Ent)) (i : Nat) : Prop := ∃ e, lk H i = some e ∧ e ≠ .dead

/-- Numbers from here on stand for package-level variables. -/
def gbase : Nat := 1048576
def val (a : Act) (t : Nat) : Value := bif Nat.blt t gbase then a.tmps.getD t undef else .pointer (some ⟨t - gbase, 0, none⟩)
theorem val_tmp {a : Act} {t : Nat} (h : Nat.blt t gbase = true) : val a t = a.tmps.getD t undef := by simp [val, h]
/-- The variables of the package that are read, as data that stays. -/
def Gok (gl : List (Nat × AV)) (W : World) (U : Nat → Nat) : Prop := ∀ t x, lk gl t = some x → Nat.blt t gbase = false ∧ RA W U (fun _ => none) x (.pointer (some ⟨t - gbase, 0, none⟩))
theorem Gok.mono {gl : List (Nat × AV)} {W W' : World} {U U' : Nat → Nat} (h : Gok gl W U) (e : Ext W U W' U') : Gok gl W' U' :=
  fun t x hx => ⟨(h t x hx).1, (h t x hx).2.mono ⟨e, fun _ _ h => h⟩⟩
/-- The world and the sealing of a call's begin; the old blocks that it may change. -/
structure K0 where
  w : World
  U : Nat → Nat
  fp : Nat → Prop
  A : World → (Nat → Nat) → (Nat → Option Value) → Prop
  hA : ∀ W U γ W' U' γ', A W U γ → ExtA W U γ W' U' γ' → A W' U' γ'
  gl : List (Nat × AV)
  hg : ∀ W U γ, A W U γ → Gok gl W U

structure Keep (k : K0) (W : World) (U : Nat → Nat) : Prop where
  os : W.os = k.w.os
  tape : W.tape = k.w.tape
  output : W.output = k.w.output
  size : k.w.heap.size ≤ W.heap.size
  old : ∀ b, b < k.w.heap.size → ¬ k.fp b → W.heap[b]? = k.w.heap[b]? ∧ U b = k.U b

/-- What holds of memory. -/
structure MR (k : K0) (H : List (Nat × Ent)) (W : World) (U : Nat → Nat) (γ : Nat → Option Value) : Prop where
  ent : ∀ i e, lk H i = some e → RE W U γ i e
  dist : ∀ i j, i ≠ j → Live H i → Live H j → ∀ u v, γ i = some u → γ j = some v → blkOf u = none ∨ blkOf u ≠ blkOf v
  num : ∀ i v, γ i = some v → ∃ e, lk H i = some e
  priv : ∀ i, Live H i → ∀ v b, γ i = some v → blkOf v = some b → k.w.heap.size ≤ b ∨ k.fp b
  wf : ∀ b, W.heap.size ≤ b → U b = 0
  one : ∀ i v, γ i = some v → v.oneCell' = true
  keep : Keep k W U
  anc : k.A W U γ

/-- What holds of the slots. -/
structure FR (N : Nat) (F : List (Nat × AV)) (W : World) (U : Nat → Nat) (γ : Nat → Option Value) (a : Act) : Prop where
  size : a.tmps.size = N
  cap : N ≤ gbase
  defers : a.defers = []
  slot : ∀ t x, lk F t = some x → RA W U γ x (val a t)

def SR (k : K0) (N : Nat) (F : List (Nat × AV)) (H : List (Nat × Ent)) (a : Act) (w : World) : Prop :=
  ∃ U γ, MR k H w U γ ∧ FR N F w U γ a

theorem FR.put {N : Nat} {F : List (Nat × AV)} {W W' : World} {U U' : Nat → Nat} {γ γ' : Nat → Option Value} {a : Act} (h : FR N F W U γ a) (e : ExtA W U γ W' U' γ') {d : Nat} (hd : d < N) {x : AV} {v : Value} (hx : RA W' U' γ' x v) :
    FR N ((d, x) :: F) W' U' γ' (a.put (some d) v) := by
  refine ⟨by simp [Act.put, h.size], h.cap, by simp [Act.put, h.defers], fun t y hy => ?_⟩
  have hcap := h.cap
  by_cases ht : d = t
  · subst ht
    rw [lk_self] at hy
    cases hy
    have hd' : d < a.tmps.size := h.size ▸ hd
    rw [val_tmp (Nat.ble_eq_true_of_le (by omega))]
    simpa [Act.put, Array.getD_eq_getD_getElem?, hd'] using hx
  · rw [lk_ne ht] at hy
    have := (h.slot t y hy).mono e
    have hv : val (a.put (some d) v) t = val a t := by
      unfold val
      cases Nat.blt t gbase with
      | true => simp [Act.put, Array.getD_eq_getD_getElem?, Array.getElem?_setIfInBounds_ne ht]
      | false => rfl
    rw [hv]
    exact this
theorem FR.mono {N : Nat} {F : List (Nat × AV)} {W W' : World} {U U' : Nat → Nat} {γ γ' : Nat → Option Value} {a : Act} (h : FR N F W U γ a) (e : ExtA W U γ W' U' γ') : FR N F W' U' γ' a :=
  ⟨h.size, h.cap, h.defers, fun t y hy => (h.slot t y hy).mono e⟩

theorem ExtA.refl (W : World) (U : Nat → Nat) (γ : Nat → Option Value) : ExtA W U γ W U γ := ⟨Ext.refl W U, fun _ _ h => h⟩
theorem ExtA.trans {W W1 W2 : World} {U U1 U2 : Nat → Nat} {γ γ1 γ2 : Nat → Option Value} (h : ExtA W U γ W1 U1 γ1) (g : ExtA W1 U1 γ1 W2 U2 γ2) : ExtA W U γ W2 U2 γ2 :=
  ⟨h.toExt.trans g.toExt, fun i v hv => g.num i v (h.num i v hv)⟩

/-- The world grew; of the old blocks none changed, but perhaps the one x. -/
structure Agree (W : World) (U : Nat → Nat) (W' : World) (U' : Nat → Nat) (x : Option Nat) : Prop where
  os : W'.os = W.os
  tape : W'.tape = W.tape
  output : W'.output = W.output
  size : W.heap.size ≤ W'.heap.size
  block : ∀ b, b < W.heap.size → some b ≠ x → W'.heap[b]? = W.heap[b]? ∧ U' b = U b

theorem Keep.agree {k : K0} {W W' : World} {U U' : Nat → Nat} {x : Option Nat} (h : Keep k W U) (g : Agree W U W' U' x) (hx : ∀ b, x = some b → k.w.heap.size ≤ b ∨ k.fp b) : Keep k W' U' :=
  ⟨g.os.trans h.os, g.tape.trans h.tape, g.output.trans h.output, Nat.le_trans h.size g.size, fun b hb hf => by
    have hne : some b ≠ x := fun e => (hx b e.symm).elim (fun h1 => by omega) (fun h1 => hf h1)
    obtain ⟨h1, h2⟩ := g.block b (Nat.lt_of_lt_of_le hb h.size) hne
    obtain ⟨h3, h4⟩ := h.old b hb hf
    exact ⟨h1.trans h3, h2.trans h4⟩⟩

/-- An own row of W that isn't the changed block. -/
theorem ownsRow_agree {W W' : World} {U U' : Nat → Nat} {x : Option Nat} (g : Agree W U W' U' x) {e sz n : Nat} {v : Value} {vs : List Value} (h : W.ownsRow 0 e sz v n vs) (hne : blkOf v = none ∨ blkOf v ≠ x) : W'.ownsRow 0 e sz v n vs := by
  refine ⟨h.1, ?_⟩
  rcases h.2 with hn | ⟨b, cap, cur, rfl, hb, hg, rest⟩
  · exact .inl hn
  · refine .inr ⟨b, cap, cur, rfl, hb, ?_, rest⟩
    have hlt := (Array.getElem?_eq_some_iff.1 hg).1
    rw [(g.block b hlt (by simpa [blkOf] using hne)).1]
    exact hg

theorem RE.agree {W W' : World} {U U' : Nat → Nat} {γ γ' : Nat → Option Value} {x : Option Nat} {i : Nat} {e : Ent} (h : RE W U γ i e) (g : Agree W U W' U' x) (ex : ExtA W U γ W' U' γ') (hne : ∀ v, γ i = some v → blkOf v = none ∨ blkOf v ≠ x) : RE W' U' γ' i e := by
  cases e with
  | dead => trivial
  | box T cs =>
    obtain ⟨b, vs, h1, h2, h3, h4⟩ := h
    have hlt := (Array.getElem?_eq_some_iff.1 h2).1
    obtain ⟨g1, g2⟩ := g.block b hlt (by simpa [blkOf] using hne _ h1)
    exact ⟨b, vs, ex.num _ _ h1, g1.trans h2, h3.mono ex, g2.trans h4⟩
  | row e sz n cs s =>
    obtain ⟨v, vs, h1, h2, h3, h4⟩ := h
    refine ⟨v, vs, ex.num _ _ h1, ownsRow_agree g h2 (hne _ h1), h3.mono ex.toExt, fun b hb => ?_⟩
    have hlt : b < W.heap.size := by
      rcases h2.2 with ⟨rfl, _⟩ | ⟨b', cap, cur, rfl, _, hg, _⟩
      · simp [blkOf] at hb
      · have : b' = b := by simpa [blkOf] using hb
        subst this
        exact (Array.getElem?_eq_some_iff.1 hg).1
    have := (g.block b hlt (by rcases hne _ h1 with h5 | h5 <;> simp_all)).2
    rw [this]
    exact h4 b hb

theorem Ext.of_agree {W W' : World} {U U' : Nat → Nat} {x : Option Nat} (g : Agree W U W' U' x) (wf : ∀ b, W.heap.size ≤ b → U b = 0)
    (hx : ∀ b, x = some b → (∀ o, o < U b → W'.cell? ⟨b, o, none⟩ = W.cell? ⟨b, o, none⟩) ∧ U b ≤ U' b) : Ext W U W' U' := by
  refine ⟨fun b o ho => ?_, fun b => ?_⟩
  · by_cases hb : W.heap.size ≤ b
    · rw [wf b hb] at ho; omega
    · by_cases hbx : some b = x
      · exact (hx b hbx.symm).1 o ho
      · simp [World.cell?, (g.block b (by omega) hbx).1]
  · by_cases hb : W.heap.size ≤ b
    · rw [wf b hb]; omega
    · by_cases hbx : some b = x
      · exact (hx b hbx.symm).2
      · rw [(g.block b (by omega) hbx).2]; exact Nat.le_refl _

/-- Nothing old changed, nothing is numbered anew. -/
theorem MR.agree {k : K0} {H : List (Nat × Ent)} {W W' : World} {U U' : Nat → Nat} {γ : Nat → Option Value} (h : MR k H W U γ) (g : Agree W U W' U' none) (wf' : ∀ b, W'.heap.size ≤ b → U' b = 0) : MR k H W' U' γ ∧ ExtA W U γ W' U' γ := by
  have ex : ExtA W U γ W' U' γ := ⟨Ext.of_agree g h.wf (fun b hb => by cases hb), fun _ _ h => h⟩
  refine ⟨⟨fun i e he => (h.ent i e he).agree g ex (fun v _ => ?_), h.dist, h.num, h.priv, wf', h.one, h.keep.agree g (fun b hb => by cases hb), k.hA _ _ _ _ _ _ h.anc ex⟩, ex⟩
  cases hv : blkOf v <;> simp
end Go.Pt
