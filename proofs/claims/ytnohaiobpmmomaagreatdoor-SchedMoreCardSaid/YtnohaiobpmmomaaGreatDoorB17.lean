/- A part of a logic over data for the given program's language: rules for single operations and walks as functions. -/
import Derived.Test.YtnohaiobpmmomaaGreatDoorB16c
set_option linter.unusedVariables false
set_option linter.unusedSimpArgs false
namespace Go.Pt
open Go.RowKit

/-! ### Functions -/
/-- What a call leaves: data, or a row that is the caller's from now on. -/
inductive RV where
  | cl (x : DV)
  | row (e sz n : Nat) (cs : List DV)

def RVR (W0 W : World) (U : Nat → Nat) : RV → Value → Prop
  | .cl x, v => RD W U x v
  | .row e sz n cs, v => v.oneCell' = true ∧ ∃ vs, W.ownsRow 0 e sz v n vs ∧ RDs W U cs vs ∧ ∀ b, blkOf v = some b → W0.heap.size ≤ b ∧ U b = 0

/-- A function of data: nothing old is changed. -/
def FnC (gl : List (Nat × AV)) (P : Program) (f : FuncId) (args : List DV) (r : RV) : Prop :=
  ∀ (W : World) (U : Nat → Nat) (vs : List Value), (∀ b, W.heap.size ≤ b → U b = 0) → Gok gl W U → RDs W U args vs →
    Calls P f vs.toArray W fun e W' => ∃ v U', e = .returned v ∧ Agree W U W' U' none ∧ (∀ b, W'.heap.size ≤ b → U' b = 0) ∧ RVR W W' U' r v

/-- A function that is walked in its caller's memory. -/
def Inl (gl : List (Nat × AV)) (P : Program) (f : FuncId) (xs : List AV) (H : List (Nat × Ent)) (r : AV) (H' : List (Nat × Ent)) : Prop :=
  ∀ (k : K0) (W : World) (U : Nat → Nat) (γ : Nat → Option Value) (vs : List Value), k.gl = gl → MR k H W U γ → RAs W U γ xs vs →
    Calls P f vs.toArray W fun e W' => ∃ v U' γ', e = .returned v ∧ MR k H' W' U' γ' ∧ ExtA W U γ W' U' γ' ∧ RA W' U' γ' r v

def k0 (gl : List (Nat × AV)) (W : World) (U : Nat → Nat) : K0 := ⟨W, U, fun _ => False, fun W U _ => Gok gl W U, fun _ _ _ _ _ _ h e => h.mono e.toExt, gl, fun _ _ _ h => h⟩
theorem MR.start {gl : List (Nat × AV)} {W : World} {U : Nat → Nat} (wf : ∀ b, W.heap.size ≤ b → U b = 0) (hg : Gok gl W U) : MR (k0 gl W U) [] W U (fun _ => none) where
  ent := fun i e h => by simp [lk] at h
  dist := fun i j _ h => by obtain ⟨e, he, _⟩ := h; simp [lk] at he
  num := fun i v h => by cases h
  priv := fun i h => by obtain ⟨e, he, _⟩ := h; simp [lk] at he
  wf := wf
  one := fun i v h => by cases h
  keep := ⟨rfl, rfl, rfl, Nat.le_refl _, fun _ _ _ => ⟨rfl, rfl⟩⟩
  anc := hg
theorem Keep.toAgree {gl : List (Nat × AV)} {W W' : World} {U U' : Nat → Nat} (h : Keep (k0 gl W U) W' U') : Agree W U W' U' none :=
  ⟨h.os, h.tape, h.output, h.size, fun b hb _ => h.old b hb (fun h => h)⟩
/-- One anchor more. -/
def K0.anchor (k : K0) (W : World) (U : Nat → Nat) (γ : Nat → Option Value) : K0 :=
  ⟨k.w, k.U, k.fp, fun W1 U1 γ1 => k.A W1 U1 γ1 ∧ ExtA W U γ W1 U1 γ1, fun _ _ _ _ _ _ h e => ⟨k.hA _ _ _ _ _ _ h.1 e, h.2.trans e⟩, k.gl, fun _ _ _ h => k.hg _ _ _ h.1⟩
theorem MR.drop_anchor {k : K0} {W0 : World} {U0 : Nat → Nat} {γ0 : Nat → Option Value} {H : List (Nat × Ent)} {W : World} {U : Nat → Nat} {γ : Nat → Option Value} (h : MR (k.anchor W0 U0 γ0) H W U γ) : MR k H W U γ ∧ ExtA W0 U0 γ0 W U γ :=
  ⟨⟨h.ent, h.dist, h.num, h.priv, h.wf, h.one, ⟨h.keep.os, h.keep.tape, h.keep.output, h.keep.size, h.keep.old⟩, h.anc.1⟩, h.anc.2⟩
theorem MR.anchored {k : K0} {H : List (Nat × Ent)} {W : World} {U : Nat → Nat} {γ : Nat → Option Value} (h : MR k H W U γ) : MR (k.anchor W U γ) H W U γ :=
  ⟨h.ent, h.dist, h.num, h.priv, h.wf, h.one, ⟨h.keep.os, h.keep.tape, h.keep.output, h.keep.size, h.keep.old⟩, h.anc, ExtA.refl _ _ _⟩

/-- What a call hands back, read as data; a row of its own stays a row. -/
def hand (H : List (Nat × Ent)) : AV → Option RV
  | .own i => match lk H i with
    | some (.row e sz n cs false) => some (.row e sz n cs)
    | some (.row _ _ n cs true) => some (.cl (.sl n cs))
    | _ => none
  | y => (clo H y).map fun p => .cl p.2
theorem hand_RV {gl : List (Nat × AV)} {W W' : World} {U0 U : Nat → Nat} {γ : Nat → Option Value} {H : List (Nat × Ent)} {y : AV} {r : RV} {v : Value} (h : MR (k0 gl W U0) H W' U γ) (hr : RA W' U γ y v) (hh : hand H y = some r) :
    ∃ U', Agree W U0 W' U' none ∧ (∀ b, W'.heap.size ≤ b → U' b = 0) ∧ RVR W W' U' r v := by
  have plain : ∀ {p : List (Nat × Ent) × DV}, clo H y = some p → ∃ U', Agree W U0 W' U' none ∧ (∀ b, W'.heap.size ≤ b → U' b = 0) ∧ RD W' U' p.2 v := fun {p} hp => by
    obtain ⟨U', h1, _, h2⟩ := clo_RD (H' := p.1) (x := p.2) hp h hr
    exact ⟨U', h1.keep.toAgree, h1.wf, h2⟩
  have viaClo : (clo H y).map (fun p => RV.cl p.2) = some r → ∃ U', Agree W U0 W' U' none ∧ (∀ b, W'.heap.size ≤ b → U' b = 0) ∧ RVR W W' U' r v := fun hm => by
    rw [Option.map_eq_some_iff] at hm
    obtain ⟨p, hp, rfl⟩ := hm
    exact plain hp
  cases y with
  | own i =>
    simp only [hand] at hh
    cases hr with
    | own hγ =>
      split at hh
      · rename_i e sz n cs hi
        cases hh
        obtain ⟨v', vs, h1, h2, h3, h4⟩ := h.ent i _ hi
        rw [hγ] at h1; cases h1
        refine ⟨U, h.keep.toAgree, h.wf, h.one _ _ hγ, vs, h2, h3, fun b hb => ⟨?_, by simpa using h4 b hb⟩⟩
        rcases h.priv i ⟨_, hi, by simp⟩ _ b hγ hb with h5 | h5
        · exact h5
        · exact h5.elim
      · rename_i hi
        cases hh
        exact ⟨U, h.keep.toAgree, h.wf, row_reads (h.ent i _ hi) hγ⟩
      · cases hh
  | _ => exact viaClo hh
theorem Inl.toFnC {gl : List (Nat × AV)} {P : Program} {f : FuncId} {args : List DV} {y : AV} {H' : List (Nat × Ent)} {r : RV} (h : Inl gl P f (args.map .d) [] y H') (hh : hand H' y = some r) : FnC gl P f args r := by
  intro W U vs wf hg hr
  refine (h (k0 gl W U) W U (fun _ => none) vs rfl (MR.start wf hg) (RAs.of_RDs hr)).mono fun e W' he => ?_
  obtain ⟨v, U', γ', rfl, h1, _, h2⟩ := he
  obtain ⟨U2, h3, h4, h5⟩ := hand_RV h1 h2 hh
  exact ⟨v, U2, rfl, h3, h4, h5⟩

/-! ### Entry and return -/
def slots : Nat → List AV → List (Nat × AV)
  | _, [] => []
  | i, x :: r => (i, x) :: slots (i + 1) r
theorem slots_lk : ∀ {xs : List AV} {k t : Nat} {y : AV}, lk (slots k xs) t = some y → ∃ j, t = k + j ∧ xs[j]? = some y
  | [], k, t, y, h => by simp [slots, lk] at h
  | x :: r, k, t, y, h => by
    by_cases e : k = t
    · subst e
      simp only [slots] at h
      rw [lk_self] at h; cases h
      exact ⟨0, by simp, by simp⟩
    · simp only [slots] at h
      rw [lk_ne e] at h
      obtain ⟨j, h1, h2⟩ := slots_lk h
      exact ⟨j + 1, by omega, by simpa using h2⟩
theorem slots_lk_app {gl : List (Nat × AV)} : ∀ {xs : List AV} {k t : Nat} {y : AV}, lk (slots k xs ++ gl) t = some y → (∃ j, t = k + j ∧ xs[j]? = some y) ∨ lk gl t = some y
  | [], k, t, y, h => .inr h
  | x :: r, k, t, y, h => by
    by_cases e : k = t
    · subst e
      simp only [slots, List.cons_append] at h
      rw [lk_self] at h; cases h
      exact .inl ⟨0, by simp, by simp⟩
    · simp only [slots, List.cons_append] at h
      rw [lk_ne e] at h
      rcases slots_lk_app h with ⟨j, h1, h2⟩ | h1
      · exact .inl ⟨j + 1, by omega, by simpa using h2⟩
      · exact .inr h1
theorem FR.enter {gl : List (Nat × AV)} {W : World} {U : Nat → Nat} {γ : Nat → Option Value} {xs : List AV} {vs : List Value} {N : Nat} (hg : Gok gl W U) (h : RAs W U γ xs vs) (hN : Nat.ble xs.length N = true) (hcap : Nat.ble N gbase = true) :
    FR N (slots 0 xs ++ gl) W U γ { tmps := vs.toArray ++ Array.replicate (N - vs.toArray.size) undef, defers := [] } := by
  have hl := h.length
  have hN' := Nat.le_of_ble_eq_true hN
  have hc' := Nat.le_of_ble_eq_true hcap
  refine ⟨by simp; omega, hc', rfl, fun t y hy => ?_⟩
  rcases slots_lk_app hy with ⟨j, rfl, hj⟩ | hy
  · obtain ⟨v, h1, h2⟩ := h.get hj
    have hlt : j < vs.length := by
      rcases Nat.lt_or_ge j vs.length with h | h
      · exact h
      · rw [List.getElem?_eq_none h] at h1; cases h1
    rw [Nat.zero_add]
    rw [val_tmp (Nat.ble_eq_true_of_le (by omega))]
    have : ((vs.toArray ++ Array.replicate (N - vs.toArray.size) undef).getD j undef) = v := by
      rw [Array.getD_eq_getD_getElem?, Array.getElem?_append_left (by simpa using hlt)]
      simp [h1]
    rw [this]
    exact h2
  · obtain ⟨h1, h2⟩ := hg t y hy
    have hv : val { tmps := vs.toArray ++ Array.replicate (N - vs.toArray.size) undef, defers := [] } t = .pointer (some ⟨t - gbase, 0, none⟩) := by simp [val, h1]
    rw [hv]
    exact h2.mono ⟨Ext.refl _ _, fun _ _ h => by cases h⟩

/-- One result: from a slot, or from a variable. -/
def res1 (P : Program) (F : List (Nat × AV)) (H : List (Nat × Ent)) : ResultVar → Option AV
  | .tmp t => lkt F t
  | .cell a t => match lkt F a, szB P t with
    | some (.ptr i off), some (n, b) => match lk H i with
      | some (.box _ cs) => bif (b || Nat.beq n 1) && Nat.ble (off + n) cs.length then sub cs off n b else none
      | _ => none
    | _, _ => none
def resl (P : Program) (F : List (Nat × AV)) (H : List (Nat × Ent)) : List ResultVar → Option (List AV)
  | [] => some []
  | x :: r => match res1 P F H x, resl P F H r with
    | some y, some ys => some (y :: ys)
    | _, _ => none
def resX (P : Program) (l : List ResultVar) (F : List (Nat × AV)) (H : List (Nat × Ent)) : Option AV :=
  match resl P F H l with
  | some [y] => some y
  | some ys => some (.tup ys)
  | none => none
section
variable {P : Program} {k : K0} {N : Nat} {F : List (Nat × AV)} {H : List (Nat × Ent)} {W : World} {U : Nat → Nat} {γ : Nat → Option Value} {a : Act}
def readRes (tmps : Array Value) : ResultVar → Sem Value
  | .tmp t => pure (tmps.getD t undef)
  | .cell a t => do loadVar t (← asAddr (tmps.getD a undef))
theorem res1_RA (hm : MR k H W U γ) (hf : FR N F W U γ a) {x : ResultVar} {y : AV} (h : res1 P F H x = some y) : ∃ v, (readRes a.tmps x).run P W = .ok v W ∧ RA W U γ y v := by
  cases x with
  | tmp t =>
    obtain ⟨h1, h2⟩ := lkt_some h
    have := hf.slot t y h2
    rw [val_tmp h1] at this
    exact ⟨_, rfl, this⟩
  | cell s t =>
    simp only [res1] at h
    split at h
    · rename_i i off n b h1 h2
      split at h
      · rename_i T cs h3
        cases hb : (b || Nat.beq n 1) && Nat.ble (off + n) cs.length with
        | false => simp [hb] at h
        | true =>
          rw [hb, cond_true] at h
          rw [Bool.and_eq_true] at hb
          obtain ⟨hs1, hs2⟩ := lkt_some h1
          have hp := hf.slot s _ hs2
          rw [val_tmp hs1] at hp
          generalize hv : a.tmps.getD s undef = v at hp
          cases hp with
          | ptr hp =>
            obtain ⟨vs, g1, g2, g3⟩ := ptr_block (hm.ent i _ h3) hp
            obtain ⟨u, h4, h5⟩ := sub_RA g2 h
            have hlen : off + n ≤ vs.length := by rw [← g2.length]; exact Nat.le_of_ble_eq_true hb.2
            refine ⟨u, ?_, h5⟩
            simp only [readRes, hv]
            rw [Sem.run_bind]
            show ((loadVar t _).run P W) = _
            refine run_loadVar_cells h2 (vs := (vs.drop off).take n) (fun j v hj => ?_) (by simp; omega) ?_
            · rw [List.getElem?_take] at hj
              split at hj
              · rw [List.getElem?_drop] at hj
                simp [World.cell?, g1, hj]
              · cases hj
            · cases b
              · have hn1 : n = 1 := Nat.eq_of_beq_eq_true (by simpa using hb.1)
                subst hn1
                simp at h4 ⊢
                rw [← h4, List.head?_take]
                simp [List.head?_drop]
              · simp at h4 ⊢
                rw [← h4]
      · cases h
    · cases h
theorem resl_RA (hm : MR k H W U γ) (hf : FR N F W U γ a) : ∀ {l : List ResultVar} {ys : List AV}, resl P F H l = some ys → ∃ vs, (l.mapM (readRes a.tmps)).run P W = .ok vs W ∧ RAs W U γ ys vs
  | [], ys, h => by simp [resl] at h; subst h; exact ⟨[], rfl, .nil⟩
  | x :: r, ys, h => by
    simp only [resl] at h
    split at h
    · rename_i y zs h1 h2
      cases h
      obtain ⟨v, g1, g2⟩ := res1_RA hm hf h1
      obtain ⟨vs, g3, g4⟩ := resl_RA hm hf h2
      exact ⟨v :: vs, by simp [List.mapM_cons, g1, g3], .cons g2 g4⟩
    · cases h
theorem resX_RA (hm : MR k H W U γ) (hf : FR N F W U γ a) {fn : Func} {y : AV} (h : resX P fn.results.toList F H = some y) : ∃ v, (results fn a.tmps).run P W = .ok v W ∧ RA W U γ y v := by
  have key : ∀ {ys : List AV}, resl P F H fn.results.toList = some ys → ∃ vs, (fn.results.mapM (readRes a.tmps)).run P W = .ok (List.toArray vs) W ∧ RAs W U γ ys vs := fun h => by
    obtain ⟨vs, h1, h2⟩ := resl_RA hm hf h
    refine ⟨vs, ?_, h2⟩
    rw [Array.mapM_eq_mapM_toList]
    simp [h1]
  unfold resX at h
  split at h
  · rename_i z h1
    cases h
    obtain ⟨vs, h2, h3⟩ := key h1
    cases h3 with
    | cons h4 h5 =>
      cases h5
      rename_i v
      refine ⟨v, ?_, h4⟩
      unfold results
      rw [Sem.run_bind]
      show ((fn.results.mapM (readRes a.tmps)).run P W).andThen _ = _
      rw [h2]
      rfl
  · rename_i ys hne h1
    cases h
    obtain ⟨vs, h2, h3⟩ := key h1
    refine ⟨.tuple vs.toArray, ?_, .tup h3⟩
    unfold results
    rw [Sem.run_bind]
    show ((fn.results.mapM (readRes a.tmps)).run P W).andThen _ = _
    rw [h2]
    have : vs.length ≠ 1 := fun hl => by
      have := h3.length
      rw [hl] at this
      obtain ⟨z, rfl⟩ := List.length_eq_one_iff.1 this
      exact hne z rfl
    simp [this]
  · cases h
end

/-- A function's body, walked in its caller's memory. -/
theorem Inl.of {gl : List (Nat × AV)} {P : Program} {f : FuncId} {fn : Func} {c : Code} {xs : List AV} {H : List (Nat × Ent)} {r : AV} {H' : List (Nat × Ent)} (hf : P.funcs[f]? = some fn) (hb : fn.body = some c) (hN : Nat.ble xs.length fn.ntmps = true) (hcap : Nat.ble fn.ntmps gbase = true)
    (h : ∀ k, k.gl = gl → AC P c (bodyPost P fn fun e W' => ∃ v U' γ', e = .returned v ∧ MR k H' W' U' γ' ∧ RA W' U' γ' r v) (SR k fn.ntmps (slots 0 xs ++ gl) H)) : Inl gl P f xs H r H' := by
  intro k W U γ vs hkg hm hr
  have hg : Gok gl W U := by rw [← hkg]; exact k.hg _ _ _ hm.anc
  refine (calls_of_wp hf hb (h (k.anchor W U γ) hkg _ _ ⟨U, γ, hm.anchored, FR.enter hg hr hN hcap⟩)).mono fun e W' he => ?_
  obtain ⟨v, U', γ', rfl, h1, h2⟩ := he
  obtain ⟨h3, h4⟩ := h1.drop_anchor
  exact ⟨v, U', γ', rfl, h3, h4, h2⟩
/-- At a return. -/
theorem AQ.results {P : Program} {fn : Func} {k : K0} {F : List (Nat × AV)} {H : List (Nat × Ent)} {r : AV} (h : resX P fn.results.toList F H = some r) {e : Exit} (he : e = .normal ∨ e = .ret) :
    AQ (bodyPost P fn fun e W' => ∃ v U' γ', e = .returned v ∧ MR k H W' U' γ' ∧ RA W' U' γ' r v) e (SR k fn.ntmps F H) := by
  intro a w hs
  obtain ⟨U, γ, hm, hf⟩ := hs
  obtain ⟨v, h1, h2⟩ := resX_RA hm hf h
  rcases he with rfl | rfl <;> exact ⟨hf.defers, v, h1, v, U, γ, rfl, hm, h2⟩
end Go.Pt
