/- A part of a logic over data for the given program's language: rules for single operations and walks as functions. -/
import Derived.Test.YtnohaiobpmmomaaGreatDoorB5
set_option linter.unusedVariables false
set_option linter.unusedSimpArgs false
namespace Go.Pt
open Go.RowKit

section
variable {W : World} {U : Nat → Nat} {γ : Nat → Option Value}
def oneA : AV → Bool
  | .d (.raw v) => v.oneCell'
  | .d (.sl _ _) => true
  | .own _ => true
  | .ptr _ _ => true
  | .rp _ _ => true
  | .full _ _ => true
  | .nn _ _ => true
  | .ep _ => true
  | .fn _ _ _ => true
  | _ => false
theorem oneA_RA {x : AV} {v : Value} (hγ : ∀ i u, γ i = some u → u.oneCell' = true) (h : RA W U γ x v) (h1 : oneA x = true) : v.oneCell' = true := by
  cases h with
  | own h => exact hγ _ _ h
  | ptr h => rfl
  | rp h => rfl
  | full h => rfl
  | nn h => rfl
  | ep _ _ => rfl
  | fn _ _ => rfl
  | agg _ => simp [oneA] at h1
  | tup _ => simp [oneA] at h1
  | d h =>
    cases h with
    | raw u => exact h1
    | nil a k => rfl
    | sl _ _ _ _ => rfl
    | agg _ => simp [oneA] at h1
    | tup _ => simp [oneA] at h1
theorem cells_one {v : Value} (h : v.oneCell' = true) : v.cells = #[v] := by cases v <;> first | rfl | simp [Value.oneCell'] at h
/-- The cells of a value, a value of one cell too. -/
def cells1 : AV → Option (List AV)
  | .agg cs => some cs
  | .d (.agg cs) => some (cs.map .d)
  | y => bif oneA y then some [y] else none
theorem cells1_RA {x : AV} {v : Value} {cs : List AV} (hγ : ∀ i u, γ i = some u → u.oneCell' = true) (h : RA W U γ x v) (hc : cells1 x = some cs) : RAs W U γ cs v.cells.toList := by
  have key : oneA x = true → cs = [x] → RAs W U γ cs v.cells.toList := fun h1 h2 => by
    subst h2
    rw [cells_one (oneA_RA hγ h h1)]
    exact .cons h .nil
  unfold cells1 at hc
  split at hc
  · cases hc
    cases h with
    | agg hr => simpa [Value.cells] using hr
  · cases hc
    cases h with
    | d hd =>
      cases hd with
      | agg hr => simpa [Value.cells] using RAs.of_RDs hr
  · cases ho : oneA x with
    | true => simp [ho] at hc; exact key ho hc.symm
    | false => simp [ho] at hc
/-- Each of some cells is one cell. -/
def onesA (cs : List AV) : Bool := cs.all oneA
theorem onesA_RA (hγ : ∀ i u, γ i = some u → u.oneCell' = true) : ∀ {cs : List AV} {vs : List Value}, RAs W U γ cs vs → onesA cs = true → ∀ v ∈ vs, v.oneCell' = true
  | _, _, .nil, _ => by simp
  | _, _, .cons h hs, ho => by
    simp only [onesA, List.all_cons, Bool.and_eq_true] at ho
    intro v hv
    rcases List.mem_cons.1 hv with rfl | hv
    · exact oneA_RA hγ h ho.1
    · exact onesA_RA hγ hs ho.2 v hv
end

/-! ### A new block -/
theorem agree_alloc {W : World} {U : Nat → Nat} (o : Obj) (n : Nat) : Agree W U (W.alloc o) (fun b => if b = W.heap.size then n else U b) none :=
  ⟨rfl, rfl, rfl, by simp, fun b hb _ => ⟨Below.heap_alloc W o b hb, by simp [Nat.ne_of_lt hb]⟩⟩
/-- Which block a live entry has: one of W's. -/
theorem MR.lt {k : K0} {H : List (Nat × Ent)} {W : World} {U : Nat → Nat} {γ : Nat → Option Value} (h : MR k H W U γ) {j : Nat} (l : Live H j) {v : Value} {b : Nat} (hv : γ j = some v) (hb : blkOf v = some b) : b < W.heap.size := by
  obtain ⟨e, he, hne⟩ := l
  have := h.ent j e he
  cases e with
  | dead => exact absurd rfl hne
  | box T cs =>
    obtain ⟨b', vs', h1, h2, _⟩ := this
    rw [hv] at h1; cases h1
    simp [blkOf] at hb; subst hb
    exact (Array.getElem?_eq_some_iff.1 h2).1
  | row e sz n cs s =>
    obtain ⟨u, vs', h1, h2, _⟩ := this
    rw [hv] at h1; cases h1
    rcases h2.2 with ⟨rfl, _⟩ | ⟨b', cap, cur, rfl, _, hg, _⟩
    · simp [blkOf] at hb
    · simp [blkOf] at hb; subst hb
      exact (Array.getElem?_eq_some_iff.1 hg).1
/-- The numbers, one more. -/
def upd (γ : Nat → Option Value) (i : Nat) (v : Value) : Nat → Option Value := fun j => if j = i then some v else γ j
theorem upd_self (γ : Nat → Option Value) (i : Nat) (v : Value) : upd γ i v i = some v := by simp [upd]
theorem upd_ne (γ : Nat → Option Value) {i j : Nat} (v : Value) (h : j ≠ i) : upd γ i v j = γ j := by simp [upd, h]
/-- Something new of the call's own, numbered i: none of the old blocks changed. -/
theorem MR.fresh {k : K0} {H : List (Nat × Ent)} {W W' : World} {U U' : Nat → Nat} {γ : Nat → Option Value} (h : MR k H W U γ) {i : Nat} (hi : lk H i = none) (g : Agree W U W' U' none) (wf' : ∀ b, W'.heap.size ≤ b → U' b = 0) {v : Value} (hone : v.oneCell' = true) {e : Ent}
    (hb : ∀ b, blkOf v = some b → W.heap.size ≤ b) (he : ExtA W U γ W' U' (upd γ i v) → RE W' U' (upd γ i v) i e) :
    MR k ((i, e) :: H) W' U' (upd γ i v) ∧ ExtA W U γ W' U' (upd γ i v) := by
  have hγ : γ i = none := by
    cases hg : γ i with
    | none => rfl
    | some v => obtain ⟨e, he⟩ := h.num i v hg; rw [hi] at he; cases he
  have ex : ExtA W U γ W' U' (upd γ i v) := ⟨Ext.of_agree g h.wf (fun b hb => by cases hb), fun j u hu => by
    have : j ≠ i := fun e => by rw [e, hγ] at hu; cases hu
    rw [upd_ne _ _ this]; exact hu⟩
  have live_of : ∀ j, j ≠ i → Live ((i, e) :: H) j → Live H j := fun j hj ⟨e, he, hne⟩ => ⟨e, by rwa [lk_ne (Ne.symm hj)] at he, hne⟩
  refine ⟨⟨?_, ?_, ?_, ?_, wf', ?_, ?_, k.hA _ _ _ _ _ _ h.anc ex⟩, ex⟩
  · intro j e' he'
    by_cases hj : j = i
    · subst hj
      rw [lk_self] at he'; cases he'
      exact he ex
    · rw [lk_ne (Ne.symm hj)] at he'
      exact (h.ent j e' he').agree g ex (fun v _ => by cases hv : blkOf v <;> simp)
  · intro j1 j2 hne l1 l2 u1 u2 h1 h2
    by_cases e1 : j1 = i
    · subst e1
      have e2 : j2 ≠ j1 := Ne.symm hne
      rw [upd_self] at h1; cases h1
      rw [upd_ne _ _ e2] at h2
      cases hq : blkOf v with
      | none => exact .inl rfl
      | some b =>
        right
        intro e
        have := h.lt (live_of j2 e2 l2) h2 e.symm
        have := hb b hq
        omega
    · rw [upd_ne _ _ e1] at h1
      by_cases e2 : j2 = i
      · subst e2
        rw [upd_self] at h2; cases h2
        cases hq : blkOf u1 with
        | none => exact .inl rfl
        | some b =>
          right
          intro e
          have := h.lt (live_of j1 e1 l1) h1 hq
          have := hb b e.symm
          omega
      · rw [upd_ne _ _ e2] at h2
        exact h.dist j1 j2 hne (live_of j1 e1 l1) (live_of j2 e2 l2) u1 u2 h1 h2
  · intro j u hu
    by_cases hj : j = i
    · subst hj; exact ⟨_, lk_self _ _ _⟩
    · rw [upd_ne _ _ hj] at hu
      obtain ⟨e, he⟩ := h.num j u hu
      exact ⟨e, by rw [lk_ne (Ne.symm hj)]; exact he⟩
  · intro j l u b hu hb'
    by_cases hj : j = i
    · subst hj
      rw [upd_self] at hu; cases hu
      left; exact Nat.le_trans h.keep.size (hb b hb')
    · rw [upd_ne _ _ hj] at hu
      exact h.priv j (live_of j hj l) u b hu hb'
  · intro j u hu
    by_cases hj : j = i
    · subst hj
      rw [upd_self] at hu; cases hu; exact hone
    · rw [upd_ne _ _ hj] at hu; exact h.one j u hu
  · exact h.keep.agree g (fun b hb => by cases hb)
theorem agree_alloc0 {W : World} {U : Nat → Nat} (wf : ∀ b, W.heap.size ≤ b → U b = 0) (o : Obj) : Agree W U (W.alloc o) U none :=
  ⟨rfl, rfl, rfl, by simp, fun b hb _ => ⟨Below.heap_alloc W o b hb, rfl⟩⟩
/-- A new variable of the call's own. -/
theorem MR.box {k : K0} {H : List (Nat × Ent)} {W : World} {U : Nat → Nat} {γ : Nat → Option Value} (h : MR k H W U γ) {i : Nat} (hi : lk H i = none) (T : TypeId) {cs : List AV} {vs : List Value} (hr : RAs W U γ cs vs) :
    MR k ((i, .box T cs) :: H) (W.alloc (.cells vs.toArray T)) U (upd γ i (.pointer (some ⟨W.heap.size, 0, none⟩))) ∧ ExtA W U γ (W.alloc (.cells vs.toArray T)) U (upd γ i (.pointer (some ⟨W.heap.size, 0, none⟩))) := by
  refine h.fresh hi (agree_alloc0 h.wf _) (fun b hb => h.wf b (by simp at hb; omega)) rfl (fun b hb => by simp [blkOf] at hb; omega) (fun ex => ?_)
  exact ⟨W.heap.size, vs, upd_self _ _ _, heap_alloc_new W _, hr.mono ex, h.wf _ (Nat.le_refl _)⟩
/-- A new row of the call's own, its cells sealed. -/
theorem MR.row {k : K0} {H : List (Nat × Ent)} {W : World} {U : Nat → Nat} {γ : Nat → Option Value} (h : MR k H W U γ) {i : Nat} (hi : lk H i = none) (e sz n : Nat) (s : Bool) {cs : List DV} {vs : List Value} (hr : RDs W U cs vs) (hl : vs.length = n * sz) (hn : n ≤ 9223372036854775807) :
    ∃ U' γ', MR k ((i, .row e sz n cs s) :: H) (W.alloc (.cells vs.toArray e)) U' γ' ∧ ExtA W U γ (W.alloc (.cells vs.toArray e)) U' γ' ∧ γ' i = some (.slice (some ⟨W.heap.size, 0, none⟩) n n) := by
  refine ⟨fun b => if b = W.heap.size then (bif s then n * sz else 0) else U b, upd γ i (.slice (some ⟨W.heap.size, 0, none⟩) n n), ?_⟩
  have := h.fresh hi (agree_alloc (U := U) (.cells vs.toArray e) (bif s then n * sz else 0)) (fun b hb => by
    have : b ≠ W.heap.size := by simp at hb; omega
    simp only [if_neg this]
    exact h.wf b (by simp at hb; omega)) (v := .slice (some ⟨W.heap.size, 0, none⟩) n n) rfl (fun b hb => by simp [blkOf] at hb; omega) (e := .row e sz n cs s) (fun ex => ?_)
  · exact ⟨this.1, this.2, upd_self _ _ _⟩
  · refine ⟨_, vs, upd_self _ _ _, ?_, hr.mono ex.toExt, fun b hb => ?_⟩
    · have := World.ownsRow_lit (base := 0) (e := e) (size := sz) W vs.toArray n (Nat.zero_le _) (by simpa [maxLen] using hn) (by simpa using hl)
      simpa using this
    · have : b = W.heap.size := by simp [blkOf] at hb; exact hb.symm
      simp [this]
end Go.Pt
