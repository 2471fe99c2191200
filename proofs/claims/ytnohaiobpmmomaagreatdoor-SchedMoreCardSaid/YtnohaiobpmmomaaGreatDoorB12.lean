/- A part of a logic over data for the given program's language: rules for single operations and walks as functions. -/
import Derived.Test.YtnohaiobpmmomaaGreatDoorB11
set_option linter.unusedVariables false
set_option linter.unusedSimpArgs false
namespace Go.Pt
open Go.RowKit

/-- A row of the call's own is turned into another one: in its own block, or in a new one. -/
theorem MR.turn {k : K0} {H : List (Nat × Ent)} {W W' : World} {U U' : Nat → Nat} {γ : Nat → Option Value} (h : MR k H W U γ) {i j : Nat} (l : Live H i) (hj : lk H j = none) {v v' : Value} (hv : γ i = some v) (g : Agree W U W' U' (blkOf v)) (wf' : ∀ b, W'.heap.size ≤ b → U' b = 0)
    (hb : ∀ b, blkOf v = some b → (∀ o, o < U b → W'.cell? ⟨b, o, none⟩ = W.cell? ⟨b, o, none⟩) ∧ U b ≤ U' b) (hone : v'.oneCell' = true) (hv' : ∀ b, blkOf v' = some b → blkOf v = some b ∨ W.heap.size ≤ b) {e : Ent} (he : ExtA W U γ W' U' (upd γ j v') → RE W' U' (upd γ j v') j e) :
    MR k ((j, e) :: (i, .dead) :: H) W' U' (upd γ j v') ∧ ExtA W U γ W' U' (upd γ j v') := by
  have hγ : γ j = none := by
    cases hg : γ j with
    | none => rfl
    | some v => obtain ⟨e, he⟩ := h.num j v hg; rw [hj] at he; cases he
  have hij : i ≠ j := fun e => by rw [e, hγ] at hv; cases hv
  have ex : ExtA W U γ W' U' (upd γ j v') := ⟨Ext.of_agree g h.wf hb, fun q u hu => by
    have : q ≠ j := fun e => by rw [e, hγ] at hu; cases hu
    rw [upd_ne _ _ this]; exact hu⟩
  have live_of : ∀ q, q ≠ j → Live ((j, e) :: (i, .dead) :: H) q → q ≠ i ∧ Live H q := fun q hq ⟨e', he', hne⟩ => by
    rw [lk_ne (Ne.symm hq)] at he'
    by_cases hqi : q = i
    · subst hqi; rw [lk_self] at he'; cases he'; exact absurd rfl hne
    · exact ⟨hqi, e', by rwa [lk_ne (Ne.symm hqi)] at he', hne⟩
  have apart : ∀ q, q ≠ j → Live ((j, e) :: (i, .dead) :: H) q → ∀ u b, γ q = some u → blkOf u = some b → blkOf v' ≠ some b := fun q hq lq u b hu hb' e' => by
    obtain ⟨h1, h2⟩ := live_of q hq lq
    rcases hv' b e' with h3 | h3
    · rcases h.dist q i h1 h2 l u v hu hv with h4 | h4
      · rw [hb'] at h4; cases h4
      · rw [hb', h3] at h4; exact h4 rfl
    · have := h.lt h2 hu hb'
      omega
  refine ⟨⟨?_, ?_, ?_, ?_, wf', ?_, ?_, k.hA _ _ _ _ _ _ h.anc ex⟩, ex⟩
  · intro q e' he'
    by_cases hq : q = j
    · subst hq; rw [lk_self] at he'; cases he'; exact he ex
    · rw [lk_ne (Ne.symm hq)] at he'
      by_cases hqi : q = i
      · subst hqi; rw [lk_self] at he'; cases he'; trivial
      · rw [lk_ne (Ne.symm hqi)] at he'
        by_cases hd : e' = .dead
        · subst hd; trivial
        · exact (h.ent q e' he').agree g ex (fun u hu => h.dist q i hqi ⟨e', he', hd⟩ l u v hu hv)
  · intro q1 q2 hne l1 l2 u1 u2 h1 h2
    by_cases e1 : q1 = j
    · subst e1
      rw [upd_self] at h1; cases h1
      rw [upd_ne _ _ (Ne.symm hne)] at h2
      cases hq : blkOf v' with
      | none => exact .inl rfl
      | some b => exact .inr fun e => apart q2 (Ne.symm hne) l2 u2 b h2 e.symm hq
    · rw [upd_ne _ _ e1] at h1
      by_cases e2 : q2 = j
      · subst e2
        rw [upd_self] at h2; cases h2
        cases hq : blkOf u1 with
        | none => exact .inl rfl
        | some b => exact .inr fun e => apart q1 e1 l1 u1 b h1 hq e.symm
      · rw [upd_ne _ _ e2] at h2
        exact h.dist q1 q2 hne (live_of q1 e1 l1).2 (live_of q2 e2 l2).2 u1 u2 h1 h2
  · intro q u hu
    by_cases hq : q = j
    · subst hq; exact ⟨_, lk_self _ _ _⟩
    · rw [upd_ne _ _ hq] at hu
      by_cases hqi : q = i
      · subst hqi; exact ⟨.dead, by rw [lk_ne hij.symm, lk_self]⟩
      · obtain ⟨e', he'⟩ := h.num q u hu
        exact ⟨e', by rw [lk_ne (Ne.symm hq), lk_ne (Ne.symm hqi)]; exact he'⟩
  · intro q lq u b hu hb'
    by_cases hq : q = j
    · subst hq
      rw [upd_self] at hu; cases hu
      rcases hv' b hb' with h3 | h3
      · exact h.priv i l v b hv h3
      · exact .inl (Nat.le_trans h.keep.size h3)
    · rw [upd_ne _ _ hq] at hu
      exact h.priv q (live_of q hq lq).2 u b hu hb'
  · intro q u hu
    by_cases hq : q = j
    · subst hq; rw [upd_self] at hu; cases hu; exact hone
    · rw [upd_ne _ _ hq] at hu; exact h.one q u hu
  · exact h.keep.agree g (fun b hb => h.priv i l v b hv hb)

/-- Where data lies: enough for 'append' to take it. -/
theorem reads_cells {W : World} {U : Nat → Nat} {n : Nat} {cs : List DV} {v : Value} (h : RD W U (.sl n cs) v) : ∃ a m vs, v = .slice a n m ∧ RDs W U cs vs ∧ (∀ b, a = some b → ∀ j u, vs[j]? = some u → W.cell? (b.add j) = some u) ∧ (a = none → vs = []) := by
  cases h with
  | nil a k => exact ⟨a, k, [], rfl, .nil, fun b _ j u hu => by simp at hu, fun _ => rfl⟩
  | @sl n k b o cs vs hk hm hr hc => exact ⟨_, _, vs, rfl, hr, fun b hb j u hu => by cases hb; rw [Addr.add_mid]; exact (hc j u hu).1, fun h => by cases h⟩

section
variable {P : Program}
/-- Nothing is added. -/
theorem run_append_none (w : World) (t ty e : TypeId) (i : TypeInfo) (ht : P.underlying t = some (.slice e)) (hi : P.info? e = some i) (a a' : Option Addr) (n m c : Nat) (hnm : n ≤ m) :
    (Builtin.append_ #[t, t] ty #[.slice a n m, .slice a' 0 c]).run P w = .ok (.slice a n m) w := by
  have h1 : (Builtin.firstCells i.size 0 (.slice a' 0 c)).run P w = .ok #[] w := by
    cases a' <;> simp [Builtin.firstCells, loadCells, loadCellsFrom]
  unfold Builtin.append_
  simp [run_underlying ht, sizeOf, typeInfo, hi, Builtin.lenOf, hnm, h1]
  cases a <;> simp [storeCells]
end
end Go.Pt
