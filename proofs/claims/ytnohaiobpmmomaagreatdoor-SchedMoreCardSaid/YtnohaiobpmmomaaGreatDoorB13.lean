/- A part of a logic over data for the given program's language: rules for single operations and walks as functions. -/
import Derived.Test.YtnohaiobpmmomaaGreatDoorB12
set_option linter.unusedVariables false
set_option linter.unusedSimpArgs false
namespace Go.Pt
open Go.RowKit

/-- The entry behind an 'append'. -/
theorem MR.grown {k : K0} {H : List (Nat × Ent)} {W W' : World} {U : Nat → Nat} {γ : Nat → Option Value} (h : MR k H W U γ) {i j e sz n m : Nat} {cs ds : List DV} {s : Bool} {v v' : Value} {vs us : List Value} (hi : lk H i = some (.row e sz n cs s)) (hj : lk H j = none) (hv : γ i = some v)
    (h2 : W.ownsRow 0 e sz v n vs) (h3 : RDs W U cs vs) (h3' : RDs W U ds us) (h4 : ∀ b, blkOf v = some b → U b = bif s then n * sz else 0) (g : W.grownBy W' (blkOf v)) (hown : W'.ownsRow 0 e sz v' (n + m) (vs ++ us))
    (hb : ∀ b o, blkOf v = some b → o < n * sz → W'.cell? ⟨b, o, none⟩ = W.cell? ⟨b, o, none⟩)
    (hat : blkOf v' = blkOf v ∨ blkOf v' = some W.heap.size) : ∃ U' γ', MR k ((j, .row e sz (n + m) (cs ++ ds) s) :: (i, .dead) :: H) W' U' γ' ∧ ExtA W U γ W' U' γ' ∧ γ' j = some v' := by
  have hlt' : ∀ b, blkOf v' = some b → b < W'.heap.size := fun b hb' => by
    rcases hown.2 with ⟨rfl, _⟩ | ⟨q, cap, cur, rfl, _, hg, _⟩
    · simp [blkOf] at hb'
    · simp [blkOf] at hb'; subst hb'; exact (Array.getElem?_eq_some_iff.1 hg).1
  have hone : v'.oneCell' = true := by
    rcases hown.2 with ⟨rfl, _⟩ | ⟨q, cap, cur, rfl, _⟩ <;> rfl
  have hlt : ∀ b, blkOf v = some b → b < W.heap.size := fun b hb' => h.lt ⟨_, hi, by simp⟩ hv hb'
  refine ⟨fun b => if blkOf v' = some b then (bif s then (n + m) * sz else 0) else U b, upd γ j v', ?_⟩
  have ag : Agree W U W' (fun b => if blkOf v' = some b then (bif s then (n + m) * sz else 0) else U b) (blkOf v) := ⟨g.os, g.tape, g.output, g.size, fun b hlb hne => ⟨g.block b hlb hne, by
    have : blkOf v' ≠ some b := fun e' => by
      rcases hat with h5 | h5
      · exact hne (by rw [← h5, e'])
      · rw [e'] at h5; cases h5; omega
    simp [this]⟩⟩
  have := h.turn (j := j) ⟨_, hi, by simp⟩ hj hv (v' := v') ag (fun b hlb => by
    have : blkOf v' ≠ some b := fun e' => by have := hlt' b e'; omega
    simp only [if_neg this]
    exact h.wf b (Nat.le_trans g.size hlb)) (fun b hb' => by
      have hU := h4 b hb'
      refine ⟨fun o ho => ?_, ?_⟩
      · cases s
        · simp at hU; omega
        · simp at hU; exact hb b o hb' (by omega)
      · by_cases hq : blkOf v' = some b
        · simp only [if_pos hq]
          cases s
          · simp at hU ⊢; omega
          · simp at hU ⊢; rw [hU]; exact Nat.mul_le_mul_right _ (Nat.le_add_right _ _)
        · simp only [if_neg hq]; exact Nat.le_refl _) hone (fun b hb' => by
      rcases hat with h5 | h5
      · exact .inl (by rw [← h5, hb'])
      · rw [hb'] at h5; cases h5; exact .inr (Nat.le_refl _)) (e := .row e sz (n + m) (cs ++ ds) s) (fun ex => ⟨v', vs ++ us, upd_self _ _ _, hown, (h3.append h3').mono ex.toExt, fun b hb' => by simp [hb']⟩)
  exact ⟨this.1, this.2, upd_self _ _ _⟩

section
variable {P : Program}
theorem grown_drew (W : World) (o : Obj) (r : Option Nat) : W.grownBy (W.drew.alloc o) r := ⟨rfl, rfl, rfl, by have := World.size_alloc W.drew o; rw [this]; exact Nat.le_succ _, fun k hk _ => Below.heap_alloc W.drew o k hk⟩
theorem grown_row (W : World) (e sz n0 old : Nat) (z : Value) (hz : z.cells.size = sz) (xs : List Value) (need : Nat) (hx : xs.length = need * sz) (hneed : need ≤ 9223372036854775807) :
    (W.drew.alloc (.cells (xs.toArray ++ Builtin.zeroCells z.cells (grownCap W need old e - need)) e)).ownsRow 0 e sz (.slice (some ⟨W.heap.size, 0, none⟩) need (grownCap W need old e)) need xs := by
  have hge := grownCap_ge W need old e
  have hle := grownCap_le_maxLen W need old e (by simpa [maxLen] using hneed)
  refine ⟨hx, .inr ⟨W.heap.size, _, _, rfl, Nat.zero_le _, heap_alloc_new W.drew _, hge, hle, ?_, ?_⟩⟩
  · simp only [Array.size_append, List.size_toArray, size_zeroCells, hz, hx, ← Nat.add_mul]
    congr 1
    omega
  · simp only [Array.toList_append]
    rw [← hx]
    exact List.take_left
/-- 'append' of data onto a row of the call's own. -/
theorem MR.append {k : K0} {H : List (Nat × Ent)} {W : World} {U : Nat → Nat} {γ : Nat → Option Value} (h : MR k H W U γ) {t ty e i j sz y n m : Nat} {bb : Bool} {z : Value} {cs ds : List DV} {s : Bool} (ht : slB P t = some (e, sz, bb, y)) (hz : zeroB P e = some z) (hzs : Nat.beq z.cells.size sz = true) (hsz : Nat.blt 0 sz = true)
    (hi : lk H i = some (.row e sz n cs s)) (hj : lk H j = none) {v xv : Value} (hv : γ i = some v) (hx : RD W U (.sl m ds) xv) (hone : onesA (ds.map .d) = true) (hl : ds.length = m * sz) (h63 : n + m ≤ 9223372036854775807) (hby : (n + m) * y ≤ 140737488355328) :
    ∃ v' W' U' γ', (Builtin.append_ #[t, t] ty #[v, xv]).run P W = .ok v' W' ∧ MR k ((j, .row e sz (n + m) (cs ++ ds) s) :: (i, .dead) :: H) W' U' γ' ∧ ExtA W U γ W' U' γ' ∧ γ' j = some v' := by
  obtain ⟨hu, _, ie, hie, hiy, his⟩ := slB_info ht
  have hzz : ie.zero = some z := by unfold zeroB at hz; simpa [hie] using hz
  have hzs' : z.cells.size = sz := Nat.eq_of_beq_eq_true hzs
  have hsz' : 0 < sz := Nat.le_of_ble_eq_true hsz
  obtain ⟨v0, vs, g1, g2, g3, g4⟩ := h.ent i _ hi
  rw [hv] at g1; cases g1
  obtain ⟨a, c, us, rfl, hr, hcell, hnone⟩ := reads_cells hx
  have hul : us.length = m * sz := by rw [← hr.length, hl]
  have h1 : ∀ u ∈ us, u.oneCell' = true := onesA_RA h.one (RAs.of_RDs hr) hone
  subst his
  subst hiy
  have stay : ∀ (ha : m = 0), ∃ v' W' U' γ', (Builtin.append_ #[t, t] ty #[v, .slice a m c]).run P W = .ok v' W' ∧ MR k ((j, .row e ie.size (n + m) (cs ++ ds) s) :: (i, .dead) :: H) W' U' γ' ∧ ExtA W U γ W' U' γ' ∧ γ' j = some v' := fun ha => by
    subst ha
    have hus : us = [] := List.eq_nil_of_length_eq_zero (by simpa using hul)
    obtain ⟨U', γ', q1, q2, q3⟩ := h.grown (j := j) (m := 0) (v' := v) (W' := W) hi hj hv g2 g3 hr g4 ⟨rfl, rfl, rfl, Nat.le_refl _, fun _ _ _ => rfl⟩ (by simpa [hus] using g2) (fun _ _ _ _ => rfl) (.inl rfl)
    refine ⟨v, W, U', γ', ?_, q1, q2, q3⟩
    rcases g2.2 with ⟨rfl, rfl⟩ | ⟨b, cap, cur, rfl, _, hg, hcap, _⟩
    · exact run_append_none W t ty e ie hu hie none a 0 0 c (Nat.le_refl _)
    · exact run_append_none W t ty e ie hu hie _ a n cap c hcap
  by_cases hm : m = 0
  · exact stay hm
  cases a with
  | none =>
    have h0 := hnone rfl
    have h5 : 0 < m * ie.size := Nat.mul_pos (by omega) hsz'
    rw [h0, List.length_nil] at hul
    omega
  | some ad =>
    have hcell' := hcell ad rfl
    rcases g2.2 with ⟨rfl, rfl⟩ | ⟨b, cap, cur, rfl, _, hg, hcap, hmx, hcs, htk⟩
    · have hvs : vs = [] := List.eq_nil_of_length_eq_zero (by simpa using g2.1)
      have hrun := run_append_nil (P := P) W t ty e ie z hu hie hzz ad m c us hul hcell' (by omega) (by omega) (by simp at hby; omega)
      have hrow := grown_row W e ie.size 0 0 z hzs' us m hul (by omega)
      obtain ⟨U', γ', q1, q2, q3⟩ := h.grown (j := j) (m := m) hi hj hv g2 g3 hr g4 (grown_drew W _ _) (by simpa [hvs] using hrow) (fun b o hb' => by simp [blkOf] at hb') (.inr rfl)
      exact ⟨_, _, U', γ', hrun, q1, q2, q3⟩
    · by_cases hroom : n + m ≤ cap
      · have hfit : n * ie.size + us.length ≤ cur.size := by rw [hul, hcs, ← Nat.add_mul]; exact Nat.mul_le_mul_right _ hroom
        have hrun := run_append_room (P := P) W t ty e ie hu hie b n cap cur hg ad m c us hul hcell' h1 hroom hfit
        have hlen : (vs ++ us).length = (n + m) * ie.size := by rw [List.length_append, g2.1, hul, Nat.add_mul]
        have hcur : cur.toList.length = cur.size := by simp
        obtain ⟨U', γ', q1, q2, q3⟩ := h.grown (j := j) (m := m) (W' := W.setRow b (cur.toList.take (n * ie.size) ++ us ++ cur.toList.drop (n * ie.size + us.length)).toArray) (v' := .slice (some ⟨b, 0, none⟩) (n + m) cap) hi hj hv g2 g3 hr g4
          ⟨rfl, rfl, rfl, by simp, fun q _ hq => setRow_other W b q _ (fun e => hq (by simp [blkOf, e]))⟩
          ⟨hlen, .inr ⟨b, cap, _, rfl, Nat.zero_le _, setRow_heap W b cur _ e _ hg, hroom, hmx, by
            simp only [List.size_toArray, List.length_append, List.length_take, List.length_drop, Array.length_toList]; omega, by
            rw [htk, ← hlen]; exact List.take_left⟩⟩
          (fun b' o hb' ho => by
            simp [blkOf] at hb'
            subst hb'
            have hh := setRow_heap W b cur (cur.toList.take (n * ie.size) ++ us ++ cur.toList.drop (n * ie.size + us.length)).toArray e _ hg
            simp only [World.cell?, hh, hg]
            have ho' : o < cur.toList.length := by omega
            simp only [List.getElem?_toArray, List.append_assoc]
            rw [List.getElem?_append_left (by simp; omega), List.getElem?_take_of_lt ho]
            simp)
          (.inl rfl)
        exact ⟨_, _, U', γ', hrun, q1, q2, q3⟩
      · have holds : ∀ q u, vs[q]? = some u → W.cell? ((⟨b, 0, none⟩ : Addr).add q) = some u := g2.cells (g := b) rfl
        have hrun := run_append_grow (P := P) W t ty e ie z hu hie hzz ⟨b, 0, none⟩ n cap vs g2.1 holds ad m c us hul hcell' (by omega) (by omega) (growslice_fits (by omega) hby)
        have hrow := grown_row W e ie.size 0 cap z hzs' (vs ++ us) (n + m) (by rw [List.length_append, g2.1, hul, Nat.add_mul]) (by omega)
        have hlt : b < W.heap.size := (Array.getElem?_eq_some_iff.1 hg).1
        obtain ⟨U', γ', q1, q2, q3⟩ := h.grown (j := j) (m := m) hi hj hv g2 g3 hr g4 (grown_drew W _ _) hrow (fun b' o hb' ho => by
          simp [blkOf] at hb'
          subst hb'
          simp only [World.cell?]
          rw [Below.heap_alloc W.drew _ b hlt]
          rfl) (.inr rfl)
        refine ⟨_, _, U', γ', ?_, q1, q2, q3⟩
        rw [hrun]
        simp
end
end Go.Pt
