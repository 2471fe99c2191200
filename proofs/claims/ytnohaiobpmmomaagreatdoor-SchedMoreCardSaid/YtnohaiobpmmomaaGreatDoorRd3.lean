/- A part of the proof: contracts of functions of the given program, out of walks over data. -/
import Derived.Test.YtnohaiobpmmomaaGreatDoorRd2
set_option linter.unusedVariables false
set_option linter.unusedSimpArgs false
namespace Go.Pt
open Go.RowKit Go.Shelf Go.Proofs
attribute [local go_sem] Oper.semAt_some

/-- What Waits tells, out of what its callees tell. -/
def waitsV (ov : Bool) (b : Nat → Bool) (g ww : Bool) (h : Int) : Int :=
  if ov then 0 else if upTo b 7 = [] then (if g then 0 else if ww then 1 else 0) + (if h > 0 then 2 else 0) else 0

theorem heap_kept {W1 W2 : World} {b : Nat} {o : Obj} (h : W1.heap[b]? = some o) (hb : Below W1.heap.size W1 W2) : W2.heap[b]? = some o :=
  (hb.block b (Array.getElem?_eq_some_iff.1 h).1).trans h

/-- What holds behind the loop: the two boxes, the block of the rounds' deferred calls. -/
structure WSt (W : World) (vs : List Value) (s D : Nat) (A : World) : Prop where
  c : A.heap[s]? = some (.cells vs.toArray 52 (0, 0))
  r : Boxed A (s + 1) 3 (.int .i64 0)
  b : Below s W A
  n : s + 2 ≤ A.heap.size
  k : A.heap[D]? = some (.deferred (some []))
theorem WSt.step {W : World} {vs : List Value} {s D : Nat} {A B : World} (h : WSt W vs s D A) (hb : Below A.heap.size A B) : WSt W vs s D B :=
  ⟨heap_kept h.c hb, heap_kept h.r hb, h.b.trans (hb.mono (by have := h.n; omega)), Nat.le_trans h.n hb.size, heap_kept h.k hb⟩
theorem WSt.hid {W : World} {vs : List Value} {s D : Nat} {A : World} (h : WSt W vs s D A) : Hid (WSt W vs s D A) := h
set_option maxRecDepth 100000 in
set_option maxHeartbeats 2000000 in
/-- sched.Waits where it is not over, nothing is ready, the reader is not gone and its wire waits, nothing is held: 1. -/
theorem waits_calls (vs : List Value) (W : World) {sz : Nat} (ht : szB Tryz.prog 52 = some (sz, true)) (hn : vs.length = sz)
    (hover : ∀ W1, Below W.heap.size W W1 → Calls Tryz.prog 20 #[.agg vs.toArray] W1 fun e W2 => e = .returned (.bool false) ∧ Below W1.heap.size W1 W2)
    (hcan : ∀ (i : Nat) W1, i < 7 → Below W.heap.size W W1 → Calls Tryz.prog 30 #[.agg vs.toArray, .int .i64 (i : Int)] W1 fun e W2 => e = .returned (.bool false) ∧ Below W1.heap.size W1 W2)
    (hgone : ∀ W1, Below W.heap.size W W1 → Calls Tryz.prog 21 #[.agg vs.toArray, .int .i64 0] W1 fun e W2 => e = .returned (.bool false) ∧ Below W1.heap.size W1 W2)
    (hwire : ∀ W1, Below W.heap.size W W1 → Calls Tryz.prog 23 #[.agg vs.toArray] W1 fun e W2 => ∃ wv, e = .returned wv ∧ Below W1.heap.size W1 W2 ∧
      Calls Tryz.prog 22 #[wv] W2 fun e W3 => e = .returned (.bool true) ∧ Below W2.heap.size W2 W3)
    (hheld : ∀ W1, Below W.heap.size W W1 → Calls Tryz.prog 24 #[.agg vs.toArray] W1 fun e W2 => e = .returned (.int .i64 0) ∧ Below W1.heap.size W1 W2) :
    Calls Tryz.prog 14 #[.agg vs.toArray] W fun e W' => e = .returned (.int .i64 1) ∧ Below W.heap.size W W' := by
  refine (callsIn_wide (n := 5)).1 ?_
  refine callsIn_of_wp_marks Tryz.func14 rfl trivial ?_ rfl
  simp only [Tryz.ntmps14, List.size_toArray, List.length_cons, List.length_nil, Nat.reduceAdd, Nat.reduceSub, Array.replicate_succ, Array.replicate_zero, List.push_toArray, List.append_toArray, List.nil_append, List.cons_append]
  obtain ⟨W1, hW1⟩ : ∃ W1, (W.alloc (.cells vs.toArray 52)).alloc (.cells #[.int .i64 0] 3) = W1 := ⟨_, rfl⟩
  have hs1 : Hid (W1.heap.size = W.heap.size + 2) := by unfold Hid; rw [← hW1]; simp
  have hb1 : Below W.heap.size W W1 := by
    rw [← hW1]
    exact ((Below.refl _ W).alloc (Nat.le_refl _) _).alloc (by simp) _
  have hx1 : W1.heap[W.heap.size]? = some (.cells vs.toArray 52 (0, 0)) := by
    rw [← hW1, Below.heap_alloc _ _ _ (by simp)]; exact World.alloc_heap_new _ _
  have hr1 : W1.heap[W.heap.size + 1]? = some (.cells #[.int .i64 0] 3 (0, 0)) := by
    rw [← hW1]
    have := World.alloc_heap_new (W.alloc (.cells vs.toArray 52)) (.cells #[.int .i64 0] 3)
    simpa using this
  have hl := load_box hx1 ht hn
  have hov := (callsIn_wide (n := 5 - 1)).2 (hover W1 hb1)
  have hstep : Hid (∀ {A B : World}, Below W.heap.size W A → W.heap.size + 2 ≤ A.heap.size → Below A.heap.size A B → Below W.heap.size W B ∧ W.heap.size + 2 ≤ B.heap.size) := fun h1 h2 h3 => ⟨h1.trans (h3.mono (by omega)), Nat.le_trans h2 h3.size⟩
  have hcan' := Hid (∀ (i : Nat) W1, i < 7 → Below W.heap.size W W1 → Calls Tryz.prog 30 #[.agg vs.toArray, .int .i64 (i : Int)] W1 fun e W2 => e = .returned (.bool false) ∧ Below W1.heap.size W1 W2)
  gi_wp2_with first | (refine load_in rfl hl ?_)
  refine ⟨trivial, ?_⟩
  refine hov.mono ?_
  clear hov
  rintro e w2 ⟨rfl, hb2⟩
  have hx2 := heap_kept hx1 hb2
  have hr2 := heap_kept hr1 hb2
  have hl2 := load_box hx2 ht hn
  have hB2 := hstep.out hb1 (Nat.le_of_eq hs1.out.symm) hb2
  clear hb2 hb1 hs1 hl hx1 hr1 hW1
  gi_wp2_with first | (refine load_in rfl hl2 ?_) | (refine ⟨trivial, ?_⟩; gi_at_call 19; refine (ready_made _ _ _).mono ?_; rintro e w3 ⟨rfl, rfl⟩)
  obtain ⟨s, hs⟩ : ∃ s, s = W.heap.size := ⟨_, rfl⟩
  obtain ⟨q, hq⟩ : ∃ q, q = w2.heap.size := ⟨_, rfl⟩
  obtain ⟨W0, hW0⟩ : ∃ W0, w2.alloc (.cells vs.toArray 52) = W0 := ⟨_, rfl⟩
  have hsz : W0.heap.size = q + 1 := by rw [← hW0, hq]; simp
  have hsq : s + 2 ≤ q := by rw [hs, hq]; exact hB2.2
  have hbx : W0.heap[q]? = some (.cells vs.toArray 52 (0, 0)) := by rw [← hW0, hq]; exact World.alloc_heap_new _ _
  have hB0 : Below s W W0 := by rw [← hW0, hs]; exact hB2.1.alloc (by omega) _
  have hx0 : W0.heap[s]? = some (.cells vs.toArray 52 (0, 0)) := by rw [← hW0, hs, Below.heap_alloc _ _ _ (by omega)]; exact hx2
  have hr0 : Boxed W0 (s + 1) 3 (.int .i64 0) := by rw [← hW0, hs]; exact Boxed.alloc hr2 _
  rw [hW0]
  rw [show W.heap.size = s from hs.symm] at hcan hgone hwire hheld ⊢
  rw [show w2.heap.size = q from hq.symm]
  have HS : Hid (s = W.heap.size) := hs
  clear hs hq hW0 hx2 hr2 hl2 hB2 hstep hover
  refine wpIn_rangeFunc_ownF (F := Fence.wide) (n := 5) (w := W0) (w0 := W0) (encs := fun x : Int => #[.int .i64 x]) (Kp := Below (q + 1)) (S := fun ys => ys = upTo (fun _ => false) 7) (Sp := fun pre => ∃ i, i < 7 ∧ false = true ∧ pre = upTo (fun _ => false) (i + 1)) (N := 7) rfl (by omega) (gf := 29) (lb := #[.pointer (some ⟨q, 0, none⟩)]) rfl trivial (enters_of Tryz.func29 (by kernel_rfl) rfl) ?seq
    belowK_t (belowK_b (by omega)) (Below.refl _ _) (fun _ => rfl)
    (fun pre W1 => (W1.heap[s]? = some (.cells vs.toArray 52 (0, 0)) ∧ Boxed W1 (s + 1) 3 (.int .i64 0)) ∧ Below s W W1 ∧ s + 2 ≤ W1.heap.size)
    (fun _ _ _ => True)
    ?own
    (fun _ _ _ _ _ _ _ _ => trivial)
    ⟨⟨hx0, hr0⟩, hB0, by omega⟩
    (fun x => { tmps := #[.agg vs.toArray, .pointer (some ⟨s, 0, none⟩), .pointer (some ⟨s + 1, 0, none⟩), undef, .agg vs.toArray, .bool false, .agg vs.toArray, .func (.func 29) #[] #[.pointer (some ⟨q, 0, none⟩)], .int .i64 x, undef, undef, undef, undef, undef, undef, undef, undef, undef, undef, undef, undef, undef, undef, undef, undef], defers := [] }) ?assign ?body ?done ?stop
  case seq =>
    intro l J Jx W1 hW1 hJ hJx hY h0
    have hs1 : q + 1 ≤ W1.heap.size := by have := hW1.size; omega
    have hK1 : Below (q + 1) W0 W1 := hW1.mono (by omega)
    refine ready_iter 4 (by omega) l q (.agg vs.toArray) (fun _ => false) J Jx (Below (q + 1)) W1 belowK_t (Below.refl _ _) (fun A B hA hB => hB.mono (Nat.le_trans hs1 hA.size)) hJ hY (fun i W2 hi7 h2 => hcan i W2 hi7 (hB0.trans ((hK1.trans h2).mono (by omega)))) (fun W2 h2 => load_box (((hK1.trans h2).block q (by omega)).trans hbx) ht hn) h0
  case own =>
    rintro pre A B row ⟨⟨h1, h2⟩, h3, h4⟩ hg hr
    have hne : ∀ {k : Nat}, k < s + 2 → some k ≠ row := fun hk e => by have := (hr _ e.symm).1; omega
    exact ⟨⟨(hg.block s (by omega) (hne (by omega))).trans h1, (hg.block (s + 1) (by omega) (hne (by omega))).trans h2⟩, h3.grown hg (by omega) (fun k e => by have := (hr _ e).1; omega), Nat.le_trans h4 hg.size⟩
  case assign =>
    intro l x W K hK
    refine wpIn_skip ?_
    show K _ W
    simpa using hK
  case body =>
    rintro l pre x W1 ⟨⟨h1, h2⟩, hB, hs3⟩ hlen
    have hc := h2.cell
    have hf := h2.frozen
    clear hcan hgone hwire hheld h1
    gi_wp2
    exact ⟨KeepsOthers.setCell _ _ _, trivial⟩
  case done =>
    rintro D ys W1 hD rfl ⟨⟨h1, h2⟩, hB, hs3⟩ hK
    have hSt : WSt W vs s D W1 := ⟨h1, h2, hB, hs3, hK⟩
    clear hcan hbx hB0 hx0 hr0 h1 h2 hB hs3 hK
    have hl1 := load_box hSt.c ht hn
    have hg1 := (callsIn_wide (n := 4)).2 (hgone W1 hSt.b)
    clear hgone
    have HSt := hSt.hid
    clear hSt
    gi_wp2_with first | (refine load_in rfl hl1 ?_)
    refine ⟨trivial, hg1.mono ?_⟩
    clear hg1 hl1
    rintro e w3 ⟨rfl, hb3⟩
    have hSt := HSt.out.step hb3
    clear HSt hb3
    have hl1 := load_box hSt.c ht hn
    have hg1 := (callsIn_wide (n := 4)).2 (hwire w3 hSt.b)
    clear hwire
    have HSt := hSt.hid
    clear hSt
    gi_wp2_with first | (refine load_in rfl hl1 ?_)
    refine ⟨trivial, hg1.mono ?_⟩
    clear hg1 hl1
    rintro e w4 ⟨wv, rfl, hb4, hww⟩
    have hSt := HSt.out.step hb4
    clear HSt hb4
    have hg1 := (callsIn_wide (n := 4)).2 hww
    clear hww
    have HSt := hSt.hid
    clear hSt
    gi_wp2
    refine ⟨trivial, hg1.mono ?_⟩
    clear hg1
    rintro e w5 ⟨rfl, hb5⟩
    have hSt := HSt.out.step hb5
    clear HSt hb5
    have hl1 := load_box hSt.c ht hn
    have hg1 := (callsIn_wide (n := 4)).2 (hheld w5 hSt.b)
    clear hheld
    have HSt := hSt.hid
    clear hSt
    gi_wp2_with first | (refine load_in rfl hl1 ?_)
    refine ⟨trivial, hg1.mono ?_⟩
    clear hg1 hl1
    rintro e w6 ⟨rfl, hb6⟩
    have hSt := HSt.out.step hb6
    clear HSt hb6
    have hc := hSt.r.cell
    have hf := hSt.r.frozen
    have HSt := hSt.hid
    clear hSt
    gi_wp2
    have hSt := HSt.out
    have hK' := (KeepsOthers.setCell w6 ⟨s + 1, 0, none⟩ (.int .i64 1)).same D _ hSt.k rfl
    refine ⟨by simp, .inl ⟨_, _, rfl, run_takeDeferred hK', ?_⟩⟩
    have hc5 := cell_kept (World.cell?_setCell_same' w6 ⟨s + 1, 0, none⟩ (.int .i64 1) (by rw [hc]; rfl)) (grownBy_putObj' _ D (.deferred none)) (fun r e => by cases e; exact ⟨_, hK', rfl⟩)
    refine ⟨.int .i64 1, ?_, rfl, ?_⟩
    · simp [results, Tryz.f14, go_sem, hc5]
    · rw [← HS.out]
      exact (hSt.b.setCell (p := ⟨s + 1, 0, none⟩) (Nat.le_succ s) _).trans (belowK_b (w := W0) (n₀ := s) (by omega) _ D _ _ hD hK' rfl rfl)
  case stop =>
    rintro D c pre W1 hD ⟨i, _, h, _⟩
    cases h
end Go.Pt
