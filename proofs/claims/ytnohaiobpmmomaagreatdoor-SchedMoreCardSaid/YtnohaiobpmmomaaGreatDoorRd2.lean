/- A part of the proof: contracts of functions of the given program, out of walks over data. -/
import Derived.Test.YtnohaiobpmmomaaGreatDoorRd1
set_option linter.unusedVariables false
set_option linter.unusedSimpArgs false
namespace Go.Pt
open Go.RowKit Go.Shelf Go.Proofs
attribute [local go_sem] Oper.semAt_some

set_option maxRecDepth 100000 in
set_option maxHeartbeats 1000000 in
theorem ready_made (n : Nat) (vs : Array Value) (w : World) :
    CallsIn Fence.wide n Tryz.prog 19 #[.agg vs] w fun e w' => e = .returned (.func (.func 29) #[] #[.pointer (some ⟨w.heap.size, 0, none⟩)]) ∧ w' = w.alloc (.cells vs 52) := by
  refine callsIn_of_wp Tryz.func19 rfl trivial ?_ rfl
  simp only [Tryz.ntmps19, List.size_toArray, List.length_cons, List.length_nil, Nat.reduceAdd, Nat.reduceSub, Array.replicate_succ, Array.replicate_zero, List.push_toArray, List.append_toArray, List.nil_append, List.cons_append]
  gi_wp2
  go_ret
  exact ⟨rfl, rfl⟩
theorem load_box {W : World} {b : Nat} {vs : List Value} (h : W.heap[b]? = some (.cells vs.toArray 52 (0, 0))) {n : Nat} (ht : szB Tryz.prog 52 = some (n, true)) (hn : vs.length = n) : (loadVar 52 ⟨b, 0, none⟩).run Tryz.prog W = .ok (.agg vs.toArray) W := by
  refine run_loadVar_cells ht (vs := vs) (fun j v hj => ?_) hn (by simp)
  simp [World.cell?, h, hj]
theorem infoI : (Tryz.prog.info? 3).map (fun i => (i.zero, i.size, i.bytes)) = some (some (.int .i64 0), 1, 8) := by kernel_rfl
/-- What a round keeps: what lay below s, and the block s + 2. -/
def KpR (s : Nat) (A B : World) : Prop := Below s A B ∧ (s + 3 ≤ A.heap.size → B.heap[s + 2]? = A.heap[s + 2]?)
theorem KpR.trans {s : Nat} {A B C : World} (h : KpR s A B) (k : KpR s B C) : KpR s A C :=
  ⟨h.1.trans k.1, fun hs => (k.2 (Nat.le_trans hs h.1.size)).trans (h.2 hs)⟩
theorem KpR.refl (s : Nat) (A : World) : KpR s A A := ⟨Below.refl _ _, fun _ => rfl⟩
theorem KpR.grown {s : Nat} {A B : World} (hs : s + 3 ≤ A.heap.size) (h : Below A.heap.size A B) : KpR s A B :=
  ⟨h.mono (by omega), fun _ => h.block _ (by omega)⟩
theorem KpR.put {s : Nat} (W : World) (l : Nat) (o o' : Obj) (hl : s + 3 ≤ l) (h : W.heap[l]? = some o) : KpR s W (W.putObj l o') :=
  ⟨(Below.refl s W).grown (grownBy_putObj' W l o') (by have := (Array.getElem?_eq_some_iff.1 h).1; omega) (fun k e => by cases e; omega), fun _ => World.putObj_heap_other (by omega)⟩
theorem ownsRow_low {W : World} {base base' : Nat} {e : TypeId} {size n : Nat} {v : Value} {xs : List Value} (h : W.ownsRow base e size v n xs) (hb : base' ≤ base) : W.ownsRow base' e size v n xs := by
  obtain ⟨h1, h2⟩ := h
  refine ⟨h1, ?_⟩
  rcases h2 with h2 | ⟨g, cap, cur, hv, hg, r⟩
  · exact .inl h2
  · exact .inr ⟨g, cap, cur, hv, Nat.le_trans hb hg, r⟩
set_option maxRecDepth 100000 in
set_option maxHeartbeats 2000000 in
theorem ready_calls (vs : List Value) (b : Nat → Bool) (W : World) {sz : Nat} (ht : szB Tryz.prog 52 = some (sz, true)) (hn : vs.length = sz)
    (hcan : ∀ (i : Nat) W1, i < 7 → Below W.heap.size W W1 → Calls Tryz.prog 30 #[.agg vs.toArray, .int .i64 (i : Int)] W1 fun e W2 => e = .returned (.bool (b i)) ∧ Below W1.heap.size W1 W2) :
    Calls Tryz.prog 13 #[.agg vs.toArray] W fun e W' => ∃ v, e = .returned v ∧ Below W.heap.size W W' ∧ W'.ownsRow W.heap.size 3 1 v (upTo b 7).length ((upTo b 7).map (Value.int .i64)) := by
  refine (callsIn_wide (n := 5)).1 ?_
  refine callsIn_of_wp_marks Tryz.func13 rfl trivial ?_ rfl
  simp only [Tryz.ntmps13, List.size_toArray, List.length_cons, List.length_nil, Nat.reduceAdd, Nat.reduceSub, Array.replicate_succ, Array.replicate_zero, List.push_toArray, List.append_toArray, List.nil_append, List.cons_append]
  have hl := load_box (W := (W.alloc (.cells vs.toArray 52)).alloc (.cells #[.slice none 0 0] 22)) (b := W.heap.size) (vs := vs) (by rw [Below.heap_alloc _ _ _ (by simp)]; exact World.alloc_heap_new _ _) ht hn
  gi_wp2_with first | (refine load_in rfl hl ?_) | (refine ⟨trivial, ?_⟩; gi_at_call 19; refine (ready_made _ _ _).mono ?_; rintro e w2 ⟨rfl, rfl⟩)
  clear hl
  obtain ⟨s, hs⟩ : ∃ s, s = W.heap.size := ⟨_, rfl⟩
  obtain ⟨W0, hW0⟩ : ∃ W0, ((W.alloc (.cells vs.toArray 52)).alloc (.cells #[.slice none 0 0] 22)).alloc (.cells vs.toArray 52) = W0 := ⟨_, rfl⟩
  have hsz : W0.heap.size = s + 3 := by rw [← hW0, hs]; simp
  have hb0 : Below s W W0 := by
    rw [← hW0, hs]
    exact (((Below.refl _ W).alloc (Nat.le_refl _) _).alloc (by simp) _).alloc (by simp; omega) _
  have hbx : W0.heap[s + 2]? = some (.cells vs.toArray 52 (0, 0)) := by
    rw [← hW0, hs]
    have := World.alloc_heap_new ((W.alloc (.cells vs.toArray 52)).alloc (.cells #[.slice none 0 0] 22)) (.cells vs.toArray 52)
    simpa using this
  have hout : Boxed W0 (s + 1) 22 (.slice none 0 0) := by
    rw [← hW0, hs]
    have := (Boxed.new (W.alloc (.cells vs.toArray 52)) 22 (.slice none 0 0)).alloc (.cells vs.toArray 52)
    simpa using this
  rw [hW0]
  rw [show W.heap.size = s from hs.symm]
  rw [show W.heap.size = s from hs.symm] at hcan
  obtain ⟨i0, hi, hz0, hz1, hz2⟩ := info_parts infoI
  have HS : Hid (s = W.heap.size) := hs
  clear hs hW0
  refine wpIn_rangeFunc_ownF (F := Fence.wide) (n := 5) (w := W0) (w0 := W0) (encs := fun x : Int => #[.int .i64 x]) (Kp := KpR s) (S := fun ys => ys = upTo b 7) (Sp := fun pre => ∃ i, i < 7 ∧ b i = true ∧ pre = upTo b (i + 1)) (N := 7) rfl (by omega) (gf := 29) (lb := #[.pointer (some ⟨s + 2, 0, none⟩)]) rfl trivial (enters_of Tryz.func29 (by kernel_rfl) rfl) ?seq
    KpR.trans (fun W l o o' hl h _ _ => KpR.put W l o o' (by omega) h) (Below.refl _ _) (fun _ => rfl)
    (fun pre W1 => (∃ v, Boxed W1 (s + 1) 22 v ∧ W1.ownsRow (s + 3) 3 1 v pre.length (pre.map (Value.int .i64)) ∧ True) ∧ Below s W W1 ∧ s + 3 ≤ W1.heap.size)
    (fun _ _ _ => False)
    (OwnFrom.and (Own.from (holdsRow_own (s + 3) (s + 1) 22 3 1 (fun pre : List Int => pre.length) (fun pre => pre.map (Value.int .i64)) (fun _ _ => True)) _) (OwnFrom.and (ownFrom_below (Nat.le_of_eq HS.out) (by omega)) (fun _ _ _ _ h hg _ => Nat.le_trans h hg.size)))
    (fun _ _ _ _ _ h _ _ => h.elim)
    ⟨⟨_, hout, World.ownsRow_nil _ _ _ _, trivial⟩, hb0, by omega⟩
    (fun x => { tmps := #[.agg vs.toArray, .pointer (some ⟨s, 0, none⟩), .slice none 0 0, .pointer (some ⟨s + 1, 0, none⟩), .int .i64 x, .agg vs.toArray, .func (.func 29) #[] #[.pointer (some ⟨s + 2, 0, none⟩)], .int .i64 x, undef, undef, undef, undef, undef], defers := [] }) ?assign ?body ?done ?stop
  case seq =>
    intro l J Jx W1 hW1 hJ hJx hY h0
    have hs1 : s + 3 ≤ W1.heap.size := by have := hW1.size; omega
    have hK1 : KpR s W0 W1 := ⟨hW1.mono (by omega), fun _ => hW1.block _ (by omega)⟩
    refine ready_iter 4 (by omega) l (s + 2) (.agg vs.toArray) b J Jx (KpR s) W1 KpR.trans (KpR.refl _ _) (fun A B hA hB => KpR.grown (Nat.le_trans hs1 hA.1.size) hB) hJ hY (fun i W2 hi7 h2 => hcan i W2 hi7 (hb0.trans (hK1.trans h2).1)) (fun W2 h2 => load_box (((hK1.trans h2).2 (by omega)).trans hbx) ht hn) h0
  case assign =>
    intro l x W K hK
    gi_wp2
    exact hK
  case body =>
    rintro l pre x W1 ⟨⟨v, hv, hrow, _⟩, hB, hs3⟩ hlen
    have hc := hv.cell
    have hf := hv.frozen
    have hm1 : pre.length + 1 ≤ maxLen := by unfold maxLen; omega
    have hm2 : (pre.length + 1) * 8 ≤ 140737488355328 := by omega
    have hm3 : s + 3 ≤ (W1.alloc (.cells #[.int .i64 x] 3)).heap.size := by have := hB.size; rw [World.size_alloc]; omega
    have hm4 := ownsRow_low (base' := s) hrow (by omega)
    have hm5 : s ≤ W1.heap.size := by omega
    gi_wp2_with (gi_at_builtin; refine wpListIn_append_own _ rfl _ _ 22 rfl (s + 3) 3 i0 (.int .i64 0) 1 8 Tryz.underlying22 hi hz0 hz1 hz2 rfl (by decide) _ _ _ rfl (hrow.alloc _) ⟨W1.heap.size, 0, none⟩ 1 1 [.int .i64 x] rfl rfl (cell_one_new _ _ _) (by simp [Value.oneCell']) hm1 hm2 hm3 ?_; intro v' w1 hown' hgrow _; obtain ⟨g', cap', rfl⟩ := ownsRow_succ hown'; obtain ⟨hv1, hv2, hr2, hk2, hb2⟩ := hv.appended (n₀ := s) (by decide) hm4 hm5 (Nat.le_succ s) (ownsRow_low hown' (Nat.le_add_right s 3)) hgrow; have hc1 := hv1.cell; have hf1 := hv1.frozen)
    have hr3 := hown'.kept (grownBy_setCell' w1 (s + 1) (.slice (some ⟨g', 0, none⟩) (pre.length + 1) cap')) (.inr (hv1.not_row (by decide) hown').symm)
    change (W1.alloc _).grownBy w1 v.ownBlock at hgrow
    have hx2 : (w1.setCell ⟨s + 1, 0, none⟩ (.slice (some ⟨g', 0, none⟩) (pre.length + 1) cap')).heap[s + 2]? = W1.heap[s + 2]? := by
      rw [Below.heap_setCell _ _ _ _ (by simp)]
      rw [hgrow.block (s + 2) (by rw [World.size_alloc]; omega) (fun e => ?_), Below.heap_alloc _ _ _ (by omega)]
      rcases hrow.2 with ⟨rfl, _⟩ | ⟨g, cap, cur, rfl, hg, _⟩
      · simp [Value.ownBlock] at e
      · have : s + 2 = g := by simpa [Value.ownBlock] using e
        omega
    refine ⟨hk2, ⟨hb2, fun _ => hx2⟩, ⟨_, hv2, ?_, trivial⟩, hB.trans hb2, Nat.le_trans hs3 hb2.size⟩
    simpa using hr3
  case done =>
    rintro D ys W1 hD rfl ⟨⟨v, hv, hrow, _⟩, hB, hs3⟩ hK
    have hc := hv.cell
    gi_wp2
    refine ⟨by simp, .inl ⟨_, _, rfl, run_takeDeferred hK, ?_⟩⟩
    refine ⟨_, results_tmp rfl _ _ _, v, rfl, ?_, ?_⟩
    · rw [← HS.out]
      exact hB.trans (belowK_b (w := W0) (n₀ := s) (by omega) W1 D _ _ hD hK rfl rfl)
    · rw [← HS.out]
      exact ownsRow_putObj (ownsRow_low hrow (by omega)) _ hK rfl
  case stop =>
    rintro D c pre W1 hD _ h _
    exact h.elim
end Go.Pt
