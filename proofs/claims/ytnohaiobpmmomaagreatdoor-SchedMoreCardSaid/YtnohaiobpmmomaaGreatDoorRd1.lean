/- A part of the proof: contracts of functions of the given program, out of walks over data. -/
import Derived.Test.YtnohaiobpmmomaaGreatDoorB28
import Derived.RangeFuncNested
import Derived.RangeFuncBound
import Derived.RangeFuncCalls
import Derived.RangeFuncLeaves
import Derived.RangeFuncBox
import Derived.Shelf.Abstract
import Derived.Shelf.RegionOpen
import Derived.OwnWalkIn
import Derived.TacticsInMore
import Derived.LoopNIn
import Derived.LoopIn
import Derived.Maps.AppendAt
import Derived.Test.YtnohaiobpmmomaaGreatDoorProg
set_option linter.unusedVariables false
set_option linter.unusedSimpArgs false
namespace Go.Pt
open Go.RowKit Go.Shelf Go.Proofs
attribute [local go_sem] Oper.semAt_some

def upTo (b : Nat → Bool) (i : Nat) : List Int := ((List.range i).filter b).map Int.ofNat
theorem upTo_succ (b : Nat → Bool) (i : Nat) : upTo b (i + 1) = if b i then upTo b i ++ [(i : Int)] else upTo b i := by
  unfold upTo
  rw [List.range_succ, List.filter_append, List.map_append]
  cases h : b i <;> simp [h]
theorem upTo_length (b : Nat → Bool) (i : Nat) : (upTo b i).length ≤ i := by
  unfold upTo
  rw [List.length_map]
  exact Nat.le_trans (List.length_filter_le _ _) (by simp)

theorem load_in {F : Fence} {n : Nat} {P : Program} {t : TypeId} {x : Operand} {d ty pos after guard} {a : Act} {w : World} {K : Act → World → Prop} {Q : Exit → Act → World → Prop} {p : Addr} {v : Value}
    (hx : a.eval x = .pointer (some p)) (hl : (loadVar t p).run P w = .ok v w) (hK : K (a.put (some d) v) w) : Oper.wpIn F n P ⟨some d, .load t x, ty, pos, after, guard⟩ a w K Q := by
  unfold Oper.wpIn
  refine ⟨by simp [Oper.about], ?_⟩
  rw [Oper.semAt_plain F _ _ (by intro c hc'; cases hc')]
  have : (execOp a.eval ⟨some d, .load t x, ty, pos, after, guard⟩).run P w = .ok (.value v) w := by
    unfold execOp
    simp only [hx]
    refine run_v ?_
    unfold Instr.loadAt Instr.sureAddr
    simp only [Sem.run_bind, Sem.run_pure, Result.andThen_ok]
    exact hl
  rw [this]
  exact hK

set_option maxRecDepth 100000 in
set_option maxHeartbeats 1000000 in
theorem ready_iter (n : Nat) (hn : 1 ≤ n) (l bx : Nat) (cv : Value) (b : Nat → Bool) (J Jx : List Int → World → Prop) (Kp : World → World → Prop) (W : World)
    (hKt : ∀ {A B C : World}, Kp A B → Kp B C → Kp A C) (hKr : Kp W W) (hKg : ∀ A B, Kp W A → Below A.heap.size A B → Kp A B)
    (hJ : AbidesFrom W.heap.size J)
    (hY : ∀ pre x W1, J pre W1 → pre.length < 7 → YieldAt Fence.wide (n - 1) Tryz.prog l #[.int .i64 x] W1 fun e W' =>
      (e = .returned (.bool true) ∧ J (pre ++ [x]) W' ∧ Kp W1 W') ∨ (e = .returned (.bool false) ∧ Jx (pre ++ [x]) W'))
    (hcan : ∀ (i : Nat) W1, i < 7 → Kp W W1 → Calls Tryz.prog 30 #[cv, .int .i64 (i : Int)] W1 fun e W2 => e = .returned (.bool (b i)) ∧ Below W1.heap.size W1 W2)
    (hload : ∀ W1, Kp W W1 → (loadVar 52 ⟨bx, 0, none⟩).run Tryz.prog W1 = .ok cv W1)
    (h0 : J [] W) :
    CallsIn Fence.wide n Tryz.prog 29 #[.func (.yield l) #[] #[], .pointer (some ⟨bx, 0, none⟩)] W fun e W' => (∃ v, e = .returned v) ∧
      ((∃ ys, ys = upTo b 7 ∧ J ys W') ∨ (∃ pre, (∃ i, i < 7 ∧ b i = true ∧ pre = upTo b (i + 1)) ∧ Jx pre W')) := by
  refine callsIn_of_wp Tryz.func29 rfl trivial ?_ rfl
  simp only [Tryz.ntmps29, List.size_toArray, List.length_cons, List.length_nil, Nat.reduceAdd, Nat.reduceSub, Array.replicate_succ, Array.replicate_zero, List.push_toArray, List.append_toArray, List.nil_append, List.cons_append]
  gi_wp2
  gi_loopw [4] (fun p wr => ∃ i : Nat, p = .int .i64 (i : Int) ∧ i ≤ 7 ∧ J (upTo b i) wr ∧ Kp W wr)
    (fun p wr => 7 - (intOf p).toNat)
  case atStart =>
    exact ⟨0, rfl, by omega, h0, hKr⟩
  case round =>
    obtain ⟨i, rfl, hi7, hJi, hBi⟩ := hrel
    by_cases h7 : i = 7
    · subst h7
      gi_wp2
      go_end0
      exact ⟨⟨_, rfl⟩, .inl ⟨_, rfl, hJi⟩⟩
    · have hi : i < 7 := by omega
      have hl := hload wr hBi
      have hlt : ((i : Int) < 7) := by omega
      have hgr : ∀ w2, Below wr.heap.size wr w2 → J (upTo b i) w2 ∧ Kp W w2 := fun w2 h2 => by
        refine ⟨hJ _ _ _ none hJi ⟨h2.os, h2.tape, h2.output, h2.size, fun k hk _ => h2.block k hk⟩ (fun r e => by cases e), hKt hBi (hKg _ _ hBi h2)⟩
      have hc0 := hcan i wr hi hBi
      cases hbi : b i with
      | true =>
        rw [hbi] at hc0
        have hc := (callsIn_wide (n := n - 1)).2 hc0
        clear hc0
        have hu : upTo b (i + 1) = upTo b i ++ [(i : Int)] := by rw [upTo_succ, if_pos hbi]
        have hyy := fun w2 (h2 : Below wr.heap.size wr w2) => hY (upTo b i) (i : Int) w2 (hgr w2 h2).1 (by have := upTo_length b i; omega)
        gi_wp2_with first | (refine load_in rfl hl ?_) | (refine ⟨trivial, ?_⟩; gi_at_call 30; refine hc.mono ?_; clear hc; rintro e w2 ⟨rfl, hb2⟩)
        obtain ⟨fn, tmps, assign, body, hy, hR⟩ := hyy _ hb2
        rw [hy, Oper.uponIn_round]
        refine ⟨fun _ => hn, hR.mono ?_⟩
        rintro e W3 (⟨rfl, hJ3, hk3⟩ | ⟨rfl, hJx3⟩)
        · gi_wp2
          go_roundw
          case rel => exact ⟨i + 1, by simp, by omega, by rw [hu]; exact hJ3, hKt (hgr _ hb2).2 hk3⟩
          case measure => simp only [intOf]; omega
        · gi_wp2
          refine bodyPost_ret (results_none rfl _ _ _) rfl ?_
          exact ⟨⟨_, rfl⟩, .inr ⟨_, ⟨i, hi, hbi, rfl⟩, by rw [hu]; exact hJx3⟩⟩
      | false =>
        rw [hbi] at hc0
        have hc := (callsIn_wide (n := n - 1)).2 hc0
        clear hc0
        have hu : upTo b (i + 1) = upTo b i := by rw [upTo_succ, if_neg (by simp [hbi])]
        gi_wp2_with first | (refine load_in rfl hl ?_) | (refine ⟨trivial, ?_⟩; gi_at_call 30; refine hc.mono ?_; clear hc; rintro e w2 ⟨rfl, hb2⟩)
        refine ⟨fun _ h => (by cases h), ?_⟩
        gi_wp2
        refine ⟨⟨i + 1, by simp, by omega, by rw [hu]; exact (hgr _ hb2).1, (hgr _ hb2).2⟩, ?_⟩
        simp only [intOf]; omega
end Go.Pt
