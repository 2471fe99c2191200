/- A part of the proof: contracts of functions of the given program, out of walks over data. -/
import Derived.Test.YtnohaiobpmmomaaGreatDoorLw2
set_option linter.unusedVariables false
set_option linter.unusedSimpArgs false
set_option maxRecDepth 100000
namespace Go.Pt
open Go.RowKit Go.Proofs

theorem fair_long {n : Nat} {zs : List Int} (hn : zs.length = n) (hn' : 40 < n) : FnC [] Tryz.prog 3 [.sl n (intsD .i64 zs)] (.cl (.raw (.bool true))) := by
  refine FnC.ofD Tryz.func3 rfl rfl rfl fun k hkg => ?_
  refine AC.seqL hkg mixes noLib (m := 0) (n := 1) (Fr.nil 0) rfl rfl fun hf => ?_
  refine AC.anyH 100 (G := [(0, .d (.sl n (intsD .i64 zs)))]) hf rfl ⟨rfl, trivial⟩ ?_
  clear hf
  intro H hf
  refine AC.seq (AC.lit ?_)
  refine AL.callL hkg rfl rfl rfl rfl (awake_inl hf) rfl rfl ?_
  refine AL.preL hkg mixes noLib (m := 0) hf rfl rfl fun hf => ?_
  refine AL.nil (AQ.then_seq ?_)
  refine AC.seq ?_
  refine AC.seqL hkg mixes noLib (m := 0) (n := 1) hf rfl rfl fun hf => ?_
  refine AC.anyH 200 (G := [(0, .d (.sl n (intsD .i64 zs))), (3, iB true), (10, iB true)]) hf rfl ⟨rfl, rfl, bq (decide_eq_true (show (40 : Int) < (n : Int) by omega)), trivial⟩ ?_
  clear hf
  intro H hf
  refine AC.runL hkg mixes noLib (m := 0) (n := 1) hf rfl rfl fun hf => ?_
  exact AQ.then_ret (AQ.resultsD rfl (.inr rfl))
set_option maxHeartbeats 4000000 in
theorem fair_short {n : Nat} {zs fs : List Int} (hn : zs.length = n) (hn' : n ≤ 40) (hfs : fs = zs ++ parts7) (g1 : gapZ (fs ++ fs) ≤ fs.length) (g2 : 7 ≤ gapZ zs) (g3 : gapZ zs = 7 ∨ gapZ zs ≤ n + 1) : FnC [] Tryz.prog 3 [.sl n (intsD .i64 zs)] (.cl (.raw (.bool true))) := by
  have hfl : fs.length = n + 7 := by rw [hfs, List.length_append, hn]; rfl
  have hdl : intsD .i64 fs = [] ++ intsD .i64 zs ++ intsD .i64 parts7 := by rw [hfs, ints_app, List.nil_append]
  refine FnC.ofD Tryz.func3 rfl rfl rfl fun k hkg => ?_
  refine AC.seqL hkg mixes noLib (m := 0) (n := 1) (Fr.nil 0) rfl rfl fun hf => ?_
  refine AC.anyH 100 (G := [(0, .d (.sl n (intsD .i64 zs)))]) hf rfl ⟨rfl, trivial⟩ ?_
  clear hf
  intro H hf
  refine AC.seq (AC.lit ?_)
  refine AL.callL hkg rfl rfl rfl rfl (awake_inl hf) rfl rfl ?_
  refine AL.preL hkg mixes noLib (m := 0) hf rfl rfl fun hf => ?_
  refine AL.nil (AQ.then_seq ?_)
  refine AC.seq ?_
  refine AC.seqL hkg mixes noLib (m := 0) (n := 1) hf rfl rfl fun hf => ?_
  refine AC.anyH 200 (G := [(0, .d (.sl n (intsD .i64 zs))), (3, iB true), (10, iB false)]) hf rfl ⟨rfl, rfl, bq (decide_eq_false (show ¬ (40 : Int) < (n : Int) by omega)), trivial⟩ ?_
  clear hf
  intro H hf
  refine AC.runL hkg mixes noLib (m := 0) (n := 1) hf rfl rfl fun hf => ?_
  refine AQ.then_seq ?_
  -- a := full(l)
  refine AC.seq (AC.lit ?_)
  refine AL.preL hkg mixes noLib (m := 0) hf rfl rfl fun hf => ?_
  have hfull := (full_fn hn (by omega)).toInl (H' := H) (xs := [.d (.sl n (intsD .i64 zs))]) rfl hf
  refine AL.callL hkg rfl rfl rfl rfl hfull.1 rfl rfl ?_
  refine AL.preL hkg mixes noLib (m := 0) hfull.2 rfl rfl fun hf => ?_
  refine AL.nil (AQ.then_seq ?_)
  refine AC.shut (ts := [4]) hf rfl fun hf => ?_
  refine AC.anyH 300 (G := [(0, .d (.sl n (intsD .i64 zs))), (3, iB true), (4, .d (.sl (n + 7) (intsD .i64 fs)))]) hf rfl ?_ ?_
  · rw [hdl]
    have hz : 0 + n + 7 = n + 7 := by omega
    rw [← hz]
    exact ⟨rfl, rfl, rfl, trivial⟩
  clear hf hfull
  intro H hf
  -- b := append(append([]int{}, a...), a...)
  refine AC.seqL hkg mixes noLib (m := 0) (n := 1) hf rfl ?_ fun hf => ?_
  · simp only [in64, Bool.and_eq_true, decide_eq_true_eq, and_true, true_and, Bool.true_and, Bool.and_true]
    exact ⟨⟨⟨rfl, rfl, rfl⟩, rfl⟩, rfl, ⟨⟨rfl, rfl, ones_ints _, beq_mul ((ints_length fs).trans hfl), by omega, (show (0 + (n + 7)) * 8 ≤ 140737488355328 by omega)⟩, rfl⟩, rfl⟩
  refine AC.canonF 304 (G := [(0, .d (.sl n (intsD .i64 zs))), (3, iB true), (4, .d (.sl (n + 7) (intsD .i64 fs))), (5, .own 302)]) (J := (302, .row 3 1 (0 + (n + 7)) ([] ++ intsD .i64 fs) false) :: (300, .dead) :: H) hf rfl ⟨rfl, rfl, rfl, rfl, trivial⟩ ?_ ?_
  · exact SameH.cons SameH.drop
  clear hf
  intro hf
  refine AC.seqL hkg mixes noLib (m := 0) (n := 1) hf rfl ?_ fun hf => ?_
  · simp only [in64, Bool.and_eq_true, decide_eq_true_eq, and_true, true_and, Bool.true_and, Bool.and_true]
    exact ⟨rfl, rfl, ⟨⟨rfl, rfl, ones_ints _, beq_mul ((ints_length fs).trans hfl), by omega, (show (0 + (n + 7) + (n + 7)) * 8 ≤ 140737488355328 by omega)⟩, rfl⟩, rfl⟩
  refine AC.canonF 308 (G := [(0, .d (.sl n (intsD .i64 zs))), (3, iB true), (4, .d (.sl (n + 7) (intsD .i64 fs))), (5, .own 306)]) (J := (306, .row 3 1 (0 + (n + 7) + (n + 7)) ([] ++ intsD .i64 fs ++ intsD .i64 fs) false) :: (302, .dead) :: (300, .dead) :: H) hf rfl ⟨rfl, rfl, rfl, rfl, trivial⟩ ?_ ?_
  · exact SameH.cons SameH.drop
  clear hf
  intro hf
  refine AC.shut (ts := [5]) hf rfl fun hf => ?_
  refine AC.anyH 400 (G := [(0, .d (.sl n (intsD .i64 zs))), (3, iB true), (4, .d (.sl (n + 7) (intsD .i64 fs))), (5, .d (.sl (n + 7 + (n + 7)) (intsD .i64 (fs ++ fs))))]) hf rfl ?_ ?_
  · have hz : 0 + (n + 7) + (n + 7) = n + 7 + (n + 7) := by omega
    rw [← hz, show intsD .i64 (fs ++ fs) = [] ++ intsD .i64 fs ++ intsD .i64 fs by rw [ints_app, List.nil_append]]
    exact ⟨rfl, rfl, rfl, rfl, trivial⟩
  clear hf
  intro H hf
  -- g := Gap(l)
  refine AC.seq (AC.lit ?_)
  refine AL.preL hkg mixes noLib (m := 0) hf rfl rfl fun hf => ?_
  refine AL.callL hkg rfl rfl rfl rfl (gap_inl hn (by omega) hf) rfl rfl ?_
  refine AL.preL hkg mixes noLib (m := 0) hf rfl rfl fun hf => ?_
  refine AL.nil (AQ.then_seq ?_)
  refine AC.anyH 500 (G := [(0, .d (.sl n (intsD .i64 zs))), (3, iB true), (4, .d (.sl (n + 7) (intsD .i64 fs))), (5, .d (.sl (n + 7 + (n + 7)) (intsD .i64 (fs ++ fs)))), (6, iA (gapZ zs))]) hf rfl ⟨rfl, rfl, rfl, rfl, rfl, trivial⟩ ?_
  clear hf
  intro H hf
  have gb : gapZ zs ≤ 1000 := by omega
  -- the answer
  refine AC.seq (AC.lit ?_)
  refine AL.preL hkg mixes noLib (m := 0) hf rfl rfl fun hf => ?_
  refine AL.preL hkg mixes noLib (m := 0) hf rfl rfl fun hf => ?_
  refine AL.preL hkg mixes noLib (m := 0) hf rfl rfl fun hf => ?_
  refine AL.callL hkg rfl rfl rfl rfl (gap_inl (zs := fs ++ fs) (by simp [hfl]) (by omega) hf) rfl rfl ?_
  refine AL.preL hkg mixes noLib (m := 0) hf rfl rfl fun hf => ?_
  refine AL.preL hkg mixes noLib (m := 0) hf rfl rfl fun hf => ?_
  refine AL.preL hkg mixes noLib (m := 0) hf rfl rfl fun hf => ?_
  refine AL.anyH 600 (G := (0, .d (.sl n (intsD .i64 zs))) :: (4, .d (.sl (n + 7) (intsD .i64 fs))) :: (5, .d (.sl (n + 7 + (n + 7)) (intsD .i64 (fs ++ fs)))) :: (6, iA (gapZ zs)) :: (23, iB true) :: (28, iB true) ::  []) hf rfl ⟨rfl, rfl, rfl, rfl, rfl, bq (decide_eq_true (by simpa [hfl] using g1)), trivial⟩ ?_
  clear hf
  intro H hf
  refine AL.preL hkg mixes noLib (m := 0) hf rfl rfl fun hf => ?_
  refine AL.preL hkg mixes noLib (m := 0) hf rfl rfl fun hf => ?_
  refine AL.preL hkg mixes noLib (m := 0) hf rfl rfl fun hf => ?_
  refine AL.preL hkg mixes noLib (m := 0) hf rfl rfl fun hf => ?_
  refine AL.anyH 700 (G := (0, .d (.sl n (intsD .i64 zs))) :: (4, .d (.sl (n + 7) (intsD .i64 fs))) :: (5, .d (.sl (n + 7 + (n + 7)) (intsD .i64 (fs ++ fs)))) :: (6, iA (gapZ zs)) :: (30, iB true) :: (32, iB true) ::  []) hf rfl ⟨rfl, rfl, rfl, rfl, rfl, bq (decide_eq_true (show (7 : Int) ≤ gapZ zs from g2)), trivial⟩ ?_
  clear hf
  intro H hf
  refine AL.preL hkg mixes noLib (m := 0) hf rfl rfl fun hf => ?_
  refine AL.preL hkg mixes noLib (m := 0) hf rfl rfl fun hf => ?_
  refine AL.preL hkg mixes noLib (m := 0) hf rfl rfl fun hf => ?_
  refine AL.preL hkg mixes noLib (m := 0) hf rfl rfl fun hf => ?_
  refine AL.callL hkg rfl rfl rfl rfl (fair_inl _ hn (by omega) hf) rfl rfl ?_
  refine AL.anyH 800 (G := (0, .d (.sl n (intsD .i64 zs))) :: (4, .d (.sl (n + 7) (intsD .i64 fs))) :: (5, .d (.sl (n + 7 + (n + 7)) (intsD .i64 (fs ++ fs)))) :: (6, iA (gapZ zs)) :: (34, iB true) :: (37, iB true) ::  []) hf rfl ⟨rfl, rfl, rfl, rfl, rfl, bq (decide_eq_true (Int.le_refl _)), trivial⟩ ?_
  clear hf
  intro H hf
  refine AL.preL hkg mixes noLib (m := 0) hf rfl rfl fun hf => ?_
  refine AL.preL hkg mixes noLib (m := 0) hf rfl rfl fun hf => ?_
  refine AL.preL hkg mixes noLib (m := 0) hf rfl rfl fun hf => ?_
  refine AL.preL hkg mixes noLib (m := 0) hf rfl rfl fun hf => ?_
  refine AL.preL hkg mixes noLib (m := 0) hf rfl ?_ fun hf => ?_
  · simp only [in64, Bool.and_eq_true, decide_eq_true_eq, and_true, true_and, Bool.true_and, Bool.and_true]
    exact ⟨⟨by omega, by omega⟩, rfl⟩
  refine AL.callL hkg rfl rfl rfl rfl (fair_inl _ hn (by omega) hf) rfl rfl ?_
  refine AL.anyH 900 (G := (0, .d (.sl n (intsD .i64 zs))) :: (4, .d (.sl (n + 7) (intsD .i64 fs))) :: (5, .d (.sl (n + 7 + (n + 7)) (intsD .i64 (fs ++ fs)))) :: (6, iA (gapZ zs)) :: (39, iB true) :: (43, iB false) ::  []) hf rfl ⟨rfl, rfl, rfl, rfl, rfl, bq (decide_eq_false (by omega)), trivial⟩ ?_
  clear hf
  intro H hf
  refine AL.preL hkg mixes noLib (m := 0) hf rfl rfl fun hf => ?_
  refine AL.preL hkg mixes noLib (m := 0) hf rfl rfl fun hf => ?_
  refine AL.preL hkg mixes noLib (m := 0) hf rfl rfl fun hf => ?_
  refine AL.preL hkg mixes noLib (m := 0) hf rfl rfl fun hf => ?_
  refine AL.preL hkg mixes noLib (m := 0) hf rfl rfl fun hf => ?_
  refine AL.preL hkg mixes noLib (m := 0) hf rfl ?_ fun hf => ?_
  · simp only [in64, Bool.and_eq_true, decide_eq_true_eq, and_true, true_and, Bool.true_and, Bool.and_true]
    exact ⟨⟨by omega, by omega⟩, rfl⟩
  refine AL.callL hkg rfl rfl rfl rfl (fair_inl _ hn (by omega) hf) rfl rfl ?_
  refine AL.anyH 1000 (G := (0, .d (.sl n (intsD .i64 zs))) :: (4, .d (.sl (n + 7) (intsD .i64 fs))) :: (5, .d (.sl (n + 7 + (n + 7)) (intsD .i64 (fs ++ fs)))) :: (6, iA (gapZ zs)) :: (46, iB true) :: (50, iB true) ::  []) hf rfl ⟨rfl, rfl, rfl, rfl, rfl, bq (decide_eq_true (by omega)), trivial⟩ ?_
  clear hf
  intro H hf
  refine AL.preL hkg mixes noLib (m := 0) hf rfl rfl fun hf => ?_
  refine AL.preL hkg mixes noLib (m := 0) hf rfl rfl fun hf => ?_
  refine AL.preL hkg mixes noLib (m := 0) hf rfl rfl fun hf => ?_
  refine AL.preL hkg mixes noLib (m := 0) hf rfl rfl fun hf => ?_
  by_cases h7 : gapZ zs = 7
  · skip
    refine AL.anyH 1100 (G := (0, .d (.sl n (intsD .i64 zs))) :: (4, .d (.sl (n + 7) (intsD .i64 fs))) :: (5, .d (.sl (n + 7 + (n + 7)) (intsD .i64 (fs ++ fs)))) :: (6, iA (gapZ zs)) :: (52, iB true) :: (54, iB true) ::  []) hf rfl ⟨rfl, rfl, rfl, rfl, rfl, bq (beq_iff_eq.2 h7), trivial⟩ ?_
    clear hf
    intro H hf
    refine AL.preL hkg mixes noLib (m := 0) hf rfl rfl fun hf => ?_
    refine AL.preL hkg mixes noLib (m := 0) hf rfl rfl fun hf => ?_
    refine AL.preL hkg mixes noLib (m := 0) hf rfl rfl fun hf => ?_
    refine AL.preL hkg mixes noLib (m := 0) hf rfl rfl fun hf => ?_
    refine AL.preL hkg mixes noLib (m := 0) hf rfl rfl fun hf => ?_
    refine AL.preL hkg mixes noLib (m := 0) hf rfl rfl fun hf => ?_
    refine AL.preL hkg mixes noLib (m := 0) hf rfl rfl fun hf => ?_
    refine AL.preL hkg mixes noLib (m := 0) hf rfl rfl fun hf => ?_
    refine AL.preL hkg mixes noLib (m := 0) hf rfl rfl fun hf => ?_
    refine AL.nil (AQ.then_seq ?_)
    exact AC.ret (AQ.resultsD rfl (.inr rfl))
  · skip
    refine AL.anyH 1200 (G := (0, .d (.sl n (intsD .i64 zs))) :: (4, .d (.sl (n + 7) (intsD .i64 fs))) :: (5, .d (.sl (n + 7 + (n + 7)) (intsD .i64 (fs ++ fs)))) :: (6, iA (gapZ zs)) :: (52, iB true) :: (54, iB false) ::  []) hf rfl ⟨rfl, rfl, rfl, rfl, rfl, bq (beq_eq_false_iff_ne.2 h7), trivial⟩ ?_
    clear hf
    intro H hf
    refine AL.preL hkg mixes noLib (m := 0) hf rfl rfl fun hf => ?_
    refine AL.preL hkg mixes noLib (m := 0) hf rfl rfl fun hf => ?_
    refine AL.preL hkg mixes noLib (m := 0) hf rfl rfl fun hf => ?_
    refine AL.preL hkg mixes noLib (m := 0) hf rfl rfl fun hf => ?_
    refine AL.preL hkg mixes noLib (m := 0) hf rfl ?_ fun hf => ?_
    · simp only [in64, Bool.and_eq_true, decide_eq_true_eq, and_true, true_and, Bool.true_and, Bool.and_true]
      exact ⟨⟨by omega, by omega⟩, rfl⟩
    refine AL.preL hkg mixes noLib (m := 0) hf rfl rfl fun hf => ?_
    refine AL.anyH 1300 (G := (0, .d (.sl n (intsD .i64 zs))) :: (4, .d (.sl (n + 7) (intsD .i64 fs))) :: (5, .d (.sl (n + 7 + (n + 7)) (intsD .i64 (fs ++ fs)))) :: (6, iA (gapZ zs)) :: (52, iB true) :: (55, iB false) :: (60, iB true) ::  []) hf rfl ⟨rfl, rfl, rfl, rfl, rfl, rfl, bq (decide_eq_true (show gapZ zs ≤ (n : Int) + 1 by omega)), trivial⟩ ?_
    clear hf
    intro H hf
    refine AL.preL hkg mixes noLib (m := 0) hf rfl rfl fun hf => ?_
    refine AL.preL hkg mixes noLib (m := 0) hf rfl rfl fun hf => ?_
    refine AL.preL hkg mixes noLib (m := 0) hf rfl rfl fun hf => ?_
    refine AL.nil (AQ.then_seq ?_)
    exact AC.ret (AQ.resultsD rfl (.inr rfl))
end Go.Pt
