/- A part of the proof: contracts of functions of the given program, out of walks over data. -/
import Derived.Test.YtnohaiobpmmomaaGreatDoorLw3
set_option linter.unusedVariables false
set_option linter.unusedSimpArgs false
set_option maxRecDepth 100000
namespace Go.Pt
open Go.RowKit Go.Proofs

theorem more_long {n : Nat} {zs : List Int} (p : Int) (hn : zs.length = n) (hn' : 40 < n) : FnC [] Tryz.prog 4 [.sl n (intsD .i64 zs), .raw (.int .i64 p)] (.cl (.raw (.bool true))) := by
  refine FnC.ofD Tryz.func4 rfl rfl rfl fun k hkg => ?_
  refine AC.seqL hkg mixes noLib (m := 0) (n := 1) (Fr.nil 0) rfl rfl fun hf => ?_
  refine AC.anyH 100 (G := [(0, .d (.sl n (intsD .i64 zs)))]) hf rfl ⟨rfl, trivial⟩ ?_
  clear hf
  intro H hf
  refine AC.seq (AC.lit ?_)
  refine AL.callL hkg rfl rfl rfl rfl (awake_inl hf) rfl rfl ?_
  refine AL.preL hkg mixes noLib (m := 0) hf rfl rfl fun hf => ?_
  refine AL.nil (AQ.then_seq ?_)
  refine AC.seq ?_
  refine AC.seqL hkg mixes noLib (m := 0) (n := 1) hf rfl rfl fun hf => ?_
  refine AC.anyH 200 (G := [(0, .d (.sl n (intsD .i64 zs))), (5, iB true), (13, iB true)]) hf rfl ⟨rfl, rfl, bq (decide_eq_true (show (40 : Int) < (n : Int) by omega)), trivial⟩ ?_
  clear hf
  intro H hf
  refine AC.runL hkg mixes noLib (m := 0) (n := 1) hf rfl rfl fun hf => ?_
  exact AQ.then_ret (AQ.resultsD rfl (.inr rfl))
set_option maxHeartbeats 4000000 in
theorem more_short {n : Nat} {zs fs : List Int} (p : Int) (hn : zs.length = n) (hn' : n ≤ 40) (hfs : fs = zs ++ parts7) (h1 : gapZ zs ≤ gapZ (zs ++ [p])) (h2 : gapZ (zs ++ [p]) ≤ gapZ zs + 1) (g1 : gapZ fs ≤ fs.length) (g2 : 7 ≤ gapZ fs) (g3 : 7 ≤ gapZ zs) (g4 : gapZ zs ≤ 1000) : FnC [] Tryz.prog 4 [.sl n (intsD .i64 zs), .raw (.int .i64 p)] (.cl (.raw (.bool true))) := by
  have hfl : fs.length = n + 7 := by rw [hfs, List.length_append, hn]; rfl
  have hdl : intsD .i64 fs = [] ++ intsD .i64 zs ++ intsD .i64 parts7 := by rw [hfs, ints_app, List.nil_append]
  refine FnC.ofD Tryz.func4 rfl rfl rfl fun k hkg => ?_
  refine AC.seqL hkg mixes noLib (m := 0) (n := 1) (Fr.nil 0) rfl rfl fun hf => ?_
  refine AC.anyH 100 (G := [(0, .d (.sl n (intsD .i64 zs))), (1, iA p)]) hf rfl ⟨rfl, rfl, trivial⟩ ?_
  clear hf
  intro H hf
  refine AC.seq (AC.lit ?_)
  refine AL.callL hkg rfl rfl rfl rfl (awake_inl hf) rfl rfl ?_
  refine AL.preL hkg mixes noLib (m := 0) hf rfl rfl fun hf => ?_
  refine AL.nil (AQ.then_seq ?_)
  refine AC.seq ?_
  refine AC.seqL hkg mixes noLib (m := 0) (n := 1) hf rfl rfl fun hf => ?_
  refine AC.anyH 200 (G := [(0, .d (.sl n (intsD .i64 zs))), (1, iA p), (5, iB true), (13, iB false)]) hf rfl ⟨rfl, rfl, rfl, bq (decide_eq_false (show ¬ (40 : Int) < (n : Int) by omega)), trivial⟩ ?_
  clear hf
  intro H hf
  refine AC.runL hkg mixes noLib (m := 0) (n := 1) hf rfl rfl fun hf => ?_
  refine AQ.then_seq ?_
  refine AC.anyH 300 (G := [(0, .d (.sl n (intsD .i64 zs))), (1, iA p), (5, iB true)]) hf rfl ⟨rfl, rfl, rfl, trivial⟩ ?_
  clear hf
  intro H hf
  -- a := append(append([]int{}, l...), pick)
  refine AC.seqL hkg mixes noLib (m := 0) (n := 1) hf rfl ?_ fun hf => ?_
  · simp only [in64, Bool.and_eq_true, decide_eq_true_eq, and_true, true_and, Bool.true_and, Bool.and_true]
    exact ⟨⟨⟨rfl, rfl, rfl⟩, rfl⟩, rfl, ⟨⟨rfl, rfl, ones_ints _, beq_mul ((ints_length zs).trans hn), by omega, (show (0 + n) * 8 ≤ 140737488355328 by omega)⟩, rfl⟩, rfl⟩
  refine AC.canonF 304 (G := [(0, .d (.sl n (intsD .i64 zs))), (1, iA p), (5, iB true), (6, .own 302)]) (J := (302, .row 3 1 (0 + n) ([] ++ intsD .i64 zs) false) :: (300, .dead) :: H) hf rfl ⟨rfl, rfl, rfl, rfl, trivial⟩ ?_ ?_
  · exact SameH.cons SameH.drop
  clear hf
  intro hf
  refine AC.seqL hkg mixes noLib (m := 0) (n := 1) hf rfl ?_ fun hf => ?_
  · simp only [in64, Bool.and_eq_true, decide_eq_true_eq, and_true, true_and, Bool.true_and, Bool.and_true]
    exact ⟨rfl, rfl, ⟨⟨rfl, rfl, rfl⟩, rfl⟩, ⟨⟨rfl, rfl, rfl, rfl, by omega, (show (0 + n + 1) * 8 ≤ 140737488355328 by omega)⟩, rfl⟩, rfl⟩
  refine AC.shut (ts := [6]) hf rfl fun hf => ?_
  refine AC.anyH 400 (G := [(0, .d (.sl n (intsD .i64 zs))), (5, iB true), (6, .d (.sl (n + 1) (intsD .i64 (zs ++ [p]))))]) hf rfl ?_ ?_
  · have hz : 0 + n + 1 = n + 1 := by omega
    rw [← hz, show intsD .i64 (zs ++ [p]) = [] ++ intsD .i64 zs ++ intsD .i64 [p] by rw [ints_app, List.nil_append]]
    exact ⟨rfl, rfl, rfl, trivial⟩
  clear hf
  intro H hf
  -- f := full(l)
  refine AC.seq (AC.lit ?_)
  refine AL.preL hkg mixes noLib (m := 0) hf rfl rfl fun hf => ?_
  have hfull := (full_fn hn (by omega)).toInl (H' := H) (xs := [.d (.sl n (intsD .i64 zs))]) rfl hf
  refine AL.callL hkg rfl rfl rfl rfl hfull.1 rfl rfl ?_
  refine AL.preL hkg mixes noLib (m := 0) hfull.2 rfl rfl fun hf => ?_
  refine AL.nil (AQ.then_seq ?_)
  refine AC.shut (ts := [7]) hf rfl fun hf => ?_
  refine AC.anyH 500 (G := [(0, .d (.sl n (intsD .i64 zs))), (5, iB true), (6, .d (.sl (n + 1) (intsD .i64 (zs ++ [p])))), (7, .d (.sl (n + 7) (intsD .i64 fs)))]) hf rfl ?_ ?_
  · rw [hdl]
    have hz : 0 + n + 7 = n + 7 := by omega
    rw [← hz]
    exact ⟨rfl, rfl, rfl, rfl, trivial⟩
  clear hf hfull
  intro H hf
  refine AC.seq (AC.lit ?_)
  refine AL.preL hkg mixes noLib (m := 0) hf rfl rfl fun hf => ?_
  refine AL.callL hkg rfl rfl rfl rfl (gap_inl hn (by omega) hf) rfl rfl ?_
  refine AL.preL hkg mixes noLib (m := 0) hf rfl rfl fun hf => ?_
  refine AL.nil (AQ.then_seq ?_)
  refine AC.anyH 600 (G := [(0, .d (.sl n (intsD .i64 zs))), (5, iB true), (6, .d (.sl (n + 1) (intsD .i64 (zs ++ [p])))), (7, .d (.sl (n + 7) (intsD .i64 fs))), (8, iA (gapZ zs))]) hf rfl ⟨rfl, rfl, rfl, rfl, rfl, trivial⟩ ?_
  clear hf
  intro H hf
  refine AC.seq (AC.lit ?_)
  refine AL.preL hkg mixes noLib (m := 0) hf rfl rfl fun hf => ?_
  refine AL.callL hkg rfl rfl rfl rfl (gap_inl (zs := zs ++ [p]) (by simp [hn]) (by omega) hf) rfl rfl ?_
  refine AL.preL hkg mixes noLib (m := 0) hf rfl rfl fun hf => ?_
  refine AL.nil (AQ.then_seq ?_)
  refine AC.anyH 700 (G := [(5, iB true), (7, .d (.sl (n + 7) (intsD .i64 fs))), (8, iA (gapZ zs)), (9, iA (gapZ (zs ++ [p])))]) hf rfl ⟨rfl, rfl, rfl, rfl, trivial⟩ ?_
  clear hf
  intro H hf
  refine AC.seq (AC.lit ?_)
  refine AL.preL hkg mixes noLib (m := 0) hf rfl rfl fun hf => ?_
  refine AL.preL hkg mixes noLib (m := 0) hf rfl rfl fun hf => ?_
  refine AL.preL hkg mixes noLib (m := 0) hf rfl rfl fun hf => ?_
  refine AL.preL hkg mixes noLib (m := 0) hf rfl rfl fun hf => ?_
  refine AL.preL hkg mixes noLib (m := 0) hf rfl rfl fun hf => ?_
  refine AL.anyH 800 (G := (7, .d (.sl (n + 7) (intsD .i64 fs))) :: (8, iA (gapZ zs)) :: (9, iA (gapZ (zs ++ [p]))) :: (29, iB true) :: (32, iB true) ::  []) hf rfl ⟨rfl, rfl, rfl, rfl, bq (decide_eq_true (show gapZ zs ≤ gapZ (zs ++ [p]) from h1)), trivial⟩ ?_
  clear hf
  intro H hf
  refine AL.preL hkg mixes noLib (m := 0) hf rfl rfl fun hf => ?_
  refine AL.preL hkg mixes noLib (m := 0) hf rfl rfl fun hf => ?_
  refine AL.preL hkg mixes noLib (m := 0) hf rfl rfl fun hf => ?_
  refine AL.preL hkg mixes noLib (m := 0) hf rfl rfl fun hf => ?_
  refine AL.preL hkg mixes noLib (m := 0) hf rfl ?_ fun hf => ?_
  · simp only [in64, Bool.and_eq_true, decide_eq_true_eq, and_true, true_and, Bool.true_and, Bool.and_true]
    exact ⟨⟨by omega, by omega⟩, rfl⟩
  refine AL.preL hkg mixes noLib (m := 0) hf rfl rfl fun hf => ?_
  refine AL.anyH 900 (G := (7, .d (.sl (n + 7) (intsD .i64 fs))) :: (8, iA (gapZ zs)) :: (9, iA (gapZ (zs ++ [p]))) :: (34, iB true) :: (38, iB true) ::  []) hf rfl ⟨rfl, rfl, rfl, rfl, bq (decide_eq_true (show gapZ (zs ++ [p]) ≤ gapZ zs + 1 from h2)), trivial⟩ ?_
  clear hf
  intro H hf
  refine AL.preL hkg mixes noLib (m := 0) hf rfl rfl fun hf => ?_
  refine AL.preL hkg mixes noLib (m := 0) hf rfl rfl fun hf => ?_
  refine AL.preL hkg mixes noLib (m := 0) hf rfl rfl fun hf => ?_
  refine AL.callL hkg rfl rfl rfl rfl (gap_inl (zs := fs) hfl (by omega) hf) rfl rfl ?_
  refine AL.preL hkg mixes noLib (m := 0) hf rfl rfl fun hf => ?_
  refine AL.preL hkg mixes noLib (m := 0) hf rfl rfl fun hf => ?_
  refine AL.preL hkg mixes noLib (m := 0) hf rfl rfl fun hf => ?_
  refine AL.anyH 1000 (G := (7, .d (.sl (n + 7) (intsD .i64 fs))) :: (8, iA (gapZ zs)) :: (9, iA (gapZ (zs ++ [p]))) :: (40, iB true) :: (45, iB true) ::  []) hf rfl ⟨rfl, rfl, rfl, rfl, bq (decide_eq_true (by simpa [hfl] using g1)), trivial⟩ ?_
  clear hf
  intro H hf
  refine AL.preL hkg mixes noLib (m := 0) hf rfl rfl fun hf => ?_
  refine AL.preL hkg mixes noLib (m := 0) hf rfl rfl fun hf => ?_
  refine AL.preL hkg mixes noLib (m := 0) hf rfl rfl fun hf => ?_
  refine AL.callL hkg rfl rfl rfl rfl (gap_inl (zs := fs) hfl (by omega) hf) rfl rfl ?_
  refine AL.preL hkg mixes noLib (m := 0) hf rfl rfl fun hf => ?_
  refine AL.anyH 1100 (G := (7, .d (.sl (n + 7) (intsD .i64 fs))) :: (8, iA (gapZ zs)) :: (9, iA (gapZ (zs ++ [p]))) :: (47, iB true) :: (50, iB true) ::  []) hf rfl ⟨rfl, rfl, rfl, rfl, bq (decide_eq_true (show (7 : Int) ≤ gapZ fs from g2)), trivial⟩ ?_
  clear hf
  intro H hf
  refine AL.preL hkg mixes noLib (m := 0) hf rfl rfl fun hf => ?_
  refine AL.preL hkg mixes noLib (m := 0) hf rfl rfl fun hf => ?_
  refine AL.nil (AQ.then_seq ?_)
  exact AC.ret (AQ.resultsD rfl (.inr rfl))
end Go.Pt
