/- A part of the proof: contracts of functions of the given program, out of walks over data. -/
import Derived.Test.YtnohaiobpmmomaaGreatDoorGap
import Derived.Test.YtnohaiobpmmomaaGreatDoorRd4
set_option linter.unusedVariables false
set_option linter.unusedSimpArgs false
set_option maxRecDepth 100000
namespace Go.Pt
open Go.RowKit Go.Proofs

section
variable {gl : List (Nat × AV)} {P : Program} {ops : Array Oper} {Q : Exit → Act → World → Prop} {k : K0} {N : Nat}
/-- A call whose walk is known, guarded or not. -/
theorem AL.callL (hkg : k.gl = gl) {d : Nat} {F : List (Nat × AV)} {H H' : List (Nat × Ent)} {g : Operand} {args : Array Operand} {tys : Array TypeId} {f : FuncId} {gv r : AV} {xs ys az : List AV} {ty : TypeId} {pos : String} {after : Array Edge} {guard : Option (Nat × Bool)} {l2 : List Oper}
    (hw : wantX ops.toList F guard = some true) (hg : ev F g = some gv) (hgo : fnOf gv = some (f, xs, ys)) (ha : evl F args.toList = some az) (hI : Inl gl P f (xs ++ az ++ ys) H r H') (hb : fnB P f = true) (hN : Nat.blt d N = true)
    (hq : AL P ops Q l2 (SR k N ((d, r) :: F) H')) : AL P ops Q (⟨some d, .call ⟨.value g, args, tys⟩, ty, pos, after, guard⟩ :: l2) (SR k N F H) := by
  refine AL.step (OS.on (S' := SR k N ((d, r) :: F) H') ?_ (fun a w hs => wantX_ok hw a w hs)) hq
  refine OS.of_call rfl fun act w hs => ?_
  obtain ⟨U, γ, hm, hfr⟩ := hs
  obtain ⟨vs, h1, h2⟩ := run_callFn (P := P) (ty := ty) (pos := pos) (after := after) (dst := some d) (tys := tys) hfr hg hgo ha hb
  refine ⟨f, vs.toArray, w, h1, (hI k w U γ vs hkg hm h2).mono fun e W' he => ?_⟩
  obtain ⟨v, U', γ', rfl, h6, h7, h8⟩ := he
  exact ⟨v, rfl, U', γ', h6, hfr.put h7 (Nat.le_of_ble_eq_true hN) h8⟩
end

theorem gap_fn {n : Nat} {zs : List Int} (hn : zs.length = n) (hn' : n ≤ 1000) : FnC [] Tryz.prog 7 [.sl n (intsD .i64 zs)] (.cl (.raw (.int .i64 (gapZ zs)))) := (gap_walk n zs hn hn').toFnC rfl
theorem gap_inl {n : Nat} {zs : List Int} (hn : zs.length = n) (hn' : n ≤ 1000) {H : List (Nat × Ent)} {nx : Nat} (hf : Fr H nx) : Inl [] Tryz.prog 7 [.d (.sl n (intsD .i64 zs))] H (iA (gapZ zs)) H := ((gap_fn hn hn').toInl (H' := H) rfl hf).1
theorem ones_ints : ∀ zs : List Int, onesA ((intsD .i64 zs).map .d) = true
  | [] => rfl
  | z :: r => ones_ints r
theorem ints_length (zs : List Int) : (intsD .i64 zs).length = zs.length := by simp [intsD]
theorem beq_mul {a b : Nat} (h : a = b) : Nat.beq a (b * 1) = true := by rw [h, Nat.mul_one]; exact Nat.beq_refl b
def parts7 : List Int := [0, 1, 2, 3, 4, 5, 6]
theorem ints_app (a b : List Int) : intsD .i64 (a ++ b) = intsD .i64 a ++ intsD .i64 b := by simp [intsD]
set_option maxHeartbeats 1000000 in
theorem full_fn {n : Nat} {zs : List Int} (hn : zs.length = n) (hn' : n ≤ 1000) : FnC [] Tryz.prog 6 [.sl n (intsD .i64 zs)] (.row 3 1 (0 + n + 7) ([] ++ intsD .i64 zs ++ intsD .i64 parts7)) := by
  refine Inl.toFnC (walkB_ok mixes noLib (m := 0) (n := 5) (nx := 0) (H := []) (Fr.nil 0) rfl ?_).1 rfl
  simp only [Bool.and_eq_true, decide_eq_true_eq, and_true, true_and, Bool.true_and, Bool.and_true]
  (repeat' apply And.intro) <;> first
    | omega
    | exact ones_ints zs
    | exact beq_mul ((ints_length zs).trans hn)
    | (show (0 + n) * 8 ≤ 140737488355328; omega)
    | (show (0 + n + 7) * 8 ≤ 140737488355328; omega)
    | rfl
end Go.Pt
