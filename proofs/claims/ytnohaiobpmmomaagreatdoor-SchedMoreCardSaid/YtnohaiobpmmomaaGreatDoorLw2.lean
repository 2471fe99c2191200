/- A part of the proof: contracts of functions of the given program, out of walks over data. -/
import Derived.Test.YtnohaiobpmmomaaGreatDoorLw1
set_option linter.unusedVariables false
set_option linter.unusedSimpArgs false
set_option maxRecDepth 100000
namespace Go.Pt
open Go.RowKit Go.Proofs

theorem SameH.cons {i : Nat} {e : Ent} {H G : List (Nat × Ent)} (h : SameH H G) : SameH ((i, e) :: H) ((i, e) :: G) := fun t => by
  by_cases hi : i = t
  · subst hi; rw [lk_self, lk_self]
  · rw [lk_ne hi, lk_ne hi]; exact h t
section
variable {gl : List (Nat × AV)} {P : Program} {Q : Exit → Act → World → Prop} {k : K0} {N : Nat}
/-- A function whose answer is data, whatever its memory is in the end. -/
theorem FnC.ofD {f : FuncId} {fn : Func} {c : Code} {ds : List DV} {x : DV} (hf : P.funcs[f]? = some fn) (hb : fn.body = some c) (hN : Nat.ble (ds.map AV.d).length fn.ntmps = true) (hcap : Nat.ble fn.ntmps gbase = true)
    (h : ∀ k, k.gl = gl → AC P c (bodyPost P fn fun e W' => ∃ H' v U' γ', e = .returned v ∧ MR k H' W' U' γ' ∧ RA W' U' γ' (.d x) v) (SR k fn.ntmps (slots 0 (ds.map .d) ++ gl) [])) : FnC gl P f ds (.cl x) := by
  intro W U vs wf hg hr
  have hm := MR.start wf hg
  refine (calls_of_wp hf hb (h (k0 gl W U) rfl _ _ ⟨U, _, hm, FR.enter hg (RAs.of_RDs hr) hN hcap⟩)).mono fun e W' he => ?_
  obtain ⟨H', v, U', γ', rfl, h1, h2⟩ := he
  refine ⟨v, U', rfl, h1.keep.toAgree, h1.wf, ?_⟩
  cases h2 with
  | d h => exact h
theorem AQ.resultsD {fn : Func} {F : List (Nat × AV)} {H : List (Nat × Ent)} {x : DV} (h : resX P fn.results.toList F H = some (.d x)) {e : Exit} (he : e = .normal ∨ e = .ret) :
    AQ (bodyPost P fn fun e W' => ∃ H' v U' γ', e = .returned v ∧ MR k H' W' U' γ' ∧ RA W' U' γ' (.d x) v) e (SR k fn.ntmps F H) := by
  intro a w hs
  obtain ⟨U, γ, hm, hf⟩ := hs
  obtain ⟨v, h1, h2⟩ := resX_RA hm hf h
  rcases he with rfl | rfl <;> exact ⟨hf.defers, v, h1, H, v, U, γ, rfl, hm, h2⟩
/-- From here on memory is told by its bound alone. -/
theorem AC.anyH (B : Nat) {c : Code} {F G : List (Nat × AV)} {H : List (Nat × Ent)} {nx : Nat} (hf : Fr H nx) (hB : Nat.ble nx B = true) (hk : Knows F G) (h : ∀ H, Fr H B → AC P c Q (SR k N G H)) : AC P c Q (SR k N F H) := AC.canon hk (SameH.refl _) (h H fun i hi => hf i (Nat.le_trans (Nat.le_of_ble_eq_true hB) hi))
theorem AL.anyH (B : Nat) {ops : Array Oper} {l : List Oper} {F G : List (Nat × AV)} {H : List (Nat × Ent)} {nx : Nat} (hf : Fr H nx) (hB : Nat.ble nx B = true) (hk : Knows F G) (h : ∀ H, Fr H B → AL P ops Q l (SR k N G H)) : AL P ops Q l (SR k N F H) := AL.canon hk (SameH.refl _) (h H fun i hi => hf i (Nat.le_trans (Nat.le_of_ble_eq_true hB) hi))
theorem AC.canonF (B : Nat) {c : Code} {F G : List (Nat × AV)} {H J : List (Nat × Ent)} {nx : Nat} (hf : Fr H nx) (hB : Nat.ble nx B = true) (hk : Knows F G) (hs : SameH H J) (h : Fr J B → AC P c Q (SR k N G J)) : AC P c Q (SR k N F H) :=
  AC.canon hk hs (h fun i hi => (hs i).trans (hf i (Nat.le_trans (Nat.le_of_ble_eq_true hB) hi)))
/-- Rows read as data from here on. -/
theorem AC.shut {c : Code} {ts : List Nat} {F F' : List (Nat × AV)} {H H' : List (Nat × Ent)} {nx nx' : Nat} (hf : Fr H nx) (h : shutS ts ⟨F, H, nx⟩ = ⟨F', H', nx'⟩) (hq : Fr H' nx' → AC P c Q (SR k N F' H')) : AC P c Q (SR k N F H) := by
  have := shutS_ok (k := k) (N := N) (ts := ts) (S := ⟨F, H, nx⟩) hf
  rw [h] at this
  exact AC.weaken (hq this.1) this.2
end
def iB (b : Bool) : AV := .d (.raw (.bool b))
theorem nq {a b : Int} (h : a = b) : some (AV.d (DV.raw (Value.int .i64 a))) = some (iA b) := by rw [h]; rfl

theorem fair_fn {n : Nat} {zs : List Int} (q : Int) (hn : zs.length = n) (hn' : n ≤ 1000) : FnC [] Tryz.prog 8 [.sl n (intsD .i64 zs), .raw (.int .i64 q)] (.cl (.raw (.bool (decide (gapZ zs ≤ q))))) := by
  refine FnC.ofD Tryz.func8 rfl rfl rfl fun k hkg => ?_
  refine AC.seqL hkg mixes noLib (m := 0) (n := 1) (Fr.nil 0) rfl rfl fun hf => ?_
  refine AC.anyH 1000 (G := [(0, .d (.sl n (intsD .i64 zs))), (1, iA q)]) hf rfl ⟨rfl, rfl, trivial⟩ ?_
  clear hf
  intro H hf
  refine AC.seq (AC.lit ?_)
  refine AL.preL hkg mixes noLib (m := 0) hf rfl rfl fun hf => ?_
  refine AL.callL hkg rfl rfl rfl rfl (gap_inl hn hn' hf) rfl rfl ?_
  refine AL.preL hkg mixes noLib (m := 0) hf rfl rfl fun hf => ?_
  refine AL.preL hkg mixes noLib (m := 0) hf rfl rfl fun hf => ?_
  refine AL.preL hkg mixes noLib (m := 0) hf rfl rfl fun hf => ?_
  refine AL.nil (AQ.then_seq ?_)
  exact AC.ret (AQ.resultsD rfl (.inr rfl))
theorem fair_inl {n : Nat} {zs : List Int} (q : Int) (hn : zs.length = n) (hn' : n ≤ 1000) {H : List (Nat × Ent)} {nx : Nat} (hf : Fr H nx) : Inl [] Tryz.prog 8 [.d (.sl n (intsD .i64 zs)), iA q] H (iB (decide (gapZ zs ≤ q))) H := ((fair_fn q hn hn').toInl (H' := H) rfl hf).1
theorem awake_inl {H : List (Nat × Ent)} {nx : Nat} (hf : Fr H nx) : Inl [] Tryz.prog 5 [] H (iB true) H := (awake_fn.toInl (H' := H) rfl hf).1
end Go.Pt
