/- A part of the proof: contracts of functions of the given program, out of walks over data. -/
import Derived.Test.YtnohaiobpmmomaaGreatDoorRd3
import Derived.Test.YtnohaiobpmmomaaGreatDoorC1s
set_option linter.unusedVariables false
set_option linter.unusedSimpArgs false
set_option maxRecDepth 100000
namespace Go.Pt
open Go.RowKit Go.Proofs

/-! ### What is known otherwise: Clone, Ready, Waits -/
def lib1 : FuncId → List DV → Option RV
  | 64, [.sl n cs] => bif flat1 n cs then some (.row 3 1 n cs) else none
  | 64, [.raw (.slice none 0 _)] => some (.row 3 1 0 [])
  | 56, [.sl n cs] => bif flat1 n cs then some (.row 5 1 n cs) else none
  | 56, [.raw (.slice none 0 _)] => some (.row 5 1 0 [])
  | _, _ => none
theorem raw_row {gl : List (Nat × AV)} {P : Program} {f e sz : Nat} {k : Nat} (h : FnA gl P f [.d (.raw (.slice none 0 k))] (.row e sz 0 [])) : FnC gl P f [.raw (.slice none 0 k)] (.row e sz 0 []) := FnA.toFnC h
theorem lib1_ok : CallOk [] Tryz.prog lib1 := by
  intro f ds rv h
  unfold lib1 at h
  split at h
  · rename_i n cs
    cases hf : flat1 n cs with
    | false => rw [hf] at h; cases h
    | true => rw [hf] at h; cases h; exact clone_int hf
  · cases h; exact raw_row ((clone_nil _).toNil 3 1)
  · rename_i n cs
    cases hf : flat1 n cs with
    | false => rw [hf] at h; cases h
    | true => rw [hf] at h; cases h; exact clone_byte hf
  · cases h; exact raw_row ((cloneb_nil _).toNil 5 1)
  · cases h
theorem gok_nil (W : World) (U : Nat → Nat) : Gok [] W U := fun t x h => by simp [lk] at h
/-- The world has grown: what reads as data reads on. -/
theorem ext_below {W W1 : World} {U : Nat → Nat} (wf : ∀ b, W.heap.size ≤ b → U b = 0) (h : Below W.heap.size W W1) : Ext W U W1 U :=
  ⟨fun b o ho => by
    by_cases hb : b < W.heap.size
    · exact h.cell (p := ⟨b, o, none⟩) hb
    · rw [wf b (by omega)] at ho; omega, fun _ => Nat.le_refl _⟩
/-- A contract whose answer is a value without memory, at a later world. -/
theorem FnC.later {P : Program} {f : FuncId} {ds : List DV} {v : Value} (h : FnC [] P f ds (.cl (.raw v))) {W W1 : World} {U : Nat → Nat} {vs : List Value} (wf : ∀ b, W.heap.size ≤ b → U b = 0) (hr : RDs W U ds vs) (hb : Below W.heap.size W W1) :
    Calls P f vs.toArray W1 fun e W2 => e = .returned v ∧ Below W1.heap.size W1 W2 := by
  refine (h W1 U vs (fun b hb' => wf b (Nat.le_trans hb.size hb')) (gok_nil _ _) (hr.mono (ext_below wf hb))).mono fun e W2 he => ?_
  obtain ⟨u, U', rfl, h1, _, h2⟩ := he
  cases h2
  exact ⟨rfl, h1.below⟩

def boolX (r : Option RV) : Option Bool := match r with
  | some (.cl (.raw (.bool b))) => some b
  | _ => none
theorem boolX_some {r : Option RV} {b : Bool} (h : boolX r = some b) : r = some (.cl (.raw (.bool b))) := by
  unfold boolX at h
  split at h
  · cases h; rfl
  · cases h
def canX (call : FuncId → List DV → Option RV) (cs : List DV) (i : Nat) : Option Bool := boolX (call 30 [.agg cs, .raw (.int .i64 (Int.ofNat i))])
/-- The parts that can do something: out of seven answers. -/
def cansX (call : FuncId → List DV → Option RV) (cs : List DV) : Nat → Option (List Bool)
  | 0 => some []
  | i + 1 => match cansX call cs i, canX call cs i with
    | some l, some b => some (l ++ [b])
    | _, _ => none
def bOf (l : List Bool) (i : Nat) : Bool := l.getD i false
theorem cansX_length {call : FuncId → List DV → Option RV} {cs : List DV} : ∀ {n : Nat} {l : List Bool}, cansX call cs n = some l → l.length = n
  | 0, l, h => by cases h; rfl
  | i + 1, l, h => by
    simp only [cansX] at h
    split at h
    · rename_i h1 h2
      cases h
      simp [cansX_length h1]
    · cases h
theorem cansX_at {call : FuncId → List DV → Option RV} {cs : List DV} : ∀ {n : Nat} {l : List Bool}, cansX call cs n = some l → ∀ i, i < n → call 30 [.agg cs, .raw (.int .i64 (Int.ofNat i))] = some (.cl (.raw (.bool (bOf l i))))
  | 0, l, h, i, hi => by omega
  | n + 1, l, h, i, hi => by
    simp only [cansX] at h
    split at h
    · rename_i l1 b h1 h2
      cases h
      have hl := cansX_length h1
      by_cases e : i = n
      · subst e
        have hb : bOf (l1 ++ [b]) i = b := by simp [bOf, ← hl]
        rw [hb]
        exact boolX_some h2
      · have hb : bOf (l1 ++ [b]) i = bOf l1 i := by
          unfold bOf
          rw [List.getD_eq_getElem?_getD, List.getD_eq_getElem?_getD, List.getElem?_append_left (by omega)]
        rw [hb]
        exact cansX_at h1 i (by omega)
    · cases h
def readyX (call : FuncId → List DV → Option RV) (cs : List DV) : Option RV := match cansX call cs 7 with
  | some l => bif Nat.beq cs.length 83 then some (.row 3 1 (upTo (bOf l) 7).length (intsD .i64 (upTo (bOf l) 7))) else none
  | none => none
theorem sz52 : szB Tryz.prog 52 = some (83, true) := by kernel_rfl
theorem ready_fn {call : FuncId → List DV → Option RV} (hc : CallOk [] Tryz.prog call) {cs : List DV} {rv : RV} (h : readyX call cs = some rv) : FnC [] Tryz.prog 13 [.agg cs] rv := by
  unfold readyX at h
  split at h
  · rename_i l h1
    cases hn : Nat.beq cs.length 83 with
    | false => rw [hn] at h; cases h
    | true =>
      rw [hn] at h; cases h
      intro W U vs wf hg hr
      cases hr with
      | cons hv hr =>
        cases hr
        cases hv with
        | agg hr =>
          rename_i us
          refine (ready_calls us (bOf l) W sz52 (by rw [← hr.length]; exact Nat.eq_of_beq_eq_true hn) (fun i W1 hi hb => ?_)).mono fun e W' he => ?_
          · exact (hc _ _ _ (cansX_at h1 i hi)).later (vs := [.agg us.toArray, .int .i64 (i : Int)]) wf (.cons (.agg hr) (.cons (.raw _) .nil)) hb
          · obtain ⟨v, rfl, hb, hrow⟩ := he
            have hv1 : v.oneCell' = true := by
              rcases hrow.2 with ⟨rfl, _⟩ | ⟨g, cap, cur, rfl, _⟩ <;> rfl
            refine ⟨v, U, rfl, ⟨hb.os, hb.tape, hb.output, hb.size, fun b hlt _ => ⟨hb.block b hlt, rfl⟩⟩, fun b hb' => wf b (Nat.le_trans hb.size hb'), hv1, _, ownsRow_low hrow (Nat.zero_le _), intsD_RDs _ _, fun b hb' => ?_⟩
            rcases hrow.2 with ⟨rfl, _⟩ | ⟨g, cap, cur, rfl, hg', _⟩
            · cases hb'
            · have : g = b := by simpa [blkOf] using hb'
              subst this
              exact ⟨hg', wf _ hg'⟩
  · cases h
/-- Waits where nothing is ready and the reader waits. -/
def waitsX (call : FuncId → List DV → Option RV) (cs : List DV) : Option RV := match cansX call cs 7, boolX (call 20 [.agg cs]), boolX (call 21 [.agg cs, .raw (.int .i64 0)]), call 23 [.agg cs] with
  | some [false, false, false, false, false, false, false], some false, some false, some (.cl wd) => match boolX (call 22 [wd]), call 24 [.agg cs] with
    | some true, some (.cl (.raw (.int .i64 h))) => bif Nat.beq cs.length 83 && (h == 0) then some (.cl (.raw (.int .i64 1))) else none
    | _, _ => none
  | _, _, _, _ => none
theorem waits_fn {call : FuncId → List DV → Option RV} (hc : CallOk [] Tryz.prog call) {cs : List DV} {rv : RV} (h : waitsX call cs = some rv) : FnC [] Tryz.prog 14 [.agg cs] rv := by
  unfold waitsX at h
  split at h
  · rename_i wd h1 h2 h3 h4
    split at h
    · rename_i hh h5 h6
      cases hn : Nat.beq cs.length 83 && (hh == 0) with
      | false => rw [hn] at h; cases h
      | true =>
        rw [hn] at h; cases h
        rw [Bool.and_eq_true] at hn
        obtain ⟨hn, h0⟩ := hn
        have h0 : hh = 0 := by simpa using h0
        subst h0
        intro W U vs wf hg hr
        cases hr with
        | cons hv hr =>
          cases hr
          cases hv with
          | agg hr =>
            rename_i us
            have ra : RD W U (.agg cs) (.agg us.toArray) := .agg hr
            have hcan : ∀ (i : Nat) W1, i < 7 → Below W.heap.size W W1 → Calls Tryz.prog 30 #[.agg us.toArray, .int .i64 (i : Int)] W1 fun e W2 => e = .returned (.bool false) ∧ Below W1.heap.size W1 W2 := fun i W1 hi hb => by
              have hf : bOf [false, false, false, false, false, false, false] i = false := by
                unfold bOf
                match i, hi with
                | 0, _ | 1, _ | 2, _ | 3, _ | 4, _ | 5, _ | 6, _ => rfl
              have := (hc _ _ _ (cansX_at h1 i hi)).later (vs := [.agg us.toArray, .int .i64 (i : Int)]) wf (.cons ra (.cons (.raw _) .nil)) hb
              rw [hf] at this
              exact this
            refine (waits_calls us W sz52 (by rw [← hr.length]; exact Nat.eq_of_beq_eq_true hn) (fun W1 hb => ?_) hcan (fun W1 hb => ?_) (fun W1 hb => ?_) (fun W1 hb => ?_)).mono fun e W' he => ?_
            · exact (hc _ _ _ (boolX_some h2)).later (vs := [.agg us.toArray]) wf (.cons ra .nil) hb
            · exact (hc _ _ _ (boolX_some h3)).later (vs := [.agg us.toArray, .int .i64 0]) wf (.cons ra (.cons (.raw _) .nil)) hb
            · have wf1 : ∀ b, W1.heap.size ≤ b → U b = 0 := fun b hb' => wf b (Nat.le_trans hb.size hb')
              refine (hc _ _ _ h4 W1 U [.agg us.toArray] wf1 (gok_nil _ _) (.cons (ra.mono (ext_below wf hb)) .nil)).mono fun e W2 he => ?_
              obtain ⟨wv, U2, rfl, a1, a2, a3⟩ := he
              refine ⟨wv, rfl, a1.below, ?_⟩
              exact (hc _ _ _ (boolX_some h5)).later (vs := [wv]) a2 (.cons a3 .nil) (Below.refl _ _)
            · exact (hc _ _ _ h6).later (vs := [.agg us.toArray]) wf (.cons ra .nil) hb
            · obtain ⟨rfl, hb⟩ := he
              exact ⟨_, U, rfl, ⟨hb.os, hb.tape, hb.output, hb.size, fun b hlt _ => ⟨hb.block b hlt, rfl⟩⟩, fun b hb' => wf b (Nat.le_trans hb.size hb'), .raw _⟩
    · cases h
  · cases h
/-- All that is known: Ready and Waits out of walks under lib1. -/
def lib2 (call : FuncId → List DV → Option RV) : FuncId → List DV → Option RV
  | 13, [.agg cs] => readyX call cs
  | 14, [.agg cs] => waitsX call cs
  | f, ds => lib1 f ds
theorem lib2_ok {call : FuncId → List DV → Option RV} (hc : CallOk [] Tryz.prog call) : CallOk [] Tryz.prog (lib2 call) := by
  intro f ds rv h
  unfold lib2 at h
  split at h
  · exact ready_fn hc h
  · exact waits_fn hc h
  · exact lib1_ok _ _ _ h
noncomputable def call1 : FuncId → List DV → Option RV := closedX lib1 (callX [] Tryz.prog lib1 60)
theorem call1_ok : CallOk [] Tryz.prog call1 := (callX_ok mixes lib1_ok 60).toCall lib1_ok
noncomputable def libS : FuncId → List DV → Option RV := lib2 call1
theorem libS_ok : CallOk [] Tryz.prog libS := lib2_ok call1_ok
noncomputable def callS : FuncId → List DV → Option RV := closedX libS (callX [] Tryz.prog libS 90)
theorem callS_ok : CallOk [] Tryz.prog callS := (callX_ok mixes libS_ok 90).toCall libS_ok
theorem awake_run : callS 5 [] = some (.cl (.raw (.bool true))) := by kernel_rfl
theorem awake_fn : FnC [] Tryz.prog 5 [] (.cl (.raw (.bool true))) := callS_ok _ _ _ awake_run
#print axioms awake_fn
end Go.Pt
