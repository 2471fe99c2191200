/- A part of the proof: contracts of functions of the given program, out of walks over data. -/
import Derived.Test.YtnohaiobpmmomaaGreatDoorB28
import Derived.Test.YtnohaiobpmmomaaGreatDoorC1s
set_option linter.unusedVariables false
set_option linter.unusedSimpArgs false
set_option maxRecDepth 100000
namespace Go.Pt
open Go.RowKit Go.Proofs

section
variable {P : Program} {Q : Exit → Act → World → Prop} {k : K0} {N : Nat}
theorem AC.runL {gl : List (Nat × AV)} (hkg : k.gl = gl) (hmix : P.follows .mixedOrders = true) {lib : FuncId → List DV → Option RV} (hl : CallOk gl P lib) {m n : Nat} {c : Code} {F F' : List (Nat × AV)} {H H' : List (Nat × Ent)} {nx nx' : Nat} {b : Bool} {e : Exit} (hf : Fr H nx)
    (h : codeX P (closedX lib (callX gl P lib m)) (callX gl P lib m) N n c ⟨F, H, nx⟩ = some (b, e, ⟨F', H', nx'⟩)) (hb : b = true) (hq : Fr H' nx' → AQ Q e (SR k N F' H')) : AC P c Q (SR k N F H) := by
  have := codeX_ok (k := k) (N := N) hkg hmix ((callX_ok hmix hl m).toCall hl) (callX_ok hmix hl m) c ⟨F, H, nx⟩ b e ⟨F', H', nx'⟩ hf h hb
  exact this.2 Q (hq this.1)
theorem AC.seqL {gl : List (Nat × AV)} (hkg : k.gl = gl) (hmix : P.follows .mixedOrders = true) {lib : FuncId → List DV → Option RV} (hl : CallOk gl P lib) {m n : Nat} {x y : Code} {F F' : List (Nat × AV)} {H H' : List (Nat × Ent)} {nx nx' : Nat} {b : Bool} (hf : Fr H nx)
    (h : codeX P (closedX lib (callX gl P lib m)) (callX gl P lib m) N n x ⟨F, H, nx⟩ = some (b, .normal, ⟨F', H', nx'⟩)) (hb : b = true) (hq : Fr H' nx' → AC P y Q (SR k N F' H')) : AC P (.seq x y) Q (SR k N F H) :=
  AC.seq (AC.runL hkg hmix hl hf h hb fun hf' => AQ.then_seq (hq hf'))
theorem AC.canon {c : Code} {F G : List (Nat × AV)} {H J : List (Nat × Ent)} (hk : Knows F G) (hs : SameH H J) (h : AC P c Q (SR k N G J)) : AC P c Q (SR k N F H) := AC.weaken h fun _ _ h => SR.to hk hs h
theorem AQ.canon {e : Exit} {F G : List (Nat × AV)} {H J : List (Nat × Ent)} (hk : Knows F G) (hs : SameH H J) (h : AQ Q e (SR k N G J)) : AQ Q e (SR k N F H) := AQ.weaken h fun _ _ h => SR.to hk hs h
theorem AL.canon {ops : Array Oper} {l : List Oper} {F G : List (Nat × AV)} {H J : List (Nat × Ent)} (hk : Knows F G) (hs : SameH H J) (h : AL P ops Q l (SR k N G J)) : AL P ops Q l (SR k N F H) := AL.weaken h fun _ _ h => SR.to hk hs h
/-- Some operations run, from the list's head. -/
theorem AL.preL {gl : List (Nat × AV)} (hkg : k.gl = gl) (hmix : P.follows .mixedOrders = true) {lib : FuncId → List DV → Option RV} (hl : CallOk gl P lib) {m : Nat} {ops : Array Oper} {o : Oper} {l2 : List Oper} {F F' : List (Nat × AV)} {H H' : List (Nat × Ent)} {nx nx' : Nat} {b : Bool} (hf : Fr H nx)
    (h : stepX P (closedX lib (callX gl P lib m)) (callX gl P lib m) N ops.toList ⟨F, H, nx⟩ o = some (b, ⟨F', H', nx'⟩)) (hb : b = true) (hq : Fr H' nx' → AL P ops Q l2 (SR k N F' H')) : AL P ops Q (o :: l2) (SR k N F H) := by
  have := stepX_ok (Q := Q) (k := k) hkg ((callX_ok hmix hl m).toCall hl) (callX_ok hmix hl m) hf h hb
  exact AL.step this.2 (hq this.1)
end

/-! ### sched.Gap -/
def gapStep (at' : Nat) (st : Int × List Int) (z : Int) : Int × List Int :=
  if 0 ≤ z ∧ z < 7 then (max st.1 ((at' : Int) - st.2.getD z.toNat 0 + 1), st.2.set z.toNat ((at' : Int) + 1)) else st
def gapAt (zs : List Int) : Nat → Int × List Int
  | 0 => (7, [0, 0, 0, 0, 0, 0, 0])
  | j + 1 => gapStep j (gapAt zs j) (zs.getD j 0)
def gapEnd (n : Nat) : Int → List Int → Int
  | g, [] => g
  | g, x :: r => gapEnd n (max g ((n : Int) - x + 1)) r
def gapZ (zs : List Int) : Int := gapEnd zs.length (gapAt zs zs.length).1 (gapAt zs zs.length).2
theorem gapAt_ok (zs : List Int) : ∀ j, (gapAt zs j).2.length = 7 ∧ (∀ x ∈ (gapAt zs j).2, 0 ≤ x ∧ x ≤ j) ∧ 7 ≤ (gapAt zs j).1 ∧ (gapAt zs j).1 ≤ 7 + j
  | 0 => by simp [gapAt]
  | j + 1 => by
    obtain ⟨h1, h2, h3, h4⟩ := gapAt_ok zs j
    unfold gapAt gapStep
    split
    · rename_i hz
      refine ⟨by simp [h1], fun x hx => ?_, by simp only; omega, ?_⟩
      · rcases List.mem_or_eq_of_mem_set hx with h | h
        · have := h2 x h; omega
        · omega
      · simp only
        have hl : (zs.getD j 0).toNat < (gapAt zs j).2.length := by omega
        have := h2 _ (List.getElem_mem hl)
        rw [List.getD_eq_getElem?_getD, List.getElem?_eq_getElem hl, Option.getD_some]
        omega
    · exact ⟨h1, fun x hx => by have := h2 x hx; omega, h3, by omega⟩

def iA (z : Int) : AV := .d (.raw (.int .i64 z))
def cellsL (l : List Int) : List AV := l.map iA
/-- What is known at the first loop's head. -/
def gapF (n : Nat) (cs : List DV) (j : Nat) (st : Int × List Int) : List (Nat × AV) := [(0, .d (.sl n cs)), (3, iA st.1), (4, .ptr 2 0), (9, .d (.sl n cs)), (10, iA n), (11, iA j)]
def gapH (st : Int × List Int) : List (Nat × Ent) := [(2, .box 61 (cellsL st.2))]
theorem gapH_fr (st : Int × List Int) : Fr (gapH st) 3 := fun i hi => by
  unfold gapH
  rw [lk_ne (by omega)]
  rfl

theorem sl22 : slB Tryz.prog 22 = some (3, 1, false, 8) := by kernel_rfl
theorem bq {b c : Bool} (h : b = c) : some (AV.d (DV.raw (Value.bool b))) = some (AV.d (DV.raw (Value.bool c))) := by rw [h]
theorem gapStep_out {j : Nat} {st : Int × List Int} {z : Int} (h : ¬ (0 ≤ z ∧ z < 7)) : gapStep j st z = st := by unfold gapStep; rw [if_neg h]
theorem drop_ints (zs : List Int) {j n : Nat} (hn : zs.length = n) (hj : j < n) : ((intsD .i64 zs).drop ((j : Int).toNat * 1)).take 1 = [.raw (.int .i64 (zs.getD j 0))] := by
  have hl : j < zs.length := by omega
  rw [Int.toNat_natCast, Nat.mul_one]
  have h2 : j < (intsD .i64 zs).length := by simpa [intsD] using hl
  rw [List.drop_eq_getElem_cons h2]
  simp [intsD, List.getD_eq_getElem?_getD, List.getElem?_eq_getElem hl]
theorem in64_of {n : Int} (h1 : -9223372036854775808 ≤ n) (h2 : n ≤ 9223372036854775807) : in64 n = true := by simp [in64, h1, h2]
/-- What is known behind the load of the round's pick. -/
def gapR (n : Nat) (cs : List DV) (j : Nat) (st : Int × List Int) (z : Int) : List (Nat × AV) := (5, iA j) :: (6, iA z) :: gapF n cs j st
/-- What is known at the second loop's head. -/
def gapG (n : Nat) (cs : List DV) (g : Int) (ls : List Int) (i : Nat) : List (Nat × AV) := [(0, .d (.sl n cs)), (3, iA (gapEnd n g (ls.take i))), (35, .agg (cellsL ls)), (36, iA i)]
theorem gap_walk (n : Nat) (zs : List Int) (hn : zs.length = n) (hn' : n ≤ 1000) :
    Inl [] Tryz.prog 7 [.d (.sl n (intsD .i64 zs))] [] (iA (gapZ zs)) (gapH (gapAt zs n)) := by
  refine Inl.of Tryz.func7 rfl rfl rfl ?_
  intro k hkg
  refine AC.seqL hkg mixes noLib (m := 0) (n := 1) (Fr.nil 0) rfl rfl fun hf => ?_
  refine AC.seqL hkg mixes noLib (m := 0) (n := 1) hf rfl rfl fun hf => ?_
  refine AC.seqL hkg mixes noLib (m := 0) (n := 1) hf rfl rfl fun hf => ?_
  refine AC.seq ?_
  refine AC.seqL hkg mixes noLib (m := 0) (n := 1) hf rfl rfl fun hf => ?_
  refine AC.block ?_
  refine AC.canon (G := gapF n (intsD .i64 zs) 0 (gapAt zs 0)) (J := gapH (gapAt zs 0)) ?_ ?_ ?_
  · exact ⟨rfl, rfl, rfl, rfl, rfl, rfl, trivial⟩
  · exact SameH.refl _
  clear hf
  refine AC.loopS (X := {j : Nat // j ≤ n}) (fun x => gapF n (intsD .i64 zs) x.1 (gapAt zs x.1)) (fun x => gapH (gapAt zs x.1)) (fun x => n - x.1) ⟨0, by omega⟩ ?_
  rintro ⟨j, hj⟩
  simp only
  obtain ⟨h1, h2, h3, h4⟩ := gapAt_ok zs j
  obtain ⟨st, hst⟩ : ∃ st, st = gapAt zs j := ⟨_, rfl⟩
  rw [← hst] at h1 h2 h3 h4 ⊢
  refine AC.seqL hkg mixes noLib (m := 0) (n := 1) (gapH_fr _) rfl rfl fun hf => ?_
  refine AC.seq ?_
  refine AC.cond (b := decide ((j : Int) < n)) rfl (fun hjn => AC.skip (AQ.then_seq ?_)) (fun hjn => AC.exit (AQ.then_exit ?_))
  · have hjn' : j < n := by simpa using hjn
    refine AC.canon (G := gapF n (intsD .i64 zs) j st) (J := gapH st) ?_ ?_ ?_
    · exact ⟨rfl, rfl, rfl, rfl, rfl, rfl, trivial⟩
    · exact SameH.refl _
    clear hf
    have back : ∀ Q9 : Exit → Act → World → Prop, AQ Q9 .normal (SR k 48 (gapF n (intsD .i64 zs) (j + 1) (gapAt zs (j + 1))) (gapH (gapAt zs (j + 1)))) → AC Tryz.prog (Code.region 9
        #[{ dst := some 34, op := Op.binOp BinOp.add 3 (Operand.tmp 11) (Operand.const (Value.int IntKind.i64 1)) 3, type := 3, pos := "sched.go:89", after := #[], guard := none },
          { dst := some 11, op := Op.move (Operand.tmp 34), type := 3, pos := "sched.go:89", after := #[{ on := 0, ground := Ground.data }], guard := none }] false) Q9 (SR k 48 (gapF n (intsD .i64 zs) j (gapStep j st (zs.getD j 0))) (gapH (gapStep j st (zs.getD j 0)))) := by
      intro Q9 hq
      refine AC.runL hkg mixes noLib (m := 0) (n := 1) (gapH_fr _) rfl ?_ fun hf => ?_
      · simp only [in64, Bool.and_eq_true, decide_eq_true_eq, and_true, true_and, Bool.true_and, Bool.and_true]
        (repeat' apply And.intro) <;> first | omega | rfl
      · refine AQ.canon (G := gapF n (intsD .i64 zs) (j + 1) (gapAt zs (j + 1))) (J := gapH (gapAt zs (j + 1))) ?_ ?_ hq
        · rw [show gapAt zs (j + 1) = gapStep j st (zs.getD j 0) by rw [hst]; rfl]
          exact ⟨rfl, rfl, rfl, rfl, rfl, rfl, trivial⟩
        · rw [show gapAt zs (j + 1) = gapStep j st (zs.getD j 0) by rw [hst]; rfl]
          exact SameH.refl _
    refine AC.seq (AC.block (AC.seq (AC.lit ?_)))
    refine AL.preL hkg mixes noLib (m := 0) (gapH_fr _) rfl rfl fun hf => ?_
    refine AL.step (OS.indexSl sl22 rfl rfl rfl (by omega) (by omega) (drop_ints zs hn hjn')) ?_
    refine AL.preL hkg mixes noLib (m := 0) hf rfl rfl fun hf => ?_
    refine AL.preL hkg mixes noLib (m := 0) hf rfl rfl fun hf => ?_
    refine AL.preL hkg mixes noLib (m := 0) hf rfl rfl fun hf => ?_
    refine AL.nil (AQ.then_seq ?_)
    refine AC.canon (G := gapR n (intsD .i64 zs) j st (zs.getD j 0)) (J := gapH st) ?_ ?_ ?_
    · exact ⟨rfl, rfl, rfl, rfl, rfl, rfl, rfl, rfl, trivial⟩
    · exact SameH.refl _
    clear hf
    obtain ⟨z, hz⟩ : ∃ z, z = zs.getD j 0 := ⟨_, rfl⟩
    rw [← hz] at back ⊢
    by_cases hr : 0 ≤ z ∧ z < 7
    · -- the pick is a part
      obtain ⟨g, ls⟩ := st
      simp only at h1 h2 h3 h4
      match ls, h1 with
      | [l0, l1, l2, l3, l4, l5, l6], _ =>
      simp only [List.mem_cons, List.not_mem_nil, or_false, forall_eq_or_imp, forall_eq] at h2
      have hz7 : z = 0 ∨ z = 1 ∨ z = 2 ∨ z = 3 ∨ z = 4 ∨ z = 5 ∨ z = 6 := by omega
      clear hr hz hst
      rcases hz7 with rfl | rfl | rfl | rfl | rfl | rfl | rfl
      all_goals
        refine AC.runL hkg mixes noLib (m := 0) (n := 1) (gapH_fr _) rfl ?_ fun hf => ?_
        · clear back
          simp only [in64, Bool.and_eq_true, decide_eq_true_eq, and_true, true_and, Bool.true_and, Bool.and_true]
          (repeat' apply And.intro) <;> first | omega | rfl
        · refine AQ.block_n (AQ.then_seq ?_)
          refine AC.canon ?_ ?_ (back _ (AQ.then_n fun a w hs => ⟨⟨j + 1, by omega⟩, by simp only; omega, hs⟩))
          · exact ⟨rfl, rfl, rfl, rfl, rfl, rfl, trivial⟩
          · exact SameH.drop
    · rw [gapStep_out hr] at back
      by_cases hz0 : z < 0
      · refine AC.seq (AC.lit ?_)
        refine AL.preL hkg mixes noLib (m := 0) (gapH_fr _) rfl rfl fun hf => ?_
        refine AL.preL hkg mixes noLib (m := 0) hf rfl rfl fun hf => ?_
        refine AL.canon (G := (16, iA z) :: (17, .d (.raw (.bool false))) :: gapR n (intsD .i64 zs) j st z) (J := gapH st) ?_ ?_ ?_
        · exact ⟨rfl, bq (decide_eq_false (by omega)), rfl, rfl, rfl, rfl, rfl, rfl, rfl, rfl, trivial⟩
        · exact SameH.refl _
        clear hf
        refine AL.preL hkg mixes noLib (m := 0) (gapH_fr _) rfl rfl fun hf => ?_
        refine AL.preL hkg mixes noLib (m := 0) hf rfl rfl fun hf => ?_
        refine AL.preL hkg mixes noLib (m := 0) hf rfl rfl fun hf => ?_
        refine AL.preL hkg mixes noLib (m := 0) hf rfl rfl fun hf => ?_
        refine AL.nil (AQ.then_seq ?_)
        refine AC.runL hkg mixes noLib (m := 0) (n := 1) hf rfl rfl fun hf => ?_
        refine AQ.block_n (AQ.then_seq ?_)
        refine AC.canon ?_ ?_ (back _ (AQ.then_n fun a w hs => ⟨⟨j + 1, by omega⟩, by simp only; omega, hs⟩))
        · exact ⟨rfl, rfl, rfl, rfl, rfl, rfl, trivial⟩
        · exact SameH.refl _
      · refine AC.seq (AC.lit ?_)
        refine AL.preL hkg mixes noLib (m := 0) (gapH_fr _) rfl rfl fun hf => ?_
        refine AL.preL hkg mixes noLib (m := 0) hf rfl rfl fun hf => ?_
        refine AL.canon (G := (16, iA z) :: (17, .d (.raw (.bool true))) :: gapR n (intsD .i64 zs) j st z) (J := gapH st) ?_ ?_ ?_
        · exact ⟨rfl, bq (decide_eq_true (by omega)), rfl, rfl, rfl, rfl, rfl, rfl, rfl, rfl, trivial⟩
        · exact SameH.refl _
        clear hf
        refine AL.preL hkg mixes noLib (m := 0) (gapH_fr _) rfl rfl fun hf => ?_
        refine AL.preL hkg mixes noLib (m := 0) hf rfl rfl fun hf => ?_
        refine AL.preL hkg mixes noLib (m := 0) hf rfl rfl fun hf => ?_
        refine AL.canon (G := (18, .d (.raw (.bool true))) :: (20, .d (.raw (.bool false))) :: gapR n (intsD .i64 zs) j st z) (J := gapH st) ?_ ?_ ?_
        · exact ⟨rfl, bq (decide_eq_false (by omega)), rfl, rfl, rfl, rfl, rfl, rfl, rfl, rfl, trivial⟩
        · exact SameH.refl _
        clear hf
        refine AL.preL hkg mixes noLib (m := 0) (gapH_fr _) rfl rfl fun hf => ?_
        refine AL.nil (AQ.then_seq ?_)
        refine AC.runL hkg mixes noLib (m := 0) (n := 1) hf rfl rfl fun hf => ?_
        refine AQ.block_n (AQ.then_seq ?_)
        refine AC.canon ?_ ?_ (back _ (AQ.then_n fun a w hs => ⟨⟨j + 1, by omega⟩, by simp only; omega, hs⟩))
        · exact ⟨rfl, rfl, rfl, rfl, rfl, rfl, trivial⟩
        · exact SameH.refl _
  · -- the first loop is left
    have hjn' : j = n := by have : ¬ ((j : Int) < n) := by simpa using hjn
                            omega
    subst hjn'
    refine AQ.then_exit (AQ.block_here (AQ.then_seq ?_))
    refine AC.canon (G := gapF j (intsD .i64 zs) j st) (J := gapH st) ?_ ?_ ?_
    · exact ⟨rfl, rfl, rfl, rfl, rfl, rfl, trivial⟩
    · exact SameH.refl _
    clear hf
    obtain ⟨g, ls⟩ := st
    simp only at h1 h2 h3 h4
    match ls, h1 with
    | [l0, l1, l2, l3, l4, l5, l6], _ =>
    simp only [List.mem_cons, List.not_mem_nil, or_false, forall_eq_or_imp, forall_eq] at h2
    refine AC.seq (AC.seqL hkg mixes noLib (m := 0) (n := 1) (gapH_fr _) rfl rfl fun hf => ?_)
    refine AC.block ?_
    refine AC.canon (G := gapG j (intsD .i64 zs) g [l0, l1, l2, l3, l4, l5, l6] 0) (J := gapH (g, [l0, l1, l2, l3, l4, l5, l6])) ?_ ?_ ?_
    · exact ⟨rfl, rfl, rfl, rfl, trivial⟩
    · exact SameH.refl _
    clear hf
    refine AC.loopS (X := {i : Nat // i ≤ 7}) (fun x => gapG j (intsD .i64 zs) g [l0, l1, l2, l3, l4, l5, l6] x.1) (fun x => gapH (g, [l0, l1, l2, l3, l4, l5, l6])) (fun x => 7 - x.1) ⟨0, by omega⟩ ?_
    rintro ⟨i, hi⟩
    simp only
    have hi8 : i = 7 ∨ i = 0 ∨ i = 1 ∨ i = 2 ∨ i = 3 ∨ i = 4 ∨ i = 5 ∨ i = 6 := by omega
    rcases hi8 with rfl | hi8
    · refine AC.runL hkg mixes noLib (m := 0) (n := 1) (gapH_fr _) rfl rfl fun hf => ?_
      refine AQ.then_exit (AQ.block_here (AQ.then_seq ?_))
      have hz : gapZ zs = gapEnd j g [l0, l1, l2, l3, l4, l5, l6] := by
        unfold gapZ
        rw [hn, ← hst]
      refine AC.canon (G := [(3, iA (gapZ zs))]) (J := gapH (gapAt zs j)) ?_ ?_ ?_
      · rw [hz]
        exact ⟨rfl, trivial⟩
      · rw [← hst]
        exact SameH.refl _
      clear hf
      refine AC.runL hkg mixes noLib (m := 0) (n := 1) (gapH_fr _) rfl rfl fun hf => ?_
      exact AQ.results rfl (.inr rfl)
    · rcases hi8 with rfl | rfl | rfl | rfl | rfl | rfl | rfl
      · refine AC.runL hkg mixes noLib (m := 0) (n := 1) (gapH_fr _) rfl ?_ fun hf => ?_
        · simp only [in64, Bool.and_eq_true, decide_eq_true_eq, and_true, true_and, Bool.true_and, Bool.and_true]
          (repeat' apply And.intro) <;> first | omega | rfl
        · refine AQ.canon (G := gapG j (intsD .i64 zs) g [l0, l1, l2, l3, l4, l5, l6] 1) (J := gapH (g, [l0, l1, l2, l3, l4, l5, l6])) ?_ ?_ (AQ.then_n fun a w hs => ⟨⟨1, by omega⟩, by simp only; omega, hs⟩)
          · exact ⟨rfl, rfl, rfl, rfl, trivial⟩
          · exact SameH.refl _
      · refine AC.runL hkg mixes noLib (m := 0) (n := 1) (gapH_fr _) rfl ?_ fun hf => ?_
        · simp only [in64, Bool.and_eq_true, decide_eq_true_eq, and_true, true_and, Bool.true_and, Bool.and_true]
          (repeat' apply And.intro) <;> first | omega | rfl
        · refine AQ.canon (G := gapG j (intsD .i64 zs) g [l0, l1, l2, l3, l4, l5, l6] 2) (J := gapH (g, [l0, l1, l2, l3, l4, l5, l6])) ?_ ?_ (AQ.then_n fun a w hs => ⟨⟨2, by omega⟩, by simp only; omega, hs⟩)
          · exact ⟨rfl, rfl, rfl, rfl, trivial⟩
          · exact SameH.refl _
      · refine AC.runL hkg mixes noLib (m := 0) (n := 1) (gapH_fr _) rfl ?_ fun hf => ?_
        · simp only [in64, Bool.and_eq_true, decide_eq_true_eq, and_true, true_and, Bool.true_and, Bool.and_true]
          (repeat' apply And.intro) <;> first | omega | rfl
        · refine AQ.canon (G := gapG j (intsD .i64 zs) g [l0, l1, l2, l3, l4, l5, l6] 3) (J := gapH (g, [l0, l1, l2, l3, l4, l5, l6])) ?_ ?_ (AQ.then_n fun a w hs => ⟨⟨3, by omega⟩, by simp only; omega, hs⟩)
          · exact ⟨rfl, rfl, rfl, rfl, trivial⟩
          · exact SameH.refl _
      · refine AC.runL hkg mixes noLib (m := 0) (n := 1) (gapH_fr _) rfl ?_ fun hf => ?_
        · simp only [in64, Bool.and_eq_true, decide_eq_true_eq, and_true, true_and, Bool.true_and, Bool.and_true]
          (repeat' apply And.intro) <;> first | omega | rfl
        · refine AQ.canon (G := gapG j (intsD .i64 zs) g [l0, l1, l2, l3, l4, l5, l6] 4) (J := gapH (g, [l0, l1, l2, l3, l4, l5, l6])) ?_ ?_ (AQ.then_n fun a w hs => ⟨⟨4, by omega⟩, by simp only; omega, hs⟩)
          · exact ⟨rfl, rfl, rfl, rfl, trivial⟩
          · exact SameH.refl _
      · refine AC.runL hkg mixes noLib (m := 0) (n := 1) (gapH_fr _) rfl ?_ fun hf => ?_
        · simp only [in64, Bool.and_eq_true, decide_eq_true_eq, and_true, true_and, Bool.true_and, Bool.and_true]
          (repeat' apply And.intro) <;> first | omega | rfl
        · refine AQ.canon (G := gapG j (intsD .i64 zs) g [l0, l1, l2, l3, l4, l5, l6] 5) (J := gapH (g, [l0, l1, l2, l3, l4, l5, l6])) ?_ ?_ (AQ.then_n fun a w hs => ⟨⟨5, by omega⟩, by simp only; omega, hs⟩)
          · exact ⟨rfl, rfl, rfl, rfl, trivial⟩
          · exact SameH.refl _
      · refine AC.runL hkg mixes noLib (m := 0) (n := 1) (gapH_fr _) rfl ?_ fun hf => ?_
        · simp only [in64, Bool.and_eq_true, decide_eq_true_eq, and_true, true_and, Bool.true_and, Bool.and_true]
          (repeat' apply And.intro) <;> first | omega | rfl
        · refine AQ.canon (G := gapG j (intsD .i64 zs) g [l0, l1, l2, l3, l4, l5, l6] 6) (J := gapH (g, [l0, l1, l2, l3, l4, l5, l6])) ?_ ?_ (AQ.then_n fun a w hs => ⟨⟨6, by omega⟩, by simp only; omega, hs⟩)
          · exact ⟨rfl, rfl, rfl, rfl, trivial⟩
          · exact SameH.refl _
      · refine AC.runL hkg mixes noLib (m := 0) (n := 1) (gapH_fr _) rfl ?_ fun hf => ?_
        · simp only [in64, Bool.and_eq_true, decide_eq_true_eq, and_true, true_and, Bool.true_and, Bool.and_true]
          (repeat' apply And.intro) <;> first | omega | rfl
        · refine AQ.canon (G := gapG j (intsD .i64 zs) g [l0, l1, l2, l3, l4, l5, l6] 7) (J := gapH (g, [l0, l1, l2, l3, l4, l5, l6])) ?_ ?_ (AQ.then_n fun a w hs => ⟨⟨7, by omega⟩, by simp only; omega, hs⟩)
          · exact ⟨rfl, rfl, rfl, rfl, trivial⟩
          · exact SameH.refl _
end Go.Pt
