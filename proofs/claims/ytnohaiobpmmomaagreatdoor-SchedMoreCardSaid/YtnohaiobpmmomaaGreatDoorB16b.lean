/- A part of a logic over data for the given program's language: rules for single operations and walks as functions. -/
import Derived.Test.YtnohaiobpmmomaaGreatDoorB16
import Derived.Laws.StructEq
import Derived.Laws.Cover3
set_option linter.unusedVariables false
set_option linter.unusedSimpArgs false
namespace Go.Pt
open Go.RowKit

/-! ### Structs held against each other -/
def eq1 (P : Program) (t : TypeId) (a b : AV) : Option Bool := match P.underlying t, a, b with
  | some .bool, .d (.raw (.bool x)), .d (.raw (.bool y)) => some (x == y)
  | some (.int _), .d (.raw (.int .i64 x)), .d (.raw (.int .i64 y)) => some (x == y)
  | some .string, .d (.raw (.string x)), .d (.raw (.string y)) => some (x.toList == y.toList)
  | _, _, _ => none
def eqFs (P : Program) (xs ys : List AV) : List Field → Option Bool
  | [] => some true
  | f :: fs => match decide (f.name = "_"), szB P f.type with
    | false, some (1, false) => match xs[f.offset]?, ys[f.offset]? with
      | some a, some b => match eq1 P f.type a b with
        | some r => bif r then eqFs P xs ys fs else some false
        | none => none
      | _, _ => none
    | _, _ => none
def eqB (P : Program) (t : TypeId) : Option (List Field) := match P.underlying t with
  | some (.struct fs) => match P.stoodInHeld t, P.eqGuardType P.depth t with
    | false, false => some fs.toList
    | _, _ => none
  | _ => none
section
variable {P : Program}
theorem eq1_run {W : World} {U : Nat → Nat} {γ : Nat → Option Value} {t : TypeId} {a b : AV} {u v : Value} {r : Bool} (h : eq1 P t a b = some r) (ha : RA W U γ a u) (hb : RA W U γ b v) (d : Nat) : (Op.equalIn (d + 1) t u v).run P W = .ok r W := by
  unfold eq1 at h
  split at h
  · rename_i x y hu; cases h; cases ha with | d h1 => cases hb with | d h2 => cases h1; cases h2; exact run_equalIn_bool W d t x y hu
  · rename_i x y hu; cases h; cases ha with | d h1 => cases hb with | d h2 => cases h1; cases h2; exact run_equalIn_int W d t _ _ x y hu
  · rename_i x y hu; cases h; cases ha with | d h1 => cases hb with | d h2 => cases h1; cases h2; exact run_equalIn_string W d t x y hu
  · cases h
theorem eqFs_run {W : World} {U : Nat → Nat} {γ : Nat → Option Value} {xs ys : List AV} {us vs : List Value} (hx : RAs W U γ xs us) (hy : RAs W U γ ys vs) (d : Nat) : ∀ {fs : List Field} {r : Bool}, eqFs P xs ys fs = some r → (Op.eqFields (d + 1) us.toArray vs.toArray fs).run P W = .ok r W
  | [], r, h => by simp only [eqFs, Option.some.injEq] at h; subst h; simp [Op.eqFields]
  | f :: fs, r, h => by
    simp only [eqFs] at h
    split at h
    · rename_i hn hs
      split at h
      · rename_i a b h1 h2
        split at h
        · rename_i q h3
          obtain ⟨u, g1, g2⟩ := hx.get h1
          obtain ⟨v, g3, g4⟩ := hy.get h2
          have p1 : (part f.type us.toArray f.offset).run P W = .ok u W := run_part hs _ _ (by simpa using g1)
          have p2 : (part f.type vs.toArray f.offset).run P W = .ok v W := run_part hs _ _ (by simpa using g3)
          have p3 := eq1_run h3 g2 g4 d
          have hn' : f.name ≠ "_" := by simpa using hn
          simp only [Op.eqFields, Sem.run_bind, Sem.run_ite, if_pos hn', p1, p2, p3, Result.andThen_ok]
          cases q with
          | true => simp only [cond_true] at h; simpa using eqFs_run hx hy d h
          | false => simp only [cond_false, Option.some.injEq] at h; subst h; simp
        · cases h
      · cases h
    · cases h
variable {ops : Array Oper} {Q : Exit → Act → World → Prop} {k : K0} {N : Nat} {F : List (Nat × AV)} {H : List (Nat × Ent)}
variable {ty : TypeId} {pos : String} {after : Array Edge} {d : Nat}
def aggOp : BinOp → Bool → Option Bool
  | .eql, r => some r
  | .neq, r => some (!r)
  | _, _ => none
theorem OS.eqAgg {op : BinOp} {xt yt : TypeId} {x y : Operand} {xv yv : AV} {xs ys : List AV} {fs : List Field} {r q : Bool} (ht : eqB P xt = some fs) (hx : ev F x = some xv) (hy : ev F y = some yv) (hxc : cellsA xv = some xs) (hyc : cellsA yv = some ys) (hr : eqFs P xs ys fs = some r) (ho : aggOp op r = some q) (hN : Nat.blt d N = true) :
    OS P ops Q ⟨some d, .binOp op xt x y yt, ty, pos, after, none⟩ (SR k N F H) (SR k N ((d, .d (.raw (.bool q))) :: F) H) :=
  OS.plain rfl rfl hN fun act w U γ _ hf => by
    obtain ⟨us, h1, h2⟩ := cellsA_RA hxc (ev_RA hf hx)
    obtain ⟨vs, h3, h4⟩ := cellsA_RA hyc (ev_RA hf hy)
    refine ⟨.bool q, ?_, .d (.raw _)⟩
    unfold eqB at ht
    split at ht
    · rename_i fa hu
      split at ht
      · rename_i hst hg
        cases ht
        have hfs : P.fieldsOf xt = fa := by simp [Program.fieldsOf, hu]
        have hr' := eqFs_run h2 h4 9998 hr
        unfold execOp
        refine run_v ?_
        simp only [h1, h3, Sem.run_bind, run_eqGuard_agg w op xt x y _ _ hg, Result.andThen_ok]
        have he : (Op.equalIn 10000 xt (.agg us.toArray) (.agg vs.toArray)).run P w = .ok r w := by
          rw [run_equalIn_struct w 9999 xt _ _ (by rw [hfs]; exact hu) hst, hfs]
          exact hr'
        cases op <;> simp [aggOp] at ho <;> subst ho
        · rw [run_eql_struct, he]; rfl
        · rw [run_neq_struct, he]; simp
      · cases ht
    · cases ht
end

/-! ### Shifts, bits, division -/
def shI (op : BinOp) (k : IntKind) (a b : Int) : Option Int := match op with
  | .shl => some (k.wrap (a * 2 ^ (min b.toNat k.bits)))
  | .shr => some (a.fdiv (2 ^ (min b.toNat k.bits)))
  | _ => none
def btI (op : BinOp) (k : IntKind) (a b : Int) : Option Int := match op with
  | .and => some (k.wrap ((BitVec.ofInt k.bits a &&& BitVec.ofInt k.bits b).toNat))
  | .or => some (k.wrap ((BitVec.ofInt k.bits a ||| BitVec.ofInt k.bits b).toNat))
  | .xor => some (k.wrap ((BitVec.ofInt k.bits a ^^^ BitVec.ofInt k.bits b).toNat))
  | _ => none
def dvG (op : BinOp) (k : IntKind) (a b : Int) : Option Int := match op with
  | .quo => some (k.wrap (a.tdiv b))
  | .rem => some (a.tmod b)
  | _ => none
section
variable {P : Program} {ops : Array Oper} {Q : Exit → Act → World → Prop} {k : K0} {N : Nat} {F : List (Nat × AV)} {H : List (Nat × Ent)}
variable {ty : TypeId} {pos : String} {after : Array Edge} {d : Nat}
theorem OS.shift {op : BinOp} {xt yt : TypeId} {x y : Operand} {k1 k2 : IntKind} {a b r : Int} (hx : ev F x = some (.d (.raw (.int k1 a)))) (hy : ev F y = some (.d (.raw (.int k2 b)))) (hv : shI op k1 a b = some r) (hN : Nat.blt d N = true) (hb : 0 ≤ b) :
    OS P ops Q ⟨some d, .binOp op xt x y yt, ty, pos, after, none⟩ (SR k N F H) (SR k N ((d, .d (.raw (.int k1 r))) :: F) H) :=
  OS.plain rfl rfl hN fun act w U γ _ hf => ⟨.int k1 r, by
    unfold execOp
    simp only [raw_eval hf hx, raw_eval hf hy]
    refine run_v ?_
    have hb' : ¬ b < 0 := by omega
    cases op <;> simp [shI] at hv <;> subst hv <;> simp [eqGuard, binOp, Op.shift, hb'], .d (.raw _)⟩
theorem OS.bits {op : BinOp} {xt yt : TypeId} {x y : Operand} {k1 : IntKind} {a b r : Int} (hx : ev F x = some (.d (.raw (.int k1 a)))) (hy : ev F y = some (.d (.raw (.int k1 b)))) (hv : btI op k1 a b = some r) (hN : Nat.blt d N = true) :
    OS P ops Q ⟨some d, .binOp op xt x y yt, ty, pos, after, none⟩ (SR k N F H) (SR k N ((d, .d (.raw (.int k1 r))) :: F) H) :=
  OS.plain rfl rfl hN fun act w U γ _ hf => ⟨.int k1 r, by
    unfold execOp
    simp only [raw_eval hf hx, raw_eval hf hy]
    refine run_v ?_
    cases op <;> simp only [btI, Option.some.injEq, reduceCtorEq] at hv <;> subst hv <;> simp [eqGuard, binOp, Op.intBits], .d (.raw _)⟩
theorem OS.divG {op : BinOp} {xt yt : TypeId} {x y : Operand} {k1 : IntKind} {a b r : Int} (hx : ev F x = some (.d (.raw (.int k1 a)))) (hy : ev F y = some (.d (.raw (.int k1 b)))) (hv : dvG op k1 a b = some r) (hN : Nat.blt d N = true) (hb : b ≠ 0) :
    OS P ops Q ⟨some d, .binOp op xt x y yt, ty, pos, after, none⟩ (SR k N F H) (SR k N ((d, .d (.raw (.int k1 r))) :: F) H) :=
  OS.plain rfl rfl hN fun act w U γ _ hf => ⟨.int k1 r, by
    unfold execOp
    simp only [raw_eval hf hx, raw_eval hf hy]
    refine run_v ?_
    cases op <;> simp only [dvG, Option.some.injEq, reduceCtorEq] at hv <;> subst hv <;> simp [eqGuard, binOp, Op.intDiv, hb], .d (.raw _)⟩
/-- A slice held against nil. -/
theorem OS.eqNil {xt yt e : TypeId} {x y : Operand} {a : Option Addr} {n c s yy : Nat} {b : Bool} (ht : slB P xt = some (e, s, b, yy)) (hx : ev F x = some (.d (.raw (.slice a n c)))) (hy : ev F y = some (.d (.raw (.slice none 0 0)))) (hN : Nat.blt d N = true) :
    OS P ops Q ⟨some d, .binOp .eql xt x y yt, ty, pos, after, none⟩ (SR k N F H) (SR k N ((d, .d (.raw (.bool a.isNone))) :: F) H) :=
  OS.plain rfl rfl hN fun act w U γ _ hf => ⟨.bool a.isNone, by
    obtain ⟨hu, _⟩ := slB_info ht
    unfold execOp
    simp only [raw_eval hf hx, raw_eval hf hy]
    refine run_v ?_
    have h1 : (Op.equal xt (.slice a n c) (.slice none 0 0)).run P w = .ok a.isNone w := run_equal_slice_nil w xt e a n c hu
    simp [eqGuard, binOp, h1], .d (.raw _)⟩
theorem OS.eqNn {xt yt e : TypeId} {x y : Operand} {n s yy : Nat} {b : Bool} {cs : List DV} (ht : slB P xt = some (e, s, b, yy)) (hx : ev F x = some (.nn n cs)) (hy : ev F y = some (.d (.raw (.slice none 0 0)))) (hN : Nat.blt d N = true) :
    OS P ops Q ⟨some d, .binOp .eql xt x y yt, ty, pos, after, none⟩ (SR k N F H) (SR k N ((d, .d (.raw (.bool false))) :: F) H) :=
  OS.plain rfl rfl hN fun act w U γ _ hf => by
    have hr := ev_RA hf hx
    generalize hv : act.eval x = v at hr
    cases hr with
    | @nn _ c _ a h =>
      refine ⟨.bool false, ?_, .d (.raw _)⟩
      obtain ⟨hu, _⟩ := slB_info ht
      unfold execOp
      simp only [hv, raw_eval hf hy]
      refine run_v ?_
      have h1 : (Op.equal xt (.slice (some a) n c) (.slice none 0 0)).run P w = .ok false w := run_equal_slice_nil w xt e (some a) n c hu
      simp [eqGuard, binOp, h1]
/-- An element of an array's value. -/
theorem OS.indexAgg {t : TypeId} {x ix : Operand} {m s : Nat} {b : Bool} {y z : AV} {cs : List AV} {kk : IntKind} {j : Int} (ht : arrB P t = some (m, s, b)) (hx : ev F x = some y) (hc : cellsA y = some cs) (hj : ev F ix = some (.d (.raw (.int kk j)))) (hz : sub cs (j.toNat * s) s b = some z) (hb : (b || Nat.beq s 1) = true) (hN : Nat.blt d N = true) (h0 : 0 ≤ j) (h1 : j < m) :
    OS P ops Q ⟨some d, .index t x ix, ty, pos, after, none⟩ (SR k N F H) (SR k N ((d, z) :: F) H) :=
  OS.plain rfl rfl hN fun act w U γ _ hf => by
    obtain ⟨vs, g1, g2⟩ := cellsA_RA hc (ev_RA hf hx)
    have h2 := raw_eval hf hj
    obtain ⟨u, g3, g4⟩ := sub_RA g2 hz
    obtain ⟨e, h3, h4⟩ := arrB_info ht
    refine ⟨u, ?_, g4⟩
    unfold execOp
    simp only [g1, h2]
    refine run_v ?_
    unfold Instr.index
    simp only [asIntOf, Sem.run_bind, Sem.run_pure, Result.andThen_ok, run_underlying h3, run_szOf h4]
    rw [if_pos ⟨h0, by omega⟩]
    simp only [Sem.run_bind, run_szOf h4, Result.andThen_ok]
    exact run_part h4 _ _ g3
/-- '[]byte(b)' of a row of the call's own: it is data from now on. -/
def u8S (P : Program) (t : TypeId) : Bool := match P.underlying t with
  | some (.slice e) => match P.underlying e with
    | some (.int .u8) => true
    | _ => false
  | _ => false
theorem OS.toBytes {t : TypeId} {x : Operand} {i e sz n : Nat} {cs : List DV} {b : Bool} {H' : List (Nat × Ent)} (ht : u8S P t = true) (hx : ev F x = some (.own i)) (hc : clo H (.own i) = some (H', .sl n cs)) (hi : lk H i = some (.row e sz n cs b)) (hpos : Nat.blt 0 n = true) (hN : Nat.blt d N = true) :
    OS P ops Q ⟨some d, .convert t t x, ty, pos, after, none⟩ (SR k N F H) (SR k N ((d, .d (.sl n cs)) :: F) ((i, .dead) :: H')) :=
  OS.of_value rfl fun act w hs' => by
    obtain ⟨U, γ, hm, hf⟩ := hs'
    have hr := ev_RA hf hx
    obtain ⟨U1, g1, g2, g3⟩ := clo_RD hc hm hr
    generalize hv : act.eval x = v at hr g3
    have hlive : Live H' i := by
      simp only [clo, hi] at hc
      simp only [Option.some.injEq, Prod.mk.injEq] at hc
      obtain ⟨rfl, _⟩ := hc
      cases b
      · exact ⟨_, lk_self _ _ _, by simp⟩
      · exact ⟨_, hi, by simp⟩
    cases hr with
    | own hγ =>
      have hγ1 := g2.num _ _ hγ
      have hlt : ∀ q, blkOf v = some q → q < w.heap.size := fun q hq => g1.lt hlive hγ1 hq
      cases hg : g3 with
      | nil a c => exact absurd hpos (by simp)
      | @sl _ c bb o _ vs hk hm' hrr hcell =>
        have hlt' := hlt bb rfl
        -- the mark changes no cell
        obtain ⟨w', hrun, hag, hcells⟩ : ∃ w', (markStringish ⟨bb, o, none⟩).run P w = .ok () w' ∧ Agree w U1 w' U1 (some bb) ∧ ∀ q, w'.cell? ⟨bb, q, none⟩ = w.cell? ⟨bb, q, none⟩ := by
          unfold markStringish
          simp only [Sem.run_bind]
          cases hsh : w.shape? bb with
          | none =>
            refine ⟨w, by simp [shape, Sem.run, hsh], ⟨rfl, rfl, rfl, Nat.le_refl _, fun _ _ _ => ⟨rfl, rfl⟩⟩, fun _ => rfl⟩
          | some p =>
            obtain ⟨pt, pn⟩ := p
            refine ⟨w.freeze ⟨bb, pn, none⟩ 1, by simp [shape, Sem.run, hsh, freeze], ?_, ?_⟩
            · refine ⟨rfl, rfl, rfl, by simp [World.freeze], fun q _ hne => ⟨?_, rfl⟩⟩
              have : bb ≠ q := fun e => hne (by rw [e])
              show (w.heap.modify bb _)[q]? = _
              rw [Array.getElem?_modify, if_neg this]
            · intro q
              show (match (w.heap.modify bb _)[bb]? with | some (Obj.cells c _ _) => c[q]? | _ => none) = (match w.heap[bb]? with | some (Obj.cells c _ _) => c[q]? | _ => none)
              rw [Array.getElem?_modify, if_pos rfl]
              cases hq : w.heap[bb]? with
              | none => rfl
              | some ob => cases ob <;> rfl
        have hch := g1.change (i := i) hlive hγ1 (.inr rfl) (x := some bb) (e := .dead) hag (fun q hq => g1.wf q (by have := hag.size; omega)) (fun q hq => by
          cases hq
          exact ⟨fun o _ => hcells o, Nat.le_refl _⟩) (fun _ => trivial)
        refine ⟨.slice (some ⟨bb, o, none⟩) n c, w', ?_, U1, γ, hch.1, ((hf.mono g2).mono hch.2).put (ExtA.refl _ _ _) (Nat.le_of_ble_eq_true hN) (.d ((RD.sl hk hm' hrr hcell).mono hch.2.toExt))⟩
        unfold execOp
        refine run_v ?_
        unfold u8S at ht
        split at ht
        · rename_i e' h1
          split at ht
          · rename_i h2
            simp only [hv]
            unfold convert
            simp only [Sem.run_bind, run_underlying h1, Result.andThen_ok, run_underlying h2]
            simp [hrun]
          · cases ht
        · cases ht
end
end Go.Pt
