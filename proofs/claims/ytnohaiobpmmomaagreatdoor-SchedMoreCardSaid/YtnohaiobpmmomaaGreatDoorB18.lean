/- A part of a logic over data for the given program's language: rules for single operations and walks as functions. -/
import Derived.Test.YtnohaiobpmmomaaGreatDoorB17
set_option linter.unusedVariables false
set_option linter.unusedSimpArgs false
namespace Go.Pt
open Go.RowKit

/-! ### What looks up still looks up where more is known -/
def LX {α : Type} (F F' : List (Nat × α)) : Prop := ∀ t x, lk F t = some x → lk F' t = some x
theorem LX.refl {α : Type} (F : List (Nat × α)) : LX F F := fun _ _ h => h
section
variable {F F' : List (Nat × AV)}
theorem ev_mono (h : LX F F') {x : Operand} {y : AV} (he : ev F x = some y) : ev F' x = some y := by
  cases x with
  | tmp t =>
    obtain ⟨h1, h2⟩ := lkt_some he
    have := h t y h2
    simp only [ev, lkt, h1, cond_true]
    exact this
  | const v => cases v <;> exact he
  | global g => exact h _ _ he
  | func f => exact he
theorem evs_mono (h : LX F F') : ∀ {l : List (Nat × Operand)} {ys : List (Nat × AV)}, evs F l = some ys → evs F' l = some ys
  | [], ys, he => by simpa [evs] using he
  | (i, x) :: r, ys, he => by
    simp only [evs] at he ⊢
    cases h1 : ev F x with
    | none => simp [h1] at he
    | some y =>
      cases h2 : evs F r with
      | none => simp [h1, h2] at he
      | some zs => rw [ev_mono h h1, evs_mono h h2]; simpa [h1, h2] using he
theorem evl_mono (h : LX F F') : ∀ {l : List Operand} {ys : List AV}, evl F l = some ys → evl F' l = some ys
  | [], ys, he => by simpa [evl] using he
  | x :: r, ys, he => by
    simp only [evl] at he ⊢
    cases h1 : ev F x with
    | none => simp [h1] at he
    | some y =>
      cases h2 : evl F r with
      | none => simp [h1, h2] at he
      | some zs => rw [ev_mono h h1, evl_mono h h2]; simpa [h1, h2] using he
theorem bnd_mono (h : LX F F') {o : Option Operand} {d i : Int} (hb : bnd F o d = some i) : bnd F' o d = some i := by
  cases o with
  | none => exact hb
  | some x =>
    simp only [bnd] at hb ⊢
    split at hb
    · rename_i h1; rw [ev_mono h h1]; exact hb
    · cases hb
theorem lenA_mono {H H' : List (Nat × Ent)} (h : LX H H') {y : AV} {n : Nat} (hl : lenA H y = some n) : lenA H' y = some n := by
  cases y with
  | own i =>
    simp only [lenA] at hl ⊢
    split at hl
    · rename_i h1; rw [h i _ h1]; exact hl
    · cases hl
  | d x =>
    cases x with
    | raw v =>
      cases v with
      | slice a n m => cases a <;> cases n <;> cases m <;> exact hl
      | _ => exact hl
    | _ => exact hl
  | _ => simp [lenA] at hl
end

/-! ### Data that needs no sealing -/
mutual
def cl0 : AV → Option DV
  | .d x => some (nrm x)
  | .full n cs => some (.sl n cs)
  | .nn n cs => some (.sl n cs)
  | .agg cs => (cl0s cs).map .agg
  | .tup cs => (cl0s cs).map .tup
  | _ => none
def cl0s : List AV → Option (List DV)
  | [] => some []
  | x :: r => match cl0 x, cl0s r with
    | some y, some ys => some (y :: ys)
    | _, _ => none
end
mutual
theorem cl0_clo (H : List (Nat × Ent)) : ∀ {y : AV} {x : DV}, cl0 y = some x → clo H y = some (H, x)
  | .d x, x', h => by simp only [cl0, Option.some.injEq] at h; subst h; rfl
  | .full n cs, x', h => by simp only [cl0, Option.some.injEq] at h; subst h; rfl
  | .nn n cs, x', h => by simp only [cl0, Option.some.injEq] at h; subst h; rfl
  | .agg cs, x', h => by
    simp only [cl0, Option.map_eq_some_iff] at h
    obtain ⟨ys, h1, rfl⟩ := h
    simp only [clo, cl0s_clos H h1]
  | .tup cs, x', h => by
    simp only [cl0, Option.map_eq_some_iff] at h
    obtain ⟨ys, h1, rfl⟩ := h
    simp only [clo, cl0s_clos H h1]
  | .own _, _, h => by simp [cl0] at h
  | .ptr _ _, _, h => by simp [cl0] at h
  | .rp _ _, _, h => by simp [cl0] at h
  | .ep _, _, h => by simp [cl0] at h
  | .fn _ _ _, _, h => by simp [cl0] at h
theorem cl0s_clos (H : List (Nat × Ent)) : ∀ {ys : List AV} {xs : List DV}, cl0s ys = some xs → clos H ys = some (H, xs)
  | [], xs, h => by simp only [cl0s, Option.some.injEq] at h; subst h; rfl
  | y :: r, xs, h => by
    simp only [cl0s] at h
    split at h
    · rename_i a b h1 h2
      cases h
      simp only [clos, cl0_clo H h1, cl0s_clos H h2]
    · cases h
end

/-! ### Effects: one new slot, at most one new entry -/
structure Eff where
  ob : Bool
  y : AV
  e : Option Ent
def Eff.D (r : Eff) (d : Nat) : List (Nat × AV) := [(d, r.y)]
def Eff.E (r : Eff) (id : Nat) : List (Nat × Ent) := match r.e with
  | none => []
  | some e => [(id, e)]
def pl (y : AV) : Option Eff := some ⟨true, y, none⟩

/-- The operation o (its guard struck) does r, wherever as much is known. -/
def Does (gl : List (Nat × AV)) (P : Program) (o : Oper) (d id : Nat) (F : List (Nat × AV)) (H : List (Nat × Ent)) (r : Eff) : Prop :=
  ∀ (ops : Array Oper) (Q : Exit → Act → World → Prop) (k : K0), k.gl = gl → ∀ (N : Nat) (F' : List (Nat × AV)) (H' : List (Nat × Ent)), LX F F' → LX H H' → lk H' id = none → Nat.blt d N = true → r.ob = true →
    OS P ops Q o (SR k N F' H') (SR k N (r.D d ++ F') (r.E id ++ H'))

section
variable {gl : List (Nat × AV)} {P : Program} {F : List (Nat × AV)} {H : List (Nat × Ent)} {ty : TypeId} {pos : String} {after : Array Edge} {d id : Nat} {r : Eff}

def e_move (F : List (Nat × AV)) (x : Operand) : Option Eff := (ev F x).bind pl
theorem e_move_ok {x : Operand} (h : e_move F x = some r) : Does gl P ⟨some d, .move x, ty, pos, after, none⟩ d id F H r := by
  intro ops Q k hkg N F' H' hF hH hid hN _
  unfold e_move at h
  cases h1 : ev F x with
  | none => simp [h1] at h
  | some y => simp [h1, pl] at h; subst h; exact OS.move (ev_mono hF h1) hN
theorem e_assign_ok {x : Operand} (h : e_move F x = some r) : Does gl P ⟨some d, .assign x, ty, pos, after, none⟩ d id F H r := by
  intro ops Q k hkg N F' H' hF hH hid hN _
  unfold e_move at h
  cases h1 : ev F x with
  | none => simp [h1] at h
  | some y => simp [h1, pl] at h; subst h; exact OS.assign (ev_mono hF h1) hN
def e_pick (F : List (Nat × AV)) (c x y : Operand) : Option Eff := match ev F c with
  | some (.d (.raw (.bool b))) => (ev F (bif b then x else y)).bind pl
  | _ => none
theorem e_pick_ok {c x y : Operand} (h : e_pick F c x y = some r) : Does gl P ⟨some d, .pick c x y, ty, pos, after, none⟩ d id F H r := by
  intro ops Q k hkg N F' H' hF hH hid hN _
  unfold e_pick at h
  split at h
  · rename_i b h0
    cases h1 : ev F (bif b then x else y) with
    | none => simp [h1] at h
    | some z => simp [h1, pl] at h; subst h; exact OS.pick (ev_mono hF h0) (ev_mono hF h1) hN
  · cases h
def e_alloc (P : Program) (id : Nat) (T : TypeId) : Option Eff := (zeroB P T).map fun z => ⟨true, .ptr id 0, some (.box T (rawsA z.cells.toList))⟩
theorem e_alloc_ok {T : TypeId} (h : e_alloc P id T = some r) : Does gl P ⟨some d, .alloc T, ty, pos, after, none⟩ d id F H r := by
  intro ops Q k hkg N F' H' hF hH hid hN _
  unfold e_alloc at h
  rw [Option.map_eq_some_iff] at h
  obtain ⟨z, h1, rfl⟩ := h
  exact OS.alloc h1 hid hN
def e_box (F : List (Nat × AV)) (id : Nat) (T : TypeId) (x : Operand) : Option Eff := match ev F x with
  | some y => (cells1 y).map fun cs => ⟨true, .ptr id 0, some (.box T cs)⟩
  | none => none
theorem e_box_ok {T : TypeId} {x : Operand} (h : e_box F id T x = some r) : Does gl P ⟨some d, .box T x, ty, pos, after, none⟩ d id F H r := by
  intro ops Q k hkg N F' H' hF hH hid hN _
  unfold e_box at h
  split at h
  · rename_i y h0
    rw [Option.map_eq_some_iff] at h
    obtain ⟨cs, h1, rfl⟩ := h
    exact OS.box (ev_mono hF h0) h1 hid hN
  · cases h
def e_build (P : Program) (F : List (Nat × AV)) (t : TypeId) (parts : Array (Nat × Operand)) : Option Eff := match bldB P t, evs F parts.toList with
  | some (b, s, l, z), some ps => (fillA (plc b s l) (rawsA z.cells.toList) ps).bind fun cs => pl (.agg cs)
  | _, _ => none
theorem e_build_ok {t : TypeId} {parts : Array (Nat × Operand)} (h : e_build P F t parts = some r) : Does gl P ⟨some d, .build t parts, ty, pos, after, none⟩ d id F H r := by
  intro ops Q k hkg N F' H' hF hH hid hN _
  unfold e_build at h
  split at h
  · rename_i b s l z ps h0 h1
    cases h2 : fillA (plc b s l) (rawsA z.cells.toList) ps with
    | none => simp [h2] at h
    | some cs => simp [h2, pl] at h; subst h; exact OS.build h0 (evs_mono hF h1) h2 hN
  · cases h
def e_bslice (P : Program) (F : List (Nat × AV)) (id : Nat) (t : TypeId) (len : Nat) (parts : Array (Nat × Operand)) : Option Eff := match slB P t, evs F parts.toList with
  | some (e, s, b, y), some ps => match zeroB P e, dense s 0 ps with
    | some z, some cs => match cl0s cs with
      | some ds => some ⟨Nat.beq cs.length (len * s) && (Nat.ble (len * s) 16777216 && Nat.ble len 16777216), .own id, some (.row e s len ds false)⟩
      | none => none
    | _, _ => none
  | _, _ => none
theorem e_bslice_ok {t : TypeId} {len : Nat} {parts : Array (Nat × Operand)} (h : e_bslice P F id t len parts = some r) : Does gl P ⟨some d, .buildSlice t len parts, ty, pos, after, none⟩ d id F H r := by
  intro ops Q k hkg N F' H' hF hH hid hN hob
  unfold e_bslice at h
  split at h
  · rename_i e s b y ps h0 h1
    split at h
    · rename_i z cs h2 h3
      split at h
      · rename_i ds h4
        cases h
        simp only [Bool.and_eq_true] at hob
        exact OS.buildSlice h0 h2 (evs_mono hF h1) h3 (cl0s_clos H' h4) hob.1 hob.2.1 hob.2.2 hid hN
      · cases h
    · cases h
  · cases h
/-- Loads. -/
def e_load (P : Program) (F : List (Nat × AV)) (H : List (Nat × Ent)) (t : TypeId) (a : Operand) : Option Eff := match szB P t with
  | some (n, b) => match ev F a with
    | some (.ptr i off) => match lk H i with
      | some (.box T cs) => (sub cs off n b).map fun z => ⟨(b || Nat.beq n 1) && Nat.ble (off + n) cs.length, z, none⟩
      | _ => none
    | some (.ep es) => (subD es n b).map fun z => ⟨(b || Nat.beq n 1) && Nat.ble n es.length, .d z, none⟩
    | some (.rp i off) => match lk H i with
      | some (.row e sz m cs s) => (subD (cs.drop off) n b).map fun z => ⟨(b || Nat.beq n 1) && Nat.ble (off + n) cs.length, .d z, none⟩
      | _ => none
    | _ => none
  | none => none
theorem e_load_ok {t : TypeId} {a : Operand} (h : e_load P F H t a = some r) : Does gl P ⟨some d, .load t a, ty, pos, after, none⟩ d id F H r := by
  intro ops Q k hkg N F' H' hF hH hid hN hob
  unfold e_load at h
  split at h
  · rename_i n b h0
    split at h
    · rename_i i off h1
      split at h
      · rename_i T cs h2
        rw [Option.map_eq_some_iff] at h
        obtain ⟨z, h3, rfl⟩ := h
        simp only [Bool.and_eq_true] at hob
        exact OS.loadPtr h0 (ev_mono hF h1) (hH _ _ h2) h3 hob.1 hob.2 hN
      · cases h
    · rename_i es h1
      rw [Option.map_eq_some_iff] at h
      obtain ⟨z, h3, rfl⟩ := h
      simp only [Bool.and_eq_true] at hob
      exact OS.loadEp h0 (ev_mono hF h1) h3 hob.1 hob.2 hN
    · rename_i i off h1
      split at h
      · rename_i e sz m cs s h2
        rw [Option.map_eq_some_iff] at h
        obtain ⟨z, h3, rfl⟩ := h
        simp only [Bool.and_eq_true] at hob
        exact OS.loadRow h0 (ev_mono hF h1) (hH _ _ h2) h3 hob.1 hob.2 hN
      · cases h
    · cases h
  · cases h
def e_nil (F : List (Nat × AV)) (x : Operand) : Option Eff := match ev F x with
  | some (.ptr i off) => pl (.ptr i off)
  | _ => none
theorem e_nil_ok {x : Operand} (h : e_nil F x = some r) : Does gl P ⟨some d, .nilCheck x, ty, pos, after, none⟩ d id F H r := by
  intro ops Q k hkg N F' H' hF hH hid hN hob
  unfold e_nil at h
  split at h
  · rename_i i off h1; simp [pl] at h; subst h; exact OS.nilCheck (ev_mono hF h1) hN
  · cases h
def in64 (n : Int) : Bool := decide (-9223372036854775808 ≤ n) && decide (n ≤ 9223372036854775807)
theorem in64_iff {n : Int} (h : in64 n = true) : -9223372036854775808 ≤ n ∧ n ≤ 9223372036854775807 := by
  simpa [in64] using h
/-- Two operands. -/
def e_bin (P : Program) (F : List (Nat × AV)) (op : BinOp) (xt : TypeId) (x y : Operand) : Option Eff := match ev F x, ev F y with
  | some (.d (.raw (.int k1 a))), some (.d (.raw (.int k2 b))) => match shI op k1 a b with
    | some n => some ⟨decide (0 ≤ b), .d (.raw (.int k1 n)), none⟩
    | none => match decEq k1 k2 with
      | .isTrue _ => match k1, arI op a b with
        | .i64, some n => some ⟨in64 n, .d (.raw (.int .i64 n)), none⟩
        | _, _ => match dvG op k1 a b with
          | some n => some ⟨!(decide (b = 0)), .d (.raw (.int k1 n)), none⟩
          | none => match btI op k1 a b with
            | some n => pl (.d (.raw (.int k1 n)))
            | none => (binI op k1 a b).bind fun v => pl (.d (.raw v))
      | .isFalse _ => none
  | some (.d (.raw (.bool a))), some (.d (.raw (.bool b))) => match op, P.underlying xt with
    | .eql, some .bool => pl (.d (.raw (.bool (a == b))))
    | _, _ => none
  | some (.d (.raw (.string a))), some (.d (.raw (.string b))) => match op with
    | .add => some ⟨decide (a.size + b.size ≤ 9223372036854775807), .d (.raw (.string (a ++ b))), none⟩
    | _ => (binS op a b).bind fun v => pl (.d (.raw v))
  | some (.nn _ _), some (.d (.raw (.slice none 0 0))) => match op, slB P xt with
    | .eql, some _ => pl (.d (.raw (.bool false)))
    | _, _ => none
  | some (.d (.raw (.slice a n c))), some (.d (.raw (.slice none 0 0))) => match op, slB P xt with
    | .eql, some _ => pl (.d (.raw (.bool a.isNone)))
    | _, _ => none
  | some xv, some yv => match eqB P xt, cellsA xv, cellsA yv with
    | some fs, some xs, some ys => match eqFs P xs ys fs with
      | some r => match aggOp op r with
        | some q => pl (.d (.raw (.bool q)))
        | none => none
      | none => none
    | _, _, _ => none
  | _, _ => none
theorem e_bin_ok {op : BinOp} {xt yt : TypeId} {x y : Operand} (h : e_bin P F op xt x y = some r) : Does gl P ⟨some d, .binOp op xt x y yt, ty, pos, after, none⟩ d id F H r := by
  intro ops Q k hkg N F' H' hF hH hid hN hob
  have viaBin : ∀ {kk : IntKind} {a b : Int}, ev F x = some (.d (.raw (.int kk a))) → ev F y = some (.d (.raw (.int kk b))) → (binI op kk a b).bind (fun v => pl (.d (.raw v))) = some r → OS P ops Q ⟨some d, .binOp op xt x y yt, ty, pos, after, none⟩ (SR k N F' H') (SR k N (r.D d ++ F') (r.E id ++ H')) := fun {kk a b} h1 h2 h3 => by
    cases h4 : binI op kk a b with
    | none => simp [h4] at h3
    | some v => simp [h4, pl] at h3; subst h3; exact OS.bin (ev_mono hF h1) (ev_mono hF h2) h4 hN
  unfold e_bin at h
  split at h
  · rename_i k1 a k2 b h1 h2
    split at h
    · rename_i n h3
      cases h
      exact OS.shift (ev_mono hF h1) (ev_mono hF h2) h3 hN (by simpa using hob)
    · split at h
      · rename_i he _
        subst he
        split at h
        · cases h
          exact OS.arith (ev_mono hF h1) (ev_mono hF h2) (by assumption) hN (in64_iff hob)
        · split at h
          · rename_i n h3
            cases h
            exact OS.divG (ev_mono hF h1) (ev_mono hF h2) h3 hN (by simpa using hob)
          · split at h
            · rename_i n h3
              simp [pl] at h; subst h
              exact OS.bits (ev_mono hF h1) (ev_mono hF h2) h3 hN
            · exact viaBin h1 h2 h
      · cases h
  · rename_i a b h1 h2
    split at h
    · rename_i h3
      simp [pl] at h; subst h
      exact OS.beq (ev_mono hF h1) (ev_mono hF h2) hN h3
    · cases h
  · rename_i a b h1 h2
    split at h
    · cases h
      exact OS.cat (ev_mono hF h1) (ev_mono hF h2) hN (by simpa using hob)
    · cases h4 : binS op a b with
      | none => simp [h4] at h
      | some v => simp [h4, pl] at h; subst h; exact OS.str (ev_mono hF h1) (ev_mono hF h2) h4 hN
  · rename_i n cs h1 h2
    split at h
    · rename_i q h3
      obtain ⟨e, s, b, yy⟩ := q
      simp [pl] at h; subst h
      exact OS.eqNn h3 (ev_mono hF h1) (ev_mono hF h2) hN
    · cases h
  · rename_i a n c h1 h2
    split at h
    · rename_i q h3
      obtain ⟨e, s, b, yy⟩ := q
      simp [pl] at h; subst h
      exact OS.eqNil h3 (ev_mono hF h1) (ev_mono hF h2) hN
    · cases h
  · rename_i xv yv _ _ _ _ _ h1 h2
    split at h
    · rename_i fs xs ys h3 h4 h5
      split at h
      · rename_i q h6
        split at h
        · rename_i q' h7
          simp [pl] at h; subst h
          exact OS.eqAgg h3 (ev_mono hF h1) (ev_mono hF h2) h4 h5 h6 h7 hN
        · cases h
      · cases h
    · cases h
  · cases h
def e_un (F : List (Nat × AV)) (op : UnOp) (x : Operand) : Option Eff := match op, ev F x with
  | .not, some (.d (.raw (.bool a))) => pl (.d (.raw (.bool (!a))))
  | .neg, some (.d (.raw (.int k1 a))) => pl (.d (.raw (.int k1 (k1.wrap (-a)))))
  | _, _ => none
theorem e_un_ok {op : UnOp} {xt : TypeId} {x : Operand} (h : e_un F op x = some r) : Does gl P ⟨some d, .unOp op xt x, ty, pos, after, none⟩ d id F H r := by
  intro ops Q k hkg N F' H' hF hH hid hN hob
  unfold e_un at h
  split at h
  · rename_i a h1; simp [pl] at h; subst h; exact OS.not (ev_mono hF h1) hN
  · rename_i a h1; simp [pl] at h; subst h; exact OS.neg (ev_mono hF h1) hN
  · cases h
end
end Go.Pt
