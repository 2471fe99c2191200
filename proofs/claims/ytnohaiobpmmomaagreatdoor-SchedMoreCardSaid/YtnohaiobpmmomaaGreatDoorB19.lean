/- A part of a logic over data for the given program's language: rules for single operations and walks as functions. -/
import Derived.Test.YtnohaiobpmmomaaGreatDoorB18
set_option linter.unusedVariables false
set_option linter.unusedSimpArgs false
namespace Go.Pt
open Go.RowKit

section
variable {gl : List (Nat × AV)} {P : Program} {F : List (Nat × AV)} {H : List (Nat × Ent)} {ty : TypeId} {pos : String} {after : Array Edge} {d id : Nat} {r : Eff}

def e_conv (P : Program) (F : List (Nat × AV)) (s t : TypeId) (x : Operand) : Option Eff := match ev F x with
  | some (.d (.raw (.int _ i))) => match intB P t with
    | some kk => some ⟨knownB P s, .d (.raw (.int kk (kk.wrap i))), none⟩
    | none => none
  | some y => match cl0 y with
    | some (.sl n cs) => match nums cs with
      | some xs => some ⟨u8B P s t && Nat.beq xs.length n, .d (.raw (.string (strOfNums xs))), none⟩
      | none => none
    | _ => none
  | none => none
theorem e_conv_ok {s t : TypeId} {x : Operand} (h : e_conv P F s t x = some r) : Does gl P ⟨some d, .convert s t x, ty, pos, after, none⟩ d id F H r := by
  intro ops Q k hkg N F' H' hF hH hid hN hob
  unfold e_conv at h
  split at h
  · rename_i h1
    split at h
    · rename_i kk h2
      cases h
      exact OS.cvInt hob h2 (ev_mono hF h1) hN
    · cases h
  · rename_i y _ h1
    split at h
    · rename_i n cs h2
      split at h
      · rename_i xs h3
        cases h
        simp only [Bool.and_eq_true] at hob
        exact OS.toStr hob.1 (ev_mono hF h1) (cl0_clo H' h2) h3 hob.2 hN
      · cases h
    · cases h
  · cases h
def e_mkfn (F : List (Nat × AV)) (f : Fn) (first caps : Array Operand) : Option Eff := match evl F first.toList, evl F caps.toList with
  | some xs, some ys => pl (.fn f xs ys)
  | _, _ => none
theorem e_mkfn_ok {f : Fn} {first caps : Array Operand} (h : e_mkfn F f first caps = some r) : Does gl P ⟨some d, .makeFunc f first caps, ty, pos, after, none⟩ d id F H r := by
  intro ops Q k hkg N F' H' hF hH hid hN hob
  unfold e_mkfn at h
  split at h
  · rename_i xs ys h1 h2
    simp [pl] at h; subst h
    exact OS.makeFunc (evl_mono hF h1) (evl_mono hF h2) hN
  · cases h
def e_slice (P : Program) (F : List (Nat × AV)) (t : TypeId) (x : Operand) (lo hi mx : Option Operand) : Option Eff := match mx, ev F x with
  | none, some y => match slB P t with
    | some (e, s, b, yy) => match cl0 y with
      | some (.sl n cs) => match bnd F lo 0, bnd F hi n with
        | some l, some h => some ⟨decide (0 ≤ l) && (decide (l ≤ h) && decide (h ≤ n)), .d (.sl (h - l).toNat ((cs.drop (l.toNat * s)).take ((h - l).toNat * s))), none⟩
        | _, _ => none
      | _ => none
    | none => match y with
      | .d (.raw (.string st)) => match bnd F lo 0, bnd F hi st.size, lenB P t with
        | some l, some h, some false => some ⟨decide (0 ≤ l) && (decide (l ≤ h) && decide (h ≤ st.size)), .d (.raw (.string (st.extract l.toNat h.toNat))), none⟩
        | _, _, _ => none
      | _ => none
  | _, _ => none
theorem e_slice_ok {t : TypeId} {x : Operand} {lo hi mx : Option Operand} (h : e_slice P F t x lo hi mx = some r) : Does gl P ⟨some d, .slice t x lo hi mx, ty, pos, after, none⟩ d id F H r := by
  intro ops Q k hkg N F' H' hF hH hid hN hob
  unfold e_slice at h
  split at h
  · rename_i y h1
    split at h
    · rename_i e s b yy h2
      split at h
      · rename_i n cs h3
        split at h
        · rename_i l hh h4 h5
          cases h
          simp only [Bool.and_eq_true, decide_eq_true_eq] at hob
          exact OS.slice h2 (ev_mono hF h1) (cl0_clo H' h3) (bnd_mono hF h4) (bnd_mono hF h5) hN hob.1 hob.2.1 hob.2.2
        · cases h
      · cases h
    · split at h
      · rename_i st
        split at h
        · rename_i l hh h4 h5 h6
          cases h
          simp only [Bool.and_eq_true, decide_eq_true_eq] at hob
          exact OS.sliceStr h6 (ev_mono hF h1) (bnd_mono hF h4) (bnd_mono hF h5) hN hob.1 hob.2.1 hob.2.2
        · cases h
      · cases h
  · cases h
def e_snil (P : Program) (F : List (Nat × AV)) (t : TypeId) (lo hi : Option Operand) : Option Eff := match slB P t, bnd F lo 0, bnd F hi (0 : Nat) with
  | some _, some l, some h => match decEq l 0, decEq h 0 with
    | .isTrue _, .isTrue _ => pl (.d (.raw (.slice none 0 0)))
    | _, _ => none
  | _, _, _ => none
def e_slice2 (P : Program) (F : List (Nat × AV)) (t : TypeId) (x : Operand) (lo hi : Option Operand) : Option Eff := match ev F x with
  | some (.d (.raw (.slice none 0 0))) => e_snil P F t lo hi
  | _ => e_slice P F t x lo hi none
theorem e_slice2_ok {t : TypeId} {x : Operand} {lo hi : Option Operand} (h : e_slice2 P F t x lo hi = some r) : Does gl P ⟨some d, .slice t x lo hi none, ty, pos, after, none⟩ d id F H r := by
  unfold e_slice2 at h
  split at h
  · rename_i h1
    intro ops Q k hkg N F' H' hF hH hid hN hob
    unfold e_snil at h
    split at h
    · rename_i q l hh h2 h3 h4
      obtain ⟨e, s, b, yy⟩ := q
      split at h
      · rename_i e1 e2 _ _
        subst e1
        subst e2
        simp [pl] at h; subst h
        exact OS.sliceNil h2 (ev_mono hF h1) (bnd_mono hF h3) (bnd_mono hF h4) hN
      · cases h
    · cases h
  · exact e_slice_ok h
def e_cap (P : Program) (F : List (Nat × AV)) (t : TypeId) (x : Operand) : Option Eff := match slB P t, ev F x with
  | some _, some (.d (.raw (.slice none 0 0))) => pl (.d (.raw (.int .i64 0)))
  | _, _ => none
theorem e_cap_ok {t : TypeId} {x : Operand} (h : e_cap P F t x = some r) : Does gl P ⟨some d, .call ⟨.builtin .cap, #[x], #[t]⟩, ty, pos, after, none⟩ d id F H r := by
  intro ops Q k hkg N F' H' hF hH hid hN hob
  unfold e_cap at h
  split at h
  · rename_i q h1 h2
    obtain ⟨e, s, b, yy⟩ := q
    simp [pl] at h; subst h
    exact OS.capNil h1 (ev_mono hF h2) hN
  · cases h
def e_full (P : Program) (F : List (Nat × AV)) (t : TypeId) (x hi mx : Operand) : Option Eff := match ev F x, slB P t with
  | some y, some (e, s, b, yy) => match cl0 y with
    | some (.sl n cs) => match bnd F (some hi) n, bnd F (some mx) n with
      | some h, some h' => match decEq h h' with
        | .isTrue _ => some ⟨decide (0 ≤ h) && decide (h ≤ n), .full h.toNat (cs.take (h.toNat * s)), none⟩
        | .isFalse _ => none
      | _, _ => none
    | _ => none
  | _, _ => none
theorem e_full_ok {t : TypeId} {x hi mx : Operand} (h : e_full P F t x hi mx = some r) : Does gl P ⟨some d, .slice t x none (some hi) (some mx), ty, pos, after, none⟩ d id F H r := by
  intro ops Q k hkg N F' H' hF hH hid hN hob
  unfold e_full at h
  split at h
  · rename_i y e s b yy h1 h2
    split at h
    · rename_i n cs h3
      split at h
      · rename_i q q' h4 h5
        split at h
        · rename_i he _
          subst he
          cases h
          simp only [Bool.and_eq_true, decide_eq_true_eq] at hob
          exact OS.sliceFull h2 (ev_mono hF h1) (cl0_clo H' h3) (bnd_mono hF h4) (bnd_mono hF h5) hN hob.1 hob.2
        · cases h
      · cases h
    · cases h
  · cases h
def e_fadr (P : Program) (F : List (Nat × AV)) (t : TypeId) (x : Operand) (f : Nat) : Option Eff := match fldB P t f, ev F x with
  | some (fo, n, b), some (.ptr i off) => some ⟨Nat.blt 0 n, .ptr i (off + fo), none⟩
  | some (fo, n, b), some (.ep cs) => some ⟨Nat.blt 0 n, .ep (cs.drop fo), none⟩
  | some (fo, n, b), some (.rp i off) => some ⟨Nat.blt 0 n, .rp i (off + fo), none⟩
  | _, _ => none
theorem e_fadr_ok {t : TypeId} {x : Operand} {f : Nat} (h : e_fadr P F t x f = some r) : Does gl P ⟨some d, .fieldAddr t x f, ty, pos, after, none⟩ d id F H r := by
  intro ops Q k hkg N F' H' hF hH hid hN hob
  unfold e_fadr at h
  split at h
  · rename_i h1 h2; cases h; exact OS.fieldPtr h1 hob (ev_mono hF h2) hN
  · rename_i h1 h2; cases h; exact OS.fieldEp h1 hob (ev_mono hF h2) hN
  · rename_i h1 h2; cases h; exact OS.fieldRow h1 hob (ev_mono hF h2) hN
  · cases h
def e_field (P : Program) (F : List (Nat × AV)) (t : TypeId) (x : Operand) (f : Nat) : Option Eff := match fldB P t f, ev F x with
  | some (off, n, b), some y => match cellsA y with
    | some cs => (sub cs off n b).bind pl
    | none => none
  | _, _ => none
theorem e_field_ok {t : TypeId} {x : Operand} {f : Nat} (h : e_field P F t x f = some r) : Does gl P ⟨some d, .field t x f, ty, pos, after, none⟩ d id F H r := by
  intro ops Q k hkg N F' H' hF hH hid hN hob
  unfold e_field at h
  split at h
  · rename_i off n b y h1 h2
    split at h
    · rename_i cs h3
      cases h4 : sub cs off n b with
      | none => simp [h4] at h
      | some z => simp [h4, pl] at h; subst h; exact OS.field h1 (ev_mono hF h2) h3 h4 hN
    · cases h
  · cases h
def e_iadr (P : Program) (F : List (Nat × AV)) (H : List (Nat × Ent)) (t : TypeId) (x ix : Operand) : Option Eff := match ev F ix with
  | some (.d (.raw (.int _ j))) => match ev F x with
    | some (.ptr i off) => match arrB P t with
      | some (m, s, b) => some ⟨decide (0 ≤ j) && decide (j < m), .ptr i (off + j.toNat * s), none⟩
      | none => none
    | some (.d (.sl n cs)) => match slB P t with
      | some (e, s, b, y) => some ⟨decide (0 ≤ j) && decide (j < n), .ep ((cs.drop (j.toNat * s)).take s), none⟩
      | none => none
    | some (.ep cs) => match arrB P t with
      | some (m, s, b) => some ⟨decide (0 ≤ j) && decide (j < m), .ep (cs.drop (j.toNat * s)), none⟩
      | none => none
    | some (.own i) => match slB P t, lk H i with
      | some (e, s, b, y), some (.row e' s' n cs b') => match decEq s s' with
        | .isTrue _ => some ⟨decide (0 ≤ j) && decide (j < n), .rp i (j.toNat * s), none⟩
        | .isFalse _ => none
      | _, _ => none
    | _ => none
  | _ => none
theorem e_iadr_ok {t : TypeId} {x ix : Operand} (h : e_iadr P F H t x ix = some r) : Does gl P ⟨some d, .indexAddr t x ix, ty, pos, after, none⟩ d id F H r := by
  intro ops Q k hkg N F' H' hF hH hid hN hob
  unfold e_iadr at h
  split at h
  · rename_i kk j h0
    split at h
    · rename_i i off h1
      split at h
      · rename_i m s b h2
        cases h
        simp only [Bool.and_eq_true, decide_eq_true_eq] at hob
        exact OS.indexPtr h2 (ev_mono hF h1) (ev_mono hF h0) hN hob.1 hob.2
      · cases h
    · rename_i n cs h1
      split at h
      · rename_i e s b y h2
        cases h
        simp only [Bool.and_eq_true, decide_eq_true_eq] at hob
        exact OS.indexSl h2 (ev_mono hF h1) (ev_mono hF h0) hN hob.1 hob.2 rfl
      · cases h
    · rename_i cs h1
      split at h
      · rename_i m s b h2
        cases h
        simp only [Bool.and_eq_true, decide_eq_true_eq] at hob
        exact OS.indexEp h2 (ev_mono hF h1) (ev_mono hF h0) hN hob.1 hob.2
      · cases h
    · rename_i i h1
      split at h
      · rename_i e s b y e' s' n cs b' h2 h3
        split at h
        · rename_i he _
          subst he
          cases h
          simp only [Bool.and_eq_true, decide_eq_true_eq] at hob
          exact OS.indexRow h2 (ev_mono hF h1) (hH _ _ h3) (ev_mono hF h0) hN hob.1 hob.2
        · cases h
      · cases h
    · cases h
  · cases h
def e_index (P : Program) (F : List (Nat × AV)) (t : TypeId) (x ix : Operand) : Option Eff := match ev F x, ev F ix with
  | some (.d (.raw (.string s))), some (.d (.raw (.int _ j))) => match lenB P t, s[j.toNat]? with
    | some false, some c => some ⟨decide (0 ≤ j), .d (.raw (.int .u8 c.toNat)), none⟩
    | _, _ => none
  | some y, some (.d (.raw (.int _ j))) => match arrB P t, cellsA y with
    | some (m, s, b), some cs => (sub cs (j.toNat * s) s b).map fun z => ⟨(b || Nat.beq s 1) && (decide (0 ≤ j) && decide (j < m)), z, none⟩
    | _, _ => none
  | _, _ => none
theorem e_index_ok {t : TypeId} {x ix : Operand} (h : e_index P F t x ix = some r) : Does gl P ⟨some d, .index t x ix, ty, pos, after, none⟩ d id F H r := by
  intro ops Q k hkg N F' H' hF hH hid hN hob
  unfold e_index at h
  split at h
  · rename_i s kk j h1 h2
    split at h
    · rename_i c h3 h4
      cases h
      exact OS.indexStr h3 (ev_mono hF h1) (ev_mono hF h2) hN (by simpa using hob) h4
    · cases h
  · rename_i y kk j _ h1 h2
    split at h
    · rename_i m s b cs h3 h4
      rw [Option.map_eq_some_iff] at h
      obtain ⟨z, h5, rfl⟩ := h
      simp only [Bool.and_eq_true, decide_eq_true_eq] at hob
      exact OS.indexAgg h3 (ev_mono hF h1) h4 (ev_mono hF h2) h5 hob.1 hN hob.2.1 hob.2.2
    · cases h
  · cases h
def e_extr (F : List (Nat × AV)) (x : Operand) (i : Nat) : Option Eff := match ev F x with
  | some y => (part? y i).bind pl
  | none => none
theorem e_extr_ok {x : Operand} {i : Nat} (h : e_extr F x i = some r) : Does gl P ⟨some d, .extract x i, ty, pos, after, none⟩ d id F H r := by
  intro ops Q k hkg N F' H' hF hH hid hN hob
  unfold e_extr at h
  split at h
  · rename_i y h1
    cases h2 : part? y i with
    | none => simp [h2] at h
    | some z => simp [h2, pl] at h; subst h; exact OS.extract (ev_mono hF h1) h2 hN
  · cases h
def e_len (P : Program) (F : List (Nat × AV)) (H : List (Nat × Ent)) (t : TypeId) (x : Operand) : Option Eff := match lenB P t, ev F x with
  | some true, some y => match isStr y with
    | false => (lenA H y).bind fun n => pl (.d (.raw (.int .i64 n)))
    | true => none
  | some false, some (.d (.raw (.string s))) => pl (.d (.raw (.int .i64 s.size)))
  | _, _ => none
theorem e_len_ok {t : TypeId} {x : Operand} (h : e_len P F H t x = some r) : Does gl P ⟨some d, .call ⟨.builtin .len, #[x], #[t]⟩, ty, pos, after, none⟩ d id F H r := by
  intro ops Q k hkg N F' H' hF hH hid hN hob
  unfold e_len at h
  split at h
  · rename_i y h1 h2
    split at h
    · rename_i h3
      cases h4 : lenA H y with
      | none => simp [h4] at h
      | some n => simp [h4, pl] at h; subst h; exact OS.lenSl h1 (ev_mono hF h2) (lenA_mono hH h4) h3 hN
    · cases h
  · rename_i s h1 h2
    simp [pl] at h; subst h
    exact OS.lenStr h1 (ev_mono hF h2) hN
  · cases h
def e_max (F : List (Nat × AV)) (x y : Operand) : Option Eff := match ev F x, ev F y with
  | some (.d (.raw (.int .i64 a))), some (.d (.raw (.int .i64 b))) => pl (.d (.raw (.int .i64 (Max.max a b))))
  | _, _ => none
theorem e_max_ok {x y : Operand} {t1 t2 : TypeId} (h : e_max F x y = some r) : Does gl P ⟨some d, .call ⟨.builtin .max, #[x, y], #[t1, t2]⟩, ty, pos, after, none⟩ d id F H r := by
  intro ops Q k hkg N F' H' hF hH hid hN hob
  unfold e_max at h
  split at h
  · rename_i a b h1 h2; simp [pl] at h; subst h; exact OS.max (ev_mono hF h1) (ev_mono hF h2) hN
  · cases h
def e_min (F : List (Nat × AV)) (x y : Operand) : Option Eff := match ev F x, ev F y with
  | some (.d (.raw (.int .i64 a))), some (.d (.raw (.int .i64 b))) => pl (.d (.raw (.int .i64 (Min.min a b))))
  | _, _ => none
theorem e_min_ok {x y : Operand} {t1 t2 : TypeId} (h : e_min F x y = some r) : Does gl P ⟨some d, .call ⟨.builtin .min, #[x, y], #[t1, t2]⟩, ty, pos, after, none⟩ d id F H r := by
  intro ops Q k hkg N F' H' hF hH hid hN hob
  unfold e_min at h
  split at h
  · rename_i a b h1 h2; simp [pl] at h; subst h; exact OS.min (ev_mono hF h1) (ev_mono hF h2) hN
  · cases h

/-! ### Calls -/
/-- A function with a body. -/
def fnB (P : Program) (f : FuncId) : Bool := match P.funcs[f]? with
  | some fn => fn.body.isSome && fn.name != "runtime.NumGoroutine"
  | none => false
theorem run_callFunc {f : FuncId} (h : fnB P f = true) (args : Array Value) (w : World) : (callFunc f args).run P w = .ok (.enter f args) w := by
  unfold fnB at h
  split at h
  · rename_i fn hf
    simp only [Bool.and_eq_true, bne_iff_ne, ne_eq] at h
    obtain ⟨c, hc⟩ := Option.isSome_iff_exists.1 h.1
    unfold callFunc
    simp [hf, hc, h.2]
  · cases h
/-- The function that a value is, with what it holds. -/
def fnOf : AV → Option (FuncId × List AV × List AV)
  | .fn (.func f) xs ys => some (f, xs, ys)
  | .d (.raw (.func (.func f) ⟨[]⟩ ⟨[]⟩)) => some (f, [], [])
  | _ => none
theorem run_callFn {act : Act} {F : List (Nat × AV)} {W : World} {U : Nat → Nat} {γ : Nat → Option Value} {N : Nat} (hf : FR N F W U γ act) {g : Operand} {args : Array Operand} {tys : Array TypeId} {dst : Option Tmp} {f : FuncId} {gv : AV} {xs ys as : List AV} (hg : ev F g = some gv) (hgo : fnOf gv = some (f, xs, ys)) (ha : evl F args.toList = some as) (hb : fnB P f = true) :
    ∃ vs, (execOp act.eval ⟨dst, .call ⟨.value g, args, tys⟩, ty, pos, after, none⟩).run P W = .ok (.enter f (List.toArray vs)) W ∧ RAs W U γ (xs ++ as ++ ys) vs := by
  have h1 := ev_RA hf hg
  have h2 := evl_RA hf ha
  have key : ∀ (us ws : List Value), act.eval g = .func (.func f) us.toArray ws.toArray → RAs W U γ xs us → RAs W U γ ys ws → ∃ vs, (execOp act.eval ⟨dst, .call ⟨.value g, args, tys⟩, ty, pos, after, none⟩).run P W = .ok (.enter f (List.toArray vs)) W ∧ RAs W U γ (xs ++ as ++ ys) vs := fun us ws hv hx hy => by
    refine ⟨us ++ args.toList.map act.eval ++ ws, ?_, (hx.append h2).append hy⟩
    unfold execOp
    simp only [resolve, hv, Deferred.ofValue, Sem.run_bind, Sem.run_pure, Result.andThen_ok, invoke]
    rw [run_callFunc hb]
    congr 2
    apply Array.ext'
    simp
  generalize hv : act.eval g = v at h1
  cases h1 with
  | @fn ff xs' ys' us ws hx hy =>
    cases ff <;> simp [fnOf] at hgo
    obtain ⟨rfl, rfl, rfl⟩ := hgo
    exact key us ws hv hx hy
  | @d x _ hd =>
    unfold fnOf at hgo
    split at hgo
    · rename_i h3; cases h3
    · rename_i ff h3
      cases h3
      cases hd
      simp only [Option.some.injEq, Prod.mk.injEq] at hgo
      obtain ⟨rfl, rfl, rfl⟩ := hgo
      exact key [] [] hv .nil .nil
    · cases hgo
  | _ => simp [fnOf] at hgo
/-- A call of data. -/
def e_call (P : Program) (call : FuncId → List DV → Option RV) (F : List (Nat × AV)) (id : Nat) (g : Operand) (args : Array Operand) : Option Eff := match ev F g, evl F args.toList with
  | some gv, some as => match fnOf gv with
    | some (f, xs, ys) => match cl0s (xs ++ as ++ ys) with
      | some ds => match call f ds with
        | some (.cl x) => some ⟨fnB P f, .d x, none⟩
        | some (.row e sz n cs) => some ⟨fnB P f, .own id, some (.row e sz n cs false)⟩
        | none => none
      | none => none
    | none => none
  | _, _ => none
theorem cl0_RD {W : World} {U : Nat → Nat} {γ : Nat → Option Value} {y : AV} {x : DV} {v : Value} {k : K0} {H : List (Nat × Ent)} (hm : MR k H W U γ) (h : cl0 y = some x) (hr : RA W U γ y v) : ∃ U', MR k H W U' γ ∧ ExtA W U γ W U' γ ∧ RD W U' x v :=
  clo_RD (cl0_clo H h) hm hr
theorem OS.call {ops : Array Oper} {Q : Exit → Act → World → Prop} {k : K0} {N : Nat} {g : Operand} {args : Array Operand} {tys : Array TypeId} {f : FuncId} {gv : AV} {xs ys as : List AV} {ds : List DV} {rv : RV}
    (hg : ev F g = some gv) (hgo : fnOf gv = some (f, xs, ys)) (ha : evl F args.toList = some as) (hc : cl0s (xs ++ as ++ ys) = some ds) (hcall : FnC k.gl P f ds rv) (hb : fnB P f = true) (hN : Nat.blt d N = true) (hid : lk H id = none) :
    OS P ops Q ⟨some d, .call ⟨.value g, args, tys⟩, ty, pos, after, none⟩ (SR k N F H) (match rv with
      | .cl x => SR k N ((d, .d x) :: F) H
      | .row e sz n cs => SR k N ((d, .own id) :: F) ((id, .row e sz n cs false) :: H)) :=
  OS.of_call rfl fun act w hs => by
    obtain ⟨U, γ, hm, hf⟩ := hs
    obtain ⟨vs, h1, h2⟩ := run_callFn (P := P) (ty := ty) (pos := pos) (after := after) (dst := some d) (tys := tys) hf hg hgo ha hb
    obtain ⟨U1, h3, h4, h5⟩ := clos_RD (cl0s_clos H hc) hm h2
    refine ⟨f, vs.toArray, w, h1, (hcall w U1 vs h3.wf (k.hg _ _ _ h3.anc) h5).mono fun e W' he => ?_⟩
    obtain ⟨v, U', rfl, h6, h7, h8⟩ := he
    obtain ⟨h9, h10⟩ := h3.agree h6 h7
    have hN' : d < N := Nat.le_of_ble_eq_true hN
    refine ⟨v, rfl, ?_⟩
    cases rv with
    | cl x => exact ⟨U', γ, h9, ((hf.mono h4).mono h10).put (ExtA.refl _ _ _) hN' (.d h8)⟩
    | row e sz n cs =>
      obtain ⟨q1, us, q2, q3, q4⟩ := h8
      -- the row is new: it joins the call's own
      have hold : ∀ b, blkOf v = some b → w.heap.size ≤ b := fun b hb => (q4 b hb).1
      have := h3.fresh hid h6 h7 q1 hold (e := .row e sz n cs false) (fun ex => ⟨v, us, upd_self _ _ _, q2, q3, fun b hb => by simpa using (q4 b hb).2⟩)
      exact ⟨U', _, this.1, (hf.mono h4).put this.2 hN' (.own (upd_self _ _ _))⟩
theorem e_call_ok {call : FuncId → List DV → Option RV} (hcall : ∀ f ds rv, call f ds = some rv → FnC gl P f ds rv) {g : Operand} {args : Array Operand} {tys : Array TypeId} (h : e_call P call F id g args = some r) : Does gl P ⟨some d, .call ⟨.value g, args, tys⟩, ty, pos, after, none⟩ d id F H r := by
  intro ops Q k hkg N F' H' hF hH hid hN hob
  unfold e_call at h
  split at h
  · rename_i gv as h1 h2
    split at h
    · rename_i f xs ys h3
      split at h
      · rename_i ds h4
        split at h
        · rename_i x h5
          cases h
          exact OS.call (ev_mono hF h1) h3 (evl_mono hF h2) h4 (by rw [hkg]; exact hcall _ _ _ h5) hob hN hid
        · rename_i e sz n cs h5
          cases h
          exact OS.call (ev_mono hF h1) h3 (evl_mono hF h2) h4 (by rw [hkg]; exact hcall _ _ _ h5) hob hN hid
        · cases h
      · cases h
    · cases h
  · cases h
end

/-- What an operation does that leaves all that was known as it was. -/
def effX (P : Program) (call : FuncId → List DV → Option RV) (F : List (Nat × AV)) (H : List (Nat × Ent)) (id : Nat) : Op → Option Eff
  | .move x => e_move F x
  | .assign x => e_move F x
  | .pick c x y => e_pick F c x y
  | .alloc T => e_alloc P id T
  | .box T x => e_box F id T x
  | .build t parts => e_build P F t parts
  | .buildSlice t len parts => e_bslice P F id t len parts
  | .load t a => e_load P F H t a
  | .nilCheck x => e_nil F x
  | .binOp op xt x y _ => e_bin P F op xt x y
  | .unOp op _ x => e_un F op x
  | .convert s t x => e_conv P F s t x
  | .makeFunc f first caps => e_mkfn F f first caps
  | .slice t x none (some hi) (some mx) => e_full P F t x hi mx
  | .slice t x lo hi none => e_slice2 P F t x lo hi
  | .fieldAddr t x f => e_fadr P F t x f
  | .field t x f => e_field P F t x f
  | .indexAddr t x ix => e_iadr P F H t x ix
  | .index t x ix => e_index P F t x ix
  | .extract x i => e_extr F x i
  | .call ⟨.builtin .len, ⟨[x]⟩, ⟨[t]⟩⟩ => e_len P F H t x
  | .call ⟨.builtin .cap, ⟨[x]⟩, ⟨[t]⟩⟩ => e_cap P F t x
  | .call ⟨.builtin .max, ⟨[x, y]⟩, ⟨[_, _]⟩⟩ => e_max F x y
  | .call ⟨.builtin .min, ⟨[x, y]⟩, ⟨[_, _]⟩⟩ => e_min F x y
  | .call ⟨.value g, args, _⟩ => e_call P call F id g args
  | _ => none
theorem effX_ok {gl : List (Nat × AV)} {P : Program} {call : FuncId → List DV → Option RV} (hcall : ∀ f ds rv, call f ds = some rv → FnC gl P f ds rv) {F : List (Nat × AV)} {H : List (Nat × Ent)} {id d : Nat} {op : Op} {r : Eff} {ty : TypeId} {pos : String} {after : Array Edge} (h : effX P call F H id op = some r) :
    Does gl P ⟨some d, op, ty, pos, after, none⟩ d id F H r := by
  unfold effX at h
  split at h
  · exact e_move_ok h
  · exact e_assign_ok h
  · exact e_pick_ok h
  · exact e_alloc_ok h
  · exact e_box_ok h
  · exact e_build_ok h
  · exact e_bslice_ok h
  · exact e_load_ok h
  · exact e_nil_ok h
  · exact e_bin_ok h
  · exact e_un_ok h
  · exact e_conv_ok h
  · exact e_mkfn_ok h
  · exact e_full_ok h
  · exact e_slice2_ok h
  · exact e_fadr_ok h
  · exact e_field_ok h
  · exact e_iadr_ok h
  · exact e_index_ok h
  · exact e_extr_ok h
  · exact e_len_ok h
  · exact e_cap_ok h
  · exact e_max_ok h
  · exact e_min_ok h
  · exact e_call_ok hcall h
  · cases h
end Go.Pt
