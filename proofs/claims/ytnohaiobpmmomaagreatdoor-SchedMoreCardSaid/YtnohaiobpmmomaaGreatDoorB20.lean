/- A part of a logic over data for the given program's language: rules for single operations and walks as functions. -/
import Derived.Test.YtnohaiobpmmomaaGreatDoorB19
set_option linter.unusedVariables false
set_option linter.unusedSimpArgs false
namespace Go.Pt
open Go.RowKit

/-- Where a walk stands. -/
structure St where
  F : List (Nat × AV)
  H : List (Nat × Ent)
  nx : Nat
def Fr (H : List (Nat × Ent)) (nx : Nat) : Prop := ∀ i, nx ≤ i → lk H i = none
theorem Fr.cons {H : List (Nat × Ent)} {nx m i : Nat} {e : Ent} (h : Fr H nx) (hm : nx ≤ m) (hi : i < m) : Fr ((i, e) :: H) m := fun j hj => by
  rw [lk_ne (by omega)]; exact h j (by omega)
theorem Fr.mono {H : List (Nat × Ent)} {nx m : Nat} (h : Fr H nx) (hm : nx ≤ m) : Fr H m := fun j hj => h j (by omega)
theorem Eff.E_Fr {r : Eff} {H : List (Nat × Ent)} {nx : Nat} (h : Fr H nx) : Fr (r.E nx ++ H) (nx + 1) := by
  unfold Eff.E
  split
  · simpa using h.mono (Nat.le_succ _)
  · exact h.cons (Nat.le_succ _) (Nat.lt_succ_self _)
/-- Closing leaves the numbers alone. -/
theorem Fr.same {i : Nat} {H : List (Nat × Ent)} {e e' : Ent} {nx : Nat} (hi : lk H i = some e) (h : Fr H nx) : Fr ((i, e') :: H) nx := fun j hj => by
  have : i ≠ j := fun q => by subst q; rw [h i hj] at hi; cases hi
  rw [lk_ne this]; exact h j hj
mutual
theorem clo_Fr : ∀ {y : AV} {H H' : List (Nat × Ent)} {x : DV} {nx : Nat}, clo H y = some (H', x) → Fr H nx → Fr H' nx
  | .d x, H, H', x', nx, h, hf => by simp only [clo, Option.some.injEq, Prod.mk.injEq] at h; obtain ⟨rfl, _⟩ := h; exact hf
  | .nn n cs, H, H', x', nx, h, hf => by simp only [clo, Option.some.injEq, Prod.mk.injEq] at h; obtain ⟨rfl, _⟩ := h; exact hf
  | .full n cs, H, H', x', nx, h, hf => by simp only [clo, Option.some.injEq, Prod.mk.injEq] at h; obtain ⟨rfl, _⟩ := h; exact hf
  | .own i, H, H', x', nx, h, hf => by
    simp only [clo] at h
    split at h
    · rename_i b hi
      simp only [Option.some.injEq, Prod.mk.injEq] at h
      obtain ⟨rfl, _⟩ := h
      cases b
      · exact Fr.same hi hf
      · exact hf
    · cases h
  | .agg cs, H, H', x', nx, h, hf => by
    simp only [clo] at h
    split at h
    · rename_i h1; simp only [Option.some.injEq, Prod.mk.injEq] at h; obtain ⟨rfl, _⟩ := h; exact clos_Fr h1 hf
    · cases h
  | .tup cs, H, H', x', nx, h, hf => by
    simp only [clo] at h
    split at h
    · rename_i h1; simp only [Option.some.injEq, Prod.mk.injEq] at h; obtain ⟨rfl, _⟩ := h; exact clos_Fr h1 hf
    · cases h
  | .ptr _ _, _, _, _, _, h, _ => by simp [clo] at h
  | .rp _ _, _, _, _, _, h, _ => by simp [clo] at h
  | .ep _, _, _, _, _, h, _ => by simp [clo] at h
  | .fn _ _ _, _, _, _, _, h, _ => by simp [clo] at h
theorem clos_Fr : ∀ {ys : List AV} {H H' : List (Nat × Ent)} {xs : List DV} {nx : Nat}, clos H ys = some (H', xs) → Fr H nx → Fr H' nx
  | [], H, H', xs, nx, h, hf => by simp only [clos, Option.some.injEq, Prod.mk.injEq] at h; obtain ⟨rfl, _⟩ := h; exact hf
  | y :: r, H, H', xs, nx, h, hf => by
    simp only [clos] at h
    split at h
    · rename_i h1
      split at h
      · rename_i h2; simp only [Option.some.injEq, Prod.mk.injEq] at h; obtain ⟨rfl, _⟩ := h; exact clos_Fr h2 (clo_Fr h1 hf)
      · cases h
    · cases h
end

/-! ### One operation -/
/-- A whole-memory call, walked in place. -/
abbrev InlX := FuncId → List AV → List (Nat × Ent) → Nat → Option (AV × List (Nat × Ent) × Nat)
def InlOk (gl : List (Nat × AV)) (P : Program) (inl : InlX) : Prop := ∀ f xs H nx r H' nx', inl f xs H nx = some (r, H', nx') → Fr H nx → Inl gl P f xs H r H' ∧ Fr H' nx'
def CallOk (gl : List (Nat × AV)) (P : Program) (call : FuncId → List DV → Option RV) : Prop := ∀ f ds rv, call f ds = some rv → FnC gl P f ds rv

/-! What an operation does to memory that was known: it may seal, grow, change, walk a call in place. -/
def m_store (P : Program) (S : St) (t : TypeId) (x y : Operand) : Option (Bool × Option AV × List (Nat × Ent) × Nat) := match szB P t, ev S.F x, ev S.F y with
  | some (n, b), some (.ptr i off), some yv => match cells1 yv, lk S.H i with
    | some ns, some (.box T cs) => some (onesA ns && (Nat.beq ns.length n && Nat.ble (off + n) cs.length), none, (i, .box T (putA cs off ns)) :: S.H, S.nx)
    | _, _ => none
  | some (n, b), some (.rp i off), some yv => match cells1 yv with
    | some ns => match clos S.H ns with
      | some (H', ds) => match lk H' i with
        | some (.row e sz m cs false) => some (onesA ns && (Nat.beq ns.length n && Nat.ble (off + n) cs.length), none, (i, .row e sz m (putD cs off ds) false) :: H', S.nx)
        | _ => none
      | none => none
    | none => none
  | _, _, _ => none
def m_append (P : Program) (S : St) (s x : Operand) (t t' : TypeId) : Option (Bool × Option AV × List (Nat × Ent) × Nat) := match decEq t t', slB P t, ev S.F s, ev S.F x with
  | .isTrue _, some (e, sz, bb, y), some sv, some xv => match zeroB P e, clo S.H xv with
    | some z, some (H', .sl m ds) => match sv with
      | .own i => match lk H' i with
        | some (.row e' sz' n cs b) => match decEq e e', decEq sz sz' with
          | .isTrue _, .isTrue _ => some (Nat.beq z.cells.size sz && (Nat.blt 0 sz && (onesA (ds.map .d) && (Nat.beq ds.length (m * sz) && (decide (n + m ≤ 9223372036854775807) && decide ((n + m) * y ≤ 140737488355328))))), some (.own S.nx), (S.nx, .row e sz (n + m) (cs ++ ds) b) :: (i, .dead) :: H', S.nx + 1)
          | _, _ => none
        | _ => none
      | .full n cs => some (Nat.beq z.cells.size sz && (Nat.blt 0 sz && (Nat.beq cs.length (n * sz) && (Nat.beq ds.length (m * sz) && (decide (0 < m) && (decide (n + m ≤ 9223372036854775807) && decide ((n + m) * y ≤ 140737488355328)))))), some (.own S.nx), (S.nx, .row e sz (n + m) (cs ++ ds) false) :: H', S.nx + 1)
      | .d v => match nilSl v with
        | true => some (Nat.beq z.cells.size sz && (Nat.blt 0 sz && (onesA (ds.map .d) && (Nat.beq ds.length (m * sz) && (decide (m ≤ 9223372036854775807) && decide (m * y ≤ 140737488355328))))), some (.own (S.nx + 1)), (S.nx + 1, .row e sz m ds false) :: (S.nx, .dead) :: (S.nx, .row e sz 0 [] false) :: H', S.nx + 2)
        | false => none
      | _ => none
    | _, _ => none
  | _, _, _, _ => none
def m_zeros (P : Program) (S : St) (s x : Operand) (t t' : TypeId) : Option (Bool × Option AV × List (Nat × Ent) × Nat) := match slB P t, ev S.F s, ev S.F x with
  | some (e, sz, bb, y), some (.d sv), some (.d (.raw (.int _ (.ofNat n)))) => match nilSl sv, zeroB P e with
    | true, some z => some (Nat.beq z.cells.size sz && (Nat.blt 0 sz && (decide (0 < n) && (decide (n ≤ 9223372036854775807) && decide (n * y ≤ 140737488355328)))), some (.own S.nx), (S.nx, .row e sz n (rawsD (Builtin.zeroCells z.cells n).toList) false) :: S.H, S.nx + 1)
    | _, _ => none
  | _, _, _ => none
def m_mk (P : Program) (S : St) (t : TypeId) (l c : Operand) : Option (Bool × Option AV × List (Nat × Ent) × Nat) := match slB P t, ev S.F l, ev S.F c with
  | some (e, s, b, y), some (.d (.raw (.int _ n))), some (.d (.raw (.int _ m))) => match zeroB P e with
    | some z => some (decide (0 ≤ n) && (decide (n ≤ m) && (decide (y * m ≤ 281474976710656) && decide (m ≤ 9223372036854775807))), some (.own S.nx), (S.nx, .row e s n.toNat (rawsD ((zb z (m.toNat * s)).toList.take (n.toNat * s))) false) :: S.H, S.nx + 1)
    | none => none
  | _, _, _ => none
def m_call (P : Program) (S : St) (inl : InlX) (g : Operand) (args : Array Operand) : Option (Bool × Option AV × List (Nat × Ent) × Nat) := match ev S.F g, evl S.F args.toList with
  | some gv, some as => match fnOf gv with
    | some (f, xs, ys) => match inl f (xs ++ as ++ ys) S.H S.nx with
      | some (r, H', nx') => some (fnB P f, some r, H', nx')
      | none => none
    | none => none
  | _, _ => none
def m_conv (P : Program) (S : St) (s t : TypeId) (x : Operand) : Option (Bool × Option AV × List (Nat × Ent) × Nat) := match ev S.F x with
  | some y => match clo S.H y with
    | some (H', .sl n cs) => match u8B P s t with
      | true => match nums cs with
        | some xs => some (Nat.beq xs.length n, some (.d (.raw (.string (strOfNums xs)))), H', S.nx)
        | none => none
      | false => match decEq s t, y with
        | .isTrue _, .own i => match lk S.H i with
          | some (.row _ _ _ _ _) => some (u8S P s && Nat.blt 0 n, some (.d (.sl n cs)), (i, .dead) :: H', S.nx)
          | _ => none
        | _, _ => none
    | _ => none
  | none => none
def m_sliceA (P : Program) (S : St) (t : TypeId) (x : Operand) (lo hi : Option Operand) : Option (Bool × Option AV × List (Nat × Ent) × Nat) := match ev S.F x, slB P t with
  | some y, some (e, s, b, yy) => match clo S.H y with
    | some (H', .sl n cs) => match bnd S.F lo 0, bnd S.F hi n with
      | some l, some h => some (decide (0 ≤ l) && (decide (l ≤ h) && decide (h ≤ n)), some (.d (.sl (h - l).toNat ((cs.drop (l.toNat * s)).take ((h - l).toNat * s)))), H', S.nx)
      | _, _ => none
    | _ => none
  | _, _ => none
def m_sbox (P : Program) (S : St) (t : TypeId) (i : Nat) (lo hi : Option Operand) : Option (Bool × Option AV × List (Nat × Ent) × Nat) := match arrB P t, lk S.H i with
  | some (m, s, b), some (.box T cs) => match clos S.H cs with
    | some (H', ds) => match bnd S.F lo 0, bnd S.F hi m with
      | some l, some h => some (decide (0 ≤ l) && (decide (l ≤ h) && (decide (h ≤ m) && (decide (m ≤ 9223372036854775807) && Nat.beq cs.length (m * s)))), some (.d (.sl (h - l).toNat ((ds.drop (l.toNat * s)).take ((h - l).toNat * s)))), (i, .dead) :: H', S.nx)
      | _, _ => none
    | none => none
  | _, _ => none
def m_slice (P : Program) (S : St) (t : TypeId) (x : Operand) (lo hi : Option Operand) : Option (Bool × Option AV × List (Nat × Ent) × Nat) := match ev S.F x with
  | some (.ptr i 0) => m_sbox P S t i lo hi
  | _ => m_sliceA P S t x lo hi
def m_slice0 (P : Program) (S : St) (t : TypeId) (x : Operand) (hi : Option Operand) : Option (Bool × Option AV × List (Nat × Ent) × Nat) := match ev S.F x with
  | some (.own i) => match lk S.H i, slB P t with
    | some (.row e' sz n cs false), some _ => match bnd S.F hi n with
      | some h => match decEq h 0 with
        | .isTrue _ => some (true, some (.own S.nx), (S.nx, .row e' sz 0 [] false) :: (i, .dead) :: S.H, S.nx + 1)
        | .isFalse _ => m_slice P S t x none hi
      | none => none
    | _, _ => m_slice P S t x none hi
  | _ => m_slice P S t x none hi
def m_full (P : Program) (S : St) (t : TypeId) (x hi mx : Operand) : Option (Bool × Option AV × List (Nat × Ent) × Nat) := match ev S.F x, slB P t with
  | some y, some (e, s, b, yy) => match clo S.H y with
    | some (H', .sl n cs) => match bnd S.F (some hi) n, bnd S.F (some mx) n with
      | some h, some h' => match decEq h h' with
        | .isTrue _ => some (decide (0 ≤ h) && decide (h ≤ n), some (.full h.toNat (cs.take (h.toNat * s))), H', S.nx)
        | .isFalse _ => none
      | _, _ => none
    | _ => none
  | _, _ => none
def m_bslice (P : Program) (S : St) (t : TypeId) (len : Nat) (parts : Array (Nat × Operand)) : Option (Bool × Option AV × List (Nat × Ent) × Nat) := match slB P t, evs S.F parts.toList with
  | some (e, s, b, y), some ps => match zeroB P e, dense s 0 ps with
    | some z, some cs => match clos S.H cs with
      | some (H', ds) => some (Nat.beq cs.length (len * s) && (Nat.ble (len * s) 16777216 && Nat.ble len 16777216), some (.own S.nx), (S.nx, .row e s len ds false) :: H', S.nx + 1)
      | none => none
    | _, _ => none
  | _, _ => none
def memX (P : Program) (inl : InlX) (S : St) : Op → Option (Bool × Option AV × List (Nat × Ent) × Nat)
  | .store t x y => m_store P S t x y
  | .call ⟨.builtin .append, ⟨[s, x]⟩, ⟨[t, t']⟩⟩ => match intB P t' with
    | some _ => m_zeros P S s x t t'
    | none => m_append P S s x t t'
  | .makeSlice t l c => m_mk P S t l c
  | .call ⟨.value g, args, _⟩ => m_call P S inl g args
  | .convert s t x => m_conv P S s t x
  | .slice t x none hi none => m_slice0 P S t x hi
  | .slice t x lo hi none => m_slice P S t x lo hi
  | .slice t x none (some hi) (some mx) => m_full P S t x hi mx
  | .buildSlice t len parts => m_bslice P S t len parts
  | _ => none

/-- The operation without its guard. -/
def opX (P : Program) (call : FuncId → List DV → Option RV) (inl : InlX) (S : St) (dst : Option Nat) (N : Nat) (op : Op) : Option (Bool × St) :=
  match dst with
  | some d => match effX P call S.F S.H S.nx op with
    | some r => some (r.ob && Nat.blt d N, ⟨r.D d ++ S.F, r.E S.nx ++ S.H, S.nx + 1⟩)
    | none => match memX P inl S op with
      | some (ob, some y, H', nx') => some (ob && Nat.blt d N, ⟨(d, y) :: S.F, H', nx'⟩)
      | _ => none
  | none => match memX P inl S op with
    | some (ob, none, H', nx') => some (ob, ⟨S.F, H', nx'⟩)
    | _ => none

section
variable {gl : List (Nat × AV)} {P : Program} {ops : Array Oper} {Q : Exit → Act → World → Prop} {k : K0} {N : Nat}
variable {ty : TypeId} {pos : String} {after : Array Edge}
theorem OS.inl {inl : InlX} (hkg : k.gl = gl) (hin : InlOk gl P inl) {d : Nat} {F : List (Nat × AV)} {H H' : List (Nat × Ent)} {g : Operand} {args : Array Operand} {tys : Array TypeId} {f : FuncId} {gv r : AV} {xs ys as : List AV} {nx nx' : Nat} (hf : Fr H nx)
    (hg : ev F g = some gv) (hgo : fnOf gv = some (f, xs, ys)) (ha : evl F args.toList = some as) (hc : inl f (xs ++ as ++ ys) H nx = some (r, H', nx')) (hb : fnB P f = true) (hN : Nat.blt d N = true) :
    OS P ops Q ⟨some d, .call ⟨.value g, args, tys⟩, ty, pos, after, none⟩ (SR k N F H) (SR k N ((d, r) :: F) H') :=
  OS.of_call rfl fun act w hs => by
    obtain ⟨U, γ, hm, hfr⟩ := hs
    obtain ⟨vs, h1, h2⟩ := run_callFn (P := P) (ty := ty) (pos := pos) (after := after) (dst := some d) (tys := tys) hfr hg hgo ha hb
    refine ⟨f, vs.toArray, w, h1, ((hin _ _ _ _ _ _ _ hc hf).1 k w U γ vs hkg hm h2).mono fun e W' he => ?_⟩
    obtain ⟨v, U', γ', rfl, h6, h7, h8⟩ := he
    exact ⟨v, rfl, U', γ', h6, hfr.put h7 (Nat.le_of_ble_eq_true hN) h8⟩
/-- What is shown of it. -/
def MemOk (gl : List (Nat × AV)) (P : Program) (S : St) (op : Op) (yo : Option AV) (H' : List (Nat × Ent)) (nx' : Nat) : Prop :=
  Fr H' nx' ∧ match yo with
    | some y => ∀ (ops : Array Oper) (Q : Exit → Act → World → Prop) (k : K0), k.gl = gl → ∀ (N : Nat) (ty : TypeId) (pos : String) (after : Array Edge) (d : Nat), Nat.blt d N = true → OS P ops Q ⟨some d, op, ty, pos, after, none⟩ (SR k N S.F S.H) (SR k N ((d, y) :: S.F) H')
    | none => ∀ (ops : Array Oper) (Q : Exit → Act → World → Prop) (k : K0), k.gl = gl → ∀ (N : Nat) (ty : TypeId) (pos : String) (after : Array Edge), OS P ops Q ⟨none, op, ty, pos, after, none⟩ (SR k N S.F S.H) (SR k N S.F H')
theorem m_store_ok {t : TypeId} {x y : Operand} {S : St} (hf : Fr S.H S.nx) {ob : Bool} {yo : Option AV} {H' : List (Nat × Ent)} {nx' : Nat} (h : m_store P S t x y = some (ob, yo, H', nx')) (hob : ob = true) : MemOk gl P S (.store t x y) yo H' nx' := by
  unfold m_store at h
  split at h
  · rename_i n b i off yv h1 h2 h3
    split at h
    · rename_i ns T cs h4 h5
      cases h
      simp only [Bool.and_eq_true] at hob
      exact ⟨Fr.same h5 hf, fun ops Q k hkg N ty pos after => OS.store h1 h2 h3 h4 h5 hob.1 hob.2.1 hob.2.2⟩
    · cases h
  · rename_i n b i off yv h1 h2 h3
    split at h
    · rename_i ns h4
      split at h
      · rename_i H1 ds h5
        split at h
        · rename_i e sz m cs h6
          cases h
          simp only [Bool.and_eq_true] at hob
          exact ⟨Fr.same h6 (clos_Fr h5 hf), fun ops Q k hkg N ty pos after => OS.storeRow h1 h2 h3 h4 h5 h6 hob.1 hob.2.1 hob.2.2⟩
        · cases h
      · cases h
    · cases h
  · cases h
theorem m_append_ok {s x : Operand} {t t' : TypeId} {S : St} (hf : Fr S.H S.nx) {ob : Bool} {yo : Option AV} {H' : List (Nat × Ent)} {nx' : Nat} (h : m_append P S s x t t' = some (ob, yo, H', nx')) (hob : ob = true) : MemOk gl P S (.call ⟨.builtin .append, ⟨[s, x]⟩, ⟨[t, t']⟩⟩) yo H' nx' := by
  unfold m_append at h
  split at h
  · rename_i he e sz bb y sv xv _ h1 h2 h3
    subst he
    split at h
    · rename_i z H1 m ds h4 h5
      split at h
      · rename_i i
        split at h
        · rename_i e' sz' n cs b h6
          split at h
          · rename_i q1 q2 _ _
            subst q1
            subst q2
            cases h
            simp only [Bool.and_eq_true, decide_eq_true_eq] at hob
            have hf1 := clo_Fr h5 hf
            exact ⟨(Fr.same h6 hf1).cons (Nat.le_succ _) (Nat.lt_succ_self _), fun ops Q k hkg N ty pos after d hN => OS.append (xd := .sl m ds) h1 h4 hob.1 hob.2.1 h2 h3 h5 h6 (hf1 _ (Nat.le_refl _)) hob.2.2.1 hob.2.2.2.1 hN hob.2.2.2.2.1 hob.2.2.2.2.2⟩
          · cases h
        · cases h
      · rename_i n cs
        cases h
        simp only [Bool.and_eq_true, decide_eq_true_eq] at hob
        have hf1 := clo_Fr h5 hf
        exact ⟨hf1.cons (Nat.le_succ _) (Nat.lt_succ_self _), fun ops Q k hkg N ty pos after d hN => OS.appendFull h1 h4 hob.1 h2 h3 h5 (hf1 _ (Nat.le_refl _)) hob.2.2.2.1 hob.2.2.1 hN hob.2.2.2.2.1 hob.2.2.2.2.2.1 hob.2.2.2.2.2.2 hob.2.1⟩
      · rename_i v
        split at h
        · rename_i hv
          cases h
          simp only [Bool.and_eq_true, decide_eq_true_eq] at hob
          have hf1 := clo_Fr h5 hf
          have hvv : v = .raw (.slice none 0 0) := by
            unfold nilSl at hv
            split at hv
            · rfl
            · cases hv
          subst hvv
          refine ⟨?_, fun ops Q k hkg N ty pos after d hN => OS.appendNil (xd := .sl m ds) h1 h4 hob.1 hob.2.1 h2 h3 h5 (hf1 _ (Nat.le_refl _)) (hf1 _ (Nat.le_succ _)) ?_ hob.2.2.1 hob.2.2.2.1 hN hob.2.2.2.2.1 hob.2.2.2.2.2⟩
          · exact ((hf1.cons (Nat.le_add_right _ 2) (by omega)).cons (Nat.le_refl _) (by omega)).cons (Nat.le_refl _) (by omega)
          · cases hq : Nat.beq S.nx (S.nx + 1) with
            | false => rfl
            | true => have := Nat.eq_of_beq_eq_true hq; omega
        · cases h
      · cases h
    · cases h
  · cases h
theorem m_zeros_ok {s x : Operand} {t t' : TypeId} {kk : IntKind} (hk : intB P t' = some kk) {S : St} (hf : Fr S.H S.nx) {ob : Bool} {yo : Option AV} {H' : List (Nat × Ent)} {nx' : Nat} (h : m_zeros P S s x t t' = some (ob, yo, H', nx')) (hob : ob = true) : MemOk gl P S (.call ⟨.builtin .append, ⟨[s, x]⟩, ⟨[t, t']⟩⟩) yo H' nx' := by
  unfold m_zeros at h
  split at h
  · rename_i e sz bb y sv k' n h1 h2 h3
    split at h
    · rename_i z hv h4
      cases h
      simp only [Bool.and_eq_true, decide_eq_true_eq] at hob
      have hvv : sv = .raw (.slice none 0 0) := by
        unfold nilSl at hv
        split at hv
        · rfl
        · cases hv
      subst hvv
      exact ⟨hf.cons (Nat.le_succ _) (Nat.lt_succ_self _), fun ops Q k hkg N ty pos after d hN => OS.appendZeros h1 hk h4 hob.1 h2 h3 (hf _ (Nat.le_refl _)) hN hob.2.2.1 hob.2.2.2.1 hob.2.2.2.2 hob.2.1⟩
    · cases h
  · cases h
theorem m_mk_ok {t : TypeId} {l c : Operand} {S : St} (hf : Fr S.H S.nx) {ob : Bool} {yo : Option AV} {H' : List (Nat × Ent)} {nx' : Nat} (h : m_mk P S t l c = some (ob, yo, H', nx')) (hob : ob = true) : MemOk gl P S (.makeSlice t l c) yo H' nx' := by
  unfold m_mk at h
  split at h
  · rename_i e s b y k1 n k2 m h1 h2 h3
    split at h
    · rename_i z h4
      cases h
      simp only [Bool.and_eq_true, decide_eq_true_eq] at hob
      exact ⟨hf.cons (Nat.le_succ _) (Nat.lt_succ_self _), fun ops Q k hkg N ty pos after d hN => OS.makeSlice h1 h4 h2 h3 (hf _ (Nat.le_refl _)) hN hob.1 hob.2.1 hob.2.2.1 hob.2.2.2⟩
    · cases h
  · cases h
theorem m_call_ok {inl : InlX} (hin : InlOk gl P inl) {g : Operand} {args : Array Operand} {tys : Array TypeId} {S : St} (hf : Fr S.H S.nx) {ob : Bool} {yo : Option AV} {H' : List (Nat × Ent)} {nx' : Nat} (h : m_call P S inl g args = some (ob, yo, H', nx')) (hob : ob = true) : MemOk gl P S (.call ⟨.value g, args, tys⟩) yo H' nx' := by
  unfold m_call at h
  split at h
  · rename_i gv as h1 h2
    split at h
    · rename_i f xs ys h3
      split at h
      · rename_i r H1 n1 h4
        cases h
        exact ⟨(hin _ _ _ _ _ _ _ h4 hf).2, fun ops Q k hkg N ty pos after d hN => OS.inl hkg hin hf h1 h3 h2 h4 hob hN⟩
      · cases h
    · cases h
  · cases h
theorem m_conv_ok {s t : TypeId} {x : Operand} {S : St} (hf : Fr S.H S.nx) {ob : Bool} {yo : Option AV} {H' : List (Nat × Ent)} {nx' : Nat} (h : m_conv P S s t x = some (ob, yo, H', nx')) (hob : ob = true) : MemOk gl P S (.convert s t x) yo H' nx' := by
  unfold m_conv at h
  split at h
  · rename_i y h1
    split at h
    · rename_i H1 n cs h2
      split at h
      · rename_i hu
        split at h
        · rename_i xs h3
          cases h
          exact ⟨clo_Fr h2 hf, fun ops Q k hkg N ty pos after d hN => OS.toStr hu h1 h2 h3 hob hN⟩
        · cases h
      · split at h
        · rename_i hst i _
          split at h
          · rename_i e sz n' cs' b' h3
            cases h
            subst hst
            simp only [Bool.and_eq_true] at hob
            have hn : n' = n ∧ cs' = cs := by
              simp only [clo, h3, Option.some.injEq, Prod.mk.injEq, DV.sl.injEq] at h2
              exact h2.2
            obtain ⟨rfl, rfl⟩ := hn
            refine ⟨fun j hj => ?_, fun ops Q k hkg N ty pos after d hN => OS.toBytes hob.1 h1 h2 h3 hob.2 hN⟩
            have h4 := clo_Fr h2 hf j hj
            have : i ≠ j := fun q => by subst q; rw [hf i hj] at h3; cases h3
            rw [lk_ne this]; exact h4
          · cases h
        · cases h
    · cases h
  · cases h
theorem m_sliceA_ok {t : TypeId} {x : Operand} {lo hi : Option Operand} {S : St} (hf : Fr S.H S.nx) {ob : Bool} {yo : Option AV} {H' : List (Nat × Ent)} {nx' : Nat} (h : m_sliceA P S t x lo hi = some (ob, yo, H', nx')) (hob : ob = true) : MemOk gl P S (.slice t x lo hi none) yo H' nx' := by
  unfold m_sliceA at h
  split at h
  · rename_i y e s b yy h1 h2
    split at h
    · rename_i H1 n cs h3
      split at h
      · rename_i l hh h4 h5
        cases h
        simp only [Bool.and_eq_true, decide_eq_true_eq] at hob
        exact ⟨clo_Fr h3 hf, fun ops Q k hkg N ty pos after d hN => OS.slice h2 h1 h3 h4 h5 hN hob.1 hob.2.1 hob.2.2⟩
      · cases h
    · cases h
  · cases h
theorem m_slice_ok {t : TypeId} {x : Operand} {lo hi : Option Operand} {S : St} (hf : Fr S.H S.nx) {ob : Bool} {yo : Option AV} {H' : List (Nat × Ent)} {nx' : Nat} (h : m_slice P S t x lo hi = some (ob, yo, H', nx')) (hob : ob = true) : MemOk gl P S (.slice t x lo hi none) yo H' nx' := by
  unfold m_slice at h
  split at h
  · rename_i i h1
    unfold m_sbox at h
    split at h
    · rename_i m s b T cs h2 h3
      split at h
      · rename_i H1 ds h4
        split at h
        · rename_i l hh h5 h6
          cases h
          simp only [Bool.and_eq_true, decide_eq_true_eq] at hob
          exact ⟨Fr.same (clos_keeps h4 h3) (clos_Fr h4 hf), fun ops Q k hkg N ty pos after d hN => OS.sliceBox h2 h1 h3 h4 h5 h6 hN hob.1 hob.2.1 hob.2.2.1 hob.2.2.2.1 (Nat.eq_of_beq_eq_true hob.2.2.2.2)⟩
        · cases h
      · cases h
    · cases h
  · exact m_sliceA_ok hf h hob
theorem m_slice0_ok {t : TypeId} {x : Operand} {hi : Option Operand} {S : St} (hf : Fr S.H S.nx) {ob : Bool} {yo : Option AV} {H' : List (Nat × Ent)} {nx' : Nat} (h : m_slice0 P S t x hi = some (ob, yo, H', nx')) (hob : ob = true) : MemOk gl P S (.slice t x none hi none) yo H' nx' := by
  unfold m_slice0 at h
  split at h
  · rename_i i h1
    split at h
    · rename_i e' sz n cs q h2 h3
      obtain ⟨e, s, b, yy⟩ := q
      split at h
      · rename_i hh h4
        split at h
        · rename_i he _
          subst he
          cases h
          exact ⟨(Fr.same h2 hf).cons (Nat.le_succ _) (Nat.lt_succ_self _), fun ops Q k hkg N ty pos after d hN => OS.sliceOwn h3 h1 h2 (hf _ (Nat.le_refl _)) h4 hN⟩
        · exact m_slice_ok hf h hob
      · cases h
    · exact m_slice_ok hf h hob
  · exact m_slice_ok hf h hob
theorem m_full_ok {t : TypeId} {x hi mx : Operand} {S : St} (hf : Fr S.H S.nx) {ob : Bool} {yo : Option AV} {H' : List (Nat × Ent)} {nx' : Nat} (h : m_full P S t x hi mx = some (ob, yo, H', nx')) (hob : ob = true) : MemOk gl P S (.slice t x none (some hi) (some mx)) yo H' nx' := by
  unfold m_full at h
  split at h
  · rename_i y e s b yy h1 h2
    split at h
    · rename_i H1 n cs h3
      split at h
      · rename_i q q' h4 h5
        split at h
        · rename_i he _
          subst he
          cases h
          simp only [Bool.and_eq_true, decide_eq_true_eq] at hob
          exact ⟨clo_Fr h3 hf, fun ops Q k hkg N ty pos after d hN => OS.sliceFull h2 h1 h3 h4 h5 hN hob.1 hob.2⟩
        · cases h
      · cases h
    · cases h
  · cases h
theorem m_bslice_ok {t : TypeId} {len : Nat} {parts : Array (Nat × Operand)} {S : St} (hf : Fr S.H S.nx) {ob : Bool} {yo : Option AV} {H' : List (Nat × Ent)} {nx' : Nat} (h : m_bslice P S t len parts = some (ob, yo, H', nx')) (hob : ob = true) : MemOk gl P S (.buildSlice t len parts) yo H' nx' := by
  unfold m_bslice at h
  split at h
  · rename_i e s b y ps h1 h2
    split at h
    · rename_i z cs h3 h4
      split at h
      · rename_i H1 ds h5
        cases h
        simp only [Bool.and_eq_true] at hob
        have hf1 := clos_Fr h5 hf
        exact ⟨hf1.cons (Nat.le_succ _) (Nat.lt_succ_self _), fun ops Q k hkg N ty pos after d hN => OS.buildSlice h1 h3 h2 h4 h5 hob.1 hob.2.1 hob.2.2 (hf1 _ (Nat.le_refl _)) hN⟩
      · cases h
    · cases h
  · cases h
theorem memX_ok {inl : InlX} (hin : InlOk gl P inl) {S : St} (hf : Fr S.H S.nx) {op : Op} {ob : Bool} {yo : Option AV} {H' : List (Nat × Ent)} {nx' : Nat} (h : memX P inl S op = some (ob, yo, H', nx')) (hob : ob = true) : MemOk gl P S op yo H' nx' := by
  unfold memX at h
  split at h
  · exact m_store_ok hf h hob
  · split at h
    · rename_i hk; exact m_zeros_ok hk hf h hob
    · exact m_append_ok hf h hob
  · exact m_mk_ok hf h hob
  · exact m_call_ok hin hf h hob
  · exact m_conv_ok hf h hob
  · exact m_slice0_ok hf h hob
  · exact m_slice_ok hf h hob
  · exact m_full_ok hf h hob
  · exact m_bslice_ok hf h hob
  · cases h
theorem opX_ok (hkg : k.gl = gl) {call : FuncId → List DV → Option RV} {inl : InlX} (hcall : CallOk gl P call) (hin : InlOk gl P inl) {S S' : St} (hf : Fr S.H S.nx) {dst : Option Nat} {op : Op} {ob : Bool} (h : opX P call inl S dst N op = some (ob, S')) (hob : ob = true) :
    Fr S'.H S'.nx ∧ OS P ops Q ⟨dst, op, ty, pos, after, none⟩ (SR k N S.F S.H) (SR k N S'.F S'.H) := by
  unfold opX at h
  split at h
  · rename_i d
    split at h
    · rename_i r h1
      cases h
      rw [Bool.and_eq_true] at hob
      exact ⟨Eff.E_Fr hf, effX_ok hcall h1 ops Q k hkg N _ _ (LX.refl _) (LX.refl _) (hf _ (Nat.le_refl _)) hob.2 hob.1⟩
    · split at h
      · rename_i ob' y H' nx' h1
        cases h
        rw [Bool.and_eq_true] at hob
        have := memX_ok hin hf h1 hob.1
        exact ⟨this.1, this.2 ops Q k hkg N ty pos after d hob.2⟩
      · cases h
  · split at h
    · rename_i ob' H' nx' h1
      cases h
      have := memX_ok hin hf h1 hob
      exact ⟨this.1, this.2 ops Q k hkg N ty pos after⟩
    · cases h
end
end Go.Pt
