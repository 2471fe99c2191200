/- The base of the data logic: values as data (DV, AV), the worlds that hold them, and what stays when a world grows. -/
import Derived.WalkKit
import Derived.KernelRfl
import Derived.Maps.AppendAt
import Derived.Orders
namespace Go.Pt
open Go.RowKit

/-- Data: what a value of the machine says, memory left out. -/
inductive DV where
  | raw (v : Value)
  | sl (n : Nat) (cs : List DV)
  | agg (cs : List DV)
  | tup (vs : List DV)

mutual
/-- A value reads as data: what it leads to lies in sealed cells (below U of each block). -/
inductive RD (W : World) (U : Nat → Nat) : DV → Value → Prop
  | raw (v : Value) : RD W U (.raw v) v
  | nil (a : Option Addr) (k : Nat) : RD W U (.sl 0 []) (.slice a 0 k)
  | sl {n k b o : Nat} {cs : List DV} {vs : List Value} (hk : n ≤ k) (hm : k ≤ 9223372036854775807) (hr : RDs W U cs vs)
      (hc : ∀ j v, vs[j]? = some v → W.cell? ⟨b, o + j, none⟩ = some v ∧ o + j < U b) : RD W U (.sl n cs) (.slice (some ⟨b, o, none⟩) n k)
  | agg {cs : List DV} {vs : List Value} (hr : RDs W U cs vs) : RD W U (.agg cs) (.agg vs.toArray)
  | tup {cs : List DV} {vs : List Value} (hr : RDs W U cs vs) : RD W U (.tup cs) (.tuple vs.toArray)
inductive RDs (W : World) (U : Nat → Nat) : List DV → List Value → Prop
  | nil : RDs W U [] []
  | cons {x : DV} {v : Value} {xs : List DV} {vs : List Value} (h : RD W U x v) (hs : RDs W U xs vs) : RDs W U (x :: xs) (v :: vs)
end

/-- Sealed cells stay. -/
structure Ext (W : World) (U : Nat → Nat) (W' : World) (U' : Nat → Nat) : Prop where
  cell : ∀ b o, o < U b → W'.cell? ⟨b, o, none⟩ = W.cell? ⟨b, o, none⟩
  le : ∀ b, U b ≤ U' b

theorem Ext.refl (W : World) (U : Nat → Nat) : Ext W U W U := ⟨fun _ _ _ => rfl, fun _ => Nat.le_refl _⟩
theorem Ext.trans {W W1 W2 : World} {U U1 U2 : Nat → Nat} (h : Ext W U W1 U1) (g : Ext W1 U1 W2 U2) : Ext W U W2 U2 :=
  ⟨fun b o ho => (g.cell b o (Nat.lt_of_lt_of_le ho (h.le b))).trans (h.cell b o ho), fun b => Nat.le_trans (h.le b) (g.le b)⟩

mutual
theorem RD.mono {W W' : World} {U U' : Nat → Nat} (e : Ext W U W' U') : ∀ {x : DV} {v : Value}, RD W U x v → RD W' U' x v
  | _, _, .raw v => .raw v
  | _, _, .nil a k => .nil a k
  | _, _, .sl hk hm hr hc => .sl hk hm (RDs.mono e hr) (fun j v hj => by
      obtain ⟨h1, h2⟩ := hc j v hj
      exact ⟨(e.cell _ _ h2).trans h1, Nat.lt_of_lt_of_le h2 (e.le _)⟩)
  | _, _, .agg hr => .agg (RDs.mono e hr)
  | _, _, .tup hr => .tup (RDs.mono e hr)
theorem RDs.mono {W W' : World} {U U' : Nat → Nat} (e : Ext W U W' U') : ∀ {xs : List DV} {vs : List Value}, RDs W U xs vs → RDs W' U' xs vs
  | _, _, .nil => .nil
  | _, _, .cons h hs => .cons (RD.mono e h) (RDs.mono e hs)
end

theorem RDs.length {W : World} {U : Nat → Nat} : ∀ {xs : List DV} {vs : List Value}, RDs W U xs vs → xs.length = vs.length
  | _, _, .nil => rfl
  | _, _, .cons _ hs => by simp [RDs.length hs]
theorem RDs.append {W : World} {U : Nat → Nat} : ∀ {xs : List DV} {vs : List Value} {ys : List DV} {us : List Value}, RDs W U xs vs → RDs W U ys us → RDs W U (xs ++ ys) (vs ++ us)
  | _, _, _, _, .nil, h => h
  | _, _, _, _, .cons h hs, g => .cons h (RDs.append hs g)
theorem RDs.get {W : World} {U : Nat → Nat} : ∀ {xs : List DV} {vs : List Value}, RDs W U xs vs → ∀ {j : Nat} {x : DV}, xs[j]? = some x → ∃ v, vs[j]? = some v ∧ RD W U x v
  | _, _, .nil, _, _, h => by simp at h
  | _, _, .cons h _, 0, _, hx => by simp at hx; subst hx; exact ⟨_, rfl, h⟩
  | _, _, .cons _ hs, j + 1, _, hx => by simpa using RDs.get hs (j := j) (by simpa using hx)
theorem RDs.drop {W : World} {U : Nat → Nat} : ∀ {xs : List DV} {vs : List Value} (k : Nat), RDs W U xs vs → RDs W U (xs.drop k) (vs.drop k)
  | _, _, 0, h => by simpa using h
  | _, _, k + 1, .nil => by simpa using RDs.nil
  | _, _, k + 1, .cons _ hs => by simpa using RDs.drop k hs
theorem RDs.take {W : World} {U : Nat → Nat} : ∀ {xs : List DV} {vs : List Value} (k : Nat), RDs W U xs vs → RDs W U (xs.take k) (vs.take k)
  | _, _, 0, _ => by simpa using RDs.nil
  | _, _, k + 1, .nil => by simpa using RDs.nil
  | _, _, k + 1, .cons h hs => by simpa using RDs.cons h (RDs.take k hs)

/-- What a slot holds: data, a row or a variable of the call's own (by its number), a place in sealed cells, a function, an aggregate of these. -/
inductive AV where
  | d (x : DV)
  | own (i : Nat)
  | ptr (i off : Nat)
  | rp (i off : Nat)
  | full (n : Nat) (cs : List DV)
  | nn (n : Nat) (cs : List DV)
  | ep (cs : List DV)
  | fn (f : Fn) (first caps : List AV)
  | agg (cs : List AV)
  | tup (vs : List AV)

mutual
inductive RA (W : World) (U : Nat → Nat) (γ : Nat → Option Value) : AV → Value → Prop
  | d {x : DV} {v : Value} (h : RD W U x v) : RA W U γ (.d x) v
  | own {i : Nat} {v : Value} (h : γ i = some v) : RA W U γ (.own i) v
  | ptr {i off b : Nat} (h : γ i = some (.pointer (some ⟨b, 0, none⟩))) : RA W U γ (.ptr i off) (.pointer (some ⟨b, off, none⟩))
  | rp {i off b n k : Nat} (h : γ i = some (.slice (some ⟨b, 0, none⟩) n k)) : RA W U γ (.rp i off) (.pointer (some ⟨b, off, none⟩))
  | nn {n k : Nat} {cs : List DV} {a : Addr} (h : RD W U (.sl n cs) (.slice (some a) n k)) : RA W U γ (.nn n cs) (.slice (some a) n k)
  | full {n : Nat} {cs : List DV} {a : Option Addr} (h : RD W U (.sl n cs) (.slice a n n)) : RA W U γ (.full n cs) (.slice a n n)
  | ep {b o : Nat} {cs : List DV} {vs : List Value} (hr : RDs W U cs vs) (hc : ∀ j v, vs[j]? = some v → W.cell? ⟨b, o + j, none⟩ = some v ∧ o + j < U b) : RA W U γ (.ep cs) (.pointer (some ⟨b, o, none⟩))
  | fn {f : Fn} {xs ys : List AV} {vs ws : List Value} (h1 : RAs W U γ xs vs) (h2 : RAs W U γ ys ws) : RA W U γ (.fn f xs ys) (.func f vs.toArray ws.toArray)
  | agg {cs : List AV} {vs : List Value} (hr : RAs W U γ cs vs) : RA W U γ (.agg cs) (.agg vs.toArray)
  | tup {cs : List AV} {vs : List Value} (hr : RAs W U γ cs vs) : RA W U γ (.tup cs) (.tuple vs.toArray)
inductive RAs (W : World) (U : Nat → Nat) (γ : Nat → Option Value) : List AV → List Value → Prop
  | nil : RAs W U γ [] []
  | cons {x : AV} {v : Value} {xs : List AV} {vs : List Value} (h : RA W U γ x v) (hs : RAs W U γ xs vs) : RAs W U γ (x :: xs) (v :: vs)
end

structure ExtA (W : World) (U : Nat → Nat) (γ : Nat → Option Value) (W' : World) (U' : Nat → Nat) (γ' : Nat → Option Value) : Prop extends Ext W U W' U' where
  num : ∀ i v, γ i = some v → γ' i = some v

mutual
theorem RA.mono {W W' : World} {U U' : Nat → Nat} {γ γ' : Nat → Option Value} (e : ExtA W U γ W' U' γ') : ∀ {x : AV} {v : Value}, RA W U γ x v → RA W' U' γ' x v
  | _, _, .d h => .d (h.mono e.toExt)
  | _, _, .own h => .own (e.num _ _ h)
  | _, _, .ptr h => .ptr (e.num _ _ h)
  | _, _, .rp h => .rp (e.num _ _ h)
  | _, _, .full h => .full (h.mono e.toExt)
  | _, _, .nn h => .nn (h.mono e.toExt)
  | _, _, .ep hr hc => .ep (hr.mono e.toExt) (fun j v hj => by
      obtain ⟨h1, h2⟩ := hc j v hj
      exact ⟨(e.cell _ _ h2).trans h1, Nat.lt_of_lt_of_le h2 (e.le _)⟩)
  | _, _, .fn h1 h2 => .fn (RAs.mono e h1) (RAs.mono e h2)
  | _, _, .agg hr => .agg (RAs.mono e hr)
  | _, _, .tup hr => .tup (RAs.mono e hr)
theorem RAs.mono {W W' : World} {U U' : Nat → Nat} {γ γ' : Nat → Option Value} (e : ExtA W U γ W' U' γ') : ∀ {xs : List AV} {vs : List Value}, RAs W U γ xs vs → RAs W' U' γ' xs vs
  | _, _, .nil => .nil
  | _, _, .cons h hs => .cons (RA.mono e h) (RAs.mono e hs)
end
theorem RAs.length {W : World} {U : Nat → Nat} {γ : Nat → Option Value} : ∀ {xs : List AV} {vs : List Value}, RAs W U γ xs vs → xs.length = vs.length
  | _, _, .nil => rfl
  | _, _, .cons _ hs => by simp [RAs.length hs]
theorem RAs.append {W : World} {U : Nat → Nat} {γ : Nat → Option Value} : ∀ {xs : List AV} {vs : List Value} {ys : List AV} {us : List Value}, RAs W U γ xs vs → RAs W U γ ys us → RAs W U γ (xs ++ ys) (vs ++ us)
  | _, _, _, _, .nil, h => h
  | _, _, _, _, .cons h hs, g => .cons h (RAs.append hs g)
theorem RAs.get {W : World} {U : Nat → Nat} {γ : Nat → Option Value} : ∀ {xs : List AV} {vs : List Value}, RAs W U γ xs vs → ∀ {j : Nat} {x : AV}, xs[j]? = some x → ∃ v, vs[j]? = some v ∧ RA W U γ x v
  | _, _, .nil, _, _, h => by simp at h
  | _, _, .cons h _, 0, _, hx => by simp at hx; subst hx; exact ⟨_, rfl, h⟩
  | _, _, .cons _ hs, j + 1, _, hx => by simpa using RAs.get hs (j := j) (by simpa using hx)
theorem RAs.drop {W : World} {U : Nat → Nat} {γ : Nat → Option Value} : ∀ {xs : List AV} {vs : List Value} (k : Nat), RAs W U γ xs vs → RAs W U γ (xs.drop k) (vs.drop k)
  | _, _, 0, h => by simpa using h
  | _, _, k + 1, .nil => by simpa using RAs.nil
  | _, _, k + 1, .cons _ hs => by simpa using RAs.drop k hs
theorem RAs.take {W : World} {U : Nat → Nat} {γ : Nat → Option Value} : ∀ {xs : List AV} {vs : List Value} (k : Nat), RAs W U γ xs vs → RAs W U γ (xs.take k) (vs.take k)
  | _, _, 0, _ => by simpa using RAs.nil
  | _, _, k + 1, .nil => by simpa using RAs.nil
  | _, _, k + 1, .cons h hs => by simpa using RAs.cons h (RAs.take k hs)
theorem RAs.set {W : World} {U : Nat → Nat} {γ : Nat → Option Value} {x : AV} {v : Value} (h : RA W U γ x v) : ∀ {xs : List AV} {vs : List Value} (k : Nat), RAs W U γ xs vs → RAs W U γ (xs.set k x) (vs.set k v)
  | _, _, _, .nil => by simpa using RAs.nil
  | _, _, 0, .cons _ hs => by simpa using RAs.cons h hs
  | _, _, k + 1, .cons h' hs => by simpa using RAs.cons h' (RAs.set h k hs)
theorem RAs.of_RDs {W : World} {U : Nat → Nat} {γ : Nat → Option Value} : ∀ {xs : List DV} {vs : List Value}, RDs W U xs vs → RAs W U γ (xs.map .d) vs
  | _, _, .nil => .nil
  | _, _, .cons h hs => .cons (.d h) (RAs.of_RDs hs)

/-- First match. -/
def lk {α : Type} : List (Nat × α) → Nat → Option α
  | [], _ => none
  | (s, x) :: r, t => bif Nat.beq s t then some x else lk r t
theorem lk_self {α : Type} (t : Nat) (x : α) (F : List (Nat × α)) : lk ((t, x) :: F) t = some x := by simp [lk]
theorem lk_ne {α : Type} {s t : Nat} (h : s ≠ t) (x : α) (F : List (Nat × α)) : lk ((s, x) :: F) t = lk F t := by
  have : Nat.beq s t = false := by
    cases h' : Nat.beq s t with
    | false => rfl
    | true => exact absurd (Nat.eq_of_beq_eq_true h') h
  simp [lk, this]
end Go.Pt
