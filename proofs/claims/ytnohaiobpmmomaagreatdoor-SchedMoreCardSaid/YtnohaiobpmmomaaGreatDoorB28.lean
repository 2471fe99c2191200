/- A part of a logic over data for the given program's language: rules for single operations and walks as functions. -/
import Derived.Test.YtnohaiobpmmomaaGreatDoorB27
import Derived.Carry
import Derived.ChangeSame
set_option linter.unusedVariables false
set_option linter.unusedSimpArgs false
namespace Go.Pt
open Go.RowKit

theorem Agree.below {W W' : World} {U U' : Nat → Nat} (h : Agree W U W' U' none) : Below W.heap.size W W' :=
  ⟨h.os, h.tape, h.output, h.size, fun b hb => (h.block b hb (by simp)).1⟩
theorem kept_of_below {W W' : World} (h : Below W.heap.size W W') (may : MemPlace → Prop) : W.keptBut W' may := by
  refine ⟨h.os, h.output, fun i hi => ?_⟩
  rw [h.block i hi]
  cases W.heap[i]? with
  | none => rfl
  | some o => cases o <;> simp
/-- All that is there is sealed. -/
def allU (W : World) (b : Nat) : Nat := match W.heap[b]? with
  | some (.cells c _ _) => c.size
  | _ => 0
theorem allU_wf (W : World) : ∀ b, W.heap.size ≤ b → allU W b = 0 := fun b hb => by
  unfold allU
  rw [Array.getElem?_eq_none hb]
theorem allU_cell {W : World} {b o : Nat} {v : Value} (h : W.cell? ⟨b, o, none⟩ = some v) : o < allU W b := by
  unfold allU
  unfold World.cell? at h
  cases hq : W.heap[b]? with
  | none => rw [hq] at h; cases h
  | some x =>
    rw [hq] at h
    cases x <;> simp at h
    rename_i c e fr
    simp only
    rcases Nat.lt_or_ge o c.size with h1 | h1
    · exact h1
    · rw [Array.getElem?_eq_none h1] at h; cases h
/-- Whole numbers as data. -/
def intsD (k : IntKind) (zs : List Int) : List DV := zs.map fun z => .raw (.int k z)
theorem intsD_RDs {W : World} {U : Nat → Nat} (k : IntKind) : ∀ zs : List Int, RDs W U (intsD k zs) (zs.map (Value.int k))
  | [] => .nil
  | z :: r => .cons (.raw _) (intsD_RDs k r)
theorem RD.ints {W : World} {a : Addr} {len cap : Nat} {k : IntKind} {zs : List Int} (hlc : len ≤ cap) (hm : cap ≤ 9223372036854775807) (hlen : len ≤ zs.length) (hc : ∀ i, i < zs.length → W.cell? (a.add i) = some (.int k (zs.getD i 0))) :
    RD W (allU W) (.sl len (intsD k (zs.take len))) (.slice (some a) len cap) := by
  rcases Nat.eq_zero_or_pos len with h0 | h0
  · subst h0
    simpa [intsD] using RD.nil (some a) cap
  · obtain ⟨b, o, sp⟩ := a
    have hsp : sp = none := by
      cases sp with
      | none => rfl
      | some q =>
        exfalso
        have h1 := hc 0 (by omega)
        unfold World.cell? at h1
        have hs : (Addr.add ⟨b, o, some q⟩ 0).spot.isSome = true := by unfold Addr.add; split <;> simp_all
        split at h1
        · rw [if_pos hs] at h1; cases h1
        · cases h1
    subst hsp
    refine .sl hlc hm (intsD_RDs k _) (fun j v hj => ?_)
    rw [List.getElem?_map] at hj
    rw [List.getElem?_take] at hj
    split at hj
    · rename_i hjl
      have hjz : j < zs.length := by omega
      rw [List.getElem?_eq_getElem hjz] at hj
      simp at hj
      subst hj
      have := hc j hjz
      rw [Addr.add_mid] at this
      simp [List.getD_eq_getElem?_getD, List.getElem?_eq_getElem hjz] at this
      exact ⟨this, allU_cell this⟩
    · simp at hj
theorem trodAll_below {H : Type} {enc : TypeId × Value → H} {P : Program} (hl : laidOutB P = true) {W W' : World} (hb : Below W.heap.size W W') : ∀ {ts : List TypeId} {vs : List Value} {ds : List (DataW H)} {ps : List MemPlace},
    (∀ t ∈ ts, P.readableRec t = true ∧ t < P.types.size) → DataW.TrodAll enc P W 0 (fun _ => true) true ts vs ds ps → (∀ x ∈ ps, x.block < W.heap.size) → DataW.TrodAll enc P W' 0 (fun b => decide (b < W.heap.size)) true ts vs ds ps
  | [], [], [], ps, _, h, _ => h
  | t :: ts, v :: vs, d :: ds, ps, hr, h, hlt => by
    obtain ⟨p, q, h1, h2, rfl⟩ := h
    obtain ⟨r1, r2⟩ := hr t List.mem_cons_self
    exact ⟨p, q, Below.trod hl r1 r2 h1 hb (fun x hx => hlt x (List.mem_append_left _ hx)), trodAll_below hl hb (fun t ht => hr t (List.mem_cons_of_mem _ ht)) h2 (fun x hx => hlt x (List.mem_append_right _ hx)), rfl⟩
  | [], _ :: _, _, _, _, h, _ => h.elim
  | [], [], _ :: _, _, _, h, _ => h.elim
  | _ :: _, [], _, _, _, h, _ => h.elim
  | _ :: _, _ :: _, [], _, _, h, _ => h.elim
/-- A law that answers true and leaves all that was there as it was. -/
theorem law_post {H : Type} {enc : TypeId × Value → H} {P : Program} {f : Func} {s : ChangeSpec} {apart fresh handsOn : Bool} {W W' : World} {args : Array Value} {v : Value} {ds : List (DataW H)} {before : List MemPlace}
    (hl : laidOutB P = true) (hr : ∀ t ∈ f.params.toList, P.readableRec t = true ∧ t < P.types.size) (hsv : s.vars = []) (hW : DataW.Whole enc P f.params.toList s.vars apart W args.toList ds [] before) (hb : Below W.heap.size W W')
    (hargs : (s.fn H ds).args = ds) (hvars : (s.fn H ds).vars = []) (hres : ∀ b, DataW.TrodAll enc P W' b (fun _ => false) handsOn f.resultTypes.toList (v.resultList f.resultTypes.size) (s.fn H ds).results []) :
    s.post enc P f apart fresh handsOn false W args v W' := by
  have hlt := fun p hp => hW.lt p hp
  have hW' := hW
  obtain ⟨p, q, h1, h2, rfl, h3, h4⟩ := hW
  rw [hsv] at h2
  have hq : q = [] := h2
  subst hq
  refine ⟨ds, [], p ++ [], [], p, [], hW', ?_, ?_, ?_, kept_of_below hb _, fun h => by cases h⟩
  · rw [List.append_nil]; exact hres _
  · rw [List.append_nil, hargs]
    exact trodAll_below hl hb hr h1 (fun x hx => hlt x (by simpa using hx))
  · rw [List.append_nil, hvars, hsv]
    rfl
end Go.Pt
