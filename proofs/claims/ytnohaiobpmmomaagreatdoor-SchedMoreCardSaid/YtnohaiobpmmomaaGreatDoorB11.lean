/- A part of a logic over data for the given program's language: rules for single operations and walks as functions. -/
import Derived.Test.YtnohaiobpmmomaaGreatDoorB10
set_option linter.unusedVariables false
set_option linter.unusedSimpArgs false
namespace Go.Pt
open Go.RowKit

section
variable {P : Program} {ops : Array Oper} {Q : Exit → Act → World → Prop} {k : K0} {N : Nat} {F : List (Nat × AV)} {H : List (Nat × Ent)}
variable {ty : TypeId} {pos : String} {after : Array Edge} {d : Nat}

def zb (z : Value) (n : Nat) : Array Value := (Array.range n).map ((if n = 0 then #[] else z.cells)[· % (if n = 0 then #[] else z.cells).size]!)
theorem run_buildSlice_any (w : World) {t e : TypeId} {len s y : Nat} {b : Bool} (parts : Array (Nat × Value)) (cells : Array Value) {z : Value} (ht : slB P t = some (e, s, b, y)) (hz : zeroB P e = some z) (hsmall : Nat.ble (len * s) 16777216 = true)
    (h : Instr.fill (fun i => some (i * s, s)) (zb z (len * s)) parts.toList = some cells) :
    (Instr.buildSlice t len parts).run P w = .ok (.slice (some ⟨w.heap.size, 0, none⟩) len len) (w.alloc (.cells cells e)) := by
  obtain ⟨hu, _, ie, hie, _, hs⟩ := slB_info ht
  have hzz : ie.zero = some z := by unfold zeroB at hz; simpa [hie] using hz
  subst hs
  have hsm : ¬ len * ie.size > 2 ^ 24 := by have := Nat.le_of_ble_eq_true hsmall; omega
  by_cases h0 : len * ie.size = 0
  · rw [h0] at h
    have h' : Instr.fill (fun i => some (i * ie.size, ie.size)) (Array.map (fun _ => (default : Value)) (Array.range 0)) parts.toList = some cells := by simpa [zb] using h
    unfold Instr.buildSlice
    simp only [Sem.run_bind, run_underlying hu, Result.andThen_ok, sizeOf, typeInfo, hie]
    simp [hie, h0, h', newRow]
  · simp only [zb, if_neg h0] at h
    exact run_buildSlice w t e len parts cells ie z hu hie hzz hsm h0 h
theorem OS.buildSlice {t e : TypeId} {len s y i : Nat} {b : Bool} {parts : Array (Nat × Operand)} {z : Value} {ps : List (Nat × AV)} {cs : List AV} {ds : List DV} {H' : List (Nat × Ent)} (ht : slB P t = some (e, s, b, y)) (hz : zeroB P e = some z) (hp : evs F parts.toList = some ps) (hd : dense s 0 ps = some cs) (hc : clos H cs = some (H', ds))
    (hl : Nat.beq cs.length (len * s) = true) (hs : Nat.ble (len * s) 16777216 = true) (hln : Nat.ble len 16777216 = true) (hi : lk H' i = none) (hN : Nat.blt d N = true) :
    OS P ops Q ⟨some d, .buildSlice t len parts, ty, pos, after, none⟩ (SR k N F H) (SR k N ((d, .own i) :: F) ((i, .row e s len ds false) :: H')) :=
  OS.of_value rfl fun act w hs' => by
    obtain ⟨U, γ, hm, hf⟩ := hs'
    obtain ⟨h1, h2⟩ := evs_RA hf hp
    have hl' : cs.length = len * s := Nat.eq_of_beq_eq_true hl
    have hfill : ∀ base : Array Value, base.size = len * s → ∃ vs', Instr.fill (fun i => some (i * s, s)) base (parts.toList.map fun x => (x.1, act.eval x.2)) = some vs' ∧ RAs w U γ cs vs'.toList := fun base hb => by
      have := dense_fill s ps 0 cs [] (rawsA base.toList) hd (by simp) (by simp [rawsA, hb, hl'])
      simp only [List.nil_append] at this
      exact fill_RA hm.one (rawsA_RA _) h1 h2 this
    obtain ⟨vs', h3, h4⟩ := hfill (zb z (len * s)) (by simp [zb])
    obtain ⟨U1, g1, g2, g3⟩ := clos_RD hc hm h4
    have hvl : vs'.toList.length = len * s := by rw [← h4.length, hl']
    obtain ⟨U2, γ2, g4, g5, g6⟩ := g1.row hi e s len false g3 hvl (by have := Nat.le_of_ble_eq_true hln; omega)
    refine ⟨.slice (some ⟨w.heap.size, 0, none⟩) len len, w.alloc (.cells vs' e), ?_, ?_⟩
    · unfold execOp
      refine run_v ?_
      refine run_buildSlice_any w _ vs' ht hz hs ?_
      rw [Array.toList_map]
      exact h3
    · exact ⟨U2, γ2, g4, (hf.mono g2).put g5 (Nat.le_of_ble_eq_true hN) (.own g6)⟩
end
end Go.Pt
