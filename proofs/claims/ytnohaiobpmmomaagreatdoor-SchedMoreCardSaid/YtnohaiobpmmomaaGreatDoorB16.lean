/- A part of a logic over data for the given program's language: rules for single operations and walks as functions. -/
import Derived.Test.YtnohaiobpmmomaaGreatDoorB15
set_option linter.unusedVariables false
set_option linter.unusedSimpArgs false
namespace Go.Pt
open Go.RowKit

def rawsD (l : List Value) : List DV := l.map .raw
theorem rawsD_RD {W : World} {U : Nat → Nat} : ∀ l : List Value, RDs W U (rawsD l) l
  | [] => .nil
  | v :: r => .cons (.raw v) (rawsD_RD r)
/-- A new row with room behind it. -/
theorem MR.rowc {k : K0} {H : List (Nat × Ent)} {W : World} {U : Nat → Nat} {γ : Nat → Option Value} (h : MR k H W U γ) {i : Nat} (hi : lk H i = none) (e sz n c : Nat) {cs : List DV} {vs : List Value} (cur : Array Value) (hr : RDs W U cs vs) (hl : vs.length = n * sz) (hnc : n ≤ c) (hc : c ≤ 9223372036854775807) (hcs : cur.size = c * sz) (htk : cur.toList.take (n * sz) = vs) :
    ∃ γ', MR k ((i, .row e sz n cs false) :: H) (W.alloc (.cells cur e)) U γ' ∧ ExtA W U γ (W.alloc (.cells cur e)) U γ' ∧ γ' i = some (.slice (some ⟨W.heap.size, 0, none⟩) n c) := by
  refine ⟨upd γ i (.slice (some ⟨W.heap.size, 0, none⟩) n c), ?_⟩
  have := h.fresh hi (agree_alloc0 h.wf (.cells cur e)) (fun b hb => h.wf b (by simp at hb; omega)) (v := .slice (some ⟨W.heap.size, 0, none⟩) n c) rfl (fun b hb => by simp [blkOf] at hb; omega) (e := .row e sz n cs false) (fun ex => ?_)
  · exact ⟨this.1, this.2, upd_self _ _ _⟩
  · refine ⟨_, vs, upd_self _ _ _, ⟨hl, .inr ⟨W.heap.size, c, cur, rfl, Nat.zero_le _, heap_alloc_new W _, hnc, by simpa [maxLen] using hc, hcs, htk⟩⟩, hr.mono ex.toExt, fun b hb => ?_⟩
    have : b = W.heap.size := by simp [blkOf] at hb; exact hb.symm
    simp [this, h.wf _ (Nat.le_refl _)]
section
variable {P : Program} {ops : Array Oper} {Q : Exit → Act → World → Prop} {k : K0} {N : Nat} {F : List (Nat × AV)} {H : List (Nat × Ent)}
variable {ty : TypeId} {pos : String} {after : Array Edge} {d : Nat}

theorem wrap64 {n : Int} (h : -9223372036854775808 ≤ n ∧ n ≤ 9223372036854775807) : IntKind.i64.wrap n = n := wrap_in (by simpa [IntKind.min, IntKind.max, IntKind.bits, IntKind.signed] using h)
theorem OS.makeSlice {t e : TypeId} {s y i : Nat} {b : Bool} {z : Value} {l c : Operand} {n m : Int} {k1 k2 : IntKind} (ht : slB P t = some (e, s, b, y)) (hz : zeroB P e = some z) (hl : ev F l = some (.d (.raw (.int k1 n)))) (hc : ev F c = some (.d (.raw (.int k2 m)))) (hi : lk H i = none) (hN : Nat.blt d N = true)
    (h0 : 0 ≤ n) (h1 : n ≤ m) (h2 : y * m ≤ 281474976710656) (h3 : m ≤ 9223372036854775807) :
    OS P ops Q ⟨some d, .makeSlice t l c, ty, pos, after, none⟩ (SR k N F H) (SR k N ((d, .own i) :: F) ((i, .row e s n.toNat (rawsD ((zb z (m.toNat * s)).toList.take (n.toNat * s))) false) :: H)) :=
  OS.of_value rfl fun act w hs' => by
    obtain ⟨U, γ, hm, hf⟩ := hs'
    obtain ⟨hu, hsz, ie, hie, hiy, his⟩ := slB_info ht
    have hzz : ie.zero = some z := by unfold zeroB at hz; simpa [hie] using hz
    have hle : n.toNat * s ≤ m.toNat * s := Nat.mul_le_mul_right _ (by omega)
    obtain ⟨γ', q1, q2, q3⟩ := hm.rowc hi e s n.toNat m.toNat (zb z (m.toNat * s)) (rawsD_RD ((zb z (m.toNat * s)).toList.take (n.toNat * s))) (by rw [List.length_take, Nat.min_eq_left]; simpa [zb] using hle) (by omega) (by omega) (by simp [zb]) rfl
    refine ⟨_, _, ?_, U, γ', q1, hf.put q2 (Nat.le_of_ble_eq_true hN) (.own q3)⟩
    unfold execOp
    refine run_v ?_
    simp only [raw_eval hf hl, raw_eval hf hc]
    subst his
    subst hiy
    unfold Instr.makeSlice
    have e1 : IntKind.i64.wrap n = n := wrap64 (by omega)
    have e2 : IntKind.i64.wrap m = m := wrap64 (by omega)
    have b1 : (decide (m < 0) || decide ((ie.bytes : Int) * m > 281474976710656)) = false := by simp; omega
    have b2 : ¬ (n < 0) := by omega
    have b3 : ¬ (n > m) := by omega
    have hcond : ¬ (((m < 0 ∨ 281474976710656 < (ie.bytes : Int) * m) ∨ n < 0) ∨ m < n) := by omega
    by_cases hz0 : m.toNat * ie.size = 0
    · simp [run_underlying hu, asInt, asIntOf, e1, e2, typeInfo, hie, b1, b2, b3, sizeOf, hz0, newRow, zb]
      intro h9; omega
    · simp [run_underlying hu, asInt, asIntOf, e1, e2, typeInfo, hie, b1, b2, b3, sizeOf, hz0, newRow, zb, zeroValue, hzz]
      intro h9; omega
/-- A function with what it holds. -/
def evl (F : List (Nat × AV)) : List Operand → Option (List AV)
  | [] => some []
  | x :: r => match ev F x, evl F r with
    | some y, some ys => some (y :: ys)
    | _, _ => none
theorem evl_RA {W : World} {U : Nat → Nat} {γ : Nat → Option Value} {a : Act} (h : FR N F W U γ a) : ∀ {l : List Operand} {ys : List AV}, evl F l = some ys → RAs W U γ ys (l.map a.eval)
  | [], ys, he => by simp [evl] at he; subst he; exact .nil
  | x :: r, ys, he => by
    simp only [evl] at he
    cases h1 : ev F x with
    | none => simp [h1] at he
    | some y =>
      cases h2 : evl F r with
      | none => simp [h1, h2] at he
      | some zs =>
        simp only [h1, h2, Option.some.injEq] at he
        subst he
        exact .cons (ev_RA h h1) (evl_RA h h2)
theorem OS.makeFunc {f : Fn} {first caps : Array Operand} {xs ys : List AV} (h1 : evl F first.toList = some xs) (h2 : evl F caps.toList = some ys) (hN : Nat.blt d N = true) :
    OS P ops Q ⟨some d, .makeFunc f first caps, ty, pos, after, none⟩ (SR k N F H) (SR k N ((d, .fn f xs ys) :: F) H) :=
  OS.plain rfl rfl hN fun act w U γ hm hf => by
    refine ⟨.func f (first.map act.eval) (caps.map act.eval), by unfold execOp; exact run_v rfl, ?_⟩
    have := RA.fn (f := f) (evl_RA hf h1) (evl_RA hf h2)
    rw [← Array.toList_map, ← Array.toList_map] at this
    exact this
/-! ### Elements of the call's own rows -/
theorem OS.indexRow {t : TypeId} {x ix : Operand} {e e' : TypeId} {n s s' y i : Nat} {b b' : Bool} {cs : List DV} {kk : IntKind} {j : Int} (ht : slB P t = some (e, s, b, y)) (hx : ev F x = some (.own i)) (hi : lk H i = some (.row e' s' n cs b')) (hj : ev F ix = some (.d (.raw (.int kk j)))) (hN : Nat.blt d N = true) (h0 : 0 ≤ j) (h1 : j < n) :
    OS P ops Q ⟨some d, .indexAddr t x ix, ty, pos, after, none⟩ (SR k N F H) (SR k N ((d, .rp i (j.toNat * s)) :: F) H) := by
  refine OS.plain rfl rfl hN fun act w U γ hm hf => ?_
  have h := ev_RA hf hx
  have h2 := raw_eval hf hj
  generalize hv : act.eval x = v at h
  obtain ⟨h3, h4, _⟩ := slB_info ht
  obtain ⟨u, vs, g1, g2, g3, g4⟩ := hm.ent i _ hi
  cases h with
  | own hg =>
    rw [g1] at hg; cases hg
    rcases g2.2 with ⟨rfl, hn⟩ | ⟨bb, cap, cur, rfl, _, hg, hcap, hmx, hsz, htk⟩
    · omega
    · refine ⟨.pointer (some ⟨bb, 0 + j.toNat * s, none⟩), ?_, ?_⟩
      · unfold execOp
        simp only [hv, h2]
        refine run_v ?_
        unfold Instr.indexAt
        simp [asIntOf, run_underlying h3, h0, h1, run_szOf h4, Addr.add_mid]
      · rw [Nat.zero_add]
        exact .rp g1
theorem OS.fieldRow {t : TypeId} {x : Operand} {f fo n : Nat} {b : Bool} {i off : Nat} (ht : fldB P t f = some (fo, n, b)) (hn : Nat.blt 0 n = true) (hx : ev F x = some (.rp i off)) (hN : Nat.blt d N = true) :
    OS P ops Q ⟨some d, .fieldAddr t x f, ty, pos, after, none⟩ (SR k N F H) (SR k N ((d, .rp i (off + fo)) :: F) H) :=
  OS.plain rfl rfl hN fun act w U γ _ hf => by
    have h := ev_RA hf hx
    generalize hv : act.eval x = v at h
    cases h with
    | rp hp =>
      obtain ⟨fs, fl, h1, h2, h3, h4⟩ := fldB_info ht
      refine ⟨_, ?_, .rp hp⟩
      unfold execOp
      simp only [hv]
      refine run_v ?_
      unfold Instr.fieldAt
      have hn0 : n ≠ 0 := by have := Nat.le_of_ble_eq_true hn; omega
      rw [Sem.run_bind, run_underlying h1]
      simp only [Result.andThen_ok, h2, Instr.sureAddr, fieldPlace, Sem.run_bind, Sem.run_pure, run_szOf h4, if_neg hn0, Addr.add_mid, h3]
/-- The cells of a live row. -/
theorem row_at {W : World} {U : Nat → Nat} {γ : Nat → Option Value} {i e sz n : Nat} {cs : List DV} {s : Bool} (h : RE W U γ i (.row e sz n cs s)) {b n' c' : Nat} (hp : γ i = some (.slice (some ⟨b, 0, none⟩) n' c')) :
    ∃ vs cur, W.heap[b]? = some (.cells cur e (0, 0)) ∧ cur.toList.take (n * sz) = vs ∧ RDs W U cs vs ∧ vs.length = n * sz ∧ n' = n ∧ n ≤ c' ∧ c' ≤ maxLen ∧ cur.size = c' * sz := by
  obtain ⟨v, vs, h1, h2, h3, h4⟩ := h
  rw [hp] at h1; cases h1
  rcases h2.2 with ⟨h5, _⟩ | ⟨bb, cap, cur, h5, _, hg, hcap, hmx, hsz, htk⟩
  · cases h5
  · cases h5
    exact ⟨vs, cur, hg, htk, h3, h2.1, rfl, hcap, hmx, hsz⟩
theorem OS.loadRow {t : TypeId} {x : Operand} {n m e sz : Nat} {b s : Bool} {i off : Nat} {cs : List DV} {z : DV} (ht : szB P t = some (n, b)) (hx : ev F x = some (.rp i off)) (hi : lk H i = some (.row e sz m cs s)) (hz : subD (cs.drop off) n b = some z) (hb : (b || Nat.beq n 1) = true) (hl : Nat.ble (off + n) cs.length = true) (hN : Nat.blt d N = true) :
    OS P ops Q ⟨some d, .load t x, ty, pos, after, none⟩ (SR k N F H) (SR k N ((d, .d z) :: F) H) :=
  OS.plain rfl rfl hN fun act w U γ hm hf => by
    have h := ev_RA hf hx
    generalize hv : act.eval x = v at h
    cases h with
    | @rp _ _ bb n' c' hp =>
      obtain ⟨vs, cur, h1, h2, h3, h4, h5, _⟩ := row_at (hm.ent i _ hi) hp
      have hlen : off + n ≤ vs.length := by rw [← h3.length]; exact Nat.le_of_ble_eq_true hl
      have hr := h3.drop off
      have hrange : w.rangeAt bb off ((vs.drop off).take n) := fun j v hj => by
        rw [List.getElem?_take] at hj
        split at hj
        · rw [List.getElem?_drop, ← h2, List.getElem?_take] at hj
          split at hj
          · simpa [World.cell?, h1] using hj
          · cases hj
        · cases hj
      have hu : ∃ u, (if b then some (.agg ((vs.drop off).take n).toArray) else ((vs.drop off).take n).head?) = some u ∧ RD w U z u := by
        cases b
        · have hn1 : n = 1 := Nat.eq_of_beq_eq_true (by simpa using hb)
          subst hn1
          simp only [subD, cond_false] at hz
          generalize hq : vs.drop off = q at hr
          generalize hq' : cs.drop off = q' at hr hz
          cases hr with
          | nil => simp at hz
          | cons h1 h2 => simp at hz; subst hz; exact ⟨_, by simp, h1⟩
        · simp only [subD, cond_true, Option.some.injEq] at hz
          subst hz
          exact ⟨_, rfl, .agg (hr.take n)⟩
      obtain ⟨u, h6, h7⟩ := hu
      refine ⟨u, ?_, .d h7⟩
      unfold execOp
      simp only [hv]
      refine run_v ?_
      unfold Instr.loadAt Instr.sureAddr
      simp only [Sem.run_bind, Sem.run_pure, Result.andThen_ok]
      exact run_loadVar_cells ht hrange (by simp; omega) h6
def putD (cs : List DV) (off : Nat) (ns : List DV) : List DV := cs.take off ++ ns ++ cs.drop (off + ns.length)
theorem putD_RD {W : World} {U : Nat → Nat} {cs ns : List DV} {vs us : List Value} (h : RDs W U cs vs) (h' : RDs W U ns us) (off : Nat) : RDs W U (putD cs off ns) (vs.take off ++ us ++ vs.drop (off + us.length)) := by
  unfold putD
  rw [h'.length]
  exact ((h.take off).append h').append (h.drop _)
theorem OS.storeRow {t : TypeId} {x y : Operand} {n m e sz : Nat} {b : Bool} {i off : Nat} {cs ds : List DV} {ns : List AV} {yv : AV} {H' : List (Nat × Ent)} (ht : szB P t = some (n, b)) (hx : ev F x = some (.rp i off)) (hy : ev F y = some yv) (hc : cells1 yv = some ns) (hcl : clos H ns = some (H', ds)) (hi : lk H' i = some (.row e sz m cs false)) (ho : onesA ns = true) (hn : Nat.beq ns.length n = true) (hl : Nat.ble (off + n) cs.length = true) :
    OS P ops Q ⟨none, .store t x y, ty, pos, after, none⟩ (SR k N F H) (SR k N F ((i, .row e sz m (putD cs off ds) false) :: H')) :=
  OS.of_skip rfl fun act w hs => by
    obtain ⟨U0, γ, hm0, hf0⟩ := hs
    have hr0 := cells1_RA hm0.one (ev_RA hf0 hy) hc
    have h1' := onesA_RA hm0.one hr0 ho
    obtain ⟨U, hm, ex0, hr⟩ := clos_RD hcl hm0 hr0
    have hf := hf0.mono ex0
    have h := ev_RA hf hx
    generalize hv : act.eval x = v at h
    cases h with
    | @rp _ _ bb n' c' hp =>
      obtain ⟨vs, cur, h1, h2, h3, h4, rfl, h6, h7, h8⟩ := row_at (hm.ent i _ hi) hp
      have hn' : ns.length = n := Nat.eq_of_beq_eq_true hn
      have hl' : off + n ≤ vs.length := by rw [← h3.length]; exact Nat.le_of_ble_eq_true hl
      obtain ⟨ii, hii, hin, hbb⟩ := szB_info ht
      have hlen : (act.eval y).cells.toList.length = n := by rw [← hr0.length, hn']
      have hcurl : vs.length ≤ cur.size := by rw [← h2]; simp; omega
      have hst := run_storeCells_at (P := P) bb off e (act.eval y).cells.toList 0 cur w h1 (by omega) h1'
      simp only [Nat.add_zero] at hst
      refine ⟨w.setRow bb (cur.toList.take off ++ (act.eval y).cells.toList ++ cur.toList.drop (off + (act.eval y).cells.toList.length)).toArray, ?_, ?_⟩
      rotate_left
      · show SR k N F _ (act.put none undef) _
        generalize hW : w.setRow bb (cur.toList.take off ++ (act.eval y).cells.toList ++ cur.toList.drop (off + (act.eval y).cells.toList.length)).toArray = W'
        have g : Agree w U W' U (some bb) := by
          subst hW
          refine ⟨rfl, rfl, rfl, by simp [World.setRow], fun q hq hne => ⟨setRow_other w bb q _ (fun e => hne (by rw [e])), rfl⟩⟩
        have hsz : W'.heap.size = w.heap.size := by subst hW; simp [World.setRow]
        have hU : U bb = 0 := by
          obtain ⟨v', vs', q1, q2, q3, q4⟩ := hm.ent i _ hi
          rw [hp] at q1; cases q1
          simpa using q4 bb rfl
        have hnew : W'.heap[bb]? = some (.cells (cur.toList.take off ++ (act.eval y).cells.toList ++ cur.toList.drop (off + (act.eval y).cells.toList.length)).toArray e (0, 0)) := by
          subst hW; exact setRow_heap w bb cur _ e _ h1
        have := hm.change (i := i) ⟨_, hi, by simp⟩ hp (.inr rfl) (x := some bb) g (fun q hq => hm.wf q (by omega)) (fun q hq => by
          cases hq
          exact ⟨fun o ho => by omega, Nat.le_refl _⟩) (e := .row e sz n' (putD cs off ds) false) (fun ex => by
            refine ⟨_, vs.take off ++ (act.eval y).cells.toList ++ vs.drop (off + (act.eval y).cells.toList.length), hp, ?_, (putD_RD h3 hr off).mono ex.toExt, fun q hq => ?_⟩
            · refine ⟨by simp at hlen ⊢; omega, .inr ⟨bb, c', _, rfl, Nat.zero_le _, hnew, h6, h7, ?_, ?_⟩⟩
              · have : cur.toList.length = cur.size := by simp
                simp only [List.size_toArray, List.length_append, List.length_take, List.length_drop]; omega
              · rw [← h2]
                rw [← h2] at hl'
                simp only [List.length_take] at hl'
                apply List.ext_getElem?
                intro q
                simp only [List.getElem?_take, List.getElem?_append, List.getElem?_drop, List.length_append, List.length_take, hlen, Array.length_toList, List.length_drop] at *
                split <;> (repeat' split) <;> first | rfl | omega | (congr 1; omega) | skip
            · have : q = bb := by simp [blkOf] at hq; exact hq.symm
              subst this
              simpa using hU)
        exact ⟨U, γ, this.1, hf.mono this.2⟩
      · unfold execOp
        simp only [hv]
        refine run_u ?_
        unfold Instr.storeAt Instr.sureAddr storeVar
        simp only [Sem.run_bind, Sem.run_pure, Result.andThen_ok, run_szOf ht]
        have : (act.eval y).cells.size = n := by simpa using hlen
        simp only [this, ne_eq, not_true_eq_false, if_false]
        simpa using hst
end
end Go.Pt
