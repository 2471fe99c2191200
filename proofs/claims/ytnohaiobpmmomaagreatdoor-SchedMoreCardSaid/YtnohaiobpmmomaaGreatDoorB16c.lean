/- A part of a logic over data for the given program's language: rules for single operations and walks as functions. -/
import Derived.Test.YtnohaiobpmmomaaGreatDoorB16b
set_option linter.unusedVariables false
set_option linter.unusedSimpArgs false
namespace Go.Pt
open Go.RowKit

section
variable {P : Program}
theorem run_append_zeros_nil (w : World) (t u ty e : TypeId) (i : TypeInfo) (z : Value) (kk k' : IntKind) (ht : P.underlying t = some (.slice e)) (hu : P.underlying u = some (.int kk)) (hi : P.info? e = some i) (hz : i.zero = some z)
    (n : Nat) (h0 : 0 < n) (h63 : (n : Int) ≤ 9223372036854775807) (h48 : n * i.bytes ≤ 281474976710656) (hsz : 0 < i.size) :
    (Builtin.append_ #[t, u] ty #[.slice none 0 0, .int k' n]).run P w =
      .ok (.slice (some ⟨w.heap.size, 0, none⟩) n (grownCap w n 0 e)) (w.drew.alloc (.cells (Builtin.zeroCells z.cells n ++ Builtin.zeroCells z.cells (grownCap w n 0 e - n)) e)) := by
  have hn : n ≠ 0 := by omega
  have hw : IntKind.i64.wrap (n : Int) = n := wrap64 (by omega)
  have h63' : ¬ (9223372036854775807 < (n : Int)) := by omega
  have hneg : ¬ ((n : Int) < 0) := by omega
  have h48' : ¬ (281474976710656 < Builtin.nextslicecap n 0 * i.bytes) := by rw [nextslicecap_zero h0]; omega
  have h48z : ¬ (281474976710656 < (n : Int) * i.bytes) := by
    rw [← Int.natCast_mul]
    omega
  have hs : ¬ (i.size = 0) := by omega
  simp [Builtin.append_, run_underlying ht, run_underlying hu, sizeOf, typeInfo, zeroValue, hi, hz, asInt, asIntOf, hw, hn, h63', hneg, h48', h48z, Question.forced, Builtin.firstCells, newRow, grownCap, hs]
  intro h9
  exact absurd h9 (Nat.mul_ne_zero hn hs)
variable {ops : Array Oper} {Q : Exit → Act → World → Prop} {k : K0} {N : Nat} {F : List (Nat × AV)} {H : List (Nat × Ent)}
variable {ty : TypeId} {pos : String} {after : Array Edge} {d : Nat}
/-- 'append(nil, make(.., n)...)'. -/
theorem OS.appendZeros {s x : Operand} {t u e j sz y n : Nat} {bb : Bool} {z : Value} {kk k' : IntKind} (ht : slB P t = some (e, sz, bb, y)) (hu : intB P u = some kk) (hz : zeroB P e = some z) (hzs : Nat.beq z.cells.size sz = true)
    (hs : ev F s = some (.d (.raw (.slice none 0 0)))) (hx : ev F x = some (.d (.raw (.int k' n)))) (hj : lk H j = none) (hN : Nat.blt d N = true) (hn : 0 < n) (h63 : n ≤ 9223372036854775807) (hby : n * y ≤ 140737488355328) (hsz : Nat.blt 0 sz = true) :
    OS P ops Q ⟨some d, .call ⟨.builtin .append, #[s, x], #[t, u]⟩, ty, pos, after, none⟩ (SR k N F H) (SR k N ((d, .own j) :: F) ((j, .row e sz n (rawsD (Builtin.zeroCells z.cells n).toList) false) :: H)) :=
  OS.of_value rfl fun act w hs' => by
    obtain ⟨U, γ, hm, hf⟩ := hs'
    obtain ⟨hu', _, ie, hie, hiy, his⟩ := slB_info ht
    have hzz : ie.zero = some z := by unfold zeroB at hz; simpa [hie] using hz
    have hzs' : z.cells.size = sz := Nat.eq_of_beq_eq_true hzs
    have hsz' : 0 < sz := Nat.le_of_ble_eq_true hsz
    subst his
    subst hiy
    have hrun := run_append_zeros_nil (P := P) w t u ty e ie z kk k' hu' (intB_info hu) hie hzz n hn (by omega) (by omega) hsz'
    have hl : (Builtin.zeroCells z.cells n).toList.length = n * ie.size := by rw [Array.length_toList, size_zeroCells, hzs']
    have hrow := grown_row w e ie.size 0 0 z hzs' (Builtin.zeroCells z.cells n).toList n hl h63
    rw [Array.toArray_toList] at hrow
    have ag : Agree w U (w.drew.alloc (.cells (Builtin.zeroCells z.cells n ++ Builtin.zeroCells z.cells (grownCap w n 0 e - n)) e)) U none :=
      ⟨rfl, rfl, rfl, (grown_drew w _ none).size, fun q hq _ => ⟨(grown_drew w _ none).block q hq (by simp), rfl⟩⟩
    have hsize : (w.drew.alloc (.cells (Builtin.zeroCells z.cells n ++ Builtin.zeroCells z.cells (grownCap w n 0 e - n)) e)).heap.size = w.heap.size + 1 := World.size_alloc _ _
    have := hm.fresh hj ag (fun q hq => hm.wf q (by omega)) (v := .slice (some ⟨w.heap.size, 0, none⟩) n (grownCap w n 0 e)) rfl (fun q hq => by simp [blkOf] at hq; omega) (e := .row e ie.size n (rawsD (Builtin.zeroCells z.cells n).toList) false) (fun ex => ⟨_, _, upd_self _ _ _, hrow, rawsD_RD _, fun q hq => by
      have : q = w.heap.size := by simp [blkOf] at hq; exact hq.symm
      subst this
      simpa using hm.wf _ (Nat.le_refl _)⟩)
    refine ⟨_, _, run_call_builtin Builtin.append_ (fun _ _ _ _ => rfl) ?_, U, _, this.1, hf.put this.2 (Nat.le_of_ble_eq_true hN) (.own (upd_self _ _ _))⟩
    simpa [raw_eval hf hs, raw_eval hf hx] using hrun
/-- 'nil[:0]' is nil. -/
theorem OS.sliceNil {t e : TypeId} {x : Operand} {lo hi : Option Operand} {s y : Nat} {b : Bool} (ht : slB P t = some (e, s, b, y)) (hx : ev F x = some (.d (.raw (.slice none 0 0)))) (hlo : bnd F lo 0 = some 0) (hhi : bnd F hi (0 : Nat) = some 0) (hN : Nat.blt d N = true) :
    OS P ops Q ⟨some d, .slice t x lo hi none, ty, pos, after, none⟩ (SR k N F H) (SR k N ((d, .d (.raw (.slice none 0 0))) :: F) H) :=
  OS.plain rfl rfl hN fun act w U γ hm hf => by
    obtain ⟨hu, hsz, _⟩ := slB_info ht
    have hb := run_sliceBounds (P := P) (isS := true) (len := 0) (cap := 0) hf hlo hhi (Int.le_refl _) (Int.le_refl _) (by omega)
    refine ⟨_, ?_, .d (.raw _)⟩
    unfold execOp
    refine run_v ?_
    simp only [raw_eval hf hx, Option.map_none]
    unfold Instr.sliceAt Instr.slice
    simp only [Sem.run_bind, run_underlying hu, Result.andThen_ok, hb, run_szOf hsz]
    simp
/-- 's[:0]' of a row of the call's own is one, too. -/
theorem OS.sliceOwn {t e e' : TypeId} {x : Operand} {hi : Option Operand} {s y sz n i j : Nat} {b : Bool} {cs : List DV} (ht : slB P t = some (e, s, b, y)) (hx : ev F x = some (.own i)) (hi' : lk H i = some (.row e' sz n cs false)) (hj : lk H j = none) (hhi : bnd F hi n = some 0) (hN : Nat.blt d N = true) :
    OS P ops Q ⟨some d, .slice t x none hi none, ty, pos, after, none⟩ (SR k N F H) (SR k N ((d, .own j) :: F) ((j, .row e' sz 0 [] false) :: (i, .dead) :: H)) :=
  OS.of_value rfl fun act w hs' => by
    obtain ⟨U, γ, hm, hf⟩ := hs'
    obtain ⟨hu, hsz, _⟩ := slB_info ht
    have hr := ev_RA hf hx
    generalize hv : act.eval x = v at hr
    cases hr with
    | own hγ =>
      obtain ⟨v', vs, g1, g2, g3, g4⟩ := hm.ent i _ hi'
      rw [hγ] at g1; cases g1
      have turn : ∀ {v'' : Value}, v''.oneCell' = true → (∀ q, blkOf v'' = some q → blkOf v = some q) → w.ownsRow 0 e' sz v'' 0 [] → MR k ((j, .row e' sz 0 [] false) :: (i, .dead) :: H) w U (upd γ j v'') ∧ ExtA w U γ w U (upd γ j v'') := fun {v''} h1 h2 h3 =>
        hm.turn (j := j) ⟨_, hi', by simp⟩ hj hγ (v' := v'') ⟨rfl, rfl, rfl, Nat.le_refl _, fun _ _ _ => ⟨rfl, rfl⟩⟩ hm.wf (fun q _ => ⟨fun _ _ => rfl, Nat.le_refl _⟩) h1 (fun q hq => .inl (h2 q hq)) (fun ex => ⟨v'', [], upd_self _ _ _, h3, .nil, fun q hq => by
          have := g4 q (h2 q hq)
          simpa using this⟩)
      rcases g2.2 with ⟨rfl, rfl⟩ | ⟨bb, cap, cur, rfl, _, hg, hcap, hmx, hcs, htk⟩
      · have hb := run_sliceBounds (P := P) (isS := true) (len := 0) (cap := 0) (lo := none) (l := 0) hf rfl hhi (Int.le_refl _) (Int.le_refl _) (by omega)
        have := turn (v'' := .slice none 0 0) rfl (fun q hq => by simp [blkOf] at hq) (World.ownsRow_nil w 0 e' sz)
        refine ⟨_, w, ?_, U, _, this.1, hf.put this.2 (Nat.le_of_ble_eq_true hN) (.own (upd_self _ _ _))⟩
        unfold execOp
        refine run_v ?_
        simp only [hv, Option.map_none]
        unfold Instr.sliceAt Instr.slice
        simp only [Option.map_none] at hb
        simp only [Sem.run_bind, run_underlying hu, Result.andThen_ok, hb, run_szOf hsz]
        simp
      · have hb := run_sliceBounds (P := P) (isS := true) (len := n) (cap := cap) (lo := none) (l := 0) hf rfl hhi (Int.le_refl _) (Int.le_refl _) (by omega)
        have := turn (v'' := .slice (some ⟨bb, 0, none⟩) 0 cap) rfl (fun q hq => by simpa [blkOf] using hq) ⟨by simp, .inr ⟨bb, cap, cur, rfl, Nat.zero_le _, hg, Nat.zero_le _, hmx, hcs, by simp⟩⟩
        refine ⟨_, w, ?_, U, _, this.1, hf.put this.2 (Nat.le_of_ble_eq_true hN) (.own (upd_self _ _ _))⟩
        unfold execOp
        refine run_v ?_
        simp only [hv, Option.map_none]
        unfold Instr.sliceAt Instr.slice
        simp only [Option.map_none] at hb
        simp only [Sem.run_bind, run_underlying hu, Result.andThen_ok, hb, run_szOf hsz]
        by_cases hz : cap = 0 <;> simp [hz, Addr.add_mid]
/-- The place of an element of an array that stays. -/
theorem OS.indexEp {t : TypeId} {x ix : Operand} {m s : Nat} {b : Bool} {cs : List DV} {kk : IntKind} {j : Int} (ht : arrB P t = some (m, s, b)) (hx : ev F x = some (.ep cs)) (hj : ev F ix = some (.d (.raw (.int kk j)))) (hN : Nat.blt d N = true) (h0 : 0 ≤ j) (h1 : j < m) :
    OS P ops Q ⟨some d, .indexAddr t x ix, ty, pos, after, none⟩ (SR k N F H) (SR k N ((d, .ep (cs.drop (j.toNat * s))) :: F) H) :=
  OS.plain rfl rfl hN fun act w U γ _ hf => by
    have h := ev_RA hf hx
    have h2 := raw_eval hf hj
    generalize hv : act.eval x = v at h
    cases h with
    | @ep bb o cs vs hr hc =>
      obtain ⟨e, h3, h4⟩ := arrB_info ht
      refine ⟨.pointer (some ⟨bb, o + j.toNat * s, none⟩), ?_, .ep (hr.drop _) (fun q u hq => ?_)⟩
      · unfold execOp
        simp only [hv, h2]
        refine run_v ?_
        unfold Instr.indexAt
        simp [asIntOf, run_underlying h3, Instr.sureAddr, h0, h1, run_szOf h4, Addr.add_mid]
      · rw [List.getElem?_drop] at hq
        have := hc _ _ hq
        rwa [← Nat.add_assoc] at this
theorem OS.neg {xt : TypeId} {x : Operand} {k1 : IntKind} {a : Int} (hx : ev F x = some (.d (.raw (.int k1 a)))) (hN : Nat.blt d N = true) :
    OS P ops Q ⟨some d, .unOp .neg xt x, ty, pos, after, none⟩ (SR k N F H) (SR k N ((d, .d (.raw (.int k1 (k1.wrap (-a))))) :: F) H) :=
  OS.plain rfl rfl hN fun act w U γ _ hf => ⟨.int k1 (k1.wrap (-a)), by unfold execOp; simp only [raw_eval hf hx]; exact run_v (by simp [Op.unary, Op.intArith]), .d (.raw _)⟩
mutual
theorem clo_keeps {i : Nat} {T : TypeId} {bs : List AV} : ∀ {y : AV} {H H' : List (Nat × Ent)} {x : DV}, clo H y = some (H', x) → lk H i = some (.box T bs) → lk H' i = some (.box T bs)
  | .d x, H, H', x', h, hf => by simp only [clo, Option.some.injEq, Prod.mk.injEq] at h; obtain ⟨rfl, _⟩ := h; exact hf
  | .nn n cs, H, H', x', h, hf => by simp only [clo, Option.some.injEq, Prod.mk.injEq] at h; obtain ⟨rfl, _⟩ := h; exact hf
  | .full n cs, H, H', x', h, hf => by simp only [clo, Option.some.injEq, Prod.mk.injEq] at h; obtain ⟨rfl, _⟩ := h; exact hf
  | .own j, H, H', x', h, hf => by
    simp only [clo] at h
    split at h
    · rename_i b hi
      simp only [Option.some.injEq, Prod.mk.injEq] at h
      obtain ⟨rfl, _⟩ := h
      cases b
      · have : j ≠ i := fun q => by subst q; rw [hi] at hf; cases hf
        simp only [cond_false]
        rw [lk_ne this]; exact hf
      · exact hf
    · cases h
  | .agg cs, H, H', x', h, hf => by
    simp only [clo] at h
    split at h
    · rename_i h1; simp only [Option.some.injEq, Prod.mk.injEq] at h; obtain ⟨rfl, _⟩ := h; exact clos_keeps h1 hf
    · cases h
  | .tup cs, H, H', x', h, hf => by
    simp only [clo] at h
    split at h
    · rename_i h1; simp only [Option.some.injEq, Prod.mk.injEq] at h; obtain ⟨rfl, _⟩ := h; exact clos_keeps h1 hf
    · cases h
  | .ptr _ _, _, _, _, h, _ => by simp [clo] at h
  | .rp _ _, _, _, _, h, _ => by simp [clo] at h
  | .ep _, _, _, _, h, _ => by simp [clo] at h
  | .fn _ _ _, _, _, _, h, _ => by simp [clo] at h
theorem clos_keeps {i : Nat} {T : TypeId} {bs : List AV} : ∀ {ys : List AV} {H H' : List (Nat × Ent)} {xs : List DV}, clos H ys = some (H', xs) → lk H i = some (.box T bs) → lk H' i = some (.box T bs)
  | [], H, H', xs, h, hf => by simp only [clos, Option.some.injEq, Prod.mk.injEq] at h; obtain ⟨rfl, _⟩ := h; exact hf
  | y :: r, H, H', xs, h, hf => by
    simp only [clos] at h
    split at h
    · rename_i h1
      split at h
      · rename_i h2; simp only [Option.some.injEq, Prod.mk.injEq] at h; obtain ⟨rfl, _⟩ := h; exact clos_keeps h2 (clo_keeps h1 hf)
      · cases h
    · cases h
end
/-- A slice of an array variable of the call's own: the array is data from now on. -/
theorem OS.sliceBox {t : TypeId} {x : Operand} {lo hi : Option Operand} {m s i : Nat} {b : Bool} {T : TypeId} {cs : List AV} {ds : List DV} {H' : List (Nat × Ent)} {l h : Int} (ht : arrB P t = some (m, s, b)) (hx : ev F x = some (.ptr i 0)) (hi' : lk H i = some (.box T cs)) (hc : clos H cs = some (H', ds)) (hlo : bnd F lo 0 = some l) (hhi : bnd F hi m = some h)
    (hN : Nat.blt d N = true) (h0 : 0 ≤ l) (h1 : l ≤ h) (h2 : h ≤ m) (hm : m ≤ 9223372036854775807) (hl : cs.length = m * s) :
    OS P ops Q ⟨some d, .slice t x lo hi none, ty, pos, after, none⟩ (SR k N F H) (SR k N ((d, .d (.sl (h - l).toNat ((ds.drop (l.toNat * s)).take ((h - l).toNat * s)))) :: F) ((i, .dead) :: H')) :=
  OS.of_value rfl fun act w hs' => by
    obtain ⟨U, γ, hmr, hf⟩ := hs'
    have hr := ev_RA hf hx
    generalize hv : act.eval x = v at hr
    cases hr with
    | @ptr _ _ bb hp =>
      obtain ⟨vs, g1, g2, g3⟩ := ptr_block (hmr.ent i _ hi') hp
      obtain ⟨U1, q1, q2, q3⟩ := clos_RD hc hmr g2
      have hi2 := clos_keeps hc hi'
      have hlt : bb < w.heap.size := (Array.getElem?_eq_some_iff.1 g1).1
      have hU1 : U1 bb = 0 := by
        obtain ⟨b', vs', r1, r2, r3, r4⟩ := q1.ent i _ hi2
        rw [hp] at r1; cases r1; exact r4
      have hlen : vs.length = m * s := by rw [← g2.length, hl]
      have hch := q1.change (i := i) ⟨_, hi2, by simp⟩ (q2.num _ _ hp) (.inr rfl) (x := some bb) (W' := w) (U' := fun q => if q = bb then m * s else U1 q) (e := .dead) ⟨rfl, rfl, rfl, Nat.le_refl _, fun q _ hne => ⟨rfl, by
        have : q ≠ bb := fun e => hne (by rw [e])
        simp [this]⟩⟩ (fun q hq => by
          have : q ≠ bb := by omega
          simp only [if_neg this]
          exact q1.wf q hq) (fun q hq => by
          cases hq
          exact ⟨fun _ _ => rfl, by rw [hU1]; exact Nat.zero_le _⟩) (fun _ => trivial)
      obtain ⟨e, h3, h4⟩ := arrB_info ht
      have hf2 := (hf.mono q2).mono hch.2
      have hb := run_sliceBounds (P := P) (isS := false) (len := m) (cap := m) hf hlo hhi h0 h1 (by omega)
      by_cases hz : m = l.toNat
      · have e0 : h - l = 0 := by omega
        refine ⟨.slice (some ⟨bb, 0, none⟩) (h.toNat - l.toNat) (m - l.toNat), w, ?_, _, _, hch.1, hf2.put (ExtA.refl _ _ _) (Nat.le_of_ble_eq_true hN) (.d ?_)⟩
        · unfold execOp
          refine run_v ?_
          simp only [hv, Option.map_none]
          unfold Instr.sliceAt Instr.sureAddr
          simp only [Sem.run_bind, run_underlying h3, Result.andThen_ok, hb, run_szOf h4, Sem.run_pure]
          rw [if_pos hz]
        · rw [e0, show h.toNat - l.toNat = 0 by omega]
          simpa using RD.nil _ _
      · refine ⟨.slice (some ⟨bb, 0 + l.toNat * s, none⟩) (h.toNat - l.toNat) (m - l.toNat), w, ?_, _, _, hch.1, hf2.put (ExtA.refl _ _ _) (Nat.le_of_ble_eq_true hN) (.d ?_)⟩
        · unfold execOp
          refine run_v ?_
          simp only [hv, Option.map_none]
          unfold Instr.sliceAt Instr.sureAddr
          simp only [Sem.run_bind, run_underlying h3, Result.andThen_ok, hb, run_szOf h4, Sem.run_pure]
          rw [if_neg hz]
          simp [Addr.add_mid]
        · rw [show (h - l).toNat = h.toNat - l.toNat by omega]
          refine .sl (by omega) (by omega) (((q3.mono hch.2.toExt).drop _).take _) (fun q u hq => ?_)
          rw [List.getElem?_take] at hq
          split at hq
          · rw [List.getElem?_drop] at hq
            have hql : l.toNat * s + q < vs.length := by
              rcases Nat.lt_or_ge (l.toNat * s + q) vs.length with h9 | h9
              · exact h9
              · rw [List.getElem?_eq_none h9] at hq; cases hq
            refine ⟨?_, ?_⟩
            · rw [Nat.zero_add]
              simp [World.cell?, g1, hq]
            · simp
              omega
          · cases hq
/-- 'cap(nil)'. -/
theorem OS.capNil {t e : TypeId} {x : Operand} {s y : Nat} {b : Bool} (ht : slB P t = some (e, s, b, y)) (hx : ev F x = some (.d (.raw (.slice none 0 0)))) (hN : Nat.blt d N = true) :
    OS P ops Q ⟨some d, .call ⟨.builtin .cap, #[x], #[t]⟩, ty, pos, after, none⟩ (SR k N F H) (SR k N ((d, .d (.raw (.int .i64 0))) :: F) H) :=
  OS.plain rfl rfl hN fun act w U γ hm hf => by
    refine ⟨.int .i64 0, run_call_builtin Builtin.cap_ (fun _ _ _ _ => rfl) ?_, .d (.raw _)⟩
    obtain ⟨hu, _⟩ := slB_info ht
    simp [Builtin.cap_, run_underlying hu, raw_eval hf hx, goInt]
end
end Go.Pt
