/- A part of a logic over data for the given program's language: rules for single operations and walks as functions. -/
import Derived.Test.YtnohaiobpmmomaaGreatDoorB6
set_option linter.unusedVariables false
set_option linter.unusedSimpArgs false
namespace Go.Pt
open Go.RowKit

/-- The entry of number i is another one now; of the blocks at most its own has changed. -/
theorem MR.change {k : K0} {H : List (Nat × Ent)} {W W' : World} {U U' : Nat → Nat} {γ : Nat → Option Value} (h : MR k H W U γ) {i : Nat} (l : Live H i) {v : Value} {x : Option Nat} (hv : γ i = some v) (hx : x = none ∨ x = blkOf v) (g : Agree W U W' U' x) (wf' : ∀ b, W'.heap.size ≤ b → U' b = 0)
    (hb : ∀ b, x = some b → (∀ o, o < U b → W'.cell? ⟨b, o, none⟩ = W.cell? ⟨b, o, none⟩) ∧ U b ≤ U' b) {e : Ent} (he : ExtA W U γ W' U' γ → RE W' U' γ i e) :
    MR k ((i, e) :: H) W' U' γ ∧ ExtA W U γ W' U' γ := by
  have ex : ExtA W U γ W' U' γ := ⟨Ext.of_agree g h.wf hb, fun _ _ h => h⟩
  have live_of : ∀ j, Live ((i, e) :: H) j → Live H j := fun j ⟨e', he', hne⟩ => by
    by_cases hj : j = i
    · subst hj; exact l
    · exact ⟨e', by rwa [lk_ne (Ne.symm hj)] at he', hne⟩
  refine ⟨⟨?_, ?_, ?_, ?_, wf', h.one, ?_, k.hA _ _ _ _ _ _ h.anc ex⟩, ex⟩
  · intro j e' he'
    by_cases hj : j = i
    · subst hj
      rw [lk_self] at he'; cases he'
      exact he ex
    · rw [lk_ne (Ne.symm hj)] at he'
      by_cases hd : e' = .dead
      · subst hd; trivial
      · refine (h.ent j e' he').agree g ex (fun u hu => ?_)
        rcases hx with rfl | rfl
        · cases hq : blkOf u <;> simp
        · exact h.dist j i hj ⟨e', he', hd⟩ l u v hu hv
  · exact fun j1 j2 hne l1 l2 => h.dist j1 j2 hne (live_of j1 l1) (live_of j2 l2)
  · intro j u hu
    by_cases hj : j = i
    · subst hj; exact ⟨_, lk_self _ _ _⟩
    · obtain ⟨e', he'⟩ := h.num j u hu
      exact ⟨e', by rw [lk_ne (Ne.symm hj)]; exact he'⟩
  · exact fun j l => h.priv j (live_of j l)
  · refine h.keep.agree g (fun b hb => ?_)
    rcases hx with rfl | rfl
    · cases hb
    · exact h.priv i l v b hv hb
/-- The entry is told anew, nothing having changed. -/
theorem MR.retell {k : K0} {H : List (Nat × Ent)} {W : World} {U : Nat → Nat} {γ : Nat → Option Value} (h : MR k H W U γ) {i : Nat} (l : Live H i) {v : Value} (hv : γ i = some v) {e : Ent} (he : RE W U γ i e) : MR k ((i, e) :: H) W U γ :=
  (h.change l hv (.inl rfl) (x := none) ⟨rfl, rfl, rfl, Nat.le_refl _, fun _ _ _ => ⟨rfl, rfl⟩⟩ h.wf (fun b hb => by cases hb) (fun _ => he)).1

/-- Cells put in at an offset. -/
def putA (cs : List AV) (off : Nat) (ns : List AV) : List AV := cs.take off ++ ns ++ cs.drop (off + ns.length)
theorem putA_RA {W : World} {U : Nat → Nat} {γ : Nat → Option Value} {cs ns : List AV} {vs us : List Value} (h : RAs W U γ cs vs) (h' : RAs W U γ ns us) (off : Nat) : RAs W U γ (putA cs off ns) (vs.take off ++ us ++ vs.drop (off + us.length)) := by
  unfold putA
  rw [h'.length]
  exact ((h.take off).append h').append (h.drop _)

section
variable {P : Program} {ops : Array Oper} {Q : Exit → Act → World → Prop} {k : K0} {N : Nat} {F : List (Nat × AV)} {H : List (Nat × Ent)}
variable {ty : TypeId} {pos : String} {after : Array Edge} {d : Nat}

theorem ptr_block {W : World} {U : Nat → Nat} {γ : Nat → Option Value} {i : Nat} {T : TypeId} {cs : List AV} (h : RE W U γ i (.box T cs)) {b : Nat} (hp : γ i = some (.pointer (some ⟨b, 0, none⟩))) : ∃ vs, W.heap[b]? = some (.cells (List.toArray vs) T (0, 0)) ∧ RAs W U γ cs vs ∧ U b = 0 := by
  obtain ⟨b', vs, h1, h2, h3, h4⟩ := h
  rw [hp] at h1
  cases h1
  exact ⟨vs, h2, h3, h4⟩

/-! ### Places -/
theorem OS.fieldPtr {t : TypeId} {x : Operand} {f fo n : Nat} {b : Bool} {i off : Nat} (ht : fldB P t f = some (fo, n, b)) (hn : Nat.blt 0 n = true) (hx : ev F x = some (.ptr i off)) (hN : Nat.blt d N = true) :
    OS P ops Q ⟨some d, .fieldAddr t x f, ty, pos, after, none⟩ (SR k N F H) (SR k N ((d, .ptr i (off + fo)) :: F) H) :=
  OS.plain rfl rfl hN fun act w U γ _ hf => by
    have h := ev_RA hf hx
    generalize hv : act.eval x = v at h
    cases h with
    | ptr hp =>
      obtain ⟨fs, fl, h1, h2, h3, h4⟩ := fldB_info ht
      refine ⟨_, ?_, .ptr hp⟩
      unfold execOp
      simp only [hv]
      refine run_v ?_
      unfold Instr.fieldAt
      have hn0 : n ≠ 0 := by have := Nat.le_of_ble_eq_true hn; omega
      rw [Sem.run_bind, run_underlying h1]
      simp only [Result.andThen_ok, h2, Instr.sureAddr, fieldPlace, Sem.run_bind, Sem.run_pure, run_szOf h4, if_neg hn0, Addr.add_mid, h3]
theorem OS.fieldEp {t : TypeId} {x : Operand} {f fo n : Nat} {b : Bool} {cs : List DV} (ht : fldB P t f = some (fo, n, b)) (hn : Nat.blt 0 n = true) (hx : ev F x = some (.ep cs)) (hN : Nat.blt d N = true) :
    OS P ops Q ⟨some d, .fieldAddr t x f, ty, pos, after, none⟩ (SR k N F H) (SR k N ((d, .ep (cs.drop fo)) :: F) H) :=
  OS.plain rfl rfl hN fun act w U γ _ hf => by
    have h := ev_RA hf hx
    generalize hv : act.eval x = v at h
    cases h with
    | @ep bb o cs vs hr hc =>
      obtain ⟨fs, fl, h1, h2, h3, h4⟩ := fldB_info ht
      refine ⟨.pointer (some ⟨bb, o + fo, none⟩), ?_, .ep (hr.drop fo) (fun j v hj => ?_)⟩
      · unfold execOp
        simp only [hv]
        refine run_v ?_
        unfold Instr.fieldAt
        have hn0 : n ≠ 0 := by have := Nat.le_of_ble_eq_true hn; omega
        rw [Sem.run_bind, run_underlying h1]
        simp only [Result.andThen_ok, h2, Instr.sureAddr, fieldPlace, Sem.run_bind, Sem.run_pure, run_szOf h4, if_neg hn0, Addr.add_mid, h3]
      · rw [List.getElem?_drop] at hj
        have := hc _ _ hj
        rwa [← Nat.add_assoc] at this
/-- The place of an array's element in a variable. -/
theorem OS.indexPtr {t : TypeId} {x ix : Operand} {m s : Nat} {b : Bool} {i off : Nat} {kk : IntKind} {j : Int} (ht : arrB P t = some (m, s, b)) (hx : ev F x = some (.ptr i off)) (hj : ev F ix = some (.d (.raw (.int kk j)))) (hN : Nat.blt d N = true) (h0 : 0 ≤ j) (h1 : j < m) :
    OS P ops Q ⟨some d, .indexAddr t x ix, ty, pos, after, none⟩ (SR k N F H) (SR k N ((d, .ptr i (off + j.toNat * s)) :: F) H) :=
  OS.plain rfl rfl hN fun act w U γ _ hf => by
    have h := ev_RA hf hx
    have h2 := raw_eval hf hj
    generalize hv : act.eval x = v at h
    cases h with
    | ptr hp =>
      obtain ⟨e, h3, h4⟩ := arrB_info ht
      refine ⟨_, ?_, .ptr hp⟩
      unfold execOp
      simp only [hv, h2]
      refine run_v ?_
      unfold Instr.indexAt
      simp [asIntOf, run_underlying h3, Instr.sureAddr, h0, h1, run_szOf h4, Addr.add_mid]
/-- The place of an element of sealed data. -/
theorem OS.indexSl {t : TypeId} {x ix : Operand} {e : TypeId} {n s y : Nat} {b : Bool} {cs es : List DV} {kk : IntKind} {j : Int} (ht : slB P t = some (e, s, b, y)) (hx : ev F x = some (.d (.sl n cs))) (hj : ev F ix = some (.d (.raw (.int kk j)))) (hN : Nat.blt d N = true) (h0 : 0 ≤ j) (h1 : j < n) (he : (cs.drop (j.toNat * s)).take s = es) :
    OS P ops Q ⟨some d, .indexAddr t x ix, ty, pos, after, none⟩ (SR k N F H) (SR k N ((d, .ep es) :: F) H) :=
  OS.plain rfl rfl hN fun act w U γ _ hf => by
    have h := ev_RA hf hx
    have h2 := raw_eval hf hj
    generalize hv : act.eval x = v at h
    obtain ⟨h3, h4, _⟩ := slB_info ht
    cases h with
    | d hd =>
      cases hd with
      | nil a k => omega
      | @sl n k bb o cs vs hk hm hr hc =>
        subst he
        refine ⟨.pointer (some ⟨bb, o + j.toNat * s, none⟩), ?_, .ep ((hr.drop _).take _) (fun q v hq => ?_)⟩
        · unfold execOp
          simp only [hv, h2]
          refine run_v ?_
          unfold Instr.indexAt
          simp [asIntOf, run_underlying h3, h0, h1, run_szOf h4, Addr.add_mid]
        · rw [List.getElem?_take] at hq
          split at hq
          · rw [List.getElem?_drop] at hq
            have := hc _ _ hq
            rwa [← Nat.add_assoc] at this
          · cases hq
/-- The place of an element of the call's own sealed row. -/
theorem OS.indexOwn {t : TypeId} {x ix : Operand} {e e' : TypeId} {n s s' y i : Nat} {b : Bool} {cs es : List DV} {kk : IntKind} {j : Int} (ht : slB P t = some (e, s, b, y)) (hx : ev F x = some (.own i)) (hi : lk H i = some (.row e' s' n cs true)) (hj : ev F ix = some (.d (.raw (.int kk j)))) (hN : Nat.blt d N = true) (h0 : 0 ≤ j) (h1 : j < n) (he : (cs.drop (j.toNat * s)).take s = es) :
    OS P ops Q ⟨some d, .indexAddr t x ix, ty, pos, after, none⟩ (SR k N F H) (SR k N ((d, .ep es) :: F) H) := by
  refine OS.plain rfl rfl hN fun act w U γ hm hf => ?_
  have h := ev_RA hf hx
  have h2 := raw_eval hf hj
  generalize hv : act.eval x = v at h
  obtain ⟨h3, h4, _⟩ := slB_info ht
  obtain ⟨u, vs, g1, g2, g3, g4⟩ := hm.ent i _ hi
  cases h with
  | own hg =>
    rw [g1] at hg; cases hg
    rcases g2.2 with ⟨rfl, hn⟩ | ⟨bb, cap, cur, rfl, _, hg, hcap, hmx, hsz, htk⟩
    · omega
    · subst he
      have hU := g4 bb rfl
      simp only [cond_true] at hU
      refine ⟨.pointer (some ⟨bb, 0 + j.toNat * s, none⟩), ?_, .ep ((g3.drop _).take _) (fun q v hq => ?_)⟩
      · unfold execOp
        simp only [hv, h2]
        refine run_v ?_
        unfold Instr.indexAt
        simp [asIntOf, run_underlying h3, h0, h1, run_szOf h4, Addr.add_mid]
      · rw [List.getElem?_take] at hq
        split at hq
        · rw [List.getElem?_drop] at hq
          have hc := g2.cells (g := bb) rfl _ _ hq
          rw [Addr.add_mid] at hc
          have hlt : j.toNat * s + q < vs.length := by
            rcases Nat.lt_or_ge (j.toNat * s + q) vs.length with h | h
            · exact h
            · rw [List.getElem?_eq_none h] at hq; cases hq
          refine ⟨by rw [← Nat.add_assoc] at hc; exact hc, ?_⟩
          rw [hU, ← g2.1]
          omega
        · cases hq

/-! ### Loads and stores -/
theorem run_loadVar_cells {w : World} {t : TypeId} {n : Nat} {b : Bool} (ht : szB P t = some (n, b)) {bb o : Nat} {vs : List Value} (hc : w.rangeAt bb o vs) {v : Value} (hn : vs.length = n) (hv : (if b then some (.agg vs.toArray) else vs.head?) = some v) : (loadVar t ⟨bb, o, none⟩).run P w = .ok v w := by
  obtain ⟨i, hi, hin, hb⟩ := szB_info ht
  unfold loadVar
  rw [Sem.run_bind, run_isAgg hb]
  cases b
  · simp at hv
    cases vs with
    | nil => simp at hv
    | cons u us =>
      simp at hv; subst hv
      have := hc 0 u rfl
      simp only [Nat.add_zero] at this
      simp [load, Sem.run, this]
  · simp at hv; subst hv
    have hl : (loadCells ⟨bb, o, none⟩ vs.length).run P w = .ok vs.toArray w := run_loadCells_list (P := P) w ⟨bb, o, none⟩ vs (fun j v hv => by rw [Addr.add_mid]; exact hc j v hv)
    simp [run_szOf ht, ← hn, hl]
theorem OS.loadPtr {t : TypeId} {x : Operand} {n : Nat} {b : Bool} {i off : Nat} {T : TypeId} {cs : List AV} {z : AV} (ht : szB P t = some (n, b)) (hx : ev F x = some (.ptr i off)) (hi : lk H i = some (.box T cs)) (hz : sub cs off n b = some z) (hb : (b || Nat.beq n 1) = true) (hl : Nat.ble (off + n) cs.length = true) (hN : Nat.blt d N = true) :
    OS P ops Q ⟨some d, .load t x, ty, pos, after, none⟩ (SR k N F H) (SR k N ((d, z) :: F) H) :=
  OS.plain rfl rfl hN fun act w U γ hm hf => by
    have h := ev_RA hf hx
    generalize hv : act.eval x = v at h
    cases h with
    | ptr hp =>
      obtain ⟨vs, h1, h2, h3⟩ := ptr_block (hm.ent i _ hi) hp
      obtain ⟨u, h4, h5⟩ := sub_RA h2 hz
      have hlen : off + n ≤ vs.length := by rw [← h2.length]; exact Nat.le_of_ble_eq_true hl
      refine ⟨u, ?_, h5⟩
      unfold execOp
      simp only [hv]
      refine run_v ?_
      unfold Instr.loadAt Instr.sureAddr
      simp only [Sem.run_bind, Sem.run_pure, Result.andThen_ok]
      refine run_loadVar_cells ht (vs := (vs.drop off).take n) (fun j v hj => ?_) (by simp; omega) ?_
      · rw [List.getElem?_take] at hj
        split at hj
        · rw [List.getElem?_drop] at hj
          simp [World.cell?, h1, hj]
        · cases hj
      · cases b
        · have hn1 : n = 1 := Nat.eq_of_beq_eq_true (by simpa using hb)
          subst hn1
          simp at h4 ⊢
          rw [← h4, List.head?_take]
          simp [List.head?_drop]
        · simp at h4 ⊢
          rw [← h4]
/-- The same of data. -/
def subD (es : List DV) (n : Nat) (b : Bool) : Option DV := bif b then some (.agg (es.take n)) else es.head?
theorem OS.loadEp {t : TypeId} {x : Operand} {n : Nat} {b : Bool} {es : List DV} {z : DV} (ht : szB P t = some (n, b)) (hx : ev F x = some (.ep es)) (hz : subD es n b = some z) (hb : (b || Nat.beq n 1) = true) (hl : Nat.ble n es.length = true) (hN : Nat.blt d N = true) :
    OS P ops Q ⟨some d, .load t x, ty, pos, after, none⟩ (SR k N F H) (SR k N ((d, .d z) :: F) H) :=
  OS.plain rfl rfl hN fun act w U γ hm hf => by
    have h := ev_RA hf hx
    generalize hv : act.eval x = v at h
    cases h with
    | @ep bb o cs vs hr hc =>
      have hlen : n ≤ vs.length := by rw [← hr.length]; exact Nat.le_of_ble_eq_true hl
      have hrange : w.rangeAt bb o (vs.take n) := fun j v hj => by
        rw [List.getElem?_take] at hj
        split at hj
        · exact (hc j v hj).1
        · cases hj
      have hu : ∃ u, (if b then some (.agg (vs.take n).toArray) else (vs.take n).head?) = some u ∧ RD w U z u := by
        cases b
        · have hn1 : n = 1 := Nat.eq_of_beq_eq_true (by simpa using hb)
          subst hn1
          simp only [subD, cond_false] at hz
          cases hr with
          | nil => simp at hz
          | cons h1 h2 => simp at hz; subst hz; exact ⟨_, by simp, h1⟩
        · simp only [subD, cond_true, Option.some.injEq] at hz
          subst hz
          exact ⟨_, rfl, .agg (hr.take n)⟩
      obtain ⟨u, h4, h5⟩ := hu
      refine ⟨u, ?_, .d h5⟩
      unfold execOp
      simp only [hv]
      refine run_v ?_
      unfold Instr.loadAt Instr.sureAddr
      simp only [Sem.run_bind, Sem.run_pure, Result.andThen_ok]
      exact run_loadVar_cells ht hrange (by simp; omega) h4
theorem putA_length {cs ns : List AV} {off : Nat} (h : off + ns.length ≤ cs.length) : (putA cs off ns).length = cs.length := by
  simp [putA]; omega
theorem OS.store {t : TypeId} {x y : Operand} {n : Nat} {b : Bool} {i off : Nat} {T : TypeId} {cs ns : List AV} {yv : AV} (ht : szB P t = some (n, b)) (hx : ev F x = some (.ptr i off)) (hy : ev F y = some yv) (hc : cells1 yv = some ns) (hi : lk H i = some (.box T cs)) (ho : onesA ns = true) (hn : Nat.beq ns.length n = true) (hl : Nat.ble (off + n) cs.length = true) :
    OS P ops Q ⟨none, .store t x y, ty, pos, after, none⟩ (SR k N F H) (SR k N F ((i, .box T (putA cs off ns)) :: H)) :=
  OS.of_skip rfl fun act w hs => by
    obtain ⟨U, γ, hm, hf⟩ := hs
    have h := ev_RA hf hx
    have h' := ev_RA hf hy
    generalize hv : act.eval x = v at h
    cases h with
    | @ptr _ _ bb hp =>
      obtain ⟨vs, h1, h2, h3⟩ := ptr_block (hm.ent i _ hi) hp
      have hr := cells1_RA hm.one h' hc
      have h1' := onesA_RA hm.one hr ho
      have hn' : ns.length = n := Nat.eq_of_beq_eq_true hn
      have hl' : off + n ≤ vs.length := by rw [← h2.length]; exact Nat.le_of_ble_eq_true hl
      obtain ⟨ii, hii, hin, hbb⟩ := szB_info ht
      have hlen : (act.eval y).cells.toList.length = n := by rw [← hr.length, hn']
      have hst := run_storeCells_at (P := P) bb off T (act.eval y).cells.toList 0 vs.toArray w h1 (by simp at hlen ⊢; omega) h1'
      simp only [Nat.add_zero] at hst
      refine ⟨w.setRow bb (vs.take off ++ (act.eval y).cells.toList ++ vs.drop (off + (act.eval y).cells.toList.length)).toArray, ?_, ?_⟩
      rotate_left
      · show SR k N F _ (act.put none undef) _
        generalize hW : w.setRow bb (vs.take off ++ (act.eval y).cells.toList ++ vs.drop (off + (act.eval y).cells.toList.length)).toArray = W'
        have g : Agree w U W' U (some bb) := by
          subst hW
          refine ⟨rfl, rfl, rfl, by simp [World.setRow], fun q hq hne => ⟨setRow_other w bb q _ (fun e => hne (by rw [e])), rfl⟩⟩
        have hsz : W'.heap.size = w.heap.size := by subst hW; simp [World.setRow]
        have := hm.change (i := i) ⟨_, hi, by simp⟩ hp (.inr rfl) (x := some bb) g (fun q hq => hm.wf q (by omega)) (fun q hq => by
          cases hq
          exact ⟨fun o ho => by omega, Nat.le_refl _⟩) (e := .box T (putA cs off ns)) (fun ex => ⟨bb, _, hp, ?_, (putA_RA h2 hr off).mono ex, h3⟩)
        · exact ⟨U, γ, this.1, hf.mono this.2⟩
        · subst hW
          exact setRow_heap w bb _ _ T (0, 0) h1
      · unfold execOp
        simp only [hv]
        refine run_u ?_
        unfold Instr.storeAt Instr.sureAddr storeVar
        simp only [Sem.run_bind, Sem.run_pure, Result.andThen_ok, run_szOf ht]
        have : (act.eval y).cells.size = n := by simpa using hlen
        simp only [this, ne_eq, not_true_eq_false, if_false]
        simpa using hst
end
end Go.Pt
