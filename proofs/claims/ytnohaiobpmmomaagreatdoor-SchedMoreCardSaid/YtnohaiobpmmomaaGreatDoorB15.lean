/- A part of a logic over data for the given program's language: rules for single operations and walks as functions. -/
import Derived.Test.YtnohaiobpmmomaaGreatDoorB14
set_option linter.unusedVariables false
set_option linter.unusedSimpArgs false
namespace Go.Pt
open Go.RowKit

section
variable {P : Program} {ops : Array Oper} {Q : Exit → Act → World → Prop} {k : K0} {N : Nat} {F : List (Nat × AV)} {H : List (Nat × Ent)}
variable {ty : TypeId} {pos : String} {after : Array Edge} {d : Nat}

/-! ### Slicing -/
/-- A bound: a number, or what stands for it. -/
def bnd (F : List (Nat × AV)) (o : Option Operand) (dflt : Int) : Option Int :=
  match o with
  | none => some dflt
  | some x => match ev F x with
    | some (.d (.raw (.int _ i))) => some i
    | _ => none
theorem run_sliceBound {w : World} {kk : IntKind} {i : Int} {y : Nat} (c : BoundsCode) (h0 : 0 ≤ i) (h1 : i ≤ y) : (Instr.sliceBound (.int kk i) y c).run P w = .ok i.toNat w := by
  simp [Instr.sliceBound, asIntOf, h0, h1]
theorem bnd_some {W : World} {U : Nat → Nat} {γ : Nat → Option Value} {act : Act} (hf : FR N F W U γ act) {x : Operand} {dv i : Int} (h : bnd F (some x) dv = some i) : ∃ kk, act.eval x = .int kk i := by
  simp only [bnd] at h
  split at h
  · rename_i kk j he; cases h; exact ⟨kk, raw_eval hf he⟩
  · cases h
theorem run_sliceBounds {W : World} {U : Nat → Nat} {γ : Nat → Option Value} {act : Act} (hf : FR N F W U γ act) {isS : Bool} {len cap : Nat} {lo hi : Option Operand} {l h : Int} (hl : bnd F lo 0 = some l) (hh : bnd F hi len = some h) (h0 : 0 ≤ l) (h1 : l ≤ h) (h2 : h ≤ cap) :
    (Instr.sliceBounds isS len cap (lo.map act.eval) (hi.map act.eval) none).run P W = .ok (l.toNat, h.toNat, cap) W := by
  unfold Instr.sliceBounds
  cases hi with
  | none =>
    simp [bnd] at hh
    subst hh
    cases lo with
    | none => simp [bnd] at hl; subst hl; simp
    | some x =>
      obtain ⟨kk, hx⟩ := bnd_some hf hl
      simp only [Option.map_some, Option.map_none, hx, Sem.run_bind, Sem.run_pure, Result.andThen_ok]
      rw [run_sliceBound _ h0 (by omega)]
      simp
  | some y =>
    obtain ⟨kk', hy⟩ := bnd_some hf hh
    simp only [Option.map_some, hy, Sem.run_bind, Sem.run_pure, Result.andThen_ok]
    rw [run_sliceBound _ (by omega) (by omega)]
    cases lo with
    | none => simp [bnd] at hl; subst hl; simp
    | some x =>
      obtain ⟨kk, hx⟩ := bnd_some hf hl
      simp only [Option.map_some, hx, Result.andThen_ok, Sem.run_bind]
      rw [run_sliceBound _ h0 (by omega)]
      simp
theorem OS.slice {t e : TypeId} {x : Operand} {lo hi : Option Operand} {s y n : Nat} {b : Bool} {xv : AV} {cs : List DV} {H' : List (Nat × Ent)} {l h : Int} (ht : slB P t = some (e, s, b, y)) (hx : ev F x = some xv) (hc : clo H xv = some (H', .sl n cs)) (hlo : bnd F lo 0 = some l) (hhi : bnd F hi n = some h)
    (hN : Nat.blt d N = true) (h0 : 0 ≤ l) (h1 : l ≤ h) (h2 : h ≤ n) :
    OS P ops Q ⟨some d, .slice t x lo hi none, ty, pos, after, none⟩ (SR k N F H) (SR k N ((d, .d (.sl (h - l).toNat ((cs.drop (l.toNat * s)).take ((h - l).toNat * s)))) :: F) H') :=
  OS.of_value rfl fun act w hs' => by
    obtain ⟨U, γ, hm, hf⟩ := hs'
    obtain ⟨U1, g1, g2, g3⟩ := clo_RD hc hm (ev_RA hf hx)
    obtain ⟨hu, hsz, _⟩ := slB_info ht
    have hf1 := hf.mono g2
    generalize hv : act.eval x = v at g3
    cases g3 with
    | nil a c =>
      have e1 : l = 0 := by omega
      have e2 : h = 0 := by omega
      subst e1 e2
      have hb := run_sliceBounds (P := P) (isS := true) (len := 0) (cap := c) hf1 hlo hhi (Int.le_refl _) (Int.le_refl _) (by omega)
      refine ⟨.slice a 0 (c - 0), w, ?_, U1, γ, g1, hf1.put (ExtA.refl _ _ _) (Nat.le_of_ble_eq_true hN) (.d ?_)⟩
      · unfold execOp
        refine run_v ?_
        simp only [hv, Option.map_none]
        unfold Instr.sliceAt Instr.slice
        simp only [Sem.run_bind, run_underlying hu, Result.andThen_ok, hb, run_szOf hsz]
        cases a <;> simp [Addr.add]
      · simpa using RD.nil a (c - 0)
    | @sl _ c bb o _ vs hk hm' hr hcell =>
      have hb := run_sliceBounds (P := P) (isS := true) (len := n) (cap := c) hf1 hlo hhi h0 h1 (by omega)
      by_cases hcl : c = l.toNat
      · have e0 : h - l = 0 := by omega
        refine ⟨.slice (some ⟨bb, o, none⟩) (h.toNat - l.toNat) (c - l.toNat), w, ?_, U1, γ, g1, hf1.put (ExtA.refl _ _ _) (Nat.le_of_ble_eq_true hN) (.d ?_)⟩
        · unfold execOp
          refine run_v ?_
          simp only [hv, Option.map_none]
          unfold Instr.sliceAt Instr.slice
          simp only [Sem.run_bind, run_underlying hu, Result.andThen_ok, hb, run_szOf hsz, Sem.run_pure]
          rw [if_pos hcl]
        · rw [e0, show h.toNat - l.toNat = 0 by omega]
          simpa using RD.nil _ _
      · refine ⟨.slice (some ⟨bb, o + l.toNat * s, none⟩) (h.toNat - l.toNat) (c - l.toNat), w, ?_, U1, γ, g1, hf1.put (ExtA.refl _ _ _) (Nat.le_of_ble_eq_true hN) (.d ?_)⟩
        · unfold execOp
          refine run_v ?_
          simp only [hv, Option.map_none]
          unfold Instr.sliceAt Instr.slice
          simp only [Sem.run_bind, run_underlying hu, Result.andThen_ok, hb, run_szOf hsz, Sem.run_pure]
          rw [if_neg hcl]
          simp [Addr.add_mid]
        · rw [show (h - l).toNat = h.toNat - l.toNat by omega]
          refine .sl (by omega) (by omega) ((hr.drop _).take _) (fun q u hq => ?_)
          rw [List.getElem?_take] at hq
          split at hq
          · rw [List.getElem?_drop] at hq
            have := hcell _ _ hq
            rwa [← Nat.add_assoc] at this
          · cases hq
theorem run_sliceBounds3 {W : World} {U : Nat → Nat} {γ : Nat → Option Value} {act : Act} (hf : FR N F W U γ act) {isS : Bool} {len cap : Nat} {lo : Option Operand} {hi mx : Operand} {l h m : Int} (hl : bnd F lo 0 = some l) (hh : bnd F (some hi) len = some h) (hm : bnd F (some mx) len = some m) (h0 : 0 ≤ l) (h1 : l ≤ h) (h2 : h ≤ m) (h3 : m ≤ cap) :
    (Instr.sliceBounds isS len cap (lo.map act.eval) (some (act.eval hi)) (some (act.eval mx))).run P W = .ok (l.toNat, h.toNat, m.toNat) W := by
  unfold Instr.sliceBounds
  obtain ⟨k1, hy⟩ := bnd_some hf hh
  obtain ⟨k2, hz⟩ := bnd_some hf hm
  simp only [hy, hz, Sem.run_bind, Sem.run_pure, Result.andThen_ok]
  rw [run_sliceBound _ (by omega) h3]
  simp only [Result.andThen_ok]
  rw [run_sliceBound _ (by omega) (by omega)]
  cases lo with
  | none => simp [bnd] at hl; subst hl; simp
  | some x =>
    obtain ⟨kk, hx⟩ := bnd_some hf hl
    simp only [Option.map_some, hx, Result.andThen_ok, Sem.run_bind]
    rw [run_sliceBound _ h0 (by omega)]
    simp
/-- 's[:h:h]': nothing lies behind it that an 'append' could write into. -/
theorem OS.sliceFull {t e : TypeId} {x : Operand} {hi mx : Operand} {s y n : Nat} {b : Bool} {xv : AV} {cs : List DV} {H' : List (Nat × Ent)} {h : Int} (ht : slB P t = some (e, s, b, y)) (hx : ev F x = some xv) (hc : clo H xv = some (H', .sl n cs)) (hhi : bnd F (some hi) n = some h) (hmx : bnd F (some mx) n = some h)
    (hN : Nat.blt d N = true) (h1 : 0 ≤ h) (h2 : h ≤ n) :
    OS P ops Q ⟨some d, .slice t x none (some hi) (some mx), ty, pos, after, none⟩ (SR k N F H) (SR k N ((d, .full h.toNat (cs.take (h.toNat * s))) :: F) H') :=
  OS.of_value rfl fun act w hs' => by
    obtain ⟨U, γ, hm, hf⟩ := hs'
    obtain ⟨U1, g1, g2, g3⟩ := clo_RD hc hm (ev_RA hf hx)
    obtain ⟨hu, hsz, _⟩ := slB_info ht
    have hf1 := hf.mono g2
    generalize hv : act.eval x = v at g3
    cases g3 with
    | nil a c =>
      have e2 : h = 0 := by omega
      subst e2
      have hb := run_sliceBounds3 (P := P) (isS := true) (len := 0) (cap := c) (lo := none) (l := 0) hf1 rfl hhi hmx (Int.le_refl _) (Int.le_refl _) (Int.le_refl _) (by omega)
      refine ⟨.slice a 0 0, w, ?_, U1, γ, g1, hf1.put (ExtA.refl _ _ _) (Nat.le_of_ble_eq_true hN) (.full ?_)⟩
      · unfold execOp
        refine run_v ?_
        simp only [hv, Option.map_none, Option.map_some]
        unfold Instr.sliceAt Instr.slice
        simp only [Option.map_none] at hb
        simp only [Sem.run_bind, run_underlying hu, Result.andThen_ok, hb, run_szOf hsz]
        cases a <;> simp
      · simpa using RD.nil a 0
    | @sl _ c bb o _ vs hk hm' hr hcell =>
      have hb := run_sliceBounds3 (P := P) (isS := true) (len := n) (cap := c) (lo := none) (l := 0) hf1 rfl hhi hmx (Int.le_refl _) h1 (Int.le_refl _) (by omega)
      refine ⟨.slice (some ⟨bb, o, none⟩) h.toNat h.toNat, w, ?_, U1, γ, g1, hf1.put (ExtA.refl _ _ _) (Nat.le_of_ble_eq_true hN) (.full ?_)⟩
      · unfold execOp
        refine run_v ?_
        simp only [hv, Option.map_none, Option.map_some]
        unfold Instr.sliceAt Instr.slice
        simp only [Option.map_none] at hb
        simp only [Sem.run_bind, run_underlying hu, Result.andThen_ok, hb, run_szOf hsz, Sem.run_pure]
        by_cases hz : h.toNat = 0 <;> simp [hz, Addr.add_mid]
      · refine .sl (Nat.le_refl _) (by omega) (hr.take _) (fun q u hq => ?_)
        rw [List.getElem?_take] at hq
        split at hq
        · exact hcell _ _ hq
        · cases hq
/-- 'append' onto such a slice: a new row. -/
theorem OS.appendFull {s x : Operand} {t e j sz y n m : Nat} {bb : Bool} {z : Value} {xv : AV} {cs ds : List DV} {H' : List (Nat × Ent)} (ht : slB P t = some (e, sz, bb, y)) (hz : zeroB P e = some z) (hzs : Nat.beq z.cells.size sz = true)
    (hs : ev F s = some (.full n cs)) (hx : ev F x = some xv) (hc : clo H xv = some (H', .sl m ds)) (hj : lk H' j = none) (hl : Nat.beq ds.length (m * sz) = true) (hl' : Nat.beq cs.length (n * sz) = true)
    (hN : Nat.blt d N = true) (hm0 : 0 < m) (h63 : n + m ≤ 9223372036854775807) (hby : (n + m) * y ≤ 140737488355328) (hsz : Nat.blt 0 sz = true) :
    OS P ops Q ⟨some d, .call ⟨.builtin .append, #[s, x], #[t, t]⟩, ty, pos, after, none⟩ (SR k N F H) (SR k N ((d, .own j) :: F) ((j, .row e sz (n + m) (cs ++ ds) false) :: H')) :=
  OS.of_value rfl fun act w hs' => by
    obtain ⟨U, γ, hm, hf⟩ := hs'
    obtain ⟨U1, g1, g2, g3⟩ := clo_RD hc hm (ev_RA hf hx)
    have hsr := ev_RA (hf.mono g2) hs
    obtain ⟨hu, _, ie, hie, hiy, his⟩ := slB_info ht
    have hzz : ie.zero = some z := by unfold zeroB at hz; simpa [hie] using hz
    have hzs' : z.cells.size = sz := Nat.eq_of_beq_eq_true hzs
    have hsz' : 0 < sz := Nat.le_of_ble_eq_true hsz
    subst his
    subst hiy
    obtain ⟨a, c, us, hxe, hr, hcell, hnone⟩ := reads_cells g3
    have hul : us.length = m * ie.size := by rw [← hr.length]; exact Nat.eq_of_beq_eq_true hl
    have hcl : cs.length = n * ie.size := Nat.eq_of_beq_eq_true hl'
    generalize hv : act.eval s = v at hsr
    cases hsr with
    | @full _ _ aa hrd =>
      obtain ⟨aa', c', os, hoe, hro, hcello, hnoneo⟩ := reads_cells hrd
      cases hoe
      have hol : os.length = n * ie.size := by rw [← hro.length, hcl]
      cases a with
      | none =>
        have h0 := hnone rfl
        have h5 : 0 < m * ie.size := Nat.mul_pos hm0 hsz'
        rw [h0, List.length_nil] at hul
        omega
      | some ad =>
        have hcell' := hcell ad rfl
        have done : ∀ (cap0 : Nat), (Builtin.append_ #[t, t] ty #[.slice aa n n, .slice (some ad) m c]).run P w = .ok (.slice (some ⟨w.heap.size, 0, none⟩) (n + m) (grownCap w (n + m) cap0 e)) (w.drew.alloc (.cells ((os ++ us).toArray ++ Builtin.zeroCells z.cells (grownCap w (n + m) cap0 e - (n + m))) e)) →
            ∃ v w', (execOp act.eval ⟨some d, .call ⟨.builtin .append, #[s, x], #[t, t]⟩, ty, pos, after, none⟩).run P w = .ok (.value v) w' ∧ SR k N ((d, .own j) :: F) ((j, .row e ie.size (n + m) (cs ++ ds) false) :: H') (act.put (some d) v) w' := fun cap0 hrun => by
          have hrow := grown_row w e ie.size 0 cap0 z hzs' (os ++ us) (n + m) (by rw [List.length_append, hol, hul, Nat.add_mul]) h63
          have ag : Agree w U1 (w.drew.alloc (.cells ((os ++ us).toArray ++ Builtin.zeroCells z.cells (grownCap w (n + m) cap0 e - (n + m))) e)) U1 none :=
            ⟨rfl, rfl, rfl, (grown_drew w _ none).size, fun q hq _ => ⟨(grown_drew w _ none).block q hq (by simp), rfl⟩⟩
          have hsize : (w.drew.alloc (.cells ((os ++ us).toArray ++ Builtin.zeroCells z.cells (grownCap w (n + m) cap0 e - (n + m))) e)).heap.size = w.heap.size + 1 := World.size_alloc _ _
          have := g1.fresh hj ag (fun q hq => g1.wf q (by omega)) (v := .slice (some ⟨w.heap.size, 0, none⟩) (n + m) (grownCap w (n + m) cap0 e)) rfl (fun q hq => by simp [blkOf] at hq; omega) (e := .row e ie.size (n + m) (cs ++ ds) false) (fun ex => ⟨_, os ++ us, upd_self _ _ _, hrow, (hro.append hr).mono ex.toExt, fun q hq => by
            have : q = w.heap.size := by simp [blkOf] at hq; exact hq.symm
            subst this
            simpa using g1.wf _ (Nat.le_refl _)⟩)
          refine ⟨_, _, run_call_builtin Builtin.append_ (fun _ _ _ _ => rfl) ?_, U1, _, this.1, (hf.mono g2).put this.2 (Nat.le_of_ble_eq_true hN) (.own (upd_self _ _ _))⟩
          simpa [hv, hxe] using hrun
        cases aa with
        | none =>
          have h0 := hnoneo rfl
          have hn : n = 0 := by
            rcases Nat.eq_zero_or_pos n with h1 | h1
            · exact h1
            · have := Nat.mul_pos h1 hsz'
              rw [h0, List.length_nil] at hol; omega
          subst hn
          subst h0
          refine done 0 ?_
          have := run_append_nil (P := P) w t ty e ie z hu hie hzz ad m c us hul hcell' hm0 (by omega) (by simp at hby; omega)
          simpa using this
        | some ab =>
          refine done n ?_
          have := run_append_grow (P := P) w t ty e ie z hu hie hzz ab n n os hol (hcello ab rfl) ad m c us hul hcell' (by omega) (by omega) (growslice_fits (by omega) hby)
          rw [this]
          simp
theorem OS.sliceStr {t : TypeId} {x : Operand} {lo hi : Option Operand} {s : ByteArray} {l h : Int} (ht : lenB P t = some false) (hx : ev F x = some (.d (.raw (.string s)))) (hlo : bnd F lo 0 = some l) (hhi : bnd F hi s.size = some h)
    (hN : Nat.blt d N = true) (h0 : 0 ≤ l) (h1 : l ≤ h) (h2 : h ≤ s.size) :
    OS P ops Q ⟨some d, .slice t x lo hi none, ty, pos, after, none⟩ (SR k N F H) (SR k N ((d, .d (.raw (.string (s.extract l.toNat h.toNat)))) :: F) H) :=
  OS.plain rfl rfl hN fun act w U γ hm hf => by
    have hb := run_sliceBounds (P := P) (isS := false) (len := s.size) (cap := s.size) hf hlo hhi h0 h1 h2
    refine ⟨_, ?_, .d (.raw _)⟩
    unfold lenB at ht
    cases hu : P.underlying t with
    | none => simp [hu] at ht
    | some D =>
      rw [hu] at ht
      cases D <;> simp at ht
      unfold execOp
      refine run_v ?_
      simp only [raw_eval hf hx, Option.map_none]
      unfold Instr.sliceAt Instr.slice
      simp [Sem.run_bind, run_underlying hu, Result.andThen_ok, hb]
theorem OS.indexStr {t : TypeId} {x ix : Operand} {s : ByteArray} {kk : IntKind} {j : Int} {c : UInt8} (ht : lenB P t = some false) (hx : ev F x = some (.d (.raw (.string s)))) (hj : ev F ix = some (.d (.raw (.int kk j)))) (hN : Nat.blt d N = true) (h0 : 0 ≤ j) (hc : s[j.toNat]? = some c) :
    OS P ops Q ⟨some d, .index t x ix, ty, pos, after, none⟩ (SR k N F H) (SR k N ((d, .d (.raw (.int .u8 c.toNat))) :: F) H) :=
  OS.plain rfl rfl hN fun act w U γ hm hf => by
    refine ⟨_, ?_, .d (.raw _)⟩
    unfold lenB at ht
    cases hu : P.underlying t with
    | none => simp [hu] at ht
    | some D =>
      rw [hu] at ht
      cases D <;> simp at ht
      unfold execOp
      refine run_v ?_
      simp only [raw_eval hf hx, raw_eval hf hj]
      unfold Instr.index
      simp [asIntOf, run_underlying hu, h0, hc]

/-! ### Conversions -/
def intB (P : Program) (t : TypeId) : Option IntKind := (P.underlying t).bind fun | .int k => some k | _ => none
theorem intB_info {t : TypeId} {kk : IntKind} (h : intB P t = some kk) : P.underlying t = some (.int kk) := by
  unfold intB at h
  cases hu : P.underlying t with
  | none => simp [hu] at h
  | some D => rw [hu] at h; cases D <;> simp at h; rw [h]
def knownB (P : Program) (t : TypeId) : Bool := (P.underlying t).isSome
theorem OS.cvInt {s t : TypeId} {x : Operand} {kk k' : IntKind} {i : Int} (hs : knownB P s = true) (ht : intB P t = some kk) (hx : ev F x = some (.d (.raw (.int k' i)))) (hN : Nat.blt d N = true) :
    OS P ops Q ⟨some d, .convert s t x, ty, pos, after, none⟩ (SR k N F H) (SR k N ((d, .d (.raw (.int kk (kk.wrap i)))) :: F) H) :=
  OS.plain rfl rfl hN fun act w U γ hm hf => by
    refine ⟨_, ?_, .d (.raw _)⟩
    have hu := intB_info ht
    unfold knownB at hs
    obtain ⟨D, hD⟩ := Option.isSome_iff_exists.1 hs
    unfold execOp
    refine run_v ?_
    simp only [raw_eval hf hx]
    unfold convert
    simp only [Sem.run_bind, run_underlying hu, run_underlying hD, Result.andThen_ok]
    rfl
/-- Bytes as numbers. -/
def nums : List DV → Option (List Int)
  | [] => some []
  | .raw (.int .u8 n) :: r => (nums r).map (n :: ·)
  | _ => none
theorem nums_RDs {W : World} {U : Nat → Nat} : ∀ {cs : List DV} {xs : List Int} {vs : List Value}, nums cs = some xs → RDs W U cs vs → vs = xs.map (Value.int .u8)
  | [], xs, vs, h, hr => by simp [nums] at h; subst h; cases hr; rfl
  | .raw (.int .u8 n) :: r, xs, vs, h, hr => by
    simp only [nums, Option.map_eq_some_iff] at h
    obtain ⟨ys, h1, rfl⟩ := h
    cases hr with
    | cons h2 h3 => cases h2; simp [nums_RDs h1 h3]
def u8B (P : Program) (s t : TypeId) : Bool := match P.underlying s, P.underlying t with
  | some (.slice e), some .string => match P.underlying e with
    | some (.int .u8) => true
    | _ => false
  | _, _ => false
theorem u8B_info {s t : TypeId} (h : u8B P s t = true) : ∃ e, P.underlying s = some (.slice e) ∧ P.underlying t = some .string ∧ P.underlying e = some (.int .u8) := by
  unfold u8B at h
  split at h
  · rename_i e h1 h2
    split at h
    · rename_i h3; exact ⟨e, h1, h2, h3⟩
    · cases h
  · cases h
theorem OS.toStr {s t : TypeId} {x : Operand} {xv : AV} {H' : List (Nat × Ent)} {n : Nat} {cs : List DV} {xs : List Int} (ht : u8B P s t = true) (hx : ev F x = some xv) (hc : clo H xv = some (H', .sl n cs)) (hn : nums cs = some xs) (hl : Nat.beq xs.length n = true) (hN : Nat.blt d N = true) :
    OS P ops Q ⟨some d, .convert s t x, ty, pos, after, none⟩ (SR k N F H) (SR k N ((d, .d (.raw (.string (strOfNums xs)))) :: F) H') :=
  OS.of_value rfl fun act w hs' => by
    obtain ⟨U, γ, hm, hf⟩ := hs'
    obtain ⟨U1, g1, g2, g3⟩ := clo_RD hc hm (ev_RA hf hx)
    obtain ⟨e, h1, h2, h3⟩ := u8B_info ht
    refine ⟨.string (strOfNums xs), w, ?_, U1, γ, g1, (hf.mono g2).put (ExtA.refl _ _ _) (Nat.le_of_ble_eq_true hN) (.d (.raw _))⟩
    unfold execOp
    refine run_v ?_
    have hl' := Nat.eq_of_beq_eq_true hl
    generalize hv : act.eval x = v at g3
    cases g3 with
    | nil a c =>
      simp [nums] at hn
      subst hn
      cases a with
      | none => exact run_convert_bytes_nil (P := P) w s e h1 h3 0 c t h2
      | some a =>
        rw [run_convert_bytes_string w s t e _ 0 c h1 h3 h2]
        simp [Conv.bytesToString, loadCells, loadCellsFrom]
        rfl
    | @sl _ c bb o _ vs hk hm' hr hcell =>
      have hvs := nums_RDs hn hr
      refine run_convert_bytes_arg (P := P) w s e h1 h3 bb o n c xs hl' (fun i hi => ?_) t h2
      have : vs[i]? = some (.int .u8 (xs.getD i 0)) := by
        rw [hvs, List.getElem?_map, List.getElem?_eq_getElem (by omega)]
        simp [List.getD_eq_getElem?_getD, List.getElem?_eq_getElem (show i < xs.length by omega)]
      exact (hcell i _ this).1
end
end Go.Pt
