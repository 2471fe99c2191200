/- A part of a logic over data for the given program's language: rules for single operations and walks as functions. -/
import Derived.Test.YtnohaiobpmmomaaGreatDoorB22
set_option linter.unusedVariables false
set_option linter.unusedSimpArgs false
namespace Go.Pt
open Go.RowKit

theorem MR.cong {k : K0} {H H' : List (Nat × Ent)} {W : World} {U : Nat → Nat} {γ : Nat → Option Value} (h : MR k H W U γ) (e : ∀ t, lk H' t = lk H t) : MR k H' W U γ :=
  ⟨fun i x hx => h.ent i x (by rw [← e]; exact hx), fun i j hne hi hj => h.dist i j hne (by obtain ⟨x, h1, h2⟩ := hi; exact ⟨x, by rw [← e]; exact h1, h2⟩) (by obtain ⟨x, h1, h2⟩ := hj; exact ⟨x, by rw [← e]; exact h1, h2⟩),
   fun i v hv => by rw [e]; exact h.num i v hv, fun i hi => h.priv i (by obtain ⟨x, h1, h2⟩ := hi; exact ⟨x, by rw [← e]; exact h1, h2⟩), h.wf, h.one, h.keep, h.anc⟩
theorem SR.cong {k : K0} {N : Nat} {F F' : List (Nat × AV)} {H H' : List (Nat × Ent)} (hF : LX F' F) (e : ∀ t, lk H' t = lk H t) {a : Act} {w : World} (h : SR k N F H a w) : SR k N F' H' a w := by
  obtain ⟨U, γ, hm, hf⟩ := h
  exact ⟨U, γ, hm.cong e, hf.size, hf.cap, hf.defers, fun t y hy => hf.slot t y (hF t y hy)⟩
theorem SR.drew {k : K0} {N : Nat} {F : List (Nat × AV)} {H : List (Nat × Ent)} {a : Act} {w : World} (h : SR k N F H a w) : SR k N F H a { w with drawn := w.drawn + 1 } := by
  obtain ⟨U, γ, hm, hf⟩ := h
  obtain ⟨h1, h2⟩ := hm.agree (W' := { w with drawn := w.drawn + 1 }) (U' := U) ⟨rfl, rfl, rfl, Nat.le_refl _, fun _ _ _ => ⟨rfl, rfl⟩⟩ hm.wf
  exact ⟨U, γ, h1, hf.mono h2⟩

def fullB : Nat → List Nat → Bool
  | _, [] => true
  | i, m :: r => Nat.beq m (2 ^ i - 1) && fullB (i + 1) r
theorem fullB_get : ∀ {l : List Nat} {i q m : Nat}, fullB i l = true → l[q]? = some m → m = 2 ^ (i + q) - 1
  | [], _, _, _, _, h => by simp at h
  | x :: r, i, 0, m, h, hq => by
    simp only [fullB, Bool.and_eq_true] at h
    simp at hq; subst hq
    exact Nat.eq_of_beq_eq_true h.1
  | x :: r, i, q + 1, m, h, hq => by
    simp only [fullB, Bool.and_eq_true] at h
    have := fullB_get h.2 (q := q) (by simpa using hq)
    rw [this, show i + 1 + q = i + (q + 1) by omega]
def freeLen : Nat → List Nat → Nat
  | _, [] => 0
  | i, m :: r => match freeLen (i + 1) r with
    | 0 => bif Nat.beq m (2 ^ i - 1) then 0 else 1
    | k + 1 => k + 2
def lowB : Nat → List Oper → Bool
  | _, [] => true
  | i, o :: r => (dirs o).all (fun j => Nat.blt j i) && lowB (i + 1) r
theorem lowB_get : ∀ {l : List Oper} {i q : Nat} {o : Oper}, lowB i l = true → l[q]? = some o → ∀ j ∈ dirs o, j < i + q
  | [], _, _, _, _, h => by simp at h
  | x :: r, i, 0, o, h, hq => by
    simp only [lowB, Bool.and_eq_true, List.all_eq_true] at h
    simp at hq; subst hq
    exact fun j hj => Nat.le_of_ble_eq_true (h.1 j hj)
  | x :: r, i, q + 1, o, h, hq => by
    simp only [lowB, Bool.and_eq_true] at h
    intro j hj
    have := lowB_get h.2 (q := q) (by simpa using hq) j hj
    omega
def noKey {α : Type} (F : List (Nat × α)) (ks : List Nat) : Bool := ks.all fun t => (lk F t).isNone
def nodupB : List Nat → Bool
  | [] => true
  | x :: r => !(r.any (Nat.beq x)) && nodupB r
theorem nodupB_ok : ∀ {l : List Nat}, nodupB l = true → l.Nodup
  | [], _ => List.nodup_nil
  | x :: r, h => by
    simp only [nodupB, Bool.and_eq_true, Bool.not_eq_true', List.any_eq_false] at h
    exact List.nodup_cons.2 ⟨fun hm => h.1 x hm (Nat.beq_refl x), nodupB_ok h.2⟩
def memB (ks : List Nat) (t : Nat) : Bool := ks.any (Nat.beq t)
/-- Who looks at what another one changes comes ahead of it, or behind it. -/
def ordB (ms : List Nat) (LE : List (Nat × Nat × Ent)) (RR : List (Nat × Nat × List Nat)) : Bool :=
  RR.all fun p => LE.all fun e => Nat.beq e.1 p.1 || (!(memB p.2.2 e.2.1) || (p.2.1.testBit e.1 || (ms.getD e.1 0).testBit p.1))
theorem ordB_get {ms : List Nat} {LE : List (Nat × Nat × Ent)} {RR : List (Nat × Nat × List Nat)} (h : ordB ms LE RR = true) {j mj : Nat} {R : List Nat} (hj : (j, mj, R) ∈ RR) {s κ : Nat} {e : Ent} (hs : (s, κ, e) ∈ LE) (hne : s ≠ j) (hκ : κ ∈ R) : mj.testBit s = true ∨ (ms.getD s 0).testBit j = true := by
  simp only [ordB, List.all_eq_true] at h
  have := h _ hj _ hs
  simp only [Bool.or_eq_true, Bool.not_eq_true'] at this
  rcases this with h1 | h1 | h1
  · exact absurd (Nat.eq_of_beq_eq_true h1) hne
  · exfalso
    have : memB R κ = true := by simp only [memB, List.any_eq_true]; exact ⟨κ, hκ, Nat.beq_refl κ⟩
    rw [this] at h1; cases h1
  · exact h1
/-- A region whose order is drawn. -/
def drawX (P : Program) (call : FuncId → List DV → Option RV) (inl : InlX) (N : Nat) (l : List Oper) (S : St) : Option (Bool × St) :=
  let ms := masksX l []
  let m := freeLen 0 ms
  let F0 := S.F.filter fun p => !(memB ((l.take m).filterMap (·.dst)) p.1)
  match buildX P call N S.nx l F0 S.H 0 (l.take m) ms [] [] [] with
  | some (b, L, LE, RR) => match opsX P call inl N l (l.drop m) ⟨L.map (·.2) ++ F0, LE.map (·.2) ++ S.H, S.nx + l.length⟩ with
    | some (b', S') => some (b && (b' && (lowB 0 l && (fullB m (ms.drop m) && (nodupB (keysL L) && (noKey F0 (keysL L) && ordB ms LE RR))))), S')
    | none => none
  | none => none

theorem lk_filter {α : Type} {F : List (Nat × α)} {p : Nat × α → Bool} (hp : ∀ t x y, p (t, x) = p (t, y)) : LX (F.filter p) F := by
  intro t x h
  induction F with
  | nil => simp [lk] at h
  | cons q r ih =>
    obtain ⟨s, y⟩ := q
    cases hb : p (s, y) with
    | true =>
      rw [List.filter_cons, if_pos hb] at h
      simp only [lk] at h ⊢
      cases hs : Nat.beq s t with
      | true => rw [hs] at h; simpa using h
      | false => rw [hs] at h; simpa using ih (by simpa using h)
    | false =>
      rw [List.filter_cons, if_neg (by simp [hb])] at h
      simp only [lk]
      cases hs : Nat.beq s t with
      | true =>
        exfalso
        have e := Nat.eq_of_beq_eq_true hs
        subst e
        -- the slot was struck wholly
        have : ∀ r : List (Nat × α), lk (r.filter p) s = none := fun r => by
          induction r with
          | nil => rfl
          | cons q r ih =>
            obtain ⟨u, z⟩ := q
            cases hb' : p (u, z) with
            | true =>
              rw [List.filter_cons, if_pos hb']
              simp only [lk]
              cases hs' : Nat.beq u s with
              | true => have := Nat.eq_of_beq_eq_true hs'; subst this; rw [hp u z y, hb] at hb'; cases hb'
              | false => simpa using ih
            | false => rw [List.filter_cons, if_neg (by simp [hb'])]; exact ih
        rw [this] at h; cases h
      | false => simpa using ih h

section
variable {P : Program} {ops : Array Oper} {Q : Exit → Act → World → Prop} {k : K0} {N : Nat} {call : FuncId → List DV → Option RV} {inl : InlX} {gl : List (Nat × AV)}

/-- Closed below: what must come before a listed one is listed. -/
def ClB (l : List Oper) (listed : Array Bool) : Prop := ∀ j, listed.getD j false = true → ∀ m, (masksX l [])[j]? = some m → ∀ p, m.testBit p = true → listed.getD p false = true

theorem ready_low {l : List Oper} {listed : Array Bool} (hc : ClB l listed) {i : Nat} {o : Oper} (ho : l[i]? = some o) (hd : ∀ j ∈ dirs o, listed.getD j false = true) {m : Nat} (hm : (masksX l [])[i]? = some m) {p : Nat} (hp : m.testBit p = true) : listed.getD p false = true := by
  obtain ⟨j, h1, h2⟩ := masks_bit ho hm hp
  rcases h2 with rfl | ⟨m', h3, h4⟩
  · exact hd _ h1
  · exact hc j (hd _ h1) m' h3 p h4
theorem dirs_of {o : Oper} {listed : Array Bool} (h : ∀ e ∈ o.after, Region.binds .any e = true → listed.getD e.on false = true) : ∀ j ∈ dirs o, listed.getD j false = true := by
  intro j hj
  simp only [dirs, List.mem_map, List.mem_filter, Array.mem_toList_iff] at hj
  obtain ⟨e, ⟨h1, h2⟩, rfl⟩ := hj
  exact h e h1 h2
theorem of_dirs {o : Oper} {listed : Array Bool} (h : ∀ j ∈ dirs o, listed.getD j false = true) : ∀ e ∈ o.after, Region.binds .any e = true → listed.getD e.on false = true := by
  intro e he hb
  refine h _ ?_
  simp only [dirs, List.mem_map, List.mem_filter, Array.mem_toList_iff]
  exact ⟨e, ⟨he, hb⟩, rfl⟩
theorem getD_set_iff {listed : Array Bool} {i j : Nat} (hi : i < listed.size) : (listed.setIfInBounds i true).getD j false = true ↔ j = i ∨ listed.getD j false = true := by
  by_cases hij : i = j
  · subst hij
    simp [hi]
  · rw [getD_set_ne false hij]
    exact ⟨.inr, fun h => h.resolve_left (fun e => hij e.symm)⟩
theorem ClB.set {l : List Oper} {listed : Array Bool} (hc : ClB l listed) {i : Nat} {o : Oper} (hi : i < listed.size) (ho : l[i]? = some o) (hd : ∀ j ∈ dirs o, listed.getD j false = true) : ClB l (listed.setIfInBounds i true) := by
  intro j hj m hm p hp
  rw [getD_set_iff hi] at hj ⊢
  rcases hj with rfl | hj
  · exact .inr (ready_low hc ho hd hm hp)
  · exact .inr (hc j hj m hm p hp)
theorem mask_some {l : List Oper} {i : Nat} {o : Oper} (ho : l[i]? = some o) : ∃ m, (masksX l [])[i]? = some m := by
  obtain ⟨t, h1, h2, h3⟩ := masksX_spec l []
  obtain ⟨m, h4, _⟩ := h3 i o ho
  exact ⟨m, by rw [h1]; simpa using h4⟩

theorem OS.wpOp {o : Oper} {S S' : Act → World → Prop} (h : OS P ops Q o S S') {i : Nat} (hi : ops[i]? = some o) {a : Act} {w : World} (hs : S a w) {K : Act → World → Prop} (hK : ∀ a' w', S' a' w' → K a' w') : wpOp P ops Q i K a w := by
  have := h a w hs K hK
  unfold Go.wpOp
  simp only [hi]
  split
  · rename_i hw; rw [if_pos hw] at this; exact .inl this
  · rename_i hw; rw [if_neg hw] at this; exact this

/-- The last ones, which come one behind the other. -/
theorem tail_any (hkg : k.gl = gl) (hcall : CallOk gl P call) (hin : InlOk gl P inl) {m : Nat} (hfull : fullB m ((masksX ops.toList []).drop m) = true) {S' : St} (hq : AQ Q .normal (SR k N S'.F S'.H)) :
    ∀ (fuel i : Nat) (listed : Array Bool) (S : St) (b : Bool), m ≤ i → i ≤ ops.size → ops.size ≤ i + fuel → listed.size = ops.size → (∀ j, listed.getD j false = true ↔ j < i) → ClB ops.toList listed → Fr S.H S.nx →
      opsX P call inl N ops.toList (ops.toList.drop i) S = some (b, S') → b = true → ∀ a w, SR k N S.F S.H a w → wpAny P .any ops Q fuel listed a w := by
  have finish : ∀ {i : Nat} {S : St} {b : Bool} {a : Act} {w : World}, i = ops.size → opsX P call inl N ops.toList (ops.toList.drop i) S = some (b, S') → SR k N S.F S.H a w → Q .normal a w := fun {i S b a w} hi ho hs => by
    rw [List.drop_eq_nil_of_le (by simp [hi])] at ho
    simp only [opsX, Option.some.injEq, Prod.mk.injEq] at ho
    obtain ⟨_, rfl⟩ := ho
    exact hq a w hs
  have noready : ∀ {i : Nat} {listed : Array Bool}, i = ops.size → listed.size = ops.size → (∀ j, listed.getD j false = true ↔ j < i) → Region.ready .any ops listed = [] := fun {i listed} hi hsz hl => by
    rw [List.eq_nil_iff_forall_not_mem]
    intro j hj
    rw [mem_ready] at hj
    obtain ⟨h1, o, ho, _⟩ := hj
    have hlt : j < ops.size := (Array.getElem?_eq_some_iff.1 ho).1
    have h2 := (hl j).2 (by omega)
    have hlt' : j < listed.size := by omega
    simp [hlt'] at h1 h2
    rw [h1] at h2; cases h2
  intro fuel
  induction fuel with
  | zero =>
    intro i listed S b hmi hile hge hsz hl hc hf ho hb a w hs
    have hi : i = ops.size := by omega
    exact ⟨noready hi hsz hl, finish hi ho hs⟩
  | succ fuel ih =>
    intro i listed S b hmi hile hge hsz hl hc hf ho hb a w hs
    by_cases hi : i = ops.size
    · have hn := noready hi hsz hl
      refine ⟨fun _ => finish hi ho hs, fun j hj => ?_⟩
      rw [hn] at hj; cases hj
    · have hlt : i < ops.size := by omega
      have hoi : ops[i]? = some ops[i] := Array.getElem?_eq_getElem hlt
      have hoi' : ops.toList[i]? = some ops[i] := by simp [hlt]
      obtain ⟨mi, hmi'⟩ := mask_some hoi'
      have hmask : ∀ {j mj : Nat}, m ≤ j → (masksX ops.toList [])[j]? = some mj → mj = 2 ^ j - 1 := fun {j mj} hj hmj => by
        have := fullB_get hfull (q := j - m) (m := mj) (by rw [List.getElem?_drop, show m + (j - m) = j by omega]; exact hmj)
        rwa [show m + (j - m) = j by omega] at this
      have only : ∀ j ∈ Region.ready .any ops listed, j = i := fun j hj => by
        rw [mem_ready] at hj
        obtain ⟨h1, o, hoj, h2⟩ := hj
        have hjs : j < ops.size := (Array.getElem?_eq_some_iff.1 hoj).1
        have hjl : ¬ j < i := fun h => by
          have := (hl j).2 h
          have hlt' : j < listed.size := by omega
          simp [hlt'] at h1 this
          rw [h1] at this; cases this
        rcases Nat.lt_or_ge i j with hij | hij
        · exfalso
          have hoj' : ops.toList[j]? = some o := by rw [← hoj]; simp
          obtain ⟨mj, hmj⟩ := mask_some hoj'
          have := hmask (by omega) hmj
          have hbit : mj.testBit i = true := by rw [this, Nat.testBit_two_pow_sub_one]; simpa using hij
          have := ready_low hc hoj' (dirs_of h2) hmj hbit
          rw [hl] at this; omega
        · omega
      have hdirs : ∀ j ∈ dirs ops[i], listed.getD j false = true := fun j hj => by
        rw [hl]
        have hbit : mi.testBit j = true := by
          obtain ⟨t, h1, h2, h3⟩ := masksX_spec ops.toList []
          obtain ⟨m', h4, h5⟩ := h3 i _ hoi'
          have : mi = m' := by
            rw [h1] at hmi'; simp only [List.nil_append] at hmi'; rw [h4] at hmi'; cases hmi'; rfl
          rw [this, h5]
          clear h5
          have : ∀ (ds : List Nat), j ∈ ds → (mkMask ([] ++ t.take i) ds).testBit j = true := fun ds => by
            induction ds with
            | nil => intro h; cases h
            | cons q r ihd =>
              intro h
              simp only [mkMask, Nat.testBit_or, Bool.or_eq_true, Nat.testBit_two_pow, decide_eq_true_eq]
              rcases List.mem_cons.1 h with rfl | h
              · exact .inl (.inl rfl)
              · exact .inr (ihd h)
          exact this _ hj
        rw [hmask hmi hmi', Nat.testBit_two_pow_sub_one] at hbit
        simpa using hbit
      have hready : i ∈ Region.ready .any ops listed := by
        rw [mem_ready]
        have hlt' : i < listed.size := by omega
        refine ⟨?_, _, hoi, of_dirs hdirs⟩
        have h2 : ¬ listed.getD i false = true := fun h => by rw [hl] at h; omega
        simp [hlt'] at h2 ⊢
        exact h2
      refine ⟨fun hn => (by rw [hn] at hready; cases hready), fun j hj => ?_⟩
      have e := only j hj
      subst e
      rw [List.drop_eq_getElem_cons (by simpa using hlt)] at ho
      simp only [opsX] at ho
      split at ho
      · rename_i b1 S1 h1
        split at ho
        · rename_i b2 S2 h2
          simp only [Option.some.injEq, Prod.mk.injEq] at ho
          obtain ⟨hbb, rfl⟩ := ho
          rw [← hbb, Bool.and_eq_true] at hb
          have hgo : ops.toList[j] = ops[j] := by simp
          rw [hgo] at h1
          obtain ⟨g1, g2⟩ := stepX_ok (Q := Q) (k := k) hkg hcall hin hf h1 hb.1
          refine g2.wpOp hoi hs fun a' w' hs' => ?_
          have hlt' : j < listed.size := by omega
          exact ih (j + 1) _ S1 b2 (by omega) (by omega) (by omega) (by simpa using hsz) (fun q => by rw [getD_set_iff hlt', hl]; omega) (hc.set hlt' hoi' hdirs) g1 h2 hb.2 a' w' hs'
        · cases ho
      · cases ho
end
end Go.Pt
