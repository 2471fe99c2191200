/- A part of a logic over data for the given program's language: rules for single operations and walks as functions. -/
import Derived.Test.YtnohaiobpmmomaaGreatDoorB23
set_option linter.unusedVariables false
set_option linter.unusedSimpArgs false
namespace Go.Pt
open Go.RowKit

theorem noKey_get {α : Type} {F : List (Nat × α)} {ks : List Nat} (h : noKey F ks = true) {t : Nat} (ht : t ∈ ks) : lk F t = none := by
  simp only [noKey, List.all_eq_true] at h
  exact Option.isNone_iff_eq_none.1 (h t ht)
theorem fk_none_iff {α : Type} {L : List (Nat × Nat × α)} {t : Nat} (h : fk L t = none) (hn : (keysL L).Nodup) : t ∉ keysL L := by
  intro hm
  obtain ⟨⟨i, k, x⟩, h1, h2⟩ := List.mem_map.1 hm
  simp at h2; subst h2
  rw [fk_of_mem hn h1] at h; cases h
theorem key_of_mem {α : Type} {L : List (Nat × Nat × α)} {i t : Nat} {x : α} (h : (i, t, x) ∈ L) : t ∈ keysL L := List.mem_map.2 ⟨_, h, rfl⟩
/-- What was known of a part is known of more. -/
theorem sel_LX {α : Type} {Lq L : List (Nat × Nat × α)} {F0 F1 : List (Nat × α)} {c b : Nat → Bool} (h01 : LX F0 F1) (hsub : ∀ p ∈ Lq, p ∈ L) (hn : (keysL L).Nodup) (hnq : (keysL Lq).Nodup) (h0 : ∀ t ∈ keysL L, lk F0 t = none) (hcb : ∀ j, c j = true → b j = true) : LX (selL Lq c ++ F0) (selL L b ++ F1) := by
  intro t x h
  rw [lk_sel c F0 t hnq] at h
  rw [lk_sel b F1 t hn]
  cases hf : fk Lq t with
  | none =>
    rw [hf] at h
    cases hf' : fk L t with
    | none => exact h01 t x h
    | some q =>
      obtain ⟨i, y⟩ := q
      have := h0 t (key_of_mem (fk_mem hf'))
      simp only at h
      rw [this] at h; cases h
  | some q =>
    obtain ⟨i, y⟩ := q
    rw [hf] at h
    have hm := hsub _ (fk_mem hf)
    rw [fk_of_mem hn hm]
    cases hc : c i with
    | true => simp only [hc, cond_true] at h; simp only [hcb i hc, cond_true]; exact h
    | false =>
      simp only [hc, cond_false] at h
      rw [h0 t (key_of_mem hm)] at h; cases h
theorem selL_append {α : Type} (T L : List (Nat × Nat × α)) (b : Nat → Bool) : selL (T ++ L) b = selL T b ++ selL L b := by simp [selL, List.filterMap_append]
theorem lk_agree {α : Type} {b c : Nat → Bool} {H : List (Nat × α)} {κ : Nat} : ∀ {L : List (Nat × Nat × α)}, (∀ p ∈ L, p.2.1 = κ → b p.1 = c p.1) → lk (selL L b ++ H) κ = lk (selL L c ++ H) κ
  | [], _ => rfl
  | (i, k, x) :: r, h => by
    have ih := lk_agree (L := r) (H := H) (fun p hp => h p (List.mem_cons_of_mem _ hp))
    simp only [selL, List.filterMap_cons] at ih ⊢
    by_cases hk : k = κ
    · subst hk
      have := h _ List.mem_cons_self rfl
      simp only at this
      rw [this]
      cases c i with
      | true => simp [lk]
      | false => simpa using ih
    · cases b i <;> cases c i <;> simp only [cond_true, cond_false, List.cons_append, lk_ne hk] <;> exact ih
theorem lk_dropT {α : Type} {b : Nat → Bool} {H : List (Nat × α)} {κ : Nat} {L : List (Nat × Nat × α)} : ∀ {T : List (Nat × Nat × α)}, (∀ p ∈ T, p.2.1 = κ → b p.1 = false) → lk (selL (T ++ L) b ++ H) κ = lk (selL L b ++ H) κ
  | [], _ => rfl
  | (i, k, x) :: r, h => by
    have ih := lk_dropT (T := r) (L := L) (H := H) (fun p hp => h p (List.mem_cons_of_mem _ hp))
    simp only [List.cons_append, selL, List.filterMap_cons] at ih ⊢
    by_cases hk : k = κ
    · subst hk
      have := h _ List.mem_cons_self rfl
      simp only at this
      rw [this]
      exact ih
    · cases b i <;> simp only [cond_true, cond_false, List.cons_append, lk_ne hk] <;> exact ih
theorem keys_sub {α : Type} {Lq T : List (Nat × Nat × α)} (hn : (keysL (Lq ++ T)).Nodup) : (keysL Lq).Nodup := by
  simp only [keysL, List.map_append] at hn
  exact (List.nodup_append.1 hn).1

theorem freeLen_le : ∀ (l : List Nat) (i : Nat), freeLen i l ≤ l.length
  | [], _ => Nat.le_refl _
  | m :: r, i => by
    have ih := freeLen_le r (i + 1)
    simp only [freeLen]
    split
    · cases Nat.beq m (2 ^ i - 1) <;> simp
    · rename_i k hk; rw [hk] at ih; simp; omega
theorem rep_false (n j : Nat) : (Array.replicate n false).getD j false = false := by
  rw [Array.getD_eq_getD_getElem?, Array.getElem?_replicate]
  split <;> rfl
/-- How many are not listed. -/
def cntU (f : Nat → Bool) : Nat → Nat
  | 0 => 0
  | n + 1 => cntU f n + bif f n then 0 else 1
theorem cntU_le (f : Nat → Bool) : ∀ n, cntU f n ≤ n
  | 0 => Nat.le_refl _
  | n + 1 => by have := cntU_le f n; simp only [cntU]; cases f n <;> simp <;> omega
theorem cntU_congr {f g : Nat → Bool} : ∀ {n : Nat}, (∀ j, j < n → f j = g j) → cntU f n = cntU g n
  | 0, _ => rfl
  | n + 1, h => by simp only [cntU, cntU_congr (n := n) (fun j hj => h j (by omega)), h n (by omega)]
theorem cntU_set {f g : Nat → Bool} {i : Nat} (hf : f i = false) (hg : g i = true) (h : ∀ j, j ≠ i → g j = f j) : ∀ {n : Nat}, i < n → cntU g n + 1 = cntU f n
  | 0, h => by omega
  | n + 1, hi => by
    by_cases e : i = n
    · subst e
      simp only [cntU, hf, hg, cond_true, cond_false]
      rw [cntU_congr (f := g) (g := f) (fun j hj => h j (by omega))]
    · have := cntU_set hf hg h (n := n) (by omega)
      simp only [cntU, h n (fun e' => e e'.symm)]
      omega
theorem cntU_from {f : Nat → Bool} {m : Nat} (h1 : ∀ j, j < m → f j = true) (h2 : ∀ j, m ≤ j → f j = false) : ∀ {n : Nat}, m ≤ n → cntU f n = n - m
  | 0, _ => by simp [cntU]
  | n + 1, h => by
    by_cases e : m = n + 1
    · subst e
      have : ∀ q, q ≤ n + 1 → cntU f q = 0 := fun q => by
        induction q with
        | zero => intro _; rfl
        | succ q ih => intro hq; simp only [cntU, ih (by omega), h1 q (by omega), cond_true]
      rw [this _ (Nat.le_refl _)]; omega
    · have := cntU_from h1 h2 (n := n) (by omega)
      simp only [cntU, this, h2 n (by omega), cond_false]
      omega

section
variable {P : Program} {ops : Array Oper} {Q : Exit → Act → World → Prop} {k : K0} {N : Nat} {call : FuncId → List DV → Option RV} {inl : InlX} {gl : List (Nat × AV)}

theorem drawX_ok (hkg : k.gl = gl) (hmix : P.follows .mixedOrders = true) (hcall : CallOk gl P call) (hin : InlOk gl P inl) {S S' : St} {b : Bool} (hf : Fr S.H S.nx) (h : drawX P call inl N ops.toList S = some (b, S')) (hb : b = true) :
    Fr S'.H S'.nx ∧ (AQ Q .normal (SR k N S'.F S'.H) → ∀ id, AC P (.region id ops true) Q (SR k N S.F S.H)) := by
  unfold drawX at h
  simp only at h
  generalize hm : freeLen 0 (masksX ops.toList []) = m at h
  generalize hF0 : S.F.filter (fun p => !(memB ((ops.toList.take m).filterMap (·.dst)) p.1)) = F0 at h
  split at h
  · rename_i b1 L LE RR hbuild
    split at h
    · rename_i b2 S2 htail
      simp only [Option.some.injEq, Prod.mk.injEq] at h
      obtain ⟨hbb, rfl⟩ := h
      rw [← hbb] at hb
      simp only [Bool.and_eq_true] at hb
      obtain ⟨hb1, hb2, hlow, hfull, hnd, hno, hord⟩ := hb
      have hnL := nodupB_ok hnd
      obtain ⟨⟨tL0, hL0, hLi⟩, ⟨tE0, hLE0, hLEi⟩, ⟨tR0, hR0, hRm⟩, hfacts⟩ := buildX_ok hcall Q k hkg hbuild hb1
      rw [List.nil_append] at hL0
      rw [List.append_nil] at hLE0
      rw [List.append_nil] at hR0
      subst hL0
      subst hLE0
      subst hR0
      have RRmask : ∀ p ∈ RR, (masksX ops.toList [])[p.1]? = some p.2.1 := fun p hp => by
        obtain ⟨q, h1, h2⟩ := hRm p hp
        rw [h1, Nat.zero_add]; exact h2
      have hF00 : ∀ t ∈ keysL L, lk F0 t = none := fun t ht => noKey_get hno ht
      have hLXF : LX F0 S.F := by rw [← hF0]; exact lk_filter (fun t x y => rfl)
      have mlow : ∀ {i mi : Nat}, (masksX ops.toList [])[i]? = some mi → ∀ p, mi.testBit p = true → p < i := by
        intro i
        induction i using Nat.strongRecOn with
        | _ i ih =>
          intro mi hmi p hp
          obtain ⟨t, h1, h2, _⟩ := masksX_spec ops.toList []
          have hlt : i < ops.toList.length := by
            rw [h1] at hmi
            have := (List.getElem?_eq_some_iff.1 hmi).1
            simp at this h2 ⊢
            omega
          have ho : ops.toList[i]? = some ops.toList[i] := List.getElem?_eq_getElem hlt
          obtain ⟨j, h3, h4⟩ := masks_bit ho hmi hp
          have hj := lowB_get hlow ho j h3
          rw [Nat.zero_add] at hj
          rcases h4 with rfl | ⟨m', h5, h6⟩
          · exact hj
          · have := ih j hj h5 p h6; omega
      have mget : ∀ {i mi : Nat}, (masksX ops.toList [])[i]? = some mi → (masksX ops.toList []).getD i 0 = mi := fun {i mi} h => by rw [List.getD_eq_getElem?_getD, h]; rfl
      -- indices of the entries
      have hLm : ∀ p ∈ L, p.1 < ops.size ∧ p.1 < m := fun p hp => by have := (hLi p hp).2; simp at this; omega
      have hEm : ∀ p ∈ LE, p.1 < ops.size ∧ p.1 < m := fun p hp => by have := (hLEi p hp).2.1; simp at this; omega
      have hsel_all : ∀ {α : Type} {L : List (Nat × Nat × α)} {b : Nat → Bool}, (∀ p ∈ L, b p.1 = true) → selL L b = L.map (·.2) := fun {α L b} hb => by
        induction L with
        | nil => rfl
        | cons p r ih =>
          have := ih (fun q hq => hb q (List.mem_cons_of_mem _ hq))
          simp only [selL] at this
          simp [selL, hb p List.mem_cons_self, this]
      have hnofresh : ∀ (b : Nat → Bool) (t : Nat), S.nx ≤ t → (∀ p ∈ LE, p.2.1 = t → b p.1 = false) → lk (selL LE b ++ S.H) t = none := fun b t ht hp => by
        have := lk_dropT (b := b) (H := S.H) (κ := t) (L := []) (T := LE) hp
        rw [List.append_nil] at this
        rw [this]
        exact hf t ht
      have hfr2 : Fr (LE.map (·.2) ++ S.H) (S.nx + ops.toList.length) := fun t ht => by
        rw [← hsel_all (b := fun _ => true) (fun _ _ => rfl)]
        refine hnofresh _ _ (by omega) (fun p hp hk => ?_)
        exfalso
        have h3 := hEm p hp
        rcases (hLEi p hp).2.2 with h4 | ⟨m4, R4, h4, h5, h6 | h6⟩
        · simp at ht; omega
        · omega
        · have := mlow (RRmask _ h4) _ h6
          simp at ht this
          omega
      have hseq := opsX_ok (P := P) (ops := ops) (Q := Q) (k := k) (N := N) hkg hcall hin hfr2 htail hb2
      refine ⟨hseq.1, fun hq id => ?_⟩
      -- all orders
      have hmle : m ≤ ops.size := by
        rw [← hm]
        obtain ⟨t, h1, h2, _⟩ := masksX_spec ops.toList []
        have := freeLen_le (masksX ops.toList []) 0
        rw [h1] at this ⊢
        simp at this h2 ⊢
        omega
      have main : ∀ (fuel : Nat) (listed : Array Bool), cntU (fun j => listed.getD j false) ops.size ≤ fuel → listed.size = ops.size → (∀ j, m ≤ j → listed.getD j false = false) → ClB ops.toList listed →
          ∀ a w, SR k N (selL L (fun j => listed.getD j false) ++ F0) (selL LE (fun j => listed.getD j false) ++ S.H) a w → wpAny P .any ops Q fuel listed a w := by
        intro fuel
        induction fuel with
        | zero =>
          intro listed hU hsz hmj hc a w hs
          by_cases hall : ∀ j, j < m → listed.getD j false = true
          · have hcnt := cntU_from (f := fun j => listed.getD j false) hall hmj hmle
            refine tail_any hkg hcall hin hfull hq 0 m listed ⟨L.map (·.2) ++ F0, LE.map (·.2) ++ S.H, S.nx + ops.toList.length⟩ b2 (Nat.le_refl _) hmle (by omega) hsz (fun j => ⟨fun h1 => ?_, fun h1 => hall j h1⟩) hc hfr2 htail hb2 a w ?_
            · rcases Nat.lt_or_ge j m with h2 | h2
              · exact h2
              · rw [hmj j h2] at h1; cases h1
            · rw [hsel_all (fun p hp => hall _ (hLm p hp).2), hsel_all (fun p hp => hall _ (hEm p hp).2)] at hs
              exact hs
          · exfalso
            apply hall
            intro j hj
            cases hv : listed.getD j false with
            | true => rfl
            | false =>
              have := cntU_set (f := fun q => listed.getD q false) (g := fun q => if q = j then true else listed.getD q false) (i := j) hv (by simp) (fun q hq => by simp [hq]) (n := ops.size) (by omega)
              omega
        | succ fuel ih =>
          intro listed hU hsz hmj hc a w hs
          by_cases hall : ∀ j, j < m → listed.getD j false = true
          · have hcnt := cntU_from (f := fun j => listed.getD j false) hall hmj hmle
            refine tail_any hkg hcall hin hfull hq (fuel + 1) m listed ⟨L.map (·.2) ++ F0, LE.map (·.2) ++ S.H, S.nx + ops.toList.length⟩ b2 (Nat.le_refl _) hmle (by omega) hsz (fun j => ⟨fun h1 => ?_, fun h1 => hall j h1⟩) hc hfr2 htail hb2 a w ?_
            · rcases Nat.lt_or_ge j m with h2 | h2
              · exact h2
              · rw [hmj j h2] at h1; cases h1
            · rw [hsel_all (fun p hp => hall _ (hLm p hp).2), hsel_all (fun p hp => hall _ (hEm p hp).2)] at hs
              exact hs
          · refine ⟨fun hn => ?_, fun i hi => ?_⟩
            · -- the lowest one that is not listed is ready
              exfalso
              have hex : ∃ j, j < m ∧ listed.getD j false = false := by
                apply Classical.byContradiction
                intro hne
                apply hall
                intro j hj
                cases hv : listed.getD j false with
                | true => rfl
                | false => exact absurd ⟨j, hj, hv⟩ hne
              obtain ⟨j0, hj0⟩ := hex
              obtain ⟨j, ⟨h1, h2⟩, h3⟩ := least (fun j => j < m ∧ listed.getD j false = false) j0 hj0
              have hlt : j < ops.size := by omega
              have hready : j ∈ Region.ready .any ops listed := by
                rw [mem_ready]
                refine ⟨?_, ops[j], Array.getElem?_eq_getElem hlt, of_dirs fun q hq' => ?_⟩
                · have : j < listed.size := by omega
                  simp [this] at h2 ⊢; exact h2
                · have hq := lowB_get hlow (q := j) (o := ops[j]) (by simp [hlt]) q hq'
                  cases hv : listed.getD q false with
                  | true => rfl
                  | false => have := h3 q ⟨by omega, hv⟩; omega
              rw [hn] at hready; cases hready
            · rw [mem_ready] at hi
              obtain ⟨h1, o, hoi, h2⟩ := hi
              have hlt : i < ops.size := (Array.getElem?_eq_some_iff.1 hoi).1
              have hlt' : i < listed.size := by omega
              have hoi' : ops.toList[i]? = some o := by rw [← hoi]; simp
              have hun : listed.getD i false = false := by simp [hlt'] at h1 ⊢; exact h1
              obtain ⟨mi, hmi⟩ := mask_some hoi'
              have him : i < m := by
                rcases Nat.lt_or_ge i m with h3 | h3
                · exact h3
                · exfalso
                  apply hall
                  intro j hj
                  have hfi := fullB_get hfull (q := i - m) (m := mi) (by rw [List.getElem?_drop, show m + (i - m) = i by omega]; exact hmi)
                  rw [show m + (i - m) = i by omega] at hfi
                  exact ready_low hc hoi' (dirs_of h2) hmi (by rw [hfi, Nat.testBit_two_pow_sub_one]; simp; omega)
              obtain ⟨mm, R, Do, Eo, Lq, LEq, tL, tE, c1, c0, c2, c3, c4, c5, c6, c7, c8⟩ := hfacts i o (by rw [List.getElem?_take, if_pos him]; exact hoi')
              rw [hmi] at c1; cases c1
              simp only [Nat.zero_add] at c0 c2 c3 c4 c5 c6 c7 c8
              have hsub : ∀ j, mi.testBit j = true → listed.getD j false = true := fun j hj => ready_low hc hoi' (dirs_of h2) hmi hj
              have hLq : ∀ p ∈ Lq, p ∈ L := fun p hp => by rw [c2]; exact List.mem_append_left _ hp
              have oneL : ∀ {t : Nat} {z : AV}, (i, t, z) ∈ L → Do = some (t, z) := fun {t z} h5 => by
                rw [c2] at h5
                rcases List.mem_append.1 h5 with h8 | h8
                · rcases c3 _ h8 with h9 | h9
                  · cases h9
                  · simp at h9
                · rcases List.mem_append.1 h8 with h9 | h9
                  · exact (tag_mem h9).2
                  · have := c4 _ h9; simp at this
              have inL : ∀ {t : Nat} {z : AV}, Do = some (t, z) → (i, t, z) ∈ L := fun {t z} h5 => by rw [c2, h5]; simp [tag]
              have inE : ∀ {t : Nat} {z : Ent}, Eo = some (t, z) → (i, t, z) ∈ LE := fun {t z} h5 => by rw [c5, h5]; simp [tag]
              have tEmem : ∀ p ∈ tE, p ∈ LE := fun p hp => by rw [c5]; exact List.mem_append_left _ hp
              have qEmem : ∀ p ∈ LEq, p ∈ LE := fun p hp => by rw [c5]; exact List.mem_append_right _ (List.mem_append_right _ hp)
              -- an entry behind this one, which must wait for it, is not listed
              have later : ∀ {s ms' : Nat}, (masksX ops.toList [])[s]? = some ms' → ms'.testBit i = true → listed.getD s false = false := fun {s ms'} hms hbit => by
                cases hv : listed.getD s false with
                | false => rfl
                | true => have := hc s hv ms' hms i hbit; rw [hun] at this; cases this
              have maskOf : ∀ p ∈ LE, ∃ ms', (masksX ops.toList [])[p.1]? = some ms' := fun p hp => by
                have hlt := (hEm p hp).1
                exact mask_some (o := ops.toList[p.1]'(by simpa using hlt)) (List.getElem?_eq_getElem (by simpa using hlt))
              have tEwait : ∀ p ∈ tE, (p.2.1 ∈ R ∨ ∃ e, Eo = some (p.2.1, e)) → listed.getD p.1 false = false := fun p hp hk => by
                have hgt := c7 p hp
                obtain ⟨ms', hms'⟩ := maskOf p (tEmem p hp)
                rcases hk with hk | ⟨e, he⟩
                · rcases ordB_get hord c0 (tEmem p hp) (by omega) hk with h5 | h5
                  · have := mlow hmi _ h5; omega
                  · rw [mget hms'] at h5; exact later hms' h5
                · rcases (hLEi p (tEmem p hp)).2.2 with h5 | ⟨m5, R5, h6, h7, _⟩
                  · -- a new number of its own
                    rcases c8.1 _ _ he with h8 | h8
                    · omega
                    · rcases h8.1 with h9 | h9
                      · omega
                      · have := mlow hmi _ h9; omega
                  · rcases ordB_get hord h6 (inE he) (by omega) h7 with h8 | h8
                    · -- its mask holds this one
                      obtain ⟨mq, hq1, hq2⟩ : ∃ mq, (masksX ops.toList [])[p.1]? = some mq ∧ mq = m5 := by
                        have hlt := (hEm p (tEmem p hp)).2
                        have hlt2 := (hEm p (tEmem p hp)).1
                        exact ⟨m5, RRmask _ h6, rfl⟩
                      rw [← hq2] at h8
                      exact later hq1 h8
                    · rw [mget hmi] at h8
                      have := mlow hmi _ h8; omega
              have hagree : ∀ κ ∈ R, lk (selL LE (fun j => listed.getD j false) ++ S.H) κ = lk (selL LEq mi.testBit ++ S.H) κ := fun κ hκ => by
                rw [c5]
                rw [lk_dropT (fun p hp hk => tEwait p hp (.inl (by rw [hk]; exact hκ)))]
                rw [lk_dropT (fun p hp hk => by rw [(tag_mem hp).1]; exact hun)]
                refine lk_agree (fun p hp hk => ?_)
                have hlt : p.1 < i := by
                  rcases c6 p hp with h5 | h5
                  · cases h5
                  · exact h5.2
                rcases ordB_get hord c0 (qEmem p hp) (by omega) (by rw [hk]; exact hκ) with h5 | h5
                · rw [h5]; exact hsub _ h5
                · obtain ⟨ms', hms'⟩ := maskOf p (qEmem p hp)
                  rw [mget hms'] at h5
                  have := mlow hms' _ h5; omega
              have hnew : lk (selL LE (fun j => listed.getD j false) ++ S.H) (S.nx + i) = none := by
                refine hnofresh _ _ (by omega) (fun p hp hk => ?_)
                rcases (hLEi p hp).2.2 with h5 | ⟨m5, R5, h5, h6, h7 | h7⟩
                · have : p.1 = i := by omega
                  rw [this]; exact hun
                · omega
                · rw [hk, Nat.add_sub_cancel_left] at h7
                  exact later (RRmask _ h5) h7
              have hos := c8.2 _ _ (sel_LX (c := mi.testBit) (b := fun j => listed.getD j false) (LX.refl F0) hLq hnL (by rw [c2] at hnL; exact keys_sub hnL) hF00 hsub) hagree hnew
              refine hos.wpOp hoi hs fun a' w' hs' => ?_
              have hset : ∀ j, (listed.setIfInBounds i true).getD j false = if j = i then true else listed.getD j false := fun j => by
                by_cases hj : j = i
                · subst hj; simp [hlt']
                · rw [getD_set_ne false (Ne.symm hj), if_neg hj]
              refine ih (listed.setIfInBounds i true) ?_ (by simpa using hsz) (fun j hj => ?_) (hc.set hlt' hoi' (dirs_of h2)) a' w' ?_
              · have := cntU_set (f := fun q => listed.getD q false) (g := fun q => (listed.setIfInBounds i true).getD q false) (i := i) hun (by simp [hset]) (fun q hq => by simp only [hset, if_neg hq]) (n := ops.size) hlt
                omega
              · rw [hset, if_neg (by omega)]; exact hmj j hj
              · refine hs'.cong (fun t x hx => ?_) (fun t => ?_)
                · rw [lk_sel _ _ _ hnL] at hx
                  have other : ∀ (hno : ∀ z, Do ≠ some (t, z)), lk (Do.toList ++ (selL L (fun j => listed.getD j false) ++ F0)) t = lk (selL L (fun j => listed.getD j false) ++ F0) t := fun hno => by
                    cases hD : Do with
                    | none => rfl
                    | some q =>
                      obtain ⟨d, y⟩ := q
                      have hne : d ≠ t := fun e => hno y (by rw [hD, e])
                      simp only [Option.toList_some, List.cons_append, List.nil_append]
                      rw [lk_ne hne]
                  cases hq : fk L t with
                  | none =>
                    rw [hq] at hx
                    rw [other (fun z hz => fk_none_iff hq hnL (key_of_mem (inL hz))), lk_sel _ _ _ hnL, hq]
                    exact hx
                  | some q =>
                    obtain ⟨j, z⟩ := q
                    rw [hq] at hx
                    simp only [hset] at hx
                    by_cases hj : j = i
                    · subst hj
                      have h6 := oneL (fk_mem hq)
                      simp at hx
                      subst hx
                      rw [h6]
                      simp only [Option.toList_some, List.cons_append, List.nil_append]
                      exact lk_self _ _ _
                    · rw [if_neg hj] at hx
                      rw [other (fun y hy => by
                        have := fk_of_mem hnL (inL hy)
                        rw [this] at hq; cases hq; exact hj rfl), lk_sel _ _ _ hnL, hq]
                      exact hx
                · have same : ∀ (T : List (Nat × Nat × Ent)), (∀ p ∈ T, p.1 ≠ i) → lk (selL T (fun j => (listed.setIfInBounds i true).getD j false) ++ S.H) t = lk (selL T (fun j => listed.getD j false) ++ S.H) t := fun T hT => lk_agree (fun p hp _ => by simp only [hset, if_neg (hT p hp)])
                  have hqne : ∀ p ∈ LEq, p.1 ≠ i := fun p hp => by
                    rcases c6 p hp with h5 | h5
                    · cases h5
                    · have := h5.2; omega
                  have htne : ∀ p ∈ tE, p.1 ≠ i := fun p hp => by have := c7 p hp; omega
                  cases hE : Eo with
                  | none =>
                    rw [hE] at c5
                    simp only [tag, Option.toList_none, List.map_nil, List.nil_append] at c5 ⊢
                    rw [c5]
                    exact same _ (fun p hp => by
                      rcases List.mem_append.1 hp with h5 | h5
                      · exact htne p h5
                      · exact hqne p h5)
                  | some q =>
                    obtain ⟨κ, e⟩ := q
                    simp only [Option.toList_some, List.cons_append, List.nil_append]
                    by_cases hκ : κ = t
                    · subst hκ
                      rw [lk_self, c5]
                      rw [lk_dropT (fun p hp hk => by
                        simp only [hset, if_neg (htne p hp)]
                        exact tEwait p hp (.inr ⟨e, by rw [hE, hk]⟩))]
                      rw [hE]
                      simp only [tag, Option.toList_some, List.map_cons, List.map_nil, List.cons_append, List.nil_append, selL, List.filterMap_cons, hset, if_true, cond_true]
                      exact lk_self _ _ _
                    · rw [lk_ne hκ]
                      rw [c5]
                      refine lk_agree (fun p hp hk => ?_)
                      by_cases hpi : p.1 = i
                      · exfalso
                        rcases List.mem_append.1 hp with h5 | h5
                        · exact htne p h5 hpi
                        · rcases List.mem_append.1 h5 with h6 | h6
                          · have h7 := (tag_mem h6).2
                            rw [hE] at h7
                            have h8 : (κ, e) = p.2 := Option.some.inj h7
                            rw [← h8] at hk
                            exact hκ hk
                          · exact hqne p h6 hpi
                      · simp only [hset, if_neg hpi]
      intro a w hs
      refine wp_region_any hmix (main _ _ (cntU_le _ _) (by simp) (fun j _ => rep_false _ _) (fun j hj => by rw [rep_false] at hj; cases hj) a _ ?_)
      have hnil : ∀ {α : Type} (L : List (Nat × Nat × α)), selL L (fun j => (Array.replicate ops.size false).getD j false) = [] := fun L => by
        unfold selL
        rw [List.filterMap_eq_nil_iff]
        intro p _
        simp only [rep_false, cond_false]
      rw [hnil, hnil, List.nil_append, List.nil_append]
      exact (hs.cong hLXF (fun _ => rfl)).drew
    · cases h
  · cases h
end
end Go.Pt
