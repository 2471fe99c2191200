/- A part of the proof: contracts of functions of the given program, out of walks over data. -/
import Derived.Test.YtnohaiobpmmomaaGreatDoorLw4
set_option linter.unusedVariables false
set_option linter.unusedSimpArgs false
namespace Go.Pt

theorem gapEnd_le (n : Nat) (B : Int) : ∀ (g : Int) (ls : List Int), gapEnd n g ls ≤ B ↔ g ≤ B ∧ ∀ x ∈ ls, (n : Int) - x + 1 ≤ B
  | g, [] => by simp [gapEnd]
  | g, x :: r => by
    unfold gapEnd
    rw [gapEnd_le n B]
    simp only [List.mem_cons, forall_eq_or_imp]
    constructor
    · rintro ⟨h1, h2⟩; exact ⟨by omega, by omega, h2⟩
    · rintro ⟨h1, h2, h3⟩; exact ⟨by omega, h3⟩
theorem gapZ_le (zs : List Int) (B : Int) : gapZ zs ≤ B ↔ (gapAt zs zs.length).1 ≤ B ∧ ∀ x ∈ (gapAt zs zs.length).2, (zs.length : Int) - x + 1 ≤ B := gapEnd_le _ _ _ _
theorem gapZ_ge (zs : List Int) : (gapAt zs zs.length).1 ≤ gapZ zs ∧ ∀ x ∈ (gapAt zs zs.length).2, (zs.length : Int) - x + 1 ≤ gapZ zs := (gapZ_le zs _).1 (Int.le_refl _)
theorem gapZ_7 (zs : List Int) : 7 ≤ gapZ zs := Int.le_trans (gapAt_ok zs zs.length).2.2.1 (gapZ_ge zs).1
/-- The gap so far: seven, or no more than the picks so far. -/
theorem gapAt_small (zs : List Int) : ∀ j : Nat, (gapAt zs j).1 = 7 ∨ (gapAt zs j).1 ≤ j
  | 0 => .inl rfl
  | j + 1 => by
    obtain ⟨h1, h2, h3, h4⟩ := gapAt_ok zs j
    have ih := gapAt_small zs j
    unfold gapAt gapStep
    split
    · rename_i hz
      simp only
      have hl : (zs.getD j 0).toNat < (gapAt zs j).2.length := by omega
      have := h2 _ (List.getElem_mem hl)
      rw [List.getD_eq_getElem?_getD, List.getElem?_eq_getElem hl, Option.getD_some]
      omega
    · omega
theorem gapZ_small (zs : List Int) : gapZ zs = 7 ∨ gapZ zs ≤ zs.length + 1 := by
  obtain ⟨h1, h2, h3, h4⟩ := gapAt_ok zs zs.length
  have h7 := gapZ_7 zs
  by_cases hn : (7 : Int) ≤ zs.length + 1
  · right
    rw [gapZ_le]
    exact ⟨by have := gapAt_small zs zs.length; omega, fun x hx => by have := h2 x hx; omega⟩
  · left
    have : gapZ zs ≤ 7 := by
      rw [gapZ_le]
      exact ⟨by have := gapAt_small zs zs.length; omega, fun x hx => by have := h2 x hx; omega⟩
    omega
/-- Behind a pick of the part k the last pick of k is no earlier. -/
theorem gapAt_last (zs : List Int) (k : Nat) (hk : k < 7) : ∀ j : Nat, ∀ i, i < j → zs.getD i 0 = (k : Int) → (i : Int) + 1 ≤ (gapAt zs j).2.getD k 0
  | 0, i, hi, _ => by omega
  | j + 1, i, hi, hz => by
    obtain ⟨h1, h2, h3, h4⟩ := gapAt_ok zs j
    unfold gapAt gapStep
    by_cases hij : i = j
    · subst hij
      rw [hz, if_pos (by omega)]
      simp only [Int.toNat_natCast]
      rw [List.getD_eq_getElem?_getD, List.getElem?_set_self (by omega)]
      simp
    · have ih := gapAt_last zs k hk j i (by omega) hz
      split
      · rename_i hr
        simp only
        by_cases hkz : (zs.getD j 0).toNat = k
        · rw [hkz, List.getD_eq_getElem?_getD, List.getElem?_set_self (by omega)]
          simp only [Option.getD_some]
          omega
        · rw [List.getD_eq_getElem?_getD, List.getElem?_set_ne hkz, ← List.getD_eq_getElem?_getD]
          exact ih
      · exact ih
theorem mem_getD {ls : List Int} {x : Int} (h : x ∈ ls) : ∃ k, k < ls.length ∧ ls.getD k 0 = x := by
  obtain ⟨k, hk, rfl⟩ := List.mem_iff_getElem.1 h
  exact ⟨k, hk, by rw [List.getD_eq_getElem?_getD, List.getElem?_eq_getElem hk]; rfl⟩
/-- Each part is among the picks. -/
def HasAll (zs : List Int) : Prop := ∀ k : Nat, k < 7 → ∃ i, i < zs.length ∧ zs.getD i 0 = (k : Int)
theorem getD_app_right {a b : List Int} {i : Nat} : (a ++ b).getD (a.length + i) 0 = b.getD i 0 := by
  rw [List.getD_eq_getElem?_getD, List.getElem?_append_right (by omega), List.getD_eq_getElem?_getD]
  simp
theorem getD_app_left {a b : List Int} {i : Nat} (h : i < a.length) : (a ++ b).getD i 0 = a.getD i 0 := by
  rw [List.getD_eq_getElem?_getD, List.getElem?_append_left h, List.getD_eq_getElem?_getD]
theorem hasAll_full (zs : List Int) : HasAll (zs ++ parts7) := fun k hk => by
  refine ⟨zs.length + k, by simp [parts7]; omega, ?_⟩
  rw [getD_app_right]
  match k, hk with
  | 0, _ | 1, _ | 2, _ | 3, _ | 4, _ | 5, _ | 6, _ => rfl
theorem gapZ_all {zs : List Int} (h : HasAll zs) (h7 : 7 ≤ zs.length) : gapZ zs ≤ zs.length := by
  obtain ⟨h1, h2, h3, h4⟩ := gapAt_ok zs zs.length
  rw [gapZ_le]
  refine ⟨by have := gapAt_small zs zs.length; omega, fun x hx => ?_⟩
  obtain ⟨k, hk, rfl⟩ := mem_getD hx
  obtain ⟨i, hi, hz⟩ := h k (by omega)
  have := gapAt_last zs k (by omega) _ i hi hz
  omega
/-- Gone over twice: the gap so far is no more than once. -/
theorem gapAt_twice {fs : List Int} (h7 : 7 ≤ fs.length) : ∀ j : Nat, j ≤ fs.length + fs.length → (gapAt (fs ++ fs) j).1 ≤ fs.length
  | 0, _ => by simp [gapAt]; omega
  | j + 1, hj => by
    obtain ⟨h1, h2, h3, h4⟩ := gapAt_ok (fs ++ fs) j
    have ih := gapAt_twice h7 j (by omega)
    unfold gapAt gapStep
    split
    · rename_i hr
      simp only
      have hl : ((fs ++ fs).getD j 0).toNat < (gapAt (fs ++ fs) j).2.length := by omega
      have hb := h2 _ (List.getElem_mem hl)
      by_cases hjl : j < fs.length
      · rw [List.getD_eq_getElem?_getD, List.getElem?_eq_getElem hl, Option.getD_some]
        omega
      · have e1 : (fs ++ fs).getD j 0 = fs.getD (j - fs.length) 0 := by
          have := getD_app_right (a := fs) (b := fs) (i := j - fs.length)
          rwa [Nat.add_sub_cancel' (by omega)] at this
        have hlt : j - fs.length < fs.length := by omega
        have e2 := getD_app_left (b := fs) hlt
        have := gapAt_last (fs ++ fs) ((fs ++ fs).getD j 0).toNat (by omega) j (j - fs.length) (by omega) (by rw [e2, ← e1]; omega)
        omega
    · exact ih
theorem gapZ_twice {fs : List Int} (h : HasAll fs) (h7 : 7 ≤ fs.length) : gapZ (fs ++ fs) ≤ fs.length := by
  have hl : (fs ++ fs).length = fs.length + fs.length := List.length_append
  obtain ⟨h1, h2, h3, h4⟩ := gapAt_ok (fs ++ fs) (fs.length + fs.length)
  rw [gapZ_le, hl]
  refine ⟨gapAt_twice h7 _ (Nat.le_refl _), fun x hx => ?_⟩
  obtain ⟨k, hk, rfl⟩ := mem_getD hx
  obtain ⟨i, hi, hz⟩ := h k (by omega)
  have := gapAt_last (fs ++ fs) k (by omega) (fs.length + fs.length) (fs.length + i) (by omega) (by rw [getD_app_right]; exact hz)
  omega
theorem gapAt_app (zs ys : List Int) : ∀ j : Nat, j ≤ zs.length → gapAt (zs ++ ys) j = gapAt zs j
  | 0, _ => rfl
  | j + 1, hj => by
    unfold gapAt
    rw [gapAt_app zs ys j (by omega), getD_app_left (by omega)]
theorem gapZ_more (zs : List Int) (p : Int) : gapZ zs ≤ gapZ (zs ++ [p]) ∧ gapZ (zs ++ [p]) ≤ gapZ zs + 1 := by
  obtain ⟨h1, h2, h3, h4⟩ := gapAt_ok zs zs.length
  have hl : (zs ++ [p]).length = zs.length + 1 := by simp
  have hs : gapAt (zs ++ [p]) (zs.length + 1) = gapStep zs.length (gapAt zs zs.length) p := by
    show gapStep zs.length (gapAt (zs ++ [p]) zs.length) ((zs ++ [p]).getD zs.length 0) = _
    rw [gapAt_app zs [p] _ (Nat.le_refl _)]
    have := getD_app_right (a := zs) (b := [p]) (i := 0)
    rw [Nat.add_zero] at this
    rw [this]
    rfl
  obtain ⟨a1, a2⟩ := gapZ_ge (zs ++ [p])
  obtain ⟨b1, b2⟩ := gapZ_ge zs
  rw [hl, hs] at a1 a2
  by_cases hr : 0 ≤ p ∧ p < 7
  · have e : gapStep zs.length (gapAt zs zs.length) p = (max (gapAt zs zs.length).1 ((zs.length : Int) - (gapAt zs zs.length).2.getD p.toNat 0 + 1), (gapAt zs zs.length).2.set p.toNat ((zs.length : Int) + 1)) := by
      unfold gapStep; rw [if_pos hr]
    rw [e] at a1 a2
    simp only at a1 a2
    have hpl : p.toNat < (gapAt zs zs.length).2.length := by omega
    have hb := h2 _ (List.getElem_mem hpl)
    have e2 : (gapAt zs zs.length).2.getD p.toNat 0 = (gapAt zs zs.length).2[p.toNat] := by
      rw [List.getD_eq_getElem?_getD, List.getElem?_eq_getElem hpl]; rfl
    constructor
    · rw [gapZ_le]
      refine ⟨by omega, fun x hx => ?_⟩
      obtain ⟨k, hk, rfl⟩ := List.mem_iff_getElem.1 hx
      by_cases hkp : k = p.toNat
      · subst hkp; omega
      · have := a2 _ (List.getElem_mem (l := (gapAt zs zs.length).2.set p.toNat ((zs.length : Int) + 1)) (n := k) (by rw [List.length_set]; exact hk))
        rw [List.getElem_set_ne (Ne.symm hkp)] at this
        omega
    · rw [gapZ_le, hl, hs, e]
      simp only
      refine ⟨?_, fun x hx => ?_⟩
      · have := b2 _ (List.getElem_mem hpl)
        omega
      · rcases List.mem_or_eq_of_mem_set hx with h | h
        · have := b2 x h; omega
        · have := gapZ_7 zs; omega
  · rw [gapStep_out hr] at a1 a2 hs
    constructor
    · rw [gapZ_le]
      exact ⟨a1, fun x hx => by have := a2 x hx; omega⟩
    · rw [gapZ_le, hl, hs]
      exact ⟨by omega, fun x hx => by have := b2 x hx; omega⟩

theorem fair_law {n : Nat} {zs : List Int} (hn : zs.length = n) : FnC [] Go.Proofs.Tryz.prog 3 [.sl n (intsD .i64 zs)] (.cl (.raw (.bool true))) := by
  by_cases h : 40 < n
  · exact fair_long hn h
  · refine fair_short (fs := zs ++ parts7) hn (by omega) rfl ?_ (gapZ_7 zs) (by have := gapZ_small zs; rw [hn] at this; exact this)
    exact gapZ_twice (hasAll_full zs) (by simp [parts7])
theorem more_law {n : Nat} {zs : List Int} (p : Int) (hn : zs.length = n) : FnC [] Go.Proofs.Tryz.prog 4 [.sl n (intsD .i64 zs), .raw (.int .i64 p)] (.cl (.raw (.bool true))) := by
  by_cases h : 40 < n
  · exact more_long p hn h
  · have hs := gapZ_small zs
    refine more_short (fs := zs ++ parts7) p hn (by omega) rfl (gapZ_more zs p).1 (gapZ_more zs p).2 ?_ (gapZ_7 _) (gapZ_7 _) (by omega)
    exact gapZ_all (hasAll_full zs) (by simp [parts7])
end Go.Pt
