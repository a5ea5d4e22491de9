/-
  What the plain functions compute, in plain arithmetic, part 12. Conditions: what each theorem names.
-/
import Derived.Test.YtlbmcojegiabpaaDiL11
set_option linter.unusedSimpArgs false
set_option linter.unusedVariables false
namespace Go.Nilo
theorem lowR_first : lowR 2000000 1 = ⟨2000000, 1⟩ := by
  unfold lowR
  congr 1 <;> decide
theorem firstG_isNone {ρ : Type} {g : Nat → Option ρ} : ∀ (n i : Nat), (firstG g i n).isNone = true ↔ ∀ j, i ≤ j → j < i + n → g j = none
  | 0, i => by
    constructor
    · intro _ j h1 h2; omega
    · intro _; rfl
  | n + 1, i => by
    unfold firstG
    constructor
    · intro h j h1 h2
      cases hg : g i with
      | some r => rw [hg] at h; cases h
      | none =>
        rw [hg] at h
        by_cases hij : j = i
        · subst hij; exact hg
        · exact (firstG_isNone n (i + 1)).1 h j (by omega) (by omega)
    · intro h
      rw [h i (Nat.le_refl _) (by omega)]
      exact (firstG_isNone n (i + 1)).2 (fun j h1 h2 => h j (by omega) (by omega))
theorem proB_iff {l s : List Int} {rule : Int} {x : api_Ratio} : proB l s rule x = true ↔ ∀ i, i < l.length → laB s rule i * x.N ≤ nI l i * x.D ∧ nI l i * x.D ≤ nxB s rule i * x.N := by
  unfold proB
  rw [firstG_isNone]
  constructor
  · intro h i hi
    have := h i (by omega) (by omega)
    unfold okV at this
    cases h1 : decide (2 * cN l i * x.D < askI rule (sI s i) * x.N) with
    | true => rw [h1] at this; cases this
    | false =>
      cases h2 : decide (askI rule (sI s i + 1) * x.N < 2 * cN l i * x.D) with
      | true => rw [h1, h2] at this; cases this
      | false =>
        rw [decide_eq_false_iff_not] at h1 h2
        unfold laB nxB nI
        omega
  · intro h i _ hi
    have := h i (by omega)
    unfold laB nxB nI at this
    unfold okV
    rw [decide_eq_false (by omega), decide_eq_false (by omega)]
    rfl
theorem low_proves {l s : List Int} {rule : Int} (h : ShOk l s rule) (hm : ¬ (high l s rule).1 * (low l s rule).2 < (low l s rule).1 * (high l s rule).2) : proB l s rule (lowR (low l s rule).1 (low l s rule).2) = true := by
  have lp := low_pos h hm
  have lb := low_bd h
  have hb := high_bd h
  have lf := (low_facts h).2
  have hf := (high_facts h).2.2
  rw [proB_iff]
  intro i hi
  have ni := nI_bd h hi
  constructor
  · rw [lowR_ge lb.1.1 lp]
    by_cases h0 : 0 < laB s rule i
    · have := q_le_le (by omega) hb.2.1 (by omega) (hf i hi h0) (show (low l s rule).1 * (high l s rule).2 ≤ (high l s rule).1 * (low l s rule).2 by omega)
      rwa [Int.mul_comm (laB s rule i)]
    · have h1 : laB s rule i * (low l s rule).1 ≤ 0 := Int.mul_nonpos_of_nonpos_of_nonneg (by omega) (by omega)
      have h2 : 0 ≤ nI l i * (low l s rule).2 := Int.mul_nonneg (by omega) (by omega)
      omega
  · rw [lowR_le lb.1.1 lp, Int.mul_comm (nxB s rule i)]
    exact lf i hi
theorem high_proves {l s : List Int} {rule : Int} (h : ShOk l s rule) (hm : ¬ (high l s rule).1 * (low l s rule).2 < (low l s rule).1 * (high l s rule).2) : proB l s rule (lowR (high l s rule).1 (high l s rule).2) = true := by
  have lp := low_pos h hm
  have lb := low_bd h
  have hb := high_bd h
  have lf := (low_facts h).2
  have hf := (high_facts h).2.2
  rw [proB_iff]
  intro i hi
  have ni := nI_bd h hi
  have bi := nxB_bd h hi
  constructor
  · rw [lowR_ge hb.1.1 hb.2.1]
    by_cases h0 : 0 < laB s rule i
    · rw [Int.mul_comm (laB s rule i)]
      exact hf i hi h0
    · have h1 : laB s rule i * (high l s rule).1 ≤ 0 := Int.mul_nonpos_of_nonpos_of_nonneg (by omega) (by omega)
      have h2 : 0 ≤ nI l i * (high l s rule).2 := Int.mul_nonneg (by omega) (by omega)
      omega
  · rw [lowR_le hb.1.1 hb.2.1, Int.mul_comm (nxB s rule i)]
    exact q_le_le (by omega) lp bi.1 (show (low l s rule).1 * (high l s rule).2 ≤ (high l s rule).1 * (low l s rule).2 by omega) (lf i hi)
end Go.Nilo
