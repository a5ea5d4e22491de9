/-
  What the plain functions compute, in plain arithmetic, part 12. Conditions: what each theorem names.
-/
import Derived.Test.YtlbmcojegiabpaaTnL11
set_option linter.unusedSimpArgs false
set_option linter.unusedVariables false
namespace Go.Nilo
/-! ### The reference tries all quotients that are there -/
def andB (s : List Int) (rule : Int) (i k : Nat) : Int := askI rule (sI s i + (k : Int))
def candK (l s : List Int) (rule : Int) (i : Nat) (L : List api_Ratio) : Nat → List api_Ratio
  | 0 => L
  | k + 1 => candK l s rule i L k ++ cond (decide (0 < andB s rule i k)) [lowR (nI l i) (andB s rule i k)] []
def cand (l s : List Int) (rule : Int) : Nat → List api_Ratio
  | 0 => [⟨2000000, 1⟩]
  | i + 1 => candK l s rule i (cand l s rule i) 2
theorem candK_len (l s : List Int) (rule : Int) (i : Nat) (L : List api_Ratio) : ∀ k, (candK l s rule i L k).length ≤ L.length + k
  | 0 => Nat.le_refl _
  | k + 1 => by
    have := candK_len l s rule i L k
    unfold candK
    cases decide (0 < andB s rule i k)
    · simp; omega
    · simp; omega
theorem cand_len (l s : List Int) (rule : Int) : ∀ i, (cand l s rule i).length ≤ 1 + 2 * i
  | 0 => by simp [cand]
  | i + 1 => by
    have := candK_len l s rule i (cand l s rule i) 2
    have := cand_len l s rule i
    unfold cand
    omega
theorem lowR_first : lowR 2000000 1 = ⟨2000000, 1⟩ := by
  unfold lowR
  congr 1 <;> decide
/-- What is tried is a quotient that is there. -/
def IsC (_ _ : List Int) (_ : Int) (x : api_Ratio) : Prop := ∃ n d : Int, (0 < n ∧ n ≤ 2000000) ∧ (0 < d ∧ d ≤ 200000) ∧ x = lowR n d
theorem andB_0 (s : List Int) (rule : Int) (i : Nat) : andB s rule i 0 = laB s rule i := by
  unfold andB laB
  congr 1
  omega
theorem andB_1 (s : List Int) (rule : Int) (i : Nat) : andB s rule i 1 = nxB s rule i := rfl
theorem cand_is {l s : List Int} {rule : Int} (h : SOk l s rule) : ∀ i, i ≤ l.length → ∀ x ∈ cand l s rule i, IsC l s rule x
  | 0, _, x, hx => by
    simp only [cand, List.mem_singleton] at hx
    subst hx
    exact ⟨2000000, 1, by decide, by decide, lowR_first.symm⟩
  | i + 1, hi, x, hx => by
    have ni := nI_bd h (i := i) (by omega)
    have l1 := laB_bd h (i := i) (by omega)
    have l2 := nxB_bd h (i := i) (by omega)
    simp only [cand, candK, List.mem_append] at hx
    rw [andB_0, andB_1] at hx
    rcases hx with (hx | hx) | hx
    · exact cand_is h i (by omega) x hx
    · by_cases h0 : 0 < laB s rule i
      · rw [decide_eq_true h0, cond_true, List.mem_singleton] at hx
        exact ⟨nI l i, laB s rule i, by omega, by omega, hx⟩
      · rw [decide_eq_false h0, cond_false] at hx
        cases hx
    · by_cases h0 : 0 < nxB s rule i
      · rw [decide_eq_true h0, cond_true, List.mem_singleton] at hx
        exact ⟨nI l i, nxB s rule i, by omega, by omega, hx⟩
      · rw [decide_eq_false h0, cond_false] at hx
        cases hx
theorem cand_mono (l s : List Int) (rule : Int) {i : Nat} {x : api_Ratio} (hx : x ∈ cand l s rule i) : ∀ k, x ∈ cand l s rule (i + k)
  | 0 => hx
  | k + 1 => by
    have := cand_mono l s rule hx k
    show x ∈ candK l s rule (i + k) (cand l s rule (i + k)) 2
    simp only [candK, List.mem_append]
    exact .inl (.inl this)
theorem cand_first (l s : List Int) (rule : Int) (n : Nat) : (⟨2000000, 1⟩ : api_Ratio) ∈ cand l s rule n := by
  have := cand_mono l s rule (i := 0) (x := ⟨2000000, 1⟩) (by simp [cand]) n
  rwa [Nat.zero_add] at this
theorem cand_la {l s : List Int} {rule : Int} {i n : Nat} (hi : i < n) (h0 : 0 < laB s rule i) : lowR (nI l i) (laB s rule i) ∈ cand l s rule n := by
  have := cand_mono l s rule (i := i + 1) (x := lowR (nI l i) (laB s rule i)) (by
    simp only [cand, candK, List.mem_append]
    rw [andB_0, decide_eq_true h0]
    exact .inl (.inr (by simp))) (n - (i + 1))
  rwa [show i + 1 + (n - (i + 1)) = n by omega] at this
theorem cand_nx {l s : List Int} {rule : Int} {i n : Nat} (hi : i < n) (h0 : 0 < nxB s rule i) : lowR (nI l i) (nxB s rule i) ∈ cand l s rule n := by
  have := cand_mono l s rule (i := i + 1) (x := lowR (nI l i) (nxB s rule i)) (by
    simp only [cand, candK, List.mem_append]
    rw [andB_1, decide_eq_true h0]
    exact .inr (by simp)) (n - (i + 1))
  rwa [show i + 1 + (n - (i + 1)) = n by omega] at this
theorem low_in {l s : List Int} {rule : Int} (h : SOk l s rule) (hp : 0 < (low l s rule).2) : lowR (low l s rule).1 (low l s rule).2 ∈ cand l s rule l.length := by
  obtain ⟨j, hj, h1⟩ := (low_facts h).1
  rw [h1] at hp ⊢
  exact cand_nx hj hp
theorem high_in {l s : List Int} {rule : Int} (h : SOk l s rule) : lowR (high l s rule).1 (high l s rule).2 ∈ cand l s rule l.length := by
  rcases (high_facts h).1 with h1 | ⟨j, hj, hl, h1⟩
  · rw [h1]
    have : lowR ((2000000 : Int), (1 : Int)).1 ((2000000 : Int), (1 : Int)).2 = ⟨2000000, 1⟩ := lowR_first
    rw [this]
    exact cand_first l s rule _
  · rw [h1]
    exact cand_la hj hl

/-! ### What proves -/
theorem firstG_isNone {ρ : Type} {g : Nat → Option ρ} : ∀ (n i : Nat), (firstG g i n).isNone = true ↔ ∀ j, i ≤ j → j < i + n → g j = none
  | 0, i => by
    constructor
    · intro _ j h1 h2; omega
    · intro _; rfl
  | n + 1, i => by
    unfold firstG
    constructor
    · intro h j h1 h2
      cases hg : g i with
      | some r => rw [hg] at h; cases h
      | none =>
        rw [hg] at h
        by_cases hij : j = i
        · subst hij; exact hg
        · exact (firstG_isNone n (i + 1)).1 h j (by omega) (by omega)
    · intro h
      rw [h i (Nat.le_refl _) (by omega)]
      exact (firstG_isNone n (i + 1)).2 (fun j h1 h2 => h j (by omega) (by omega))
theorem proB_iff {l s : List Int} {rule : Int} {x : api_Ratio} : proB l s rule x = true ↔ ∀ i, i < l.length → laB s rule i * x.N ≤ nI l i * x.D ∧ nI l i * x.D ≤ nxB s rule i * x.N := by
  unfold proB
  rw [firstG_isNone]
  constructor
  · intro h i hi
    have := h i (by omega) (by omega)
    unfold okV at this
    cases h1 : decide (2 * cN l i * x.D < askI rule (sI s i) * x.N) with
    | true => rw [h1] at this; cases this
    | false =>
      cases h2 : decide (askI rule (sI s i + 1) * x.N < 2 * cN l i * x.D) with
      | true => rw [h1, h2] at this; cases this
      | false =>
        rw [decide_eq_false_iff_not] at h1 h2
        unfold laB nxB nI
        omega
  · intro h i _ hi
    have := h i (by omega)
    unfold laB nxB nI at this
    unfold okV
    rw [decide_eq_false (by omega), decide_eq_false (by omega)]
    rfl
theorem low_proves {l s : List Int} {rule : Int} (h : SOk l s rule) (hm : ¬ (high l s rule).1 * (low l s rule).2 < (low l s rule).1 * (high l s rule).2) : proB l s rule (lowR (low l s rule).1 (low l s rule).2) = true := by
  have lp := low_pos h hm
  have lb := low_bd h
  have hb := high_bd h
  have lf := (low_facts h).2
  have hf := (high_facts h).2.2
  rw [proB_iff]
  intro i hi
  have ni := nI_bd h hi
  constructor
  · rw [lowR_ge lb.1.1 lp]
    by_cases h0 : 0 < laB s rule i
    · have := q_le_le (by omega) hb.2.1 (by omega) (hf i hi h0) (show (low l s rule).1 * (high l s rule).2 ≤ (high l s rule).1 * (low l s rule).2 by omega)
      rwa [Int.mul_comm (laB s rule i)]
    · have h1 : laB s rule i * (low l s rule).1 ≤ 0 := Int.mul_nonpos_of_nonpos_of_nonneg (by omega) (by omega)
      have h2 : 0 ≤ nI l i * (low l s rule).2 := Int.mul_nonneg (by omega) (by omega)
      omega
  · rw [lowR_le lb.1.1 lp, Int.mul_comm (nxB s rule i)]
    exact lf i hi
theorem high_proves {l s : List Int} {rule : Int} (h : SOk l s rule) (hm : ¬ (high l s rule).1 * (low l s rule).2 < (low l s rule).1 * (high l s rule).2) : proB l s rule (lowR (high l s rule).1 (high l s rule).2) = true := by
  have lp := low_pos h hm
  have lb := low_bd h
  have hb := high_bd h
  have lf := (low_facts h).2
  have hf := (high_facts h).2.2
  rw [proB_iff]
  intro i hi
  have ni := nI_bd h hi
  have bi := nxB_bd h hi
  constructor
  · rw [lowR_ge hb.1.1 hb.2.1]
    by_cases h0 : 0 < laB s rule i
    · rw [Int.mul_comm (laB s rule i)]
      exact hf i hi h0
    · have h1 : laB s rule i * (high l s rule).1 ≤ 0 := Int.mul_nonpos_of_nonpos_of_nonneg (by omega) (by omega)
      have h2 : 0 ≤ nI l i * (high l s rule).2 := Int.mul_nonneg (by omega) (by omega)
      omega
  · rw [lowR_le hb.1.1 hb.2.1, Int.mul_comm (nxB s rule i)]
    exact q_le_le (by omega) lp bi.1 (show (low l s rule).1 * (high l s rule).2 ≤ (high l s rule).1 * (low l s rule).2 by omega) (lf i hi)
/-- What proves lies between both. -/
theorem between {l s : List Int} {rule : Int} (h : SOk l s rule) {x : api_Ratio} (hx : IsC l s rule x) (hp : proB l s rule x = true) : (low l s rule).1 * x.D ≤ (low l s rule).2 * x.N ∧ (high l s rule).2 * x.N ≤ (high l s rule).1 * x.D := by
  rw [proB_iff] at hp
  constructor
  · obtain ⟨j, hj, h1⟩ := (low_facts h).1
    rw [h1]
    exact (hp j hj).2
  · rcases (high_facts h).1 with h1 | ⟨j, hj, hl, h1⟩
    · rw [h1]
      obtain ⟨n, d, hn, hd, rfl⟩ := hx
      obtain ⟨g, -, -, -, a, b, c, e⟩ := lowR_spec hn.1 hd.1
      show 1 * (lowR n d).N ≤ 2000000 * (lowR n d).D
      omega
    · rw [h1]
      exact (hp j hj).1
theorem none_proves {l s : List Int} {rule : Int} (h : SOk l s rule) (hm : (high l s rule).1 * (low l s rule).2 < (low l s rule).1 * (high l s rule).2) {x : api_Ratio} (hx : IsC l s rule x) : proB l s rule x = false := by
  cases hp : proB l s rule x with
  | false => rfl
  | true =>
    exfalso
    obtain ⟨a, b⟩ := between h hx hp
    have lb := low_bd h
    have hb := high_bd h
    obtain ⟨n, d, hn, hd, rfl⟩ := hx
    obtain ⟨g, -, -, -, n1, -, d1, -⟩ := lowR_spec hn.1 hd.1
    have := q_le_le (a := (low l s rule).2) (b := (lowR n d).D) (c := (high l s rule).2) (x := (low l s rule).1) (y := (lowR n d).N) (z := (high l s rule).1) (by omega) (by omega) (by omega) (by rw [Int.mul_comm]; omega) (by rw [Int.mul_comm (lowR n d).D]; omega)
    rw [Int.mul_comm (high l s rule).2, Int.mul_comm (low l s rule).2] at this
    omega
end Go.Nilo
