/-
  What the plain functions compute, in plain arithmetic, part 13. Conditions: what each theorem names.
-/
import Derived.Test.YtlbmcojegiabpaaDiL12
set_option linter.unusedSimpArgs false
set_option linter.unusedVariables false
namespace Go.Nilo
theorem unfF_none {l s : List Int} {rule : Int} : unfF l s rule = none ↔ ∀ i k, i < l.length → k < l.length → unf l s rule i k = false := by
  have hn : ∀ {ρ : Type} (x : Option ρ), x = none ↔ x.isNone = true := fun x => by cases x <;> simp
  unfold unfF
  rw [hn, firstG_isNone]
  constructor
  · intro h i k hi hk
    have h1 := h i (by omega) (by omega)
    unfold unfR at h1
    rw [hn, firstG_isNone] at h1
    have h2 := h1 k (by omega) (by omega)
    unfold unfG at h2
    cases hu : unf l s rule i k with
    | false => rfl
    | true => rw [hu] at h2; cases h2
  · intro h i _ hi
    unfold unfR
    rw [hn, firstG_isNone]
    intro k _ hk
    unfold unfG
    rw [h i k (by omega) (by omega)]
    rfl
theorem unf_false {l s : List Int} {rule : Int} {i k : Nat} : unf l s rule i k = false ↔ (0 < sI s i → k ≠ i → cN l k * laB s rule i ≤ cN l i * nxB s rule k) := by
  unfold unf laB nxB
  constructor
  · intro h h1 h2
    simp only [decide_eq_true h1, decide_eq_true h2, Bool.true_and, decide_eq_false_iff_not] at h
    omega
  · intro h
    cases h1 : decide (0 < sI s i) with
    | false => rfl
    | true =>
      cases h2 : decide (k ≠ i) with
      | false => rfl
      | true =>
        rw [decide_eq_true_eq] at h1 h2
        have := h h1 h2
        simp only [Bool.true_and, decide_eq_false_iff_not]
        omega
theorem la_pos {l s : List Int} {rule : Int} (h : ShOk l s rule) {i : Nat} (hi : i < l.length) (h0 : 0 < laB s rule i) : 0 < sI s i := by
  have : 0 ≤ sI s i ∧ sI s i ≤ 366 := h.s i hi
  unfold laB at h0
  rcases askI_cases (n := sI s i) h.r with ⟨-, e⟩ | ⟨-, e⟩ | ⟨-, e⟩ <;> omega
theorem la_le_nx {l s : List Int} {rule : Int} (h : ShOk l s rule) {i : Nat} : laB s rule i ≤ nxB s rule i := by
  unfold laB nxB
  rcases askI_cases (n := sI s i) h.r with ⟨a, e⟩ | ⟨a, e⟩ | ⟨a, e⟩ <;> rcases askI_cases (n := sI s i + 1) h.r with ⟨a', e'⟩ | ⟨a', e'⟩ | ⟨a', e'⟩ <;> omega
/-- No share is unfair just if a divisor is between all next and all last quotients. -/
theorem fit_iff {l s : List Int} {rule : Int} (h : ShOk l s rule) (hz : (∀ i k, i < l.length → k < l.length → unf l s rule i k = false) → ∀ j, j < l.length → 0 < nxB s rule j) :
    unfF l s rule = none ↔ ¬ (high l s rule).1 * (low l s rule).2 < (low l s rule).1 * (high l s rule).2 := by
  rw [unfF_none]
  constructor
  · intro hu
    have hp := hz hu
    obtain ⟨j, hj, h1⟩ := (low_facts h).1
    have nj := nI_bd h hj
    have pj := hp j hj
    rw [h1]
    rcases (high_facts h).1 with h2 | ⟨t, ht, hl, h2⟩
    · rw [h2]
      show ¬ 2000000 * nxB s rule j < nI l j * 1
      omega
    · rw [h2]
      show ¬ nI l t * nxB s rule j < nI l j * laB s rule t
      by_cases hjt : j = t
      · subst hjt
        have := la_le_nx h (i := j)
        have := Int.mul_le_mul_of_nonneg_left this (show 0 ≤ nI l j by omega)
        omega
      · have := unf_false.1 (hu t j ht hj) (la_pos h ht hl) hjt
        unfold nI
        rw [Int.mul_assoc, Int.mul_assoc]
        omega
  · intro hm i k hi hk
    have lp := low_pos h hm
    have lb := low_bd h
    have hb := high_bd h
    rw [unf_false]
    intro h0 hki
    have nk := nI_bd h hk
    have ni := nI_bd h hi
    have bk := nxB_bd h hk
    by_cases hla : 0 < laB s rule i
    · have q1 := q_le_le (by omega) hb.2.1 (by omega) ((high_facts h).2.2 i hi hla) (show (low l s rule).1 * (high l s rule).2 ≤ (high l s rule).1 * (low l s rule).2 by omega)
      have q2 := q_le_le (by omega) lp bk.1 q1 ((low_facts h).2 k hk)
      unfold nI at q2
      rw [Int.mul_assoc, Int.mul_assoc] at q2
      omega
    · have ck : 1 ≤ cN l k ∧ cN l k ≤ 1000000 := h.c.c k hk
      have ci : 1 ≤ cN l i ∧ cN l i ≤ 1000000 := h.c.c i hi
      have h3 : cN l k * laB s rule i ≤ 0 := Int.mul_nonpos_of_nonneg_of_nonpos (by omega) (by omega)
      have h4 : 0 ≤ cN l i * nxB s rule k := Int.mul_nonneg (by omega) bk.1
      omega
theorem mapO_sI {k : Nat} {o : Nat → Nat} {s : Nat} (hs : s < k) : sI (mapO k o) s = ((o s : Nat) : Int) := by
  unfold sI mapO
  simp [List.getD, hs]
theorem onesN (k : Nat) : sumN (fun _ => 1) k = k := by
  induction k with
  | zero => rfl
  | succ k ih => show sumN (fun _ => 1) k + 1 = k + 1; rw [ih]
theorem next_pos {k : Nat} {c : Nat → Int} {o : Nat → Nat} {rule : Int} (h : ShOk (mapZ k c) (mapO k o) rule) (hsum : k ≤ sumN o k) (hu : ∀ i j, i < (mapZ k c).length → j < (mapZ k c).length → unf (mapZ k c) (mapO k o) rule i j = false) : ∀ j, j < (mapZ k c).length → 0 < nxB (mapO k o) rule j := by
  intro j hj
  have hjk : j < k := by rwa [mapZ_len] at hj
  refine Classical.byContradiction fun hno => ?_
  have hb := nxB_bd h hj
  have e0 : nxB (mapO k o) rule j = 0 := by omega
  unfold nxB at e0
  rw [mapO_sI hjk] at e0
  have hr2 : rule = 2 ∧ o j = 0 := by
    rcases askI_cases (n := ((o j : Nat) : Int) + 1) h.r with ⟨a, e⟩ | ⟨a, e⟩ | ⟨a, e⟩ <;> omega
  obtain ⟨t, ht, htt⟩ : ∃ t, t < k ∧ 2 ≤ o t := by
    refine Classical.byContradiction fun hno2 => ?_
    have : sumN o k < sumN (fun _ => 1) k := sumN_lt (s := j) k hjk (fun t ht => by
      rcases Nat.lt_or_ge (o t) 2 with h1 | h1
      · omega
      · exact absurd ⟨t, ht, h1⟩ hno2) (by omega)
    rw [onesN] at this
    omega
  have htl : t < (mapZ k c).length := by rw [mapZ_len]; exact ht
  have hut := unf_false.1 (hu t j htl hj) (by rw [mapO_sI ht]; omega) (by intro hh; subst hh; omega)
  have cj : 1 ≤ cN (mapZ k c) j ∧ cN (mapZ k c) j ≤ 1000000 := h.c.c j hj
  have hl : 0 < laB (mapO k o) rule t := by
    unfold laB
    rw [mapO_sI ht]
    rcases askI_cases (n := ((o t : Nat) : Int)) h.r with ⟨a, e⟩ | ⟨a, e⟩ | ⟨a, e⟩ <;> omega
  have hp : 0 < cN (mapZ k c) j * laB (mapO k o) rule t := Int.mul_pos (by omega) hl
  have e1 : nxB (mapO k o) rule j = 0 := by omega
  rw [e1, Int.mul_zero] at hut
  omega
theorem fair_unf {k : Nat} {c : Nat → Int} {o : Nat → Nat} {rule : Int} (hf : Fair k c (bN rule) o) : unfF (mapZ k c) (mapO k o) rule = none := by
  rw [unfF_none]
  intro i j hi hj
  rw [mapZ_len] at hi hj
  rw [unf_false]
  intro h0 hji
  rw [mapO_sI hi] at h0
  have := hf i j hi hj (by omega)
  rw [mapZ_cN hi, mapZ_cN hj]
  unfold laB nxB
  rw [mapO_sI hi, mapO_sI hj]
  unfold ahead bN at this
  push_cast at this
  omega
theorem shok_of {k : Nat} {c : Nat → Int} {o : Nat → Nat} {rule : Int} (hk : 1 ≤ k ∧ k ≤ 12) (hc : ∀ s, s < k → 1 ≤ c s ∧ c s ≤ 1000000) (ho : ∀ s, s < k → o s ≤ 366) (hr : 0 ≤ rule ∧ rule ≤ 2) : chkS (mapZ k c) (mapO k o) rule = 0 := by
  unfold chkS
  rw [if_pos (chkC_mapZ hk hc), mapO_len, mapZ_len, if_pos rfl, if_pos, if_pos]
  · unfold inB
    simp only [Bool.and_eq_true, decide_eq_true_eq]
    exact hr
  · rw [List.all_eq_true]
    intro x hx
    unfold mapO at hx
    obtain ⟨s, hs, rfl⟩ := List.mem_map.1 hx
    have := ho s (List.mem_range.1 hs)
    unfold inB
    simp only [Bool.and_eq_true, decide_eq_true_eq]
    omega

/-! ### Divisors between, and beyond -/
theorem mixed_proves {l s : List Int} {rule : Int} {x y : api_Ratio} {w : Int} (hx : proB l s rule x = true) (hy : proB l s rule y = true) (hxD : 0 ≤ x.D) (hyD : 0 ≤ y.D) (hw : 0 ≤ w ∧ w ≤ 255) : proB l s rule ⟨x.N * y.D * w + y.N * x.D * (255 - w), 255 * x.D * y.D⟩ = true := by
  rw [proB_iff] at hx hy ⊢
  intro i hi
  have h1 := hx i hi
  have h2 := hy i hi
  have p1 : 0 ≤ y.D * w := Int.mul_nonneg hyD hw.1
  have p2 : 0 ≤ x.D * (255 - w) := Int.mul_nonneg hxD (by omega)
  have eN : ∀ a : Int, a * (x.N * y.D * w + y.N * x.D * (255 - w)) = a * x.N * (y.D * w) + a * y.N * (x.D * (255 - w)) := fun a => by
    rw [Int.mul_add]; congr 1 <;> ac_rfl
  have eD : ∀ a : Int, a * (255 * x.D * y.D) = a * x.D * (y.D * w) + a * y.D * (x.D * (255 - w)) := fun a => by
    have e1 : a * x.D * (y.D * w) = a * x.D * y.D * w := by ac_rfl
    have e2 : a * y.D * (x.D * (255 - w)) = a * x.D * y.D * (255 - w) := by ac_rfl
    rw [e1, e2, ← Int.mul_add, show w + (255 - w) = 255 by omega]
    ac_rfl
  constructor
  · show laB s rule i * (x.N * y.D * w + y.N * x.D * (255 - w)) ≤ nI l i * (255 * x.D * y.D)
    rw [eN, eD]
    have a1 := Int.mul_le_mul_of_nonneg_right h1.1 p1
    have a2 := Int.mul_le_mul_of_nonneg_right h2.1 p2
    omega
  · show nI l i * (255 * x.D * y.D) ≤ nxB s rule i * (x.N * y.D * w + y.N * x.D * (255 - w))
    rw [eN, eD]
    have a1 := Int.mul_le_mul_of_nonneg_right h1.2 p1
    have a2 := Int.mul_le_mul_of_nonneg_right h2.2 p2
    omega
theorem below_not {l s : List Int} {rule : Int} (h : ShOk l s rule) (hp : 0 < (low l s rule).2) : proB l s rule ⟨1000 * (lowR (low l s rule).1 (low l s rule).2).N - (lowR (low l s rule).1 (low l s rule).2).D, 1000 * (lowR (low l s rule).1 (low l s rule).2).D⟩ = false := by
  cases hq : proB l s rule ⟨1000 * (lowR (low l s rule).1 (low l s rule).2).N - (lowR (low l s rule).1 (low l s rule).2).D, 1000 * (lowR (low l s rule).1 (low l s rule).2).D⟩ with
  | false => rfl
  | true =>
    exfalso
    rw [proB_iff] at hq
    obtain ⟨j, hj, h1⟩ := (low_facts h).1
    have lb := low_bd h
    have h2 := (hq j hj).2
    obtain ⟨g, hg, e1, e2, n1, n2, d1, d2⟩ := lowR_spec lb.1.1 hp
    have h3 : nI l j = (low l s rule).1 := by rw [h1]
    have h4 : nxB s rule j = (low l s rule).2 := by rw [h1]
    rw [h3, h4] at h2
    generalize (lowR (low l s rule).1 (low l s rule).2).N = n at *
    generalize (lowR (low l s rule).1 (low l s rule).2).D = d at *
    rw [e1, e2] at h2
    have h5 : n * g * (1000 * d) = 1000 * (n * d * g) := by ac_rfl
    have h6 : d * g * (1000 * n - d) = 1000 * (n * d * g) - d * d * g := by
      rw [Int.mul_sub]
      congr 1 <;> ac_rfl
    have h7 : n * g * (1000 * d) ≤ d * g * (1000 * n - d) := h2
    have h8 : 0 < d * d * g := Int.mul_pos (Int.mul_pos (by omega) (by omega)) hg
    omega
theorem above_not {l s : List Int} {rule : Int} (h : ShOk l s rule) (hl : 1000 * (lowR (high l s rule).1 (high l s rule).2).N + (lowR (high l s rule).1 (high l s rule).2).D ≤ 1000000000) : proB l s rule ⟨1000 * (lowR (high l s rule).1 (high l s rule).2).N + (lowR (high l s rule).1 (high l s rule).2).D, 1000 * (lowR (high l s rule).1 (high l s rule).2).D⟩ = false := by
  cases hq : proB l s rule ⟨1000 * (lowR (high l s rule).1 (high l s rule).2).N + (lowR (high l s rule).1 (high l s rule).2).D, 1000 * (lowR (high l s rule).1 (high l s rule).2).D⟩ with
  | false => rfl
  | true =>
    exfalso
    rw [proB_iff] at hq
    have hb := high_bd h
    obtain ⟨g, hg, e1, e2, n1, n2, d1, d2⟩ := lowR_spec hb.1.1 hb.2.1
    rcases (high_facts h).1 with h1 | ⟨t, ht, hlt, h1⟩
    · have : lowR (high l s rule).1 (high l s rule).2 = ⟨2000000, 1⟩ := by rw [h1]; exact lowR_first
      rw [this] at hl
      simp only at hl
      omega
    · have h2 := (hq t ht).1
      have h3 : nI l t = (high l s rule).1 := by rw [h1]
      have h4 : laB s rule t = (high l s rule).2 := by rw [h1]
      rw [h3, h4] at h2
      generalize (lowR (high l s rule).1 (high l s rule).2).N = n at *
      generalize (lowR (high l s rule).1 (high l s rule).2).D = d at *
      rw [e1, e2] at h2
      have h5 : n * g * (1000 * d) = 1000 * (n * d * g) := by ac_rfl
      have h6 : d * g * (1000 * n + d) = 1000 * (n * d * g) + d * d * g := by
        rw [Int.mul_add]
        congr 1 <;> ac_rfl
      have h7 : d * g * (1000 * n + d) ≤ n * g * (1000 * d) := h2
      have h8 : 0 < d * d * g := Int.mul_pos (Int.mul_pos (by omega) (by omega)) hg
      omega
end Go.Nilo
