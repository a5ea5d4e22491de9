/-
  What the plain functions compute, in plain arithmetic, part 19. Conditions: what each theorem names.
-/
import Derived.Test.YtepopogbmjfpeaaSnL18
set_option linter.unusedSimpArgs false
set_option linter.unusedVariables false
namespace Go.Nilo
theorem ceil_up {n d : Int} (hd : 0 < d) : (n + d - 1) / d = if n / d * d < n then n / d + 1 else n / d := by
  have h0 := Int.emod_nonneg n (show d ≠ 0 by omega)
  have h1 := Int.emod_lt_of_pos n hd
  have h2 := Int.mul_ediv_add_emod n d
  have h3 : n / d * d = d * (n / d) := Int.mul_comm _ _
  rw [h3]
  generalize n / d = q at *
  generalize n % d = m at *
  by_cases hm : d * q < n
  · rw [if_pos hm]
    refine ((Int.ediv_emod_unique (r := m - 1) hd).2 ⟨?_, by omega, by omega⟩).1
    rw [Int.mul_add]
    omega
  · rw [if_neg hm]
    exact ((Int.ediv_emod_unique (r := d - 1) hd).2 ⟨by omega, by omega, by omega⟩).1
theorem ref_j14 {N : Nat} (hN : 700 ≤ N) {r : shift_Record} (hr : RecOk r) (h : (passes r).all spanOk = true) {most day at_ : Int} (h3 : -2000 ≤ at_ ∧ at_ ≤ 2000) :
    ref05_Between_j14 N (toR r) most at_ (spansB r day) ((adF r day : Nat) : Int) = some (betF r most day at_) := by
  have hvb := spansB_vl hr h day
  have hlt := spansB_lt hr day
  unfold ref05_Between_j14 betF
  rw [ref_can hN hvb, Option.bind_some]
  cases hca : (canF (spansB r day) most).all spanOk with
  | false => rfl
  | true =>
    have hg : getI (canF (spansB r day) most) ((adF r day : Nat) : Int) = some (cspan (spansB r day) most (adF r day)) := by
      rw [getI_d s00 (by rw [canF_len]; exact hlt), canF_get hlt]
    obtain ⟨b1, b2, b3, -, -⟩ := cspan_bd hvb hca hlt
    show Option.bind (getI (canF (spansB r day) most) ((adF r day : Nat) : Int)) _ = _
    rw [hg, Option.bind_some, W_sm (by omega) (by omega)]
    show Option.bind (ref05_flow N (r.Rating.map toM) _) _ = _
    rw [ref_flow hN hr.rt (by omega), Option.bind_some]
    show Option.bind (getI (canF (spansB r day) most) ((adF r day : Nat) : Int)) _ = _
    rw [hg, Option.bind_some, W_sm (by omega) (by omega)]
    show Option.bind (ref05_flow N (r.Rating.map toM) _) _ = _
    rw [ref_flow hN hr.rt (by omega), Option.bind_some, if_pos rfl]
    generalize (cspan (spansB r day) most (adF r day)).Hi = u at *
    generalize (cspan (spansB r day) most (adF r day)).Lo = v at *
    obtain ⟨p1, p2, p3, -, -⟩ := mean_val hr.rt (at_ - u)
    obtain ⟨q1, q2, q3, -, -⟩ := mean_val hr.rt (at_ - v)
    have p4 := mean_le hr.rt (at_ - u)
    have q4 := mean_le hr.rt (at_ - v)
    have z1 : nz (mean r.Rating (at_ - u)).D = some () := by unfold nz; rw [if_neg (by omega)]
    have z2 : nz (mean r.Rating (at_ - v)).D = some () := by unfold nz; rw [if_neg (by omega)]
    rw [z2, Option.bind_some, ceil_up (by omega), tdiv_div q3]
    have d1 := Int.ediv_le_self (mean r.Rating (at_ - u)).D p3
    have d2 := Int.ediv_nonneg p3 (show 0 ≤ (mean r.Rating (at_ - u)).D by omega)
    have d3 := Int.ediv_le_self (mean r.Rating (at_ - v)).D q3
    have d4 := Int.ediv_nonneg q3 (show 0 ≤ (mean r.Rating (at_ - v)).D by omega)
    have d5 : 0 ≤ (mean r.Rating (at_ - v)).N / (mean r.Rating (at_ - v)).D * (mean r.Rating (at_ - v)).D := Int.mul_nonneg d4 (by omega)
    have d6 : (mean r.Rating (at_ - v)).N / (mean r.Rating (at_ - v)).D * (mean r.Rating (at_ - v)).D ≤ (mean r.Rating (at_ - v)).N := Int.ediv_mul_le _ (by omega)
    have hj : ∀ up : Int, ref05_Between_j21 N (mean r.Rating (at_ - u)) up = some (⟨(mean r.Rating (at_ - u)).N / (mean r.Rating (at_ - u)).D, up⟩, 0) := fun up => by
      unfold ref05_Between_j21
      rw [z1, Option.bind_some, tdiv_div p3, W_sm (by omega) (by omega)]
    rw [W_sm (n := (mean r.Rating (at_ - v)).N / (mean r.Rating (at_ - v)).D) (by omega) (by omega), W_sm (n := (mean r.Rating (at_ - v)).N / (mean r.Rating (at_ - v)).D * (mean r.Rating (at_ - v)).D) (by omega) (by omega), W_sm (n := (mean r.Rating (at_ - v)).N / (mean r.Rating (at_ - v)).D + 1) (by omega) (by omega), hj, hj]
    by_cases hlt2 : (mean r.Rating (at_ - v)).N / (mean r.Rating (at_ - v)).D * (mean r.Rating (at_ - v)).D < (mean r.Rating (at_ - v)).N
    · rw [dT hlt2, cond_true, if_pos hlt2]
    · rw [dF hlt2, cond_false, if_neg hlt2]
end Go.Nilo
