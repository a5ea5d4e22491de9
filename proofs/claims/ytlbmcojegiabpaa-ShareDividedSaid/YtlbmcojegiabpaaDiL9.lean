/-
  What the plain functions compute, in plain arithmetic, part 9. Conditions: what each theorem names.
-/
import Derived.Test.YtlbmcojegiabpaaDiL8
set_option linter.unusedSimpArgs false
set_option linter.unusedVariables false
namespace Go.Nilo
theorem low_one {n d n' d' : Nat} (hd : 0 < d) (hd' : 0 < d') (h : n * d' = n' * d) : n / Nat.gcd n d ∣ n' / Nat.gcd n' d' := by
  have g0 : 0 < Nat.gcd n d := Nat.gcd_pos_of_pos_right _ hd
  have g0' : 0 < Nat.gcd n' d' := Nat.gcd_pos_of_pos_right _ hd'
  have e1 : n / Nat.gcd n d * Nat.gcd n d = n := Nat.div_mul_cancel (Nat.gcd_dvd_left _ _)
  have e2 : d / Nat.gcd n d * Nat.gcd n d = d := Nat.div_mul_cancel (Nat.gcd_dvd_right _ _)
  have e3 : n' / Nat.gcd n' d' * Nat.gcd n' d' = n' := Nat.div_mul_cancel (Nat.gcd_dvd_left _ _)
  have e4 : d' / Nat.gcd n' d' * Nat.gcd n' d' = d' := Nat.div_mul_cancel (Nat.gcd_dvd_right _ _)
  have hc : Nat.Coprime (n / Nat.gcd n d) (d / Nat.gcd n d) := Nat.coprime_div_gcd_div_gcd g0
  generalize Nat.gcd n d = g at *
  generalize Nat.gcd n' d' = g' at *
  generalize n / g = a at *
  generalize d / g = b at *
  generalize n' / g' = a' at *
  generalize d' / g' = b' at *
  subst e1 e2 e3 e4
  have h1 : (a * b') * (g * g') = (a' * b) * (g * g') := by
    have : a * g * (b' * g') = a' * g' * (b * g) := h
    calc (a * b') * (g * g') = a * g * (b' * g') := by ac_rfl
      _ = a' * g' * (b * g) := this
      _ = (a' * b) * (g * g') := by ac_rfl
  have h2 : a * b' = a' * b := Nat.eq_of_mul_eq_mul_right (Nat.mul_pos g0 g0') h1
  have h3 : a ∣ a' * b := ⟨b', h2.symm⟩
  exact hc.dvd_of_dvd_mul_right h3
theorem low_uniq {n d n' d' : Nat} (hd : 0 < d) (hd' : 0 < d') (hn : 0 < n) (hn' : 0 < n') (h : n * d' = n' * d) : n / Nat.gcd n d = n' / Nat.gcd n' d' ∧ d / Nat.gcd n d = d' / Nat.gcd n' d' := by
  refine ⟨Nat.dvd_antisymm (low_one hd hd' h) (low_one hd' hd h.symm), ?_⟩
  have a := low_one (n := d) (d := n) (n' := d') (d' := n') hn hn' (by rw [Nat.mul_comm d n', Nat.mul_comm d' n]; exact h.symm)
  have b := low_one (n := d') (d := n') (n' := d) (d' := n) hn' hn (by rw [Nat.mul_comm d n', Nat.mul_comm d' n]; exact h)
  rw [Nat.gcd_comm n d, Nat.gcd_comm n' d']
  exact Nat.dvd_antisymm a b
end Go.Nilo
