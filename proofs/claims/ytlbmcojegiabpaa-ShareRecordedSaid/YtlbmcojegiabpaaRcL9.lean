/-
  What the plain functions compute, in plain arithmetic, part 9. Conditions: what each theorem names.
-/
import Derived.Test.YtlbmcojegiabpaaRcL8
set_option linter.unusedSimpArgs false
set_option linter.unusedVariables false
namespace Go.Nilo
/-! ### More water, and all water -/
theorem left_mono {c : share_Compact} {f f' : Int} (hf : f ≤ f') (i : Nat) : leftR c f i ≤ leftR c f' i := by unfold leftR; omega
theorem take_mono {c : share_Compact} {f f' : Int} (hf : f ≤ f') (i : Nat) : takeR c f i ≤ takeR c f' i := by
  have := left_mono (c := c) hf i
  unfold takeR
  omega
theorem part_mono {c : share_Compact} (h : COk c) {f f' : Int} (hf : f ≤ f') {i : Nat} (hi : i < c.Rights.length) : partR c f i ≤ partR c f' i := by
  have h1 := h.el i hi
  unfold partR
  exact Int.ediv_le_ediv (by omega) (Int.mul_le_mul_of_nonneg_right (take_mono hf i) (by omega))
theorem got_mono {c : share_Compact} (h : COk c) {f f' s : Int} (hf : f ≤ f') : ∀ i, i ≤ c.Rights.length → gotF c f s i ≤ gotF c f' s i
  | 0, _ => Int.le_refl _
  | i + 1, hi => by
    have ih := got_mono h (s := s) hf i (by omega)
    have := part_mono h hf (i := i) (by omega)
    rw [gotF, gotF]
    cases ((c.Rights.getD i r0).State == s)
    · rw [cond_false, cond_false]; omega
    · rw [cond_true, cond_true]; omega
/-! ### Compacts that are alike as far as one looks -/
end Go.Nilo
