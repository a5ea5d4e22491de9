/-
  What the plain functions compute, in plain arithmetic, part 3. Conditions: what each theorem names.
-/
import Derived.Test.YtlbmcojegiabpaaPaL2
set_option linter.unusedSimpArgs false
set_option linter.unusedVariables false
namespace Go.Nilo
/-! ### How a debt is paid back -/
def payN (L P d c : Int) : Int := min (min d c) (max L ((d + P - 1) / P))
def owes (L P : Int) (can : Nat → Int) (o : Int) : Nat → Int
  | 0 => o
  | n + 1 => owes L P can o n - payN L P (owes L P can o n) (can n)
theorem payN_bd {L P d c : Int} (hL : 1 ≤ L) (hP : 1 ≤ P) (hd : 0 ≤ d) (hc : L ≤ c) : 0 ≤ payN L P d c ∧ payN L P d c ≤ d ∧ payN L P d c ≤ c ∧ min d L ≤ payN L P d c := by
  unfold payN
  omega
theorem owes_nn {L P : Int} {can : Nat → Int} {o : Int} (hL : 1 ≤ L) (hP : 1 ≤ P) (ho : 0 ≤ o) : ∀ n, (∀ i, i < n → L ≤ can i) → 0 ≤ owes L P can o n
  | 0, _ => ho
  | n + 1, h => by
    have ih := owes_nn (can := can) hL hP ho n (fun i hi => h i (by omega))
    have := payN_bd (c := can n) hL hP ih (h n (by omega))
    unfold owes
    omega
theorem owes_anti {L P : Int} {can : Nat → Int} {o : Int} (hL : 1 ≤ L) (hP : 1 ≤ P) (ho : 0 ≤ o) {n : Nat} (h : ∀ i, i < n + 1 → L ≤ can i) : owes L P can o (n + 1) ≤ owes L P can o n := by
  have ih := owes_nn (can := can) hL hP ho n (fun i hi => h i (by omega))
  have := payN_bd (c := can n) hL hP ih (h n (by omega))
  rw [owes]
  omega
/-- With the least part each year. -/
theorem owes_le {L P : Int} {can : Nat → Int} {o : Int} (hL : 1 ≤ L) (hP : 1 ≤ P) (ho : 0 ≤ o) : ∀ n : Nat, (∀ i, i < n → L ≤ can i) → owes L P can o n ≤ max 0 (o - L * n)
  | 0, _ => by unfold owes; simp; omega
  | n + 1, h => by
    have ih := owes_le (can := can) hL hP ho n (fun i hi => h i (by omega))
    have hn := owes_nn (can := can) hL hP ho n (fun i hi => h i (by omega))
    have := payN_bd (c := can n) hL hP hn (h n (by omega))
    rw [owes]
    have e : L * ((n + 1 : Nat) : Int) = L * n + L := by push_cast; rw [Int.mul_add, Int.mul_one]
    rw [e]
    omega
/-- A part of one pays as fast as can be. -/
theorem owes_fast {L P : Int} {can : Nat → Int} {o : Int} (hL : 1 ≤ L) (hP : 1 ≤ P) (ho : 0 ≤ o) : ∀ n : Nat, (∀ i, i < n → L ≤ can i) → owes L 1 can o n ≤ owes L P can o n
  | 0, _ => Int.le_refl _
  | n + 1, h => by
    have ih := owes_fast (can := can) hL hP ho n (fun i hi => h i (by omega))
    have h1 := owes_nn (can := can) hL (show (1 : Int) ≤ 1 by omega) ho n (fun i hi => h i (by omega))
    have h2 := owes_nn (can := can) hL hP ho n (fun i hi => h i (by omega))
    have b2 := payN_bd (c := can n) hL hP h2 (h n (by omega))
    have hc := h n (by omega)
    rw [owes, owes]
    have e : payN L 1 (owes L 1 can o n) (can n) = min (owes L 1 can o n) (can n) := by
      unfold payN
      rw [Int.ediv_one]
      omega
    rw [e]
    omega
theorem payN_part {L P d c : Int} (hP : 1 ≤ P) (h1 : payN L P d c < d) (h2 : payN L P d c < c) : L ≤ payN L P d c ∧ d ≤ payN L P d c * P := by
  unfold payN at *
  have h3 : min (min d c) (max L ((d + P - 1) / P)) = max L ((d + P - 1) / P) := by omega
  rw [h3] at h1 h2 ⊢
  have q := Int.lt_ediv_add_one_mul_self (d + P - 1) (show 0 < P by omega)
  rw [Int.add_mul] at q
  have m : (d + P - 1) / P * P ≤ max L ((d + P - 1) / P) * P := Int.mul_le_mul_of_nonneg_right (by omega) (by omega)
  omega
end Go.Nilo
