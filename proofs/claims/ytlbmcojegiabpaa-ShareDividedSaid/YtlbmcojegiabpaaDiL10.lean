/-
  What the plain functions compute, in plain arithmetic, part 10. Conditions: what each theorem names.
-/
import Derived.Test.YtlbmcojegiabpaaDiL9
set_option linter.unusedSimpArgs false
set_option linter.unusedVariables false
namespace Go.Nilo
/-- The common divisor, by remainders: a loop of few rounds. -/
theorem euc_loop {σ ρ : Type} (f : σ → Option (Step σ ρ)) (mk : Nat → Nat → σ) (h0 : ∀ a, f (mk a 0) = some (.brk (mk a 0))) (h1 : ∀ a b : Nat, 0 < b → a < 1000000000000 → b < 1000000000000 → f (mk a b) = some (.cont (mk b (a % b)))) :
    ∀ (k a b N : Nat), a < 1000000000000 → b < 1000000000000 → b < 2 ^ k → 2 * k < N → loopO f N (mk a b) = some (.go (mk (Nat.gcd a b) 0))
  | 0, a, b, 0, _, _, _, hN => by omega
  | k + 1, a, b, 0, _, _, _, hN => by omega
  | 0, a, b, N + 1, ha, hb, hk, hN => by
    obtain rfl : b = 0 := by simpa using hk
    unfold loopO
    rw [h0, Nat.gcd_zero_right]
  | k + 1, a, b, N + 1, ha, hb, hk, hN => by
    by_cases hb0 : b = 0
    · subst hb0
      unfold loopO
      rw [h0, Nat.gcd_zero_right]
    · unfold loopO
      rw [h1 a b (by omega) ha hb]
      simp only []
      have hr := Nat.mod_lt a (show b > 0 by omega)
      by_cases hr0 : a % b = 0
      · rw [hr0]
        obtain ⟨M, rfl⟩ : ∃ M, N = M + 1 := ⟨N - 1, by omega⟩
        unfold loopO
        rw [h0, Nat.gcd_comm, Nat.gcd_rec, hr0, Nat.gcd_zero_left]
      · obtain ⟨M, rfl⟩ : ∃ M, N = M + 1 := ⟨N - 1, by omega⟩
        unfold loopO
        rw [h1 b (a % b) (by omega) hb (by omega)]
        simp only []
        have hr2 := Nat.mod_lt b (show a % b > 0 by omega)
        have hhalf : b % (a % b) < 2 ^ k := by
          have hp : 2 ^ (k + 1) = 2 * 2 ^ k := by rw [Nat.pow_succ, Nat.mul_comm]
          rcases Nat.lt_or_ge (a % b) (2 ^ k) with h | h
          · omega
          · have : b % (a % b) = b - a % b := by
              rw [Nat.mod_eq_sub_mod (by omega), Nat.mod_eq_of_lt (by omega)]
            omega
        rw [euc_loop f mk h0 h1 k (a % b) (b % (a % b)) M (by omega) (by omega) hhalf (by omega)]
        have e : Nat.gcd (a % b) (b % (a % b)) = Nat.gcd a b := by
          rw [Nat.gcd_comm (a % b), ← Nat.gcd_rec (a % b) b, ← Nat.gcd_rec b a, Nat.gcd_comm]
        rw [e]
end Go.Nilo
