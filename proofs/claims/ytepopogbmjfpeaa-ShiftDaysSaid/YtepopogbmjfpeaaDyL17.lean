/-
  What the plain functions compute, in plain arithmetic, part 17. Conditions: what each theorem names.
-/
import Derived.Test.YtepopogbmjfpeaaDyL16
set_option linter.unusedSimpArgs false
set_option linter.unusedVariables false
namespace Go.Nilo
theorem move_succ {c : List Int} {i : Nat} (h1 : 1 ≤ i) (hi : i < c.length) : move (c.take (i + 1)) = move (c.take i) + ap (c.getD (i - 1) 0) (c.getD i 0) := by
  have e1 : c.take i = c.take (i - 1) ++ [c.getD (i - 1) 0] := by
    have := List.take_succ_eq_append_getElem (l := c) (i := i - 1) (by omega)
    rw [Nat.sub_add_cancel h1] at this
    rw [this, get_getD (d := (0 : Int))]
  have e2 : c.take (i + 1) = c.take (i - 1) ++ c.getD (i - 1) 0 :: [c.getD i 0] := by
    rw [List.take_succ_eq_append_getElem hi, e1, get_getD (d := (0 : Int)) hi]
    simp
  rw [e2, move_app, ← e1]
  simp [move]
theorem move_small {c : List Int} (hb : ∀ j, j < c.length → -300 ≤ c.getD j 0 ∧ c.getD j 0 ≤ 300) : ∀ i, i ≤ c.length → 0 ≤ move (c.take i) ∧ move (c.take i) ≤ 600 * (i : Int)
  | 0, _ => by simp [move]
  | i + 1, hi => by
    have ih := move_small hb i (by omega)
    rcases Nat.eq_zero_or_pos i with h | h
    · subst h
      have : move (c.take (0 + 1)) = 0 := by
        cases c with
        | nil => rfl
        | cons x c => rfl
      rw [this]
      omega
    · rw [move_succ h (by omega)]
      have h1 := hb i (by omega)
      have h2 := hb (i - 1) (by omega)
      unfold ap
      push_cast
      omega
end Go.Nilo
