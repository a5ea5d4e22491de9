/-
  What the plain functions compute, in plain arithmetic, part 4. Conditions: what each theorem names.
-/
import Derived.Test.YtakhbnnlhoninaaGreatGlL3
set_option linter.unusedSimpArgs false
set_option linter.unusedVariables false
namespace Go.Nilo
theorem mul_between {x y lo hi : Int} (h1 : lo ≤ x) (h2 : x ≤ hi) : min (lo * y) (hi * y) ≤ x * y ∧ x * y ≤ max (lo * y) (hi * y) := by
 rcases Int.le_total 0 y with hy | hy
 ·have a := Int.mul_le_mul_of_nonneg_right h1 hy
  have b := Int.mul_le_mul_of_nonneg_right h2 hy
  omega
 ·have a := Int.mul_le_mul_of_nonpos_right h1 hy
  have b := Int.mul_le_mul_of_nonpos_right h2 hy
  omega
def In (x : Int) (s : api_Span) : Prop := s.Lo ≤ x ∧ x ≤ s.Hi
theorem in_times {x y : Int} {a b : api_Span} (hx : In x a) (hy : In y b) : mn a b ≤ x * y ∧ x * y ≤ mx a b := by
 have h1 := mul_between (y := y) hx.1 hx.2
 have h2 := mul_between (y := a.Lo) hy.1 hy.2
 have h3 := mul_between (y := a.Hi) hy.1 hy.2
 rw [Int.mul_comm b.Lo,Int.mul_comm b.Hi,Int.mul_comm y] at h2 h3
 unfold mn mx
 omega
theorem sumBy_snoc {α : Type} (f : α → Int) (l : List α) (x : α) : sumBy f (l ++ [x]) = sumBy f l + f x := by unfold sumBy; simp

theorem room_ok {n : Nat} (h : n ≤ 1000000) : room n = some () := by unfold room; rw [if_pos h]
end Go.Nilo
