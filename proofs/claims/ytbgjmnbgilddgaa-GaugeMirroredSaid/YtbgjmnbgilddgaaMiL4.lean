/-
  What the plain functions compute, in plain arithmetic, part 4. Conditions: what each theorem names.
-/
import Derived.Test.YtbgjmnbgilddgaaMiL3
set_option linter.unusedSimpArgs false
set_option linter.unusedVariables false
namespace Go.Nilo
/-! ### A product of what lies in two spans lies in the product -/
theorem mul_between {x y lo hi : Int} (h1 : lo ≤ x) (h2 : x ≤ hi) : min (lo * y) (hi * y) ≤ x * y ∧ x * y ≤ max (lo * y) (hi * y) := by
  rcases Int.le_total 0 y with hy | hy
  · have a := Int.mul_le_mul_of_nonneg_right h1 hy
    have b := Int.mul_le_mul_of_nonneg_right h2 hy
    omega
  · have a := Int.mul_le_mul_of_nonpos_right h1 hy
    have b := Int.mul_le_mul_of_nonpos_right h2 hy
    omega
def In (x : Int) (s : api_Span) : Prop := s.Lo ≤ x ∧ x ≤ s.Hi
theorem in_times {x y : Int} {a b : api_Span} (hx : In x a) (hy : In y b) : mn a b ≤ x * y ∧ x * y ≤ mx a b := by
  have h1 := mul_between (y := y) hx.1 hx.2
  have h2 := mul_between (y := a.Lo) hy.1 hy.2
  have h3 := mul_between (y := a.Hi) hy.1 hy.2
  rw [Int.mul_comm b.Lo, Int.mul_comm b.Hi, Int.mul_comm y] at h2 h3
  unfold mn mx
  omega
theorem in_cross {g : gauge_Leg} {dx dy e n : Int} (h1 : In dx g.X) (h2 : In dy g.Y) (h3 : In e g.East) (h4 : In n g.North) : In (e * dy - n * dx) (crossS g) := by
  have a := in_times h3 h2
  have b := in_times h4 h1
  unfold In crossS
  dsimp only
  omega
theorem in_leg {g : gauge_Leg} {dx dy d e n : Int} (h1 : In dx g.X) (h2 : In dy g.Y) (h3 : In e g.East) (h4 : In n g.North) (h5 : In d g.Depth) : legLo g ≤ d * (e * dy - n * dx) ∧ d * (e * dy - n * dx) ≤ legHi g := in_times h5 (in_cross h1 h2 h3 h4)
theorem mn_pt (x y : Int) : mn ⟨x, x⟩ ⟨y, y⟩ = x * y := by simp [mn]
theorem mx_pt (x y : Int) : mx ⟨x, x⟩ ⟨y, y⟩ = x * y := by simp [mx]
def ptLeg (dx dy d e n : Int) : gauge_Leg := ⟨⟨dx, dx⟩, ⟨dy, dy⟩, ⟨d, d⟩, ⟨e, e⟩, ⟨n, n⟩⟩
theorem legLo_pt (dx dy d e n : Int) : legLo (ptLeg dx dy d e n) = d * (e * dy - n * dx) := by
  unfold legLo crossS ptLeg
  dsimp only
  rw [mn_pt, mx_pt, mn_pt, mx_pt, mn_pt]
theorem legHi_pt (dx dy d e n : Int) : legHi (ptLeg dx dy d e n) = d * (e * dy - n * dx) := by
  unfold legHi crossS ptLeg
  dsimp only
  rw [mn_pt, mx_pt, mn_pt, mx_pt, mx_pt]
theorem ptOk {dx dy d e n : Int} (h1 : dx.natAbs ≤ 10000) (h2 : dy.natAbs ≤ 10000) (h3 : 0 ≤ d ∧ d ≤ 2000) (h4 : e.natAbs ≤ 5000) (h5 : n.natAbs ≤ 5000) : LegOk (ptLeg dx dy d e n) :=
  ⟨⟨Int.le_refl _, h1, h1⟩, ⟨Int.le_refl _, h2, h2⟩, ⟨Int.le_refl _, by unfold ptLeg; dsimp only; omega, by unfold ptLeg; dsimp only; omega⟩, h3.1, ⟨Int.le_refl _, h4, h4⟩, ⟨Int.le_refl _, h5, h5⟩⟩

/-! ### Lists in another order -/
theorem sumBy_perm {α : Type} {f : α → Int} {l l' : List α} (h : l.Perm l') : sumBy f l = sumBy f l' := by
  unfold sumBy
  induction h with
  | nil => rfl
  | cons x _ ih => simp [ih]
  | swap x y l => simp; omega
  | trans _ _ h1 h2 => rw [h1, h2]
theorem sumBy_snoc {α : Type} (f : α → Int) (l : List α) (x : α) : sumBy f (l ++ [x]) = sumBy f l + f x := by unfold sumBy; simp

theorem room_ok {n : Nat} (h : n ≤ 1000000) : room n = some () := by unfold room; rw [if_pos h]
end Go.Nilo
