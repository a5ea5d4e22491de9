/-
  What the plain functions compute, in plain arithmetic, part 18. Conditions: what each theorem names.
-/
import Derived.Test.YtepopogbmjfpeaaDyL17
set_option linter.unusedSimpArgs false
set_option linter.unusedVariables false
namespace Go.Nilo
theorem moves_spec {N : Nat} (hN : 700 ≤ N) {c : List Int} (h1 : 1 ≤ c.length) (h2 : c.length ≤ 100) (hb : ∀ j, j < c.length → -300 ≤ c.getD j 0 ∧ c.getD j 0 ≤ 300) : law05_moves N c = some (move c) := by
  unfold law05_moves
  have := runS (ρ := Int) (fun i : Nat => ((move (c.take (i + 1)), ((i + 1 : Nat) : Int)) : Int × Int)) (c.length - 1) (fun s5 => law05_moves_b5 N c s5.1 s5.2) (fun i hi => by
    show law05_moves_b5 N c (move (c.take (i + 1))) ((i + 1 : Nat) : Int) = _
    unfold law05_moves_b5
    have a := hb i (by omega)
    have b := hb (i + 1) (by omega)
    have m1 := move_small hb (i + 1) (by omega)
    rw [lt_dec (by omega), cond_true, W_sm (n := ((i + 1 : Nat) : Int) - 1) (by omega) (by omega), show ((i + 1 : Nat) : Int) - 1 = (i : Int) by omega, getI_d 0 (by omega), Option.bind_some, getI_d 0 (by omega), Option.bind_some, Option.bind_some, Option.bind_some, W_sm (n := c.getD (i + 1) 0 - c.getD i 0) (by omega) (by omega), W_sm (n := c.getD i 0 - c.getD (i + 1) 0) (by omega) (by omega), W_sm (by omega) (by omega), W_succ (by omega), move_succ (i := i + 1) (by omega) (by omega), Nat.add_sub_cancel]
    have : max (c.getD (i + 1) 0 - c.getD i 0) (c.getD i 0 - c.getD (i + 1) 0) = ap (c.getD i 0) (c.getD (i + 1) 0) := by unfold ap; omega
    rw [this]) (by
    show law05_moves_b5 N c _ ((c.length - 1 + 1 : Nat) : Int) = _
    unfold law05_moves_b5
    rw [Nat.sub_add_cancel h1, ge_dec, cond_false]) (N := N) (by omega)
  have e0 : ((0 : Int), (1 : Int)) = (move (c.take (0 + 1)), ((0 + 1 : Nat) : Int)) := by
    cases c with
    | nil => rfl
    | cons x c => rfl
  rw [e0, this, Option.bind_some, Nat.sub_add_cancel h1, List.take_length]
  rfl
theorem Gd.moves {r : shift_Record} {c : List Int} {most : Nat} (h : Gd r c most) (hm : most ≤ 30) {N : Nat} (hN : 700 ≤ N) : law05_moves N c = some (move c) := by
  have h1 := h.len
  have h2 := h.g1
  have h3 := h.gm
  refine moves_spec hN (by omega) (by omega) fun j hj => ?_
  obtain ⟨_, _, _, b, c⟩ := h.g j (by omega)
  omega
end Go.Nilo
