/-
  What the plain functions compute, in plain arithmetic, part 16. Conditions: what each theorem names.
-/
import Derived.Test.YtepopogbmjfpeaaMoL15
set_option linter.unusedSimpArgs false
set_option linter.unusedVariables false
namespace Go.Nilo
theorem move_succ {c : List Int} {i : Nat} (h1 : 1 ≤ i) (hi : i < c.length) : move (c.take (i + 1)) = move (c.take i) + ap (c.getD (i - 1) 0) (c.getD i 0) := by
  have e1 : c.take i = c.take (i - 1) ++ [c.getD (i - 1) 0] := by
    have := List.take_succ_eq_append_getElem (l := c) (i := i - 1) (by omega)
    rw [Nat.sub_add_cancel h1] at this
    rw [this, get_getD (d := (0 : Int))]
  have e2 : c.take (i + 1) = c.take (i - 1) ++ c.getD (i - 1) 0 :: [c.getD i 0] := by
    rw [List.take_succ_eq_append_getElem hi, e1, get_getD (d := (0 : Int)) hi]
    simp
  rw [e2, move_app, ← e1]
  simp [move]
theorem move_small {c : List Int} (hb : ∀ j, j < c.length → -300 ≤ c.getD j 0 ∧ c.getD j 0 ≤ 300) : ∀ i, i ≤ c.length → 0 ≤ move (c.take i) ∧ move (c.take i) ≤ 600 * (i : Int)
  | 0, _ => by simp [move]
  | i + 1, hi => by
    have ih := move_small hb i (by omega)
    rcases Nat.eq_zero_or_pos i with h | h
    · subst h
      have : move (c.take (0 + 1)) = 0 := by
        cases c with
        | nil => rfl
        | cons x c => rfl
      rw [this]
      omega
    · rw [move_succ h (by omega)]
      have h1 := hb i (by omega)
      have h2 := hb (i - 1) (by omega)
      unfold ap
      push_cast
      omega
theorem cspan_mono {l : List api_Span} (h : VL l) {a b : Int} (hab : a ≤ b) (ha : (canF l a).all spanOk = true) {i : Nat} (hi : i < l.length) : (cspan l b i).Lo ≤ (cspan l a i).Lo ∧ (cspan l a i).Hi ≤ (cspan l b i).Hi := by
  have hok : spanOk (cspan l a i) = true := by
    unfold canF at ha
    rw [List.all_map, List.all_eq_true] at ha
    exact ha i (List.mem_range.2 hi)
  rcases cspan_spec h (most := a) (i := i) hi with ⟨_, k1, k2, _⟩ | ⟨k, _⟩
  · obtain ⟨c, c1, c2, c3⟩ := (canP_iff h hi).1 k1
    obtain ⟨d, d1, d2, d3⟩ := (canP_iff h hi).1 k2
    have e1 := can_in h c1 (show move c ≤ b by omega) hi
    have e2 := can_in h d1 (show move d ≤ b by omega) hi
    omega
  · rw [hok] at k
    cases k
theorem can_least {l : List api_Span} (h : VL l) {m : Int} : (canF l m).all spanOk = true ↔ leastF l ≤ m := by
  rw [can_all h]
  constructor
  · rintro ⟨c, c1, c2⟩
    have := least_le h c1
    omega
  · intro hm
    obtain ⟨a, b⟩ := course_spec h
    exact ⟨_, a, by omega⟩
theorem Can_two {N : Nat} (hN : 700 ≤ N) {r : shift_Record} (hr : RecOk r) (h : (passes r).all spanOk = true) {most : Int} (h1 : 0 ≤ most ∧ most ≤ 18000) :
    (leastF (passes r) ≤ most → shift_Can N r most = some (canF (passes r) most, 0)) ∧ (most < leastF (passes r) → shift_Can N r most = some ([], 5)) := by
  have hv := passes_vl hr h
  rw [Can_ok hN hr h h1]
  constructor
  · intro hm
    rw [if_pos ((can_least hv).2 hm)]
  · intro hm
    rw [if_neg (fun hc => by have := (can_least hv).1 hc; omega)]
end Go.Nilo
