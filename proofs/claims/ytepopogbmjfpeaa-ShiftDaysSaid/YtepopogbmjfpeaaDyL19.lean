/-
  What the plain functions compute, in plain arithmetic, part 19. Conditions: what each theorem names.
-/
import Derived.Test.YtepopogbmjfpeaaDyL18
set_option linter.unusedSimpArgs false
set_option linter.unusedVariables false
namespace Go.Nilo
theorem getD_take' {α : Type} {l : List α} {i k : Nat} {d : α} (h : i < k) : (l.take k).getD i d = l.getD i d := by simp [List.getD, List.getElem?_take, h]
theorem getD_drop' {α : Type} {l : List α} {i k : Nat} {d : α} : (l.drop k).getD i d = l.getD (k + i) d := by simp [List.getD, List.getElem?_drop]
theorem TOk.take {n : Nat} {l : List shift_Turn} (h : TOk n l) (k : Nat) : TOk n (l.take k) := by
  refine ⟨Nat.le_trans (List.length_take_le' k l) h.len, fun t ht => h.rg t (List.mem_of_mem_take ht), fun i hi => ?_⟩
  rw [List.length_take] at hi
  rw [getD_take' (by omega), getD_take' (by omega)]
  exact h.up i (by omega)
theorem TOk.drop {n : Nat} {l : List shift_Turn} (h : TOk n l) (k : Nat) : TOk n (l.drop k) := by
  refine ⟨by rw [List.length_drop]; have := h.len; omega, fun t ht => h.rg t (List.mem_of_mem_drop ht), fun i hi => ?_⟩
  rw [List.length_drop] at hi
  rw [getD_drop', getD_drop']
  exact h.up (k + i) (by omega)
theorem TOk.nil {n : Nat} : TOk n [] := ⟨by simp, by simp, fun i hi => by simp at hi⟩
/-! ### Wider spans -/
end Go.Nilo
