/-
  What the plain functions compute, in plain arithmetic, part 18. Conditions: what each theorem names.
-/
import Derived.Test.YtepopogbmjfpeaaPvL17
set_option linter.unusedSimpArgs false
set_option linter.unusedVariables false
namespace Go.Nilo
theorem ap_take {c : List Int} {i : Nat} : ∀ k : Nat, i + k < c.length → ap (c.getD i 0) (c.getD (i + k) 0) + move (c.take (i + 1)) ≤ move (c.take (i + k + 1))
  | 0, _ => by
    have : ap (c.getD i 0) (c.getD (i + 0) 0) = 0 := by unfold ap; rw [Nat.add_zero]; omega
    rw [this, Nat.add_zero]
    omega
  | k + 1, h => by
    have ih := ap_take (c := c) (i := i) k (by omega)
    have h1 := move_succ (c := c) (i := i + k + 1) (by omega) (by omega)
    rw [Nat.add_sub_cancel] at h1
    have h2 := ap_tri (c.getD i 0) (c.getD (i + k) 0) (c.getD (i + k + 1) 0)
    rw [show i + (k + 1) = i + k + 1 by omega]
    omega
theorem move_take {c : List Int} {i : Nat} (h : i ≤ c.length) : move (c.take i) ≤ move c := by
  rcases Nat.eq_zero_or_pos i with h0 | h0
  · subst h0
    rw [List.take_zero]
    exact move_nonneg c
  · have h1 := ap_take (c := c) (i := i - 1) (c.length - i) (by omega)
    have h2 := ap_nonneg (c.getD (i - 1) 0) (c.getD (i - 1 + (c.length - i)) 0)
    rw [show i - 1 + 1 = i by omega, show i - 1 + (c.length - i) + 1 = c.length by omega, List.take_length] at h1
    omega
theorem zsum_le {S : List api_Span} {c : List Int} (hc : Crs S c) {l : List shift_Turn} (h : TOk S.length l) : ∀ i : Nat, i < l.length → zsum S l (i + 1) ≤ move (c.take ((l.getD i tn0).Gauging.toNat + 1))
  | 0, _ => by
    show (if (0 : Nat) = 0 then (0 : Int) else _) ≤ _
    rw [if_pos rfl]
    exact move_nonneg _
  | i + 1, hi => by
    have ih := zsum_le hc h i (by omega)
    have hu := h.up i hi
    have r1 := h.at_ (i := i) (by omega)
    have r2 := h.at_ hi
    have cl := hc.len
    have c1 := hc.at_ (l.getD i tn0).Gauging.toNat (by omega)
    have c2 := hc.at_ (l.getD (i + 1) tn0).Gauging.toNat (by omega)
    have hz : zsum S l (i + 1 + 1) = zsum S l (i + 1) + zstep S l (i + 1) := by
      show (if i + 1 = 0 then (0 : Int) else _) = _
      rw [if_neg (by omega)]
    have hk := ap_take (c := c) (i := (l.getD i tn0).Gauging.toNat) ((l.getD (i + 1) tn0).Gauging.toNat - (l.getD i tn0).Gauging.toNat) (by omega)
    rw [show (l.getD i tn0).Gauging.toNat + ((l.getD (i + 1) tn0).Gauging.toNat - (l.getD i tn0).Gauging.toNat) = (l.getD (i + 1) tn0).Gauging.toNat by omega] at hk
    have hs : zstep S l (i + 1) ≤ ap (c.getD (l.getD i tn0).Gauging.toNat 0) (c.getD (l.getD (i + 1) tn0).Gauging.toNat 0) := by
      unfold zstep zend ap
      rw [Nat.add_sub_cancel]
      cases h1 : (l.getD (i + 1) tn0).Up with
      | true =>
        have h2 : (l.getD i tn0).Up = false := by
          cases h3 : (l.getD i tn0).Up with
          | false => rfl
          | true => exact absurd (h3.trans h1.symm) hu.2
        rw [h2]
        simp only [cond_true, cond_false]
        omega
      | false =>
        have h2 : (l.getD i tn0).Up = true := by
          cases h3 : (l.getD i tn0).Up with
          | true => rfl
          | false => exact absurd (h3.trans h1.symm) hu.2
        rw [h2]
        simp only [cond_true, cond_false]
        omega
    omega
theorem proves_le {S : List api_Span} (hS : VL S) {l : List shift_Turn} (h : TOk S.length l) : zsum S l l.length ≤ leastF S := by
  obtain ⟨hc, hm⟩ := course_spec hS
  rw [← hm]
  cases hl : l.length with
  | zero => exact move_nonneg _
  | succ n =>
    have r := h.at_ (i := n) (by omega)
    have cl := hc.len
    exact Int.le_trans (zsum_le hc h n (by omega)) (move_take (by omega))
theorem getD_take' {α : Type} {l : List α} {i k : Nat} {d : α} (h : i < k) : (l.take k).getD i d = l.getD i d := by simp [List.getD, List.getElem?_take, h]
theorem getD_drop' {α : Type} {l : List α} {i k : Nat} {d : α} : (l.drop k).getD i d = l.getD (k + i) d := by simp [List.getD, List.getElem?_drop]
theorem TOk.take {n : Nat} {l : List shift_Turn} (h : TOk n l) (k : Nat) : TOk n (l.take k) := by
  refine ⟨Nat.le_trans (List.length_take_le' k l) h.len, fun t ht => h.rg t (List.mem_of_mem_take ht), fun i hi => ?_⟩
  rw [List.length_take] at hi
  rw [getD_take' (by omega), getD_take' (by omega)]
  exact h.up i (by omega)
theorem TOk.drop {n : Nat} {l : List shift_Turn} (h : TOk n l) (k : Nat) : TOk n (l.drop k) := by
  refine ⟨by rw [List.length_drop]; have := h.len; omega, fun t ht => h.rg t (List.mem_of_mem_drop ht), fun i hi => ?_⟩
  rw [List.length_drop] at hi
  rw [getD_drop', getD_drop']
  exact h.up (k + i) (by omega)
theorem TOk.nil {n : Nat} : TOk n [] := ⟨by simp, by simp, fun i hi => by simp at hi⟩
theorem TOk.snoc {n : Nat} {l : List shift_Turn} (h : TOk n l) {t : shift_Turn} (hl : l.length ≤ 100) (ht : 0 ≤ t.Gauging ∧ t.Gauging < n) (hu : ∀ i, i + 1 = l.length → (l.getD i tn0).Gauging < t.Gauging ∧ (l.getD i tn0).Up ≠ t.Up) : TOk n (l ++ [t]) := by
  refine ⟨by simp; omega, fun u hu' => ?_, fun i hi => ?_⟩
  · rcases List.mem_append.1 hu' with k | k
    · exact h.rg u k
    · simp only [List.mem_singleton] at k
      subst k
      exact ht
  · simp only [List.length_append, List.length_cons, List.length_nil] at hi
    by_cases hil : i + 1 < l.length
    · rw [getD_lt (by omega), getD_lt hil]
      exact h.up i hil
    · have e : i + 1 = l.length := by omega
      rw [getD_lt (by omega), e, getD_eq]
      exact hu i e
/-! ### Wider spans -/
theorem pass_wide {l : List shift_Mark} (hr : ROk l) {g g' : shift_Gauging} (hst : g'.Stage = g.Stage) (h1 : g'.Flow.Lo ≤ g.Flow.Lo) (h2 : g.Flow.Hi ≤ g'.Flow.Hi) {x : Int} (h : passP l g x = true) : passP l g' x = true := by
  unfold passP at h ⊢
  rw [hst]
  obtain ⟨a, -, -, -, -⟩ := mean_val hr (g.Stage - x)
  rw [Bool.and_eq_true, decide_eq_true_eq, decide_eq_true_eq] at h ⊢
  have k1 := Int.mul_le_mul_of_nonneg_right h1 (show 0 ≤ (mean l (g.Stage - x)).D by omega)
  have k2 := Int.mul_le_mul_of_nonneg_right h2 (show 0 ≤ (mean l (g.Stage - x)).D by omega)
  omega
theorem pspan_wide {l : List shift_Mark} (hr : ROk l) {g g' : shift_Gauging} (hst : g'.Stage = g.Stage) (h1 : g'.Flow.Lo ≤ g.Flow.Lo) (h2 : g.Flow.Hi ≤ g'.Flow.Hi) (h : spanOk (pspan l g) = true) :
    spanOk (pspan l g') = true ∧ (pspan l g').Lo ≤ (pspan l g).Lo ∧ (pspan l g).Hi ≤ (pspan l g').Hi := by
  rcases spanN_spec (passP l g) 601 with ⟨a, b, c, d, e, -⟩ | ⟨a, b, -⟩
  · have p1 := pspan_in (pass_wide hr hst h1 h2 b) (by omega) (by omega)
    have p2 := pspan_in (pass_wide hr hst h1 h2 c) (by omega) (by omega)
    exact ⟨p1.1, p1.2.1, p2.2.2⟩
  · unfold spanOk pspan at h
    rw [decide_eq_true_eq] at h
    exfalso
    show False
    have h' : (spanN (passP l g) 601).1 ≤ (spanN (passP l g) 601).2 := h
    omega
end Go.Nilo
