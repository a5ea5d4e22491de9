/-
  What the plain functions compute, in plain arithmetic, part 20. Conditions: what each theorem names.
-/
import Derived.Test.YtepopogbmjfpeaaDyL19
set_option linter.unusedSimpArgs false
set_option linter.unusedVariables false
namespace Go.Nilo
/-! ### A number put in -/
def inS {α : Type} (l : List α) (k : Nat) (x : α) : List α := l.take k ++ [x] ++ l.drop k
theorem inS_eq {α : Type} {l : List α} {k : Nat} {x : α} : inS l k x = l.take k ++ x :: l.drop k := by simp [inS]
theorem inS_len {α : Type} {l : List α} {k : Nat} {x : α} (h : k ≤ l.length) : (inS l k x).length = l.length + 1 := by
  simp [inS]
  omega
theorem inS_at {α : Type} {l : List α} {k : Nat} {x d : α} (h : k ≤ l.length) : (inS l k x).getD k d = x := by
  rw [inS_eq, List.getD, List.getElem?_append_right (by simp; omega)]
  simp [Nat.min_eq_left h]
theorem Crs.ins {S : List api_Span} {c : List Int} (h : Crs S c) {s : api_Span} {x : Int} (hx : s.Lo ≤ x ∧ x ≤ s.Hi) (k : Nat) : Crs (inS S k s) (inS c k x) := by
  unfold inS
  exact ((h.take k).app (show Crs [s] [x] from ⟨hx.1, hx.2, trivial⟩)).app (h.drop k)
theorem Crs.del {S : List api_Span} {c : List Int} {s : api_Span} {k : Nat} (hk : k ≤ S.length) (h : Crs (inS S k s) c) : ∃ A B, c = A ++ c.getD k 0 :: B ∧ A.length = k ∧ Crs S (A ++ B) := by
  have hl := h.len
  rw [inS_len hk] at hl
  have h1 := h.take k
  have h2 := h.drop (k + 1)
  have e1 : (inS S k s).take k = S.take k := by
    rw [inS_eq, List.take_append_of_le_length (by simp; omega), List.take_take, Nat.min_self]
  have e2 : (inS S k s).drop (k + 1) = S.drop k := by
    have e3 : S.take k ++ s :: S.drop k = (S.take k ++ [s]) ++ S.drop k := by simp
    rw [inS_eq, e3, List.drop_append_of_le_length (by simp; omega), List.drop_eq_nil_of_le (by simp; omega), List.nil_append]
  rw [e1] at h1
  rw [e2] at h2
  refine ⟨c.take k, c.drop (k + 1), list_split (by omega), by rw [List.length_take]; omega, ?_⟩
  have := h1.app h2
  rwa [List.take_append_drop] at this
/-- What is moved, if a number is taken out. -/
theorem move_mid (A B : List Int) (a x b : Int) : move (A ++ a :: x :: b :: B) = move (A ++ a :: b :: B) + (ap a x + ap x b - ap a b) := by
  rw [move_app, move_app a (b :: B)]
  show move (A ++ [a]) + (ap a x + (ap x b + move (b :: B))) = move (A ++ [a]) + (ap a b + move (b :: B)) + _
  omega
theorem move_end (A : List Int) (a x : Int) : move (A ++ [a, x]) = move (A ++ [a]) + ap a x := by
  have := move_app a [x] A
  rw [this]
  simp [move]
theorem move_head (B : List Int) (x b : Int) : move (x :: b :: B) = ap x b + move (b :: B) := rfl
theorem snoc_of {A : List Int} {k : Nat} (h : A.length = k) (hk : 0 < k) : ∃ A' a, A = A' ++ [a] ∧ A'.length = k - 1 := by
  refine ⟨A.take (k - 1), A.getD (k - 1) 0, ?_, by rw [List.length_take]; omega⟩
  have := list_split (i := k - 1) (c := A) (by omega)
  rw [show k - 1 + 1 = k by omega, List.drop_eq_nil_of_le (by omega)] at this
  exact this
/-- A number is put into a course in which nothing more is moved for it. -/
theorem dup_course {S : List api_Span} {c : List Int} (h : Crs S c) (hS : ∀ s ∈ S, SOkS s) {k : Nat} (hk : k ≤ S.length) (h1 : 1 ≤ S.length) : ∃ x, Crs (inS S k ⟨-300, 300⟩) (inS c k x) ∧ move (inS c k x) = move c := by
  have hl := h.len
  have hb : ∀ i, i < S.length → -300 ≤ c.getD i 0 ∧ c.getD i 0 ≤ 300 := fun i hi => by
    have a := h.at_ i hi
    have s := hS (S.getD i s00) (by rw [← get_getD hi]; exact List.getElem_mem _)
    unfold SOkS at s
    omega
  rcases Nat.eq_zero_or_pos k with h0 | h0
  · subst h0
    refine ⟨c.getD 0 0, h.ins (hb 0 (by omega)) 0, ?_⟩
    rw [inS_eq, List.take_zero, List.drop_zero, List.nil_append]
    cases c with
    | nil => simp at hl; omega
    | cons y c =>
      show move (y :: y :: c) = _
      rw [move_head]
      have : ap y y = 0 := by unfold ap; omega
      omega
  · refine ⟨c.getD (k - 1) 0, h.ins (hb (k - 1) (by omega)) k, ?_⟩
    obtain ⟨A', a, e1, e2⟩ := snoc_of (A := c.take k) (k := k) (by rw [List.length_take]; omega) h0
    have ea : c.getD (k - 1) 0 = a := by
      have : (c.take k).getD (k - 1) 0 = a := by
        rw [e1, ← e2, getD_eq]
      rw [← this]
      simp [List.getD, List.getElem?_take]
      rw [if_pos (by omega)]
    have ec : c = A' ++ a :: c.drop k := by
      have := List.take_append_drop k c
      rw [e1] at this
      exact this.symm.trans (by simp)
    have : ap a a = 0 := by unfold ap; omega
    rw [inS_eq, e1, ea]
    rw [show A' ++ [a] ++ a :: c.drop k = A' ++ a :: a :: c.drop k by simp]
    conv => rhs; rw [ec]
    rw [move_app, move_app a (c.drop k)]
    show move (A' ++ [a]) + (ap a a + move (a :: c.drop k)) = _
    omega
/-- What can be on a day put in, if no more is moved than must be: between what its neighbours can be. -/
theorem between_ends {S : List api_Span} (hS : VL S) {k : Nat} (hk : k ≤ S.length) {c : List Int} (h : Crs (inS S k ⟨-300, 300⟩) c) (hm : move c ≤ leastF S) :
    (0 < k → k < S.length → min (cspan S (leastF S) (k - 1)).Lo (cspan S (leastF S) k).Lo ≤ c.getD k 0 ∧ c.getD k 0 ≤ max (cspan S (leastF S) (k - 1)).Hi (cspan S (leastF S) k).Hi) ∧
    (0 < k → k = S.length → (cspan S (leastF S) (k - 1)).Lo ≤ c.getD k 0 ∧ c.getD k 0 ≤ (cspan S (leastF S) (k - 1)).Hi) ∧
    (k = 0 → (cspan S (leastF S) 0).Lo ≤ c.getD k 0 ∧ c.getD k 0 ≤ (cspan S (leastF S) 0).Hi) := by
  have h1 := hS.l1
  obtain ⟨A, B, ec, hA, hC⟩ := h.del hk
  generalize c.getD k 0 = x at *
  have hlen := hC.len
  rw [List.length_append, hA] at hlen
  have hleast := least_le hS hC
  refine ⟨fun h0 hlt => ?_, fun h0 he => ?_, fun h0 => ?_⟩
  · obtain ⟨A', a, e1, e2⟩ := snoc_of hA h0
    obtain ⟨b, B', e3⟩ : ∃ b B', B = b :: B' := List.exists_cons_of_ne_nil (by rintro rfl; simp at hlen; omega)
    subst e1 e3
    have e4 : c = A' ++ a :: x :: b :: B' := by rw [ec]; simp
    have e5 : A' ++ [a] ++ b :: B' = A' ++ a :: b :: B' := by simp
    rw [e4, move_mid] at hm
    rw [e5] at hleast hC
    have t := ap_tri a x b
    have ga : (A' ++ a :: b :: B').getD (k - 1) 0 = a := by rw [← e2]; simp [List.getD]
    have gb : (A' ++ a :: b :: B').getD k 0 = b := by
      have : k = A'.length + 1 := by omega
      rw [this]
      simp [List.getD]
    have q1 := can_in hS hC (most := leastF S) (by omega) (i := k - 1) (by omega)
    have q2 := can_in hS hC (most := leastF S) (by omega) (i := k) (by omega)
    rw [ga] at q1
    rw [gb] at q2
    unfold ap at *
    omega
  · obtain ⟨A', a, e1, e2⟩ := snoc_of hA h0
    have e3 : B = [] := List.length_eq_zero_iff.1 (by omega)
    subst e1 e3
    have e4 : c = A' ++ [a, x] := by rw [ec]; simp
    rw [e4, move_end] at hm
    rw [List.append_nil] at hleast hC
    have ga : (A' ++ [a]).getD (k - 1) 0 = a := by rw [← e2, getD_eq]
    have q1 := can_in hS hC (most := leastF S) (by have := ap_nonneg a x; omega) (i := k - 1) (by omega)
    rw [ga] at q1
    unfold ap at *
    omega
  · subst h0
    have e1 : A = [] := List.length_eq_zero_iff.1 hA
    obtain ⟨b, B', e3⟩ : ∃ b B', B = b :: B' := List.exists_cons_of_ne_nil (by rintro rfl; simp at hlen; omega)
    subst e1 e3
    rw [ec] at hm
    have hm' : ap x b + move (b :: B') ≤ leastF S := hm
    have hleast' : leastF S ≤ move (b :: B') := hleast
    have hC' : Crs S (b :: B') := hC
    have q1 := can_in hS hC' (most := leastF S) (by have := ap_nonneg x b; omega) (i := 0) (by omega)
    have ga : (b :: B').getD 0 0 = b := rfl
    rw [ga] at q1
    unfold ap at *
    omega
end Go.Nilo
