/-
  What the plain functions compute, in plain arithmetic, part 2. Conditions: what each theorem names.
-/
import Derived.Test.YtlbmcojegiabpaaDeL1
set_option linter.unusedSimpArgs false
set_option linter.unusedVariables false
namespace Go.Nilo
/-- A line between two points, in two ways. -/
theorem line_two {x0 x1 y0 y1 t : Int} (h : x0 < x1) : (y0 * (x1 - t) + y1 * (t - x0)) / (x1 - x0) = y0 + (y1 - y0) * (t - x0) / (x1 - x0) := by
  have e : y0 * (x1 - t) + y1 * (t - x0) = (y1 - y0) * (t - x0) + y0 * (x1 - x0) := by
    simp only [Int.mul_sub, Int.sub_mul]
    omega
  rw [e, Int.add_mul_ediv_right _ _ (by omega), Int.add_comm]
theorem line_end {x0 x1 y0 y1 : Int} (h : x0 < x1) : (y0 * (x1 - x1) + y1 * (x1 - x0)) / (x1 - x0) = y1 := by
  rw [Int.sub_self, Int.mul_zero, Int.zero_add, Int.mul_ediv_cancel _ (by omega)]
structure BOk (b : share_Border) : Prop where
  l2 : 2 ≤ b.Table.length
  l12 : b.Table.length ≤ 12
  i : ∀ j (h : j < b.Table.length), 0 ≤ b.Table[j].Index ∧ b.Table[j].Index ≤ 1000000000
  d : ∀ j (h : j < b.Table.length), 0 ≤ b.Table[j].Due ∧ b.Table[j].Due ≤ 1000000000
  up : ∀ j (h : j + 1 < b.Table.length), b.Table[j].Index < b.Table[j + 1].Index ∧ b.Table[j].Due ≤ b.Table[j + 1].Due
  c : 0 ≤ b.Credit ∧ b.Credit ≤ 1000000000

/-- The due of an index. -/
def isBeyond (idx : Int) (p : share_Point) : Bool := decide (idx < p.Index)
def dueF (T : List share_Point) (idx : Int) : Int :=
  if h : 0 < T.findIdx (isBeyond idx) ∧ T.findIdx (isBeyond idx) < T.length then
    T[T.findIdx (isBeyond idx) - 1].Due + (T[T.findIdx (isBeyond idx)].Due - T[T.findIdx (isBeyond idx) - 1].Due) * (idx - T[T.findIdx (isBeyond idx) - 1].Index) / (T[T.findIdx (isBeyond idx)].Index - T[T.findIdx (isBeyond idx) - 1].Index)
  else if T.findIdx (isBeyond idx) = 0 then (T.getD 0 ⟨0, 0⟩).Due else (T.getD (T.length - 1) ⟨0, 0⟩).Due

theorem rise {b : share_Border} (h : BOk b) : ∀ (k i : Nat) (hk : i + k < b.Table.length), (b.Table[i]'(by omega)).Due ≤ b.Table[i + k].Due
  | 0, i, hk => Int.le_refl _
  | k + 1, i, hk => Int.le_trans (rise h k i (by omega)) (h.up (i + k) hk).2
theorem rise' {b : share_Border} (h : BOk b) {i j : Nat} (hij : i ≤ j) (hj : j < b.Table.length) : (b.Table[i]'(by omega)).Due ≤ b.Table[j].Due := by
  obtain ⟨k, rfl⟩ : ∃ k, j = i + k := ⟨j - i, by omega⟩
  exact rise h k i hj

/-- Within a segment. -/
theorem seg_bd {x0 x1 y0 y1 t : Int} (hx : x0 < x1) (hy : y0 ≤ y1) (h0 : x0 ≤ t) (h1 : t < x1) : 0 ≤ (y1 - y0) * (t - x0) / (x1 - x0) ∧ (y1 - y0) * (t - x0) / (x1 - x0) ≤ y1 - y0 := by
  have a : 0 ≤ (y1 - y0) * (t - x0) := Int.mul_nonneg (by omega) (by omega)
  refine ⟨Int.ediv_nonneg a (by omega), ?_⟩
  have b : (y1 - y0) * (t - x0) ≤ (y1 - y0) * (x1 - x0) := Int.mul_le_mul_of_nonneg_left (by omega) (by omega)
  have c := Int.ediv_le_ediv (show 0 < x1 - x0 by omega) b
  rw [Int.mul_ediv_cancel _ (by omega)] at c
  exact c
theorem seg_mono {x0 x1 y0 y1 t t' : Int} (hx : x0 < x1) (hy : y0 ≤ y1) (h : t ≤ t') : (y1 - y0) * (t - x0) / (x1 - x0) ≤ (y1 - y0) * (t' - x0) / (x1 - x0) :=
  Int.ediv_le_ediv (by omega) (Int.mul_le_mul_of_nonneg_left (by omega) (by omega))

theorem at_idx {b : share_Border} {t : Int} (h : b.Table.findIdx (isBeyond t) < b.Table.length) : t < b.Table[b.Table.findIdx (isBeyond t)].Index := by
  have := List.findIdx_getElem (w := h)
  simpa [isBeyond] using this
theorem ahead_idx {b : share_Border} {t : Int} {j : Nat} (h : j < b.Table.findIdx (isBeyond t)) (hj : j < b.Table.length) : b.Table[j].Index ≤ t := by
  have := List.not_of_lt_findIdx h
  simpa [isBeyond] using this

theorem due_bd {b : share_Border} (h : BOk b) (t : Int) : (∀ j (hj : j < b.Table.length), j < b.Table.findIdx (isBeyond t) → b.Table[j].Due ≤ dueF b.Table t) ∧ (∀ j (hj : j < b.Table.length), b.Table.findIdx (isBeyond t) ≤ j → dueF b.Table t ≤ b.Table[j].Due) ∧ 0 ≤ dueF b.Table t ∧ dueF b.Table t ≤ 1000000000 := by
  have hl := h.l2
  have hle : b.Table.findIdx (isBeyond t) ≤ b.Table.length := List.findIdx_le_length
  unfold dueF
  split
  · rename_i hh
    obtain ⟨h0, h1⟩ := hh
    have x1 := at_idx h1
    have x0 := ahead_idx (b := b) (t := t) (j := b.Table.findIdx (isBeyond t) - 1) (by omega) (by omega)
    have hu := h.up (b.Table.findIdx (isBeyond t) - 1) (by omega)
    simp only [show b.Table.findIdx (isBeyond t) - 1 + 1 = b.Table.findIdx (isBeyond t) by omega] at hu
    have hs := seg_bd hu.1 hu.2 x0 x1
    have d0 := h.d (b.Table.findIdx (isBeyond t) - 1) (by omega)
    have d1 := h.d (b.Table.findIdx (isBeyond t)) h1
    refine ⟨?_, ?_, by omega, by omega⟩
    · intro j hj hji
      have := rise' h (i := j) (j := b.Table.findIdx (isBeyond t) - 1) (by omega) (by omega)
      omega
    · intro j hj hji
      have := rise' h hji hj
      omega
  · rename_i hh
    split
    · rename_i h0
      rw [← get_getD (show 0 < b.Table.length by omega)]
      have d0 := h.d 0 (by omega)
      refine ⟨fun j hj hji => by omega, fun j hj hji => rise' h (by omega) hj, d0.1, d0.2⟩
    · rename_i h0
      rw [← get_getD (show b.Table.length - 1 < b.Table.length by omega)]
      have d0 := h.d (b.Table.length - 1) (by omega)
      refine ⟨fun j hj hji => rise' h (by omega) (by omega), fun j hj hji => by omega, d0.1, d0.2⟩
theorem due_mono {b : share_Border} (h : BOk b) {t t' : Int} (ht : t ≤ t') : dueF b.Table t ≤ dueF b.Table t' := by
  have hl := h.l2
  have hle : b.Table.findIdx (isBeyond t) ≤ b.Table.length := List.findIdx_le_length
  have hle' : b.Table.findIdx (isBeyond t') ≤ b.Table.length := List.findIdx_le_length
  have hidx : b.Table.findIdx (isBeyond t) ≤ b.Table.findIdx (isBeyond t') := by
    rcases Nat.lt_or_ge (b.Table.findIdx (isBeyond t')) (b.Table.findIdx (isBeyond t)) with hlt | hge
    · exfalso
      have h1 := at_idx (b := b) (t := t') (by omega)
      have h2 := ahead_idx (b := b) (t := t) hlt (by omega)
      omega
    · exact hge
  rcases Nat.lt_or_ge (b.Table.findIdx (isBeyond t)) (b.Table.findIdx (isBeyond t')) with hlt | hge
  · have a := (due_bd h t).2.1 (b.Table.findIdx (isBeyond t)) (by omega) (Nat.le_refl _)
    have c := (due_bd h t').1 (b.Table.findIdx (isBeyond t)) (by omega) hlt
    omega
  · have he : b.Table.findIdx (isBeyond t) = b.Table.findIdx (isBeyond t') := by omega
    unfold dueF
    simp only [he]
    split
    · rename_i hh
      have hu := h.up (b.Table.findIdx (isBeyond t') - 1) (by omega)
      simp only [show b.Table.findIdx (isBeyond t') - 1 + 1 = b.Table.findIdx (isBeyond t') by omega] at hu
      have := seg_mono hu.1 hu.2 ht
      omega
    · exact Int.le_refl _
end Go.Nilo
