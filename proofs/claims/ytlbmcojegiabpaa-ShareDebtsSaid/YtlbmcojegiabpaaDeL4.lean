/-
  What the plain functions compute, in plain arithmetic, part 4. Conditions: what each theorem names.
-/
import Derived.Test.YtlbmcojegiabpaaDeL3
set_option linter.unusedSimpArgs false
set_option linter.unusedVariables false
namespace Go.Nilo
theorem firstG_some {ρ : Type} {g : Nat → Option ρ} {r : ρ} {k : Nat} : ∀ (n i : Nat), i ≤ k → k < i + n → g k = some r → (∀ j, i ≤ j → j < k → g j = none) → firstG g i n = some r
  | 0, i, _, _, _, _ => by omega
  | n + 1, i, h1, h2, hk, hn => by
    unfold firstG
    by_cases hik : i = k
    · subst hik; rw [hk]
    · rw [hn i (Nat.le_refl _) (by omega)]
      exact firstG_some n (i + 1) (by omega) (by omega) hk (fun j h h' => hn j (by omega) h')
theorem firstG_none {ρ : Type} {g : Nat → Option ρ} : ∀ (n i : Nat), (∀ j, i ≤ j → j < i + n → g j = none) → firstG g i n = none
  | 0, _, _ => rfl
  | n + 1, i, h => by
    unfold firstG
    rw [h i (Nat.le_refl _) (by omega)]
    exact firstG_none n (i + 1) (fun j h1 h2 => h j (by omega) (by omega))
theorem firstG_congr {ρ : Type} {g g' : Nat → Option ρ} : ∀ (n i : Nat), (∀ j, i ≤ j → j < i + n → g j = g' j) → firstG g i n = firstG g' i n
  | 0, _, _ => rfl
  | n + 1, i, h => by
    unfold firstG
    rw [h i (Nat.le_refl _) (by omega), firstG_congr n (i + 1) (fun j h1 h2 => h j (by omega) (by omega))]

def p0 : share_Point := ⟨0, 0⟩
def xI (b : share_Border) (j : Nat) : Int := (b.Table.getD j p0).Index
def xD (b : share_Border) (j : Nat) : Int := (b.Table.getD j p0).Due
theorem BOk.xi {b : share_Border} (h : BOk b) {j : Nat} (hj : j < b.Table.length) : 0 ≤ xI b j ∧ xI b j ≤ 1000000000 := by
  have := h.i j hj
  rw [get_getD (d := p0) hj] at this
  exact this
theorem BOk.xd {b : share_Border} (h : BOk b) {j : Nat} (hj : j < b.Table.length) : 0 ≤ xD b j ∧ xD b j ≤ 1000000000 := by
  have := h.d j hj
  rw [get_getD (d := p0) hj] at this
  exact this
theorem BOk.xup {b : share_Border} (h : BOk b) {j : Nat} (hj : j + 1 < b.Table.length) : xI b j < xI b (j + 1) ∧ xD b j ≤ xD b (j + 1) := by
  have := h.up j hj
  rw [get_getD (d := p0) hj, get_getD (d := p0) (show j < b.Table.length by omega)] at this
  exact this
theorem BOk.rise {b : share_Border} (h : BOk b) {i : Nat} : ∀ (k : Nat), i + k + 1 < b.Table.length → xI b i < xI b (i + k + 1)
  | 0, hk => (h.xup (j := i) hk).1
  | k + 1, hk => by
    have := h.rise (i := i) k (by omega)
    have h2 := (h.xup (j := i + k + 1) (by omega)).1
    have e : i + (k + 1) + 1 = i + k + 1 + 1 := by omega
    rw [e]
    omega
theorem BOk.rise' {b : share_Border} (h : BOk b) {i j : Nat} (hij : i < j) (hj : j < b.Table.length) : xI b i < xI b j := by
  have := h.rise (i := i) (j - i - 1) (by omega)
  rw [show i + (j - i - 1) + 1 = j by omega] at this
  exact this

def refP (p : share_Point) : ref09_Point := ⟨p.Index, p.Due⟩
def refB (b : share_Border) : ref09_Border := ⟨b.Table.map refP, b.Credit⟩
theorem refB_len (b : share_Border) : (refB b).Table.length = b.Table.length := by simp [refB]
theorem refB_get {b : share_Border} {i : Nat} (hi : i < b.Table.length) : getI (refB b).Table (i : Int) = some (refP (b.Table.getD i p0)) := by
  rw [getI_nat (by rw [refB_len]; exact hi)]
  simp [refB, hi, List.getD]

theorem dueF_mid {b : share_Border} {t : Int} {k : Nat} (hk : b.Table.findIdx (isBeyond t) = k) (h0 : 0 < k) (h1 : k < b.Table.length) : dueF b.Table t = xD b (k - 1) + (xD b k - xD b (k - 1)) * (t - xI b (k - 1)) / (xI b k - xI b (k - 1)) := by
  subst hk
  unfold dueF
  rw [dif_pos ⟨h0, h1⟩, get_getD (d := p0) h1, get_getD (d := p0) (show b.Table.findIdx (isBeyond t) - 1 < b.Table.length by omega)]
  rfl
theorem dueF_first {b : share_Border} {t : Int} (hk : b.Table.findIdx (isBeyond t) = 0) : dueF b.Table t = xD b 0 := by
  unfold dueF
  rw [dif_neg (by omega), if_pos hk]
  rfl
theorem dueF_last {b : share_Border} {t : Int} (hk : b.Table.findIdx (isBeyond t) = b.Table.length) (hl : 0 < b.Table.length) : dueF b.Table t = xD b (b.Table.length - 1) := by
  unfold dueF
  rw [dif_neg (by omega), if_neg (by omega)]
  rfl
theorem line_zero {y0 a s x : Int} : y0 + a * (x - x) / s = y0 := by rw [Int.sub_self, Int.mul_zero, Int.zero_ediv, Int.add_zero]

def dueG (b : share_Border) (t : Int) (i : Nat) : Option Int := cond (decide (t ≤ xI b (i + 1))) (some ((xD b i * (xI b (i + 1) - t) + xD b (i + 1) * (t - xI b i)).tdiv (xI b (i + 1) - xI b i))) none
theorem dueG_none {b : share_Border} {t : Int} {i : Nat} (h : xI b (i + 1) < t) : dueG b t i = none := by
  unfold dueG
  have : decide (t ≤ xI b (i + 1)) = false := by rw [decide_eq_false_iff_not]; omega
  rw [this]; rfl
theorem dueG_mid {b : share_Border} (hb : BOk b) {t : Int} {i : Nat} (hi : i + 1 < b.Table.length) (h1 : xI b i ≤ t) (h2 : t ≤ xI b (i + 1)) : dueG b t i = some (xD b i + (xD b (i + 1) - xD b i) * (t - xI b i) / (xI b (i + 1) - xI b i)) := by
  unfold dueG
  have : decide (t ≤ xI b (i + 1)) = true := by rw [decide_eq_true_eq]; omega
  have d0 := hb.xd (j := i) (by omega)
  have d1 := hb.xd hi
  have m1 : 0 ≤ xD b i * (xI b (i + 1) - t) := Int.mul_nonneg (by omega) (by omega)
  have m2 : 0 ≤ xD b (i + 1) * (t - xI b i) := Int.mul_nonneg (by omega) (by omega)
  rw [this, cond_true, tdiv_div (by omega), line_two (hb.xup hi).1]

theorem due_ref {N : Nat} (hN : 60 ≤ N) {b : share_Border} (h : BOk b) {t : Int} (ht : 0 ≤ t ∧ t ≤ 1000000000) : ref09_due N (refB b) t = some (dueF b.Table t) := by
  have hl := h.l2
  have hl' := h.l12
  have hle : b.Table.findIdx (isBeyond t) ≤ b.Table.length := List.findIdx_le_length
  have hat : ∀ k, b.Table.findIdx (isBeyond t) = k → k < b.Table.length → t < xI b k := fun k hk hkl => by
    subst hk
    have := at_idx hkl
    rw [get_getD (d := p0) hkl] at this
    exact this
  have hah : ∀ j, j < b.Table.findIdx (isBeyond t) → j < b.Table.length → xI b j ≤ t := fun j hj hjl => by
    have := ahead_idx (b := b) (t := t) hj hjl
    rw [get_getD (d := p0) hjl] at this
    exact this
  generalize hk : b.Table.findIdx (isBeyond t) = k at hle hat hah
  have hg0 := refB_get (b := b) (i := 0) (by omega)
  rw [show ((0 : Nat) : Int) = 0 from rfl] at hg0
  unfold ref09_due
  rw [hg0, Option.bind_some, Option.bind_some]
  show cond (decide (t ≤ xI b 0)) (some (xD b 0)) _ = _
  by_cases ht0 : t ≤ xI b 0
  · have : decide (t ≤ xI b 0) = true := by rw [decide_eq_true_eq]; exact ht0
    rw [this, cond_true]
    by_cases hk0 : k = 0
    · subst hk0; rw [dueF_first hk]
    · have h1 := hah 0 (by omega) (by omega)
      have hk1 : k = 1 := by
        rcases Nat.lt_or_ge 1 k with h2 | h2
        · have h3 := hah 1 h2 (by omega)
          have h4 := (h.xup (j := 0) (by omega)).1
          rw [show (0 : Nat) + 1 = 1 from rfl] at h4
          omega
        · omega
      subst hk1
      rw [dueF_mid hk (by omega) (by omega), show 1 - 1 = 0 from rfl, show t = xI b 0 by omega, line_zero]
  · have : decide (t ≤ xI b 0) = false := by rw [decide_eq_false_iff_not]; exact ht0
    rw [this, cond_false]
    have hk0 : 0 < k := by
      rcases Nat.eq_zero_or_pos k with h2 | h2
      · subst h2
        have := hat 0 rfl (by omega)
        omega
      · exact h2
    have hloop := scanS (ρ := Int) (fun i : Nat => ((i + 1 : Nat) : Int)) (dueG b t) (b.Table.length - 1) (fun s7 => ref09_due_b7 N (refB b) t s7) (fun i hi => by
        have i0 := h.xi (j := i) (by omega)
        have i1 := h.xi (j := i + 1) (by omega)
        have d0 := h.xd (j := i) (by omega)
        have d1 := h.xd (j := i + 1) (by omega)
        have up := (h.xup (j := i) (by omega)).1
        show ref09_due_b7 N (refB b) t ((i + 1 : Nat) : Int) = _
        unfold ref09_due_b7
        have w0 : W (((i + 1 : Nat) : Int) - 1) = (i : Int) := by rw [W_id (by omega) (by omega)]; push_cast; omega
        rw [refB_len, lt_dec (by omega), cond_true, w0, refB_get (by omega), Option.bind_some, refB_get (by omega), Option.bind_some, W_succ (by omega)]
        show cond (decide (t ≤ xI b (i + 1))) (Option.bind (nz (W (xI b (i + 1) - xI b i))) fun un => some (Step.ret (W ((W ((W (xD b i * (W (xI b (i + 1) - t)))) + (W (xD b (i + 1) * (W (t - xI b i)))))).tdiv (W (xI b (i + 1) - xI b i)))))) _ = _
        unfold dueG
        by_cases hti : t ≤ xI b (i + 1)
        · have hd : decide (t ≤ xI b (i + 1)) = true := by rw [decide_eq_true_eq]; exact hti
          have m1 := absmul (x := xD b i) (y := xI b (i + 1) - t) (A := 1000000000) (B := 1000000000) (by omega) (by omega)
          have m2 := absmul (x := xD b (i + 1)) (y := t - xI b i) (A := 1000000000) (B := 1000000000) (by omega) (by omega)
          have hz : nz (xI b (i + 1) - xI b i) = some () := by unfold nz; rw [if_neg (by omega)]
          rw [hd, W_id (n := xI b (i + 1) - xI b i) (by omega) (by omega), hz, W_id (n := xI b (i + 1) - t) (by omega) (by omega), W_id (n := t - xI b i) (by omega) (by omega)]
          generalize xD b i * (xI b (i + 1) - t) = q1 at *
          generalize xD b (i + 1) * (t - xI b i) = q2 at *
          have hq : (q1 + q2).tdiv (xI b (i + 1) - xI b i) ≤ 9223372036854775807 ∧ -9223372036854775808 ≤ (q1 + q2).tdiv (xI b (i + 1) - xI b i) := by
            have := Int.natAbs_tdiv_le_natAbs (q1 + q2) (xI b (i + 1) - xI b i)
            omega
          rw [W_id (n := q1) (by omega) (by omega), W_id (n := q2) (by omega) (by omega), W_id (n := q1 + q2) (by omega) (by omega), W_id hq.2 hq.1]
          rfl
        · have hd : decide (t ≤ xI b (i + 1)) = false := by rw [decide_eq_false_iff_not]; exact hti
          rw [hd]
          rfl) (by
        show ref09_due_b7 N (refB b) t ((b.Table.length - 1 + 1 : Nat) : Int) = _
        unfold ref09_due_b7
        rw [refB_len, show b.Table.length - 1 + 1 = b.Table.length by omega, ge_dec, cond_false]) (b.Table.length - 1) 0 N (by omega) (by omega)
    show Option.bind (loopO _ N ((0 + 1 : Nat) : Int)) _ = _
    rw [hloop]
    by_cases hkl : k < b.Table.length
    · have e1 := hah (k - 1) (by omega) (by omega)
      have e2 := hat k rfl hkl
      rw [dueF_mid hk hk0 hkl]
      by_cases heq : t = xI b (k - 1)
      · have hk2 : 2 ≤ k := by
          rcases Nat.lt_or_ge k 2 with h3 | h3
          · have : k = 1 := by omega
            subst this
            rw [show 1 - 1 = 0 from rfl] at heq
            omega
          · exact h3
        have up := (h.xup (j := k - 2) (by omega)).1
        rw [show k - 2 + 1 = k - 1 by omega] at up
        have hgk := dueG_mid h (t := t) (i := k - 2) (by omega) (by rw [heq]; omega) (by rw [show k - 2 + 1 = k - 1 by omega]; omega)
        rw [show k - 2 + 1 = k - 1 by omega] at hgk
        rw [firstG_some (k := k - 2) _ _ (by omega) (by omega) hgk (fun j _ hj => dueG_none (by have := h.rise' (i := j + 1) (j := k - 1) (by omega) (by omega); omega))]
        show some (_) = some (_)
        rw [heq, line_zero, Int.mul_ediv_cancel _ (by omega)]
        congr 1
        omega
      · have hgk := dueG_mid h (t := t) (i := k - 1) (by omega) e1 (by rw [show k - 1 + 1 = k by omega]; omega)
        rw [show k - 1 + 1 = k by omega] at hgk
        rw [firstG_some (k := k - 1) _ _ (by omega) (by omega) hgk (fun j _ hj => dueG_none (by
          by_cases hjk : j + 1 = k - 1
          · rw [hjk]; omega
          · have := h.rise' (i := j + 1) (j := k - 1) (by omega) (by omega); omega))]
        rfl
    · have hkeq : k = b.Table.length := by omega
      subst hkeq
      rw [dueF_last hk (by omega)]
      have e1 := hah (b.Table.length - 1) (by omega) (by omega)
      by_cases heq : t = xI b (b.Table.length - 1)
      · have up := (h.xup (j := b.Table.length - 2) (by omega)).1
        rw [show b.Table.length - 2 + 1 = b.Table.length - 1 by omega] at up
        have hgk := dueG_mid h (t := t) (i := b.Table.length - 2) (by omega) (by omega) (by rw [show b.Table.length - 2 + 1 = b.Table.length - 1 by omega]; omega)
        rw [show b.Table.length - 2 + 1 = b.Table.length - 1 by omega] at hgk
        rw [firstG_some (k := b.Table.length - 2) _ _ (by omega) (by omega) hgk (fun j _ hj => dueG_none (by have := h.rise' (i := j + 1) (j := b.Table.length - 1) (by omega) (by omega); omega))]
        show some (_) = some (_)
        rw [heq, Int.mul_ediv_cancel _ (by omega)]
        congr 1
        omega
      · rw [firstG_none _ _ (fun j _ hj => dueG_none (by
          by_cases hjk : j + 1 = b.Table.length - 1
          · rw [hjk]; omega
          · have := h.rise' (i := j + 1) (j := b.Table.length - 1) (by omega) (by omega); omega))]
        have wk : W (((b.Table.length : Nat) : Int) - 1) = ((b.Table.length - 1 : Nat) : Int) := by rw [W_id (by omega) (by omega)]; omega
        show Option.bind (getI (refB b).Table (W ((((refB b).Table.length : Nat) : Int) - 1))) _ = _
        rw [refB_len, wk, refB_get (by omega)]
        rfl
end Go.Nilo
