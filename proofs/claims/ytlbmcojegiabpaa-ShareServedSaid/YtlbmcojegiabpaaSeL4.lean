/-
  What the plain functions compute, in plain arithmetic, part 4. Conditions: what each theorem names.
-/
import Derived.Test.YtlbmcojegiabpaaSeL3
set_option linter.unusedSimpArgs false
set_option linter.unusedVariables false
namespace Go.Nilo
/-! ### More water, and all water -/
theorem left_mono {c : share_Compact} {f f' : Int} (hf : f ≤ f') (i : Nat) : leftR c f i ≤ leftR c f' i := by unfold leftR; omega
theorem take_mono {c : share_Compact} {f f' : Int} (hf : f ≤ f') (i : Nat) : takeR c f i ≤ takeR c f' i := by
  have := left_mono (c := c) hf i
  unfold takeR
  omega
theorem part_mono {c : share_Compact} (h : COk c) {f f' : Int} (hf : f ≤ f') {i : Nat} (hi : i < c.Rights.length) : partR c f i ≤ partR c f' i := by
  have h1 := h.el i hi
  unfold partR
  exact Int.ediv_le_ediv (by omega) (Int.mul_le_mul_of_nonneg_right (take_mono hf i) (by omega))
theorem got_mono {c : share_Compact} (h : COk c) {f f' s : Int} (hf : f ≤ f') : ∀ i, i ≤ c.Rights.length → gotF c f s i ≤ gotF c f' s i
  | 0, _ => Int.le_refl _
  | i + 1, hi => by
    have ih := got_mono h (s := s) hf i (by omega)
    have := part_mono h hf (i := i) (by omega)
    rw [gotF, gotF]
    cases ((c.Rights.getD i r0).State == s)
    · rw [cond_false, cond_false]; omega
    · rw [cond_true, cond_true]; omega
theorem part_le {c : share_Compact} (h : COk c) {f : Int} {i : Nat} (hi : i < c.Rights.length) : partR c f i ≤ takeR c f i := by
  have h1 := h.el i hi
  have h2 := take_bd h (flow := f) hi
  unfold partR
  have : takeR c f i * (1000 - (c.Rights.getD i r0).Loss) ≤ takeR c f i * 1000 := Int.mul_le_mul_of_nonneg_left (by omega) h2.1
  have h3 := Int.ediv_le_ediv (show (0 : Int) < 1000 by omega) this
  rw [Int.mul_ediv_cancel _ (by omega)] at h3
  exact h3
def sumZ (f : Nat → Int) : Nat → Int
  | 0 => 0
  | n + 1 => sumZ f n + f n
theorem sumZ_add {f g : Nat → Int} : ∀ k, sumZ (fun s => f s + g s) k = sumZ f k + sumZ g k
  | 0 => rfl
  | k + 1 => by
    unfold sumZ
    rw [sumZ_add k]
    omega
theorem sumZ_one {p : Int} {st : Int} : ∀ k : Nat, sumZ (fun s => cond (st == (s : Int)) p 0) k = if 0 ≤ st ∧ st < (k : Int) then p else 0
  | 0 => by
    unfold sumZ
    rw [if_neg (by omega)]
  | k + 1 => by
    unfold sumZ
    rw [sumZ_one k]
    by_cases h : st = (k : Int)
    · have e : (st == (k : Int)) = true := beq_iff_eq.2 h
      rw [e, cond_true, if_neg (by omega), if_pos (by omega)]
      omega
    · have e : (st == (k : Int)) = false := beq_eq_false_iff_ne.2 h
      rw [e, cond_false]
      by_cases h2 : 0 ≤ st ∧ st < (k : Int)
      · rw [if_pos h2, if_pos (by omega)]; omega
      · rw [if_neg h2, if_neg (by omega)]; omega
theorem all_le {c : share_Compact} (h : COk c) {f : Int} (hf : 0 ≤ f) : ∀ i, i ≤ c.Rights.length → sumZ (fun s => gotF c f (s : Int) i) c.States.toNat ≤ f - leftR c f i
  | 0, _ => by
    have : ∀ k, sumZ (fun s : Nat => gotF c f (s : Int) 0) k = 0 := by
      intro k
      induction k with
      | zero => rfl
      | succ k ih => unfold sumZ; rw [ih]; rfl
    rw [this]
    unfold leftR olderR
    omega
  | i + 1, hi => by
    have ih := all_le h hf i (by omega)
    have hs := h.s
    have he := h.el i (by omega)
    have hl := leftR_succ h (flow := f) (i := i) (by omega)
    have hp := part_le h (f := f) (i := i) (by omega)
    have e : sumZ (fun s : Nat => gotF c f (s : Int) (i + 1)) c.States.toNat = sumZ (fun s : Nat => gotF c f (s : Int) i + cond ((c.Rights.getD i r0).State == (s : Int)) (partR c f i) 0) c.States.toNat := rfl
    rw [e, sumZ_add, sumZ_one, if_pos (by omega)]
    omega

/-! ### Compacts that are alike as far as one looks -/
theorem older_congr {c d : share_Compact} : ∀ i, (∀ k, k < i → c.Rights.getD k r0 = d.Rights.getD k r0) → olderR c i = olderR d i
  | 0, _ => rfl
  | i + 1, h => by
    rw [olderR, olderR, older_congr i (fun k hk => h k (by omega)), h i (by omega)]
theorem got_congr {c d : share_Compact} {f s : Int} : ∀ i, (∀ k, k < i → c.Rights.getD k r0 = d.Rights.getD k r0) → gotF c f s i = gotF d f s i
  | 0, _ => rfl
  | i + 1, h => by
    rw [gotF, gotF, got_congr i (fun k hk => h k (by omega))]
    unfold partR takeR leftR
    rw [h i (by omega), older_congr i (fun k hk => h k (by omega))]
/-- Behind a right that is short nothing is left. -/
theorem none_left {c : share_Compact} (h : COk c) {f : Int} {n : Nat} (hn : n < c.Rights.length) (hs : takeR c f n < (c.Rights.getD n r0).Amount) : ∀ d, n + 1 + d ≤ c.Rights.length → leftR c f (n + 1 + d) = 0
  | 0, _ => by
    have := leftR_succ h (flow := f) hn
    rw [Nat.add_zero, this]
    unfold takeR at *
    omega
  | d + 1, hd => by
    have ih := none_left h hn hs d (by omega)
    have := leftR_succ h (flow := f) (i := n + 1 + d) (by omega)
    have ht := take_bd h (flow := f) (i := n + 1 + d) (by omega)
    have hl : 0 ≤ leftR c f (n + 1 + (d + 1)) := by unfold leftR; omega
    rw [show n + 1 + (d + 1) = n + 1 + d + 1 by omega] at *
    omega
theorem got_short {c : share_Compact} (h : COk c) {f s : Int} {n : Nat} (hn : n < c.Rights.length) (hs : takeR c f n < (c.Rights.getD n r0).Amount) : ∀ d, n + 1 + d ≤ c.Rights.length → gotF c f s (n + 1 + d) = gotF c f s (n + 1)
  | 0, _ => rfl
  | d + 1, hd => by
    have ih := got_short h (s := s) hn hs d (by omega)
    have hz := none_left h hn hs d (by omega)
    have he := h.el (n + 1 + d) (by omega)
    have ht : takeR c f (n + 1 + d) = 0 := by
      unfold takeR
      rw [hz]
      omega
    show gotF c f s (n + 1 + d + 1) = _
    rw [gotF, ih]
    unfold partR
    rw [ht, Int.zero_mul, Int.zero_ediv]
    cases ((c.Rights.getD (n + 1 + d) r0).State == s) <;> simp
/-- With more than enough nothing turns. -/
theorem got_rich {c : share_Compact} {f f' s : Int} (hf : f ≤ f') : ∀ i, (∀ k, k < i → ¬ takeR c f k < (c.Rights.getD k r0).Amount) → gotF c f' s i = gotF c f s i
  | 0, _ => rfl
  | i + 1, h => by
    rw [gotF, gotF, got_rich hf i (fun k hk => h k (by omega))]
    have h1 := h i (by omega)
    have h2 := take_mono (c := c) hf i
    have e : takeR c f' i = takeR c f i := by
      have a1 : takeR c f i ≤ (c.Rights.getD i r0).Amount := by unfold takeR; omega
      have a2 : takeR c f' i ≤ (c.Rights.getD i r0).Amount := by unfold takeR; omega
      omega
    unfold partR
    rw [e]
theorem got_first {c : share_Compact} (h : COk c) {f : Int} : ∀ i, 1 ≤ i → i ≤ c.Rights.length → partR c f 0 ≤ gotF c f (c.Rights.getD 0 r0).State i
  | i + 1, _, hi => by
    by_cases h0 : i = 0
    · subst h0
      rw [gotF, beq_self_eq_true, cond_true]
      show _ ≤ 0 + _
      omega
    · have ih := got_first h (f := f) i (by omega) (by omega)
      have hp := part_bd h (flow := f) (i := i) (by omega)
      rw [gotF]
      cases ((c.Rights.getD i r0).State == (c.Rights.getD 0 r0).State)
      · rw [cond_false]; omega
      · rw [cond_true]; omega
end Go.Nilo
