/-
  What the plain functions compute, in plain arithmetic, part 6. Conditions: what each theorem names.
-/
import Derived.Test.YtlbmcojegiabpaaDiL5
set_option linter.unusedSimpArgs false
set_option linter.unusedVariables false
namespace Go.Nilo
/-! ### Shares in the order of quotients: what more days, a greater claim, and a factor do -/
theorem sumN_ex {f g : Nat → Nat} {k s : Nat} (hs : s < k) (h : sumN f k ≤ sumN g k) (hlt : g s < f s) : ∃ t, t < k ∧ f t < g t := by
  refine Classical.byContradiction fun hno => ?_
  have : sumN g k < sumN f k := sumN_lt k hs (fun t ht => by
    rcases Nat.lt_or_ge (f t) (g t) with h1 | h1
    · exact absurd ⟨t, ht, h1⟩ hno
    · exact h1) hlt
  omega
theorem fair_mono {k : Nat} {c B : Nat → Int} (hc : Claims k c B) {o p : Nat → Nat} (ho : Fair k c B o) (hp : Fair k c B p) (hs : sumN o k ≤ sumN p k) : ∀ s, s < k → o s ≤ p s := by
  intro s hsk
  rcases Nat.lt_or_ge (p s) (o s) with hlt | hge
  · exfalso
    obtain ⟨t, ht, htt⟩ := sumN_ex hsk hs hlt
    have h1 := ho.all hc (s := s) (t := t) (n := o s) (m := o t + 1) hsk ht (by omega) (Nat.le_refl _) (by omega)
    have h2 := hp.all hc (s := t) (t := s) (n := o t + 1) (m := o s) ht hsk (by omega) (by omega) (by omega)
    exact ahead_not h1 h2
  · exact hge
theorem fair_uniq {k : Nat} {c B : Nat → Int} (hc : Claims k c B) {o p : Nat → Nat} (ho : Fair k c B o) (hp : Fair k c B p) (hs : sumN o k = sumN p k) : ∀ s, s < k → o s = p s := fun s h =>
  Nat.le_antisymm (fair_mono hc ho hp (by omega) s h) (fair_mono hc hp ho (by omega) s h)
theorem fair_greater {k : Nat} {c d B : Nat → Int} (hc : Claims k c B) (hd : Claims k d B) {i : Nat} (hi : c i ≤ d i) (hne : ∀ s, s ≠ i → d s = c s) {o p : Nat → Nat} (ho : Fair k c B o) (hp : Fair k d B p) (hs : sumN o k = sumN p k) : ∀ s, s < k → s ≠ i → p s ≤ o s := by
  intro s hsk hsi
  rcases Nat.lt_or_ge (o s) (p s) with hlt | hge
  · exfalso
    obtain ⟨t, ht, htt⟩ := sumN_ex (f := p) (g := o) hsk (by omega) hlt
    have h1 := hp.all hd (s := s) (t := t) (n := o s + 1) (m := o t) hsk ht (by omega) (by omega) (by omega)
    have h2 := ho.all hc (s := t) (t := s) (n := o t) (m := o s + 1) ht hsk (by omega) (by omega) (by omega)
    by_cases hti : t = i
    · subst hti
      have hm : c t * B (o s + 1) ≤ d t * B (o s + 1) := Int.mul_le_mul_of_nonneg_right hi (hc.b0 _ (by omega))
      unfold ahead at h1 h2
      rw [hne s hsi] at h1
      omega
    · unfold ahead at h1 h2
      rw [hne s hsi, hne t hti] at h1
      omega
  · exact hge
theorem sum_le_one {f g : Nat → Nat} {k i : Nat} (hi : i < k) (hs : sumN f k = sumN g k) (h : ∀ s, s < k → s ≠ i → g s ≤ f s) : f i ≤ g i := by
  rcases Nat.lt_or_ge (g i) (f i) with hlt | hge
  · exfalso
    obtain ⟨t, ht, htt⟩ := sumN_ex (f := f) (g := g) hi (by omega) hlt
    by_cases hti : t = i
    · subst hti; omega
    · have := h t ht hti; omega
  · exact hge
theorem fair_scale {k : Nat} {c d B : Nat → Int} {m : Int} (hm : 0 < m) (h : ∀ s, s < k → d s = c s * m) {o : Nat → Nat} (hd : Fair k d B o) : Fair k c B o := by
  intro s t hs ht h1
  have := hd s t hs ht h1
  unfold ahead at *
  rw [h s hs, h t ht] at this
  have e : ∀ a b : Int, a * m * b = a * b * m := fun a b => by rw [Int.mul_assoc, Int.mul_comm m b, ← Int.mul_assoc]
  rw [e, e] at this
  rcases this with h2 | ⟨h2, h3⟩
  · exact .inl (Int.lt_of_mul_lt_mul_right h2 (by omega))
  · exact .inr ⟨Int.le_of_mul_le_mul_right h2 hm, h3⟩

/-! ### Parts -/
def sumZ (f : Nat → Int) : Nat → Int
  | 0 => 0
  | n + 1 => sumZ f n + f n
theorem sumZ_le {f g : Nat → Int} : ∀ k, (∀ s, s < k → f s ≤ g s) → sumZ f k ≤ sumZ g k
  | 0, _ => Int.le_refl _
  | k + 1, h => Int.add_le_add (sumZ_le k (fun s hs => h s (by omega))) (h k (by omega))
theorem sumZ_lt {f g : Nat → Int} {s : Nat} : ∀ k, s < k → (∀ t, t < k → f t ≤ g t) → f s < g s → sumZ f k < sumZ g k
  | k + 1, hs, h, hlt => by
    unfold sumZ
    have h1 := sumZ_le k (fun t ht => h t (by omega))
    by_cases hk : s = k
    · subst hk; omega
    · have := sumZ_lt k (by omega) (fun t ht => h t (by omega)) hlt
      have := h k (by omega)
      omega
theorem sumZ_mul {f : Nat → Int} {a : Int} : ∀ k, sumZ (fun s => a * f s) k = a * sumZ f k
  | 0 => by simp [sumZ]
  | k + 1 => by
    unfold sumZ
    rw [sumZ_mul k, Int.mul_add]
theorem sumZ_nat {f : Nat → Nat} : ∀ k, sumZ (fun s => ((f s : Nat) : Int)) k = ((sumN f k : Nat) : Int)
  | 0 => rfl
  | k + 1 => by
    unfold sumZ sumN
    rw [sumZ_nat k]
    omega
/-- By Down no one has less than the part, rounded down. -/
theorem down_part {k : Nat} {c : Nat → Int} {o : Nat → Nat} (hc : Claims k c (bN 0)) (ho : Fair k c (bN 0) o) {s : Nat} (hs : s < k) : c s * ((sumN o k : Nat) : Int) < sumZ c k * ((o s : Nat) + 1 : Int) := by
  rw [← sumZ_nat, ← sumZ_mul, Int.mul_comm, ← sumZ_mul]
  refine sumZ_lt (s := s) k hs (fun t ht => ?_) ?_
  · by_cases h0 : o t = 0
    · rw [h0]
      have : 0 ≤ ((o s : Nat) + 1 : Int) * c t := Int.mul_nonneg (by omega) (Int.le_of_lt (hc.pos t ht))
      simpa using this
    · have := ho t s ht hs (by omega)
      have e1 : bN 0 (o t) = 2 * ((o t : Nat) : Int) := rfl
      have e2 : bN 0 (o s + 1) = 2 * ((o s : Nat) + 1 : Int) := rfl
      unfold ahead at this
      rw [e1, e2] at this
      have e3 : c s * (2 * ((o t : Nat) : Int)) = 2 * (c s * ((o t : Nat) : Int)) := by ac_rfl
      have e4 : c t * (2 * ((o s : Nat) + 1 : Int)) = 2 * (((o s : Nat) + 1 : Int) * c t) := by ac_rfl
      rw [e3, e4] at this
      omega
  · have h1 := hc.pos s hs
    rw [Int.add_mul, Int.mul_comm (c s)]
    omega
/-- By Up no one has more than the part, rounded up. -/
theorem up_part {k : Nat} {c : Nat → Int} {o : Nat → Nat} (hc : Claims k c (bN 2)) (ho : Fair k c (bN 2) o) {s : Nat} (hs : s < k) (h1 : 1 ≤ o s) : sumZ c k * ((o s : Nat) - 1 : Int) < c s * ((sumN o k : Nat) : Int) := by
  rw [← sumZ_nat, ← sumZ_mul, Int.mul_comm, ← sumZ_mul]
  refine sumZ_lt (s := s) k hs (fun t ht => ?_) ?_
  · have := ho s t hs ht h1
    have e1 : bN 2 (o s) = 2 * ((o s : Nat) : Int) - 2 := rfl
    have e2 : bN 2 (o t + 1) = 2 * ((o t : Nat) + 1 : Int) - 2 := rfl
    unfold ahead at this
    rw [e1, e2] at this
    have e3 : c t * (2 * ((o s : Nat) : Int) - 2) = 2 * (((o s : Nat) - 1 : Int) * c t) := by
      rw [show (2 * ((o s : Nat) : Int) - 2) = 2 * ((o s : Nat) - 1 : Int) by omega]; ac_rfl
    have e4 : c s * (2 * ((o t : Nat) + 1 : Int) - 2) = 2 * (c s * ((o t : Nat) : Int)) := by
      rw [show (2 * ((o t : Nat) + 1 : Int) - 2) = 2 * ((o t : Nat) : Int) by omega]; ac_rfl
    rw [e3, e4] at this
    omega
  · have h2 := hc.pos s hs
    rw [Int.sub_mul, Int.mul_comm (c s)]
    omega
end Go.Nilo
