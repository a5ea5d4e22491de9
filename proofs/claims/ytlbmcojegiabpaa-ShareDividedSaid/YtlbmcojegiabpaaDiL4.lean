/-
  What the plain functions compute, in plain arithmetic, part 4. Conditions: what each theorem names.
-/
import Derived.Test.YtlbmcojegiabpaaDiL3
set_option linter.unusedSimpArgs false
set_option linter.unusedVariables false
namespace Go.Nilo
/-! ### Days in the order of quotients -/
theorem q_lt_le {a b c x y z : Int} (hc : 0 < c) (hb : 0 < b) (hx : 0 ≤ x) (hy : 0 ≤ y) (hz : 0 ≤ z) (h1 : b * x < a * y) (h2 : c * y ≤ b * z) : c * x < a * z := by
  have hbx : 0 ≤ b * x := Int.mul_nonneg (by omega) hx
  have hy0 : 0 < y := by
    rcases Int.lt_or_eq_of_le hy with h | h
    · exact h
    · subst h; rw [Int.mul_zero] at h1; omega
  have hcy : 0 < c * y := Int.mul_pos hc hy0
  have hz0 : 0 < z := by
    rcases Int.lt_or_eq_of_le hz with h | h
    · exact h
    · subst h; rw [Int.mul_zero] at h2; omega
  have e1 : c * y * x ≤ b * z * x := Int.mul_le_mul_of_nonneg_right h2 hx
  have e2 : b * x * z < a * y * z := Int.mul_lt_mul_of_pos_right h1 hz0
  have e3 : b * z * x = b * x * z := by rw [Int.mul_assoc, Int.mul_comm z x, ← Int.mul_assoc]
  have e4 : (c * x) * y < (a * z) * y := by
    have a1 : c * x * y = c * y * x := by rw [Int.mul_assoc, Int.mul_comm x y, ← Int.mul_assoc]
    have a2 : a * z * y = a * y * z := by rw [Int.mul_assoc, Int.mul_comm z y, ← Int.mul_assoc]
    omega
  exact Int.lt_of_mul_lt_mul_right e4 hy

structure Claims (k : Nat) (c : Nat → Int) (B : Nat → Int) : Prop where
  pos : ∀ s, s < k → 0 < c s
  b0 : ∀ n, 1 ≤ n → 0 ≤ B n
  up : ∀ n m, 1 ≤ n → n < m → B n < B m

def ahead (c B : Nat → Int) (s n t m : Nat) : Prop := c t * B n < c s * B m ∨ (c t * B n ≤ c s * B m ∧ s < t)
theorem ahead_not {c B : Nat → Int} {s n t m : Nat} (h : ahead c B s n t m) : ¬ ahead c B t m s n := by
  unfold ahead at *
  omega

theorem Claims.mono {k : Nat} {c B : Nat → Int} (h : Claims k c B) {n m : Nat} (h1 : 1 ≤ n) (h2 : n ≤ m) : B n ≤ B m := by
  rcases Nat.lt_or_eq_of_le h2 with h3 | h3
  · exact Int.le_of_lt (h.up n m h1 h3)
  · subst h3; exact Int.le_refl _
theorem Claims.mulmono {k : Nat} {c B : Nat → Int} (h : Claims k c B) {s n m : Nat} (hs : s < k) (h1 : 1 ≤ n) (h2 : n ≤ m) : c s * B n ≤ c s * B m :=
  Int.mul_le_mul_of_nonneg_left (h.mono h1 h2) (Int.le_of_lt (h.pos s hs))
theorem Claims.self {k : Nat} {c B : Nat → Int} (h : Claims k c B) {s n m : Nat} (hs : s < k) (h1 : 1 ≤ n) (h2 : n < m) : ahead c B s n s m :=
  .inl (Int.mul_lt_mul_of_pos_left (h.up n m h1 h2) (h.pos s hs))

/-- What is given so far is ahead of all that is not. -/
def Fair (k : Nat) (c B : Nat → Int) (o : Nat → Nat) : Prop := ∀ s t, s < k → t < k → 1 ≤ o s → ahead c B s (o s) t (o t + 1)
theorem Fair.all {k : Nat} {c B : Nat → Int} {o : Nat → Nat} (hc : Claims k c B) (h : Fair k c B o) {s t n m : Nat} (hs : s < k) (ht : t < k) (hn : 1 ≤ n) (hn' : n ≤ o s) (hm : o t < m) : ahead c B s n t m := by
  have h1 := h s t hs ht (by omega)
  have h2 := hc.mulmono (s := t) ht hn hn'
  have h3 := hc.mulmono (s := s) (n := o t + 1) (m := m) hs (by omega) (by omega)
  unfold ahead at *
  omega

def bump (o : Nat → Nat) (w : Nat) : Nat → Nat := fun s => if s = w then o s + 1 else o s
theorem Fair.bump {k : Nat} {c B : Nat → Int} {o : Nat → Nat} (hc : Claims k c B) (h : Fair k c B o) {w : Nat} (hw : w < k) (hbest : ∀ t, t < k → t ≠ w → ahead c B w (o w + 1) t (o t + 1)) : Fair k c B (bump o w) := by
  intro s t hs ht h1
  unfold Go.Nilo.bump at *
  by_cases hsw : s = w
  · subst hsw
    rw [if_pos rfl]
    by_cases htw : t = s
    · subst htw
      rw [if_pos rfl]
      exact hc.self hs (by omega) (by omega)
    · rw [if_neg htw]
      exact hbest t ht htw
  · rw [if_neg hsw] at h1 ⊢
    by_cases htw : t = w
    · subst htw
      rw [if_pos rfl]
      exact h.all hc hs ht h1 (Nat.le_refl _) (by omega)
    · rw [if_neg htw]
      exact h s t hs ht h1
theorem fair_zero (k : Nat) (c B : Nat → Int) : Fair k c B (fun _ => 0) := fun s t _ _ h => absurd h (by simp)

/-- The one who asks best. -/
theorem best_step {k : Nat} {c B : Nat → Int} {o : Nat → Nat} (hc : Claims k c B) {i w : Nat} (hi : i < k) (hw : w ≤ i) (hbest : ∀ t, t < i → t ≠ w → ahead c B w (o w + 1) t (o t + 1)) :
    (c w * B (o i + 1) < c i * B (o w + 1) → w < i → ∀ t, t < i + 1 → t ≠ i → ahead c B i (o i + 1) t (o t + 1)) ∧
    (¬ c w * B (o i + 1) < c i * B (o w + 1) → ∀ t, t < i + 1 → t ≠ w → ahead c B w (o w + 1) t (o t + 1)) := by
  refine ⟨fun h hwi t ht hti => ?_, fun h t ht htw => ?_⟩
  · by_cases htw : t = w
    · subst htw
      exact .inl h
    · have h1 := hbest t (by omega) htw
      have h2 : c t * B (o w + 1) ≤ c w * B (o t + 1) := by unfold ahead at h1; omega
      exact .inl (q_lt_le (hc.pos t (by omega)) (hc.pos w (by omega)) (hc.b0 _ (by omega)) (hc.b0 _ (by omega)) (hc.b0 _ (by omega)) h h2)
  · by_cases hti : t = i
    · subst hti
      exact .inr ⟨by omega, by omega⟩
    · exact hbest t (by omega) htw

/-! ### Counting -/
def count (p : Nat → Bool) : Nat → Nat
  | 0 => 0
  | n + 1 => count p n + (if p (n + 1) then 1 else 0)
theorem count_le {p : Nat → Bool} {a : Nat} : ∀ n, (∀ m, a < m → m ≤ n → p m = false) → count p n ≤ a
  | 0, _ => Nat.zero_le _
  | n + 1, h => by
    unfold count
    by_cases hn : a < n + 1
    · rw [h (n + 1) hn (Nat.le_refl _)]
      have := count_le n (fun m h1 h2 => h m h1 (by omega))
      simpa using this
    · have : count p n ≤ n := count_id n
      split <;> omega
where count_id {p : Nat → Bool} : ∀ n, count p n ≤ n
  | 0 => Nat.le_refl _
  | n + 1 => by
    unfold count
    have := count_id (p := p) n
    split <;> omega
theorem count_ge {p : Nat → Bool} {a : Nat} : ∀ n, a ≤ n → (∀ m, 1 ≤ m → m ≤ a → p m = true) → a ≤ count p n
  | 0, h, _ => by omega
  | n + 1, h, hp => by
    unfold count
    by_cases hn : a = n + 1
    · subst hn
      rw [if_pos (hp (n + 1) (by omega) (Nat.le_refl _))]
      have := count_ge (p := p) (a := n) n (Nat.le_refl _) (fun m h1 h2 => hp m h1 (by omega))
      omega
    · have := count_ge (p := p) (a := a) n (by omega) hp
      omega
theorem count_eq {p : Nat → Bool} {a n : Nat} (ha : a ≤ n) (h : ∀ m, 1 ≤ m → m ≤ n → p m = decide (m ≤ a)) : count p n = a := by
  have h1 : count p n ≤ a := count_le n (fun m h1 h2 => by rw [h m (by omega) h2]; simpa using h1)
  have h2 : a ≤ count p n := count_ge n ha (fun m h1 h2 => by rw [h m h1 (by omega)]; simpa using h2)
  omega

def sumN (f : Nat → Nat) : Nat → Nat
  | 0 => 0
  | n + 1 => sumN f n + f n
theorem sumN_le {f g : Nat → Nat} : ∀ k, (∀ s, s < k → f s ≤ g s) → sumN f k ≤ sumN g k
  | 0, _ => Nat.le_refl _
  | k + 1, h => Nat.add_le_add (sumN_le k (fun s hs => h s (by omega))) (h k (by omega))
theorem sumN_lt {f g : Nat → Nat} {s : Nat} : ∀ k, s < k → (∀ t, t < k → f t ≤ g t) → f s < g s → sumN f k < sumN g k
  | k + 1, hs, h, hlt => by
    unfold sumN
    have h1 := sumN_le k (fun t ht => h t (by omega))
    by_cases hk : s = k
    · subst hk; omega
    · have := sumN_lt k (by omega) (fun t ht => h t (by omega)) hlt
      have := h k (by omega)
      omega
theorem sumN_bump {o : Nat → Nat} {w : Nat} : ∀ k, sumN (bump o w) k = sumN o k + (if w < k then 1 else 0)
  | 0 => by simp [sumN]
  | k + 1 => by
    unfold sumN
    rw [sumN_bump k]
    unfold bump
    by_cases h1 : w < k
    · rw [if_pos h1, if_pos (show w < k + 1 by omega), if_neg (show ¬ k = w by omega)]; omega
    · by_cases h2 : k = w
      · subst h2; rw [if_neg h1, if_pos (show k < k + 1 by omega), if_pos rfl]; omega
      · rw [if_neg h1, if_neg (show ¬ w < k + 1 by omega), if_neg h2]; omega
theorem sumN_one {o : Nat → Nat} {s : Nat} : ∀ k, s < k → o s ≤ sumN o k
  | k + 1, h => by
    unfold sumN
    by_cases hk : s = k
    · subst hk; omega
    · have := sumN_one (o := o) (s := s) k (by omega)
      omega

/-- How many of all days are ahead of one tells whether it is given. -/
theorem rank_iff {k D : Nat} {c B : Nat → Int} {o : Nat → Nat} (hc : Claims k c B) (hf : Fair k c B o) (hD : sumN o k = D) {s n : Nat} (hs : s < k) (hn : 1 ≤ n) (P : Nat → Nat → Bool) (hP : ∀ t m, t < k → 1 ≤ m → m ≤ D → (P t m = true ↔ ahead c B t m s n)) :
    (sumN (fun t => count (P t) D) k < D ↔ n ≤ o s) := by
  have hle : ∀ t, t < k → o t ≤ D := fun t ht => by have := sumN_one (o := o) k ht; omega
  constructor
  · intro h
    rcases Nat.lt_or_ge (o s) n with hlt | hge
    · exfalso
      have : sumN o k ≤ sumN (fun t => count (P t) D) k := sumN_le k (fun t ht => count_ge D (hle t ht) (fun m h1 h2 => (hP t m ht h1 (by have := hle t ht; omega)).2 (hf.all hc ht hs h1 h2 hlt)))
      omega
    · exact hge
  · intro h
    have hno : ∀ t m, t < k → o t < m → m ≤ D → P t m = false := fun t m ht h1 h2 => by
      cases hp : P t m with
      | false => rfl
      | true => exact absurd ((hP t m ht (by omega) h2).1 hp) (ahead_not (hf.all hc hs ht hn h h1))
    have : sumN (fun t => count (P t) D) k < sumN o k := sumN_lt k hs (fun t ht => count_le D (fun m h1 h2 => hno t m ht h1 h2)) (by
      have hle1 : count (P s) D ≤ n - 1 := count_le D (fun m h1 h2 => by
        cases hp : P s m with
        | false => rfl
        | true =>
          have := (hP s m hs (by omega) h2).1 hp
          rcases Nat.lt_or_ge n m with h3 | h3
          · exact absurd this (ahead_not (hc.self hs hn h3))
          · have h4 : m = n := by omega
            subst h4
            unfold ahead at this
            omega)
      omega)
    omega
end Go.Nilo
