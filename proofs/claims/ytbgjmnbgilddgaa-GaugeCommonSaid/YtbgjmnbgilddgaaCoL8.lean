/-
  What the plain functions compute, in plain arithmetic, part 8. Conditions: what each theorem names.
-/
import Derived.Test.YtbgjmnbgilddgaaCoL7
set_option linter.unusedSimpArgs false
set_option linter.unusedVariables false
namespace Go.Nilo
theorem lt_dec {i n : Nat} (h : i < n) : decide ((i : Int) < (n : Int)) = true := by simp; omega
theorem ge_dec {n : Nat} : decide ((n : Int) < (n : Int)) = false := by simp

/-! ### Loops whose states are known -/
def firstG {ρ : Type} (g : Nat → Option ρ) : Nat → Nat → Option ρ
  | _, 0 => none
  | i, m + 1 => match g i with
    | some r => some r
    | none => firstG g (i + 1) m
theorem scanS {σ ρ : Type} (st : Nat → σ) (g : Nat → Option ρ) (n : Nat) (b : σ → Option (Step σ ρ))
    (hb : ∀ (i : Nat), i < n → b (st i) = some (match g i with | some r => .ret r | none => .cont (st (i + 1)))) (hend : b (st n) = some (.brk (st n))) :
    ∀ (m i N : Nat), i + m = n → m < N → loopO b N (st i) = some (match firstG g i m with | some r => .out r | none => .go (st n))
  | m, i, 0, _, h => by omega
  | 0, i, N + 1, hi, _ => by
    obtain rfl : i = n := by omega
    unfold loopO
    rw [hend]
    rfl
  | m + 1, i, N + 1, hi, hN => by
    unfold loopO firstG
    rw [hb i (by omega)]
    cases hf : g i with
    | some r => rfl
    | none => exact scanS st g n b hb hend m (i + 1) N (by omega) (by omega)
theorem runS {σ ρ : Type} (st : Nat → σ) (n : Nat) (b : σ → Option (Step σ ρ)) (hb : ∀ (i : Nat), i < n → b (st i) = some (.cont (st (i + 1)))) (hend : b (st n) = some (.brk (st n))) {N : Nat} (hN : n < N) : loopO b N (st 0) = some (.go (st n)) := by
  have hno : ∀ (m i : Nat), firstG (fun _ => (none : Option ρ)) i m = none := by
    intro m
    induction m with
    | zero => intro i; rfl
    | succ m ih => intro i; exact ih (i + 1)
  have := scanS st (fun _ => (none : Option ρ)) n b (fun i h => hb i h) hend n 0 N (by omega) hN
  rw [this, hno]

theorem scanE {σ ρ : Type} (st : Nat → σ) (g : Nat → Option (σ ⊕ ρ)) (n : Nat) (b : σ → Option (Step σ ρ))
    (hb : ∀ (i : Nat), i < n → b (st i) = some (match g i with | some (.inl s') => .brk s' | some (.inr r) => .ret r | none => .cont (st (i + 1)))) (hend : b (st n) = some (.brk (st n))) :
    ∀ (m i N : Nat), i + m = n → m < N → loopO b N (st i) = some (match firstG g i m with | some (.inl s') => .go s' | some (.inr r) => .out r | none => .go (st n))
  | m, i, 0, _, h => by omega
  | 0, i, N + 1, hi, _ => by
    obtain rfl : i = n := by omega
    unfold loopO
    rw [hend]
    rfl
  | m + 1, i, N + 1, hi, hN => by
    unfold loopO firstG
    rw [hb i (by omega)]
    cases hf : g i with
    | some r =>
      cases r with
      | inl s' => rfl
      | inr r => rfl
    | none => exact scanE st g n b hb hend m (i + 1) N (by omega) (by omega)
theorem firstG_map {α β : Type} {g : Nat → Option α} (f : α → β) : ∀ n i, firstG (fun j => (g j).map f) i n = (firstG g i n).map f
  | 0, i => rfl
  | n + 1, i => by
    unfold firstG
    cases g i with
    | some r => rfl
    | none => exact firstG_map f n (i + 1)
theorem firstG_congr {ρ : Type} {g g' : Nat → Option ρ} : ∀ (n i : Nat), (∀ j, i ≤ j → j < i + n → g j = g' j) → firstG g i n = firstG g' i n
  | 0, _, _ => rfl
  | n + 1, i, h => by
    unfold firstG
    rw [h i (Nat.le_refl _) (by omega), firstG_congr n (i + 1) (fun j h1 h2 => h j (by omega) (by omega))]

theorem firstG_some {ρ : Type} {g : Nat → Option ρ} {r : ρ} {k : Nat} : ∀ (n i : Nat), i ≤ k → k < i + n → g k = some r → (∀ j, i ≤ j → j < k → g j = none) → firstG g i n = some r
  | 0, i, _, _, _, _ => by omega
  | n + 1, i, h1, h2, hk, hn => by
    unfold firstG
    by_cases hik : i = k
    · subst hik; rw [hk]
    · rw [hn i (Nat.le_refl _) (by omega)]
      exact firstG_some n (i + 1) (by omega) (by omega) hk (fun j h h' => hn j (by omega) h')
theorem firstG_none {ρ : Type} {g : Nat → Option ρ} : ∀ (n i : Nat), (∀ j, i ≤ j → j < i + n → g j = none) → firstG g i n = none
  | 0, _, _ => rfl
  | n + 1, i, h => by
    unfold firstG
    rw [h i (Nat.le_refl _) (by omega)]
    exact firstG_none n (i + 1) (fun j h1 h2 => h j (by omega) (by omega))
end Go.Nilo
