/-
  What the plain functions compute, in plain arithmetic, part 2. Conditions: what each theorem names.
-/
import Derived.Test.YtfacdlbpakdcfaaDkL1
set_option linter.unusedSimpArgs false
set_option linter.unusedVariables false
namespace Go.Nilo
def cst (w v x : Int) : Int := w * max (x - v) (v - x)
theorem cst_nonneg {w v x : Int} (h : 0 ≤ w) : 0 ≤ cst w v x := Int.mul_nonneg h (by omega)
def tot (v w x : Nat → Int) : Nat → Nat → Int
 | _,0 => 0
 | i,m + 1 => cst (w i) (v i) (x i) + tot v w x (i + 1) m
theorem tot_congr {v w x v' w' x' : Nat → Int} : ∀ (m i : Nat),(∀ j,i ≤ j → j < i + m → cst (w j) (v j) (x j) = cst (w' j) (v' j) (x' j)) → tot v w x i m = tot v' w' x' i m
 | 0,_,_ => rfl
 | m + 1,i,h => by
  show _ + _ = _ + _
  rw [h i (by omega) (by omega),tot_congr m (i + 1) fun j h1 h2 => h j (by omega) (by omega)]
theorem tot_nonneg {v w x : Nat → Int} : ∀ (m i : Nat),(∀ j,i ≤ j → j < i + m → 0 ≤ w j) → 0 ≤ tot v w x i m
 | 0,_,_ => Int.le_refl _
 | m + 1,i,h => by
  show 0 ≤ _ + _
  have h1 := cst_nonneg (v := v i) (x := x i) (h i (by omega) (by omega))
  have h2 := tot_nonneg (v := v) (x := x) m (i + 1) fun j h1 h2 => h j (by omega) (by omega)
  omega
theorem tot_snoc {v w x : Nat → Int} : ∀ (m i : Nat),tot v w x i (m + 1) = tot v w x i m + cst (w (i + m)) (v (i + m)) (x (i + m))
 | 0,i => by show cst _ _ _ + 0 = 0 + _; rw [Nat.add_zero]; omega
 | m + 1,i => by
  show cst _ _ _ + tot v w x (i + 1) (m + 1) = cst _ _ _ + tot v w x (i + 1) m + _
  rw [tot_snoc m (i + 1),show i + 1 + m = i + (m + 1) by omega]; omega
structure DPT (n m : Nat) (v w u : Nat → Int) (L : Nat → Nat → Int) (N : Nat → Nat → Nat) : Prop where
 z : ∀ k,k < m → L n k = 0
 e : ∀ i,i < n → ∀ k,k < m → (N i k = k ∧ L i k = cst (w i) (v i) (u k) + L (i + 1) k ∧ (k + 1 = m ∨ cst (w i) (v i) (u k) + L (i + 1) k ≤ L i (k + 1))) ∨ (k + 1 < m ∧ N i k = N i (k + 1) ∧ L i k = L i (k + 1) ∧ L i (k + 1) < cst (w i) (v i) (u k) + L (i + 1) k)
theorem DPT.up {n m : Nat} {v w u : Nat → Int} {L : Nat → Nat → Int} {N : Nat → Nat → Nat} (h : DPT n m v w u L N) {i : Nat} (hi : i ≤ n) : ∀ (d k : Nat),k + d < m → L i k ≤ L i (k + d)
 | 0,_,_ => Int.le_refl _
 | d + 1,k,hk => by
  have h1 := h.up hi d (k + 1) (by omega)
  rw [show k + 1 + d = k + (d + 1) by omega] at h1
  by_cases e : i = n
  ·subst e; rw [h.z k (by omega),h.z _ hk]; exact Int.le_refl _
  ·rcases h.e i (by omega) k (by omega) with ⟨_,h2,h3⟩ | ⟨_,_,h2,_⟩ <;> omega
theorem DPT.own {n m : Nat} {v w u : Nat → Int} {L : Nat → Nat → Int} {N : Nat → Nat → Nat} (h : DPT n m v w u L N) {i k : Nat} (hi : i < n) (hk : k < m) : L i k ≤ cst (w i) (v i) (u k) + L (i + 1) k := by
 rcases h.e i hi k hk with ⟨_,h2,_⟩ | ⟨_,_,h2,h3⟩ <;> omega
theorem DPT.low {n m : Nat} {v w u : Nat → Int} {L : Nat → Nat → Int} {N : Nat → Nat → Nat} (h : DPT n m v w u L N) {κ : Nat → Nat} (hm : ∀ i,i < n → κ i < m) (hu : ∀ i,i + 1 < n → κ i ≤ κ (i + 1)) : ∀ (d i : Nat),i + d = n → ∀ k,k < m → (i < n → k ≤ κ i) → L i k ≤ tot v w (fun j => u (κ j)) i d
 | 0,i,hi,k,hk,_ => by
  obtain rfl : i = n := by omega
  rw [h.z k hk]; exact Int.le_refl _
 | d + 1,i,hi,k,hk,hle => by
  show _ ≤ cst _ _ (u (κ i)) + _
  have hin : i < n := by omega
  have h0 := hle hin
  have h1 := h.up (i := i) (by omega) (κ i - k) k (by have := hm i hin; omega)
  rw [show k + (κ i - k) = κ i by omega] at h1
  have h2 := h.own hin (hm i hin)
  have h3 := h.low hm hu d (i + 1) (by omega) (κ i) (hm i hin) (fun h4 => hu i h4)
  omega
theorem DPT.pick {n m : Nat} {v w u : Nat → Int} {L : Nat → Nat → Int} {N : Nat → Nat → Nat} (h : DPT n m v w u L N) {i : Nat} (hi : i < n) : ∀ (d k : Nat),k + d + 1 = m → k ≤ N i k ∧ N i k < m ∧ L i k = cst (w i) (v i) (u (N i k)) + L (i + 1) (N i k)
 | 0,k,hk => by
  rcases h.e i hi k (by omega) with ⟨h1,h2,h3⟩ | ⟨h1,_⟩
  ·rw [h1]; exact ⟨Nat.le_refl _,by omega,h2⟩
  ·omega
 | d + 1,k,hk => by
  rcases h.e i hi k (by omega) with ⟨h1,h2,h3⟩ | ⟨h1,h2,h3,_⟩
  ·rw [h1]; exact ⟨Nat.le_refl _,by omega,h2⟩
  ·obtain ⟨g1,g2,g3⟩ := h.pick hi d (k + 1) (by omega)
   rw [h2,h3]
   exact ⟨by omega,g2,g3⟩
end Go.Nilo
