/-
  What the plain functions compute, in plain arithmetic, part 2. Conditions: what each theorem names.
-/
import Derived.Test.YtakhbnnlhoninabDcL1
set_option linter.unusedSimpArgs false
set_option linter.unusedVariables false
namespace Go.Nilo
def cst (w v x : Int) : Int := w * max (x - v) (v - x)
theorem cst_nonneg {w v x : Int} (h : 0 ≤ w) : 0 ≤ cst w v x := Int.mul_nonneg h (by omega)
theorem cst_zero {w v x : Int} (h : 1 ≤ w) (h0 : cst w v x = 0) : x = v := by
 unfold cst at h0
 rcases Int.mul_eq_zero.1 h0 with h1 | h1 <;> omega
theorem cst_self (w v : Int) : cst w v v = 0 := by unfold cst; rw [Int.sub_self,Int.max_self,Int.mul_zero]
def tot (v w x : Nat → Int) : Nat → Nat → Int
 | _,0 => 0
 | i,m + 1 => cst (w i) (v i) (x i) + tot v w x (i + 1) m
theorem tot_congr {v w x v' w' x' : Nat → Int} : ∀ (m i : Nat),(∀ j,i ≤ j → j < i + m → cst (w j) (v j) (x j) = cst (w' j) (v' j) (x' j)) → tot v w x i m = tot v' w' x' i m
 | 0,_,_ => rfl
 | m + 1,i,h => by
  show _ + _ = _ + _
  rw [h i (by omega) (by omega),tot_congr m (i + 1) fun j h1 h2 => h j (by omega) (by omega)]
theorem tot_le {v w x v' w' x' : Nat → Int} : ∀ (m i : Nat),(∀ j,i ≤ j → j < i + m → cst (w j) (v j) (x j) ≤ cst (w' j) (v' j) (x' j)) → tot v w x i m ≤ tot v' w' x' i m
 | 0,_,_ => Int.le_refl _
 | m + 1,i,h => by
  show _ + _ ≤ _ + _
  have h1 := h i (by omega) (by omega)
  have h2 := tot_le m (i + 1) fun j h1 h2 => h j (by omega) (by omega)
  omega
theorem tot_nonneg {v w x : Nat → Int} : ∀ (m i : Nat),(∀ j,i ≤ j → j < i + m → 0 ≤ w j) → 0 ≤ tot v w x i m
 | 0,_,_ => Int.le_refl _
 | m + 1,i,h => by
  show 0 ≤ _ + _
  have h1 := cst_nonneg (v := v i) (x := x i) (h i (by omega) (by omega))
  have h2 := tot_nonneg (v := v) (x := x) m (i + 1) fun j h1 h2 => h j (by omega) (by omega)
  omega
theorem tot_zero {v w x : Nat → Int} : ∀ (m i : Nat),(∀ j,i ≤ j → j < i + m → 1 ≤ w j) → tot v w x i m = 0 → ∀ j,i ≤ j → j < i + m → x j = v j
 | 0,_,_,_ => fun j _ _ => by omega
 | m + 1,i,h,h0 => fun j h1 h2 => by
  have h0 : cst (w i) (v i) (x i) + tot v w x (i + 1) m = 0 := h0
  have k1 := cst_nonneg (v := v i) (x := x i) (w := w i) (by have := h i (by omega) (by omega); omega)
  have k2 := tot_nonneg (v := v) (x := x) (w := w) m (i + 1) fun j h1 h2 => by have := h j (by omega) (by omega); omega
  by_cases e : j = i
  ·subst e; exact cst_zero (h j (by omega) (by omega)) (by omega)
  ·exact tot_zero m (i + 1) (fun j h1 h2 => h j (by omega) (by omega)) (by omega) j (by omega) (by omega)
theorem tot_snoc {v w x : Nat → Int} : ∀ (m i : Nat),tot v w x i (m + 1) = tot v w x i m + cst (w (i + m)) (v (i + m)) (x (i + m))
 | 0,i => by show cst _ _ _ + 0 = 0 + _; rw [Nat.add_zero]; omega
 | m + 1,i => by
  show cst _ _ _ + tot v w x (i + 1) (m + 1) = cst _ _ _ + tot v w x (i + 1) m + _
  rw [tot_snoc m (i + 1),show i + 1 + m = i + (m + 1) by omega]; omega
theorem tot_split {v w x : Nat → Int} : ∀ (a i b : Nat),tot v w x i (a + b) = tot v w x i a + tot v w x (i + a) b
 | 0,i,b => by show tot v w x i (0 + b) = 0 + tot v w x (i + 0) b; rw [Nat.zero_add,Nat.add_zero]; omega
 | a + 1,i,b => by
  rw [show a + 1 + b = (a + b) + 1 by omega]
  show cst _ _ _ + tot v w x (i + 1) (a + b) = cst _ _ _ + tot v w x (i + 1) a + _
  rw [tot_split a (i + 1) b,show i + 1 + a = i + (a + 1) by omega]; omega
theorem tot_shift {v w x v' w' x' : Nat → Int} : ∀ (m i k : Nat),(∀ j,j < m → cst (w (i + j)) (v (i + j)) (x (i + j)) = cst (w' (k + j)) (v' (k + j)) (x' (k + j))) → tot v w x i m = tot v' w' x' k m
 | 0,_,_,_ => rfl
 | m + 1,i,k,h => by
  show _ + _ = _ + _
  have := h 0 (by omega)
  rw [Nat.add_zero,Nat.add_zero] at this
  rw [this,tot_shift m (i + 1) (k + 1) fun j hj => by rw [show i + 1 + j = i + (j + 1) by omega,show k + 1 + j = k + (j + 1) by omega]; exact h (j + 1) (by omega)]
theorem tot_rev {v w x v' w' x' : Nat → Int} : ∀ (m i k : Nat),(∀ j,j < m → cst (w (i + j)) (v (i + j)) (x (i + j)) = cst (w' (k + (m - 1 - j))) (v' (k + (m - 1 - j))) (x' (k + (m - 1 - j)))) → tot v w x i m = tot v' w' x' k m
 | 0,_,_,_ => rfl
 | m + 1,i,k,h => by
  rw [tot_snoc m k]
  show cst _ _ _ + tot v w x (i + 1) m = _
  have h0 := h 0 (by omega)
  rw [Nat.add_zero,show k + (m + 1 - 1 - 0) = k + m by omega] at h0
  rw [h0,tot_rev m (i + 1) k fun j hj => by
   have := h (j + 1) (by omega)
   rw [show i + (j + 1) = i + 1 + j by omega,show k + (m + 1 - 1 - (j + 1)) = k + (m - 1 - j) by omega] at this
   exact this]
  omega
structure DPT (n m : Nat) (v w u : Nat → Int) (L : Nat → Nat → Int) (N : Nat → Nat → Nat) : Prop where
 z : ∀ k,k < m → L n k = 0
 e : ∀ i,i < n → ∀ k,k < m → (N i k = k ∧ L i k = cst (w i) (v i) (u k) + L (i + 1) k ∧ (k + 1 = m ∨ cst (w i) (v i) (u k) + L (i + 1) k ≤ L i (k + 1))) ∨ (k + 1 < m ∧ N i k = N i (k + 1) ∧ L i k = L i (k + 1) ∧ L i (k + 1) < cst (w i) (v i) (u k) + L (i + 1) k)
theorem DPT.up {n m : Nat} {v w u : Nat → Int} {L : Nat → Nat → Int} {N : Nat → Nat → Nat} (h : DPT n m v w u L N) {i : Nat} (hi : i ≤ n) : ∀ (d k : Nat),k + d < m → L i k ≤ L i (k + d)
 | 0,_,_ => Int.le_refl _
 | d + 1,k,hk => by
  have h1 := h.up hi d (k + 1) (by omega)
  rw [show k + 1 + d = k + (d + 1) by omega] at h1
  by_cases e : i = n
  ·subst e; rw [h.z k (by omega),h.z _ hk]; exact Int.le_refl _
  ·rcases h.e i (by omega) k (by omega) with ⟨_,h2,h3⟩ | ⟨_,_,h2,_⟩ <;> omega
theorem DPT.own {n m : Nat} {v w u : Nat → Int} {L : Nat → Nat → Int} {N : Nat → Nat → Nat} (h : DPT n m v w u L N) {i k : Nat} (hi : i < n) (hk : k < m) : L i k ≤ cst (w i) (v i) (u k) + L (i + 1) k := by
 rcases h.e i hi k hk with ⟨_,h2,_⟩ | ⟨_,_,h2,h3⟩ <;> omega
theorem DPT.low {n m : Nat} {v w u : Nat → Int} {L : Nat → Nat → Int} {N : Nat → Nat → Nat} (h : DPT n m v w u L N) {κ : Nat → Nat} (hm : ∀ i,i < n → κ i < m) (hu : ∀ i,i + 1 < n → κ i ≤ κ (i + 1)) : ∀ (d i : Nat),i + d = n → ∀ k,k < m → (i < n → k ≤ κ i) → L i k ≤ tot v w (fun j => u (κ j)) i d
 | 0,i,hi,k,hk,_ => by
  obtain rfl : i = n := by omega
  rw [h.z k hk]; exact Int.le_refl _
 | d + 1,i,hi,k,hk,hle => by
  show _ ≤ cst _ _ (u (κ i)) + _
  have hin : i < n := by omega
  have h0 := hle hin
  have h1 := h.up (i := i) (by omega) (κ i - k) k (by have := hm i hin; omega)
  rw [show k + (κ i - k) = κ i by omega] at h1
  have h2 := h.own hin (hm i hin)
  have h3 := h.low hm hu d (i + 1) (by omega) (κ i) (hm i hin) (fun h4 => hu i h4)
  omega
theorem DPT.pick {n m : Nat} {v w u : Nat → Int} {L : Nat → Nat → Int} {N : Nat → Nat → Nat} (h : DPT n m v w u L N) {i : Nat} (hi : i < n) : ∀ (d k : Nat),k + d + 1 = m → k ≤ N i k ∧ N i k < m ∧ L i k = cst (w i) (v i) (u (N i k)) + L (i + 1) (N i k)
 | 0,k,hk => by
  rcases h.e i hi k (by omega) with ⟨h1,h2,h3⟩ | ⟨h1,_⟩
  ·rw [h1]; exact ⟨Nat.le_refl _,by omega,h2⟩
  ·omega
 | d + 1,k,hk => by
  rcases h.e i hi k (by omega) with ⟨h1,h2,h3⟩ | ⟨h1,h2,h3,_⟩
  ·rw [h1]; exact ⟨Nat.le_refl _,by omega,h2⟩
  ·obtain ⟨g1,g2,g3⟩ := h.pick hi d (k + 1) (by omega)
   rw [h2,h3]
   exact ⟨by omega,g2,g3⟩
theorem cst_between {w v u lo hi : Int} (hv : v ≤ lo ∨ hi ≤ v) (h1 : lo ≤ u) (h2 : u ≤ hi) : (hi - u) * cst w v lo + (u - lo) * cst w v hi = (hi - lo) * cst w v u := by
 unfold cst
 rcases hv with hv | hv
 ·rw [show max (lo - v) (v - lo) = lo - v by omega,show max (hi - v) (v - hi) = hi - v by omega,show max (u - v) (v - u) = u - v by omega]
  grind
 ·rw [show max (lo - v) (v - lo) = v - lo by omega,show max (hi - v) (v - hi) = v - hi by omega,show max (u - v) (v - u) = v - u by omega]
  grind
def mv (u t : Int) (x : Nat → Int) : Nat → Int := fun j => if x j = u then t else x j
theorem tot_between {v w x : Nat → Int} {u lo hi : Int} (h1 : lo ≤ u) (h2 : u ≤ hi) : ∀ (m i : Nat),(∀ j,i ≤ j → j < i + m → v j ≤ lo ∨ hi ≤ v j) → (hi - u) * tot v w (mv u lo x) i m + (u - lo) * tot v w (mv u hi x) i m = (hi - lo) * tot v w x i m
 | 0,_,_ => by show (hi - u) * 0 + (u - lo) * 0 = (hi - lo) * 0; omega
 | m + 1,i,h => by
  have ih := tot_between (x := x) (w := w) h1 h2 m (i + 1) fun j h3 h4 => h j (by omega) (by omega)
  show (hi - u) * (cst _ _ (mv u lo x i) + _) + (u - lo) * (cst _ _ (mv u hi x i) + _) = (hi - lo) * (cst _ _ _ + _)
  have hc : (hi - u) * cst (w i) (v i) (mv u lo x i) + (u - lo) * cst (w i) (v i) (mv u hi x i) = (hi - lo) * cst (w i) (v i) (x i) := by
   unfold mv
   by_cases e : x i = u
   ·rw [if_pos e,if_pos e,e]; exact cst_between (h i (by omega) (by omega)) h1 h2
   ·rw [if_neg e,if_neg e,← Int.add_mul]; congr 1; omega
  rw [Int.mul_add,Int.mul_add,Int.mul_add]
  omega
theorem mv_or {v w x : Nat → Int} {u lo hi : Int} (h1 : lo < u) (h2 : u < hi) {m i : Nat} (h : ∀ j,i ≤ j → j < i + m → v j ≤ lo ∨ hi ≤ v j) : tot v w (mv u lo x) i m ≤ tot v w x i m ∨ tot v w (mv u hi x) i m ≤ tot v w x i m := by
 have hb := tot_between (x := x) (w := w) (Int.le_of_lt h1) (Int.le_of_lt h2) m i h
 rcases Int.lt_or_le (tot v w x i m) (tot v w (mv u lo x) i m) with h3 | h3
 ·rcases Int.lt_or_le (tot v w x i m) (tot v w (mv u hi x) i m) with h4 | h4
  ·exfalso
   have a := Int.mul_lt_mul_of_pos_left h3 (show 0 < hi - u by omega)
   have b := Int.mul_lt_mul_of_pos_left h4 (show 0 < u - lo by omega)
   have c : (hi - u) * tot v w x i m + (u - lo) * tot v w x i m = (hi - lo) * tot v w x i m := by rw [← Int.add_mul]; congr 1; omega
   omega
  ·exact .inr h4
 ·exact .inl h3
theorem mv_up {v w x : Nat → Int} {u hi : Int} (hw : ∀ j,0 ≤ w j) (h2 : u ≤ hi) {m i : Nat} (h : ∀ j,i ≤ j → j < i + m → hi ≤ v j) : tot v w (mv u hi x) i m ≤ tot v w x i m :=
 tot_le m i fun j h3 h4 => by
  unfold mv
  split
  ·rename_i e
   unfold cst
   exact Int.mul_le_mul_of_nonneg_left (by have := h j h3 h4; omega) (hw j)
  ·exact Int.le_refl _
theorem mv_dn {v w x : Nat → Int} {u lo : Int} (hw : ∀ j,0 ≤ w j) (h2 : lo ≤ u) {m i : Nat} (h : ∀ j,i ≤ j → j < i + m → v j ≤ lo) : tot v w (mv u lo x) i m ≤ tot v w x i m :=
 tot_le m i fun j h3 h4 => by
  unfold mv
  split
  ·rename_i e
   unfold cst
   exact Int.mul_le_mul_of_nonneg_left (by have := h j h3 h4; omega) (hw j)
  ·exact Int.le_refl _
end Go.Nilo
