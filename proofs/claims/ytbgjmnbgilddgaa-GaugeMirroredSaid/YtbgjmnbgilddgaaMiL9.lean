/-
  What the plain functions compute, in plain arithmetic, part 9. Conditions: what each theorem names.
-/
import Derived.Test.YtbgjmnbgilddgaaMiL8
set_option linter.unusedSimpArgs false
set_option linter.unusedVariables false
namespace Go.Nilo
theorem lt_dec {i n : Nat} (h : i < n) : decide ((i : Int) < (n : Int)) = true := by simp; omega
theorem ge_dec {n : Nat} : decide ((n : Int) < (n : Int)) = false := by simp
theorem runS {σ ρ : Type} (st : Nat → σ) (n : Nat) (b : σ → Option (Step σ ρ)) (hb : ∀ (i : Nat), i < n → b (st i) = some (.cont (st (i + 1)))) (hend : b (st n) = some (.brk (st n))) : ∀ (m i N : Nat), i + m = n → m < N → loopO b N (st i) = some (.go (st n))
  | m, i, 0, _, h => by omega
  | 0, i, N + 1, hi, _ => by
    obtain rfl : i = n := by omega
    unfold loopO
    rw [hend]
  | m + 1, i, N + 1, hi, hN => by
    unfold loopO
    rw [hb i (by omega)]
    exact runS st n b hb hend m (i + 1) N (by omega) (by omega)

/-! ### The other way round -/
def revK {α : Type} (d : α) (xs : List α) (k : Nat) : List α := (List.range xs.length).map fun m => if m < k ∨ xs.length ≤ m + k then xs.getD (xs.length - 1 - m) d else xs.getD m d
theorem revK_len {α : Type} {d : α} {xs : List α} {k : Nat} : (revK d xs k).length = xs.length := by simp [revK]
theorem revK_get {α : Type} {d : α} {xs : List α} {k m : Nat} (h : m < (revK d xs k).length) : (revK d xs k)[m] = if m < k ∨ xs.length ≤ m + k then xs.getD (xs.length - 1 - m) d else xs.getD m d := by
  simp [revK]
theorem revK_step {α : Type} {d : α} {xs : List α} {k : Nat} (h : k + k + 1 < xs.length) : ((revK d xs k).set k (xs.getD (xs.length - 1 - k) d)).set (xs.length - 1 - k) (xs.getD k d) = revK d xs (k + 1) := by
  refine List.ext_getElem (by simp [revK_len]) fun m h1 h2 => ?_
  rw [List.getElem_set, List.getElem_set, revK_get, revK_get]
  have hm : m < xs.length := by rwa [revK_len] at h2
  by_cases e1 : xs.length - 1 - k = m
  · rw [if_pos e1, if_pos (by omega), show xs.length - 1 - m = k by omega]
  · rw [if_neg e1]
    by_cases e2 : k = m
    · rw [if_pos e2, if_pos (by omega), e2]
    · rw [if_neg e2]
      by_cases e3 : m < k ∨ xs.length ≤ m + k
      · rw [if_pos e3, if_pos (by omega)]
      · rw [if_neg e3, if_neg (by omega)]
theorem revK_end {α : Type} {d : α} {xs : List α} : revK d xs (xs.length / 2) = xs.reverse := by
  refine List.ext_getElem (by simp [revK_len]) fun m h1 h2 => ?_
  have hm : m < xs.length := by rwa [revK_len] at h1
  rw [revK_get, List.getElem_reverse, get_getD (d := d)]
  by_cases e3 : m < xs.length / 2 ∨ xs.length ≤ m + xs.length / 2
  · rw [if_pos e3]
  · rw [if_neg e3, show xs.length - 1 - m = m by omega]
theorem revK_zero {α : Type} {d : α} {xs : List α} : revK d xs 0 = xs := by
  refine List.ext_getElem (by simp [revK_len]) fun m h1 h2 => ?_
  rw [revK_get, if_neg (by omega), get_getD (d := d)]
theorem rev_loop {α ρ : Type} (d : α) (b : List α × Int × Int → Option (Step (List α × Int × Int) ρ)) (hb : ∀ s i j, b (s, i, j) = cond (decide (i < j)) (Option.bind (getI s j) fun e1 => Option.bind (getI s i) fun e2 => Option.bind (getI s i) fun _ => Option.bind (getI s j) fun _ => some (.cont ((s.set i.toNat e1).set j.toNat e2, W (i + 1), W (j - 1)))) (some (.brk (s, i, j))))
    {N : Nat} {xs : List α} (hl : xs.length ≤ 1000) (hN : xs.length < N) : ∃ i j, loopO b N (xs, 0, W (((xs.length : Nat) : Int) - 1)) = some (.go (xs.reverse, i, j)) := by
  have := runS (fun k : Nat => (revK d xs k, (k : Int), (xs.length : Int) - 1 - k)) (xs.length / 2) b (fun k hk => by
    have hg : ∀ m, m < xs.length → getI (revK d xs k) (m : Int) = some (if m < k ∨ xs.length ≤ m + k then xs.getD (xs.length - 1 - m) d else xs.getD m d) := fun m hm => by
      rw [getI_nat (by rw [revK_len]; exact hm), revK_get]
    rw [hb, decide_eq_true (by omega), cond_true, show (xs.length : Int) - 1 - (k : Int) = ((xs.length - 1 - k : Nat) : Int) by omega, hg _ (by omega), hg _ (by omega), if_neg (by omega), if_neg (by omega)]
    simp only [Option.bind_some, Int.toNat_natCast]
    rw [revK_step (by omega), W_succ (by omega), W_id (by omega) (by omega), show ((xs.length - 1 - k : Nat) : Int) - 1 = (xs.length : Int) - 1 - ((k + 1 : Nat) : Int) by omega]) (by
    rw [hb, decide_eq_false (by omega), cond_false]) (xs.length / 2) 0 N (by omega) (by omega)
  rw [revK_zero, revK_end] at this
  rw [W_id (by omega) (by omega)]
  refine ⟨_, _, Eq.trans ?_ this⟩
  congr 1
  simp
def p0 : gauge_Point := ⟨0, 0, 0⟩
theorem rev_v {N : Nat} {xs : List gauge_Vertical} (hl : xs.length ≤ 40) (hN : 60 ≤ N) : slices_Reverse_Lgauge_Vertical_gauge_Vertical N xs = some xs.reverse := by
  unfold slices_Reverse_Lgauge_Vertical_gauge_Vertical
  obtain ⟨i, j, h⟩ := rev_loop (ρ := List gauge_Vertical) v0 (fun s3 => slices_Reverse_Lgauge_Vertical_gauge_Vertical_b3 N s3.1 s3.2.1 s3.2.2) (fun s i j => rfl) (N := N) (xs := xs) (by omega) (by omega)
  rw [h, Option.bind_some]
  simp only [exK]
  unfold sameL
  rw [if_pos (by simp), Option.bind_some]
theorem rev_p {N : Nat} {xs : List gauge_Point} (hl : xs.length ≤ 40) (hN : 60 ≤ N) : slices_Reverse_Lgauge_Point_gauge_Point N xs = some xs.reverse := by
  unfold slices_Reverse_Lgauge_Point_gauge_Point
  obtain ⟨i, j, h⟩ := rev_loop (ρ := List gauge_Point) p0 (fun s3 => slices_Reverse_Lgauge_Point_gauge_Point_b3 N s3.1 s3.2.1 s3.2.2) (fun s i j => rfl) (N := N) (xs := xs) (by omega) (by omega)
  rw [h, Option.bind_some]
  simp only [exK]
  unfold sameL
  rw [if_pos (by simp), Option.bind_some]

/-! ### One by one -/
def mK {α : Type} (d : α) (f : α → α) (xs : List α) (k : Nat) : List α := (List.range xs.length).map fun m => if m < k then f (xs.getD m d) else xs.getD m d
theorem mK_len {α : Type} {d : α} {f : α → α} {xs : List α} {k : Nat} : (mK d f xs k).length = xs.length := by simp [mK]
theorem mK_get {α : Type} {d : α} {f : α → α} {xs : List α} {k m : Nat} (h : m < (mK d f xs k).length) : (mK d f xs k)[m] = if m < k then f (xs.getD m d) else xs.getD m d := by simp [mK]
theorem mK_step {α : Type} {d : α} {f : α → α} {xs : List α} {k : Nat} : (mK d f xs k).set k (f (xs.getD k d)) = mK d f xs (k + 1) := by
  refine List.ext_getElem (by simp [mK_len]) fun m h1 h2 => ?_
  rw [List.getElem_set, mK_get, mK_get]
  by_cases e1 : k = m
  · rw [if_pos e1, if_pos (by omega), e1]
  · rw [if_neg e1]
    by_cases e3 : m < k
    · rw [if_pos e3, if_pos (by omega)]
    · rw [if_neg e3, if_neg (by omega)]
theorem mK_end {α : Type} {d : α} {f : α → α} {xs : List α} : mK d f xs xs.length = xs.map f := by
  refine List.ext_getElem (by simp [mK_len]) fun m h1 h2 => ?_
  have hm : m < xs.length := by rwa [mK_len] at h1
  rw [mK_get, if_pos hm, List.getElem_map, get_getD (d := d)]
theorem mK_zero {α : Type} {d : α} {f : α → α} {xs : List α} : mK d f xs 0 = xs := by
  refine List.ext_getElem (by simp [mK_len]) fun m h1 h2 => ?_
  rw [mK_get, if_neg (by omega), get_getD (d := d)]
theorem mK_loop {α ρ : Type} (d : α) (f : α → α) {xs : List α} (b : Int × List α → Option (Step (Int × List α) ρ)) (hb : ∀ (k : Nat) l, k < xs.length → b ((k : Int), l) = Option.bind (getI l (k : Int)) fun e => some (.cont (W ((k : Int) + 1), l.set k (f e)))) (he : ∀ l, b ((xs.length : Int), l) = some (.brk ((xs.length : Int), l)))
    {N : Nat} (hl : xs.length ≤ 1000) (hN : xs.length < N) : loopO b N (0, xs) = some (.go ((xs.length : Int), xs.map f)) := by
  have := runS (fun k : Nat => ((k : Int), mK d f xs k)) xs.length b (fun k hk => by
    rw [hb k _ hk, getI_nat (by rw [mK_len]; exact hk), mK_get, if_neg (by omega), Option.bind_some, mK_step, W_succ (by omega)]) (he _) xs.length 0 N (by omega) (by omega)
  rw [mK_zero, mK_end] at this
  exact this
end Go.Nilo
