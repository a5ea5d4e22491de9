/-
  What the plain functions compute, in plain arithmetic, part 8. Conditions: what each theorem names.
-/
import Derived.Test.YtakhbnnlhoninadSsL7
set_option linter.unusedSimpArgs false
set_option linter.unusedVariables false
namespace Go.Nilo
def revK {α : Type} (d : α) (xs : List α) (k : Nat) : List α := (List.range xs.length).map fun m => if m < k ∨ xs.length ≤ m + k then xs.getD (xs.length - 1 - m) d else xs.getD m d
theorem revK_len {α : Type} {d : α} {xs : List α} {k : Nat} : (revK d xs k).length = xs.length := by simp [revK]
theorem revK_get {α : Type} {d : α} {xs : List α} {k m : Nat} (h : m < (revK d xs k).length) : (revK d xs k)[m] = if m < k ∨ xs.length ≤ m + k then xs.getD (xs.length - 1 - m) d else xs.getD m d := by
 simp [revK]
theorem revK_step {α : Type} {d : α} {xs : List α} {k : Nat} (h : k + k + 1 < xs.length) : ((revK d xs k).set k (xs.getD (xs.length - 1 - k) d)).set (xs.length - 1 - k) (xs.getD k d) = revK d xs (k + 1) := by
 refine List.ext_getElem (by simp [revK_len]) fun m h1 h2 => ?_
 rw [List.getElem_set,List.getElem_set,revK_get,revK_get]
 have hm : m < xs.length := by rwa [revK_len] at h2
 by_cases e1 : xs.length - 1 - k = m
 ·rw [if_pos e1,if_pos (by omega),show xs.length - 1 - m = k by omega]
 ·rw [if_neg e1]
  by_cases e2 : k = m
  ·rw [if_pos e2,if_pos (by omega),e2]
  ·rw [if_neg e2]
   by_cases e3 : m < k ∨ xs.length ≤ m + k
   ·rw [if_pos e3,if_pos (by omega)]
   ·rw [if_neg e3,if_neg (by omega)]
theorem revK_end {α : Type} {d : α} {xs : List α} : revK d xs (xs.length / 2) = xs.reverse := by
 refine List.ext_getElem (by simp [revK_len]) fun m h1 h2 => ?_
 have hm : m < xs.length := by rwa [revK_len] at h1
 rw [revK_get,List.getElem_reverse,get_getD (d := d)]
 by_cases e3 : m < xs.length / 2 ∨ xs.length ≤ m + xs.length / 2
 ·rw [if_pos e3]
 ·rw [if_neg e3,show xs.length - 1 - m = m by omega]
theorem revK_zero {α : Type} {d : α} {xs : List α} : revK d xs 0 = xs := by
 refine List.ext_getElem (by simp [revK_len]) fun m h1 h2 => ?_
 rw [revK_get,if_neg (by omega),get_getD (d := d)]
theorem rev_loop {α ρ : Type} (d : α) (b : List α × Int × Int → Option (Step (List α × Int × Int) ρ)) (hb : ∀ s i j,b (s,i,j) = cond (decide (i < j)) (Option.bind (getI s j) fun e1 => Option.bind (getI s i) fun e2 => Option.bind (getI s i) fun _ => Option.bind (getI s j) fun _ => some (.cont ((s.set i.toNat e1).set j.toNat e2,W (i + 1),W (j - 1)))) (some (.brk (s,i,j))))
  {N : Nat} {xs : List α} (hl : xs.length ≤ 1000) (hN : xs.length < N) : ∃ i j,loopO b N (xs,0,W (((xs.length : Nat) : Int) - 1)) = some (.go (xs.reverse,i,j)) := by
 have := runS (fun k : Nat => (revK d xs k,(k : Int),(xs.length : Int) - 1 - k)) (xs.length / 2) b (fun k hk => by
  have hg : ∀ m,m < xs.length → getI (revK d xs k) (m : Int) = some (if m < k ∨ xs.length ≤ m + k then xs.getD (xs.length - 1 - m) d else xs.getD m d) := fun m hm => by
   rw [getI_nat (by rw [revK_len]; exact hm),revK_get]
  rw [hb,decide_eq_true (by omega),cond_true,show (xs.length : Int) - 1 - (k : Int) = ((xs.length - 1 - k : Nat) : Int) by omega,hg _ (by omega),hg _ (by omega),if_neg (by omega),if_neg (by omega)]
  simp only [Option.bind_some,Int.toNat_natCast]
  rw [revK_step (by omega),W_succ (by omega),W_id (by omega) (by omega),show ((xs.length - 1 - k : Nat) : Int) - 1 = (xs.length : Int) - 1 - ((k + 1 : Nat) : Int) by omega]) (by
  rw [hb,decide_eq_false (by omega),cond_false]) (N := N) (by omega)
 rw [revK_zero,revK_end] at this
 rw [W_id (by omega) (by omega)]
 refine ⟨_,_,Eq.trans ?_ this⟩
 congr 1
 simp

end Go.Nilo
