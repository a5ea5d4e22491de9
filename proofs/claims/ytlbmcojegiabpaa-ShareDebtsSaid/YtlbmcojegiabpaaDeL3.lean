/-
  What the plain functions compute, in plain arithmetic, part 3. Conditions: what each theorem names.
-/
import Derived.Test.YtlbmcojegiabpaaDeL2
set_option linter.unusedSimpArgs false
set_option linter.unusedVariables false
namespace Go.Nilo
theorem due_spec {N : Nat} (hN : 60 ≤ N) {b : share_Border} (h : BOk b) {t : Int} (ht : 0 ≤ t ∧ t ≤ 1000000000) : share_Border_due N b t = some (dueF b.Table t) := by
  have hl := h.l2
  have hl' := h.l12
  have hi : slices_IndexFunc_Lshare_Point_share_Point_s2 N b.Table t = some (if b.Table.findIdx (isBeyond t) < b.Table.length then ((b.Table.findIdx (isBeyond t) : Nat) : Int) else -1) := by
    unfold slices_IndexFunc_Lshare_Point_share_Point_s2
    rcases firstLoop (isBeyond t) b.Table (by omega) (fun s4 => slices_IndexFunc_Lshare_Point_share_Point_s2_b4 N b.Table t s4) (fun x => rfl) b.Table.length 0 N (by omega) (by omega) (fun j _ hj => by omega) with ⟨h1, h2⟩ | ⟨h1, h2⟩
    · rw [show ((0 : Nat) : Int) = 0 from rfl] at h2
      rw [h2, if_pos h1]
      rfl
    · rw [show ((0 : Nat) : Int) = 0 from rfl] at h2
      rw [h2, if_neg (by omega)]
      rfl
  unfold share_Border_due
  rw [hi]
  by_cases hk : b.Table.findIdx (isBeyond t) < b.Table.length
  · rw [if_pos hk]
    by_cases h0 : b.Table.findIdx (isBeyond t) = 0
    · have e0 : (((b.Table.findIdx (isBeyond t) : Nat) : Int) == 0) = true := by rw [h0]; rfl
      simp only [Option.bind_some, e0, cond_true]
      unfold dueF
      rw [dif_neg (by omega), if_pos h0, show (0 : Int) = ((0 : Nat) : Int) from rfl, getI_nat (by omega), get_getD (d := ⟨0, 0⟩) (by omega)]
      rfl
    · have e0 : (((b.Table.findIdx (isBeyond t) : Nat) : Int) == 0) = false := by simp; omega
      have e1 : (((b.Table.findIdx (isBeyond t) : Nat) : Int) == -1) = false := by simp
      have wk : W (((b.Table.findIdx (isBeyond t) : Nat) : Int) - 1) = ((b.Table.findIdx (isBeyond t) - 1 : Nat) : Int) := by rw [W_id (by omega) (by omega)]; omega
      have hu := h.up (b.Table.findIdx (isBeyond t) - 1) (by omega)
      simp only [show b.Table.findIdx (isBeyond t) - 1 + 1 = b.Table.findIdx (isBeyond t) by omega] at hu
      have x1 := at_idx hk
      have x0 := ahead_idx (b := b) (t := t) (j := b.Table.findIdx (isBeyond t) - 1) (by omega) (by omega)
      have i0 := h.i (b.Table.findIdx (isBeyond t) - 1) (by omega)
      have i1 := h.i (b.Table.findIdx (isBeyond t)) hk
      have d0 := h.d (b.Table.findIdx (isBeyond t) - 1) (by omega)
      have d1 := h.d (b.Table.findIdx (isBeyond t)) hk
      have hs := seg_bd hu.1 hu.2 x0 x1
      have hm := mul_bd (a := b.Table[b.Table.findIdx (isBeyond t)].Due - b.Table[b.Table.findIdx (isBeyond t) - 1].Due) (b := t - b.Table[b.Table.findIdx (isBeyond t) - 1].Index) (A := 1000000000) (B := 1000000000) (by omega) (by omega) (by omega) (by omega)
      simp only [Option.bind_some, e0, e1, cond_false, wk]
      rw [getI_nat (by omega), getI_nat hk]
      simp only [Option.bind_some]
      rw [W_id (n := b.Table[b.Table.findIdx (isBeyond t)].Index - b.Table[b.Table.findIdx (isBeyond t) - 1].Index) (by omega) (by omega),
        W_id (n := b.Table[b.Table.findIdx (isBeyond t)].Due - b.Table[b.Table.findIdx (isBeyond t) - 1].Due) (by omega) (by omega),
        W_id (n := t - b.Table[b.Table.findIdx (isBeyond t) - 1].Index) (by omega) (by omega)]
      rw [W_id (n := (b.Table[b.Table.findIdx (isBeyond t)].Due - b.Table[b.Table.findIdx (isBeyond t) - 1].Due) * (t - b.Table[b.Table.findIdx (isBeyond t) - 1].Index)) (by omega) (by omega), tdiv_div hm.1]
      rw [W_id (n := (b.Table[b.Table.findIdx (isBeyond t)].Due - b.Table[b.Table.findIdx (isBeyond t) - 1].Due) * (t - b.Table[b.Table.findIdx (isBeyond t) - 1].Index) / (b.Table[b.Table.findIdx (isBeyond t)].Index - b.Table[b.Table.findIdx (isBeyond t) - 1].Index)) (by omega) (by omega), W_id (by omega) (by omega)]
      have hz : nz (b.Table[b.Table.findIdx (isBeyond t)].Index - b.Table[b.Table.findIdx (isBeyond t) - 1].Index) = some () := by unfold nz; rw [if_neg (by omega)]
      rw [hz]
      unfold dueF
      rw [dif_pos ⟨by omega, hk⟩]
      rfl
  · rw [if_neg hk]
    have wk : W (((b.Table.length : Nat) : Int) - 1) = ((b.Table.length - 1 : Nat) : Int) := by rw [W_id (by omega) (by omega)]; omega
    simp only [Option.bind_some, show ((-1 : Int) == 0) = false from rfl, show ((-1 : Int) == -1) = true from rfl, cond_true, cond_false, wk]
    rw [getI_nat (by omega)]
    unfold dueF
    rw [dif_neg (by omega), if_neg (by omega), get_getD (d := ⟨0, 0⟩) (by omega)]
    rfl

end Go.Nilo
