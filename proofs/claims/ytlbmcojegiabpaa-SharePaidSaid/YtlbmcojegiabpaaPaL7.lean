/-
  What the plain functions compute, in plain arithmetic, part 7. Conditions: what each theorem names.
-/
import Derived.Test.YtlbmcojegiabpaaPaL6
set_option linter.unusedSimpArgs false
set_option linter.unusedVariables false
namespace Go.Nilo
theorem paid_true {numbers : List Int} (hn : Bytes numbers) {debt : Int} (hd : 0 ≤ debt ∧ debt ≤ 65535) : law09_SharePaid 60 numbers debt = some true := by
  have s0 : SOk 0 0 0 := ⟨by omega, by omega, by omega, by omega⟩
  obtain ⟨L, u1, m1, e1, a1, b1, t1⟩ := within_spec (N := 60) hn (lo := 50) (hi := 200) s0 (by omega) (by omega) (by omega) (by omega)
  obtain ⟨P, u2, m2, e2, a2, b2, t2⟩ := within_spec (N := 60) hn (lo := 1) (hi := 9) t1 (by omega) (by omega) (by omega) (by omega)
  obtain ⟨C, u3, m3, h7, hC, hc⟩ := can_loop (N := 60) (by omega) hn (r1 := (L, u1, m1)) ⟨a1, b1⟩ t2 (by omega)
  dsimp only at hc
  have ho : 0 ≤ (W debt).tmod 2000 ∧ (W debt).tmod 2000 ≤ 1999 := by
    rw [W_id (by omega) (by omega), tmod_mod hd.1]
    have := Int.emod_lt_of_pos debt (show (0 : Int) < 2000 by omega)
    have := Int.emod_nonneg debt (show (2000 : Int) ≠ 0 by omega)
    omega
  generalize hO : (W debt).tmod 2000 = o at ho
  have hcan : ∀ j, j < C.length → L ≤ C.getD j 0 ∧ C.getD j 0 ≤ 1000000 := fun j hj => by have := hc j (by omega); omega
  have nn : ∀ (P : Int) n, 1 ≤ P → n ≤ 40 → 0 ≤ owes L P (fun j => C.getD j 0) o n := fun P n hP hn => owes_nn (by omega) hP ho.1 n (fun i hi => (hc i (by omega)).1)
  have le : ∀ (P : Int) n, 1 ≤ P → n ≤ 40 → owes L P (fun j => C.getD j 0) o n ≤ max 0 (o - L * n) := fun P n hP hn => owes_le (L := L) (P := P) (can := fun j => C.getD j 0) (o := o) (by omega) hP ho.1 n (fun i hi => (hc i (by omega)).1)
  have zero : ∀ (P : Int) (out : List Int), 1 ≤ P → Paid L P o (fun j => C.getD j 0) C.length out → owes L P (fun j => C.getD j 0) o out.length = 0 := by
    intro P out hP h
    have hl := h.le
    rcases h.fin with h' | h'
    · exact h'
    · have h1 := le P out.length hP (by omega)
      have h2 := nn P out.length hP (by omega)
      have h3 : L * (out.length : Int) = L * 40 := by rw [h', hC]; rfl
      omega
  have tot : ∀ (P : Int) (out : List Int), 1 ≤ P → Paid L P o (fun j => C.getD j 0) C.length out → law09_total 60 out = some o := by
    intro P out hP h
    have hl := h.le
    rw [total_spec (by omega) (by omega) (by
      intro y hy
      obtain ⟨j, hj, rfl⟩ := List.getElem_of_mem hy
      rw [get_getD (d := 0) hj, h.el j hj]
      have hcj := hc j (by omega)
      have := payN_bd (L := L) (P := P) (d := owes L P (fun j => C.getD j 0) o j) (c := C.getD j 0) (by omega) hP (nn P j hP (by omega)) hcj.1
      omega)]
    have hs := paid_sum h out.length (Nat.le_refl _)
    rw [List.take_length, zero P out hP h] at hs
    rw [hs]
    congr 1
    omega
  obtain ⟨out, hp, h3⟩ := payback_spec (N := 60) (by omega) (L := L) (P := P) (o := o) (C := C) (by omega) (by omega) (by omega) (by omega) hcan
  have z3 := zero P out a2 hp
  rw [show decide (0 < owes L P (fun j => C.getD j 0) o out.length) = false by rw [z3]; rfl, cond_false] at h3
  obtain ⟨quick, hq, h5⟩ := payback_spec (N := 60) (by omega) (L := L) (P := 1) (o := o) (C := C) (by omega) (by omega) (by omega) (by omega) hcan
  have z5 := zero 1 quick (by omega) hq
  rw [show decide (0 < owes L 1 (fun j => C.getD j 0) o quick.length) = false by rw [z5]; rfl, cond_false] at h5
  have hole := hp.le
  have hqle := hq.le
  -- as many years as the least part is in the debt
  have wL : W (o + L) = o + L := W_id (by omega) (by omega)
  have wL2 : W (o + L - 1) = o + L - 1 := W_id (by omega) (by omega)
  have hq0 : 0 ≤ (o + L - 1) / L := Int.ediv_nonneg (by omega) (by omega)
  have hq1 : (o + L - 1) / L ≤ o + L - 1 := Int.ediv_le_self _ (by omega)
  have wL3 : W ((o + L - 1) / L) = (o + L - 1) / L := W_id (by omega) (by omega)
  have hyears : ((out.length : Nat) : Int) ≤ (o + L - 1) / L := by
    rw [Int.le_ediv_iff_mul_le (by omega)]
    by_cases h0 : out.length = 0
    · rw [h0]; simp; omega
    · have hpos := hp.pos (out.length - 1) (by omega)
      have h1 := le P (out.length - 1) a2 (by omega)
      have h2 : (((out.length - 1 : Nat)) : Int) = (out.length : Int) - 1 := by omega
      rw [h2, Int.mul_sub, Int.mul_one] at h1
      rw [Int.mul_comm]
      omega
  have hquick : quick.length ≤ out.length := by
    rcases Nat.lt_or_ge out.length quick.length with h | h
    · exfalso
      have h1 := hq.pos out.length h
      have h2 := owes_fast (L := L) (P := P) (can := fun j => C.getD j 0) (o := o) (by omega) a2 ho.1 out.length (fun j hj => (hc j (by omega)).1)
      omega
    · exact h
  obtain ⟨l15, x15, h15⟩ := paid_loop (N := 60) (by omega) (r1 := (L, u1, m1)) (r2 := (P, u2, m2)) (C := C) (out := out) (o := o) (q := 0) ⟨a1, b1⟩ ⟨a2, b2⟩ (by omega) hC hc hp
  obtain ⟨s25, x25, h25⟩ := fast_loop (N := 60) (by omega) (L := L) (P := P) (C := C) (l := out) (quick := quick) (o := o) (q := 0) ⟨a1, b1⟩ ⟨a2, b2⟩ (by omega) hC hc hp hq
  have hL0 : nz L = some () := by unfold nz; rw [if_neg (by omega)]
  unfold law09_SharePaid kit_New
  simp only [Option.bind_some, e1, e2]
  rw [h7]
  simp only [Option.bind_some, exK, hO, h3, tot P out a2 hp, hL0, wL, wL2, tdiv_div (show 0 ≤ o + L - 1 by omega), wL3]
  have d1 : decide ((o + L - 1) / L < ((out.length : Nat) : Int)) = false := by simp only [decide_eq_false_iff_not]; omega
  simp only [bne_self_eq_false, cond_false, Option.bind_some, d1]
  rw [h15]
  simp only [Option.bind_some, h5, tot 1 quick (by omega) hq]
  have d2 : decide (((out.length : Nat) : Int) < ((quick.length : Nat) : Int)) = false := by simp only [decide_eq_false_iff_not]; omega
  simp only [d2, bne_self_eq_false, Bool.or_false, cond_false, Option.bind_some]
  rw [h25]
  simp only [Option.bind_some]
  have hj : law09_SharePaid_j26 60 = some true := by
    unfold law09_SharePaid_j26
    rw [awake_true]
    rfl
  cases hk : decide (0 < ((out.length : Nat) : Int)) with
  | false => simp only [cond_false, hj]
  | true =>
    have hk' := of_decide_eq_true hk
    have wk : W (((out.length : Nat) : Int) - 1) = ((out.length - 1 : Nat) : Int) := by rw [W_id (by omega) (by omega)]; omega
    have hcp : kit_Copy_int 60 C = some C := by
      unfold kit_Copy_int
      rw [room_ok (by omega)]
      rfl
    have hs : subO C 0 ((out.length - 1 : Nat) : Int) = some (C.take (out.length - 1)) := by
      unfold subO
      rw [if_pos (by omega)]
      simp
    have hget : ∀ j, j < out.length - 1 → (C.take (out.length - 1)).getD j 0 = C.getD j 0 := by
      intro j hj
      simp [List.getD, List.getElem?_take, hj]
    have htl : (C.take (out.length - 1)).length = out.length - 1 := by simp; omega
    obtain ⟨sh, hsh, h9⟩ := payback_spec (N := 60) (by omega) (L := L) (P := P) (o := o) (C := C.take (out.length - 1)) (by omega) (by omega) (by omega) (by omega) (by
      intro j hj
      rw [htl] at hj
      rw [hget j hj]
      exact hcan j (by omega))
    have hcg : ∀ n, n ≤ out.length - 1 → owes L P (fun j => (C.take (out.length - 1)).getD j 0) o n = owes L P (fun j => C.getD j 0) o n := fun n hn => owes_congr n (fun i hi => hget i (by omega))
    have hshl := hsh.le
    rw [htl] at hshl
    have hpos : 0 < owes L P (fun j => (C.take (out.length - 1)).getD j 0) o sh.length := by
      rw [hcg _ hshl]
      exact hp.pos sh.length (by omega)
    rw [show decide (0 < owes L P (fun j => (C.take (out.length - 1)).getD j 0) o sh.length) = true by simp only [decide_eq_true_eq]; exact hpos, cond_true] at h9
    simp only [cond_true, hcp, Option.bind_some, wk, hs, h9, hj]
    rfl
end Go.Nilo
