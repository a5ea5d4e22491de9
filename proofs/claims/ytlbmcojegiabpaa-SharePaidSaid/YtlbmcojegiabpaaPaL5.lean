/-
  What the plain functions compute, in plain arithmetic, part 5. Conditions: what each theorem names.
-/
import Derived.Test.YtlbmcojegiabpaaPaL4
set_option linter.unusedSimpArgs false
set_option linter.unusedVariables false
namespace Go.Nilo
theorem loopInvB {σ ρ : Type} (b : σ → Option (Step σ ρ)) (Inv : Nat → σ → Prop) (Fin : σ → Prop) (n : Nat)
    (hstep : ∀ i s, i < n → Inv i s → (∃ s', b s = some (.cont s') ∧ Inv (i + 1) s') ∨ (∃ s', b s = some (.brk s') ∧ Fin s')) (hend : ∀ s, Inv n s → ∃ s', b s = some (.brk s') ∧ Fin s') :
    ∀ (m i : Nat) (s : σ) (N : Nat), i + m = n → m < N → Inv i s → ∃ s', loopO b N s = some (.go s') ∧ Fin s'
  | m, i, s, 0, _, h, _ => by omega
  | 0, i, s, N + 1, hi, _, hs => by
    obtain rfl : i = n := by omega
    obtain ⟨s', h1, h2⟩ := hend s hs
    exact ⟨s', by unfold loopO; rw [h1], h2⟩
  | m + 1, i, s, N + 1, hi, hN, hs => by
    rcases hstep i s (by omega) hs with ⟨s', h1, h2⟩ | ⟨s', h1, h2⟩
    · obtain ⟨s'', h3, h4⟩ := loopInvB b Inv Fin n hstep hend m (i + 1) s' N (by omega) (by omega) h2
      exact ⟨s'', by unfold loopO; rw [h1]; exact h3, h4⟩
    · exact ⟨s', by unfold loopO; rw [h1], h2⟩

theorem everyWater {N : Nat} {l : List Int} (hl : l.length ≤ 40) (hN : 60 ≤ N) (h : ∀ x ∈ l, 0 ≤ x ∧ x ≤ 1000000000) : share_every_int N l = some true := by
  have hf : l.any share_every_int_1 = false := by
    rw [List.any_eq_false]
    intro x hx
    have := h x hx
    unfold share_every_int_1 share_water share_in
    simp; omega
  unfold share_every_int slices_ContainsFunc_Lint_int slices_IndexFunc_Lint_int
  rcases indexLoop share_every_int_1 l (by omega) (fun s4 => slices_IndexFunc_Lint_int_b4 N l s4) (fun x => rfl) l.length 0 N (by omega) (by omega) with ⟨k, h1, h2, h3⟩ | ⟨h1, h2⟩
  · rw [List.drop_zero, hf] at h3
    cases h3
  · rw [show ((0 : Nat) : Int) = 0 from rfl] at h1
    rw [h1]
    simp [exK]

/-- What is paid of a debt, year by year, until nothing is left. -/
structure Paid (L P o : Int) (can : Nat → Int) (m : Nat) (out : List Int) : Prop where
  le : out.length ≤ m
  el : ∀ j, j < out.length → out.getD j 0 = payN L P (owes L P can o j) (can j)
  pos : ∀ j, j < out.length → 0 < owes L P can o j
  fin : owes L P can o out.length = 0 ∨ out.length = m

theorem payback_spec {N : Nat} (hN : 60 ≤ N) {L P o : Int} {C : List Int} (hL : 1 ≤ L ∧ L ≤ 1000000) (hP : 1 ≤ P ∧ P ≤ 100) (ho : 0 ≤ o ∧ o ≤ 1000000) (hm : C.length ≤ 40) (hC : ∀ j, j < C.length → L ≤ C.getD j 0 ∧ C.getD j 0 ≤ 1000000) :
    ∃ out, Paid L P o (fun j => C.getD j 0) C.length out ∧
      share_Payback N o ⟨L, P, C⟩ = some (cond (decide (0 < owes L P (fun j => C.getD j 0) o out.length)) (([] : List Int), 5) (out, 0)) := by
  have nn : ∀ n, n ≤ C.length → 0 ≤ owes L P (fun j => C.getD j 0) o n := fun n hn => owes_nn hL.1 hP.1 ho.1 n (fun i hi => (hC i (by omega)).1)
  have le : ∀ n, n ≤ C.length → owes L P (fun j => C.getD j 0) o n ≤ o := fun n hn => by
    have h1 := owes_le (L := L) (P := P) (can := fun j => C.getD j 0) (o := o) hL.1 hP.1 ho.1 n (fun i hi => (hC i (by omega)).1)
    have h2 : 0 ≤ L * n := Int.mul_nonneg (by omega) (by omega)
    omega
  obtain ⟨⟨d, out, x⟩, h1, hd, hp⟩ := loopInvB (fun s12 => share_Payback_b12 N ⟨L, P, C⟩ s12.1 s12.2.1 s12.2.2)
    (fun i s => s.2.2 = (i : Int) ∧ s.1 = owes L P (fun j => C.getD j 0) o i ∧ s.2.1.length = i ∧ (∀ j, j < i → s.2.1.getD j 0 = payN L P (owes L P (fun j => C.getD j 0) o j) (C.getD j 0)) ∧ (∀ j, j < i → 0 < owes L P (fun j => C.getD j 0) o j))
    (fun s => s.1 = owes L P (fun j => C.getD j 0) o s.2.1.length ∧ Paid L P o (fun j => C.getD j 0) C.length s.2.1) C.length
    (by
      rintro i ⟨d, out, x⟩ hi ⟨rfl, h2, h3, h4, h5⟩
      dsimp only at h2 h3 h4 h5 ⊢
      have hlt : decide ((i : Int) < ((C.length : Nat) : Int)) = true := by simp; omega
      have hn := nn i (by omega)
      have hle := le i (by omega)
      unfold share_Payback_b12
      rw [hlt, getI_getD hi]
      simp only [cond_true, Option.bind_some]
      cases hz : (d == 0) with
      | true =>
        right
        have hd0 : d = 0 := by simpa using hz
        refine ⟨(d, out, (i : Int)), rfl, by dsimp only; rw [h3]; exact h2, ⟨by dsimp only; omega, by dsimp only; rw [h3]; exact h4, by dsimp only; rw [h3]; exact h5, .inl (by dsimp only; rw [h3, ← h2]; exact hd0)⟩⟩
      | false =>
        left
        have hd0 : ¬ d = 0 := by simpa using hz
        have hc := hC i hi
        have hb := payN_bd (L := L) (P := P) (d := d) (c := C.getD i 0) hL.1 hP.1 (by omega) hc.1
        have hnz : nz P = some () := by unfold nz; rw [if_neg (by omega)]
        have w1 : W (d + P) = d + P := W_id (by omega) (by omega)
        have w2 : W (d + P - 1) = d + P - 1 := W_id (by omega) (by omega)
        have q0 : 0 ≤ (d + P - 1) / P := Int.ediv_nonneg (by omega) (by omega)
        have q1 : (d + P - 1) / P ≤ d + P - 1 := Int.ediv_le_self _ (by omega)
        have w3 : W ((d + P - 1) / P) = (d + P - 1) / P := W_id (by omega) (by omega)
        have hp : min (min d (C.getD i 0)) (max L ((d + P - 1) / P)) = payN L P d (C.getD i 0) := rfl
        have w4 : W (d - payN L P d (C.getD i 0)) = d - payN L P d (C.getD i 0) := W_id (by omega) (by omega)
        simp only [hnz, w1, w2, tdiv_div (show 0 ≤ d + P - 1 by omega), w3, hp, w4, Option.bind_some, cond_false, W_succ (i := i) (by omega)]
        rw [room_ok (by simp; omega)]
        refine ⟨_, rfl, rfl, ?_, by simp [h3], ?_, ?_⟩
        · dsimp only
          rw [h2]
          rfl
        · intro j hj
          dsimp only
          by_cases hji : j < i
          · rw [getD_lt (by omega)]; exact h4 j hji
          · obtain rfl : j = out.length := by omega
            rw [getD_eq, h3, h2]
        · intro j hj
          by_cases hji : j < i
          · exact h5 j hji
          · obtain rfl : j = i := by omega
            omega)
    (by
      rintro ⟨d, out, x⟩ ⟨rfl, h2, h3, h4, h5⟩
      dsimp only at h2 h3 h4 h5 ⊢
      refine ⟨(d, out, ((C.length : Nat) : Int)), ?_, by dsimp only; rw [h3]; exact h2, ⟨by dsimp only; omega, by dsimp only; rw [h3]; exact h4, by dsimp only; rw [h3]; exact h5, .inr h3⟩⟩
      unfold share_Payback_b12
      rw [show decide (((C.length : Nat) : Int) < ((C.length : Nat) : Int)) = false by simp]
      rfl)
    C.length 0 (o, [], 0) N (by omega) (by omega) ⟨rfl, rfl, rfl, by intro j hj; omega, by intro j hj; omega⟩
  dsimp only at hd hp
  refine ⟨out, hp, ?_⟩
  have hw : share_water o = true := by unfold share_water share_in; simp; omega
  have hi1 : share_in L 1 1000000000 = true := by unfold share_in; simp; omega
  have hi2 : share_in P 1 100 = true := by unfold share_in; simp; omega
  have h40 : decide (40 < ((C.length : Nat) : Int)) = false := by simp; omega
  have hev := everyWater (N := N) (l := C) hm hN (by
    intro x hx
    obtain ⟨j, hj, rfl⟩ := List.getElem_of_mem hx
    have := hC j hj
    rw [get_getD (d := 0) hj]
    omega)
  unfold share_Payback
  dsimp only
  rw [hw, h40, hi1, hi2, hev]
  simp only [Bool.not_true, Bool.or_false, cond_false, Option.bind_some]
  rw [h1]
  simp only [Option.bind_some, exK, hd]
  cases decide (0 < owes L P (fun j => C.getD j 0) o out.length) <;> rfl

theorem total_spec {N : Nat} {l : List Int} (hl : l.length ≤ 40) (hN : 60 ≤ N) (h : ∀ x ∈ l, 0 ≤ x ∧ x ≤ 1000000) : law09_total N l = some (sumBy id l) := by
  obtain ⟨⟨n, x⟩, h1, hx, hn, -⟩ := loopInv (fun s5 => law09_total_b5 N l s5.1 s5.2) (fun i s => s.2 = (i : Int) ∧ s.1 = sumBy id (l.take i) ∧ s.1.natAbs ≤ i * 1000000) l.length
    (by
      rintro i ⟨n, x⟩ hi ⟨rfl, h2, h3⟩
      dsimp only at h2 h3 ⊢
      have hb := h l[i] (List.getElem_mem _)
      have hlt : decide ((i : Int) < ((l.length : Nat) : Int)) = true := by simp; omega
      have w : W (n + l[i]) = n + l[i] := W_id (by omega) (by omega)
      refine ⟨(n + l[i], ((i + 1 : Nat) : Int)), ?_, rfl, ?_, by dsimp only; omega⟩
      · unfold law09_total_b5
        rw [hlt, getI_nat hi, W_succ (by omega)]
        simp only [cond_true, Option.bind_some, w]
      · dsimp only
        rw [sumBy_take _ _ _ hi, h2]
        rfl)
    (by
      rintro ⟨n, x⟩ ⟨rfl, -⟩
      dsimp only
      unfold law09_total_b5
      rw [show decide (((l.length : Nat) : Int) < ((l.length : Nat) : Int)) = false by simp]
      rfl)
    l.length 0 (0, 0) N (by omega) (by omega) ⟨rfl, by simp [sumBy], by simp⟩
  dsimp only at hn
  unfold law09_total
  rw [h1, hn, List.take_length]
  rfl

theorem paid_sum {L P o : Int} {can : Nat → Int} {m : Nat} {out : List Int} (h : Paid L P o can m out) : ∀ j, j ≤ out.length → sumBy id (out.take j) = o - owes L P can o j
  | 0, _ => by simp [sumBy, owes]
  | j + 1, hj => by
    rw [sumBy_take _ _ _ (by omega), paid_sum h j (by omega), get_getD (d := 0) (by omega), h.el j (by omega)]
    rw [owes]
    simp only [id]
    omega
theorem owes_congr {L P o : Int} {can can' : Nat → Int} : ∀ n, (∀ i, i < n → can i = can' i) → owes L P can o n = owes L P can' o n
  | 0, _ => rfl
  | n + 1, h => by rw [owes, owes, owes_congr n (fun i hi => h i (by omega)), h n (by omega)]
end Go.Nilo
