/-
  What the plain functions compute, in plain arithmetic, part 10. Conditions: what each theorem names.
-/
import Derived.Test.YtbcaeppbfioogaaHeL9
set_option linter.unusedSimpArgs false
set_option linter.unusedVariables false
namespace Go.Nilo
theorem total_rl {N : Nat} (hN : 100 ≤ N) {g : Nat → Int} {a m : Nat} (h : ∀ i, i < m → 0 ≤ g (a + i) ∧ g (a + i) ≤ 1000000000) (hm : m ≤ 70) : law07_total N (rl m fun i => g (a + i)) = some (psum g a m) ∧ 0 ≤ psum g a m ∧ psum g a m ≤ (m : Int) * 1000000000 := by
  have hb : ∀ k, k ≤ m → 0 ≤ psum g a k ∧ psum g a k ≤ (k : Int) * 1000000000 := by
    intro k
    induction k with
    | zero => exact fun _ => ⟨Int.le_refl _, by simp [psum]⟩
    | succ k ih =>
      intro hk
      have h1 := ih (by omega)
      have h2 := h k (by omega)
      show 0 ≤ psum g a k + g (a + k) ∧ psum g a k + g (a + k) ≤ ((k + 1 : Nat) : Int) * 1000000000
      push_cast
      omega
  refine ⟨?_, hb m (Nat.le_refl _)⟩
  unfold law07_total
  have := runS (ρ := Int) (fun i : Nat => ((psum g a i, (i : Int)) : Int × Int)) m (fun s5 => law07_total_b5 N (rl m fun i => g (a + i)) s5.1 s5.2) (fun i hi => by
    show law07_total_b5 N (rl m fun i => g (a + i)) (psum g a i) (i : Int) = _
    unfold law07_total_b5
    have h1 := hb i (by omega)
    have h2 := h i hi
    rw [rl_len, lt_dec hi, cond_true, rl_get hi, Option.bind_some, W_succ (by omega), W_sm (by omega) (by omega)]
    rfl) (by
    show law07_total_b5 N (rl m fun i => g (a + i)) _ (m : Int) = _
    unfold law07_total_b5
    rw [rl_len, ge_dec, cond_false]) (N := N) (by omega)
  show Option.bind (loopO _ N (psum g a 0, ((0 : Nat) : Int))) _ = _
  rw [this, Option.bind_some]
  rfl
theorem sub_rl {α : Type} {n : Nat} {g : Nat → α} {a b : Nat} (h1 : a ≤ b) (h2 : b < n) : subO (rl n g) (a : Int) ((b + 1 : Nat) : Int) = some (rl (b + 1 - a) fun i => g (a + i)) := by
  unfold subO
  rw [if_pos (by rw [rl_len]; omega)]
  congr 1
  refine List.ext_getElem ?_ fun m k1 k2 => ?_
  · rw [rl_len, List.length_take, List.length_drop, rl_len]
    omega
  · simp [rl]
theorem held_b18 {r : daily_Record} (hr : ROk r) (ha : agB r = true) {z : Nat → Int} (ht : Tru (lo r) (hi r) r.Rise r.Fall r.Days.length z) {A B : Nat} (hAB : A ≤ B) (hB : B < r.Days.length) :
    daily_Holds 100 r (rl r.Days.length z) = some (-1, 0) ∧ subO (rl r.Days.length z) (A : Int) ((B + 1 : Nat) : Int) = some (rl (B + 1 - A) fun i => z (A + i)) ∧ law07_total 100 (rl (B + 1 - A) fun i => z (A + i)) = some (psum z A (B + 1 - A)) ∧ psum (tG r) A (B + 1 - A) ≤ psum z A (B + 1 - A) ∧ psum z A (B + 1 - A) ≤ psum (tL r) A (B + 1 - A) := by
  have h60 := hr.n60
  have hbd := tru_bd hr ht
  refine ⟨by rw [Holds_spec (Nat.le_refl _) (by omega), holds_ok hr hbd ht], sub_rl hAB hB, (total_rl (Nat.le_refl _) (fun i hi => hbd _ (by omega)) (by omega)).1, psum_mono _ fun i hi => (ht.told hr.rise.1 hr.fall.1 (by omega)).1, psum_mono _ fun i hi => (ht.told hr.rise.1 hr.fall.1 (by omega)).2⟩
/-- A flow beside its span is in no truth. -/
theorem held_wrong {r : daily_Record} (hr : ROk r) {i : Nat} (hi' : i < r.Days.length) {n : Int} (hn : 0 ≤ n ∧ n ≤ 1000000000) (ho : lo r i ≤ n ∧ n ≤ hi r i) (hout : n < tG r i ∨ tL r i < n) :
    daily_Fill 100 ⟨r.Rise, r.Fall, r.Days.set i ⟨true, ⟨n, n⟩⟩⟩ = some ([], 7) := by
  have h60 := hr.n60
  generalize hg : (⟨r.Rise, r.Fall, r.Days.set i ⟨true, ⟨n, n⟩⟩⟩ : daily_Record) = g
  have gn : g.Days.length = r.Days.length := by subst hg; simp
  have gi : g.Days.getD i dv0 = ⟨true, ⟨n, n⟩⟩ := by subst hg; exact getD_set_self hi'
  have go : ∀ j, j ≠ i → g.Days.getD j dv0 = r.Days.getD j dv0 := fun j hj => by subst hg; exact getD_set_ne (by omega)
  have gR : g.Rise = r.Rise := by subst hg; rfl
  have gF : g.Fall = r.Fall := by subst hg; rfl
  have gr : ROk g := by
    have := hr.n1
    refine ⟨by omega, by omega, by rw [gR]; exact hr.rise, by rw [gF]; exact hr.fall, fun v hv hk => ?_⟩
    obtain ⟨j, hj, rfl⟩ := List.getElem_of_mem hv
    rw [get_getD (d := dv0)] at hk ⊢
    by_cases h : j = i
    · subst h
      rw [gi]
      exact ⟨hn.1, Int.le_refl _, hn.2⟩
    · rw [go j h] at hk ⊢
      refine hr.v _ ?_ hk
      rw [← get_getD (show j < r.Days.length by omega)]
      exact List.getElem_mem _
  rw [Fill_spec (Nat.le_refl _) (by omega)]
  unfold fillF
  rw [if_pos (check_iff.2 gr)]
  cases hag : agB g with
  | false => rfl
  | true =>
    exfalso
    have ht := agree_low gr hag
    have h1 : lo g i = n ∧ hi g i = n := by
      unfold lo hi
      rw [gi]
      exact ⟨rfl, rfl⟩
    have h2 := ht.own i (by omega)
    have ht2 : Tru (lo r) (hi r) r.Rise r.Fall r.Days.length (tG g) := by
      refine ⟨fun j hj => ?_, fun j hj => ?_⟩
      · by_cases h : j = i
        · subst h
          omega
        · have := ht.own j (by omega)
          unfold lo hi at this ⊢
          rwa [go j h] at this
      · have := ht.st j (by omega)
        rwa [gR, gF] at this
    have := ht2.told hr.rise.1 hr.fall.1 hi'
    unfold tG tL at hout
    omega
theorem held_law {numbers : List Int} (h1 : Bytes numbers) {a b : Int} (ha : 0 ≤ a ∧ a ≤ 255) (hb : 0 ≤ b ∧ b ≤ 255) : law07_DailyHeld 100 numbers a b = some true := by
  have hN : 100 ≤ 100 := Nat.le_refl _
  obtain ⟨r, x, u0, m0, e0, hm, x1, x25⟩ := Made_spec hN h1 (most := 25) (by omega)
  have hlen := hm.len
  obtain ⟨hr, hag⟩ := fill_true hm x1 (by omega)
  have htr := hm.tru (by omega)
  have hx : x = rl r.Days.length fun i => x.getD i 0 := truth_rl hm
  obtain ⟨A, eA, hA⟩ := mod_lt ha x1
  obtain ⟨B, eB, hB⟩ := mod_lt hb x1
  have hz : nz ((x.length : Nat) : Int) = some () := by unfold nz; rw [if_neg (by omega)]
  have emin : ∃ C D : Nat, min ((W a).tmod ((x.length : Nat) : Int)) ((W b).tmod ((x.length : Nat) : Int)) = (C : Int) ∧ max ((W a).tmod ((x.length : Nat) : Int)) ((W b).tmod ((x.length : Nat) : Int)) = (D : Int) ∧ C ≤ D ∧ D < x.length := by
    rw [eA, eB]
    exact ⟨min A B, max A B, by omega, by omega, by omega, by omega⟩
  obtain ⟨C, D, eC, eD, hCD, hDx⟩ := emin
  unfold law07_DailyHeld
  rw [show kit_New 100 numbers = some (0, 0) from rfl, Option.bind_some]
  show Option.bind (law07_Made 100 ⟨numbers, 0, 0⟩ ((25 : Nat) : Int)) _ = _
  rw [e0, Option.bind_some]
  show Option.bind (nz ((x.length : Nat) : Int)) (fun un => Option.bind (nz ((x.length : Nat) : Int)) fun un_1 => Option.bind (daily_Fill 100 r) fun r_2 => Option.bind (daily_Holds 100 r x) fun r_3 => Option.bind (daily_Clash 100 r) fun r_4 => Option.bind (daily_Volume 100 r (min ((W a).tmod ((x.length : Nat) : Int)) ((W b).tmod ((x.length : Nat) : Int))) (max ((W a).tmod ((x.length : Nat) : Int)) ((W b).tmod ((x.length : Nat) : Int)))) _) = _
  have ehold : daily_Holds 100 r x = some (-1, 0) := by
    rw [hx]
    exact (held_b18 hr hag htr (A := 0) (B := 0) (Nat.le_refl _) (by omega)).1
  have eclash : daily_Clash 100 r = some (0, 0, 5) := by
    rw [Clash_spec hN (by omega)]
    unfold clashR
    rw [if_pos (check_iff.2 hr), (clash_agree hr).2 hag]
  rw [hz, Option.bind_some, Option.bind_some, Fill_spec hN (by omega), Option.bind_some, fillF_ok hr hag, ehold, Option.bind_some, eclash, Option.bind_some, eC, eD, Volume_spec hN (by omega), Option.bind_some, volR_ok hr hag hCD (by omega)]
  have c1 : (((((((0 : Int) != 0) || ((0 : Int) != 0)) || ((5 : Int) != 5)) || ((0 : Int) != 0)) || ((-1 : Int) != (-1))) || ((((told r).length : Nat) : Int) != ((x.length : Nat) : Int))) = false := by
    rw [told_len, hlen]
    simp only [bne_self_eq_false, Bool.or_false]
  show cond (((((((0 : Int) != 0) || ((0 : Int) != 0)) || ((5 : Int) != 5)) || ((0 : Int) != 0)) || ((-1 : Int) != (-1))) || ((((told r).length : Nat) : Int) != ((x.length : Nat) : Int))) _ _ = _
  rw [c1, cond_false]
  have l14 := runS (ρ := Bool) (fun i : Nat => (i : Int)) x.length (fun s14 => law07_DailyHeld_b14 100 (r, x, u0, m0) (told r, 0) s14) (fun i hi => by
    show law07_DailyHeld_b14 100 (r, x, u0, m0) (told r, 0) (i : Int) = _
    unfold law07_DailyHeld_b14
    have ht := htr.told hr.rise.1 hr.fall.1 (i := i) (by omega)
    show cond (decide ((i : Int) < ((x.length : Nat) : Int))) (Option.bind (getI x (i : Int)) fun e_7 => Option.bind (getI (told r) (i : Int)) _) _ = _
    rw [lt_dec hi, cond_true, getI_d 0 hi, Option.bind_some, told_get (by omega), Option.bind_some, Option.bind_some, W_succ (by omega)]
    show Option.bind (cond (decide (x.getD i 0 < tG r i)) (some true) (some (decide (tL r i < x.getD i 0)))) _ = _
    unfold tG tL
    rw [dF (by omega), dF (by omega)]
    rfl) (by
    show law07_DailyHeld_b14 100 (r, x, u0, m0) (told r, 0) (x.length : Int) = _
    unfold law07_DailyHeld_b14
    rw [ge_dec, cond_false]) (N := 100) (by omega)
  show Option.bind (loopO (fun s14 => law07_DailyHeld_b14 100 (r, x, u0, m0) (told r, 0) s14) 100 ((0 : Nat) : Int)) _ = _
  rw [l14, Option.bind_some]
  show Option.bind (law07_lists 100 (told r)) _ = _
  rw [lists_spec hN (by omega), Option.bind_some]
  have q0 := held_b18 hr hag (agree_low hr hag) hCD (by omega)
  have q1 := held_b18 hr hag (agree_high hr hag) hCD (by omega)
  have q2 := held_b18 hr hag htr hCD (by omega)
  rw [← hx] at q2
  have l18 := runS (ρ := Bool) (fun i : Nat => (i : Int)) 3 (fun s18 => law07_DailyHeld_b18 100 a b (r, x, u0, m0) (⟨psum (tG r) C (D + 1 - C), psum (tL r) C (D + 1 - C)⟩, 0) (rl r.Days.length (tG r), rl r.Days.length (tL r)) s18) (fun i hi => by
    show law07_DailyHeld_b18 100 a b (r, x, u0, m0) (⟨psum (tG r) C (D + 1 - C), psum (tL r) C (D + 1 - C)⟩, 0) (rl r.Days.length (tG r), rl r.Days.length (tL r)) (i : Int) = _
    unfold law07_DailyHeld_b18
    show cond (decide ((i : Int) < 3)) (Option.bind (getI [rl r.Days.length (tG r), rl r.Days.length (tL r), x] (i : Int)) fun e_6 => Option.bind (daily_Holds 100 r e_6) fun r_11 => Option.bind (subO e_6 (min ((W a).tmod ((x.length : Nat) : Int)) ((W b).tmod ((x.length : Nat) : Int))) (W ((max ((W a).tmod ((x.length : Nat) : Int)) ((W b).tmod ((x.length : Nat) : Int))) + 1))) _) _ = _
    rw [dT (by omega), cond_true, eC, eD, W_succ (by omega)]
    rcases (show i = 0 ∨ i = 1 ∨ i = 2 by omega) with rfl | rfl | rfl
    · rw [show getI [rl r.Days.length (tG r), rl r.Days.length (tL r), x] ((0 : Nat) : Int) = some (rl r.Days.length (tG r)) from rfl, Option.bind_some, q0.1, Option.bind_some, q0.2.1, Option.bind_some, q0.2.2.1, Option.bind_some]
      show cond ((((((((0 : Int) != 0) || ((-1 : Int) != (-1))) || (decide (psum (tG r) C (D + 1 - C) < psum (tG r) C (D + 1 - C)))) || (decide (psum (tL r) C (D + 1 - C) < psum (tG r) C (D + 1 - C)))) || (true && (psum (tG r) C (D + 1 - C) != psum (tG r) C (D + 1 - C)))) || (false && _))) _ _ = _
      rw [dF (by omega), dF (by omega), bne_self_eq_false, bne_self_eq_false, bne_self_eq_false]
      rfl
    · rw [show getI [rl r.Days.length (tG r), rl r.Days.length (tL r), x] ((1 : Nat) : Int) = some (rl r.Days.length (tL r)) from rfl, Option.bind_some, q1.1, Option.bind_some, q1.2.1, Option.bind_some, q1.2.2.1, Option.bind_some]
      show cond ((((((((0 : Int) != 0) || ((-1 : Int) != (-1))) || (decide (psum (tL r) C (D + 1 - C) < psum (tG r) C (D + 1 - C)))) || (decide (psum (tL r) C (D + 1 - C) < psum (tL r) C (D + 1 - C)))) || (false && _)) || (true && (psum (tL r) C (D + 1 - C) != psum (tL r) C (D + 1 - C))))) _ _ = _
      rw [dF (by omega), dF (by omega), bne_self_eq_false, bne_self_eq_false, bne_self_eq_false]
      rfl
    · rw [show getI [rl r.Days.length (tG r), rl r.Days.length (tL r), x] ((2 : Nat) : Int) = some x from rfl, Option.bind_some, q2.1, Option.bind_some, q2.2.1, Option.bind_some, q2.2.2.1, Option.bind_some]
      show cond ((((((((0 : Int) != 0) || ((-1 : Int) != (-1))) || (decide (psum (fun i => x.getD i 0) C (D + 1 - C) < psum (tG r) C (D + 1 - C)))) || (decide (psum (tL r) C (D + 1 - C) < psum (fun i => x.getD i 0) C (D + 1 - C)))) || (false && _)) || (false && _))) _ _ = _
      rw [dF (by omega), dF (by omega), bne_self_eq_false, bne_self_eq_false]
      rfl) (by
    show law07_DailyHeld_b18 100 a b (r, x, u0, m0) (⟨psum (tG r) C (D + 1 - C), psum (tL r) C (D + 1 - C)⟩, 0) (rl r.Days.length (tG r), rl r.Days.length (tL r)) ((3 : Nat) : Int) = _
    unfold law07_DailyHeld_b18
    rfl) (N := 100) (by omega)
  show Option.bind (loopO (fun s18 => law07_DailyHeld_b18 100 a b (r, x, u0, m0) (⟨psum (tG r) C (D + 1 - C), psum (tL r) C (D + 1 - C)⟩, 0) (rl r.Days.length (tG r), rl r.Days.length (tL r)) s18) 100 ((0 : Nat) : Int)) _ = _
  rw [l18, Option.bind_some]
  have eA' : (W a).tmod (((told r).length : Nat) : Int) = (A : Int) := by
    rw [told_len, ← hlen]
    exact eA
  have hz' : nz (((told r).length : Nat) : Int) = some () := by rw [told_len, ← hlen]; exact hz
  show Option.bind (nz (((told r).length : Nat) : Int)) (fun un_2 => Option.bind (getI (told r) ((W a).tmod (((told r).length : Nat) : Int))) fun e_1 => Option.bind (getI (told r) ((W a).tmod (((told r).length : Nat) : Int))) _) = _
  rw [hz', Option.bind_some, eA', told_get (by omega), Option.bind_some, Option.bind_some]
  have hbA := told_bd hr A
  have hAg := agB_iff.1 hag A (by omega)
  have hstep : ∀ n : Int, (n < tG r A ∨ tL r A < n) → -10 ≤ n → n ≤ 2000000000 → ∀ j : Nat, j < 1000 → (cond ((decide (n < 0)) || (decide (1000000000 < n))) (law07_DailyHeld_j26 100 (j : Int)) (Option.bind (kit_Copy_daily_Value 100 r.Days) fun r_8 => Option.bind (law07_known 100 n n) fun r_9 => Option.bind (getI r_8 (A : Int)) fun e_4 => Option.bind (daily_Fill 100 (⟨r.Rise, r.Fall, (r_8.set A r_9)⟩ : daily_Record)) fun r_10 => Option.bind (getI r.Days (A : Int)) fun e_5 => cond (((!e_5.Known) || ((decide (e_5.Flow.Lo ≤ n)) && (decide (n ≤ e_5.Flow.Hi)))) && (r_10.2 != 7)) (some (.ret false)) (law07_DailyHeld_j26 100 (j : Int)))) = some (Step.cont ((j + 1 : Nat) : Int)) := by
    intro n hout hn1 hn2 j hj
    have ej : law07_DailyHeld_j26 100 (j : Int) = some (Step.cont ((j + 1 : Nat) : Int)) := by
      unfold law07_DailyHeld_j26
      rw [W_succ (by omega)]
    rw [ej]
    by_cases hn : 0 ≤ n ∧ n ≤ 1000000000
    · rw [dF (by omega), dF (by omega), Bool.or_false, cond_false]
      have hcp : kit_Copy_daily_Value 100 r.Days = some r.Days := by
        unfold kit_Copy_daily_Value
        rw [room_ok (by omega), Option.bind_some]
      rw [hcp, Option.bind_some, show law07_known 100 n n = some ⟨true, ⟨n, n⟩⟩ from rfl, Option.bind_some, getI_d dv0 (by omega), Option.bind_some]
      cases hk : (r.Days.getD A dv0).Known with
      | false =>
        have ho : lo r A ≤ n ∧ n ≤ hi r A := by
          unfold lo hi vs
          rw [hk]
          exact hn
        rw [held_wrong hr (by omega) hn ho hout, Option.bind_some, Option.bind_some, hk]
        rfl
      | true =>
        by_cases ho : (r.Days.getD A dv0).Flow.Lo ≤ n ∧ n ≤ (r.Days.getD A dv0).Flow.Hi
        · have ho' : lo r A ≤ n ∧ n ≤ hi r A := by
            unfold lo hi vs
            rw [hk]
            exact ho
          rw [held_wrong hr (by omega) hn ho' hout, Option.bind_some, Option.bind_some, hk, dT ho.1, dT ho.2]
          rfl
        · have e : (decide ((r.Days.getD A dv0).Flow.Lo ≤ n) && decide (n ≤ (r.Days.getD A dv0).Flow.Hi)) = false := by
            rw [Bool.and_eq_false_iff, decide_eq_false_iff_not, decide_eq_false_iff_not]
            omega
          rw [Fill_spec hN (by simp; omega), Option.bind_some, Option.bind_some, hk, e]
          rfl
    · have e : (decide (n < 0) || decide (1000000000 < n)) = true := by
        rw [Bool.or_eq_true, decide_eq_true_eq, decide_eq_true_eq]
        omega
      rw [e, cond_true]
  have l22 := runS (ρ := Bool) (fun i : Nat => (i : Int)) 2 (fun s22 => law07_DailyHeld_b22 100 a (r, x, u0, m0) (told r, 0) ⟨tG r A, tL r A⟩ ⟨tG r A, tL r A⟩ s22) (fun i hi => by
    show law07_DailyHeld_b22 100 a (r, x, u0, m0) (told r, 0) ⟨tG r A, tL r A⟩ ⟨tG r A, tL r A⟩ (i : Int) = _
    unfold law07_DailyHeld_b22
    show cond (decide ((i : Int) < 2)) (Option.bind (getI [W (tG r A - 1), W (tL r A + 1)] (i : Int)) fun e_3 => cond ((decide (e_3 < 0)) || (decide (1000000000 < e_3))) (law07_DailyHeld_j26 100 (i : Int)) (Option.bind (kit_Copy_daily_Value 100 r.Days) fun r_8 => Option.bind (law07_known 100 e_3 e_3) fun r_9 => Option.bind (getI r_8 ((W a).tmod (((told r).length : Nat) : Int))) fun e_4 => Option.bind (daily_Fill 100 (⟨r.Rise, r.Fall, (r_8.set ((W a).tmod (((told r).length : Nat) : Int)).toNat r_9)⟩ : daily_Record)) fun r_10 => Option.bind (getI r.Days ((W a).tmod (((told r).length : Nat) : Int))) _)) _ = _
    rw [dT (by omega), cond_true, eA', Int.toNat_natCast, W_sm (n := tG r A - 1) (by omega) (by omega), W_sm (n := tL r A + 1) (by omega) (by omega)]
    rcases (show i = 0 ∨ i = 1 by omega) with rfl | rfl
    · rw [show getI [tG r A - 1, tL r A + 1] ((0 : Nat) : Int) = some (tG r A - 1) from rfl, Option.bind_some]
      exact hstep (tG r A - 1) (.inl (by omega)) (by omega) (by omega) 0 (by omega)
    · rw [show getI [tG r A - 1, tL r A + 1] ((1 : Nat) : Int) = some (tL r A + 1) from rfl, Option.bind_some]
      exact hstep (tL r A + 1) (.inr (by omega)) (by omega) (by omega) 1 (by omega)) (by
    show law07_DailyHeld_b22 100 a (r, x, u0, m0) (told r, 0) ⟨tG r A, tL r A⟩ ⟨tG r A, tL r A⟩ ((2 : Nat) : Int) = _
    unfold law07_DailyHeld_b22
    rfl) (N := 100) (by omega)
  show Option.bind (loopO (fun s22 => law07_DailyHeld_b22 100 a (r, x, u0, m0) (told r, 0) ⟨tG r A, tL r A⟩ ⟨tG r A, tL r A⟩ s22) 100 ((0 : Nat) : Int)) _ = _
  rw [l22, Option.bind_some]
  show Option.bind (law07_awake 100) _ = _
  rw [awake_true]
  rfl
end Go.Nilo
