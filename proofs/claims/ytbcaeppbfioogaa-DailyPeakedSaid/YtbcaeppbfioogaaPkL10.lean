/-
  What the plain functions compute, in plain arithmetic, part 10. Conditions: what each theorem names.
-/
import Derived.Test.YtbcaeppbfioogaaPkL9
set_option linter.unusedSimpArgs false
set_option linter.unusedVariables false
namespace Go.Nilo
theorem contains_spec {N : Nat} {l : List Int} (hl : l.length ≤ 1000) (hN : l.length < N) {v : Int} (hv : v ∈ l) : slices_Contains_Lint_int N l v = some true := by
  unfold slices_Contains_Lint_int slices_Index_Lint_int
  rcases indexLoop (fun e => v == e) l (by omega) (fun s4 => slices_Index_Lint_int_b4 N l v s4) (fun x => rfl) l.length 0 N (by omega) hN with ⟨k, h1, h2, -⟩ | ⟨-, h2⟩
  · rw [show ((0 : Nat) : Int) = 0 from rfl] at h1
    rw [h1]
    show some (decide (0 ≤ k)) = _
    rw [dT h2]
  · rw [List.drop_zero] at h2
    have := List.any_eq_false.1 h2 v hv
    simp at this

theorem max_bd {r : daily_Record} (hr : ROk r) (ha : agB r = true) {z : Nat → Int} (ht : Tru (lo r) (hi r) r.Rise r.Fall r.Days.length z) : pkG r ≤ maxF z (r.Days.length - 1) ∧ maxF z (r.Days.length - 1) ≤ pkL r ∧ ∀ d, d < r.Days.length → z d = maxF z (r.Days.length - 1) → (d : Int) ∈ pkD r := by
  have h1 := hr.n1
  have k1 : pkG r ≤ maxF z (r.Days.length - 1) := maxF_mono fun i hi => (ht.told hr.rise.1 hr.fall.1 (by omega)).1
  refine ⟨k1, maxF_mono fun i hi => (ht.told hr.rise.1 hr.fall.1 (by omega)).2, fun d hd he => mem_filt.2 ⟨d, hd, dT ?_, rfl⟩⟩
  have : z d ≤ tL r d := (ht.told hr.rise.1 hr.fall.1 hd).2
  omega
theorem peaked_b39 {r : daily_Record} (hr : ROk r) (ha : agB r = true) {z : Nat → Int} (ht : Tru (lo r) (hi r) r.Rise r.Fall r.Days.length z) :
    loopO (fun s39 => law07_DailyPeaked_b39 100 (⟨pkG r, pkL r⟩, pkD r, 0) (rl r.Days.length z) (maxF z (r.Days.length - 1)) s39) 100 0 = some (.go (r.Days.length : Int)) := by
  have h60 := hr.n60
  have hDr : (pkD r).length ≤ r.Days.length := filt_len
  have := runS (ρ := Step Int Bool) (fun i : Nat => (i : Int)) r.Days.length (fun s39 => law07_DailyPeaked_b39 100 (⟨pkG r, pkL r⟩, pkD r, 0) (rl r.Days.length z) (maxF z (r.Days.length - 1)) s39) (fun i hi => by
    show law07_DailyPeaked_b39 100 (⟨pkG r, pkL r⟩, pkD r, 0) (rl r.Days.length z) (maxF z (r.Days.length - 1)) (i : Int) = _
    unfold law07_DailyPeaked_b39
    rw [rl_len, lt_dec hi, cond_true, rl_get hi, Option.bind_some, W_succ (by omega)]
    cases he : (z i == maxF z (r.Days.length - 1)) with
    | false => rfl
    | true =>
      rw [beq_iff_eq] at he
      show Option.bind (Option.bind (slices_Contains_Lint_int 100 (pkD r) (i : Int)) _) _ = _
      rw [contains_spec (by omega) (by omega) ((max_bd hr ha ht).2.2 i hi he)]
      rfl) (by
    show law07_DailyPeaked_b39 100 (⟨pkG r, pkL r⟩, pkD r, 0) (rl r.Days.length z) (maxF z (r.Days.length - 1)) (r.Days.length : Int) = _
    unfold law07_DailyPeaked_b39
    rw [rl_len, ge_dec, cond_false]) (N := 100) (by omega)
  exact this
theorem peaked_law {numbers : List Int} (h1 : Bytes numbers) {which : Int} (hw : 0 ≤ which ∧ which ≤ 255) : law07_DailyPeaked 100 numbers which = some true := by
  have hN : 100 ≤ 100 := Nat.le_refl _
  obtain ⟨r, x, u0, m0, e0, hm, x1, x20⟩ := Made_spec hN h1 (most := 20) (by omega)
  have hlen := hm.len
  obtain ⟨hr, hag⟩ := fill_true hm x1 (by omega)
  have htr := hm.tru (by omega)
  have hx : x = rl r.Days.length fun i => x.getD i 0 := truth_rl hm
  have hn1 := hr.n1
  have hDr : (pkD r).length ≤ r.Days.length := filt_len
  have hD1 : 1 ≤ (pkD r).length := by
    obtain ⟨k, k1, k2⟩ := maxF_mem (g := tG r) (r.Days.length - 1)
    have : (k : Int) ∈ pkD r := mem_filt.2 ⟨k, by omega, dT (by
      have := agB_iff.1 hag k (by omega)
      show pkG r ≤ tL r k
      unfold pkG
      rw [k2]
      exact this), rfl⟩
    exact List.length_pos_of_mem this
  unfold law07_DailyPeaked
  rw [show kit_New 100 numbers = some (0, 0) from rfl, Option.bind_some]
  show Option.bind (law07_Made 100 ⟨numbers, 0, 0⟩ ((20 : Nat) : Int)) _ = _
  rw [e0, Option.bind_some]
  show Option.bind (daily_Fill 100 r) (fun r_2 => Option.bind (daily_Peak 100 r) _) = _
  rw [Fill_spec hN (by omega), Option.bind_some, fillF_ok hr hag, Peak_spec hN (by omega), Option.bind_some, peakR_ok hr hag]
  have c1 : ((((((0 : Int) != 0) || ((0 : Int) != 0)) || ((((told r).length : Nat) : Int) != ((x.length : Nat) : Int)))) || ((((pkD r).length : Nat) : Int) == 0)) = false := by
    rw [told_len, hlen]
    have : ((((pkD r).length : Nat) : Int) == 0) = false := by
      rw [beq_eq_false_iff_ne]
      omega
    rw [this]
    simp only [bne_self_eq_false, Bool.or_false]
  show cond ((((((0 : Int) != 0) || ((0 : Int) != 0)) || ((((told r).length : Nat) : Int) != ((x.length : Nat) : Int)))) || ((((pkD r).length : Nat) : Int) == 0)) _ _ = _
  rw [c1, cond_false]
  show Option.bind (law07_lists 100 (told r)) _ = _
  rw [lists_spec hN (by omega), Option.bind_some]
  have t0 := agree_low hr hag
  have t1 := agree_high hr hag
  have m0' := max_bd hr hag t0
  have m1' := max_bd hr hag t1
  have m2' := max_bd hr hag htr
  have hmx : ∀ z : Nat → Int, slices_Max_Lint_int 100 (rl r.Days.length z) = some (maxF z (r.Days.length - 1)) := fun z => max_rl hN hn1 (by omega)
  have l11 := runS (ρ := Bool) (fun i : Nat => (i : Int)) 3 (fun s11 => law07_DailyPeaked_b11 100 (r, x, u0, m0) (⟨pkG r, pkL r⟩, pkD r, 0) (rl r.Days.length (tG r), rl r.Days.length (tL r)) s11) (fun i hi => by
    show law07_DailyPeaked_b11 100 (r, x, u0, m0) (⟨pkG r, pkL r⟩, pkD r, 0) (rl r.Days.length (tG r), rl r.Days.length (tL r)) (i : Int) = _
    unfold law07_DailyPeaked_b11
    show cond (decide ((i : Int) < 3)) (Option.bind (getI [rl r.Days.length (tG r), rl r.Days.length (tL r), x] (i : Int)) _) _ = _
    rw [dT (by omega), cond_true, W_succ (by omega)]
    rcases (show i = 0 ∨ i = 1 ∨ i = 2 by omega) with rfl | rfl | rfl
    · rw [show getI [rl r.Days.length (tG r), rl r.Days.length (tL r), x] ((0 : Nat) : Int) = some (rl r.Days.length (tG r)) from rfl, Option.bind_some, hmx, Option.bind_some, peaked_b39 hr hag t0]
      show cond ((((decide (pkG r < pkG r)) || (decide (pkL r < pkG r))) || (true && (pkG r != pkG r))) || (false && _)) _ _ = _
      have : pkG r ≤ pkL r := m0'.2.1
      rw [dF (by omega), dF (by omega), bne_self_eq_false]
      rfl
    · rw [show getI [rl r.Days.length (tG r), rl r.Days.length (tL r), x] ((1 : Nat) : Int) = some (rl r.Days.length (tL r)) from rfl, Option.bind_some, hmx, Option.bind_some, peaked_b39 hr hag t1]
      show cond ((((decide (pkL r < pkG r)) || (decide (pkL r < pkL r))) || (false && _)) || (true && (pkL r != pkL r))) _ _ = _
      have : pkG r ≤ pkL r := m1'.1
      rw [dF (by omega), dF (by omega), bne_self_eq_false]
      rfl
    · rw [show getI [rl r.Days.length (tG r), rl r.Days.length (tL r), x] ((2 : Nat) : Int) = some (rl r.Days.length fun i => x.getD i 0) from congrArg some hx, Option.bind_some, hmx, Option.bind_some, peaked_b39 hr hag htr]
      show cond ((((decide (maxF (fun i => x.getD i 0) (r.Days.length - 1) < pkG r)) || (decide (pkL r < maxF (fun i => x.getD i 0) (r.Days.length - 1)))) || (false && _)) || (false && _)) _ _ = _
      have := m2'.1
      have := m2'.2.1
      rw [dF (by omega), dF (by omega)]
      rfl) (by
    show law07_DailyPeaked_b11 100 (r, x, u0, m0) (⟨pkG r, pkL r⟩, pkD r, 0) (rl r.Days.length (tG r), rl r.Days.length (tL r)) ((3 : Nat) : Int) = _
    unfold law07_DailyPeaked_b11
    rfl) (N := 100) (by omega)
  show Option.bind (loopO (fun s11 => law07_DailyPeaked_b11 100 (r, x, u0, m0) (⟨pkG r, pkL r⟩, pkD r, 0) (rl r.Days.length (tG r), rl r.Days.length (tL r)) s11) 100 ((0 : Nat) : Int)) _ = _
  rw [l11, Option.bind_some]
  have hz : nz (((pkD r).length : Nat) : Int) = some () := by unfold nz; rw [if_neg (by omega)]
  obtain ⟨A, eA, hA⟩ := mod_lt hw hD1
  show Option.bind (nz (((pkD r).length : Nat) : Int)) (fun un => Option.bind (getI (pkD r) ((W which).tmod (((pkD r).length : Nat) : Int))) _) = _
  rw [hz, Option.bind_some, eA, getI_nat hA, Option.bind_some]
  obtain ⟨d, d1, d2, d3⟩ := mem_filt.1 (List.getElem_mem (l := pkD r) hA)
  have d4 : pkG r ≤ tL r d := of_decide_eq_true d2
  rw [d3]
  show cond ((decide ((d : Int) < 0)) || (decide ((((told r).length : Nat) : Int) ≤ (d : Int)))) _ _ = _
  rw [told_len, dF (by omega), dF (by omega), Bool.or_false, cond_false]
  -- as much as it can be on that day
  have hr1 := hr.rise
  have hr2 := hr.fall
  have h60 := hr.n60
  have hbd := told_bd hr
  generalize hzz : (fun i => max (tG r i) (tL r d - U r.Rise r.Fall i d)) = z
  have hzi : ∀ i, z i = max (tG r i) (tL r d - U r.Rise r.Fall i d) := fun i => by rw [← hzz]
  have tz : Tru (lo r) (hi r) r.Rise r.Fall r.Days.length z := by
    refine ⟨fun i hi' => ?_, fun i hi' => ?_⟩
    · rw [hzi]
      have k1 := (t0.own i hi')
      have k2 := (t1.own i hi')
      have k3 := agB_iff.1 hag i hi'
      have k4 : tL r d ≤ tL r i + U r.Rise r.Fall i d := L_step hr1.1 hr2.1 d1 hi'
      unfold tG tL at *
      omega
    · rw [hzi, hzi]
      have k1 := t0.st i hi'
      have k2 := U_tri hr1.1 hr2.1 (a := i) (b := i + 1) (c := d)
      have k3 := U_tri hr1.1 hr2.1 (a := i + 1) (b := i) (c := d)
      have e1 : U r.Rise r.Fall i (i + 1) = r.Rise := by rw [U_up (by omega), show i + 1 - i = 1 by omega]; simp
      have e2 : U r.Rise r.Fall (i + 1) i = r.Fall := by rw [U_down (by omega), show i + 1 - i = 1 by omega]; simp
      omega
  have zbd := tru_bd hr tz
  have l19 := runS (ρ := Bool) (fun i : Nat => ((rl i z, (i : Int)) : List Int × Int)) r.Days.length (fun s19 => law07_DailyPeaked_b19 100 (r, x, u0, m0) (told r, 0) (d : Int) s19.1 s19.2) (fun i hi => by
    show law07_DailyPeaked_b19 100 (r, x, u0, m0) (told r, 0) (d : Int) (rl i z) (i : Int) = _
    unfold law07_DailyPeaked_b19
    have b1 := hbd i
    have b2 := hbd d
    have u1 := U_sm hr (a := i) (b := d) (by omega) (by omega)
    have ej : ∀ near : Int, max (tG r i) near = z i → law07_DailyPeaked_j27 100 (rl i z) (i : Int) ⟨tG r i, tL r i⟩ near = some (.cont (rl (i + 1) z, ((i + 1 : Nat) : Int))) := fun near hne => by
      unfold law07_DailyPeaked_j27
      show Option.bind (room (rl i z ++ [max (tG r i) near]).length) (fun _ => some (Step.cont (rl i z ++ [max (tG r i) near], W ((i : Int) + 1)))) = _
      rw [hne, ← rl_snoc, room_ok (by rw [rl_len]; omega), Option.bind_some, W_succ (by omega)]
    show cond (decide ((i : Int) < (((told r).length : Nat) : Int))) (Option.bind (getI (told r) (i : Int)) fun e_3 => Option.bind (getI (told r) (d : Int)) _) _ = _
    rw [told_len, lt_dec hi, cond_true, told_get hi, Option.bind_some, told_get d1, Option.bind_some]
    by_cases hid : i < d
    · rw [dT (show (i : Int) < (d : Int) by omega), cond_true]
      have e1 : r.Rise * ((d : Int) - (i : Int)) = U r.Rise r.Fall i d := by rw [U_up (by omega), Int.mul_comm, show (d : Int) - (i : Int) = ((d - i : Nat) : Int) by omega]
      rw [Option.bind_some]
      show law07_DailyPeaked_j27 100 (rl i z) (i : Int) ⟨tG r i, tL r i⟩ (W (tL r d - (W (r.Rise * (W ((d : Int) - (i : Int))))))) = _
      rw [W_sm (n := (d : Int) - (i : Int)) (by omega) (by omega), e1, W_sm (n := U r.Rise r.Fall i d) (by omega) (by omega), W_sm (n := tL r d - U r.Rise r.Fall i d) (by omega) (by omega)]
      exact ej _ (hzi i).symm
    · rw [dF (show ¬ (i : Int) < (d : Int) by omega), cond_false]
      show law07_DailyPeaked_j27 100 (rl i z) (i : Int) ⟨tG r i, tL r i⟩ (W (tL r d - (W (r.Fall * (W ((i : Int) - (d : Int))))))) = _
      have e1 : r.Fall * ((i : Int) - (d : Int)) = U r.Rise r.Fall i d := by rw [U_down (by omega), Int.mul_comm, show (i : Int) - (d : Int) = ((i - d : Nat) : Int) by omega]
      rw [W_sm (n := (i : Int) - (d : Int)) (by omega) (by omega), e1, W_sm (n := U r.Rise r.Fall i d) (by omega) (by omega), W_sm (n := tL r d - U r.Rise r.Fall i d) (by omega) (by omega)]
      exact ej _ (hzi i).symm) (by
    show law07_DailyPeaked_b19 100 (r, x, u0, m0) (told r, 0) (d : Int) _ (r.Days.length : Int) = _
    unfold law07_DailyPeaked_b19
    show cond (decide ((r.Days.length : Int) < (((told r).length : Nat) : Int))) _ _ = _
    rw [told_len, ge_dec, cond_false]) (N := 100) (by omega)
  show Option.bind (loopO (fun s19 => law07_DailyPeaked_b19 100 (r, x, u0, m0) (told r, 0) (d : Int) s19.1 s19.2) 100 (rl 0 z, ((0 : Nat) : Int))) _ = _
  rw [l19, Option.bind_some]
  show Option.bind (daily_Holds 100 r (rl r.Days.length z)) (fun r_5 => Option.bind (cond ((r_5.2 == 0) && (r_5.1 == (-1))) (Option.bind (slices_Max_Lint_int 100 (rl r.Days.length z)) fun r_6 => Option.bind (getI (rl r.Days.length z) (d : Int)) fun e_2 => some (r_6 == e_2)) (some false)) _) = _
  have emax : maxF z (r.Days.length - 1) = z d := by
    refine Int.le_antisymm ((maxF_iff _).2 fun k hk => ?_) (le_maxF (by omega))
    have k1 : tG r k ≤ pkG r := le_maxF hk
    have k2 := U_nonneg hr1.1 hr2.1 (a := k) (b := d)
    rw [hzi, hzi, U_self]
    omega
  rw [Holds_spec hN (by omega), holds_ok hr zbd tz, Option.bind_some, hmx, Option.bind_some, rl_get d1, Option.bind_some, emax, awake_true, show ((0 : Int) == 0) = true from rfl, show ((-1 : Int) == (-1)) = true from rfl, beq_self_eq_true]
  rfl
end Go.Nilo
