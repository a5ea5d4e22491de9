/-
  What the plain functions compute, in plain arithmetic, part 17. Conditions: what each theorem names.
-/
import Derived.Test.YtepopogbmjfpeaaSoL16
set_option linter.unusedSimpArgs false
set_option linter.unusedVariables false
namespace Go.Nilo
theorem getI_canF {l : List api_Span} {m : Int} {i : Nat} (hi : i < l.length) : getI (canF l m) (i : Int) = some (cspan l m i) := by
  rw [getI_d s00 (by rw [canF_len]; exact hi), canF_get hi]
theorem seas_inner {N : Nat} (hN : 700 ≤ N) {r : shift_Record} {c : List Int} (hg : Gd r c 12) {last m e0 e1 : Int} {z : Int × Int} (hl : leastF (passes r) ≤ last) (hlm : last ≤ m) :
    loopO (fun s29 => law05_ShiftSeasoned_b29 N (r, c, z) (passes r, e0) (courseF (passes r), leastF (passes r), e1) (move c) (canF (passes r) last) m (canF (passes r) m, 0) s29) N 0 = some (.go ((passes r).length : Int)) := by
  obtain ⟨hok, hcr⟩ := hg.crs (by omega)
  have hr := hg.rcd (by omega)
  have hv := passes_vl hr hok
  have h32 := hv.l32
  obtain ⟨k1, k2⟩ := course_spec hv
  have hcl := hcr.len
  have hkl := k1.len
  have hall := (can_least hv (m := m)).2 (by omega)
  have hlast := (can_least hv (m := last)).2 hl
  refine runS (fun i : Nat => (i : Int)) (passes r).length _ (fun i hi => ?_) ?_ (by omega)
  · show law05_ShiftSeasoned_b29 N (r, c, z) (passes r, e0) (courseF (passes r), leastF (passes r), e1) (move c) (canF (passes r) last) m (canF (passes r) m, 0) (i : Int) = _
    unfold law05_ShiftSeasoned_b29
    obtain ⟨b1, b2, b3, b4, b5⟩ := cspan_bd hv hall hi
    obtain ⟨m1, m2⟩ := cspan_mono hv hlm hlast hi
    have g2 : getI (canF (passes r) m) (i : Int) = some (cspan (passes r) m i) := getI_canF hi
    have g3 : getI (canF (passes r) last) (i : Int) = some (cspan (passes r) last i) := getI_canF hi
    have g7 : getI (passes r) (i : Int) = some ((passes r).getD i s00) := getI_d s00 hi
    have g10 : getI c (i : Int) = some (c.getD i 0) := getI_d 0 (by omega)
    have g14 : getI (courseF (passes r)) (i : Int) = some ((courseF (passes r)).getD i 0) := getI_d 0 (by omega)
    have cc := can_in hv k1 (show move (courseF (passes r)) ≤ m by omega) hi
    simp only [canF_len, lt_dec hi, cond_true, g2, g3, g7, g10, g14, Option.bind_some, dF (show ¬ (cspan (passes r) last i).Lo < (cspan (passes r) m i).Lo by omega), cond_false, dF (show ¬ (cspan (passes r) m i).Hi < (cspan (passes r) last i).Hi by omega), dF (show ¬ (cspan (passes r) m i).Lo < ((passes r).getD i s00).Lo by omega), dF (show ¬ ((passes r).getD i s00).Hi < (cspan (passes r) m i).Hi by omega), dF (show ¬ (courseF (passes r)).getD i 0 < (cspan (passes r) m i).Lo by omega), dF (show ¬ (cspan (passes r) m i).Hi < (courseF (passes r)).getD i 0 by omega), W_succ (show i < 9223372036854775807 by omega)]
    by_cases hm : move c ≤ m
    · have ct := can_in hv hcr hm hi
      simp only [dT hm, cond_true, dF (show ¬ c.getD i 0 < (cspan (passes r) m i).Lo by omega), dF (show ¬ (cspan (passes r) m i).Hi < c.getD i 0 by omega), cond_false, Option.bind_some]
    · simp only [dF hm, cond_false, Option.bind_some]
  · show law05_ShiftSeasoned_b29 N (r, c, z) (passes r, e0) (courseF (passes r), leastF (passes r), e1) (move c) (canF (passes r) last) m (canF (passes r) m, 0) ((passes r).length : Int) = _
    unfold law05_ShiftSeasoned_b29
    simp only [canF_len, ge_dec, cond_false]
theorem seas_law {N : Nat} (hN : 700 ≤ N) {bs : List Int} (hb : Bytes bs) {more : Int} (hm : 0 ≤ more ∧ more ≤ 255) : law05_ShiftSeasoned N bs more = some true := by
  unfold law05_ShiftSeasoned
  rw [show kit_New N bs = some (0, 0) from rfl, Option.bind_some]
  obtain ⟨r, c, u, m, k, a1, a2, a3, hg⟩ := Gauged_spec hN hb (u := 0) (m := 0) (k := 0) ⟨by omega, by omega, by omega, by omega⟩ (by omega) (most := 12) (by omega)
  show Option.bind (law05_Gauged N ⟨bs, 0, 0⟩ ((12 : Nat) : Int)) _ = _
  rw [a1, Option.bind_some]
  obtain ⟨hok, hcr⟩ := hg.crs (by omega)
  have hr := hg.rcd (by omega)
  have hv := passes_vl hr hok
  have h32 := hv.l32
  obtain ⟨k1, k2⟩ := course_spec hv
  have hmv := hg.mv (by omega)
  have hmn := move_nonneg c
  have hle := least_le hv hcr
  have hl0 := least_nonneg hv
  have hkl := k1.len
  show Option.bind (shift_Passes N r) _ = _
  rw [Passes_ok hN hr hok, Option.bind_some]
  show Option.bind (shift_Least N r) _ = _
  rw [Least_spec hN hr hok, Option.bind_some]
  show cond ((((0 : Int) != 0) || ((0 : Int) != 0)) || (decide (leastF (passes r) < 0)) || (decide (18000 < leastF (passes r)))) (some false) (Option.bind (shift_Can N r (leastF (passes r))) _) = _
  rw [dF (show ¬ leastF (passes r) < 0 by omega), dF (show ¬ 18000 < leastF (passes r) by omega)]
  show Option.bind (shift_Can N r (leastF (passes r))) _ = _
  rw [((Can_two hN hr hok (most := leastF (passes r)) (by omega)).1 (Int.le_refl _)), Option.bind_some]
  show cond ((((0 : Int) != 0) || (((canF (passes r) (leastF (passes r))).length : Int) != ((passes r).length : Int))) || (((courseF (passes r)).length : Int) != ((passes r).length : Int))) (some false) _ = _
  rw [canF_len, hkl]
  have e0 : ((((0 : Int) != 0) || (((passes r).length : Int) != ((passes r).length : Int))) || (((passes r).length : Int) != ((passes r).length : Int))) = false := by
    rw [bne_self_eq_false, bne_self_eq_false]
    rfl
  rw [e0, cond_false]
  have hj : law05_ShiftSeasoned_j12 N more (r, c, u, m) (passes r, 0) (courseF (passes r), leastF (passes r), 0) (canF (passes r) (leastF (passes r)), 0) = some true := by
    unfold law05_ShiftSeasoned_j12
    show Option.bind (law05_moves N c) _ = _
    rw [hg.moves (by omega) hN, Option.bind_some]
    have hmod : (W more).tmod 9 = more % 9 := by rw [W_sm (by omega) (by omega), tmod_mod hm.1]
    have hmod2 : 0 ≤ more % 9 ∧ more % 9 ≤ 8 := by omega
    obtain ⟨g, hgd⟩ : ∃ g : Nat → Int, g = fun i => if i = 0 then leastF (passes r) else if i = 1 then leastF (passes r) + more % 9 else if i = 2 then max (move c) (leastF (passes r) + more % 9) else max (move c) (leastF (passes r)) + 50 := ⟨_, rfl⟩
    have hmono : ∀ i, i < 3 → leastF (passes r) ≤ g i ∧ g i ≤ g (i + 1) ∧ g (i + 1) ≤ 18000 := fun i hi => by
      rw [hgd]
      rcases (show i = 0 ∨ i = 1 ∨ i = 2 by omega) with rfl | rfl | rfl
      · simp; omega
      · simp; omega
      · simp; omega
    have hget : ∀ i : Nat, i < 3 → getI ([leastF (passes r) + more % 9, max (move c) (leastF (passes r) + more % 9), max (move c) (leastF (passes r)) + 50] : List Int) (i : Int) = some (g (i + 1)) := fun i hi => by
      rw [hgd]
      rcases (show i = 0 ∨ i = 1 ∨ i = 2 by omega) with rfl | rfl | rfl <;> rfl
    have := runS (ρ := Bool) (fun i : Nat => ((canF (passes r) (g i), (i : Int)) : List api_Span × Int)) 3 (fun s17 => law05_ShiftSeasoned_b17 N more (r, c, u, m) (passes r, 0) (courseF (passes r), leastF (passes r), 0) (move c) s17.1 s17.2) (fun i hi => by
      show law05_ShiftSeasoned_b17 N more (r, c, u, m) (passes r, 0) (courseF (passes r), leastF (passes r), 0) (move c) (canF (passes r) (g i)) (i : Int) = _
      unfold law05_ShiftSeasoned_b17
      obtain ⟨p1, p2, p3⟩ := hmono i hi
      rw [dT (show (i : Int) < 3 by omega), cond_true]
      show Option.bind (getI ([W (leastF (passes r) + ((W more).tmod 9)), max (move c) (W (leastF (passes r) + ((W more).tmod 9))), W ((max (move c) (leastF (passes r))) + 50)] : List Int) (i : Int)) _ = _
      rw [hmod, W_sm (n := leastF (passes r) + more % 9) (by omega) (by omega), W_sm (n := (max (move c) (leastF (passes r))) + 50) (by omega) (by omega), hget i hi, Option.bind_some]
      show Option.bind (shift_Can N r (g (i + 1))) _ = _
      rw [(Can_two hN hr hok (by omega)).1 (by omega), Option.bind_some]
      show cond (((0 : Int) != 0) || (((canF (passes r) (g (i + 1))).length : Int) != ((passes r).length : Int))) _ _ = _
      rw [canF_len, bne_self_eq_false, bne_self_eq_false, Bool.or_false, cond_false, seas_inner hN hg p1 p2, Option.bind_some]
      show some (Step.cont (canF (passes r) (g (i + 1)), W ((i : Int) + 1))) = _
      rw [W_succ (by omega)]) rfl (N := N) (by omega)
    have e1 : canF (passes r) (leastF (passes r)) = canF (passes r) (g 0) := by rw [hgd]; rfl
    show Option.bind (loopO _ N (canF (passes r) (leastF (passes r)), ((0 : Nat) : Int))) _ = _
    rw [e1, this, Option.bind_some]
    show Option.bind (law05_awake N) _ = _
    rw [awake_true hN]
    rfl
  by_cases hp : 0 < leastF (passes r)
  · rw [dT hp, cond_true]
    show Option.bind (shift_Can N r (W (leastF (passes r) - 1))) _ = _
    rw [W_sm (by omega) (by omega), (Can_two hN hr hok (by omega)).2 (by omega), Option.bind_some]
    exact hj
  · rw [dF hp, cond_false]
    exact hj
end Go.Nilo
