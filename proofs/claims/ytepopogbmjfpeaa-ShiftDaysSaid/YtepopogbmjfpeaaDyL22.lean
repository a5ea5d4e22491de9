/-
  What the plain functions compute, in plain arithmetic, part 22. Conditions: what each theorem names.
-/
import Derived.Test.YtepopogbmjfpeaaDyL21
set_option linter.unusedSimpArgs false
set_option linter.unusedVariables false
namespace Go.Nilo
theorem sub_one {l : List api_Span} {m : Int} {i : Nat} (hi : i < l.length) : subO (canF l m) (i : Int) ((i + 1 : Nat) : Int) = some [cspan l m i] := by
  unfold subO
  rw [if_pos (by rw [canF_len]; omega)]
  congr 1
  refine List.ext_getElem (by rw [List.length_take, List.length_drop, canF_len]; simp; omega) fun k h1 h2 => ?_
  have hk : k < 1 := by simpa using h2
  obtain rfl : k = 0 := by omega
  have := canF_get (l := l) (most := m) hi
  rw [← get_getD (by rw [canF_len]; exact hi)] at this
  simp only [List.getElem_take, List.getElem_drop, Int.toNat_natCast, Nat.add_zero, List.getElem_cons_zero]
  exact this
theorem sub_two {l : List api_Span} {m : Int} {i : Nat} (hi : i + 1 < l.length) : subO (canF l m) (i : Int) ((i + 2 : Nat) : Int) = some [cspan l m i, cspan l m (i + 1)] := by
  unfold subO
  rw [if_pos (by rw [canF_len]; omega)]
  congr 1
  refine List.ext_getElem (by rw [List.length_take, List.length_drop, canF_len]; simp; omega) fun k h1 h2 => ?_
  have hk : k < 2 := by simpa using h2
  have g1 := canF_get (l := l) (most := m) (i := i) (by omega)
  have g2 := canF_get (l := l) (most := m) hi
  rw [← get_getD (by rw [canF_len]; omega)] at g1
  rw [← get_getD (by rw [canF_len]; exact hi)] at g2
  rcases (show k = 0 ∨ k = 1 by omega) with rfl | rfl
  · simp only [List.getElem_take, List.getElem_drop, Int.toNat_natCast, Nat.add_zero, List.getElem_cons_zero]
    exact g1
  · simp only [List.getElem_take, List.getElem_drop, Int.toNat_natCast, List.getElem_cons_succ, List.getElem_cons_zero]
    exact g2
theorem met_iff {r : shift_Record} (hr : RecOk r) (day : Int) : metF r day = true ↔ adF r day < r.Gaugings.length ∧ (r.Gaugings.getD (adF r day) g0).Day = day := by
  constructor
  · exact (ad_lt hr day).2
  · rintro ⟨a, b⟩
    exact (mp_spec _ _ _).2 ⟨_, a, b⟩
theorem cspan_sok {l : List api_Span} (h : VL l) {most : Int} {c : List Int} (hc : Crs l c) (hm : move c ≤ most) {i : Nat} (hi : i < l.length) : SOkS (cspan l most i) := by
  have := cspan_bd h ((can_all h).2 ⟨c, hc, hm⟩) hi
  exact ⟨this.1, this.2.1, this.2.2.1⟩
theorem days_j12 {N : Nat} (hN : 700 ≤ N) {r : shift_Record} {c : List Int} (hg : Gd r c 8) {u m day stage more : Int} (hd : 0 ≤ day ∧ day ≤ 255) (hs : 0 ≤ stage ∧ stage ≤ 255) (hm : 0 ≤ more ∧ more ≤ 255) {e : shift_Gauging} {w : Int} (hw : (W day).tmod (W (e.Day + 9)) = w) (hw0 : 0 ≤ w ∧ w ≤ 40000)
    {now : Int} {all : List Int} (hall : Crs (spansB r w) all) (hnow : all.getD (adF r w) 0 = now) (hnb : -300 ≤ now ∧ now ≤ 300) :
    law05_ShiftDays_j12 N day stage more (r, c, u, m) e ((adF r w : Nat) : Int) (metF r w) now all = some true := by
  obtain ⟨hok, hcr⟩ := hg.crs (by omega)
  have hr := hg.rcd (by omega)
  have hv := passes_vl hr hok
  have hvb := spansB_vl hr hok w
  have hk := spansB_lt hr w
  have hlenB := spansB_len hr w
  have had := (ad_lt hr w).1
  have hmv := hg.mv (by omega)
  have hle := least_le hv hcr
  have hl0 := least_nonneg hv
  have hgm := hg.gm
  have hg1 := hr.g1
  have hpl : (passes r).length = r.Gaugings.length := by simp [passes]
  have hal := hall.len
  have hcl : c.length = r.Gaugings.length := hg.len
  have habd : ∀ j, j < all.length → -300 ≤ all.getD j 0 ∧ all.getD j 0 ≤ 300 := fun j hj => by
    have a := hall.at_ j (by omega)
    have s := hvb.at_ (i := j) (by omega)
    unfold SOkS at s
    omega
  have hlenB' : (spansB r w).length ≤ 9 ∧ 1 ≤ (spansB r w).length := by
    rw [hlenB]
    split <;> omega
  have hmall := move_small habd all.length (Nat.le_refl _)
  rw [List.take_length] at hmall
  -- a course of the least move, with the day in it
  obtain ⟨cl, hcl1, hcl2⟩ : ∃ cl, Crs (spansB r w) cl ∧ move cl ≤ leastF (passes r) := by
    obtain ⟨q1, q2⟩ := course_spec hv
    by_cases hmet : metF r w = true
    · refine ⟨courseF (passes r), ?_, by omega⟩
      unfold spansB
      rw [if_pos hmet]
      exact q1
    · obtain ⟨x, x1, x2⟩ := dup_course q1 hv.ok (k := adF r w) (by omega) (by omega)
      refine ⟨inS (courseF (passes r)) (adF r w) x, ?_, by omega⟩
      unfold spansB
      rw [if_neg hmet]
      exact x1
  unfold law05_ShiftDays_j12
  show Option.bind (shift_Least N r) _ = _
  rw [Least_spec hN hr hok, Option.bind_some]
  show cond (((0 : Int) != 0) || (decide (leastF (passes r) < 0))) _ (Option.bind (law05_moves N all) fun r_5 => Option.bind (shift_Between N r (min 18000 (max (leastF (passes r)) (W (r_5 + ((W more).tmod 5))))) ((W day).tmod (W (e.Day + 9))) (W (((W stage).tmod 120) - 40))) fun r_6 => Option.bind (shift_Means N r.Rating (W (((W stage).tmod 120) - 40)) now) _) = _
  have hmod5 : (W more).tmod 5 = more % 5 := by rw [W_sm (by omega) (by omega), tmod_mod hm.1]
  have hmod9 : (W more).tmod 9 = more % 9 := by rw [W_sm (by omega) (by omega), tmod_mod hm.1]
  rw [dF (show ¬ leastF (passes r) < 0 by omega), moves_spec hN (by omega) (by omega) habd, hw, stage_spec hs, hmod5]
  rw [show (((0 : Int) != 0) || false) = false from rfl, cond_false, Option.bind_some, W_sm (n := move all + more % 5) (by omega) (by omega)]
  obtain ⟨M, hM⟩ : ∃ M, M = min 18000 (max (leastF (passes r)) (move all + more % 5)) := ⟨_, rfl⟩
  have hM1 : 0 ≤ M ∧ M ≤ 18000 ∧ move all ≤ M := by omega
  rw [← hM]
  obtain ⟨at0, hat⟩ : ∃ x, x = stage % 120 - 40 := ⟨_, rfl⟩
  rw [← hat]
  have hat1 : -40 ≤ at0 ∧ at0 ≤ 79 := by omega
  rw [Between_ok hN hr hok ⟨hM1.1, hM1.2.1⟩ hw0 (by omega), Option.bind_some, betF_ok hr hok hall hM1.2.2, Means_ok hN hr.rt (by omega) hnb, Option.bind_some]
  have hin := can_in hvb hall hM1.2.2 hk
  rw [hnow] at hin
  have hsok := cspan_sok hvb hall hM1.2.2 hk
  have hsok' := hsok
  unfold SOkS at hsok'
  generalize hcs : cspan (spansB r w) M (adF r w) = sp at *
  obtain ⟨a1, a2, a3, -, -⟩ := mean_val hr.rt (at0 - now)
  obtain ⟨p1, -, p3, -, -⟩ := mean_val hr.rt (at0 - sp.Hi)
  obtain ⟨s1, -, s3, -, -⟩ := mean_val hr.rt (at0 - sp.Lo)
  have f1 := mfl_mean hr.rt (at0 - sp.Hi)
  have f2 := mce_mean hr.rt (at0 - sp.Lo)
  have g1 : mfl r.Rating (at0 - sp.Hi) * (mean r.Rating (at0 - now)).D ≤ (mean r.Rating (at0 - now)).N := by
    have m1 := mfl_mono hr.rt (a := at0 - sp.Hi) (b := at0 - now) (by omega)
    have m2 := (mfl_mean hr.rt (at0 - now)).1
    have m3 := Int.mul_le_mul_of_nonneg_right m1 (show 0 ≤ (mean r.Rating (at0 - now)).D by omega)
    omega
  have g2 : (mean r.Rating (at0 - now)).N ≤ mce r.Rating (at0 - sp.Lo) * (mean r.Rating (at0 - now)).D := by
    have m1 := mce_mono hr.rt (a := at0 - now) (b := at0 - sp.Lo) (by omega)
    have m2 := (mce_mean hr.rt (at0 - now)).1
    have m3 := Int.mul_le_mul_of_nonneg_right m1 (show 0 ≤ (mean r.Rating (at0 - now)).D by omega)
    omega
  have b1 := mul_bd f1.2.1 (show 0 ≤ (mean r.Rating (at0 - now)).D by omega) f1.2.2 a2
  have b2 := mul_bd f2.2.1 (show 0 ≤ (mean r.Rating (at0 - now)).D by omega) f2.2.2 a2
  show cond ((((0 : Int) != 0 || (0 : Int) != 0) || (decide ((mean r.Rating (at0 - now)).N < (W (mfl r.Rating (at0 - sp.Hi) * (mean r.Rating (at0 - now)).D))))) || (decide ((W (mce r.Rating (at0 - sp.Lo) * (mean r.Rating (at0 - now)).D)) < (mean r.Rating (at0 - now)).N))) _ _ = _
  rw [W_sm (n := mfl r.Rating (at0 - sp.Hi) * (mean r.Rating (at0 - now)).D) (by omega) (by omega), W_sm (n := mce r.Rating (at0 - sp.Lo) * (mean r.Rating (at0 - now)).D) (by omega) (by omega), dF (by omega), dF (by omega)]
  show Option.bind (shift_Between N r M w (min (W (at0 + ((W more).tmod 9))) 2000)) _ = _
  rw [hmod9, W_sm (n := at0 + more % 9) (by omega) (by omega)]
  obtain ⟨at1, hat2⟩ : ∃ x, x = min (at0 + more % 9) 2000 := ⟨_, rfl⟩
  rw [← hat2, Between_ok hN hr hok ⟨hM1.1, hM1.2.1⟩ hw0 (by omega), Option.bind_some, betF_ok hr hok hall hM1.2.2, hcs]
  have n1 := mfl_mono hr.rt (a := at0 - sp.Hi) (b := at1 - sp.Hi) (by omega)
  have n2 := mce_mono hr.rt (a := at0 - sp.Lo) (b := at1 - sp.Lo) (by omega)
  show cond (((0 : Int) != 0 || (decide (mfl r.Rating (at1 - sp.Hi) < mfl r.Rating (at0 - sp.Hi)))) || (decide (mce r.Rating (at1 - sp.Lo) < mce r.Rating (at0 - sp.Lo)))) _ (Option.bind (shift_Can N r (leastF (passes r))) fun r_9 => Option.bind (shift_Between N r (leastF (passes r)) w at0) _) = _
  have hcan : shift_Can N r (leastF (passes r)) = some (canF (passes r) (leastF (passes r)), 0) := by
    rw [Can_ok hN hr hok (by omega), if_pos ((can_all hv).2 ⟨courseF (passes r), (course_spec hv).1, by rw [(course_spec hv).2]; exact Int.le_refl _⟩)]
  rw [dF (by omega), dF (by omega), hcan, Between_ok hN hr hok (by omega) hw0 (by omega), betF_ok hr hok hcl1 hcl2]
  show Option.bind (some (canF (passes r) (leastF (passes r)), (0 : Int))) (fun r_9 => Option.bind (some _) _) = _
  rw [Option.bind_some, Option.bind_some]
  have hcsp := fun (i : Nat) (hi : i < (passes r).length) => cspan_sok hv (most := leastF (passes r)) (course_spec hv).1 (by rw [(course_spec hv).2]; exact Int.le_refl _) hi
  obtain ⟨⟨c1, d1, d2, d3⟩, c2, d4, d5, d6⟩ := cspan_ends hvb hcl1 hcl2 hk
  generalize hcs2 : cspan (spansB r w) (leastF (passes r)) (adF r w) = sq at *
  show cond ((((0 : Int) != 0 || (0 : Int) != 0)) || ((((canF (passes r) (leastF (passes r))).length : Nat) : Int) != ((c.length : Nat) : Int))) _ _ = _
  rw [canF_len, hpl, hcl, bne_self_eq_false, bne_self_eq_false]
  have hjj : ∀ ends : List api_Span, 1 ≤ ends.length → ends.length ≤ 10 → (∀ j, j < ends.length → SOkS (ends.getD j s00)) → lowN ends ends.length ≤ sq.Lo → sq.Hi ≤ highN ends ends.length →
      law05_ShiftDays_j34 N stage (r, c, u, m) (⟨mfl r.Rating (at0 - sq.Hi), mce r.Rating (at0 - sq.Lo)⟩, 0) ends = some true := fun ends h1 h2 h3 h4 h5 => by
    rw [hat]
    exact days_j34 hN hr hs h1 h2 h3 h4 h5
  show cond (metF r w) (Option.bind (subO (canF (passes r) (leastF (passes r))) ((adF r w : Nat) : Int) (W (((adF r w : Nat) : Int) + 1))) fun sub => law05_ShiftDays_j34 N stage (r, c, u, m) (⟨mfl r.Rating (at0 - sq.Hi), mce r.Rating (at0 - sq.Lo)⟩, 0) sub)
    (cond ((decide (0 < ((adF r w : Nat) : Int))) && (decide (((adF r w : Nat) : Int) < ((r.Gaugings.length : Nat) : Int))))
      (Option.bind (subO (canF (passes r) (leastF (passes r))) (W (((adF r w : Nat) : Int) - 1)) (W (((adF r w : Nat) : Int) + 1))) fun sub_1 => law05_ShiftDays_j34 N stage (r, c, u, m) (⟨mfl r.Rating (at0 - sq.Hi), mce r.Rating (at0 - sq.Lo)⟩, 0) sub_1)
      (cond (decide (0 < ((adF r w : Nat) : Int)))
        (Option.bind (subO (canF (passes r) (leastF (passes r))) (W (((adF r w : Nat) : Int) - 1)) ((adF r w : Nat) : Int)) fun sub_2 => law05_ShiftDays_j34 N stage (r, c, u, m) (⟨mfl r.Rating (at0 - sq.Hi), mce r.Rating (at0 - sq.Lo)⟩, 0) sub_2)
        (Option.bind (subO (canF (passes r) (leastF (passes r))) 0 1) fun sub_3 => law05_ShiftDays_j34 N stage (r, c, u, m) (⟨mfl r.Rating (at0 - sq.Hi), mce r.Rating (at0 - sq.Lo)⟩, 0) sub_3))) = some true
  rw [W_succ (by omega)]
  have one : ∀ s : api_Span, SOkS s → ∀ j, j < [s].length → SOkS ([s].getD j s00) := fun s hs j hj => by
    have : j < 1 := hj
    obtain rfl : j = 0 := by omega
    exact hs
  cases hmet : metF r w with
  | true =>
    have hlt := ((met_iff hr w).1 hmet).1
    have hsp : spansB r w = passes r := by unfold spansB; rw [if_pos hmet]
    rw [hsp] at hcs2
    rw [cond_true, sub_one (by omega), Option.bind_some, hcs2]
    have hq := hcsp (adF r w) (by omega)
    rw [hcs2] at hq
    exact hjj [sq] (by simp) (by simp) (one sq hq) (lowN_le (l := [sq]) 1 0 (by omega)) (le_highN (l := [sq]) 1 0 (by omega))
  | false =>
    have hsp : spansB r w = inS (passes r) (adF r w) ⟨-300, 300⟩ := by unfold spansB; rw [if_neg (by rw [hmet]; simp)]; rfl
    rw [hsp] at d1 d4
    obtain ⟨x1, x2, x3⟩ := between_ends hv (k := adF r w) (by omega) d1 d3
    obtain ⟨y1, y2, y3⟩ := between_ends hv (k := adF r w) (by omega) d4 d6
    rw [d2] at x1 x2 x3
    rw [d5] at y1 y2 y3
    rw [cond_false]
    by_cases h0 : 0 < adF r w
    · rw [dT (show 0 < ((adF r w : Nat) : Int) by omega), W_sm (n := ((adF r w : Nat) : Int) - 1) (by omega) (by omega), show ((adF r w : Nat) : Int) - 1 = ((adF r w - 1 : Nat) : Int) by omega]
      by_cases hlt : adF r w < r.Gaugings.length
      · rw [dT (show ((adF r w : Nat) : Int) < ((r.Gaugings.length : Nat) : Int) by omega)]
        have e := sub_two (l := passes r) (m := leastF (passes r)) (i := adF r w - 1) (by omega)
        rw [show adF r w - 1 + 2 = adF r w + 1 by omega, show adF r w - 1 + 1 = adF r w by omega] at e
        rw [e]
        have t1 := x1 h0 (by omega)
        have t2 := y1 h0 (by omega)
        have q1 := hcsp (adF r w - 1) (by omega)
        have q2 := hcsp (adF r w) (by omega)
        refine hjj [cspan (passes r) (leastF (passes r)) (adF r w - 1), cspan (passes r) (leastF (passes r)) (adF r w)] (by simp) (by simp) (fun j hj => ?_) ?_ ?_
        · have : j < 2 := hj
          rcases (show j = 0 ∨ j = 1 by omega) with rfl | rfl
          · exact q1
          · exact q2
        · have l1 := lowN_le (l := [cspan (passes r) (leastF (passes r)) (adF r w - 1), cspan (passes r) (leastF (passes r)) (adF r w)]) 2 0 (by omega)
          have l2 := lowN_le (l := [cspan (passes r) (leastF (passes r)) (adF r w - 1), cspan (passes r) (leastF (passes r)) (adF r w)]) 2 1 (by omega)
          have l1' : lowN [cspan (passes r) (leastF (passes r)) (adF r w - 1), cspan (passes r) (leastF (passes r)) (adF r w)] 2 ≤ (cspan (passes r) (leastF (passes r)) (adF r w - 1)).Lo := l1
          have l2' : lowN [cspan (passes r) (leastF (passes r)) (adF r w - 1), cspan (passes r) (leastF (passes r)) (adF r w)] 2 ≤ (cspan (passes r) (leastF (passes r)) (adF r w)).Lo := l2
          show lowN [cspan (passes r) (leastF (passes r)) (adF r w - 1), cspan (passes r) (leastF (passes r)) (adF r w)] 2 ≤ sq.Lo
          omega
        · have l1 := le_highN (l := [cspan (passes r) (leastF (passes r)) (adF r w - 1), cspan (passes r) (leastF (passes r)) (adF r w)]) 2 0 (by omega)
          have l2 := le_highN (l := [cspan (passes r) (leastF (passes r)) (adF r w - 1), cspan (passes r) (leastF (passes r)) (adF r w)]) 2 1 (by omega)
          have l1' : (cspan (passes r) (leastF (passes r)) (adF r w - 1)).Hi ≤ highN [cspan (passes r) (leastF (passes r)) (adF r w - 1), cspan (passes r) (leastF (passes r)) (adF r w)] 2 := l1
          have l2' : (cspan (passes r) (leastF (passes r)) (adF r w)).Hi ≤ highN [cspan (passes r) (leastF (passes r)) (adF r w - 1), cspan (passes r) (leastF (passes r)) (adF r w)] 2 := l2
          show sq.Hi ≤ highN [cspan (passes r) (leastF (passes r)) (adF r w - 1), cspan (passes r) (leastF (passes r)) (adF r w)] 2
          omega
      · rw [dF (show ¬ ((adF r w : Nat) : Int) < ((r.Gaugings.length : Nat) : Int) by omega)]
        have e := sub_one (l := passes r) (m := leastF (passes r)) (i := adF r w - 1) (by omega)
        rw [show adF r w - 1 + 1 = adF r w by omega] at e
        rw [e]
        have t1 := x2 h0 (by omega)
        have t2 := y2 h0 (by omega)
        have q1 := hcsp (adF r w - 1) (by omega)
        refine hjj [cspan (passes r) (leastF (passes r)) (adF r w - 1)] (by simp) (by simp) (one _ q1) ?_ ?_
        · exact Int.le_trans (lowN_le (l := [cspan (passes r) (leastF (passes r)) (adF r w - 1)]) 1 0 (by omega)) t1.1
        · exact Int.le_trans t2.2 (le_highN (l := [cspan (passes r) (leastF (passes r)) (adF r w - 1)]) 1 0 (by omega))
    · have hz : adF r w = 0 := by omega
      rw [dF (show ¬ 0 < ((adF r w : Nat) : Int) by omega)]
      have e := sub_one (l := passes r) (m := leastF (passes r)) (i := 0) (by omega)
      have e' : subO (canF (passes r) (leastF (passes r))) 0 1 = some [cspan (passes r) (leastF (passes r)) 0] := e
      rw [e']
      have t1 := x3 hz
      have t2 := y3 hz
      have q1 := hcsp 0 (by omega)
      refine hjj [cspan (passes r) (leastF (passes r)) 0] (by simp) (by simp) (one _ q1) ?_ ?_
      · exact Int.le_trans (lowN_le (l := [cspan (passes r) (leastF (passes r)) 0]) 1 0 (by omega)) t1.1
      · exact Int.le_trans t2.2 (le_highN (l := [cspan (passes r) (leastF (passes r)) 0]) 1 0 (by omega))
theorem days_law {N : Nat} (hN : 700 ≤ N) {bs : List Int} (hb : Bytes bs) {day by_ stage more : Int} (hd : 0 ≤ day ∧ day ≤ 255) (hby : 0 ≤ by_ ∧ by_ ≤ 255) (hs : 0 ≤ stage ∧ stage ≤ 255) (hm : 0 ≤ more ∧ more ≤ 255) : law05_ShiftDays N bs day by_ stage more = some true := by
  have s0 : SOk 0 0 0 := ⟨by decide, by decide, by decide, by decide⟩
  unfold law05_ShiftDays
  rw [show kit_New N bs = some (0, 0) from rfl, Option.bind_some]
  obtain ⟨r, c, u, m, k, a1, a2, a3, hg⟩ := Gauged_spec hN hb (u := 0) (m := 0) (k := 0) s0 (by omega) (most := 8) (by omega)
  show Option.bind (law05_Gauged N ⟨bs, 0, 0⟩ ((8 : Nat) : Int)) _ = _
  obtain ⟨hok, hcr⟩ := hg.crs (by omega)
  have hr := hg.rcd (by omega)
  have hgm := hg.gm
  have hg1 := hr.g1
  have hcl : c.length = r.Gaugings.length := hg.len
  have hpl : (passes r).length = r.Gaugings.length := by simp [passes]
  rw [a1, Option.bind_some]
  show Option.bind (getI r.Gaugings (W (((r.Gaugings.length : Nat) : Int) - 1))) _ = _
  rw [W_sm (n := ((r.Gaugings.length : Nat) : Int) - 1) (by omega) (by omega), show ((r.Gaugings.length : Nat) : Int) - 1 = ((r.Gaugings.length - 1 : Nat) : Int) by omega, getI_d g0 (by omega), Option.bind_some]
  have hlast := hr.g (r.Gaugings.getD (r.Gaugings.length - 1) g0) (by rw [← get_getD (show r.Gaugings.length - 1 < r.Gaugings.length by omega)]; exact List.getElem_mem _)
  have hld := hlast.d
  generalize r.Gaugings.getD (r.Gaugings.length - 1) g0 = e at *
  have ew : W (e.Day + 9) = e.Day + 9 := W_sm (by omega) (by omega)
  have hz : nz (W (e.Day + 9)) = some () := by rw [ew]; unfold nz; rw [if_neg (by omega)]
  rw [hz, Option.bind_some]
  obtain ⟨w, hw⟩ : ∃ w, w = (W day).tmod (W (e.Day + 9)) := ⟨_, rfl⟩
  have hw0 : 0 ≤ w ∧ w ≤ 40000 := by
    rw [hw, ew, W_sm (n := day) (by omega) (by omega), tmod_mod hd.1]
    have q1 := Int.emod_nonneg day (show e.Day + 9 ≠ 0 by omega)
    have q2 : day % (e.Day + 9) ≤ day := by
      have q3 := Int.mul_nonneg (show 0 ≤ e.Day + 9 by omega) (Int.ediv_nonneg hd.1 (show 0 ≤ e.Day + 9 by omega))
      rw [Int.emod_def]
      omega
    omega
  obtain ⟨h1, h2, h3⟩ := ad_spec hr w r.Gaugings.length (Nat.le_refl _)
  have l8 := runS (ρ := Bool) (fun i : Nat => (i : Int)) (adF r w) (fun s8 => law05_ShiftDays_b8 N day (r, c, u, m) e s8) (fun i hi => by
    show law05_ShiftDays_b8 N day (r, c, u, m) e (i : Int) = _
    have hi' : i < adN r.Gaugings w r.Gaugings.length := hi
    have := h2 i hi'
    unfold law05_ShiftDays_b8
    show Option.bind (cond (decide ((i : Int) < ((r.Gaugings.length : Nat) : Int))) (Option.bind (getI r.Gaugings (i : Int)) fun e_7 => some (decide (e_7.Day < ((W day).tmod (W (e.Day + 9)))))) (some false)) _ = _
    rw [lt_dec (show i < r.Gaugings.length by omega), cond_true, getI_d g0 (by omega), Option.bind_some, ← hw, dT this, W_succ (by omega)]
    rfl) (by
    show law05_ShiftDays_b8 N day (r, c, u, m) e ((adF r w : Nat) : Int) = _
    unfold law05_ShiftDays_b8
    show Option.bind (cond (decide (((adF r w : Nat) : Int) < ((r.Gaugings.length : Nat) : Int))) (Option.bind (getI r.Gaugings ((adF r w : Nat) : Int)) fun e_7 => some (decide (e_7.Day < ((W day).tmod (W (e.Day + 9)))))) (some false)) _ = _
    by_cases hlt : adF r w < r.Gaugings.length
    · have := h3 (adF r w) (Nat.le_refl _) hlt
      rw [lt_dec hlt, cond_true, getI_d g0 hlt, Option.bind_some, ← hw, dF (by omega)]
      rfl
    · rw [dF (by omega), cond_false]
      rfl) (N := N) (by
    have : adF r w ≤ r.Gaugings.length := h1
    omega)
  show Option.bind (loopO (fun s8 => law05_ShiftDays_b8 N day (r, c, u, m) e s8) N ((0 : Nat) : Int)) _ = _
  rw [l8, Option.bind_some]
  show Option.bind (cond (decide (((adF r w : Nat) : Int) < ((r.Gaugings.length : Nat) : Int))) (Option.bind (getI r.Gaugings ((adF r w : Nat) : Int)) fun e_2 => some (e_2.Day == ((W day).tmod (W (e.Day + 9))))) (some false)) (fun t_1 => Option.bind (kit_Copy_int N c) fun r_2 => Option.bind (slices_Insert_Lint_int N r_2 ((adF r w : Nat) : Int) ([W (((W by_).tmod 30) - 15)] : List Int)) fun r_3 => cond t_1 (Option.bind (getI c ((adF r w : Nat) : Int)) _) _) = _
  have hadl : adF r w ≤ r.Gaugings.length := h1
  have hmet : (cond (decide (((adF r w : Nat) : Int) < ((r.Gaugings.length : Nat) : Int))) (Option.bind (getI r.Gaugings ((adF r w : Nat) : Int)) fun e_2 => some (e_2.Day == ((W day).tmod (W (e.Day + 9))))) (some false)) = some (metF r w) := by
    by_cases hlt : adF r w < r.Gaugings.length
    · rw [lt_dec hlt, cond_true, getI_d g0 hlt, Option.bind_some, ← hw]
      congr 1
      rw [Bool.eq_iff_iff, beq_iff_eq, met_iff hr w]
      exact ⟨fun h => ⟨hlt, h⟩, fun h => h.2⟩
    · rw [dF (by omega), cond_false]
      congr 1
      cases hmm : metF r w with
      | false => rfl
      | true => exact absurd ((met_iff hr w).1 hmm).1 hlt
  rw [hmet, Option.bind_some]
  have hcp : kit_Copy_int N c = some c := by
    unfold kit_Copy_int
    rw [room_ok (by omega), Option.bind_some]
  have hnow : W (((W by_).tmod 30) - 15) = by_ % 30 - 15 := by
    rw [W_sm (n := by_) (by omega) (by omega), tmod_mod hby.1, W_sm (by omega) (by omega)]
  have hins : slices_Insert_Lint_int N c ((adF r w : Nat) : Int) [by_ % 30 - 15] = some (inS c (adF r w) (by_ % 30 - 15)) := by
    unfold slices_Insert_Lint_int insO
    rw [if_pos (by simp only [List.length_cons, List.length_nil]; omega), Int.toNat_natCast]
    rfl
  rw [hcp, Option.bind_some, hnow, hins, Option.bind_some]
  cases hm2 : metF r w with
  | true =>
    have hlt := ((met_iff hr w).1 hm2).1
    have hcb := (hg.g (adF r w) hlt)
    have hsp : spansB r w = passes r := by unfold spansB; rw [if_pos hm2]
    have hcA := hcr.at_ (adF r w) (by omega)
    have hvA := (passes_vl hr hok).at_ (i := adF r w) (by omega)
    unfold SOkS at hvA
    rw [cond_true, getI_d 0 (by omega), Option.bind_some]
    have := days_j12 hN hg (u := u) (m := m) hd hs hm hw.symm hw0 (all := c) (now := c.getD (adF r w) 0) (by rw [hsp]; exact hcr) rfl (by omega)
    rw [hm2] at this
    exact this
  | false =>
    have hsp : spansB r w = inS (passes r) (adF r w) ⟨-300, 300⟩ := by unfold spansB; rw [if_neg (by rw [hm2]; simp)]; rfl
    rw [cond_false]
    have := days_j12 hN hg (u := u) (m := m) hd hs hm hw.symm hw0 (all := inS c (adF r w) (by_ % 30 - 15)) (now := by_ % 30 - 15) (by rw [hsp]; exact hcr.ins (by dsimp only; omega) _) (inS_at (by omega)) (by omega)
    rw [hm2] at this
    exact this
end Go.Nilo
