/-
  What the plain functions compute, in plain arithmetic, part 15. Conditions: what each theorem names.
-/
import Derived.Test.YtepopogbmjfpeaaMsL14
set_option linter.unusedSimpArgs false
set_option linter.unusedVariables false
namespace Go.Nilo
theorem red_zero {d : Int} (hd : 0 < d) : red 0 d = ⟨0, 1⟩ := by
  rw [← red_one (Int.le_refl 0)]
  exact red_eq hd (by omega) (Int.le_refl 0) (Int.le_refl 0) (by omega)
theorem ref_means {N : Nat} (hN : 700 ≤ N) {l : List shift_Mark} (hl : l.length ≤ 50) {at_ sh : Int} : ref05_Means N (l.map toM) at_ sh = some (if askF l at_ sh = 0 then (mean l (at_ - sh), 0) else (⟨0, 0⟩, askF l at_ sh)) := by
  unfold ref05_Means
  rw [ref_marks hN hl, Option.bind_some]
  by_cases h : ratedF l = 0
  · have e : (ratedF l != 0) = false := by simp [h]
    rw [e, cond_false, ref_mixed hN hl, Option.bind_some, out_not, out_not]
    by_cases hu : upF l = true
    · rw [hu, Bool.not_true, cond_false]
      by_cases hr : (-2000 ≤ at_ ∧ at_ ≤ 2000) ∧ (-300 ≤ sh ∧ sh ≤ 300)
      · have hk := rok_iff.1 ⟨h, hu⟩
        rw [in_dec, in_dec, dT hr.1, dT hr.2, if_pos (askF_zero.2 ⟨hk, hr.1, hr.2⟩), W_sm (by omega) (by omega), ref_flow hN hk (by omega)]
        rfl
      · have ha : askF l at_ sh = 4 := by
          unfold askF
          rw [if_neg (by simp [h]), if_neg (by simp [hu]), if_neg]
          unfold shift_stage
          rw [in_dec, in_dec, Bool.and_eq_true, decide_eq_true_eq, decide_eq_true_eq]
          exact hr
        rw [ha, if_neg (by decide)]
        have : ((!shift_in at_ (-2000) 2000) || (!shift_in sh (-300) 300)) = true := by
          rw [in_dec, in_dec, Bool.or_eq_true, Bool.not_eq_true', Bool.not_eq_true', decide_eq_false_iff_not, decide_eq_false_iff_not]
          omega
        rw [this]
        rfl
    · have hu' : upF l = false := by simpa using hu
      have ha : askF l at_ sh = 9 := by
        unfold askF
        rw [if_neg (by simp [h]), if_pos hu']
      rw [hu', ha]
      rfl
  · have e : (ratedF l != 0) = true := by simp [h]
    have ha : askF l at_ sh = ratedF l := by
      unfold askF
      rw [if_pos (by simp [h])]
    rw [e, cond_true, ha, if_neg h]
def riseF (l : List shift_Mark) (at_ sh rise per : Int) : api_Ratio × Int :=
  if askF l at_ sh ≠ 0 then (⟨0, 0⟩, askF l at_ sh) else if (-1000 ≤ rise ∧ rise ≤ 1000) ∧ (0 ≤ per ∧ per ≤ 1000) then (rising l (at_ - sh) rise per, 0) else (⟨0, 0⟩, 4)
theorem rising_all {N : Nat} (hN : 700 ≤ N) {l : List shift_Mark} (hl : l.length ≤ 50) {at_ sh rise per : Int} : shift_Rising N l at_ sh rise per = some (riseF l at_ sh rise per) := by
  unfold riseF
  by_cases h : askF l at_ sh = 0
  · rw [if_neg (by simp [h])]
    obtain ⟨h1, h2, h3⟩ := askF_zero.1 h
    by_cases hr : (-1000 ≤ rise ∧ rise ≤ 1000) ∧ (0 ≤ per ∧ per ≤ 1000)
    · rw [if_pos hr, Rising_ok hN h1 h2 h3 hr.1 hr.2]
    · rw [if_neg hr]
      unfold shift_Rising
      rw [asked_spec hN hl, h, Option.bind_some]
      have : ((!shift_in rise (-1000) 1000) || (!shift_in per 0 1000)) = true := by
        rw [in_dec, in_dec, Bool.or_eq_true, Bool.not_eq_true', Bool.not_eq_true', decide_eq_false_iff_not, decide_eq_false_iff_not]
        omega
      rw [this]
      rfl
  · rw [if_pos h]
    unfold shift_Rising
    rw [asked_spec hN hl, Option.bind_some]
    have e : (askF l at_ sh == 0) = false := by rw [beq_eq_false_iff_ne]; exact h
    have e2 : (askF l at_ sh != 0) = true := by simp [h]
    rw [e, Bool.false_and, cond_false]
    unfold shift_Rising_j3
    rw [e2, cond_true]
theorem ref_rising {N : Nat} (hN : 700 ≤ N) {l : List shift_Mark} (hl : l.length ≤ 50) {at_ sh rise per : Int} : ref05_Rising N (l.map toM) at_ sh rise per = some (riseF l at_ sh rise per) := by
  unfold riseF ref05_Rising
  rw [ref_means hN hl, Option.bind_some]
  by_cases h : askF l at_ sh = 0
  · rw [if_pos h, if_neg (by simp [h])]
    obtain ⟨h1, h2, h3⟩ := askF_zero.1 h
    show cond ((ref05_outside rise (-1000) 1000) || (ref05_outside per 0 1000)) _ _ = _
    rw [out_not, out_not]
    by_cases hr : (-1000 ≤ rise ∧ rise ≤ 1000) ∧ (0 ≤ per ∧ per ≤ 1000)
    · rw [if_pos hr, in_dec, in_dec, dT hr.1, dT hr.2]
      obtain ⟨⟨b1, b2⟩, b3, b4⟩ := rise_bd h1 (at_ := at_ - sh) hr.1 hr.2
      obtain ⟨a, b, c, -, -⟩ := mean_val h1 (at_ - sh)
      show cond (decide ((W (1000 + (W (rise * per)))) < 0)) (some ((⟨0, 1⟩ : api_Ratio), 0)) (Option.bind (ref05_lowest N (W ((mean l (at_ - sh)).N * (W (1000 + (W (rise * per)))))) (W ((mean l (at_ - sh)).D * 1000))) fun r_1 => some (r_1, 0)) = _
      rw [W_sm (n := rise * per) (by omega) (by omega), W_sm (n := 1000 + rise * per) (by omega) (by omega)]
      unfold rising
      by_cases hn : 1000 + rise * per < 0
      · rw [dT hn, cond_true, show max 0 (1000 + rise * per) = 0 by omega, Int.mul_zero, red_zero (by omega)]
      · have hm : max 0 (1000 + rise * per) = 1000 + rise * per := by omega
        rw [hm] at b3 b4 ⊢
        rw [dF hn, cond_false, W_id (by omega) (by omega), W_sm (n := (mean l (at_ - sh)).D * 1000) (by omega) (by omega), lowest_spec hN (by omega) (by omega) b3 (by omega), Int.mul_comm (mean l (at_ - sh)).D 1000]
        rfl
    · rw [if_neg hr]
      have : ((!shift_in rise (-1000) 1000) || (!shift_in per 0 1000)) = true := by
        rw [in_dec, in_dec, Bool.or_eq_true, Bool.not_eq_true', Bool.not_eq_true', decide_eq_false_iff_not, decide_eq_false_iff_not]
        omega
      rw [this]
      rfl
  · rw [if_neg h, if_pos h]
    show cond (askF l at_ sh != 0) _ _ = _
    have e2 : (askF l at_ sh != 0) = true := by simp [h]
    rw [e2]
    rfl
theorem passes_all {N : Nat} (hN : 700 ≤ N) {r : shift_Record} (h1 : r.Rating.length ≤ 50) (h2 : r.Gaugings.length ≤ 50) : shift_Passes N r = some (if checkF r = 0 then (if (passes r).all spanOk = true then (passes r, 0) else ([], 6)) else ([], checkF r)) := by
  unfold shift_Passes
  by_cases hc : checkF r = 0
  · rw [if_pos hc]
    rcases opened_ok hN (check_iff.1 hc) with ⟨o, k, h⟩ | ⟨k, h⟩
    · rw [k, h, Option.bind_some]
      rfl
    · rw [k, h]
      rfl
  · rw [if_neg hc, opened_bad hN h1 h2 hc, Option.bind_some]
    show cond (checkF r != 0) _ _ = _
    have e2 : (checkF r != 0) = true := by simp [hc]
    rw [e2]
    rfl
theorem same_mark {N : Nat} {l : List shift_Mark} (hl : l.length ≤ 1000) (hN : l.length < N) : kit_Same_shift_Mark N l l = some true := by
  unfold kit_Same_shift_Mark
  rw [bne_self_eq_false, cond_false, sameLoop l (by omega) _ (fun i hi => by
    show kit_Same_shift_Mark_b7 N l l (i : Int) = _
    unfold kit_Same_shift_Mark_b7
    rw [lt_dec hi, cond_true, getI_d mk0 hi, Option.bind_some, Option.bind_some, beq_self_eq_true, beq_self_eq_true, W_succ (by omega)]
    rfl) (by
    show kit_Same_shift_Mark_b7 N l l _ = _
    unfold kit_Same_shift_Mark_b7
    rw [ge_dec, cond_false]) hN]
  rfl
theorem same_gauging {N : Nat} {l : List shift_Gauging} (hl : l.length ≤ 1000) (hN : l.length < N) : kit_Same_shift_Gauging N l l = some true := by
  unfold kit_Same_shift_Gauging
  rw [bne_self_eq_false, cond_false, sameLoop l (by omega) _ (fun i hi => by
    show kit_Same_shift_Gauging_b7 N l l (i : Int) = _
    unfold kit_Same_shift_Gauging_b7
    rw [lt_dec hi, cond_true, getI_d g0 hi, Option.bind_some, Option.bind_some, beq_self_eq_true, beq_self_eq_true, beq_self_eq_true, beq_self_eq_true, W_succ (by omega)]
    rfl) (by
    show kit_Same_shift_Gauging_b7 N l l _ = _
    unfold kit_Same_shift_Gauging_b7
    rw [ge_dec, cond_false]) hN]
  rfl
theorem copy_rec {N : Nat} {r : shift_Record} (h1 : r.Rating.length ≤ 50) (h2 : r.Gaugings.length ≤ 50) : law05_CopyRecord N r = some r := by
  unfold law05_CopyRecord kit_Copy_shift_Mark kit_Copy_shift_Gauging
  rw [room_ok (by omega), Option.bind_some, Option.bind_some, room_ok (by omega), Option.bind_some, Option.bind_some]
theorem same_rec {N : Nat} (hN : 700 ≤ N) {r : shift_Record} (h1 : r.Rating.length ≤ 50) (h2 : r.Gaugings.length ≤ 50) : law05_same N r r = some true := by
  unfold law05_same
  rw [same_mark (by omega) (by omega), Option.bind_some, cond_true, same_gauging (by omega) (by omega)]
  rfl
theorem means_law {N : Nat} (hN : 700 ≤ N) (r : shift_Record) (stage by_ rise per : Int) : law05_ShiftMeans N r stage by_ rise per = some true := by
  unfold law05_ShiftMeans
  by_cases hc : (decide (15 < ((r.Rating.length : Nat) : Int)) || decide (35 < ((r.Gaugings.length : Nat) : Int))) = true
  · rw [hc, cond_true, awake_true hN]
    rfl
  · have hc' : (decide (15 < ((r.Rating.length : Nat) : Int)) || decide (35 < ((r.Gaugings.length : Nat) : Int))) = false := by simpa using hc
    rw [hc', cond_false]
    rw [Bool.or_eq_false_iff, decide_eq_false_iff_not, decide_eq_false_iff_not] at hc'
    have h1 : r.Rating.length ≤ 50 := by omega
    have h2 : r.Gaugings.length ≤ 50 := by omega
    have b1 : ∀ x : Int, (x != x) = false := bne_self_eq_false
    have b2 : ∀ x : Int, (x == x) = true := beq_self_eq_true
    rw [copy_rec h1 h2, Option.bind_some, Check_spec hN h1 h2, Option.bind_some, rec_conv hN h1 h2, Option.bind_some, ref_check hN h1 h2, Option.bind_some, b1, cond_false, Means_spec hN h1, Option.bind_some, marks_conv hN h1, Option.bind_some, ref_means hN h1, Option.bind_some, b1, b2, b2, Bool.and_true, Bool.not_true, Bool.or_false, cond_false, rising_all hN h1, Option.bind_some, Option.bind_some, ref_rising hN h1, Option.bind_some, b1, b2, b2, Bool.and_true, Bool.not_true, Bool.or_false, cond_false, passes_all hN h1 h2, Option.bind_some, Option.bind_some, ref_passes hN h1 h2, Option.bind_some, b2]
    have hs : kit_Same_api_Span N (if checkF r = 0 then (if (passes r).all spanOk = true then (passes r, (0 : Int)) else ([], 6)) else ([], checkF r)).1 (if checkF r = 0 then (if (passes r).all spanOk = true then (passes r, (0 : Int)) else ([], 6)) else ([], checkF r)).1 = some true := by
      refine same_span ?_ ?_
      · split
        · split
          · simp [passes]; omega
          · simp
        · simp
      · split
        · split
          · simp [passes]; omega
          · simp; omega
        · simp; omega
    rw [hs, Option.bind_some, Bool.and_true, cond_true, same_rec hN h1 h2, Option.bind_some, Option.bind_some, cond_true, awake_true hN]
    rfl
end Go.Nilo
