/-
  What the plain functions compute, in plain arithmetic, part 21. Conditions: what each theorem names.
-/
import Derived.Test.YtepopogbmjfpeaaSnL20
set_option linter.unusedSimpArgs false
set_option linter.unusedVariables false
namespace Go.Nilo
theorem same_mark {N : Nat} {l : List shift_Mark} (hl : l.length ≤ 1000) (hN : l.length < N) : kit_Same_shift_Mark N l l = some true := by
  unfold kit_Same_shift_Mark
  rw [bne_self_eq_false, cond_false, sameLoop l (by omega) _ (fun i hi => by
    show kit_Same_shift_Mark_b7 N l l (i : Int) = _
    unfold kit_Same_shift_Mark_b7
    rw [lt_dec hi, cond_true, getI_d mk0 hi, Option.bind_some, Option.bind_some, beq_self_eq_true, beq_self_eq_true, W_succ (by omega)]
    rfl) (by
    show kit_Same_shift_Mark_b7 N l l _ = _
    unfold kit_Same_shift_Mark_b7
    rw [ge_dec, cond_false]) hN]
  rfl
theorem same_gauging {N : Nat} {l : List shift_Gauging} (hl : l.length ≤ 1000) (hN : l.length < N) : kit_Same_shift_Gauging N l l = some true := by
  unfold kit_Same_shift_Gauging
  rw [bne_self_eq_false, cond_false, sameLoop l (by omega) _ (fun i hi => by
    show kit_Same_shift_Gauging_b7 N l l (i : Int) = _
    unfold kit_Same_shift_Gauging_b7
    rw [lt_dec hi, cond_true, getI_d g0 hi, Option.bind_some, Option.bind_some, beq_self_eq_true, beq_self_eq_true, beq_self_eq_true, beq_self_eq_true, W_succ (by omega)]
    rfl) (by
    show kit_Same_shift_Gauging_b7 N l l _ = _
    unfold kit_Same_shift_Gauging_b7
    rw [ge_dec, cond_false]) hN]
  rfl
theorem copy_rec {N : Nat} {r : shift_Record} (h1 : r.Rating.length ≤ 50) (h2 : r.Gaugings.length ≤ 50) : law05_CopyRecord N r = some r := by
  unfold law05_CopyRecord kit_Copy_shift_Mark kit_Copy_shift_Gauging
  rw [room_ok (by omega), Option.bind_some, Option.bind_some, room_ok (by omega), Option.bind_some, Option.bind_some]
theorem same_rec {N : Nat} (hN : 700 ≤ N) {r : shift_Record} (h1 : r.Rating.length ≤ 50) (h2 : r.Gaugings.length ≤ 50) : law05_same N r r = some true := by
  unfold law05_same
  rw [same_mark (by omega) (by omega), Option.bind_some, cond_true, same_gauging (by omega) (by omega)]
  rfl
/-- What Between answers, in all cases. -/
def betAll (r : shift_Record) (most day at_ : Int) : api_Span × Int :=
  if checkF r = 0 then (if (passes r).all spanOk = true then (if (0 ≤ most ∧ most ≤ 18000) ∧ (0 ≤ day ∧ day ≤ 40000) ∧ (-2000 ≤ at_ ∧ at_ ≤ 2000) then betF r most day at_ else (⟨0, 0⟩, 4)) else (⟨0, 0⟩, 6)) else (⟨0, 0⟩, checkF r)
theorem in3 {a b c : Bool} (h : ¬(a = true ∧ b = true ∧ c = true)) : (((!a) || (!b)) || (!c)) = true := by
  revert h
  cases a <;> cases b <;> cases c <;> simp
theorem bet_alls {N : Nat} (hN : 700 ≤ N) {r : shift_Record} (h1 : r.Rating.length ≤ 50) (h2 : r.Gaugings.length ≤ 50) {most day at_ : Int} : shift_Between N r most day at_ = some (betAll r most day at_) := by
  unfold betAll
  by_cases hc : checkF r = 0
  · rw [if_pos hc]
    have hr := check_iff.1 hc
    by_cases hp : (passes r).all spanOk = true
    · rw [if_pos hp]
      by_cases hm : (0 ≤ most ∧ most ≤ 18000) ∧ (0 ≤ day ∧ day ≤ 40000) ∧ (-2000 ≤ at_ ∧ at_ ≤ 2000)
      · rw [if_pos hm, Between_ok hN hr hp hm.1 hm.2.1 hm.2.2]
      · rw [if_neg hm]
        unfold shift_Between
        rcases opened_ok hN hr with ⟨o, -, k⟩ | ⟨k, -⟩
        · rw [hp] at k
          cases k
        rw [k, Option.bind_some]
        show cond (((!(shift_in most 0 18000)) || (!(shift_in day 0 40000))) || (!(shift_in at_ (-2000) 2000))) _ _ = _
        rw [in3 (by rw [in_dec, in_dec, in_dec, decide_eq_true_eq, decide_eq_true_eq, decide_eq_true_eq]; exact hm)]
        rfl
    · rw [if_neg hp]
      unfold shift_Between
      rcases opened_ok hN hr with ⟨o, k, -⟩ | ⟨-, k⟩
      · rw [k, Option.bind_some]
        rfl
      · exact absurd k hp
  · rw [if_neg hc]
    unfold shift_Between
    rw [opened_bad hN h1 h2 hc, Option.bind_some]
    show cond (checkF r != 0) _ _ = _
    have e2 : (checkF r != 0) = true := by simp [hc]
    rw [e2]
    rfl
theorem ref_Between {N : Nat} (hN : 700 ≤ N) {r : shift_Record} (h1 : r.Rating.length ≤ 50) (h2 : r.Gaugings.length ≤ 50) {most day at_ : Int} : ref05_Between N (toR r) most day at_ = some (betAll r most day at_) := by
  unfold ref05_Between betAll
  rw [ref_passes hN h1 h2, Option.bind_some]
  by_cases hc : checkF r = 0
  · rw [if_pos hc, if_pos hc]
    have hr := check_iff.1 hc
    by_cases hp : (passes r).all spanOk = true
    · rw [if_pos hp, if_pos hp]
      show cond (((ref05_outside most 0 18000) || (ref05_outside day 0 40000)) || (ref05_outside at_ (-2000) 2000)) _ _ = _
      rw [out_not, out_not, out_not]
      by_cases hm : (0 ≤ most ∧ most ≤ 18000) ∧ (0 ≤ day ∧ day ≤ 40000) ∧ (-2000 ≤ at_ ∧ at_ ≤ 2000)
      · rw [if_pos hm, in_dec, in_dec, in_dec, dT hm.1, dT hm.2.1, dT hm.2.2]
        show Option.bind (loopO (fun s13 : List api_Span × Int × Int => ref05_Between_b13 N (toR r) day (passes r, 0) s13.1 s13.2.1 s13.2.2) N (([] : List api_Span), (-1), 0)) _ = _
        rw [betw_loop hN hr, Option.bind_some]
        have hpl : (passes r).length = r.Gaugings.length := by simp [passes]
        have h30 := hr.g30
        obtain ⟨a1, a2⟩ := ad_lt hr day
        have hsl := spansB_len hr day
        show cond (decide ((stB r day r.Gaugings.length).2.1 < 0)) (Option.bind (room ((stB r day r.Gaugings.length).1 ++ [(⟨-300, 300⟩ : api_Span)]).length) fun _ => ref05_Between_j14 N (toR r) most at_ ((stB r day r.Gaugings.length).1 ++ [(⟨-300, 300⟩ : api_Span)]) (((stB r day r.Gaugings.length).1.length : Nat) : Int)) (ref05_Between_j14 N (toR r) most at_ (stB r day r.Gaugings.length).1 (stB r day r.Gaugings.length).2.1) = _
        unfold stB
        by_cases he : r.Gaugings.length ≤ adF r day
        · have hm' : ¬metF r day = true := fun e => by have := (a2 e).1; omega
          have ea : adF r day = r.Gaugings.length := by omega
          have hs : spansB r day = passes r ++ [(⟨-300, 300⟩ : api_Span)] := by
            unfold spansB
            rw [if_neg hm', ea, List.take_of_length_le (by omega), List.drop_eq_nil_of_le (by omega), List.append_nil]
          rw [if_pos he]
          show cond (decide ((-1 : Int) < 0)) (Option.bind (room ((passes r).take r.Gaugings.length ++ [(⟨-300, 300⟩ : api_Span)]).length) fun _ => ref05_Between_j14 N (toR r) most at_ ((passes r).take r.Gaugings.length ++ [(⟨-300, 300⟩ : api_Span)]) ((((passes r).take r.Gaugings.length).length : Nat) : Int)) _ = _
          rw [List.take_of_length_le (by omega), ← hs, room_ok (by rw [hsl]; split <;> omega), Option.bind_some, hpl, ← ea, ref_j14 hN hr hp hm.2.2]
          rfl
        · rw [if_neg he]
          have hs : (spansB r day).take (if metF r day = true then r.Gaugings.length else r.Gaugings.length + 1) = spansB r day := List.take_of_length_le (by rw [hsl]; exact Nat.le_refl _)
          have hn : decide (((adF r day : Nat) : Int) < 0) = false := dF (by omega)
          show cond (decide (((adF r day : Nat) : Int) < 0)) _ (ref05_Between_j14 N (toR r) most at_ ((spansB r day).take (if metF r day = true then r.Gaugings.length else r.Gaugings.length + 1)) ((adF r day : Nat) : Int)) = _
          rw [hn, cond_false, hs, ref_j14 hN hr hp hm.2.2]
      · rw [if_neg hm, in3 (by rw [in_dec, in_dec, in_dec, decide_eq_true_eq, decide_eq_true_eq, decide_eq_true_eq]; exact hm)]
        rfl
    · rw [if_neg hp, if_neg hp]
      rfl
  · rw [if_neg hc, if_neg hc]
    show cond (checkF r != 0) _ _ = _
    have e2 : (checkF r != 0) = true := by simp [hc]
    rw [e2]
    rfl
def sumB (l : List api_Span) : Nat → Int
  | 0 => 0
  | n + 1 => W (sumB l n + W ((l.getD n s00).Hi - (l.getD n s00).Lo))
theorem wide_some {N : Nat} (hN : 700 ≤ N) {r : shift_Record} (h1 : r.Rating.length ≤ 50) (h2 : r.Gaugings.length ≤ 50) : ∃ b, law05_wide N r = some b := by
  unfold law05_wide
  rw [rec_conv hN h1 h2, Option.bind_some, ref_passes hN h1 h2, Option.bind_some]
  generalize hq : (if checkF r = 0 then (if (passes r).all spanOk = true then (passes r, (0 : Int)) else ([], 6)) else ([], checkF r)) = q
  have hl : q.1.length ≤ 50 := by
    subst hq
    split
    · split
      · simp [passes]; omega
      · simp
    · simp
  have := runS (ρ := Bool) (fun m : Nat => ((sumB q.1 m, (m : Int)) : Int × Int)) q.1.length (fun s6 => law05_wide_b6 N q s6.1 s6.2) (fun m hm => by
    show law05_wide_b6 N q (sumB q.1 m) (m : Int) = _
    unfold law05_wide_b6
    rw [lt_dec hm, cond_true, getI_d s00 hm, Option.bind_some, W_succ (by omega)]
    rfl) (by
    show law05_wide_b6 N q _ (q.1.length : Int) = _
    unfold law05_wide_b6
    rw [ge_dec, cond_false]) (N := N) (by omega)
  have h0 : loopO (fun s6 => law05_wide_b6 N q s6.1 s6.2) N ((0 : Int), (0 : Int)) = _ := this
  rw [h0, Option.bind_some]
  exact ⟨_, rfl⟩
theorem seasons_law {N : Nat} (hN : 700 ≤ N) (r : shift_Record) (most day stage : Int) : law05_ShiftSeasons N r most day stage = some true := by
  unfold law05_ShiftSeasons
  by_cases hc : (decide (15 < ((r.Rating.length : Nat) : Int)) || decide (35 < ((r.Gaugings.length : Nat) : Int))) = true
  · rw [hc, cond_true, Option.bind_some, cond_true, awake_true hN]
    rfl
  · have hc' : (decide (15 < ((r.Rating.length : Nat) : Int)) || decide (35 < ((r.Gaugings.length : Nat) : Int))) = false := by simpa using hc
    rw [hc', cond_false]
    rw [Bool.or_eq_false_iff, decide_eq_false_iff_not, decide_eq_false_iff_not] at hc'
    have h1 : r.Rating.length ≤ 50 := by omega
    have h2 : r.Gaugings.length ≤ 50 := by omega
    obtain ⟨b, hb⟩ := wide_some hN h1 h2
    rw [hb, Option.bind_some, Option.bind_some]
    cases b with
    | true =>
      rw [cond_true, awake_true hN]
      rfl
    | false =>
      have b1 : ∀ x : Int, (x != x) = false := bne_self_eq_false
      have b2 : ∀ x : Int, (x == x) = true := beq_self_eq_true
      rw [cond_false, copy_rec h1 h2, Option.bind_some, can_alls hN h1 h2, Option.bind_some, rec_conv hN h1 h2, Option.bind_some, ref_Can hN h1 h2, Option.bind_some]
      have hl : (canAll r most).1.length ≤ 50 := by
        unfold canAll
        split
        · split
          · split
            · split
              · simp [canF, passes]; omega
              · simp
            · simp
          · simp
        · simp
      rw [same_span (by omega) (by omega), Option.bind_some, b1, Bool.not_true, Bool.or_false, cond_false, bet_alls hN h1 h2, Option.bind_some, Option.bind_some, ref_Between hN h1 h2, Option.bind_some, b2, b2, b2, Bool.and_true, Bool.and_true, cond_true, same_rec hN h1 h2, Option.bind_some, Option.bind_some, cond_true, awake_true hN]
      rfl
end Go.Nilo
