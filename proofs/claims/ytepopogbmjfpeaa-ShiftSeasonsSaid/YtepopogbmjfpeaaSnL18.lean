/-
  What the plain functions compute, in plain arithmetic, part 18. Conditions: what each theorem names.
-/
import Derived.Test.YtepopogbmjfpeaaSnL17
set_option linter.unusedSimpArgs false
set_option linter.unusedVariables false
namespace Go.Nilo
theorem ref_can {N : Nat} (hN : 700 ≤ N) {l : List api_Span} (hv : VL l) {most : Int} : ref05_can N l most = some (if (canF l most).all spanOk = true then (canF l most, 0) else ([], 5)) := by
  have h32 := hv.l32
  unfold ref05_can
  rw [rest_spec hN hv, Option.bind_some, W_sm (by omega) (by omega), can_back hN hv, Option.bind_some]
  show Option.bind (ref05_rest N l.reverse) _ = _
  rw [rest_spec hN hv.rev, Option.bind_some]
  have hcl : (canF l most).length = l.length := by simp [canF]
  have hsc := scanS (ρ := List api_Span × Int) (fun i : Nat => (((canF l most).take i, (i : Int)) : List api_Span × Int)) (fun j => cond (spanOk ((canF l most).getD j s00)) none (some ([], 5))) l.length (fun s11 => ref05_can_b11 N l most ((List.range l.length).map (rowR l)) ((List.range l.reverse.length).map (rowR l.reverse)) s11.1 s11.2) (fun i hi => by
    show ref05_can_b11 N l most _ _ ((canF l most).take i) (i : Int) = _
    unfold ref05_can_b11
    obtain ⟨kk, hk⟩ := can_met hN hv (most := most) hi
    rw [lt_dec hi, cond_true, hk, Option.bind_some]
    have hsp : (canF l most).getD i s00 = cspan l most i := by simp [canF, List.getD, hi]
    have htk : (canF l most).take (i + 1) = (canF l most).take i ++ [cspan l most i] := by
      rw [List.take_succ_eq_append_getElem (by rw [hcl]; exact hi), get_getD (d := s00), hsp]
    rw [hsp, htk]
    have hfl := flt_len (canP l most i) 601
    show cond ((((flt (canP l most i) 601).length : Nat) : Int) == 0) _ _ = _
    unfold spanOk cspan
    rcases flt_span (canP l most i) 601 with ⟨a, b⟩ | ⟨a, b, c, d, _⟩
    · rw [a, b]
      rfl
    · have e0 : ((((flt (canP l most i) 601).length : Nat) : Int) == 0) = false := by rw [beq_eq_false_iff_ne]; omega
      rw [e0, cond_false, dT d, cond_true]
      show Option.bind (getI (flt (canP l most i) 601) ((0 : Nat) : Int)) _ = _
      rw [getI_d 0 (by omega), Option.bind_some]
      show Option.bind (getI (flt (canP l most i) 601) (W ((((flt (canP l most i) 601).length : Nat) : Int) - 1))) _ = _
      rw [W_sm (n := (((flt (canP l most i) 601).length : Nat) : Int) - 1) (by omega) (by omega), show (((flt (canP l most i) 601).length : Nat) : Int) - 1 = (((flt (canP l most i) 601).length - 1 : Nat) : Int) by omega, getI_d 0 (by omega), Option.bind_some, b, c, room_ok (by simp; omega), Option.bind_some, W_succ (by omega)]) (by
    show ref05_can_b11 N l most _ _ _ (l.length : Int) = _
    unfold ref05_can_b11
    rw [ge_dec, cond_false]) l.length 0 N (by omega) (by omega)
  rw [← hcl, all_first (canF l most).length 0 (by omega), List.drop_zero, hcl] at hsc
  have hsc' : loopO (fun s11 : List api_Span × Int => ref05_can_b11 N l most ((List.range l.length).map (rowR l)) ((List.range l.reverse.length).map (rowR l.reverse)) s11.1 s11.2) N (([] : List api_Span), 0) = _ := hsc
  rw [hsc', Option.bind_some]
  cases (canF l most).all spanOk with
  | true =>
    show some ((canF l most).take l.length, (0 : Int)) = _
    rw [← hcl, List.take_length]
    rfl
  | false => rfl
/-- What Can answers, in all cases. -/
def canAll (r : shift_Record) (most : Int) : List api_Span × Int :=
  if checkF r = 0 then (if (passes r).all spanOk = true then (if 0 ≤ most ∧ most ≤ 18000 then (if (canF (passes r) most).all spanOk = true then (canF (passes r) most, 0) else ([], 5)) else ([], 4)) else ([], 6)) else ([], checkF r)
theorem ref_Can {N : Nat} (hN : 700 ≤ N) {r : shift_Record} (h1 : r.Rating.length ≤ 50) (h2 : r.Gaugings.length ≤ 50) {most : Int} : ref05_Can N (toR r) most = some (canAll r most) := by
  unfold ref05_Can canAll
  rw [ref_passes hN h1 h2, Option.bind_some]
  by_cases hc : checkF r = 0
  · rw [if_pos hc, if_pos hc]
    by_cases hp : (passes r).all spanOk = true
    · rw [if_pos hp, if_pos hp]
      show cond (ref05_outside most 0 18000) _ _ = _
      rw [out_not, in_dec]
      by_cases hm : 0 ≤ most ∧ most ≤ 18000
      · rw [dT hm, Bool.not_true, cond_false, if_pos hm]
        show Option.bind (ref05_can N (passes r) most) _ = _
        rw [ref_can hN (passes_vl (check_iff.1 hc) hp), Option.bind_some]
      · rw [dF hm, Bool.not_false, cond_true, if_neg hm]
    · rw [if_neg hp, if_neg hp]
      rfl
  · rw [if_neg hc, if_neg hc]
    show cond (checkF r != 0) _ _ = _
    have e2 : (checkF r != 0) = true := by simp [hc]
    rw [e2]
    rfl
theorem can_alls {N : Nat} (hN : 700 ≤ N) {r : shift_Record} (h1 : r.Rating.length ≤ 50) (h2 : r.Gaugings.length ≤ 50) {most : Int} : shift_Can N r most = some (canAll r most) := by
  unfold canAll
  by_cases hc : checkF r = 0
  · rw [if_pos hc]
    have hr := check_iff.1 hc
    by_cases hp : (passes r).all spanOk = true
    · rw [if_pos hp]
      by_cases hm : 0 ≤ most ∧ most ≤ 18000
      · rw [if_pos hm, Can_ok hN hr hp hm]
      · rw [if_neg hm]
        unfold shift_Can
        rcases opened_ok hN hr with ⟨o, -, k⟩ | ⟨k, -⟩
        · rw [hp] at k
          cases k
        rw [k, Option.bind_some]
        show cond (!(shift_in most 0 18000)) _ _ = _
        rw [in_dec, dF hm]
        rfl
    · rw [if_neg hp]
      unfold shift_Can
      rcases opened_ok hN hr with ⟨o, k, -⟩ | ⟨-, k⟩
      · rw [k, Option.bind_some]
        rfl
      · exact absurd k hp
  · rw [if_neg hc]
    unfold shift_Can
    rw [opened_bad hN h1 h2 hc, Option.bind_some]
    show cond (checkF r != 0) _ _ = _
    have e2 : (checkF r != 0) = true := by simp [hc]
    rw [e2]
    rfl
end Go.Nilo
