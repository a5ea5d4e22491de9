/-
  What the plain functions compute, in plain arithmetic, part 7. Conditions: what each theorem names.
-/
import Derived.Test.YtbcaeppbfioogaaFiL6
set_option linter.unusedSimpArgs false
set_option linter.unusedVariables false
namespace Go.Nilo
theorem same_span {N : Nat} {l : List api_Span} (hl : l.length ≤ 1000) (hN : l.length < N) : kit_Same_api_Span N l l = some true := by
  unfold kit_Same_api_Span
  rw [bne_self_eq_false, cond_false, sameLoop l (by omega) _ (fun i hi => by
    show kit_Same_api_Span_b7 N l l (i : Int) = _
    unfold kit_Same_api_Span_b7
    rw [lt_dec hi, cond_true, getI_d sp0 hi, Option.bind_some, Option.bind_some, beq_self_eq_true, beq_self_eq_true, W_succ (by omega)]
    rfl) (by
    show kit_Same_api_Span_b7 N l l _ = _
    unfold kit_Same_api_Span_b7
    rw [ge_dec, cond_false]) hN]
  rfl
theorem same_int {N : Nat} {l : List Int} (hl : l.length ≤ 1000) (hN : l.length < N) : kit_Same_int N l l = some true := by
  unfold kit_Same_int
  rw [bne_self_eq_false, cond_false, sameLoop l (by omega) _ (fun i hi => by
    show kit_Same_int_b7 N l l (i : Int) = _
    unfold kit_Same_int_b7
    rw [lt_dec hi, cond_true, getI_d 0 hi, Option.bind_some, Option.bind_some, bne_self_eq_false, cond_false, W_succ (by omega)]) (by
    show kit_Same_int_b7 N l l _ = _
    unfold kit_Same_int_b7
    rw [ge_dec, cond_false]) hN]
  rfl
theorem same_value {N : Nat} {l : List daily_Value} (hl : l.length ≤ 1000) (hN : l.length < N) : kit_Same_daily_Value N l l = some true := by
  unfold kit_Same_daily_Value
  rw [bne_self_eq_false, cond_false, sameLoop l (by omega) _ (fun i hi => by
    show kit_Same_daily_Value_b7 N l l (i : Int) = _
    unfold kit_Same_daily_Value_b7
    rw [lt_dec hi, cond_true, getI_d dv0 hi, Option.bind_some, Option.bind_some, beq_self_eq_true, beq_self_eq_true, beq_self_eq_true, W_succ (by omega)]
    rfl) (by
    show kit_Same_daily_Value_b7 N l l _ = _
    unfold kit_Same_daily_Value_b7
    rw [ge_dec, cond_false]) hN]
  rfl
theorem copy_rec {N : Nat} {r : daily_Record} (h1 : r.Days.length ≤ 70) : law07_CopyRecord N r = some r := by
  unfold law07_CopyRecord kit_Copy_daily_Value
  rw [room_ok (by omega), Option.bind_some, Option.bind_some]
theorem copy_int {N : Nat} {l : List Int} (h1 : l.length ≤ 1000) : kit_Copy_int N l = some l := by
  unfold kit_Copy_int
  rw [room_ok (by omega), Option.bind_some]
theorem same_rec {N : Nat} (hN : 100 ≤ N) {r : daily_Record} (h1 : r.Days.length ≤ 70) : law07_same N r r = some true := by
  unfold law07_same
  rw [beq_self_eq_true, beq_self_eq_true, same_value (by omega) (by omega)]
  rfl
theorem told_len {r : daily_Record} : (told r).length = r.Days.length := rl_len
theorem fillF_len {r : daily_Record} : (fillF r).1.length ≤ r.Days.length := by
  unfold fillF
  split
  · split
    · exact Nat.le_of_eq told_len
    · exact Nat.zero_le _
  · exact Nat.zero_le _
theorem fills_law (r : daily_Record) (flows : List Int) : law07_DailyFills 100 r flows = some true := by
  unfold law07_DailyFills
  by_cases hc : (decide (65 < ((r.Days.length : Nat) : Int)) || decide (70 < ((flows.length : Nat) : Int))) = true
  · rw [hc, cond_true, awake_true]
    rfl
  · have hc' : (decide (65 < ((r.Days.length : Nat) : Int)) || decide (70 < ((flows.length : Nat) : Int))) = false := by simpa using hc
    rw [hc', cond_false]
    rw [Bool.or_eq_false_iff, decide_eq_false_iff_not, decide_eq_false_iff_not] at hc'
    have h1 : r.Days.length ≤ 70 := by omega
    have hN : 100 ≤ 100 := Nat.le_refl _
    have b1 : ∀ x : Int, (x != x) = false := bne_self_eq_false
    have b2 : ∀ x : Int, (x == x) = true := beq_self_eq_true
    have hf := fillF_len (r := r)
    rw [copy_rec h1, Option.bind_some, copy_int (by omega), Option.bind_some, Check_spec hN h1, Option.bind_some, rec_conv hN h1, Option.bind_some, ref_check hN h1, Option.bind_some, b1, cond_false, Holds_spec hN h1, Option.bind_some, Option.bind_some, ref_holds hN h1, Option.bind_some, b1, b1, Bool.or_false, cond_false, Fill_spec hN h1, Option.bind_some, Option.bind_some, ref_fill hN h1, Option.bind_some, same_span (by omega) (by omega), Option.bind_some, b1, Bool.not_true, Bool.or_false, cond_false, Clash_spec hN h1, Option.bind_some, Option.bind_some, ref_clash hN h1, Option.bind_some, b2, b2, b2, same_rec hN h1, same_int (by omega) (by omega), awake_true]
    rfl
end Go.Nilo
