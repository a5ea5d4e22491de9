/-
  What the plain functions compute, in plain arithmetic, part 7. Conditions: what each theorem names.
-/
import Derived.Test.YtbcaeppbfioogaaVoL6
set_option linter.unusedSimpArgs false
set_option linter.unusedVariables false
namespace Go.Nilo
theorem every_flows {N : Nat} {l : List api_Span} (hl : l.length < N) (hl' : l.length ≤ 1000000) : daily_every_api_Span_s2 N l = some (l.all daily_flows) := by
  unfold daily_every_api_Span_s2 slices_ContainsFunc_Lapi_Span_api_Span_s2 slices_IndexFunc_Lapi_Span_api_Span_s2
  exact every_gen (f := daily_every_api_Span_1_s2) (ok := daily_flows) (fun x => rfl) hl hl' _ (fun x => rfl)
def againP (r : daily_Record) (l : List api_Span) (i : Nat) : Bool := decide (tG r i < (l.getD i sp0).Lo ∨ (l.getD i sp0).Hi < tL r i)
def agaR (r : daily_Record) (l : List api_Span) : List Int × Int :=
  if checkD r = 0 then (if l.length = r.Days.length then (if l.all daily_flows = true then (if agB r = true then (filt (againP r l) r.Days.length, 0) else ([], 7)) else ([], 4)) else ([], 2)) else ([], checkD r)
theorem Again_spec {N : Nat} (hN : 100 ≤ N) {r : daily_Record} {l : List api_Span} (h1 : r.Days.length ≤ 70) : daily_Again N r l = some (agaR r l) := by
  unfold daily_Again agaR
  rw [Check_spec hN h1, Option.bind_some]
  by_cases hc : checkD r = 0
  · rw [if_pos hc, hc, show ((0 : Int) != 0) = false from rfl, cond_false]
    have hr := check_iff.1 hc
    have h60 := hr.n60
    by_cases hl : l.length = r.Days.length
    · have e : ((((l.length : Nat) : Int)) != ((r.Days.length : Nat) : Int)) = false := by simp [hl]
      rw [if_pos hl, e, cond_false, every_flows (by omega) (by omega), Option.bind_some]
      cases hf : l.all daily_flows with
      | false => rfl
      | true =>
        rw [if_pos rfl, Bool.not_true, cond_false, agreed_ok hN hr, Option.bind_some]
        show cond ((if agB r = true then (0 : Int) else 7) != 0) _ _ = _
        cases hag : agB r with
        | false => rfl
        | true =>
          rw [if_pos rfl, if_pos rfl, show ((0 : Int) != 0) = false from rfl, cond_false]
          have := runS (ρ := List Int × Int) (fun i : Nat => (filt (againP r l) i, (i : Int))) l.length (fun s32 => daily_Again_b32 N r l (r.Rise, r.Fall, told r, 0) s32.1 s32.2) (fun i hi => by
            show daily_Again_b32 N r l (r.Rise, r.Fall, told r, 0) (filt (againP r l) i) (i : Int) = _
            have hl := filt_len (p := againP r l) (n := i)
            unfold daily_Again_b32 daily_Again_j36 daily_work_again
            rw [lt_dec hi, cond_true, getI_d sp0 hi, Option.bind_some]
            show Option.bind (Option.bind (getI (told r) (i : Int)) _) _ = _
            rw [told_get (by omega), Option.bind_some, Option.bind_some, W_succ (by omega), filt_succ]
            have e : (decide (tG r i < (l.getD i sp0).Lo) || decide ((l.getD i sp0).Hi < tL r i)) = againP r l i := by
              unfold againP
              rw [Bool.eq_iff_iff, Bool.or_eq_true, decide_eq_true_eq, decide_eq_true_eq, decide_eq_true_eq]
            show cond (decide (tG r i < (l.getD i sp0).Lo) || decide ((l.getD i sp0).Hi < tL r i)) _ _ = _
            rw [e]
            cases againP r l i with
            | true =>
              rw [cond_true, room_ok (by simp; omega), Option.bind_some, if_pos rfl]
            | false =>
              rw [cond_false, if_neg (by simp)]) (by
            show daily_Again_b32 N r l (r.Rise, r.Fall, told r, 0) _ (l.length : Int) = _
            unfold daily_Again_b32
            rw [ge_dec, cond_false]) (N := N) (by omega)
          show Option.bind (loopO (fun s32 => daily_Again_b32 N r l (r.Rise, r.Fall, told r, 0) s32.1 s32.2) N (filt (againP r l) 0, ((0 : Nat) : Int))) _ = _
          rw [this, Option.bind_some, hl]
          rfl
    · have e : ((((l.length : Nat) : Int)) != ((r.Days.length : Nat) : Int)) = true := by simp; omega
      rw [if_neg hl, e, cond_true]
  · rw [if_neg hc]
    have : (checkD r != 0) = true := by simp [hc]
    rw [this]
    rfl
theorem wrong_flows {s : api_Span} : ref07_wrong s = !daily_flows s := by
  unfold ref07_wrong daily_flows daily_flow
  rw [in_dec, in_dec, Bool.eq_iff_iff]
  simp only [Bool.or_eq_true, decide_eq_true_eq, Bool.not_eq_true', Bool.and_eq_false_iff, decide_eq_false_iff_not]
  omega
theorem ref_again {N : Nat} (hN : 100 ≤ N) {r : daily_Record} {l : List api_Span} (h1 : r.Days.length ≤ 70) (h2 : l.length ≤ 70) : ref07_Again N (toR r) l = some (agaR r l) := by
  unfold ref07_Again agaR
  rw [ref_check hN h1, Option.bind_some]
  have hL : (toR r).Days.length = r.Days.length := by simp [toR]
  by_cases hc : checkD r = 0
  · rw [if_pos hc, hc, show ((0 : Int) != 0) = false from rfl, cond_false]
    have hr := check_iff.1 hc
    have h60 := hr.n60
    by_cases hl : l.length = r.Days.length
    · have e : ((((l.length : Nat) : Int)) != (((toR r).Days.length : Nat) : Int)) = false := by simp [hl, hL]
      have hall := scanS (ρ := List Int × Int) (fun i : Nat => (i : Int)) (fun i => cond (daily_flows (l.getD i sp0)) none (some (([] : List Int), (4 : Int)))) l.length (fun s11 => ref07_Again_b11 N l s11) (fun i hi => by
        show ref07_Again_b11 N l (i : Int) = _
        unfold ref07_Again_b11
        rw [lt_dec hi, cond_true, getI_d sp0 hi, Option.bind_some, wrong_flows, W_succ (by omega)]
        cases daily_flows (l.getD i sp0) <;> rfl) (by
        show ref07_Again_b11 N l (l.length : Int) = _
        unfold ref07_Again_b11
        rw [ge_dec, cond_false]) l.length 0 N (by omega) (by omega)
      rw [all_first l.length 0 (by omega), List.drop_zero] at hall
      rw [if_pos hl, e, cond_false]
      show Option.bind (loopO (fun s11 => ref07_Again_b11 N l s11) N ((0 : Nat) : Int)) _ = _
      rw [hall, Option.bind_some]
      cases hf : l.all daily_flows with
      | false => rfl
      | true =>
        rw [if_pos rfl]
        show Option.bind (ref07_Fill N (toR r)) _ = _
        rw [ref_fill hN h1, Option.bind_some]
        unfold fillF
        rw [if_pos hc]
        cases hag : agB r with
        | false => rfl
        | true =>
          rw [if_pos rfl, if_pos rfl]
          have hle : ∀ i, i < r.Days.length → tG r i ≤ tL r i := agB_iff.1 hag
          have := runS (ρ := List Int × Int) (fun i : Nat => (filt (againP r l) i, (i : Int))) r.Days.length (fun s19 => ref07_Again_b19 N l (told r, 0) s19.1 s19.2) (fun i hi => by
            show ref07_Again_b19 N l (told r, 0) (filt (againP r l) i) (i : Int) = _
            have hl := filt_len (p := againP r l) (n := i)
            unfold ref07_Again_b19 ref07_Again_j23
            show cond (decide ((i : Int) < ((told r).length : Int))) (Option.bind (getI (told r) (i : Int)) _) _ = _
            rw [told_len, lt_dec hi, cond_true, told_get hi, Option.bind_some, getI_d sp0 (by omega), Option.bind_some, Option.bind_some, W_succ (by omega), filt_succ, out_not, Option.bind_some, Option.bind_some, Option.bind_some, out_not]
            have hi2 := hle i hi
            have e : (cond (!decide ((l.getD i sp0).Lo ≤ tG r i ∧ tG r i ≤ (l.getD i sp0).Hi)) (some true) (some (!decide ((l.getD i sp0).Lo ≤ tL r i ∧ tL r i ≤ (l.getD i sp0).Hi)))) = some (againP r l i) := by
              unfold againP
              by_cases h : (l.getD i sp0).Lo ≤ tG r i ∧ tG r i ≤ (l.getD i sp0).Hi
              · rw [not_dec' h, cond_false]
                congr 1
                rw [Bool.eq_iff_iff, Bool.not_eq_true', decide_eq_false_iff_not, decide_eq_true_eq]
                omega
              · rw [not_dec h, cond_true, dT (by omega)]
            show Option.bind (cond (!decide ((l.getD i sp0).Lo ≤ tG r i ∧ tG r i ≤ (l.getD i sp0).Hi)) (some true) (some (!decide ((l.getD i sp0).Lo ≤ tL r i ∧ tL r i ≤ (l.getD i sp0).Hi)))) _ = _
            rw [e, Option.bind_some]
            cases againP r l i with
            | true =>
              rw [cond_true, room_ok (by simp; omega), Option.bind_some, if_pos rfl]
            | false =>
              rw [cond_false, if_neg (by simp)]) (by
            show ref07_Again_b19 N l (told r, 0) _ (r.Days.length : Int) = _
            unfold ref07_Again_b19
            show cond (decide ((r.Days.length : Int) < ((told r).length : Int))) _ _ = _
            rw [told_len, ge_dec, cond_false]) (N := N) (by omega)
          show Option.bind (loopO (fun s19 => ref07_Again_b19 N l (told r, 0) s19.1 s19.2) N (filt (againP r l) 0, ((0 : Nat) : Int))) _ = _
          rw [this, Option.bind_some]
          rfl
    · have e : ((((l.length : Nat) : Int)) != (((toR r).Days.length : Nat) : Int)) = true := by simp [hL]; omega
      rw [if_neg hl, e, cond_true]
  · rw [if_neg hc]
    have : (checkD r != 0) = true := by simp [hc]
    rw [this]
    rfl
theorem copy_span {N : Nat} {l : List api_Span} (h1 : l.length ≤ 1000) : kit_Copy_api_Span N l = some l := by
  unfold kit_Copy_api_Span
  rw [room_ok (by omega), Option.bind_some]
theorem peakR_len {r : daily_Record} : (peakR r).2.1.length ≤ r.Days.length := by
  unfold peakR
  split
  · split
    · exact filt_len
    · exact Nat.zero_le _
  · exact Nat.zero_le _
theorem agaR_len {r : daily_Record} {l : List api_Span} : (agaR r l).1.length ≤ r.Days.length := by
  unfold agaR
  split
  · split
    · split
      · split
        · exact filt_len
        · exact Nat.zero_le _
      · exact Nat.zero_le _
    · exact Nat.zero_le _
  · exact Nat.zero_le _
theorem volumes_law (r : daily_Record) (a b : Int) (l : List api_Span) : law07_DailyVolumes 100 r a b l = some true := by
  unfold law07_DailyVolumes
  by_cases hc : (decide (65 < ((r.Days.length : Nat) : Int)) || decide (70 < ((l.length : Nat) : Int))) = true
  · rw [hc, cond_true, awake_true]
    rfl
  · have hc' : (decide (65 < ((r.Days.length : Nat) : Int)) || decide (70 < ((l.length : Nat) : Int))) = false := by simpa using hc
    rw [hc', cond_false]
    rw [Bool.or_eq_false_iff, decide_eq_false_iff_not, decide_eq_false_iff_not] at hc'
    have h1 : r.Days.length ≤ 70 := by omega
    have hN : 100 ≤ 100 := Nat.le_refl _
    have b1 : ∀ x : Int, (x != x) = false := bne_self_eq_false
    have b2 : ∀ x : Int, (x == x) = true := beq_self_eq_true
    have k1 := peakR_len (r := r)
    have k2 := agaR_len (r := r) (l := l)
    rw [copy_rec h1, Option.bind_some, copy_span (by omega), Option.bind_some, Volume_spec hN h1, Option.bind_some, rec_conv hN h1, Option.bind_some, ref_volume hN h1, Option.bind_some, b2, b2, b1, Bool.and_true, Bool.not_true, Bool.or_false, cond_false, Peak_spec hN h1, Option.bind_some, Option.bind_some, ref_peak hN h1, Option.bind_some, b2, b2, b1, same_int (by omega) (by omega), Bool.and_true, Bool.not_true, cond_false, Option.bind_some, Option.bind_some]
    rw [Bool.not_true, Bool.or_false, cond_false, Again_spec hN h1, Option.bind_some, Option.bind_some, ref_again hN h1 (by omega), Option.bind_some, same_int (by omega) (by omega), Option.bind_some, b2, same_rec hN h1, same_span (by omega) (by omega), awake_true]
    rfl
end Go.Nilo
