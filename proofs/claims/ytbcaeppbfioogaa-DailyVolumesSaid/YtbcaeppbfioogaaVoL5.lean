/-
  What the plain functions compute, in plain arithmetic, part 5. Conditions: what each theorem names.
-/
import Derived.Test.YtbcaeppbfioogaaVoL4
set_option linter.unusedSimpArgs false
set_option linter.unusedVariables false
namespace Go.Nilo
theorem U_sm {r : daily_Record} (hr : ROk r) {a b : Nat} (ha : a ≤ 60) (hb : b ≤ 60) : 0 ≤ U r.Rise r.Fall a b ∧ U r.Rise r.Fall a b ≤ 60000000000 := by
  refine ⟨U_nonneg hr.rise.1 hr.fall.1, ?_⟩
  have := U_le hr.rise.1 hr.fall.1 hr.rise.2 hr.fall.2 ha hb
  omega
def toV (v : daily_Value) : ref07_Value := ⟨v.Known, v.Flow⟩
def toR (r : daily_Record) : ref07_Record := ⟨r.Rise, r.Fall, r.Days.map toV⟩
theorem rec_conv {N : Nat} (hN : 100 ≤ N) {r : daily_Record} (hl : r.Days.length ≤ 70) : law07_Record N r = some (toR r) := by
  unfold law07_Record
  have := runS (ρ := ref07_Record) (fun i : Nat => (((i : Int), (r.Days.take i).map toV) : Int × List ref07_Value)) r.Days.length (fun s5 => law07_Record_b5 N r s5.1 s5.2) (fun i hi => by
    show law07_Record_b5 N r (i : Int) ((r.Days.take i).map toV) = _
    unfold law07_Record_b5
    rw [lt_dec hi, cond_true, getI_d dv0 hi, Option.bind_some, room_ok (by simp; omega), Option.bind_some, W_succ (by omega), take_map_succ (d := dv0) hi]
    rfl) (by
    show law07_Record_b5 N r (r.Days.length : Int) _ = _
    unfold law07_Record_b5
    rw [ge_dec, cond_false]) (N := N) (by omega)
  rw [show ((0 : Int), ([] : List ref07_Value)) = (((0 : Nat) : Int), (r.Days.take 0).map toV) from rfl, this, Option.bind_some, List.take_length]
  rfl
theorem out_not (n a b : Int) : ref07_outside n a b = !decide (a ≤ n ∧ n ≤ b) := by
  unfold ref07_outside
  by_cases h : a ≤ n ∧ n ≤ b
  · rw [dT h, dF (by omega), dF (by omega)]
    rfl
  · rw [dF h, Bool.not_false, Bool.or_eq_true, decide_eq_true_eq, decide_eq_true_eq]
    omega
theorem wrong_not {v : daily_Value} (h : v.Known = true) : ref07_wrong v.Flow = !daily_Check_1 v := by
  unfold ref07_wrong
  cases hc : daily_Check_1 v with
  | true =>
    have := okv_iff.1 hc h
    rw [dF (by omega), dF (by omega), dF (by omega)]
    rfl
  | false =>
    rw [Bool.not_false, Bool.or_eq_true, Bool.or_eq_true, decide_eq_true_eq, decide_eq_true_eq, decide_eq_true_eq]
    rcases Classical.em (0 ≤ v.Flow.Lo ∧ v.Flow.Lo ≤ v.Flow.Hi ∧ v.Flow.Hi ≤ 1000000000) with c | c
    · rw [okv_iff.2 fun _ => c] at hc
      cases hc
    · omega
theorem ref_check {N : Nat} (hN : 100 ≤ N) {r : daily_Record} (h1 : r.Days.length ≤ 70) : ref07_Check N (toR r) = some (checkD r) := by
  unfold ref07_Check checkD toR
  simp only [List.length_map]
  by_cases h : 1 ≤ r.Days.length ∧ r.Days.length ≤ 60
  · rw [if_pos h, dF (by omega), dF (by omega), out_not, out_not]
    by_cases h2 : (0 ≤ r.Rise ∧ r.Rise ≤ 1000000000) ∧ (0 ≤ r.Fall ∧ r.Fall ≤ 1000000000)
    · rw [not_dec' h2.1, not_dec' h2.2]
      have hs := scanS (ρ := Int) (fun i : Nat => (i : Int)) (fun i => cond (daily_Check_1 (r.Days.getD i dv0)) none (some 80)) r.Days.length (fun s10 => ref07_Check_b10 N ⟨r.Rise, r.Fall, r.Days.map toV⟩ s10) (fun i hi => by
        show ref07_Check_b10 N ⟨r.Rise, r.Fall, r.Days.map toV⟩ (i : Int) = _
        unfold ref07_Check_b10
        rw [List.length_map, lt_dec hi, cond_true, getI_map dv0 hi, Option.bind_some, Option.bind_some, W_succ (by omega)]
        show Option.bind (cond (r.Days.getD i dv0).Known (some (ref07_wrong (r.Days.getD i dv0).Flow)) (some false)) _ = _
        cases hk : (r.Days.getD i dv0).Known with
        | true =>
          rw [wrong_not hk]
          cases daily_Check_1 (r.Days.getD i dv0) <;> rfl
        | false =>
          rw [okv_iff.2 fun h => by rw [hk] at h; cases h]
          rfl) (by
        show ref07_Check_b10 N ⟨r.Rise, r.Fall, r.Days.map toV⟩ (r.Days.length : Int) = _
        unfold ref07_Check_b10
        rw [List.length_map, ge_dec, cond_false]) r.Days.length 0 N (by omega) (by omega)
      rw [all_first r.Days.length 0 (by omega), List.drop_zero] at hs
      show Option.bind (loopO (fun s10 => ref07_Check_b10 N ⟨r.Rise, r.Fall, r.Days.map toV⟩ s10) N ((0 : Nat) : Int)) _ = _
      rw [hs, Option.bind_some]
      cases hall : r.Days.all daily_Check_1 with
      | true =>
        rw [if_pos ⟨h2, rfl⟩]
        rfl
      | false =>
        rw [if_neg (fun h => by cases h.2)]
        rfl
    · rw [if_neg fun h => h2 h.1]
      have : (!decide (0 ≤ r.Rise ∧ r.Rise ≤ 1000000000) || !decide (0 ≤ r.Fall ∧ r.Fall ≤ 1000000000)) = true := by
        rw [Bool.or_eq_true, Bool.not_eq_true', Bool.not_eq_true', decide_eq_false_iff_not, decide_eq_false_iff_not]
        omega
      rw [this]
      rfl
  · rw [if_neg h]
    have : (decide ((r.Days.length : Int) < 1) || decide ((60 : Int) < (r.Days.length : Int))) = true := by
      rw [Bool.or_eq_true, decide_eq_true_eq, decide_eq_true_eq]
      omega
    rw [this]
    rfl
theorem ref_own {N : Nat} {r : daily_Record} {i : Nat} (h : i < r.Days.length) : ref07_own N (toR r) (i : Int) = some ⟨lo r i, hi r i⟩ := by
  unfold ref07_own toR
  rw [getI_map dv0 h, Option.bind_some, Option.bind_some]
  unfold lo hi vs
  show cond (r.Days.getD i dv0).Known (some (r.Days.getD i dv0).Flow) _ = _
  cases (r.Days.getD i dv0).Known <;> rfl
theorem ref_told {N : Nat} (hN : 100 ≤ N) {r : daily_Record} (hr : ROk r) {d : Nat} (hd : d < r.Days.length) : ref07_told N (toR r) (d : Int) = some ⟨tG r d, tL r d⟩ := by
  have h60 := hr.n60
  have hL : (toR r).Days.length = r.Days.length := by simp [toR]
  unfold ref07_told
  rw [ref_own hd, Option.bind_some]
  have := runS (ρ := api_Span) (fun k : Nat => ((k : Int), refG (lo r) r.Rise r.Fall d k, refL (hi r) r.Rise r.Fall d k)) r.Days.length (fun s5 => ref07_told_b5 N (toR r) (d : Int) s5.1 s5.2.1 s5.2.2) (fun k hk => by
    show ref07_told_b5 N (toR r) (d : Int) (k : Int) (refG (lo r) r.Rise r.Fall d k) (refL (hi r) r.Rise r.Fall d k) = _
    have b1 := own_bd hr k
    have u1 := U_sm hr (a := d) (b := k) (by omega) (by omega)
    have u2 := U_sm hr (a := k) (b := d) (by omega) (by omega)
    unfold ref07_told_b5 ref07_told_j9
    rw [hL, lt_dec hk, cond_true, ref_own hk, Option.bind_some, W_succ (by omega), W_sm (n := (d : Int) - (k : Int)) (by omega) (by omega), W_sm (n := (k : Int) - (d : Int)) (by omega) (by omega)]
    by_cases h : k < d
    · have e1 : ((d : Int) - (k : Int)) * r.Fall = U r.Rise r.Fall d k := by rw [U_down (by omega), show (d : Int) - (k : Int) = ((d - k : Nat) : Int) by omega]
      have e2 : ((d : Int) - (k : Int)) * r.Rise = U r.Rise r.Fall k d := by rw [U_up (by omega), show (d : Int) - (k : Int) = ((d - k : Nat) : Int) by omega]
      rw [dT (show (k : Int) < (d : Int) by omega), cond_true]
      show some (Step.cont (((k + 1 : Nat) : Int), max _ (W (lo r k - W (((d : Int) - (k : Int)) * (toR r).Fall))), min _ (W (hi r k + W (((d : Int) - (k : Int)) * (toR r).Rise))))) = _
      rw [show (toR r).Fall = r.Fall from rfl, show (toR r).Rise = r.Rise from rfl, e1, e2, W_sm (n := U r.Rise r.Fall d k) (by omega) (by omega), W_sm (n := U r.Rise r.Fall k d) (by omega) (by omega), W_sm (n := lo r k - U r.Rise r.Fall d k) (by omega) (by omega), W_sm (n := hi r k + U r.Rise r.Fall k d) (by omega) (by omega)]
      rfl
    · have e1 : ((k : Int) - (d : Int)) * r.Fall = U r.Rise r.Fall k d := by rw [U_down (by omega), show (k : Int) - (d : Int) = ((k - d : Nat) : Int) by omega]
      have e2 : ((k : Int) - (d : Int)) * r.Rise = U r.Rise r.Fall d k := by rw [U_up (by omega), show (k : Int) - (d : Int) = ((k - d : Nat) : Int) by omega]
      rw [dF (show ¬ (k : Int) < (d : Int) by omega), cond_false]
      show some (Step.cont (((k + 1 : Nat) : Int), max _ (W (lo r k - W (((k : Int) - (d : Int)) * (toR r).Rise))), min _ (W (hi r k + W (((k : Int) - (d : Int)) * (toR r).Fall))))) = _
      rw [show (toR r).Fall = r.Fall from rfl, show (toR r).Rise = r.Rise from rfl, e1, e2, W_sm (n := U r.Rise r.Fall d k) (by omega) (by omega), W_sm (n := U r.Rise r.Fall k d) (by omega) (by omega), W_sm (n := lo r k - U r.Rise r.Fall d k) (by omega) (by omega), W_sm (n := hi r k + U r.Rise r.Fall k d) (by omega) (by omega)]
      rfl) (by
    show ref07_told_b5 N (toR r) (d : Int) (r.Days.length : Int) _ _ = _
    unfold ref07_told_b5
    rw [hL, ge_dec, cond_false]) (N := N) (by omega)
  show Option.bind (loopO (fun s5 => ref07_told_b5 N (toR r) (d : Int) s5.1 s5.2.1 s5.2.2) N (((0 : Nat) : Int), refG (lo r) r.Rise r.Fall d 0, refL (hi r) r.Rise r.Fall d 0)) _ = _
  rw [this, Option.bind_some, refG_eq hr.rise.1 hr.fall.1 hd, refL_eq hr.rise.1 hr.fall.1 hd]
  rfl
theorem ref_fill {N : Nat} (hN : 100 ≤ N) {r : daily_Record} (h1 : r.Days.length ≤ 70) : ref07_Fill N (toR r) = some (fillF r) := by
  unfold ref07_Fill fillF
  rw [ref_check hN h1, Option.bind_some]
  have hL : (toR r).Days.length = r.Days.length := by simp [toR]
  by_cases hc : checkD r = 0
  · rw [if_pos hc, hc, show ((0 : Int) != 0) = false from rfl, cond_false]
    have hr := check_iff.1 hc
    have h60 := hr.n60
    have hs := scanS (ρ := List api_Span × Int) (fun d : Nat => (rl d (fun i => (⟨tG r i, tL r i⟩ : api_Span)), (d : Int))) (fun d => cond (decide (tG r d ≤ tL r d)) none (some (([] : List api_Span), (7 : Int)))) r.Days.length (fun s9 => ref07_Fill_b9 N (toR r) s9.1 s9.2) (fun d hd => by
      show ref07_Fill_b9 N (toR r) (rl d _) (d : Int) = _
      unfold ref07_Fill_b9
      rw [hL, lt_dec hd, cond_true, ref_told hN hr hd, Option.bind_some]
      by_cases h : tG r d ≤ tL r d
      · rw [dT h]
        show cond (decide (tL r d < tG r d)) _ _ = _
        rw [dF (by omega), cond_false, room_ok (by rw [List.length_append, rl_len]; simp; omega), Option.bind_some, W_succ (by omega), rl_snoc]
        rfl
      · rw [dF h]
        show cond (decide (tL r d < tG r d)) _ _ = _
        rw [dT (by omega)]
        rfl) (by
      show ref07_Fill_b9 N (toR r) _ (r.Days.length : Int) = _
      unfold ref07_Fill_b9
      rw [hL, ge_dec, cond_false]) r.Days.length 0 N (by omega) (by omega)
    rw [firstG_range] at hs
    show Option.bind (loopO (fun s9 => ref07_Fill_b9 N (toR r) s9.1 s9.2) N (rl 0 (fun i => (⟨tG r i, tL r i⟩ : api_Span)), ((0 : Nat) : Int))) _ = _
    rw [hs, Option.bind_some]
    have e : agB r = (List.range' 0 r.Days.length).all fun d => decide (tG r d ≤ tL r d) := by
      rw [Bool.eq_iff_iff, range_all, agB_iff]
      constructor
      · exact fun h j hj => dT (h j hj)
      · exact fun h j hj => of_decide_eq_true (h j hj)
    rw [e]
    cases (List.range' 0 r.Days.length).all fun d => decide (tG r d ≤ tL r d) <;> rfl
  · rw [if_neg hc]
    have : (checkD r != 0) = true := by simp [hc]
    rw [this]
    rfl
theorem same_span {N : Nat} {l : List api_Span} (hl : l.length ≤ 1000) (hN : l.length < N) : kit_Same_api_Span N l l = some true := by
  unfold kit_Same_api_Span
  rw [bne_self_eq_false, cond_false, sameLoop l (by omega) _ (fun i hi => by
    show kit_Same_api_Span_b7 N l l (i : Int) = _
    unfold kit_Same_api_Span_b7
    rw [lt_dec hi, cond_true, getI_d sp0 hi, Option.bind_some, Option.bind_some, beq_self_eq_true, beq_self_eq_true, W_succ (by omega)]
    rfl) (by
    show kit_Same_api_Span_b7 N l l _ = _
    unfold kit_Same_api_Span_b7
    rw [ge_dec, cond_false]) hN]
  rfl
theorem same_int {N : Nat} {l : List Int} (hl : l.length ≤ 1000) (hN : l.length < N) : kit_Same_int N l l = some true := by
  unfold kit_Same_int
  rw [bne_self_eq_false, cond_false, sameLoop l (by omega) _ (fun i hi => by
    show kit_Same_int_b7 N l l (i : Int) = _
    unfold kit_Same_int_b7
    rw [lt_dec hi, cond_true, getI_d 0 hi, Option.bind_some, Option.bind_some, bne_self_eq_false, cond_false, W_succ (by omega)]) (by
    show kit_Same_int_b7 N l l _ = _
    unfold kit_Same_int_b7
    rw [ge_dec, cond_false]) hN]
  rfl
theorem same_value {N : Nat} {l : List daily_Value} (hl : l.length ≤ 1000) (hN : l.length < N) : kit_Same_daily_Value N l l = some true := by
  unfold kit_Same_daily_Value
  rw [bne_self_eq_false, cond_false, sameLoop l (by omega) _ (fun i hi => by
    show kit_Same_daily_Value_b7 N l l (i : Int) = _
    unfold kit_Same_daily_Value_b7
    rw [lt_dec hi, cond_true, getI_d dv0 hi, Option.bind_some, Option.bind_some, beq_self_eq_true, beq_self_eq_true, beq_self_eq_true, W_succ (by omega)]
    rfl) (by
    show kit_Same_daily_Value_b7 N l l _ = _
    unfold kit_Same_daily_Value_b7
    rw [ge_dec, cond_false]) hN]
  rfl
theorem copy_rec {N : Nat} {r : daily_Record} (h1 : r.Days.length ≤ 70) : law07_CopyRecord N r = some r := by
  unfold law07_CopyRecord kit_Copy_daily_Value
  rw [room_ok (by omega), Option.bind_some, Option.bind_some]
theorem same_rec {N : Nat} (hN : 100 ≤ N) {r : daily_Record} (h1 : r.Days.length ≤ 70) : law07_same N r r = some true := by
  unfold law07_same
  rw [beq_self_eq_true, beq_self_eq_true, same_value (by omega) (by omega)]
  rfl
theorem told_len {r : daily_Record} : (told r).length = r.Days.length := rl_len
end Go.Nilo
