/-
  What the plain functions compute, in plain arithmetic, part 6. Conditions: what each theorem names.
-/
import Derived.Test.YtbcaeppbfioogaaFiL5
set_option linter.unusedSimpArgs false
set_option linter.unusedVariables false
namespace Go.Nilo
def toV (v : daily_Value) : ref07_Value := ⟨v.Known, v.Flow⟩
def toR (r : daily_Record) : ref07_Record := ⟨r.Rise, r.Fall, r.Days.map toV⟩
theorem rec_conv {N : Nat} (hN : 100 ≤ N) {r : daily_Record} (hl : r.Days.length ≤ 70) : law07_Record N r = some (toR r) := by
  unfold law07_Record
  have := runS (ρ := ref07_Record) (fun i : Nat => (((i : Int), (r.Days.take i).map toV) : Int × List ref07_Value)) r.Days.length (fun s5 => law07_Record_b5 N r s5.1 s5.2) (fun i hi => by
    show law07_Record_b5 N r (i : Int) ((r.Days.take i).map toV) = _
    unfold law07_Record_b5
    rw [lt_dec hi, cond_true, getI_d dv0 hi, Option.bind_some, room_ok (by simp; omega), Option.bind_some, W_succ (by omega), take_map_succ (d := dv0) hi]
    rfl) (by
    show law07_Record_b5 N r (r.Days.length : Int) _ = _
    unfold law07_Record_b5
    rw [ge_dec, cond_false]) (N := N) (by omega)
  rw [show ((0 : Int), ([] : List ref07_Value)) = (((0 : Nat) : Int), (r.Days.take 0).map toV) from rfl, this, Option.bind_some, List.take_length]
  rfl
theorem out_not (n a b : Int) : ref07_outside n a b = !decide (a ≤ n ∧ n ≤ b) := by
  unfold ref07_outside
  by_cases h : a ≤ n ∧ n ≤ b
  · rw [dT h, dF (by omega), dF (by omega)]
    rfl
  · rw [dF h, Bool.not_false, Bool.or_eq_true, decide_eq_true_eq, decide_eq_true_eq]
    omega
theorem wrong_not {v : daily_Value} (h : v.Known = true) : ref07_wrong v.Flow = !daily_Check_1 v := by
  unfold ref07_wrong
  cases hc : daily_Check_1 v with
  | true =>
    have := okv_iff.1 hc h
    rw [dF (by omega), dF (by omega), dF (by omega)]
    rfl
  | false =>
    rw [Bool.not_false, Bool.or_eq_true, Bool.or_eq_true, decide_eq_true_eq, decide_eq_true_eq, decide_eq_true_eq]
    rcases Classical.em (0 ≤ v.Flow.Lo ∧ v.Flow.Lo ≤ v.Flow.Hi ∧ v.Flow.Hi ≤ 1000000000) with c | c
    · rw [okv_iff.2 fun _ => c] at hc
      cases hc
    · omega
theorem ref_check {N : Nat} (hN : 100 ≤ N) {r : daily_Record} (h1 : r.Days.length ≤ 70) : ref07_Check N (toR r) = some (checkD r) := by
  unfold ref07_Check checkD toR
  simp only [List.length_map]
  by_cases h : 1 ≤ r.Days.length ∧ r.Days.length ≤ 60
  · rw [if_pos h, dF (by omega), dF (by omega), out_not, out_not]
    by_cases h2 : (0 ≤ r.Rise ∧ r.Rise ≤ 1000000000) ∧ (0 ≤ r.Fall ∧ r.Fall ≤ 1000000000)
    · rw [not_dec' h2.1, not_dec' h2.2]
      have hs := scanS (ρ := Int) (fun i : Nat => (i : Int)) (fun i => cond (daily_Check_1 (r.Days.getD i dv0)) none (some 80)) r.Days.length (fun s10 => ref07_Check_b10 N ⟨r.Rise, r.Fall, r.Days.map toV⟩ s10) (fun i hi => by
        show ref07_Check_b10 N ⟨r.Rise, r.Fall, r.Days.map toV⟩ (i : Int) = _
        unfold ref07_Check_b10
        rw [List.length_map, lt_dec hi, cond_true, getI_map dv0 hi, Option.bind_some, Option.bind_some, W_succ (by omega)]
        show Option.bind (cond (r.Days.getD i dv0).Known (some (ref07_wrong (r.Days.getD i dv0).Flow)) (some false)) _ = _
        cases hk : (r.Days.getD i dv0).Known with
        | true =>
          rw [wrong_not hk]
          cases daily_Check_1 (r.Days.getD i dv0) <;> rfl
        | false =>
          rw [okv_iff.2 fun h => by rw [hk] at h; cases h]
          rfl) (by
        show ref07_Check_b10 N ⟨r.Rise, r.Fall, r.Days.map toV⟩ (r.Days.length : Int) = _
        unfold ref07_Check_b10
        rw [List.length_map, ge_dec, cond_false]) r.Days.length 0 N (by omega) (by omega)
      rw [all_first r.Days.length 0 (by omega), List.drop_zero] at hs
      show Option.bind (loopO (fun s10 => ref07_Check_b10 N ⟨r.Rise, r.Fall, r.Days.map toV⟩ s10) N ((0 : Nat) : Int)) _ = _
      rw [hs, Option.bind_some]
      cases hall : r.Days.all daily_Check_1 with
      | true =>
        rw [if_pos ⟨h2, rfl⟩]
        rfl
      | false =>
        rw [if_neg (fun h => by cases h.2)]
        rfl
    · rw [if_neg fun h => h2 h.1]
      have : (!decide (0 ≤ r.Rise ∧ r.Rise ≤ 1000000000) || !decide (0 ≤ r.Fall ∧ r.Fall ≤ 1000000000)) = true := by
        rw [Bool.or_eq_true, Bool.not_eq_true', Bool.not_eq_true', decide_eq_false_iff_not, decide_eq_false_iff_not]
        omega
      rw [this]
      rfl
  · rw [if_neg h]
    have : (decide ((r.Days.length : Int) < 1) || decide ((60 : Int) < (r.Days.length : Int))) = true := by
      rw [Bool.or_eq_true, decide_eq_true_eq, decide_eq_true_eq]
      omega
    rw [this]
    rfl
theorem ref_own {N : Nat} {r : daily_Record} {i : Nat} (h : i < r.Days.length) : ref07_own N (toR r) (i : Int) = some ⟨lo r i, hi r i⟩ := by
  unfold ref07_own toR
  rw [getI_map dv0 h, Option.bind_some, Option.bind_some]
  unfold lo hi vs
  show cond (r.Days.getD i dv0).Known (some (r.Days.getD i dv0).Flow) _ = _
  cases (r.Days.getD i dv0).Known <;> rfl
theorem ref_told {N : Nat} (hN : 100 ≤ N) {r : daily_Record} (hr : ROk r) {d : Nat} (hd : d < r.Days.length) : ref07_told N (toR r) (d : Int) = some ⟨tG r d, tL r d⟩ := by
  have h60 := hr.n60
  have hL : (toR r).Days.length = r.Days.length := by simp [toR]
  unfold ref07_told
  rw [ref_own hd, Option.bind_some]
  have := runS (ρ := api_Span) (fun k : Nat => ((k : Int), refG (lo r) r.Rise r.Fall d k, refL (hi r) r.Rise r.Fall d k)) r.Days.length (fun s5 => ref07_told_b5 N (toR r) (d : Int) s5.1 s5.2.1 s5.2.2) (fun k hk => by
    show ref07_told_b5 N (toR r) (d : Int) (k : Int) (refG (lo r) r.Rise r.Fall d k) (refL (hi r) r.Rise r.Fall d k) = _
    have b1 := own_bd hr k
    have u1 := U_sm hr (a := d) (b := k) (by omega) (by omega)
    have u2 := U_sm hr (a := k) (b := d) (by omega) (by omega)
    unfold ref07_told_b5 ref07_told_j9
    rw [hL, lt_dec hk, cond_true, ref_own hk, Option.bind_some, W_succ (by omega), W_sm (n := (d : Int) - (k : Int)) (by omega) (by omega), W_sm (n := (k : Int) - (d : Int)) (by omega) (by omega)]
    by_cases h : k < d
    · have e1 : ((d : Int) - (k : Int)) * r.Fall = U r.Rise r.Fall d k := by rw [U_down (by omega), show (d : Int) - (k : Int) = ((d - k : Nat) : Int) by omega]
      have e2 : ((d : Int) - (k : Int)) * r.Rise = U r.Rise r.Fall k d := by rw [U_up (by omega), show (d : Int) - (k : Int) = ((d - k : Nat) : Int) by omega]
      rw [dT (show (k : Int) < (d : Int) by omega), cond_true]
      show some (Step.cont (((k + 1 : Nat) : Int), max _ (W (lo r k - W (((d : Int) - (k : Int)) * (toR r).Fall))), min _ (W (hi r k + W (((d : Int) - (k : Int)) * (toR r).Rise))))) = _
      rw [show (toR r).Fall = r.Fall from rfl, show (toR r).Rise = r.Rise from rfl, e1, e2, W_sm (n := U r.Rise r.Fall d k) (by omega) (by omega), W_sm (n := U r.Rise r.Fall k d) (by omega) (by omega), W_sm (n := lo r k - U r.Rise r.Fall d k) (by omega) (by omega), W_sm (n := hi r k + U r.Rise r.Fall k d) (by omega) (by omega)]
      rfl
    · have e1 : ((k : Int) - (d : Int)) * r.Fall = U r.Rise r.Fall k d := by rw [U_down (by omega), show (k : Int) - (d : Int) = ((k - d : Nat) : Int) by omega]
      have e2 : ((k : Int) - (d : Int)) * r.Rise = U r.Rise r.Fall d k := by rw [U_up (by omega), show (k : Int) - (d : Int) = ((k - d : Nat) : Int) by omega]
      rw [dF (show ¬ (k : Int) < (d : Int) by omega), cond_false]
      show some (Step.cont (((k + 1 : Nat) : Int), max _ (W (lo r k - W (((k : Int) - (d : Int)) * (toR r).Rise))), min _ (W (hi r k + W (((k : Int) - (d : Int)) * (toR r).Fall))))) = _
      rw [show (toR r).Fall = r.Fall from rfl, show (toR r).Rise = r.Rise from rfl, e1, e2, W_sm (n := U r.Rise r.Fall d k) (by omega) (by omega), W_sm (n := U r.Rise r.Fall k d) (by omega) (by omega), W_sm (n := lo r k - U r.Rise r.Fall d k) (by omega) (by omega), W_sm (n := hi r k + U r.Rise r.Fall k d) (by omega) (by omega)]
      rfl) (by
    show ref07_told_b5 N (toR r) (d : Int) (r.Days.length : Int) _ _ = _
    unfold ref07_told_b5
    rw [hL, ge_dec, cond_false]) (N := N) (by omega)
  show Option.bind (loopO (fun s5 => ref07_told_b5 N (toR r) (d : Int) s5.1 s5.2.1 s5.2.2) N (((0 : Nat) : Int), refG (lo r) r.Rise r.Fall d 0, refL (hi r) r.Rise r.Fall d 0)) _ = _
  rw [this, Option.bind_some, refG_eq hr.rise.1 hr.fall.1 hd, refL_eq hr.rise.1 hr.fall.1 hd]
  rfl
theorem ref_fill {N : Nat} (hN : 100 ≤ N) {r : daily_Record} (h1 : r.Days.length ≤ 70) : ref07_Fill N (toR r) = some (fillF r) := by
  unfold ref07_Fill fillF
  rw [ref_check hN h1, Option.bind_some]
  have hL : (toR r).Days.length = r.Days.length := by simp [toR]
  by_cases hc : checkD r = 0
  · rw [if_pos hc, hc, show ((0 : Int) != 0) = false from rfl, cond_false]
    have hr := check_iff.1 hc
    have h60 := hr.n60
    have hs := scanS (ρ := List api_Span × Int) (fun d : Nat => (rl d (fun i => (⟨tG r i, tL r i⟩ : api_Span)), (d : Int))) (fun d => cond (decide (tG r d ≤ tL r d)) none (some (([] : List api_Span), (7 : Int)))) r.Days.length (fun s9 => ref07_Fill_b9 N (toR r) s9.1 s9.2) (fun d hd => by
      show ref07_Fill_b9 N (toR r) (rl d _) (d : Int) = _
      unfold ref07_Fill_b9
      rw [hL, lt_dec hd, cond_true, ref_told hN hr hd, Option.bind_some]
      by_cases h : tG r d ≤ tL r d
      · rw [dT h]
        show cond (decide (tL r d < tG r d)) _ _ = _
        rw [dF (by omega), cond_false, room_ok (by rw [List.length_append, rl_len]; simp; omega), Option.bind_some, W_succ (by omega), rl_snoc]
        rfl
      · rw [dF h]
        show cond (decide (tL r d < tG r d)) _ _ = _
        rw [dT (by omega)]
        rfl) (by
      show ref07_Fill_b9 N (toR r) _ (r.Days.length : Int) = _
      unfold ref07_Fill_b9
      rw [hL, ge_dec, cond_false]) r.Days.length 0 N (by omega) (by omega)
    rw [firstG_range] at hs
    show Option.bind (loopO (fun s9 => ref07_Fill_b9 N (toR r) s9.1 s9.2) N (rl 0 (fun i => (⟨tG r i, tL r i⟩ : api_Span)), ((0 : Nat) : Int))) _ = _
    rw [hs, Option.bind_some]
    have e : agB r = (List.range' 0 r.Days.length).all fun d => decide (tG r d ≤ tL r d) := by
      rw [Bool.eq_iff_iff, range_all, agB_iff]
      constructor
      · exact fun h j hj => dT (h j hj)
      · exact fun h j hj => of_decide_eq_true (h j hj)
    rw [e]
    cases (List.range' 0 r.Days.length).all fun d => decide (tG r d ≤ tL r d) <;> rfl
  · rw [if_neg hc]
    have : (checkD r != 0) = true := by simp [hc]
    rw [this]
    rfl
theorem ref_holds {N : Nat} (hN : 100 ≤ N) {r : daily_Record} {l : List Int} (h1 : r.Days.length ≤ 70) : ref07_Holds N (toR r) l = some (holdsF r l) := by
  unfold ref07_Holds holdsF
  rw [ref_check hN h1, Option.bind_some]
  have hL : (toR r).Days.length = r.Days.length := by simp [toR]
  by_cases hc : checkD r = 0
  · rw [if_pos hc, hc, show ((0 : Int) != 0) = false from rfl, cond_false]
    have hr := check_iff.1 hc
    have h60 := hr.n60
    by_cases hl : l.length = r.Days.length
    · have e : ((((l.length : Nat) : Int)) != (((toR r).Days.length : Nat) : Int)) = false := by simp [hl, hL]
      have hall := scanS (ρ := Int × Int) (fun i : Nat => (i : Int)) (fun i => cond (daily_flow (l.getD i 0)) none (some ((0 : Int), (4 : Int)))) l.length (fun s11 => ref07_Holds_b11 N l s11) (fun i hi => by
        show ref07_Holds_b11 N l (i : Int) = _
        unfold ref07_Holds_b11 daily_flow
        rw [lt_dec hi, cond_true, getI_d 0 hi, Option.bind_some, out_not, in_dec, W_succ (by omega)]
        cases decide (0 ≤ l.getD i 0 ∧ l.getD i 0 ≤ 1000000000) <;> rfl) (by
        show ref07_Holds_b11 N l (l.length : Int) = _
        unfold ref07_Holds_b11
        rw [ge_dec, cond_false]) l.length 0 N (by omega) (by omega)
      rw [all_first l.length 0 (by omega), List.drop_zero] at hall
      rw [if_pos hl, e, cond_false]
      show Option.bind (loopO (fun s11 => ref07_Holds_b11 N l s11) N ((0 : Nat) : Int)) _ = _
      rw [hall, Option.bind_some]
      cases hf : l.all daily_flow with
      | false => rfl
      | true =>
        rw [if_pos rfl]
        have hr1 := hr.rise
        have hr2 := hr.fall
        have hs := scanS (ρ := Int × Int) (fun i : Nat => (i : Int)) (fun i => cond (decide (goodP r l i)) none (some ((i : Int), (0 : Int)))) l.length (fun s14 => ref07_Holds_b14 N (toR r) l s14) (fun i hi' => by
          show ref07_Holds_b14 N (toR r) l (i : Int) = _
          have b0 := own_bd hr i
          have b2 := flow_at hf i
          unfold ref07_Holds_b14
          rw [lt_dec hi', cond_true, getI_d 0 hi', Option.bind_some, ref_own (by omega), Option.bind_some, Option.bind_some, out_not, W_succ (by omega), Option.bind_some]
          by_cases h1 : lo r i ≤ l.getD i 0 ∧ l.getD i 0 ≤ hi r i
          · rw [not_dec' h1, cond_false]
            rcases Nat.eq_zero_or_pos i with h0 | h0
            · subst h0
              have hg : goodP r l 0 := ⟨h1, .inl rfl⟩
              rw [dF (show ¬ (0 : Int) < ((0 : Nat) : Int) by omega), dT hg]
              rfl
            · have b1 := flow_at hf (i - 1)
              rw [dT (show (0 : Int) < (i : Int) by omega), cond_true, W_sm (n := (i : Int) - 1) (by omega) (by omega), show ((i : Nat) : Int) - 1 = ((i - 1 : Nat) : Int) by omega, getI_d 0 (by omega), Option.bind_some, Option.bind_some, W_sm (n := l.getD i 0 - l.getD (i - 1) 0) (by omega) (by omega), Option.bind_some, W_sm (n := l.getD (i - 1) 0 - l.getD i 0) (by omega) (by omega)]
              show Option.bind (Option.bind (cond (decide (r.Rise < l.getD i 0 - l.getD (i - 1) 0)) (some true) (some (decide (r.Fall < l.getD (i - 1) 0 - l.getD i 0)))) fun t_1 => some t_1) _ = _
              by_cases hg : goodP r l i
              · have := hg.2
                rw [dT hg, dF (by omega), dF (by omega)]
                rfl
              · have : r.Rise < l.getD i 0 - l.getD (i - 1) 0 ∨ r.Fall < l.getD (i - 1) 0 - l.getD i 0 := by
                  unfold goodP at hg
                  omega
                rw [dF hg]
                rcases this with h | h
                · rw [dT h]
                  rfl
                · rw [dT h]
                  cases decide (r.Rise < l.getD i 0 - l.getD (i - 1) 0) <;> rfl
          · rw [not_dec h1, cond_true, dF (fun h => h1 h.1)]
            rfl) (by
          show ref07_Holds_b14 N (toR r) l (l.length : Int) = _
          unfold ref07_Holds_b14
          rw [ge_dec, cond_false]) l.length 0 N (by omega) (by omega)
        show Option.bind (loopO (fun s14 => ref07_Holds_b14 N (toR r) l s14) N ((0 : Nat) : Int)) _ = _
        rw [hs, Option.bind_some]
        unfold heldF
        rw [hl]
        cases firstG _ 0 r.Days.length <;> rfl
    · have e : ((((l.length : Nat) : Int)) != (((toR r).Days.length : Nat) : Int)) = true := by simp [hL]; omega
      rw [if_neg hl, e, cond_true]
  · rw [if_neg hc]
    have : (checkD r != 0) = true := by simp [hc]
    rw [this]
    rfl
theorem firstG_shift {ρ : Type} {g : Nat → Option ρ} {a : Nat} : ∀ m i, firstG (fun k => g (a + k)) i m = firstG g (a + i) m
  | 0, i => rfl
  | m + 1, i => by
    have e : ∀ {α : Type} (f : Nat → Option α) (i : Nat), firstG f i (m + 1) = match f i with
      | some r => some r
      | none => firstG f (i + 1) m := fun f i => rfl
    rw [e, e, firstG_shift m (i + 1)]
    rfl
theorem ref_clash {N : Nat} (hN : 100 ≤ N) {r : daily_Record} (h1 : r.Days.length ≤ 70) : ref07_Clash N (toR r) = some (clashR r) := by
  unfold ref07_Clash clashR
  rw [ref_check hN h1, Option.bind_some]
  have hL : (toR r).Days.length = r.Days.length := by simp [toR]
  by_cases hc : checkD r = 0
  · rw [if_pos hc, hc, show ((0 : Int) != 0) = false from rfl, cond_false]
    have hr := check_iff.1 hc
    have h60 := hr.n60
    have hin : ∀ i, i < r.Days.length → loopO (fun s15 => ref07_Clash_b15 N (toR r) (i : Int) s15) N ((i + 1 : Nat) : Int) = some (match clash1 r i with
        | some p => .out (.ret ((p.1 : Int), (p.2 : Int), (0 : Int)))
        | none => .go (r.Days.length : Int)) := fun i hi' => by
      have hs := scanS (ρ := Step Int (Int × Int × Int)) (fun m : Nat => ((i + 1 + m : Nat) : Int)) (fun m => (cond (decide (clashP r i (i + 1 + m))) (some (i, i + 1 + m)) none).map fun p => Step.ret ((p.1 : Int), (p.2 : Int), (0 : Int))) (r.Days.length - (i + 1)) (fun s15 => ref07_Clash_b15 N (toR r) (i : Int) s15) (fun m hm => by
        show ref07_Clash_b15 N (toR r) (i : Int) ((i + 1 + m : Nat) : Int) = _
        unfold ref07_Clash_b15
        generalize hk : i + 1 + m = k
        have b0 := own_bd hr i
        have b1 := own_bd hr k
        have u1 := U_sm hr (a := i) (b := k) (by omega) (by omega)
        have u2 := U_sm hr (a := k) (b := i) (by omega) (by omega)
        have e1 : ((k - i : Nat) : Int) * r.Rise = U r.Rise r.Fall i k := by rw [U_up (by omega)]
        have e2 : ((k - i : Nat) : Int) * r.Fall = U r.Rise r.Fall k i := by rw [U_down (by omega)]
        rw [hL, lt_dec (show k < r.Days.length by omega), cond_true, ref_own hi', Option.bind_some, ref_own (show k < r.Days.length by omega), Option.bind_some, W_succ (by omega), W_sm (n := (k : Int) - (i : Int)) (by omega) (by omega), show (k : Int) - (i : Int) = ((k - i : Nat) : Int) by omega]
        rw [show (toR r).Fall = r.Fall from rfl, show (toR r).Rise = r.Rise from rfl, e1, e2, W_sm (n := U r.Rise r.Fall i k) (by omega) (by omega), W_sm (n := U r.Rise r.Fall k i) (by omega) (by omega), W_sm (n := hi r i + U r.Rise r.Fall i k) (by omega) (by omega), W_sm (n := hi r k + U r.Rise r.Fall k i) (by omega) (by omega)]
        have e3 : (decide (hi r i + U r.Rise r.Fall i k < lo r k) || decide (hi r k + U r.Rise r.Fall k i < lo r i)) = decide (clashP r i k) := by
          rw [Bool.eq_iff_iff, Bool.or_eq_true, decide_eq_true_eq, decide_eq_true_eq, decide_eq_true_eq]
          exact Iff.rfl
        show cond (decide (hi r i + U r.Rise r.Fall i k < lo r k) || decide (hi r k + U r.Rise r.Fall k i < lo r i)) _ _ = _
        rw [e3, show i + 1 + (m + 1) = k + 1 by omega]
        cases decide (clashP r i k) <;> rfl) (by
        show ref07_Clash_b15 N (toR r) (i : Int) ((i + 1 + (r.Days.length - (i + 1)) : Nat) : Int) = _
        unfold ref07_Clash_b15
        rw [hL, show i + 1 + (r.Days.length - (i + 1)) = r.Days.length by omega, ge_dec, cond_false]) (r.Days.length - (i + 1)) 0 N (by omega) (by omega)
      rw [firstG_map, firstG_shift (g := fun k => cond (decide (clashP r i k)) (some (i, k)) none)] at hs
      show loopO (fun s15 => ref07_Clash_b15 N (toR r) (i : Int) s15) N ((i + 1 + 0 : Nat) : Int) = _
      rw [hs, show i + 1 + (r.Days.length - (i + 1)) = r.Days.length by omega]
      unfold clash1
      rw [Nat.add_zero]
      cases firstG _ (i + 1) (r.Days.length - (i + 1)) <;> rfl
    have hs := scanS (ρ := Int × Int × Int) (fun i : Nat => (i : Int)) (fun i => (clash1 r i).map fun p => ((p.1 : Int), (p.2 : Int), (0 : Int))) r.Days.length (fun s8 => ref07_Clash_b8 N (toR r) s8) (fun i hi' => by
      show ref07_Clash_b8 N (toR r) (i : Int) = _
      unfold ref07_Clash_b8
      rw [hL, lt_dec hi', cond_true, W_succ (by omega), hin i hi', Option.bind_some]
      cases clash1 r i <;> rfl) (by
      show ref07_Clash_b8 N (toR r) (r.Days.length : Int) = _
      unfold ref07_Clash_b8
      rw [hL, ge_dec, cond_false]) r.Days.length 0 N (by omega) (by omega)
    rw [firstG_map] at hs
    show Option.bind (loopO (fun s8 => ref07_Clash_b8 N (toR r) s8) N ((0 : Nat) : Int)) _ = _
    rw [hs, Option.bind_some]
    unfold clashF
    cases firstG (clash1 r) 0 r.Days.length <;> rfl
  · rw [if_neg hc]
    have : (checkD r != 0) = true := by simp [hc]
    rw [this]
    rfl
end Go.Nilo
