/-
  What the plain functions compute, in plain arithmetic, part 14. Conditions: what each theorem names.
-/
import Derived.Test.YtepopogbmjfpeaaSnL13
set_option linter.unusedSimpArgs false
set_option linter.unusedVariables false
namespace Go.Nilo
def toM (m : shift_Mark) : ref05_Mark := ⟨m.Stage, m.Flow⟩
def toG (g : shift_Gauging) : ref05_Gauging := ⟨g.Day, g.Stage, g.Flow⟩
def toR (r : shift_Record) : ref05_Record := ⟨r.Rating.map toM, r.Gaugings.map toG⟩
theorem take_map_succ {α β : Type} {f : α → β} {l : List α} {i : Nat} {d : α} (h : i < l.length) : (l.take (i + 1)).map f = (l.take i).map f ++ [f (l.getD i d)] := by
  rw [List.take_succ_eq_append_getElem h, List.map_append, get_getD (d := d) h]
  rfl
theorem getI_map {α β : Type} {f : α → β} {l : List α} {i : Nat} (d : α) (h : i < l.length) : getI (l.map f) (i : Int) = some (f (l.getD i d)) := by
  rw [getI_nat (by simpa using h), List.getElem_map, get_getD (d := d) h]
theorem marks_conv {N : Nat} (hN : 700 ≤ N) {l : List shift_Mark} (hl : l.length ≤ 50) : law05_marks N l = some (l.map toM) := by
  unfold law05_marks
  have := runS (ρ := List ref05_Mark) (fun i : Nat => (((l.take i).map toM, (i : Int)) : List ref05_Mark × Int)) l.length (fun s5 => law05_marks_b5 N l s5.1 s5.2) (fun i hi => by
    show law05_marks_b5 N l ((l.take i).map toM) (i : Int) = _
    unfold law05_marks_b5
    rw [lt_dec hi, cond_true, getI_d mk0 hi, Option.bind_some, room_ok (by simp; omega), Option.bind_some, W_succ (by omega), take_map_succ (d := mk0) hi]
    rfl) (by
    show law05_marks_b5 N l _ (l.length : Int) = _
    unfold law05_marks_b5
    rw [ge_dec, cond_false]) (N := N) (by omega)
  rw [show (([] : List ref05_Mark), (0 : Int)) = ((l.take 0).map toM, ((0 : Nat) : Int)) from rfl, this, Option.bind_some, List.take_length]
  rfl
theorem rec_conv {N : Nat} (hN : 700 ≤ N) {r : shift_Record} (hl : r.Rating.length ≤ 50) (hg : r.Gaugings.length ≤ 50) : law05_Record N r = some (toR r) := by
  unfold law05_Record
  rw [marks_conv hN hl, Option.bind_some]
  have := runS (ρ := ref05_Record) (fun i : Nat => (((i : Int), (r.Gaugings.take i).map toG) : Int × List ref05_Gauging)) r.Gaugings.length (fun s5 => law05_Record_b5 N r s5.1 s5.2) (fun i hi => by
    show law05_Record_b5 N r (i : Int) ((r.Gaugings.take i).map toG) = _
    unfold law05_Record_b5
    rw [lt_dec hi, cond_true, getI_d g0 hi, Option.bind_some, room_ok (by simp; omega), Option.bind_some, W_succ (by omega), take_map_succ (d := g0) hi]
    rfl) (by
    show law05_Record_b5 N r (r.Gaugings.length : Int) _ = _
    unfold law05_Record_b5
    rw [ge_dec, cond_false]) (N := N) (by omega)
  rw [show ((0 : Int), ([] : List ref05_Gauging)) = (((0 : Nat) : Int), (r.Gaugings.take 0).map toG) from rfl, this, Option.bind_some, List.take_length]
  rfl
theorem out_not (n a b : Int) : ref05_outside n a b = !shift_in n a b := by
  unfold ref05_outside shift_in
  by_cases h1 : n < a
  · rw [dT h1, dF (show ¬ a ≤ n by omega)]
    rfl
  · rw [dF h1, dT (show a ≤ n by omega)]
    by_cases h2 : b < n
    · rw [dT h2, dF (show ¬ n ≤ b by omega)]
      rfl
    · rw [dF h2, dT (show n ≤ b by omega)]
      rfl
theorem gcheck {g : shift_Gauging} : (((((!shift_in g.Day 0 40000) || (!shift_in g.Stage (-2000) 2000)) || (decide (g.Flow.Lo < 0))) || (decide (1000000000 < g.Flow.Hi))) || (decide (g.Flow.Hi < g.Flow.Lo))) = !shift_Check_1 g := by
  rw [in_dec, in_dec]
  cases h : shift_Check_1 g with
  | true =>
    obtain ⟨a, b, c, d, e⟩ := gok_iff.1 h
    rw [dT a, dT b, dF (by omega), dF (by omega), dF (by omega)]
    rfl
  | false =>
    rw [Bool.not_false]
    refine Bool.eq_false_imp_eq_true.1 fun hb => ?_
    simp only [Bool.or_eq_false_iff, Bool.not_eq_false', decide_eq_true_eq, decide_eq_false_iff_not] at hb
    have : shift_Check_1 g = true := gok_iff.2 ⟨by omega, by omega, by omega⟩
    rw [h] at this
    cases this
theorem ref_marks {N : Nat} (hN : 700 ≤ N) {l : List shift_Mark} (hl : l.length ≤ 50) : ref05_marks N (l.map toM) = some (ratedF l) := by
  unfold ref05_marks ratedF
  rw [List.length_map]
  by_cases h : 2 ≤ l.length ∧ l.length ≤ 12
  · rw [dF (show ¬ ((l.length : Int) < 2) by omega), dF (show ¬ (12 < (l.length : Int)) by omega), if_pos h]
    have := scanS (ρ := Int) (fun i : Nat => (i : Int)) (fun j => cond (shift_rated_1 (l.getD j mk0)) none (some 60)) l.length (fun s7 => ref05_marks_b7 N (l.map toM) s7) (fun i hi => by
      show ref05_marks_b7 N (l.map toM) (i : Int) = _
      unfold ref05_marks_b7
      rw [List.length_map, lt_dec hi, cond_true, getI_map mk0 hi, Option.bind_some, Option.bind_some, W_succ (by omega)]
      show Option.bind (cond (ref05_outside (l.getD i mk0).Stage (-2000) 2000) (some true) (some (ref05_outside (l.getD i mk0).Flow 0 1000000000))) _ = _
      rw [out_not, out_not]
      unfold shift_rated_1 shift_stage shift_flow
      cases shift_in (l.getD i mk0).Stage (-2000) 2000 <;> cases shift_in (l.getD i mk0).Flow 0 1000000000 <;> rfl) (by
      show ref05_marks_b7 N (l.map toM) (l.length : Int) = _
      unfold ref05_marks_b7
      rw [List.length_map, ge_dec, cond_false]) l.length 0 N (by omega) (by omega)
    have h0 : loopO (fun s7 => ref05_marks_b7 N (l.map toM) s7) N 0 = _ := this
    rw [all_first l.length 0 (by omega), List.drop_zero] at h0
    show Option.bind (loopO (fun s7 => ref05_marks_b7 N (l.map toM) s7) N 0) _ = _
    rw [h0, Option.bind_some]
    cases l.all shift_rated_1 <;> rfl
  · rw [if_neg h]
    have : (decide ((l.length : Int) < 2) || decide (12 < (l.length : Int))) = true := by
      rw [Bool.or_eq_true, decide_eq_true_eq, decide_eq_true_eq]
      omega
    rw [this]
    rfl
theorem ref_mixed {N : Nat} (hN : 700 ≤ N) {l : List shift_Mark} (hl : l.length ≤ 50) : ref05_mixed N (l.map toM) = some (!upF l) := by
  unfold ref05_mixed upF
  have := scanS (ρ := Bool) (fun i : Nat => ((i + 1 : Nat) : Int)) (fun j => cond (upAt l j) none (some true)) (l.length - 1) (fun s4 => ref05_mixed_b4 N (l.map toM) s4) (fun i hi => by
    show ref05_mixed_b4 N (l.map toM) ((i + 1 : Nat) : Int) = _
    unfold ref05_mixed_b4
    rw [List.length_map, lt_dec (show i + 1 < l.length by omega), cond_true, getI_map mk0 (by omega), Option.bind_some, W_sm (n := ((i + 1 : Nat) : Int) - 1) (by omega) (by omega), show ((i + 1 : Nat) : Int) - 1 = (i : Int) by omega, getI_map mk0 (by omega), Option.bind_some, Option.bind_some, Option.bind_some, W_succ (by omega)]
    show Option.bind (cond (decide ((l.getD (i + 1) mk0).Stage ≤ (l.getD i mk0).Stage)) (some true) (some (decide ((l.getD (i + 1) mk0).Flow ≤ (l.getD i mk0).Flow)))) _ = _
    unfold upAt
    rcases Int.lt_or_le (l.getD i mk0).Stage (l.getD (i + 1) mk0).Stage with h1 | h1
    · rw [dF (show ¬ (l.getD (i + 1) mk0).Stage ≤ (l.getD i mk0).Stage by omega), dT h1]
      rcases Int.lt_or_le (l.getD i mk0).Flow (l.getD (i + 1) mk0).Flow with h2 | h2
      · rw [dF (show ¬ (l.getD (i + 1) mk0).Flow ≤ (l.getD i mk0).Flow by omega), dT h2]
        rfl
      · rw [dT h2, dF (show ¬ (l.getD i mk0).Flow < (l.getD (i + 1) mk0).Flow by omega)]
        rfl
    · rw [dT h1, dF (show ¬ (l.getD i mk0).Stage < (l.getD (i + 1) mk0).Stage by omega)]
      rfl) (by
    show ref05_mixed_b4 N (l.map toM) ((l.length - 1 + 1 : Nat) : Int) = _
    unfold ref05_mixed_b4
    rw [List.length_map, dF (by omega), cond_false]) (l.length - 1) 0 N (by omega) (by omega)
  have h0 : loopO (fun s4 => ref05_mixed_b4 N (l.map toM) s4) N 1 = _ := this
  rw [firstG_range] at h0
  rw [h0, Option.bind_some]
  cases (List.range' 0 (l.length - 1)).all (upAt l) <;> rfl
theorem ref_check {N : Nat} (hN : 700 ≤ N) {r : shift_Record} (h1 : r.Rating.length ≤ 50) (h2 : r.Gaugings.length ≤ 50) : ref05_Check N (toR r) = some (checkF r) := by
  unfold ref05_Check checkF toR
  simp only [List.length_map]
  have hr3 : ratedF r.Rating = 3 ↔ ¬(2 ≤ r.Rating.length ∧ r.Rating.length ≤ 12) := by
    unfold ratedF
    split
    · split <;> simp_all
    · simp_all
  by_cases hc : ratedF r.Rating = 3 ∨ ¬(1 ≤ r.Gaugings.length ∧ r.Gaugings.length ≤ 30)
  · rw [if_pos hc]
    have : ((((decide (((r.Rating.length : Nat) : Int) < 2)) || (decide (12 < ((r.Rating.length : Nat) : Int)))) || (decide (((r.Gaugings.length : Nat) : Int) < 1))) || (decide (30 < ((r.Gaugings.length : Nat) : Int)))) = true := by
      rw [Bool.or_eq_true, Bool.or_eq_true, Bool.or_eq_true, decide_eq_true_eq, decide_eq_true_eq, decide_eq_true_eq, decide_eq_true_eq]
      rw [hr3] at hc
      omega
    rw [this]
    rfl
  · rw [if_neg hc]
    have hg : 1 ≤ r.Gaugings.length ∧ r.Gaugings.length ≤ 30 := by
      rcases Classical.em (1 ≤ r.Gaugings.length ∧ r.Gaugings.length ≤ 30) with c | c
      · exact c
      · exact absurd (.inr c) hc
    have hrr : 2 ≤ r.Rating.length ∧ r.Rating.length ≤ 12 := by
      rcases Classical.em (2 ≤ r.Rating.length ∧ r.Rating.length ≤ 12) with c | c
      · exact c
      · exact absurd (.inl (hr3.2 c)) hc
    rw [dF (show ¬ (((r.Rating.length : Nat) : Int) < 2) by omega), dF (show ¬ (12 < ((r.Rating.length : Nat) : Int)) by omega), dF (show ¬ (((r.Gaugings.length : Nat) : Int) < 1) by omega), dF (show ¬ (30 < ((r.Gaugings.length : Nat) : Int)) by omega)]
    show Option.bind (ref05_marks N (r.Rating.map toM)) _ = _
    rw [ref_marks hN h1, Option.bind_some]
    by_cases h5 : ratedF r.Rating = 0
    · have e5 : (ratedF r.Rating != 0) = false := by simp [h5]
      rw [e5, cond_false, if_neg (by simp [h5])]
      have hb11 := scanS (ρ := Int) (fun i : Nat => (i : Int)) (fun j => cond (shift_Check_1 (r.Gaugings.getD j g0)) none (some 60)) r.Gaugings.length (fun s11 => ref05_Check_b11 N ⟨r.Rating.map toM, r.Gaugings.map toG⟩ s11) (fun i hi => by
        show ref05_Check_b11 N ⟨r.Rating.map toM, r.Gaugings.map toG⟩ (i : Int) = _
        unfold ref05_Check_b11
        rw [List.length_map, lt_dec hi, cond_true, getI_map g0 hi, Option.bind_some, W_succ (by omega), out_not, out_not]
        show cond (((((!shift_in (r.Gaugings.getD i g0).Day 0 40000) || (!shift_in (r.Gaugings.getD i g0).Stage (-2000) 2000)) || (decide ((r.Gaugings.getD i g0).Flow.Lo < 0))) || (decide (1000000000 < (r.Gaugings.getD i g0).Flow.Hi))) || (decide ((r.Gaugings.getD i g0).Flow.Hi < (r.Gaugings.getD i g0).Flow.Lo))) _ _ = _
        rw [gcheck]
        cases shift_Check_1 (r.Gaugings.getD i g0) <;> rfl) (by
        show ref05_Check_b11 N ⟨r.Rating.map toM, r.Gaugings.map toG⟩ (r.Gaugings.length : Int) = _
        unfold ref05_Check_b11
        rw [List.length_map, ge_dec, cond_false]) r.Gaugings.length 0 N (by omega) (by omega)
      have h0 : loopO (fun s11 => ref05_Check_b11 N ⟨r.Rating.map toM, r.Gaugings.map toG⟩ s11) N 0 = _ := hb11
      rw [all_first r.Gaugings.length 0 (by omega), List.drop_zero] at h0
      show Option.bind (loopO (fun s11 => ref05_Check_b11 N ⟨r.Rating.map toM, r.Gaugings.map toG⟩ s11) N 0) _ = _
      rw [h0, Option.bind_some]
      cases r.Gaugings.all shift_Check_1 with
      | false => rfl
      | true =>
        rw [if_neg (by simp)]
        show Option.bind (ref05_mixed N (r.Rating.map toM)) _ = _
        rw [ref_mixed hN h1, Option.bind_some]
        cases upF r.Rating with
        | false => rfl
        | true =>
          rw [if_neg (by simp), Bool.not_true, cond_false]
          have hb17 := scanS (ρ := Int) (fun i : Nat => ((i + 1 : Nat) : Int)) (fun j => cond (decide ((r.Gaugings.getD j g0).Day < (r.Gaugings.getD (j + 1) g0).Day)) none (some 9)) (r.Gaugings.length - 1) (fun s17 => ref05_Check_b17 N ⟨r.Rating.map toM, r.Gaugings.map toG⟩ s17) (fun i hi => by
            show ref05_Check_b17 N ⟨r.Rating.map toM, r.Gaugings.map toG⟩ ((i + 1 : Nat) : Int) = _
            unfold ref05_Check_b17
            rw [List.length_map, lt_dec (show i + 1 < r.Gaugings.length by omega), cond_true, getI_map g0 (by omega), Option.bind_some, W_sm (n := ((i + 1 : Nat) : Int) - 1) (by omega) (by omega), show ((i + 1 : Nat) : Int) - 1 = (i : Int) by omega, getI_map g0 (by omega), Option.bind_some, W_succ (by omega)]
            show cond (decide ((r.Gaugings.getD (i + 1) g0).Day ≤ (r.Gaugings.getD i g0).Day)) _ _ = _
            rcases Int.lt_or_le (r.Gaugings.getD i g0).Day (r.Gaugings.getD (i + 1) g0).Day with q | q
            · rw [dT q, dF (show ¬ (r.Gaugings.getD (i + 1) g0).Day ≤ (r.Gaugings.getD i g0).Day by omega)]
              rfl
            · rw [dT q, dF (show ¬ (r.Gaugings.getD i g0).Day < (r.Gaugings.getD (i + 1) g0).Day by omega)]
              rfl) (by
            show ref05_Check_b17 N ⟨r.Rating.map toM, r.Gaugings.map toG⟩ ((r.Gaugings.length - 1 + 1 : Nat) : Int) = _
            unfold ref05_Check_b17
            rw [List.length_map, dF (by omega), cond_false]) (r.Gaugings.length - 1) 0 N (by omega) (by omega)
          have h9 : loopO (fun s17 => ref05_Check_b17 N ⟨r.Rating.map toM, r.Gaugings.map toG⟩ s17) N 1 = _ := hb17
          rw [firstG_range] at h9
          rw [h9, Option.bind_some]
          have hd : (List.range' 0 (r.Gaugings.length - 1)).all (fun j => decide ((r.Gaugings.getD j g0).Day < (r.Gaugings.getD (j + 1) g0).Day)) = daysF r.Gaugings := by
            rw [Bool.eq_iff_iff, range_all, days_iff]
            constructor
            · intro h i hi
              exact of_decide_eq_true (h i (by omega))
            · intro h j hj
              exact dT (h j (by omega))
          rw [hd]
          cases daysF r.Gaugings <;> rfl
    · have e5 : (ratedF r.Rating != 0) = true := by simp [h5]
      rw [e5, cond_true, if_pos (by simp [h5])]
theorem lowest_spec {N : Nat} (hN : 700 ≤ N) {n d : Int} (hd : 0 < d) (hd' : d < 1000000000000) (hn : 0 ≤ n) (hn' : n ≤ 9223372036854775807) : ref05_lowest N n d = some (red n d) := by
  have hr := ratio_spec hN hd hd' hn hn'
  unfold shift_ratio at hr
  unfold ref05_lowest
  have hm : max n (W (0 - n)) = n := by
    rw [W_id (by omega) (by omega)]
    omega
  rw [hm] at hr
  have hc : loopO (fun s4 : Int × Int => ref05_lowest_b4 N s4.1 s4.2) N (n, d) = loopO (fun s4 : Int × Int => shift_ratio_b4 N s4.1 s4.2) N (n, d) := by
    refine loop_congr (fun s => 0 ≤ s.1 ∧ 0 ≤ s.2) (fun s hs => ?_) (fun s s' hs h => ?_) N (n, d) ⟨hn, by omega⟩
    · show ref05_lowest_b4 N s.1 s.2 = shift_ratio_b4 N s.1 s.2
      unfold ref05_lowest_b4 shift_ratio_b4
      by_cases h0 : s.2 = 0
      · rw [h0]
        rfl
      · have e : (s.2 != 0) = true := by simp [h0]
        rw [dT (show 0 < s.2 by omega), e]
    · have h' : shift_ratio_b4 N s.1 s.2 = some (.cont s') := h
      unfold shift_ratio_b4 at h'
      by_cases h0 : s.2 = 0
      · rw [h0] at h'
        cases h'
      · have e : (s.2 != 0) = true := by simp [h0]
        have hz : nz s.2 = some () := by unfold nz; rw [if_neg h0]
        rw [e, cond_true, hz, Option.bind_some] at h'
        have := Step.cont.inj (Option.some.inj h')
        rw [← this]
        refine ⟨hs.2, ?_⟩
        show 0 ≤ s.1.tmod s.2
        rw [tmod_mod hs.1]
        exact Int.emod_nonneg _ h0
  rw [hc]
  exact hr
theorem mean_mark' {l : List shift_Mark} (hl : ROk l) {i : Nat} (hi : i < l.length) : mean l (mS l i) = ⟨mF l i, 1⟩ := by
  have hf : 0 ≤ mF l i ∧ mF l i ≤ 1000000000 := hl.fl i hi
  rw [← red_one hf.1]
  symm
  refine mean_uniq hl (by omega) hf.1 ?_
  by_cases h : i + 1 < l.length
  · refine .inr (.inr ⟨i, h, Int.le_refl _, Int.le_of_lt (hl.su i h), ?_⟩)
    show mF l i * _ = _
    rw [Int.sub_self, Int.mul_zero, Int.add_zero, Int.mul_one]
  · refine .inr (.inl ⟨?_, ?_⟩)
    · rw [show i = l.length - 1 by omega]
      exact Int.le_refl _
    · rw [show i = l.length - 1 by omega]
      simp [mF]
theorem ref_flow {N : Nat} (hN : 700 ≤ N) {l : List shift_Mark} (hl : ROk l) {at_ : Int} (hb : -1000000 ≤ at_ ∧ at_ ≤ 1000000) : ref05_flow N (l.map toM) at_ = some (mean l at_) := by
  have hl2 := hl.l2
  have hl12 := hl.l12
  have key : ∀ m i M, i + m = l.length → m < M → (∀ j, j < i → mS l j < at_) → loopO (fun s4 => ref05_flow_b4 N (l.map toM) at_ s4) M (i : Int) = some (.out (mean l at_)) ∨ (loopO (fun s4 => ref05_flow_b4 N (l.map toM) at_ s4) M (i : Int) = some (.go (l.length : Int)) ∧ mS l (l.length - 1) < at_) := by
    intro m
    induction m with
    | zero =>
      intro i M hi hM hj
      obtain ⟨M, rfl⟩ : ∃ M', M = M' + 1 := ⟨M - 1, by omega⟩
      obtain rfl : i = l.length := by omega
      right
      have : ref05_flow_b4 N (l.map toM) at_ (l.length : Int) = some (.brk (l.length : Int)) := by
        unfold ref05_flow_b4
        rw [List.length_map, ge_dec, cond_false]
      unfold loopO
      simp only [this]
      exact ⟨trivial, hj _ (by omega)⟩
    | succ m ih =>
      intro i M hi hM hj
      obtain ⟨M, rfl⟩ : ∃ M', M = M' + 1 := ⟨M - 1, by omega⟩
      have hil : i < l.length := by omega
      by_cases h1 : mS l i < at_
      · have : ref05_flow_b4 N (l.map toM) at_ (i : Int) = some (.cont ((i + 1 : Nat) : Int)) := by
          unfold ref05_flow_b4 ref05_flow_j8
          rw [List.length_map, lt_dec hil, cond_true, getI_map mk0 hil, Option.bind_some]
          show cond (decide (mS l i < at_)) _ _ = _
          rw [dT h1, cond_true, W_succ (by omega)]
        unfold loopO
        simp only [this]
        refine ih (i + 1) M (by omega) (by omega) fun j hj' => ?_
        rcases Nat.lt_or_eq_of_le (show j ≤ i by omega) with c | c
        · exact hj j c
        · rw [c]
          exact h1
      · left
        have : ref05_flow_b4 N (l.map toM) at_ (i : Int) = some (.ret (mean l at_)) := by
          unfold ref05_flow_b4
          rw [List.length_map, lt_dec hil, cond_true, getI_map mk0 hil, Option.bind_some]
          show cond (decide (mS l i < at_)) _ (Option.bind (cond (((i : Nat) : Int) == 0) (some true) (some (mS l i == at_))) _) = _
          rw [dF h1, cond_false]
          have hf : 0 ≤ mF l i ∧ mF l i ≤ 1000000000 := hl.fl i hil
          by_cases h2 : i = 0 ∨ mS l i = at_
          · have ec : (cond (((i : Nat) : Int) == 0) (some true) (some (mS l i == at_))) = some true := by
              rcases h2 with h | h
              · subst h
                rfl
              · rw [h, beq_self_eq_true]
                cases (((i : Nat) : Int) == 0) <;> rfl
            rw [ec, Option.bind_some, cond_true, Option.bind_some]
            show some (Step.ret (⟨mF l i, 1⟩ : api_Ratio)) = _
            rcases h2 with h | h
            · subst h
              rw [← red_one hf.1, ← mean_uniq hl (at_ := at_) (n := mF l 0) (d := 1) (by omega) hf.1 (.inl ⟨by omega, by rw [Int.mul_one]⟩)]
            · rw [← h, mean_mark' hl hil]
          · have hp : 1 ≤ i := by omega
            have hw := wide_bd hl hp hil
            have h3 := hj (i - 1) (by omega)
            have e0 : (((i : Nat) : Int) == 0) = false := by rw [beq_eq_false_iff_ne]; omega
            have e1 : (mS l i == at_) = false := by rw [beq_eq_false_iff_ne]; omega
            have m1 := mul_bd hw.2.2.1 (show 0 ≤ mS l i - at_ by omega) (show mF l (i - 1) ≤ 1000000000 by omega) (show mS l i - at_ ≤ 4000 by omega)
            have m2 := mul_bd (show 0 ≤ mF l i by omega) (show 0 ≤ at_ - mS l (i - 1) by omega) (show mF l i ≤ 1000000000 by omega) (show at_ - mS l (i - 1) ≤ 4000 by omega)
            rw [e0, cond_false, Option.bind_some, e1, cond_false, W_sm (n := ((i : Nat) : Int) - 1) (by omega) (by omega), show ((i : Nat) : Int) - 1 = ((i - 1 : Nat) : Int) by omega, getI_map mk0 (by omega), Option.bind_some, Option.bind_some]
            show Option.bind (ref05_lowest N (W ((W (mF l (i - 1) * (W (mS l i - at_)))) + (W (mF l i * (W (at_ - mS l (i - 1))))))) (W (mS l i - mS l (i - 1)))) _ = _
            rw [W_sm (n := mS l i - at_) (by omega) (by omega), W_sm (n := at_ - mS l (i - 1)) (by omega) (by omega), W_sm (n := mS l i - mS l (i - 1)) (by omega) (by omega), W_sm (n := mF l (i - 1) * (mS l i - at_)) (by omega) (by omega), W_sm (n := mF l i * (at_ - mS l (i - 1))) (by omega) (by omega), W_sm (by omega) (by omega), lowest_spec hN (by omega) (by omega) (by omega) (by omega), Option.bind_some]
            congr 2
            refine mean_uniq hl (by omega) (by omega) (.inr (.inr ⟨i - 1, by omega, by omega, by rw [Nat.sub_add_cancel hp]; omega, ?_⟩))
            rw [Nat.sub_add_cancel hp]
            generalize mF l (i - 1) = F
            generalize mF l i = G
            generalize mS l (i - 1) = p
            generalize mS l i = q
            grind
        unfold loopO
        simp only [this]
  unfold ref05_flow
  rcases key l.length 0 N (by omega) (by omega) (fun j hj => by omega) with h | ⟨h, h2⟩
  · have h' : loopO (fun s4 => ref05_flow_b4 N (l.map toM) at_ s4) N 0 = some (.out (mean l at_)) := h
    rw [h']
    rfl
  · have h' : loopO (fun s4 => ref05_flow_b4 N (l.map toM) at_ s4) N 0 = some (.go (l.length : Int)) := h
    rw [h', Option.bind_some]
    show Option.bind (getI (l.map toM) (W ((((l.map toM).length : Nat) : Int) - 1))) _ = _
    have hf : 0 ≤ mF l (l.length - 1) ∧ mF l (l.length - 1) ≤ 1000000000 := hl.fl (l.length - 1) (by omega)
    rw [List.length_map, W_sm (n := (l.length : Int) - 1) (by omega) (by omega), show ((l.length : Nat) : Int) - 1 = ((l.length - 1 : Nat) : Int) by omega, getI_map mk0 (by omega), Option.bind_some]
    show some (⟨mF l (l.length - 1), 1⟩ : api_Ratio) = _
    rw [← red_one hf.1, ← mean_uniq hl (at_ := at_) (n := mF l (l.length - 1)) (d := 1) (by omega) hf.1 (.inr (.inl ⟨by omega, by rw [Int.mul_one]⟩))]
/-! ### What passes, by the reference -/
def flt (P : Int → Bool) : Nat → List Int
  | 0 => []
  | k + 1 => if P ((k : Int) - 300) = true then flt P k ++ [(k : Int) - 300] else flt P k
theorem flt_len (P : Int → Bool) : ∀ k, (flt P k).length ≤ k
  | 0 => Nat.le_refl _
  | k + 1 => by
    have := flt_len P k
    unfold flt
    split
    · simp; omega
    · omega
theorem flt_span (P : Int → Bool) : ∀ k : Nat, (flt P k = [] ∧ spanN P k = (1, 0)) ∨ (1 ≤ (flt P k).length ∧ (flt P k).getD 0 0 = (spanN P k).1 ∧ (flt P k).getD ((flt P k).length - 1) 0 = (spanN P k).2 ∧ (spanN P k).1 ≤ (spanN P k).2 ∧ (spanN P k).2 < (k : Int) - 300)
  | 0 => .inl ⟨rfl, rfl⟩
  | k + 1 => by
    have ih := flt_span P k
    unfold flt spanN
    by_cases h : P ((k : Int) - 300) = true
    · rw [if_pos h, if_pos h]
      right
      rcases ih with ⟨a, b⟩ | ⟨a, b, c, d, e⟩
      · rw [a, b, if_pos (by decide)]
        refine ⟨by simp, rfl, rfl, Int.le_refl _, ?_⟩
        show (k : Int) - 300 < ((k + 1 : Nat) : Int) - 300
        push_cast
        omega
      · rw [if_neg (by omega)]
        refine ⟨by simp, ?_, ?_, ?_, ?_⟩
        · rw [getD_lt (by omega)]
          exact b
        · rw [List.length_append, List.length_singleton, Nat.add_sub_cancel, getD_eq]
        · show (spanN P k).1 ≤ (k : Int) - 300
          omega
        · show (k : Int) - 300 < ((k + 1 : Nat) : Int) - 300
          push_cast
          omega
    · rw [if_neg h, if_neg h]
      rcases ih with ⟨a, b⟩ | ⟨a, b, c, d, e⟩
      · exact .inl ⟨a, b⟩
      · exact .inr ⟨a, b, c, d, by push_cast; omega⟩
theorem ref_pass {N : Nat} (hN : 700 ≤ N) {r : shift_Record} (hr : ROk r.Rating) {g : shift_Gauging} (hg : GOkS g) :
    loopO (fun s18 : List Int × Int => ref05_Passes_b18 N (toR r) (toG g) s18.1 s18.2) N ([], -300) = some (.go (flt (passP r.Rating g) 601, 301)) := by
  have := runS (ρ := Step ((List api_Span) × Int) ((List api_Span) × Int)) (fun k : Nat => ((flt (passP r.Rating g) k, (k : Int) - 300) : List Int × Int)) 601 (fun s18 : List Int × Int => ref05_Passes_b18 N (toR r) (toG g) s18.1 s18.2) (fun k hk => by
    show ref05_Passes_b18 N (toR r) (toG g) (flt (passP r.Rating g) k) ((k : Int) - 300) = _
    unfold ref05_Passes_b18
    have h1 := hg.s
    have h2 := hg.f
    have hl := flt_len (passP r.Rating g) k
    rw [dT (by omega), cond_true]
    show Option.bind (ref05_flow N (r.Rating.map toM) (W (g.Stage - ((k : Int) - 300)))) _ = _
    obtain ⟨a, b, -, -, -⟩ := mean_val hr (g.Stage - ((k : Int) - 300))
    have m1 := mul_bd h2.1 (show 0 ≤ (mean r.Rating (g.Stage - ((k : Int) - 300))).D by omega) (show g.Flow.Lo ≤ 1000000000 by omega) b
    have m2 := mul_bd (show 0 ≤ g.Flow.Hi by omega) (show 0 ≤ (mean r.Rating (g.Stage - ((k : Int) - 300))).D by omega) h2.2.2 b
    rw [W_sm (n := g.Stage - ((k : Int) - 300)) (by omega) (by omega), ref_flow hN hr (by omega), Option.bind_some]
    show cond ((decide ((W (g.Flow.Lo * (mean r.Rating (g.Stage - ((k : Int) - 300))).D)) ≤ (mean r.Rating (g.Stage - ((k : Int) - 300))).N)) && (decide ((mean r.Rating (g.Stage - ((k : Int) - 300))).N ≤ (W (g.Flow.Hi * (mean r.Rating (g.Stage - ((k : Int) - 300))).D))))) _ _ = _
    rw [W_sm (by omega) (by omega), W_sm (by omega) (by omega)]
    show cond (passP r.Rating g ((k : Int) - 300)) _ _ = some (Step.cont (if passP r.Rating g ((k : Int) - 300) = true then flt (passP r.Rating g) k ++ [(k : Int) - 300] else flt (passP r.Rating g) k, ((k + 1 : Nat) : Int) - 300))
    unfold ref05_Passes_j24
    rw [room_ok (by simp; omega), Option.bind_some, W_sm (n := (k : Int) - 300 + 1) (by omega) (by omega), show (k : Int) - 300 + 1 = ((k + 1 : Nat) : Int) - 300 by push_cast; omega]
    cases passP r.Rating g ((k : Int) - 300) <;> rfl) (by
    show ref05_Passes_b18 N (toR r) (toG g) _ (((601 : Nat) : Int) - 300) = _
    unfold ref05_Passes_b18
    rw [dF (by omega), cond_false]) (N := N) (by omega)
  exact this
theorem ref_passes {N : Nat} (hN : 700 ≤ N) {r : shift_Record} (h1 : r.Rating.length ≤ 50) (h2 : r.Gaugings.length ≤ 50) :
    ref05_Passes N (toR r) = some (if checkF r = 0 then (if (passes r).all spanOk = true then (passes r, 0) else ([], 6)) else ([], checkF r)) := by
  unfold ref05_Passes
  rw [ref_check hN h1 h2, Option.bind_some]
  by_cases hc : checkF r = 0
  · have hr := check_iff.1 hc
    have e : (checkF r != 0) = false := by simp [hc]
    rw [e, cond_false, if_pos hc]
    have hsc := scanS (ρ := List api_Span × Int) (fun i : Nat => (((passes r).take i, (i : Int)) : List api_Span × Int)) (fun j => cond (spanOk ((passes r).getD j s00)) none (some ([], 6))) r.Gaugings.length (fun s9 => ref05_Passes_b9 N (toR r) s9.1 s9.2) (fun i hi => by
      show ref05_Passes_b9 N (toR r) ((passes r).take i) (i : Int) = _
      have hg : GOkS (r.Gaugings.getD i g0) := by
        rw [← get_getD hi]
        exact hr.g _ (List.getElem_mem _)
      unfold ref05_Passes_b9
      show cond (decide ((i : Int) < (((r.Gaugings.map toG).length : Nat) : Int))) (Option.bind (getI (r.Gaugings.map toG) (i : Int)) _) _ = _
      rw [List.length_map, lt_dec hi, cond_true, getI_map g0 hi, Option.bind_some, ref_pass hN hr.rt hg, Option.bind_some]
      have hsp : (passes r).getD i s00 = pspan r.Rating (r.Gaugings.getD i g0) := by simp [passes, List.getD, hi]
      have htk : (passes r).take (i + 1) = (passes r).take i ++ [pspan r.Rating (r.Gaugings.getD i g0)] := by
        rw [List.take_succ_eq_append_getElem (by simpa [passes] using hi), get_getD (d := s00), hsp]
      rw [hsp, htk]
      have hfl := flt_len (passP r.Rating (r.Gaugings.getD i g0)) 601
      show cond ((((flt (passP r.Rating (r.Gaugings.getD i g0)) 601).length : Nat) : Int) == 0) _ _ = _
      unfold spanOk pspan
      rcases flt_span (passP r.Rating (r.Gaugings.getD i g0)) 601 with ⟨a, b⟩ | ⟨a, b, c, d, _⟩
      · rw [a, b]
        rfl
      · have e0 : ((((flt (passP r.Rating (r.Gaugings.getD i g0)) 601).length : Nat) : Int) == 0) = false := by rw [beq_eq_false_iff_ne]; omega
        rw [e0, cond_false, dT d, cond_true]
        show Option.bind (getI (flt (passP r.Rating (r.Gaugings.getD i g0)) 601) ((0 : Nat) : Int)) _ = _
        rw [getI_d 0 (by omega), Option.bind_some]
        show Option.bind (getI (flt (passP r.Rating (r.Gaugings.getD i g0)) 601) (W ((((flt (passP r.Rating (r.Gaugings.getD i g0)) 601).length : Nat) : Int) - 1))) _ = _
        rw [W_sm (n := (((flt (passP r.Rating (r.Gaugings.getD i g0)) 601).length : Nat) : Int) - 1) (by omega) (by omega), show (((flt (passP r.Rating (r.Gaugings.getD i g0)) 601).length : Nat) : Int) - 1 = (((flt (passP r.Rating (r.Gaugings.getD i g0)) 601).length - 1 : Nat) : Int) by omega, getI_d 0 (by omega), Option.bind_some, b, c, room_ok (by simp; omega), Option.bind_some, W_succ (by omega)]) (by
      show ref05_Passes_b9 N (toR r) _ (r.Gaugings.length : Int) = _
      unfold ref05_Passes_b9
      show cond (decide ((r.Gaugings.length : Int) < (((r.Gaugings.map toG).length : Nat) : Int))) _ _ = _
      rw [List.length_map, ge_dec, cond_false]) r.Gaugings.length 0 N (by omega) (by omega)
    have hpl : (passes r).length = r.Gaugings.length := by simp [passes]
    rw [← hpl, all_first (passes r).length 0 (by omega), List.drop_zero] at hsc
    have hsc' : loopO (fun s9 : List api_Span × Int => ref05_Passes_b9 N (toR r) s9.1 s9.2) N (([] : List api_Span), 0) = _ := hsc
    rw [hsc', Option.bind_some]
    cases (passes r).all spanOk with
    | true =>
      show some ((passes r).take (passes r).length, (0 : Int)) = _
      rw [List.take_length]
      rfl
    | false => rfl
  · have e : (checkF r != 0) = true := by simp [hc]
    rw [e, cond_true, if_neg hc]
end Go.Nilo
