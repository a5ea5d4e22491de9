/-
  What the plain functions compute, in plain arithmetic, part 16. Conditions: what each theorem names.
-/
import Derived.Test.YtepopogbmjfpeaaSnL15
set_option linter.unusedSimpArgs false
set_option linter.unusedVariables false
namespace Go.Nilo
theorem tab_set {l : List api_Span} {i m : Nat} (h : l.length = i + 1 + m) : (tabN l m).set i (rowR l i) = tabN l (m + 1) := by
  apply List.ext_getElem
  · simp [tabN]
  · intro j h1 h2
    simp only [tabN, List.getElem_set, List.getElem_map, List.getElem_range]
    by_cases hj : i = j
    · subst hj
      rw [if_pos rfl, if_pos (by omega)]
    · rw [if_neg hj]
      by_cases hk : l.length - m ≤ j
      · rw [if_pos hk, if_pos (by omega)]
      · rw [if_neg hk, if_neg (by omega)]
theorem tab_set0 {l : List api_Span} {i m : Nat} (h : l.length = i + 1 + m) : (tabN l m).set i [] = tabN l m := by
  apply List.ext_getElem
  · simp [tabN]
  · intro j h1 h2
    simp only [tabN, List.getElem_set, List.getElem_map, List.getElem_range]
    by_cases hj : i = j
    · subst hj
      rw [if_pos rfl, if_neg (by omega)]
    · rw [if_neg hj]
theorem getI_set_self {α : Type} {T : List α} {i : Nat} {r : α} (h : i < T.length) : getI (T.set i r) (i : Int) = some r := by
  rw [getI_nat (by simpa using h)]
  simp
theorem getI_set_ne {α : Type} {T : List α} {i j : Nat} {r : α} (h : i ≠ j) : getI (T.set i r) (j : Int) = getI T (j : Int) := by
  unfold getI
  simp [h]
theorem rest_last {l : List api_Span} {i : Nat} (h : l.length = i + 1) (x : Int) : restF (l.drop i) x = 0 := by
  rw [List.drop_eq_getElem_cons (by omega), List.drop_eq_nil_of_le (by omega)]
  rfl
theorem rest_j17 {N : Nat} {T : List (List Int)} {i : Nat} (hi : i < T.length) {r : List Int} (hr : r.length ≤ 601) {s b : Int} (hs : -1000 ≤ s ∧ s ≤ 1000) :
    ref05_rest_j17 N (i : Int) (T.set i r) s b = some (.cont (T.set i (r ++ [b]), s + 1)) := by
  unfold ref05_rest_j17
  rw [getI_set_self hi, Option.bind_some, room_ok (by simp; omega), Option.bind_some, Option.bind_some, W_sm (by omega) (by omega)]
  rw [Int.toNat_natCast, List.set_set]
theorem rest_mid {N : Nat} (hN : 700 ≤ N) {l : List api_Span} (hv : VL l) {i m : Nat} (hm : l.length = i + 1 + m) :
    loopO (fun s12 => ref05_rest_b12 N l (i : Int) s12.1 s12.2) N (tabN l m, (l.getD i s00).Lo) = some (.go (tabN l (m + 1), (l.getD i s00).Lo + ((wd (l.getD i s00) : Nat) : Int))) := by
  have hi : i < l.length := by omega
  obtain ⟨o1, o2, o3⟩ := hv.at_ hi
  have hw : wd (l.getD i s00) ≤ 601 ∧ ((wd (l.getD i s00) : Nat) : Int) = (l.getD i s00).Hi - (l.getD i s00).Lo + 1 := by unfold wd; omega
  obtain ⟨w1, w2⟩ := hw
  have h32 := hv.l32
  have hT : i < (tabN l m).length := by rw [tabN_len]; exact hi
  have := runS (ρ := Step ((List (List Int)) × Int) ((List (List Int)))) (fun k : Nat => (((tabN l m).set i (rowN l i k), (l.getD i s00).Lo + (k : Int)) : List (List Int) × Int)) (wd (l.getD i s00)) (fun s12 => ref05_rest_b12 N l (i : Int) s12.1 s12.2) (fun k hk => by
    show ref05_rest_b12 N l (i : Int) ((tabN l m).set i (rowN l i k)) ((l.getD i s00).Lo + (k : Int)) = _
    unfold ref05_rest_b12
    have hd : decide ((l.getD i s00).Lo + (k : Int) ≤ (l.getD i s00).Hi) = true := by rw [decide_eq_true_eq]; omega
    have hj : ∀ b : Int, b = restF (l.drop i) ((l.getD i s00).Lo + (k : Int)) → ref05_rest_j17 N (i : Int) ((tabN l m).set i (rowN l i k)) ((l.getD i s00).Lo + (k : Int)) b = some (.cont ((tabN l m).set i (rowN l i (k + 1)), (l.getD i s00).Lo + ((k + 1 : Nat) : Int))) := fun b hb => by
      rw [rest_j17 hT (by rw [rowN_len]; omega) (by omega), hb, ← rowN_succ, show (l.getD i s00).Lo + ((k + 1 : Nat) : Int) = (l.getD i s00).Lo + (k : Int) + 1 from by push_cast; omega]
    rw [getI_d s00 hi, Option.bind_some, hd, cond_true, W_sm (by omega) (by omega)]
    by_cases hl : i + 1 < l.length
    · have hd2 : decide ((i : Int) < ((l.length : Nat) : Int) - 1) = true := by rw [decide_eq_true_eq]; omega
      rw [hd2, cond_true, W_succ (by omega), getI_d s00 hl, Option.bind_some]
      rw [rest_in hN hv hl (by rw [getI_set_ne (by omega), tabN_get hl, if_pos (by omega)]) (by omega), Option.bind_some]
      show ref05_rest_j17 N (i : Int) _ _ _ = _
      exact hj _ rfl
    · have hd2 : decide ((i : Int) < ((l.length : Nat) : Int) - 1) = false := by rw [decide_eq_false_iff_not]; omega
      rw [hd2, cond_false]
      exact hj _ (rest_last (by omega) _).symm) (by
    show ref05_rest_b12 N l (i : Int) _ ((l.getD i s00).Lo + ((wd (l.getD i s00) : Nat) : Int)) = _
    unfold ref05_rest_b12
    have hd : decide ((l.getD i s00).Lo + ((wd (l.getD i s00) : Nat) : Int) ≤ (l.getD i s00).Hi) = false := by rw [decide_eq_false_iff_not]; omega
    rw [getI_d s00 hi, Option.bind_some, hd, cond_false]) (N := N) (by omega)
  rw [show (tabN l m, (l.getD i s00).Lo) = ((tabN l m).set i (rowN l i 0), (l.getD i s00).Lo + ((0 : Nat) : Int)) from by rw [show rowN l i 0 = [] from rfl, tab_set0 hm]; simp, this]
  rw [← tab_set hm]
  rfl
/-- The whole table. -/
theorem rest_spec {N : Nat} (hN : 700 ≤ N) {l : List api_Span} (hv : VL l) : ref05_rest N l = some ((List.range l.length).map (rowR l)) := by
  have h32 := hv.l32
  have h1 := hv.l1
  unfold ref05_rest
  have := runS (ρ := List (List Int)) (fun m : Nat => ((tabN l m, (l.length : Int) - 1 - (m : Int)) : List (List Int) × Int)) l.length (fun s5 => ref05_rest_b5 N l s5.1 s5.2) (fun m hm => by
    show ref05_rest_b5 N l (tabN l m) ((l.length : Int) - 1 - (m : Int)) = _
    obtain ⟨i, hi⟩ : ∃ i, l.length = i + 1 + m := ⟨l.length - 1 - m, by omega⟩
    have e : (l.length : Int) - 1 - (m : Int) = (i : Int) := by omega
    rw [e]
    unfold ref05_rest_b5
    have hd : decide (0 ≤ (i : Int)) = true := by rw [decide_eq_true_eq]; omega
    rw [hd, cond_true, getI_d s00 (by omega), Option.bind_some, rest_mid hN hv hi, Option.bind_some]
    show some (Step.cont (tabN l (m + 1), W ((i : Int) - 1))) = _
    rw [W_sm (by omega) (by omega), show (l.length : Int) - 1 - ((m + 1 : Nat) : Int) = (i : Int) - 1 from by push_cast; omega]) (by
    show ref05_rest_b5 N l (tabN l l.length) ((l.length : Int) - 1 - (l.length : Int)) = _
    unfold ref05_rest_b5
    have hd : decide (0 ≤ (l.length : Int) - 1 - (l.length : Int)) = false := by rw [decide_eq_false_iff_not]; omega
    rw [hd, cond_false]) (N := N) (by omega)
  have hin : inM ((l.length : Nat) : Int) = some () := by unfold inM; rw [if_pos (by omega)]
  rw [hin, Option.bind_some, W_sm (by omega) (by omega)]
  have h0 : List.replicate ((l.length : Nat) : Int).toNat ([] : List Int) = tabN l 0 := by
    apply List.ext_getElem
    · simp [tabN]
    · intro j h1 h2
      simp only [List.getElem_replicate, tabN, List.getElem_map, List.getElem_range]
      rw [if_neg]
      simp at h1
      omega
  rw [h0, show (tabN l 0, ((l.length : Nat) : Int) - 1) = (tabN l 0, (l.length : Int) - 1 - ((0 : Nat) : Int)) from by simp, this, Option.bind_some]
  show some (tabN l l.length) = _
  congr 1
  apply List.ext_getElem
  · simp [tabN]
  · intro j h1 h2
    simp [tabN]
end Go.Nilo
