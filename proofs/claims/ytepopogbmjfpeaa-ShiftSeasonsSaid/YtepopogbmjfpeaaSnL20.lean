/-
  What the plain functions compute, in plain arithmetic, part 20. Conditions: what each theorem names.
-/
import Derived.Test.YtepopogbmjfpeaaSnL19
set_option linter.unusedSimpArgs false
set_option linter.unusedVariables false
namespace Go.Nilo
def stB (r : shift_Record) (day : Int) (i : Nat) : List api_Span × Int × Int :=
  if i ≤ adF r day then ((passes r).take i, -1, (i : Int)) else ((spansB r day).take (if metF r day = true then i else i + 1), ((adF r day : Nat) : Int), (i : Int))
theorem spansB_take {r : shift_Record} (hr : RecOk r) {day : Int} {i : Nat} (hi : i < r.Gaugings.length) (ha : adF r day ≤ i) :
    (spansB r day).take ((if metF r day = true then i else i + 1) + 1) = (spansB r day).take (if metF r day = true then i else i + 1) ++ [(passes r).getD i s00] := by
  have hpl : (passes r).length = r.Gaugings.length := by simp [passes]
  have hlen := spansB_len hr day
  have hlt : (if metF r day = true then i else i + 1) < (spansB r day).length := by rw [hlen]; split <;> omega
  rw [List.take_succ_eq_append_getElem hlt]
  congr 2
  have e : (spansB r day)[if metF r day = true then i else i + 1]? = some ((passes r).getD i s00) := by
    unfold spansB
    by_cases hm : metF r day = true
    · rw [if_pos hm, if_pos hm, List.getElem?_eq_getElem (by omega), get_getD (d := s00) (by omega)]
    · rw [if_neg hm, if_neg hm]
      have hl1 : ((passes r).take (adF r day) ++ [(⟨-300, 300⟩ : api_Span)]).length = adF r day + 1 := by simp; omega
      rw [List.getElem?_append_right (by rw [hl1]; omega), hl1, List.getElem?_drop, show adF r day + (i + 1 - (adF r day + 1)) = i from by omega, List.getElem?_eq_getElem (by omega), get_getD (d := s00) (by omega)]
  rw [List.getElem?_eq_getElem hlt] at e
  exact Option.some.inj e
theorem spansB_ad {r : shift_Record} (hr : RecOk r) {day : Int} (hm : ¬metF r day = true) : (spansB r day).take (adF r day + 1) = (passes r).take (adF r day) ++ [(⟨-300, 300⟩ : api_Span)] := by
  have h := (ad_lt hr day).1
  have hpl : (passes r).length = r.Gaugings.length := by simp [passes]
  unfold spansB
  rw [if_neg hm, List.take_append_of_le_length (by simp; omega), List.take_of_length_le (by simp; omega)]
theorem betw_loop {N : Nat} (hN : 700 ≤ N) {r : shift_Record} (hr : RecOk r) {day : Int} :
    loopO (fun s13 : List api_Span × Int × Int => ref05_Between_b13 N (toR r) day (passes r, 0) s13.1 s13.2.1 s13.2.2) N (([] : List api_Span), (-1), 0) = some (.go (stB r day r.Gaugings.length)) := by
  have hpl : (passes r).length = r.Gaugings.length := by simp [passes]
  have h30 := hr.g30
  obtain ⟨a1, a2, a3⟩ := ad_spec hr day r.Gaugings.length (Nat.le_refl _)
  have hsl := spansB_len hr day
  have := runS (ρ := api_Span × Int) (stB r day) r.Gaugings.length (fun s13 => ref05_Between_b13 N (toR r) day (passes r, 0) s13.1 s13.2.1 s13.2.2) (fun i hi => by
    have hd : decide ((i : Int) < (((passes r, (0 : Int)).1.length : Nat) : Int)) = true := by rw [decide_eq_true_eq]; show (i : Int) < ((passes r).length : Int); omega
    have hgg : getI (toR r).Gaugings (i : Int) = some (toG (r.Gaugings.getD i g0)) := getI_map g0 hi
    have hj : ∀ (ds : List api_Span) (pl : Int), ds.length ≤ 40 → ref05_Between_j29 N (passes r, 0) (i : Int) ds pl = some (.cont (ds ++ [(passes r).getD i s00], pl, ((i + 1 : Nat) : Int))) := fun ds pl hl => by
      unfold ref05_Between_j29
      show Option.bind (getI (passes r) (i : Int)) _ = _
      rw [getI_d s00 (by omega), Option.bind_some, room_ok (by simp; omega), Option.bind_some, W_succ (by omega)]
    show ref05_Between_b13 N (toR r) day (passes r, 0) (stB r day i).1 (stB r day i).2.1 (stB r day i).2.2 = _
    have htk : (passes r).take (i + 1) = (passes r).take i ++ [(passes r).getD i s00] := by
      rw [List.take_succ_eq_append_getElem (by omega), get_getD (d := s00)]
    rcases Nat.lt_trichotomy i (adF r day) with c | c | c
    · have hlt := a2 i c
      unfold stB
      rw [if_pos (by omega), if_pos (by omega)]
      unfold ref05_Between_b13
      rw [hd, cond_true]
      have hn : decide ((-1 : Int) < 0) = true := by decide
      rw [hn, cond_true, hgg, Option.bind_some]
      have hdy : decide (day ≤ (toG (r.Gaugings.getD i g0)).Day) = false := dF (by show ¬ day ≤ (r.Gaugings.getD i g0).Day; omega)
      rw [hdy, Option.bind_some, cond_false, hj _ _ (by simp; omega), htk]
    · have hge := a3 i (by rw [c]; exact Nat.le_refl _) hi
      unfold stB
      rw [if_pos (by omega), if_neg (by omega)]
      unfold ref05_Between_b13
      rw [hd, cond_true]
      have hn : decide ((-1 : Int) < 0) = true := by decide
      rw [hn, cond_true, hgg, Option.bind_some]
      have hdy : decide (day ≤ (toG (r.Gaugings.getD i g0)).Day) = true := dT hge
      rw [hdy, Option.bind_some, cond_true, Option.bind_some]
      have hli : ((passes r).take i).length = i := by simp; omega
      rw [hli]
      have hst := spansB_take hr hi (day := day) (by omega)
      by_cases hm : metF r day = true
      · have hday := (ad_lt hr day).2 hm
        have hdy2 : decide (day < (toG (r.Gaugings.getD i g0)).Day) = false := dF (by show ¬ day < (r.Gaugings.getD i g0).Day; rw [c]; omega)
        rw [hdy2, cond_false, hj _ _ (by simp; omega), if_pos hm, c]
        rw [c] at htk
        rw [← htk]
        unfold spansB
        rw [if_pos hm]
      · have hne : (r.Gaugings.getD i g0).Day ≠ day := fun e => hm ((mp_spec _ _ _).2 ⟨i, hi, e⟩)
        have hdy2 : decide (day < (toG (r.Gaugings.getD i g0)).Day) = true := dT (by show day < (r.Gaugings.getD i g0).Day; omega)
        rw [if_neg hm] at hst
        rw [hdy2, cond_true, room_ok (by simp; omega), Option.bind_some, hj _ _ (by simp; omega), if_neg hm, hst, c, spansB_ad hr hm]
    · unfold stB
      rw [if_neg (show ¬ i ≤ adF r day by omega), if_neg (show ¬ i + 1 ≤ adF r day by omega)]
      unfold ref05_Between_b13
      rw [hd, cond_true]
      have hn : decide (((adF r day : Nat) : Int) < 0) = false := dF (by omega)
      have hst := spansB_take hr hi (day := day) (by omega)
      have hlen : ((spansB r day).take (if metF r day = true then i else i + 1)).length ≤ 40 := by
        exact Nat.le_trans (List.length_take_le' _ _) (by rw [hsl]; split <;> omega)
      show Option.bind (cond (decide (((adF r day : Nat) : Int) < 0)) _ _) _ = _
      rw [hn, cond_false, Option.bind_some, cond_false, hj _ _ hlen, ← hst]
      by_cases hm : metF r day = true
      · rw [if_pos hm, if_pos hm]
      · rw [if_neg hm, if_neg hm]) (by
    show ref05_Between_b13 N (toR r) day (passes r, 0) (stB r day r.Gaugings.length).1 (stB r day r.Gaugings.length).2.1 (stB r day r.Gaugings.length).2.2 = _
    unfold ref05_Between_b13
    have e : (stB r day r.Gaugings.length).2.2 = (r.Gaugings.length : Int) := by unfold stB; split <;> rfl
    have hd : decide ((stB r day r.Gaugings.length).2.2 < (((passes r, (0 : Int)).1.length : Nat) : Int)) = false := by rw [e, decide_eq_false_iff_not]; show ¬ (r.Gaugings.length : Int) < ((passes r).length : Int); omega
    rw [hd, cond_false]) (N := N) (by omega)
  rw [show ((([] : List api_Span), (-1), 0) : List api_Span × Int × Int) = stB r day 0 from by unfold stB; rw [if_pos (Nat.zero_le _)]; rfl]
  exact this
end Go.Nilo
