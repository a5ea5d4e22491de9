/-
  What the plain functions compute, in plain arithmetic, part 17. Conditions: what each theorem names.
-/
import Derived.Test.YtepopogbmjfpeaaSnL16
set_option linter.unusedSimpArgs false
set_option linter.unusedVariables false
namespace Go.Nilo
theorem flt_none {P : Int → Bool} : ∀ {n : Nat}, (∀ k : Nat, k < n → P ((k : Int) - 300) = false) → flt P n = []
  | 0, _ => rfl
  | n + 1, h => by
    unfold flt
    rw [h n (by omega), if_neg (by decide)]
    exact flt_none fun k hk => h k (by omega)
theorem flt_more {P : Int → Bool} {n : Nat} : ∀ {m : Nat}, (∀ k : Nat, n ≤ k → k < n + m → P ((k : Int) - 300) = false) → flt P (n + m) = flt P n
  | 0, _ => rfl
  | m + 1, h => by
    rw [← Nat.add_assoc]
    show (if P (((n + m : Nat) : Int) - 300) = true then _ else flt P (n + m)) = _
    rw [h (n + m) (by omega) (by omega), if_neg (by decide)]
    exact flt_more fun k h1 h2 => h k h1 (by omega)
theorem canP_out {l : List api_Span} {most : Int} {i : Nat} {x : Int} (h : x < (l.getD i s00).Lo ∨ (l.getD i s00).Hi < x) : canP l most i x = false := by
  unfold canP
  rw [Bool.and_eq_false_iff]
  left
  rw [decide_eq_false_iff_not]
  omega
theorem rev_drop {l : List api_Span} {i : Nat} (hi : i < l.length) : l.reverse.drop (l.length - 1 - i) = (l.take (i + 1)).reverse := by
  rw [List.drop_reverse, show l.length - (l.length - 1 - i) = i + 1 from by omega]
theorem rev_getD {l : List api_Span} {i : Nat} (hi : i < l.length) : l.reverse.getD (l.length - 1 - i) s00 = l.getD i s00 := by
  rw [← get_getD (by rw [List.length_reverse]; omega), ← get_getD hi, List.getElem_reverse]
  congr 1
  omega
theorem rows_get {l : List api_Span} {i : Nat} (hi : i < l.length) : getI ((List.range l.length).map (rowR l)) (i : Int) = some (rowR l i) := by
  rw [getI_nat (by simpa using hi)]
  simp
theorem can_back {N : Nat} (hN : 700 ≤ N) {l : List api_Span} (hv : VL l) : loopO (fun s6 => ref05_can_b6 N l s6.1 s6.2) N (([] : List api_Span), (l.length : Int) - 1) = some (.go (l.reverse, -1)) := by
  have h32 := hv.l32
  have := runS (ρ := List api_Span × Int) (fun m : Nat => ((l.reverse.take m, (l.length : Int) - 1 - (m : Int)) : List api_Span × Int)) l.length (fun s6 => ref05_can_b6 N l s6.1 s6.2) (fun m hm => by
    show ref05_can_b6 N l (l.reverse.take m) ((l.length : Int) - 1 - (m : Int)) = _
    unfold ref05_can_b6
    have hd : decide (0 ≤ (l.length : Int) - 1 - (m : Int)) = true := by rw [decide_eq_true_eq]; omega
    have e : (l.length : Int) - 1 - (m : Int) = ((l.length - 1 - m : Nat) : Int) := by omega
    have hr : l.reverse.getD m s00 = l.getD (l.length - 1 - m) s00 := by
      have := rev_getD (l := l) (i := l.length - 1 - m) (by omega)
      rwa [show l.length - 1 - (l.length - 1 - m) = m from by omega] at this
    rw [hd, cond_true, e, getI_d s00 (by omega), Option.bind_some, room_ok (by simp; omega), Option.bind_some, W_sm (by omega) (by omega), List.take_succ_eq_append_getElem (by rw [List.length_reverse]; exact hm), get_getD (d := s00) (by rw [List.length_reverse]; exact hm), hr,
      show (l.length : Int) - 1 - ((m + 1 : Nat) : Int) = ((l.length - 1 - m : Nat) : Int) - 1 from by omega]) (by
    show ref05_can_b6 N l _ ((l.length : Int) - 1 - (l.length : Int)) = _
    unfold ref05_can_b6
    have hd : decide (0 ≤ (l.length : Int) - 1 - (l.length : Int)) = false := by rw [decide_eq_false_iff_not]; omega
    rw [hd, cond_false]) (N := N) (by omega)
  have h0 : ((([] : List api_Span), (l.length : Int) - 1) : List api_Span × Int) = (l.reverse.take 0, (l.length : Int) - 1 - ((0 : Nat) : Int)) := by simp
  rw [h0, this, show l.reverse.take l.length = l.reverse from List.take_of_length_le (by simp)]
  congr 3
  omega
theorem can_met {N : Nat} (hN : 700 ≤ N) {l : List api_Span} (hv : VL l) {most : Int} {i : Nat} (hi : i < l.length) :
    ∃ k, loopO (fun s19 => ref05_can_b19 N l most ((List.range l.length).map (rowR l)) ((List.range l.reverse.length).map (rowR l.reverse)) (i : Int) s19.1 s19.2) N (([] : List Int), 0) = some (.go (flt (canP l most i) 601, k)) := by
  obtain ⟨o1, o2, o3⟩ := hv.at_ hi
  have hw : wd (l.getD i s00) ≤ 601 ∧ ((wd (l.getD i s00) : Nat) : Int) = (l.getD i s00).Hi - (l.getD i s00).Lo + 1 := by unfold wd; omega
  obtain ⟨w1, w2⟩ := hw
  have h32 := hv.l32
  obtain ⟨a, ha⟩ : ∃ a : Nat, (a : Int) = (l.getD i s00).Lo + 300 := ⟨((l.getD i s00).Lo + 300).toNat, by omega⟩
  have hri : l.length - 1 - i < l.reverse.length := by rw [List.length_reverse]; omega
  have := runS (ρ := Step ((List api_Span) × Int) ((List api_Span) × Int)) (fun k : Nat => ((flt (canP l most i) (a + k), (k : Int)) : List Int × Int)) (wd (l.getD i s00)) (fun s19 => ref05_can_b19 N l most ((List.range l.length).map (rowR l)) ((List.range l.reverse.length).map (rowR l.reverse)) (i : Int) s19.1 s19.2) (fun k hk => by
    show ref05_can_b19 N l most _ _ (i : Int) (flt (canP l most i) (a + k)) (k : Int) = _
    unfold ref05_can_b19
    have hd : decide ((k : Int) ≤ (l.getD i s00).Hi - (l.getD i s00).Lo) = true := by rw [decide_eq_true_eq]; omega
    have e1 : W (W (((l.length : Nat) : Int) - 1) - (i : Int)) = ((l.length - 1 - i : Nat) : Int) := by rw [W_sm (n := ((l.length : Nat) : Int) - 1) (by omega) (by omega), W_sm (by omega) (by omega)]; omega
    have hx : -300 ≤ (l.getD i s00).Lo + (k : Int) ∧ (l.getD i s00).Lo + (k : Int) ≤ 300 := by omega
    have b1 := rest_bd hv hi hx
    have b2 := rest_bd hv.rev hri hx
    have hP : canP l most i (((a + k : Nat) : Int) - 300) = decide (W (restF (l.drop i) ((l.getD i s00).Lo + (k : Int)) + restF (l.reverse.drop (l.length - 1 - i)) ((l.getD i s00).Lo + (k : Int))) ≤ most) := by
      have ex : ((a + k : Nat) : Int) - 300 = (l.getD i s00).Lo + (k : Int) := by omega
      rw [W_sm (by omega) (by omega), rev_drop hi, ex]
      unfold canP aheadG restG
      have : decide ((l.getD i s00).Lo ≤ (l.getD i s00).Lo + (k : Int) ∧ (l.getD i s00).Lo + (k : Int) ≤ (l.getD i s00).Hi) = true := by rw [decide_eq_true_eq]; omega
      rw [this, Bool.true_and, Int.add_comm]
    have hfl := flt_len (canP l most i) (a + k)
    rw [getI_d s00 hi, Option.bind_some, Option.bind_some, W_sm (n := (l.getD i s00).Hi - (l.getD i s00).Lo) (by omega) (by omega), hd, cond_true, rows_get hi, Option.bind_some]
    unfold rowR
    rw [rowN_get hk, Option.bind_some, e1]
    have hg := rows_get (l := l.reverse) hri
    unfold rowR at hg
    rw [hg, Option.bind_some, rev_getD hi, rowN_get hk, Option.bind_some, rev_getD hi, ← hP]
    show _ = some (Step.cont ((if canP l most i (((a + k : Nat) : Int) - 300) = true then flt (canP l most i) (a + k) ++ [((a + k : Nat) : Int) - 300] else flt (canP l most i) (a + k)), ((k + 1 : Nat) : Int)))
    unfold ref05_can_j25
    cases canP l most i (((a + k : Nat) : Int) - 300) with
    | true =>
      rw [cond_true, Option.bind_some, W_sm (n := (l.getD i s00).Lo + (k : Int)) (by omega) (by omega), room_ok (by simp; omega), Option.bind_some, W_succ (by omega), if_pos rfl, show ((a + k : Nat) : Int) - 300 = (l.getD i s00).Lo + (k : Int) from by omega]
    | false =>
      rw [cond_false, W_succ (by omega), if_neg (by decide)]) (by
    show ref05_can_b19 N l most _ _ (i : Int) _ ((wd (l.getD i s00) : Nat) : Int) = _
    unfold ref05_can_b19
    have hd : decide (((wd (l.getD i s00) : Nat) : Int) ≤ (l.getD i s00).Hi - (l.getD i s00).Lo) = false := by rw [decide_eq_false_iff_not]; omega
    rw [getI_d s00 hi, Option.bind_some, Option.bind_some, W_sm (by omega) (by omega), hd, cond_false]) (N := N) (by omega)
  refine ⟨((wd (l.getD i s00) : Nat) : Int), ?_⟩
  have h0 : flt (canP l most i) (a + 0) = [] := flt_none fun k hk => canP_out (by omega)
  have h1 : flt (canP l most i) 601 = flt (canP l most i) (a + wd (l.getD i s00)) := by
    rw [show (601 : Nat) = a + wd (l.getD i s00) + (601 - (a + wd (l.getD i s00))) from by omega]
    exact flt_more fun k h1 h2 => canP_out (by omega)
  rw [h1]
  show loopO _ N ((([] : List Int), ((0 : Nat) : Int)) : List Int × Int) = _
  rw [← h0]
  exact this
end Go.Nilo
