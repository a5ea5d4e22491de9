/-
  What the plain functions compute, in plain arithmetic, part 15. Conditions: what each theorem names.
-/
import Derived.Test.YtepopogbmjfpeaaSnL14
set_option linter.unusedSimpArgs false
set_option linter.unusedVariables false
namespace Go.Nilo
def wd (s : api_Span) : Nat := (s.Hi - s.Lo + 1).toNat
def rowN (l : List api_Span) (i n : Nat) : List Int := (List.range n).map fun k : Nat => restF (l.drop i) ((l.getD i s00).Lo + (k : Int))
def rowR (l : List api_Span) (i : Nat) : List Int := rowN l i (wd (l.getD i s00))
def tabN (l : List api_Span) (m : Nat) : List (List Int) := (List.range l.length).map fun i => if l.length - m ≤ i then rowR l i else []
theorem rowN_succ (l : List api_Span) (i n : Nat) : rowN l i (n + 1) = rowN l i n ++ [restF (l.drop i) ((l.getD i s00).Lo + (n : Int))] := by
  unfold rowN
  rw [List.range_succ, List.map_append]
  rfl
theorem rowN_len (l : List api_Span) (i n : Nat) : (rowN l i n).length = n := by simp [rowN]
theorem rowN_get {l : List api_Span} {i n k : Nat} (h : k < n) : getI (rowN l i n) (k : Int) = some (restF (l.drop i) ((l.getD i s00).Lo + (k : Int))) := by
  rw [getI_nat (by rw [rowN_len]; exact h)]
  simp [rowN]
theorem tabN_len (l : List api_Span) (m : Nat) : (tabN l m).length = l.length := by simp [tabN]
theorem tabN_get {l : List api_Span} {m i : Nat} (hi : i < l.length) : getI (tabN l m) (i : Int) = some (if l.length - m ≤ i then rowR l i else []) := by
  rw [getI_nat (by rw [tabN_len]; exact hi)]
  simp [tabN]
theorem apart_ap {x y : Int} (h : -1000 ≤ x ∧ x ≤ 1000) (h' : -1000 ≤ y ∧ y ≤ 1000) : ref05_apart x y = ap x y := by
  unfold ref05_apart ap
  by_cases hl : x < y
  · simp only [hl, decide_true, cond_true]
    rw [W_sm (by omega) (by omega)]
    omega
  · simp only [hl, decide_false, cond_false]
    rw [W_sm (by omega) (by omega)]
    omega
/-- The least of the first m, no more than the start. -/
def minB (f : Int → Int) (lo : Int) : Nat → Int
  | 0 => 1000000000
  | m + 1 => min (minB f lo m) (f (lo + (m : Int)))
theorem minB_eq (f : Int → Int) (lo : Int) (h0 : f lo ≤ 1000000000) : ∀ n : Nat, minB f lo (n + 1) = minN f lo n
  | 0 => by simp only [minB, minN]; rw [show lo + ((0 : Nat) : Int) = lo from by simp]; exact Int.min_eq_right h0
  | n + 1 => by rw [minB, minB_eq f lo h0 n, minN]
theorem drop2 {l : List api_Span} {i : Nat} (h : i + 1 < l.length) : ∃ t, l.drop i = l.getD i s00 :: l.getD (i + 1) s00 :: t ∧ l.drop (i + 1) = l.getD (i + 1) s00 :: t := by
  refine ⟨l.drop (i + 2), ?_, ?_⟩
  · rw [List.drop_eq_getElem_cons (by omega), List.drop_eq_getElem_cons h, get_getD (d := s00) (by omega), get_getD (d := s00) h]
  · rw [List.drop_eq_getElem_cons h, get_getD (d := s00) h]
theorem rest_bd {l : List api_Span} (hv : VL l) {i : Nat} (hi : i < l.length) {x : Int} (hx : -300 ≤ x ∧ x ≤ 300) : 0 ≤ restF (l.drop i) x ∧ restF (l.drop i) x ≤ 600 * 32 := by
  have := hv.l32
  rcases restF_bd (l.drop i) x (fun s hs => hv.ok s (List.mem_of_mem_drop hs)) hx with h | h
  · rw [List.length_drop] at h
    omega
  · have := congrArg List.length h
    rw [List.length_drop] at this
    simp at this
    omega
/-- The innermost loop: the least over the next span. -/
theorem rest_in {N : Nat} (hN : 700 ≤ N) {l : List api_Span} (hv : VL l) {i : Nat} (hi : i + 1 < l.length) {T : List (List Int)} (hT : getI T ((i + 1 : Nat) : Int) = some (rowR l (i + 1))) {x : Int} (hx : -300 ≤ x ∧ x ≤ 300) :
    loopO (fun s21 => ref05_rest_b21 N l (i : Int) T x s21.1 s21.2) N (1000000000, (l.getD (i + 1) s00).Lo) = some (.go (restF (l.drop i) x, (l.getD (i + 1) s00).Lo + ((wd (l.getD (i + 1) s00) : Nat) : Int))) := by
  have ho := hv.at_ hi
  obtain ⟨o1, o2, o3⟩ := ho
  have hw : wd (l.getD (i + 1) s00) ≤ 601 ∧ ((wd (l.getD (i + 1) s00) : Nat) : Int) = (l.getD (i + 1) s00).Hi - (l.getD (i + 1) s00).Lo + 1 ∧ 1 ≤ wd (l.getD (i + 1) s00) := by
    unfold wd; omega
  obtain ⟨w1, w2, w3⟩ := hw
  have h32 := hv.l32
  have hW : W ((i : Int) + 1) = ((i + 1 : Nat) : Int) := W_succ (by omega)
  have := runS (ρ := Step ((List (List Int)) × Int) (Step ((List (List Int)) × Int) ((List (List Int))))) (fun m : Nat => ((minB (fun y => ap x y + restF (l.drop (i + 1)) y) (l.getD (i + 1) s00).Lo m, (l.getD (i + 1) s00).Lo + (m : Int)) : Int × Int)) (wd (l.getD (i + 1) s00)) (fun s21 => ref05_rest_b21 N l (i : Int) T x s21.1 s21.2) (fun m hm => by
    show ref05_rest_b21 N l (i : Int) T x (minB _ _ m) ((l.getD (i + 1) s00).Lo + (m : Int)) = _
    unfold ref05_rest_b21
    have hd : decide ((l.getD (i + 1) s00).Lo + (m : Int) ≤ (l.getD (i + 1) s00).Hi) = true := by rw [decide_eq_true_eq]; omega
    have hk : W ((l.getD (i + 1) s00).Lo + (m : Int) - (l.getD (i + 1) s00).Lo) = (m : Int) := by rw [W_sm (by omega) (by omega)]; omega
    rw [hW, getI_d s00 hi, Option.bind_some, hd, cond_true, hT, Option.bind_some, Option.bind_some, hk]
    unfold rowR
    rw [rowN_get hm, Option.bind_some, apart_ap (by omega) (by omega)]
    have hb := rest_bd hv hi (x := (l.getD (i + 1) s00).Lo + (m : Int)) (by omega)
    have ha : 0 ≤ ap x ((l.getD (i + 1) s00).Lo + (m : Int)) ∧ ap x ((l.getD (i + 1) s00).Lo + (m : Int)) ≤ 1000 := by unfold ap; omega
    rw [W_sm (by omega) (by omega), W_sm (by omega) (by omega)]
    show some (Step.cont _) = some (Step.cont _)
    rw [show (l.getD (i + 1) s00).Lo + ((m + 1 : Nat) : Int) = (l.getD (i + 1) s00).Lo + (m : Int) + 1 from by push_cast; omega]
    rfl) (by
    show ref05_rest_b21 N l (i : Int) T x (minB _ _ _) ((l.getD (i + 1) s00).Lo + ((wd (l.getD (i + 1) s00) : Nat) : Int)) = _
    unfold ref05_rest_b21
    have hd : decide ((l.getD (i + 1) s00).Lo + ((wd (l.getD (i + 1) s00) : Nat) : Int) ≤ (l.getD (i + 1) s00).Hi) = false := by rw [decide_eq_false_iff_not]; omega
    rw [hW, getI_d s00 hi, Option.bind_some, hd, cond_false]) (N := N) (by omega)
  rw [show ((1000000000 : Int), (l.getD (i + 1) s00).Lo) = (minB (fun y => ap x y + restF (l.drop (i + 1)) y) (l.getD (i + 1) s00).Lo 0, (l.getD (i + 1) s00).Lo + ((0 : Nat) : Int)) from by simp [minB], this]
  obtain ⟨t, e1, e2⟩ := drop2 hi
  obtain ⟨n, hn⟩ : ∃ n, wd (l.getD (i + 1) s00) = n + 1 := ⟨wd (l.getD (i + 1) s00) - 1, by omega⟩
  have hb := rest_bd hv hi (x := (l.getD (i + 1) s00).Lo) (by omega)
  rw [e1, e2] at *
  rw [hn, minB_eq _ _ (by unfold ap; omega), restF]
  have : ((l.getD (i + 1) s00).Hi - (l.getD (i + 1) s00).Lo).toNat = n := by omega
  rw [this]
end Go.Nilo
