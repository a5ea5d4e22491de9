/-
  What the plain functions compute, in plain arithmetic, part 21. Conditions: what each theorem names.
-/
import Derived.Test.YtepopogbmjfpeaaDyL20
set_option linter.unusedSimpArgs false
set_option linter.unusedVariables false
namespace Go.Nilo
/-! ### Fractions rounded -/
theorem flr_le {a b a' b' : Int} (hb : 0 < b) (hb' : 0 < b') (h : a * b' ≤ a' * b) : a / b ≤ a' / b' := by
  have h1 : a / b * b ≤ a := Int.ediv_mul_le a (by omega)
  refine (Int.le_ediv_iff_mul_le hb').2 ?_
  refine Int.le_of_mul_le_mul_right ?_ hb
  have h2 := Int.mul_le_mul_of_nonneg_right h1 (show 0 ≤ b' by omega)
  have e : a / b * b * b' = a / b * b' * b := by rw [Int.mul_assoc, Int.mul_comm b b', ← Int.mul_assoc]
  rw [e] at h2
  omega
theorem ceil_ge {a b : Int} (hb : 0 < b) : a ≤ (a + b - 1) / b * b := by
  have h1 := Int.emod_add_mul_ediv (a + b - 1) b
  have h2 := Int.emod_lt_of_pos (a + b - 1) hb
  rw [Int.mul_comm b] at h1
  omega
theorem ceil_le {a b a' b' : Int} (hb : 0 < b) (hb' : 0 < b') (h : a * b' ≤ a' * b) : (a + b - 1) / b ≤ (a' + b' - 1) / b' := by
  have h1 := ceil_ge (a := a') hb'
  generalize (a' + b' - 1) / b' = q at *
  have h2 : a ≤ q * b := by
    refine Int.le_of_mul_le_mul_right ?_ hb'
    have h3 := Int.mul_le_mul_of_nonneg_right h1 (show 0 ≤ b by omega)
    have e : q * b' * b = q * b * b' := by rw [Int.mul_assoc, Int.mul_comm b' b, ← Int.mul_assoc]
    rw [e] at h3
    omega
  have h4 : (a + b - 1) / b < q + 1 := by
    refine (Int.ediv_lt_iff_lt_mul hb).2 ?_
    rw [Int.add_mul]
    omega
  omega
def mfl (l : List shift_Mark) (a : Int) : Int := (mean l a).N / (mean l a).D
def mce (l : List shift_Mark) (a : Int) : Int := ((mean l a).N + (mean l a).D - 1) / (mean l a).D
theorem mfl_mono {l : List shift_Mark} (hl : ROk l) {a b : Int} (h : a ≤ b) : mfl l a ≤ mfl l b := by
  obtain ⟨a1, -, -, -, -⟩ := mean_val hl a
  obtain ⟨b1, -, -, -, -⟩ := mean_val hl b
  exact flr_le (by omega) (by omega) (mean_mono hl h)
theorem mce_mono {l : List shift_Mark} (hl : ROk l) {a b : Int} (h : a ≤ b) : mce l a ≤ mce l b := by
  obtain ⟨a1, -, -, -, -⟩ := mean_val hl a
  obtain ⟨b1, -, -, -, -⟩ := mean_val hl b
  exact ceil_le (by omega) (by omega) (mean_mono hl h)
theorem mfl_mean {l : List shift_Mark} (hl : ROk l) (a : Int) : mfl l a * (mean l a).D ≤ (mean l a).N ∧ 0 ≤ mfl l a ∧ mfl l a ≤ 1000000000 := by
  obtain ⟨a1, -, a3, -, -⟩ := mean_val hl a
  have h := mean_le hl a
  refine ⟨Int.ediv_mul_le _ (by omega), Int.ediv_nonneg a3 (by omega), ?_⟩
  have : mfl l a < 1000000000 + 1 := by
    refine (Int.ediv_lt_iff_lt_mul (by omega)).2 ?_
    rw [Int.add_mul]
    omega
  omega
theorem mce_mean {l : List shift_Mark} (hl : ROk l) (a : Int) : (mean l a).N ≤ mce l a * (mean l a).D ∧ 0 ≤ mce l a ∧ mce l a ≤ 1000000001 := by
  obtain ⟨a1, -, a3, -, -⟩ := mean_val hl a
  have h := mean_le hl a
  refine ⟨ceil_ge (by omega), Int.ediv_nonneg (by omega) (by omega), ?_⟩
  have : mce l a < 1000000001 + 1 := by
    refine (Int.ediv_lt_iff_lt_mul (by omega)).2 ?_
    rw [Int.add_mul]
    omega
  omega
/-! ### What is between -/
theorem betF_ok {r : shift_Record} (hr : RecOk r) (h : (passes r).all spanOk = true) {most day at_ : Int} {c : List Int} (hc : Crs (spansB r day) c) (hm : move c ≤ most) :
    betF r most day at_ = (⟨mfl r.Rating (at_ - (cspan (spansB r day) most (adF r day)).Hi), mce r.Rating (at_ - (cspan (spansB r day) most (adF r day)).Lo)⟩, 0) := by
  have hvb := spansB_vl hr h day
  unfold betF
  rw [if_pos ((can_all hvb).2 ⟨c, hc, hm⟩)]
  rfl
theorem cspan_ends {l : List api_Span} (h : VL l) {most : Int} {c : List Int} (hc : Crs l c) (hm : move c ≤ most) {i : Nat} (hi : i < l.length) :
    (∃ a, Crs l a ∧ a.getD i 0 = (cspan l most i).Lo ∧ move a ≤ most) ∧ ∃ b, Crs l b ∧ b.getD i 0 = (cspan l most i).Hi ∧ move b ≤ most := by
  have hall : (canF l most).all spanOk = true := (can_all h).2 ⟨c, hc, hm⟩
  have hok : spanOk (cspan l most i) = true := by
    unfold canF at hall
    rw [List.all_map, List.all_eq_true] at hall
    exact hall i (List.mem_range.2 hi)
  rcases cspan_spec h (most := most) (i := i) hi with ⟨a, b, c, d⟩ | ⟨b, _⟩
  · exact ⟨(canP_iff h hi).1 b, (canP_iff h hi).1 c⟩
  · rw [hok] at b
    cases b
/-! ### The ends of some spans -/
def lowN (l : List api_Span) : Nat → Int
  | 0 => (l.getD 0 s00).Lo
  | i + 1 => min (lowN l i) (l.getD i s00).Lo
def highN (l : List api_Span) : Nat → Int
  | 0 => (l.getD 0 s00).Hi
  | i + 1 => max (highN l i) (l.getD i s00).Hi
theorem lowN_le {l : List api_Span} : ∀ n j, j < n → lowN l n ≤ (l.getD j s00).Lo
  | 0, j, h => absurd h (Nat.not_lt_zero _)
  | n + 1, j, h => by
    show min (lowN l n) (l.getD n s00).Lo ≤ _
    by_cases e : j = n
    · subst e
      omega
    · have := lowN_le (l := l) n j (by omega)
      omega
theorem le_highN {l : List api_Span} : ∀ n j, j < n → (l.getD j s00).Hi ≤ highN l n
  | 0, j, h => absurd h (Nat.not_lt_zero _)
  | n + 1, j, h => by
    show _ ≤ max (highN l n) (l.getD n s00).Hi
    by_cases e : j = n
    · subst e
      omega
    · have := le_highN (l := l) n j (by omega)
      omega
theorem lowN_ge {l : List api_Span} {B : Int} (h0 : 0 < l.length) (h : ∀ j, j < l.length → B ≤ (l.getD j s00).Lo) : ∀ n, n ≤ l.length → B ≤ lowN l n
  | 0, _ => h 0 h0
  | n + 1, hn => by
    have := lowN_ge h0 h n (by omega)
    have := h n (by omega)
    show B ≤ min (lowN l n) (l.getD n s00).Lo
    omega
theorem highN_le {l : List api_Span} {B : Int} (h0 : 0 < l.length) (h : ∀ j, j < l.length → (l.getD j s00).Hi ≤ B) : ∀ n, n ≤ l.length → highN l n ≤ B
  | 0, _ => h 0 h0
  | n + 1, hn => by
    have := highN_le h0 h n (by omega)
    have := h n (by omega)
    show max (highN l n) (l.getD n s00).Hi ≤ B
    omega
theorem stage_spec {stage : Int} (hs : 0 ≤ stage ∧ stage ≤ 255) : W (((W stage).tmod 120) - 40) = stage % 120 - 40 := by
  rw [W_sm (n := stage) (by omega) (by omega), tmod_mod hs.1, W_sm (by omega) (by omega)]
theorem days_j34 {N : Nat} (hN : 700 ≤ N) {r : shift_Record} (hr : RecOk r) {c : List Int} {u m : Int} {stage : Int} (hs : 0 ≤ stage ∧ stage ≤ 255) {ends : List api_Span} (h1 : 1 ≤ ends.length) (h2 : ends.length ≤ 10) (hb : ∀ j, j < ends.length → SOkS (ends.getD j s00)) {L H : Int}
    (hL : lowN ends ends.length ≤ L) (hH : H ≤ highN ends ends.length) :
    law05_ShiftDays_j34 N stage (r, c, u, m) (⟨mfl r.Rating (stage % 120 - 40 - H), mce r.Rating (stage % 120 - 40 - L)⟩, 0) ends = some true := by
  unfold law05_ShiftDays_j34
  have e0 : getI ends 0 = some (ends.getD 0 s00) := getI_d (i := 0) s00 (by omega)
  rw [e0, Option.bind_some, Option.bind_some]
  have := runS (ρ := Bool) (fun i : Nat => ((lowN ends i, highN ends i, (i : Int)) : Int × Int × Int)) ends.length (fun s38 : Int × Int × Int => law05_ShiftDays_b38 N ends s38.1 s38.2.1 s38.2.2) (fun i hi => by
    show law05_ShiftDays_b38 N ends (lowN ends i) (highN ends i) (i : Int) = _
    unfold law05_ShiftDays_b38
    rw [lt_dec hi, cond_true, getI_d s00 hi, Option.bind_some, W_succ (by omega)]
    rfl) (by
    show law05_ShiftDays_b38 N ends _ _ (ends.length : Int) = _
    unfold law05_ShiftDays_b38
    rw [ge_dec, cond_false]) (N := N) (by omega)
  show Option.bind (loopO (fun s38 : Int × Int × Int => law05_ShiftDays_b38 N ends s38.1 s38.2.1 s38.2.2) N (lowN ends 0, highN ends 0, ((0 : Nat) : Int))) _ = _
  rw [this, Option.bind_some]
  have l1 : -300 ≤ lowN ends ends.length := lowN_ge (by omega) (fun j hj => (hb j hj).1) _ (Nat.le_refl _)
  have l2 : lowN ends ends.length ≤ 300 := by
    have := lowN_le (l := ends) ends.length 0 (by omega)
    have := hb 0 (by omega)
    unfold SOkS at this
    omega
  have l3 : highN ends ends.length ≤ 300 := highN_le (by omega) (fun j hj => by have := hb j hj; unfold SOkS at this; omega) _ (Nat.le_refl _)
  have l4 : -300 ≤ highN ends ends.length := by
    have := le_highN (l := ends) ends.length 0 (by omega)
    have := hb 0 (by omega)
    unfold SOkS at this
    omega
  generalize lowN ends ends.length = low at *
  generalize highN ends ends.length = high at *
  show Option.bind (shift_Means N r.Rating (W (((W stage).tmod 120) - 40)) high) (fun r_11 => Option.bind (shift_Means N r.Rating (W (((W stage).tmod 120) - 40)) low) _) = _
  rw [stage_spec hs, Means_ok hN hr.rt (by omega) (by omega), Option.bind_some, Means_ok hN hr.rt (by omega) (by omega), Option.bind_some]
  obtain ⟨a1, a2, a3, -, -⟩ := mean_val hr.rt (stage % 120 - 40 - high)
  obtain ⟨b1, b2, b3, -, -⟩ := mean_val hr.rt (stage % 120 - 40 - low)
  have b4 := mean_le hr.rt (stage % 120 - 40 - low)
  have m1 := mfl_mono hr.rt (a := stage % 120 - 40 - high) (b := stage % 120 - 40 - H) (by omega)
  have m2 := mce_mono hr.rt (a := stage % 120 - 40 - L) (b := stage % 120 - 40 - low) (by omega)
  have q1 := mfl_mean hr.rt (stage % 120 - 40 - high)
  have q2 := mce_mean hr.rt (stage % 120 - 40 - low)
  show cond (((((0 : Int) != 0) || ((0 : Int) != 0)) || (decide ((mean r.Rating (stage % 120 - 40 - high)).D < 1))) || (decide ((mean r.Rating (stage % 120 - 40 - low)).D < 1))) _ (Option.bind (nz (mean r.Rating (stage % 120 - 40 - high)).D) fun un_1 => Option.bind (cond (decide ((W ((mean r.Rating (stage % 120 - 40 - high)).N.tdiv (mean r.Rating (stage % 120 - 40 - high)).D)) ≤ mfl r.Rating (stage % 120 - 40 - H))) (Option.bind (nz (mean r.Rating (stage % 120 - 40 - low)).D) fun un_2 => some (decide (mce r.Rating (stage % 120 - 40 - L) ≤ (W ((W ((W ((mean r.Rating (stage % 120 - 40 - low)).N + (mean r.Rating (stage % 120 - 40 - low)).D)) - 1)).tdiv (mean r.Rating (stage % 120 - 40 - low)).D))))) (some false)) _) = _
  rw [dF (by omega), dF (by omega)]
  have z1 : nz (mean r.Rating (stage % 120 - 40 - high)).D = some () := by unfold nz; rw [if_neg (by omega)]
  have z2 : nz (mean r.Rating (stage % 120 - 40 - low)).D = some () := by unfold nz; rw [if_neg (by omega)]
  have t1 : W ((mean r.Rating (stage % 120 - 40 - high)).N.tdiv (mean r.Rating (stage % 120 - 40 - high)).D) = mfl r.Rating (stage % 120 - 40 - high) := by
    rw [tdiv_div a3]
    exact W_sm (n := mfl r.Rating (stage % 120 - 40 - high)) (by omega) (by omega)
  have t2 : W ((W ((W ((mean r.Rating (stage % 120 - 40 - low)).N + (mean r.Rating (stage % 120 - 40 - low)).D)) - 1)).tdiv (mean r.Rating (stage % 120 - 40 - low)).D) = mce r.Rating (stage % 120 - 40 - low) := by
    have hD : 1000000000 * (mean r.Rating (stage % 120 - 40 - low)).D ≤ 4000000000000 := by omega
    rw [W_sm (n := (mean r.Rating (stage % 120 - 40 - low)).N + (mean r.Rating (stage % 120 - 40 - low)).D) (by omega) (by omega), W_sm (n := (mean r.Rating (stage % 120 - 40 - low)).N + (mean r.Rating (stage % 120 - 40 - low)).D - 1) (by omega) (by omega), tdiv_div (by omega)]
    exact W_sm (n := mce r.Rating (stage % 120 - 40 - low)) (by omega) (by omega)
  rw [t1, t2, z1, z2, dT m1, dT m2, awake_true hN]
  rfl
end Go.Nilo
