/-
  What the plain functions compute, in plain arithmetic, part 14. Conditions: what each theorem names.
-/
import Derived.Test.YtlbmcojegiabpaaDiL13
set_option linter.unusedSimpArgs false
set_option linter.unusedVariables false
namespace Go.Nilo
theorem turns_of {N : Nat} (hN : 60 ≤ N) {k : Nat} {g : Nat → Int} (hk : 1 ≤ k ∧ k ≤ 12) (hg : ∀ s, s < k → 1 ≤ g s ∧ g s ≤ 1000000) {days rule : Int} (hd : (k : Int) ≤ days ∧ days ≤ 366) (hdN : days < N) (hr : 0 ≤ rule ∧ rule ≤ 2) :
    ∃ o : Nat → Nat, Fair k g (bN rule) o ∧ (sumN o k : Int) = days ∧ share_Turns N (mapZ k g) days rule = some (mapO k o, 0) := by
  have h0 := chkC_mapZ hk hg
  obtain ⟨o, h1, h2, h3⟩ := turns_prog hN h0 (days := days) (rule := rule) (by omega) hdN hr (by rw [mapZ_len]; omega)
  rw [mapZ_len] at h1 h2 h3
  refine ⟨o, ?_, h2, h3⟩
  intro s t hs ht h4
  have := h1 s t hs ht h4
  unfold ahead at this ⊢
  rw [mapZ_cN hs, mapZ_cN ht] at this
  exact this
theorem sumN_congr {f g : Nat → Nat} : ∀ k, (∀ s, s < k → f s = g s) → sumN f k = sumN g k
  | 0, _ => rfl
  | k + 1, h => by
    show sumN f k + f k = sumN g k + g k
    rw [sumN_congr k (fun s hs => h s (by omega)), h k (by omega)]
def drop1 (o : Nat → Nat) (a : Nat) : Nat → Nat := fun s => if s = a then o s - 1 else o s
theorem sumN_drop {o : Nat → Nat} {a : Nat} (h : 1 ≤ o a) : ∀ k, sumN (drop1 o a) k + (if a < k then 1 else 0) = sumN o k
  | 0 => by simp [sumN]
  | k + 1 => by
    show sumN (drop1 o a) k + drop1 o a k + (if a < k + 1 then 1 else 0) = sumN o k + o k
    have := sumN_drop h k
    unfold drop1 at *
    by_cases h1 : a < k
    · rw [if_pos h1] at this
      rw [if_pos (show a < k + 1 by omega), if_neg (show ¬ k = a by omega)]
      omega
    · rw [if_neg h1] at this
      by_cases h2 : k = a
      · subst h2
        rw [if_pos rfl, if_pos (show k < k + 1 by omega)]
        omega
      · rw [if_neg h2, if_neg (show ¬ a < k + 1 by omega)]
        omega
theorem mapO_drop {k : Nat} {o : Nat → Nat} {a : Nat} (h : 1 ≤ o a) : (mapO k o).set a (((o a : Nat) : Int) - 1) = mapO k (drop1 o a) := by
  apply List.ext_getElem?
  intro i
  unfold mapO drop1
  rw [List.getElem?_set]
  by_cases hik : i < k
  · by_cases his : a = i
    · subst his
      simp [hik]
      omega
    · rw [if_neg his]
      simp [hik, Ne.symm his]
  · by_cases his : a = i
    · subst his
      simp [hik]
    · rw [if_neg his]
      simp [hik]
/-- What both say of shares that are all days. -/
theorem both_say {k : Nat} {c : Nat → Int} {o : Nat → Nat} {rule : Int} (hk : 1 ≤ k ∧ k ≤ 12) (hc : ∀ s, s < k → 1 ≤ c s ∧ c s ≤ 1000000) (ho : ∀ s, s < k → o s ≤ 366) (hr : 0 ≤ rule ∧ rule ≤ 2) (hsum : k ≤ sumN o k) :
    ((unfV (mapZ k c) (mapO k o) rule).2.2 = 5 ∧ (divV (mapZ k c) (mapO k o) rule).2.2 = 0 ∧ unfF (mapZ k c) (mapO k o) rule = none) ∨ ((unfV (mapZ k c) (mapO k o) rule).2.2 = 0 ∧ (divV (mapZ k c) (mapO k o) rule).2.2 = 7 ∧ unfF (mapZ k c) (mapO k o) rule ≠ none) := by
  have h0 := shok_of hk hc ho hr
  have h := chkS_ok h0
  have hfit := fit_iff h (next_pos h hsum)
  unfold unfV divV
  rw [if_pos h0, if_pos h0]
  cases hu : unfF (mapZ k c) (mapO k o) rule with
  | none =>
    left
    rw [if_neg (hfit.1 hu)]
    exact ⟨rfl, rfl, rfl⟩
  | some p =>
    right
    have hm : (high (mapZ k c) (mapO k o) rule).1 * (low (mapZ k c) (mapO k o) rule).2 < (low (mapZ k c) (mapO k o) rule).1 * (high (mapZ k c) (mapO k o) rule).2 := by
      refine Classical.byContradiction fun hno => ?_
      have := hfit.2 hno
      rw [hu] at this
      cases this
    rw [if_pos hm]
    exact ⟨rfl, rfl, by simp⟩
theorem awake_true : law09_awake 200 = some true := by decide +kernel
def tryX (x y : api_Ratio) (w : Int) : Nat → api_Ratio
  | 0 => x
  | 1 => y
  | 2 => ⟨x.N * y.D * w + y.N * x.D * (255 - w), 255 * x.D * y.D⟩
  | 3 => ⟨1000 * x.N - x.D, 1000 * x.D⟩
  | _ => ⟨1000 * y.N + y.D, 1000 * y.D⟩
theorem divided_true {numbers : List Int} (hb : Bytes numbers) {a b w : Int} (ha : 0 ≤ a ∧ a ≤ 255) (hb' : 0 ≤ b ∧ b ≤ 255) (hw : 0 ≤ w ∧ w ≤ 255) : law09_ShareDivided 200 numbers a b w = some true := by
  obtain ⟨k, c, days, rule, u, m, hk, hc, hd, hr, hmade⟩ := claimed_made (N := 200) (by omega) hb
  obtain ⟨o, f1, f2, f3⟩ := turns_of (N := 200) (by omega) (k := k) (g := c) (by omega) (fun s hs => by have := hc s hs; omega) (days := days) (rule := rule) (by omega) (by omega) hr
  have ho : ∀ s, s < k → o s ≤ 120 := fun s hs => by have := sumN_one (o := o) k hs; omega
  have h0 := shok_of (k := k) (c := c) (o := o) (rule := rule) (by omega) (fun s hs => by have := hc s hs; omega) (fun s hs => by have := ho s hs; omega) hr
  have hok := chkS_ok h0
  have hfu := fair_unf f1
  have hsay := both_say (k := k) (c := c) (o := o) (rule := rule) (by omega) (fun s hs => by have := hc s hs; omega) (fun s hs => by have := ho s hs; omega) hr (by omega)
  have hm := (fit_iff hok (next_pos hok (by omega))).1 hfu
  have lp := low_pos hok hm
  have lb := low_bd hok
  have hib := high_bd hok
  have hlen : (mapZ k c).length = k := mapZ_len k c
  have hlenO : (mapO k o).length = k := mapO_len k o
  -- bounds of the ends
  have hlow : (low (mapZ k c) (mapO k o) rule).1 ≤ 500 ∧ (low (mapZ k c) (mapO k o) rule).2 ≤ 400 := by
    obtain ⟨j, hj, h1⟩ := (low_facts hok).1
    rw [hlen] at hj
    rw [h1]
    have := hc j hj
    have := ho j hj
    refine ⟨?_, ?_⟩
    · show nI (mapZ k c) j ≤ 500
      unfold nI
      rw [mapZ_cN hj]
      omega
    · show nxB (mapO k o) rule j ≤ 400
      unfold nxB
      rw [mapO_sI hj]
      rcases askI_cases (n := ((o j : Nat) : Int) + 1) hr with ⟨-, e⟩ | ⟨-, e⟩ | ⟨-, e⟩ <;> omega
  have hhigh : (high (mapZ k c) (mapO k o) rule).2 ≤ 400 := by
    rcases (high_facts hok).1 with h1 | ⟨j, hj, -, h1⟩
    · rw [h1]; decide
    · rw [hlen] at hj
      rw [h1]
      have := ho j hj
      show laB (mapO k o) rule j ≤ 400
      unfold laB
      rw [mapO_sI hj]
      rcases askI_cases (n := ((o j : Nat) : Int)) hr with ⟨-, e⟩ | ⟨-, e⟩ | ⟨-, e⟩ <;> omega
  have px := low_proves hok hm
  have py := high_proves hok hm
  have nbelow := below_not hok lp
  have nabove := above_not hok
  have hxy : (lowR (low (mapZ k c) (mapO k o) rule).1 (low (mapZ k c) (mapO k o) rule).2).N * (lowR (high (mapZ k c) (mapO k o) rule).1 (high (mapZ k c) (mapO k o) rule).2).D ≤ (lowR (high (mapZ k c) (mapO k o) rule).1 (high (mapZ k c) (mapO k o) rule).2).N * (lowR (low (mapZ k c) (mapO k o) rule).1 (low (mapZ k c) (mapO k o) rule).2).D := by
    rw [Int.mul_comm (lowR (low (mapZ k c) (mapO k o) rule).1 (low (mapZ k c) (mapO k o) rule).2).N, lowR_ge lb.1.1 lp, Int.mul_comm _ (low (mapZ k c) (mapO k o) rule).1, Int.mul_comm _ (low (mapZ k c) (mapO k o) rule).2, lowR_le hib.1.1 hib.2.1, Int.mul_comm (low (mapZ k c) (mapO k o) rule).2]
    omega
  have h2e : (lowR (high (mapZ k c) (mapO k o) rule).1 (high (mapZ k c) (mapO k o) rule).2).N ≤ 2000000 * (lowR (high (mapZ k c) (mapO k o) rule).1 (high (mapZ k c) (mapO k o) rule).2).D := by
    have := (lowR_ge (a := 1) (b := 2000000) hib.1.1 hib.2.1).2 (by have := (high_facts hok).2.1; omega)
    omega
  have hdiv : divV (mapZ k c) (mapO k o) rule = (lowR (low (mapZ k c) (mapO k o) rule).1 (low (mapZ k c) (mapO k o) rule).2, lowR (high (mapZ k c) (mapO k o) rule).1 (high (mapZ k c) (mapO k o) rule).2, 0) := by
    unfold divV
    rw [if_pos h0, if_neg hm]
  obtain ⟨-, -, -, -, xn1, xn2, xd1, xd2⟩ := lowR_spec lb.1.1 lp
  obtain ⟨-, -, -, -, yn1, yn2, yd1, yd2⟩ := lowR_spec hib.1.1 hib.2.1
  generalize lowR (low (mapZ k c) (mapO k o) rule).1 (low (mapZ k c) (mapO k o) rule).2 = x at *
  generalize lowR (high (mapZ k c) (mapO k o) rule).1 (high (mapZ k c) (mapO k o) rule).2 = y at *
  have pmix := mixed_proves px py (by omega) (by omega) hw
  have huV : unfV (mapZ k c) (mapO k o) rule = (0, 0, 5) := by
    unfold unfV
    rw [if_pos h0, hfu]
  -- products
  have m1 := mul_bd (a := x.N) (b := y.D) (A := 500) (B := 400) (by omega) (by omega) (by omega) (by omega)
  have m2 := mul_bd (a := y.N) (b := x.D) (A := 2000000) (B := 400) (by omega) (by omega) (by omega) (by omega)
  have m3 := mul_bd (a := x.N * y.D) (b := w) (A := 200000) (B := 255) (by omega) (by omega) (by omega) (by omega)
  have m4 := mul_bd (a := y.N * x.D) (b := 255 - w) (A := 800000000) (B := 255) (by omega) (by omega) (by omega) (by omega)
  have m5 := mul_bd (a := 255 * x.D) (b := y.D) (A := 102000) (B := 400) (by omega) (by omega) (by omega) (by omega)
  have m6 : 0 < 255 * x.D * y.D := Int.mul_pos (by omega) (by omega)
  -- the five
  have hfive : ∀ i, i < 5 → okX (tryX x y w i) = true → proB (mapZ k c) (mapO k o) rule (tryX x y w i) = decide (i < 3) := by
    intro i hi hx
    match i, hi with
    | 0, _ => exact px
    | 1, _ => exact py
    | 2, _ => exact pmix
    | 3, _ => exact nbelow
    | 4, _ =>
      have := (okX_bd hx).1.2
      exact nabove this
  have hD : ∀ i, i < 5 → 1 ≤ (tryX x y w i).D ∧ (tryX x y w i).D ≤ 1000000000 := by
    intro i hi
    match i, hi with
    | 0, _ => show 1 ≤ x.D ∧ x.D ≤ 1000000000; omega
    | 1, _ => show 1 ≤ y.D ∧ y.D ≤ 1000000000; omega
    | 2, _ => show 1 ≤ 255 * x.D * y.D ∧ 255 * x.D * y.D ≤ 1000000000; omega
    | 3, _ => show 1 ≤ 1000 * x.D ∧ 1000 * x.D ≤ 1000000000; omega
    | 4, _ => show 1 ≤ 1000 * y.D ∧ 1000 * y.D ≤ 1000000000; omega
  have hget : ∀ i : Nat, i < 5 → getI ([x, y, (⟨W ((W ((W (x.N * y.D)) * (W w))) + (W ((W (y.N * x.D)) * (W (255 - (W w)))))), W ((W (255 * x.D)) * y.D)⟩ : api_Ratio), (⟨W ((W (1000 * x.N)) - x.D), W (1000 * x.D)⟩ : api_Ratio), (⟨W ((W (1000 * y.N)) + y.D), W (1000 * y.D)⟩ : api_Ratio)] : List api_Ratio) (i : Int) = some (tryX x y w i) := by
    intro i hi
    rw [W_id (n := w) (by omega) (by omega), W_id (n := x.N * y.D) (by omega) (by omega), W_id (n := x.N * y.D * w) (by omega) (by omega), W_id (n := y.N * x.D) (by omega) (by omega), W_id (n := 255 - w) (by omega) (by omega), W_id (n := y.N * x.D * (255 - w)) (by omega) (by omega), W_id (n := x.N * y.D * w + y.N * x.D * (255 - w)) (by omega) (by omega), W_id (n := 255 * x.D) (by omega) (by omega), W_id (n := 255 * x.D * y.D) (by omega) (by omega), W_id (n := 1000 * x.N) (by omega) (by omega), W_id (n := 1000 * x.N - x.D) (by omega) (by omega), W_id (n := 1000 * x.D) (by omega) (by omega), W_id (n := 1000 * y.N) (by omega) (by omega), W_id (n := 1000 * y.N + y.D) (by omega) (by omega), W_id (n := 1000 * y.D) (by omega) (by omega)]
    match i, hi with
    | 0, _ => rfl
    | 1, _ => rfl
    | 2, _ => rfl
    | 3, _ => rfl
    | 4, _ => rfl
  have hloop := runS (ρ := Bool) (fun i : Nat => (i : Int)) 5 (fun s14 => law09_ShareDivided_b14 200 w (mapZ k c, days, rule, u, m) (mapO k o, 0) (x, y, 0) s14) (fun i hi => by
    show law09_ShareDivided_b14 200 w (mapZ k c, days, rule, u, m) (mapO k o, 0) (x, y, 0) (i : Int) = _
    unfold law09_ShareDivided_b14 law09_ShareDivided_j30
    have hDi := hD i hi
    rw [decide_eq_true (show (i : Int) < 5 by omega), cond_true]
    show Option.bind (getI ([x, y, (⟨W ((W ((W (x.N * y.D)) * (W w))) + (W ((W (y.N * x.D)) * (W (255 - (W w)))))), W ((W (255 * x.D)) * y.D)⟩ : api_Ratio), (⟨W ((W (1000 * x.N)) - x.D), W (1000 * x.D)⟩ : api_Ratio), (⟨W ((W (1000 * y.N)) + y.D), W (1000 * y.D)⟩ : api_Ratio)] : List api_Ratio) (i : Int)) (fun e_6 => cond ((((decide (e_6.N < 1)) || (decide (1000000000 < e_6.N))) || (decide (1000000000 < e_6.D))) || (decide ((W (2000000 * e_6.D)) < e_6.N))) _ (Option.bind (share_Proves 200 (mapZ k c) (mapO k o) rule e_6) _)) = _
    rw [hget i hi, Option.bind_some, W_succ (by omega), W_id (n := 2000000 * (tryX x y w i).D) (by omega) (by omega)]
    cases hx : okX (tryX x y w i) with
    | false =>
      have : ((((decide ((tryX x y w i).N < 1)) || (decide (1000000000 < (tryX x y w i).N))) || (decide (1000000000 < (tryX x y w i).D))) || (decide (2000000 * (tryX x y w i).D < (tryX x y w i).N))) = true := by
        unfold okX inB at hx
        simp only [Bool.and_eq_false_iff, decide_eq_false_iff_not, Bool.not_eq_false', decide_eq_true_eq] at hx
        simp only [Bool.or_eq_true, decide_eq_true_eq]
        omega
      rw [this, cond_true]
    | true =>
      have hxb := okX_bd hx
      have : ((((decide ((tryX x y w i).N < 1)) || (decide (1000000000 < (tryX x y w i).N))) || (decide (1000000000 < (tryX x y w i).D))) || (decide (2000000 * (tryX x y w i).D < (tryX x y w i).N))) = false := by
        simp only [Bool.or_eq_false_iff, decide_eq_false_iff_not]
        omega
      rw [this, cond_false, proves_prog (by omega) (by rw [hlen]; omega) (by rw [hlenO]; omega), Option.bind_some]
      unfold proV
      rw [if_pos h0, if_pos hx, hfive i hi hx]
      have e : decide ((i : Int) < 3) = decide (i < 3) := by rw [Bool.eq_iff_iff, decide_eq_true_eq, decide_eq_true_eq]; omega
      show cond (((0 : Int) != 0) || (decide (i < 3) != decide ((i : Int) < 3))) _ _ = _
      rw [e, bne_self_eq_false, bne_self_eq_false]
      rfl) (by
    show law09_ShareDivided_b14 200 w (mapZ k c, days, rule, u, m) (mapO k o, 0) (x, y, 0) ((5 : Nat) : Int) = _
    unfold law09_ShareDivided_b14
    rw [decide_eq_false (show ¬ ((5 : Nat) : Int) < 5 by omega), cond_false]) (N := 200) (by omega)
  have hcp : ∀ q : List Int, q.length ≤ 1000000 → kit_Copy_int 200 q = some q := by
    intro q hq
    unfold kit_Copy_int
    rw [room_ok hq]
    rfl
  have hidx : ∀ v : Int, 0 ≤ v ∧ v ≤ 255 → ∃ i : Nat, i < k ∧ (W v).tmod ((k : Nat) : Int) = (i : Int) := by
    intro v hv
    have hmod : 0 ≤ v % (k : Int) ∧ v % (k : Int) < k := ⟨Int.emod_nonneg _ (by omega), Int.emod_lt_of_pos _ (by omega)⟩
    refine ⟨(v % (k : Int)).toNat, by omega, ?_⟩
    rw [W_id (by omega) (by omega), tmod_mod (by omega)]
    omega
  obtain ⟨p, hp, hpe⟩ := hidx a ha
  obtain ⟨q, hq, hqe⟩ := hidx b hb'
  have hnz : nz ((k : Nat) : Int) = some () := by unfold nz; rw [if_neg (by omega)]
  have htot := total_spec (N := 200) (k := k) (g := fun s => ((o s : Nat) : Int)) (by omega) (by omega) (fun s hs => by have := ho s hs; omega)
  rw [sumZ_nat, f2] at htot
  unfold law09_ShareDivided kit_New
  rw [Option.bind_some]
  show Option.bind (law09_Claimed 200 ⟨numbers, 0, 0⟩) _ = _
  rw [hmade, Option.bind_some]
  show Option.bind (share_Turns 200 (mapZ k c) days rule) (fun r_2 => Option.bind (share_Unfair 200 (mapZ k c) r_2.1 rule) fun r_3 => Option.bind (share_Divisors 200 (mapZ k c) r_2.1 rule) fun r_4 => _) = _
  rw [f3, Option.bind_some]
  show Option.bind (share_Unfair 200 (mapZ k c) (mapO k o) rule) (fun r_3 => Option.bind (share_Divisors 200 (mapZ k c) (mapO k o) rule) fun r_4 => _) = _
  rw [unfair_prog (by omega) (by rw [hlen]; omega) (by rw [hlenO]; omega), Option.bind_some, div_prog (by omega) (by rw [hlen]; omega) (by rw [hlenO]; omega), Option.bind_some, hdiv, huV]
  have ht1 : (cond (((((0 : Int) != 0) || ((5 : Int) != 5)) || ((0 : Int) != 0)) || ((((mapO k o).length : Nat) : Int) != (((mapZ k c).length : Nat) : Int))) (some true) (Option.bind (law09_total 200 (mapO k o)) fun r_5 => some (r_5 != days))) = some false := by
    rw [hlen, hlenO, bne_self_eq_false, bne_self_eq_false, bne_self_eq_false]
    show Option.bind (law09_total 200 (mapZ k fun s => ((o s : Nat) : Int))) _ = _
    rw [htot, Option.bind_some, bne_self_eq_false]
  show Option.bind (cond (((((0 : Int) != 0) || ((5 : Int) != 5)) || ((0 : Int) != 0)) || ((((mapO k o).length : Nat) : Int) != (((mapZ k c).length : Nat) : Int))) (some true) (Option.bind (law09_total 200 (mapO k o)) fun r_5 => some (r_5 != days))) (fun t_1 => cond (((((((((t_1 || (decide (x.N < 1))) || (decide (x.D < 1))) || (decide (y.N < 1))) || (decide (y.D < 1))) || (decide ((W (y.N * x.D)) < (W (x.N * y.D))))) || (decide ((W (2000000 * x.D)) < x.N))) || (decide (10000 < x.D))) || (decide ((W (2000000 * y.D)) < y.N))) || (decide (10000 < y.D))) _ _) = _
  rw [ht1, Option.bind_some, W_id (n := y.N * x.D) (by omega) (by omega), W_id (n := x.N * y.D) (by omega) (by omega), W_id (n := 2000000 * x.D) (by omega) (by omega), W_id (n := 2000000 * y.D) (by omega) (by omega)]
  have hall : (((((((((false || (decide (x.N < 1))) || (decide (x.D < 1))) || (decide (y.N < 1))) || (decide (y.D < 1))) || (decide (y.N * x.D < x.N * y.D))) || (decide (2000000 * x.D < x.N))) || (decide (10000 < x.D))) || (decide (2000000 * y.D < y.N))) || (decide (10000 < y.D))) = false := by
    simp only [Bool.or_eq_false_iff, decide_eq_false_iff_not]
    refine ⟨⟨⟨⟨⟨⟨⟨⟨⟨trivial, ?_⟩, ?_⟩, ?_⟩, ?_⟩, ?_⟩, ?_⟩, ?_⟩, ?_⟩, ?_⟩ <;> omega
  rw [hall, cond_false]
  show Option.bind (loopO (fun s14 => law09_ShareDivided_b14 200 w (mapZ k c, days, rule, u, m) (mapO k o, 0) (x, y, 0) s14) 200 ((0 : Nat) : Int)) _ = _
  rw [hloop, Option.bind_some]
  show Option.bind (nz (((mapO k o).length : Nat) : Int)) (fun _ => Option.bind (nz (((mapO k o).length : Nat) : Int)) fun _ => Option.bind (cond (((W a).tmod (((mapO k o).length : Nat) : Int)) == ((W b).tmod (((mapO k o).length : Nat) : Int))) (some true) (Option.bind (getI (mapO k o) ((W a).tmod (((mapO k o).length : Nat) : Int))) fun e_1 => some (e_1 == 0))) fun t_2 => _) = _
  rw [hlenO, hnz, Option.bind_some, Option.bind_some, hpe, hqe, mapO_get hp, Option.bind_some, awake_true]
  by_cases hpq : p = q
  · subst hpq
    rw [beq_self_eq_true, cond_true, Option.bind_some]
    rfl
  · have e1 : ((p : Int) == (q : Int)) = false := beq_eq_false_iff_ne.2 (by omega)
    rw [e1, cond_false, Option.bind_some]
    by_cases hp0 : o p = 0
    · have e2 : (((o p : Nat) : Int) == 0) = true := by rw [beq_iff_eq]; omega
      rw [e2]
      rfl
    · have e2 : (((o p : Nat) : Int) == 0) = false := beq_eq_false_iff_ne.2 (by omega)
      have hop := ho p hp
      have hoq := ho q hq
      have hdq : drop1 o p q = o q := by unfold drop1; rw [if_neg (fun h => hpq h.symm)]
      rw [e2, cond_false]
      show Option.bind (kit_Copy_int 200 (mapO k o)) _ = _
      rw [hcp _ (by rw [hlenO]; omega), Option.bind_some]
      show Option.bind (getI (mapO k o) (p : Int)) (fun e_2 => Option.bind (getI (mapO k o) (p : Int)) fun e_3 => Option.bind (getI ((mapO k o).set (p : Int).toNat (W (e_2 - 1))) (q : Int)) fun e_4 => Option.bind (getI ((mapO k o).set (p : Int).toNat (W (e_2 - 1))) (q : Int)) fun e_5 => Option.bind (share_Unfair 200 (mapZ k c) (((mapO k o).set (p : Int).toNat (W (e_2 - 1))).set (q : Int).toNat (W (e_4 + 1))) rule) fun r_8 => Option.bind (share_Divisors 200 (mapZ k c) (((mapO k o).set (p : Int).toNat (W (e_2 - 1))).set (q : Int).toNat (W (e_4 + 1))) rule) fun r_9 => _) = _
      rw [mapO_get hp, Option.bind_some, Option.bind_some, W_id (n := ((o p : Nat) : Int) - 1) (by omega) (by omega), show (p : Int).toNat = p by omega, mapO_drop (by omega), mapO_get hq, Option.bind_some, Option.bind_some, hdq, W_succ (by omega), show (q : Int).toNat = q by omega]
      have e3 : (mapO k (drop1 o p)).set q (((o q + 1 : Nat)) : Int) = mapO k (bump (drop1 o p) q) := by
        rw [← hdq]
        exact mapO_set
      rw [e3]
      have hs1 : sumN (bump (drop1 o p) q) k = sumN o k := by
        have h1 := sumN_bump (o := drop1 o p) (w := q) k
        have h2 := sumN_drop (o := o) (a := p) (by omega) k
        rw [if_pos hq] at h1
        rw [if_pos hp] at h2
        omega
      have hbd : ∀ s, s < k → bump (drop1 o p) q s ≤ 366 := fun s hs => by
        have := ho s hs
        unfold bump drop1
        split <;> split <;> omega
      have hlenB : (mapO k (bump (drop1 o p) q)).length = k := mapO_len k _
      have hs2 := both_say (k := k) (c := c) (o := bump (drop1 o p) q) (rule := rule) (by omega) (fun s hs => by have := hc s hs; omega) hbd hr (by omega)
      rw [unfair_prog (by omega) (by rw [hlen]; omega) (by rw [hlenB]; omega), Option.bind_some, div_prog (by omega) (by rw [hlen]; omega) (by rw [hlenB]; omega), Option.bind_some]
      rcases hs2 with ⟨h1, h2, -⟩ | ⟨h1, h2, -⟩ <;> rw [h1, h2] <;> rfl
end Go.Nilo
