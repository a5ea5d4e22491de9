/-
  What the plain functions compute, in plain arithmetic, part 6. Conditions: what each theorem names.
-/
import Derived.Test.YtpfmkhhhamdpeaaGreatRoL5
set_option linter.unusedSimpArgs false
set_option linter.unusedVariables false
namespace Go.Nilo
theorem scanP {σ ρ : Type} (st : Nat → σ) (g : Nat → Option ρ) (n : Nat) (b : σ → Option (Step σ ρ))
    (hb : ∀ (i : Nat), i < n → (∀ j, j < i → g j = none) → b (st i) = some (match g i with | some r => .ret r | none => .cont (st (i + 1)))) (hend : b (st n) = some (.brk (st n))) :
    ∀ (m i N : Nat), i + m = n → m < N → (∀ j, j < i → g j = none) → loopO b N (st i) = some (match firstG g i m with | some r => .out r | none => .go (st n))
  | m, i, 0, _, h, _ => by omega
  | 0, i, N + 1, hi, _, _ => by
    obtain rfl : i = n := by omega
    unfold loopO
    rw [hend]
    rfl
  | m + 1, i, N + 1, hi, hN, hg => by
    unfold loopO firstG
    rw [hb i (by omega) hg]
    cases hf : g i with
    | some r => rfl
    | none => exact scanP st g n b hb hend m (i + 1) N (by omega) (by omega) (fun j hj => by
        by_cases h : j = i
        · subst h; exact hf
        · exact hg j (by omega))
theorem sum_bd {f : Int → Int} {B : Int} : ∀ {l : List Int}, (∀ n ∈ l, 0 ≤ f n ∧ f n ≤ B) → 0 ≤ sumBy f l ∧ sumBy f l ≤ B * (l.length : Int)
  | [], _ => by simp [sumBy]
  | a :: l, hl => by
    have h1 := sum_bd (f := f) (B := B) (l := l) fun n hn => hl n (List.mem_cons_of_mem _ hn)
    have h2 := hl a List.mem_cons_self
    have e : sumBy f (a :: l) = f a + sumBy f l := by simp [sumBy]
    rw [e, List.length_cons]
    push_cast
    rw [Int.mul_add, Int.mul_one]
    omega
def ovr (m n : Int) : Int := max 0 (n - m)
theorem pay_split (p : crew_Pay) : ∀ l : List Int, sumBy (payT p) l = p.Rate * 1000 * sumBy (fun n => n) l + p.Rate * p.Extra * sumBy (ovr p.Normal) l
  | [] => by simp [sumBy]
  | a :: l => by
    have e (f : Int → Int) : sumBy f (a :: l) = f a + sumBy f l := by simp [sumBy]
    rw [e, e, e, pay_split p l, Int.mul_add, Int.mul_add]
    have : payT p a = p.Rate * 1000 * a + p.Rate * p.Extra * ovr p.Normal a := by
      unfold payT ovr
      rw [Int.mul_add, ← Int.mul_assoc, ← Int.mul_assoc]
    rw [this]
    omega
theorem inB_iff {n a b : Int} : inB n a b = true ↔ a ≤ n ∧ n ≤ b := by simp [inB]
theorem out_inB (n a b : Int) : ref11_outside n a b = !inB n a b := by
  rw [Bool.eq_iff_iff]
  unfold ref11_outside inB
  simp only [Bool.or_eq_true, decide_eq_true_eq, Bool.not_eq_true', Bool.and_eq_false_iff, decide_eq_false_iff_not]
  omega
theorem refpaid_ok {N : Nat} (hN : 400 ≤ N) {p : crew_Pay} (h : PayOk p) {l : List Int} (hn : l.length ≤ 366) : ref11_Paid N p.Rate p.Normal p.Extra l = some (if l.all (fun n => inB n 0 1440) then (paidF p l, 0) else (0, 4)) := by
  obtain ⟨r0, r1, n0, n1, x0, x1⟩ := id h
  unfold ref11_Paid
  have c1 : (((ref11_outside p.Rate 0 10000) || (ref11_outside p.Normal 0 1440)) || (ref11_outside p.Extra 0 1000)) = false := by
    rw [out_inB, out_inB, out_inB, inB_iff.2 ⟨r0, r1⟩, inB_iff.2 ⟨n0, n1⟩, inB_iff.2 ⟨x0, x1⟩]; rfl
  have c2 : decide ((366 : Int) < ((l.length : Nat) : Int)) = false := by simp; omega
  rw [c1, c2, cond_false, cond_false]
  have hpre : ∀ i, i ≤ l.length → (∀ j, j < i → cond (inB (l.getD j 0) 0 1440) none (some ((0 : Int), (4 : Int))) = none) → (0 ≤ sumBy (fun n => n) (l.take i) ∧ sumBy (fun n => n) (l.take i) ≤ 1440 * 366) ∧ (0 ≤ sumBy (ovr p.Normal) (l.take i) ∧ sumBy (ovr p.Normal) (l.take i) ≤ 1440 * 366) := fun i hi hg => by
    have hall : ∀ n ∈ l.take i, 0 ≤ n ∧ n ≤ 1440 := fun n hm => by
      obtain ⟨j, hj, rfl⟩ := List.getElem_of_mem hm
      rw [List.length_take] at hj
      have := hg j (by omega)
      rw [List.getElem_take, get_getD (d := (0 : Int)) (by omega)]
      cases hb : inB (l.getD j 0) 0 1440 with
      | true => exact inB_iff.1 hb
      | false => rw [hb] at this; cases this
    have a1 := sum_bd (f := fun n => n) (B := 1440) (l := l.take i) hall
    have a2 := sum_bd (f := ovr p.Normal) (B := 1440) (l := l.take i) fun n hm => by have := hall n hm; unfold ovr; omega
    rw [List.length_take] at a1 a2
    omega
  have hs := scanP (ρ := Int × Int) (fun i : Nat => (sumBy (fun n => n) (l.take i), sumBy (ovr p.Normal) (l.take i), (i : Int))) (fun j => cond (inB (l.getD j 0) 0 1440) none (some (0, 4))) l.length (fun s11 => ref11_Paid_b11 N p.Normal l s11.1 s11.2.1 s11.2.2) (fun i hi hg => by
    obtain ⟨a1, a2⟩ := hpre i (by omega) hg
    show ref11_Paid_b11 N p.Normal l (sumBy (fun n => n) (l.take i)) (sumBy (ovr p.Normal) (l.take i)) (i : Int) = _
    unfold ref11_Paid_b11
    rw [lt_dec hi, cond_true, getI_nat hi, Option.bind_some, out_inB, get_getD (d := (0 : Int)) hi]
    cases hb : inB (l.getD i 0) 0 1440 with
    | false => rfl
    | true =>
      have hx := inB_iff.1 hb
      simp only [Bool.not_true, cond_false, cond_true, Option.bind_some, W_succ (show i < 9223372036854775807 by omega), sumBy_take _ _ _ hi, get_getD (d := (0 : Int)) hi]
      have w1 : W (sumBy (fun n => n) (l.take i) + l.getD i 0) = sumBy (fun n => n) (l.take i) + l.getD i 0 := W_id (by omega) (by omega)
      have w2 : W (W (sumBy (ovr p.Normal) (l.take i) + l.getD i 0) - p.Normal) = sumBy (ovr p.Normal) (l.take i) + l.getD i 0 - p.Normal := by
        rw [W_id (n := sumBy (ovr p.Normal) (l.take i) + l.getD i 0) (by omega) (by omega), W_id (by omega) (by omega)]
      unfold ref11_Paid_j19
      rw [w1, w2, W_succ (show i < 9223372036854775807 by omega)]
      by_cases hc : p.Normal < l.getD i 0
      · rw [decide_eq_true hc, cond_true, show ovr p.Normal (l.getD i 0) = l.getD i 0 - p.Normal by unfold ovr; omega, Int.add_sub_assoc]
      · rw [decide_eq_false hc, cond_false, show ovr p.Normal (l.getD i 0) = 0 by unfold ovr; omega, Int.add_zero]) (by
    show ref11_Paid_b11 N p.Normal l _ _ _ = _
    unfold ref11_Paid_b11
    rw [ge_dec, cond_false]) l.length 0 N (by omega) (by omega) (fun j hj => by omega)
  have e0 : ((0 : Int), (0 : Int), (0 : Int)) = (sumBy (fun n => n) (l.take 0), sumBy (ovr p.Normal) (l.take 0), ((0 : Nat) : Int)) := by simp [sumBy]
  rw [e0, hs, all_first (p := fun n => inB n 0 1440) l.length 0 (by omega), List.drop_zero]
  cases hb : l.all (fun n => inB n 0 1440) with
  | false => rfl
  | true =>
    obtain ⟨a1, a2⟩ := hpre l.length (Nat.le_refl _) (fun j hj => by
      have := List.all_eq_true.1 hb _ (List.getElem_mem hj)
      rw [get_getD (d := (0 : Int)) hj] at this
      rw [this]; rfl)
    rw [List.take_length] at a1 a2
    simp only [cond_true, Option.bind_some, exK, if_true, List.take_length]
    have m1 := mul_bd (a := p.Rate * 1000) (b := sumBy (fun n => n) l) (by omega) a1.1 (A := 10000000) (B := 527040) (by omega) (by omega)
    have m2 := mul_bd (a := p.Rate) (b := p.Extra) r0 x0 r1 x1
    have m3 := mul_bd (a := p.Rate * p.Extra) (b := sumBy (ovr p.Normal) l) m2.1 a2.1 (A := 10000000) (B := 527040) (by omega) (by omega)
    have w1 : W (p.Rate * 1000) = p.Rate * 1000 := W_id (by omega) (by omega)
    have w2 : W (p.Rate * p.Extra) = p.Rate * p.Extra := W_id (by omega) (by omega)
    have w3 : W (p.Rate * 1000 * sumBy (fun n => n) l) = p.Rate * 1000 * sumBy (fun n => n) l := W_id (by omega) (by omega)
    have w4 : W (p.Rate * p.Extra * sumBy (ovr p.Normal) l) = p.Rate * p.Extra * sumBy (ovr p.Normal) l := W_id (by omega) (by omega)
    have w5 : W (p.Rate * 1000 * sumBy (fun n => n) l + p.Rate * p.Extra * sumBy (ovr p.Normal) l) = sumBy (payT p) l := by
      rw [pay_split, W_id (by omega) (by omega)]
    have hb2 : 0 ≤ sumBy (payT p) l ∧ sumBy (payT p) l ≤ 20000000000000 := by rw [pay_split]; omega
    simp only [w1, w2, w3, w4, w5, tdiv_div hb2.1]
    have w6 : W (sumBy (payT p) l / 60000) = sumBy (payT p) l / 60000 := W_id (by omega) (by omega)
    have w7 : W (sumBy (payT p) l / 60000 * 60000) = sumBy (payT p) l / 60000 * 60000 := W_id (by omega) (by omega)
    have w8 : W (sumBy (payT p) l / 60000 + 1) = sumBy (payT p) l / 60000 + 1 := W_id (by omega) (by omega)
    simp only [w6, w7, w8]
    unfold ref11_Paid_j14 paidF
    by_cases hc : sumBy (payT p) l / 60000 * 60000 < sumBy (payT p) l
    · rw [decide_eq_true hc, cond_true, show (sumBy (payT p) l + 59999) / 60000 = sumBy (payT p) l / 60000 + 1 by omega]
    · rw [decide_eq_false hc, cond_false, show (sumBy (payT p) l + 59999) / 60000 = sumBy (payT p) l / 60000 by omega]
theorem paid_same {N : Nat} (hN : 400 ≤ N) (p : crew_Pay) {l : List Int} (hl : l.length ≤ 370) : ∃ r, crew_Paid N p l = some r ∧ ref11_Paid N p.Rate p.Normal p.Extra l = some r := by
  by_cases h : PayOk p
  · by_cases hn : l.length ≤ 366
    · refine ⟨_, ?_, refpaid_ok hN h hn⟩
      cases hb : l.all (fun n => inB n 0 1440) with
      | true => exact paid_ok h (fun n hm => inB_iff.1 (List.all_eq_true.1 hb n hm)) hn hN
      | false =>
        obtain ⟨r0, r1, n0, n1, e0, e1⟩ := h
        unfold crew_Paid
        have c1 : ((!(crew_in p.Rate 0 10000)) || (!(crew_in p.Normal 0 1440)) || (!(crew_in p.Extra 0 1000))) = false := by
          simp [crew_in, r0, r1, n0, n1, e0, e1]
        have c2 : decide ((366 : Int) < ((l.length : Nat) : Int)) = false := by simp; omega
        have c3 : crew_every_int_s4 N l = some (l.all fun n => inB n 0 1440) := by
          unfold crew_every_int_s4 slices_ContainsFunc_Lint_int_s5 slices_IndexFunc_Lint_int_s7
          exact every_gen (f := crew_every_int_1_s4) (ok := fun n => inB n 0 1440) (fun x => rfl) (by omega) (by omega) _ (fun x => rfl)
        rw [c1, c2, c3, hb]
        rfl
    · refine ⟨(0, 3), ?_, ?_⟩
      · obtain ⟨r0, r1, n0, n1, e0, e1⟩ := h
        unfold crew_Paid
        have c1 : ((!(crew_in p.Rate 0 10000)) || (!(crew_in p.Normal 0 1440)) || (!(crew_in p.Extra 0 1000))) = false := by
          simp [crew_in, r0, r1, n0, n1, e0, e1]
        have c2 : decide ((366 : Int) < ((l.length : Nat) : Int)) = true := by simp; omega
        rw [c1, c2]
        rfl
      · obtain ⟨r0, r1, n0, n1, x0, x1⟩ := h
        unfold ref11_Paid
        have c1 : (((ref11_outside p.Rate 0 10000) || (ref11_outside p.Normal 0 1440)) || (ref11_outside p.Extra 0 1000)) = false := by
          rw [out_inB, out_inB, out_inB, inB_iff.2 ⟨r0, r1⟩, inB_iff.2 ⟨n0, n1⟩, inB_iff.2 ⟨x0, x1⟩]; rfl
        have c2 : decide ((366 : Int) < ((l.length : Nat) : Int)) = true := by simp; omega
        rw [c1, c2]
        rfl
  · have c : (((!(inB p.Rate 0 10000)) || (!(inB p.Normal 0 1440))) || (!(inB p.Extra 0 1000))) = true := by
      rw [← Bool.not_eq_false]
      intro e
      apply h
      simp only [Bool.or_eq_false_iff, Bool.not_eq_false', inB_iff] at e
      exact ⟨e.1.1.1, e.1.1.2, e.1.2.1, e.1.2.2, e.2.1, e.2.2⟩
    refine ⟨(0, 120), ?_, ?_⟩
    · unfold crew_Paid
      have : ((!(crew_in p.Rate 0 10000)) || (!(crew_in p.Normal 0 1440)) || (!(crew_in p.Extra 0 1000))) = true := c
      rw [this]
      rfl
    · unfold ref11_Paid
      rw [out_inB, out_inB, out_inB, c]
      rfl
theorem rounds_same {N : Nat} (hN : 101 ≤ N) {l : List crew_Visit} (hl : l.length ≤ 25) (start : Int) :
    (∃ h e, h.length ≤ 20 ∧ crew_Hours N start l = some (h, e) ∧ ref11_Hours N start (l.map rv) = some (h, e)) ∧ (∃ r, crew_Late N start l = some r ∧ ref11_Late N start (l.map rv) = some r) ∧ (∃ r, crew_Latest N l = some r ∧ ref11_Latest N (l.map rv) = some r) := by
  by_cases h : rndCode l = 0
  · refine ⟨?_, ?_, ⟨_, latest_ok (by omega) h, reflatest_ok hN h⟩⟩
    all_goals by_cases hs : 0 ≤ start ∧ start ≤ 100000
    · obtain ⟨hn, hv⟩ := rnd_zero h
      exact ⟨_, _, by rw [hrs_len]; exact hn.2, hours_ok (by omega) hv hn hs.1 hs.2, refhours_ok hN hv hn hs.1 hs.2⟩
    · exact ⟨_, _, by simp, hours_range (by omega) h hs, refhours_range hN h hs⟩
    · obtain ⟨hn, hv⟩ := rnd_zero h
      exact ⟨_, late_ok (by omega) hv hn hs.1 hs.2, reflate_ok hN hv hn hs.1 hs.2⟩
    · exact ⟨_, late_bad (by omega) (hours_range (by omega) h hs) (refhours_range hN h hs)⟩
  · have a := hours_code (N := N) (start := start) (l := l) (by omega) (by omega) h
    have b := refhours_code (N := N) (start := start) (l := l) (by omega) hN h
    exact ⟨⟨_, _, by simp, a, b⟩, ⟨_, late_bad h a b⟩, ⟨_, latest_code (by omega) hN h⟩⟩
theorem same_span {N : Nat} {l : List api_Span} (hl : l.length ≤ 1000) (hN : l.length < N) : kit_Same_api_Span N l l = some true := by
  unfold kit_Same_api_Span
  rw [bne_self_eq_false, cond_false, sameLoop l (by omega) (fun s7 => kit_Same_api_Span_b7 N l l s7) (fun i hi => by
    unfold kit_Same_api_Span_b7
    simp only [lt_dec hi, cond_true, getI_nat hi, Option.bind_some, beq_self_eq_true, Bool.and_self, Bool.not_true, cond_false]
    rw [W_succ (by omega)]) (by
    unfold kit_Same_api_Span_b7
    rw [ge_dec]; rfl) hN]
  rfl
theorem same_visit {N : Nat} {l : List crew_Visit} (hl : l.length ≤ 1000) (hN : l.length < N) : kit_Same_crew_Visit N l l = some true := by
  unfold kit_Same_crew_Visit
  rw [bne_self_eq_false, cond_false, sameLoop l (by omega) (fun s7 => kit_Same_crew_Visit_b7 N l l s7) (fun i hi => by
    unfold kit_Same_crew_Visit_b7
    simp only [lt_dec hi, cond_true, getI_nat hi, Option.bind_some, beq_self_eq_true, Bool.and_self, Bool.not_true, cond_false]
    rw [W_succ (by omega)]) (by
    unfold kit_Same_crew_Visit_b7
    rw [ge_dec]; rfl) hN]
  rfl
theorem same_int {N : Nat} {l : List Int} (hl : l.length ≤ 1000) (hN : l.length < N) : kit_Same_int N l l = some true := by
  unfold kit_Same_int
  rw [bne_self_eq_false, cond_false, sameLoop l (by omega) (fun s7 => kit_Same_int_b7 N l l s7) (fun i hi => by
    unfold kit_Same_int_b7
    simp only [lt_dec hi, cond_true, getI_nat hi, Option.bind_some, bne_self_eq_false, cond_false]
    rw [W_succ (by omega)]) (by
    unfold kit_Same_int_b7
    rw [ge_dec]; rfl) hN]
  rfl
theorem crewrounds_law (start : Int) (l : List crew_Visit) (p : crew_Pay) (minutes : List Int) : law11_CrewRounds 700 start l p minutes = some true := by
  unfold law11_CrewRounds
  have haw : (Option.bind (law11_awake 700) fun r => some r) = some true := by rw [awake_true]; rfl
  by_cases h : l.length ≤ 25 ∧ minutes.length ≤ 370
  · have c : ((decide (25 < ((l.length : Nat) : Int))) || (decide (370 < ((minutes.length : Nat) : Int)))) = false := by
      rw [Bool.or_eq_false_iff, decide_eq_false_iff_not, decide_eq_false_iff_not]; omega
    have k1 : kit_Copy_crew_Visit 700 l = some l := by unfold kit_Copy_crew_Visit; rw [room_ok (by omega)]; rfl
    have k2 : kit_Copy_int 700 minutes = some minutes := by unfold kit_Copy_int; rw [room_ok (by omega)]; rfl
    obtain ⟨⟨h1, e1, hh, a1, a2⟩, ⟨⟨x1, x2, x3⟩, b1, b2⟩, ⟨⟨y1, y2⟩, c1, c2⟩⟩ := rounds_same (N := 700) (by omega) h.1 start
    obtain ⟨⟨z1, z2⟩, d1, d2⟩ := paid_same (N := 700) (by omega) p h.2
    rw [c, cond_false, k1, Option.bind_some, k2, Option.bind_some, a1, Option.bind_some, visits_ok (by omega) (by omega), Option.bind_some, a2, Option.bind_some, same_span (l := h1) (by omega) (by omega), Option.bind_some]
    simp only [b1, b2, c1, c2, d1, d2, Option.bind_some, Bool.not_true, bne_self_eq_false, Bool.or_self, cond_false, beq_self_eq_true, Bool.and_self, cond_true, same_visit (show l.length ≤ 1000 by omega) (show l.length < 700 by omega), same_int (show minutes.length ≤ 1000 by omega) (show minutes.length < 700 by omega), awake_true]
  · have c : ((decide (25 < ((l.length : Nat) : Int))) || (decide (370 < ((minutes.length : Nat) : Int)))) = true := by
      rw [Bool.or_eq_true, decide_eq_true_eq, decide_eq_true_eq]; omega
    rw [c, cond_true]
    exact haw
end Go.Nilo
