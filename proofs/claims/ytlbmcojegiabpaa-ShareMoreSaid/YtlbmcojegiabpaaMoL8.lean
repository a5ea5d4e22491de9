/-
  What the plain functions compute, in plain arithmetic, part 8. Conditions: what each theorem names.
-/
import Derived.Test.YtlbmcojegiabpaaMoL7
set_option linter.unusedSimpArgs false
set_option linter.unusedVariables false
namespace Go.Nilo
theorem turns_of {N : Nat} (hN : 60 ≤ N) {k : Nat} {g : Nat → Int} (hk : 1 ≤ k ∧ k ≤ 12) (hg : ∀ s, s < k → 1 ≤ g s ∧ g s ≤ 1000000) {days rule : Int} (hd : (k : Int) ≤ days ∧ days ≤ 366) (hdN : days < N) (hr : 0 ≤ rule ∧ rule ≤ 2) :
    ∃ o : Nat → Nat, Fair k g (bN rule) o ∧ (sumN o k : Int) = days ∧ share_Turns N (mapZ k g) days rule = some (mapO k o, 0) := by
  have h0 := chkC_mapZ hk hg
  obtain ⟨o, h1, h2, h3⟩ := turns_prog hN h0 (days := days) (rule := rule) (by omega) hdN hr (by rw [mapZ_len]; omega)
  rw [mapZ_len] at h1 h2 h3
  refine ⟨o, ?_, h2, h3⟩
  intro s t hs ht h4
  have := h1 s t hs ht h4
  unfold ahead at this ⊢
  rw [mapZ_cN hs, mapZ_cN ht] at this
  exact this
theorem claims_g {k : Nat} {g : Nat → Int} (hg : ∀ s, s < k → 1 ≤ g s) {rule : Int} (hr : 0 ≤ rule ∧ rule ≤ 2) : Claims k g (bN rule) := by
  refine ⟨fun s hs => by have := hg s hs; omega, fun n hn => ?_, fun n m hn hm => ?_⟩
  · unfold bN
    rcases askI_cases (n := (n : Int)) hr with ⟨-, h1⟩ | ⟨-, h1⟩ | ⟨-, h1⟩ <;> omega
  · unfold bN
    rcases askI_cases (n := (n : Int)) hr with ⟨h0, h1⟩ | ⟨h0, h1⟩ | ⟨h0, h1⟩ <;> rcases askI_cases (n := (m : Int)) hr with ⟨h2, h3⟩ | ⟨h2, h3⟩ | ⟨h2, h3⟩ <;> omega
theorem many_loop {N : Nat} {k : Nat} {c : Nat → Int} {more : Int} (hm : 0 ≤ more ∧ more ≤ 65535) (hk : k ≤ 12) (hN : 60 ≤ N) (hc : ∀ s, s < k → 1 ≤ c s ∧ c s ≤ 250) :
    loopO (fun s10 : List Int × Int => law09_ShareMore_b10 N more (mapZ k c) s10.1 s10.2) N (mapZ k c, 0) = some (.go (mapZ k (fun s => c s * (1 + more % 9)), (k : Int))) := by
  have h9 : 0 ≤ more % 9 ∧ more % 9 ≤ 8 := by omega
  have := runS (ρ := Bool) (fun i : Nat => (mapZ k (fun s => if s < i then c s * (1 + more % 9) else c s), (i : Int))) k (fun s10 : List Int × Int => law09_ShareMore_b10 N more (mapZ k c) s10.1 s10.2) (fun i hi => by
    have ci := hc i hi
    have hp := mul_bd (a := c i) (b := 1 + more % 9) (A := 250) (B := 9) (by omega) (by omega) (by omega) (by omega)
    show law09_ShareMore_b10 N more (mapZ k c) (mapZ k (fun s => if s < i then c s * (1 + more % 9) else c s)) (i : Int) = _
    unfold law09_ShareMore_b10
    rw [mapZ_len, lt_dec hi, cond_true, mapZ_get hi, Option.bind_some, Option.bind_some, if_neg (Nat.lt_irrefl i), W_id (n := more) (by omega) (by omega), tmod_mod (by omega), W_id (n := 1 + more % 9) (by omega) (by omega), W_id (n := c i * (1 + more % 9)) (by omega) (by omega), W_succ (by omega), show (i : Int).toNat = i by omega, mapZ_set]
    congr 3
    refine mapZ_congr fun s hs => ?_
    unfold putZ
    by_cases hsi : s = i
    · subst hsi
      rw [if_pos rfl, if_pos (by omega)]
    · rw [if_neg hsi]
      show (if s < i then c s * (1 + more % 9) else c s) = _
      by_cases h2 : s < i
      · rw [if_pos h2, if_pos (by omega)]
      · rw [if_neg h2, if_neg (by omega)]) (by
    show law09_ShareMore_b10 N more (mapZ k c) _ (k : Int) = _
    unfold law09_ShareMore_b10
    rw [mapZ_len, ge_dec, cond_false]) (N := N) (by omega)
  have e0 : mapZ k c = mapZ k (fun s => if s < 0 then c s * (1 + more % 9) else c s) := mapZ_congr fun s _ => by rw [if_neg (by omega)]
  have e1 : mapZ k (fun s => c s * (1 + more % 9)) = mapZ k (fun s => if s < k then c s * (1 + more % 9) else c s) := mapZ_congr fun s hs => by rw [if_pos hs]
  rw [e1]
  refine Eq.trans ?_ this
  show loopO _ N (mapZ k c, 0) = loopO _ N (mapZ k (fun s => if s < 0 then c s * (1 + more % 9) else c s), ((0 : Nat) : Int))
  rw [← e0]
  rfl
theorem awake_true : law09_awake 200 = some true := by decide +kernel
theorem more_true {numbers : List Int} (hb : Bytes numbers) {who more : Int} (hw : 0 ≤ who ∧ who ≤ 65535) (hm : 0 ≤ more ∧ more ≤ 65535) (hm' : more ≤ 255) : law09_ShareMore 200 numbers who more = some true := by
  obtain ⟨k, c, days, rule, u, m, hk, hc, hd, hr, hmade⟩ := claimed_made (N := 200) (by omega) hb
  have hcB := claims_g (k := k) (g := c) (fun s hs => (hc s hs).1) hr
  have h9 : 0 ≤ more % 9 ∧ more % 9 ≤ 8 := by omega
  obtain ⟨i, hi, hieq⟩ : ∃ i : Nat, i < k ∧ (W who).tmod ((k : Nat) : Int) = (i : Int) := by
    have hmod : 0 ≤ who % (k : Int) ∧ who % (k : Int) < k := ⟨Int.emod_nonneg _ (by omega), Int.emod_lt_of_pos _ (by omega)⟩
    refine ⟨(who % (k : Int)).toNat, by omega, ?_⟩
    rw [W_id (by omega) (by omega), tmod_mod (by omega)]
    omega
  have ci := hc i hi
  -- the four shares
  obtain ⟨o, f1, f2, f3⟩ := turns_of (N := 200) (by omega) (k := k) (g := c) (by omega) (fun s hs => by have := hc s hs; omega) (days := days) (rule := rule) (by omega) (by omega) hr
  obtain ⟨p, p1, p2, p3⟩ := turns_of (N := 200) (by omega) (k := k) (g := c) (by omega) (fun s hs => by have := hc s hs; omega) (days := days + 1) (rule := rule) (by omega) (by omega) hr
  have hgreat : ∀ s, s < k → 1 ≤ putZ c i (c i + more) s ∧ putZ c i (c i + more) s ≤ 1000000 := fun s hs => by
    have := hc s hs
    unfold putZ
    split <;> omega
  obtain ⟨x, x1, x2, x3⟩ := turns_of (N := 200) (by omega) (k := k) (g := putZ c i (c i + more)) (by omega) hgreat (days := days) (rule := rule) (by omega) (by omega) hr
  have hmany : ∀ s, s < k → 1 ≤ c s * (1 + more % 9) ∧ c s * (1 + more % 9) ≤ 1000000 := fun s hs => by
    have h1 := hc s hs
    have h2 := mul_bd (a := c s) (b := 1 + more % 9) (A := 250) (B := 9) (by omega) (by omega) (by omega) (by omega)
    have h3 : 0 < c s * (1 + more % 9) := Int.mul_pos (by omega) (by omega)
    omega
  obtain ⟨y, y1, y2, y3⟩ := turns_of (N := 200) (by omega) (k := k) (g := fun s => c s * (1 + more % 9)) (by omega) hmany (days := days) (rule := rule) (by omega) (by omega) hr
  have hxk : ∀ s, s < k → s ≠ i → x s ≤ o s := fair_greater hcB (claims_g (fun s hs => (hgreat s hs).1) hr) (i := i) (by unfold putZ; rw [if_pos rfl]; omega) (fun s hs => by unfold putZ; rw [if_neg hs]) f1 x1 (by omega)
  have hxi : o i ≤ x i := sum_le_one hi (by omega) hxk
  have hyo : ∀ s, s < k → y s = o s := fair_uniq hcB (fair_scale (m := 1 + more % 9) (by omega) (fun s _ => rfl) y1) f1 (by omega)
  have hop : ∀ s, s < k → o s ≤ p s := fair_mono hcB f1 p1 (by omega)
  have ho400 : ∀ s, s < k → o s ≤ 400 := fun s hs => by have := sumN_one (o := o) k hs; omega
  have hp400 : ∀ s, s < k → p s ≤ 400 := fun s hs => by have := sumN_one (o := p) k hs; omega
  have hyeq : mapO k y = mapO k o := mapO_congr hyo
  have hcp : ∀ q : List Int, q.length ≤ 1000000 → kit_Copy_int 200 q = some q := by
    intro q hq
    unfold kit_Copy_int
    rw [room_ok hq]
    rfl
  -- the loop over both
  have hpre : ∀ n, n ≤ k → sumN o n ≤ sumN p n := fun n hn => sumN_le n (fun s hs => hop s (by omega))
  have hpsum : ∀ n, n ≤ k → sumN p n ≤ 400 := fun n hn => by
    have : ∀ n d, sumN p n ≤ sumN p (n + d) := by
      intro n d
      induction d with
      | zero => exact Nat.le_refl _
      | succ d ih => rw [← Nat.add_assoc]; show sumN p n ≤ sumN p (n + d) + p (n + d); omega
    have := this n (k - n)
    rw [show n + (k - n) = k by omega] at this
    omega
  have hloop1 := runS (ρ := Bool) (fun n : Nat => (mapO k o, mapO k p, (((sumN p n - sumN o n : Nat)) : Int), (n : Int))) k (fun s19 => law09_ShareMore_b19 200 who (mapZ k c, days, rule, u, m) (mapO k o, 0) (mapO k x, 0) s19.1 s19.2.1 s19.2.2.1 s19.2.2.2) (fun n hn => by
    have h1 := hpre n (by omega)
    have h2 := hpre (n + 1) (by omega)
    have h3 := hop n hn
    have h4 := ho400 n hn
    have h5 := hp400 n hn
    have h6 := hpsum n (by omega)
    show law09_ShareMore_b19 200 who (mapZ k c, days, rule, u, m) (mapO k o, 0) (mapO k x, 0) (mapO k o) (mapO k p) (((sumN p n - sumN o n : Nat)) : Int) (n : Int) = _
    unfold law09_ShareMore_b19
    rw [mapO_len, lt_dec hn, cond_true, mapO_get hn, Option.bind_some, mapO_get hn, Option.bind_some, decide_eq_false (show ¬ ((p n : Nat) : Int) < ((o n : Nat) : Int) by omega), cond_false]
    show Option.bind (Option.bind (cond ((n : Int) != (W who).tmod (((mapZ k c).length : Nat) : Int)) (Option.bind (getI (mapO k x) (n : Int)) _) _) _) _ = _
    rw [mapZ_len, hieq, mapO_get hn, Option.bind_some]
    have hno : cond ((n : Int) != (i : Int)) (some (decide (((o n : Nat) : Int) < ((x n : Nat) : Int)))) (some false) = some false := by
      by_cases hni : n = i
      · subst hni
        rw [bne_self_eq_false, cond_false]
      · have e : ((n : Int) != (i : Int)) = true := by rw [bne_iff_ne]; omega
        have := hxk n hn hni
        rw [e, cond_true, decide_eq_false (by omega)]
    show Option.bind (Option.bind (cond ((n : Int) != (i : Int)) (some (decide (((o n : Nat) : Int) < ((x n : Nat) : Int)))) (some false)) _) _ = _
    rw [hno, Option.bind_some, Option.bind_some, cond_false, Option.bind_some, Option.bind_some, W_succ (by omega), W_id (n := ((p n : Nat) : Int) - ((o n : Nat) : Int)) (by omega) (by omega), W_id (by omega) (by omega)]
    show some (Step.cont (mapO k o, mapO k p, (((sumN p n - sumN o n : Nat)) : Int) + (((p n : Nat) : Int) - ((o n : Nat) : Int)), _)) = some (Step.cont (mapO k o, mapO k p, (((sumN p n + p n - (sumN o n + o n) : Nat)) : Int), _))
    congr 5
    omega) (by
    show law09_ShareMore_b19 200 who (mapZ k c, days, rule, u, m) (mapO k o, 0) (mapO k x, 0) (mapO k o) (mapO k p) _ (k : Int) = _
    unfold law09_ShareMore_b19
    rw [mapO_len, ge_dec, cond_false]) (N := 200) (by omega)
  -- the loop over the parts
  have hA : ∀ n, n ≤ k → (0 ≤ sumZ c n ∧ sumZ c n ≤ 250 * (n : Int)) ∧ (0 < n → 0 < sumZ c n) := by
    intro n
    induction n with
    | zero => intro _; unfold sumZ; omega
    | succ n ih =>
      intro hn
      have := ih (by omega)
      have := hc n (by omega)
      unfold sumZ
      omega
  have hA1 := hA k (Nat.le_refl _)
  have hloop2 := runS (ρ := Bool) (fun n : Nat => (mapZ k c, mapO k o, (n : Int))) k (fun s23 => law09_ShareMore_b23 200 (mapZ k c, days, rule, u, m) (mapO k o) (sumZ c k) s23.1 s23.2.1 s23.2.2) (fun n hn => by
    have cn := hc n hn
    have on := ho400 n hn
    have hpd := mul_bd (a := c n) (b := days) (A := 250) (B := 120) (by omega) (by omega) (by omega) (by omega)
    have hz : nz (sumZ c k) = some () := by unfold nz; rw [if_neg (by omega)]
    have hq0 : 0 ≤ c n * days / sumZ c k := Int.ediv_nonneg hpd.1 (by omega)
    have hq1 := Int.ediv_le_self (b := sumZ c k) hpd.1
    have hq2 : 0 ≤ (c n * days + sumZ c k - 1) / sumZ c k := Int.ediv_nonneg (by omega) (by omega)
    have hq3 := Int.ediv_le_self (b := sumZ c k) (show 0 ≤ c n * days + sumZ c k - 1 by omega)
    show law09_ShareMore_b23 200 (mapZ k c, days, rule, u, m) (mapO k o) (sumZ c k) (mapZ k c) (mapO k o) (n : Int) = _
    unfold law09_ShareMore_b23
    rw [mapO_len, lt_dec hn, cond_true, mapO_get hn, Option.bind_some, mapZ_get hn, Option.bind_some, hz, Option.bind_some, Option.bind_some]
    show Option.bind (cond (rule == 0) (some (decide (((o n : Nat) : Int) < W ((W (c n * days)).tdiv (sumZ c k))))) (some false)) (fun t_4 => Option.bind (cond t_4 (some true) (Option.bind (cond (rule == 2) (some (decide (W ((W ((W ((W (c n * days)) + sumZ c k)) - 1)).tdiv (sumZ c k)) < ((o n : Nat) : Int)))) (some false)) fun t_5 => some t_5)) fun t_6 => _) = _
    rw [W_id (n := c n * days) (by omega) (by omega), tdiv_div hpd.1, W_id (n := c n * days / sumZ c k) (by omega) (by omega), W_id (n := c n * days + sumZ c k) (by omega) (by omega), W_id (n := c n * days + sumZ c k - 1) (by omega) (by omega), tdiv_div (by omega), W_id (n := (c n * days + sumZ c k - 1) / sumZ c k) (by omega) (by omega), W_succ (by omega)]
    have hdn : cond (rule == 0) (some (decide (((o n : Nat) : Int) < c n * days / sumZ c k))) (some false) = some false := by
      by_cases h0 : rule = 0
      · subst h0
        have := down_part (k := k) hcB f1 hn
        rw [f2] at this
        have e : sumZ c k * (((o n : Nat) : Int) + 1) = (((o n : Nat) : Int) + 1) * sumZ c k := Int.mul_comm _ _
        have h2 : c n * days / sumZ c k < ((o n : Nat) : Int) + 1 := Int.ediv_lt_of_lt_mul (by omega) (by omega)
        rw [beq_self_eq_true, cond_true, decide_eq_false (by omega)]
      · have e : (rule == 0) = false := beq_eq_false_iff_ne.2 h0
        rw [e, cond_false]
    have hup : cond (rule == 2) (some (decide ((c n * days + sumZ c k - 1) / sumZ c k < ((o n : Nat) : Int)))) (some false) = some false := by
      by_cases h0 : rule = 2
      · subst h0
        rw [beq_self_eq_true, cond_true, decide_eq_false]
        intro hlt
        have ho1 : 1 ≤ o n := by omega
        have := up_part (k := k) hcB f1 hn ho1
        rw [f2] at this
        have h2 : ((o n : Nat) : Int) ≤ (c n * days + sumZ c k - 1) / sumZ c k := by
          rw [Int.le_ediv_iff_mul_le (by omega)]
          have e : ((o n : Nat) : Int) * sumZ c k = sumZ c k * ((o n : Nat) - 1 : Int) + sumZ c k := by rw [Int.mul_sub, Int.mul_one, Int.mul_comm]; omega
          omega
        omega
      · have e : (rule == 2) = false := beq_eq_false_iff_ne.2 h0
        rw [e, cond_false]
    rw [hdn, Option.bind_some, cond_false, hup]
    rfl) (by
    show law09_ShareMore_b23 200 (mapZ k c, days, rule, u, m) (mapO k o) (sumZ c k) (mapZ k c) (mapO k o) (k : Int) = _
    unfold law09_ShareMore_b23
    rw [mapO_len, ge_dec, cond_false]) (N := 200) (by omega)
  have hnz : nz ((k : Nat) : Int) = some () := by unfold nz; rw [if_neg (by omega)]
  have htot := total_spec (N := 200) (k := k) (g := c) (by omega) (by omega) (fun s hs => by have := hc s hs; omega)
  unfold law09_ShareMore kit_New
  rw [Option.bind_some]
  show Option.bind (law09_Claimed 200 ⟨numbers, 0, 0⟩) _ = _
  rw [hmade, Option.bind_some]
  show Option.bind (share_Turns 200 (mapZ k c) days rule) (fun r_2 => Option.bind (share_Turns 200 (mapZ k c) (W (days + 1)) rule) fun r_3 => Option.bind (nz (((mapZ k c).length : Nat) : Int)) fun _ => Option.bind (kit_Copy_int 200 (mapZ k c)) fun r_4 => Option.bind (kit_Copy_int 200 (mapZ k c)) fun r_5 => Option.bind (getI r_4 ((W who).tmod (((mapZ k c).length : Nat) : Int))) _) = _
  rw [f3, Option.bind_some, W_id (n := days + 1) (by omega) (by omega), p3, Option.bind_some, mapZ_len, hnz, Option.bind_some, hcp _ (by rw [mapZ_len]; omega), Option.bind_some, Option.bind_some, hieq, mapZ_get hi, Option.bind_some, Option.bind_some]
  rw [many_loop hm (by omega) (by omega) hc, Option.bind_some]
  rw [W_id (n := more) (by omega) (by omega), W_id (n := c i + more) (by omega) (by omega), show (i : Int).toNat = i by omega, mapZ_set]
  show Option.bind (share_Turns 200 (mapZ k (putZ c i (c i + more))) days rule) (fun r_6 => Option.bind (share_Turns 200 (mapZ k (fun s => c s * (1 + more % 9))) days rule) _) = _
  rw [x3, Option.bind_some, y3, Option.bind_some, hyeq]
  have hlens : ((((((((mapO k o, (0 : Int)).2 != 0) || ((mapO k p, (0 : Int)).2 != 0)) || ((mapO k x, (0 : Int)).2 != 0)) || ((mapO k o, (0 : Int)).2 != 0)) || ((((mapO k o, (0 : Int)).1.length : Nat) : Int) != ((k : Nat) : Int))) || ((((mapO k p, (0 : Int)).1.length : Nat) : Int) != (((mapO k o, (0 : Int)).1.length : Nat) : Int))) || ((((mapO k x, (0 : Int)).1.length : Nat) : Int) != (((mapO k o, (0 : Int)).1.length : Nat) : Int))) = false := by
    rw [mapO_len, mapO_len, mapO_len]
    simp
  rw [hlens, cond_false]
  show Option.bind (Option.bind (kit_Same_int 200 (mapO k o) (mapO k o)) _) _ = _
  rw [same_int (by rw [mapO_len]; omega) (by rw [mapO_len]; omega), Option.bind_some, Option.bind_some, Bool.not_true, cond_false]
  show Option.bind (Option.bind (getI (mapO k x) (i : Int)) fun e_3 => Option.bind (getI (mapO k o) (i : Int)) fun e_4 => some (decide (e_3 < e_4))) _ = _
  rw [mapO_get hi, Option.bind_some, mapO_get hi, Option.bind_some, decide_eq_false (show ¬ ((x i : Nat) : Int) < ((o i : Nat) : Int) by omega), Option.bind_some, cond_false]
  show Option.bind (loopO _ 200 (mapO k o, mapO k p, (((sumN p 0 - sumN o 0 : Nat)) : Int), ((0 : Nat) : Int))) _ = _
  rw [hloop1, Option.bind_some]
  show Option.bind (law09_total 200 (mapZ k c)) (fun r_9 => Option.bind (loopO (fun s23 => law09_ShareMore_b23 200 (mapZ k c, days, rule, u, m) (mapO k o) r_9 s23.1 s23.2.1 s23.2.2) 200 (mapZ k c, mapO k o, ((0 : Nat) : Int))) _) = _
  rw [htot, Option.bind_some, hloop2, Option.bind_some]
  show Option.bind (cond ((((sumN p k - sumN o k : Nat)) : Int) == 1) (Option.bind (law09_awake 200) fun r_10 => some r_10) (some false)) _ = _
  rw [show (((sumN p k - sumN o k : Nat)) : Int) = 1 by omega, awake_true]
  rfl
end Go.Nilo
