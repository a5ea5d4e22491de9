/-
  What the plain functions compute, in plain arithmetic, part 3. Conditions: what each theorem names.
-/
import Derived.Test.YtlbmcojegiabpaaTnL2
set_option linter.unusedSimpArgs false
set_option linter.unusedVariables false
namespace Go.Nilo
theorem loop_congr {σ ρ : Type} {f g : σ → Option (Step σ ρ)} (Inv : σ → Prop) (h : ∀ s, Inv s → f s = g s) (hp : ∀ s s', Inv s → g s = some (.cont s') → Inv s') : ∀ (N : Nat) (s : σ), Inv s → loopO f N s = loopO g N s
  | 0, _, _ => rfl
  | N + 1, s, hs => by
    unfold loopO
    rw [h s hs]
    cases hg : g s with
    | none => rfl
    | some x =>
      cases x with
      | cont s' => exact loop_congr Inv h hp N s' (hp s s' hs hg)
      | brk s' => rfl
      | ret r => rfl
theorem loop_go {σ ρ : Type} {f : σ → Option (Step σ ρ)} (Inv : σ → Prop) (μ : σ → Nat) (h : ∀ s, Inv s → (∃ s', f s = some (.brk s') ∧ Inv s') ∨ (∃ s', f s = some (.cont s') ∧ Inv s' ∧ μ s' < μ s)) : ∀ (N : Nat) (s : σ), Inv s → μ s < N → ∃ s', loopO f N s = some (.go s') ∧ Inv s'
  | 0, s, _, hN => by omega
  | N + 1, s, hs, hN => by
    unfold loopO
    rcases h s hs with ⟨s', h1, h2⟩ | ⟨s', h1, h2, h3⟩
    · exact ⟨s', by rw [h1], h2⟩
    · obtain ⟨s'', h4, h5⟩ := loop_go Inv μ h N s' h2 (by omega)
      exact ⟨s'', by rw [h1]; exact h4, h5⟩

theorem ceil_two {d p : Int} (hp : 0 < p) : (d + p - 1) / p = if d / p * p < d then d / p + 1 else d / p := by
  have hq := Int.mul_ediv_add_emod d p
  have h0 := Int.emod_nonneg d (show p ≠ 0 by omega)
  have h1 := Int.emod_lt_of_pos d hp
  have hc : p * (d / p) = d / p * p := Int.mul_comm _ _
  generalize d % p = r at *
  generalize hqq : d / p = q at *
  by_cases hr : r = 0
  · rw [if_neg (by omega)]
    have e : d + p - 1 = p - 1 + q * p := by omega
    rw [e, Int.add_mul_ediv_right _ _ (by omega), Int.ediv_eq_zero_of_lt (by omega) (by omega)]
    omega
  · rw [if_pos (by omega)]
    have e : d + p - 1 = r - 1 + (q + 1) * p := by rw [Int.add_mul, Int.one_mul]; omega
    rw [e, Int.add_mul_ediv_right _ _ (by omega), Int.ediv_eq_zero_of_lt (by omega) (by omega)]
    omega

structure POk (p : share_Pact) : Prop where
  l : 1 ≤ p.Least ∧ p.Least ≤ 1000000000
  q : 1 ≤ p.Part ∧ p.Part ≤ 100
  n : p.Can.length ≤ 40
  c : ∀ i, i < p.Can.length → 0 ≤ p.Can.getD i 0 ∧ p.Can.getD i 0 ≤ 1000000000
def PInv (p : share_Pact) (s : Int × List Int × Int) : Prop := 0 ≤ s.1 ∧ s.1 ≤ 1000000000 ∧ 0 ≤ s.2.2 ∧ s.2.2 ≤ p.Can.length ∧ (s.2.1.length : Int) = s.2.2
def payN (p : share_Pact) (d e : Int) : Int := min (min d e) (max p.Least ((d + p.Part - 1) / p.Part))
theorem pay_prog {N : Nat} {p : share_Pact} (hp : POk p) {d x : Int} {o : List Int} (h : PInv p (d, o, x)) (hx : x < p.Can.length) (hd : d ≠ 0) :
    share_Payback_b12 N p d o x = some (.cont (d - payN p d (p.Can.getD x.toNat 0), o ++ [payN p d (p.Can.getD x.toNat 0)], x + 1)) := by
  obtain ⟨h1, h2, h3, h4, h5⟩ := h
  simp only at h1 h2 h3 h4 h5
  have hpp := hp.q
  have hpl := hp.l
  have hpn := hp.n
  have he := hp.c x.toNat (by omega)
  have hg : getI p.Can x = some (p.Can.getD x.toNat 0) := by
    have : x = (x.toNat : Int) := by omega
    rw [this, getI_nat (by omega), get_getD (d := (0 : Int)) (by omega)]
    rfl
  have hq0 : 0 ≤ (d + p.Part - 1) / p.Part := Int.ediv_nonneg (by omega) (by omega)
  have hq1 : (d + p.Part - 1) / p.Part ≤ d + p.Part - 1 := Int.ediv_le_self _ (by omega)
  have hz : nz p.Part = some () := by unfold nz; rw [if_neg (by omega)]
  have hdx : decide (x < ((p.Can.length : Nat) : Int)) = true := by rw [decide_eq_true_eq]; exact hx
  have hdd : (d == 0) = false := by rw [beq_eq_false_iff_ne]; exact hd
  unfold share_Payback_b12
  rw [hdx, cond_true, hg, Option.bind_some, hdd, cond_false, hz, Option.bind_some, W_id (n := d + p.Part) (by omega) (by omega), W_id (n := d + p.Part - 1) (by omega) (by omega), tdiv_div (by omega), W_id (n := (d + p.Part - 1) / p.Part) (by omega) (by omega)]
  show Option.bind (room (o ++ [payN p d (p.Can.getD x.toNat 0)]).length) (fun _ => some (Step.cont (W (d - payN p d (p.Can.getD x.toNat 0)), o ++ [payN p d (p.Can.getD x.toNat 0)], W (x + 1)))) = _
  have hn : 0 ≤ payN p d (p.Can.getD x.toNat 0) ∧ payN p d (p.Can.getD x.toNat 0) ≤ d := by unfold payN; omega
  rw [room_ok (by simp; omega), Option.bind_some, W_id (n := d - payN p d (p.Can.getD x.toNat 0)) (by omega) (by omega), W_id (n := x + 1) (by omega) (by omega)]
theorem pay_ref {N : Nat} {p : share_Pact} (hp : POk p) {d x : Int} {o : List Int} (h : PInv p (d, o, x)) (hx : x < p.Can.length) (hd : d ≠ 0) :
    ref09_Payback_b17 N p.Least p.Part p.Can d o x = some (.cont (d - payN p d (p.Can.getD x.toNat 0), o ++ [payN p d (p.Can.getD x.toNat 0)], x + 1)) := by
  obtain ⟨h1, h2, h3, h4, h5⟩ := h
  simp only at h1 h2 h3 h4 h5
  have hpp := hp.q
  have hpl := hp.l
  have hpn := hp.n
  have he := hp.c x.toNat (by omega)
  have hg : getI p.Can x = some (p.Can.getD x.toNat 0) := by
    have : x = (x.toNat : Int) := by omega
    rw [this, getI_nat (by omega), get_getD (d := (0 : Int)) (by omega)]
    rfl
  have hq0 : 0 ≤ d / p.Part := Int.ediv_nonneg (by omega) (by omega)
  have hq1 : d / p.Part ≤ d := Int.ediv_le_self _ (by omega)
  have hq2 := Int.ediv_mul_le d (show p.Part ≠ 0 by omega)
  have hq3 : 0 ≤ d / p.Part * p.Part := Int.mul_nonneg hq0 (by omega)
  have hz : nz p.Part = some () := by unfold nz; rw [if_neg (by omega)]
  have hdx : (decide (x < ((p.Can.length : Nat) : Int)) && decide (0 < d)) = true := by
    simp only [Bool.and_eq_true, decide_eq_true_eq]
    omega
  have hn : 0 ≤ payN p d (p.Can.getD x.toNat 0) ∧ payN p d (p.Can.getD x.toNat 0) ≤ d := by
    have : 0 ≤ (d + p.Part - 1) / p.Part := Int.ediv_nonneg (by omega) (by omega)
    unfold payN
    omega
  have j29 : ∀ n, n = payN p d (p.Can.getD x.toNat 0) → ref09_Payback_j29 N d o x n = some (.cont (d - payN p d (p.Can.getD x.toNat 0), o ++ [payN p d (p.Can.getD x.toNat 0)], x + 1)) := by
    intro n hnn
    subst hnn
    unfold ref09_Payback_j29
    rw [room_ok (by simp; omega), Option.bind_some, W_id (n := d - payN p d (p.Can.getD x.toNat 0)) (by omega) (by omega), W_id (n := x + 1) (by omega) (by omega)]
  have j28 : ∀ n, min n d = payN p d (p.Can.getD x.toNat 0) → ref09_Payback_j28 N d o x n = some (.cont (d - payN p d (p.Can.getD x.toNat 0), o ++ [payN p d (p.Can.getD x.toNat 0)], x + 1)) := by
    intro n hnn
    unfold ref09_Payback_j28
    by_cases hlt : d < n
    · rw [show decide (d < n) = true from decide_eq_true hlt, cond_true, j29 d (by omega)]
    · rw [show decide (d < n) = false from decide_eq_false hlt, cond_false, j29 n (by omega)]
  have j27 : ∀ n, min (min n (p.Can.getD x.toNat 0)) d = payN p d (p.Can.getD x.toNat 0) → ref09_Payback_j27 N p.Can d o x n = some (.cont (d - payN p d (p.Can.getD x.toNat 0), o ++ [payN p d (p.Can.getD x.toNat 0)], x + 1)) := by
    intro n hnn
    unfold ref09_Payback_j27
    rw [hg, Option.bind_some, Option.bind_some]
    by_cases hlt : p.Can.getD x.toNat 0 < n
    · rw [show decide (p.Can.getD x.toNat 0 < n) = true from decide_eq_true hlt, cond_true, j28 _ (by omega)]
    · rw [show decide (p.Can.getD x.toNat 0 < n) = false from decide_eq_false hlt, cond_false, j28 n (by omega)]
  have j26 : ∀ n, min (min (max n p.Least) (p.Can.getD x.toNat 0)) d = payN p d (p.Can.getD x.toNat 0) → ref09_Payback_j26 N p.Least p.Can d o x n = some (.cont (d - payN p d (p.Can.getD x.toNat 0), o ++ [payN p d (p.Can.getD x.toNat 0)], x + 1)) := by
    intro n hnn
    unfold ref09_Payback_j26
    by_cases hlt : n < p.Least
    · rw [show decide (n < p.Least) = true from decide_eq_true hlt, cond_true, j27 _ (by omega)]
    · rw [show decide (n < p.Least) = false from decide_eq_false hlt, cond_false, j27 n (by omega)]
  have hce := ceil_two (d := d) (p := p.Part) (by omega)
  unfold ref09_Payback_b17
  rw [hdx, cond_true, hz, Option.bind_some, tdiv_div (by omega), W_id (n := d / p.Part) (by omega) (by omega), W_id (n := d / p.Part * p.Part) (by omega) (by omega), W_id (n := d / p.Part + 1) (by omega) (by omega)]
  by_cases hlt : d / p.Part * p.Part < d
  · rw [if_pos hlt] at hce
    rw [show decide (d / p.Part * p.Part < d) = true from decide_eq_true hlt, cond_true, j26 _ (by unfold payN; rw [hce]; omega)]
  · rw [if_neg hlt] at hce
    rw [show decide (d / p.Part * p.Part < d) = false from decide_eq_false hlt, cond_false, j26 _ (by unfold payN; rw [hce]; omega)]
theorem pay_same {N : Nat} {p : share_Pact} (hp : POk p) (s : Int × List Int × Int) (h : PInv p s) : share_Payback_b12 N p s.1 s.2.1 s.2.2 = ref09_Payback_b17 N p.Least p.Part p.Can s.1 s.2.1 s.2.2 := by
  obtain ⟨d, o, x⟩ := s
  have hh := h
  obtain ⟨h1, h2, h3, h4, h5⟩ := hh
  simp only at h1 h2 h3 h4 h5
  by_cases hx : x < p.Can.length
  · by_cases hd : d = 0
    · subst hd
      have hg : getI p.Can x = some (p.Can.getD x.toNat 0) := by
        have : x = (x.toNat : Int) := by omega
        rw [this, getI_nat (by omega), get_getD (d := (0 : Int)) (by omega)]
        rfl
      show share_Payback_b12 N p 0 o x = ref09_Payback_b17 N p.Least p.Part p.Can 0 o x
      unfold share_Payback_b12 ref09_Payback_b17
      rw [show decide (x < ((p.Can.length : Nat) : Int)) = true from decide_eq_true hx, hg]
      rfl
    · exact (pay_prog hp h hx hd).trans (pay_ref hp h hx hd).symm
  · show share_Payback_b12 N p d o x = ref09_Payback_b17 N p.Least p.Part p.Can d o x
    unfold share_Payback_b12 ref09_Payback_b17
    rw [show decide (x < ((p.Can.length : Nat) : Int)) = false from decide_eq_false hx]
    rfl
theorem pay_step {N : Nat} {p : share_Pact} (hp : POk p) (s : Int × List Int × Int) (h : PInv p s) :
    (∃ s', share_Payback_b12 N p s.1 s.2.1 s.2.2 = some (.brk s') ∧ PInv p s') ∨ (∃ s', share_Payback_b12 N p s.1 s.2.1 s.2.2 = some (.cont s') ∧ PInv p s' ∧ (p.Can.length - s'.2.2).toNat < (p.Can.length - s.2.2).toNat) := by
  obtain ⟨d, o, x⟩ := s
  have hh := h
  obtain ⟨h1, h2, h3, h4, h5⟩ := hh
  simp only at h1 h2 h3 h4 h5
  by_cases hx : x < p.Can.length
  · by_cases hd : d = 0
    · subst hd
      have hg : getI p.Can x = some (p.Can.getD x.toNat 0) := by
        have : x = (x.toNat : Int) := by omega
        rw [this, getI_nat (by omega), get_getD (d := (0 : Int)) (by omega)]
        rfl
      left
      refine ⟨(0, o, x), ?_, h⟩
      show share_Payback_b12 N p 0 o x = _
      unfold share_Payback_b12
      rw [show decide (x < ((p.Can.length : Nat) : Int)) = true from decide_eq_true hx, hg]
      rfl
    · right
      refine ⟨_, pay_prog hp h hx hd, ?_, ?_⟩
      · have hc := hp.c x.toNat (by omega)
        have hpp := hp.q
        have hpl := hp.l
        have : 0 ≤ (d + p.Part - 1) / p.Part := Int.ediv_nonneg (by omega) (by omega)
        have hn : 0 ≤ payN p d (p.Can.getD x.toNat 0) ∧ payN p d (p.Can.getD x.toNat 0) ≤ d := by unfold payN; omega
        refine ⟨by simp only; omega, by simp only; omega, by simp only; omega, by simp only; omega, by simp only [List.length_append, List.length_cons, List.length_nil]; omega⟩
      · simp only
        omega
  · left
    refine ⟨(d, o, x), ?_, h⟩
    show share_Payback_b12 N p d o x = _
    unfold share_Payback_b12
    rw [show decide (x < ((p.Can.length : Nat) : Int)) = false from decide_eq_false hx]
    rfl
theorem payback_same {N : Nat} (hN : 60 ≤ N) {debt : Int} {p : share_Pact} (hl : p.Can.length ≤ 45) : ∃ r, share_Payback N debt p = some r ∧ ref09_Payback N debt p.Least p.Part p.Can = some r ∧ r.1.length ≤ 45 := by
  unfold share_Payback ref09_Payback
  rw [outside_not, outside_not, outside_not]
  have ed : share_water debt = inB debt 0 1000000000 := rfl
  have el : share_in p.Least 1 1000000000 = inB p.Least 1 1000000000 := rfl
  have ep : share_in p.Part 1 100 = inB p.Part 1 100 := rfl
  rw [ed, el, ep]
  cases hd : inB debt 0 1000000000 with
  | false => exact ⟨([], 4), rfl, rfl, by simp⟩
  | true =>
    rw [Bool.not_true, cond_false, cond_false]
    by_cases h40 : p.Can.length ≤ 40
    · rw [show decide (40 < ((p.Can.length : Nat) : Int)) = false from decide_eq_false (by omega), cond_false, cond_false]
      cases hlp : (!inB p.Least 1 1000000000 || !inB p.Part 1 100) with
      | true => exact ⟨([], 100), rfl, rfl, by simp⟩
      | false =>
        rw [cond_false, cond_false, every_water (by omega) (by omega), Option.bind_some, Option.bind_some,
          ref_all (ok := fun x => inB x 0 1000000000) (v := (([] : List Int), (100 : Int))) (fun x => outside_not x 0 1000000000) (by omega) (by omega) (fun s13 => ref09_Payback_b13 N p.Can s13) (fun x => rfl)]
        cases ha : p.Can.all fun x => inB x 0 1000000000 with
        | false => exact ⟨([], 100), rfl, rfl, by simp⟩
        | true =>
          have hp : POk p := by
            unfold inB at hlp
            simp only [Bool.or_eq_false_iff, Bool.not_eq_false', Bool.and_eq_true, decide_eq_true_eq] at hlp
            exact ⟨hlp.1, hlp.2, h40, fun i hi => all_in ha hi⟩
          have hi : PInv p (debt, [], 0) := by
            unfold inB at hd
            simp only [Bool.and_eq_true, decide_eq_true_eq] at hd
            exact ⟨hd.1, hd.2, by simp only; omega, by simp only; omega, rfl⟩
          obtain ⟨s', h1, h2⟩ := loop_go (f := fun s12 : Int × List Int × Int => share_Payback_b12 N p s12.1 s12.2.1 s12.2.2) (PInv p) (fun s => (p.Can.length - s.2.2).toNat) (pay_step hp) N (debt, [], 0) hi (by simp only; omega)
          have h3 := loop_congr (f := fun s12 : Int × List Int × Int => share_Payback_b12 N p s12.1 s12.2.1 s12.2.2) (g := fun s17 : Int × List Int × Int => ref09_Payback_b17 N p.Least p.Part p.Can s17.1 s17.2.1 s17.2.2) (PInv p) (pay_same hp) (fun s s' hs hg => by
            rw [← pay_same hp s hs] at hg
            rcases pay_step (N := N) hp s hs with ⟨s2, h4, -⟩ | ⟨s2, h4, h5, -⟩
            · rw [h4] at hg; cases hg
            · rw [h4] at hg; cases hg; exact h5) N (debt, [], 0) hi
          rw [h1] at h3
          rw [h1]
          obtain ⟨-, -, -, h6, h7⟩ := h2
          refine ⟨cond (decide (0 < s'.1)) (([] : List Int), 5) (s'.2.1, 0), ?_, ?_, ?_⟩
          · show cond (decide (0 < s'.1)) (some (([] : List Int), 5)) (some (s'.2.1, 0)) = _
            cases decide (0 < s'.1) <;> rfl
          · show Option.bind (loopO _ N (debt, [], 0)) _ = _
            rw [← h3]
            show cond (decide (0 < s'.1)) (some (([] : List Int), 5)) (some (s'.2.1, 0)) = _
            cases decide (0 < s'.1) <;> rfl
          · cases decide (0 < s'.1)
            · show s'.2.1.length ≤ 45
              omega
            · simp
    · rw [show decide (40 < ((p.Can.length : Nat) : Int)) = true from decide_eq_true (by omega)]
      exact ⟨([], 3), rfl, rfl, by simp⟩
end Go.Nilo
