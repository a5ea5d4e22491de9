/-
  What the plain functions compute, in plain arithmetic, part 11. Conditions: what each theorem names.
-/
import Derived.Test.YtlbmcojegiabpaaDiL10
set_option linter.unusedSimpArgs false
set_option linter.unusedVariables false
namespace Go.Nilo
theorem q_le_le {a b c x y z : Int} (hx : 0 ≤ x) (hy : 0 < y) (hz : 0 ≤ z) (h1 : b * x ≤ a * y) (h2 : c * y ≤ b * z) : c * x ≤ a * z := by
  have e1 : c * y * x ≤ b * z * x := Int.mul_le_mul_of_nonneg_right h2 hx
  have e2 : b * x * z ≤ a * y * z := Int.mul_le_mul_of_nonneg_right h1 hz
  have e3 : b * z * x = b * x * z := by rw [Int.mul_assoc, Int.mul_comm z x, ← Int.mul_assoc]
  have a1 : c * x * y = c * y * x := by rw [Int.mul_assoc, Int.mul_comm x y, ← Int.mul_assoc]
  have a2 : a * z * y = a * y * z := by rw [Int.mul_assoc, Int.mul_comm z y, ← Int.mul_assoc]
  exact Int.le_of_mul_le_mul_right (by omega : c * x * y ≤ a * z * y) hy

/-! ### Fractions in lowest terms -/
def lowR (n d : Int) : api_Ratio := ⟨((n.toNat / Nat.gcd n.toNat d.toNat : Nat) : Int), ((d.toNat / Nat.gcd n.toNat d.toNat : Nat) : Int)⟩
theorem lowR_spec {n d : Int} (hn : 0 < n) (hd : 0 < d) : ∃ g : Int, 0 < g ∧ n = (lowR n d).N * g ∧ d = (lowR n d).D * g ∧ 1 ≤ (lowR n d).N ∧ (lowR n d).N ≤ n ∧ 1 ≤ (lowR n d).D ∧ (lowR n d).D ≤ d := by
  have g0 : 0 < Nat.gcd n.toNat d.toNat := Nat.gcd_pos_of_pos_right _ (by omega)
  have e1 : n.toNat / Nat.gcd n.toNat d.toNat * Nat.gcd n.toNat d.toNat = n.toNat := Nat.div_mul_cancel (Nat.gcd_dvd_left _ _)
  have e2 : d.toNat / Nat.gcd n.toNat d.toNat * Nat.gcd n.toNat d.toNat = d.toNat := Nat.div_mul_cancel (Nat.gcd_dvd_right _ _)
  have l1 := Nat.div_le_self n.toNat (Nat.gcd n.toNat d.toNat)
  have l2 := Nat.div_le_self d.toNat (Nat.gcd n.toNat d.toNat)
  have p1 : 0 < n.toNat / Nat.gcd n.toNat d.toNat := Nat.div_pos (Nat.le_of_dvd (by omega) (Nat.gcd_dvd_left _ _)) g0
  have p2 : 0 < d.toNat / Nat.gcd n.toNat d.toNat := Nat.div_pos (Nat.le_of_dvd (by omega) (Nat.gcd_dvd_right _ _)) g0
  refine ⟨(Nat.gcd n.toNat d.toNat : Int), by omega, ?_, ?_, ?_, ?_, ?_, ?_⟩
  · show n = ((n.toNat / Nat.gcd n.toNat d.toNat : Nat) : Int) * _
    rw [← Int.natCast_mul, e1]; omega
  · show d = ((d.toNat / Nat.gcd n.toNat d.toNat : Nat) : Int) * _
    rw [← Int.natCast_mul, e2]; omega
  · show 1 ≤ ((n.toNat / Nat.gcd n.toNat d.toNat : Nat) : Int)
    omega
  · show ((n.toNat / Nat.gcd n.toNat d.toNat : Nat) : Int) ≤ n
    omega
  · show 1 ≤ ((d.toNat / Nat.gcd n.toNat d.toNat : Nat) : Int)
    omega
  · show ((d.toNat / Nat.gcd n.toNat d.toNat : Nat) : Int) ≤ d
    omega
theorem lowR_le {n d a b : Int} (hn : 0 < n) (hd : 0 < d) : a * (lowR n d).D ≤ b * (lowR n d).N ↔ a * d ≤ b * n := by
  obtain ⟨g, hg, h1, h2, -⟩ := lowR_spec hn hd
  generalize (lowR n d).N = N at *
  generalize (lowR n d).D = D at *
  subst h1 h2
  rw [← Int.mul_assoc, ← Int.mul_assoc]
  exact ⟨fun h => Int.mul_le_mul_of_nonneg_right h (by omega), fun h => Int.le_of_mul_le_mul_right h hg⟩
theorem lowR_ge {n d a b : Int} (hn : 0 < n) (hd : 0 < d) : a * (lowR n d).N ≤ b * (lowR n d).D ↔ a * n ≤ b * d := by
  obtain ⟨g, hg, h1, h2, -⟩ := lowR_spec hn hd
  generalize (lowR n d).N = N at *
  generalize (lowR n d).D = D at *
  subst h1 h2
  rw [← Int.mul_assoc, ← Int.mul_assoc]
  exact ⟨fun h => Int.mul_le_mul_of_nonneg_right h (by omega), fun h => Int.le_of_mul_le_mul_right h hg⟩
theorem lowR_uniq {n d n' d' : Int} (hn : 0 < n) (hd : 0 < d) (hn' : 0 < n') (hd' : 0 < d') (h : (lowR n d).N * (lowR n' d').D = (lowR n' d').N * (lowR n d).D) : lowR n d = lowR n' d' := by
  have hx : n * d' = n' * d := by
    obtain ⟨g, hg, h1, h2, -⟩ := lowR_spec hn hd
    obtain ⟨g', hg', h3, h4, -⟩ := lowR_spec hn' hd'
    generalize (lowR n d).N = N at *
    generalize (lowR n d).D = D at *
    generalize (lowR n' d').N = N' at *
    generalize (lowR n' d').D = D' at *
    subst h1 h2 h3 h4
    have e1 : N * g * (D' * g') = N * D' * (g * g') := by ac_rfl
    have e2 : N' * g' * (D * g) = N' * D * (g * g') := by ac_rfl
    rw [e1, e2, h]
  have hN : n.toNat * d'.toNat = n'.toNat * d.toNat := by
    have e1 : ((n.toNat * d'.toNat : Nat) : Int) = n * d' := by rw [Int.natCast_mul]; congr 1 <;> omega
    have e2 : ((n'.toNat * d.toNat : Nat) : Int) = n' * d := by rw [Int.natCast_mul]; congr 1 <;> omega
    omega
  obtain ⟨a, b⟩ := low_uniq (n := n.toNat) (d := d.toNat) (n' := n'.toNat) (d' := d'.toNat) (by omega) (by omega) (by omega) (by omega) hN
  unfold lowR
  rw [a, b]
theorem gcd_nz {a b : Nat} (h : 0 < a) : nz ((Nat.gcd a b : Nat) : Int) = some () := by
  have := Nat.gcd_pos_of_pos_left b h
  unfold nz
  rw [if_neg (by omega)]
theorem ratio_prog {N : Nat} (hN : 60 ≤ N) {n d : Int} (hn : 0 < n ∧ n ≤ 2000000) (hd : 0 < d ∧ d ≤ 200000) : share_quotient_ratio N ⟨n, d⟩ = some (lowR n d) := by
  have h := euc_loop (ρ := api_Ratio) (fun s4 : Int × Int => share_quotient_ratio_b4 N s4.1 s4.2) (fun a b : Nat => ((a : Int), (b : Int))) (fun a => rfl) (fun a b hb _ _ => by
    show share_quotient_ratio_b4 N (a : Int) (b : Int) = _
    unfold share_quotient_ratio_b4
    have h1 : ((b : Int) != 0) = true := by rw [bne_iff_ne]; omega
    have h2 : nz (b : Int) = some () := by unfold nz; rw [if_neg (by omega)]
    rw [h1, h2, tmod_mod (by omega)]
    show some (Step.cont ((b : Int), (a : Int) % (b : Int))) = _
    rw [← Int.natCast_emod]) 18 n.toNat d.toNat N (by omega) (by omega) (by omega) (by omega)
  have e1 : ((n.toNat : Nat) : Int) = n := by omega
  have e2 : ((d.toNat : Nat) : Int) = d := by omega
  unfold share_quotient_ratio
  show Option.bind (loopO _ N (n, d)) _ = _
  rw [← e1, ← e2, h, Option.bind_some]
  show Option.bind (nz ((Nat.gcd n.toNat d.toNat : Nat) : Int)) (fun _ => Option.bind (nz ((Nat.gcd n.toNat d.toNat : Nat) : Int)) fun _ => some (⟨W (((n.toNat : Nat) : Int).tdiv ((Nat.gcd n.toNat d.toNat : Nat) : Int)), W (((d.toNat : Nat) : Int).tdiv ((Nat.gcd n.toNat d.toNat : Nat) : Int))⟩ : api_Ratio)) = _
  rw [gcd_nz (by omega), Option.bind_some, Option.bind_some, tdiv_div (by omega), tdiv_div (by omega), ← Int.natCast_ediv, ← Int.natCast_ediv]
  have l1 := Nat.div_le_self n.toNat (Nat.gcd n.toNat d.toNat)
  have l2 := Nat.div_le_self d.toNat (Nat.gcd n.toNat d.toNat)
  have e3 : lowR ((n.toNat : Nat) : Int) ((d.toNat : Nat) : Int) = lowR n d := by rw [e1, e2]
  rw [e3]
  unfold lowR
  generalize n.toNat / Nat.gcd n.toNat d.toNat = q1 at *
  generalize d.toNat / Nat.gcd n.toNat d.toNat = q2 at *
  rw [W_id (by omega) (by omega), W_id (by omega) (by omega)]
def nI (l : List Int) (i : Nat) : Int := 2 * cN l i
def laB (s : List Int) (rule : Int) (i : Nat) : Int := askI rule (sI s i)
def nxB (s : List Int) (rule : Int) (i : Nat) : Int := askI rule (sI s i + 1)
theorem more2 {n b m e : Int} (hn : 0 ≤ n ∧ n ≤ 2000000) (hm : 0 ≤ m ∧ m ≤ 2000000) (hb : -4 ≤ b ∧ b ≤ 200000) (he : -4 ≤ e ∧ e ≤ 200000) : share_quotient_more ⟨n, b⟩ ⟨m, e⟩ = decide (m * b < n * e) := by
  unfold share_quotient_more
  show decide (W (m * b) < W (n * e)) = _
  have m1 := absmul (x := m) (y := b) (A := 2000000) (B := 200000) (by omega) (by omega)
  have m2 := absmul (x := n) (y := e) (A := 2000000) (B := 200000) (by omega) (by omega)
  rw [W_id (n := m * b) (by omega) (by omega), W_id (n := n * e) (by omega) (by omega)]

/-- The least of the last quotients, and the greatest of the next ones. -/
def hiQ (l s : List Int) (rule : Int) : Nat → Int × Int
  | 0 => (2000000, 1)
  | i + 1 => cond (decide (0 < laB s rule i) && decide (nI l i * (hiQ l s rule i).2 < (hiQ l s rule i).1 * laB s rule i)) (nI l i, laB s rule i) (hiQ l s rule i)
def loQ (l s : List Int) (rule : Int) : Nat → Int × Int
  | 0 => (nI l 0, nxB s rule 0)
  | i + 1 => cond (decide ((loQ l s rule i).1 * nxB s rule (i + 1) < nI l (i + 1) * (loQ l s rule i).2)) (nI l (i + 1), nxB s rule (i + 1)) (loQ l s rule i)
theorem nI_bd {l s : List Int} {rule : Int} (h : ShOk l s rule) {i : Nat} (hi : i < l.length) : 2 ≤ nI l i ∧ nI l i ≤ 2000000 := by
  have : 1 ≤ cN l i ∧ cN l i ≤ 1000000 := h.c.c i hi
  unfold nI
  omega
theorem laB_bd {l s : List Int} {rule : Int} (h : ShOk l s rule) {i : Nat} (hi : i < l.length) : -4 ≤ laB s rule i ∧ laB s rule i ≤ 200000 := by
  have : 0 ≤ sI s i ∧ sI s i ≤ 366 := h.s i hi
  exact askI_bd (by omega)
theorem nxB_bd {l s : List Int} {rule : Int} (h : ShOk l s rule) {i : Nat} (hi : i < l.length) : 0 ≤ nxB s rule i ∧ nxB s rule i ≤ 200000 := by
  have : 0 ≤ sI s i ∧ sI s i ≤ 366 := h.s i hi
  exact ask_nn h.r (by omega) (by omega)
theorem hiQ_bd {l s : List Int} {rule : Int} (h : ShOk l s rule) : ∀ i, i ≤ l.length → (hiQ l s rule i = (2000000, 1) ∨ ∃ j, j < i ∧ 0 < laB s rule j ∧ hiQ l s rule i = (nI l j, laB s rule j)) ∧ (hiQ l s rule i).1 ≤ 2000000 * (hiQ l s rule i).2 ∧ ∀ t, t < i → 0 < laB s rule t → (hiQ l s rule i).1 * laB s rule t ≤ nI l t * (hiQ l s rule i).2
  | 0, _ => ⟨.inl rfl, by show (2000000 : Int) ≤ 2000000 * 1; decide, fun t ht => absurd ht (by omega)⟩
  | i + 1, hi => by
    obtain ⟨h1, h2, h3⟩ := hiQ_bd h i (by omega)
    have ni := nI_bd h (i := i) (by omega)
    have hpos : 0 < (hiQ l s rule i).2 ∧ 0 < (hiQ l s rule i).1 := by
      rcases h1 with h1 | ⟨j, hj, hl, h1⟩
      · rw [h1]; decide
      · rw [h1]; exact ⟨hl, by have := nI_bd h (i := j) (by omega); show 0 < nI l j; omega⟩
    rw [hiQ]
    by_cases h0 : 0 < laB s rule i
    · by_cases hm : nI l i * (hiQ l s rule i).2 < (hiQ l s rule i).1 * laB s rule i
      · rw [decide_eq_true h0, decide_eq_true hm, Bool.and_true, cond_true]
        refine ⟨.inr ⟨i, by omega, h0, rfl⟩, by show nI l i ≤ 2000000 * laB s rule i; omega, fun t ht ht0 => ?_⟩
        show nI l i * laB s rule t ≤ nI l t * laB s rule i
        by_cases hti : t = i
        · subst hti; exact Int.le_refl _
        · exact q_le_le (by omega) hpos.1 (by omega) (h3 t (by omega) ht0) (by omega)
      · rw [decide_eq_true h0, decide_eq_false hm, Bool.and_false, cond_false]
        refine ⟨h1.imp id (fun ⟨j, hj, a, b⟩ => ⟨j, by omega, a, b⟩), h2, fun t ht ht0 => ?_⟩
        by_cases hti : t = i
        · subst hti; omega
        · exact h3 t (by omega) ht0
    · rw [decide_eq_false h0, Bool.false_and, cond_false]
      refine ⟨h1.imp id (fun ⟨j, hj, a, b⟩ => ⟨j, by omega, a, b⟩), h2, fun t ht ht0 => ?_⟩
      by_cases hti : t = i
      · subst hti; omega
      · exact h3 t (by omega) ht0
theorem loQ_bd {l s : List Int} {rule : Int} (h : ShOk l s rule) : ∀ i, i < l.length → (∃ j, j ≤ i ∧ loQ l s rule i = (nI l j, nxB s rule j)) ∧ ∀ t, t ≤ i → nI l t * (loQ l s rule i).2 ≤ (loQ l s rule i).1 * nxB s rule t
  | 0, _ => ⟨⟨0, Nat.le_refl _, rfl⟩, fun t ht => by obtain rfl : t = 0 := by omega
                                                     exact Int.le_refl _⟩
  | i + 1, hi => by
    obtain ⟨⟨j, hj, h1⟩, h3⟩ := loQ_bd h i (by omega)
    have ni := nI_bd h hi
    have nj := nI_bd h (i := j) (by omega)
    have bi := nxB_bd h hi
    have bj := nxB_bd h (i := j) (by omega)
    rw [loQ]
    by_cases hm : (loQ l s rule i).1 * nxB s rule (i + 1) < nI l (i + 1) * (loQ l s rule i).2
    · rw [decide_eq_true hm, cond_true]
      refine ⟨⟨i + 1, Nat.le_refl _, rfl⟩, fun t ht => ?_⟩
      show nI l t * nxB s rule (i + 1) ≤ nI l (i + 1) * nxB s rule t
      by_cases hti : t = i + 1
      · subst hti; exact Int.le_refl _
      · have nt := nI_bd h (i := t) (by omega)
        have bt := nxB_bd h (i := t) (by omega)
        have h4 := h3 t (by omega)
        rw [h1] at hm h4
        exact Int.le_of_lt (q_lt_le (by omega) (show 0 < nI l j by omega) bi.1 bj.1 bt.1 hm h4)
    · rw [decide_eq_false hm, cond_false]
      refine ⟨⟨j, by omega, h1⟩, fun t ht => ?_⟩
      by_cases hti : t = i + 1
      · subst hti; omega
      · exact h3 t (by omega)

def low (l s : List Int) (rule : Int) : Int × Int := loQ l s rule (l.length - 1)
def high (l s : List Int) (rule : Int) : Int × Int := hiQ l s rule l.length
def divV (l s : List Int) (rule : Int) : api_Ratio × api_Ratio × Int :=
  if chkS l s rule = 0 then (if (high l s rule).1 * (low l s rule).2 < (low l s rule).1 * (high l s rule).2 then (⟨0, 0⟩, ⟨0, 0⟩, 7) else (lowR (low l s rule).1 (low l s rule).2, lowR (high l s rule).1 (high l s rule).2, 0)) else (⟨0, 0⟩, ⟨0, 0⟩, chkS l s rule)
def nextL (l s : List Int) (rule : Int) (n : Nat) : List share_quotient := (List.range n).map fun i => (⟨nI l i, nxB s rule i⟩ : share_quotient)
theorem nextL_succ (l s : List Int) (rule : Int) (n : Nat) : nextL l s rule (n + 1) = nextL l s rule n ++ [(⟨nI l n, nxB s rule n⟩ : share_quotient)] := by
  unfold nextL
  rw [List.range_succ, List.map_append]
  rfl
theorem nextL_len (l s : List Int) (rule : Int) (n : Nat) : (nextL l s rule n).length = n := by simp [nextL]
theorem low_facts {l s : List Int} {rule : Int} (h : ShOk l s rule) : (∃ j, j < l.length ∧ low l s rule = (nI l j, nxB s rule j)) ∧ ∀ t, t < l.length → nI l t * (low l s rule).2 ≤ (low l s rule).1 * nxB s rule t := by
  have hn := h.c.n
  obtain ⟨⟨j, hj, h1⟩, h2⟩ := loQ_bd h (l.length - 1) (by omega)
  exact ⟨⟨j, by omega, h1⟩, fun t ht => h2 t (by omega)⟩
theorem high_facts {l s : List Int} {rule : Int} (h : ShOk l s rule) : (high l s rule = (2000000, 1) ∨ ∃ j, j < l.length ∧ 0 < laB s rule j ∧ high l s rule = (nI l j, laB s rule j)) ∧ (high l s rule).1 ≤ 2000000 * (high l s rule).2 ∧ ∀ t, t < l.length → 0 < laB s rule t → (high l s rule).1 * laB s rule t ≤ nI l t * (high l s rule).2 := hiQ_bd h l.length (Nat.le_refl _)
theorem high_bd {l s : List Int} {rule : Int} (h : ShOk l s rule) : (0 < (high l s rule).1 ∧ (high l s rule).1 ≤ 2000000) ∧ (0 < (high l s rule).2 ∧ (high l s rule).2 ≤ 200000) := by
  rcases (high_facts h).1 with h1 | ⟨j, hj, hl, h1⟩
  · rw [h1]; decide
  · rw [h1]
    have := nI_bd h hj
    have := laB_bd h hj
    exact ⟨by show 0 < nI l j ∧ nI l j ≤ 2000000; omega, by show 0 < laB s rule j ∧ laB s rule j ≤ 200000; omega⟩
theorem low_bd {l s : List Int} {rule : Int} (h : ShOk l s rule) : (0 < (low l s rule).1 ∧ (low l s rule).1 ≤ 2000000) ∧ (0 ≤ (low l s rule).2 ∧ (low l s rule).2 ≤ 200000) := by
  obtain ⟨j, hj, h1⟩ := (low_facts h).1
  rw [h1]
  have := nI_bd h hj
  have := nxB_bd h hj
  exact ⟨by show 0 < nI l j ∧ nI l j ≤ 2000000; omega, by show 0 ≤ nxB s rule j ∧ nxB s rule j ≤ 200000; omega⟩
theorem low_pos {l s : List Int} {rule : Int} (h : ShOk l s rule) (hm : ¬ (high l s rule).1 * (low l s rule).2 < (low l s rule).1 * (high l s rule).2) : 0 < (low l s rule).2 := by
  have h1 := low_bd h
  have h2 := high_bd h
  rcases Int.lt_or_eq_of_le h1.2.1 with h3 | h3
  · exact h3
  · exfalso
    rw [← h3, Int.mul_zero] at hm
    exact hm (Int.mul_pos h1.1.1 h2.2.1)
theorem hiQ_lim {l s : List Int} {rule : Int} (h : ShOk l s rule) {i : Nat} (hi : i ≤ l.length) : (0 ≤ (hiQ l s rule i).1 ∧ (hiQ l s rule i).1 ≤ 2000000) ∧ (-4 ≤ (hiQ l s rule i).2 ∧ (hiQ l s rule i).2 ≤ 200000) := by
  rcases (hiQ_bd h i hi).1 with h1 | ⟨j, hj, hl, h1⟩
  · rw [h1]; decide
  · rw [h1]
    have := nI_bd h (i := j) (by omega)
    have := laB_bd h (i := j) (by omega)
    exact ⟨by show 0 ≤ nI l j ∧ nI l j ≤ 2000000; omega, by show -4 ≤ laB s rule j ∧ laB s rule j ≤ 200000; omega⟩
theorem loQ_lim {l s : List Int} {rule : Int} (h : ShOk l s rule) {i : Nat} (hi : i < l.length) : (0 ≤ (loQ l s rule i).1 ∧ (loQ l s rule i).1 ≤ 2000000) ∧ (-4 ≤ (loQ l s rule i).2 ∧ (loQ l s rule i).2 ≤ 200000) := by
  obtain ⟨⟨j, hj, h1⟩, -⟩ := loQ_bd h i hi
  rw [h1]
  have := nI_bd h (i := j) (by omega)
  have := nxB_bd h (i := j) (by omega)
  exact ⟨by show 0 ≤ nI l j ∧ nI l j ≤ 2000000; omega, by show -4 ≤ nxB s rule j ∧ nxB s rule j ≤ 200000; omega⟩
theorem div_prog {N : Nat} (hN : 60 ≤ N) {l s : List Int} {rule : Int} (hl : l.length ≤ 15) (hs : s.length ≤ 15) : share_Divisors N l s rule = some (divV l s rule) := by
  unfold share_Divisors divV
  rw [shared_prog hN hl hs, Option.bind_some]
  by_cases h : chkS l s rule = 0
  · rw [if_pos h, h]
    have ho := chkS_ok h
    have hn := ho.c.n
    have hsl := ho.n
    have h1 := runS (ρ := api_Ratio × api_Ratio × Int) (fun i : Nat => (nextL l s rule i, (i : Int), (hiQ l s rule i).1, (hiQ l s rule i).2)) l.length (fun s10 => share_Divisors_b10 N l s rule s10.1 s10.2.1 s10.2.2.1 s10.2.2.2) (fun i hi => by
      have ci : 1 ≤ cN l i ∧ cN l i ≤ 1000000 := ho.c.c i hi
      have si : 0 ≤ sI s i ∧ sI s i ≤ 366 := ho.s i hi
      have hsi : getI s (i : Int) = some (sI s i) := by rw [getI_nat (by omega), get_getD (d := (0 : Int)) (by omega)]; rfl
      have hci : getI l (i : Int) = some (cN l i) := by rw [getI_nat hi, get_getD (d := (0 : Int)) hi]; rfl
      have lim := hiQ_lim ho (i := i) (by omega)
      have ni := nI_bd ho hi
      have li := laB_bd ho hi
      show share_Divisors_b10 N l s rule (nextL l s rule i) (i : Int) (hiQ l s rule i).1 (hiQ l s rule i).2 = _
      unfold share_Divisors_b10 share_Divisors_j18
      rw [show ((s.length : Nat) : Int) = (l.length : Int) by omega, lt_dec hi, cond_true, hsi, Option.bind_some, hci, Option.bind_some, W_id (n := sI s i + 1) (by omega) (by omega), day_spec (by omega) (by omega), Option.bind_some]
      show Option.bind (room (nextL l s rule i ++ [(⟨nI l i, nxB s rule i⟩ : share_quotient)]).length) _ = _
      rw [← nextL_succ, room_ok (by rw [nextL_len]; omega), Option.bind_some, Option.bind_some, day_spec (by omega) (by omega), Option.bind_some, W_succ (by omega)]
      show cond (decide (0 < laB s rule i) && share_quotient_more ⟨(hiQ l s rule i).1, (hiQ l s rule i).2⟩ ⟨nI l i, laB s rule i⟩) (some (Step.cont (nextL l s rule i ++ [(⟨nI l i, nxB s rule i⟩ : share_quotient)], _, nI l i, laB s rule i))) (some (Step.cont (nextL l s rule i ++ [(⟨nI l i, nxB s rule i⟩ : share_quotient)], _, _, _))) = _
      rw [← nextL_succ, more2 lim.1 (by omega) lim.2 li, hiQ]
      cases (decide (0 < laB s rule i) && decide (nI l i * (hiQ l s rule i).2 < (hiQ l s rule i).1 * laB s rule i)) <;> rfl) (by
      show share_Divisors_b10 N l s rule _ (l.length : Int) _ _ = _
      unfold share_Divisors_b10
      rw [show ((s.length : Nat) : Int) = (l.length : Int) by omega, ge_dec, cond_false]) (N := N) (by omega)
    show Option.bind (loopO _ N (nextL l s rule 0, ((0 : Nat) : Int), (hiQ l s rule 0).1, (hiQ l s rule 0).2)) _ = _
    rw [h1, Option.bind_some]
    have g0 : getI (nextL l s rule l.length) 0 = some ⟨nI l 0, nxB s rule 0⟩ := by
      have := getI_nat (l := nextL l s rule l.length) (i := 0) (by rw [nextL_len]; omega)
      rw [show ((0 : Nat) : Int) = 0 from rfl] at this
      rw [this]
      simp [nextL]
    have hsub : subO (nextL l s rule l.length) 1 (((nextL l s rule l.length).length : Nat) : Int) = some ((nextL l s rule l.length).drop 1) := by
      unfold subO
      rw [nextL_len, if_pos (by omega)]
      congr 1
      rw [show (1 : Int).toNat = 1 from rfl, show ((l.length : Nat) : Int).toNat = l.length by omega, List.take_of_length_le (by simp [nextL])]
    have hdl : ((nextL l s rule l.length).drop 1).length = l.length - 1 := by simp [nextL]
    have h2 := runS (ρ := share_quotient) (fun i : Nat => ((i : Int), (loQ l s rule i).1, (loQ l s rule i).2)) (l.length - 1) (fun s4 => share_greatest_b4 N ((nextL l s rule l.length).drop 1) s4.1 s4.2.1 s4.2.2) (fun i hi => by
      have lim := loQ_lim ho (i := i) (by omega)
      have ni := nI_bd ho (i := i + 1) (by omega)
      have bi := nxB_bd ho (i := i + 1) (by omega)
      have gi : getI ((nextL l s rule l.length).drop 1) (i : Int) = some ⟨nI l (i + 1), nxB s rule (i + 1)⟩ := by
        rw [getI_nat (by rw [hdl]; exact hi)]
        simp [nextL]
      show share_greatest_b4 N ((nextL l s rule l.length).drop 1) (i : Int) (loQ l s rule i).1 (loQ l s rule i).2 = _
      unfold share_greatest_b4 share_greatest_j8
      rw [hdl, lt_dec hi, cond_true, gi, Option.bind_some, more2 (by omega) lim.1 (by omega) lim.2, W_succ (by omega)]
      show _ = some (Step.cont (_, (loQ l s rule (i + 1)).1, (loQ l s rule (i + 1)).2))
      rw [loQ]
      cases decide ((loQ l s rule i).1 * nxB s rule (i + 1) < nI l (i + 1) * (loQ l s rule i).2) <;> rfl) (by
      show share_greatest_b4 N _ ((l.length - 1 : Nat) : Int) _ _ = _
      unfold share_greatest_b4
      rw [hdl, ge_dec, cond_false]) (N := N) (by omega)
    have hgr : share_greatest N ⟨nI l 0, nxB s rule 0⟩ ((nextL l s rule l.length).drop 1) = some ⟨(low l s rule).1, (low l s rule).2⟩ := by
      unfold share_greatest
      show Option.bind (loopO _ N (((0 : Nat) : Int), (loQ l s rule 0).1, (loQ l s rule 0).2)) _ = _
      rw [h2]
      rfl
    show Option.bind (getI (nextL l s rule l.length) 0) (fun e_1 => Option.bind (subO (nextL l s rule l.length) 1 (((nextL l s rule l.length).length : Nat) : Int)) fun sub => Option.bind (share_greatest N e_1 sub) fun r_1 => cond (share_quotient_more r_1 ⟨(high l s rule).1, (high l s rule).2⟩) _ (Option.bind (share_quotient_ratio N r_1) fun r_2 => Option.bind (share_quotient_ratio N ⟨(high l s rule).1, (high l s rule).2⟩) fun r_3 => some (r_2, r_3, 0))) = _
    have lb := low_bd ho
    have hb := high_bd ho
    rw [g0, Option.bind_some, hsub, Option.bind_some, hgr, Option.bind_some, more2 (by omega) (by omega) (by omega) (by omega)]
    by_cases hm : (high l s rule).1 * (low l s rule).2 < (low l s rule).1 * (high l s rule).2
    · rw [decide_eq_true hm, cond_true, if_pos hm]
    · have lp := low_pos ho hm
      rw [decide_eq_false hm, cond_false, if_neg hm, ratio_prog hN lb.1 (by omega), Option.bind_some, ratio_prog hN hb.1 hb.2, Option.bind_some]
  · have : (chkS l s rule != 0) = true := bne_iff_ne.2 h
    rw [if_neg h, this, cond_true]
end Go.Nilo
