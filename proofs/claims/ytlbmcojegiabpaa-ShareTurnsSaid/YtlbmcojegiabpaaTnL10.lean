/-
  What the plain functions compute, in plain arithmetic, part 10. Conditions: what each theorem names.
-/
import Derived.Test.YtlbmcojegiabpaaTnL9
set_option linter.unusedSimpArgs false
set_option linter.unusedVariables false
namespace Go.Nilo
theorem q_le_le {a b c x y z : Int} (hx : 0 ≤ x) (hy : 0 < y) (hz : 0 ≤ z) (h1 : b * x ≤ a * y) (h2 : c * y ≤ b * z) : c * x ≤ a * z := by
  have e1 : c * y * x ≤ b * z * x := Int.mul_le_mul_of_nonneg_right h2 hx
  have e2 : b * x * z ≤ a * y * z := Int.mul_le_mul_of_nonneg_right h1 hz
  have e3 : b * z * x = b * x * z := by rw [Int.mul_assoc, Int.mul_comm z x, ← Int.mul_assoc]
  have a1 : c * x * y = c * y * x := by rw [Int.mul_assoc, Int.mul_comm x y, ← Int.mul_assoc]
  have a2 : a * z * y = a * y * z := by rw [Int.mul_assoc, Int.mul_comm z y, ← Int.mul_assoc]
  exact Int.le_of_mul_le_mul_right (by omega : c * x * y ≤ a * z * y) hy

/-! ### Fractions in lowest terms -/
def lowR (n d : Int) : api_Ratio := ⟨((n.toNat / Nat.gcd n.toNat d.toNat : Nat) : Int), ((d.toNat / Nat.gcd n.toNat d.toNat : Nat) : Int)⟩
theorem lowR_spec {n d : Int} (hn : 0 < n) (hd : 0 < d) : ∃ g : Int, 0 < g ∧ n = (lowR n d).N * g ∧ d = (lowR n d).D * g ∧ 1 ≤ (lowR n d).N ∧ (lowR n d).N ≤ n ∧ 1 ≤ (lowR n d).D ∧ (lowR n d).D ≤ d := by
  have g0 : 0 < Nat.gcd n.toNat d.toNat := Nat.gcd_pos_of_pos_right _ (by omega)
  have e1 : n.toNat / Nat.gcd n.toNat d.toNat * Nat.gcd n.toNat d.toNat = n.toNat := Nat.div_mul_cancel (Nat.gcd_dvd_left _ _)
  have e2 : d.toNat / Nat.gcd n.toNat d.toNat * Nat.gcd n.toNat d.toNat = d.toNat := Nat.div_mul_cancel (Nat.gcd_dvd_right _ _)
  have l1 := Nat.div_le_self n.toNat (Nat.gcd n.toNat d.toNat)
  have l2 := Nat.div_le_self d.toNat (Nat.gcd n.toNat d.toNat)
  have p1 : 0 < n.toNat / Nat.gcd n.toNat d.toNat := Nat.div_pos (Nat.le_of_dvd (by omega) (Nat.gcd_dvd_left _ _)) g0
  have p2 : 0 < d.toNat / Nat.gcd n.toNat d.toNat := Nat.div_pos (Nat.le_of_dvd (by omega) (Nat.gcd_dvd_right _ _)) g0
  refine ⟨(Nat.gcd n.toNat d.toNat : Int), by omega, ?_, ?_, ?_, ?_, ?_, ?_⟩
  · show n = ((n.toNat / Nat.gcd n.toNat d.toNat : Nat) : Int) * _
    rw [← Int.natCast_mul, e1]; omega
  · show d = ((d.toNat / Nat.gcd n.toNat d.toNat : Nat) : Int) * _
    rw [← Int.natCast_mul, e2]; omega
  · show 1 ≤ ((n.toNat / Nat.gcd n.toNat d.toNat : Nat) : Int)
    omega
  · show ((n.toNat / Nat.gcd n.toNat d.toNat : Nat) : Int) ≤ n
    omega
  · show 1 ≤ ((d.toNat / Nat.gcd n.toNat d.toNat : Nat) : Int)
    omega
  · show ((d.toNat / Nat.gcd n.toNat d.toNat : Nat) : Int) ≤ d
    omega
theorem lowR_le {n d a b : Int} (hn : 0 < n) (hd : 0 < d) : a * (lowR n d).D ≤ b * (lowR n d).N ↔ a * d ≤ b * n := by
  obtain ⟨g, hg, h1, h2, -⟩ := lowR_spec hn hd
  generalize (lowR n d).N = N at *
  generalize (lowR n d).D = D at *
  subst h1 h2
  rw [← Int.mul_assoc, ← Int.mul_assoc]
  exact ⟨fun h => Int.mul_le_mul_of_nonneg_right h (by omega), fun h => Int.le_of_mul_le_mul_right h hg⟩
theorem lowR_ge {n d a b : Int} (hn : 0 < n) (hd : 0 < d) : a * (lowR n d).N ≤ b * (lowR n d).D ↔ a * n ≤ b * d := by
  obtain ⟨g, hg, h1, h2, -⟩ := lowR_spec hn hd
  generalize (lowR n d).N = N at *
  generalize (lowR n d).D = D at *
  subst h1 h2
  rw [← Int.mul_assoc, ← Int.mul_assoc]
  exact ⟨fun h => Int.mul_le_mul_of_nonneg_right h (by omega), fun h => Int.le_of_mul_le_mul_right h hg⟩
theorem lowR_uniq {n d n' d' : Int} (hn : 0 < n) (hd : 0 < d) (hn' : 0 < n') (hd' : 0 < d') (h : (lowR n d).N * (lowR n' d').D = (lowR n' d').N * (lowR n d).D) : lowR n d = lowR n' d' := by
  have hx : n * d' = n' * d := by
    obtain ⟨g, hg, h1, h2, -⟩ := lowR_spec hn hd
    obtain ⟨g', hg', h3, h4, -⟩ := lowR_spec hn' hd'
    generalize (lowR n d).N = N at *
    generalize (lowR n d).D = D at *
    generalize (lowR n' d').N = N' at *
    generalize (lowR n' d').D = D' at *
    subst h1 h2 h3 h4
    have e1 : N * g * (D' * g') = N * D' * (g * g') := by ac_rfl
    have e2 : N' * g' * (D * g) = N' * D * (g * g') := by ac_rfl
    rw [e1, e2, h]
  have hN : n.toNat * d'.toNat = n'.toNat * d.toNat := by
    have e1 : ((n.toNat * d'.toNat : Nat) : Int) = n * d' := by rw [Int.natCast_mul]; congr 1 <;> omega
    have e2 : ((n'.toNat * d.toNat : Nat) : Int) = n' * d := by rw [Int.natCast_mul]; congr 1 <;> omega
    omega
  obtain ⟨a, b⟩ := low_uniq (n := n.toNat) (d := d.toNat) (n' := n'.toNat) (d' := d'.toNat) (by omega) (by omega) (by omega) (by omega) hN
  unfold lowR
  rw [a, b]
theorem gcd_nz {a b : Nat} (h : 0 < a) : nz ((Nat.gcd a b : Nat) : Int) = some () := by
  have := Nat.gcd_pos_of_pos_left b h
  unfold nz
  rw [if_neg (by omega)]
theorem ratio_prog {N : Nat} (hN : 60 ≤ N) {n d : Int} (hn : 0 < n ∧ n ≤ 2000000) (hd : 0 < d ∧ d ≤ 200000) : share_quotient_ratio N ⟨n, d⟩ = some (lowR n d) := by
  have h := euc_loop (ρ := api_Ratio) (fun s4 : Int × Int => share_quotient_ratio_b4 N s4.1 s4.2) (fun a b : Nat => ((a : Int), (b : Int))) (fun a => rfl) (fun a b hb _ _ => by
    show share_quotient_ratio_b4 N (a : Int) (b : Int) = _
    unfold share_quotient_ratio_b4
    have h1 : ((b : Int) != 0) = true := by rw [bne_iff_ne]; omega
    have h2 : nz (b : Int) = some () := by unfold nz; rw [if_neg (by omega)]
    rw [h1, h2, tmod_mod (by omega)]
    show some (Step.cont ((b : Int), (a : Int) % (b : Int))) = _
    rw [← Int.natCast_emod]) 18 n.toNat d.toNat N (by omega) (by omega) (by omega) (by omega)
  have e1 : ((n.toNat : Nat) : Int) = n := by omega
  have e2 : ((d.toNat : Nat) : Int) = d := by omega
  unfold share_quotient_ratio
  show Option.bind (loopO _ N (n, d)) _ = _
  rw [← e1, ← e2, h, Option.bind_some]
  show Option.bind (nz ((Nat.gcd n.toNat d.toNat : Nat) : Int)) (fun _ => Option.bind (nz ((Nat.gcd n.toNat d.toNat : Nat) : Int)) fun _ => some (⟨W (((n.toNat : Nat) : Int).tdiv ((Nat.gcd n.toNat d.toNat : Nat) : Int)), W (((d.toNat : Nat) : Int).tdiv ((Nat.gcd n.toNat d.toNat : Nat) : Int))⟩ : api_Ratio)) = _
  rw [gcd_nz (by omega), Option.bind_some, Option.bind_some, tdiv_div (by omega), tdiv_div (by omega), ← Int.natCast_ediv, ← Int.natCast_ediv]
  have l1 := Nat.div_le_self n.toNat (Nat.gcd n.toNat d.toNat)
  have l2 := Nat.div_le_self d.toNat (Nat.gcd n.toNat d.toNat)
  have e3 : lowR ((n.toNat : Nat) : Int) ((d.toNat : Nat) : Int) = lowR n d := by rw [e1, e2]
  rw [e3]
  unfold lowR
  generalize n.toNat / Nat.gcd n.toNat d.toNat = q1 at *
  generalize d.toNat / Nat.gcd n.toNat d.toNat = q2 at *
  rw [W_id (by omega) (by omega), W_id (by omega) (by omega)]
theorem ratio_ref {N : Nat} (hN : 60 ≤ N) {n d : Int} (hn : 0 < n ∧ n ≤ 2000000) (hd : 0 < d ∧ d ≤ 200000) : ref09_lowest N n d = some (lowR n d) := by
  have h := euc_loop (ρ := api_Ratio) (fun s4 : Int × Int => ref09_lowest_b4 N s4.1 s4.2) (fun a b : Nat => ((a : Int), (b : Int))) (fun a => rfl) (fun a b hb _ _ => by
    show ref09_lowest_b4 N (a : Int) (b : Int) = _
    unfold ref09_lowest_b4
    have h2 : nz (b : Int) = some () := by unfold nz; rw [if_neg (by omega)]
    rw [decide_eq_true (show 0 < (b : Int) by omega), h2, tmod_mod (by omega)]
    show some (Step.cont ((b : Int), (a : Int) % (b : Int))) = _
    rw [← Int.natCast_emod]) 18 n.toNat d.toNat N (by omega) (by omega) (by omega) (by omega)
  have e1 : ((n.toNat : Nat) : Int) = n := by omega
  have e2 : ((d.toNat : Nat) : Int) = d := by omega
  unfold ref09_lowest
  show Option.bind (loopO _ N (n, d)) _ = _
  rw [← e1, ← e2, h, Option.bind_some]
  show Option.bind (nz ((Nat.gcd n.toNat d.toNat : Nat) : Int)) (fun _ => Option.bind (nz ((Nat.gcd n.toNat d.toNat : Nat) : Int)) fun _ => some (⟨W (((n.toNat : Nat) : Int).tdiv ((Nat.gcd n.toNat d.toNat : Nat) : Int)), W (((d.toNat : Nat) : Int).tdiv ((Nat.gcd n.toNat d.toNat : Nat) : Int))⟩ : api_Ratio)) = _
  rw [gcd_nz (by omega), Option.bind_some, Option.bind_some, tdiv_div (by omega), tdiv_div (by omega), ← Int.natCast_ediv, ← Int.natCast_ediv]
  have l1 := Nat.div_le_self n.toNat (Nat.gcd n.toNat d.toNat)
  have l2 := Nat.div_le_self d.toNat (Nat.gcd n.toNat d.toNat)
  have e3 : lowR ((n.toNat : Nat) : Int) ((d.toNat : Nat) : Int) = lowR n d := by rw [e1, e2]
  rw [e3]
  unfold lowR
  generalize n.toNat / Nat.gcd n.toNat d.toNat = q1 at *
  generalize d.toNat / Nat.gcd n.toNat d.toNat = q2 at *
  rw [W_id (by omega) (by omega), W_id (by omega) (by omega)]
end Go.Nilo
