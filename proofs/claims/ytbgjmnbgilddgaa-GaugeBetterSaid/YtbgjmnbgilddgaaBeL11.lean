/-
  What the plain functions compute, in plain arithmetic, part 11. Conditions: what each theorem names.
-/
import Derived.Test.YtbgjmnbgilddgaaBeL10
set_option linter.unusedSimpArgs false
set_option linter.unusedVariables false
namespace Go.Nilo
theorem heavy_mono {p R R' h h' : Int} (hp : 0 ≤ p ∧ p ≤ 1000) (hR : R ≤ R') (hh : h' ≤ h) (hc : p * (R' + h') < 1000 * h') : p * (R + h) < 1000 * h := by
  have a := Int.mul_le_mul_of_nonneg_left hR hp.1
  have b := Int.mul_le_mul_of_nonneg_left hh (show 0 ≤ 1000 - p by omega)
  rw [Int.sub_mul, Int.sub_mul] at b
  rw [Int.mul_add] at hc ⊢
  omega
theorem ediv_mono {a b a' b' : Int} (h0 : 0 ≤ a) (h1 : a ≤ a') (h2 : b' ≤ b) (h3 : 0 < b') : a / b ≤ a' / b' := by
  rw [Int.le_ediv_iff_mul_le h3]
  have q0 : 0 ≤ a / b := Int.ediv_nonneg h0 (by omega)
  have q1 : a / b * b' ≤ a / b * b := Int.mul_le_mul_of_nonneg_left h2 q0
  have q2 : a / b * b ≤ a := Int.ediv_mul_le _ (by omega)
  omega
theorem ceil_mono {a b a' b' : Int} (h0 : 0 ≤ a') (h1 : a' ≤ a) (h2 : b ≤ b') (h3 : 0 < b) : (a' + b' - 1) / b' ≤ (a + b - 1) / b := by
  apply Int.le_of_lt_add_one
  rw [Int.ediv_lt_iff_lt_mul (by omega), Int.add_mul]
  have q0 : 0 ≤ (a + b - 1) / b := Int.ediv_nonneg (by omega) (by omega)
  have q1 := Int.lt_ediv_add_one_mul_self (a + b - 1) h3
  rw [Int.add_mul] at q1
  have q2 : (a + b - 1) / b * b ≤ (a + b - 1) / b * b' := Int.mul_le_mul_of_nonneg_left h2 q0
  omega
theorem Sub.ok0 {a b : api_Span} {A : Int} (h : Sub a b) (hb : Ok0 b A) : Ok0 a A := ⟨Int.le_trans hb.1 h.l, h.m, Int.le_trans h.h hb.2.2⟩

/-! ### Heavy panels of a section that is read better -/
theorem pans_get {g : gauge_Gauging} {i : Nat} (hi : i < g.Verticals.length) : (pans g).getD i s0 = panI g i := by simp [pans, List.getD, hi]
theorem rest_le {f f' : api_Span → Int} {l l' : List api_Span} {i n : Nat} (h : ∀ j, j < n → f (l.getD j s0) ≤ f' (l'.getD j s0)) : rest f l i n ≤ rest f' l' i n := by
  unfold rest
  apply sumBy_le
  intro j hj
  have := h j (List.mem_range.1 hj)
  split <;> omega
theorem pans_spn {g : gauge_Gauging} (h : GOk g) : ∀ s ∈ pans g, Spn s 100000000000 := by
  intro s hs
  unfold pans at hs
  obtain ⟨i, hi, rfl⟩ := List.mem_map.1 hs
  exact panI_bd h (List.mem_range.1 hi)

theorem heavy_both {N : Nat} (hN : 40 ≤ N) {g : gauge_Gauging} (h : GOk g) {p : Int} (hp : 0 ≤ p ∧ p ≤ 1000) :
    ∃ can sure, gauge_Heavy N g p = some (can, sure, 0) ∧ can.length ≤ 30 ∧ sure.length ≤ 30 ∧
      (∀ x, x ∈ can ↔ ∃ i : Nat, i < g.Verticals.length ∧ x = (i : Int) ∧ p * (rest (·.Lo) (pans g) i g.Verticals.length + (panI g i).Hi) < 1000 * (panI g i).Hi) ∧
      (∀ x, x ∈ sure ↔ ∃ i : Nat, i < g.Verticals.length ∧ x = (i : Int) ∧ p * (rest (·.Hi) (pans g) i g.Verticals.length + (panI g i).Lo) < 1000 * (panI g i).Lo) := by
  have hn' := h.n'
  obtain ⟨can, e1, l1, m1⟩ := heavy_spec (N := N) hN (l := pans g) (by rw [pans_len]; exact hn') (pans_spn h) hp
  obtain ⟨sure, e2, l2, m2⟩ := heavy_s2_spec (N := N) hN (l := pans g) (by rw [pans_len]; exact hn') (pans_spn h) hp
  refine ⟨can, sure, ?_, l1, l2, ?_, ?_⟩
  · unfold gauge_Heavy gauge_Heavy_j3 gauge_high gauge_low
    rw [panels_spec hN h]
    have hin : gauge_in p 0 1000 = true := by unfold gauge_in; simp; omega
    simp only [Option.bind_some, hin, e1, e2, Bool.not_true, Bool.and_false, cond_false, bne_self_eq_false]
  · intro x
    rw [m1 x, pans_len]
    constructor
    · rintro ⟨i, hi, hx, hc⟩
      rw [hsum_rest, if_pos hi, pans_get hi] at hc
      exact ⟨i, hi, hx, hc⟩
    · rintro ⟨i, hi, hx, hc⟩
      refine ⟨i, hi, hx, ?_⟩
      rw [hsum_rest, if_pos hi, pans_get hi]
      exact hc
  · intro x
    rw [m2 x, pans_len]
    constructor
    · rintro ⟨i, hi, hx, hc⟩
      rw [hsum_rest, if_pos hi, pans_get hi] at hc
      exact ⟨i, hi, hx, hc⟩
    · rintro ⟨i, hi, hx, hc⟩
      refine ⟨i, hi, hx, ?_⟩
      rw [hsum_rest, if_pos hi, pans_get hi]
      exact hc

theorem loop19b {N : Nat} (hN : 60 ≤ N) {a b : List api_Span} (ha : a.length ≤ 30) (hab : b.length = a.length) (hs : ∀ i, i < a.length → Sub (b.getD i s0) (a.getD i s0)) :
    ∃ x, loopO (fun s19 => law03_GaugeBetter_b19 N (a, 0) s19.1 s19.2.1 s19.2.2) N (a, b, 0) = some (.go (a, b, x)) := by
  obtain ⟨⟨a', b', x⟩, h1, rfl, rfl, -⟩ := loopInv (fun s19 => law03_GaugeBetter_b19 N (a, 0) s19.1 s19.2.1 s19.2.2) (fun i s => s.1 = a ∧ s.2.1 = b ∧ s.2.2 = (i : Int)) a.length
    (by
      rintro i ⟨a', b', x⟩ hi ⟨rfl, rfl, rfl⟩
      dsimp only at hi hs ha hab ⊢
      obtain ⟨l, m, h⟩ := hs i hi
      rw [← get_getD (d := s0) (show i < b'.length by omega), ← get_getD (d := s0) hi] at l h
      have hlt : decide ((i : Int) < ((a'.length : Nat) : Int)) = true := by simp; omega
      refine ⟨(a', b', ((i + 1 : Nat) : Int)), ?_, rfl, rfl, rfl⟩
      unfold law03_GaugeBetter_b19
      have d1 : decide ((b'[i]'(by omega)).Lo < a'[i].Lo) = false := by simp only [decide_eq_false_iff_not]; omega
      have d2 : decide (a'[i].Hi < (b'[i]'(by omega)).Hi) = false := by simp only [decide_eq_false_iff_not]; omega
      rw [hlt, getI_nat (show i < b'.length by omega), getI_nat hi, W_succ (by omega)]
      simp only [cond_true, cond_false, Option.bind_some, d1, d2])
    (by
      rintro ⟨a', b', x⟩ ⟨h1, h2, h3⟩
      dsimp only at h1 h2 h3 ⊢
      subst h1 h2 h3
      unfold law03_GaugeBetter_b19
      rw [show decide (((a'.length : Nat) : Int) < ((a'.length : Nat) : Int)) = false by simp]
      rfl)
    a.length 0 (a, b, 0) N (by omega) (by omega) ⟨rfl, rfl, rfl⟩
  exact ⟨x, h1⟩
end Go.Nilo
