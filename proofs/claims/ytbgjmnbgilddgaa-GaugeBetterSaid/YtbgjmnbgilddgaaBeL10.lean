/-
  What the plain functions compute, in plain arithmetic, part 10. Conditions: what each theorem names.
-/
import Derived.Test.YtbgjmnbgilddgaaBeL9
set_option linter.unusedSimpArgs false
set_option linter.unusedVariables false
namespace Go.Nilo
/-! ### Panels that are heavy -/
def s0 : api_Span := ⟨0, 0⟩
def hsum (mine oth : api_Span → Int) (l : List api_Span) (i k : Nat) : Int := sumBy (fun j => if j = i then mine (l.getD j s0) else oth (l.getD j s0)) (List.range k)

theorem heavy_inner {N : Nat} (hN : 40 ≤ N) {l : List api_Span} (hl : l.length ≤ 30) (hs : ∀ s ∈ l, Spn s 100000000000) (i : Nat) :
    loopO (fun s14 => gauge_heavy_b14 N l (i : Int) s14.1 s14.2) N (0, 0) = some (.go (hsum (·.Hi) (·.Lo) l i l.length, (l.length : Int))) ∧ (hsum (·.Hi) (·.Lo) l i l.length).natAbs ≤ 30 * 100000000000 := by
  obtain ⟨⟨a, x⟩, h1, hx, ha, hb⟩ := loopInv (fun s14 => gauge_heavy_b14 N l (i : Int) s14.1 s14.2) (fun k s => s.2 = (k : Int) ∧ s.1 = hsum (·.Hi) (·.Lo) l i k ∧ s.1.natAbs ≤ k * 100000000000) l.length
    (by
      rintro k ⟨a, x⟩ hk ⟨rfl, h2, h3⟩
      dsimp only at h2 h3 ⊢
      have hsp := hs l[k] (List.getElem_mem _)
      have p1 := hsp.lo
      have p2 := hsp.hi
      have hlt : decide ((k : Int) < ((l.length : Nat) : Int)) = true := by simp; omega
      have hnx : hsum (·.Hi) (·.Lo) l i (k + 1) = hsum (·.Hi) (·.Lo) l i k + (if k = i then l[k].Hi else l[k].Lo) := by
        unfold hsum
        rw [List.range_succ, sumBy_snoc, get_getD (d := s0) hk]
      refine ⟨(hsum (·.Hi) (·.Lo) l i (k + 1), ((k + 1 : Nat) : Int)), ?_, rfl, rfl, ?_⟩
      · unfold gauge_heavy_b14 gauge_heavy_j18 gauge_high_1 gauge_low_1
        rw [hlt, getI_nat hk, W_succ (by omega)]
        simp only [cond_true, Option.bind_some]
        cases hb : ((k : Int) == (i : Int)) with
        | true =>
          have : k = i := by have := beq_iff_eq.1 hb; omega
          rw [if_pos this] at hnx
          rw [hnx, ← h2, W_id (n := a + l[k].Hi) (by omega) (by omega)]
          rfl
        | false =>
          have : ¬ k = i := by intro e; subst e; simp at hb
          rw [if_neg this] at hnx
          rw [hnx, ← h2, W_id (n := a + l[k].Lo) (by omega) (by omega)]
          rfl
      · dsimp only
        rw [hnx, ← h2]
        split <;> omega)
    (by
      rintro ⟨a, x⟩ ⟨rfl, -⟩
      dsimp only
      unfold gauge_heavy_b14
      rw [show decide (((l.length : Nat) : Int) < ((l.length : Nat) : Int)) = false by simp]
      rfl)
    l.length 0 (0, 0) N (by omega) (by omega) ⟨rfl, rfl, by simp⟩
  dsimp only at hx ha hb
  rw [h1, hx, ha]
  rw [ha] at hb
  exact ⟨rfl, Nat.le_trans hb (Nat.mul_le_mul_right _ hl)⟩

theorem heavy_spec {N : Nat} (hN : 40 ≤ N) {l : List api_Span} (hl : l.length ≤ 30) (hs : ∀ s ∈ l, Spn s 100000000000) {p : Int} (hp : 0 ≤ p ∧ p ≤ 1000) :
    ∃ out, gauge_heavy N l p = some out ∧ out.length ≤ 30 ∧ ∀ x, x ∈ out ↔ ∃ i : Nat, i < l.length ∧ x = (i : Int) ∧ p * hsum (·.Hi) (·.Lo) l i l.length < 1000 * (l.getD i s0).Hi := by
  obtain ⟨⟨out, x⟩, h1, hx, ho, hm⟩ := loopInv (fun s5 => gauge_heavy_b5 N l p s5.1 s5.2) (fun k s => s.2 = (k : Int) ∧ s.1.length ≤ k ∧ ∀ x, x ∈ s.1 ↔ ∃ i : Nat, i < k ∧ x = (i : Int) ∧ p * hsum (·.Hi) (·.Lo) l i l.length < 1000 * (l.getD i s0).Hi) l.length
    (by
      rintro k ⟨out, x⟩ hk ⟨rfl, h2, h3⟩
      dsimp only at h2 h3 ⊢
      obtain ⟨e1, b1⟩ := heavy_inner hN hl hs k
      have hsp := hs l[k] (List.getElem_mem _)
      have p1 := hsp.lo
      have p2 := hsp.hi
      have hlt : decide ((k : Int) < ((l.length : Nat) : Int)) = true := by simp; omega
      have hb := absmul (x := p) (A := 1000) (by omega) b1
      have w1 : W (p * hsum (·.Hi) (·.Lo) l k l.length) = p * hsum (·.Hi) (·.Lo) l k l.length := W_id (by omega) (by omega)
      have w2 : W (1000 * l[k].Hi) = 1000 * l[k].Hi := W_id (by omega) (by omega)
      unfold gauge_heavy_b5 gauge_heavy_j9 gauge_high_1
      rw [hlt]
      simp only [cond_true]
      rw [e1]
      simp only [Option.bind_some, exK, getI_nat hk, w1, w2, W_succ (i := k) (by omega)]
      cases hd : decide (p * hsum (·.Hi) (·.Lo) l k l.length < 1000 * l[k].Hi) with
      | true =>
        have hd' := of_decide_eq_true hd
        rw [get_getD (d := s0) hk] at hd'
        rw [room_ok (by simp; omega)]
        simp only [cond_true, Option.bind_some]
        refine ⟨_, rfl, rfl, by simp; omega, ?_⟩
        intro x
        rw [List.mem_append, List.mem_singleton, h3 x]
        constructor
        · rintro (⟨i, a, b, c⟩ | rfl)
          · exact ⟨i, by omega, b, c⟩
          · exact ⟨k, by omega, rfl, hd'⟩
        · rintro ⟨i, a, b, c⟩
          by_cases hik : i < k
          · exact .inl ⟨i, hik, b, c⟩
          · obtain rfl : i = k := by omega
            exact .inr b
      | false =>
        have hd' := of_decide_eq_false hd
        rw [get_getD (d := s0) hk] at hd'
        simp only [cond_false]
        refine ⟨_, rfl, rfl, by dsimp only; omega, ?_⟩
        intro x
        rw [h3 x]
        constructor
        · rintro ⟨i, a, b, c⟩
          exact ⟨i, by omega, b, c⟩
        · rintro ⟨i, a, b, c⟩
          by_cases hik : i < k
          · exact ⟨i, hik, b, c⟩
          · obtain rfl : i = k := by omega
            exact absurd c hd')
    (by
      rintro ⟨out, x⟩ ⟨rfl, -⟩
      dsimp only
      unfold gauge_heavy_b5
      rw [show decide (((l.length : Nat) : Int) < ((l.length : Nat) : Int)) = false by simp]
      rfl)
    l.length 0 ([], 0) N (by omega) (by omega) ⟨rfl, by simp, fun x => ⟨fun h => (by cases h), fun ⟨i, h, _⟩ => (by omega)⟩⟩
  dsimp only at ho hm
  refine ⟨out, ?_, by omega, hm⟩
  unfold gauge_heavy
  rw [h1]
  rfl

theorem heavy_s2_inner {N : Nat} (hN : 40 ≤ N) {l : List api_Span} (hl : l.length ≤ 30) (hs : ∀ s ∈ l, Spn s 100000000000) (i : Nat) :
    loopO (fun s14 => gauge_heavy_s2_b14 N l (i : Int) s14.1 s14.2) N (0, 0) = some (.go (hsum (·.Lo) (·.Hi) l i l.length, (l.length : Int))) ∧ (hsum (·.Lo) (·.Hi) l i l.length).natAbs ≤ 30 * 100000000000 := by
  obtain ⟨⟨a, x⟩, h1, hx, ha, hb⟩ := loopInv (fun s14 => gauge_heavy_s2_b14 N l (i : Int) s14.1 s14.2) (fun k s => s.2 = (k : Int) ∧ s.1 = hsum (·.Lo) (·.Hi) l i k ∧ s.1.natAbs ≤ k * 100000000000) l.length
    (by
      rintro k ⟨a, x⟩ hk ⟨rfl, h2, h3⟩
      dsimp only at h2 h3 ⊢
      have hsp := hs l[k] (List.getElem_mem _)
      have p1 := hsp.lo
      have p2 := hsp.hi
      have hlt : decide ((k : Int) < ((l.length : Nat) : Int)) = true := by simp; omega
      have hnx : hsum (·.Lo) (·.Hi) l i (k + 1) = hsum (·.Lo) (·.Hi) l i k + (if k = i then l[k].Lo else l[k].Hi) := by
        unfold hsum
        rw [List.range_succ, sumBy_snoc, get_getD (d := s0) hk]
      refine ⟨(hsum (·.Lo) (·.Hi) l i (k + 1), ((k + 1 : Nat) : Int)), ?_, rfl, rfl, ?_⟩
      · unfold gauge_heavy_s2_b14 gauge_heavy_s2_j18 gauge_high_1 gauge_low_1
        rw [hlt, getI_nat hk, W_succ (by omega)]
        simp only [cond_true, Option.bind_some]
        cases hb : ((k : Int) == (i : Int)) with
        | true =>
          have : k = i := by have := beq_iff_eq.1 hb; omega
          rw [if_pos this] at hnx
          rw [hnx, ← h2, W_id (n := a + l[k].Lo) (by omega) (by omega)]
          rfl
        | false =>
          have : ¬ k = i := by intro e; subst e; simp at hb
          rw [if_neg this] at hnx
          rw [hnx, ← h2, W_id (n := a + l[k].Hi) (by omega) (by omega)]
          rfl
      · dsimp only
        rw [hnx, ← h2]
        split <;> omega)
    (by
      rintro ⟨a, x⟩ ⟨rfl, -⟩
      dsimp only
      unfold gauge_heavy_s2_b14
      rw [show decide (((l.length : Nat) : Int) < ((l.length : Nat) : Int)) = false by simp]
      rfl)
    l.length 0 (0, 0) N (by omega) (by omega) ⟨rfl, rfl, by simp⟩
  dsimp only at hx ha hb
  rw [h1, hx, ha]
  rw [ha] at hb
  exact ⟨rfl, Nat.le_trans hb (Nat.mul_le_mul_right _ hl)⟩

theorem heavy_s2_spec {N : Nat} (hN : 40 ≤ N) {l : List api_Span} (hl : l.length ≤ 30) (hs : ∀ s ∈ l, Spn s 100000000000) {p : Int} (hp : 0 ≤ p ∧ p ≤ 1000) :
    ∃ out, gauge_heavy_s2 N l p = some out ∧ out.length ≤ 30 ∧ ∀ x, x ∈ out ↔ ∃ i : Nat, i < l.length ∧ x = (i : Int) ∧ p * hsum (·.Lo) (·.Hi) l i l.length < 1000 * (l.getD i s0).Lo := by
  obtain ⟨⟨out, x⟩, h1, hx, ho, hm⟩ := loopInv (fun s5 => gauge_heavy_s2_b5 N l p s5.1 s5.2) (fun k s => s.2 = (k : Int) ∧ s.1.length ≤ k ∧ ∀ x, x ∈ s.1 ↔ ∃ i : Nat, i < k ∧ x = (i : Int) ∧ p * hsum (·.Lo) (·.Hi) l i l.length < 1000 * (l.getD i s0).Lo) l.length
    (by
      rintro k ⟨out, x⟩ hk ⟨rfl, h2, h3⟩
      dsimp only at h2 h3 ⊢
      obtain ⟨e1, b1⟩ := heavy_s2_inner hN hl hs k
      have hsp := hs l[k] (List.getElem_mem _)
      have p1 := hsp.lo
      have p2 := hsp.hi
      have hlt : decide ((k : Int) < ((l.length : Nat) : Int)) = true := by simp; omega
      have hb := absmul (x := p) (A := 1000) (by omega) b1
      have w1 : W (p * hsum (·.Lo) (·.Hi) l k l.length) = p * hsum (·.Lo) (·.Hi) l k l.length := W_id (by omega) (by omega)
      have w2 : W (1000 * l[k].Lo) = 1000 * l[k].Lo := W_id (by omega) (by omega)
      unfold gauge_heavy_s2_b5 gauge_heavy_s2_j9 gauge_low_1
      rw [hlt]
      simp only [cond_true]
      rw [e1]
      simp only [Option.bind_some, exK, getI_nat hk, w1, w2, W_succ (i := k) (by omega)]
      cases hd : decide (p * hsum (·.Lo) (·.Hi) l k l.length < 1000 * l[k].Lo) with
      | true =>
        have hd' := of_decide_eq_true hd
        rw [get_getD (d := s0) hk] at hd'
        rw [room_ok (by simp; omega)]
        simp only [cond_true, Option.bind_some]
        refine ⟨_, rfl, rfl, by simp; omega, ?_⟩
        intro x
        rw [List.mem_append, List.mem_singleton, h3 x]
        constructor
        · rintro (⟨i, a, b, c⟩ | rfl)
          · exact ⟨i, by omega, b, c⟩
          · exact ⟨k, by omega, rfl, hd'⟩
        · rintro ⟨i, a, b, c⟩
          by_cases hik : i < k
          · exact .inl ⟨i, hik, b, c⟩
          · obtain rfl : i = k := by omega
            exact .inr b
      | false =>
        have hd' := of_decide_eq_false hd
        rw [get_getD (d := s0) hk] at hd'
        simp only [cond_false]
        refine ⟨_, rfl, rfl, by dsimp only; omega, ?_⟩
        intro x
        rw [h3 x]
        constructor
        · rintro ⟨i, a, b, c⟩
          exact ⟨i, by omega, b, c⟩
        · rintro ⟨i, a, b, c⟩
          by_cases hik : i < k
          · exact ⟨i, hik, b, c⟩
          · obtain rfl : i = k := by omega
            exact absurd c hd')
    (by
      rintro ⟨out, x⟩ ⟨rfl, -⟩
      dsimp only
      unfold gauge_heavy_s2_b5
      rw [show decide (((l.length : Nat) : Int) < ((l.length : Nat) : Int)) = false by simp]
      rfl)
    l.length 0 ([], 0) N (by omega) (by omega) ⟨rfl, by simp, fun x => ⟨fun h => (by cases h), fun ⟨i, h, _⟩ => (by omega)⟩⟩
  dsimp only at ho hm
  refine ⟨out, ?_, by omega, hm⟩
  unfold gauge_heavy_s2
  rw [h1]
  rfl

/-! ### Whether all numbers are in another list -/
theorem contains_true {N : Nat} {b : List Int} (hb : b.length ≤ 30) (hN : 40 ≤ N) {v : Int} (h : v ∈ b) : slices_Contains_Lint_int N b v = some true := by
  unfold slices_Contains_Lint_int slices_Index_Lint_int
  rcases indexLoop (fun e => v == e) b (by omega) (fun s4 => slices_Index_Lint_int_b4 N b v s4) (fun x => rfl) b.length 0 N (by omega) (by omega) with ⟨k, h1, h2, h3⟩ | ⟨h1, h2⟩
  · rw [show ((0 : Nat) : Int) = 0 from rfl] at h1
    rw [h1]
    simp [exK, h2]
  · rw [List.drop_zero, List.any_eq_false] at h2
    exact absurd (h2 v h) (by simp)
theorem part_true {N : Nat} {a b : List Int} (ha : a.length ≤ 30) (hb : b.length ≤ 30) (hN : 40 ≤ N) (h : ∀ x ∈ a, x ∈ b) : law03_part N a b = some true := by
  obtain ⟨x, h1, -⟩ := loopInv (fun s4 => law03_part_b4 N a b s4) (fun i s => s = (i : Int)) a.length
    (by
      rintro i x hi rfl
      refine ⟨((i + 1 : Nat) : Int), ?_, rfl⟩
      have hlt : decide ((i : Int) < ((a.length : Nat) : Int)) = true := by simp; omega
      unfold law03_part_b4
      rw [hlt, getI_nat hi, W_succ (by omega)]
      simp only [cond_true, Option.bind_some, contains_true hb hN (h _ (List.getElem_mem hi)), Bool.not_true, cond_false])
    (by
      rintro x rfl
      unfold law03_part_b4
      rw [show decide (((a.length : Nat) : Int) < ((a.length : Nat) : Int)) = false by simp]
      rfl)
    a.length 0 0 N (by omega) (by omega) rfl
  unfold law03_part
  rw [h1]
  rfl

/-! ### What is read better -/
theorem sumBy_le {α : Type} {f g : α → Int} {l : List α} (h : ∀ x ∈ l, f x ≤ g x) : sumBy f l ≤ sumBy g l := by
  unfold sumBy
  induction l with
  | nil => simp
  | cons x l ih =>
    have h1 := h x List.mem_cons_self
    have h2 := ih (fun y hy => h y (List.mem_cons_of_mem _ hy))
    simp only [List.map_cons, List.sum_cons]
    omega
/-- The sum without one's own part. -/
def rest (oth : api_Span → Int) (l : List api_Span) (i k : Nat) : Int := sumBy (fun j => if j = i then 0 else oth (l.getD j s0)) (List.range k)
theorem hsum_rest {mine oth : api_Span → Int} {l : List api_Span} {i : Nat} : ∀ k, hsum mine oth l i k = rest oth l i k + (if i < k then mine (l.getD i s0) else 0)
  | 0 => by simp [hsum, rest, sumBy]
  | k + 1 => by
    have ih := hsum_rest (mine := mine) (oth := oth) (l := l) (i := i) k
    unfold hsum rest at ih ⊢
    rw [List.range_succ, sumBy_snoc, sumBy_snoc, ih]
    by_cases h : k = i
    · subst h
      simp
    · rw [if_neg h, if_neg h]
      by_cases h2 : i < k
      · rw [if_pos h2, if_pos (show i < k + 1 by omega)]; omega
      · rw [if_neg h2, if_neg (show ¬ i < k + 1 by omega)]; omega
end Go.Nilo
