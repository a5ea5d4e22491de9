/-
  What the plain functions compute, in plain arithmetic, part 8. Conditions: what each theorem names.
-/
import Derived.Test.YtbgjmnbgilddgaaMiL7
set_option linter.unusedSimpArgs false
set_option linter.unusedVariables false
namespace Go.Nilo
theorem getD_set {α : Type} {l : List α} {i j : Nat} {x d : α} (hi : i < l.length) : (l.set i x).getD j d = if j = i then x else l.getD j d := by
  by_cases h : j = i
  · subst h; simp [List.getD, hi]
  · rw [if_neg h]; simp [List.getD, Ne.symm h]
def s0 : api_Span := ⟨0, 0⟩
def hsum (mine oth : api_Span → Int) (l : List api_Span) (i k : Nat) : Int := sumBy (fun j => if j = i then mine (l.getD j s0) else oth (l.getD j s0)) (List.range k)
theorem heavy_inner {N : Nat} (hN : 40 ≤ N) {l : List api_Span} (hl : l.length ≤ 30) (hs : ∀ s ∈ l, Spn s 100000000000) (i : Nat) :
    loopO (fun s14 => gauge_heavy_b14 N l (i : Int) s14.1 s14.2) N (0, 0) = some (.go (hsum (·.Hi) (·.Lo) l i l.length, (l.length : Int))) ∧ (hsum (·.Hi) (·.Lo) l i l.length).natAbs ≤ 30 * 100000000000 := by
  obtain ⟨⟨a, x⟩, h1, hx, ha, hb⟩ := loopInv (fun s14 => gauge_heavy_b14 N l (i : Int) s14.1 s14.2) (fun k s => s.2 = (k : Int) ∧ s.1 = hsum (·.Hi) (·.Lo) l i k ∧ s.1.natAbs ≤ k * 100000000000) l.length
    (by
      rintro k ⟨a, x⟩ hk ⟨rfl, h2, h3⟩
      dsimp only at h2 h3 ⊢
      have hsp := hs l[k] (List.getElem_mem _)
      have p1 := hsp.lo
      have p2 := hsp.hi
      have hlt : decide ((k : Int) < ((l.length : Nat) : Int)) = true := by simp; omega
      have hnx : hsum (·.Hi) (·.Lo) l i (k + 1) = hsum (·.Hi) (·.Lo) l i k + (if k = i then l[k].Hi else l[k].Lo) := by
        unfold hsum
        rw [List.range_succ, sumBy_snoc, get_getD (d := s0) hk]
      refine ⟨(hsum (·.Hi) (·.Lo) l i (k + 1), ((k + 1 : Nat) : Int)), ?_, rfl, rfl, ?_⟩
      · unfold gauge_heavy_b14 gauge_heavy_j18 gauge_high_1 gauge_low_1
        rw [hlt, getI_nat hk, W_succ (by omega)]
        simp only [cond_true, Option.bind_some]
        cases hb : ((k : Int) == (i : Int)) with
        | true =>
          have : k = i := by have := beq_iff_eq.1 hb; omega
          rw [if_pos this] at hnx
          rw [hnx, ← h2, W_id (n := a + l[k].Hi) (by omega) (by omega)]
          rfl
        | false =>
          have : ¬ k = i := by intro e; subst e; simp at hb
          rw [if_neg this] at hnx
          rw [hnx, ← h2, W_id (n := a + l[k].Lo) (by omega) (by omega)]
          rfl
      · dsimp only
        rw [hnx, ← h2]
        split <;> omega)
    (by
      rintro ⟨a, x⟩ ⟨rfl, -⟩
      dsimp only
      unfold gauge_heavy_b14
      rw [show decide (((l.length : Nat) : Int) < ((l.length : Nat) : Int)) = false by simp]
      rfl)
    l.length 0 (0, 0) N (by omega) (by omega) ⟨rfl, rfl, by simp⟩
  dsimp only at hx ha hb
  rw [h1, hx, ha]
  rw [ha] at hb
  exact ⟨rfl, Nat.le_trans hb (Nat.mul_le_mul_right _ hl)⟩
theorem heavy_s2_inner {N : Nat} (hN : 40 ≤ N) {l : List api_Span} (hl : l.length ≤ 30) (hs : ∀ s ∈ l, Spn s 100000000000) (i : Nat) :
    loopO (fun s14 => gauge_heavy_s2_b14 N l (i : Int) s14.1 s14.2) N (0, 0) = some (.go (hsum (·.Lo) (·.Hi) l i l.length, (l.length : Int))) ∧ (hsum (·.Lo) (·.Hi) l i l.length).natAbs ≤ 30 * 100000000000 := by
  obtain ⟨⟨a, x⟩, h1, hx, ha, hb⟩ := loopInv (fun s14 => gauge_heavy_s2_b14 N l (i : Int) s14.1 s14.2) (fun k s => s.2 = (k : Int) ∧ s.1 = hsum (·.Lo) (·.Hi) l i k ∧ s.1.natAbs ≤ k * 100000000000) l.length
    (by
      rintro k ⟨a, x⟩ hk ⟨rfl, h2, h3⟩
      dsimp only at h2 h3 ⊢
      have hsp := hs l[k] (List.getElem_mem _)
      have p1 := hsp.lo
      have p2 := hsp.hi
      have hlt : decide ((k : Int) < ((l.length : Nat) : Int)) = true := by simp; omega
      have hnx : hsum (·.Lo) (·.Hi) l i (k + 1) = hsum (·.Lo) (·.Hi) l i k + (if k = i then l[k].Lo else l[k].Hi) := by
        unfold hsum
        rw [List.range_succ, sumBy_snoc, get_getD (d := s0) hk]
      refine ⟨(hsum (·.Lo) (·.Hi) l i (k + 1), ((k + 1 : Nat) : Int)), ?_, rfl, rfl, ?_⟩
      · unfold gauge_heavy_s2_b14 gauge_heavy_s2_j18 gauge_high_1 gauge_low_1
        rw [hlt, getI_nat hk, W_succ (by omega)]
        simp only [cond_true, Option.bind_some]
        cases hb : ((k : Int) == (i : Int)) with
        | true =>
          have : k = i := by have := beq_iff_eq.1 hb; omega
          rw [if_pos this] at hnx
          rw [hnx, ← h2, W_id (n := a + l[k].Lo) (by omega) (by omega)]
          rfl
        | false =>
          have : ¬ k = i := by intro e; subst e; simp at hb
          rw [if_neg this] at hnx
          rw [hnx, ← h2, W_id (n := a + l[k].Hi) (by omega) (by omega)]
          rfl
      · dsimp only
        rw [hnx, ← h2]
        split <;> omega)
    (by
      rintro ⟨a, x⟩ ⟨rfl, -⟩
      dsimp only
      unfold gauge_heavy_s2_b14
      rw [show decide (((l.length : Nat) : Int) < ((l.length : Nat) : Int)) = false by simp]
      rfl)
    l.length 0 (0, 0) N (by omega) (by omega) ⟨rfl, rfl, by simp⟩
  dsimp only at hx ha hb
  rw [h1, hx, ha]
  rw [ha] at hb
  exact ⟨rfl, Nat.le_trans hb (Nat.mul_le_mul_right _ hl)⟩
theorem pans_get {g : gauge_Gauging} {i : Nat} (hi : i < g.Verticals.length) : (pans g).getD i s0 = panI g i := by simp [pans, List.getD, hi]
theorem pans_spn {g : gauge_Gauging} (h : GOk g) : ∀ s ∈ pans g, Spn s 100000000000 := by
  intro s hs
  unfold pans at hs
  obtain ⟨i, hi, rfl⟩ := List.mem_map.1 hs
  exact panI_bd h (List.mem_range.1 hi)
end Go.Nilo
