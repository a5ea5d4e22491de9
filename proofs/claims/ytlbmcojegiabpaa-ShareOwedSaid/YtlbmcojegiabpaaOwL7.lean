/-
  What the plain functions compute, in plain arithmetic, part 7. Conditions: what each theorem names.
-/
import Derived.Test.YtlbmcojegiabpaaOwL6
set_option linter.unusedSimpArgs false
set_option linter.unusedVariables false
namespace Go.Nilo
theorem awake_true : law09_awake 60 = some true := by decide +kernel
theorem debtS_congr {b : share_Border} {years : List share_Year} {ts ts' : Nat → share_Truth} {s : Int} : ∀ n, (∀ j, j < n → ts j = ts' j) → debtS b years ts s n = debtS b years ts' s n
  | 0, _ => rfl
  | n + 1, h => by rw [debtS, debtS, debtS_congr n (fun j hj => h j (by omega)), h n (by omega)]
theorem Due_spec {N : Nat} (hN : 60 ≤ N) {b : share_Border} (h : BOk b) {t : Int} (ht : 0 ≤ t ∧ t ≤ 1000000) : share_Due N b t = some (dueF b.Table t, 0) := by
  have hw : share_water t = true := by unfold share_water share_in; simp; omega
  unfold share_Due
  rw [border_spec hN h]
  simp only [Option.bind_some, bne_self_eq_false, cond_false, hw, Bool.not_true, due_spec hN h ht]

theorem ends_loop {N : Nat} (hN : 60 ≤ N) {r1 : share_Border × api_Span × (List share_Year) × (List share_Truth) × Int × Int} (hl : r1.2.2.1.length ≤ 12) :
    ∃ low high x, loopO (fun s12 => law09_ShareOwed_b12 N r1 s12.1 s12.2.1 s12.2.2.1 s12.2.2.2) N (r1.2.2.1, ([] : List share_Truth), ([] : List share_Truth), 0) = some (.go (r1.2.2.1, low, high, x)) ∧ low.length = r1.2.2.1.length ∧ high.length = r1.2.2.1.length ∧
      (∀ j, j < r1.2.2.1.length → low.getD j t0 = lowT r1.2.2.1 j) ∧ (∀ j, j < r1.2.2.1.length → high.getD j t0 = highT r1.2.2.1 j) := by
  obtain ⟨⟨l, low, high, x⟩, h1, rfl, -, h3, h4, h5, h6⟩ := loopInv (fun s12 => law09_ShareOwed_b12 N r1 s12.1 s12.2.1 s12.2.2.1 s12.2.2.2)
    (fun i s => s.1 = r1.2.2.1 ∧ s.2.2.2 = (i : Int) ∧ s.2.1.length = i ∧ s.2.2.1.length = i ∧ (∀ j, j < i → s.2.1.getD j t0 = lowT r1.2.2.1 j) ∧ (∀ j, j < i → s.2.2.1.getD j t0 = highT r1.2.2.1 j)) r1.2.2.1.length
    (by
      rintro i ⟨l, low, high, x⟩ hi ⟨rfl, rfl, h3, h4, h5, h6⟩
      dsimp only at h3 h4 h5 h6 ⊢
      have hlt : decide ((i : Int) < ((r1.2.2.1.length : Nat) : Int)) = true := by simp; omega
      refine ⟨(r1.2.2.1, low ++ [lowT r1.2.2.1 i], high ++ [highT r1.2.2.1 i], ((i + 1 : Nat) : Int)), ?_, rfl, rfl, by simp [h3], by simp [h4], ?_, ?_⟩
      · unfold law09_ShareOwed_b12
        have u1 : lowT r1.2.2.1 i = ⟨r1.2.2.1[i].Index.Lo, r1.2.2.1[i].Delivered.Hi⟩ := by unfold lowT; rw [← get_getD hi]
        have u2 : highT r1.2.2.1 i = ⟨r1.2.2.1[i].Index.Hi, r1.2.2.1[i].Delivered.Lo⟩ := by unfold highT; rw [← get_getD hi]
        rw [u1, u2, hlt, getI_nat hi]
        simp only [cond_true, Option.bind_some, W_succ (i := i) (by omega)]
        rw [room_ok (by simp; omega), room_ok (by simp; omega)]
        rfl
      · intro j hj
        dsimp only
        by_cases hji : j < i
        · rw [getD_lt (by omega)]; exact h5 j hji
        · obtain rfl : j = low.length := by omega
          rw [getD_eq, h3]
      · intro j hj
        dsimp only
        by_cases hji : j < i
        · rw [getD_lt (by omega)]; exact h6 j hji
        · obtain rfl : j = high.length := by omega
          rw [getD_eq, h4])
    (by
      rintro ⟨l, low, high, x⟩ ⟨h1, h2, -⟩
      dsimp only at h1 h2 ⊢
      subst h2
      unfold law09_ShareOwed_b12
      rw [show decide (((r1.2.2.1.length : Nat) : Int) < ((r1.2.2.1.length : Nat) : Int)) = false by simp]
      rfl)
    r1.2.2.1.length 0 (r1.2.2.1, [], [], 0) N (by omega) (by omega) ⟨rfl, rfl, rfl, rfl, (by intro j hj; cases hj), (by intro j hj; cases hj)⟩
  exact ⟨low, high, x, h1, h3, h4, h5, h6⟩

theorem year_loop {N : Nat} (hN : 60 ≤ N) {b : share_Border} (h : BOk b) {sp : api_Span} {q : Int × Int} {z4 z5 : Int} {l : List share_Year} {truth : List share_Truth} (hl : l.length ≤ 12) (hy : ∀ y ∈ l, YOk y) (ht : Within l truth) {first lo hi : Int} (hf : first.natAbs ≤ 1000) (hlo : lo ≤ first) (hhi : first ≤ hi)
    {real least most : List Int} {s : List api_Span} (r1 : real.length = l.length) (r2 : least.length = l.length) (r3 : most.length = l.length) (r4 : s.length = l.length)
    (e1 : ∀ j, j < l.length → real.getD j 0 = debtS b l (fun j => truth.getD j t0) first (j + 1)) (e2 : ∀ j, j < l.length → least.getD j 0 = debtS b l (lowT l) lo (j + 1)) (e3 : ∀ j, j < l.length → most.getD j 0 = debtS b l (highT l) hi (j + 1))
    (e4 : ∀ j, j < l.length → s.getD j ⟨0, 0⟩ = ⟨debtS b l (lowT l) lo (j + 1), debtS b l (highT l) hi (j + 1)⟩) :
    ∃ o, loopO (fun s21 => law09_ShareOwed_b21 N (b, sp, l, truth, q) l (least, z4) (most, z5) s21.1 s21.2.1 s21.2.2.1 s21.2.2.2.1 s21.2.2.2.2.1 s21.2.2.2.2.2) N (truth, real, s, first, l, 0) = some (.go o) := by
  obtain ⟨o, h1, -⟩ := loopInv (fun s21 => law09_ShareOwed_b21 N (b, sp, l, truth, q) l (least, z4) (most, z5) s21.1 s21.2.1 s21.2.2.1 s21.2.2.2.1 s21.2.2.2.2.1 s21.2.2.2.2.2)
    (fun i st => st.1 = truth ∧ st.2.1 = real ∧ st.2.2.1 = s ∧ st.2.2.2.1 = debtS b l (fun j => truth.getD j t0) first i ∧ st.2.2.2.2.1 = l ∧ st.2.2.2.2.2 = (i : Int)) l.length
    (by
      rintro i ⟨a1, a2, a3, d, a5, x⟩ hi' ⟨p1, p2, p3, p4, p5, p6⟩
      dsimp only at p1 p2 p3 p4 p5 p6 ⊢
      subst a1 a2 a3 a5 x
      have hti : i < truth.length := by rw [ht.l]; exact hi'
      have hok := ht.ok i hi'
      have hc := h.c
      have hbd := debtS_bd h (years := l) (ts := fun j => truth.getD j t0) (start := first) (by omega) i (fun j hj => ht.ok j (by omega))
      have hbd' : 1000000 * (i + 1) ≤ 1000000 * 13 := Nat.mul_le_mul_left _ (by omega)
      have hdb := (due_bd h (truth.getD i t0).Index).2.2
      have m1 := debtS_mono h (years := l) (ts := lowT l) (ts' := fun j => truth.getD j t0) hlo (i + 1) (fun j hj => ⟨(ht.i j (by omega)).1, (ht.d j (by omega)).2⟩)
      have m2 := debtS_mono h (years := l) (ts := fun j => truth.getD j t0) (ts' := highT l) hhi (i + 1) (fun j hj => ⟨(ht.i j (by omega)).2, (ht.d j (by omega)).1⟩)
      have g1 : getI real (i : Int) = some (debtS b l (fun j => truth.getD j t0) first (i + 1)) := by rw [getI_getD (by omega), e1 i hi']
      have g2 : getI least (i : Int) = some (debtS b l (lowT l) lo (i + 1)) := by rw [getI_getD (by omega), e2 i hi']
      have g3 : getI most (i : Int) = some (debtS b l (highT l) hi (i + 1)) := by rw [getI_getD (by omega), e3 i hi']
      have g4 : getI s (i : Int) = some ⟨debtS b l (lowT l) lo (i + 1), debtS b l (highT l) hi (i + 1)⟩ := by rw [getI_nat (by omega), get_getD (d := ⟨0, 0⟩) (by omega), e4 i hi']
      have g5 : getI truth (i : Int) = some (truth.getD i t0) := by rw [getI_nat hti, get_getD (d := t0) hti]
      have g6 : getI l (i : Int) = some (l.getD i y0) := by rw [getI_nat hi', get_getD (d := y0) hi']
      have hlt : decide ((i : Int) < ((l.length : Nat) : Int)) = true := by simp; omega
      have wc : W (0 - b.Credit) = 0 - b.Credit := W_id (by omega) (by omega)
      have hcr : 0 - b.Credit ≤ debtS b l (fun j => truth.getD j t0) first (i + 1) := by
        rw [debtS]; unfold nextD
        cases (l.getD i y0).Spill
        · rw [cond_false]; omega
        · rw [cond_true]; omega
      refine ⟨(truth, real, s, debtS b l (fun j => truth.getD j t0) first (i + 1), l, ((i + 1 : Nat) : Int)), ?_, rfl, rfl, rfl, rfl, rfl, rfl⟩
      unfold law09_ShareOwed_b21 law09_ShareOwed_j34
      dsimp only
      rw [hlt, g6, g1, g4, g2, g3, g5]
      have d1 : decide (debtS b l (fun j => truth.getD j t0) first (i + 1) < debtS b l (lowT l) lo (i + 1)) = false := by simp only [decide_eq_false_iff_not]; omega
      have d2 : decide (debtS b l (highT l) hi (i + 1) < debtS b l (fun j => truth.getD j t0) first (i + 1)) = false := by simp only [decide_eq_false_iff_not]; omega
      have d3 : decide (debtS b l (fun j => truth.getD j t0) first (i + 1) < 0 - b.Credit) = false := by simp only [decide_eq_false_iff_not]; omega
      simp only [cond_true, cond_false, Option.bind_some, d1, d2, bne_self_eq_false, wc, d3]
      rw [Due_spec hN h hok.i]
      simp only [Option.bind_some, bne_self_eq_false, cond_false, W_succ (i := i) (by omega)]
      have hod := hok.d
      have w1 : W (d + dueF b.Table (truth.getD i t0).Index) = d + dueF b.Table (truth.getD i t0).Index := W_id (by omega) (by omega)
      have w2 : W (d + dueF b.Table (truth.getD i t0).Index - (truth.getD i t0).Delivered) = d + dueF b.Table (truth.getD i t0).Index - (truth.getD i t0).Delivered := W_id (by omega) (by omega)
      cases hs : (l.getD i y0).Spill with
      | true =>
        have z : ∀ (ts : Nat → share_Truth) (st : Int), debtS b l ts st (i + 1) = 0 := by intro ts st; rw [debtS, hs]; rfl
        simp only [z, cond_true, cond_false, Option.bind_some, beq_self_eq_true, Bool.and_self, Bool.not_true, bne_self_eq_false]
      | false =>
        have hn : max (0 - b.Credit) (d + dueF b.Table (truth.getD i t0).Index - (truth.getD i t0).Delivered) = debtS b l (fun j => truth.getD j t0) first (i + 1) := by rw [debtS, hs, ← p4]; rfl
        simp only [cond_false, Option.bind_some, w1, w2, hn, bne_self_eq_false])
    (by
      rintro ⟨a1, a2, a3, d, a5, x⟩ ⟨p1, p2, p3, p4, p5, p6⟩
      dsimp only at p1 p2 p3 p4 p5 p6 ⊢
      subst p6
      unfold law09_ShareOwed_b21
      rw [show decide (((l.length : Nat) : Int) < ((l.length : Nat) : Int)) = false by simp]
      rfl)
    l.length 0 (truth, real, s, first, l, 0) N (by omega) (by omega) ⟨rfl, rfl, rfl, rfl, rfl, rfl⟩
  exact ⟨o, h1⟩

theorem owed_true {numbers : List Int} (hn : Bytes numbers) {at' : Int} (ha : 0 ≤ at' ∧ at' ≤ 255) : law09_ShareOwed 60 numbers at' = some true := by
  have s0 : SOk 0 0 0 := ⟨by omega, by omega, by omega, by omega⟩
  obtain ⟨b, lo, hi, l, truth, u, m, e1, hb, hs, hl, hy, hw⟩ := bordered_spec (N := 60) (by omega) hn s0 (by omega)
  have w1 : W (hi - lo) = hi - lo := W_id (by omega) (by omega)
  have w2 : W (hi - lo + 1) = hi - lo + 1 := W_id (by omega) (by omega)
  have w3 : W at' = at' := W_id (by omega) (by omega)
  have hm : 0 ≤ at' % (hi - lo + 1) ∧ at' % (hi - lo + 1) < hi - lo + 1 := ⟨Int.emod_nonneg _ (by omega), Int.emod_lt_of_pos _ (by omega)⟩
  have w4 : W (lo + at' % (hi - lo + 1)) = lo + at' % (hi - lo + 1) := W_id (by omega) (by omega)
  generalize hfirst : lo + at' % (hi - lo + 1) = first at *
  obtain ⟨real, o1, o2, o3⟩ := owed_spec (N := 60) (by omega) hb (start := first) (by omega) (by omega) hy hw
  obtain ⟨s, q1, q2, q3⟩ := debts_spec (N := 60) (by omega) hb (lo := lo) (hi := hi) (by omega) (years := l) (by omega) hy
  obtain ⟨low, high, x, h12, k1, k2, k3, k4⟩ := ends_loop (N := 60) (by omega) (r1 := (b, ⟨lo, hi⟩, l, truth, u, m)) hl
  dsimp only at h12 k1 k2 k3 k4
  have wl : Within l low := ⟨k1, fun j hj => by rw [k3 j hj]; exact lowT_ok hy hj, fun j hj => by rw [k3 j hj]; exact ⟨Int.le_refl _, (yget hy hj).i.2.1⟩, fun j hj => by rw [k3 j hj]; exact ⟨(yget hy hj).d.2.1, Int.le_refl _⟩⟩
  have wh : Within l high := ⟨k2, fun j hj => by rw [k4 j hj]; exact highT_ok hy hj, fun j hj => by rw [k4 j hj]; exact ⟨(yget hy hj).i.2.1, Int.le_refl _⟩, fun j hj => by rw [k4 j hj]; exact ⟨Int.le_refl _, (yget hy hj).d.2.1⟩⟩
  obtain ⟨least, a1, a2, a3⟩ := owed_spec (N := 60) (by omega) hb (start := lo) (by omega) (by omega) hy wl
  obtain ⟨most, c1, c2, c3⟩ := owed_spec (N := 60) (by omega) hb (start := hi) (by omega) (by omega) hy wh
  obtain ⟨o, h21⟩ := year_loop (N := 60) (by omega) hb (sp := ⟨lo, hi⟩) (q := (u, m)) (z4 := 0) (z5 := 0) hl hy hw (first := first) (lo := lo) (hi := hi) (by omega) (by omega) (by omega) o2 a2 c2 q2 o3
    (fun j hj => by rw [a3 j hj]; exact debtS_congr _ (fun i hi' => k3 i (by omega))) (fun j hj => by rw [c3 j hj]; exact debtS_congr _ (fun i hi' => k4 i (by omega))) q3
  have hz : nz (hi - lo + 1) = some () := by unfold nz; rw [if_neg (by omega)]
  unfold law09_ShareOwed kit_New
  simp only [Option.bind_some, e1, w1, w2, w3, hz, tmod_mod ha.1, hfirst, w4, o1, q1, o2, q2, bne_self_eq_false, Bool.or_false, cond_false]
  rw [h12]
  simp only [Option.bind_some, exK, a1, c1, a2, c2, bne_self_eq_false, Bool.or_false, cond_false]
  rw [h21]
  simp only [Option.bind_some, awake_true]
end Go.Nilo
