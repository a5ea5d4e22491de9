/-
  What the plain functions compute, in plain arithmetic, part 5. Conditions: what each theorem names.
-/
import Derived.Test.YtlbmcojegiabpaaLeL4
set_option linter.unusedSimpArgs false
set_option linter.unusedVariables false
namespace Go.Nilo
structure Within (years : List share_Year) (ts : List share_Truth) : Prop where
  l : ts.length = years.length
  ok : ∀ j, j < years.length → TOk (ts.getD j t0)
  i : ∀ j, j < years.length → (years.getD j y0).Index.Lo ≤ (ts.getD j t0).Index ∧ (ts.getD j t0).Index ≤ (years.getD j y0).Index.Hi
  d : ∀ j, j < years.length → (years.getD j y0).Delivered.Lo ≤ (ts.getD j t0).Delivered ∧ (ts.getD j t0).Delivered ≤ (years.getD j y0).Delivered.Hi

theorem bd_far {n : Nat} {d : Int} {B C : Nat} (hn : n ≤ 40) (hB : B = 20000000) (hC : C = 1000000) (h : d.natAbs ≤ B + C * (n + 1)) : d.natAbs ≤ 1000000000 := by
  have : C * (n + 1) ≤ C * 41 := Nat.mul_le_mul_left _ (by omega)
  omega
theorem owed_spec {N : Nat} (hN : 60 ≤ N) {b : share_Border} (h : BOk b) {start : Int} (hs : start.natAbs ≤ 20000000) {years : List share_Year} (hl : years.length ≤ 40) (hy : ∀ y ∈ years, YOk y) {ts : List share_Truth} (ht : Within years ts) :
    ∃ out : List Int, share_Owed N b start years ts = some (out, 0) ∧ out.length = years.length ∧ ∀ j, j < years.length → out.getD j 0 = debtS b years (fun j => ts.getD j t0) start (j + 1) := by
  have hbd : ∀ n, n ≤ years.length → (debtS b years (fun j => ts.getD j t0) start n).natAbs ≤ 1000000000 := fun n hn => by
    have := debtS_bd h (years := years) (ts := fun j => ts.getD j t0) hs n (fun j hj => ht.ok j (by omega))
    exact bd_far (Nat.le_trans hn hl) rfl rfl this
  obtain ⟨⟨out, x, d, mp⟩, h1, -, hlen, hel, -, -⟩ := loopInv (fun s12 => share_Owed_b12 N b years ts ((fun _ => none : Int → Option Int), b.Credit, start) s12.1 s12.2.1 s12.2.2.1 s12.2.2.2)
    (fun i s => s.2.1 = (i : Int) ∧ s.1.length = i ∧ (∀ j, j < i → s.1.getD j 0 = debtS b years (fun j => ts.getD j t0) start (j + 1)) ∧ s.2.2.1 = debtS b years (fun j => ts.getD j t0) start i ∧ MapOk b.Table s.2.2.2) years.length
    (by
      rintro i ⟨out, x, d, mp⟩ hi ⟨rfl, h2, h3, h4, h5⟩
      dsimp only at h2 h3 h4 h5 ⊢
      have hti : i < ts.length := by rw [ht.l]; exact hi
      have hok := ht.ok i hi
      have hii := ht.i i hi
      have hdi := ht.d i hi
      rw [← get_getD hti] at hok hii hdi
      rw [← get_getD hi] at hii hdi
      have hlt : decide ((i : Int) < ((years.length : Nat) : Int)) = true := by simp; omega
      obtain ⟨mp', e1, m1⟩ := goes_spec hN h hok (spill := years[i].Spill) h5 (d := d) (by rw [h4]; exact hbd i (by omega))
      have hnx : nextD b d ts[i] years[i].Spill = debtS b years (fun j => ts.getD j t0) start (i + 1) := by
        rw [debtS, ← h4, ← get_getD hti, ← get_getD hi]
      have i1 : share_in ts[i].Index years[i].Index.Lo years[i].Index.Hi = true := by unfold share_in; simp only [Bool.and_eq_true, decide_eq_true_eq]; omega
      have i2 : share_in ts[i].Delivered years[i].Delivered.Lo years[i].Delivered.Hi = true := by unfold share_in; simp only [Bool.and_eq_true, decide_eq_true_eq]; omega
      refine ⟨(out ++ [nextD b d ts[i] years[i].Spill], ((i + 1 : Nat) : Int), nextD b d ts[i] years[i].Spill, mp'), ?_, rfl, by simp [h2], ?_, hnx, m1⟩
      · unfold share_Owed_b12
        rw [hlt, getI_nat hi, getI_nat hti]
        have hbe : (⟨b.Table, b.Credit⟩ : share_Border) = b := rfl
        simp only [cond_true, Option.bind_some, i1, i2, Bool.not_true, Bool.or_false, cond_false, hbe, e1, W_succ (i := i) (by omega)]
        rw [room_ok (by simp; omega)]
        rfl
      · intro j hj
        dsimp only
        by_cases hji : j < i
        · rw [getD_lt (by omega)]; exact h3 j hji
        · obtain rfl : j = out.length := by omega
          rw [getD_eq, h2]; exact hnx)
    (by
      rintro ⟨out, x, d, mp⟩ ⟨rfl, -⟩
      dsimp only
      unfold share_Owed_b12
      rw [show decide (((years.length : Nat) : Int) < ((years.length : Nat) : Int)) = false by simp]
      rfl)
    years.length 0 ([], 0, start, fun _ => none) N (by omega) (by omega) ⟨rfl, rfl, by intro j hj; omega, rfl, (by intro k v hk; cases hk)⟩
  dsimp only at hlen hel
  refine ⟨out, ?_, hlen, hel⟩
  unfold share_Owed share_Border_goes
  rw [asked_spec hN h (by omega) hl hy, ht.l]
  simp only [Option.bind_some, bne_self_eq_false, cond_false]
  rw [h1]
  rfl

def lowT (years : List share_Year) (j : Nat) : share_Truth := ⟨(years.getD j y0).Index.Lo, (years.getD j y0).Delivered.Hi⟩
def highT (years : List share_Year) (j : Nat) : share_Truth := ⟨(years.getD j y0).Index.Hi, (years.getD j y0).Delivered.Lo⟩
theorem yget {years : List share_Year} (hy : ∀ y ∈ years, YOk y) {j : Nat} (hj : j < years.length) : YOk (years.getD j y0) := by
  rw [← get_getD hj]
  exact hy _ (List.getElem_mem _)
theorem lowT_ok {years : List share_Year} (hy : ∀ y ∈ years, YOk y) {j : Nat} (hj : j < years.length) : TOk (lowT years j) := by
  obtain ⟨a, c⟩ := yget hy hj
  exact ⟨⟨a.1, Int.le_trans a.2.1 a.2.2⟩, ⟨Int.le_trans c.1 c.2.1, c.2.2⟩⟩
theorem highT_ok {years : List share_Year} (hy : ∀ y ∈ years, YOk y) {j : Nat} (hj : j < years.length) : TOk (highT years j) := by
  obtain ⟨a, c⟩ := yget hy hj
  exact ⟨⟨Int.le_trans a.1 a.2.1, a.2.2⟩, ⟨c.1, Int.le_trans c.2.1 c.2.2⟩⟩

theorem debts_spec {N : Nat} (hN : 60 ≤ N) {b : share_Border} (h : BOk b) {lo hi : Int} (hs : lo.natAbs ≤ 20000000 ∧ hi.natAbs ≤ 20000000 ∧ lo ≤ hi) {years : List share_Year} (hl : years.length ≤ 40) (hy : ∀ y ∈ years, YOk y) :
    ∃ out : List api_Span, share_Debts N b ⟨lo, hi⟩ years = some (out, 0) ∧ out.length = years.length ∧ ∀ j, j < years.length → out.getD j ⟨0, 0⟩ = ⟨debtS b years (lowT years) lo (j + 1), debtS b years (highT years) hi (j + 1)⟩ := by
  have hbd1 : ∀ n, n ≤ years.length → (debtS b years (lowT years) lo n).natAbs ≤ 1000000000 := fun n hn => by
    have := debtS_bd h (years := years) (ts := lowT years) hs.1 n (fun j hj => lowT_ok hy (by omega))
    exact bd_far (Nat.le_trans hn hl) rfl rfl this
  have hbd2 : ∀ n, n ≤ years.length → (debtS b years (highT years) hi n).natAbs ≤ 1000000000 := fun n hn => by
    have := debtS_bd h (years := years) (ts := highT years) hs.2.1 n (fun j hj => highT_ok hy (by omega))
    exact bd_far (Nat.le_trans hn hl) rfl rfl this
  obtain ⟨⟨out, x, d1, d2, mp, mp1⟩, h1, -, hlen, hel, -, -, -, -⟩ := loopInv (fun s11 => share_Debts_b11 N b years ((fun _ => none : Int → Option Int), b.Credit, lo) ((fun _ => none : Int → Option Int), b.Credit, hi) s11.1 s11.2.1 s11.2.2.1 s11.2.2.2.1 s11.2.2.2.2.1 s11.2.2.2.2.2)
    (fun i s => s.2.1 = (i : Int) ∧ s.1.length = i ∧ (∀ j, j < i → s.1.getD j ⟨0, 0⟩ = ⟨debtS b years (lowT years) lo (j + 1), debtS b years (highT years) hi (j + 1)⟩) ∧ s.2.2.1 = debtS b years (lowT years) lo i ∧ s.2.2.2.1 = debtS b years (highT years) hi i ∧ MapOk b.Table s.2.2.2.2.1 ∧ MapOk b.Table s.2.2.2.2.2) years.length
    (by
      rintro i ⟨out, x, d1, d2, mp, mp1⟩ hi' ⟨rfl, h2, h3, h4, h5, h6, h7⟩
      dsimp only at h2 h3 h4 h5 h6 h7 ⊢
      have hlt : decide ((i : Int) < ((years.length : Nat) : Int)) = true := by simp; omega
      have k1 := lowT_ok hy hi'
      have k2 := highT_ok hy hi'
      obtain ⟨q1, e1, m1⟩ := goes_spec hN h k1 (spill := years[i].Spill) h7 (d := d1) (by rw [h4]; exact hbd1 i (by omega))
      obtain ⟨q2, e2, m2⟩ := goes_spec hN h k2 (spill := years[i].Spill) h6 (d := d2) (by rw [h5]; exact hbd2 i (by omega))
      have n1 : nextD b d1 (lowT years i) years[i].Spill = debtS b years (lowT years) lo (i + 1) := by rw [debtS, ← h4, ← get_getD hi']
      have n2 : nextD b d2 (highT years i) years[i].Spill = debtS b years (highT years) hi (i + 1) := by rw [debtS, ← h5, ← get_getD hi']
      have u1 : lowT years i = ⟨years[i].Index.Lo, years[i].Delivered.Hi⟩ := by unfold lowT; rw [← get_getD hi']
      have u2 : highT years i = ⟨years[i].Index.Hi, years[i].Delivered.Lo⟩ := by unfold highT; rw [← get_getD hi']
      rw [u1] at e1 n1
      rw [u2] at e2 n2
      refine ⟨(out ++ [⟨nextD b d1 ⟨years[i].Index.Lo, years[i].Delivered.Hi⟩ years[i].Spill, nextD b d2 ⟨years[i].Index.Hi, years[i].Delivered.Lo⟩ years[i].Spill⟩], ((i + 1 : Nat) : Int), nextD b d1 ⟨years[i].Index.Lo, years[i].Delivered.Hi⟩ years[i].Spill, nextD b d2 ⟨years[i].Index.Hi, years[i].Delivered.Lo⟩ years[i].Spill, q2, q1), ?_, rfl, by simp [h2], ?_, n1, n2, m2, m1⟩
      · unfold share_Debts_b11 share_low_1 share_low_2 share_high_1 share_high_2
        rw [hlt, getI_nat hi']
        have hbe : (⟨b.Table, b.Credit⟩ : share_Border) = b := rfl
        simp only [cond_true, Option.bind_some, hbe, e1, e2, W_succ (i := i) (by omega)]
        rw [room_ok (by simp; omega)]
        rfl
      · intro j hj
        dsimp only
        by_cases hji : j < i
        · rw [getD_lt (by omega)]; exact h3 j hji
        · obtain rfl : j = out.length := by omega
          rw [getD_eq, h2, n1, n2])
    (by
      rintro ⟨out, x, d1, d2, mp, mp1⟩ ⟨rfl, -⟩
      dsimp only
      unfold share_Debts_b11
      rw [show decide (((years.length : Nat) : Int) < ((years.length : Nat) : Int)) = false by simp]
      rfl)
    years.length 0 ([], 0, lo, hi, fun _ => none, fun _ => none) N (by omega) (by omega) ⟨rfl, rfl, by intro j hj; omega, rfl, rfl, (by intro k v hk; cases hk), (by intro k v hk; cases hk)⟩
  dsimp only at hlen hel
  refine ⟨out, ?_, hlen, hel⟩
  unfold share_Debts share_Border_goes share_low share_high
  rw [asked_spec hN h (by omega) hl hy]
  simp only [Option.bind_some, bne_self_eq_false, cond_false]
  rw [h1]
  rfl
end Go.Nilo
