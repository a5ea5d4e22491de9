/-
  What the plain functions compute, in plain arithmetic, part 3. Conditions: what each theorem names.
-/
import Derived.Test.YtbgjmnbgilddgaaDyL2
set_option linter.unusedSimpArgs false
namespace Go.Nilo
theorem dyed_true {numbers truth : List Int} (hn : Bytes numbers) (ht : Bytes truth) : law03_GaugeDyed 60 numbers truth = some true := by
  have s0 : SOk 0 0 0 := ⟨by omega, by omega, by omega, by omega⟩
  obtain ⟨d, u, m, h1, ⟨dr, ds, df, dc, dcf, dfs⟩⟩ := dyed_spec (N := 60) hn s0 (by omega)
  obtain ⟨R, S, F, C⟩ := d
  obtain ⟨⟨r1, r2, r3⟩, ⟨s1, s2, s3⟩, ⟨f1, f2, f3⟩, ⟨c1, c2, c3⟩⟩ := And.intro dr (And.intro ds (And.intro df dc))
  dsimp only at r1 r2 r3 s1 s2 s3 f1 f2 f3 c1 c2 c3 dcf dfs dr ds df dc
  obtain ⟨rate, u1, m1, h2, a1, b1, t1⟩ := within_spec (N := 60) ht (lo := R.Lo) (hi := R.Hi) s0 (by omega) (by omega) (by omega) r2
  obtain ⟨strong, u2, m2, h3, a2, b2, t2⟩ := within_spec (N := 60) ht (lo := S.Lo) (hi := S.Hi) t1 (by omega) (by omega) (by omega) s2
  obtain ⟨found, u3, m3, h4, a3, b3, t3⟩ := within_spec (N := 60) ht (lo := F.Lo) (hi := F.Hi) t2 (by omega) (by omega) (by omega) f2
  obtain ⟨clean, u4, m4, h5, a4, b4, t4⟩ := within_spec (N := 60) ht (lo := C.Lo) (hi := C.Hi) t3 (by omega) (by omega) (by omega) c2
  have up : ∀ {s : api_Span} {a b : Int}, Ok0 s a → a ≤ b → Ok0 s b := fun h hb => ⟨h.1, h.2.1, Int.le_trans h.2.2 hb⟩
  have T1 := thinned_ok (N := 60) (by omega) (up dr (by omega)) (up ds (by omega)) (up df (by omega)) (up dc (by omega)) dcf dfs
  have jr : Ok0 ⟨rate, rate⟩ 1000000 := ⟨by simp; omega, by simp, by simp; omega⟩
  have jr2 : Ok0 ⟨2 * rate, 2 * rate⟩ 1000000 := ⟨by simp; omega, by simp, by simp; omega⟩
  have js : Ok0 ⟨strong, strong⟩ 1000000 := ⟨by simp; omega, by simp, by simp; omega⟩
  have jf : Ok0 ⟨found, found⟩ 1000000 := ⟨by simp; omega, by simp, by simp; omega⟩
  have jc : Ok0 ⟨clean, clean⟩ 1000000 := ⟨by simp; omega, by simp, by simp; omega⟩
  have j0 : Ok0 ⟨0, 0⟩ 1000000 := ⟨by simp, by simp, by simp⟩
  have T2 := thinned_ok (N := 60) (by omega) jr js jf jc (show clean < found by omega) (show found ≤ strong by omega)
  have T3 := thinned_ok (N := 60) (by omega) jr2 js jf jc (show clean < found by omega) (show found ≤ strong by omega)
  have T4 := thinned_false (N := 60) (by omega) (C := ⟨C.Lo, F.Lo⟩) (up dr (by omega)) (up ds (by omega)) (up df (by omega)) ⟨by simp; omega, by simp; omega, by simp; omega⟩ (by simp)
  have T5 := thinned_ok (N := 60) (by omega) jr js js j0 (show (0 : Int) < strong by omega) (show strong ≤ strong by omega)
  dsimp only at T1 T2 T3 T4 T5
  -- what is less than what
  have n0 := mul_bd (a := R.Lo) (b := S.Lo - F.Hi) (A := rate) (B := strong - found) r1 (by omega) a1 (by omega)
  have n1 := mul_bd (a := rate) (b := strong - found) (A := R.Hi) (B := S.Hi - F.Lo) (by omega) (by omega) b1 (by omega)
  have n2 := mul_bd (a := R.Hi) (b := S.Hi - F.Lo) (A := 300) (B := 2000) (by omega) (by omega) r3 (by omega)
  generalize hA : R.Lo * (S.Lo - F.Hi) = A at *
  generalize hB : R.Hi * (S.Hi - F.Lo) = B at *
  have hM2 : 2 * rate * (strong - found) = 2 * (rate * (strong - found)) := by rw [Int.mul_assoc]
  generalize hM : rate * (strong - found) = M at *
  have wd : 0 < found - clean := by omega
  have wd1 : found - clean ≤ F.Hi - C.Lo := by omega
  have wd2 : F.Lo - C.Hi ≤ found - clean := by omega
  have wd3 : 0 < F.Lo - C.Hi := by omega
  have wd4 : found - clean ≤ 300 := by omega
  -- the ends
  have l1 : A / (F.Hi - C.Lo) * (F.Hi - C.Lo) ≤ A := Int.ediv_mul_le _ (by omega)
  have l0 : 0 ≤ A / (F.Hi - C.Lo) := Int.ediv_nonneg n0.1 (by omega)
  have l2 : A / (F.Hi - C.Lo) * (found - clean) ≤ A / (F.Hi - C.Lo) * (F.Hi - C.Lo) := Int.mul_le_mul_of_nonneg_left wd1 l0
  have l3 : 0 ≤ A / (F.Hi - C.Lo) * (found - clean) := Int.mul_nonneg l0 (by omega)
  generalize hL : A / (F.Hi - C.Lo) = L at *
  have g1 : B ≤ (B + (F.Lo - C.Hi) - 1) / (F.Lo - C.Hi) * (F.Lo - C.Hi) := by
    have := Int.lt_ediv_add_one_mul_self (B + (F.Lo - C.Hi) - 1) wd3
    rw [Int.add_mul] at this
    omega
  have g0 : 0 ≤ (B + (F.Lo - C.Hi) - 1) / (F.Lo - C.Hi) := Int.ediv_nonneg (by omega) (by omega)
  have g2 : (B + (F.Lo - C.Hi) - 1) / (F.Lo - C.Hi) * (F.Lo - C.Hi) ≤ (B + (F.Lo - C.Hi) - 1) / (F.Lo - C.Hi) * (found - clean) := Int.mul_le_mul_of_nonneg_left wd2 g0
  have g3 : (B + (F.Lo - C.Hi) - 1) / (F.Lo - C.Hi) ≤ B + (F.Lo - C.Hi) - 1 := Int.ediv_le_self _ (by omega)
  generalize hH : (B + (F.Lo - C.Hi) - 1) / (F.Lo - C.Hi) = H at *
  have g4 := mul_bd (a := H) (b := found - clean) (A := 1000000) (B := 300) g0 (by omega) (by omega) wd4
  -- the dye without errors
  have hdm := Int.mul_ediv_add_emod M (found - clean)
  have hr0 := Int.emod_nonneg M (show found - clean ≠ 0 by omega)
  have hr1 := Int.emod_lt_of_pos M wd
  have q1 : (M + (found - clean) - 1) / (found - clean) ≤ M / (found - clean) + 1 := by
    apply Int.le_of_lt_add_one
    rw [Int.ediv_lt_iff_lt_mul wd, Int.add_mul, Int.add_mul, Int.mul_comm]
    omega
  have q2 : L ≤ M / (found - clean) := by rw [Int.le_ediv_iff_mul_le wd]; omega
  have q3 : (M + (found - clean) - 1) / (found - clean) ≤ H := by
    apply Int.le_of_lt_add_one
    rw [Int.ediv_lt_iff_lt_mul wd, Int.add_mul]
    omega
  have q4 : 2 * (M / (found - clean)) ≤ 2 * M / (found - clean) := by
    rw [Int.le_ediv_iff_mul_le wd, Int.mul_assoc, Int.mul_comm (M / (found - clean))]
    omega
  have q5 : (2 * M + (found - clean) - 1) / (found - clean) ≤ 2 * ((M + (found - clean) - 1) / (found - clean)) := by
    apply Int.le_of_lt_add_one
    rw [Int.ediv_lt_iff_lt_mul wd, Int.add_mul, Int.mul_assoc]
    have h := Int.lt_ediv_add_one_mul_self (M + (found - clean) - 1) wd
    rw [Int.add_mul] at h
    omega
  have q6 : 0 ≤ M / (found - clean) := Int.ediv_nonneg n1.1 (by omega)
  have q7 : 0 ≤ (M + (found - clean) - 1) / (found - clean) := Int.ediv_nonneg (by omega) (by omega)
  have q8 : (M + (found - clean) - 1) / (found - clean) ≤ M + (found - clean) - 1 := Int.ediv_le_self _ (by omega)
  have q9 : M / (found - clean) ≤ M := Int.ediv_le_self _ n1.1
  -- the dye that is as strong as found
  have z0 : strong - strong = 0 := by omega
  have z1 : (0 + (strong - 0) - 1) / (strong - 0) = 0 := Int.ediv_eq_zero_of_lt (by omega) (by omega)
  rw [z0, Int.mul_zero, Int.zero_ediv, z1] at T5
  unfold law03_GaugeDyed law03_span kit_New
  simp only [Option.bind_some, h1, h2, h3, h4, h5, T1]
  have w1 : W (strong - found) = strong - found := W_id (by omega) (by omega)
  have w2 : W (found - clean) = found - clean := W_id (by omega) (by omega)
  have w3 : W (2 * rate) = 2 * rate := W_id (by omega) (by omega)
  simp only [w1, w2, w3, hM, T2, T3, T4, T5, hM2, awake_true, Option.bind_some]
  rw [W_id (n := M) (by omega) (by omega), W_id (n := L * (found - clean)) (by omega) (by omega), W_id (n := H * (found - clean)) (by omega) (by omega)]
  generalize M / (found - clean) = X at *
  generalize (M + (found - clean) - 1) / (found - clean) = Y at *
  rw [W_id (n := Y - X) (by omega) (by omega), W_id (n := 2 * X) (by omega) (by omega), W_id (n := 2 * Y) (by omega) (by omega)]
  have k1 : decide (found ≤ clean) = false := by simp; omega
  have k2 : decide (M < L * (found - clean)) = false := by simp; omega
  have k3 : decide (H * (found - clean) < M) = false := by simp; omega
  have k4 : decide (1 < Y - X) = false := by simp; omega
  have k5 : decide (X < L) = false := by simp; omega
  have k6 : decide (H < Y) = false := by simp; omega
  have k7 : decide (2 * M / (found - clean) < 2 * X) = false := by simp; omega
  have k8 : decide (2 * Y < (2 * M + (found - clean) - 1) / (found - clean)) = false := by simp; omega
  simp [k1, k2, k3, k4, k5, k6, k7, k8]
end Go.Nilo
