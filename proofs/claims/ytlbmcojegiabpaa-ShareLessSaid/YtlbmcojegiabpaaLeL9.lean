/-
  What the plain functions compute, in plain arithmetic, part 9. Conditions: what each theorem names.
-/
import Derived.Test.YtlbmcojegiabpaaLeL8
set_option linter.unusedSimpArgs false
set_option linter.unusedVariables false
namespace Go.Nilo
theorem parted {N : Nat} (hN : 60 ≤ N) {b : share_Border} (hb : BOk b) {lo hi : Int} (hs : lo.natAbs ≤ 1000 ∧ hi.natAbs ≤ 1000 ∧ lo ≤ hi) {l : List share_Year} (hl : l.length ≤ 12) (hy : ∀ y ∈ l, YOk y)
    {s : List api_Span} (q2 : s.length = l.length) (q3 : ∀ j, j < l.length → s.getD j ⟨0, 0⟩ = ⟨debtS b l (lowT l) lo (j + 1), debtS b l (highT l) hi (j + 1)⟩) {k : Nat} (hk : k < l.length) :
    ∃ o1 o2, share_Debts N b ⟨debtS b l (lowT l) lo k, debtS b l (highT l) hi k⟩ (l.drop k) = some (o1, 0) ∧ share_Debts N b ⟨lo, hi⟩ (l.take k) = some (o2, 0) ∧ o2 ++ o1 = s := by
  have b1 := debtS_bd hb (years := l) (ts := lowT l) (start := lo) (B := 1000) hs.1 k (fun j hj => lowT_ok hy (by omega))
  have b2 := debtS_bd hb (years := l) (ts := highT l) (start := hi) (B := 1000) hs.2.1 k (fun j hj => highT_ok hy (by omega))
  have far : ∀ {d : Int} {B C : Nat}, B = 1000 → C = 1000000 → d.natAbs ≤ B + C * (k + 1) → d.natAbs ≤ 20000000 := by
    intro d B C hB hC h
    have : C * (k + 1) ≤ C * 12 := Nat.mul_le_mul_left _ (by omega)
    omega
  have hm : debtS b l (lowT l) lo k ≤ debtS b l (highT l) hi k := debtS_mono hb hs.2.2 k (fun j hj => ⟨(yget hy (by omega)).i.2.1, (yget hy (by omega)).d.2.1⟩)
  have hyd : ∀ y ∈ l.drop k, YOk y := fun y hm => hy y (List.mem_of_mem_drop hm)
  have hyt : ∀ y ∈ l.take k, YOk y := fun y hm => hy y (List.mem_of_mem_take hm)
  obtain ⟨o1, e1, l1, g1⟩ := debts_spec (N := N) hN hb (lo := debtS b l (lowT l) lo k) (hi := debtS b l (highT l) hi k) ⟨far rfl rfl b1, far rfl rfl b2, hm⟩ (years := l.drop k) (by simp; omega) hyd
  obtain ⟨o2, e2, l2, g2⟩ := debts_spec (N := N) hN hb (lo := lo) (hi := hi) ⟨by omega, by omega, hs.2.2⟩ (years := l.take k) (by simp; omega) hyt
  refine ⟨o1, o2, e1, e2, ?_⟩
  have l1' : o1.length = l.length - k := by rw [l1]; simp
  have l2' : o2.length = k := by rw [l2]; simp; omega
  refine ext_getD (d := ⟨0, 0⟩) (by rw [List.length_append]; omega) ?_
  intro j hj
  rw [List.length_append] at hj
  rw [q3 j (by omega)]
  by_cases hjk : j < k
  · rw [getD_app_l (by omega), g2 j (by rw [← l2]; omega)]
    rw [debtS_congr (ts' := lowT l) (years' := l) (j + 1) (fun i hi' => ⟨by unfold lowT; rw [getD_take' (by omega)], getD_take' (by omega)⟩),
      debtS_congr (ts' := highT l) (years' := l) (j + 1) (fun i hi' => ⟨by unfold highT; rw [getD_take' (by omega)], getD_take' (by omega)⟩)]
  · obtain ⟨i, rfl⟩ : ∃ i, j = o2.length + i := ⟨j - o2.length, by omega⟩
    rw [getD_app_r, g1 i (by rw [← l1]; omega)]
    rw [debtS_shift (ts := lowT l) (years := l) k (i + 1) (fun i hi' => ⟨by unfold lowT; rw [getD_drop'], getD_drop'⟩),
      debtS_shift (ts := highT l) (years := l) k (i + 1) (fun i hi' => ⟨by unfold highT; rw [getD_drop'], getD_drop'⟩), l2', ← Nat.add_assoc]

theorem j28_spec {b : share_Border} (hb : BOk b) {lo hi : Int} (hs : lo.natAbs ≤ 1000 ∧ hi.natAbs ≤ 1000 ∧ lo ≤ hi) {l : List share_Year} (hl : l.length ≤ 12) (hy : ∀ y ∈ l, YOk y)
    {s : List api_Span} (q2 : s.length = l.length) (q3 : ∀ j, j < l.length → s.getD j ⟨0, 0⟩ = ⟨debtS b l (lowT l) lo (j + 1), debtS b l (highT l) hi (j + 1)⟩) {w : Int} (hw : 0 ≤ w ∧ w ≤ 1000000) {k : Nat} (hk : k < l.length) (hwk : w % (l.length : Int) = (k : Int)) {truth : List share_Truth} {z : Int × Int}
    {x y : Int} (hx : x = debtS b l (lowT l) lo k) (hyy : y = debtS b l (highT l) hi k) : law09_ShareLess_j28 60 w (b, ⟨lo, hi⟩, l, truth, z) l s x y = some true := by
  subst hx hyy
  obtain ⟨o1, o2, e1, e2, e3⟩ := parted (N := 60) (by omega) hb hs hl hy q2 q3 hk
  have w1 : W w = w := W_id (by omega) (by omega)
  have s1 : subO l (k : Int) ((l.length : Nat) : Int) = some (l.drop k) := by
    unfold subO
    rw [if_pos ⟨by omega, by omega, by omega⟩, List.take_of_length_le (by simp)]
    simp
  have s2 : subO l 0 (k : Int) = some (l.take k) := by
    unfold subO
    rw [if_pos ⟨by omega, by omega, by omega⟩]
    simp
  have hlen : (o2 ++ o1).length ≤ 12 := by rw [e3]; omega
  unfold law09_ShareLess_j28
  simp only [w1, tmod_mod hw.1, hwk, s1, s2, Option.bind_some, e1, e2, beq_self_eq_true, Bool.and_self, cond_true, room_ok (show (o2 ++ o1).length ≤ 1000000 by omega)]
  rw [e3, same_spec (by omega) (by omega)]
  simp only [Option.bind_some, cond_true, awake_true]

theorem less_true {numbers narrow : List Int} (hn : Bytes numbers) (hn' : Bytes narrow) {w a c : Int} (hw : 0 ≤ w ∧ w ≤ 65535) (ha : 0 ≤ a ∧ a ≤ 65535) (hc : 0 ≤ c ∧ c ≤ 65535) : law09_ShareLess 60 numbers narrow w a c = some true := by
  have s0 : SOk 0 0 0 := ⟨by omega, by omega, by omega, by omega⟩
  obtain ⟨b, lo, hi, l, truth, u, m, e1, hb, hs, hl, hy, hwi⟩ := bordered_spec (N := 60) (by omega) hn s0 (by omega)
  obtain ⟨s, q1, q2, q3⟩ := debts_spec (N := 60) (by omega) hb (lo := lo) (hi := hi) (by omega) (years := l) (by omega) hy
  have htl := hwi.l
  obtain ⟨fine, better, x, u', m', h11, hF, hB⟩ := fine_loop (N := 60) (by omega) hn' (r1 := (b, ⟨lo, hi⟩, l, truth, u, m)) (l := l) (truth := truth) rfl hl.2 hy hwi s0
  have hFl := hF.ll
  have hBl := hB.ll
  have hfy := fine_ok hy hF
  have hbw := better_in hy hwi hB
  obtain ⟨t, p1, p2, p3⟩ := debts_spec (N := 60) (by omega) hb (lo := lo) (hi := hi) (by omega) (years := fine) (by omega) hfy
  obtain ⟨most, o1, o2, o3⟩ := owed_spec (N := 60) (by omega) hb (start := hi) (by omega) (by omega) hy hwi
  obtain ⟨less, n1, n2, n3⟩ := owed_spec (N := 60) (by omega) hb (start := lo) (by omega) (by omega) hy hbw
  obtain ⟨z, h20⟩ := less_loop (N := 60) (by omega) (s := s) (t := t) (x := most) (y := less) (by omega) (by omega) (by omega) (by omega)
    (by
      intro j hj
      rw [q3 j (by omega), p3 j (by omega)]
      dsimp only
      refine ⟨debtS_mono2 hb (Int.le_refl _) (j + 1) (fun i hi' => (hF.s i (by omega)).symm) (fun i hi' => ⟨(hF.i i (by omega)).1, (hF.d i (by omega)).2.2⟩), debtS_mono2 hb (Int.le_refl _) (j + 1) (fun i hi' => hF.s i (by omega)) (fun i hi' => ⟨(hF.i i (by omega)).2.2, (hF.d i (by omega)).1⟩)⟩)
    (by
      intro j hj
      rw [o3 j (by omega), n3 j (by omega)]
      exact debtS_mono hb (by omega) (j + 1) (fun i hi' => ⟨(hB.i i (by omega)).2, (hB.d i (by omega)).1⟩))
  have w1 : W a = a := W_id (by omega) (by omega)
  have w2 : W c = c := W_id (by omega) (by omega)
  have w3 : W (a + c) = a + c := W_id (by omega) (by omega)
  have w4 : W w = w := W_id (by omega) (by omega)
  have hle := due_mono hb (t := a) (t' := a + c) (by omega)
  have hz : nz ((l.length : Nat) : Int) = some () := by unfold nz; rw [if_neg (by omega)]
  have hmm : 0 ≤ w % (l.length : Int) ∧ w % (l.length : Int) < (l.length : Int) := ⟨Int.emod_nonneg _ (by omega), Int.emod_lt_of_pos _ (by omega)⟩
  obtain ⟨k, hk⟩ : ∃ k : Nat, w % (l.length : Int) = (k : Int) := ⟨(w % (l.length : Int)).toNat, by omega⟩
  have c1 : kit_Copy_share_Year 60 l = some l := by unfold kit_Copy_share_Year; rw [room_ok (by omega)]; rfl
  have c2 : kit_Copy_share_Truth 60 truth = some truth := by unfold kit_Copy_share_Truth; rw [room_ok (by omega)]; rfl
  have cc : decide (dueF b.Table (a + c) < dueF b.Table a) = false := by simp only [decide_eq_false_iff_not]; omega
  unfold law09_ShareLess kit_New
  simp only [Option.bind_some, e1, q1, q2, bne_self_eq_false, Bool.or_false, cond_false, c1, c2]
  rw [h11]
  simp only [Option.bind_some, exK, p1, o1, n1, p2, o2, n2, hFl, bne_self_eq_false, Bool.or_false, cond_false]
  rw [h20]
  simp only [Option.bind_some, w1, w2, w3, w4, Due_spec (N := 60) (by omega) hb (t := a) (by omega), Due_spec (N := 60) (by omega) hb (t := a + c) (by omega), bne_self_eq_false, Bool.or_false, cc, cond_false, hz, tmod_mod hw.1, hk]
  by_cases hk0 : k = 0
  · subst hk0
    simp only [show decide ((0 : Int) < ((0 : Nat) : Int)) = false from rfl, cond_false]
    exact j28_spec hb (by omega) hl.2 hy q2 q3 (by omega) (by omega) hk rfl rfl
  · simp only [show decide ((0 : Int) < (k : Int)) = true by simp; omega, cond_true]
    have wk : W ((k : Int) - 1) = ((k - 1 : Nat) : Int) := by rw [W_id (by omega) (by omega)]; omega
    rw [wk, getI_nat (by omega), get_getD (d := ⟨0, 0⟩) (by omega), q3 (k - 1) (by omega), show k - 1 + 1 = k by omega]
    simp only [Option.bind_some]
    exact j28_spec hb (by omega) hl.2 hy q2 q3 (by omega) (by omega) hk rfl rfl
end Go.Nilo
