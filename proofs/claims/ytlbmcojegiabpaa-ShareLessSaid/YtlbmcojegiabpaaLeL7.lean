/-
  What the plain functions compute, in plain arithmetic, part 7. Conditions: what each theorem names.
-/
import Derived.Test.YtlbmcojegiabpaaLeL6
set_option linter.unusedSimpArgs false
set_option linter.unusedVariables false
namespace Go.Nilo
/-! ### Years that are narrower -/
structure Narrow (l f : List share_Year) : Prop where
  ll : f.length = l.length
  s : ∀ j, j < l.length → (f.getD j y0).Spill = (l.getD j y0).Spill
  i : ∀ j, j < l.length → (l.getD j y0).Index.Lo ≤ (f.getD j y0).Index.Lo ∧ (f.getD j y0).Index.Lo ≤ (f.getD j y0).Index.Hi ∧ (f.getD j y0).Index.Hi ≤ (l.getD j y0).Index.Hi
  d : ∀ j, j < l.length → (l.getD j y0).Delivered.Lo ≤ (f.getD j y0).Delivered.Lo ∧ (f.getD j y0).Delivered.Lo ≤ (f.getD j y0).Delivered.Hi ∧ (f.getD j y0).Delivered.Hi ≤ (l.getD j y0).Delivered.Hi
structure Better (l : List share_Year) (t b : List share_Truth) : Prop where
  ll : b.length = l.length
  i : ∀ j, j < l.length → (l.getD j y0).Index.Lo ≤ (b.getD j t0).Index ∧ (b.getD j t0).Index ≤ (t.getD j t0).Index
  d : ∀ j, j < l.length → (t.getD j t0).Delivered ≤ (b.getD j t0).Delivered ∧ (b.getD j t0).Delivered ≤ (l.getD j y0).Delivered.Hi
theorem getD_set {α : Type} {l : List α} {i j : Nat} {x d : α} (hi : i < l.length) : (l.set i x).getD j d = if j = i then x else l.getD j d := by
  by_cases h : j = i
  · subst h; simp [List.getD, hi]
  · rw [if_neg h]; simp [List.getD, Ne.symm h]

theorem debtS_mono2 {b : share_Border} (h : BOk b) {years years' : List share_Year} {ts ts' : Nat → share_Truth} {s s' : Int} (hs : s ≤ s') : ∀ n, (∀ j, j < n → (years.getD j y0).Spill = (years'.getD j y0).Spill) → (∀ j, j < n → (ts j).Index ≤ (ts' j).Index ∧ (ts' j).Delivered ≤ (ts j).Delivered) → debtS b years ts s n ≤ debtS b years' ts' s' n
  | 0, _, _ => hs
  | n + 1, hy, ht => by
    rw [debtS, debtS, hy n (by omega)]
    exact nextD_mono h (debtS_mono2 h hs n (fun j hj => hy j (by omega)) (fun j hj => ht j (by omega))) (ht n (by omega)).1 (ht n (by omega)).2

theorem fine_loop {N : Nat} (hN : 60 ≤ N) {narrow : List Int} (hb : Bytes narrow) {r1 : share_Border × api_Span × (List share_Year) × (List share_Truth) × Int × Int} {l : List share_Year} {truth : List share_Truth} (hr : r1.2.2.1 = l) (hl : l.length ≤ 12) (hy : ∀ y ∈ l, YOk y) (hw : Within l truth) {u m : Int} (hs : SOk u m 0) :
    ∃ fine better x u' m', loopO (fun s11 => law09_ShareLess_b11 N narrow r1 s11.1 s11.2.1 s11.2.2.1 s11.2.2.2.1 s11.2.2.2.2.1 s11.2.2.2.2.2.1 s11.2.2.2.2.2.2) N (l, truth, l, truth, 0, u, m) = some (.go (l, truth, fine, better, x, u', m')) ∧ Narrow l fine ∧ Better l truth better := by
  obtain ⟨⟨a1, a2, fine, better, x, u', m'⟩, h1, rfl, rfl, -, h4, h5, -⟩ := loopInv (fun s11 => law09_ShareLess_b11 N narrow r1 s11.1 s11.2.1 s11.2.2.1 s11.2.2.2.1 s11.2.2.2.2.1 s11.2.2.2.2.2.1 s11.2.2.2.2.2.2)
    (fun i s => s.1 = l ∧ s.2.1 = truth ∧ s.2.2.2.2.1 = (i : Int) ∧ Narrow l s.2.2.1 ∧ Better l truth s.2.2.2.1 ∧ SOk s.2.2.2.2.2.1 s.2.2.2.2.2.2 (6 * i)) l.length
    (by
      rintro i ⟨a1, a2, fine, better, x, u', m'⟩ hi ⟨p1, p2, p3, hF, hB, hS⟩
      dsimp only at p1 p2 p3 hF hB hS ⊢
      subst p1 p2 p3
      have hti : i < a2.length := by rw [hw.l]; exact hi
      have hfi : i < fine.length := by rw [hF.ll]; exact hi
      have hbi : i < better.length := by rw [hB.ll]; exact hi
      have yi := (yget hy hi).i
      have yd := (yget hy hi).d
      have wi := hw.i i hi
      have wd := hw.d i hi
      have hlt : decide ((i : Int) < ((r1.2.2.1.length : Nat) : Int)) = true := by rw [hr]; simp; omega
      obtain ⟨q1, v1, w1, e1, c1, d1, t1⟩ := within_spec (N := N) hb (lo := (a1.getD i y0).Index.Lo) (hi := (a2.getD i t0).Index) hS (by omega) (by omega) (by omega) wi.1
      obtain ⟨q2, v2, w2, e2, c2, d2, t2⟩ := within_spec (N := N) hb (lo := (a2.getD i t0).Index) (hi := (a1.getD i y0).Index.Hi) t1 (by omega) (by omega) (by omega) wi.2
      obtain ⟨q3, v3, w3, e3, c3, d3, t3⟩ := within_spec (N := N) hb (lo := (a1.getD i y0).Delivered.Lo) (hi := (a2.getD i t0).Delivered) t2 (by omega) (by omega) (by omega) wd.1
      obtain ⟨q4, v4, w4, e4, c4, d4, t4⟩ := within_spec (N := N) hb (lo := (a2.getD i t0).Delivered) (hi := (a1.getD i y0).Delivered.Hi) t3 (by omega) (by omega) (by omega) wd.2
      obtain ⟨q5, v5, w5, e5, c5, d5, t5⟩ := within_spec (N := N) hb (lo := (a1.getD i y0).Index.Lo) (hi := (a2.getD i t0).Index) t4 (by omega) (by omega) (by omega) wi.1
      obtain ⟨q6, v6, w6, e6, c6, d6, t6⟩ := within_spec (N := N) hb (lo := (a2.getD i t0).Delivered) (hi := (a1.getD i y0).Delivered.Hi) t5 (by omega) (by omega) (by omega) wd.2
      have g1 : getI a1 (i : Int) = some (a1.getD i y0) := by rw [getI_nat hi, get_getD (d := y0) hi]
      have g2 : getI a2 (i : Int) = some (a2.getD i t0) := by rw [getI_nat hti, get_getD (d := t0) hti]
      have g3 : getI fine (i : Int) = some (fine.getD i y0) := by rw [getI_nat hfi, get_getD (d := y0) hfi]
      have g4 : ∀ z, getI (fine.set i z) (i : Int) = some z := by intro z; rw [getI_nat (by simp; exact hfi)]; simp
      have g5 : getI better (i : Int) = some (better.getD i t0) := by rw [getI_nat hbi, get_getD (d := t0) hbi]
      refine ⟨(a1, a2, ((fine.set i ⟨⟨q1, q2⟩, (fine.getD i y0).Delivered, (fine.getD i y0).Spill⟩).set i ⟨⟨q1, q2⟩, ⟨q3, q4⟩, (fine.getD i y0).Spill⟩), better.set i ⟨q5, q6⟩, ((i + 1 : Nat) : Int), v6, w6), ?_, rfl, rfl, rfl, ?_, ?_, t6⟩
      · unfold law09_ShareLess_b11 law09_span
        rw [hlt]
        simp only [cond_true, Option.bind_some, g1, g2, g3, g4, g5, e1, e2, e3, e4, e5, e6, Int.toNat_natCast, W_succ (i := i) (by omega)]
      · have hse := hF.s i hi
        have hset : ∀ j, (((fine.set i ⟨⟨q1, q2⟩, (fine.getD i y0).Delivered, (fine.getD i y0).Spill⟩).set i ⟨⟨q1, q2⟩, ⟨q3, q4⟩, (fine.getD i y0).Spill⟩)).getD j y0 = if j = i then ⟨⟨q1, q2⟩, ⟨q3, q4⟩, (fine.getD i y0).Spill⟩ else fine.getD j y0 := by
          intro j
          rw [getD_set (by simp; exact hfi)]
          by_cases hj : j = i
          · rw [if_pos hj, if_pos hj]
          · rw [if_neg hj, if_neg hj, getD_set hfi, if_neg hj]
        refine ⟨by simp [hF.ll], ?_, ?_, ?_⟩
        · intro j hj
          rw [hset]
          split
          · rename_i e; subst e; exact hse
          · exact hF.s j hj
        · intro j hj
          rw [hset]
          split
          · rename_i e; subst e; dsimp only; omega
          · exact hF.i j hj
        · intro j hj
          rw [hset]
          split
          · rename_i e; subst e; dsimp only; omega
          · exact hF.d j hj
      · refine ⟨by simp [hB.ll], ?_, ?_⟩
        · intro j hj
          rw [getD_set hbi]
          split
          · rename_i e; subst e; dsimp only; omega
          · exact hB.i j hj
        · intro j hj
          rw [getD_set hbi]
          split
          · rename_i e; subst e; dsimp only; omega
          · exact hB.d j hj)
    (by
      rintro ⟨a1, a2, fine, better, x, u', m'⟩ ⟨p1, p2, p3, -⟩
      dsimp only at p1 p2 p3 ⊢
      subst p3
      unfold law09_ShareLess_b11
      rw [hr, show decide (((l.length : Nat) : Int) < ((l.length : Nat) : Int)) = false by simp]
      rfl)
    l.length 0 (l, truth, l, truth, 0, u, m) N (by omega) (by omega) ⟨rfl, rfl, rfl, ⟨rfl, fun _ _ => rfl, fun j hj => ⟨Int.le_refl _, (yget hy hj).i.2.1, Int.le_refl _⟩, fun j hj => ⟨Int.le_refl _, (yget hy hj).d.2.1, Int.le_refl _⟩⟩, ⟨hw.l, fun j hj => ⟨(hw.i j hj).1, Int.le_refl _⟩, fun j hj => ⟨Int.le_refl _, (hw.d j hj).2⟩⟩, hs⟩
  exact ⟨fine, better, x, u', m', h1, h4, h5⟩
end Go.Nilo
