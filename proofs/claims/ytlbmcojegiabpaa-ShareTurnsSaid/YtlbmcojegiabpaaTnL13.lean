/-
  What the plain functions compute, in plain arithmetic, part 13. Conditions: what each theorem names.
-/
import Derived.Test.YtlbmcojegiabpaaTnL12
set_option linter.unusedSimpArgs false
set_option linter.unusedVariables false
namespace Go.Nilo
def x0 : api_Ratio := ⟨0, 0⟩
structure Both (l s : List Int) (rule : Int) (L : List api_Ratio) (i : Nat) (x y : api_Ratio) : Prop where
  xm : x ∈ L ∧ proB l s rule x = true
  ym : y ∈ L ∧ proB l s rule y = true
  all : ∀ j, j < i → proB l s rule (L.getD j x0) = true → x.N * (L.getD j x0).D ≤ (L.getD j x0).N * x.D ∧ (L.getD j x0).N * y.D ≤ y.N * (L.getD j x0).D
theorem isC_bd {l s : List Int} {rule : Int} {x : api_Ratio} (h : IsC l s rule x) : (1 ≤ x.N ∧ x.N ≤ 2000000) ∧ (1 ≤ x.D ∧ x.D ≤ 200000) := by
  obtain ⟨n, d, hn, hd, rfl⟩ := h
  obtain ⟨g, -, -, -, a, b, c, e⟩ := lowR_spec hn.1 hd.1
  omega
theorem proV_of {l s : List Int} {rule : Int} (h : chkS l s rule = 0) {x : api_Ratio} (hx : IsC l s rule x) : proV l s rule x = (proB l s rule x, 0) := by
  have hb := isC_bd hx
  have : okX x = true := by
    unfold okX inB
    simp only [Bool.and_eq_true, decide_eq_true_eq, Bool.not_eq_true', decide_eq_false_iff_not]
    omega
  unfold proV
  rw [if_pos h, if_pos this]
theorem div_ref {N : Nat} (hN : 60 ≤ N) {l s : List Int} {rule : Int} (hl : l.length ≤ 15) (hs : s.length ≤ 15) : ref09_Divisors N l s rule = some (divV l s rule) := by
  unfold ref09_Divisors divV
  rw [shared_ref hN hl hs, Option.bind_some]
  by_cases h : chkS l s rule = 0
  · rw [if_pos h, h]
    have ho := chkS_ok h
    have hn := ho.c.n
    have hsl := ho.n
    have hin : ∀ i, i < l.length → loopO (fun s32 : List api_Ratio × Int => ref09_Divisors_b32 N l s rule (i : Int) s32.1 s32.2) N (cand l s rule i, 0) = some (.go (cand l s rule (i + 1), 2)) := by
      intro i hi
      have ci : 1 ≤ cN l i ∧ cN l i ≤ 1000000 := ho.c.c i hi
      have si : 0 ≤ sI s i ∧ sI s i ≤ 366 := ho.s i hi
      have hsi : getI s (i : Int) = some (sI s i) := by rw [getI_nat (by omega), get_getD (d := (0 : Int)) (by omega)]; rfl
      have hci : getI l (i : Int) = some (cN l i) := by rw [getI_nat hi, get_getD (d := (0 : Int)) hi]; rfl
      have hcl := cand_len l s rule i
      have ni := nI_bd ho hi
      have := runS (ρ := Step (List api_Ratio × Int) (api_Ratio × api_Ratio × Int)) (fun k : Nat => (candK l s rule i (cand l s rule i) k, (k : Int))) 2 (fun s32 : List api_Ratio × Int => ref09_Divisors_b32 N l s rule (i : Int) s32.1 s32.2) (fun k hk => by
        have hkl := candK_len l s rule i (cand l s rule i) (k + 1)
        have bk : -4 ≤ andB s rule i k ∧ andB s rule i k ≤ 200000 := askI_bd (by omega)
        show ref09_Divisors_b32 N l s rule (i : Int) (candK l s rule i (cand l s rule i) k) (k : Int) = _
        unfold ref09_Divisors_b32 ref09_Divisors_j35
        rw [decide_eq_true (show (k : Int) < 2 by omega), cond_true, hsi, Option.bind_some, W_id (n := sI s i + (k : Int)) (by omega) (by omega), ask_ref (by omega), hci, Option.bind_some, W_id (n := 2 * cN l i) (by omega) (by omega), W_succ (by omega)]
        show cond (decide (0 < andB s rule i k)) (Option.bind (ref09_lowest N (nI l i) (andB s rule i k)) _) _ = some (Step.cont (candK l s rule i (cand l s rule i) (k + 1), _))
        rw [candK] at hkl ⊢
        by_cases h0 : 0 < andB s rule i k
        · rw [decide_eq_true h0, cond_true, cond_true] at *
          rw [ratio_ref hN (by omega) (by omega), Option.bind_some, room_ok (by omega), Option.bind_some]
        · rw [decide_eq_false h0, cond_false, cond_false, List.append_nil]) (by
        show ref09_Divisors_b32 N l s rule (i : Int) _ ((2 : Nat) : Int) = _
        unfold ref09_Divisors_b32
        rw [decide_eq_false (show ¬ ((2 : Nat) : Int) < 2 by omega), cond_false]) (N := N) (by omega)
      exact this
    have h1 := runS (ρ := api_Ratio × api_Ratio × Int) (fun i : Nat => (cand l s rule i, (i : Int))) l.length (fun s9 => ref09_Divisors_b9 N l s rule s9.1 s9.2) (fun i hi => by
      show ref09_Divisors_b9 N l s rule (cand l s rule i) (i : Int) = _
      unfold ref09_Divisors_b9
      rw [lt_dec hi, cond_true, hin i hi, Option.bind_some]
      show some (Step.cont (_, W ((i : Int) + 1))) = _
      rw [W_succ (by omega)]) (by
      show ref09_Divisors_b9 N l s rule _ (l.length : Int) = _
      unfold ref09_Divisors_b9
      rw [ge_dec, cond_false]) (N := N) (by omega)
    show Option.bind (loopO _ N (cand l s rule 0, ((0 : Nat) : Int))) _ = _
    rw [h1, Option.bind_some]
    have hLlen := cand_len l s rule l.length
    have hLis := cand_is ho l.length (Nat.le_refl _)
    have hlow := low_in ho
    have hhigh := high_in ho
    generalize cand l s rule l.length = L at hLlen hLis hlow hhigh ⊢
    obtain ⟨s', h2, h3⟩ := loopInv (ρ := api_Ratio × api_Ratio × Int) (fun s13 : List api_Ratio × Int × Int × Int × Int × Int => ref09_Divisors_b13 N l s rule s13.1 s13.2.1 s13.2.2.1 s13.2.2.2.1 s13.2.2.2.2.1 s13.2.2.2.2.2)
      (fun i st => ∃ x y : api_Ratio, st = (L, (i : Int), x.N, x.D, y.N, y.D) ∧ ((x.D = 0 ∧ y.D = 0 ∧ ∀ j, j < i → proB l s rule (L.getD j x0) = false) ∨ Both l s rule L i x y)) L.length
      (fun i st hi hst => by
        obtain ⟨x, y, rfl, hxy⟩ := hst
        have hmem : L.getD i x0 ∈ L := by rw [← get_getD (d := x0) hi]; exact List.getElem_mem hi
        have hic := hLis _ hmem
        have hib := isC_bd hic
        have hgi : getI L (i : Int) = some (L.getD i x0) := by rw [getI_nat hi, get_getD (d := x0) hi]
        show ∃ s', ref09_Divisors_b13 N l s rule L (i : Int) x.N x.D y.N y.D = some (.cont s') ∧ _
        unfold ref09_Divisors_b13 ref09_Divisors_j24 ref09_Divisors_j20
        rw [lt_dec hi, cond_true, hgi, Option.bind_some, proves_ref hN hl hs, proV_of h hic, Option.bind_some, W_succ (by omega)]
        have e0 : ((proB l s rule (L.getD i x0), (0 : Int)).2 != 0 || !(proB l s rule (L.getD i x0), (0 : Int)).1) = !proB l s rule (L.getD i x0) := by cases proB l s rule (L.getD i x0) <;> rfl
        rw [e0]
        cases hp : proB l s rule (L.getD i x0) with
        | false =>
          refine ⟨_, rfl, x, y, rfl, ?_⟩
          rcases hxy with ⟨a, b, c⟩ | hB
          · exact .inl ⟨a, b, fun j hj => by
              by_cases hji : j = i
              · subst hji; exact hp
              · exact c j (by omega)⟩
          · refine .inr ⟨hB.xm, hB.ym, fun j hj hjp => ?_⟩
            by_cases hji : j = i
            · subst hji; rw [hp] at hjp; cases hjp
            · exact hB.all j (by omega) hjp
        | true =>
          rw [Bool.not_true, cond_false, Option.bind_some, Option.bind_some]
          rcases hxy with ⟨a, b, c⟩ | hB
          · rw [a, b]
            refine ⟨_, rfl, L.getD i x0, L.getD i x0, rfl, .inr ⟨⟨hmem, hp⟩, ⟨hmem, hp⟩, fun j hj hjp => ?_⟩⟩
            by_cases hji : j = i
            · subst hji; exact ⟨Int.le_refl _, Int.le_refl _⟩
            · rw [c j (by omega)] at hjp; cases hjp
          · have xb := isC_bd (hLis x hB.xm.1)
            have yb := isC_bd (hLis y hB.ym.1)
            have m1 := mul_bd (a := (L.getD i x0).N) (b := x.D) (A := 2000000) (B := 200000) (by omega) (by omega) (by omega) (by omega)
            have m2 := mul_bd (a := x.N) (b := (L.getD i x0).D) (A := 2000000) (B := 200000) (by omega) (by omega) (by omega) (by omega)
            have m3 := mul_bd (a := y.N) (b := (L.getD i x0).D) (A := 2000000) (B := 200000) (by omega) (by omega) (by omega) (by omega)
            have m4 := mul_bd (a := (L.getD i x0).N) (b := y.D) (A := 2000000) (B := 200000) (by omega) (by omega) (by omega) (by omega)
            have ex : (x.D == 0) = false := beq_eq_false_iff_ne.2 (by omega)
            have ey : (y.D == 0) = false := beq_eq_false_iff_ne.2 (by omega)
            rw [ex, ey]
            simp only [Option.bind_some, cond_false]
            rw [W_id (n := (L.getD i x0).N * x.D) (by omega) (by omega), W_id (n := x.N * (L.getD i x0).D) (by omega) (by omega), W_id (n := y.N * (L.getD i x0).D) (by omega) (by omega), W_id (n := (L.getD i x0).N * y.D) (by omega) (by omega)]
            have hNew : ∀ z : api_Ratio, z ∈ L → 1 ≤ z.D → 1 ≤ z.N := fun z hz _ => (isC_bd (hLis z hz)).1.1
            -- the least
            have hx' : ∃ x', (x' = x ∨ x' = L.getD i x0) ∧ (∀ j, j < i + 1 → proB l s rule (L.getD j x0) = true → x'.N * (L.getD j x0).D ≤ (L.getD j x0).N * x'.D) ∧ x' = cond (decide ((L.getD i x0).N * x.D < x.N * (L.getD i x0).D)) (L.getD i x0) x := by
              by_cases hlt : (L.getD i x0).N * x.D < x.N * (L.getD i x0).D
              · refine ⟨L.getD i x0, .inr rfl, fun j hj hjp => ?_, by rw [decide_eq_true hlt]; rfl⟩
                by_cases hji : j = i
                · subst hji; exact Int.le_refl _
                · have hjm : L.getD j x0 ∈ L := by rw [← get_getD (d := x0) (show j < L.length by omega)]; exact List.getElem_mem _
                  have jb := isC_bd (hLis _ hjm)
                  have := hB.all j (by omega) hjp
                  have h5 := q_le_le (a := (L.getD j x0).N) (b := x.N) (c := (L.getD i x0).N) (x := (L.getD j x0).D) (y := x.D) (z := (L.getD i x0).D) (by omega) (by omega) (by omega) this.1 (by omega)
                  exact h5
              · refine ⟨x, .inl rfl, fun j hj hjp => ?_, by rw [decide_eq_false hlt]; rfl⟩
                by_cases hji : j = i
                · subst hji; omega
                · exact (hB.all j (by omega) hjp).1
            have hy' : ∃ y', (y' = y ∨ y' = L.getD i x0) ∧ (∀ j, j < i + 1 → proB l s rule (L.getD j x0) = true → (L.getD j x0).N * y'.D ≤ y'.N * (L.getD j x0).D) ∧ y' = cond (decide (y.N * (L.getD i x0).D < (L.getD i x0).N * y.D)) (L.getD i x0) y := by
              by_cases hlt : y.N * (L.getD i x0).D < (L.getD i x0).N * y.D
              · refine ⟨L.getD i x0, .inr rfl, fun j hj hjp => ?_, by rw [decide_eq_true hlt]; rfl⟩
                by_cases hji : j = i
                · subst hji; exact Int.le_refl _
                · have hjm : L.getD j x0 ∈ L := by rw [← get_getD (d := x0) (show j < L.length by omega)]; exact List.getElem_mem _
                  have jb := isC_bd (hLis _ hjm)
                  have := hB.all j (by omega) hjp
                  have h5 := q_le_le (a := (L.getD i x0).N) (b := y.N) (c := (L.getD j x0).N) (x := (L.getD i x0).D) (y := y.D) (z := (L.getD j x0).D) (by omega) (by omega) (by omega) (by omega) this.2
                  exact h5
              · refine ⟨y, .inl rfl, fun j hj hjp => ?_, by rw [decide_eq_false hlt]; rfl⟩
                by_cases hji : j = i
                · subst hji; omega
                · exact (hB.all j (by omega) hjp).2
            obtain ⟨x', hx1, hx2, hx3⟩ := hx'
            obtain ⟨y', hy1, hy2, hy3⟩ := hy'
            refine ⟨(L, ((i + 1 : Nat) : Int), x'.N, x'.D, y'.N, y'.D), ?_, x', y', rfl, .inr ⟨?_, ?_, fun j hj hjp => ⟨hx2 j hj hjp, hy2 j hj hjp⟩⟩⟩
            · rw [hx3, hy3]
              cases decide ((L.getD i x0).N * x.D < x.N * (L.getD i x0).D) <;> cases decide (y.N * (L.getD i x0).D < (L.getD i x0).N * y.D) <;> rfl
            · rcases hx1 with rfl | rfl
              · exact hB.xm
              · exact ⟨hmem, hp⟩
            · rcases hy1 with rfl | rfl
              · exact hB.ym
              · exact ⟨hmem, hp⟩)
      (fun st hst => by
        obtain ⟨x, y, rfl, -⟩ := hst
        show ref09_Divisors_b13 N l s rule L (L.length : Int) _ _ _ _ = _
        unfold ref09_Divisors_b13
        rw [ge_dec, cond_false]) L.length 0 (L, 0, 0, 0, 0, 0) N (by omega) (by omega) ⟨x0, x0, rfl, .inl ⟨rfl, rfl, fun j hj => absurd hj (by omega)⟩⟩
    obtain ⟨x, y, rfl, hxy⟩ := h3
    show Option.bind (loopO _ N (L, 0, 0, 0, 0, 0)) _ = _
    rw [h2, Option.bind_some]
    show cond (x.D == 0) _ (some (x, y, (0 : Int))) = _
    have hidx : ∀ z, z ∈ L → ∃ j, j < L.length ∧ L.getD j x0 = z := fun z hz => by
      obtain ⟨j, hj, hjz⟩ := List.getElem_of_mem hz
      exact ⟨j, hj, by rw [← get_getD (d := x0) hj]; exact hjz⟩
    by_cases hm : (high l s rule).1 * (low l s rule).2 < (low l s rule).1 * (high l s rule).2
    · rw [if_pos hm]
      have hx0 : x.D = 0 := by
        rcases hxy with ⟨a, -, -⟩ | hB
        · exact a
        · have := none_proves ho hm (hLis x hB.xm.1)
          rw [hB.xm.2] at this
          cases this
      rw [hx0]
      rfl
    · rw [if_neg hm]
      have lp := low_pos ho hm
      have lb := low_bd ho
      have hb := high_bd ho
      have q1 := low_proves ho hm
      have q2 := high_proves ho hm
      obtain ⟨j1, hj1, e1⟩ := hidx _ (hlow lp)
      obtain ⟨j2, hj2, e2⟩ := hidx _ hhigh
      rcases hxy with ⟨-, -, hno⟩ | hB
      · have := hno j1 hj1
        rw [e1, q1] at this
        cases this
      · have xb := isC_bd (hLis x hB.xm.1)
        have ex : (x.D == 0) = false := beq_eq_false_iff_ne.2 (by omega)
        rw [ex, cond_false]
        have a1 := (hB.all j1 hj1 (by rw [e1]; exact q1)).1
        have a2 := (hB.all j2 hj2 (by rw [e2]; exact q2)).2
        rw [e1] at a1
        rw [e2] at a2
        obtain ⟨bx1, -⟩ := between ho (hLis x hB.xm.1) hB.xm.2
        obtain ⟨-, by2⟩ := between ho (hLis y hB.ym.1) hB.ym.2
        obtain ⟨nx, dx, hnx, hdx, rfl⟩ := hLis x hB.xm.1
        obtain ⟨ny, dy, hny, hdy, rfl⟩ := hLis y hB.ym.1
        have u1 : lowR nx dx = lowR (low l s rule).1 (low l s rule).2 := by
          refine lowR_uniq hnx.1 hdx.1 lb.1.1 lp ?_
          have b1 : (lowR nx dx).D * (lowR (low l s rule).1 (low l s rule).2).N ≤ (lowR nx dx).N * (lowR (low l s rule).1 (low l s rule).2).D := by
            rw [lowR_ge lb.1.1 lp, Int.mul_comm (lowR nx dx).D, Int.mul_comm (lowR nx dx).N]
            exact bx1
          rw [Int.mul_comm (lowR nx dx).D] at b1
          omega
        have u2 : lowR ny dy = lowR (high l s rule).1 (high l s rule).2 := by
          refine lowR_uniq hny.1 hdy.1 hb.1.1 hb.2.1 ?_
          have b1 : (lowR ny dy).N * (lowR (high l s rule).1 (high l s rule).2).D ≤ (lowR ny dy).D * (lowR (high l s rule).1 (high l s rule).2).N := by
            rw [lowR_le hb.1.1 hb.2.1, Int.mul_comm (lowR ny dy).D, Int.mul_comm (lowR ny dy).N]
            exact by2
          rw [Int.mul_comm (lowR ny dy).D] at b1
          omega
        rw [u1, u2]
  · have : (chkS l s rule != 0) = true := bne_iff_ne.2 h
    rw [if_neg h, this, cond_true]

theorem awake_true : law09_awake 60 = some true := by decide +kernel
theorem turns_true (debt : Int) (p : share_Pact) (l s : List Int) (days rule : Int) (x : api_Ratio) : law09_ShareTurns 60 debt p l s days rule x = some true := by
  unfold law09_ShareTurns
  by_cases hl : 45 < p.Can.length ∨ 15 < l.length ∨ 15 < s.length ∨ (40 < days ∧ days ≤ 366)
  · have : ((((decide (45 < ((p.Can.length : Nat) : Int))) || (decide (15 < ((l.length : Nat) : Int)))) || (decide (15 < ((s.length : Nat) : Int)))) || ((decide (40 < days)) && (decide (days ≤ 366)))) = true := by
      simp only [Bool.or_eq_true, Bool.and_eq_true, decide_eq_true_eq]
      omega
    rw [this, cond_true, awake_true]
    rfl
  · have : ((((decide (45 < ((p.Can.length : Nat) : Int))) || (decide (15 < ((l.length : Nat) : Int)))) || (decide (15 < ((s.length : Nat) : Int)))) || ((decide (40 < days)) && (decide (days ≤ 366)))) = false := by
      simp only [Bool.or_eq_false_iff, Bool.and_eq_false_iff, decide_eq_false_iff_not]
      omega
    have hc : ∀ q : List Int, q.length ≤ 1000000 → kit_Copy_int 60 q = some q := by
      intro q hq
      unfold kit_Copy_int
      rw [room_ok hq]
      rfl
    obtain ⟨r1, a1, a2, a3⟩ := payback_same (N := 60) (by omega) (debt := debt) (p := p) (by omega)
    obtain ⟨r2, b1, b2, b3⟩ := turns_same (N := 60) (by omega) (l := l) (by omega) (days := days) (rule := rule) (by omega)
    rw [this, cond_false, hc l (by omega), Option.bind_some, hc s (by omega), Option.bind_some, hc p.Can (by omega), Option.bind_some]
    show Option.bind (share_Payback 60 debt p) _ = _
    rw [a1, Option.bind_some, a2, Option.bind_some, same_int (by omega) (by omega), Option.bind_some, bne_self_eq_false, Bool.not_true, Bool.or_false, cond_false,
      b1, Option.bind_some, b2, Option.bind_some, same_int (by omega) (by omega), Option.bind_some, bne_self_eq_false, Bool.not_true, Bool.or_false, cond_false,
      unfair_prog (by omega) (by omega) (by omega), Option.bind_some, unfair_ref (by omega) (by omega) (by omega), Option.bind_some, bne_self_eq_false, bne_self_eq_false, bne_self_eq_false, Bool.or_false, Bool.or_false, cond_false,
      div_prog (by omega) (by omega) (by omega), Option.bind_some, div_ref (by omega) (by omega) (by omega), Option.bind_some, beq_self_eq_true, beq_self_eq_true, beq_self_eq_true, beq_self_eq_true, bne_self_eq_false, Bool.and_true, Bool.not_true, Bool.or_false, Bool.or_false, cond_false,
      proves_prog (by omega) (by omega) (by omega), Option.bind_some, proves_ref (by omega) (by omega) (by omega), Option.bind_some, beq_self_eq_true, beq_self_eq_true, same_int (by omega) (by omega), same_int (by omega) (by omega), same_int (by omega) (by omega), awake_true]
    rfl
end Go.Nilo
