/-
  What the plain functions compute, in plain arithmetic, part 12. Conditions: what each theorem names.
-/
import Derived.Test.YtbgjmnbgilddgaaMiL11
set_option linter.unusedSimpArgs false
set_option linter.unusedVariables false
namespace Go.Nilo
/-! ### What is best -/
structure Best (s : gauge_Site) (i : Nat) (c p : Int) : Prop where
  w : Pth s i (s.Points.length + 1) c p
  le : ∀ c' p', Pth s i (s.Points.length + 1) c' p' → lexle c p c' p'
inductive Fol (s : gauge_Site) (mp : Int → Option Int) : Nat → Int → Prop
  | last : Fol s mp (s.Points.length + 1) 0
  | cons {a b : Nat} {p : Int} : a < b → b ≤ s.Points.length + 1 → mp (a : Int) = some (b : Int) → Fol s mp b p → Fol s mp a (p + wt s b)
theorem Fol.upd {s : gauge_Site} {mp mp' : Int → Option Int} {i a : Nat} {p : Int} (h : Fol s mp i p) (ha : a < i) (hm : ∀ j : Nat, a < j → mp' (j : Int) = mp (j : Int)) : Fol s mp' i p := by
  induction h with
  | last => exact Fol.last
  | cons h1 h2 h3 _ ih => exact Fol.cons h1 h2 (by rw [hm _ ha]; exact h3) (ih (by omega))
def far' : gauge_spent := ⟨1000000000, 0⟩
def isFar (x : gauge_spent) : Bool := x.cost == (1000000000 : Int) && x.points == (0 : Int)
theorem isFar_t {x : gauge_spent} (h : x = far') : isFar x = true := by subst h; rfl
theorem isFar_f {x : gauge_spent} (h : ¬ x = far') : isFar x = false := by
  rw [Bool.eq_false_iff]
  intro e
  apply h
  unfold isFar at e
  rw [Bool.and_eq_true, beq_iff_eq, beq_iff_eq] at e
  cases x with
  | mk c p =>
    obtain ⟨rfl, rfl⟩ := e
    rfl
instance {c p c' p' : Int} : Decidable (lexle c p c' p') := by unfold lexle; infer_instance
theorem nbeq {i a : Nat} (h : i ≠ a) : Nat.beq i a = false := by
  rw [Bool.eq_false_iff]
  intro e
  exact h (Nat.eq_of_beq_eq_true e)
/-- What a station has when it is done. -/
def Done (s : gauge_Site) (least : Nat → gauge_spent) (mp : Int → Option Int) (i : Nat) : Prop :=
  (least i = far' ∧ ∀ c p, ¬ Pth s i (s.Points.length + 1) c p) ∨ (Best s i (least i).cost (least i).points ∧ Fol s mp i (least i).points)
theorem Done.upd {s : gauge_Site} {least least' : Nat → gauge_spent} {mp mp' : Int → Option Int} {i a : Nat} (h : Done s least mp i) (ha : a < i) (hl : ∀ j, a < j → least' j = least j) (hm : ∀ j : Nat, a < j → mp' (j : Int) = mp (j : Int)) : Done s least' mp' i := by
  unfold Done
  rw [hl i ha]
  rcases h with h | ⟨h1, h2⟩
  · exact .inl h
  · exact .inr ⟨h1, h2.upd ha hm⟩
/-- What a station has while steps to stations below b have been looked at. -/
def Half (s : gauge_Site) (least : Nat → gauge_spent) (mp : Int → Option Int) (a b : Nat) : Prop :=
  (least a = far' ∧ ∀ b', a < b' → b' < b → sB s a b' = true → ∀ c p, ¬ Pth s b' (s.Points.length + 1) c p) ∨
  (∃ b0 c p, a < b0 ∧ b0 < b ∧ b0 ≤ s.Points.length + 1 ∧ sB s a b0 = true ∧ mp (a : Int) = some (b0 : Int) ∧ Pth s b0 (s.Points.length + 1) c p ∧ Fol s mp b0 p ∧ least a = ⟨c + (stA s b0).Cost, p + wt s b0⟩ ∧
    ∀ b', a < b' → b' < b → sB s a b' = true → ∀ c' p', Pth s b' (s.Points.length + 1) c' p' → lexle (c + (stA s b0).Cost) (p + wt s b0) (c' + (stA s b').Cost) (p' + wt s b'))
theorem Half.done {s : gauge_Site} {least : Nat → gauge_spent} {mp : Int → Option Int} {a : Nat} (ha : a ≤ s.Points.length) (h : Half s least mp a (s.Points.length + 2)) : Done s least mp a := by
  rcases h with ⟨h1, h2⟩ | ⟨b0, c, p, h1, h2, h3, h4, h5, h6, h7, h8, h9⟩
  · refine .inl ⟨h1, fun c p w => ?_⟩
    generalize he : s.Points.length + 1 = e at w
    cases w with
    | nil h => omega
    | cons g1 g2 g3 w => subst he; exact h2 _ g1 (by omega) g3 _ _ w
  · refine .inr ⟨?_, ?_⟩
    · rw [h8]
      refine ⟨Pth.cons h1 h3 h4 h6, fun c' p' w => ?_⟩
      generalize he : s.Points.length + 1 = e at w
      cases w with
      | nil h => omega
      | cons g1 g2 g3 w => subst he; exact h9 _ g1 (by omega) g3 _ _ w
    · rw [h8]
      exact Fol.cons h1 h3 h5 h7

/-! ### How two are compared -/
theorem compare_spec (x y : Int) : cmp_Compare_int x y = if x < y then -1 else if y < x then 1 else 0 := by
  unfold cmp_Compare_int cmp_isNaN_int
  simp only [bne_self_eq_false, cond_false]
  by_cases h1 : x < y
  · rw [decide_eq_true h1, if_pos h1, cond_true]
  · rw [decide_eq_false h1, if_neg h1, cond_false]
    by_cases h2 : y < x
    · rw [decide_eq_true h2, if_pos h2, cond_true]
    · rw [decide_eq_false h2, if_neg h2, cond_false]
theorem or_spec {N : Nat} (hN : 4 ≤ N) (x y : Int) : cmp_Or_int N [x, y] = some (if x ≠ 0 then x else y) := by
  obtain ⟨N, rfl⟩ : ∃ M, N = M + 4 := ⟨N - 4, by omega⟩
  unfold cmp_Or_int
  by_cases hx : x = 0
  · subst hx
    by_cases hy : y = 0
    · subst hy
      have : loopO (fun s5 => cmp_Or_int_b5 (N + 4) [0, 0] s5) (N + 4) 0 = some (.go 2) := by
        simp only [loopO]
        rfl
      rw [this]; rfl
    · have : loopO (fun s5 => cmp_Or_int_b5 (N + 4) [0, y] s5) (N + 4) 0 = some (.out y) := by
        have e1 : cmp_Or_int_b5 (N + 4) [0, y] 0 = some (.cont 1) := rfl
        have e2 : cmp_Or_int_b5 (N + 4) [0, y] 1 = some (.ret y) := by
          unfold cmp_Or_int_b5
          rw [show decide ((1 : Int) < ((([0, y] : List Int).length : Nat) : Int)) = true from rfl, cond_true, show getI [0, y] 1 = some y from rfl, Option.bind_some, show (y != 0) = true from bne_iff_ne.2 hy, cond_true]
        rw [loopO, e1]
        show loopO _ (N + 3) 1 = _
        rw [loopO, e2]
      rw [this, if_neg (by omega)]; rfl
  · have : loopO (fun s5 => cmp_Or_int_b5 (N + 4) [x, y] s5) (N + 4) 0 = some (.out x) := by
      have e1 : cmp_Or_int_b5 (N + 4) [x, y] 0 = some (.ret x) := by
        unfold cmp_Or_int_b5
        rw [show decide ((0 : Int) < ((([x, y] : List Int).length : Nat) : Int)) = true from rfl, cond_true, show getI [x, y] 0 = some x from rfl, Option.bind_some, show (x != 0) = true from bne_iff_ne.2 hx, cond_true]
      rw [loopO, e1]
    rw [this, if_pos hx]; rfl
theorem less_spec {N : Nat} (hN : 4 ≤ N) (c p c' p' : Int) : ∃ r, cmp_Or_int N [cmp_Compare_int c c', cmp_Compare_int p p'] = some r ∧ decide (r < 0) = decide (¬ lexle c' p' c p) := by
  refine ⟨_, or_spec hN _ _, ?_⟩
  rw [compare_spec, compare_spec, Bool.eq_iff_iff, decide_eq_true_eq, decide_eq_true_eq]
  unfold lexle
  split <;> split <;> omega
theorem inR_ok {i : Nat} (h : i < 32) : inR (i : Int) 32 = some () := by unfold inR; rw [if_pos (by omega)]
theorem far_eq {x : gauge_spent} : (x.cost == (1000000000 : Int) && x.points == (0 : Int)) = isFar x := rfl

/-! ### One step more -/
theorem better_spec {N : Nat} (hN : 40 ≤ N) {s : gauge_Site} (h : StOk s) {least : Nat → gauge_spent} {mp : Int → Option Int} {a b : Nat} (ha : a ≤ s.Points.length) (hab : a < b) (hb : b ≤ s.Points.length + 1) (hbd : 0 ≤ (least b).cost ∧ (least b).cost ≤ 100000 ∧ 0 ≤ (least b).points ∧ (least b).points ≤ 100) :
    ∃ l' m', gauge_work_better N ⟨s, least, mp⟩ (a : Int) (b : Int) = some (l', m') ∧
      (((¬ lexle (least a).cost (least a).points ((least b).cost + (stA s b).Cost) ((least b).points + wt s b) ∨ least a = far') ∧ l' a = ⟨(least b).cost + (stA s b).Cost, (least b).points + wt s b⟩ ∧ m' (a : Int) = some (b : Int) ∧ (∀ j, a < j → l' j = least j) ∧ (∀ j : Nat, a < j → m' (j : Int) = mp (j : Int))) ∨
       (lexle (least a).cost (least a).points ((least b).cost + (stA s b).Cost) ((least b).points + wt s b) ∧ least a ≠ far' ∧ l' = least ∧ m' = mp)) := by
  have hn := h.n
  have key : ∀ x y : Int, ∃ l' m', gauge_work_better_j2 N ⟨s, least, mp⟩ (a : Int) (b : Int) x y = some (l', m') ∧
      (((¬ lexle (least a).cost (least a).points x y ∨ least a = far') ∧ l' a = ⟨x, y⟩ ∧ m' (a : Int) = some (b : Int) ∧ (∀ j, a < j → l' j = least j) ∧ (∀ j : Nat, a < j → m' (j : Int) = mp (j : Int))) ∨
       (lexle (least a).cost (least a).points x y ∧ least a ≠ far' ∧ l' = least ∧ m' = mp)) := by
    intro x y
    unfold gauge_work_better_j2
    obtain ⟨r, e1, e2⟩ := less_spec (N := N) (by omega) x y (least a).cost (least a).points
    rw [inR_ok (by omega), Option.bind_some]
    dsimp only
    rw [Int.toNat_natCast, e1, Option.bind_some, e2]
    unfold gauge_far
    simp only [Option.bind_some]
    rw [far_eq]
    by_cases hle : lexle (least a).cost (least a).points x y
    · rw [decide_eq_false (not_not_intro hle), cond_false, Option.bind_some]
      by_cases hf : least a = far'
      · rw [isFar_t hf, cond_true]
        refine ⟨_, _, rfl, .inl ⟨.inr hf, ?_, ?_, ?_, ?_⟩⟩
        · unfold setF; simp
        · unfold setM; simp
        · intro j hj; unfold setF; rw [show Nat.beq j a = false from nbeq (by omega), cond_false]
        · intro j hj; unfold setM; rw [if_neg (by omega), if_neg (by omega)]
      · rw [isFar_f hf, cond_false]
        exact ⟨_, _, rfl, .inr ⟨hle, hf, rfl, rfl⟩⟩
    · rw [decide_eq_true hle, cond_true, Option.bind_some, cond_true]
      refine ⟨_, _, rfl, .inl ⟨.inl hle, ?_, ?_, ?_, ?_⟩⟩
      · unfold setF; simp
      · unfold setM; simp
      · intro j hj; unfold setF; rw [show Nat.beq j a = false from nbeq (by omega), cond_false]
      · intro j hj; unfold setM; rw [if_neg (by omega), if_neg (by omega)]
  have hst := stA_bd h hb
  unfold gauge_work_better
  rw [inR_ok (by omega), Option.bind_some]
  dsimp only
  rw [Int.toNat_natCast]
  by_cases hbn : b ≤ s.Points.length
  · rw [decide_eq_true (by omega), cond_true, station_spec h hb, Option.bind_some]
    dsimp only
    rw [W_id (by omega) (by omega), W_id (by omega) (by omega)]
    have hw : wt s b = 1 := by unfold wt; rw [if_pos (by omega)]
    rw [hw]
    exact key _ _
  · rw [decide_eq_false (by omega), cond_false]
    have hw : wt s b = 0 := by unfold wt; rw [if_neg (by omega)]
    have hc : (stA s b).Cost = 0 := by unfold stA; rw [if_neg (by omega), if_pos (by omega)]
    rw [hw, hc, Int.add_zero, Int.add_zero]
    exact key _ _
theorem lex_total {c p c' p' : Int} (h : ¬ lexle c p c' p') : lexle c' p' c p := by unfold lexle at *; omega
theorem lex_trans {c p c' p' c2 p2 : Int} (h : lexle c p c' p') (h' : lexle c' p' c2 p2) : lexle c p c2 p2 := by unfold lexle at *; omega
theorem lex_add {c p c' p' x y : Int} (h : lexle c p c' p') : lexle (c + x) (p + y) (c' + x) (p' + y) := by unfold lexle at *; omega
theorem inner_loop {N : Nat} (hN : 60 ≤ N) {s : gauge_Site} (h : StOk s) {a : Nat} (ha : a ≤ s.Points.length) {L0 : Nat → gauge_spent} {M0 : Int → Option Int} (hd : ∀ i, a < i → i ≤ s.Points.length + 1 → Done s L0 M0 i) (h0 : L0 a = far') :
    ∃ (x : Int) (l : Nat → gauge_spent) (m : Int → Option Int), loopO (fun s18 => gauge_opened_b18 N s (a : Int) s18.1 s18.2.1 s18.2.2) N (((a + 1 : Nat) : Int), L0, M0) = some (.go (x, l, m)) ∧ ∀ i, a ≤ i → i ≤ s.Points.length + 1 → Done s l m i := by
  have hn := h.n
  have hlast : W (((s.Points.length : Nat) : Int) + 1) = ((s.Points.length + 1 : Nat) : Int) := W_succ (by omega)
  obtain ⟨⟨x, l, m⟩, h1, hI⟩ := loopInv (fun s18 => gauge_opened_b18 N s (a : Int) s18.1 s18.2.1 s18.2.2)
    (fun j t => t.1 = ((a + 1 + j : Nat) : Int) ∧ (∀ i, a < i → t.2.1 i = L0 i) ∧ (∀ i : Nat, a < i → t.2.2 (i : Int) = M0 (i : Int)) ∧ Half s t.2.1 t.2.2 a (a + 1 + j)) (s.Points.length + 1 - a)
    (by
      rintro j ⟨x, l, m⟩ hj ⟨rfl, hl, hm, hH⟩
      dsimp only at hl hm hH ⊢
      obtain ⟨b, hb⟩ : ∃ b, b = a + 1 + j := ⟨_, rfl⟩
      rw [← hb] at hH ⊢
      have hbl : b ≤ s.Points.length + 1 := by omega
      have hab : a < b := by omega
      have hdb : Done s l m b := (hd b hab hbl).upd hab hl hm
      unfold gauge_opened_b18
      rw [hlast, decide_eq_true (by omega), cond_true, steps_spec (w := ⟨s, l, m⟩) h (by dsimp only; omega) (by dsimp only; omega), Option.bind_some]
      unfold gauge_far gauge_opened_j21
      rw [inR_ok (by omega)]
      simp only [Option.bind_some, Int.toNat_natCast, far_eq]
      by_cases hs : sB s a b = true
      · rw [hs, cond_true, Option.bind_some]
        rcases hdb with ⟨hf, hno⟩ | ⟨hB, hF⟩
        · rw [isFar_t hf, Bool.not_true, cond_false, W_succ (by omega)]
          refine ⟨_, rfl, by dsimp only; omega, hl, hm, ?_⟩
          dsimp only
          rw [show a + 1 + (j + 1) = b + 1 by omega]
          rcases hH with ⟨g1, g2⟩ | ⟨b0, c, p, g1, g2, g3, g4, g5, g6, g7, g8, g9⟩
          · refine .inl ⟨g1, fun b' q1 q2 q3 c p w => ?_⟩
            by_cases e : b' = b
            · subst e; exact hno _ _ w
            · exact g2 b' q1 (by omega) q3 _ _ w
          · refine .inr ⟨b0, c, p, g1, by omega, g3, g4, g5, g6, g7, g8, fun b' q1 q2 q3 c' p' w => ?_⟩
            by_cases e : b' = b
            · subst e; exact absurd w (hno _ _)
            · exact g9 b' q1 (by omega) q3 _ _ w
        · have hbd := pth_bd h hB.w
          have hnf : ¬ l b = far' := fun e => by rw [e] at hbd; unfold far' at hbd; dsimp only at hbd; omega
          rw [isFar_f hnf, Bool.not_false, cond_true]
          obtain ⟨l', m', e1, hc⟩ := better_spec (N := N) (by omega) h (least := l) (mp := m) ha hab hbl (by omega)
          rw [e1, Option.bind_some, W_succ (by omega)]
          refine ⟨_, rfl, by dsimp only; omega, ?_, ?_, ?_⟩
          · intro i hi
            dsimp only
            rcases hc with ⟨-, -, -, q, -⟩ | ⟨-, -, q, -⟩
            · rw [q i hi, hl i hi]
            · rw [q, hl i hi]
          · intro i hi
            dsimp only
            rcases hc with ⟨-, -, -, -, q⟩ | ⟨-, -, -, q⟩
            · rw [q i hi, hm i hi]
            · rw [q, hm i hi]
          dsimp only
          rw [show a + 1 + (j + 1) = b + 1 by omega]
          rcases hc with ⟨hcase, k1, k2, k3, k4⟩ | ⟨hle, hnfa, rfl, rfl⟩
          · refine .inr ⟨b, (l b).cost, (l b).points, hab, by omega, hbl, hs, k2, hB.w, hF.upd hab k4, k1, fun b' q1 q2 q3 c' p' w => ?_⟩
            by_cases e : b' = b
            · subst e; exact lex_add (hB.le _ _ w)
            · rcases hH with ⟨g1, g2⟩ | ⟨b0, c, p, g1, g2, g3, g4, g5, g6, g7, g8, g9⟩
              · exact absurd w (g2 b' q1 (by omega) q3 _ _)
              · have hq := g9 b' q1 (by omega) q3 _ _ w
                rcases hcase with hcase | hcase
                · rw [g8] at hcase
                  exact lex_trans (lex_total hcase) hq
                · have := pth_bd h g6
                  have := stA_bd h g3
                  rw [g8] at hcase
                  unfold far' at hcase
                  have := congrArg (·.cost) hcase
                  dsimp only at this
                  omega
          · rcases hH with ⟨g1, g2⟩ | ⟨b0, c, p, g1, g2, g3, g4, g5, g6, g7, g8, g9⟩
            · exact absurd g1 hnfa
            · refine .inr ⟨b0, c, p, g1, by omega, g3, g4, g5, g6, g7, g8, fun b' q1 q2 q3 c' p' w => ?_⟩
              by_cases e : b' = b
              · subst e
                rw [g8] at hle
                exact lex_trans hle (lex_add (hB.le _ _ w))
              · exact g9 b' q1 (by omega) q3 _ _ w
      · rw [Bool.eq_false_iff.2 hs, cond_false, Option.bind_some, cond_false, W_succ (by omega)]
        refine ⟨_, rfl, by dsimp only; omega, hl, hm, ?_⟩
        dsimp only
        rw [show a + 1 + (j + 1) = b + 1 by omega]
        rcases hH with ⟨g1, g2⟩ | ⟨b0, c, p, g1, g2, g3, g4, g5, g6, g7, g8, g9⟩
        · refine .inl ⟨g1, fun b' q1 q2 q3 c p w => ?_⟩
          by_cases e : b' = b
          · subst e; exact absurd q3 hs
          · exact g2 b' q1 (by omega) q3 _ _ w
        · refine .inr ⟨b0, c, p, g1, by omega, g3, g4, g5, g6, g7, g8, fun b' q1 q2 q3 c' p' w => ?_⟩
          by_cases e : b' = b
          · subst e; exact absurd q3 hs
          · exact g9 b' q1 (by omega) q3 _ _ w)
    (by
      rintro ⟨x, l, m⟩ ⟨rfl, -⟩
      dsimp only
      unfold gauge_opened_b18
      rw [hlast, decide_eq_false (by omega), cond_false])
    (s.Points.length + 1 - a) 0 (((a + 1 : Nat) : Int), L0, M0) N (by omega) (by omega) ⟨rfl, fun _ _ => rfl, fun _ _ => rfl, .inl ⟨h0, fun b' q1 q2 => by omega⟩⟩
  dsimp only at hI
  obtain ⟨-, hl, hm, hH⟩ := hI
  refine ⟨x, l, m, h1, fun i h2 h3 => ?_⟩
  by_cases e : i = a
  · subst e
    rw [show i + 1 + (s.Points.length + 1 - i) = s.Points.length + 2 by omega] at hH
    exact hH.done ha
  · exact (hd i (by omega) h3).upd (by omega) hl hm
theorem outer_loop {N : Nat} (hN : 60 ≤ N) {s : gauge_Site} (h : StOk s) :
    ∃ (x : Int) (l : Nat → gauge_spent) (m : Int → Option Int), loopO (fun s10 => gauge_opened_b10 N s s10.1 s10.2.1 s10.2.2) N ((s.Points.length : Int), (fun _ => (⟨0, 0⟩ : gauge_spent)), (fun _ => none : Int → Option Int)) = some (.go (x, l, m)) ∧ Done s l m 0 := by
  have hn := h.n
  obtain ⟨⟨x, l, m⟩, h1, hI⟩ := loopInv (fun s10 => gauge_opened_b10 N s s10.1 s10.2.1 s10.2.2)
    (fun j t => t.1 = (s.Points.length : Int) - j ∧ ∀ i, s.Points.length + 1 - j ≤ i → i ≤ s.Points.length + 1 → Done s t.2.1 t.2.2 i) (s.Points.length + 1)
    (by
      rintro j ⟨x, l, m⟩ hj ⟨rfl, hd⟩
      dsimp only at hd ⊢
      obtain ⟨a, ha⟩ : ∃ a, a = s.Points.length - j := ⟨_, rfl⟩
      rw [show (s.Points.length : Int) - (j : Int) = (a : Int) by omega]
      unfold gauge_opened_b10
      rw [decide_eq_true (by omega), cond_true]
      unfold gauge_far
      rw [Option.bind_some, inR_ok (by omega), Option.bind_some, W_succ (by omega), Int.toNat_natCast]
      have hset : ∀ i, a < i → setF l a far' i = l i := fun i hi => by unfold setF; rw [show Nat.beq i a = false from nbeq (by omega), cond_false]
      obtain ⟨x, l', m', e1, hD⟩ := inner_loop hN h (a := a) (by omega) (L0 := setF l a far') (M0 := m) (fun i h2 h3 => (hd i (by omega) h3).upd h2 hset (fun _ _ => rfl)) (by unfold setF; simp)
      have e1' : loopO (fun s18 => gauge_opened_b18 N s (a : Int) s18.1 s18.2.1 s18.2.2) N (((a + 1 : Nat) : Int), setF l a (⟨1000000000, 0⟩ : gauge_spent), m) = some (.go (x, l', m')) := e1
      rw [e1', Option.bind_some]
      refine ⟨_, rfl, ?_, fun i h2 h3 => hD i (by omega) h3⟩
      dsimp only
      rw [W_id (by omega) (by omega)]
      omega)
    (by
      rintro ⟨x, l, m⟩ ⟨rfl, -⟩
      dsimp only
      unfold gauge_opened_b10
      rw [decide_eq_false (by omega), cond_false])
    (s.Points.length + 1) 0 ((s.Points.length : Int), (fun _ => (⟨0, 0⟩ : gauge_spent)), (fun _ => none : Int → Option Int)) N (by omega) (by omega) ⟨by dsimp only; omega, fun i h2 h3 => by
      have : i = s.Points.length + 1 := by omega
      subst this
      exact .inr ⟨⟨Pth.nil (Nat.le_refl _), fun c p w => by
        obtain ⟨rfl, rfl⟩ := pth_last w
        exact .inr ⟨rfl, Int.le_refl _⟩⟩, Fol.last⟩⟩
  exact ⟨x, l, m, h1, hI.2 0 (by omega) (by omega)⟩
theorem follow_spec {s s' : gauge_Site} {mp : Int → Option Int} {least : Nat → gauge_spent} {i : Nat} {p : Int} (hf : Fol s mp i p) (hn : s.Points.length ≤ 12) : ∀ {N : Nat} {out : List Int}, s.Points.length + 2 ≤ N + i → out.length ≤ 12 + i → ∃ r, (i ≤ s.Points.length → gauge_Plan_1 N (i : Int) ⟨s', least, mp⟩ s out = some r) ∧ (r.length : Int) = out.length + p := by
  induction hf with
  | last => intro N out _ _; exact ⟨out, fun h => by omega, by omega⟩
  | cons h1 h2 h3 hf ih =>
    rename_i a b p
    intro N out hN ho
    by_cases hb : b ≤ s.Points.length
    · obtain ⟨N, rfl⟩ : ∃ M, N = M + 1 := ⟨N - 1, by omega⟩
      obtain ⟨r, e1, e2⟩ := ih (N := N) (out := out ++ [(b : Int)]) (by omega) (by simp; omega)
      refine ⟨r, fun _ => ?_, ?_⟩
      · unfold gauge_Plan_1
        dsimp only
        simp only [h3, Option.getD_some]
        rw [decide_eq_true (by omega), cond_true, room_ok (by simp; omega), Option.bind_some, e1 hb, Option.bind_some]
      · have hw : wt s b = 1 := by unfold wt; rw [if_pos (by omega)]
        rw [e2, hw]
        simp
        omega
    · have : b = s.Points.length + 1 := by omega
      subst this
      have hw : wt s (s.Points.length + 1) = 0 := by unfold wt; rw [if_neg (by omega)]
      have hp : p = 0 := by
        cases hf with
        | last => rfl
        | cons q1 q2 _ _ => omega
      refine ⟨out, fun _ => ?_, by rw [hw, hp]; omega⟩
      obtain ⟨N, rfl⟩ : ∃ M, N = M + 1 := ⟨N - 1, by omega⟩
      unfold gauge_Plan_1
      dsimp only
      simp only [h3, Option.getD_some]
      rw [decide_eq_false (by omega), cond_false]
theorem plan_spec {N : Nat} (hN : 60 ≤ N) {s : gauge_Site} (h : StOk s) : ∃ out c e, gauge_Plan N s = some (out, c, e) ∧
    ((e = 5 ∧ c = 0 ∧ out.length = 0 ∧ ∀ c' p', ¬ Pth s 0 (s.Points.length + 1) c' p') ∨ (e = 0 ∧ Best s 0 c (out.length : Int))) := by
  have hn := h.n
  obtain ⟨x, l, m, e1, hD⟩ := outer_loop hN h
  unfold gauge_Plan gauge_opened
  rw [site_ok (by omega) h, Option.bind_some, show ((0 : Int) != 0) = false from rfl, cond_false, W_succ (by omega), W_id (by omega) (by omega), show ((s.Points.length + 1 : Nat) : Int) - 1 = (s.Points.length : Int) by omega, e1, Option.bind_some]
  simp only [exK, Option.bind_some, sumK, bne_self_eq_false, cond_false]
  rw [show inR 0 32 = some () from inR_ok (i := 0) (by omega)]
  unfold gauge_far
  simp only [Option.bind_some, far_eq, Int.toNat_zero]
  rcases hD with ⟨hf, hno⟩ | ⟨hB, hF⟩
  · rw [isFar_t hf, cond_true]
    exact ⟨_, _, _, rfl, .inl ⟨rfl, rfl, rfl, hno⟩⟩
  · have hbd := pth_bd h hB.w
    have hnf : ¬ l 0 = far' := fun e => by rw [e] at hbd; unfold far' at hbd; dsimp only at hbd; omega
    rw [isFar_f hnf, cond_false]
    obtain ⟨r, e2, e3⟩ := follow_spec (s' := ⟨s.Left, s.Right, s.Gap, s.Step_, s.Points⟩) (least := l) hF hn (N := N) (out := []) (by omega) (by simp)
    have e2 := e2 (by omega)
    rw [show ((0 : Nat) : Int) = 0 from rfl] at e2
    rw [e2]
    refine ⟨_, _, _, rfl, .inr ⟨rfl, ?_⟩⟩
    have : (r.length : Int) = (l 0).points := by rw [e3]; simp
    rw [this]
    exact hB
end Go.Nilo
