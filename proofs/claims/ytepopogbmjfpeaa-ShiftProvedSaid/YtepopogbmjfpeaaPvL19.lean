/-
  What the plain functions compute, in plain arithmetic, part 19. Conditions: what each theorem names.
-/
import Derived.Test.YtepopogbmjfpeaaPvL18
set_option linter.unusedSimpArgs false
set_option linter.unusedVariables false
namespace Go.Nilo
theorem turned_spec {N n i : Nat} {l : List shift_Turn} (h : TOk n l) (hlt : ∀ t ∈ l, t.Gauging < (i : Int)) {g : Int} {up : Bool} (hg : 0 ≤ g ∧ g < (i : Int)) (hi : i < n) (hl : l.length ≤ 70) :
    ∃ l', shift_turned N l ⟨g, !up⟩ ⟨(i : Int), up⟩ = some l' ∧ TOk n l' ∧ (∀ t ∈ l', t.Gauging < ((i + 1 : Nat) : Int)) ∧ l'.length ≤ l.length + 2 := by
  unfold shift_turned
  rcases Nat.eq_zero_or_pos l.length with h0 | h0
  · obtain rfl := List.length_eq_zero_iff.1 h0
    refine ⟨[⟨g, !up⟩, ⟨(i : Int), up⟩], rfl, ⟨by simp, fun t ht => ?_, fun j hj => ?_⟩, fun t ht => ?_, by simp⟩
    · simp only [List.mem_cons, List.not_mem_nil, or_false] at ht
      rcases ht with rfl | rfl
      · exact ⟨hg.1, by show g < (n : Int); omega⟩
      · exact ⟨by show (0 : Int) ≤ (i : Int); omega, by show (i : Int) < (n : Int); omega⟩
    · have hj' : j + 1 < 2 := hj
      obtain rfl : j = 0 := by omega
      exact ⟨hg.2, by show (!up) ≠ up; cases up <;> decide⟩
    · simp only [List.mem_cons, List.not_mem_nil, or_false] at ht
      rcases ht with rfl | rfl
      · show g < ((i + 1 : Nat) : Int)
        omega
      · show (i : Int) < ((i + 1 : Nat) : Int)
        omega
  · have e0 : ((((l.length : Nat) : Int)) == 0) = false := by rw [beq_eq_false_iff_ne]; omega
    have hla := h.at_ (i := l.length - 1) (by omega)
    have hll : (l.getD (l.length - 1) tn0).Gauging < (i : Int) := hlt _ (by rw [← get_getD (show l.length - 1 < l.length by omega)]; exact List.getElem_mem _)
    rw [e0, cond_false, W_sm (n := (l.length : Int) - 1) (by omega) (by omega), show (l.length : Int) - 1 = ((l.length - 1 : Nat) : Int) by omega, getI_d tn0 (by omega), Option.bind_some, Option.bind_some, Option.bind_some, beq_self_eq_true, Bool.true_and, Int.toNat_natCast]
    cases hu : ((l.getD (l.length - 1) tn0).Up == up) with
    | true =>
      rw [beq_iff_eq] at hu
      have hset : ∀ j, (l.set (l.length - 1) (⟨(i : Int), up⟩ : shift_Turn)).getD j tn0 = if j = l.length - 1 then ⟨(i : Int), up⟩ else l.getD j tn0 := fun j => by
        by_cases hj : j = l.length - 1
        · subst hj
          rw [if_pos rfl, List.getD, List.getElem?_set_self (by omega)]
          rfl
        · rw [if_neg hj]
          simp [List.getD, List.getElem?_set_ne (show l.length - 1 ≠ j by omega)]
      have hmem : ∀ t ∈ l.set (l.length - 1) (⟨(i : Int), up⟩ : shift_Turn), t = ⟨(i : Int), up⟩ ∨ t ∈ l := fun t ht => (List.mem_or_eq_of_mem_set ht).symm
      refine ⟨_, rfl, ⟨by rw [List.length_set]; exact h.len, fun t ht => ?_, fun j hj => ?_⟩, fun t ht => ?_, by rw [List.length_set]; omega⟩
      · rcases hmem t ht with rfl | k
        · exact ⟨by show (0 : Int) ≤ (i : Int); omega, by show (i : Int) < (n : Int); omega⟩
        · exact h.rg t k
      · rw [List.length_set] at hj
        have hj' := h.up j hj
        rw [hset, hset, if_neg (by omega)]
        by_cases e : j + 1 = l.length - 1
        · rw [if_pos e]
          rw [e] at hj'
          exact ⟨by show (l.getD j tn0).Gauging < (i : Int); omega, by rw [← hu]; exact hj'.2⟩
        · rw [if_neg e]
          exact hj'
      · rcases hmem t ht with rfl | k
        · show (i : Int) < ((i + 1 : Nat) : Int)
          omega
        · have := hlt t k
          omega
    | false =>
      rw [cond_false, room_ok (by simp; omega), Option.bind_some]
      refine ⟨_, rfl, h.snoc (by omega) ⟨by show (0 : Int) ≤ (i : Int); omega, by show (i : Int) < (n : Int); omega⟩ (fun j hj => ?_), fun t ht => ?_, by simp⟩
      · rw [show j = l.length - 1 by omega]
        exact ⟨hll, by rw [beq_eq_false_iff_ne] at hu; exact hu⟩
      · rcases List.mem_append.1 ht with k | k
        · have := hlt t k
          omega
        · simp only [List.mem_singleton] at k
          subst k
          show (i : Int) < ((i + 1 : Nat) : Int)
          omega
theorem Zigzag_spec {N : Nat} (hN : 700 ≤ N) {r : shift_Record} (hr : RecOk r) (h : (passes r).all spanOk = true) : ∃ z, shift_Zigzag N r = some (z, 0) ∧ TOk (passes r).length z ∧ z.length ≤ 60 := by
  have hv := passes_vl hr h
  have hpl : (passes r).length = r.Gaugings.length := by simp [passes]
  have h30 := hr.g30
  have h1 := hr.g1
  unfold shift_Zigzag
  rcases opened_ok hN hr with ⟨o, -, k⟩ | ⟨k, -⟩
  · rw [h] at k
    cases k
  rw [k, Option.bind_some]
  show ∃ z, Option.bind (getI (passes r) ((0 : Nat) : Int)) _ = _ ∧ _
  rw [getI_d s00 (by omega), Option.bind_some]
  have hs0 := hv.at_ (i := 0) (by omega)
  have hs0' := hs0.2.1
  obtain ⟨⟨out, x, x1, x2, x3, x4⟩, l1, hx, hT, hlt, hlen, -⟩ := loopInv (fun s14 : List shift_Turn × Int × Int × Int × Int × Int => shift_Zigzag_b14 N (passes r, 0) s14.1 s14.2.1 s14.2.2.1 s14.2.2.2.1 s14.2.2.2.2.1 s14.2.2.2.2.2)
    (fun i s => s.2.1 = (i : Int) ∧ TOk (passes r).length s.1 ∧ (∀ t ∈ s.1, t.Gauging < (i : Int)) ∧ s.1.length ≤ 2 * i ∧ ((i = 0 ∧ s.2.2 = (((passes r).getD 0 s00).Lo, ((passes r).getD 0 s00).Hi, 0, 0)) ∨ (0 < i ∧ (0 ≤ s.2.2.2.2.1 ∧ s.2.2.2.2.1 < (i : Int)) ∧ 0 ≤ s.2.2.2.2.2 ∧ s.2.2.2.2.2 < (i : Int)))) (passes r).length
    (by
      rintro i ⟨out, x, x1, x2, x3, x4⟩ hi ⟨rfl, hT, hlt, hlen, hw⟩
      dsimp only at hT hlt hlen hw ⊢
      have ej : ∀ (o : List shift_Turn) (a b c d : Int), shift_Zigzag_j18 N (i : Int) o a b c d = some (.cont (o, ((i + 1 : Nat) : Int), a, b, c, d)) := fun o a b c d => by
        unfold shift_Zigzag_j18
        rw [W_succ (by omega)]
      have hlt' : ∀ t ∈ out, t.Gauging < ((i + 1 : Nat) : Int) := fun t ht => by
        have := hlt t ht
        omega
      have ej27 : ∀ (e : api_Span) (a c : Int), 0 ≤ c ∧ c < ((i + 1 : Nat) : Int) → 0 ≤ x4 ∧ x4 < ((i + 1 : Nat) : Int) → ∃ s', shift_Zigzag_j27 N out (i : Int) x2 x4 e a c = some (.cont s') ∧ s'.2.1 = ((i + 1 : Nat) : Int) ∧ s'.1 = out ∧ (0 ≤ s'.2.2.2.2.1 ∧ s'.2.2.2.2.1 < ((i + 1 : Nat) : Int)) ∧ 0 ≤ s'.2.2.2.2.2 ∧ s'.2.2.2.2.2 < ((i + 1 : Nat) : Int) := fun e a c hc h4 => by
        unfold shift_Zigzag_j27
        cases decide (e.Hi < x2) with
        | true =>
          rw [cond_true, ej]
          exact ⟨_, rfl, rfl, rfl, hc, by dsimp only; omega, by dsimp only; omega⟩
        | false =>
          rw [cond_false, ej]
          exact ⟨_, rfl, rfl, rfl, hc, h4.1, h4.2⟩
      unfold shift_Zigzag_b14
      dsimp only
      rw [lt_dec hi, cond_true, getI_d s00 hi, Option.bind_some]
      have hb3 : 0 ≤ x3 ∧ x3 < ((i + 1 : Nat) : Int) := by
        rcases hw with ⟨rfl, hw⟩ | hw
        · have : x3 = 0 := congrArg (fun p : Int × Int × Int × Int => p.2.2.1) hw
          omega
        · omega
      have hb4 : 0 ≤ x4 ∧ x4 < ((i + 1 : Nat) : Int) := by
        rcases hw with ⟨rfl, hw⟩ | hw
        · have : x4 = 0 := congrArg (fun p : Int × Int × Int × Int => p.2.2.2) hw
          omega
        · omega
      by_cases c1 : x2 < ((passes r).getD i s00).Lo
      · rw [dT c1, cond_true]
        rcases hw with ⟨rfl, hw⟩ | ⟨h0, h3, h4⟩
        · have : x2 = ((passes r).getD 0 s00).Hi := congrArg (fun p : Int × Int × Int × Int => p.2.1) hw
          omega
        · obtain ⟨l', t1, t2, t3, t4⟩ := turned_spec (N := N) (up := false) hT hlt h4 hi (by omega)
          show ∃ s', Option.bind (shift_turned N out ⟨x4, !false⟩ ⟨(i : Int), false⟩) _ = _ ∧ _
          rw [t1, Option.bind_some, ej]
          exact ⟨_, rfl, rfl, t2, t3, by dsimp only; omega, .inr ⟨by omega, by dsimp only; omega, by dsimp only; omega, by dsimp only; omega⟩⟩
      · rw [dF c1, cond_false]
        by_cases c2 : ((passes r).getD i s00).Hi < x1
        · rw [dT c2, cond_true]
          rcases hw with ⟨rfl, hw⟩ | ⟨h0, h3, h4⟩
          · have : x1 = ((passes r).getD 0 s00).Lo := congrArg (fun p : Int × Int × Int × Int => p.1) hw
            omega
          · obtain ⟨l', t1, t2, t3, t4⟩ := turned_spec (N := N) (up := true) hT hlt h3 hi (by omega)
            show ∃ s', Option.bind (shift_turned N out ⟨x3, !true⟩ ⟨(i : Int), true⟩) _ = _ ∧ _
            rw [t1, Option.bind_some, ej]
            exact ⟨_, rfl, rfl, t2, t3, by dsimp only; omega, .inr ⟨by omega, by dsimp only; omega, by dsimp only; omega, by dsimp only; omega⟩⟩
        · rw [dF c2, cond_false]
          cases decide (x1 < ((passes r).getD i s00).Lo) with
          | true =>
            rw [cond_true]
            obtain ⟨s', q1, q2, q3, q4, q5⟩ := ej27 ((passes r).getD i s00) ((passes r).getD i s00).Lo (i : Int) (by omega) hb4
            refine ⟨s', q1, q2, by rw [q3]; exact hT, by rw [q3]; exact hlt', by rw [q3]; omega, .inr ⟨by omega, q4, q5⟩⟩
          | false =>
            rw [cond_false]
            obtain ⟨s', q1, q2, q3, q4, q5⟩ := ej27 ((passes r).getD i s00) x1 x3 hb3 hb4
            refine ⟨s', q1, q2, by rw [q3]; exact hT, by rw [q3]; exact hlt', by rw [q3]; omega, .inr ⟨by omega, q4, q5⟩⟩)
    (by
      rintro ⟨out, x, x1, x2, x3, x4⟩ ⟨rfl, -⟩
      dsimp only
      unfold shift_Zigzag_b14
      dsimp only
      rw [ge_dec, cond_false])
    (passes r).length 0 ([], 0, ((passes r).getD 0 s00).Lo, ((passes r).getD 0 s00).Hi, 0, 0) N (by omega) (by omega)
    ⟨rfl, TOk.nil, fun t ht => absurd ht (List.not_mem_nil), by simp, .inl ⟨rfl, rfl⟩⟩
  dsimp only at hT hlen
  refine ⟨out, ?_, hT, by omega⟩
  show Option.bind (loopO (fun s14 : List shift_Turn × Int × Int × Int × Int × Int => shift_Zigzag_b14 N (passes r, 0) s14.1 s14.2.1 s14.2.2.1 s14.2.2.2.1 s14.2.2.2.2.1 s14.2.2.2.2.2) N ([], 0, ((passes r).getD 0 s00).Lo, ((passes r).getD 0 s00).Hi, 0, 0)) _ = _
  rw [l1]
  rfl
end Go.Nilo
