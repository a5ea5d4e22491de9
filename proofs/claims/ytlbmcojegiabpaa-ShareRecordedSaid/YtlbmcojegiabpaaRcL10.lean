/-
  What the plain functions compute, in plain arithmetic, part 10. Conditions: what each theorem names.
-/
import Derived.Test.YtlbmcojegiabpaaRcL9
set_option linter.unusedSimpArgs false
set_option linter.unusedVariables false
namespace Go.Nilo


theorem chk_of {c : share_Compact} (hs : 1 ≤ c.States ∧ c.States ≤ 12) (hl : 1 ≤ c.Rights.length ∧ c.Rights.length ≤ 30) (h : ∀ e ∈ c.Rights, okR c.States e = true) : chk c = 0 := by
  unfold chk
  rw [if_pos ⟨hs.1, hs.2, hl.1, hl.2⟩, if_pos (List.all_eq_true.2 h)]
theorem made_spec {N : Nat} (hN : 60 ≤ N) {numbers : List Int} (hb : Bytes numbers) : ∃ (c : share_Compact) (u m : Int), (1 ≤ c.States ∧ c.States ≤ 12) ∧ (1 ≤ c.Rights.length ∧ c.Rights.length ≤ 12) ∧ (∀ e ∈ c.Rights, okR c.States e = true ∧ e.Amount ≤ 100) ∧ law09_Made N ⟨numbers, 0, 0⟩ = some (c, u, m) := by
  obtain ⟨S, u, m, h1, h2, h3, h4⟩ := within_spec (N := N) hb (u := 0) (m := 0) (lo := 1) (hi := 6) (k := 0) ⟨by omega, by omega, by omega, by omega⟩ (by omega) (by omega) (by omega) (by omega)
  obtain ⟨n, u', m', g1, g2, g3, g4⟩ := within_spec (N := N) hb (u := u) (m := m) (lo := 1) (hi := 12) (k := 1) h4 (by omega) (by omega) (by omega) (by omega)
  obtain ⟨s', h5, h6⟩ := loopInv (fun s5 : Int × Int × Int × List share_Right => law09_Made_b5 N ⟨numbers, 0, 0⟩ (S, u, m) (n, u', m') s5.1 s5.2.1 s5.2.2.1 s5.2.2.2)
    (fun i s => ∃ u m, s = ((i : Int), u, m, s.2.2.2) ∧ s.2.2.2.length = i ∧ (∀ e ∈ s.2.2.2, okR S e = true ∧ e.Amount ≤ 100) ∧ SOk u m (2 + 4 * i)) n.toNat
    (fun i s hi hs => by
      obtain ⟨x, u0, m0, l⟩ := s
      obtain ⟨u1, m1, he, hl, hal, hok⟩ := hs
      cases he
      obtain ⟨r2, u2, m2, a1, a2, a3, a4⟩ := next_spec (N := N) hb (u := u0) (m := m0) (n := S) hok (by omega)
      obtain ⟨r3, u3, m3, b1, b2, b3, b4⟩ := next_spec (N := N) hb (u := u2) (m := m2) (n := 100) a4 (by omega)
      obtain ⟨r4, u4, m4, c1, c2, c3, c4⟩ := next_spec (N := N) hb (u := u3) (m := m3) (n := 2) b4 (by omega)
      obtain ⟨r5, u5, m5, d1, d2, d3, d4⟩ := next_spec (N := N) hb (u := u4) (m := m4) (n := 400) c4 (by omega)
      have hp := mul_bd (a := r4) (b := r5) (A := 1) (B := 399) c2 d2 (by omega) (by omega)
      refine ⟨(((i + 1 : Nat) : Int), u5, m5, l ++ [(⟨r2, r3, r4 * r5⟩ : share_Right)]), ?_, u5, m5, rfl, by simp only [List.length_append, List.length_cons, List.length_nil]; simp only at hl; omega, ?_, by rw [show 2 + 4 * (i + 1) = 2 + 4 * i + 1 + 1 + 1 + 1 by omega]; exact d4⟩
      · show law09_Made_b5 N ⟨numbers, 0, 0⟩ (S, u, m) (n, u', m') (i : Int) u0 m0 l = _
        unfold law09_Made_b5
        simp only at hl
        rw [decide_eq_true (show (i : Int) < n by omega), cond_true, a1, Option.bind_some]
        show Option.bind (kit_Stream_Next N ⟨numbers, u2, m2⟩ 100) _ = _
        rw [b1, Option.bind_some]
        show Option.bind (kit_Stream_Next N ⟨numbers, u3, m3⟩ 2) _ = _
        rw [c1, Option.bind_some]
        show Option.bind (kit_Stream_Next N ⟨numbers, u4, m4⟩ 400) _ = _
        rw [d1, Option.bind_some]
        show Option.bind (room (l ++ [(⟨r2, r3, W (r4 * r5)⟩ : share_Right)]).length) (fun _ => some (Step.cont (W ((i : Int) + 1), u5, m5, l ++ [(⟨r2, r3, W (r4 * r5)⟩ : share_Right)]))) = _
        rw [W_id (n := r4 * r5) (by omega) (by omega), room_ok (by simp; omega), Option.bind_some, W_succ (by omega)]
      · intro e he
        rcases List.mem_append.1 he with h | h
        · exact hal e h
        · rw [List.mem_singleton] at h
          subst h
          refine ⟨?_, by show r3 ≤ 100; omega⟩
          unfold okR
          simp only [Bool.and_eq_true, decide_eq_true_eq]
          omega)
    (fun s hs => by
      obtain ⟨x, u0, m0, l⟩ := s
      obtain ⟨u1, m1, he, hl, hal, hok⟩ := hs
      cases he
      show law09_Made_b5 N ⟨numbers, 0, 0⟩ (S, u, m) (n, u', m') ((n.toNat : Nat) : Int) u0 m0 l = _
      unfold law09_Made_b5
      rw [decide_eq_false (show ¬ ((n.toNat : Nat) : Int) < n by omega), cond_false]) n.toNat 0 (0, u', m', []) N (by omega) (by omega) ⟨u', m', rfl, rfl, (fun e he => nomatch he), g4⟩
  obtain ⟨x, u0, m0, l⟩ := s'
  obtain ⟨u1, m1, he, hl, hal, hok⟩ := h6
  cases he
  simp only at hl hal
  refine ⟨⟨S, l⟩, u0, m0, by simp only; omega, by simp only; omega, hal, ?_⟩
  unfold law09_Made
  rw [h1, Option.bind_some]
  show Option.bind (kit_Stream_Within N ⟨numbers, u, m⟩ 1 12) _ = _
  rw [g1, Option.bind_some]
  show Option.bind (loopO _ N (0, u', m', [])) _ = _
  rw [h5]
  rfl
theorem real_ok {c : share_Compact} (h : chk c = 0) {f : Int} (hf : 0 ≤ f ∧ f ≤ 1000000000) : realF c f = (gotL c f, 0) := by
  unfold realF okF
  rw [if_pos h, decide_eq_true hf.1, decide_eq_true hf.2]
  rfl
theorem spanL_get {c : share_Compact} {s : api_Span} {n i : Nat} (hi : i < n) : getI (spanL c s n) (i : Int) = some (⟨gotF c s.Lo (i : Int) c.Rights.length, gotF c s.Hi (i : Int) c.Rights.length⟩ : api_Span) := by
  rw [getI_nat (by rw [spanL_len]; exact hi)]
  simp [spanL]
end Go.Nilo
