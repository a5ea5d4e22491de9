/-
  What the plain functions compute, in plain arithmetic, part 6. Conditions: what each theorem names.
-/
import Derived.Test.YtlbmcojegiabpaaLeL5
set_option linter.unusedSimpArgs false
set_option linter.unusedVariables false
namespace Go.Nilo
structure TInv (i : Nat) (index due : Int) (T : List share_Point) : Prop where
  l : T.length = i
  b : 0 ≤ index ∧ index ≤ 49 + 60 * i ∧ 0 ≤ due ∧ due ≤ 19 + 49 * i
  a : ∀ j (h : j < T.length), 0 ≤ T[j].Index ∧ T[j].Index < index ∧ 0 ≤ T[j].Due ∧ T[j].Due ≤ due
  up : ∀ j (h : j + 1 < T.length), T[j].Index < T[j + 1].Index ∧ T[j].Due ≤ T[j + 1].Due
theorem TInv.step {i : Nat} {index due r s : Int} {T : List share_Point} (h : TInv i index due T) (hr : 1 ≤ r ∧ r ≤ 60) (hs : 0 ≤ s ∧ s ≤ 49) : TInv (i + 1) (index + r) (due + s) (T ++ [⟨index, due⟩]) := by
  have hb := h.b
  refine ⟨by simp [h.l], by omega, ?_, ?_⟩
  · intro j hj
    by_cases hji : j < T.length
    · rw [List.getElem_append_left hji]
      have := h.a j hji
      omega
    · have : j = T.length := by simp at hj; omega
      subst this
      rw [List.getElem_append_right (Nat.le_refl _)]
      simp
      omega
  · intro j hj
    have hj' : j < T.length := by simp at hj; omega
    rw [List.getElem_append_left hj']
    by_cases hji : j + 1 < T.length
    · rw [List.getElem_append_left hji]
      exact h.up j hji
    · have he : j + 1 = T.length := by simp at hj; omega
      rw [List.getElem_append_right (by omega)]
      have := h.a j hj'
      simp [he]
      omega

structure YInv (i : Nat) (l : List share_Year) (truth : List share_Truth) : Prop where
  ll : l.length = i
  tt : truth.length = i
  y : ∀ y ∈ l, YOk y
  w : Within l truth

theorem bordered_spec {N : Nat} (hN : 60 ≤ N) {bytes : List Int} (hb : Bytes bytes) {u m : Int} {k : Nat} (hs : SOk u m k) (hk : k ≤ 1000) :
    ∃ b lo hi l truth u' m', law09_Bordered N ⟨bytes, u, m⟩ 12 = some (b, ⟨lo, hi⟩, l, truth, u', m') ∧ BOk b ∧ (-40 ≤ lo ∧ lo ≤ hi ∧ hi ≤ 60) ∧ (1 ≤ l.length ∧ l.length ≤ 12) ∧ (∀ y ∈ l, YOk y) ∧ Within l truth := by
  obtain ⟨c, u1, m1, e1, a1, b1, s1⟩ := next_spec (N := N) hb (n := 60) hs (by omega)
  obtain ⟨ix, u2, m2, e2, a2, b2, s2⟩ := next_spec (N := N) hb (n := 50) s1 (by omega)
  obtain ⟨du, u3, m3, e3, a3, b3, s3⟩ := next_spec (N := N) hb (n := 20) s2 (by omega)
  obtain ⟨n', u4, m4, e4, a4, b4, s4⟩ := within_spec (N := N) hb (lo := 2) (hi := 6) s3 (by omega) (by omega) (by omega) (by omega)
  obtain ⟨n, rfl⟩ : ∃ q : Nat, n' = (q : Int) := ⟨n'.toNat, by omega⟩
  obtain ⟨⟨i6, d6, x6, u5, m5, T⟩, h6, -, hT, s5⟩ := loopInv (fun s6 => law09_Bordered_b6 N ⟨bytes, u, m⟩ ((n : Int), u4, m4) s6.1 s6.2.1 s6.2.2.1 s6.2.2.2.1 s6.2.2.2.2.1 s6.2.2.2.2.2)
    (fun i s => s.2.2.1 = (i : Int) ∧ TInv i s.1 s.2.1 s.2.2.2.2.2 ∧ SOk s.2.2.2.1 s.2.2.2.2.1 (k + 4 + 2 * i)) n
    (by
      rintro i ⟨index, due, x, v, w, T⟩ hi ⟨rfl, hT, hS⟩
      dsimp only at hT hS ⊢
      obtain ⟨r, u5, m5, e5, a5, b5, s5⟩ := within_spec (N := N) hb (lo := 1) (hi := 60) hS (by omega) (by omega) (by omega) (by omega)
      obtain ⟨s, u6, m6, e6, a6, b6, s6⟩ := next_spec (N := N) hb (n := 50) s5 (by omega)
      have hbb := hT.b
      have w1 : W (index + r) = index + r := W_id (by omega) (by omega)
      have w2 : W (due + s) = due + s := W_id (by omega) (by omega)
      have hlt : decide ((i : Int) < (n : Int)) = true := by simp; omega
      refine ⟨(index + r, due + s, ((i + 1 : Nat) : Int), u6, m6, T ++ [⟨index, due⟩]), ?_, rfl, hT.step ⟨a5, b5⟩ (by omega), s6⟩
      unfold law09_Bordered_b6
      rw [hlt, cond_true, room_ok (by simp [hT.l]; omega)]
      simp only [Option.bind_some, e5, e6, w1, w2, W_succ (i := i) (by omega)])
    (by
      rintro ⟨index, due, x, v, w, T⟩ ⟨rfl, -⟩
      dsimp only
      unfold law09_Bordered_b6
      rw [show decide ((n : Int) < (n : Int)) = false by simp]
      rfl)
    n 0 (ix, du, 0, u4, m4, []) N (by omega) (by omega) ⟨rfl, ⟨rfl, by dsimp only; omega, (by intro j hj; cases hj), (by intro j hj; cases hj)⟩, s4⟩
  dsimp only at hT s5
  obtain ⟨lo, u7, m7, e7, a7, b7, s7⟩ := within_spec (N := N) hb (lo := -40) (hi := 40) s5 (by omega) (by omega) (by omega) (by omega)
  obtain ⟨wd, u8, m8, e8, a8, b8, s8⟩ := next_spec (N := N) hb (n := 20) s7 (by omega)
  obtain ⟨q', u9, m9, e9, a9, b9, s9⟩ := within_spec (N := N) hb (lo := 1) (hi := 12) s8 (by omega) (by omega) (by omega) (by omega)
  obtain ⟨q, rfl⟩ : ∃ z : Nat, q' = (z : Int) := ⟨q'.toNat, by omega⟩
  obtain ⟨⟨l, truth, x13, u10, m10⟩, h13, hx13, hY, -⟩ := loopInv (fun s13 => law09_Bordered_b13 N ⟨bytes, u, m⟩ ((q : Int), u9, m9) s13.1 s13.2.1 s13.2.2.1 s13.2.2.2.1 s13.2.2.2.2)
    (fun i s => s.2.2.1 = (i : Int) ∧ YInv i s.1 s.2.1 ∧ SOk s.2.2.2.1 s.2.2.2.2 (k + 4 + 2 * n + 3 + 7 * i)) q
    (by
      rintro i ⟨l, truth, x, v, w⟩ hi ⟨rfl, hY, hS⟩
      dsimp only at hY hS ⊢
      obtain ⟨p1, v1, w1, f1, c1, d1, t1⟩ := next_spec (N := N) hb (n := 200) hS (by omega)
      obtain ⟨p2, v2, w2, f2, c2, d2, t2⟩ := next_spec (N := N) hb (n := 120) t1 (by omega)
      obtain ⟨p3, v3, w3, f3, c3, d3, t3⟩ := next_spec (N := N) hb (n := 20) t2 (by omega)
      obtain ⟨p4, v4, w4, f4, c4, d4, t4⟩ := next_spec (N := N) hb (n := 20) t3 (by omega)
      obtain ⟨p5, v5, w5, f5, c5, d5, t5⟩ := next_spec (N := N) hb (n := 9) t4 (by omega)
      obtain ⟨p6, v6, w6, f6, c6, d6', t6⟩ := next_spec (N := N) hb (n := 9) t5 (by omega)
      obtain ⟨p7, v7, w7, f7, c7, d7, t7⟩ := next_spec (N := N) hb (n := 9) t6 (by omega)
      have z1 : W (p1 - p3) = p1 - p3 := W_id (by omega) (by omega)
      have z2 : W (p1 + p4) = p1 + p4 := W_id (by omega) (by omega)
      have z3 : W (p2 - p5) = p2 - p5 := W_id (by omega) (by omega)
      have z4 : W (p2 + p6) = p2 + p6 := W_id (by omega) (by omega)
      have hlt : decide ((i : Int) < (q : Int)) = true := by simp; omega
      obtain ⟨yl, yt, yy, ⟨wl, wo, wi, wd'⟩⟩ := hY
      refine ⟨(l ++ [⟨⟨max 0 (p1 - p3), p1 + p4⟩, ⟨max 0 (p2 - p5), p2 + p6⟩, p7 == 0⟩], truth ++ [⟨p1, p2⟩], ((i + 1 : Nat) : Int), v7, w7), ?_, rfl, ⟨by simp [yl], by simp [yt], ?_, ⟨by simp [wl], ?_, ?_, ?_⟩⟩, t7⟩
      · unfold law09_Bordered_b13 law09_span
        rw [hlt]
        simp only [cond_true, Option.bind_some, f1, f2, f3, f4, f5, f6, f7, z1, z2, z3, z4, W_succ (i := i) (by omega)]
        rw [room_ok (by simp; omega), room_ok (by simp; omega)]
        rfl
      · intro y hy
        rcases List.mem_append.1 hy with h | h
        · exact yy y h
        · rw [List.mem_singleton.1 h]
          exact ⟨by dsimp only; omega, by dsimp only; omega⟩
      · intro j hj
        by_cases hji : j < i
        · rw [getD_lt (by omega)]; exact wo j (by omega)
        · have : j = truth.length := by simp at hj; omega
          subst this
          rw [getD_eq]
          exact ⟨by dsimp only; omega, by dsimp only; omega⟩
      · intro j hj
        by_cases hji : j < i
        · rw [getD_lt (by omega), getD_lt (by omega)]; exact wi j (by omega)
        · have h1 : j = truth.length := by simp at hj; omega
          have h2 : truth.length = l.length := by omega
          subst h1
          rw [getD_eq, h2, getD_eq]
          dsimp only
          omega
      · intro j hj
        by_cases hji : j < i
        · rw [getD_lt (by omega), getD_lt (by omega)]; exact wd' j (by omega)
        · have h1 : j = truth.length := by simp at hj; omega
          have h2 : truth.length = l.length := by omega
          subst h1
          rw [getD_eq, h2, getD_eq]
          dsimp only
          omega)
    (by
      rintro ⟨l, truth, x, v, w⟩ ⟨rfl, -⟩
      dsimp only
      unfold law09_Bordered_b13
      rw [show decide ((q : Int) < (q : Int)) = false by simp]
      rfl)
    q 0 ([], [], 0, u9, m9) N (by omega) (by omega) ⟨rfl, ⟨rfl, rfl, (by intro y hy; cases hy), ⟨rfl, (by intro j hj; cases hj), (by intro j hj; cases hj), (by intro j hj; cases hj)⟩⟩, s9⟩
  dsimp only at hx13 hY
  have w1 : W (lo + wd) = lo + wd := W_id (by omega) (by omega)
  have hTl := hT.l
  have hTb := hT.b
  refine ⟨⟨T, c⟩, lo, lo + wd, l, truth, u10, m10, ?_, ⟨by dsimp only; omega, by dsimp only; omega, ?_, ?_, hT.up, by dsimp only; omega⟩, by omega, by rw [hY.ll]; omega, hY.y, hY.w⟩
  · unfold law09_Bordered law09_span
    simp only [e1, e2, e3, e4, Option.bind_some]
    rw [h6]
    simp only [exK, Option.bind_some, e7, e8, w1, e9]
    rw [h13]
    rfl
  · intro j hj
    have := hT.a j hj
    dsimp only at hj ⊢
    omega
  · intro j hj
    have := hT.a j hj
    dsimp only at hj ⊢
    omega
end Go.Nilo
