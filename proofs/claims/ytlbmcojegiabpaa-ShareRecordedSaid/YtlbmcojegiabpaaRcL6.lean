/-
  What the plain functions compute, in plain arithmetic, part 6. Conditions: what each theorem names.
-/
import Derived.Test.YtlbmcojegiabpaaRcL5
set_option linter.unusedSimpArgs false
set_option linter.unusedVariables false
namespace Go.Nilo
theorem SOk.mono {u m : Int} {k k' : Nat} (h : SOk u m k) (hk : k ≤ k') : SOk u m k' := ⟨h.u0, by have := h.u1; omega, h.m0, h.m1⟩
theorem new_ok : SOk 0 0 0 := ⟨by decide, by decide, by decide, by decide⟩
structure SpOk (v : daily_Value) (x : Int) : Prop where
  k : v.Known = true → 0 ≤ v.Flow.Lo ∧ v.Flow.Lo ≤ x ∧ x ≤ v.Flow.Hi ∧ v.Flow.Hi ≤ x + 49
theorem Spanned_spec {N : Nat} {l : List Int} (hl : Bytes l) {u m x : Int} {k : Nat} (hs : SOk u m k) (hk : k ≤ 1000) (hx : 0 ≤ x ∧ x ≤ 1000000) :
    ∃ v u' m', law07_Spanned N ⟨l, u, m⟩ x = some (v, u', m') ∧ SpOk v x ∧ SOk u' m' (k + 3) := by
  unfold law07_Spanned
  obtain ⟨a, u1, m1, e1, a0, a1, s1⟩ := next_spec (N := N) hl (n := 3) hs (by omega)
  rw [e1, Option.bind_some]
  cases ha : (a == 0) with
  | true =>
    obtain ⟨b, u2, m2, e2, -, -, s2⟩ := next_spec (N := N) hl (n := 9) s1 (by omega)
    obtain ⟨c, u3, m3, e3, -, -, s3⟩ := within_spec (N := N) hl (lo := -3) (hi := 3) s2 (by omega) (by omega) (by omega) (by omega)
    refine ⟨⟨false, ⟨b, c⟩⟩, u3, m3, ?_, ⟨fun h => by cases h⟩, s3⟩
    rw [cond_true]
    show Option.bind (kit_Stream_Next N ⟨l, u1, m1⟩ 9) _ = _
    rw [e2, Option.bind_some]
    show Option.bind (kit_Stream_Within N ⟨l, u2, m2⟩ (-3) 3) _ = _
    rw [e3]
    rfl
  | false =>
    obtain ⟨b, u2, m2, e2, b0, b1, s2⟩ := next_spec (N := N) hl (n := 50) s1 (by omega)
    obtain ⟨c, u3, m3, e3, c0, c1, s3⟩ := next_spec (N := N) hl (n := 50) s2 (by omega)
    refine ⟨⟨true, ⟨max 0 (x - b), x + c⟩⟩, u3, m3, ?_, ⟨fun _ => ?_⟩, s3⟩
    · rw [cond_false]
      show Option.bind (kit_Stream_Next N ⟨l, u1, m1⟩ 50) _ = _
      rw [e2, Option.bind_some]
      show Option.bind (kit_Stream_Next N ⟨l, u2, m2⟩ 50) _ = _
      rw [e3, Option.bind_some]
      show Option.bind (law07_known N (max 0 (W (x - b))) (W (x + c))) _ = _
      rw [W_sm (n := x - b) (by omega) (by omega), W_sm (n := x + c) (by omega) (by omega)]
      rfl
    · show 0 ≤ max 0 (x - b) ∧ max 0 (x - b) ≤ x ∧ x ≤ x + c ∧ x + c ≤ x + 49
      omega
structure MOk (r : daily_Record) (x : List Int) : Prop where
  len : x.length = r.Days.length
  rise : 0 ≤ r.Rise ∧ r.Rise ≤ 40
  fall : 0 ≤ r.Fall ∧ r.Fall ≤ 40
  x0 : ∀ i, i < x.length → 0 ≤ x.getD i 0 ∧ x.getD i 0 ≤ 400 + 40 * (i : Int)
  own : ∀ i, i < x.length → SpOk (r.Days.getD i dv0) (x.getD i 0)
  st : ∀ i, i + 1 < x.length → x.getD (i + 1) 0 ≤ x.getD i 0 + r.Rise ∧ x.getD i 0 ≤ x.getD (i + 1) 0 + r.Fall
theorem Made_spec {N : Nat} (hN : 100 ≤ N) {l : List Int} (hl : Bytes l) {most : Nat} (hm : 1 ≤ most ∧ most ≤ 25) :
    ∃ r x u m, law07_Made N ⟨l, 0, 0⟩ (most : Int) = some (r, x, u, m) ∧ MOk r x ∧ 1 ≤ x.length ∧ x.length ≤ most := by
  unfold law07_Made
  obtain ⟨a, u1, m1, e1, a0, a1, s1⟩ := next_spec (N := N) hl (n := 40) new_ok (by omega)
  obtain ⟨b, u2, m2, e2, b0, b1, s2⟩ := next_spec (N := N) hl (n := 40) s1 (by omega)
  obtain ⟨c, u3, m3, e3, c0, c1, s3⟩ := within_spec (N := N) hl (lo := 50) (hi := 400) s2 (by omega) (by omega) (by omega) (by omega)
  obtain ⟨d, u4, m4, e4, d0, d1, s4⟩ := within_spec (N := N) hl (lo := 1) (hi := (most : Int)) s3 (by omega) (by omega) (by omega) (by omega)
  rw [e1, Option.bind_some]
  show ∃ r x u m, Option.bind (kit_Stream_Next N ⟨l, u1, m1⟩ 40) _ = _ ∧ _
  rw [e2, Option.bind_some]
  show ∃ r x u m, Option.bind (kit_Stream_Within N ⟨l, u2, m2⟩ 50 400) _ = _ ∧ _
  rw [e3, Option.bind_some]
  show ∃ r x u m, Option.bind (kit_Stream_Within N ⟨l, u3, m3⟩ 1 (most : Int)) _ = _ ∧ _
  rw [e4, Option.bind_some]
  obtain ⟨n, rfl⟩ := Int.eq_ofNat_of_zero_le (show 0 ≤ d by omega)
  obtain ⟨s', h1, h2⟩ := loopInv (fun s7 : Int × List Int × Int × Int × Int × List daily_Value => law07_Made_b7 N ⟨l, 0, 0⟩ (a, u1, m1) (b, u2, m2) ((n : Int), u4, m4) s7.1 s7.2.1 s7.2.2.1 s7.2.2.2.1 s7.2.2.2.2.1 s7.2.2.2.2.2)
    (fun i s => s.2.2.1 = (i : Int) ∧ s.2.1.length = i ∧ s.2.2.2.2.2.length = i ∧ MOk ⟨a, b, s.2.2.2.2.2⟩ s.2.1 ∧ (0 ≤ s.1 ∧ s.1 ≤ 400 + 40 * (i : Int)) ∧ (∀ j, j + 1 = i → s.1 ≤ s.2.1.getD j 0 + a ∧ s.2.1.getD j 0 ≤ s.1 + b) ∧ SOk s.2.2.2.1 s.2.2.2.2.1 (4 + 4 * i)) n (by
    rintro i ⟨f, tr, i', u, m, ds⟩ hi ⟨k1, k2, k3, k4, k5, k6, k7⟩
    simp only at k1 k2 k3 k4 k5 k6 k7
    subst k1
    obtain ⟨v, u5, m5, e5, v1, s5⟩ := Spanned_spec (N := N) hl (x := f) k7 (by omega) (by omega)
    obtain ⟨g, u6, m6, e6, g0, g1, s6⟩ := within_spec (N := N) hl (lo := f - b) (hi := f + a) s5 (by omega) (by omega) (by omega) (by omega)
    refine ⟨(max 0 g, tr ++ [f], ((i + 1 : Nat) : Int), u6, m6, ds ++ [v]), ?_, rfl, by simp [k2], by simp [k3], ?_, ?_, ?_, ?_⟩
    · show law07_Made_b7 N ⟨l, 0, 0⟩ (a, u1, m1) (b, u2, m2) ((n : Int), u4, m4) f tr (i : Int) u m ds = _
      unfold law07_Made_b7
      rw [dT (show (i : Int) < (n : Int) by omega), cond_true, room_ok (by simp; omega), Option.bind_some]
      show Option.bind (law07_Spanned N ⟨l, u, m⟩ f) _ = _
      rw [e5, Option.bind_some, room_ok (by simp; omega), Option.bind_some]
      show Option.bind (kit_Stream_Within N ⟨l, u5, m5⟩ (W (f - b)) (W (f + a))) _ = _
      rw [W_sm (n := f - b) (by omega) (by omega), W_sm (n := f + a) (by omega) (by omega), e6, Option.bind_some, W_succ (by omega)]
    · have k41 := k4.len
      refine ⟨by simp [k2, k3], k4.rise, k4.fall, fun j hj => ?_, fun j hj => ?_, fun j hj => ?_⟩
      · by_cases h : j < tr.length
        · have := k4.x0 j h
          rwa [getD_lt h]
        · simp only [List.length_append, List.length_cons, List.length_nil] at hj
          obtain rfl : j = tr.length := by omega
          rw [getD_eq, k2]
          omega
      · show SpOk ((ds ++ [v]).getD j dv0) _
        by_cases h : j < tr.length
        · have := k4.own j h
          rwa [getD_lt h, getD_lt (by omega)]
        · simp only [List.length_append, List.length_cons, List.length_nil] at hj
          obtain rfl : j = tr.length := by omega
          rw [getD_eq, show tr.length = ds.length by omega, getD_eq]
          exact v1
      · show (tr ++ [f]).getD (j + 1) 0 ≤ (tr ++ [f]).getD j 0 + a ∧ (tr ++ [f]).getD j 0 ≤ (tr ++ [f]).getD (j + 1) 0 + b
        simp only [List.length_append, List.length_cons, List.length_nil] at hj
        by_cases h : j + 1 < tr.length
        · have := k4.st j h
          rwa [getD_lt h, getD_lt (by omega)]
        · have e : j + 1 = tr.length := by omega
          have := k6 j (by omega)
          rw [e, getD_eq, getD_lt (by omega)]
          exact this
    · show 0 ≤ max 0 g ∧ max 0 g ≤ 400 + 40 * ((i + 1 : Nat) : Int)
      push_cast
      omega
    · intro j hj
      obtain rfl : j = tr.length := by omega
      show max 0 g ≤ (tr ++ [f]).getD tr.length 0 + a ∧ (tr ++ [f]).getD tr.length 0 ≤ max 0 g + b
      rw [getD_eq]
      omega
    · exact s6.mono (by omega)) (by
    rintro ⟨f, tr, i', u, m, ds⟩ ⟨k1, -⟩
    simp only at k1
    subst k1
    show law07_Made_b7 N ⟨l, 0, 0⟩ (a, u1, m1) (b, u2, m2) ((n : Int), u4, m4) f tr (n : Int) u m ds = _
    unfold law07_Made_b7
    rw [dF (by simp), cond_false]) n 0 (c, [], 0, u4, m4, []) N (by omega) (by omega)
    ⟨rfl, rfl, rfl, ⟨rfl, ⟨a0, by show a ≤ 40; omega⟩, ⟨b0, by show b ≤ 40; omega⟩, fun i hi => absurd hi (Nat.not_lt_zero _), fun i hi => absurd hi (Nat.not_lt_zero _), fun i hi => absurd hi (Nat.not_lt_zero _)⟩, ⟨by show 0 ≤ c; omega, by show c ≤ 400 + 40 * 0; omega⟩, fun j hj => by omega, s4⟩
  obtain ⟨f, tr, i', u, m, ds⟩ := s'
  obtain ⟨k1, k2, k3, k4, k5, k6, k7⟩ := h2
  simp only at k1 k2 k3 k4
  refine ⟨⟨a, b, ds⟩, tr, u, m, ?_, k4, by omega, by omega⟩
  rw [h1]
  rfl
theorem MOk.ok {r : daily_Record} {x : List Int} (h : MOk r x) (h1 : 1 ≤ x.length) (h60 : x.length ≤ 60) : ROk r := by
  have hl := h.len
  refine ⟨by omega, by omega, ⟨h.rise.1, by have := h.rise; omega⟩, ⟨h.fall.1, by have := h.fall; omega⟩, fun v hv hk => ?_⟩
  obtain ⟨i, hi, rfl⟩ := List.getElem_of_mem hv
  rw [get_getD (d := dv0)] at hk ⊢
  have := (h.own i (by omega)).k hk
  have := h.x0 i (by omega)
  omega
theorem MOk.tru {r : daily_Record} {x : List Int} (h : MOk r x) (h60 : x.length ≤ 60) : Tru (lo r) (hi r) r.Rise r.Fall r.Days.length fun i => x.getD i 0 := by
  have hl := h.len
  refine ⟨fun i hi' => ?_, fun i hi' => h.st i (by omega)⟩
  have k1 := h.x0 i (by omega)
  have k2 := (h.own i (by omega)).k
  unfold lo hi vs
  cases hk : (r.Days.getD i dv0).Known with
  | true =>
    have := k2 hk
    exact ⟨this.2.1, this.2.2.1⟩
  | false =>
    show (0 : Int) ≤ x.getD i 0 ∧ x.getD i 0 ≤ 1000000000
    omega
end Go.Nilo
