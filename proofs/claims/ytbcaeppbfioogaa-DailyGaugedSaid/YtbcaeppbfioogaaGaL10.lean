/-
  What the plain functions compute, in plain arithmetic, part 10. Conditions: what each theorem names.
-/
import Derived.Test.YtbcaeppbfioogaaGaL9
set_option linter.unusedSimpArgs false
set_option linter.unusedVariables false
namespace Go.Nilo
theorem told_len {r : daily_Record} : (told r).length = r.Days.length := rl_len
theorem told_get {r : daily_Record} {i : Nat} (h : i < r.Days.length) : getI (told r) (i : Int) = some ⟨tG r i, tL r i⟩ := rl_get h
theorem toldG_mono {L L' : Nat → Int} {r f : Int} (hr : 0 ≤ r) (hf : 0 ≤ f) {n i : Nat} (hi : i < n) (h : ∀ k, k < n → L k ≤ L' k) : toldG L r f n i ≤ toldG L' r f n i := by
  rw [toldG_iff hr hf hi]
  intro k hk
  have h1 := (toldG_iff (L := L') hr hf hi).1 (Int.le_refl _) k hk
  have := h k hk
  omega
theorem toldL_mono {H H' : Nat → Int} {r f : Int} (hr : 0 ≤ r) (hf : 0 ≤ f) {n i : Nat} (hi : i < n) (h : ∀ k, k < n → H' k ≤ H k) : toldL H' r f n i ≤ toldL H r f n i := by
  rw [toldL_iff hr hf hi]
  intro k hk
  have h1 := (toldL_iff (H := H') hr hf hi).1 (Int.le_refl _) k hk
  have := h k hk
  omega

structure DOk (a b : daily_Value) (x : Int) : Prop where
  lo : (vs a).Lo ≤ (vs b).Lo ∧ (vs b).Lo ≤ x
  hi : x ≤ (vs b).Hi ∧ (vs b).Hi ≤ (vs a).Hi
  oka : a.Known = true → 0 ≤ a.Flow.Lo ∧ a.Flow.Lo ≤ a.Flow.Hi ∧ a.Flow.Hi ≤ 1000000000
  okb : b.Known = true → 0 ≤ b.Flow.Lo ∧ b.Flow.Lo ≤ b.Flow.Hi ∧ b.Flow.Hi ≤ 1000000000
structure GI (tr : List Int) (ro fi : List daily_Value) (R F : Int) : Prop where
  l1 : ro.length = tr.length
  l2 : fi.length = tr.length
  hR : 0 ≤ R ∧ R ≤ 1000000000
  hF : 0 ≤ F ∧ F ≤ 1000000000
  x : ∀ j, j < tr.length → 0 ≤ tr.getD j 0 ∧ tr.getD j 0 ≤ 1000000000
  d : ∀ j, j < tr.length → DOk (ro.getD j dv0) (fi.getD j dv0) (tr.getD j 0)
  st : ∀ j, j + 1 < tr.length → tr.getD (j + 1) 0 ≤ tr.getD j 0 + R ∧ tr.getD j 0 ≤ tr.getD (j + 1) 0 + F
theorem GI.snoc {tr : List Int} {ro fi : List daily_Value} {R F R' F' x : Int} {a b : daily_Value} (h : GI tr ro fi R F) (hd : DOk a b x) (hx : 0 ≤ x ∧ x ≤ 1000000000) (hR : R ≤ R' ∧ R' ≤ 1000000000) (hF : F ≤ F' ∧ F' ≤ 1000000000)
    (hst : ∀ j, j + 1 = tr.length → x ≤ tr.getD j 0 + R' ∧ tr.getD j 0 ≤ x + F') : GI (tr ++ [x]) (ro ++ [a]) (fi ++ [b]) R' F' := by
  have h1 := h.hR
  have h2 := h.hF
  have e1 := h.l1
  have e2 := h.l2
  refine ⟨by simp [h.l1], by simp [h.l2], by omega, by omega, fun j hj => ?_, fun j hj => ?_, fun j hj => ?_⟩
  · by_cases hjt : j < tr.length
    · rw [getD_lt hjt]
      exact h.x j hjt
    · simp only [List.length_append, List.length_cons, List.length_nil] at hj
      obtain rfl : j = tr.length := by omega
      rw [getD_eq]
      exact hx
  · by_cases hjt : j < tr.length
    · rw [getD_lt hjt, getD_lt (by omega), getD_lt (by omega)]
      exact h.d j hjt
    · simp only [List.length_append, List.length_cons, List.length_nil] at hj
      obtain rfl : j = tr.length := by omega
      rw [getD_eq, ← e1, getD_eq, e1, ← e2, getD_eq]
      exact hd
  · simp only [List.length_append, List.length_cons, List.length_nil] at hj
    by_cases hjt : j + 1 < tr.length
    · rw [getD_lt hjt, getD_lt (by omega)]
      have := h.st j hjt
      omega
    · have e : j + 1 = tr.length := by omega
      rw [e, getD_eq, getD_lt (by omega)]
      exact hst j e
theorem dok_none {x : Int} (hx : 0 ≤ x ∧ x ≤ 1000000000) : DOk ⟨false, ⟨0, 0⟩⟩ ⟨false, ⟨0, 0⟩⟩ x := by
  refine ⟨?_, ?_, (fun h => by cases h), (fun h => by cases h)⟩
  · show (0 : Int) ≤ 0 ∧ 0 ≤ x
    omega
  · show x ≤ 1000000000 ∧ (1000000000 : Int) ≤ 1000000000
    omega
theorem b44_loop {N : Nat} (hN : 60 ≤ N) {q : Int × Int × Int} {n : Nat} (hq : q.1 = (n : Int)) (hn : n ≤ 2) {tr : List Int} {ro fi : List daily_Value} {R F : Int} (h : GI tr ro fi R F) (hl : tr.length ≤ 50) :
    ∃ tr' x ro' fi', loopO (fun s44 : List Int × Int × List daily_Value × List daily_Value => law07_DailyGauged_b44 N q s44.1 s44.2.1 s44.2.2.1 s44.2.2.2) N (tr, 0, ro, fi) = some (.go (tr', x, ro', fi')) ∧ GI tr' ro' fi' R F ∧ tr'.length ≤ tr.length + 2 ∧ tr.length ≤ tr'.length := by
  obtain ⟨⟨tr', x, ro', fi'⟩, h1, hx, hG, hl1, hl2⟩ := loopInv (fun s44 : List Int × Int × List daily_Value × List daily_Value => law07_DailyGauged_b44 N q s44.1 s44.2.1 s44.2.2.1 s44.2.2.2)
    (fun i s => s.2.1 = (i : Int) ∧ GI s.1 s.2.2.1 s.2.2.2 R F ∧ s.1.length ≤ tr.length + i ∧ tr.length ≤ s.1.length) n
    (by
      rintro i ⟨t, x, a, b⟩ hi ⟨rfl, hG, g1, g2⟩
      dsimp only at hG g1 g2 ⊢
      have r1 := hG.l1
      have r2 := hG.l2
      unfold law07_DailyGauged_b44 law07_DailyGauged_j51
      rw [hq, dT (show (i : Int) < (n : Int) by omega), cond_true, W_succ (by omega)]
      by_cases ht : 0 < t.length
      · have e := hG.x (t.length - 1) (by omega)
        refine ⟨(t ++ [t.getD (t.length - 1) 0], ((i + 1 : Nat) : Int), a ++ [⟨false, ⟨0, 0⟩⟩], b ++ [⟨false, ⟨0, 0⟩⟩]), ?_, rfl, hG.snoc (dok_none e) e ⟨Int.le_refl _, hG.hR.2⟩ ⟨Int.le_refl _, hG.hF.2⟩ (fun j hj => ?_), by simp; omega, by simp; omega⟩
        · rw [dT (show (0 : Int) < (t.length : Int) by omega), cond_true, W_sm (n := (t.length : Int) - 1) (by omega) (by omega), show (t.length : Int) - 1 = ((t.length - 1 : Nat) : Int) by omega, getI_d 0 (by omega), Option.bind_some, room_ok (by simp; omega), Option.bind_some, room_ok (by simp; omega), Option.bind_some, room_ok (by simp; omega), Option.bind_some]
        · have h1 := hG.hR
          have h2 := hG.hF
          rw [show t.length - 1 = j by omega]
          omega
      · refine ⟨(t, ((i + 1 : Nat) : Int), a, b), ?_, rfl, hG, by dsimp only; omega, by dsimp only; omega⟩
        rw [dF (show ¬ (0 : Int) < (t.length : Int) by omega), cond_false])
    (by
      rintro ⟨t, x, a, b⟩ ⟨rfl, -⟩
      dsimp only
      unfold law07_DailyGauged_b44
      rw [hq, dF (by omega), cond_false])
    n 0 (tr, 0, ro, fi) N (by omega) (by omega) ⟨rfl, h, Nat.le_refl _, Nat.le_refl _⟩
  dsimp only at hG hl1 hl2
  exact ⟨tr', x, ro', fi', h1, hG, by omega, hl2⟩
theorem known_vs {a b : Int} : vs ⟨true, ⟨a, b⟩⟩ = ⟨a, b⟩ := rfl
theorem round_spec {N : Nat} (hN : 60 ≤ N) {numbers errors better : List Int} (hn : Bytes numbers) (he : Bytes errors) (hb : Bytes better) {q3 : Int × Int × Int} {i : Nat} (hi : (i : Int) < q3.1) (hi5 : i < 5) {tr : List Int} {ro fi : List daily_Value} {R F u1 m1 u2 m2 u3 m3 : Int} (h : GI tr ro fi R F) (hl : tr.length ≤ 3 * i) (s1 : SOk u1 m1 (1 + 101 * i)) (s2 : SOk u2 m2 (101 * i)) (s3 : SOk u3 m3 (101 * i)) :
    ∃ tr' u1' m1' u2' m2' u3' m3' R' F' ro' fi', law07_DailyGauged_b7 N numbers errors better q3 tr (i : Int) u1 m1 u2 m2 u3 m3 R F ro fi = some (.cont (tr', ((i + 1 : Nat) : Int), u1', m1', u2', m2', u3', m3', R', F', ro', fi')) ∧ GI tr' ro' fi' R' F' ∧ tr'.length ≤ 3 * (i + 1) ∧ 1 ≤ tr'.length ∧ SOk u1' m1' (1 + 101 * (i + 1)) ∧ SOk u2' m2' (101 * (i + 1)) ∧ SOk u3' m3' (101 * (i + 1)) := by
  obtain ⟨r, u1', m1', z, sp, g, u2', m2', ii, u3', m3', xs, fl, a, b, e1, e2, e3, e4, e5, e6, e7, e8, f0, f1, f2, f3, f4, f5, t1, t2, t3⟩ := one_gauging hN hn he hb s1 s2 s3 (by omega) (by omega) (by omega)
  obtain ⟨w, u4, m4, e9, w0, w1, t4⟩ := next_spec (N := N) hn (n := 3) t1 (by omega)
  obtain ⟨n, rfl⟩ := Int.eq_ofNat_of_zero_le w0
  obtain ⟨tr1, y, ro1, fi1, e10, hG, l1, l2⟩ := b44_loop hN (q := ((n : Int), u4, m4)) (n := n) rfl (by omega) h (by omega)
  have k1 := hG.l1
  have k2 := hG.l2
  have hR := hG.hR
  have hF := hG.hF
  have hd : DOk ⟨true, ⟨max 0 a.Lo, a.Hi⟩⟩ ⟨true, ⟨max 0 b.Lo, b.Hi⟩⟩ fl := by
    refine ⟨?_, ?_, fun _ => ?_, fun _ => ?_⟩
    · rw [known_vs, known_vs]
      show max 0 a.Lo ≤ max 0 b.Lo ∧ max 0 b.Lo ≤ fl
      omega
    · rw [known_vs, known_vs]
      show fl ≤ b.Hi ∧ b.Hi ≤ a.Hi
      omega
    · show 0 ≤ max 0 a.Lo ∧ max 0 a.Lo ≤ a.Hi ∧ a.Hi ≤ 1000000000
      omega
    · show 0 ≤ max 0 b.Lo ∧ max 0 b.Lo ≤ b.Hi ∧ b.Hi ≤ 1000000000
      omega
  have ej : ∀ R' F' : Int, law07_DailyGauged_j45 N (i : Int) (g, u2', m2') u3' m3' (fl, 0) (a, 0) (b, 0) ((n : Int), u4, m4) tr1 ro1 fi1 R' F' = some (.cont (tr1 ++ [fl], ((i + 1 : Nat) : Int), u4, m4, u2', m2', u3', m3', R', F', ro1 ++ [⟨true, ⟨max 0 a.Lo, a.Hi⟩⟩], fi1 ++ [⟨true, ⟨max 0 b.Lo, b.Hi⟩⟩])) := fun R' F' => by
    unfold law07_DailyGauged_j45 law07_known law07_span
    rw [room_ok (by simp; omega), Option.bind_some, Option.bind_some, Option.bind_some, room_ok (by simp; omega), Option.bind_some, Option.bind_some, Option.bind_some, room_ok (by simp; omega), Option.bind_some, W_succ (by omega)]
  have hstart : law07_DailyGauged_b7 N numbers errors better q3 tr (i : Int) u1 m1 u2 m2 u3 m3 R F ro fi = (cond (decide (0 < ((tr1.length : Nat) : Int)))
      (Option.bind (getI tr1 (W (((tr1.length : Nat) : Int) - 1))) fun e_8 =>
      Option.bind (getI tr1 (W (((tr1.length : Nat) : Int) - 1))) fun e_9 =>
      law07_DailyGauged_j45 N (i : Int) (g, u2', m2') u3' m3' (fl, 0) (a, 0) (b, 0) ((n : Int), u4, m4) tr1 ro1 fi1 (max R (W (fl - e_8))) (max F (W (e_9 - fl))))
      (law07_DailyGauged_j45 N (i : Int) (g, u2', m2') u3' m3' (fl, 0) (a, 0) (b, 0) ((n : Int), u4, m4) tr1 ro1 fi1 R F)) := by
    unfold law07_DailyGauged_b7
    rw [dT hi, cond_true, e1, Option.bind_some]
    show Option.bind (loopO (fun s30 : Int × List Int => law07_DailyGauged_b30 N (r, u1', m1') s30.1 s30.2) N (0, r.Speeds)) _ = _
    rw [e2, Option.bind_some]
    show Option.bind (law03_Gauged N ⟨errors, u2, m2⟩ ⟨r.Left, r.Right, r.At, r.Depth, sp⟩) _ = _
    rw [e3, Option.bind_some]
    show Option.bind (law03_CopyGauging N g) _ = _
    rw [e4, Option.bind_some]
    show Option.bind (loopO (fun s35 : Int × Int × Int × List gauge_Vertical => law07_DailyGauged_b35 N better sp g s35.1 s35.2.1 s35.2.2.1 s35.2.2.2) N (0, u3, m3, g.Verticals)) _ = _
    rw [e5, Option.bind_some]
    show Option.bind (gauge_Real N g r.Depth sp) (fun r_10 => Option.bind (gauge_Flow N g) fun r_11 => Option.bind (gauge_Flow N ⟨g.Left, g.Right, xs⟩) _) = _
    rw [e6, Option.bind_some, e7, Option.bind_some, e8, Option.bind_some]
    show cond ((((((((((0 : Int) != 0) || ((0 : Int) != 0)) || ((0 : Int) != 0)) || (decide (fl < 0))) || (decide (a.Hi < fl))) || (decide (b.Hi < fl))) || (decide (1000000000 < a.Hi))) || (decide (1000000000 < b.Hi)))) _ (Option.bind (kit_Stream_Next N ⟨numbers, u1', m1'⟩ 3) fun r_13 => Option.bind (loopO (fun s44 : List Int × Int × List daily_Value × List daily_Value => law07_DailyGauged_b44 N r_13 s44.1 s44.2.1 s44.2.2.1 s44.2.2.2) N (tr, 0, ro, fi)) _) = _
    rw [dF (show ¬ fl < 0 by omega), dF (show ¬ a.Hi < fl by omega), dF (show ¬ b.Hi < fl by omega), dF (show ¬ 1000000000 < a.Hi by omega), dF (show ¬ 1000000000 < b.Hi by omega), show ((0 : Int) != 0) = false from rfl, e9, Option.bind_some, e10]
    rfl
  rw [hstart]
  by_cases ht : 0 < tr1.length
  · have hx := hG.x (tr1.length - 1) (by omega)
    rw [dT (show (0 : Int) < (tr1.length : Int) by omega), cond_true, W_sm (n := (tr1.length : Int) - 1) (by omega) (by omega), show (tr1.length : Int) - 1 = ((tr1.length - 1 : Nat) : Int) by omega, getI_d 0 (by omega), Option.bind_some, Option.bind_some, W_sm (n := fl - tr1.getD (tr1.length - 1) 0) (by omega) (by omega), W_sm (n := tr1.getD (tr1.length - 1) 0 - fl) (by omega) (by omega)]
    refine ⟨_, _, _, _, _, _, _, _, _, _, _, ej _ _, hG.snoc hd ⟨f0, by omega⟩ (by omega) (by omega) (fun j hj => ?_), by simp; omega, by simp, t4.mono (by omega), t2.mono (by omega), t3.mono (by omega)⟩
    rw [show tr1.length - 1 = j by omega]
    omega
  · rw [dF (show ¬ (0 : Int) < (tr1.length : Int) by omega), cond_false]
    exact ⟨_, _, _, _, _, _, _, _, _, _, _, ej _ _, hG.snoc hd ⟨f0, by omega⟩ ⟨Int.le_refl _, hR.2⟩ ⟨Int.le_refl _, hF.2⟩ (fun j hj => by omega), by simp; omega, by simp, t4.mono (by omega), t2.mono (by omega), t3.mono (by omega)⟩
theorem gauged_law {numbers errors better : List Int} (hn : Bytes numbers) (he : Bytes errors) (hb : Bytes better) : law07_DailyGauged 100 numbers errors better = some true := by
  have hN : 100 ≤ 100 := Nat.le_refl _
  have s0 : SOk 0 0 0 := ⟨by decide, by decide, by decide, by decide⟩
  obtain ⟨w, u1, m1, e1, w0, w1, t1⟩ := within_spec (N := 100) hn (lo := 2) (hi := 5) s0 (by omega) (by omega) (by omega) (by omega)
  obtain ⟨n, rfl⟩ := Int.eq_ofNat_of_zero_le (show 0 ≤ w by omega)
  obtain ⟨⟨tr, x, v1, v2, v3, v4, v5, v6, R, F, ro, fi⟩, h1, hx, hG, hl, hl1, -⟩ := loopInv (fun s7 : List Int × Int × Int × Int × Int × Int × Int × Int × Int × Int × List daily_Value × List daily_Value => law07_DailyGauged_b7 100 numbers errors better ((n : Int), u1, m1) s7.1 s7.2.1 s7.2.2.1 s7.2.2.2.1 s7.2.2.2.2.1 s7.2.2.2.2.2.1 s7.2.2.2.2.2.2.1 s7.2.2.2.2.2.2.2.1 s7.2.2.2.2.2.2.2.2.1 s7.2.2.2.2.2.2.2.2.2.1 s7.2.2.2.2.2.2.2.2.2.2.1 s7.2.2.2.2.2.2.2.2.2.2.2)
    (fun i s => s.2.1 = (i : Int) ∧ GI s.1 s.2.2.2.2.2.2.2.2.2.2.1 s.2.2.2.2.2.2.2.2.2.2.2 s.2.2.2.2.2.2.2.2.1 s.2.2.2.2.2.2.2.2.2.1 ∧ s.1.length ≤ 3 * i ∧ (1 ≤ i → 1 ≤ s.1.length) ∧ SOk s.2.2.1 s.2.2.2.1 (1 + 101 * i) ∧ SOk s.2.2.2.2.1 s.2.2.2.2.2.1 (101 * i) ∧ SOk s.2.2.2.2.2.2.1 s.2.2.2.2.2.2.2.1 (101 * i)) n
    (by
      rintro i ⟨tr, x, v1, v2, v3, v4, v5, v6, R, F, ro, fi⟩ hi ⟨rfl, hG, hl, -, q1, q2, q3⟩
      dsimp only at hG hl q1 q2 q3 ⊢
      obtain ⟨tr', u1', m1', u2', m2', u3', m3', R', F', ro', fi', k1, k2, k3, k4, k5, k6, k7⟩ := round_spec (N := 100) (by omega) hn he hb (q3 := ((n : Int), u1, m1)) (i := i) (by show (i : Int) < (n : Int); omega) (by omega) hG hl q1 q2 q3
      exact ⟨_, k1, rfl, k2, k3, fun _ => k4, k5, k6, k7⟩)
    (by
      rintro ⟨tr, x, v1, v2, v3, v4, v5, v6, R, F, ro, fi⟩ ⟨rfl, -⟩
      dsimp only
      unfold law07_DailyGauged_b7
      rw [ge_dec, cond_false])
    n 0 ([], 0, u1, m1, 0, 0, 0, 0, 0, 0, [], []) 100 (by omega) (by omega)
    ⟨rfl, ⟨rfl, rfl, ⟨Int.le_refl _, by show (0 : Int) ≤ 1000000000; decide⟩, ⟨Int.le_refl _, by show (0 : Int) ≤ 1000000000; decide⟩, fun j hj => absurd hj (Nat.not_lt_zero _), fun j hj => absurd hj (Nat.not_lt_zero _), fun j hj => absurd hj (Nat.not_lt_zero _)⟩, by simp, fun h => by omega, t1.mono (by omega), s0, s0⟩
  dsimp only at hG hl hl1
  have hlen : 1 ≤ tr.length ∧ tr.length ≤ 15 := ⟨hl1 (by omega), by omega⟩
  have k1 := hG.l1
  have k2 := hG.l2
  unfold law07_DailyGauged
  rw [show kit_New 100 numbers = some (0, 0) from rfl, Option.bind_some, show kit_New 100 errors = some (0, 0) from rfl, Option.bind_some, show kit_New 100 better = some (0, 0) from rfl, Option.bind_some]
  show Option.bind (kit_Stream_Within 100 ⟨numbers, 0, 0⟩ 2 5) _ = _
  rw [e1, Option.bind_some]
  show Option.bind (loopO (fun s7 : List Int × Int × Int × Int × Int × Int × Int × Int × Int × Int × List daily_Value × List daily_Value => law07_DailyGauged_b7 100 numbers errors better ((n : Int), u1, m1) s7.1 s7.2.1 s7.2.2.1 s7.2.2.2.1 s7.2.2.2.2.1 s7.2.2.2.2.2.1 s7.2.2.2.2.2.2.1 s7.2.2.2.2.2.2.2.1 s7.2.2.2.2.2.2.2.2.1 s7.2.2.2.2.2.2.2.2.2.1 s7.2.2.2.2.2.2.2.2.2.2.1 s7.2.2.2.2.2.2.2.2.2.2.2) 100 ([], 0, u1, m1, 0, 0, 0, 0, 0, 0, [], [])) _ = _
  rw [h1, Option.bind_some]
  show Option.bind (daily_Fill 100 ⟨R, F, ro⟩) (fun r_4 => Option.bind (daily_Fill 100 ⟨R, F, fi⟩) _) = _
  generalize ha : (⟨R, F, ro⟩ : daily_Record) = A
  generalize hb' : (⟨R, F, fi⟩ : daily_Record) = B
  have an : A.Days.length = tr.length := by subst ha; exact k1
  have bn : B.Days.length = tr.length := by subst hb'; exact k2
  have ad : ∀ j, A.Days.getD j dv0 = ro.getD j dv0 := fun j => by subst ha; rfl
  have bd : ∀ j, B.Days.getD j dv0 = fi.getD j dv0 := fun j => by subst hb'; rfl
  have aR : A.Rise = R ∧ A.Fall = F := by subst ha; exact ⟨rfl, rfl⟩
  have bR : B.Rise = R ∧ B.Fall = F := by subst hb'; exact ⟨rfl, rfl⟩
  have ar : ROk A := ⟨by omega, by omega, by rw [aR.1]; exact hG.hR, by rw [aR.2]; exact hG.hF, fun v hv hk => by
    obtain ⟨j, hj, rfl⟩ := List.getElem_of_mem hv
    rw [get_getD (d := dv0), ad] at hk ⊢
    exact (hG.d j (by omega)).oka hk⟩
  have br : ROk B := ⟨by omega, by omega, by rw [bR.1]; exact hG.hR, by rw [bR.2]; exact hG.hF, fun v hv hk => by
    obtain ⟨j, hj, rfl⟩ := List.getElem_of_mem hv
    rw [get_getD (d := dv0), bd] at hk ⊢
    exact (hG.d j (by omega)).okb hk⟩
  have hlo : ∀ j, j < tr.length → lo A j ≤ lo B j ∧ lo B j ≤ tr.getD j 0 := fun j hj => by
    unfold lo
    rw [ad, bd]
    exact (hG.d j hj).lo
  have hhi : ∀ j, j < tr.length → tr.getD j 0 ≤ hi B j ∧ hi B j ≤ hi A j := fun j hj => by
    unfold hi
    rw [ad, bd]
    exact (hG.d j hj).hi
  have ta : Tru (lo A) (hi A) A.Rise A.Fall A.Days.length fun i => tr.getD i 0 := by
    refine ⟨fun i hi' => ?_, fun i hi' => ?_⟩
    · have := hlo i (by omega)
      have := hhi i (by omega)
      omega
    · rw [aR.1, aR.2]
      exact hG.st i (by omega)
  have tb : Tru (lo B) (hi B) B.Rise B.Fall B.Days.length fun i => tr.getD i 0 := by
    refine ⟨fun i hi' => ?_, fun i hi' => ?_⟩
    · have := hlo i (by omega)
      have := hhi i (by omega)
      omega
    · rw [bR.1, bR.2]
      exact hG.st i (by omega)
  have aA : agB A = true := agB_iff.2 (ta.agree ar.rise.1 ar.fall.1)
  have aB : agB B = true := agB_iff.2 (tb.agree br.rise.1 br.fall.1)
  have fA : fillF A = (told A, 0) := by
    unfold fillF
    rw [if_pos (check_iff.2 ar), if_pos aA]
  have fB : fillF B = (told B, 0) := by
    unfold fillF
    rw [if_pos (check_iff.2 br), if_pos aB]
  rw [Fill_spec hN (by omega), Option.bind_some, fA, Fill_spec hN (by omega), Option.bind_some, fB]
  have c1 : ((((((0 : Int) != 0) || ((0 : Int) != 0)) || ((((told A).length : Nat) : Int) != ((tr.length : Nat) : Int)))) || ((((told B).length : Nat) : Int) != ((tr.length : Nat) : Int))) = false := by
    rw [told_len, told_len, an, bn]
    simp only [bne_self_eq_false, Bool.or_false]
  show cond ((((((0 : Int) != 0) || ((0 : Int) != 0)) || ((((told A).length : Nat) : Int) != ((tr.length : Nat) : Int)))) || ((((told B).length : Nat) : Int) != ((tr.length : Nat) : Int))) _ _ = _
  rw [c1, cond_false]
  have l16 := runS (ρ := Bool) (fun i : Nat => (i : Int)) tr.length (fun s16 => law07_DailyGauged_b16 100 tr (told A, 0) (told B, 0) s16) (fun i hi' => by
    show law07_DailyGauged_b16 100 tr (told A, 0) (told B, 0) (i : Int) = _
    unfold law07_DailyGauged_b16
    have p1 : tG A i ≤ tG B i := by
      unfold tG
      rw [an, bn, aR.1, aR.2, bR.1, bR.2]
      exact toldG_mono hG.hR.1 hG.hF.1 hi' fun k hk => (hlo k hk).1
    have p2 : tL B i ≤ tL A i := by
      unfold tL
      rw [an, bn, aR.1, aR.2, bR.1, bR.2]
      exact toldL_mono hG.hR.1 hG.hF.1 hi' fun k hk => (hhi k hk).2
    have p3 : tG B i ≤ tr.getD i 0 ∧ tr.getD i 0 ≤ tL B i := tb.told br.rise.1 br.fall.1 (by omega)
    rw [lt_dec hi', cond_true, getI_d 0 hi', Option.bind_some]
    show Option.bind (getI (told B) (i : Int)) (fun e_2 => Option.bind (cond (decide (tr.getD i 0 < e_2.Lo)) (some true) (Option.bind (getI (told B) (i : Int)) _)) fun t_1 => Option.bind (cond t_1 (some true) (Option.bind (getI (told B) (i : Int)) fun e_4 => Option.bind (getI (told A) (i : Int)) _)) fun t_2 => Option.bind (cond t_2 (some true) (Option.bind (getI (told B) (i : Int)) fun e_6 => Option.bind (getI (told A) (i : Int)) _)) _) = _
    rw [told_get (by omega), told_get (by omega)]
    simp only [Option.bind_some]
    rw [dF (show ¬ tr.getD i 0 < tG B i by omega), dF (show ¬ tL B i < tr.getD i 0 by omega), dF (show ¬ tG B i < tG A i by omega), dF (show ¬ tL A i < tL B i by omega), W_succ (by omega)]
    rfl) (by
    show law07_DailyGauged_b16 100 tr (told A, 0) (told B, 0) (tr.length : Int) = _
    unfold law07_DailyGauged_b16
    rw [ge_dec, cond_false]) (N := 100) (by omega)
  show Option.bind (loopO (fun s16 => law07_DailyGauged_b16 100 tr (told A, 0) (told B, 0) s16) 100 ((0 : Nat) : Int)) _ = _
  rw [l16, Option.bind_some]
  show Option.bind (law07_awake 100) _ = _
  rw [awake_true]
  rfl
end Go.Nilo
