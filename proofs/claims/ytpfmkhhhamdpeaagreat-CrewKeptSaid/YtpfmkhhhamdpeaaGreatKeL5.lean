/-
  What the plain functions compute, in plain arithmetic, part 5. Conditions: what each theorem names.
-/
import Derived.Test.YtpfmkhhhamdpeaaGreatKeL4
set_option linter.unusedSimpArgs false
set_option linter.unusedVariables false
namespace Go.Nilo
theorem bg_get (f : api_Span → Int) : ∀ (l : List crew_Visit) (s : Int) (i : Nat) (h : i < l.length), (bg f s l).getD i 0 = bgn f (lv f s (l.take i)) l[i]
  | v :: l, s, 0, _ => rfl
  | v :: l, s, i + 1, h => by
    have := bg_get f l (bgn f s v + f v.Work) i (by simpa using h)
    simpa only [bg, lv, List.getD_cons_succ, List.take_succ_cons, List.getElem_cons_succ] using this
theorem lv_mono {f g : api_Span → Int} (hfg : ∀ sp : api_Span, sp.Lo ≤ sp.Hi → f sp ≤ g sp) : ∀ {l : List crew_Visit} {s t : Int}, (∀ v ∈ l, VOk v) → s ≤ t → lv f s l ≤ lv g t l
  | [], s, t, _, h => h
  | v :: l, s, t, hl, h => by
    have hv := hl v List.mem_cons_self
    have h1 := hfg v.Way hv.w1
    have h2 := hfg v.Work hv.k1
    unfold lv
    refine lv_mono hfg (fun u hu => hl u (List.mem_cons_of_mem _ hu)) ?_
    unfold bgn
    omega
theorem bg_mono {f g : api_Span → Int} (hfg : ∀ sp : api_Span, sp.Lo ≤ sp.Hi → f sp ≤ g sp) {l : List crew_Visit} {s t : Int} (hl : ∀ v ∈ l, VOk v) (h : s ≤ t) {i : Nat} (hi : i < l.length) : (bg f s l).getD i 0 ≤ (bg g t l).getD i 0 := by
  rw [bg_get f l s i hi, bg_get g l t i hi]
  have h1 := lv_mono hfg (l := l.take i) (fun v hv => hl v (List.mem_of_mem_take hv)) h
  have h2 := hfg l[i].Way (hl _ (List.getElem_mem _)).w1
  unfold bgn
  omega
theorem lo_hi : ∀ sp : api_Span, sp.Lo ≤ sp.Hi → sp.Lo ≤ sp.Hi := fun _ h => h
theorem same_f (f : api_Span → Int) : ∀ sp : api_Span, sp.Lo ≤ sp.Hi → f sp ≤ f sp := fun _ _ => Int.le_refl _
structure TOk (i : Nat) (k : Nat) (s : List crew_Visit × Int × Int × Int × Int) : Prop where
  len : s.1.length = i
  el : ∀ v ∈ s.1, VOk v
  a0 : 0 ≤ s.2.1
  a1 : s.2.1 ≤ 160 * (i : Int)
  x : s.2.2.1 = (i : Int)
  so : SOk s.2.2.2.1 s.2.2.2.2 (k + 6 * i)
theorem toured_spec {N : Nat} (hN : 30 ≤ N) {numbers : List Int} (hb : Bytes numbers) {u m : Int} {k : Nat} (hk : k ≤ 1000) (hs : SOk u m k) {most : Int} (h1 : 1 ≤ most) (h2 : most ≤ 20) :
    ∃ l u' m' k', law11_Toured N ⟨numbers, u, m⟩ most = some (l, u', m') ∧ SOk u' m' k' ∧ k' ≤ k + 200 ∧ (∀ v ∈ l, VOk v) ∧ 1 ≤ l.length ∧ (l.length : Int) ≤ most := by
  unfold law11_Toured
  obtain ⟨n, u4, m4, d1, d2, d3, s4⟩ := within_spec (N := N) hb (lo := 1) (hi := most) hs (by omega) (by omega) (by omega) h1
  simp only [d1, Option.bind_some]
  obtain ⟨q, rfl⟩ := Int.eq_ofNat_of_zero_le (show 0 ≤ n by omega)
  obtain ⟨s, hs, hI⟩ := loopInv (ρ := List crew_Visit × Int × Int) (fun s6 => law11_Toured_b6 N ⟨numbers, u, m⟩ ((q : Int), u4, m4) s6.1 s6.2.1 s6.2.2.1 s6.2.2.2.1 s6.2.2.2.2) (fun i s => TOk i (k + 1) s) q (fun i s hi h => by
    obtain ⟨out, at_, x, b0, b1⟩ := s
    obtain ⟨e1, e2, e3, e4, e5, e6⟩ := h
    dsimp only at e1 e2 e3 e4 e5 e6 ⊢
    subst e5
    unfold law11_Toured_b6
    have hdec : decide (((i : Nat) : Int) < (q : Int)) = true := by simp; omega
    obtain ⟨r1, v1, w1, f1, g1, p1, t1⟩ := next_spec (N := N) hb (n := 60) e6 (by omega)
    obtain ⟨r2, v2, w2, f2, g2, p2, t2⟩ := next_spec (N := N) hb (n := 20) t1 (by omega)
    obtain ⟨r3, v3, w3, f3, g3, p3, t3⟩ := next_spec (N := N) hb (n := 40) t2 (by omega)
    obtain ⟨r4, v4, w4, f4, g4, p4, t4⟩ := next_spec (N := N) hb (n := 20) t3 (by omega)
    obtain ⟨r5, v5, w5, f5, g5, p5, t5⟩ := within_spec (N := N) hb (lo := -40) (hi := 20) t4 (by omega) (by omega) (by omega) (by omega)
    obtain ⟨r6, v6, w6, f6, g6, p6, t6⟩ := within_spec (N := N) hb (lo := 20) (hi := 120) t5 (by omega) (by omega) (by omega) (by omega)
    simp only [hdec, cond_true, f1, f2, f3, f4, f5, f6, Option.bind_some]
    have x1 : W (r1 + r2) = r1 + r2 := W_id (by omega) (by omega)
    have x2 : W (r3 + r4) = r3 + r4 := W_id (by omega) (by omega)
    have x3 : W (at_ + (r1 + r2)) = at_ + (r1 + r2) := W_id (by omega) (by omega)
    have x4 : W (at_ + (r1 + r2) + r5) = at_ + (r1 + r2) + r5 := W_id (by omega) (by omega)
    have x5 : W (max 0 (at_ + (r1 + r2) + r5) + r6) = max 0 (at_ + (r1 + r2) + r5) + r6 := W_id (by omega) (by omega)
    have x6 : W (max (at_ + (r1 + r2)) (max 0 (at_ + (r1 + r2) + r5)) + (r3 + r4)) = max (at_ + (r1 + r2)) (max 0 (at_ + (r1 + r2) + r5)) + (r3 + r4) := W_id (by omega) (by omega)
    simp only [x1, x2, x3, x4, x5, x6]
    rw [room_ok (by simp; omega), Option.bind_some]
    refine ⟨_, rfl, ⟨by simp [e1], ?_, by dsimp only; omega, by dsimp only; push_cast; omega, by dsimp only; rw [W_id (by omega) (by omega)]; push_cast; rfl, ?_⟩⟩
    · intro v hv
      rcases List.mem_append.1 hv with hv | hv
      · exact e2 v hv
      · rw [List.mem_singleton.1 hv]
        exact ⟨g1, by dsimp only; omega, by dsimp only; omega, g3, by dsimp only; omega, by dsimp only; omega, by dsimp only; omega, by dsimp only; omega, by dsimp only; omega⟩
    · dsimp only
      have : k + 1 + 6 * (i + 1) = k + 1 + 6 * i + 1 + 1 + 1 + 1 + 1 + 1 := by omega
      rw [this]; exact t6) (fun s h => by
    obtain ⟨out, at_, x, b0, b1⟩ := s
    obtain ⟨e1, e2, e3, e4, e5, e6⟩ := h
    dsimp only at e5 ⊢
    subst e5
    unfold law11_Toured_b6
    rw [ge_dec, cond_false]) q 0 (([] : List crew_Visit), 0, 0, u4, m4) N (by omega) (by omega) ⟨rfl, fun v hv => by simp at hv, by dsimp only; omega, by dsimp only; omega, rfl, by simpa using s4⟩
  obtain ⟨out, at_, x, b0, b1⟩ := s
  obtain ⟨e1, e2, e3, e4, e5, e6⟩ := hI
  dsimp only at e1 e2 e6
  refine ⟨out, b0, b1, k + 1 + 6 * q, ?_, e6, by omega, e2, by omega, by omega⟩
  rw [hs]
  rfl
structure KOk (l : List crew_Visit) (start : Int) (i k : Nat) (s : Int × Int × Int × Int × Int × Int) : Prop where
  a : s.1 = lv api_Span.Lo start (l.take i)
  b : s.2.1 = lv api_Span.Hi start (l.take i)
  c0 : s.1 ≤ s.2.2.1
  c1 : s.2.2.1 ≤ s.2.1
  x : s.2.2.2.1 = (i : Int)
  so : SOk s.2.2.2.2.1 s.2.2.2.2.2 (k + 2 * i)
theorem can_le {p : Nat → Bool} {n i : Nat} (hi : i < n) (h : p i = true) : fi p 0 n ≠ -1 ∧ fi p 0 n ≤ (i : Int) := by
  have h1 : fi p 0 n ≠ -1 := fun e => by
    have := fi_none.1 e i (by omega) (by omega)
    rw [h] at this; cases this
  refine ⟨h1, ?_⟩
  obtain ⟨j, h2, -, -, -, h5⟩ := fi_some h1
  rw [h2]
  rcases Nat.lt_or_ge i j with h6 | h6
  · have := h5 i (by omega) h6
    rw [h] at this; cases this
  · omega
theorem crewkept_law {numbers truth : List Int} {at_ later : Int} (hb : Bytes numbers) (ht : Bytes truth) (ha : 0 ≤ at_ ∧ at_ ≤ 255) (hl8 : 0 ≤ later ∧ later ≤ 255) : law11_CrewKept 700 numbers truth at_ later = some true := by
  unfold law11_CrewKept
  have h0 : ∀ l, kit_New 700 l = some (0, 0) := fun _ => rfl
  simp only [h0, Option.bind_some]
  obtain ⟨l, u1, m1, k1, a1, -, -, hl, hn1, hn2⟩ := toured_spec (N := 700) (by omega) hb (u := 0) (m := 0) (k := 0) (by omega) ⟨by omega, by omega, by omega, by omega⟩ (most := 10) (by omega) (by omega)
  simp only [a1, Option.bind_some]
  have w1 : W at_ = at_ := W_id (by omega) (by omega)
  have w2 : W later = later := W_id (by omega) (by omega)
  have w3 : W (at_ + later) = at_ + later := W_id (by omega) (by omega)
  simp only [w1, w2, w3]
  have hn : 1 ≤ l.length ∧ l.length ≤ 20 := by omega
  have hcode : rndCode l = 0 := by
    unfold rndCode
    rw [if_pos hn, if_pos (List.all_eq_true.2 fun v hv => vok_iff.2 (hl v hv))]
  rw [hours_ok (by omega) hl hn (by omega) (by omega), Option.bind_some, hours_ok (by omega) hl hn (by omega) (by omega), Option.bind_some, late_ok (by omega) hl hn (by omega) (by omega), Option.bind_some]
  have hmono : ∀ i, i < l.length → lateL at_ l i = true → lateH at_ l i = true := fun i hi h => by
    have := bg_mono lo_hi hl (Int.le_refl at_) hi
    simp only [lateL, lateH, decide_eq_true_eq] at h ⊢
    omega
  have hc1 : ((fi (lateL at_ l) 0 l.length != -1) && ((fi (lateH at_ l) 0 l.length == -1) || (decide (fi (lateL at_ l) 0 l.length < fi (lateH at_ l) 0 l.length)))) = false := by
    by_cases h : fi (lateL at_ l) 0 l.length = -1
    · simp [h]
    · obtain ⟨j, h2, -, h3, h4, -⟩ := fi_some h
      have hj : j < l.length := by omega
      have h5 : fi (lateH at_ l) 0 l.length ≠ -1 ∧ fi (lateH at_ l) 0 l.length ≤ (j : Int) := can_le hj (hmono j hj h4)
      have e1 : (fi (lateH at_ l) 0 l.length == -1) = false := by rw [beq_eq_false_iff_ne]; exact h5.1
      have e2 : decide (fi (lateL at_ l) 0 l.length < fi (lateH at_ l) 0 l.length) = false := by rw [h2]; exact decide_eq_false (by omega)
      rw [e1, e2, Bool.or_self, Bool.and_false]
  simp only [hrs_len, bne_self_eq_false, Bool.or_self, Bool.false_or, hc1, cond_false]
  obtain ⟨s, hs, hI⟩ := loopInv (ρ := Bool) (fun s14 => law11_CrewKept_b14 700 truth (l, u1, m1) (hrs at_ l, 0) (hrs (at_ + later) l, 0) (fi (lateH at_ l) 0 l.length, fi (lateL at_ l) 0 l.length, 0) s14.1 s14.2.1 s14.2.2.1 s14.2.2.2.1 s14.2.2.2.2.1 s14.2.2.2.2.2) (fun i s => KOk l at_ i 0 s) l.length (fun i s hi h => by
    obtain ⟨a, b, c, x, v0, v1⟩ := s
    obtain ⟨e1, e2, e3, e4, e5, e6⟩ := h
    dsimp only at e1 e2 e3 e4 e5 e6 ⊢
    subst e5
    have hv := hl l[i] (List.getElem_mem _)
    obtain ⟨b1, b2, b3, b4, b5, b6, b7, b8, b9⟩ := hv
    have hla := lv_bd sel_lo (l := l.take i) (s := at_) (fun v hv => hl v (List.mem_of_mem_take hv)) (by omega)
    have hlb := lv_bd sel_hi (l := l.take i) (s := at_) (fun v hv => hl v (List.mem_of_mem_take hv)) (by omega)
    rw [List.length_take] at hla hlb
    rw [← e1] at hla
    rw [← e2] at hlb
    unfold law11_CrewKept_b14
    obtain ⟨r1, v2, w5, f1, g1, p1, t1⟩ := within_spec (N := 700) ht (lo := l[i].Way.Lo) (hi := l[i].Way.Hi) e6 (by omega) (by omega) (by omega) b2
    obtain ⟨r2, v3, w6, f2, g2, p2, t2⟩ := within_spec (N := 700) ht (lo := l[i].Work.Lo) (hi := l[i].Work.Hi) t1 (by omega) (by omega) (by omega) b5
    have q1 : getI (hrs at_ l) (i : Int) = some ⟨(bg api_Span.Lo at_ l).getD i 0, (bg api_Span.Hi at_ l).getD i 0⟩ := by rw [getI_nat (by rw [hrs_len]; exact hi), hrs_get hi]
    have q2 : getI (hrs (at_ + later) l) (i : Int) = some ⟨(bg api_Span.Lo (at_ + later) l).getD i 0, (bg api_Span.Hi (at_ + later) l).getD i 0⟩ := by rw [getI_nat (by rw [hrs_len]; exact hi), hrs_get hi]
    have x1 : W (a + l[i].Way.Lo) = a + l[i].Way.Lo := W_id (by omega) (by omega)
    have x2 : W (b + l[i].Way.Hi) = b + l[i].Way.Hi := W_id (by omega) (by omega)
    have x3 : W (c + r1) = c + r1 := W_id (by omega) (by omega)
    have y1 : max (a + l[i].Way.Lo) l[i].Open = (bg api_Span.Lo at_ l).getD i 0 := by rw [bg_get _ _ _ _ hi, e1]; rfl
    have y2 : max (b + l[i].Way.Hi) l[i].Open = (bg api_Span.Hi at_ l).getD i 0 := by rw [bg_get _ _ _ _ hi, e2]; rfl
    have z1 := bg_mono (same_f api_Span.Lo) hl (show at_ ≤ at_ + later by omega) hi
    have z2 := bg_mono (same_f api_Span.Hi) hl (show at_ ≤ at_ + later by omega) hi
    have y3 : (bg api_Span.Lo at_ l).getD i 0 ≤ max (c + r1) l[i].Open ∧ max (c + r1) l[i].Open ≤ (bg api_Span.Hi at_ l).getD i 0 := by omega
    have hA : ∀ s o h : Int, law11_span s.toNat o h = some ⟨o, h⟩ := fun _ _ _ => rfl
    simp only [lt_dec hi, cond_true, getI_nat hi, Option.bind_some, f1, q1, q2, x1, x2, x3, y1, y2, law11_span]
    have t3 : (!((bg api_Span.Lo at_ l).getD i 0 == (bg api_Span.Lo at_ l).getD i 0 && (bg api_Span.Hi at_ l).getD i 0 == (bg api_Span.Hi at_ l).getD i 0)) = false := by simp only [beq_self_eq_true, Bool.and_self, Bool.not_true]
    have t4 : decide (max (c + r1) l[i].Open < (bg api_Span.Lo at_ l).getD i 0) = false := by simp only [decide_eq_false_iff_not]; omega
    have t5 : decide ((bg api_Span.Hi at_ l).getD i 0 < max (c + r1) l[i].Open) = false := by simp only [decide_eq_false_iff_not]; omega
    have t6 : decide ((bg api_Span.Lo (at_ + later) l).getD i 0 < (bg api_Span.Lo at_ l).getD i 0) = false := by simp only [decide_eq_false_iff_not]; omega
    have t7 : decide ((bg api_Span.Hi (at_ + later) l).getD i 0 < (bg api_Span.Hi at_ l).getD i 0) = false := by simp only [decide_eq_false_iff_not]; omega
    simp only [t3, t4, t5, t6, t7, cond_false, Option.bind_some]
    have hH : ∀ y : Int, y ≤ (bg api_Span.Hi at_ l).getD i 0 → (decide (l[i].Close < y) && ((fi (lateH at_ l) 0 l.length == -1) || decide ((i : Int) < fi (lateH at_ l) 0 l.length))) = false := fun y hy => by
      by_cases h : l[i].Close < y
      · have := can_le (p := lateH at_ l) hi (by simp only [lateH, decide_eq_true_eq]; rw [← get_getD hi]; omega)
        simp [this.1]
        omega
      · simp [h]
    have hL : (decide (l[i].Close < (bg api_Span.Lo at_ l).getD i 0) && ((fi (lateL at_ l) 0 l.length == -1) || decide ((i : Int) < fi (lateL at_ l) 0 l.length))) = false := by
      rcases boolEq (decide (l[i].Close < (bg api_Span.Lo at_ l).getD i 0)) with h | h
      · have := can_le (p := lateL at_ l) hi (by simp only [lateL]; rw [← get_getD hi]; exact h)
        have h2 : (fi (lateL at_ l) 0 l.length == -1) = false := by simpa using this.1
        have h3 : decide ((i : Int) < fi (lateL at_ l) 0 l.length) = false := by simp only [decide_eq_false_iff_not]; omega
        rw [h2, h3]; simp
      · rw [h]; rfl
    rw [hH _ (Int.le_refl _), hL, hH _ y3.2]
    simp only [Bool.or_self, cond_false, f2, Option.bind_some]
    have hwa : 0 ≤ (bg api_Span.Lo at_ l).getD i 0 ∧ (bg api_Span.Lo at_ l).getD i 0 ≤ 1000000000 := by omega
    have hwb : 0 ≤ (bg api_Span.Hi at_ l).getD i 0 ∧ (bg api_Span.Hi at_ l).getD i 0 ≤ 1000000000 := by omega
    have n1 : W ((bg api_Span.Lo at_ l).getD i 0 + l[i].Work.Lo) = lv api_Span.Lo at_ (l.take (i + 1)) := by
      rw [W_id (by omega) (by omega), List.take_succ_eq_append_getElem hi, lv_snoc, bg_get _ _ _ _ hi]
    have n2 : W ((bg api_Span.Hi at_ l).getD i 0 + l[i].Work.Hi) = lv api_Span.Hi at_ (l.take (i + 1)) := by
      rw [W_id (by omega) (by omega), List.take_succ_eq_append_getElem hi, lv_snoc, bg_get _ _ _ _ hi]
    have n3 : W (max (c + r1) l[i].Open + r2) = max (c + r1) l[i].Open + r2 := W_id (by omega) (by omega)
    have n1' : lv api_Span.Lo at_ (l.take (i + 1)) = (bg api_Span.Lo at_ l).getD i 0 + l[i].Work.Lo := by rw [← n1, W_id (by omega) (by omega)]
    have n2' : lv api_Span.Hi at_ (l.take (i + 1)) = (bg api_Span.Hi at_ l).getD i 0 + l[i].Work.Hi := by rw [← n2, W_id (by omega) (by omega)]
    rw [n1, n2, n3, W_id (by omega) (by omega)]
    refine ⟨_, rfl, ⟨rfl, rfl, by dsimp only; omega, by dsimp only; omega, by dsimp only; push_cast; rfl, ?_⟩⟩
    have : 0 + 2 * (i + 1) = 0 + 2 * i + 1 + 1 := by omega
    rw [this]; exact t2) (fun s h => by
    obtain ⟨a, b, c, x, v0, v1⟩ := s
    obtain ⟨e1, e2, e3, e4, e5, e6⟩ := h
    dsimp only at e5 ⊢
    subst e5
    unfold law11_CrewKept_b14
    rw [ge_dec, cond_false]) l.length 0 (at_, at_, at_, 0, 0, 0) 700 (by omega) (by omega) ⟨rfl, rfl, by dsimp only; omega, by dsimp only; omega, rfl, ⟨by dsimp only; omega, by dsimp only; omega, by dsimp only; omega, by dsimp only; omega⟩⟩
  rw [hs, Option.bind_some]
  obtain ⟨a, b, c, x, v0, v1⟩ := s
  obtain ⟨-, -, -, -, -, e6⟩ := hI
  dsimp only at e6
  simp only [exK]
  rw [latest_ok (by omega) hcode, Option.bind_some]
  have hno : ∀ s : Int, s ≤ 200000 → (fi (lateH s l) 0 l.length = -1 ↔ inT s l) := fun s hs => by
    rw [inT_late hl hs, fi_none]
    exact ⟨fun h i hi => h i (by omega) (by omega), fun h i _ hi => h i (by omega)⟩
  have hnone : (¬ ∃ B, lat l = some B ∧ 0 ≤ B) → (Option.bind (crew_Late 700 0 l) fun r_7 => Option.bind (cond ((((5 : Int) == 5) && (r_7.2.2 == 0)) && (r_7.1 != (-1))) (Option.bind (law11_awake 700) fun r_8 => some r_8) (some false)) fun t_1 => some t_1) = some true := fun h => by
    rw [late_ok (by omega) hl hn (by omega) (by omega), Option.bind_some]
    have : fi (lateH 0 l) 0 l.length ≠ -1 := fun e => h (by
      obtain ⟨B, h1, h2⟩ := inT_iff.1 ((hno 0 (by omega)).1 e)
      exact ⟨B, h1, h2⟩)
    have h2 : (fi (lateH 0 l) 0 l.length != -1) = true := by simpa using this
    simp only [h2, beq_self_eq_true, Bool.and_self, cond_true, awake_true, Option.bind_some]
  cases hlat : lat l with
  | none =>
    dsimp only
    rw [show ((5 : Int) != 0) = true from rfl, cond_true]
    exact hnone fun ⟨B, h1, _⟩ => by rw [hlat] at h1; cases h1
  | some B =>
    dsimp only
    by_cases hB : B < 0
    · rw [if_pos hB]
      rw [show ((5 : Int) != 0) = true from rfl, cond_true]
      exact hnone fun ⟨B', h1, h2⟩ => by rw [hlat] at h1; have := Option.some.inj h1; omega
    · rw [if_neg hB]
      have hBl := (lat_le hl hlat).2.1 (by intro e; rw [e] at hn1; simp at hn1)
      simp only [bne_self_eq_false, cond_false]
      rw [late_ok (by omega) hl hn (by omega) (by omega), Option.bind_some]
      have w4 : W (B + 1) = B + 1 := W_id (by omega) (by omega)
      rw [w4]
      obtain ⟨r, u9, m9, f1, g1, p1, t1⟩ := next_spec (N := 700) ht (n := B + 1) e6 (by omega)
      simp only [f1, Option.bind_some]
      rw [late_ok (by omega) hl hn g1 (by omega), Option.bind_some]
      have c1 : fi (lateH B l) 0 l.length = -1 := (hno B (by omega)).2 (inT_iff.2 ⟨B, hlat, Int.le_refl _⟩)
      have c2 : fi (lateH r l) 0 l.length = -1 := (hno r (by omega)).2 (inT_iff.2 ⟨B, hlat, by omega⟩)
      rw [c1, c2]
      by_cases h9 : B + 1 ≤ 100000
      · rw [late_ok (by omega) hl hn (by omega) h9, Option.bind_some]
        have c3 : fi (lateH (B + 1) l) 0 l.length ≠ -1 := fun e => by
          obtain ⟨B', h1, h2⟩ := inT_iff.1 ((hno (B + 1) (by omega)).1 e)
          rw [hlat] at h1
          have := Option.some.inj h1
          omega
        have h2 : (fi (lateH (B + 1) l) 0 l.length != -1) = true := by simpa using c3
        simp only [h2, beq_self_eq_true, Bool.and_self, Bool.true_or, cond_true, awake_true, Option.bind_some]
      · have : crew_Late 700 (B + 1) l = some (0, 0, 4) := by
          unfold crew_Late
          rw [hours_range (by omega) hcode (by omega), Option.bind_some]
          rfl
        rw [this, Option.bind_some]
        simp only [awake_true, Option.bind_some]
        rfl
end Go.Nilo
