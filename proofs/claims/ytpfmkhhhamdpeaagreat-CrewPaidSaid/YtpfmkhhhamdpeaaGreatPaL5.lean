/-
  What the plain functions compute, in plain arithmetic, part 5. Conditions: what each theorem names.
-/
import Derived.Test.YtpfmkhhhamdpeaaGreatPaL4
set_option linter.unusedSimpArgs false
set_option linter.unusedVariables false
namespace Go.Nilo
def sumP (p : crew_Pay) (l : List Int) : Int := sumBy (fun d => paidF p [d]) l
theorem paid_one (p : crew_Pay) (d : Int) : paidF p [d] = (payT p d + 59999) / 60000 := by simp [paidF, sumBy]
theorem parts_bd (p : crew_Pay) : ∀ l : List Int, sumBy (payT p) l ≤ 60000 * sumP p l ∧ 60000 * sumP p l ≤ sumBy (payT p) l + 59999 * (l.length : Int)
  | [] => by simp [sumP, sumBy]
  | a :: l => by
    have ih := parts_bd p l
    have e1 : sumBy (payT p) (a :: l) = payT p a + sumBy (payT p) l := by simp [sumBy]
    have e2 : sumP p (a :: l) = (payT p a + 59999) / 60000 + sumP p l := by simp [sumP, sumBy, paidF]
    rw [e1, e2, List.length_cons]
    push_cast
    omega
theorem sum_mono {α : Type} {f g : α → Int} : ∀ {l : List α}, (∀ x ∈ l, f x ≤ g x) → sumBy f l ≤ sumBy g l
  | [], _ => by simp [sumBy]
  | a :: l, h => by
    have h1 := sum_mono (l := l) fun x hx => h x (List.mem_cons_of_mem _ hx)
    have h2 := h a List.mem_cons_self
    simp only [sumBy, List.map_cons, List.sum_cons] at h1 ⊢
    omega
theorem sum_set {f : Int → Int} : ∀ {l : List Int} {i : Nat} (hi : i < l.length) {y : Int}, f l[i] ≤ f y → sumBy f l ≤ sumBy f (l.set i y)
  | a :: l, 0, _, y, h => by
    simp only [sumBy, List.set_cons_zero, List.map_cons, List.sum_cons]
    have : f a ≤ f y := h
    omega
  | a :: l, i + 1, hi, y, h => by
    have ih := sum_set (f := f) (l := l) (i := i) (by simpa using hi) (y := y) (by simpa using h)
    simp only [sumBy, List.set_cons_succ, List.map_cons, List.sum_cons] at ih ⊢
    omega
theorem paid_mono {p q : crew_Pay} {l : List Int} (h : ∀ n ∈ l, payT p n ≤ payT q n) : paidF p l ≤ paidF q l := by
  have := sum_mono h
  unfold paidF
  omega
theorem payT_n {p : crew_Pay} (h : PayOk p) {m n : Int} (hmn : m ≤ n) : payT p m ≤ payT p n := by
  unfold payT
  refine Int.mul_le_mul_of_nonneg_left ?_ h.r0
  have : p.Extra * max 0 (m - p.Normal) ≤ p.Extra * max 0 (n - p.Normal) := Int.mul_le_mul_of_nonneg_left (by omega) h.e0
  omega
theorem payT_r {p q : crew_Pay} (hp : PayOk p) (hn : q.Normal = p.Normal) (he : q.Extra = p.Extra) (hr : p.Rate ≤ q.Rate) {n : Int} (h0 : 0 ≤ n) : payT p n ≤ payT q n := by
  unfold payT
  rw [hn, he]
  refine Int.mul_le_mul_of_nonneg_right hr ?_
  have : 0 ≤ p.Extra * max 0 (n - p.Normal) := Int.mul_nonneg hp.e0 (by omega)
  omega
theorem payT_e {p q : crew_Pay} (hp : PayOk p) (hr : q.Rate = p.Rate) {n : Int} (h : p.Extra * max 0 (n - p.Normal) ≤ q.Extra * max 0 (n - q.Normal)) : payT p n ≤ payT q n := by
  unfold payT
  rw [hr]
  exact Int.mul_le_mul_of_nonneg_left (by omega) hp.r0
structure DOk (p : crew_Pay) (i : Nat) (s : List Int × Int × Int × Int × Int) : Prop where
  len : s.1.length = i
  el : ∀ d ∈ s.1, 0 ≤ d ∧ d < 900
  sum : s.2.1 = sumP p s.1
  x : s.2.2.1 = (i : Int)
  so : SOk s.2.2.2.1 s.2.2.2.2 (4 + i)
theorem paid_bd {p : crew_Pay} (h : PayOk p) {d : Int} (h0 : 0 ≤ d) (h1 : d ≤ 1440) : 0 ≤ paidF p [d] ∧ paidF p [d] ≤ 480000 := by
  have := payT_bd h h0 h1
  rw [paid_one]
  omega
theorem sumP_bd {p : crew_Pay} (h : PayOk p) : ∀ {l : List Int}, (∀ d ∈ l, 0 ≤ d ∧ d < 900) → 0 ≤ sumP p l ∧ sumP p l ≤ 480000 * (l.length : Int)
  | [], _ => by simp [sumP, sumBy]
  | a :: l, hl => by
    have h1 := sumP_bd h (l := l) fun n hn => hl n (List.mem_cons_of_mem _ hn)
    have h2 := hl a List.mem_cons_self
    have h3 := paid_bd h h2.1 (by omega)
    have e : sumP p (a :: l) = paidF p [a] + sumP p l := by simp [sumP, sumBy]
    rw [e, List.length_cons]
    push_cast
    omega
theorem crewpaid_law {numbers : List Int} {more : Int} (hb : Bytes numbers) (hm : 0 ≤ more ∧ more ≤ 255) : law11_CrewPaid 700 numbers more = some true := by
  unfold law11_CrewPaid
  have h0 : kit_New 700 numbers = some (0, 0) := rfl
  rw [h0, Option.bind_some]
  obtain ⟨R, u1, m1, a1, a2, a3, s1⟩ := next_spec (N := 700) hb (u := 0) (m := 0) (n := 3000) (k := 0) ⟨by omega, by omega, by omega, by omega⟩ (by omega)
  simp only [a1, Option.bind_some]
  obtain ⟨Nn, u2, m2, b1, b2, b3, s2⟩ := next_spec (N := 700) hb (n := 600) s1 (by omega)
  simp only [b1, Option.bind_some]
  obtain ⟨E, u3, m3, c1, c2, c3, s3⟩ := next_spec (N := 700) hb (n := 1001) s2 (by omega)
  simp only [c1, Option.bind_some]
  obtain ⟨n, u4, m4, d1, d2, d3, s4⟩ := within_spec (N := 700) hb (lo := 1) (hi := 12) s3 (by omega) (by omega) (by omega) (by omega)
  simp only [d1, Option.bind_some]
  have hp : PayOk ⟨R, Nn, E⟩ := ⟨a2, by dsimp only; omega, b2, by dsimp only; omega, c2, by dsimp only; omega⟩
  obtain ⟨k, rfl⟩ := Int.eq_ofNat_of_zero_le (show 0 ≤ n by omega)
  obtain ⟨s, hs, hI⟩ := loopInv (ρ := Bool) (fun s8 => law11_CrewPaid_b8 700 numbers (R, u1, m1) (Nn, u2, m2) (E, u3, m3) ((k : Int), u4, m4) s8.1 s8.2.1 s8.2.2.1 s8.2.2.2.1 s8.2.2.2.2) (DOk ⟨R, Nn, E⟩) k (fun i s hi h => by
    obtain ⟨days, sum, x, u, m⟩ := s
    obtain ⟨h1, h2, h3, h4, h5⟩ := h
    dsimp only at h1 h2 h3 h4 h5 ⊢
    subst h4
    unfold law11_CrewPaid_b8
    obtain ⟨d, u', m', e1, e2, e3, e4⟩ := next_spec (N := 700) hb (n := 900) h5 (by omega)
    have hdec : decide (((i : Nat) : Int) < (k : Int)) = true := by simp; omega
    simp only [hdec, cond_true, e1, Option.bind_some]
    have hlen : (days ++ [d]).length = i + 1 := by simp [h1]
    rw [room_ok (by omega), Option.bind_some]
    have hsub : subO (days ++ [d]) (W (((days ++ [d]).length : Nat) - 1)) (((days ++ [d]).length : Nat) : Int) = some [d] := by
      rw [hlen, W_id (by omega) (by omega)]
      unfold subO
      rw [if_pos (by rw [hlen]; omega)]
      have : ((((i + 1 : Nat) : Int) - 1)).toNat = days.length := by omega
      rw [this]
      simp [h1]
    rw [hsub, Option.bind_some, paid_ok hp (by intro x hx; rw [List.mem_singleton.1 hx]; omega) (by simp) (by omega), Option.bind_some]
    simp only [bne_self_eq_false, cond_false]
    have hsb := sumP_bd hp h2
    have hpb := paid_bd hp (d := d) (by omega) (by omega)
    have hw : W (sum + paidF ⟨R, Nn, E⟩ [d]) = sumP ⟨R, Nn, E⟩ (days ++ [d]) := by
      rw [h3, W_id (by omega) (by omega)]
      simp [sumP, sumBy]
    refine ⟨_, rfl, ⟨hlen, ?_, hw, by dsimp only; rw [W_id (by omega) (by omega)]; push_cast; rfl, ?_⟩⟩
    · intro y hy
      rcases List.mem_append.1 hy with hy | hy
      · exact h2 y hy
      · rw [List.mem_singleton.1 hy]; omega
    · exact e4) (fun s h => by
    obtain ⟨days, sum, x, u, m⟩ := s
    obtain ⟨h1, h2, h3, h4, h5⟩ := h
    dsimp only at h4 ⊢
    subst h4
    unfold law11_CrewPaid_b8
    rw [ge_dec, cond_false]) k 0 (([] : List Int), 0, 0, u4, m4) 700 (by omega) (by omega) ⟨rfl, fun d hd => by simp at hd, rfl, rfl, by simpa using s4⟩
  rw [hs, Option.bind_some]
  obtain ⟨days, sum, x, u, m⟩ := s
  obtain ⟨h1, h2, h3, h4, h5⟩ := hI
  dsimp only at h1 h2 h3 h4 h5
  subst h3
  simp only [exK]
  have hl : ∀ d ∈ days, 0 ≤ d ∧ d ≤ 1440 := fun d hd => by have := h2 d hd; omega
  have hk : 1 ≤ days.length ∧ days.length ≤ 12 := by omega
  rw [paid_ok hp hl (by omega) (by omega), Option.bind_some]
  have hpt := parts_bd ⟨R, Nn, E⟩ days
  have hsb := sumP_bd hp h2
  have y1 : paidF ⟨R, Nn, E⟩ days ≤ sumP ⟨R, Nn, E⟩ days := by unfold paidF; omega
  have y2 : sumP ⟨R, Nn, E⟩ days - (days.length : Int) < paidF ⟨R, Nn, E⟩ days := by unfold paidF; omega
  have t1 : decide (sumP ⟨R, Nn, E⟩ days < paidF ⟨R, Nn, E⟩ days) = false := by simp only [decide_eq_false_iff_not]; omega
  have t2 : decide (paidF ⟨R, Nn, E⟩ days ≤ W (sumP ⟨R, Nn, E⟩ days - ((days.length : Nat) : Int))) = false := by
    rw [W_id (by omega) (by omega)]
    simp only [decide_eq_false_iff_not]
    omega
  simp only [t1, t2, bne_self_eq_false, Bool.or_self, cond_false]
  obtain ⟨i, u6, m6, f1, f2, f3, s6⟩ := next_spec (N := 700) hb (n := ((days.length : Nat) : Int)) h5 (by omega)
  simp only [f1, Option.bind_some]
  obtain ⟨j, rfl⟩ := Int.eq_ofNat_of_zero_le f2
  have hj : j < days.length := by omega
  have hcp : kit_Copy_int 700 days = some days := by unfold kit_Copy_int; rw [room_ok (by omega)]; rfl
  simp only [hcp, Option.bind_some, getI_nat hj]
  have hdj := h2 days[j] (List.getElem_mem _)
  have w1 : W more = more := W_id (by omega) (by omega)
  have w2 : W (days[j] + more) = days[j] + more := W_id (by omega) (by omega)
  have w3 : W (R + more) = R + more := W_id (by omega) (by omega)
  have w4 : W (E + more) = E + more := W_id (by omega) (by omega)
  simp only [w1, w2, w3, w4]
  have hl2 : ∀ d ∈ days.set (Int.toNat (j : Int)) (min 1440 (days[j] + more)), 0 ≤ d ∧ d ≤ 1440 := fun d hd => by
    rcases List.mem_or_eq_of_mem_set hd with hd | hd
    · exact hl d hd
    · omega
  have hp2 : PayOk ⟨R + more, Nn, E⟩ := ⟨by dsimp only; omega, by dsimp only; omega, hp.n0, hp.n1, hp.e0, hp.e1⟩
  have hp3 : PayOk ⟨R, Nn, min 1000 (E + more)⟩ := ⟨hp.r0, hp.r1, hp.n0, hp.n1, by dsimp only; omega, by dsimp only; omega⟩
  have hp4 : PayOk ⟨R, 1440, E⟩ := ⟨hp.r0, hp.r1, by dsimp only; omega, by dsimp only; omega, hp.e0, hp.e1⟩
  have hp5 : PayOk ⟨R, 1440, 0⟩ := ⟨hp.r0, hp.r1, by dsimp only; omega, by dsimp only; omega, by dsimp only; omega, by dsimp only; omega⟩
  rw [paid_ok hp hl2 (by simp; omega) (by omega), Option.bind_some, paid_ok hp2 hl (by omega) (by omega), Option.bind_some, paid_ok hp3 hl (by omega) (by omega), Option.bind_some]
  have g1 : paidF ⟨R, Nn, E⟩ days ≤ paidF ⟨R, Nn, E⟩ (days.set (Int.toNat (j : Int)) (min 1440 (days[j] + more))) := by
    have := sum_set (f := payT ⟨R, Nn, E⟩) hj (y := min 1440 (days[j] + more)) (payT_n hp (by omega))
    unfold paidF
    rw [Int.toNat_natCast]
    omega
  have g2 : paidF ⟨R, Nn, E⟩ days ≤ paidF ⟨R + more, Nn, E⟩ days := paid_mono fun n hn => payT_r (q := ⟨R + more, Nn, E⟩) hp rfl rfl (by dsimp only; omega) (hl n hn).1
  have g3 : paidF ⟨R, Nn, E⟩ days ≤ paidF ⟨R, Nn, min 1000 (E + more)⟩ days := paid_mono fun n hn => payT_e (q := ⟨R, Nn, min 1000 (E + more)⟩) hp rfl (Int.mul_le_mul_of_nonneg_right (by dsimp only; omega) (by omega))
  have v1 : decide (paidF ⟨R, Nn, E⟩ (days.set (Int.toNat (j : Int)) (min 1440 (days[j] + more))) < paidF ⟨R, Nn, E⟩ days) = false := by simp only [decide_eq_false_iff_not]; omega
  have v2 : decide (paidF ⟨R + more, Nn, E⟩ days < paidF ⟨R, Nn, E⟩ days) = false := by simp only [decide_eq_false_iff_not]; omega
  have v3 : decide (paidF ⟨R, Nn, min 1000 (E + more)⟩ days < paidF ⟨R, Nn, E⟩ days) = false := by simp only [decide_eq_false_iff_not]; omega
  simp only [v1, v2, v3, bne_self_eq_false, Bool.or_self, cond_false]
  rw [paid_ok hp4 hl (by omega) (by omega), Option.bind_some, paid_ok hp5 hl (by omega) (by omega), Option.bind_some, paid_ok hp5 (by intro x hx; rw [List.mem_singleton.1 hx]; omega) (by simp) (by omega), Option.bind_some, paid_ok hp5 (by intro x hx; simp at hx) (by simp) (by omega), Option.bind_some]
  have x1 : paidF ⟨R, 1440, E⟩ days = paidF ⟨R, 1440, 0⟩ days := by
    unfold paidF
    rw [sumBy_congr (f := payT ⟨R, 1440, E⟩) (g := payT ⟨R, 1440, 0⟩) fun n hn => ?_]
    have := h2 n hn
    unfold payT
    dsimp only
    rw [show max 0 (n - 1440) = 0 by omega]
    simp
  have x2 : paidF ⟨R, 1440, E⟩ days ≤ paidF ⟨R, Nn, E⟩ days := paid_mono fun n hn => payT_e (q := ⟨R, Nn, E⟩) hp4 rfl (by
    dsimp only
    have := h2 n hn
    rw [show max 0 (n - 1440) = 0 by omega]
    have := Int.mul_nonneg hp.e0 (show 0 ≤ max 0 (n - Nn) by omega)
    dsimp only at this
    omega)
  have x3 : paidF ⟨R, 1440, 0⟩ [60] = R := by
    rw [paid_one]
    unfold payT
    dsimp only
    simp
    omega
  have x4 : paidF ⟨R, 1440, 0⟩ [] = 0 := by simp [paidF, sumBy]
  have x5 : decide (paidF ⟨R, 1440, E⟩ days ≤ paidF ⟨R, Nn, E⟩ days) = true := by simpa using x2
  simp only [x5, x3, x4, awake_true, Option.bind_some, Bool.and_true]
  rw [x1]
  simp
end Go.Nilo
