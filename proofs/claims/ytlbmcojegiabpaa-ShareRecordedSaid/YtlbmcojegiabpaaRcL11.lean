/-
  What the plain functions compute, in plain arithmetic, part 11. Conditions: what each theorem names.
-/
import Derived.Test.YtlbmcojegiabpaaRcL10
set_option linter.unusedSimpArgs false
set_option linter.unusedVariables false
namespace Go.Nilo
theorem awake9_true : law09_awake 100 = some true := by decide +kernel
theorem total_spec {N : Nat} (hN : 100 ≤ N) {x : List Int} (hx : ∀ i, i < x.length → 0 ≤ x.getD i 0 ∧ x.getD i 0 ≤ 10000) {C D : Nat} (h1 : C ≤ D) (h2 : D < x.length) (h3 : x.length ≤ 15) :
    ∃ sub F, subO x (C : Int) ((D + 1 : Nat) : Int) = some sub ∧ law09_total N sub = some F ∧ F = psum (fun i => x.getD i 0) C (D + 1 - C) := by
  have hp : ∀ m, m ≤ D + 1 - C → 0 ≤ psum (fun i => x.getD i 0) C m ∧ psum (fun i => x.getD i 0) C m ≤ (m : Int) * 10000 := by
    intro m
    induction m with
    | zero => intro _; exact ⟨Int.le_refl _, by show (0 : Int) ≤ _; omega⟩
    | succ m ih =>
      intro hm
      have := ih (by omega)
      have h := hx (C + m) (by omega)
      show 0 ≤ psum (fun i => x.getD i 0) C m + x.getD (C + m) 0 ∧ psum (fun i => x.getD i 0) C m + x.getD (C + m) 0 ≤ _
      omega
  refine ⟨rl (D + 1 - C) fun i => x.getD (C + i) 0, psum (fun i => x.getD i 0) C (D + 1 - C), ?_, ?_, rfl⟩
  · unfold subO
    rw [if_pos (by omega)]
    congr 1
    refine List.ext_getElem ?_ fun m k1 k2 => ?_
    · rw [rl_len, List.length_take, List.length_drop]
      omega
    · have hm : m < D + 1 - C := by rw [rl_len] at k2; exact k2
      simp [rl, List.getD, show C + m < x.length by omega]
  · unfold law09_total
    have := runS (ρ := Int) (fun i : Nat => (psum (fun i => x.getD i 0) C i, (i : Int))) (D + 1 - C) (fun s5 => law09_total_b5 N (rl (D + 1 - C) fun i => x.getD (C + i) 0) s5.1 s5.2) (fun i hi => by
      show law09_total_b5 N (rl (D + 1 - C) fun i => x.getD (C + i) 0) (psum (fun i => x.getD i 0) C i) (i : Int) = _
      have b1 := hp i (by omega)
      have b2 := hx (C + i) (by omega)
      unfold law09_total_b5
      rw [rl_len, lt_dec hi, cond_true, rl_get hi, Option.bind_some, W_succ (by omega), W_sm (by omega) (by omega)]
      rfl) (by
      show law09_total_b5 N (rl (D + 1 - C) fun i => x.getD (C + i) 0) (psum (fun i => x.getD i 0) C (D + 1 - C)) ((D + 1 - C : Nat) : Int) = _
      unfold law09_total_b5
      rw [rl_len, ge_dec, cond_false]) (N := N) (by omega)
    show Option.bind (loopO _ N (psum (fun i => x.getD i 0) C 0, ((0 : Nat) : Int))) _ = _
    rw [this]
    rfl
def r20 (r : share_Right) : share_Right := ⟨r.State, r.Amount * 20, r.Loss⟩
theorem scale_loop {N : Nat} (hN : 100 ≤ N) {c : share_Compact} {u m : Int} (hl : c.Rights.length ≤ 12) (hall : ∀ e ∈ c.Rights, okR c.States e = true ∧ e.Amount ≤ 100) :
    ∃ (i : Int) (l : List share_Right), loopO (fun s6 => law09_ShareRecorded_b6 N (c, u, m) s6.1 s6.2) N (0, c.Rights) = some (.go (i, l)) ∧ l.length = c.Rights.length ∧ ∀ j, j < l.length → l.getD j r0 = r20 (c.Rights.getD j r0) := by
  obtain ⟨s', h1, h2⟩ := loopInv (fun s6 : Int × List share_Right => law09_ShareRecorded_b6 N (c, u, m) s6.1 s6.2)
    (fun i s => s.1 = (i : Int) ∧ s.2.length = c.Rights.length ∧ (∀ j, j < i → s.2.getD j r0 = r20 (c.Rights.getD j r0)) ∧ ∀ j, i ≤ j → s.2.getD j r0 = c.Rights.getD j r0) c.Rights.length (by
    rintro i ⟨i', l⟩ hi ⟨k1, k2, k3, k4⟩
    simp only at k1 k2 k3 k4
    subst k1
    have ho := hall _ (List.getElem_mem hi)
    rw [get_getD (d := r0) hi] at ho
    have ho1 := ho.1
    unfold okR at ho1
    simp only [Bool.and_eq_true, decide_eq_true_eq] at ho1
    refine ⟨(((i + 1 : Nat) : Int), l.set i (r20 (c.Rights.getD i r0))), ?_, rfl, by simp [k2], fun j hj => ?_, fun j hj => ?_⟩
    · show law09_ShareRecorded_b6 N (c, u, m) (i : Int) l = _
      unfold law09_ShareRecorded_b6
      show cond (decide ((i : Int) < ((c.Rights.length : Nat) : Int))) _ _ = _
      rw [lt_dec hi, cond_true, getI_d r0 (by omega), Option.bind_some, Option.bind_some, k4 i (Nat.le_refl _), W_succ (by omega), W_sm (by omega) (by omega), Int.toNat_natCast]
      rfl
    · by_cases e : j = i
      · subst e
        rw [getD_set_self (by omega)]
      · rw [getD_set_ne (by omega)]
        exact k3 j (by omega)
    · rw [getD_set_ne (by omega)]
      exact k4 j (by omega)) (by
    rintro ⟨i', l⟩ ⟨k1, k2, k3, k4⟩
    simp only at k1
    subst k1
    show law09_ShareRecorded_b6 N (c, u, m) (c.Rights.length : Int) l = _
    unfold law09_ShareRecorded_b6
    show cond (decide ((c.Rights.length : Int) < ((c.Rights.length : Nat) : Int))) _ _ = _
    rw [ge_dec, cond_false]) c.Rights.length 0 (0, c.Rights) N (by omega) (by omega) ⟨rfl, rfl, fun j hj => absurd hj (Nat.not_lt_zero _), fun j _ => rfl⟩
  obtain ⟨i', l⟩ := s'
  obtain ⟨k1, k2, k3, k4⟩ := h2
  simp only at k2 k3
  exact ⟨i', l, h1, k2, fun j hj => k3 j (by omega)⟩
theorem finer_loop {N : Nat} (hN : 100 ≤ N) {l : List Int} (hl : Bytes l) {r : daily_Record} {x : List Int} {u0 m0 : Int} (hm : MOk r x) (h20 : x.length ≤ 25) :
    ∃ (i u m : Int) (f : List daily_Value), loopO (fun s13 => law09_ShareRecorded_b13 N l (r, x, u0, m0) r s13.1 s13.2.1 s13.2.2.1 s13.2.2.2) N (0, 0, 0, r.Days) = some (.go (i, u, m, f)) ∧ f.length = x.length ∧ ∀ j, j < x.length → BOk (r.Days.getD j dv0) (f.getD j dv0) (x.getD j 0) := by
  have hlen := hm.len
  obtain ⟨s', h1, h2⟩ := loopInv (fun s13 : Int × Int × Int × List daily_Value => law09_ShareRecorded_b13 N l (r, x, u0, m0) r s13.1 s13.2.1 s13.2.2.1 s13.2.2.2)
    (fun i s => s.1 = (i : Int) ∧ s.2.2.2.length = x.length ∧ (∀ j, j < i → BOk (r.Days.getD j dv0) (s.2.2.2.getD j dv0) (x.getD j 0)) ∧ (∀ j, i ≤ j → s.2.2.2.getD j dv0 = r.Days.getD j dv0) ∧ SOk s.2.1 s.2.2.1 i) x.length (by
    rintro i ⟨i', u, m, f⟩ hi ⟨k1, k2, k3, k4, k5⟩
    simp only at k1 k2 k3 k4 k5
    subst k1
    have hx := hm.x0 i hi
    have ho := hm.own i hi
    have hb0 := bok_refl ho (by omega)
    obtain ⟨a, u1, m1, e1, a0, a1, s1⟩ := next_spec (N := N) hl (n := 3) k5 (by omega)
    have hb : law09_ShareRecorded_b13 N l (r, x, u0, m0) r (i : Int) u m f = cond (a == 0) (law09_ShareRecorded_j38 N (i : Int) u1 m1 (f.set i ⟨true, ⟨x.getD i 0, x.getD i 0⟩⟩)) (law09_ShareRecorded_j38 N (i : Int) u1 m1 f) := by
      unfold law09_ShareRecorded_b13
      show cond (decide ((i : Int) < ((r.Days.length : Nat) : Int))) (Option.bind (kit_Stream_Next N ⟨l, u, m⟩ 3) fun r_13 => cond (r_13.1 == 0) (Option.bind (getI x (i : Int)) fun e_8 => Option.bind (getI x (i : Int)) fun e_9 => _) _) _ = _
      rw [lt_dec (by omega), cond_true, e1, Option.bind_some, getI_d 0 hi, Option.bind_some, Option.bind_some]
      show cond (a == 0) (Option.bind (some (⟨x.getD i 0, x.getD i 0⟩ : api_Span)) fun r_14 => Option.bind (getI f (i : Int)) _) _ = _
      rw [Option.bind_some, getI_d dv0 (by omega), Option.bind_some, Int.toNat_natCast]
    show ∃ s', law09_ShareRecorded_b13 N l (r, x, u0, m0) r (i : Int) u m f = some (.cont s') ∧ _
    rw [hb]
    cases a == 0 with
    | true =>
      refine ⟨(((i + 1 : Nat) : Int), u1, m1, f.set i ⟨true, ⟨x.getD i 0, x.getD i 0⟩⟩), ?_, rfl, by simp [k2], fun j hj => ?_, fun j hj => ?_, s1⟩
      · rw [cond_true]
        unfold law09_ShareRecorded_j38
        rw [W_succ (by omega)]
      · by_cases e : j = i
        · subst e
          show BOk _ ((f.set j _).getD j dv0) _
          rw [getD_set_self (by omega)]
          refine ⟨⟨?_, Int.le_refl _⟩, ⟨Int.le_refl _, ?_⟩, fun _ => ?_⟩
          · exact Int.le_trans hb0.lo.1 hb0.lo.2
          · exact Int.le_trans hb0.hi.1 hb0.hi.2
          · show 0 ≤ x.getD j 0 ∧ x.getD j 0 ≤ x.getD j 0 ∧ x.getD j 0 ≤ 1000000000
            omega
        · show BOk _ ((f.set i _).getD j dv0) _
          rw [getD_set_ne (by omega)]
          exact k3 j (by omega)
      · show (f.set i _).getD j dv0 = _
        rw [getD_set_ne (by omega)]
        exact k4 j (by omega)
    | false =>
      refine ⟨(((i + 1 : Nat) : Int), u1, m1, f), ?_, rfl, k2, fun j hj => ?_, fun j hj => k4 j (by omega), s1⟩
      · rw [cond_false]
        unfold law09_ShareRecorded_j38
        rw [W_succ (by omega)]
      · by_cases e : j = i
        · subst e
          show BOk _ (f.getD j dv0) _
          rw [k4 j (Nat.le_refl _)]
          exact hb0
        · exact k3 j (by omega)) (by
    rintro ⟨i', u, m, f⟩ ⟨k1, -⟩
    simp only at k1
    subst k1
    show law09_ShareRecorded_b13 N l (r, x, u0, m0) r (x.length : Int) u m f = _
    unfold law09_ShareRecorded_b13
    show cond (decide ((x.length : Int) < ((r.Days.length : Nat) : Int))) _ _ = _
    rw [dF (by omega), cond_false]) x.length 0 (0, 0, 0, r.Days) N (by omega) (by omega)
    ⟨rfl, hlen.symm, fun j hj => absurd hj (Nat.not_lt_zero _), fun j _ => rfl, new_ok⟩
  obtain ⟨i', u, m, f⟩ := s'
  obtain ⟨k1, k2, k3, k4, k5⟩ := h2
  exact ⟨i', u, m, f, h1, k2, k3⟩
theorem shares_ok {c : share_Compact} (h : chk c = 0) {s : api_Span} (hs : 0 ≤ s.Lo ∧ s.Lo ≤ s.Hi ∧ s.Hi ≤ 1000000000) : sharesF c s = (spanL c s c.States.toNat, 0) := by
  unfold sharesF okA
  rw [if_pos h, dT hs.1, dT hs.2.1, dT hs.2.2]
  rfl
theorem recorded_law {numbers better compact : List Int} (h1 : Bytes numbers) (h2 : Bytes better) (h3 : Bytes compact) {a b : Int} (ha : 0 ≤ a ∧ a ≤ 255) (hb : 0 ≤ b ∧ b ≤ 255) : law09_ShareRecorded 100 numbers better compact a b = some true := by
  have hN : 100 ≤ 100 := Nat.le_refl _
  obtain ⟨r, x, u0, m0, e0, hm, x1, x15⟩ := Made_spec hN h1 (most := 15) (by omega)
  obtain ⟨c, uc, mc, hS, hL, hall, hmade⟩ := made_spec (N := 100) (by omega) h3
  obtain ⟨i6, l6, e6, l6n, l6g⟩ := scale_loop hN (u := uc) (m := mc) hL.2 hall
  obtain ⟨i, u, m, f, e1, f1, f2⟩ := finer_loop hN h2 (u0 := u0) (m0 := m0) hm (by omega)
  have hlen := hm.len
  obtain ⟨hr, hag⟩ := fill_true hm x1 (by omega)
  have htr := hm.tru (by omega)
  have gr : ROk ⟨r.Rise, r.Fall, f⟩ := ⟨by show 1 ≤ f.length; omega, by show f.length ≤ 60; omega, hr.rise, hr.fall, fun v hv hk => by
    obtain ⟨j, hj, rfl⟩ := List.getElem_of_mem hv
    rw [get_getD (d := dv0)] at hk ⊢
    exact (f2 j (by have : j < f.length := hj; omega)).ok hk⟩
  have gtr : Tru (lo ⟨r.Rise, r.Fall, f⟩) (hi ⟨r.Rise, r.Fall, f⟩) r.Rise r.Fall r.Days.length fun i => x.getD i 0 := ⟨fun j hj => ⟨(f2 j (by omega)).lo.2, (f2 j (by omega)).hi.1⟩, htr.st⟩
  have gn : (⟨r.Rise, r.Fall, f⟩ : daily_Record).Days.length = r.Days.length := by show f.length = _; omega
  have gag : agB ⟨r.Rise, r.Fall, f⟩ = true := agB_iff.2 (by rw [gn]; exact gtr.agree hr.rise.1 hr.fall.1)
  have gG : ∀ j, j < r.Days.length → tG r j ≤ tG ⟨r.Rise, r.Fall, f⟩ j := fun j hj => by
    unfold tG
    rw [gn]
    exact toldG_mono hr.rise.1 hr.fall.1 hj fun k hk => (f2 k (by omega)).lo.1
  have gL : ∀ j, j < r.Days.length → tL ⟨r.Rise, r.Fall, f⟩ j ≤ tL r j := fun j hj => by
    unfold tL
    rw [gn]
    exact toldL_mono hr.rise.1 hr.fall.1 hj fun k hk => (f2 k (by omega)).hi.2
  have gx : ∀ j, j < r.Days.length → tG ⟨r.Rise, r.Fall, f⟩ j ≤ x.getD j 0 ∧ x.getD j 0 ≤ tL ⟨r.Rise, r.Fall, f⟩ j := fun j hj => by
    unfold tG tL
    rw [gn]
    exact gtr.told hr.rise.1 hr.fall.1 hj
  generalize hgd : (⟨r.Rise, r.Fall, f⟩ : daily_Record) = g at *
  obtain ⟨A, eA, hA⟩ := mod_lt ha x1
  obtain ⟨B, eB, hB⟩ := mod_lt hb x1
  have hz : nz ((x.length : Nat) : Int) = some () := by unfold nz; rw [if_neg (by omega)]
  have emin : ∃ C D : Nat, min ((W a).tmod ((x.length : Nat) : Int)) ((W b).tmod ((x.length : Nat) : Int)) = (C : Int) ∧ max ((W a).tmod ((x.length : Nat) : Int)) ((W b).tmod ((x.length : Nat) : Int)) = (D : Int) ∧ C ≤ D ∧ D < x.length := by
    rw [eA, eB]
    exact ⟨min A B, max A B, by omega, by omega, by omega, by omega⟩
  obtain ⟨C, D, eC, eD, hCD, hDx⟩ := emin
  have hx10 : ∀ i, i < x.length → 0 ≤ x.getD i 0 ∧ x.getD i 0 ≤ 10000 := fun i hi => by
    have := hm.x0 i hi
    omega
  obtain ⟨sub, F, es, et, hF⟩ := total_spec hN hx10 hCD hDx x15
  -- the compact
  have h0 : chk ⟨c.States, l6⟩ = 0 := chk_of hS (by show 1 ≤ l6.length ∧ l6.length ≤ 30; omega) fun e he => by
    obtain ⟨j, hj, rfl⟩ := List.getElem_of_mem he
    have hj' : j < l6.length := hj
    have ho := hall _ (List.getElem_mem (show j < c.Rights.length by omega))
    rw [get_getD (d := r0) (show j < c.Rights.length by omega)] at ho
    show okR c.States l6[j] = true
    rw [get_getD (d := r0) hj', l6g j hj']
    have ho1 := ho.1
    unfold okR at ho1 ⊢
    unfold r20
    simp only [Bool.and_eq_true, decide_eq_true_eq] at ho1 ⊢
    omega
  have hc := chk_ok h0
  -- the flows
  have t0 : ∀ j, 0 ≤ tG r j ∧ tG r j ≤ 1000000000 := tG_bd hr
  have hv0 := psum_bd (a := C) (tG_bd hr) (D + 1 - C)
  have hv1 := psum_bd (a := C) (tL_bd hr) (D + 1 - C)
  have hw0 := psum_bd (a := C) (tG_bd gr) (D + 1 - C)
  have hw1 := psum_bd (a := C) (tL_bd gr) (D + 1 - C)
  have v1 : psum (tG r) C (D + 1 - C) ≤ psum (tG g) C (D + 1 - C) := psum_mono _ fun i hi => gG _ (by omega)
  have v2 : psum (tL g) C (D + 1 - C) ≤ psum (tL r) C (D + 1 - C) := psum_mono _ fun i hi => gL _ (by omega)
  have v3 : psum (tG g) C (D + 1 - C) ≤ F := by rw [hF]; exact psum_mono _ fun i hi => (gx _ (by omega)).1
  have v4 : F ≤ psum (tL g) C (D + 1 - C) := by rw [hF]; exact psum_mono _ fun i hi => (gx _ (by omega)).2
  have hF1 : F ≤ 1000000000 := by
    have : ∀ m, m ≤ D + 1 - C → psum (fun i => x.getD i 0) C m ≤ (m : Int) * 10000 := by
      intro m
      induction m with
      | zero => intro _; show (0 : Int) ≤ _; omega
      | succ m ih =>
        intro hm'
        have := ih (by omega)
        have h := hx10 (C + m) (by omega)
        show psum (fun i => x.getD i 0) C m + x.getD (C + m) 0 ≤ _
        omega
    have := this (D + 1 - C) (Nat.le_refl _)
    omega
  have hcp : law07_CopyRecord 100 r = some r := by
    unfold law07_CopyRecord kit_Copy_daily_Value
    rw [room_ok (by omega), Option.bind_some, Option.bind_some]
  unfold law09_ShareRecorded
  rw [show kit_New 100 numbers = some (0, 0) from rfl, Option.bind_some]
  show Option.bind (law07_Made 100 ⟨numbers, 0, 0⟩ ((15 : Nat) : Int)) _ = _
  rw [e0, Option.bind_some, show kit_New 100 compact = some (0, 0) from rfl, Option.bind_some]
  show Option.bind (law09_Made 100 ⟨compact, 0, 0⟩) _ = _
  rw [hmade, Option.bind_some]
  show Option.bind (loopO _ 100 (0, c.Rights)) _ = _
  rw [e6, Option.bind_some]
  show Option.bind (nz ((x.length : Nat) : Int)) (fun un => Option.bind (nz ((x.length : Nat) : Int)) fun un_1 => Option.bind (kit_New 100 better) fun r_4 => Option.bind (law07_CopyRecord 100 r) _) = _
  rw [hz, Option.bind_some, Option.bind_some, show kit_New 100 better = some (0, 0) from rfl, Option.bind_some, hcp, Option.bind_some]
  show Option.bind (loopO (fun s13 => law09_ShareRecorded_b13 100 better (r, x, u0, m0) r s13.1 s13.2.1 s13.2.2.1 s13.2.2.2) 100 (0, 0, 0, r.Days)) _ = _
  rw [e1, Option.bind_some]
  show Option.bind (daily_Volume 100 r (min ((W a).tmod ((x.length : Nat) : Int)) ((W b).tmod ((x.length : Nat) : Int))) (max ((W a).tmod ((x.length : Nat) : Int)) ((W b).tmod ((x.length : Nat) : Int)))) (fun r_6 => Option.bind (daily_Volume 100 ⟨r.Rise, r.Fall, f⟩ (min ((W a).tmod ((x.length : Nat) : Int)) ((W b).tmod ((x.length : Nat) : Int))) (max ((W a).tmod ((x.length : Nat) : Int)) ((W b).tmod ((x.length : Nat) : Int)))) fun r_7 =>
    Option.bind (subO x (min ((W a).tmod ((x.length : Nat) : Int)) ((W b).tmod ((x.length : Nat) : Int))) (W ((max ((W a).tmod ((x.length : Nat) : Int)) ((W b).tmod ((x.length : Nat) : Int))) + 1))) _) = _
  rw [hgd, eC, eD, W_succ (by omega), Volume_spec hN (by omega), Option.bind_some, volR_ok hr hag hCD (by omega), Volume_spec hN (by omega), Option.bind_some, volR_ok gr gag hCD (by omega), es, Option.bind_some, et, Option.bind_some]
  show Option.bind (share_Real 100 ⟨c.States, l6⟩ F) _ = _
  rw [real_prog (by omega), Option.bind_some, real_ok h0 (by omega)]
  show cond ((((0 : Int) != 0) || ((0 : Int) != 0) || ((0 : Int) != 0)) || (decide (psum (tG r) C (D + 1 - C) < 0))) _ _ = _
  rw [dF (by omega), show ((0 : Int) != 0) = false from rfl]
  show Option.bind (share_Shares 100 ⟨c.States, l6⟩ ⟨psum (tG r) C (D + 1 - C), min (psum (tL r) C (D + 1 - C)) 1000000000⟩) (fun r_10 => Option.bind (share_Shares 100 ⟨c.States, l6⟩ ⟨psum (tG g) C (D + 1 - C), min (psum (tL g) C (D + 1 - C)) 1000000000⟩) _) = _
  have hS1 : (c.States.toNat : Int) = c.States := by omega
  rw [shares_prog (by omega), Option.bind_some, shares_ok h0 (by show 0 ≤ psum (tG r) C (D + 1 - C) ∧ psum (tG r) C (D + 1 - C) ≤ min (psum (tL r) C (D + 1 - C)) 1000000000 ∧ min (psum (tL r) C (D + 1 - C)) 1000000000 ≤ 1000000000; omega),
    shares_prog (by omega), Option.bind_some, shares_ok h0 (by show 0 ≤ psum (tG g) C (D + 1 - C) ∧ psum (tG g) C (D + 1 - C) ≤ min (psum (tL g) C (D + 1 - C)) 1000000000 ∧ min (psum (tL g) C (D + 1 - C)) 1000000000 ≤ 1000000000; omega)]
  generalize hV : (⟨psum (tG r) C (D + 1 - C), min (psum (tL r) C (D + 1 - C)) 1000000000⟩ : api_Span) = V
  generalize hWw : (⟨psum (tG g) C (D + 1 - C), min (psum (tL g) C (D + 1 - C)) 1000000000⟩ : api_Span) = Q
  have q1 : V.Lo ≤ Q.Lo := by rw [← hV, ← hWw]; exact v1
  have q2 : Q.Hi ≤ V.Hi := by rw [← hV, ← hWw]; show min _ _ ≤ min _ _; omega
  have q3 : Q.Lo ≤ F := by rw [← hWw]; exact v3
  have q4 : F ≤ Q.Hi := by rw [← hWw]; show _ ≤ min _ _; omega
  generalize hcc : (⟨c.States, l6⟩ : share_Compact) = c' at *
  have hcs : c'.States = c.States := by rw [← hcc]
  show cond ((((((0 : Int) != 0) || ((0 : Int) != 0)) || (((spanL c' V c'.States.toNat).length : Int) != c.States)) || (((spanL c' Q c'.States.toNat).length : Int) != c.States)) || (((gotL c' F).length : Int) != c.States)) _ _ = _
  rw [spanL_len, spanL_len, gotL_len, hcs, hS1, bne_self_eq_false, bne_self_eq_false]
  have hg : ∀ j : Nat, (gotF c' Q.Lo (j : Int) c'.Rights.length ≤ gotF c' F (j : Int) c'.Rights.length ∧ gotF c' F (j : Int) c'.Rights.length ≤ gotF c' Q.Hi (j : Int) c'.Rights.length) ∧ gotF c' V.Lo (j : Int) c'.Rights.length ≤ gotF c' Q.Lo (j : Int) c'.Rights.length ∧ gotF c' Q.Hi (j : Int) c'.Rights.length ≤ gotF c' V.Hi (j : Int) c'.Rights.length := fun j =>
    ⟨⟨got_mono hc q3 _ (Nat.le_refl _), got_mono hc q4 _ (Nat.le_refl _)⟩, got_mono hc q1 _ (Nat.le_refl _), got_mono hc q2 _ (Nat.le_refl _)⟩
  have l28 := runS (ρ := Bool) (fun i : Nat => (i : Int)) c.States.toNat (fun s28 => law09_ShareRecorded_b28 100 (gotL c' F, 0) (spanL c' V c.States.toNat, 0) (spanL c' Q c.States.toNat, 0) s28) (fun i hi => by
    show law09_ShareRecorded_b28 100 (gotL c' F, 0) (spanL c' V c.States.toNat, 0) (spanL c' Q c.States.toNat, 0) (i : Int) = _
    have := hg i
    unfold law09_ShareRecorded_b28
    show cond (decide ((i : Int) < (((gotL c' F).length : Nat) : Int))) (Option.bind (getI (gotL c' F) (i : Int)) fun e_1 => Option.bind (getI (spanL c' Q c.States.toNat) (i : Int)) fun e_2 => Option.bind (cond (decide (e_1 < e_2.Lo)) (some true) (Option.bind (getI (spanL c' Q c.States.toNat) (i : Int)) fun e_3 => some (decide (e_3.Hi < e_1)))) fun t_1 => Option.bind (cond t_1 (some true) (Option.bind (getI (spanL c' Q c.States.toNat) (i : Int)) fun e_4 => Option.bind (getI (spanL c' V c.States.toNat) (i : Int)) fun e_5 => some (decide (e_4.Lo < e_5.Lo)))) fun t_2 => Option.bind (cond t_2 (some true) (Option.bind (getI (spanL c' Q c.States.toNat) (i : Int)) fun e_6 => Option.bind (getI (spanL c' V c.States.toNat) (i : Int)) fun e_7 => some (decide (e_7.Hi < e_6.Hi)))) _) _ = _
    rw [gotL_len, hcs, lt_dec hi, cond_true, gotL_get (by rw [hcs]; exact hi), Option.bind_some, spanL_get hi, spanL_get hi]
    simp only [Option.bind_some]
    rw [dF (by omega), dF (by omega), cond_false, Option.bind_some, cond_false, dF (by omega), Option.bind_some, cond_false, dF (by omega), Option.bind_some, cond_false, W_succ (by omega)]) (by
    show law09_ShareRecorded_b28 100 (gotL c' F, 0) (spanL c' V c.States.toNat, 0) (spanL c' Q c.States.toNat, 0) (c.States.toNat : Int) = _
    unfold law09_ShareRecorded_b28
    show cond (decide ((c.States.toNat : Int) < (((gotL c' F).length : Nat) : Int))) _ _ = _
    rw [gotL_len, hcs, ge_dec, cond_false]) (N := 100) (by omega)
  show Option.bind (loopO (fun s28 => law09_ShareRecorded_b28 100 (gotL c' F, 0) (spanL c' V c.States.toNat, 0) (spanL c' Q c.States.toNat, 0) s28) 100 ((0 : Nat) : Int)) _ = _
  rw [l28, Option.bind_some]
  show Option.bind (law09_awake 100) _ = _
  rw [awake9_true]
  rfl
end Go.Nilo
