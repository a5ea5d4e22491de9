/-
  What the plain functions compute, in plain arithmetic, part 9. Conditions: what each theorem names.
-/
import Derived.Test.YtbcaeppbfioogaaBtL8
set_option linter.unusedSimpArgs false
set_option linter.unusedVariables false
namespace Go.Nilo
theorem tight_loop {N : Nat} (hN : 100 ≤ N) {l : List Int} (hl : Bytes l) {r : daily_Record} (hr : ROk r) (ha : agB r = true) {u0 m0 : Int} {k0 : Nat} (hk0 : k0 ≤ 1000) (hs : SOk u0 m0 k0) :
    ∃ t w i u m, loopO (fun s37 : List api_Span × List Int × Int × Int × Int => law07_DailyBetter_b37 N l (told r) s37.1 s37.2.1 s37.2.2.1 s37.2.2.2.1 s37.2.2.2.2) N (told r, [], 0, u0, m0) = some (.go (t, w, i, u, m)) ∧ t.length = r.Days.length ∧ t.all daily_flows = true ∧ w = filt (againP r t) r.Days.length := by
  have h60 := hr.n60
  have hle : ∀ i, i < r.Days.length → tG r i ≤ tL r i := agB_iff.1 ha
  obtain ⟨s', h1, h2⟩ := loopInv (fun s37 : List api_Span × List Int × Int × Int × Int => law07_DailyBetter_b37 N l (told r) s37.1 s37.2.1 s37.2.2.1 s37.2.2.2.1 s37.2.2.2.2)
    (fun i s => s.2.2.1 = (i : Int) ∧ s.1.length = r.Days.length ∧ s.2.1 = filt (againP r s.1) i ∧ (∀ j, j < r.Days.length → daily_flows (s.1.getD j sp0) = true) ∧ (∀ j, i ≤ j → j < r.Days.length → s.1.getD j sp0 = ⟨tG r j, tL r j⟩) ∧ SOk s.2.2.2.1 s.2.2.2.2 (k0 + i)) r.Days.length (by
    rintro i ⟨t, w, i', u, m⟩ hi ⟨k1, k2, k3, k4, k5, k6⟩
    simp only at k1 k2 k3 k4 k5 k6
    subst k1
    obtain ⟨a, u1, m1, e1, a0, a1, s1⟩ := next_spec (N := N) hl (n := 3) k6 (by omega)
    have hw : w.length ≤ 60 := by
      rw [k3]
      have := filt_len (p := againP r t) (n := i)
      omega
    have hti := k5 i (Nat.le_refl _) hi
    have hb := told_bd hr i
    have hli := hle i hi
    have hcong : ∀ v, filt (againP r (t.set i v)) i = filt (againP r t) i := fun v => filt_congr fun j hj => by
      unfold againP
      rw [getD_set_ne (by omega)]
    have hfalse : againP r t i = false := by
      unfold againP
      rw [hti]
      exact dF (by show ¬ (tG r i < tG r i ∨ tL r i < tL r i); omega)
    have hstart : law07_DailyBetter_b37 N l (told r) t w (i : Int) u m = (cond ((a == 0) && decide (tG r i < tL r i))
        (law07_DailyBetter_j42 N (i : Int) (t.set i ⟨tG r i + 1, tL r i⟩) (w ++ [(i : Int)]) u1 m1)
        (law07_DailyBetter_j42 N (i : Int) t w u1 m1)) := by
      unfold law07_DailyBetter_b37
      rw [told_len, lt_dec hi, cond_true, e1, Option.bind_some, getI_d sp0 (by omega), hti, room_ok (by simp; omega)]
      simp only [Option.bind_some, Int.toNat_natCast]
      rw [W_sm (n := tG r i + 1) (by omega) (by omega)]
      cases (a == 0) <;> rfl
    show ∃ s', law07_DailyBetter_b37 N l (told r) t w (i : Int) u m = some (.cont s') ∧ _
    rw [hstart]
    cases hc : ((a == 0) && decide (tG r i < tL r i)) with
    | false =>
      rw [cond_false]
      refine ⟨(t, w, ((i + 1 : Nat) : Int), u1, m1), ?_, rfl, k2, ?_, k4, fun j hj1 hj2 => k5 j (by omega) hj2, s1⟩
      · unfold law07_DailyBetter_j42
        rw [W_succ (by omega)]
      · show w = filt (againP r t) (i + 1)
        rw [filt_succ, hfalse, if_neg (by simp)]
        exact k3
    | true =>
      rw [cond_true]
      rw [Bool.and_eq_true, decide_eq_true_eq] at hc
      refine ⟨(t.set i ⟨tG r i + 1, tL r i⟩, w ++ [(i : Int)], ((i + 1 : Nat) : Int), u1, m1), ?_, rfl, by simp [k2], ?_, fun j hj => ?_, fun j hj1 hj2 => ?_, s1⟩
      · unfold law07_DailyBetter_j42
        rw [W_succ (by omega)]
      · show w ++ [(i : Int)] = filt (againP r (t.set i _)) (i + 1)
        rw [filt_succ, hcong, if_pos, k3]
        unfold againP
        rw [getD_set_self (by omega)]
        exact dT (by show tG r i < tG r i + 1 ∨ _; omega)
      · show daily_flows ((t.set i _).getD j sp0) = true
        by_cases e : j = i
        · subst e
          rw [getD_set_self (by omega)]
          exact flows_iff.2 (by show 0 ≤ tG r j + 1 ∧ tG r j + 1 ≤ tL r j ∧ tL r j ≤ 1000000000; omega)
        · rw [getD_set_ne (by omega)]
          exact k4 j hj
      · show (t.set i _).getD j sp0 = _
        rw [getD_set_ne (by omega)]
        exact k5 j (by omega) hj2) (by
    rintro ⟨t, w, i', u, m⟩ ⟨k1, -⟩
    simp only at k1
    subst k1
    show law07_DailyBetter_b37 N l (told r) t w (r.Days.length : Int) u m = _
    unfold law07_DailyBetter_b37
    rw [told_len, ge_dec, cond_false]) r.Days.length 0 (told r, [], 0, u0, m0) N (by omega) (by omega)
    ⟨rfl, told_len, rfl, fun j hj => by
      show daily_flows ((told r).getD j sp0) = true
      rw [told_getD hj]
      have := told_bd hr j
      exact flows_iff.2 ⟨this.1.1, hle j hj, this.2.2⟩, fun j _ hj => told_getD hj, hs⟩
  obtain ⟨t, w, i', u, m⟩ := s'
  obtain ⟨k1, k2, k3, k4, k5, k6⟩ := h2
  simp only at k1 k2 k3 k4
  refine ⟨t, w, i', u, m, h1, k2, ?_, k3⟩
  rw [List.all_eq_true]
  intro s hs
  obtain ⟨j, hj, rfl⟩ := List.getElem_of_mem hs
  rw [get_getD (d := sp0)]
  exact k4 j (by omega)
theorem better_law {numbers better : List Int} (h1 : Bytes numbers) (h2 : Bytes better) {a b : Int} (ha : 0 ≤ a ∧ a ≤ 255) (hb : 0 ≤ b ∧ b ≤ 255) : law07_DailyBetter 100 numbers better a b = some true := by
  have hN : 100 ≤ 100 := Nat.le_refl _
  obtain ⟨r, x, u0, m0, e0, hm, x1, x20⟩ := Made_spec hN h1 (most := 20) (by omega)
  obtain ⟨f, i, u, m, e1, f1, f2, s1⟩ := better_loop hN h2 (u0 := u0) (m0 := m0) hm (by omega)
  have hlen := hm.len
  obtain ⟨hr, hag⟩ := fill_true hm x1 (by omega)
  have htr := hm.tru (by omega)
  -- the better record
  have gr : ROk ⟨r.Rise, r.Fall, f⟩ := ⟨by show 1 ≤ f.length; omega, by show f.length ≤ 60; omega, hr.rise, hr.fall, fun v hv hk => by
    obtain ⟨j, hj, rfl⟩ := List.getElem_of_mem hv
    rw [get_getD (d := dv0)] at hk ⊢
    exact (f2 j (by have : j < f.length := hj; omega)).ok hk⟩
  have gtr : Tru (lo ⟨r.Rise, r.Fall, f⟩) (hi ⟨r.Rise, r.Fall, f⟩) r.Rise r.Fall r.Days.length fun i => x.getD i 0 := ⟨fun j hj => ⟨(f2 j (by omega)).lo.2, (f2 j (by omega)).hi.1⟩, htr.st⟩
  have gn : (⟨r.Rise, r.Fall, f⟩ : daily_Record).Days.length = r.Days.length := by show f.length = _; omega
  have gag : agB ⟨r.Rise, r.Fall, f⟩ = true := agB_iff.2 (by rw [gn]; exact gtr.agree hr.rise.1 hr.fall.1)
  have gG : ∀ j, j < r.Days.length → tG r j ≤ tG ⟨r.Rise, r.Fall, f⟩ j := fun j hj => by
    unfold tG
    rw [gn]
    exact toldG_mono hr.rise.1 hr.fall.1 hj fun k hk => (f2 k (by omega)).lo.1
  have gL : ∀ j, j < r.Days.length → tL ⟨r.Rise, r.Fall, f⟩ j ≤ tL r j := fun j hj => by
    unfold tL
    rw [gn]
    exact toldL_mono hr.rise.1 hr.fall.1 hj fun k hk => (f2 k (by omega)).hi.2
  have gx : ∀ j, j < r.Days.length → tG ⟨r.Rise, r.Fall, f⟩ j ≤ x.getD j 0 ∧ x.getD j 0 ≤ tL ⟨r.Rise, r.Fall, f⟩ j := fun j hj => by
    unfold tG tL
    rw [gn]
    exact gtr.told hr.rise.1 hr.fall.1 hj
  generalize hgd : (⟨r.Rise, r.Fall, f⟩ : daily_Record) = g at *
  obtain ⟨A, eA, hA⟩ := mod_lt ha x1
  obtain ⟨B, eB, hB⟩ := mod_lt hb x1
  have hz : nz ((x.length : Nat) : Int) = some () := by unfold nz; rw [if_neg (by omega)]
  unfold law07_DailyBetter
  rw [show kit_New 100 numbers = some (0, 0) from rfl, Option.bind_some]
  show Option.bind (law07_Made 100 ⟨numbers, 0, 0⟩ ((20 : Nat) : Int)) _ = _
  rw [e0, Option.bind_some, show kit_New 100 better = some (0, 0) from rfl, Option.bind_some]
  show Option.bind (law07_CopyRecord 100 r) _ = _
  have hcp : law07_CopyRecord 100 r = some r := by
    unfold law07_CopyRecord kit_Copy_daily_Value
    rw [room_ok (by omega), Option.bind_some, Option.bind_some]
  rw [hcp, Option.bind_some]
  show Option.bind (loopO (fun s7 : List daily_Value × Int × Int × Int => law07_DailyBetter_b7 100 better (r, x, u0, m0) r s7.1 s7.2.1 s7.2.2.1 s7.2.2.2) 100 (r.Days, 0, 0, 0)) _ = _
  rw [e1, Option.bind_some]
  show Option.bind (nz ((x.length : Nat) : Int)) (fun un => Option.bind (nz ((x.length : Nat) : Int)) fun un_1 => Option.bind (daily_Fill 100 r) fun r_4 => Option.bind (daily_Fill 100 ⟨r.Rise, r.Fall, f⟩) _) = _
  rw [hgd, hz, Option.bind_some, Option.bind_some, Fill_spec hN (by omega), Option.bind_some, fillF_ok hr hag, Fill_spec hN (by omega), Option.bind_some, fillF_ok gr gag]
  have c1 : ((((((0 : Int) != 0) || ((0 : Int) != 0)) || ((((told r).length : Nat) : Int) != ((x.length : Nat) : Int)))) || ((((told g).length : Nat) : Int) != ((x.length : Nat) : Int))) = false := by
    rw [told_len, told_len, gn, hlen, bne_self_eq_false, bne_self_eq_false]
    rfl
  show cond ((((((0 : Int) != 0) || ((0 : Int) != 0)) || ((((told r).length : Nat) : Int) != ((x.length : Nat) : Int)))) || ((((told g).length : Nat) : Int) != ((x.length : Nat) : Int))) _ _ = _
  rw [c1, cond_false]
  have l17 := runS (ρ := Bool) (fun i : Nat => (i : Int)) r.Days.length (fun s17 => law07_DailyBetter_b17 100 (r, x, u0, m0) (told r, 0) (told g, 0) s17) (fun i hi => by
    show law07_DailyBetter_b17 100 (r, x, u0, m0) (told r, 0) (told g, 0) (i : Int) = _
    unfold law07_DailyBetter_b17
    show cond (decide ((i : Int) < (((told r).length : Nat) : Int))) (Option.bind (getI (told g) (i : Int)) _) _ = _
    have p1 := gG i hi
    have p2 := gL i hi
    have p3 := gx i hi
    rw [told_len, lt_dec hi, cond_true, told_get (by omega), Option.bind_some, told_get hi, Option.bind_some, getI_d (l := x) 0 (by omega), Option.bind_some, Option.bind_some, Option.bind_some, Option.bind_some, W_succ (by omega)]
    show Option.bind (cond (decide (tG g i < tG r i)) (some true) (some (decide (tL r i < tL g i)))) (fun t_3 => Option.bind (cond t_3 (some true) (some (decide (x.getD i 0 < tG g i)))) fun t_4 => Option.bind (cond t_4 (some true) (some (decide (tL g i < x.getD i 0)))) _) = _
    rw [dF (by omega), dF (by omega), dF (by omega), dF (by omega)]
    rfl) (by
    show law07_DailyBetter_b17 100 (r, x, u0, m0) (told r, 0) (told g, 0) (r.Days.length : Int) = _
    unfold law07_DailyBetter_b17
    show cond (decide ((r.Days.length : Int) < (((told r).length : Nat) : Int))) _ _ = _
    rw [told_len, ge_dec, cond_false]) (N := 100) (by omega)
  show Option.bind (loopO (fun s17 => law07_DailyBetter_b17 100 (r, x, u0, m0) (told r, 0) (told g, 0) s17) 100 ((0 : Nat) : Int)) _ = _
  rw [l17, Option.bind_some]
  have emin : ∃ C D : Nat, min ((W a).tmod ((x.length : Nat) : Int)) ((W b).tmod ((x.length : Nat) : Int)) = (C : Int) ∧ max ((W a).tmod ((x.length : Nat) : Int)) ((W b).tmod ((x.length : Nat) : Int)) = (D : Int) ∧ C ≤ D ∧ D < x.length := by
    rw [eA, eB]
    exact ⟨min A B, max A B, by omega, by omega, by omega, by omega⟩
  obtain ⟨C, D, eC, eD, hCD, hDx⟩ := emin
  show Option.bind (daily_Volume 100 r (min ((W a).tmod ((x.length : Nat) : Int)) ((W b).tmod ((x.length : Nat) : Int))) (max ((W a).tmod ((x.length : Nat) : Int)) ((W b).tmod ((x.length : Nat) : Int)))) (fun r_6 => Option.bind (daily_Volume 100 g (min ((W a).tmod ((x.length : Nat) : Int)) ((W b).tmod ((x.length : Nat) : Int))) (max ((W a).tmod ((x.length : Nat) : Int)) ((W b).tmod ((x.length : Nat) : Int)))) fun r_7 => Option.bind (daily_Peak 100 r) fun r_8 => Option.bind (daily_Peak 100 g) _) = _
  rw [eC, eD, Volume_spec hN (by omega), Option.bind_some, volR_ok hr hag hCD (by omega), Volume_spec hN (by omega), Option.bind_some, volR_ok gr gag hCD (by omega), Peak_spec hN (by omega), Option.bind_some, peakR_ok hr hag, Peak_spec hN (by omega), Option.bind_some, peakR_ok gr gag]
  have v1 : psum (tG r) C (D + 1 - C) ≤ psum (tG g) C (D + 1 - C) := psum_mono _ fun i hi => gG _ (by omega)
  have v2 : psum (tL g) C (D + 1 - C) ≤ psum (tL r) C (D + 1 - C) := psum_mono _ fun i hi => gL _ (by omega)
  have hn1 := hr.n1
  have v3 : pkG r ≤ pkG g := by
    unfold pkG
    rw [gn]
    exact maxF_mono fun i hi => gG i (by omega)
  have v4 : pkL g ≤ pkL r := by
    unfold pkL
    rw [gn]
    exact maxF_mono fun i hi => gL i (by omega)
  show cond (((((((((0 : Int) != 0) || ((0 : Int) != 0)) || ((0 : Int) != 0)) || ((0 : Int) != 0)) || (decide (psum (tG g) C (D + 1 - C) < psum (tG r) C (D + 1 - C)))) || (decide (psum (tL r) C (D + 1 - C) < psum (tL g) C (D + 1 - C)))) || (decide (pkG g < pkG r))) || (decide (pkL r < pkL g))) _ _ = _
  rw [dF (by omega), dF (by omega), dF (by omega), dF (by omega), show ((0 : Int) != 0) = false from rfl]
  show Option.bind (loopO (fun s27 => law07_DailyBetter_b27 100 (⟨pkG r, pkL r⟩, pkD r, 0) (⟨pkG g, pkL g⟩, pkD g, 0) s27) 100 ((0 : Nat) : Int)) _ = _
  have hDg : (pkD g).length ≤ r.Days.length := by
    have := filt_len (p := fun i => decide (pkG g ≤ tL g i)) (n := g.Days.length)
    unfold pkD
    omega
  have hDr : (pkD r).length ≤ r.Days.length := filt_len
  have l27 := runS (ρ := Bool) (fun i : Nat => (i : Int)) (pkD g).length (fun s27 => law07_DailyBetter_b27 100 (⟨pkG r, pkL r⟩, pkD r, 0) (⟨pkG g, pkL g⟩, pkD g, 0) s27) (fun i hi => by
    show law07_DailyBetter_b27 100 (⟨pkG r, pkL r⟩, pkD r, 0) (⟨pkG g, pkL g⟩, pkD g, 0) (i : Int) = _
    unfold law07_DailyBetter_b27
    show cond (decide ((i : Int) < (((pkD g).length : Nat) : Int))) (Option.bind (getI (pkD g) (i : Int)) fun e_4 => Option.bind (slices_Contains_Lint_int 100 (pkD r) e_4) _) _ = _
    rw [lt_dec hi, cond_true, getI_nat hi, Option.bind_some, W_succ (by omega), contains_spec (by omega) (by omega) (by
      have hmem : (pkD g)[i] ∈ pkD g := List.getElem_mem _
      obtain ⟨j, j1, j2, j3⟩ := mem_filt.1 hmem
      have j4 := of_decide_eq_true j2
      refine mem_filt.2 ⟨j, by omega, dT ?_, j3⟩
      have := gL j (by omega)
      omega)]
    rfl) (by
    show law07_DailyBetter_b27 100 (⟨pkG r, pkL r⟩, pkD r, 0) (⟨pkG g, pkL g⟩, pkD g, 0) ((pkD g).length : Int) = _
    unfold law07_DailyBetter_b27
    show cond (decide (((pkD g).length : Int) < (((pkD g).length : Nat) : Int))) _ _ = _
    rw [ge_dec, cond_false]) (N := 100) (by omega)
  rw [l27, Option.bind_some]
  show Option.bind (daily_Again 100 r (told r)) (fun r_10 => Option.bind (daily_Again 100 g (told r)) _) = _
  have z1 : filt (againP r (told r)) r.Days.length = [] := filt_nil fun i hi => by
    unfold againP
    rw [told_getD hi]
    exact dF (by show ¬ (tG r i < tG r i ∨ tL r i < tL r i); omega)
  have z2 : filt (againP g (told r)) g.Days.length = [] := filt_nil fun i hi => by
    have hi' : i < r.Days.length := by omega
    unfold againP
    rw [told_getD hi']
    have := gG i hi'
    have := gL i hi'
    exact dF (by show ¬ (tG g i < tG r i ∨ tL r i < tL g i); omega)
  rw [Again_spec hN (by omega), Option.bind_some, agaR_ok hr hag told_len (told_flows hr hag), z1, Again_spec hN (by omega), Option.bind_some, agaR_ok gr gag (by rw [told_len, gn]) (told_flows hr hag), z2]
  show Option.bind (kit_Copy_api_Span 100 (told r)) _ = _
  have hcs : kit_Copy_api_Span 100 (told r) = some (told r) := by
    unfold kit_Copy_api_Span
    rw [room_ok (by rw [told_len]; omega), Option.bind_some]
  rw [hcs, Option.bind_some]
  obtain ⟨t, w, i2, u2, m2, e2, t1, t2, t3⟩ := tight_loop hN h2 hr hag (k0 := 3 * x.length) (by omega) s1
  show Option.bind (loopO (fun s37 : List api_Span × List Int × Int × Int × Int => law07_DailyBetter_b37 100 better (told r) s37.1 s37.2.1 s37.2.2.1 s37.2.2.2.1 s37.2.2.2.2) 100 (told r, [], 0, u, m)) _ = _
  rw [e2, Option.bind_some]
  show Option.bind (daily_Again 100 r t) _ = _
  rw [Again_spec hN (by omega), Option.bind_some, agaR_ok hr hag t1 t2]
  show Option.bind (cond ((0 : Int) == 0) (Option.bind (kit_Same_int 100 (filt (againP r t) r.Days.length) w) _) _) _ = _
  have hfl := filt_len (p := againP r t) (n := r.Days.length)
  rw [t3, same_int (by omega) (by omega), awake_true]
  rfl
end Go.Nilo
