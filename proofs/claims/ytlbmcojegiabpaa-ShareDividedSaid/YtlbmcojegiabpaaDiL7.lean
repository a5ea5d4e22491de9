/-
  What the plain functions compute, in plain arithmetic, part 7. Conditions: what each theorem names.
-/
import Derived.Test.YtlbmcojegiabpaaDiL6
set_option linter.unusedSimpArgs false
set_option linter.unusedVariables false
namespace Go.Nilo
/-! ### Lists of numbers by their indices -/
def mapZ (k : Nat) (g : Nat → Int) : List Int := (List.range k).map g
theorem mapZ_len (k : Nat) (g : Nat → Int) : (mapZ k g).length = k := by simp [mapZ]
theorem mapZ_cN {k : Nat} {g : Nat → Int} {s : Nat} (hs : s < k) : cN (mapZ k g) s = g s := by
  unfold cN mapZ
  simp [List.getD, hs]
theorem mapZ_get {k : Nat} {g : Nat → Int} {s : Nat} (hs : s < k) : getI (mapZ k g) (s : Int) = some (g s) := by
  rw [getI_nat (by rw [mapZ_len]; exact hs)]
  simp [mapZ]
theorem mapZ_congr {k : Nat} {g g' : Nat → Int} (h : ∀ s, s < k → g s = g' s) : mapZ k g = mapZ k g' := by
  unfold mapZ
  apply List.map_congr_left
  intro s hs
  exact h s (List.mem_range.1 hs)
theorem mapZ_self (l : List Int) : l = mapZ l.length (cN l) := by
  apply List.ext_getElem?
  intro i
  unfold mapZ cN
  by_cases h : i < l.length
  · simp [h]
  · simp [h]
def putZ (g : Nat → Int) (i : Nat) (v : Int) : Nat → Int := fun s => if s = i then v else g s
theorem mapZ_set {k : Nat} {g : Nat → Int} {i : Nat} {v : Int} : (mapZ k g).set i v = mapZ k (putZ g i v) := by
  apply List.ext_getElem?
  intro j
  unfold mapZ putZ
  rw [List.getElem?_set]
  by_cases hjk : j < k
  · by_cases hij : i = j
    · subst hij
      simp [hjk]
    · rw [if_neg hij]
      simp [hjk, Ne.symm hij]
  · by_cases hij : i = j
    · subst hij
      simp [hjk]
    · rw [if_neg hij]
      simp [hjk]
theorem chkC_mapZ {k : Nat} {g : Nat → Int} (hk : 1 ≤ k ∧ k ≤ 12) (h : ∀ s, s < k → 1 ≤ g s ∧ g s ≤ 1000000) : chkC (mapZ k g) = 0 := by
  unfold chkC
  rw [mapZ_len, if_pos hk, if_pos]
  rw [List.all_eq_true]
  intro x hx
  unfold mapZ at hx
  obtain ⟨s, hs, rfl⟩ := List.mem_map.1 hx
  have := h s (List.mem_range.1 hs)
  unfold inB
  simp only [Bool.and_eq_true, decide_eq_true_eq]
  exact this

/-! ### Claims that are made of numbers -/
theorem claimed_made {N : Nat} (hN : 60 ≤ N) {numbers : List Int} (hb : Bytes numbers) : ∃ (k : Nat) (c : Nat → Int) (days rule u m : Int), (1 ≤ k ∧ k ≤ 9) ∧ (∀ s, s < k → 1 ≤ c s ∧ c s ≤ 250) ∧ ((k : Int) ≤ days ∧ days ≤ 120) ∧ (0 ≤ rule ∧ rule ≤ 2) ∧ law09_Claimed N ⟨numbers, 0, 0⟩ = some (mapZ k c, days, rule, u, m) := by
  obtain ⟨n, u, m, h1, h2, h3, h4⟩ := within_spec (N := N) hb (u := 0) (m := 0) (lo := 1) (hi := 9) (k := 0) ⟨by omega, by omega, by omega, by omega⟩ (by omega) (by omega) (by omega) (by omega)
  obtain ⟨s', h5, h6⟩ := loopInv (fun s5 : List Int × Int × Int × Int => law09_Claimed_b5 N ⟨numbers, 0, 0⟩ (n, u, m) s5.1 s5.2.1 s5.2.2.1 s5.2.2.2)
    (fun i s => ∃ u m, s = (s.1, (i : Int), u, m) ∧ s.1.length = i ∧ (∀ e ∈ s.1, 1 ≤ e ∧ e ≤ 250) ∧ SOk u m (1 + i)) n.toNat
    (fun i s hi hs => by
      obtain ⟨l, x, u', m'⟩ := s
      obtain ⟨u1, m1, he, hl, hal, hok⟩ := hs
      cases he
      obtain ⟨r, u2, m2, g1, g2, g3, g4⟩ := within_spec (N := N) hb (u := u') (m := m') (lo := 1) (hi := 250) (k := 1 + i) hok (by omega) (by omega) (by omega) (by omega)
      refine ⟨(l ++ [r], ((i + 1 : Nat) : Int), u2, m2), ?_, u2, m2, rfl, by simp only [List.length_append, List.length_cons, List.length_nil]; simp only at hl; omega, ?_, by rw [show 1 + (i + 1) = 1 + i + 1 by omega]; exact g4⟩
      · show law09_Claimed_b5 N ⟨numbers, 0, 0⟩ (n, u, m) l (i : Int) u' m' = _
        unfold law09_Claimed_b5
        simp only at hl
        rw [decide_eq_true (show (i : Int) < n by omega), cond_true, g1, Option.bind_some, room_ok (by simp; omega), Option.bind_some, W_succ (by omega)]
      · intro e he
        rcases List.mem_append.1 he with h | h
        · exact hal e h
        · rw [List.mem_singleton] at h
          subst h
          exact ⟨g2, g3⟩)
    (fun s hs => by
      obtain ⟨l, x, u', m'⟩ := s
      obtain ⟨u1, m1, he, hl, hal, hok⟩ := hs
      cases he
      show law09_Claimed_b5 N ⟨numbers, 0, 0⟩ (n, u, m) l ((n.toNat : Nat) : Int) u' m' = _
      unfold law09_Claimed_b5
      rw [decide_eq_false (show ¬ ((n.toNat : Nat) : Int) < n by omega), cond_false]) n.toNat 0 ([], 0, u, m) N (by omega) (by omega) ⟨u, m, rfl, rfl, (fun e he => nomatch he), h4⟩
  obtain ⟨l, x, u', m'⟩ := s'
  obtain ⟨u1, m1, he, hl, hal, hok⟩ := h6
  cases he
  simp only at hl
  obtain ⟨days, u2, m2, a1, a2, a3, a4⟩ := within_spec (N := N) hb (u := u') (m := m') (lo := (l.length : Int)) (hi := 120) (k := 1 + n.toNat) hok (by omega) (by omega) (by omega) (by omega)
  obtain ⟨rule, u3, m3, b1, b2, b3, b4⟩ := next_spec (N := N) hb (u := u2) (m := m2) (n := 3) a4 (by omega)
  refine ⟨l.length, cN l, days, rule, u3, m3, by omega, fun s hs => ?_, ⟨a2, a3⟩, by omega, ?_⟩
  · have := hal l[s] (List.getElem_mem hs)
    rw [get_getD (d := (0 : Int)) hs] at this
    exact this
  · unfold law09_Claimed
    rw [h1, Option.bind_some]
    show Option.bind (loopO _ N ([], 0, u, m)) _ = _
    rw [h5, Option.bind_some]
    show Option.bind (kit_Stream_Within N ⟨numbers, u', m'⟩ ((l.length : Nat) : Int) 120) _ = _
    rw [a1, Option.bind_some]
    show Option.bind (kit_Stream_Next N ⟨numbers, u2, m2⟩ 3) _ = _
    rw [b1, Option.bind_some, ← mapZ_self]
theorem total_spec {N : Nat} {k : Nat} {g : Nat → Int} (hk : k ≤ 12) (hN : 60 ≤ N) (h : ∀ s, s < k → 0 ≤ g s ∧ g s ≤ 1000000) : law09_total N (mapZ k g) = some (sumZ g k) := by
  have hb : ∀ i, i ≤ k → 0 ≤ sumZ g i ∧ sumZ g i ≤ 1000000 * (i : Int) := by
    intro i
    induction i with
    | zero => intro _; unfold sumZ; omega
    | succ i ih =>
      intro hi
      have := ih (by omega)
      have := h i (by omega)
      unfold sumZ
      omega
  have := runS (ρ := Int) (fun i : Nat => (sumZ g i, (i : Int))) k (fun s5 => law09_total_b5 N (mapZ k g) s5.1 s5.2) (fun i hi => by
    have h1 := hb i (by omega)
    have h2 := h i hi
    show law09_total_b5 N (mapZ k g) (sumZ g i) (i : Int) = _
    unfold law09_total_b5
    rw [mapZ_len, lt_dec hi, cond_true, mapZ_get hi, Option.bind_some, W_succ (by omega), W_id (by omega) (by omega)]
    rfl) (by
    show law09_total_b5 N (mapZ k g) _ (k : Int) = _
    unfold law09_total_b5
    rw [mapZ_len, ge_dec, cond_false]) (N := N) (by omega)
  unfold law09_total
  show Option.bind (loopO _ N (sumZ g 0, ((0 : Nat) : Int))) _ = _
  rw [this]
  rfl
end Go.Nilo
