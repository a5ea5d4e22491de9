/-
  What the plain functions compute, in plain arithmetic, part 9. Conditions: what each theorem names.
-/
import Derived.Test.YtbcaeppbfioogaaPkL8
set_option linter.unusedSimpArgs false
set_option linter.unusedVariables false
namespace Go.Nilo
theorem psum_mono {g h : Nat → Int} {a : Nat} : ∀ m, (∀ i, i < m → g (a + i) ≤ h (a + i)) → psum g a m ≤ psum h a m
  | 0, _ => Int.le_refl _
  | m + 1, hle => by
    have h1 := psum_mono m fun i hi => hle i (by omega)
    have h2 := hle m (by omega)
    show psum g a m + g (a + m) ≤ psum h a m + h (a + m)
    omega
theorem maxF_mono {g h : Nat → Int} {m : Nat} (hle : ∀ i, i ≤ m → g i ≤ h i) : maxF g m ≤ maxF h m := by
  rw [maxF_iff]
  intro k hk
  have := hle k hk
  have := le_maxF (g := h) hk
  omega
theorem mem_filt {p : Nat → Bool} {n : Nat} {d : Int} : d ∈ filt p n ↔ ∃ i : Nat, i < n ∧ p i = true ∧ d = (i : Int) := by
  unfold filt
  rw [List.mem_map]
  constructor
  · rintro ⟨i, hi, rfl⟩
    rw [List.mem_filter] at hi
    exact ⟨i, List.mem_range.1 hi.1, hi.2, rfl⟩
  · rintro ⟨i, h1, h2, rfl⟩
    exact ⟨i, List.mem_filter.2 ⟨List.mem_range.2 h1, h2⟩, rfl⟩
theorem getD_set_self {α : Type} {l : List α} {i : Nat} {v d : α} (h : i < l.length) : (l.set i v).getD i d = v := by simp [List.getD, h]
theorem getD_set_ne {α : Type} {l : List α} {i j : Nat} {v d : α} (h : i ≠ j) : (l.set i v).getD j d = l.getD j d := by simp [List.getD, List.getElem?_set_ne h]
theorem mod_lt {a : Int} {n : Nat} (ha : 0 ≤ a ∧ a ≤ 255) (hn : 1 ≤ n) : ∃ k : Nat, (W a).tmod (n : Int) = (k : Int) ∧ k < n := by
  rw [W_sm (by omega) (by omega), tmod_mod ha.1]
  have h1 := Int.emod_nonneg a (show (n : Int) ≠ 0 by omega)
  have h2 := Int.emod_lt_of_pos a (show (0 : Int) < (n : Int) by omega)
  exact ⟨(a % (n : Int)).toNat, by omega, by omega⟩
theorem fill_true {r : daily_Record} {x : List Int} (h : MOk r x) (h1 : 1 ≤ x.length) (h60 : x.length ≤ 60) : ROk r ∧ agB r = true := by
  have hr := h.ok h1 h60
  exact ⟨hr, agB_iff.2 ((h.tru h60).agree hr.rise.1 hr.fall.1)⟩
theorem fillF_ok {r : daily_Record} (hr : ROk r) (ha : agB r = true) : fillF r = (told r, 0) := by
  unfold fillF
  rw [if_pos (check_iff.2 hr), if_pos ha]
theorem volR_ok {r : daily_Record} (hr : ROk r) (ha : agB r = true) {a b : Nat} (h1 : a ≤ b) (h2 : b < r.Days.length) : volR r (a : Int) (b : Int) = (⟨psum (tG r) a (b + 1 - a), psum (tL r) a (b + 1 - a)⟩, 0) := by
  unfold volR
  rw [if_pos (check_iff.2 hr), if_pos ⟨⟨by omega, by omega⟩, by omega⟩, if_pos ha, Int.toNat_natCast, show ((b : Int) + 1 - (a : Int)).toNat = b + 1 - a by omega]
theorem peakR_ok {r : daily_Record} (hr : ROk r) (ha : agB r = true) : peakR r = (⟨pkG r, pkL r⟩, pkD r, 0) := by
  unfold peakR
  rw [if_pos (check_iff.2 hr), if_pos ha]
theorem told_getD {r : daily_Record} {i : Nat} {d : api_Span} (h : i < r.Days.length) : (told r).getD i d = ⟨tG r i, tL r i⟩ := rl_getD h

theorem Tru.congr {L H : Nat → Int} {r f : Int} {n : Nat} {x y : Nat → Int} (h : Tru L H r f n x) (he : ∀ i, i < n → x i = y i) : Tru L H r f n y := by
  refine ⟨fun i hi => ?_, fun i hi => ?_⟩
  · rw [← he i hi]
    exact h.own i hi
  · rw [← he i (by omega), ← he (i + 1) hi]
    exact h.st i hi
theorem holds_ok {r : daily_Record} (hr : ROk r) {z : Nat → Int} (hz : ∀ i, i < r.Days.length → 0 ≤ z i ∧ z i ≤ 1000000000) (ht : Tru (lo r) (hi r) r.Rise r.Fall r.Days.length z) : holdsF r (rl r.Days.length z) = (-1, 0) := by
  unfold holdsF
  rw [if_pos (check_iff.2 hr), if_pos rl_len, if_pos (rl_all.2 fun i hi => flow_iff.2 (hz i hi)), held_tru.2 (ht.congr fun i hi => (rl_getD hi).symm)]
  rfl
theorem tru_bd {r : daily_Record} (hr : ROk r) {z : Nat → Int} (ht : Tru (lo r) (hi r) r.Rise r.Fall r.Days.length z) : ∀ i, i < r.Days.length → 0 ≤ z i ∧ z i ≤ 1000000000 := fun i hi => by
  have := ht.own i hi
  have := own_bd hr i
  omega
theorem lists_spec {N : Nat} (hN : 100 ≤ N) {r : daily_Record} (h60 : r.Days.length ≤ 60) : law07_lists N (told r) = some (rl r.Days.length (tG r), rl r.Days.length (tL r)) := by
  unfold law07_lists
  have := runS (ρ := List Int × List Int) (fun i : Nat => ((rl i (tG r), rl i (tL r), (i : Int)) : List Int × List Int × Int)) r.Days.length (fun s5 => law07_lists_b5 N (told r) s5.1 s5.2.1 s5.2.2) (fun i hi => by
    show law07_lists_b5 N (told r) (rl i (tG r)) (rl i (tL r)) (i : Int) = _
    unfold law07_lists_b5
    rw [told_len, lt_dec hi, cond_true, told_get hi, Option.bind_some]
    show Option.bind (room (rl i (tG r) ++ [tG r i]).length) (fun un => Option.bind (room (rl i (tL r) ++ [tL r i]).length) _) = _
    rw [room_ok (by rw [← rl_snoc, rl_len]; omega), Option.bind_some, room_ok (by rw [← rl_snoc, rl_len]; omega), Option.bind_some, W_succ (by omega), rl_snoc, rl_snoc]) (by
    show law07_lists_b5 N (told r) _ _ (r.Days.length : Int) = _
    unfold law07_lists_b5
    rw [told_len, ge_dec, cond_false]) (N := N) (by omega)
  show Option.bind (loopO _ N (rl 0 (tG r), rl 0 (tL r), ((0 : Nat) : Int))) _ = _
  rw [this]
  rfl
theorem truth_rl {r : daily_Record} {x : List Int} (h : MOk r x) : x = rl r.Days.length fun i => x.getD i 0 := rl_of h.len
theorem agree_low {r : daily_Record} (hr : ROk r) (ha : agB r = true) : Tru (lo r) (hi r) r.Rise r.Fall r.Days.length (tG r) := (agB_iff.1 ha).low hr.rise.1 hr.fall.1
theorem agree_high {r : daily_Record} (hr : ROk r) (ha : agB r = true) : Tru (lo r) (hi r) r.Rise r.Fall r.Days.length (tL r) := (agB_iff.1 ha).high hr.rise.1 hr.fall.1
end Go.Nilo
