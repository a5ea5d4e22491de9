/-
  What the plain functions compute, in plain arithmetic, part 6. Conditions: what each theorem names.
-/
import Derived.Test.YtbcaeppbfioogaaVoL5
set_option linter.unusedSimpArgs false
set_option linter.unusedVariables false
namespace Go.Nilo
/-! ### Sums and selected days -/
def psum (g : Nat → Int) (a : Nat) : Nat → Int
  | 0 => 0
  | m + 1 => psum g a m + g (a + m)
theorem psum_bd {g : Nat → Int} {a : Nat} (h : ∀ i, 0 ≤ g i ∧ g i ≤ 1000000000) : ∀ m, 0 ≤ psum g a m ∧ psum g a m ≤ (m : Int) * 1000000000
  | 0 => ⟨Int.le_refl _, by simp [psum]⟩
  | m + 1 => by
    have h1 := psum_bd (a := a) h m
    have h2 := h (a + m)
    show 0 ≤ psum g a m + g (a + m) ∧ psum g a m + g (a + m) ≤ ((m + 1 : Nat) : Int) * 1000000000
    push_cast
    omega
def filt (p : Nat → Bool) (n : Nat) : List Int := ((List.range n).filter p).map fun (i : Nat) => (i : Int)
theorem filt_succ {p : Nat → Bool} {n : Nat} : filt p (n + 1) = if p n = true then filt p n ++ [(n : Int)] else filt p n := by
  unfold filt
  rw [List.range_succ, List.filter_append, List.map_append]
  by_cases h : p n = true
  · rw [if_pos h, List.filter_cons_of_pos h]
    rfl
  · rw [if_neg h, List.filter_cons_of_neg h]
    simp
theorem filt_len {p : Nat → Bool} {n : Nat} : (filt p n).length ≤ n := by
  unfold filt
  rw [List.length_map]
  have := List.length_filter_le p (List.range n)
  rwa [List.length_range] at this
theorem filt_congr {p q : Nat → Bool} {n : Nat} (h : ∀ i, i < n → p i = q i) : filt p n = filt q n := by
  unfold filt
  rw [List.filter_congr fun i hi => h i (List.mem_range.1 hi)]
theorem ends_lo {N : Nat} {l : List api_Span} (hl : l.length ≤ 70) (hN : 100 ≤ N) : daily_ends N l = some (l.map (·.Lo)) := by
  unfold daily_ends
  have := runS (ρ := List Int) (fun i : Nat => (((l.take i).map (·.Lo), (i : Int)) : List Int × Int)) l.length (fun s5 => daily_ends_b5 N l s5.1 s5.2) (fun i hi => by
    show daily_ends_b5 N l ((l.take i).map (·.Lo)) (i : Int) = _
    unfold daily_ends_b5 daily_both_1
    rw [lt_dec hi, cond_true, getI_d sp0 hi, Option.bind_some, room_ok (by simp; omega), Option.bind_some, W_succ (by omega), take_map_succ (d := sp0) hi]) (by
    show daily_ends_b5 N l _ (l.length : Int) = _
    unfold daily_ends_b5
    rw [ge_dec, cond_false]) (N := N) (by omega)
  show Option.bind (loopO _ N (((l.take 0).map (·.Lo)), ((0 : Nat) : Int))) _ = _
  rw [this, Option.bind_some, List.take_length]
  rfl
theorem ends_hi {N : Nat} {l : List api_Span} (hl : l.length ≤ 70) (hN : 100 ≤ N) : daily_ends_s2 N l = some (l.map (·.Hi)) := by
  unfold daily_ends_s2
  have := runS (ρ := List Int) (fun i : Nat => (((l.take i).map (·.Hi), (i : Int)) : List Int × Int)) l.length (fun s5 => daily_ends_s2_b5 N l s5.1 s5.2) (fun i hi => by
    show daily_ends_s2_b5 N l ((l.take i).map (·.Hi)) (i : Int) = _
    unfold daily_ends_s2_b5 daily_both_2
    rw [lt_dec hi, cond_true, getI_d sp0 hi, Option.bind_some, room_ok (by simp; omega), Option.bind_some, W_succ (by omega), take_map_succ (d := sp0) hi]) (by
    show daily_ends_s2_b5 N l _ (l.length : Int) = _
    unfold daily_ends_s2_b5
    rw [ge_dec, cond_false]) (N := N) (by omega)
  show Option.bind (loopO _ N (((l.take 0).map (·.Hi)), ((0 : Nat) : Int))) _ = _
  rw [this, Option.bind_some, List.take_length]
  rfl
theorem rl_map {α β : Type} {n : Nat} {g : Nat → α} {f : α → β} : (rl n g).map f = rl n fun i => f (g i) := by
  unfold rl
  rw [List.map_map]
  rfl
theorem sum_rl {N : Nat} (hN : 100 ≤ N) {g : Nat → Int} (h : ∀ i, 0 ≤ g i ∧ g i ≤ 1000000000) {a m : Nat} (hm : m ≤ 70) : daily_sum N (rl m fun i => g (a + i)) = some (psum g a m) := by
  unfold daily_sum
  have := runS (ρ := Int) (fun i : Nat => ((psum g a i, (i : Int)) : Int × Int)) m (fun s5 => daily_sum_b5 N (rl m fun i => g (a + i)) s5.1 s5.2) (fun i hi => by
    show daily_sum_b5 N (rl m fun i => g (a + i)) (psum g a i) (i : Int) = _
    unfold daily_sum_b5
    have h1 := psum_bd (a := a) h i
    have h2 := h (a + i)
    rw [rl_len, lt_dec hi, cond_true, rl_get hi, Option.bind_some, W_succ (by omega), W_sm (by omega) (by omega)]
    rfl) (by
    show daily_sum_b5 N (rl m fun i => g (a + i)) _ (m : Int) = _
    unfold daily_sum_b5
    rw [rl_len, ge_dec, cond_false]) (N := N) (by omega)
  show Option.bind (loopO _ N (psum g a 0, ((0 : Nat) : Int))) _ = _
  rw [this, Option.bind_some]
  rfl
theorem max_rl {N : Nat} (hN : 100 ≤ N) {g : Nat → Int} {n : Nat} (h1 : 1 ≤ n) (hm : n ≤ 70) : slices_Max_Lint_int N (rl n g) = some (maxF g (n - 1)) := by
  unfold slices_Max_Lint_int
  have := runS (ρ := Int) (fun i : Nat => ((maxF g i, ((i + 1 : Nat) : Int)) : Int × Int)) (n - 1) (fun s7 => slices_Max_Lint_int_b7 N (rl n g) s7.1 s7.2) (fun i hi => by
    show slices_Max_Lint_int_b7 N (rl n g) (maxF g i) ((i + 1 : Nat) : Int) = _
    unfold slices_Max_Lint_int_b7
    rw [rl_len, lt_dec (by omega), cond_true, rl_get (by omega), Option.bind_some, W_succ (by omega)]
    rfl) (by
    show slices_Max_Lint_int_b7 N (rl n g) _ ((n - 1 + 1 : Nat) : Int) = _
    unfold slices_Max_Lint_int_b7
    rw [rl_len, show n - 1 + 1 = n by omega, ge_dec, cond_false]) (N := N) (by omega)
  have e : getI (rl n g) 0 = some (g 0) := rl_get (i := 0) (by omega)
  rw [rl_len, dF (by omega), cond_false, e, Option.bind_some]
  show Option.bind (loopO _ N (maxF g 0, ((0 + 1 : Nat) : Int))) _ = _
  rw [this, Option.bind_some]
  rfl
/-! ### Volumes -/
def volR (r : daily_Record) (a b : Int) : api_Span × Int :=
  if checkD r = 0 then (if (0 ≤ a ∧ a ≤ b) ∧ b < (r.Days.length : Int) then (if agB r = true then (⟨psum (tG r) a.toNat (b + 1 - a).toNat, psum (tL r) a.toNat (b + 1 - a).toNat⟩, 0) else (⟨0, 0⟩, 7)) else (⟨0, 0⟩, 2)) else (⟨0, 0⟩, checkD r)
theorem tG_bd {r : daily_Record} (hr : ROk r) : ∀ i, 0 ≤ tG r i ∧ tG r i ≤ 1000000000 := fun i => (told_bd hr i).1
theorem tL_bd {r : daily_Record} (hr : ROk r) : ∀ i, 0 ≤ tL r i ∧ tL r i ≤ 1000000000 := fun i => (told_bd hr i).2
theorem sub_told {r : daily_Record} {a b : Nat} (h1 : a ≤ b) (h2 : b < r.Days.length) : subO (told r) (a : Int) ((b + 1 : Nat) : Int) = some (rl (b + 1 - a) fun i => ⟨tG r (a + i), tL r (a + i)⟩) := by
  unfold subO
  rw [if_pos (by rw [told_len]; omega)]
  congr 1
  refine List.ext_getElem ?_ fun m k1 k2 => ?_
  · rw [rl_len, List.length_take, List.length_drop, told_len]
    omega
  · simp [told, rl]
theorem Volume_spec {N : Nat} (hN : 100 ≤ N) {r : daily_Record} {a b : Int} (h1 : r.Days.length ≤ 70) : daily_Volume N r a b = some (volR r a b) := by
  unfold daily_Volume volR
  rw [Check_spec hN h1, Option.bind_some]
  by_cases hc : checkD r = 0
  · rw [if_pos hc, hc, show ((0 : Int) != 0) = false from rfl, cond_false, in_dec]
    have hr := check_iff.1 hc
    have h60 := hr.n60
    by_cases h : (0 ≤ a ∧ a ≤ b) ∧ b < (r.Days.length : Int)
    · obtain ⟨A, rfl⟩ := Int.eq_ofNat_of_zero_le h.1.1
      obtain ⟨B, rfl⟩ := Int.eq_ofNat_of_zero_le (show 0 ≤ b by omega)
      rw [if_pos h, not_dec' h.1, dF (by omega), Bool.or_false, cond_false, agreed_ok hN hr, Option.bind_some]
      show cond ((if agB r = true then (0 : Int) else 7) != 0) _ _ = _
      cases hag : agB r with
      | false => rfl
      | true =>
        rw [if_pos rfl, if_pos rfl, show ((0 : Int) != 0) = false from rfl, cond_false, W_sm (n := (B : Int) + 1) (by omega) (by omega)]
        show Option.bind (subO (told r) (A : Int) ((B + 1 : Nat) : Int)) _ = _
        rw [sub_told (by omega) (by omega), Option.bind_some, ends_lo (by rw [rl_len]; omega) hN, Option.bind_some, rl_map, sum_rl hN (tG_bd hr) (by omega), Option.bind_some, ends_hi (by rw [rl_len]; omega) hN, Option.bind_some, rl_map, sum_rl hN (tL_bd hr) (by omega), Option.bind_some]
        rw [show ((B : Int) + 1 - (A : Int)).toNat = B + 1 - A by omega, Int.toNat_natCast]
    · rw [if_neg h]
      have : (!decide (0 ≤ a ∧ a ≤ b) || decide ((r.Days.length : Int) ≤ b)) = true := by
        rw [Bool.or_eq_true, Bool.not_eq_true', decide_eq_false_iff_not, decide_eq_true_eq]
        omega
      rw [this]
      rfl
  · rw [if_neg hc]
    have : (checkD r != 0) = true := by simp [hc]
    rw [this]
    rfl
theorem told_get {r : daily_Record} {i : Nat} (h : i < r.Days.length) : getI (told r) (i : Int) = some ⟨tG r i, tL r i⟩ := rl_get h
theorem ref_volume {N : Nat} (hN : 100 ≤ N) {r : daily_Record} {a b : Int} (h1 : r.Days.length ≤ 70) : ref07_Volume N (toR r) a b = some (volR r a b) := by
  unfold ref07_Volume volR
  rw [ref_check hN h1, Option.bind_some]
  have hL : (toR r).Days.length = r.Days.length := by simp [toR]
  by_cases hc : checkD r = 0
  · rw [if_pos hc, hc, show ((0 : Int) != 0) = false from rfl, cond_false, out_not, out_not, hL, W_sm (n := (r.Days.length : Int) - 1) (by omega) (by omega)]
    have hr := check_iff.1 hc
    have h60 := hr.n60
    by_cases h : (0 ≤ a ∧ a ≤ b) ∧ b < (r.Days.length : Int)
    · obtain ⟨A, rfl⟩ := Int.eq_ofNat_of_zero_le h.1.1
      obtain ⟨B, rfl⟩ := Int.eq_ofNat_of_zero_le (show 0 ≤ b by omega)
      rw [if_pos h, not_dec' (by omega), not_dec' (by omega), Bool.or_false, cond_false, ref_fill hN h1, Option.bind_some]
      unfold fillF
      rw [if_pos hc]
      cases hag : agB r with
      | false => rfl
      | true =>
        rw [if_pos rfl, if_pos rfl]
        have := runS (ρ := api_Span × Int) (fun m : Nat => (((A + m : Nat) : Int), psum (tG r) A m, psum (tL r) A m)) (B + 1 - A) (fun s16 => ref07_Volume_b16 N (B : Int) (told r, 0) s16.1 s16.2.1 s16.2.2) (fun m hm => by
          show ref07_Volume_b16 N (B : Int) (told r, 0) ((A + m : Nat) : Int) (psum (tG r) A m) (psum (tL r) A m) = _
          unfold ref07_Volume_b16
          have k1 := psum_bd (a := A) (tG_bd hr) m
          have k2 := psum_bd (a := A) (tL_bd hr) m
          have k3 := tG_bd hr (A + m)
          have k4 := tL_bd hr (A + m)
          rw [dT (by omega), cond_true]
          show Option.bind (getI (told r) ((A + m : Nat) : Int)) _ = _
          rw [told_get (by omega), Option.bind_some, Option.bind_some, W_succ (by omega), W_sm (n := psum (tG r) A m + tG r (A + m)) (by omega) (by omega), W_sm (n := psum (tL r) A m + tL r (A + m)) (by omega) (by omega)]
          rfl) (by
          show ref07_Volume_b16 N (B : Int) (told r, 0) ((A + (B + 1 - A) : Nat) : Int) _ _ = _
          unfold ref07_Volume_b16
          rw [dF (by omega), cond_false]) (N := N) (by omega)
        show Option.bind (loopO (fun s16 => ref07_Volume_b16 N (B : Int) (told r, 0) s16.1 s16.2.1 s16.2.2) N (((A + 0 : Nat) : Int), psum (tG r) A 0, psum (tL r) A 0)) _ = _
        rw [this, Option.bind_some]
        rw [show ((B : Int) + 1 - (A : Int)).toNat = B + 1 - A by omega, Int.toNat_natCast]
        rfl
    · rw [if_neg h]
      have : (!decide (0 ≤ a ∧ a ≤ (r.Days.length : Int) - 1) || !decide (a ≤ b ∧ b ≤ (r.Days.length : Int) - 1)) = true := by
        rw [Bool.or_eq_true, Bool.not_eq_true', Bool.not_eq_true', decide_eq_false_iff_not, decide_eq_false_iff_not]
        omega
      rw [this]
      rfl
  · rw [if_neg hc]
    have : (checkD r != 0) = true := by simp [hc]
    rw [this]
    rfl
/-! ### The peak -/
def pkG (r : daily_Record) : Int := maxF (tG r) (r.Days.length - 1)
def pkL (r : daily_Record) : Int := maxF (tL r) (r.Days.length - 1)
def pkD (r : daily_Record) : List Int := filt (fun i => decide (pkG r ≤ tL r i)) r.Days.length
def peakR (r : daily_Record) : api_Span × List Int × Int := if checkD r = 0 then (if agB r = true then (⟨pkG r, pkL r⟩, pkD r, 0) else (⟨0, 0⟩, [], 7)) else (⟨0, 0⟩, [], checkD r)
theorem Peak_spec {N : Nat} (hN : 100 ≤ N) {r : daily_Record} (h1 : r.Days.length ≤ 70) : daily_Peak N r = some (peakR r) := by
  unfold daily_Peak peakR
  by_cases hc : checkD r = 0
  · have hr := check_iff.1 hc
    have h60 := hr.n60
    rw [if_pos hc, agreed_ok hN hr, Option.bind_some]
    show cond ((if agB r = true then (0 : Int) else 7) != 0) _ _ = _
    cases hag : agB r with
    | false => rfl
    | true =>
      rw [if_pos rfl, if_pos rfl, show ((0 : Int) != 0) = false from rfl, cond_false]
      show Option.bind (daily_ends N (told r)) _ = _
      rw [ends_lo (by rw [told_len]; omega) hN, Option.bind_some]
      show Option.bind (slices_Max_Lint_int N ((told r).map (·.Lo))) (fun r_3 => Option.bind (daily_ends_s2 N (told r)) _) = _
      have em : ∀ f : api_Span → Int, (told r).map f = rl r.Days.length fun i => f ⟨tG r i, tL r i⟩ := fun f => rl_map
      rw [em, max_rl hN hr.n1 (by omega), Option.bind_some, ends_hi (by rw [told_len]; omega) hN, Option.bind_some, em, max_rl hN hr.n1 (by omega), Option.bind_some]
      have := runS (ρ := api_Span × List Int × Int) (fun i : Nat => (filt (fun i => decide (pkG r ≤ tL r i)) i, (i : Int))) r.Days.length (fun s16 => daily_Peak_b16 N (r.Rise, r.Fall, told r, 0) (pkG r) s16.1 s16.2) (fun i hi => by
        show daily_Peak_b16 N (r.Rise, r.Fall, told r, 0) (pkG r) (filt (fun i => decide (pkG r ≤ tL r i)) i) (i : Int) = _
        have hl := filt_len (p := fun i => decide (pkG r ≤ tL r i)) (n := i)
        unfold daily_Peak_b16 daily_Peak_j20
        show cond (decide ((i : Int) < ((told r).length : Int))) (Option.bind (getI (told r) (i : Int)) _) _ = _
        rw [told_len, lt_dec hi, cond_true, told_get hi, Option.bind_some, W_succ (by omega), filt_succ]
        show cond (decide (pkG r ≤ tL r i)) _ _ = _
        cases decide (pkG r ≤ tL r i) with
        | true =>
          rw [cond_true, room_ok (by simp; omega), Option.bind_some, if_pos rfl]
        | false =>
          rw [cond_false, if_neg (by simp)]) (by
        show daily_Peak_b16 N (r.Rise, r.Fall, told r, 0) (pkG r) _ (r.Days.length : Int) = _
        unfold daily_Peak_b16
        show cond (decide ((r.Days.length : Int) < ((told r).length : Int))) _ _ = _
        rw [told_len, ge_dec, cond_false]) (N := N) (by omega)
      show Option.bind (loopO (fun s16 => daily_Peak_b16 N (r.Rise, r.Fall, told r, 0) (pkG r) s16.1 s16.2) N (filt (fun i => decide (pkG r ≤ tL r i)) 0, ((0 : Nat) : Int))) _ = _
      rw [this, Option.bind_some]
      rfl
  · rw [if_neg hc, agreed_bad hN h1 hc, Option.bind_some]
    show cond (checkD r != 0) _ _ = _
    have : (checkD r != 0) = true := by simp [hc]
    rw [this]
    rfl
theorem ref_peak {N : Nat} (hN : 100 ≤ N) {r : daily_Record} (h1 : r.Days.length ≤ 70) : ref07_Peak N (toR r) = some (peakR r) := by
  unfold ref07_Peak peakR
  rw [ref_fill hN h1, Option.bind_some]
  unfold fillF
  by_cases hc : checkD r = 0
  · have hr := check_iff.1 hc
    have h60 := hr.n60
    rw [if_pos hc, if_pos hc]
    cases hag : agB r with
    | false => rfl
    | true =>
      rw [if_pos rfl, if_pos rfl]
      show Option.bind (getI (told r) ((0 : Nat) : Int)) _ = _
      rw [told_get (show 0 < r.Days.length from hr.n1), Option.bind_some]
      have l1 := runS (ρ := api_Span × List Int × Int) (fun i : Nat => (((i + 1 : Nat) : Int), maxF (tG r) i, maxF (tL r) i)) (r.Days.length - 1) (fun s9 => ref07_Peak_b9 N (told r, 0) s9.1 s9.2.1 s9.2.2) (fun i hi => by
        show ref07_Peak_b9 N (told r, 0) ((i + 1 : Nat) : Int) (maxF (tG r) i) (maxF (tL r) i) = _
        unfold ref07_Peak_b9
        show cond (decide (((i + 1 : Nat) : Int) < ((told r).length : Int))) (Option.bind (getI (told r) ((i + 1 : Nat) : Int)) _) _ = _
        rw [told_len, lt_dec (show i + 1 < r.Days.length by omega), cond_true, told_get (by omega), Option.bind_some, Option.bind_some, W_succ (by omega)]
        rfl) (by
        show ref07_Peak_b9 N (told r, 0) ((r.Days.length - 1 + 1 : Nat) : Int) _ _ = _
        unfold ref07_Peak_b9
        show cond (decide (((r.Days.length - 1 + 1 : Nat) : Int) < ((told r).length : Int))) _ _ = _
        have := hr.n1
        rw [told_len, dF (by omega), cond_false]) (N := N) (by omega)
      show Option.bind (loopO (fun s9 => ref07_Peak_b9 N (told r, 0) s9.1 s9.2.1 s9.2.2) N (((0 + 1 : Nat) : Int), maxF (tG r) 0, maxF (tL r) 0)) _ = _
      rw [l1, Option.bind_some]
      have inner : ∀ d, d < r.Days.length → loopO (fun s21 => ref07_Peak_b21 N (told r, 0) (d : Int) s21.1 s21.2) N (true, 0) = some (.go ((List.range r.Days.length).all (fun k => decide (tG r k ≤ tL r d)), (r.Days.length : Int))) := fun d hd => by
        have := runS (ρ := Step (List Int × Int) (api_Span × List Int × Int)) (fun k : Nat => ((List.range k).all (fun k => decide (tG r k ≤ tL r d)), (k : Int))) r.Days.length (fun s21 => ref07_Peak_b21 N (told r, 0) (d : Int) s21.1 s21.2) (fun k hk => by
          show ref07_Peak_b21 N (told r, 0) (d : Int) ((List.range k).all (fun k => decide (tG r k ≤ tL r d))) (k : Int) = _
          unfold ref07_Peak_b21
          show cond (decide ((k : Int) < ((told r).length : Int))) (Option.bind (cond _ (Option.bind (getI (told r) (k : Int)) fun e_2 => Option.bind (getI (told r) (d : Int)) _) _) _) _ = _
          rw [told_len, lt_dec hk, cond_true, told_get hk, Option.bind_some, told_get hd, Option.bind_some, W_succ (by omega), List.range_succ, List.all_append]
          cases (List.range k).all (fun k => decide (tG r k ≤ tL r d)) with
          | false => rfl
          | true => simp) (by
          show ref07_Peak_b21 N (told r, 0) (d : Int) _ (r.Days.length : Int) = _
          unfold ref07_Peak_b21
          show cond (decide ((r.Days.length : Int) < ((told r).length : Int))) _ _ = _
          rw [told_len, ge_dec, cond_false]) (N := N) (by omega)
        exact this
      have l2 := runS (ρ := api_Span × List Int × Int) (fun i : Nat => (filt (fun d => (List.range r.Days.length).all (fun k => decide (tG r k ≤ tL r d))) i, (i : Int))) r.Days.length (fun s13 => ref07_Peak_b13 N (told r, 0) s13.1 s13.2) (fun i hi => by
        show ref07_Peak_b13 N (told r, 0) (filt (fun d => (List.range r.Days.length).all (fun k => decide (tG r k ≤ tL r d))) i) (i : Int) = _
        have hl := filt_len (p := fun d => (List.range r.Days.length).all (fun k => decide (tG r k ≤ tL r d))) (n := i)
        unfold ref07_Peak_b13 ref07_Peak_j17
        show cond (decide ((i : Int) < ((told r).length : Int))) _ _ = _
        rw [told_len, lt_dec hi, cond_true, inner i hi, Option.bind_some, W_succ (by omega), filt_succ]
        show cond ((List.range r.Days.length).all (fun k => decide (tG r k ≤ tL r i))) _ _ = _
        cases (List.range r.Days.length).all (fun k => decide (tG r k ≤ tL r i)) with
        | true =>
          rw [cond_true, room_ok (by simp; omega), Option.bind_some, if_pos rfl]
        | false =>
          rw [cond_false, if_neg (by simp)]) (by
        show ref07_Peak_b13 N (told r, 0) _ (r.Days.length : Int) = _
        unfold ref07_Peak_b13
        show cond (decide ((r.Days.length : Int) < ((told r).length : Int))) _ _ = _
        rw [told_len, ge_dec, cond_false]) (N := N) (by omega)
      show Option.bind (loopO (fun s13 => ref07_Peak_b13 N (told r, 0) s13.1 s13.2) N (filt (fun d => (List.range r.Days.length).all (fun k => decide (tG r k ≤ tL r d))) 0, ((0 : Nat) : Int))) _ = _
      rw [l2, Option.bind_some]
      have e : filt (fun d => (List.range r.Days.length).all (fun k => decide (tG r k ≤ tL r d))) r.Days.length = pkD r := by
        unfold pkD
        refine filt_congr fun i hi => ?_
        rw [Bool.eq_iff_iff, List.all_eq_true, decide_eq_true_eq]
        unfold pkG
        rw [maxF_iff]
        constructor
        · intro h k hk
          exact of_decide_eq_true (h k (List.mem_range.2 (by have := hr.n1; omega)))
        · intro h k hk
          exact dT (h k (by have := List.mem_range.1 hk; omega))
      show some ((⟨maxF (tG r) (r.Days.length - 1), maxF (tL r) (r.Days.length - 1)⟩ : api_Span), filt (fun d => (List.range r.Days.length).all (fun k => decide (tG r k ≤ tL r d))) r.Days.length, (0 : Int)) = _
      rw [e]
      rfl
  · rw [if_neg hc, if_neg hc]
    show cond (checkD r != 0) _ _ = _
    have : (checkD r != 0) = true := by simp [hc]
    rw [this]
    rfl
end Go.Nilo
