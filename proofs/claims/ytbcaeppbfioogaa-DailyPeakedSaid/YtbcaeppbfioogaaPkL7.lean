/-
  What the plain functions compute, in plain arithmetic, part 7. Conditions: what each theorem names.
-/
import Derived.Test.YtbcaeppbfioogaaPkL6
set_option linter.unusedSimpArgs false
set_option linter.unusedVariables false
namespace Go.Nilo
theorem told_len {r : daily_Record} : (told r).length = r.Days.length := rl_len

theorem same_int {N : Nat} {l : List Int} (hl : l.length ≤ 1000) (hN : l.length < N) : kit_Same_int N l l = some true := by
  unfold kit_Same_int
  rw [bne_self_eq_false, cond_false, sameLoop l (by omega) _ (fun i hi => by
    show kit_Same_int_b7 N l l (i : Int) = _
    unfold kit_Same_int_b7
    rw [lt_dec hi, cond_true, getI_d 0 hi, Option.bind_some, Option.bind_some, bne_self_eq_false, cond_false, W_succ (by omega)]) (by
    show kit_Same_int_b7 N l l _ = _
    unfold kit_Same_int_b7
    rw [ge_dec, cond_false]) hN]
  rfl
/-! ### Sums and selected days -/
def psum (g : Nat → Int) (a : Nat) : Nat → Int
  | 0 => 0
  | m + 1 => psum g a m + g (a + m)
theorem psum_bd {g : Nat → Int} {a : Nat} (h : ∀ i, 0 ≤ g i ∧ g i ≤ 1000000000) : ∀ m, 0 ≤ psum g a m ∧ psum g a m ≤ (m : Int) * 1000000000
  | 0 => ⟨Int.le_refl _, by simp [psum]⟩
  | m + 1 => by
    have h1 := psum_bd (a := a) h m
    have h2 := h (a + m)
    show 0 ≤ psum g a m + g (a + m) ∧ psum g a m + g (a + m) ≤ ((m + 1 : Nat) : Int) * 1000000000
    push_cast
    omega
def filt (p : Nat → Bool) (n : Nat) : List Int := ((List.range n).filter p).map fun (i : Nat) => (i : Int)
theorem filt_succ {p : Nat → Bool} {n : Nat} : filt p (n + 1) = if p n = true then filt p n ++ [(n : Int)] else filt p n := by
  unfold filt
  rw [List.range_succ, List.filter_append, List.map_append]
  by_cases h : p n = true
  · rw [if_pos h, List.filter_cons_of_pos h]
    rfl
  · rw [if_neg h, List.filter_cons_of_neg h]
    simp
theorem filt_len {p : Nat → Bool} {n : Nat} : (filt p n).length ≤ n := by
  unfold filt
  rw [List.length_map]
  have := List.length_filter_le p (List.range n)
  rwa [List.length_range] at this
theorem filt_congr {p q : Nat → Bool} {n : Nat} (h : ∀ i, i < n → p i = q i) : filt p n = filt q n := by
  unfold filt
  rw [List.filter_congr fun i hi => h i (List.mem_range.1 hi)]
theorem ends_lo {N : Nat} {l : List api_Span} (hl : l.length ≤ 70) (hN : 100 ≤ N) : daily_ends N l = some (l.map (·.Lo)) := by
  unfold daily_ends
  have := runS (ρ := List Int) (fun i : Nat => (((l.take i).map (·.Lo), (i : Int)) : List Int × Int)) l.length (fun s5 => daily_ends_b5 N l s5.1 s5.2) (fun i hi => by
    show daily_ends_b5 N l ((l.take i).map (·.Lo)) (i : Int) = _
    unfold daily_ends_b5 daily_both_1
    rw [lt_dec hi, cond_true, getI_d sp0 hi, Option.bind_some, room_ok (by simp; omega), Option.bind_some, W_succ (by omega), take_map_succ (d := sp0) hi]) (by
    show daily_ends_b5 N l _ (l.length : Int) = _
    unfold daily_ends_b5
    rw [ge_dec, cond_false]) (N := N) (by omega)
  show Option.bind (loopO _ N (((l.take 0).map (·.Lo)), ((0 : Nat) : Int))) _ = _
  rw [this, Option.bind_some, List.take_length]
  rfl
theorem ends_hi {N : Nat} {l : List api_Span} (hl : l.length ≤ 70) (hN : 100 ≤ N) : daily_ends_s2 N l = some (l.map (·.Hi)) := by
  unfold daily_ends_s2
  have := runS (ρ := List Int) (fun i : Nat => (((l.take i).map (·.Hi), (i : Int)) : List Int × Int)) l.length (fun s5 => daily_ends_s2_b5 N l s5.1 s5.2) (fun i hi => by
    show daily_ends_s2_b5 N l ((l.take i).map (·.Hi)) (i : Int) = _
    unfold daily_ends_s2_b5 daily_both_2
    rw [lt_dec hi, cond_true, getI_d sp0 hi, Option.bind_some, room_ok (by simp; omega), Option.bind_some, W_succ (by omega), take_map_succ (d := sp0) hi]) (by
    show daily_ends_s2_b5 N l _ (l.length : Int) = _
    unfold daily_ends_s2_b5
    rw [ge_dec, cond_false]) (N := N) (by omega)
  show Option.bind (loopO _ N (((l.take 0).map (·.Hi)), ((0 : Nat) : Int))) _ = _
  rw [this, Option.bind_some, List.take_length]
  rfl
theorem rl_map {α β : Type} {n : Nat} {g : Nat → α} {f : α → β} : (rl n g).map f = rl n fun i => f (g i) := by
  unfold rl
  rw [List.map_map]
  rfl
theorem sum_rl {N : Nat} (hN : 100 ≤ N) {g : Nat → Int} (h : ∀ i, 0 ≤ g i ∧ g i ≤ 1000000000) {a m : Nat} (hm : m ≤ 70) : daily_sum N (rl m fun i => g (a + i)) = some (psum g a m) := by
  unfold daily_sum
  have := runS (ρ := Int) (fun i : Nat => ((psum g a i, (i : Int)) : Int × Int)) m (fun s5 => daily_sum_b5 N (rl m fun i => g (a + i)) s5.1 s5.2) (fun i hi => by
    show daily_sum_b5 N (rl m fun i => g (a + i)) (psum g a i) (i : Int) = _
    unfold daily_sum_b5
    have h1 := psum_bd (a := a) h i
    have h2 := h (a + i)
    rw [rl_len, lt_dec hi, cond_true, rl_get hi, Option.bind_some, W_succ (by omega), W_sm (by omega) (by omega)]
    rfl) (by
    show daily_sum_b5 N (rl m fun i => g (a + i)) _ (m : Int) = _
    unfold daily_sum_b5
    rw [rl_len, ge_dec, cond_false]) (N := N) (by omega)
  show Option.bind (loopO _ N (psum g a 0, ((0 : Nat) : Int))) _ = _
  rw [this, Option.bind_some]
  rfl
theorem max_rl {N : Nat} (hN : 100 ≤ N) {g : Nat → Int} {n : Nat} (h1 : 1 ≤ n) (hm : n ≤ 70) : slices_Max_Lint_int N (rl n g) = some (maxF g (n - 1)) := by
  unfold slices_Max_Lint_int
  have := runS (ρ := Int) (fun i : Nat => ((maxF g i, ((i + 1 : Nat) : Int)) : Int × Int)) (n - 1) (fun s7 => slices_Max_Lint_int_b7 N (rl n g) s7.1 s7.2) (fun i hi => by
    show slices_Max_Lint_int_b7 N (rl n g) (maxF g i) ((i + 1 : Nat) : Int) = _
    unfold slices_Max_Lint_int_b7
    rw [rl_len, lt_dec (by omega), cond_true, rl_get (by omega), Option.bind_some, W_succ (by omega)]
    rfl) (by
    show slices_Max_Lint_int_b7 N (rl n g) _ ((n - 1 + 1 : Nat) : Int) = _
    unfold slices_Max_Lint_int_b7
    rw [rl_len, show n - 1 + 1 = n by omega, ge_dec, cond_false]) (N := N) (by omega)
  have e : getI (rl n g) 0 = some (g 0) := rl_get (i := 0) (by omega)
  rw [rl_len, dF (by omega), cond_false, e, Option.bind_some]
  show Option.bind (loopO _ N (maxF g 0, ((0 + 1 : Nat) : Int))) _ = _
  rw [this, Option.bind_some]
  rfl
/-! ### Volumes -/
def volR (r : daily_Record) (a b : Int) : api_Span × Int :=
  if checkD r = 0 then (if (0 ≤ a ∧ a ≤ b) ∧ b < (r.Days.length : Int) then (if agB r = true then (⟨psum (tG r) a.toNat (b + 1 - a).toNat, psum (tL r) a.toNat (b + 1 - a).toNat⟩, 0) else (⟨0, 0⟩, 7)) else (⟨0, 0⟩, 2)) else (⟨0, 0⟩, checkD r)
theorem tG_bd {r : daily_Record} (hr : ROk r) : ∀ i, 0 ≤ tG r i ∧ tG r i ≤ 1000000000 := fun i => (told_bd hr i).1
theorem tL_bd {r : daily_Record} (hr : ROk r) : ∀ i, 0 ≤ tL r i ∧ tL r i ≤ 1000000000 := fun i => (told_bd hr i).2
theorem sub_told {r : daily_Record} {a b : Nat} (h1 : a ≤ b) (h2 : b < r.Days.length) : subO (told r) (a : Int) ((b + 1 : Nat) : Int) = some (rl (b + 1 - a) fun i => ⟨tG r (a + i), tL r (a + i)⟩) := by
  unfold subO
  rw [if_pos (by rw [told_len]; omega)]
  congr 1
  refine List.ext_getElem ?_ fun m k1 k2 => ?_
  · rw [rl_len, List.length_take, List.length_drop, told_len]
    omega
  · simp [told, rl]
theorem Volume_spec {N : Nat} (hN : 100 ≤ N) {r : daily_Record} {a b : Int} (h1 : r.Days.length ≤ 70) : daily_Volume N r a b = some (volR r a b) := by
  unfold daily_Volume volR
  rw [Check_spec hN h1, Option.bind_some]
  by_cases hc : checkD r = 0
  · rw [if_pos hc, hc, show ((0 : Int) != 0) = false from rfl, cond_false, in_dec]
    have hr := check_iff.1 hc
    have h60 := hr.n60
    by_cases h : (0 ≤ a ∧ a ≤ b) ∧ b < (r.Days.length : Int)
    · obtain ⟨A, rfl⟩ := Int.eq_ofNat_of_zero_le h.1.1
      obtain ⟨B, rfl⟩ := Int.eq_ofNat_of_zero_le (show 0 ≤ b by omega)
      rw [if_pos h, not_dec' h.1, dF (by omega), Bool.or_false, cond_false, agreed_ok hN hr, Option.bind_some]
      show cond ((if agB r = true then (0 : Int) else 7) != 0) _ _ = _
      cases hag : agB r with
      | false => rfl
      | true =>
        rw [if_pos rfl, if_pos rfl, show ((0 : Int) != 0) = false from rfl, cond_false, W_sm (n := (B : Int) + 1) (by omega) (by omega)]
        show Option.bind (subO (told r) (A : Int) ((B + 1 : Nat) : Int)) _ = _
        rw [sub_told (by omega) (by omega), Option.bind_some, ends_lo (by rw [rl_len]; omega) hN, Option.bind_some, rl_map, sum_rl hN (tG_bd hr) (by omega), Option.bind_some, ends_hi (by rw [rl_len]; omega) hN, Option.bind_some, rl_map, sum_rl hN (tL_bd hr) (by omega), Option.bind_some]
        rw [show ((B : Int) + 1 - (A : Int)).toNat = B + 1 - A by omega, Int.toNat_natCast]
    · rw [if_neg h]
      have : (!decide (0 ≤ a ∧ a ≤ b) || decide ((r.Days.length : Int) ≤ b)) = true := by
        rw [Bool.or_eq_true, Bool.not_eq_true', decide_eq_false_iff_not, decide_eq_true_eq]
        omega
      rw [this]
      rfl
  · rw [if_neg hc]
    have : (checkD r != 0) = true := by simp [hc]
    rw [this]
    rfl
theorem told_get {r : daily_Record} {i : Nat} (h : i < r.Days.length) : getI (told r) (i : Int) = some ⟨tG r i, tL r i⟩ := rl_get h

/-! ### The peak -/
def pkG (r : daily_Record) : Int := maxF (tG r) (r.Days.length - 1)
def pkL (r : daily_Record) : Int := maxF (tL r) (r.Days.length - 1)
def pkD (r : daily_Record) : List Int := filt (fun i => decide (pkG r ≤ tL r i)) r.Days.length
def peakR (r : daily_Record) : api_Span × List Int × Int := if checkD r = 0 then (if agB r = true then (⟨pkG r, pkL r⟩, pkD r, 0) else (⟨0, 0⟩, [], 7)) else (⟨0, 0⟩, [], checkD r)
theorem Peak_spec {N : Nat} (hN : 100 ≤ N) {r : daily_Record} (h1 : r.Days.length ≤ 70) : daily_Peak N r = some (peakR r) := by
  unfold daily_Peak peakR
  by_cases hc : checkD r = 0
  · have hr := check_iff.1 hc
    have h60 := hr.n60
    rw [if_pos hc, agreed_ok hN hr, Option.bind_some]
    show cond ((if agB r = true then (0 : Int) else 7) != 0) _ _ = _
    cases hag : agB r with
    | false => rfl
    | true =>
      rw [if_pos rfl, if_pos rfl, show ((0 : Int) != 0) = false from rfl, cond_false]
      show Option.bind (daily_ends N (told r)) _ = _
      rw [ends_lo (by rw [told_len]; omega) hN, Option.bind_some]
      show Option.bind (slices_Max_Lint_int N ((told r).map (·.Lo))) (fun r_3 => Option.bind (daily_ends_s2 N (told r)) _) = _
      have em : ∀ f : api_Span → Int, (told r).map f = rl r.Days.length fun i => f ⟨tG r i, tL r i⟩ := fun f => rl_map
      rw [em, max_rl hN hr.n1 (by omega), Option.bind_some, ends_hi (by rw [told_len]; omega) hN, Option.bind_some, em, max_rl hN hr.n1 (by omega), Option.bind_some]
      have := runS (ρ := api_Span × List Int × Int) (fun i : Nat => (filt (fun i => decide (pkG r ≤ tL r i)) i, (i : Int))) r.Days.length (fun s16 => daily_Peak_b16 N (r.Rise, r.Fall, told r, 0) (pkG r) s16.1 s16.2) (fun i hi => by
        show daily_Peak_b16 N (r.Rise, r.Fall, told r, 0) (pkG r) (filt (fun i => decide (pkG r ≤ tL r i)) i) (i : Int) = _
        have hl := filt_len (p := fun i => decide (pkG r ≤ tL r i)) (n := i)
        unfold daily_Peak_b16 daily_Peak_j20
        show cond (decide ((i : Int) < ((told r).length : Int))) (Option.bind (getI (told r) (i : Int)) _) _ = _
        rw [told_len, lt_dec hi, cond_true, told_get hi, Option.bind_some, W_succ (by omega), filt_succ]
        show cond (decide (pkG r ≤ tL r i)) _ _ = _
        cases decide (pkG r ≤ tL r i) with
        | true =>
          rw [cond_true, room_ok (by simp; omega), Option.bind_some, if_pos rfl]
        | false =>
          rw [cond_false, if_neg (by simp)]) (by
        show daily_Peak_b16 N (r.Rise, r.Fall, told r, 0) (pkG r) _ (r.Days.length : Int) = _
        unfold daily_Peak_b16
        show cond (decide ((r.Days.length : Int) < ((told r).length : Int))) _ _ = _
        rw [told_len, ge_dec, cond_false]) (N := N) (by omega)
      show Option.bind (loopO (fun s16 => daily_Peak_b16 N (r.Rise, r.Fall, told r, 0) (pkG r) s16.1 s16.2) N (filt (fun i => decide (pkG r ≤ tL r i)) 0, ((0 : Nat) : Int))) _ = _
      rw [this, Option.bind_some]
      rfl
  · rw [if_neg hc, agreed_bad hN h1 hc, Option.bind_some]
    show cond (checkD r != 0) _ _ = _
    have : (checkD r != 0) = true := by simp [hc]
    rw [this]
    rfl

theorem every_flows {N : Nat} {l : List api_Span} (hl : l.length < N) (hl' : l.length ≤ 1000000) : daily_every_api_Span_s2 N l = some (l.all daily_flows) := by
  unfold daily_every_api_Span_s2 slices_ContainsFunc_Lapi_Span_api_Span_s2 slices_IndexFunc_Lapi_Span_api_Span_s2
  exact every_gen (f := daily_every_api_Span_1_s2) (ok := daily_flows) (fun x => rfl) hl hl' _ (fun x => rfl)
def againP (r : daily_Record) (l : List api_Span) (i : Nat) : Bool := decide (tG r i < (l.getD i sp0).Lo ∨ (l.getD i sp0).Hi < tL r i)
def agaR (r : daily_Record) (l : List api_Span) : List Int × Int :=
  if checkD r = 0 then (if l.length = r.Days.length then (if l.all daily_flows = true then (if agB r = true then (filt (againP r l) r.Days.length, 0) else ([], 7)) else ([], 4)) else ([], 2)) else ([], checkD r)
theorem Again_spec {N : Nat} (hN : 100 ≤ N) {r : daily_Record} {l : List api_Span} (h1 : r.Days.length ≤ 70) : daily_Again N r l = some (agaR r l) := by
  unfold daily_Again agaR
  rw [Check_spec hN h1, Option.bind_some]
  by_cases hc : checkD r = 0
  · rw [if_pos hc, hc, show ((0 : Int) != 0) = false from rfl, cond_false]
    have hr := check_iff.1 hc
    have h60 := hr.n60
    by_cases hl : l.length = r.Days.length
    · have e : ((((l.length : Nat) : Int)) != ((r.Days.length : Nat) : Int)) = false := by simp [hl]
      rw [if_pos hl, e, cond_false, every_flows (by omega) (by omega), Option.bind_some]
      cases hf : l.all daily_flows with
      | false => rfl
      | true =>
        rw [if_pos rfl, Bool.not_true, cond_false, agreed_ok hN hr, Option.bind_some]
        show cond ((if agB r = true then (0 : Int) else 7) != 0) _ _ = _
        cases hag : agB r with
        | false => rfl
        | true =>
          rw [if_pos rfl, if_pos rfl, show ((0 : Int) != 0) = false from rfl, cond_false]
          have := runS (ρ := List Int × Int) (fun i : Nat => (filt (againP r l) i, (i : Int))) l.length (fun s32 => daily_Again_b32 N r l (r.Rise, r.Fall, told r, 0) s32.1 s32.2) (fun i hi => by
            show daily_Again_b32 N r l (r.Rise, r.Fall, told r, 0) (filt (againP r l) i) (i : Int) = _
            have hl := filt_len (p := againP r l) (n := i)
            unfold daily_Again_b32 daily_Again_j36 daily_work_again
            rw [lt_dec hi, cond_true, getI_d sp0 hi, Option.bind_some]
            show Option.bind (Option.bind (getI (told r) (i : Int)) _) _ = _
            rw [told_get (by omega), Option.bind_some, Option.bind_some, W_succ (by omega), filt_succ]
            have e : (decide (tG r i < (l.getD i sp0).Lo) || decide ((l.getD i sp0).Hi < tL r i)) = againP r l i := by
              unfold againP
              rw [Bool.eq_iff_iff, Bool.or_eq_true, decide_eq_true_eq, decide_eq_true_eq, decide_eq_true_eq]
            show cond (decide (tG r i < (l.getD i sp0).Lo) || decide ((l.getD i sp0).Hi < tL r i)) _ _ = _
            rw [e]
            cases againP r l i with
            | true =>
              rw [cond_true, room_ok (by simp; omega), Option.bind_some, if_pos rfl]
            | false =>
              rw [cond_false, if_neg (by simp)]) (by
            show daily_Again_b32 N r l (r.Rise, r.Fall, told r, 0) _ (l.length : Int) = _
            unfold daily_Again_b32
            rw [ge_dec, cond_false]) (N := N) (by omega)
          show Option.bind (loopO (fun s32 => daily_Again_b32 N r l (r.Rise, r.Fall, told r, 0) s32.1 s32.2) N (filt (againP r l) 0, ((0 : Nat) : Int))) _ = _
          rw [this, Option.bind_some, hl]
          rfl
    · have e : ((((l.length : Nat) : Int)) != ((r.Days.length : Nat) : Int)) = true := by simp; omega
      rw [if_neg hl, e, cond_true]
  · rw [if_neg hc]
    have : (checkD r != 0) = true := by simp [hc]
    rw [this]
    rfl
end Go.Nilo
