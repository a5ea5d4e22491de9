/-
  What the plain functions compute, in plain arithmetic, part 5. Conditions: what each theorem names.
-/
import Derived.Test.YtlbmcojegiabpaaRcL4
set_option linter.unusedSimpArgs false
set_option linter.unusedVariables false
namespace Go.Nilo
theorem told_len {r : daily_Record} : (told r).length = r.Days.length := rl_len
/-! ### Sums and selected days -/
def psum (g : Nat → Int) (a : Nat) : Nat → Int
  | 0 => 0
  | m + 1 => psum g a m + g (a + m)
theorem psum_bd {g : Nat → Int} {a : Nat} (h : ∀ i, 0 ≤ g i ∧ g i ≤ 1000000000) : ∀ m, 0 ≤ psum g a m ∧ psum g a m ≤ (m : Int) * 1000000000
  | 0 => ⟨Int.le_refl _, by simp [psum]⟩
  | m + 1 => by
    have h1 := psum_bd (a := a) h m
    have h2 := h (a + m)
    show 0 ≤ psum g a m + g (a + m) ∧ psum g a m + g (a + m) ≤ ((m + 1 : Nat) : Int) * 1000000000
    push_cast
    omega
theorem ends_lo {N : Nat} {l : List api_Span} (hl : l.length ≤ 70) (hN : 100 ≤ N) : daily_ends N l = some (l.map (·.Lo)) := by
  unfold daily_ends
  have := runS (ρ := List Int) (fun i : Nat => (((l.take i).map (·.Lo), (i : Int)) : List Int × Int)) l.length (fun s5 => daily_ends_b5 N l s5.1 s5.2) (fun i hi => by
    show daily_ends_b5 N l ((l.take i).map (·.Lo)) (i : Int) = _
    unfold daily_ends_b5 daily_both_1
    rw [lt_dec hi, cond_true, getI_d sp0 hi, Option.bind_some, room_ok (by simp; omega), Option.bind_some, W_succ (by omega), take_map_succ (d := sp0) hi]) (by
    show daily_ends_b5 N l _ (l.length : Int) = _
    unfold daily_ends_b5
    rw [ge_dec, cond_false]) (N := N) (by omega)
  show Option.bind (loopO _ N (((l.take 0).map (·.Lo)), ((0 : Nat) : Int))) _ = _
  rw [this, Option.bind_some, List.take_length]
  rfl
theorem ends_hi {N : Nat} {l : List api_Span} (hl : l.length ≤ 70) (hN : 100 ≤ N) : daily_ends_s2 N l = some (l.map (·.Hi)) := by
  unfold daily_ends_s2
  have := runS (ρ := List Int) (fun i : Nat => (((l.take i).map (·.Hi), (i : Int)) : List Int × Int)) l.length (fun s5 => daily_ends_s2_b5 N l s5.1 s5.2) (fun i hi => by
    show daily_ends_s2_b5 N l ((l.take i).map (·.Hi)) (i : Int) = _
    unfold daily_ends_s2_b5 daily_both_2
    rw [lt_dec hi, cond_true, getI_d sp0 hi, Option.bind_some, room_ok (by simp; omega), Option.bind_some, W_succ (by omega), take_map_succ (d := sp0) hi]) (by
    show daily_ends_s2_b5 N l _ (l.length : Int) = _
    unfold daily_ends_s2_b5
    rw [ge_dec, cond_false]) (N := N) (by omega)
  show Option.bind (loopO _ N (((l.take 0).map (·.Hi)), ((0 : Nat) : Int))) _ = _
  rw [this, Option.bind_some, List.take_length]
  rfl
theorem rl_map {α β : Type} {n : Nat} {g : Nat → α} {f : α → β} : (rl n g).map f = rl n fun i => f (g i) := by
  unfold rl
  rw [List.map_map]
  rfl
theorem sum_rl {N : Nat} (hN : 100 ≤ N) {g : Nat → Int} (h : ∀ i, 0 ≤ g i ∧ g i ≤ 1000000000) {a m : Nat} (hm : m ≤ 70) : daily_sum N (rl m fun i => g (a + i)) = some (psum g a m) := by
  unfold daily_sum
  have := runS (ρ := Int) (fun i : Nat => ((psum g a i, (i : Int)) : Int × Int)) m (fun s5 => daily_sum_b5 N (rl m fun i => g (a + i)) s5.1 s5.2) (fun i hi => by
    show daily_sum_b5 N (rl m fun i => g (a + i)) (psum g a i) (i : Int) = _
    unfold daily_sum_b5
    have h1 := psum_bd (a := a) h i
    have h2 := h (a + i)
    rw [rl_len, lt_dec hi, cond_true, rl_get hi, Option.bind_some, W_succ (by omega), W_sm (by omega) (by omega)]
    rfl) (by
    show daily_sum_b5 N (rl m fun i => g (a + i)) _ (m : Int) = _
    unfold daily_sum_b5
    rw [rl_len, ge_dec, cond_false]) (N := N) (by omega)
  show Option.bind (loopO _ N (psum g a 0, ((0 : Nat) : Int))) _ = _
  rw [this, Option.bind_some]
  rfl

/-! ### Volumes -/
def volR (r : daily_Record) (a b : Int) : api_Span × Int :=
  if checkD r = 0 then (if (0 ≤ a ∧ a ≤ b) ∧ b < (r.Days.length : Int) then (if agB r = true then (⟨psum (tG r) a.toNat (b + 1 - a).toNat, psum (tL r) a.toNat (b + 1 - a).toNat⟩, 0) else (⟨0, 0⟩, 7)) else (⟨0, 0⟩, 2)) else (⟨0, 0⟩, checkD r)
theorem tG_bd {r : daily_Record} (hr : ROk r) : ∀ i, 0 ≤ tG r i ∧ tG r i ≤ 1000000000 := fun i => (told_bd hr i).1
theorem tL_bd {r : daily_Record} (hr : ROk r) : ∀ i, 0 ≤ tL r i ∧ tL r i ≤ 1000000000 := fun i => (told_bd hr i).2
theorem sub_told {r : daily_Record} {a b : Nat} (h1 : a ≤ b) (h2 : b < r.Days.length) : subO (told r) (a : Int) ((b + 1 : Nat) : Int) = some (rl (b + 1 - a) fun i => ⟨tG r (a + i), tL r (a + i)⟩) := by
  unfold subO
  rw [if_pos (by rw [told_len]; omega)]
  congr 1
  refine List.ext_getElem ?_ fun m k1 k2 => ?_
  · rw [rl_len, List.length_take, List.length_drop, told_len]
    omega
  · simp [told, rl]
theorem Volume_spec {N : Nat} (hN : 100 ≤ N) {r : daily_Record} {a b : Int} (h1 : r.Days.length ≤ 70) : daily_Volume N r a b = some (volR r a b) := by
  unfold daily_Volume volR
  rw [Check_spec hN h1, Option.bind_some]
  by_cases hc : checkD r = 0
  · rw [if_pos hc, hc, show ((0 : Int) != 0) = false from rfl, cond_false, in_dec]
    have hr := check_iff.1 hc
    have h60 := hr.n60
    by_cases h : (0 ≤ a ∧ a ≤ b) ∧ b < (r.Days.length : Int)
    · obtain ⟨A, rfl⟩ := Int.eq_ofNat_of_zero_le h.1.1
      obtain ⟨B, rfl⟩ := Int.eq_ofNat_of_zero_le (show 0 ≤ b by omega)
      rw [if_pos h, not_dec' h.1, dF (by omega), Bool.or_false, cond_false, agreed_ok hN hr, Option.bind_some]
      show cond ((if agB r = true then (0 : Int) else 7) != 0) _ _ = _
      cases hag : agB r with
      | false => rfl
      | true =>
        rw [if_pos rfl, if_pos rfl, show ((0 : Int) != 0) = false from rfl, cond_false, W_sm (n := (B : Int) + 1) (by omega) (by omega)]
        show Option.bind (subO (told r) (A : Int) ((B + 1 : Nat) : Int)) _ = _
        rw [sub_told (by omega) (by omega), Option.bind_some, ends_lo (by rw [rl_len]; omega) hN, Option.bind_some, rl_map, sum_rl hN (tG_bd hr) (by omega), Option.bind_some, ends_hi (by rw [rl_len]; omega) hN, Option.bind_some, rl_map, sum_rl hN (tL_bd hr) (by omega), Option.bind_some]
        rw [show ((B : Int) + 1 - (A : Int)).toNat = B + 1 - A by omega, Int.toNat_natCast]
    · rw [if_neg h]
      have : (!decide (0 ≤ a ∧ a ≤ b) || decide ((r.Days.length : Int) ≤ b)) = true := by
        rw [Bool.or_eq_true, Bool.not_eq_true', decide_eq_false_iff_not, decide_eq_true_eq]
        omega
      rw [this]
      rfl
  · rw [if_neg hc]
    have : (checkD r != 0) = true := by simp [hc]
    rw [this]
    rfl
/-! ### The peak -/










end Go.Nilo
