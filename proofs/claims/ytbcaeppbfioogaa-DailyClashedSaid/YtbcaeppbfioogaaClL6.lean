/-
  What the plain functions compute, in plain arithmetic, part 6. Conditions: what each theorem names.
-/
import Derived.Test.YtbcaeppbfioogaaClL5
set_option linter.unusedSimpArgs false
set_option linter.unusedVariables false
namespace Go.Nilo
theorem firstG_map {ρ τ : Type} {g : Nat → Option ρ} {φ : ρ → τ} : ∀ m i, firstG (fun k => (g k).map φ) i m = (firstG g i m).map φ
  | 0, i => rfl
  | m + 1, i => by
    have e : ∀ {α : Type} (f : Nat → Option α), firstG f i (m + 1) = match f i with
      | some r => some r
      | none => firstG f (i + 1) m := fun f => rfl
    rw [e, e]
    cases g i with
    | some r => rfl
    | none => exact firstG_map m (i + 1)
/-! ### Days that clash -/
def clashP (r : daily_Record) (i k : Nat) : Prop := hi r i + U r.Rise r.Fall i k < lo r k ∨ hi r k + U r.Rise r.Fall k i < lo r i
instance {r : daily_Record} {i k : Nat} : Decidable (clashP r i k) := by unfold clashP; exact inferInstance
def clash1 (r : daily_Record) (i : Nat) : Option (Nat × Nat) := firstG (fun k => cond (decide (clashP r i k)) (some (i, k)) none) (i + 1) (r.Days.length - (i + 1))
def clashF (r : daily_Record) : Option (Nat × Nat) := firstG (clash1 r) 0 r.Days.length
def clashR (r : daily_Record) : Int × Int × Int :=
  if checkD r = 0 then (match clashF r with
    | some p => ((p.1 : Int), (p.2 : Int), 0)
    | none => (0, 0, 5)) else (0, 0, checkD r)
theorem U_sm {r : daily_Record} (hr : ROk r) {a b : Nat} (ha : a ≤ 60) (hb : b ≤ 60) : 0 ≤ U r.Rise r.Fall a b ∧ U r.Rise r.Fall a b ≤ 60000000000 := by
  refine ⟨U_nonneg hr.rise.1 hr.fall.1, ?_⟩
  have := U_le hr.rise.1 hr.fall.1 hr.rise.2 hr.fall.2 ha hb
  omega
theorem clash_in {N : Nat} (hN : 100 ≤ N) {r : daily_Record} (hr : ROk r) {i : Nat} (hi' : i < r.Days.length) :
    loopO (fun s18 => daily_Clash_b18 N r (i : Int) (r.Days.getD i dv0) s18) N 0 = some (match clash1 r i with
      | some p => .out (.brk ((p.1 : Int), (p.2 : Int), 0, (p.1 : Int)))
      | none => .go (r.Days.length : Int)) := by
  have h60 := hr.n60
  have hr1 := hr.rise
  have hr2 := hr.fall
  have hs := scanS (ρ := Step (Int × Int × Int × Int) (Int × Int × Int)) (fun k : Nat => (k : Int)) (fun k => (cond (decide (i < k ∧ clashP r i k)) (some (i, k)) none).map fun p => Step.brk ((p.1 : Int), (p.2 : Int), 0, (p.1 : Int))) r.Days.length (fun s18 => daily_Clash_b18 N r (i : Int) (r.Days.getD i dv0) s18) (fun k hk => by
    show daily_Clash_b18 N r (i : Int) (r.Days.getD i dv0) (k : Int) = _
    unfold daily_Clash_b18
    have b0 := own_bd hr i
    have b1 := own_bd hr k
    rw [lt_dec hk, cond_true, getI_d dv0 hk, Option.bind_some, vspan, Option.bind_some, vspan, Option.bind_some, W_succ (by omega)]
    by_cases hik : i < k
    · have u1 := U_sm hr (a := i) (b := k) (by omega) (by omega)
      have u2 := U_sm hr (a := k) (b := i) (by omega) (by omega)
      have e1 : r.Rise * ((k - i : Nat) : Int) = U r.Rise r.Fall i k := by rw [U_up (by omega), Int.mul_comm]
      have e2 : r.Fall * ((k - i : Nat) : Int) = U r.Rise r.Fall k i := by rw [U_down (by omega), Int.mul_comm]
      unfold lo hi at b0 b1
      rw [dT (show (i : Int) < (k : Int) by omega), Bool.true_and, W_sm (n := (k : Int) - (i : Int)) (by omega) (by omega), show (k : Int) - (i : Int) = ((k - i : Nat) : Int) by omega, e1, e2, W_sm (n := U r.Rise r.Fall i k) (by omega) (by omega), W_sm (n := U r.Rise r.Fall k i) (by omega) (by omega), W_sm (n := (vs (r.Days.getD i dv0)).Hi + U r.Rise r.Fall i k) (by omega) (by omega), W_sm (n := (vs (r.Days.getD i dv0)).Lo - U r.Rise r.Fall k i) (by omega) (by omega)]
      have e3 : (decide ((vs (r.Days.getD i dv0)).Hi + U r.Rise r.Fall i k < (vs (r.Days.getD k dv0)).Lo) || decide ((vs (r.Days.getD k dv0)).Hi < (vs (r.Days.getD i dv0)).Lo - U r.Rise r.Fall k i)) = decide (i < k ∧ clashP r i k) := by
        rw [Bool.eq_iff_iff, Bool.or_eq_true, decide_eq_true_eq, decide_eq_true_eq, decide_eq_true_eq]
        unfold clashP lo hi
        omega
      rw [e3]
      cases decide (i < k ∧ clashP r i k) <;> rfl
    · rw [dF (show ¬ (i : Int) < (k : Int) by omega), Bool.false_and, cond_false, dF (fun h => hik h.1)]
      rfl) (by
    show daily_Clash_b18 N r (i : Int) (r.Days.getD i dv0) (r.Days.length : Int) = _
    unfold daily_Clash_b18
    rw [ge_dec, cond_false]) r.Days.length 0 N (by omega) (by omega)
  have hsk : firstG (fun k => cond (decide (i < k ∧ clashP r i k)) (some (i, k)) none) 0 r.Days.length = clash1 r i := by
    unfold clash1
    rw [show r.Days.length = (i + 1) + (r.Days.length - (i + 1)) by omega, firstG_skip (i + 1) 0 (fun j h1 h2 => by rw [dF (fun h => by omega)]; rfl), Nat.zero_add, Nat.add_sub_cancel_left]
    refine firstG_congr _ _ fun j h1 h2 => ?_
    by_cases h : clashP r i j
    · rw [dT h, dT ⟨by omega, h⟩]
    · rw [dF h, dF fun h' => h h'.2]
  rw [show (0 : Int) = ((0 : Nat) : Int) from rfl, hs, firstG_map, hsk]
  cases clash1 r i <;> rfl
theorem Clash_spec {N : Nat} (hN : 100 ≤ N) {r : daily_Record} (h1 : r.Days.length ≤ 70) : daily_Clash N r = some (clashR r) := by
  unfold daily_Clash clashR
  rw [Check_spec hN h1, Option.bind_some]
  by_cases hc : checkD r = 0
  · rw [if_pos hc, hc, show ((0 : Int) != 0) = false from rfl, cond_false]
    have hr := check_iff.1 hc
    have h60 := hr.n60
    have hs := scanB (ρ := Int × Int × Int) (fun i : Nat => (((0 : Int), (0 : Int), (5 : Int), (i : Int)) : Int × Int × Int × Int)) (fun i => (clash1 r i).map fun p => ((p.1 : Int), (p.2 : Int), (0 : Int), (p.1 : Int))) r.Days.length (fun s10 => daily_Clash_b10 N r s10.1 s10.2.1 s10.2.2.1 s10.2.2.2) (fun i hi' => by
      show daily_Clash_b10 N r 0 0 5 (i : Int) = _
      unfold daily_Clash_b10
      rw [lt_dec hi', cond_true, getI_d dv0 hi', Option.bind_some, clash_in hN hr hi', Option.bind_some, W_succ (by omega)]
      cases clash1 r i <;> rfl) (by
      show daily_Clash_b10 N r 0 0 5 (r.Days.length : Int) = _
      unfold daily_Clash_b10
      rw [ge_dec, cond_false]) r.Days.length 0 N (by omega) (by omega)
    rw [show ((0 : Int), (0 : Int), (5 : Int), (0 : Int)) = ((0 : Int), (0 : Int), (5 : Int), ((0 : Nat) : Int)) from rfl, hs, Option.bind_some, firstG_map]
    show some _ = _
    unfold clashF
    cases firstG (clash1 r) 0 r.Days.length <;> rfl
  · rw [if_neg hc]
    have : (checkD r != 0) = true := by simp [hc]
    rw [this]
    rfl
theorem clash_none {r : daily_Record} : clashF r = none ↔ ∀ i k, i < k → k < r.Days.length → ¬ clashP r i k := by
  unfold clashF
  rw [firstG_none]
  constructor
  · intro h i k h1 h2 hp
    have := h i (Nat.zero_le _) (by omega)
    unfold clash1 at this
    rw [firstG_none] at this
    have := this k (by omega) (by omega)
    rw [dT hp] at this
    cases this
  · intro h i _ _
    unfold clash1
    rw [firstG_none]
    intro k h1 h2
    rw [dF (h i k (by omega) (by omega))]
    rfl
theorem clash_some {r : daily_Record} {p : Nat × Nat} (h : clashF r = some p) : p.1 < p.2 ∧ p.2 < r.Days.length ∧ clashP r p.1 p.2 ∧ ∀ i k, i < p.1 → i < k → k < r.Days.length → ¬ clashP r i k := by
  unfold clashF at h
  obtain ⟨i, -, h1, h2, h3⟩ := firstG_some _ _ h
  unfold clash1 at h2
  obtain ⟨k, k1, k2, k3, -⟩ := firstG_some _ _ h2
  by_cases hp : clashP r i k
  · rw [dT hp] at k3
    obtain rfl : (i, k) = p := by simpa using k3
    refine ⟨by show i < k; omega, by show k < _; omega, hp, fun j m hj hjm hm hc => ?_⟩
    have := h3 j (Nat.zero_le _) hj
    unfold clash1 at this
    rw [firstG_none] at this
    have := this m (by omega) (by omega)
    rw [dT hc] at this
    cases this
  · rw [dF hp] at k3
    cases k3
theorem clash_agree {r : daily_Record} (hr : ROk r) : clashF r = none ↔ agB r = true := by
  rw [clash_none, agB_iff, agree_iff hr.rise.1 hr.fall.1]
  constructor
  · intro h a b ha hb
    rcases Nat.lt_trichotomy a b with h1 | h1 | h1
    · have := h a b h1 hb
      unfold clashP at this
      omega
    · subst h1
      have := own_bd hr a
      rw [U_self]
      omega
    · have := h b a h1 ha
      unfold clashP at this
      omega
  · intro h i k h1 h2
    have := h i k (by omega) h2
    have := h k i h2 (by omega)
    unfold clashP
    omega
end Go.Nilo
