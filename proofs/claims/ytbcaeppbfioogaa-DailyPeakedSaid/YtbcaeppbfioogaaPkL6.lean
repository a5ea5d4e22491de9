/-
  What the plain functions compute, in plain arithmetic, part 6. Conditions: what each theorem names.
-/
import Derived.Test.YtbcaeppbfioogaaPkL5
set_option linter.unusedSimpArgs false
set_option linter.unusedVariables false
namespace Go.Nilo
theorem firstG_map {ρ τ : Type} {g : Nat → Option ρ} {φ : ρ → τ} : ∀ m i, firstG (fun k => (g k).map φ) i m = (firstG g i m).map φ
  | 0, i => rfl
  | m + 1, i => by
    have e : ∀ {α : Type} (f : Nat → Option α), firstG f i (m + 1) = match f i with
      | some r => some r
      | none => firstG f (i + 1) m := fun f => rfl
    rw [e, e]
    cases g i with
    | some r => rfl
    | none => exact firstG_map m (i + 1)
theorem exK_scan {σ ρ τ : Type} {o : Option ρ} {s : σ} {f : σ → Option τ} {g : ρ → Option τ} : exK (match o with | some r => Ex.out r | none => Ex.go s) f g = match o with
    | some r => g r
    | none => f s := by cases o <;> rfl
theorem ofOpt {σ ρ : Type} {o : Option ρ} {s : σ} : (match o with | some r => Step.ret r | none => Step.cont s) = (o.map (fun r => (Step.ret r : Step σ ρ))).getD (.cont s) := by cases o <;> rfl
theorem every_flow {N : Nat} {l : List Int} (hl : l.length < N) (hl' : l.length ≤ 1000000) : daily_every_int N l = some (l.all daily_flow) := by
  unfold daily_every_int slices_ContainsFunc_Lint_int slices_IndexFunc_Lint_int
  exact every_gen (f := daily_every_int_1) (ok := daily_flow) (fun x => rfl) hl hl' _ (fun x => rfl)
theorem flow_iff {x : Int} : daily_flow x = true ↔ 0 ≤ x ∧ x ≤ 1000000000 := by
  unfold daily_flow
  rw [in_dec, decide_eq_true_eq]
theorem flow_at {l : List Int} (h : l.all daily_flow = true) (i : Nat) : 0 ≤ l.getD i 0 ∧ l.getD i 0 ≤ 1000000000 := by
  by_cases hi : i < l.length
  · rw [← get_getD hi]
    exact flow_iff.1 (List.all_eq_true.1 h _ (List.getElem_mem _))
  · have : l.getD i 0 = 0 := by simp [List.getD, List.getElem?_eq_none (show l.length ≤ i by omega)]
    rw [this]
    decide
/-! ### Flows that hold -/
def goodP (r : daily_Record) (l : List Int) (i : Nat) : Prop := (lo r i ≤ l.getD i 0 ∧ l.getD i 0 ≤ hi r i) ∧ (i = 0 ∨ (l.getD (i - 1) 0 - r.Fall ≤ l.getD i 0 ∧ l.getD i 0 ≤ l.getD (i - 1) 0 + r.Rise))
instance {r : daily_Record} {l : List Int} {i : Nat} : Decidable (goodP r l i) := by unfold goodP; exact inferInstance
def heldF (r : daily_Record) (l : List Int) : Option (Int × Int) := firstG (fun i => cond (decide (goodP r l i)) none (some ((i : Int), (0 : Int)))) 0 r.Days.length
def holdsF (r : daily_Record) (l : List Int) : Int × Int :=
  if checkD r = 0 then (if l.length = r.Days.length then (if l.all daily_flow = true then (heldF r l).getD (-1, 0) else (0, 4)) else (0, 2)) else (0, checkD r)
theorem Holds_spec {N : Nat} (hN : 100 ≤ N) {r : daily_Record} {l : List Int} (h1 : r.Days.length ≤ 70) : daily_Holds N r l = some (holdsF r l) := by
  unfold daily_Holds holdsF
  rw [Check_spec hN h1, Option.bind_some]
  by_cases hc : checkD r = 0
  · rw [if_pos hc, hc, show ((0 : Int) != 0) = false from rfl, cond_false]
    have hr := check_iff.1 hc
    by_cases hl : l.length = r.Days.length
    · have e : ((((l.length : Nat) : Int)) != ((r.Days.length : Nat) : Int)) = false := by simp [hl]
      rw [if_pos hl, e, cond_false, every_flow (by omega) (by omega), Option.bind_some]
      cases hf : l.all daily_flow with
      | false => rfl
      | true =>
        rw [Bool.not_true, cond_false, if_pos rfl]
        have hr1 := hr.rise
        have hr2 := hr.fall
        have hs := scanS (ρ := Int × Int) (fun i : Nat => (i : Int)) (fun i => cond (decide (goodP r l i)) none (some ((i : Int), (0 : Int)))) r.Days.length (fun s12 => daily_Holds_b12 N r l s12) (fun i hi' => by
          show daily_Holds_b12 N r l (i : Int) = _
          have b0 := own_bd hr i
          have hb : ∀ x1 x2 : Int, daily_Holds_j19 N l (i : Int) x1 x2 = some (cond (decide (x1 ≤ l.getD i 0 ∧ l.getD i 0 ≤ x2)) (.cont ((i + 1 : Nat) : Int)) (.ret ((i : Int), 0))) := fun x1 x2 => by
            unfold daily_Holds_j19
            rw [getI_d 0 (by omega), Option.bind_some, in_dec, W_succ (by omega)]
            cases decide (x1 ≤ l.getD i 0 ∧ l.getD i 0 ≤ x2) <;> rfl
          unfold daily_Holds_b12
          rw [lt_dec hi', cond_true, getI_d dv0 hi', Option.bind_some, vspan, Option.bind_some]
          rcases Nat.eq_zero_or_pos i with h0 | h0
          · subst h0
            rw [dF (show ¬ (0 : Int) < ((0 : Nat) : Int) by omega), cond_false, hb]
            have e : ((vs (r.Days.getD 0 dv0)).Lo ≤ l.getD 0 0 ∧ l.getD 0 0 ≤ (vs (r.Days.getD 0 dv0)).Hi) ↔ goodP r l 0 := ⟨fun h => ⟨h, .inl rfl⟩, fun h => h.1⟩
            by_cases hg : goodP r l 0
            · rw [dT hg, dT (e.2 hg)]
              rfl
            · rw [dF hg, dF fun h => hg (e.1 h)]
              rfl
          · have b1 := flow_at hf (i - 1)
            rw [dT (show (0 : Int) < (i : Int) by omega), cond_true, W_sm (n := (i : Int) - 1) (by omega) (by omega), show ((i : Nat) : Int) - 1 = ((i - 1 : Nat) : Int) by omega, getI_d 0 (by omega), Option.bind_some, Option.bind_some, W_sm (n := l.getD (i - 1) 0 - r.Fall) (by omega) (by omega), W_sm (n := l.getD (i - 1) 0 + r.Rise) (by omega) (by omega), hb]
            have e : (max (vs (r.Days.getD i dv0)).Lo (l.getD (i - 1) 0 - r.Fall) ≤ l.getD i 0 ∧ l.getD i 0 ≤ min (vs (r.Days.getD i dv0)).Hi (l.getD (i - 1) 0 + r.Rise)) ↔ goodP r l i := by
              unfold goodP lo hi
              omega
            by_cases hg : goodP r l i
            · rw [dT hg, dT (e.2 hg)]
              rfl
            · rw [dF hg, dF fun h => hg (e.1 h)]
              rfl) (by
          show daily_Holds_b12 N r l (r.Days.length : Int) = _
          unfold daily_Holds_b12
          rw [ge_dec, cond_false]) r.Days.length 0 N (by omega) (by omega)
        rw [show (0 : Int) = ((0 : Nat) : Int) from rfl, hs, Option.bind_some]
        unfold heldF
        cases firstG _ 0 r.Days.length <;> rfl
    · have e : ((((l.length : Nat) : Int)) != ((r.Days.length : Nat) : Int)) = true := by simp; omega
      rw [if_neg hl, e, cond_true]
  · rw [if_neg hc]
    have : (checkD r != 0) = true := by simp [hc]
    rw [this]
    rfl
theorem held_none {r : daily_Record} {l : List Int} : heldF r l = none ↔ ∀ i, i < r.Days.length → goodP r l i := by
  unfold heldF
  rw [firstG_none]
  constructor
  · intro h i hi
    by_cases hg : goodP r l i
    · exact hg
    · have := h i (Nat.zero_le _) (by omega)
      rw [dF hg] at this
      cases this
  · intro h j h1 h2
    rw [dT (h j (by omega))]
    rfl
theorem held_tru {r : daily_Record} {l : List Int} : heldF r l = none ↔ Tru (lo r) (hi r) r.Rise r.Fall r.Days.length fun i => l.getD i 0 := by
  rw [held_none]
  constructor
  · intro h
    refine ⟨fun i hi => (h i hi).1, fun i hi => ?_⟩
    rcases (h (i + 1) hi).2 with h' | h'
    · omega
    · rw [Nat.add_sub_cancel] at h'
      show l.getD (i + 1) 0 ≤ l.getD i 0 + r.Rise ∧ l.getD i 0 ≤ l.getD (i + 1) 0 + r.Fall
      omega
  · intro h i hi
    refine ⟨h.own i hi, ?_⟩
    rcases Nat.eq_zero_or_pos i with h0 | h0
    · exact .inl h0
    · have : l.getD (i - 1 + 1) 0 ≤ l.getD (i - 1) 0 + r.Rise ∧ l.getD (i - 1) 0 ≤ l.getD (i - 1 + 1) 0 + r.Fall := h.st (i - 1) (by omega)
      rw [show i - 1 + 1 = i by omega] at this
      exact .inr (by omega)
/-! ### Days that clash -/
def clashP (r : daily_Record) (i k : Nat) : Prop := hi r i + U r.Rise r.Fall i k < lo r k ∨ hi r k + U r.Rise r.Fall k i < lo r i
instance {r : daily_Record} {i k : Nat} : Decidable (clashP r i k) := by unfold clashP; exact inferInstance
def clash1 (r : daily_Record) (i : Nat) : Option (Nat × Nat) := firstG (fun k => cond (decide (clashP r i k)) (some (i, k)) none) (i + 1) (r.Days.length - (i + 1))
def clashF (r : daily_Record) : Option (Nat × Nat) := firstG (clash1 r) 0 r.Days.length
def clashR (r : daily_Record) : Int × Int × Int :=
  if checkD r = 0 then (match clashF r with
    | some p => ((p.1 : Int), (p.2 : Int), 0)
    | none => (0, 0, 5)) else (0, 0, checkD r)
theorem U_sm {r : daily_Record} (hr : ROk r) {a b : Nat} (ha : a ≤ 60) (hb : b ≤ 60) : 0 ≤ U r.Rise r.Fall a b ∧ U r.Rise r.Fall a b ≤ 60000000000 := by
  refine ⟨U_nonneg hr.rise.1 hr.fall.1, ?_⟩
  have := U_le hr.rise.1 hr.fall.1 hr.rise.2 hr.fall.2 ha hb
  omega
theorem clash_in {N : Nat} (hN : 100 ≤ N) {r : daily_Record} (hr : ROk r) {i : Nat} (hi' : i < r.Days.length) :
    loopO (fun s18 => daily_Clash_b18 N r (i : Int) (r.Days.getD i dv0) s18) N 0 = some (match clash1 r i with
      | some p => .out (.brk ((p.1 : Int), (p.2 : Int), 0, (p.1 : Int)))
      | none => .go (r.Days.length : Int)) := by
  have h60 := hr.n60
  have hr1 := hr.rise
  have hr2 := hr.fall
  have hs := scanS (ρ := Step (Int × Int × Int × Int) (Int × Int × Int)) (fun k : Nat => (k : Int)) (fun k => (cond (decide (i < k ∧ clashP r i k)) (some (i, k)) none).map fun p => Step.brk ((p.1 : Int), (p.2 : Int), 0, (p.1 : Int))) r.Days.length (fun s18 => daily_Clash_b18 N r (i : Int) (r.Days.getD i dv0) s18) (fun k hk => by
    show daily_Clash_b18 N r (i : Int) (r.Days.getD i dv0) (k : Int) = _
    unfold daily_Clash_b18
    have b0 := own_bd hr i
    have b1 := own_bd hr k
    rw [lt_dec hk, cond_true, getI_d dv0 hk, Option.bind_some, vspan, Option.bind_some, vspan, Option.bind_some, W_succ (by omega)]
    by_cases hik : i < k
    · have u1 := U_sm hr (a := i) (b := k) (by omega) (by omega)
      have u2 := U_sm hr (a := k) (b := i) (by omega) (by omega)
      have e1 : r.Rise * ((k - i : Nat) : Int) = U r.Rise r.Fall i k := by rw [U_up (by omega), Int.mul_comm]
      have e2 : r.Fall * ((k - i : Nat) : Int) = U r.Rise r.Fall k i := by rw [U_down (by omega), Int.mul_comm]
      unfold lo hi at b0 b1
      rw [dT (show (i : Int) < (k : Int) by omega), Bool.true_and, W_sm (n := (k : Int) - (i : Int)) (by omega) (by omega), show (k : Int) - (i : Int) = ((k - i : Nat) : Int) by omega, e1, e2, W_sm (n := U r.Rise r.Fall i k) (by omega) (by omega), W_sm (n := U r.Rise r.Fall k i) (by omega) (by omega), W_sm (n := (vs (r.Days.getD i dv0)).Hi + U r.Rise r.Fall i k) (by omega) (by omega), W_sm (n := (vs (r.Days.getD i dv0)).Lo - U r.Rise r.Fall k i) (by omega) (by omega)]
      have e3 : (decide ((vs (r.Days.getD i dv0)).Hi + U r.Rise r.Fall i k < (vs (r.Days.getD k dv0)).Lo) || decide ((vs (r.Days.getD k dv0)).Hi < (vs (r.Days.getD i dv0)).Lo - U r.Rise r.Fall k i)) = decide (i < k ∧ clashP r i k) := by
        rw [Bool.eq_iff_iff, Bool.or_eq_true, decide_eq_true_eq, decide_eq_true_eq, decide_eq_true_eq]
        unfold clashP lo hi
        omega
      rw [e3]
      cases decide (i < k ∧ clashP r i k) <;> rfl
    · rw [dF (show ¬ (i : Int) < (k : Int) by omega), Bool.false_and, cond_false, dF (fun h => hik h.1)]
      rfl) (by
    show daily_Clash_b18 N r (i : Int) (r.Days.getD i dv0) (r.Days.length : Int) = _
    unfold daily_Clash_b18
    rw [ge_dec, cond_false]) r.Days.length 0 N (by omega) (by omega)
  have hsk : firstG (fun k => cond (decide (i < k ∧ clashP r i k)) (some (i, k)) none) 0 r.Days.length = clash1 r i := by
    unfold clash1
    rw [show r.Days.length = (i + 1) + (r.Days.length - (i + 1)) by omega, firstG_skip (i + 1) 0 (fun j h1 h2 => by rw [dF (fun h => by omega)]; rfl), Nat.zero_add, Nat.add_sub_cancel_left]
    refine firstG_congr _ _ fun j h1 h2 => ?_
    by_cases h : clashP r i j
    · rw [dT h, dT ⟨by omega, h⟩]
    · rw [dF h, dF fun h' => h h'.2]
  rw [show (0 : Int) = ((0 : Nat) : Int) from rfl, hs, firstG_map, hsk]
  cases clash1 r i <;> rfl
theorem Clash_spec {N : Nat} (hN : 100 ≤ N) {r : daily_Record} (h1 : r.Days.length ≤ 70) : daily_Clash N r = some (clashR r) := by
  unfold daily_Clash clashR
  rw [Check_spec hN h1, Option.bind_some]
  by_cases hc : checkD r = 0
  · rw [if_pos hc, hc, show ((0 : Int) != 0) = false from rfl, cond_false]
    have hr := check_iff.1 hc
    have h60 := hr.n60
    have hs := scanB (ρ := Int × Int × Int) (fun i : Nat => (((0 : Int), (0 : Int), (5 : Int), (i : Int)) : Int × Int × Int × Int)) (fun i => (clash1 r i).map fun p => ((p.1 : Int), (p.2 : Int), (0 : Int), (p.1 : Int))) r.Days.length (fun s10 => daily_Clash_b10 N r s10.1 s10.2.1 s10.2.2.1 s10.2.2.2) (fun i hi' => by
      show daily_Clash_b10 N r 0 0 5 (i : Int) = _
      unfold daily_Clash_b10
      rw [lt_dec hi', cond_true, getI_d dv0 hi', Option.bind_some, clash_in hN hr hi', Option.bind_some, W_succ (by omega)]
      cases clash1 r i <;> rfl) (by
      show daily_Clash_b10 N r 0 0 5 (r.Days.length : Int) = _
      unfold daily_Clash_b10
      rw [ge_dec, cond_false]) r.Days.length 0 N (by omega) (by omega)
    rw [show ((0 : Int), (0 : Int), (5 : Int), (0 : Int)) = ((0 : Int), (0 : Int), (5 : Int), ((0 : Nat) : Int)) from rfl, hs, Option.bind_some, firstG_map]
    show some _ = _
    unfold clashF
    cases firstG (clash1 r) 0 r.Days.length <;> rfl
  · rw [if_neg hc]
    have : (checkD r != 0) = true := by simp [hc]
    rw [this]
    rfl
theorem clash_none {r : daily_Record} : clashF r = none ↔ ∀ i k, i < k → k < r.Days.length → ¬ clashP r i k := by
  unfold clashF
  rw [firstG_none]
  constructor
  · intro h i k h1 h2 hp
    have := h i (Nat.zero_le _) (by omega)
    unfold clash1 at this
    rw [firstG_none] at this
    have := this k (by omega) (by omega)
    rw [dT hp] at this
    cases this
  · intro h i _ _
    unfold clash1
    rw [firstG_none]
    intro k h1 h2
    rw [dF (h i k (by omega) (by omega))]
    rfl
theorem clash_some {r : daily_Record} {p : Nat × Nat} (h : clashF r = some p) : p.1 < p.2 ∧ p.2 < r.Days.length ∧ clashP r p.1 p.2 ∧ ∀ i k, i < p.1 → i < k → k < r.Days.length → ¬ clashP r i k := by
  unfold clashF at h
  obtain ⟨i, -, h1, h2, h3⟩ := firstG_some _ _ h
  unfold clash1 at h2
  obtain ⟨k, k1, k2, k3, -⟩ := firstG_some _ _ h2
  by_cases hp : clashP r i k
  · rw [dT hp] at k3
    obtain rfl : (i, k) = p := by simpa using k3
    refine ⟨by show i < k; omega, by show k < _; omega, hp, fun j m hj hjm hm hc => ?_⟩
    have := h3 j (Nat.zero_le _) hj
    unfold clash1 at this
    rw [firstG_none] at this
    have := this m (by omega) (by omega)
    rw [dT hc] at this
    cases this
  · rw [dF hp] at k3
    cases k3
theorem clash_agree {r : daily_Record} (hr : ROk r) : clashF r = none ↔ agB r = true := by
  rw [clash_none, agB_iff, agree_iff hr.rise.1 hr.fall.1]
  constructor
  · intro h a b ha hb
    rcases Nat.lt_trichotomy a b with h1 | h1 | h1
    · have := h a b h1 hb
      unfold clashP at this
      omega
    · subst h1
      have := own_bd hr a
      rw [U_self]
      omega
    · have := h b a h1 ha
      unfold clashP at this
      omega
  · intro h i k h1 h2
    have := h i k (by omega) h2
    have := h k i h2 (by omega)
    unfold clashP
    omega
end Go.Nilo
