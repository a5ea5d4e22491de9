/-
  What the plain functions compute, in plain arithmetic, part 3. Conditions: what each theorem names.
-/
import Derived.Test.YtlbmcojegiabpaaRcL2
set_option linter.unusedSimpArgs false
set_option linter.unusedVariables false
namespace Go.Nilo
theorem in_dec (x a b : Int) : daily_in x a b = decide (a ≤ x ∧ x ≤ b) := by
  unfold daily_in
  rw [Bool.eq_iff_iff, Bool.and_eq_true, decide_eq_true_eq, decide_eq_true_eq, decide_eq_true_eq]
theorem not_dec {p : Prop} [Decidable p] (h : ¬p) : (!decide p) = true := by rw [dF h]; rfl
theorem not_dec' {p : Prop} [Decidable p] (h : p) : (!decide p) = false := by rw [dT h]; rfl
def dv0 : daily_Value := ⟨false, ⟨0, 0⟩⟩
def sp0 : api_Span := ⟨0, 0⟩
def vs (v : daily_Value) : api_Span := cond v.Known v.Flow ⟨0, 1000000000⟩
theorem vspan {N : Nat} {v : daily_Value} : daily_Value_span N v = some (vs v) := by
  unfold daily_Value_span vs
  cases v.Known <;> rfl
def checkD (r : daily_Record) : Int := if 1 ≤ r.Days.length ∧ r.Days.length ≤ 60 then (if ((0 ≤ r.Rise ∧ r.Rise ≤ 1000000000) ∧ (0 ≤ r.Fall ∧ r.Fall ≤ 1000000000)) ∧ r.Days.all daily_Check_1 = true then 0 else 80) else 3
theorem every_value {N : Nat} {l : List daily_Value} (hl : l.length < N) (hl' : l.length ≤ 1000000) : daily_every_daily_Value N l = some (l.all daily_Check_1) := by
  unfold daily_every_daily_Value slices_ContainsFunc_Ldaily_Value_daily_Value slices_IndexFunc_Ldaily_Value_daily_Value
  exact every_gen (f := daily_every_daily_Value_1) (ok := daily_Check_1) (fun x => rfl) hl hl' _ (fun x => rfl)
theorem every_span {N : Nat} {l : List api_Span} (hl : l.length < N) (hl' : l.length ≤ 1000000) : daily_every_api_Span N l = some (l.all daily_opened_2) := by
  unfold daily_every_api_Span slices_ContainsFunc_Lapi_Span_api_Span slices_IndexFunc_Lapi_Span_api_Span
  exact every_gen (f := daily_every_api_Span_1) (ok := daily_opened_2) (fun x => rfl) hl hl' _ (fun x => rfl)
theorem Check_spec {N : Nat} (hN : 100 ≤ N) {r : daily_Record} (h1 : r.Days.length ≤ 70) : daily_Check N r = some (checkD r) := by
  unfold daily_Check checkD daily_flow
  rw [in_dec, in_dec, in_dec, every_value (by omega) (by omega), Option.bind_some]
  by_cases h : 1 ≤ r.Days.length ∧ r.Days.length ≤ 60
  · rw [if_pos h, not_dec' (by omega), cond_false]
    by_cases h2 : 0 ≤ r.Rise ∧ r.Rise ≤ 1000000000
    · by_cases h3 : 0 ≤ r.Fall ∧ r.Fall ≤ 1000000000
      · rw [not_dec' h2, not_dec' h3]
        cases h4 : r.Days.all daily_Check_1 with
        | true =>
          rw [if_pos ⟨⟨h2, h3⟩, rfl⟩]
          rfl
        | false =>
          rw [if_neg (fun h => by cases h.2)]
          rfl
      · rw [not_dec' h2, not_dec h3, if_neg (fun h => h3 h.1.2)]
        rfl
    · rw [not_dec h2, if_neg (fun h => h2 h.1.1)]
      rfl
  · rw [if_neg h, not_dec (by omega)]
    rfl
structure ROk (r : daily_Record) : Prop where
  n1 : 1 ≤ r.Days.length
  n60 : r.Days.length ≤ 60
  rise : 0 ≤ r.Rise ∧ r.Rise ≤ 1000000000
  fall : 0 ≤ r.Fall ∧ r.Fall ≤ 1000000000
  v : ∀ v ∈ r.Days, v.Known = true → 0 ≤ v.Flow.Lo ∧ v.Flow.Lo ≤ v.Flow.Hi ∧ v.Flow.Hi ≤ 1000000000
theorem okv_iff {v : daily_Value} : daily_Check_1 v = true ↔ (v.Known = true → 0 ≤ v.Flow.Lo ∧ v.Flow.Lo ≤ v.Flow.Hi ∧ v.Flow.Hi ≤ 1000000000) := by
  unfold daily_Check_1 daily_flows daily_flow
  rw [in_dec, in_dec]
  cases v.Known with
  | true =>
    rw [Bool.not_true, Bool.false_or, Bool.and_eq_true, decide_eq_true_eq, decide_eq_true_eq]
    constructor
    · rintro ⟨⟨a, b⟩, c, d⟩ _
      exact ⟨a, b, d⟩
    · intro h
      have := h rfl
      exact ⟨⟨this.1, this.2.1⟩, by omega, this.2.2⟩
  | false => simp
theorem check_iff {r : daily_Record} : checkD r = 0 ↔ ROk r := by
  unfold checkD
  constructor
  · intro h
    split at h
    · rename_i h1
      split at h
      · rename_i h2
        exact ⟨h1.1, h1.2, h2.1.1, h2.1.2, fun v hv => okv_iff.1 (List.all_eq_true.1 h2.2 v hv)⟩
      · omega
    · omega
  · intro h
    rw [if_pos ⟨h.n1, h.n60⟩, if_pos ⟨⟨h.rise, h.fall⟩, List.all_eq_true.2 fun v hv => okv_iff.2 (h.v v hv)⟩]
def lo (r : daily_Record) (i : Nat) : Int := (vs (r.Days.getD i dv0)).Lo
def hi (r : daily_Record) (i : Nat) : Int := (vs (r.Days.getD i dv0)).Hi
theorem own_bd {r : daily_Record} (hr : ROk r) (i : Nat) : 0 ≤ lo r i ∧ lo r i ≤ hi r i ∧ hi r i ≤ 1000000000 := by
  unfold lo hi
  by_cases h : i < r.Days.length
  · have hm : r.Days.getD i dv0 ∈ r.Days := by
      rw [← get_getD h]
      exact List.getElem_mem _
    have := hr.v _ hm
    unfold vs
    cases hk : (r.Days.getD i dv0).Known with
    | true => exact this hk
    | false =>
      show (0 : Int) ≤ 0 ∧ (0 : Int) ≤ 1000000000 ∧ (1000000000 : Int) ≤ 1000000000
      decide
  · have : r.Days.getD i dv0 = dv0 := by
      simp [List.getD, List.getElem?_eq_none (show r.Days.length ≤ i by omega)]
    rw [this]
    decide
/-! ### Lists by their elements -/
def rl {α : Type} (n : Nat) (g : Nat → α) : List α := (List.range n).map g
theorem rl_len {α : Type} {n : Nat} {g : Nat → α} : (rl n g).length = n := by simp [rl]
theorem rl_get {α : Type} {n : Nat} {g : Nat → α} {i : Nat} (h : i < n) : getI (rl n g) (i : Int) = some (g i) := by
  rw [getI_nat (by rw [rl_len]; exact h)]
  simp [rl]
theorem rl_congr {α : Type} {n : Nat} {g g' : Nat → α} (h : ∀ i, i < n → g i = g' i) : rl n g = rl n g' := by
  unfold rl
  exact List.map_congr_left fun i hi => h i (List.mem_range.1 hi)
theorem rl_set {α : Type} {n : Nat} {g : Nat → α} {i : Nat} {v : α} : (rl n g).set i v = rl n fun j => if i = j then v else g j := by
  refine List.ext_getElem (by simp [rl]) fun m h1 h2 => ?_
  rw [List.getElem_set]
  simp [rl]
theorem rl_all {α : Type} {n : Nat} {g : Nat → α} {p : α → Bool} : (rl n g).all p = true ↔ ∀ i, i < n → p (g i) = true := by
  rw [List.all_eq_true]
  constructor
  · intro h i hi
    exact h _ (List.mem_map.2 ⟨i, List.mem_range.2 hi, rfl⟩)
  · intro h x hx
    obtain ⟨i, hi, rfl⟩ := List.mem_map.1 hx
    exact h i (List.mem_range.1 hi)
/-! ### There, and back -/
theorem pairs_fwd {N n : Nat} (hN : 100 ≤ N) {days : List daily_Value} (hn : days.length = n) (h1 : 1 ≤ n) (h60 : n ≤ 70) {σ : Type} (y : σ → Int × Int → Option (σ × Bool)) (st : Nat → σ) {x x1 : Int}
    (h : ∀ i : Nat, i + 1 < n → y (st i) ((i : Int), ((i + 1 : Nat) : Int)) = some (st (i + 1), true)) : daily_work_pairs_1 N x x1 days false y (st 0) = some (st (n - 1)) := by
  unfold daily_work_pairs_1
  have := runS (ρ := σ) (fun i : Nat => ((i : Int), st i)) (n - 1) (fun s3 => daily_work_pairs_1_b3 N days false y s3.1 s3.2) (fun i hi => by
    show daily_work_pairs_1_b3 N days false y (i : Int) (st i) = _
    unfold daily_work_pairs_1_b3 daily_work_pairs_1_j9
    rw [hn, W_sm (n := (n : Int) - 1) (by omega) (by omega), dT (by omega), cond_true, cond_false, W_succ (by omega), h i (by omega), Option.bind_some]
    rfl) (by
    show daily_work_pairs_1_b3 N days false y ((n - 1 : Nat) : Int) (st (n - 1)) = _
    unfold daily_work_pairs_1_b3
    rw [hn, W_sm (n := (n : Int) - 1) (by omega) (by omega), dF (by omega), cond_false]) (N := N) (by omega)
  rw [show ((0 : Int), st 0) = (((0 : Nat) : Int), st 0) from rfl, this]
  rfl
theorem pairs_bwd {N n : Nat} (hN : 100 ≤ N) {days : List daily_Value} (hn : days.length = n) (h1 : 1 ≤ n) (h60 : n ≤ 70) {σ : Type} (y : σ → Int × Int → Option (σ × Bool)) (st : Nat → σ) {x x1 : Int}
    (h : ∀ i : Nat, i + 1 < n → y (st i) (((n - 1 - i : Nat) : Int), ((n - 2 - i : Nat) : Int)) = some (st (i + 1), true)) : daily_work_pairs_1 N x x1 days true y (st 0) = some (st (n - 1)) := by
  unfold daily_work_pairs_1
  have := runS (ρ := σ) (fun i : Nat => ((i : Int), st i)) (n - 1) (fun s3 => daily_work_pairs_1_b3 N days true y s3.1 s3.2) (fun i hi => by
    show daily_work_pairs_1_b3 N days true y (i : Int) (st i) = _
    unfold daily_work_pairs_1_b3 daily_work_pairs_1_j9
    rw [hn, W_sm (n := (n : Int) - 1) (by omega) (by omega), dT (by omega), cond_true, cond_true, W_sm (n := (n : Int) - 1 - (i : Int)) (by omega) (by omega), W_sm (n := (n : Int) - 2) (by omega) (by omega), W_sm (n := (n : Int) - 2 - (i : Int)) (by omega) (by omega), W_succ (by omega),
      show (n : Int) - 1 - (i : Int) = ((n - 1 - i : Nat) : Int) by omega, show (n : Int) - 2 - (i : Int) = ((n - 2 - i : Nat) : Int) by omega, h i (by omega), Option.bind_some]
    rfl) (by
    show daily_work_pairs_1_b3 N days true y ((n - 1 : Nat) : Int) (st (n - 1)) = _
    unfold daily_work_pairs_1_b3
    rw [hn, W_sm (n := (n : Int) - 1) (by omega) (by omega), dF (by omega), cond_false]) (N := N) (by omega)
  rw [show ((0 : Int), st 0) = (((0 : Nat) : Int), st 0) from rfl, this]
  rfl
theorem narrow_spec {N n : Nat} {g : Nat → api_Span} {b : Nat} (hb : b < n) {l h : Int} {x x1 : Int} {x2 : List daily_Value} :
    daily_opened_1 N (b : Int) l h x x1 x2 (rl n g) = some (rl n fun j => if b = j then ⟨max (g b).Lo l, min (g b).Hi h⟩ else g j) := by
  unfold daily_opened_1
  rw [rl_get hb, Option.bind_some, Int.toNat_natCast, List.set_set, rl_set]
  unfold sameL
  rw [if_pos (by rw [rl_len, rl_len])]
  rfl
theorem G_bd {L : Nat → Int} {c : Int} (hc : 0 ≤ c) (h : ∀ i, 0 ≤ L i ∧ L i ≤ 1000000000) : ∀ i, 0 ≤ passG L c i ∧ passG L c i ≤ 1000000000
  | 0 => h 0
  | i + 1 => by
    have := G_bd hc h i
    have := h (i + 1)
    show 0 ≤ max (L (i + 1)) (passG L c i - c) ∧ max (L (i + 1)) (passG L c i - c) ≤ _
    omega
theorem L_bd {L : Nat → Int} {c : Int} (hc : 0 ≤ c) (h : ∀ i, 0 ≤ L i ∧ L i ≤ 1000000000) : ∀ i, 0 ≤ passL L c i ∧ passL L c i ≤ 1000000000
  | 0 => h 0
  | i + 1 => by
    have := L_bd hc h i
    have := h (i + 1)
    show 0 ≤ min (L (i + 1)) (passL L c i + c) ∧ min (L (i + 1)) (passL L c i + c) ≤ _
    omega
def tG (r : daily_Record) (i : Nat) : Int := toldG (lo r) r.Rise r.Fall r.Days.length i
def tL (r : daily_Record) (i : Nat) : Int := toldL (hi r) r.Rise r.Fall r.Days.length i
def told (r : daily_Record) : List api_Span := rl r.Days.length fun i => ⟨tG r i, tL r i⟩
theorem told_bd {r : daily_Record} (hr : ROk r) (i : Nat) : (0 ≤ tG r i ∧ tG r i ≤ 1000000000) ∧ 0 ≤ tL r i ∧ tL r i ≤ 1000000000 := by
  have hL : ∀ i, 0 ≤ lo r i ∧ lo r i ≤ 1000000000 := fun i => by have := own_bd hr i; omega
  have hH : ∀ i, 0 ≤ hi r i ∧ hi r i ≤ 1000000000 := fun i => by have := own_bd hr i; omega
  exact ⟨G_bd hr.rise.1 (fun j => G_bd hr.fall.1 hL _) _, L_bd hr.fall.1 (fun j => L_bd hr.rise.1 hH _) _⟩
def fwd (r : daily_Record) (k j : Nat) : api_Span := if j ≤ k then ⟨passG (lo r) r.Fall j, passL (hi r) r.Rise j⟩ else ⟨lo r j, hi r j⟩
def bwd (r : daily_Record) (k j : Nat) : api_Span := if r.Days.length - 1 - j ≤ k then ⟨tG r j, tL r j⟩ else ⟨passG (lo r) r.Fall j, passL (hi r) r.Rise j⟩
theorem own_list {r : daily_Record} : r.Days.map vs = rl r.Days.length (fwd r 0) := by
  refine List.ext_getElem (by simp [rl]) fun m h1 h2 => ?_
  have hm : m < r.Days.length := by simpa using h1
  simp only [List.getElem_map, rl, List.getElem_range]
  rw [get_getD (d := dv0)]
  unfold fwd lo hi
  split
  · rename_i h
    obtain rfl : m = 0 := by omega
    rfl
  · rfl
theorem mid_list {r : daily_Record} (h1 : 1 ≤ r.Days.length) : rl r.Days.length (fwd r (r.Days.length - 1)) = rl r.Days.length (bwd r 0) := by
  refine rl_congr fun i hi => ?_
  unfold fwd bwd
  rw [if_pos (by omega)]
  split
  · rename_i h
    obtain rfl : i = r.Days.length - 1 := by omega
    unfold tG tL toldG toldL
    rw [Nat.sub_self]
    show _ = (⟨passG (lo r) r.Fall (r.Days.length - 1 - 0), passL _ _ (r.Days.length - 1 - 0)⟩ : api_Span)
    rfl
  · rfl
theorem end_list {r : daily_Record} : rl r.Days.length (bwd r (r.Days.length - 1)) = told r := by
  refine rl_congr fun i hi => ?_
  unfold bwd
  rw [if_pos (by omega)]
theorem fwd_step {N : Nat} {r : daily_Record} (hr : ROk r) {x1 : List api_Span} (hx : x1.length = r.Days.length) {i : Nat} (hi' : i + 1 < r.Days.length) : daily_opened_r13 N r x1 (rl r.Days.length (fwd r i)) (i : Int) ((i + 1 : Nat) : Int) = some (.go (rl r.Days.length (fwd r (i + 1)))) := by
  have hL : ∀ i, 0 ≤ lo r i ∧ lo r i ≤ 1000000000 := fun i => by have := own_bd hr i; omega
  have hH : ∀ i, 0 ≤ hi r i ∧ hi r i ≤ 1000000000 := fun i => by have := own_bd hr i; omega
  have b1 := G_bd hr.fall.1 hL i
  have b2 := L_bd hr.rise.1 hH i
  have hr1 := hr.rise
  have hr2 := hr.fall
  have e : fwd r i i = ⟨passG (lo r) r.Fall i, passL (hi r) r.Rise i⟩ := if_pos (Nat.le_refl _)
  have e2 : fwd r i (i + 1) = ⟨lo r (i + 1), hi r (i + 1)⟩ := if_neg (by omega)
  unfold daily_opened_r13
  rw [rl_get (by omega), Option.bind_some, Option.bind_some, e, W_sm (n := passG (lo r) r.Fall i - r.Fall) (by omega) (by omega), W_sm (n := passL (hi r) r.Rise i + r.Rise) (by omega) (by omega), narrow_spec hi', Option.bind_some, e2]
  unfold sameL
  rw [if_pos (by rw [rl_len, hx]), Option.bind_some]
  congr 2
  refine rl_congr fun j hj => ?_
  unfold fwd
  by_cases h : i + 1 = j
  · subst h
    rw [if_pos rfl, if_pos (Nat.le_refl _)]
    rfl
  · rw [if_neg h]
    by_cases h2 : j ≤ i
    · rw [if_pos h2, if_pos (by omega)]
    · rw [if_neg h2, if_neg (by omega)]
theorem bwd_step {N : Nat} {r : daily_Record} (hr : ROk r) {x1 : List api_Span} (hx : x1.length = r.Days.length) {i : Nat} (hi' : i + 1 < r.Days.length) : daily_opened_r18 N r x1 (rl r.Days.length (bwd r i)) ((r.Days.length - 1 - i : Nat) : Int) ((r.Days.length - 2 - i : Nat) : Int) = some (.go (rl r.Days.length (bwd r (i + 1)))) := by
  have b1 := told_bd hr (r.Days.length - 1 - i)
  have hr1 := hr.rise
  have hr2 := hr.fall
  have e : bwd r i (r.Days.length - 1 - i) = ⟨tG r (r.Days.length - 1 - i), tL r (r.Days.length - 1 - i)⟩ := if_pos (by omega)
  have e2 : bwd r i (r.Days.length - 2 - i) = ⟨passG (lo r) r.Fall (r.Days.length - 2 - i), passL (hi r) r.Rise (r.Days.length - 2 - i)⟩ := if_neg (by omega)
  unfold daily_opened_r18
  rw [rl_get (by omega), Option.bind_some, Option.bind_some, e, W_sm (n := tG r (r.Days.length - 1 - i) - r.Rise) (by omega) (by omega), W_sm (n := tL r (r.Days.length - 1 - i) + r.Fall) (by omega) (by omega), narrow_spec (by omega), Option.bind_some, e2]
  unfold sameL
  rw [if_pos (by rw [rl_len, hx]), Option.bind_some]
  congr 2
  refine rl_congr fun j hj => ?_
  by_cases h : r.Days.length - 2 - i = j
  · subst h
    rw [if_pos rfl]
    unfold bwd
    rw [if_pos (by omega)]
    unfold tG tL toldG toldL
    rw [show r.Days.length - 1 - (r.Days.length - 2 - i) = i + 1 by omega, show r.Days.length - 1 - (r.Days.length - 1 - i) = i by omega]
    show _ = (⟨max (passG (lo r) r.Fall (r.Days.length - 1 - (i + 1))) _, min (passL (hi r) r.Rise (r.Days.length - 1 - (i + 1))) _⟩ : api_Span)
    rw [show r.Days.length - 1 - (i + 1) = r.Days.length - 2 - i by omega]
  · rw [if_neg h]
    unfold bwd
    by_cases h2 : r.Days.length - 1 - j ≤ i
    · rw [if_pos h2, if_pos (by omega)]
    · rw [if_neg h2, if_neg (by omega)]
def agB (r : daily_Record) : Bool := (told r).all daily_opened_2
theorem agB_iff {r : daily_Record} : agB r = true ↔ Agree (lo r) (hi r) r.Rise r.Fall r.Days.length := by
  unfold agB told
  rw [rl_all]
  constructor
  · intro h i hi
    exact of_decide_eq_true (h i hi)
  · intro h i hi
    exact dT (h i hi)
theorem opened_ok {N : Nat} (hN : 100 ≤ N) {r : daily_Record} (hr : ROk r) : daily_opened N r = some (.inr (r.Rise, r.Fall, told r, agB r, 0)) := by
  have h60 := hr.n60
  unfold daily_opened
  rw [Check_spec hN (by omega), Option.bind_some, check_iff.2 hr]
  have hl := runS (ρ := (Bool × Int) ⊕ (Int × Int × (List api_Span) × Bool × Int)) (fun i : Nat => ((i : Int), (r.Days.take i).map vs)) r.Days.length (fun s9 => daily_opened_b9 N r s9.1 s9.2) (fun i hi => by
    show daily_opened_b9 N r (i : Int) ((r.Days.take i).map vs) = _
    unfold daily_opened_b9
    rw [lt_dec hi, cond_true, getI_d dv0 hi, Option.bind_some, vspan, Option.bind_some, room_ok (by simp; omega), Option.bind_some, W_succ (by omega), take_map_succ (d := dv0) hi]) (by
    show daily_opened_b9 N r (r.Days.length : Int) _ = _
    unfold daily_opened_b9
    rw [ge_dec, cond_false]) (N := N) (by omega)
  rw [show ((0 : Int) != 0) = false from rfl, cond_false]
  rw [show ((0 : Int), ([] : List api_Span)) = (((0 : Nat) : Int), (r.Days.take 0).map vs) from rfl, hl, Option.bind_some, List.take_length, own_list]
  simp only [exK, daily_work_pairs, Option.bind_some]
  have e0 := own_list (r := r)
  have k1 := pairs_fwd hN (days := r.Days) rfl hr.n1 (by omega) (x := r.Rise) (x1 := r.Fall) (rY (fun (zz : (List api_Span)) (ix_ : (Int × Int)) => daily_opened_r13 N r (rl r.Days.length (fwd r 0)) zz ix_.1 ix_.2)) (fun i => .go (rl r.Days.length (fwd r i))) (fun i hi => by
    show Option.map _ (daily_opened_r13 N r (rl r.Days.length (fwd r 0)) (rl r.Days.length (fwd r i)) (i : Int) ((i + 1 : Nat) : Int)) = _
    rw [fwd_step hr rl_len hi]
    rfl)
  rw [k1, Option.bind_some, mid_list hr.n1]
  simp only [rsK]
  have k2 := pairs_bwd hN (days := r.Days) rfl hr.n1 (by omega) (x := r.Rise) (x1 := r.Fall) (rY (fun (zz : (List api_Span)) (ix_ : (Int × Int)) => daily_opened_r18 N r (rl r.Days.length (bwd r 0)) zz ix_.1 ix_.2)) (fun i => .go (rl r.Days.length (bwd r i))) (fun i hi => by
    show Option.map _ (daily_opened_r18 N r (rl r.Days.length (bwd r 0)) (rl r.Days.length (bwd r i)) ((r.Days.length - 1 - i : Nat) : Int) ((r.Days.length - 2 - i : Nat) : Int)) = _
    rw [bwd_step hr rl_len hi]
    rfl)
  rw [k2, Option.bind_some, end_list]
  have hlen : (told r).length = r.Days.length := rl_len
  show Option.bind (daily_every_api_Span N (told r)) _ = _
  rw [every_span (by omega) (by omega)]
  rfl
theorem agreed_ok {N : Nat} (hN : 100 ≤ N) {r : daily_Record} (hr : ROk r) : daily_agreed N r = some (.inr (r.Rise, r.Fall, told r, if agB r = true then 0 else 7)) := by
  unfold daily_agreed
  rw [opened_ok hN hr, Option.bind_some]
  show cond (((0 : Int) == 0) && (!agB r)) _ _ = _
  cases agB r <;> rfl
end Go.Nilo
