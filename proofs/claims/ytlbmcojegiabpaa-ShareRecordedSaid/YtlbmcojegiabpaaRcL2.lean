/-
  What the plain functions compute, in plain arithmetic, part 2. Conditions: what each theorem names.
-/
import Derived.Test.YtlbmcojegiabpaaRcL1
set_option linter.unusedSimpArgs false
set_option linter.unusedVariables false
namespace Go.Nilo
theorem dT {p : Prop} [Decidable p] (h : p) : decide p = true := decide_eq_true h
theorem dF {p : Prop} [Decidable p] (h : ¬p) : decide p = false := decide_eq_false h
theorem getI_d {α : Type} {l : List α} {i : Nat} (d : α) (h : i < l.length) : getI l (i : Int) = some (l.getD i d) := by rw [getI_nat h, get_getD (d := d) h]
theorem W_sm {n : Int} (h1 : -4000000000000000000 ≤ n) (h2 : n ≤ 4000000000000000000) : W n = n := W_id (by omega) (by omega)
theorem take_map_succ {α β : Type} {f : α → β} {l : List α} {i : Nat} {d : α} (h : i < l.length) : (l.take (i + 1)).map f = (l.take i).map f ++ [f (l.getD i d)] := by
  rw [List.take_succ_eq_append_getElem h, List.map_append, get_getD (d := d) h]
  rfl
/-! ### How far a flow can rise from a day to another one -/
/-- `U a b`: the flow of day b is at most that of day a and so much. -/
def U (rise fall : Int) (a b : Nat) : Int := if a < b then ((b - a : Nat) : Int) * rise else ((a - b : Nat) : Int) * fall
theorem U_self {r f : Int} {a : Nat} : U r f a a = 0 := by
  unfold U
  rw [if_neg (by omega), Nat.sub_self]
  simp
theorem U_up {r f : Int} {a b : Nat} (h : a ≤ b) : U r f a b = ((b - a : Nat) : Int) * r := by
  rcases Nat.lt_or_ge a b with h' | h'
  · unfold U
    rw [if_pos h']
  · obtain rfl : a = b := by omega
    rw [U_self, Nat.sub_self]
    simp
theorem U_down {r f : Int} {a b : Nat} (h : b ≤ a) : U r f a b = ((a - b : Nat) : Int) * f := by
  unfold U
  rw [if_neg (by omega)]
theorem U_nonneg {r f : Int} (hr : 0 ≤ r) (hf : 0 ≤ f) {a b : Nat} : 0 ≤ U r f a b := by
  unfold U
  split
  · exact Int.mul_nonneg (by omega) hr
  · exact Int.mul_nonneg (by omega) hf
theorem nat_mul_mono {a b : Nat} {c : Int} (h : a ≤ b) (hc : 0 ≤ c) : (a : Int) * c ≤ (b : Int) * c := Int.mul_le_mul_of_nonneg_right (by omega) hc
theorem nat_mul_add {a b c : Nat} {r : Int} (h : a + b = c) : (a : Int) * r + (b : Int) * r = (c : Int) * r := by
  subst h
  push_cast
  rw [Int.add_mul]
theorem U_tri {r f : Int} (hr : 0 ≤ r) (hf : 0 ≤ f) {a b c : Nat} : U r f a c ≤ U r f a b + U r f b c := by
  rcases Nat.le_total a c with h1 | h1
  · rw [U_up h1]
    rcases Nat.le_total a b with h2 | h2
    · rcases Nat.le_total b c with h3 | h3
      · rw [U_up h2, U_up h3, nat_mul_add (show b - a + (c - b) = c - a by omega)]
        exact Int.le_refl _
      · rw [U_up h2]
        have := U_nonneg hr hf (a := b) (b := c)
        have := nat_mul_mono (show c - a ≤ b - a by omega) hr
        omega
    · have h3 : b ≤ c := by omega
      rw [U_up h3]
      have := U_nonneg hr hf (a := a) (b := b)
      have := nat_mul_mono (show c - a ≤ c - b by omega) hr
      omega
  · rw [U_down h1]
    rcases Nat.le_total b a with h2 | h2
    · rcases Nat.le_total c b with h3 | h3
      · rw [U_down h2, U_down h3, nat_mul_add (show a - b + (b - c) = a - c by omega)]
        exact Int.le_refl _
      · rw [U_down h2]
        have := U_nonneg hr hf (a := b) (b := c)
        have := nat_mul_mono (show a - c ≤ a - b by omega) hf
        omega
    · have h3 : c ≤ b := by omega
      rw [U_down h3]
      have := U_nonneg hr hf (a := a) (b := b)
      have := nat_mul_mono (show a - c ≤ b - c by omega) hf
      omega
/-! ### The two passes -/
/-- One pass: the greatest of what each day, and those ahead of it, less what can be lost on the way, say. -/
def passG (L : Nat → Int) (c : Int) : Nat → Int
  | 0 => L 0
  | i + 1 => max (L (i + 1)) (passG L c i - c)
def passL (H : Nat → Int) (c : Int) : Nat → Int
  | 0 => H 0
  | i + 1 => min (H (i + 1)) (passL H c i + c)
theorem passG_iff {L : Nat → Int} {c : Int} : ∀ (i : Nat) (t : Int), passG L c i ≤ t ↔ ∀ k, k ≤ i → L k ≤ t + ((i - k : Nat) : Int) * c
  | 0, t => by
    constructor
    · intro h k hk
      obtain rfl : k = 0 := by omega
      have h' : L 0 ≤ t := h
      simpa using h'
    · intro h
      have := h 0 (Nat.le_refl _)
      show L 0 ≤ t
      simpa using this
  | i + 1, t => by
    have ih := passG_iff (L := L) (c := c) i (t + c)
    show max (L (i + 1)) (passG L c i - c) ≤ t ↔ _
    constructor
    · intro h k hk
      rcases Nat.lt_or_ge k (i + 1) with h1 | h1
      · have := ih.1 (by omega) k (by omega)
        have e := nat_mul_add (r := c) (show i - k + 1 = i + 1 - k by omega)
        have : ((1 : Nat) : Int) * c = c := by simp
        omega
      · obtain rfl : k = i + 1 := by omega
        rw [Nat.sub_self]
        simp only [Int.natCast_zero, Int.zero_mul, Int.add_zero]
        omega
    · intro h
      have h0 := h (i + 1) (Nat.le_refl _)
      rw [Nat.sub_self] at h0
      simp only [Int.natCast_zero, Int.zero_mul, Int.add_zero] at h0
      have := ih.2 (fun k hk => by
        have := h k (by omega)
        have e := nat_mul_add (r := c) (show i - k + 1 = i + 1 - k by omega)
        have : ((1 : Nat) : Int) * c = c := by simp
        omega)
      omega
theorem passL_iff {H : Nat → Int} {c : Int} : ∀ (i : Nat) (t : Int), t ≤ passL H c i ↔ ∀ k, k ≤ i → t ≤ H k + ((i - k : Nat) : Int) * c
  | 0, t => by
    constructor
    · intro h k hk
      obtain rfl : k = 0 := by omega
      have h' : t ≤ H 0 := h
      simpa using h'
    · intro h
      have := h 0 (Nat.le_refl _)
      show t ≤ H 0
      simpa using this
  | i + 1, t => by
    have ih := passL_iff (H := H) (c := c) i (t - c)
    show t ≤ min (H (i + 1)) (passL H c i + c) ↔ _
    constructor
    · intro h k hk
      rcases Nat.lt_or_ge k (i + 1) with h1 | h1
      · have := ih.1 (by omega) k (by omega)
        have e := nat_mul_add (r := c) (show i - k + 1 = i + 1 - k by omega)
        have : ((1 : Nat) : Int) * c = c := by simp
        omega
      · obtain rfl : k = i + 1 := by omega
        rw [Nat.sub_self]
        simp only [Int.natCast_zero, Int.zero_mul, Int.add_zero]
        omega
    · intro h
      have h0 := h (i + 1) (Nat.le_refl _)
      rw [Nat.sub_self] at h0
      simp only [Int.natCast_zero, Int.zero_mul, Int.add_zero] at h0
      have := ih.2 (fun k hk => by
        have := h k (by omega)
        have e := nat_mul_add (r := c) (show i - k + 1 = i + 1 - k by omega)
        have : ((1 : Nat) : Int) * c = c := by simp
        omega)
      omega
/-- The least flow of a day: there, and back. -/
def toldG (L : Nat → Int) (rise fall : Int) (n i : Nat) : Int := passG (fun j => passG L fall (n - 1 - j)) rise (n - 1 - i)
def toldL (H : Nat → Int) (rise fall : Int) (n i : Nat) : Int := passL (fun j => passL H rise (n - 1 - j)) fall (n - 1 - i)
theorem toldG_iff {L : Nat → Int} {r f : Int} (hr : 0 ≤ r) (hf : 0 ≤ f) {n i : Nat} (hi : i < n) {t : Int} : toldG L r f n i ≤ t ↔ ∀ k, k < n → L k ≤ t + U r f i k := by
  unfold toldG
  rw [passG_iff]
  constructor
  · intro h k hk
    rcases Nat.le_total i k with h1 | h1
    · have := (passG_iff _ _).1 (h (n - 1 - k) (by omega)) k (by omega)
      rw [show n - 1 - (n - 1 - k) = k by omega, Nat.sub_self, show n - 1 - i - (n - 1 - k) = k - i by omega] at this
      rw [U_up h1]
      simpa using this
    · have := (passG_iff _ _).1 (h (n - 1 - i) (by omega)) k (by omega)
      rw [show n - 1 - (n - 1 - i) = i by omega, Nat.sub_self] at this
      rw [U_down h1]
      simpa using this
  · intro h j hj
    rw [passG_iff]
    intro k hk
    have h1 := h k (by omega)
    have h2 : U r f i k ≤ U r f i (n - 1 - j) + U r f (n - 1 - j) k := U_tri hr hf
    rw [U_up (show i ≤ n - 1 - j by omega), U_down hk, show n - 1 - j - i = n - 1 - i - j by omega] at h2
    omega
theorem toldL_iff {H : Nat → Int} {r f : Int} (hr : 0 ≤ r) (hf : 0 ≤ f) {n i : Nat} (hi : i < n) {t : Int} : t ≤ toldL H r f n i ↔ ∀ k, k < n → t ≤ H k + U r f k i := by
  have sh : ∀ {x : Int} (m : Nat) (s : Int), s ≤ passL H r m + x ↔ ∀ k, k ≤ m → s ≤ H k + ((m - k : Nat) : Int) * r + x := fun {x} m s => by
    have := passL_iff (H := H) (c := r) m (s - x)
    constructor
    · intro h k hk
      have := this.1 (by omega) k hk
      omega
    · intro h
      have := this.2 fun k hk => by
        have := h k hk
        omega
      omega
  unfold toldL
  rw [passL_iff]
  constructor
  · intro h k hk
    rcases Nat.le_total i k with h1 | h1
    · have := (sh _ _).1 (h (n - 1 - k) (by omega)) k (by omega)
      rw [show n - 1 - (n - 1 - k) = k by omega, Nat.sub_self, show n - 1 - i - (n - 1 - k) = k - i by omega] at this
      rw [U_down h1]
      simpa using this
    · have := (sh _ _).1 (h (n - 1 - i) (by omega)) k (by omega)
      rw [show n - 1 - (n - 1 - i) = i by omega, Nat.sub_self] at this
      rw [U_up h1]
      simpa using this
  · intro h j hj
    rw [sh]
    intro k hk
    have h1 := h k (by omega)
    have h2 : U r f k i ≤ U r f k (n - 1 - j) + U r f (n - 1 - j) i := U_tri hr hf
    rw [U_down (show i ≤ n - 1 - j by omega), U_up hk, show n - 1 - j - i = n - 1 - i - j by omega] at h2
    omega
theorem G_step {L : Nat → Int} {r f : Int} (hr : 0 ≤ r) (hf : 0 ≤ f) {n i j : Nat} (hi : i < n) (hj : j < n) : toldG L r f n i ≤ toldG L r f n j + U r f j i := by
  rw [toldG_iff hr hf hi]
  intro k hk
  have h1 := (toldG_iff (L := L) hr hf hj).1 (Int.le_refl _) k hk
  have h2 : U r f j k ≤ U r f j i + U r f i k := U_tri hr hf
  omega
theorem L_step {H : Nat → Int} {r f : Int} (hr : 0 ≤ r) (hf : 0 ≤ f) {n i j : Nat} (hi : i < n) (hj : j < n) : toldL H r f n i ≤ toldL H r f n j + U r f j i := by
  have : toldL H r f n i - U r f j i ≤ toldL H r f n j := by
    rw [toldL_iff hr hf hj]
    intro k hk
    have h1 := (toldL_iff (H := H) hr hf hi).1 (Int.le_refl _) k hk
    have h2 : U r f k i ≤ U r f k j + U r f j i := U_tri hr hf
    omega
  omega
theorem G_own {L : Nat → Int} {r f : Int} (hr : 0 ≤ r) (hf : 0 ≤ f) {n i : Nat} (hi : i < n) : L i ≤ toldG L r f n i := by
  have := (toldG_iff (L := L) hr hf hi).1 (Int.le_refl _) i hi
  rw [U_self] at this
  omega
theorem L_own {H : Nat → Int} {r f : Int} (hr : 0 ≤ r) (hf : 0 ≤ f) {n i : Nat} (hi : i < n) : toldL H r f n i ≤ H i := by
  have := (toldL_iff (H := H) hr hf hi).1 (Int.le_refl _) i hi
  rw [U_self] at this
  omega
/-! ### Truths -/
structure Tru (L H : Nat → Int) (r f : Int) (n : Nat) (x : Nat → Int) : Prop where
  own : ∀ i, i < n → L i ≤ x i ∧ x i ≤ H i
  st : ∀ i, i + 1 < n → x (i + 1) ≤ x i + r ∧ x i ≤ x (i + 1) + f
theorem Tru.up {L H : Nat → Int} {r f : Int} {n : Nat} {x : Nat → Int} (h : Tru L H r f n x) (a : Nat) : ∀ m, a + m < n → x (a + m) ≤ x a + (m : Int) * r
  | 0, _ => by simp
  | m + 1, hm => by
    have h1 := h.up a m (by omega)
    have h2 := (h.st (a + m) (by omega)).1
    have := nat_mul_add (r := r) (show m + 1 = m + 1 from rfl)
    have : ((1 : Nat) : Int) * r = r := by simp
    rw [← Nat.add_assoc]
    omega
theorem Tru.down {L H : Nat → Int} {r f : Int} {n : Nat} {x : Nat → Int} (h : Tru L H r f n x) (a : Nat) : ∀ m, a + m < n → x a ≤ x (a + m) + (m : Int) * f
  | 0, _ => by simp
  | m + 1, hm => by
    have h1 := h.down a m (by omega)
    have h2 := (h.st (a + m) (by omega)).2
    have := nat_mul_add (r := f) (show m + 1 = m + 1 from rfl)
    have : ((1 : Nat) : Int) * f = f := by simp
    rw [← Nat.add_assoc]
    omega
theorem Tru.far {L H : Nat → Int} {r f : Int} {n : Nat} {x : Nat → Int} (h : Tru L H r f n x) {a b : Nat} (ha : a < n) (hb : b < n) : x b ≤ x a + U r f a b := by
  rcases Nat.le_total a b with h1 | h1
  · have := h.up a (b - a) (by omega)
    rw [show a + (b - a) = b by omega] at this
    rw [U_up h1]
    exact this
  · have := h.down b (a - b) (by omega)
    rw [show b + (a - b) = a by omega] at this
    rw [U_down h1]
    exact this
theorem Tru.told {L H : Nat → Int} {r f : Int} (hr : 0 ≤ r) (hf : 0 ≤ f) {n : Nat} {x : Nat → Int} (h : Tru L H r f n x) {i : Nat} (hi : i < n) : toldG L r f n i ≤ x i ∧ x i ≤ toldL H r f n i := by
  constructor
  · rw [toldG_iff hr hf hi]
    intro k hk
    have := h.far hi hk
    have := h.own k hk
    omega
  · rw [toldL_iff hr hf hi]
    intro k hk
    have := h.far hk hi
    have := h.own k hk
    omega
def Agree (L H : Nat → Int) (r f : Int) (n : Nat) : Prop := ∀ i, i < n → toldG L r f n i ≤ toldL H r f n i
theorem Agree.low {L H : Nat → Int} {r f : Int} (hr : 0 ≤ r) (hf : 0 ≤ f) {n : Nat} (h : Agree L H r f n) : Tru L H r f n (toldG L r f n) := by
  refine ⟨fun i hi => ⟨G_own hr hf hi, Int.le_trans (h i hi) (L_own hr hf hi)⟩, fun i hi => ?_⟩
  have h1 := G_step (L := L) hr hf (show i + 1 < n from hi) (show i < n by omega)
  have h2 := G_step (L := L) hr hf (show i < n by omega) (show i + 1 < n from hi)
  rw [U_up (by omega), show i + 1 - i = 1 by omega] at h1
  rw [U_down (by omega), show i + 1 - i = 1 by omega] at h2
  simp only [Int.natCast_one, Int.one_mul] at h1 h2
  exact ⟨h1, h2⟩
theorem Agree.high {L H : Nat → Int} {r f : Int} (hr : 0 ≤ r) (hf : 0 ≤ f) {n : Nat} (h : Agree L H r f n) : Tru L H r f n (toldL H r f n) := by
  refine ⟨fun i hi => ⟨Int.le_trans (G_own hr hf hi) (h i hi), L_own hr hf hi⟩, fun i hi => ?_⟩
  have h1 := L_step (H := H) hr hf (show i + 1 < n from hi) (show i < n by omega)
  have h2 := L_step (H := H) hr hf (show i < n by omega) (show i + 1 < n from hi)
  rw [U_up (by omega), show i + 1 - i = 1 by omega] at h1
  rw [U_down (by omega), show i + 1 - i = 1 by omega] at h2
  simp only [Int.natCast_one, Int.one_mul] at h1 h2
  exact ⟨h1, h2⟩
theorem Tru.agree {L H : Nat → Int} {r f : Int} (hr : 0 ≤ r) (hf : 0 ≤ f) {n : Nat} {x : Nat → Int} (h : Tru L H r f n x) : Agree L H r f n := fun i hi => Int.le_trans (h.told hr hf hi).1 (h.told hr hf hi).2
/-! ### As the reference asks all days -/
/-! ### The greatest -/
end Go.Nilo
