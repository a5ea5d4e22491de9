/-
  What the plain functions compute, in plain arithmetic, part 7. Conditions: what each theorem names.
-/
import Derived.Test.YtlbmcojegiabpaaRcL6
set_option linter.unusedSimpArgs false
set_option linter.unusedVariables false
namespace Go.Nilo
theorem toldG_mono {L L' : Nat → Int} {r f : Int} (hr : 0 ≤ r) (hf : 0 ≤ f) {n i : Nat} (hi : i < n) (h : ∀ k, k < n → L k ≤ L' k) : toldG L r f n i ≤ toldG L' r f n i := by
  rw [toldG_iff hr hf hi]
  intro k hk
  have h1 := (toldG_iff (L := L') hr hf hi).1 (Int.le_refl _) k hk
  have := h k hk
  omega
theorem toldL_mono {H H' : Nat → Int} {r f : Int} (hr : 0 ≤ r) (hf : 0 ≤ f) {n i : Nat} (hi : i < n) (h : ∀ k, k < n → H' k ≤ H k) : toldL H' r f n i ≤ toldL H r f n i := by
  rw [toldL_iff hr hf hi]
  intro k hk
  have h1 := (toldL_iff (H := H') hr hf hi).1 (Int.le_refl _) k hk
  have := h k hk
  omega
theorem psum_mono {g h : Nat → Int} {a : Nat} : ∀ m, (∀ i, i < m → g (a + i) ≤ h (a + i)) → psum g a m ≤ psum h a m
  | 0, _ => Int.le_refl _
  | m + 1, hle => by
    have h1 := psum_mono m fun i hi => hle i (by omega)
    have h2 := hle m (by omega)
    show psum g a m + g (a + m) ≤ psum h a m + h (a + m)
    omega


theorem getD_set_self {α : Type} {l : List α} {i : Nat} {v d : α} (h : i < l.length) : (l.set i v).getD i d = v := by simp [List.getD, h]
theorem getD_set_ne {α : Type} {l : List α} {i j : Nat} {v d : α} (h : i ≠ j) : (l.set i v).getD j d = l.getD j d := by simp [List.getD, List.getElem?_set_ne h]
/-! ### What is known better -/
structure BOk (v b : daily_Value) (x : Int) : Prop where
  lo : (vs v).Lo ≤ (vs b).Lo ∧ (vs b).Lo ≤ x
  hi : x ≤ (vs b).Hi ∧ (vs b).Hi ≤ (vs v).Hi
  ok : b.Known = true → 0 ≤ b.Flow.Lo ∧ b.Flow.Lo ≤ b.Flow.Hi ∧ b.Flow.Hi ≤ 1000000000
theorem bok_refl {v : daily_Value} {x : Int} (h : SpOk v x) (hx : 0 ≤ x ∧ x ≤ 1000000) : BOk v v x := by
  have hk := h.k
  have e : (vs v).Lo ≤ x ∧ x ≤ (vs v).Hi := by
    unfold vs
    cases hv : v.Known with
    | true =>
      have := hk hv
      exact ⟨this.2.1, this.2.2.1⟩
    | false =>
      show (0 : Int) ≤ x ∧ x ≤ 1000000000
      omega
  exact ⟨⟨Int.le_refl _, e.1⟩, ⟨e.2, Int.le_refl _⟩, fun hv => by have := hk hv; omega⟩

theorem mod_lt {a : Int} {n : Nat} (ha : 0 ≤ a ∧ a ≤ 255) (hn : 1 ≤ n) : ∃ k : Nat, (W a).tmod (n : Int) = (k : Int) ∧ k < n := by
  rw [W_sm (by omega) (by omega), tmod_mod ha.1]
  have h1 := Int.emod_nonneg a (show (n : Int) ≠ 0 by omega)
  have h2 := Int.emod_lt_of_pos a (show (0 : Int) < (n : Int) by omega)
  exact ⟨(a % (n : Int)).toNat, by omega, by omega⟩
theorem fill_true {r : daily_Record} {x : List Int} (h : MOk r x) (h1 : 1 ≤ x.length) (h60 : x.length ≤ 60) : ROk r ∧ agB r = true := by
  have hr := h.ok h1 h60
  exact ⟨hr, agB_iff.2 ((h.tru h60).agree hr.rise.1 hr.fall.1)⟩

theorem volR_ok {r : daily_Record} (hr : ROk r) (ha : agB r = true) {a b : Nat} (h1 : a ≤ b) (h2 : b < r.Days.length) : volR r (a : Int) (b : Int) = (⟨psum (tG r) a (b + 1 - a), psum (tL r) a (b + 1 - a)⟩, 0) := by
  unfold volR
  rw [if_pos (check_iff.2 hr), if_pos ⟨⟨by omega, by omega⟩, by omega⟩, if_pos ha, Int.toNat_natCast, show ((b : Int) + 1 - (a : Int)).toNat = b + 1 - a by omega]


end Go.Nilo
