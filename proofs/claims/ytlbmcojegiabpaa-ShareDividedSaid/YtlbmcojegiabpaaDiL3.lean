/-
  What the plain functions compute, in plain arithmetic, part 3. Conditions: what each theorem names.
-/
import Derived.Test.YtlbmcojegiabpaaDiL2
set_option linter.unusedSimpArgs false
set_option linter.unusedVariables false
namespace Go.Nilo
/-! ### Loops over all elements of a list -/
theorem every_gen {N : Nat} {α : Type} {l : List α} {f ok : α → Bool} (hf : ∀ x, f x = !ok x) (hl : l.length < N) (hl' : l.length ≤ 1000000) (b : Int → Option (Step Int Int))
    (hb : ∀ x, b x = cond (decide (x < ((l.length : Nat) : Int))) (Option.bind (getI l x) fun e => cond (f e) (some (.ret x)) (some (.cont (W (x + 1))))) (some (.brk x))) :
    (Option.bind (Option.bind (Option.bind (loopO b N 0) fun x4 => exK x4 (fun _ => some (-1)) some) fun r => some (decide (0 ≤ r))) fun r => some (!r)) = some (l.all ok) := by
  have hany : l.any f = !l.all ok := by
    rw [List.all_eq_not_any_not, Bool.not_not]
    congr 1
    exact funext hf
  rcases indexLoop f l (by omega) b hb l.length 0 N (by omega) (by omega) with ⟨k, a1, a2, a3⟩ | ⟨a1, a2⟩
  · rw [List.drop_zero, hany] at a3
    rw [show ((0 : Nat) : Int) = 0 from rfl] at a1
    rw [a1]
    have : l.all ok = false := by simpa using a3
    rw [this]
    simp [exK, a2]
  · rw [List.drop_zero, hany] at a2
    rw [show ((0 : Nat) : Int) = 0 from rfl] at a1
    rw [a1]
    have : l.all ok = true := by simpa using a2
    rw [this]
    simp [exK]
def inB (n a b : Int) : Bool := decide (a ≤ n) && decide (n ≤ b)
theorem every_claim {N : Nat} {l : List Int} (hl : l.length < N) (hl' : l.length ≤ 1000000) : share_every_int N l = some (l.all fun x => inB x 1 1000000) := by
  unfold share_every_int slices_ContainsFunc_Lint_int slices_IndexFunc_Lint_int
  exact every_gen (f := share_every_int_1) (fun x => rfl) hl hl' _ (fun x => rfl)
def chkC (l : List Int) : Int := if 1 ≤ l.length ∧ l.length ≤ 12 then (if l.all fun x => inB x 1 1000000 then 0 else 4) else 3
theorem claimed_prog {N : Nat} (hN : 60 ≤ N) {l : List Int} (hl : l.length ≤ 15) : share_claimed N l = some (chkC l) := by
  unfold share_claimed chkC
  by_cases h : 1 ≤ l.length ∧ l.length ≤ 12
  · have e : (!share_in (l.length : Int) 1 12) = false := by
      unfold share_in
      simp only [Bool.not_eq_false', Bool.and_eq_true, decide_eq_true_eq]
      omega
    rw [e, if_pos h, cond_false, every_claim (by omega) (by omega), Option.bind_some]
    cases l.all fun x => inB x 1 1000000 <;> rfl
  · have e : (!share_in (l.length : Int) 1 12) = true := by
      unfold share_in
      simp only [Bool.not_eq_true', Bool.and_eq_false_iff, decide_eq_false_iff_not]
      omega
    rw [e, if_neg h, cond_true]
structure COk (l : List Int) : Prop where
  n : 1 ≤ l.length ∧ l.length ≤ 12
  c : ∀ i, i < l.length → 1 ≤ l.getD i 0 ∧ l.getD i 0 ≤ 1000000
theorem all_in {l : List Int} {a b : Int} (h : (l.all fun x => inB x a b) = true) {i : Nat} (hi : i < l.length) : a ≤ l.getD i 0 ∧ l.getD i 0 ≤ b := by
  have := List.all_eq_true.1 h l[i] (List.getElem_mem hi)
  rw [get_getD (d := (0 : Int)) hi] at this
  unfold inB at this
  simpa only [Bool.and_eq_true, decide_eq_true_eq] using this
theorem chkC_ok {l : List Int} (h : chkC l = 0) : COk l := by
  unfold chkC at h
  split at h
  · rename_i hh
    split at h
    · rename_i ha
      exact ⟨hh, fun i hi => all_in ha hi⟩
    · omega
  · omega
theorem same_int {N : Nat} {l : List Int} (hl : l.length ≤ 1000000) (hN : l.length < N) : kit_Same_int N l l = some true := by
  have hb : ∀ (i : Nat) (h : i < l.length), kit_Same_int_b7 N l l (i : Int) = some (.cont (((i + 1 : Nat) : Int))) := by
    intro i h
    unfold kit_Same_int_b7
    rw [lt_dec h, cond_true, getI_nat h, Option.bind_some, Option.bind_some, bne_self_eq_false, cond_false, W_succ (by omega)]
  have he : kit_Same_int_b7 N l l (l.length : Int) = some (.brk (l.length : Int)) := by
    unfold kit_Same_int_b7
    rw [ge_dec, cond_false]
  unfold kit_Same_int
  have h0 : ((((l.length : Nat) : Int)) != ((l.length : Nat) : Int)) = false := by simp
  rw [h0, cond_false, sameLoop l hl (fun s7 => kit_Same_int_b7 N l l s7) hb he hN]
  rfl
end Go.Nilo
