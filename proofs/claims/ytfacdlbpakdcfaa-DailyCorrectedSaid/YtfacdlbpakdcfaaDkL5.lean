/-
  What the plain functions compute, in plain arithmetic, part 5. Conditions: what each theorem names.
-/
import Derived.Test.YtfacdlbpakdcfaaDkL4
set_option linter.unusedSimpArgs false
set_option linter.unusedVariables false
namespace Go.Nilo
structure Cor (l : List daily_Reading) (x : List Int) (c : Int) : Prop where
 n : x.length = l.length
 m : Mono l.length (fun i => x.getD i 0)
 v : ∀ i,i < l.length → x.getD i 0 ∈ l.map daily_Reading.Value
 e : c = costL l (fun i => x.getD i 0)
 b : ∀ y,Mono l.length y → (∀ i,i < l.length → y i ∈ l.map daily_Reading.Value) → c ≤ costL l y
theorem correct_cor {N : Nat} (hN : 40 ≤ N) {l : List daily_Reading} (hl : RdOk l) : ∃ x c,daily_Correct N l = some (x,c,0) ∧ Cor l x c := by
 obtain ⟨x,c,h1,h2,h3,h4,h5,h6⟩ := correct_ok hN hl
 exact ⟨x,c,h1,h2,h3,h4,h5,h6⟩
theorem RdOk.wn {l : List daily_Reading} (h : RdOk l) : ∀ j,0 ≤ j → j < 0 + l.length → 1 ≤ wt l j := fun j _ hj => (h.w j (by omega)).1
theorem cost_nonneg {l : List daily_Reading} (h : RdOk l) (x : Nat → Int) : 0 ≤ costL l x := tot_nonneg _ _ fun j h1 h2 => by have := h.wn j h1 h2; omega
theorem greatest {P : Int → Prop} [DecidablePred P] : ∀ {l : List Int},(∃ x ∈ l,P x) → ∃ x ∈ l,P x ∧ ∀ y ∈ l,P y → y ≤ x
 | [],h => by obtain ⟨x,h,-⟩ := h; cases h
 | a::l,h => by
  by_cases hl : ∃ x ∈ l,P x
  ·obtain ⟨x,h1,h2,h3⟩ := greatest hl
   by_cases ha : P a ∧ x ≤ a
   ·refine ⟨a,List.mem_cons_self,ha.1,fun y hy hyt => ?_⟩
    rcases List.mem_cons.1 hy with rfl | hy
    ·exact Int.le_refl _
    ·exact Int.le_trans (h3 y hy hyt) ha.2
   ·refine ⟨x,List.mem_cons_of_mem _ h1,h2,fun y hy hyt => ?_⟩
    rcases List.mem_cons.1 hy with rfl | hy
    ·have : ¬ x ≤ y := fun hh => ha ⟨hyt,hh⟩
     omega
    ·exact h3 y hy hyt
  ·obtain ⟨x,h1,h2⟩ := h
   rcases List.mem_cons.1 h1 with rfl | h1
   ·refine ⟨x,List.mem_cons_self,h2,fun y hy hyt => ?_⟩
    rcases List.mem_cons.1 hy with rfl | hy
    ·exact Int.le_refl _
    ·exact absurd ⟨y,hy,hyt⟩ hl
   ·exact absurd ⟨x,h1,h2⟩ hl
end Go.Nilo
