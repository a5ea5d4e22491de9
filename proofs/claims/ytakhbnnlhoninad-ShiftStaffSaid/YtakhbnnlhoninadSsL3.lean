/-
  What the plain functions compute, in plain arithmetic, part 3. Conditions: what each theorem names.
-/
import Derived.Test.YtakhbnnlhoninadSsL2
set_option linter.unusedSimpArgs false
set_option linter.unusedVariables false
namespace Go.Nilo
theorem dT {p : Prop} [Decidable p] (h : p) : decide p = true := decide_eq_true h
theorem dF {p : Prop} [Decidable p] (h : ¬p) : decide p = false := decide_eq_false h
def mk0 : shift_Mark := ⟨0,0⟩
theorem firstG_range {ρ : Type} {p : Nat → Bool} {v : ρ} : ∀ n i,firstG (fun j => cond (p j) none (some v)) i n = cond ((List.range' i n).all p) none (some v)
 | 0,i => rfl
 | n + 1,i => by
  unfold firstG
  rw [List.range'_succ,List.all_cons]
  cases p i with
  | false => rfl
  | true => exact firstG_range n (i + 1)
theorem range_all {p : Nat → Bool} {n : Nat} : (List.range' 0 n).all p = true ↔ ∀ j,j < n → p j = true := by
 rw [List.all_eq_true]
 constructor
 ·intro h j hj
  exact h j (List.mem_range'_1.2 ⟨Nat.zero_le _,by omega⟩)
 ·intro h j hj
  have := List.mem_range'_1.1 hj
  exact h j (by omega)
theorem getI_d {α : Type} {l : List α} {i : Nat} (d : α) (h : i < l.length) : getI l (i : Int) = some (l.getD i d) := by rw [getI_nat h,get_getD (d := d) h]
theorem W_sm {n : Int} (h1 : -4000000000000000000 ≤ n) (h2 : n ≤ 4000000000000000000) : W n = n := W_id (by omega) (by omega)
def ratedF (l : List shift_Mark) : Int := if 2 ≤ l.length ∧ l.length ≤ 12 then (if l.all shift_rated_1 then 0 else 60) else 3
def upAt (l : List shift_Mark) (i : Nat) : Bool := decide ((l.getD i mk0).Stage < (l.getD (i + 1) mk0).Stage) && decide ((l.getD i mk0).Flow < (l.getD (i + 1) mk0).Flow)
def upF (l : List shift_Mark) : Bool := (List.range' 0 (l.length - 1)).all (upAt l)
theorem every_mark {N : Nat} {l : List shift_Mark} (hl : l.length < N) (hl' : l.length ≤ 1000000) : shift_every_shift_Mark N l = some (l.all shift_rated_1) := by
 unfold shift_every_shift_Mark slices_ContainsFunc_Lshift_Mark_shift_Mark slices_IndexFunc_Lshift_Mark_shift_Mark
 exact every_gen (f := shift_every_shift_Mark_1) (ok := shift_rated_1) (fun x => rfl) hl hl' _ (fun x => rfl)
theorem in_len {n : Nat} {a b : Int} : shift_in (n : Int) a b = (decide (a ≤ (n : Int)) && decide ((n : Int) ≤ b)) := rfl
theorem rated_spec {N : Nat} (hN : 700 ≤ N) {l : List shift_Mark} (hl : l.length ≤ 50) : shift_rated N l = some (ratedF l) := by
 unfold shift_rated ratedF
 rw [every_mark (by omega) (by omega),in_len]
 by_cases h : 2 ≤ l.length ∧ l.length ≤ 12
 ·have h1 : decide ((2 : Int) ≤ (l.length : Int)) = true := dT (by omega)
  have h2 : decide ((l.length : Int) ≤ (12 : Int)) = true := dT (by omega)
  rw [if_pos h,h1,h2]
  cases l.all shift_rated_1 <;> rfl
 ·have h1 : (decide ((2 : Int) ≤ (l.length : Int)) && decide ((l.length : Int) ≤ (12 : Int))) = false := by
   rw [Bool.eq_false_iff]
   intro hc
   simp at hc
   omega
  rw [if_neg h,h1]
  rfl
theorem rises_spec {N : Nat} (hN : 700 ≤ N) {l : List shift_Mark} (h0 : 1 ≤ l.length) (hl : l.length ≤ 50) : shift_rises N l = some (upF l) := by
 unfold shift_rises upF
 have hsub : subO l 1 ((l.length : Nat) : Int) = some ((l.drop 1).take (l.length - 1)) := by
  unfold subO
  rw [if_pos (by omega)]
  congr 1
 rw [hsub,Option.bind_some]
 have hlen : ((l.drop 1).take (l.length - 1)).length = l.length - 1 := by simp
 have hs := scanS (ρ := Bool) (fun i : Nat => (i : Int)) (fun j => cond (upAt l j) none (some false)) (l.length - 1) (fun s4 => shift_rises_b4 N l ((l.drop 1).take (l.length - 1)) s4) (fun i hi => by
  show shift_rises_b4 N l _ (i : Int) = _
  unfold shift_rises_b4
  rw [hlen,lt_dec hi,cond_true,W_succ (by omega),getI_d mk0 (by omega),getI_d mk0 (by omega)]
  simp only [Option.bind_some]
  unfold upAt
  rcases Int.lt_or_le (l.getD i mk0).Stage (l.getD (i + 1) mk0).Stage with h1 | h1
  ·have e1 : decide ((l.getD (i + 1) mk0).Stage ≤ (l.getD i mk0).Stage) = false := dF (by omega)
   have e2 : decide ((l.getD i mk0).Stage < (l.getD (i + 1) mk0).Stage) = true := dT (by omega)
   rw [e1,e2]
   rcases Int.lt_or_le (l.getD i mk0).Flow (l.getD (i + 1) mk0).Flow with h2 | h2
   ·have e3 : decide ((l.getD (i + 1) mk0).Flow ≤ (l.getD i mk0).Flow) = false := dF (by omega)
    have e4 : decide ((l.getD i mk0).Flow < (l.getD (i + 1) mk0).Flow) = true := dT (by omega)
    rw [e3,e4]
    rfl
   ·have e3 : decide ((l.getD (i + 1) mk0).Flow ≤ (l.getD i mk0).Flow) = true := dT (by omega)
    have e4 : decide ((l.getD i mk0).Flow < (l.getD (i + 1) mk0).Flow) = false := dF (by omega)
    rw [e3,e4]
    rfl
  ·have e1 : decide ((l.getD (i + 1) mk0).Stage ≤ (l.getD i mk0).Stage) = true := dT (by omega)
   have e2 : decide ((l.getD i mk0).Stage < (l.getD (i + 1) mk0).Stage) = false := dF (by omega)
   rw [e1,e2]
   rfl) (by
  show shift_rises_b4 N l _ ((l.length - 1 : Nat) : Int) = _
  unfold shift_rises_b4
  rw [hlen,ge_dec,cond_false]) (l.length - 1) 0 N (by omega) (by omega)
 rw [show (0 : Int) = ((0 : Nat) : Int) from rfl,hs,firstG_range]
 cases (List.range' 0 (l.length - 1)).all (upAt l) <;> rfl
def askF (l : List shift_Mark) (at_ sh : Int) : Int := if ratedF l ≠ 0 then ratedF l else if upF l = false then 9 else if (shift_stage at_ && shift_in sh (-300) 300) = true then 0 else 4
theorem ratedF_len {l : List shift_Mark} (h : ratedF l = 0) : 2 ≤ l.length ∧ l.length ≤ 12 ∧ l.all shift_rated_1 = true := by
 unfold ratedF at h
 split at h
 ·split at h
  ·exact ⟨by omega,by omega,by assumption⟩
  ·omega
 ·omega
theorem asked_spec {N : Nat} (hN : 700 ≤ N) {l : List shift_Mark} (hl : l.length ≤ 50) {at_ sh : Int} : shift_asked N l at_ sh = some (askF l at_ sh) := by
 unfold shift_asked askF
 rw [rated_spec hN hl,Option.bind_some]
 by_cases h : ratedF l = 0
 ·have h1 : (ratedF l != 0) = false := by simp [h]
  rw [h1,cond_false,if_neg (by simp [h]),rises_spec hN (by have := ratedF_len h; omega) hl,Option.bind_some]
  cases upF l with
  | false => rfl
  | true =>
   cases shift_stage at_ <;> cases shift_in sh (-300) 300 <;> rfl
 ·have h1 : (ratedF l != 0) = true := by simp [h]
  rw [h1,cond_true,if_pos h]
structure ROk (l : List shift_Mark) : Prop where
 l2 : 2 ≤ l.length
 l12 : l.length ≤ 12
 st : ∀ i,i < l.length → -2000 ≤ (l.getD i mk0).Stage ∧ (l.getD i mk0).Stage ≤ 2000
 fl : ∀ i,i < l.length → 0 ≤ (l.getD i mk0).Flow ∧ (l.getD i mk0).Flow ≤ 1000000000
 su : ∀ i,i + 1 < l.length → (l.getD i mk0).Stage < (l.getD (i + 1) mk0).Stage
 fu : ∀ i,i + 1 < l.length → (l.getD i mk0).Flow < (l.getD (i + 1) mk0).Flow
theorem rok_iff {l : List shift_Mark} : (ratedF l = 0 ∧ upF l = true) ↔ ROk l := by
 constructor
 ·rintro ⟨h1,h2⟩
  obtain ⟨a,b,c⟩ := ratedF_len h1
  have hall : ∀ i,i < l.length → shift_rated_1 (l.getD i mk0) = true := fun i hi => by
   rw [← get_getD hi]
   exact List.all_eq_true.1 c _ (List.getElem_mem hi)
  have hup := range_all.1 h2
  refine ⟨a,b,fun i hi => ?_,fun i hi => ?_,fun i hi => ?_,fun i hi => ?_⟩
  ·have := hall i hi
   simp only [shift_rated_1,shift_stage,shift_in,Bool.and_eq_true,decide_eq_true_eq] at this
   omega
  ·have := hall i hi
   simp only [shift_rated_1,shift_flow,shift_in,Bool.and_eq_true,decide_eq_true_eq] at this
   omega
  ·have := hup i (by omega)
   simp only [upAt,Bool.and_eq_true,decide_eq_true_eq] at this
   exact this.1
  ·have := hup i (by omega)
   simp only [upAt,Bool.and_eq_true,decide_eq_true_eq] at this
   exact this.2
 ·intro h
  refine ⟨?_,?_⟩
  ·unfold ratedF
   rw [if_pos ⟨h.l2,h.l12⟩,if_pos]
   rw [List.all_eq_true]
   intro x hx
   obtain ⟨i,hi,rfl⟩ := List.getElem_of_mem hx
   rw [get_getD (d := mk0) hi]
   have h1 := h.st i hi
   have h2 := h.fl i hi
   simp only [shift_rated_1,shift_stage,shift_flow,shift_in,Bool.and_eq_true,decide_eq_true_eq]
   omega
  ·refine range_all.2 fun j hj => ?_
   have h1 := h.su j (by omega)
   have h2 := h.fu j (by omega)
   simp only [upAt,Bool.and_eq_true,decide_eq_true_eq]
   exact ⟨h1,h2⟩
theorem askF_zero {l : List shift_Mark} {at_ sh : Int} : askF l at_ sh = 0 ↔ ROk l ∧ (-2000 ≤ at_ ∧ at_ ≤ 2000) ∧ (-300 ≤ sh ∧ sh ≤ 300) := by
 unfold askF
 rw [← rok_iff]
 by_cases h : ratedF l = 0
 ·rw [if_neg (by simp [h])]
  cases hu : upF l with
  | false => simp
  | true =>
   simp only [h,shift_stage,shift_in,Bool.true_eq_false,if_false]
   simp
   omega
 ·rw [if_pos h]
  simp [h]
end Go.Nilo
