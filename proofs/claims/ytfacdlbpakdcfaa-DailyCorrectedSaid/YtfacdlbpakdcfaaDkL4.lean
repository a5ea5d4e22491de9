/-
  What the plain functions compute, in plain arithmetic, part 4. Conditions: what each theorem names.
-/
import Derived.Test.YtfacdlbpakdcfaaDkL3
set_option linter.unusedSimpArgs false
set_option linter.unusedVariables false
namespace Go.Nilo
def Nx (mp : Mn) (i k : Nat) : Nat := (Nm mp i k).value.toNat
theorem CI.dpt {l : List daily_Reading} {U : List Int} {mp : Mn} {mp1 : Ml} (h : CI l U mp mp1 (fun _ _ => True)) : DPT l.length U.length (vl l) (wt l) (fun k => U.getD k 0) (Lm mp1) (Nx mp) := by
 refine ⟨fun k _ => h.z k,fun i hi k hk => ?_⟩
 obtain ⟨-,-,e⟩ := h.g i k hi hk trivial
 rcases e with ⟨e1,e2,e3⟩ | ⟨e1,e2,e3,e4⟩
 ·left; exact ⟨by unfold Nx; rw [e1]; rfl,e2,e3⟩
 ·right; exact ⟨e1,by unfold Nx; rw [e2],e3,e4⟩
def pv (mp : Mn) : Nat → Nat
 | 0 => 0
 | t + 1 => Nx mp t (pv mp t)
theorem pv_ok {l : List daily_Reading} {U : List Int} (hU : UOk U) {mp : Mn} {mp1 : Ml} (h : CI l U mp mp1 (fun _ _ => True)) : ∀ t,t ≤ l.length → pv mp t < U.length
 | 0,_ => hU.n0
 | t + 1,ht => by
  have := pv_ok hU h t (by omega)
  exact (h.dpt.pick (i := t) (by omega) (U.length - 1 - pv mp t) (pv mp t) (by omega)).2.1
theorem pv_step {l : List daily_Reading} {U : List Int} (hU : UOk U) {mp : Mn} {mp1 : Ml} (h : CI l U mp mp1 (fun _ _ => True)) {t : Nat} (ht : t < l.length) : pv mp t ≤ pv mp (t + 1) ∧ Lm mp1 t (pv mp t) = cst (wt l t) (vl l t) (U.getD (pv mp (t + 1)) 0) + Lm mp1 (t + 1) (pv mp (t + 1)) := by
 have := pv_ok hU h t (by omega)
 have hp := h.dpt.pick (i := t) ht (U.length - 1 - pv mp t) (pv mp t) (by omega)
 exact ⟨hp.1,hp.2.2⟩
def xs (U : List Int) (mp : Mn) (t : Nat) : List Int := (List.range t).map fun j => U.getD (pv mp (j + 1)) 0
theorem xs_get {U : List Int} {mp : Mn} {t i : Nat} (h : i < t) : (xs U mp t).getD i 0 = U.getD (pv mp (i + 1)) 0 := by simp [xs,List.getD,h]
theorem xs_len {U : List Int} {mp : Mn} {t : Nat} : (xs U mp t).length = t := by simp [xs]
theorem xs_succ {U : List Int} {mp : Mn} {t : Nat} : xs U mp (t + 1) = xs U mp t ++ [U.getD (pv mp (t + 1)) 0] := by unfold xs; rw [List.range_succ,List.map_append]; rfl
theorem path_ok {N : Nat} (hN : 40 ≤ N) {l : List daily_Reading} (hl : RdOk l) {U : List Int} (hU : UOk U) {mp : Mn} {mp1 : Ml} (h : CI l U mp mp1 (fun _ _ => True)) : ∃ s,loopO (fun s19 => daily_Correct_b19 N l U mp s19.1 s19.2.1 s19.2.2) N (([] : List Int),0,0) = some (.go s) ∧ s.1 = xs U mp l.length := by
 have hn1 := hl.n1
 obtain ⟨s,h1,h2,-⟩ := loopInv (ρ := (List Int) × Int × Int) (fun s19 : List Int × Int × Int => daily_Correct_b19 N l U mp s19.1 s19.2.1 s19.2.2) (fun t s => s.1 = xs U mp t ∧ s.2 = ((t : Int),(pv mp t : Int))) l.length (by
  rintro t ⟨o,x,y⟩ ht ⟨e1,e2⟩
  simp only [Prod.mk.injEq] at e1 e2
  obtain ⟨rfl,rfl⟩ := e2
  subst e1
  have hp := pv_ok hU h t (by omega)
  have hp1 := pv_ok hU h (t + 1) (by omega)
  obtain ⟨r,⟨q,hq⟩,-⟩ := h.g t (pv mp t) ht hp trivial
  have hqq : pv mp (t + 1) = q := by show Nx mp t (pv mp t) = q; unfold Nx; rw [hq]; rfl
  refine ⟨(xs U mp (t + 1),((t + 1 : Nat) : Int),(pv mp (t + 1) : Int)),?_,rfl,rfl⟩
  show daily_Correct_b19 N l U mp (xs U mp t) (t : Int) (pv mp t : Int) = _
  unfold daily_Correct_b19
  have hg : ((mp ((t : Int),(pv mp t : Int))).getD (⟨0,0⟩ : daily_place)) = Nm mp t (pv mp t) := rfl
  have hne : (!(((t : Int) == ((l.length : Nat) : Int)) && ((pv mp t : Int) == (pv mp t : Int)))) = true := by
   rw [show ((t : Int) == ((l.length : Nat) : Int)) = false from beq_eq_false_iff_ne.2 (by omega)]; rfl
  rw [hne,cond_true,hg,hq,← hqq,getI_d 0 hp1,Option.bind_some,r,W_succ (by omega),room_ok (by rw [List.length_append,xs_len]; simp; omega),Option.bind_some,xs_succ]) (by
  rintro ⟨o,x,y⟩ ⟨e1,e2⟩
  simp only [Prod.mk.injEq] at e1 e2
  obtain ⟨rfl,rfl⟩ := e2
  show daily_Correct_b19 N l U mp o (l.length : Int) (pv mp l.length : Int) = _
  unfold daily_Correct_b19
  rw [beq_self_eq_true,beq_self_eq_true]
  rfl) l.length 0 (([] : List Int),0,0) N (by omega) (by omega) ⟨rfl,rfl⟩
 exact ⟨s,h1,h2⟩
theorem path_cost {l : List daily_Reading} {U : List Int} (hU : UOk U) {mp : Mn} {mp1 : Ml} (h : CI l U mp mp1 (fun _ _ => True)) : ∀ d t,t + d = l.length → Lm mp1 t (pv mp t) = tot (vl l) (wt l) (fun i => (xs U mp l.length).getD i 0) t d
 | 0,t,e => by
  obtain rfl : t = l.length := by omega
  exact h.z _
 | d + 1,t,e => by
  have ht : t < l.length := by omega
  rw [(pv_step hU h ht).2,path_cost hU h d (t + 1) (by omega)]
  show _ = cst _ _ ((xs U mp l.length).getD t 0) + _
  rw [xs_get ht]
def costL (l : List daily_Reading) (x : Nat → Int) : Int := tot (vl l) (wt l) x 0 l.length
def Mono (n : Nat) (x : Nat → Int) : Prop := ∀ i,i + 1 < n → x i ≤ x (i + 1)
theorem sorted_get {U : List Int} (h : U.Pairwise (fun a b => a ≤ b)) {i j : Nat} (hij : i ≤ j) (hj : j < U.length) : U.getD i 0 ≤ U.getD j 0 := by
 rw [gD (by omega : i < U.length),gD hj]
 by_cases e : i = j
 ·subst e; exact Int.le_refl _
 ·exact List.pairwise_iff_getElem.1 h i j (by omega) hj (by omega)
theorem correct_ok {N : Nat} (hN : 40 ≤ N) {l : List daily_Reading} (hl : RdOk l) : ∃ x c,daily_Correct N l = some (x,c,0) ∧ x.length = l.length ∧ Mono l.length (fun i => x.getD i 0) ∧ (∀ i,i < l.length → x.getD i 0 ∈ l.map daily_Reading.Value) ∧ c = costL l (fun i => x.getD i 0) ∧ ∀ y,Mono l.length y → (∀ i,i < l.length → y i ∈ l.map daily_Reading.Value) → c ≤ costL l y := by
 have hn0 := hl.n0
 have hn1 := hl.n1
 have hU : UOk (valsF l) := ⟨vals_pos hl,Nat.le_trans (vals_len l) hl.n1,fun k hk => vals_bd hl hk⟩
 have h9 := runS (ρ := (List Int) × Int × Int) (fun i : Nat => ((l.take i).map daily_Reading.Value,(i : Int))) l.length (fun s9 => daily_Correct_b9 N l s9.1 s9.2) (fun i hi => by
  show daily_Correct_b9 N l ((l.take i).map daily_Reading.Value) (i : Int) = _
  unfold daily_Correct_b9
  rw [lt_dec hi,cond_true,getI_nat hi,Option.bind_some,room_ok (by simp; omega),Option.bind_some,W_succ (by omega),List.take_succ_eq_append_getElem hi,List.map_append]
  rfl) (by
  show daily_Correct_b9 N l _ (l.length : Int) = _
  unfold daily_Correct_b9
  rw [ge_dec,cond_false]) (N := N) (by omega)
 rw [List.take_length] at h9
 obtain ⟨s,h15,hC⟩ := cor_outer hN hl hU
 obtain ⟨s2,h19,hx⟩ := path_ok hN hl hU hC
 refine ⟨xs (valsF l) s.2.1 l.length,Lm s.2.2 0 0,?_,xs_len,fun i hi => ?_,fun i hi => ?_,path_cost hU hC l.length 0 (by omega),fun y hy hm => ?_⟩
 ·unfold daily_Correct
  rw [rcheck_ok hN hl,Option.bind_some,bne_self_eq_false,cond_false]
  have h9' : loopO (fun s9 => daily_Correct_b9 N l s9.1 s9.2) N (([] : List Int),0) = some (.go (l.map daily_Reading.Value,(l.length : Int))) := h9
  rw [h9',Option.bind_some,exK_at]
  have hs : slices_Sort_Lint_int N (l.map daily_Reading.Value) = some ((l.map daily_Reading.Value).mergeSort fun x y => decide (x ≤ y)) := by
   unfold slices_Sort_Lint_int sortO
   rw [if_pos (by rw [List.length_map]; omega)]
  rw [hs,Option.bind_some]
  have hcp : slices_Compact_Lint_int N ((l.map daily_Reading.Value).mergeSort fun x y => decide (x ≤ y)) = some (valsF l) := rfl
  rw [hcp,Option.bind_some,W_sm (n := ((l.length : Nat) : Int) - 1) (by omega) (by omega),h15,Option.bind_some,exK_at,h19,Option.bind_some,exK_at,hx]
  rfl
 ·dsimp only
  rw [xs_get (by omega),xs_get hi]
  exact sorted_get (vals_sorted l) (pv_step hU hC (by omega)).1 (pv_ok hU hC _ (by omega))
 ·rw [xs_get hi]
  have := pv_ok hU hC (i + 1) (by omega)
  rw [gD this]
  exact vals_mem.1 (List.getElem_mem this)
 ·have hf : ∀ i,i < l.length → (valsF l).findIdx (fun e => e == y i) < (valsF l).length := fun i hi => List.findIdx_lt_length_of_exists ⟨y i,vals_mem.2 (hm i hi),by simp⟩
  have hv : ∀ i,i < l.length → (valsF l).getD ((valsF l).findIdx (fun e => e == y i)) 0 = y i := fun i hi => by
   rw [gD (hf i hi)]
   have := List.findIdx_getElem (w := hf i hi)
   simpa using this
  have := hC.dpt.low (κ := fun i => (valsF l).findIdx (fun e => e == y i)) (fun i hi => hf i hi) (fun i hi => by
   have h1 := hy i hi
   by_cases e : y i = y (i + 1)
   ·rw [e]; exact Nat.le_refl _
   ·refine Decidable.byContradiction fun hc => ?_
    have h2 := sorted_get (vals_sorted l) (i := (valsF l).findIdx (fun e => e == y (i + 1))) (j := (valsF l).findIdx (fun e => e == y i)) (by omega) (hf i (by omega))
    rw [hv i (by omega),hv (i + 1) hi] at h2
    omega) l.length 0 (by omega) 0 hU.n0 (fun _ => Nat.zero_le _)
  refine Int.le_trans this (Int.le_of_eq ?_)
  unfold costL
  exact tot_congr l.length 0 fun j _ hj => by rw [hv j (by omega)]
end Go.Nilo
