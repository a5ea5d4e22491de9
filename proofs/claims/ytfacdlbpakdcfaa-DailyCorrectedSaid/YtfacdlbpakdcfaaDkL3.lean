/-
  What the plain functions compute, in plain arithmetic, part 3. Conditions: what each theorem names.
-/
import Derived.Test.YtfacdlbpakdcfaaDkL2
set_option linter.unusedSimpArgs false
set_option linter.unusedVariables false
namespace Go.Nilo
theorem gD {α : Type} {l : List α} {i : Nat} {d : α} (h : i < l.length) : l.getD i d = l[i] := by simp [List.getD,h]
theorem dT {p : Prop} [Decidable p] (h : p) : decide p = true := decide_eq_true h
theorem dF {p : Prop} [Decidable p] (h : ¬p) : decide p = false := decide_eq_false h
theorem getI_d {α : Type} {l : List α} {i : Nat} (d : α) (h : i < l.length) : getI l (i : Int) = some (l.getD i d) := by rw [getI_nat h,gD h]
theorem W_sm {n : Int} (h1 : -4000000000000000000 ≤ n) (h2 : n ≤ 4000000000000000000) : W n = n := W_id (by omega) (by omega)
theorem exK_at {σ ρ τ : Type} (s : σ) (f : σ → Option τ) (g : ρ → Option τ) : exK (Ex.go s) f g = f s := rfl
def rd0 : daily_Reading := ⟨0,0⟩
structure RdOk (l : List daily_Reading) : Prop where
 n0 : 1 ≤ l.length
 n1 : l.length ≤ 30
 v : ∀ i,i < l.length → 0 ≤ (l.getD i rd0).Value ∧ (l.getD i rd0).Value ≤ 1000000
 w : ∀ i,i < l.length → 1 ≤ (l.getD i rd0).Weight ∧ (l.getD i rd0).Weight ≤ 100
def vl (l : List daily_Reading) (i : Nat) : Int := (l.getD i rd0).Value
def wt (l : List daily_Reading) (i : Nat) : Int := (l.getD i rd0).Weight
theorem mem_val {l : List daily_Reading} {x : Int} : x ∈ l.map daily_Reading.Value ↔ ∃ i,i < l.length ∧ vl l i = x := by
 rw [List.mem_map]
 constructor
 ·rintro ⟨r,hr,rfl⟩
  obtain ⟨i,hi,rfl⟩ := List.getElem_of_mem hr
  exact ⟨i,hi,by unfold vl; rw [gD hi]⟩
 ·rintro ⟨i,hi,rfl⟩
  exact ⟨l[i],List.getElem_mem hi,by unfold vl; rw [gD hi]⟩
theorem rcheck_ok {N : Nat} (hN : 40 ≤ N) {l : List daily_Reading} (h : RdOk l) : daily_CheckReadings N l = some 0 := by
 have h0 := h.n0
 have h1 := h.n1
 have hev : (l.any fun r => daily_every_daily_Reading_1 r) = false := by
  rw [List.any_eq_false]
  intro r hr
  obtain ⟨i,hi,rfl⟩ := List.getElem_of_mem hr
  have a := h.v i hi
  have b := h.w i hi
  rw [gD hi] at a b
  unfold daily_every_daily_Reading_1 daily_CheckReadings_1 daily_in
  simp only [Bool.not_eq_true,Bool.not_eq_false',Bool.and_eq_true,decide_eq_true_eq]
  omega
 have e1 : daily_every_daily_Reading N l = some true := by
  unfold daily_every_daily_Reading slices_ContainsFunc_Ldaily_Reading_daily_Reading slices_IndexFunc_Ldaily_Reading_daily_Reading
  rcases indexLoop (fun r => daily_every_daily_Reading_1 r) l (by omega) (fun s4 => slices_IndexFunc_Ldaily_Reading_daily_Reading_b4 N l s4) (fun x => rfl) l.length 0 N (by omega) (by omega) with ⟨k,k1,k2,k3⟩ | ⟨k1,k2⟩
  ·rw [List.drop_zero,hev] at k3; cases k3
  ·rw [show ((0 : Nat) : Int) = 0 from rfl] at k1
   rw [k1]
   rfl
 unfold daily_CheckReadings
 rw [e1]
 unfold daily_in
 rw [dT (show (1 : Int) ≤ ((l.length : Nat) : Int) by omega),dT (show ((l.length : Nat) : Int) ≤ 30 by omega)]
 rfl
theorem costs_eq {x : daily_Reading} {n : Int} (hv : 0 ≤ x.Value ∧ x.Value ≤ 1000000) (hw : 1 ≤ x.Weight ∧ x.Weight ≤ 100) (hn : 0 ≤ n ∧ n ≤ 1000000) : daily_Reading_costs x n = cst x.Weight x.Value n ∧ 0 ≤ cst x.Weight x.Value n ∧ cst x.Weight x.Value n ≤ 100000000 := by
 have h1 : 0 ≤ cst x.Weight x.Value n := cst_nonneg (by omega)
 have h2 : cst x.Weight x.Value n ≤ 100000000 := by
  unfold cst
  exact Int.le_trans (Int.mul_le_mul (c := 100) (d := 1000000) hw.2 (by omega) (by omega) (by omega)) (by omega)
 refine ⟨?_,h1,h2⟩
 unfold daily_Reading_costs
 rw [W_sm (n := n - x.Value) (by omega) (by omega),W_sm (n := x.Value - n) (by omega) (by omega)]
 unfold cst at h1 h2 ⊢
 exact W_sm (by omega) (by omega)
theorem mem_compact {zs : List Int} {x : Int} : x ∈ Lib.compact zs ↔ x ∈ zs := by
 unfold Lib.compact Lib.compactUpTo
 constructor
 ·intro h
  obtain ⟨i,hi,rfl⟩ := List.mem_map.1 h
  have hi' : i < zs.length := List.mem_range.1 (List.mem_filter.1 hi).1
  simp [getElem!_pos,hi']
 ·intro h
  obtain ⟨i,hi,rfl⟩ := List.getElem_of_mem h
  have key : ∀ k,∀ hk : k < zs.length,zs[k] ∈ ((List.range zs.length).filter (Lib.keeps zs.toArray)).map (zs.toArray[·]!) := by
   intro k
   induction k with
   | zero =>
    intro hk
    refine List.mem_map.2 ⟨0,List.mem_filter.2 ⟨List.mem_range.2 hk,by simp [Lib.keeps]⟩,?_⟩
    simp [getElem!_pos,hk]
   | succ k ih =>
    intro hk
    by_cases he : zs[k + 1] = zs[k]
    ·rw [he]; exact ih (by omega)
    ·refine List.mem_map.2 ⟨k + 1,List.mem_filter.2 ⟨List.mem_range.2 hk,?_⟩,?_⟩
     ·have h1 : zs.toArray[k + 1]! = zs[k + 1] := by simp [getElem!_pos,hk]
      have h2 : zs.toArray[k + 1 - 1]! = zs[k] := by simp [getElem!_pos,show k < zs.length by omega]
      simp [Lib.keeps,getElem!_pos,hk,show k < zs.length by omega,he]
     ·simp [getElem!_pos,hk]
  exact key i hi
theorem compact_sorted {zs : List Int} (h : zs.Pairwise (fun a b => a ≤ b)) : (Lib.compact zs).Pairwise (fun a b => a ≤ b) := by
 unfold Lib.compact Lib.compactUpTo
 rw [List.pairwise_map]
 have h1 : ((List.range zs.length).filter (Lib.keeps zs.toArray)).Pairwise (· < ·) := List.Pairwise.filter _ List.pairwise_lt_range
 refine List.Pairwise.imp_of_mem ?_ h1
 intro a b ha hb hab
 have ha' : a < zs.length := List.mem_range.1 (List.mem_filter.1 ha).1
 have hb' : b < zs.length := List.mem_range.1 (List.mem_filter.1 hb).1
 have := List.pairwise_iff_getElem.1 h a b ha' hb' hab
 simpa [getElem!_pos,ha',hb'] using this
def valsF (l : List daily_Reading) : List Int := Lib.compact ((l.map daily_Reading.Value).mergeSort fun x y => decide (x ≤ y))
theorem vals_mem {l : List daily_Reading} {x : Int} : x ∈ valsF l ↔ x ∈ l.map daily_Reading.Value := by
 unfold valsF
 rw [mem_compact,List.mem_mergeSort]
theorem vals_sorted (l : List daily_Reading) : (valsF l).Pairwise (fun a b => a ≤ b) := by
 refine compact_sorted ?_
 have := List.pairwise_mergeSort (le := fun x y : Int => decide (x ≤ y)) (fun a b c h1 h2 => by simp only [decide_eq_true_eq] at *; omega) (fun a b => by simp only [Bool.or_eq_true,decide_eq_true_eq]; omega) (l.map daily_Reading.Value)
 exact this.imp (fun h => by simpa using h)
theorem vals_len (l : List daily_Reading) : (valsF l).length ≤ l.length := by
 unfold valsF
 refine Nat.le_trans (Lib.compact_length_le _) ?_
 rw [List.length_mergeSort,List.length_map]
 exact Nat.le_refl _
theorem vals_pos {l : List daily_Reading} (h : RdOk l) : 0 < (valsF l).length := by
 have : vl l 0 ∈ valsF l := vals_mem.2 (mem_val.2 ⟨0,by have := h.n0; omega,rfl⟩)
 exact List.length_pos_of_mem this
theorem vals_bd {l : List daily_Reading} (h : RdOk l) {k : Nat} (hk : k < (valsF l).length) : 0 ≤ (valsF l).getD k 0 ∧ (valsF l).getD k 0 ≤ 1000000 := by
 have : (valsF l).getD k 0 ∈ valsF l := by rw [gD hk]; exact List.getElem_mem hk
 obtain ⟨i,hi,e⟩ := mem_val.1 (vals_mem.1 this)
 rw [← e]
 exact h.v i hi
abbrev Mn := Int × Int → Option daily_place
abbrev Ml := Int × Int → Option Int
def Lm (mp1 : Ml) (i k : Nat) : Int := (mp1 ((i : Int),(k : Int))).getD 0
def Nm (mp : Mn) (i k : Nat) : daily_place := (mp ((i : Int),(k : Int))).getD ⟨0,0⟩
def own (l : List daily_Reading) (U : List Int) (mp1 : Ml) (i k : Nat) : Int := cst (wt l i) (vl l i) (U.getD k 0) + Lm mp1 (i + 1) k
structure Good (l : List daily_Reading) (U : List Int) (mp : Mn) (mp1 : Ml) (i k : Nat) : Prop where
 r : (Nm mp i k).reading = (i : Int)
 q : ∃ q : Nat,(Nm mp i k).value = (q : Int)
 e : ((Nm mp i k).value = (k : Int) ∧ Lm mp1 i k = own l U mp1 i k ∧ (k + 1 = U.length ∨ own l U mp1 i k ≤ Lm mp1 i (k + 1))) ∨ (k + 1 < U.length ∧ Nm mp i k = Nm mp i (k + 1) ∧ Lm mp1 i k = Lm mp1 i (k + 1) ∧ Lm mp1 i (k + 1) < own l U mp1 i k)
theorem Good.congr {l : List daily_Reading} {U : List Int} {mp mp' : Mn} {mp1 mp1' : Ml} {i k : Nat} (h : Good l U mp mp1 i k) (h1 : Nm mp' i k = Nm mp i k) (h2 : Nm mp' i (k + 1) = Nm mp i (k + 1)) (h3 : Lm mp1' i k = Lm mp1 i k) (h4 : Lm mp1' i (k + 1) = Lm mp1 i (k + 1)) (h5 : Lm mp1' (i + 1) k = Lm mp1 (i + 1) k) : Good l U mp' mp1' i k := by
 obtain ⟨a,b,c⟩ := h
 refine ⟨by rw [h1]; exact a,by rw [h1]; exact b,?_⟩
 unfold own at c ⊢
 rw [h1,h2,h3,h4,h5]
 exact c
structure CI (l : List daily_Reading) (U : List Int) (mp : Mn) (mp1 : Ml) (a : Nat → Nat → Prop) : Prop where
 z : ∀ k,Lm mp1 l.length k = 0
 g : ∀ i k,i < l.length → k < U.length → a i k → Good l U mp mp1 i k
 b : ∀ i k,0 ≤ Lm mp1 i k ∧ Lm mp1 i k ≤ ((l.length - i : Nat) : Int) * 100000000
theorem CI.congr {l : List daily_Reading} {U : List Int} {mp : Mn} {mp1 : Ml} {a a' : Nat → Nat → Prop} (h : CI l U mp mp1 a) (ha : ∀ i k,i < l.length → k < U.length → a' i k → a i k) : CI l U mp mp1 a' := ⟨h.z,fun i k hi hk h' => h.g i k hi hk (ha i k hi hk h'),h.b⟩
theorem CI.put {l : List daily_Reading} {U : List Int} {mp mp' : Mn} {mp1 mp1' : Ml} {i0 k0 : Nat} (hI : CI l U mp mp1 (fun i k => i0 < i ∨ i = i0 ∧ k0 + 1 ≤ k)) (hi : i0 < l.length) (hn : ∀ i k,¬ (i = i0 ∧ k = k0) → Nm mp' i k = Nm mp i k) (hl : ∀ i k,¬ (i = i0 ∧ k = k0) → Lm mp1' i k = Lm mp1 i k) (hg : Good l U mp' mp1' i0 k0) (hb : 0 ≤ Lm mp1' i0 k0 ∧ Lm mp1' i0 k0 ≤ ((l.length - i0 : Nat) : Int) * 100000000) : CI l U mp' mp1' (fun i k => i0 < i ∨ i = i0 ∧ k0 ≤ k) := by
 refine ⟨fun k => ?_,fun i k h1 h2 h3 => ?_,fun i k => ?_⟩
 ·rw [hl _ _ (by omega)]; exact hI.z k
 ·by_cases e : i = i0 ∧ k = k0
  ·obtain ⟨rfl,rfl⟩ := e; exact hg
  ·exact (hI.g i k h1 h2 (by omega)).congr (hn _ _ e) (hn _ _ (by omega)) (hl _ _ e) (hl _ _ (by omega)) (hl _ _ (by omega))
 ·by_cases e : i = i0 ∧ k = k0
  ·obtain ⟨rfl,rfl⟩ := e; exact hb
  ·rw [hl _ _ e]; exact hI.b i k
theorem Lm_set (mp1 : Ml) (i0 k0 : Nat) (v : Int) (i k : Nat) : Lm (setG mp1 ((i0 : Int),(k0 : Int)) v) i k = if i = i0 ∧ k = k0 then v else Lm mp1 i k := by
 unfold Lm setG
 by_cases h : i = i0 ∧ k = k0
 ·obtain ⟨rfl,rfl⟩ := h
  rw [if_pos rfl,if_pos ⟨rfl,rfl⟩]; rfl
 ·rw [if_neg h,if_neg (fun e => h (by rw [Prod.mk.injEq] at e; omega))]
theorem Nm_set (mp : Mn) (i0 k0 : Nat) (v : daily_place) (i k : Nat) : Nm (setG mp ((i0 : Int),(k0 : Int)) v) i k = if i = i0 ∧ k = k0 then v else Nm mp i k := by
 unfold Nm setG
 by_cases h : i = i0 ∧ k = k0
 ·obtain ⟨rfl,rfl⟩ := h
  rw [if_pos rfl,if_pos ⟨rfl,rfl⟩]; rfl
 ·rw [if_neg h,if_neg (fun e => h (by rw [Prod.mk.injEq] at e; omega))]
structure UOk (U : List Int) : Prop where
 n0 : 0 < U.length
 n1 : U.length ≤ 30
 b : ∀ k,k < U.length → 0 ≤ U.getD k 0 ∧ U.getD k 0 ≤ 1000000
theorem cor_step {N : Nat} {l : List daily_Reading} (h : RdOk l) {U : List Int} (hU : UOk U) {i0 k0 : Nat} (hi : i0 < l.length) (hk : k0 < U.length) {mp : Mn} {mp1 : Ml} (hI : CI l U mp mp1 (fun i k => i0 < i ∨ i = i0 ∧ k0 + 1 ≤ k)) :
  ∃ mp' mp1',daily_Correct_b31 N l U (i0 : Int) (k0 : Int) mp mp1 = some (.cont ((k0 : Int) - 1,mp',mp1')) ∧ CI l U mp' mp1' (fun i k => i0 < i ∨ i = i0 ∧ k0 ≤ k) := by
 have hn1 := h.n1
 have hu1 := hU.n1
 obtain ⟨c1,c2,c3⟩ := costs_eq (h.v i0 hi) (h.w i0 hi) (hU.b k0 hk)
 have hb := hI.b (i0 + 1) k0
 have hbn := hI.b i0 (k0 + 1)
 have he : ((l.length - i0 : Nat) : Int) * 100000000 = ((l.length - (i0 + 1) : Nat) : Int) * 100000000 + 100000000 := by omega
 have hown : W (daily_Reading_costs (l.getD i0 rd0) (U.getD k0 0) + ((mp1 (((i0 + 1 : Nat) : Int),(k0 : Int))).getD 0)) = own l U mp1 i0 k0 := by
  rw [c1]
  unfold own wt vl
  have : (mp1 (((i0 + 1 : Nat) : Int),(k0 : Int))).getD 0 = Lm mp1 (i0 + 1) k0 := rfl
  rw [this]
  exact W_sm (by omega) (by omega)
 have hob : 0 ≤ own l U mp1 i0 k0 ∧ own l U mp1 i0 k0 ≤ ((l.length - i0 : Nat) : Int) * 100000000 := by
  unfold own wt vl
  omega
 unfold daily_Correct_b31 daily_Correct_j34
 rw [dT (show (0 : Int) ≤ (k0 : Int) by omega),cond_true,getI_d rd0 hi,Option.bind_some,getI_d 0 hk,Option.bind_some,W_succ (show i0 < 9223372036854775807 by omega),W_succ (show k0 < 9223372036854775807 by omega),hown,W_sm (n := (k0 : Int) - 1) (by omega) (by omega)]
 by_cases hc : k0 + 1 = U.length ∨ own l U mp1 i0 k0 ≤ Lm mp1 i0 (k0 + 1)
 ·have ht : (((((k0 + 1 : Nat) : Int)) == ((U.length : Nat) : Int)) || decide (own l U mp1 i0 k0 ≤ (mp1 ((i0 : Int),((k0 + 1 : Nat) : Int))).getD 0)) = true := by
   rw [Bool.or_eq_true,beq_iff_eq,decide_eq_true_eq]
   rcases hc with hc | hc
   ·left; omega
   ·right; exact hc
  rw [ht,cond_true]
  refine ⟨_,_,rfl,hI.put hi (fun i k hn => by rw [Nm_set,if_neg hn]) (fun i k hn => by rw [Lm_set,if_neg hn]) ?_ (by rw [Lm_set,if_pos ⟨rfl,rfl⟩]; exact hob)⟩
  refine ⟨by rw [Nm_set,if_pos ⟨rfl,rfl⟩],⟨k0,by rw [Nm_set,if_pos ⟨rfl,rfl⟩]⟩,.inl ⟨by rw [Nm_set,if_pos ⟨rfl,rfl⟩],?_,?_⟩⟩
  ·unfold own
   rw [Lm_set,if_pos ⟨rfl,rfl⟩,Lm_set,if_neg (by omega)]
   try rfl
  ·unfold own
   rw [Lm_set,if_neg (by omega),Lm_set,if_neg (by omega)]
   exact hc
 ·have hk1 : k0 + 1 < U.length := by omega
  have hf : (((((k0 + 1 : Nat) : Int)) == ((U.length : Nat) : Int)) || decide (own l U mp1 i0 k0 ≤ (mp1 ((i0 : Int),((k0 + 1 : Nat) : Int))).getD 0)) = false := by
   rw [Bool.or_eq_false_iff,beq_eq_false_iff_ne,decide_eq_false_iff_not]
   exact ⟨by omega,fun e => hc (.inr e)⟩
  rw [hf,cond_false]
  have hg := hI.g i0 (k0 + 1) hi hk1 (by omega)
  refine ⟨_,_,rfl,hI.put hi (fun i k hn => by rw [Nm_set,if_neg hn]) (fun i k hn => by rw [Lm_set,if_neg hn,Lm_set,if_neg hn]) ?_ (by rw [Lm_set,if_pos ⟨rfl,rfl⟩]; exact ⟨hbn.1,Int.le_trans hbn.2 (Int.le_refl _)⟩)⟩
  refine ⟨by rw [Nm_set,if_pos ⟨rfl,rfl⟩]; exact hg.r,by rw [Nm_set,if_pos ⟨rfl,rfl⟩]; exact hg.q,.inr ⟨hk1,?_,?_,?_⟩⟩
  ·rw [Nm_set,if_pos ⟨rfl,rfl⟩,Nm_set,if_neg (by omega)]; rfl
  ·rw [Lm_set,if_pos ⟨rfl,rfl⟩,Lm_set,if_neg (by omega),Lm_set,if_neg (by omega)]; rfl
  ·unfold own
   rw [Lm_set,if_neg (by omega),Lm_set,if_neg (by omega),Lm_set,if_neg (by omega),Lm_set,if_neg (by omega)]
   have : Lm mp1 i0 (k0 + 1) < own l U mp1 i0 k0 := by omega
   exact this
theorem cor_inner {N : Nat} (hN : 40 ≤ N) {l : List daily_Reading} (h : RdOk l) {U : List Int} (hU : UOk U) {i0 : Nat} (hi : i0 < l.length) {mp : Mn} {mp1 : Ml} (hI : CI l U mp mp1 (fun i _ => i0 < i)) :
  ∃ s,loopO (fun s31 => daily_Correct_b31 N l U (i0 : Int) s31.1 s31.2.1 s31.2.2) N (((U.length : Nat) : Int) - 1,mp,mp1) = some (.go s) ∧ CI l U s.2.1 s.2.2 (fun i _ => i0 ≤ i) := by
 have hu1 := hU.n1
 obtain ⟨s,h1,h2,h3⟩ := loopInv (ρ := Step (Int × Mn × Ml) ((List Int) × Int × Int)) (fun s31 : Int × Mn × Ml => daily_Correct_b31 N l U (i0 : Int) s31.1 s31.2.1 s31.2.2) (fun t s => s.1 = ((U.length : Nat) : Int) - 1 - (t : Int) ∧ CI l U s.2.1 s.2.2 (fun i k => i0 < i ∨ i = i0 ∧ U.length - t ≤ k)) U.length (by
  rintro t ⟨x,m1,m2⟩ ht ⟨e,hc⟩
  simp only at e hc
  subst e
  obtain ⟨m1',m2',k1,k2⟩ := cor_step (N := N) h hU hi (k0 := U.length - 1 - t) (by omega) (hc.congr fun i k _ _ hh => by omega)
  refine ⟨(((U.length - 1 - t : Nat) : Int) - 1,m1',m2'),?_,by dsimp only; omega,k2.congr fun i k _ _ hh => by omega⟩
  show daily_Correct_b31 N l U (i0 : Int) (((U.length : Nat) : Int) - 1 - (t : Int)) m1 m2 = _
  rw [show ((U.length : Nat) : Int) - 1 - (t : Int) = ((U.length - 1 - t : Nat) : Int) by omega]
  exact k1) (by
  rintro ⟨x,m1,m2⟩ ⟨e,hc⟩
  simp only at e
  subst e
  show daily_Correct_b31 N l U (i0 : Int) (((U.length : Nat) : Int) - 1 - ((U.length : Nat) : Int)) m1 m2 = _
  unfold daily_Correct_b31
  rw [dF (by omega),cond_false]) U.length 0 (((U.length : Nat) : Int) - 1,mp,mp1) N (by omega) (by omega) ⟨by simp,hI.congr fun i k _ _ hh => by omega⟩
 exact ⟨s,h1,h3.congr fun i k _ _ hh => by omega⟩
theorem cor_outer {N : Nat} (hN : 40 ≤ N) {l : List daily_Reading} (h : RdOk l) {U : List Int} (hU : UOk U) :
  ∃ s,loopO (fun s15 => daily_Correct_b15 N l U s15.1 s15.2.1 s15.2.2) N (((l.length : Nat) : Int) - 1,(fun _ => none : Mn),(fun _ => none : Ml)) = some (.go s) ∧ CI l U s.2.1 s.2.2 (fun _ _ => True) := by
 have hn1 := h.n1
 have hu1 := hU.n1
 obtain ⟨s,h1,h2,h3⟩ := loopInv (ρ := (List Int) × Int × Int) (fun s15 : Int × Mn × Ml => daily_Correct_b15 N l U s15.1 s15.2.1 s15.2.2) (fun t s => s.1 = ((l.length : Nat) : Int) - 1 - (t : Int) ∧ CI l U s.2.1 s.2.2 (fun i _ => l.length - t ≤ i)) l.length (by
  rintro t ⟨x,m1,m2⟩ ht ⟨e,hc⟩
  simp only at e hc
  subst e
  obtain ⟨s,k1,k2⟩ := cor_inner hN h hU (i0 := l.length - 1 - t) (by omega) (hc.congr fun i k _ _ hh => by omega)
  refine ⟨(((l.length - 1 - t : Nat) : Int) - 1,s.2.1,s.2.2),?_,by dsimp only; omega,k2.congr fun i k _ _ hh => by omega⟩
  show daily_Correct_b15 N l U (((l.length : Nat) : Int) - 1 - (t : Int)) m1 m2 = _
  rw [show ((l.length : Nat) : Int) - 1 - (t : Int) = ((l.length - 1 - t : Nat) : Int) by omega]
  unfold daily_Correct_b15
  rw [dT (show (0 : Int) ≤ ((l.length - 1 - t : Nat) : Int) by omega),cond_true,W_sm (n := ((U.length : Nat) : Int) - 1) (by omega) (by omega),k1,Option.bind_some,W_sm (n := ((l.length - 1 - t : Nat) : Int) - 1) (by omega) (by omega)]
  rfl) (by
  rintro ⟨x,m1,m2⟩ ⟨e,hc⟩
  simp only at e
  subst e
  show daily_Correct_b15 N l U (((l.length : Nat) : Int) - 1 - ((l.length : Nat) : Int)) m1 m2 = _
  unfold daily_Correct_b15
  rw [dF (by omega),cond_false]) l.length 0 (((l.length : Nat) : Int) - 1,(fun _ => none),(fun _ => none)) N (by omega) (by omega) ⟨by simp,⟨fun k => rfl,fun i k h1 h2 h3 => by omega,fun i k => ⟨Int.le_refl _,by show (0 : Int) ≤ _; omega⟩⟩⟩
 exact ⟨s,h1,h3.congr fun i k h4 _ _ => by omega⟩
end Go.Nilo
