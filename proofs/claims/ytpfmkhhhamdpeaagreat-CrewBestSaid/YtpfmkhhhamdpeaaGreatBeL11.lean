/-
  What the plain functions compute, in plain arithmetic, part 11. Conditions: what each theorem names.
-/
import Derived.Test.YtpfmkhhhamdpeaaGreatBeL10
set_option linter.unusedSimpArgs false
set_option linter.unusedVariables false
namespace Go.Nilo
theorem best_for {r : crew_Roster} (hr : RosOk r) {l : List crew_Refusal} {asg : List Int} {ks : List (List Int)} (h : SI r (fun _ => True) l asg ks) {b : List Int} (hb : Stable r b) {p : Int} (hp : inP r p) (hne : Asg b p ≠ -1) : Asg asg p ≠ -1 ∧ idxI (pf r p) (Asg asg p) ≤ idxI (pf r p) (Asg b p) := by
 have hpo := (hb.f p hp hne).1
 have hno : ¬ Ref l p (Asg b p) := fun hR => by
  obtain ⟨k,hk,he⟩ := List.getElem_of_mem hR
  have := refused_never hr h.just h.refp hb (k + 1) k (by omega) hk
  rw [he] at this
  exact this rfl
 by_cases ha : Asg asg p = -1
 ·exact absurd (h.free p hp trivial ha _ hpo.2 hpo) hno
 ·refine ⟨ha,?_⟩
  rcases Int.lt_or_le (idxI (pf r p) (Asg b p)) (idxI (pf r p) (Asg asg p)) with h1 | h1
  ·exact absurd ((h.good p hp ha).2.2 _ hpo.2 h1 hpo) hno
  ·exact h1
theorem not_pf {r : crew_Roster} (hr : RosOk r) {p : Int} (hp : inP r p) : (-1 : Int) ∉ pf r p := fun h => by
 have := (pf_ran hr hp h).1
 omega
theorem no_fewer {r : crew_Roster} (hr : RosOk r) {l : List crew_Refusal} {asg : List Int} {ks : List (List Int)} (h : SI r (fun _ => True) l asg ks) {b : List Int} (hb : Stable r b) {s : Int} (hs : inS r s) : (memL r asg s).length ≤ (memL r b s).length := by
 by_cases hc : ((memL r b s).length : Int) < (sta r s).Places
 ·refine nodup_le (memL_nodup r asg s) fun p hp => ?_
  obtain ⟨h1,h2⟩ := mem_memL.1 hp
  refine mem_memL.2 ⟨h1,Decidable.byContradiction fun hne => ?_⟩
  have hpo := (h.good p h1 (by rw [h2]; have := hs.1; omega)).1
  rw [h2] at hpo
  refine hb.n p s h1 ⟨hpo.2,?_⟩ hpo (Or.inl hc)
  by_cases hb1 : Asg b p = -1
  ·left; rw [hb1]; exact not_pf hr h1
  ·right
   have := (best_for hr h hb h1 hb1).2
   rw [h2] at this
   have hne2 : idxI (pf r p) s ≠ idxI (pf r p) (Asg b p) := fun e => hne (idx_inj hpo.2 e).symm
   omega
 ·have := h.members hs
  omega
def tally (b : List Int) (L : List Int) : Nat → Nat
 | 0 => 0
 | n + 1 => tally b L n + (L.filter fun p => Asg b p == (n : Int)).length
theorem tally_cons (b : List Int) (p : Int) (L : List Int) : ∀ n,tally b (p::L) n = tally b L n + (if 0 ≤ Asg b p ∧ Asg b p < (n : Int) then 1 else 0)
 | 0 => by
  unfold tally
  rw [if_neg (by omega)]
 | n + 1 => by
  have hf : ((p::L).filter fun p => Asg b p == (n : Int)).length = (if Asg b p = (n : Int) then 1 else 0) + (L.filter fun p => Asg b p == (n : Int)).length := by
   by_cases h : Asg b p = (n : Int)
   ·rw [if_pos h,List.filter_cons,if_pos (by rw [beq_iff_eq]; exact h),List.length_cons]; omega
   ·rw [if_neg h,List.filter_cons,if_neg (by rw [beq_iff_eq]; exact h)]; omega
  unfold tally
  rw [tally_cons b p L n,hf]
  push_cast
  by_cases h : Asg b p = (n : Int)
  ·have h1 : ¬ (0 ≤ Asg b p ∧ Asg b p < (n : Int)) := by omega
   have h2 : 0 ≤ Asg b p ∧ Asg b p < (n : Int) + 1 := by omega
   simp only [if_pos h,if_neg h1,if_pos h2]
   omega
  ·by_cases h1 : 0 ≤ Asg b p ∧ Asg b p < (n : Int)
   ·have h2 : 0 ≤ Asg b p ∧ Asg b p < (n : Int) + 1 := by omega
    simp only [if_neg h,if_pos h1,if_pos h2]
    omega
   ·have h2 : ¬ (0 ≤ Asg b p ∧ Asg b p < (n : Int) + 1) := by omega
    simp only [if_neg h,if_neg h1,if_neg h2]
    omega
theorem tally_eq {b : List Int} {n : Nat} : ∀ {L : List Int},(∀ p ∈ L,Asg b p = -1 ∨ (0 ≤ Asg b p ∧ Asg b p < (n : Int))) → tally b L n = (L.filter fun p => Asg b p != -1).length
 | [],_ => by
  have : ∀ n,tally b [] n = 0 := fun n => by
   induction n with
   | zero => rfl
   | succ n ih => unfold tally; rw [ih]; rfl
  rw [this]; rfl
 | p::L,h => by
  rw [tally_cons,tally_eq fun q hq => h q (List.mem_cons_of_mem _ hq),List.filter_cons]
  rcases h p List.mem_cons_self with h1 | h1
  ·rw [if_neg (by omega),if_neg (by rw [h1]; decide)]; rfl
  ·rw [if_pos h1,if_pos (by rw [bne_iff_ne]; omega),List.length_cons]
theorem tally_same {a b L : List Int} : ∀ n,(∀ s : Nat,s < n → (L.filter fun p => Asg a p == (s : Int)).length ≤ (L.filter fun p => Asg b p == (s : Int)).length) → tally a L n ≤ tally b L n ∧ (tally b L n ≤ tally a L n → ∀ s : Nat,s < n → (L.filter fun p => Asg a p == (s : Int)).length = (L.filter fun p => Asg b p == (s : Int)).length)
 | 0,_ => ⟨Nat.le_refl _,fun _ s h => by omega⟩
 | n + 1,h => by
  obtain ⟨h1,h2⟩ := tally_same (a := a) (b := b) (L := L) n fun s hs => h s (by omega)
  have h3 := h n (by omega)
  unfold tally
  refine ⟨by omega,fun hle s hs => ?_⟩
  by_cases he : s = n
  ·subst he; omega
  ·exact h2 (by omega) s (by omega)
theorem rural {r : crew_Roster} (hr : RosOk r) {l : List crew_Refusal} {asg : List Int} {ks : List (List Int)} (h : SI r (fun _ => True) l asg ks) {b : List Int} (hb : Stable r b) : (∀ s,inS r s → (memL r asg s).length = (memL r b s).length) ∧ ∀ p,inP r p → (Asg asg p = -1 ↔ Asg b p = -1) := by
 have hA := settled_stable hr ⟨ks,h⟩
 have e1 := tally_eq (b := asg) (n := r.Stations.length) (L := ppl r) fun p hp => hA.a.rng p (mem_ppl.1 hp)
 have e2 := tally_eq (b := b) (n := r.Stations.length) (L := ppl r) fun p hp => hb.a.rng p (mem_ppl.1 hp)
 have hsub : ∀ x ∈ ((ppl r).filter fun p => Asg b p != -1),x ∈ (ppl r).filter fun p => Asg asg p != -1 := fun x hx => by
  rw [List.mem_filter,mem_ppl,bne_iff_ne] at hx ⊢
  exact ⟨hx.1,(best_for hr h hb hx.1 hx.2).1⟩
 have hle := nodup_le ((ppl_nodup r).filter _) hsub
 obtain ⟨t1,t2⟩ := tally_same (a := asg) (b := b) (L := ppl r) r.Stations.length fun s hs => no_fewer hr h hb ⟨by omega,by omega⟩
 refine ⟨fun s hs => ?_,fun p hp => ⟨fun ha => Decidable.byContradiction fun hne => (best_for hr h hb hp hne).1 ha,fun hbp => Decidable.byContradiction fun hne => ?_⟩⟩
 ·have := t2 (by omega) s.toNat (by have := hs.1; have := hs.2; omega)
  rw [Int.toNat_of_nonneg hs.1] at this
  exact this
 ·have hp1 : p ∈ (ppl r).filter fun p => Asg asg p != -1 := by rw [List.mem_filter,mem_ppl,bne_iff_ne]; exact ⟨hp,hne⟩
  have hp2 : p ∉ (ppl r).filter fun p => Asg b p != -1 := by rw [List.mem_filter,bne_iff_ne]; exact fun e => e.2 hbp
  have := nodup_le (l := p::(ppl r).filter fun p => Asg b p != -1) (List.nodup_cons.2 ⟨hp2,(ppl_nodup r).filter _⟩) (l' := (ppl r).filter fun p => Asg asg p != -1) fun x hx => by
   rcases List.mem_cons.1 hx with rfl | hx
   ·exact hp1
   ·exact hsub x hx
  rw [List.length_cons] at this
  omega
end Go.Nilo
