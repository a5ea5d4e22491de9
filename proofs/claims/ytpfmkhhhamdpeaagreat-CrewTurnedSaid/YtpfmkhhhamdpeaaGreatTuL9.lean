/-
  What the plain functions compute, in plain arithmetic, part 9. Conditions: what each theorem names.
-/
import Derived.Test.YtpfmkhhhamdpeaaGreatTuL8
set_option linter.unusedSimpArgs false
set_option linter.unusedVariables false
namespace Go.Nilo
theorem ppl_take {r : crew_Roster} {b : List Int} {s : Int} {i : Nat} (hi : i < r.People.length) : ((ppl r).take (i + 1)).filter (fun p => Asg b p == s) = ((ppl r).take i).filter (fun p => Asg b p == s) ++ (if Asg b (i : Int) = s then [(i : Int)] else []) := by
 have hl : i < (ppl r).length := by simpa [ppl] using hi
 rw [List.take_succ_eq_append_getElem hl,List.filter_append]
 have : (ppl r)[i] = (i : Int) := by simp [ppl]
 rw [this]
 congr 1
 by_cases h : Asg b (i : Int) = s
 ·rw [if_pos h,List.filter_cons,if_pos (by rw [beq_iff_eq]; exact h)]; rfl
 ·rw [if_neg h,List.filter_cons,if_neg (by rw [beq_iff_eq]; exact h)]; rfl
theorem swap_ok {L : List Int} (hn : L.Nodup) {i j : Nat} (hi : i < L.length) (hj : j < L.length) : (((L.set i L[j]).set j L[i]).Nodup) ∧ ∀ x ∈ (L.set i L[j]).set j L[i],x ∈ L := by
 have hg : ∀ k (hk : k < ((L.set i L[j]).set j L[i]).length),∃ m,∃ hm : m < L.length,((L.set i L[j]).set j L[i])[k] = L[m] ∧ m = (if k = j then i else if k = i then j else k) := fun k hk => by
  have hk' : k < L.length := by simpa using hk
  rw [List.getElem_set]
  by_cases h1 : j = k
  ·subst h1
   exact ⟨i,hi,by rw [if_pos rfl],by rw [if_pos rfl]⟩
  ·rw [if_neg h1,List.getElem_set]
   by_cases h2 : i = k
   ·subst h2
    exact ⟨j,hj,by rw [if_pos rfl],by rw [if_neg (fun e => h1 e.symm),if_pos rfl]⟩
   ·exact ⟨k,hk',by rw [if_neg h2],by rw [if_neg (fun e => h1 e.symm),if_neg (fun e => h2 e.symm)]⟩
 constructor
 ·rw [List.nodup_iff_pairwise_ne,List.pairwise_iff_getElem]
  intro a b ha hb hab he
  obtain ⟨m,hm,e1,e2⟩ := hg a ha
  obtain ⟨n,hn',f1,f2⟩ := hg b hb
  rw [e1,f1] at he
  have := (List.getElem_inj hn (h₀ := hm) (h₁ := hn')).1 he
  rw [e2,f2] at this
  split at this <;> split at this <;> (try split at this) <;> (try split at this) <;> omega
 ·intro x hx
  obtain ⟨k,hk,rfl⟩ := List.getElem_of_mem hx
  obtain ⟨m,hm,e1,-⟩ := hg k hk
  rw [e1]
  exact List.getElem_mem hm
theorem mixed_ok {N : Nat} (hN : 60 ≤ N) {numbers : List Int} (hb : Bytes numbers) {u m : Int} {k n : Nat} (hk : k ≤ 10000) (hn : n ≤ 20) (hs : SOk u m k) : ∃ out u' m' k',kit_Mixed N ⟨numbers,u,m⟩ (n : Int) = some (out,u',m') ∧ SOk u' m' k' ∧ k' ≤ k + n ∧ out.length = n ∧ out.Nodup ∧ ∀ x ∈ out,0 ≤ x ∧ x < (n : Int) := by
 unfold kit_Mixed
 obtain ⟨s,g1,g2,g3,g4,g5,g6⟩ := loopInv (ρ := List Int × Int × Int) (fun s5 => kit_Mixed_b5 N ⟨numbers,u,m⟩ (n : Int) s5.1 s5.2.1 s5.2.2.1 s5.2.2.2) (fun i s => s.2.1 = (i : Int) ∧ s.1.length = i ∧ s.1.Nodup ∧ (∀ x ∈ s.1,0 ≤ x ∧ x < (i : Int)) ∧ SOk s.2.2.1 s.2.2.2 (k + i)) n (fun i s hi hI => by
  obtain ⟨out,x,p,q⟩ := s
  obtain ⟨rfl,f1,f2,f3,f4⟩ := hI
  dsimp only at f1 f2 f3 f4
  have hW : W ((i : Int) + 1) = ((i + 1 : Nat) : Int) := W_succ (by omega)
  obtain ⟨r,v,w,r1,r2,r3,r4⟩ := next_spec (N := N) hb (n := ((i + 1 : Nat) : Int)) f4 (by omega)
  obtain ⟨j,rfl⟩ := Int.eq_ofNat_of_zero_le r2
  have hj : j < (out ++ [(i : Int)]).length := by rw [List.length_append,f1,List.length_cons,List.length_nil]; omega
  have hi2 : i < (out ++ [(i : Int)]).length := by rw [List.length_append,f1,List.length_cons,List.length_nil]; omega
  have hnd : (out ++ [(i : Int)]).Nodup := by
   rw [List.nodup_append]
   exact ⟨f2,by simp,fun a ha b hb' e => by rw [List.mem_singleton.1 hb'] at e; have := (f3 a ha).2; omega⟩
  have hsw := swap_ok hnd hi2 hj
  refine ⟨(((out ++ [(i : Int)]).set i (out ++ [(i : Int)])[j]).set j (out ++ [(i : Int)])[i],((i + 1 : Nat) : Int),v,w),?_,rfl,?_,hsw.1,fun x hx => ?_,?_⟩
  ·show kit_Mixed_b5 N ⟨numbers,u,m⟩ (n : Int) out (i : Int) p q = _
   unfold kit_Mixed_b5
   dsimp only
   rw [show decide ((i : Int) < (n : Int)) = true by rw [decide_eq_true_eq]; omega,cond_true,hW,r1,Option.bind_some,room_ok (by rw [List.length_append,f1,List.length_cons,List.length_nil]; omega),Option.bind_some,getI_nat hj,Option.bind_some,getI_nat hi2,Option.bind_some,Option.bind_some,Option.bind_some,Int.toNat_natCast,Int.toNat_natCast]
  ·dsimp only
   rw [List.length_set,List.length_set,List.length_append,f1]; rfl
  ·have := hsw.2 x hx
   push_cast
   rcases List.mem_append.1 this with h | h
   ·have := f3 x h; omega
   ·rw [List.mem_singleton.1 h]; omega
  ·have : k + (i + 1) = k + i + 1 := by omega
   dsimp only
   rw [this]; exact r4) (fun s hI => by
  show kit_Mixed_b5 N ⟨numbers,u,m⟩ (n : Int) s.1 s.2.1 s.2.2.1 s.2.2.2 = _
  unfold kit_Mixed_b5
  dsimp only
  rw [hI.1,ge_dec,cond_false,← hI.1]) n 0 ([],0,u,m) N (by omega) (by omega) ⟨rfl,rfl,List.nodup_nil,fun x hx => (List.not_mem_nil hx).elim,hs⟩
 dsimp only
 rw [g1,Option.bind_some]
 exact ⟨_,_,_,_,rfl,g6,by omega,g3,g4,g5⟩
def tally (b : List Int) (L : List Int) : Nat → Nat
 | 0 => 0
 | n + 1 => tally b L n + (L.filter fun p => Asg b p == (n : Int)).length
theorem tally_cons (b : List Int) (p : Int) (L : List Int) : ∀ n,tally b (p::L) n = tally b L n + (if 0 ≤ Asg b p ∧ Asg b p < (n : Int) then 1 else 0)
 | 0 => by
  unfold tally
  rw [if_neg (by omega)]
 | n + 1 => by
  have hf : ((p::L).filter fun p => Asg b p == (n : Int)).length = (if Asg b p = (n : Int) then 1 else 0) + (L.filter fun p => Asg b p == (n : Int)).length := by
   by_cases h : Asg b p = (n : Int)
   ·rw [if_pos h,List.filter_cons,if_pos (by rw [beq_iff_eq]; exact h),List.length_cons]; omega
   ·rw [if_neg h,List.filter_cons,if_neg (by rw [beq_iff_eq]; exact h)]; omega
  unfold tally
  rw [tally_cons b p L n,hf]
  push_cast
  by_cases h : Asg b p = (n : Int)
  ·have h1 : ¬ (0 ≤ Asg b p ∧ Asg b p < (n : Int)) := by omega
   have h2 : 0 ≤ Asg b p ∧ Asg b p < (n : Int) + 1 := by omega
   simp only [if_pos h,if_neg h1,if_pos h2]
   omega
  ·by_cases h1 : 0 ≤ Asg b p ∧ Asg b p < (n : Int)
   ·have h2 : 0 ≤ Asg b p ∧ Asg b p < (n : Int) + 1 := by omega
    simp only [if_neg h,if_pos h1,if_pos h2]
    omega
   ·have h2 : ¬ (0 ≤ Asg b p ∧ Asg b p < (n : Int) + 1) := by omega
    simp only [if_neg h,if_neg h1,if_neg h2]
    omega
theorem tally_eq {b : List Int} {n : Nat} : ∀ {L : List Int},(∀ p ∈ L,Asg b p = -1 ∨ (0 ≤ Asg b p ∧ Asg b p < (n : Int))) → tally b L n = (L.filter fun p => Asg b p != -1).length
 | [],_ => by
  have : ∀ n,tally b [] n = 0 := fun n => by
   induction n with
   | zero => rfl
   | succ n ih => unfold tally; rw [ih]; rfl
  rw [this]; rfl
 | p::L,h => by
  rw [tally_cons,tally_eq fun q hq => h q (List.mem_cons_of_mem _ hq),List.filter_cons]
  rcases h p List.mem_cons_self with h1 | h1
  ·rw [if_neg (by omega),if_neg (by rw [h1]; decide)]; rfl
  ·rw [if_pos h1,if_pos (by rw [bne_iff_ne]; omega),List.length_cons]
theorem has_ok {N : Nat} (hN : 60 ≤ N) {r : crew_Roster} (hr : RosOk r) {b : List Int} (hb : AOk r b) : ∃ out,law11_has N r b = some out ∧ out.length = r.Stations.length ∧ ∀ s,inS r s → out.getD s.toNat 0 = ((memL r b s).length : Int) := by
 have hs2 := hr.s2
 have hp2 := hr.p2
 have hbl := hb.len
 have hM : inM ((r.Stations.length : Nat) : Int) = some () := inM_ok (by omega)
 unfold law11_has
 rw [hM,Option.bind_some]
 obtain ⟨s,g1,g2,g3,g4⟩ := loopInv (ρ := List Int) (fun s5 => law11_has_b5 N b s5.1 s5.2) (fun i s => s.2 = (i : Int) ∧ s.1.length = r.Stations.length ∧ ∀ t,inS r t → s.1.getD t.toNat 0 = ((((ppl r).take i).filter fun p => Asg b p == t).length : Int)) r.People.length (fun i s hi hI => by
  obtain ⟨out,x⟩ := s
  obtain ⟨rfl,f1,f2⟩ := hI
  dsimp only at f1 f2
  have hiP : inP r (i : Int) := ⟨by omega,by omega⟩
  have hget : getI b (i : Int) = some (Asg b (i : Int)) := getI_of (-1) (by omega) (by omega)
  have hdec : decide ((i : Int) < ((b.length : Nat) : Int)) = true := by rw [decide_eq_true_eq]; omega
  show ∃ s',law11_has_b5 N b out (i : Int) = _ ∧ _
  unfold law11_has_b5 law11_has_j9
  rw [hdec,cond_true,hget,Option.bind_some,W_succ (by omega)]
  by_cases hn : Asg b (i : Int) = -1
  ·have : (decide (0 ≤ Asg b (i : Int)) && decide (Asg b (i : Int) < (out.length : Int))) = false := by
    rw [Bool.and_eq_false_iff,decide_eq_false_iff_not,decide_eq_false_iff_not]; omega
   rw [this,cond_false]
   refine ⟨_,rfl,rfl,f1,fun t ht => ?_⟩
   rw [ppl_take hi,if_neg (by rw [hn]; have := ht.1; omega),List.append_nil]
   exact f2 t ht
  ·have hS := (hb.rng _ hiP).resolve_left hn
   have hfl := List.length_filter_le (fun p => Asg b p == Asg b (i : Int)) ((ppl r).take i)
   rw [List.length_take] at hfl
   have hv := f2 _ hS
   rw [decide_eq_true hS.1,decide_eq_true (by have := hS.2; omega),Bool.and_self,cond_true,getI_of 0 hS.1 (by have := hS.2; omega),Option.bind_some,Option.bind_some]
   refine ⟨_,rfl,rfl,by rw [List.length_set]; exact f1,fun t ht => ?_⟩
   dsimp only
   rw [getD_set (by have := hS.1; have := hS.2; omega),ppl_take hi]
   by_cases h1 : t = Asg b (i : Int)
   ·subst h1
    rw [if_pos rfl,if_pos rfl,hv,W_id (by omega) (by omega),List.length_append]
    simp
   ·rw [if_neg (by have := ht.1; have := hS.1; omega),if_neg (fun e => h1 e.symm),List.append_nil]
    exact f2 t ht) (fun s hI => by
  show law11_has_b5 N b s.1 s.2 = _
  unfold law11_has_b5
  rw [hI.1,hbl,ge_dec,cond_false,← hI.1]) r.People.length 0 (List.replicate ((r.Stations.length : Nat) : Int).toNat 0,0) N (by omega) (by omega) ⟨rfl,by rw [List.length_replicate,Int.toNat_natCast],fun t ht => by
   simp only [List.getD,List.getElem?_replicate,List.take_zero,List.filter_nil]
   split <;> rfl⟩
 rw [g1,Option.bind_some]
 refine ⟨_,rfl,g3,fun t ht => ?_⟩
 rw [g4 t ht,List.take_of_length_le (by simp [ppl])]
 rfl
theorem sum_set1 : ∀ (l : List Int) (i : Nat),i < l.length → (l.set i (l.getD i 0 + 1)).sum = l.sum + 1
 | a::l,0,_ => by simp [List.getD]; omega
 | a::l,i + 1,h => by
  have := sum_set1 l i (by simpa using h)
  simp only [List.set_cons_succ,List.sum_cons,List.getD_cons_succ]
  omega
theorem same_int {N : Nat} {l : List Int} (hl : l.length ≤ 1000) (hN : l.length < N) : kit_Same_int N l l = some true := by
 unfold kit_Same_int
 rw [bne_self_eq_false,cond_false,sameLoop l (by omega) (fun s7 => kit_Same_int_b7 N l l s7) (fun i hi => by
  unfold kit_Same_int_b7
  simp only [lt_dec hi,cond_true,getI_nat hi,Option.bind_some,bne_self_eq_false,cond_false]
  rw [W_succ (by omega)]) (by
  unfold kit_Same_int_b7
  rw [ge_dec]; rfl) hN]
 rfl
end Go.Nilo
