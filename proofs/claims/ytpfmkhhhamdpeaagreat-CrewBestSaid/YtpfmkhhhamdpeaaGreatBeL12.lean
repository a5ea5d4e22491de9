/-
  What the plain functions compute, in plain arithmetic, part 12. Conditions: what each theorem names.
-/
import Derived.Test.YtpfmkhhhamdpeaaGreatBeL11
set_option linter.unusedSimpArgs false
set_option linter.unusedVariables false
namespace Go.Nilo
def rankF (r : crew_Roster) (p s : Int) : Int := if s ∈ pf r p then idxI (pf r p) s else (r.Stations.length : Int)
theorem rank_ok {N : Nat} (hN : 40 ≤ N) {r : crew_Roster} (hr : RosOk r) {p : Int} (hp : inP r p) (s : Int) : law11_rank N r p s = some (rankF r p s) := by
 have hl := hr.pf_len (pf_mem hp)
 have hget : getI r.People p = some (pf r p) := getI_of [] hp.1 hp.2
 unfold law11_rank rankF
 rw [hget,Option.bind_some,idx_ok (by omega) (by omega),Option.bind_some]
 by_cases h : s ∈ pf r p
 ·obtain ⟨i,h1,-⟩ := idx_get h
  rw [if_pos h,decide_eq_true (by omega),cond_true]
 ·rw [if_neg h,idx_none h,decide_eq_false (by omega),cond_false]
theorem has_ok {N : Nat} (hN : 60 ≤ N) {r : crew_Roster} (hr : RosOk r) {b : List Int} (hb : AOk r b) : ∃ out,law11_has N r b = some out ∧ out.length = r.Stations.length ∧ ∀ s,inS r s → out.getD s.toNat 0 = ((memL r b s).length : Int) := by
 have hs2 := hr.s2
 have hp2 := hr.p2
 have hbl := hb.len
 have hM : inM ((r.Stations.length : Nat) : Int) = some () := inM_ok (by omega)
 unfold law11_has
 rw [hM,Option.bind_some]
 obtain ⟨s,g1,g2,g3,g4⟩ := loopInv (ρ := List Int) (fun s5 => law11_has_b5 N b s5.1 s5.2) (fun i s => s.2 = (i : Int) ∧ s.1.length = r.Stations.length ∧ ∀ t,inS r t → s.1.getD t.toNat 0 = ((((ppl r).take i).filter fun p => Asg b p == t).length : Int)) r.People.length (fun i s hi hI => by
  obtain ⟨out,x⟩ := s
  obtain ⟨rfl,f1,f2⟩ := hI
  dsimp only at f1 f2
  have hiP : inP r (i : Int) := ⟨by omega,by omega⟩
  have hget : getI b (i : Int) = some (Asg b (i : Int)) := getI_of (-1) (by omega) (by omega)
  have hdec : decide ((i : Int) < ((b.length : Nat) : Int)) = true := by rw [decide_eq_true_eq]; omega
  show ∃ s',law11_has_b5 N b out (i : Int) = _ ∧ _
  unfold law11_has_b5 law11_has_j9
  rw [hdec,cond_true,hget,Option.bind_some,W_succ (by omega)]
  by_cases hn : Asg b (i : Int) = -1
  ·have : (decide (0 ≤ Asg b (i : Int)) && decide (Asg b (i : Int) < (out.length : Int))) = false := by
    rw [Bool.and_eq_false_iff,decide_eq_false_iff_not,decide_eq_false_iff_not]; omega
   rw [this,cond_false]
   refine ⟨_,rfl,rfl,f1,fun t ht => ?_⟩
   rw [ppl_take hi,if_neg (by rw [hn]; have := ht.1; omega),List.append_nil]
   exact f2 t ht
  ·have hS := (hb.rng _ hiP).resolve_left hn
   have hfl := List.length_filter_le (fun p => Asg b p == Asg b (i : Int)) ((ppl r).take i)
   rw [List.length_take] at hfl
   have hv := f2 _ hS
   rw [decide_eq_true hS.1,decide_eq_true (by have := hS.2; omega),Bool.and_self,cond_true,getI_of 0 hS.1 (by have := hS.2; omega),Option.bind_some,Option.bind_some]
   refine ⟨_,rfl,rfl,by rw [List.length_set]; exact f1,fun t ht => ?_⟩
   dsimp only
   rw [getD_set (by have := hS.1; have := hS.2; omega),ppl_take hi]
   by_cases h1 : t = Asg b (i : Int)
   ·subst h1
    rw [if_pos rfl,if_pos rfl,hv,W_id (by omega) (by omega),List.length_append]
    simp
   ·rw [if_neg (by have := ht.1; have := hS.1; omega),if_neg (fun e => h1 e.symm),List.append_nil]
    exact f2 t ht) (fun s hI => by
  show law11_has_b5 N b s.1 s.2 = _
  unfold law11_has_b5
  rw [hI.1,hbl,ge_dec,cond_false,← hI.1]) r.People.length 0 (List.replicate ((r.Stations.length : Nat) : Int).toNat 0,0) N (by omega) (by omega) ⟨rfl,by rw [List.length_replicate,Int.toNat_natCast],fun t ht => by
   simp only [List.getD,List.getElem?_replicate,List.take_zero,List.filter_nil]
   split <;> rfl⟩
 rw [g1,Option.bind_some]
 refine ⟨_,rfl,g3,fun t ht => ?_⟩
 rw [g4 t ht,List.take_of_length_le (by simp [ppl])]
 rfl
abbrev Nx (nx : List Int) (s : Int) : Int := nx.getD s.toNat 0
structure AI (r : crew_Roster) (out nx : List Int) : Prop where
 a : AOk r out
 nl : nx.length = r.Stations.length
 nr : ∀ s,inS r s → 0 ≤ Nx nx s ∧ Nx nx s ≤ ((sta r s).Order.length : Int)
 asked : ∀ s,inS r s → ∀ p,posB r p s → rk r s p < Nx nx s → Asg out p ∈ pf r p ∧ idxI (pf r p) (Asg out p) ≤ idxI (pf r p) s
 own : ∀ p,inP r p → Asg out p ≠ -1 → posB r p (Asg out p) ∧ rk r (Asg out p) p < Nx nx (Asg out p)
 cap : ∀ s,inS r s → ((memL r out s).length : Int) ≤ (sta r s).Places
def FullS (r : crew_Roster) (out nx : List Int) (s : Int) : Prop := Nx nx s = ((sta r s).Order.length : Int) ∨ (sta r s).Places ≤ ((memL r out s).length : Int)
theorem order_person {r : crew_Roster} (hr : RosOk r) {s p : Int} (hs : inS r s) (h : p ∈ (sta r s).Order) : inP r p := hr.sr _ (sta_mem hs) p h
theorem AI.stable {r : crew_Roster} (hr : RosOk r) {out nx : List Int} (h : AI r out nx) (hf : ∀ s,inS r s → FullS r out nx s) : Stable r out := by
 refine ⟨h.a,fun p hp hne => ?_,fun p s hp hb hpo hw => ?_⟩
 ·obtain ⟨g1,g2⟩ := h.own p hp hne
  exact ⟨g1,h.cap _ (pf_ran hr hp g1.2)⟩
 ·have hs := pf_ran hr hp hb.1
  have hna : Nx nx s ≤ rk r s p := by
   rcases Int.lt_or_le (rk r s p) (Nx nx s) with h1 | h1
   ·obtain ⟨k1,k2⟩ := h.asked s hs p hpo h1
    rcases hb.2 with h2 | h2
    ·exact absurd k1 h2
    ·omega
   ·exact h1
  obtain ⟨i,hi1,hi2,hi3⟩ := idx_get hpo.1
  have hfull : (sta r s).Places ≤ ((memL r out s).length : Int) := by
   rcases hf s hs with h1 | h1
   ·unfold rk at hna; omega
   ·exact h1
  rcases hw with hw | ⟨q,hq,hlt⟩
  ·omega
  ·obtain ⟨q1,q2⟩ := mem_memL.1 hq
   have := (h.own q q1 (by rw [q2]; have := hs.1; omega)).2
   rw [q2] at this
   omega
theorem AI.step {r : crew_Roster} (hr : RosOk r) {out nx : List Int} (h : AI r out nx) {x p : Int} (hx : inS r x) {j : Nat} (hj : j < (sta r x).Order.length) (hn : Nx nx x = (j : Int)) (hpe : (sta r x).Order[j] = p) (hc : ((memL r out x).length : Int) < (sta r x).Places) :
  (posB r p x ∧ rankF r p x < rankF r p (Asg out p) → AI r (out.set p.toNat x) (nx.set x.toNat (Nx nx x + 1))) ∧ (¬ (posB r p x ∧ rankF r p x < rankF r p (Asg out p)) → AI r out (nx.set x.toNat (Nx nx x + 1))) := by
 have hpm : p ∈ (sta r x).Order := hpe ▸ List.getElem_mem hj
 have hp := order_person hr hx hpm
 have hrkp : rk r x p = (j : Int) := by
  unfold rk
  rw [← hpe]
  exact idx_nth (hr.sn _ (sta_mem hx)) hj
 have eN : ∀ s,0 ≤ s → Nx (nx.set x.toNat (Nx nx x + 1)) s = if s = x then Nx nx x + 1 else Nx nx s := fun s hs => by
  unfold Nx
  rw [getD_set (by rw [h.nl]; have := hx.1; have := hx.2; omega)]
  by_cases h1 : s = x
  ·subst h1; rw [if_pos rfl,if_pos rfl]
  ·rw [if_neg h1,if_neg (by have := hx.1; omega)]
 have hnr : ∀ s,inS r s → 0 ≤ Nx (nx.set x.toNat (Nx nx x + 1)) s ∧ Nx (nx.set x.toNat (Nx nx x + 1)) s ≤ ((sta r s).Order.length : Int) := fun s hs => by
  rw [eN s hs.1]
  by_cases h1 : s = x
  ·subst h1; rw [if_pos rfl]; omega
  ·rw [if_neg h1]; exact h.nr s hs
 have hge : ∀ s,inS r s → Nx nx s ≤ Nx (nx.set x.toNat (Nx nx x + 1)) s := fun s hs => by
  rw [eN s hs.1]; split
  ·rename_i h1; subst h1; omega
  ·exact Int.le_refl _
 have hlt : ∀ s q,inS r s → posB r q s → rk r s q < Nx (nx.set x.toNat (Nx nx x + 1)) s → rk r s q < Nx nx s ∨ (s = x ∧ q = p) := fun s q hs hq h1 => by
  rw [eN s hs.1] at h1
  by_cases h2 : s = x
  ·subst h2
   rw [if_pos rfl] at h1
   by_cases h3 : rk r s q = (j : Int)
   ·right
    refine ⟨rfl,idx_inj (l := (sta r s).Order) hq.1 ?_⟩
    have : rk r s q = rk r s p := by omega
    exact this
   ·left; omega
  ·rw [if_neg h2] at h1; exact Or.inl h1
 constructor
 ·rintro ⟨hpo,hbet⟩
  have hxi : x ∈ pf r p := hpo.2
  have eA : ∀ q,0 ≤ q → Asg (out.set p.toNat x) q = if q = p then x else Asg out q := fun q hq => asg_set hp.1 (by rw [h.a.len]; exact hp.2) hq
  have hxb : Asg out p ∈ pf r p → idxI (pf r p) x < idxI (pf r p) (Asg out p) := fun hm => by
   unfold rankF at hbet
   rw [if_pos hxi,if_pos hm] at hbet
   exact hbet
  refine ⟨⟨by rw [List.length_set]; exact h.a.len,fun q hq => ?_⟩,by rw [List.length_set]; exact h.nl,hnr,fun s hs q hq h1 => ?_,fun q hq hne => ?_,fun s hs => ?_⟩
  ·rw [eA q hq.1]; split
   ·exact Or.inr hx
   ·exact h.a.rng q hq
  ·have hqp := order_person hr hs hq.1
   rw [eA q hqp.1]
   by_cases h2 : q = p
   ·subst h2
    rw [if_pos rfl]
    refine ⟨hxi,?_⟩
    rcases hlt s q hs hq h1 with h3 | ⟨h3,-⟩
    ·obtain ⟨k1,k2⟩ := h.asked s hs q hq h3
     have := hxb k1
     omega
    ·rw [h3]; exact Int.le_refl _
   ·rw [if_neg h2]
    rcases hlt s q hs hq h1 with h3 | ⟨-,h3⟩
    ·exact h.asked s hs q hq h3
    ·exact absurd h3 h2
  ·rw [eA q hq.1] at hne ⊢
   by_cases h2 : q = p
   ·subst h2
    rw [if_pos rfl,eN x hx.1,if_pos rfl]
    exact ⟨hpo,by omega⟩
   ·rw [if_neg h2] at hne ⊢
    obtain ⟨k1,k2⟩ := h.own q hq hne
    have := hge _ (pf_ran hr hq k1.2)
    exact ⟨k1,by omega⟩
  ·by_cases h2 : s = x
   ·subst h2
    have hsub := nodup_le (memL_nodup r (out.set p.toNat s) s) (l' := p::memL r out s) fun q hq => by
     obtain ⟨q1,q2⟩ := mem_memL.1 hq
     rw [eA q q1.1] at q2
     by_cases h3 : q = p
     ·exact h3 ▸ List.mem_cons_self
     ·rw [if_neg h3] at q2; exact List.mem_cons_of_mem _ (mem_memL.2 ⟨q1,q2⟩)
    rw [List.length_cons] at hsub
    omega
   ·have hsub := nodup_le (memL_nodup r (out.set p.toNat x) s) (l' := memL r out s) fun q hq => by
     obtain ⟨q1,q2⟩ := mem_memL.1 hq
     rw [eA q q1.1] at q2
     by_cases h3 : q = p
     ·rw [if_pos h3] at q2; exact absurd q2.symm h2
     ·rw [if_neg h3] at q2; exact mem_memL.2 ⟨q1,q2⟩
    have := h.cap s hs
    omega
 ·intro hno
  refine ⟨h.a,by rw [List.length_set]; exact h.nl,hnr,fun s hs q hq h1 => ?_,fun q hq hne => ?_,h.cap⟩
  ·rcases hlt s q hs hq h1 with h3 | ⟨h3,h4⟩
   ·exact h.asked s hs q hq h3
   ·subst h3; subst h4
    have hle : ¬ rankF r q s < rankF r q (Asg out q) := fun e => hno ⟨hq,e⟩
    obtain ⟨i,i1,i2,-⟩ := idx_get hq.2
    have hpl : (pf r q).length ≤ r.Stations.length := range_len (hr.pn _ (pf_mem hp)) (hr.pr _ (pf_mem hp))
    unfold rankF at hle
    rw [if_pos hq.2] at hle
    by_cases hm : Asg out q ∈ pf r q
    ·rw [if_pos hm] at hle
     exact ⟨hm,by omega⟩
    ·rw [if_neg hm] at hle
     omega
  ·obtain ⟨k1,k2⟩ := h.own q hq hne
   have := hge _ (pf_ran hr hq k1.2)
   exact ⟨k1,by omega⟩
theorem sum_set1 : ∀ (l : List Int) (i : Nat),i < l.length → (l.set i (l.getD i 0 + 1)).sum = l.sum + 1
 | a::l,0,_ => by simp [List.getD]; omega
 | a::l,i + 1,h => by
  have := sum_set1 l i (by simpa using h)
  simp only [List.set_cons_succ,List.sum_cons,List.getD_cons_succ]
  omega
theorem sum_le {B : Int} : ∀ {l : List Int},(∀ x ∈ l,x ≤ B) → l.sum ≤ B * (l.length : Int)
 | [],_ => by simp
 | a::l,h => by
  have h1 := sum_le (B := B) (l := l) fun x hx => h x (List.mem_cons_of_mem _ hx)
  have h2 := h a List.mem_cons_self
  rw [List.sum_cons,List.length_cons]
  push_cast
  rw [Int.mul_add,Int.mul_one]
  omega
theorem AI.sum {r : crew_Roster} (hr : RosOk r) {out nx : List Int} (h : AI r out nx) : nx.sum ≤ 144 := by
 have := sum_le (B := 12) (l := nx) fun x hx => by
  obtain ⟨i,hi,rfl⟩ := List.getElem_of_mem hx
  have hs : inS r (i : Int) := ⟨by omega,by have := h.nl; omega⟩
  have h1 := (h.nr _ hs).2
  unfold Nx at h1
  rw [Int.toNat_natCast,← get_getD hi] at h1
  have := hr.or_len (sta_mem hs)
  omega
 have := h.nl
 have := hr.s2
 omega
theorem pass_ok {N : Nat} (hN : 60 ≤ N) {r : crew_Roster} (hr : RosOk r) {out nx : List Int} (h : AI r out nx) :
  ∃ out' nx' ag,loopO (fun s14 => law11_asked_b14 N r s14.1 s14.2.1 s14.2.2.1 s14.2.2.2) N (out,nx,false,0) = some (.go (out',nx',ag,(r.Stations.length : Int))) ∧ AI r out' nx' ∧ nx.sum ≤ nx'.sum ∧ (ag = true → nx.sum + 1 ≤ nx'.sum) ∧ (ag = false → ∀ s,inS r s → FullS r out' nx' s) := by
 have hs2 := hr.s2
 have hp2 := hr.p2
 obtain ⟨s,g1,g2,g3,g4,g5,g6⟩ := loopInv (ρ := Step ((List Int) × (List Int) × Bool) (List Int)) (fun s14 => law11_asked_b14 N r s14.1 s14.2.1 s14.2.2.1 s14.2.2.2) (fun i s => s.2.2.2 = (i : Int) ∧ AI r s.1 s.2.1 ∧ nx.sum ≤ s.2.1.sum ∧ (s.2.2.1 = true → nx.sum + 1 ≤ s.2.1.sum) ∧ (s.2.2.1 = false → ∀ t,inS r t → t < (i : Int) → FullS r s.1 s.2.1 t)) r.Stations.length (fun i s hi hI => by
  obtain ⟨o,n,ag,x⟩ := s
  obtain ⟨rfl,f1,f2,f3,f4⟩ := hI
  dsimp only at f1 f2 f3 f4
  have hx : inS r (i : Int) := ⟨by omega,by omega⟩
  obtain ⟨hs,h1,h2,h3⟩ := has_ok hN hr f1.a
  have hgs : getI r.Stations (i : Int) = some (sta r (i : Int)) := getI_of _ hx.1 hx.2
  have hgn : getI n (i : Int) = some (Nx n (i : Int)) := getI_of 0 hx.1 (by rw [f1.nl]; exact hx.2)
  have hgh : getI hs (i : Int) = some (((memL r o (i : Int)).length : Nat) : Int) := by rw [getI_of 0 hx.1 (by rw [h2]; exact hx.2),h3 _ hx]
  show ∃ s',law11_asked_b14 N r o n ag (i : Int) = _ ∧ _
  unfold law11_asked_b14 law11_asked_j17
  rw [lt_dec hi,cond_true,hgs,Option.bind_some,hgn,Option.bind_some,W_succ (by omega)]
  by_cases hfull : FullS r o n (i : Int)
  ·have hrg : (cond (Nx n (i : Int) == (((sta r (i : Int)).Order.length : Nat) : Int)) (some true) (Option.bind (law11_has N r o) fun r_1 => Option.bind (getI r_1 (i : Int)) fun e_3 => some (decide ((sta r (i : Int)).Places ≤ e_3)))) = some true := by
    rcases hfull with h4 | h4
    ·rw [beq_iff_eq.2 h4]; rfl
    ·rw [h1,Option.bind_some,hgh,Option.bind_some,decide_eq_true h4]
     cases (Nx n (i : Int) == (((sta r (i : Int)).Order.length : Nat) : Int)) <;> rfl
   rw [hrg,Option.bind_some,cond_true]
   refine ⟨_,rfl,rfl,f1,f2,f3,fun ha t ht hlt => ?_⟩
   by_cases h5 : t = (i : Int)
   ·subst h5; exact hfull
   ·exact f4 ha t ht (by push_cast at hlt; omega)
  ·have hn1 : Nx n (i : Int) ≠ ((sta r (i : Int)).Order.length : Int) := fun e => hfull (Or.inl e)
   have hn2 : ((memL r o (i : Int)).length : Int) < (sta r (i : Int)).Places := by
    rcases Int.lt_or_le ((memL r o (i : Int)).length : Int) (sta r (i : Int)).Places with h4 | h4
    ·exact h4
    ·exact absurd (Or.inr h4) hfull
   have hrg : (cond (Nx n (i : Int) == (((sta r (i : Int)).Order.length : Nat) : Int)) (some true) (Option.bind (law11_has N r o) fun r_1 => Option.bind (getI r_1 (i : Int)) fun e_3 => some (decide ((sta r (i : Int)).Places ≤ e_3)))) = some false := by
    rw [beq_eq_false_iff_ne.2 hn1,cond_false,h1,Option.bind_some,hgh,Option.bind_some,decide_eq_false (by omega)]
   obtain ⟨b1,b2⟩ := f1.nr _ hx
   obtain ⟨j,hj⟩ := Int.eq_ofNat_of_zero_le b1
   have hjl : j < (sta r (i : Int)).Order.length := by omega
   have hol := hr.or_len (sta_mem hx)
   have hpm := List.getElem_mem hjl
   have hp := order_person hr hx hpm
   have hgo : getI (sta r (i : Int)).Order (Nx n (i : Int)) = some (sta r (i : Int)).Order[j] := by rw [hj]; exact getI_nat hjl
   have hstep := f1.step hr hx hjl hj rfl hn2
   generalize (sta r (i : Int)).Order[j] = p at hpm hp hgo hstep
   have hgp : getI r.People p = some (pf r p) := getI_of [] hp.1 hp.2
   have hga : getI o p = some (Asg o p) := getI_of (-1) hp.1 (by rw [f1.a.len]; exact hp.2)
   have hpl := hr.pf_len (pf_mem hp)
   have hW : W (Nx n (i : Int) + 1) = Nx n (i : Int) + 1 := W_id (by omega) (by omega)
   have hsum : (n.set ((i : Int)).toNat (Nx n (i : Int) + 1)).sum = n.sum + 1 := by
    rw [Int.toNat_natCast]
    have := sum_set1 n i (by have := f1.nl; omega)
    unfold Nx
    rw [Int.toNat_natCast]
    exact this
   rw [hrg,Option.bind_some,cond_false,Option.bind_some,hgo,Option.bind_some,Option.bind_some,Option.bind_some,hgp,Option.bind_some,contains_ok (by omega) (by omega),Option.bind_some,hW]
   by_cases hin : (i : Int) ∈ pf r p
   ·rw [decide_eq_true hin,cond_true,rank_ok (by omega) hr hp,Option.bind_some,hga,Option.bind_some,rank_ok (by omega) hr hp,Option.bind_some,Option.bind_some]
    by_cases hlt : rankF r p (i : Int) < rankF r p (Asg o p)
    ·rw [decide_eq_true hlt,cond_true,Option.bind_some]
     exact ⟨_,rfl,rfl,hstep.1 ⟨⟨hpm,hin⟩,hlt⟩,by dsimp only; omega,fun _ => by dsimp only; omega,(fun e => by cases e)⟩
    ·rw [decide_eq_false hlt,cond_false]
     exact ⟨_,rfl,rfl,hstep.2 fun e => hlt e.2,by dsimp only; omega,fun _ => by dsimp only; omega,(fun e => by cases e)⟩
   ·rw [decide_eq_false hin,cond_false,Option.bind_some,cond_false]
    exact ⟨_,rfl,rfl,hstep.2 fun e => hin e.1.2,by dsimp only; omega,fun _ => by dsimp only; omega,(fun e => by cases e)⟩) (fun s hI => by
  show law11_asked_b14 N r s.1 s.2.1 s.2.2.1 s.2.2.2 = _
  unfold law11_asked_b14
  rw [hI.1,ge_dec,cond_false,← hI.1]) r.Stations.length 0 (out,nx,false,0) N (by omega) (by omega) ⟨rfl,h,Int.le_refl _,(fun e => by cases e),fun _ t ht hlt => by have := ht.1; omega⟩
 exact ⟨s.1,s.2.1,s.2.2.1,by rw [g1,← g2],g3,g4,g5,fun ha t ht => g6 ha t ht ht.2⟩
theorem asked_ok {N : Nat} (hN : 400 ≤ N) (hrep : RepOk N) {r : crew_Roster} (hr : RosOk r) : ∃ b,law11_asked N r = some b ∧ Stable r b := by
 obtain ⟨p1,p2,s1,s2,-⟩ := id hr
 have eA : ∀ p,Asg (List.replicate r.People.length (-1)) p = -1 := fun p => by
  unfold Asg
  simp only [List.getD,List.getElem?_replicate]
  split <;> rfl
 have eN : ∀ s,Nx (List.replicate r.Stations.length 0) s = 0 := fun s => by
  unfold Nx
  simp only [List.getD,List.getElem?_replicate]
  split <;> rfl
 have h0 : AI r (List.replicate r.People.length (-1)) (List.replicate r.Stations.length 0) := by
  refine ⟨⟨by simp,fun p _ => Or.inl (eA p)⟩,by simp,fun s hs => by rw [eN]; omega,fun s hs p hpo h1 => ?_,fun p hp hne => absurd (eA p) hne,fun s hs => ?_⟩
  ·rw [eN] at h1
   have := rk_nonneg hpo
   omega
  ·have hemp : memL r (List.replicate r.People.length (-1)) s = [] := by
    unfold memL
    rw [List.filter_eq_nil_iff]
    intro p _
    rw [eA,beq_iff_eq]
    have := hs.1
    omega
   rw [hemp]
   have := (hr.sp _ (sta_mem hs)).1
   simp only [List.length_nil]
   omega
 obtain ⟨s,g1,g2,g3⟩ := loop_to (ρ := List Int) (f := fun s6 => law11_asked_b6 N r s6.1 s6.2.1 s6.2.2) (fun s => AI r s.1 s.2.1 ∧ (s.2.2 = false → ∀ t,inS r t → FullS r s.1 s.2.1 t)) (fun s => AI r s.1 s.2.1 ∧ ∀ t,inS r t → FullS r s.1 s.2.1 t) (fun s => (144 - s.2.1.sum).toNat + (if s.2.2 = true then 1 else 0)) (fun s hI => by
  obtain ⟨o,n,ag⟩ := s
  obtain ⟨k1,k2⟩ := hI
  dsimp only at k1 k2
  show (∃ s',law11_asked_b6 N r o n ag = _ ∧ _) ∨ (∃ s',law11_asked_b6 N r o n ag = _ ∧ _)
  cases ag with
  | false => exact Or.inl ⟨(o,n,false),rfl,k1,k2 rfl⟩
  | true =>
   right
   obtain ⟨o',n',ag',l1,l2,l0,l3,l4⟩ := pass_ok (N := N) (by omega) hr k1
   refine ⟨(o',n',ag'),?_,⟨l2,l4⟩,?_⟩
   ·unfold law11_asked_b6
    rw [cond_true,l1,Option.bind_some]
    rfl
   ·have hsm := l2.sum hr
    dsimp only
    cases ag' with
    | true => have := l3 rfl; simp only [if_true]; omega
    | false =>
     simp only [if_true,Bool.false_eq_true,if_false]
     omega) N (List.replicate r.People.length (-1),List.replicate r.Stations.length 0,true) ⟨h0,(fun e => by cases e)⟩ (by
   have : (List.replicate r.Stations.length (0 : Int)).sum = 0 := by
    induction r.Stations.length with
    | zero => rfl
    | succ n ih => rw [List.replicate_succ,List.sum_cons,ih]; rfl
   dsimp only
   rw [this]
   simp only [if_true]
   omega)
 refine ⟨s.1,?_,g2.stable hr g3⟩
 unfold law11_asked
 rw [hrep _ p1 p2,Option.bind_some,inM_ok (show r.Stations.length ≤ 1000000 by omega),Option.bind_some,Int.toNat_natCast,g1,Option.bind_some,exK_at]
end Go.Nilo
