/-
  What the plain functions compute, in plain arithmetic, part 12. Conditions: what each theorem names.
-/
import Derived.Test.YtpfmkhhhamdpeaaGreatStL11
set_option linter.unusedSimpArgs false
set_option linter.unusedVariables false
namespace Go.Nilo
theorem has_any {N : Nat} (hN : 60 ≤ N) {r : crew_Roster} (hr : RosOk r) {b : List Int} (hb : b.length ≤ 20) : ∃ out,law11_has N r b = some out ∧ out.length = r.Stations.length := by
 have hs2 := hr.s2
 have hM : inM ((r.Stations.length : Nat) : Int) = some () := inM_ok (by omega)
 unfold law11_has
 rw [hM,Option.bind_some]
 obtain ⟨s,g1,g2,g3⟩ := loopInv (ρ := List Int) (fun s5 => law11_has_b5 N b s5.1 s5.2) (fun i s => s.2 = (i : Int) ∧ s.1.length = r.Stations.length) b.length (fun i s hi hI => by
  obtain ⟨out,x⟩ := s
  obtain ⟨rfl,f1⟩ := hI
  dsimp only at f1
  show ∃ s',law11_has_b5 N b out (i : Int) = _ ∧ _
  unfold law11_has_b5 law11_has_j9
  rw [lt_dec hi,cond_true,getI_nat hi,Option.bind_some,W_succ (by omega)]
  by_cases h : 0 ≤ b[i] ∧ b[i] < (out.length : Int)
  ·rw [decide_eq_true h.1,decide_eq_true h.2,Bool.and_self,cond_true,getI_of 0 h.1 h.2,Option.bind_some,Option.bind_some]
   exact ⟨_,rfl,rfl,by rw [List.length_set]; exact f1⟩
  ·have : (decide (0 ≤ b[i]) && decide (b[i] < (out.length : Int))) = false := by
    rw [Bool.and_eq_false_iff,decide_eq_false_iff_not,decide_eq_false_iff_not]; omega
   rw [this,cond_false]
   exact ⟨_,rfl,rfl,f1⟩) (fun s hI => by
  show law11_has_b5 N b s.1 s.2 = _
  unfold law11_has_b5
  rw [hI.1,ge_dec,cond_false,← hI.1]) b.length 0 (List.replicate ((r.Stations.length : Nat) : Int).toNat 0,0) N (by omega) (by omega) ⟨rfl,by rw [List.length_replicate,Int.toNat_natCast]⟩
 rw [g1,Option.bind_some]
 exact ⟨_,rfl,g3⟩
theorem AOk.set {r : crew_Roster} {b : List Int} (h : AOk r b) {p v : Int} (hp : inP r p) (hv : v = -1 ∨ inS r v) : AOk r (b.set p.toNat v) := by
 refine ⟨by rw [List.length_set]; exact h.len,fun q hq => ?_⟩
 rw [asg_set hp.1 (by rw [h.len]; exact hp.2) hq.1]
 split
 ·exact hv
 ·exact h.rng q hq
theorem j27_ok {r : crew_Roster} (hr : RosOk r) {l : List crew_Refusal} {asg : List Int} {ks : List (List Int)} (hS : SI r (fun _ => True) l asg ks) {x : crew_Refusal} (hx : x ∈ l) {b : List Int} (hb : AOk r b) (he : Asg b x.Person = x.Station) (u m : Int) : law11_CrewStable_j27 700 (r,u,m) b = some true := by
 unfold law11_CrewStable_j27
 obtain ⟨y,e,h1,h2,h3⟩ := blocks_ok (N := 700) (by omega) hr hb
 have hne : e ≠ 5 := fun h5 => by
  obtain ⟨k,hk,rfl⟩ := List.getElem_of_mem hx
  exact refused_never hr hS.just hS.refp (h3.1 h5) (k + 1) k (by omega) hk he
 dsimp only
 rw [h1,Option.bind_some]
 have : ((e == 0) || (e == 7)) = true := by
  rw [Bool.or_eq_true,beq_iff_eq,beq_iff_eq]
  omega
 rw [this,cond_true,awake_true]
 rfl
theorem crewstable_law {numbers : List Int} {which : Int} (hb : Bytes numbers) (hwh : 0 ≤ which ∧ which ≤ 255) : law11_CrewStable 700 numbers which = some true := by
 unfold law11_CrewStable
 have h0 : ∀ l,kit_New 700 l = some (0,0) := fun _ => rfl
 rw [h0,Option.bind_some]
 obtain ⟨r,u,m,k',h1,hr,-,-,-,-⟩ := made_ok (N := 700) (by omega) hb (most := 9) (by omega) (by omega) (u := 0) (m := 0) (k := 0) (by omega) ⟨by omega,by omega,by omega,by omega⟩
 rw [h1,Option.bind_some]
 dsimp only
 obtain ⟨asg,l,a1,a2,hSt⟩ := assign_ok (N := 700) (by omega) (fun k c1 c2 => repeat_ok c1 c2) hr
 have hst := settled_stable hr hSt
 obtain ⟨ks,hS⟩ := hSt
 have hll := hS.len hr
 have hp2 := hr.p2
 have hs2 := hr.s2
 have hal := hS.al
 rw [a1,Option.bind_some,a2,Option.bind_some]
 have c1 : ((((0 : Int) != 0) || ((0 : Int) != 0)) || (((asg.length : Nat) : Int) != ((r.People.length : Nat) : Int)) || (decide (144 < ((l.length : Nat) : Int)))) = false := by
  rw [hal,bne_self_eq_false,bne_self_eq_false,decide_eq_false (by omega)]; rfl
 dsimp only
 rw [c1,cond_false]
 obtain ⟨y,e,b1,b2,b3⟩ := blocks_ok (N := 700) (by omega) hr hst.a
 obtain rfl := b3.2 hst
 rw [b1,Option.bind_some,holds_ok (by omega) hr hll hS.refp hS.just,Option.bind_some]
 simp only [bne_self_eq_false,Bool.not_true,Bool.or_self,cond_false]
 have haw : (Option.bind (law11_awake 700) fun r => some r) = some true := by rw [awake_true]; rfl
 by_cases hz : l.length = 0
 ·rw [show (((l.length : Nat) : Int) == 0) = true by rw [beq_iff_eq]; omega,cond_true]
  exact haw
 ·rw [show (((l.length : Nat) : Int) == 0) = false by rw [beq_eq_false_iff_ne]; omega,cond_false]
  obtain ⟨q,rfl⟩ := Int.eq_ofNat_of_zero_le hwh.1
  have ht : q % l.length < l.length := Nat.mod_lt _ (by omega)
  have hmod : (W (q : Int)).tmod ((l.length : Nat) : Int) = ((q % l.length : Nat) : Int) := by
   rw [W_id (by omega) (by omega),tmod_mod (by omega)]
   exact (Int.natCast_emod q l.length).symm
  have hnz : nz ((l.length : Nat) : Int) = some () := by unfold nz; rw [if_neg (by omega)]
  rw [hmod,hnz,Option.bind_some]
  generalize q % l.length = t at ht
  have hsub : subO l 0 (t : Int) = some (l.take t) := by
   unfold subO
   rw [if_pos ⟨by omega,by omega,by omega⟩]
   simp
  rw [hsub,Option.bind_some,holds_ok (by omega) hr (by rw [List.length_take]; omega) (fun x hx => hS.refp x (List.mem_of_mem_take hx)) (fun k hk => by
   rw [List.length_take] at hk
   rw [List.take_take,show min k t = k by omega,List.getElem_take]
   exact hS.just k (by omega)),Option.bind_some]
  simp only [bne_self_eq_false,Bool.not_true,Bool.or_self,cond_false]
  rw [getI_nat ht,Option.bind_some]
  have hx := List.getElem_mem ht
  obtain ⟨hP,hSt,hpo⟩ := hS.refp _ hx
  have c2 : ((((decide (l[t].Person < 0)) || (decide (((asg.length : Nat) : Int) ≤ l[t].Person))) || (decide (l[t].Station < 0))) || (decide (((r.Stations.length : Nat) : Int) ≤ l[t].Station))) = false := by
   rw [decide_eq_false (by have := hP.1; omega),decide_eq_false (by have := hP.2; omega),decide_eq_false (by have := hSt.1; omega),decide_eq_false (by have := hSt.2; omega)]; rfl
  have hcp : kit_Copy_int 700 asg = some asg := by unfold kit_Copy_int; rw [room_ok (by omega)]; rfl
  have hga : getI asg l[t].Person = some (Asg asg l[t].Person) := getI_of (-1) hP.1 (by rw [hal]; exact hP.2)
  have hA := hst.a.set hP (v := l[t].Station) (Or.inr hSt)
  have hE : Asg (asg.set l[t].Person.toNat l[t].Station) l[t].Person = l[t].Station := by rw [asg_set hP.1 (by rw [hal]; exact hP.2) hP.1,if_pos rfl]
  obtain ⟨out,o1,o2⟩ := has_any (N := 700) (by omega) hr (b := asg.set l[t].Person.toNat l[t].Station) (by rw [List.length_set]; omega)
  rw [c2,cond_false,hcp,Option.bind_some,hga,Option.bind_some,o1,Option.bind_some,show getI out l[t].Station = some (out.getD l[t].Station.toNat 0) from getI_of 0 hSt.1 (by rw [o2]; exact hSt.2),Option.bind_some,show getI r.Stations l[t].Station = some (sta r l[t].Station) from getI_of _ hSt.1 hSt.2,Option.bind_some]
  cases decide ((sta r l[t].Station).Places < out.getD l[t].Station.toNat 0) with
  | false => exact j27_ok hr hS hx hA hE u m
  | true =>
   rw [cond_true]
   obtain ⟨s,s1,s2,s3⟩ := loop_to (ρ := Bool) (f := fun s33 => law11_CrewStable_b33 700 l[t] asg s33.1 s33.2)
    (fun s => ∃ i : Nat,i ≤ r.People.length ∧ s.2 = (i : Int) ∧ AOk r s.1 ∧ Asg s.1 l[t].Person = l[t].Station) (fun s => AOk r s.1 ∧ Asg s.1 l[t].Person = l[t].Station) (fun s => ((r.People.length : Int) - s.2).toNat) (fun s hI => by
     obtain ⟨o,x⟩ := s
     obtain ⟨i,hi,rfl,k1,k2⟩ := hI
     dsimp only at k1 k2
     show (∃ s',law11_CrewStable_b33 700 l[t] asg o (i : Int) = _ ∧ _) ∨ (∃ s',law11_CrewStable_b33 700 l[t] asg o (i : Int) = _ ∧ _)
     unfold law11_CrewStable_b33
     by_cases hlt : i < r.People.length
     ·have hiP : inP r (i : Int) := ⟨by omega,by omega⟩
      have hgo : getI o (i : Int) = some (Asg o (i : Int)) := getI_of (-1) (by omega) (by rw [k1.len]; omega)
      rw [hal,lt_dec hlt,cond_true,W_succ (by omega)]
      by_cases hne : (i : Int) = l[t].Person
      ·rw [show ((i : Int) != l[t].Person) = false by rw [hne,bne_self_eq_false],cond_false,Option.bind_some,cond_false]
       exact Or.inr ⟨_,rfl,⟨i + 1,by omega,rfl,k1,k2⟩,by dsimp only; push_cast; omega⟩
      ·rw [bne_iff_ne.2 hne,cond_true,hgo,Option.bind_some,Option.bind_some]
       cases hc : Asg o (i : Int) == l[t].Station with
       | true =>
        rw [cond_true,Option.bind_some]
        refine Or.inl ⟨_,rfl,k1.set hiP (Or.inl rfl),?_⟩
        dsimp only
        rw [asg_set hiP.1 (by rw [k1.len]; exact hiP.2) hP.1,if_neg (fun e => hne e.symm)]
        exact k2
       | false =>
        rw [cond_false]
        exact Or.inr ⟨_,rfl,⟨i + 1,by omega,rfl,k1,k2⟩,by dsimp only; push_cast; omega⟩
     ·have : i = r.People.length := by omega
      subst this
      rw [hal,ge_dec,cond_false]
      exact Or.inl ⟨_,rfl,k1,k2⟩) 700 (asg.set l[t].Person.toNat l[t].Station,0) ⟨0,Nat.zero_le _,rfl,hA,hE⟩ (by dsimp only; omega)
   rw [s1,Option.bind_some]
   exact j27_ok hr hS hx s2 s3 u m
end Go.Nilo
