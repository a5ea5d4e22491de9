/-
  What the plain functions compute, in plain arithmetic, part 13. Conditions: what each theorem names.
-/
import Derived.Test.YtpfmkhhhamdpeaaGreatBeL12
set_option linter.unusedSimpArgs false
set_option linter.unusedVariables false
namespace Go.Nilo
theorem AOk.set {r : crew_Roster} {b : List Int} (h : AOk r b) {p v : Int} (hp : inP r p) (hv : v = -1 ∨ inS r v) : AOk r (b.set p.toNat v) := by
 refine ⟨by rw [List.length_set]; exact h.len,fun q hq => ?_⟩
 rw [asg_set hp.1 (by rw [h.len]; exact hp.2) hq.1]
 split
 ·exact hv
 ·exact h.rng q hq
theorem same_int {N : Nat} {l : List Int} (hl : l.length ≤ 1000) (hN : l.length < N) : kit_Same_int N l l = some true := by
 unfold kit_Same_int
 rw [bne_self_eq_false,cond_false,sameLoop l (by omega) (fun s7 => kit_Same_int_b7 N l l s7) (fun i hi => by
  unfold kit_Same_int_b7
  simp only [lt_dec hi,cond_true,getI_nat hi,Option.bind_some,bne_self_eq_false,cond_false]
  rw [W_succ (by omega)]) (by
  unfold kit_Same_int_b7
  rw [ge_dec]; rfl) hN]
 rfl
theorem j17_ok {N : Nat} (hN : 100 ≤ N) {r : crew_Roster} (hr : RosOk r) {l : List crew_Refusal} {asg : List Int} {ks : List (List Int)} (hS : SI r (fun _ => True) l asg ks) (u m : Int) {b : List Int} (hb : AOk r b) {x : Int} (hx : x = 0 → Stable r b) (p q : Int) :
  law11_CrewBest_j17 N (r,u,m) (asg,0) x b p q = some (.cont (W (x + 1),p,q)) := by
 have hp2 := hr.p2
 have hs2 := hr.s2
 have hA := settled_stable hr ⟨ks,hS⟩
 have hal := hS.al
 obtain ⟨y,e,b1,b2,b3⟩ := blocks_ok (N := N) (by omega) hr hb
 unfold law11_CrewBest_j17
 dsimp only
 rw [b1,Option.bind_some]
 have c1 : ((x == 0) && (e != 5)) = false := by
  by_cases h : x = 0
  ·rw [b3.2 (hx h)]; simp
  ·rw [beq_eq_false_iff_ne.2 h,Bool.false_and]
 dsimp only
 rw [c1,cond_false]
 by_cases he : e = 5
 ·have hst := b3.1 he
  rw [he,bne_self_eq_false,cond_false]
  obtain ⟨h1,d1,d2,d3⟩ := has_ok (N := N) (by omega) hr hA.a
  obtain ⟨h2,e1,e2,e3⟩ := has_ok (N := N) (by omega) hr hb
  obtain ⟨ru1,ru2⟩ := rural hr hS hst
  have heq : h1 = h2 := by
   refine List.ext_getElem (by omega) fun i i1 i2 => ?_
   have hs : inS r (i : Int) := ⟨by omega,by omega⟩
   have f1 := d3 _ hs
   have f2 := e3 _ hs
   rw [Int.toNat_natCast,← get_getD i1] at f1
   rw [Int.toNat_natCast,← get_getD i2] at f2
   rw [f1,f2,ru1 _ hs]
  subst heq
  rw [d1,Option.bind_some,e1,Option.bind_some,same_int (by omega) (by omega),Option.bind_some,Bool.not_true,cond_false]
  have hrun := runS (ρ := Step (Int × Int × Int) Bool) (fun i : Nat => (i : Int)) asg.length (fun s29 => law11_CrewBest_b29 N (r,u,m) (asg,0) b s29) (fun i hi => by
   have hiP : inP r (i : Int) := ⟨by omega,by omega⟩
   have ga : getI asg (i : Int) = some (Asg asg (i : Int)) := getI_of (-1) (by omega) (by omega)
   have gb : getI b (i : Int) = some (Asg b (i : Int)) := getI_of (-1) (by omega) (by have := hb.len; omega)
   show law11_CrewBest_b29 N (r,u,m) (asg,0) b (i : Int) = _
   unfold law11_CrewBest_b29
   dsimp only
   rw [lt_dec hi,cond_true,ga,Option.bind_some,gb,Option.bind_some]
   have c2 : ((Asg asg (i : Int) == (-1)) != (Asg b (i : Int) == (-1))) = false := by
    have := ru2 _ hiP
    by_cases h : Asg b (i : Int) = -1
    ·rw [beq_iff_eq.2 h,beq_iff_eq.2 (this.2 h)]; rfl
    ·rw [beq_eq_false_iff_ne.2 h,beq_eq_false_iff_ne.2 (fun e => h (this.1 e))]; rfl
   have c3 : ¬ rankF r (i : Int) (Asg b (i : Int)) < rankF r (i : Int) (Asg asg (i : Int)) := by
    by_cases h : Asg b (i : Int) = -1
    ·rw [h,(ru2 _ hiP).2 h]; omega
    ·obtain ⟨k1,k2⟩ := best_for hr hS hst hiP h
     have m1 := (hst.f _ hiP h).1.2
     have m2 := (hS.good _ hiP k1).1.2
     unfold rankF
     rw [if_pos m1,if_pos m2]
     omega
   rw [c2,cond_false,Option.bind_some,rank_ok (by omega) hr hiP,Option.bind_some,Option.bind_some,rank_ok (by omega) hr hiP,Option.bind_some,decide_eq_false c3,Option.bind_some,cond_false,W_succ (by omega)]) (by
   show law11_CrewBest_b29 N (r,u,m) (asg,0) b _ = _
   unfold law11_CrewBest_b29
   dsimp only
   rw [ge_dec,cond_false]) (N := N) (by omega)
  rw [show ((0 : Nat) : Int) = 0 from rfl] at hrun
  rw [hrun,Option.bind_some,exK_at]
  rfl
 ·rw [bne_iff_ne.2 he,cond_true]
  rfl
theorem try_ok {N : Nat} (hN : 400 ≤ N) (hrep : RepOk N) {r : crew_Roster} (hr : RosOk r) {l : List crew_Refusal} {asg : List Int} {ks : List (List Int)} (hS : SI r (fun _ => True) l asg ks) {tries : List Int} (ht : Bytes tries) (u m : Int) {i k : Nat} (hi : i < 8) {p q : Int} (hk : k ≤ 1000) (so : SOk p q k) :
  ∃ p' q' k',law11_CrewBest_b10 N tries (r,u,m) (asg,0) (i : Int) p q = some (.cont (((i + 1 : Nat) : Int),p',q')) ∧ k' ≤ k + 24 ∧ SOk p' q' k' := by
 have hp2 := hr.p2
 have hs2 := hr.s2
 have hA := settled_stable hr ⟨ks,hS⟩
 have hal := hS.al
 obtain ⟨b,b1,b2⟩ := asked_ok hN hrep hr
 have hbl := b2.a.len
 unfold law11_CrewBest_b10
 rw [show decide ((i : Int) < 8) = true by rw [decide_eq_true_eq]; omega,cond_true]
 dsimp only
 rw [b1,Option.bind_some]
 by_cases h0 : 0 < i
 ·obtain ⟨s,g1,g2,g3,k2,g4,g5⟩ := loopInv (ρ := Step (Int × Int × Int) Bool) (fun s38 => law11_CrewBest_b38 N tries (r,u,m) (asg,0) b s38.1 s38.2.1 s38.2.2.1 s38.2.2.2) (fun j s => s.2.1 = (j : Int) ∧ AOk r s.1 ∧ ∃ k',k' ≤ k + 2 * j ∧ SOk s.2.2.1 s.2.2.2 k') r.People.length (fun j s hj hJ => by
   obtain ⟨bb,x,v,w⟩ := s
   obtain ⟨rfl,f1,k',f2,f3⟩ := hJ
   dsimp only at f1 f3
   have hjP : inP r (j : Int) := ⟨by omega,by omega⟩
   have ga : getI asg (j : Int) = some (Asg asg (j : Int)) := getI_of (-1) (by omega) (by omega)
   have gb : getI bb (j : Int) = some (Asg bb (j : Int)) := getI_of (-1) (by omega) (by have := f1.len; omega)
   have gp : getI r.People (j : Int) = some (pf r (j : Int)) := getI_of [] hjP.1 hjP.2
   obtain ⟨z,v1,w1,z1,z2,z3,z4⟩ := next_spec (N := N) ht (n := 3) f3 (by omega)
   show ∃ s',law11_CrewBest_b38 N tries (r,u,m) (asg,0) b bb (j : Int) v w = _ ∧ _
   unfold law11_CrewBest_b38 law11_CrewBest_j41
   dsimp only
   rw [show decide ((j : Int) < ((b.length : Nat) : Int)) = true by rw [decide_eq_true_eq]; omega,cond_true,z1,Option.bind_some,W_succ (by omega)]
   dsimp only
   by_cases hz0 : z = 0
   ·rw [beq_iff_eq.2 hz0,cond_true,ga,Option.bind_some,gb,Option.bind_some]
    exact ⟨_,rfl,rfl,f1.set hjP (hA.a.rng _ hjP),k' + 1,by omega,z4⟩
   ·rw [beq_eq_false_iff_ne.2 hz0,cond_false]
    by_cases hz1 : z = 1
    ·rw [beq_iff_eq.2 hz1,cond_true,gp,Option.bind_some]
     by_cases hl : 0 < (pf r (j : Int)).length
     ·have hpl := hr.pf_len (pf_mem hjP)
      obtain ⟨y,v2,w2,y1,y2,y3,y4⟩ := next_spec (N := N) ht (n := (((pf r (j : Int)).length : Nat) : Int)) z4 (by omega)
      obtain ⟨yn,rfl⟩ := Int.eq_ofNat_of_zero_le y2
      have hyn : yn < (pf r (j : Int)).length := by omega
      rw [decide_eq_true (by omega),cond_true,y1,Option.bind_some]
      dsimp only
      rw [getI_nat hyn,Option.bind_some,gb,Option.bind_some]
      exact ⟨_,rfl,rfl,f1.set hjP (Or.inr (pf_ran hr hjP (List.getElem_mem hyn))),k' + 1 + 1,by omega,y4⟩
     ·rw [decide_eq_false (by omega),cond_false]
      exact ⟨_,rfl,rfl,f1,k' + 1,by omega,z4⟩
    ·rw [beq_eq_false_iff_ne.2 hz1,cond_false]
     exact ⟨_,rfl,rfl,f1,k' + 1,by omega,z4⟩) (fun s hJ => by
   show law11_CrewBest_b38 N tries (r,u,m) (asg,0) b s.1 s.2.1 s.2.2.1 s.2.2.2 = _
   unfold law11_CrewBest_b38
   rw [hJ.1,hbl,ge_dec,cond_false,← hJ.1]) r.People.length 0 (b,0,p,q) N (by omega) (by omega) ⟨rfl,b2.a,k,by omega,so⟩
  rw [decide_eq_true (by omega),cond_true,g1,Option.bind_some,exK_at,j17_ok (by omega) hr hS u m g3 (fun e => by omega),W_succ (by omega)]
  exact ⟨_,_,k2,rfl,by omega,g5⟩
 ·rw [decide_eq_false (by omega),cond_false,j17_ok (by omega) hr hS u m b2.a (fun _ => b2),W_succ (by omega)]
  exact ⟨_,_,k,rfl,by omega,so⟩
theorem tries_ok {N : Nat} (hN : 400 ≤ N) (hrep : RepOk N) {r : crew_Roster} (hr : RosOk r) {l : List crew_Refusal} {asg : List Int} {ks : List (List Int)} (hS : SI r (fun _ => True) l asg ks) {tries : List Int} (ht : Bytes tries) (u m : Int) : ∃ s,loopO (fun s10 => law11_CrewBest_b10 N tries (r,u,m) (asg,0) s10.1 s10.2.1 s10.2.2) N (0,0,0) = some (.go s) := by
 obtain ⟨s,hs,-⟩ := loopInv (ρ := Bool) (fun s10 => law11_CrewBest_b10 N tries (r,u,m) (asg,0) s10.1 s10.2.1 s10.2.2) (fun i s => s.1 = (i : Int) ∧ ∃ k,k ≤ 24 * i ∧ SOk s.2.1 s.2.2 k) 8 (fun i s hi hI => by
  obtain ⟨x,p,q⟩ := s
  obtain ⟨rfl,k,k1,k2⟩ := hI
  obtain ⟨p',q',k',h1,h2,h3⟩ := try_ok hN hrep hr hS ht u m hi (p := p) (q := q) (k := k) (by omega) k2
  exact ⟨_,h1,rfl,k',by omega,h3⟩) (fun s hI => by
  show law11_CrewBest_b10 N tries (r,u,m) (asg,0) s.1 s.2.1 s.2.2 = _
  unfold law11_CrewBest_b10
  rw [hI.1]
  rw [show decide (((8 : Nat) : Int) < 8) = false from rfl,cond_false,← hI.1]) 8 0 (0,0,0) N (by omega) (by omega) ⟨rfl,0,by omega,⟨Int.le_refl _,Int.le_refl _,Int.le_refl _,by dsimp only; omega⟩⟩
 exact ⟨s,hs⟩
theorem crewbest_law {numbers tries : List Int} (hb : Bytes numbers) (ht : Bytes tries) : law11_CrewBest 700 numbers tries = some true := by
 unfold law11_CrewBest
 have h0 : ∀ l,kit_New 700 l = some (0,0) := fun _ => rfl
 rw [h0,Option.bind_some]
 obtain ⟨r,u,m,k',h1,hr,-,-,-,-⟩ := made_ok (N := 700) (by omega) hb (most := 7) (by omega) (by omega) (u := 0) (m := 0) (k := 0) (by omega) ⟨by omega,by omega,by omega,by omega⟩
 rw [h1,Option.bind_some,h0,Option.bind_some]
 dsimp only
 obtain ⟨asg,l,a1,ks,hS⟩ := assign1_ok (N := 700) (by omega) (fun k c1 c2 => repeat_ok c1 c2) hr
 have hal := hS.al
 rw [a1,Option.bind_some]
 have c1 : (((0 : Int) != 0) || (((asg.length : Nat) : Int) != ((r.People.length : Nat) : Int))) = false := by
  rw [hal,bne_self_eq_false,bne_self_eq_false]; rfl
 dsimp only
 rw [c1,cond_false]
 obtain ⟨s,hs⟩ := tries_ok (N := 700) (by omega) (fun k c1 c2 => repeat_ok c1 c2) hr hS ht u m
 rw [hs,Option.bind_some,exK_at,awake_true]
 rfl
end Go.Nilo
