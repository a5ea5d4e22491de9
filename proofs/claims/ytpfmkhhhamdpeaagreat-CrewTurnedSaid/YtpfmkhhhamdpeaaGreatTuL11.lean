/-
  What the plain functions compute, in plain arithmetic, part 11. Conditions: what each theorem names.
-/
import Derived.Test.YtpfmkhhhamdpeaaGreatTuL10
set_option linter.unusedSimpArgs false
set_option linter.unusedVariables false
namespace Go.Nilo
structure Perm (n : Nat) (l : List Int) : Prop where
 len : l.length = n
 nd : l.Nodup
 ran : ∀ x ∈ l,0 ≤ x ∧ x < (n : Int)
theorem Perm.mem {n : Nat} {l : List Int} (h : Perm n l) {y : Int} (h0 : 0 ≤ y) (h1 : y < (n : Int)) : y ∈ l := Decidable.byContradiction fun hc => by
 have := range_len (l := y::l) (n := n) (List.nodup_cons.2 ⟨hc,h.nd⟩) fun x hx => by
  rcases List.mem_cons.1 hx with rfl | hx
  ·exact ⟨h0,h1⟩
  ·exact h.ran x hx
 rw [List.length_cons,h.len] at this
 omega
theorem take_sum {o : List Int} {n : Nat} (h : n < o.length) : (o.take (n + 1)).sum = (o.take n).sum + Aw o n := by
 rw [List.take_succ_eq_append_getElem h,List.sum_append,get_getD (d := (0 : Int)) h]
 simp
theorem tally_ge {b L o : List Int} : ∀ n,n ≤ o.length → (∀ s : Nat,s < n → Aw o s ≤ ((L.filter fun p => Asg b p == (s : Int)).length : Int)) → (o.take n).sum ≤ (tally b L n : Int)
 | 0,_,_ => by simp [tally]
 | n + 1,hn,h => by
  have h1 := tally_ge (b := b) (L := L) n (by omega) fun s hs => h s (by omega)
  have h2 := h n (by omega)
  rw [take_sum (by omega)]
  unfold tally
  push_cast
  omega
theorem tally_le {b L o : List Int} : ∀ n,n ≤ o.length → (∀ s : Nat,s < n → ((L.filter fun p => Asg b p == (s : Int)).length : Int) ≤ Aw o s) → (tally b L n : Int) ≤ (o.take n).sum ∧ ((o.take n).sum ≤ (tally b L n : Int) → ∀ s : Nat,s < n → ((L.filter fun p => Asg b p == (s : Int)).length : Int) = Aw o s)
 | 0,_,_ => ⟨by simp [tally],fun _ s hs => by omega⟩
 | n + 1,hn,h => by
  obtain ⟨h1,h3⟩ := tally_le (b := b) (L := L) n (by omega) fun s hs => h s (by omega)
  have h2 := h n (by omega)
  rw [take_sum (by omega)]
  unfold tally
  push_cast
  refine ⟨by omega,fun hle s hs => ?_⟩
  by_cases he : s = n
  ·subst he; omega
  ·exact h3 (by omega) s (by omega)
structure TR (r : crew_Roster) (o : List Int) (n d : Nat) : Prop where
 pl : r.People.length = d
 sl : r.Stations.length = n
 ol : o.length = n
 pp : ∀ l ∈ r.People,Perm n l
 ps : ∀ i,i < n → (sta r (i : Int)).Places = Aw o i ∧ Perm d (sta r (i : Int)).Order
theorem TR.pos {r : crew_Roster} {o : List Int} {n d : Nat} (h : TR r o n d) {p s : Int} (hp : inP r p) (hs : inS r s) : posB r p s := by
 obtain ⟨i,rfl⟩ := Int.eq_ofNat_of_zero_le hs.1
 have hi : i < n := by have := h.sl; omega
 exact ⟨(h.ps i hi).2.mem hp.1 (by have := h.pl; omega),(h.pp _ (pf_mem hp)).mem hs.1 (by omega)⟩
theorem full_house {r : crew_Roster} (hr : RosOk r) {o : List Int} {n d : Nat} (h : TR r o n d) (hsum : o.sum = (d : Int)) {l : List crew_Refusal} {asg : List Int} {ks : List (List Int)} (hS : SI r (fun _ => True) l asg ks) : (∀ p,inP r p → Asg asg p ≠ -1) ∧ ∀ s,inS r s → ((memL r asg s).length : Int) = Aw o s.toNat := by
 have hA := settled_stable hr ⟨ks,hS⟩
 have ol := h.ol
 have sl := h.sl
 have pl := h.pl
 have hplaces : ∀ s : Nat,s < n → (sta r (s : Int)).Places = Aw o s := fun s hs => (h.ps s hs).1
 have e1 := tally_eq (b := asg) (n := n) (L := ppl r) fun p hp => by
  rcases hA.a.rng p (mem_ppl.1 hp) with h1 | h1
  ·exact Or.inl h1
  ·exact Or.inr ⟨h1.1,by have := h1.2; omega⟩
 have hpl : (ppl r).length = d := by simp [ppl,pl]
 have hall : ∀ p,inP r p → Asg asg p ≠ -1 := fun p hp ha => by
  have hge := tally_ge (b := asg) (L := ppl r) (o := o) n (by omega) fun s hs => by
   have hin : inS r (s : Int) := ⟨by omega,by omega⟩
   have hpo := h.pos hp hin
   have := (hS.full hr (hS.free p hp trivial ha _ hpo.2 hpo)).1
   rw [hplaces s hs] at this
   exact this
  rw [List.take_of_length_le (by omega),hsum,e1] at hge
  have hlt := nodup_le (l := p::(ppl r).filter fun p => Asg asg p != -1) (l' := ppl r) (List.nodup_cons.2 ⟨fun e => by
   rw [List.mem_filter,bne_iff_ne] at e
   exact e.2 ha,(ppl_nodup r).filter _⟩) fun x hx => by
    rcases List.mem_cons.1 hx with rfl | hx
    ·exact mem_ppl.2 hp
    ·exact (List.mem_filter.1 hx).1
  rw [List.length_cons,hpl] at hlt
  omega
 refine ⟨hall,fun s hs => ?_⟩
 have hfil : ((ppl r).filter fun p => Asg asg p != -1) = ppl r := by
  rw [List.filter_eq_self]
  intro p hp
  rw [bne_iff_ne]
  exact hall p (mem_ppl.1 hp)
 rw [hfil,hpl] at e1
 have := (tally_le (b := asg) (L := ppl r) (o := o) n (by omega) fun s hs => by
  have := hS.members (s := (s : Int)) ⟨by omega,by omega⟩
  rw [hplaces s hs] at this
  exact this).2 (by rw [List.take_of_length_le (by omega),hsum,e1]; exact Int.le_refl _) s.toNat (by have := hs.1; have := hs.2; omega)
 rw [Int.toNat_of_nonneg hs.1] at this
 exact this
theorem claims_ok {N : Nat} (hN : 60 ≤ N) {numbers : List Int} (hb : Bytes numbers) {n : Nat} (hn : n ≤ 5) (a b : Int) {u m : Int} {k : Nat} (hk : k ≤ 100) (so : SOk u m k) :
  ∃ cl p q,loopO (fun s6 => law11_CrewTurned_b6 N numbers ((n : Int),a,b) s6.1 s6.2.1 s6.2.2.1 s6.2.2.2) N ([],0,u,m) = some (.go (cl,(n : Int),p,q)) ∧ cl.length = n ∧ ∀ i,i < cl.length → 1 ≤ Aw cl i ∧ Aw cl i ≤ 1000 := by
 obtain ⟨s,g1,g2,g3,g4,-⟩ := loopInv (ρ := Bool) (fun s6 => law11_CrewTurned_b6 N numbers ((n : Int),a,b) s6.1 s6.2.1 s6.2.2.1 s6.2.2.2) (fun i s => s.2.1 = (i : Int) ∧ s.1.length = i ∧ (∀ x ∈ s.1,1 ≤ x ∧ x ≤ 90) ∧ SOk s.2.2.1 s.2.2.2 (k + i)) n (fun i s hi hI => by
  obtain ⟨cl,x,p,q⟩ := s
  obtain ⟨rfl,f1,f2,f3⟩ := hI
  dsimp only at f1 f2 f3
  obtain ⟨z,v,w,z1,z2,z3,z4⟩ := within_spec (N := N) hb (lo := 1) (hi := 90) f3 (by omega) (by omega) (by omega) (by omega)
  refine ⟨(cl ++ [z],((i + 1 : Nat) : Int),v,w),?_,rfl,by dsimp only; rw [List.length_append,f1]; rfl,fun y hy => ?_,?_⟩
  ·show law11_CrewTurned_b6 N numbers ((n : Int),a,b) cl (i : Int) p q = _
   unfold law11_CrewTurned_b6
   dsimp only
   rw [show decide ((i : Int) < (n : Int)) = true by rw [decide_eq_true_eq]; omega,cond_true,z1,Option.bind_some,room_ok (by rw [List.length_append,f1,List.length_cons,List.length_nil]; omega),Option.bind_some,W_succ (by omega)]
  ·rcases List.mem_append.1 hy with h | h
   ·exact f2 y h
   ·rw [List.mem_singleton.1 h]; exact ⟨z2,z3⟩
  ·have : k + (i + 1) = k + i + 1 := by omega
   dsimp only
   rw [this]; exact z4) (fun s hI => by
  show law11_CrewTurned_b6 N numbers ((n : Int),a,b) s.1 s.2.1 s.2.2.1 s.2.2.2 = _
  unfold law11_CrewTurned_b6
  dsimp only
  rw [hI.1,ge_dec,cond_false,← hI.1]) n 0 ([],0,u,m) N (by omega) (by omega) ⟨rfl,rfl,fun x hx => (List.not_mem_nil hx).elim,so⟩
 refine ⟨s.1,s.2.2.1,s.2.2.2,by rw [g1,← g2],g3,fun i hi => ?_⟩
 have := g4 _ (List.getElem_mem hi)
 rw [get_getD (d := (0 : Int)) hi] at this
 show 1 ≤ s.1.getD i 0 ∧ s.1.getD i 0 ≤ 1000
 omega
theorem folk_ok {N : Nat} (hN : 60 ≤ N) {orders : List Int} (hb : Bytes orders) {more : Int} {cl : List Int} (hcl : cl.length ≤ 12) {d : Nat} (hd : d ≤ 12) (hD : W (((cl.length : Nat) : Int) + ((W (more)).tmod (W ((W (12 - ((cl.length : Nat) : Int))) + 1)))) = (d : Int)) :
  ∃ p q P k,loopO (fun s15 => law11_CrewTurned_b15 N orders more cl s15.1 s15.2.1 s15.2.2.1 s15.2.2.2) N (0,0,0,[]) = some (.go ((d : Int),p,q,P)) ∧ P.length = d ∧ (∀ l ∈ P,Perm cl.length l) ∧ k ≤ 200 ∧ SOk p q k := by
 obtain ⟨s,g1,g2,g3,g4,k,g5,g6⟩ := loopInv (ρ := Bool) (fun s15 => law11_CrewTurned_b15 N orders more cl s15.1 s15.2.1 s15.2.2.1 s15.2.2.2) (fun i s => s.1 = (i : Int) ∧ s.2.2.2.length = i ∧ (∀ l ∈ s.2.2.2,Perm cl.length l) ∧ ∃ k,k ≤ 12 * i ∧ SOk s.2.1 s.2.2.1 k) d (fun i s hi hI => by
  obtain ⟨x,p,q,P⟩ := s
  obtain ⟨rfl,f1,f2,k,f3,f4⟩ := hI
  dsimp only at f1 f2 f4
  obtain ⟨out,v,w,k2,c1,c2,c3,c4,c5,c6⟩ := mixed_ok (N := N) hN hb (n := cl.length) (by omega) (by omega) f4
  refine ⟨(((i + 1 : Nat) : Int),v,w,P ++ [out]),?_,rfl,by dsimp only; rw [List.length_append,f1]; rfl,fun y hy => ?_,k2,by omega,c2⟩
  ·show law11_CrewTurned_b15 N orders more cl (i : Int) p q P = _
   unfold law11_CrewTurned_b15
   rw [hD,show decide ((i : Int) < (d : Int)) = true by rw [decide_eq_true_eq]; omega,cond_true,c1,Option.bind_some,room_ok (by rw [List.length_append,f1,List.length_cons,List.length_nil]; omega),Option.bind_some,W_succ (by omega)]
  ·rcases List.mem_append.1 hy with h | h
   ·exact f2 y h
   ·rw [List.mem_singleton.1 h]; exact ⟨c4,c5,c6⟩) (fun s hI => by
  show law11_CrewTurned_b15 N orders more cl s.1 s.2.1 s.2.2.1 s.2.2.2 = _
  unfold law11_CrewTurned_b15
  rw [hD,hI.1,ge_dec,cond_false,← hI.1]) d 0 (0,0,0,[]) N (by omega) (by omega) ⟨rfl,rfl,fun l hl => (List.not_mem_nil hl).elim,0,by omega,⟨Int.le_refl _,Int.le_refl _,Int.le_refl _,by dsimp only; omega⟩⟩
 exact ⟨s.2.1,s.2.2.1,s.2.2.2,k,by rw [g1,← g2],g3,g4,by omega,g6⟩
theorem posts_ok {N : Nat} (hN : 60 ≤ N) {orders : List Int} (hb : Bytes orders) {more : Int} {cl o : List Int} (hcl : cl.length ≤ 12) (ho : o.length = cl.length) {d : Nat} (hd : d ≤ 12) (hD : W (((cl.length : Nat) : Int) + ((W (more)).tmod (W ((W (12 - ((cl.length : Nat) : Int))) + 1)))) = (d : Int)) {u m : Int} {k : Nat} (hk : k ≤ 200) (so : SOk u m k) :
  ∃ p q S,loopO (fun s18 => law11_CrewTurned_b18 N orders more cl (o,0) s18.1 s18.2.1 s18.2.2.1 s18.2.2.2) N (0,u,m,[]) = some (.go ((o.length : Int),p,q,S)) ∧ S.length = o.length ∧ ∀ i,i < o.length → (S.getD i ⟨0,[]⟩).Places = Aw o i ∧ Perm d (S.getD i ⟨0,[]⟩).Order := by
 obtain ⟨s,g1,g2,g3,g4,-⟩ := loopInv (ρ := Bool) (fun s18 => law11_CrewTurned_b18 N orders more cl (o,0) s18.1 s18.2.1 s18.2.2.1 s18.2.2.2) (fun i s => s.1 = (i : Int) ∧ s.2.2.2.length = i ∧ (∀ j,j < i → (s.2.2.2.getD j ⟨0,[]⟩).Places = Aw o j ∧ Perm d (s.2.2.2.getD j ⟨0,[]⟩).Order) ∧ ∃ k',k' ≤ k + 12 * i ∧ SOk s.2.1 s.2.2.1 k') o.length (fun i s hi hI => by
  obtain ⟨x,p,q,S⟩ := s
  obtain ⟨rfl,f1,f2,k',f3,f4⟩ := hI
  dsimp only at f1 f2 f4
  obtain ⟨out,v,w,k2,c1,c2,c3,c4,c5,c6⟩ := mixed_ok (N := N) hN hb (n := d) (by omega) (by omega) f4
  refine ⟨(((i + 1 : Nat) : Int),v,w,S ++ [⟨Aw o i,out⟩]),?_,rfl,by dsimp only; rw [List.length_append,f1]; rfl,fun j hj => ?_,k2,by omega,c2⟩
  ·show law11_CrewTurned_b18 N orders more cl (o,0) (i : Int) p q S = _
   unfold law11_CrewTurned_b18
   dsimp only
   rw [lt_dec hi,cond_true,getI_getD hi,Option.bind_some,hD,c1,Option.bind_some,room_ok (by rw [List.length_append,f1,List.length_cons,List.length_nil]; omega),Option.bind_some,W_succ (by omega)]
  ·dsimp only
   by_cases h : j < i
   ·rw [getD_lt (by omega)]; exact f2 j h
   ·have : j = S.length := by omega
    rw [this,getD_eq]
    rw [f1]
    exact ⟨rfl,c4,c5,c6⟩) (fun s hI => by
  show law11_CrewTurned_b18 N orders more cl (o,0) s.1 s.2.1 s.2.2.1 s.2.2.2 = _
  unfold law11_CrewTurned_b18
  dsimp only
  rw [hI.1,ge_dec,cond_false,← hI.1]) o.length 0 (0,u,m,[]) N (by omega) (by omega) ⟨rfl,rfl,fun j hj => by omega,k,by omega,so⟩
 exact ⟨s.2.1,s.2.2.1,s.2.2.2,by rw [g1,← g2],g3,g4⟩
theorem fair_ok {N : Nat} (hN : 60 ≤ N) {cl o : List Int} (hcl : cl.length ≤ 12) (ho : o.length = cl.length) (hm : ∀ i k,i < cl.length → k < cl.length → Aw cl k < Aw cl i → Aw o k ≤ Aw o i) : loopO (fun s25 => law11_CrewTurned_b25 N cl (o,0) s25) N 0 = some (.go (cl.length : Int)) := by
 have hrun := runS (ρ := Bool) (fun i : Nat => (i : Int)) cl.length (fun s25 => law11_CrewTurned_b25 N cl (o,0) s25) (fun i hi => by
  have hin := runS (ρ := Step Int Bool) (fun k : Nat => (k : Int)) cl.length (fun s33 => law11_CrewTurned_b33 N cl (o,0) (i : Int) s33) (fun k hk => by
   show law11_CrewTurned_b33 N cl (o,0) (i : Int) (k : Int) = _
   unfold law11_CrewTurned_b33
   have hlt : cl.getD k 0 < cl.getD i 0 → o.getD k 0 ≤ o.getD i 0 := hm i k hi hk
   dsimp only
   rw [lt_dec hk,cond_true,getI_getD hi,Option.bind_some,getI_getD hk,Option.bind_some,getI_getD (l := o) (i := i) (by omega),getI_getD (l := o) (i := k) (by omega),Option.bind_some,Option.bind_some]
   by_cases h : cl.getD k 0 < cl.getD i 0
   ·rw [decide_eq_true h,cond_true,Option.bind_some,decide_eq_false (by have := hlt h; omega),cond_false,W_succ (by omega)]
   ·rw [decide_eq_false h,cond_false,Option.bind_some,cond_false,W_succ (by omega)]) (by
   show law11_CrewTurned_b33 N cl (o,0) (i : Int) _ = _
   unfold law11_CrewTurned_b33
   rw [ge_dec,cond_false]) (N := N) (by omega)
  rw [show ((0 : Nat) : Int) = 0 from rfl] at hin
  show law11_CrewTurned_b25 N cl (o,0) (i : Int) = _
  unfold law11_CrewTurned_b25
  rw [lt_dec hi,cond_true,hin,Option.bind_some,exK_at,W_succ (by omega)]) (by
  show law11_CrewTurned_b25 N cl (o,0) _ = _
  unfold law11_CrewTurned_b25
  rw [ge_dec,cond_false]) (N := N) (by omega)
 rw [show ((0 : Nat) : Int) = 0 from rfl] at hrun
 exact hrun
theorem crewturned_law {numbers orders : List Int} {more : Int} (hb : Bytes numbers) (ho : Bytes orders) (hm : 0 ≤ more ∧ more ≤ 255) : law11_CrewTurned 700 numbers orders more = some true := by
 unfold law11_CrewTurned
 have h0 : ∀ l,kit_New 700 l = some (0,0) := fun _ => rfl
 rw [h0,Option.bind_some,h0,Option.bind_some]
 obtain ⟨n,a,b,n1,n2,n3,so⟩ := within_spec (N := 700) hb (lo := 1) (hi := 5) (u := 0) (m := 0) (k := 0) ⟨by omega,by omega,by omega,by omega⟩ (by omega) (by omega) (by omega) (by omega)
 obtain ⟨n,rfl⟩ := Int.eq_ofNat_of_zero_le (show 0 ≤ n by omega)
 obtain ⟨cl,p,q,c1,c2,c3⟩ := claims_ok (N := 700) (by omega) hb (n := n) (by omega) a b (by omega) so
 rw [n1,Option.bind_some]
 dsimp only
 rw [c1,Option.bind_some,exK_at]
 dsimp only
 obtain ⟨mo,rfl⟩ := Int.eq_ofNat_of_zero_le hm.1
 have hmd : mo % (13 - cl.length) < 13 - cl.length := Nat.mod_lt _ (by omega)
 have hD : W (((cl.length : Nat) : Int) + ((W ((mo : Int))).tmod (W ((W (12 - ((cl.length : Nat) : Int))) + 1)))) = ((cl.length + mo % (13 - cl.length) : Nat) : Int) := by
  rw [W_id (n := (mo : Int)) (by omega) (by omega),W_id (n := 12 - ((cl.length : Nat) : Int)) (by omega) (by omega),W_id (n := 12 - ((cl.length : Nat) : Int) + 1) (by omega) (by omega),tmod_mod (by omega),show (12 - ((cl.length : Nat) : Int) + 1) = ((13 - cl.length : Nat) : Int) by omega,show (mo : Int) % ((13 - cl.length : Nat) : Int) = ((mo % (13 - cl.length) : Nat) : Int) from (Int.natCast_emod mo (13 - cl.length)).symm,W_id (by omega) (by omega)]
  push_cast
  rfl
 have hnz : nz (W ((W (12 - ((cl.length : Nat) : Int))) + 1)) = some () := by
  rw [W_id (n := 12 - ((cl.length : Nat) : Int)) (by omega) (by omega),W_id (by omega) (by omega)]
  unfold nz
  rw [if_neg (by omega)]
 generalize hd : cl.length + mo % (13 - cl.length) = d at hD
 obtain ⟨o,t1,t2⟩ := turns_ok (N := 700) (by omega) (cl := cl) ⟨by omega,by omega⟩ c3 (days := d) (by omega) (by omega) (by omega)
 rw [hnz,Option.bind_some,hD,t1,Option.bind_some]
 have hol := t2.len
 have e1 : (((0 : Int) != 0) || (((o.length : Nat) : Int) != ((cl.length : Nat) : Int))) = false := by rw [hol,bne_self_eq_false,bne_self_eq_false]; rfl
 dsimp only
 rw [e1,cond_false]
 obtain ⟨p1,q1,P,k,f1,f2,f3,f4,f5⟩ := folk_ok (N := 700) (by omega) ho (more := (mo : Int)) (cl := cl) (by omega) (d := d) (by omega) hD
 obtain ⟨p2,q2,S,s1,s2,s3⟩ := posts_ok (N := 700) (by omega) ho (more := (mo : Int)) (cl := cl) (o := o) (by omega) hol (d := d) (by omega) hD f4 f5
 rw [f1,Option.bind_some,exK_at]
 dsimp only
 rw [s1,Option.bind_some,exK_at]
 dsimp only
 have hst : ∀ i : Nat,sta ⟨P,S⟩ (i : Int) = S.getD i ⟨0,[]⟩ := fun i => by unfold sta; rw [Int.toNat_natCast]
 have hTR : TR ⟨P,S⟩ o cl.length d := ⟨f2,by show S.length = _; omega,hol,f3,fun i hi => by rw [hst]; exact s3 i (by omega)⟩
 have hmemS : ∀ x ∈ S,∃ i,i < o.length ∧ x = S.getD i ⟨0,[]⟩ := fun x hx => by
  obtain ⟨i,hi,rfl⟩ := List.getElem_of_mem hx
  exact ⟨i,by omega,get_getD hi⟩
 have hr : RosOk ⟨P,S⟩ := by
  refine ⟨by show 1 ≤ P.length; omega,by show P.length ≤ 12; omega,by show 1 ≤ S.length; omega,by show S.length ≤ 12; omega,fun l hl => (f3 l hl).nd,fun l hl x hx => ?_,fun x hx => ?_,fun x hx => ?_,fun x hx y hy => ?_⟩
  ·have := (f3 l hl).ran x hx
   show 0 ≤ x ∧ x < (S.length : Int)
   omega
  ·obtain ⟨i,hi,rfl⟩ := hmemS x hx
   rw [(s3 i hi).1]
   have h1 := t2.all (by omega) i (by omega)
   have h2 := t2.nn i (by omega)
   omega
  ·obtain ⟨i,hi,rfl⟩ := hmemS x hx
   exact (s3 i hi).2.nd
  ·obtain ⟨i,hi,rfl⟩ := hmemS x hx
   have := (s3 i hi).2.ran y hy
   show 0 ≤ y ∧ y < (P.length : Int)
   omega
 obtain ⟨asg,l,a1,ks,hS⟩ := assign1_ok (N := 700) (by omega) (fun k c1 c2 => repeat_ok c1 c2) hr
 have hA := settled_stable hr ⟨ks,hS⟩
 obtain ⟨z1,z2⟩ := full_house hr hTR t2.sum hS
 have hal : asg.length = d := hS.al.trans f2
 obtain ⟨h,y1,y2,y3⟩ := has_ok (N := 700) (by omega) hr hA.a
 have hho : h = o := by
  have hsl : h.length = o.length := by rw [y2]; exact s2
  refine List.ext_getElem hsl fun i i1 i2 => ?_
  have hin : inS (⟨P,S⟩ : crew_Roster) (i : Int) := ⟨by omega,by show (i : Int) < (S.length : Int); omega⟩
  have g1 := y3 _ hin
  rw [z2 _ hin,Int.toNat_natCast,← get_getD i1] at g1
  rw [g1]
  exact (get_getD i2).symm
 have hno : (-1 : Int) ∉ asg := fun hm => by
  obtain ⟨i,hi,he⟩ := List.getElem_of_mem hm
  refine z1 (i : Int) ⟨by omega,by show (i : Int) < (P.length : Int); omega⟩ ?_
  unfold Asg
  rw [Int.toNat_natCast,← get_getD hi]
  exact he
 rw [a1,Option.bind_some]
 have e2 : (((0 : Int) != 0) || (((asg.length : Nat) : Int) != (d : Int))) = false := by rw [hal,bne_self_eq_false,bne_self_eq_false]; rfl
 dsimp only
 rw [e2,cond_false,contains_ok (by omega) (by omega),decide_eq_false hno,Option.bind_some,Option.bind_some,cond_false,y1,Option.bind_some,hho,same_int (by omega) (by omega),Option.bind_some,Bool.not_true,Option.bind_some,cond_false,fair_ok (by omega) (by omega) hol (t2.mono (by omega)),Option.bind_some,exK_at,awake_true]
 rfl
end Go.Nilo
