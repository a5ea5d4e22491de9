/-
  What the plain functions compute, in plain arithmetic, part 14. Conditions: what each theorem names.
-/
import Derived.Test.YtakhbnnlhoninaeGreatThL13
set_option linter.unusedSimpArgs false
set_option linter.unusedVariables false
namespace Go.Nilo
theorem exK_at' {σ ρ τ : Type} (s : σ) (f : σ → Option τ) (g : ρ → Option τ) : exK (Ex.go s) f g = f s := rfl
theorem rp_ok {r s : crew_Ride} (h : RP r s) : RB 100000 r ∧ RB 100000 s := by
 obtain ⟨f,l,l',w,ef,ew⟩ := h
 refine ⟨⟨by omega,by omega,by omega,by omega,by omega,by omega,by omega⟩,⟨by omega,by omega,by omega,by omega,by rw [ew]; omega,by rw [ew]; omega,by rw [ew]; omega⟩⟩
theorem Rides.mem {l l' : List crew_Ride} {i : Nat} (h : Rides l l' i) : (∀ r ∈ l,RB 100000 r ∧ r.From ≤ 89 ∧ r.Long ≤ 352 ∧ r.Weight.Hi ≤ 121) ∧ ∀ r ∈ l',RB 100000 r ∧ r.Weight.Hi ≤ 121 := by
 have n1 := h.n
 have n2 := h.n'
 refine ⟨fun r hr => ?_,fun r hr => ?_⟩
 ·obtain ⟨j,hj,rfl⟩ := List.getElem_of_mem hr
  have := h.r j (by omega)
  rw [← get_getD (d := rd0) hj] at this
  exact ⟨(rp_ok this).1,this.f.2,this.l.2,this.w.2.2⟩
 ·obtain ⟨j,hj,rfl⟩ := List.getElem_of_mem hr
  have := h.r j (by omega)
  rw [← get_getD (d := rd0) hj] at this
  exact ⟨(rp_ok this).2,by rw [this.ew]; exact this.w.2.2⟩
theorem light_mk {c : crew_Cable} (h1 : c.Rides.length ≤ 30) (h2 : CarOk c) (h3 : ∀ r ∈ c.Rides,RB 100000 r ∧ r.Weight.Hi ≤ 121) (hb : ∀ x,x ≤ c.Car + 130 → bey c x = false) : Light c ∧ cabCode c = 0 ∧ heavyB c = false := by
 have hl : Light c := ⟨h1,h2,fun r hr => (h3 r hr).1,fun r hr => hb _ (by have := (h3 r hr).2; omega)⟩
 exact ⟨hl,cab_mk h1 h2 hl.r,(heavy_eq hl).2 (hb _ (by omega))⟩
theorem set_mid' {α : Type} (A B : List α) (x y : α) : (A ++ x::B).set A.length y = A ++ y::B := by
 rw [List.set_append_right _ _ (Nat.le_refl _),Nat.sub_self]; rfl
theorem hung_in {N : Nat} (hN : 40 ≤ N) {c d : crew_Cable} (hc : Light c) (hd : Light d) (hL : Lng c d) (hF : ShortF c 89 352) (h6 : c.Rides.length ≤ 6) (hdl : ∀ i,(h : i < c.Rides.length) → 0 ≤ c.Rides[i].Long ∧ c.Rides[i].Long ≤ 352) (hdL : ∀ i,(h : i < d.Rides.length) → d.Rides[i].Long ≤ 352) :
  ∃ s,loopO (fun s19 => top_TopHung_b19 N c.Rides d.Rides ((qst c c.Rides.length).1,0) ((qst d d.Rides.length).1,0) s19.1 s19.2.1 s19.2.2.1 s19.2.2.2) N (0,0,0,c.Rides) = some (.go s) ∧ s.1 ≤ s.2.1 ∧ s.2.2.2 = (qst c c.Rides.length).2.2 := by
 have hl1 : (qst c c.Rides.length).1.length = c.Rides.length := (qinv hc c.Rides.length (Nat.le_refl _)).l1
 have hl2 : (qst d d.Rides.length).1.length = d.Rides.length := (qinv hd d.Rides.length (Nat.le_refl _)).l1
 have hlen := hL.len
 have hg1 : ∀ i,i < c.Rides.length → getI (qst c c.Rides.length).1 (i : Int) = some (qst c (i + 1)).2.1 := fun i hi => by rw [getI_nat (by rw [hl1]; exact hi),Qlget hc hi]
 have hg2 : ∀ i,i < d.Rides.length → getI (qst d d.Rides.length).1 (i : Int) = some (qst d (i + 1)).2.1 := fun i hi => by rw [getI_nat (by rw [hl2]; exact hi),Qlget hd hi]
 obtain ⟨s,h1,h2,h3,h4⟩ := loopInv (ρ := Bool) (fun s19 : Int × Int × Int × List crew_Ride => top_TopHung_b19 N c.Rides d.Rides ((qst c c.Rides.length).1,0) ((qst d d.Rides.length).1,0) s19.1 s19.2.1 s19.2.2.1 s19.2.2.2) (fun i s => s.2.2.1 = (i : Int) ∧ s.1 ≤ s.2.1 ∧ s.2.2.2 = (qst c i).2.2 ++ c.Rides.drop i) c.Rides.length (by
  rintro i ⟨e,t,x,l⟩ hi ⟨rfl,h1,rfl⟩
  dsimp only at h1
  have hid : i < d.Rides.length := by omega
  have hq := qinv hc i (by omega)
  obtain ⟨-,-,g3,-,g5,-⟩ := qwait (N := 40) (by omega) hc hi hq
  have hsh := (qshortF hc hF (i + 1) hi).1
  have hsd := (qinv hd (i + 1) hid).b
  have hle := (qlong hc hd hL (i + 1) hi).1
  obtain ⟨r1,r2,r3⟩ := hL.r i hi hid
  have hq0 := hq.q.a0
  have hLi := hdl i hi
  have hLd := hdL i hid
  have hdr : c.Rides.drop i = c.Rides[i]::c.Rides.drop (i + 1) := List.drop_eq_getElem_cons hi
  have hgr : getI ((qst c i).2.2 ++ c.Rides.drop i) (i : Int) = some c.Rides[i] := by
   rw [hdr,getI_nat (by rw [List.length_append,hq.l2,List.length_cons]; omega)]
   simp [hq.l2]
  refine ⟨(max e ((qst c (i + 1)).2.1 + c.Rides[i].Long),max t ((qst d (i + 1)).2.1 + d.Rides[i].Long),((i + 1 : Nat) : Int),(qst c (i + 1)).2.2 ++ c.Rides.drop (i + 1)),?_,rfl,by dsimp only; omega,rfl⟩
  show top_TopHung_b19 N c.Rides d.Rides ((qst c c.Rides.length).1,0) ((qst d d.Rides.length).1,0) e t (i : Int) ((qst c i).2.2 ++ c.Rides.drop i) = _
  unfold top_TopHung_b19
  dsimp only
  have e1 : (Option.bind (cond (decide ((qst d (i + 1)).2.1 < (qst c (i + 1)).2.1)) (some true) (Option.bind (getI (qst c c.Rides.length).1 (i : Int)) fun e_3 => Option.bind (getI c.Rides (i : Int)) fun e_4 => some (decide (e_3 < e_4.From)))) fun t_2 => Option.bind (cond t_2 (some true) (Option.bind (getI (qst c c.Rides.length).1 (i : Int)) fun e_5 => some (decide (10000 < e_5)))) fun t_3 => some t_3) = some false := by
   rw [hg1 i hi,getI_nat hi,dF (show ¬ (qst d (i + 1)).2.1 < (qst c (i + 1)).2.1 by omega),cond_false]
   simp only [Option.bind_some]
   rw [dF (show ¬ (qst c (i + 1)).2.1 < c.Rides[i].From by omega),cond_false,Option.bind_some,dF (show ¬ 10000 < (qst c (i + 1)).2.1 by push_cast at hsh; omega)]
  rw [dT (show (i : Int) < (((qst c c.Rides.length).1.length : Nat) : Int) by rw [hl1]; omega),cond_true,hg1 i hi,hg2 i hid,Option.bind_some,Option.bind_some,getI_nat hi,getI_nat hid,hgr]
  simp only [Option.bind_some]
  rw [dF (show ¬ (qst d (i + 1)).2.1 < (qst c (i + 1)).2.1 by omega),cond_false,Option.bind_some,dF (show ¬ (qst c (i + 1)).2.1 < c.Rides[i].From by omega),cond_false,Option.bind_some,dF (show ¬ 10000 < (qst c (i + 1)).2.1 by push_cast at hsh; omega),cond_false]
  rw [W_sm (n := (qst c (i + 1)).2.1 + c.Rides[i].Long) (by omega) (by push_cast at hsh; omega),W_sm (n := (qst d (i + 1)).2.1 + d.Rides[i].Long) (by omega) (by push_cast at hsd; omega),W_succ (by omega),Int.toNat_natCast,g5,hdr]
  have hset := set_mid' (qst c i).2.2 (c.Rides.drop (i + 1)) c.Rides[i] ⟨(qst c (i + 1)).2.1,c.Rides[i].Long,c.Rides[i].Weight⟩
  rw [hq.l2] at hset
  rw [hset,List.append_assoc]
  rfl) (by
  rintro ⟨e,t,x,l⟩ ⟨rfl,-⟩
  show top_TopHung_b19 N c.Rides d.Rides ((qst c c.Rides.length).1,0) ((qst d d.Rides.length).1,0) e t (c.Rides.length : Int) l = _
  unfold top_TopHung_b19
  dsimp only
  rw [hl1,ge_dec,cond_false]) c.Rides.length 0 (0,0,0,c.Rides) N (by omega) (by omega) ⟨rfl,Int.le_refl _,rfl⟩
 refine ⟨s,h1,h3,?_⟩
 rw [h4,List.drop_length,List.append_nil]
theorem hung_law {numbers cables dearer : List Int} (hb : Bytes numbers) (hc : Bytes cables) (hd : Bytes dearer) : top_TopHung 200 numbers cables dearer = some true := by
 have hN : 100 ≤ 200 := by omega
 obtain ⟨C,Wd,S,M0,u0,m0,e0,⟨w0,w1,w2⟩,s0⟩ := hung0_spec (N := 200) (by omega) hc
 dsimp only at w0 w1 w2
 obtain ⟨p,u1,m1,e1,p0,p1,s1⟩ := within_spec (N := 200) hc (lo := 130) (hi := 400) s0 (by omega) (by omega) (by omega) (by omega)
 obtain ⟨M,eM,hM0,hM1,hbey⟩ := strong (p := p) w0 w1 w2 ⟨p0,p1⟩
 obtain ⟨q,u2,m2,e2,q0,q1,s2⟩ := within_spec (N := 200) hb (u := 0) (m := 0) (lo := 1) (hi := 6) (k := 0) ⟨by omega,by omega,by omega,by omega⟩ (by omega) (by omega) (by omega) (by omega)
 obtain ⟨n,rfl⟩ : ∃ n : Nat,q = (n : Int) := ⟨q.toNat,by omega⟩
 have hn6 : n ≤ 6 := by omega
 obtain ⟨⟨x,a,b,c,d,e,f,l,l'⟩,h9,hx,-,-,-,hR⟩ := loopInv (ρ := Bool) (fun s9 : Int × Int × Int × Int × Int × Int × Int × List crew_Ride × List crew_Ride => top_TopHung_b9 200 numbers cables dearer ((n : Int),u2,m2) s9.1 s9.2.1 s9.2.2.1 s9.2.2.2.1 s9.2.2.2.2.1 s9.2.2.2.2.2.1 s9.2.2.2.2.2.2.1 s9.2.2.2.2.2.2.2.1 s9.2.2.2.2.2.2.2.2)
  (fun i s => s.1 = (i : Int) ∧ SOk s.2.1 s.2.2.1 (6 + 40 * i) ∧ SOk s.2.2.2.1 s.2.2.2.2.1 (6 + 3 * i) ∧ SOk s.2.2.2.2.2.1 s.2.2.2.2.2.2.1 (6 + i) ∧ Rides s.2.2.2.2.2.2.2.1 s.2.2.2.2.2.2.2.2 i) n (by
  rintro i ⟨x,a,b,c,d,e,f,l,l'⟩ hi ⟨rfl,k1,k2,k3,k4⟩
  obtain ⟨a',b',c',d',e',f',l1,l1',g1,g2,g3,g4,g5⟩ := made_step hN hb hc hd (r6 := ((n : Int),u2,m2)) (n := n) rfl hi hn6 (k := 6) (by omega) k1 k2 k3 k4
  exact ⟨_,g1,rfl,g2,g3,g4,g5⟩) (by
  rintro ⟨x,a,b,c,d,e,f,l,l'⟩ ⟨rfl,-⟩
  show top_TopHung_b9 200 numbers cables dearer ((n : Int),u2,m2) (n : Int) a b c d e f l l' = _
  unfold top_TopHung_b9
  rw [dF (show ¬ (n : Int) < ((n : Int),u2,m2).1 by dsimp only; omega),cond_false]) n 0 (0,u2,m2,u1,m1,0,0,[],[]) 200 (by omega) (by omega)
  ⟨rfl,s2.mono' (by omega),s1.mono' (by omega),(⟨by omega,by omega,by omega,by omega⟩ : SOk 0 0 (6 + 0)),⟨rfl,rfl,fun j hj => absurd hj (Nat.not_lt_zero _)⟩⟩
 dsimp only at hx hR
 obtain ⟨hm1,hm2⟩ := hR.mem
 have hnl := hR.n
 have hnl' := hR.n'
 have hcar : ∀ ll,CarOk ⟨C,Wd,S,M,ll⟩ := fun ll => ⟨w0.1,by dsimp only; omega,by dsimp only; omega,by dsimp only; omega,by dsimp only; omega,by dsimp only; omega,hM0,hM1⟩
 obtain ⟨c1,c2,c3⟩ := light_mk (c := ⟨C,Wd,S,M,l⟩) (by dsimp only; omega) (hcar l) (fun r hr => ⟨(hm1 r hr).1,(hm1 r hr).2.2.2⟩) (fun x hx => hbey l x hx)
 obtain ⟨d1,d2,d3⟩ := light_mk (c := ⟨C,Wd,S,M,l'⟩) (by dsimp only; omega) (hcar l') (fun r hr => hm2 r hr) (fun x hx => hbey l' x hx)
 have hL : Lng ⟨C,Wd,S,M,l⟩ ⟨C,Wd,S,M,l'⟩ := ⟨rfl,rfl,rfl,rfl,by dsimp only; omega,fun i h h' => by
  dsimp only at h h' ⊢
  have := hR.r i (by omega)
  rw [← get_getD (d := rd0) h,← get_getD (d := rd0) h'] at this
  exact ⟨this.ef,this.ew,this.l'.1⟩⟩
 have hF : ShortF ⟨C,Wd,S,M,l⟩ 89 352 := ⟨fun r hr => ⟨(hm1 r hr).2.1,(hm1 r hr).2.2.1⟩,by omega,by omega⟩
 obtain ⟨s,t1,t2,t3⟩ := hung_in (N := 200) (by omega) c1 d1 hL hF (by dsimp only; omega) (fun i h => by
  dsimp only at h ⊢
  have := hR.r i (by omega)
  rw [← get_getD (d := rd0) h] at this
  have := this.l
  omega) (fun i h => by
  dsimp only at h ⊢
  have := hR.r i (by omega)
  rw [← get_getD (d := rd0) h] at this
  exact this.l'.2)
 dsimp only at t1 t3
 have hq1 := queue_ok (N := 200) (by omega) c2
 have hq2 := queue_ok (N := 200) (by omega) d2
 rw [c3,if_neg (by decide)] at hq1
 rw [d3,if_neg (by decide)] at hq2
 have k1 : (qst ⟨C,Wd,S,M,l⟩ l.length).1.length = l.length := (qinv c1 l.length (Nat.le_refl _)).l1
 have k2 : (qst ⟨C,Wd,S,M,l'⟩ l'.length).1.length = l'.length := (qinv d1 l'.length (Nat.le_refl _)).l1
 -- the queue as a cable
 have hQi := qinv c1 l.length (Nat.le_refl _)
 have hQs := (qshortF c1 hF l.length (Nat.le_refl _)).1
 have hcode : cabCode (Qc ⟨C,Wd,S,M,l⟩) = 0 := cab_mk (by rw [Qlen c1]; dsimp only; omega) (hcar _) (fun r hr => by
  have := hQi.q.r r hr
  exact ⟨this.f0,by have := this.f1; omega,this.l0,this.l1,this.w0,this.w1,this.w2⟩)
 obtain ⟨ca,cb,y1,y2,-⟩ := beyond_zero (N := 200) (by omega) hcode
 have hca : ca = -1 := by
  rcases y2 with ⟨h,-⟩ | ⟨-,h,-⟩
  ·exact h
  ·have := qlight c1 (hbey l C (by omega)) l.length (Nat.le_refl _) ca
   have h' : bey ⟨C,Wd,S,M,l⟩ (C + ldF api_Span.Hi (qst ⟨C,Wd,S,M,l⟩ l.length).2.2 ca) = true := h
   rw [this] at h'; cases h'
 unfold top_TopHung
 rw [show kit_New 200 numbers = some (0,0) from rfl,show kit_New 200 cables = some (0,0) from rfl,show kit_New 200 dearer = some (0,0) from rfl,Option.bind_some,Option.bind_some,Option.bind_some]
 dsimp only
 rw [e0,Option.bind_some]
 dsimp only
 rw [e1,Option.bind_some,show nz S = some () by unfold nz; rw [if_neg (by omega)],Option.bind_some]
 dsimp only
 rw [eM]
 have ecp : ∀ ll : List crew_Ride,ll.length ≤ 1000 → law11_CopyCable 200 (⟨C,Wd,S,M,ll⟩ : crew_Cable) = some ⟨C,Wd,S,M,ll⟩ := fun ll hll => by
  unfold law11_CopyCable kit_Copy_crew_Ride
  dsimp only
  rw [room_ok (by omega)]
  rfl
 rw [ecp [] (by simp),Option.bind_some,e2,Option.bind_some]
 dsimp only
 rw [h9,Option.bind_some,exK_at']
 dsimp only
 rw [hq1,Option.bind_some,hq2,Option.bind_some]
 dsimp only
 rw [k1,k2,hnl,hnl',bne_self_eq_false,bne_self_eq_false,Bool.or_false,Bool.or_false,Bool.or_false,cond_false,ecp l (by omega),Option.bind_some]
 dsimp only
 rw [hnl] at t1
 rw [hnl'] at t1
 rw [t1,Option.bind_some,exK_at']
 rw [t3]
 have ey : crew_Beyond 200 (⟨C,Wd,S,M,(qst ⟨C,Wd,S,M,l⟩ l.length).2.2⟩ : crew_Cable) = some (ca,cb,0) := y1
 rw [ey,Option.bind_some,hca,dT t2,aware_true]
 rfl
end Go.Nilo
