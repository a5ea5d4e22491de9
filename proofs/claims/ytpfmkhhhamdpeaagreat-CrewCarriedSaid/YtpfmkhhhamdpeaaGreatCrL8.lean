/-
  What the plain functions compute, in plain arithmetic, part 8. Conditions: what each theorem names.
-/
import Derived.Test.YtpfmkhhhamdpeaaGreatCrL7
set_option linter.unusedSimpArgs false
set_option linter.unusedVariables false
namespace Go.Nilo
structure HOk (s : Int × Int × Int × List crew_Ride) (i k : Nat) : Prop where
 x : s.1 = (i : Int)
 so : SOk s.2.1 s.2.2.1 (k + 4 * i)
 len : s.2.2.2.length = i
 r : ∀ r ∈ s.2.2.2,RB 100000 r ∧ r.From ≤ 60 ∧ r.Long ≤ 30
theorem hung_spec {N : Nat} (hN : 30 ≤ N) {numbers : List Int} (hb : Bytes numbers) :
  ∃ c u m,law11_Hung N ⟨numbers,0,0⟩ 10 = some (c,u,m) ∧ cabCode c = 0 ∧ Short c := by
 unfold law11_Hung
 obtain ⟨C,u1,m1,a1,a2,a3,s1⟩ := next_spec (N := N) hb (u := 0) (m := 0) (n := 80) (k := 0) ⟨by omega,by omega,by omega,by omega⟩ (by omega)
 rw [a1,Option.bind_some]
 obtain ⟨Wd,u2,m2,b1,b2,b3,s2⟩ := within_spec (N := N) hb (lo := 20) (hi := 200) s1 (by omega) (by omega) (by omega) (by omega)
 simp only [b1,Option.bind_some]
 obtain ⟨S,u3,m3,c1,c2,c3,s3⟩ := within_spec (N := N) hb (lo := 100) (hi := 500) s2 (by omega) (by omega) (by omega) (by omega)
 simp only [c1,Option.bind_some]
 obtain ⟨P,u4,m4,d1,d2,d3,s4⟩ := within_spec (N := N) hb (lo := 100) (hi := 400) s3 (by omega) (by omega) (by omega) (by omega)
 simp only [d1,Option.bind_some]
 have hnz : nz S = some () := by unfold nz; rw [if_neg (by omega)]
 have e11 : W ((10 : Int) + 1) = 11 := rfl
 rw [hnz,Option.bind_some,e11]
 obtain ⟨q,u5,m5,f1,f2,f3,s5⟩ := next_spec (N := N) hb (n := 11) s4 (by omega)
 simp only [f1,Option.bind_some]
 obtain ⟨n,rfl⟩ := Int.eq_ofNat_of_zero_le f2
 obtain ⟨s,hs,hI⟩ := loopInv (ρ := crew_Cable × Int × Int) (fun s6 => law11_Hung_b6 N ⟨numbers,0,0⟩ ((n : Int),u5,m5) s6.1 s6.2.1 s6.2.2.1 s6.2.2.2) (fun i s => HOk s i 5) n (fun i s hi h => by
  obtain ⟨x,p0,p1,l⟩ := s
  obtain ⟨h1,h2,h3,h4⟩ := h
  dsimp only at h1 h2 h3 h4
  subst h1
  obtain ⟨r1,v1,w1,g1,i1,j1,t1⟩ := within_spec (N := N) hb (lo := 40) (hi := 110) h2 (by omega) (by omega) (by omega) (by omega)
  obtain ⟨r2,v2,w2,g2,i2,j2,t2⟩ := next_spec (N := N) hb (n := 60) t1 (by omega)
  obtain ⟨r3,v3,w3,g3,i3,j3,t3⟩ := within_spec (N := N) hb (lo := 1) (hi := 30) t2 (by omega) (by omega) (by omega) (by omega)
  obtain ⟨r4,v4,w4,g4,i4,j4,t4⟩ := next_spec (N := N) hb (n := 12) t3 (by omega)
  show ∃ s',law11_Hung_b6 N ⟨numbers,0,0⟩ ((n : Int),u5,m5) (i : Int) p0 p1 l = _ ∧ _
  unfold law11_Hung_b6 law11_span
  have hdec : decide (((i : Nat) : Int) < (n : Int)) = true := by rw [decide_eq_true_eq]; omega
  have hw : W (r1 + r4) = r1 + r4 := W_id (by omega) (by omega)
  simp only [hdec,cond_true,g1,g2,g3,g4,Option.bind_some,hw,W_succ (show i < 9223372036854775807 by omega)]
  rw [room_ok (by rw [List.length_append,h3,List.length_cons,List.length_nil]; omega),Option.bind_some]
  refine ⟨_,rfl,rfl,?_,?_,fun r hr => ?_⟩
  ·have : 5 + 4 * (i + 1) = 5 + 4 * i + 1 + 1 + 1 + 1 := by omega
   rw [this]; exact t4
  ·dsimp only; rw [List.length_append,h3]; rfl
  ·rcases List.mem_append.1 hr with hr | hr
   ·exact h4 r hr
   ·rw [List.mem_singleton.1 hr]
    exact ⟨⟨i2,by dsimp only; omega,i3,by dsimp only; omega,by dsimp only; omega,by dsimp only; omega,by dsimp only; omega⟩,by dsimp only; omega,by dsimp only; omega⟩) (fun s h => by
  show law11_Hung_b6 N ⟨numbers,0,0⟩ ((n : Int),u5,m5) s.1 s.2.1 s.2.2.1 s.2.2.2 = _
  unfold law11_Hung_b6
  rw [h.x,show decide (((n : Nat) : Int) < (((n : Nat) : Int),u5,m5).1) = false from ge_dec,cond_false,← h.x]) n 0 (0,u5,m5,[]) N (by omega) (by omega) ⟨rfl,s5,rfl,fun r hr => (List.not_mem_nil hr).elim⟩
 rw [hs,Option.bind_some]
 refine ⟨_,_,_,rfl,?_,?_⟩
 ·have m1 := mul_bd (a := C + P) (b := Wd) (A := 479) (B := 200) (by omega) (by omega) (by omega) (by omega)
  have e1 : W (C + P) = C + P := W_id (by omega) (by omega)
  have e2 : W ((C + P) * Wd) = (C + P) * Wd := W_id (by omega) (by omega)
  have e3 : W ((C + P) * Wd * 25) = (C + P) * Wd * 25 := W_id (by omega) (by omega)
  have hd0 : 0 ≤ (C + P) * Wd * 25 / S := Int.ediv_nonneg (by omega) (by omega)
  have hd1 : (C + P) * Wd * 25 / S ≤ (C + P) * Wd * 25 := Int.ediv_le_self _ (by omega)
  refine cab_mk (by show s.2.2.2.length ≤ 30; rw [hI.len]; omega) ⟨a2,by dsimp only; omega,by dsimp only; omega,by dsimp only; omega,by dsimp only; omega,by dsimp only; omega,?_,?_⟩ (fun r hr => (hI.r r hr).1)
  ·dsimp only
   rw [e1,e2,e3,tdiv_div (by omega),W_id (by omega) (by omega)]
   exact hd0
  ·dsimp only
   rw [e1,e2,e3,tdiv_div (by omega),W_id (by omega) (by omega)]
   omega
 ·exact ⟨fun r hr => (hI.r r hr).2⟩
theorem set_mid {α : Type} (A B : List α) (x y : α) : (A ++ x::B).set A.length y = A ++ y::B := by
 rw [List.set_append_right _ _ (Nat.le_refl _),Nat.sub_self]; rfl
theorem Qtake {c : crew_Cable} (h : Light c) : ∀ n,n ≤ c.Rides.length → ∀ t,t ≤ n → (qst c n).2.2.take t = (qst c t).2.2
 | 0,_,t,ht => by
  obtain rfl : t = 0 := by omega
  rfl
 | n + 1,hn,t,ht => by
  have hn' : n < c.Rides.length := by omega
  have hq := qinv h n (by omega)
  obtain ⟨-,-,-,-,g5,g6⟩ := qwait (N := 40) (by omega) h hn' hq
  by_cases hin : t ≤ n
  ·rw [g5,List.take_append_of_le_length (by rw [hq.l2]; exact hin)]
   exact Qtake h n (by omega) t hin
  ·obtain rfl : t = n + 1 := by omega
   rw [List.take_of_length_le (by rw [g6.l2]; exact Nat.le_refl _)]
theorem same_int {N : Nat} {l : List Int} (hl : l.length ≤ 1000) (hN : l.length < N) : kit_Same_int N l l = some true := by
 unfold kit_Same_int
 rw [bne_self_eq_false,cond_false,sameLoop l (by omega) (fun s7 => kit_Same_int_b7 N l l s7) (fun i hi => by
  unfold kit_Same_int_b7
  simp only [lt_dec hi,cond_true,getI_nat hi,Option.bind_some,bne_self_eq_false,cond_false]
  rw [W_succ (by omega)]) (by
  unfold kit_Same_int_b7
  rw [ge_dec]; rfl) hN]
 rfl
theorem carried_heavy {N : Nat} (hN : 40 ≤ N) {c : crew_Cable} (h : cabCode c = 0) (u m : Int) :
  loopO (fun s10 => law11_CrewCarried_b10 N (c,u,m) s10.1 s10.2) N (decide ((W (c.Most * c.Sag)) < (W ((W (c.Car * c.Wide)) * 25))),0) = some (.go (heavyB c,(c.Rides.length : Int))) := by
 obtain ⟨hn,hc,hr⟩ := cab_zero h
 have hrun := runS (ρ := Bool) (fun i : Nat => (bey c c.Car || (c.Rides.take i).any fun r => bey c (c.Car + r.Weight.Hi),(i : Int))) c.Rides.length (fun s10 => law11_CrewCarried_b10 N (c,u,m) s10.1 s10.2) (fun i hi => by
  have hri := hr c.Rides[i] (List.getElem_mem _)
  have b0 := hri.w0
  have b1 := hri.w1
  have b2 := hri.w2
  have c0 := hc.c0
  have c1 := hc.c1
  show law11_CrewCarried_b10 N (c,u,m) (bey c c.Car || (c.Rides.take i).any fun r => bey c (c.Car + r.Weight.Hi)) (i : Int) = _
  unfold law11_CrewCarried_b10
  dsimp only
  rw [lt_dec hi,cond_true,getI_nat hi,Option.bind_some,W_id (n := c.Car + c.Rides[i].Weight.Hi) (by omega) (by omega),show (decide ((W (c.Most * c.Sag)) < (W ((W ((c.Car + c.Rides[i].Weight.Hi) * c.Wide)) * 25)))) = _ from beyond_ok hc (x := c.Car + c.Rides[i].Weight.Hi) (by omega) (by omega),W_succ (by omega),List.take_succ_eq_append_getElem hi,List.any_append,Bool.or_assoc]
  simp only [List.any_cons,List.any_nil,Bool.or_false]) (by
  show law11_CrewCarried_b10 N (c,u,m) _ _ = _
  unfold law11_CrewCarried_b10
  dsimp only
  rw [ge_dec,cond_false]) (N := N) (by omega)
 have e0 : (decide ((W (c.Most * c.Sag)) < (W ((W (c.Car * c.Wide)) * 25))),(0 : Int)) = (bey c c.Car || (c.Rides.take 0).any fun r => bey c (c.Car + r.Weight.Hi),((0 : Nat) : Int)) := by
  rw [show (decide ((W (c.Most * c.Sag)) < (W ((W (c.Car * c.Wide)) * 25)))) = _ from beyond_ok hc (x := c.Car) hc.c0 (by have := hc.c1; omega)]
  simp
 rw [e0,hrun,List.take_length]
 rfl
theorem carried_in {N : Nat} (hN : 40 ≤ N) {c : crew_Cable} (h : Light c) (hs : Short c) (u m : Int) :
  loopO (fun s22 => law11_CrewCarried_b22 N (c,u,m) ((qst c c.Rides.length).1,0) s22.1 s22.2) N (0,c.Rides) = some (.go ((c.Rides.length : Int),(qst c c.Rides.length).2.2)) := by
 have hn := h.len
 have hL := qinv h c.Rides.length (Nat.le_refl _)
 have hlen : (qst c c.Rides.length).1.length = c.Rides.length := hL.l1
 have hget : ∀ i,i < c.Rides.length → getI (qst c c.Rides.length).1 (i : Int) = some (qst c (i + 1)).2.1 := fun i hi => by
  rw [getI_nat (by rw [hlen]; exact hi),Qlget h hi]
 have hrun := runS (ρ := Bool) (fun i : Nat => ((i : Int),(qst c i).2.2 ++ c.Rides.drop i)) c.Rides.length (fun s22 => law11_CrewCarried_b22 N (c,u,m) ((qst c c.Rides.length).1,0) s22.1 s22.2) (fun i hi => by
  have hq := qinv h i (by omega)
  obtain ⟨-,-,g3,-,g5,-⟩ := qwait (N := 40) (by omega) h hi hq
  have hsh := (qshort h hs (i + 1) hi).1
  show law11_CrewCarried_b22 N (c,u,m) ((qst c c.Rides.length).1,0) (i : Int) ((qst c i).2.2 ++ c.Rides.drop i) = _
  unfold law11_CrewCarried_b22
  have hi' : decide ((i : Int) < (((qst c c.Rides.length).1.length : Nat) : Int)) = true := by rw [hlen]; exact lt_dec hi
  dsimp only
  rw [hi',cond_true,hget i hi,getI_nat hi,Option.bind_some,Option.bind_some,show decide ((qst c (i + 1)).2.1 < c.Rides[i].From) = false by rw [decide_eq_false_iff_not]; omega,cond_false,Option.bind_some,show decide (1000 < (qst c (i + 1)).2.1) = false by rw [decide_eq_false_iff_not]; push_cast at hsh; omega,Option.bind_some,cond_false]
  have e2 : (Option.bind (cond (decide ((0 : Int) < (i : Int))) (Option.bind (some (qst c (i + 1)).2.1) fun e_13 => Option.bind (getI (qst c c.Rides.length).1 (W ((i : Int) - 1))) fun e_14 => some (decide (e_13 < e_14))) (some false)) fun t_7 => some t_7) = some false := by
   by_cases h0 : i = 0
   ·subst h0; rfl
   ·have hW : W ((i : Int) - 1) = ((i - 1 : Nat) : Int) := by rw [W_id (by omega) (by omega)]; omega
    rw [show decide ((0 : Int) < (i : Int)) = true by rw [decide_eq_true_eq]; omega,cond_true,Option.bind_some,hW,hget (i - 1) (by omega),Option.bind_some,show i - 1 + 1 = i by omega,show decide ((qst c (i + 1)).2.1 < (qst c i).2.1) = false by rw [decide_eq_false_iff_not]; omega]
    rfl
  rw [e2,Option.bind_some,cond_false]
  have hd : c.Rides.drop i = c.Rides[i]::c.Rides.drop (i + 1) := List.drop_eq_getElem_cons hi
  have hg : getI ((qst c i).2.2 ++ c.Rides.drop i) (i : Int) = some c.Rides[i] := by
   rw [hd,getI_nat (by rw [List.length_append,hq.l2,List.length_cons]; omega)]
   simp [hq.l2]
  rw [Option.bind_some,hg,Option.bind_some,W_succ (by omega),g5,Int.toNat_natCast,hd]
  have hset := set_mid (qst c i).2.2 (c.Rides.drop (i + 1)) c.Rides[i] ⟨(qst c (i + 1)).2.1,c.Rides[i].Long,c.Rides[i].Weight⟩
  rw [hq.l2] at hset
  rw [hset,List.append_assoc]
  rfl) (by
  show law11_CrewCarried_b22 N (c,u,m) ((qst c c.Rides.length).1,0) (c.Rides.length : Int) _ = _
  unfold law11_CrewCarried_b22
  dsimp only
  rw [hlen,ge_dec,cond_false]) (N := N) (by omega)
 have e0 : ((0 : Int),c.Rides) = (((0 : Nat) : Int),(qst c 0).2.2 ++ c.Rides.drop 0) := rfl
 rw [e0,hrun,List.drop_length,List.append_nil]
theorem carried_truth {N : Nat} (hN : 101 ≤ N) {weights : List Int} (hw : Bytes weights) {c : crew_Cable} (h : Light c) (hs : Short c) (hh : bey c c.Car = false) (u m : Int) :
  ∃ s,loopO (fun s30 => law11_CrewCarried_b30 N weights (c,u,m) ((qst c c.Rides.length).1,0) c (qst c c.Rides.length).2.2 s30.1 s30.2.1 s30.2.2) N (0,0,0) = some (.go s) := by
 have hn := h.len
 have hL := qinv h c.Rides.length (Nat.le_refl _)
 have hsh := (qshort h hs c.Rides.length (Nat.le_refl _)).1
 have hlen : (qst c c.Rides.length).1.length = c.Rides.length := hL.l1
 obtain ⟨s,hs',-⟩ := loopInv (ρ := Bool) (fun s30 => law11_CrewCarried_b30 N weights (c,u,m) ((qst c c.Rides.length).1,0) c (qst c c.Rides.length).2.2 s30.1 s30.2.1 s30.2.2) (fun i s => s.1 = (i : Int) ∧ ∃ k,k ≤ 40 * i ∧ SOk s.2.1 s.2.2 k) c.Rides.length (fun i s hi hI => by
  obtain ⟨x,p,q⟩ := s
  obtain ⟨rfl,k,hk,so⟩ := hI
  have hget : getI (qst c c.Rides.length).1 (i : Int) = some (qst c (i + 1)).2.1 := by rw [getI_nat (by rw [hlen]; exact hi),Qlget h hi]
  have hsi := (qshort h hs (i + 1) hi).1
  have ha0 := (qinv h (i + 1) hi).q.a0
  obtain ⟨s2,hs2,g1,g2,g3,k2,g4,g5⟩ := loopInv (ρ := Step (Int × Int × Int) Bool) (fun s50 => law11_CrewCarried_b50 N weights (qst c c.Rides.length).2.2 (qst c (i + 1)).2.1 s50.1 s50.2.1 s50.2.2.1 s50.2.2.2) (fun j s => s.2.1 = (j : Int) ∧ c.Car + ldF api_Span.Lo ((qst c c.Rides.length).2.2.take j) (qst c (i + 1)).2.1 ≤ s.1 ∧ s.1 ≤ c.Car + ldF api_Span.Hi ((qst c c.Rides.length).2.2.take j) (qst c (i + 1)).2.1 ∧ ∃ k',k' ≤ k + j ∧ SOk s.2.2.1 s.2.2.2 k') c.Rides.length (fun j s hj hJ => by
   obtain ⟨ld,y,p',q'⟩ := s
   obtain ⟨rfl,f1,f2,k',f3,f4⟩ := hJ
   dsimp only at f1 f2 f4
   have hjl : j < (qst c c.Rides.length).2.2.length := by rw [hL.l2]; exact hj
   have hr := hL.q.r (qst c c.Rides.length).2.2[j] (List.getElem_mem _)
   obtain ⟨r0,r1,r2,r3,r4,r5,r6⟩ := hr
   have hlb := ld_bd sel_hi (l := (qst c c.Rides.length).2.2.take j) (n := (qst c (i + 1)).2.1) fun r hr => hL.q.r r (List.mem_of_mem_take hr)
   have hll := ld_bd sel_lo (l := (qst c c.Rides.length).2.2.take j) (n := (qst c (i + 1)).2.1) fun r hr => hL.q.r r (List.mem_of_mem_take hr)
   rw [List.length_take] at hlb hll
   have c0 := h.ok.c0
   have c1 := h.ok.c1
   show ∃ s',law11_CrewCarried_b50 N weights (qst c c.Rides.length).2.2 (qst c (i + 1)).2.1 ld (j : Int) p' q' = _ ∧ _
   unfold law11_CrewCarried_b50 law11_CrewCarried_j56
   have hdec : decide ((j : Int) < (((qst c c.Rides.length).2.2.length : Nat) : Int)) = true := by rw [hL.l2]; exact lt_dec hj
   have hend : W ((qst c c.Rides.length).2.2[j].From + (qst c c.Rides.length).2.2[j].Long) = (qst c c.Rides.length).2.2[j].From + (qst c c.Rides.length).2.2[j].Long := W_id (by omega) (by omega)
   rw [hdec,cond_true,getI_nat hjl,Option.bind_some,hend,W_succ (by omega)]
   have hon : ((decide ((qst c c.Rides.length).2.2[j].From ≤ (qst c (i + 1)).2.1)) && (decide ((qst c (i + 1)).2.1 < (qst c c.Rides.length).2.2[j].From + (qst c c.Rides.length).2.2[j].Long))) = onR (qst c c.Rides.length).2.2[j] (qst c (i + 1)).2.1 := rfl
   rw [hon]
   simp only [List.take_succ_eq_append_getElem hjl,ld_snoc]
   by_cases ho : onR (qst c c.Rides.length).2.2[j] (qst c (i + 1)).2.1 = true
   ·obtain ⟨z,v1,w1,z1,z2,z3,z4⟩ := within_spec (N := N) hw (lo := (qst c c.Rides.length).2.2[j].Weight.Lo) (hi := (qst c c.Rides.length).2.2[j].Weight.Hi) f4 (by omega) (by omega) (by omega) r5
    simp only [ho,cond_true,if_true]
    rw [z1,Option.bind_some]
    dsimp only
    rw [W_id (n := ld + z) (by omega) (by omega)]
    exact ⟨_,rfl,rfl,by dsimp only; omega,by dsimp only; omega,k' + 1,by omega,z4⟩
   ·have ho' : onR (qst c c.Rides.length).2.2[j] (qst c (i + 1)).2.1 = false := by simpa using ho
    simp only [ho',cond_false,Bool.false_eq_true,if_false,Int.add_zero]
    exact ⟨_,rfl,rfl,f1,f2,k',by omega,f4⟩) (fun s hJ => by
   show law11_CrewCarried_b50 N weights (qst c c.Rides.length).2.2 (qst c (i + 1)).2.1 s.1 s.2.1 s.2.2.1 s.2.2.2 = _
   unfold law11_CrewCarried_b50
   rw [hJ.1,show decide (((c.Rides.length : Nat) : Int) < (((qst c c.Rides.length).2.2.length : Nat) : Int)) = false by rw [hL.l2]; exact ge_dec,cond_false,← hJ.1]) c.Rides.length 0 (c.Car,0,p,q) N (by omega) (by omega) ⟨rfl,by show c.Car + 0 ≤ _; dsimp only; omega,by show _ ≤ c.Car + 0; dsimp only; omega,k,by omega,so⟩
  rw [List.take_of_length_le (by rw [hL.l2]; exact Nat.le_refl _)] at g2 g3
  have hlb := ld_bd sel_hi (n := (qst c (i + 1)).2.1) hL.q.r
  have hll := ld_bd sel_lo (n := (qst c (i + 1)).2.1) hL.q.r
  rw [hL.l2] at hlb hll
  have c0 := h.ok.c0
  have c1 := h.ok.c1
  have hload : crew_Load N ⟨c.Car,c.Wide,c.Sag,c.Most,(qst c c.Rides.length).2.2⟩ (qst c (i + 1)).2.1 = some (⟨c.Car + ldF api_Span.Lo (qst c c.Rides.length).2.2 (qst c (i + 1)).2.1,c.Car + ldF api_Span.Hi (qst c c.Rides.length).2.2 (qst c (i + 1)).2.1⟩,0) := cload_ok (by omega) (Qcode h hs) ha0 (by push_cast at hsi; omega)
  have hb : crew_Cable_beyond c s2.1 = false := by
   rw [beyond_ok h.ok (by omega) (by omega),Bool.eq_false_iff]
   intro e
   have := bey_mono h.ok (y := c.Car + ldF api_Span.Hi (qst c c.Rides.length).2.2 (qst c (i + 1)).2.1) (by omega) e
   rw [qlight h hh _ (Nat.le_refl _)] at this
   cases this
  refine ⟨(W ((i : Int) + 1),s2.2.2.1,s2.2.2.2),?_,W_succ (by omega),k2,by omega,g5⟩
  show law11_CrewCarried_b30 N weights (c,u,m) ((qst c c.Rides.length).1,0) c (qst c c.Rides.length).2.2 (i : Int) p q = _
  unfold law11_CrewCarried_b30
  have hdec : decide ((i : Int) < (((qst c c.Rides.length).1.length : Nat) : Int)) = true := by rw [hlen]; exact lt_dec hi
  dsimp only
  rw [hdec,cond_true,hget,Option.bind_some,hs2,Option.bind_some]
  simp only [exK]
  rw [hload,Option.bind_some]
  dsimp only
  rw [show decide (s2.1 < c.Car + ldF api_Span.Lo (qst c c.Rides.length).2.2 (qst c (i + 1)).2.1) = false by rw [decide_eq_false_iff_not]; omega,show decide (c.Car + ldF api_Span.Hi (qst c c.Rides.length).2.2 (qst c (i + 1)).2.1 < s2.1) = false by rw [decide_eq_false_iff_not]; omega,show (decide ((W (c.Most * c.Sag)) < (W ((W (s2.1 * c.Wide)) * 25)))) = false from hb]
  rfl) (fun s hI => by
  show law11_CrewCarried_b30 N weights (c,u,m) ((qst c c.Rides.length).1,0) c (qst c c.Rides.length).2.2 s.1 s.2.1 s.2.2 = _
  unfold law11_CrewCarried_b30
  dsimp only
  rw [hI.1,hlen,ge_dec,cond_false,← hI.1]) c.Rides.length 0 (0,0,0) N (by omega) (by omega) ⟨rfl,0,by omega,⟨by dsimp only; omega,by dsimp only; omega,by dsimp only; omega,by dsimp only; omega⟩⟩
 exact ⟨s,hs'⟩
end Go.Nilo
