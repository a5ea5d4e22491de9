/-
  What the plain functions compute, in plain arithmetic, part 6. Conditions: what each theorem names.
-/
import Derived.Test.YtpfmkhhhamdpeaaGreatCaL5
set_option linter.unusedSimpArgs false
set_option linter.unusedVariables false
namespace Go.Nilo
def rr (r : crew_Ride) : ref11_Ride := ⟨r.From,r.Long,r.Weight⟩
def rc (c : crew_Cable) : ref11_Cable := ⟨c.Car,c.Wide,c.Sag,c.Most,c.Rides.map rr⟩
theorem getI_rr {l : List crew_Ride} {i : Nat} (hi : i < l.length) : getI (l.map rr) (i : Int) = some (rr l[i]) := by
 rw [getI_nat (by simpa using hi)]; simp
theorem cable_ok {N : Nat} {c : crew_Cable} (hl : c.Rides.length ≤ 100) (hN : 101 ≤ N) : law11_Cable N c = some (rc c) := by
 unfold law11_Cable
 have hrun := runS (ρ := ref11_Cable) (fun i : Nat => ((i : Int),(c.Rides.map rr).take i)) c.Rides.length (fun s5 => law11_Cable_b5 N c s5.1 s5.2) (fun i hi => by
  show law11_Cable_b5 N c (i : Int) ((c.Rides.map rr).take i) = _
  unfold law11_Cable_b5
  have e3 : (c.Rides.map rr).take (i + 1) = (c.Rides.map rr).take i ++ [rr c.Rides[i]] := by
   rw [List.take_succ_eq_append_getElem (by simpa using hi)]; simp
  simp only [lt_dec hi,cond_true,getI_nat hi,Option.bind_some,W_succ (show i < 9223372036854775807 by omega)]
  rw [room_ok (by simp; omega),e3]
  rfl) (by
  show law11_Cable_b5 N c _ _ = _
  unfold law11_Cable_b5
  rw [ge_dec,cond_false]) (N := N) (by omega)
 have e0 : ((0 : Int),([] : List ref11_Ride)) = (((0 : Nat) : Int),(c.Rides.map rr).take 0) := rfl
 rw [e0,hrun,Option.bind_some]
 show some (⟨c.Car,c.Wide,c.Sag,c.Most,(c.Rides.map rr).take c.Rides.length⟩ : ref11_Cable) = _
 rw [List.take_of_length_le (by simp)]
 rfl
theorem out_inB (n a b : Int) : ref11_outside n a b = !inB n a b := by
 rw [Bool.eq_iff_iff]
 unfold ref11_outside inB
 simp only [Bool.or_eq_true,decide_eq_true_eq,Bool.not_eq_true',Bool.and_eq_false_iff,decide_eq_false_iff_not]
 omega
theorem bad_rr (r : crew_Ride) : (((ref11_outside r.From 0 100000) || (ref11_outside r.Long 1 100000)) || (ref11_wrong r.Weight 1000)) = !crew_CheckCable_1 r := by
 have e : ref11_wrong r.Weight 1000 = ((decide (r.Weight.Lo < 0) || decide (1000 < r.Weight.Hi)) || decide (r.Weight.Hi < r.Weight.Lo)) := rfl
 rw [out_inB,out_inB,e]
 by_cases h : RB 100000 r
 ·rw [rb_iff.2 h,inB_iff.2 ⟨h.f0,h.f1⟩,inB_iff.2 ⟨h.l0,h.l1⟩]
  have a := h.w0
  have b := h.w1
  have d := h.w2
  simp only [Bool.not_true,Bool.false_or,Bool.or_eq_false_iff,decide_eq_false_iff_not]
  omega
 ·have h1 : crew_CheckCable_1 r = false := by
   rw [Bool.eq_false_iff]
   exact fun e => h (rb_iff.1 e)
  rw [h1,Bool.not_false]
  refine Decidable.byContradiction fun hc => h ?_
  rw [Bool.not_eq_true] at hc
  simp only [Bool.or_eq_false_iff,Bool.not_eq_false',inB_iff,decide_eq_false_iff_not] at hc
  obtain ⟨⟨⟨a1,a2⟩,a3,a4⟩,⟨b1,b2⟩,b3⟩ := hc
  constructor <;> omega
theorem refcheck_ok {N : Nat} {c : crew_Cable} (hl : c.Rides.length ≤ 1000) (hN : c.Rides.length < N) : ref11_CheckCable N (rc c) = some (cabCode c) := by
 unfold ref11_CheckCable cabCode
 have hlen : (rc c).Rides.length = c.Rides.length := by simp [rc]
 rw [hlen]
 by_cases h : c.Rides.length ≤ 30
 ·rw [if_pos h,show decide (30 < ((c.Rides.length : Nat) : Int)) = false by rw [decide_eq_false_iff_not]; omega,cond_false]
  have e : ((((ref11_outside (rc c).Car 0 1000) || (ref11_outside (rc c).Wide 1 1000)) || (ref11_outside (rc c).Sag 1 10000)) || (ref11_outside (rc c).Most 0 10000000)) = !carB c := by
   rw [out_inB,out_inB,out_inB,out_inB]
   show ((((!(inB c.Car 0 1000)) || (!(inB c.Wide 1 1000))) || (!(inB c.Sag 1 10000))) || (!(inB c.Most 0 10000000))) = _
   unfold carB
   cases inB c.Car 0 1000 <;> cases inB c.Wide 1 1000 <;> cases inB c.Sag 1 10000 <;> cases inB c.Most 0 10000000 <;> rfl
  rw [e]
  have hs := scanS (ρ := Int) (fun i : Nat => (i : Int)) (fun j => cond (crew_CheckCable_1 (c.Rides.getD j ⟨0,0,⟨0,0⟩⟩)) none (some 120)) c.Rides.length (fun s10 => ref11_CheckCable_b10 N (rc c) s10) (fun i hi => by
   show ref11_CheckCable_b10 N (rc c) (i : Int) = _
   unfold ref11_CheckCable_b10
   have hg : getI (rc c).Rides (i : Int) = some (rr c.Rides[i]) := getI_rr hi
   have hb : (((ref11_outside (rr c.Rides[i]).From 0 100000) || (ref11_outside (rr c.Rides[i]).Long 1 100000)) || (ref11_wrong (rr c.Rides[i]).Weight 1000)) = !crew_CheckCable_1 c.Rides[i] := bad_rr _
   rw [hlen,lt_dec hi,cond_true,hg,Option.bind_some,W_succ (by omega),hb,get_getD (d := (⟨0,0,⟨0,0⟩⟩ : crew_Ride)) hi]
   cases crew_CheckCable_1 (c.Rides.getD i ⟨0,0,⟨0,0⟩⟩) <;> rfl) (by
   show ref11_CheckCable_b10 N (rc c) _ = _
   unfold ref11_CheckCable_b10
   rw [hlen,ge_dec,cond_false]) c.Rides.length 0 N (by omega) (by omega)
  rw [show ((0 : Nat) : Int) = 0 from rfl,all_first c.Rides.length 0 (by omega),List.drop_zero] at hs
  rw [hs]
  cases carB c <;> cases c.Rides.all crew_CheckCable_1 <;> rfl
 ·rw [if_neg h,show decide (30 < ((c.Rides.length : Nat) : Int)) = true by rw [decide_eq_true_eq]; omega,cond_true]
theorem refload_ok {N : Nat} (hN : 40 ≤ N) {c : crew_Cable} {B n : Int} (hB : B ≤ 10000000) (hl : ∀ r ∈ c.Rides,RB B r) (hn : c.Rides.length ≤ 31) (hc : 0 ≤ c.Car ∧ c.Car ≤ 1000) : ref11_load N (rc c) n = some ⟨c.Car + ldF api_Span.Lo c.Rides n,c.Car + ldF api_Span.Hi c.Rides n⟩ := by
 unfold ref11_load
 have hlen : (rc c).Rides.length = c.Rides.length := by simp [rc]
 have hrun := runS (ρ := api_Span) (fun i : Nat => ((i : Int),c.Car + ldF api_Span.Lo (c.Rides.take i) n,c.Car + ldF api_Span.Hi (c.Rides.take i) n)) c.Rides.length (fun s5 => ref11_load_b5 N (rc c) n s5.1 s5.2.1 s5.2.2) (fun i hi => by
  have hr := hl c.Rides[i] (List.getElem_mem _)
  obtain ⟨f0,f1,l0,l1,w0,w1,w2⟩ := hr
  have ha := ld_bd sel_lo (l := c.Rides.take i) (n := n) fun r hr => hl r (List.mem_of_mem_take hr)
  have hb := ld_bd sel_hi (l := c.Rides.take i) (n := n) fun r hr => hl r (List.mem_of_mem_take hr)
  rw [List.length_take] at ha hb
  show ref11_load_b5 N (rc c) n (i : Int) (c.Car + ldF api_Span.Lo (c.Rides.take i) n) (c.Car + ldF api_Span.Hi (c.Rides.take i) n) = _
  unfold ref11_load_b5
  have hg : getI (rc c).Rides (i : Int) = some (rr c.Rides[i]) := getI_rr hi
  have hon : ((decide ((rr c.Rides[i]).From ≤ n)) && (decide (n ≤ (W ((W ((rr c.Rides[i]).From + (rr c.Rides[i]).Long)) - 1))))) = onR c.Rides[i] n := by
   show ((decide (c.Rides[i].From ≤ n)) && (decide (n ≤ (W ((W (c.Rides[i].From + c.Rides[i].Long)) - 1))))) = _
   rw [W_id (n := c.Rides[i].From + c.Rides[i].Long) (by omega) (by omega),W_id (by omega) (by omega)]
   unfold onR
   congr 1
   rw [decide_eq_decide]
   omega
  have g1 : W (c.Car + ldF api_Span.Lo (c.Rides.take i) n + (rr c.Rides[i]).Weight.Lo) = c.Car + ldF api_Span.Lo (c.Rides.take i) n + c.Rides[i].Weight.Lo := W_id (by show _ ≤ _ + c.Rides[i].Weight.Lo; omega) (by show _ + c.Rides[i].Weight.Lo ≤ _; omega)
  have g2 : W (c.Car + ldF api_Span.Hi (c.Rides.take i) n + (rr c.Rides[i]).Weight.Hi) = c.Car + ldF api_Span.Hi (c.Rides.take i) n + c.Rides[i].Weight.Hi := W_id (by show _ ≤ _ + c.Rides[i].Weight.Hi; omega) (by show _ + c.Rides[i].Weight.Hi ≤ _; omega)
  rw [hlen,lt_dec hi,cond_true,hg,Option.bind_some,hon,g1,g2]
  unfold ref11_load_j9
  rw [W_succ (by omega)]
  simp only [List.take_succ_eq_append_getElem hi,ld_snoc]
  by_cases h : onR c.Rides[i] n = true
  ·simp only [h,cond_true,if_true,Int.add_assoc]
  ·simp only [show onR c.Rides[i] n = false by simpa using h,cond_false,Bool.false_eq_true,if_false,Int.add_zero]) (by
  show ref11_load_b5 N (rc c) n _ _ _ = _
  unfold ref11_load_b5
  rw [hlen,ge_dec,cond_false]) (N := N) (by omega)
 have e0 : ((0 : Int),(rc c).Car,(rc c).Car) = (((0 : Nat) : Int),c.Car + ldF api_Span.Lo (c.Rides.take 0) n,c.Car + ldF api_Span.Hi (c.Rides.take 0) n) := by simp [ldF,sumBy,rc]
 rw [e0,hrun,Option.bind_some]
 simp only [exK,List.take_length]
theorem refbeyond_ok {c : crew_Cable} (h : CarOk c) {x : Int} (h0 : 0 ≤ x) (h1 : x ≤ 100000) : ref11_beyond (rc c) x = bey c x := by
 obtain ⟨m1,m2⟩ := bey_bd h h0 h1
 obtain ⟨a1,a2,a3,a4,b1,b2,b3,b4⟩ := h
 unfold ref11_beyond bey
 show decide ((W (c.Sag * c.Most)) < (W ((W (25 * c.Wide)) * x))) = _
 have e : 25 * c.Wide * x = x * c.Wide * 25 := by
  rw [Int.mul_comm (25 * c.Wide) x,Int.mul_comm 25 c.Wide,Int.mul_assoc]
 rw [Int.mul_comm c.Sag c.Most,W_id (n := c.Most * c.Sag) (by omega) (by omega),W_id (n := 25 * c.Wide) (by omega) (by omega),e,W_id (by omega) (by omega)]
theorem min_step {p : Int → Bool} {l l' : List Int} {r x : Int} (h : IsMin p l r) (h0 : ∀ y ∈ l,0 ≤ y) (hx : 0 ≤ x) (hl : ∀ y,y ∈ l' ↔ y ∈ l ∨ y = x) : IsMin p l' (cond (p x && (r == -1 || decide (x < r))) x r) := by
 by_cases hp : p x = true
 ·rw [hp,Bool.true_and]
  rcases h with ⟨rfl,h2⟩ | ⟨h1,h2,h3⟩
  ·refine Or.inr ⟨(hl x).2 (Or.inr rfl),hp,fun y hy hq => ?_⟩
   rcases (hl y).1 hy with h | rfl
   ·rw [h2 y h] at hq; cases hq
   ·exact Int.le_refl _
  ·have hr := h0 r h1
   rw [show (r == -1) = false by rw [beq_eq_false_iff_ne]; omega,Bool.false_or]
   by_cases hlt : x < r
   ·rw [decide_eq_true hlt,cond_true]
    refine Or.inr ⟨(hl x).2 (Or.inr rfl),hp,fun y hy hq => ?_⟩
    rcases (hl y).1 hy with h | rfl
    ·have := h3 y h hq; omega
    ·exact Int.le_refl _
   ·rw [decide_eq_false hlt,cond_false]
    refine Or.inr ⟨(hl r).2 (Or.inl h1),h2,fun y hy hq => ?_⟩
    rcases (hl y).1 hy with h | rfl
    ·exact h3 y h hq
    ·omega
 ·have hp' : p x = false := by simpa using hp
  rw [hp',Bool.false_and,cond_false]
  rcases h with ⟨h1,h2⟩ | ⟨h1,h2,h3⟩
  ·refine Or.inl ⟨h1,fun y hy => ?_⟩
   rcases (hl y).1 hy with h | rfl
   ·exact h2 y h
   ·exact hp'
  ·refine Or.inr ⟨(hl r).2 (Or.inl h1),h2,fun y hy hq => ?_⟩
   rcases (hl y).1 hy with h | rfl
   ·exact h3 y h hq
   ·rw [hp'] at hq; cases hq
theorem min_nil (p : Int → Bool) : IsMin p [] (-1) := Or.inl ⟨rfl,fun x hx => (List.not_mem_nil hx).elim⟩
theorem refbeyondc_ok {N : Nat} (hN : 40 ≤ N) {c : crew_Cable} (h : cabCode c = 0) : ∃ a b,ref11_Beyond N (rc c) = some (a,b,0) ∧ IsMin (fun n => bey c (c.Car + ldF api_Span.Hi c.Rides n)) (0::c.Rides.map fun r => r.From) a ∧ IsMin (fun n => bey c (c.Car + ldF api_Span.Lo c.Rides n)) (0::c.Rides.map fun r => r.From) b := by
 obtain ⟨hn,hc,hr⟩ := cab_zero h
 have hlen : (rc c).Rides.length = c.Rides.length := by simp [rc]
 unfold ref11_Beyond
 rw [refcheck_ok (by omega) (by omega),h,Option.bind_some]
 simp only [bne_self_eq_false,cond_false]
 have hld (n : Int) := refload_ok hN (n := n) (B := 100000) (by omega) hr (by omega) ⟨hc.c0,hc.c1⟩
 have hbd (f : api_Span → Int) (hf : SelOk f) (n : Int) : 0 ≤ c.Car + ldF f c.Rides n ∧ c.Car + ldF f c.Rides n ≤ 100000 := by
  have := ld_bd hf (n := n) hr
  have := hc.c0
  have := hc.c1
  omega
 have hj : ∀ (can su i m : Int),ref11_Beyond_j15 N (rc c) can su i m = some (.cont (cond (bey c (c.Car + ldF api_Span.Hi c.Rides m) && (can == -1 || decide (m < can))) m can,cond (bey c (c.Car + ldF api_Span.Lo c.Rides m) && (su == -1 || decide (m < su))) m su,W (i + 1))) := fun can su i m => by
  unfold ref11_Beyond_j15
  rw [hld,Option.bind_some]
  unfold ref11_Beyond_j17 ref11_Beyond_j13
  dsimp only
  rw [refbeyond_ok hc (hbd _ sel_hi m).1 (hbd _ sel_hi m).2,refbeyond_ok hc (hbd _ sel_lo m).1 (hbd _ sel_lo m).2]
  cases (bey c (c.Car + ldF api_Span.Hi c.Rides m) && (can == -1 || decide (m < can))) <;> cases (bey c (c.Car + ldF api_Span.Lo c.Rides m) && (su == -1 || decide (m < su))) <;> rfl
 have hfirst : ref11_Beyond_b9 N (rc c) (-1) (-1) (-1) = ref11_Beyond_j15 N (rc c) (-1) (-1) (-1) 0 := by
  unfold ref11_Beyond_b9
  rw [hlen,show decide ((-1 : Int) < ((c.Rides.length : Nat) : Int)) = true by rw [decide_eq_true_eq]; omega]
  rfl
 obtain ⟨N,rfl⟩ : ∃ N',N = N' + 1 := ⟨N - 1,by omega⟩
 let pH := fun n => bey c (c.Car + ldF api_Span.Hi c.Rides n)
 let pL := fun n => bey c (c.Car + ldF api_Span.Lo c.Rides n)
 obtain ⟨s,hs,h1,h2,h3⟩ := loopInv (ρ := Int × Int × Int) (fun s9 => ref11_Beyond_b9 (N + 1) (rc c) s9.1 s9.2.1 s9.2.2) (fun i s => s.2.2 = (i : Int) ∧ IsMin pH (0::(c.Rides.take i).map fun r => r.From) s.1 ∧ IsMin pL (0::(c.Rides.take i).map fun r => r.From) s.2.1) c.Rides.length (fun i s hi hI => by
  obtain ⟨can,su,x⟩ := s
  obtain ⟨rfl,g1,g2⟩ := hI
  have hri := hr c.Rides[i] (List.getElem_mem _)
  have hg : getI (rc c).Rides (i : Int) = some (rr c.Rides[i]) := getI_rr hi
  have h0 : ∀ y ∈ (0::(c.Rides.take i).map fun r => r.From),0 ≤ y := fun y hy => by
   rcases List.mem_cons.1 hy with rfl | hy
   ·exact Int.le_refl _
   ·obtain ⟨r,hr',rfl⟩ := List.mem_map.1 hy
    exact (hr r (List.mem_of_mem_take hr')).f0
  have hm : ∀ y,y ∈ (0::(c.Rides.take (i + 1)).map fun r => r.From) ↔ y ∈ (0::(c.Rides.take i).map fun r => r.From) ∨ y = c.Rides[i].From := fun y => by
   rw [List.take_succ_eq_append_getElem hi,List.map_append,List.map_cons,List.map_nil,List.mem_cons,List.mem_append,List.mem_singleton,List.mem_cons,or_assoc]
  refine ⟨(cond (pH c.Rides[i].From && (can == -1 || decide (c.Rides[i].From < can))) c.Rides[i].From can,cond (pL c.Rides[i].From && (su == -1 || decide (c.Rides[i].From < su))) c.Rides[i].From su,W ((i : Int) + 1)),?_,?_,min_step g1 h0 hri.f0 hm,min_step g2 h0 hri.f0 hm⟩
  ·show ref11_Beyond_b9 (N + 1) (rc c) can su (i : Int) = _
   unfold ref11_Beyond_b9
   rw [hlen,lt_dec hi,cond_true,show decide ((0 : Int) ≤ (i : Int)) = true by rw [decide_eq_true_eq]; omega,cond_true,hg,Option.bind_some,hj]
   rfl
  ·exact W_succ (by omega)) (fun s hI => by
  show ref11_Beyond_b9 (N + 1) (rc c) s.1 s.2.1 s.2.2 = _
  unfold ref11_Beyond_b9
  rw [hI.1,hlen,ge_dec,cond_false,← hI.1]) c.Rides.length 0 (cond (pH 0 && ((-1 : Int) == -1 || decide ((0 : Int) < -1))) 0 (-1),cond (pL 0 && ((-1 : Int) == -1 || decide ((0 : Int) < -1))) 0 (-1),0) N (by omega) (by omega) ⟨rfl,min_step (min_nil _) (fun y hy => (List.not_mem_nil hy).elim) (Int.le_refl _) (fun y => by simp),min_step (min_nil _) (fun y hy => (List.not_mem_nil hy).elim) (Int.le_refl _) (fun y => by simp)⟩
 rw [List.take_length] at h2 h3
 refine ⟨s.1,s.2.1,?_,h2,h3⟩
 unfold loopO
 dsimp only
 rw [hfirst,hj]
 dsimp only
 rw [show W ((-1 : Int) + 1) = 0 from rfl]
 exact (congrArg (fun x => Option.bind x _) hs).trans rfl
end Go.Nilo
