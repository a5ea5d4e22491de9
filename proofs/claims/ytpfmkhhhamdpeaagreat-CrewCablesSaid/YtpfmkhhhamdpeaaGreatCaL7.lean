/-
  What the plain functions compute, in plain arithmetic, part 7. Conditions: what each theorem names.
-/
import Derived.Test.YtpfmkhhhamdpeaaGreatCaL6
set_option linter.unusedSimpArgs false
set_option linter.unusedVariables false
namespace Go.Nilo
theorem j47_ok {N : Nat} (hN : 40 ≤ N) {c : crew_Cable} (hc : CarOk c) {now : List crew_Ride} {B : Int} (hB : B ≤ 6000000) (hr : ∀ r ∈ now,RB B r) (hn : now.length ≤ 30) {e : crew_Ride} (he : RB 100000 e) {at_ m j : Int} {good : Bool} (h0 : 0 ≤ at_ ∧ at_ ≤ 6000000) (hm : m ≤ at_) :
  ref11_Queue_j47 N (rc c) (now.map rr) (rr e) at_ good j m = some (.cont (if m = at_ then (okAt c now e.Weight.Hi at_ && good) else good,W (j + 1))) := by
 obtain ⟨f0,f1,l0,l1,w0,w1,w2⟩ := he
 unfold ref11_Queue_j47 ref11_Queue_j45
 have hL : W (at_ + (rr e).Long) = at_ + e.Long := W_id (by show _ ≤ _ + e.Long; omega) (by show _ + e.Long ≤ _; omega)
 rw [hL]
 by_cases h : m = at_
 ·subst h
  have hg : ((decide (m ≤ m)) && (decide (m < m + e.Long))) = true := by rw [Bool.and_eq_true,decide_eq_true_eq,decide_eq_true_eq]; omega
  have hld : ref11_load N (⟨(rc c).Car,(rc c).Wide,(rc c).Sag,(rc c).Most,now.map rr⟩ : ref11_Cable) m = some ⟨c.Car + ldF api_Span.Lo now m,c.Car + ldF api_Span.Hi now m⟩ := refload_ok (c := ⟨c.Car,c.Wide,c.Sag,c.Most,now⟩) hN (B := B) (by omega) hr (by show now.length ≤ 31; omega) ⟨hc.c0,hc.c1⟩
  have hb := ld_bd sel_hi (n := m) hr
  have c0 := hc.c0
  have c1 := hc.c1
  have hw : W (c.Car + ldF api_Span.Hi now m + (rr e).Weight.Hi) = c.Car + ldF api_Span.Hi now m + e.Weight.Hi := W_id (by show _ ≤ _ + e.Weight.Hi; omega) (by show _ + e.Weight.Hi ≤ _; omega)
  rw [hg,cond_true,hld,Option.bind_some]
  dsimp only
  rw [hw,refbeyond_ok hc (by omega) (by omega),if_pos rfl,Option.bind_some]
  unfold okAt
  cases bey c (c.Car + ldF api_Span.Hi now m + e.Weight.Hi) <;> cases good <;> rfl
 ·have hg : ((decide (at_ ≤ m)) && (decide (m < at_ + e.Long))) = false := by rw [Bool.and_eq_false_iff,decide_eq_false_iff_not]; left; omega
  rw [hg,cond_false,Option.bind_some,cond_false,if_neg h]
theorem good_ok {N : Nat} (hN : 40 ≤ N) {c : crew_Cable} (hc : CarOk c) {now : List crew_Ride} {first : Int} (hB : first ≤ 6000000) (hr : ∀ r ∈ now,RB first r) (hn : now.length ≤ 30) {e : crew_Ride} (he : RB 100000 e) {at_ : Int} (h0 : 0 ≤ at_ ∧ at_ ≤ 6000000) (hf : first ≤ at_) :
  loopO (fun s41 => ref11_Queue_b41 N (rc c) (now.map rr) (rr e) at_ s41.1 s41.2) N (true,(-1)) = some (.go (okAt c now e.Weight.Hi at_,(now.length : Int))) := by
 have hlen : (now.map rr).length = now.length := by simp
 have hrun := runS (ρ := Step (Int × Int) (Step ((List Int) × Int × (List ref11_Ride)) ((List Int) × Int))) (fun i : Nat => (if i = 0 then true else okAt c now e.Weight.Hi at_,(i : Int) - 1)) (now.length + 1) (fun s41 => ref11_Queue_b41 N (rc c) (now.map rr) (rr e) at_ s41.1 s41.2) (fun i hi => by
  show ref11_Queue_b41 N (rc c) (now.map rr) (rr e) at_ (if i = 0 then true else okAt c now e.Weight.Hi at_) ((i : Int) - 1) = _
  unfold ref11_Queue_b41
  rw [hlen,show decide ((i : Int) - 1 < ((now.length : Nat) : Int)) = true by rw [decide_eq_true_eq]; omega,cond_true]
  by_cases h : i = 0
  ·subst h
   rw [show decide ((0 : Int) ≤ ((0 : Nat) : Int) - 1) = false from rfl,cond_false,j47_ok hN hc hB hr hn he h0 (Int.le_refl _),if_pos rfl,if_pos rfl,Bool.and_true]
   rfl
  ·obtain ⟨k,rfl⟩ : ∃ k,i = k + 1 := ⟨i - 1,by omega⟩
   have hk : k < now.length := by omega
   have hrk := hr now[k] (List.getElem_mem _)
   have hkf := hrk.f1
   have e1 : ((k + 1 : Nat) : Int) - 1 = (k : Int) := by omega
   have e2 : ((k + 1 + 1 : Nat) : Int) - 1 = ((k + 1 : Nat) : Int) := by omega
   rw [e1,show decide ((0 : Int) ≤ (k : Int)) = true by rw [decide_eq_true_eq]; omega,cond_true,getI_rr hk,Option.bind_some,if_neg (by omega),e2,if_neg (by omega)]
   have hm : (rr now[k]).From ≤ at_ := by show now[k].From ≤ at_; omega
   rw [j47_ok hN hc hB hr hn he h0 hm,W_succ (by omega)]
   split
   ·rw [Bool.and_self]
   ·rfl) (by
  show ref11_Queue_b41 N (rc c) (now.map rr) (rr e) at_ _ _ = _
  unfold ref11_Queue_b41
  rw [hlen,show decide ((((now.length + 1 : Nat) : Int)) - 1 < ((now.length : Nat) : Int)) = false by rw [decide_eq_false_iff_not]; omega,cond_false]) (N := N) (by omega)
 have e0 : (true,(-1 : Int)) = (if (0 : Nat) = 0 then true else okAt c now e.Weight.Hi at_,((0 : Nat) : Int) - 1) := rfl
 rw [e0,hrun,if_neg (by omega),show ((now.length + 1 : Nat) : Int) - 1 = (now.length : Int) by omega]
theorem j35_ok {N : Nat} (hN : 40 ≤ N) {c : crew_Cable} (hc : CarOk c) {now : List crew_Ride} {first : Int} (hB : first ≤ 6000000) (hr : ∀ r ∈ now,RB first r) (hn : now.length ≤ 30) {e : crew_Ride} (he : RB 100000 e) {at_ best k : Int} (h0 : 0 ≤ at_ ∧ at_ ≤ 6000000) :
  ref11_Queue_j35 N (rc c) (now.map rr) (rr e) first best k at_ = some (.cont (if at_ < first then best else cond (okAt c now e.Weight.Hi at_ && (best == -1 || decide (at_ < best))) at_ best,W (k + 1))) := by
 unfold ref11_Queue_j35 ref11_Queue_j33
 by_cases h : at_ < first
 ·rw [decide_eq_true h,Bool.true_or,cond_true,if_pos h]
 ·rw [decide_eq_false h,Bool.false_or,if_neg h]
  by_cases hb : best = -1
  ·subst hb
   rw [show ((-1 : Int) != -1) = false from rfl,Bool.false_and,cond_false,good_ok hN hc hB hr hn he h0 (by omega),Option.bind_some]
   simp only [exK]
   rw [show ((-1 : Int) == -1) = true from rfl,Bool.true_or,Bool.and_true]
   cases okAt c now e.Weight.Hi at_ <;> rfl
  ·rw [bne_iff_ne.2 hb,Bool.true_and,show (best == -1) = false by rw [beq_eq_false_iff_ne]; exact hb,Bool.false_or]
   by_cases hlt : at_ < best
   ·rw [show decide (best ≤ at_) = false by rw [decide_eq_false_iff_not]; omega,cond_false,good_ok hN hc hB hr hn he h0 (by omega),Option.bind_some,decide_eq_true hlt,Bool.and_true]
    simp only [exK]
    cases okAt c now e.Weight.Hi at_ <;> rfl
   ·rw [show decide (best ≤ at_) = true by rw [decide_eq_true_eq]; omega,cond_true,decide_eq_false hlt,Bool.and_false,cond_false]
theorem best_ok {N : Nat} (hN : 41 ≤ N) {c : crew_Cable} (hc : CarOk c) {now : List crew_Ride} {first : Int} (hf : 0 ≤ first) (hB : first ≤ 5000000) (hr : ∀ r ∈ now,RB first r) (hn : now.length ≤ 30) {e : crew_Ride} (he : RB 100000 e) :
  ∃ b,loopO (fun s28 => ref11_Queue_b28 N (rc c) (now.map rr) (rr e) first s28.1 s28.2) N ((-1),(-1)) = some (.go (b,(now.length : Int))) ∧ IsMin (okAt c now e.Weight.Hi) (cands now first) b := by
 have hlen : (now.map rr).length = now.length := by simp
 have hfirst : ref11_Queue_b28 N (rc c) (now.map rr) (rr e) first (-1) (-1) = ref11_Queue_j35 N (rc c) (now.map rr) (rr e) first (-1) (-1) first := by
  unfold ref11_Queue_b28
  rw [hlen,show decide ((-1 : Int) < ((now.length : Nat) : Int)) = true by rw [decide_eq_true_eq]; omega]
  rfl
 obtain ⟨M,hM⟩ : ∃ M,N = M + 1 := ⟨N - 1,by omega⟩
 obtain ⟨s,hs,h1,h2⟩ := loopInv (ρ := Step ((List Int) × Int × (List ref11_Ride)) ((List Int) × Int)) (fun s28 => ref11_Queue_b28 N (rc c) (now.map rr) (rr e) first s28.1 s28.2) (fun i s => s.2 = (i : Int) ∧ IsMin (okAt c now e.Weight.Hi) (cands (now.take i) first) s.1) now.length (fun i s hi hI => by
  obtain ⟨b,x⟩ := s
  obtain ⟨rfl,g1⟩ := hI
  have hri := hr now[i] (List.getElem_mem _)
  obtain ⟨f0,f1,l0,l1,w0,w1,w2⟩ := hri
  have hg : getI (now.map rr) (i : Int) = some (rr now[i]) := getI_rr hi
  have hw : W ((rr now[i]).From + (rr now[i]).Long) = now[i].From + now[i].Long := W_id (by show _ ≤ now[i].From + now[i].Long; omega) (by show now[i].From + now[i].Long ≤ _; omega)
  refine ⟨(if now[i].From + now[i].Long < first then b else cond (okAt c now e.Weight.Hi (now[i].From + now[i].Long) && (b == -1 || decide (now[i].From + now[i].Long < b))) (now[i].From + now[i].Long) b,W ((i : Int) + 1)),?_,W_succ (by omega),?_⟩
  ·show ref11_Queue_b28 N (rc c) (now.map rr) (rr e) first b (i : Int) = _
   unfold ref11_Queue_b28
   rw [hlen,lt_dec hi,cond_true,show decide ((0 : Int) ≤ (i : Int)) = true by rw [decide_eq_true_eq]; omega,cond_true,hg,Option.bind_some,Option.bind_some,hw,j35_ok (by omega) hc (by omega) hr hn he ⟨by omega,by omega⟩]
  ·dsimp only
   by_cases hlt : now[i].From + now[i].Long < first
   ·rw [if_pos hlt]
    refine g1.congr (fun y => ?_) fun _ _ => rfl
    rw [mem_cands,mem_cands]
    constructor
    ·rintro (h | ⟨⟨r,k1,k2⟩,k3⟩)
     ·exact Or.inl h
     ·exact Or.inr ⟨⟨r,by rw [List.take_succ_eq_append_getElem hi]; exact List.mem_append_left _ k1,k2⟩,k3⟩
    ·rintro (h | ⟨⟨r,k1,k2⟩,k3⟩)
     ·exact Or.inl h
     ·rw [List.take_succ_eq_append_getElem hi] at k1
      rcases List.mem_append.1 k1 with k1 | k1
      ·exact Or.inr ⟨⟨r,k1,k2⟩,k3⟩
      ·rw [List.mem_singleton.1 k1] at k2; omega
   ·rw [if_neg hlt]
    refine min_step g1 (cands_pos hf) (by omega) fun y => ?_
    rw [mem_cands,mem_cands]
    constructor
    ·rintro (h | ⟨⟨r,k1,k2⟩,k3⟩)
     ·exact Or.inl (Or.inl h)
     ·rw [List.take_succ_eq_append_getElem hi] at k1
      rcases List.mem_append.1 k1 with k1 | k1
      ·exact Or.inl (Or.inr ⟨⟨r,k1,k2⟩,k3⟩)
      ·rw [List.mem_singleton.1 k1] at k2; exact Or.inr k2
    ·rintro ((h | ⟨⟨r,k1,k2⟩,k3⟩) | h)
     ·exact Or.inl h
     ·exact Or.inr ⟨⟨r,by rw [List.take_succ_eq_append_getElem hi]; exact List.mem_append_left _ k1,k2⟩,k3⟩
     ·exact Or.inr ⟨⟨now[i],by rw [List.take_succ_eq_append_getElem hi]; exact List.mem_append_right _ (List.mem_singleton.2 rfl),h⟩,by omega⟩) (fun s hI => by
  show ref11_Queue_b28 N (rc c) (now.map rr) (rr e) first s.1 s.2 = _
  unfold ref11_Queue_b28
  rw [hI.1,hlen,ge_dec,cond_false,← hI.1]) now.length 0 (cond (okAt c now e.Weight.Hi first && ((-1 : Int) == -1 || decide (first < -1))) first (-1),0) M (by omega) (by omega) ⟨rfl,min_step (min_nil _) (fun y hy => (List.not_mem_nil hy).elim) hf (fun y => by rw [mem_cands]; simp)⟩
 rw [List.take_length] at h2
 refine ⟨s.1,?_,h2⟩
 rw [hM] at hs hfirst ⊢
 unfold loopO
 dsimp only
 rw [hfirst,j35_ok (by omega) hc (by omega) hr hn he ⟨by omega,by omega⟩,if_neg (by omega)]
 dsimp only
 rw [show W ((-1 : Int) + 1) = 0 from rfl,hs,← h1]
theorem refqueue_ok {N : Nat} (hN : 41 ≤ N) {c : crew_Cable} (h : cabCode c = 0) : ref11_Queue N (rc c) = some (if heavyB c = true then ([],6) else ((qst c c.Rides.length).1,0)) := by
 obtain ⟨hn,hc,hr⟩ := cab_zero h
 have hlen : (rc c).Rides.length = c.Rides.length := by simp [rc]
 unfold ref11_Queue
 rw [refcheck_ok (by omega) (by omega),h,Option.bind_some]
 simp only [bne_self_eq_false,cond_false]
 rw [show (rc c).Car = c.Car from rfl,refbeyond_ok hc hc.c0 (by have := hc.c1; omega)]
 have hs := scanS (ρ := List Int × Int) (fun i : Nat => (i : Int)) (fun j => cond (!bey c (c.Car + (c.Rides.getD j ⟨0,0,⟨0,0⟩⟩).Weight.Hi)) none (some ([],6))) c.Rides.length (fun s11 => ref11_Queue_b11 N (rc c) s11) (fun i hi => by
  show ref11_Queue_b11 N (rc c) (i : Int) = _
  unfold ref11_Queue_b11
  have hg : getI (rc c).Rides (i : Int) = some (rr c.Rides[i]) := getI_rr hi
  have hri := hr c.Rides[i] (List.getElem_mem _)
  have b0 := hri.w0
  have b1 := hri.w1
  have b2 := hri.w2
  have c0 := hc.c0
  have c1 := hc.c1
  have hw : W ((rc c).Car + (rr c.Rides[i]).Weight.Hi) = c.Car + c.Rides[i].Weight.Hi := W_id (by show _ ≤ c.Car + c.Rides[i].Weight.Hi; omega) (by show c.Car + c.Rides[i].Weight.Hi ≤ _; omega)
  rw [hlen,lt_dec hi,cond_true,hg,Option.bind_some,hw,refbeyond_ok hc (by omega) (by omega),W_succ (by omega),get_getD (d := (⟨0,0,⟨0,0⟩⟩ : crew_Ride)) hi]
  cases bey c (c.Car + (c.Rides.getD i ⟨0,0,⟨0,0⟩⟩).Weight.Hi) <;> rfl) (by
  show ref11_Queue_b11 N (rc c) _ = _
  unfold ref11_Queue_b11
  rw [hlen,ge_dec,cond_false]) c.Rides.length 0 N (by omega) (by omega)
 rw [show ((0 : Nat) : Int) = 0 from rfl,all_first (p := fun r : crew_Ride => !bey c (c.Car + r.Weight.Hi)) (d := (⟨0,0,⟨0,0⟩⟩ : crew_Ride)) c.Rides.length 0 (by omega),List.drop_zero] at hs
 have hany : (c.Rides.all fun r : crew_Ride => !bey c (c.Car + r.Weight.Hi)) = !(c.Rides.any fun r => bey c (c.Car + r.Weight.Hi)) := by rw [List.not_any_eq_all_not]
 rw [hany] at hs
 cases hb : bey c c.Car with
 | true =>
  have : heavyB c = true := by unfold heavyB; rw [hb]; rfl
  rw [this]
  rfl
 | false =>
  rw [cond_false,hs]
  cases ha : (c.Rides.any fun r => bey c (c.Car + r.Weight.Hi)) with
  | true =>
   have : heavyB c = true := by unfold heavyB; rw [hb,ha]; rfl
   rw [this]
   rfl
  | false =>
   have hh : heavyB c = false := by unfold heavyB; rw [hb,ha]; rfl
   have hL := light_of h hh
   rw [hh]
   simp only [Bool.not_false,cond_true,Option.bind_some,exK,Bool.false_eq_true,if_false]
   have hrun := runS (ρ := List Int × Int) (fun i : Nat => ((qst c i).1,(i : Int),(qst c i).2.2.map rr)) c.Rides.length (fun s17 => ref11_Queue_b17 N (rc c) s17.1 s17.2.1 s17.2.2) (fun i hi => by
    have hq := qinv hL i (by omega)
    obtain ⟨-,g2,g3,g4,g5,g6⟩ := qwait (N := N) (by omega) hL hi hq
    have hri := hr c.Rides[i] (List.getElem_mem _)
    obtain ⟨f0,f1,l0,l1,w0,w1,w2⟩ := id hri
    have hq0 := hq.q.a0
    have hqb := hq.b
    have hql1 := hq.l1
    have hql2 := hq.l2
    have hg : getI (rc c).Rides (i : Int) = some (rr c.Rides[i]) := getI_rr hi
    show ref11_Queue_b17 N (rc c) (qst c i).1 (i : Int) ((qst c i).2.2.map rr) = _
    have hr2 : ∀ r ∈ (qst c i).2.2,RB (max (qst c i).2.1 c.Rides[i].From) r := fun r hr' => by
     have := hq.q.r r hr'
     exact ⟨this.f0,by have := this.f1; omega,this.l0,this.l1,this.w0,this.w1,this.w2⟩
    obtain ⟨b,b1,b2⟩ := best_ok (N := N) hN hc (first := max (qst c i).2.1 c.Rides[i].From) (by omega) (by omega) hr2 (by omega) hri
    have hbe : b = (qst c (i + 1)).2.1 := by
     have e : (qst c (i + 1)).2.1 = minOf (okAt c (qst c i).2.2 c.Rides[i].Weight.Hi) (cands (qst c i).2.2 (max (qst c i).2.1 c.Rides[i].From)) := by rw [qst_succ hi]; rfl
     rw [e]
     exact b2.uniq (minOf_is (cands_pos (by omega)))
    have hj : ref11_Queue_j24 N (rc c) (qst c i).1 (i : Int) ((qst c i).2.2.map rr) (rr c.Rides[i]) (max (qst c i).2.1 c.Rides[i].From) = some (.cont ((qst c (i + 1)).1,((i + 1 : Nat) : Int),(qst c (i + 1)).2.2.map rr)) := by
     unfold ref11_Queue_j24
     rw [b1,Option.bind_some]
     simp only [exK]
     rw [room_ok (by rw [List.length_map]; omega),Option.bind_some,room_ok (by rw [List.length_append,List.length_map,List.length_cons,List.length_nil]; omega),Option.bind_some,room_ok (by rw [List.length_append,List.length_cons,List.length_nil]; omega),Option.bind_some,W_succ (by omega),hbe,← g2,g5,List.map_append]
     rfl
    unfold ref11_Queue_b17
    rw [hlen,lt_dec hi,cond_true,hg,Option.bind_some]
    by_cases h0 : i = 0
    ·have e1 : max (qst c i).2.1 c.Rides[i].From = c.Rides[i].From := by
      have : (qst c i).2.1 = 0 := by subst h0; rfl
      omega
     rw [show decide ((0 : Int) < (i : Int)) = false by rw [decide_eq_false_iff_not]; omega,cond_false,Option.bind_some,cond_false]
     rw [e1] at hj
     exact hj
    ·have hW : W ((i : Int) - 1) = ((i - 1 : Nat) : Int) := by rw [W_id (by omega) (by omega)]; omega
     have hgo : getI (qst c i).1 ((i - 1 : Nat) : Int) = some (qst c i).2.1 := by rw [getI_getD (by omega),hq.la (by omega)]
     rw [show decide ((0 : Int) < (i : Int)) = true by rw [decide_eq_true_eq]; omega,cond_true,hW,hgo,Option.bind_some,Option.bind_some]
     by_cases hlt : c.Rides[i].From < (qst c i).2.1
     ·rw [show decide ((rr c.Rides[i]).From < (qst c i).2.1) = true from decide_eq_true hlt,cond_true,Option.bind_some]
      rw [show max (qst c i).2.1 c.Rides[i].From = (qst c i).2.1 by omega] at hj
      exact hj
     ·rw [show decide ((rr c.Rides[i]).From < (qst c i).2.1) = false from decide_eq_false hlt,cond_false]
      rw [show max (qst c i).2.1 c.Rides[i].From = c.Rides[i].From by omega] at hj
      exact hj) (by
    show ref11_Queue_b17 N (rc c) _ _ _ = _
    unfold ref11_Queue_b17
    rw [hlen,ge_dec,cond_false]) (N := N) (by omega)
   have e0 : (([] : List Int),(0 : Int),([] : List ref11_Ride)) = ((qst c 0).1,((0 : Nat) : Int),(qst c 0).2.2.map rr) := rfl
   rw [e0,hrun]
   rfl
theorem cables_code {N : Nat} (hN : 101 ≤ N) {c : crew_Cable} (hl : c.Rides.length ≤ 35) (h : cabCode c ≠ 0) (minute : Int) : crew_Load N c minute = some (⟨0,0⟩,cabCode c) ∧ ref11_Load N (rc c) minute = some (⟨0,0⟩,cabCode c) ∧ crew_Beyond N c = some (0,0,cabCode c) ∧ ref11_Beyond N (rc c) = some (0,0,cabCode c) ∧ crew_Queue N c = some ([],cabCode c) ∧ ref11_Queue N (rc c) = some ([],cabCode c) := by
 have h2 : (cabCode c != 0) = true := by simpa using h
 have a := check_ok (N := N) (c := c) (by omega) (by omega)
 have b := refcheck_ok (N := N) (c := c) (by omega) (by omega)
 refine ⟨?_,?_,?_,?_,?_,?_⟩
 ·unfold crew_Load; rw [a,Option.bind_some,h2]; rfl
 ·unfold ref11_Load; rw [b,Option.bind_some,h2]; rfl
 ·unfold crew_Beyond; rw [a,Option.bind_some,h2]; rfl
 ·unfold ref11_Beyond; rw [b,Option.bind_some,h2]; rfl
 ·unfold crew_Queue; rw [a,Option.bind_some,h2]; rfl
 ·unfold ref11_Queue; rw [b,Option.bind_some,h2]; rfl
theorem load_same {N : Nat} (hN : 101 ≤ N) {c : crew_Cable} (hl : c.Rides.length ≤ 35) (h : cabCode c = 0) (minute : Int) : ∃ s e,crew_Load N c minute = some (s,e) ∧ ref11_Load N (rc c) minute = some (s,e) := by
 obtain ⟨hn,hc,hr⟩ := cab_zero h
 by_cases hm : 0 ≤ minute ∧ minute ≤ 200000
 ·refine ⟨_,_,cload_ok (by omega) h hm.1 hm.2,?_⟩
  unfold ref11_Load
  have ho : ref11_outside minute 0 200000 = false := by rw [out_inB,inB_iff.2 hm]; rfl
  rw [refcheck_ok (by omega) (by omega),h,Option.bind_some,ho]
  simp only [bne_self_eq_false,cond_false]
  rw [refload_ok (by omega) (B := 100000) (by omega) hr (by omega) ⟨hc.c0,hc.c1⟩,Option.bind_some]
 ·have hi : inB minute 0 200000 = false := by rw [Bool.eq_false_iff]; exact fun e => hm (inB_iff.1 e)
  refine ⟨⟨0,0⟩,4,?_,?_⟩
  ·unfold crew_Load
   rw [check_ok (by omega) (by omega),h,Option.bind_some,show crew_in minute 0 200000 = false from hi]
   rfl
  ·unfold ref11_Load
   rw [refcheck_ok (by omega) (by omega),h,Option.bind_some,out_inB,hi]
   rfl
theorem qst_len {c : crew_Cable} (h : cabCode c = 0) : (if heavyB c = true then (([] : List Int),(6 : Int)) else ((qst c c.Rides.length).1,0)).1.length ≤ 30 := by
 cases hh : heavyB c with
 | true => simp
 | false =>
  have := (qinv (light_of h hh) c.Rides.length (Nat.le_refl _)).l1
  have := (cab_zero h).1
  simp only [Bool.false_eq_true,if_false]
  omega
theorem same_int {N : Nat} {l : List Int} (hl : l.length ≤ 1000) (hN : l.length < N) : kit_Same_int N l l = some true := by
 unfold kit_Same_int
 rw [bne_self_eq_false,cond_false,sameLoop l (by omega) (fun s7 => kit_Same_int_b7 N l l s7) (fun i hi => by
  unfold kit_Same_int_b7
  simp only [lt_dec hi,cond_true,getI_nat hi,Option.bind_some,bne_self_eq_false,cond_false]
  rw [W_succ (by omega)]) (by
  unfold kit_Same_int_b7
  rw [ge_dec]; rfl) hN]
 rfl
theorem same_ride {N : Nat} {l : List crew_Ride} (hl : l.length ≤ 1000) (hN : l.length < N) : kit_Same_crew_Ride N l l = some true := by
 unfold kit_Same_crew_Ride
 rw [bne_self_eq_false,cond_false,sameLoop l (by omega) (fun s7 => kit_Same_crew_Ride_b7 N l l s7) (fun i hi => by
  unfold kit_Same_crew_Ride_b7
  simp only [lt_dec hi,cond_true,getI_nat hi,Option.bind_some,beq_self_eq_true,Bool.and_self,Bool.not_true,cond_false]
  rw [W_succ (by omega)]) (by
  unfold kit_Same_crew_Ride_b7
  rw [ge_dec]; rfl) hN]
 rfl
theorem crewcables_law (c : crew_Cable) (minute : Int) : law11_CrewCables 700 c minute = some true := by
 unfold law11_CrewCables
 have haw : (Option.bind (law11_awake 700) fun r => some r) = some true := by rw [awake_true]; rfl
 by_cases h : c.Rides.length ≤ 35
 ·have k1 : law11_CopyCable 700 c = some c := by
   unfold law11_CopyCable kit_Copy_crew_Ride
   rw [room_ok (by omega)]
   rfl
  rw [show decide (35 < ((c.Rides.length : Nat) : Int)) = false by rw [decide_eq_false_iff_not]; omega,cond_false,k1,Option.bind_some,check_ok (by omega) (by omega),Option.bind_some,cable_ok (by omega) (by omega),Option.bind_some,refcheck_ok (by omega) (by omega),Option.bind_some,bne_self_eq_false,cond_false]
  by_cases h0 : cabCode c = 0
  ·obtain ⟨s,e,a1,a2⟩ := load_same (N := 700) (by omega) h h0 minute
   obtain ⟨x,y,b1,b2,b3⟩ := beyond_zero (N := 700) (by omega) h0
   obtain ⟨x',y',c1,c2,c3⟩ := refbeyondc_ok (N := 700) (by omega) h0
   obtain rfl := b2.uniq c2
   obtain rfl := b3.uniq c3
   have hl := qst_len h0
   simp only [a1,a2,b1,c1,queue_ok (N := 700) (by omega) h0,refqueue_ok (N := 700) (by omega) h0,Option.bind_some,beq_self_eq_true,bne_self_eq_false,Bool.and_self,Bool.not_true,Bool.or_self,cond_false,cond_true,same_int (N := 700) (Nat.le_trans hl (by omega)) (Nat.lt_of_le_of_lt hl (by omega)),same_ride (N := 700) (show c.Rides.length ≤ 1000 by omega) (by omega),awake_true]
  ·obtain ⟨a1,a2,b1,b2,c1,c2⟩ := cables_code (N := 700) (by omega) h h0 minute
   simp only [a1,a2,b1,b2,c1,c2,Option.bind_some,beq_self_eq_true,bne_self_eq_false,Bool.and_self,Bool.not_true,Bool.or_self,cond_false,cond_true,same_int (N := 700) (l := []) (by simp) (by simp),same_ride (N := 700) (show c.Rides.length ≤ 1000 by omega) (by omega),awake_true]
 ·rw [show decide (35 < ((c.Rides.length : Nat) : Int)) = true by rw [decide_eq_true_eq]; omega,cond_true]
  exact haw
end Go.Nilo
