/-
  What the plain functions compute, in plain arithmetic, part 9. Conditions: what each theorem names.
-/
import Derived.Test.YtpfmkhhhamdpeaaGreatCrL8
set_option linter.unusedSimpArgs false
set_option linter.unusedVariables false
namespace Go.Nilo
theorem quiet_beyond {N : Nat} (hN : 40 ≤ N) {c : crew_Cable} (h : Light c) (hs : Short c) (hh : bey c c.Car = false) : crew_Beyond N ⟨c.Car,c.Wide,c.Sag,c.Most,(qst c c.Rides.length).2.2⟩ = some (-1,-1,0) := by
 obtain ⟨a,b,h1,h2,h3⟩ := beyond_zero (c := Qc c) hN (Qcode h hs)
 have hq := qinv h c.Rides.length (Nat.le_refl _)
 have ql := qlight h hh _ (Nat.le_refl _)
 have ea : a = -1 := by
  rcases h2 with ⟨h4,-⟩ | ⟨-,h5,-⟩
  ·exact h4
  ·have : bey c (c.Car + ldF api_Span.Hi (qst c c.Rides.length).2.2 a) = true := h5
   rw [ql a] at this; cases this
 have eb : b = -1 := by
  rcases h3 with ⟨h4,-⟩ | ⟨-,h5,-⟩
  ·exact h4
  ·have h6 : bey c (c.Car + ldF api_Span.Lo (qst c c.Rides.length).2.2 b) = true := h5
   have := bey_mono h.ok (y := c.Car + ldF api_Span.Hi (qst c c.Rides.length).2.2 b) (by have := lo_le_hi (n := b) hq.q.r; omega) h6
   rw [ql b] at this; cases this
 rw [ea,eb] at h1
 exact h1
theorem again_queue {N : Nat} (hN : 40 ≤ N) {c : crew_Cable} (h : Light c) (hs : Short c) (hh : bey c c.Car = false) : crew_Queue N ⟨c.Car,c.Wide,c.Sag,c.Most,(qst c c.Rides.length).2.2⟩ = some ((qst c c.Rides.length).1,0) := by
 have h1 := queue_ok (c := Qc c) hN (Qcode h hs)
 rw [if_neg (by rw [(heavy_eq (Qlight h hs)).2 hh]; exact Bool.false_ne_true),Qlen h,Qsame h hs _ (Nat.le_refl _)] at h1
 exact h1
theorem early_beyond {N : Nat} (hN : 40 ≤ N) {c : crew_Cable} (h : Light c) (hs : Short c) {t : Nat} (ht : t < c.Rides.length) (hlt : max (qst c t).2.1 c.Rides[t].From < (qst c (t + 1)).2.1) :
  ∃ a b,crew_Beyond N ⟨c.Car,c.Wide,c.Sag,c.Most,(qst c t).2.2 ++ [(⟨(qst c (t + 1)).2.1 - 1,c.Rides[t].Long,c.Rides[t].Weight⟩ : crew_Ride)]⟩ = some (a,b,0) ∧ a ≠ -1 := by
 have hn := h.len
 have hq := qinv h t (by omega)
 have hq1 := qinv h (t + 1) ht
 have hri := h.r c.Rides[t] (List.getElem_mem _)
 have hb0 := (qshort h hs t (by omega)).1
 have hb1 := (qshort h hs (t + 1) ht).1
 have ha0 := hq.q.a0
 have hf0 := hri.f0
 push_cast at hb1
 have hr : ∀ r ∈ (qst c t).2.2 ++ [(⟨(qst c (t + 1)).2.1 - 1,c.Rides[t].Long,c.Rides[t].Weight⟩ : crew_Ride)],RB 100000 r := fun r hr => by
  rcases List.mem_append.1 hr with hr | hr
  ·have := hq.q.r r hr
   exact ⟨this.f0,by have := this.f1; omega,this.l0,this.l1,this.w0,this.w1,this.w2⟩
  ·rw [List.mem_singleton.1 hr]
   exact ⟨by dsimp only; omega,by dsimp only; omega,hri.l0,hri.l1,hri.w0,hri.w1,hri.w2⟩
 have hcode : cabCode ⟨c.Car,c.Wide,c.Sag,c.Most,(qst c t).2.2 ++ [(⟨(qst c (t + 1)).2.1 - 1,c.Rides[t].Long,c.Rides[t].Weight⟩ : crew_Ride)]⟩ = 0 := cab_mk (by dsimp only; rw [List.length_append,hq.l2,List.length_cons,List.length_nil]; omega) ⟨h.ok.c0,h.ok.c1,h.ok.w0,h.ok.w1,h.ok.s0,h.ok.s1,h.ok.m0,h.ok.m1⟩ hr
 obtain ⟨a,b,h1,h2,-⟩ := beyond_zero (N := N) hN hcode
 refine ⟨a,b,h1,?_⟩
 rcases h2 with ⟨-,h3⟩ | ⟨h3,-,-⟩
 ·have h4 := h3 ((qst c (t + 1)).2.1 - 1) (List.mem_cons_of_mem _ (List.mem_map.2 ⟨_,List.mem_append_right _ (List.mem_singleton.2 rfl),rfl⟩))
  have h5 : bey c (c.Car + ldF api_Span.Hi ((qst c t).2.2 ++ [(⟨(qst c (t + 1)).2.1 - 1,c.Rides[t].Long,c.Rides[t].Weight⟩ : crew_Ride)]) ((qst c (t + 1)).2.1 - 1)) = false := h4
  rw [early_heavy h ht hlt] at h5
  cases h5
 ·rcases List.mem_cons.1 h3 with rfl | h3
  ·omega
  ·obtain ⟨r,hr',rfl⟩ := List.mem_map.1 h3
   have := (hr r hr').f0
   omega
theorem crewcarried_law {numbers weights : List Int} {which : Int} (hb : Bytes numbers) (hw : Bytes weights) (hwh : 0 ≤ which ∧ which ≤ 255) : law11_CrewCarried 700 numbers weights which = some true := by
 unfold law11_CrewCarried
 have h0 : ∀ l,kit_New 700 l = some (0,0) := fun _ => rfl
 rw [h0,Option.bind_some]
 obtain ⟨c,u,m,h1,h2,h3⟩ := hung_spec (N := 700) (by omega) hb
 have haw : (Option.bind (law11_awake 700) fun r => some r) = some true := by rw [awake_true]; rfl
 rw [h1,Option.bind_some,h0,Option.bind_some,queue_ok (by omega) h2,Option.bind_some]
 cases hh : heavyB c with
 | true =>
  have hloop := carried_heavy (N := 700) (by omega) h2 u m
  rw [hh] at hloop
  simp only [if_true,show ((6 : Int) != 0) = true from rfl,cond_true,hloop,Option.bind_some,exK,show ((6 : Int) == 6) = true from rfl,Bool.and_self,awake_true]
 | false =>
  have hL := light_of h2 hh
  have hcar := (heavy_eq hL).1 hh
  have hn := hL.len
  have hlen : (qst c c.Rides.length).1.length = c.Rides.length := (qinv hL c.Rides.length (Nat.le_refl _)).l1
  have hlen2 : (qst c c.Rides.length).2.2.length = c.Rides.length := (qinv hL c.Rides.length (Nat.le_refl _)).l2
  obtain ⟨s,hs⟩ := carried_truth (N := 700) (by omega) hw hL h3 hcar u m
  have k1 : law11_CopyCable 700 c = some c := by
   unfold law11_CopyCable kit_Copy_crew_Ride
   rw [room_ok (by omega)]
   rfl
  have hin := carried_in (N := 700) (by omega) hL h3 u m
  simp only [Bool.false_eq_true,if_false,bne_self_eq_false,cond_false,hlen,k1,Option.bind_some]
  rw [hin,Option.bind_some]
  simp only [exK]
  rw [quiet_beyond (by omega) hL h3 hcar,Option.bind_some,again_queue (by omega) hL h3 hcar,Option.bind_some]
  simp only [bne_self_eq_false,Bool.or_self,cond_false]
  rw [same_int (by omega) (by omega),Option.bind_some]
  simp only [Bool.not_true,Option.bind_some,cond_false]
  rw [hs,Option.bind_some]
  simp only [exK]
  by_cases hz : c.Rides.length = 0
  ·rw [show (((c.Rides.length : Nat) : Int) == 0) = true by rw [beq_iff_eq]; omega,cond_true]
   exact haw
  ·rw [show (((c.Rides.length : Nat) : Int) == 0) = false by rw [beq_eq_false_iff_ne]; omega,cond_false]
   obtain ⟨q,rfl⟩ := Int.eq_ofNat_of_zero_le hwh.1
   have ht : q % c.Rides.length < c.Rides.length := Nat.mod_lt _ (by omega)
   have hmod : (W (q : Int)).tmod ((c.Rides.length : Nat) : Int) = ((q % c.Rides.length : Nat) : Int) := by
    rw [W_id (by omega) (by omega),tmod_mod (by omega)]
    exact (Int.natCast_emod q c.Rides.length).symm
   rw [hmod]
   generalize q % c.Rides.length = t at ht
   have hq := qinv hL t (by omega)
   obtain ⟨-,-,g3,-,g5,g6⟩ := qwait (N := 40) (by omega) hL ht hq
   have hgl : ∀ i,i < c.Rides.length → getI (qst c c.Rides.length).1 (i : Int) = some (qst c (i + 1)).2.1 := fun i hi => by
    rw [getI_nat (by rw [hlen]; exact hi),Qlget hL hi]
   have hnz : nz ((c.Rides.length : Nat) : Int) = some () := by unfold nz; rw [if_neg (by omega)]
   rw [hnz,Option.bind_some,hgl t ht,Option.bind_some,getI_nat ht,Option.bind_some]
   have hprev : (Option.bind (cond (decide ((0 : Int) < (t : Int))) (Option.bind (some (qst c (t + 1)).2.1) fun e_4 => Option.bind (getI (qst c c.Rides.length).1 (W ((t : Int) - 1))) fun e_5 => some (e_4 == e_5)) (some false)) fun t_3 => some t_3) = some (decide (0 < t) && ((qst c (t + 1)).2.1 == (qst c t).2.1)) := by
    by_cases h0 : t = 0
    ·subst h0; rfl
    ·have hW : W ((t : Int) - 1) = ((t - 1 : Nat) : Int) := by rw [W_id (by omega) (by omega)]; omega
     rw [show decide ((0 : Int) < (t : Int)) = true by rw [decide_eq_true_eq]; omega,cond_true,Option.bind_some,hW,hgl (t - 1) (by omega),Option.bind_some,show t - 1 + 1 = t by omega,show decide (0 < t) = true by rw [decide_eq_true_eq]; omega,Bool.true_and]
     rfl
   rw [hprev]
   have hcond : (cond ((qst c (t + 1)).2.1 == c.Rides[t].From) (some true) (some (decide (0 < t) && ((qst c (t + 1)).2.1 == (qst c t).2.1)))) = some ((qst c (t + 1)).2.1 == c.Rides[t].From || (decide (0 < t) && ((qst c (t + 1)).2.1 == (qst c t).2.1))) := by
    cases (qst c (t + 1)).2.1 == c.Rides[t].From <;> rfl
   rw [hcond,Option.bind_some]
   cases hc : ((qst c (t + 1)).2.1 == c.Rides[t].From || (decide (0 < t) && ((qst c (t + 1)).2.1 == (qst c t).2.1))) with
   | true => exact haw
   | false =>
    rw [Bool.or_eq_false_iff,beq_eq_false_iff_ne,Bool.and_eq_false_iff,decide_eq_false_iff_not,beq_eq_false_iff_ne] at hc
    have hf0 := (hL.r c.Rides[t] (List.getElem_mem _)).f0
    have hlt : max (qst c t).2.1 c.Rides[t].From < (qst c (t + 1)).2.1 := by
     rcases hc with ⟨c1,c2 | c2⟩
     ·have : t = 0 := by omega
      have : (qst c t).2.1 = 0 := by subst this; rfl
      omega
     ·omega
    obtain ⟨a,b,e1,e2⟩ := early_beyond (N := 700) (by omega) hL h3 ht hlt
    have hb1 := (qshort hL h3 (t + 1) ht).1
    have ha0 := hq.q.a0
    have k2 : law11_CopyCable 700 ⟨c.Car,c.Wide,c.Sag,c.Most,(qst c c.Rides.length).2.2⟩ = some ⟨c.Car,c.Wide,c.Sag,c.Most,(qst c c.Rides.length).2.2⟩ := by
     unfold law11_CopyCable kit_Copy_crew_Ride
     rw [room_ok (by dsimp only; rw [hlen2]; omega)]
     rfl
    have hsub : subO (qst c c.Rides.length).2.2 0 (W ((t : Int) + 1)) = some (qst c (t + 1)).2.2 := by
     rw [W_succ (by omega)]
     unfold subO
     rw [if_pos ⟨by omega,by omega,by rw [hlen2]; omega⟩]
     simp only [Int.toNat_zero,List.drop_zero,Int.toNat_natCast,Nat.sub_zero]
     rw [Qtake hL c.Rides.length (Nat.le_refl _) (t + 1) ht]
    have hge : getI (qst c (t + 1)).2.2 (t : Int) = some ⟨(qst c (t + 1)).2.1,c.Rides[t].Long,c.Rides[t].Weight⟩ := by
     rw [g5,getI_nat (by rw [List.length_append,hq.l2,List.length_cons,List.length_nil]; omega)]
     simp [hq.l2]
    have hset : (qst c (t + 1)).2.2.set ((t : Int)).toNat (⟨W ((qst c (t + 1)).2.1 - 1),c.Rides[t].Long,c.Rides[t].Weight⟩ : crew_Ride) = (qst c t).2.2 ++ [(⟨(qst c (t + 1)).2.1 - 1,c.Rides[t].Long,c.Rides[t].Weight⟩ : crew_Ride)] := by
     push_cast at hb1
     rw [Int.toNat_natCast,W_id (by omega) (by omega),g5]
     have := set_mid (qst c t).2.2 [] ⟨(qst c (t + 1)).2.1,c.Rides[t].Long,c.Rides[t].Weight⟩ ⟨(qst c (t + 1)).2.1 - 1,c.Rides[t].Long,c.Rides[t].Weight⟩
     rw [hq.l2] at this
     exact this
    rw [cond_false,k2,Option.bind_some]
    dsimp only
    rw [hsub,Option.bind_some,hge,Option.bind_some,Option.bind_some]
    dsimp only
    rw [hset,e1,Option.bind_some]
    dsimp only
    rw [bne_iff_ne.2 e2,show ((0 : Int) == 0) = true from rfl,Bool.and_self,cond_true,awake_true]
    rfl
end Go.Nilo
