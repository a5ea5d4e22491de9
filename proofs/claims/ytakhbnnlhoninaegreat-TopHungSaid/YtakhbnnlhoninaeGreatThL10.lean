/-
  What the plain functions compute, in plain arithmetic, part 10. Conditions: what each theorem names.
-/
import Derived.Test.YtakhbnnlhoninaeGreatThL9
set_option linter.unusedSimpArgs false
set_option linter.unusedVariables false
namespace Go.Nilo
def minOf (p : Int → Bool) : List Int → Int
 | [] => -1
 | x::l => if p x = true then (if minOf p l = -1 ∨ x < minOf p l then x else minOf p l) else minOf p l
theorem minOf_is {p : Int → Bool} : ∀ {l : List Int},(∀ x ∈ l,0 ≤ x) → IsMin p l (minOf p l)
 | [],_ => Or.inl ⟨rfl,fun x hx => by cases hx⟩
 | x::l,h => by
  have hx := h x List.mem_cons_self
  have hl : ∀ y ∈ l,0 ≤ y := fun y hy => h y (List.mem_cons_of_mem _ hy)
  have ih := minOf_is (p := p) hl
  unfold minOf
  by_cases hp : p x = true
  ·rw [if_pos hp]
   rcases ih with ⟨h1,h2⟩ | ⟨h1,h2,h3⟩
   ·rw [if_pos (Or.inl h1)]
    refine Or.inr ⟨List.mem_cons_self,hp,fun y hy hq => ?_⟩
    rcases List.mem_cons.1 hy with rfl | hy
    ·exact Int.le_refl _
    ·rw [h2 y hy] at hq; cases hq
   ·have hm := hl _ h1
    by_cases hlt : x < minOf p l
    ·rw [if_pos (Or.inr hlt)]
     refine Or.inr ⟨List.mem_cons_self,hp,fun y hy hq => ?_⟩
     rcases List.mem_cons.1 hy with rfl | hy
     ·exact Int.le_refl _
     ·have := h3 y hy hq; omega
    ·rw [if_neg (by omega)]
     refine Or.inr ⟨List.mem_cons_of_mem _ h1,h2,fun y hy hq => ?_⟩
     rcases List.mem_cons.1 hy with rfl | hy
     ·omega
     ·exact h3 y hy hq
  ·rw [if_neg hp]
   have hp' : p x = false := by simpa using hp
   rcases ih with ⟨h1,h2⟩ | ⟨h1,h2,h3⟩
   ·refine Or.inl ⟨h1,fun y hy => ?_⟩
    rcases List.mem_cons.1 hy with rfl | hy
    ·exact hp'
    ·exact h2 y hy
   ·refine Or.inr ⟨List.mem_cons_of_mem _ h1,h2,fun y hy hq => ?_⟩
    rcases List.mem_cons.1 hy with rfl | hy
    ·rw [hp'] at hq; cases hq
    ·exact h3 y hy hq
def okAt (c : crew_Cable) (now : List crew_Ride) (w n : Int) : Bool := !bey c (c.Car + ldF api_Span.Hi now n + w)
def cands (now : List crew_Ride) (first : Int) : List Int := first::((now.map fun r => r.From + r.Long).filter fun e => decide (first ≤ e))
theorem mem_cands {now : List crew_Ride} {first x : Int} : x ∈ cands now first ↔ x = first ∨ ((∃ r ∈ now,x = r.From + r.Long) ∧ first ≤ x) := by
 unfold cands
 rw [List.mem_cons,List.mem_filter,List.mem_map,decide_eq_true_eq]
 constructor
 ·rintro (h | ⟨⟨r,h1,h2⟩,h3⟩)
  ·exact Or.inl h
  ·exact Or.inr ⟨⟨r,h1,h2.symm⟩,h3⟩
 ·rintro (h | ⟨⟨r,h1,h2⟩,h3⟩)
  ·exact Or.inl h
  ·exact Or.inr ⟨⟨r,h1,h2.symm⟩,h3⟩
theorem loop_to {σ ρ : Type} {f : σ → Option (Step σ ρ)} (Inv Post : σ → Prop) (μ : σ → Nat) (h : ∀ s,Inv s → (∃ s',f s = some (.brk s') ∧ Post s') ∨ (∃ s',f s = some (.cont s') ∧ Inv s' ∧ μ s' < μ s)) : ∀ (N : Nat) (s : σ),Inv s → μ s < N → ∃ s',loopO f N s = some (.go s') ∧ Post s'
 | 0,s,_,hN => by omega
 | N + 1,s,hs,hN => by
  unfold loopO
  rcases h s hs with ⟨s',h1,h2⟩ | ⟨s',h1,h2,h3⟩
  ·exact ⟨s',by rw [h1],h2⟩
  ·obtain ⟨s'',h4,h5⟩ := loop_to Inv Post μ h N s' h2 (by omega)
   exact ⟨s'',by rw [h1]; exact h4,h5⟩
theorem cnt_le {α : Type} {p q : α → Bool} : ∀ {l : List α},(∀ x ∈ l,q x = true → p x = true) → (l.filter q).length ≤ (l.filter p).length
 | [],_ => Nat.le_refl _
 | a::l,h => by
  have ih := cnt_le (p := p) (q := q) (l := l) fun x hx => h x (List.mem_cons_of_mem _ hx)
  rw [List.filter_cons,List.filter_cons]
  by_cases hq : q a = true
  ·rw [if_pos hq,if_pos (h a List.mem_cons_self hq),List.length_cons,List.length_cons]; omega
  ·rw [if_neg hq]; split
   ·rw [List.length_cons]; omega
   ·exact ih
theorem cnt_lt {α : Type} {p q : α → Bool} {x : α} : ∀ {l : List α},(∀ x ∈ l,q x = true → p x = true) → x ∈ l → p x = true → q x = false → (l.filter q).length < (l.filter p).length
 | a::l,h,hx,hp,hq => by
  have hl : ∀ x ∈ l,q x = true → p x = true := fun x hx => h x (List.mem_cons_of_mem _ hx)
  rw [List.filter_cons,List.filter_cons]
  rcases List.mem_cons.1 hx with rfl | hx
  ·rw [if_pos hp,if_neg (by rw [hq]; exact Bool.false_ne_true),List.length_cons]
   have := cnt_le (p := p) (q := q) hl
   omega
  ·have ih := cnt_lt (x := x) hl hx hp hq
   by_cases hqa : q a = true
   ·rw [if_pos hqa,if_pos (h a List.mem_cons_self hqa),List.length_cons,List.length_cons]; omega
   ·rw [if_neg hqa]; split
    ·rw [List.length_cons]; omega
    ·exact ih
theorem ld_none {f : api_Span → Int} {n : Int} : ∀ {l : List crew_Ride},(∀ r ∈ l,onR r n = false) → ldF f l n = 0
 | [],_ => rfl
 | r::l,h => by
  rw [ld_cons,h r List.mem_cons_self,ld_none fun x hx => h x (List.mem_cons_of_mem _ hx)]
  rfl
theorem next_ok {N : Nat} {now : List crew_Ride} {B at_ : Int} (hB : B ≤ 10000000) (hr : ∀ r ∈ now,RB B r) (hn : now.length ≤ 30) (h0 : 0 ≤ at_) (h1 : at_ ≤ 20000000) (hN : 40 ≤ N) :
  ∃ nx : Int,loopO (fun s33 => crew_Queue_b33 N now at_ s33.1 s33.2) N ((-1),0) = some (.go (nx,(now.length : Int))) ∧ ((nx = -1 ∧ ∀ r ∈ now,onR r at_ = false) ∨ (∃ r ∈ now,onR r at_ = true ∧ nx = r.From + r.Long ∧ ∀ r' ∈ now,onR r' at_ = true → nx ≤ r'.From + r'.Long)) := by
 obtain ⟨s,hs,hI⟩ := loopInv (ρ := Step (Int × Int × (List crew_Ride)) (Step ((List Int) × Int × Int × (List crew_Ride)) ((List Int) × Int))) (fun s33 => crew_Queue_b33 N now at_ s33.1 s33.2) (fun i s => s.2 = (i : Int) ∧ ((s.1 = -1 ∧ ∀ r ∈ now.take i,onR r at_ = false) ∨ (∃ r ∈ now.take i,onR r at_ = true ∧ s.1 = r.From + r.Long ∧ ∀ r' ∈ now.take i,onR r' at_ = true → s.1 ≤ r'.From + r'.Long))) now.length (fun i s hi h => by
  obtain ⟨nx,x⟩ := s
  obtain ⟨rfl,h⟩ := h
  have hri := hr now[i] (List.getElem_mem _)
  have a1 := hri.f0
  have a2 := hri.f1
  have a3 := hri.l0
  have a4 := hri.l1
  show ∃ s',crew_Queue_b33 N now at_ nx (i : Int) = _ ∧ _
  unfold crew_Queue_b33 crew_Queue_j38
  rw [lt_dec hi,cond_true,getI_nat hi,Option.bind_some,W_succ (by omega),ride_on hri hB h0 h1,W_id (n := now[i].From + now[i].Long) (by omega) (by omega),List.take_succ_eq_append_getElem hi]
  have hnn : nx = -1 ∨ nx ≠ -1 := by omega
  by_cases hon : onR now[i] at_ = true
  ·rw [hon,Bool.true_and]
   by_cases hc : nx = -1 ∨ now[i].From + now[i].Long < nx
   ·have : (nx == -1 || decide (now[i].From + now[i].Long < nx)) = true := by rw [Bool.or_eq_true,beq_iff_eq,decide_eq_true_eq]; exact hc
    rw [this]
    refine ⟨_,rfl,rfl,Or.inr ⟨now[i],List.mem_append_right _ (List.mem_singleton.2 rfl),hon,rfl,fun r' hr' ho => ?_⟩⟩
    rcases List.mem_append.1 hr' with h' | h'
    ·rcases h with ⟨g1,g2⟩ | ⟨r,g1,g2,g3,g4⟩
     ·rw [g2 r' h'] at ho; cases ho
     ·have g5 := g4 r' h' ho
      have hrm := hr r (List.mem_of_mem_take g1)
      have := hrm.f0
      have := hrm.l0
      dsimp only at g3 g5 ⊢
      omega
    ·rw [List.mem_singleton.1 h']; exact Int.le_refl _
   ·have : (nx == -1 || decide (now[i].From + now[i].Long < nx)) = false := by rw [← Bool.not_eq_true,Bool.or_eq_true,beq_iff_eq,decide_eq_true_eq]; exact hc
    rw [this]
    refine ⟨_,rfl,rfl,?_⟩
    rcases h with ⟨g1,g2⟩ | ⟨r,g1,g2,g3,g4⟩
    ·exact absurd (Or.inl g1) hc
    ·refine Or.inr ⟨r,List.mem_append_left _ g1,g2,g3,fun r' hr' ho => ?_⟩
     rcases List.mem_append.1 hr' with h' | h'
     ·exact g4 r' h' ho
     ·rw [List.mem_singleton.1 h']; dsimp only at g3 ⊢; omega
  ·have hon' : onR now[i] at_ = false := by simpa using hon
   rw [hon',Bool.false_and]
   refine ⟨_,rfl,rfl,?_⟩
   rcases h with ⟨g1,g2⟩ | ⟨r,g1,g2,g3,g4⟩
   ·refine Or.inl ⟨g1,fun r hr' => ?_⟩
    rcases List.mem_append.1 hr' with h' | h'
    ·exact g2 r h'
    ·rw [List.mem_singleton.1 h']; exact hon'
   ·refine Or.inr ⟨r,List.mem_append_left _ g1,g2,g3,fun r' hr' ho => ?_⟩
    rcases List.mem_append.1 hr' with h' | h'
    ·exact g4 r' h' ho
    ·rw [List.mem_singleton.1 h',hon'] at ho; cases ho) (fun s h => by
  show crew_Queue_b33 N now at_ s.1 s.2 = _
  unfold crew_Queue_b33
  rw [h.1,ge_dec,cond_false,← h.1]) now.length 0 ((-1),0) N (by omega) (by omega) ⟨rfl,Or.inl ⟨rfl,fun r hr' => by simp at hr'⟩⟩
 rw [List.take_length] at hI
 exact ⟨s.1,by rw [hs,← hI.1],hI.2⟩
theorem set_last {α : Type} (l : List α) (x y : α) : (l ++ [x]).set l.length y = l ++ [y] := by
 rw [List.set_append_right _ _ (Nat.le_refl _),Nat.sub_self]; rfl
structure QOk (now : List crew_Ride) (at_ : Int) : Prop where
 r : ∀ r ∈ now,RB at_ r
 a0 : 0 ≤ at_
set_option maxHeartbeats 1000000 in
theorem wait_ok {N : Nat} (hN : 40 ≤ N) {c : crew_Cable} (hc : CarOk c) {now : List crew_Ride} {at_ : Int} (hq : QOk now at_) (hn : now.length ≤ 29) {e : crew_Ride} (he : RB 100000 e) (hA : at_ ≤ 5000000) (hw : bey c (c.Car + e.Weight.Hi) = false) :
  ∃ a,loopO (fun s25 => crew_Queue_b25 N c now e s25.1 s25.2.1 s25.2.2) N (max at_ e.From,max at_ e.From,now ++ [⟨max at_ e.From,e.Long,e.Weight⟩]) = some (.go (a,a,now ++ [⟨a,e.Long,e.Weight⟩])) ∧ IsMin (okAt c now e.Weight.Hi) (cands now (max at_ e.From)) a ∧ max at_ e.From ≤ a ∧ a ≤ max (at_ + 100000) 100000 ∧ okAt c now e.Weight.Hi a = true := by
 obtain ⟨w0,w1,w2⟩ : 0 ≤ e.Weight.Lo ∧ e.Weight.Lo ≤ e.Weight.Hi ∧ e.Weight.Hi ≤ 1000 := ⟨he.w0,he.w1,he.w2⟩
 obtain ⟨e0,e1,e2,e3⟩ : 0 ≤ e.From ∧ e.From ≤ 100000 ∧ 1 ≤ e.Long ∧ e.Long ≤ 100000 := ⟨he.f0,he.f1,he.l0,he.l1⟩
 have ha0 := hq.a0
 have hcb : ∀ x ∈ cands now (max at_ e.From),max at_ e.From ≤ x ∧ x ≤ max (at_ + 100000) 100000 := fun x hx => by
  rcases mem_cands.1 hx with rfl | ⟨⟨r,h1,h2⟩,h3⟩
  ·omega
  ·have := hq.r r h1
   have := this.f1
   have := (hq.r r h1).l1
   omega
 obtain ⟨s,hs,a,rfl,h1,h2⟩ := loop_to (ρ := Step ((List Int) × Int × Int × (List crew_Ride)) ((List Int) × Int)) (f := fun s25 => crew_Queue_b25 N c now e s25.1 s25.2.1 s25.2.2)
  (fun s => ∃ a,s = (a,a,now ++ [⟨a,e.Long,e.Weight⟩]) ∧ a ∈ cands now (max at_ e.From) ∧ ∀ x ∈ cands now (max at_ e.From),x < a → okAt c now e.Weight.Hi x = false)
  (fun s => ∃ a,s = (a,a,now ++ [⟨a,e.Long,e.Weight⟩]) ∧ a ∈ cands now (max at_ e.From) ∧ okAt c now e.Weight.Hi a = true ∧ ∀ x ∈ cands now (max at_ e.From),x < a → okAt c now e.Weight.Hi x = false)
  (fun s => (now.filter fun r => decide (s.1 < r.From + r.Long)).length) (fun s h => by
   obtain ⟨a,rfl,h1,h2⟩ := h
   have hab := hcb a h1
   have hr' : ∀ r ∈ now ++ [(⟨a,e.Long,e.Weight⟩ : crew_Ride)],RB 6000000 r := fun r hr => by
    rcases List.mem_append.1 hr with hr | hr
    ·have := hq.r r hr
     exact ⟨this.f0,by have := this.f1; omega,this.l0,this.l1,this.w0,this.w1,this.w2⟩
    ·rw [List.mem_singleton.1 hr]; exact ⟨by dsimp only; omega,by dsimp only; omega,e2,e3,w0,w1,w2⟩
   have hon : onR (⟨a,e.Long,e.Weight⟩ : crew_Ride) a = true := onR_iff.2 ⟨Int.le_refl _,by dsimp only; omega⟩
   have hlb := ld_bd sel_hi (n := a) hq.r
   have hfull : crew_Cable_full N ⟨c.Car,c.Wide,c.Sag,c.Most,now ++ [⟨a,e.Long,e.Weight⟩]⟩ ⟨a,e.Long,e.Weight⟩ = some (!okAt c now e.Weight.Hi a) := by
    have hld : crew_Cable_load N ⟨c.Car,c.Wide,c.Sag,c.Most,now ++ [(⟨a,e.Long,e.Weight⟩ : crew_Ride)]⟩ a = some (c.Car + ldF api_Span.Hi (now ++ [(⟨a,e.Long,e.Weight⟩ : crew_Ride)]) a) := loadH_ok (c := ⟨c.Car,c.Wide,c.Sag,c.Most,now ++ [(⟨a,e.Long,e.Weight⟩ : crew_Ride)]⟩) hN (B := 6000000) (by omega) hr' (by simp; omega) ⟨hc.c0,hc.c1⟩ (by omega) (by omega)
    show (Option.bind (crew_Cable_load N ⟨c.Car,c.Wide,c.Sag,c.Most,now ++ [(⟨a,e.Long,e.Weight⟩ : crew_Ride)]⟩ a) fun r_0 => some (crew_Cable_beyond ⟨c.Car,c.Wide,c.Sag,c.Most,now ++ [(⟨a,e.Long,e.Weight⟩ : crew_Ride)]⟩ r_0)) = _
    rw [hld,Option.bind_some,ld_snoc,if_pos hon,← Int.add_assoc]
    have hc' : CarOk ⟨c.Car,c.Wide,c.Sag,c.Most,now ++ [⟨a,e.Long,e.Weight⟩]⟩ := ⟨hc.c0,hc.c1,hc.w0,hc.w1,hc.s0,hc.s1,hc.m0,hc.m1⟩
    show some (crew_Cable_beyond _ (c.Car + ldF api_Span.Hi now a + e.Weight.Hi)) = _
    rw [beyond_ok hc' (by have := hc.c0; omega) (by have := hc.c1; omega)]
    unfold okAt
    rw [Bool.not_not]
    rfl
   show (∃ s',crew_Queue_b25 N c now e a a (now ++ [⟨a,e.Long,e.Weight⟩]) = _ ∧ _) ∨ (∃ s',crew_Queue_b25 N c now e a a (now ++ [⟨a,e.Long,e.Weight⟩]) = _ ∧ _)
   unfold crew_Queue_b25
   rw [hfull,Option.bind_some]
   cases hok : okAt c now e.Weight.Hi a with
   | true => exact Or.inl ⟨_,rfl,a,rfl,h1,hok,h2⟩
   | false =>
    right
    obtain ⟨nx,g1,g2⟩ := next_ok (N := N) (at_ := a) (B := at_) (by omega) hq.r (by omega) (by omega) (by omega) hN
    rcases g2 with ⟨-,g2⟩ | ⟨r,g2,g3,rfl,g4⟩
    ·exfalso
     unfold okAt at hok
     rw [ld_none g2,Int.add_zero,hw] at hok
     cases hok
    ·have hlen : W ((((now ++ [(⟨a,e.Long,e.Weight⟩ : crew_Ride)]).length : Nat) : Int) - 1) = ((now.length : Nat) : Int) := by
      rw [List.length_append,List.length_cons,List.length_nil,W_id (by omega) (by omega)]; omega
     have hrr := hq.r r g2
     have hor := onR_iff.1 g3
     have hrf := hrr.f1
     have hcr : r.From + r.Long ∈ cands now (max at_ e.From) := mem_cands.2 (Or.inr ⟨⟨r,g2,rfl⟩,by omega⟩)
     refine ⟨(r.From + r.Long,r.From + r.Long,now ++ [⟨r.From + r.Long,e.Long,e.Weight⟩]),?_,⟨_,rfl,hcr,fun x hx hlt => ?_⟩,?_⟩
     ·rw [Bool.not_false,cond_true,g1,Option.bind_some]
      simp only [exK,hlen]
      rw [getI_nat (by simp),Option.bind_some,Int.toNat_natCast,set_last]
     ·rcases Int.lt_trichotomy x a with h | h | h
      ·exact h2 x hx h
      ·rw [h]; exact hok
      ·rcases mem_cands.1 hx with h' | ⟨⟨r',k1,k2⟩,k3⟩
       ·omega
       ·have hr1 := hq.r r' k1
        have hr2 := hr1.f1
        have := g4 r' k1 (onR_iff.2 ⟨by omega,by omega⟩)
        omega
     ·refine cnt_lt (x := r) (fun y hy hq' => ?_) g2 ?_ ?_
      ·rw [decide_eq_true_eq] at hq' ⊢
       dsimp only at hq' ⊢
       omega
      ·rw [decide_eq_true_eq]; dsimp only; omega
      ·rw [decide_eq_false_iff_not]; dsimp only; omega) N _ ⟨_,rfl,mem_cands.2 (Or.inl rfl),fun x hx hlt => by have := hcb x hx; omega⟩ (by
   have := List.length_filter_le (fun r : crew_Ride => decide (max at_ e.From < r.From + r.Long)) now
   dsimp only
   omega)
 refine ⟨a,hs,Or.inr ⟨h1,h2.1,fun x hx hp => ?_⟩,(hcb a h1).1,(hcb a h1).2,h2.1⟩
 rcases Int.lt_or_le x a with h | h
 ·rw [h2.2 x hx h] at hp; cases hp
 ·exact h
def qstep (c : crew_Cable) (s : List Int × Int × List crew_Ride) (r : crew_Ride) : List Int × Int × List crew_Ride :=
 (s.1 ++ [minOf (okAt c s.2.2 r.Weight.Hi) (cands s.2.2 (max s.2.1 r.From))],minOf (okAt c s.2.2 r.Weight.Hi) (cands s.2.2 (max s.2.1 r.From)),s.2.2 ++ [⟨minOf (okAt c s.2.2 r.Weight.Hi) (cands s.2.2 (max s.2.1 r.From)),r.Long,r.Weight⟩])
def qst (c : crew_Cable) (i : Nat) : List Int × Int × List crew_Ride := (c.Rides.take i).foldl (qstep c) ([],0,[])
theorem qst_succ {c : crew_Cable} {i : Nat} (hi : i < c.Rides.length) : qst c (i + 1) = qstep c (qst c i) c.Rides[i] := by
 unfold qst
 rw [List.take_succ_eq_append_getElem hi,List.foldl_append]
 rfl
structure QInv (c : crew_Cable) (i : Nat) : Prop where
 q : QOk (qst c i).2.2 (qst c i).2.1
 l1 : (qst c i).1.length = i
 l2 : (qst c i).2.2.length = i
 b : (qst c i).2.1 ≤ 100000 * (i : Int)
 la : 0 < i → (qst c i).1.getD (i - 1) 0 = (qst c i).2.1
theorem cands_pos {now : List crew_Ride} {first : Int} (h : 0 ≤ first) : ∀ x ∈ cands now first,0 ≤ x := fun x hx => by
 rcases mem_cands.1 hx with rfl | ⟨-,h2⟩ <;> omega
theorem qinv_zero (c : crew_Cable) : QInv c 0 := ⟨⟨fun r hr => (List.not_mem_nil hr).elim,Int.le_refl _⟩,rfl,rfl,Int.le_refl _,fun h => absurd h (by omega)⟩
structure Light (c : crew_Cable) : Prop where
 len : c.Rides.length ≤ 30
 ok : CarOk c
 r : ∀ r ∈ c.Rides,RB 100000 r
 w : ∀ r ∈ c.Rides,bey c (c.Car + r.Weight.Hi) = false
theorem qwait {N : Nat} (hN : 40 ≤ N) {c : crew_Cable} (h : Light c) {i : Nat} (hi : i < c.Rides.length) (hq : QInv c i) :
  loopO (fun s25 => crew_Queue_b25 N c (qst c i).2.2 c.Rides[i] s25.1 s25.2.1 s25.2.2) N (max (qst c i).2.1 c.Rides[i].From,max (qst c i).2.1 c.Rides[i].From,(qst c i).2.2 ++ [⟨max (qst c i).2.1 c.Rides[i].From,c.Rides[i].Long,c.Rides[i].Weight⟩]) = some (.go ((qst c (i + 1)).2.1,(qst c (i + 1)).2.1,(qst c (i + 1)).2.2)) ∧
  (qst c (i + 1)).1 = (qst c i).1 ++ [(qst c (i + 1)).2.1] ∧ max (qst c i).2.1 c.Rides[i].From ≤ (qst c (i + 1)).2.1 ∧ okAt c (qst c i).2.2 c.Rides[i].Weight.Hi (qst c (i + 1)).2.1 = true ∧ (qst c (i + 1)).2.2 = (qst c i).2.2 ++ [⟨(qst c (i + 1)).2.1,c.Rides[i].Long,c.Rides[i].Weight⟩] ∧ QInv c (i + 1) := by
 have hri := h.r c.Rides[i] (List.getElem_mem _)
 have hq0 := hq.q.a0
 have hqb := hq.b
 have hn := h.len
 obtain ⟨a,a1,a2,a3,a4,a5⟩ := wait_ok hN h.ok hq.q (by rw [hq.l2]; omega) hri (by omega) (h.w _ (List.getElem_mem _))
 have e : minOf (okAt c (qst c i).2.2 c.Rides[i].Weight.Hi) (cands (qst c i).2.2 (max (qst c i).2.1 c.Rides[i].From)) = a := (minOf_is (cands_pos (by omega))).uniq a2
 have e1 : qst c (i + 1) = ((qst c i).1 ++ [a],a,(qst c i).2.2 ++ [⟨a,c.Rides[i].Long,c.Rides[i].Weight⟩]) := by rw [qst_succ hi]; unfold qstep; rw [e]
 rw [e1]
 refine ⟨a1,rfl,a3,a5,rfl,?_⟩
 constructor
 ·rw [e1]
  refine ⟨fun r hr => ?_,by dsimp only; omega⟩
  rcases List.mem_append.1 hr with hr | hr
  ·have := hq.q.r r hr
   exact ⟨this.f0,by have := this.f1; dsimp only; omega,this.l0,this.l1,this.w0,this.w1,this.w2⟩
  ·rw [List.mem_singleton.1 hr]
   exact ⟨by dsimp only; omega,Int.le_refl _,hri.l0,hri.l1,hri.w0,hri.w1,hri.w2⟩
 ·rw [e1]; simp [hq.l1]
 ·rw [e1]; simp [hq.l2]
 ·rw [e1]; dsimp only; push_cast; omega
 ·intro _
  rw [e1]
  have : i + 1 - 1 = (qst c i).1.length := by rw [hq.l1]; omega
  dsimp only
  rw [this,getD_eq]
theorem qinv {c : crew_Cable} (h : Light c) : ∀ i,i ≤ c.Rides.length → QInv c i
 | 0,_ => qinv_zero c
 | i + 1,hi => (qwait (N := 40) (by omega) h (by omega) (qinv h i (by omega))).2.2.2.2.2
def heavyB (c : crew_Cable) : Bool := bey c c.Car || c.Rides.any fun r => bey c (c.Car + r.Weight.Hi)
theorem light_of {c : crew_Cable} (h : cabCode c = 0) (hh : heavyB c = false) : Light c := by
 obtain ⟨h1,h2,h3⟩ := cab_zero h
 unfold heavyB at hh
 rw [Bool.or_eq_false_iff] at hh
 refine ⟨h1,h2,h3,fun r hr => ?_⟩
 have := List.any_eq_false.1 hh.2 r hr
 simpa using this
theorem queue_ok {N : Nat} (hN : 40 ≤ N) {c : crew_Cable} (h : cabCode c = 0) : crew_Queue N c = some (if heavyB c = true then ([],6) else ((qst c c.Rides.length).1,0)) := by
 obtain ⟨hn,hc,hr⟩ := cab_zero h
 unfold crew_Queue
 rw [check_ok (by omega) (by omega),h,Option.bind_some]
 simp only [bne_self_eq_false,cond_false]
 have c3 : crew_every_crew_Ride_s2 N c.Rides c = some (c.Rides.all fun r => !crew_Cable_beyond c (W (c.Car + r.Weight.Hi))) := by
  unfold crew_every_crew_Ride_s2 slices_ContainsFunc_Lcrew_Ride_crew_Ride_s2 slices_IndexFunc_Lcrew_Ride_crew_Ride_s2
  exact every_gen (f := fun r => crew_every_crew_Ride_1_s2 r c) (ok := fun r => !crew_Cable_beyond c (W (c.Car + r.Weight.Hi))) (fun x => rfl) (by omega) (by omega) _ (fun x => rfl)
 have c4 : (c.Rides.all fun r => !crew_Cable_beyond c (W (c.Car + r.Weight.Hi))) = !(c.Rides.any fun r => bey c (c.Car + r.Weight.Hi)) := by
  rw [List.not_any_eq_all_not]
  rw [Bool.eq_iff_iff,List.all_eq_true,List.all_eq_true]
  have e : ∀ r ∈ c.Rides,crew_Cable_beyond c (W (c.Car + r.Weight.Hi)) = bey c (c.Car + r.Weight.Hi) := fun r hr' => by
   have := hr r hr'
   have b0 := this.w0
   have b1 := this.w1
   have b2 := this.w2
   have := hc.c0
   have := hc.c1
   rw [W_id (by omega) (by omega),beyond_ok hc (by omega) (by omega)]
  constructor
  ·intro h r hr'; rw [← e r hr']; exact h r hr'
  ·intro h r hr'; rw [e r hr']; exact h r hr'
 rw [c3,c4,beyond_ok hc hc.c0 (by have := hc.c1; omega)]
 have e0 : (Option.bind (cond (bey c c.Car) (some true) (Option.bind (some (!(c.Rides.any fun r => bey c (c.Car + r.Weight.Hi)))) fun r_1 => some (!r_1))) fun t_1 => some t_1) = some (heavyB c) := by
  unfold heavyB
  cases bey c c.Car
  ·simp
  ·rfl
 have e1 : (cond (bey c c.Car) (some true) (Option.bind (some (!(c.Rides.any fun r => bey c (c.Car + r.Weight.Hi)))) fun r_1 => some (!r_1))) = some (heavyB c) := by
  rw [← e0]
  cases (cond (bey c c.Car) (some true) (Option.bind (some (!(c.Rides.any fun r => bey c (c.Car + r.Weight.Hi)))) fun r_1 => some (!r_1))) <;> rfl
 rw [e1,Option.bind_some]
 cases hh : heavyB c with
 | true => rfl
 | false =>
  have hL := light_of h hh
  rw [cond_false]
  have hrun := runS (ρ := List Int × Int) (fun i : Nat => ((qst c i).1,(qst c i).2.1,(i : Int),(qst c i).2.2)) c.Rides.length (fun s14 => crew_Queue_b14 N c s14.1 s14.2.1 s14.2.2.1 s14.2.2.2) (fun i hi => by
   have hq := qinv hL i (by omega)
   obtain ⟨g1,g2,g3,g4,g5,g6⟩ := qwait hN hL hi hq
   show crew_Queue_b14 N c (qst c i).1 (qst c i).2.1 (i : Int) (qst c i).2.2 = _
   unfold crew_Queue_b14 slices_Clone_Lcrew_Ride_crew_Ride
   rw [lt_dec hi,cond_true,getI_nat hi,Option.bind_some,room_ok (by rw [hq.l2]; omega),Option.bind_some,Option.bind_some,room_ok (by rw [List.length_append,hq.l2]; simp; omega),Option.bind_some,g1,Option.bind_some]
   simp only [exK]
   rw [room_ok (by rw [List.length_append,hq.l1]; simp; omega),Option.bind_some,W_succ (by omega),← g2]) (by
   show crew_Queue_b14 N c _ _ _ _ = _
   unfold crew_Queue_b14
   rw [ge_dec,cond_false]) (N := N) (by omega)
  have e0 : (([] : List Int),(0 : Int),(0 : Int),([] : List crew_Ride)) = ((qst c 0).1,(qst c 0).2.1,((0 : Nat) : Int),(qst c 0).2.2) := rfl
  rw [e0,hrun]
  rfl
end Go.Nilo
