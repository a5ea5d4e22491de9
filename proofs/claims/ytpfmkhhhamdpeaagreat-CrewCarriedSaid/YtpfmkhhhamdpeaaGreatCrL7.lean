/-
  What the plain functions compute, in plain arithmetic, part 7. Conditions: what each theorem names.
-/
import Derived.Test.YtpfmkhhhamdpeaaGreatCrL6
set_option linter.unusedSimpArgs false
set_option linter.unusedVariables false
namespace Go.Nilo
theorem qmin {c : crew_Cable} (h : Light c) {i : Nat} (hi : i < c.Rides.length) : IsMin (okAt c (qst c i).2.2 c.Rides[i].Weight.Hi) (cands (qst c i).2.2 (max (qst c i).2.1 c.Rides[i].From)) (qst c (i + 1)).2.1 := by
 have hq := qinv h i (by omega)
 have e : (qst c (i + 1)).2.1 = minOf (okAt c (qst c i).2.2 c.Rides[i].Weight.Hi) (cands (qst c i).2.2 (max (qst c i).2.1 c.Rides[i].From)) := by rw [qst_succ hi]; rfl
 rw [e]
 exact minOf_is (cands_pos (by have := hq.q.a0; omega))
theorem qcand {c : crew_Cable} (h : Light c) {i : Nat} (hi : i < c.Rides.length) : (qst c (i + 1)).2.1 ∈ cands (qst c i).2.2 (max (qst c i).2.1 c.Rides[i].From) ∧ ∀ x ∈ cands (qst c i).2.2 (max (qst c i).2.1 c.Rides[i].From),x < (qst c (i + 1)).2.1 → okAt c (qst c i).2.2 c.Rides[i].Weight.Hi x = false := by
 have hq := qinv h i (by omega)
 obtain ⟨-,-,g3,-,-,-⟩ := qwait (N := 40) (by omega) h hi hq
 have h0 := hq.q.a0
 rcases qmin h hi with ⟨h1,-⟩ | ⟨h1,h2,h3⟩
 ·omega
 ·refine ⟨h1,fun x hx hlt => ?_⟩
  cases hok : okAt c (qst c i).2.2 c.Rides[i].Weight.Hi x with
  | false => rfl
  | true => have := h3 x hx hok; omega
structure Short (c : crew_Cable) : Prop where
 f : ∀ r ∈ c.Rides,r.From ≤ 60 ∧ r.Long ≤ 30
theorem qshort {c : crew_Cable} (h : Light c) (hs : Short c) : ∀ i,i ≤ c.Rides.length → (qst c i).2.1 ≤ 60 + 30 * (i : Int) ∧ ∀ r ∈ (qst c i).2.2,r.Long ≤ 30
 | 0,_ => ⟨show (0 : Int) ≤ 60 + 30 * ((0 : Nat) : Int) by omega,fun r hr => (List.not_mem_nil hr).elim⟩
 | i + 1,hi => by
  have hi' : i < c.Rides.length := by omega
  obtain ⟨ih1,ih2⟩ := qshort h hs i (by omega)
  have hq := qinv h i (by omega)
  obtain ⟨-,-,g3,-,g5,-⟩ := qwait (N := 40) (by omega) h hi' hq
  have hf := hs.f c.Rides[i] (List.getElem_mem _)
  refine ⟨?_,fun r hr => ?_⟩
  ·rcases mem_cands.1 (qcand h hi').1 with h1 | ⟨⟨r,h1,h2⟩,-⟩
   ·push_cast; omega
   ·have a := (hq.q.r r h1).f1
    have b := ih2 r h1
    push_cast
    omega
  ·rw [g5] at hr
   rcases List.mem_append.1 hr with hr | hr
   ·exact ih2 r hr
   ·rw [List.mem_singleton.1 hr]; exact hf.2
theorem ld_mono {f : api_Span → Int} {m n : Int} : ∀ {l : List crew_Ride},(∀ r ∈ l,0 ≤ f r.Weight) → (∀ r ∈ l,onR r m = true → onR r n = true) → ldF f l m ≤ ldF f l n
 | [],_,_ => Int.le_refl _
 | r::l,h0,h => by
  have ih := ld_mono (f := f) (m := m) (n := n) (l := l) (fun x hx => h0 x (List.mem_cons_of_mem _ hx)) fun x hx => h x (List.mem_cons_of_mem _ hx)
  have a := h0 r List.mem_cons_self
  have b := h r List.mem_cons_self
  rw [ld_cons,ld_cons]
  by_cases hm : onR r m = true
  ·rw [if_pos hm,if_pos (b hm)]; omega
  ·rw [if_neg hm]; split <;> omega
theorem lo_le_hi {B n : Int} : ∀ {l : List crew_Ride},(∀ r ∈ l,RB B r) → ldF api_Span.Lo l n ≤ ldF api_Span.Hi l n
 | [],_ => Int.le_refl _
 | r::l,h => by
  have ih := lo_le_hi (n := n) (l := l) fun x hx => h x (List.mem_cons_of_mem _ hx)
  have a := (h r List.mem_cons_self).w1
  rw [ld_cons,ld_cons]
  split <;> omega
theorem qlight {c : crew_Cable} (h : Light c) (hh : bey c c.Car = false) : ∀ i,i ≤ c.Rides.length → ∀ m,bey c (c.Car + ldF api_Span.Hi (qst c i).2.2 m) = false
 | 0,_,m => by
  show bey c (c.Car + 0) = false
  rw [Int.add_zero]; exact hh
 | i + 1,hi,m => by
  have hi' : i < c.Rides.length := by omega
  have ih := qlight h hh i (by omega) m
  have hq := qinv h i (by omega)
  obtain ⟨-,-,g3,g4,g5,g6⟩ := qwait (N := 40) (by omega) h hi' hq
  rw [g5,ld_snoc]
  by_cases hon : onR (⟨(qst c (i + 1)).2.1,c.Rides[i].Long,c.Rides[i].Weight⟩ : crew_Ride) m = true
  ·rw [if_pos hon]
   have hm := onR_iff.1 hon
   dsimp only at hm ⊢
   have hle : ldF api_Span.Hi (qst c i).2.2 m ≤ ldF api_Span.Hi (qst c i).2.2 (qst c (i + 1)).2.1 := ld_mono (fun r hr => by have := hq.q.r r hr; have a := this.w0; have b := this.w1; omega) fun r hr ho => by
    have a := (hq.q.r r hr).f1
    have b := onR_iff.1 ho
    exact onR_iff.2 ⟨by omega,by omega⟩
   unfold okAt at g4
   rw [Bool.not_eq_true'] at g4
   rw [Bool.eq_false_iff]
   intro hb
   have := bey_mono h.ok (y := c.Car + ldF api_Span.Hi (qst c i).2.2 (qst c (i + 1)).2.1 + c.Rides[i].Weight.Hi) (by omega) hb
   rw [g4] at this
   cases this
  ·rw [if_neg hon,Int.add_zero]; exact ih
def qc (c : crew_Cable) (rides : List crew_Ride) : crew_Cable := ⟨c.Car,c.Wide,c.Sag,c.Most,rides⟩
def Qc (c : crew_Cable) : crew_Cable := qc c (qst c c.Rides.length).2.2
theorem qget {c : crew_Cable} (h : Light c) : ∀ n,n ≤ c.Rides.length → ∀ i (hi : i < n),(qst c n).2.2[i]? = some ⟨(qst c (i + 1)).2.1,(c.Rides[i]?.getD ⟨0,0,⟨0,0⟩⟩).Long,(c.Rides[i]?.getD ⟨0,0,⟨0,0⟩⟩).Weight⟩ ∧ (qst c n).1[i]? = some (qst c (i + 1)).2.1
 | 0,_,i,hi => by omega
 | n + 1,hn,i,hi => by
  have hn' : n < c.Rides.length := by omega
  have hq := qinv h n (by omega)
  obtain ⟨-,g2,-,-,g5,-⟩ := qwait (N := 40) (by omega) h hn' hq
  rw [g5,g2]
  by_cases hin : i < n
  ·rw [List.getElem?_append_left (by rw [hq.l2]; exact hin),List.getElem?_append_left (by rw [hq.l1]; exact hin)]
   exact qget h n (by omega) i hin
  ·have : i = n := by omega
   subst this
   rw [List.getElem?_append_right (by rw [hq.l2]; exact Nat.le_refl _),List.getElem?_append_right (by rw [hq.l1]; exact Nat.le_refl _),hq.l1,hq.l2,Nat.sub_self,List.getElem?_eq_getElem hn']
   exact ⟨rfl,rfl⟩
theorem Qlen {c : crew_Cable} (h : Light c) : (Qc c).Rides.length = c.Rides.length := (qinv h c.Rides.length (Nat.le_refl _)).l2
theorem Qget {c : crew_Cable} (h : Light c) {i : Nat} (hi : i < c.Rides.length) : (Qc c).Rides[i]'(by rw [Qlen h]; exact hi) = ⟨(qst c (i + 1)).2.1,c.Rides[i].Long,c.Rides[i].Weight⟩ := by
 have := (qget h c.Rides.length (Nat.le_refl _) i hi).1
 rw [List.getElem?_eq_getElem hi] at this
 have h2 : (Qc c).Rides[i]? = some ⟨(qst c (i + 1)).2.1,c.Rides[i].Long,c.Rides[i].Weight⟩ := this
 rw [List.getElem?_eq_getElem (by rw [Qlen h]; exact hi)] at h2
 exact Option.some.inj h2
theorem Qlget {c : crew_Cable} (h : Light c) {i : Nat} (hi : i < c.Rides.length) : (qst c c.Rides.length).1[i]'(by rw [(qinv h c.Rides.length (Nat.le_refl _)).l1]; exact hi) = (qst c (i + 1)).2.1 := by
 have := (qget h c.Rides.length (Nat.le_refl _) i hi).2
 rw [List.getElem?_eq_getElem (by rw [(qinv h c.Rides.length (Nat.le_refl _)).l1]; exact hi)] at this
 exact Option.some.inj this
theorem Qlight {c : crew_Cable} (h : Light c) (hs : Short c) : Light (Qc c) := by
 have hn := h.len
 have hq := qinv h c.Rides.length (Nat.le_refl _)
 have hb := (qshort h hs c.Rides.length (Nat.le_refl _)).1
 refine ⟨by rw [Qlen h]; exact hn,⟨h.ok.c0,h.ok.c1,h.ok.w0,h.ok.w1,h.ok.s0,h.ok.s1,h.ok.m0,h.ok.m1⟩,fun r hr => ?_,fun r hr => ?_⟩
 ·have := hq.q.r r hr
  exact ⟨this.f0,by have := this.f1; omega,this.l0,this.l1,this.w0,this.w1,this.w2⟩
 ·obtain ⟨i,hi,rfl⟩ := List.getElem_of_mem hr
  have hi' : i < c.Rides.length := by rw [Qlen h] at hi; exact hi
  rw [Qget h hi']
  exact h.w c.Rides[i] (List.getElem_mem hi')
theorem Qcode {c : crew_Cable} (h : Light c) (hs : Short c) : cabCode (Qc c) = 0 := cab_mk (Qlight h hs).len (Qlight h hs).ok (Qlight h hs).r
theorem Qsame {c : crew_Cable} (h : Light c) (hs : Short c) : ∀ i,i ≤ c.Rides.length → qst (Qc c) i = qst c i
 | 0,_ => rfl
 | i + 1,hi => by
  have hi' : i < c.Rides.length := by omega
  have ih := Qsame h hs i (by omega)
  have hiQ : i < (Qc c).Rides.length := by rw [Qlen h]; exact hi'
  have hq := qinv h i (by omega)
  obtain ⟨-,g2,g3,g4,g5,-⟩ := qwait (N := 40) (by omega) h hi' hq
  rw [qst_succ hiQ,Qget h hi',ih]
  have ha : minOf (okAt (Qc c) (qst c i).2.2 c.Rides[i].Weight.Hi) (cands (qst c i).2.2 (max (qst c i).2.1 (qst c (i + 1)).2.1)) = (qst c (i + 1)).2.1 := by
   have e : max (qst c i).2.1 (qst c (i + 1)).2.1 = (qst c (i + 1)).2.1 := by omega
   rw [e]
   refine (minOf_is (cands_pos (by have := hq.q.a0; omega))).uniq (Or.inr ⟨mem_cands.2 (Or.inl rfl),g4,fun x hx _ => ?_⟩)
   rcases mem_cands.1 hx with rfl | ⟨-,h2⟩
   ·exact Int.le_refl _
   ·exact h2
  unfold qstep
  dsimp only
  rw [ha,← g2,← g5]
theorem heavy_eq {c : crew_Cable} (h : Light c) : (heavyB c = false ↔ bey c c.Car = false) := by
 unfold heavyB
 have : (c.Rides.any fun r => bey c (c.Car + r.Weight.Hi)) = false := by
  rw [List.any_eq_false]
  intro r hr
  rw [h.w r hr]
  exact Bool.false_ne_true
 rw [this,Bool.or_false]
theorem early_heavy {c : crew_Cable} (h : Light c) {i : Nat} (hi : i < c.Rides.length) (hlt : max (qst c i).2.1 c.Rides[i].From < (qst c (i + 1)).2.1) : bey c (c.Car + ldF api_Span.Hi ((qst c i).2.2 ++ [(⟨(qst c (i + 1)).2.1 - 1,c.Rides[i].Long,c.Rides[i].Weight⟩ : crew_Ride)]) ((qst c (i + 1)).2.1 - 1)) = true := by
 have hq := qinv h i (by omega)
 have hri := h.r c.Rides[i] (List.getElem_mem _)
 obtain ⟨hc1,hc2⟩ := qcand h hi
 have key : ∀ d : Nat,max (qst c i).2.1 c.Rides[i].From + (d : Int) < (qst c (i + 1)).2.1 → okAt c (qst c i).2.2 c.Rides[i].Weight.Hi (max (qst c i).2.1 c.Rides[i].From + (d : Int)) = false := by
  intro d
  induction d with
  | zero =>
   intro hd
   rw [show max (qst c i).2.1 c.Rides[i].From + ((0 : Nat) : Int) = max (qst c i).2.1 c.Rides[i].From by omega]
   exact hc2 _ (mem_cands.2 (Or.inl rfl)) hlt
  | succ d ih =>
   intro hd
   have ih' := ih (by push_cast at hd; omega)
   by_cases hend : ∃ r ∈ (qst c i).2.2,max (qst c i).2.1 c.Rides[i].From + ((d + 1 : Nat) : Int) = r.From + r.Long
   ·exact hc2 _ (mem_cands.2 (Or.inr ⟨hend,by omega⟩)) hd
   ·have hle : ldF api_Span.Hi (qst c i).2.2 (max (qst c i).2.1 c.Rides[i].From + (d : Int)) ≤ ldF api_Span.Hi (qst c i).2.2 (max (qst c i).2.1 c.Rides[i].From + ((d + 1 : Nat) : Int)) := ld_mono (fun r hr => by have := hq.q.r r hr; have a := this.w0; have b := this.w1; omega) fun r hr ho => by
     have b := onR_iff.1 ho
     have hne : max (qst c i).2.1 c.Rides[i].From + ((d + 1 : Nat) : Int) ≠ r.From + r.Long := fun e => hend ⟨r,hr,e⟩
     push_cast at hne ⊢
     exact onR_iff.2 ⟨by omega,by omega⟩
    unfold okAt at ih' ⊢
    rw [Bool.not_eq_false'] at ih' ⊢
    exact bey_mono h.ok (by omega) ih'
 have hk := key ((qst c (i + 1)).2.1 - 1 - max (qst c i).2.1 c.Rides[i].From).toNat (by omega)
 rw [show max (qst c i).2.1 c.Rides[i].From + ((((qst c (i + 1)).2.1 - 1 - max (qst c i).2.1 c.Rides[i].From).toNat : Nat) : Int) = (qst c (i + 1)).2.1 - 1 by omega] at hk
 unfold okAt at hk
 rw [Bool.not_eq_false'] at hk
 rw [ld_snoc,if_pos (onR_iff.2 ⟨Int.le_refl _,by have := hri.l0; dsimp only; omega⟩),← Int.add_assoc]
 exact hk
end Go.Nilo
