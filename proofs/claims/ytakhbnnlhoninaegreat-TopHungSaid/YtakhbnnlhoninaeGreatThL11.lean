/-
  What the plain functions compute, in plain arithmetic, part 11. Conditions: what each theorem names.
-/
import Derived.Test.YtakhbnnlhoninaeGreatThL10
set_option linter.unusedSimpArgs false
set_option linter.unusedVariables false
namespace Go.Nilo
theorem qmin {c : crew_Cable} (h : Light c) {i : Nat} (hi : i < c.Rides.length) : IsMin (okAt c (qst c i).2.2 c.Rides[i].Weight.Hi) (cands (qst c i).2.2 (max (qst c i).2.1 c.Rides[i].From)) (qst c (i + 1)).2.1 := by
 have hq := qinv h i (by omega)
 have e : (qst c (i + 1)).2.1 = minOf (okAt c (qst c i).2.2 c.Rides[i].Weight.Hi) (cands (qst c i).2.2 (max (qst c i).2.1 c.Rides[i].From)) := by rw [qst_succ hi]; rfl
 rw [e]
 exact minOf_is (cands_pos (by have := hq.q.a0; omega))
theorem qcand {c : crew_Cable} (h : Light c) {i : Nat} (hi : i < c.Rides.length) : (qst c (i + 1)).2.1 ∈ cands (qst c i).2.2 (max (qst c i).2.1 c.Rides[i].From) ∧ ∀ x ∈ cands (qst c i).2.2 (max (qst c i).2.1 c.Rides[i].From),x < (qst c (i + 1)).2.1 → okAt c (qst c i).2.2 c.Rides[i].Weight.Hi x = false := by
 have hq := qinv h i (by omega)
 obtain ⟨-,-,g3,-,-,-⟩ := qwait (N := 40) (by omega) h hi hq
 have h0 := hq.q.a0
 rcases qmin h hi with ⟨h1,-⟩ | ⟨h1,h2,h3⟩
 ·omega
 ·refine ⟨h1,fun x hx hlt => ?_⟩
  cases hok : okAt c (qst c i).2.2 c.Rides[i].Weight.Hi x with
  | false => rfl
  | true => have := h3 x hx hok; omega
structure Short (c : crew_Cable) : Prop where
 f : ∀ r ∈ c.Rides,r.From ≤ 60 ∧ r.Long ≤ 30
theorem ld_mono {f : api_Span → Int} {m n : Int} : ∀ {l : List crew_Ride},(∀ r ∈ l,0 ≤ f r.Weight) → (∀ r ∈ l,onR r m = true → onR r n = true) → ldF f l m ≤ ldF f l n
 | [],_,_ => Int.le_refl _
 | r::l,h0,h => by
  have ih := ld_mono (f := f) (m := m) (n := n) (l := l) (fun x hx => h0 x (List.mem_cons_of_mem _ hx)) fun x hx => h x (List.mem_cons_of_mem _ hx)
  have a := h0 r List.mem_cons_self
  have b := h r List.mem_cons_self
  rw [ld_cons,ld_cons]
  by_cases hm : onR r m = true
  ·rw [if_pos hm,if_pos (b hm)]; omega
  ·rw [if_neg hm]; split <;> omega
theorem qlight {c : crew_Cable} (h : Light c) (hh : bey c c.Car = false) : ∀ i,i ≤ c.Rides.length → ∀ m,bey c (c.Car + ldF api_Span.Hi (qst c i).2.2 m) = false
 | 0,_,m => by
  show bey c (c.Car + 0) = false
  rw [Int.add_zero]; exact hh
 | i + 1,hi,m => by
  have hi' : i < c.Rides.length := by omega
  have ih := qlight h hh i (by omega) m
  have hq := qinv h i (by omega)
  obtain ⟨-,-,g3,g4,g5,g6⟩ := qwait (N := 40) (by omega) h hi' hq
  rw [g5,ld_snoc]
  by_cases hon : onR (⟨(qst c (i + 1)).2.1,c.Rides[i].Long,c.Rides[i].Weight⟩ : crew_Ride) m = true
  ·rw [if_pos hon]
   have hm := onR_iff.1 hon
   dsimp only at hm ⊢
   have hle : ldF api_Span.Hi (qst c i).2.2 m ≤ ldF api_Span.Hi (qst c i).2.2 (qst c (i + 1)).2.1 := ld_mono (fun r hr => by have := hq.q.r r hr; have a := this.w0; have b := this.w1; omega) fun r hr ho => by
    have a := (hq.q.r r hr).f1
    have b := onR_iff.1 ho
    exact onR_iff.2 ⟨by omega,by omega⟩
   unfold okAt at g4
   rw [Bool.not_eq_true'] at g4
   rw [Bool.eq_false_iff]
   intro hb
   have := bey_mono h.ok (y := c.Car + ldF api_Span.Hi (qst c i).2.2 (qst c (i + 1)).2.1 + c.Rides[i].Weight.Hi) (by omega) hb
   rw [g4] at this
   cases this
  ·rw [if_neg hon,Int.add_zero]; exact ih
def qc (c : crew_Cable) (rides : List crew_Ride) : crew_Cable := ⟨c.Car,c.Wide,c.Sag,c.Most,rides⟩
def Qc (c : crew_Cable) : crew_Cable := qc c (qst c c.Rides.length).2.2
theorem qget {c : crew_Cable} (h : Light c) : ∀ n,n ≤ c.Rides.length → ∀ i (hi : i < n),(qst c n).2.2[i]? = some ⟨(qst c (i + 1)).2.1,(c.Rides[i]?.getD ⟨0,0,⟨0,0⟩⟩).Long,(c.Rides[i]?.getD ⟨0,0,⟨0,0⟩⟩).Weight⟩ ∧ (qst c n).1[i]? = some (qst c (i + 1)).2.1
 | 0,_,i,hi => by omega
 | n + 1,hn,i,hi => by
  have hn' : n < c.Rides.length := by omega
  have hq := qinv h n (by omega)
  obtain ⟨-,g2,-,-,g5,-⟩ := qwait (N := 40) (by omega) h hn' hq
  rw [g5,g2]
  by_cases hin : i < n
  ·rw [List.getElem?_append_left (by rw [hq.l2]; exact hin),List.getElem?_append_left (by rw [hq.l1]; exact hin)]
   exact qget h n (by omega) i hin
  ·have : i = n := by omega
   subst this
   rw [List.getElem?_append_right (by rw [hq.l2]; exact Nat.le_refl _),List.getElem?_append_right (by rw [hq.l1]; exact Nat.le_refl _),hq.l1,hq.l2,Nat.sub_self,List.getElem?_eq_getElem hn']
   exact ⟨rfl,rfl⟩
theorem Qlen {c : crew_Cable} (h : Light c) : (Qc c).Rides.length = c.Rides.length := (qinv h c.Rides.length (Nat.le_refl _)).l2
theorem Qlget {c : crew_Cable} (h : Light c) {i : Nat} (hi : i < c.Rides.length) : (qst c c.Rides.length).1[i]'(by rw [(qinv h c.Rides.length (Nat.le_refl _)).l1]; exact hi) = (qst c (i + 1)).2.1 := by
 have := (qget h c.Rides.length (Nat.le_refl _) i hi).2
 rw [List.getElem?_eq_getElem (by rw [(qinv h c.Rides.length (Nat.le_refl _)).l1]; exact hi)] at this
 exact Option.some.inj this
theorem heavy_eq {c : crew_Cable} (h : Light c) : (heavyB c = false ↔ bey c c.Car = false) := by
 unfold heavyB
 have : (c.Rides.any fun r => bey c (c.Car + r.Weight.Hi)) = false := by
  rw [List.any_eq_false]
  intro r hr
  rw [h.w r hr]
  exact Bool.false_ne_true
 rw [this,Bool.or_false]
end Go.Nilo
