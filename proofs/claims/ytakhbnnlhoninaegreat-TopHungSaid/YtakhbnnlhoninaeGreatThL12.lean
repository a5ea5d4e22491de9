/-
  What the plain functions compute, in plain arithmetic, part 12. Conditions: what each theorem names.
-/
import Derived.Test.YtakhbnnlhoninaeGreatThL11
set_option linter.unusedSimpArgs false
set_option linter.unusedVariables false
namespace Go.Nilo
theorem max_le {t : Int} : ∀ {l : List Int},(∃ x ∈ l,x ≤ t) → ∃ x ∈ l,x ≤ t ∧ ∀ y ∈ l,y ≤ t → y ≤ x
 | [],h => by obtain ⟨x,h,-⟩ := h; cases h
 | a::l,h => by
  by_cases hl : ∃ x ∈ l,x ≤ t
  ·obtain ⟨x,h1,h2,h3⟩ := max_le hl
   by_cases ha : a ≤ t ∧ x ≤ a
   ·refine ⟨a,List.mem_cons_self,ha.1,fun y hy hyt => ?_⟩
    rcases List.mem_cons.1 hy with rfl | hy
    ·exact Int.le_refl _
    ·exact Int.le_trans (h3 y hy hyt) ha.2
   ·refine ⟨x,List.mem_cons_of_mem _ h1,h2,fun y hy hyt => ?_⟩
    rcases List.mem_cons.1 hy with rfl | hy
    ·omega
    ·exact h3 y hy hyt
  ·obtain ⟨x,h1,h2⟩ := h
   rcases List.mem_cons.1 h1 with rfl | h1
   ·refine ⟨x,List.mem_cons_self,h2,fun y hy hyt => ?_⟩
    rcases List.mem_cons.1 hy with rfl | hy
    ·exact Int.le_refl _
    ·exact absurd ⟨y,hy,hyt⟩ hl
   ·exact absurd ⟨x,h1,h2⟩ hl
theorem qfirst {c : crew_Cable} (h : Light c) {i : Nat} (hi : i < c.Rides.length) {t : Int} (h0 : max (qst c i).2.1 c.Rides[i].From ≤ t) (hok : okAt c (qst c i).2.2 c.Rides[i].Weight.Hi t = true) : (qst c (i + 1)).2.1 ≤ t := by
 refine Decidable.byContradiction fun hc => ?_
 obtain ⟨x,x1,x2,x3⟩ := max_le (t := t) (l := cands (qst c i).2.2 (max (qst c i).2.1 c.Rides[i].From)) ⟨_,List.mem_cons_self,h0⟩
 have hx := (qcand h hi).2 x x1 (by omega)
 have hq := qinv h i (by omega)
 have hfx : max (qst c i).2.1 c.Rides[i].From ≤ x := by
  rcases mem_cands.1 x1 with rfl | ⟨-,h3⟩
  ·exact Int.le_refl _
  ·exact h3
 have hle : ldF api_Span.Hi (qst c i).2.2 x ≤ ldF api_Span.Hi (qst c i).2.2 t := ld_mono (fun r hr => by have := hq.q.r r hr; have a := this.w0; have b := this.w1; omega) fun r hr ho => by
  have a := onR_iff.1 ho
  refine onR_iff.2 ⟨by omega,?_⟩
  refine Decidable.byContradiction fun hn => ?_
  have := x3 (r.From + r.Long) (mem_cands.2 (.inr ⟨⟨r,hr,rfl⟩,by omega⟩)) (by omega)
  omega
 unfold okAt at hx hok
 rw [Bool.not_eq_false'] at hx
 rw [Bool.not_eq_true'] at hok
 have := bey_mono h.ok (y := c.Car + ldF api_Span.Hi (qst c i).2.2 t + c.Rides[i].Weight.Hi) (by omega) hx
 rw [hok] at this
 cases this
structure Lng (c d : crew_Cable) : Prop where
 car : d.Car = c.Car
 wide : d.Wide = c.Wide
 sag : d.Sag = c.Sag
 most : d.Most = c.Most
 len : d.Rides.length = c.Rides.length
 r : ∀ i,(h : i < c.Rides.length) → (h' : i < d.Rides.length) → d.Rides[i].From = c.Rides[i].From ∧ d.Rides[i].Weight = c.Rides[i].Weight ∧ c.Rides[i].Long ≤ d.Rides[i].Long
theorem Lng.bey {c d : crew_Cable} (h : Lng c d) (x : Int) : bey d x = bey c x := by unfold Go.Nilo.bey; rw [h.wide,h.sag,h.most]
inductive Nw (t : Int) : List crew_Ride → List crew_Ride → Prop
 | nil : Nw t [] []
 | snoc {l m : List crew_Ride} {r s : crew_Ride} : Nw t l m → r.Weight = s.Weight → r.From ≤ s.From → s.From ≤ t → r.From + r.Long ≤ s.From + s.Long → 0 ≤ s.Weight.Hi → Nw t (l ++ [r]) (m ++ [s])
theorem Nw.mono {t t' : Int} (ht : t ≤ t') {l m : List crew_Ride} (h : Nw t l m) : Nw t' l m := by
 induction h with
 | nil => exact .nil
 | snoc _ h1 h2 h3 h4 h5 ih => exact .snoc ih h1 h2 (Int.le_trans h3 ht) h4 h5
theorem Nw.ld {t : Int} {l m : List crew_Ride} (h : Nw t l m) : ldF api_Span.Hi l t ≤ ldF api_Span.Hi m t := by
 induction h with
 | nil => exact Int.le_refl _
 | @snoc l m r s _ h1 h2 h3 h4 h5 ih =>
  rw [ld_snoc,ld_snoc,h1]
  by_cases hr : onR r t = true
  ·have := onR_iff.1 hr
   rw [if_pos hr,if_pos (onR_iff.2 ⟨h3,by omega⟩)]
   omega
  ·rw [if_neg hr]
   split <;> omega
theorem qlong {c d : crew_Cable} (hc : Light c) (hd : Light d) (h : Lng c d) : ∀ i,i ≤ c.Rides.length → (qst c i).2.1 ≤ (qst d i).2.1 ∧ Nw (qst d i).2.1 (qst c i).2.2 (qst d i).2.2
 | 0,_ => ⟨Int.le_refl _,.nil⟩
 | i + 1,hi => by
  have hi' : i < c.Rides.length := by omega
  have hd' : i < d.Rides.length := by rw [h.len]; exact hi'
  obtain ⟨ih1,ih2⟩ := qlong hc hd h i (by omega)
  obtain ⟨r1,r2,r3⟩ := h.r i hi' hd'
  obtain ⟨-,-,c3,-,c5,-⟩ := qwait (N := 40) (by omega) hc hi' (qinv hc i (by omega))
  obtain ⟨-,-,d3,d4,d5,-⟩ := qwait (N := 40) (by omega) hd hd' (qinv hd i (by omega))
  have hN : Nw (qst d (i + 1)).2.1 (qst c i).2.2 (qst d i).2.2 := ih2.mono (by omega)
  have hle : (qst c (i + 1)).2.1 ≤ (qst d (i + 1)).2.1 := by
   refine qfirst hc hi' (by omega) ?_
   have hl := hN.ld
   unfold okAt at d4 ⊢
   rw [Bool.not_eq_true'] at d4 ⊢
   rw [Bool.eq_false_iff]
   intro hb
   rw [h.bey,h.car,r2] at d4
   have := bey_mono hc.ok (y := c.Car + ldF api_Span.Hi (qst d i).2.2 (qst d (i + 1)).2.1 + c.Rides[i].Weight.Hi) (by omega) hb
   rw [d4] at this
   cases this
  refine ⟨hle,?_⟩
  rw [c5,d5]
  have hw := hd.r d.Rides[i] (List.getElem_mem _)
  exact .snoc hN r2.symm hle (Int.le_refl _) (by dsimp only; omega) (by have := hw.w0; have := hw.w1; dsimp only; omega)
structure ShortF (c : crew_Cable) (f g : Int) : Prop where
 b : ∀ r ∈ c.Rides,r.From ≤ f ∧ r.Long ≤ g
 g0 : 0 ≤ g
 f0 : 0 ≤ f
theorem qshortF {c : crew_Cable} {f g : Int} (h : Light c) (hs : ShortF c f g) : ∀ i,i ≤ c.Rides.length → (qst c i).2.1 ≤ f + g * (i : Int) ∧ ∀ r ∈ (qst c i).2.2,r.Long ≤ g
 | 0,_ => ⟨show (0 : Int) ≤ f + g * ((0 : Nat) : Int) by have := hs.f0; simp; omega,fun r hr => (List.not_mem_nil hr).elim⟩
 | i + 1,hi => by
  have hi' : i < c.Rides.length := by omega
  obtain ⟨ih1,ih2⟩ := qshortF h hs i (by omega)
  have hq := qinv h i (by omega)
  obtain ⟨-,-,g3,-,g5,-⟩ := qwait (N := 40) (by omega) h hi' hq
  have hf := hs.b c.Rides[i] (List.getElem_mem _)
  have hg0 := hs.g0
  have e : g * ((i + 1 : Nat) : Int) = g * (i : Int) + g := by push_cast; rw [Int.mul_add,Int.mul_one]
  have e0 : 0 ≤ g * (i : Int) := Int.mul_nonneg hs.g0 (by omega)
  refine ⟨?_,fun r hr => ?_⟩
  ·rcases mem_cands.1 (qcand h hi').1 with h1 | ⟨⟨r,h1,h2⟩,-⟩
   ·omega
   ·have a := (hq.q.r r h1).f1
    have b := ih2 r h1
    omega
  ·rw [g5] at hr
   rcases List.mem_append.1 hr with hr | hr
   ·exact ih2 r hr
   ·rw [List.mem_singleton.1 hr]; exact hf.2
end Go.Nilo
