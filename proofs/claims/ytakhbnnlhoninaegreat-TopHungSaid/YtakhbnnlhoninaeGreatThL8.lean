/-
  What the plain functions compute, in plain arithmetic, part 8. Conditions: what each theorem names.
-/
import Derived.Test.YtakhbnnlhoninaeGreatThL7
set_option linter.unusedSimpArgs false
set_option linter.unusedVariables false
namespace Go.Nilo
theorem inB_iff {n a b : Int} : inB n a b = true ↔ a ≤ n ∧ n ≤ b := by simp [inB]
structure RB (B : Int) (r : crew_Ride) : Prop where
 f0 : 0 ≤ r.From
 f1 : r.From ≤ B
 l0 : 1 ≤ r.Long
 l1 : r.Long ≤ 100000
 w0 : 0 ≤ r.Weight.Lo
 w1 : r.Weight.Lo ≤ r.Weight.Hi
 w2 : r.Weight.Hi ≤ 1000
theorem rb_iff {r : crew_Ride} : crew_CheckCable_1 r = true ↔ RB 100000 r := by
 simp only [crew_CheckCable_1,crew_minute,crew_in,Bool.and_eq_true,decide_eq_true_eq]
 constructor
 ·rintro ⟨⟨⟨⟨a1,a2⟩,a3,a4⟩,b1,b2⟩,b3⟩
  exact ⟨a1,a2,a3,a4,b1,b2,b3⟩
 ·rintro ⟨a1,a2,a3,a4,b1,b2,b3⟩
  exact ⟨⟨⟨⟨a1,a2⟩,a3,a4⟩,b1,b2⟩,b3⟩
def carB (c : crew_Cable) : Bool := inB c.Car 0 1000 && inB c.Wide 1 1000 && inB c.Sag 1 10000 && inB c.Most 0 10000000
structure CarOk (c : crew_Cable) : Prop where
 c0 : 0 ≤ c.Car
 c1 : c.Car ≤ 1000
 w0 : 1 ≤ c.Wide
 w1 : c.Wide ≤ 1000
 s0 : 1 ≤ c.Sag
 s1 : c.Sag ≤ 10000
 m0 : 0 ≤ c.Most
 m1 : c.Most ≤ 10000000
theorem carB_iff {c : crew_Cable} : carB c = true ↔ CarOk c := by
 unfold carB
 simp only [Bool.and_eq_true,inB_iff]
 constructor
 ·rintro ⟨⟨⟨⟨a1,a2⟩,a3,a4⟩,b1,b2⟩,b3,b4⟩
  exact ⟨a1,a2,a3,a4,b1,b2,b3,b4⟩
 ·rintro ⟨a1,a2,a3,a4,b1,b2,b3,b4⟩
  exact ⟨⟨⟨⟨a1,a2⟩,a3,a4⟩,b1,b2⟩,b3,b4⟩
def cabCode (c : crew_Cable) : Int := if c.Rides.length ≤ 30 then (if (carB c && c.Rides.all crew_CheckCable_1) = true then 0 else 120) else 3
theorem check_ok {N : Nat} {c : crew_Cable} (hl : c.Rides.length ≤ 1000) (hN : c.Rides.length < N) : crew_CheckCable N c = some (cabCode c) := by
 unfold crew_CheckCable cabCode
 have c3 : crew_every_crew_Ride N c.Rides = some (c.Rides.all crew_CheckCable_1) := by
  unfold crew_every_crew_Ride slices_ContainsFunc_Lcrew_Ride_crew_Ride slices_IndexFunc_Lcrew_Ride_crew_Ride
  exact every_gen (f := crew_every_crew_Ride_1) (ok := crew_CheckCable_1) (fun x => rfl) hN (by omega) _ (fun x => rfl)
 by_cases h : c.Rides.length ≤ 30
 ·rw [if_pos h,show decide (30 < ((c.Rides.length : Nat) : Int)) = false by rw [decide_eq_false_iff_not]; omega,cond_false,c3]
  have e : ((((!(crew_in c.Car 0 1000)) || (!(crew_in c.Wide 1 1000))) || (!(crew_in c.Sag 1 10000))) || (!(crew_in c.Most 0 10000000))) = !carB c := by
   show ((((!(inB c.Car 0 1000)) || (!(inB c.Wide 1 1000))) || (!(inB c.Sag 1 10000))) || (!(inB c.Most 0 10000000))) = _
   unfold carB
   cases inB c.Car 0 1000 <;> cases inB c.Wide 1 1000 <;> cases inB c.Sag 1 10000 <;> cases inB c.Most 0 10000000 <;> rfl
  rw [e]
  cases carB c <;> cases c.Rides.all crew_CheckCable_1 <;> rfl
 ·rw [if_neg h,show decide (30 < ((c.Rides.length : Nat) : Int)) = true by rw [decide_eq_true_eq]; omega,cond_true]
theorem cab_zero {c : crew_Cable} (h : cabCode c = 0) : c.Rides.length ≤ 30 ∧ CarOk c ∧ ∀ r ∈ c.Rides,RB 100000 r := by
 unfold cabCode at h
 split at h
 ·rename_i h1
  split at h
  ·rename_i h2
   rw [Bool.and_eq_true] at h2
   exact ⟨h1,carB_iff.1 h2.1,fun r hr => rb_iff.1 (List.all_eq_true.1 h2.2 r hr)⟩
  ·omega
 ·omega
theorem cab_mk {c : crew_Cable} (h1 : c.Rides.length ≤ 30) (h2 : CarOk c) (h3 : ∀ r ∈ c.Rides,RB 100000 r) : cabCode c = 0 := by
 unfold cabCode
 rw [if_pos h1,if_pos]
 rw [carB_iff.2 h2,Bool.true_and,List.all_eq_true]
 exact fun r hr => rb_iff.2 (h3 r hr)
def onR (r : crew_Ride) (n : Int) : Bool := decide (r.From ≤ n) && decide (n < r.From + r.Long)
theorem onR_iff {r : crew_Ride} {n : Int} : onR r n = true ↔ r.From ≤ n ∧ n < r.From + r.Long := by simp [onR]
theorem ride_on {r : crew_Ride} {B n : Int} (hr : RB B r) (hB : B ≤ 10000000) (h0 : 0 ≤ n) (h1 : n ≤ 20000000) : crew_Ride_on r n = onR r n := by
 have a := hr.f0
 have b := hr.f1
 unfold crew_Ride_on onR
 rw [W_id (by omega) (by omega)]
 congr 1
 rw [decide_eq_decide]
 omega
structure SelOk (f : api_Span → Int) : Prop where
 bd : ∀ s : api_Span,s.Lo ≤ s.Hi → s.Lo ≤ f s ∧ f s ≤ s.Hi
theorem sel_lo : SelOk api_Span.Lo := ⟨fun s h => ⟨Int.le_refl _,h⟩⟩
theorem sel_hi : SelOk api_Span.Hi := ⟨fun s h => ⟨h,Int.le_refl _⟩⟩
def ldF (f : api_Span → Int) (l : List crew_Ride) (n : Int) : Int := sumBy (fun r => if onR r n then f r.Weight else 0) l
theorem ld_cons (f : api_Span → Int) (r : crew_Ride) (l : List crew_Ride) (n : Int) : ldF f (r::l) n = (if onR r n then f r.Weight else 0) + ldF f l n := by simp [ldF,sumBy]
theorem ld_bd {f : api_Span → Int} (hf : SelOk f) {B n : Int} : ∀ {l : List crew_Ride},(∀ r ∈ l,RB B r) → 0 ≤ ldF f l n ∧ ldF f l n ≤ 1000 * (l.length : Int)
 | [],_ => by simp [ldF,sumBy]
 | r::l,hl => by
  have h1 := ld_bd hf (l := l) (n := n) fun x hx => hl x (List.mem_cons_of_mem _ hx)
  have hr := hl r List.mem_cons_self
  have h2 := hf.bd r.Weight hr.w1
  have a := hr.w0
  have b := hr.w2
  rw [ld_cons,List.length_cons]
  push_cast
  split <;> omega
theorem ld_snoc (f : api_Span → Int) (r : crew_Ride) (l : List crew_Ride) (n : Int) : ldF f (l ++ [r]) n = ldF f l n + (if onR r n then f r.Weight else 0) := sumBy_snoc _ l r
theorem sum_filter {α : Type} (p : α → Bool) (g : α → Int) : ∀ l : List α,sumBy (fun n => n) ((l.filter p).map g) = sumBy (fun r => if p r then g r else 0) l
 | [] => rfl
 | a::l => by
  have e : sumBy (fun r => if p r then g r else 0) (a::l) = (if p a then g a else 0) + sumBy (fun r => if p r then g r else 0) l := by simp [sumBy]
  rw [e,List.filter_cons,← sum_filter p g l]
  by_cases h : p a = true
  ·rw [if_pos h,if_pos h]; simp [sumBy]
  ·rw [if_neg h,if_neg h]; simp
theorem sum_ok {N : Nat} {l : List Int} (hl : ∀ x ∈ l,0 ≤ x ∧ x ≤ 1000000) (hn : l.length ≤ 1000) (hN : l.length < N) : crew_sum N l = some (sumBy (fun n => n) l) := by
 unfold crew_sum
 have hpre : ∀ i,i ≤ l.length → 0 ≤ sumBy (fun n => n) (l.take i) ∧ sumBy (fun n => n) (l.take i) ≤ 1000000 * (i : Int) := fun i => by
  induction i with
  | zero => intro _; simp [sumBy]
  | succ i ih =>
   intro hi
   have := ih (by omega)
   have hx := hl l[i] (List.getElem_mem _)
   rw [sumBy_take _ _ _ (by omega)]
   push_cast
   omega
 have hrun := runS (ρ := Int) (fun i : Nat => (sumBy (fun n => n) (l.take i),(i : Int))) l.length (fun s5 => crew_sum_b5 N l s5.1 s5.2) (fun i hi => by
  have a := hpre i (by omega)
  have b := hpre (i + 1) (by omega)
  show crew_sum_b5 N l (sumBy (fun n => n) (l.take i)) (i : Int) = _
  unfold crew_sum_b5
  rw [sumBy_take _ _ _ hi] at b
  rw [lt_dec hi,cond_true,getI_nat hi,Option.bind_some,W_succ (by omega),W_id (by omega) (by push_cast at b; omega)]
  simp only [sumBy_take _ _ _ hi]) (by
  show crew_sum_b5 N l _ _ = _
  unfold crew_sum_b5
  rw [ge_dec,cond_false]) hN
 have e0 : ((0 : Int),(0 : Int)) = (sumBy (fun n => n) (l.take 0),((0 : Nat) : Int)) := by simp [sumBy]
 rw [e0,hrun,Option.bind_some]
 show some (sumBy (fun n => n) (l.take l.length)) = _
 rw [List.take_length]
theorem load_gen {f : api_Span → Int} (hf : SelOk f) {c : crew_Cable} {B n : Int} (hB : B ≤ 10000000) (hl : ∀ r ∈ c.Rides,RB B r) (hn : c.Rides.length ≤ 31) (hc : 0 ≤ c.Car ∧ c.Car ≤ 1000) (h0 : 0 ≤ n) (h1 : n ≤ 20000000) (b : List Int × Int → Option (Step (List Int × Int) Int))
  (hb : ∀ l x,b (l,x) = cond (decide (x < ((c.Rides.length : Nat) : Int))) (Option.bind (getI c.Rides x) fun e_1 => cond (crew_Ride_on e_1 n) (Option.bind (room ((l ++ [f e_1.Weight])).length) fun _ => some (.cont (l ++ [f e_1.Weight],W (x + 1)))) (some (.cont (l,W (x + 1))))) (some (.brk (l,x)))) {N : Nat} (hN : 40 ≤ N) :
  (Option.bind (loopO b N ([c.Car],0)) fun x5 => exK x5 (fun s5 => Option.bind (crew_sum N s5.1) fun r => some r) some) = some (c.Car + ldF f c.Rides n) := by
 have hlen : ∀ i,(c.Car::(((c.Rides.take i).filter (fun r => onR r n)).map fun r => f r.Weight)).length ≤ 32 := fun i => by
  have h := List.length_filter_le (fun r => onR r n) (c.Rides.take i)
  rw [List.length_take] at h
  rw [List.length_cons,List.length_map]
  omega
 have hrun := runS (ρ := Int) (fun i : Nat => (c.Car::(((c.Rides.take i).filter (fun r => onR r n)).map fun r => f r.Weight),(i : Int))) c.Rides.length b (fun i hi => by
  have hr := hl c.Rides[i] (List.getElem_mem _)
  have hL := hlen i
  rw [hb,lt_dec hi,cond_true,getI_nat hi,Option.bind_some,W_succ (by omega),ride_on hr hB h0 h1,List.take_succ_eq_append_getElem hi,List.filter_append,List.map_append]
  by_cases h : onR c.Rides[i] n = true
  ·rw [h,cond_true,room_ok (by rw [List.length_append]; simp only [List.length_cons,List.length_nil] at hL ⊢; omega),Option.bind_some,List.filter_cons,if_pos h]
   rfl
  ·rw [show onR c.Rides[i] n = false by simpa using h,cond_false,List.filter_cons,if_neg h]
   simp) (by rw [hb,ge_dec,cond_false]) (N := N) (by omega)
 have e0 : (([c.Car] : List Int),(0 : Int)) = (c.Car::(((c.Rides.take 0).filter (fun r => onR r n)).map fun r => f r.Weight),((0 : Nat) : Int)) := rfl
 rw [e0,hrun,Option.bind_some]
 have hL := hlen c.Rides.length
 rw [List.take_length] at hL
 simp only [exK,List.take_length]
 rw [sum_ok (fun x hx => by
  rcases List.mem_cons.1 hx with rfl | hx
  ·omega
  ·obtain ⟨r,hr,rfl⟩ := List.mem_map.1 hx
   have hr' := hl r (List.mem_filter.1 hr).1
   have h2 := hf.bd r.Weight hr'.w1
   have a := hr'.w0
   have b := hr'.w2
   omega) (by omega) (by omega),Option.bind_some]
 have e : ∀ (a : Int) (l : List Int),sumBy (fun n => n) (a::l) = a + sumBy (fun n => n) l := fun a l => by simp [sumBy]
 rw [e,sum_filter]
 rfl
theorem loadL_ok {N : Nat} (hN : 40 ≤ N) {c : crew_Cable} {B n : Int} (hB : B ≤ 10000000) (hl : ∀ r ∈ c.Rides,RB B r) (hn : c.Rides.length ≤ 31) (hc : 0 ≤ c.Car ∧ c.Car ≤ 1000) (h0 : 0 ≤ n) (h1 : n ≤ 20000000) : crew_Cable_load_s2 N c n = some (c.Car + ldF api_Span.Lo c.Rides n) := by
 unfold crew_Cable_load_s2
 exact load_gen sel_lo hB hl hn hc h0 h1 _ (fun l x => rfl) hN
theorem loadH_ok {N : Nat} (hN : 40 ≤ N) {c : crew_Cable} {B n : Int} (hB : B ≤ 10000000) (hl : ∀ r ∈ c.Rides,RB B r) (hn : c.Rides.length ≤ 31) (hc : 0 ≤ c.Car ∧ c.Car ≤ 1000) (h0 : 0 ≤ n) (h1 : n ≤ 20000000) : crew_Cable_load N c n = some (c.Car + ldF api_Span.Hi c.Rides n) := by
 unfold crew_Cable_load
 exact load_gen sel_hi hB hl hn hc h0 h1 _ (fun l x => rfl) hN
def bey (c : crew_Cable) (x : Int) : Bool := decide (c.Most * c.Sag < x * c.Wide * 25)
theorem bey_bd {c : crew_Cable} (h : CarOk c) {x : Int} (h0 : 0 ≤ x) (h1 : x ≤ 100000) : (0 ≤ c.Most * c.Sag ∧ c.Most * c.Sag ≤ 100000000000) ∧ (0 ≤ x * c.Wide ∧ x * c.Wide ≤ 100000000) := by
 obtain ⟨a1,a2,a3,a4,b1,b2,b3,b4⟩ := h
 have m1 := mul_bd (a := c.Most) (b := c.Sag) b3 (by omega) b4 b2
 have m2 := mul_bd (a := x) (b := c.Wide) h0 (by omega) h1 a4
 omega
theorem beyond_ok {c : crew_Cable} (h : CarOk c) {x : Int} (h0 : 0 ≤ x) (h1 : x ≤ 100000) : crew_Cable_beyond c x = bey c x := by
 obtain ⟨m1,m2⟩ := bey_bd h h0 h1
 unfold crew_Cable_beyond bey
 rw [W_id (n := c.Most * c.Sag) (by omega) (by omega),W_id (n := x * c.Wide) (by omega) (by omega),W_id (by omega) (by omega)]
theorem bey_mono {c : crew_Cable} (h : CarOk c) {x y : Int} (hxy : x ≤ y) (hx : bey c x = true) : bey c y = true := by
 unfold bey at hx ⊢
 rw [decide_eq_true_eq] at hx ⊢
 have := Int.mul_le_mul_of_nonneg_right hxy (show 0 ≤ c.Wide by have := h.w0; omega)
 omega

end Go.Nilo
