/-
  What the plain functions compute, in plain arithmetic, part 6. Conditions: what each theorem names.
-/
import Derived.Test.YtakhbnnlhoninadSsL5
set_option linter.unusedSimpArgs false
set_option linter.unusedVariables false
namespace Go.Nilo
def g0 : shift_Gauging := ⟨0,0,⟨0,0⟩⟩
def daysF (l : List shift_Gauging) : Bool := (List.range' 0 l.length).all fun i => decide (i = 0) || decide ((l.getD (i - 1) g0).Day < (l.getD i g0).Day)
def checkF (r : shift_Record) : Int :=
 if ratedF r.Rating = 3 ∨ ¬(1 ≤ r.Gaugings.length ∧ r.Gaugings.length ≤ 30) then 3 else if ratedF r.Rating ≠ 0 then ratedF r.Rating else if r.Gaugings.all shift_Check_1 = false then 60 else if upF r.Rating = false then 9 else if daysF r.Gaugings then 0 else 9
theorem every_gauging {N : Nat} {l : List shift_Gauging} (hl : l.length < N) (hl' : l.length ≤ 1000000) : shift_every_shift_Gauging N l = some (l.all shift_Check_1) := by
 unfold shift_every_shift_Gauging slices_ContainsFunc_Lshift_Gauging_shift_Gauging slices_IndexFunc_Lshift_Gauging_shift_Gauging
 exact every_gen (f := shift_every_shift_Gauging_1) (ok := shift_Check_1) (fun x => rfl) hl hl' _ (fun x => rfl)
theorem Check_spec {N : Nat} (hN : 700 ≤ N) {r : shift_Record} (h1 : r.Rating.length ≤ 50) (h2 : r.Gaugings.length ≤ 50) : shift_Check N r = some (checkF r) := by
 unfold shift_Check checkF
 rw [rated_spec hN h1,Option.bind_some,in_len]
 by_cases h3 : ratedF r.Rating = 3
 ·rw [if_pos (.inl h3),h3]
  rfl
 have e3 : (ratedF r.Rating == 3) = false := by simp [h3]
 rw [e3,Bool.false_or]
 by_cases h4 : 1 ≤ r.Gaugings.length ∧ r.Gaugings.length ≤ 30
 ·rw [if_neg (by rintro (h | h); exact h3 h; exact h h4)]
  have e4 : (!(decide ((1 : Int) ≤ (r.Gaugings.length : Int)) && decide ((r.Gaugings.length : Int) ≤ (30 : Int)))) = false := by
   rw [dT (by omega),dT (by omega)]
   rfl
  rw [e4,cond_false]
  by_cases h5 : ratedF r.Rating = 0
  ·have e5 : (ratedF r.Rating != 0) = false := by simp [h5]
   rw [e5,cond_false,if_neg (by simp [h5]),every_gauging (by omega) (by omega),Option.bind_some]
   cases r.Gaugings.all shift_Check_1 with
   | false => rfl
   | true =>
    rw [if_neg (by simp),Bool.not_true,cond_false,rises_spec hN (by have := ratedF_len h5; omega) h1,Option.bind_some]
    cases upF r.Rating with
    | false => rfl
    | true =>
     rw [if_neg (by simp),Bool.not_true,cond_false]
     have hs := scanS (ρ := Int) (fun i : Nat => (i : Int)) (fun j => cond (decide (j = 0) || decide ((r.Gaugings.getD (j - 1) g0).Day < (r.Gaugings.getD j g0).Day)) none (some 9)) r.Gaugings.length (fun s14 => shift_Check_b14 N r s14) (fun i hi => by
      show shift_Check_b14 N r (i : Int) = _
      unfold shift_Check_b14
      rw [lt_dec hi,cond_true,getI_d g0 hi,Option.bind_some,W_succ (by omega)]
      rcases Nat.eq_zero_or_pos i with h | h
      ·subst h
       rfl
      ·rw [dT (show (0 : Int) < (i : Int) by omega),cond_true,W_sm (n := (i : Int) - 1) (by omega) (by omega),show ((i : Nat) : Int) - 1 = ((i - 1 : Nat) : Int) by omega,getI_d g0 (by omega),Option.bind_some,Option.bind_some,dF (show ¬ i = 0 by omega),Bool.false_or]
       rcases Int.lt_or_le (r.Gaugings.getD (i - 1) g0).Day (r.Gaugings.getD i g0).Day with h | h
       ·rw [dT h,dF (by omega)]
        rfl
       ·rw [dT h,dF (by omega)]
        rfl) (by
      show shift_Check_b14 N r (r.Gaugings.length : Int) = _
      unfold shift_Check_b14
      rw [ge_dec,cond_false]) r.Gaugings.length 0 N (by omega) (by omega)
     rw [show (0 : Int) = ((0 : Nat) : Int) from rfl,hs,firstG_range]
     unfold daysF
     cases (List.range' 0 r.Gaugings.length).all _ <;> rfl
  ·have e5 : (ratedF r.Rating != 0) = true := by simp [h5]
   rw [e5,cond_true,if_pos (by simp [h5])]
 ·rw [if_pos (.inr h4)]
  have e4 : (!(decide ((1 : Int) ≤ (r.Gaugings.length : Int)) && decide ((r.Gaugings.length : Int) ≤ (30 : Int)))) = true := by
   rw [Bool.not_eq_true',Bool.eq_false_iff]
   intro hc
   simp only [Bool.and_eq_true,decide_eq_true_eq] at hc
   omega
  rw [e4]
  rfl
structure GOkS (g : shift_Gauging) : Prop where
 d : 0 ≤ g.Day ∧ g.Day ≤ 40000
 s : -2000 ≤ g.Stage ∧ g.Stage ≤ 2000
 f : 0 ≤ g.Flow.Lo ∧ g.Flow.Lo ≤ g.Flow.Hi ∧ g.Flow.Hi ≤ 1000000000
theorem gok_iff {g : shift_Gauging} : shift_Check_1 g = true ↔ GOkS g := by
 simp only [shift_Check_1,shift_stage,shift_flow,shift_in,Bool.and_eq_true,decide_eq_true_eq]
 constructor
 ·intro h
  exact ⟨by omega,by omega,by omega⟩
 ·rintro ⟨a,b,c⟩
  omega
structure RecOk (r : shift_Record) : Prop where
 rt : ROk r.Rating
 g1 : 1 ≤ r.Gaugings.length
 g30 : r.Gaugings.length ≤ 30
 g : ∀ g ∈ r.Gaugings,GOkS g
 d : ∀ i,i + 1 < r.Gaugings.length → (r.Gaugings.getD i g0).Day < (r.Gaugings.getD (i + 1) g0).Day
theorem days_iff {l : List shift_Gauging} : daysF l = true ↔ ∀ i,i + 1 < l.length → (l.getD i g0).Day < (l.getD (i + 1) g0).Day := by
 unfold daysF
 rw [range_all]
 constructor
 ·intro h i hi
  have := h (i + 1) hi
  rw [dF (show ¬ i + 1 = 0 by omega),Bool.false_or,Nat.add_sub_cancel] at this
  exact of_decide_eq_true this
 ·intro h j hj
  rcases Nat.eq_zero_or_pos j with h0 | h0
  ·rw [dT h0]
   rfl
  ·rw [dF (show ¬ j = 0 by omega),Bool.false_or]
   have := h (j - 1) (by omega)
   rw [Nat.sub_add_cancel h0] at this
   exact dT this
theorem check_iff {r : shift_Record} : checkF r = 0 ↔ RecOk r := by
 unfold checkF
 constructor
 ·intro h
  split at h
  ·omega
  ·rename_i h1
   split at h
   ·omega
   ·rename_i h2
    split at h
    ·omega
    ·rename_i h3
     split at h
     ·omega
     ·rename_i h4
      split at h
      ·rename_i h5
       have h6 : 1 ≤ r.Gaugings.length ∧ r.Gaugings.length ≤ 30 := by
        rcases Classical.em (1 ≤ r.Gaugings.length ∧ r.Gaugings.length ≤ 30) with c | c
        ·exact c
        ·exact absurd (.inr c) h1
       have h7 : ratedF r.Rating = 0 := by omega
       have h8 : upF r.Rating = true := by simpa using h4
       have h9 : r.Gaugings.all shift_Check_1 = true := by simpa using h3
       exact ⟨rok_iff.1 ⟨h7,h8⟩,h6.1,h6.2,fun g hg => gok_iff.1 (List.all_eq_true.1 h9 g hg),days_iff.1 h5⟩
      ·omega
 ·intro h
  obtain ⟨h1,h2⟩ := rok_iff.2 h.rt
  have h3 : r.Gaugings.all shift_Check_1 = true := List.all_eq_true.2 fun g hg => gok_iff.2 (h.g g hg)
  rw [if_neg (by rintro (c | c); omega; exact c ⟨h.g1,h.g30⟩),if_neg (by simp [h1]),if_neg (by simp [h3]),if_neg (by simp [h2]),if_pos (days_iff.2 h.d)]
theorem shifts_run {N : Nat} (hN : 700 ≤ N) {σ : Type} (y : σ → Int × Int → Option (σ × Bool)) (st : Nat → σ) (h : ∀ i : Nat,i < 601 → y (st i) ((i : Int),(i : Int) - 300) = some (st (i + 1),true)) : shift_shifts_1 N y (st 0) = some (st 601) := by
 unfold shift_shifts_1
 have := runS (ρ := σ) (fun i : Nat => ((i : Int),st i)) 601 (fun s3 => shift_shifts_1_b3 N y s3.1 s3.2) (fun i hi => by
  show shift_shifts_1_b3 N y (i : Int) (st i) = _
  unfold shift_shifts_1_b3
  rw [dT (by omega),cond_true,W_sm (by omega) (by omega),h i hi,Option.bind_some,W_succ (by omega)]
  rfl) rfl (N := N) (by omega)
 rw [show ((0 : Int),st 0) = (((0 : Nat) : Int),st 0) from rfl,this]
 rfl
theorem shifts_brk {N : Nat} (hN : 700 ≤ N) {σ : Type} (y : σ → Int × Int → Option (σ × Bool)) (st : Nat → σ) (z : σ) (k : Nat) (hk : k < 601) (h : ∀ i : Nat,i < k → y (st i) ((i : Int),(i : Int) - 300) = some (st (i + 1),true)) (hz : y (st k) ((k : Int),(k : Int) - 300) = some (z,false)) : shift_shifts_1 N y (st 0) = some z := by
 unfold shift_shifts_1
 have key : ∀ m i M,i + m = k → m + 1 < M → loopO (fun s3 : Int × σ => shift_shifts_1_b3 N y s3.1 s3.2) M ((i : Int),st i) = some (.out z) := by
  intro m
  induction m with
  | zero =>
   intro i M hi hM
   obtain ⟨M,rfl⟩ : ∃ M',M = M' + 1 := ⟨M - 1,by omega⟩
   obtain rfl : i = k := by omega
   unfold loopO
   have : shift_shifts_1_b3 N y (i : Int) (st i) = some (.ret z) := by
    unfold shift_shifts_1_b3
    rw [dT (by omega),cond_true,W_sm (by omega) (by omega),hz,Option.bind_some]
    rfl
   simp only [this]
  | succ m ih =>
   intro i M hi hM
   obtain ⟨M,rfl⟩ : ∃ M',M = M' + 1 := ⟨M - 1,by omega⟩
   unfold loopO
   have : shift_shifts_1_b3 N y (i : Int) (st i) = some (.cont (((i + 1 : Nat) : Int),st (i + 1))) := by
    unfold shift_shifts_1_b3
    rw [dT (by omega),cond_true,W_sm (by omega) (by omega),h i (by omega),Option.bind_some,W_succ (by omega)]
    rfl
   simp only [this]
   exact ih (i + 1) M (by omega) (by omega)
 have := key k 0 N (by omega) (by omega)
 rw [show ((0 : Int),st 0) = (((0 : Nat) : Int),st 0) from rfl,this]
 rfl
def spanN (P : Int → Bool) : Nat → Int × Int
 | 0 => (1,0)
 | n + 1 => if P ((n : Int) - 300) = true then (if (spanN P n).2 < (spanN P n).1 then (n : Int) - 300 else (spanN P n).1,(n : Int) - 300) else spanN P n
theorem spanN_spec (P : Int → Bool) : ∀ n : Nat,((spanN P n).1 ≤ (spanN P n).2 ∧ P (spanN P n).1 = true ∧ P (spanN P n).2 = true ∧ -300 ≤ (spanN P n).1 ∧ (spanN P n).2 < (n : Int) - 300 ∧ ∀ x,-300 ≤ x → x < (n : Int) - 300 → P x = true → (spanN P n).1 ≤ x ∧ x ≤ (spanN P n).2) ∨
  ((spanN P n).1 = 1 ∧ (spanN P n).2 = 0 ∧ ∀ x,-300 ≤ x → x < (n : Int) - 300 → P x = false)
 | 0 => .inr ⟨rfl,rfl,fun x h1 h2 => by omega⟩
 | n + 1 => by
  have ih := spanN_spec P n
  unfold spanN
  by_cases hp : P ((n : Int) - 300) = true
  ·rw [if_pos hp]
   rcases ih with ⟨a,b,c,d,e,f⟩ | ⟨a,b,c⟩
   ·left
    rw [if_neg (by omega)]
    refine ⟨by omega,b,hp,d,by push_cast; omega,fun x h1 h2 hx => ?_⟩
    rcases Int.lt_or_le x ((n : Int) - 300) with h | h
    ·have := f x h1 h hx
     omega
    ·show (spanN P n).1 ≤ x ∧ x ≤ (n : Int) - 300
     push_cast at h2
     omega
   ·left
    rw [if_pos (by omega)]
    refine ⟨Int.le_refl _,hp,hp,by omega,by push_cast; omega,fun x h1 h2 hx => ?_⟩
    rcases Int.lt_or_le x ((n : Int) - 300) with h | h
    ·rw [c x h1 h] at hx
     cases hx
    ·show (n : Int) - 300 ≤ x ∧ x ≤ (n : Int) - 300
     push_cast at h2
     omega
  ·rw [if_neg hp]
   have hx : ∀ x,-300 ≤ x → x < ((n + 1 : Nat) : Int) - 300 → P x = true → x < (n : Int) - 300 := fun x h1 h2 hx => by
    rcases Int.lt_or_le x ((n : Int) - 300) with h | h
    ·exact h
    ·have : x = (n : Int) - 300 := by push_cast at h2; omega
     subst this
     exact absurd hx hp
   rcases ih with ⟨a,b,c,d,e,f⟩ | ⟨a,b,c⟩
   ·exact .inl ⟨a,b,c,d,by push_cast; omega,fun x h1 h2 hp => f x h1 (hx x h1 h2 hp) hp⟩
   ·refine .inr ⟨a,b,fun x h1 h2 => ?_⟩
    cases hpx : P x with
    | false => rfl
    | true =>
     have := c x h1 (hx x h1 h2 hpx)
     rw [hpx] at this
     cases this
def passP (l : List shift_Mark) (g : shift_Gauging) (sh : Int) : Bool := decide (g.Flow.Lo * (mean l (g.Stage - sh)).D ≤ (mean l (g.Stage - sh)).N) && decide ((mean l (g.Stage - sh)).N ≤ g.Flow.Hi * (mean l (g.Stage - sh)).D)
def pspan (l : List shift_Mark) (g : shift_Gauging) : api_Span := ⟨(spanN (passP l g) 601).1,(spanN (passP l g) 601).2⟩
theorem passed_spec {N : Nat} (hN : 700 ≤ N) {r : shift_Record} (hr : ROk r.Rating) {o : List api_Span} {g : shift_Gauging} (hg : GOkS g) {sh : Int} (hs : -300 ≤ sh ∧ sh ≤ 300) : shift_book_passed N ⟨r,o⟩ g sh = some (passP r.Rating g sh) := by
 unfold shift_book_passed
 have h1 := hg.s
 have h2 := hg.f
 show Option.bind (shift_means N r.Rating (W (g.Stage - sh))) _ = _
 rw [W_sm (by omega) (by omega),means_spec hN hr (by omega),Option.bind_some]
 obtain ⟨a,b,-,-,-⟩ := mean_val hr (g.Stage - sh)
 have m1 := mul_bd h2.1 (show 0 ≤ (mean r.Rating (g.Stage - sh)).D by omega) (show g.Flow.Lo ≤ 1000000000 by omega) b
 have m2 := mul_bd (show 0 ≤ g.Flow.Hi by omega) (show 0 ≤ (mean r.Rating (g.Stage - sh)).D by omega) h2.2.2 b
 rw [W_sm (by omega) (by omega),W_sm (by omega) (by omega)]
 rfl
theorem pspan_run {N : Nat} (hN : 700 ≤ N) {r : shift_Record} (hr : ROk r.Rating) {o : List api_Span} {g : shift_Gauging} (hg : GOkS g) :
  shift_shifts_1 N (rY (fun (zz : Int × Int) (ix_ : (Int × Int)) => shift_opened_r21 N r o g zz.1 zz.2 ix_.1 ix_.2)) (.go (1,0)) = some (.go ((pspan r.Rating g).Lo,(pspan r.Rating g).Hi)) := by
 have := shifts_run hN (rY (fun (zz : Int × Int) (ix_ : (Int × Int)) => shift_opened_r21 N r o g zz.1 zz.2 ix_.1 ix_.2)) (fun i => .go (spanN (passP r.Rating g) i)) (fun i hi => by
  show Option.map _ (shift_opened_r21 N r o g (spanN (passP r.Rating g) i).1 (spanN (passP r.Rating g) i).2 (i : Int) ((i : Int) - 300)) = _
  unfold shift_opened_r21
  rw [passed_spec hN hr hg (by omega),Option.bind_some]
  rw [show spanN (passP r.Rating g) (i + 1) = if passP r.Rating g ((i : Int) - 300) = true then (if (spanN (passP r.Rating g) i).2 < (spanN (passP r.Rating g) i).1 then (i : Int) - 300 else (spanN (passP r.Rating g) i).1,(i : Int) - 300) else spanN (passP r.Rating g) i from rfl]
  cases passP r.Rating g ((i : Int) - 300) with
  | false => rfl
  | true =>
   rw [if_pos rfl,cond_true]
   by_cases h : (spanN (passP r.Rating g) i).2 < (spanN (passP r.Rating g) i).1
   ·rw [dT h,if_pos h]
    rfl
   ·rw [dF h,if_neg h]
    rfl)
 exact this
def spanOk (s : api_Span) : Bool := decide (s.Lo ≤ s.Hi)
theorem opened_loop {N : Nat} (hN : 700 ≤ N) {r : shift_Record} (hr : RecOk r) : ∀ (m i M : Nat) (o : List api_Span),i + m = r.Gaugings.length → m < M → o.length = i →
  ∃ x o',loopO (fun s12 : Int × Int × List api_Span => shift_opened_b12 N r s12.1 s12.2.1 s12.2.2) M (0,(i : Int),o) = some (.go (if ((r.Gaugings.drop i).map (pspan r.Rating)).all spanOk then 0 else 6,x,o')) ∧
   (((r.Gaugings.drop i).map (pspan r.Rating)).all spanOk = true → o' = o ++ (r.Gaugings.drop i).map (pspan r.Rating)) := by
 intro m
 induction m with
 | zero =>
  intro i M o hi hM ho
  obtain ⟨M,rfl⟩ : ∃ M',M = M' + 1 := ⟨M - 1,by omega⟩
  obtain rfl : i = r.Gaugings.length := by omega
  have hd : r.Gaugings.drop r.Gaugings.length = [] := List.drop_eq_nil_of_le (Nat.le_refl _)
  rw [hd]
  refine ⟨(r.Gaugings.length : Int),o,?_,fun _ => by simp⟩
  unfold loopO
  have : shift_opened_b12 N r 0 (r.Gaugings.length : Int) o = some (.brk (0,(r.Gaugings.length : Int),o)) := by
   unfold shift_opened_b12
   rw [ge_dec,cond_false]
  simp only [this]
  rfl
 | succ m ih =>
  intro i M o hi hM ho
  have h30 := hr.g30
  obtain ⟨M,rfl⟩ : ∃ M',M = M' + 1 := ⟨M - 1,by omega⟩
  have hil : i < r.Gaugings.length := by omega
  have hgm : r.Gaugings.getD i g0 ∈ r.Gaugings := by
   rw [← get_getD hil]
   exact List.getElem_mem _
  have hd : r.Gaugings.drop i = r.Gaugings.getD i g0::r.Gaugings.drop (i + 1) := by rw [List.drop_eq_getElem_cons hil,get_getD (d := g0) hil]
  rw [hd,List.map_cons,List.all_cons]
  unfold loopO
  have hb : shift_opened_b12 N r 0 (i : Int) o = (if spanOk (pspan r.Rating (r.Gaugings.getD i g0)) = true then some (.cont (0,((i + 1 : Nat) : Int),o ++ [pspan r.Rating (r.Gaugings.getD i g0)])) else some (.brk (6,(i : Int),o))) := by
   unfold shift_opened_b12
   rw [lt_dec hil,cond_true,getI_d g0 hil,Option.bind_some,pspan_run hN hr.rt (hr.g _ hgm),Option.bind_some]
   show cond (decide ((pspan r.Rating (r.Gaugings.getD i g0)).Hi < (pspan r.Rating (r.Gaugings.getD i g0)).Lo)) _ _ = _
   unfold spanOk
   by_cases h : (pspan r.Rating (r.Gaugings.getD i g0)).Lo ≤ (pspan r.Rating (r.Gaugings.getD i g0)).Hi
   ·rw [dF (by omega),dT h,cond_false,if_pos rfl,room_ok (by simp; omega),Option.bind_some,W_succ (by omega)]
   ·rw [dT (by omega),dF h,cond_true,if_neg (by simp)]
  cases hs : spanOk (pspan r.Rating (r.Gaugings.getD i g0)) with
  | false =>
   rw [hs,if_neg (by simp)] at hb
   refine ⟨(i : Int),o,?_,fun h => by simp at h⟩
   simp only [hb]
   rfl
  | true =>
   rw [hs,if_pos rfl] at hb
   obtain ⟨x,o',k1,k2⟩ := ih (i + 1) M (o ++ [pspan r.Rating (r.Gaugings.getD i g0)]) (by omega) (by omega) (by simp [ho])
   refine ⟨x,o',?_,fun h => ?_⟩
   ·simp only [hb,Bool.true_and]
    exact k1
   ·have := k2 (by simpa using h)
    rw [this]
    simp
def passes (r : shift_Record) : List api_Span := r.Gaugings.map (pspan r.Rating)
theorem opened_ok {N : Nat} (hN : 700 ≤ N) {r : shift_Record} (hr : RecOk r) : (∃ o,shift_opened N r = some (.inr (o,6)) ∧ (passes r).all spanOk = false) ∨ (shift_opened N r = some (.inr (passes r,0)) ∧ (passes r).all spanOk = true) := by
 have h12 := hr.rt.l12
 have h30 := hr.g30
 unfold shift_opened
 rw [Check_spec hN (by omega) (by omega),Option.bind_some,check_iff.2 hr]
 show (∃ o,Option.bind (loopO _ N (0,((0 : Nat) : Int),([] : List api_Span))) _ = _ ∧ _) ∨ (Option.bind (loopO _ N (0,((0 : Nat) : Int),([] : List api_Span))) _ = _ ∧ _)
 obtain ⟨x,o',k1,k2⟩ := opened_loop hN hr r.Gaugings.length 0 N [] (by omega) (by omega) rfl
 rw [k1,Option.bind_some]
 rw [List.drop_zero] at *
 cases hs : (passes r).all spanOk with
 | false =>
  left
  refine ⟨o',?_,rfl⟩
  show some (Sum.inr (o',if (passes r).all spanOk = true then (0 : Int) else 6)) = _
  rw [hs]
  rfl
 | true =>
  right
  refine ⟨?_,rfl⟩
  show some (Sum.inr (o',if (passes r).all spanOk = true then (0 : Int) else 6)) = _
  rw [hs,k2 hs]
  rfl
end Go.Nilo
