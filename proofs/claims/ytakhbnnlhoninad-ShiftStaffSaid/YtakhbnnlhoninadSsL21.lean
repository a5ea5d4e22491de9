/-
  What the plain functions compute, in plain arithmetic, part 21. Conditions: what each theorem names.
-/
import Derived.Test.YtakhbnnlhoninadSsL20
set_option linter.unusedSimpArgs false
set_option linter.unusedVariables false
namespace Go.Nilo
theorem pspan_in {l : List shift_Mark} {g : shift_Gauging} {x : Int} (h : passP l g x = true) (h1 : -300 ≤ x) (h2 : x ≤ 300) : spanOk (pspan l g) = true ∧ (pspan l g).Lo ≤ x ∧ x ≤ (pspan l g).Hi := by
 rcases spanN_spec (passP l g) 601 with ⟨a,b,c,d,e,f⟩ | ⟨a,b,c⟩
 ·exact ⟨dT a,f x h1 (by omega) h⟩
 ·rw [c x h1 (by omega)] at h
  cases h
theorem pass_crs {r : shift_Record} {c : List Int} (hlen : c.length = r.Gaugings.length) (h : ∀ j,j < r.Gaugings.length → passP r.Rating (r.Gaugings.getD j g0) (c.getD j 0) = true ∧ -300 ≤ c.getD j 0 ∧ c.getD j 0 ≤ 300) : (passes r).all spanOk = true ∧ Crs (passes r) c := by
 constructor
 ·rw [List.all_eq_true]
  intro s hs
  obtain ⟨g,hg,rfl⟩ := List.mem_map.1 hs
  obtain ⟨i,hi,rfl⟩ := List.getElem_of_mem hg
  rw [get_getD (d := g0) hi]
  obtain ⟨a,b,c⟩ := h i hi
  exact (pspan_in a b c).1
 ·refine Crs.of (by simp [passes,hlen]) fun i hi => ?_
  have hi' : i < r.Gaugings.length := by simpa [passes] using hi
  have e : (passes r).getD i s00 = pspan r.Rating (r.Gaugings.getD i g0) := by simp [passes,List.getD,hi']
  rw [e]
  obtain ⟨a,b,c⟩ := h i hi'
  exact (pspan_in a b c).2
structure SInv (l : List shift_Mark) (sank : Int) (i : Nat) (gs : List shift_Gauging) : Prop where
 lg : gs.length = i
 g : ∀ j,j < i → GOkS (gs.getD j g0) ∧ (gs.getD j g0).Day = (j : Int) ∧ passP l (gs.getD j g0) sank = true
theorem SInv.next {l : List shift_Mark} {sank : Int} {i : Nat} {gs : List shift_Gauging} (h : SInv l sank i gs) {x : shift_Gauging} (h1 : GOkS x) (h2 : x.Day = (i : Int)) (h3 : passP l x sank = true) : SInv l sank (i + 1) (gs ++ [x]) := by
 obtain ⟨lg,g⟩ := h
 refine ⟨by simp [lg],fun j hj => ?_⟩
 rcases Nat.lt_or_eq_of_le (show j ≤ i by omega) with c | c
 ·rw [getD_lt (by omega)]
  exact g j c
 ·subst c
  have : (gs ++ [x]).getD j g0 = x := by subst lg; exact getD_eq
  rw [this]
  exact ⟨h1,h2,h3⟩
theorem near3 {sank : Int} (h : 0 ≤ sank ∧ sank ≤ 59) : Lv.Near [0,40,40 - sank] := by
 intro i
 match i with
 | 0 => exact ⟨by simp,by simp⟩
 | 1 => exact ⟨by simp,by simp⟩
 | 2 => refine ⟨?_,?_⟩ <;> (show _ ≤ _; simp; omega)
 | i + 3 => exact ⟨by simp,by simp⟩
theorem move_const (x : Int) : ∀ n : Nat,move (List.replicate n x) = 0
 | 0 => rfl
 | 1 => rfl
 | n + 2 => by
  have := move_const x (n + 1)
  rw [List.replicate_succ] at this
  rw [List.replicate_succ,List.replicate_succ,move,this]
  unfold ap
  omega
theorem getD_rep {x d : Int} {n j : Nat} (h : j < n) : (List.replicate n x).getD j d = x := by simp [List.getD,h]
theorem staff_law {numbers lines : List Int} (hb : Bytes numbers) (hl : Bytes lines) {by_ : Int} (hby : 0 ≤ by_ ∧ by_ ≤ 255) : law05_ShiftStaff 700 numbers lines by_ = some true := by
 have hN : 700 ≤ 700 := Nat.le_refl _
 have e0 : (W by_).tmod 60 = by_ % 60 := by rw [W_sm (by omega) (by omega),tmod_mod (by omega)]
 have hs0 : 0 ≤ by_ % 60 ∧ by_ % 60 ≤ 59 := by omega
 unfold law05_ShiftStaff law05_ShiftStaff_b22
 rw [e0]
 generalize by_ % 60 = sank at *
 rw [W_sm (n := 40 - sank) (by omega) (by omega)]
 obtain ⟨l,u1,m1,k1,a1,a2,a3,hr⟩ := Rated_spec hN hb (u := 0) (m := 0) (k := 0) ⟨by omega,by omega,by omega,by omega⟩ (by omega)
 show Option.bind (law05_Rated 700 ⟨numbers,0,0⟩) _ = _
 rw [a1,Option.bind_some]
 have hH := near3 hs0
 obtain ⟨l1,u2,m2,b1,b2,b3⟩ := Lv.lev_ok (N := 700) hl (u := 0) (m := 0) (k := 0) ⟨by omega,by omega,by omega,by omega⟩ (by omega) hH (a := 0) (b := 1) (by simp) (by simp) (day := 1) (by omega)
 obtain ⟨l2,u3,m3,c1,c2,c3⟩ := Lv.lev_ok (N := 700) hl b3 (by omega) hH (a := 0) (b := 2) (by simp) (by simp) (day := 9) (by omega)
 obtain ⟨l3,u4,m4,d1,d2,d3⟩ := Lv.lev_ok (N := 700) hl c3 (by omega) hH (a := 2) (b := 1) (by simp) (by simp) (day := 9) (by omega)
 show Option.bind (law01_Levelled 700 ⟨lines,0,0⟩ [0,40,40 - sank] ((0 : Nat) : Int) ((1 : Nat) : Int) 1) _ = _
 rw [b1,Option.bind_some]
 show Option.bind (law01_Levelled 700 ⟨lines,u2,m2⟩ [0,40,40 - sank] ((0 : Nat) : Int) ((2 : Nat) : Int) 9) _ = _
 rw [c1,Option.bind_some]
 show Option.bind (law01_Levelled 700 ⟨lines,u3,m3⟩ [0,40,40 - sank] ((2 : Nat) : Int) ((1 : Nat) : Int) 9) _ = _
 rw [d1,Option.bind_some]
 have hn : Lv.LnsH 3 [0,40,40 - sank] [l1,l2,l3] := by
  refine ⟨by omega,by omega,by simp,fun i hi => ?_⟩
  match i,hi with
  | 0,_ => exact ⟨0,1,by omega,by omega,by omega,b2⟩
  | 1,_ => exact ⟨0,2,by omega,by omega,by omega,c2⟩
  | 2,_ => exact ⟨2,1,by omega,by omega,by omega,d2⟩
  | i + 3,hi => simp at hi; omega
 obtain ⟨s,f1,f2,f3⟩ := Lv.held (N := 700) (V := 3) (n := ⟨3,[l1,l2,l3]⟩) (by omega) rfl hH hn (i := 2) (by simp) (a := 2) (b := 1) d2 (by omega) (by omega)
 have f4 : ([0,40,40 - sank] : List Int).getD 1 0 - ([0,40,40 - sank] : List Int).getD 2 0 = sank := by
  show 40 - (40 - sank) = sank
  omega
 rw [f4] at f2 f3
 show Option.bind (level_Between 700 ⟨3,[l1,l2,l3]⟩ ((2 : Nat) : Int) ((1 : Nat) : Int)) _ = _
 rw [f1,Option.bind_some]
 dsimp only
 rw [bne_self_eq_false,dF (show ¬ sank < s.Lo by omega),dF (show ¬ s.Hi < sank by omega),Bool.or_false,Bool.or_false,cond_false]
 obtain ⟨n,u5,m5,g1,g2,g3,g4⟩ := next_spec (N := 700) hb (n := 6) a2 (by omega)
 rw [g1,Option.bind_some]
 obtain ⟨n,rfl⟩ := Int.eq_ofNat_of_zero_le g2
 have e1n : W (1 + (n : Int)) = ((1 + n : Nat) : Int) := by rw [W_sm (by omega) (by omega)]; push_cast; rfl
 have hro := hr.ok
 obtain ⟨s',h1,h2⟩ := loopInv (ρ := Bool) (fun s14 : Int × Int × Int × List shift_Gauging => law05_ShiftStaff_b14 700 numbers by_ (l,u1,m1) ((n : Int),u5,m5) s14.1 s14.2.1 s14.2.2.1 s14.2.2.2)
  (fun i s => s.1 = (i : Int) ∧ SOk s.2.1 s.2.2.1 (k1 + 1 + i) ∧ SInv l sank i s.2.2.2) (1 + n) (fun i s hi hI => by
   obtain ⟨x,v,q,gs⟩ := s
   obtain ⟨i1,i2,i3⟩ := hI
   simp only at i1 i2 i3
   subst i1
   obtain ⟨st,u6,m6,p1,p2,p3,p4⟩ := within_spec (N := 700) hb (lo := -30) (hi := 120) i2 (by omega) (by omega) (by omega) (by omega)
   obtain ⟨v1,v2,v3,v4,v5⟩ := mean_val hro st
   have v6 := mean_le hro st
   have il := i3.lg
   have w0 := Int.emod_add_mul_ediv (mean l st).N (mean l st).D
   have w1 := Int.emod_nonneg (mean l st).N (show (mean l st).D ≠ 0 by omega)
   have w2 := Int.emod_lt_of_pos (mean l st).N (show 0 < (mean l st).D by omega)
   have w3 := Int.emod_add_mul_ediv ((mean l st).N + (mean l st).D - 1) (mean l st).D
   have w4 := Int.emod_nonneg ((mean l st).N + (mean l st).D - 1) (show (mean l st).D ≠ 0 by omega)
   have w5 := Int.emod_lt_of_pos ((mean l st).N + (mean l st).D - 1) (show 0 < (mean l st).D by omega)
   have b0 : 0 ≤ (mean l st).N / (mean l st).D := Int.ediv_nonneg v3 (by omega)
   have b3 : (mean l st).N / (mean l st).D ≤ ((mean l st).N + (mean l st).D - 1) / (mean l st).D := Int.ediv_le_ediv (by omega) (by omega)
   have b4 : (mean l st).N ≤ ((mean l st).N + (mean l st).D - 1) / (mean l st).D * (mean l st).D := by
    rw [Int.mul_comm]
    omega
   have b5 : (mean l st).N / (mean l st).D * (mean l st).D ≤ (mean l st).N := by
    rw [Int.mul_comm]
    omega
   have b6 : ((mean l st).N + (mean l st).D - 1) / (mean l st).D ≤ 1000000000 := by
    refine Int.lt_add_one_iff.1 (Int.ediv_lt_of_lt_mul (by omega) ?_)
    rw [show (1000000000 + 1) * (mean l st).D = 1000000000 * (mean l st).D + (mean l st).D by grind]
    omega
   refine ⟨(((i + 1 : Nat) : Int),u6,m6,gs ++ [⟨(i : Int),st + sank,⟨(mean l st).N / (mean l st).D,((mean l st).N + (mean l st).D - 1) / (mean l st).D⟩⟩]),?_,rfl,p4,i3.next ⟨by dsimp only; omega,by dsimp only; omega,by dsimp only; omega⟩ rfl ?_⟩
   ·show law05_ShiftStaff_b14 700 numbers by_ (l,u1,m1) ((n : Int),u5,m5) (i : Int) v q gs = _
    unfold law05_ShiftStaff_b14
    rw [e0]
    show cond (decide ((i : Int) < W (1 + (n : Int)))) _ _ = _
    rw [e1n,dT (show (i : Int) < ((1 + n : Nat) : Int) by omega),cond_true,p1,Option.bind_some]
    show Option.bind (shift_Means 700 l st 0) _ = _
    rw [Means_ok hN hro (by omega) (by omega),Option.bind_some]
    show Option.bind (shift_Means 700 l (W (st + sank)) sank) _ = _
    rw [W_sm (n := st + sank) (by omega) (by omega),Means_ok hN hro (by omega) (by omega),Option.bind_some,Int.sub_zero,show st + sank - sank = st by omega]
    have hz : nz (mean l st).D = some () := by unfold nz; rw [if_neg (by omega)]
    dsimp only
    rw [bne_self_eq_false,beq_self_eq_true,beq_self_eq_true,dF (show ¬ (mean l st).D < 1 by omega)]
    show Option.bind (nz (mean l st).D) _ = _
    rw [hz,Option.bind_some,Option.bind_some,W_sm (n := (mean l st).N + (mean l st).D) (by omega) (by omega),W_sm (n := (mean l st).N + (mean l st).D - 1) (by omega) (by omega),tdiv_div v3,tdiv_div (show 0 ≤ (mean l st).N + (mean l st).D - 1 by omega),W_sm (n := (mean l st).N / (mean l st).D) (by omega) (by omega),W_sm (n := ((mean l st).N + (mean l st).D - 1) / (mean l st).D) (by omega) (by omega)]
    unfold law05_span
    rw [Option.bind_some,room_ok (by simp; omega),Option.bind_some,W_succ (by omega)]
   ·unfold passP
    have hst : st + sank - sank = st := by omega
    show (decide ((mean l st).N / (mean l st).D * (mean l (st + sank - sank)).D ≤ (mean l (st + sank - sank)).N) && decide ((mean l (st + sank - sank)).N ≤ ((mean l st).N + (mean l st).D - 1) / (mean l st).D * (mean l (st + sank - sank)).D)) = true
    rw [hst,Bool.and_eq_true,decide_eq_true_eq,decide_eq_true_eq]
    exact ⟨b5,b4⟩) (fun s hI => by
   obtain ⟨x,v,q,gs⟩ := s
   obtain ⟨i1,i2,i3⟩ := hI
   simp only at i1
   subst i1
   show law05_ShiftStaff_b14 700 numbers by_ (l,u1,m1) ((n : Int),u5,m5) ((1 + n : Nat) : Int) v q gs = _
   unfold law05_ShiftStaff_b14
   show cond (decide (((1 + n : Nat) : Int) < W (1 + (n : Int)))) _ _ = _
   rw [e1n,ge_dec,cond_false]) (1 + n) 0 (0,u5,m5,[]) 700 (by omega) (by omega) ⟨rfl,g4,⟨rfl,fun j hj => by omega⟩⟩
 obtain ⟨x,v,q,gs⟩ := s'
 obtain ⟨i1,i2,i3⟩ := h2
 simp only at i1 i2 i3
 have hlg := i3.lg
 have hrec : RecOk ⟨l,gs⟩ := by
  refine ⟨hro,by show 1 ≤ gs.length; omega,by show gs.length ≤ 30; omega,fun g hg => ?_,fun i hi => ?_⟩
  ·obtain ⟨i,hi,rfl⟩ := List.getElem_of_mem hg
   have hi' : i < gs.length := hi
   show GOkS gs[i]
   rw [get_getD (d := g0) hi']
   exact (i3.g i (by omega)).1
  ·have hi' : i + 1 < gs.length := hi
   show (gs.getD i g0).Day < (gs.getD (i + 1) g0).Day
   rw [(i3.g i (by omega)).2.1,(i3.g (i + 1) (by omega)).2.1]
   omega
 have hpc : (passes ⟨l,gs⟩).all spanOk = true ∧ Crs (passes ⟨l,gs⟩) (List.replicate gs.length sank) := by
  refine pass_crs (r := ⟨l,gs⟩) (by simp) fun j hj => ?_
  have hj' : j < gs.length := hj
  rw [getD_rep hj']
  exact ⟨(i3.g j (by omega)).2.2,by omega,by omega⟩
 have hvl := passes_vl hrec hpc.1
 have hle := least_le hvl hpc.2
 rw [move_const] at hle
 have hnn := least_nonneg hvl
 have h0 : leastF (passes ⟨l,gs⟩) = 0 := by omega
 have hpl : (passes ⟨l,gs⟩).length = gs.length := by simp [passes]
 rw [h1,Option.bind_some,Lv.exK_at]
 dsimp only
 rw [Passes_ok hN hrec hpc.1,Option.bind_some,Least_spec hN hrec hpc.1,Option.bind_some]
 dsimp only
 rw [h0,hpl,bne_self_eq_false,bne_self_eq_false]
 show Option.bind (loopO (fun x_4 : Int => cond (decide (x_4 < ((gs.length : Nat) : Int))) (Option.bind (getI (passes ⟨l,gs⟩) x_4) fun e_1 => cond ((decide (sank < e_1.Lo)) || (decide (e_1.Hi < sank))) (some (.ret false)) (some (.cont (W (x_4 + 1))))) (some (.brk x_4))) 700 ((0 : Nat) : Int)) _ = _
 rw [runS (ρ := Bool) (fun i : Nat => (i : Int)) gs.length _ (fun i hi => by
  have := Crs.at_ hpc.2 i (by omega)
  rw [getD_rep hi] at this
  rw [lt_dec hi,cond_true,getI_d s00 (by omega),Option.bind_some,dF (by omega),dF (by omega),W_succ (by omega)]
  rfl) (by
  rw [ge_dec,cond_false]) (by omega),Option.bind_some,Lv.exK_at,awake_true hN]
 rfl
end Go.Nilo
