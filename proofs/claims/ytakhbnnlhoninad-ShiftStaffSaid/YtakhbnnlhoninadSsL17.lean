/-
  What the plain functions compute, in plain arithmetic, part 17. Conditions: what each theorem names.
-/
import Derived.Test.YtakhbnnlhoninadSsL16
set_option linter.unusedSimpArgs false
set_option linter.unusedVariables false
namespace Go.Nilo.Lv
theorem far_eq : FAR = 1099511627776 := rfl
def row (V : Nat) (r : Int) (f : Nat → Int) : Int → Int := fun v => if 0 ≤ v ∧ v < (V : Int) then f (r * 13 + v).toNat else FAR
theorem row_in {V : Nat} {r v : Int} {f : Nat → Int} (h : 0 ≤ v ∧ v < (V : Int)) : row V r f v = f (r * 13 + v).toNat := by unfold row; rw [if_pos h]
theorem row_set {V : Nat} (hV : V ≤ 12) {r q v x : Int} {f : Nat → Int} (hr : 0 ≤ r ∧ r < (V : Int)) (hq : 0 ≤ q ∧ q < (V : Int)) (hv : 0 ≤ v ∧ v < (V : Int)) : row V q (setF f (r * 13 + v).toNat x) = if q = r then upd (row V r f) v x else row V q f := by
 funext u
 by_cases hu : 0 ≤ u ∧ u < (V : Int)
 ·rw [row_in hu]
  by_cases e : q = r
  ·subst e
   rw [if_pos rfl]
   unfold upd
   by_cases e2 : u = v
   ·subst e2; rw [setF_self,if_pos rfl]
   ·rw [setF_ne (by omega),if_neg e2,row_in hu]
  ·rw [if_neg e,setF_ne (by omega),row_in hu]
 ·have h0 : ∀ g : Nat → Int,row V q g u = FAR := fun g => by unfold row; rw [if_neg hu]
  rw [h0]
  by_cases e : q = r
  ·rw [if_pos e]
   unfold upd
   rw [if_neg (by rintro rfl; exact hu hv)]
   unfold row; rw [if_neg hu]
  ·rw [if_neg e,h0]
def Eto (ls : List level_Line) (k : Nat) : List Lg := (List.range k).flatMap fun (v : Nat) => (legsAt ls (v : Int)).map (lgOf ls)
theorem Eto_succ {ls : List level_Line} {k : Nat} : Eto ls (k + 1) = Eto ls k ++ (legsAt ls (k : Int)).map (lgOf ls) := by
 unfold Eto
 rw [List.range_succ,List.flatMap_append]
 simp
theorem mem_E {V : Nat} {ls : List level_Line} (h : NetOk V ls) {e : Lg} : e ∈ Eto ls V ↔ ∃ i : Nat,i < ls.length ∧ ∃ b,e = lgOf ls ⟨(i : Int),b⟩ := by
 unfold Eto
 rw [List.mem_flatMap]
 constructor
 ·rintro ⟨v,-,h2⟩
  obtain ⟨g,h3,rfl⟩ := List.mem_map.1 h2
  obtain ⟨-,i,h4,b,rfl⟩ := mem_legs.1 h3
  exact ⟨i,h4,b,rfl⟩
 ·rintro ⟨i,hi,b,rfl⟩
  obtain ⟨h1,-⟩ := leg_ok h hi b
  exact ⟨(stF ls ⟨(i : Int),b⟩).toNat,List.mem_range.2 (by omega),List.mem_map.2 ⟨_,mem_legs.2 ⟨by omega,i,hi,b,rfl⟩,rfl⟩⟩
theorem E_ok {V : Nat} {ls : List level_Line} (h : NetOk V ls) : EOk (Eto ls V) V 1010000 := by
 have hv := h.v2
 refine ⟨fun e he => ?_,by omega,by rw [far_eq]; omega,fun e he => ?_⟩
 ·obtain ⟨i,hi,b,rfl⟩ := (mem_E h).1 he
  exact (leg_ok h hi b).2.2.2.2
 ·obtain ⟨i,hi,b,rfl⟩ := (mem_E h).1 he
  exact (leg_ok h hi b).2.1
structure Tr (V : Nat) (ls : List level_Line) (h : Int → Int) : Prop where
 p : Pot (Eto ls V) h
 b : ∀ v,-1000000000 ≤ h v ∧ h v ≤ 1000000000
theorem snd_lo {V : Nat} {ls : List level_Line} {h : Int → Int} (ht : Tr V ls h) {s : Int} {f : Int → Int} (hs : Snd (Eto ls V) s f) (v : Int) : -2000000000 ≤ f v ∧ f v ≤ FAR := by
 have h1 := ht.b v
 have h2 := ht.b s
 rcases hs v with e | ⟨e,q,w⟩
 ·rw [e,far_eq]; omega
 ·have := w.pot ht.p
  omega
abbrev Z : Type := (Nat → Int) × (Nat → level_Leg)
structure FI (V : Nat) (ls : List level_Line) (r : Int) (z0 z : Z) (f : Int → Int) : Prop where
 s : Snd (Eto ls V) r f
 e : row V r z.1 = f
 o : ∀ q,0 ≤ q ∧ q < (V : Int) → q ≠ r → row V q z.1 = row V q z0.1
theorem fill_leg {N V : Nat} (hN : 3 ≤ N) {w : level_survey} (hw : NetOk V w.Net.Lines) {h : Int → Int} (ht : Tr V w.Net.Lines h) {r : Int} (hr : 0 ≤ r ∧ r < (V : Int)) {z0 z : Z} {f : Int → Int} (hI : FI V w.Net.Lines r z0 z f) {i : Nat} (hi : i < w.Net.Lines.length) (b : Bool) {m : Int} (hm : stF w.Net.Lines ⟨(i : Int),b⟩ = m) (hf : f m < FAR) :
  ∃ z',level_survey_fill_r19 N w r m z.1 z.2 ⟨(i : Int),b⟩ = some (.go z') ∧ FI V w.Net.Lines r z0 z' (rlx f (lgOf w.Net.Lines ⟨(i : Int),b⟩)) := by
 obtain ⟨l1,l2,l3,l4,l5⟩ := leg_ok hw hi b
 have hv := hw.v2
 rw [hm] at l1
 have hb := snd_lo ht hI.s m
 rw [far_eq] at hb hf
 have e1 : z.1 (r * 13 + m).toNat = f m := by rw [← hI.e,row_in l1]
 have e2 : z.1 (r * 13 + glF w.Net.Lines ⟨(i : Int),b⟩).toNat = f (glF w.Net.Lines ⟨(i : Int),b⟩) := by rw [← hI.e,row_in l2]
 have hE : lgOf w.Net.Lines ⟨(i : Int),b⟩ ∈ Eto w.Net.Lines V := (mem_E hw).2 ⟨i,hi,b,rfl⟩
 have hri : level_survey_rise N (⟨w.Net,z.1,z.2⟩ : level_survey) ⟨(i : Int),b⟩ = some (rsF w.Net.Lines ⟨(i : Int),b⟩) := rise_ok (w := ⟨w.Net,z.1,z.2⟩) hw hi b
 have hgo : level_survey_goal N (⟨w.Net,z.1,z.2⟩ : level_survey) ⟨(i : Int),b⟩ = some (glF w.Net.Lines ⟨(i : Int),b⟩) := goal_ok (w := ⟨w.Net,z.1,z.2⟩) hi b
 unfold level_survey_fill_r19
 rw [inR_ok l1.1 (by omega),Option.bind_some,hri,Option.bind_some,e1]
 rw [sum2_ok hN (by omega) (by omega) (by omega) (by omega),Option.bind_some,hgo,Option.bind_some,inR_ok l2.1 (by omega),Option.bind_some,e2]
 have hrl : rlx f (lgOf w.Net.Lines ⟨(i : Int),b⟩) = if f m + rsF w.Net.Lines ⟨(i : Int),b⟩ < f (glF w.Net.Lines ⟨(i : Int),b⟩) then upd f (glF w.Net.Lines ⟨(i : Int),b⟩) (f m + rsF w.Net.Lines ⟨(i : Int),b⟩) else f := by
  unfold rlx lgOf
  dsimp only
  rw [hm,if_neg (by rw [far_eq]; omega)]
 by_cases hc : f m + rsF w.Net.Lines ⟨(i : Int),b⟩ < f (glF w.Net.Lines ⟨(i : Int),b⟩)
 ·rw [dT hc,cond_true,Option.bind_some,Option.bind_some,inR_ok l2.1 (by omega),Option.bind_some,Option.bind_some]
  refine ⟨_,rfl,hI.s.rlx hE,?_,fun q hq hne => ?_⟩
  ·dsimp only
   rw [row_set hv hr hr l2,if_pos rfl,hrl,if_pos hc,hI.e]
  ·dsimp only
   rw [row_set hv hr hq l2,if_neg hne]; exact hI.o q hq hne
 ·rw [dF hc,cond_false]
  refine ⟨_,rfl,hI.s.rlx hE,?_,hI.o⟩
  rw [hrl,if_neg hc]; exact hI.e
theorem fill_legs {N V : Nat} (hN : 40 ≤ N) {w : level_survey} (hw : NetOk V w.Net.Lines) {h : Int → Int} (ht : Tr V w.Net.Lines h) {r : Int} (hr : 0 ≤ r ∧ r < (V : Int)) {z0 z : Z} {f : Int → Int} (hI : FI V w.Net.Lines r z0 z f) {M m : Int} (hf : f m < FAR) :
  ∃ z',level_survey_legs_1 N M w.Net.Lines m (rY (fun (zz : Z) (ix_ : level_Leg) => level_survey_fill_r19 N w r m zz.1 zz.2 ix_)) (.go z) = some (.go z') ∧ FI V w.Net.Lines r z0 z' (((legsAt w.Net.Lines m).map (lgOf w.Net.Lines)).foldl rlx f) := by
 -- the state as a step on pairs: where it is,and what the row is
 let stp : Rs Z → level_Leg → Rs Z := fun s g => match s with
  | .go z => (level_survey_fill_r19 N w r m z.1 z.2 g).getD (.go z)
  | s => s
 have hstep : ∀ (s : Rs Z) (i : Nat) (b : Bool),i < w.Net.Lines.length → (∃ z f,s = .go z ∧ FI V w.Net.Lines r z0 z f ∧ f m < FAR) → stF w.Net.Lines ⟨(i : Int),b⟩ = m → rY (fun (zz : Z) (ix_ : level_Leg) => level_survey_fill_r19 N w r m zz.1 zz.2 ix_) s ⟨(i : Int),b⟩ = some (stp s ⟨(i : Int),b⟩,true) ∧ ∃ z f,stp s ⟨(i : Int),b⟩ = .go z ∧ FI V w.Net.Lines r z0 z f ∧ f m < FAR := by
  rintro s i b hi ⟨z,f,rfl,h1,h2⟩ hm
  obtain ⟨z',k1,k2⟩ := fill_leg (N := N) (by omega) hw ht hr h1 hi b hm h2
  have e : stp (.go z) ⟨(i : Int),b⟩ = .go z' := by show (level_survey_fill_r19 N w r m z.1 z.2 ⟨(i : Int),b⟩).getD (.go z) = _; rw [k1]; rfl
  refine ⟨?_,z',_,e,k2,Int.lt_of_le_of_lt (rlx_le _ _ _) h2⟩
  rw [e]
  show Option.map (fun r => (r,r.on)) (level_survey_fill_r19 N w r m z.1 z.2 ⟨(i : Int),b⟩) = _
  rw [k1]; rfl
 obtain ⟨h1,-⟩ := legs_run hN (M := M) (v := m) hw.n stp (fun s => ∃ z f,s = .go z ∧ FI V w.Net.Lines r z0 z f ∧ f m < FAR) hstep (s0 := .go z) ⟨z,f,rfl,hI,hf⟩
 rw [h1]
 have key : ∀ (L : List level_Leg),(∀ g ∈ L,g ∈ legsAt w.Net.Lines m) → ∀ (z : Z) (f : Int → Int),FI V w.Net.Lines r z0 z f → f m < FAR → ∃ z',L.foldl stp (.go z) = .go z' ∧ FI V w.Net.Lines r z0 z' ((L.map (lgOf w.Net.Lines)).foldl rlx f) := by
  intro L
  induction L with
  | nil => intro _ z f hI _; exact ⟨z,rfl,hI⟩
  | cons g L ih =>
   intro hL z f hI hf
   obtain ⟨hm,i,hi,b,rfl⟩ := mem_legs.1 (hL g List.mem_cons_self)
   obtain ⟨z',k1,k2⟩ := fill_leg (N := N) (by omega) hw ht hr hI hi b hm hf
   have e : stp (.go z) ⟨(i : Int),b⟩ = .go z' := by show (level_survey_fill_r19 N w r m z.1 z.2 ⟨(i : Int),b⟩).getD (.go z) = _; rw [k1]; rfl
   rw [List.foldl_cons,e,List.map_cons,List.foldl_cons]
   exact ih (fun x hx => hL x (List.mem_cons_of_mem _ hx)) z' _ k2 (Int.lt_of_le_of_lt (rlx_le _ _ _) hf)
 obtain ⟨z',k1,k2⟩ := key _ (fun g hg => hg) z f hI hf
 exact ⟨z',by rw [k1],k2⟩
theorem far_fold {f : Int → Int} {m : Int} (hf : f m = FAR) : ∀ (L : List Lg),(∀ e ∈ L,e.s = m) → L.foldl rlx f = f
 | [],_ => rfl
 | e::L,h => by
  have : rlx f e = f := by unfold rlx; rw [h e List.mem_cons_self,if_pos hf]
  rw [List.foldl_cons,this]
  exact far_fold hf L fun x hx => h x (List.mem_cons_of_mem _ hx)
theorem fill_pass {N V : Nat} (hN : 40 ≤ N) {w : level_survey} (hV : w.Net.Marks = (V : Int)) (hw : NetOk V w.Net.Lines) {h : Int → Int} (ht : Tr V w.Net.Lines h) {r : Int} (hr : 0 ≤ r ∧ r < (V : Int)) {z0 z : Z} {f : Int → Int} (hI : FI V w.Net.Lines r z0 z f) :
  ∃ z',loopO (fun s11 : Int × Z => level_survey_fill_b11 N w r s11.1 s11.2.1 s11.2.2) N (0,z) = some (.go ((V : Int),z')) ∧ FI V w.Net.Lines r z0 z' ((Eto w.Net.Lines V).foldl rlx f) := by
 have hv := hw.v2
 obtain ⟨⟨x,z'⟩,h1,h2,h3⟩ := loopInv (ρ := Step (Int × Z) Z) (fun s11 : Int × Z => level_survey_fill_b11 N w r s11.1 s11.2.1 s11.2.2) (fun i s => s.1 = (i : Int) ∧ FI V w.Net.Lines r z0 s.2 ((Eto w.Net.Lines i).foldl rlx f)) V (by
  rintro i ⟨x,y⟩ hi ⟨rfl,hI⟩
  dsimp only at hI
  have hin : 0 ≤ (i : Int) ∧ (i : Int) < (V : Int) := by omega
  have e1 : y.1 (r * 13 + (i : Int)).toNat = (Eto w.Net.Lines i).foldl rlx f (i : Int) := by rw [← hI.e,row_in hin]
  show ∃ s',level_survey_fill_b11 N w r (i : Int) y.1 y.2 = _ ∧ _
  unfold level_survey_fill_b11 level_survey_fill_j14
  rw [dT (show (i : Int) < w.Net.Marks by omega),cond_true,inR_ok (by omega) (by omega),Option.bind_some,e1,W_succ (by omega)]
  by_cases hf : (Eto w.Net.Lines i).foldl rlx f (i : Int) = FAR
  ·rw [beq_iff_eq.2 (show _ = (1099511627776 : Int) from hf),cond_true]
   refine ⟨_,rfl,rfl,?_⟩
   rw [Eto_succ,List.foldl_append,far_fold hf _ (fun e he => by
    obtain ⟨g,hg,rfl⟩ := List.mem_map.1 he
    exact (mem_legs.1 hg).1)]
   exact hI
  ·have hlt : (Eto w.Net.Lines i).foldl rlx f (i : Int) < FAR := by
    rcases hI.s (i : Int) with h | ⟨h,-⟩
    ·exact absurd h hf
    ·exact h
   rw [beq_eq_false_iff_ne.2 (show _ ≠ (1099511627776 : Int) from hf),cond_false]
   obtain ⟨z',k1,k2⟩ := fill_legs hN hw ht hr hI (M := w.Net.Marks) hlt
   have e3 : level_survey_legs N (⟨w.Net,y.1,y.2⟩ : level_survey) (i : Int) = some (i : Int) := rfl
   rw [e3,Option.bind_some]
   have k1' : level_survey_legs_1 N w.Net.Marks w.Net.Lines (i : Int) (rY (fun (zz : (Nat → Int) × (Nat → level_Leg)) (ix_ : level_Leg) => level_survey_fill_r19 N w r (i : Int) zz.1 zz.2 ix_)) (.go (y.1,y.2)) = some (.go z') := k1
   rw [k1',Option.bind_some]
   exact ⟨_,rfl,rfl,by rw [Eto_succ,List.foldl_append]; exact k2⟩) (by
  rintro ⟨x,y⟩ ⟨rfl,-⟩
  show level_survey_fill_b11 N w r (V : Int) y.1 y.2 = _
  unfold level_survey_fill_b11
  rw [dF (by omega),cond_false]) V 0 (0,z) N (by omega) (by omega) ⟨rfl,hI⟩
 dsimp only at h2 h3
 subst h2
 exact ⟨z',h1,h3⟩
theorem fill_ok {N V : Nat} (hN : 40 ≤ N) {w : level_survey} (hV : w.Net.Marks = (V : Int)) (hw : NetOk V w.Net.Lines) {h : Int → Int} (ht : Tr V w.Net.Lines h) {r : Int} (hr : 0 ≤ r ∧ r < (V : Int)) (h0 : row V r w.can = start r) :
  ∃ z' : Z,level_survey_fill N w r = some z' ∧ row V r z'.1 = D (Eto w.Net.Lines V) V r ∧ ∀ q,0 ≤ q ∧ q < (V : Int) → q ≠ r → row V q z'.1 = row V q w.can := by
 have hv := hw.v2
 obtain ⟨⟨x,z'⟩,h1,h2,h3⟩ := loopInv (ρ := Z) (fun s5 : Int × Z => level_survey_fill_b5 N w r s5.1 s5.2.1 s5.2.2) (fun i s => s.1 = (i : Int) ∧ FI V w.Net.Lines r (w.can,w.by_) s.2 (passes (Eto w.Net.Lines V) i (start r))) V (by
  rintro i ⟨x,y⟩ hi ⟨rfl,hI⟩
  dsimp only at hI
  obtain ⟨z',k1,k2⟩ := fill_pass hN hV hw ht hr hI
  show ∃ s',level_survey_fill_b5 N w r (i : Int) y.1 y.2 = _ ∧ _
  unfold level_survey_fill_b5
  have k1' : loopO (fun s11 => level_survey_fill_b11 N w r s11.1 s11.2.1 s11.2.2) N (0,y.1,y.2) = some (.go ((V : Int),z')) := k1
  rw [dT (show (i : Int) < w.Net.Marks by omega),cond_true,k1',Option.bind_some,exK_at,W_succ (by omega)]
  exact ⟨_,rfl,rfl,by rw [passes_succ]; exact k2⟩) (by
  rintro ⟨x,y⟩ ⟨rfl,-⟩
  show level_survey_fill_b5 N w r (V : Int) y.1 y.2 = _
  unfold level_survey_fill_b5
  rw [dF (by omega),cond_false]) V 0 (0,w.can,w.by_) N (by omega) (by omega) ⟨rfl,start_snd _ _,h0,fun q _ _ => rfl⟩
 dsimp only at h2 h3
 unfold level_survey_fill
 rw [inR_ok hr.1 (by omega),Option.bind_some,Option.bind_some]
 have h1' : loopO (fun s5 => level_survey_fill_b5 N w r s5.1 s5.2.1 s5.2.2) N (0,w.can,w.by_) = some (.go (x,z')) := h1
 rw [h1',Option.bind_some,exK_at]
 exact ⟨z',rfl,h3.e,h3.o⟩
end Go.Nilo.Lv
