/-
  What the plain functions compute, in plain arithmetic, part 18. Conditions: what each theorem names.
-/
import Derived.Test.YtakhbnnlhoninadSsL17
set_option linter.unusedSimpArgs false
set_option linter.unusedVariables false
namespace Go.Nilo.Lv
theorem init_row {N V : Nat} (hN : 40 ≤ N) {n : level_Net} (hV : n.Marks = (V : Int)) (hv : V ≤ 12) {a : Int} (ha : 0 ≤ a ∧ a < (V : Int)) (f : Nat → Int) :
  ∃ s,loopO (fun s20 : Int × (Nat → Int) => level_worked_b20 N n a s20.1 s20.2) N (0,f) = some (.go s) ∧ (∀ v,row V a s.2 v = FAR) ∧ ∀ q,0 ≤ q ∧ q < (V : Int) → q ≠ a → row V q s.2 = row V q f := by
 obtain ⟨s,h1,h2,h3,h4⟩ := loopInv (ρ := Step (Int × (Nat → Int)) (Int × (Nat → Int) × (Nat → level_Leg))) (fun s20 : Int × (Nat → Int) => level_worked_b20 N n a s20.1 s20.2) (fun i s => s.1 = (i : Int) ∧ (∀ v,v < (i : Int) → row V a s.2 v = FAR) ∧ ∀ q,0 ≤ q ∧ q < (V : Int) → q ≠ a → row V q s.2 = row V q f) V (by
  rintro i ⟨x,g⟩ hi ⟨rfl,h1,h2⟩
  dsimp only at h1 h2
  have hin : 0 ≤ (i : Int) ∧ (i : Int) < (V : Int) := by omega
  show ∃ s',level_worked_b20 N n a (i : Int) g = _ ∧ _
  unfold level_worked_b20
  rw [dT (by omega),cond_true,inR_ok ha.1 (by omega),Option.bind_some,inR_ok (by omega) (by omega),Option.bind_some,W_succ (by omega)]
  refine ⟨_,rfl,rfl,fun v hv' => ?_,fun q hq hne => ?_⟩
  ·dsimp only
   rw [row_set hv ha ha hin,if_pos rfl]
   unfold upd
   by_cases e : v = (i : Int)
   ·rw [if_pos e]; rfl
   ·rw [if_neg e]; exact h1 v (by omega)
  ·dsimp only
   rw [row_set hv ha hq hin,if_neg hne]; exact h2 q hq hne) (by
  rintro ⟨x,g⟩ ⟨rfl,-⟩
  show level_worked_b20 N n a (V : Int) g = _
  unfold level_worked_b20
  rw [dF (by omega),cond_false]) V 0 (0,f) N (by omega) (by omega) ⟨rfl,fun v hv' => by unfold row; rw [if_neg (by omega)],fun q _ _ => rfl⟩
 refine ⟨s,h1,fun v => ?_,h4⟩
 by_cases h : v < (V : Int)
 ·exact h3 v h
 ·unfold row; rw [if_neg (by omega)]
theorem start_row {V : Nat} (hv : V ≤ 12) {a : Int} (ha : 0 ≤ a ∧ a < (V : Int)) {f : Nat → Int} (h : ∀ v,row V a f v = FAR) : row V a (setF f (a * 13 + a).toNat 0) = start a := by
 rw [row_set hv ha ha ha,if_pos rfl]
 funext v
 unfold upd start
 by_cases e : v = a
 ·rw [if_pos e,if_pos e]
 ·rw [if_neg e,if_neg e]; exact h v
theorem init_ok {N V : Nat} (hN : 40 ≤ N) {n : level_Net} (hV : n.Marks = (V : Int)) (hv : V ≤ 12) :
  ∃ s,loopO (fun s5 : Int × (Nat → Int) => level_worked_b5 N n s5.1 s5.2) N (0,(fun _ => 0)) = some (.go s) ∧ ∀ q,0 ≤ q ∧ q < (V : Int) → row V q s.2 = start q := by
 obtain ⟨s,h1,h2,h3⟩ := loopInv (ρ := Int × (Nat → Int) × (Nat → level_Leg)) (fun s5 : Int × (Nat → Int) => level_worked_b5 N n s5.1 s5.2) (fun i s => s.1 = (i : Int) ∧ ∀ q,0 ≤ q ∧ q < (i : Int) → row V q s.2 = start q) V (by
  rintro i ⟨x,g⟩ hi ⟨rfl,h1⟩
  dsimp only at h1
  have hin : 0 ≤ (i : Int) ∧ (i : Int) < (V : Int) := by omega
  obtain ⟨s,k1,k2,k3⟩ := init_row hN hV hv hin g
  show ∃ s',level_worked_b5 N n (i : Int) g = _ ∧ _
  unfold level_worked_b5
  rw [dT (by omega),cond_true,k1,Option.bind_some,exK_at,inR_ok (by omega) (by omega),Option.bind_some,Option.bind_some,W_succ (by omega)]
  refine ⟨_,rfl,rfl,fun q hq => ?_⟩
  dsimp only
  by_cases e : q = (i : Int)
  ·subst e; exact start_row hv hin k2
  ·rw [row_set hv hin (by omega) hin,if_neg e,k3 q (by omega) e]
   exact h1 q (by omega)) (by
  rintro ⟨x,g⟩ ⟨rfl,-⟩
  show level_worked_b5 N n (V : Int) g = _
  unfold level_worked_b5
  rw [dF (by omega),cond_false]) V 0 (0,(fun _ => 0)) N (by omega) (by omega) ⟨rfl,fun q hq => by omega⟩
 exact ⟨s,h1,h3⟩
theorem worked_ok {N V : Nat} (hN : 40 ≤ N) {n : level_Net} (hV : n.Marks = (V : Int)) (hn : NetOk V n.Lines) {h : Int → Int} (ht : Tr V n.Lines h) :
  ∃ can by_,level_worked N n = some (n.Marks,can,by_) ∧ ∀ q,0 ≤ q ∧ q < (V : Int) → row V q can = D (Eto n.Lines V) V q := by
 have hv := hn.v2
 obtain ⟨s,h1,h2⟩ := init_ok hN hV hv
 obtain ⟨⟨x,z⟩,g1,g2,g3,g4⟩ := loopInv (ρ := Int × (Nat → Int) × (Nat → level_Leg)) (fun s8 : Int × Z => level_worked_b8 N n s8.1 s8.2.1 s8.2.2) (fun i s => s.1 = (i : Int) ∧ (∀ q,0 ≤ q ∧ q < (i : Int) → row V q s.2.1 = D (Eto n.Lines V) V q) ∧ ∀ q,(i : Int) ≤ q ∧ q < (V : Int) → row V q s.2.1 = start q) V (by
  rintro i ⟨x,z⟩ hi ⟨rfl,k1,k2⟩
  dsimp only at k1 k2
  have hin : 0 ≤ (i : Int) ∧ (i : Int) < (V : Int) := by omega
  obtain ⟨z',f1,f2,f3⟩ := fill_ok hN (w := ⟨n,z.1,z.2⟩) hV hn ht hin (k2 (i : Int) (by omega))
  show ∃ s',level_worked_b8 N n (i : Int) z.1 z.2 = _ ∧ _
  unfold level_worked_b8
  rw [dT (by omega),cond_true,f1,Option.bind_some,W_succ (by omega)]
  refine ⟨_,rfl,rfl,fun q hq => ?_,fun q hq => ?_⟩
  ·dsimp only
   by_cases e : q = (i : Int)
   ·subst e; exact f2
   ·have := f3 q (by omega) e
    rw [show row V q (z'.1,z'.2).1 = row V q z'.1 from rfl,this]; exact k1 q (by omega)
  ·dsimp only
   have := f3 q (by omega) (by omega)
   rw [show row V q (z'.1,z'.2).1 = row V q z'.1 from rfl,this]; exact k2 q (by omega)) (by
  rintro ⟨x,z⟩ ⟨rfl,-⟩
  show level_worked_b8 N n (V : Int) z.1 z.2 = _
  unfold level_worked_b8
  rw [dF (by omega),cond_false]) V 0 (0,s.2,(fun _ => (⟨0,false⟩ : level_Leg))) N (by omega) (by omega) ⟨rfl,fun q hq => by omega,fun q hq => h2 q (by omega)⟩
 refine ⟨z.1,z.2,?_,g3⟩
 unfold level_worked
 rw [h1,Option.bind_some,exK_at]
 have g1' : loopO (fun s8 => level_worked_b8 N n s8.1 s8.2.1 s8.2.2) N (0,s.2,(fun _ => (⟨0,false⟩ : level_Leg))) = some (.go (x,z)) := g1
 rw [g1',Option.bind_some,exK_at]
theorem open_ok {N V : Nat} (hN : 40 ≤ N) {w : level_survey} (hV : w.Net.Marks = (V : Int)) (hn : NetOk V w.Net.Lines) {h : Int → Int} (ht : Tr V w.Net.Lines h) (hc : ∀ q,0 ≤ q ∧ q < (V : Int) → row V q w.can = D (Eto w.Net.Lines V) V q) : level_survey_open N w = some false := by
 have hv := hn.v2
 have hE := E_ok hn
 have hg : ∀ q v,0 ≤ q ∧ q < (V : Int) → 0 ≤ v ∧ v < (V : Int) → w.can (q * 13 + v).toNat = D (Eto w.Net.Lines V) V q v := fun q v hq hv' => by rw [← hc q hq,row_in hv']
 have h12 : ∀ (m : Int),0 ≤ m ∧ m < (V : Int) → ∀ (z : Bool) (i : Nat) (b : Bool),i < w.Net.Lines.length → stF w.Net.Lines ⟨(i : Int),b⟩ = m → level_survey_open_r12 N w m z ⟨(i : Int),b⟩ = some (.go z) := by
  intro m hm z i b hi hst
  obtain ⟨l1,l2,l3,l4,l5⟩ := leg_ok hn hi b
  obtain ⟨s,h1,-⟩ := loopInv (ρ := Rs Bool) (fun s16 : Int => level_survey_open_b16 N w m ⟨(i : Int),b⟩ s16) (fun j s => s = (j : Int)) V (by
   rintro j s hj rfl
   have hjn : 0 ≤ (j : Int) ∧ (j : Int) < (V : Int) := by omega
   refine ⟨((j + 1 : Nat) : Int),?_,rfl⟩
   unfold level_survey_open_b16
   rw [dT (show (j : Int) < w.Net.Marks by omega),cond_true,inR_ok (show 0 ≤ (j : Int) by omega) (show (j : Int) < ((13 : Nat) : Int) by omega),Option.bind_some,inR_ok hm.1 (by omega),Option.bind_some,hg _ _ hjn hm,W_succ (by omega)]
   by_cases hf : D (Eto w.Net.Lines V) V (j : Int) m < 1099511627776
   ·rw [dT hf,cond_true,rise_ok hn hi b,Option.bind_some,goal_ok hi b,Option.bind_some,inR_ok l2.1 (by omega),Option.bind_some,hg _ _ hjn l2]
    have hlo := snd_lo ht (D_snd (Eto w.Net.Lines V) V (j : Int)) m
    have hcl := D_closed hE ht.p hjn ((mem_E hn).2 ⟨i,hi,b,rfl⟩) (show D (Eto w.Net.Lines V) V (j : Int) (lgOf w.Net.Lines ⟨(i : Int),b⟩).s < FAR by rw [show (lgOf w.Net.Lines ⟨(i : Int),b⟩).s = m from hst]; exact hf)
    rw [show (lgOf w.Net.Lines ⟨(i : Int),b⟩).s = m from hst] at hcl
    have hcl : D (Eto w.Net.Lines V) V (j : Int) (glF w.Net.Lines ⟨(i : Int),b⟩) ≤ D (Eto w.Net.Lines V) V (j : Int) m + rsF w.Net.Lines ⟨(i : Int),b⟩ := hcl
    rw [W_sm (by omega) (by omega),dF (by omega),Option.bind_some,cond_false]
   ·rw [dF hf,cond_false,Option.bind_some,cond_false]) (by
   rintro s rfl
   unfold level_survey_open_b16
   rw [dF (by omega),cond_false]) V 0 0 N (by omega) (by omega) rfl
  unfold level_survey_open_r12
  rw [h1,Option.bind_some,exK_at]
 obtain ⟨s,h1,-⟩ := loopInv (ρ := Bool) (fun s4 : Int × Bool => level_survey_open_b4 N w s4.1 s4.2) (fun i s => s = ((i : Int),false)) V (by
  rintro i s hi rfl
  have hin : 0 ≤ (i : Int) ∧ (i : Int) < (V : Int) := by omega
  refine ⟨(((i + 1 : Nat) : Int),false),?_,rfl⟩
  obtain ⟨k1,-⟩ := legs_run hN (M := w.Net.Marks) (v := (i : Int)) hn.n (y := rY (fun (zz : Bool) (ix_ : level_Leg) => level_survey_open_r12 N w (i : Int) zz ix_)) (fun s _ => s) (fun s => s = .go false) (by
   rintro s j b hj rfl hst
   refine ⟨?_,rfl⟩
   show Option.map (fun r => (r,r.on)) (level_survey_open_r12 N w (i : Int) false ⟨(j : Int),b⟩) = _
   rw [h12 _ hin false j b hj hst]
   rfl) (s0 := .go false) rfl
  have hfold : ∀ (L : List level_Leg) (s : Rs Bool),L.foldl (fun s _ => s) s = s := fun L => by
   induction L with
   | nil => intro s; rfl
   | cons a L ih => intro s; exact ih s
  rw [hfold] at k1
  show level_survey_open_b4 N w (i : Int) false = _
  unfold level_survey_open_b4
  have e3 : level_survey_legs N w (i : Int) = some (i : Int) := rfl
  rw [dT (show (i : Int) < w.Net.Marks by omega),cond_true,e3,Option.bind_some,k1,Option.bind_some]
  show Option.bind (inR (i : Int) 13) _ = _
  rw [inR_ok (by omega) (by omega),Option.bind_some,Option.bind_some,hg _ _ hin hin,D_self hE ht.p hin,W_succ (by omega)]
  rfl) (by
  rintro s rfl
  show level_survey_open_b4 N w (V : Int) false = _
  unfold level_survey_open_b4
  rw [dF (by omega),cond_false]) V 0 (0,false) N (by omega) (by omega) rfl
 unfold level_survey_open
 rw [h1,Option.bind_some,exK_at]
theorem lcheck_ok {N V : Nat} (hN : 40 ≤ N) {n : level_Net} (hV : n.Marks = (V : Int)) (hn : NetOk V n.Lines) : level_Check N n = some 0 := by
 have hv1 := hn.v1
 have hv2 := hn.v2
 have hl := hn.n
 have hev : (n.Lines.any fun l => level_every_level_Line_1 l n) = false := by
  rw [List.any_eq_false]
  intro l hl'
  obtain ⟨i,hi,rfl⟩ := List.getElem_of_mem hl'
  obtain ⟨f,t,ne,d,r,e⟩ := hn.l i hi
  rw [gD hi] at f t ne d r e
  unfold level_every_level_Line_1 level_Check_2 level_Check_1 level_in
  try dsimp only
  rw [hV,W_sm (n := (V : Int) - 1) (by omega) (by omega),dT (show (0 : Int) ≤ n.Lines[i].From by omega),dT (show n.Lines[i].From ≤ (V : Int) - 1 by omega),dT (show (0 : Int) ≤ n.Lines[i].To by omega),dT (show n.Lines[i].To ≤ (V : Int) - 1 by omega),dT d.1,dT d.2,dT r.1,dT r.2,dT e.1,dT e.2,bne_iff_ne.2 ne]
  decide
 have e1 : level_every_level_Line N n.Lines n = some true := by
  unfold level_every_level_Line slices_ContainsFunc_Llevel_Line_level_Line slices_IndexFunc_Llevel_Line_level_Line
  rcases indexLoop (fun r => level_every_level_Line_1 r n) n.Lines (by omega) (fun s4 => slices_IndexFunc_Llevel_Line_level_Line_b4 N n.Lines n s4) (fun x => rfl) n.Lines.length 0 N (by omega) (by omega) with ⟨k,k1,k2,k3⟩ | ⟨k1,k2⟩
  ·rw [List.drop_zero,hev] at k3; cases k3
  ·rw [show ((0 : Nat) : Int) = 0 from rfl] at k1
   rw [k1]
   rfl
 unfold level_Check
 rw [e1]
 unfold level_in
 rw [hV,dT (show (1 : Int) ≤ (V : Int) by omega),dT (show (V : Int) ≤ 12 by omega),dF (show ¬ 30 < ((n.Lines.length : Nat) : Int) by omega)]
 rfl
theorem between_ok {N V : Nat} (hN : 40 ≤ N) {n : level_Net} (hV : n.Marks = (V : Int)) (hn : NetOk V n.Lines) {h : Int → Int} (ht : Tr V n.Lines h) {a b : Int} (ha : 0 ≤ a ∧ a < (V : Int)) (hb : 0 ≤ b ∧ b < (V : Int)) (hd : D (Eto n.Lines V) V a b < FAR) :
  level_Between N n a b = some (⟨-D (Eto n.Lines V) V b a,D (Eto n.Lines V) V a b⟩,0) := by
 have hv2 := hn.v2
 obtain ⟨can,by_,h1,h2⟩ := worked_ok hN hV hn ht
 have hg : ∀ q v,0 ≤ q ∧ q < (V : Int) → 0 ≤ v ∧ v < (V : Int) → can (q * 13 + v).toNat = D (Eto n.Lines V) V q v := fun q v hq hv' => by rw [← h2 q hq,row_in hv']
 have hlo := snd_lo ht (D_snd (Eto n.Lines V) V b) a
 have ho : level_opened N n = some (.inr (n.Marks,can,by_,0)) := by
  unfold level_opened
  rw [lcheck_ok hN hV hn,Option.bind_some,bne_self_eq_false,cond_false,h1,Option.bind_some]
 have hopen : level_survey_open N (⟨(⟨n.Marks,n.Lines⟩ : level_Net),can,by_⟩ : level_survey) = some false := open_ok hN (w := ⟨⟨n.Marks,n.Lines⟩,can,by_⟩) hV hn ht h2
 have hag : level_agreed N n = some (n.Marks,can,by_,0) := by
  unfold level_agreed
  rw [ho,Option.bind_some]
  show Option.bind (cond ((0 : Int) == 0) (Option.bind (level_survey_open N (⟨(⟨n.Marks,n.Lines⟩ : level_Net),can,by_⟩ : level_survey)) fun r_2 => some r_2) (some false)) _ = _
  rw [hopen]
  rfl
 have hask : level_asked N n a b true = some (.inr (n.Marks,can,by_,0)) := by
  unfold level_asked
  rw [lcheck_ok hN hV hn,Option.bind_some,bne_self_eq_false,cond_false,hag]
  unfold level_in
  rw [hV,W_sm (n := (V : Int) - 1) (by omega) (by omega),dT ha.1,dT (show a ≤ (V : Int) - 1 by omega),dT hb.1,dT (show b ≤ (V : Int) - 1 by omega)]
  show Option.bind (cond ((0 : Int) == 0) (Option.bind (inR a 13) fun un => Option.bind (inR b 13) fun un_1 => some ((can (a * 13 + b).toNat) == 1099511627776)) (some false)) _ = _
  rw [inR_ok ha.1 (by omega),Option.bind_some,inR_ok hb.1 (by omega),Option.bind_some,hg _ _ ha hb,beq_eq_false_iff_ne.2 (show D (Eto n.Lines V) V a b ≠ 1099511627776 by rw [far_eq] at hd; omega)]
  rw [← hV]
  rfl
 unfold level_Between
 rw [hask,Option.bind_some]
 show cond ((0 : Int) != 0) _ (Option.bind (inR b 13) fun un => Option.bind (inR a 13) fun un_1 => Option.bind (inR a 13) fun un_2 => Option.bind (inR b 13) fun un_3 => some ((⟨W (0 - (can (b * 13 + a).toNat)),(can (a * 13 + b).toNat)⟩ : api_Span),0)) = _
 rw [bne_self_eq_false,cond_false,inR_ok ha.1 (by omega),inR_ok hb.1 (by omega)]
 simp only [Option.bind_some]
 rw [hg _ _ ha hb,hg _ _ hb ha,W_sm (by rw [far_eq] at hlo; omega) (by omega),Int.zero_sub]
end Go.Nilo.Lv
