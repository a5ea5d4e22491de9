/-
  What the plain functions compute, in plain arithmetic, part 6. Conditions: what each theorem names.
-/
import Derived.Test.YtbgjmnbgilddgaaPnL5
set_option linter.unusedSimpArgs false
set_option linter.unusedVariables false
namespace Go.Nilo
def stp (l b : Nat) (r : List Nat) : List Nat := if b = l then r.dropLast else r
def rtO (s : gauge_Site) (b : Nat) : Option (List Nat) → ref03_route
 | none => ⟨false,0,[]⟩
 | some r => ⟨true,pc (cst s) r,ci (stp (s.Points.length + 1) b r)⟩
theorem lex_loop {N : Nat} {p q : List Nat} {t t' : Bool} {c c' : Int} (hpq : p.length = q.length) (hl : p.length ≤ 100) :
  ∀ (m i M : Nat),i + m = p.length → m < M → (Option.bind (loopO (fun s10 => ref03_better_b10 N ⟨t,c,ci p⟩ ⟨t',c',ci q⟩ s10) M (i : Int)) fun x10 => exK x10 (fun _ => some false) some) = some (lexB (p.drop i) (q.drop i))
 | m,i,0,_,h => by omega
 | 0,i,M + 1,hi,_ => by
  have e : ref03_better_b10 N ⟨t,c,ci p⟩ ⟨t',c',ci q⟩ (i : Int) = some (.brk (i : Int)) := by
   unfold ref03_better_b10
   show cond (decide ((i : Int) < (((ci p).length : Nat) : Int))) _ _ = _
   rw [ci_len,dF (by omega),cond_false]
  rw [loop_one e,List.drop_eq_nil_of_le (by omega),List.drop_eq_nil_of_le (by omega)]
  rfl
 | m + 1,i,M + 1,hi,hM => by
  have h1 : i < p.length := by omega
  have h2 : i < q.length := by omega
  have e : ref03_better_b10 N ⟨t,c,ci p⟩ ⟨t',c',ci q⟩ (i : Int) = some (if p.getD i 0 = q.getD i 0 then .cont ((i + 1 : Nat) : Int) else .ret (decide (p.getD i 0 < q.getD i 0))) := by
   unfold ref03_better_b10
   show cond (decide ((i : Int) < (((ci p).length : Nat) : Int))) (Option.bind (getI (ci p) (i : Int)) fun e_1 => Option.bind (getI (ci q) (i : Int)) fun e_2 => cond (e_1 != e_2) (Option.bind (getI (ci p) (i : Int)) fun e_3 => Option.bind (getI (ci q) (i : Int)) fun e_4 => some (Step.ret (decide (e_3 < e_4)) : Step Int Bool)) (some (.cont (W ((i : Int) + 1))))) _ = _
   rw [ci_len,lt_dec h1,cond_true,ci_get h1,ci_get h2,Option.bind_some,Option.bind_some,W_succ (by omega)]
   by_cases hh : p.getD i 0 = q.getD i 0
   ·rw [if_pos hh,hh,bne_self_eq_false,cond_false]
   ·rw [if_neg hh,show (((p.getD i 0 : Nat) : Int) != ((q.getD i 0 : Nat) : Int)) = true from bne_iff_ne.2 (by omega),cond_true,Option.bind_some,Option.bind_some]
    congr 2
    exact decide_eq_decide.2 (by omega)
  have d1 : p.drop i = p.getD i 0::p.drop (i + 1) := by rw [List.drop_eq_getElem_cons h1,get_getD (d := 0)]
  have d2 : q.drop i = q.getD i 0::q.drop (i + 1) := by rw [List.drop_eq_getElem_cons h2,get_getD (d := 0)]
  rw [loop_one e,d1,d2]
  show _ = some (if p.getD i 0 = q.getD i 0 then lexB (p.drop (i + 1)) (q.drop (i + 1)) else decide (p.getD i 0 < q.getD i 0))
  by_cases hh : p.getD i 0 = q.getD i 0
  ·rw [if_pos hh,if_pos hh]
   exact lex_loop hpq hl m (i + 1) M (by omega) (by omega)
  ·rw [if_neg hh,if_neg hh]
   rfl
theorem stp_len {l b : Nat} {q r : List Nat} (hq : q ≠ []) (hr : r ≠ []) : ((stp l b q).length < (stp l b r).length ↔ q.length < r.length) ∧ ((stp l b q).length = (stp l b r).length ↔ q.length = r.length) := by
 have h1 : 0 < q.length := List.length_pos_iff.2 hq
 have h2 : 0 < r.length := List.length_pos_iff.2 hr
 unfold stp
 split
 ·simp only [List.length_dropLast]
  omega
 ·exact ⟨Iff.rfl,Iff.rfl⟩
theorem refb_spec {N : Nat} (hN : 100 ≤ N) {s : gauge_Site} {b : Nat} {q : List Nat} {o : Option (List Nat)} (hq : ∃ q',q = q' ++ [b]) (ho : ∀ r,o = some r → ∃ r',r = r' ++ [b]) (hl : q.length ≤ 50) :
  ∃ v : Bool,ref03_better N (rtO s b (some q)) (rtO s b o) = some v ∧ (v = true ↔ ∀ r,o = some r → Bt (cst s) q r) := by
 unfold ref03_better
 cases o with
 | none =>
  refine ⟨true,rfl,?_⟩
  simp
 | some r =>
  obtain ⟨q',rfl⟩ := hq
  obtain ⟨r',rfl⟩ := ho _ rfl
  show ∃ v : Bool,cond ((!true) || (pc (cst s) (q' ++ [b]) != pc (cst s) (r' ++ [b]))) (some ((!true) || (decide (pc (cst s) (q' ++ [b]) < pc (cst s) (r' ++ [b])))))
   (cond ((((ci (stp (s.Points.length + 1) b (q' ++ [b]))).length : Nat) : Int) != (((ci (stp (s.Points.length + 1) b (r' ++ [b]))).length : Nat) : Int)) (some (decide ((((ci (stp (s.Points.length + 1) b (q' ++ [b]))).length : Nat) : Int) < (((ci (stp (s.Points.length + 1) b (r' ++ [b]))).length : Nat) : Int))))
   (Option.bind (loopO (fun s10 => ref03_better_b10 N ⟨true,pc (cst s) (q' ++ [b]),ci (stp (s.Points.length + 1) b (q' ++ [b]))⟩ ⟨true,pc (cst s) (r' ++ [b]),ci (stp (s.Points.length + 1) b (r' ++ [b]))⟩ s10) N ((0 : Nat) : Int)) fun x10 => exK x10 (fun s10 => some false) some)) = some v ∧ _
  have hsl := stp_len (l := s.Points.length + 1) (b := b) (q := q' ++ [b]) (r := r' ++ [b]) (by simp) (by simp)
  rw [Bool.not_true,Bool.false_or,Bool.false_or,ci_len,ci_len]
  have key : ∀ v : Bool,(v = true ↔ Bt (cst s) (q' ++ [b]) (r' ++ [b])) → (v = true ↔ ∀ r,some (r' ++ [b]) = some r → Bt (cst s) (q' ++ [b]) r) := fun v hv => by
   rw [hv]
   exact ⟨fun h r hr => by obtain rfl := Option.some.inj hr; exact h,fun h => h _ rfl⟩
  by_cases h1 : pc (cst s) (q' ++ [b]) = pc (cst s) (r' ++ [b])
  ·rw [show (pc (cst s) (q' ++ [b]) != pc (cst s) (r' ++ [b])) = false from by rw [h1]; exact bne_self_eq_false _,cond_false]
   by_cases h2 : (stp (s.Points.length + 1) b (q' ++ [b])).length = (stp (s.Points.length + 1) b (r' ++ [b])).length
   ·rw [show ((((stp (s.Points.length + 1) b (q' ++ [b])).length : Nat) : Int) != (((stp (s.Points.length + 1) b (r' ++ [b])).length : Nat) : Int)) = false from by rw [h2]; exact bne_self_eq_false _,cond_false]
    have h3 := hsl.2.1 h2
    have hle : (stp (s.Points.length + 1) b (q' ++ [b])).length ≤ 100 ∧ (stp (s.Points.length + 1) b (q' ++ [b])).length < N + 1 := by
     unfold stp
     split
     ·simp only [List.length_dropLast]; omega
     ·omega
    have hlt : (stp (s.Points.length + 1) b (q' ++ [b])).length < N := by
     unfold stp
     split
     ·simp only [List.length_dropLast]
      have : 0 < (q' ++ [b]).length := by simp
      omega
     ·rename_i hb
      simp only [List.length_append,List.length_cons,List.length_nil] at hl ⊢
      omega
    rw [lex_loop (N := N) h2 hle.1 _ 0 N (by omega) hlt]
    refine ⟨_,rfl,key _ ?_⟩
    rw [List.drop_zero,List.drop_zero]
    have h4 : lexB (stp (s.Points.length + 1) b (q' ++ [b])) (stp (s.Points.length + 1) b (r' ++ [b])) = lexB (q' ++ [b]) (r' ++ [b]) := by
     unfold stp
     split
     ·rw [List.dropLast_concat,List.dropLast_concat]
      exact (lex_snoc b (by simpa using h3)).symm
     ·rfl
    rw [h4]
    unfold Bt
    constructor
    ·intro h; exact .inr ⟨h1,.inr ⟨h3,h⟩⟩
    ·rintro (h | ⟨-,h | ⟨-,h⟩⟩)
     ·omega
     ·omega
     ·exact h
   ·rw [show ((((stp (s.Points.length + 1) b (q' ++ [b])).length : Nat) : Int) != (((stp (s.Points.length + 1) b (r' ++ [b])).length : Nat) : Int)) = true from bne_iff_ne.2 (by omega),cond_true]
    refine ⟨_,rfl,key _ ?_⟩
    rw [decide_eq_true_eq]
    have h3 := mt hsl.2.2 h2
    unfold Bt
    constructor
    ·intro h; exact .inr ⟨h1,.inl (hsl.1.1 (by omega))⟩
    ·rintro (h | ⟨-,h | ⟨h,-⟩⟩)
     ·omega
     ·have := hsl.1.2 h; omega
     ·exact absurd h h3
  ·rw [show (pc (cst s) (q' ++ [b]) != pc (cst s) (r' ++ [b])) = true from bne_iff_ne.2 h1,cond_true]
   refine ⟨_,rfl,key _ ?_⟩
   rw [decide_eq_true_eq]
   unfold Bt
   constructor
   ·intro h; exact .inl h
   ·rintro (h | ⟨h,-⟩)
    ·exact h
    ·exact absurd h h1
structure Out (s : gauge_Site) (b : Nat) (B : List ref03_route) : Prop where
 len : B.length = s.Points.length + 2
 done : ∀ k,k < b → k ≤ s.Points.length + 1 → (∃ q,Best (stepB s) (cst s) 0 q k ∧ B.getD k ⟨false,0,[]⟩ = rtO s k (some q)) ∨ ((∀ q,¬ Seg (stepB s) 0 q k) ∧ B.getD k ⟨false,0,[]⟩ = rtO s k none)
 todo : ∀ k,b ≤ k → k ≤ s.Points.length + 1 → B.getD k ⟨false,0,[]⟩ = rtO s k none
structure In4 (s : gauge_Site) (b a : Nat) (B : List ref03_route) (o : Option (List Nat)) : Prop where
 len : B.length = s.Points.length + 2
 done : ∀ k,k < b → k ≤ s.Points.length + 1 → (∃ q,Best (stepB s) (cst s) 0 q k ∧ B.getD k ⟨false,0,[]⟩ = rtO s k (some q)) ∨ ((∀ q,¬ Seg (stepB s) 0 q k) ∧ B.getD k ⟨false,0,[]⟩ = rtO s k none)
 todo : ∀ k,b < k → k ≤ s.Points.length + 1 → B.getD k ⟨false,0,[]⟩ = rtO s k none
 now : B.getD b ⟨false,0,[]⟩ = rtO s b o
 fw : Fw (stepB s) (cst s) b a o
theorem getD_set_self {α : Type} {l : List α} {i : Nat} {v d : α} (h : i < l.length) : (l.set i v).getD i d = v := by simp [List.getD,h]
theorem getD_set_ne {α : Type} {l : List α} {i j : Nat} {v d : α} (h : i ≠ j) : (l.set i v).getD j d = l.getD j d := by simp [List.getD,List.getElem?_set_ne h]
theorem in4_step {N : Nat} (hN : 100 ≤ N) {s : gauge_Site} (h : SOk s) {a b : Nat} (ha : a < b) (hb : b ≤ s.Points.length + 1) {B : List ref03_route} {o : Option (List Nat)} (hi : In4 s b a B o) :
  ∃ B' o',ref03_Plan_b22 N (rs s) (stl s) (b : Int) B (a : Int) = some (.cont (B',((a + 1 : Nat) : Int))) ∧ In4 s b (a + 1) B' o' := by
 have hn := h.n
 have hla : a < B.length := by rw [hi.len]; omega
 have hlb : b < B.length := by rw [hi.len]; omega
 have hskip : (∀ q,Seg (stepB s) 0 q a → a < b → stepB s a b = true → False) → In4 s b (a + 1) B o := fun hk => ⟨hi.len,hi.done,hi.todo,hi.now,fw_skip hi.fw hk⟩
 unfold ref03_Plan_b22 ref03_Plan_j25
 rw [dT (by omega),cond_true,getI_d ⟨false,0,[]⟩ hla,Option.bind_some,W_succ (by omega)]
 rcases hi.done a ha (by omega) with ⟨q,hq,hBa⟩ | ⟨hno,hBa⟩
 ·rw [hBa]
  show ∃ B' o',Option.bind (cond (!true) (some true) (Option.bind (getI (stl s) (a : Int)) fun e_4 => Option.bind (getI (stl s) (b : Int)) fun e_5 => Option.bind (ref03_goes N (rs s) e_4 e_5) fun r_2 => some (!r_2))) _ = _ ∧ _
  rw [Bool.not_true,cond_false,stl_get (by omega),Option.bind_some,stl_get hb,Option.bind_some,goes_spec h (by omega) hb,Option.bind_some,Option.bind_some]
  cases hst : stepB s a b with
  | false =>
   refine ⟨B,o,rfl,hskip fun q' _ _ hS => ?_⟩
   rw [hst] at hS
   cases hS
  | true =>
   have hsb : (∀ x ∈ q,x ≤ s.Points.length + 1) ∧ q.length ≤ s.Points.length + 1 := by
    have h1 := seg_le hq.1
    exact ⟨fun x hx => by have := (seg_mem hq.1 x hx).2; omega,by omega⟩
   have hpc := pc_bd h hsb.1
   have hbd := stn_bd h hb
   have hstp : stp (s.Points.length + 1) a q = q := by unfold stp; rw [if_neg (by omega)]
   rw [Bool.not_true,cond_false,Option.bind_some,Option.bind_some,Option.bind_some]
   have e8 : (rtO s a (some q)).plan = ci q := by show ci (stp (s.Points.length + 1) a q) = _; rw [hstp]
   have ec : (rtO s a (some q)).cost = pc (cst s) q := rfl
   rw [e8]
   have hcost : W ((rtO s a (some q)).cost + (rp (stn s b)).Cost) = pc (cst s) (q ++ [b]) := by
    rw [ec,pc_app]
    show W (pc (cst s) q + (stn s b).Cost) = pc (cst s) q + (cst s b + 0)
    unfold cst at *
    rw [W_sm (by omega) (by omega)]
    omega
   have hj : ∀ pl,pl = ci (stp (s.Points.length + 1) b (q ++ [b])) → ∃ B' o',ref03_Plan_j29 N (b : Int) B (a : Int) (rtO s a (some q)) (rp (stn s b)) pl = some (.cont (B',((a + 1 : Nat) : Int))) ∧ In4 s b (a + 1) B' o' := by
    rintro pl rfl
    unfold ref03_Plan_j29 ref03_Plan_j25
    rw [getI_d ⟨false,0,[]⟩ hlb,Option.bind_some,hcost,hi.now,W_succ (by omega)]
    obtain ⟨v,hv,hv'⟩ := refb_spec hN (s := s) (b := b) (q := q ++ [b]) (o := o) ⟨q,rfl⟩ (fun r hr => by
     have hfw := hi.fw
     rw [hr] at hfw
     obtain ⟨r',d,h1,-,-,-⟩ := seg_last hfw.1 (by omega)
     exact ⟨r',h1⟩) (by simp; omega)
    show ∃ B' o',Option.bind (ref03_better N (rtO s b (some (q ++ [b]))) (rtO s b o)) _ = _ ∧ _
    rw [hv,Option.bind_some]
    cases v with
    | true =>
     rw [cond_true,Option.bind_some,Int.toNat_natCast]
     refine ⟨B.set b (rtO s b (some (q ++ [b]))),some (q ++ [b]),rfl,⟨by rw [List.length_set]; exact hi.len,fun k hk1 hk2 => ?_,fun k hk1 hk2 => ?_,getD_set_self hlb,fw_new hi.fw ha hst hq (hv'.1 rfl)⟩⟩
     ·rw [getD_set_ne (by omega)]
      exact hi.done k hk1 hk2
     ·rw [getD_set_ne (by omega)]
      exact hi.todo k hk1 hk2
    | false =>
     rw [cond_false]
     refine ⟨B,o,rfl,hi.len,hi.done,hi.todo,hi.now,?_⟩
     cases o with
     | none => exact absurd (hv'.2 (fun r hr => by cases hr)) (by simp)
     | some r =>
      refine fw_keep hi.fw hq fun hb' => ?_
      have := hv'.2 (fun r' hr' => by obtain rfl := Option.some.inj hr'; exact hb')
      cases this
   rw [room_ok (by rw [ci_len]; omega),Option.bind_some,stl_len,W_sm (by omega) (by omega)]
   by_cases hbl : b = s.Points.length + 1
   ·rw [dF (by omega),cond_false]
    refine hj _ ?_
    unfold stp
    rw [if_pos hbl,List.dropLast_concat]
   ·rw [dT (by omega),cond_true,room_ok (by simp [ci_len]; omega),Option.bind_some]
    refine hj _ ?_
    unfold stp
    rw [if_neg hbl,ci_app]
    rfl
 ·rw [hBa]
  exact ⟨B,o,rfl,hskip fun q' hs _ _ => hno q' hs⟩
theorem ref_plan {N : Nat} (hN : 100 ≤ N) {s : gauge_Site} (hs : s.Points.length ≤ 40) :
  (chkS s ≠ 0 ∧ ref03_Plan N (rs s) = some ([],0,chkS s)) ∨ (chkS s = 0 ∧ ((∃ q,Best (stepB s) (cst s) 0 q (s.Points.length + 1) ∧ ref03_Plan N (rs s) = some (ci q.dropLast,pc (cst s) q,0)) ∨ ((∀ q,¬ Seg (stepB s) 0 q (s.Points.length + 1)) ∧ ref03_Plan N (rs s) = some ([],0,5)))) := by
 by_cases hc : chkS s = 0
 ·right
  refine ⟨hc,?_⟩
  have h := chk_ok hc
  have hn := h.n
  have hin : ∀ b (B : List ref03_route),0 < b → b ≤ s.Points.length + 1 → Out s b B → ∃ B',ref03_Plan_b11 N (rs s) (stl s) B (b : Int) = some (.cont (B',((b + 1 : Nat) : Int))) ∧ Out s (b + 1) B' := by
   intro b B hb0 hb ho
   obtain ⟨s',h1,h2⟩ := loopInv (fun s22 : List ref03_route × Int => ref03_Plan_b22 N (rs s) (stl s) (b : Int) s22.1 s22.2)
    (fun i st => st.2 = (i : Int) ∧ ∃ o,In4 s b i st.1 o) b (by
    rintro i ⟨B1,i'⟩ hi ⟨k1,o,k2⟩
    simp only at k1 k2
    subst k1
    obtain ⟨B2,o2,e1,e2⟩ := in4_step hN h hi hb k2
    exact ⟨_,e1,rfl,o2,e2⟩) (by
    rintro ⟨B1,i'⟩ ⟨k1,-⟩
    simp only at k1
    subst k1
    show ref03_Plan_b22 N (rs s) (stl s) (b : Int) B1 (b : Int) = _
    unfold ref03_Plan_b22
    rw [dF (by omega),cond_false]) b 0 (B,0) N (by omega) (by omega)
    ⟨rfl,none,ho.len,ho.done,fun k hk1 hk2 => ho.todo k (by omega) hk2,ho.todo b (Nat.le_refl _) hb,fw_zero⟩
   obtain ⟨B1,i'⟩ := s'
   obtain ⟨k1,o,k2⟩ := h2
   refine ⟨B1,?_,k2.len,fun k hk1 hk2 => ?_,fun k hk1 hk2 => k2.todo k (by omega) hk2⟩
   ·unfold ref03_Plan_b11
    rw [stl_len,dT (by omega),cond_true,h1,Option.bind_some,W_succ (by omega)]
    rfl
   ·by_cases e : k = b
    ·subst e
     cases o with
     | none => exact .inr ⟨fw_none k2.fw hb0,k2.now⟩
     | some q => exact .inl ⟨q,fw_end k2.fw hb0,k2.now⟩
    ·exact k2.done k (by omega) hk2
  have hl0 : (List.replicate (s.Points.length + 2) (⟨false,0,[]⟩ : ref03_route)).length = s.Points.length + 2 := by simp
  have hg0 : ∀ k,(List.replicate (s.Points.length + 2) (⟨false,0,[]⟩ : ref03_route)).getD k ⟨false,0,[]⟩ = ⟨false,0,[]⟩ := fun k => by
   simp only [List.getD,List.getElem?_replicate]
   split <;> rfl
  obtain ⟨s',h1,h2⟩ := loopInv (fun s11 : List ref03_route × Int => ref03_Plan_b11 N (rs s) (stl s) s11.1 s11.2)
   (fun i st => st.2 = ((1 + i : Nat) : Int) ∧ Out s (1 + i) st.1) (s.Points.length + 1) (by
   rintro i ⟨B1,i'⟩ hi ⟨k1,k2⟩
   simp only at k1 k2
   subst k1
   obtain ⟨B2,e1,e2⟩ := hin (1 + i) B1 (by omega) (by omega) k2
   exact ⟨_,e1,rfl,e2⟩) (by
   rintro ⟨B1,i'⟩ ⟨k1,-⟩
   simp only at k1
   subst k1
   show ref03_Plan_b11 N (rs s) (stl s) B1 _ = _
   unfold ref03_Plan_b11
   rw [stl_len,dF (by omega),cond_false]) (s.Points.length + 1) 0 ((List.replicate (s.Points.length + 2) (⟨false,0,[]⟩ : ref03_route)).set 0 ⟨true,0,[]⟩,1) N (by omega) (by omega)
   ⟨rfl,by rw [List.length_set]; exact hl0,fun k hk1 hk2 => by
    have : k = 0 := by omega
    subst this
    refine .inl ⟨[],best_self,?_⟩
    rw [getD_set_self (by rw [hl0]; omega)]
    show _ = (⟨true,0,ci (stp (s.Points.length + 1) 0 [])⟩ : ref03_route)
    unfold stp
    rw [if_neg (by omega)]
    rfl,fun k hk1 hk2 => by
    rw [getD_set_ne (by omega)]
    exact hg0 k⟩
  obtain ⟨B1,i'⟩ := s'
  obtain ⟨k1,k2⟩ := h2
  have hlast : ref03_Plan N (rs s) = cond (!(B1.getD (s.Points.length + 1) ⟨false,0,[]⟩).there) (some ([],0,5)) (some ((B1.getD (s.Points.length + 1) ⟨false,0,[]⟩).plan,(B1.getD (s.Points.length + 1) ⟨false,0,[]⟩).cost,0)) := by
   unfold ref03_Plan
   rw [ref_check hN hs,Option.bind_some,hc]
   show Option.bind (ref03_stations N (rs s)) _ = _
   rw [stations_spec hs,Option.bind_some,stl_len,show inM ((s.Points.length + 2 : Nat) : Int) = some () from by unfold inM; rw [if_pos (by omega)],Option.bind_some,Int.toNat_natCast]
   have hg : getI (List.replicate (s.Points.length + 2) (⟨false,0,[]⟩ : ref03_route)) (0 : Int) = some ⟨false,0,[]⟩ :=
    (getI_d (l := List.replicate (s.Points.length + 2) (⟨false,0,[]⟩ : ref03_route)) (i := 0) ⟨false,0,[]⟩ (by rw [hl0]; omega)).trans (by rw [hg0])
   rw [hg,Option.bind_some]
   show Option.bind (loopO _ N ((List.replicate (s.Points.length + 2) (⟨false,0,[]⟩ : ref03_route)).set 0 ⟨true,0,[]⟩,1)) _ = _
   rw [h1,Option.bind_some]
   show Option.bind (getI B1 (W (((s.Points.length + 2 : Nat) : Int) - 1))) _ = _
   have hB1 := k2.len
   rw [W_sm (by omega) (by omega),show ((s.Points.length + 2 : Nat) : Int) - 1 = ((s.Points.length + 1 : Nat) : Int) by omega,getI_d ⟨false,0,[]⟩ (by show _ < B1.length; rw [hB1]; omega),Option.bind_some]
  rcases k2.done (s.Points.length + 1) (by omega) (Nat.le_refl _) with ⟨q,hq,hB⟩ | ⟨hno,hB⟩
  ·left
   refine ⟨q,hq,?_⟩
   rw [hlast,hB]
   show some (ci (stp (s.Points.length + 1) (s.Points.length + 1) q),pc (cst s) q,(0 : Int)) = _
   unfold stp
   rw [if_pos rfl]
  ·right
   refine ⟨hno,?_⟩
   rw [hlast,hB]
   rfl
 ·left
  refine ⟨hc,?_⟩
  unfold ref03_Plan
  rw [ref_check hN hs,Option.bind_some,show (chkS s != 0) = true from bne_iff_ne.2 hc,cond_true]
end Go.Nilo
