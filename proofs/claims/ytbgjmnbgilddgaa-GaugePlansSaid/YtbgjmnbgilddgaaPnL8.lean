/-
  What the plain functions compute, in plain arithmetic, part 8. Conditions: what each theorem names.
-/
import Derived.Test.YtbgjmnbgilddgaaPnL7
set_option linter.unusedSimpArgs false
set_option linter.unusedVariables false
namespace Go.Nilo
theorem awake_true : law03_awake 100 = some true := by decide +kernel
theorem same_int {N : Nat} {l : List Int} (hl : l.length ≤ 1000) (hN : l.length < N) : kit_Same_int N l l = some true := by
 unfold kit_Same_int
 rw [bne_self_eq_false,cond_false]
 have := sameLoop l (by omega) (fun s7 => kit_Same_int_b7 N l l s7) (fun i h => by
  unfold kit_Same_int_b7
  rw [lt_dec h,cond_true,getI_nat h,Option.bind_some,Option.bind_some,bne_self_eq_false,cond_false,W_succ (by omega)]) (by
  unfold kit_Same_int_b7
  rw [ge_dec,cond_false]) hN
 rw [this]
 rfl
theorem same_pts {N : Nat} {l : List gauge_Point} (hl : l.length ≤ 1000) (hN : l.length < N) : kit_Same_gauge_Point N l l = some true := by
 unfold kit_Same_gauge_Point
 rw [bne_self_eq_false,cond_false]
 have := sameLoop l (by omega) (fun s7 => kit_Same_gauge_Point_b7 N l l s7) (fun i h => by
  unfold kit_Same_gauge_Point_b7
  rw [lt_dec h,cond_true,getI_nat h,Option.bind_some,Option.bind_some,beq_self_eq_true,beq_self_eq_true,beq_self_eq_true]
  show some (Step.cont (W ((i : Int) + 1))) = _
  rw [W_succ (by omega)]) (by
  unfold kit_Same_gauge_Point_b7
  rw [ge_dec,cond_false]) hN
 rw [this]
 rfl
theorem same_site {N : Nat} {s : gauge_Site} (hl : s.Points.length ≤ 1000) (hN : s.Points.length < N) : law03_sameSite N s s = some true := by
 unfold law03_sameSite
 rw [beq_self_eq_true,beq_self_eq_true,beq_self_eq_true,beq_self_eq_true,same_pts hl hN]
 rfl
theorem plans_law (s : gauge_Site) (plan tolls : List Int) (cost : Int) : law03_GaugePlans 100 s plan tolls cost = some true := by
 have hN : 100 ≤ 100 := Nat.le_refl _
 unfold law03_GaugePlans
 by_cases hg : s.Points.length ≤ 35 ∧ plan.length ≤ 40 ∧ tolls.length ≤ 40
 ·obtain ⟨g1,g2,g3⟩ := hg
  have hs : s.Points.length ≤ 40 := by omega
  rw [dF (show ¬ (35 : Int) < _ by omega),dF (show ¬ (40 : Int) < ((plan.length : Nat) : Int) by omega),dF (show ¬ (40 : Int) < ((tolls.length : Nat) : Int) by omega),Bool.or_false,Bool.or_false,cond_false]
  unfold law03_CopySite kit_Copy_gauge_Point kit_Copy_int
  rw [room_ok (by omega),Option.bind_some,Option.bind_some,Option.bind_some,room_ok (by omega),Option.bind_some,Option.bind_some,room_ok (by omega),Option.bind_some,Option.bind_some]
  show Option.bind (gauge_CheckSite 100 s) _ = _
  rw [check_spec hN hs,Option.bind_some,site_spec hN hs,Option.bind_some,ref_check hN hs,Option.bind_some,bne_self_eq_false,cond_false]
  show Option.bind (gauge_Cost 100 s plan) _ = _
  rw [cost_spec hN hs g2,Option.bind_some,Option.bind_some,ref_cost hN hs g2,Option.bind_some,bne_self_eq_false,bne_self_eq_false]
  show Option.bind (gauge_Plan 100 s) _ = _
  have h24 : law03_GaugePlans_j24 100 s plan tolls cost s plan tolls = some true := by
   unfold law03_GaugePlans_j24
   rw [proves_spec hN hs g3,Option.bind_some,site_spec hN hs,Option.bind_some,ref_proves hN hs g3,Option.bind_some,beq_self_eq_true,beq_self_eq_true,Bool.and_true,cond_true,same_site (by omega) (by omega),Option.bind_some,Option.bind_some,cond_true,same_int (by omega) (by omega),Option.bind_some,Option.bind_some,cond_true,same_int (by omega) (by omega),Option.bind_some,Option.bind_some,cond_true,awake_true]
   rfl
  -- the same plan
  have hp : ∃ p : List Int × Int × Int,gauge_Plan 100 s = some p ∧ ref03_Plan 100 (rs s) = some p ∧ p.1.length ≤ 40 ∧ ((chkS s ≠ 0 ∧ p.2.2 = chkS s) ∨ (chkS s = 0 ∧ ((∃ q,Best (stepB s) (cst s) 0 q (s.Points.length + 1) ∧ p.2 = (pc (cst s) q,0)) ∨ ((∀ q,¬ Seg (stepB s) 0 q (s.Points.length + 1)) ∧ p.2.2 = 5)))) := by
   rcases plan_spec hN hs with ⟨a1,a2⟩ | ⟨a1,⟨q,a2,a3⟩ | ⟨a2,a3⟩⟩ <;> rcases ref_plan hN hs with ⟨b1,b2⟩ | ⟨b1,⟨r,b2,b3⟩ | ⟨b2,b3⟩⟩
   ·exact ⟨_,a2,b2,by simp,.inl ⟨a1,rfl⟩⟩
   ·exact absurd b1 a1
   ·exact absurd b1 a1
   ·exact absurd a1 b1
   ·obtain rfl := best_uniq a2 b2
    have := seg_bd a2.1
    exact ⟨_,a3,b3,by rw [ci_len,List.length_dropLast]; omega,.inr ⟨a1,.inl ⟨q,a2,rfl⟩⟩⟩
   ·exact absurd a2.1 (b2 q)
   ·exact absurd a1 b1
   ·exact absurd b2.1 (a2 r)
   ·exact ⟨_,a3,b3,by simp,.inr ⟨a1,.inr ⟨a2,rfl⟩⟩⟩
  obtain ⟨p,p1,p2,p3,p4⟩ := hp
  rw [p1,Option.bind_some,Option.bind_some,p2,Option.bind_some,same_int (by omega) (by omega),Option.bind_some,bne_self_eq_false,bne_self_eq_false]
  show Option.bind (gauge_Tolls 100 s) _ = _
  rcases tolls_spec hN hs with ⟨c1,c2⟩ | ⟨c1,L,mp,c2,c3⟩
  ·rw [c2,Option.bind_some]
   rcases p4 with ⟨d1,d2⟩ | ⟨d1,-⟩
   ·have h5 : chkS s ≠ 5 := by
     unfold chkS
     split
     ·decide
     ·split
      ·split <;> decide
      ·decide
    rw [d2,show (chkS s == 5) = false from beq_eq_false_iff_ne.2 h5,cond_false]
    unfold law03_GaugePlans_j20
    show cond ((chkS s != chkS s) || ((chkS s != 0) && decide ((0 : Int) < (((([] : List Int)).length : Nat) : Int)))) _ (cond (chkS s == 0) _ _) = _
    rw [bne_self_eq_false,dF (by simp),Bool.and_false,show (chkS s == 0) = false from beq_eq_false_iff_ne.2 c1]
    exact h24
   ·exact absurd d1 c1
  ·rw [c3,Option.bind_some]
   have hm : ∀ m w,m = (L 0).cost → w = 0 → law03_GaugePlans_j20 100 s plan tolls cost s plan tolls (tlL s L (s.Points.length + 2),0) m w = some true := by
    rintro m w rfl rfl
    unfold law03_GaugePlans_j20
    show cond (((0 : Int) != 0) || (((0 : Int) != 0) && _)) _ (cond ((0 : Int) == 0) (Option.bind (law03_Site 100 s) fun r_22 => Option.bind (ref03_Proves 100 r_22 (tlL s L (s.Points.length + 2)) (L 0).cost) _) _) = _
    rw [bne_self_eq_false,Bool.false_or,Bool.false_and,cond_false,beq_self_eq_true,cond_true,site_spec hN hs,Option.bind_some,ref_proves hN hs (by simp [tlL]; omega),Option.bind_some,tolls_prove c1 c2]
    exact h24
   rcases p4 with ⟨d1,-⟩ | ⟨-,⟨q,d1,d2⟩ | ⟨d1,d2⟩⟩
   ·exact absurd c1 d1
   ·rw [d2]
    show cond ((0 : Int) == 5) _ (law03_GaugePlans_j20 100 s plan tolls cost s plan tolls (tlL s L (s.Points.length + 2),0) (pc (cst s) q) 0) = _
    refine hm _ _ ?_ rfl
    rcases c2 0 (by omega) with ⟨r,e1,e2,-⟩ | ⟨hno,-⟩
    ·obtain rfl := best_uniq d1 e1
     rw [e2]
     rfl
    ·exact absurd d1.1 (hno q)
   ·rw [d2,show ((5 : Int) == 5) = true from rfl,cond_true]
    refine hm _ _ ?_ rfl
    rcases c2 0 (by omega) with ⟨r,e1,-,-⟩ | ⟨-,e2⟩
    ·exact absurd e1.1 (d1 r)
    ·rw [e2]
     rfl
 ·have e : (((decide (35 < ((s.Points.length : Nat) : Int))) || (decide (40 < ((plan.length : Nat) : Int)))) || (decide (40 < ((tolls.length : Nat) : Int)))) = true := by
   rw [Bool.or_eq_true,Bool.or_eq_true,decide_eq_true_eq,decide_eq_true_eq,decide_eq_true_eq]
   omega
  rw [e,cond_true,awake_true]
  rfl
end Go.Nilo
