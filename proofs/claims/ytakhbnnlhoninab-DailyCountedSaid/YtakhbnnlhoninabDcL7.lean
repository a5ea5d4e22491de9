/-
  What the plain functions compute, in plain arithmetic, part 7. Conditions: what each theorem names.
-/
import Derived.Test.YtakhbnnlhoninabDcL6
set_option linter.unusedSimpArgs false
set_option linter.unusedVariables false
namespace Go.Nilo
theorem inRn {i n : Nat} (h : i < n) : inR (i : Int) n = some () := by unfold inR; rw [if_pos ⟨by omega,by omega⟩]
theorem len_set {α : Type} (l : List α) (i j : Nat) (a b : α) : ((l.set i a).set j b).length = l.length := by rw [List.length_set,List.length_set]
def Below (B : Int) (l : List daily_kink) : Prop := ∀ k ∈ l,k.value ≤ B
theorem Below.set {B : Int} {l : List daily_kink} (h : Below B l) {i : Nat} {k : daily_kink} (hk : k ∈ l) : Below B (l.set i k) ∧ ∀ z ∈ l.set i k,z ∈ l := by
 have h1 : ∀ z ∈ l.set i k,z ∈ l := fun z hz => by
  rcases List.mem_or_eq_of_mem_set hz with h2 | h2
  ·exact h2
  ·rw [h2]; exact hk
 exact ⟨fun z hz => h z (h1 z hz),h1⟩
theorem ins_in {N : Nat} {B : Int} {n : Nat} (hn : n ≤ 30) : ∀ (j M : Nat) (l : List daily_kink),j < M → j < n → l.length = n → Below B l → ∃ s,loopO (fun s9 => slices_insertionSortCmpFunc_daily_kink_b9 N 0 s9.1 s9.2) M (l,(j : Int)) = some (.go s) ∧ s.1.length = n ∧ Below B s.1
 | 0,M + 1,l,_,_,h2,h3 => by
  refine ⟨(l,0),?_,h2,h3⟩
  have hbody : slices_insertionSortCmpFunc_daily_kink_b9 N 0 l ((0 : Nat) : Int) = some (.brk (l,((0 : Nat) : Int))) := by
   unfold slices_insertionSortCmpFunc_daily_kink_b9
   rw [dF (show ¬ (0 : Int) < ((0 : Nat) : Int) by omega),cond_false,Option.bind_some,cond_false]
  rw [loopO]
  dsimp only
  rw [hbody]
  rfl
 | j + 1,M + 1,l,h0,h1,h2,h3 => by
  have e1 : W (((j + 1 : Nat) : Int) - 1) = (j : Int) := by rw [W_sm (by omega) (by omega)]; push_cast; omega
  obtain ⟨a,ha⟩ : ∃ a,a = l.getD (j + 1) ⟨0,0,0⟩ := ⟨_,rfl⟩
  obtain ⟨b,hb⟩ : ∃ b,b = l.getD j ⟨0,0,0⟩ := ⟨_,rfl⟩
  have ma : a ∈ l := by rw [ha,gD (by omega)]; exact List.getElem_mem _
  have mb : b ∈ l := by rw [hb,gD (by omega)]; exact List.getElem_mem _
  have hbody : slices_insertionSortCmpFunc_daily_kink_b9 N 0 l ((j + 1 : Nat) : Int) = cond (decide (daily_nets_1 a b < 0)) (some (.cont ((l.set (j + 1) b).set j a,(j : Int)))) (some (.brk (l,((j + 1 : Nat) : Int)))) := by
   unfold slices_insertionSortCmpFunc_daily_kink_b9
   rw [dT (show (0 : Int) < ((j + 1 : Nat) : Int) by omega),cond_true,e1,getI_d ⟨0,0,0⟩ (show j + 1 < l.length by omega),Option.bind_some,getI_d ⟨0,0,0⟩ (show j < l.length by omega),Option.bind_some,Option.bind_some,← ha,← hb]
   simp only [Option.bind_some]
   rw [Int.toNat_natCast,Int.toNat_natCast]
  by_cases hc : daily_nets_1 a b < 0
  ·rw [dT hc,cond_true] at hbody
   obtain ⟨g1,g2⟩ := Below.set (i := j + 1) h3 mb
   have ma' : Below B ((l.set (j + 1) b).set j a) := fun z hz => by
    rcases List.mem_or_eq_of_mem_set hz with h4 | h4
    ·exact g1 z h4
    ·rw [h4]; exact h3 a ma
   obtain ⟨s,q1,q2,q3⟩ := ins_in (N := N) (B := B) hn j M ((l.set (j + 1) b).set j a) (by omega) (by omega) (by rw [len_set]; exact h2) ma'
   refine ⟨s,?_,q2,q3⟩
   rw [loopO]
   dsimp only
   rw [hbody]
   exact q1
  ·rw [dF hc,cond_false] at hbody
   refine ⟨(l,((j + 1 : Nat) : Int)),?_,h2,h3⟩
   rw [loopO]
   dsimp only
   rw [hbody]
theorem ins_all {N : Nat} (hN : 40 ≤ N) {B : Int} {l : List daily_kink} (hn : l.length ≤ 30) (h : Below B l) : ∃ r,slices_insertionSortCmpFunc_daily_kink N l 0 ((l.length : Nat) : Int) = some r ∧ r.length = l.length ∧ Below B r := by
 unfold slices_insertionSortCmpFunc_daily_kink
 have e1 : W ((0 : Int) + 1) = ((1 : Nat) : Int) := by rw [W_sm (by omega) (by omega)]; rfl
 rw [e1]
 rcases Nat.eq_zero_or_pos l.length with h0 | h0
 ·have hb : loopO (fun s3 => slices_insertionSortCmpFunc_daily_kink_b3 N 0 ((l.length : Nat) : Int) s3.1 s3.2) N (l,((1 : Nat) : Int)) = some (.go (l,((1 : Nat) : Int))) := by
   obtain ⟨N,rfl⟩ : ∃ M,N = M + 1 := ⟨N - 1,by omega⟩
   rw [loopO]
   unfold slices_insertionSortCmpFunc_daily_kink_b3
   dsimp only
   rw [dF (by omega),cond_false]
  rw [hb,Option.bind_some,exK_at]
  dsimp only
  unfold sameL
  rw [if_pos rfl]
  exact ⟨l,rfl,rfl,h⟩
 ·obtain ⟨s,q1,q2⟩ := loopInv (ρ := List daily_kink) (fun s3 : List daily_kink × Int => slices_insertionSortCmpFunc_daily_kink_b3 N 0 ((l.length : Nat) : Int) s3.1 s3.2) (fun i s => s.2 = (i : Int) ∧ 1 ≤ i ∧ s.1.length = l.length ∧ Below B s.1) l.length (fun i s hi hI => by
   obtain ⟨d,x⟩ := s
   obtain ⟨i1,i2,i3,i4⟩ := hI
   simp only at i1 i3 i4
   subst i1
   obtain ⟨s,q1,q2,q3⟩ := ins_in (N := N) (B := B) hn i N d (by omega) (by omega) i3 i4
   refine ⟨(s.1,((i + 1 : Nat) : Int)),?_,rfl,by omega,q2,q3⟩
   show slices_insertionSortCmpFunc_daily_kink_b3 N 0 ((l.length : Nat) : Int) d (i : Int) = _
   unfold slices_insertionSortCmpFunc_daily_kink_b3
   rw [dT (by omega),cond_true,q1,Option.bind_some,exK_at,W_succ (by omega)]) (fun s hI => by
   obtain ⟨d,x⟩ := s
   obtain ⟨i1,i2,i3,i4⟩ := hI
   simp only at i1
   subst i1
   show slices_insertionSortCmpFunc_daily_kink_b3 N 0 ((l.length : Nat) : Int) d ((l.length : Nat) : Int) = _
   unfold slices_insertionSortCmpFunc_daily_kink_b3
   rw [dF (by omega),cond_false]) (l.length - 1) 1 (l,((1 : Nat) : Int)) N (by omega) (by omega) ⟨rfl,by omega,rfl,h⟩
  rw [q1,Option.bind_some,exK_at]
  unfold sameL
  rw [if_pos q2.2.2.1]
  exact ⟨s.1,rfl,q2.2.2.1,q2.2.2.2⟩
theorem sort_all {N : Nat} (hN : 40 ≤ N) {B : Int} {l : List daily_kink} (hn : l.length ≤ 19) (h : Below B l) : ∃ r,slices_SortStableFunc_Ldaily_kink_daily_kink N l = some r ∧ r.length = l.length ∧ Below B r := by
 obtain ⟨r,h1,h2,h3⟩ := ins_all hN (by omega) h
 refine ⟨r,?_,h2,h3⟩
 obtain ⟨M,rfl⟩ : ∃ M,N = M + 1 := ⟨N - 1,by omega⟩
 unfold slices_SortStableFunc_Ldaily_kink_daily_kink slices_stableCmpFunc_daily_kink
 have e1 : loopO (fun s4 => slices_stableCmpFunc_daily_kink_b4 (M + 1) ((l.length : Nat) : Int) s4.1 s4.2.1 s4.2.2) (M + 1) (l,(0 : Int),(20 : Int)) = some (.go (l,0,20)) := by
  rw [loopO]
  unfold slices_stableCmpFunc_daily_kink_b4
  dsimp only
  rw [dF (by omega),cond_false]
 have e2 : loopO (fun s7 => slices_stableCmpFunc_daily_kink_b7 (M + 1) ((l.length : Nat) : Int) s7) (M + 1) (20 : Int) = some (.go 20) := by
  rw [loopO]
  unfold slices_stableCmpFunc_daily_kink_b7
  rw [dF (by omega),cond_false]
 rw [e1,Option.bind_some,exK_at]
 dsimp only
 rw [h1,Option.bind_some,e2,Option.bind_some,exK_at]
 unfold sameL
 rw [if_pos h2,Option.bind_some,Option.bind_some,if_pos h2,Option.bind_some]
theorem nets_mono {N : Nat} (hN : 40 ≤ N) {l : List daily_Reading} (hl : RdOk l) (h16 : l.length ≤ 16) (hm : Mono l.length (vl l)) : daily_nets N l = some (fun _ => 0) := by
 unfold daily_nets
 obtain ⟨s,q1,q2⟩ := loopInv (ρ := Nat → Int) (fun s6 : List daily_kink × Int × (Nat → Int) => daily_nets_b6 N l s6.1 s6.2.1 s6.2.2) (fun i s => s.2.1 = (i : Int) ∧ s.1.length = i ∧ (∀ k ∈ s.1,∀ j,i ≤ j → j < l.length → k.value ≤ vl l j) ∧ s.2.2 = fun _ => 0) l.length (fun i s hi hI => by
   obtain ⟨d,x,z⟩ := s
   obtain ⟨i1,i2,i3,i4⟩ := hI
   simp only at i1 i2 i3 i4
   subst i1
   subst i4
   have hup : ∀ k,∀ j,j + k < l.length → vl l j ≤ vl l (j + k) := fun k => by
    induction k with
    | zero => intro j _; exact Int.le_refl _
    | succ k ih => intro j hj; exact Int.le_trans (ih j (by omega)) (hm (j + k) (by omega))
   have hB : Below (vl l i) (d ++ [(⟨vl l i,(i : Int),wt l i⟩ : daily_kink)]) := fun k hk => by
    rcases List.mem_append.1 hk with hk | hk
    ·exact i3 k hk i (Nat.le_refl _) hi
    ·rw [List.mem_singleton.1 hk]
     exact Int.le_refl _
   obtain ⟨r,r1,r2,r3⟩ := sort_all hN (B := vl l i) (by rw [List.length_append,i2,List.length_singleton]; omega) hB
   rw [List.length_append,i2,List.length_singleton] at r2
   have hw := (hl.w i hi).1
   have hin : loopO (fun s16 => daily_nets_b16 N (i : Int) (l.getD i rd0) s16.1 s16.2.1 s16.2.2) N (r,(0 : Int),(fun _ => (0 : Int))) = some (.go (r,0,fun _ => 0)) := by
    obtain ⟨M,rfl⟩ : ∃ M,N = M + 1 := ⟨N - 1,by omega⟩
    rw [loopO]
    unfold daily_nets_b16
    dsimp only
    have g0 : r.getD 0 ⟨0,0,0⟩ ∈ r := by rw [gD (by omega)]; exact List.getElem_mem _
    have g1 := r3 _ g0
    have g2 : getI r 0 = some (r.getD 0 ⟨0,0,0⟩) := getI_d (i := 0) _ (by omega)
    rw [g2,Option.bind_some,dT (show (0 : Int) < (l.getD i rd0).Weight by omega),cond_true,Option.bind_some,dF (show ¬ (l.getD i rd0).Value < (r.getD 0 ⟨0,0,0⟩).value from by
     have : vl l i = (l.getD i rd0).Value := rfl
     omega),cond_false]
   refine ⟨(r,((i + 1 : Nat) : Int),fun _ => 0),?_,rfl,r2,fun k hk j h1 h2 => ?_,rfl⟩
   ·show daily_nets_b6 N l d (i : Int) (fun _ => 0) = _
    unfold daily_nets_b6
    rw [lt_dec hi,cond_true,getI_d rd0 hi,Option.bind_some,room_ok (by rw [List.length_append,i2,List.length_singleton]; omega),Option.bind_some]
    show Option.bind (slices_SortStableFunc_Ldaily_kink_daily_kink N (d ++ [(⟨vl l i,(i : Int),wt l i⟩ : daily_kink)])) _ = _
    rw [r1,Option.bind_some,hin,Option.bind_some,exK_at]
    show cond (decide ((0 : Int) < 0)) _ _ = _
    rw [dF (by omega),cond_false]
    unfold daily_nets_j10
    rw [W_succ (by omega)]
   ·have h3 := r3 k hk
    have h4 := hup (j - i) i (by omega)
    rw [show i + (j - i) = j by omega] at h4
    omega) (fun s hI => by
   obtain ⟨d,x,z⟩ := s
   obtain ⟨i1,i2,i3,i4⟩ := hI
   simp only at i1 i4
   subst i1
   show daily_nets_b6 N l d ((l.length : Nat) : Int) z = _
   unfold daily_nets_b6
   rw [ge_dec,cond_false]) l.length 0 (([] : List daily_kink),0,(fun _ => 0)) N (by omega) (by omega) ⟨rfl,rfl,(fun k hk => by cases hk),rfl⟩
 rw [q1,Option.bind_some,exK_at,q2.2.2.2]
theorem falls_mono {N : Nat} (hN : 40 ≤ N) {l : List daily_Reading} (hl : RdOk l) (h16 : l.length ≤ 16) (hm : Mono l.length (vl l)) : daily_Falls N l = some ([],0) := by
 unfold daily_Falls
 rw [rcheck_ok hN hl,Option.bind_some,bne_self_eq_false,cond_false,nets_mono hN hl h16 hm,Option.bind_some]
 show Option.bind (loopO (fun s11 => daily_Falls_b11 N l s11.1 s11.2.1 s11.2.2.1 s11.2.2.2) N (([] : List daily_Fall),((0 : Nat) : Int),(fun _ : Nat => (0 : Int)),(fun _ => none : Int → Option Int))) _ = _
 rw [runS (ρ := List daily_Fall × Int) (fun i : Nat => (([] : List daily_Fall),(i : Int),(fun _ : Nat => (0 : Int)),(fun _ => none : Int → Option Int))) l.length _ (fun i hi => by
  show daily_Falls_b11 N l [] (i : Int) (fun _ => 0) (fun _ => none) = _
  unfold daily_Falls_b11
  rw [lt_dec hi,cond_true,inRn (by omega),Option.bind_some]
  show cond (decide ((0 : Int) < 0)) _ _ = _
  rw [dF (by omega),cond_false]
  unfold daily_Falls_j17
  have hin : loopO (fun s20 => daily_Falls_b20 N (i : Int) s20.1 s20.2.1 s20.2.2.1 s20.2.2.2) N (([] : List daily_Fall),(0 : Int),(fun _ : Nat => (0 : Int)),(fun _ => none : Int → Option Int)) = some (.go ([],0,fun _ => 0,fun _ => none)) := by
   obtain ⟨M,rfl⟩ : ∃ M,N = M + 1 := ⟨N - 1,by omega⟩
   rw [loopO]
   unfold daily_Falls_b20
   dsimp only
   rw [inRn (show i < 30 by omega),Option.bind_some,dF (show ¬ (0 : Int) < 0 by omega)]
   cases decide ((0 : Int) < (i : Int)) <;> rfl
  rw [hin,Option.bind_some,exK_at]
  dsimp only
  rw [W_succ (by omega)]) (by
  show daily_Falls_b11 N l [] ((l.length : Nat) : Int) (fun _ => 0) (fun _ => none) = _
  unfold daily_Falls_b11
  rw [ge_dec,cond_false]) (by omega),Option.bind_some,exK_at]
theorem proves_none {N : Nat} (hN : 40 ≤ N) {l : List daily_Reading} (hl : RdOk l) : daily_Proves N l [] = some (0,0) := by
 have hl1 := hl.n1
 unfold daily_Proves
 rw [rcheck_ok hN hl,Option.bind_some]
 show daily_Proves_j3 N l [] 0 = _
 unfold daily_Proves_j3
 rw [bne_self_eq_false,cond_false]
 have e1 : loopO (fun s11 => daily_Proves_b11 N l [] s11.1 s11.2.1 s11.2.2) N ((0 : Int),(0 : Int),(fun _ : Nat => (0 : Int))) = some (.go (0,0,fun _ => 0)) := by
  obtain ⟨M,rfl⟩ : ∃ M,N = M + 1 := ⟨N - 1,by omega⟩
  rw [loopO]
  rfl
 rw [e1,Option.bind_some,exK_at]
 have e2 := runS (ρ := Int × Int) (fun i : Nat => (i : Int)) l.length (fun s14 => daily_Proves_b14 N l (fun _ => 0) s14) (fun i hi => by
  show daily_Proves_b14 N l (fun _ => 0) (i : Int) = _
  unfold daily_Proves_b14
  have hw := (hl.w i hi).1
  rw [lt_dec hi,cond_true,getI_d rd0 hi,Option.bind_some,inRn (by omega),Option.bind_some]
  show cond (decide ((l.getD i rd0).Weight < 0)) _ _ = _
  rw [dF (by omega),cond_false,W_succ (by omega)]) (by
  show daily_Proves_b14 N l (fun _ => 0) ((l.length : Nat) : Int) = _
  unfold daily_Proves_b14
  rw [ge_dec,cond_false]) (N := N) (by omega)
 show Option.bind (loopO (fun s14 => daily_Proves_b14 N l (fun _ => 0) s14) N ((0 : Nat) : Int)) _ = _
 rw [e2,Option.bind_some,exK_at]
end Go.Nilo
