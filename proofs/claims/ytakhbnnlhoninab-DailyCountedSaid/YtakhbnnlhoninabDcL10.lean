/-
  What the plain functions compute, in plain arithmetic, part 10. Conditions: what each theorem names.
-/
import Derived.Test.YtakhbnnlhoninabDcL9
set_option linter.unusedSimpArgs false
set_option linter.unusedVariables false
namespace Go.Nilo
theorem same_int {N : Nat} {l : List Int} (hl : l.length ≤ 1000) (hN : l.length < N) : kit_Same_int N l l = some true := by
 unfold kit_Same_int
 rw [bne_self_eq_false,cond_false,sameLoop l (by omega) _ (fun i hi => by
  show kit_Same_int_b7 N l l (i : Int) = _
  unfold kit_Same_int_b7
  rw [lt_dec hi,cond_true,getI_d 0 hi,Option.bind_some,Option.bind_some,bne_self_eq_false,cond_false,W_succ (by omega)]) (by
  show kit_Same_int_b7 N l l _ = _
  unfold kit_Same_int_b7
  rw [ge_dec,cond_false]) hN]
 rfl
theorem copy_ok {N : Nat} {l : List daily_Reading} (h : l.length ≤ 1000) : kit_Copy_daily_Reading N l = some l := by
 unfold kit_Copy_daily_Reading
 rw [room_ok (by omega),Option.bind_some]
theorem right_ok {N : Nat} (hN : 40 ≤ N) {l : List daily_Reading} (hl : RdOk l) {x : List Int} {c : Int} (hc : Cor l x c) :
  ∃ r k,loopO (fun s10 => law07_DailyCounted_b10 N (x,c,0) l s10.1 s10.2) N (l,0) = some (.go (r,k)) ∧ r.length = l.length ∧ (∀ j,j < l.length → vl r j = x.getD j 0) ∧ RdOk r := by
 have hl1 := hl.n1
 have hxn := hc.n
 obtain ⟨s,q1,q2⟩ := loopInv (ρ := Bool) (fun s10 : List daily_Reading × Int => law07_DailyCounted_b10 N (x,c,0) l s10.1 s10.2) (fun i s => s.2 = (i : Int) ∧ s.1.length = l.length ∧ ∀ j,j < l.length → s.1.getD j rd0 = if j < i then ⟨x.getD j 0,wt l j⟩ else l.getD j rd0) l.length (fun i s hi hI => by
   obtain ⟨r,k⟩ := s
   obtain ⟨i1,i2,i3⟩ := hI
   simp only at i1 i2 i3
   subst i1
   have hg := i3 i hi
   rw [if_neg (by omega)] at hg
   refine ⟨(r.set i ⟨x.getD i 0,wt l i⟩,((i + 1 : Nat) : Int)),?_,rfl,by dsimp only; rw [List.length_set]; exact i2,fun j hj => ?_⟩
   ·show law07_DailyCounted_b10 N (x,c,0) l r (i : Int) = _
    unfold law07_DailyCounted_b10
    rw [lt_dec hi,cond_true]
    show Option.bind (getI x (i : Int)) _ = _
    rw [getI_d 0 (by omega),Option.bind_some,getI_d rd0 (by omega),Option.bind_some,hg,Int.toNat_natCast,W_succ (by omega)]
    rfl
   ·dsimp only
    rw [gset (by omega)]
    by_cases e : j = i
    ·rw [if_pos e,if_pos (by omega),e]
    ·rw [if_neg e,i3 j hj]
     by_cases h : j < i
     ·rw [if_pos h,if_pos (by omega)]
     ·rw [if_neg h,if_neg (by omega)]) (fun s hI => by
   obtain ⟨r,k⟩ := s
   obtain ⟨i1,i2,i3⟩ := hI
   simp only at i1
   subst i1
   show law07_DailyCounted_b10 N (x,c,0) l r ((l.length : Nat) : Int) = _
   unfold law07_DailyCounted_b10
   rw [ge_dec,cond_false]) l.length 0 (l,0) N (by omega) (by omega) ⟨rfl,rfl,fun j hj => by rw [if_neg (by omega)]⟩
 obtain ⟨r,k⟩ := s
 obtain ⟨i1,i2,i3⟩ := q2
 simp only at i1 i2 i3
 have hx := (hc.bd hl).2
 have hv : ∀ j,j < l.length → vl r j = x.getD j 0 ∧ wt r j = wt l j := fun j hj => by
  unfold vl
  rw [show wt r j = (r.getD j rd0).Weight from rfl,i3 j hj,if_pos hj]
  exact ⟨rfl,rfl⟩
 refine ⟨r,k,q1,i2,fun j hj => (hv j hj).1,?_⟩
 have h0 := hl.n0
 refine ⟨by omega,by omega,fun i hi => ?_,fun i hi => ?_⟩
 ·have := (hv i (by omega)).1
  unfold vl at this
  rw [this]
  exact hx i (by omega)
 ·have := (hv i (by omega)).2
  unfold wt at this
  rw [this]
  exact hl.w i (by omega)
theorem list_eq {x y : List Int} (h : x.length = y.length) (he : ∀ j,j < y.length → x.getD j 0 = y.getD j 0) : x = y := by
 apply List.ext_getElem h
 intro j h1 h2
 have := he j h2
 rw [gD h1,gD h2] at this
 exact this
def bk (l : List daily_Reading) (k : Nat) : List daily_Reading := (List.range k).map fun j => ⟨1000000 - vl l (l.length - 1 - j),wt l (l.length - 1 - j)⟩
theorem bk_get {l : List daily_Reading} {k j : Nat} (h : j < k) : (bk l k).getD j rd0 = ⟨1000000 - vl l (l.length - 1 - j),wt l (l.length - 1 - j)⟩ := by simp [bk,List.getD,h]
theorem bk_len {l : List daily_Reading} {k : Nat} : (bk l k).length = k := by simp [bk]
theorem bk_succ {l : List daily_Reading} {k : Nat} : bk l (k + 1) = bk l k ++ [⟨1000000 - vl l (l.length - 1 - k),wt l (l.length - 1 - k)⟩] := by unfold bk; rw [List.range_succ,List.map_append]; rfl
theorem back_loop {N : Nat} (hN : 40 ≤ N) {l : List daily_Reading} (hl : RdOk l) {u m : Int} :
  loopO (fun s30 => law07_DailyCounted_b30 N (l,u,m) s30.1 s30.2) N (([] : List daily_Reading),W (((l.length : Nat) : Int) - 1)) = some (.go (bk l l.length,-1)) := by
 have h0 := hl.n0
 have h1 := hl.n1
 rw [W_sm (n := ((l.length : Nat) : Int) - 1) (by omega) (by omega)]
 have := runS (ρ := Bool) (fun i : Nat => (bk l i,((l.length : Nat) : Int) - 1 - (i : Int))) l.length (fun s30 => law07_DailyCounted_b30 N (l,u,m) s30.1 s30.2) (fun i hi => by
  have hv := hl.v (l.length - 1 - i) (by omega)
  show law07_DailyCounted_b30 N (l,u,m) (bk l i) (((l.length : Nat) : Int) - 1 - (i : Int)) = _
  unfold law07_DailyCounted_b30
  rw [dT (by omega),cond_true]
  show Option.bind (getI l (((l.length : Nat) : Int) - 1 - (i : Int))) _ = _
  rw [show ((l.length : Nat) : Int) - 1 - (i : Int) = ((l.length - 1 - i : Nat) : Int) by omega,getI_d rd0 (by omega),Option.bind_some,Option.bind_some,room_ok (by rw [List.length_append,bk_len,List.length_singleton]; omega),Option.bind_some,W_sm (n := 1000000 - (l.getD (l.length - 1 - i) rd0).Value) (by omega) (by omega),W_sm (by omega) (by omega),bk_succ]
  rw [show ((l.length - 1 - i : Nat) : Int) - 1 = ((l.length : Nat) : Int) - 1 - ((i + 1 : Nat) : Int) by omega]
  rfl) (by
  show law07_DailyCounted_b30 N (l,u,m) (bk l l.length) (((l.length : Nat) : Int) - 1 - ((l.length : Nat) : Int)) = _
  unfold law07_DailyCounted_b30
  rw [dF (by omega),cond_false]) (N := N) (by omega)
 rw [show ((l.length : Nat) : Int) - 1 = ((l.length : Nat) : Int) - 1 - ((0 : Nat) : Int) by omega]
 rw [show (-1 : Int) = ((l.length : Nat) : Int) - 1 - ((l.length : Nat) : Int) by omega]
 exact this
theorem bk_rd {l : List daily_Reading} (hl : RdOk l) : RdOk (bk l l.length) := by
 have h0 := hl.n0
 have h1 := hl.n1
 refine ⟨by rw [bk_len]; omega,by rw [bk_len]; omega,fun i hi => ?_,fun i hi => ?_⟩
 ·rw [bk_len] at hi
  rw [bk_get hi]
  have := hl.v (l.length - 1 - i) (by omega)
  show 0 ≤ 1000000 - vl l (l.length - 1 - i) ∧ 1000000 - vl l (l.length - 1 - i) ≤ 1000000
  unfold vl
  omega
 ·rw [bk_len] at hi
  rw [bk_get hi]
  exact hl.w (l.length - 1 - i) (by omega)
theorem tail_ok {l : List daily_Reading} (hl : RdOk l) {x : List Int} {c : Int} (hc : Cor l x c) {u m which more : Int} (hw : 0 ≤ which ∧ which ≤ 255) (hm : 0 ≤ more ∧ more ≤ 255) :
  law07_DailyCounted_j19 100 which more (l,u,m) (x,c,0) = some true := by
 have h0 := hl.n0
 have h1 := hl.n1
 obtain ⟨hcb,hx⟩ := hc.bd hl
 have hxn := hc.n
 unfold law07_DailyCounted_j19
 dsimp only
 rw [W_sm (n := which) (by omega) (by omega),W_sm (n := more) (by omega) (by omega),tmod_mod hw.1]
 obtain ⟨i,hi⟩ := Int.eq_ofNat_of_zero_le (show 0 ≤ which % ((l.length : Nat) : Int) from Int.emod_nonneg _ (by omega))
 have hil : i < l.length := by
  have := Int.emod_lt_of_pos which (show (0 : Int) < ((l.length : Nat) : Int) by omega)
  omega
 rw [hi,copy_ok (by omega),Option.bind_some,getI_d rd0 hil,Option.bind_some]
 have hv := hl.v i hil
 have hwi := hl.w i hil
 have hxi := hx i hil
 rw [W_sm (n := 100 - (l.getD i rd0).Weight) (by omega) (by omega),W_sm (n := 100 - (l.getD i rd0).Weight + 1) (by omega) (by omega)]
 have hz : nz (100 - (l.getD i rd0).Weight + 1) = some () := by unfold nz; rw [if_neg (by omega)]
 rw [hz,Option.bind_some,Option.bind_some,Option.bind_some,tmod_mod hm.1,Int.toNat_natCast]
 have hw0 := Int.emod_nonneg more (show 100 - (l.getD i rd0).Weight + 1 ≠ 0 by omega)
 have hw1 := Int.emod_lt_of_pos more (show 0 < 100 - (l.getD i rd0).Weight + 1 by omega)
 generalize more % (100 - (l.getD i rd0).Weight + 1) = w at *
 rw [W_sm (n := (l.getD i rd0).Weight + w) (by omega) (by omega)]
 have hset : ∀ j,(l.set i ⟨(l.getD i rd0).Value,(l.getD i rd0).Weight + w⟩).getD j rd0 = if j = i then ⟨(l.getD i rd0).Value,(l.getD i rd0).Weight + w⟩ else l.getD j rd0 := fun j => gset hil
 have hln : (l.set i ⟨(l.getD i rd0).Value,(l.getD i rd0).Weight + w⟩).length = l.length := by rw [List.length_set]
 generalize l.set i ⟨(l.getD i rd0).Value,(l.getD i rd0).Weight + w⟩ = h at *
 have hrd : RdOk h := by
  refine ⟨by omega,by omega,fun j hj => ?_,fun j hj => ?_⟩
  ·rw [hset j]
   by_cases e : j = i
   ·rw [if_pos e]; exact hv
   ·rw [if_neg e]; exact hl.v j (by omega)
  ·rw [hset j]
   by_cases e : j = i
   ·rw [if_pos e]; dsimp only; omega
   ·rw [if_neg e]; exact hl.w j (by omega)
 obtain ⟨y,d,e1,hd⟩ := correct_cor (N := 100) (by omega) hrd
 have hh := cor_heavy hl hln hil hw0 (fun j hj => by
  unfold vl
  rw [hset j]
  by_cases e : j = i
  ·rw [if_pos e,e]
  ·rw [if_neg e]) (fun j hj => by
  unfold wt
  rw [hset j]
  by_cases e : j = i
  ·rw [if_pos e,if_pos e,e]
  ·rw [if_neg e,if_neg e]) hc hd
 have hmul : 0 ≤ w * max (x.getD i 0 - vl l i) (vl l i - x.getD i 0) ∧ w * max (x.getD i 0 - vl l i) (vl l i - x.getD i 0) ≤ 100 * 1000000 := by
  unfold vl
  exact mul_bd (by omega) (by omega) (by omega) (by omega)
 rw [e1,Option.bind_some]
 dsimp only
 rw [bne_self_eq_false,dF (show ¬ d < c by omega),Bool.or_false,cond_false,getI_d 0 (by omega),Option.bind_some,Option.bind_some,Option.bind_some,Option.bind_some,W_sm (n := x.getD i 0 - (l.getD i rd0).Value) (by omega) (by omega),W_sm (n := (l.getD i rd0).Value - x.getD i 0) (by omega) (by omega)]
 rw [show max (x.getD i 0 - (l.getD i rd0).Value) ((l.getD i rd0).Value - x.getD i 0) = max (x.getD i 0 - vl l i) (vl l i - x.getD i 0) from rfl]
 generalize w * max (x.getD i 0 - vl l i) (vl l i - x.getD i 0) = p at *
 rw [W_sm (n := p) (by omega) (by omega),W_sm (n := c + p) (by omega) (by omega),dF (show ¬ c + p < d by omega),Option.bind_some,cond_false,back_loop (by omega) hl,Option.bind_some,exK_at]
 obtain ⟨z,d',e2,hd'⟩ := correct_cor (N := 100) (by omega) (bk_rd hl)
 have hb := cor_back (M := 1000000) (bk_len) (fun j hj => by
  show ((bk l l.length).getD j rd0).Value = _
  rw [bk_get hj]) (fun j hj => by
  show ((bk l l.length).getD j rd0).Weight = _
  rw [bk_get hj]) hc hd'
 dsimp only
 rw [e2,Option.bind_some]
 dsimp only
 rw [hb,beq_self_eq_true,beq_self_eq_true,Bool.and_true,cond_true,awake_true]
 rfl
theorem few_get {l : List daily_Reading} {i j : Nat} (hi : i < l.length) : (l.take i ++ l.drop (i + 1)).getD j rd0 = l.getD (if j < i then j else j + 1) rd0 := by
 by_cases h : j < i
 ·rw [if_pos h]
  simp [List.getD,List.getElem?_append_left (show j < (l.take i).length by simp; omega),List.getElem?_take,h]
 ·rw [if_neg h]
  have hl : (l.take i).length = i := by simp; omega
  simp [List.getD,List.getElem?_append_right (show (l.take i).length ≤ j by omega),List.getElem?_drop,hl,show i + 1 + (j - i) = j + 1 by omega]
theorem counted_law {numbers : List Int} (hb : Bytes numbers) {which more : Int} (hw : 0 ≤ which ∧ which ≤ 255) (hm : 0 ≤ more ∧ more ≤ 255) : law07_DailyCounted 100 numbers which more = some true := by
 have hN : 40 ≤ 100 := by omega
 obtain ⟨l,u,m,n,a1,n1,n2,hk⟩ := counted_ok hN hb (u := 0) (m := 0) (k := 0) ⟨by omega,by omega,by omega,by omega⟩ (by omega)
 have hl := hk.rd n1 (by omega)
 have hln := hk.len
 obtain ⟨x,c,e1,hc⟩ := correct_cor hN hl
 have hxn := hc.n
 obtain ⟨hcb,hx⟩ := hc.bd hl
 unfold law07_DailyCounted
 show Option.bind (law07_Counted 100 ⟨numbers,0,0⟩ 16) _ = _
 rw [a1,Option.bind_some]
 dsimp only
 rw [e1,Option.bind_some]
 dsimp only
 rw [hxn,bne_self_eq_false,bne_self_eq_false,Bool.or_false,cond_false,copy_ok (by omega),Option.bind_some]
 obtain ⟨r,k,b1,b2,b3,b4⟩ := right_ok hN hl hc
 rw [b1,Option.bind_some,exK_at]
 dsimp only
 have hmr : Mono r.length (fun j => x.getD j 0) := by rw [b2]; exact hc.m
 have hmv : Mono r.length (vl r) := fun i hi => by
  rw [b3 i (by omega),b3 (i + 1) (by omega)]
  exact hmr i hi
 obtain ⟨y,d,e2,hd⟩ := correct_cor hN b4
 obtain ⟨r1,r2⟩ := cor_right b4 hmr (fun j hj => b3 j (by omega)) hd
 have hyn := hd.n
 have hxy : x = y := list_eq (by omega) fun j hj => (r2 j (by omega)).symm
 subst hxy
 subst r1
 rw [e2,Option.bind_some,falls_mono hN b4 (by omega) hmv,Option.bind_some,proves_none hN b4,Option.bind_some]
 dsimp only
 rw [bne_self_eq_false]
 simp only [Bool.or_false,cond_false]
 rw [same_int (by omega) (by omega),Option.bind_some,Option.bind_some]
 show cond false _ _ = _
 have hz : nz ((l.length : Nat) : Int) = some () := by unfold nz; rw [if_neg (by omega)]
 rw [cond_false,hz,Option.bind_some,Option.bind_some]
 have ht := tail_ok hl hc (u := u) (m := m) hw hm
 rw [W_sm (n := which) (by omega) (by omega),tmod_mod hw.1]
 obtain ⟨i,hi⟩ := Int.eq_ofNat_of_zero_le (show 0 ≤ which % ((l.length : Nat) : Int) from Int.emod_nonneg _ (by omega))
 have hil : i < l.length := by
  have := Int.emod_lt_of_pos which (show (0 : Int) < ((l.length : Nat) : Int) by omega)
  omega
 rw [hi,W_succ (by omega)]
 have hdel : slices_Delete_Ldaily_Reading_daily_Reading 100 l (i : Int) ((i + 1 : Nat) : Int) = some (l.take i ++ l.drop (i + 1)) := by
  unfold slices_Delete_Ldaily_Reading_daily_Reading delO
  rw [if_pos (by omega),Int.toNat_natCast,Int.toNat_natCast]
 have hfl : (l.take i ++ l.drop (i + 1)).length + 1 = l.length := by simp; omega
 rw [hdel,Option.bind_some]
 have hget := fun j => few_get (l := l) (i := i) (j := j) hil
 generalize l.take i ++ l.drop (i + 1) = f at *
 by_cases hf0 : 0 < f.length
 ·have hf : RdOk f := by
   refine ⟨by omega,by omega,fun j hj => ?_,fun j hj => ?_⟩
   ·rw [hget j]
    exact hl.v _ (by split <;> omega)
   ·rw [hget j]
    exact hl.w _ (by split <;> omega)
  obtain ⟨z,d',e3,hd'⟩ := correct_cor hN hf
  have hle := cor_few hl hf hil hfl (fun j hj => by unfold vl; rw [hget j]) (fun j hj => by unfold wt; rw [hget j]) hc hd'
  rw [dT (by omega),cond_true,e3,Option.bind_some]
  dsimp only
  rw [bne_self_eq_false,dF (show ¬ c < d' by omega),Bool.or_false,cond_false]
  exact ht
 ·rw [dF (by omega),cond_false]
  exact ht
end Go.Nilo
