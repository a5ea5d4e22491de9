/-
  What the plain functions compute, in plain arithmetic, part 9. Conditions: what each theorem names.
-/
import Derived.Test.YtakhbnnlhoninabDcL8
set_option linter.unusedSimpArgs false
set_option linter.unusedVariables false
namespace Go.Nilo
theorem SOk.mono {u m : Int} {k k' : Nat} (h : SOk u m k) (hk : k ≤ k') : SOk u m k' := ⟨h.u0,by have := h.u1; omega,h.m0,h.m1⟩
theorem gset {α : Type} {l : List α} {i j : Nat} {x d : α} (hi : i < l.length) : (l.set i x).getD j d = if j = i then x else l.getD j d := by
 by_cases h : j = i
 ·subst h
  rw [if_pos rfl]
  simp [List.getD,hi]
 ·rw [if_neg h]
  simp [List.getD,List.getElem?_set_ne (Ne.symm h)]
structure COk (n : Nat) (l : List daily_Reading) : Prop where
 len : l.length = n
 v : ∀ i,i < n → 0 ≤ vl l i ∧ vl l i ≤ 1000
 w : ∀ i,i < n → 1 ≤ wt l i ∧ wt l i ≤ 9
theorem COk.next {n : Nat} {l : List daily_Reading} (h : COk n l) {v w : Int} (hv : 0 ≤ v ∧ v ≤ 1000) (hw : 1 ≤ w ∧ w ≤ 9) : COk (n + 1) (l ++ [⟨v,w⟩]) := by
 obtain ⟨h1,h2,h3⟩ := h
 have hlt : ∀ j,j < n → vl (l ++ [⟨v,w⟩]) j = vl l j ∧ wt (l ++ [⟨v,w⟩]) j = wt l j := fun j hj => by
  unfold vl wt
  rw [getD_lt (by omega)]
  exact ⟨rfl,rfl⟩
 have heq : vl (l ++ [⟨v,w⟩]) n = v ∧ wt (l ++ [⟨v,w⟩]) n = w := by
  subst h1
  unfold vl wt
  rw [getD_eq]
  exact ⟨rfl,rfl⟩
 refine ⟨by simp [h1],fun i hi => ?_,fun i hi => ?_⟩
 ·rcases Nat.lt_or_eq_of_le (show i ≤ n by omega) with c | c
  ·rw [(hlt i c).1]; exact h2 i c
  ·rw [c,heq.1]; exact hv
 ·rcases Nat.lt_or_eq_of_le (show i ≤ n by omega) with c | c
  ·rw [(hlt i c).2]; exact h3 i c
  ·rw [c,heq.2]; exact hw
theorem COk.rd {n : Nat} {l : List daily_Reading} (h : COk n l) (h1 : 1 ≤ n) (h2 : n ≤ 30) : RdOk l := by
 obtain ⟨a,b,c⟩ := h
 refine ⟨by omega,by omega,fun i hi => ?_,fun i hi => ?_⟩
 ·have := b i (by omega)
  unfold vl at this
  omega
 ·have := c i (by omega)
  unfold wt at this
  omega
theorem counted_ok {N : Nat} (hN : 40 ≤ N) {bs : List Int} (hb : Bytes bs) {u m : Int} {k : Nat} (hs : SOk u m k) (hk : k ≤ 100000) :
  ∃ l u' m' n,law07_Counted N ⟨bs,u,m⟩ 16 = some (l,u',m') ∧ 1 ≤ n ∧ n ≤ 16 ∧ COk n l := by
 unfold law07_Counted
 obtain ⟨at0,u1,m1,a1,a2,a3,a4⟩ := next_spec (N := N) hb (n := 50) hs (by omega)
 rw [a1,Option.bind_some]
 obtain ⟨n,u2,m2,b1,b2,b3,b4⟩ := within_spec (N := N) hb (lo := 1) (hi := 16) a4 (by omega) (by omega) (by omega) (by omega)
 show ∃ l u' m' n,Option.bind (kit_Stream_Within N ⟨bs,u1,m1⟩ 1 16) _ = _ ∧ _
 rw [b1,Option.bind_some]
 obtain ⟨n,rfl⟩ := Int.eq_ofNat_of_zero_le (show 0 ≤ n by omega)
 obtain ⟨s',e1,e2⟩ := loopInv (ρ := List daily_Reading × Int × Int) (fun s6 : List daily_Reading × Int × Int × Int × Int => law07_Counted_b6 N ⟨bs,u,m⟩ ((n : Int),u2,m2) s6.1 s6.2.1 s6.2.2.1 s6.2.2.2.1 s6.2.2.2.2)
  (fun i s => COk i s.1 ∧ (0 ≤ s.2.1 ∧ s.2.1 ≤ 49 + 20 * i) ∧ s.2.2.1 = (i : Int) ∧ SOk s.2.2.2.1 s.2.2.2.2 (k + 2 + 4 * i)) n (fun i s hi hI => by
   obtain ⟨out,at_,x,v,q⟩ := s
   obtain ⟨i1,i2,i3,i4⟩ := hI
   simp only at i1 i2 i3 i4
   subst i3
   have hl := i1.len
   obtain ⟨p,u3,m3,c1,c2,c3,c4⟩ := next_spec (N := N) hb (n := 20) i4 (by omega)
   obtain ⟨w,u4,m4,d1,d2,d3,d4⟩ := within_spec (N := N) hb (lo := 1) (hi := 9) c4 (by omega) (by omega) (by omega) (by omega)
   obtain ⟨t,u5,m5,f1,f2,f3,f4⟩ := next_spec (N := N) hb (n := 3) d4 (by omega)
   obtain ⟨z,u6,m6,g1,g2,g3,g4⟩ := within_spec (N := N) hb (lo := -40) (hi := 40) f4 (by omega) (by omega) (by omega) (by omega)
   have hj : ∀ (y v' q' : Int),law07_Counted_j13 N out at_ (i : Int) (p,u3,m3) (w,u4,m4) v' q' y = some (.cont (out ++ [⟨y,w⟩],at_ + p,((i + 1 : Nat) : Int),v',q')) := fun y v' q' => by
    unfold law07_Counted_j13
    dsimp only
    rw [room_ok (by simp; omega),Option.bind_some,W_sm (n := at_ + p) (by omega) (by omega),W_succ (by omega)]
   by_cases ht : t = 0
   ·refine ⟨(out ++ [⟨max 0 (at_ + p + z),w⟩],at_ + p,((i + 1 : Nat) : Int),u6,m6),?_,i1.next (by omega) (by omega),by dsimp only; omega,rfl,g4.mono (by omega)⟩
    show law07_Counted_b6 N ⟨bs,u,m⟩ ((n : Int),u2,m2) out at_ (i : Int) v q = _
    unfold law07_Counted_b6
    rw [dT (show (i : Int) < (n : Int) by omega),cond_true]
    show Option.bind (kit_Stream_Next N ⟨bs,v,q⟩ 20) _ = _
    rw [c1,Option.bind_some]
    show Option.bind (kit_Stream_Within N ⟨bs,u3,m3⟩ 1 9) _ = _
    rw [d1,Option.bind_some]
    show Option.bind (kit_Stream_Next N ⟨bs,u4,m4⟩ 3) _ = _
    rw [f1,Option.bind_some]
    show cond (t == 0) (Option.bind (kit_Stream_Within N ⟨bs,u5,m5⟩ (-40) 40) _) _ = _
    rw [ht,beq_self_eq_true,cond_true,g1,Option.bind_some]
    dsimp only
    rw [hj,W_sm (n := at_ + p) (by omega) (by omega),W_sm (n := at_ + p + z) (by omega) (by omega)]
   ·refine ⟨(out ++ [⟨at_ + p,w⟩],at_ + p,((i + 1 : Nat) : Int),u5,m5),?_,i1.next (by omega) (by omega),by dsimp only; omega,rfl,f4.mono (by omega)⟩
    show law07_Counted_b6 N ⟨bs,u,m⟩ ((n : Int),u2,m2) out at_ (i : Int) v q = _
    unfold law07_Counted_b6
    rw [dT (show (i : Int) < (n : Int) by omega),cond_true]
    show Option.bind (kit_Stream_Next N ⟨bs,v,q⟩ 20) _ = _
    rw [c1,Option.bind_some]
    show Option.bind (kit_Stream_Within N ⟨bs,u3,m3⟩ 1 9) _ = _
    rw [d1,Option.bind_some]
    show Option.bind (kit_Stream_Next N ⟨bs,u4,m4⟩ 3) _ = _
    rw [f1,Option.bind_some]
    show cond (t == 0) _ _ = _
    rw [beq_eq_false_iff_ne.2 ht,cond_false]
    dsimp only
    rw [hj,W_sm (n := at_ + p) (by omega) (by omega)]) (fun s hI => by
   obtain ⟨out,at_,x,v,q⟩ := s
   obtain ⟨i1,i2,i3,i4⟩ := hI
   simp only at i3
   subst i3
   show law07_Counted_b6 N ⟨bs,u,m⟩ ((n : Int),u2,m2) out at_ (n : Int) v q = _
   unfold law07_Counted_b6
   rw [ge_dec,cond_false]) n 0 ([],at0,0,u2,m2) N (by omega) (by omega) ⟨⟨rfl,fun i hi => by omega,fun i hi => by omega⟩,(by show 0 ≤ at0 ∧ at0 ≤ 49 + 20 * ((0 : Nat) : Int); omega),rfl,b4⟩
 obtain ⟨out,at_,x,v,q⟩ := s'
 refine ⟨out,v,q,n,?_,by omega,by omega,e2.1⟩
 show Option.bind (loopO _ N ([],at0,0,u2,m2)) _ = _
 rw [e1,Option.bind_some,exK_at]
theorem tot_bd {v w x : Nat → Int} {B : Int} : ∀ (m i : Nat),(∀ j,i ≤ j → j < i + m → cst (w j) (v j) (x j) ≤ B) → tot v w x i m ≤ (m : Int) * B
 | 0,i,_ => by simp [tot]
 | m + 1,i,h => by
  have h1 := tot_bd (v := v) (w := w) (x := x) m (i + 1) fun j h1 h2 => h j (by omega) (by omega)
  have h2 := h i (by omega) (by omega)
  rw [tot]
  have : ((m + 1 : Nat) : Int) * B = (m : Int) * B + B := by push_cast; grind
  omega
theorem Cor.bd {l : List daily_Reading} (hl : RdOk l) {x : List Int} {c : Int} (hc : Cor l x c) : (0 ≤ c ∧ c ≤ 3000000000) ∧ ∀ i,i < l.length → 0 ≤ x.getD i 0 ∧ x.getD i 0 ≤ 1000000 := by
 have hx : ∀ i,i < l.length → 0 ≤ x.getD i 0 ∧ x.getD i 0 ≤ 1000000 := fun i hi => by
  obtain ⟨k,h1,h2⟩ := mem_val.1 (hc.v i hi)
  rw [← h2]
  exact hl.v k h1
 have h1 := cost_nonneg hl (fun i => x.getD i 0)
 have h2 := hc.e
 have h3 := tot_bd (v := vl l) (w := wt l) (x := fun i => x.getD i 0) (B := 100000000) l.length 0 fun j _ hj => by
  exact (costs_eq (hl.v j (by omega)) (hl.w j (by omega)) (hx j (by omega))).2.2
 have h4 := hl.n1
 unfold costL at h2
 refine ⟨⟨by unfold costL at h1; omega,by omega⟩,hx⟩
end Go.Nilo
