/-
  What the plain functions compute, in plain arithmetic, part 9. Conditions: what each theorem names.
-/
import Derived.Test.YtfacdlbpakdcfaaDkL8
set_option linter.unusedSimpArgs false
set_option linter.unusedVariables false
namespace Go.Nilo
theorem sort_ex : sortO [10,14,12,20] = some [10,12,14,20] := by
 unfold sortO
 rw [if_pos (by decide)]
 simp [List.mergeSort]
theorem counter_ex : law07_Counter 500 [10,14,12,20] = some [⟨10,1⟩,⟨14,1⟩,⟨12,1⟩,⟨20,1⟩] := by rfl
theorem correct_ex : daily_Correct 500 [⟨10,1⟩,⟨14,1⟩,⟨12,1⟩,⟨20,1⟩] = some ([10,12,12,20],2,0) := by
 unfold daily_Correct
 have h1 : daily_CheckReadings 500 [⟨10,1⟩,⟨14,1⟩,⟨12,1⟩,⟨20,1⟩] = some 0 := by decide +kernel
 have h2 : loopO (fun s9 => daily_Correct_b9 500 [⟨10,1⟩,⟨14,1⟩,⟨12,1⟩,⟨20,1⟩] s9.1 s9.2) 500 (([] : List Int),0) = some (.go ([10,14,12,20],4)) := by rfl
 rw [h1,Option.bind_some,h2,Option.bind_some]
 rw [show ((0 : Int) != 0) = false from rfl,cond_false]
 simp only [exK,slices_Sort_Lint_int,sort_ex,Option.bind_some]
 decide +kernel
theorem awake_true : law07_awake 500 = some true := by
 unfold law07_awake
 have h3 : law07_Four 500 58 = some ⟨10,5,[⟨true,⟨20,30⟩⟩,⟨false,⟨0,0⟩⟩,⟨false,⟨0,0⟩⟩,⟨true,⟨58,90⟩⟩]⟩ := rfl
 rw [counter_ex]
 simp only [Option.bind_some]
 rw [correct_ex]
 decide +kernel
end Go.Nilo
namespace Go.Nilo
structure Bytes (l : List Int) : Prop where
 el : ∀ e ∈ l,0 ≤ e ∧ e ≤ 255
 len : l.length ≤ 9223372036854775807
structure SOk (u m : Int) (k : Nat) : Prop where
 u0 : 0 ≤ u
 u1 : u ≤ k
 m0 : 0 ≤ m
 m1 : m ≤ 250


theorem j9_spec {N : Nat} {s_ : kit_Stream} {n b2 b3 : Int} {k : Nat} (hs : SOk s_.used s_.mix k) (hk : k ≤ 1000000) (hn : 2 ≤ n) (h2 : 0 ≤ b2 ∧ b2 ≤ 2000000) (h3 : 0 ≤ b3) :
  ∃ r u m,kit_Stream_Next_j9 N s_ n b2 b3 = some (r,u,m) ∧ 0 ≤ r ∧ r < n ∧ SOk u m (k + 1) := by
 obtain ⟨u0,u1,m0,m1⟩ := hs
 have e1 : W (5 * s_.mix) = 5 * s_.mix := W_id (by omega) (by omega)
 have e2 : W (5 * s_.mix + b2) = 5 * s_.mix + b2 := W_id (by omega) (by omega)
 have e3 : W (5 * s_.mix + b2 + 1) = 5 * s_.mix + b2 + 1 := W_id (by omega) (by omega)
 have e4 : W (s_.used + 1) = s_.used + 1 := W_id (by omega) (by omega)
 have hz : nz n = some () := by unfold nz; rw [if_neg (by omega)]
 refine ⟨b3 % n,s_.used + 1,(5 * s_.mix + b2 + 1) % 251,?_,Int.emod_nonneg _ (by omega),Int.emod_lt_of_pos _ (by omega),⟨by omega,by push_cast; omega,Int.emod_nonneg _ (by omega),?_⟩⟩
 ·unfold kit_Stream_Next_j9
  rw [hz,e1,e2,e3,e4,tmod_mod h3,tmod_mod (by omega)]
  rfl
 ·have := Int.emod_lt_of_pos (5 * s_.mix + b2 + 1) (show (0 : Int) < 251 by omega)
  omega

theorem j6_spec {N : Nat} {s_ : kit_Stream} {n b2 : Int} {k : Nat} (hs : SOk s_.used s_.mix k) (hk : k ≤ 1000000) (hn : 2 ≤ n) (h2 : 0 ≤ b2 ∧ b2 ≤ 2000000) :
  ∃ r u m,kit_Stream_Next_j6 N s_ n b2 = some (r,u,m) ∧ 0 ≤ r ∧ r < n ∧ SOk u m (k + 1) := by
 unfold kit_Stream_Next_j6
 obtain ⟨u0,u1,m0,m1⟩ := id hs
 have e1 : W (5 * s_.mix) = 5 * s_.mix := W_id (by omega) (by omega)
 have e2 : W (5 * s_.mix + b2) = 5 * s_.mix + b2 := W_id (by omega) (by omega)
 have e3 : W (5 * s_.mix + b2 + 1) = 5 * s_.mix + b2 + 1 := W_id (by omega) (by omega)
 have e5 : W (256 * b2) = 256 * b2 := W_id (by omega) (by omega)
 have hm : 0 ≤ (5 * s_.mix + b2 + 1) % 251 := Int.emod_nonneg _ (by omega)
 have hm' := Int.emod_lt_of_pos (5 * s_.mix + b2 + 1) (show (0 : Int) < 251 by omega)
 cases hb : decide (256 < n) with
 | true =>
  show ∃ r u m,kit_Stream_Next_j9 N s_ n b2 _ = some (r,u,m) ∧ _
  refine j9_spec hs hk hn h2 ?_
  rw [e1,e2,e3,e5,tmod_mod (by omega),W_id (by omega) (by omega)]
  omega
 | false => exact j9_spec (N := N) hs hk hn h2 h2.1

theorem next_spec {N : Nat} {l : List Int} (hl : Bytes l) {u m n : Int} {k : Nat} (hs : SOk u m k) (hk : k ≤ 1000000) :
  ∃ r u' m',kit_Stream_Next N ⟨l,u,m⟩ n = some (r,u',m') ∧ 0 ≤ r ∧ (r < n ∨ r = 0) ∧ SOk u' m' (k + 1) := by
 obtain ⟨u0,u1,m0,m1⟩ := id hs
 unfold kit_Stream_Next
 cases h1 : (decide (n < 2) || (((l.length : Nat) : Int) == 0)) with
 | true => exact ⟨0,u,m,rfl,by omega,.inr rfl,⟨u0,by push_cast; omega,m0,m1⟩⟩
 | false =>
  simp at h1
  have hl0 : 0 < l.length := by
   cases l with
   | nil => simp at h1
   | cons => simp
  have hz : nz ((l.length : Nat) : Int) = some () := by unfold nz; rw [if_neg (by omega)]
  have hmod : 0 ≤ u % (l.length : Int) ∧ u % (l.length : Int) < l.length := ⟨Int.emod_nonneg _ (by omega),Int.emod_lt_of_pos _ (by omega)⟩
  have hg : getI l (u.tmod ((l.length : Nat) : Int)) = some (l[(u % (l.length : Int)).toNat]'(by omega)) := by
   rw [tmod_mod u0]
   unfold getI
   rw [if_pos hmod.1]
   exact List.getElem?_eq_getElem _
  have he := hl.el (l[(u % (l.length : Int)).toNat]'(by omega)) (List.getElem_mem _)
  generalize (l[(u % (l.length : Int)).toNat]'(by omega)) = e at hg he
  have hd : 0 ≤ u / (l.length : Int) ∧ u / (l.length : Int) ≤ u := ⟨Int.ediv_nonneg u0 (by omega),Int.ediv_le_self _ u0⟩
  have ew : W e = e := W_id (by omega) (by omega)
  have ed : W (u / (l.length : Int)) = u / (l.length : Int) := W_id (by omega) (by omega)
  have e11 : W (11 * m) = 11 * m := W_id (by omega) (by omega)
  have es : W (11 * m + u / (l.length : Int)) = 11 * m + u / (l.length : Int) := W_id (by omega) (by omega)
  have es2 : W (e + (11 * m + u / (l.length : Int))) = e + (11 * m + u / (l.length : Int)) := W_id (by omega) (by omega)
  have hgo : ∀ b2,0 ≤ b2 ∧ b2 ≤ 2000000 → ∃ r u' m',kit_Stream_Next_j6 N ⟨l,u,m⟩ n b2 = some (r,u',m') ∧ 0 ≤ r ∧ (r < n ∨ r = 0) ∧ SOk u' m' (k + 1) := by
   intro b2 hb2
   obtain ⟨r,u',m',h2,h3,h4,h5⟩ := j6_spec (N := N) (s_ := ⟨l,u,m⟩) (n := n) hs hk (by omega) hb2
   exact ⟨r,u',m',h2,h3,.inl h4,h5⟩
  simp only [cond_false,hz,hg,Option.bind_some]
  rw [tdiv_div u0,ew,ed,e11,es,es2]
  cases decide (((l.length : Nat) : Int) ≤ u) with
  | true => exact hgo _ (by omega)
  | false => exact hgo _ (by omega)

theorem within_spec {N : Nat} {l : List Int} (hl : Bytes l) {u m lo hi : Int} {k : Nat} (hs : SOk u m k) (hk : k ≤ 1000000) (h0 : -1000000000000000 ≤ lo) (h1 : hi ≤ 1000000000000000) (hle : lo ≤ hi) :
  ∃ r u' m',kit_Stream_Within N ⟨l,u,m⟩ lo hi = some (r,u',m') ∧ lo ≤ r ∧ r ≤ hi ∧ SOk u' m' (k + 1) := by
 obtain ⟨r,u',m',h2,h3,h4,h5⟩ := next_spec (N := N) hl (n := W (W (hi - lo) + 1)) hs hk
 have e1 : W (hi - lo) = hi - lo := W_id (by omega) (by omega)
 have e2 : W (hi - lo + 1) = hi - lo + 1 := W_id (by omega) (by omega)
 rw [e1,e2] at h4 h2
 have e3 : W (lo + r) = lo + r := W_id (by omega) (by omega)
 refine ⟨lo + r,u',m',?_,by omega,by omega,h5⟩
 unfold kit_Stream_Within
 rw [e1,e2,h2]
 simp [e3]


end Go.Nilo
namespace Go.Nilo
theorem SOk.mono {u m : Int} {k k' : Nat} (h : SOk u m k) (hk : k ≤ k') : SOk u m k' := ⟨h.u0,by have := h.u1; omega,h.m0,h.m1⟩
theorem gset {α : Type} {l : List α} {i j : Nat} {x d : α} (hi : i < l.length) : (l.set i x).getD j d = if j = i then x else l.getD j d := by
 by_cases h : j = i
 ·subst h
  rw [if_pos rfl]
  simp [List.getD,hi]
 ·rw [if_neg h]
  simp [List.getD,List.getElem?_set_ne (Ne.symm h)]
structure COk (n : Nat) (l : List daily_Reading) : Prop where
 len : l.length = n
 v : ∀ i,i < n → 0 ≤ vl l i ∧ vl l i ≤ 1000
 w : ∀ i,i < n → 1 ≤ wt l i ∧ wt l i ≤ 9
theorem COk.next {n : Nat} {l : List daily_Reading} (h : COk n l) {v w : Int} (hv : 0 ≤ v ∧ v ≤ 1000) (hw : 1 ≤ w ∧ w ≤ 9) : COk (n + 1) (l ++ [⟨v,w⟩]) := by
 obtain ⟨h1,h2,h3⟩ := h
 have hlt : ∀ j,j < n → vl (l ++ [⟨v,w⟩]) j = vl l j ∧ wt (l ++ [⟨v,w⟩]) j = wt l j := fun j hj => by
  unfold vl wt
  rw [getD_lt (by omega)]
  exact ⟨rfl,rfl⟩
 have heq : vl (l ++ [⟨v,w⟩]) n = v ∧ wt (l ++ [⟨v,w⟩]) n = w := by
  subst h1
  unfold vl wt
  rw [getD_eq]
  exact ⟨rfl,rfl⟩
 refine ⟨by simp [h1],fun i hi => ?_,fun i hi => ?_⟩
 ·rcases Nat.lt_or_eq_of_le (show i ≤ n by omega) with c | c
  ·rw [(hlt i c).1]; exact h2 i c
  ·rw [c,heq.1]; exact hv
 ·rcases Nat.lt_or_eq_of_le (show i ≤ n by omega) with c | c
  ·rw [(hlt i c).2]; exact h3 i c
  ·rw [c,heq.2]; exact hw
theorem COk.rd {n : Nat} {l : List daily_Reading} (h : COk n l) (h1 : 1 ≤ n) (h2 : n ≤ 30) : RdOk l := by
 obtain ⟨a,b,c⟩ := h
 refine ⟨by omega,by omega,fun i hi => ?_,fun i hi => ?_⟩
 ·have := b i (by omega)
  unfold vl at this
  omega
 ·have := c i (by omega)
  unfold wt at this
  omega
theorem counted_ok {N : Nat} (hN : 40 ≤ N) {bs : List Int} (hb : Bytes bs) {u m : Int} {k : Nat} (hs : SOk u m k) (hk : k ≤ 100000) :
  ∃ l u' m' n,law07_Counted N ⟨bs,u,m⟩ 20 = some (l,u',m') ∧ 1 ≤ n ∧ n ≤ 20 ∧ COk n l := by
 unfold law07_Counted
 obtain ⟨at0,u1,m1,a1,a2,a3,a4⟩ := next_spec (N := N) hb (n := 50) hs (by omega)
 rw [a1,Option.bind_some]
 obtain ⟨n,u2,m2,b1,b2,b3,b4⟩ := within_spec (N := N) hb (lo := 1) (hi := 20) a4 (by omega) (by omega) (by omega) (by omega)
 show ∃ l u' m' n,Option.bind (kit_Stream_Within N ⟨bs,u1,m1⟩ 1 20) _ = _ ∧ _
 rw [b1,Option.bind_some]
 obtain ⟨n,rfl⟩ := Int.eq_ofNat_of_zero_le (show 0 ≤ n by omega)
 obtain ⟨s',e1,e2⟩ := loopInv (ρ := List daily_Reading × Int × Int) (fun s6 : List daily_Reading × Int × Int × Int × Int => law07_Counted_b6 N ⟨bs,u,m⟩ ((n : Int),u2,m2) s6.1 s6.2.1 s6.2.2.1 s6.2.2.2.1 s6.2.2.2.2)
  (fun i s => COk i s.1 ∧ (0 ≤ s.2.1 ∧ s.2.1 ≤ 49 + 20 * i) ∧ s.2.2.1 = (i : Int) ∧ SOk s.2.2.2.1 s.2.2.2.2 (k + 2 + 4 * i)) n (fun i s hi hI => by
   obtain ⟨out,at_,x,v,q⟩ := s
   obtain ⟨i1,i2,i3,i4⟩ := hI
   simp only at i1 i2 i3 i4
   subst i3
   have hl := i1.len
   obtain ⟨p,u3,m3,c1,c2,c3,c4⟩ := next_spec (N := N) hb (n := 20) i4 (by omega)
   obtain ⟨w,u4,m4,d1,d2,d3,d4⟩ := within_spec (N := N) hb (lo := 1) (hi := 9) c4 (by omega) (by omega) (by omega) (by omega)
   obtain ⟨t,u5,m5,f1,f2,f3,f4⟩ := next_spec (N := N) hb (n := 3) d4 (by omega)
   obtain ⟨z,u6,m6,g1,g2,g3,g4⟩ := within_spec (N := N) hb (lo := -40) (hi := 40) f4 (by omega) (by omega) (by omega) (by omega)
   have hj : ∀ (y v' q' : Int),law07_Counted_j13 N out at_ (i : Int) (p,u3,m3) (w,u4,m4) v' q' y = some (.cont (out ++ [⟨y,w⟩],at_ + p,((i + 1 : Nat) : Int),v',q')) := fun y v' q' => by
    unfold law07_Counted_j13
    dsimp only
    rw [room_ok (by simp; omega),Option.bind_some,W_sm (n := at_ + p) (by omega) (by omega),W_succ (by omega)]
   by_cases ht : t = 0
   ·refine ⟨(out ++ [⟨max 0 (at_ + p + z),w⟩],at_ + p,((i + 1 : Nat) : Int),u6,m6),?_,i1.next (by omega) (by omega),by dsimp only; omega,rfl,g4.mono (by omega)⟩
    show law07_Counted_b6 N ⟨bs,u,m⟩ ((n : Int),u2,m2) out at_ (i : Int) v q = _
    unfold law07_Counted_b6
    rw [dT (show (i : Int) < (n : Int) by omega),cond_true]
    show Option.bind (kit_Stream_Next N ⟨bs,v,q⟩ 20) _ = _
    rw [c1,Option.bind_some]
    show Option.bind (kit_Stream_Within N ⟨bs,u3,m3⟩ 1 9) _ = _
    rw [d1,Option.bind_some]
    show Option.bind (kit_Stream_Next N ⟨bs,u4,m4⟩ 3) _ = _
    rw [f1,Option.bind_some]
    show cond (t == 0) (Option.bind (kit_Stream_Within N ⟨bs,u5,m5⟩ (-40) 40) _) _ = _
    rw [ht,beq_self_eq_true,cond_true,g1,Option.bind_some]
    dsimp only
    rw [hj,W_sm (n := at_ + p) (by omega) (by omega),W_sm (n := at_ + p + z) (by omega) (by omega)]
   ·refine ⟨(out ++ [⟨at_ + p,w⟩],at_ + p,((i + 1 : Nat) : Int),u5,m5),?_,i1.next (by omega) (by omega),by dsimp only; omega,rfl,f4.mono (by omega)⟩
    show law07_Counted_b6 N ⟨bs,u,m⟩ ((n : Int),u2,m2) out at_ (i : Int) v q = _
    unfold law07_Counted_b6
    rw [dT (show (i : Int) < (n : Int) by omega),cond_true]
    show Option.bind (kit_Stream_Next N ⟨bs,v,q⟩ 20) _ = _
    rw [c1,Option.bind_some]
    show Option.bind (kit_Stream_Within N ⟨bs,u3,m3⟩ 1 9) _ = _
    rw [d1,Option.bind_some]
    show Option.bind (kit_Stream_Next N ⟨bs,u4,m4⟩ 3) _ = _
    rw [f1,Option.bind_some]
    show cond (t == 0) _ _ = _
    rw [beq_eq_false_iff_ne.2 ht,cond_false]
    dsimp only
    rw [hj,W_sm (n := at_ + p) (by omega) (by omega)]) (fun s hI => by
   obtain ⟨out,at_,x,v,q⟩ := s
   obtain ⟨i1,i2,i3,i4⟩ := hI
   simp only at i3
   subst i3
   show law07_Counted_b6 N ⟨bs,u,m⟩ ((n : Int),u2,m2) out at_ (n : Int) v q = _
   unfold law07_Counted_b6
   rw [ge_dec,cond_false]) n 0 ([],at0,0,u2,m2) N (by omega) (by omega) ⟨⟨rfl,fun i hi => by omega,fun i hi => by omega⟩,(by show 0 ≤ at0 ∧ at0 ≤ 49 + 20 * ((0 : Nat) : Int); omega),rfl,b4⟩
 obtain ⟨out,at_,x,v,q⟩ := s'
 refine ⟨out,v,q,n,?_,by omega,by omega,e2.1⟩
 show Option.bind (loopO _ N ([],at0,0,u2,m2)) _ = _
 rw [e1,Option.bind_some,exK_at]
theorem tot_bd {v w x : Nat → Int} {B : Int} : ∀ (m i : Nat),(∀ j,i ≤ j → j < i + m → cst (w j) (v j) (x j) ≤ B) → tot v w x i m ≤ (m : Int) * B
 | 0,i,_ => by simp [tot]
 | m + 1,i,h => by
  have h1 := tot_bd (v := v) (w := w) (x := x) m (i + 1) fun j h1 h2 => h j (by omega) (by omega)
  have h2 := h i (by omega) (by omega)
  rw [tot]
  have : ((m + 1 : Nat) : Int) * B = (m : Int) * B + B := by push_cast; grind
  omega
theorem Cor.bd {l : List daily_Reading} (hl : RdOk l) {x : List Int} {c : Int} (hc : Cor l x c) : (0 ≤ c ∧ c ≤ 3000000000) ∧ ∀ i,i < l.length → 0 ≤ x.getD i 0 ∧ x.getD i 0 ≤ 1000000 := by
 have hx : ∀ i,i < l.length → 0 ≤ x.getD i 0 ∧ x.getD i 0 ≤ 1000000 := fun i hi => by
  obtain ⟨k,h1,h2⟩ := mem_val.1 (hc.v i hi)
  rw [← h2]
  exact hl.v k h1
 have h1 := cost_nonneg hl (fun i => x.getD i 0)
 have h2 := hc.e
 have h3 := tot_bd (v := vl l) (w := wt l) (x := fun i => x.getD i 0) (B := 100000000) l.length 0 fun j _ hj => by
  exact (costs_eq (hl.v j (by omega)) (hl.w j (by omega)) (hx j (by omega))).2.2
 have h4 := hl.n1
 unfold costL at h2
 refine ⟨⟨by unfold costL at h1; omega,by omega⟩,hx⟩
end Go.Nilo
namespace Go.Nilo
abbrev Mst := List Int × Int × Int × Int × Int
structure MI (l : List daily_Reading) (k0 : Nat) (i : Nat) (s : Mst) : Prop where
 x : s.2.2.1 = (i : Int)
 len : s.1.length = i
 at0 : 0 ≤ s.2.1 ∧ s.2.1 ≤ 1000 + 6 * i
 v : ∀ j,j < i → 0 ≤ s.1.getD j 0 ∧ s.1.getD j 0 ≤ s.2.1
 m : Mono i (fun j => s.1.getD j 0)
 st : SOk s.2.2.2.1 s.2.2.2.2 (k0 + 3 * i)

theorem mine_ok {N : Nat} (hN : 40 ≤ N) {bs : List Int} (hb : Bytes bs) {l : List daily_Reading} {r_1 : List daily_Reading × Int × Int} (hr : r_1.1 = l) {n : Nat} (hk : COk n l) (h1 : 1 ≤ n) (h2 : n ≤ 20) {u m : Int} {k : Nat} (hs : SOk u m k) (hkk : k ≤ 100000) :
  ∃ s : Mst,loopO (fun s22 : Mst => law07_DailyCorrected_b22 N bs r_1 s22.1 s22.2.1 s22.2.2.1 s22.2.2.2.1 s22.2.2.2.2) N (([] : List Int),vl l 0,0,u,m) = some (.go s) ∧ MI l k n s := by
 have hln := hk.len
 refine loopInv (ρ := Step (Int × Int × Int) Bool) (fun s22 : Mst => law07_DailyCorrected_b22 N bs r_1 s22.1 s22.2.1 s22.2.2.1 s22.2.2.2.1 s22.2.2.2.2) (fun i s => MI l k i s) n (fun i s hi hI => ?_) (fun s hI => ?_) n 0 (([] : List Int),vl l 0,0,u,m) N (by omega) (by omega) ⟨rfl,rfl,?_,fun j hj => by omega,fun j hj => by omega,hs⟩
 ·obtain ⟨mine,at_,x,u,m⟩ := s
  obtain ⟨e1,e2,e3,e4,e5,e6⟩ := hI
  dsimp only at e1 e2 e3 e4 e5 e6 ⊢
  subst e1
  obtain ⟨c,u1,m1,c1,c2,c3,c4⟩ := next_spec (N := N) hb (n := 2) e6 (by omega)
  obtain ⟨p,u2,m2,p1,p2,p3,p4⟩ := next_spec (N := N) hb (n := 3) c4 (by omega)
  obtain ⟨q,u3,m3,q1,q2,q3,q4⟩ := next_spec (N := N) hb (n := 4) p4 (by omega)
  have hpq : 0 ≤ p * q ∧ p * q ≤ 2 * 3 := mul_bd p2 q2 (by omega) (by omega)
  have hj : ∀ a : Int,0 ≤ a → at_ ≤ a → a ≤ 1000 + 6 * (i : Int) → ∃ s',law07_DailyCorrected_j54 N bs mine (i : Int) a u1 m1 = some (.cont s') ∧ MI l k (i + 1) s' := by
   intro a ha0 ha1 ha2
   unfold law07_DailyCorrected_j54
   rw [room_ok (by rw [List.length_append]; simp; omega),Option.bind_some,p1,Option.bind_some]
   dsimp only
   rw [q1,Option.bind_some]
   dsimp only
   rw [W_sm (n := p * q) (by omega) (by omega),W_sm (n := a + p * q) (by omega) (by omega),W_succ (by omega)]
   refine ⟨_,rfl,rfl,by simp [e2],by dsimp only; omega,fun j hj => ?_,fun j hj => ?_,q4.mono (by omega)⟩
   ·dsimp only
    rcases Nat.lt_or_ge j i with h | h
    ·rw [getD_lt (by omega)]
     have := e4 j h
     omega
    ·have : j = mine.length := by omega
     rw [this,getD_eq]
     omega
   ·dsimp only
    rw [getD_lt (by omega)]
    rcases Nat.lt_or_ge (j + 1) i with h | h
    ·rw [getD_lt (by omega)]
     exact e5 j h
    ·have : j + 1 = mine.length := by omega
     rw [this,getD_eq]
     have := e4 j (by omega)
     omega
  unfold law07_DailyCorrected_b22
  rw [hr,dT (by omega),cond_true,c1,Option.bind_some]
  have hvi := hk.v i hi
  by_cases hc : c = 0
  ·rw [hc]
   show ∃ s',cond ((0 : Int) == 0) _ _ = _ ∧ _
   rw [beq_self_eq_true,cond_true,getI_d rd0 (by omega),Option.bind_some]
   exact hj (max at_ (vl l i)) (by omega) (by omega) (by omega)
  ·show ∃ s',cond (c == 0) _ _ = _ ∧ _
   rw [beq_eq_false_iff_ne.2 hc,cond_false]
   exact hj at_ (by omega) (by omega) (by omega)
 ·obtain ⟨mine,at_,x,u,m⟩ := s
  have e1 := hI.x
  dsimp only at e1 ⊢
  subst e1
  unfold law07_DailyCorrected_b22
  rw [hr,hln,ge_dec,cond_false]
 ·have := hk.v 0 (by omega)
  dsimp only
  omega

theorem left_ok {N : Nat} (hN : 40 ≤ N) {l : List daily_Reading} {r_1 : List daily_Reading × Int × Int} (hr : r_1.1 = l) (h2 : l.length ≤ 20) :
  ∃ s : List Int × Int,loopO (fun s30 : List Int × Int => law07_DailyCorrected_b30 N r_1 s30.1 s30.2) N (List.replicate ((l.length : Nat) : Int).toNat (0 : Int),0) = some (.go s) ∧ s.1.length = l.length ∧ ∀ j,j < l.length → s.1.getD j 0 = wt l j := by
 obtain ⟨s,q1,q2,q3,q4⟩ := loopInv (ρ := Step (Int × Int × Int) Bool) (fun s30 : List Int × Int => law07_DailyCorrected_b30 N r_1 s30.1 s30.2) (fun i s => s.2 = (i : Int) ∧ s.1.length = l.length ∧ ∀ j,j < i → s.1.getD j 0 = wt l j) l.length (fun i s hi hI => by
  obtain ⟨left,x⟩ := s
  obtain ⟨e1,e2,e3⟩ := hI
  dsimp only at e1 e2 e3 ⊢
  subst e1
  unfold law07_DailyCorrected_b30
  rw [hr,dT (by omega),cond_true,getI_d rd0 hi,Option.bind_some,getI_d (0 : Int) (by omega),Option.bind_some,W_succ (by omega),Int.toNat_natCast]
  refine ⟨_,rfl,rfl,by simp [e2],fun j hj => ?_⟩
  rw [gset (by omega)]
  by_cases h : j = i
  ·rw [if_pos h,h]; rfl
  ·rw [if_neg h]
   exact e3 j (by omega)) (fun s hI => by
  obtain ⟨left,x⟩ := s
  have e1 := hI.1
  dsimp only at e1 ⊢
  subst e1
  unfold law07_DailyCorrected_b30
  rw [hr,ge_dec,cond_false]) l.length 0 (List.replicate ((l.length : Nat) : Int).toNat (0 : Int),0) N (by omega) (by omega) ⟨rfl,by simp,fun j hj => by omega⟩
 exact ⟨s,q1,q3,q4⟩

abbrev Tst := List Int × List daily_Fall × Int × Int × Int
structure TI (l : List daily_Reading) (k0 : Nat) (i : Nat) (s : Tst) : Prop where
 x : s.2.2.1 = (i : Int)
 len : s.1.length = l.length
 w : ∀ j,j < l.length → 0 ≤ s.1.getD j 0 ∧ s.1.getD j 0 + fU s.2.1 j = wt l j
 f : ∀ f ∈ s.2.1,Fl9 l.length f
 n : s.2.1.length ≤ i
 st : SOk s.2.2.2.1 s.2.2.2.2 (k0 + 3 * i)

theorem tried_ok {N : Nat} (hN : 40 ≤ N) {bs : List Int} (hb : Bytes bs) {l : List daily_Reading} {r_1 : List daily_Reading × Int × Int} (hr : r_1.1 = l) (hl : RdOk l) {c : Nat} (hc : c ≤ 8) {r_10 : Int × Int × Int} (h10 : r_10.1 = (c : Int)) {left : List Int} (hle : left.length = l.length) (hlw : ∀ j,j < l.length → left.getD j 0 = wt l j) {u m : Int} {k : Nat} (hs : SOk u m k) (hkk : k ≤ 100000) :
  ∃ s : Tst,loopO (fun s34 : Tst => law07_DailyCorrected_b34 N bs r_1 r_10 s34.1 s34.2.1 s34.2.2.1 s34.2.2.2.1 s34.2.2.2.2) N (left,([] : List daily_Fall),0,u,m) = some (.go s) ∧ TI l k c s := by
 have hn0 := hl.n0
 have hn1 := hl.n1
 refine loopInv (ρ := Step (Int × Int × Int) Bool) (fun s34 : Tst => law07_DailyCorrected_b34 N bs r_1 r_10 s34.1 s34.2.1 s34.2.2.1 s34.2.2.2.1 s34.2.2.2.2) (fun i s => TI l k i s) c (fun i s hi hI => ?_) (fun s hI => ?_) c 0 (left,([] : List daily_Fall),0,u,m) N (by omega) (by omega) ⟨rfl,hle,fun j hj => ?_,by simp,Nat.le_refl _,hs⟩
 ·obtain ⟨left,tried,x,u,m⟩ := s
  obtain ⟨e1,e2,e3,e4,e5,e6⟩ := hI
  dsimp only at e1 e2 e3 e4 e5 e6 ⊢
  subst e1
  obtain ⟨a,u1,m1,a1,a2,a3,a4⟩ := next_spec (N := N) hb (n := ((l.length : Nat) : Int)) e6 (by omega)
  obtain ⟨b,u2,m2,b1,b2,b3,b4⟩ := next_spec (N := N) hb (n := ((l.length : Nat) : Int)) a4 (by omega)
  obtain ⟨a,rfl⟩ := Int.eq_ofNat_of_zero_le a2
  obtain ⟨b,rfl⟩ := Int.eq_ofNat_of_zero_le b2
  have hal : a < l.length := by omega
  have hbl : b < l.length := by omega
  unfold law07_DailyCorrected_b34
  rw [hr,h10,dT (show (i : Int) < (c : Int) by omega),cond_true,a1,Option.bind_some]
  dsimp only
  rw [b1,Option.bind_some]
  dsimp only
  rw [getI_d (0 : Int) (show a < left.length by omega),Option.bind_some,getI_d (0 : Int) (show b < left.length by omega),Option.bind_some]
  have wa := e3 a hal
  have wb := e3 b hbl
  have bda := wt_bd hl hal
  have bdb := wt_bd hl hbl
  have ua := fU_bd a e4
  have ub := fU_bd b e4
  by_cases hcond : a < b ∧ 0 < min (left.getD a 0) (left.getD b 0)
  ·obtain ⟨hab,hmin⟩ := hcond
   obtain ⟨w,u3,m3,w1,w2,w3,w4⟩ := within_spec (N := N) hb (lo := 1) (hi := min (left.getD a 0) (left.getD b 0)) b4 (by omega) (by omega) (by omega) (by omega)
   rw [dT (show (a : Int) < (b : Int) by omega),dT hmin,Bool.and_self,cond_true,w1,Option.bind_some]
   dsimp only
   rw [room_ok (by rw [List.length_append]; simp; omega),Option.bind_some]
   simp only [Option.bind_some]
   unfold law07_DailyCorrected_j40
   rw [W_sm (n := left.getD a 0 - w) (by omega) (by omega),W_sm (n := left.getD b 0 - w) (by omega) (by omega),W_succ (by omega),Int.toNat_natCast,Int.toNat_natCast]
   refine ⟨_,rfl,rfl,by simp [e2],fun j hj => ?_,fun f hf => ?_,by simp; omega,w4.mono (by omega)⟩
   ·dsimp only
    obtain ⟨j1,j2⟩ := e3 j hj
    rw [gset (by rw [List.length_set]; omega),gset (by omega),fU_snoc]
    unfold fu1
    dsimp only
    rw [Int.toNat_natCast,Int.toNat_natCast]
    by_cases h1 : j = b
    ·subst h1
     rw [if_pos rfl,if_neg (show ¬ a = j by omega),if_pos rfl]
     exact ⟨by omega,by omega⟩
    ·rw [if_neg h1,if_neg (fun e : b = j => h1 e.symm)]
     by_cases h2 : j = a
     ·subst h2
      rw [if_pos rfl,if_pos rfl]
      exact ⟨by omega,by omega⟩
     ·rw [if_neg h2,if_neg (fun e : a = j => h2 e.symm)]
      exact ⟨by omega,by omega⟩
   ·dsimp only at hf
    rcases List.mem_append.1 hf with hf | hf
    ·exact e4 f hf
    ·simp at hf
     subst hf
     exact ⟨⟨by dsimp only; omega,by dsimp only; omega,by dsimp only; omega,w2⟩,by dsimp only; omega⟩
  ·have hb0 : (decide ((a : Int) < (b : Int)) && decide (0 < min (left.getD a 0) (left.getD b 0))) = false := by
    by_cases hab : a < b
    ·rw [dF (show ¬ 0 < min (left.getD a 0) (left.getD b 0) from fun h => hcond ⟨hab,h⟩),Bool.and_false]
    ·rw [dF (show ¬ (a : Int) < (b : Int) by omega),Bool.false_and]
   rw [hb0,cond_false]
   unfold law07_DailyCorrected_j40
   rw [W_succ (by omega)]
   exact ⟨_,rfl,rfl,e2,e3,e4,by dsimp only; omega,b4.mono (by omega)⟩
 ·obtain ⟨left,tried,x,u,m⟩ := s
  have e1 := hI.x
  dsimp only at e1 ⊢
  subst e1
  unfold law07_DailyCorrected_b34
  rw [h10,ge_dec,cond_false]
 ·dsimp only
  rw [hlw j hj]
  have := wt_bd hl hj
  exact ⟨by omega,by show _ + 0 = _; omega⟩
end Go.Nilo
namespace Go.Nilo
theorem round_ok {bs : List Int} (hb : Bytes bs) {l : List daily_Reading} (hl : RdOk l) {n : Nat} (hk : COk n l) (h1 : 1 ≤ n) (h2 : n ≤ 20) {r_1 r_3' : List daily_Reading × Int × Int} {r_3 : List Int × Int × Int} (hr : r_1.1 = l) {c : Int} (h3 : r_3.2.1 = c)
  (hC : ∀ y : Nat → Int,Mono l.length y → (∀ j,j < l.length → y j ≤ 1000000) → c ≤ costL l y) (hF : ∀ fs : List daily_Fall,(∀ f ∈ fs,FlOk l.length f) → (∀ j,j < l.length → fU fs j ≤ wt l j) → fP (vl l) fs ≤ c) {i : Nat} (hi : i < 5) {u m : Int} (hs : SOk u m (100 * i)) :
  ∃ u' m',law07_DailyCorrected_b13 500 bs r_1 r_3 (i : Int) u m = some (.cont (((i + 1 : Nat) : Int),u',m')) ∧ SOk u' m' (100 * (i + 1)) := by
 have hN : 40 ≤ 500 := by omega
 have hln := hk.len
 obtain ⟨s,q1,q2⟩ := mine_ok (N := 500) hN hb hr hk h1 h2 hs (by omega)
 obtain ⟨t,t1,t2,t3⟩ := left_ok (N := 500) hN hr (by omega)
 obtain ⟨c8,u1,m1,c1,c2,c3,c4⟩ := next_spec (N := 500) hb (n := 9) q2.st (by omega)
 obtain ⟨c8,rfl⟩ := Int.eq_ofNat_of_zero_le c2
 obtain ⟨z,z1,z2⟩ := tried_ok (N := 500) hN hb hr hl (c := c8) (by omega) (r_10 := ((c8 : Int),u1,m1)) rfl t2 t3 c4 (by omega)
 have hmv : ∀ j,j < l.length → 0 ≤ s.1.getD j 0 ∧ s.1.getD j 0 ≤ 1000000 := by
  intro j hj
  have h4 := q2.v j (by omega)
  have h5 := q2.at0
  omega
 have hcost := cost_ok hN hl (y := s.1) (by rw [q2.len,hln]) hmv (by rw [hln]; exact q2.m)
 have hle := hC (fun j => s.1.getD j 0) (by rw [hln]; exact q2.m) (fun j hj => (hmv j hj).2)
 have hzn := z2.n
 have hprov := proves_ok hl z2.f (by omega) (show z.2.1.length < 500 by omega) hN (fun j hj => by have := z2.w j hj; omega)
 have hfl := hF z.2.1 (fun f hf => (z2.f f hf).o) (fun j hj => by have := z2.w j hj; omega)
 have hst := z2.st
 refine ⟨z.2.2.2.1,z.2.2.2.2,?_,hst.mono (by omega)⟩
 have g0 : getI l 0 = some (l.getD 0 rd0) := getI_d rd0 (i := 0) (by omega)
 have hv0 : (l.getD 0 rd0).Value = vl l 0 := rfl
 have hin : inM ((l.length : Nat) : Int) = some () := by unfold inM; rw [if_pos (by omega)]
 unfold law07_DailyCorrected_b13
 rw [hr,h3,dT (show (i : Int) < 5 by omega),cond_true,g0,Option.bind_some,hv0,q1,Option.bind_some,exK_at,hcost,Option.bind_some]
 dsimp only
 rw [bne_self_eq_false,dF (by omega),Bool.or_false,cond_false,hin,Option.bind_some,t1,Option.bind_some,exK_at,c1,Option.bind_some]
 dsimp only
 rw [z1,Option.bind_some,exK_at,hprov,Option.bind_some]
 dsimp only
 rw [bne_self_eq_false,dF (by omega),Bool.or_false,cond_false,W_succ (by omega)]

theorem corrected_law {numbers tries : List Int} (hb : Bytes numbers) (ht : Bytes tries) : law07_DailyCorrected 500 numbers tries = some true := by
 have hN : 40 ≤ 500 := by omega
 obtain ⟨l,u,m,n,a1,n1,n2,hk⟩ := counted_ok hN hb (u := 0) (m := 0) (k := 0) ⟨by omega,by omega,by omega,by omega⟩ (by omega)
 have hl := hk.rd n1 (by omega)
 have hln := hk.len
 obtain ⟨x,c,e1,hc⟩ := correct_cor hN hl
 have hxn := hc.n
 obtain ⟨hcb,hx⟩ := hc.bd hl
 have hcost := cost_ok hN hl (y := x) hxn hx hc.m
 obtain ⟨F,d,ks,C,f1,f2,f3,f4,f5,f6⟩ := falls_ok (N := 500) (by omega) hl (by omega)
 have hprov := proves_ok hl f3 (by omega) (show F.length < 500 by omega) hN f5
 obtain ⟨M,hM,-,hMx⟩ := greatest (P := fun _ => True) (l := l.map daily_Reading.Value) ⟨_,vl_mem (l := l) (a := 0) (by omega),trivial⟩
 obtain ⟨n',hn'⟩ : ∃ n',l.length = n' + 1 := ⟨l.length - 1,by omega⟩
 have hdz := f2.dz l.length (Nat.le_refl _)
 have hD : DI (vl l) n' d C := by
  have h1 := f2.di
  have ev : ∀ v : Nat → Int,dsum d v (l.length + 1) = dsum d v l.length := fun v => by
   show dsum d v l.length + d l.length * v l.length = _
   rw [hdz,Int.zero_mul,Int.add_zero]
  refine ⟨?_,fun b hb => h1.p b (by omega),?_⟩
  ·rw [← hn',← ev]; exact h1.s
  ·rw [← hn',← ev]; exact h1.t
 have hwk : ∀ k ∈ ks,0 ≤ k.weight := fun k hk => by
  obtain ⟨a,_,_,_,h,_⟩ := f2.kk k hk
  omega
 obtain ⟨hcC,hall⟩ := least_all hc (V := l.map daily_Reading.Value) (fun z hz => hz) hn' hD (fun j hj => by
  have h1 := f2.kq j hj
  have h2 := kw_nonneg hwk j
  exact ⟨f2.lo j hj,by omega⟩) f2.pi hM (fun k hk => by
  obtain ⟨a,_,h2,h3,_⟩ := f2.kk k hk
  rw [h3]
  exact hMx _ (vl_mem h2) trivial) (fun j hj => (hx j hj).2)
 have hfall : ∀ fs : List daily_Fall,(∀ f ∈ fs,FlOk l.length f) → (∀ j,j < l.length → fU fs j ≤ wt l j) → fP (vl l) fs ≤ c := by
  intro fs h1 h2
  have h3 := falls_le (v := vl l) h1 h2 hc.m (fun j hj => (hx j hj).2)
  have h4 := hc.e
  unfold costL at h4
  omega
 have hsort := sorted_ok (N := 500) (x := x) (by omega) (by omega) (by omega) (by rw [hxn]; exact hc.m)
 have hce := hc.e
 unfold law07_DailyCorrected
 show Option.bind (law07_Counted 500 ⟨numbers,0,0⟩ 20) _ = _
 rw [a1,Option.bind_some]
 show Option.bind (daily_Correct 500 l) _ = _
 rw [e1,Option.bind_some]
 dsimp only
 rw [hcost,Option.bind_some,f1,Option.bind_some]
 dsimp only
 rw [hprov,Option.bind_some,f6,← hce,← hcC]
 dsimp only
 rw [bne_self_eq_false,bne_self_eq_false]
 simp only [Bool.or_false,cond_false]
 rw [hsort,Option.bind_some,Option.bind_some]
 show cond (!true) _ _ = _
 rw [Bool.not_true,cond_false]
 obtain ⟨s,r1,r2⟩ := loopInv (ρ := Bool) (fun s13 : Int × Int × Int => law07_DailyCorrected_b13 500 tries (l,u,m) (x,c,0) s13.1 s13.2.1 s13.2.2) (fun i s => s.1 = (i : Int) ∧ SOk s.2.1 s.2.2 (100 * i)) 5 (fun i s hi hI => by
  obtain ⟨y,u2,m2⟩ := s
  obtain ⟨i1,i2⟩ := hI
  dsimp only at i1 i2 ⊢
  subst i1
  obtain ⟨u',m',g1,g2⟩ := round_ok ht hl hk n1 n2 (r_1 := (l,u,m)) (r_3' := (l,u,m)) (r_3 := (x,c,0)) rfl rfl hall hfall hi i2
  exact ⟨_,g1,rfl,g2⟩) (fun s hI => by
  obtain ⟨y,u2,m2⟩ := s
  obtain ⟨i1,i2⟩ := hI
  dsimp only at i1 i2 ⊢
  subst i1
  unfold law07_DailyCorrected_b13
  rw [dF (by omega),cond_false]) 5 0 (0,0,0) 500 (by omega) (by omega) ⟨rfl,by show (0 : Int) ≤ 0; omega,by show (0 : Int) ≤ _; omega,by show (0 : Int) ≤ 0; omega,by show (0 : Int) ≤ 250; omega⟩
 show Option.bind (loopO (fun s13 : Int × Int × Int => law07_DailyCorrected_b13 500 tries (l,u,m) (x,c,0) s13.1 s13.2.1 s13.2.2) 500 (0,0,0)) _ = _
 rw [r1,Option.bind_some,exK_at,awake_true]
 rfl
end Go.Nilo
