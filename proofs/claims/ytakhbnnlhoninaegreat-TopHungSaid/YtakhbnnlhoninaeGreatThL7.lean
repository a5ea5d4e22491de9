/-
  What the plain functions compute, in plain arithmetic, part 7. Conditions: what each theorem names.
-/
import Derived.Test.YtakhbnnlhoninaeGreatThL6
set_option linter.unusedSimpArgs false
set_option linter.unusedVariables false
namespace Go.Nilo
structure Made (s : gauge_Site) : Prop where
 n : s.Points.length ≤ 8
 l : 0 ≤ s.Left ∧ s.Left ≤ 39
 r : s.Left < s.Right ∧ s.Right ≤ 400
 pt : ∀ i,i < s.Points.length → (0 ≤ (s.Points.getD i gp0).Depth ∧ (s.Points.getD i gp0).Depth ≤ 99) ∧ 0 ≤ (s.Points.getD i gp0).Cost ∧ (s.Points.getD i gp0).Cost ≤ 39
 fst : 0 < s.Points.length → s.Left < (s.Points.getD 0 gp0).At ∧ (s.Points.getD 0 gp0).At ≤ s.Left + 30
 nxt : ∀ i,i + 1 < s.Points.length → (s.Points.getD i gp0).At < (s.Points.getD (i + 1) gp0).At ∧ (s.Points.getD (i + 1) gp0).At ≤ (s.Points.getD i gp0).At + 30
 lst : (0 < s.Points.length → (s.Points.getD (s.Points.length - 1) gp0).At < s.Right ∧ s.Right ≤ (s.Points.getD (s.Points.length - 1) gp0).At + 30) ∧ (s.Points.length = 0 → s.Right ≤ s.Left + 30)
 gap : s.Gap = 50
 step : s.Step_ = 100
theorem SOk.mono' {u m : Int} {k k' : Nat} (h : SOk u m k) (hk : k ≤ k') : SOk u m k' := ⟨h.u0,by have := h.u1; omega,h.m0,h.m1⟩
theorem getD_app_lt {α : Type} {l : List α} {x d : α} {j : Nat} (h : j < l.length) : (l ++ [x]).getD j d = l.getD j d := by simp [List.getD,List.getElem?_append_left h]
theorem getD_app_eq {α : Type} {l : List α} {x d : α} {j : Nat} (h : j = l.length) : (l ++ [x]).getD j d = x := by subst h; simp [List.getD]
structure Pts (a : Int) (at_ : Int) (l : List gauge_Point) : Prop where
 pt : ∀ i,i < l.length → (0 ≤ (l.getD i gp0).Depth ∧ (l.getD i gp0).Depth ≤ 99) ∧ 0 ≤ (l.getD i gp0).Cost ∧ (l.getD i gp0).Cost ≤ 39
 fst : 0 < l.length → a < (l.getD 0 gp0).At ∧ (l.getD 0 gp0).At ≤ a + 30
 nxt : ∀ i,i + 1 < l.length → (l.getD i gp0).At < (l.getD (i + 1) gp0).At ∧ (l.getD (i + 1) gp0).At ≤ (l.getD i gp0).At + 30
 lst : (0 < l.length → at_ = (l.getD (l.length - 1) gp0).At) ∧ (l.length = 0 → at_ = a)
 bd : a ≤ at_ ∧ at_ ≤ a + 30 * (l.length : Int)
theorem Pts.snoc {a at_ : Int} {l : List gauge_Point} (h : Pts a at_ l) {x d c : Int} (hx : 1 ≤ x ∧ x ≤ 30) (hd : 0 ≤ d ∧ d ≤ 99) (hc : 0 ≤ c ∧ c ≤ 39) : Pts a (at_ + x) (l ++ [⟨at_ + x,d,c⟩]) := by
 have hb := h.bd
 refine ⟨fun i hi => ?_,fun _ => ?_,fun i hi => ?_,⟨fun _ => ?_,fun hh => ?_⟩,?_⟩
 ·simp only [List.length_append,List.length_cons,List.length_nil] at hi
  by_cases e : i = l.length
  ·rw [getD_app_eq e]
   exact ⟨hd,hc⟩
  ·rw [getD_app_lt (by omega)]
   exact h.pt i (by omega)
 ·by_cases e : l.length = 0
  ·rw [getD_app_eq e.symm]
   have := h.lst.2 e
   show a < at_ + x ∧ at_ + x ≤ a + 30
   omega
  ·rw [getD_app_lt (by omega)]
   exact h.fst (by omega)
 ·simp only [List.length_append,List.length_cons,List.length_nil] at hi
  by_cases e : i + 1 = l.length
  ·rw [getD_app_lt (by omega),getD_app_eq e]
   have := h.lst.1 (by omega)
   rw [show l.length - 1 = i by omega] at this
   show _ < at_ + x ∧ at_ + x ≤ _
   omega
  ·rw [getD_app_lt (by omega),getD_app_lt (by omega)]
   exact h.nxt i (by omega)
 ·rw [getD_app_eq (by simp)]
 ·simp at hh
 ·simp only [List.length_append,List.length_cons,List.length_nil]
  push_cast
  omega
theorem sited_spec {N : Nat} (hN : 100 ≤ N) {numbers : List Int} (hb : Bytes numbers) {u m : Int} {k : Nat} (hk : k ≤ 10000) (hs : SOk u m k) :
  ∃ (x : gauge_Site) (u' m' : Int),law03_Sited N ⟨numbers,u,m⟩ 8 = some (x,u',m') ∧ SOk u' m' (k + 40) ∧ Made ⟨x.Left,x.Right,50,100,x.Points⟩ := by
 obtain ⟨a,u1,m1,e1,a0,a1,s1⟩ := next_spec (N := N) hb (n := 40) hs (by omega)
 obtain ⟨b,u2,m2,e2,b0,b1,s2⟩ := within_spec (N := N) hb (lo := 10) (hi := 90) s1 (by omega) (by omega) (by omega) (by omega)
 obtain ⟨c,u3,m3,e3,c0,c1,s3⟩ := within_spec (N := N) hb (lo := 20) (hi := 90) s2 (by omega) (by omega) (by omega) (by omega)
 obtain ⟨n,u4,m4,e4,n0,n1,s4⟩ := next_spec (N := N) hb (n := 9) s3 (by omega)
 obtain ⟨s',h1,h2⟩ := loopInv (fun s6 : Int × Int × Int × Int × List gauge_Point => law03_Sited_b6 N ⟨numbers,u,m⟩ (n,u4,m4) s6.1 s6.2.1 s6.2.2.1 s6.2.2.2.1 s6.2.2.2.2)
  (fun i st => st.2.1 = (i : Int) ∧ st.2.2.2.2.length = i ∧ Pts a st.1 st.2.2.2.2 ∧ SOk st.2.2.1 st.2.2.2.1 (k + 4 + 3 * i)) n.toNat (by
  rintro i ⟨at_,x,u5,m5,l⟩ hi ⟨k1,k2,k3,k4⟩
  simp only at k1 k2 k3 k4
  subst k1
  have hbd := k3.bd
  obtain ⟨p,u6,m6,f1,p0,p1,t1⟩ := within_spec (N := N) hb (lo := 1) (hi := 30) k4 (by omega) (by omega) (by omega) (by omega)
  obtain ⟨q,u7,m7,f2,q0,q1,t2⟩ := next_spec (N := N) hb (n := 100) t1 (by omega)
  obtain ⟨r,u8,m8,f3,r0,r1,t3⟩ := next_spec (N := N) hb (n := 40) t2 (by omega)
  refine ⟨(at_ + p,((i + 1 : Nat) : Int),u8,m8,l ++ [⟨at_ + p,q,r⟩]),?_,rfl,by simp [k2],k3.snoc ⟨p0,p1⟩ (by omega) (by omega),t3.mono' (by omega)⟩
  show law03_Sited_b6 N ⟨numbers,u,m⟩ (n,u4,m4) at_ (i : Int) u5 m5 l = _
  unfold law03_Sited_b6
  rw [dT (by show (i : Int) < n; omega),cond_true,f1,Option.bind_some]
  show Option.bind (kit_Stream_Next N ⟨numbers,u6,m6⟩ 100) _ = _
  rw [f2,Option.bind_some]
  show Option.bind (kit_Stream_Next N ⟨numbers,u7,m7⟩ 40) _ = _
  rw [f3,Option.bind_some]
  show Option.bind (room (l ++ [(⟨W (at_ + p),q,r⟩ : gauge_Point)]).length) (fun _ => some (Step.cont (W (at_ + p),W ((i : Int) + 1),u8,m8,l ++ [(⟨W (at_ + p),q,r⟩ : gauge_Point)]))) = _
  rw [W_sm (by omega) (by omega),room_ok (by simp; omega),Option.bind_some,W_succ (by omega)]) (by
  rintro ⟨at_,x,u5,m5,l⟩ ⟨k1,-⟩
  simp only at k1
  subst k1
  show law03_Sited_b6 N ⟨numbers,u,m⟩ (n,u4,m4) at_ _ u5 m5 l = _
  unfold law03_Sited_b6
  rw [dF (by show ¬ ((n.toNat : Nat) : Int) < n; omega),cond_false]) n.toNat 0 (a,0,u4,m4,[]) N (by omega) (by omega)
  ⟨rfl,rfl,⟨fun i hi => absurd hi (by simp),fun h => absurd h (by simp),fun i hi => absurd hi (by simp),⟨fun h => absurd h (by simp),fun _ => rfl⟩,by simp⟩,s4⟩
 obtain ⟨at_,x,u5,m5,l⟩ := s'
 obtain ⟨k1,k2,k3,k4⟩ := h2
 simp only at k1 k2 k3 k4
 have hbd := k3.bd
 obtain ⟨p,u6,m6,f1,p0,p1,t1⟩ := within_spec (N := N) hb (lo := 1) (hi := 30) k4 (by omega) (by omega) (by omega) (by omega)
 refine ⟨⟨a,at_ + p,b,c,l⟩,u6,m6,?_,t1.mono' (by omega),⟨by show l.length ≤ 8; omega,by show 0 ≤ a ∧ a ≤ 39; omega,by show a < at_ + p ∧ at_ + p ≤ 400; omega,k3.pt,k3.fst,k3.nxt,⟨fun h => ?_,fun h => ?_⟩,rfl,rfl⟩⟩
 ·unfold law03_Sited
  rw [e1,Option.bind_some]
  show Option.bind (kit_Stream_Within N ⟨numbers,u1,m1⟩ 10 90) _ = _
  rw [e2,Option.bind_some]
  show Option.bind (kit_Stream_Within N ⟨numbers,u2,m2⟩ 20 90) _ = _
  rw [e3,Option.bind_some]
  show Option.bind (kit_Stream_Next N ⟨numbers,u3,m3⟩ (W (8 + 1))) _ = _
  rw [show W (8 + 1) = 9 from rfl,e4,Option.bind_some]
  show Option.bind (loopO _ N (a,0,u4,m4,[])) _ = _
  rw [h1,Option.bind_some]
  show Option.bind (kit_Stream_Within N ⟨numbers,u5,m5⟩ 1 30) (fun r_4 => some ((⟨a,W (at_ + r_4.1),b,c,l⟩ : gauge_Site),r_4.2.1,r_4.2.2)) = _
  rw [f1,Option.bind_some,W_sm (by omega) (by omega)]
 ·have := k3.lst.1 h
  show _ < at_ + p ∧ at_ + p ≤ _
  show (l.getD (l.length - 1) gp0).At < at_ + p ∧ at_ + p ≤ (l.getD (l.length - 1) gp0).At + 30
  omega
 ·have := k3.lst.2 h
  show at_ + p ≤ a + 30
  omega
theorem Made.at {s : gauge_Site} (h : Made s) : ∀ i,i < s.Points.length → s.Left < (s.Points.getD i gp0).At ∧ (s.Points.getD i gp0).At < s.Right
 | i,hi => by
  have hup : ∀ d j,j + d < s.Points.length → (s.Points.getD j gp0).At ≤ (s.Points.getD (j + d) gp0).At := by
   intro d
   induction d with
   | zero => intro j _; exact Int.le_refl _
   | succ d ih =>
    intro j hj
    have h1 := ih j (by omega)
    have h2 := h.nxt (j + d) (by omega)
    rw [← Nat.add_assoc]
    omega
  have h1 := hup i 0 (by omega)
  have h2 := hup (s.Points.length - 1 - i) i (by omega)
  rw [Nat.zero_add] at h1
  rw [show i + (s.Points.length - 1 - i) = s.Points.length - 1 by omega] at h2
  have h3 := h.fst (by omega)
  have h4 := h.lst.1 (by omega)
  omega
theorem Made.chk {s : gauge_Site} (h : Made s) : chkS s = 0 := by
 have hn := h.n
 have ho : okS s = true := okS_iff.2 ⟨by have := h.l; have := h.r; omega,by rw [h.gap]; decide,by rw [h.step]; decide⟩
 unfold chkS
 rw [if_neg (by omega),if_pos ⟨ho,List.all_eq_true.2 fun p hp => by
  obtain ⟨i,hi,rfl⟩ := List.getElem_of_mem hp
  rw [get_getD (d := gp0)]
  have h1 := h.at i hi
  have h2 := h.pt i hi
  exact (okP_iff ho).2 ⟨h1,by omega,by omega⟩⟩,if_pos (by
  unfold riseB
  rw [range_all]
  intro j hj
  exact dT (h.nxt j (by omega)).1)]
theorem stn_zero {s : gauge_Site} : stn s 0 = ⟨s.Left,0,0⟩ := rfl
theorem stn_mid {s : gauge_Site} {j : Nat} (h : j < s.Points.length) : stn s (j + 1) = s.Points.getD j gp0 := by
 unfold stn
 rw [if_neg (by omega),if_neg (by omega)]
 rfl
theorem step_of {s : gauge_Site} (h : Made s) {a b : Nat} {p q : gauge_Point} (ha : stn s a = p) (hb : stn s b = q) (h1 : q.At - p.At ≤ 50) (h2 : p.Depth - q.Depth ≤ 100 ∧ q.Depth - p.Depth ≤ 100) : stepB s a b = true := by
 unfold stepB
 rw [ha,hb,h.gap,h.step,Bool.and_eq_true,decide_eq_true_eq,decide_eq_true_eq]
 exact ⟨h1,by omega⟩
theorem Made.stp {s : gauge_Site} (h : Made s) {i : Nat} (hi : i ≤ s.Points.length) : stepB s i (i + 1) = true := by
 have hl := h.l
 have hr := h.r
 by_cases h0 : i = 0
 ·subst h0
  by_cases h1 : s.Points.length = 0
  ·have := h.lst.2 h1
   exact step_of h (q := ⟨s.Right,0,0⟩) stn_zero (by have := stn_end (s := s); rw [h1] at this; exact this) (by show s.Right - s.Left ≤ 50; omega) ⟨by show (0 : Int) - 0 ≤ 100; decide,by show (0 : Int) - 0 ≤ 100; decide⟩
  ·have h2 := h.fst (by omega)
   have h3 := h.pt 0 (by omega)
   exact step_of h stn_zero (stn_mid (j := 0) (by omega)) (by show (s.Points.getD 0 gp0).At - s.Left ≤ 50; omega) ⟨by show 0 - (s.Points.getD 0 gp0).Depth ≤ 100; omega,by show (s.Points.getD 0 gp0).Depth - 0 ≤ 100; omega⟩
 ·obtain ⟨j,rfl⟩ : ∃ j,i = j + 1 := ⟨i - 1,by omega⟩
  have h3 := h.pt j (by omega)
  by_cases h1 : j + 1 = s.Points.length
  ·have h2 := h.lst.1 (by omega)
   rw [show s.Points.length - 1 = j by omega] at h2
   exact step_of h (q := ⟨s.Right,0,0⟩) (stn_mid (by omega)) (by rw [h1]; exact stn_end) (by show s.Right - (s.Points.getD j gp0).At ≤ 50; omega) ⟨by show (s.Points.getD j gp0).Depth - 0 ≤ 100; omega,by show 0 - (s.Points.getD j gp0).Depth ≤ 100; omega⟩
  ·have h2 := h.nxt j (by omega)
   have h4 := h.pt (j + 1) (by omega)
   exact step_of h (stn_mid (by omega)) (stn_mid (by omega)) (by omega) (by omega)
theorem Made.cst {s : gauge_Site} (h : Made s) {i : Nat} : i ≤ s.Points.length + 1 → 0 ≤ Go.Nilo.cst s i ∧ Go.Nilo.cst s i ≤ 39 := by
 intro hi
 unfold Go.Nilo.cst stn
 split
 ·exact ⟨by show (0 : Int) ≤ 0; decide,by show (0 : Int) ≤ 39; decide⟩
 ·split
  ·exact ⟨by show (0 : Int) ≤ 0; decide,by show (0 : Int) ≤ 39; decide⟩
  ·exact (h.pt (i - 1) (by omega)).2
theorem Made.pc {s : gauge_Site} (h : Made s) : ∀ {q : List Nat},(∀ x ∈ q,x ≤ s.Points.length + 1) → 0 ≤ Go.Nilo.pc (Go.Nilo.cst s) q ∧ Go.Nilo.pc (Go.Nilo.cst s) q ≤ 39 * (q.length : Int)
 | [],_ => by simp [Go.Nilo.pc]
 | x::q,hq => by
  have ih := h.pc (q := q) fun y hy => hq y (List.mem_cons_of_mem _ hy)
  have hx := h.cst (hq x List.mem_cons_self)
  show 0 ≤ Go.Nilo.cst s x + Go.Nilo.pc (Go.Nilo.cst s) q ∧ Go.Nilo.cst s x + Go.Nilo.pc (Go.Nilo.cst s) q ≤ 39 * ((q.length + 1 : Nat) : Int)
  omega
theorem costH_seg {s : gauge_Site} : ∀ {q : List Nat} {a : Nat} {sum v : Int},q.Pairwise (· < ·) → (∀ x ∈ q,a < x) → costH s a sum q = (v,0) → (∃ b,Seg (stepB s) a q b ∧ (q.getLastD a = b)) ∧ v = sum + Go.Nilo.pc (Go.Nilo.cst s) q
 | [],a,sum,v,_,_,h => by
  have : sum = v := (Prod.mk.inj h).1
  exact ⟨⟨a,rfl,rfl⟩,by show v = sum + 0; omega⟩
 | x::q,a,sum,v,hp,ha,h => by
  have h' : (if stepB s a x = true then costH s x (sum + Go.Nilo.cst s x) q else (0,7)) = (v,0) := h
  by_cases hst : stepB s a x = true
  ·rw [if_pos hst] at h'
   obtain ⟨h1,h2⟩ := List.pairwise_cons.1 hp
   obtain ⟨⟨b,k1,k2⟩,k3⟩ := costH_seg h2 h1 h'
   refine ⟨⟨b,⟨⟨ha x List.mem_cons_self,hst⟩,k1⟩,?_⟩,?_⟩
   ·rw [← k2]
    cases q <;> rfl
   ·rw [k3]
    show _ = sum + (Go.Nilo.cst s x + Go.Nilo.pc (Go.Nilo.cst s) q)
    omega
  ·rw [if_neg hst] at h'
   have := (Prod.mk.inj h').2
   omega
theorem rise_pair : ∀ {l : List Int},riseI l = true → l.Pairwise (· < ·)
 | [],_ => List.Pairwise.nil
 | x::l,h => by
  unfold riseI at h
  rw [range_all] at h
  have hl : riseI l = true := by
   unfold riseI
   rw [range_all]
   intro j hj
   have := of_decide_eq_true (h (j + 1) (by simp only [List.length_cons]; omega))
   exact dT (by simpa [List.getD] using this)
  have ih := rise_pair hl
  refine List.pairwise_cons.2 ⟨fun y hy => ?_,ih⟩
  cases l with
  | nil => cases hy
  | cons z l =>
   have h0 := of_decide_eq_true (h 0 (by simp))
   have h0' : x < z := by simpa [List.getD] using h0
   rcases List.mem_cons.1 hy with rfl | hy
   ·exact h0'
   ·have := (List.pairwise_cons.1 ih).1 y hy
    omega
theorem cost_way {s : gauge_Site} (h : Made s) {plan : List Int} {v : Int} (hc : costR s plan = (v,0)) : ∃ q,Seg (stepB s) 0 q (s.Points.length + 1) ∧ v = Go.Nilo.pc (Go.Nilo.cst s) q := by
 unfold costR at hc
 rw [if_pos h.chk] at hc
 split at hc
 ·rename_i h1
  split at hc
  ·rename_i h2
   have hpair := rise_pair h2
   have hin : ∀ x ∈ plan,1 ≤ x ∧ x ≤ ((s.Points.length : Nat) : Int) := fun x hx => of_decide_eq_true (List.all_eq_true.1 h1 x hx)
   obtain ⟨⟨b,k1,k2⟩,k3⟩ := costH_seg (q := plan.map Int.toNat ++ [s.Points.length + 1]) (List.pairwise_append.2 ⟨List.pairwise_map.2 (hpair.imp_of_mem fun ha hb hab => by
    have h3 := hin _ ha
    have h4 := hin _ hb
    omega),List.pairwise_singleton _ _,fun x hx y hy => by
    obtain ⟨z,hz,rfl⟩ := List.mem_map.1 hx
    rw [List.mem_singleton] at hy
    have := hin z hz
    omega⟩) (fun x hx => by
    rcases List.mem_append.1 hx with hx | hx
    ·obtain ⟨z,hz,rfl⟩ := List.mem_map.1 hx
     have := hin z hz
     omega
    ·rw [List.mem_singleton] at hx
     omega) hc
   have e : (plan.map Int.toNat ++ [s.Points.length + 1]).getLastD 0 = s.Points.length + 1 := by simp [List.getLastD_eq_getLast?]
   rw [e] at k2
   subst k2
   exact ⟨_,k1,by omega⟩
  ·have := (Prod.mk.inj hc).2
   omega
 ·have := (Prod.mk.inj hc).2
  omega
theorem costH_full {s : gauge_Site} (h : Made s) : ∀ (m a : Nat) (sum : Int),a + m = s.Points.length + 1 → (costH s a sum (List.range' (a + 1) m)).2 = 0
 | 0,a,sum,_ => rfl
 | m + 1,a,sum,hm => by
  rw [List.range'_succ]
  show (if stepB s a (a + 1) = true then costH s (a + 1) (sum + Go.Nilo.cst s (a + 1)) (List.range' (a + 1 + 1) m) else (0,7)).2 = 0
  rw [if_pos (h.stp (by omega))]
  exact costH_full h m (a + 1) _ (by omega)
def allP (n : Nat) : List Int := ci (List.range' 1 n)
theorem allP_ok {s : gauge_Site} (h : Made s) : (costR s (allP s.Points.length)).2 = 0 := by
 unfold costR
 have h1 : (allP s.Points.length).all (inP s) = true := List.all_eq_true.2 fun x hx => by
  obtain ⟨y,hy,rfl⟩ := List.mem_map.1 hx
  rw [List.mem_range'_1] at hy
  exact dT (by omega)
 have h2 : riseI (allP s.Points.length) = true := by
  unfold riseI
  rw [range_all]
  intro j hj
  have hl : (allP s.Points.length).length = s.Points.length := by simp [allP,ci]
  rw [hl] at hj
  refine dT ?_
  have e : ∀ i,i < s.Points.length → (allP s.Points.length).getD i 0 = ((1 + i : Nat) : Int) := fun i hi => by simp [allP,ci,List.getD,hi]
  rw [e j (by omega),e (j + 1) (by omega)]
  omega
 rw [if_pos h.chk,if_pos h1,if_pos h2]
 have e : (allP s.Points.length).map Int.toNat ++ [s.Points.length + 1] = List.range' 1 (s.Points.length + 1) := by
  rw [List.range'_concat,allP]
  congr 1
  ·unfold ci
   rw [List.map_map]
   exact (List.map_congr_left fun x _ => by simp).trans (List.map_id _)
  ·simp; omega
 rw [e]
 exact costH_full h (s.Points.length + 1) 0 0 (by omega)
end Go.Nilo
