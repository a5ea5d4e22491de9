/-
  What the plain functions compute, in plain arithmetic, part 13. Conditions: what each theorem names.
-/
import Derived.Test.YtakhbnnlhoninaeGreatThL12
set_option linter.unusedSimpArgs false
set_option linter.unusedVariables false
namespace Go.Nilo
theorem aware_true : top_aware13 200 = some true := by decide +kernel
structure Wire (c : crew_Cable) : Prop where
 c0 : 0 ≤ c.Car ∧ c.Car ≤ 79
 w : 20 ≤ c.Wide ∧ c.Wide ≤ 200
 s : 100 ≤ c.Sag ∧ c.Sag ≤ 500
theorem hung0_spec {N : Nat} (hN : 30 ≤ N) {cables : List Int} (hb : Bytes cables) :
  ∃ C Wd S M u m,law11_Hung N ⟨cables,0,0⟩ 0 = some (⟨C,Wd,S,M,[]⟩,u,m) ∧ Wire ⟨C,Wd,S,M,[]⟩ ∧ SOk u m 5 := by
 unfold law11_Hung
 obtain ⟨C,u1,m1,a1,a2,a3,s1⟩ := next_spec (N := N) hb (u := 0) (m := 0) (n := 80) (k := 0) ⟨by omega,by omega,by omega,by omega⟩ (by omega)
 rw [a1,Option.bind_some]
 obtain ⟨Wd,u2,m2,b1,b2,b3,s2⟩ := within_spec (N := N) hb (lo := 20) (hi := 200) s1 (by omega) (by omega) (by omega) (by omega)
 simp only [b1,Option.bind_some]
 obtain ⟨S,u3,m3,c1,c2,c3,s3⟩ := within_spec (N := N) hb (lo := 100) (hi := 500) s2 (by omega) (by omega) (by omega) (by omega)
 simp only [c1,Option.bind_some]
 obtain ⟨P,u4,m4,d1,d2,d3,s4⟩ := within_spec (N := N) hb (lo := 100) (hi := 400) s3 (by omega) (by omega) (by omega) (by omega)
 simp only [d1,Option.bind_some]
 have hnz : nz S = some () := by unfold nz; rw [if_neg (by omega)]
 have e11 : W ((0 : Int) + 1) = 1 := rfl
 rw [hnz,Option.bind_some,e11]
 obtain ⟨q,u5,m5,f1,f2,f3,s5⟩ := next_spec (N := N) hb (n := 1) s4 (by omega)
 simp only [f1,Option.bind_some]
 obtain rfl : q = 0 := by omega
 have h6 : loopO (fun s6 => law11_Hung_b6 N ⟨cables,0,0⟩ ((0 : Int),u5,m5) s6.1 s6.2.1 s6.2.2.1 s6.2.2.2) N (0,u5,m5,([] : List crew_Ride)) = some (.go (0,u5,m5,[])) := by
  have := runS (ρ := crew_Cable × Int × Int) (fun _ : Nat => ((0 : Int),u5,m5,([] : List crew_Ride))) 0 (fun s6 => law11_Hung_b6 N ⟨cables,0,0⟩ ((0 : Int),u5,m5) s6.1 s6.2.1 s6.2.2.1 s6.2.2.2) (fun i hi => absurd hi (Nat.not_lt_zero _)) (by
   show law11_Hung_b6 N ⟨cables,0,0⟩ ((0 : Int),u5,m5) 0 u5 m5 [] = _
   unfold law11_Hung_b6
   rfl) (N := N) (by omega)
  exact this
 rw [h6,Option.bind_some]
 exact ⟨C,Wd,S,_,u5,m5,rfl,⟨by dsimp only; omega,by dsimp only; omega,by dsimp only; omega⟩,s5⟩
theorem strong {C Wd S p : Int} (hC : 0 ≤ C ∧ C ≤ 79) (hW : 20 ≤ Wd ∧ Wd ≤ 200) (hS : 100 ≤ S ∧ S ≤ 500) (hp : 130 ≤ p ∧ p ≤ 400) :
  ∃ M,W ((W ((W ((W ((W (C + p)) * Wd)) * 25)).tdiv S)) + 1) = M ∧ 0 ≤ M ∧ M ≤ 10000000 ∧ ∀ (l : List crew_Ride) (x : Int),x ≤ C + 130 → bey ⟨C,Wd,S,M,l⟩ x = false := by
 have m1 := mul_bd (a := C + p) (b := Wd) (A := 479) (B := 200) (by omega) (by omega) (by omega) (by omega)
 have hd0 : 0 ≤ (C + p) * Wd * 25 / S := Int.ediv_nonneg (by omega) (by omega)
 have hd1 : (C + p) * Wd * 25 / S ≤ (C + p) * Wd * 25 := Int.ediv_le_self _ (by omega)
 refine ⟨(C + p) * Wd * 25 / S + 1,?_,by omega,by omega,fun l x hx => ?_⟩
 ·rw [W_id (n := C + p) (by omega) (by omega),W_id (n := (C + p) * Wd) (by omega) (by omega),W_id (n := (C + p) * Wd * 25) (by omega) (by omega),tdiv_div (by omega),W_id (n := (C + p) * Wd * 25 / S) (by omega) (by omega),W_id (by omega) (by omega)]
 ·unfold bey
  rw [decide_eq_false_iff_not]
  dsimp only
  have h1 : (C + p) * Wd * 25 < ((C + p) * Wd * 25 / S + 1) * S := Int.lt_ediv_add_one_mul_self _ (by omega)
  have h2 : x * Wd ≤ (C + p) * Wd := Int.mul_le_mul_of_nonneg_right (by omega) (by omega)
  omega
def rd0 : crew_Ride := ⟨0,0,⟨0,0⟩⟩
structure RP (r s : crew_Ride) : Prop where
 f : 0 ≤ r.From ∧ r.From ≤ 89
 l : 1 ≤ r.Long ∧ r.Long ≤ 352
 l' : r.Long ≤ s.Long ∧ s.Long ≤ 352
 w : 40 ≤ r.Weight.Lo ∧ r.Weight.Lo ≤ r.Weight.Hi ∧ r.Weight.Hi ≤ 121
 ef : s.From = r.From
 ew : s.Weight = r.Weight
structure Rides (l l' : List crew_Ride) (i : Nat) : Prop where
 n : l.length = i
 n' : l'.length = i
 r : ∀ j,j < i → RP (l.getD j rd0) (l'.getD j rd0)
theorem Rides.snoc {l l' : List crew_Ride} {i : Nat} (h : Rides l l' i) {r s : crew_Ride} (hr : RP r s) : Rides (l ++ [r]) (l' ++ [s]) (i + 1) := by
 refine ⟨by simp [h.n],by simp [h.n'],fun j hj => ?_⟩
 by_cases hj' : j < i
 ·rw [getD_app_lt (by rw [h.n]; exact hj'),getD_app_lt (by rw [h.n']; exact hj')]; exact h.r j hj'
 ·rw [getD_app_eq (by rw [h.n]; omega),getD_app_eq (by rw [h.n']; omega)]; exact hr
theorem all_loop {N : Nat} (hN : 100 ≤ N) {r : gauge_Site × Int × Int} (hn : r.1.Points.length ≤ 8) : loopO (fun s39 => top_TopHung_b39 N r s39.1 s39.2) N (([] : List Int),0) = some (.go (allP r.1.Points.length,((r.1.Points.length : Nat) : Int))) := by
 have := runS (ρ := Step (Int × Int × Int × Int × Int × Int × Int × (List crew_Ride) × (List crew_Ride)) (Bool)) (fun i : Nat => (allP i,(i : Int))) r.1.Points.length (fun s39 => top_TopHung_b39 N r s39.1 s39.2) (fun i hi => by
  show top_TopHung_b39 N r (allP i) (i : Int) = _
  unfold top_TopHung_b39
  have e : allP i ++ [((i + 1 : Nat) : Int)] = allP (i + 1) := by
   unfold allP
   rw [List.range'_concat,ci_app,Nat.one_mul,Nat.add_comm 1 i]
   rfl
  rw [lt_dec hi,cond_true,W_succ (by omega),e,room_ok (by simp [allP,ci]; omega),Option.bind_some]) (by
  show top_TopHung_b39 N r _ (r.1.Points.length : Int) = _
  unfold top_TopHung_b39
  rw [ge_dec,cond_false]) (N := N) (by omega)
 exact this
theorem j44_ok {N : Nat} {cables : List Int} (hb : Bytes cables) {c d : Int} {k : Nat} (hs : SOk c d k) (hk : k ≤ 1000) {x : Nat} (hx : x < 10) {l l' : List crew_Ride} (hl : Rides l l' x) {r12 : gauge_Site × Int × Int} {pl : List Int} {P e m a b : Int} (hP : 0 ≤ P ∧ P ≤ m ∧ m ≤ 351) :
  ∃ c' d' l1 l1',top_TopHung_j44 N cables (x : Int) c d l l' r12 (pl,P,e) m a b = some (.cont (((x + 1 : Nat) : Int),r12.2.1,r12.2.2,c',d',a,b,l1,l1')) ∧ SOk c' d' (k + 3) ∧ Rides l1 l1' (x + 1) := by
 obtain ⟨w,u1,m1,e1,a1,b1,s1⟩ := within_spec (N := N) hb (lo := 40) (hi := 110) hs (by omega) (by omega) (by omega) (by omega)
 obtain ⟨f,u2,m2,e2,a2,b2,s2⟩ := next_spec (N := N) hb (n := 90) s1 (by omega)
 obtain ⟨h,u3,m3,e3,a3,b3,s3⟩ := next_spec (N := N) hb (n := 12) s2 (by omega)
 have n1 := hl.n
 have n2 := hl.n'
 unfold top_TopHung_j44
 rw [e1,Option.bind_some]
 dsimp only
 rw [e2,Option.bind_some]
 dsimp only
 rw [e3,Option.bind_some]
 dsimp only
 rw [room_ok (by rw [List.length_append,n1]; simp; omega),Option.bind_some,room_ok (by rw [List.length_append,n2]; simp; omega),Option.bind_some,W_sm (n := P + 1) (by omega) (by omega),W_sm (n := m + 1) (by omega) (by omega),W_sm (n := w + h) (by omega) (by omega),W_succ (by omega)]
 exact ⟨_,_,_,_,rfl,s3,hl.snoc ⟨by dsimp only; omega,by dsimp only; omega,by dsimp only; omega,by dsimp only; omega,rfl,rfl⟩⟩
theorem made_step {N : Nat} (hN : 100 ≤ N) {numbers cables dearer : List Int} (hb : Bytes numbers) (hc : Bytes cables) (hd : Bytes dearer) {r6 : Int × Int × Int} {n : Nat} (hr6 : r6.1 = (n : Int)) {i : Nat} (hi : i < n) (hn : n ≤ 6) {a b c d e f : Int} {k : Nat} (hk : k ≤ 500) (ha : SOk a b (k + 40 * i)) (hcs : SOk c d (k + 3 * i)) (hds : SOk e f (k + i)) {l l' : List crew_Ride} (hl : Rides l l' i) :
  ∃ a' b' c' d' e' f' l1 l1',top_TopHung_b9 N numbers cables dearer r6 (i : Int) a b c d e f l l' = some (.cont (((i + 1 : Nat) : Int),a',b',c',d',e',f',l1,l1')) ∧ SOk a' b' (k + 40 * (i + 1)) ∧ SOk c' d' (k + 3 * (i + 1)) ∧ SOk e' f' (k + (i + 1)) ∧ Rides l1 l1' (i + 1) := by
 obtain ⟨x,u1,m1,e1,s1,hM⟩ := sited_spec hN hb (by omega) ha
 have hMn : x.Points.length ≤ 8 := hM.n
 have hn8 : (⟨x.Left,x.Right,50,100,x.Points⟩ : gauge_Site).Points.length ≤ 8 := hMn
 obtain ⟨v,hv⟩ : ∃ v,costR ⟨x.Left,x.Right,50,100,x.Points⟩ (allP x.Points.length) = (v,0) := ⟨_,Prod.ext rfl (allP_ok hM)⟩
 obtain ⟨w,hw,rfl⟩ := cost_way hM hv
 have hwb := seg_bd hw
 have hwc := hM.pc hwb.1
 rcases plan_spec hN (s := ⟨x.Left,x.Right,50,100,x.Points⟩) (by omega) with ⟨d1,-⟩ | ⟨-,⟨q,d1,d2⟩ | ⟨d1,-⟩⟩
 ·exact absurd hM.chk d1
 ·have hqb := seg_bd d1.1
  have hqc := hM.pc hqb.1
  have hle : Go.Nilo.pc (Go.Nilo.cst ⟨x.Left,x.Right,50,100,x.Points⟩) q ≤ Go.Nilo.pc (Go.Nilo.cst ⟨x.Left,x.Right,50,100,x.Points⟩) w := by
   have := d1.2 w hw
   have h3 : ¬ (Go.Nilo.pc (Go.Nilo.cst ⟨x.Left,x.Right,50,100,x.Points⟩) w < Go.Nilo.pc (Go.Nilo.cst ⟨x.Left,x.Right,50,100,x.Points⟩) q) := fun hh => this (.inl hh)
   omega
  generalize hP : Go.Nilo.pc (Go.Nilo.cst ⟨x.Left,x.Right,50,100,x.Points⟩) q = P at *
  generalize hQ : Go.Nilo.pc (Go.Nilo.cst ⟨x.Left,x.Right,50,100,x.Points⟩) w = Q at *
  have hal : (allP x.Points.length).length = x.Points.length := by simp [allP,ci]
  have hw9 : w.length ≤ 9 := by have := hwb.2; dsimp only at this; omega
  have hQ1 : Q ≤ 351 := by have := hwc.2; omega
  obtain ⟨g,u2,m2,g1,g2,g3,s2⟩ := next_spec (N := N) hd (n := 2) hds (by omega)
  unfold top_TopHung_b9
  rw [hr6,dT (show (i : Int) < (n : Int) by omega),cond_true,e1,Option.bind_some]
  show ∃ a' b' c' d' e' f' l1 l1',Option.bind (gauge_Plan N ⟨x.Left,x.Right,50,100,x.Points⟩) _ = _ ∧ _
  rw [d2,Option.bind_some,all_loop hN (r := (x,u1,m1)) hMn,Option.bind_some]
  show ∃ a' b' c' d' e' f' l1 l1',Option.bind (gauge_Cost N ⟨x.Left,x.Right,50,100,x.Points⟩ (allP x.Points.length)) _ = _ ∧ _
  rw [cost_spec hN (by omega) (by omega),hv,Option.bind_some]
  show ∃ a' b' c' d' e' f' l1 l1',cond (((((0 : Int) != 0) || ((0 : Int) != 0)) || (decide (P < 0))) || (decide (Q < P))) _ _ = _ ∧ _
  rw [dF (show ¬ Q < P by omega),dF (show ¬ P < 0 by omega),bne_self_eq_false,Bool.or_false,Bool.or_false,Bool.or_false,cond_false,g1,Option.bind_some]
  show ∃ a' b' c' d' e' f' l1 l1',cond (g == 0) _ _ = _ ∧ _
  cases g == 0 with
  | true =>
   obtain ⟨c',d',l1,l1',k1,k2,k3⟩ := j44_ok (N := N) hc hcs (by omega) (x := i) (by omega) hl (r12 := (x,u1,m1)) (pl := ci q.dropLast) (P := P) (e := 0) (m := P) (a := u2) (b := m2) (by omega)
   exact ⟨u1,m1,c',d',u2,m2,l1,l1',k1,s1.mono' (by omega),k2.mono' (by omega),s2.mono' (by omega),k3⟩
  | false =>
   obtain ⟨c',d',l1,l1',k1,k2,k3⟩ := j44_ok (N := N) hc hcs (by omega) (x := i) (by omega) hl (r12 := (x,u1,m1)) (pl := ci q.dropLast) (P := P) (e := 0) (m := Q) (a := u2) (b := m2) (by omega)
   exact ⟨u1,m1,c',d',u2,m2,l1,l1',k1,s1.mono' (by omega),k2.mono' (by omega),s2.mono' (by omega),k3⟩
 ·exact absurd hw (d1 w)
end Go.Nilo
