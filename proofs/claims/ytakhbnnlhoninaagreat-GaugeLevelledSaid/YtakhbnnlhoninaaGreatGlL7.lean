/-
  What the plain functions compute, in plain arithmetic, part 7. Conditions: what each theorem names.
-/
import Derived.Test.YtakhbnnlhoninaaGreatGlL6
set_option linter.unusedSimpArgs false
set_option linter.unusedVariables false
namespace Go.Nilo
theorem getD_lt {α : Type} {l : List α} {x d : α} {j : Nat} (h : j < l.length) : (l ++ [x]).getD j d = l.getD j d := by simp [List.getD,List.getElem?_append_left h]
theorem getD_eq {α : Type} {l : List α} {x d : α} : (l ++ [x]).getD l.length d = x := by simp [List.getD]
theorem get_getD {α : Type} {l : List α} {d : α} {j : Nat} (h : j < l.length) : l[j] = l.getD j d := by simp [List.getD,h]

structure ROk (r : law03_River) (n : Nat) : Prop where
 al : r.At.length = n
 dl : r.Depth.length = n
 sl : r.Speeds.length = n
 l0 : 0 ≤ r.Left
 r1 : r.Right ≤ 10000
 a : ∀ i,i < n → r.Left < r.At.getD i 0 ∧ r.At.getD i 0 < r.Right
 up : ∀ i,i + 1 < n → r.At.getD i 0 < r.At.getD (i + 1) 0
 d : ∀ i,i < n → 0 ≤ r.Depth.getD i 0 ∧ r.Depth.getD i 0 ≤ 299
 s : ∀ i,i < n → -40 ≤ r.Speeds.getD i 0 ∧ r.Speeds.getD i 0 ≤ 400

structure SecInv (left : Int) (i : Nat) (at' : Int) (A D S : List Int) : Prop where
 al : A.length = i
 dl : D.length = i
 sl : S.length = i
 b : left ≤ at' ∧ at' ≤ left + 90 * i
 a : ∀ j,j < i → left < A.getD j 0 ∧ A.getD j 0 ≤ at'
 up : ∀ j,j + 1 < i → A.getD j 0 < A.getD (j + 1) 0
 d : ∀ j,j < i → 0 ≤ D.getD j 0 ∧ D.getD j 0 ≤ 299
 s : ∀ j,j < i → -40 ≤ S.getD j 0 ∧ S.getD j 0 ≤ 400
theorem SecInv.step {left : Int} {i : Nat} {at' r d s : Int} {A D S : List Int} (h : SecInv left i at' A D S) (hr : 1 ≤ r ∧ r ≤ 90) (hd : 0 ≤ d ∧ d ≤ 299) (hs : -40 ≤ s ∧ s ≤ 400) :
  SecInv left (i + 1) (at' + r) (A ++ [at' + r]) (D ++ [d]) (S ++ [s]) := by
 obtain ⟨al,dl,sl,b,a,up,d',s'⟩ := h
 refine ⟨by simp [al],by simp [dl],by simp [sl],by omega,?_,?_,?_,?_⟩
 ·intro j hj
  by_cases hji : j < i
  ·rw [getD_lt (by omega)]; have := a j hji; omega
  ·obtain rfl : j = A.length := by omega
   rw [getD_eq]; omega
 ·intro j hj
  by_cases hji : j + 1 < i
  ·rw [getD_lt (by omega),getD_lt (by omega)]; exact up j hji
  ·obtain rfl : i = j + 1 := by omega
   rw [getD_lt (by omega),show j + 1 = A.length by omega,getD_eq]
   have := a j (by omega)
   omega
 ·intro j hj
  by_cases hji : j < i
  ·rw [getD_lt (by omega)]; exact d' j hji
  ·obtain rfl : j = D.length := by omega
   rw [getD_eq]; exact hd
 ·intro j hj
  by_cases hji : j < i
  ·rw [getD_lt (by omega)]; exact s' j hji
  ·obtain rfl : j = S.length := by omega
   rw [getD_eq]; exact hs

theorem section_spec {N : Nat} (hN : 60 ≤ N) {bytes : List Int} (hb : Bytes bytes) {u m : Int} {k : Nat} (hs : SOk u m k) (hk : k ≤ 100000) {most : Int} (hm : 1 ≤ most ∧ most ≤ 15) :
  ∃ r n u' m',law03_Section N ⟨bytes,u,m⟩ most = some (r,u',m') ∧ ROk r n ∧ 1 ≤ n ∧ (n : Int) ≤ most ∧ SOk u' m' (k + 100) := by
 obtain ⟨left,u1,m1,e1,a1,b1,s1⟩ := next_spec (N := N) hb (n := 50) hs (by omega)
 obtain ⟨n',u2,m2,e2,a2,b2,s2⟩ := within_spec (N := N) hb (lo := 1) (hi := most) s1 (by omega) (by omega) (by omega) (by omega)
 obtain ⟨n,rfl⟩ : ∃ k : Nat,n' = (k : Int) := ⟨n'.toNat,by omega⟩
 obtain ⟨⟨at',x,v,w,A,D,S⟩,h1,hx,hI,hS⟩ := loopInv (fun s6 => law03_Section_b6 N ⟨bytes,u,m⟩ ((n : Int),u2,m2) s6.1 s6.2.1 s6.2.2.1 s6.2.2.2.1 s6.2.2.2.2.1 s6.2.2.2.2.2.1 s6.2.2.2.2.2.2)
  (fun i s => s.2.1 = (i : Int) ∧ SecInv left i s.1 s.2.2.2.2.1 s.2.2.2.2.2.1 s.2.2.2.2.2.2 ∧ SOk s.2.2.1 s.2.2.2.1 (k + 2 + 3 * i)) n
  (by
   rintro i ⟨at',x,v,w,A,D,S⟩ hi ⟨rfl,hI,hS⟩
   dsimp only at hI hS ⊢
   obtain ⟨r,u3,m3,e3,a3,b3,s3⟩ := within_spec (N := N) hb (lo := 1) (hi := 90) hS (by omega) (by omega) (by omega) (by omega)
   obtain ⟨d,u4,m4,e4,a4,b4,s4⟩ := next_spec (N := N) hb (n := 300) s3 (by omega)
   obtain ⟨s,u5,m5,e5,a5,b5,s5⟩ := within_spec (N := N) hb (lo := -40) (hi := 400) s4 (by omega) (by omega) (by omega) (by omega)
   have hbb := hI.b
   have w1 : W (at' + r) = at' + r := W_id (by omega) (by omega)
   have hlt : decide ((i : Int) < (n : Int)) = true := by simp; omega
   refine ⟨(at' + r,((i + 1 : Nat) : Int),u5,m5,A ++ [at' + r],D ++ [d],S ++ [s]),?_,rfl,hI.step ⟨a3,b3⟩ ⟨a4,by omega⟩ ⟨a5,b5⟩,s5⟩
   unfold law03_Section_b6
   rw [hlt]
   simp only [cond_true,e3,Option.bind_some,w1,e4,e5,W_succ (i := i) (by omega)]
   rw [room_ok (by simp [hI.al]; omega),room_ok (by simp [hI.dl]; omega),room_ok (by simp [hI.sl]; omega)]
   rfl)
  (by
   rintro ⟨at',x,v,w,A,D,S⟩ ⟨rfl,-⟩
   dsimp only
   unfold law03_Section_b6
   simp)
  n 0 (left,0,u2,m2,[],[],[]) N (by omega) (by omega) ⟨rfl,⟨rfl,rfl,rfl,by omega,by intro j hj; omega,by intro j hj; omega,by intro j hj; omega,by intro j hj; omega⟩,s2⟩
 dsimp only at hx hI hS
 obtain ⟨r,u6,m6,e6,a6,b6,s6⟩ := within_spec (N := N) hb (lo := 1) (hi := 90) hS (by omega) (by omega) (by omega) (by omega)
 obtain ⟨al,dl,sl,b,a,up,d,s⟩ := hI
 have w1 : W (at' + r) = at' + r := W_id (by omega) (by omega)
 refine ⟨⟨left,at' + r,A,D,S⟩,n,u6,m6,?_,⟨al,dl,sl,a1,by dsimp only; omega,?_,up,d,s⟩,by omega,by omega,⟨s6.u0,by have := s6.u1; push_cast at this ⊢; omega,s6.m0,s6.m1⟩⟩
 ·unfold law03_Section
  rw [e1]
  simp only [Option.bind_some,e2]
  rw [h1]
  simp only [exK,Option.bind_some,e6,w1]
 ·intro i hi
  have := a i hi
  dsimp only
  omega

structure VInv (r : law03_River) (i : Nat) (vs : List gauge_Vertical) : Prop where
 l : vs.length = i
 v : ∀ j,j < i → (vs.getD j v0).At = r.At.getD j 0 ∧ In (r.Depth.getD j 0) (vs.getD j v0).Depth ∧ In (r.Speeds.getD j 0) (vs.getD j v0).Speed ∧ 0 ≤ (vs.getD j v0).Depth.Lo ∧ (vs.getD j v0).Depth.Hi ≤ 2000 ∧ -5000 ≤ (vs.getD j v0).Speed.Lo ∧ (vs.getD j v0).Speed.Hi ≤ 5000


end Go.Nilo
