/-
  What the plain functions compute, in plain arithmetic, part 7. Conditions: what each theorem names.
-/
import Derived.Test.YtfacdlbpakdcfaaDkL6
set_option linter.unusedSimpArgs false
set_option linter.unusedVariables false
namespace Go.Nilo
theorem loop_to {σ ρ : Type} {f : σ → Option (Step σ ρ)} (Inv Post : σ → Prop) (μ : σ → Nat) (h : ∀ s,Inv s → (∃ s',f s = some (.brk s') ∧ Post s') ∨ (∃ s',f s = some (.cont s') ∧ Inv s' ∧ μ s' < μ s)) : ∀ (N : Nat) (s : σ),Inv s → μ s < N → ∃ s',loopO f N s = some (.go s') ∧ Post s'
 | 0,s,_,hN => by omega
 | N + 1,s,hs,hN => by
  unfold loopO
  rcases h s hs with ⟨s',h1,h2⟩ | ⟨s',h1,h2,h3⟩
  ·exact ⟨s',by rw [h1],h2⟩
  ·obtain ⟨s'',h4,h5⟩ := loop_to Inv Post μ h N s' h2 (by omega)
   exact ⟨s'',by rw [h1]; exact h4,h5⟩

abbrev Kk := daily_kink
def Desc (l : List Kk) : Prop := l.Pairwise (fun a b => b.value ≤ a.value)
theorem kcmp {a b : Kk} : decide (daily_nets_1 a b < 0) = decide (b.value < a.value) := by
 have e : ∀ x : Int,cmp_isNaN_int x = false := fun x => by unfold cmp_isNaN_int; simp
 unfold daily_nets_1 cmp_Compare_int
 rw [e,e,cond_false,cond_false]
 by_cases h1 : b.value < a.value
 ·rw [dT h1,cond_true]; rfl
 ·rw [dF h1,cond_false]
  by_cases h2 : a.value < b.value
  ·rw [dT h2,cond_true]; rfl
  ·rw [dF h2,cond_false]; rfl

theorem getI_at {α : Type} {A B : List α} {x : α} {p : Int} (hp : p = (A.length : Int)) : getI (A ++ x::B) p = some x := by
 subst hp
 unfold getI
 simp
theorem set_at {α : Type} {A B : List α} {x y : α} {p : Nat} (hp : p = A.length) : (A ++ x::B).set p y = A ++ y::B := by
 subst hp
 simp
theorem swap_adj {α : Type} {A B : List α} {x y : α} {p q : Nat} (hp : p = A.length) (hq : q = A.length + 1) : ((A ++ x::y::B).set q x).set p y = A ++ y::x::B := by
 have e : (A ++ x::y::B).set q x = A ++ x::x::B := by
  have := set_at (A := A ++ [x]) (B := B) (x := y) (y := x) (p := q) (by simp [hq])
  simpa using this
 rw [e,set_at hp]
theorem swap_adj' {α : Type} {A B : List α} {x y : α} {p q : Nat} (hp : p = A.length) (hq : q = A.length + 1) : ((A ++ x::y::B).set p y).set q x = A ++ y::x::B := by
 rw [set_at hp]
 have := set_at (A := A ++ [y]) (B := B) (x := y) (y := x) (p := q) (by simp [hq])
 simpa using this

theorem ins_one {N : Nat} {P Q S : List Kk} {x : Kk} (hl : (P ++ Q ++ x::S).length ≤ 1000) (hQ : Desc Q) (hN : Q.length + P.length < N) : ∃ s,loopO (fun s9 => slices_insertionSortCmpFunc_daily_kink_b9 N ((P.length : Nat) : Int) s9.1 s9.2) N (P ++ Q ++ x::S,((P.length + Q.length : Nat) : Int)) = some (.go s) ∧ ∃ R,s.1 = P ++ R ++ S ∧ R.Perm (Q ++ [x]) ∧ Desc R := by
 refine loop_to (fun s => ∃ Q1 Q2,Q1 ++ Q2 = Q ∧ s = (P ++ Q1 ++ x::(Q2 ++ S),((P.length + Q1.length : Nat) : Int)) ∧ ∀ q ∈ Q2,q.value ≤ x.value) (fun s => ∃ R,s.1 = P ++ R ++ S ∧ R.Perm (Q ++ [x]) ∧ Desc R) (fun s => s.2.toNat) ?_ N _ ⟨Q,[],by simp,by simp,by simp⟩ ?_
 ·rintro s ⟨Q1,Q2,hq,rfl,hlt⟩
  dsimp only
  have hlq : Q1.length + Q2.length = Q.length := by rw [← hq]; simp
  have hlen : P.length + Q.length + S.length + 1 ≤ 1000 := by simpa [Nat.add_assoc,Nat.add_comm,Nat.add_left_comm] using hl
  have hstop : (∀ q ∈ Q1,x.value ≤ q.value) → ∃ R,P ++ Q1 ++ x::(Q2 ++ S) = P ++ R ++ S ∧ R.Perm (Q ++ [x]) ∧ Desc R := by
   intro h1
   refine ⟨Q1 ++ x::Q2,by simp,?_,?_⟩
   ·rw [← hq]
    have : (Q1 ++ x::Q2).Perm (x::(Q1 ++ Q2)) := List.perm_middle
    exact this.trans (List.perm_append_singleton x (Q1 ++ Q2)).symm
   ·rw [← hq] at hQ
    obtain ⟨d1,d2,d3⟩ := List.pairwise_append.1 hQ
    refine List.pairwise_append.2 ⟨d1,List.pairwise_cons.2 ⟨hlt,d2⟩,?_⟩
    intro a ha b hb
    rcases List.mem_cons.1 hb with rfl | hb
    ·exact h1 a ha
    ·exact d3 a ha b hb
  rcases List.eq_nil_or_concat Q1 with h0 | ⟨Q1',q,h0⟩
  ·subst h0
   refine .inl ⟨(P ++ [] ++ x::(Q2 ++ S),((P.length + ([] : List Kk).length : Nat) : Int)),?_,hstop (by simp)⟩
   unfold slices_insertionSortCmpFunc_daily_kink_b9
   rw [dF (by simp),cond_false,Option.bind_some,cond_false]
  ·rw [List.concat_eq_append] at h0
   subst h0
   have e0 : P ++ (Q1' ++ [q]) ++ x::(Q2 ++ S) = (P ++ Q1') ++ q::x::(Q2 ++ S) := by simp
   have e1 : W (((P.length + (Q1' ++ [q]).length : Nat) : Int) - 1) = ((P.length + Q1'.length : Nat) : Int) := by
    simp at hlq
    rw [W_sm (by simp <;> omega) (by simp <;> omega)]; simp <;> omega
   have g1 : getI ((P ++ Q1') ++ q::x::(Q2 ++ S)) ((P.length + (Q1' ++ [q]).length : Nat) : Int) = some x := by
    have := getI_at (A := P ++ Q1' ++ [q]) (B := Q2 ++ S) (x := x) (p := ((P.length + (Q1' ++ [q]).length : Nat) : Int)) (by simp <;> omega)
    simpa using this
   have g2 : getI ((P ++ Q1') ++ q::x::(Q2 ++ S)) ((P.length + Q1'.length : Nat) : Int) = some q := getI_at (by simp)
   have hb : slices_insertionSortCmpFunc_daily_kink_b9 N ((P.length : Nat) : Int) (P ++ (Q1' ++ [q]) ++ x::(Q2 ++ S)) ((P.length + (Q1' ++ [q]).length : Nat) : Int) = cond (decide (q.value < x.value)) (some (.cont (P ++ Q1' ++ x::(q::Q2 ++ S),((P.length + Q1'.length : Nat) : Int)))) (some (.brk (P ++ (Q1' ++ [q]) ++ x::(Q2 ++ S),((P.length + (Q1' ++ [q]).length : Nat) : Int)))) := by
    rw [e0]
    unfold slices_insertionSortCmpFunc_daily_kink_b9
    rw [dT (by simp <;> omega),cond_true,e1,g1,g2]
    simp only [Option.bind_some]
    rw [kcmp,swap_adj (by rw [Int.toNat_natCast,List.length_append]) (by rw [Int.toNat_natCast]; simp only [List.length_append,List.length_cons,List.length_nil]; omega)]
    rfl
   by_cases hc : q.value < x.value
   ·refine .inr ⟨_,by rw [hb,dT hc,cond_true],⟨Q1',q::Q2,by rw [← hq]; simp,rfl,?_⟩,?_⟩
    ·intro z hz
     rcases List.mem_cons.1 hz with rfl | hz
     ·omega
     ·exact hlt z hz
    ·simp only [List.length_append,List.length_cons,List.length_nil]; omega
   ·refine .inl ⟨(P ++ (Q1' ++ [q]) ++ x::(Q2 ++ S),((P.length + (Q1' ++ [q]).length : Nat) : Int)),by rw [hb,dF hc,cond_false],hstop ?_⟩
    rw [← hq] at hQ
    obtain ⟨d1,d2,d3⟩ := List.pairwise_append.1 hQ
    obtain ⟨d4,d5,d6⟩ := List.pairwise_append.1 d1
    intro z hz
    rcases List.mem_append.1 hz with hz | hz
    ·exact Int.le_trans (by omega) (d6 z hz q (by simp))
    ·simp at hz; subst hz; omega
 ·dsimp only; omega

theorem ins_sort {N : Nat} {P Q S : List Kk} (hl : (P ++ Q ++ S).length ≤ 1000) (hN : P.length + Q.length + 1 < N) : ∃ R,slices_insertionSortCmpFunc_daily_kink N (P ++ Q ++ S) ((P.length : Nat) : Int) ((P.length + Q.length : Nat) : Int) = some (P ++ R ++ S) ∧ R.Perm Q ∧ Desc R := by
 unfold slices_insertionSortCmpFunc_daily_kink
 have hlen : P.length + Q.length + S.length ≤ 1000 := by simpa [Nat.add_assoc] using hl
 have hw : W (((P.length : Nat) : Int) + 1) = ((P.length + 1 : Nat) : Int) := by rw [W_sm (by omega) (by omega)]; push_cast; rfl
 rw [hw]
 have key : ∃ s,loopO (fun s3 => slices_insertionSortCmpFunc_daily_kink_b3 N ((P.length : Nat) : Int) ((P.length + Q.length : Nat) : Int) s3.1 s3.2) N (P ++ Q ++ S,((P.length + 1 : Nat) : Int)) = some (.go s) ∧ ∃ R,s.1 = P ++ R ++ S ∧ R.Perm Q ∧ Desc R := by
  refine loop_to (fun s => ∃ i : Nat,∃ R T,s = (P ++ R ++ (T ++ S),((P.length + i : Nat) : Int)) ∧ (R ++ T).Perm Q ∧ Desc R ∧ ((i = R.length ∧ 0 < i) ∨ (i = 1 ∧ R = [] ∧ T = []))) (fun s => ∃ R,s.1 = P ++ R ++ S ∧ R.Perm Q ∧ Desc R) (fun s => 1 + P.length + Q.length - s.2.toNat) ?_ N _ ?_ ?_
  ·rintro s ⟨i,R,T,rfl,hp,hd,hi⟩
   dsimp only
   have hpl := hp.length_eq
   rw [List.length_append] at hpl
   cases T with
   | nil =>
    refine .inl ⟨(P ++ R ++ ([] ++ S),((P.length + i : Nat) : Int)),?_,R,by simp,by simpa using hp,hd⟩
    unfold slices_insertionSortCmpFunc_daily_kink_b3
    have hpl' : R.length = Q.length := by simpa using hpl
    rw [dF (by
     rcases hi with ⟨h1,_⟩ | ⟨h1,h2,_⟩
     ·omega
     ·rw [h2] at hpl'; simp at hpl'; omega),cond_false]
   | cons x T =>
    rcases hi with ⟨rfl,hi0⟩ | ⟨_,_,h⟩
    ·simp only [List.length_cons] at hpl
     obtain ⟨s,q1,R',q2,q3,q4⟩ := ins_one (N := N) (P := P) (Q := R) (S := T ++ S) (x := x) (by simp <;> omega) hd (by omega)
     refine .inr ⟨(s.1,((P.length + (R.length + 1) : Nat) : Int)),?_,⟨R.length + 1,R',T,?_,?_,q4,.inl ⟨?_,by omega⟩⟩,?_⟩
     ·unfold slices_insertionSortCmpFunc_daily_kink_b3
      rw [dT (by omega),cond_true]
      have e : P ++ R ++ (x::T ++ S) = P ++ R ++ x::(T ++ S) := by simp
      rw [e,q1,Option.bind_some,exK_at,W_sm (by omega) (by omega)]
      have e2 : ((P.length + R.length : Nat) : Int) + 1 = ((P.length + (R.length + 1) : Nat) : Int) := by push_cast; omega
      rw [e2]
     ·rw [q2]
     ·refine (q3.append_right T).trans ?_
      simpa using hp
     ·rw [q3.length_eq]; simp
     ·dsimp only; omega
    ·cases h
  ·cases Q with
   | nil => exact ⟨1,[],[],by simp,by simp,List.Pairwise.nil,.inr ⟨rfl,rfl,rfl⟩⟩
   | cons x T => exact ⟨1,[x],T,by simp,by simp,by simp [Desc],.inl ⟨rfl,by omega⟩⟩
  ·dsimp only; omega
 obtain ⟨s,h1,R,h2,h3,h4⟩ := key
 refine ⟨R,?_,h3,h4⟩
 rw [h1,Option.bind_some,exK_at,h2]
 unfold sameL
 rw [if_pos (by simp [h3.length_eq]),Option.bind_some]
end Go.Nilo
namespace Go.Nilo
theorem swap_two {α : Type} {A B C : List α} {x y : α} {p q : Nat} (hp : p = A.length) (hq : q = A.length + 1 + B.length) : ((A ++ x::(B ++ y::C)).set p y).set q x = A ++ y::(B ++ x::C) := by
 rw [set_at hp]
 have := set_at (A := A ++ y::B) (B := C) (x := y) (y := x) (p := q) (by simp only [List.length_append,List.length_cons]; omega)
 simpa using this

theorem swapR {N : Nat} {P X M Y S : List Kk} {a b n : Int} (hn : X.length = Y.length) (hl : (P ++ (X ++ (M ++ (Y ++ S)))).length ≤ 1000) (ha : a = (P.length : Int)) (hb : b = ((P.length + X.length + M.length : Nat) : Int)) (hnn : n = (X.length : Int)) (hN : X.length < N) :
  slices_swapRangeCmpFunc_daily_kink N (P ++ (X ++ (M ++ (Y ++ S)))) a b n = some (P ++ (Y ++ (M ++ (X ++ S)))) := by
 unfold slices_swapRangeCmpFunc_daily_kink
 simp only [List.length_append] at hl
 have key : ∃ s,loopO (fun s3 => slices_swapRangeCmpFunc_daily_kink_b3 N a b n s3.1 s3.2) N (P ++ (X ++ (M ++ (Y ++ S))),0) = some (.go s) ∧ s.1 = P ++ (Y ++ (M ++ (X ++ S))) := by
  refine loop_to (fun s => ∃ X1 X2 Y1 Y2,X = X1 ++ X2 ∧ Y = Y1 ++ Y2 ∧ X1.length = Y1.length ∧ s = (P ++ (Y1 ++ (X2 ++ (M ++ (X1 ++ (Y2 ++ S))))),((X1.length : Nat) : Int))) (fun s => s.1 = P ++ (Y ++ (M ++ (X ++ S)))) (fun s => X.length - s.2.toNat) ?_ N _ ⟨[],X,[],Y,rfl,rfl,rfl,rfl⟩ (by dsimp only; omega)
  rintro s ⟨X1,X2,Y1,Y2,rfl,rfl,h1,rfl⟩
  simp only [List.length_append] at hn hl hb hnn
  dsimp only
  cases X2 with
  | nil =>
   have hy : Y2 = [] := List.eq_nil_of_length_eq_zero (by simp at hn; omega)
   subst hy
   refine .inl ⟨(P ++ (Y1 ++ ([] ++ (M ++ (X1 ++ ([] ++ S))))),((X1.length : Nat) : Int)),?_,by simp⟩
   unfold slices_swapRangeCmpFunc_daily_kink_b3
   rw [dF (by rw [hnn]; simp),cond_false]
  | cons x X2 =>
   cases Y2 with
   | nil => simp at hn; omega
   | cons y Y2 =>
    simp only [List.length_cons] at hn hl hb hnn
    refine .inr ⟨(P ++ ((Y1 ++ [y]) ++ (X2 ++ (M ++ ((X1 ++ [x]) ++ (Y2 ++ S))))),(((X1 ++ [x]).length : Nat) : Int)),?_,⟨X1 ++ [x],X2,Y1 ++ [y],Y2,by simp,by simp,by simp [h1],rfl⟩,?_⟩
    ·have e1 : W (a + ((X1.length : Nat) : Int)) = ((P.length + Y1.length : Nat) : Int) := by rw [W_sm (by omega) (by omega)]; omega
     have e2 : W (b + ((X1.length : Nat) : Int)) = ((P.length + Y1.length + 1 + X2.length + M.length + X1.length : Nat) : Int) := by rw [W_sm (by omega) (by omega)]; omega
     have e3 : P ++ (Y1 ++ (x::X2 ++ (M ++ (X1 ++ (y::Y2 ++ S))))) = (P ++ Y1) ++ x::((X2 ++ M ++ X1) ++ y::(Y2 ++ S)) := by simp
     have g1 : getI ((P ++ Y1) ++ x::((X2 ++ M ++ X1) ++ y::(Y2 ++ S))) ((P.length + Y1.length : Nat) : Int) = some x := getI_at (by simp)
     have g2 : getI ((P ++ Y1) ++ x::((X2 ++ M ++ X1) ++ y::(Y2 ++ S))) ((P.length + Y1.length + 1 + X2.length + M.length + X1.length : Nat) : Int) = some y := by
      have := getI_at (A := (P ++ Y1) ++ x::(X2 ++ M ++ X1)) (B := Y2 ++ S) (x := y) (p := ((P.length + Y1.length + 1 + X2.length + M.length + X1.length : Nat) : Int)) (by simp only [List.length_append,List.length_cons]; omega)
      simpa using this
     unfold slices_swapRangeCmpFunc_daily_kink_b3
     rw [dT (by omega),cond_true,e1,e2,e3,g1,g2]
     simp only [Option.bind_some,Int.toNat_natCast]
     rw [swap_two (by simp) (by simp only [List.length_append]; omega),W_sm (by omega) (by omega)]
     simp
    ·simp only [List.length_append,List.length_cons,List.length_nil]; omega
 obtain ⟨s,h1,h2⟩ := key
 rw [h1,Option.bind_some,exK_at,h2]
 unfold sameL
 rw [if_pos (by simp only [List.length_append]; omega),Option.bind_some]

theorem rotate_ok {N : Nat} {P U V S : List Kk} {a m b : Int} (hl : (P ++ (U ++ (V ++ S))).length ≤ 1000) (hU : 0 < U.length) (hV : 0 < V.length) (ha : a = (P.length : Int)) (hm : m = ((P.length + U.length : Nat) : Int)) (hb : b = ((P.length + U.length + V.length : Nat) : Int)) (hN : U.length + V.length < N) :
  slices_rotateCmpFunc_daily_kink N (P ++ (U ++ (V ++ S))) a m b = some (P ++ (V ++ (U ++ S))) := by
 unfold slices_rotateCmpFunc_daily_kink
 simp only [List.length_append] at hl
 have e1 : W (m - a) = ((U.length : Nat) : Int) := by rw [W_sm (by omega) (by omega)]; omega
 have e2 : W (b - m) = ((V.length : Nat) : Int) := by rw [W_sm (by omega) (by omega)]; omega
 rw [e1,e2]
 have key : ∃ s,loopO (fun s4 => slices_rotateCmpFunc_daily_kink_b4 N m s4.1 s4.2.1 s4.2.2) N (P ++ (U ++ (V ++ S)),((U.length : Nat) : Int),((V.length : Nat) : Int)) = some (.go s) ∧
   ∃ P' U' V' S',s = (P' ++ (U' ++ (V' ++ S')),((U'.length : Nat) : Int),((U'.length : Nat) : Int)) ∧ U'.length = V'.length ∧ P'.length + U'.length = P.length + U.length ∧ U'.length ≤ U.length + V.length ∧ P' ++ (V' ++ (U' ++ S')) = P ++ (V ++ (U ++ S)) := by
  refine loop_to (fun s => ∃ P' U' V' S',s = (P' ++ (U' ++ (V' ++ S')),((U'.length : Nat) : Int),((V'.length : Nat) : Int)) ∧ 0 < U'.length ∧ 0 < V'.length ∧ P'.length + U'.length = P.length + U.length ∧ U'.length + V'.length ≤ U.length + V.length ∧ P' ++ (V' ++ (U' ++ S')) = P ++ (V ++ (U ++ S)))
   (fun s => ∃ P' U' V' S',s = (P' ++ (U' ++ (V' ++ S')),((U'.length : Nat) : Int),((U'.length : Nat) : Int)) ∧ U'.length = V'.length ∧ P'.length + U'.length = P.length + U.length ∧ U'.length ≤ U.length + V.length ∧ P' ++ (V' ++ (U' ++ S')) = P ++ (V ++ (U ++ S)))
   (fun s => s.2.1.toNat + s.2.2.toNat) ?_ N _ ⟨P,U,V,S,rfl,hU,hV,rfl,by omega,rfl⟩ (by dsimp only; omega)
  rintro s ⟨P',U',V',S',rfl,h1,h2,h3,h4,h5⟩
  dsimp only
  have hlen := congrArg List.length h5
  simp only [List.length_append] at hlen
  by_cases hne : U'.length = V'.length
  ·refine .inl ⟨_,?_,P',U',V',S',rfl,hne,h3,by omega,h5⟩
   unfold slices_rotateCmpFunc_daily_kink_b4
   rw [← hne]
   simp
  ·have hbody : (((U'.length : Nat) : Int) != ((V'.length : Nat) : Int)) = true := by simp; omega
   by_cases hgt : V'.length < U'.length
   ·-- U' = U1 ++ U2,|U1| = |V'|
    obtain ⟨U1,U2,hU12,hU1⟩ : ∃ U1 U2,U' = U1 ++ U2 ∧ U1.length = V'.length := ⟨U'.take V'.length,U'.drop V'.length,(List.take_append_drop _ _).symm,by rw [List.length_take]; omega⟩
    subst hU12
    simp only [List.length_append] at h1 h3 h4 hlen hgt
    have hs := swapR (N := N) (P := P') (X := U1) (M := U2) (Y := V') (S := S') (a := W (m - ((U1.length + U2.length : Nat) : Int))) (b := m) (n := ((V'.length : Nat) : Int)) hU1 (by simp only [List.length_append]; omega) (by rw [W_sm (by omega) (by omega)]; omega) (by omega) (by rw [hU1]) (by omega)
    refine .inr ⟨((P' ++ V') ++ (U2 ++ (U1 ++ S')),((U2.length : Nat) : Int),((U1.length : Nat) : Int)),?_,⟨P' ++ V',U2,U1,S',rfl,by omega,by omega,by simp only [List.length_append]; omega,by omega,by rw [← h5]; simp⟩,by simp only [List.length_append]; omega⟩
    unfold slices_rotateCmpFunc_daily_kink_b4
    have e3 : P' ++ (U1 ++ U2 ++ (V' ++ S')) = P' ++ (U1 ++ (U2 ++ (V' ++ S'))) := by simp
    have e4 : W ((((U1 ++ U2).length : Nat) : Int) - ((V'.length : Nat) : Int)) = ((U2.length : Nat) : Int) := by
     rw [List.length_append,W_sm (by omega) (by omega)]; omega
    rw [hbody,cond_true,e4,List.length_append,dT (by omega),cond_true,e3,hs,Option.bind_some,hU1]
    simp
   ·obtain ⟨V1,V2,hV12,hV2⟩ : ∃ V1 V2,V' = V1 ++ V2 ∧ V2.length = U'.length := ⟨V'.take (V'.length - U'.length),V'.drop (V'.length - U'.length),(List.take_append_drop _ _).symm,by rw [List.length_drop]; omega⟩
    subst hV12
    simp only [List.length_append] at h2 h4 hlen hgt hne
    have e5 : W (m + (((V1 ++ V2).length : Nat) : Int)) = m + ((V1.length + V2.length : Nat) : Int) := by rw [List.length_append,W_sm (by omega) (by omega)]
    have hs := swapR (N := N) (P := P') (X := U') (M := V1) (Y := V2) (S := S') (a := W (m - ((U'.length : Nat) : Int))) (b := W (m + ((V1.length + V2.length : Nat) : Int) - ((U'.length : Nat) : Int))) (n := ((U'.length : Nat) : Int)) hV2.symm (by simp only [List.length_append]; omega) (by rw [W_sm (by omega) (by omega)]; omega) (by rw [W_sm (by omega) (by omega)]; omega) rfl (by omega)
    refine .inr ⟨(P' ++ (V2 ++ (V1 ++ (U' ++ S'))),((V2.length : Nat) : Int),((V1.length : Nat) : Int)),?_,⟨P',V2,V1,U' ++ S',rfl,by omega,by omega,by omega,by omega,by rw [← h5]; simp⟩,by simp only [List.length_append]; omega⟩
    unfold slices_rotateCmpFunc_daily_kink_b4
    have e3 : P' ++ (U' ++ (V1 ++ V2 ++ S')) = P' ++ (U' ++ (V1 ++ (V2 ++ S'))) := by simp
    have e4 : W ((((V1 ++ V2).length : Nat) : Int) - ((U'.length : Nat) : Int)) = ((V1.length : Nat) : Int) := by
     rw [List.length_append,W_sm (by omega) (by omega)]; omega
    rw [hbody,cond_true,e4,dF (by rw [List.length_append]; omega),cond_false,e3,e5,hs,Option.bind_some,hV2]
 obtain ⟨s,h1,P',U',V',S',rfl,h2,h3,h4,h5⟩ := key
 rw [h1,Option.bind_some,exK_at]
 dsimp only
 have hlen := congrArg List.length h5
 simp only [List.length_append] at hlen
 have hs := swapR (N := N) (P := P') (X := U') (M := []) (Y := V') (S := S') (a := W (m - ((U'.length : Nat) : Int))) (b := m) (n := ((U'.length : Nat) : Int)) h2 (by simp only [List.length_append]; simp only [List.length_nil]; omega) (by rw [W_sm (by omega) (by omega)]; omega) (by simp only [List.length_nil]; omega) rfl (by omega)
 simp only [List.nil_append] at hs
 rw [hs,Option.bind_some,h5]
 unfold sameL
 rw [if_pos (by simp only [List.length_append]; omega),Option.bind_some]
end Go.Nilo
namespace Go.Nilo
theorem half_ok {i j : Nat} (h : i + j ≤ 4000) : W ((IntKind.u64.wrap (W ((i : Int) + (j : Int)))) / 2) = (((i + j) / 2 : Nat) : Int) := by
 have e1 : W ((i : Int) + (j : Int)) = ((i + j : Nat) : Int) := by rw [W_sm (by omega) (by omega)]; push_cast; rfl
 have e2 : IntKind.u64.wrap ((i + j : Nat) : Int) = ((i + j : Nat) : Int) := by
  simp only [IntKind.wrap,IntKind.signed,IntKind.bits]
  simp
  omega
 rw [e1,e2,W_sm (by omega) (by omega)]
 push_cast
 rfl

theorem bs_ok {ρ : Type} {f : Int × Int → Option (Step (Int × Int) ρ)} {q : Nat → Bool} {lo hi : Nat}
  (hb : ∀ i j : Nat,lo ≤ i → i < j → j ≤ hi → f ((i : Int),(j : Int)) = cond (q ((i + j) / 2)) (some (.cont ((((i + j) / 2 + 1 : Nat) : Int),(j : Int)))) (some (.cont ((i : Int),(((i + j) / 2 : Nat) : Int)))))
  (he : ∀ i : Nat,lo ≤ i → i ≤ hi → f ((i : Int),(i : Int)) = some (.brk ((i : Int),(i : Int)))) (hlh : lo ≤ hi) {N : Nat} (hN : hi - lo < N) :
  ∃ s : Nat,loopO f N ((lo : Int),(hi : Int)) = some (.go ((s : Int),(s : Int))) ∧ lo ≤ s ∧ s ≤ hi ∧ (lo < s → q (s - 1) = true) ∧ (s < hi → q s = false) := by
 obtain ⟨s,h1,s',h2,h3⟩ := loop_to (f := f) (fun s => ∃ i j : Nat,s = ((i : Int),(j : Int)) ∧ lo ≤ i ∧ i ≤ j ∧ j ≤ hi ∧ (lo < i → q (i - 1) = true) ∧ (j < hi → q j = false))
  (fun s => ∃ i : Nat,s = ((i : Int),(i : Int)) ∧ lo ≤ i ∧ i ≤ hi ∧ (lo < i → q (i - 1) = true) ∧ (i < hi → q i = false)) (fun s => s.2.toNat - s.1.toNat) (by
   rintro s ⟨i,j,rfl,a1,a2,a3,a4,a5⟩
   by_cases hij : i = j
   ·subst hij
    exact .inl ⟨_,he i a1 a3,i,rfl,a1,a3,a4,a5⟩
   ·have := hb i j a1 (by omega) a3
    cases hq : q ((i + j) / 2) with
    | true =>
     rw [hq,cond_true] at this
     exact .inr ⟨_,this,⟨_,_,rfl,by omega,by omega,by omega,fun _ => hq,a5⟩,by dsimp only; omega⟩
    | false =>
     rw [hq,cond_false] at this
     exact .inr ⟨_,this,⟨_,_,rfl,by omega,by omega,by omega,a4,fun _ => hq⟩,by dsimp only; omega⟩) N _ ⟨lo,hi,rfl,Nat.le_refl _,hlh,Nat.le_refl _,fun h => absurd h (Nat.lt_irrefl _),fun h => absurd h (Nat.lt_irrefl _)⟩ (by dsimp only; omega)
 subst h2
 exact ⟨s',h1,h3⟩

theorem moveR {N : Nat} {P B1 T : List Kk} {x : Kk} {a i : Int} (hl : (P ++ x::(B1 ++ T)).length ≤ 1000) (ha : a = (P.length : Int)) (hi : i = ((P.length + 1 + B1.length : Nat) : Int)) (hN : B1.length < N) :
  ∃ s,loopO (fun s9 => slices_symMergeCmpFunc_daily_kink_b9 N i s9.1 s9.2) N (P ++ x::(B1 ++ T),a) = some (.go s) ∧ s.1 = P ++ (B1 ++ x::T) := by
 simp only [List.length_append,List.length_cons] at hl
 refine loop_to (fun s => ∃ C D,B1 = C ++ D ∧ s = (P ++ C ++ x::(D ++ T),((P.length + C.length : Nat) : Int))) (fun s => s.1 = P ++ (B1 ++ x::T)) (fun s => P.length + B1.length - s.2.toNat) ?_ N _ ⟨[],B1,rfl,by simp [ha]⟩ (by dsimp only; omega)
 rintro s ⟨C,D,rfl,rfl⟩
 dsimp only
 simp only [List.length_append] at hl hi
 have e1 : W (i - 1) = ((P.length + C.length + D.length : Nat) : Int) := by rw [W_sm (by omega) (by omega)]; omega
 cases D with
 | nil =>
  refine .inl ⟨(P ++ C ++ x::([] ++ T),((P.length + C.length : Nat) : Int)),?_,by simp⟩
  unfold slices_symMergeCmpFunc_daily_kink_b9
  rw [e1,dF (by simp),cond_false]
 | cons y D =>
  simp only [List.length_cons] at hl hi e1
  refine .inr ⟨(P ++ (C ++ [y]) ++ x::(D ++ T),((P.length + (C ++ [y]).length : Nat) : Int)),?_,⟨C ++ [y],D,by simp,rfl⟩,by simp only [List.length_append,List.length_cons,List.length_nil]; omega⟩
  have e2 : W (((P.length + C.length : Nat) : Int) + 1) = ((P.length + C.length + 1 : Nat) : Int) := by rw [W_sm (by omega) (by omega)]; push_cast; rfl
  have e3 : P ++ C ++ x::(y::D ++ T) = (P ++ C) ++ x::y::(D ++ T) := by simp
  have g1 : getI ((P ++ C) ++ x::y::(D ++ T)) ((P.length + C.length : Nat) : Int) = some x := getI_at (by simp)
  have g2 : getI ((P ++ C) ++ x::y::(D ++ T)) ((P.length + C.length + 1 : Nat) : Int) = some y := by
   have := getI_at (A := P ++ C ++ [x]) (B := D ++ T) (x := y) (p := ((P.length + C.length + 1 : Nat) : Int)) (by simp <;> omega)
   simpa using this
  unfold slices_symMergeCmpFunc_daily_kink_b9
  rw [e1,dT (by omega),cond_true,e2,e3,g1,g2]
  simp only [Option.bind_some,Int.toNat_natCast]
  rw [swap_adj' (by simp) (by simp)]
  simp [Nat.add_assoc]

theorem moveL {N : Nat} {P A2 T : List Kk} {y : Kk} {i k : Int} (hl : (P ++ (A2 ++ y::T)).length ≤ 1000) (hi : i = (P.length : Int)) (hk : k = ((P.length + A2.length : Nat) : Int)) (hN : P.length + A2.length < N) :
  ∃ s,loopO (fun s26 => slices_symMergeCmpFunc_daily_kink_b26 N i s26.1 s26.2) N (P ++ (A2 ++ y::T),k) = some (.go s) ∧ s.1 = P ++ y::(A2 ++ T) := by
 simp only [List.length_append,List.length_cons] at hl
 refine loop_to (fun s => ∃ C D,A2 = C ++ D ∧ s = (P ++ (C ++ y::(D ++ T)),((P.length + C.length : Nat) : Int))) (fun s => s.1 = P ++ y::(A2 ++ T)) (fun s => s.2.toNat) ?_ N _ ⟨A2,[],by simp,by simp [hk]⟩ (by dsimp only; omega)
 rintro s ⟨C,D,rfl,rfl⟩
 dsimp only
 simp only [List.length_append] at hl hk
 rcases List.eq_nil_or_concat C with h0 | ⟨C',z,h0⟩
 ·subst h0
  refine .inl ⟨(P ++ ([] ++ y::(D ++ T)),((P.length + ([] : List Kk).length : Nat) : Int)),?_,by simp⟩
  unfold slices_symMergeCmpFunc_daily_kink_b26
  rw [dF (by simp [hi]),cond_false]
 ·rw [List.concat_eq_append] at h0
  subst h0
  simp only [List.length_append,List.length_cons,List.length_nil] at hl hk
  refine .inr ⟨(P ++ (C' ++ y::((z::D) ++ T)),((P.length + C'.length : Nat) : Int)),?_,⟨C',z::D,by simp,rfl⟩,by simp only [List.length_append,List.length_cons,List.length_nil]; omega⟩
  have e2 : W (((P.length + (C' ++ [z]).length : Nat) : Int) - 1) = ((P.length + C'.length : Nat) : Int) := by
   simp only [List.length_append,List.length_cons,List.length_nil]
   rw [W_sm (by omega) (by omega)]; omega
  have e3 : P ++ (C' ++ [z] ++ y::(D ++ T)) = (P ++ C') ++ z::y::(D ++ T) := by simp
  have e4 : ((P.length + (C' ++ [z]).length : Nat) : Int) = ((P.length + C'.length + 1 : Nat) : Int) := by simp <;> omega
  have g1 : getI ((P ++ C') ++ z::y::(D ++ T)) ((P.length + C'.length : Nat) : Int) = some z := getI_at (by simp)
  have g2 : getI ((P ++ C') ++ z::y::(D ++ T)) ((P.length + C'.length + 1 : Nat) : Int) = some y := by
   have := getI_at (A := P ++ C' ++ [z]) (B := D ++ T) (x := y) (p := ((P.length + C'.length + 1 : Nat) : Int)) (by simp <;> omega)
   simpa using this
  unfold slices_symMergeCmpFunc_daily_kink_b26
  rw [e2,e4,dT (by omega),cond_true,e3,g1,g2]
  simp only [Option.bind_some,Int.toNat_natCast]
  rw [swap_adj (by simp) (by simp)]
  simp

theorem getD_at {α : Type} {A B : List α} {x d : α} {p : Nat} (hp : p = A.length) : (A ++ x::B).getD p d = x := by subst hp; simp [List.getD]
theorem Desc.last {A : List Kk} {u : Kk} (h : Desc (A ++ [u])) : ∀ z ∈ A ++ [u],u.value ≤ z.value := by
 intro z hz
 rcases List.mem_append.1 hz with hz | hz
 ·exact (List.pairwise_append.1 h).2.2 z hz u (by simp)
 ·simp at hz; subst hz; exact Int.le_refl _
theorem Desc.head {A : List Kk} {u : Kk} (h : Desc (u::A)) : ∀ z ∈ u::A,z.value ≤ u.value := by
 intro z hz
 rcases List.mem_cons.1 hz with rfl | hz
 ·exact Int.le_refl _
 ·exact (List.pairwise_cons.1 h).1 z hz
theorem all_ge {A B : List Kk} (hA : Desc A) (hB : Desc B) (h : ∀ u v A' B',A = A' ++ [u] → B = v::B' → v.value ≤ u.value) : ∀ x ∈ A,∀ y ∈ B,y.value ≤ x.value := by
 intro x hx y hy
 rcases List.eq_nil_or_concat A with h0 | ⟨A',u,h0⟩
 ·subst h0; cases hx
 ·rw [List.concat_eq_append] at h0
  subst h0
  cases B with
  | nil => cases hy
  | cons v B' => exact Int.le_trans (hB.head y hy) (Int.le_trans (h u v A' B' rfl rfl) (hA.last x hx))
theorem split_at {α : Type} {A : List α} {k : Nat} (h : k ≤ A.length) : ∃ A1 A2,A = A1 ++ A2 ∧ A1.length = k := ⟨A.take k,A.drop k,(List.take_append_drop _ _).symm,by rw [List.length_take]; omega⟩
end Go.Nilo
namespace Go.Nilo
def k00 : Kk := ⟨0,0,0⟩
structure Mg (A B R : List Kk) : Prop where
 p : R.Perm (A ++ B)
 d : Desc R
theorem Mg.one {x : Kk} {B1 B2 : List Kk} (hB : Desc (B1 ++ B2)) (h1 : ∀ z ∈ B1,x.value ≤ z.value) (h2 : ∀ z ∈ B2,z.value ≤ x.value) : Desc (B1 ++ x::B2) := by
 obtain ⟨d1,d2,d3⟩ := List.pairwise_append.1 hB
 refine List.pairwise_append.2 ⟨d1,List.pairwise_cons.2 ⟨h2,d2⟩,?_⟩
 intro a ha b hb
 rcases List.mem_cons.1 hb with rfl | hb
 ·exact h1 a ha
 ·exact d3 a ha b hb
theorem sm_one {N : Nat} {P B S : List Kk} {x : Kk} {a m b : Int} (hl : (P ++ ([x] ++ (B ++ S))).length ≤ 1000) (hB : Desc B) (ha : a = (P.length : Int)) (hm : m = ((P.length + 1 : Nat) : Int)) (hb : b = ((P.length + 1 + B.length : Nat) : Int)) (hN : 100 + B.length < N) :
  ∃ R,slices_symMergeCmpFunc_daily_kink (N + 1) (P ++ ([x] ++ (B ++ S))) a m b = some (P ++ (R ++ S)) ∧ Mg [x] B R := by
 rw [slices_symMergeCmpFunc_daily_kink]
 simp only [List.length_append,List.length_cons,List.length_nil] at hl
 have e1 : (W (m - a) == 1) = true := by rw [W_sm (by omega) (by omega)]; simp; omega
 rw [e1,cond_true,hm,hb]
 obtain ⟨s,q1,q2,q3,q4,q5⟩ := bs_ok (ρ := List Kk) (f := fun s6 => slices_symMergeCmpFunc_daily_kink_b6 N (P ++ ([x] ++ (B ++ S))) a s6.1 s6.2) (q := fun h => decide (x.value < ((P ++ ([x] ++ (B ++ S))).getD h k00).value)) (lo := P.length + 1) (hi := P.length + 1 + B.length) (by
  intro i j h1 h2 h3
  dsimp only
  unfold slices_symMergeCmpFunc_daily_kink_b6
  rw [dT (by omega),cond_true,half_ok (by omega),getI_d k00 (by simp only [List.length_append,List.length_cons,List.length_nil]; omega),Option.bind_some]
  have g1 : getI (P ++ ([x] ++ (B ++ S))) a = some x := by simpa using getI_at (A := P) (B := B ++ S) (x := x) ha
  rw [g1,Option.bind_some,kcmp,W_sm (by omega) (by omega)]
  rfl) (by
  intro i h1 h2
  dsimp only
  unfold slices_symMergeCmpFunc_daily_kink_b6
  rw [dF (by omega),cond_false]) (by omega) (N := N) (by omega)
 rw [q1,Option.bind_some,exK_at]
 dsimp only
 obtain ⟨B1,B2,rfl,hB1⟩ := split_at (A := B) (k := s - (P.length + 1)) (by omega)
 simp only [List.length_append] at hl q3 hN
 have hdB := hB
 obtain ⟨d1,d2,d3⟩ := List.pairwise_append.1 hB
 have h1 : ∀ z ∈ B1,x.value ≤ z.value := by
  rcases List.eq_nil_or_concat B1 with h0 | ⟨B',u,h0⟩
  ·subst h0; intro z hz; cases hz
  ·rw [List.concat_eq_append] at h0
   subst h0
   simp only [List.length_append,List.length_cons,List.length_nil] at hB1 hl
   have hu := q4 (by omega)
   have e : P ++ ([x] ++ (B' ++ [u] ++ B2 ++ S)) = (P ++ ([x] ++ B')) ++ u::(B2 ++ S) := by simp
   rw [e,getD_at (by simp only [List.length_append,List.length_cons,List.length_nil]; omega)] at hu
   simp at hu
   intro z hz
   have := Desc.last d1 z hz
   omega
 have h2 : ∀ z ∈ B2,z.value ≤ x.value := by
  cases B2 with
  | nil => intro z hz; cases hz
  | cons u B' =>
   simp only [List.length_cons] at q3 hl q5
   have hu := q5 (by simp only [List.length_append,List.length_cons]; omega)
   have e : P ++ ([x] ++ (B1 ++ u::B' ++ S)) = (P ++ ([x] ++ B1)) ++ u::(B' ++ S) := by simp
   rw [e,getD_at (by simp only [List.length_append,List.length_cons,List.length_nil]; omega)] at hu
   simp at hu
   intro z hz
   have := Desc.head d2 z hz
   omega
 have e2 : P ++ ([x] ++ (B1 ++ B2 ++ S)) = P ++ x::(B1 ++ (B2 ++ S)) := by simp
 obtain ⟨t,r1,r2⟩ := moveR (N := N) (P := P) (B1 := B1) (T := B2 ++ S) (x := x) (a := a) (i := ((s : Nat) : Int)) (by simp only [List.length_append,List.length_cons]; omega) ha (by omega) (by omega)
 rw [e2,r1,Option.bind_some,exK_at,r2]
 refine ⟨B1 ++ x::B2,?_,?_,Mg.one hdB h1 h2⟩
 ·unfold sameL
  rw [if_pos (by simp only [List.length_append,List.length_cons]; omega),Option.bind_some]
  simp
 ·exact List.perm_middle

theorem sm_last {N : Nat} {P A S : List Kk} {y : Kk} {a m b : Int} (hl : (P ++ (A ++ ([y] ++ S))).length ≤ 1000) (hA : Desc A) (hA2 : A.length ≠ 1) (ha : a = (P.length : Int)) (hm : m = ((P.length + A.length : Nat) : Int)) (hb : b = ((P.length + A.length + 1 : Nat) : Int)) (hN : 100 + A.length + P.length < N) :
  ∃ R,slices_symMergeCmpFunc_daily_kink (N + 1) (P ++ (A ++ ([y] ++ S))) a m b = some (P ++ (R ++ S)) ∧ Mg A [y] R := by
 rw [slices_symMergeCmpFunc_daily_kink]
 simp only [List.length_append,List.length_cons,List.length_nil] at hl
 have e1 : (W (m - a) == 1) = false := by rw [W_sm (by omega) (by omega)]; simp; omega
 have e1' : (W (b - m) == 1) = true := by rw [W_sm (by omega) (by omega)]; simp; omega
 rw [e1,cond_false,e1',cond_true]
 obtain ⟨s,q1,q2,q3,q4,q5⟩ := bs_ok (ρ := List Kk) (f := fun s23 => slices_symMergeCmpFunc_daily_kink_b23 N (P ++ (A ++ ([y] ++ S))) m s23.1 s23.2) (q := fun h => !decide (((P ++ (A ++ ([y] ++ S))).getD h k00).value < y.value)) (lo := P.length) (hi := P.length + A.length) (by
  intro i j h1 h2 h3
  dsimp only
  unfold slices_symMergeCmpFunc_daily_kink_b23
  have g1 : getI (P ++ (A ++ ([y] ++ S))) m = some y := by
   have := getI_at (A := P ++ A) (B := S) (x := y) (p := m) (by rw [hm,List.length_append])
   simpa using this
  rw [dT (by omega),cond_true,g1,Option.bind_some,half_ok (by omega),getI_d k00 (by simp only [List.length_append,List.length_cons,List.length_nil]; omega),Option.bind_some]
  rw [kcmp,W_sm (by omega) (by omega)]
  rfl) (by
  intro i h1 h2
  dsimp only
  unfold slices_symMergeCmpFunc_daily_kink_b23
  rw [dF (by omega),cond_false]) (by omega) (N := N) (by omega)
 rw [← ha,← hm] at q1
 rw [q1,Option.bind_some,exK_at]
 dsimp only
 obtain ⟨A1,A2,rfl,hA1⟩ := split_at (A := A) (k := s - P.length) (by omega)
 simp only [List.length_append] at hl q3 hN hm hb
 have hdA := hA
 obtain ⟨d1,d2,d3⟩ := List.pairwise_append.1 hA
 have h1 : ∀ z ∈ A1,y.value ≤ z.value := by
  rcases List.eq_nil_or_concat A1 with h0 | ⟨B',u,h0⟩
  ·subst h0; intro z hz; cases hz
  ·rw [List.concat_eq_append] at h0
   subst h0
   simp only [List.length_append,List.length_cons,List.length_nil] at hA1 hl
   have hu := q4 (by omega)
   have e : P ++ (B' ++ [u] ++ A2 ++ ([y] ++ S)) = (P ++ B') ++ u::(A2 ++ ([y] ++ S)) := by simp
   rw [e,getD_at (by simp only [List.length_append]; omega)] at hu
   simp at hu
   intro z hz
   have := Desc.last d1 z hz
   omega
 have h2 : ∀ z ∈ A2,z.value ≤ y.value := by
  cases A2 with
  | nil => intro z hz; cases hz
  | cons u B' =>
   simp only [List.length_cons] at q3 hl q5
   have hu := q5 (by simp only [List.length_append,List.length_cons]; omega)
   have e : P ++ (A1 ++ u::B' ++ ([y] ++ S)) = (P ++ A1) ++ u::(B' ++ ([y] ++ S)) := by simp
   rw [e,getD_at (by simp only [List.length_append]; omega)] at hu
   simp at hu
   intro z hz
   have := Desc.head d2 z hz
   omega
 have e2 : P ++ (A1 ++ A2 ++ ([y] ++ S)) = (P ++ A1) ++ (A2 ++ y::S) := by simp
 obtain ⟨t,r1,r2⟩ := moveL (N := N) (P := P ++ A1) (A2 := A2) (T := S) (y := y) (i := ((s : Nat) : Int)) (k := m) (by simp only [List.length_append,List.length_cons]; omega) (by rw [List.length_append]; omega) (by rw [List.length_append]; omega) (by rw [List.length_append]; omega)
 rw [e2,r1,Option.bind_some,exK_at,r2]
 refine ⟨A1 ++ y::A2,?_,?_,Mg.one hdA h1 h2⟩
 ·unfold sameL
  rw [if_pos (by simp only [List.length_append,List.length_cons]; omega),Option.bind_some]
  simp
 ·have h3 : (A1 ++ y::A2).Perm (y::(A1 ++ A2)) := List.perm_middle
  exact h3.trans (List.perm_append_singleton y (A1 ++ A2)).symm
end Go.Nilo
namespace Go.Nilo
theorem Mg.nil_l {B : List Kk} (h : Desc B) : Mg [] B B := ⟨List.Perm.refl _,h⟩
theorem Mg.nil_r {A : List Kk} (h : Desc A) : Mg A [] A := ⟨by simp,h⟩

theorem sm_ok : ∀ (L N : Nat) (P A B S : List Kk) (a m b : Int),A.length + B.length ≤ L → (P ++ (A ++ (B ++ S))).length ≤ 200 → 300 + L < N → Desc A → Desc B → 0 < A.length → 0 < B.length → a = (P.length : Int) → m = ((P.length + A.length : Nat) : Int) → b = ((P.length + A.length + B.length : Nat) : Int) →
  ∃ R,slices_symMergeCmpFunc_daily_kink N (P ++ (A ++ (B ++ S))) a m b = some (P ++ (R ++ S)) ∧ Mg A B R
 | 0,N,P,A,B,S,a,m,b,h0,_,_,_,_,h1,_,_,_,_ => by omega
 | L + 1,0,P,A,B,S,a,m,b,_,_,h,_,_,_,_,_,_,_ => by omega
 | L + 1,N + 1,P,A,B,S,a,m,b,h0,hl,hN,hA,hB,hA0,hB0,ha,hm,hb => by
  have hl0 := hl
  simp only [List.length_append] at hl
  by_cases hA1 : A.length = 1
  ·obtain ⟨x,rfl⟩ := List.length_eq_one_iff.1 hA1
   exact sm_one (by simp only [List.length_append]; omega) hB ha (by rw [hm]; simp) (by rw [hb]; simp) (by omega)
  by_cases hB1 : B.length = 1
  ·obtain ⟨y,rfl⟩ := List.length_eq_one_iff.1 hB1
   exact sm_last (by simp only [List.length_append]; omega) hA hA1 ha hm (by rw [hb]; simp) (by omega)
  rw [slices_symMergeCmpFunc_daily_kink]
  have e1 : (W (m - a) == 1) = false := by rw [W_sm (by omega) (by omega)]; simp; omega
  have e1' : (W (b - m) == 1) = false := by rw [W_sm (by omega) (by omega)]; simp; omega
  rw [e1,cond_false,e1',cond_false]
  obtain ⟨mid,hmid⟩ : ∃ mid : Nat,mid = (P.length + (P.length + A.length + B.length)) / 2 := ⟨_,rfl⟩
  have emid : W ((IntKind.u64.wrap (W (a + b))) / 2) = (mid : Int) := by rw [ha,hb,half_ok (by omega),hmid]
  have en : W ((mid : Int) + m) = ((mid + (P.length + A.length) : Nat) : Int) := by rw [hm,W_sm (by omega) (by omega)]; push_cast; rfl
  -- the part both ways have
  have key : ∀ (st r : Nat) (st' r' : Int),st' = (st : Int) → r' = (r : Int) → P.length ≤ st → st ≤ r → r ≤ mid → r ≤ P.length + A.length → mid + (P.length + A.length) ≤ st + (P.length + A.length + B.length) →
    (st = P.length ∨ st + (P.length + A.length + B.length) = mid + (P.length + A.length)) → (r = P.length + A.length ∨ r = mid) →
    ∃ R,slices_symMergeCmpFunc_daily_kink_j38 N (slices_symMergeCmpFunc_daily_kink N) (P ++ (A ++ (B ++ S))) a m b st' r' = some (P ++ (R ++ S)) ∧ Mg A B R := by
   intro st r st' r' hst hr k1 k2 k3 k4 k5 k6 k7
   subst hst hr
   unfold slices_symMergeCmpFunc_daily_kink_j38
   obtain ⟨s,q1,q2,q3,q4,q5⟩ := bs_ok (ρ := List Kk) (f := fun s41 => slices_symMergeCmpFunc_daily_kink_b41 N (P ++ (A ++ (B ++ S))) a m b s41.1 s41.2)
    (q := fun c => !decide (((P ++ (A ++ (B ++ S))).getD c k00).value < ((P ++ (A ++ (B ++ S))).getD (mid + (P.length + A.length) - 1 - c) k00).value)) (lo := st) (hi := r) (by
    intro i j h1 h2 h3
    dsimp only
    unfold slices_symMergeCmpFunc_daily_kink_b41
    have e5 : W (((mid + (P.length + A.length) : Nat) : Int) - 1) = ((mid + (P.length + A.length) - 1 : Nat) : Int) := by rw [W_sm (by omega) (by omega)]; omega
    have e6 : W (((mid + (P.length + A.length) - 1 : Nat) : Int) - (((i + j) / 2 : Nat) : Int)) = ((mid + (P.length + A.length) - 1 - (i + j) / 2 : Nat) : Int) := by rw [W_sm (by omega) (by omega)]; omega
    rw [dT (by omega),cond_true,emid,en,e5,half_ok (by omega),e6,getI_d k00 (by simp only [List.length_append]; omega),Option.bind_some,getI_d k00 (by simp only [List.length_append]; omega),Option.bind_some,kcmp,W_sm (by omega) (by omega)]
    rfl) (by
    intro i h1 h2
    dsimp only
    unfold slices_symMergeCmpFunc_daily_kink_b41
    rw [dF (by omega),cond_false]) k2 (N := N) (by omega)
   rw [q1,Option.bind_some,exK_at,emid,en]
   dsimp only
   obtain ⟨en',hen'⟩ : ∃ en' : Nat,en' = mid + (P.length + A.length) - s := ⟨_,rfl⟩
   have eend : W (((mid + (P.length + A.length) : Nat) : Int) - (s : Int)) = (en' : Int) := by rw [W_sm (by omega) (by omega)]; omega
   rw [eend]
   obtain ⟨A1,A2,hAs,hA1'⟩ := split_at (A := A) (k := s - P.length) (by omega)
   obtain ⟨B1,B2,hBs,hB1'⟩ := split_at (A := B) (k := en' - (P.length + A.length)) (by omega)
   have hAl : A1.length + A2.length = A.length := by rw [hAs,List.length_append]
   have hBl : B1.length + B2.length = B.length := by rw [hBs,List.length_append]
   have hdA := hA
   have hdB := hB
   rw [hAs] at hdA
   rw [hBs] at hdB
   obtain ⟨dA1,dA2,dA⟩ := List.pairwise_append.1 hdA
   obtain ⟨dB1,dB2,dB⟩ := List.pairwise_append.1 hdB
   -- the first half is above the second one
   have ab : ∀ x ∈ A1,∀ y ∈ B2,y.value ≤ x.value := by
    refine all_ge dA1 dB2 ?_
    intro u v A' B' hu hv
    have hA1l : A1.length = A'.length + 1 := by rw [hu]; simp
    have hB2l : B2.length = B'.length + 1 := by rw [hv]; simp
    have h := q4 (by omega)
    have ea : P ++ (A ++ (B ++ S)) = (P ++ A') ++ u::(A2 ++ (B ++ S)) := by rw [hAs,hu]; simp
    have eb : P ++ (A ++ (B ++ S)) = (P ++ (A ++ B1)) ++ v::(B' ++ S) := by rw [hBs,hv]; simp
    have ga : (P ++ (A ++ (B ++ S))).getD (s - 1) k00 = u := by rw [ea,getD_at (by rw [List.length_append]; omega)]
    have gb : (P ++ (A ++ (B ++ S))).getD (mid + (P.length + A.length) - 1 - (s - 1)) k00 = v := by rw [eb,getD_at (by simp only [List.length_append]; omega)]
    rw [ga,gb] at h
    simp at h
    exact h
   have ba : ∀ x ∈ B1,∀ y ∈ A2,y.value ≤ x.value := by
    refine all_ge dB1 dA2 ?_
    intro u v B' A' hu hv
    have hB1l : B1.length = B'.length + 1 := by rw [hu]; simp
    have hA2l : A2.length = A'.length + 1 := by rw [hv]; simp
    have h := q5 (by omega)
    have ea : P ++ (A ++ (B ++ S)) = (P ++ A1) ++ v::(A' ++ (B ++ S)) := by rw [hAs,hv]; simp
    have eb : P ++ (A ++ (B ++ S)) = (P ++ (A ++ B')) ++ u::(B2 ++ S) := by rw [hBs,hu]; simp
    have ga : (P ++ (A ++ (B ++ S))).getD s k00 = v := by rw [ea,getD_at (by rw [List.length_append]; omega)]
    have gb : (P ++ (A ++ (B ++ S))).getD (mid + (P.length + A.length) - 1 - s) k00 = u := by rw [eb,getD_at (by simp only [List.length_append]; omega)]
    rw [ga,gb] at h
    simp at h
    omega
   -- behind the rotation
   have hj : ∀ D,D = P ++ (A1 ++ (B1 ++ (A2 ++ (B2 ++ S)))) → ∃ R,slices_symMergeCmpFunc_daily_kink_j43 N (slices_symMergeCmpFunc_daily_kink N) (P ++ (A ++ (B ++ S))) a m b (s : Int) D = some (P ++ (R ++ S)) ∧ Mg A B R := by
    rintro D rfl
    unfold slices_symMergeCmpFunc_daily_kink_j43
    rw [emid]
    have h1 : ∃ R1,Mg A1 B1 R1 ∧ cond ((decide (a < (s : Int))) && (decide ((s : Int) < (mid : Int)))) (Option.bind (slices_symMergeCmpFunc_daily_kink N (P ++ (A1 ++ (B1 ++ (A2 ++ (B2 ++ S))))) a (s : Int) (mid : Int)) fun r_3 =>
      slices_symMergeCmpFunc_daily_kink_j44 N (slices_symMergeCmpFunc_daily_kink N) (P ++ (A ++ (B ++ S))) a m b (s : Int) r_3)
      (slices_symMergeCmpFunc_daily_kink_j44 N (slices_symMergeCmpFunc_daily_kink N) (P ++ (A ++ (B ++ S))) a m b (s : Int) (P ++ (A1 ++ (B1 ++ (A2 ++ (B2 ++ S)))))) = slices_symMergeCmpFunc_daily_kink_j44 N (slices_symMergeCmpFunc_daily_kink N) (P ++ (A ++ (B ++ S))) a m b (s : Int) (P ++ (R1 ++ (A2 ++ (B2 ++ S)))) := by
     by_cases c1 : P.length < s
     ·by_cases c2 : s < mid
      ·obtain ⟨R1,t1,t2⟩ := sm_ok L N P A1 B1 (A2 ++ (B2 ++ S)) a (s : Int) (mid : Int) (by omega) (by simp only [List.length_append]; omega) (by omega) dA1 dB1 (by omega) (by omega) ha (by omega) (by omega)
       refine ⟨R1,t2,?_⟩
       rw [dT (by omega),dT (by omega),Bool.and_self,cond_true,t1,Option.bind_some]
      ·have hb0 : B1 = [] := List.eq_nil_of_length_eq_zero (by omega)
       refine ⟨A1,by rw [hb0]; exact Mg.nil_r dA1,?_⟩
       rw [dF (show ¬ ((s : Int) < (mid : Int)) by omega),Bool.and_false,cond_false,hb0]
       simp
     ·have hb0 : A1 = [] := List.eq_nil_of_length_eq_zero (by omega)
      refine ⟨B1,by rw [hb0]; exact Mg.nil_l dB1,?_⟩
      rw [dF (show ¬ (a < (s : Int)) by omega),Bool.false_and,cond_false,hb0]
      simp
    obtain ⟨R1,m1,h1⟩ := h1
    rw [h1]
    unfold slices_symMergeCmpFunc_daily_kink_j44
    rw [emid,en,eend]
    have hR1 : R1.length = A1.length + B1.length := by rw [m1.p.length_eq,List.length_append]
    have h2 : ∃ R2,Mg A2 B2 R2 ∧ cond ((decide ((mid : Int) < (en' : Int))) && (decide ((en' : Int) < b))) (Option.bind (slices_symMergeCmpFunc_daily_kink N (P ++ (R1 ++ (A2 ++ (B2 ++ S)))) (mid : Int) (en' : Int) b) fun r_2 => Option.bind (sameL r_2 (P ++ (A ++ (B ++ S)))) fun _ => some r_2)
      (Option.bind (sameL (P ++ (R1 ++ (A2 ++ (B2 ++ S)))) (P ++ (A ++ (B ++ S)))) fun _ => some (P ++ (R1 ++ (A2 ++ (B2 ++ S))))) = Option.bind (sameL (P ++ (R1 ++ (R2 ++ S))) (P ++ (A ++ (B ++ S)))) fun _ => some (P ++ (R1 ++ (R2 ++ S))) := by
     by_cases c1 : mid < en'
     ·by_cases c2 : en' < P.length + A.length + B.length
      ·obtain ⟨R2,t1,t2⟩ := sm_ok L N (P ++ R1) A2 B2 S (mid : Int) (en' : Int) b (by omega) (by simp only [List.length_append]; omega) (by omega) dA2 dB2 (by omega) (by omega) (by rw [List.length_append]; omega) (by rw [List.length_append]; omega) (by rw [List.length_append]; omega)
       refine ⟨R2,t2,?_⟩
       have ee : P ++ (R1 ++ (A2 ++ (B2 ++ S))) = P ++ R1 ++ (A2 ++ (B2 ++ S)) := by simp
       rw [dT (by omega),dT (by omega),Bool.and_self,cond_true,ee,t1,Option.bind_some]
       simp
      ·have hb0 : B2 = [] := List.eq_nil_of_length_eq_zero (by omega)
       refine ⟨A2,by rw [hb0]; exact Mg.nil_r dA2,?_⟩
       rw [dF (show ¬ ((en' : Int) < b) by omega),Bool.and_false,cond_false,hb0]
       simp
     ·have hb0 : A2 = [] := List.eq_nil_of_length_eq_zero (by omega)
      refine ⟨B2,by rw [hb0]; exact Mg.nil_l dB2,?_⟩
      rw [dF (show ¬ ((mid : Int) < (en' : Int)) by omega),Bool.false_and,cond_false,hb0]
      simp
    obtain ⟨R2,m2,h2⟩ := h2
    rw [h2]
    have hR2 : R2.length = A2.length + B2.length := by rw [m2.p.length_eq,List.length_append]
    refine ⟨R1 ++ R2,?_,?_,?_⟩
    ·unfold sameL
     rw [if_pos (by simp only [List.length_append]; omega),Option.bind_some]
     simp
    ·refine (m1.p.append m2.p).trans ?_
     rw [hAs,hBs]
     have : (A1 ++ B1 ++ (A2 ++ B2)).Perm (A1 ++ A2 ++ (B1 ++ B2)) := by
      rw [List.append_assoc,List.append_assoc]
      refine List.Perm.append_left A1 ?_
      rw [← List.append_assoc,← List.append_assoc]
      exact List.Perm.append_right B2 List.perm_append_comm
     exact this
    ·refine List.pairwise_append.2 ⟨m1.d,m2.d,?_⟩
     intro x hx y hy
     rcases List.mem_append.1 (m1.p.mem_iff.1 hx) with hx | hx
     ·rcases List.mem_append.1 (m2.p.mem_iff.1 hy) with hy | hy
      ·exact dA x hx y hy
      ·exact ab x hx y hy
     ·rcases List.mem_append.1 (m2.p.mem_iff.1 hy) with hy | hy
      ·exact ba x hx y hy
      ·exact dB x hx y hy
   by_cases c1 : s < P.length + A.length
   ·by_cases c2 : P.length + A.length < en'
    ·have hr := rotate_ok (N := N) (P := P ++ A1) (U := A2) (V := B1) (S := B2 ++ S) (a := (s : Int)) (m := m) (b := (en' : Int)) (by simp only [List.length_append]; omega) (by omega) (by omega) (by rw [List.length_append]; omega) (by rw [List.length_append]; omega) (by rw [List.length_append]; omega) (by omega)
     have ee : P ++ (A ++ (B ++ S)) = P ++ A1 ++ (A2 ++ (B1 ++ (B2 ++ S))) := by rw [hAs,hBs]; simp
     obtain ⟨R,t1,t2⟩ := hj _ rfl
     refine ⟨R,?_,t2⟩
     rw [dT (by omega),dT (by omega),Bool.and_self,cond_true]
     conv => lhs; arg 1; rw [ee]
     rw [hr,Option.bind_some,← t1]
     simp
    ·have hb0 : B1 = [] := List.eq_nil_of_length_eq_zero (by omega)
     obtain ⟨R,t1,t2⟩ := hj (P ++ (A ++ (B ++ S))) (by rw [hAs,hBs,hb0]; simp)
     refine ⟨R,?_,t2⟩
     rw [dF (show ¬ (m < (en' : Int)) by omega),Bool.and_false,cond_false,t1]
   ·have hb0 : A2 = [] := List.eq_nil_of_length_eq_zero (by omega)
    obtain ⟨R,t1,t2⟩ := hj (P ++ (A ++ (B ++ S))) (by rw [hAs,hBs,hb0]; simp)
    refine ⟨R,?_,t2⟩
    rw [dF (show ¬ ((s : Int) < m) by omega),Bool.false_and,cond_false,t1]
  rw [emid,en]
  by_cases hc : mid < P.length + A.length
  ·rw [dT (by omega),cond_true]
   exact key (mid + (P.length + A.length) - (P.length + A.length + B.length)) mid _ _ (by rw [W_sm (by omega) (by omega)]; omega) rfl (by omega) (by omega) (by omega) (by omega) (by omega) (.inr (by omega)) (.inr rfl)
  ·rw [dF (by omega),cond_false]
   exact key P.length (P.length + A.length) _ _ ha hm (by omega) (by omega) (by omega) (by omega) (by omega) (.inl rfl) (.inl rfl)

theorem stable_ok {N : Nat} (hN : 500 ≤ N) {l : List Kk} (hl : l.length ≤ 39) : ∃ R,slices_SortStableFunc_Ldaily_kink_daily_kink N l = some R ∧ R.Perm l ∧ Desc R := by
 have hlast : ∀ R : List Kk,R.Perm l → Desc R → slices_stableCmpFunc_daily_kink N l ((l.length : Nat) : Int) = some R → ∃ R,slices_SortStableFunc_Ldaily_kink_daily_kink N l = some R ∧ R.Perm l ∧ Desc R := by
  intro R h1 h2 h3
  refine ⟨R,?_,h1,h2⟩
  unfold slices_SortStableFunc_Ldaily_kink_daily_kink
  rw [h3,Option.bind_some]
  unfold sameL
  rw [if_pos h1.length_eq,Option.bind_some]
 obtain ⟨M,rfl⟩ : ∃ M,N = M + 3 := ⟨N - 3,by omega⟩
 by_cases h20 : l.length < 20
 ·obtain ⟨R,q1,q2,q3⟩ := ins_sort (N := M + 3) (P := []) (Q := l) (S := []) (by simp <;> omega) (by simp <;> omega)
  simp only [List.nil_append,List.append_nil,List.length_nil,Nat.zero_add] at q1
  refine hlast R q2 q3 ?_
  unfold slices_stableCmpFunc_daily_kink
  have hb : loopO (fun s4 => slices_stableCmpFunc_daily_kink_b4 (M + 3) ((l.length : Nat) : Int) s4.1 s4.2.1 s4.2.2) (M + 3) (l,0,20) = some (.go (l,0,20)) := by
   rw [loopO]
   unfold slices_stableCmpFunc_daily_kink_b4
   dsimp only
   rw [dF (by omega),cond_false]
  have e0 : (0 : Int) = ((0 : Nat) : Int) := rfl
  rw [hb,Option.bind_some,exK_at]
  dsimp only
  rw [e0,q1,Option.bind_some]
  have hb2 : loopO (fun s7 => slices_stableCmpFunc_daily_kink_b7 (M + 3) ((l.length : Nat) : Int) s7.1 s7.2) (M + 3) (R,20) = some (.go (R,20)) := by
   rw [loopO]
   unfold slices_stableCmpFunc_daily_kink_b7
   dsimp only
   rw [dF (by omega),cond_false]
  rw [hb2,Option.bind_some,exK_at]
  unfold sameL
  rw [if_pos q2.length_eq,Option.bind_some]
 ·obtain ⟨Q1,Q2,rfl,hQ1⟩ := split_at (A := l) (k := 20) (by omega)
  rw [List.length_append] at hl h20
  obtain ⟨R1,q1,q2,q3⟩ := ins_sort (N := M + 3) (P := []) (Q := Q1) (S := Q2) (by simp only [List.nil_append,List.length_append]; omega) (by simp only [List.length_nil]; omega)
  simp only [List.nil_append,List.length_nil,Nat.zero_add] at q1
  have hR1 : R1.length = 20 := by rw [q2.length_eq,hQ1]
  obtain ⟨R2,r1,r2,r3⟩ := ins_sort (N := M + 3) (P := R1) (Q := Q2) (S := []) (by simp only [List.append_nil,List.length_append]; omega) (by omega)
  simp only [List.append_nil] at r1
  have hR2 : R2.length = Q2.length := r2.length_eq
  have hb : loopO (fun s4 => slices_stableCmpFunc_daily_kink_b4 (M + 3) (((Q1 ++ Q2).length : Nat) : Int) s4.1 s4.2.1 s4.2.2) (M + 3) (Q1 ++ Q2,0,20) = some (.go (R1 ++ Q2,20,40)) := by
   have e0 : (0 : Int) = ((0 : Nat) : Int) := rfl
   have e20 : (20 : Int) = ((Q1.length : Nat) : Int) := by rw [hQ1]; rfl
   have hx : slices_insertionSortCmpFunc_daily_kink (M + 3) (Q1 ++ Q2) 0 20 = some (R1 ++ Q2) := by rw [e0,e20]; exact q1
   have ew : W ((20 : Int) + 20) = 40 := by rw [W_sm (by omega) (by omega)]; rfl
   have s1 : slices_stableCmpFunc_daily_kink_b4 (M + 3) (((Q1 ++ Q2).length : Nat) : Int) (Q1 ++ Q2) 0 20 = some (.cont (R1 ++ Q2,20,40)) := by
    unfold slices_stableCmpFunc_daily_kink_b4
    rw [dT (by rw [List.length_append]; omega),cond_true,hx,Option.bind_some,ew]
   have s2 : slices_stableCmpFunc_daily_kink_b4 (M + 3) (((Q1 ++ Q2).length : Nat) : Int) (R1 ++ Q2) 20 40 = some (.brk (R1 ++ Q2,20,40)) := by
    unfold slices_stableCmpFunc_daily_kink_b4
    rw [dF (by rw [List.length_append]; omega),cond_false]
   rw [loopO]
   dsimp only
   rw [s1]
   dsimp only
   rw [loopO]
   dsimp only
   rw [s2]
  have hins2 : slices_insertionSortCmpFunc_daily_kink (M + 3) (R1 ++ Q2) 20 (((Q1 ++ Q2).length : Nat) : Int) = some (R1 ++ R2) := by
   have e20 : (20 : Int) = ((R1.length : Nat) : Int) := by rw [hR1]; rfl
   have e3 : (Q1 ++ Q2).length = R1.length + Q2.length := by rw [List.length_append]; omega
   rw [e20,e3]; exact r1
  have hpp : (R1 ++ R2).Perm (Q1 ++ Q2) := q2.append r2
  -- the second loop
  have h2 : ∃ R,loopO (fun s7 => slices_stableCmpFunc_daily_kink_b7 (M + 3) (((Q1 ++ Q2).length : Nat) : Int) s7.1 s7.2) (M + 3) (R1 ++ R2,20) = some (.go (R,(if Q2.length = 0 then 20 else 40 : Int))) ∧ R.Perm (Q1 ++ Q2) ∧ Desc R := by
   by_cases h0 : Q2.length = 0
   ·have hn2 : R2 = [] := List.eq_nil_of_length_eq_zero (by omega)
    refine ⟨R1 ++ R2,?_,hpp,by rw [hn2]; simpa using q3⟩
    rw [if_pos h0,loopO]
    unfold slices_stableCmpFunc_daily_kink_b7
    dsimp only
    rw [dF (by rw [List.length_append]; omega),cond_false]
   ·obtain ⟨R,t1,t2⟩ := sm_ok 39 (M + 3) [] R1 R2 [] 0 20 (((Q1 ++ Q2).length : Nat) : Int) (by omega) (by simp only [List.nil_append,List.append_nil,List.length_append]; omega) (by omega) q3 r3 (by omega) (by omega) rfl (by rw [hR1]; rfl) (by rw [List.length_append]; simp only [List.length_nil]; omega)
    simp only [List.nil_append,List.append_nil] at t1
    refine ⟨R,?_,t2.p.trans hpp,t2.d⟩
    have e1 : W ((2 : Int) * 20) = 40 := by rw [W_sm (by omega) (by omega)]; rfl
    have e2 : W ((0 : Int) + 20) = 20 := by rw [W_sm (by omega) (by omega)]; rfl
    have e3 : W ((20 : Int) * 2) = 40 := by rw [W_sm (by omega) (by omega)]; rfl
    have s0 : loopO (fun s13 => slices_stableCmpFunc_daily_kink_b13 (M + 3) (((Q1 ++ Q2).length : Nat) : Int) 20 s13.1 s13.2.1 s13.2.2) (M + 3) (R1 ++ R2,0,40) = some (.go (R1 ++ R2,0,40)) := by
     rw [loopO]
     unfold slices_stableCmpFunc_daily_kink_b13
     dsimp only
     rw [dF (by rw [List.length_append]; omega),cond_false]
    have s1 : slices_stableCmpFunc_daily_kink_b7 (M + 3) (((Q1 ++ Q2).length : Nat) : Int) (R1 ++ R2) 20 = some (.cont (R,40)) := by
     unfold slices_stableCmpFunc_daily_kink_b7
     rw [dT (by rw [List.length_append]; omega),cond_true,e1,s0,Option.bind_some,exK_at]
     dsimp only
     rw [e2,dT (by rw [List.length_append]; omega),cond_true,t1,Option.bind_some]
     unfold slices_stableCmpFunc_daily_kink_j14
     rw [e3]
    have s2 : slices_stableCmpFunc_daily_kink_b7 (M + 3) (((Q1 ++ Q2).length : Nat) : Int) R 40 = some (.brk (R,40)) := by
     unfold slices_stableCmpFunc_daily_kink_b7
     rw [dF (by rw [List.length_append]; omega),cond_false]
    rw [if_neg h0,loopO]
    dsimp only
    rw [s1]
    dsimp only
    rw [loopO]
    dsimp only
    rw [s2]
  obtain ⟨R,t1,t2,t3⟩ := h2
  refine hlast R t2 t3 ?_
  unfold slices_stableCmpFunc_daily_kink
  rw [hb,Option.bind_some,exK_at]
  dsimp only
  rw [hins2,Option.bind_some,t1,Option.bind_some,exK_at]
  unfold sameL
  rw [if_pos t2.length_eq,Option.bind_some]
end Go.Nilo
