/-
  What the plain functions compute, in plain arithmetic, part 3. Conditions: what each theorem names.
-/
import Derived.Test.YtakhbnnlhoninaaGreatGlL2
set_option linter.unusedSimpArgs false
set_option linter.unusedVariables false
namespace Go.Nilo
theorem loopInv {σ ρ : Type} (b : σ → Option (Step σ ρ)) (Inv : Nat → σ → Prop) (n : Nat) (hstep : ∀ i s,i < n → Inv i s → ∃ s',b s = some (.cont s') ∧ Inv (i + 1) s') (hend : ∀ s,Inv n s → b s = some (.brk s)) :
  ∀ (m i : Nat) (s : σ) (N : Nat),i + m = n → m < N → Inv i s → ∃ s',loopO b N s = some (.go s') ∧ Inv n s'
 | m,i,s,0,_,h,_ => by omega
 | 0,i,s,N + 1,hi,_,hs => by
  obtain rfl : i = n := by omega
  exact ⟨s,by unfold loopO; rw [hend s hs],hs⟩
 | m + 1,i,s,N + 1,hi,hN,hs => by
  obtain ⟨s',h1,h2⟩ := hstep i s (by omega) hs
  obtain ⟨s'',h3,h4⟩ := loopInv b Inv n hstep hend m (i + 1) s' N (by omega) (by omega) h2
  exact ⟨s'',by unfold loopO; rw [h1]; exact h3,h4⟩

theorem getI_nat {α : Type} {l : List α} {i : Nat} (h : i < l.length) : getI l (i : Int) = some l[i] := by unfold getI; simp [h]
theorem W_succ {i : Nat} (h : i < 9223372036854775807) : W ((i : Int) + 1) = ((i + 1 : Nat) : Int) := by rw [W_id (by omega) (by omega)]; push_cast; rfl

def sumBy {α : Type} (f : α → Int) (l : List α) : Int := (l.map f).sum
theorem sumBy_take {α : Type} (f : α → Int) (l : List α) (i : Nat) (h : i < l.length) : sumBy f (l.take (i + 1)) = sumBy f (l.take i) + f l[i] := by
 unfold sumBy
 rw [List.take_succ_eq_append_getElem h,List.map_append,List.sum_append,List.map_cons,List.map_nil,List.sum_cons,List.sum_nil,Int.add_zero]

theorem absmul {x y : Int} {A B : Nat} (hx : x.natAbs ≤ A) (hy : y.natAbs ≤ B) : (x * y).natAbs ≤ A * B := by
 rw [Int.natAbs_mul]
 exact Nat.mul_le_mul hx hy

def mn (a b : api_Span) : Int := min (min (min (a.Lo * b.Lo) (a.Lo * b.Hi)) (a.Hi * b.Lo)) (a.Hi * b.Hi)
def mx (a b : api_Span) : Int := max (max (max (a.Lo * b.Lo) (a.Lo * b.Hi)) (a.Hi * b.Lo)) (a.Hi * b.Hi)
structure Spn (s : api_Span) (A : Nat) : Prop where
 le : s.Lo ≤ s.Hi
 lo : s.Lo.natAbs ≤ A
 hi : s.Hi.natAbs ≤ A
theorem mn_le {a b : api_Span} {A B : Nat} (ha : Spn a A) (hb : Spn b B) : (mn a b).natAbs ≤ A * B ∧ (mx a b).natAbs ≤ A * B ∧ mn a b ≤ mx a b := by
 have h1 := absmul ha.lo hb.lo
 have h2 := absmul ha.lo hb.hi
 have h3 := absmul ha.hi hb.lo
 have h4 := absmul ha.hi hb.hi
 unfold mn mx
 omega
structure LegOk (g : gauge_Leg) : Prop where
 x : Spn g.X 10000
 y : Spn g.Y 10000
 d : Spn g.Depth 2000
 d0 : 0 ≤ g.Depth.Lo
 e : Spn g.East 5000
 n : Spn g.North 5000
theorem LegOk.every {g : gauge_Leg} (h : LegOk g) : gauge_every_gauge_Leg_1 g = false := by
 obtain ⟨⟨x1,x2,x3⟩,⟨y1,y2,y3⟩,⟨d1,d2,d3⟩,d0,⟨e1,e2,e3⟩,⟨n1,n2,n3⟩⟩ := h
 unfold gauge_every_gauge_Leg_1 gauge_Cross_1 gauge_right gauge_in
 simp; omega
end Go.Nilo
