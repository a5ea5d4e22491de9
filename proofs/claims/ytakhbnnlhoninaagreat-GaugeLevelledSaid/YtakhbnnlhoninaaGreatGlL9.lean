/-
  What the plain functions compute, in plain arithmetic, part 9. Conditions: what each theorem names.
-/
import Derived.Test.YtakhbnnlhoninaaGreatGlL8
set_option linter.unusedSimpArgs false
set_option linter.unusedVariables false
namespace Go.Nilo
structure Sub (a b : api_Span) : Prop where
 l : b.Lo ≤ a.Lo
 m : a.Lo ≤ a.Hi
 h : a.Hi ≤ b.Hi
theorem Sub.lo {a b : api_Span} (h : Sub a b) : In a.Lo b := ⟨h.l,Int.le_trans h.m h.h⟩
theorem Sub.hi {a b : api_Span} (h : Sub a b) : In a.Hi b := ⟨Int.le_trans h.l h.m,h.h⟩
theorem Sub.refl {a : api_Span} (h : a.Lo ≤ a.Hi) : Sub a a := ⟨Int.le_refl _,h,Int.le_refl _⟩
theorem Sub.trans {a b c : api_Span} (h : Sub a b) (h' : Sub b c) : Sub a c := ⟨Int.le_trans h'.l h.l,h.m,Int.le_trans h.h h'.h⟩
theorem Sub.spn {a b : api_Span} {A : Nat} (h : Sub a b) (hb : Spn b A) : Spn a A := by
 obtain ⟨l,m,h'⟩ := h
 obtain ⟨x,y,z⟩ := hb
 exact ⟨m,by omega,by omega⟩
theorem times_sub {a b a' b' : api_Span} (ha : Sub a' a) (hb : Sub b' b) : Sub ⟨mn a' b',mx a' b'⟩ ⟨mn a b,mx a b⟩ := by
 have h1 := in_times ha.lo hb.lo
 have h2 := in_times ha.lo hb.hi
 have h3 := in_times ha.hi hb.lo
 have h4 := in_times ha.hi hb.hi
 have e1 : mn a' b' = min (min (min (a'.Lo * b'.Lo) (a'.Lo * b'.Hi)) (a'.Hi * b'.Lo)) (a'.Hi * b'.Hi) := rfl
 have e2 : mx a' b' = max (max (max (a'.Lo * b'.Lo) (a'.Lo * b'.Hi)) (a'.Hi * b'.Lo)) (a'.Hi * b'.Hi) := rfl
 refine ⟨?_,?_,?_⟩ <;> dsimp only <;> omega
theorem pan_sub {v v' : gauge_Vertical} {w : Int} (hd : Sub v'.Depth v.Depth) (hs : Sub v'.Speed v.Speed) : Sub (pan v' w) (pan v w) := by
 have h1 := times_sub (a := ⟨w,w⟩) (Sub.refl (Int.le_refl _)) hd
 exact times_sub h1 hs
structure LegSub (g' g : gauge_Leg) : Prop where
 x : Sub g'.X g.X
 y : Sub g'.Y g.Y
 d : Sub g'.Depth g.Depth
 e : Sub g'.East g.East
 n : Sub g'.North g.North
theorem LegSub.ok {g g' : gauge_Leg} (h : LegSub g' g) (hg : LegOk g) : LegOk g' :=
 ⟨h.x.spn hg.x,h.y.spn hg.y,h.d.spn hg.d,Int.le_trans hg.d0 h.d.l,h.e.spn hg.e,h.n.spn hg.n⟩

structure FInv (vs xs : List gauge_Vertical) : Prop where
 l : xs.length = vs.length
 v : ∀ j,j < vs.length → (xs.getD j v0).At = (vs.getD j v0).At ∧ Sub (xs.getD j v0).Depth (vs.getD j v0).Depth ∧ Sub (xs.getD j v0).Speed (vs.getD j v0).Speed
theorem getD_set {α : Type} {l : List α} {i j : Nat} {x d : α} (hi : i < l.length) : (l.set i x).getD j d = if j = i then x else l.getD j d := by
 by_cases h : j = i
 ·subst h; simp [List.getD,hi]
 ·rw [if_neg h]; simp [List.getD,Ne.symm h]
theorem FInv.set {vs xs : List gauge_Vertical} (h : FInv vs xs) {i : Nat} (hi : i < vs.length) {v : gauge_Vertical} (ha : v.At = (vs.getD i v0).At) (hd : Sub v.Depth (vs.getD i v0).Depth) (hs : Sub v.Speed (vs.getD i v0).Speed) : FInv vs (xs.set i v) := by
 refine ⟨by simp [h.l],fun j hj => ?_⟩
 rw [getD_set (by rw [h.l]; exact hi)]
 split
 ·rename_i e; subst e; exact ⟨ha,hd,hs⟩
 ·exact h.v j hj

theorem fine_wd {g : gauge_Gauging} {xs : List gauge_Vertical} (hI : FInv g.Verticals xs) {i : Nat} (hi : i < g.Verticals.length) : wd ⟨g.Left,g.Right,xs⟩ i = wd g i := by
 have hl := hI.l
 have hat : ∀ j,j < g.Verticals.length → ∀ h1 : j < xs.length,∀ h2 : j < g.Verticals.length,(xs[j]'h1).At = (g.Verticals[j]'h2).At := by
  intro j hj h1 h2
  rw [get_getD (d := v0) h1,get_getD (d := v0) h2]
  exact (hI.v j hj).1
 unfold wd
 dsimp only
 by_cases h1 : i + 1 < g.Verticals.length
 ·rw [dif_pos h1,dif_pos (show i + 1 < xs.length by omega),hat (i + 1) h1]
  by_cases h2 : 0 < i ∧ i - 1 < g.Verticals.length
  ·rw [dif_pos h2,dif_pos (show 0 < i ∧ i - 1 < xs.length by omega),hat (i - 1) h2.2]
  ·rw [dif_neg h2,dif_neg (show ¬ (0 < i ∧ i - 1 < xs.length) by omega)]
 ·rw [dif_neg h1,dif_neg (show ¬ i + 1 < xs.length by omega)]
  by_cases h2 : 0 < i ∧ i - 1 < g.Verticals.length
  ·rw [dif_pos h2,dif_pos (show 0 < i ∧ i - 1 < xs.length by omega),hat (i - 1) h2.2]
  ·rw [dif_neg h2,dif_neg (show ¬ (0 < i ∧ i - 1 < xs.length) by omega)]
theorem fine_pan {g : gauge_Gauging} {xs : List gauge_Vertical} (hI : FInv g.Verticals xs) {i : Nat} (hi : i < g.Verticals.length) : Sub (panI ⟨g.Left,g.Right,xs⟩ i) (panI g i) := by
 unfold panI
 rw [fine_wd hI hi]
 obtain ⟨-,p2,p3⟩ := hI.v i hi
 exact pan_sub p2 p3

theorem sumBy_le {α : Type} {f g : α → Int} {l : List α} (h : ∀ x ∈ l,f x ≤ g x) : sumBy f l ≤ sumBy g l := by
 unfold sumBy
 induction l with
 | nil => simp
 | cons x l ih =>
  have h1 := h x List.mem_cons_self
  have h2 := ih (fun y hy => h y (List.mem_cons_of_mem _ hy))
  simp only [List.map_cons,List.sum_cons]
  omega
theorem flow_sub {g : gauge_Gauging} {xs : List gauge_Vertical} (hI : FInv g.Verticals xs) :
  sumBy (·.Lo) (pans g) ≤ sumBy (·.Lo) (pans ⟨g.Left,g.Right,xs⟩) ∧ sumBy (·.Hi) (pans ⟨g.Left,g.Right,xs⟩) ≤ sumBy (·.Hi) (pans g) := by
 have hl := hI.l
 unfold pans
 dsimp only
 rw [hl,sumBy_map,sumBy_map,sumBy_map,sumBy_map]
 exact ⟨sumBy_le fun i hi => (fine_pan hI (List.mem_range.1 hi)).l,sumBy_le fun i hi => (fine_pan hI (List.mem_range.1 hi)).h⟩

theorem real_in_flow {g : gauge_Gauging} {ds ss : List Int} (ht : TrueOf g ds ss) : sumBy (·.Lo) (pans g) ≤ realSum g ds ss g.Verticals.length ∧ realSum g ds ss g.Verticals.length ≤ sumBy (·.Hi) (pans g) := real_in ht _ (Nat.le_refl _)

end Go.Nilo
