/-
  What the plain functions compute, in plain arithmetic, part 10. Conditions: what each theorem names.
-/
import Derived.Test.YtakhbnnlhoninadSsL9
set_option linter.unusedSimpArgs false
set_option linter.unusedVariables false
namespace Go.Nilo
def move : List Int → Int
 | x::y::l => ap x y + move (y::l)
 | [_] => 0
 | [] => 0
def Crs : List api_Span → List Int → Prop
 | s::l,x::c => s.Lo ≤ x ∧ x ≤ s.Hi ∧ Crs l c
 | [],[] => True
 | _,_ => False
theorem ap_nonneg (x y : Int) : 0 ≤ ap x y := by unfold ap; omega
theorem ap_comm (x y : Int) : ap x y = ap y x := by unfold ap; omega
theorem move_nonneg : ∀ c,0 ≤ move c
 | [] => Int.le_refl _
 | [_] => Int.le_refl _
 | x::y::l => by
  have := move_nonneg (y::l)
  have := ap_nonneg x y
  unfold move
  omega
theorem Crs.len : ∀ {l c},Crs l c → c.length = l.length
 | [],[],_ => rfl
 | s::l,x::c,h => by simp [Crs.len h.2.2]
 | [],_::_,h => h.elim
 | _::_,[],h => h.elim
theorem Crs.app : ∀ {l c l' c'},Crs l c → Crs l' c' → Crs (l ++ l') (c ++ c')
 | [],[],_,_,_,h => h
 | s::l,x::c,_,_,h,h' => ⟨h.1,h.2.1,Crs.app h.2.2 h'⟩
 | [],_::_,_,_,h,_ => h.elim
 | _::_,[],_,_,h,_ => h.elim
theorem Crs.rev : ∀ {l c},Crs l c → Crs l.reverse c.reverse
 | [],[],_ => trivial
 | s::l,x::c,h => by
  rw [List.reverse_cons,List.reverse_cons]
  exact Crs.app (Crs.rev h.2.2) ⟨h.1,h.2.1,trivial⟩
 | [],_::_,h => h.elim
 | _::_,[],h => h.elim
theorem Crs.take : ∀ {l c},Crs l c → ∀ i,Crs (l.take i) (c.take i)
 | [],[],_,_ => by simp [Crs]
 | s::l,x::c,h,0 => by simp [Crs]
 | s::l,x::c,h,i + 1 => ⟨h.1,h.2.1,Crs.take h.2.2 i⟩
 | [],_::_,h,_ => h.elim
 | _::_,[],h,_ => h.elim
theorem Crs.drop : ∀ {l c},Crs l c → ∀ i,Crs (l.drop i) (c.drop i)
 | [],[],_,_ => by simp [Crs]
 | s::l,x::c,h,0 => h
 | s::l,x::c,h,i + 1 => Crs.drop h.2.2 i
 | [],_::_,h,_ => h.elim
 | _::_,[],h,_ => h.elim
theorem Crs.at_ : ∀ {l c},Crs l c → ∀ i,i < l.length → (l.getD i s00).Lo ≤ c.getD i 0 ∧ c.getD i 0 ≤ (l.getD i s00).Hi
 | s::l,x::c,h,0,_ => ⟨h.1,h.2.1⟩
 | s::l,x::c,h,i + 1,hi => by
  have := Crs.at_ h.2.2 i (by simpa using hi)
  simpa using this
 | [],[],_,_,hi => by simp at hi
 | [],_::_,h,_,_ => h.elim
 | _::_,[],h,_,_ => h.elim
theorem Crs.of : ∀ {l : List api_Span} {c : List Int},c.length = l.length → (∀ i,i < l.length → (l.getD i s00).Lo ≤ c.getD i 0 ∧ c.getD i 0 ≤ (l.getD i s00).Hi) → Crs l c
 | [],[],_,_ => trivial
 | s::l,x::c,h,hh => by
  have h0 := hh 0 (by simp)
  refine ⟨by simpa using h0.1,by simpa using h0.2,Crs.of (by simpa using h) fun i hi => ?_⟩
  have := hh (i + 1) (by simpa using hi)
  simpa using this
 | [],_::_,h,_ => by simp at h
 | _::_,[],h,_ => by simp at h
theorem restF_le : ∀ (l : List api_Span) (s : api_Span) (x : Int) (c : List Int),Crs (s::l) (x::c) → restF (s::l) x ≤ move (x::c)
 | [],s,x,[],h => Int.le_refl _
 | t::l,s,x,y::c,h => by
  have ih := restF_le l t y c h.2.2
  have ht := h.2.2
  unfold restF move
  have := minN_le (fun y => ap x y + restF (t::l) y) t.Lo (t.Hi - t.Lo).toNat y ht.1 (by have := ht.2.1; have := ht.1; omega)
  omega
 | [],s,x,_::_,h => h.2.2.elim
 | _::_,s,x,[],h => h.2.2.elim
theorem drop_cons {l : List api_Span} {i : Nat} (h : i < l.length) : l.drop i = l.getD i s00::l.drop (i + 1) := by rw [List.drop_eq_getElem_cons h,get_getD (d := s00) h]
theorem cspan_spec {l : List api_Span} (h : VL l) {most : Int} {i : Nat} (hi : i < l.length) :
  (spanOk (cspan l most i) = true ∧ canP l most i (cspan l most i).Lo = true ∧ canP l most i (cspan l most i).Hi = true ∧ ∀ x,canP l most i x = true → (cspan l most i).Lo ≤ x ∧ x ≤ (cspan l most i).Hi) ∨
  (spanOk (cspan l most i) = false ∧ ∀ x,canP l most i x = false) := by
 have hs := h.at_ hi
 have hin : ∀ x,canP l most i x = true → -300 ≤ x ∧ x ≤ 300 := fun x hx => by
  unfold canP at hx
  rw [Bool.and_eq_true,decide_eq_true_eq] at hx
  unfold SOkS at hs
  omega
 rcases spanN_spec (canP l most i) 601 with ⟨a,b,c,d,e,f⟩ | ⟨a,b,c⟩
 ·left
  refine ⟨dT a,b,c,fun x hx => ?_⟩
  have := hin x hx
  exact f x this.1 (by omega) hx
 ·right
  refine ⟨?_,fun x => ?_⟩
  ·unfold spanOk cspan
   simp only [a,b]
   rfl
  ·cases hx : canP l most i x with
   | false => rfl
   | true =>
    have := hin x hx
    rw [c x this.1 (by omega)] at hx
    cases hx
theorem canF_len {l : List api_Span} {most : Int} : (canF l most).length = l.length := by simp [canF]
theorem canF_get {l : List api_Span} {most : Int} {i : Nat} (hi : i < l.length) : (canF l most).getD i s00 = cspan l most i := by simp [canF,List.getD,hi]
end Go.Nilo
