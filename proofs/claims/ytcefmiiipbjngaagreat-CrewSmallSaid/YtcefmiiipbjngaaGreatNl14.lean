/-
  Short words for generated texts. Conditions: none.
-/
import Derived.Test.YtcefmiiipbjngaaGreatNl13
set_option linter.unusedSimpArgs false
set_option linter.unusedVariables false
namespace Go.Nilo
theorem qq {α β:Type} {x:α} {y:β}:x=x∧y=y:=⟨rfl,rfl⟩
def okB (i d q:Nat):Nat→List Fa→Bool
 | _,[]=>true
 | k,f::F=>(bif f.pos == some i then Nat.beq k q && Nat.beq f.d d else bif f.neg == some i then true else !Nat.beq f.d d) && okB i d q (k + 1) F
theorem aMw {i d q:Nat}:∀ {k:Nat} {F:List Fa},okB i d q k F=true→∀ j f,F[j]?=some f→(f.pos=some i∧k + j=q∧f.d=d) ∨ f.neg=some i ∨ (f.d ≠ d∧f.pos ≠ some i)
 | k,[],_,j,f,h=>by simp at h
 | k,g::F,ho,j,f,h=>by
  simp only [okB,Bool.and_eq_true] at ho
  obtain ⟨h1,h2⟩:=ho
  cases j with
  | zero=>
   simp at h
   subst h
   by_cases hp:g.pos=some i
   ·simp [hp] at h1
    exact .inl ⟨hp,by omega,h1.2⟩
   ·by_cases hn:g.neg=some i
    ·exact .inr (.inl hn)
    ·simp [hp,hn] at h1
     exact .inr (.inr ⟨λe=>by rw [e] at h1; simp at h1,hp⟩)
  | succ j=>
   rcases aMw h2 j f (by simpa using h) with ⟨a,b,c⟩ | h | h
   ·exact .inl ⟨a,by omega,c⟩
   ·exact .inr (.inl h)
   ·exact .inr (.inr h)
theorem iW.put0 {N:Fm} {a a':Act} {E:Nat→Bool} {F:List Fa} {L:List (Nat × Value)} {i d:Nat} {u v:Value} {ds:List Deferred} (h:iW N a E F) (hi:E i=false)
  (ha:a'={ a with defers:=ds }.put (some d) u) (hf:Has N a' L) (hl:kH L d=some v) (q:Nat) (hq:(F[q]?).map (·.v)=some v) (ok:okB i d q 0 F=true):iW N a' (yA E i) F:=by
 refine ⟨hf.size,hf.defers,λf hfm hon=>?_⟩
 have hgd:=hf.get d v hl
 obtain ⟨j,hj⟩:=List.mem_iff_getElem?.1 hfm
 rcases aMw ok j f hj with ⟨h1,h2,h3⟩ | hn | ⟨hd,hp⟩
 ·obtain rfl:j=q:=by omega
  rw [hj] at hq
  simp at hq
  rw [h3,hq]
  exact hgd
 ·have:=hon.2 i hn
  rw [bE] at this
  cases this
 ·have h1:=h.get f hfm (aGn hi hon hp)
  rw [ha]
  simp only [Act.put,Array.getElem?_setIfInBounds_ne (Ne.symm hd)]
  exact h1
def okC (i:Nat):List Fa→Bool
 | []=>true
 | f::F=>!(f.pos == some i) && okC i F
theorem aM8 {i:Nat}:∀ {F:List Fa},okC i F=true→∀ f ∈ F,f.pos ≠ some i
 | [],_,f,h=>by cases h
 | g::F,ho,f,h=>by
  simp only [okC,Bool.and_eq_true] at ho
  rcases List.mem_cons.1 h with rfl | h
  ·intro e; rw [e] at ho; simp at ho
  ·exact aM8 ho.2 f h
theorem iW.stay0 {N:Fm} {a a':Act} {E:Nat→Bool} {F:List Fa} {L:List (Nat × Value)} {i:Nat} {u:Value} {ds:List Deferred} (h:iW N a E F) (hi:E i=false)
  (ha:a'={ a with defers:=ds }.put Option.none u) (hf:Has N a' L) (ok:okC i F=true):iW N a' (yA E i) F:=by
 refine ⟨hf.size,hf.defers,λf hfm hon=>?_⟩
 rw [ha]
 exact h.get f hfm (aGn hi hon (aM8 ok f hfm))
theorem eD {E:Nat→Bool} (i:Nat) {j:Nat} (h:E j=true):yA E i j=true:=aFz h
theorem cR {E:Nat→Bool} (i:Nat) {j:Nat} (h:E j=false) (hb:Nat.beq j i=false):yA E i j=false:=by
 rw [zO (λe=>by rw [e] at hb; simp at hb)]
 exact h
end Go.Nilo
