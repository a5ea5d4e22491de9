/-
  What the plain functions compute, in plain arithmetic, part 17. Conditions: what each theorem names.
-/
import Derived.Test.YtpfmkhhhamdpeaaGreatRuL16
import Derived.Deep.Slices
set_option linter.unusedSimpArgs false
set_option linter.unusedVariables false
namespace Go.Nilo
open Go.ChangeShapes Go.WideShapes Go.Deep
theorem aHa {α:Type} {Q:Nat→α→Prop}:∀ (n:Nat),(∀ i,i < n→∃ z,Q i z)→∃ l:List α,l.length=n∧∀ i (h:i < l.length),Q i l[i]
 | 0,_=>⟨[],rfl,fun i h=>absurd h (by simp)⟩
 | n + 1,hq=>by
  obtain ⟨l,hl,h⟩:=aHa n (fun i hi=>hq i (by omega))
  obtain ⟨z,hz⟩:=hq n (by omega)
  refine ⟨l++[z],by simp [hl],fun i hi=>?_⟩
  by_cases hin:i < l.length
  ·rw [List.getElem_append_left hin]
   exact h i hin
  ·have:i=l.length:=by simp at hi; omega
   subst this
   simp only [List.getElem_append_right (Nat.le_refl _),Nat.sub_self,List.getElem_cons_zero]
   rw [hl]
   exact hz
theorem aL4 {α:Type} {w:World} {a:Addr} {len cap sz:Nat} (en:α→List Value) (hen:∀ z,(en z).length=sz) (hs:0 < sz) (hl:len≤cap) (hm:cap≤maxLen) (l:List α) (hll:l.length=len)
  (hc:∀ i (h:i < l.length),∀ j,j < sz→w.cell? (a.add (i * sz + j))=(en l[i])[j]?):Rd (vR w) sz (some a) cap (l.map en):=by
 refine ⟨by simp; omega,hm,fun r hr=>by obtain ⟨z,-,rfl⟩:=List.mem_map.1 hr; exact hen z,?_⟩
 by_cases h0:l=[]
 ·left; subst h0; rfl
 ·right
  have hpos:0 < l.length:=List.length_pos_iff.2 h0
  obtain ⟨b,o,sp⟩:=a
  have hc0:=hc 0 hpos 0 hs
  have hlt:0 < (en l[0]).length:=by rw [hen]; exact hs
  obtain ⟨v,hv⟩:∃ v,(en l[0])[0]?=some v:=⟨_,List.getElem?_eq_getElem hlt⟩
  rw [hv] at hc0
  simp only [Addr.add,Nat.zero_mul,Nat.add_zero,if_pos] at hc0
  cases hb:w.heap[b]? with
  | none=>simp [World.cell?,hb] at hc0
  | some ob=>
   cases ob with
   | cells cur T fr=>
    cases sp with
    | some q=>simp [World.cell?,hb] at hc0
    | none=>
     refine ⟨b,o,rfl,cur,T,fr,hb,fun i r hi j u hu=>?_⟩
     rw [List.getElem?_map] at hi
     by_cases hil:i < l.length
     ·rw [List.getElem?_eq_getElem hil] at hi
      obtain rfl:=Option.some.inj hi
      have hj:j < sz:=by
       have:=(List.getElem?_eq_some_iff.1 hu).1
       rw [hen] at this
       exact this
      have hci:=hc i hil j hj
      rw [hu,Addr.add_lit] at hci
      simpa [World.cell?,hb,Nat.add_assoc] using hci
     ·rw [List.getElem?_eq_none (by omega)] at hi
      cases hi
   | _=>simp [World.cell?,hb] at hc0
theorem xB {α H:Type} {ec:TypeId × Value→H} {P:Program} {w:World} {base:Nat} {spare:Nat→Bool} {held:Bool} {t e sz fuel:Nat} {cs:List Value} {x:DataW H × List MemPlace} (en:α→List Value) (hen:∀ z,(en z).length=sz) (hs:0 < sz)
  (ht:P.underlying t=some (.slice e)) (hC:P.cellsOf e=sz) (hel:∀ n cs' y,DataW.trod ec P w base spare held n e cs'=some y→∃ z:α,cs'=en z) (h:DataW.trod ec P w base spare held fuel t cs=some x) :
  ∃ (a:Option Addr) (cap:Nat) (l:List α),cs=[.slice a l.length cap]∧Rd (vR w) sz a cap (l.map en):=by
 rcases open_slice ht h with ⟨rfl,-⟩ | ⟨a,len,cap,m,n,D,Pl,rfl,-,hl,hm,hmm,-,hi⟩
 ·exact ⟨none,0,[],rfl,by simp,by decide,by simp,.inl rfl⟩
 ·have hml:len≤m:=by rw [hmm]; split <;> omega
  obtain ⟨l,hll,hlq⟩:=aHa (Q:=fun i z=>w.cells? base (a.add (i * sz)) sz=some (en z)) len (fun i hil=>by
   obtain ⟨cs',h1,h2⟩:=hi i (by omega)
   obtain ⟨z,rfl⟩:=hel _ _ _ h2
   rw [hC] at h1
   exact ⟨z,h1⟩)
  refine ⟨some a,cap,l,by rw [hll],aL4 en hen hs hl hm l hll fun i hil j hj=>?_⟩
  obtain ⟨_,_,hat⟩:=World.cells?_some (hlq i hil)
  rw [← add_add]
  exact hat j hj
theorem aD4 {α:Type} {l:List α} (h:l.length=2):∃ c0 c1,l=[c0,c1]:=by
 match l,h with
 | [c0,c1],_=>exact ⟨c0,c1,rfl⟩
theorem arr2 {α:Type} {l:Array α} (h:l.size=2):∃ c0 c1,l=#[c0,c1]:=by
 obtain ⟨l⟩:=l
 obtain ⟨c0,c1,rfl⟩:=aD4 (l:=l) h
 exact ⟨c0,c1,rfl⟩
end Go.Nilo
