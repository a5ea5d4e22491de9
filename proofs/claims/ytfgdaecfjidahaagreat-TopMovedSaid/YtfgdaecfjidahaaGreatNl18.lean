/-
  Arrays as elements of slices, whole arrays that are read, stored and cleared. Conditions: what each theorem names.
-/
import Derived.Test.YtfgdaecfjidahaaGreatNl17
set_option linter.unusedSimpArgs false
set_option linter.unusedVariables false
namespace Go.Nilo
theorem aIb {α:Type} {enc:α→List Value} {sz:Nat} (h:∀ x,(enc x).length=sz∧nW (enc x)=true) (f:Nat→α):∀ n,nW (arr n enc f)=true
 | 0=>by simp [arr,nW]
 | n + 1=>by
  have ih:=aIb h f n
  have h2:=(h (f n)).2
  simp only [nW] at ih h2 ⊢
  rw [pR,List.all_append,ih,h2]
  rfl
theorem aF7 {α:Type} {enc:α→List Value} {sz:Nat} (h:∀ x,(enc x).length=sz∧nW (enc x)=true) (n:Nat) (f:Nat→α):(aN [] n enc f []).length=n * sz∧nW (aN [] n enc f [])=true:=by
 refine ⟨by simp [aN,lL (fun x=>(h x).1)],?_⟩
 have:=aIb h f n
 simpa [aN] using this
theorem aC4 {α:Type} {l:List α} {n:Nat} (h:l.length=n):(l.drop 0).take n=l:=by
 subst h
 simp
theorem splW {cs vs:List Value} (h:cs.length=vs.length):spl cs 0 vs=vs:=by
 have:∀ (vs cs A:List Value),cs.length=vs.length→spl (A++cs) A.length vs=A++vs:=by
  intro vs
  induction vs with
  | nil=>
   intro cs A h
   have:cs=[]:=List.eq_nil_of_length_eq_zero h
   subst this
   simp [xG]
  | cons v vs ih=>
   intro cs A h
   cases cs with
   | nil=>simp at h
   | cons c cs=>
    rw [tA v vs _ _ (by simp)]
    have e:(A++c::cs).set A.length v=(A++[v])++cs:=by
     rw [List.set_append]
     simp
    have:=ih cs (A++[v]) (by simpa using h)
    rw [e]
    simp only [List.length_append,List.length_cons,List.length_nil,Nat.zero_add] at this
    rw [this]
    simp
 have:=this vs cs [] h
 simpa using this
theorem aLt {α:Type} {G:aU} {cap n sz:Nat} {m:Nat} {g:Nat} {enc:α→List Value} {xs:List (Nat→α)} {i:Int} {f:Nat→α} (h:Rd G m (some ⟨g,0,none⟩) cap (xs.map fun f=>aN [] n enc f [])) (hm:n * sz=m) (hz:∀ x,(enc x).length=sz) (hn:Nat.ble n 1000000=true) (hi:bQ xs i=some f) :
  Rd G sz (some ⟨g,i.toNat * m,none⟩) n ((aL n f).map enc):=by
 obtain ⟨h0,hx⟩:=jQ hi
 have hn':n≤1000000:=Nat.le_of_ble_eq_true hn
 obtain ⟨a1,a2,a3,a4⟩:=h
 refine ⟨by simp [aL],by simp only [maxLen]; omega,?_,?_⟩
 ·intro r hr
  obtain ⟨x,-,rfl⟩:=List.mem_map.1 hr
  exact hz x
 ·rcases a4 with a4 | ⟨b,o,hp,cur,T,fr,hg,hr⟩
  ·have:xs=[]:=by simpa using a4
   subst this
   simp at hx
  ·simp only [Option.some.injEq,Addr.mk.injEq,and_true] at hp
   obtain ⟨rfl,rfl⟩:=hp
   refine .inr ⟨g,_,rfl,cur,T,fr,hg,?_⟩
   intro k r hk j u hu
   have hkn:k < n:=by
    have:=(List.getElem?_eq_some_iff.1 hk).1
    simpa [aL] using this
   have hre:r=enc (f k):=by
    simp [aL,hkn] at hk
    exact hk.symm
   subst hre
   have hj:j < sz:=by
    rw [← hz (f k)]
    exact (List.getElem?_eq_some_iff.1 hu).1
   have h1:=aAr (enc:=enc) hz f hj n hkn
   have h2:=hr i.toNat (aN [] n enc f []) (by simp [hx]) (k * sz + j) u (by simp only [aN,List.nil_append,List.append_nil]; rw [h1,hu])
   rw [Nat.zero_add] at h2
   rw [Nat.add_assoc]
   exact h2

theorem yT {α:Type} {enc:α→List Value} {x:α} {v:Value} (h:enc x=[v]):∀ n,(Builtin.zeroCells #[v] n).toList=arr n enc (fun _=>x)
 | 0=>by simp [Builtin.zeroCells,arr]
 | n + 1=>by
  have ih:=yT h n
  rw [pR,← ih,h]
  simp [Builtin.zeroCells,Array.range_succ,Nat.mod_one]
section steps
variable {P:Program} {ops:Array Oper} {Q:Exit→Act→World→Prop} {rest:List Oper} {a:Act} {w:World} {N:Fm} {d:Nat} {F:List (Nat × Value)} {G:aU} {L L':List Ent}
 {ty:TypeId} {pos:String} {aft:Array Edge} {gd:Option (Nat × Bool)} {x y:Operand} {T:TypeId}
theorem aJg {P:Program} {e:TypeId} {z:Value} (h:(P.info? e).map (·.zero)=some (some z)) (w:World):(zeroValue e).run P w=.ok z w:=by
 cases hi:P.info? e with
 | none=>simp [hi] at h
 | some i=>
  have hz:i.zero=some z:=by simpa [hi] using h
  simp [zeroValue,typeInfo,hi,hz]
end steps
end Go.Nilo
