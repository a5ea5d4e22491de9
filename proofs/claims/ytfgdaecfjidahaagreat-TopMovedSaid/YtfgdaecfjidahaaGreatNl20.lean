/-
  Arrays as elements of slices: whole elements stored, arrays cleared. Conditions: what each theorem names.
-/
import Derived.Test.YtfgdaecfjidahaaGreatNl19
set_option linter.unusedSimpArgs false
set_option linter.unusedVariables false
namespace Go.Nilo
theorem aJ6 {α:Type} {n:Nat} {f:Nat→α} {lo hi:Int} {v:List α} (h:rO (aL n f) lo hi=some v) (h0:lo=0) (hh:hi=(n:Int)):v.length=n:=by
 obtain ⟨-,-,-,-,h5⟩:=vV h
 subst h0
 subst hh
 simpa using h5
theorem subP0 {b n o sz:Nat}:uI (some ⟨b,o,none⟩) n (0:Int).toNat sz=some ⟨b,o,none⟩:=by
 unfold uI
 split
 ·rfl
 ·simp [Addr.add]
section steps
variable {P:Program} {ops:Array Oper} {Q:Exit→Act→World→Prop} {rest:List Oper} {a:Act} {w:World} {N:Fm} {d:Nat} {F:List (Nat × Value)} {G:aU} {L L':List Ent}
 {ty:TypeId} {pos:String} {aft:Array Edge} {gd:Option (Nat × Bool)} {x y:Operand} {T:TypeId}
theorem stClN {α:Type} {b n T0 e c m:Nat} {p:Option Addr} {enc:α→List Value} {f:Nat→α} {x0:α} {v:Value} (hf:Has N a F) (hc:Ctx G L w) (hg:nX ops F ⟨none,.call { callee:=.builtin .clear,args:=#[x],argTypes:=#[T] },ty,pos,aft,gd⟩=some true)
  (hT:P.underlying T=some (.slice e)) (hz:(P.info? e).map (·.zero)=some (some v)) (hvc:v.cells=#[v]) (hv1:v.oneCell'=true) (hx:ev F x=some (.slice p m c)) (hp:p=some ⟨b,0,none⟩) (hm:m=n) (hn:Nat.blt 0 n=true)
  (hen:enc x0=[v]) (hlen:∀ x,(enc x).length=1)
  (hu:Upd L (.box b (aN [] n enc f []) T0) (.box b (aN [] n enc (fun _=>x0) []) T0) L')
  (k:∀ w,Ctx G L' w→wpList P ops Q rest a w):wpList P ops Q (⟨none,.call { callee:=.builtin .clear,args:=#[x],argTypes:=#[T] },ty,pos,aft,gd⟩::rest) a w:=by
 subst hp
 subst hm
 have hm0:0 < m:=by simpa using hn
 refine wpList_step fun K hK=>?_
 rw [fF hf hg,if_pos rfl]
 have hb:w.heap[b]?=some (.cells (aN [] m enc f []).toArray T0 (0,0)):=hc.sat _ hu.mem
 have hcl:(aN [] m enc f []).length=m:=by simp [aN,lL hlen]
 have hzl:(Builtin.zeroCells v.cells m).toList=arr m enc (fun _=>x0):=by rw [hvc]; exact yT hen m
 have hal:(arr m enc (fun _=>x0)).length=m:=by rw [lL hlen]; omega
 have hvs:v.cells.size=1:=by rw [hvc]; rfl
 have hone:∀ n,∀ u ∈ (Builtin.zeroCells v.cells n).toList,u.oneCell'=true:=by
  intro n u hu
  rw [hvc,yT hen n] at hu
  simp only [arr,List.mem_flatMap] at hu
  obtain ⟨k,-,hu⟩:=hu
  rw [hen] at hu
  simp only [List.mem_singleton] at hu
  rw [hu]
  exact hv1
 have hr:=aCl (P:=P) w T e ty v hT (aJg hz) hone b 0 m c hm0 (fun j hj=>by
  rw [hvs] at hj
  simp only [World.cell?,hb]
  rw [Nat.zero_add,List.getElem?_toArray,List.getElem?_eq_getElem (by rw [hcl]; omega)]
  rfl) (fun j _=>by simp [World.frozen?,hb])
 rw [hzl] at hr
 have hr':(execOp a.eval ⟨none,.call { callee:=.builtin .clear,args:=#[x],argTypes:=#[T] },ty,pos,aft,gd⟩).run P w=.ok (.value (.tuple #[])) (w.setCells b 0 (arr m enc (fun _=>x0))):=by
  simp only [execOp,resolve,List.map_toArray,List.map_cons,List.map_nil,hf.ev hx,Sem.run_bind,Sem.run_pure,Result.andThen_ok,invoke,builtin,hr]
 unfold Oper.wp
 rw [hr',Oper.upon_value]
 obtain ⟨h1,h2,h3,h4,h5,h6⟩:=wM b (arr m enc (fun _=>x0)) 0 w _ T0 (0,0) hb
 refine hK _ _ (k _ (hc.updAt hu h4 h5 h6 (Nat.le_of_eq h3.symm) (fun k hk hne=>h2 k (fun e=>hne (by simp [Ent.own,e]))) ?_ (fun k hk=>.inl hk)))
 show (w.setCells b 0 (arr m enc (fun _=>x0))).heap[b]?=some (.cells (aN [] m enc (fun _=>x0) []).toArray T0 (0,0))
 rw [h1]
 have hput:∀ (vs:List Value) (A cs:List Value),cs.length=vs.length→aIu (A++cs).toArray A.length vs=(A++vs).toArray:=by
  intro vs
  induction vs with
  | nil=>
   intro A cs h
   have:cs=[]:=List.eq_nil_of_length_eq_zero h
   subst this
   simp [aIu]
  | cons v vs ih=>
   intro A cs h
   cases cs with
   | nil=>simp at h
   | cons c cs=>
    have:=ih (A++[v]) cs (by simpa using h)
    simp only [List.length_append,List.length_cons,List.length_nil,Nat.zero_add] at this
    simp only [aIu]
    have e:((A++c::cs).toArray.setIfInBounds A.length v)=((A++[v])++cs).toArray:=by
     apply Array.ext'
     simp [List.set_append]
    rw [e,this]
    simp
 have:=hput (arr m enc (fun _=>x0)) [] (aN [] m enc f []) (by rw [hcl,hal])
 simp only [List.length_nil] at this
 have e:aIu (aN [] m enc f []).toArray 0 (arr m enc fun _=>x0)=([]++arr m enc fun _=>x0).toArray:=this
 rw [e]
 simp [aN]
theorem aMi {α:Type} {b T0 m:Nat} {enc:α→List Value} {f z:α} (hf:Has N a F) (hc:Ctx G L w) (hg:nX ops F ⟨none,.store T x y,ty,pos,aft,gd⟩=some true) (hx:ev F x=some (.pointer (some ⟨b,0,none⟩))) (hy:ev F y=some (.agg (enc z).toArray))
  (he:∀ x,(enc x).length=m∧nW (enc x)=true) (hs:(P.info? T).map (·.size)=some m) (hu:Upd L (.box b (enc f) T0) (.box b (enc z) T0) L')
  (k:∀ w,Ctx G L' w→wpList P ops Q rest a w):wpList P ops Q (⟨none,.store T x y,ty,pos,aft,gd⟩::rest) a w :=
 stSt (cs:=enc f) (T0:=T0) (vs:=enc z) hf hc hg hx hy rfl (by rw [(he z).1]; exact hs) (he z).2 (by rw [Nat.zero_add,(he z).1,(he f).1]; simp) (by rw [splW ((he f).1.trans (he z).1.symm)]; exact hu) k
theorem aMo {α:Type} {g cap T0 m:Nat} {i:Int} {enc:α→List Value} {xs:List α} {z:α} (hf:Has N a F) (hc:Ctx G L w) (hg:nX ops F ⟨none,.store T x y,ty,pos,aft,gd⟩=some true) (hx:ev F x=some (.pointer (some ⟨g,i.toNat * m,none⟩))) (hy:ev F y=some (.agg (enc z).toArray))
  (he:∀ x,(enc x).length=m∧nW (enc x)=true) (hs:(P.info? T).map (·.size)=some m) (hlt:i.toNat < xs.length)
  (hu:Upd L (.row (some ⟨g,0,none⟩) cap (xs.map enc) T0 m) (.row (some ⟨g,0,none⟩) cap ((xs.set i.toNat z).map enc) T0 m) L')
  (k:∀ w,Ctx G L' w→wpList P ops Q rest a w):wpList P ops Q (⟨none,.store T x y,ty,pos,aft,gd⟩::rest) a w :=
 aCs (vs:=enc z) (o':=0) (z:=z) hf hc hg hx hy rfl (by rw [(he z).1]; exact hs) (he z).2 (fun x=>(he x).1) hlt (fun e _=>splW ((he e).1.trans (he z).1.symm)) (by rw [Nat.zero_add,(he z).1]; simp) hu k
theorem aHx {c:Bool} {f g:Nat} {cl:Call} {xs:List Operand} {vs:List Value} {v v1 v2:Value} {dd:Option Nat} (hen:En P f) (hen':En P g) (hc:cl.callee=.value x) (hx:ev F x=some (bif c then .func (.func f) #[] #[] else .func (.func g) #[] #[])) (hargs:cl.args=xs.toArray) (hvs:xs.mapM (ev F)=some vs)
  (h1:c=true→v1=v) (h2:c=false→v2=v)
  (e1:∀ w,Ctx G L w→Calls P f vs.toArray w fun e w'=>e=.returned v1∧Ctx G L w') (e2:∀ w,Ctx G L w→Calls P g vs.toArray w fun e w'=>e=.returned v2∧Ctx G L w') :
  Ev P ⟨dd,.call cl,ty,pos,aft,gd⟩ N F G L v:=by
 cases c with
 | true=>obtain rfl:=h1 rfl; exact eC (caps:=[]) hen hc hx hargs hvs (by simpa using e1)
 | false=>obtain rfl:=h2 rfl; exact eC (caps:=[]) hen' hc hx hargs hvs (by simpa using e2)
end steps
end Go.Nilo
