/-
  Slices that are built. Conditions: what each theorem names.
-/
import Derived.Test.YtcefmiiipbjngaaGreatNl4
set_option linter.unusedSimpArgs false
set_option linter.unusedVariables false
namespace Go.Nilo
def SlT (P:Program) (T e sz by':Nat) (z:Value):Prop:=P.underlying T=some (.slice e)∧∃ i,P.info? e=some i∧i.zero=some z∧i.size=sz∧i.bytes=by'∧z.cells.size=sz∧0 < sz
theorem SlT.size {P:Program} {T e sz by':Nat} {z:Value} (h:SlT P T e sz by' z):(P.info? e).map (·.size)=some sz:=by
 obtain ⟨-,i,hi,-,hs,-⟩:=h
 simp [hi,hs]
theorem SlT.zero {P:Program} {T e sz by':Nat} {z:Value} (h:SlT P T e sz by' z):(P.info? e).map (·.zero)=some (some z):=by
 obtain ⟨-,i,hi,hz,-⟩:=h
 simp [hi,hz]

theorem aF2 {w:World} {rows:List (List Value)} {T sz:Nat} (hl:∀ r ∈ rows,r.length=sz) (hm:rows.length≤maxLen) :
  (w.alloc (.cells rows.flatten.toArray T)).ownsRow 0 T sz (.slice (some ⟨w.heap.size,0,none⟩) rows.length rows.length) rows.length rows.flatten:=by
 have hlen:∀ (rows:List (List Value)),(∀ r ∈ rows,r.length=sz)→rows.flatten.length=rows.length * sz:=by
  intro rows
  induction rows with
  | nil=>intro _; simp
  | cons x rows ih=>intro h; simp [ih (λr hr=>h r (by simp [hr])),h x (by simp),Nat.succ_mul,Nat.add_comm]
 exact ⟨hlen rows hl,.inr ⟨_,_,_,rfl,Nat.zero_le _,heap_alloc_new w _,Nat.le_refl _,hm,by simp [hlen rows hl],by rw [← hlen rows hl]; exact List.take_length⟩⟩

theorem aIt {sz:Nat}:∀ (vs:List Value) (rows:List (List Value)) (done todo:List Value) (i:Nat),vs.length=rows.length→(∀ (k:Nat) v r,vs[k]?=some v→rows[k]?=some r→v.cells=r.toArray∧r.length=sz) →
  done.length=i * sz→todo.length=vs.length * sz →
  Instr.fill (λi=>some (i * sz,sz)) (done++todo).toArray ((vs.zipIdx i).map λq=>(q.2,q.1))=some (done++rows.flatten).toArray
 | [],rows,done,todo,i,h1,_,_,h4=>by
  have:rows=[]:=List.eq_nil_of_length_eq_zero h1.symm
  subst this
  have:todo=[]:=List.eq_nil_of_length_eq_zero (by simpa using h4)
  subst this
  simp [Instr.fill]
 | v::vs,[],_,_,_,h1,_,_,_=>by simp at h1
 | v::vs,r::rows,done,todo,i,h1,h2,h3,h4=>by
  obtain ⟨hv,hr⟩:=h2 0 v r rfl rfl
  have ht:sz≤todo.length:=by rw [h4]; simp only [List.length_cons,Nat.succ_mul]; omega
  have hfold:∀ (r t d:List Value) (o:Nat),d.length=o→r.length≤t.length→(r.toArray.zipIdx.foldl (λcs (p:Value × Nat)=>cs.setIfInBounds (o + p.2) p.1) (d++t).toArray)=(d++r++t.drop r.length).toArray:=by
   intro r t d o hd hrt
   have key:∀ (r t d e:List Value) (j:Nat),d.length=o→e.length=j→r.length≤t.length→((r.zipIdx j).foldl (λ(cs:Array Value) (p:Value × Nat)=>cs.setIfInBounds (o + p.2) p.1) (d++e++t).toArray)=(d++e++r++t.drop r.length).toArray:=by
    intro r
    induction r with
    | nil=>intro t d e j _ _ _; simp
    | cons x r ih=>
     intro t d e j hd he hrt
     cases t with
     | nil=>simp at hrt
     | cons y t=>
      simp only [List.zipIdx_cons,List.foldl_cons]
      have:(d++e++y::t).toArray.setIfInBounds (o + j) x=(d++(e++[x])++t).toArray:=by
       apply Array.ext'
       simp only [Array.toList_setIfInBounds]
       rw [List.set_append_right _ _ (by simp [hd,he])]
       simp [hd,he]
      rw [this,ih t d (e++[x]) (j + 1) hd (by simp [he]) (by simpa using hrt)]
      simp
   have:=key r t d [] 0 hd rfl hrt
   simpa using this
  have hz:(v::vs).zipIdx i=(v,i)::vs.zipIdx (i + 1):=rfl
  rw [hz,List.map_cons]
  unfold Instr.fill
  simp only
  have e1:v.cells.size=sz:=by rw [hv]; simpa using hr
  rw [if_neg (by rw [e1]; simp only [ne_eq,not_true_eq_false,Bool.or_eq_true,decide_eq_true_eq,false_or,List.size_toArray,List.length_append]; omega)]
  rw [hv,hfold r todo done (i * sz) h3 (by omega)]
  have:=aIt vs rows (done++r) (todo.drop r.length) (i + 1) (by simpa using h1) (λk v' r' hk hk'=>h2 (k + 1) v' r' (by simpa using hk) (by simpa using hk')) (by simp [h3,hr,Nat.succ_mul]) (by simp [h4,hr,Nat.succ_mul])
  rw [this]
  simp

theorem aHc {P:Program} {w:World} {T e sz:Nat} {z:Value} {vs:List Value} {rows:List (List Value)} (hT:P.underlying T=some (.slice e)) (hs:(P.info? e).map (·.size)=some sz) (hz:(P.info? e).map (·.zero)=some (some z))
  (hl:vs.length=rows.length) (hv:∀ (k:Nat) v r,vs[k]?=some v→rows[k]?=some r→v.cells=r.toArray∧r.length=sz) (hsmall:rows.length * sz≤2 ^ 24) :
  (Instr.buildSlice T rows.length ((vs.zipIdx.map λq=>(q.2,q.1)).toArray)).run P w=.ok (.slice (some ⟨w.heap.size,0,none⟩) rows.length rows.length) (w.alloc (.cells rows.flatten.toArray e)):=by
 cases hi:P.info? e with
 | none=>simp [hi] at hs
 | some i=>
  simp [hi] at hs hz
  have hfill:∀ c:Array Value,c.size=rows.length * sz→Instr.fill (λi=>some (i * sz,sz)) c (vs.zipIdx.map λq=>(q.2,q.1))=some rows.flatten.toArray:=by
   intro c hc
   have:=aIt (sz:=sz) vs rows [] c.toList 0 hl hv (by simp) (by simp [hc,hl])
   simpa using this
  have hnot:¬ rows.length * sz > 2 ^ 24:=by omega
  unfold Instr.buildSlice
  simp only [Sem.run_bind,run_underlying hT,Result.andThen_ok,Go.sizeOf,typeInfo,hi,Go.run_program,hs,if_neg hnot,Sem.run_pure]
  split
  ·simp only [Sem.run_bind,Sem.run_pure,Result.andThen_ok]
   rw [hfill _ (by simp)]
   simp [newRow]
  ·simp only [Sem.run_bind,zeroValue,typeInfo,hi,Go.run_program,Sem.run_pure,Result.andThen_ok,hz]
   rw [hfill _ (by simp)]
   simp [newRow]


section steps
variable {P:Program} {ops:Array Oper} {Q:Exit→Act→World→Prop} {rest:List Oper} {a:Act} {w:World} {N:Fm} {d:Nat} {F:List (Nat × Value)} {G:cJ} {L L' L'':List Ent} {v:Value}
 {ty:TypeId} {pos:String} {aft:Array Edge} {gd:Option (Nat × Bool)} {x y:Operand} {T:TypeId}
def parts (sz:Nat):Nat→List (Nat × Value)→List (List Value)→Prop
 | _,[],[]=>True
 | i,(j,v)::vs,r::rows=>j=i∧v.cells=r.toArray∧r.length=sz∧parts sz (i + 1) vs rows
 | _,_,_=>False

theorem aHl {sz:Nat}:∀ (i:Nat) (vs:List (Nat × Value)) (rows:List (List Value)),parts sz i vs rows→vs=((vs.map (·.2)).zipIdx i).map (λq=>(q.2,q.1))∧(vs.map (·.2)).length=rows.length ∧
  ∀ (k:Nat) v r,(vs.map (·.2))[k]?=some v→rows[k]?=some r→v.cells=r.toArray∧r.length=sz
 | _,[],[],_=>⟨rfl,rfl,λk v r h=>by simp at h⟩
 | _,[],_::_,h=>h.elim
 | _,_::_,[],h=>h.elim
 | i,(j,v)::vs,r::rows,⟨h1,h2,h3,h4⟩=>by
  subst h1
  obtain ⟨k1,k2,k3⟩:=aHl (j + 1) vs rows h4
  refine ⟨?_,by simpa using k2,?_⟩
  ·simp only [List.map_cons,List.zipIdx_cons,List.cons.injEq,true_and]
   exact k1
  ·intro k v' r' hv hr
   cases k with
   | zero=>simp at hv hr; subst hv; subst hr; exact ⟨h2,h3⟩
   | succ k=>exact k3 k v' r' (by simpa using hv) (by simpa using hr)

theorem aQi {a:Act} (hf:Has N a F):∀ (l:List (Nat × Operand)) (vs:List (Nat × Value)),l.mapM (λq=>(ev F q.2).map λv=>(q.1,v))=some vs→l.map (λq=>(q.1,a.eval q.2))=vs:=by
 intro l
 induction l with
 | nil=>intro vs h; simp at h; simp [h]
 | cons q l ih=>
  intro vs h
  simp only [List.mapM_cons,Option.bind_eq_bind,Option.bind_eq_some_iff,Option.pure_def,Option.some.injEq,Option.map_eq_some_iff] at h
  obtain ⟨u,⟨v,hv,rfl⟩,us,hus,rfl⟩:=h
  simp [hf.ev hv,ih us hus]
theorem gN {e sz by' n:Nat} {z:Value} {ps:Array (Nat × Operand)} {vs:List (Nat × Value)} {rows:List (List Value)} (hf:Has N a F) (hc:Ctx G L w) (hg:vJ ops F ⟨some d,.buildSlice T n ps,ty,pos,aft,gd⟩=some true) (hN:Nat.blt d N.n=true)
  (hT:SlT P T e sz by' z) (h1:ps.toList.mapM (λq=>(ev F q.2).map λv=>(q.1,v))=some vs) (hp:parts sz 0 vs rows) (hn:rows.length=n)
  (hsmall:Nat.ble (rows.length * sz + rows.length) 16777216=true)
  (k:∀ b a w,Has N a ((d,.slice (some ⟨b,0,none⟩) n n)::F)→Ctx G (.row (some ⟨b,0,none⟩) n rows e sz::L) w→wpList P ops Q rest a w):wpList P ops Q (⟨some d,.buildSlice T n ps,ty,pos,aft,gd⟩::rest) a w:=by
 subst hn
 have hsm:rows.length * sz + rows.length≤16777216:=by simpa using hsmall
 obtain ⟨k1,k2,k3⟩:=aHl 0 vs rows hp
 refine wpList_step λK hK=>?_
 rw [gX hf hg,if_pos rfl]
 have e1:(ps.map λq=>(q.1,a.eval q.2))=(((vs.map (·.2)).zipIdx.map λq=>(q.2,q.1)).toArray):=by
  apply Array.ext'
  rw [← k1]
  simpa using aQi hf _ _ h1
 have hr:(execOp a.eval ⟨some d,.buildSlice T rows.length ps,ty,pos,aft,gd⟩).run P w=.ok (.value (.slice (some ⟨w.heap.size,0,none⟩) rows.length rows.length)) (w.alloc (.cells rows.flatten.toArray e)):=by
  have:=aHc (P:=P) (w:=w) hT.1 hT.size hT.zero k2 k3 (by omega)
  simp only [execOp,Sem.run_bind]
  rw [show (ps.map λ(i,x)=>(i,a.eval x))=(ps.map λq=>(q.1,a.eval q.2)) from rfl,e1,this]
  rfl
 unfold Oper.wp
 rw [hr,Oper.upon_value]
 have hl:∀ r ∈ rows,r.length=sz:=by
  intro r hr
  obtain ⟨k,hk⟩:=List.mem_iff_getElem?.1 hr
  have hlt:=(List.getElem?_eq_some_iff.1 hk).1
  have:(vs.map (·.2))[k]?=some ((vs.map (·.2))[k]'(by rw [k2]; exact hlt)):=List.getElem?_eq_getElem _
  exact (k3 k _ r this hk).2
 refine hK _ _ (k _ _ _ (hf.put hN _) (hc.new _ _ rfl ⟨hl,aF2 hl ?_⟩))
 simp only [maxLen]
 omega
end steps
end Go.Nilo
