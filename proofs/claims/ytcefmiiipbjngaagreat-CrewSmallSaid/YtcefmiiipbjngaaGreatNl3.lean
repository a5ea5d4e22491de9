/-
  Loads, indexing and building, one law each. Conditions: what each theorem names.
-/
import Derived.Test.YtcefmiiipbjngaaGreatNl2
set_option linter.unusedSimpArgs false
set_option linter.unusedVariables false
namespace Go.Nilo

theorem wX {sz:Nat} {r:List Value} {u:Value} {j:Nat} (hu:r[j]?=some u):∀ (rows:List (List Value)) (i:Nat),(∀ r ∈ rows,r.length=sz)→rows[i]?=some r→rows.flatten[i * sz + j]?=some u
 | [],i,_,hr=>by simp at hr
 | x::rows,i,hl,hr=>by
  have hx:x.length=sz:=hl x List.mem_cons_self
  have hj:j < sz:=by
   rw [← hl r (List.mem_of_getElem? hr)]
   exact (List.getElem?_eq_some_iff.1 hu).1
  cases i with
  | zero=>
   simp at hr
   subst hr
   simp only [List.flatten_cons,Nat.zero_mul,Nat.zero_add]
   rw [List.getElem?_append_left (by omega)]
   exact hu
  | succ i=>
   simp at hr
   simp only [List.flatten_cons]
   rw [List.getElem?_append_right (by rw [hx,Nat.succ_mul]; omega)]
   rw [hx,show (i + 1) * sz + j - sz=i * sz + j by rw [Nat.succ_mul]; omega]
   exact wX hu rows i (λr hr=>hl r (List.mem_cons_of_mem _ hr)) hr

def yQ (G:cJ) (L:List Ent) (q:Addr) (v:Value):Prop:=∀ w,Ctx G L w→w.cell? q=some v

theorem bN {G:cJ} {L:List Ent} {b o T:Nat} {cs:List Value} {v:Value} (he:pD L (Ent.box b cs T)) (h:cs[o]?=some v):yQ G L ⟨b,o,none⟩ v:=λw hc=>by
 have:=he _ _ hc
 simp only [Ent.sat] at this
 simp [World.cell?,this,h]

theorem cA {G:cJ} {L:List Ent} {g cap T sz i j:Nat} {rows:List (List Value)} {r:List Value} {u:Value} (he:pD L (Ent.row (some ⟨g,0,none⟩) cap rows T sz)) (hr:rows[i]?=some r) (hu:r[j]?=some u) :
  yQ G L ⟨g,i * sz + j,none⟩ u:=λw hc=>by
 obtain ⟨hl,hown⟩:=he _ _ hc
 have:=hown.cells (g:=g) rfl (i * sz + j) u (wX hu rows i hl hr)
 simpa [Addr.add_lit] using this
def PC (G:cJ) (b o:Nat) (r:List Value):Prop:=∃ cur T fr,G.blk b=some (.cells cur T fr)∧∀ j u,r[j]?=some u→cur[o + j]?=some u

theorem aV {G:cJ} {L:List Ent} {b o j:Nat} {r:List Value} {u:Value} (h:PC G b o r) (hu:r[j]?=some u):yQ G L ⟨b,o + j,none⟩ u:=λw hc=>by
 obtain ⟨cur,T,fr,hg,hr⟩:=h
 have:=hc.pers _ _ hg
 simp [World.cell?,this,hr j u hu]

theorem PC.mono {G G':cJ} {b o:Nat} {r:List Value} (h:PC G b o r) (hG:G.le G'):PC G' b o r :=
 let ⟨cur,T,fr,hg,hr⟩:=h
 ⟨cur,T,fr,hG.1 _ _ hg,hr⟩
def Rd (G:cJ) (sz:Nat) (p:Option Addr) (cap:Nat) (rows:List (List Value)):Prop :=
 rows.length≤cap∧cap≤maxLen∧(∀ r ∈ rows,r.length=sz)∧(rows=[] ∨ ∃ b o,p=some ⟨b,o,none⟩∧∃ cur T fr,G.blk b=some (.cells cur T fr)∧∀ i r,rows[i]?=some r→∀ j u,r[j]?=some u→cur[o + i * sz + j]?=some u)

theorem Rd.mono {G G':cJ} {sz cap:Nat} {p:Option Addr} {rows:List (List Value)} (h:Rd G sz p cap rows) (hG:G.le G'):Rd G' sz p cap rows:=by
 obtain ⟨h1,h2,h3,h4⟩:=h
 refine ⟨h1,h2,h3,?_⟩
 rcases h4 with h4 | ⟨b,o,hp,cur,T,fr,hg,hr⟩
 ·exact .inl h4
 ·exact .inr ⟨b,o,hp,cur,T,fr,hG.1 _ _ hg,hr⟩
structure At (p:Option Addr) (n sz:Nat) (i:Int) (b o:Nat):Prop where
 lo:0≤i
 hi:i < n
 place:∃ q:Addr,p=some q∧q.add (i.toNat * sz)=⟨b,o,none⟩

theorem Rd.at {G:cJ} {sz cap:Nat} {p:Option Addr} {rows:List (List Value)} (h:Rd G sz p cap rows) {i:Int} {r:List Value} (hi:0≤i) (hr:rows[i.toNat]?=some r) :
  ∃ b o,At p rows.length sz i b o∧PC G b o r:=by
 obtain ⟨-,-,h3,h4⟩:=h
 have hlt:=(List.getElem?_eq_some_iff.1 hr).1
 rcases h4 with h4 | ⟨b,o,hp,cur,T,fr,hg,hc⟩
 ·subst h4; simp at hr
 ·exact ⟨b,o + i.toNat * sz,⟨hi,by omega,_,hp,by rw [Addr.add_lit]⟩,cur,T,fr,hg,λj u hu=>hc _ _ hr _ _ hu⟩

theorem aTn {G:cJ} {L:List Ent} {w:World} {p:Option Addr} {cap T sz:Nat} {rows:List (List Value)} (hc:Ctx G L w) (he:pD L (Ent.row p cap rows T sz)) {i:Int} {r:List Value} (hi:0≤i) (hr:rows[i.toNat]?=some r) :
  ∃ g,p=some ⟨g,0,none⟩∧At p rows.length sz i g (i.toNat * sz):=by
 obtain ⟨-,-,hown⟩:=he _ _ hc
 have hlt:=(List.getElem?_eq_some_iff.1 hr).1
 rcases hown with ⟨_,h0⟩ | ⟨g,cap',cur,hv,-,hh,-⟩
 ·omega
 ·simp only [Value.slice.injEq] at hv
  refine ⟨g,hv.1,hi,by omega,_,hv.1,by simp [Addr.add_lit]⟩

section ops
variable {P:Program} {N:Fm} {F:List (Nat × Value)} {G:cJ} {L:List Ent} {ty:TypeId} {pos:String} {aft:Array Edge} {gd:Option (Nat × Bool)} {d:Option Tmp} {v:Value} {x y c:Operand} {T:TypeId}
theorem bB {q:Addr} (hT:ScT P T) (hx:ev F x=some (.pointer (some q))) (hv:yQ G L q v):Ev P ⟨d,.load T x,ty,pos,aft,gd⟩ N F G L v:=λa w hf hc=>by
 have hq:=hv w hc
 unfold Oper.quietAt
 have:(execOp a.eval ⟨d,.load T x,ty,pos,aft,gd⟩).run P w=.ok (.value v) w:=by
  simp [execOp,hf.ev hx,Instr.loadAt,Instr.sureAddr,loadVar,hT.isAgg w,run_load,hq]
 rw [this]
 exact ⟨rfl,rfl⟩
theorem iY {b o sz:Nat} {vs:List Value} (hT:aAt P T sz) (hx:ev F x=some (.pointer (some ⟨b,o,none⟩))) (hl:vs.length=sz) (hv:∀ j u,vs[j]?=some u→yQ G L ⟨b,o + j,none⟩ u) :
  Ev P ⟨d,.load T x,ty,pos,aft,gd⟩ N F G L (.agg vs.toArray):=λa w hf hc=>by
 unfold Oper.quietAt
 have h1:=run_loadCells_list (P:=P) w ⟨b,o,none⟩ vs (λj u hu=>by rw [Addr.add_lit]; exact hv j u hu w hc)
 rw [hl] at h1
 have:(execOp a.eval ⟨d,.load T x,ty,pos,aft,gd⟩).run P w=.ok (.value (.agg vs.toArray)) w:=by
  simp [execOp,hf.ev hx,Instr.loadAt,Instr.sureAddr,loadVar,hT.isAgg w,wF hT.2,h1]
 rw [this]
 exact ⟨rfl,rfl⟩

theorem bT {b o T n:Nat} {cs vs:List Value} (he:pD L (Ent.box b cs T)) (h:(cs.drop o).take n=vs):∀ j u,vs[j]?=some u→yQ G L ⟨b,o + j,none⟩ u:=λj u hu=>by
 subst h
 rw [List.getElem?_take] at hu
 split at hu
 ·rw [List.getElem?_drop] at hu
  exact bN he hu
 ·cases hu

theorem cY {b o o' n:Nat} {r vs:List Value} (h:PC G b o r) (ho:(r.drop o').take n=vs):∀ j u,vs[j]?=some u→yQ G L ⟨b,o + o' + j,none⟩ u:=λj u hu=>by
 subst ho
 rw [List.getElem?_take] at hu
 split at hu
 ·rw [List.getElem?_drop] at hu
  rw [Nat.add_assoc]
  exact aV h hu
 ·cases hu
theorem pIA {e sz n cap b o:Nat} {p:Option Addr} {k:IntKind} {i:Int} (hT:P.underlying T=some (.slice e)) (hs:(P.info? e).map (·.size)=some sz) (hx:ev F x=some (.slice p n cap)) (hy:ev F y=some (.int k i)) (h:At p n sz i b o) :
  Pu P ⟨d,.indexAddr T x y,ty,pos,aft,gd⟩ F (.pointer (some ⟨b,o,none⟩)):=λN a w hf=>by
 obtain ⟨q,hq,ho⟩:=h.place
 subst hq
 have h0:=h.lo
 have h1:=h.hi
 simp [execOp,hf.ev hx,hf.ev hy,Instr.indexAt,asIntOf,run_underlying hT,h0,h1,wF hs,ho]
theorem aAb {e sz n b o:Nat} {k:IntKind} {i:Int} (hT:P.underlying T=some (.array n e)) (hs:(P.info? e).map (·.size)=some sz) (hx:ev F x=some (.pointer (some ⟨b,o,none⟩))) (hy:ev F y=some (.int k i)) (h0:0≤i) (h1:i < n) :
  Pu P ⟨d,.indexAddr T x y,ty,pos,aft,gd⟩ F (.pointer (some ⟨b,o + i.toNat * sz,none⟩)):=λN a w hf=>by
 simp [execOp,hf.ev hx,hf.ev hy,Instr.indexAt,Instr.sureAddr,asIntOf,run_underlying hT,h0,h1,wF hs,Addr.add_lit]

theorem aTq {parts:Array (Nat × Operand)} {vs:List (Nat × Value)} {cells:List Value} (h1:parts.toList.mapM (λq=>(ev F q.2).map λv=>(q.1,v))=some vs) (h:P.built T vs=some cells.toArray) :
  Pu P ⟨d,.build T parts,ty,pos,aft,gd⟩ F (.agg cells.toArray):=λN a w hf=>by
 have key:∀ (l:List (Nat × Operand)) (vs:List (Nat × Value)),l.mapM (λq=>(ev F q.2).map λv=>(q.1,v))=some vs→l.map (λq=>(q.1,a.eval q.2))=vs:=by
  intro l
  induction l with
  | nil=>intro vs h; simp at h; simp [h]
  | cons q l ih=>
   intro vs h
   simp only [List.mapM_cons,Option.bind_eq_bind,Option.bind_eq_some_iff,Option.pure_def,Option.some.injEq,Option.map_eq_some_iff] at h
   obtain ⟨u,⟨v,hv,rfl⟩,us,hus,rfl⟩:=h
   simp [hf.ev hv,ih us hus]
 have e1:(parts.map λ(i,x)=>(i,a.eval x)).toList=vs:=by simpa using key _ _ h1
 simp only [execOp,Sem.run_bind,run_build w T _ _ (e1 ▸ h),Result.andThen_ok]
 rfl

theorem aRk {cs:List Value} {f:Nat} {fs:Array Field} {fd:Field} (hT:P.underlying T=some (.struct fs)) (hf':fs[f]?=some fd) (hs:ScT P fd.type) (hx:ev F x=some (.agg cs.toArray)) (h:cs[fd.offset]?=some v) :
  Pu P ⟨d,.field T x f,ty,pos,aft,gd⟩ F v:=λN a w hf=>by
 simp [execOp,hf.ev hx,Instr.field,run_underlying hT,hf',asAgg,part,hs.isAgg w,h]
end ops

def vJ (ops:Array Oper) (F:List (Nat × Value)) (o:Oper):Option Bool :=
 match o.guard with
 | none=>some true
 | some (j,want)=>
  match (ops[j]?).bind (·.dst) with
  | none=>none
  | some t=>
   match kH F t with
   | some (.bool b)=>some (b == want)
   | some _=>some false
   | none=>none

theorem gX {ops:Array Oper} {N:Fm} {a:Act} {F:List (Nat × Value)} {o:Oper} {b:Bool} (hf:Has N a F) (h:vJ ops F o=some b):Region.wanted o (yielded ops a.tmps)=b:=by
 unfold vJ at h
 unfold Region.wanted
 cases hg:o.guard with
 | none=>simp [hg] at h ⊢; exact h
 | some g=>
  obtain ⟨j,want⟩:=g
  simp only [hg] at h ⊢
  cases ht:(ops[j]?).bind (·.dst) with
  | none=>simp [ht] at h
  | some t=>
   simp only [ht] at h
   cases hl:kH F t with
   | none=>simp [hl] at h
   | some u=>
    have hu:=hf.get t u hl
    cases u <;> simp [hl] at h <;> simp [yielded,ht,hu,← h]

section steps
variable {P:Program} {ops:Array Oper} {Q:Exit→Act→World→Prop} {rest:List Oper} {o:Oper} {a:Act} {w:World} {N:Fm} {d:Nat} {F:List (Nat × Value)} {G:cJ} {L:List Ent} {v:Value}

theorem stP (hf:Has N a F) (hg:vJ ops F o=some true) (hd:o.dst=some d) (hN:Nat.blt d N.n=true) (e:Pu P o F v) (k:∀ a,Has N a ((d,v)::F)→wpList P ops Q rest a w):wpList P ops Q (o::rest) a w:=by
 refine wpList_step λK hK=>?_
 rw [gX hf hg,if_pos rfl]
 unfold Oper.wp
 rw [e N a w hf,Oper.upon_value,hd]
 exact hK _ _ (k _ (hf.put hN v))

theorem stE (hf:Has N a F) (hc:Ctx G L w) (hg:vJ ops F o=some true) (hd:o.dst=some d) (hN:Nat.blt d N.n=true) (e:Ev P o N F G L v) (k:∀ a w,Has N a ((d,v)::F)→Ctx G L w→wpList P ops Q rest a w):wpList P ops Q (o::rest) a w:=by
 refine wpList_step λK hK=>?_
 rw [gX hf hg,if_pos rfl]
 have he:=e a w hf hc
 unfold Oper.quietAt at he
 unfold Oper.wp
 generalize (execOp a.eval o).run P w=r at he
 cases r with
 | halt h w'=>exact he.elim
 | ok n w'=>
  cases n <;> simp only [Oper.quietUpon] at he
  case value u=>obtain ⟨rfl,rfl⟩:=he; rw [Oper.upon_value,hd]; exact hK _ _ (k _ _ (hf.put hN _) hc)
  case skip=>obtain ⟨rfl,rfl⟩:=he; rw [Oper.upon_skip,hd]; exact hK _ _ (k _ _ (hf.put hN _) hc)
  case enter f args=>
   obtain ⟨rfl,he⟩:=he
   rw [Oper.upon_enter]
   refine he.mono λe w'' ⟨h1,h2⟩=>?_
   subst h1
   rw [hd]
   exact hK _ _ (k _ _ (hf.put hN _) h2)
theorem stS (hf:Has N a F) (hg:vJ ops F o=some false) (hd:o.dst=some d) (hN:Nat.blt d N.n=true) (k:∀ a,Has N a ((d,undef)::F)→wpList P ops Q rest a w):wpList P ops Q (o::rest) a w:=by
 refine wpList_step λK hK=>?_
 rw [gX hf hg,if_neg (by simp),hd]
 exact hK _ _ (k _ (hf.put hN undef))

theorem yD {l:List Oper} {Q Q':Exit→Act→World→Prop}:∀ {a:Act} {w:World},wpList P ops Q l a w→(∀ e a w,Q e a w→Q' e a w)→wpList P ops Q' l a w:=by
 induction l with
 | nil=>intro a w h hq; exact hq _ _ _ h
 | cons o l ih=>
  intro a w h hq
  unfold wpList at h ⊢
  split
  ·rename_i hw
   rw [if_pos hw] at h
   rcases h with h | ⟨h1,a',w',h2⟩
   ·left
    unfold Oper.wp at *
    generalize (execOp a.eval o).run P w=r at h
    cases r with
    | ok n w'=>
     cases n <;> simp only [Oper.upon] at h ⊢ <;> first
      | exact ih h hq
      | exact h.mono λe w'' he=>by cases e <;> first | exact ih he hq | exact hq _ _ _ he | (obtain ⟨a',w',h2⟩:=he; exact ⟨a',w',hq _ _ _ h2⟩)
      | exact h.mono λe w'' he=>ih he hq
    | halt x w'=>cases x <;> simp only [Oper.upon] at h ⊢ <;> first | exact hq _ _ _ h | exact h
   ·exact .inr ⟨h1,a',w',hq _ _ _ h2⟩
  ·rename_i hw
   rw [if_neg hw] at h
   exact ih h hq
theorem aIj {l m:List Oper}:∀ {a:Act} {w:World},wpList P ops (Exit.then (wpList P ops Q m) Q) l a w→wpList P ops Q (l++m) a w:=by
 induction l with
 | nil=>intro a w h; exact h
 | cons o l ih=>
  intro a w h
  rw [List.cons_append]
  unfold wpList at h ⊢
  split
  ·rename_i hw
   rw [if_pos hw] at h
   rcases h with h | ⟨h1,h2⟩
   ·left
    unfold Oper.wp at *
    generalize (execOp a.eval o).run P w=r at h
    cases r with
    | ok n w'=>
     cases n <;> simp only [Oper.upon] at h ⊢ <;> first
      | exact ih h
      | exact h.mono λe w'' he=>by cases e <;> first | exact ih he | exact he
      | exact h.mono λe w'' he=>ih he
    | halt x w'=>cases x <;> simp only [Oper.upon] at h ⊢ <;> exact h
   ·exact .inr ⟨h1,h2⟩
  ·rename_i hw
   rw [if_neg hw] at h
   exact ih h
theorem stCut {l:List Oper} (n:Nat) (J:Act→World→Prop) (h1:wpList P ops (Exit.then J Q) (l.take n) a w) (h2:∀ a w,J a w→wpList P ops Q (l.drop n) a w):wpList P ops Q l a w:=by
 have:=aIj (m:=l.drop n) (Q:=Q) (P:=P) (ops:=ops) (l:=l.take n) (a:=a) (w:=w) ?_
 ·rwa [List.take_append_drop] at this
 ·refine yD h1 ?_
  intro e a w he
  cases e <;> first | exact h2 _ _ he | exact he
end steps
end Go.Nilo
