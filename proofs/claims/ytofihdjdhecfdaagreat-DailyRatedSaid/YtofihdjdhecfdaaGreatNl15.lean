/-
  Calls of bound methods, and slices that are made. Conditions: none.
-/
import Derived.Test.YtofihdjdhecfdaaGreatNl14
import Derived.Laws.MakeOwn
import Derived.Laws.Cover3
set_option linter.unusedSimpArgs false
set_option linter.unusedVariables false
namespace Go.Nilo

section steps
variable {P:Program} {ops:Array Oper} {Q:Exit→Act→World→Prop} {rest:List Oper} {a:Act} {w:World} {N:Fm} {d:Nat} {F:List (Nat × Value)} {G:aS} {L L' L'':List Ent} {v:Value}
 {ty:TypeId} {pos:String} {aft:Array Edge} {gd:Option (Nat × Bool)} {x y:Operand} {T:TypeId}

theorem aCe {f:Nat} {c:Call} {xs:List Operand} {bs vs caps:List Value} {a:Act} {dd:Option Nat} (hen:En P f) (hf:Has N a F) (hc:c.callee=.value x) (hx:ev F x=some (.func (.func f) bs.toArray caps.toArray)) (hargs:c.args=xs.toArray) (hvs:xs.mapM (ev F)=some vs) :
  (execOp a.eval ⟨dd,.call c,ty,pos,aft,gd⟩).run P w=.ok (.enter f (bs++(vs++caps)).toArray) w:=by
 have e1:c.args.map a.eval=vs.toArray:=by rw [hargs]; apply Array.ext'; simpa using evs hf _ _ hvs
 simp only [execOp,resolve,hc,e1,hf.ev hx,Deferred.ofValue,Sem.run_bind,Sem.run_pure,Result.andThen_ok,invoke,hen _ _]
 simp
theorem stCB {f:Nat} {c:Call} {xs:List Operand} {bs vs caps:List Value} {R:Ending→World→Prop} (hf:Has N a F) (hg:mH ops F ⟨some d,.call c,ty,pos,aft,gd⟩=some true) (hN:Nat.blt d N.n=true) (hc:c.callee=.value x) (hen:En P f) (hx:ev F x=some (.func (.func f) bs.toArray caps.toArray))
  (hargs:c.args=xs.toArray) (hvs:xs.mapM (ev F)=some vs) (hb:True=True) (hcall:Calls P f (bs++(vs++caps)).toArray w R) (k:∀ e w,R e w→∃ v,e=.returned v∧∀ a,Has N a ((d,v)::F)→wpList P ops Q rest a w):wpList P ops Q (⟨some d,.call c,ty,pos,aft,gd⟩::rest) a w:=by
 refine wpList_step fun K hK=>?_
 rw [dW hf hg,if_pos rfl]
 unfold Oper.wp
 rw [aCe hen hf hc hx hargs hvs,Oper.upon_enter]
 refine hcall.mono fun e w' he=>?_
 obtain ⟨v,rfl,hv⟩:=k e w' he
 exact hK _ _ (hv _ (hf.put hN v))
theorem eCB {f:Nat} {c:Call} {xs:List Operand} {bs vs caps:List Value} {dd:Option Nat} (hen:En P f) (hc:c.callee=.value x) (hx:ev F x=some (.func (.func f) bs.toArray caps.toArray)) (hargs:c.args=xs.toArray) (hvs:xs.mapM (ev F)=some vs)
  (hcall:∀ w,Ctx G L w→Calls P f (bs++(vs++caps)).toArray w fun e w'=>e=.returned v∧Ctx G L w'):Ev P ⟨dd,.call c,ty,pos,aft,gd⟩ N F G L v:=fun a w hf hcx=>by
 unfold Oper.quietAt
 rw [aCe hen hf hc hx hargs hvs]
 exact ⟨rfl,hcall w hcx⟩
theorem stMU {ν:Type} {b E K:TypeId} {kk:IntKind} {enc:ν→Value} {m:Int→Option ν} {k:Int} {z:Operand} {v:ν} (hf:Has N a F) (hc:Ctx G L w) (hg:mH ops F ⟨none,.mapUpdate T x y z,ty,pos,aft,gd⟩=some true) (hT:P.underlying T=some (.map K E)) (hK:P.underlying K=some (.int kk))
  (hx:ev F x=some (.map (some b))) (hy:ev F y=some (.int .i64 k)) (hz:ev F z=some (enc v))
  (hu:Upd L (.im b (fun j=>(m j).map enc) none) (.im b (fun j=>(wL m k v j).map enc) none) L')
  (kk':∀ w,Ctx G L' w→wpList P ops Q rest a w):wpList P ops Q (⟨none,.mapUpdate T x y z,ty,pos,aft,gd⟩::rest) a w:=by
 refine wpList_step fun KK hKK=>?_
 rw [dW hf hg,if_pos rfl]
 obtain ⟨es,clock,hb,hi⟩:=hc.sat _ hu.mem
 have hlt:b < w.heap.size:=(Array.getElem?_eq_some_iff.1 hb).1
 obtain ⟨r,hr,hcase⟩:=yR (P:=P) hK (k:=k) hi.keys w
 have hget:(getObj b).run P w=.ok (.map es clock) w:=by simp [getObj,Sem.run,hb]
 rcases hcase with ⟨rfl,hn⟩ | ⟨j,e,he,hk,rfl⟩
 ·have hrun:(execOp a.eval ⟨none,.mapUpdate T x y z,ty,pos,aft,gd⟩).run P w=.ok .skip (w.putObj b (.map (es.push { key:=.int .i64 k,val:=enc v,born:=clock }) (clock + 1))):=by
   simp [execOp,hf.ev hx,hf.ev hy,hf.ev hz,Instr.mapUpdate,run_underlying hT,hget,pY hK,hr,iH _ hb]
  unfold Oper.wp
  rw [hrun,Oper.upon_skip]
  refine hKK _ _ (kk' _ (wJ hc hu rfl rfl (fun w' hw'=>⟨_,_,hw',?_⟩) hlt))
  have h0:=hi.push (enc v) hn
  have h1:=h0.congr (g:=fun j=>(wL m k v j).map enc) (fun j=>by by_cases hj:j=k <;> simp [wL,hj])
  rw [Array.toList_push]
  exact ⟨h1.keys,h1.one,h1.old,h1.some',fun s k' h=>by cases h⟩
 ·have hes:es[j]?=some e:=by simpa using he
  have hmod:es.modify j (fun e=>{ e with key:=.int .i64 k,val:=enc v })=es.modify j (fun e=>{ e with val:=enc v }):=by
   apply Array.ext'
   rw [Array.toList_modify,Array.toList_modify]
   apply List.ext_getElem?
   intro q
   rw [List.getElem?_modify,List.getElem?_modify]
   by_cases hjq:j=q
   ·subst hjq
    rw [he]
    simp
    rw [← hk]
   ·simp [hjq]
  have hrun:(execOp a.eval ⟨none,.mapUpdate T x y z,ty,pos,aft,gd⟩).run P w=.ok .skip (w.putObj b (.map (es.modify j fun e=>{ e with val:=enc v }) clock)):=by
   simp [execOp,hf.ev hx,hf.ev hy,hf.ev hz,Instr.mapUpdate,run_underlying hT,hget,pY hK,hr,hes,hk,Instr.keyThatStays,Instr.sameBits,hmod,iH _ hb]
  unfold Oper.wp
  rw [hrun,Oper.upon_skip]
  refine hKK _ _ (kk' _ (wJ hc hu rfl rfl (fun w' hw'=>⟨_,_,hw',?_⟩) hlt))
  rw [Array.toList_modify]
  refine (hi.put (enc v) he hk).congr fun j=>?_
  by_cases hj:j=k <;> simp [wL,hj]

theorem pEqN {e n cap:Nat} {p:Option Addr} {T':TypeId} (hT:P.underlying T=some (.slice e)) (hx:ev F x=some (.slice p n cap)) (hy:ev F y=some (.slice none 0 0)):Pu P ⟨some d,.binOp .eql T x y T',ty,pos,aft,gd⟩ F (.bool p.isNone):=fun N a w hf=>by
 simp only [execOp,hf.ev hx,hf.ev hy]
 simp [go_sem,binOp,run_equal_slice_nil w _ _ _ _ _ hT]
end steps
def aL {α:Type} (n:Nat) (f:Nat→α):List α:=(List.range n).map f
theorem wG {α:Type} {n:Nat} {f:Nat→α}:(aL n f).length=n:=by simp [aL]
theorem pSlA {α:Type} {P:Program} {F:List (Nat × Value)} {d:Option Nat} {T ty e sz n b o:Nat} {pos:String} {aft:Array Edge} {gd:Option (Nat × Bool)} {x:Operand} {low high:Option Operand} {xs v:List α} {lo hi:Int} (hT:P.underlying T=some (.array n e)) (hs:(P.info? e).map (·.size)=some sz)
  (hx:ev F x=some (.pointer (some ⟨b,o,none⟩))) (hn:xs.length=n) (hl:oev F 0 low=some lo) (hh:oev F n high=some hi) (h:qX xs lo hi=some v) :
  Pu P ⟨d,.slice T x low high none,ty,pos,aft,gd⟩ F (.slice (uX (some ⟨b,o,none⟩) n lo.toNat sz) v.length (n - lo.toNat)):=fun N a w hf=>by
 obtain ⟨h0,h1,h2,hv,hlen⟩:=vP h
 subst hn
 have ho:∀ (o:Option Operand) (dft r:Int),oev F dft o=some r→(o.map a.eval=none∧r=dft) ∨ ∃ k,o.map a.eval=some (.int k r):=by
  intro o dft r h
  cases o with
  | none=>left; simp [oev] at h; exact ⟨rfl,h.symm⟩
  | some y=>
   right
   simp only [oev] at h
   cases hy:ev F y with
   | none=>simp [hy] at h
   | some u=>
    rw [hy] at h
    have:=hf.ev hy
    cases u <;> simp at h
    rename_i k n
    subst h
    exact ⟨k,by simp only [Option.map_some,this]⟩
 have key:(Instr.sliceBounds false xs.length xs.length (low.map a.eval) (high.map a.eval) none).run P w=.ok (lo.toNat,hi.toNat,xs.length) w:=by
  have r1:∀ k code,(Instr.sliceBound (.int k hi) xs.length code).run P w=.ok hi.toNat w:=fun k code=>run_sliceBound w _ _ _ _ (by omega) (by omega)
  have r2:∀ k code,(Instr.sliceBound (.int k lo) hi.toNat code).run P w=.ok lo.toNat w:=fun k code=>run_sliceBound w _ _ _ _ h0 (by omega)
  have r3:∀ k code,hi=(xs.length:Int)→(Instr.sliceBound (.int k lo) xs.length code).run P w=.ok lo.toNat w:=fun k code _=>run_sliceBound w _ _ _ _ h0 (by omega)
  rcases ho _ _ _ hl with ⟨e1,rfl⟩ | ⟨k,e1⟩ <;> rcases ho _ _ _ hh with ⟨e2,e3⟩ | ⟨k',e2⟩
  ·subst e3; simp [Instr.sliceBounds,e1,e2]
  ·simp [Instr.sliceBounds,e1,e2,r1]
  ·have:=r3 k .sliceB e3
   subst e3; simp [Instr.sliceBounds,e1,e2,this]
  ·simp [Instr.sliceBounds,e1,e2,r1,r2]
 have hat:(Instr.sliceAt T (.pointer (some ⟨b,o,none⟩)) (low.map a.eval) (high.map a.eval) none).run P w=.ok (.slice (uX (some ⟨b,o,none⟩) xs.length lo.toNat sz) v.length (xs.length - lo.toNat)) w:=by
  simp [Instr.sliceAt,run_underlying hT,Instr.sureAddr,key,mK hs,uX,hlen]
  split <;> simp_all
 simp [execOp,hf.ev hx,hat]

theorem aJ4 {α:Type} {G:aS} {sz c:Nat} {p:Option Addr} {enc:α→List Value} {xs:List α} (h:Rd G sz p c (xs.map enc)):(p.isNone=true∧xs=[]) ∨ p.isNone=false:=by
 obtain ⟨-,-,-,h⟩:=h
 cases p with
 | some q=>exact .inr rfl
 | none=>
  left
  refine ⟨rfl,?_⟩
  rcases h with h | ⟨b,o,hb,-⟩
  ·simpa using h
  ·cases hb
theorem aHm (C A B Lf:List Ent) (e:Ent):(C++((A++(e::B))++Lf)).Perm (e::(C++((A++B)++Lf))):=by
 have h1:(A++e::B).Perm (e::(A++B)):=List.perm_middle
 have h2:(C++((A++(e::B))++Lf)).Perm (C++((e::(A++B))++Lf)):=(List.perm_append_left_iff C).2 ((List.perm_append_right_iff Lf).2 h1)
 exact h2.trans List.perm_middle
theorem aKe {G:aS} {w:World} (C:List Ent) {A B Lf:List Ent} {e:Ent} (hc:Ctx G (C++((A++(e::B))++Lf)) w):Ctx G (e::(C++((A++B)++Lf))) w:=hc.perm (aHm C A B Lf e)
theorem shIn {G:aS} {w:World} (C:List Ent) {A B Lf:List Ent} {e:Ent} (hc:Ctx G (e::(C++((A++B)++Lf))) w):Ctx G (C++((A++(e::B))++Lf)) w:=hc.perm (aHm C A B Lf e).symm
section ends
variable {P:Program} {fn:Func} {R:Ending→World→Prop} {a:Act} {w:World} {N:Fm} {F:List (Nat × Value)} {G:aS} {L:List Ent} {r1 r2 r3:ResultVar} {v1 v2 v3:Value} {e:Exit}
end ends
theorem At.len {p:Option Addr} {n m sz:Nat} {i:Int} {b o:Nat} (h:At p n sz i b o) (e:n=m):At p m sz i b o:=e ▸ h
end Go.Nilo
