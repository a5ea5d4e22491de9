/-
  Calls of bound methods, and slices that are made. Conditions: none.
-/
import Derived.Test.YtkcmofifepmkdaaGreatNl14
import Derived.Laws.MakeOwn
import Derived.Laws.Cover3
set_option linter.unusedSimpArgs false
set_option linter.unusedVariables false
namespace Go.Nilo

section steps
variable {P:Program} {ops:Array Oper} {Q:Exit→Act→World→Prop} {rest:List Oper} {a:Act} {w:World} {N:Fm} {d:Nat} {F:List (Nat × Value)} {G:bA} {L L' L'':List Ent} {v:Value}
 {ty:TypeId} {pos:String} {aft:Array Edge} {gd:Option (Nat × Bool)} {x y:Operand} {T:TypeId}

theorem aE1 {f:Nat} {c:Call} {xs:List Operand} {bs vs caps:List Value} {a:Act} {dd:Option Nat} (hen:En P f) (hf:Has N a F) (hc:c.callee=.value x) (hx:ev F x=some (.func (.func f) bs.toArray caps.toArray)) (hargs:c.args=xs.toArray) (hvs:xs.mapM (ev F)=some vs) :
  (execOp a.eval ⟨dd,.call c,ty,pos,aft,gd⟩).run P w=.ok (.enter f (bs++(vs++caps)).toArray) w:=by
 have e1:c.args.map a.eval=vs.toArray:=by rw [hargs]; apply Array.ext'; simpa using evs hf _ _ hvs
 simp only [execOp,resolve,hc,e1,hf.ev hx,Deferred.ofValue,Sem.run_bind,Sem.run_pure,Result.andThen_ok,invoke,hen _ _]
 simp
theorem stCB {f:Nat} {c:Call} {xs:List Operand} {bs vs caps:List Value} {R:Ending→World→Prop} (hf:Has N a F) (hg:pD ops F ⟨some d,.call c,ty,pos,aft,gd⟩=some true) (hN:Nat.blt d N.n=true) (hc:c.callee=.value x) (hen:En P f) (hx:ev F x=some (.func (.func f) bs.toArray caps.toArray))
  (hargs:c.args=xs.toArray) (hvs:xs.mapM (ev F)=some vs) (hb:True=True) (hcall:Calls P f (bs++(vs++caps)).toArray w R) (k:∀ e w,R e w→∃ v,e=.returned v∧∀ a,Has N a ((d,v)::F)→wpList P ops Q rest a w):wpList P ops Q (⟨some d,.call c,ty,pos,aft,gd⟩::rest) a w:=by
 refine wpList_step fun K hK=>?_
 rw [fC hf hg,if_pos rfl]
 unfold Oper.wp
 rw [aE1 hen hf hc hx hargs hvs,Oper.upon_enter]
 refine hcall.mono fun e w' he=>?_
 obtain ⟨v,rfl,hv⟩:=k e w' he
 exact hK _ _ (hv _ (hf.put hN v))
theorem eCB {f:Nat} {c:Call} {xs:List Operand} {bs vs caps:List Value} {dd:Option Nat} (hen:En P f) (hc:c.callee=.value x) (hx:ev F x=some (.func (.func f) bs.toArray caps.toArray)) (hargs:c.args=xs.toArray) (hvs:xs.mapM (ev F)=some vs)
  (hcall:∀ w,Ctx G L w→Calls P f (bs++(vs++caps)).toArray w fun e w'=>e=.returned v∧Ctx G L w'):Ev P ⟨dd,.call c,ty,pos,aft,gd⟩ N F G L v:=fun a w hf hcx=>by
 unfold Oper.quietAt
 rw [aE1 hen hf hc hx hargs hvs]
 exact ⟨rfl,hcall w hcx⟩
theorem stMU {ν:Type} {b E K:TypeId} {kk:IntKind} {enc:ν→Value} {m:Int→Option ν} {k:Int} {z:Operand} {v:ν} (hf:Has N a F) (hc:Ctx G L w) (hg:pD ops F ⟨none,.mapUpdate T x y z,ty,pos,aft,gd⟩=some true) (hT:P.underlying T=some (.map K E)) (hK:P.underlying K=some (.int kk))
  (hx:ev F x=some (.map (some b))) (hy:ev F y=some (.int .i64 k)) (hz:ev F z=some (enc v))
  (hu:Upd L (.im b (fun j=>(m j).map enc) none) (.im b (fun j=>(gQ m k v j).map enc) none) L')
  (kk':∀ w,Ctx G L' w→wpList P ops Q rest a w):wpList P ops Q (⟨none,.mapUpdate T x y z,ty,pos,aft,gd⟩::rest) a w:=by
 refine wpList_step fun KK hKK=>?_
 rw [fC hf hg,if_pos rfl]
 obtain ⟨es,clock,hb,hi⟩:=hc.sat _ hu.mem
 have hlt:b < w.heap.size:=(Array.getElem?_eq_some_iff.1 hb).1
 obtain ⟨r,hr,hcase⟩:=tO (P:=P) hK (k:=k) hi.keys w
 have hget:(getObj b).run P w=.ok (.map es clock) w:=by simp [getObj,Sem.run,hb]
 rcases hcase with ⟨rfl,hn⟩ | ⟨j,e,he,hk,rfl⟩
 ·have hrun:(execOp a.eval ⟨none,.mapUpdate T x y z,ty,pos,aft,gd⟩).run P w=.ok .skip (w.putObj b (.map (es.push { key:=.int .i64 k,val:=enc v,born:=clock }) (clock + 1))):=by
   simp [execOp,hf.ev hx,hf.ev hy,hf.ev hz,Instr.mapUpdate,run_underlying hT,hget,lC hK,hr,kD _ hb]
  unfold Oper.wp
  rw [hrun,Oper.upon_skip]
  refine hKK _ _ (kk' _ (yQ hc hu rfl rfl (fun w' hw'=>⟨_,_,hw',?_⟩) hlt))
  have h0:=hi.push (enc v) hn
  have h1:=h0.congr (g:=fun j=>(gQ m k v j).map enc) (fun j=>by by_cases hj:j=k <;> simp [gQ,hj])
  rw [Array.toList_push]
  exact ⟨h1.keys,h1.one,h1.old,h1.some',fun s k' h=>by cases h⟩
 ·have hes:es[j]?=some e:=by simpa using he
  have hmod:es.modify j (fun e=>{ e with key:=.int .i64 k,val:=enc v })=es.modify j (fun e=>{ e with val:=enc v }):=by
   apply Array.ext'
   rw [Array.toList_modify,Array.toList_modify]
   apply List.ext_getElem?
   intro q
   rw [List.getElem?_modify,List.getElem?_modify]
   by_cases hjq:j=q
   ·subst hjq
    rw [he]
    simp
    rw [← hk]
   ·simp [hjq]
  have hrun:(execOp a.eval ⟨none,.mapUpdate T x y z,ty,pos,aft,gd⟩).run P w=.ok .skip (w.putObj b (.map (es.modify j fun e=>{ e with val:=enc v }) clock)):=by
   simp [execOp,hf.ev hx,hf.ev hy,hf.ev hz,Instr.mapUpdate,run_underlying hT,hget,lC hK,hr,hes,hk,Instr.keyThatStays,Instr.sameBits,hmod,kD _ hb]
  unfold Oper.wp
  rw [hrun,Oper.upon_skip]
  refine hKK _ _ (kk' _ (yQ hc hu rfl rfl (fun w' hw'=>⟨_,_,hw',?_⟩) hlt))
  rw [Array.toList_modify]
  refine (hi.put (enc v) he hk).congr fun j=>?_
  by_cases hj:j=k <;> simp [gQ,hj]

def inM (n:Int):Option Unit:=if 0≤n∧n≤1000000 then some () else none
theorem aCz {n:Int} {u:Unit} (h:inM n=some u):0≤n∧n≤1000000:=by
 unfold inM at h
 split at h
 ·assumption
 ·cases h
theorem aDj {z:Array Value} {sz:Nat} (hz:z.size=sz) (h0:0 < sz) (n:Nat):madeCells z (n * sz)=(List.replicate n z.toList).flatten.toArray:=by
 apply Array.ext'
 apply List.ext_getElem?
 intro k
 have hlen:(List.replicate n z.toList).flatten.length=n * sz:=by
  simp [hz]
 by_cases hk:k < n * sz
 ·have hq:k / sz < n:=(Nat.div_lt_iff_lt_mul h0).2 hk
  have hr:k % sz < z.toList.length:=by simp [hz]; exact Nat.mod_lt _ h0
  have hkk:k / sz * sz + k % sz=k:=by rw [Nat.mul_comm]; exact Nat.div_add_mod k sz
  have e1:=tW (sz:=sz) (r:=z.toList) (u:=z.toList[k % sz]) (j:=k % sz) (List.getElem?_eq_getElem hr) (List.replicate n z.toList) (k / sz) (by
   intro r hr'
   rw [(List.mem_replicate.1 hr').2]
   simp [hz]) (by rw [List.getElem?_replicate,if_pos hq])
  rw [hkk] at e1
  show (madeCells z (n * sz)).toList[k]?=(List.replicate n z.toList).flatten[k]?
  rw [e1]
  unfold madeCells
  have hr':k % sz < z.size:=by rw [hz]; exact Nat.mod_lt _ h0
  simp [hk,hz]
  exact getElem!_pos z _ hr'
 ·rw [List.getElem?_eq_none (by rw [← Array.size_eq_length_toList,size_madeCells]; omega),List.getElem?_eq_none (by simpa [hlen] using hk)]
theorem stMk {e sz by':Nat} {z:Value} {n:Int} {k1 k2:IntKind} {m:Nat} {rows:List (List Value)} (hf:Has N a F) (hc:Ctx G L w) (hg:pD ops F ⟨some d,.makeSlice T x y,ty,pos,aft,gd⟩=some true) (hN:Nat.blt d N.n=true)
  (hT:SlT P T e sz by' z) (hx:ev F x=some (.int k1 n)) (hy:ev F y=some (.int k2 n)) (hn:0≤n∧n≤1000000) (hb:Nat.ble by' 1000000=true) (hs:Nat.ble sz 16=true) (hr:rows=List.replicate n.toNat z.cells.toList) (hm:m=n.toNat)
  (k:∀ b a w,Has N a ((d,.slice (some ⟨b,0,none⟩) m n.toNat)::F)→Ctx G (.row (some ⟨b,0,none⟩) n.toNat rows e sz::L) w→wpList P ops Q rest a w):wpList P ops Q (⟨some d,.makeSlice T x y,ty,pos,aft,gd⟩::rest) a w:=by
 subst hm
 refine wpList_step fun K hK=>?_
 rw [fC hf hg,if_pos rfl]
 obtain ⟨hu,i,hi,hz,hsz,hby,hzs,h0⟩:=hT
 have hb':by'≤1000000:=Nat.le_of_ble_eq_true hb
 have hs':sz≤16:=Nat.le_of_ble_eq_true hs
 have hN1:n.toNat * sz≤1000000 * 16:=Nat.mul_le_mul (by omega) hs'
 have hN2:(by':Int) * n≤1000000 * 1000000:=Int.mul_le_mul (by omega) hn.2 hn.1 (by omega)
 have h:=run_makeSlice (P:=P) w T e i z hu hi hz k1 k2 n n hn.1 (Int.le_refl _) (by rw [hsz]; omega) (by rw [hby]; omega) (by omega)
 rw [hsz,aDj (by simpa using hzs) h0,← hr] at h
 have hr2:(execOp a.eval ⟨some d,.makeSlice T x y,ty,pos,aft,gd⟩).run P w=.ok (.value (.slice (some ⟨w.heap.size,0,none⟩) n.toNat n.toNat)) (w.alloc (.cells rows.flatten.toArray e)):=by
  simp only [execOp,Sem.run_bind,hf.ev hx,hf.ev hy]
  rw [h]
  rfl
 unfold Oper.wp
 rw [hr2,Oper.upon_value]
 have hl:∀ r ∈ rows,r.length=sz:=by
  intro r hrm
  rw [hr] at hrm
  rw [(List.mem_replicate.1 hrm).2]
  simpa using hzs
 have hlen:rows.length=n.toNat:=by rw [hr]; simp
 have hnew:=hc.new (.cells rows.flatten.toArray e) (.row (some ⟨w.heap.size,0,none⟩) rows.length rows e sz) rfl ⟨hl,aBj hl (by simp only [maxLen]; omega)⟩
 rw [hlen] at hnew
 exact hK _ _ (k _ _ _ (hf.put hN _) hnew)
theorem pEqN {e n cap:Nat} {p:Option Addr} {T':TypeId} (hT:P.underlying T=some (.slice e)) (hx:ev F x=some (.slice p n cap)) (hy:ev F y=some (.slice none 0 0)):Pu P ⟨some d,.binOp .eql T x y T',ty,pos,aft,gd⟩ F (.bool p.isNone):=fun N a w hf=>by
 simp only [execOp,hf.ev hx,hf.ev hy]
 simp [go_sem,binOp,run_equal_slice_nil w _ _ _ _ _ hT]
end steps
def aL {α:Type} (n:Nat) (f:Nat→α):List α:=(List.range n).map f
theorem aFy {α:Type} {n:Nat} {f:Nat→α}:(aL n f).length=n:=by simp [aL]
theorem pSlA {α:Type} {P:Program} {F:List (Nat × Value)} {d:Option Nat} {T ty e sz n b o:Nat} {pos:String} {aft:Array Edge} {gd:Option (Nat × Bool)} {x:Operand} {low high:Option Operand} {xs v:List α} {lo hi:Int} (hT:P.underlying T=some (.array n e)) (hs:(P.info? e).map (·.size)=some sz)
  (hx:ev F x=some (.pointer (some ⟨b,o,none⟩))) (hn:xs.length=n) (hl:oev F 0 low=some lo) (hh:oev F n high=some hi) (h:vS xs lo hi=some v) :
  Pu P ⟨d,.slice T x low high none,ty,pos,aft,gd⟩ F (.slice (wQ (some ⟨b,o,none⟩) n lo.toNat sz) v.length (n - lo.toNat)):=fun N a w hf=>by
 obtain ⟨h0,h1,h2,hv,hlen⟩:=yD h
 subst hn
 have ho:∀ (o:Option Operand) (dft r:Int),oev F dft o=some r→(o.map a.eval=none∧r=dft) ∨ ∃ k,o.map a.eval=some (.int k r):=by
  intro o dft r h
  cases o with
  | none=>left; simp [oev] at h; exact ⟨rfl,h.symm⟩
  | some y=>
   right
   simp only [oev] at h
   cases hy:ev F y with
   | none=>simp [hy] at h
   | some u=>
    rw [hy] at h
    have:=hf.ev hy
    cases u <;> simp at h
    rename_i k n
    subst h
    exact ⟨k,by simp only [Option.map_some,this]⟩
 have key:(Instr.sliceBounds false xs.length xs.length (low.map a.eval) (high.map a.eval) none).run P w=.ok (lo.toNat,hi.toNat,xs.length) w:=by
  have r1:∀ k code,(Instr.sliceBound (.int k hi) xs.length code).run P w=.ok hi.toNat w:=fun k code=>run_sliceBound w _ _ _ _ (by omega) (by omega)
  have r2:∀ k code,(Instr.sliceBound (.int k lo) hi.toNat code).run P w=.ok lo.toNat w:=fun k code=>run_sliceBound w _ _ _ _ h0 (by omega)
  have r3:∀ k code,hi=(xs.length:Int)→(Instr.sliceBound (.int k lo) xs.length code).run P w=.ok lo.toNat w:=fun k code _=>run_sliceBound w _ _ _ _ h0 (by omega)
  rcases ho _ _ _ hl with ⟨e1,rfl⟩ | ⟨k,e1⟩ <;> rcases ho _ _ _ hh with ⟨e2,e3⟩ | ⟨k',e2⟩
  ·subst e3; simp [Instr.sliceBounds,e1,e2]
  ·simp [Instr.sliceBounds,e1,e2,r1]
  ·have:=r3 k .sliceB e3
   subst e3; simp [Instr.sliceBounds,e1,e2,this]
  ·simp [Instr.sliceBounds,e1,e2,r1,r2]
 have hat:(Instr.sliceAt T (.pointer (some ⟨b,o,none⟩)) (low.map a.eval) (high.map a.eval) none).run P w=.ok (.slice (wQ (some ⟨b,o,none⟩) xs.length lo.toNat sz) v.length (xs.length - lo.toNat)) w:=by
  simp [Instr.sliceAt,run_underlying hT,Instr.sureAddr,key,mL hs,wQ,hlen]
  split <;> simp_all
 simp [execOp,hf.ev hx,hat]
theorem aN7 {G:bA} {L L':List Ent} {w:World} {b T:Nat} {cs:List Value} (hc:Ctx G L w) (hp:tF L (.box b cs T) L') :
  ∃ G',G.le G'∧G'.blk b=some (.cells cs.toArray T (0,0))∧Ctx G' L' w∧∀ (Lx:List Ent) (w':World),Ctx G' Lx w'→Ctx G (.box b cs T::Lx) w':=by
 have h:=hc.pick hp
 have hg:w.heap[b]?=some (.cells cs.toArray T (0,0)):=h.sat _ List.mem_cons_self
 obtain ⟨hs1,hs2⟩:=List.pairwise_cons.1 h.sep
 have hfr:G.blk b=none:=h.fresh _ List.mem_cons_self b rfl
 refine ⟨{ G with blk:=fun b'=>if b'=b then some (.cells cs.toArray T (0,0)) else G.blk b' },⟨fun b' o hb=>?_,rfl,rfl,rfl,rfl⟩,by simp,?_,?_⟩
 ·have:b' ≠ b:=fun e=>by subst e; rw [hfr] at hb; cases hb
  simp [this,hb]
 ·refine ⟨h.os,h.tape,h.output,h.sz,?_,fun e he=>h.sat e (List.mem_cons_of_mem _ he),?_,hs2⟩
  ·intro b' o hb
   simp only at hb
   split at hb
   ·rename_i e; subst e; simp only [Option.some.injEq] at hb; subst hb; exact hg
   ·exact h.pers b' o hb
  ·intro e he b' hb
   have hne:b' ≠ b:=fun e'=>hs1 e he b rfl (e' ▸ hb)
   simp [hne,h.fresh e (List.mem_cons_of_mem _ he) b' hb]
 ·intro Lx w' h'
  have hb:w'.heap[b]?=some (.cells cs.toArray T (0,0)):=h'.pers b _ (by simp)
  refine ⟨h'.os,h'.tape,h'.output,h'.sz,?_,?_,?_,List.pairwise_cons.2 ⟨fun e he b' hb1 hb2=>?_,h'.sep⟩⟩
  ·intro b' o hbo
   have:b' ≠ b:=fun e=>by subst e; rw [hfr] at hbo; cases hbo
   exact h'.pers b' o (by simp [this,hbo])
  ·intro e he
   rcases List.mem_cons.1 he with rfl | he
   ·exact hb
   ·exact h'.sat e he
  ·intro e he b' hbe
   rcases List.mem_cons.1 he with rfl | he
   ·simp only [Ent.own,Option.some.injEq] at hbe; subst hbe; exact hfr
   ·have:=h'.fresh e he b' hbe
    simp only at this
    split at this
    ·cases this
    ·exact this
  ·simp only [Ent.own,Option.some.injEq] at hb1
   subst hb1
   have:=h'.fresh e he b hb2
   simp at this
theorem rdA {α:Type} {G:bA} {b o n sz T:Nat} {pre post:List Value} {enc:α→List Value} {f:Nat→α} {fr:Nat × Nat} (hz:∀ x,(enc x).length=sz) (hb:G.blk b=some (.cells (pre++(arr n enc f++post)).toArray T fr)) (ho:pre.length=o) (hn:Nat.ble n 1000000=true) :
  Rd G sz (some ⟨b,o,none⟩) n ((aL n f).map enc):=by
 subst ho
 have hn':n≤1000000:=Nat.le_of_ble_eq_true hn
 refine ⟨by simp [aL],by simp only [maxLen]; omega,?_,.inr ⟨b,_,rfl,_,T,fr,hb,?_⟩⟩
 ·intro r hr
  obtain ⟨x,-,rfl⟩:=List.mem_map.1 hr
  exact hz x
 ·intro i r hi j u hu
  have hin:i < n:=by
   have:=(List.getElem?_eq_some_iff.1 hi).1
   simpa [aL] using this
  have hr:r=enc (f i):=by
   simp [aL,hin] at hi
   exact hi.symm
  subst hr
  have hj:j < sz:=by
   rw [← hz (f i)]
   exact (List.getElem?_eq_some_iff.1 hu).1
  have h1:=aB5 (enc:=enc) hz f hj n hin
  have hlt:i * sz + j < (arr n enc f).length:=by
   rw [oS hz]
   have:(i + 1) * sz≤n * sz:=Nat.mul_le_mul_right _ (by omega)
   rw [Nat.succ_mul] at this
   omega
  rw [show pre.length + i * sz + j=pre.length + (i * sz + j) by omega]
  simp only [List.getElem?_toArray]
  rw [List.getElem?_append_right (by omega),Nat.add_sub_cancel_left,List.getElem?_append_left hlt,h1]
  exact hu
theorem aJx {α:Type} {G:bA} {sz c:Nat} {p:Option Addr} {enc:α→List Value} {xs:List α} (h:Rd G sz p c (xs.map enc)):(p.isNone=true∧xs=[]) ∨ p.isNone=false:=by
 obtain ⟨-,-,-,h⟩:=h
 cases p with
 | some q=>exact .inr rfl
 | none=>
  left
  refine ⟨rfl,?_⟩
  rcases h with h | ⟨b,o,hb,-⟩
  ·simpa using h
  ·cases hb
theorem aGa {ς α:Type} {P:Program} {Q:Exit→Act→World→Prop} {id:Nat} {g:Operand} {ps:Array Tmp} {assign body:Code} {a:Act} {w:World} {n:Nat} {ds:List Deferred} {F:List (Nat × Value)} {G:bA} {gf:Nat} {caps:List Value}
  {encs:α→List Value} {C C2 L0 Lf:List Ent} (S:ς→List Ent→Prop) (bodyF:ς→α→Option (Rs ς)) (s0:ς) (sF:Rs ς)
  (hf:Has ⟨n,ds⟩ a F) (hc:Ctx G (C++(L0++Lf)) w) (hg:ev F g=some (.func (.func gf) #[] caps.toArray)) (hen:En P gf) (hps:∀ x,(encs x).length=ps.size) (hpn:ps.toList.all (fun p=>Nat.blt p n)=true)
  (hS:S s0 L0)
  (hit:∀ (l m:Nat) (J:Rs ς→List Ent→Prop) (A Lx:List Ent) (w:World),rJ P G l encs J (rY bodyF)→J (.go s0) (A++L0)→Ctx G (C++((A++L0)++Lx)) w →
   Calls P gf (.func (.yield l) #[] #[]::caps).toArray w fun e w'=>(∃ v,e=.returned v)∧∃ L',J sF L'∧Ctx G (C2++(L'++Lx)) w')
  (hround:∀ (l m:Nat) (s:ς) (x:α) (o:Rs ς) (L Lr Lb:List Ent) (a:Act) (w:World) (K:Act→World→Prop),S s L→bodyF s x=some o→Has ⟨n,[]⟩ a (aC0 ps.toList (encs x) F)→Ctx G (L++Lr) w →
   (∀ a w L1,Ctx G (L1++Lr) w→(∀ w',Ctx G (L1++Lb) w'→body.wpIn (Fence.wide.inRound l) m P (aLq id G S Lb o) a w')→K a w) →
   assign.wpIn (Fence.wide.inRound l) m P (Exit.then K fun _ _ _=>False) a w)
  (hdone:∀ (D:Nat) (s:ς) (L:List Ent) (a:Act) (w:World),(sF=.go s ∨ sF=.brk s)→S s L→Has ⟨n,nY D::ds⟩ a F→Ctx G (.raw D (.deferred (some []))::(C2++(L++Lf))) w→Q .normal a w)
  (hret:∀ (D:Nat) (s:ς) (L:List Ent) (a:Act) (w:World),sF=.ret s→S s L→Has ⟨n,nY D::ds⟩ a F→Ctx G (.raw D (.deferred (some []))::(C2++(L++Lf))) w→Q .ret a w) :
  (Code.block id (Code.rangeFunc g ps assign body)).wp P Q a w:=by
 refine wp_block ((wpIn_wide (n:=1)).1 (wpIn_rangeFunc ?_))
 intro fn _
 obtain ⟨rec,hrec⟩:∃ rec:LoopState→Option Code→Loop,rec=fun st pe=>{ state:=st,pending:=pe,fn,tmps:=a.tmps,params:=ps,assign,body,defers:=w.heap.size }:=⟨_,rfl⟩
 have hc0:Ctx G (.raw (w.heap.size + 1) (.loop (rec .ready none))::.raw w.heap.size (.deferred (some []))::(C++(L0++Lf))) ((w.alloc (.deferred (some []))).alloc (.loop (rec .ready none))):=by
  have h1:=hc.newRaw (.deferred (some []))
  have h2:=h1.newRaw (.loop (rec .ready none))
  rwa [World.size_alloc] at h2
 obtain ⟨W1,hW1⟩:∃ W1,(w.alloc (.deferred (some []))).alloc (.loop (rec .ready none))=W1:=⟨_,rfl⟩
 rw [hW1] at hc0
 have hpush:∀ (C:List Ent) (x y:Ent) (M:List Ent),(x::y::(C++(M++Lf))).Perm (C++((x::y::M)++Lf)):=fun C x y M=>by
  have:(C++((x::y::M)++Lf))=C++([x,y]++(M++Lf)):=rfl
  rw [this]
  exact (List.perm_append_comm_assoc [x,y] C (M++Lf))
 have heval:a.eval g=.func (.func gf) #[] caps.toArray:=hf.ev hg
 refine ⟨w.heap.size + 1,[nY w.heap.size],W1,{ target:=.fn (.func gf) caps.toArray,args:=#[.func (.yield (w.heap.size + 1)) #[] #[]] },W1,gf,
  #[.func (.yield (w.heap.size + 1)) #[] #[]]++caps.toArray,W1,?_,?_,fun _ _=>trivial,?_,by simp [Fence.wide],?_⟩
 ·rw [← hW1,hrec]
  exact run_enterLoop_outer _ _ _ _ _
 ·simp only [resolve,heval]
  simp [go_sem]
 ·have:=hen (#[.func (.yield (w.heap.size + 1)) #[] #[]]++caps.toArray)
  simp only [invoke,this]
 ·have hcall:=hit (w.heap.size + 1) 0 (aJ3 rec (w.heap.size + 1) w.heap.size id S) [.raw (w.heap.size + 1) (.loop (rec .ready none)),.raw w.heap.size (.deferred (some []))] Lf _ ?_ ⟨L0,hS,rfl⟩ (hc0.perm (hpush C _ _ L0))
  ·have hargs:(#[.func (.yield (w.heap.size + 1)) #[] #[]]++caps.toArray:Array Value)=(.func (.yield (w.heap.size + 1)) #[] #[]::caps).toArray:=by simp
   rw [hargs]
   refine (callsIn_wide.2 hcall).mono ?_
   rintro e w3 ⟨⟨v,rfl⟩,L',hJ,hc3⟩
   have fin:∀ (st:LoopState) (pe:Option Code) (M:List Ent),st ≠ .busy→Ctx G (C2++((.raw (w.heap.size + 1) (.loop (rec st pe))::.raw w.heap.size (.deferred (some []))::M)++Lf)) w3 →
     ∃ w4,(Instr.endLoop (w.heap.size + 1)).run P w3=.ok pe w4∧Ctx G (.raw w.heap.size (.deferred (some []))::(C2++(M++Lf))) w4:=fun st pe M hst hcM=>by
    have hcM':=hcM.perm (hpush C2 _ _ M).symm
    obtain ⟨hb,hcu⟩:=hcM'.rawUpd (o':=.loop { rec st pe with state:=.exhausted }) List.mem_cons_self .here
    have hst':(rec st pe).state=st:=by rw [hrec]
    have hpe:(rec st pe).pending=pe:=by rw [hrec]
    have:=run_endLoop (P:=P) hb (by rw [hst']; exact hst)
    exact ⟨_,this.trans (congrArg (fun q=>Result.ok q _) hpe),hcu.tail⟩
   have hfm:Has ⟨n,nY w.heap.size::ds⟩ { a with defers:=[nY w.heap.size]++a.defers } F:=⟨hf.size,by simp [hf.defers],hf.get⟩
   cases sF with
   | go s=>
    obtain ⟨M,hSM,rfl⟩:=hJ
    obtain ⟨w4,hr,hc4⟩:=fin .ready none M (by simp) hc3
    exact ⟨none,w4,hr,hdone _ s M _ _ (.inl rfl) hSM hfm hc4⟩
   | brk s=>
    obtain ⟨M,hSM,rfl⟩:=hJ
    obtain ⟨w4,hr,hc4⟩:=fin .done _ M (by simp) hc3
    exact ⟨_,w4,hr,wpIn_exit (fB (hdone _ s M _ _ (.inr rfl) hSM hfm hc4))⟩
   | ret s=>
    obtain ⟨M,hSM,rfl⟩:=hJ
    obtain ⟨w4,hr,hc4⟩:=fin .done _ M (by simp) hc3
    exact ⟨_,w4,hr,wpIn_ret (hret _ s M _ _ rfl hSM hfm hc4)⟩
  ·-- a round
   intro m s x r L Lx W hJ hy hcW
   cases s with
   | brk s=>cases hy
   | ret s=>cases hy
   | go s=>
    obtain ⟨M,hSM,rfl⟩:=hJ
    simp only [rY,Option.map_eq_some_iff] at hy
    obtain ⟨o,hbo,rfl⟩:=hy
    have hlW:W.heap[w.heap.size + 1]?=some (.loop (rec .ready none)):=hcW.sat (.raw (w.heap.size + 1) (.loop (rec .ready none))) (by simp)
    have hyr:=run_yield (P:=P) (args:=(encs x).toArray) hlW (by rw [hrec]; simpa using hps x)
    refine ⟨_,_,_,_,hyr,roundIn_of_wpIn trivial ?_⟩
    have hhas:=xV ps.toList (encs x) (F:=F) (n:=n) (fun p hp=>by
     have:=List.all_eq_true.1 hpn p hp
     simpa [Nat.blt_eq] using this) (a:={ a with defers:=[] }) ⟨hf.size,rfl,hf.get⟩
    have hmid:∀ (A B:Ent) (M:List Ent),(A::B::M++Lx).Perm (M++A::B::Lx):=fun A B M=>by
     have h1:(M++A::B::Lx)=M++([A,B]++Lx):=rfl
     have h2:(A::B::M++Lx)=[A,B]++(M++Lx):=rfl
     rw [h1,h2]
     exact (List.perm_append_comm_assoc [A,B] M Lx)
    have htm:(ps.zip (encs x).toArray).foldl (fun t p=>t.setIfInBounds p.1 p.2) (rec .ready none).tmps=(ps.toList.zip (encs x)).foldl (fun t p=>t.setIfInBounds p.1 p.2) a.tmps:=by
     rw [hrec,← Array.foldl_toList]
     simp
    have hgo:=hround (w.heap.size + 1) m s x o M (.raw (w.heap.size + 1) (.loop (rec .ready none))::.raw w.heap.size (.deferred (some []))::Lx) (.raw (w.heap.size + 1) (.loop { rec .ready none with state:=.busy })::.raw w.heap.size (.deferred (some []))::Lx) _ W
     (fun a₁ w₁=>∃ w₂,(Instr.beginRound (w.heap.size + 1)).run P w₁=.ok () w₂∧body.wpIn (Fence.wide.inRound (w.heap.size + 1)) m P (roundPost P (w.heap.size + 1) (fun e w'=>e=.returned (.bool o.on)∧∃ L',aJ3 rec (w.heap.size + 1) w.heap.size id S o L'∧Ctx G (L'++Lx) w')) a₁ w₂) hSM hbo hhas (hcW.perm (hmid _ _ M)) ?_
    ·have hfin:({ tmps:=(ps.zip (encs x).toArray).foldl (fun t p=>t.setIfInBounds p.1 p.2) (rec .ready none).tmps,defers:=[] }:Act)={ tmps:=(ps.toList.zip (encs x)).foldl (fun t p=>t.setIfInBounds p.1 p.2) a.tmps,defers:=[] }:=by rw [htm]
     simp only [hrec] at hfin hgo ⊢
     rw [hfin]
     exact hgo
    ·intro a1 w1 L1 hc1 hb
     obtain ⟨hb1,hcu⟩:=(hc1.perm List.perm_middle).rawUpd (o':=.loop { rec .ready none with state:=.busy }) List.mem_cons_self .here
     have hst:(rec .ready none).state=.ready:=by rw [hrec]
     refine ⟨_,run_beginRound hb1 hst,wpIn_mono (hb _ (hcu.perm List.perm_middle.symm)) ?_⟩
     have fin:∀ (jump:Option Code) (w3:World) (M:List Ent),Ctx G (M++.raw (w.heap.size + 1) (.loop { rec .ready none with state:=.busy })::.raw w.heap.size (.deferred (some []))::Lx) w3 →
       ∃ w4,(Instr.endRound (w.heap.size + 1) jump).run P w3=.ok (.bool jump.isNone) w4∧Ctx G ((.raw (w.heap.size + 1) (.loop (rec (if jump.isNone then .ready else .done) jump))::.raw w.heap.size (.deferred (some []))::M)++Lx) w4:=fun jump w3 M hc3=>by
      obtain ⟨hb3,hcu3⟩:=(hc3.perm List.perm_middle).rawUpd (o':=.loop (rec (if jump.isNone then .ready else .done) jump)) List.mem_cons_self .here
      have:=run_endRound (P:=P) jump hb3
      refine ⟨w3.putObj (w.heap.size + 1) (.loop (rec (if jump.isNone then .ready else .done) jump)),?_,?_⟩
      ·rw [this]; simp only [hrec]
      ·exact hcu3.perm ((List.perm_middle.symm).trans (hmid _ _ M).symm)
     rintro e a3 w3 hp
     cases e with
     | normal=>
      obtain ⟨s',M',rfl,hS',hc3⟩:=hp
      obtain ⟨w4,hr,hc4⟩:=fin none w3 M' hc3
      exact ⟨_,w4,hr,rfl,_,⟨M',hS',rfl⟩,hc4⟩
     | exit i=>
      obtain ⟨rfl,s',M',rfl,hS',hc3⟩:=hp
      obtain ⟨w4,hr,hc4⟩:=fin (some (.exit i)) w3 M' hc3
      exact ⟨_,w4,hr,rfl,_,⟨M',hS',rfl⟩,hc4⟩
     | ret=>
      obtain ⟨s',M',rfl,hS',hc3⟩:=hp
      obtain ⟨w4,hr,hc4⟩:=fin (some .ret) w3 M' hc3
      exact ⟨_,w4,hr,rfl,_,⟨M',hS',rfl⟩,hc4⟩
     | goto t=>exact hp.elim
     | panic ch=>exact hp.elim
     | outgrown=>exact hp.elim


theorem aL4 (C A B Lf:List Ent) (e:Ent):(C++((A++(e::B))++Lf)).Perm (e::(C++((A++B)++Lf))):=by
 have h1:(A++e::B).Perm (e::(A++B)):=List.perm_middle
 have h2:(C++((A++(e::B))++Lf)).Perm (C++((e::(A++B))++Lf)):=(List.perm_append_left_iff C).2 ((List.perm_append_right_iff Lf).2 h1)
 exact h2.trans List.perm_middle
theorem aE4 {G:bA} {w:World} (C:List Ent) {A B Lf:List Ent} {e:Ent} (hc:Ctx G (C++((A++(e::B))++Lf)) w):Ctx G (e::(C++((A++B)++Lf))) w:=hc.perm (aL4 C A B Lf e)
theorem aH8 {G:bA} {w:World} (C:List Ent) {A B Lf:List Ent} {e:Ent} (hc:Ctx G (e::(C++((A++B)++Lf))) w):Ctx G (C++((A++(e::B))++Lf)) w:=hc.perm (aL4 C A B Lf e).symm
section ends
variable {P:Program} {fn:Func} {R:Ending→World→Prop} {a:Act} {w:World} {N:Fm} {F:List (Nat × Value)} {G:bA} {L:List Ent} {r1 r2 r3:ResultVar} {v1 v2 v3:Value} {e:Exit}
theorem aPn {r1 r2 r3 r4:ResultVar} {v1 v2 v3 v4:Value} (he:e=.ret ∨ e=.normal) (hds:N.ds=[]) (hres:fn.results=#[r1,r2,r3,r4]) (hf:Has N a F) (hc:Ctx G L w) (h1:Rv P N F G L r1 v1) (h2:Rv P N F G L r2 v2) (h3:Rv P N F G L r3 v3) (h4:Rv P N F G L r4 v4) (hR:R (.returned (.tuple #[v1,v2,v3,v4])) w):bodyPost P fn R e a w:=by
 refine vU he hds hf ?_ hR
 have k1:=h1.run hf hc
 have k2:=h2.run hf hc
 have k3:=h3.run hf hc
 have k4:=h4.run hf hc
 rw [nM,hres]
 simp [k1,k2,k3,k4]
end ends
theorem At.len {p:Option Addr} {n m sz:Nat} {i:Int} {b o:Nat} (h:At p n sz i b o) (e:n=m):At p m sz i b o:=e ▸ h
end Go.Nilo
