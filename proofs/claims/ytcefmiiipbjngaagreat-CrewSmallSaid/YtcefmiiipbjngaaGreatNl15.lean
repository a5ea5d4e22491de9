/-
  Calls of bound methods, and slices that are made. Conditions: none.
-/
import Derived.Test.YtcefmiiipbjngaaGreatNl14
import Derived.Laws.MakeOwn
import Derived.Laws.Cover3
set_option linter.unusedSimpArgs false
set_option linter.unusedVariables false
namespace Go.Nilo

section steps
variable {P:Program} {ops:Array Oper} {Q:Exit→Act→World→Prop} {rest:List Oper} {a:Act} {w:World} {N:Fm} {d:Nat} {F:List (Nat × Value)} {G:cJ} {L L' L'':List Ent} {v:Value}
 {ty:TypeId} {pos:String} {aft:Array Edge} {gd:Option (Nat × Bool)} {x y:Operand} {T:TypeId}

theorem aI3 {f:Nat} {c:Call} {xs:List Operand} {bs vs caps:List Value} {a:Act} {dd:Option Nat} (hen:En P f) (hf:Has N a F) (hc:c.callee=.value x) (hx:ev F x=some (.func (.func f) bs.toArray caps.toArray)) (hargs:c.args=xs.toArray) (hvs:xs.mapM (ev F)=some vs) :
  (execOp a.eval ⟨dd,.call c,ty,pos,aft,gd⟩).run P w=.ok (.enter f (bs++(vs++caps)).toArray) w:=by
 have e1:c.args.map a.eval=vs.toArray:=by rw [hargs]; apply Array.ext'; simpa using evs hf _ _ hvs
 simp only [execOp,resolve,hc,e1,hf.ev hx,Deferred.ofValue,Sem.run_bind,Sem.run_pure,Result.andThen_ok,invoke,hen _ _]
 simp
theorem stCB {f:Nat} {c:Call} {xs:List Operand} {bs vs caps:List Value} {R:Ending→World→Prop} (hf:Has N a F) (hg:vJ ops F ⟨some d,.call c,ty,pos,aft,gd⟩=some true) (hN:Nat.blt d N.n=true) (hc:c.callee=.value x) (hen:En P f) (hx:ev F x=some (.func (.func f) bs.toArray caps.toArray))
  (hargs:c.args=xs.toArray) (hvs:xs.mapM (ev F)=some vs) (hb:True=True) (hcall:Calls P f (bs++(vs++caps)).toArray w R) (k:∀ e w,R e w→∃ v,e=.returned v∧∀ a,Has N a ((d,v)::F)→wpList P ops Q rest a w):wpList P ops Q (⟨some d,.call c,ty,pos,aft,gd⟩::rest) a w:=by
 refine wpList_step λK hK=>?_
 rw [gX hf hg,if_pos rfl]
 unfold Oper.wp
 rw [aI3 hen hf hc hx hargs hvs,Oper.upon_enter]
 refine hcall.mono λe w' he=>?_
 obtain ⟨v,rfl,hv⟩:=k e w' he
 exact hK _ _ (hv _ (hf.put hN v))
theorem eCB {f:Nat} {c:Call} {xs:List Operand} {bs vs caps:List Value} {dd:Option Nat} (hen:En P f) (hc:c.callee=.value x) (hx:ev F x=some (.func (.func f) bs.toArray caps.toArray)) (hargs:c.args=xs.toArray) (hvs:xs.mapM (ev F)=some vs)
  (hcall:∀ w,Ctx G L w→Calls P f (bs++(vs++caps)).toArray w λe w'=>e=.returned v∧Ctx G L w'):Ev P ⟨dd,.call c,ty,pos,aft,gd⟩ N F G L v:=λa w hf hcx=>by
 unfold Oper.quietAt
 rw [aI3 hen hf hc hx hargs hvs]
 exact ⟨rfl,hcall w hcx⟩

def inM (n:Int):Option Unit:=if 0≤n∧n≤1000000 then some () else none
theorem xC {n:Int} {u:Unit} (h:inM n=some u):0≤n∧n≤1000000:=by
 unfold inM at h
 split at h
 ·assumption
 ·cases h
theorem aG6 {z:Array Value} {sz:Nat} (hz:z.size=sz) (h0:0 < sz) (n:Nat):madeCells z (n * sz)=(List.replicate n z.toList).flatten.toArray:=by
 apply Array.ext'
 apply List.ext_getElem?
 intro k
 have hlen:(List.replicate n z.toList).flatten.length=n * sz:=by
  simp [hz]
 by_cases hk:k < n * sz
 ·have hq:k / sz < n:=(Nat.div_lt_iff_lt_mul h0).2 hk
  have hr:k % sz < z.toList.length:=by simp [hz]; exact Nat.mod_lt _ h0
  have hkk:k / sz * sz + k % sz=k:=by rw [Nat.mul_comm]; exact Nat.div_add_mod k sz
  have e1:=wX (sz:=sz) (r:=z.toList) (u:=z.toList[k % sz]) (j:=k % sz) (List.getElem?_eq_getElem hr) (List.replicate n z.toList) (k / sz) (by
   intro r hr'
   rw [(List.mem_replicate.1 hr').2]
   simp [hz]) (by rw [List.getElem?_replicate,if_pos hq])
  rw [hkk] at e1
  show (madeCells z (n * sz)).toList[k]?=(List.replicate n z.toList).flatten[k]?
  rw [e1]
  unfold madeCells
  have hr':k % sz < z.size:=by rw [hz]; exact Nat.mod_lt _ h0
  simp [hk,hz]
  exact getElem!_pos z _ hr'
 ·rw [List.getElem?_eq_none (by rw [← Array.size_eq_length_toList,size_madeCells]; omega),List.getElem?_eq_none (by simpa [hlen] using hk)]
theorem aKk {e sz by':Nat} {z:Value} {n:Int} {k1 k2:IntKind} {m:Nat} {rows:List (List Value)} (hf:Has N a F) (hc:Ctx G L w) (hg:vJ ops F ⟨some d,.makeSlice T x y,ty,pos,aft,gd⟩=some true) (hN:Nat.blt d N.n=true)
  (hT:SlT P T e sz by' z) (hx:ev F x=some (.int k1 n)) (hy:ev F y=some (.int k2 n)) (hn:0≤n∧n≤1000000) (hb:Nat.ble by' 1000000=true) (hs:Nat.ble sz 16=true) (hr:rows=List.replicate n.toNat z.cells.toList) (hm:m=n.toNat)
  (k:∀ b a w,Has N a ((d,.slice (some ⟨b,0,none⟩) m n.toNat)::F)→Ctx G (.row (some ⟨b,0,none⟩) n.toNat rows e sz::L) w→wpList P ops Q rest a w):wpList P ops Q (⟨some d,.makeSlice T x y,ty,pos,aft,gd⟩::rest) a w:=by
 subst hm
 refine wpList_step λK hK=>?_
 rw [gX hf hg,if_pos rfl]
 obtain ⟨hu,i,hi,hz,hsz,hby,hzs,h0⟩:=hT
 have hb':by'≤1000000:=Nat.le_of_ble_eq_true hb
 have hs':sz≤16:=Nat.le_of_ble_eq_true hs
 have hN1:n.toNat * sz≤1000000 * 16:=Nat.mul_le_mul (by omega) hs'
 have hN2:(by':Int) * n≤1000000 * 1000000:=Int.mul_le_mul (by omega) hn.2 hn.1 (by omega)
 have h:=run_makeSlice (P:=P) w T e i z hu hi hz k1 k2 n n hn.1 (Int.le_refl _) (by rw [hsz]; omega) (by rw [hby]; omega) (by omega)
 rw [hsz,aG6 (by simpa using hzs) h0,← hr] at h
 have hr2:(execOp a.eval ⟨some d,.makeSlice T x y,ty,pos,aft,gd⟩).run P w=.ok (.value (.slice (some ⟨w.heap.size,0,none⟩) n.toNat n.toNat)) (w.alloc (.cells rows.flatten.toArray e)):=by
  simp only [execOp,Sem.run_bind,hf.ev hx,hf.ev hy]
  rw [h]
  rfl
 unfold Oper.wp
 rw [hr2,Oper.upon_value]
 have hl:∀ r ∈ rows,r.length=sz:=by
  intro r hrm
  rw [hr] at hrm
  rw [(List.mem_replicate.1 hrm).2]
  simpa using hzs
 have hlen:rows.length=n.toNat:=by rw [hr]; simp
 have hnew:=hc.new (.cells rows.flatten.toArray e) (.row (some ⟨w.heap.size,0,none⟩) rows.length rows e sz) rfl ⟨hl,aF2 hl (by simp only [maxLen]; omega)⟩
 rw [hlen] at hnew
 exact hK _ _ (k _ _ _ (hf.put hN _) hnew)
theorem pEqN {e n cap:Nat} {p:Option Addr} {T':TypeId} (hT:P.underlying T=some (.slice e)) (hx:ev F x=some (.slice p n cap)) (hy:ev F y=some (.slice none 0 0)):Pu P ⟨some d,.binOp .eql T x y T',ty,pos,aft,gd⟩ F (.bool p.isNone):=λN a w hf=>by
 simp only [execOp,hf.ev hx,hf.ev hy]
 simp [go_sem,binOp,run_equal_slice_nil w _ _ _ _ _ hT]
end steps
theorem aNc {G:cJ} {L L':List Ent} {w:World} {b T:Nat} {cs:List Value} (hc:Ctx G L w) (hp:uG L (.box b cs T) L') :
  ∃ G',G.le G'∧G'.blk b=some (.cells cs.toArray T (0,0))∧Ctx G' L' w∧∀ (Lx:List Ent) (w':World),Ctx G' Lx w'→Ctx G (.box b cs T::Lx) w':=by
 have h:=hc.pick hp
 have hg:w.heap[b]?=some (.cells cs.toArray T (0,0)):=h.sat _ List.mem_cons_self
 obtain ⟨hs1,hs2⟩:=List.pairwise_cons.1 h.sep
 have hfr:G.blk b=none:=h.fresh _ List.mem_cons_self b rfl
 refine ⟨{ G with blk:=λb'=>if b'=b then some (.cells cs.toArray T (0,0)) else G.blk b' },⟨λb' o hb=>?_,rfl,rfl,rfl,rfl⟩,by simp,?_,?_⟩
 ·have:b' ≠ b:=λe=>by subst e; rw [hfr] at hb; cases hb
  simp [this,hb]
 ·refine ⟨h.os,h.tape,h.output,h.sz,?_,λe he=>h.sat e (List.mem_cons_of_mem _ he),?_,hs2⟩
  ·intro b' o hb
   simp only at hb
   split at hb
   ·rename_i e; subst e; simp only [Option.some.injEq] at hb; subst hb; exact hg
   ·exact h.pers b' o hb
  ·intro e he b' hb
   have hne:b' ≠ b:=λe'=>hs1 e he b rfl (e' ▸ hb)
   simp [hne,h.fresh e (List.mem_cons_of_mem _ he) b' hb]
 ·intro Lx w' h'
  have hb:w'.heap[b]?=some (.cells cs.toArray T (0,0)):=h'.pers b _ (by simp)
  refine ⟨h'.os,h'.tape,h'.output,h'.sz,?_,?_,?_,List.pairwise_cons.2 ⟨λe he b' hb1 hb2=>?_,h'.sep⟩⟩
  ·intro b' o hbo
   have:b' ≠ b:=λe=>by subst e; rw [hfr] at hbo; cases hbo
   exact h'.pers b' o (by simp [this,hbo])
  ·intro e he
   rcases List.mem_cons.1 he with rfl | he
   ·exact hb
   ·exact h'.sat e he
  ·intro e he b' hbe
   rcases List.mem_cons.1 he with rfl | he
   ·simp only [Ent.own,Option.some.injEq] at hbe; subst hbe; exact hfr
   ·have:=h'.fresh e he b' hbe
    simp only at this
    split at this
    ·cases this
    ·exact this
  ·simp only [Ent.own,Option.some.injEq] at hb1
   subst hb1
   have:=h'.fresh e he b hb2
   simp at this
theorem aM0 {α:Type} {G:cJ} {sz c:Nat} {p:Option Addr} {enc:α→List Value} {xs:List α} (h:Rd G sz p c (xs.map enc)):(p.isNone=true∧xs=[]) ∨ p.isNone=false:=by
 obtain ⟨-,-,-,h⟩:=h
 cases p with
 | some q=>exact .inr rfl
 | none=>
  left
  refine ⟨rfl,?_⟩
  rcases h with h | ⟨b,o,hb,-⟩
  ·simpa using h
  ·cases hb
section ends
variable {P:Program} {fn:Func} {R:Ending→World→Prop} {a:Act} {w:World} {N:Fm} {F:List (Nat × Value)} {G:cJ} {L:List Ent} {r1 r2 r3:ResultVar} {v1 v2 v3:Value} {e:Exit}
end ends
theorem At.len {p:Option Addr} {n m sz:Nat} {i:Int} {b o:Nat} (h:At p n sz i b o) (e:n=m):At p m sz i b o:=e ▸ h
end Go.Nilo
