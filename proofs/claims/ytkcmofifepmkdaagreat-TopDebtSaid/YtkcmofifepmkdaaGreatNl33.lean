/-
  Arrays of numbers that are compared; a region with several yields. Conditions: what each theorem names.
-/
import Derived.Test.YtkcmofifepmkdaaGreatNl32
import Derived.ChangeKeysEq
set_option linter.unusedSimpArgs false
set_option linter.unusedVariables false
namespace Go.Nilo
def aC3 (n:Nat) (f g:Nat→Int):Bool:=(List.range n).all fun i=>f i == g i
theorem aFc {n:Nat} {f g:Nat→Int}:aC3 n f g=true ↔ ∀ i,i < n→f i=g i:=by
 unfold aC3
 simp [List.all_eq_true]
section
variable {P:Program}
theorem aDp {e:TypeId} {k:IntKind} (he:P.underlying e=some (.int k)) {n:Nat} (f:Nat→Int) {i:Nat} (hi:i < n) (w:World) :
  (part e (aY [] n aD f []).toArray (i * 1)).run P w=.ok (.int .i64 (f i)) w:=by
 have hg:(arr n aD f)[i]?=some (.int .i64 (f i)):=by
  have:=aB5 (enc:=aD) (sz:=1) (fun _=>rfl) f (j:=0) (by decide) n hi
  simpa [aD] using this
 unfold part
 simp [isAgg,run_underlying he,hg]
theorem zF {e:TypeId} {k:IntKind} (he:P.underlying e=some (.int k)) {n:Nat} (f g:Nat→Int) (d:Nat) (w:World):∀ (is:List Nat),(∀ i ∈ is,i < n) →
  (Op.eqItems (d + 1) e 1 (aY [] n aD f []).toArray (aY [] n aD g []).toArray is).run P w=.ok (is.all fun i=>f i == g i) w
 | [],_=>by simp [Op.eqItems]
 | i::is,h=>by
  have hi:=h i List.mem_cons_self
  have ih:=zF he f g d w is fun j hj=>h j (List.mem_cons_of_mem _ hj)
  unfold Op.eqItems
  simp only [Sem.run_bind,aDp he f hi,aDp he g hi,Result.andThen_ok]
  have:(Op.equalIn (d + 1) e (.int .i64 (f i)) (.int .i64 (g i))).run P w=.ok (f i == g i) w:=by
   simp [Op.equalIn,run_underlying he]
  rw [this]
  simp only [Result.andThen_ok,List.all_cons]
  cases hb:(f i == g i) with
  | false=>simp
  | true=>simpa using ih
theorem aKg {t e:TypeId} {n:Nat} {k:IntKind} (hu:P.underlying t=some (.array n e)) (he:P.underlying e=some (.int k)) (hc:P.cellsOf e=1) (hi:(P.info? e).isSome=true) (f g:Nat→Int) (w:World) :
  (Op.equalIn 10000 t (.agg (aY [] n aD f []).toArray) (.agg (aY [] n aD g []).toArray)).run P w=.ok (aC3 n f g) w:=by
 obtain ⟨i,hi⟩:=Option.isSome_iff_exists.1 hi
 rw [show (10000:Nat)=9999 + 1 from rfl,run_equalIn_array w 9999 _ _ hu hi,hc]
 exact zF he f g 9998 w _ fun j hj=>List.mem_range.1 hj
theorem pIdxA {F:List (Nat × Value)} {ty:TypeId} {pos:String} {aft:Array Edge} {gd:Option (Nat × Bool)} {d:Option Tmp} {x y:Operand} {T e:TypeId} {n:Nat} {k:IntKind} {f:Nat→Int} {i:Int} {un:Unit} (hT:P.underlying T=some (.array n e)) (he:P.underlying e=some (.int k)) (hs:(P.info? e).map (·.size)=some 1)
  (hx:ev F x=some (.agg (aY [] n aD f []).toArray)) (hy:ev F y=some (.int .i64 i)) (hi:inR i n=some un):Pu P ⟨d,.index T x y,ty,pos,aft,gd⟩ F (.int .i64 (f i.toNat)):=fun N a w hf=>by
 obtain ⟨h0,h1⟩:=bF hi
 have hp:=aDp (n:=n) he f (i:=i.toNat) (by omega) w
 simp [execOp,hf.ev hx,hf.ev hy,Instr.index,asIntOf,run_underlying hT,h0,h1,mL hs] at hp ⊢
 simp [hp]
end
section conv
variable {P:Program} {ops:Array Oper} {Q:Exit→Act→World→Prop} {a:Act} {w:World} {n:Nat}
theorem yMid {ls:List Oper} (k:Nat) (J:Act→World→Prop) (hq:∀ a w,¬ Q .outgrown a w) (h1:wpList P ops (Exit.then J Q) (ls.take k) a w)
  (h2:∀ a w,J a w→wpListIn Fence.wide n P ops Q (ls.drop k) a w):wpListIn Fence.wide n P ops Q ls a w:=by
 have:=uS (n:=n) (J:=ls.drop k) (ls:=ls.take k) (P:=P) (ops:=ops) (Q:=Q) (a:=a) (w:=w) hq ?_
 ·rwa [List.take_append_drop] at this
 ·refine qB h1 ?_
  intro e a w he
  cases e <;> first | exact h2 _ _ he | exact he
end conv
section steps
variable {P:Program} {ops:Array Oper} {Q:Exit→Act→World→Prop} {rest:List Oper} {a:Act} {w:World} {N:Fm} {d:Nat} {F:List (Nat × Value)} {G:bA} {L L' L'':List Ent}
 {ty:TypeId} {pos:String} {aft:Array Edge} {gd:Option (Nat × Bool)} {x y:Operand} {T:TypeId}
theorem stMI {ν:Type} {b E K:TypeId} {kk:IntKind} {enc:ν→Value} {m:Int→Option ν} {k:Int} {z:Operand} {v:ν} (hf:Has N a F) (hc:Ctx G L w) (hg:pD ops F ⟨none,.insert T x y z,ty,pos,aft,gd⟩=some true) (hT:P.underlying T=some (.map K E)) (hK:P.underlying K=some (.int kk))
  (hx:ev F x=some (.map (some b))) (hy:ev F y=some (.int .i64 k)) (hz:ev F z=some (enc v))
  (hu:Upd L (.im b (fun j=>(m j).map enc) none) (.im b (fun j=>(gQ m k v j).map enc) none) L')
  (kk':∀ w,Ctx G L' w→wpList P ops Q rest a w):wpList P ops Q (⟨none,.insert T x y z,ty,pos,aft,gd⟩::rest) a w:=by
 refine wpList_step fun KK hKK=>?_
 rw [fC hf hg,if_pos rfl]
 obtain ⟨es,clock,hb,hi⟩:=hc.sat _ hu.mem
 have hlt:b < w.heap.size:=(Array.getElem?_eq_some_iff.1 hb).1
 obtain ⟨r,hr,hcase⟩:=tO (P:=P) hK (k:=k) hi.keys w
 have hget:(getObj b).run P w=.ok (.map es clock) w:=by simp [getObj,Sem.run,hb]
 rcases hcase with ⟨rfl,hn⟩ | ⟨j,e,he,hk,rfl⟩
 ·have hrun:(execOp a.eval ⟨none,.insert T x y z,ty,pos,aft,gd⟩).run P w=.ok .skip (w.putObj b (.map (es.push { key:=.int .i64 k,val:=enc v,born:=clock }) (clock + 1))):=by
   simp [execOp,hf.ev hx,hf.ev hy,hf.ev hz,Instr.mapUpdate,run_underlying hT,hget,lC hK,hr,kD _ hb]
  unfold Oper.wp
  rw [hrun,Oper.upon_skip]
  refine hKK _ _ (kk' _ (yQ hc hu rfl rfl (fun w' hw'=>⟨_,_,hw',?_⟩) hlt))
  have h0:=hi.push (enc v) hn
  have h1:=h0.congr (g:=fun j=>(gQ m k v j).map enc) (fun j=>by by_cases hj:j=k <;> simp [gQ,hj])
  rw [Array.toList_push]
  exact ⟨h1.keys,h1.one,h1.old,h1.some',fun s k' h=>by cases h⟩
 ·have hes:es[j]?=some e:=by simpa using he
  have hmod:es.modify j (fun e=>{ e with key:=.int .i64 k,val:=enc v })=es.modify j (fun e=>{ e with val:=enc v }):=by
   apply Array.ext'
   rw [Array.toList_modify,Array.toList_modify]
   apply List.ext_getElem?
   intro q
   rw [List.getElem?_modify,List.getElem?_modify]
   by_cases hjq:j=q
   ·subst hjq
    rw [he]
    simp
    rw [← hk]
   ·simp [hjq]
  have hrun:(execOp a.eval ⟨none,.insert T x y z,ty,pos,aft,gd⟩).run P w=.ok .skip (w.putObj b (.map (es.modify j fun e=>{ e with val:=enc v }) clock)):=by
   simp [execOp,hf.ev hx,hf.ev hy,hf.ev hz,Instr.mapUpdate,run_underlying hT,hget,lC hK,hr,hes,hk,Instr.keyThatStays,Instr.sameBits,hmod,kD _ hb]
  unfold Oper.wp
  rw [hrun,Oper.upon_skip]
  refine hKK _ _ (kk' _ (yQ hc hu rfl rfl (fun w' hw'=>⟨_,_,hw',?_⟩) hlt))
  rw [Array.toList_modify]
  refine (hi.put (enc v) he hk).congr fun j=>?_
  by_cases hj:j=k <;> simp [gQ,hj]

end steps
end Go.Nilo
