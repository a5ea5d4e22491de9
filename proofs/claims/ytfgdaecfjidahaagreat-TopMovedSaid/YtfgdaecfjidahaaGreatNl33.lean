/-
  Maps that are written out; the keys of a map, in order. Conditions: what each theorem names.
-/
import Derived.Test.YtfgdaecfjidahaaGreatNl32
import Derived.Shelf.SlIterI.Nil
import Derived.Shelf.SortM.Plain
import Derived.Shelf.SortM.SortNone
set_option linter.unusedSimpArgs false
set_option linter.unusedVariables false
namespace Go.Nilo
open Go.RowKit Go.Maps Go.Sort
section steps
variable {P:Program} {ops:Array Oper} {Q:Exit→Act→World→Prop} {rest:List Oper} {a:Act} {w:World} {N:Fm} {d:Nat} {F:List (Nat × Value)} {G:aU} {L L' L'':List Ent}
 {ty:TypeId} {pos:String} {aft:Array Edge} {gd:Option (Nat × Bool)} {x y:Operand} {T:TypeId}
theorem stMI {ν:Type} {b E K:TypeId} {kk:IntKind} {enc:ν→Value} {m:Int→Option ν} {k:Int} {z:Operand} {v:ν} (hf:Has N a F) (hc:Ctx G L w) (hg:nX ops F ⟨none,.insert T x y z,ty,pos,aft,gd⟩=some true) (hT:P.underlying T=some (.map K E)) (hK:P.underlying K=some (.int kk))
  (hx:ev F x=some (.map (some b))) (hy:ev F y=some (.int .i64 k)) (hz:ev F z=some (enc v))
  (hu:Upd L (.im b (fun j=>(m j).map enc) none) (.im b (fun j=>(rM m k v j).map enc) none) L')
  (kk':∀ w,Ctx G L' w→wpList P ops Q rest a w):wpList P ops Q (⟨none,.insert T x y z,ty,pos,aft,gd⟩::rest) a w:=by
 refine wpList_step fun KK hKK=>?_
 rw [fF hf hg,if_pos rfl]
 obtain ⟨es,clock,hb,hi⟩:=hc.sat _ hu.mem
 have hlt:b < w.heap.size:=(Array.getElem?_eq_some_iff.1 hb).1
 obtain ⟨r,hr,hcase⟩:=uS (P:=P) hK (k:=k) hi.keys w
 have hget:(getObj b).run P w=.ok (.map es clock) w:=by simp [getObj,Sem.run,hb]
 rcases hcase with ⟨rfl,hn⟩ | ⟨j,e,he,hk,rfl⟩
 ·have hrun:(execOp a.eval ⟨none,.insert T x y z,ty,pos,aft,gd⟩).run P w=.ok .skip (w.putObj b (.map (es.push { key:=.int .i64 k,val:=enc v,born:=clock }) (clock + 1))):=by
   simp [execOp,hf.ev hx,hf.ev hy,hf.ev hz,Instr.mapUpdate,run_underlying hT,hget,mI hK,hr,kN _ hb]
  unfold Oper.wp
  rw [hrun,Oper.upon_skip]
  refine hKK _ _ (kk' _ (yQ hc hu rfl rfl (fun w' hw'=>⟨_,_,hw',?_⟩) hlt))
  have h0:=hi.push (enc v) hn
  have h1:=h0.congr (g:=fun j=>(rM m k v j).map enc) (fun j=>by by_cases hj:j=k <;> simp [rM,hj])
  rw [Array.toList_push]
  exact ⟨h1.keys,h1.one,h1.old,h1.some',fun s k' h=>by cases h⟩
 ·have hes:es[j]?=some e:=by simpa using he
  have hmod:es.modify j (fun e=>{ e with key:=.int .i64 k,val:=enc v })=es.modify j (fun e=>{ e with val:=enc v }):=by
   apply Array.ext'
   rw [Array.toList_modify,Array.toList_modify]
   apply List.ext_getElem?
   intro q
   rw [List.getElem?_modify,List.getElem?_modify]
   by_cases hjq:j=q
   ·subst hjq
    rw [he]
    simp
    rw [← hk]
   ·simp [hjq]
  have hrun:(execOp a.eval ⟨none,.insert T x y z,ty,pos,aft,gd⟩).run P w=.ok .skip (w.putObj b (.map (es.modify j fun e=>{ e with val:=enc v }) clock)):=by
   simp [execOp,hf.ev hx,hf.ev hy,hf.ev hz,Instr.mapUpdate,run_underlying hT,hget,mI hK,hr,hes,hk,Instr.keyThatStays,Instr.sameBits,hmod,kN _ hb]
  unfold Oper.wp
  rw [hrun,Oper.upon_skip]
  refine hKK _ _ (kk' _ (yQ hc hu rfl rfl (fun w' hw'=>⟨_,_,hw',?_⟩) hlt))
  rw [Array.toList_modify]
  refine (hi.put (enc v) he hk).congr fun j=>?_
  by_cases hj:j=k <;> simp [rM,hj]

end steps

open Classical in
noncomputable def keysO (M:Int→Option Bool):Option (List Int) :=
 if ∀ k,(M k).isSome=true→0≤k∧k≤50000 then some (((List.range 50001).map (fun n:Nat=>(n:Int))).filter fun k=>(M k).isSome) else none

theorem aDp:∀ {l l':List Int},l.Nodup→(∀ x ∈ l,x ∈ l')→l.length≤l'.length
 | [],_,_,_=>Nat.zero_le _
 | x::l,l',hn,h=>by
  rw [List.nodup_cons] at hn
  have hx:x ∈ l':=h x (List.mem_cons_self)
  have:=aDp (l:=l) (l':=l'.erase x) hn.2 (fun y hy=>by
   refine (List.mem_erase_of_ne ?_).2 (h y (List.mem_cons_of_mem _ hy))
   rintro rfl
   exact hn.1 hy)
  rw [List.length_erase_of_mem hx] at this
  have h0:0 < l'.length:=List.length_pos_of_mem hx
  simp only [List.length_cons]
  omega

theorem aEy {l l':List Int} (hp:l.Perm l') (h1:l.Pairwise (fun a b=>a≤b)) (h2:l'.Pairwise (fun a b=>a≤b)):l=l' :=
 hp.eq_of_pairwise (fun _ _ _ _ h h'=>Int.le_antisymm h h') h1 h2

theorem aB1 {P:Program} {fid it E K T bx mb:Nat} (hK:P.underlying K=some (.int .i64))
  (hS:∀ (nn:Nat) (D0:DataW Unit) (R:Value→Option (DataW Unit × List MemPlace)) (w:World),bx < w.heap.size→w.cell? ⟨bx,0,none⟩=some (.map (some mb))→w.ownsMap P K R mb nn D0→Maps.size D0≤maxLen→Maps.size D0 * 8≤140737488355328 →
   Calls P fid #[.func (.func it) #[] #[.pointer (some ⟨bx,0,none⟩)]] w fun e w'=>∃ (v:Value) (ss:List Int),e=.returned v∧ss.Perm (intKeys D0)∧w'.ownsRow w.heap.size E 1 v ss.length ((ss.mergeSort (fun x y=>decide (x≤y))).map encZ)∧(v=.slice none 0 0 ↔ ss=[])∧Below w.heap.size w w')
  {G:aU} {L:List Ent} {w:World} {M:Int→Option Bool} (hc:Ctx G (.box bx [.map (some mb)] T::.im mb (fun j=>(M j).map Value.bool) none::L) w) {res:List Int} (hF:keysO M=some res) :
  Calls P fid #[.func (.func it) #[] #[.pointer (some ⟨bx,0,none⟩)]] w (fun e w=>∃ (p':Option Addr) (c':Nat),e=.returned (.slice p' res.length c')∧Ctx G (.row p' c' (res.map aB) E 1::.box bx [.map (some mb)] T::.im mb (fun j=>(M j).map Value.bool) none::L) w):=by
 unfold keysO at hF
 split at hF
 case isFalse=>cases hF
 rename_i hr
 obtain rfl:=Option.some.inj hF
 have hbox:w.heap[bx]?=some (.cells #[.map (some mb)] T (0,0)):=hc.sat _ List.mem_cons_self
 obtain ⟨es,clock,hb,hi⟩:=hc.sat (.im mb (fun j=>(M j).map Value.bool) none) (by simp)
 have hbl:bx < w.heap.size:=(Array.getElem?_eq_some_iff.1 hbox).1
 have hcell:w.cell? ⟨bx,0,none⟩=some (.map (some mb)):=by simp [World.cell?,hbox]
 -- the keys
 have hkey:∀ k,(M k).isSome=true ↔ ∃ e ∈ es.toList,e.key=.int .i64 k:=by
  intro k
  constructor
  ·intro h
   obtain ⟨v,hv⟩:=Option.isSome_iff_exists.1 h
   obtain ⟨e,he,h1,-⟩:=(hi.some' k (.bool v)).1 (by rw [hv]; rfl)
   exact ⟨e,he,h1⟩
  ·rintro ⟨e,he,h1⟩
   have:=(hi.some' k e.val).2 ⟨e,he,h1,rfl⟩
   cases hM:M k with
   | none=>rw [hM] at this; cases this
   | some v=>rfl
 have hint:∀ e ∈ es.toList,∃ k:Int,e.key=.int .i64 k∧0≤k∧k≤50000:=by
  intro e he
  obtain ⟨k,hk⟩:=hi.keys e he
  exact ⟨k,hk,hr k ((hkey k).2 ⟨e,he,hk⟩)⟩
 let key:MapEntry→Int:=fun e=>match e.key with
  | .int _ k=>k
  | _=>0
 have hnk:(es.toList.map key).Nodup:=by
  rw [List.Nodup,List.pairwise_map]
  refine hi.one.imp_of_mem ?_
  intro a b ha hb' hab he
  obtain ⟨k,hk,-⟩:=hint a ha
  obtain ⟨k',hk',-⟩:=hint b hb'
  have h1:key a=k:=by show (match a.key with | .int _ k=>k | _=>0)=k; rw [hk]
  have h2:key b=k':=by show (match b.key with | .int _ k=>k | _=>0)=k'; rw [hk']
  rw [h1,h2] at he
  exact hab.1 (by rw [hk,hk',he])
 have hsz:es.size≤50001:=by
  have:=aDp (l':=(List.range 50001).map (fun n:Nat=>(n:Int))) hnk (by
   intro x hx
   obtain ⟨e,he,rfl⟩:=List.mem_map.1 hx
   obtain ⟨k,hk,h0,h1⟩:=hint e he
   have h2:key e=k:=by show (match e.key with | .int _ k=>k | _=>0)=k; rw [hk]
   rw [h2]
   exact List.mem_map.2 ⟨k.toNat,List.mem_range.2 (by omega),by omega⟩)
  simpa using this
 let R:Value→Option (DataW Unit × List MemPlace):=fun _=>some (.nil,[])
 have hrd:∀ e ∈ es.toList,∀ k,e.key=.int .i64 k→WideElems.rd P K R e=some (.int .i64 k,.nil):=by
  intro e he k hk
  obtain ⟨k',hk',h0,h1⟩:=hint e he
  have:k=k':=by rw [hk] at hk'; injection hk'
  subst this
  unfold WideElems.rd
  rw [hk,keyOf_int_mk hK (by simp [Lit.wf,IntKind.min,IntKind.max,IntKind.signed,IntKind.bits]; omega)]
  rfl
 have hfit:WideElems.Fit P K R es clock:=by
  refine ⟨by simp only [maxLen]; omega,⟨hi.old,?_,?_⟩,?_⟩
  ·rw [List.Nodup,List.pairwise_map]; exact hi.one.imp fun h=>h.2
  ·rw [List.Nodup,List.pairwise_map]; exact hi.one.imp fun h=>h.1
  ·intro e he
   obtain ⟨k,hk,-⟩:=hint e he
   exact ⟨_,hrd e he k hk⟩
 have hown:=World.ownsMap_of_fit (w:=w) (R:=R) hb hfit (fun _ _ _ h=>h)
 refine (hS _ _ R w hbl hcell hown ?_ ?_).mono ?_
 ·rw [size_eq,length_sorted]; simp only [maxLen,List.length_map,Array.length_toList]; omega
 ·rw [size_eq,length_sorted]; simp only [List.length_map,Array.length_toList]; omega
 ·rintro e w' ⟨v,ss,rfl,hp,hrow,hnil,hbel⟩
  -- the order does not hang on that of the map
  have hik:(intKeys (.map ((es.toList.map (WideElems.rg P K R)).foldr DataW.insert []):DataW Unit)).Perm (es.toList.map key):=by
   show (((es.toList.map (WideElems.rg P K R)).foldr DataW.insert []).map fun p=>intOf p.1).Perm _
   refine ((Go.WideShapes.sorted_perm _).map _).trans ?_
   rw [List.map_map]
   refine List.Perm.of_eq (List.map_congr_left ?_)
   intro e he
   obtain ⟨k,hk,-⟩:=hint e he
   have h2:key e=k:=by show (match e.key with | .int _ k=>k | _=>0)=k; rw [hk]
   show intOf (WideElems.rg P K R e).1=key e
   unfold WideElems.rg
   rw [hrd e he k hk,h2]
   rfl
  have hres:((List.range 50001).map (fun n:Nat=>(n:Int))).filter (fun k=>(M k).isSome)=ss.mergeSort (fun x y=>decide (x≤y)):=by
   have hs1:((List.range 50001).map (fun n:Nat=>(n:Int))).Pairwise (fun a b=>a < b):=by
    rw [List.pairwise_map]
    exact List.pairwise_lt_range.imp fun h=>by omega
   refine aEy ?_ ((hs1.filter _).imp fun h=>Int.le_of_lt h) ?_
   ·refine List.Perm.trans ?_ ((hp.trans hik).symm.trans (List.mergeSort_perm ss _).symm)
    refine (List.perm_ext_iff_of_nodup ((hs1.filter _).imp fun h=>Int.ne_of_lt h) hnk).2 ?_
    intro k
    rw [List.mem_filter,List.mem_map,hkey]
    constructor
    ·rintro ⟨-,e,he,hk⟩
     refine List.mem_map.2 ⟨e,he,?_⟩
     show (match e.key with | .int _ k=>k | _=>0)=k
     rw [hk]
    ·intro h
     obtain ⟨e,he,rfl⟩:=List.mem_map.1 h
     obtain ⟨k,hk,h0,h1⟩:=hint e he
     have h2:key e=k:=by show (match e.key with | .int _ k=>k | _=>0)=k; rw [hk]
     rw [h2]
     exact ⟨⟨k.toNat,List.mem_range.2 (by omega),by omega⟩,e,he,hk⟩
   ·have:=List.pairwise_mergeSort (le:=fun x y:Int=>decide (x≤y)) (fun a b c h h'=>by simp at *; omega) (fun a b=>by simp; omega) ss
    exact this.imp fun h=>by simpa using h
  rw [hres]
  have hlen:(ss.mergeSort (fun x y=>decide (x≤y))).length=ss.length:=List.length_mergeSort ss
  generalize (ss.mergeSort (fun x y=>decide (x≤y)))=ts at *
  obtain ⟨r1,r2⟩:=hrow
  have hfl:∀ s:List Int,((s.map aB).flatten)=s.map encZ:=aC1
  rcases r2 with ⟨rfl,h0⟩ | ⟨g,cap,cur,rfl,hbase,hg,hnc,hcm,hcs,htk⟩
  ·have hts:ts=[]:=List.eq_nil_of_length_eq_zero (by omega)
   subst hts
   refine ⟨none,0,rfl,(hc.nilRow E 1).upd hbel.os hbel.tape hbel.output hbel.size (fun b hb _=>hbel.block b hb) ⟨by simp,World.ownsRow_nil w' 0 E 1⟩ (fun b hb=>by simp [Ent.own] at hb)⟩
  ·refine ⟨some ⟨g,0,none⟩,cap,by rw [hlen],(hc.nilRow E 1).upd hbel.os hbel.tape hbel.output hbel.size (fun b hb _=>hbel.block b hb) ⟨aDj ts,iL _ (aDj ts),.inr ⟨g,cap,cur,by rw [List.length_map,hlen],Nat.zero_le _,hg,?_,hcm,hcs,?_⟩⟩ (fun b hb=>.inr (by simp [Ent.own] at hb; omega))⟩
   ·rw [List.length_map,hlen]; exact hnc
   ·rw [List.length_map,hlen,hfl]; exact htk
end Go.Nilo
