/-
  Appending to slices of the own. Conditions: what each theorem names.
-/
import Derived.Test.YtcefmiiipbjngaaGreatNl5
set_option linter.unusedSimpArgs false
set_option linter.unusedVariables false
namespace Go.Nilo

theorem eI {sz:Nat}:∀ (rows:List (List Value)),(∀ r ∈ rows,r.length=sz)→rows.flatten.length=rows.length * sz
 | [],_=>by simp
 | x::rows,h=>by simp [eI rows (λr hr=>h r (by simp [hr])),h x (by simp),Nat.succ_mul,Nat.add_comm]
def Src (w:World) (q:Option Addr) (news:List (List Value)):Prop:=news=[] ∨ ∃ ad,q=some ad∧∀ j u,news.flatten[j]?=some u→w.cell? (ad.add j)=some u

theorem aG7 {P:Program} {w:World} {T ty e sz by':Nat} {z:Value} (hT:SlT P T e sz by' z) {p q:Option Addr} {cap c:Nat} {rows news:List (List Value)} (hrows:∀ r ∈ rows,r.length=sz)
  (hown:w.ownsRow 0 e sz (.slice p rows.length cap) rows.length rows.flatten) (hnl:∀ r ∈ news,r.length=sz) (hsrc:Src w q news) (h1:∀ u ∈ news.flatten,u.oneCell'=true)
  (hlen:(rows++news).length≤1000000) (hby:by'≤100000000) :
  ∃ p' cap' w',(Builtin.append_ #[T,T] ty #[.slice p rows.length cap,.slice q news.length c]).run P w=.ok (.slice p' (rows++news).length cap') w' ∧
   w'.ownsRow 0 e sz (.slice p' (rows++news).length cap') (rows++news).length (rows++news).flatten∧w.grownBy w' (p.map (·.block))∧(∀ b,p'.map (·.block)=some b→p.map (·.block)=some b ∨ w.heap.size≤b):=by
 obtain ⟨hu,i,hi,hz,hs,hb,hzs,hsz⟩:=hT
 subst hs
 subst hb
 have hlen':rows.length + news.length≤1000000:=by simpa using hlen
 have hbytes:(rows.length + news.length) * i.bytes≤140737488355328:=Nat.le_trans (Nat.mul_le_mul hlen' hby) (by decide)
 have hfl:=eI rows hrows
 have hnfl:=eI news hnl
 have hall:(rows++news).flatten.length=(rows.length + news.length) * i.size:=by simp [hfl,hnfl,Nat.add_mul]
 simp only [List.length_append,List.flatten_append]
 have grown:∀ (old:Nat) (row:Option Nat),
   (w.drew.alloc (.cells (rows.flatten.toArray++news.flatten.toArray++Builtin.zeroCells z.cells (grownCap w (rows.length + news.length) old e - (rows.length + news.length))) e)).ownsRow 0 e i.size
    (.slice (some ⟨w.heap.size,0,none⟩) (rows.length + news.length) (grownCap w (rows.length + news.length) old e)) (rows.length + news.length) (rows.flatten++news.flatten) ∧
   w.grownBy (w.drew.alloc (.cells (rows.flatten.toArray++news.flatten.toArray++Builtin.zeroCells z.cells (grownCap w (rows.length + news.length) old e - (rows.length + news.length))) e)) row:=by
  intro old row
  have hge:=grownCap_ge w (rows.length + news.length) old e
  have hcm:=grownCap_le_maxLen w (rows.length + news.length) old e (by simp only [maxLen]; omega)
  refine ⟨⟨by simpa using hall,.inr ⟨w.heap.size,_,_,rfl,Nat.zero_le _,heap_alloc_new w.drew _,hge,hcm,?_,?_⟩⟩,⟨rfl,rfl,rfl,by simp,λk hk _=>Go.heap_alloc_old w.drew _ hk⟩⟩
  ·simp only [Array.size_append,List.size_toArray,size_zeroCells,hzs,hfl,hnfl,← Nat.add_mul]
   congr 1
   omega
  ·have hall':(rows.flatten++news.flatten).length=(rows.length + news.length) * i.size:=by rw [← hall,List.flatten_append]
   simp only [Array.toList_append,List.append_assoc]
   rw [← List.append_assoc,← hall']
   exact List.take_left
 -- nothing is appended
 by_cases hn0:news=[]
 ·subst hn0
  simp only [List.length_nil,Nat.add_zero,List.flatten_nil,List.append_nil]
  have hnc:rows.length≤cap:=by
   rcases hown.2 with ⟨hv,h0⟩ | ⟨g,cap',cur,hv,-,-,h,-⟩
   ·omega
   ·simp only [Value.slice.injEq] at hv; omega
  refine ⟨p,cap,w,?_,hown,⟨rfl,rfl,rfl,Nat.le_refl _,λ_ _ _=>rfl⟩,λb hb=>.inl hb⟩
  cases q <;> cases p <;> simp [Builtin.append_,run_underlying hu,Go.sizeOf,typeInfo,hi,Builtin.lenOf,Builtin.firstCells,loadCells,loadCellsFrom,hnc,storeCells]
 obtain ⟨ad,hq,hsrc'⟩:=hsrc.resolve_left hn0
 subst hq
 have hm:0 < news.length:=by cases news with | nil=>exact absurd rfl hn0 | cons _ _=>simp
 rcases hown.2 with ⟨hv,h0⟩ | ⟨g,cap',cur,hv,-,hg,hnc,hcm,hcs,htake⟩
 ·simp only [Value.slice.injEq] at hv
  obtain ⟨rfl,hr0,rfl⟩:=hv
  have hr:rows=[]:=List.eq_nil_of_length_eq_zero h0
  subst hr
  have hr:=run_append_nil (P:=P) w T ty e i z hu hi hz ad news.length c news.flatten hnfl hsrc' hm (by omega) (by have h2:=hbytes; simp only [List.length_nil,Nat.zero_add] at h2; omega)
  have hgr:=grown 0 none
  simp only [List.length_nil,Nat.zero_add,List.flatten_nil,List.nil_append] at hgr hr ⊢
  have e0:([]:List Value).toArray++news.flatten.toArray=news.flatten.toArray:=by simp
  rw [e0] at hgr
  exact ⟨_,_,_,hr,hgr.1,hgr.2,λb hb=>by simp at hb; exact .inr (by omega)⟩
 ·simp only [Value.slice.injEq] at hv
  obtain ⟨rfl,-,rfl⟩:=hv
  by_cases hroom:rows.length + news.length≤cap
  ·have hfit:rows.length * i.size + news.flatten.length≤cur.size:=by rw [hnfl,hcs,← Nat.add_mul]; exact Nat.mul_le_mul_right _ hroom
   have hr:=run_append_room (P:=P) w T ty e i hu hi g rows.length cap cur hg ad news.length c news.flatten hnfl hsrc' h1 hroom hfit
   refine ⟨_,_,_,hr,⟨by simpa using hall,.inr ⟨g,cap,_,rfl,Nat.zero_le _,setRow_heap w g cur _ e _ hg,hroom,hcm,?_,?_⟩⟩,⟨rfl,rfl,rfl,by simp,λk _ hk=>setRow_other w g k _ (λe=>hk (by simp [e]))⟩,λb hb=>.inl hb⟩
   ·simp only [List.size_toArray,List.length_append,List.length_take,List.length_drop,Array.length_toList]
    omega
   ·have hall':(rows.flatten++news.flatten).length=(rows.length + news.length) * i.size:=by rw [← hall,List.flatten_append]
    rw [htake,← hall']
    exact List.take_left
  ·have holds:∀ j u,rows.flatten[j]?=some u→w.cell? ((⟨g,0,none⟩:Addr).add j)=some u:=hown.cells (g:=g) rfl
   have hr:=run_append_grow (P:=P) w T ty e i z hu hi hz ⟨g,0,none⟩ rows.length cap rows.flatten hfl holds ad news.length c news.flatten hnfl hsrc' (by omega) (by omega) (growslice_fits (by omega) hbytes)
   have hgr:=grown cap (some g)
   exact ⟨_,_,_,hr,hgr.1,hgr.2,λb hb=>by simp at hb; exact .inr (by omega)⟩

section steps
variable {P:Program} {ops:Array Oper} {Q:Exit→Act→World→Prop} {rest:List Oper} {a:Act} {w:World} {N:Fm} {d:Nat} {F:List (Nat × Value)} {G:cJ} {L L' L'':List Ent} {v:Value}
 {ty:TypeId} {pos:String} {aft:Array Edge} {gd:Option (Nat × Bool)} {x y:Operand} {T:TypeId}
theorem stAp {e sz by' n m cap c:Nat} {z:Value} {p q:Option Addr} {rows news:List (List Value)} {L2:Option Addr→Nat→List Ent} (hf:Has N a F) (hc:Ctx G L w) (hg:vJ ops F ⟨some d,.call { callee:=.builtin .append,args:=#[x,y],argTypes:=#[T,T] },ty,pos,aft,gd⟩=some true)
  (hN:Nat.blt d N.n=true) (hT:SlT P T e sz by' z) (hby:Nat.ble by' 100000000=true) (hx:ev F x=some (.slice p n cap)) (hn:n=rows.length) (hy:ev F y=some (.slice q m c)) (hm:m=news.length) (hnl:∀ r ∈ news,r.length=sz∧sG r=true)
  (hsrc:Src w q news) (hu:∀ p' c',Upd L (.row p cap rows e sz) (.row p' c' (rows++news) e sz) (L2 p' c')) (hlen:(rows++news).length≤1000000)
  (k:∀ p' cap' a w,Has N a ((d,.slice p' (rows++news).length cap')::F)→Ctx G (L2 p' cap') w→wpList P ops Q rest a w) :
  wpList P ops Q (⟨some d,.call { callee:=.builtin .append,args:=#[x,y],argTypes:=#[T,T] },ty,pos,aft,gd⟩::rest) a w:=by
 subst hn
 subst hm
 obtain ⟨hrl,hown⟩:=hc.sat _ (hu none 0).mem
 obtain ⟨p',cap',w',hr,hown',hgr,hfoot⟩:=aG7 (P:=P) (ty:=ty) (c:=c) hT hrl hown (λr h=>(hnl r h).1) hsrc
  (λu hu=>by obtain ⟨r,hr,hu⟩:=List.mem_flatten.1 hu; have:=(hnl r hr).2; simp only [sG,List.all_eq_true] at this; exact this u hu) hlen (by simpa using hby)
 refine wpList_step λK hK=>?_
 rw [gX hf hg,if_pos rfl]
 have hr':(execOp a.eval ⟨some d,.call { callee:=.builtin .append,args:=#[x,y],argTypes:=#[T,T] },ty,pos,aft,gd⟩).run P w=.ok (.value (.slice p' (rows++news).length cap')) w':=by
  simp only [execOp,resolve,List.map_toArray,List.map_cons,List.map_nil,hf.ev hx,hf.ev hy,Sem.run_bind,Sem.run_pure,Result.andThen_ok,invoke,builtin,hr]
 unfold Oper.wp
 rw [hr',Oper.upon_value]
 refine hK _ _ (k _ _ _ _ (hf.put hN _) (hc.updAt (hu p' cap') hgr.os hgr.tape hgr.output hgr.size (λb hb hne=>hgr.block b hb (λe=>hne (by simpa [Ent.own] using e.symm))) ⟨?_,hown'⟩ hfoot))
 intro r hr
 rcases List.mem_append.1 hr with h | h
 ·exact hrl r h
 ·exact (hnl r h).1
theorem mV {α:Type} {enc:α→List Value} {xs ys:List α} {e sz by' n m cap c:Nat} {z:Value} {p q:Option Addr} {L2:Option Addr→Nat→List Ent} (hf:Has N a F) (hc:Ctx G L w) (hg:vJ ops F ⟨some d,.call { callee:=.builtin .append,args:=#[x,y],argTypes:=#[T,T] },ty,pos,aft,gd⟩=some true)
  (hN:Nat.blt d N.n=true) (hT:SlT P T e sz by' z) (hby:Nat.ble by' 100000000=true) (hx:ev F x=some (.slice p n cap)) (hn:n=xs.length) (hy:ev F y=some (.slice q m c)) (hm:m=ys.length) (hnl:∀ x,(enc x).length=sz∧sG (enc x)=true)
  (hsrc:Src w q (ys.map enc)) (hu:∀ p' c',Upd L (.row p cap (xs.map enc) e sz) (.row p' c' ((xs++ys).map enc) e sz) (L2 p' c')) (hlen:(xs++ys).length≤1000000)
  (k:∀ p' cap' a w,Has N a ((d,.slice p' (xs++ys).length cap')::F)→Ctx G (L2 p' cap') w→wpList P ops Q rest a w) :
  wpList P ops Q (⟨some d,.call { callee:=.builtin .append,args:=#[x,y],argTypes:=#[T,T] },ty,pos,aft,gd⟩::rest) a w:=by
 refine stAp (rows:=xs.map enc) (news:=ys.map enc) (L2:=L2) hf hc hg hN hT hby hx (by simpa using hn) hy (by simpa using hm) ?_ hsrc ?_ (by simpa using hlen) ?_
 ·intro r hr
  obtain ⟨y,-,rfl⟩:=List.mem_map.1 hr
  exact hnl y
 ·intro p' c'
  rw [← List.map_append]
  exact hu p' c'
 ·intro p' c' a w hf hc
  refine k p' c' a w ?_ hc
  rw [← List.map_append,List.length_map] at hf
  exact hf

theorem gL {p:Option Addr} {cap T' sz:Nat} {rows:List (List Value)} (hc:Ctx G L w) (he:pD L (Ent.row p cap rows T' sz)):Src w p rows:=by
 obtain ⟨hl,hown⟩:=he _ _ hc
 rcases hown.2 with ⟨_,h0⟩ | ⟨g,cap',cur,hv,-⟩
 ·exact .inl (List.eq_nil_of_length_eq_zero h0)
 ·simp only [Value.slice.injEq] at hv
  obtain ⟨rfl,-,rfl⟩:=hv
  exact .inr ⟨_,rfl,hown.cells (g:=g) rfl⟩

theorem aDn {p:Option Addr} {cap sz:Nat} {rows:List (List Value)} (hc:Ctx G L w) (h:Rd G sz p cap rows):Src w p rows:=by
 obtain ⟨-,-,h3,h4⟩:=h
 rcases h4 with h4 | ⟨b,o,hp,cur,T',fr,hg,hcl⟩
 ·exact .inl h4
 ·refine .inr ⟨_,hp,λj u hu=>?_⟩
  have hb:=hc.pers _ _ hg
  have hsz:0 < sz:=by
   rcases Nat.eq_zero_or_pos sz with h0 | h0
   ·subst h0
    have:=eI rows h3
    have hlt:=(List.getElem?_eq_some_iff.1 hu).1
    omega
   ·exact h0
  have key:∀ (rows:List (List Value)) (j:Nat),(∀ r ∈ rows,r.length=sz)→rows.flatten[j]?=some u→∃ r,rows[j / sz]?=some r∧r[j % sz]?=some u:=by
   intro rows
   induction rows with
   | nil=>intro j _ h; simp at h
   | cons x rows ih=>
    intro j hl hj
    have hx:x.length=sz:=hl x (by simp)
    rw [List.flatten_cons] at hj
    by_cases hjs:j < sz
    ·rw [List.getElem?_append_left (by omega)] at hj
     exact ⟨x,by simp [Nat.div_eq_of_lt hjs],by rw [Nat.mod_eq_of_lt hjs]; exact hj⟩
    ·rw [List.getElem?_append_right (by omega),hx] at hj
     obtain ⟨r,h1,h2⟩:=ih (j - sz) (λr hr=>hl r (by simp [hr])) hj
     have e1:j / sz=(j - sz) / sz + 1:=by
      rw [Nat.div_eq_sub_div hsz (by omega)]
     have e2:j % sz=(j - sz) % sz:=by
      rw [Nat.mod_eq_sub_mod (by omega)]
     exact ⟨r,by rw [e1]; simpa using h1,by rw [e2]; exact h2⟩
  obtain ⟨r,hr1,hr2⟩:=key rows j h3 hu
  have:=hcl _ _ hr1 _ _ hr2
  rw [Addr.add_lit]
  have e:o + j / sz * sz + j % sz=o + j:=by rw [Nat.add_assoc,Nat.mul_comm,Nat.div_add_mod]
  rw [e] at this
  simp [World.cell?,hb,this]
end steps
end Go.Nilo
