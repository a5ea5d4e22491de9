/-
  Parts of lists that are taken out or put in, as slices.Delete and slices.Insert do it; rows of the call's own as cells. Conditions: what each theorem names.
-/
import Derived.Test.YtakhbnnlhoninacGreatNl15
import Derived.Deep.RegionLaw
import Derived.Lib.SliceRun
import Derived.WalkKit
import Derived.Laws.IdiomCopy
import Derived.Shelf.RegionOpenPlain
import Derived.Below
import Derived.Laws.Externs
import Derived.Lib.Overlaps
import Derived.Lib.JoinLaws
import Derived.Shelf.Spec.SlicesInsert
import Derived.Lib.AppendZerosOnto
set_option linter.unusedSimpArgs false
set_option linter.unusedVariables false
namespace Go.Nilo
def insO {α:Type} (xs:List α) (i:Int) (ys:List α):Option (List α):=if 0≤i∧i≤(xs.length:Int)∧xs.length + ys.length≤1000000∧0 < ys.length then some (xs.take i.toNat++ys++xs.drop i.toNat) else none

def aCc (cur:Array Value) (o:Nat):List Value→Array Value
 | []=>cur
 | v::r=>aCc (cur.setIfInBounds o v) (o + 1) r
theorem iG:∀ (vs:List Value) (cur:Array Value) (o:Nat),(aCc cur o vs).size=cur.size
 | [],_,_=>rfl
 | v::r,cur,o=>by
  unfold aCc
  rw [iG r]
  simp
theorem mE:∀ (vs:List Value) (cur:Array Value) (o k:Nat),(k < o ∨ o + vs.length≤k)→(aCc cur o vs)[k]?=cur[k]?
 | [],_,_,_,_=>rfl
 | v::r,cur,o,k,h=>by
  unfold aCc
  simp only [List.length_cons] at h
  rw [mE r _ (o + 1) k (by omega),Array.getElem?_setIfInBounds,if_neg (by omega)]
theorem vF:∀ (vs:List Value) (cur:Array Value) (o k:Nat),k < vs.length→o + vs.length≤cur.size→(aCc cur o vs)[o + k]?=vs[k]?
 | [],_,_,k,h,_=>by simp at h
 | v::r,cur,o,0,_,h2=>by
  unfold aCc
  simp only [List.length_cons] at h2
  rw [mE r _ (o + 1) (o + 0) (by omega),Array.getElem?_setIfInBounds,if_pos (by omega),if_pos (by omega)]
  rfl
 | v::r,cur,o,k + 1,h1,h2=>by
  unfold aCc
  simp only [List.length_cons] at h1 h2
  have:=vF r (cur.setIfInBounds o v) (o + 1) k (by omega) (by simp; omega)
  rw [show o + (k + 1)=o + 1 + k by omega,this]
  rfl
theorem kP (g:Nat):∀ (vs:List Value) (o:Nat) (w:World) (cur:Array Value) (T:TypeId) (fr:Nat × Nat),w.heap[g]?=some (.cells cur T fr) →
  (w.setCells g o vs).heap[g]?=some (.cells (aCc cur o vs) T fr)∧(∀ b,b ≠ g→(w.setCells g o vs).heap[b]?=w.heap[b]?)∧(w.setCells g o vs).heap.size=w.heap.size∧(w.setCells g o vs).os=w.os∧(w.setCells g o vs).tape=w.tape∧(w.setCells g o vs).output=w.output
 | [],_,_,_,_,_,h=>⟨h,fun _ _=>rfl,rfl,rfl,rfl,rfl⟩
 | v::r,o,w,cur,T,fr,h=>by
  have h1:(w.setCell ⟨g,o,none⟩ v).heap[g]?=some (.cells (cur.setIfInBounds o v) T fr):=by
   show (w.heap.modify g _)[g]?=_
   rw [Array.getElem?_modify,if_pos rfl,h]
   rfl
  obtain ⟨a1,a2,a3,a4,a5,a6⟩:=kP g r (o + 1) (w.setCell ⟨g,o,none⟩ v) _ T fr h1
  refine ⟨a1,fun b hb=>(a2 b hb).trans ?_,a3.trans ?_,a4,a5,a6⟩
  ·show (w.heap.modify g _)[b]?=_
   rw [Array.getElem?_modify,if_neg (fun e=>hb e.symm)]
  ·show (w.heap.modify g _).size=_
   simp

theorem qB {G:aO} {L:List Ent} {w:World} {p:Option Addr} {cap T sz:Nat} {rows:List (List Value)} (hc:Ctx G (.row p cap rows T sz::L) w) :
  (p=none∧rows=[]∧cap=0) ∨ ∃ g cur,p=some ⟨g,0,none⟩∧w.heap[g]?=some (.cells cur T (0,0))∧cur.size=cap * sz∧rows.length≤cap∧cap≤maxLen∧cur.toList.take (rows.length * sz)=rows.flatten:=by
 obtain ⟨hrl,hl,h⟩:=hc.sat _ List.mem_cons_self
 rcases h with ⟨hv,h0⟩ | ⟨g,cap',cur,hv,-,hg,hn,hm,hs,ht⟩
 ·simp only [Value.slice.injEq] at hv
  exact .inl ⟨hv.1,List.eq_nil_of_length_eq_zero h0,hv.2.2⟩
 ·simp only [Value.slice.injEq] at hv
  obtain ⟨rfl,-,rfl⟩:=hv
  exact .inr ⟨g,cur,rfl,hg,hs,hn,hm,ht⟩
theorem aBy {G:aO} {L:List Ent} {w w':World} {g cap T sz:Nat} {rows rows':List (List Value)} {cur':Array Value} (hc:Ctx G (.row (some ⟨g,0,none⟩) cap rows T sz::L) w)
  (h1:w'.os=w.os) (h2:w'.tape=w.tape) (h3:w'.output=w.output) (h4:w'.heap.size=w.heap.size) (hb:∀ b,b ≠ g→w'.heap[b]?=w.heap[b]?) (hg:w'.heap[g]?=some (.cells cur' T (0,0)))
  (hs:cur'.size=cap * sz) (hn:rows'.length≤cap) (hm:cap≤maxLen) (hr:∀ r ∈ rows',r.length=sz) (ht:cur'.toList.take (rows'.length * sz)=rows'.flatten):Ctx G (.row (some ⟨g,0,none⟩) cap rows' T sz::L) w':=by
 refine hc.upd h1 h2 h3 (by omega) (fun b _ hne=>hb b (fun e=>hne (by simp [Ent.own,e]))) ⟨hr,cI rows' hr,.inr ⟨g,cap,cur',rfl,Nat.zero_le _,hg,hn,hm,hs,ht⟩⟩ (fun b hbf=>.inl hbf)
theorem sE {sz:Nat}:∀ (rows:List (List Value)) (i:Nat),(∀ r ∈ rows,r.length=sz)→(rows.take i).flatten=rows.flatten.take (i * sz)
 | [],i,_=>by simp
 | r::rows,0,_=>by simp
 | r::rows,i + 1,h=>by
  have hr:r.length=sz:=h r List.mem_cons_self
  rw [List.take_succ_cons,List.flatten_cons,List.flatten_cons,sE rows i (fun x hx=>h x (List.mem_cons_of_mem _ hx)),Nat.succ_mul,Nat.add_comm (i * sz),← hr,List.take_length_add_append]
theorem vD {sz:Nat}:∀ (rows:List (List Value)) (i:Nat),(∀ r ∈ rows,r.length=sz)→(rows.drop i).flatten=rows.flatten.drop (i * sz)
 | [],i,_=>by simp
 | r::rows,0,_=>by simp
 | r::rows,i + 1,h=>by
  have hr:r.length=sz:=h r List.mem_cons_self
  rw [List.drop_succ_cons,List.flatten_cons,vD rows i (fun x hx=>h x (List.mem_cons_of_mem _ hx)),Nat.succ_mul,Nat.add_comm (i * sz),← hr,List.drop_length_add_append]
theorem mC {P:Program} (w:World) (dT sT ty elem:TypeId) (b o dLen dCap:Nat) (a:Addr) (sLen sCap k:Nat) (cs:List Value)
  (hu:P.underlying dT=some (.slice elem)) (hs:(P.info? elem).map (·.size)=some k) (hn:cs.length=Nat.min sLen dLen * k)
  (hsrc:∀ j v,cs[j]?=some v→w.cell? (a.add j)=some v) (hc:∀ j,j < cs.length→(w.cell? ⟨b,o + j,none⟩).isSome=true) (hf:∀ j,j < cs.length→w.frozen? ⟨b,o + j,none⟩=false) (h1:∀ v ∈ cs,v.oneCell'=true) :
  (Builtin.copy_ #[dT,sT] ty #[.slice (some ⟨b,o,none⟩) dLen dCap,.slice (some a) sLen sCap]).run P w=.ok (goInt (Nat.min sLen dLen)) (w.setCells b o cs):=by
 have hl:=run_loadCells_list (P:=P) w a cs hsrc
 have hst:=run_storeCells_cells (P:=P) b o cs 0 w (by simpa using hc) (by simpa using hf) h1
 cases hq:P.info? elem with
 | none=>simp [hq] at hs
 | some i=>
  have hi:i.size=k:=by simpa [hq] using hs
  simp [Builtin.copy_,run_underlying hu,Builtin.lenOf,Builtin.firstCells,sizeOf,typeInfo,hq,hi,← hn,hl,hst]

theorem xT {n:Nat} (h:n≤maxLen):n≤9223372036854775807:=by
 unfold maxLen at h
 omega
theorem wI {sz:Nat} {α:Type} {enc:α→List Value} (hen:∀ x,(enc x).length=sz) (s:List α):(s.map enc).flatten.length=s.length * sz:=by
 rw [cI (s.map enc) (fun r hr=>by obtain ⟨x,-,rfl⟩:=List.mem_map.1 hr; exact hen x),List.length_map]
theorem qN {sz:Nat} {α:Type} {enc:α→List Value} (hen:∀ x,(enc x).length=sz∧mB (enc x)=true) (s:List α):∀ u ∈ (s.map enc).flatten,u.oneCell'=true:=by
 intro u hu
 obtain ⟨r,hr,hu⟩:=List.mem_flatten.1 hu
 obtain ⟨x,-,rfl⟩:=List.mem_map.1 hr
 have:=(hen x).2
 simp only [mB,List.all_eq_true] at this
 exact this u hu
theorem lG {sz:Nat} {α:Type} {enc:α→List Value} (hen:∀ x,(enc x).length=sz∧mB (enc x)=true) (s:List α):∀ r ∈ s.map enc,r.length=sz:=by
 intro r hr
 obtain ⟨x,-,rfl⟩:=List.mem_map.1 hr
 exact (hen x).1
theorem aEn {P:Program} {fid:Nat} {α:Type} {enc:α→List Value} {T ty0 E sz by':Nat} {z:Value} (hT:SlT P T E sz by' z) (hby:by'≤100000000) (hen:∀ x,(enc x).length=sz∧mB (enc x)=true)
  (hend:∀ (p:Option Addr) (n cap:Nat) (q:Option Addr) (m vc:Nat) (w w':World) (r:Value),0 < m→n≤cap→cap≤9223372036854775807→(∀ ty,(Builtin.append_ #[T,T] ty #[.slice p n cap,.slice q m vc]).run P w=.ok r w') →
   Calls P fid #[.slice p n cap,.int .i64 n,.slice q m vc] w fun e w2=>e=.returned r∧w2=w')
  (happ:∀ ty ty' a w,(Builtin.append_ #[T,T] ty a).run P w=(Builtin.append_ #[T,T] ty' a).run P w)
  (hshift:∀ (b n c i vb m vc:Nat) (cs vs:List Value) (w:World),i < n→0 < m→n + m≤c→c≤9223372036854775807→vb ≠ b→cs.length=n * sz→vs.length=m * sz →
   (∀ j v,cs[j]?=some v→w.cell? ⟨b,j,none⟩=some v)→(∀ j,j < (n + m) * sz→(w.cell? ⟨b,j,none⟩).isSome=true)→(∀ j,j < (n + m) * sz→w.frozen? ⟨b,j,none⟩=false) →
   (∀ j v,vs[j]?=some v→w.cell? ⟨vb,j,none⟩=some v)→(∀ v ∈ cs,v.oneCell'=true)→(∀ v ∈ vs,v.oneCell'=true) →
   ∀ (tA tB:TypeId) (kA kB:Nat),w.shape? vb=some (tA,kA)→w.shape? b=some (tB,kB)→kB ≠ 0→w.frozen? ⟨vb,0,none⟩=false→w.frozen? ⟨vb,kA,none⟩=false →
   Calls P fid #[.slice (some ⟨b,0,none⟩) n c,.int .i64 i,.slice (some ⟨vb,0,none⟩) m vc] w fun e w'=>e=.returned (.slice (some ⟨b,0,none⟩) (n + m) c)∧w'=(w.drew.setCells b ((i + m) * sz) (cs.drop (i * sz))).setCells b (i * sz) vs)
  (hgrow:∀ (b n c i vb m vc:Nat) (cs vs:List Value) (w:World),i < n→0 < m→n≤c→c < n + m→(n + m) * by'≤140737488355328→cs.length=n * sz→vs.length=m * sz →
   (∀ j v,cs[j]?=some v→w.cell? ⟨b,j,none⟩=some v)→(∀ j v,vs[j]?=some v→w.cell? ⟨vb,j,none⟩=some v)→(∀ v ∈ cs,v.oneCell'=true)→(∀ v ∈ vs,v.oneCell'=true)→b < w.heap.size→vb < w.heap.size →
   Calls P fid #[.slice (some ⟨b,0,none⟩) n c,.int .i64 i,.slice (some ⟨vb,0,none⟩) m vc] w fun e w'=>e=.returned (.slice (some ⟨w.heap.size,0,none⟩) (n + m) (grownCap w (n + m) c E)) ∧
    w'=(((w.alloc (.cells ((cs.take (i * sz)).toArray++Builtin.zeroCells z.cells (n + m - i)++Builtin.zeroCells z.cells (grownCap w (n + m) c E - (n + m))) E)).drew.setCells w.heap.size (i * sz) vs).drew).setCells w.heap.size ((i + m) * sz) (cs.drop (i * sz)))
  {G:aO} {L:List Ent} {w:World} {p q:Option Addr} {c cq:Nat} {s v:List α} {i:Int} {res:List α} (hc:Ctx G (.row p c (s.map enc) E sz::.row q cq (v.map enc) E sz::L) w) (hF:insO s i v=some res) :
  Calls P fid #[.slice p s.length c,.int .i64 i,.slice q v.length cq] w (fun e w=>∃ (p':Option Addr) (c':Nat),e=.returned (.slice p' res.length c')∧Ctx G (.row p' c' (res.map enc) E sz::.row q cq (v.map enc) E sz::L) w):=by
 unfold insO at hF
 split at hF
 ·rename_i hb
  obtain ⟨h0,h1,h2,h3⟩:=hb
  obtain rfl:=Option.some.inj hF
  obtain ⟨a,rfl⟩:∃ a:Nat,i=(a:Int):=⟨i.toNat,by omega⟩
  simp only [Int.toNat_natCast]
  have hus:=lG hen s
  have huv:=lG hen v
  have hfs:=wI (fun x=>(hen x).1) s
  have hfv:=wI (fun x=>(hen x).1) v
  have hlen:(s.take a++v++s.drop a).length=s.length + v.length:=by simp; omega
  have hc2:Ctx G (.row q cq (v.map enc) E sz::.row p c (s.map enc) E sz::L) w:=hc.perm (List.Perm.swap _ _ _)
  have hnc:s.length≤c∧c≤maxLen:=by
   rcases qB hc with ⟨rfl,h,rfl⟩ | ⟨g,cur,rfl,-,-,h,hm,-⟩
   ·have:s=[]:=by simpa using h
    subst this
    exact ⟨Nat.le_refl _,by decide⟩
   ·rw [List.length_map] at h
    exact ⟨h,hm⟩
  have hfin:((s.take a++v++s.drop a).map enc).flatten=(s.map enc).flatten.take (a * sz)++(v.map enc).flatten++(s.map enc).flatten.drop (a * sz):=by
   rw [List.map_append,List.map_append,List.flatten_append,List.flatten_append,List.map_take,List.map_drop,sE _ _ hus,vD _ _ hus]
  by_cases hae:a=s.length
  ·subst hae
   obtain ⟨hrl,hown⟩:=hc.sat _ List.mem_cons_self
   have hown':w.ownsRow 0 E sz (.slice p (s.map enc).length c) (s.map enc).length (s.map enc).flatten:=hown
   obtain ⟨p',c',w',hr,hown2,hgr,hfoot⟩:=uU (P:=P) (ty:=ty0) (c:=cq) hT hus hown' huv (fG hc2 (gH.of List.mem_cons_self)) (qN hen v) (by simp; omega) hby
   rw [List.length_map,List.length_map] at hr
   refine (hend p s.length c q v.length cq w w' _ h3 hnc.1 (xT hnc.2) (fun ty=>(happ ty ty0 _ w).trans hr)).mono ?_
   rintro e w2 ⟨rfl,rfl⟩
   have e1:s.take s.length++v++s.drop s.length=s++v:=by simp
   rw [e1]
   refine ⟨p',c',by simp,?_⟩
   have hcc:Ctx G (.row p' c' ((s++v).map enc) E sz::.row q cq (v.map enc) E sz::L) w2:=by
    refine hc.upd hgr.os hgr.tape hgr.output hgr.size (fun b hb hne=>hgr.block b hb (fun e=>hne (by simpa [Ent.own] using e.symm))) ⟨lG hen _,?_⟩ hfoot
    rw [List.map_append]
    exact hown2
   exact hcc
  ·have has:a < s.length:=by omega
   rcases qB hc with ⟨rfl,h,rfl⟩ | ⟨g,cur,rfl,hg,hcs,h,hm,ht⟩
   ·have:s=[]:=by simpa using h
    subst this
    simp at has
   rcases qB hc2 with ⟨rfl,h',rfl⟩ | ⟨vb,curv,rfl,hgv,hcsv,h',hmv,htv⟩
   ·have:v=[]:=by simpa using h'
    subst this
    simp at h3
   rw [List.length_map] at h ht h' htv
   have hvb:vb ≠ g:=by
    intro e
    subst e
    exact (List.pairwise_cons.1 hc.sep).1 _ List.mem_cons_self vb rfl rfl
   have hcap:s.length * sz≤c * sz:=Nat.mul_le_mul_right _ h
   have hcapv:v.length * sz≤cq * sz:=Nat.mul_le_mul_right _ h'
   have hcell:∀ j u,(s.map enc).flatten[j]?=some u→w.cell? ⟨g,j,none⟩=some u:=by
    intro j u hu
    rw [← ht,List.getElem?_take] at hu
    split at hu
    ·simp only [World.cell?,hg]
     simpa using hu
    ·cases hu
   have hcellv:∀ j u,(v.map enc).flatten[j]?=some u→w.cell? ⟨vb,j,none⟩=some u:=by
    intro j u hu
    rw [← htv,List.getElem?_take] at hu
    split at hu
    ·simp only [World.cell?,hgv]
     simpa using hu
    ·cases hu
   have hsz:0 < sz:=by
    obtain ⟨-,i0,-,-,-,-,-,h⟩:=hT
    exact h
   have hsplit:s.length * sz=a * sz + (s.length - a) * sz:=by rw [← Nat.add_mul]; congr 1; omega
   have hsum:(s.length + v.length) * sz=s.length * sz + v.length * sz:=Nat.add_mul _ _ _
   have ham:(a + v.length) * sz=a * sz + v.length * sz:=Nat.add_mul _ _ _
   have hdl:((s.map enc).flatten.drop (a * sz)).length=(s.length - a) * sz:=by rw [List.length_drop,hfs]; omega
   have key:∀ (cu:Array Value),(s.length + v.length) * sz≤cu.size→(∀ k,k < a * sz→cu[k]?=(s.map enc).flatten[k]?)→(∀ k,k < v.length * sz→cu[a * sz + k]?=(v.map enc).flatten[k]?)→(∀ k,k < (s.length - a) * sz→cu[(a + v.length) * sz + k]?=((s.map enc).flatten.drop (a * sz))[k]?) →
     cu.toList.take (((s.take a++v++s.drop a).map enc).length * sz)=((s.take a++v++s.drop a).map enc).flatten:=by
    intro cu hcu k1 k2 k3
    rw [List.length_map,hlen,hfin]
    apply List.ext_getElem?
    intro k
    rw [List.getElem?_take]
    by_cases hk:k < (s.length + v.length) * sz
    ·rw [if_pos hk,Array.getElem?_toList]
     by_cases hk1:k < a * sz
     ·rw [List.getElem?_append_left (by rw [List.length_append,List.length_take,hfs]; omega),List.getElem?_append_left (by rw [List.length_take,hfs]; omega),List.getElem?_take,if_pos hk1]
      exact k1 k hk1
     ·by_cases hk2:k < (a + v.length) * sz
      ·rw [List.getElem?_append_left (by rw [List.length_append,List.length_take,hfs,hfv]; omega),List.getElem?_append_right (by rw [List.length_take,hfs]; omega),List.length_take,hfs]
       have:=k2 (k - a * sz) (by omega)
       rw [show a * sz + (k - a * sz)=k by omega] at this
       rw [this]
       congr 1
       omega
      ·rw [List.getElem?_append_right (by rw [List.length_append,List.length_take,hfs,hfv]; omega),List.length_append,List.length_take,hfs,hfv]
       have:=k3 (k - (a + v.length) * sz) (by omega)
       rw [show (a + v.length) * sz + (k - (a + v.length) * sz)=k by omega] at this
       rw [this]
       congr 1
       omega
    ·rw [if_neg hk,List.getElem?_eq_none]
     rw [List.length_append,List.length_append,List.length_take,hdl,hfs,hfv]
     omega
   by_cases hroom:s.length + v.length≤c
   ·have hroom':(s.length + v.length) * sz≤c * sz:=Nat.mul_le_mul_right _ hroom
    have hkB:cur.size ≠ 0:=by
     have:0 < s.length * sz:=Nat.mul_pos (by omega) hsz
     omega
    refine (hshift g s.length c a vb v.length cq (s.map enc).flatten (v.map enc).flatten w has h3 hroom (xT hm) hvb hfs hfv hcell (fun j hj=>?_) (fun j hj=>?_) hcellv (qN hen s) (qN hen v) E E curv.size cur.size ?_ ?_ hkB ?_ ?_).mono ?_
    ·simp only [World.cell?,hg]
     rw [Array.getElem?_eq_getElem (by omega)]
     rfl
    ·simp [World.frozen?,hg]
    ·simp [World.shape?,hgv]
    ·simp [World.shape?,hg]
    ·simp [World.frozen?,hgv]
    ·simp [World.frozen?,hgv]
    ·rintro e w' ⟨rfl,rfl⟩
     obtain ⟨a1,a2,a3,a4,a5,a6⟩:=kP g ((s.map enc).flatten.drop (a * sz)) ((a + v.length) * sz) w.drew cur E (0,0) hg
     obtain ⟨b1,b2,b3,b4,b5,b6⟩:=kP g (v.map enc).flatten (a * sz) _ _ E (0,0) a1
     refine ⟨some ⟨g,0,none⟩,c,by rw [hlen],?_⟩
     have hcc:Ctx G (.row (some ⟨g,0,none⟩) c ((s.take a++v++s.drop a).map enc) E sz::.row (some ⟨vb,0,none⟩) cq (v.map enc) E sz::L) _ :=
      aBy hc (b4.trans a4) (b5.trans a5) (b6.trans a6) (b3.trans a3) (fun x hx=>(b2 x hx).trans (a2 x hx)) b1 (by rw [iG,iG,hcs]) (by rw [List.length_map,hlen]; exact hroom) hm (lG hen _) (by
       refine key _ (by rw [iG,iG,hcs]; exact hroom') (fun k hk=>?_) (fun k hk=>?_) (fun k hk=>?_)
       ·rw [mE _ _ _ _ (by omega),mE _ _ _ _ (by omega),← ht,List.getElem?_take,if_pos (by omega),Array.getElem?_toList]
       ·exact vF _ _ _ _ (by rw [hfv]; exact hk) (by rw [iG,hfv,hcs]; omega)
       ·rw [mE _ _ _ _ (by rw [hfv]; omega)]
        exact vF _ _ _ _ (by rw [hdl]; exact hk) (by rw [hdl,hcs]; omega))
     exact hcc
   ·have hbig:(s.length + v.length) * by'≤140737488355328:=Nat.le_trans (Nat.mul_le_mul h2 hby) (by decide)
    have hgw:g < w.heap.size:=by
     rcases Nat.lt_or_ge g w.heap.size with h | h
     ·exact h
     ·rw [Array.getElem?_eq_none h] at hg; cases hg
    have hvw:vb < w.heap.size:=by
     rcases Nat.lt_or_ge vb w.heap.size with h | h
     ·exact h
     ·rw [Array.getElem?_eq_none h] at hgv; cases hgv
    have hzc:z.cells.size=sz:=by
     obtain ⟨-,i0,-,-,-,-,h,-⟩:=hT
     exact h
    refine (hgrow g s.length c a vb v.length cq (s.map enc).flatten (v.map enc).flatten w has h3 h (by omega) hbig hfs hfv hcell hcellv (qN hen s) (qN hen v) hgw hvw).mono ?_
    rintro e w' ⟨rfl,rfl⟩
    have hGn:=grownCap_ge w (s.length + v.length) c E
    have hGm:=grownCap_le_maxLen w (s.length + v.length) c E (by unfold maxLen; omega)
    generalize hGG:grownCap w (s.length + v.length) c E=GC at *
    generalize hROW:((s.map enc).flatten.take (a * sz)).toArray++Builtin.zeroCells z.cells (s.length + v.length - a)++Builtin.zeroCells z.cells (GC - (s.length + v.length))=ROW
    have hRs:ROW.size=GC * sz:=by
     rw [← hROW,Array.size_append,Array.size_append,size_zeroCells,size_zeroCells,List.size_toArray,List.length_take,hzc,hfs]
     have x1:(s.length + v.length - a) * sz=(s.length + v.length) * sz - a * sz:=Nat.sub_mul _ _ _
     have x2:(GC - (s.length + v.length)) * sz=GC * sz - (s.length + v.length) * sz:=Nat.sub_mul _ _ _
     have x3:(s.length + v.length) * sz≤GC * sz:=Nat.mul_le_mul_right _ hGn
     omega
    have hRt:∀ k,k < a * sz→ROW[k]?=(s.map enc).flatten[k]?:=by
     intro k hk
     rw [← hROW,Array.getElem?_append_left (by rw [Array.size_append,List.size_toArray,List.length_take,hfs]; omega),Array.getElem?_append_left (by rw [List.size_toArray,List.length_take,hfs]; omega)]
     simp [hk]
    have hal:(w.alloc (.cells ROW E)).drew.heap[w.heap.size]?=some (.cells ROW E (0,0)):=heap_alloc_new w _
    obtain ⟨a1,a2,a3,a4,a5,a6⟩:=kP w.heap.size (v.map enc).flatten (a * sz) (w.alloc (.cells ROW E)).drew ROW E (0,0) hal
    obtain ⟨b1,b2,b3,b4,b5,b6⟩:=kP w.heap.size ((s.map enc).flatten.drop (a * sz)) ((a + v.length) * sz) _ _ E (0,0) (show ((w.alloc (.cells ROW E)).drew.setCells w.heap.size (a * sz) (v.map enc).flatten).drew.heap[w.heap.size]?=_ from a1)
    have hsz2:(w.alloc (.cells ROW E)).drew.heap.size=w.heap.size + 1:=Array.size_push _
    refine ⟨some ⟨w.heap.size,0,none⟩,GC,by rw [hlen],?_⟩
    have hGs:(s.length + v.length) * sz≤GC * sz:=Nat.mul_le_mul_right _ hGn
    have hcc:Ctx G (.row (some ⟨w.heap.size,0,none⟩) GC ((s.take a++v++s.drop a).map enc) E sz::.row (some ⟨vb,0,none⟩) cq (v.map enc) E sz::L) ((((w.alloc (.cells ROW E)).drew.setCells w.heap.size (a * sz) (v.map enc).flatten).drew).setCells w.heap.size ((a + v.length) * sz) ((s.map enc).flatten.drop (a * sz))):=by
     refine hc.upd (b4.trans a4) (b5.trans a5) (b6.trans a6) (by rw [b3]; show w.heap.size≤((w.alloc (.cells ROW E)).drew.setCells w.heap.size (a * sz) (v.map enc).flatten).heap.size; rw [a3,hsz2]; omega) (fun b hb hne=>?_) ⟨lG hen _,cI _ (lG hen _),.inr ⟨w.heap.size,GC,_,by rw [List.length_map],Nat.zero_le _,b1,by rw [List.length_map,hlen]; exact hGn,hGm,by rw [iG,iG,hRs],?_⟩⟩ (fun b hbf=>.inr (by simp [Ent.own] at hbf; omega))
     ·exact (b2 b (by omega)).trans ((a2 b (by omega)).trans (Go.heap_alloc_old w _ hb))
     ·refine key _ (by rw [iG,iG,hRs]; exact hGs) (fun k hk=>?_) (fun k hk=>?_) (fun k hk=>?_)
      ·rw [mE _ _ _ _ (by omega),mE _ _ _ _ (by omega)]
       exact hRt k hk
      ·rw [mE _ _ _ _ (by omega)]
       exact vF _ _ _ _ (by rw [hfv]; exact hk) (by rw [hfv,hRs]; omega)
      ·exact vF _ _ _ _ (by rw [hdl]; exact hk) (by rw [hdl,iG,hRs]; omega)
    exact hcc
 ·cases hF
end Go.Nilo
