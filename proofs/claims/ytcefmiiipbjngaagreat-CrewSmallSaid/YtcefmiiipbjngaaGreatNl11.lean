/-
  Arrays in boxes; elements of a call's own slices written. Conditions: none.
-/
import Derived.Test.YtcefmiiipbjngaaGreatNl10
set_option linter.unusedSimpArgs false
set_option linter.unusedVariables false
namespace Go.Nilo

theorem wM (vs B:List Value):∀ (A:List Value) (o:Nat),spl (A++B) (A.length + o) vs=A++spl B o vs
 | [],o=>by simp
 | a::A,o=>by
  have:(a::A).length + o=(A.length + o) + 1:=by simp; omega
  rw [this]
  show a::spl (A++B) (A.length + o) vs=_
  rw [wM vs B A o]
  rfl

theorem xV (vs B:List Value):∀ (A:List Value) (o:Nat),o + vs.length≤A.length→spl (A++B) o vs=spl A o vs++B:=by
 induction vs with
 | nil=>intro A o _; rw [aEh,aEh]
 | cons v vs ih=>
  intro A o h
  simp at h
  rw [aAs v vs (A++B) o (by simp; omega),aAs v vs A o (by omega)]
  have:(A++B).set o v=A.set o v++B:=by rw [List.set_append]; simp; omega
  rw [this]
  exact ih _ _ (by simp; omega)

def arr {α:Type} (n:Nat) (enc:α→List Value) (f:Nat→α):List Value:=(List.range n).flatMap λi=>enc (f i)
def aE5 {α:Type} (f:Nat→α) (i:Nat) (v:α):Nat→α:=λk=>bif Nat.beq k i then v else f k
theorem aOo {α:Type} (f:Nat→α) (i:Nat) (v:α):aE5 f i v i=v:=by simp [aE5]
theorem aNd {α:Type} {f:Nat→α} {i k:Nat} {v:α} (h:k ≠ i):aE5 f i v k=f k:=by
 have:Nat.beq k i=false:=by
  cases hb:Nat.beq k i with
  | false=>rfl
  | true=>exact absurd (Nat.eq_of_beq_eq_true hb) h
 simp [aE5,this]

theorem aAr {α:Type} (n:Nat) (enc:α→List Value) (f:Nat→α):arr (n + 1) enc f=arr n enc f++enc (f n):=by
 simp [arr,List.range_succ]
theorem xZ {α:Type} {enc:α→List Value} {sz:Nat} (hz:∀ x,(enc x).length=sz) (f:Nat→α):∀ n,(arr n enc f).length=n * sz
 | 0=>by simp [arr]
 | n + 1=>by rw [aAr,List.length_append,xZ hz f n,hz,Nat.succ_mul]
theorem aN0 {α:Type} {enc:α→List Value} {sz:Nat} (hz:∀ x,(enc x).length=sz) (f:Nat→α) {i j:Nat} (hj:j < sz):∀ n,i < n→(arr n enc f)[i * sz + j]?=(enc (f i))[j]?
 | 0,h=>by omega
 | n + 1,h=>by
  rw [aAr]
  by_cases hi:i < n
  ·have:i * sz + j < (arr n enc f).length:=by
    rw [xZ hz]
    have:(i + 1) * sz≤n * sz:=Nat.mul_le_mul_right _ (by omega)
    rw [Nat.succ_mul] at this
    omega
   rw [List.getElem?_append_left this]
   exact aN0 hz f hj n hi
  ·have hin:i=n:=by omega
   subst hin
   rw [List.getElem?_append_right (by rw [xZ hz]; omega),xZ hz]
   congr 1
   omega
theorem aI1 {α:Type} {enc:α→List Value} {f g:Nat→α}:∀ n,(∀ k,k < n→f k=g k)→arr n enc f=arr n enc g
 | 0,_=>rfl
 | n + 1,h=>by rw [aAr,aAr,aI1 n (λk hk=>h k (by omega)),h n (by omega)]
theorem aN3 {α:Type} {enc:α→List Value} {sz:Nat} (hz:∀ x,(enc x).length=sz) (f:Nat→α) {i o':Nat} {vs:List Value} {y:α} (hy:spl (enc (f i)) o' vs=enc y) (hl:o' + vs.length≤sz):∀ n,i < n→spl (arr n enc f) (i * sz + o') vs=arr n enc (aE5 f i y)
 | 0,h=>by omega
 | n + 1,h=>by
  rw [aAr,aAr]
  by_cases hi:i < n
  ·have hle:(i + 1) * sz≤n * sz:=Nat.mul_le_mul_right _ (by omega)
   rw [Nat.succ_mul] at hle
   rw [xV _ _ _ _ (by rw [xZ hz]; omega),aN3 hz f hy hl n hi,aNd (by omega)]
  ·have hin:i=n:=by omega
   subst hin
   have h1:i * sz + o'=(arr i enc f).length + o':=by rw [xZ hz]
   rw [h1,wM,hy,aOo,aI1 (g:=aE5 f i y) i (λk hk=>(aNd (by omega)).symm)]

def inR (i:Int) (n:Nat):Option Unit:=if 0≤i∧i < (n:Int) then some () else none
theorem cG {i:Int} {n:Nat} {u:Unit} (h:inR i n=some u):0≤i∧i < (n:Int):=by
 unfold inR at h
 split at h
 ·assumption
 ·cases h

section steps
variable {P:Program} {ops:Array Oper} {Q:Exit→Act→World→Prop} {rest:List Oper} {a:Act} {w:World} {N:Fm} {d:Nat} {F:List (Nat × Value)} {G:cJ} {L L':List Ent} {v:Value}
 {ty:TypeId} {pos:String} {aft:Array Edge} {gd:Option (Nat × Bool)} {x y:Operand} {T:TypeId}

theorem fX {α:Type} {xs:List α} {i:Int} {e:α} (h:aQ xs i=some e):i.toNat < xs.length:=(List.getElem?_eq_some_iff.1 (dQ h).2).1
theorem stAr {α:Type} {b o o' T0 n sz:Nat} {i:Int} {enc:α→List Value} {f:Nat→α} {z:α} {pre post vs:List Value} {u:Value} {un:Unit} (hf:Has N a F) (hc:Ctx G L w) (hg:vJ ops F ⟨none,.store T x y,ty,pos,aft,gd⟩=some true) (hx:ev F x=some (.pointer (some ⟨b,o + i.toNat * sz + o',none⟩))) (hy:ev F y=some u)
  (hv:u.cells=vs.toArray) (hs:(P.info? T).map (·.size)=some vs.length) (h1:sG vs=true) (hz:∀ x,(enc x).length=sz) (ho:pre.length=o) (hi:inR i n=some un) (hn:spl (enc (f i.toNat)) o' vs=enc z) (hl:Nat.ble (o' + vs.length) sz=true)
  (hu:Upd L (.box b (pre++(arr n enc f++post)) T0) (.box b (pre++(arr n enc (aE5 f i.toNat z)++post)) T0) L')
  (k:∀ w,Ctx G L' w→wpList P ops Q rest a w):wpList P ops Q (⟨none,.store T x y,ty,pos,aft,gd⟩::rest) a w:=by
 obtain ⟨h0,hin⟩:=cG hi
 have hin':i.toNat < n:=by omega
 have hl':o' + vs.length≤sz:=by simpa using hl
 have hle:(i.toNat + 1) * sz≤n * sz:=Nat.mul_le_mul_right _ (by omega)
 rw [Nat.succ_mul] at hle
 have hsp:spl (pre++(arr n enc f++post)) (o + i.toNat * sz + o') vs=pre++(arr n enc (aE5 f i.toNat z)++post):=by
  have e1:o + i.toNat * sz + o'=pre.length + (i.toNat * sz + o'):=by omega
  rw [e1,wM,xV _ _ _ _ (by rw [xZ hz]; omega),aN3 hz f hn hl' n hin']
 refine stSt (vs:=vs) (o:=o + i.toNat * sz + o') hf hc hg hx hy hv hs h1 ?_ (hsp ▸ hu) k
 simp [xZ hz]
 omega
theorem wA {α:Type} {g cap T0 sz o':Nat} {i:Int} {enc:α→List Value} {xs:List α} {z:α} {vs:List Value} {u:Value} (hf:Has N a F) (hc:Ctx G L w) (hg:vJ ops F ⟨none,.store T x y,ty,pos,aft,gd⟩=some true) (hx:ev F x=some (.pointer (some ⟨g,i.toNat * sz + o',none⟩))) (hy:ev F y=some u)
  (hv:u.cells=vs.toArray) (hs:(P.info? T).map (·.size)=some vs.length) (h1:sG vs=true) (hz:∀ x,(enc x).length=sz) (hlt:i.toNat < xs.length) (hn:∀ e,xs[i.toNat]?=some e→spl (enc e) o' vs=enc z) (hl:Nat.ble (o' + vs.length) sz=true)
  (hu:Upd L (.row (some ⟨g,0,none⟩) cap (xs.map enc) T0 sz) (.row (some ⟨g,0,none⟩) cap ((xs.set i.toNat z).map enc) T0 sz) L')
  (k:∀ w,Ctx G L' w→wpList P ops Q rest a w):wpList P ops Q (⟨none,.store T x y,ty,pos,aft,gd⟩::rest) a w:=by
 have hl':o' + vs.length≤sz:=by simpa using hl
 obtain ⟨e,hge⟩:∃ e,xs[i.toNat]?=some e:=⟨_,List.getElem?_eq_getElem hlt⟩
 replace hn:=hn e hge
 refine wpList_step λK hK=>?_
 rw [gX hf hg,if_pos rfl]
 obtain ⟨hlen,hfl,hown⟩:=hc.sat _ hu.mem
 rcases hown with ⟨hn',_⟩ | ⟨g',cap',cur,hval,_,hh,hnc,hcm,hcs,htk⟩
 ·simp at hn'
 ·simp only [Value.slice.injEq,Option.some.injEq,Addr.mk.injEq,and_true,true_and] at hval
  obtain ⟨rfl,rfl⟩:=hval
  have hh':w.heap[g]?=some (.cells cur.toList.toArray T0 (0,0)):=by simpa using hh
  have hle:(i.toNat + 1) * sz≤(xs.map enc).length * sz:=Nat.mul_le_mul_right _ (by simp; omega)
  rw [Nat.succ_mul] at hle
  have hcl:(xs.map enc).length * sz≤cur.toList.length:=by
   have h1:=Nat.mul_le_mul_right sz hnc
   have h2:cur.toList.length=cur.size:=Array.length_toList
   omega
  obtain ⟨w',hr,hw,hwr⟩:=aAo (P:=P) (o:=i.toNat * sz + o') hh' hs hv (by omega) (by simpa [sG] using h1)
  have hr':(execOp a.eval ⟨none,.store T x y,ty,pos,aft,gd⟩).run P w=.ok .skip w':=by
   simp [execOp,hf.ev hx,hf.ev hy,Instr.storeAt,Instr.sureAddr,hr]
  unfold Oper.wp
  rw [hr',Oper.upon_skip]
  have hflat:∀ (ys:List α) (q:Nat),q < ys.length→(hq:ys[q]?=some e)→spl ((ys.map enc).flatten) (q * sz + o') vs=((ys.set q z).map enc).flatten:=by
   intro ys
   induction ys with
   | nil=>intro q hq; simp at hq
   | cons y ys ih=>
    intro q hq hqe
    cases q with
    | zero=>
     simp at hqe
     subst hqe
     simp only [List.map_cons,List.flatten_cons,List.set_cons_zero,Nat.zero_mul,Nat.zero_add]
     rw [xV _ _ _ _ (by rw [hz]; omega),hn]
    | succ q=>
     simp only [List.map_cons,List.flatten_cons,List.set_cons_succ]
     have e1:(q + 1) * sz + o'=(enc y).length + (q * sz + o'):=by rw [hz,Nat.succ_mul]; omega
     rw [e1,wM,ih q (by simpa using hq) (by simpa using hqe)]
  refine hK _ _ (k _ (hc.updAt hu hwr.os hwr.tape hwr.output (Nat.le_of_eq hwr.size.symm) (λk hk hne=>hwr.block k (λe=>hne (by simp [Ent.own,e]))) ?_ (λk hk=>.inl hk)))
  refine ⟨λr hr=>?_,?_,.inr ⟨g,cap,(spl cur.toList (i.toNat * sz + o') vs).toArray,?_,Nat.zero_le _,hw,?_,hcm,?_,?_⟩⟩
  ·obtain ⟨y,-,rfl⟩:=List.mem_map.1 hr
   rw [hz]
  ·have:∀ (l:List α),((l.map enc).flatten).length=l.length * sz:=by
    intro l
    induction l with
    | nil=>simp
    | cons y l ih=>simp only [List.map_cons,List.flatten_cons,List.length_append,hz,ih,List.length_cons,Nat.succ_mul]; omega
   rw [this]
   simp
  ·simp
  ·simpa using hnc
  ·simp [aHu,hcs]
  ·have hcur:cur.toList=(xs.map enc).flatten++cur.toList.drop ((xs.map enc).length * sz):=by
    rw [← htk]; exact (List.take_append_drop _ _).symm
   have hfl':((xs.map enc).flatten).length=(xs.map enc).length * sz:=hfl
   rw [List.toList_toArray,hcur,xV _ _ _ _ (by rw [hfl']; omega),hflat xs i.toNat hlt hge]
   have hlen2:(((xs.set i.toNat z).map enc).flatten).length=(((xs.set i.toNat z).map enc).length) * sz:=by
    rw [← hflat xs i.toNat hlt hge,aHu,hfl']
    simp
   rw [← hlen2,List.take_left]
end steps
def aD4 (p:Option Addr) (cap l sz:Nat):Option Addr:=if cap=l then p else p.map (·.add (l * sz))
def yE {α:Type} (xs:List α) (lo hi:Int):Option (List α):=if 0≤lo∧lo≤hi∧hi≤(xs.length:Int) then some ((xs.drop lo.toNat).take (hi.toNat - lo.toNat)) else none
theorem aC0 {α:Type} {xs v:List α} {lo hi:Int} (h:yE xs lo hi=some v):0≤lo∧lo≤hi∧hi≤(xs.length:Int)∧v=(xs.drop lo.toNat).take (hi.toNat - lo.toNat)∧v.length=hi.toNat - lo.toNat:=by
 unfold yE at h
 split at h
 ·rename_i hb
  obtain ⟨h0,h1,h2⟩:=hb
  have:=Option.some.inj h
  subst this
  refine ⟨h0,h1,h2,rfl,?_⟩
  simp
  omega
 ·cases h

theorem Rd.sub {α:Type} {enc:α→List Value} {G:cJ} {sz cap:Nat} {p:Option Addr} {xs v:List α} {lo hi:Int} (h:Rd G sz p cap (xs.map enc)) (hs:yE xs lo hi=some v):Rd G sz (aD4 p cap lo.toNat sz) (cap - lo.toNat) (v.map enc):=by
 obtain ⟨h0,h1,h2,hv,hl⟩:=aC0 hs
 obtain ⟨a1,a2,a3,a4⟩:=h
 have hmem:∀ x ∈ v,x ∈ xs:=λx hx=>by rw [hv] at hx; exact List.mem_of_mem_drop (List.mem_of_mem_take hx)
 refine ⟨?_,by omega,?_,?_⟩
 ·simp at a1 ⊢; omega
 ·intro r hr
  obtain ⟨x,hx,rfl⟩:=List.mem_map.1 hr
  exact a3 _ (List.mem_map.2 ⟨x,hmem x hx,rfl⟩)
 ·rcases a4 with a4 | ⟨b,o,hp,cur,T,fr,hg,hr⟩
  ·left
   have:xs=[]:=by simpa using a4
   subst this
   simp at hv
   simp [hv]
  ·by_cases hc:cap=lo.toNat
   ·left
    have:v.length=0:=by simp at a1; omega
    simp [List.length_eq_zero_iff.1 this]
   ·right
    refine ⟨b,o + lo.toNat * sz,by simp [aD4,hc,hp,Addr.add],cur,T,fr,hg,λi r hi j u hu=>?_⟩
    have hi':(xs.map enc)[lo.toNat + i]?=some r:=by
     rw [List.getElem?_map] at hi ⊢
     rw [hv,List.getElem?_take] at hi
     split at hi
     ·rwa [List.getElem?_drop] at hi
     ·simp at hi
    have:=hr (lo.toNat + i) r hi' j u hu
    rw [Nat.add_mul] at this
    have e1:o + lo.toNat * sz + i * sz + j=o + (lo.toNat * sz + i * sz) + j:=by omega
    rw [e1]
    exact this

theorem aBe {α:Type} {enc:α→List Value} {G:cJ} {L:List Ent} {w:World} {p:Option Addr} {cap T sz:Nat} {xs:List α} (hc:Ctx G L w) (hm:pD L (Ent.row p cap (xs.map enc) T sz)):xs.length≤cap:=by
 obtain ⟨_,_,h⟩:=hm _ _ hc
 rcases h with ⟨h1,h2⟩ | ⟨g,cap',cur,hv,_,_,h3,_⟩
 ·simp at h2; simp [h2]
 ·simp only [Value.slice.injEq] at hv
  obtain ⟨_,_,rfl⟩:=hv
  simpa using h3

def oev (F:List (Nat × Value)) (dft:Int):Option Operand→Option Int
 | none=>some dft
 | some x=>match ev F x with
  | some (.int _ i)=>some i
  | _=>none

theorem pSl {α:Type} {P:Program} {F:List (Nat × Value)} {d:Option Nat} {T ty e sz n cap:Nat} {pos:String} {aft:Array Edge} {gd:Option (Nat × Bool)} {x:Operand} {low high:Option Operand} {p:Option Addr} {xs v:List α} {lo hi:Int} (hT:P.underlying T=some (.slice e)) (hs:(P.info? e).map (·.size)=some sz)
  (hx:ev F x=some (.slice p n cap)) (hn:n=xs.length) (hcap:xs.length≤cap) (hl:oev F 0 low=some lo) (hh:oev F n high=some hi) (h:yE xs lo hi=some v) :
  Pu P ⟨d,.slice T x low high none,ty,pos,aft,gd⟩ F (.slice (aD4 p cap lo.toNat sz) v.length (cap - lo.toNat)):=λN a w hf=>by
 obtain ⟨h0,h1,h2,hv,hlen⟩:=aC0 h
 subst hn
 have ho:∀ (o:Option Operand) (dft r:Int),oev F dft o=some r→(o.map a.eval=none∧r=dft) ∨ ∃ k,o.map a.eval=some (.int k r):=by
  intro o dft r h
  cases o with
  | none=>left; simp [oev] at h; exact ⟨rfl,h.symm⟩
  | some y=>
   right
   simp only [oev] at h
   cases hy:ev F y with
   | none=>simp [hy] at h
   | some u=>
    rw [hy] at h
    have:=hf.ev hy
    cases u <;> simp at h
    rename_i k n
    subst h
    exact ⟨k,by simp only [Option.map_some,this]⟩
 have key:(Instr.sliceBounds true xs.length cap (low.map a.eval) (high.map a.eval) none).run P w=.ok (lo.toNat,hi.toNat,cap) w:=by
  have r1:∀ k code,(Instr.sliceBound (.int k hi) cap code).run P w=.ok hi.toNat w:=λk code=>run_sliceBound w _ _ _ _ (by omega) (by omega)
  have r2:∀ k code,(Instr.sliceBound (.int k lo) hi.toNat code).run P w=.ok lo.toNat w:=λk code=>run_sliceBound w _ _ _ _ h0 (by omega)
  have r3:∀ k code,hi=(xs.length:Int)→(Instr.sliceBound (.int k lo) xs.length code).run P w=.ok lo.toNat w:=λk code _=>run_sliceBound w _ _ _ _ h0 (by omega)
  rcases ho _ _ _ hl with ⟨e1,rfl⟩ | ⟨k,e1⟩ <;> rcases ho _ _ _ hh with ⟨e2,e3⟩ | ⟨k',e2⟩
  ·subst e3; simp [Instr.sliceBounds,e1,e2]
  ·simp [Instr.sliceBounds,e1,e2,r1]
  ·have:=r3 k .sliceB e3
   subst e3; simp [Instr.sliceBounds,e1,e2,this]
  ·simp [Instr.sliceBounds,e1,e2,r1,r2]
 have hat:(Instr.sliceAt T (.slice p xs.length cap) (low.map a.eval) (high.map a.eval) none).run P w=.ok (.slice (aD4 p cap lo.toNat sz) v.length (cap - lo.toNat)) w:=by
  simp [Instr.sliceAt,run_underlying hT,Instr.slice,key,wF hs,aD4,hlen]
 simp [execOp,hf.ev hx,hat]
end Go.Nilo
