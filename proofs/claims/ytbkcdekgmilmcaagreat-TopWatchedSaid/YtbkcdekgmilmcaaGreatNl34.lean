/-
  Maps whose values are slices that are never changed: what a call remembers of a function. Conditions: what each theorem names.
-/
import Derived.Test.YtbkcdekgmilmcaaGreatNl33
set_option linter.unusedSimpArgs false
set_option linter.unusedVariables false
namespace Go.Nilo
section memo
variable {κ:Type} [DecidableEq κ]
abbrev uY (κ:Type):=List (κ × H2 × List Int)
@[reducible] def mSl (r:H2 × List Int):Value:=.slice r.1.1 r.2.length r.1.2
def kY:uY κ→κ→Option (H2 × List Int)
 | [],_=>none
 | (j,r)::H,k=>if k=j then some r else kY H k
@[reducible] def aAk (T:TypeId) (r:κ × H2 × List Int):Ent:=.row r.2.1.1 r.2.1.2 (r.2.2.map aB) T 1
def wX (p:Prop):Ent:=.grp (fun _=>False) (fun _=>p)
def okH (F:κ→Option (List Int)) (H:uY κ):Prop:=∀ r ∈ H,F r.1=some r.2.2
def aE9 (b:Nat) (kv:κ→Value) (F:κ→Option (List Int)) (T:TypeId) (H:uY κ):Ent:=aGt (.gm b (KQ kv (fun j=>(kY H j).map mSl) none)::wX (okH F H)::H.map (aAk T))
def aIe (b:Nat) (kv:κ→Value) (F:κ→Option (List Int)) (T:TypeId) (H:uY κ) (k:κ) (h:H2) (xs:List Int):Ent :=
 aGt (.gm b (KQ kv (fun j=>(kY ((k,h,xs)::H) j).map mSl) none)::wX (okH F ((k,h,xs)::H))::H.map (aAk T))
theorem yI {p:Prop} {G:aT} {L:List Ent} {w:World}:Ctx G (wX p::L) w ↔ p∧Ctx G L w:=by
 constructor
 ·intro h
  exact ⟨(h.sat _ List.mem_cons_self).1,h.tail⟩
 ·rintro ⟨hp,h⟩
  refine ⟨h.os,h.tape,h.output,h.sz,h.pers,?_,?_,List.pairwise_cons.2 ⟨?_,h.sep⟩⟩
  ·intro e he
   rcases List.mem_cons.1 he with rfl | he
   ·exact ⟨hp,fun b hb=>hb.elim,fun _ _=>hp⟩
   ·exact h.sat e he
  ·intro e he b hb
   rcases List.mem_cons.1 he with rfl | he
   ·exact hb.elim
   ·exact h.fresh e he b hb
  ·intro e _ b hb
   exact hb.elim
theorem aLb {H:uY κ} {k:κ} {r:H2 × List Int} (h:kY H k=some r):(k,r) ∈ H:=by
 induction H with
 | nil=>cases h
 | cons x H ih=>
  obtain ⟨j,s⟩:=x
  unfold kY at h
  by_cases e:k=j
  ·subst e
   rw [if_pos rfl] at h
   cases h
   exact List.mem_cons_self
  ·rw [if_neg e] at h
   exact List.mem_cons_of_mem _ (ih h)
theorem aHq {H:uY κ} {k:κ} {r:H2 × List Int} (h:kY H k=some r) (j:κ):kY ((k,r)::H.erase (k,r)) j=kY H j:=by
 by_cases e:j=k
 ·subst e
  rw [h]
  unfold kY
  rw [if_pos rfl]
 ·have h1:kY ((k,r)::H.erase (k,r)) j=kY (H.erase (k,r)) j:=by
   rw [kY,if_neg e]
  rw [h1]
  clear h h1
  induction H with
  | nil=>rfl
  | cons x H ih=>
   rw [List.erase_cons]
   split
   ·rename_i hx
    have hx':x=(k,r):=by simpa using hx
    subst hx'
    rw [kY,if_neg e]
   ·obtain ⟨q,s⟩:=x
    rw [kY,kY,ih]
variable {kv:κ→Value} {F:κ→Option (List Int)} {T:TypeId} {H:uY κ} {b:Nat} {G:aT} {L:List Ent} {w:World}
theorem aNh (hc:Ctx G (.gm b (KQ kv (fun _=>none) none)::L) w):Ctx G (aE9 b kv F T []::L) w:=by
 refine nI.2 ?_
 show Ctx G (.gm b (KQ kv (fun _=>none) none)::wX (okH F [])::L) w
 have h1:Ctx G (wX (okH F [])::.gm b (KQ kv (fun _=>none) none)::L) w:=yI.2 ⟨(fun r hr=>by cases hr),hc⟩
 exact h1.perm (.swap _ _ _)
theorem aJc {k:κ} {h:H2} {xs:List Int} (hc:Ctx G (aIe b kv F T H k h xs::.row h.1 h.2 (xs.map aB) T 1::L) w):Ctx G (aE9 b kv F T ((k,h,xs)::H)::L) w:=by
 refine nI.2 ?_
 have h1:=nI.1 hc
 refine h1.perm ?_
 show (_::_::(H.map (aAk T)++(.row h.1 h.2 (xs.map aB) T 1::L))).Perm (_::_::(.row h.1 h.2 (xs.map aB) T 1::(H.map (aAk T)++L)))
 exact (List.perm_middle.cons _).cons _
theorem aK5 {k:κ} {h:H2} {xs:List Int} (hl:kY H k=some (h,xs)) (hc:Ctx G (aE9 b kv F T H::L) w):F k=some xs∧Ctx G (aIe b kv F T (H.erase (k,h,xs)) k h xs::.row h.1 h.2 (xs.map aB) T 1::L) w:=by
 have hm:=aLb hl
 have h1:=nI.1 hc
 have h2:Ctx G (wX (okH F H)::.gm b (KQ kv (fun j=>(kY H j).map mSl) none)::(H.map (aAk T)++L)) w:=h1.perm (.swap _ _ _)
 obtain ⟨hok,h3⟩:=yI.1 h2
 refine ⟨hok _ hm,nI.2 ?_⟩
 have hp:=List.perm_cons_erase hm
 have hok':okH F ((k,h,xs)::H.erase (k,h,xs)):=fun r hr=>hok r (hp.mem_iff.2 hr)
 have e1:(fun j=>(kY ((k,h,xs)::H.erase (k,h,xs)) j).map mSl)=fun j=>(kY H j).map mSl:=funext fun j=>by rw [aHq hl]
 rw [e1]
 have h4:Ctx G (wX (okH F ((k,h,xs)::H.erase (k,h,xs)))::.gm b (KQ kv (fun j=>(kY H j).map mSl) none)::(H.map (aAk T)++L)) w:=yI.2 ⟨hok',h3⟩
 refine h4.perm ((List.Perm.swap _ _ _).trans ((List.Perm.cons _ (List.Perm.cons _ ?_))))
 have h5:(H.map (aAk T)++L).Perm (((k,h,xs)::H.erase (k,h,xs)).map (aAk T)++L):=(hp.map _).append_right L
 refine h5.trans ?_
 show (.row h.1 h.2 (xs.map aB) T 1::((H.erase (k,h,xs)).map (aAk T)++L)).Perm ((H.erase (k,h,xs)).map (aAk T)++(.row h.1 h.2 (xs.map aB) T 1::L))
 exact List.perm_middle.symm
end memo
section wrap
variable {κ:Type} {G:aT} {L:List Ent} {w:World}
def aAm (l:List H2):Hds:=fun j=>l.getD j (none,0)
def aK8 (b:Nat) (hs:Hds) (c:Nat):Prop:=c=b ∨ ∃ j,((hs j).1).map (·.block)=some c
def aId (b:Nat) (hs:Hds) (Q:uY κ→Prop) (es:uY κ→List Ent):Ent :=
 .grp (aK8 b hs) (fun w=>∃ H,Q H∧(∀ r ∈ H,∃ j,hs j=r.2.1)∧(∀ e ∈ es H,e.sat w)∧aIx (es H))
theorem wF {b:Nat} {hs:Hds} {kv:κ→Value} {f:κ→Option Value} {p:Prop} {T:TypeId} {H:uY κ} (hcov:∀ r ∈ H,∃ j,hs j=r.2.1) {c:Nat}:(∃ e ∈ (.gm b (KQ kv f none)::wX p::H.map (aAk T):List Ent),e.own c)→aK8 b hs c:=by
 rintro ⟨e,he,hc⟩
 rcases List.mem_cons.1 he with rfl | he
 ·left
  have:some b=some c:=hc
  exact (Option.some.inj this).symm
 ·rcases List.mem_cons.1 he with rfl | he
  ·exact hc.elim
  ·obtain ⟨r,hr,rfl⟩:=List.mem_map.1 he
   obtain ⟨j,hj⟩:=hcov r hr
   right
   refine ⟨j,?_⟩
   rw [hj]
   exact hc
theorem aE7 {b:Nat} {kv:κ→Value} {f:κ→Option Value} {p:Prop} {T:TypeId} {H:uY κ} {c:Nat} (h:aK8 b (aAm (H.map fun r=>r.2.1)) c):∃ e ∈ (.gm b (KQ kv f none)::wX p::H.map (aAk T):List Ent),e.own c:=by
 rcases h with rfl | ⟨j,hj⟩
 ·exact ⟨_,List.mem_cons_self,rfl⟩
 ·by_cases hl:j < H.length
  ·have e1:aAm (H.map fun r=>r.2.1) j=H[j].2.1:=by simp [aAm,List.getD,hl]
   rw [e1] at hj
   exact ⟨aAk T H[j],List.mem_cons_of_mem _ (List.mem_cons_of_mem _ (List.mem_map_of_mem (List.getElem_mem hl))),hj⟩
  ·have e1:aAm (H.map fun r=>r.2.1) j=(none,0):=by
    unfold aAm
    simp [List.getD,List.getElem?_eq_none (show (H.map fun r=>r.2.1).length≤j by simpa using hl)]
   rw [e1] at hj
   cases hj
theorem wL (H:uY κ):∀ r ∈ H,∃ j,aAm (H.map fun r=>r.2.1) j=r.2.1:=by
 intro r hr
 obtain ⟨j,hj,rfl⟩:=List.getElem_of_mem hr
 exact ⟨j,by simp [aAm,List.getD,hj]⟩
theorem aE3 {b:Nat} {hs:Hds} {Q:uY κ→Prop} {es:uY κ→List Ent} (hes:∀ H c,(∀ r ∈ H,∃ j,hs j=r.2.1)→(∃ e ∈ es H,e.own c)→aK8 b hs c) (hc:Ctx G (aId b hs Q es::L) w):∃ H,Q H∧Ctx G (aGt (es H)::L) w:=by
 obtain ⟨⟨H,hQ,hcov,h1,h2⟩,-,-⟩:=hc.sat _ List.mem_cons_self
 obtain ⟨hs1,hs2⟩:=List.pairwise_cons.1 hc.sep
 refine ⟨H,hQ,hc.os,hc.tape,hc.output,hc.sz,hc.pers,?_,?_,List.pairwise_cons.2 ⟨?_,hs2⟩⟩
 ·intro e he
  rcases List.mem_cons.1 he with rfl | he
  ·exact zY.2 ⟨h1,h2⟩
  ·exact hc.sat e (List.mem_cons_of_mem _ he)
 ·intro e he c hb
  rcases List.mem_cons.1 he with rfl | he
  ·exact hc.fresh _ List.mem_cons_self c (hes H c hcov hb)
  ·exact hc.fresh e (List.mem_cons_of_mem _ he) c hb
 ·intro e he c hb
  exact hs1 e he c (hes H c hcov hb)
theorem aHb {b:Nat} {hs:Hds} {Q:uY κ→Prop} {es:uY κ→List Ent} {H:uY κ} (hQ:Q H) (hcov:∀ r ∈ H,∃ j,hs j=r.2.1) (hes:∀ c,aK8 b hs c→∃ e ∈ es H,e.own c) (hes2:∀ c,(∃ e ∈ es H,e.own c)→aK8 b hs c) (hc:Ctx G (aGt (es H)::L) w):Ctx G (aId b hs Q es::L) w:=by
 have hg:=hc.sat _ List.mem_cons_self
 obtain ⟨h1,h2⟩:=zY.1 hg
 obtain ⟨hs1,hs2⟩:=List.pairwise_cons.1 hc.sep
 refine ⟨hc.os,hc.tape,hc.output,hc.sz,hc.pers,?_,?_,List.pairwise_cons.2 ⟨?_,hs2⟩⟩
 ·intro e he
  rcases List.mem_cons.1 he with rfl | he
  ·refine ⟨⟨H,hQ,hcov,h1,h2⟩,fun c hb=>Ent.lt hg (hes c hb),fun w' hw'=>⟨H,hQ,hcov,?_⟩⟩
   exact zY.1 (Ent.stay hg fun c hb=>hw' c (hes2 c hb))
  ·exact hc.sat e (List.mem_cons_of_mem _ he)
 ·intro e he c hb
  rcases List.mem_cons.1 he with rfl | he
  ·exact hc.fresh _ List.mem_cons_self c (hes c hb)
  ·exact hc.fresh e (List.mem_cons_of_mem _ he) c hb
 ·intro e he c hb
  exact hs1 e he c (hes c hb)
end wrap
section memo
variable {κ:Type} [DecidableEq κ] {kv:κ→Value} {F:κ→Option (List Int)} {T:TypeId} {b:Nat} {G:aT} {L:List Ent} {w:World}
@[reducible] def aP1 (b:Nat) (kv:κ→Value) (F:κ→Option (List Int)) (T:TypeId) (H:uY κ):List Ent:=.gm b (KQ kv (fun j=>(kY H j).map mSl) none)::wX (okH F H)::H.map (aAk T)
@[reducible] def memHs (b:Nat) (kv:κ→Value) (F:κ→Option (List Int)) (T:TypeId) (k:κ) (p:Option Addr) (c:Nat) (xs:List Int) (H:uY κ):List Ent :=
 .gm b (KQ kv (fun j=>(kY ((k,(p,c),xs)::H) j).map mSl) none)::wX (okH F ((k,(p,c),xs)::H))::H.map (aAk T)
def bI (b:Nat) (kv:κ→Value) (F:κ→Option (List Int)) (T:TypeId) (hs:Hds):Ent:=aId b hs (fun _=>True) (aP1 b kv F T)
def aLg (b:Nat) (kv:κ→Value) (F:κ→Option (List Int)) (T:TypeId) (hs:Hds) (k:κ):Ent:=aId b hs (fun H=>kY H k=none) (aP1 b kv F T)
def aAw (b:Nat) (kv:κ→Value) (F:κ→Option (List Int)) (T:TypeId) (hs:Hds) (k:κ) (p:Option Addr) (c:Nat) (xs:List Int):Ent:=aId b hs (fun _=>True) (memHs b kv F T k p c xs)
theorem aH5 {hs:Hds} (hc:Ctx G (bI b kv F T hs::L) w):∃ H,Ctx G (aE9 b kv F T H::L) w:=by
 obtain ⟨H,-,h⟩:=aE3 (fun _ _ hcov h=>wF hcov h) hc
 exact ⟨H,h⟩
theorem aM3 {hs:Hds} {k:κ} (hc:Ctx G (aLg b kv F T hs k::L) w):∃ H,kY H k=none∧Ctx G (aE9 b kv F T H::L) w:=aE3 (fun _ _ hcov h=>wF hcov h) hc
theorem aM6 {hs:Hds} {k:κ} {p:Option Addr} {c:Nat} {xs:List Int} (hc:Ctx G (aAw b kv F T hs k p c xs::L) w):∃ H,Ctx G (aIe b kv F T H k (p,c) xs::L) w:=by
 obtain ⟨H,-,h⟩:=aE3 (fun _ _ hcov h=>wF hcov h) hc
 exact ⟨H,h⟩
theorem aGs {H:uY κ} (hc:Ctx G (aE9 b kv F T H::L) w):∃ hs,Ctx G (bI b kv F T hs::L) w:=⟨_,aHb (hs:=aAm (H.map fun r=>r.2.1)) trivial (wL H) (fun _=>aE7) (fun _=>wF (wL H)) hc⟩
theorem aOu {H:uY κ} {k:κ} (hk:kY H k=none) (hc:Ctx G (aE9 b kv F T H::L) w):∃ hs,Ctx G (aLg b kv F T hs k::L) w:=⟨_,aHb (hs:=aAm (H.map fun r=>r.2.1)) hk (wL H) (fun _=>aE7) (fun _=>wF (wL H)) hc⟩
theorem aJ5 {H:uY κ} {k:κ} {p:Option Addr} {c:Nat} {xs:List Int} (hc:Ctx G (aIe b kv F T H k (p,c) xs::L) w):∃ hs,Ctx G (aAw b kv F T hs k p c xs::L) w:=⟨_,aHb (hs:=aAm (H.map fun r=>r.2.1)) trivial (wL H) (fun _=>aE7) (fun _=>wF (wL H)) hc⟩
theorem aOf (hc:Ctx G (.gm b (KQ kv (fun _=>none) none)::L) w):∃ hs,Ctx G (bI b kv F T hs::L) w:=aGs (aNh hc)
theorem tU {hs:Hds} {k:κ} {p:Option Addr} {c:Nat} {xs:List Int} (hc:Ctx G (aAw b kv F T hs k p c xs::.row p c (xs.map aB) T 1::L) w):∃ hs,Ctx G (bI b kv F T hs::L) w:=by
 obtain ⟨H,h⟩:=aM6 hc
 exact aGs (aJc h)
theorem aQz {hs:Hds} {k:κ} (hc:Ctx G (aLg b kv F T hs k::L) w):∃ hs,Ctx G (bI b kv F T hs::L) w:=by
 obtain ⟨H,-,h⟩:=aM3 hc
 exact aGs h
theorem aM0 (k:κ) {hs:Hds} (hc:Ctx G (bI b kv F T hs::L) w):(∃ hs,Ctx G (aLg b kv F T hs k::L) w) ∨ ∃ hs p c xs,F k=some xs∧Ctx G (aAw b kv F T hs k p c xs::.row p c (xs.map aB) T 1::L) w:=by
 obtain ⟨H,h⟩:=aH5 hc
 cases hl:kY H k with
 | none=>exact .inl (aOu hl h)
 | some r=>
  obtain ⟨⟨p,c⟩,xs⟩:=r
  obtain ⟨h1,h2⟩:=aK5 hl h
  obtain ⟨hs,h3⟩:=aJ5 h2
  exact .inr ⟨hs,p,c,xs,h1,h3⟩
end memo
section steps
variable {P:Program} {ops:Array Oper} {Q:Exit→Act→World→Prop} {rest:List Oper} {a:Act} {w:World} {N:Fm} {d:Nat} {F:List (Nat × Value)} {G:aT} {L L1:List Ent}
 {ty:TypeId} {pos:String} {aft:Array Edge} {gd:Option (Nat × Bool)} {x y:Operand} {T:TypeId} {κ:Type} [DecidableEq κ] {kv:κ→Value}
theorem aOl {b E K eT:TypeId} {Fn:κ→Option (List Int)} {hs:Hds} {k:κ} {dd:Option Nat} (hm:lW L (aLg b kv Fn eT hs k)) (hT:P.underlying T=some (.map K E)) (KT:aLc P K kv) (hz:(P.info? E).map (·.zero)=some (some (.slice none 0 0)))
  (hx:ev F x=some (.map (some b))) (hy:ev F y=some (kv k)):Ev P ⟨dd,.lookup T x y true,ty,pos,aft,gd⟩ N F G L (.tuple #[.slice none 0 0,.bool false]):=fun a w hf hc=>by
 obtain ⟨⟨H,hk,-,h1,-⟩,-,-⟩:=hm _ _ hc
 have hg:Ent.sat w (.gm b (KQ kv (fun j=>(kY H j).map mSl) none)):=h1 _ List.mem_cons_self
 have hs1:∀ G (w':World),w'=w→Ctx G L w'→Ent.sat w' (.gm b (KQ kv (fun j=>(kY H j).map mSl) none)):=fun _ _ e _=>by rw [e]; exact hg
 unfold Oper.quietAt
 obtain ⟨es,clock,hb,hi⟩:=hg
 obtain ⟨r,hr,hcase⟩:=KT.fnd k es.toList w hi.keys
 have hget:(getObj b).run P w=.ok (.map es clock) w:=by simp [getObj,Sem.run,hb]
 have hrn:r=none:=by
  rcases hcase with ⟨rfl,-⟩ | ⟨j,e,he,hk2,rfl⟩
  ·rfl
  ·have:=(hi.some' k e.val).2 ⟨e,List.mem_of_getElem? he,hk2,rfl⟩
   rw [hk] at this
   cases this
 subst hrn
 have:(execOp a.eval ⟨dd,.lookup T x y true,ty,pos,aft,gd⟩).run P w=.ok (.value (.tuple #[.slice none 0 0,.bool false])) w:=by
  simp [execOp,hf.ev hx,hf.ev hy,Instr.lookup,run_underlying hT,hget,KT.chk,hr,aHl hz w]
 rw [this]
 exact ⟨rfl,rfl⟩
theorem aQ5 {b E K eT:TypeId} {Fn:κ→Option (List Int)} {hs:Hds} {k:κ} {p:Option Addr} {c:Nat} {xs:List Int} {dd:Option Nat} (hm:lW L (aAw b kv Fn eT hs k p c xs)) (hT:P.underlying T=some (.map K E)) (KT:aLc P K kv)
  (hx:ev F x=some (.map (some b))) (hy:ev F y=some (kv k)):Ev P ⟨dd,.lookup T x y true,ty,pos,aft,gd⟩ N F G L (.tuple #[.slice p xs.length c,.bool true]):=fun a w hf hc=>by
 obtain ⟨⟨H,-,-,h1,-⟩,-,-⟩:=hm _ _ hc
 have hg:Ent.sat w (.gm b (KQ kv (fun j=>(kY ((k,(p,c),xs)::H) j).map mSl) none)):=h1 _ List.mem_cons_self
 unfold Oper.quietAt
 obtain ⟨es,clock,hb,hi⟩:=hg
 obtain ⟨r,hr,hcase⟩:=KT.fnd k es.toList w hi.keys
 have hget:(getObj b).run P w=.ok (.map es clock) w:=by simp [getObj,Sem.run,hb]
 have hl:(kY ((k,(p,c),xs)::H) k).map mSl=some (.slice p xs.length c):=by
  rw [kY,if_pos rfl]
  rfl
 have hrs:∃ j,r=some (j,.slice p xs.length c):=by
  rcases hcase with ⟨rfl,hn⟩ | ⟨j,e,he,hk2,rfl⟩
  ·obtain ⟨e,he,hk2,-⟩:=(hi.some' k _).1 hl
   exact absurd hk2 (hn e he)
  ·have h2:=(hi.some' k e.val).2 ⟨e,List.mem_of_getElem? he,hk2,rfl⟩
   rw [hl] at h2
   exact ⟨j,by rw [← Option.some.inj h2]⟩
 obtain ⟨j,rfl⟩:=hrs
 have:(execOp a.eval ⟨dd,.lookup T x y true,ty,pos,aft,gd⟩).run P w=.ok (.value (.tuple #[.slice p xs.length c,.bool true])) w:=by
  simp [execOp,hf.ev hx,hf.ev hy,Instr.lookup,run_underlying hT,hget,KT.chk,hr]
 rw [this]
 exact ⟨rfl,rfl⟩
theorem memUp {b E K eT:TypeId} {Fn:κ→Option (List Int)} {hs:Hds} {k:κ} {z:Operand} {p:Option Addr} {c:Nat} {xs:List Int} {L2:Hds→List Ent} (hf:Has N a F) (hc:Ctx G L w) (hg:pT ops F ⟨none,.mapUpdate T x y z,ty,pos,aft,gd⟩=some true) (hT:P.underlying T=some (.map K E)) (KT:aLc P K kv)
  (hx:ev F x=some (.map (some b))) (hy:ev F y=some (kv k)) (hz:ev F z=some (.slice p xs.length c)) (hF:Fn k=some xs)
  (hu:∀ hs',Upd L (bI b kv Fn eT hs) (aAw b kv Fn eT hs' k p c xs) (L2 hs'))
  (kk':∀ hs' w,Ctx G (L2 hs') w→wpList P ops Q rest a w):wpList P ops Q (⟨none,.mapUpdate T x y z,ty,pos,aft,gd⟩::rest) a w:=by
 obtain ⟨M,p1,p2⟩:=(hu hs).pick
 obtain ⟨H,h0⟩:=aH5 (hc.perm p1)
 have h1:=nI.1 h0
 refine stGU (enc:=mSl) (m:=kY H) (k:=k) (v:=((p,c),xs)) hf h1 hg hT KT hx hy hz .here fun w hc2=>?_
 have h2:Ctx G (.gm b (KQ kv (fun j=>(kY ((k,(p,c),xs)::H) j).map mSl) none)::wX (okH Fn H)::(H.map (aAk eT)++M)) w:=hc2
 obtain ⟨hok,h3⟩:=yI.1 (h2.perm (.swap _ _ _))
 have hok':okH Fn ((k,(p,c),xs)::H):=fun r hr=>by
  rcases List.mem_cons.1 hr with rfl | hr
  ·exact hF
  ·exact hok r hr
 have h4:Ctx G (aIe b kv Fn eT H k (p,c) xs::M) w:=nI.2 ((yI.2 ⟨hok',h3⟩).perm (.swap _ _ _))
 obtain ⟨hs',h5⟩:=aJ5 h4
 obtain ⟨M',q1,q2⟩:=(hu hs').pick
 have e:M.Perm M':=((p1.symm.trans q1).cons_inv)
 exact kk' hs' w (h5.perm ((e.cons _).trans q2.symm))
end steps
def okF (o:Option (List Int)) (xs:List Int):Option Unit:=if o=some xs then some () else none
theorem aEt {o:Option (List Int)} {xs:List Int} {u:Unit} (h:okF o xs=some u):o=some xs:=by
 unfold okF at h
 split at h
 ·assumption
 ·cases h
section tails
variable {P:Program} {ops:Array Oper} {Q:Exit→Act→World→Prop} {rest:List Oper} {a:Act} {w:World} {N:Fm} {F:List (Nat × Value)} {G:aT} {L L':List Ent}
 {ty:TypeId} {pos:String} {aft:Array Edge} {gd:Option (Nat × Bool)} {x:Operand} {T:TypeId}
theorem aN9 {z:Value} {sz:Nat} (hs:z.cells.size=sz) (h0:Nat.blt 0 sz=true) (h:∀ m,m < sz→(z.cells[m]!).oneCell'=true):∀ n,∀ u ∈ (Builtin.zeroCells z.cells n).toList,u.oneCell'=true:=by
 intro n u hu
 simp only [Builtin.zeroCells,Array.toList_map,List.mem_map] at hu
 obtain ⟨k,-,rfl⟩:=hu
 have h1:0 < sz:=by simpa using h0
 rw [hs]
 exact h _ (Nat.mod_lt _ h1)
theorem aP6 {α:Type} {enc:α→List Value} {xs s1 s2:List α} {e sz cap m c:Nat} {p q:Option Addr} {i hi:Int} {un:Unit} {z:Value} (hf:Has N a F) (hc:Ctx G L w) (hg:pT ops F ⟨none,.call { callee:=.builtin .clear,args:=#[x],argTypes:=#[T] },ty,pos,aft,gd⟩=some true)
  (hT:P.underlying T=some (.slice e)) (hz:(P.info? e).map (·.zero)=some (some z)) (hzs:z.cells.size=sz) (h0:Nat.blt 0 sz=true) (hone:∀ m,m < sz→(z.cells[m]!).oneCell'=true)
  (hx:ev F x=some (.slice q m c)) (hq:q=zZ p cap i.toNat sz) (hm:m=s1.length) (h1:rH xs i hi=some s1) (hhi:hi=(xs.length:Int)) (hn:aGy s1.length=some un) (h2:rH xs 0 i=some s2) (henc:∀ x,(enc x).length=sz)
  (hu:Upd L (.row p cap (xs.map enc) e sz) (.row p cap (s2.map enc) e sz) L')
  (k:∀ w,Ctx G L' w→wpList P ops Q rest a w):wpList P ops Q (⟨none,.call { callee:=.builtin .clear,args:=#[x],argTypes:=#[T] },ty,pos,aft,gd⟩::rest) a w:=by
 subst hm
 have hpos:=aF7 hn
 obtain ⟨a0,a1,a2,a3,a4⟩:=tV h1
 obtain ⟨-,-,-,b3,b4⟩:=tV h2
 subst hhi
 obtain ⟨M,p1,p2⟩:=hu.pick
 have hcr:=hc.perm p1
 rcases zU hcr with ⟨-,h,-⟩ | ⟨g,cur,rfl,hh,hcs,hle,hmx,htk⟩
 ·have hx0:xs=[]:=by simpa using h
  subst hx0
  simp at a3
  rw [a3] at hpos
  exact absurd hpos (by simp)
 ·have hR:xs.length≤cap:=by simpa using hle
  have hb1:(i.toNat + s1.length) * sz≤cap * sz:=Nat.mul_le_mul_right _ (by omega)
  rw [Nat.add_mul] at hb1
  rw [aGd (n:=s1.length) hpos (by omega)] at hq
  subst hq
  have hzl:(Builtin.zeroCells z.cells s1.length).toList.length=s1.length * sz:=by rw [Array.length_toList,size_zeroCells,hzs]
  have hrun:=aFa (P:=P) w T e ty z hT (aLm hz) (aN9 hzs h0 hone) g (i.toNat * sz) s1.length c hpos (fun j hj=>by
   rw [hzs] at hj
   simp only [World.cell?,hh]
   rw [Array.getElem?_eq_getElem (by omega)]
   rfl) (fun j _=>by simp [World.frozen?,hh])
  obtain ⟨c1,c2,c3,c4,c5,c6⟩:=vQ g (Builtin.zeroCells z.cells s1.length).toList (i.toNat * sz) w cur e (0,0) hh
  refine wpList_step fun K hK=>?_
  rw [fT hf hg,if_pos rfl]
  have hr':(execOp a.eval ⟨none,.call { callee:=.builtin .clear,args:=#[x],argTypes:=#[T] },ty,pos,aft,gd⟩).run P w=.ok (.value (.tuple #[])) (w.setCells g (i.toNat * sz) (Builtin.zeroCells z.cells s1.length).toList):=by
   simp [execOp,resolve,hf.ev hx,invoke,builtin,hrun]
  unfold Oper.wp
  rw [hr']
  rw [Oper.upon_value]
  refine hK _ _ (k _ ?_)
  have hu1:∀ r ∈ xs.map enc,r.length=sz:=fun r hr=>by
   obtain ⟨x,-,rfl⟩:=List.mem_map.1 hr
   exact henc x
  have hu2:∀ r ∈ s2.map enc,r.length=sz:=fun r hr=>by
   obtain ⟨x,-,rfl⟩:=List.mem_map.1 hr
   exact henc x
  have hs2:s2=xs.take i.toNat:=by
   rw [b3]
   simp
  have hl2:s2.length=i.toNat:=by simpa using b4
  refine (aF5 hcr c4 c5 c6 c3 c2 c1 (by rw [aCw]; exact hcs) (by rw [List.length_map]; omega) hmx hu2 ?_).perm p2.symm
  have hlm:i.toNat * sz≤xs.length * sz:=Nat.mul_le_mul_right _ (by omega)
  have hRc:xs.length * sz≤cap * sz:=Nat.mul_le_mul_right _ hR
  rw [List.length_map,hl2,hs2,List.map_take,wH _ _ hu1,← htk,List.take_take]
  simp only [List.length_map]
  rw [Nat.min_eq_left hlm]
  apply List.ext_getElem?
  intro j
  rw [List.getElem?_take,List.getElem?_take]
  split
  ·simp only [Array.getElem?_toList]
   rw [xT _ _ _ _ (.inl (by assumption))]
  ·rfl
theorem aNf {p:Option Addr} {n sz:Nat}:zZ p n (0:Int).toNat sz=p:=by
 unfold zZ
 split
 ·rfl
 ·cases p with
  | none=>rfl
  | some a=>simp [Addr.add]
end tails
def rV (down:List Int):Nat→Int→List Int
 | 0,_=>[]
 | f + 1,s=>if 0≤s∧s < (down.length:Int) then s::rV down f (down.getD s.toNat (-1)) else []
def aHf (down lo:List Int) (to:Int):Nat→Int→Int→Option Int
 | 0,_,_=>none
 | f + 1,s,x=>if 0≤s∧s < (down.length:Int) then (if s=to then some x else aHf down lo to f (down.getD s.toNat (-1)) (x + lo.getD s.toNat 0)) else none
def uA (down lo:List Int) (t:Int × Int) (dhi s:Int):Bool:=match aHf down lo t.1 down.length s 0 with
 | some x=>decide (t.2 + dhi≤x)
 | none=>false
def stM (down lo:List Int) (towns:List (Int × Int)) (dhi:Int) (k:Int × Int):List Int:=(rV down down.length k.1).filter (uA down lo (towns.getD k.2.toNat (0,0)) dhi)
end Go.Nilo
