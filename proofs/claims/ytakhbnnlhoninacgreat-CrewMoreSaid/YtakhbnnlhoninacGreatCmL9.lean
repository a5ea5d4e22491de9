/-
  What the plain functions compute, in plain arithmetic, part 9. Conditions: what each theorem names.
-/
import Derived.Test.YtakhbnnlhoninacGreatCmL8
set_option linter.unusedSimpArgs false
set_option linter.unusedVariables false
namespace Go.Nilo
theorem gD {α:Type} {l:List α} {i:Nat} {d:α} (h:i < l.length):l.getD i d=l[i]:=by simp [List.getD,h]
theorem gD0 {α:Type} {l:List α} {i:Nat} {d:α} (h:l.length≤i):l.getD i d=d:=by simp [List.getD,List.getElem?_eq_none h]
def uD (r:aB) (k:Nat):aB:=⟨r.People,r.Stations.set k ⟨(r.Stations.getD k ⟨0,[]⟩).Places + 1,(r.Stations.getD k ⟨0,[]⟩).Order⟩⟩
theorem aAu {r:aB} {k:Nat} (hk:k < r.Stations.length) (s:Int):(sta (uD r k) s).Order=(sta r s).Order∧(sta r s).Places≤(sta (uD r k) s).Places:=by
 unfold sta uD
 dsimp only
 rw [tU hk]
 by_cases h:s.toNat=k
 ·rw [if_pos h,h]; exact ⟨rfl,by dsimp only; omega⟩
 ·rw [if_neg h]; exact ⟨rfl,Int.le_refl _⟩
theorem aE3 {r:aB} (hr:fW r) {k:Nat} (hk:k < r.Stations.length) (hp:(r.Stations.getD k ⟨0,[]⟩).Places≤11):fW (uD r k):=by
 have hkm:r.Stations.getD k ⟨0,[]⟩ ∈ r.Stations:=by rw [gD hk]; exact List.getElem_mem hk
 have hst:∀ x ∈ (uD r k).Stations,x ∈ r.Stations ∨ x=⟨(r.Stations.getD k ⟨0,[]⟩).Places + 1,(r.Stations.getD k ⟨0,[]⟩).Order⟩:=fun x hx=>List.mem_or_eq_of_mem_set hx
 refine ⟨hr.p1,hr.p2,by show 1≤(r.Stations.set _ _).length; rw [List.length_set]; exact hr.s1,by show (r.Stations.set _ _).length≤12; rw [List.length_set]; exact hr.s2,hr.pn,fun l hl s hs=>?_,fun x hx=>?_,fun x hx=>?_,fun x hx=>?_⟩
 ·have:=hr.pr l hl s hs
  show 0≤s∧s < ((r.Stations.set _ _).length:Int)
  rw [List.length_set]; exact this
 ·rcases hst x hx with h | rfl
  ·exact hr.sp x h
  ·have:=hr.sp _ hkm; dsimp only; omega
 ·rcases hst x hx with h | rfl
  ·exact hr.sn x h
  ·exact hr.sn (r.Stations.getD k ⟨0,[]⟩) hkm
 ·rcases hst x hx with h | rfl
  ·exact hr.sr x h
  ·exact hr.sr (r.Stations.getD k ⟨0,[]⟩) hkm
theorem aD2 {r:aB} {k:Nat} (hk:k < r.Stations.length):aBq (uD r k) r:=by
 have hl:(uD r k).Stations.length=r.Stations.length:=by show (r.Stations.set _ _).length=_; rw [List.length_set]
 have hpo:∀ p s,jR (uD r k) p s ↔ jR r p s:=fun p s=>by
  unfold jR
  rw [(aAu hk s).1]
  exact Iff.rfl
 have hrk:∀ s p,rk (uD r k) s p=rk r s p:=fun s p=>by unfold rk; rw [(aAu hk s).1]
 refine ⟨fun p s h _=>h,fun p s h _=>⟨h.1,by have:=h.2; rw [← hl]; exact this⟩,fun p _ _=>rfl,fun p s _ _=>(aAu hk s).2,fun s p q _ _ _ h=>?_,fun s p _ _ h=>(hpo _ _).1 h,fun s p _ _ h=>(hpo _ _).2 h⟩
 rw [hrk,hrk] at h; exact h
theorem aBw {L:List Int} (hn:L.Nodup) {v:Int} (hv:v ∉ L) (a:Nat):(L.take a++v::L.drop a).Nodup:=by
 have:(L.take a++v::L.drop a).Perm (v::L):=by
  have:=List.perm_middle (a:=v) (l₁:=L.take a) (l₂:=L.drop a)
  rwa [List.take_append_drop] at this
 exact this.nodup_iff.2 (List.nodup_cons.2 ⟨hv,hn⟩)
theorem aCk {L:List Int} {v x:Int} {a:Nat}:x ∈ L.take a++v::L.drop a ↔ x=v ∨ x ∈ L:=by
 have:(L.take a++v::L.drop a).Perm (v::L):=by
  have:=List.perm_middle (a:=v) (l₁:=L.take a) (l₂:=L.drop a)
  rwa [List.take_append_drop] at this
 rw [this.mem_iff,List.mem_cons]
theorem aFe {L:List Int} (hn:L.Nodup) {v:Int} (hv:v ∉ L) {a:Nat} (ha:a≤L.length) {i:Nat} (hi:i < L.length):mO (L.take a++v::L.drop a) L[i]=((if i < a then i else i + 1:Nat):Int):=by
 have hlen:(L.take a++v::L.drop a).length=L.length + 1:=by simp; omega
 have hi':(if i < a then i else i + 1) < (L.take a++v::L.drop a).length:=by rw [hlen]; split <;> omega
 have hg:(L.take a++v::L.drop a)[if i < a then i else i + 1]=L[i]:=by
  have h1:(L.take a++v::L.drop a)[if i < a then i else i + 1]?=some L[i]:=by
   have hta:(L.take a).length=a:=by rw [List.length_take]; omega
   by_cases h:i < a
   ·simp only [if_pos h]
    rw [List.getElem?_append_left (by omega),List.getElem?_take,if_pos h,List.getElem?_eq_getElem hi]
   ·simp only [if_neg h]
    rw [List.getElem?_append_right (by omega),hta,show i + 1 - a=(i - a) + 1 by omega,List.getElem?_cons_succ,List.getElem?_drop,show a + (i - a)=i by omega,List.getElem?_eq_getElem hi]
  rw [List.getElem?_eq_getElem hi'] at h1
  exact Option.some.inj h1
 have:=wM (aBw hn hv a) hi'
 rw [hg] at this
 exact this
theorem aEf {L:List Int} (hn:L.Nodup) {v:Int} (hv:v ∉ L) {a:Nat} (ha:a≤L.length) {p q:Int} (hp:p ∈ L) (hq:q ∈ L) (h:mO L q < mO L p):mO (L.take a++v::L.drop a) q < mO (L.take a++v::L.drop a) p:=by
 obtain ⟨i,hi,rfl⟩:=List.getElem_of_mem hp
 obtain ⟨j,hj,rfl⟩:=List.getElem_of_mem hq
 rw [wM hn hi,wM hn hj] at h
 rw [aFe hn hv ha hi,aFe hn hv ha hj]
 split <;> split <;> omega
structure yF (r r':aB) (L:List Int):Prop where
 p:r'.People=r.People++[L]
 n:r'.Stations.length=r.Stations.length
 s:∀ i,i < r.Stations.length→∃ a,a≤(r.Stations.getD i ⟨0,[]⟩).Order.length∧r'.Stations.getD i ⟨0,[]⟩=⟨(r.Stations.getD i ⟨0,[]⟩).Places,(r.Stations.getD i ⟨0,[]⟩).Order.take a++(r.People.length:Int)::(r.Stations.getD i ⟨0,[]⟩).Order.drop a⟩
theorem yF.pf {r r':aB} {L:List Int} (h:yF r r' L) {p:Int} (hp:inP r p):pf r' p=pf r p:=by
 unfold Go.Nilo.pf
 rw [h.p]
 have:=hp.1
 have:=hp.2
 simp only [List.getD]
 rw [List.getElem?_append_left (by omega)]
theorem yF.st {r r':aB} {L:List Int} (h:yF r r' L) {s:Int} (hs:inS r s):∃ a,a≤(sta r s).Order.length∧sta r' s=⟨(sta r s).Places,(sta r s).Order.take a++(r.People.length:Int)::(sta r s).Order.drop a⟩:=h.s s.toNat (by have:=hs.1; have:=hs.2; omega)
theorem yF.new {r:aB} (hr:fW r) {s:Int} (hs:inS r s):(r.People.length:Int) ∉ (sta r s).Order:=fun hm=>by
 have h9:(r.People.length:Int) < (r.People.length:Int):=(hr.sr _ (vH hs) _ hm).2
 omega
theorem yF.ok {r r':aB} {L:List Int} (h:yF r r' L) (hr:fW r) (hp:r.People.length≤11) (hL:L.Nodup) (hLr:∀ s ∈ L,0≤s∧s < ns r):fW r':=by
 have hS:∀ x ∈ r'.Stations,∃ s,inS r s∧x=sta r' s:=fun x hx=>by
  obtain ⟨i,hi,rfl⟩:=List.getElem_of_mem hx
  refine ⟨(i:Int),⟨by omega,by have:=h.n; omega⟩,?_⟩
  unfold sta
  rw [Int.toNat_natCast,gD hi]
 have hPl:r'.People.length=r.People.length + 1:=by rw [h.p]; simp
 refine ⟨by omega,by omega,by rw [h.n]; exact hr.s1,by rw [h.n]; exact hr.s2,fun l hl=>?_,fun l hl s hs=>?_,fun x hx=>?_,fun x hx=>?_,fun x hx p hpx=>?_⟩
 ·rw [h.p] at hl
  rcases List.mem_append.1 hl with hl | hl
  ·exact hr.pn l hl
  ·rw [List.mem_singleton.1 hl]; exact hL
 ·show 0≤s∧s < (r'.Stations.length:Int)
  rw [h.n]
  rw [h.p] at hl
  rcases List.mem_append.1 hl with hl | hl
  ·exact hr.pr l hl s hs
  ·rw [List.mem_singleton.1 hl] at hs; exact hLr s hs
 ·obtain ⟨s,hs,rfl⟩:=hS x hx
  obtain ⟨a,-,e⟩:=h.st hs
  rw [e]; exact hr.sp (sta r s) (vH hs)
 ·obtain ⟨s,hs,rfl⟩:=hS x hx
  obtain ⟨a,-,e⟩:=h.st hs
  rw [e]; exact aBw (hr.sn _ (vH hs)) (yF.new hr hs) a
 ·obtain ⟨s,hs,rfl⟩:=hS x hx
  obtain ⟨a,-,e⟩:=h.st hs
  rw [e] at hpx
  show 0≤p∧p < (r'.People.length:Int)
  rcases aCk.1 hpx with rfl | hpx
  ·omega
  ·have h8:=hr.sr _ (vH hs) p hpx
   have h9:p < (r.People.length:Int):=h8.2
   omega
theorem yF.wider {r r':aB} {L:List Int} (h:yF r r' L) (hr:fW r):aBq r r':=by
 have hPl:r'.People.length=r.People.length + 1:=by rw [h.p]; simp
 have hin:∀ {p},inP r p→inP r' p:=fun {p} hp=>⟨hp.1,by have:=hp.2; show p < (r'.People.length:Int); omega⟩
 refine ⟨fun p s hp _=>hin hp,fun p s hs _=>⟨hs.1,by have:=hs.2; show s < (r'.Stations.length:Int); rw [h.n]; exact this⟩,fun p hp _=>h.pf hp,fun p s hs _=>?_,fun s p q hs hp hq hlt=>?_,fun s p hs hp hpo=>?_,fun s p hp _ hpo=>?_⟩
 ·obtain ⟨a,-,e⟩:=h.st hs
  rw [e]; exact Int.le_refl _
 ·obtain ⟨a,ha,e⟩:=h.st hs
  unfold rk
  rw [e]
  exact aEf (hr.sn _ (vH hs)) (yF.new hr hs) ha hp.1 hq.1 hlt
 ·obtain ⟨a,ha,e⟩:=h.st hs
  refine ⟨?_,by rw [h.pf hp]; exact hpo.2⟩
  rw [e]; exact aCk.2 (.inr hpo.1)
 ·have hpf:s ∈ Go.Nilo.pf r p:=by have:=hpo.2; rw [h.pf hp] at this; exact this
  have hs:=yE hr hp hpf
  obtain ⟨a,ha,e⟩:=h.st hs
  refine ⟨?_,hpf⟩
  have:=hpo.1
  rw [e] at this
  rcases aCk.1 this with rfl | h3
  ·have:=hp.2; omega
  ·exact h3
def gF (r:aB):aB:=⟨r.People++[[]],r.Stations++[⟨5,[]⟩]⟩
theorem xA {r:aB} {p:Int} (hp:inP r p):pf (gF r) p=pf r p:=by
 unfold pf gF
 have:=hp.1
 have:=hp.2
 simp only [List.getD]
 rw [List.getElem?_append_left (by omega)]
theorem aEx {r:aB}:pf (gF r) (r.People.length:Int)=[]:=by
 unfold pf gF
 simp [List.getD]
theorem rZ {r:aB} {s:Int} (hs:inS r s):sta (gF r) s=sta r s:=by
 unfold sta gF
 have:=hs.1
 have:=hs.2
 simp only [List.getD]
 rw [List.getElem?_append_left (by omega)]
theorem aJd {r:aB} (hr:fW r) (h1:r.People.length≤11) (h2:r.Stations.length≤11):fW (gF r):=by
 have hp:(gF r).People.length=r.People.length + 1:=by simp [gF]
 have hs:(gF r).Stations.length=r.Stations.length + 1:=by simp [gF]
 refine ⟨by omega,by omega,by omega,by omega,fun l hl=>?_,fun l hl s h=>?_,fun x hx=>?_,fun x hx=>?_,fun x hx p h=>?_⟩
 ·rcases List.mem_append.1 hl with hl | hl
  ·exact hr.pn l hl
  ·rw [List.mem_singleton.1 hl]; exact List.nodup_nil
 ·show 0≤s∧s < ((gF r).Stations.length:Int)
  rcases List.mem_append.1 hl with hl | hl
  ·have h8:=hr.pr l hl s h
   have h9:s < (r.Stations.length:Int):=h8.2
   omega
  ·rw [List.mem_singleton.1 hl] at h; cases h
 ·rcases List.mem_append.1 hx with hx | hx
  ·exact hr.sp x hx
  ·rw [List.mem_singleton.1 hx]; decide
 ·rcases List.mem_append.1 hx with hx | hx
  ·exact hr.sn x hx
  ·rw [List.mem_singleton.1 hx]; exact List.nodup_nil
 ·show 0≤p∧p < ((gF r).People.length:Int)
  rcases List.mem_append.1 hx with hx | hx
  ·have h8:=hr.sr x hx p h
   have h9:p < (r.People.length:Int):=h8.2
   omega
  ·rw [List.mem_singleton.1 hx] at h; cases h
theorem aDa {r:aB} (hr:fW r) {p s:Int} (hp:inP (gF r) p) (h:jR (gF r) p s):inP r p∧inS r s∧jR r p s:=by
 have hp0:(gF r).People.length=r.People.length + 1:=by simp [gF]
 have h1:=hp.1
 have h2:=hp.2
 have hin:inP r p:=by
  refine ⟨h1,Decidable.byContradiction fun hc=>?_⟩
  have:p=(r.People.length:Int):=by
   have h3:p < ((gF r).People.length:Int):=h2
   rw [hp0] at h3
   omega
  have h4:=h.2
  rw [this,aEx] at h4
  cases h4
 have hpf:s ∈ pf r p:=by have:=h.2; rw [xA hin] at this; exact this
 have hs:=yE hr hin hpf
 refine ⟨hin,hs,?_,hpf⟩
 have:=h.1
 rw [rZ hs] at this
 exact this
theorem aE1 {r:aB} {p s:Int} (hs:inS r s) (hp:inP r p) (h:jR r p s):jR (gF r) p s:=⟨by rw [rZ hs]; exact h.1,by rw [xA hp]; exact h.2⟩
theorem zY {r:aB} {p:Int} (hp:inP r p):inP (gF r) p:=⟨hp.1,by have:=hp.2; show p < ((r.People++[[]]).length:Int); rw [List.length_append]; push_cast; omega⟩
theorem aIw {r:aB} {s:Int} (hp:inS r s):inS (gF r) s:=⟨hp.1,by have:=hp.2; show s < ((r.Stations++[(⟨5,[]⟩:aC)]).length:Int); rw [List.length_append]; push_cast; omega⟩
theorem aAp {r:aB} (hr:fW r):aBq r (gF r):=by
 refine ⟨fun p s hp _=>zY hp,fun p s hs _=>aIw hs,fun p hp _=>xA hp,fun p s hs _=>by rw [rZ hs]; exact Int.le_refl _,fun s p q hs _ _ h=>by unfold rk at h ⊢; rw [rZ hs]; exact h,fun s p hs hp h=>aE1 hs hp h,fun s p hp hp' h=>(aDa hr hp' h).2.2⟩
theorem aDd {r:aB} (hr:fW r):aBq (gF r) r:=by
 have hin:∀ p s,inP (gF r) p→jR (gF r) p s→inP r p∧inS r s∧jR r p s:=fun p s hp h=>aDa hr hp h
 have hS:∀ {p s:Int},jR (gF r) p s→inP (gF r) p:=fun {p s} h=>by
  refine Decidable.byContradiction fun hc=>?_
  have h2:=h.2
  have hm:=h.1
  unfold pf at h2
  unfold sta at hm
  by_cases h0:0≤p
  ·have:¬ p < ((gF r).People.length:Int):=fun h3=>hc ⟨h0,h3⟩
   rw [gD0 (by omega)] at h2
   cases h2
  ·-- a number less than 0 stands in no order
   by_cases hl:s.toNat < (gF r).Stations.length
   ·rw [gD hl] at hm
    rcases List.mem_append.1 (List.getElem_mem hl) with hx | hx
    ·have:=hr.sr _ hx p hm; omega
    ·rw [List.mem_singleton.1 hx] at hm; cases hm
   ·rw [gD0 (by omega)] at hm; cases hm
 refine ⟨fun p s hp h=>(hin p s hp h).1,fun p s _ h=>(hin p s (hS h) h).2.1,fun p _ hp=>(xA hp).symm,fun p s _ h=>by rw [rZ (hin p s (hS h) h).2.1]; exact Int.le_refl _,fun s p q _ hp _ h=>?_,fun s p _ hp h=>(hin p s hp h).2.2,fun s p hp hp' h=>?_⟩
 ·have hs:=(hin p s (hS hp) hp).2.1
  unfold rk at h ⊢
  rw [rZ hs] at h; exact h
 ·exact aE1 (yE hr hp' h.2) hp' h
end Go.Nilo
