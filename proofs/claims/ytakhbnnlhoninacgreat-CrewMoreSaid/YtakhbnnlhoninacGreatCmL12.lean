/-
  What the plain functions compute, in plain arithmetic, part 12. Conditions: what each theorem names.
-/
import Derived.Test.YtakhbnnlhoninacGreatCmL11
set_option linter.unusedSimpArgs false
set_option linter.unusedVariables false
namespace Go.Nilo
def tV (r:aB) (p s:Int):Int:=if s ∈ pf r p then mO (pf r p) s else (r.Stations.length:Int)
theorem zF {N:Nat} (hN:40≤N) {r:aB} (hr:fW r) {p:Int} (hp:inP r p) (s:Int):lK N r p s=some (tV r p s):=by
 have hl:=hr.pf_len (rN hp)
 have hget:bH r.People p=some (pf r p):=sR [] hp.1 hp.2
 unfold lK tV
 rw [hget,Option.bind_some,aEl (by omega) (by omega),Option.bind_some]
 by_cases h:s ∈ pf r p
 ·obtain ⟨i,h1,-⟩:=sW h
  rw [if_pos h,decide_eq_true (by omega),cond_true]
 ·rw [if_neg h,aAa h,decide_eq_false (by omega),cond_false]
theorem aKt {r:aB} (hr:fW r) {p:Int} (hp:inP r p):(-1:Int) ∉ pf r p:=fun h=>by
 have:=(yE hr hp h).1
 omega
theorem aDv {r:aB} (hr:fW r) {p:Int} (hp:inP r p) (s:Int):tV r p s≤tV r p (-1):=by
 unfold tV
 rw [if_neg (aKt hr hp)]
 by_cases h:s ∈ pf r p
 ·rw [if_pos h]
  obtain ⟨i,h1,h2,-⟩:=sW h
  have:=uW (n:=r.Stations.length) (hr.pn _ (rN hp)) (hr.pr _ (rN hp))
  omega
 ·rw [if_neg h]
  exact Int.le_refl _
theorem aIk {N:Nat} {l:List (List Int)} (hl:l.length≤15) (hN:40≤N) (h:∀ x ∈ l,x.length≤15):iK N l=some l:=by
 have hrun:=aF8 (ρ:=List (List Int)) (fun i:Nat=>(l.take i,(i:Int))) l.length (fun s5=>cX N l s5.1 s5.2) (fun i hi=>by
  show cX N l (l.take i) (i:Int)=_
  unfold cX lP
  have h1:=h _ (List.getElem_mem hi)
  rw [kH hi,cond_true,eM hi,Option.bind_some,mH (by omega),Option.bind_some,Option.bind_some,List.take_append_getElem hi,mH (by rw [List.length_take]; omega),Option.bind_some,jZ (by omega)]) (by
  show cX N l _ (l.length:Int)=_
  unfold cX
  rw [iE,cond_false]) (N:=N) (by omega)
 unfold iK
 show Option.bind (bE (fun s5=>cX N l s5.1 s5.2) N (l.take 0,((0:Nat):Int))) _=_
 rw [hrun,Option.bind_some]
 simp only [exK]
 rw [List.take_length]
theorem aGo {N:Nat} (hN:40≤N) {r:aB} (h:fW r):fZ N r=some r:=by
 have hs:=h.s2
 have hp:=h.p2
 have hrun:=aF8 (ρ:=aB) (fun i:Nat=>((i:Int),r.Stations.take i)) r.Stations.length (fun s5=>dG N r s5.1 s5.2) (fun i hi=>by
  show dG N r (i:Int) (r.Stations.take i)=_
  unfold dG lP
  have h1:=h.or_len (List.getElem_mem hi)
  rw [kH hi,cond_true,eM hi,Option.bind_some,mH (by omega),Option.bind_some,Option.bind_some,show (⟨r.Stations[i].Places,r.Stations[i].Order⟩:aC)=r.Stations[i] from rfl,List.take_append_getElem hi,mH (by rw [List.length_take]; omega),Option.bind_some,jZ (by omega)]) (by
  show dG N r (r.Stations.length:Int) _=_
  unfold dG
  rw [iE,cond_false]) (N:=N) (by omega)
 unfold fZ
 rw [aIk (by omega) hN (fun x hx=>by have:=h.pf_len hx; omega),Option.bind_some]
 show Option.bind (bE (fun s5=>dG N r s5.1 s5.2) N (((0:Nat):Int),r.Stations.take 0)) _=_
 rw [hrun,Option.bind_some]
 simp only [exK]
 rw [List.take_length]
theorem aIj {N:Nat} {l:List Int} (hl:l.length≤1000) (hN:l.length < N):kG N l l=some true:=by
 unfold kG
 rw [bne_self_eq_false,cond_false,aHt l (by omega) (fun s7=>kN N l l s7) (fun i hi=>by
  unfold kN
  simp only [kH hi,cond_true,eM hi,Option.bind_some,bne_self_eq_false,cond_false]
  rw [jZ (by omega)]) (by
  unfold kN
  rw [iE]; rfl) hN]
 rfl
abbrev st0:aC:=⟨0,[]⟩
theorem aF9 {N:Nat} (hN:40≤N) {more:List Int} (hm:vP more) {r:aB} (hr:fW r) (u0 m0:Int) {u m:Int} {k:Nat} (hs:SOk u m k) (hk:k≤10000) :
  ∃ S x u' m',bE (fun s11=>dU N more (r,u0,m0) r s11.1 s11.2.1 s11.2.2.1 s11.2.2.2) N (r.Stations,0,u,m)=some (.go (S,x,u',m'))∧S.length=r.Stations.length∧∀ i,i < r.Stations.length→∃ a,a≤(r.Stations.getD i st0).Order.length∧S.getD i st0=⟨(r.Stations.getD i st0).Places,(r.Stations.getD i st0).Order.take a++(r.People.length:Int)::(r.Stations.getD i st0).Order.drop a⟩:=by
 have hs2:=hr.s2
 obtain ⟨s,q1,q2⟩:=oH (ρ:=Bool) (fun s11:List aC × Int × Int × Int=>dU N more (r,u0,m0) r s11.1 s11.2.1 s11.2.2.1 s11.2.2.2)
  (fun i s=>s.2.1=(i:Int)∧s.1.length=r.Stations.length∧SOk s.2.2.1 s.2.2.2 (k + i)∧(∀ j,j < i→∃ a,a≤(r.Stations.getD j st0).Order.length∧s.1.getD j st0=⟨(r.Stations.getD j st0).Places,(r.Stations.getD j st0).Order.take a++(r.People.length:Int)::(r.Stations.getD j st0).Order.drop a⟩)∧∀ j,i≤j→j < r.Stations.length→s.1.getD j st0=r.Stations.getD j st0) r.Stations.length (fun i s hi hI=>by
   obtain ⟨S,x,v,q⟩:=s
   obtain ⟨i1,i2,i3,i4,i5⟩:=hI
   simp only at i1 i2 i3 i4 i5
   subst i1
   have hg:=i5 i (Nat.le_refl _) hi
   have hmem:r.Stations.getD i st0 ∈ r.Stations:=by rw [gD hi]; exact List.getElem_mem hi
   have hol:=hr.or_len hmem
   obtain ⟨y,v2,q3,y1,y2,y3,y4⟩:=vE (N:=N) hm (n:=(((r.Stations.getD i st0).Order.length:Nat):Int) + 1) i3 (by omega)
   obtain ⟨a,rfl⟩:=Int.eq_ofNat_of_zero_le y2
   have ha:a≤(r.Stations.getD i st0).Order.length:=by omega
   have hins:fH N (r.Stations.getD i st0).Order (a:Int) [(r.People.length:Int)]=some ((r.Stations.getD i st0).Order.take a++(r.People.length:Int)::(r.Stations.getD i st0).Order.drop a):=by
    unfold fH insO
    rw [if_pos ⟨by omega,by omega,by rw [List.length_singleton]; omega,by rw [List.length_singleton]; omega⟩,Int.toNat_natCast]
    simp
   refine ⟨(S.set i ⟨(r.Stations.getD i st0).Places,(r.Stations.getD i st0).Order.take a++(r.People.length:Int)::(r.Stations.getD i st0).Order.drop a⟩,((i + 1:Nat):Int),v2,q3),?_,rfl,by dsimp only; rw [List.length_set]; exact i2,y4,fun j hj=>?_,fun j hj hj'=>?_⟩
   ·show dU N more (r,u0,m0) r S (i:Int) v q=_
    unfold dU
    have hge:bH S (i:Int)=some (r.Stations.getD i st0):=by rw [eM (by omega),← gD (d:=st0) (by omega),hg]
    rw [kH hi,cond_true,hge,Option.bind_some,pR (n:=(((r.Stations.getD i st0).Order.length:Nat):Int) + 1) (by omega) (by omega),y1,Option.bind_some]
    dsimp only
    rw [hins,Option.bind_some,Option.bind_some,Int.toNat_natCast,jZ (by omega)]
   ·dsimp only
    rw [tU (by omega)]
    by_cases e:j=i
    ·rw [if_pos e,e]
     exact ⟨a,ha,rfl⟩
    ·rw [if_neg e]
     exact i4 j (by omega)
   ·dsimp only
    rw [tU (by omega),if_neg (by omega)]
    exact i5 j (by omega) hj') (fun s hI=>by
   obtain ⟨S,x,v,q⟩:=s
   obtain ⟨i1,i2,i3,i4,i5⟩:=hI
   simp only at i1
   subst i1
   show dU N more (r,u0,m0) r S ((r.Stations.length:Nat):Int) v q=_
   unfold dU
   rw [iE,cond_false]) r.Stations.length 0 (r.Stations,0,u,m) N (by omega) (by omega) ⟨rfl,rfl,hs,fun j hj=>by omega,fun j _ _=>rfl⟩
 obtain ⟨S,x,v,q⟩:=s
 exact ⟨S,x,v,q,q1,q2.2.1,fun i hi=>q2.2.2.2.1 i hi⟩
theorem aIb {r:aB} {l:List aE} {asg:List Int} {ks:List (List Int)} (h:SI r (fun _=>True) l asg ks) {p:Int} (hp:inP r p) (hne:Asg asg p ≠ -1):Asg asg p ∈ pf r p:=(h.good p hp hne).1.2
theorem zR {r:aB} {p s:Int} (h:s ∈ pf r p):tV r p s=mO (pf r p) s:=by unfold tV; rw [if_pos h]
theorem aF6 {r:aB} (hr:fW r) {k:Nat} (hk:k < r.Stations.length) (hpl:(r.Stations.getD k st0).Places≤11) {l l':List aE} {a b:List Int} {ks ks':List (List Int)} (h:SI r (fun _=>True) l a ks) (h':SI (uD r k) (fun _=>True) l' b ks') {p:Int} (hp:inP r p):tV r p (Asg b p)≤tV r p (Asg a p):=by
 by_cases hne:Asg a p = -1
 ·rw [hne]
  exact aDv hr hp _
 ·have hw:=aE3 hr hk hpl
  obtain ⟨q1,q2,-⟩:=aDy hw (aD2 hk) h' (lF hr ⟨ks,h⟩) (p:=p) hp hp hne
  have m1:Asg b p ∈ pf r p:=aIb h' (p:=p) hp q1
  rw [zR m1,zR (aIb h hp hne)]
  exact q2
theorem aF1 {r r':aB} {L:List Int} (hr:fW r) (hm:yF r r' L) (hr':fW r') {l l':List aE} {a c:List Int} {ks ks':List (List Int)} (h:SI r (fun _=>True) l a ks) (h':SI r' (fun _=>True) l' c ks') {p:Int} (hp:inP r p):tV r p (Asg a p)≤tV r p (Asg c p):=by
 by_cases hne:Asg c p = -1
 ·rw [hne]
  exact aDv hr hp _
 ·have hp':inP r' p:=⟨hp.1,by have:=hp.2; show p < (r'.People.length:Int); rw [hm.p,List.length_append,List.length_singleton]; push_cast; omega⟩
  obtain ⟨q1,q2,q3⟩:=aDy hr (hm.wider hr) h (lF hr' ⟨ks',h'⟩) hp hp' hne
  rw [zR (aIb h hp q1),zR q3.2]
  exact q2
theorem aGh {r:aB} (hr:fW r) (hi:fW (gF r)) {l l':List aE} {a d:List Int} {ks ks':List (List Int)} (h:SI r (fun _=>True) l a ks) (h':SI (gF r) (fun _=>True) l' d ks') {p:Int} (hp:inP r p):Asg d p=Asg a p:=by
 by_cases hne:Asg a p = -1
 ·refine Decidable.byContradiction fun hc=>?_
  obtain ⟨q1,-,-⟩:=aDy hr (aAp hr) h (lF hi ⟨ks',h'⟩) hp (zY hp) (fun e=>hc (by rw [e,hne]))
  exact q1 hne
 ·obtain ⟨q1,q2,-⟩:=aDy hi (aDd hr) h' (lF hr ⟨ks,h⟩) (zY hp) hp hne
  obtain ⟨-,q3,-⟩:=aDy hr (aAp hr) h (lF hi ⟨ks',h'⟩) hp (zY hp) q1
  rw [xA hp] at q2
  exact (zM (aIb h hp hne) (Int.le_antisymm q3 q2)).symm
theorem aFy {r:aB} {l':List aE} {d:List Int} {ks':List (List Int)} (h':SI (gF r) (fun _=>True) l' d ks'):Asg d (r.People.length:Int) = -1:=by
 refine Decidable.byContradiction fun hc=>?_
 have hp:inP (gF r) (r.People.length:Int):=⟨by omega,by show (r.People.length:Int) < ((r.People++[[]]).length:Int); rw [List.length_append,List.length_singleton]; push_cast; omega⟩
 have:=aIb h' hp hc
 rw [aEx] at this
 cases this
theorem zK {b:List Int} {i:Nat} (h:i < b.length):bH b (i:Int)=some (Asg b (i:Int)):=sR (-1) (by omega) (by omega)
theorem aF7 {a d:List Int} {n:Nat} (ha:a.length=n) (hd:n≤d.length) (h:∀ i:Nat,i < n→Asg d (i:Int)=Asg a (i:Int)):d.take n=a:=by
 apply List.ext_getElem (by rw [List.length_take]; omega)
 intro i h1 h2
 have:=h i (by omega)
 unfold Asg at this
 rw [Int.toNat_natCast,gD (by omega),gD h2] at this
 rw [List.getElem_take]
 exact this
theorem aCp {numbers more:List Int} (hb:vP numbers) (hm:vP more) {which:Int} (hw:0≤which∧which≤255):nA 700 numbers more which=some true:=by
 unfold nA
 have h0:∀ l,wE 700 l=some (0,0):=fun _=>rfl
 have hrep:aH5 700:=fun k c1 c2=>aF4 c1 c2
 rw [h0,Option.bind_some]
 obtain ⟨r,u0,m0,k0,h1,hr,-,-,hnp,hns,hpl⟩:=aIz (N:=700) (by omega) hb (most:=8) (by omega) (by omega) (u:=0) (m:=0) (k:=0) (by omega) ⟨by omega,by omega,by omega,by omega⟩
 have hnp':(r.People.length:Int)≤8:=hnp
 have hns':(r.Stations.length:Int)≤8:=hns
 have hs1:=hr.s1
 have hp1:=hr.p1
 rw [h1,Option.bind_some,h0,Option.bind_some]
 dsimp only
 obtain ⟨a,l,a1,ks,hS⟩:=tE (N:=700) (by omega) hrep hr
 have hal:=hS.al
 have hz:nz ((r.Stations.length:Nat):Int)=some ():=by unfold nz; rw [if_neg (by omega)]
 rw [a1,Option.bind_some,hz,Option.bind_some,aGo (by omega) hr,Option.bind_some,Option.bind_some,Option.bind_some]
 have ew:(W which).tmod ((r.Stations.length:Nat):Int)=which % ((r.Stations.length:Nat):Int):=by rw [pR (by omega) (by omega),uT hw.1]
 rw [ew]
 obtain ⟨k,hk⟩:=Int.eq_ofNat_of_zero_le (show 0≤which % ((r.Stations.length:Nat):Int) from Int.emod_nonneg _ (by omega))
 have hkl:k < r.Stations.length:=by
  have:=Int.emod_lt_of_pos which (show (0:Int) < ((r.Stations.length:Nat):Int) by omega)
  omega
 rw [hk]
 have hgk:bH r.Stations (k:Int)=some (r.Stations.getD k st0):=by rw [eM hkl,gD hkl]
 have hmk:r.Stations.getD k st0 ∈ r.Stations:=by rw [gD hkl]; exact List.getElem_mem hkl
 have hpk:=hpl _ hmk
 have hpk':=(hr.sp _ hmk).1
 rw [hgk,Option.bind_some,Option.bind_some]
 obtain ⟨L,u1,m1,k1,c1,c2,c3,c4,c5,c6⟩:=xW (N:=700) (by omega) hm (n:=r.Stations.length) (u:=0) (m:=0) (k:=0) (by omega) (by omega) ⟨by omega,by omega,by omega,by omega⟩
 rw [c1,Option.bind_some]
 dsimp only
 rw [mH (by rw [List.length_append,List.length_singleton]; omega),Option.bind_some]
 obtain ⟨S,x,u2,m2,d1,d2,d3⟩:=aF9 (N:=700) (by omega) hm hr u0 m0 c2 (by omega)
 rw [d1,Option.bind_some,aB9]
 dsimp only
 rw [mH (by rw [List.length_append,List.length_singleton]; omega),Option.bind_some,mH (by rw [List.length_append,List.length_singleton]; omega),Option.bind_some,Int.toNat_natCast,pR (n:=(r.Stations.getD k st0).Places + 1) (by omega) (by omega)]
 have hwk:=aE3 hr hkl (show (r.Stations.getD k st0).Places≤11 by omega)
 obtain ⟨b,lb,b1,ksb,hSb⟩:=tE (N:=700) (by omega) hrep hwk
 have hbl:b.length=r.People.length:=hSb.al
 have hM:yF r ⟨r.People++[L],S⟩ L:=⟨rfl,d2,d3⟩
 have hMk:=hM.ok hr (by omega) c5 (fun s hs=>c6 s hs)
 obtain ⟨c,lc,cc1,ksc,hSc⟩:=tE (N:=700) (by omega) hrep hMk
 have hcl:c.length=r.People.length + 1:=by rw [hSc.al]; simp
 have hIk:=aJd hr (by omega) (by omega)
 obtain ⟨d,ld,dd1,ksd,hSd⟩:=tE (N:=700) (by omega) hrep hIk
 have hdl:d.length=r.People.length + 1:=by rw [hSd.al]; simp [gF]
 show Option.bind (gC 700 (uD r k)) _=_
 rw [b1,Option.bind_some,cc1,Option.bind_some]
 show Option.bind (gC 700 (gF r)) _=_
 rw [dd1,Option.bind_some]
 dsimp only
 have hgd:bH d ((r.People.length:Nat):Int)=some (-1):=by rw [zK (by omega),aFy hSd]
 have hsub:xE d 0 ((r.People.length:Nat):Int)=some a:=by
  unfold xE
  rw [if_pos (by omega)]
  have:=aF7 hal (by omega) fun i hi=>aGh hr hIk hS hSd (p:=(i:Int)) ⟨by omega,by omega⟩
  simp [this]
 rw [hal,hbl,hcl,hdl,jZ (by omega),hgd,Option.bind_some,hsub]
 simp only [bne_self_eq_false,Bool.or_false,cond_false,Option.bind_some]
 rw [aIj (by omega) (by omega),Option.bind_some,Option.bind_some,show (!true)=false from rfl,cond_false]
 have l22:=aF8 (ρ:=Bool) (fun i:Nat=>(i:Int)) r.People.length (fun s22=>dR 700 (r,u0,m0) (a,0) (b,0) (c,0) s22) (fun i hi=>by
  have hp:inP r (i:Int):=⟨by omega,by omega⟩
  have g1:=aF6 hr hkl (by omega) hS hSb hp
  have g2:=aF1 hr hM hMk hS hSc hp
  show dR 700 (r,u0,m0) (a,0) (b,0) (c,0) (i:Int)=_
  unfold dR
  dsimp only
  rw [hal,kH hi,cond_true,zK (by omega),Option.bind_some,zF (by omega) hr hp,Option.bind_some,zK (by omega),Option.bind_some,zF (by omega) hr hp,Option.bind_some,decide_eq_false (by omega),cond_false,zK (by omega),Option.bind_some,zF (by omega) hr hp,Option.bind_some,Option.bind_some,zF (by omega) hr hp,Option.bind_some,Option.bind_some,decide_eq_false (by omega),cond_false,jZ (by omega)]) (by
  show dR 700 (r,u0,m0) (a,0) (b,0) (c,0) ((r.People.length:Nat):Int)=_
  unfold dR
  dsimp only
  rw [hal,iE,cond_false]) (N:=700) (by omega)
 show Option.bind (bE (fun s22=>dR 700 (r,u0,m0) (a,0) (b,0) (c,0) s22) 700 ((0:Nat):Int)) _=_
 rw [l22,Option.bind_some,aB9,aD7]
 rfl
end Go.Nilo
