/-
  What the plain functions compute, in plain arithmetic, part 2. Conditions: what each theorem names.
-/
import Derived.Test.YtbkcdekgmilmcaaGreatTwL1
set_option linter.unusedSimpArgs false
set_option linter.unusedVariables false
namespace Go.Nilo.Wa
def wD (dn:List Int):Prop:=∀ i:Nat,i < dn.length→dn.getD i (-1) = -1 ∨ (i:Int) < dn.getD i (-1)∧dn.getD i (-1) < (dn.length:Int)
def nx (dn:List Int) (s:Int):Int:=dn.getD s.toNat (-1)
abbrev ok (dn:List Int) (s:Int):Prop:=0≤s∧s < (dn.length:Int)
theorem aD6 {dn:List Int} (h:wD dn) {s:Int} (hs:ok dn s):nx dn s = -1 ∨ s < nx dn s∧nx dn s < (dn.length:Int):=by
 have:=h s.toNat (by unfold ok at hs; omega)
 unfold nx
 unfold ok at hs
 omega
def pth (dn:List Int) (s:Int):List Int:=rV dn dn.length s
theorem aFr {dn:List Int} (h:wD dn):∀ (f g:Nat) (s:Int),((dn.length:Int) - s).toNat≤f→((dn.length:Int) - s).toNat≤g→-1≤s→(s = -1 ∨ 0≤s)→rV dn f s=rV dn g s
 | 0,0,_,_,_,_,_=>rfl
 | 0,g + 1,s,hf,_,_,h0=>by
  unfold rV
  rw [if_neg (by omega)]
 | f + 1,0,s,_,hg,_,h0=>by
  unfold rV
  rw [if_neg (by omega)]
 | f + 1,g + 1,s,hf,hg,h1,h0=>by
  rw [rV,rV]
  by_cases hs:ok dn s
  ·rw [if_pos hs,if_pos hs]
   congr 1
   have hn:=aD6 h hs
   change rV dn f (nx dn s)=rV dn g (nx dn s)
   rcases hn with e | ⟨e1,e2⟩
   ·rw [e]
    cases f <;> cases g <;> simp [rV]
   ·exact aFr h f g (nx dn s) (by omega) (by omega) (by unfold ok at hs; omega) (by unfold ok at hs; omega)
  ·rw [if_neg hs,if_neg hs]
theorem pD {dn:List Int} {s:Int} (hs:¬ ok dn s):pth dn s=[]:=by
 unfold pth
 cases dn.length with
 | zero=>rfl
 | succ n=>
  unfold rV
  rw [if_neg hs]
theorem pQ {dn:List Int} (h:wD dn) {s:Int} (hs:ok dn s):pth dn s=s::pth dn (nx dn s):=by
 unfold pth
 have hs':=hs
 unfold ok at hs'
 have e:rV dn dn.length s=rV dn (dn.length + 1) s:=by
  refine aFr h _ _ s (by omega) (by omega) (by omega) (by omega)
 rw [e,rV,if_pos hs]
 rfl
theorem aBf {dn:List Int} (h:wD dn) {P:Int→Prop} (h0:∀ s,¬ ok dn s→P s) (h1:∀ s,ok dn s→P (nx dn s)→P s) (s:Int):P s:=by
 have key:∀ (k:Nat) (s:Int),((dn.length:Int) - s).toNat≤k→P s:=by
  intro k
  induction k with
  | zero=>
   intro s hs
   exact h0 s (by unfold ok; omega)
  | succ k ih=>
   intro s hs
   by_cases ho:ok dn s
   ·refine h1 s ho ?_
    rcases aD6 h ho with e | ⟨e1,e2⟩
    ·exact h0 _ (by rw [e]; unfold ok; omega)
    ·exact ih _ (by unfold ok at ho; omega)
   ·exact h0 s ho
 exact key _ s (Nat.le_refl _)
theorem xV {dn:List Int} (h:wD dn) (s:Int):∀ x ∈ pth dn s,ok dn x∧s≤x:=by
 refine aBf h (P:=fun s=>∀ x ∈ pth dn s,ok dn x∧s≤x) ?_ ?_ s
 ·intro s hs x hx
  rw [pD hs] at hx
  cases hx
 ·intro s hs ih x hx
  rw [pQ h hs] at hx
  rcases List.mem_cons.1 hx with rfl | hx
  ·exact ⟨hs,Int.le_refl _⟩
  ·have hne:ok dn (nx dn s):=by
    apply Classical.byContradiction
    intro hn
    rw [pD hn] at hx
    cases hx
   have:=ih x hx
   rcases aD6 h hs with e | ⟨e1,e2⟩
   ·rw [e] at hne; unfold ok at hne; omega
   ·exact ⟨this.1,by omega⟩
theorem wU {dn:List Int} (h:wD dn) (s:Int):((pth dn s).length:Int)≤max 0 ((dn.length:Int) - s)∧(pth dn s).length≤dn.length:=by
 refine aBf h (P:=fun s=>((pth dn s).length:Int)≤max 0 ((dn.length:Int) - s)∧(pth dn s).length≤dn.length) ?_ ?_ s
 ·intro s hs
  rw [pD hs]
  simp
  omega
 ·intro s hs ih
  rw [pQ h hs,List.length_cons]
  unfold ok at hs
  rcases aD6 h hs with e | ⟨e1,e2⟩
  ·rw [e,pD (by unfold ok; omega)]
   simp
   omega
  ·omega
theorem aDu {dn:List Int} (h:wD dn) {s x:Int} (hx:x ∈ pth dn s):∃ a,pth dn s=a++pth dn x∧(∀ y ∈ a,y < x):=by
 revert hx
 refine aBf h (P:=fun s=>x ∈ pth dn s→∃ a,pth dn s=a++pth dn x∧(∀ y ∈ a,y < x)) ?_ ?_ s
 ·intro s hs hx
  rw [pD hs] at hx
  cases hx
 ·intro s hs ih hx
  have hx0:=hx
  rw [pQ h hs] at hx
  by_cases e:x=s
  ·subst e
   exact ⟨[],rfl,fun y hy=>by cases hy⟩
  ·rcases List.mem_cons.1 hx with e2 | hx
   ·exact absurd e2 e
   ·obtain ⟨a,h1,h2⟩:=ih hx
    refine ⟨s::a,by rw [pQ h hs,h1]; rfl,fun y hy=>?_⟩
    rcases List.mem_cons.1 hy with rfl | hy
    ·have:=(xV h _ x hx0).2
     omega
    ·exact h2 y hy
theorem aK3 {dn:List Int} (h:wD dn) {s x y:Int} (hx:x ∈ pth dn s) (hy:y ∈ pth dn x):y ∈ pth dn s:=by
 obtain ⟨a,e,-⟩:=aDu h hx
 rw [e]
 exact List.mem_append_right _ hy
theorem zK {dn:List Int} (h:wD dn) {s x y:Int} (hx:x ∈ pth dn s) (hy:y ∈ pth dn s) (hxy:x≤y):y ∈ pth dn x:=by
 obtain ⟨a,e,ha⟩:=aDu h hx
 rw [e] at hy
 rcases List.mem_append.1 hy with hy | hy
 ·have:=ha y hy
  omega
 ·exact hy
theorem aHg {dn:List Int} (h:wD dn) {s x y:Int} (hx:x ∈ pth dn s) (hy:y ∈ pth dn s) (hxy:x < y):(pth dn y).length < (pth dn x).length:=by
 have hyx:=zK h hx hy (by omega)
 obtain ⟨a,e,-⟩:=aDu h hyx
 have hox:=(xV h s x hx).1
 have:a ≠ []:=by
  intro ha
  rw [ha,List.nil_append] at e
  have h1:=pQ h hox
  have h2:=pQ h (xV h s y hy).1
  rw [h1,h2] at e
  have:=(List.cons.inj e).1
  omega
 rw [e,List.length_append]
 have:=List.length_pos_iff.2 this
 omega
theorem aOy {dn:List Int} (h:wD dn) (s:Int):(pth dn s).Pairwise (· < ·):=by
 refine aBf h (P:=fun s=>(pth dn s).Pairwise (· < ·)) ?_ ?_ s
 ·intro s hs
  rw [pD hs]
  exact List.Pairwise.nil
 ·intro s hs ih
  rw [pQ h hs]
  refine List.pairwise_cons.2 ⟨fun y hy=>?_,ih⟩
  have h1:=xV h _ y hy
  rcases aD6 h hs with e | ⟨e1,e2⟩
  ·have hne:ok dn (nx dn s):=by
    apply Classical.byContradiction
    intro hn
    rw [pD hn] at hy
    cases hy
   rw [e] at hne
   unfold ok at hne
   omega
  ·omega
def trv (dn lo:List Int) (to s:Int):Option Int:=aHf dn lo to dn.length s 0
def trL (lo:List Int) (to:Int):List Int→Int→Option Int
 | [],_=>none
 | p::l,x=>if p=to then some x else trL lo to l (x + lo.getD p.toNat 0)
theorem aGb {dn lo:List Int} {to:Int}:∀ (f:Nat) (s x:Int),aHf dn lo to f s x=trL lo to (rV dn f s) x
 | 0,_,_=>rfl
 | f + 1,s,x=>by
  rw [aHf,rV]
  by_cases hs:0≤s∧s < (dn.length:Int)
  ·rw [if_pos hs,if_pos hs,trL]
   by_cases e:s=to
   ·rw [if_pos e,if_pos e]
   ·rw [if_neg e,if_neg e]
    exact aGb f _ _
  ·rw [if_neg hs,if_neg hs]
   rfl
theorem aI5 {dn lo:List Int} {to s:Int}:trv dn lo to s=trL lo to (pth dn s) 0:=aGb _ _ _
theorem aKp {lo:List Int} {to:Int}:∀ (l:List Int) (x y:Int),trL lo to l (x + y)=(trL lo to l x).map (· + y)
 | [],_,_=>rfl
 | p::l,x,y=>by
  unfold trL
  split
  ·rfl
  ·rw [← aKp l,show x + y + lo.getD p.toNat 0=x + lo.getD p.toNat 0 + y by omega]
theorem aIs {lo:List Int} {to:Int}:∀ {l:List Int} {x:Int},to ∈ l ↔ ∃ z,trL lo to l x=some z
 | [],x=>by simp [trL]
 | p::l,x=>by
  unfold trL
  by_cases e:p=to
  ·subst e; simp
  ·rw [if_neg e,← aIs (l:=l)]
   constructor
   ·intro h
    rcases List.mem_cons.1 h with e2 | h
    ·exact absurd e2.symm e
    ·exact h
   ·exact List.mem_cons_of_mem _
def aL0 (lo:List Int):Prop:=∀ i:Nat,0≤lo.getD i 0∧lo.getD i 0≤1000
theorem aHw {lo:List Int} (hl:aL0 lo) {to:Int}:∀ (a b:List Int),to ∉ a→∀ z,trL lo to b 0=some z→∃ z',trL lo to (a++b) 0=some z'∧z≤z'
 | [],b,_,z,hz=>⟨z,hz,Int.le_refl _⟩
 | p::a,b,hn,z,hz=>by
  rw [List.mem_cons,not_or] at hn
  obtain ⟨z',h1,h2⟩:=aHw hl a b hn.2 z hz
  refine ⟨z' + lo.getD p.toNat 0,?_,by have:=hl p.toNat; omega⟩
  show trL lo to (p::(a++b)) 0=_
  unfold trL
  rw [if_neg (fun e=>hn.1 e.symm),aKp,h1]
  rfl
theorem aNy {dn lo:List Int} (h:wD dn) (hl:aL0 lo) {t:Int × Int} {y:Int} {s x:Int} (hx:x ∈ pth dn s) (hm:uA dn lo t y x=true):uA dn lo t y s=true:=by
 have e:∀ q,uA dn lo t y q=match trv dn lo t.1 q with
  | some x=>decide (t.2 + y≤x)
  | none=>false:=fun _=>rfl
 rw [e] at hm ⊢
 cases hz:trv dn lo t.1 x with
 | none=>rw [hz] at hm; cases hm
 | some z=>
  rw [hz] at hm
  rw [aI5] at hz
  obtain ⟨a,ea,ha⟩:=aDu h hx
  have hto:t.1 ∈ pth dn x:=aIs.2 ⟨z,hz⟩
  have hn:t.1 ∉ a:=fun hq=>by
   have h1:=ha _ hq
   have h2:=(xV h x _ hto).2
   omega
  obtain ⟨z',h1,h2⟩:=aHw hl a (pth dn x) hn z hz
  rw [← ea,← aI5] at h1
  rw [h1]
  simp only [decide_eq_true_eq] at hm ⊢
  omega
def str (dn lo:List Int) (t:Int × Int) (y s:Int):List Int:=(pth dn s).filter (uA dn lo t y)
theorem aRn {dn lo:List Int} (h:wD dn) (hl:aL0 lo) {t:Int × Int} {y s a x:Int} (hx:x ∈ str dn lo t y s) (ha:a ∈ pth dn s) (hax:a≤x):a ∈ str dn lo t y s:=by
 unfold str at hx ⊢
 rw [List.mem_filter] at hx ⊢
 exact ⟨ha,aNy h hl (zK h ha hx.1 hax) hx.2⟩
theorem aIp {dn lo:List Int} (h:wD dn) {t:Int × Int} {y s:Int} (hne:str dn lo t y s ≠ []):(str dn lo t y s).getLast hne ∈ str dn lo t y s∧∀ x ∈ str dn lo t y s,x≤(str dn lo t y s).getLast hne:=by
 refine ⟨List.getLast_mem hne,fun x hx=>?_⟩
 have ha:(str dn lo t y s).Pairwise (· < ·):=(aOy h s).filter _
 rw [← List.dropLast_concat_getLast hne] at hx ha
 rcases List.mem_append.1 hx with hx | hx
 ·have:=(List.pairwise_append.1 ha).2.2 x hx _ List.mem_cons_self
  omega
 ·rw [List.mem_singleton] at hx
  omega
theorem aOb {dn lo:List Int} (h:wD dn) (hl:aL0 lo) {t t':Int × Int} {y y' s s' q:Int} (hne:str dn lo t y s ≠ []) (hne':str dn lo t' y' s' ≠ [])
  (hd:(pth dn ((str dn lo t' y' s').getLast hne')).length≤(pth dn ((str dn lo t y s).getLast hne)).length) (hq:q ∈ str dn lo t y s) (hq':q ∈ str dn lo t' y' s') :
  (str dn lo t y s).getLast hne ∈ str dn lo t' y' s':=by
 obtain ⟨a1,a2⟩:=aIp h hne
 obtain ⟨b1,b2⟩:=aIp h hne'
 generalize (str dn lo t y s).getLast hne=a at *
 generalize (str dn lo t' y' s').getLast hne'=b at *
 have ap:a ∈ pth dn s:=(List.mem_filter.1 a1).1
 have bp:b ∈ pth dn s':=(List.mem_filter.1 b1).1
 have qp:q ∈ pth dn s:=(List.mem_filter.1 hq).1
 have qp':q ∈ pth dn s':=(List.mem_filter.1 hq').1
 have aq:=zK h qp ap (a2 q hq)
 have bq:=zK h qp' bp (b2 q hq')
 have hab:a≤b:=by
  rcases Int.lt_or_le b a with h1 | h1
  ·have:=aHg h bq aq h1
   omega
  ·exact h1
 exact aRn h hl b1 (aK3 h qp' aq) hab
end Go.Nilo.Wa
namespace Go.Nilo.Wa
theorem iU {n:Int} (h1 : -1000000000000≤n) (h2:n≤1000000000000):W n=n:=uW (by omega) (by omega)
structure pO (r:aH):Prop where
 n:1≤r.Down.length∧r.Down.length≤12
 d:wD r.Down
 tl:r.Travel.length=r.Down.length
 t:∀ i,i < r.Travel.length→0≤(r.Travel.getD i ⟨0,0⟩).Lo∧(r.Travel.getD i ⟨0,0⟩).Lo≤(r.Travel.getD i ⟨0,0⟩).Hi∧(r.Travel.getD i ⟨0,0⟩).Hi≤1000
 sl:1≤r.Springs.length∧r.Springs.length≤8
 s:∀ s ∈ r.Springs,ok r.Down s
 sa:r.Springs.Pairwise (· < ·)
 wl:r.Towns.length≤8
 w:∀ t ∈ r.Towns,ok r.Down t.Station∧(0≤t.Lead∧t.Lead≤1000)∧(0≤t.Alarm∧t.Alarm≤2000)
 y:0≤r.Delay.Lo∧r.Delay.Lo≤r.Delay.Hi∧r.Delay.Hi≤1000
 fl:r.Floods.length≤20
 f:∀ f ∈ r.Floods,f.Spring ∈ r.Springs∧f.Stages.length=(pth r.Down f.Spring).length∧∀ x ∈ f.Stages,0≤x∧x≤2000
def los (r:aH):List Int:=r.Travel.map fun x=>x.Lo
theorem pO.lo {r:aH} (h:pO r):aL0 (los r):=by
 intro i
 by_cases hi:i < r.Travel.length
 ·have:=h.t i hi
  have e:(los r).getD i 0=(r.Travel.getD i ⟨0,0⟩).Lo:=by simp [los,List.getD,hi]
  rw [e]
  omega
 ·have e:(los r).getD i 0=0:=by simp [los,List.getD,List.getElem?_eq_none (show r.Travel.length≤i by omega)]
  rw [e]
  omega
def aAd {σ:Type} (y:σ→(Int × Int)→Option (σ × Bool)):List Int→Int→σ→Option σ
 | [],_,s=>some s
 | p::l,a,s=>Option.bind (y s (a,p)) fun r=>cond r.2 (aAd y l (a + 1) r.1) (some r.1)
theorem vW {N:Nat} {dn:List Int} (h:wD dn) (hl:dn.length≤12) {x1:aH} (hd:x1.Down=dn) {σ:Type} {y:σ→(Int × Int)→Option (σ × Bool)} (hN:20≤N) {s:Int} (hs:s = -1 ∨ ok dn s) {sg sg':σ} (hr:aAd y (pth dn s) 0 sg=some sg') :
  ∃ z,iD N s x1 y sg=some (sg',z):=by
 have key:∀ (k:Nat) (s a:Int) (sg:σ) (M:Nat),((dn.length:Int) - s).toNat≤k→k + 2≤M→k≤14→(s = -1 ∨ ok dn s)→0≤a→a + k≤100→aAd y (pth dn s) a sg=some sg' →
   ∃ z,(Option.bind (aX (fun s3:Int × Int × σ=>cN N x1 y s3.1 s3.2.1 s3.2.2) M (a,s,sg)) fun x3=>exK x3 (fun s3=>some (s3.2.2,s3.2.1)) some)=some (sg',z):=by
  intro k
  induction k with
  | zero=>
   intro s a sg M hk hM _ hs h0 h1 hr
   have hn:¬ ok dn s:=by unfold ok; omega
   rw [pD hn] at hr
   obtain ⟨M,rfl⟩:∃ M',M=M' + 1:=⟨M - 1,by omega⟩
   unfold aX
   have:cN N x1 y a s sg=some (.brk (a,s,sg)):=by
    unfold cN
    have:((s != (-1)) && (decide (s < ((x1.Down.length:Nat):Int))))=false:=by
     rw [hd]
     rcases hs with rfl | hs
     ·rfl
     ·exact absurd hs hn
    rw [this,cond_false]
   simp only [this]
   cases hr
   exact ⟨s,rfl⟩
  | succ k ih=>
   intro s a sg M hk hM hk14 hs h0 h1 hr
   obtain ⟨M,rfl⟩:∃ M',M=M' + 1:=⟨M - 1,by omega⟩
   unfold aX
   by_cases ho:ok dn s
   ·rw [pQ h ho] at hr
    unfold aAd at hr
    obtain ⟨r,hr1,hr2⟩:=Option.bind_eq_some_iff.1 hr
    have ho':=ho
    unfold ok at ho'
    have hc:((s != (-1)) && (decide (s < ((x1.Down.length:Nat):Int))))=true:=by
     rw [hd]
     simp
     omega
    have hg:bE x1.Down s=some (nx dn s):=by
     rw [hd]
     unfold bE nx
     rw [if_pos ho'.1]
     simp [List.getD,show s.toNat < dn.length by omega]
    cases hb:r.2 with
    | false=>
     rw [hb,cond_false] at hr2
     have:cN N x1 y a s sg=some (.ret (r.1,s)):=by
      unfold cN
      rw [hc,cond_true,hr1,Option.bind_some,hb]
      rfl
     simp only [this]
     cases hr2
     exact ⟨s,rfl⟩
    | true=>
     rw [hb,cond_true] at hr2
     have:cN N x1 y a s sg=some (.cont (a + 1,nx dn s,r.1)):=by
      unfold cN
      rw [hc,cond_true,hr1,Option.bind_some,hb,hg,iU (by omega) (by omega)]
      rfl
     simp only [this]
     rcases aD6 h ho with e | ⟨e1,e2⟩
     ·have hnn:¬ ok dn (nx dn s):=by rw [e]; unfold ok; omega
      rw [pD hnn] at hr2
      cases hr2
      obtain ⟨M,rfl⟩:∃ M',M=M' + 1:=⟨M - 1,by omega⟩
      unfold aX
      have:cN N x1 y (a + 1) (nx dn s) r.1=some (.brk (a + 1,nx dn s,r.1)):=by
       unfold cN
       rw [e]
       rfl
      simp only [this]
      exact ⟨nx dn s,rfl⟩
     ·exact ih (nx dn s) (a + 1) r.1 M (by omega) (by omega) (by omega) (.inr ⟨by omega,e2⟩) (by omega) (by push_cast at h1; omega) hr2
   ·rw [pD ho] at hr
    have:cN N x1 y a s sg=some (.brk (a,s,sg)):=by
     unfold cN
     have:((s != (-1)) && (decide (s < ((x1.Down.length:Nat):Int))))=false:=by
      rw [hd]
      rcases hs with rfl | hs
      ·rfl
      ·exact absurd hs ho
     rw [this,cond_false]
    simp only [this]
    cases hr
    exact ⟨s,rfl⟩
 unfold iD
 exact key 13 s 0 sg N (by rcases hs with rfl | hs; omega; unfold ok at hs; omega) (by omega) (by omega) hs (by omega) (by omega) hr
def yS (l:List aN):Int:=aD4 (fun s=>s.Lo) l
theorem aL2 {N:Nat} (hN:60≤N) {l:List aN} (hl:l.length≤20) (hb:∀ s ∈ l,0≤s.Lo∧s.Lo≤1000∧0≤s.Hi∧s.Hi≤1000):∃ h,uN N l=some ⟨yS l,h⟩:=by
 obtain ⟨⟨z,a,b⟩,f1,rfl,f2,-⟩:=qA (ρ:=aN) (fun s5:Int × Int × Int=>mY N l s5.1 s5.2.1 s5.2.2)
  (fun i s=>s.1=(i:Int)∧(s.2.1=yS (l.take i)∧0≤s.2.1∧s.2.1≤1000 * (i:Int))∧(0≤s.2.2∧s.2.2≤1000 * (i:Int))) l.length (by
  rintro i ⟨z,a,b⟩ hi ⟨rfl,⟨ha,a0,a1⟩,b0,b1⟩
  dsimp only at ha a0 a1 b0 b1
  have hs:=hb l[i] (List.getElem_mem hi)
  refine ⟨(((i + 1:Nat):Int),a + l[i].Lo,b + l[i].Hi),?_,rfl,⟨?_,by dsimp only; omega,by dsimp only; omega⟩,by dsimp only; omega,by dsimp only; omega⟩
  ·show mY N l (i:Int) a b=_
   unfold mY
   rw [gD hi,cond_true,cS hi,Option.bind_some,fF (by omega),iU (by omega) (by omega),iU (by omega) (by omega)]
  ·dsimp only
   unfold yS
   rw [aJk _ _ _ hi,ha]
   rfl) (by
  rintro ⟨z,a,b⟩ ⟨rfl,-⟩
  show mY N l (l.length:Int) a b=_
  unfold mY
  rw [gC,cond_false]) l.length 0 (0,0,0) N (by omega) (by omega) ⟨rfl,⟨rfl,by decide,by decide⟩,by decide,by decide⟩
 refine ⟨b,?_⟩
 have f2':a=yS l:=by
  have:=f2.1
  rw [List.take_length] at this
  exact this
 unfold uN
 rw [f1,Option.bind_some,← f2']
 rfl
theorem aEg {N:Nat} (hN:60≤N) {r:aH} (h:pO r) {F:Int × Int→Option (List Int)} {s to:Int} (hs:s = -1 ∨ ok r.Down s) :
  ∃ sp b,iV N ⟨r,F⟩ s to=some (sp,b)∧b=(trv r.Down (los r) to s).isSome∧∀ x,trv r.Down (los r) to s=some x→sp.Lo=x:=by
 have hn:=h.n
 have key:∀ (l:List Int) (a:Int) (t:List aN),(∀ p ∈ l,ok r.Down p)→t.length + l.length≤14→(∀ s ∈ t,0≤s.Lo∧s.Lo≤1000∧0≤s.Hi∧s.Hi≤1000) →
   (∃ q1 q2 t',aAd (rY (fun (zz:Int × Int × Bool × (List aN)) (ix_:(Int × Int))=>bX N ⟨r,F⟩ to zz.1 zz.2.1 zz.2.2.1 zz.2.2.2 ix_.1 ix_.2)) l a (.go (0,0,false,t))=some (.ret (q1,q2,true,t'))∧trL (los r) to l (yS t)=some q1) ∨
   (∃ t',aAd (rY (fun (zz:Int × Int × Bool × (List aN)) (ix_:(Int × Int))=>bX N ⟨r,F⟩ to zz.1 zz.2.1 zz.2.2.1 zz.2.2.2 ix_.1 ix_.2)) l a (.go (0,0,false,t))=some (.go (0,0,false,t'))∧trL (los r) to l (yS t)=none):=by
  intro l
  induction l with
  | nil=>
   intro a t _ _ _
   exact .inr ⟨t,rfl,rfl⟩
  | cons p l ih=>
   intro a t hp hlen ht
   have hop:=hp p List.mem_cons_self
   unfold ok at hop
   rw [List.length_cons] at hlen
   unfold trL
   by_cases e:p=to
   ·left
    obtain ⟨q2,hq⟩:=aL2 (N:=N) hN (l:=t) (by omega) ht
    refine ⟨yS t,q2,t,?_,by rw [if_pos e]⟩
    unfold aAd rY
    have:bX N ⟨r,F⟩ to 0 0 false t a p=some (.ret (yS t,q2,true,t)):=by
     unfold bX
     rw [beq_iff_eq.2 e,cond_true,hq]
     rfl
    simp only [this]
    rfl
   ·rw [if_neg e]
    have hpl:p.toNat < r.Travel.length:=by rw [h.tl]; omega
    have hg:bE r.Travel p=some r.Travel[p.toNat]:=by
     unfold bE
     rw [if_pos hop.1]
     simp [hpl]
    have hb:=h.t p.toNat hpl
    rw [← mB hpl] at hb
    have hstep:bX N ⟨r,F⟩ to 0 0 false t a p=some (.go (0,0,false,t++[r.Travel[p.toNat]])):=by
     unfold bX
     rw [beq_eq_false_iff_ne.2 e,cond_false]
     show (Option.bind (bE r.Travel p) _)=_
     rw [hg,Option.bind_some,kF (by simp; omega)]
     rfl
    have hsum:yS (t++[r.Travel[p.toNat]])=yS t + (los r).getD p.toNat 0:=by
     unfold yS
     rw [aJp]
     congr 1
     simp [los,List.getD,hpl]
    have ih':=ih (a + 1) (t++[r.Travel[p.toNat]]) (fun q hq=>hp q (List.mem_cons_of_mem _ hq)) (by simp; omega) (fun s hs=>by
     rcases List.mem_append.1 hs with hs | hs
     ·exact ht s hs
     ·rw [List.mem_singleton] at hs
      subst hs
      omega)
    rw [hsum] at ih'
    have hrun:aAd (rY (fun (zz:Int × Int × Bool × (List aN)) (ix_:(Int × Int))=>bX N ⟨r,F⟩ to zz.1 zz.2.1 zz.2.2.1 zz.2.2.2 ix_.1 ix_.2)) (p::l) a (.go (0,0,false,t))=aAd (rY (fun (zz:Int × Int × Bool × (List aN)) (ix_:(Int × Int))=>bX N ⟨r,F⟩ to zz.1 zz.2.1 zz.2.2.1 zz.2.2.2 ix_.1 ix_.2)) l (a + 1) (.go (0,0,false,t++[r.Travel[p.toNat]])):=by
     conv=>lhs; unfold aAd
     unfold rY
     simp only [hstep]
     rfl
    rw [hrun]
    exact ih'
 have hpl:=(wU h.d s).2
 unfold iV gW
 rw [Option.bind_some]
 dsimp only
 rw [aI5]
 rcases key (pth r.Down s) 0 [] (fun p hp=>(xV h.d s p hp).1) (by simp; omega) (fun s hs=>by cases hs) with ⟨q1,q2,t',k1,k2⟩ | ⟨t',k1,k2⟩
 ·obtain ⟨z,hz⟩:=vW (N:=N) h.d hn.2 (x1:=⟨r.Down,r.Travel,r.Springs,r.Towns,⟨r.Delay.Lo,r.Delay.Hi⟩,r.Floods⟩) rfl (by omega) hs k1
  have k2':trL (los r) to (pth r.Down s) 0=some q1:=k2
  rw [hz,k2']
  exact ⟨⟨q1,q2⟩,true,rfl,rfl,fun x hx=>by cases hx; rfl⟩
 ·obtain ⟨z,hz⟩:=vW (N:=N) h.d hn.2 (x1:=⟨r.Down,r.Travel,r.Springs,r.Towns,⟨r.Delay.Lo,r.Delay.Hi⟩,r.Floods⟩) rfl (by omega) hs k1
  have k2':trL (los r) to (pth r.Down s) 0=none:=k2
  rw [hz,k2']
  exact ⟨⟨0,0⟩,false,rfl,rfl,fun x hx=>by cases hx⟩
end Go.Nilo.Wa
namespace Go.Nilo.Wa
def tw (r:aH):List (Int × Int):=r.Towns.map fun x=>(x.Station,x.Lead)
def Fr (r:aH):Int × Int→Option (List Int):=fun k=>some (stM r.Down (r.Travel.map fun x=>x.Lo) (r.Towns.map fun x=>(x.Station,x.Lead)) r.Delay.Hi k)
def gA (r:aH) (d:aC):List Int:=str r.Down (los r) ((tw r).getD d.Town.toNat (0,0)) r.Delay.Hi d.Spring
def DmOk (r:aH) (d:aC):Prop:=ok r.Down d.Spring∧0≤d.Town∧d.Town < (r.Towns.length:Int)
theorem tw_at {r:aH} {i:Nat} (hi:i < r.Towns.length):(tw r).getD i (0,0)=(r.Towns[i].Station,r.Towns[i].Lead):=by simp [tw,List.getD,hi]
theorem tY {N:Nat} (hN:60≤N) {r:aH} (h:pO r) {d:aC} (hd:DmOk r d):bN N ⟨r,Fr r⟩ d=some (gA r d):=by
 obtain ⟨hs,ht0,ht1⟩:=hd
 have ht:d.Town.toNat < r.Towns.length:=by omega
 have hg:bE r.Towns d.Town=some r.Towns[d.Town.toNat]:=by
  unfold bE
  rw [if_pos ht0]
  simp [ht]
 have htw:=tw_at ht
 have hw:=h.w _ (List.getElem_mem ht)
 have hy:=h.y
 have hn:=h.n
 generalize hT:r.Towns[d.Town.toNat]=T at hg htw hw
 have key:∀ (l:List Int) (a:Int) (t:List Int),(∀ p ∈ l,ok r.Down p)→t.length + l.length≤14 →
   aAd (rY (fun (zz:(List Int)) (ix_:(Int × Int))=>fC N ⟨r,Fr r⟩ T zz ix_.1 ix_.2)) l a (.go t)=some (.go (t++l.filter (uA r.Down (los r) (T.Station,T.Lead) r.Delay.Hi))):=by
  intro l
  induction l with
  | nil=>intro a t _ _; simp [aAd]
  | cons p l ih=>
   intro a t hp hlen
   rw [List.length_cons] at hlen
   obtain ⟨sp,b,k1,k2,k3⟩:=aEg (N:=N) hN h (F:=Fr r) (s:=p) (to:=T.Station) (.inr (hp p List.mem_cons_self))
   have hm:(b && decide (W (T.Lead + r.Delay.Hi)≤sp.Lo))=uA r.Down (los r) (T.Station,T.Lead) r.Delay.Hi p:=by
    have e:uA r.Down (los r) (T.Station,T.Lead) r.Delay.Hi p=match trv r.Down (los r) T.Station p with
     | some x=>decide (T.Lead + r.Delay.Hi≤x)
     | none=>false:=rfl
    rw [e,k2,iU (by omega) (by omega)]
    cases hz:trv r.Down (los r) T.Station p with
    | none=>rfl
    | some x=>
     rw [k3 x hz]
     rfl
   have hstep:fC N ⟨r,Fr r⟩ T t a p=some (.go (t++[p].filter (uA r.Down (los r) (T.Station,T.Lead) r.Delay.Hi))):=by
    unfold fC
    rw [k1,Option.bind_some]
    show cond (b && decide (W (T.Lead + r.Delay.Hi)≤sp.Lo)) _ _=_
    rw [hm]
    cases hb:uA r.Down (los r) (T.Station,T.Lead) r.Delay.Hi p with
    | true=>
     rw [cond_true,kF (by simp; omega),List.filter_cons_of_pos hb]
     rfl
    | false=>
     rw [cond_false,List.filter_cons_of_neg (by rw [hb]; decide)]
     simp
   have e2:(p::l).filter (uA r.Down (los r) (T.Station,T.Lead) r.Delay.Hi)=[p].filter (uA r.Down (los r) (T.Station,T.Lead) r.Delay.Hi)++l.filter (uA r.Down (los r) (T.Station,T.Lead) r.Delay.Hi):=by
    rw [← List.filter_append]
    rfl
   have hl1:([p].filter (uA r.Down (los r) (T.Station,T.Lead) r.Delay.Hi)).length≤1:=List.length_filter_le _ _
   rw [e2,← List.append_assoc,← ih (a + 1) _ (fun q hq=>hp q (List.mem_cons_of_mem _ hq)) (by rw [List.length_append]; omega)]
   conv=>lhs; unfold aAd
   unfold rY
   simp only [hstep]
   rfl
 have hpl:=(wU h.d d.Spring).2
 obtain ⟨z,hz⟩:=vW (N:=N) h.d hn.2 (x1:=⟨r.Down,r.Travel,r.Springs,r.Towns,⟨r.Delay.Lo,r.Delay.Hi⟩,r.Floods⟩) rfl (by omega) (.inr hs) (key (pth r.Down d.Spring) 0 [] (fun p hp=>(xV h.d _ p hp).1) (by simp; omega))
 unfold bN gW
 show Option.bind (bE r.Towns d.Town) _=_
 rw [hg,Option.bind_some,Option.bind_some]
 dsimp only
 rw [hz,Option.bind_some]
 have e3:([]:List Int)++(pth r.Down d.Spring).filter (uA r.Down (los r) (T.Station,T.Lead) r.Delay.Hi)=gA r d:=by
  unfold gA str
  rw [htw]
  rfl
 rw [e3]
 show Option.bind (okF (Fr r (d.Spring,d.Town)) (gA r d)) _=_
 have:okF (Fr r (d.Spring,d.Town)) (gA r d)=some ():=by
  unfold okF
  exact if_pos rfl
 rw [this]
 rfl
def aDi (r:aH) (s:Int) (i:Nat):Option aC:=if (trv r.Down (los r) (r.Towns.getD i ⟨0,0,0⟩).Station s).isSome then some ⟨s,(i:Int)⟩ else none
def aIu (r:aH) (s:Int):List aC:=(List.range r.Towns.length).filterMap (aDi r s)
def iP (r:aH):List aC:=r.Springs.flatMap (aIu r)
theorem aIm {r:aH} {s:Int} {i:Nat}:((List.range i).filterMap (aDi r s)).length≤i:=by
 have:=List.length_filterMap_le (aDi r s) (List.range i)
 rw [List.length_range] at this
 exact this
theorem zM {r:aH} (h:pO r) {d:aC} (hd:d ∈ iP r):DmOk r d:=by
 obtain ⟨s,hs,hd⟩:=List.mem_flatMap.1 hd
 obtain ⟨i,hi,hd⟩:=List.mem_filterMap.1 hd
 unfold aDi at hd
 split at hd
 ·cases hd
  rw [List.mem_range] at hi
  exact ⟨h.s s hs,by dsimp only; omega,by dsimp only; omega⟩
 ·cases hd
theorem flat_len {r:aH} (hw:r.Towns.length≤8):∀ l:List Int,(l.flatMap (aIu r)).length≤8 * l.length
 | []=>by simp
 | s::l=>by
  rw [List.flatMap_cons,List.length_append,List.length_cons]
  have h1:=flat_len hw l
  have h2:=aIm (r:=r) (s:=s) (i:=r.Towns.length)
  have h3:(aIu r s).length≤8:=Nat.le_trans h2 hw
  omega
theorem aBu {r:aH} (h:pO r):(iP r).length≤64:=by
 have h1:=flat_len h.wl r.Springs
 have h2:=h.sl
 unfold iP
 omega
set_option maxRecDepth 4000 in
theorem wW {N:Nat} (hN:60≤N) {r:aH} (h:pO r) {F:Int × Int→Option (List Int)}:eN N ⟨r,F⟩=some (iP r):=by
 have hwl:=h.wl
 have hsl:=h.sl
 have inner:∀ (s:Int),ok r.Down s→∀ out:List aC,out.length≤64→aX (fun s13=>eM N ⟨r,F⟩ s s13.1 s13.2) N (out,0)=some (.go (out++aIu r s,(r.Towns.length:Int))):=by
  intro s hs out ho
  have:=aEo (ρ:=bY ((List aC) × Int) ((List aC))) (fun i:Nat=>(out++(List.range i).filterMap (aDi r s),(i:Int))) r.Towns.length (fun s13=>eM N ⟨r,F⟩ s s13.1 s13.2) (fun i hi=>by
   obtain ⟨sp,b,k1,k2,k3⟩:=aEg (N:=N) hN h (F:=F) (s:=s) (to:=r.Towns[i].Station) (.inr hs)
   have hl:=aIm (r:=r) (s:=s) (i:=i)
   have e:(List.range (i + 1)).filterMap (aDi r s)=(List.range i).filterMap (aDi r s)++(aDi r s i).toList:=by
    rw [List.range_succ,List.filterMap_append]
    cases hq:aDi r s i <;> simp [hq]
   have e4:r.Towns.getD i ⟨0,0,0⟩=r.Towns[i]:=(mB hi).symm
   show eM N ⟨r,F⟩ s (out++(List.range i).filterMap (aDi r s)) (i:Int)=_
   unfold eM
   rw [gD hi,cond_true,cS hi,Option.bind_some,k1,Option.bind_some]
   dsimp only
   rw [k2]
   unfold iH
   rw [e]
   unfold aDi
   rw [e4]
   cases hb:(trv r.Down (los r) r.Towns[i].Station s).isSome with
   | true=>
    rw [cond_true,kF (by simp only [List.length_append,List.length_cons,List.length_nil]; unfold aDi at hl; omega),Option.bind_some,fF (by omega),if_pos rfl]
    simp
   | false=>
    rw [cond_false,fF (by omega),if_neg (by decide)]
    simp) (by
   show eM N ⟨r,F⟩ s _ ((r.Towns.length:Nat):Int)=_
   unfold eM
   rw [gC,cond_false]) (N:=N) (by omega)
  simp only [List.range_zero,List.filterMap_nil,List.append_nil] at this
  exact this
 have:=aEo (ρ:=List aC) (fun i:Nat=>((r.Springs.take i).flatMap (aIu r),(i:Int))) r.Springs.length (fun s5=>fB N ⟨r,F⟩ s5.1 s5.2) (fun i hi=>by
  show fB N ⟨r,F⟩ ((r.Springs.take i).flatMap (aIu r)) (i:Int)=_
  have hl:=flat_len hwl (r.Springs.take i)
  rw [List.length_take] at hl
  unfold fB
  rw [gD hi,cond_true,cS hi,Option.bind_some,inner _ (h.s _ (List.getElem_mem hi)) _ (by omega),Option.bind_some]
  show some (bY.cont _)=_
  dsimp only
  rw [fF (by omega),List.take_succ_eq_append_getElem hi,List.flatMap_append]
  simp) (by
  show fB N ⟨r,F⟩ _ ((r.Springs.length:Nat):Int)=_
  unfold fB
  rw [gC,cond_false]) (N:=N) (by omega)
 unfold eN
 have e0:((([]:List aC),(0:Int)):List aC × Int)=((r.Springs.take 0).flatMap (aIu r),((0:Nat):Int)):=by simp
 rw [e0,this,Option.bind_some]
 show some _=_
 dsimp only
 rw [List.take_length]
 rfl
theorem is_ok {N:Nat} (hN:70≤N) {r:aH} (h:pO r) {F:Int × Int→Option (List Int)} {d:aC} (hd:d ∈ iP r):lY N ⟨r,F⟩ d=some true:=by
 unfold lY
 rw [wW (by omega) h,Option.bind_some]
 have hl:=aBu h
 unfold eB eO
 rcases vY (fun x=>kJ x d) (iP r) (by omega) (fun s4=>dX N (iP r) d s4) (fun x=>rfl) (iP r).length 0 N (by omega) (by omega) with ⟨k,a1,a2,a3⟩ | ⟨a1,a2⟩
 ·have a1':aX (fun s4=>dX N (iP r) d s4) N 0=some (.out k):=a1
  rw [a1']
  show some (decide (0≤k))=_
  rw [decide_eq_true a2]
 ·rw [List.drop_zero,List.any_eq_false] at a2
  have:=a2 d hd
  simp [kJ] at this
end Go.Nilo.Wa
namespace Go.Nilo.Wa
theorem aDl {n a b:Int} (h1:a≤n) (h2:n≤b):bC n a b=true:=by unfold bC; simp; omega
theorem aFn {N:Nat} {l:List Int} {n:Int} (hl:l.length < N) (hl':l.length≤1000) (hn:0≤n∧n≤1000) (h1:∀ x ∈ l,0≤x∧x < n) (h2:l.Pairwise (· < ·)):mS N l n=some true:=by
 have:=aEo (ρ:=Bool) (fun i:Nat=>((if i=0 then -1 else l.getD (i - 1) 0),(i:Int))) l.length (fun s5=>lD N l n s5.1 s5.2) (fun i hi=>by
  show lD N l n (if i=0 then -1 else l.getD (i - 1) 0) (i:Int)=_
  have hm:=h1 _ (List.getElem_mem hi)
  have hlast:(if i=0 then -1 else l.getD (i - 1) 0) < l[i]∧-1≤(if i=0 then -1 else l.getD (i - 1) 0):=by
   by_cases e:i=0
   ·rw [if_pos e]
    omega
   ·rw [if_neg e,← mB (d:=(0:Int)) (show i - 1 < l.length by omega)]
    have h3:=h1 _ (List.getElem_mem (show i - 1 < l.length by omega))
    have h4:=List.pairwise_iff_getElem.1 h2 (i - 1) i (by omega) hi (by omega)
    omega
  generalize (if i=0 then -1 else l.getD (i - 1) 0)=q at hlast
  unfold lD
  rw [gD hi,cond_true,cS hi,Option.bind_some,aDl (by rw [iU (by omega) (by omega)]; omega) (by rw [iU (by omega) (by omega)]; omega),fF (by omega)]
  rw [if_neg (by omega),show i + 1 - 1=i by omega,← mB hi]
  rfl) (by
  show lD N l n _ ((l.length:Nat):Int)=_
  unfold lD
  rw [gC,cond_false]) hl
 unfold mS
 have e0:(((-1:Int),(0:Int)):Int × Int)=((if (0:Nat)=0 then -1 else l.getD (0 - 1) 0),((0:Nat):Int)):=rfl
 rw [e0,this]
 rfl
theorem aEy {N:Nat} {l:List Int} {v:Int} (hl:l.length < N) (hl':l.length≤1000):bB N l v=some (l.contains v):=by
 unfold bB fY
 rcases vY (fun x=>v == x) l (by omega) (fun s4=>fS N l v s4) (fun x=>rfl) l.length 0 N (by omega) (by omega) with ⟨k,a1,a2,a3⟩ | ⟨a1,a2⟩
 ·have a1':aX (fun s4=>fS N l v s4) N 0=some (.out k):=a1
  rw [a1']
  show some (decide (0≤k))=_
  rw [decide_eq_true a2]
  rw [List.drop_zero,List.any_eq_true] at a3
  obtain ⟨x,hx,e⟩:=a3
  have:l.contains v=true:=by
   rw [List.contains_iff_mem,eq_of_beq e]
   exact hx
  rw [this]
 ·have a1':aX (fun s4=>fS N l v s4) N 0=some (.go (l.length:Int)):=a1
  rw [a1']
  rw [List.drop_zero,List.any_eq_false] at a2
  have:l.contains v=false:=by
   rw [Bool.eq_false_iff]
   intro hc
   rw [List.contains_iff_mem] at hc
   exact a2 v hc (by simp)
  rw [this]
  rfl
theorem aRf {N:Nat} {l:List aR} (hl:l.length < N) (hl':l.length≤1000) (h:∀ t ∈ l,iT t=true):mO N l=some true:=by
 have:=aCt (N:=N) (l:=l) (f:=jK) (ok:=iT) (fun x=>rfl) hl (by omega) (fun s4=>fX N l s4) (fun x=>rfl)
 have e:l.all iT=true:=List.all_eq_true.2 h
 rw [e] at this
 exact this
theorem aRo {N:Nat} {l:List aR} {n:Int} (hl:l.length < N) (hl':l.length≤1000) (h:∀ t ∈ l,mM t n=true):kN N l n=some true:=by
 have:=aCt (N:=N) (l:=l) (f:=fun x=>iB x n) (ok:=fun x=>mM x n) (fun x=>rfl) hl (by omega) (fun s4=>fG N l n s4) (fun x=>rfl)
 have e:l.all (fun x=>mM x n)=true:=List.all_eq_true.2 h
 rw [e] at this
 exact this
theorem aQw {N:Nat} {l:List Int} (hl:l.length < N) (hl':l.length≤1000) (h:∀ t ∈ l,lF t=true):pE N l=some true:=by
 have:=aCt (N:=N) (l:=l) (f:=nO) (ok:=lF) (fun x=>rfl) hl (by omega) (fun s4=>kR N l s4) (fun x=>rfl)
 have e:l.all lF=true:=List.all_eq_true.2 h
 rw [e] at this
 exact this
theorem aB9 {y:Int→(Int × Int)→Option (Rs Int)} (hy:∀ z p,y z p=some (.go (W (z + 1)))):∀ (l:List Int) (a z:Int),0≤z→z + (l.length:Int)≤1000→aAd (rY y) l a (.go z)=some (.go (z + (l.length:Int)))
 | [],a,z,_,_=>by simp [aAd]
 | p::l,a,z,h0,h1=>by
  rw [List.length_cons] at h1
  push_cast at h1
  have hstep:rY y (.go z) (a,p)=some (.go (W (z + 1)),true):=by
   show Option.map _ (y z (a,p))=_
   rw [hy]
   rfl
  conv=>lhs; unfold aAd
  rw [hstep,Option.bind_some,cond_true]
  rw [iU (by omega) (by omega),aB9 hy l (a + 1) (z + 1) (by omega) (by omega),List.length_cons]
  push_cast
  rw [Int.add_assoc,Int.add_comm 1]
theorem aM9 {N:Nat} (hN:60≤N) {r:aH} (h:pO r):uO N r=some 0:=by
 have hn:=h.n
 have hsl:=h.sl
 have hwl:=h.wl
 have hfl:=h.fl
 have htl:=h.tl
 have hy:=h.y
 have b8:=aEo (ρ:=Int) (fun i:Nat=>(i:Int)) r.Down.length (fun s8=>oG N r s8) (fun i hi=>by
  have hd:=h.d i hi
  rw [← mB hi] at hd
  have hit:i < r.Travel.length:=by omega
  have ht:=h.t i hit
  rw [← mB hit] at ht
  unfold oG
  rw [gD hi,cond_true,cS hi,Option.bind_some,cS hit]
  have c1:((r.Down[i] != (-1)) && (!(bC r.Down[i] (W ((i:Int) + 1)) (W (((r.Down.length:Nat):Int) - 1)))))=false:=by
   rcases hd with e | ⟨e1,e2⟩
   ·rw [e]; rfl
   ·rw [aDl (by rw [iU (by omega) (by omega)]; omega) (by rw [iU (by omega) (by omega)]; omega)]
    simp
  have c2:lP r.Travel[i]=true:=by
   unfold lP
   rw [aDl (by omega) (by omega),aDl (by omega) (by omega)]
   rfl
  rw [c1,cond_false,Option.bind_some,c2,fF (by omega)]
  rfl) (by
  unfold oG
  rw [gC,cond_false]) (N:=N) (by omega)
 have b16:=aEo (ρ:=Int) (fun i:Nat=>(i:Int)) r.Floods.length (fun s16=>lO N r s16) (fun i hi=>by
  obtain ⟨f1,f2,f3⟩:=h.f _ (List.getElem_mem hi)
  have hs:=h.s _ f1
  have hpl:=(wU h.d r.Floods[i].Spring).2
  unfold lO
  rw [gD hi,cond_true,cS hi,Option.bind_some]
  unfold gW
  rw [Option.bind_some]
  dsimp only
  have em:max 0 r.Floods[i].Spring=r.Floods[i].Spring:=by have:=hs.1; omega
  rw [em]
  obtain ⟨z,hz⟩:=vW (N:=N) h.d hn.2 (x1:=⟨r.Down,r.Travel,r.Springs,r.Towns,⟨r.Delay.Lo,r.Delay.Hi⟩,r.Floods⟩) rfl (by omega) (.inr hs) (aB9 (y:=fun (zz:Int) (ix_:(Int × Int))=>oY N zz ix_.1 ix_.2) (fun _ _=>rfl) (pth r.Down r.Floods[i].Spring) 0 0 (by omega) (by omega))
  rw [hz,Option.bind_some]
  show Option.bind (bB N r.Springs r.Floods[i].Spring) _=_
  rw [aEy (by omega) (by omega),Option.bind_some,List.contains_iff_mem.2 f1]
  have e1:(((r.Floods[i].Stages.length:Nat):Int) != 0 + ((pth r.Down r.Floods[i].Spring).length:Int))=false:=by
   rw [f2]; simp
  rw [e1,aQw (by omega) (by omega) (fun t ht=>aDl (f3 t ht).1 (f3 t ht).2),fF (by omega)]
  rfl) (by
  unfold lO
  rw [gC,cond_false]) (N:=N) (by omega)
 have b8':aX (fun s8=>oG N r s8) N 0=some (.go (r.Down.length:Int)):=b8
 have b16':aX (fun s16=>lO N r s16) N 0=some (.go (r.Floods.length:Int)):=b16
 unfold uO
 have c0:(((((!(bC ((r.Down.length:Nat):Int) 1 12)) || (((r.Travel.length:Nat):Int) != ((r.Down.length:Nat):Int))) || (!(bC ((r.Springs.length:Nat):Int) 1 8))) || (decide (8 < ((r.Towns.length:Nat):Int)))) || (decide (20 < ((r.Floods.length:Nat):Int))))=false:=by
  rw [aDl (by omega) (by omega),aDl (by omega) (by omega),htl]
  simp
  omega
 rw [c0,cond_false,b8',Option.bind_some]
 show Option.bind (mS N r.Springs ((r.Down.length:Nat):Int)) _=_
 rw [aFn (by omega) (by omega) (by omega) (fun x hx=>h.s x hx) h.sa,Option.bind_some,aRf (by omega) (by omega) (fun t ht=>by
  have:=h.w t ht
  unfold iT lF
  rw [aDl (by omega) (by omega),aDl (by omega) (by omega)]
  rfl),aRo (by omega) (by omega) (fun t ht=>by
  have:=(h.w t ht).1
  unfold ok at this
  unfold mM
  exact aDl (by omega) (by rw [iU (by omega) (by omega)]; omega))]
 have c3:lP r.Delay=true:=by
  unfold lP
  rw [aDl (by omega) (by omega),aDl (by omega) (by omega)]
  rfl
 rw [c3]
 show Option.bind (aX (fun s16=>lO N r s16) N 0) _=_
 rw [b16']
 rfl
theorem opened_ok {N:Nat} (hN:60≤N) {r:aH} (h:pO r):nR N r=some (.inr (r.Delay.Lo,r.Delay.Hi,Fr r,0)):=by
 unfold nR
 rw [aM9 hN h]
 rfl
def wt (r:aH) (t:List aR):aH:=⟨r.Down,r.Travel,r.Springs,t,⟨r.Delay.Lo,r.Delay.Hi⟩,r.Floods⟩
theorem pO.wt {r:aH} (h:pO r) {t:List aR} (ht:∀ x ∈ t,x ∈ r.Towns) (hl:t.length≤8):pO (wt r t) :=
 ⟨h.n,h.d,h.tl,h.t,h.sl,h.s,h.sa,hl,fun x hx=>h.w x (ht x hx),h.y,h.fl,h.f⟩
theorem aJh {N:Nat} (hN:60≤N) {r:aH} (h:pO r):pJ N r=some (iP r,0):=by
 unfold pJ
 rw [opened_ok hN h,Option.bind_some]
 show Option.bind (eN N ⟨r,Fr r⟩) _=_
 rw [wW hN h]
 rfl
theorem aI6 {N:Nat} (hN:70≤N) {r:aH} (h:pO r) {d:aC} (hd:d ∈ iP r):pH N r d=some (gA r d,0):=by
 have hlen:(gA r d).length≤1000:=by
  have h1:=(wU h.d d.Spring).2
  have h2:(gA r d).length≤(pth r.Down d.Spring).length:=List.length_filter_le _ _
  have:=h.n
  omega
 unfold pH
 rw [opened_ok (by omega) h,Option.bind_some]
 show Option.bind (lY N ⟨r,Fr r⟩ d) _=_
 rw [is_ok hN h hd,Option.bind_some]
 show Option.bind (bN N ⟨r,Fr r⟩ d) _=_
 rw [tY (by omega) h (zM h hd),Option.bind_some]
 unfold lR
 rw [kF (by omega)]
 rfl
end Go.Nilo.Wa
namespace Go.Nilo.Wa
theorem dT {p:Prop} [Decidable p] (h:p):decide p=true:=decide_eq_true h
theorem dF {p:Prop} [Decidable p] (h:¬p):decide p=false:=decide_eq_false h
theorem exK_at {σ ρ τ:Type} (s:σ) (f:σ→Option τ) (g:ρ→Option τ):exK (Ex.go s) f g=f s:=rfl
theorem oL {σ ρ:Type} {f:σ→Option (bY σ ρ)} (Inv Post:σ→Prop) (μ:σ→Nat) (h:∀ s,Inv s→(∃ s',f s=some (.brk s')∧Post s') ∨ (∃ s',f s=some (.cont s')∧Inv s'∧μ s' < μ s)):∀ (N:Nat) (s:σ),Inv s→μ s < N→∃ s',aX f N s=some (.go s')∧Post s'
 | 0,s,_,hN=>by omega
 | N + 1,s,hs,hN=>by
  unfold aX
  rcases h s hs with ⟨s',h1,h2⟩ | ⟨s',h1,h2,h3⟩
  ·exact ⟨s',by rw [h1],h2⟩
  ·obtain ⟨s'',h4,h5⟩:=oL Inv Post μ h N s' h2 (by omega)
   exact ⟨s'',by rw [h1]; exact h4,h5⟩
theorem aOk {N:Nat} (hN:200≤N) {r:aH} (h:pO r) {x:List aR} (hx:∀ t ∈ x,t ∈ r.Towns) (hxl:x.length≤8) :
  ∃ s,aX (fun s16=>lM N r.Down r.Travel r.Springs r.Delay.Lo r.Delay.Hi r.Floods (iP (wt r x),0) s16.1 s16.2.1 s16.2.2) N (false,0,x)=some (.go s) ∧
   ((s.1=false∧s.2.2=x∧∀ d ∈ iP (wt r x),gA (wt r x) d ≠ []) ∨ (s.1=true∧s.2.2.length + 1=x.length∧∀ t ∈ s.2.2,t ∈ x)):=by
 have hw:pO (wt r x):=h.wt hx hxl
 have hl:=aBu hw
 refine oL (fun s=>(s.1=false∧s.2.2=x∧∃ i:Nat,s.2.1=(i:Int)∧i≤(iP (wt r x)).length∧∀ j (hj:j < (iP (wt r x)).length),j < i→gA (wt r x) (iP (wt r x))[j] ≠ []) ∨ (s.1=true∧s.2.2.length + 1=x.length∧(∀ t ∈ s.2.2,t ∈ x)∧0≤s.2.1∧s.2.1≤100)) _ (fun s=>(cond s.1 0 (100 - s.2.1.toNat))) ?_ N _ (.inl ⟨rfl,rfl,0,rfl,Nat.zero_le _,fun j _ hj=>absurd hj (Nat.not_lt_zero _)⟩) (by show (100 - 0) < N + 0; omega)
 rintro ⟨ag,i',x'⟩ hs
 dsimp only at hs ⊢
 rcases hs with ⟨rfl,rfl,i,rfl,hi,hj⟩ | ⟨rfl,h2,h3,h4,h5⟩
 ·by_cases hlt:i < (iP (wt r x')).length
  ·have hmem:=List.getElem_mem hlt
   have hd:=zM hw hmem
   obtain ⟨-,hd0,hd1⟩:=hd
   have hd1':(iP (wt r x'))[i].Town < (x'.length:Int):=hd1
   have hst:=aI6 (N:=N) (by omega) hw hmem
   have hst':pH N (⟨r.Down,r.Travel,r.Springs,x',(⟨r.Delay.Lo,r.Delay.Hi⟩:aN),r.Floods⟩:aH) (iP (wt r x'))[i]=some (gA (wt r x') (iP (wt r x'))[i],0):=hst
   right
   by_cases he:gA (wt r x') (iP (wt r x'))[i]=[]
   ·obtain ⟨t,ht⟩:∃ t:Nat,(iP (wt r x'))[i].Town=(t:Int):=⟨(iP (wt r x'))[i].Town.toNat,by omega⟩
    have htl:t < x'.length:=by omega
    have s1:rH x' 0 (iP (wt r x'))[i].Town=some (x'.take t):=by
     unfold rH
     rw [if_pos (by omega),ht]
     simp
    have s2:rH x' (W ((iP (wt r x'))[i].Town + 1)) ((x'.length:Nat):Int)=some (x'.drop (t + 1)):=by
     rw [iU (by omega) (by omega),ht]
     unfold rH
     rw [if_pos (by omega)]
     have e:((t:Int) + 1).toNat=t + 1:=by omega
     rw [e]
     congr 1
     apply List.take_of_length_le
     rw [List.length_drop]
     omega
    refine ⟨(true,((i + 1:Nat):Int),x'.take t++x'.drop (t + 1)),?_,.inr ⟨rfl,?_,?_,by dsimp only; omega,by dsimp only; omega⟩,?_⟩
    ·unfold lM
     dsimp only
     rw [gD hlt]
     show (Option.bind (bE (iP (wt r x')) ((i:Nat):Int)) _)=_
     rw [cS hlt,Option.bind_some,hst',Option.bind_some]
     dsimp only
     have c0:((0:Int) != 0)=false:=rfl
     rw [c0,cond_false,Option.bind_some,Option.bind_some,dF (show ¬ (iP (wt r x'))[i].Town < 0 by omega),cond_false,Option.bind_some,Option.bind_some,dF (show ¬ (x'.length:Int)≤(iP (wt r x'))[i].Town by omega),cond_false,he]
     have c2:((([]:List Int).length:Int) == 0)=true:=rfl
     rw [c2,cond_true,Option.bind_some,s1,Option.bind_some]
     unfold nZ
     rw [kF (by rw [List.length_take]; omega),Option.bind_some,Option.bind_some,Option.bind_some,s2,Option.bind_some,kF (by rw [List.length_append,List.length_take,List.length_drop]; omega),Option.bind_some]
     unfold nN
     rw [fF (by omega)]
    ·dsimp only
     rw [List.length_append,List.length_take,List.length_drop]
     omega
    ·intro q hq
     rcases List.mem_append.1 hq with hq | hq
     ·exact List.mem_of_mem_take hq
     ·exact List.mem_of_mem_drop hq
    ·show 0 < 100 - ((i:Nat):Int).toNat
     omega
   ·refine ⟨(false,((i + 1:Nat):Int),x'),?_,.inl ⟨rfl,rfl,i + 1,rfl,by omega,?_⟩,?_⟩
    ·unfold lM
     dsimp only
     rw [gD hlt]
     show (Option.bind (bE (iP (wt r x')) ((i:Nat):Int)) _)=_
     rw [cS hlt,Option.bind_some,hst',Option.bind_some]
     dsimp only
     have c0:((0:Int) != 0)=false:=rfl
     have c1:(((gA (wt r x') (iP (wt r x'))[i]).length:Int) == 0)=false:=by
      rw [beq_eq_false_iff_ne]
      intro hz
      exact he (List.eq_nil_of_length_eq_zero (by omega))
     rw [c0,cond_false,Option.bind_some,Option.bind_some,dF (show ¬ (iP (wt r x'))[i].Town < 0 by omega),cond_false,Option.bind_some,Option.bind_some,dF (show ¬ (x'.length:Int)≤(iP (wt r x'))[i].Town by omega),cond_false,c1,cond_false]
     unfold nN
     rw [fF (by omega)]
    ·intro j hj' hji
     by_cases e:j=i
     ·subst e; exact he
     ·exact hj j hj' (by omega)
    ·show 100 - ((i + 1:Nat):Int).toNat < 100 - ((i:Nat):Int).toNat
     omega
  ·left
   have e:i=(iP (wt r x')).length:=by omega
   subst e
   refine ⟨(false,((iP (wt r x')).length:Int),x'),?_,.inl ⟨rfl,rfl,?_⟩⟩
   ·unfold lM
    dsimp only
    rw [gC]
    rfl
   ·intro d hd
    obtain ⟨j,hj',rfl⟩:=List.getElem_of_mem hd
    exact hj j hj' hj'
 ·left
  refine ⟨(true,i',x'),?_,.inr ⟨rfl,h2,h3⟩⟩
  unfold lM
  dsimp only
  rw [Bool.not_true,Bool.and_false,cond_false]
theorem aOs {N:Nat} (hN:200≤N) {r:aH} (h:pO r) :
  ∃ T,uB N r.Down r.Travel r.Springs r.Towns r.Delay.Lo r.Delay.Hi r.Floods=some (T,r.Delay.Lo,r.Delay.Hi,true)∧pO (wt r T)∧∀ d ∈ iP (wt r T),gA (wt r T) d ≠ []:=by
 obtain ⟨s,h1,h2,h3,h4⟩:=oL (f:=fun s4:Bool × List aR=>sE N r.Down r.Travel r.Springs r.Delay.Lo r.Delay.Hi r.Floods s4.1 s4.2) (fun s=>(∀ t ∈ s.2,t ∈ r.Towns)∧s.2.length≤8∧(s.1=false→∀ d ∈ iP (wt r s.2),gA (wt r s.2) d ≠ []))
  (fun s=>(∀ t ∈ s.2,t ∈ r.Towns)∧s.2.length≤8∧(∀ d ∈ iP (wt r s.2),gA (wt r s.2) d ≠ [])) (fun s=>2 * s.2.length + cond s.1 1 0) (by
   rintro ⟨ag,x⟩ ⟨a1,a2,a3⟩
   dsimp only at a1 a2 a3
   cases ag with
   | false=>
    left
    exact ⟨(false,x),rfl,a1,a2,a3 rfl⟩
   | true=>
    right
    have hw:pO (wt r x):=h.wt a1 a2
    have hd:pJ N (⟨r.Down,r.Travel,r.Springs,x,(⟨r.Delay.Lo,r.Delay.Hi⟩:aN),r.Floods⟩:aH)=some (iP (wt r x),0):=aJh (by omega) hw
    obtain ⟨s,b1,b2⟩:=aOk hN h a1 a2
    refine ⟨(s.1,s.2.2),?_,?_⟩
    ·unfold sE
     dsimp only
     rw [cond_true,hd,Option.bind_some]
     show Option.bind (aX _ N (false,0,x)) _=_
     rw [b1]
     rfl
    ·dsimp only
     rcases b2 with ⟨c1,c2,c3⟩ | ⟨c1,c2,c3⟩
     ·rw [c1,c2]
      exact ⟨⟨a1,a2,fun _=>c3⟩,by simp⟩
     ·rw [c1]
      refine ⟨⟨fun t ht=>a1 t (c3 t ht),by omega,fun hc=>by cases hc⟩,?_⟩
      rw [cond_true]
      omega) N (true,r.Towns) ⟨fun t ht=>ht,h.wl,fun hc=>by cases hc⟩ (by have:=h.wl; show 2 * r.Towns.length + 1 < N; omega)
 refine ⟨s.2,?_,h.wt h2 h3,h4⟩
 unfold uB
 rw [h1]
 rfl
end Go.Nilo.Wa
