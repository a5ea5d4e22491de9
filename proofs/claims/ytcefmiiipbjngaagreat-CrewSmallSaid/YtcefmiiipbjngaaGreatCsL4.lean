/-
  What the plain functions compute, in plain arithmetic, part 4. Conditions: what each theorem names.
-/
import Derived.Test.YtcefmiiipbjngaaGreatCsL3
set_option linter.unusedSimpArgs false
set_option linter.unusedVariables false
namespace Go.Nilo.Ca
theorem inB_iff {n a b:Int}:inB n a b=true ↔ a≤n∧n≤b:=by simp [inB]
structure RB (B:Int) (r:aC):Prop where
 f0:0≤r.From
 f1:r.From≤B
 l0:1≤r.Long
 l1:r.Long≤100000
 w0:0≤r.Weight.Lo
 w1:r.Weight.Lo≤r.Weight.Hi
 w2:r.Weight.Hi≤1000
theorem aL8 {r:aC}:cT r=true ↔ RB 100000 r:=by
 simp only [cT,dG,aR,Bool.and_eq_true,decide_eq_true_eq]
 constructor
 ·rintro ⟨⟨⟨⟨a1,a2⟩,a3,a4⟩,b1,b2⟩,b3⟩
  exact ⟨a1,a2,a3,a4,b1,b2,b3⟩
 ·rintro ⟨a1,a2,a3,a4,b1,b2,b3⟩
  exact ⟨⟨⟨⟨a1,a2⟩,a3,a4⟩,b1,b2⟩,b3⟩
def aJg (c:aJ):Bool:=inB c.Car 0 1000 && inB c.Wide 1 1000 && inB c.Sag 1 10000 && inB c.Most 0 10000000
structure aA2 (c:aJ):Prop where
 c0:0≤c.Car
 c1:c.Car≤1000
 w0:1≤c.Wide
 w1:c.Wide≤1000
 s0:1≤c.Sag
 s1:c.Sag≤10000
 m0:0≤c.Most
 m1:c.Most≤10000000
theorem aPv {c:aJ}:aJg c=true ↔ aA2 c:=by
 unfold aJg
 simp only [Bool.and_eq_true,inB_iff]
 constructor
 ·rintro ⟨⟨⟨⟨a1,a2⟩,a3,a4⟩,b1,b2⟩,b3,b4⟩
  exact ⟨a1,a2,a3,a4,b1,b2,b3,b4⟩
 ·rintro ⟨a1,a2,a3,a4,b1,b2,b3,b4⟩
  exact ⟨⟨⟨⟨a1,a2⟩,a3,a4⟩,b1,b2⟩,b3,b4⟩
def jA (c:aJ):Int:=if c.Rides.length≤30 then (if (aJg c && c.Rides.all cT)=true then 0 else 120) else 3
theorem aA3 {N:Nat} {c:aJ} (hl:c.Rides.length≤1000) (hN:c.Rides.length < N):fF N c=some (jA c):=by
 unfold fF jA
 have c3:oO N c.Rides=some (c.Rides.all cT):=by
  unfold oO fP gK
  exact rU (f:=mR) (ok:=cT) (λx=>rfl) hN (by omega) _ (λx=>rfl)
 by_cases h:c.Rides.length≤30
 ·rw [if_pos h,show decide (30 < ((c.Rides.length:Nat):Int))=false by rw [decide_eq_false_iff_not]; omega,cond_false,c3]
  have e:((((!(aR c.Car 0 1000)) || (!(aR c.Wide 1 1000))) || (!(aR c.Sag 1 10000))) || (!(aR c.Most 0 10000000))) = !aJg c:=by
   show ((((!(inB c.Car 0 1000)) || (!(inB c.Wide 1 1000))) || (!(inB c.Sag 1 10000))) || (!(inB c.Most 0 10000000)))=_
   unfold aJg
   cases inB c.Car 0 1000 <;> cases inB c.Wide 1 1000 <;> cases inB c.Sag 1 10000 <;> cases inB c.Most 0 10000000 <;> rfl
  rw [e]
  cases aJg c <;> cases c.Rides.all cT <;> rfl
 ·rw [if_neg h,show decide (30 < ((c.Rides.length:Nat):Int))=true by rw [decide_eq_true_eq]; omega,cond_true]
theorem xD {c:aJ} (h:jA c=0):c.Rides.length≤30∧aA2 c∧∀ r ∈ c.Rides,RB 100000 r:=by
 unfold jA at h
 split at h
 ·rename_i h1
  split at h
  ·rename_i h2
   rw [Bool.and_eq_true] at h2
   exact ⟨h1,aPv.1 h2.1,λr hr=>aL8.1 (List.all_eq_true.1 h2.2 r hr)⟩
  ·omega
 ·omega
def onR (r:aC) (n:Int):Bool:=decide (r.From≤n) && decide (n < r.From + r.Long)
theorem aJ2 {r:aC} {n:Int}:onR r n=true ↔ r.From≤n∧n < r.From + r.Long:=by simp [onR]
theorem aNq {r:aC} {B n:Int} (hr:RB B r) (hB:B≤10000000) (h0:0≤n) (h1:n≤20000000):hY r n=onR r n:=by
 have a:=hr.f0
 have b:=hr.f1
 unfold hY onR
 rw [fB (by omega) (by omega)]
 congr 1
 rw [decide_eq_decide]
 omega
structure SelOk (f:aE→Int):Prop where
 bd:∀ s:aE,s.Lo≤s.Hi→s.Lo≤f s∧f s≤s.Hi
theorem sel_lo:SelOk aE.Lo:=⟨λs h=>⟨Int.le_refl _,h⟩⟩
theorem sel_hi:SelOk aE.Hi:=⟨λs h=>⟨h,Int.le_refl _⟩⟩
def ldF (f:aE→Int) (l:List aC) (n:Int):Int:=cI (λr=>if onR r n then f r.Weight else 0) l
theorem aM4 (f:aE→Int) (r:aC) (l:List aC) (n:Int):ldF f (r::l) n=(if onR r n then f r.Weight else 0) + ldF f l n:=by simp [ldF,cI]
theorem aH9 {f:aE→Int} (hf:SelOk f) {B n:Int}:∀ {l:List aC},(∀ r ∈ l,RB B r)→0≤ldF f l n∧ldF f l n≤1000 * (l.length:Int)
 | [],_=>by simp [ldF,cI]
 | r::l,hl=>by
  have h1:=aH9 hf (l:=l) (n:=n) λx hx=>hl x (List.mem_cons_of_mem _ hx)
  have hr:=hl r List.mem_cons_self
  have h2:=hf.bd r.Weight hr.w1
  have a:=hr.w0
  have b:=hr.w2
  rw [aM4,List.length_cons]
  push_cast
  split <;> omega
theorem aNx (f:aE→Int) (r:aC) (l:List aC) (n:Int):ldF f (l++[r]) n=ldF f l n + (if onR r n then f r.Weight else 0):=aL4 _ l r
theorem aHd {α:Type} (p:α→Bool) (g:α→Int):∀ l:List α,cI (λn=>n) ((l.filter p).map g)=cI (λr=>if p r then g r else 0) l
 | []=>rfl
 | a::l=>by
  have e:cI (λr=>if p r then g r else 0) (a::l)=(if p a then g a else 0) + cI (λr=>if p r then g r else 0) l:=by simp [cI]
  rw [e,List.filter_cons,← aHd p g l]
  by_cases h:p a=true
  ·rw [if_pos h,if_pos h]; simp [cI]
  ·rw [if_neg h,if_neg h]; simp
theorem aTc {N:Nat} {l:List Int} (hl:∀ x ∈ l,0≤x∧x≤1000000) (hn:l.length≤1000) (hN:l.length < N):aAp N l=some (cI (λn=>n) l):=by
 unfold aAp
 have hpre:∀ i,i≤l.length→0≤cI (λn=>n) (l.take i)∧cI (λn=>n) (l.take i)≤1000000 * (i:Int):=λi=>by
  induction i with
  | zero=>intro _; simp [cI]
  | succ i ih=>
   intro hi
   have:=ih (by omega)
   have hx:=hl l[i] (List.getElem_mem _)
   rw [yZ _ _ _ (by omega)]
   push_cast
   omega
 have hrun:=rK (ρ:=Int) (λi:Nat=>(cI (λn=>n) (l.take i),(i:Int))) l.length (λs5=>uR N l s5.1 s5.2) (λi hi=>by
  have a:=hpre i (by omega)
  have b:=hpre (i + 1) (by omega)
  show uR N l (cI (λn=>n) (l.take i)) (i:Int)=_
  unfold uR
  rw [yZ _ _ _ hi] at b
  rw [bW hi,cond_true,bF hi,Option.bind_some,bP (by omega),fB (by omega) (by push_cast at b; omega)]
  simp only [yZ _ _ _ hi]) (by
  show uR N l _ _=_
  unfold uR
  rw [bU,cond_false]) hN
 have e0:((0:Int),(0:Int))=(cI (λn=>n) (l.take 0),((0:Nat):Int)):=by simp [cI]
 rw [e0,hrun,Option.bind_some]
 show some (cI (λn=>n) (l.take l.length))=_
 rw [List.take_length]
theorem aKx {f:aE→Int} (hf:SelOk f) {c:aJ} {B n:Int} (hB:B≤10000000) (hl:∀ r ∈ c.Rides,RB B r) (hn:c.Rides.length≤31) (hc:0≤c.Car∧c.Car≤1000) (h0:0≤n) (h1:n≤20000000) (b:List Int × Int→Option (bC (List Int × Int) Int))
  (hb:∀ l x,b (l,x)=cond (decide (x < ((c.Rides.length:Nat):Int))) (Option.bind (aQ c.Rides x) λe_1=>cond (hY e_1 n) (Option.bind (room ((l++[f e_1.Weight])).length) λ_=>some (.cont (l++[f e_1.Weight],W (x + 1)))) (some (.cont (l,W (x + 1))))) (some (.brk (l,x)))) {N:Nat} (hN:40≤N) :
  (Option.bind (aS b N ([c.Car],0)) λx5=>exK x5 (λs5=>Option.bind (aAp N s5.1) λr=>some r) some)=some (c.Car + ldF f c.Rides n):=by
 have hlen:∀ i,(c.Car::(((c.Rides.take i).filter (λr=>onR r n)).map λr=>f r.Weight)).length≤32:=λi=>by
  have h:=List.length_filter_le (λr=>onR r n) (c.Rides.take i)
  rw [List.length_take] at h
  rw [List.length_cons,List.length_map]
  omega
 have hrun:=rK (ρ:=Int) (λi:Nat=>(c.Car::(((c.Rides.take i).filter (λr=>onR r n)).map λr=>f r.Weight),(i:Int))) c.Rides.length b (λi hi=>by
  have hr:=hl c.Rides[i] (List.getElem_mem _)
  have hL:=hlen i
  rw [hb,bW hi,cond_true,bF hi,Option.bind_some,bP (by omega),aNq hr hB h0 h1,List.take_succ_eq_append_getElem hi,List.filter_append,List.map_append]
  by_cases h:onR c.Rides[i] n=true
  ·rw [h,cond_true,fQ (by rw [List.length_append]; simp only [List.length_cons,List.length_nil] at hL ⊢; omega),Option.bind_some,List.filter_cons,if_pos h]
   rfl
  ·rw [show onR c.Rides[i] n=false by simpa using h,cond_false,List.filter_cons,if_neg h]
   simp) (by rw [hb,bU,cond_false]) (N:=N) (by omega)
 have e0:(([c.Car]:List Int),(0:Int))=(c.Car::(((c.Rides.take 0).filter (λr=>onR r n)).map λr=>f r.Weight),((0:Nat):Int)):=rfl
 rw [e0,hrun,Option.bind_some]
 have hL:=hlen c.Rides.length
 rw [List.take_length] at hL
 simp only [exK,List.take_length]
 rw [aTc (λx hx=>by
  rcases List.mem_cons.1 hx with rfl | hx
  ·omega
  ·obtain ⟨r,hr,rfl⟩:=List.mem_map.1 hx
   have hr':=hl r (List.mem_filter.1 hr).1
   have h2:=hf.bd r.Weight hr'.w1
   have a:=hr'.w0
   have b:=hr'.w2
   omega) (by omega) (by omega),Option.bind_some]
 have e:∀ (a:Int) (l:List Int),cI (λn=>n) (a::l)=a + cI (λn=>n) l:=λa l=>by simp [cI]
 rw [e,aHd]
 rfl
theorem aKu {N:Nat} (hN:40≤N) {c:aJ} {B n:Int} (hB:B≤10000000) (hl:∀ r ∈ c.Rides,RB B r) (hn:c.Rides.length≤31) (hc:0≤c.Car∧c.Car≤1000) (h0:0≤n) (h1:n≤20000000):oC N c n=some (c.Car + ldF aE.Lo c.Rides n):=by
 unfold oC
 exact aKx sel_lo hB hl hn hc h0 h1 _ (λl x=>rfl) hN
theorem aIa {N:Nat} (hN:40≤N) {c:aJ} {B n:Int} (hB:B≤10000000) (hl:∀ r ∈ c.Rides,RB B r) (hn:c.Rides.length≤31) (hc:0≤c.Car∧c.Car≤1000) (h0:0≤n) (h1:n≤20000000):fC N c n=some (c.Car + ldF aE.Hi c.Rides n):=by
 unfold fC
 exact aKx sel_hi hB hl hn hc h0 h1 _ (λl x=>rfl) hN
def bey (c:aJ) (x:Int):Bool:=decide (c.Most * c.Sag < x * c.Wide * 25)
theorem aPn {c:aJ} (h:aA2 c) {x:Int} (h0:0≤x) (h1:x≤100000):(0≤c.Most * c.Sag∧c.Most * c.Sag≤100000000000)∧(0≤x * c.Wide∧x * c.Wide≤100000000):=by
 obtain ⟨a1,a2,a3,a4,b1,b2,b3,b4⟩:=h
 have m1:=aCm (a:=c.Most) (b:=c.Sag) b3 (by omega) b4 b2
 have m2:=aCm (a:=x) (b:=c.Wide) h0 (by omega) h1 a4
 omega
theorem aAw {c:aJ} (h:aA2 c) {x:Int} (h0:0≤x) (h1:x≤100000):cC c x=bey c x:=by
 obtain ⟨m1,m2⟩:=aPn h h0 h1
 unfold cC bey
 rw [fB (n:=c.Most * c.Sag) (by omega) (by omega),fB (n:=x * c.Wide) (by omega) (by omega),fB (by omega) (by omega)]
theorem aQg {N:Nat} (hN:40≤N) {c:aJ} (h:jA c=0) {n:Int} (h0:0≤n) (h1:n≤200000):sX N c n=some (⟨c.Car + ldF aE.Lo c.Rides n,c.Car + ldF aE.Hi c.Rides n⟩,0):=by
 obtain ⟨hn,hc,hr⟩:=xD h
 unfold sX
 have hm:aR n 0 200000=true:=by simp only [aR,Bool.and_eq_true,decide_eq_true_eq]; omega
 rw [aA3 (by omega) (by omega),h,Option.bind_some,hm]
 simp only [bne_self_eq_false,cond_false,Bool.not_true]
 simp only [aKu hN (B:=100000) (by omega) hr (by omega) ⟨hc.c0,hc.c1⟩ h0 (by omega),aIa hN (B:=100000) (by omega) hr (by omega) ⟨hc.c0,hc.c1⟩ h0 (by omega),Option.bind_some]
end Go.Nilo.Ca
namespace Go.Nilo.Ca
def tC (p:Int→Bool) (l:List Int) (r:Int):Prop:=(r = -1∧∀ x ∈ l,p x=false) ∨ (r ∈ l∧p r=true∧∀ x ∈ l,p x=true→r≤x)
theorem tC.uniq {p:Int→Bool} {l:List Int} {a b:Int} (ha:tC p l a) (hb:tC p l b):a=b:=by
 rcases ha with ⟨rfl,ha⟩ | ⟨a1,a2,a3⟩ <;> rcases hb with ⟨rfl,hb⟩ | ⟨b1,b2,b3⟩
 ·rfl
 ·rw [ha _ b1] at b2; cases b2
 ·rw [hb _ a1] at a2; cases a2
 ·have:=a3 _ b1 b2
  have:=b3 _ a1 a2
  omega
theorem tC.congr {p q:Int→Bool} {l l':List Int} {r:Int} (h:tC p l r) (hl:∀ x,x ∈ l ↔ x ∈ l') (hp:∀ x ∈ l,p x=q x):tC q l' r:=by
 rcases h with ⟨h1,h2⟩ | ⟨h1,h2,h3⟩
 ·exact Or.inl ⟨h1,λx hx=>by rw [← hp x ((hl x).2 hx)]; exact h2 x ((hl x).2 hx)⟩
 ·exact Or.inr ⟨(hl r).1 h1,by rw [← hp r h1]; exact h2,λx hx hq=>h3 x ((hl x).2 hx) (by rw [hp x ((hl x).2 hx)]; exact hq)⟩
theorem aKo {zs:List Int} {x:Int}:x ∈ Lib.compact zs ↔ x ∈ zs:=by
 unfold Lib.compact Lib.compactUpTo
 constructor
 ·intro h
  obtain ⟨i,hi,rfl⟩:=List.mem_map.1 h
  have hi':i < zs.length:=List.mem_range.1 (List.mem_filter.1 hi).1
  simp [getElem!_pos,hi']
 ·intro h
  obtain ⟨i,hi,rfl⟩:=List.getElem_of_mem h
  have key:∀ k,∀ hk:k < zs.length,zs[k] ∈ ((List.range zs.length).filter (Lib.keeps zs.toArray)).map (zs.toArray[·]!):=by
   intro k
   induction k with
   | zero=>
    intro hk
    refine List.mem_map.2 ⟨0,List.mem_filter.2 ⟨List.mem_range.2 hk,by simp [Lib.keeps]⟩,?_⟩
    simp [getElem!_pos,hk]
   | succ k ih=>
    intro hk
    by_cases he:zs[k + 1]=zs[k]
    ·rw [he]; exact ih (by omega)
    ·refine List.mem_map.2 ⟨k + 1,List.mem_filter.2 ⟨List.mem_range.2 hk,?_⟩,?_⟩
     ·have h1:zs.toArray[k + 1]! = zs[k + 1]:=by simp [getElem!_pos,hk]
      have h2:zs.toArray[k + 1 - 1]! = zs[k]:=by simp [getElem!_pos,show k < zs.length by omega]
      simp [Lib.keeps,getElem!_pos,hk,show k < zs.length by omega,he]
     ·simp [getElem!_pos,hk]
  exact key i hi
theorem aIe {zs:List Int} (h:zs.Pairwise (λa b=>a≤b)):(Lib.compact zs).Pairwise (λa b=>a≤b):=by
 unfold Lib.compact Lib.compactUpTo
 rw [List.pairwise_map]
 have h1:((List.range zs.length).filter (Lib.keeps zs.toArray)).Pairwise (· < ·):=List.Pairwise.filter _ List.pairwise_lt_range
 refine List.Pairwise.imp_of_mem ?_ h1
 intro a b ha hb hab
 have ha':a < zs.length:=List.mem_range.1 (List.mem_filter.1 ha).1
 have hb':b < zs.length:=List.mem_range.1 (List.mem_filter.1 hb).1
 have:=List.pairwise_iff_getElem.1 h a b ha' hb' hab
 simpa [getElem!_pos,ha',hb'] using this
def iT (c:aJ):List Int:=Lib.compact ((0::c.Rides.map λr=>r.From).mergeSort λx y=>decide (x≤y))
theorem aDv {c:aJ} {x:Int}:x ∈ iT c ↔ x ∈ 0::c.Rides.map λr=>r.From:=by
 unfold iT
 rw [aKo,List.mem_mergeSort]
theorem aDk (c:aJ):(iT c).Pairwise (λa b=>a≤b):=by
 unfold iT
 refine aIe ?_
 have:=List.pairwise_mergeSort (le:=λx y:Int=>decide (x≤y)) (λa b c h1 h2=>by simp only [decide_eq_true_eq] at *; omega) (λa b=>by simp only [Bool.or_eq_true,decide_eq_true_eq]; omega) (0::c.Rides.map λr=>r.From)
 exact this.imp λh=>by simpa using h
theorem aMn (c:aJ):(iT c).length≤c.Rides.length + 1:=by
 unfold iT
 refine Nat.le_trans (Lib.compact_length_le _) ?_
 rw [List.length_mergeSort]
 simp
theorem aOj {N:Nat} {c:aJ} (hn:c.Rides.length≤1000) (hN:c.Rides.length < N):lW N c=some (iT c):=by
 unfold lW
 have hrun:=rK (ρ:=List Int) (λi:Nat=>(0::(c.Rides.take i).map λr=>r.From,(i:Int))) c.Rides.length (λs5=>gF N c s5.1 s5.2) (λi hi=>by
  show gF N c (0::(c.Rides.take i).map λr=>r.From) (i:Int)=_
  unfold gF
  rw [bW hi,cond_true,bF hi,Option.bind_some,bP (by omega),fQ (by simp; omega),List.take_succ_eq_append_getElem hi,List.map_append]
  rfl) (by
  show gF N c _ _=_
  unfold gF
  rw [bU,cond_false]) hN
 have e0:(([0]:List Int),(0:Int))=(0::(c.Rides.take 0).map λr=>r.From,((0:Nat):Int)):=rfl
 rw [e0,hrun,Option.bind_some]
 simp only [exK,List.take_length]
 unfold nQ lB lZ
 rw [fQ (by simp; omega),Option.bind_some,Option.bind_some]
 unfold aIq
 rw [if_pos (by simp; omega),Option.bind_some]
 rfl
theorem aG8 {p:Int→Bool} {l:List Int}:∀ m i,(eM (λj=>cond (p (l.getD j 0)) (some (j:Int)) none) i m=none∧∀ j,i≤j→j < i + m→p (l.getD j 0)=false) ∨ (∃ j:Nat,eM (λj=>cond (p (l.getD j 0)) (some (j:Int)) none) i m=some (j:Int)∧i≤j∧j < i + m∧p (l.getD j 0)=true∧∀ k,i≤k→k < j→p (l.getD k 0)=false)
 | 0,i=>Or.inl ⟨rfl,λj h1 h2=>by omega⟩
 | m + 1,i=>by
  unfold eM
  cases hp:p (l.getD i 0) with
  | true=>exact Or.inr ⟨i,rfl,Nat.le_refl _,by omega,hp,λk h1 h2=>by omega⟩
  | false=>
   rcases aG8 (p:=p) (l:=l) m (i + 1) with ⟨h1,h2⟩ | ⟨j,h1,h2,h3,h4,h5⟩
   ·refine Or.inl ⟨h1,λj hj hk=>?_⟩
    by_cases h:j=i
    ·subst h; exact hp
    ·exact h2 j (by omega) (by omega)
   ·refine Or.inr ⟨j,h1,by omega,by omega,h4,λk hk hj=>?_⟩
    by_cases h:k=i
    ·subst h; exact hp
    ·exact h5 k (by omega) hj
theorem aKg {p:Int→Bool} {l:List Int} (hs:l.Pairwise (λa b=>a≤b)) (hn:l.length≤1000) (b:Int→Option (bC Int Int)) (hb:∀ i (h:i < l.length),b (i:Int)=some (cond (p l[i]) (.ret (i:Int)) (.cont (W ((i:Int) + 1))))) (hend:b (l.length:Int)=some (.brk (l.length:Int))) {N:Nat} (hN:l.length < N) :
  ∃ r,(Option.bind (Option.bind (aS b N 0) λx4=>exK x4 (λ_=>some (-1)) some) λr=>cond (r == (-1)) (some (-1)) (Option.bind (aQ l r) λe_1=>some e_1))=some r∧tC p l r:=by
 have hrun:=tP (ρ:=Int) (λi:Nat=>(i:Int)) (λj=>cond (p (l.getD j 0)) (some (j:Int)) none) l.length b (λi hi=>by
  rw [hb i hi,bP (by omega),cP (d:=(0:Int)) hi]
  cases p (l.getD i 0) <;> rfl) hend l.length 0 N (by omega) hN
 rw [show ((0:Nat):Int)=0 from rfl] at hrun
 rw [hrun]
 rcases aG8 (p:=p) (l:=l) l.length 0 with ⟨h1,h2⟩ | ⟨j,h1,h2,h3,h4,h5⟩
 ·refine ⟨-1,by rw [h1]; rfl,Or.inl ⟨rfl,λx hx=>?_⟩⟩
  obtain ⟨j,hj,rfl⟩:=List.getElem_of_mem hx
  rw [cP (d:=(0:Int)) hj]
  exact h2 j (by omega) (by omega)
 ·have hj:j < l.length:=by omega
  have hne:((j:Int) == -1)=false:=by rw [beq_eq_false_iff_ne]; omega
  refine ⟨l[j],by rw [h1]; simp only [Option.bind_some,exK,hne,cond_false,bF hj],Or.inr ⟨List.getElem_mem _,by rw [cP (d:=(0:Int)) hj]; exact h4,λx hx hpx=>?_⟩⟩
  obtain ⟨k,hk,rfl⟩:=List.getElem_of_mem hx
  rcases Nat.lt_trichotomy k j with h | h | h
  ·rw [cP (d:=(0:Int)) hk,h5 k (by omega) h] at hpx; cases hpx
  ·subst h; exact Int.le_refl _
  ·exact List.pairwise_iff_getElem.1 hs j k hj hk h
theorem aL7 {N:Nat} (hN:40≤N) {c:aJ} {B:Int} (hB:0≤B∧B≤10000000) (hn:c.Rides.length≤30) (hc:aA2 c) (hr:∀ r ∈ c.Rides,RB B r) :
  (∃ r,wS N (iT c) c=some r∧tC (λn=>bey c (c.Car + ldF aE.Hi c.Rides n)) (0::c.Rides.map λr=>r.From) r)∧(∃ r,sY N (iT c) c=some r∧tC (λn=>bey c (c.Car + ldF aE.Lo c.Rides n)) (0::c.Rides.map λr=>r.From) r):=by
 have hx:∀ x ∈ iT c,0≤x∧x≤B:=λx hx=>by
  rcases List.mem_cons.1 (aDv.1 hx) with rfl | hx
  ·omega
  ·obtain ⟨r,hr',rfl⟩:=List.mem_map.1 hx
   exact ⟨(hr r hr').f0,(hr r hr').f1⟩
 have hbd (f:aE→Int) (hf:SelOk f) (n:Int):0≤c.Car + ldF f c.Rides n∧c.Car + ldF f c.Rides n≤100000:=by
  have:=aH9 hf (n:=n) hr
  have:=hc.c0
  have:=hc.c1
  omega
 have hsl:=aMn c
 constructor
 ·unfold wS mK
  obtain ⟨r,h1,h2⟩:=aKg (p:=λn=>bey c (c.Car + ldF aE.Hi c.Rides n)) (aDk c) (by omega) (λs4=>dL N (iT c) c s4) (λi hi=>by
   have hxi:=hx _ (List.getElem_mem hi)
   show dL N (iT c) c (i:Int)=_
   unfold dL
   rw [bW hi,cond_true,bF hi,Option.bind_some]
   have e:uA N (iT c)[i] c=some (bey c (c.Car + ldF aE.Hi c.Rides (iT c)[i])):=by
    unfold uA
    rw [show fC N ⟨c.Car,c.Wide,c.Sag,c.Most,c.Rides⟩ (iT c)[i]=some _ from aIa (c:=c) hN hB.2 hr (by omega) ⟨hc.c0,hc.c1⟩ hxi.1 (by omega),Option.bind_some]
    exact congrArg some (aAw hc (hbd _ sel_hi _).1 (hbd _ sel_hi _).2)
   rw [e,Option.bind_some]
   cases bey c (c.Car + ldF aE.Hi c.Rides (iT c)[i]) <;> rfl) (by
   show dL N (iT c) c _=_
   unfold dL
   rw [bU,cond_false]) (N:=N) (by omega)
  exact ⟨r,h1,h2.congr (λx=>aDv) λx _=>rfl⟩
 ·unfold sY mH
  obtain ⟨r,h1,h2⟩:=aKg (p:=λn=>bey c (c.Car + ldF aE.Lo c.Rides n)) (aDk c) (by omega) (λs4=>dK N (iT c) c s4) (λi hi=>by
   have hxi:=hx _ (List.getElem_mem hi)
   show dK N (iT c) c (i:Int)=_
   unfold dK
   rw [bW hi,cond_true,bF hi,Option.bind_some]
   have e:qX N (iT c)[i] c=some (bey c (c.Car + ldF aE.Lo c.Rides (iT c)[i])):=by
    unfold qX
    rw [show oC N ⟨c.Car,c.Wide,c.Sag,c.Most,c.Rides⟩ (iT c)[i]=some _ from aKu (c:=c) hN hB.2 hr (by omega) ⟨hc.c0,hc.c1⟩ hxi.1 (by omega),Option.bind_some]
    exact congrArg some (aAw hc (hbd _ sel_lo _).1 (hbd _ sel_lo _).2)
   rw [e,Option.bind_some]
   cases bey c (c.Car + ldF aE.Lo c.Rides (iT c)[i]) <;> rfl) (by
   show dK N (iT c) c _=_
   unfold dK
   rw [bU,cond_false]) (N:=N) (by omega)
  exact ⟨r,h1,h2.congr (λx=>aDv) λx _=>rfl⟩
theorem aLp {N:Nat} (hN:40≤N) {c:aJ} (h:jA c=0):∃ a b,oN N c=some (a,b,0)∧tC (λn=>bey c (c.Car + ldF aE.Hi c.Rides n)) (0::c.Rides.map λr=>r.From) a∧tC (λn=>bey c (c.Car + ldF aE.Lo c.Rides n)) (0::c.Rides.map λr=>r.From) b:=by
 obtain ⟨hn,hc,hr⟩:=xD h
 obtain ⟨⟨a,a1,a2⟩,⟨b,b1,b2⟩⟩:=aL7 hN (B:=100000) (by omega) hn hc hr
 refine ⟨a,b,?_,a2,b2⟩
 unfold oN
 rw [aA3 (by omega) (by omega),h,Option.bind_some]
 simp only [bne_self_eq_false,cond_false]
 rw [aOj (by omega) (by omega),Option.bind_some,a1,Option.bind_some,b1,Option.bind_some]
end Go.Nilo.Ca
namespace Go.Nilo.Ca
def aBk (p:Int→Bool):List Int→Int
 | []=>-1
 | x::l=>if p x=true then (if aBk p l = -1 ∨ x < aBk p l then x else aBk p l) else aBk p l
theorem aH8 {p:Int→Bool}:∀ {l:List Int},(∀ x ∈ l,0≤x)→tC p l (aBk p l)
 | [],_=>Or.inl ⟨rfl,λx hx=>by cases hx⟩
 | x::l,h=>by
  have hx:=h x List.mem_cons_self
  have hl:∀ y ∈ l,0≤y:=λy hy=>h y (List.mem_cons_of_mem _ hy)
  have ih:=aH8 (p:=p) hl
  unfold aBk
  by_cases hp:p x=true
  ·rw [if_pos hp]
   rcases ih with ⟨h1,h2⟩ | ⟨h1,h2,h3⟩
   ·rw [if_pos (Or.inl h1)]
    refine Or.inr ⟨List.mem_cons_self,hp,λy hy hq=>?_⟩
    rcases List.mem_cons.1 hy with rfl | hy
    ·exact Int.le_refl _
    ·rw [h2 y hy] at hq; cases hq
   ·have hm:=hl _ h1
    by_cases hlt:x < aBk p l
    ·rw [if_pos (Or.inr hlt)]
     refine Or.inr ⟨List.mem_cons_self,hp,λy hy hq=>?_⟩
     rcases List.mem_cons.1 hy with rfl | hy
     ·exact Int.le_refl _
     ·have:=h3 y hy hq; omega
    ·rw [if_neg (by omega)]
     refine Or.inr ⟨List.mem_cons_of_mem _ h1,h2,λy hy hq=>?_⟩
     rcases List.mem_cons.1 hy with rfl | hy
     ·omega
     ·exact h3 y hy hq
  ·rw [if_neg hp]
   have hp':p x=false:=by simpa using hp
   rcases ih with ⟨h1,h2⟩ | ⟨h1,h2,h3⟩
   ·refine Or.inl ⟨h1,λy hy=>?_⟩
    rcases List.mem_cons.1 hy with rfl | hy
    ·exact hp'
    ·exact h2 y hy
   ·refine Or.inr ⟨List.mem_cons_of_mem _ h1,h2,λy hy hq=>?_⟩
    rcases List.mem_cons.1 hy with rfl | hy
    ·rw [hp'] at hq; cases hq
    ·exact h3 y hy hq
def vS (c:aJ) (now:List aC) (w n:Int):Bool:=!bey c (c.Car + ldF aE.Hi now n + w)
def wW (now:List aC) (first:Int):List Int:=first::((now.map λr=>r.From + r.Long).filter λe=>decide (first≤e))
theorem rV {now:List aC} {first x:Int}:x ∈ wW now first ↔ x=first ∨ ((∃ r ∈ now,x=r.From + r.Long)∧first≤x):=by
 unfold wW
 rw [List.mem_cons,List.mem_filter,List.mem_map,decide_eq_true_eq]
 constructor
 ·rintro (h | ⟨⟨r,h1,h2⟩,h3⟩)
  ·exact Or.inl h
  ·exact Or.inr ⟨⟨r,h1,h2.symm⟩,h3⟩
 ·rintro (h | ⟨⟨r,h1,h2⟩,h3⟩)
  ·exact Or.inl h
  ·exact Or.inr ⟨⟨r,h1,h2.symm⟩,h3⟩
theorem loop_to {σ ρ:Type} {f:σ→Option (bC σ ρ)} (Inv Post:σ→Prop) (μ:σ→Nat) (h:∀ s,Inv s→(∃ s',f s=some (.brk s')∧Post s') ∨ (∃ s',f s=some (.cont s')∧Inv s'∧μ s' < μ s)):∀ (N:Nat) (s:σ),Inv s→μ s < N→∃ s',aS f N s=some (.go s')∧Post s'
 | 0,s,_,hN=>by omega
 | N + 1,s,hs,hN=>by
  unfold aS
  rcases h s hs with ⟨s',h1,h2⟩ | ⟨s',h1,h2,h3⟩
  ·exact ⟨s',by rw [h1],h2⟩
  ·obtain ⟨s'',h4,h5⟩:=loop_to Inv Post μ h N s' h2 (by omega)
   exact ⟨s'',by rw [h1]; exact h4,h5⟩
theorem cnt_le {α:Type} {p q:α→Bool}:∀ {l:List α},(∀ x ∈ l,q x=true→p x=true)→(l.filter q).length≤(l.filter p).length
 | [],_=>Nat.le_refl _
 | a::l,h=>by
  have ih:=cnt_le (p:=p) (q:=q) (l:=l) λx hx=>h x (List.mem_cons_of_mem _ hx)
  rw [List.filter_cons,List.filter_cons]
  by_cases hq:q a=true
  ·rw [if_pos hq,if_pos (h a List.mem_cons_self hq),List.length_cons,List.length_cons]; omega
  ·rw [if_neg hq]; split
   ·rw [List.length_cons]; omega
   ·exact ih
theorem aO3 {α:Type} {p q:α→Bool} {x:α}:∀ {l:List α},(∀ x ∈ l,q x=true→p x=true)→x ∈ l→p x=true→q x=false→(l.filter q).length < (l.filter p).length
 | a::l,h,hx,hp,hq=>by
  have hl:∀ x ∈ l,q x=true→p x=true:=λx hx=>h x (List.mem_cons_of_mem _ hx)
  rw [List.filter_cons,List.filter_cons]
  rcases List.mem_cons.1 hx with rfl | hx
  ·rw [if_pos hp,if_neg (by rw [hq]; exact Bool.false_ne_true),List.length_cons]
   have:=cnt_le (p:=p) (q:=q) hl
   omega
  ·have ih:=aO3 (x:=x) hl hx hp hq
   by_cases hqa:q a=true
   ·rw [if_pos hqa,if_pos (h a List.mem_cons_self hqa),List.length_cons,List.length_cons]; omega
   ·rw [if_neg hqa]; split
    ·rw [List.length_cons]; omega
    ·exact ih
theorem aMz {f:aE→Int} {n:Int}:∀ {l:List aC},(∀ r ∈ l,onR r n=false)→ldF f l n=0
 | [],_=>rfl
 | r::l,h=>by
  rw [aM4,h r List.mem_cons_self,aMz λx hx=>h x (List.mem_cons_of_mem _ hx)]
  rfl
theorem aR3 {N:Nat} {now:List aC} {B at_:Int} (hB:B≤10000000) (hr:∀ r ∈ now,RB B r) (hn:now.length≤30) (h0:0≤at_) (h1:at_≤20000000) (hN:40≤N) :
  ∃ nx:Int,aS (λs33=>nH N now at_ s33.1 s33.2) N ((-1),0)=some (.go (nx,(now.length:Int)))∧((nx = -1∧∀ r ∈ now,onR r at_=false) ∨ (∃ r ∈ now,onR r at_=true∧nx=r.From + r.Long∧∀ r' ∈ now,onR r' at_=true→nx≤r'.From + r'.Long)):=by
 obtain ⟨s,hs,hI⟩:=tY (ρ:=bC (Int × Int × (List aC)) (bC ((List Int) × Int × Int × (List aC)) ((List Int) × Int))) (λs33=>nH N now at_ s33.1 s33.2) (λi s=>s.2=(i:Int)∧((s.1 = -1∧∀ r ∈ now.take i,onR r at_=false) ∨ (∃ r ∈ now.take i,onR r at_=true∧s.1=r.From + r.Long∧∀ r' ∈ now.take i,onR r' at_=true→s.1≤r'.From + r'.Long))) now.length (λi s hi h=>by
  obtain ⟨nx,x⟩:=s
  obtain ⟨rfl,h⟩:=h
  have hri:=hr now[i] (List.getElem_mem _)
  have a1:=hri.f0
  have a2:=hri.f1
  have a3:=hri.l0
  have a4:=hri.l1
  show ∃ s',nH N now at_ nx (i:Int)=_∧_
  unfold nH sH
  rw [bW hi,cond_true,bF hi,Option.bind_some,bP (by omega),aNq hri hB h0 h1,fB (n:=now[i].From + now[i].Long) (by omega) (by omega),List.take_succ_eq_append_getElem hi]
  have hnn:nx = -1 ∨ nx ≠ -1:=by omega
  by_cases hon:onR now[i] at_=true
  ·rw [hon,Bool.true_and]
   by_cases hc:nx = -1 ∨ now[i].From + now[i].Long < nx
   ·have:(nx == -1 || decide (now[i].From + now[i].Long < nx))=true:=by rw [Bool.or_eq_true,beq_iff_eq,decide_eq_true_eq]; exact hc
    rw [this]
    refine ⟨_,rfl,rfl,Or.inr ⟨now[i],List.mem_append_right _ (List.mem_singleton.2 rfl),hon,rfl,λr' hr' ho=>?_⟩⟩
    rcases List.mem_append.1 hr' with h' | h'
    ·rcases h with ⟨g1,g2⟩ | ⟨r,g1,g2,g3,g4⟩
     ·rw [g2 r' h'] at ho; cases ho
     ·have g5:=g4 r' h' ho
      have hrm:=hr r (List.mem_of_mem_take g1)
      have:=hrm.f0
      have:=hrm.l0
      dsimp only at g3 g5 ⊢
      omega
    ·rw [List.mem_singleton.1 h']; exact Int.le_refl _
   ·have:(nx == -1 || decide (now[i].From + now[i].Long < nx))=false:=by rw [← Bool.not_eq_true,Bool.or_eq_true,beq_iff_eq,decide_eq_true_eq]; exact hc
    rw [this]
    refine ⟨_,rfl,rfl,?_⟩
    rcases h with ⟨g1,g2⟩ | ⟨r,g1,g2,g3,g4⟩
    ·exact absurd (Or.inl g1) hc
    ·refine Or.inr ⟨r,List.mem_append_left _ g1,g2,g3,λr' hr' ho=>?_⟩
     rcases List.mem_append.1 hr' with h' | h'
     ·exact g4 r' h' ho
     ·rw [List.mem_singleton.1 h']; dsimp only at g3 ⊢; omega
  ·have hon':onR now[i] at_=false:=by simpa using hon
   rw [hon',Bool.false_and]
   refine ⟨_,rfl,rfl,?_⟩
   rcases h with ⟨g1,g2⟩ | ⟨r,g1,g2,g3,g4⟩
   ·refine Or.inl ⟨g1,λr hr'=>?_⟩
    rcases List.mem_append.1 hr' with h' | h'
    ·exact g2 r h'
    ·rw [List.mem_singleton.1 h']; exact hon'
   ·refine Or.inr ⟨r,List.mem_append_left _ g1,g2,g3,λr' hr' ho=>?_⟩
    rcases List.mem_append.1 hr' with h' | h'
    ·exact g4 r' h' ho
    ·rw [List.mem_singleton.1 h',hon'] at ho; cases ho) (λs h=>by
  show nH N now at_ s.1 s.2=_
  unfold nH
  rw [h.1,bU,cond_false,← h.1]) now.length 0 ((-1),0) N (by omega) (by omega) ⟨rfl,Or.inl ⟨rfl,λr hr'=>by simp at hr'⟩⟩
 rw [List.take_length] at hI
 exact ⟨s.1,by rw [hs,← hI.1],hI.2⟩
theorem aPl {α:Type} (l:List α) (x y:α):(l++[x]).set l.length y=l++[y]:=by
 rw [List.set_append_right _ _ (Nat.le_refl _),Nat.sub_self]; rfl
structure QOk (now:List aC) (at_:Int):Prop where
 r:∀ r ∈ now,RB at_ r
 a0:0≤at_
set_option maxHeartbeats 1000000 in
theorem aRt {N:Nat} (hN:40≤N) {c:aJ} (hc:aA2 c) {now:List aC} {at_:Int} (hq:QOk now at_) (hn:now.length≤29) {e:aC} (he:RB 100000 e) (hA:at_≤5000000) (hw:bey c (c.Car + e.Weight.Hi)=false) :
  ∃ a,aS (λs25=>lF N c now e s25.1 s25.2.1 s25.2.2) N (max at_ e.From,max at_ e.From,now++[⟨max at_ e.From,e.Long,e.Weight⟩])=some (.go (a,a,now++[⟨a,e.Long,e.Weight⟩]))∧tC (vS c now e.Weight.Hi) (wW now (max at_ e.From)) a∧max at_ e.From≤a∧a≤max (at_ + 100000) 100000∧vS c now e.Weight.Hi a=true:=by
 obtain ⟨w0,w1,w2⟩:0≤e.Weight.Lo∧e.Weight.Lo≤e.Weight.Hi∧e.Weight.Hi≤1000:=⟨he.w0,he.w1,he.w2⟩
 obtain ⟨e0,e1,e2,e3⟩:0≤e.From∧e.From≤100000∧1≤e.Long∧e.Long≤100000:=⟨he.f0,he.f1,he.l0,he.l1⟩
 have ha0:=hq.a0
 have hcb:∀ x ∈ wW now (max at_ e.From),max at_ e.From≤x∧x≤max (at_ + 100000) 100000:=λx hx=>by
  rcases rV.1 hx with rfl | ⟨⟨r,h1,h2⟩,h3⟩
  ·omega
  ·have:=hq.r r h1
   have:=this.f1
   have:=(hq.r r h1).l1
   omega
 obtain ⟨s,hs,a,rfl,h1,h2⟩:=loop_to (ρ:=bC ((List Int) × Int × Int × (List aC)) ((List Int) × Int)) (f:=λs25=>lF N c now e s25.1 s25.2.1 s25.2.2)
  (λs=>∃ a,s=(a,a,now++[⟨a,e.Long,e.Weight⟩])∧a ∈ wW now (max at_ e.From)∧∀ x ∈ wW now (max at_ e.From),x < a→vS c now e.Weight.Hi x=false)
  (λs=>∃ a,s=(a,a,now++[⟨a,e.Long,e.Weight⟩])∧a ∈ wW now (max at_ e.From)∧vS c now e.Weight.Hi a=true∧∀ x ∈ wW now (max at_ e.From),x < a→vS c now e.Weight.Hi x=false)
  (λs=>(now.filter λr=>decide (s.1 < r.From + r.Long)).length) (λs h=>by
   obtain ⟨a,rfl,h1,h2⟩:=h
   have hab:=hcb a h1
   have hr':∀ r ∈ now++[(⟨a,e.Long,e.Weight⟩:aC)],RB 6000000 r:=λr hr=>by
    rcases List.mem_append.1 hr with hr | hr
    ·have:=hq.r r hr
     exact ⟨this.f0,by have:=this.f1; omega,this.l0,this.l1,this.w0,this.w1,this.w2⟩
    ·rw [List.mem_singleton.1 hr]; exact ⟨by dsimp only; omega,by dsimp only; omega,e2,e3,w0,w1,w2⟩
   have hon:onR (⟨a,e.Long,e.Weight⟩:aC) a=true:=aJ2.2 ⟨Int.le_refl _,by dsimp only; omega⟩
   have hlb:=aH9 sel_hi (n:=a) hq.r
   have hfull:xO N ⟨c.Car,c.Wide,c.Sag,c.Most,now++[⟨a,e.Long,e.Weight⟩]⟩ ⟨a,e.Long,e.Weight⟩=some (!vS c now e.Weight.Hi a):=by
    have hld:fC N ⟨c.Car,c.Wide,c.Sag,c.Most,now++[(⟨a,e.Long,e.Weight⟩:aC)]⟩ a=some (c.Car + ldF aE.Hi (now++[(⟨a,e.Long,e.Weight⟩:aC)]) a):=aIa (c:=⟨c.Car,c.Wide,c.Sag,c.Most,now++[(⟨a,e.Long,e.Weight⟩:aC)]⟩) hN (B:=6000000) (by omega) hr' (by simp; omega) ⟨hc.c0,hc.c1⟩ (by omega) (by omega)
    show (Option.bind (fC N ⟨c.Car,c.Wide,c.Sag,c.Most,now++[(⟨a,e.Long,e.Weight⟩:aC)]⟩ a) λr_0=>some (cC ⟨c.Car,c.Wide,c.Sag,c.Most,now++[(⟨a,e.Long,e.Weight⟩:aC)]⟩ r_0))=_
    rw [hld,Option.bind_some,aNx,if_pos hon,← Int.add_assoc]
    have hc':aA2 ⟨c.Car,c.Wide,c.Sag,c.Most,now++[⟨a,e.Long,e.Weight⟩]⟩:=⟨hc.c0,hc.c1,hc.w0,hc.w1,hc.s0,hc.s1,hc.m0,hc.m1⟩
    show some (cC _ (c.Car + ldF aE.Hi now a + e.Weight.Hi))=_
    rw [aAw hc' (by have:=hc.c0; omega) (by have:=hc.c1; omega)]
    unfold vS
    rw [Bool.not_not]
    rfl
   show (∃ s',lF N c now e a a (now++[⟨a,e.Long,e.Weight⟩])=_∧_) ∨ (∃ s',lF N c now e a a (now++[⟨a,e.Long,e.Weight⟩])=_∧_)
   unfold lF
   rw [hfull,Option.bind_some]
   cases hok:vS c now e.Weight.Hi a with
   | true=>exact Or.inl ⟨_,rfl,a,rfl,h1,hok,h2⟩
   | false=>
    right
    obtain ⟨nx,g1,g2⟩:=aR3 (N:=N) (at_:=a) (B:=at_) (by omega) hq.r (by omega) (by omega) (by omega) hN
    rcases g2 with ⟨-,g2⟩ | ⟨r,g2,g3,rfl,g4⟩
    ·exfalso
     unfold vS at hok
     rw [aMz g2,Int.add_zero,hw] at hok
     cases hok
    ·have hlen:W ((((now++[(⟨a,e.Long,e.Weight⟩:aC)]).length:Nat):Int) - 1)=((now.length:Nat):Int):=by
      rw [List.length_append,List.length_cons,List.length_nil,fB (by omega) (by omega)]; omega
     have hrr:=hq.r r g2
     have hor:=aJ2.1 g3
     have hrf:=hrr.f1
     have hcr:r.From + r.Long ∈ wW now (max at_ e.From):=rV.2 (Or.inr ⟨⟨r,g2,rfl⟩,by omega⟩)
     refine ⟨(r.From + r.Long,r.From + r.Long,now++[⟨r.From + r.Long,e.Long,e.Weight⟩]),?_,⟨_,rfl,hcr,λx hx hlt=>?_⟩,?_⟩
     ·rw [Bool.not_false,cond_true,g1,Option.bind_some]
      simp only [exK,hlen]
      rw [bF (by simp),Option.bind_some,Int.toNat_natCast,aPl]
     ·rcases Int.lt_trichotomy x a with h | h | h
      ·exact h2 x hx h
      ·rw [h]; exact hok
      ·rcases rV.1 hx with h' | ⟨⟨r',k1,k2⟩,k3⟩
       ·omega
       ·have hr1:=hq.r r' k1
        have hr2:=hr1.f1
        have:=g4 r' k1 (aJ2.2 ⟨by omega,by omega⟩)
        omega
     ·refine aO3 (x:=r) (λy hy hq'=>?_) g2 ?_ ?_
      ·rw [decide_eq_true_eq] at hq' ⊢
       dsimp only at hq' ⊢
       omega
      ·rw [decide_eq_true_eq]; dsimp only; omega
      ·rw [decide_eq_false_iff_not]; dsimp only; omega) N _ ⟨_,rfl,rV.2 (Or.inl rfl),λx hx hlt=>by have:=hcb x hx; omega⟩ (by
   have:=List.length_filter_le (λr:aC=>decide (max at_ e.From < r.From + r.Long)) now
   dsimp only
   omega)
 refine ⟨a,hs,Or.inr ⟨h1,h2.1,λx hx hp=>?_⟩,(hcb a h1).1,(hcb a h1).2,h2.1⟩
 rcases Int.lt_or_le x a with h | h
 ·rw [h2.2 x hx h] at hp; cases hp
 ·exact h
def aQ0 (c:aJ) (s:List Int × Int × List aC) (r:aC):List Int × Int × List aC :=
 (s.1++[aBk (vS c s.2.2 r.Weight.Hi) (wW s.2.2 (max s.2.1 r.From))],aBk (vS c s.2.2 r.Weight.Hi) (wW s.2.2 (max s.2.1 r.From)),s.2.2++[⟨aBk (vS c s.2.2 r.Weight.Hi) (wW s.2.2 (max s.2.1 r.From)),r.Long,r.Weight⟩])
def qst (c:aJ) (i:Nat):List Int × Int × List aC:=(c.Rides.take i).foldl (aQ0 c) ([],0,[])
theorem aKr {c:aJ} {i:Nat} (hi:i < c.Rides.length):qst c (i + 1)=aQ0 c (qst c i) c.Rides[i]:=by
 unfold qst
 rw [List.take_succ_eq_append_getElem hi,List.foldl_append]
 rfl
structure QInv (c:aJ) (i:Nat):Prop where
 q:QOk (qst c i).2.2 (qst c i).2.1
 l1:(qst c i).1.length=i
 l2:(qst c i).2.2.length=i
 b:(qst c i).2.1≤100000 * (i:Int)
 la:0 < i→(qst c i).1.getD (i - 1) 0=(qst c i).2.1
theorem aFw {now:List aC} {first:Int} (h:0≤first):∀ x ∈ wW now first,0≤x:=λx hx=>by
 rcases rV.1 hx with rfl | ⟨-,h2⟩ <;> omega
theorem aOk (c:aJ):QInv c 0:=⟨⟨λr hr=>(List.not_mem_nil hr).elim,Int.le_refl _⟩,rfl,rfl,Int.le_refl _,λh=>absurd h (by omega)⟩
structure aPb (c:aJ):Prop where
 len:c.Rides.length≤30
 ok:aA2 c
 r:∀ r ∈ c.Rides,RB 100000 r
 w:∀ r ∈ c.Rides,bey c (c.Car + r.Weight.Hi)=false
theorem aP8 {N:Nat} (hN:40≤N) {c:aJ} (h:aPb c) {i:Nat} (hi:i < c.Rides.length) (hq:QInv c i) :
  aS (λs25=>lF N c (qst c i).2.2 c.Rides[i] s25.1 s25.2.1 s25.2.2) N (max (qst c i).2.1 c.Rides[i].From,max (qst c i).2.1 c.Rides[i].From,(qst c i).2.2++[⟨max (qst c i).2.1 c.Rides[i].From,c.Rides[i].Long,c.Rides[i].Weight⟩])=some (.go ((qst c (i + 1)).2.1,(qst c (i + 1)).2.1,(qst c (i + 1)).2.2)) ∧
  (qst c (i + 1)).1=(qst c i).1++[(qst c (i + 1)).2.1]∧max (qst c i).2.1 c.Rides[i].From≤(qst c (i + 1)).2.1∧vS c (qst c i).2.2 c.Rides[i].Weight.Hi (qst c (i + 1)).2.1=true∧(qst c (i + 1)).2.2=(qst c i).2.2++[⟨(qst c (i + 1)).2.1,c.Rides[i].Long,c.Rides[i].Weight⟩]∧QInv c (i + 1):=by
 have hri:=h.r c.Rides[i] (List.getElem_mem _)
 have hq0:=hq.q.a0
 have hqb:=hq.b
 have hn:=h.len
 obtain ⟨a,a1,a2,a3,a4,a5⟩:=aRt hN h.ok hq.q (by rw [hq.l2]; omega) hri (by omega) (h.w _ (List.getElem_mem _))
 have e:aBk (vS c (qst c i).2.2 c.Rides[i].Weight.Hi) (wW (qst c i).2.2 (max (qst c i).2.1 c.Rides[i].From))=a:=(aH8 (aFw (by omega))).uniq a2
 have e1:qst c (i + 1)=((qst c i).1++[a],a,(qst c i).2.2++[⟨a,c.Rides[i].Long,c.Rides[i].Weight⟩]):=by rw [aKr hi]; unfold aQ0; rw [e]
 rw [e1]
 refine ⟨a1,rfl,a3,a5,rfl,?_⟩
 constructor
 ·rw [e1]
  refine ⟨λr hr=>?_,by dsimp only; omega⟩
  rcases List.mem_append.1 hr with hr | hr
  ·have:=hq.q.r r hr
   exact ⟨this.f0,by have:=this.f1; dsimp only; omega,this.l0,this.l1,this.w0,this.w1,this.w2⟩
  ·rw [List.mem_singleton.1 hr]
   exact ⟨by dsimp only; omega,Int.le_refl _,hri.l0,hri.l1,hri.w0,hri.w1,hri.w2⟩
 ·rw [e1]; simp [hq.l1]
 ·rw [e1]; simp [hq.l2]
 ·rw [e1]; dsimp only; push_cast; omega
 ·intro _
  rw [e1]
  have:i + 1 - 1=(qst c i).1.length:=by rw [hq.l1]; omega
  dsimp only
  rw [this,aRh]
theorem qinv {c:aJ} (h:aPb c):∀ i,i≤c.Rides.length→QInv c i
 | 0,_=>aOk c
 | i + 1,hi=>(aP8 (N:=40) (by omega) h (by omega) (qinv h i (by omega))).2.2.2.2.2
def tG (c:aJ):Bool:=bey c c.Car || c.Rides.any λr=>bey c (c.Car + r.Weight.Hi)
theorem aH6 {c:aJ} (h:jA c=0) (hh:tG c=false):aPb c:=by
 obtain ⟨h1,h2,h3⟩:=xD h
 unfold tG at hh
 rw [Bool.or_eq_false_iff] at hh
 refine ⟨h1,h2,h3,λr hr=>?_⟩
 have:=List.any_eq_false.1 hh.2 r hr
 simpa using this
theorem aO7 {N:Nat} (hN:40≤N) {c:aJ} (h:jA c=0):uL N c=some (if tG c=true then ([],6) else ((qst c c.Rides.length).1,0)):=by
 obtain ⟨hn,hc,hr⟩:=xD h
 unfold uL
 rw [aA3 (by omega) (by omega),h,Option.bind_some]
 simp only [bne_self_eq_false,cond_false]
 have c3:lU N c.Rides c=some (c.Rides.all λr=>!cC c (W (c.Car + r.Weight.Hi))):=by
  unfold lU eU fO
  exact rU (f:=λr=>jT r c) (ok:=λr=>!cC c (W (c.Car + r.Weight.Hi))) (λx=>rfl) (by omega) (by omega) _ (λx=>rfl)
 have c4:(c.Rides.all λr=>!cC c (W (c.Car + r.Weight.Hi))) = !(c.Rides.any λr=>bey c (c.Car + r.Weight.Hi)):=by
  rw [List.not_any_eq_all_not]
  rw [Bool.eq_iff_iff,List.all_eq_true,List.all_eq_true]
  have e:∀ r ∈ c.Rides,cC c (W (c.Car + r.Weight.Hi))=bey c (c.Car + r.Weight.Hi):=λr hr'=>by
   have:=hr r hr'
   have b0:=this.w0
   have b1:=this.w1
   have b2:=this.w2
   have:=hc.c0
   have:=hc.c1
   rw [fB (by omega) (by omega),aAw hc (by omega) (by omega)]
  constructor
  ·intro h r hr'; rw [← e r hr']; exact h r hr'
  ·intro h r hr'; rw [e r hr']; exact h r hr'
 rw [c3,c4,aAw hc hc.c0 (by have:=hc.c1; omega)]
 have e0:(Option.bind (cond (bey c c.Car) (some true) (Option.bind (some (!(c.Rides.any λr=>bey c (c.Car + r.Weight.Hi)))) λr_1=>some (!r_1))) λt_1=>some t_1)=some (tG c):=by
  unfold tG
  cases bey c c.Car
  ·simp
  ·rfl
 have e1:(cond (bey c c.Car) (some true) (Option.bind (some (!(c.Rides.any λr=>bey c (c.Car + r.Weight.Hi)))) λr_1=>some (!r_1)))=some (tG c):=by
  rw [← e0]
  cases (cond (bey c c.Car) (some true) (Option.bind (some (!(c.Rides.any λr=>bey c (c.Car + r.Weight.Hi)))) λr_1=>some (!r_1))) <;> rfl
 rw [e1,Option.bind_some]
 cases hh:tG c with
 | true=>rfl
 | false=>
  have hL:=aH6 h hh
  rw [cond_false]
  have hrun:=rK (ρ:=List Int × Int) (λi:Nat=>((qst c i).1,(qst c i).2.1,(i:Int),(qst c i).2.2)) c.Rides.length (λs14=>pT N c s14.1 s14.2.1 s14.2.2.1 s14.2.2.2) (λi hi=>by
   have hq:=qinv hL i (by omega)
   obtain ⟨g1,g2,g3,g4,g5,g6⟩:=aP8 hN hL hi hq
   show pT N c (qst c i).1 (qst c i).2.1 (i:Int) (qst c i).2.2=_
   unfold pT iV
   rw [bW hi,cond_true,bF hi,Option.bind_some,fQ (by rw [hq.l2]; omega),Option.bind_some,Option.bind_some,fQ (by rw [List.length_append,hq.l2]; simp; omega),Option.bind_some,g1,Option.bind_some]
   simp only [exK]
   rw [fQ (by rw [List.length_append,hq.l1]; simp; omega),Option.bind_some,bP (by omega),← g2]) (by
   show pT N c _ _ _ _=_
   unfold pT
   rw [bU,cond_false]) (N:=N) (by omega)
  have e0:(([]:List Int),(0:Int),(0:Int),([]:List aC))=((qst c 0).1,(qst c 0).2.1,((0:Nat):Int),(qst c 0).2.2):=rfl
  rw [e0,hrun]
  rfl
end Go.Nilo.Ca
namespace Go.Nilo.Ca
def rr (r:aC):aY:=⟨r.From,r.Long,r.Weight⟩
def rc (c:aJ):cD:=⟨c.Car,c.Wide,c.Sag,c.Most,c.Rides.map rr⟩
theorem aA8 {l:List aC} {i:Nat} (hi:i < l.length):aQ (l.map rr) (i:Int)=some (rr l[i]):=by
 rw [bF (by simpa using hi)]; simp
theorem aPm {N:Nat} {c:aJ} (hl:c.Rides.length≤100) (hN:101≤N):sM N c=some (rc c):=by
 unfold sM
 have hrun:=rK (ρ:=cD) (λi:Nat=>((i:Int),(c.Rides.map rr).take i)) c.Rides.length (λs5=>pR N c s5.1 s5.2) (λi hi=>by
  show pR N c (i:Int) ((c.Rides.map rr).take i)=_
  unfold pR
  have e3:(c.Rides.map rr).take (i + 1)=(c.Rides.map rr).take i++[rr c.Rides[i]]:=by
   rw [List.take_succ_eq_append_getElem (by simpa using hi)]; simp
  simp only [bW hi,cond_true,bF hi,Option.bind_some,bP (show i < 9223372036854775807 by omega)]
  rw [fQ (by simp; omega),e3]
  rfl) (by
  show pR N c _ _=_
  unfold pR
  rw [bU,cond_false]) (N:=N) (by omega)
 have e0:((0:Int),([]:List aY))=(((0:Nat):Int),(c.Rides.map rr).take 0):=rfl
 rw [e0,hrun,Option.bind_some]
 show some (⟨c.Car,c.Wide,c.Sag,c.Most,(c.Rides.map rr).take c.Rides.length⟩:cD)=_
 rw [List.take_of_length_le (by simp)]
 rfl
theorem out_inB (n a b:Int):aK n a b = !inB n a b:=by
 rw [Bool.eq_iff_iff]
 unfold aK inB
 simp only [Bool.or_eq_true,decide_eq_true_eq,Bool.not_eq_true',Bool.and_eq_false_iff,decide_eq_false_iff_not]
 omega
theorem aSw (r:aC):(((aK r.From 0 100000) || (aK r.Long 1 100000)) || (cL r.Weight 1000)) = !cT r:=by
 have e:cL r.Weight 1000=((decide (r.Weight.Lo < 0) || decide (1000 < r.Weight.Hi)) || decide (r.Weight.Hi < r.Weight.Lo)):=rfl
 rw [out_inB,out_inB,e]
 by_cases h:RB 100000 r
 ·rw [aL8.2 h,inB_iff.2 ⟨h.f0,h.f1⟩,inB_iff.2 ⟨h.l0,h.l1⟩]
  have a:=h.w0
  have b:=h.w1
  have d:=h.w2
  simp only [Bool.not_true,Bool.false_or,Bool.or_eq_false_iff,decide_eq_false_iff_not]
  omega
 ·have h1:cT r=false:=by
   rw [Bool.eq_false_iff]
   exact λe=>h (aL8.1 e)
  rw [h1,Bool.not_false]
  refine Decidable.byContradiction λhc=>h ?_
  rw [Bool.not_eq_true] at hc
  simp only [Bool.or_eq_false_iff,Bool.not_eq_false',inB_iff,decide_eq_false_iff_not] at hc
  obtain ⟨⟨⟨a1,a2⟩,a3,a4⟩,⟨b1,b2⟩,b3⟩:=hc
  constructor <;> omega
theorem uQ {N:Nat} {c:aJ} (hl:c.Rides.length≤1000) (hN:c.Rides.length < N):kR N (rc c)=some (jA c):=by
 unfold kR jA
 have hlen:(rc c).Rides.length=c.Rides.length:=by simp [rc]
 rw [hlen]
 by_cases h:c.Rides.length≤30
 ·rw [if_pos h,show decide (30 < ((c.Rides.length:Nat):Int))=false by rw [decide_eq_false_iff_not]; omega,cond_false]
  have e:((((aK (rc c).Car 0 1000) || (aK (rc c).Wide 1 1000)) || (aK (rc c).Sag 1 10000)) || (aK (rc c).Most 0 10000000)) = !aJg c:=by
   rw [out_inB,out_inB,out_inB,out_inB]
   show ((((!(inB c.Car 0 1000)) || (!(inB c.Wide 1 1000))) || (!(inB c.Sag 1 10000))) || (!(inB c.Most 0 10000000)))=_
   unfold aJg
   cases inB c.Car 0 1000 <;> cases inB c.Wide 1 1000 <;> cases inB c.Sag 1 10000 <;> cases inB c.Most 0 10000000 <;> rfl
  rw [e]
  have hs:=tP (ρ:=Int) (λi:Nat=>(i:Int)) (λj=>cond (cT (c.Rides.getD j ⟨0,0,⟨0,0⟩⟩)) none (some 120)) c.Rides.length (λs10=>gD N (rc c) s10) (λi hi=>by
   show gD N (rc c) (i:Int)=_
   unfold gD
   have hg:aQ (rc c).Rides (i:Int)=some (rr c.Rides[i]):=aA8 hi
   have hb:(((aK (rr c.Rides[i]).From 0 100000) || (aK (rr c.Rides[i]).Long 1 100000)) || (cL (rr c.Rides[i]).Weight 1000)) = !cT c.Rides[i]:=aSw _
   rw [hlen,bW hi,cond_true,hg,Option.bind_some,bP (by omega),hb,cP (d:=(⟨0,0,⟨0,0⟩⟩:aC)) hi]
   cases cT (c.Rides.getD i ⟨0,0,⟨0,0⟩⟩) <;> rfl) (by
   show gD N (rc c) _=_
   unfold gD
   rw [hlen,bU,cond_false]) c.Rides.length 0 N (by omega) (by omega)
  rw [show ((0:Nat):Int)=0 from rfl,oG c.Rides.length 0 (by omega),List.drop_zero] at hs
  rw [hs]
  cases aJg c <;> cases c.Rides.all cT <;> rfl
 ·rw [if_neg h,show decide (30 < ((c.Rides.length:Nat):Int))=true by rw [decide_eq_true_eq]; omega,cond_true]
theorem aDs {N:Nat} (hN:40≤N) {c:aJ} {B n:Int} (hB:B≤10000000) (hl:∀ r ∈ c.Rides,RB B r) (hn:c.Rides.length≤31) (hc:0≤c.Car∧c.Car≤1000):uI N (rc c) n=some ⟨c.Car + ldF aE.Lo c.Rides n,c.Car + ldF aE.Hi c.Rides n⟩:=by
 unfold uI
 have hlen:(rc c).Rides.length=c.Rides.length:=by simp [rc]
 have hrun:=rK (ρ:=aE) (λi:Nat=>((i:Int),c.Car + ldF aE.Lo (c.Rides.take i) n,c.Car + ldF aE.Hi (c.Rides.take i) n)) c.Rides.length (λs5=>oW N (rc c) n s5.1 s5.2.1 s5.2.2) (λi hi=>by
  have hr:=hl c.Rides[i] (List.getElem_mem _)
  obtain ⟨f0,f1,l0,l1,w0,w1,w2⟩:=hr
  have ha:=aH9 sel_lo (l:=c.Rides.take i) (n:=n) λr hr=>hl r (List.mem_of_mem_take hr)
  have hb:=aH9 sel_hi (l:=c.Rides.take i) (n:=n) λr hr=>hl r (List.mem_of_mem_take hr)
  rw [List.length_take] at ha hb
  show oW N (rc c) n (i:Int) (c.Car + ldF aE.Lo (c.Rides.take i) n) (c.Car + ldF aE.Hi (c.Rides.take i) n)=_
  unfold oW
  have hg:aQ (rc c).Rides (i:Int)=some (rr c.Rides[i]):=aA8 hi
  have hon:((decide ((rr c.Rides[i]).From≤n)) && (decide (n≤(W ((W ((rr c.Rides[i]).From + (rr c.Rides[i]).Long)) - 1)))))=onR c.Rides[i] n:=by
   show ((decide (c.Rides[i].From≤n)) && (decide (n≤(W ((W (c.Rides[i].From + c.Rides[i].Long)) - 1)))))=_
   rw [fB (n:=c.Rides[i].From + c.Rides[i].Long) (by omega) (by omega),fB (by omega) (by omega)]
   unfold onR
   congr 1
   rw [decide_eq_decide]
   omega
  have g1:W (c.Car + ldF aE.Lo (c.Rides.take i) n + (rr c.Rides[i]).Weight.Lo)=c.Car + ldF aE.Lo (c.Rides.take i) n + c.Rides[i].Weight.Lo:=fB (by show _≤_ + c.Rides[i].Weight.Lo; omega) (by show _ + c.Rides[i].Weight.Lo≤_; omega)
  have g2:W (c.Car + ldF aE.Hi (c.Rides.take i) n + (rr c.Rides[i]).Weight.Hi)=c.Car + ldF aE.Hi (c.Rides.take i) n + c.Rides[i].Weight.Hi:=fB (by show _≤_ + c.Rides[i].Weight.Hi; omega) (by show _ + c.Rides[i].Weight.Hi≤_; omega)
  rw [hlen,bW hi,cond_true,hg,Option.bind_some,hon,g1,g2]
  unfold tQ
  rw [bP (by omega)]
  simp only [List.take_succ_eq_append_getElem hi,aNx]
  by_cases h:onR c.Rides[i] n=true
  ·simp only [h,cond_true,if_true,Int.add_assoc]
  ·simp only [show onR c.Rides[i] n=false by simpa using h,cond_false,Bool.false_eq_true,if_false,Int.add_zero]) (by
  show oW N (rc c) n _ _ _=_
  unfold oW
  rw [hlen,bU,cond_false]) (N:=N) (by omega)
 have e0:((0:Int),(rc c).Car,(rc c).Car)=(((0:Nat):Int),c.Car + ldF aE.Lo (c.Rides.take 0) n,c.Car + ldF aE.Hi (c.Rides.take 0) n):=by simp [ldF,cI,rc]
 rw [e0,hrun,Option.bind_some]
 simp only [exK,List.take_length]
theorem vC {c:aJ} (h:aA2 c) {x:Int} (h0:0≤x) (h1:x≤100000):dV (rc c) x=bey c x:=by
 obtain ⟨m1,m2⟩:=aPn h h0 h1
 obtain ⟨a1,a2,a3,a4,b1,b2,b3,b4⟩:=h
 unfold dV bey
 show decide ((W (c.Sag * c.Most)) < (W ((W (25 * c.Wide)) * x)))=_
 have e:25 * c.Wide * x=x * c.Wide * 25:=by
  rw [Int.mul_comm (25 * c.Wide) x,Int.mul_comm 25 c.Wide,Int.mul_assoc]
 rw [Int.mul_comm c.Sag c.Most,fB (n:=c.Most * c.Sag) (by omega) (by omega),fB (n:=25 * c.Wide) (by omega) (by omega),e,fB (by omega) (by omega)]
theorem aAx {p:Int→Bool} {l l':List Int} {r x:Int} (h:tC p l r) (h0:∀ y ∈ l,0≤y) (hx:0≤x) (hl:∀ y,y ∈ l' ↔ y ∈ l ∨ y=x):tC p l' (cond (p x && (r == -1 || decide (x < r))) x r):=by
 by_cases hp:p x=true
 ·rw [hp,Bool.true_and]
  rcases h with ⟨rfl,h2⟩ | ⟨h1,h2,h3⟩
  ·refine Or.inr ⟨(hl x).2 (Or.inr rfl),hp,λy hy hq=>?_⟩
   rcases (hl y).1 hy with h | rfl
   ·rw [h2 y h] at hq; cases hq
   ·exact Int.le_refl _
  ·have hr:=h0 r h1
   rw [show (r == -1)=false by rw [beq_eq_false_iff_ne]; omega,Bool.false_or]
   by_cases hlt:x < r
   ·rw [decide_eq_true hlt,cond_true]
    refine Or.inr ⟨(hl x).2 (Or.inr rfl),hp,λy hy hq=>?_⟩
    rcases (hl y).1 hy with h | rfl
    ·have:=h3 y h hq; omega
    ·exact Int.le_refl _
   ·rw [decide_eq_false hlt,cond_false]
    refine Or.inr ⟨(hl r).2 (Or.inl h1),h2,λy hy hq=>?_⟩
    rcases (hl y).1 hy with h | rfl
    ·exact h3 y h hq
    ·omega
 ·have hp':p x=false:=by simpa using hp
  rw [hp',Bool.false_and,cond_false]
  rcases h with ⟨h1,h2⟩ | ⟨h1,h2,h3⟩
  ·refine Or.inl ⟨h1,λy hy=>?_⟩
   rcases (hl y).1 hy with h | rfl
   ·exact h2 y h
   ·exact hp'
  ·refine Or.inr ⟨(hl r).2 (Or.inl h1),h2,λy hy hq=>?_⟩
   rcases (hl y).1 hy with h | rfl
   ·exact h3 y h hq
   ·rw [hp'] at hq; cases hq
theorem aJ7 (p:Int→Bool):tC p [] (-1):=Or.inl ⟨rfl,λx hx=>(List.not_mem_nil hx).elim⟩
theorem aIp {N:Nat} (hN:40≤N) {c:aJ} (h:jA c=0):∃ a b,tA N (rc c)=some (a,b,0)∧tC (λn=>bey c (c.Car + ldF aE.Hi c.Rides n)) (0::c.Rides.map λr=>r.From) a∧tC (λn=>bey c (c.Car + ldF aE.Lo c.Rides n)) (0::c.Rides.map λr=>r.From) b:=by
 obtain ⟨hn,hc,hr⟩:=xD h
 have hlen:(rc c).Rides.length=c.Rides.length:=by simp [rc]
 unfold tA
 rw [uQ (by omega) (by omega),h,Option.bind_some]
 simp only [bne_self_eq_false,cond_false]
 have hld (n:Int):=aDs hN (n:=n) (B:=100000) (by omega) hr (by omega) ⟨hc.c0,hc.c1⟩
 have hbd (f:aE→Int) (hf:SelOk f) (n:Int):0≤c.Car + ldF f c.Rides n∧c.Car + ldF f c.Rides n≤100000:=by
  have:=aH9 hf (n:=n) hr
  have:=hc.c0
  have:=hc.c1
  omega
 have hj:∀ (can su i m:Int),kQ N (rc c) can su i m=some (.cont (cond (bey c (c.Car + ldF aE.Hi c.Rides m) && (can == -1 || decide (m < can))) m can,cond (bey c (c.Car + ldF aE.Lo c.Rides m) && (su == -1 || decide (m < su))) m su,W (i + 1))):=λcan su i m=>by
  unfold kQ
  rw [hld,Option.bind_some]
  unfold pO qB
  dsimp only
  rw [vC hc (hbd _ sel_hi m).1 (hbd _ sel_hi m).2,vC hc (hbd _ sel_lo m).1 (hbd _ sel_lo m).2]
  cases (bey c (c.Car + ldF aE.Hi c.Rides m) && (can == -1 || decide (m < can))) <;> cases (bey c (c.Car + ldF aE.Lo c.Rides m) && (su == -1 || decide (m < su))) <;> rfl
 have hfirst:hQ N (rc c) (-1) (-1) (-1)=kQ N (rc c) (-1) (-1) (-1) 0:=by
  unfold hQ
  rw [hlen,show decide ((-1:Int) < ((c.Rides.length:Nat):Int))=true by rw [decide_eq_true_eq]; omega]
  rfl
 obtain ⟨N,rfl⟩:∃ N',N=N' + 1:=⟨N - 1,by omega⟩
 let pH:=λn=>bey c (c.Car + ldF aE.Hi c.Rides n)
 let pL:=λn=>bey c (c.Car + ldF aE.Lo c.Rides n)
 obtain ⟨s,hs,h1,h2,h3⟩:=tY (ρ:=Int × Int × Int) (λs9=>hQ (N + 1) (rc c) s9.1 s9.2.1 s9.2.2) (λi s=>s.2.2=(i:Int)∧tC pH (0::(c.Rides.take i).map λr=>r.From) s.1∧tC pL (0::(c.Rides.take i).map λr=>r.From) s.2.1) c.Rides.length (λi s hi hI=>by
  obtain ⟨can,su,x⟩:=s
  obtain ⟨rfl,g1,g2⟩:=hI
  have hri:=hr c.Rides[i] (List.getElem_mem _)
  have hg:aQ (rc c).Rides (i:Int)=some (rr c.Rides[i]):=aA8 hi
  have h0:∀ y ∈ (0::(c.Rides.take i).map λr=>r.From),0≤y:=λy hy=>by
   rcases List.mem_cons.1 hy with rfl | hy
   ·exact Int.le_refl _
   ·obtain ⟨r,hr',rfl⟩:=List.mem_map.1 hy
    exact (hr r (List.mem_of_mem_take hr')).f0
  have hm:∀ y,y ∈ (0::(c.Rides.take (i + 1)).map λr=>r.From) ↔ y ∈ (0::(c.Rides.take i).map λr=>r.From) ∨ y=c.Rides[i].From:=λy=>by
   rw [List.take_succ_eq_append_getElem hi,List.map_append,List.map_cons,List.map_nil,List.mem_cons,List.mem_append,List.mem_singleton,List.mem_cons,or_assoc]
  refine ⟨(cond (pH c.Rides[i].From && (can == -1 || decide (c.Rides[i].From < can))) c.Rides[i].From can,cond (pL c.Rides[i].From && (su == -1 || decide (c.Rides[i].From < su))) c.Rides[i].From su,W ((i:Int) + 1)),?_,?_,aAx g1 h0 hri.f0 hm,aAx g2 h0 hri.f0 hm⟩
  ·show hQ (N + 1) (rc c) can su (i:Int)=_
   unfold hQ
   rw [hlen,bW hi,cond_true,show decide ((0:Int)≤(i:Int))=true by rw [decide_eq_true_eq]; omega,cond_true,hg,Option.bind_some,hj]
   rfl
  ·exact bP (by omega)) (λs hI=>by
  show hQ (N + 1) (rc c) s.1 s.2.1 s.2.2=_
  unfold hQ
  rw [hI.1,hlen,bU,cond_false,← hI.1]) c.Rides.length 0 (cond (pH 0 && ((-1:Int) == -1 || decide ((0:Int) < -1))) 0 (-1),cond (pL 0 && ((-1:Int) == -1 || decide ((0:Int) < -1))) 0 (-1),0) N (by omega) (by omega) ⟨rfl,aAx (aJ7 _) (λy hy=>(List.not_mem_nil hy).elim) (Int.le_refl _) (λy=>by simp),aAx (aJ7 _) (λy hy=>(List.not_mem_nil hy).elim) (Int.le_refl _) (λy=>by simp)⟩
 rw [List.take_length] at h2 h3
 refine ⟨s.1,s.2.1,?_,h2,h3⟩
 unfold aS
 dsimp only
 rw [hfirst,hj]
 dsimp only
 rw [show W ((-1:Int) + 1)=0 from rfl]
 exact (congrArg (λx=>Option.bind x _) hs).trans rfl
end Go.Nilo.Ca
namespace Go.Nilo.Ca
theorem aPp {N:Nat} (hN:40≤N) {c:aJ} (hc:aA2 c) {now:List aC} {B:Int} (hB:B≤6000000) (hr:∀ r ∈ now,RB B r) (hn:now.length≤30) {e:aC} (he:RB 100000 e) {at_ m j:Int} {good:Bool} (h0:0≤at_∧at_≤6000000) (hm:m≤at_) :
  oH N (rc c) (now.map rr) (rr e) at_ good j m=some (.cont (if m=at_ then (vS c now e.Weight.Hi at_ && good) else good,W (j + 1))):=by
 obtain ⟨f0,f1,l0,l1,w0,w1,w2⟩:=he
 unfold oH rN
 have hL:W (at_ + (rr e).Long)=at_ + e.Long:=fB (by show _≤_ + e.Long; omega) (by show _ + e.Long≤_; omega)
 rw [hL]
 by_cases h:m=at_
 ·subst h
  have hg:((decide (m≤m)) && (decide (m < m + e.Long)))=true:=by rw [Bool.and_eq_true,decide_eq_true_eq,decide_eq_true_eq]; omega
  have hld:uI N (⟨(rc c).Car,(rc c).Wide,(rc c).Sag,(rc c).Most,now.map rr⟩:cD) m=some ⟨c.Car + ldF aE.Lo now m,c.Car + ldF aE.Hi now m⟩:=aDs (c:=⟨c.Car,c.Wide,c.Sag,c.Most,now⟩) hN (B:=B) (by omega) hr (by show now.length≤31; omega) ⟨hc.c0,hc.c1⟩
  have hb:=aH9 sel_hi (n:=m) hr
  have c0:=hc.c0
  have c1:=hc.c1
  have hw:W (c.Car + ldF aE.Hi now m + (rr e).Weight.Hi)=c.Car + ldF aE.Hi now m + e.Weight.Hi:=fB (by show _≤_ + e.Weight.Hi; omega) (by show _ + e.Weight.Hi≤_; omega)
  rw [hg,cond_true,hld,Option.bind_some]
  dsimp only
  rw [hw,vC hc (by omega) (by omega),if_pos rfl,Option.bind_some]
  unfold vS
  cases bey c (c.Car + ldF aE.Hi now m + e.Weight.Hi) <;> cases good <;> rfl
 ·have hg:((decide (at_≤m)) && (decide (m < at_ + e.Long)))=false:=by rw [Bool.and_eq_false_iff,decide_eq_false_iff_not]; left; omega
  rw [hg,cond_false,Option.bind_some,cond_false,if_neg h]
theorem aMv {N:Nat} (hN:40≤N) {c:aJ} (hc:aA2 c) {now:List aC} {first:Int} (hB:first≤6000000) (hr:∀ r ∈ now,RB first r) (hn:now.length≤30) {e:aC} (he:RB 100000 e) {at_:Int} (h0:0≤at_∧at_≤6000000) (hf:first≤at_) :
  aS (λs41=>jP N (rc c) (now.map rr) (rr e) at_ s41.1 s41.2) N (true,(-1))=some (.go (vS c now e.Weight.Hi at_,(now.length:Int))):=by
 have hlen:(now.map rr).length=now.length:=by simp
 have hrun:=rK (ρ:=bC (Int × Int) (bC ((List Int) × Int × (List aY)) ((List Int) × Int))) (λi:Nat=>(if i=0 then true else vS c now e.Weight.Hi at_,(i:Int) - 1)) (now.length + 1) (λs41=>jP N (rc c) (now.map rr) (rr e) at_ s41.1 s41.2) (λi hi=>by
  show jP N (rc c) (now.map rr) (rr e) at_ (if i=0 then true else vS c now e.Weight.Hi at_) ((i:Int) - 1)=_
  unfold jP
  rw [hlen,show decide ((i:Int) - 1 < ((now.length:Nat):Int))=true by rw [decide_eq_true_eq]; omega,cond_true]
  by_cases h:i=0
  ·subst h
   rw [show decide ((0:Int)≤((0:Nat):Int) - 1)=false from rfl,cond_false,aPp hN hc hB hr hn he h0 (Int.le_refl _),if_pos rfl,if_pos rfl,Bool.and_true]
   rfl
  ·obtain ⟨k,rfl⟩:∃ k,i=k + 1:=⟨i - 1,by omega⟩
   have hk:k < now.length:=by omega
   have hrk:=hr now[k] (List.getElem_mem _)
   have hkf:=hrk.f1
   have e1:((k + 1:Nat):Int) - 1=(k:Int):=by omega
   have e2:((k + 1 + 1:Nat):Int) - 1=((k + 1:Nat):Int):=by omega
   rw [e1,show decide ((0:Int)≤(k:Int))=true by rw [decide_eq_true_eq]; omega,cond_true,aA8 hk,Option.bind_some,if_neg (by omega),e2,if_neg (by omega)]
   have hm:(rr now[k]).From≤at_:=by show now[k].From≤at_; omega
   rw [aPp hN hc hB hr hn he h0 hm,bP (by omega)]
   split
   ·rw [Bool.and_self]
   ·rfl) (by
  show jP N (rc c) (now.map rr) (rr e) at_ _ _=_
  unfold jP
  rw [hlen,show decide ((((now.length + 1:Nat):Int)) - 1 < ((now.length:Nat):Int))=false by rw [decide_eq_false_iff_not]; omega,cond_false]) (N:=N) (by omega)
 have e0:(true,(-1:Int))=(if (0:Nat)=0 then true else vS c now e.Weight.Hi at_,((0:Nat):Int) - 1):=rfl
 rw [e0,hrun,if_neg (by omega),show ((now.length + 1:Nat):Int) - 1=(now.length:Int) by omega]
theorem aQ1 {N:Nat} (hN:40≤N) {c:aJ} (hc:aA2 c) {now:List aC} {first:Int} (hB:first≤6000000) (hr:∀ r ∈ now,RB first r) (hn:now.length≤30) {e:aC} (he:RB 100000 e) {at_ best k:Int} (h0:0≤at_∧at_≤6000000) :
  mL N (rc c) (now.map rr) (rr e) first best k at_=some (.cont (if at_ < first then best else cond (vS c now e.Weight.Hi at_ && (best == -1 || decide (at_ < best))) at_ best,W (k + 1))):=by
 unfold mL oE
 by_cases h:at_ < first
 ·rw [decide_eq_true h,Bool.true_or,cond_true,if_pos h]
 ·rw [decide_eq_false h,Bool.false_or,if_neg h]
  by_cases hb:best = -1
  ·subst hb
   rw [show ((-1:Int) != -1)=false from rfl,Bool.false_and,cond_false,aMv hN hc hB hr hn he h0 (by omega),Option.bind_some]
   simp only [exK]
   rw [show ((-1:Int) == -1)=true from rfl,Bool.true_or,Bool.and_true]
   cases vS c now e.Weight.Hi at_ <;> rfl
  ·rw [bne_iff_ne.2 hb,Bool.true_and,show (best == -1)=false by rw [beq_eq_false_iff_ne]; exact hb,Bool.false_or]
   by_cases hlt:at_ < best
   ·rw [show decide (best≤at_)=false by rw [decide_eq_false_iff_not]; omega,cond_false,aMv hN hc hB hr hn he h0 (by omega),Option.bind_some,decide_eq_true hlt,Bool.and_true]
    simp only [exK]
    cases vS c now e.Weight.Hi at_ <;> rfl
   ·rw [show decide (best≤at_)=true by rw [decide_eq_true_eq]; omega,cond_true,decide_eq_false hlt,Bool.and_false,cond_false]
theorem aR1 {N:Nat} (hN:41≤N) {c:aJ} (hc:aA2 c) {now:List aC} {first:Int} (hf:0≤first) (hB:first≤5000000) (hr:∀ r ∈ now,RB first r) (hn:now.length≤30) {e:aC} (he:RB 100000 e) :
  ∃ b,aS (λs28=>gH N (rc c) (now.map rr) (rr e) first s28.1 s28.2) N ((-1),(-1))=some (.go (b,(now.length:Int)))∧tC (vS c now e.Weight.Hi) (wW now first) b:=by
 have hlen:(now.map rr).length=now.length:=by simp
 have hfirst:gH N (rc c) (now.map rr) (rr e) first (-1) (-1)=mL N (rc c) (now.map rr) (rr e) first (-1) (-1) first:=by
  unfold gH
  rw [hlen,show decide ((-1:Int) < ((now.length:Nat):Int))=true by rw [decide_eq_true_eq]; omega]
  rfl
 obtain ⟨M,hM⟩:∃ M,N=M + 1:=⟨N - 1,by omega⟩
 obtain ⟨s,hs,h1,h2⟩:=tY (ρ:=bC ((List Int) × Int × (List aY)) ((List Int) × Int)) (λs28=>gH N (rc c) (now.map rr) (rr e) first s28.1 s28.2) (λi s=>s.2=(i:Int)∧tC (vS c now e.Weight.Hi) (wW (now.take i) first) s.1) now.length (λi s hi hI=>by
  obtain ⟨b,x⟩:=s
  obtain ⟨rfl,g1⟩:=hI
  have hri:=hr now[i] (List.getElem_mem _)
  obtain ⟨f0,f1,l0,l1,w0,w1,w2⟩:=hri
  have hg:aQ (now.map rr) (i:Int)=some (rr now[i]):=aA8 hi
  have hw:W ((rr now[i]).From + (rr now[i]).Long)=now[i].From + now[i].Long:=fB (by show _≤now[i].From + now[i].Long; omega) (by show now[i].From + now[i].Long≤_; omega)
  refine ⟨(if now[i].From + now[i].Long < first then b else cond (vS c now e.Weight.Hi (now[i].From + now[i].Long) && (b == -1 || decide (now[i].From + now[i].Long < b))) (now[i].From + now[i].Long) b,W ((i:Int) + 1)),?_,bP (by omega),?_⟩
  ·show gH N (rc c) (now.map rr) (rr e) first b (i:Int)=_
   unfold gH
   rw [hlen,bW hi,cond_true,show decide ((0:Int)≤(i:Int))=true by rw [decide_eq_true_eq]; omega,cond_true,hg,Option.bind_some,Option.bind_some,hw,aQ1 (by omega) hc (by omega) hr hn he ⟨by omega,by omega⟩]
  ·dsimp only
   by_cases hlt:now[i].From + now[i].Long < first
   ·rw [if_pos hlt]
    refine g1.congr (λy=>?_) λ_ _=>rfl
    rw [rV,rV]
    constructor
    ·rintro (h | ⟨⟨r,k1,k2⟩,k3⟩)
     ·exact Or.inl h
     ·exact Or.inr ⟨⟨r,by rw [List.take_succ_eq_append_getElem hi]; exact List.mem_append_left _ k1,k2⟩,k3⟩
    ·rintro (h | ⟨⟨r,k1,k2⟩,k3⟩)
     ·exact Or.inl h
     ·rw [List.take_succ_eq_append_getElem hi] at k1
      rcases List.mem_append.1 k1 with k1 | k1
      ·exact Or.inr ⟨⟨r,k1,k2⟩,k3⟩
      ·rw [List.mem_singleton.1 k1] at k2; omega
   ·rw [if_neg hlt]
    refine aAx g1 (aFw hf) (by omega) λy=>?_
    rw [rV,rV]
    constructor
    ·rintro (h | ⟨⟨r,k1,k2⟩,k3⟩)
     ·exact Or.inl (Or.inl h)
     ·rw [List.take_succ_eq_append_getElem hi] at k1
      rcases List.mem_append.1 k1 with k1 | k1
      ·exact Or.inl (Or.inr ⟨⟨r,k1,k2⟩,k3⟩)
      ·rw [List.mem_singleton.1 k1] at k2; exact Or.inr k2
    ·rintro ((h | ⟨⟨r,k1,k2⟩,k3⟩) | h)
     ·exact Or.inl h
     ·exact Or.inr ⟨⟨r,by rw [List.take_succ_eq_append_getElem hi]; exact List.mem_append_left _ k1,k2⟩,k3⟩
     ·exact Or.inr ⟨⟨now[i],by rw [List.take_succ_eq_append_getElem hi]; exact List.mem_append_right _ (List.mem_singleton.2 rfl),h⟩,by omega⟩) (λs hI=>by
  show gH N (rc c) (now.map rr) (rr e) first s.1 s.2=_
  unfold gH
  rw [hI.1,hlen,bU,cond_false,← hI.1]) now.length 0 (cond (vS c now e.Weight.Hi first && ((-1:Int) == -1 || decide (first < -1))) first (-1),0) M (by omega) (by omega) ⟨rfl,aAx (aJ7 _) (λy hy=>(List.not_mem_nil hy).elim) hf (λy=>by rw [rV]; simp)⟩
 rw [List.take_length] at h2
 refine ⟨s.1,?_,h2⟩
 rw [hM] at hs hfirst ⊢
 unfold aS
 dsimp only
 rw [hfirst,aQ1 (by omega) hc (by omega) hr hn he ⟨by omega,by omega⟩,if_neg (by omega)]
 dsimp only
 rw [show W ((-1:Int) + 1)=0 from rfl,hs,← h1]
theorem aK6 {N:Nat} (hN:41≤N) {c:aJ} (h:jA c=0):uU N (rc c)=some (if tG c=true then ([],6) else ((qst c c.Rides.length).1,0)):=by
 obtain ⟨hn,hc,hr⟩:=xD h
 have hlen:(rc c).Rides.length=c.Rides.length:=by simp [rc]
 unfold uU
 rw [uQ (by omega) (by omega),h,Option.bind_some]
 simp only [bne_self_eq_false,cond_false]
 rw [show (rc c).Car=c.Car from rfl,vC hc hc.c0 (by have:=hc.c1; omega)]
 have hs:=tP (ρ:=List Int × Int) (λi:Nat=>(i:Int)) (λj=>cond (!bey c (c.Car + (c.Rides.getD j ⟨0,0,⟨0,0⟩⟩).Weight.Hi)) none (some ([],6))) c.Rides.length (λs11=>mF N (rc c) s11) (λi hi=>by
  show mF N (rc c) (i:Int)=_
  unfold mF
  have hg:aQ (rc c).Rides (i:Int)=some (rr c.Rides[i]):=aA8 hi
  have hri:=hr c.Rides[i] (List.getElem_mem _)
  have b0:=hri.w0
  have b1:=hri.w1
  have b2:=hri.w2
  have c0:=hc.c0
  have c1:=hc.c1
  have hw:W ((rc c).Car + (rr c.Rides[i]).Weight.Hi)=c.Car + c.Rides[i].Weight.Hi:=fB (by show _≤c.Car + c.Rides[i].Weight.Hi; omega) (by show c.Car + c.Rides[i].Weight.Hi≤_; omega)
  rw [hlen,bW hi,cond_true,hg,Option.bind_some,hw,vC hc (by omega) (by omega),bP (by omega),cP (d:=(⟨0,0,⟨0,0⟩⟩:aC)) hi]
  cases bey c (c.Car + (c.Rides.getD i ⟨0,0,⟨0,0⟩⟩).Weight.Hi) <;> rfl) (by
  show mF N (rc c) _=_
  unfold mF
  rw [hlen,bU,cond_false]) c.Rides.length 0 N (by omega) (by omega)
 rw [show ((0:Nat):Int)=0 from rfl,oG (p:=λr:aC=>!bey c (c.Car + r.Weight.Hi)) (d:=(⟨0,0,⟨0,0⟩⟩:aC)) c.Rides.length 0 (by omega),List.drop_zero] at hs
 have hany:(c.Rides.all λr:aC=>!bey c (c.Car + r.Weight.Hi)) = !(c.Rides.any λr=>bey c (c.Car + r.Weight.Hi)):=by rw [List.not_any_eq_all_not]
 rw [hany] at hs
 cases hb:bey c c.Car with
 | true=>
  have:tG c=true:=by unfold tG; rw [hb]; rfl
  rw [this]
  rfl
 | false=>
  rw [cond_false,hs]
  cases ha:(c.Rides.any λr=>bey c (c.Car + r.Weight.Hi)) with
  | true=>
   have:tG c=true:=by unfold tG; rw [hb,ha]; rfl
   rw [this]
   rfl
  | false=>
   have hh:tG c=false:=by unfold tG; rw [hb,ha]; rfl
   have hL:=aH6 h hh
   rw [hh]
   simp only [Bool.not_false,cond_true,Option.bind_some,exK,Bool.false_eq_true,if_false]
   have hrun:=rK (ρ:=List Int × Int) (λi:Nat=>((qst c i).1,(i:Int),(qst c i).2.2.map rr)) c.Rides.length (λs17=>mC N (rc c) s17.1 s17.2.1 s17.2.2) (λi hi=>by
    have hq:=qinv hL i (by omega)
    obtain ⟨-,g2,g3,g4,g5,g6⟩:=aP8 (N:=N) (by omega) hL hi hq
    have hri:=hr c.Rides[i] (List.getElem_mem _)
    obtain ⟨f0,f1,l0,l1,w0,w1,w2⟩:=id hri
    have hq0:=hq.q.a0
    have hqb:=hq.b
    have hql1:=hq.l1
    have hql2:=hq.l2
    have hg:aQ (rc c).Rides (i:Int)=some (rr c.Rides[i]):=aA8 hi
    show mC N (rc c) (qst c i).1 (i:Int) ((qst c i).2.2.map rr)=_
    have hr2:∀ r ∈ (qst c i).2.2,RB (max (qst c i).2.1 c.Rides[i].From) r:=λr hr'=>by
     have:=hq.q.r r hr'
     exact ⟨this.f0,by have:=this.f1; omega,this.l0,this.l1,this.w0,this.w1,this.w2⟩
    obtain ⟨b,b1,b2⟩:=aR1 (N:=N) hN hc (first:=max (qst c i).2.1 c.Rides[i].From) (by omega) (by omega) hr2 (by omega) hri
    have hbe:b=(qst c (i + 1)).2.1:=by
     have e:(qst c (i + 1)).2.1=aBk (vS c (qst c i).2.2 c.Rides[i].Weight.Hi) (wW (qst c i).2.2 (max (qst c i).2.1 c.Rides[i].From)):=by rw [aKr hi]; rfl
     rw [e]
     exact b2.uniq (aH8 (aFw (by omega)))
    have hj:oI N (rc c) (qst c i).1 (i:Int) ((qst c i).2.2.map rr) (rr c.Rides[i]) (max (qst c i).2.1 c.Rides[i].From)=some (.cont ((qst c (i + 1)).1,((i + 1:Nat):Int),(qst c (i + 1)).2.2.map rr)):=by
     unfold oI
     rw [b1,Option.bind_some]
     simp only [exK]
     rw [fQ (by rw [List.length_map]; omega),Option.bind_some,fQ (by rw [List.length_append,List.length_map,List.length_cons,List.length_nil]; omega),Option.bind_some,fQ (by rw [List.length_append,List.length_cons,List.length_nil]; omega),Option.bind_some,bP (by omega),hbe,← g2,g5,List.map_append]
     rfl
    unfold mC
    rw [hlen,bW hi,cond_true,hg,Option.bind_some]
    by_cases h0:i=0
    ·have e1:max (qst c i).2.1 c.Rides[i].From=c.Rides[i].From:=by
      have:(qst c i).2.1=0:=by subst h0; rfl
      omega
     rw [show decide ((0:Int) < (i:Int))=false by rw [decide_eq_false_iff_not]; omega,cond_false,Option.bind_some,cond_false]
     rw [e1] at hj
     exact hj
    ·have hW:W ((i:Int) - 1)=((i - 1:Nat):Int):=by rw [fB (by omega) (by omega)]; omega
     have hgo:aQ (qst c i).1 ((i - 1:Nat):Int)=some (qst c i).2.1:=by rw [aFj (by omega),hq.la (by omega)]
     rw [show decide ((0:Int) < (i:Int))=true by rw [decide_eq_true_eq]; omega,cond_true,hW,hgo,Option.bind_some,Option.bind_some]
     by_cases hlt:c.Rides[i].From < (qst c i).2.1
     ·rw [show decide ((rr c.Rides[i]).From < (qst c i).2.1)=true from decide_eq_true hlt,cond_true,Option.bind_some]
      rw [show max (qst c i).2.1 c.Rides[i].From=(qst c i).2.1 by omega] at hj
      exact hj
     ·rw [show decide ((rr c.Rides[i]).From < (qst c i).2.1)=false from decide_eq_false hlt,cond_false]
      rw [show max (qst c i).2.1 c.Rides[i].From=c.Rides[i].From by omega] at hj
      exact hj) (by
    show mC N (rc c) _ _ _=_
    unfold mC
    rw [hlen,bU,cond_false]) (N:=N) (by omega)
   have e0:(([]:List Int),(0:Int),([]:List aY))=((qst c 0).1,((0:Nat):Int),(qst c 0).2.2.map rr):=rfl
   rw [e0,hrun]
   rfl
theorem aK4 {N:Nat} (hN:101≤N) {c:aJ} (hl:c.Rides.length≤35) (h:jA c ≠ 0) (minute:Int):sX N c minute=some (⟨0,0⟩,jA c)∧uH N (rc c) minute=some (⟨0,0⟩,jA c)∧oN N c=some (0,0,jA c)∧tA N (rc c)=some (0,0,jA c)∧uL N c=some ([],jA c)∧uU N (rc c)=some ([],jA c):=by
 have h2:(jA c != 0)=true:=by simpa using h
 have a:=aA3 (N:=N) (c:=c) (by omega) (by omega)
 have b:=uQ (N:=N) (c:=c) (by omega) (by omega)
 refine ⟨?_,?_,?_,?_,?_,?_⟩
 ·unfold sX; rw [a,Option.bind_some,h2]; rfl
 ·unfold uH; rw [b,Option.bind_some,h2]; rfl
 ·unfold oN; rw [a,Option.bind_some,h2]; rfl
 ·unfold tA; rw [b,Option.bind_some,h2]; rfl
 ·unfold uL; rw [a,Option.bind_some,h2]; rfl
 ·unfold uU; rw [b,Option.bind_some,h2]; rfl
theorem aOw {N:Nat} (hN:101≤N) {c:aJ} (hl:c.Rides.length≤35) (h:jA c=0) (minute:Int):∃ s e,sX N c minute=some (s,e)∧uH N (rc c) minute=some (s,e):=by
 obtain ⟨hn,hc,hr⟩:=xD h
 by_cases hm:0≤minute∧minute≤200000
 ·refine ⟨_,_,aQg (by omega) h hm.1 hm.2,?_⟩
  unfold uH
  have ho:aK minute 0 200000=false:=by rw [out_inB,inB_iff.2 hm]; rfl
  rw [uQ (by omega) (by omega),h,Option.bind_some,ho]
  simp only [bne_self_eq_false,cond_false]
  rw [aDs (by omega) (B:=100000) (by omega) hr (by omega) ⟨hc.c0,hc.c1⟩,Option.bind_some]
 ·have hi:inB minute 0 200000=false:=by rw [Bool.eq_false_iff]; exact λe=>hm (inB_iff.1 e)
  refine ⟨⟨0,0⟩,4,?_,?_⟩
  ·unfold sX
   rw [aA3 (by omega) (by omega),h,Option.bind_some,show aR minute 0 200000=false from hi]
   rfl
  ·unfold uH
   rw [uQ (by omega) (by omega),h,Option.bind_some,out_inB,hi]
   rfl
theorem aRs {c:aJ} (h:jA c=0):(if tG c=true then (([]:List Int),(6:Int)) else ((qst c c.Rides.length).1,0)).1.length≤30:=by
 cases hh:tG c with
 | true=>simp
 | false=>
  have:=(qinv (aH6 h hh) c.Rides.length (Nat.le_refl _)).l1
  have:=(xD h).1
  simp only [Bool.false_eq_true,if_false]
  omega
theorem same_int {N:Nat} {l:List Int} (hl:l.length≤1000) (hN:l.length < N):dW N l l=some true:=by
 unfold dW
 rw [bne_self_eq_false,cond_false,vE l (by omega) (λs7=>fD N l l s7) (λi hi=>by
  unfold fD
  simp only [bW hi,cond_true,bF hi,Option.bind_some,bne_self_eq_false,cond_false]
  rw [bP (by omega)]) (by
  unfold fD
  rw [bU]; rfl) hN]
 rfl
theorem aI4 {N:Nat} {l:List aC} (hl:l.length≤1000) (hN:l.length < N):rE N l l=some true:=by
 unfold rE
 rw [bne_self_eq_false,cond_false,vE l (by omega) (λs7=>kA N l l s7) (λi hi=>by
  unfold kA
  simp only [bW hi,cond_true,bF hi,Option.bind_some,beq_self_eq_true,Bool.and_self,Bool.not_true,cond_false]
  rw [bP (by omega)]) (by
  unfold kA
  rw [bU]; rfl) hN]
 rfl
theorem crewcables_law (c:aJ) (minute:Int):mY 5000 c minute=some true:=by
 unfold mY
 have haw:(Option.bind (gC 5000) λr=>some r)=some true:=by rw [oY]; rfl
 by_cases h:c.Rides.length≤35
 ·have k1:tX 5000 c=some c:=by
   unfold tX uF
   rw [fQ (by omega)]
   rfl
  rw [show decide (35 < ((c.Rides.length:Nat):Int))=false by rw [decide_eq_false_iff_not]; omega,cond_false,k1,Option.bind_some,aA3 (by omega) (by omega),Option.bind_some,aPm (by omega) (by omega),Option.bind_some,uQ (by omega) (by omega),Option.bind_some,bne_self_eq_false,cond_false]
  by_cases h0:jA c=0
  ·obtain ⟨s,e,a1,a2⟩:=aOw (N:=5000) (by omega) h h0 minute
   obtain ⟨x,y,b1,b2,b3⟩:=aLp (N:=5000) (by omega) h0
   obtain ⟨x',y',c1,c2,c3⟩:=aIp (N:=5000) (by omega) h0
   obtain rfl:=b2.uniq c2
   obtain rfl:=b3.uniq c3
   have hl:=aRs h0
   simp only [a1,a2,b1,c1,aO7 (N:=5000) (by omega) h0,aK6 (N:=5000) (by omega) h0,Option.bind_some,beq_self_eq_true,bne_self_eq_false,Bool.and_self,Bool.not_true,Bool.or_self,cond_false,cond_true,same_int (N:=5000) (Nat.le_trans hl (by omega)) (Nat.lt_of_le_of_lt hl (by omega)),aI4 (N:=5000) (show c.Rides.length≤1000 by omega) (by omega),oY]
  ·obtain ⟨a1,a2,b1,b2,c1,c2⟩:=aK4 (N:=5000) (by omega) h h0 minute
   simp only [a1,a2,b1,b2,c1,c2,Option.bind_some,beq_self_eq_true,bne_self_eq_false,Bool.and_self,Bool.not_true,Bool.or_self,cond_false,cond_true,same_int (N:=5000) (l:=[]) (by simp) (by simp),aI4 (N:=5000) (show c.Rides.length≤1000 by omega) (by omega),oY]
 ·rw [show decide (35 < ((c.Rides.length:Nat):Int))=true by rw [decide_eq_true_eq]; omega,cond_true]
  exact haw
end Go.Nilo.Ca
