/-
  What the plain functions compute, in plain arithmetic, part 3. Conditions: what each theorem names.
-/
import Derived.Test.YtcefmiiipbjngaaGreatCsL2
set_option linter.unusedSimpArgs false
set_option linter.unusedVariables false
namespace Go.Nilo.Ro
structure VOk (v:aG):Prop where
 w0:0≤v.Way.Lo
 w1:v.Way.Lo≤v.Way.Hi
 w2:v.Way.Hi≤100000
 k0:0≤v.Work.Lo
 k1:v.Work.Lo≤v.Work.Hi
 k2:v.Work.Hi≤100000
 o0:0≤v.Open
 o1:v.Open≤v.Close
 o2:v.Close≤100000
theorem aEu {v:aG}:dO v=true ↔ VOk v:=by
 simp only [dO,dY,dG,aR,Bool.and_eq_true,decide_eq_true_eq]
 constructor
 ·rintro ⟨⟨⟨⟨⟨a1,a2⟩,a3,a4⟩,⟨b1,b2⟩,b3,b4⟩,c1,c2⟩,c3,c4⟩
  exact ⟨a1,a2,a4,b1,b2,b4,c1,c2,c4⟩
 ·rintro ⟨a1,a2,a3,b1,b2,b3,c1,c2,c3⟩
  refine ⟨⟨⟨⟨⟨a1,a2⟩,by omega,a3⟩,⟨b1,b2⟩,by omega,b3⟩,c1,c2⟩,by omega,c3⟩
def hZ (l:List aG):Int:=if 1≤l.length∧l.length≤20 then (if l.all dO=true then 0 else 120) else 3
theorem vO {N:Nat} {l:List aG} (hl:l.length≤1000) (hN2:l.length < N):vG N l=some (hZ l):=by
 unfold vG hZ
 have c3:nP N l=some (l.all dO):=by
  unfold nP eZ fT
  exact rU (f:=lY) (ok:=dO) (λx=>rfl) hN2 (by omega) _ (λx=>rfl)
 by_cases h:1≤l.length∧l.length≤20
 ·rw [if_pos h]
  have:aR ((l.length:Nat):Int) 1 20=true:=by simp only [aR,Bool.and_eq_true,decide_eq_true_eq]; omega
  rw [this,c3]
  simp only [Bool.not_true,cond_false,Option.bind_some]
  cases l.all dO <;> rfl
 ·rw [if_neg h]
  have:aR ((l.length:Nat):Int) 1 20=false:=by
   rw [Bool.eq_false_iff]
   simp only [aR,ne_eq,Bool.and_eq_true,decide_eq_true_eq]
   omega
  rw [this]
  rfl
def bgn (f:aE→Int) (s:Int) (v:aG):Int:=max (s + f v.Way) v.Open
def bg (f:aE→Int):Int→List aG→List Int
 | _,[]=>[]
 | s,v::l=>bgn f s v::bg f (bgn f s v + f v.Work) l
def lv (f:aE→Int):Int→List aG→Int
 | s,[]=>s
 | s,v::l=>lv f (bgn f s v + f v.Work) l
theorem aN4 (f:aE→Int) (v:aG):∀ (l:List aG) (s:Int),bg f s (l++[v])=bg f s l++[bgn f (lv f s l) v]
 | [],s=>rfl
 | u::l,s=>by simp only [List.cons_append,bg,lv,aN4 f v l]
theorem aGx (f:aE→Int) (v:aG):∀ (l:List aG) (s:Int),lv f s (l++[v])=bgn f (lv f s l) v + f v.Work
 | [],s=>rfl
 | u::l,s=>by simp only [List.cons_append,lv,aGx f v l]
theorem aJm (f:aE→Int):∀ (l:List aG) (s:Int),(bg f s l).length=l.length
 | [],_=>rfl
 | _::l,s=>by simp [bg,aJm f l]
structure SelOk (f:aE→Int):Prop where
 bd:∀ s:aE,s.Lo≤s.Hi→s.Lo≤f s∧f s≤s.Hi
theorem sel_lo:SelOk aE.Lo:=⟨λs h=>⟨Int.le_refl _,h⟩⟩
theorem sel_hi:SelOk aE.Hi:=⟨λs h=>⟨h,Int.le_refl _⟩⟩
theorem aJu {f:aE→Int} (hf:SelOk f) {v:aG} (h:VOk v) {s:Int} (hs:0≤s):0≤bgn f s v∧bgn f s v≤s + 100000∧0≤f v.Work∧f v.Work≤100000∧0≤f v.Way∧f v.Way≤100000:=by
 obtain ⟨a1,a2,a3,b1,b2,b3,c1,c2,c3⟩:=h
 have:=hf.bd v.Way a2
 have:=hf.bd v.Work b2
 unfold bgn
 omega
theorem aNe {f:aE→Int} (hf:SelOk f):∀ {l:List aG} {s:Int},(∀ v ∈ l,VOk v)→0≤s→0≤lv f s l∧lv f s l≤s + 200000 * (l.length:Int)
 | [],s,_,h=>by simp [lv]; omega
 | v::l,s,hl,h=>by
  have h1:=aJu hf (hl v List.mem_cons_self) h
  have h2:=aNe hf (l:=l) (s:=bgn f s v + f v.Work) (λu hu=>hl u (List.mem_cons_of_mem _ hu)) (by omega)
  simp only [lv,List.length_cons]
  push_cast
  omega
theorem aHq {f:aE→Int} (hf:SelOk f) {l:List aG} (hl:∀ v ∈ l,VOk v) (hn:l.length≤20) {start:Int} (h0:0≤start) (h1:start≤1000000) (b:Int × List Int × Int→Option (bC (Int × List Int × Int) (List Int)))
  (hb:∀ s out x,b (s,out,x)=cond (decide (x < ((l.length:Nat):Int))) (Option.bind (aQ l x) λe_1=>Option.bind (room ((out++[max (W (s + f e_1.Way)) e_1.Open])).length) λ_=>
   some (.cont (W ((max (W (s + f e_1.Way)) e_1.Open) + f e_1.Work),(out++[max (W (s + f e_1.Way)) e_1.Open]),W (x + 1)))) (some (.brk (s,out,x)))) {N:Nat} (hN:30≤N) :
  aS b N (start,([]:List Int),0)=some (.go (lv f start l,bg f start l,(l.length:Int))):=by
 have hrun:=rK (ρ:=List Int) (λi:Nat=>(lv f start (l.take i),bg f start (l.take i),(i:Int))) l.length b (λi hi=>by
  have hv:=hl l[i] (List.getElem_mem _)
  have hlv:=aNe hf (l:=l.take i) (s:=start) (λv hv=>hl v (List.mem_of_mem_take hv)) h0
  have hbn:=aJu hf hv hlv.1
  rw [List.length_take] at hlv
  have e1:W (lv f start (l.take i) + f l[i].Way)=lv f start (l.take i) + f l[i].Way:=fB (by omega) (by omega)
  have e2:max (lv f start (l.take i) + f l[i].Way) l[i].Open=bgn f (lv f start (l.take i)) l[i]:=rfl
  have e3:W (bgn f (lv f start (l.take i)) l[i] + f l[i].Work)=lv f start (l.take (i + 1)):=by
   rw [List.take_succ_eq_append_getElem hi,aGx]
   exact fB (by omega) (by omega)
  have e4:bg f start (l.take (i + 1))=bg f start (l.take i)++[bgn f (lv f start (l.take i)) l[i]]:=by rw [List.take_succ_eq_append_getElem hi,aN4]
  rw [hb]
  simp only [bW hi,cond_true,bF hi,Option.bind_some,e1,e2,e3,bP (show i < 9223372036854775807 by omega)]
  rw [fQ (by simp [aJm]; omega),e4]
  rfl) (by rw [hb,bU,cond_false]) (N:=N) (by omega)
 have e0:(start,([]:List Int),(0:Int))=(lv f start (l.take 0),bg f start (l.take 0),((0:Nat):Int)):=rfl
 rw [e0,hrun,List.take_length]
def hrs (s:Int) (l:List aG):List aE:=(List.range l.length).map λi=>⟨(bg aE.Lo s l).getD i 0,(bg aE.Hi s l).getD i 0⟩
theorem wQ (s:Int) (l:List aG):(hrs s l).length=l.length:=by simp [hrs]
theorem aGy {s:Int} {l:List aG} {i:Nat} (h:i < l.length):(hrs s l)[i]'(by rw [wQ]; exact h)=⟨(bg aE.Lo s l).getD i 0,(bg aE.Hi s l).getD i 0⟩:=by simp [hrs]
theorem aK9 {N:Nat} (hN:30≤N) {l:List aG} (hl:∀ v ∈ l,VOk v) (hn:1≤l.length∧l.length≤20) {start:Int} (h0:0≤start) (h1:start≤100000):mI N start l=some (hrs start l,0):=by
 unfold mI
 have hc:hZ l=0:=by
  unfold hZ
  rw [if_pos hn,if_pos (List.all_eq_true.2 λv hv=>aEu.2 (hl v hv))]
 rw [vO (by omega) (by omega),hc,Option.bind_some]
 have hm:dG start=true:=by simp only [dG,aR,Bool.and_eq_true,decide_eq_true_eq]; omega
 rw [hm]
 simp only [bne_self_eq_false,cond_false,Bool.not_true]
 have e1:zV N start l=some (bg aE.Lo start l):=by
  unfold zV
  rw [aHq sel_lo hl hn.2 h0 (by omega) _ (λs out x=>rfl) hN]
  rfl
 have e2:vP N start l=some (bg aE.Hi start l):=by
  unfold vP
  rw [aHq sel_hi hl hn.2 h0 (by omega) _ (λs out x=>rfl) hN]
  rfl
 rw [e1,Option.bind_some,e2,Option.bind_some]
 have hrun:=rK (ρ:=List aE × Int) (λi:Nat=>((hrs start l).take i,(i:Int))) l.length (λs12=>pW N l (bg aE.Lo start l) (bg aE.Hi start l) s12.1 s12.2) (λi hi=>by
  show pW N l _ _ _ _=_
  unfold pW
  have g1:aQ (bg aE.Lo start l) (i:Int)=some ((bg aE.Lo start l).getD i 0):=aFj (by rw [aJm]; exact hi)
  have g2:aQ (bg aE.Hi start l) (i:Int)=some ((bg aE.Hi start l).getD i 0):=aFj (by rw [aJm]; exact hi)
  have e3:(hrs start l).take (i + 1)=(hrs start l).take i++[⟨(bg aE.Lo start l).getD i 0,(bg aE.Hi start l).getD i 0⟩]:=by
   rw [List.take_succ_eq_append_getElem (by rw [wQ]; exact hi),aGy hi]
  simp only [bW hi,cond_true,g1,g2,Option.bind_some,bP (show i < 9223372036854775807 by omega)]
  rw [fQ (by simp [wQ]; omega),e3]
  rfl) (by
  show pW N l _ _ _ _=_
  unfold pW
  rw [bU,cond_false]) (N:=N) (by omega)
 have e0:(([]:List aE),(0:Int))=((hrs start l).take 0,((0:Nat):Int)):=rfl
 rw [e0,hrun,Option.bind_some]
 show some ((hrs start l).take l.length,(0:Int))=_
 rw [List.take_of_length_le (by rw [wQ]; exact Nat.le_refl _)]
theorem aMr {N:Nat} {l:List aG} (hl:l.length≤29) (hN:30≤N) (h:hZ l ≠ 0) {start:Int}:mI N start l=some ([],hZ l):=by
 unfold mI
 rw [vO (by omega) (by omega),Option.bind_some]
 have:(hZ l != 0)=true:=by simpa using h
 rw [this]
 rfl
theorem aAq {l:List aG} (h:hZ l=0):(1≤l.length∧l.length≤20)∧∀ v ∈ l,VOk v:=by
 unfold hZ at h
 split at h
 ·rename_i h1
  split at h
  ·rename_i h2
   exact ⟨h1,λv hv=>aEu.1 (List.all_eq_true.1 h2 v hv)⟩
  ·omega
 ·omega
theorem aF3 {N:Nat} {l:List aG} (hN:30≤N) (h:hZ l=0) {start:Int} (hs:¬ (0≤start∧start≤100000)):mI N start l=some ([],4):=by
 unfold mI
 have:=(aAq h).1
 rw [vO (by omega) (by omega),h,Option.bind_some]
 have hm:dG start=false:=by
  rw [Bool.eq_false_iff]
  simp only [dG,aR,ne_eq,Bool.and_eq_true,decide_eq_true_eq]
  exact hs
 rw [hm]
 rfl
def fi (p:Nat→Bool):Nat→Nat→Int
 | _,0=>-1
 | k,m + 1=>if p k then (k:Int) else fi p (k + 1) m
theorem aNz {p:Nat→Bool}:∀ {m k:Nat},fi p k m = -1 ↔ ∀ i,k≤i→i < k + m→p i=false
 | 0,k=>by simp [fi]; omega
 | m + 1,k=>by
  unfold fi
  by_cases h:p k=true
  ·rw [if_pos h]
   constructor
   ·intro h2; omega
   ·intro h2; have:=h2 k (Nat.le_refl _) (by omega); rw [h] at this; cases this
  ·rw [if_neg h,aNz]
   have h':p k=false:=by simpa using h
   constructor
   ·intro h2 i hi hm
    rcases Nat.eq_or_lt_of_le hi with rfl | hi
    ·exact h'
    ·exact h2 i (by omega) (by omega)
   ·intro h2 i hi hm; exact h2 i (by omega) (by omega)
def rP (s:Int) (l:List aG) (i:Nat):Bool:=decide ((l.getD i ⟨⟨0,0⟩,⟨0,0⟩,0,0⟩).Close < (bg aE.Hi s l).getD i 0)
def aBp (s:Int) (l:List aG) (i:Nat):Bool:=decide ((l.getD i ⟨⟨0,0⟩,⟨0,0⟩,0,0⟩).Close < (bg aE.Lo s l).getD i 0)
theorem aRr {N:Nat} (hN:30≤N) {l:List aG} (hl:∀ v ∈ l,VOk v) (hn:1≤l.length∧l.length≤20) {start:Int} (h0:0≤start) (h1:start≤100000) :
  uV N start l=some (fi (rP start l) 0 l.length,fi (aBp start l) 0 l.length,0):=by
 unfold uV
 rw [aK9 hN hl hn h0 h1,Option.bind_some]
 simp only [bne_self_eq_false,cond_false]
 have hrun:=rK (ρ:=Int × Int × Int) (λj:Nat=>(fi (rP start l) (l.length - j) j,fi (aBp start l) (l.length - j) j,((l.length:Nat):Int) - 1 - (j:Int))) l.length (λs9=>qT N l (hrs start l,0) s9.1 s9.2.1 s9.2.2) (λj hj=>by
  show qT N l _ _ _ _=_
  unfold qT
  have e1:(((l.length:Nat):Int) - 1 - (j:Int))=((l.length - (j + 1):Nat):Int):=by omega
  have hk:l.length - (j + 1) < l.length:=by omega
  rw [e1]
  have d1:decide ((0:Int)≤((l.length - (j + 1):Nat):Int))=true:=by simp
  have g1:aQ (hrs start l) ((l.length - (j + 1):Nat):Int)=some ⟨(bg aE.Lo start l).getD (l.length - (j + 1)) 0,(bg aE.Hi start l).getD (l.length - (j + 1)) 0⟩:=by
   rw [bF (by rw [wQ]; exact hk),aGy hk]
  have g2:aQ l ((l.length - (j + 1):Nat):Int)=some (l.getD (l.length - (j + 1)) ⟨⟨0,0⟩,⟨0,0⟩,0,0⟩):=by rw [bF hk,cP]
  simp only [d1,cond_true,g1,g2,Option.bind_some]
  have e2:W (((l.length - (j + 1):Nat):Int) - 1)=((l.length:Nat):Int) - 1 - ((j + 1:Nat):Int):=by rw [fB (by omega) (by omega)]; omega
  have e3:l.length - j=l.length - (j + 1) + 1:=by omega
  have e4:∀ p:Nat→Bool,fi p (l.length - (j + 1)) (j + 1)=if p (l.length - (j + 1)) then ((l.length - (j + 1):Nat):Int) else fi p (l.length - j) j:=λp=>by rw [e3]; rfl
  unfold tO tR
  simp only [g1,g2,Option.bind_some,e2]
  rw [e4,e4]
  simp only [rP,aBp]
  rcases cH (decide ((l.getD (l.length - (j + 1)) ⟨⟨0,0⟩,⟨0,0⟩,0,0⟩).Close < (bg aE.Hi start l).getD (l.length - (j + 1)) 0)) with h3 | h3 <;>
  rcases cH (decide ((l.getD (l.length - (j + 1)) ⟨⟨0,0⟩,⟨0,0⟩,0,0⟩).Close < (bg aE.Lo start l).getD (l.length - (j + 1)) 0)) with h4 | h4 <;>
  simp only [h3,h4,cond_true,cond_false,if_true,Bool.false_eq_true,if_false]) (by
  show qT N l _ _ _ _=_
  unfold qT
  have:decide ((0:Int)≤((l.length:Nat):Int) - 1 - ((l.length:Nat):Int))=false:=by simp; omega
  rw [this,cond_false]) (N:=N) (by omega)
 have e0:((-1:Int),(-1:Int),W (((l.length:Nat):Int) - 1))=(fi (rP start l) (l.length - 0) 0,fi (aBp start l) (l.length - 0) 0,((l.length:Nat):Int) - 1 - ((0:Nat):Int)):=by
  rw [fB (by omega) (by omega)]
  simp [fi]
 rw [e0,hrun,Option.bind_some]
 simp only [exK,Nat.sub_self]
def lat:List aG→Option Int
 | []=>some 200000
 | v::l=>match lat l with
  | none=>none
  | some b=>if min v.Close (b - v.Work.Hi) < v.Open then none else some (min v.Close (b - v.Work.Hi) - v.Way.Hi)
def inT:Int→List aG→Prop
 | s,[]=>s≤200000
 | s,v::l=>bgn aE.Hi s v≤v.Close∧inT (bgn aE.Hi s v + v.Work.Hi) l
theorem aN2:∀ {l:List aG} {s:Int},inT s l ↔ ∃ B,lat l=some B∧s≤B
 | [],s=>by simp [inT,lat]
 | v::l,s=>by
  unfold inT lat
  rw [aN2]
  unfold bgn
  cases lat l with
  | none=>simp
  | some b=>
   dsimp only
   by_cases h:min v.Close (b - v.Work.Hi) < v.Open
   ·rw [if_pos h]
    constructor
    ·rintro ⟨h1,B,hB,h2⟩
     have:B=b:=(Option.some.inj hB).symm
     subst this
     omega
    ·rintro ⟨B,hB,_⟩; cases hB
   ·rw [if_neg h]
    constructor
    ·rintro ⟨h1,B,hB,h2⟩
     have:B=b:=(Option.some.inj hB).symm
     subst this
     exact ⟨_,rfl,by omega⟩
    ·rintro ⟨B,hB,h2⟩
     have:=Option.some.inj hB
     subst this
     exact ⟨by omega,b,rfl,by omega⟩
theorem aIc:∀ {l:List aG} {s:Int},(∀ v ∈ l,VOk v)→s≤200000→(inT s l ↔ ∀ i,i < l.length→rP s l i=false)
 | [],s,_,h=>by simp [inT]; omega
 | v::l,s,hl,h=>by
  unfold inT
  have hv:=hl v List.mem_cons_self
  constructor
  ·rintro ⟨h1,h2⟩ i hi
   rw [aIc (λu hu=>hl u (List.mem_cons_of_mem _ hu)) (by have:=hv.o2; have:=hv.k2; omega)] at h2
   cases i with
   | zero=>simp only [rP,bg,List.getD_cons_zero,decide_eq_false_iff_not]; omega
   | succ i=>
    have:=h2 i (by simpa using hi)
    simpa only [rP,bg,List.getD_cons_succ] using this
  ·intro h2
   have h3:=h2 0 (by simp)
   simp only [rP,bg,List.getD_cons_zero,decide_eq_false_iff_not] at h3
   refine ⟨by omega,?_⟩
   rw [aIc (λu hu=>hl u (List.mem_cons_of_mem _ hu)) (by have:=hv.o2; have:=hv.k2; omega)]
   intro i hi
   have:=h2 (i + 1) (by simpa using hi)
   simpa only [rP,bg,List.getD_cons_succ] using this
theorem aMk:∀ {l:List aG} {B:Int},(∀ v ∈ l,VOk v)→lat l=some B→B≤200000∧(l ≠ []→B≤100000)∧-100000≤B + (if l=[] then 0 else 0)
 | [],B,_,h=>by simp [lat] at h; subst h; simp
 | v::l,B,hl,h=>by
  have hv:=hl v List.mem_cons_self
  unfold lat at h
  cases hb:lat l with
  | none=>rw [hb] at h; cases h
  | some b=>
   rw [hb] at h
   dsimp only at h
   have ih:=aMk (λu hu=>hl u (List.mem_cons_of_mem _ hu)) hb
   split at h
   ·cases h
   ·have:=Option.some.inj h
    obtain ⟨a1,a2,a3,b1,b2,b3,c1,c2,c3⟩:=hv
    simp
    omega
theorem aOa {N:Nat} (hN:30≤N) {l:List aG} (h:hZ l=0):qM N l=some (match lat l with | none=>(0,5) | some B=>if B < 0 then (0,5) else (B,0)):=by
 obtain ⟨hn,hl⟩:=aAq h
 unfold qM
 rw [vO (by omega) (by omega),h,Option.bind_some]
 simp only [bne_self_eq_false,cond_false]
 have key:∀ (m k M:Nat),k + m=l.length→k < M→∀ B,lat (l.drop k)=some B →
   aS (λs9=>sI N l s9.1 s9.2) M (B,(k:Int) - 1)=some (match lat l with | none=>.out (0,5) | some B=>.go (B,-1)):=by
  intro m k
  induction k generalizing m with
  | zero=>
   intro M _ hM B hB
   obtain ⟨M,rfl⟩:∃ M',M=M' + 1:=⟨M - 1,by omega⟩
   rw [List.drop_zero] at hB
   rw [hB]
   unfold aS
   rfl
  | succ k ih=>
   intro M hk hM B hB
   obtain ⟨M,rfl⟩:∃ M',M=M' + 1:=⟨M - 1,by omega⟩
   have hk':k < l.length:=by omega
   have hd:l.drop k=l[k]::l.drop (k + 1):=List.drop_eq_getElem_cons hk'
   have hv:=hl l[k] (List.getElem_mem _)
   have hbd:=aMk (λv hv=>hl v (List.mem_of_mem_drop hv)) hB
   unfold aS
   have e1:(((k + 1:Nat):Int) - 1)=(k:Int):=by omega
   rw [e1]
   have hstep:sI N l B (k:Int)=if min l[k].Close (B - l[k].Work.Hi) < l[k].Open then some (.ret (0,5)) else some (.cont (min l[k].Close (B - l[k].Work.Hi) - l[k].Way.Hi,(k:Int) - 1)):=by
    unfold sI
    have d1:decide ((0:Int)≤(k:Int))=true:=by simp
    obtain ⟨a1,a2,a3,b1,b2,b3,c1,c2,c3⟩:=hv
    have w1:W (B - l[k].Work.Hi)=B - l[k].Work.Hi:=fB (by simp at hbd; omega) (by omega)
    simp only [d1,cond_true,bF hk',Option.bind_some,w1]
    by_cases hc:min l[k].Close (B - l[k].Work.Hi) < l[k].Open
    ·rw [if_pos hc]; simp [hc]
    ·rw [if_neg hc]
     have w2:W (min l[k].Close (B - l[k].Work.Hi) - l[k].Way.Hi)=min l[k].Close (B - l[k].Work.Hi) - l[k].Way.Hi:=fB (by omega) (by omega)
     have w3:W ((k:Int) - 1)=(k:Int) - 1:=fB (by omega) (by omega)
     simp [hc,w2,w3]
   rw [hstep]
   by_cases hc:min l[k].Close (B - l[k].Work.Hi) < l[k].Open
   ·rw [if_pos hc]
    have:lat (l.drop k)=none:=by rw [hd]; unfold lat; rw [hB]; dsimp only; rw [if_pos hc]
    have hnone:∀ j,j≤k→lat (l.drop (k - j))=none:=by
     intro j hj
     induction j with
     | zero=>exact this
     | succ j ihj=>
      have h1:=ihj (by omega)
      have h2:l.drop (k - (j + 1))=l[k - (j + 1)]::l.drop (k - j):=by
       rw [List.drop_eq_getElem_cons (by omega)]
       congr 2
       omega
      rw [h2]
      unfold lat
      rw [h1]
    have:=hnone k (Nat.le_refl _)
    rw [Nat.sub_self,List.drop_zero] at this
    rw [this]
   ·rw [if_neg hc]
    have:lat (l.drop k)=some (min l[k].Close (B - l[k].Work.Hi) - l[k].Way.Hi):=by rw [hd]; unfold lat; rw [hB]; dsimp only; rw [if_neg hc]
    exact ih (l.length - k) M (by omega) (by omega) _ this
 have e0:W (((l.length:Nat):Int) - 1)=((l.length:Nat):Int) - 1:=fB (by omega) (by omega)
 rw [e0,key 0 l.length N (by omega) (by omega) 200000 (by simp [lat])]
 cases lat l with
 | none=>rfl
 | some B=>
  simp only [Option.bind_some,exK]
  by_cases hB:B < 0
  ·simp [hB]
  ·simp [hB]
end Go.Nilo.Ro
namespace Go.Nilo.Ro
theorem aLx (f:aE→Int):∀ (l:List aG) (s:Int) (i:Nat) (h:i < l.length),(bg f s l).getD i 0=bgn f (lv f s (l.take i)) l[i]
 | v::l,s,0,_=>rfl
 | v::l,s,i + 1,h=>by
  have:=aLx f l (bgn f s v + f v.Work) i (by simpa using h)
  simpa only [bg,lv,List.getD_cons_succ,List.take_succ_cons,List.getElem_cons_succ] using this
def rv (v:aG):bV:=⟨v.Way,v.Work,v.Open,v.Close⟩
theorem aGw {l:List aG} {i:Nat} (hi:i < l.length):aQ (l.map rv) (i:Int)=some (rv l[i]):=by
 rw [bF (by simpa using hi)]; simp
theorem aOx {N:Nat} {l:List aG} (hl:l.length≤100) (hN:101≤N):sV N l=some (l.map rv):=by
 unfold sV
 have hrun:=rK (ρ:=List bV) (λi:Nat=>((l.map rv).take i,(i:Int))) l.length (λs5=>nZ N l s5.1 s5.2) (λi hi=>by
  show nZ N l _ _=_
  unfold nZ
  have e3:(l.map rv).take (i + 1)=(l.map rv).take i++[rv l[i]]:=by
   rw [List.take_succ_eq_append_getElem (by simpa using hi)]; simp
  simp only [bW hi,cond_true,bF hi,Option.bind_some,bP (show i < 9223372036854775807 by omega)]
  rw [fQ (by simp; omega),e3]
  rfl) (by
  show nZ N l _ _=_
  unfold nZ
  rw [bU,cond_false]) (N:=N) (by omega)
 have e0:(([]:List bV),(0:Int))=((l.map rv).take 0,((0:Nat):Int)):=rfl
 rw [e0,hrun,Option.bind_some]
 show some ((l.map rv).take l.length)=_
 rw [List.take_of_length_le (by simp)]
theorem aS2 (v:aG):(((((cL (rv v).Way 100000) || (cL (rv v).Work 100000)) || (decide ((rv v).Open < 0))) || (decide (100000 < (rv v).Close))) || (decide ((rv v).Close < (rv v).Open))) = !dO v:=by
 show ((((((decide (v.Way.Lo < 0) || decide (100000 < v.Way.Hi)) || decide (v.Way.Hi < v.Way.Lo)) || ((decide (v.Work.Lo < 0) || decide (100000 < v.Work.Hi)) || decide (v.Work.Hi < v.Work.Lo))) || decide (v.Open < 0)) || decide (100000 < v.Close)) || decide (v.Close < v.Open)) = !dO v
 by_cases h:VOk v
 ·rw [aEu.2 h]
  obtain ⟨a1,a2,a3,b1,b2,b3,c1,c2,c3⟩:=h
  simp only [Bool.not_true,Bool.or_eq_false_iff,decide_eq_false_iff_not]
  omega
 ·have h1:dO v=false:=by
   rw [Bool.eq_false_iff]
   exact λe=>h (aEu.1 e)
  rw [h1]
  simp only [Bool.not_false,Bool.or_eq_true,decide_eq_true_eq]
  refine Decidable.byContradiction λhc=>h ?_
  constructor <;> omega
theorem aB4 {N:Nat} {l:List aG} (hl:l.length≤100) (hN:101≤N):xB N (l.map rv)=some (hZ l):=by
 unfold xB hZ
 rw [List.length_map]
 by_cases h:1≤l.length∧l.length≤20
 ·rw [if_pos h]
  have c:((decide (((l.length:Nat):Int) < 1)) || (decide (20 < ((l.length:Nat):Int))))=false:=by
   rw [Bool.or_eq_false_iff,decide_eq_false_iff_not,decide_eq_false_iff_not]; omega
  rw [c,cond_false]
  have hs:=tP (ρ:=Int) (λi:Nat=>(i:Int)) (λj=>cond (dO (l.getD j ⟨⟨0,0⟩,⟨0,0⟩,0,0⟩)) none (some 120)) l.length (λs7=>nD N (l.map rv) s7) (λi hi=>by
   show nD N (l.map rv) _=_
   unfold nD
   rw [List.length_map,bW hi,cond_true,aGw hi,Option.bind_some,bP (by omega),aS2,cP (d:=(⟨⟨0,0⟩,⟨0,0⟩,0,0⟩:aG)) hi]
   cases dO (l.getD i ⟨⟨0,0⟩,⟨0,0⟩,0,0⟩) <;> rfl) (by
   show nD N (l.map rv) _=_
   unfold nD
   rw [List.length_map,bU,cond_false]) l.length 0 N (by omega) (by omega)
  rw [show ((0:Nat):Int)=0 from rfl,oG l.length 0 (by omega),List.drop_zero] at hs
  rw [hs]
  cases l.all dO <;> rfl
 ·rw [if_neg h]
  have c:((decide (((l.length:Nat):Int) < 1)) || (decide (20 < ((l.length:Nat):Int))))=true:=by
   rw [Bool.or_eq_true,decide_eq_true_eq,decide_eq_true_eq]; omega
  rw [c]
  rfl
theorem aLq {β:Type} (f:Int→β) (x o:Int):cond (decide (x < o)) (f o) (f x)=f (max x o):=by
 by_cases h:x < o
 ·rw [decide_eq_true h,cond_true,show max x o=o by omega]
 ·rw [decide_eq_false h,cond_false,show max x o=x by omega]
theorem aF0 {N:Nat} (hN:101≤N) {l:List aG} (hl:∀ v ∈ l,VOk v) (hn:1≤l.length∧l.length≤20) {start:Int} (h0:0≤start) (h1:start≤100000):lH N start (l.map rv)=some (hrs start l,0):=by
 unfold lH
 have hc:hZ l=0:=by
  unfold hZ
  rw [if_pos hn,if_pos (List.all_eq_true.2 λv hv=>aEu.2 (hl v hv))]
 rw [aB4 (by omega) hN,hc,Option.bind_some]
 have hm:aK start 0 100000=false:=by
  unfold aK
  rw [Bool.or_eq_false_iff,decide_eq_false_iff_not,decide_eq_false_iff_not]; omega
 rw [hm]
 simp only [bne_self_eq_false,cond_false]
 have hrun:=rK (ρ:=List aE × Int) (λi:Nat=>(lv aE.Lo start (l.take i),lv aE.Hi start (l.take i),(hrs start l).take i,(i:Int))) l.length (λs13=>mA N (l.map rv) s13.1 s13.2.1 s13.2.2.1 s13.2.2.2) (λi hi=>by
  have hv:=hl l[i] (List.getElem_mem _)
  have ha:=aNe sel_lo (l:=l.take i) (s:=start) (λv hv=>hl v (List.mem_of_mem_take hv)) h0
  have hb:=aNe sel_hi (l:=l.take i) (s:=start) (λv hv=>hl v (List.mem_of_mem_take hv)) h0
  rw [List.length_take] at ha hb
  have ba:=aJu sel_lo hv ha.1
  have bb:=aJu sel_hi hv hb.1
  show mA N (l.map rv) (lv aE.Lo start (l.take i)) (lv aE.Hi start (l.take i)) ((hrs start l).take i) (i:Int)=_
  unfold mA
  rw [List.length_map,bW hi,cond_true,aGw hi,Option.bind_some]
  have e1:W (lv aE.Lo start (l.take i) + (rv l[i]).Way.Lo)=lv aE.Lo start (l.take i) + l[i].Way.Lo:=fB (by show _≤_ + l[i].Way.Lo; omega) (by show _ + l[i].Way.Lo≤_; omega)
  have e2:W (lv aE.Hi start (l.take i) + (rv l[i]).Way.Hi)=lv aE.Hi start (l.take i) + l[i].Way.Hi:=fB (by show _≤_ + l[i].Way.Hi; omega) (by show _ + l[i].Way.Hi≤_; omega)
  rw [aLq (λa=>nY N (lv aE.Hi start (l.take i)) ((hrs start l).take i) (i:Int) (rv l[i]) a)]
  unfold nY
  rw [aLq (λa=>oA N ((hrs start l).take i) (i:Int) (rv l[i]) (max (W (lv aE.Lo start (l.take i) + (rv l[i]).Way.Lo)) (rv l[i]).Open) a),e1,e2]
  unfold oA
  have f1:max (lv aE.Lo start (l.take i) + l[i].Way.Lo) (rv l[i]).Open=bgn aE.Lo (lv aE.Lo start (l.take i)) l[i]:=rfl
  have f2:max (lv aE.Hi start (l.take i) + l[i].Way.Hi) (rv l[i]).Open=bgn aE.Hi (lv aE.Hi start (l.take i)) l[i]:=rfl
  rw [f1,f2]
  have g1:W (bgn aE.Lo (lv aE.Lo start (l.take i)) l[i] + (rv l[i]).Work.Lo)=lv aE.Lo start (l.take (i + 1)):=by
   rw [List.take_succ_eq_append_getElem hi,aGx]
   exact fB (by show _≤_ + l[i].Work.Lo; omega) (by show _ + l[i].Work.Lo≤_; omega)
  have g2:W (bgn aE.Hi (lv aE.Hi start (l.take i)) l[i] + (rv l[i]).Work.Hi)=lv aE.Hi start (l.take (i + 1)):=by
   rw [List.take_succ_eq_append_getElem hi,aGx]
   exact fB (by show _≤_ + l[i].Work.Hi; omega) (by show _ + l[i].Work.Hi≤_; omega)
  have g3:(hrs start l).take (i + 1)=(hrs start l).take i++[⟨bgn aE.Lo (lv aE.Lo start (l.take i)) l[i],bgn aE.Hi (lv aE.Hi start (l.take i)) l[i]⟩]:=by
   rw [List.take_succ_eq_append_getElem (by rw [wQ]; exact hi),aGy hi,aLx _ _ _ _ hi,aLx _ _ _ _ hi]
  rw [g1,g2,fQ (by simp [wQ]; omega),g3,bP (by omega)]
  rfl) (by
  show mA N (l.map rv) _ _ _ _=_
  unfold mA
  rw [List.length_map,bU,cond_false]) (N:=N) (by omega)
 have e0:(start,start,([]:List aE),(0:Int))=(lv aE.Lo start (l.take 0),lv aE.Hi start (l.take 0),(hrs start l).take 0,((0:Nat):Int)):=rfl
 rw [e0,hrun,Option.bind_some]
 show some ((hrs start l).take l.length,(0:Int))=_
 rw [List.take_of_length_le (by rw [wQ]; exact Nat.le_refl _)]
theorem aIh {N:Nat} {l:List aG} (hl:l.length≤29) (hN:101≤N) (h:hZ l ≠ 0) {start:Int}:lH N start (l.map rv)=some ([],hZ l):=by
 unfold lH
 rw [aB4 (by omega) (by omega),Option.bind_some]
 have:(hZ l != 0)=true:=by simpa using h
 rw [this]
 rfl
theorem aB1 {N:Nat} {l:List aG} (hN:101≤N) (h:hZ l=0) {start:Int} (hs:¬ (0≤start∧start≤100000)):lH N start (l.map rv)=some ([],4):=by
 unfold lH
 have:=(aAq h).1
 rw [aB4 (by omega) (by omega),h,Option.bind_some]
 have hm:aK start 0 100000=true:=by
  unfold aK
  rw [Bool.or_eq_true,decide_eq_true_eq,decide_eq_true_eq]; omega
 rw [hm]
 rfl
theorem aM1 {p:Nat→Bool}:∀ {m k:Nat},fi p k (m + 1)=if fi p k m = -1 then (if p (k + m) then ((k + m:Nat):Int) else -1) else fi p k m
 | 0,k=>by simp [fi]
 | m + 1,k=>by
  rw [show fi p k (m + 1 + 1)=if p k then (k:Int) else fi p (k + 1) (m + 1) from rfl,show fi p k (m + 1)=if p k then (k:Int) else fi p (k + 1) m from rfl]
  by_cases h:p k=true
  ·rw [if_pos h,if_pos h,if_neg (by omega)]
  ·rw [if_neg h,if_neg h,aM1,show k + 1 + m=k + (m + 1) by omega]
theorem aI2 {p:Nat→Bool} {i:Nat} {β:Type} (x:Option Bool) (hx:x=some (p i)) (F:Int→Option β):(Option.bind (cond (fi p 0 i == -1) x (some false)) λt=>cond t (F (i:Int)) (F (fi p 0 i)))=F (fi p 0 (i + 1)):=by
 subst hx
 rw [aM1,Nat.zero_add]
 by_cases h:fi p 0 i = -1
 ·rw [h,if_pos rfl,show ((-1:Int) == -1)=true from rfl,cond_true,Option.bind_some]
  cases p i <;> rfl
 ·rw [if_neg h,beq_eq_false_iff_ne.2 h]; rfl
theorem aEa {N:Nat} (hN:101≤N) {l:List aG} (hl:∀ v ∈ l,VOk v) (hn:1≤l.length∧l.length≤20) {start:Int} (h0:0≤start) (h1:start≤100000) :
  qP N start (l.map rv)=some (fi (rP start l) 0 l.length,fi (aBp start l) 0 l.length,0):=by
 unfold qP
 rw [aF0 hN hl hn h0 h1,Option.bind_some]
 simp only [bne_self_eq_false,cond_false]
 have hrun:=rK (ρ:=Int × Int × Int) (λi:Nat=>(fi (rP start l) 0 i,fi (aBp start l) 0 i,(i:Int))) l.length (λs9=>oV N (l.map rv) (hrs start l,0) s9.1 s9.2.1 s9.2.2) (λi hi=>by
  show oV N (l.map rv) (hrs start l,0) (fi (rP start l) 0 i) (fi (aBp start l) 0 i) (i:Int)=_
  unfold oV
  have g1:aQ (hrs start l) (i:Int)=some ⟨(bg aE.Lo start l).getD i 0,(bg aE.Hi start l).getD i 0⟩:=by
   rw [bF (by rw [wQ]; exact hi),aGy hi]
  have c1:(rv l[i]).Close=(l.getD i ⟨⟨0,0⟩,⟨0,0⟩,0,0⟩).Close:=by rw [← cP hi]; rfl
  rw [List.length_map,bW hi,cond_true]
  refine (aI2 (p:=rP start l) _ (by show (Option.bind (aQ (hrs start l) (i:Int)) _)=_; rw [g1,aGw hi,Option.bind_some,Option.bind_some,c1]; rfl) (λc=>nE N (l.map rv) (hrs start l,0) (fi (aBp start l) 0 i) (i:Int) c)).trans ?_
  show nE N (l.map rv) (hrs start l,0) (fi (aBp start l) 0 i) (i:Int) (fi (rP start l) 0 (i + 1))=_
  unfold nE
  refine (aI2 (p:=aBp start l) _ (by show (Option.bind (aQ (hrs start l) (i:Int)) _)=_; rw [g1,aGw hi,Option.bind_some,Option.bind_some,c1]; rfl) (λc=>nI N (i:Int) (fi (rP start l) 0 (i + 1)) c)).trans ?_
  show nI N (i:Int) (fi (rP start l) 0 (i + 1)) (fi (aBp start l) 0 (i + 1))=_
  unfold nI
  rw [bP (by omega)]) (by
  show oV N (l.map rv) _ _ _ _=_
  unfold oV
  rw [List.length_map,bU,cond_false]) (N:=N) (by omega)
 have e0:((-1:Int),(-1:Int),(0:Int))=(fi (rP start l) 0 0,fi (aBp start l) 0 0,((0:Nat):Int)):=rfl
 rw [e0,hrun,Option.bind_some]
 rfl
theorem aDa {l:List aG} (hl:∀ v ∈ l,VOk v) {s:Int} (h:s≤200000):fi (rP s l) 0 l.length = -1 ↔ ∃ B,lat l=some B∧s≤B:=by
 rw [aNz,← aN2,aIc hl h]
 constructor
 ·intro h i hi; exact h i (Nat.zero_le _) (by omega)
 ·intro h i _ hi; exact h i (by omega)
theorem aLt {N:Nat} (hN:101≤N) {l:List aG} (hl:∀ v ∈ l,VOk v) (hn:1≤l.length∧l.length≤20):∀ (M K:Nat) (T:Int) (g b:Int),T=(2:Int) ^ M→M < K→0≤g→g < b→b≤100001→fi (rP g l) 0 l.length = -1→(b=100001 ∨ fi (rP b l) 0 l.length ≠ -1)→b - g≤T →
  ∃ g',aS (λs12=>kJ N (l.map rv) s12.1 s12.2) K (g,b)=some (.go (g',g' + 1))∧0≤g'∧g'≤100000∧fi (rP g' l) 0 l.length = -1∧(g' + 1=100001 ∨ fi (rP (g' + 1) l) 0 l.length ≠ -1)
 | M,0,T,g,b,_,h,_,_,_,_,_,_=>by omega
 | M,K + 1,T,g,b,hT,hK,h0,h1,h2,h3,h4,h5=>by
  by_cases hb:b=g + 1
  ·subst hb
   refine ⟨g,?_,h0,by omega,h3,h4⟩
   unfold aS
   have:kJ N (l.map rv) g (g + 1)=some (.brk (g,g + 1)):=by
    unfold kJ
    rw [fB (by omega) (by omega),show decide (1 < g + 1 - g)=false by rw [decide_eq_false_iff_not]; omega]
    rfl
   dsimp only
   rw [this]
  ·obtain ⟨M,rfl⟩:∃ M',M=M' + 1:=⟨M - 1,by
    rcases Nat.eq_zero_or_pos M with rfl | h
    ·rw [Int.pow_zero] at hT; omega
    ·omega⟩
   have hT2:T=2 ^ M * 2:=by rw [hT,Int.pow_succ]
   have hm:W ((W (g + b)).tdiv 2)=(g + b) / 2:=by
    rw [fB (n:=g + b) (by omega) (by omega),aG1 (by omega),fB (by omega) (by omega)]
   have hstep:kJ N (l.map rv) g b=cond (fi (rP ((g + b) / 2) l) 0 l.length == -1) (some (.cont ((g + b) / 2,b))) (some (.cont (g,(g + b) / 2))):=by
    unfold kJ
    rw [fB (n:=b - g) (by omega) (by omega),show decide (1 < b - g)=true by rw [decide_eq_true_eq]; omega,cond_true,hm,aEa hN hl hn (by omega) (by omega),Option.bind_some]
   by_cases hp:fi (rP ((g + b) / 2) l) 0 l.length = -1
   ·obtain ⟨g',a1,a2⟩:=aLt hN hl hn M K (2 ^ M) ((g + b) / 2) b rfl (by omega) (by omega) (by omega) h2 hp h4 (by omega)
    refine ⟨g',?_,a2⟩
    unfold aS
    dsimp only
    rw [hstep,hp]
    exact a1
   ·obtain ⟨g',a1,a2⟩:=aLt hN hl hn M K (2 ^ M) g ((g + b) / 2) rfl (by omega) (by omega) (by omega) (by omega) h3 (Or.inr hp) (by omega)
    refine ⟨g',?_,a2⟩
    unfold aS
    dsimp only
    rw [hstep,beq_eq_false_iff_ne.2 hp]
    exact a1
theorem aJh {N:Nat} (hN:101≤N) {l:List aG} (h:hZ l=0):qQ N (l.map rv)=some (match lat l with | none=>(0,5) | some B=>if B < 0 then (0,5) else (B,0)):=by
 obtain ⟨hn,hl⟩:=aAq h
 unfold qQ
 rw [aB4 (by omega) hN,h,Option.bind_some]
 simp only [bne_self_eq_false,cond_false]
 rw [aEa hN hl hn (by omega) (by omega),Option.bind_some]
 by_cases h0:fi (rP 0 l) 0 l.length = -1
 ·obtain ⟨B,hB,hB0⟩:=(aDa hl (by omega)).1 h0
  obtain ⟨g,a1,a2,a3,a4,a5⟩:=aLt hN hl hn 17 N (2 ^ 17) 0 100001 rfl (by omega) (by omega) (by omega) (by omega) h0 (Or.inl rfl) (by decide)
  obtain ⟨B',hB',hg⟩:=(aDa hl (by omega)).1 a4
  rw [hB] at hB'
  obtain rfl:=Option.some.inj hB'
  have hle:=(aMk hl hB).2.1 (by intro e; rw [e] at hn; simp at hn)
  have:g=B:=by
   rcases a5 with a5 | a5
   ·omega
   ·by_cases hc:g + 1≤B
    ·exact absurd ((aDa hl (by omega)).2 ⟨B,hB,hc⟩) a5
    ·omega
  subst this
  dsimp only
  rw [h0,show ((-1:Int) != -1)=false from rfl,cond_false,a1,hB]
  dsimp only
  rw [if_neg (by omega)]
  rfl
 ·dsimp only
  rw [bne_iff_ne.2 h0,cond_true]
  have hno:¬ ∃ B,lat l=some B∧(0:Int)≤B:=λe=>h0 ((aDa hl (by omega)).2 e)
  cases hlat:lat l with
  | none=>rfl
  | some B=>
   dsimp only
   rw [if_pos (by
    rcases Int.lt_or_le B 0 with h | h
    ·exact h
    ·exact absurd ⟨B,hlat,h⟩ hno)]
theorem aLo {N:Nat} {l:List aG} (hl:l.length≤29) (hN:101≤N) (h:hZ l ≠ 0):qM N l=some (0,hZ l)∧qQ N (l.map rv)=some (0,hZ l):=by
 have h2:(hZ l != 0)=true:=by simpa using h
 constructor
 ·unfold qM
  rw [vO (by omega) (by omega),Option.bind_some,h2]
  rfl
 ·unfold qQ
  rw [aB4 (by omega) (by omega),Option.bind_some,h2]
  rfl
theorem aJ9 {N:Nat} {l:List aG} {start c:Int} (hc:c ≠ 0) (h1:mI N start l=some ([],c)) (h2:lH N start (l.map rv)=some ([],c)):uV N start l=some (0,0,c)∧qP N start (l.map rv)=some (0,0,c):=by
 have hb:(c != 0)=true:=by simpa using hc
 constructor
 ·unfold uV
  rw [h1,Option.bind_some,hb]
  rfl
 ·unfold qP
  rw [h2,Option.bind_some,hb]
  rfl
end Go.Nilo.Ro
namespace Go.Nilo.Ro
structure aKa (p:dN):Prop where
 r0:0≤p.Rate
 r1:p.Rate≤10000
 n0:0≤p.Normal
 n1:p.Normal≤1440
 e0:0≤p.Extra
 e1:p.Extra≤1000
def qZ (p:dN) (n:Int):Int:=p.Rate * (1000 * n + p.Extra * max 0 (n - p.Normal))
theorem aNp {p:dN} (h:aKa p) {n:Int} (h0:0≤n) (h1:n≤1440):0≤qZ p n∧qZ p n≤28800000000:=by
 have a:=aCm (a:=p.Extra) (b:=max 0 (n - p.Normal)) h.e0 (by omega) h.e1 (B:=1440) (by have:=h.n0; omega)
 have b:=aCm (a:=p.Rate) (b:=1000 * n + p.Extra * max 0 (n - p.Normal)) h.r0 (by omega) h.r1 (B:=2880000) (by omega)
 unfold qZ
 omega
theorem aMy {p:dN} (h:aKa p):∀ {l:List Int},(∀ n ∈ l,0≤n∧n≤1440)→0≤cI (qZ p) l∧cI (qZ p) l≤28800000000 * (l.length:Int)
 | [],_=>by simp [cI]
 | a::l,hl=>by
  have h1:=aMy h (l:=l) λn hn=>hl n (List.mem_cons_of_mem _ hn)
  have h2:=hl a List.mem_cons_self
  have h3:=aNp h h2.1 h2.2
  have e:cI (qZ p) (a::l)=qZ p a + cI (qZ p) l:=by simp [cI]
  rw [e,List.length_cons]
  push_cast
  omega
def aO6 (p:dN) (l:List Int):Int:=(cI (qZ p) l + 59999) / 60000
theorem aRo {N:Nat} {p:dN} (h:aKa p) {l:List Int} (hl:∀ n ∈ l,0≤n∧n≤1440) (hn:l.length≤366) (hN:400≤N):kI N p l=some (aO6 p l,0):=by
 obtain ⟨r0,r1,n0,n1,e0,e1⟩:=id h
 unfold kI
 have c1:((!(aR p.Rate 0 10000)) || (!(aR p.Normal 0 1440)) || (!(aR p.Extra 0 1000)))=false:=by
  simp [aR,r0,r1,n0,n1,e0,e1]
 have c2:decide ((366:Int) < ((l.length:Nat):Int))=false:=by simp; omega
 have c3:lX N l=some (l.all λn=>inB n 0 1440):=by
  unfold lX fV iE
  exact rU (f:=mM) (ok:=λn=>inB n 0 1440) (λx=>rfl) (by omega) (by omega) _ (λx=>rfl)
 have c4:(l.all λn=>inB n 0 1440)=true:=by
  rw [List.all_eq_true]
  intro n hn'
  have:=hl n hn'
  simp [inB,this.1,this.2]
 rw [c1,c2,c3,c4]
 simp only [cond_false,Option.bind_some,Bool.not_true]
 have hpre:∀ i,i≤l.length→0≤cI (qZ p) (l.take i)∧cI (qZ p) (l.take i)≤28800000000 * 366:=λi hi=>by
  have:=aMy h (l:=l.take i) λn hn=>hl n (List.mem_of_mem_take hn)
  rw [List.length_take] at this
  omega
 have hrun:=rK (ρ:=Int × Int) (λi:Nat=>(cI (qZ p) (l.take i),(i:Int))) l.length (λs12=>rT N p l s12.1 s12.2) (λi hi=>by
  have hx:=hl l[i] (List.getElem_mem _)
  have hb:=aNp h hx.1 hx.2
  have ha:=aCm (a:=p.Extra) (b:=max 0 (l[i] - p.Normal)) h.e0 (by omega) h.e1 (B:=1440) (by omega)
  have hp:=hpre i (by omega)
  show rT N p l _ _=_
  unfold rT
  have e1:W (l[i] - p.Normal)=l[i] - p.Normal:=fB (by omega) (by omega)
  have e2:W (p.Extra * max 0 (l[i] - p.Normal))=p.Extra * max 0 (l[i] - p.Normal):=fB (by omega) (by omega)
  have e3:W (1000 * l[i])=1000 * l[i]:=fB (by omega) (by omega)
  have e4:W (1000 * l[i] + p.Extra * max 0 (l[i] - p.Normal))=1000 * l[i] + p.Extra * max 0 (l[i] - p.Normal):=fB (by omega) (by omega)
  have e5:W (p.Rate * (1000 * l[i] + p.Extra * max 0 (l[i] - p.Normal)))=qZ p l[i]:=fB (by unfold qZ at hb; omega) (by unfold qZ at hb; omega)
  have e6:W (cI (qZ p) (l.take i) + qZ p l[i])=cI (qZ p) (l.take (i + 1)):=by
   rw [yZ _ _ _ hi]
   exact fB (by omega) (by omega)
  simp only [bW hi,cond_true,bF hi,Option.bind_some,e1,e2,e3,e4,e5,e6,bP (show i < 9223372036854775807 by omega)]) (by
  show rT N p l _ _=_
  unfold rT
  rw [bU,cond_false]) (N:=N) (by omega)
 have e0':((0:Int),(0:Int))=(cI (qZ p) (l.take 0),((0:Nat):Int)):=by simp [cI]
 rw [e0',hrun]
 simp only [Option.bind_some,exK,List.take_length]
 have hp:=hpre l.length (Nat.le_refl _)
 rw [List.take_length] at hp
 have e7:W (cI (qZ p) l + 59999)=cI (qZ p) l + 59999:=fB (by omega) (by omega)
 rw [e7,aG1 (by omega),fB (by omega) (by omega)]
 rfl
end Go.Nilo.Ro
namespace Go.Nilo.Ro
theorem aSa {σ ρ:Type} (st:Nat→σ) (g:Nat→Option ρ) (n:Nat) (b:σ→Option (bC σ ρ))
  (hb:∀ (i:Nat),i < n→(∀ j,j < i→g j=none)→b (st i)=some (match g i with | some r=>.ret r | none=>.cont (st (i + 1)))) (hend:b (st n)=some (.brk (st n))) :
  ∀ (m i N:Nat),i + m=n→m < N→(∀ j,j < i→g j=none)→aS b N (st i)=some (match eM g i m with | some r=>.out r | none=>.go (st n))
 | m,i,0,_,h,_=>by omega
 | 0,i,N + 1,hi,_,_=>by
  obtain rfl:i=n:=by omega
  unfold aS
  rw [hend]
  rfl
 | m + 1,i,N + 1,hi,hN,hg=>by
  unfold aS eM
  rw [hb i (by omega) hg]
  cases hf:g i with
  | some r=>rfl
  | none=>exact aSa st g n b hb hend m (i + 1) N (by omega) (by omega) (λj hj=>by
    by_cases h:j=i
    ·subst h; exact hf
    ·exact hg j (by omega))
theorem aLv {f:Int→Int} {B:Int}:∀ {l:List Int},(∀ n ∈ l,0≤f n∧f n≤B)→0≤cI f l∧cI f l≤B * (l.length:Int)
 | [],_=>by simp [cI]
 | a::l,hl=>by
  have h1:=aLv (f:=f) (B:=B) (l:=l) λn hn=>hl n (List.mem_cons_of_mem _ hn)
  have h2:=hl a List.mem_cons_self
  have e:cI f (a::l)=f a + cI f l:=by simp [cI]
  rw [e,List.length_cons]
  push_cast
  rw [Int.mul_add,Int.mul_one]
  omega
def ovr (m n:Int):Int:=max 0 (n - m)
theorem aFt (p:dN):∀ l:List Int,cI (qZ p) l=p.Rate * 1000 * cI (λn=>n) l + p.Rate * p.Extra * cI (ovr p.Normal) l
 | []=>by simp [cI]
 | a::l=>by
  have e (f:Int→Int):cI f (a::l)=f a + cI f l:=by simp [cI]
  rw [e,e,e,aFt p l,Int.mul_add,Int.mul_add]
  have:qZ p a=p.Rate * 1000 * a + p.Rate * p.Extra * ovr p.Normal a:=by
   unfold qZ ovr
   rw [Int.mul_add,← Int.mul_assoc,← Int.mul_assoc]
  rw [this]
  omega
theorem inB_iff {n a b:Int}:inB n a b=true ↔ a≤n∧n≤b:=by simp [inB]
theorem out_inB (n a b:Int):aK n a b = !inB n a b:=by
 rw [Bool.eq_iff_iff]
 unfold aK inB
 simp only [Bool.or_eq_true,decide_eq_true_eq,Bool.not_eq_true',Bool.and_eq_false_iff,decide_eq_false_iff_not]
 omega
theorem aL1 {N:Nat} (hN:400≤N) {p:dN} (h:aKa p) {l:List Int} (hn:l.length≤366):uJ N p.Rate p.Normal p.Extra l=some (if l.all (λn=>inB n 0 1440) then (aO6 p l,0) else (0,4)):=by
 obtain ⟨r0,r1,n0,n1,x0,x1⟩:=id h
 unfold uJ
 have c1:(((aK p.Rate 0 10000) || (aK p.Normal 0 1440)) || (aK p.Extra 0 1000))=false:=by
  rw [out_inB,out_inB,out_inB,inB_iff.2 ⟨r0,r1⟩,inB_iff.2 ⟨n0,n1⟩,inB_iff.2 ⟨x0,x1⟩]; rfl
 have c2:decide ((366:Int) < ((l.length:Nat):Int))=false:=by simp; omega
 rw [c1,c2,cond_false,cond_false]
 have hpre:∀ i,i≤l.length→(∀ j,j < i→cond (inB (l.getD j 0) 0 1440) none (some ((0:Int),(4:Int)))=none)→(0≤cI (λn=>n) (l.take i)∧cI (λn=>n) (l.take i)≤1440 * 366)∧(0≤cI (ovr p.Normal) (l.take i)∧cI (ovr p.Normal) (l.take i)≤1440 * 366):=λi hi hg=>by
  have hall:∀ n ∈ l.take i,0≤n∧n≤1440:=λn hm=>by
   obtain ⟨j,hj,rfl⟩:=List.getElem_of_mem hm
   rw [List.length_take] at hj
   have:=hg j (by omega)
   rw [List.getElem_take,cP (d:=(0:Int)) (by omega)]
   cases hb:inB (l.getD j 0) 0 1440 with
   | true=>exact inB_iff.1 hb
   | false=>rw [hb] at this; cases this
  have a1:=aLv (f:=λn=>n) (B:=1440) (l:=l.take i) hall
  have a2:=aLv (f:=ovr p.Normal) (B:=1440) (l:=l.take i) λn hm=>by have:=hall n hm; unfold ovr; omega
  rw [List.length_take] at a1 a2
  omega
 have hs:=aSa (ρ:=Int × Int) (λi:Nat=>(cI (λn=>n) (l.take i),cI (ovr p.Normal) (l.take i),(i:Int))) (λj=>cond (inB (l.getD j 0) 0 1440) none (some (0,4))) l.length (λs11=>nA N p.Normal l s11.1 s11.2.1 s11.2.2) (λi hi hg=>by
  obtain ⟨a1,a2⟩:=hpre i (by omega) hg
  show nA N p.Normal l (cI (λn=>n) (l.take i)) (cI (ovr p.Normal) (l.take i)) (i:Int)=_
  unfold nA
  rw [bW hi,cond_true,bF hi,Option.bind_some,out_inB,cP (d:=(0:Int)) hi]
  cases hb:inB (l.getD i 0) 0 1440 with
  | false=>rfl
  | true=>
   have hx:=inB_iff.1 hb
   simp only [Bool.not_true,cond_false,cond_true,Option.bind_some,bP (show i < 9223372036854775807 by omega),yZ _ _ _ hi,cP (d:=(0:Int)) hi]
   have w1:W (cI (λn=>n) (l.take i) + l.getD i 0)=cI (λn=>n) (l.take i) + l.getD i 0:=fB (by omega) (by omega)
   have w2:W (W (cI (ovr p.Normal) (l.take i) + l.getD i 0) - p.Normal)=cI (ovr p.Normal) (l.take i) + l.getD i 0 - p.Normal:=by
    rw [fB (n:=cI (ovr p.Normal) (l.take i) + l.getD i 0) (by omega) (by omega),fB (by omega) (by omega)]
   unfold sK
   rw [w1,w2,bP (show i < 9223372036854775807 by omega)]
   by_cases hc:p.Normal < l.getD i 0
   ·rw [decide_eq_true hc,cond_true,show ovr p.Normal (l.getD i 0)=l.getD i 0 - p.Normal by unfold ovr; omega,Int.add_sub_assoc]
   ·rw [decide_eq_false hc,cond_false,show ovr p.Normal (l.getD i 0)=0 by unfold ovr; omega,Int.add_zero]) (by
  show nA N p.Normal l _ _ _=_
  unfold nA
  rw [bU,cond_false]) l.length 0 N (by omega) (by omega) (λj hj=>by omega)
 have e0:((0:Int),(0:Int),(0:Int))=(cI (λn=>n) (l.take 0),cI (ovr p.Normal) (l.take 0),((0:Nat):Int)):=by simp [cI]
 rw [e0,hs,oG (p:=λn=>inB n 0 1440) l.length 0 (by omega),List.drop_zero]
 cases hb:l.all (λn=>inB n 0 1440) with
 | false=>rfl
 | true=>
  obtain ⟨a1,a2⟩:=hpre l.length (Nat.le_refl _) (λj hj=>by
   have:=List.all_eq_true.1 hb _ (List.getElem_mem hj)
   rw [cP (d:=(0:Int)) hj] at this
   rw [this]; rfl)
  rw [List.take_length] at a1 a2
  simp only [cond_true,Option.bind_some,exK,if_true,List.take_length]
  have m1:=aCm (a:=p.Rate * 1000) (b:=cI (λn=>n) l) (by omega) a1.1 (A:=10000000) (B:=527040) (by omega) (by omega)
  have m2:=aCm (a:=p.Rate) (b:=p.Extra) r0 x0 r1 x1
  have m3:=aCm (a:=p.Rate * p.Extra) (b:=cI (ovr p.Normal) l) m2.1 a2.1 (A:=10000000) (B:=527040) (by omega) (by omega)
  have w1:W (p.Rate * 1000)=p.Rate * 1000:=fB (by omega) (by omega)
  have w2:W (p.Rate * p.Extra)=p.Rate * p.Extra:=fB (by omega) (by omega)
  have w3:W (p.Rate * 1000 * cI (λn=>n) l)=p.Rate * 1000 * cI (λn=>n) l:=fB (by omega) (by omega)
  have w4:W (p.Rate * p.Extra * cI (ovr p.Normal) l)=p.Rate * p.Extra * cI (ovr p.Normal) l:=fB (by omega) (by omega)
  have w5:W (p.Rate * 1000 * cI (λn=>n) l + p.Rate * p.Extra * cI (ovr p.Normal) l)=cI (qZ p) l:=by
   rw [aFt,fB (by omega) (by omega)]
  have hb2:0≤cI (qZ p) l∧cI (qZ p) l≤20000000000000:=by rw [aFt]; omega
  simp only [w1,w2,w3,w4,w5,aG1 hb2.1]
  have w6:W (cI (qZ p) l / 60000)=cI (qZ p) l / 60000:=fB (by omega) (by omega)
  have w7:W (cI (qZ p) l / 60000 * 60000)=cI (qZ p) l / 60000 * 60000:=fB (by omega) (by omega)
  have w8:W (cI (qZ p) l / 60000 + 1)=cI (qZ p) l / 60000 + 1:=fB (by omega) (by omega)
  simp only [w6,w7,w8]
  unfold sE aO6
  by_cases hc:cI (qZ p) l / 60000 * 60000 < cI (qZ p) l
  ·rw [decide_eq_true hc,cond_true,show (cI (qZ p) l + 59999) / 60000=cI (qZ p) l / 60000 + 1 by omega]
  ·rw [decide_eq_false hc,cond_false,show (cI (qZ p) l + 59999) / 60000=cI (qZ p) l / 60000 by omega]
theorem aOm {N:Nat} (hN:400≤N) (p:dN) {l:List Int} (hl:l.length≤370):∃ r,kI N p l=some r∧uJ N p.Rate p.Normal p.Extra l=some r:=by
 by_cases h:aKa p
 ·by_cases hn:l.length≤366
  ·refine ⟨_,?_,aL1 hN h hn⟩
   cases hb:l.all (λn=>inB n 0 1440) with
   | true=>exact aRo h (λn hm=>inB_iff.1 (List.all_eq_true.1 hb n hm)) hn hN
   | false=>
    obtain ⟨r0,r1,n0,n1,e0,e1⟩:=h
    unfold kI
    have c1:((!(aR p.Rate 0 10000)) || (!(aR p.Normal 0 1440)) || (!(aR p.Extra 0 1000)))=false:=by
     simp [aR,r0,r1,n0,n1,e0,e1]
    have c2:decide ((366:Int) < ((l.length:Nat):Int))=false:=by simp; omega
    have c3:lX N l=some (l.all λn=>inB n 0 1440):=by
     unfold lX fV iE
     exact rU (f:=mM) (ok:=λn=>inB n 0 1440) (λx=>rfl) (by omega) (by omega) _ (λx=>rfl)
    rw [c1,c2,c3,hb]
    rfl
  ·refine ⟨(0,3),?_,?_⟩
   ·obtain ⟨r0,r1,n0,n1,e0,e1⟩:=h
    unfold kI
    have c1:((!(aR p.Rate 0 10000)) || (!(aR p.Normal 0 1440)) || (!(aR p.Extra 0 1000)))=false:=by
     simp [aR,r0,r1,n0,n1,e0,e1]
    have c2:decide ((366:Int) < ((l.length:Nat):Int))=true:=by simp; omega
    rw [c1,c2]
    rfl
   ·obtain ⟨r0,r1,n0,n1,x0,x1⟩:=h
    unfold uJ
    have c1:(((aK p.Rate 0 10000) || (aK p.Normal 0 1440)) || (aK p.Extra 0 1000))=false:=by
     rw [out_inB,out_inB,out_inB,inB_iff.2 ⟨r0,r1⟩,inB_iff.2 ⟨n0,n1⟩,inB_iff.2 ⟨x0,x1⟩]; rfl
    have c2:decide ((366:Int) < ((l.length:Nat):Int))=true:=by simp; omega
    rw [c1,c2]
    rfl
 ·have c:(((!(inB p.Rate 0 10000)) || (!(inB p.Normal 0 1440))) || (!(inB p.Extra 0 1000)))=true:=by
   rw [← Bool.not_eq_false]
   intro e
   apply h
   simp only [Bool.or_eq_false_iff,Bool.not_eq_false',inB_iff] at e
   exact ⟨e.1.1.1,e.1.1.2,e.1.2.1,e.1.2.2,e.2.1,e.2.2⟩
  refine ⟨(0,120),?_,?_⟩
  ·unfold kI
   have:((!(aR p.Rate 0 10000)) || (!(aR p.Normal 0 1440)) || (!(aR p.Extra 0 1000)))=true:=c
   rw [this]
   rfl
  ·unfold uJ
   rw [out_inB,out_inB,out_inB,c]
   rfl
theorem aKd {N:Nat} (hN:101≤N) {l:List aG} (hl:l.length≤25) (start:Int) :
  (∃ h e,h.length≤20∧mI N start l=some (h,e)∧lH N start (l.map rv)=some (h,e))∧(∃ r,uV N start l=some r∧qP N start (l.map rv)=some r)∧(∃ r,qM N l=some r∧qQ N (l.map rv)=some r):=by
 by_cases h:hZ l=0
 ·refine ⟨?_,?_,⟨_,aOa (by omega) h,aJh hN h⟩⟩
  all_goals by_cases hs:0≤start∧start≤100000
  ·obtain ⟨hn,hv⟩:=aAq h
   exact ⟨_,_,by rw [wQ]; exact hn.2,aK9 (by omega) hv hn hs.1 hs.2,aF0 hN hv hn hs.1 hs.2⟩
  ·exact ⟨_,_,by simp,aF3 (by omega) h hs,aB1 hN h hs⟩
  ·obtain ⟨hn,hv⟩:=aAq h
   exact ⟨_,aRr (by omega) hv hn hs.1 hs.2,aEa hN hv hn hs.1 hs.2⟩
  ·exact ⟨_,aJ9 (by omega) (aF3 (by omega) h hs) (aB1 hN h hs)⟩
 ·have a:=aMr (N:=N) (start:=start) (l:=l) (by omega) (by omega) h
  have b:=aIh (N:=N) (start:=start) (l:=l) (by omega) hN h
  exact ⟨⟨_,_,by simp,a,b⟩,⟨_,aJ9 h a b⟩,⟨_,aLo (by omega) hN h⟩⟩
theorem aOl {N:Nat} {l:List aE} (hl:l.length≤1000) (hN:l.length < N):oM N l l=some true:=by
 unfold oM
 rw [bne_self_eq_false,cond_false,vE l (by omega) (λs7=>lA N l l s7) (λi hi=>by
  unfold lA
  simp only [bW hi,cond_true,bF hi,Option.bind_some,beq_self_eq_true,Bool.and_self,Bool.not_true,cond_false]
  rw [bP (by omega)]) (by
  unfold lA
  rw [bU]; rfl) hN]
 rfl
theorem aMm {N:Nat} {l:List aG} (hl:l.length≤1000) (hN:l.length < N):pJ N l l=some true:=by
 unfold pJ
 rw [bne_self_eq_false,cond_false,vE l (by omega) (λs7=>jC N l l s7) (λi hi=>by
  unfold jC
  simp only [bW hi,cond_true,bF hi,Option.bind_some,beq_self_eq_true,Bool.and_self,Bool.not_true,cond_false]
  rw [bP (by omega)]) (by
  unfold jC
  rw [bU]; rfl) hN]
 rfl
theorem same_int {N:Nat} {l:List Int} (hl:l.length≤1000) (hN:l.length < N):dW N l l=some true:=by
 unfold dW
 rw [bne_self_eq_false,cond_false,vE l (by omega) (λs7=>fD N l l s7) (λi hi=>by
  unfold fD
  simp only [bW hi,cond_true,bF hi,Option.bind_some,bne_self_eq_false,cond_false]
  rw [bP (by omega)]) (by
  unfold fD
  rw [bU]; rfl) hN]
 rfl
theorem crewrounds_law (start:Int) (l:List aG) (p:dN) (minutes:List Int):mW 5000 start l p minutes=some true:=by
 unfold mW
 have haw:(Option.bind (gC 5000) λr=>some r)=some true:=by rw [oY]; rfl
 by_cases h:l.length≤25∧minutes.length≤370
 ·have c:((decide (25 < ((l.length:Nat):Int))) || (decide (370 < ((minutes.length:Nat):Int))))=false:=by
   rw [Bool.or_eq_false_iff,decide_eq_false_iff_not,decide_eq_false_iff_not]; omega
  have k1:pF 5000 l=some l:=by unfold pF; rw [fQ (by omega)]; rfl
  have k2:gO 5000 minutes=some minutes:=by unfold gO; rw [fQ (by omega)]; rfl
  obtain ⟨⟨h1,e1,hh,a1,a2⟩,⟨⟨x1,x2,x3⟩,b1,b2⟩,⟨⟨y1,y2⟩,c1,c2⟩⟩:=aKd (N:=5000) (by omega) h.1 start
  obtain ⟨⟨z1,z2⟩,d1,d2⟩:=aOm (N:=5000) (by omega) p h.2
  rw [c,cond_false,k1,Option.bind_some,k2,Option.bind_some,a1,Option.bind_some,aOx (by omega) (by omega),Option.bind_some,a2,Option.bind_some,aOl (l:=h1) (by omega) (by omega),Option.bind_some]
  simp only [b1,b2,c1,c2,d1,d2,Option.bind_some,Bool.not_true,bne_self_eq_false,Bool.or_self,cond_false,beq_self_eq_true,Bool.and_self,cond_true,aMm (show l.length≤1000 by omega) (show l.length < 5000 by omega),same_int (show minutes.length≤1000 by omega) (show minutes.length < 5000 by omega),oY]
 ·have c:((decide (25 < ((l.length:Nat):Int))) || (decide (370 < ((minutes.length:Nat):Int))))=true:=by
   rw [Bool.or_eq_true,decide_eq_true_eq,decide_eq_true_eq]; omega
  rw [c,cond_true]
  exact haw
end Go.Nilo.Ro
