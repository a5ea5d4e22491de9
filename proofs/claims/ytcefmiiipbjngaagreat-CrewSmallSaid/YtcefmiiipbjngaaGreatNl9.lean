/-
  Regions that draw their order, with effects: one invariant over the set of operations that have been carried out. Conditions: none.
-/
import Derived.Test.YtcefmiiipbjngaaGreatNl8
set_option linter.unusedSimpArgs false
set_option linter.unusedVariables false
namespace Go.Nilo

def yA (E:Nat→Bool) (i:Nat):Nat→Bool:=λj=>bif Nat.beq j i then true else E j

structure Th where
 b:Nat
 p:Option Addr
 c:Nat
 h:Nat→Option Addr × Nat:=λ_=>(none,0)
def qR (θ:Nat→Th) (i:Nat) (t:Th):Nat→Th:=λj=>bif Nat.beq j i then t else θ j
def noT:Nat→Th:=λ_=>⟨0,none,0,λ_=>(none,0)⟩

theorem bE (E:Nat→Bool) (i:Nat):yA E i i=true:=by simp [yA]
theorem aFz {E:Nat→Bool} {i j:Nat} (h:E j=true):yA E i j=true:=by simp [yA,h]
theorem zO {E:Nat→Bool} {i j:Nat} (h:j ≠ i):yA E i j=E j:=by
 have:Nat.beq j i=false:=by
  cases hb:Nat.beq j i with
  | false=>rfl
  | true=>exact absurd (Nat.eq_of_beq_eq_true hb) h
 simp [yA,this]
structure Fa where
 pos:Option Nat
 neg:Option Nat
 d:Nat
 v:Value
def Fa.on (f:Fa) (E:Nat→Bool):Prop:=(∀ k,f.pos=some k→E k=true)∧(∀ k,f.neg=some k→E k=false)

structure iW (N:Fm) (a:Act) (E:Nat→Bool) (F:List Fa):Prop where
 size:a.tmps.size=N.n
 defers:a.defers=N.ds
 get:∀ f ∈ F,f.on E→a.tmps[f.d]?=some f.v

theorem iW.h0 {N:Fm} {a:Act} {E:Nat→Bool} {F:List Fa} (h:iW N a E F):Has N a [] :=
 ⟨h.size,h.defers,λd v hv=>by simp [kH] at hv⟩

theorem Has.more {N:Fm} {a:Act} {E:Nat→Bool} {F:List Fa} {L:List (Nat × Value)} (h:Has N a L) (he:iW N a E F) (q:Nat) {f:Fa} (hq:F[q]?=some f) (hon:f.on E):Has N a ((f.d,f.v)::L):=by
 refine ⟨h.size,h.defers,λd v hv=>?_⟩
 simp only [kH] at hv
 cases hb:Nat.beq f.d d with
 | true=>
  rw [hb] at hv
  have:=Nat.eq_of_beq_eq_true hb
  subst this
  simp at hv
  subst hv
  exact he.get f (List.mem_of_getElem? hq) hon
 | false=>rw [hb] at hv; exact h.get d v hv

theorem onT {E:Nat→Bool} {d:Nat} {v:Value}:Fa.on ⟨none,none,d,v⟩ E:=by
 refine ⟨?_,?_⟩
 ·intro _ h; cases h
 ·intro _ h; cases h
theorem onP {E:Nat→Bool} {d k:Nat} {v:Value} (h:E k=true):Fa.on ⟨some k,none,d,v⟩ E:=by
 refine ⟨?_,?_⟩
 ·intro _ e; cases e; exact h
 ·intro _ h; cases h
theorem onN {E:Nat→Bool} {d k:Nat} {v:Value} (h:E k=false):Fa.on ⟨none,some k,d,v⟩ E:=by
 refine ⟨?_,?_⟩
 ·intro _ h; cases h
 ·intro _ e; cases e; exact h
def aOq:List Nat→Option Nat→Bool
 | _,none=>false
 | [],some _=>false
 | k::K,some j=>bif Nat.beq k j then true else aOq K (some j)
def OkF (i d:Nat) (v:Value) (K:List Nat):List Fa→List Fa→Prop
 | [],[]=>True
 | f::F,f'::F'=>(bif f'.pos == some i then f'.d=d∧f'.v=v else bif f'.neg == some i then True else bif aOq K f'.pos then True else f'=f∧(Nat.beq f.d d=false))∧OkF i d v K F F'
 | _,_=>False
theorem aKt:∀ {K:List Nat} {p:Option Nat},aOq K p=true→∃ k ∈ K,p=some k
 | [],none,h=>by cases h
 | [],some _,h=>by cases h
 | _::_,none,h=>by cases h
 | k::K,some j,h=>by
  unfold aOq at h
  cases hb:Nat.beq k j with
  | true=>exact ⟨k,List.mem_cons_self,by rw [Nat.eq_of_beq_eq_true hb]⟩
  | false=>
   rw [hb] at h
   obtain ⟨k',hk,he⟩:=aKt h
   exact ⟨k',List.mem_cons_of_mem _ hk,he⟩
def OkS (i:Nat):List Fa→List Fa→Prop
 | [],[]=>True
 | f::F,f'::F'=>(f'=f∧(f.pos == some i)=false)∧OkS i F F'
 | _,_=>False

theorem aNi {i d:Nat} {v:Value} {K:List Nat}:∀ {F F':List Fa},OkF i d v K F F'→∀ f' ∈ F',(f'.pos=some i∧f'.d=d∧f'.v=v) ∨ f'.neg=some i ∨ aOq K f'.pos=true ∨ (f' ∈ F∧f'.d ≠ d∧f'.pos ≠ some i)
 | [],[],_,f',h=>by cases h
 | f::F,g::F',ho,f',h=>by
  obtain ⟨h1,h2⟩:=ho
  rcases List.mem_cons.1 h with rfl | h
  ·by_cases hp:f'.pos=some i
   ·simp [hp] at h1
    exact .inl ⟨hp,h1.1,h1.2⟩
   ·by_cases hn:f'.neg=some i
    ·exact .inr (.inl hn)
    ·cases hk:aOq K f'.pos with
     | true=>exact .inr (.inr (.inl rfl))
     | false=>
      simp [hp,hn,hk] at h1
      obtain ⟨rfl,h1⟩:=h1
      refine .inr (.inr (.inr ⟨List.mem_cons_self,λe=>by rw [e] at h1; simp at h1,hp⟩))
  ·rcases aNi h2 f' h with h | h | h | h
   ·exact .inl h
   ·exact .inr (.inl h)
   ·exact .inr (.inr (.inl h))
   ·exact .inr (.inr (.inr ⟨List.mem_cons_of_mem _ h.1,h.2⟩))
theorem aNa {i:Nat}:∀ {F F':List Fa},OkS i F F'→∀ f' ∈ F',f' ∈ F∧f'.pos ≠ some i
 | [],[],_,f',h=>by cases h
 | f::F,g::F',ho,f',h=>by
  obtain ⟨h1,h2⟩:=ho
  rcases List.mem_cons.1 h with rfl | h
  ·obtain ⟨rfl,h1⟩:=h1
   exact ⟨List.mem_cons_self,λhp=>by simp [hp] at h1⟩
  ·have:=aNa h2 f' h
   exact ⟨List.mem_cons_of_mem _ this.1,this.2⟩

theorem aGn {E:Nat→Bool} {i:Nat} {f:Fa} (hi:E i=false) (h:f.on (yA E i)) (hp:f.pos ≠ some i):f.on E:=by
 refine ⟨λk hk=>?_,λk hk=>?_⟩
 ·have:=h.1 k hk
  rwa [zO (λe=>hp (by rw [hk,e]))] at this
 ·have h2:=h.2 k hk
  by_cases hki:k=i
  ·subst hki; exact hi
  ·rwa [zO hki] at h2

theorem iW.put {N:Fm} {a a':Act} {E:Nat→Bool} {F F':List Fa} {L:List (Nat × Value)} {i d:Nat} {u v:Value} {ds:List Deferred} (h:iW N a E F) (hi:E i=false)
  (ha:a'={ a with defers:=ds }.put (some d) u) (hf:Has N a' L) (hl:kH L d=some v) (K:List Nat) (hK:K.foldr (λk p=>(E k=false∧Nat.beq k i=false)∧p) True) (ok:OkF i d v K F F'):iW N a' (yA E i) F':=by
 refine ⟨hf.size,hf.defers,λf hfm hon=>?_⟩
 have hgd:=hf.get d v hl
 rcases aNi ok f hfm with ⟨_,h2,h3⟩ | hn | hk | ⟨hm,hd,hp⟩
 ·rw [h2,h3]; exact hgd
 ·have:=hon.2 i hn
  rw [bE] at this
  cases this
 ·exfalso
  obtain ⟨k,hkm,hkp⟩:=aKt hk
  have hE:=hon.1 k hkp
  have:∀ (K:List Nat),K.foldr (λk p=>(E k=false∧Nat.beq k i=false)∧p) True→k ∈ K→E k=false∧Nat.beq k i=false:=by
   intro K
   induction K with
   | nil=>intro _ h; cases h
   | cons x K ih=>
    intro h hm
    rcases List.mem_cons.1 hm with rfl | hm
    ·exact h.1
    ·exact ih h.2 hm
  obtain ⟨h1,h2⟩:=this K hK hkm
  rw [zO (λe=>by rw [e] at h2; simp at h2),h1] at hE
  cases hE
 ·have h1:=h.get f hm (aGn hi hon hp)
  rw [ha]
  simp only [Act.put,Array.getElem?_setIfInBounds_ne (Ne.symm hd)]
  exact h1

theorem iW.stay {N:Fm} {a a':Act} {E:Nat→Bool} {F F':List Fa} {L:List (Nat × Value)} {i:Nat} {u:Value} {ds:List Deferred} (h:iW N a E F) (hi:E i=false)
  (ha:a'={ a with defers:=ds }.put Option.none u) (hf:Has N a' L) (ok:OkS i F F'):iW N a' (yA E i) F':=by
 refine ⟨hf.size,hf.defers,λf hfm hon=>?_⟩
 obtain ⟨hm,hp⟩:=aNa ok f hfm
 rw [ha]
 exact h.get f hm (aGn hi hon hp)

theorem iW.of {N:Fm} {a:Act} {L:List (Nat × Value)} {F:List Fa} (h:Has N a L) (ok:F.foldr (λf q=>(bif f.pos.isSome then True else kH L f.d=some f.v)∧q) True):iW N a (λ_=>false) F:=by
 refine ⟨h.size,h.defers,?_⟩
 induction F with
 | nil=>intro f hf; cases hf
 | cons g F ih=>
  intro f hf hon
  simp only [List.foldr_cons] at ok
  rcases List.mem_cons.1 hf with rfl | hf
  ·cases hp:f.pos with
   | some k=>have:=hon.1 k hp; cases this
   | none=>
    have h1:=ok.1
    rw [hp] at h1
    exact h.get _ _ h1
  ·exact ih ok.2 f hf hon

def aBg (o:Oper) (E:Nat→Bool):Prop:=∀ e ∈ o.after,Region.binds .any e=true→E e.on=true
def aM3 (o:Oper) (k:Nat):Bool:=o.after.toList.any λe=>Region.binds .any e && Nat.beq e.on k
theorem aBg.of {o:Oper} {E:Nat→Bool} (h:aBg o E) {k:Nat} (hk:aM3 o k=true):E k=true:=by
 simp only [aM3,List.any_eq_true,Bool.and_eq_true] at hk
 obtain ⟨e,he,h1,h2⟩:=hk
 have:=Nat.eq_of_beq_eq_true h2
 subst this
 exact h _ (by simpa using he) h1

def aL6 (D:List (Nat × Nat)) (E:Nat→Bool):Prop:=∀ p ∈ D,E p.1=true→E p.2=true
theorem aL6.t {D:List (Nat × Nat)} {E:Nat→Bool} (h:aL6 D E) (q:Nat) {j k:Nat} (hq:D[q]?=some (j,k)) (hj:E j=true):E k=true:=h (j,k) (List.mem_of_getElem? hq) hj
theorem aL6.f {D:List (Nat × Nat)} {E:Nat→Bool} (h:aL6 D E) (q:Nat) {j k:Nat} (hq:D[q]?=some (j,k)) (hk:E k=false):E j=false:=by
 cases hj:E j with
 | false=>rfl
 | true=>rw [h.t q hq hj] at hk; cases hk

def aIv (l:List Oper):Nat→Bool
 | k=>match l with
  | []=>true
  | o::l=>(o.after.all λe=>!Region.binds .any e || Nat.blt e.on k) && aIv l (k + 1)
def aQv (l:List Oper) (D:List (Nat × Nat)):Bool:=D.all λp=>match l[p.1]? with | some o=>aM3 o p.2 | none=>false

theorem aL2 {l:List Oper}:∀ {k:Nat},aIv l k=true→∀ j o,l[j]?=some o→∀ e ∈ o.after,Region.binds .any e=true→e.on < k + j:=by
 induction l with
 | nil=>intro k _ j o h; simp at h
 | cons o' l ih=>
  intro k h j o hj e he hb
  unfold aIv at h
  simp only [Bool.and_eq_true] at h
  cases j with
  | zero=>
   simp at hj
   subst hj
   have:=(Array.all_eq_true.1 h.1)
   obtain ⟨q,hq,rfl⟩:=Array.getElem_of_mem he
   have:=this q hq
   simp [hb] at this
   omega
  | succ j=>
   have:=ih h.2 j o (by simpa using hj) e he hb
   omega

theorem opOf {P:Program} {ops:Array Oper} {Q:Exit→Act→World→Prop} {i:Nat} {o:Oper} {a:Act} {w:World} {K:Act→World→Prop} (ho:ops[i]?=some o)
  (h:wpList P ops (Exit.then (λa' w'=>∀ ds u,a'={ a with defers:=ds }.put o.dst u→K a' w') Q) [o] a w):wpOp P ops Q i K a w:=by
 unfold wpOp
 simp only [ho]
 unfold wpList at h
 split
 ·rename_i hw
  rw [if_pos hw] at h
  rcases h with h | h
  ·refine .inl ?_
   unfold Oper.wp at h ⊢
   generalize (execOp a.eval o).run P w=r at h ⊢
   cases r with
   | ok n w'=>
    cases n <;> simp only [Oper.upon] at h ⊢ <;>
     first
      | exact h _ _ rfl
      | exact Calls.mono h (λe w'' he=>by cases e <;> first | exact he _ _ rfl | exact he)
      | exact Rows.mono h (λ_ _ he=>he _ _ rfl)
      | exact h
   | halt x w'=>cases x <;> simp only [Oper.upon] at h ⊢ <;> exact h
  ·exact .inr h
 ·rename_i hw
  rw [if_neg hw] at h
  exact h _ _ rfl

def unl (E:Nat→Bool):Nat→Nat
 | 0=>0
 | n + 1=>(bif E n then 0 else 1) + unl E n
theorem aNs {E:Nat→Bool} {i:Nat}:∀ n,unl (yA E i) n≤unl E n
 | 0=>Nat.le_refl _
 | n + 1=>by
  have:=aNs (E:=E) (i:=i) n
  unfold unl
  by_cases h:n=i
  ·subst h; rw [bE]; simp; omega
  ·rw [zO h]; omega
theorem aQb {E:Nat→Bool} {i:Nat} (hi:E i=false):∀ n,i < n→unl (yA E i) n < unl E n
 | 0,h=>by omega
 | n + 1,h=>by
  unfold unl
  by_cases hn:n=i
  ·subst hn
   have:=aNs (E:=E) (i:=n) n
   rw [bE,hi]
   simp
   omega
  ·have:=aQb hi n (by omega)
   rw [zO hn]
   omega
theorem aK0 {E:Nat→Bool}:∀ n,unl E n=0→∀ i,i < n→E i=true
 | 0,_,i,h=>by omega
 | n + 1,hu,i,h=>by
  unfold unl at hu
  cases hE:E n with
  | false=>rw [hE] at hu; simp at hu
  | true=>
   by_cases hi:i=n
   ·subst hi; exact hE
   ·exact aK0 n (by omega) i (by omega)
theorem aJl (E:Nat→Bool):∀ n,unl E n≤n
 | 0=>Nat.le_refl _
 | n + 1=>by
  have:=aJl E n
  unfold unl
  cases E n <;> simp <;> omega

section region
variable {P:Program} {Q:Exit→Act→World→Prop} {N:Fm} {G:cJ}

def aSn (P:Program) (ops:Array Oper) (Q:Exit→Act→World→Prop) (N:Fm) (G:cJ) (F:(Nat→Th)→List Fa) (M:(Nat→Bool)→(Nat→Th)→List Ent) (D:List (Nat × Nat)) (i:Nat) (o:Oper):Prop :=
 ∀ (E:Nat→Bool) (θ:Nat→Th) (a:Act) (w:World),aL6 D E→E i=false→aBg o E→iW N a E (F θ)→Ctx G (M E θ) w →
  wpList P ops (Exit.then (λa' w'=>∀ ds u,a'={ a with defers:=ds }.put o.dst u→∃ θ',iW N a' (yA E i) (F θ')∧Ctx G (M (yA E i) θ') w') Q) [o] a w

def aD9 (P:Program) (ops:Array Oper) (Q:Exit→Act→World→Prop) (N:Fm) (G:cJ) (F:(Nat→Th)→List Fa) (M:(Nat→Bool)→(Nat→Th)→List Ent) (D:List (Nat × Nat)):Nat→List Oper→Prop
 | _,[]=>True
 | i,o::l=>aSn P ops Q N G F M D i o∧aD9 P ops Q N G F M D (i + 1) l

theorem aD9.get {ops:Array Oper} {F:(Nat→Th)→List Fa} {M:(Nat→Bool)→(Nat→Th)→List Ent} {D:List (Nat × Nat)}:∀ {l:List Oper} {i:Nat},aD9 P ops Q N G F M D i l→∀ j o,l[j]?=some o→aSn P ops Q N G F M D (i + j) o
 | [],_,_,j,o,h=>by simp at h
 | o'::l,i,hs,j,o,h=>by
  cases j with
  | zero=>simp at h; subst h; exact hs.1
  | succ j=>
   have:=aD9.get hs.2 j o (by simpa using h)
   rwa [Nat.add_assoc,Nat.add_comm 1 j] at this

theorem aF6 {l:List Oper} {F:(Nat→Th)→List Fa} {M:(Nat→Bool)→(Nat→Th)→List Ent} {D:List (Nat × Nat)} (hb:aIv l 0=true) (hd:aQv l D=true)
  (hs:aD9 P l.toArray Q N G F M D 0 l)
  (hend:∀ E θ a w,(∀ i,i < l.length→E i=true)→iW N a E (F θ)→Ctx G (M E θ) w→Q .normal a w) :
  ∀ (fuel:Nat) (listed:Array Bool) (E:Nat→Bool) (θ:Nat→Th) (a:Act) (w:World),listed.size=l.length→(∀ j,E j=listed.getD j false)→unl E l.length≤fuel→aL6 D E→iW N a E (F θ)→Ctx G (M E θ) w →
   wpAny P .any l.toArray Q fuel listed a w:=by
 intro fuel
 have hfull:∀ (listed:Array Bool) (E:Nat→Bool),listed.size=l.length→(∀ j,E j=listed.getD j false)→Region.ready .any l.toArray listed=[]→∀ n,n≤l.length→∀ i,i < n→E i=true:=by
  intro listed E hz hE hr n
  induction n with
  | zero=>intro _ i h; omega
  | succ n ih=>
   intro hn i hi
   by_cases hin:i < n
   ·exact ih (by omega) i hin
   ·have hin:i=n:=by omega
    subst hin
    cases hEi:E i with
    | true=>rfl
    | false=>
     exfalso
     have hlt:i < l.length:=by omega
     have hm:i ∈ Region.ready .any l.toArray listed:=by
      rw [mem_ready]
      refine ⟨?_,l[i],by simp [hlt],λe he hbe=>?_⟩
      ·rw [hE] at hEi
       have:i < listed.size:=by omega
       simp [this] at hEi ⊢
       exact hEi
      ·have:=aL2 hb i l[i] (by simp [hlt]) e he hbe
       rw [← hE]
       exact ih (by omega) e.on (by omega)
     rw [hr] at hm
     cases hm
 induction fuel with
 | zero=>
  intro listed E θ a w hz hE hu hD hf hc
  have hall:=aK0 (E:=E) l.length (by omega)
  refine ⟨?_,hend E θ a w hall hf hc⟩
  cases hr:Region.ready .any l.toArray listed with
  | nil=>rfl
  | cons i rs=>
   exfalso
   have hi:i ∈ Region.ready .any l.toArray listed:=by rw [hr]; exact List.mem_cons_self
   obtain ⟨h0,o,ho,_⟩:=mem_ready.1 hi
   have hlt:i < l.length:=by
    have:=(Array.getElem?_eq_some_iff.1 ho).1
    simpa using this
   have h1:=hall i hlt
   rw [hE] at h1
   have:i < listed.size:=by omega
   simp [this] at h0 h1
   rw [h0] at h1
   cases h1
 | succ fuel ih=>
  intro listed E θ a w hz hE hu hD hf hc
  refine ⟨λhr=>hend E θ a w (hfull listed E hz hE hr l.length (Nat.le_refl _)) hf hc,λi hi=>?_⟩
  obtain ⟨h0,o,ho,hp⟩:=mem_ready.1 hi
  have hlt:i < l.length:=by
   have:=(Array.getElem?_eq_some_iff.1 ho).1
   simpa using this
  have hls:i < listed.size:=by omega
  have hEi:E i=false:=by
   rw [hE]
   simp [hls] at h0 ⊢
   exact h0
  have hpo:aBg o E:=λe he hbe=>by rw [hE]; exact hp e he hbe
  have ho':l[i]?=some o:=by simpa using ho
  refine opOf ho ?_
  have hst:=hs.get i o ho'
  rw [Nat.zero_add] at hst
  refine yD (hst E θ a w hD hEi hpo hf hc) ?_
  intro e a' w' h
  cases e with
  | normal=>
   intro ds u hau
   replace h:∀ ds u,a'={ a with defers:=ds }.put o.dst u→∃ θ',iW N a' (yA E i) (F θ')∧Ctx G (M (yA E i) θ') w':=h
   obtain ⟨θ',hf',hc'⟩:=h ds u hau
   refine ih _ (yA E i) θ' a' w' (by simpa using hz) (λj=>?_) ?_ ?_ hf' hc'
   ·by_cases hj:j=i
    ·subst hj; rw [bE]; simp [hls]
    ·rw [zO hj,hE,getD_set_ne false (Ne.symm hj)]
   ·have:=aQb hEi l.length hlt
    omega
   ·intro p hpD hp1
    by_cases hpi:p.1=i
    ·refine aFz (hpo.of ?_)
     have:=List.all_eq_true.1 hd p hpD
     rw [hpi,ho'] at this
     exact this
    ·rw [zO hpi] at hp1
     exact aFz (hD p hpD hp1)
  | _=>exact h

theorem jV {id:Nat} {l:List Oper} {a:Act} {w:World} (F:(Nat→Th)→List Fa) (M:(Nat→Bool)→(Nat→Th)→List Ent) (D:List (Nat × Nat)) (J:Act→World→Prop)
  (hm:P.follows .mixedOrders=true) (hb:aIv l 0=true) (hd:aQv l D=true)
  (hf:iW N a (λ_=>false) (F noT)) (hc:Ctx G (M (λ_=>false) noT) w)
  (hs:aD9 P l.toArray Q N G F M D 0 l)
  (hend:∀ E θ a w,(∀ i,Nat.blt i l.length=true→E i=true)→iW N a E (F θ)→Ctx G (M E θ) w→J a w)
  (hJ:∀ a w,J a w→Q .normal a w):(Code.region id l.toArray true).wp P Q a w:=by
 refine wp_region_any hm ?_
 refine aF6 hb hd hs (λE θ a w hall hf hc=>hJ _ _ (hend E θ a w (λi hi=>hall i (by simpa [Nat.blt_eq] using hi)) hf hc)) _ _ (λ_=>false) noT a _ (by simp) (λj=>?_) ?_ (λp _ h=>by cases h) hf hc.drew
 ·by_cases hj:j < l.length <;> simp [hj]
 ·simpa using aJl (λ_=>false) l.length
end region
end Go.Nilo
