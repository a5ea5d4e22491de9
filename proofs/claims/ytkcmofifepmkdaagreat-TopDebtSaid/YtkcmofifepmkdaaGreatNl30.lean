/-
  Ranges over a function that read, from round to round, a box of the rounds, the arrays of which the rounds change; arrays of arrays of structs. Conditions: what each theorem names.
-/
import Derived.Test.YtkcmofifepmkdaaGreatNl29
set_option linter.unusedSimpArgs false
set_option linter.unusedVariables false
namespace Go.Nilo
variable {P:Program} {ops:Array Oper} {Q:Exit→Act→World→Prop} {a:Act} {w:World} {l n:Nat}
theorem aJy {ς α:Type} {P:Program} {Q:Exit→Act→World→Prop} {id:Nat} {g:Operand} {ps:Array Tmp} {assign body:Code} {a:Act} {w:World} {n:Nat} {ds:List Deferred} {F:List (Nat × Value)} {G:bA} {gf:Nat} {caps:List Value}
  {encs:α→List Value} {C C2 L0 Lf:List Ent} (S:ς→List Ent→Prop) (bodyF:ς→α→Option (Rs ς)) (s0:ς) (sF:Rs ς)
  (hf:Has ⟨n,ds⟩ a F) (hc:Ctx G (C++(L0++Lf)) w) (hg:ev F g=some (.func (.func gf) #[] caps.toArray)) (hen:En P gf) (hps:∀ x,(encs x).length=ps.size) (hpn:ps.toList.all (fun p=>Nat.blt p n)=true)
  (hS:S s0 L0)
  (hit:∀ (l m:Nat) (J:Rs ς→List Ent→Prop) (L Lx:List Ent) (w:World),rJ P G l encs J (rY bodyF)→(∀ (β:Type) (Q:β→Ent),(∀ s M,S s M→∃ A B,∃ x:β,M=A++(Q x::B))→∀ o L,J o L→∃ A B,∃ x:β,L=A++(Q x::B))→J (.go s0) L→Ctx G (C++(L++Lx)) w →
   Calls P gf (.func (.yield l) #[] #[]::caps).toArray w fun e w'=>(∃ v,e=.returned v)∧∃ L',J sF L'∧Ctx G (C2++(L'++Lx)) w')
  (hround:∀ (l m:Nat) (s:ς) (x:α) (o:Rs ς) (L Lr Lb:List Ent) (a:Act) (w:World) (K:Act→World→Prop),S s L→bodyF s x=some o→Has ⟨n,[]⟩ a (aC0 ps.toList (encs x) F)→Ctx G (L++Lr) w →
   (∀ a w L1,Ctx G (L1++Lr) w→(∀ w',Ctx G (L1++Lb) w'→body.wpIn (Fence.wide.inRound l) m P (aLq id G S Lb o) a w')→K a w) →
   assign.wpIn (Fence.wide.inRound l) m P (Exit.then K fun _ _ _=>False) a w)
  (hdone:∀ (D:Nat) (s:ς) (L:List Ent) (a:Act) (w:World),(sF=.go s ∨ sF=.brk s)→S s L→Has ⟨n,nY D::ds⟩ a F→Ctx G (.raw D (.deferred (some []))::(C2++(L++Lf))) w→Q .normal a w)
  (hret:∀ (D:Nat) (s:ς) (L:List Ent) (a:Act) (w:World),sF=.ret s→S s L→Has ⟨n,nY D::ds⟩ a F→Ctx G (.raw D (.deferred (some []))::(C2++(L++Lf))) w→Q .ret a w) :
  (Code.block id (Code.rangeFunc g ps assign body)).wp P Q a w:=by
 refine wp_block ((wpIn_wide (n:=1)).1 (wpIn_rangeFunc ?_))
 intro fn _
 obtain ⟨rec,hrec⟩:∃ rec:LoopState→Option Code→Loop,rec=fun st pe=>{ state:=st,pending:=pe,fn,tmps:=a.tmps,params:=ps,assign,body,defers:=w.heap.size }:=⟨_,rfl⟩
 have hc0:Ctx G (.raw (w.heap.size + 1) (.loop (rec .ready none))::.raw w.heap.size (.deferred (some []))::(C++(L0++Lf))) ((w.alloc (.deferred (some []))).alloc (.loop (rec .ready none))):=by
  have h1:=hc.newRaw (.deferred (some []))
  have h2:=h1.newRaw (.loop (rec .ready none))
  rwa [World.size_alloc] at h2
 obtain ⟨W1,hW1⟩:∃ W1,(w.alloc (.deferred (some []))).alloc (.loop (rec .ready none))=W1:=⟨_,rfl⟩
 rw [hW1] at hc0
 have hpush:∀ (C:List Ent) (x y:Ent) (M:List Ent),(x::y::(C++(M++Lf))).Perm (C++((x::y::M)++Lf)):=fun C x y M=>by
  have:(C++((x::y::M)++Lf))=C++([x,y]++(M++Lf)):=rfl
  rw [this]
  exact (List.perm_append_comm_assoc [x,y] C (M++Lf))
 have heval:a.eval g=.func (.func gf) #[] caps.toArray:=hf.ev hg
 refine ⟨w.heap.size + 1,[nY w.heap.size],W1,{ target:=.fn (.func gf) caps.toArray,args:=#[.func (.yield (w.heap.size + 1)) #[] #[]] },W1,gf,
  #[.func (.yield (w.heap.size + 1)) #[] #[]]++caps.toArray,W1,?_,?_,fun _ _=>trivial,?_,by simp [Fence.wide],?_⟩
 ·rw [← hW1,hrec]
  exact run_enterLoop_outer _ _ _ _ _
 ·simp only [resolve,heval]
  simp [go_sem]
 ·have:=hen (#[.func (.yield (w.heap.size + 1)) #[] #[]]++caps.toArray)
  simp only [invoke,this]
 ·have hcall:=hit (w.heap.size + 1) 0 (aJ3 rec (w.heap.size + 1) w.heap.size id S) _ Lf _ ?_ (fun β Q h o L hJ=>by
   cases o <;> (obtain ⟨M,hS',rfl⟩:=hJ; obtain ⟨A,B,x,rfl⟩:=h _ _ hS'; exact ⟨_::_::A,B,x,rfl⟩)) ⟨L0,hS,rfl⟩ (hc0.perm (hpush C _ _ L0))
  ·have hargs:(#[.func (.yield (w.heap.size + 1)) #[] #[]]++caps.toArray:Array Value)=(.func (.yield (w.heap.size + 1)) #[] #[]::caps).toArray:=by simp
   rw [hargs]
   refine (callsIn_wide.2 hcall).mono ?_
   rintro e w3 ⟨⟨v,rfl⟩,L',hJ,hc3⟩
   have fin:∀ (st:LoopState) (pe:Option Code) (M:List Ent),st ≠ .busy→Ctx G (C2++((.raw (w.heap.size + 1) (.loop (rec st pe))::.raw w.heap.size (.deferred (some []))::M)++Lf)) w3 →
     ∃ w4,(Instr.endLoop (w.heap.size + 1)).run P w3=.ok pe w4∧Ctx G (.raw w.heap.size (.deferred (some []))::(C2++(M++Lf))) w4:=fun st pe M hst hcM=>by
    have hcM':=hcM.perm (hpush C2 _ _ M).symm
    obtain ⟨hb,hcu⟩:=hcM'.rawUpd (o':=.loop { rec st pe with state:=.exhausted }) List.mem_cons_self .here
    have hst':(rec st pe).state=st:=by rw [hrec]
    have hpe:(rec st pe).pending=pe:=by rw [hrec]
    have:=run_endLoop (P:=P) hb (by rw [hst']; exact hst)
    exact ⟨_,this.trans (congrArg (fun q=>Result.ok q _) hpe),hcu.tail⟩
   have hfm:Has ⟨n,nY w.heap.size::ds⟩ { a with defers:=[nY w.heap.size]++a.defers } F:=⟨hf.size,by simp [hf.defers],hf.get⟩
   cases sF with
   | go s=>
    obtain ⟨M,hSM,rfl⟩:=hJ
    obtain ⟨w4,hr,hc4⟩:=fin .ready none M (by simp) hc3
    exact ⟨none,w4,hr,hdone _ s M _ _ (.inl rfl) hSM hfm hc4⟩
   | brk s=>
    obtain ⟨M,hSM,rfl⟩:=hJ
    obtain ⟨w4,hr,hc4⟩:=fin .done _ M (by simp) hc3
    exact ⟨_,w4,hr,wpIn_exit (fB (hdone _ s M _ _ (.inr rfl) hSM hfm hc4))⟩
   | ret s=>
    obtain ⟨M,hSM,rfl⟩:=hJ
    obtain ⟨w4,hr,hc4⟩:=fin .done _ M (by simp) hc3
    exact ⟨_,w4,hr,wpIn_ret (hret _ s M _ _ rfl hSM hfm hc4)⟩
  ·-- a round
   intro m s x r L Lx W hJ hy hcW
   cases s with
   | brk s=>cases hy
   | ret s=>cases hy
   | go s=>
    obtain ⟨M,hSM,rfl⟩:=hJ
    simp only [rY,Option.map_eq_some_iff] at hy
    obtain ⟨o,hbo,rfl⟩:=hy
    have hlW:W.heap[w.heap.size + 1]?=some (.loop (rec .ready none)):=hcW.sat (.raw (w.heap.size + 1) (.loop (rec .ready none))) (by simp)
    have hyr:=run_yield (P:=P) (args:=(encs x).toArray) hlW (by rw [hrec]; simpa using hps x)
    refine ⟨_,_,_,_,hyr,roundIn_of_wpIn trivial ?_⟩
    have hhas:=xV ps.toList (encs x) (F:=F) (n:=n) (fun p hp=>by
     have:=List.all_eq_true.1 hpn p hp
     simpa [Nat.blt_eq] using this) (a:={ a with defers:=[] }) ⟨hf.size,rfl,hf.get⟩
    have hmid:∀ (A B:Ent) (M:List Ent),(A::B::M++Lx).Perm (M++A::B::Lx):=fun A B M=>by
     have h1:(M++A::B::Lx)=M++([A,B]++Lx):=rfl
     have h2:(A::B::M++Lx)=[A,B]++(M++Lx):=rfl
     rw [h1,h2]
     exact (List.perm_append_comm_assoc [A,B] M Lx)
    have htm:(ps.zip (encs x).toArray).foldl (fun t p=>t.setIfInBounds p.1 p.2) (rec .ready none).tmps=(ps.toList.zip (encs x)).foldl (fun t p=>t.setIfInBounds p.1 p.2) a.tmps:=by
     rw [hrec,← Array.foldl_toList]
     simp
    have hgo:=hround (w.heap.size + 1) m s x o M (.raw (w.heap.size + 1) (.loop (rec .ready none))::.raw w.heap.size (.deferred (some []))::Lx) (.raw (w.heap.size + 1) (.loop { rec .ready none with state:=.busy })::.raw w.heap.size (.deferred (some []))::Lx) _ W
     (fun a₁ w₁=>∃ w₂,(Instr.beginRound (w.heap.size + 1)).run P w₁=.ok () w₂∧body.wpIn (Fence.wide.inRound (w.heap.size + 1)) m P (roundPost P (w.heap.size + 1) (fun e w'=>e=.returned (.bool o.on)∧∃ L',aJ3 rec (w.heap.size + 1) w.heap.size id S o L'∧Ctx G (L'++Lx) w')) a₁ w₂) hSM hbo hhas (hcW.perm (hmid _ _ M)) ?_
    ·have hfin:({ tmps:=(ps.zip (encs x).toArray).foldl (fun t p=>t.setIfInBounds p.1 p.2) (rec .ready none).tmps,defers:=[] }:Act)={ tmps:=(ps.toList.zip (encs x)).foldl (fun t p=>t.setIfInBounds p.1 p.2) a.tmps,defers:=[] }:=by rw [htm]
     simp only [hrec] at hfin hgo ⊢
     rw [hfin]
     exact hgo
    ·intro a1 w1 L1 hc1 hb
     obtain ⟨hb1,hcu⟩:=(hc1.perm List.perm_middle).rawUpd (o':=.loop { rec .ready none with state:=.busy }) List.mem_cons_self .here
     have hst:(rec .ready none).state=.ready:=by rw [hrec]
     refine ⟨_,run_beginRound hb1 hst,wpIn_mono (hb _ (hcu.perm List.perm_middle.symm)) ?_⟩
     have fin:∀ (jump:Option Code) (w3:World) (M:List Ent),Ctx G (M++.raw (w.heap.size + 1) (.loop { rec .ready none with state:=.busy })::.raw w.heap.size (.deferred (some []))::Lx) w3 →
       ∃ w4,(Instr.endRound (w.heap.size + 1) jump).run P w3=.ok (.bool jump.isNone) w4∧Ctx G ((.raw (w.heap.size + 1) (.loop (rec (if jump.isNone then .ready else .done) jump))::.raw w.heap.size (.deferred (some []))::M)++Lx) w4:=fun jump w3 M hc3=>by
      obtain ⟨hb3,hcu3⟩:=(hc3.perm List.perm_middle).rawUpd (o':=.loop (rec (if jump.isNone then .ready else .done) jump)) List.mem_cons_self .here
      have:=run_endRound (P:=P) jump hb3
      refine ⟨w3.putObj (w.heap.size + 1) (.loop (rec (if jump.isNone then .ready else .done) jump)),?_,?_⟩
      ·rw [this]; simp only [hrec]
      ·exact hcu3.perm ((List.perm_middle.symm).trans (hmid _ _ M).symm)
     rintro e a3 w3 hp
     cases e with
     | normal=>
      obtain ⟨s',M',rfl,hS',hc3⟩:=hp
      obtain ⟨w4,hr,hc4⟩:=fin none w3 M' hc3
      exact ⟨_,w4,hr,rfl,_,⟨M',hS',rfl⟩,hc4⟩
     | exit i=>
      obtain ⟨rfl,s',M',rfl,hS',hc3⟩:=hp
      obtain ⟨w4,hr,hc4⟩:=fin (some (.exit i)) w3 M' hc3
      exact ⟨_,w4,hr,rfl,_,⟨M',hS',rfl⟩,hc4⟩
     | ret=>
      obtain ⟨s',M',rfl,hS',hc3⟩:=hp
      obtain ⟨w4,hr,hc4⟩:=fin (some .ret) w3 M' hc3
      exact ⟨_,w4,hr,rfl,_,⟨M',hS',rfl⟩,hc4⟩
     | goto t=>exact hp.elim
     | panic ch=>exact hp.elim
     | outgrown=>exact hp.elim
theorem aI3 {β:Type} {n1:Nat} {enc1:β→List Value} {g:Nat→β} (pre mid rest:List Value):pre++(arr n1 enc1 g++(mid++rest))=(pre++(arr n1 enc1 g++mid))++rest:=by simp only [List.append_assoc]
theorem stAr2 {α β:Type} {N:Fm} {F:List (Nat × Value)} {G:bA} {L L':List Ent} {rest:List Oper} {ty:TypeId} {pos:String} {aft:Array Edge} {gd:Option (Nat × Bool)} {x y:Operand} {T:TypeId} {b o o' T0 n sz n1 sz1:Nat} {i:Int} {enc:α→List Value} {f:Nat→α} {enc1:β→List Value} {g:Nat→β} {z:α} {pre mid post vs:List Value} {u:Value} {un:Unit} (hf:Has N a F) (hc:Ctx G L w) (hg:pD ops F ⟨none,.store T x y,ty,pos,aft,gd⟩=some true) (hx:ev F x=some (.pointer (some ⟨b,o + i.toNat * sz + o',none⟩))) (hy:ev F y=some u)
  (hv:u.cells=vs.toArray) (hs:(P.info? T).map (·.size)=some vs.length) (h1:nJ vs=true) (hz:∀ x,(enc x).length=sz) (hz1:∀ x,(enc1 x).length=sz1) (ho:Nat.beq (pre.length + (n1 * sz1 + mid.length)) o=true) (hi:inR i n=some un) (hn:spl (enc (f i.toNat)) o' vs=enc z) (hl:Nat.ble (o' + vs.length) sz=true)
  (hu:Upd L (.box b (pre++(arr n1 enc1 g++(mid++(arr n enc f++post)))) T0) (.box b (pre++(arr n1 enc1 g++(mid++(arr n enc (kR f i.toNat z)++post)))) T0) L')
  (k:∀ w,Ctx G L' w→wpList P ops Q rest a w):wpList P ops Q (⟨none,.store T x y,ty,pos,aft,gd⟩::rest) a w:=by
 rw [aI3,aI3] at hu
 refine aIj (pre:=pre++(arr n1 enc1 g++mid)) hf hc hg hx hy hv hs h1 hz ?_ hi hn hl hu k
 rw [List.length_append,List.length_append,oS hz1]
 exact Nat.eq_of_beq_eq_true ho
theorem aKi {y z M:Int} {n m sz q:Nat} {u v:Unit} (o:Nat) (hy:inR y n=some u) (hz:inR z m=some v) (hM:M=(m:Int)) (hq:q=m * sz):o + y.toNat * q + z.toNat * sz=o + (y * M + z).toNat * sz:=by
 subst hM
 subst hq
 obtain ⟨h1,-⟩:=bF hy
 obtain ⟨h3,-⟩:=bF hz
 have e:(y * (m:Int) + z).toNat=y.toNat * m + z.toNat:=by
  obtain ⟨a,rfl⟩:=Int.eq_ofNat_of_zero_le h1
  obtain ⟨b,rfl⟩:=Int.eq_ofNat_of_zero_le h3
  have:((a:Int) * (m:Int) + (b:Int))=((a * m + b:Nat):Int):=by push_cast; rfl
  rw [this,Int.toNat_natCast,Int.toNat_natCast,Int.toNat_natCast]
 rw [e,Nat.add_mul,Nat.mul_assoc,Nat.add_assoc]
theorem vX {b:Bool} {p q:Prop} (h:b=false) (x:cond b p q):q:=by subst h; exact x
theorem aIg {b:Bool} {p q:Prop} (h:b=true) (x:cond b p q):p:=by subst h; exact x
theorem vK {b:Bool} {p q:Prop} (h:b=false) (x:q):cond b p q:=by subst h; exact x
theorem aIo {b:Bool} {p q:Prop} (h:b=true) (x:p):cond b p q:=by subst h; exact x
section regionm
theorem aPg {P:Program} {ops:Array Oper} {Q:Exit→Act→World→Prop} {n i:Nat} {o:Oper} {a:Act} {w:World} {K:Act→World→Prop} (ho:ops[i]?=some o)
  (h:wpListIn Fence.wide n P ops (Exit.then (fun a' w'=>∀ ds u,a'={ a with defers:=ds }.put o.dst u→K a' w') Q) [o] a w):wpOpIn Fence.wide n P ops Q i K a w:=by
 unfold wpOpIn
 simp only [ho]
 unfold wpListIn at h
 split
 ·rename_i hw
  rw [if_pos hw] at h
  unfold Oper.wpIn at h ⊢
  refine ⟨h.1,?_⟩
  have h:=h.2
  generalize (o.semAt Fence.wide.round a.eval).run P w=r at h ⊢
  cases r with
  | ok n w'=>
   cases n <;> simp only [Oper.uponIn] at h ⊢ <;>
    first
     | exact h _ _ rfl
     | exact ⟨h.1,CallsIn.mono h.2 (fun e w'' he=>by cases e <;> first | exact he _ _ rfl | exact he)⟩
     | exact ⟨h.1,RowsIn.mono h.2 (fun _ _ he=>he _ _ rfl)⟩
     | exact ⟨h.1,RoundIn.mono h.2 (fun e w'' he=>by cases e <;> first | exact he _ _ rfl | exact he)⟩
     | exact h
  | halt x w'=>cases x <;> simp only [Oper.uponIn] at h ⊢ <;> exact h
 ·rename_i hw
  rw [if_neg hw] at h
  exact ⟨h.1,h.2 _ _ rfl⟩
variable {P:Program} {Q:Exit→Act→World→Prop} {N:Fm}
theorem aPv {n:Nat} {ops:Array Oper} {a:Act} {w:World} (h:Q .normal a w):wpListIn Fence.wide n P ops Q [] a w:=h
theorem uN {ops:Array Oper} {K:Act→World→Prop} {l:List Oper} {a:Act} {w:World} (hq:∀ a w,¬ Q .outgrown a w) (h:wpList P ops (Exit.then K Q) l a w):wpListIn Fence.wide 1 P ops (Exit.then K Q) l a w:=aCq (fun a w h=>hq a w h) h
def aOn (P:Program) (ops:Array Oper) (Q:Exit→Act→World→Prop) (N:Fm) (F:List Fa) (M:(Nat→Bool)→World→Prop) (D:List (Nat × Nat)) (i:Nat) (o:Oper):Prop :=
 ∀ (E:Nat→Bool) (a:Act) (w:World),aGu D E→E i=false→tR o E→dL N a E F→M E w →
  ∀ (K:Act→World→Prop),(∀ a' w',(∀ ds u,a'={ a with defers:=ds }.put o.dst u→dL N a' (rU E i) F∧M (rU E i) w')→K a' w')→wpListIn Fence.wide 1 P ops (Exit.then K Q) [o] a w

def aA4 (P:Program) (ops:Array Oper) (Q:Exit→Act→World→Prop) (N:Fm) (F:List Fa) (M:(Nat→Bool)→World→Prop) (D:List (Nat × Nat)):Nat→List Oper→Prop
 | _,[]=>True
 | i,o::l=>aOn P ops Q N F M D i o∧aA4 P ops Q N F M D (i + 1) l

theorem aA4.get {ops:Array Oper} {F:List Fa} {M:(Nat→Bool)→World→Prop} {D:List (Nat × Nat)}:∀ {l:List Oper} {i:Nat},aA4 P ops Q N F M D i l→∀ j o,l[j]?=some o→aOn P ops Q N F M D (i + j) o
 | [],_,_,j,o,h=>by simp at h
 | o'::l,i,hs,j,o,h=>by
  cases j with
  | zero=>simp at h; subst h; exact hs.1
  | succ j=>
   have:=aA4.get hs.2 j o (by simpa using h)
   rwa [Nat.add_assoc,Nat.add_comm 1 j] at this

theorem aGv {l:List Oper} {F:List Fa} {M:(Nat→Bool)→World→Prop} {D:List (Nat × Nat)} (hb:aBi l 0=true) (hd:aGq l D=true)
  (hs:aA4 P l.toArray Q N F M D 0 l)
  (hend:∀ E a w,(∀ i,i < l.length→E i=true)→dL N a E F→M E w→Q .normal a w) :
  ∀ (fuel:Nat) (listed:Array Bool) (E:Nat→Bool) (a:Act) (w:World),listed.size=l.length→(∀ j,E j=listed.getD j false)→unl E l.length≤fuel→aGu D E→dL N a E F→M E w →
   wpAnyIn Fence.wide 1 P .any l.toArray Q fuel listed a w:=by
 intro fuel
 have hfull:∀ (listed:Array Bool) (E:Nat→Bool),listed.size=l.length→(∀ j,E j=listed.getD j false)→Region.ready .any l.toArray listed=[]→∀ n,n≤l.length→∀ i,i < n→E i=true:=by
  intro listed E hz hE hr n
  induction n with
  | zero=>intro _ i h; omega
  | succ n ih=>
   intro hn i hi
   by_cases hin:i < n
   ·exact ih (by omega) i hin
   ·have hin:i=n:=by omega
    subst hin
    cases hEi:E i with
    | true=>rfl
    | false=>
     exfalso
     have hlt:i < l.length:=by omega
     have hm:i ∈ Region.ready .any l.toArray listed:=by
      rw [mem_ready]
      refine ⟨?_,l[i],by simp [hlt],fun e he hbe=>?_⟩
      ·rw [hE] at hEi
       have:i < listed.size:=by omega
       simp [this] at hEi ⊢
       exact hEi
      ·have:=aD9 hb i l[i] (by simp [hlt]) e he hbe
       rw [← hE]
       exact ih (by omega) e.on (by omega)
     rw [hr] at hm
     cases hm
 induction fuel with
 | zero=>
  intro listed E a w hz hE hu hD hf hc
  have hall:=aD4 (E:=E) l.length (by omega)
  refine ⟨?_,hend E a w hall hf hc⟩
  cases hr:Region.ready .any l.toArray listed with
  | nil=>rfl
  | cons i rs=>
   exfalso
   have hi:i ∈ Region.ready .any l.toArray listed:=by rw [hr]; exact List.mem_cons_self
   obtain ⟨h0,o,ho,_⟩:=mem_ready.1 hi
   have hlt:i < l.length:=by
    have:=(Array.getElem?_eq_some_iff.1 ho).1
    simpa using this
   have h1:=hall i hlt
   rw [hE] at h1
   have:i < listed.size:=by omega
   simp [this] at h0 h1
   rw [h0] at h1
   cases h1
 | succ fuel ih=>
  intro listed E a w hz hE hu hD hf hc
  refine ⟨fun hr=>hend E a w (hfull listed E hz hE hr l.length (Nat.le_refl _)) hf hc,fun i hi=>?_⟩
  obtain ⟨h0,o,ho,hp⟩:=mem_ready.1 hi
  have hlt:i < l.length:=by
   have:=(Array.getElem?_eq_some_iff.1 ho).1
   simpa using this
  have hls:i < listed.size:=by omega
  have hEi:E i=false:=by
   rw [hE]
   simp [hls] at h0 ⊢
   exact h0
  have hpo:tR o E:=fun e he hbe=>by rw [hE]; exact hp e he hbe
  have ho':l[i]?=some o:=by simpa using ho
  refine aPg ho ?_
  have hst:=hs.get i o ho'
  rw [Nat.zero_add] at hst
  refine hst E a w hD hEi hpo hf hc _ fun a' w' h ds u hau=>?_
  obtain ⟨hf',hc'⟩:=h ds u hau
  ·refine ih _ (rU E i) a' w' (by simpa using hz) (fun j=>?_) ?_ ?_ hf' hc'
   ·by_cases hj:j=i
    ·subst hj; rw [aN]; simp [hls]
    ·rw [qZ hj,hE,getD_set_ne false (Ne.symm hj)]
   ·have:=aH5 hEi l.length hlt
    omega
   ·intro p hpD hp1
    by_cases hpi:p.1=i
    ·refine vD (hpo.of ?_)
     have:=List.all_eq_true.1 hd p hpD
     rw [hpi,ho'] at this
     exact this
    ·rw [qZ hpi] at hp1
     exact vD (hD p hpD hp1)


theorem aNi {id:Nat} {l:List Oper} {a:Act} {w:World} (F:List Fa) (M:(Nat→Bool)→World→Prop) (D:List (Nat × Nat)) (J:Act→World→Prop)
  (hm:P.follows .mixedOrders=true) (hb:aBi l 0=true) (hd:aGq l D=true)
  (hf:dL N a (fun _=>false) F) (hc:M (fun _=>false) w.drew)
  (hs:aA4 P l.toArray Q N F M D 0 l)
  (hend:∀ E a w,(∀ i,Nat.blt i l.length=true→E i=true)→dL N a E F→M E w→J a w)
  (hJ:∀ a w,J a w→Q .normal a w):(Code.region id l.toArray true).wp P Q a w:=by
 refine wpIn_wide.1 (wpIn_region_any (n:=1) hm ?_)
 refine aGv hb hd hs (fun E a w hall hf hc=>hJ _ _ (hend E a w (fun i hi=>hall i (by simpa [Nat.blt_eq] using hi)) hf hc)) _ _ (fun _=>false) a _ (by simp) (fun j=>?_) ?_ (fun p _ h=>by cases h) hf hc
 ·by_cases hj:j < l.length <;> simp [hj]
 ·simpa using aB2 (fun _=>false) l.length
end regionm
end Go.Nilo
