/-
  Ranges over a function that read, from round to round, a box that the rounds own and leave as it is. Conditions: what each theorem names.
-/
import Derived.Test.YtkcmofifepmkdaaGreatNl21
set_option linter.unusedSimpArgs false
set_option linter.unusedVariables false
namespace Go.Nilo
variable {P:Program} {ops:Array Oper} {Q:Exit→Act→World→Prop} {a:Act} {w:World} {l n:Nat}
theorem aI6 {ς α:Type} {P:Program} {Q:Exit→Act→World→Prop} {id:Nat} {g:Operand} {ps:Array Tmp} {assign body:Code} {a:Act} {w:World} {n:Nat} {ds:List Deferred} {F:List (Nat × Value)} {G:bA} {gf:Nat} {caps:List Value}
  {encs:α→List Value} {C C2 L0 Lf:List Ent} (S:ς→List Ent→Prop) (bodyF:ς→α→Option (Rs ς)) (s0:ς) (sF:Rs ς)
  (hf:Has ⟨n,ds⟩ a F) (hc:Ctx G (C++(L0++Lf)) w) (hg:ev F g=some (.func (.func gf) #[] caps.toArray)) (hen:En P gf) (hps:∀ x,(encs x).length=ps.size) (hpn:ps.toList.all (fun p=>Nat.blt p n)=true)
  (hS:S s0 L0)
  (hit:∀ (l m:Nat) (J:Rs ς→List Ent→Prop) (L Lx:List Ent) (w:World),rJ P G l encs J (rY bodyF)→(∀ Q:Ent,(∀ s M,S s M→∃ A B,M=A++(Q::B))→∀ o L,J o L→∃ A B,L=A++(Q::B))→J (.go s0) L→Ctx G (C++(L++Lx)) w →
   Calls P gf (.func (.yield l) #[] #[]::caps).toArray w fun e w'=>(∃ v,e=.returned v)∧∃ L',J sF L'∧Ctx G (C2++(L'++Lx)) w')
  (hround:∀ (l m:Nat) (s:ς) (x:α) (o:Rs ς) (L Lr Lb:List Ent) (a:Act) (w:World) (K:Act→World→Prop),S s L→bodyF s x=some o→Has ⟨n,[]⟩ a (aC0 ps.toList (encs x) F)→Ctx G (L++Lr) w →
   (∀ a w L1,Ctx G (L1++Lr) w→(∀ w',Ctx G (L1++Lb) w'→body.wpIn (Fence.wide.inRound l) m P (aLq id G S Lb o) a w')→K a w) →
   assign.wpIn (Fence.wide.inRound l) m P (Exit.then K fun _ _ _=>False) a w)
  (hdone:∀ (D:Nat) (s:ς) (L:List Ent) (a:Act) (w:World),(sF=.go s ∨ sF=.brk s)→S s L→Has ⟨n,nY D::ds⟩ a F→Ctx G (.raw D (.deferred (some []))::(C2++(L++Lf))) w→Q .normal a w)
  (hret:∀ (D:Nat) (s:ς) (L:List Ent) (a:Act) (w:World),sF=.ret s→S s L→Has ⟨n,nY D::ds⟩ a F→Ctx G (.raw D (.deferred (some []))::(C2++(L++Lf))) w→Q .ret a w) :
  (Code.block id (Code.rangeFunc g ps assign body)).wp P Q a w:=by
 refine wp_block ((wpIn_wide (n:=1)).1 (wpIn_rangeFunc ?_))
 intro fn _
 obtain ⟨rec,hrec⟩:∃ rec:LoopState→Option Code→Loop,rec=fun st pe=>{ state:=st,pending:=pe,fn,tmps:=a.tmps,params:=ps,assign,body,defers:=w.heap.size }:=⟨_,rfl⟩
 have hc0:Ctx G (.raw (w.heap.size + 1) (.loop (rec .ready none))::.raw w.heap.size (.deferred (some []))::(C++(L0++Lf))) ((w.alloc (.deferred (some []))).alloc (.loop (rec .ready none))):=by
  have h1:=hc.newRaw (.deferred (some []))
  have h2:=h1.newRaw (.loop (rec .ready none))
  rwa [World.size_alloc] at h2
 obtain ⟨W1,hW1⟩:∃ W1,(w.alloc (.deferred (some []))).alloc (.loop (rec .ready none))=W1:=⟨_,rfl⟩
 rw [hW1] at hc0
 have hpush:∀ (C:List Ent) (x y:Ent) (M:List Ent),(x::y::(C++(M++Lf))).Perm (C++((x::y::M)++Lf)):=fun C x y M=>by
  have:(C++((x::y::M)++Lf))=C++([x,y]++(M++Lf)):=rfl
  rw [this]
  exact (List.perm_append_comm_assoc [x,y] C (M++Lf))
 have heval:a.eval g=.func (.func gf) #[] caps.toArray:=hf.ev hg
 refine ⟨w.heap.size + 1,[nY w.heap.size],W1,{ target:=.fn (.func gf) caps.toArray,args:=#[.func (.yield (w.heap.size + 1)) #[] #[]] },W1,gf,
  #[.func (.yield (w.heap.size + 1)) #[] #[]]++caps.toArray,W1,?_,?_,fun _ _=>trivial,?_,by simp [Fence.wide],?_⟩
 ·rw [← hW1,hrec]
  exact run_enterLoop_outer _ _ _ _ _
 ·simp only [resolve,heval]
  simp [go_sem]
 ·have:=hen (#[.func (.yield (w.heap.size + 1)) #[] #[]]++caps.toArray)
  simp only [invoke,this]
 ·have hcall:=hit (w.heap.size + 1) 0 (aJ3 rec (w.heap.size + 1) w.heap.size id S) _ Lf _ ?_ (fun Q h o L hJ=>by
   cases o <;> (obtain ⟨M,hS',rfl⟩:=hJ; obtain ⟨A,B,rfl⟩:=h _ _ hS'; exact ⟨_::_::A,B,rfl⟩)) ⟨L0,hS,rfl⟩ (hc0.perm (hpush C _ _ L0))
  ·have hargs:(#[.func (.yield (w.heap.size + 1)) #[] #[]]++caps.toArray:Array Value)=(.func (.yield (w.heap.size + 1)) #[] #[]::caps).toArray:=by simp
   rw [hargs]
   refine (callsIn_wide.2 hcall).mono ?_
   rintro e w3 ⟨⟨v,rfl⟩,L',hJ,hc3⟩
   have fin:∀ (st:LoopState) (pe:Option Code) (M:List Ent),st ≠ .busy→Ctx G (C2++((.raw (w.heap.size + 1) (.loop (rec st pe))::.raw w.heap.size (.deferred (some []))::M)++Lf)) w3 →
     ∃ w4,(Instr.endLoop (w.heap.size + 1)).run P w3=.ok pe w4∧Ctx G (.raw w.heap.size (.deferred (some []))::(C2++(M++Lf))) w4:=fun st pe M hst hcM=>by
    have hcM':=hcM.perm (hpush C2 _ _ M).symm
    obtain ⟨hb,hcu⟩:=hcM'.rawUpd (o':=.loop { rec st pe with state:=.exhausted }) List.mem_cons_self .here
    have hst':(rec st pe).state=st:=by rw [hrec]
    have hpe:(rec st pe).pending=pe:=by rw [hrec]
    have:=run_endLoop (P:=P) hb (by rw [hst']; exact hst)
    exact ⟨_,this.trans (congrArg (fun q=>Result.ok q _) hpe),hcu.tail⟩
   have hfm:Has ⟨n,nY w.heap.size::ds⟩ { a with defers:=[nY w.heap.size]++a.defers } F:=⟨hf.size,by simp [hf.defers],hf.get⟩
   cases sF with
   | go s=>
    obtain ⟨M,hSM,rfl⟩:=hJ
    obtain ⟨w4,hr,hc4⟩:=fin .ready none M (by simp) hc3
    exact ⟨none,w4,hr,hdone _ s M _ _ (.inl rfl) hSM hfm hc4⟩
   | brk s=>
    obtain ⟨M,hSM,rfl⟩:=hJ
    obtain ⟨w4,hr,hc4⟩:=fin .done _ M (by simp) hc3
    exact ⟨_,w4,hr,wpIn_exit (fB (hdone _ s M _ _ (.inr rfl) hSM hfm hc4))⟩
   | ret s=>
    obtain ⟨M,hSM,rfl⟩:=hJ
    obtain ⟨w4,hr,hc4⟩:=fin .done _ M (by simp) hc3
    exact ⟨_,w4,hr,wpIn_ret (hret _ s M _ _ rfl hSM hfm hc4)⟩
  ·-- a round
   intro m s x r L Lx W hJ hy hcW
   cases s with
   | brk s=>cases hy
   | ret s=>cases hy
   | go s=>
    obtain ⟨M,hSM,rfl⟩:=hJ
    simp only [rY,Option.map_eq_some_iff] at hy
    obtain ⟨o,hbo,rfl⟩:=hy
    have hlW:W.heap[w.heap.size + 1]?=some (.loop (rec .ready none)):=hcW.sat (.raw (w.heap.size + 1) (.loop (rec .ready none))) (by simp)
    have hyr:=run_yield (P:=P) (args:=(encs x).toArray) hlW (by rw [hrec]; simpa using hps x)
    refine ⟨_,_,_,_,hyr,roundIn_of_wpIn trivial ?_⟩
    have hhas:=xV ps.toList (encs x) (F:=F) (n:=n) (fun p hp=>by
     have:=List.all_eq_true.1 hpn p hp
     simpa [Nat.blt_eq] using this) (a:={ a with defers:=[] }) ⟨hf.size,rfl,hf.get⟩
    have hmid:∀ (A B:Ent) (M:List Ent),(A::B::M++Lx).Perm (M++A::B::Lx):=fun A B M=>by
     have h1:(M++A::B::Lx)=M++([A,B]++Lx):=rfl
     have h2:(A::B::M++Lx)=[A,B]++(M++Lx):=rfl
     rw [h1,h2]
     exact (List.perm_append_comm_assoc [A,B] M Lx)
    have htm:(ps.zip (encs x).toArray).foldl (fun t p=>t.setIfInBounds p.1 p.2) (rec .ready none).tmps=(ps.toList.zip (encs x)).foldl (fun t p=>t.setIfInBounds p.1 p.2) a.tmps:=by
     rw [hrec,← Array.foldl_toList]
     simp
    have hgo:=hround (w.heap.size + 1) m s x o M (.raw (w.heap.size + 1) (.loop (rec .ready none))::.raw w.heap.size (.deferred (some []))::Lx) (.raw (w.heap.size + 1) (.loop { rec .ready none with state:=.busy })::.raw w.heap.size (.deferred (some []))::Lx) _ W
     (fun a₁ w₁=>∃ w₂,(Instr.beginRound (w.heap.size + 1)).run P w₁=.ok () w₂∧body.wpIn (Fence.wide.inRound (w.heap.size + 1)) m P (roundPost P (w.heap.size + 1) (fun e w'=>e=.returned (.bool o.on)∧∃ L',aJ3 rec (w.heap.size + 1) w.heap.size id S o L'∧Ctx G (L'++Lx) w')) a₁ w₂) hSM hbo hhas (hcW.perm (hmid _ _ M)) ?_
    ·have hfin:({ tmps:=(ps.zip (encs x).toArray).foldl (fun t p=>t.setIfInBounds p.1 p.2) (rec .ready none).tmps,defers:=[] }:Act)={ tmps:=(ps.toList.zip (encs x)).foldl (fun t p=>t.setIfInBounds p.1 p.2) a.tmps,defers:=[] }:=by rw [htm]
     simp only [hrec] at hfin hgo ⊢
     rw [hfin]
     exact hgo
    ·intro a1 w1 L1 hc1 hb
     obtain ⟨hb1,hcu⟩:=(hc1.perm List.perm_middle).rawUpd (o':=.loop { rec .ready none with state:=.busy }) List.mem_cons_self .here
     have hst:(rec .ready none).state=.ready:=by rw [hrec]
     refine ⟨_,run_beginRound hb1 hst,wpIn_mono (hb _ (hcu.perm List.perm_middle.symm)) ?_⟩
     have fin:∀ (jump:Option Code) (w3:World) (M:List Ent),Ctx G (M++.raw (w.heap.size + 1) (.loop { rec .ready none with state:=.busy })::.raw w.heap.size (.deferred (some []))::Lx) w3 →
       ∃ w4,(Instr.endRound (w.heap.size + 1) jump).run P w3=.ok (.bool jump.isNone) w4∧Ctx G ((.raw (w.heap.size + 1) (.loop (rec (if jump.isNone then .ready else .done) jump))::.raw w.heap.size (.deferred (some []))::M)++Lx) w4:=fun jump w3 M hc3=>by
      obtain ⟨hb3,hcu3⟩:=(hc3.perm List.perm_middle).rawUpd (o':=.loop (rec (if jump.isNone then .ready else .done) jump)) List.mem_cons_self .here
      have:=run_endRound (P:=P) jump hb3
      refine ⟨w3.putObj (w.heap.size + 1) (.loop (rec (if jump.isNone then .ready else .done) jump)),?_,?_⟩
      ·rw [this]; simp only [hrec]
      ·exact hcu3.perm ((List.perm_middle.symm).trans (hmid _ _ M).symm)
     rintro e a3 w3 hp
     cases e with
     | normal=>
      obtain ⟨s',M',rfl,hS',hc3⟩:=hp
      obtain ⟨w4,hr,hc4⟩:=fin none w3 M' hc3
      exact ⟨_,w4,hr,rfl,_,⟨M',hS',rfl⟩,hc4⟩
     | exit i=>
      obtain ⟨rfl,s',M',rfl,hS',hc3⟩:=hp
      obtain ⟨w4,hr,hc4⟩:=fin (some (.exit i)) w3 M' hc3
      exact ⟨_,w4,hr,rfl,_,⟨M',hS',rfl⟩,hc4⟩
     | ret=>
      obtain ⟨s',M',rfl,hS',hc3⟩:=hp
      obtain ⟨w4,hr,hc4⟩:=fin (some .ret) w3 M' hc3
      exact ⟨_,w4,hr,rfl,_,⟨M',hS',rfl⟩,hc4⟩
     | goto t=>exact hp.elim
     | panic ch=>exact hp.elim
     | outgrown=>exact hp.elim


end Go.Nilo
