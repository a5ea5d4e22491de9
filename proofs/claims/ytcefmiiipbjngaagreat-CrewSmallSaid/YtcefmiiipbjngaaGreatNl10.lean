/-
  A range over a function: the rounds' code; the law of the statement; the call of yield; the way out behind marks. Conditions: none.
-/
import Derived.Test.YtcefmiiipbjngaaGreatNl9
import Derived.RangeFuncNested
import Derived.RangeFuncLeaves
import Derived.LoopNIn
import Derived.OrdersIn
set_option linter.unusedSimpArgs false
set_option linter.unusedVariables false
namespace Go.Nilo

def zY (l:List Oper):Bool:=l.all λo=>match o.op with | .defer _=>false | _=>true
theorem aEj {l:List Oper} (h:zY l=true) {o:Oper} (ho:o ∈ l):∀ c, o.op ≠ .defer c:=by
  intro c hc
  have:=List.all_eq_true.1 h o ho
  simp [hc] at this

section conv
variable {P:Program} {ops:Array Oper} {Q:Exit→Act→World→Prop} {a:Act} {w:World} {l n:Nat}

theorem aLg {f:FuncId} {args:Array Value} {R:Ending→World→Prop} (h:Calls P f args w R):CallsIn (Fence.wide.inRound l) n P f args w R :=
  CallsIn.inRound l (callsIn_wide.2 h)

theorem aG3 {o:Oper} {K:Act→World→Prop} (hd:∀ c, o.op ≠ .defer c) (h:o.wp P a w K Q):o.wpIn (Fence.wide.inRound l) n P a w K Q:=by
  refine ⟨λ_ _=>trivial, ?_⟩
  rw [Oper.semAt_eq _ _ _ hd]
  unfold Oper.wp at h
  generalize (execOp a.eval o).run P w=r at h ⊢
  cases r with
  | ok x w'=>
    cases x <;> simp only [Oper.upon, Oper.uponIn] at h ⊢ <;>
      first
        | exact h
        | exact ⟨by simp [Fence.wide], aLg h⟩
        | exact h.elim
        | (refine ⟨by simp [Fence.wide], λc cs _=>?_⟩
           obtain ⟨v, w'', hn, hs⟩:=h c cs
           exact ⟨v, w'', hn, stepsIn_wide.2 hs⟩)
  | halt x w'=>cases x <;> simp only [Oper.upon, Oper.uponIn] at h ⊢ <;> exact h

theorem aD6 (hq:∀ a w, ¬ Q .outgrown a w):∀ {ls:List Oper} {a:Act} {w:World}, zY ls=true→wpList P ops Q ls a w→wpListIn (Fence.wide.inRound l) n P ops Q ls a w
  | [], _, _, _, h=>h
  | o :: ls, a, w, hd, h=>by
    have hd':zY ls=true:=by
      unfold zY at hd ⊢
      simp only [List.all_cons, Bool.and_eq_true] at hd
      exact hd.2
    unfold wpList at h
    unfold wpListIn
    split
    · rename_i hw
      rw [if_pos hw] at h
      rcases h with h | ⟨_, a', w', h⟩
      · exact aG3 (aEj hd List.mem_cons_self) (Oper.wp_mono (λa w h=>aD6 hq hd' h) h)
      · exact absurd h (hq a' w')
    · rename_i hw
      rw [if_neg hw] at h
      exact ⟨λ_ _=>trivial, aD6 hq hd' h⟩

theorem aBt {id:Nat} {ls:List Oper} (hq:∀ a w, ¬ Q .outgrown a w) (hd:zY ls=true) (h:wpList P ls.toArray Q ls a w):(Code.region id ls.toArray false).wpIn (Fence.wide.inRound l) n P Q a w :=
  wpIn_region_lit (aD6 hq hd h)

theorem aQl (hq:∀ a w, ¬ Q .outgrown a w) {i:Nat} {K:Act→World→Prop} (hd:zY ops.toList=true) (h:wpOp P ops Q i K a w):wpOpIn (Fence.wide.inRound l) n P ops Q i K a w:=by
  unfold wpOp at h
  unfold wpOpIn
  cases ho:ops[i]? with
  | none=>simpa [ho] using h
  | some o=>
    simp only [ho] at h ⊢
    have hm:o ∈ ops.toList:=by
      have:=Array.mem_of_getElem? ho
      simpa using this
    split
    · rename_i hw
      rw [if_pos hw] at h
      rcases h with h | ⟨_, a', w', h⟩
      · exact aG3 (aEj hd hm) h
      · exact absurd h (hq a' w')
    · rename_i hw
      rw [if_neg hw] at h
      exact ⟨λ_ _=>trivial, h⟩

theorem aIz (hq:∀ a w, ¬ Q .outgrown a w) {md:Region.Mode} (hd:zY ops.toList=true):∀ (fuel:Nat) (listed:Array Bool) (a:Act) (w:World), wpAny P md ops Q fuel listed a w→wpAnyIn (Fence.wide.inRound l) n P md ops Q fuel listed a w
  | 0, _, _, _, h=>h
  | fuel + 1, _, _, _, h=>⟨h.1, λi hi=>wpOpIn_mono (λa' w' h'=>aIz hq hd fuel _ a' w' h') (aQl hq hd (h.2 i hi))⟩

theorem aNb {N:Fm} {G:cJ} {id:Nat} {ls:List Oper} (hq:∀ a w, ¬ Q .outgrown a w) (hnd:zY ls=true) (F:(Nat→Th)→List Fa) (M:(Nat→Bool)→(Nat→Th)→List Ent) (D:List (Nat × Nat)) (J:Act→World→Prop)
    (hm:P.follows .mixedOrders=true) (hb:aIv ls 0=true) (hd:aQv ls D=true)
    (hf:iW N a (λ_=>false) (F noT)) (hc:Ctx G (M (λ_=>false) noT) w)
    (hs:aD9 P ls.toArray Q N G F M D 0 ls)
    (hend:∀ E θ a w, (∀ i, Nat.blt i ls.length=true→E i=true)→iW N a E (F θ)→Ctx G (M E θ) w→J a w)
    (hJ:∀ a w, J a w→Q .normal a w):(Code.region id ls.toArray true).wpIn (Fence.wide.inRound l) n P Q a w:=by
  refine wpIn_region_any hm (aIz hq (by simpa using hnd) _ _ _ _ ?_)
  refine aF6 hb hd hs (λE θ a w hall hf hc=>hJ _ _ (hend E θ a w (λi hi=>hall i (by simpa [Nat.blt_eq] using hi)) hf hc)) _ _ (λ_=>false) noT a _ (by simp) (λj=>?_) ?_ (λp _ h=>by cases h) hf hc.drew
  · by_cases hj:j < ls.length <;> simp [hj]
  · simpa using aJl (λ_=>false) ls.length

theorem aOe {o:Oper} {K:Act→World→Prop} (h:o.wp P a w K Q):o.wpIn Fence.wide n P a w K Q:=by
  refine ⟨λ_ _=>trivial, ?_⟩
  show o.uponIn Fence.wide n P a K Q ((execOp a.eval o).run P w)
  unfold Oper.wp at h
  generalize (execOp a.eval o).run P w=r at h ⊢
  cases r with
  | ok x w'=>
    cases x <;> simp only [Oper.upon, Oper.uponIn] at h ⊢ <;>
      first
        | exact h
        | exact ⟨by simp [Fence.wide], callsIn_wide.2 h⟩
        | exact h.elim
        | (refine ⟨by simp [Fence.wide], λc cs _=>?_⟩
           obtain ⟨v, w'', hn, hs⟩:=h c cs
           exact ⟨v, w'', hn, stepsIn_wide.2 hs⟩)
  | halt x w'=>cases x <;> simp only [Oper.upon, Oper.uponIn] at h ⊢ <;> exact h

theorem aCw (hq:∀ a w, ¬ Q .outgrown a w) {J:List Oper}:∀ {ls:List Oper} {a:Act} {w:World}, wpList P ops (Exit.then (wpListIn Fence.wide n P ops Q J) Q) ls a w→wpListIn Fence.wide n P ops Q (ls++J) a w
  | [], _, _, h=>h
  | o :: ls, a, w, h=>by
    unfold wpList at h
    show wpListIn _ _ _ _ _ (o :: (ls++J)) _ _
    unfold wpListIn
    split
    · rename_i hw
      rw [if_pos hw] at h
      rcases h with h | ⟨_, a', w', h⟩
      · have h1:=aOe (n:=n) (Oper.wp_mono (λa w h=>aCw hq h) h)
        unfold Oper.wpIn at h1 ⊢
        refine ⟨h1.1, ?_⟩
        have h2:=h1.2
        generalize (o.semAt Fence.wide.round a.eval).run P w=r at h2 ⊢
        cases r with
        | ok x w'=>cases x <;> simp only [Oper.uponIn] at h2 ⊢ <;> exact h2
        | halt x w'=>cases x <;> simp only [Oper.uponIn] at h2 ⊢ <;> exact h2
      · exact absurd h (hq a' w')
    · rename_i hw
      rw [if_neg hw] at h
      exact ⟨λ_ _=>trivial, aCw hq h⟩
theorem yReg {id:Nat} {ls:List Oper} (k:Nat) (J:Act→World→Prop) (hq:∀ a w, ¬ Q .outgrown a w) (h1:wpList P ls.toArray (Exit.then J Q) (ls.take k) a w)
    (h2:∀ a w, J a w→wpListIn Fence.wide 1 P ls.toArray Q (ls.drop k) a w):(Code.region id ls.toArray false).wp P Q a w:=by
  refine wpIn_wide.1 (wpIn_region_lit (n:=1) ?_)
  have:=aCw (n:=1) (J:=ls.drop k) (ls:=ls.take k) (P:=P) (ops:=ls.toArray) (Q:=Q) (a:=a) (w:=w) hq ?_
  · rwa [List.take_append_drop] at this
  · refine yD h1 ?_
    intro e a w he
    cases e <;> first | exact h2 _ _ he | exact he
theorem yRest {ls:List Oper} (hq:∀ a w, ¬ Q .outgrown a w) (h:wpList P ops Q ls a w):wpListIn Fence.wide n P ops Q ls a w:=by
  have:=aCw (n:=n) (J:=[]) (ls:=ls) (P:=P) (ops:=ops) (Q:=Q) (a:=a) (w:=w) hq ?_
  · rwa [List.append_nil] at this
  · refine yD h ?_
    intro e a w he
    cases e <;> exact he
end conv

def aE0 {σ α:Type} (P:Program) (G:cJ) (l:Nat) (encs:α→List Value) (J:σ→List Ent→Prop) (y:σ→α→Option (σ × Bool)):Prop :=
  ∀ (m:Nat) (s:σ) (x:α) (r:σ × Bool) (L Lx:List Ent) (w:World), J s L→y s x=some r→Ctx G (L++Lx) w →
    YieldAt Fence.wide m P l (encs x).toArray w λe w'=>e=.returned (.bool r.2)∧∃ L', J r.1 L'∧Ctx G (L'++Lx) w'

theorem stY {σ α:Type} {P:Program} {G:cJ} {l n d:Nat} {ops:Array Oper} {Q:Exit→Act→World→Prop} {rest:List Oper} {a:Act} {w:World} {N:Fm} {F:List (Nat × Value)}
    {encs:α→List Value} {J:σ→List Ent→Prop} {y:σ→α→Option (σ × Bool)} {x:Operand} {xs:List Operand} {c:Call} {ty:TypeId} {pos:String} {aft:Array Edge} {s:σ} {v:α} {r:σ × Bool} {own L Lf:List Ent} {gd:Option (Nat × Bool)}
    (hy:aE0 P G l encs J y) (hJ:J s L) (hr:y s v=some r) (hf:Has N a F) (hc:Ctx G (own++(L++Lf)) w) (hg:vJ ops F ⟨some d, .call c, ty, pos, aft, gd⟩=some true) (hN:Nat.blt d N.n=true) (hcal:c.callee=.value x) (hx:ev F x=some (.func (.yield l) #[] #[])) (hargs:c.args=xs.toArray) (hvs:xs.mapM (ev F)=some (encs v))
    (k:∀ a w L', J r.1 L'→Has N a ((d, .bool r.2) :: F)→Ctx G (own++(L'++Lf)) w→wpListIn Fence.wide n P ops Q rest a w) :
    wpListIn Fence.wide n P ops Q (⟨some d, .call c, ty, pos, aft, gd⟩ :: rest) a w:=by
  refine wpListIn_step λK hK=>?_
  rw [gX hf hg, if_pos rfl]
  have hc':Ctx G (L++(own++Lf)) w:=hc.perm (by
    rw [← List.append_assoc, ← List.append_assoc]
    exact (List.perm_append_comm).append_right _)
  obtain ⟨fn, tmps, assign, body, hrun, hR⟩:=hy (n - 1) s v r L (own++Lf) w hJ hr hc'
  refine ⟨λ_ _=>trivial, ?_⟩
  show Oper.uponIn Fence.wide n P ⟨some d, .call c, ty, pos, aft, gd⟩ a K Q ((execOp a.eval ⟨some d, .call c, ty, pos, aft, gd⟩).run P w)
  have hex:(execOp a.eval ⟨some d, .call c, ty, pos, aft, gd⟩).run P w=.ok (.round l fn tmps assign body) w:=by
    have e1:c.args.map a.eval=(encs v).toArray:=by rw [hargs]; apply Array.ext'; simpa using evs hf _ _ hvs
    simp only [execOp, resolve, hcal, e1, hf.ev hx, Deferred.ofValue, Sem.run_bind, Sem.run_pure, Result.andThen_ok, invoke]
    simpa using hrun
  rw [hex]
  refine ⟨by simp [Fence.wide], hR.mono ?_⟩
  rintro e w' ⟨rfl, L', hJ', hc2⟩
  refine hK _ _ (k _ _ L' hJ' (hf.put hN _) (hc2.perm ?_))
  rw [← List.append_assoc, ← List.append_assoc]
  exact (List.perm_append_comm).append_right _

inductive Rs (ς:Type) where
  | go (s:ς)
  | brk (s:ς)
  | ret (s:ς)

def Rs.on {ς:Type}:Rs ς→Bool
  | .go _=>true
  | _=>false
def rY {ς α:Type} (body:ς→α→Option (Rs ς)):Rs ς→α→Option (Rs ς × Bool)
  | .go s, x=>(body s x).map λr=>(r, r.on)
  | _, _=>none
def rsK {ς τ:Type} (x:Rs ς) (f g:ς→Option τ):Option τ :=
  match x with
  | .go s=>f s
  | .brk s=>f s
  | .ret s=>g s

def aJr (ps:List Nat) (vs:List Value) (F:List (Nat × Value)):List (Nat × Value):=(ps.zip vs).foldl (λF p=>(p.1, p.2) :: F) F

theorem aFr {n:Nat}:∀ (ps:List Nat) (vs:List Value) {a:Act} {F:List (Nat × Value)}, (∀ p ∈ ps, p < n)→Has ⟨n, []⟩ a F →
    Has ⟨n, []⟩ { tmps:=(ps.zip vs).foldl (λt p=>t.setIfInBounds p.1 p.2) a.tmps, defers:=[] } (aJr ps vs F)
  | [], _, a, F, _, h=>⟨h.size, rfl, h.get⟩
  | p :: ps, [], a, F, _, h=>⟨h.size, rfl, h.get⟩
  | p :: ps, v :: vs, a, F, hp, h=>by
    have h1:=h.put (d:=p) (by simpa [Nat.blt_eq] using hp p List.mem_cons_self) v
    have:=aFr ps vs (λq hq=>hp q (List.mem_cons_of_mem _ hq)) h1
    simpa [aJr, Act.put] using this

def rPost {ς:Type} (id:Nat) (G:cJ) (S:ς→List Ent→Prop) (Lx:List Ent) (o:Rs ς):Exit→Act→World→Prop
  | .normal, _, w=>∃ s L, o=.go s∧S s L∧Ctx G (L++Lx) w
  | .exit i, _, w=>i=id∧∃ s L, o=.brk s∧S s L∧Ctx G (L++Lx) w
  | .ret, _, w=>∃ s L, o=.ret s∧S s L∧Ctx G (L++Lx) w
  | _, _, _=>False

def xN (D:Nat):Deferred:={ target:=.collected D, args:=#[] }

theorem Ctx.rawUpd {G:cJ} {L L':List Ent} {b:Nat} {o o':Obj} {w:World} (h:Ctx G L w) (hm:Ent.raw b o ∈ L) (hu:Upd L (.raw b o) (.raw b o') L'):w.heap[b]?=some o∧Ctx G L' (w.putObj b o'):=by
  have hb:w.heap[b]?=some o:=h.sat _ hm
  refine ⟨hb, h.updAt hu rfl rfl rfl (by simp) (λk _ hk=>World.putObj_heap_other λe=>hk (by rw [e]; rfl)) (World.putObj_heap_same (Array.getElem?_eq_some_iff.1 hb).1) λk hk=>.inl hk⟩

theorem Ctx.newRaw {G:cJ} {L:List Ent} {w:World} (h:Ctx G L w) (o:Obj):Ctx G (.raw w.heap.size o :: L) (w.alloc o):=h.new _ _ rfl (heap_alloc_new w _)

def recJ {ς:Type} (rec:LoopState→Option Code→Loop) (l D id:Nat) (S:ς→List Ent→Prop):Rs ς→List Ent→Prop
  | .go s, L=>∃ M, S s M∧L=.raw l (.loop (rec .ready none)) :: .raw D (.deferred (some [])) :: M
  | .brk s, L=>∃ M, S s M∧L=.raw l (.loop (rec .done (some (.exit id)))) :: .raw D (.deferred (some [])) :: M
  | .ret s, L=>∃ M, S s M∧L=.raw l (.loop (rec .done (some .ret))) :: .raw D (.deferred (some [])) :: M

theorem aO5 {ς α:Type} {P:Program} {Q:Exit→Act→World→Prop} {id:Nat} {g:Operand} {ps:Array Tmp} {assign body:Code} {a:Act} {w:World} {n:Nat} {ds:List Deferred} {F:List (Nat × Value)} {G:cJ} {gf:Nat} {caps:List Value}
    {encs:α→List Value} {C C2 L0 Lf:List Ent} (S:ς→List Ent→Prop) (bodyF:ς→α→Option (Rs ς)) (s0:ς) (sF:Rs ς)
    (hf:Has ⟨n, ds⟩ a F) (hc:Ctx G (C++(L0++Lf)) w) (hg:ev F g=some (.func (.func gf) #[] caps.toArray)) (hen:En P gf) (hps:∀ x, (encs x).length=ps.size) (hpn:ps.toList.all (λp=>Nat.blt p n)=true)
    (hS:S s0 L0)
    (hit:∀ (l m:Nat) (J:Rs ς→List Ent→Prop) (L Lx:List Ent) (w:World), aE0 P G l encs J (rY bodyF)→J (.go s0) L→Ctx G (C++(L++Lx)) w →
      Calls P gf (.func (.yield l) #[] #[] :: caps).toArray w λe w'=>(∃ v, e=.returned v)∧∃ L', J sF L'∧Ctx G (C2++(L'++Lx)) w')
    (hround:∀ (l m:Nat) (s:ς) (x:α) (o:Rs ς) (L Lr Lb:List Ent) (a:Act) (w:World) (K:Act→World→Prop), S s L→bodyF s x=some o→Has ⟨n, []⟩ a (aJr ps.toList (encs x) F)→Ctx G (L++Lr) w →
      (∀ a w L1, Ctx G (L1++Lr) w→(∀ w', Ctx G (L1++Lb) w'→body.wpIn (Fence.wide.inRound l) m P (rPost id G S Lb o) a w')→K a w) →
      assign.wpIn (Fence.wide.inRound l) m P (Exit.then K λ_ _ _=>False) a w)
    (hdone:∀ (D:Nat) (s:ς) (L:List Ent) (a:Act) (w:World), (sF=.go s ∨ sF=.brk s)→S s L→Has ⟨n, xN D :: ds⟩ a F→Ctx G (.raw D (.deferred (some [])) :: (C2++(L++Lf))) w→Q .normal a w)
    (hret:∀ (D:Nat) (s:ς) (L:List Ent) (a:Act) (w:World), sF=.ret s→S s L→Has ⟨n, xN D :: ds⟩ a F→Ctx G (.raw D (.deferred (some [])) :: (C2++(L++Lf))) w→Q .ret a w) :
    (Code.block id (Code.rangeFunc g ps assign body)).wp P Q a w:=by
  refine wp_block ((wpIn_wide (n:=1)).1 (wpIn_rangeFunc ?_))
  intro fn _
  obtain ⟨rec, hrec⟩:∃ rec:LoopState→Option Code→Loop, rec=λst pe=>{ state:=st, pending:=pe, fn, tmps:=a.tmps, params:=ps, assign, body, defers:=w.heap.size }:=⟨_, rfl⟩
  have hc0:Ctx G (.raw (w.heap.size + 1) (.loop (rec .ready none)) :: .raw w.heap.size (.deferred (some [])) :: (C++(L0++Lf))) ((w.alloc (.deferred (some []))).alloc (.loop (rec .ready none))):=by
    have h1:=hc.newRaw (.deferred (some []))
    have h2:=h1.newRaw (.loop (rec .ready none))
    rwa [World.size_alloc] at h2
  obtain ⟨W1, hW1⟩:∃ W1, (w.alloc (.deferred (some []))).alloc (.loop (rec .ready none))=W1:=⟨_, rfl⟩
  rw [hW1] at hc0
  have hpush:∀ (C:List Ent) (x y:Ent) (M:List Ent), (x :: y :: (C++(M++Lf))).Perm (C++((x :: y :: M)++Lf)):=λC x y M=>by
    have:(C++((x :: y :: M)++Lf))=C++([x, y]++(M++Lf)):=rfl
    rw [this]
    exact (List.perm_append_comm_assoc [x, y] C (M++Lf))
  have heval:a.eval g=.func (.func gf) #[] caps.toArray:=hf.ev hg
  refine ⟨w.heap.size + 1, [xN w.heap.size], W1, { target:=.fn (.func gf) caps.toArray, args:=#[.func (.yield (w.heap.size + 1)) #[] #[]] }, W1, gf,
    #[.func (.yield (w.heap.size + 1)) #[] #[]]++caps.toArray, W1, ?_, ?_, λ_ _=>trivial, ?_, by simp [Fence.wide], ?_⟩
  · rw [← hW1, hrec]
    exact run_enterLoop_outer _ _ _ _ _
  · simp only [resolve, heval]
    simp [go_sem]
  · have:=hen (#[.func (.yield (w.heap.size + 1)) #[] #[]]++caps.toArray)
    simp only [invoke, this]
  · have hcall:=hit (w.heap.size + 1) 0 (recJ rec (w.heap.size + 1) w.heap.size id S) _ Lf _ ?_ ⟨L0, hS, rfl⟩ (hc0.perm (hpush C _ _ L0))
    · have hargs:(#[.func (.yield (w.heap.size + 1)) #[] #[]]++caps.toArray:Array Value)=(.func (.yield (w.heap.size + 1)) #[] #[] :: caps).toArray:=by simp
      rw [hargs]
      refine (callsIn_wide.2 hcall).mono ?_
      rintro e w3 ⟨⟨v, rfl⟩, L', hJ, hc3⟩
      have fin:∀ (st:LoopState) (pe:Option Code) (M:List Ent), st ≠ .busy→Ctx G (C2++((.raw (w.heap.size + 1) (.loop (rec st pe)) :: .raw w.heap.size (.deferred (some [])) :: M)++Lf)) w3 →
          ∃ w4, (Instr.endLoop (w.heap.size + 1)).run P w3=.ok pe w4∧Ctx G (.raw w.heap.size (.deferred (some [])) :: (C2++(M++Lf))) w4:=λst pe M hst hcM=>by
        have hcM':=hcM.perm (hpush C2 _ _ M).symm
        obtain ⟨hb, hcu⟩:=hcM'.rawUpd (o':=.loop { rec st pe with state:=.exhausted }) List.mem_cons_self .here
        have hst':(rec st pe).state=st:=by rw [hrec]
        have hpe:(rec st pe).pending=pe:=by rw [hrec]
        have:=run_endLoop (P:=P) hb (by rw [hst']; exact hst)
        exact ⟨_, this.trans (congrArg (λq=>Result.ok q _) hpe), hcu.tail⟩
      have hfm:Has ⟨n, xN w.heap.size :: ds⟩ { a with defers:=[xN w.heap.size]++a.defers } F:=⟨hf.size, by simp [hf.defers], hf.get⟩
      cases sF with
      | go s=>
        obtain ⟨M, hSM, rfl⟩:=hJ
        obtain ⟨w4, hr, hc4⟩:=fin .ready none M (by simp) hc3
        exact ⟨none, w4, hr, hdone _ s M _ _ (.inl rfl) hSM hfm hc4⟩
      | brk s=>
        obtain ⟨M, hSM, rfl⟩:=hJ
        obtain ⟨w4, hr, hc4⟩:=fin .done _ M (by simp) hc3
        exact ⟨_, w4, hr, wpIn_exit (cX (hdone _ s M _ _ (.inr rfl) hSM hfm hc4))⟩
      | ret s=>
        obtain ⟨M, hSM, rfl⟩:=hJ
        obtain ⟨w4, hr, hc4⟩:=fin .done _ M (by simp) hc3
        exact ⟨_, w4, hr, wpIn_ret (hret _ s M _ _ rfl hSM hfm hc4)⟩
    · -- a round
      intro m s x r L Lx W hJ hy hcW
      cases s with
      | brk s=>cases hy
      | ret s=>cases hy
      | go s=>
        obtain ⟨M, hSM, rfl⟩:=hJ
        simp only [rY, Option.map_eq_some_iff] at hy
        obtain ⟨o, hbo, rfl⟩:=hy
        have hlW:W.heap[w.heap.size + 1]?=some (.loop (rec .ready none)):=hcW.sat (.raw (w.heap.size + 1) (.loop (rec .ready none))) (by simp)
        have hyr:=run_yield (P:=P) (args:=(encs x).toArray) hlW (by rw [hrec]; simpa using hps x)
        refine ⟨_, _, _, _, hyr, roundIn_of_wpIn trivial ?_⟩
        have hhas:=aFr ps.toList (encs x) (F:=F) (n:=n) (λp hp=>by
          have:=List.all_eq_true.1 hpn p hp
          simpa [Nat.blt_eq] using this) (a:={ a with defers:=[] }) ⟨hf.size, rfl, hf.get⟩
        have hmid:∀ (A B:Ent) (M:List Ent), (A :: B :: M++Lx).Perm (M++A :: B :: Lx):=λA B M=>by
          have h1:(M++A :: B :: Lx)=M++([A, B]++Lx):=rfl
          have h2:(A :: B :: M++Lx)=[A, B]++(M++Lx):=rfl
          rw [h1, h2]
          exact (List.perm_append_comm_assoc [A, B] M Lx)
        have htm:(ps.zip (encs x).toArray).foldl (λt p=>t.setIfInBounds p.1 p.2) (rec .ready none).tmps=(ps.toList.zip (encs x)).foldl (λt p=>t.setIfInBounds p.1 p.2) a.tmps:=by
          rw [hrec, ← Array.foldl_toList]
          simp
        have hgo:=hround (w.heap.size + 1) m s x o M (.raw (w.heap.size + 1) (.loop (rec .ready none)) :: .raw w.heap.size (.deferred (some [])) :: Lx) (.raw (w.heap.size + 1) (.loop { rec .ready none with state:=.busy }) :: .raw w.heap.size (.deferred (some [])) :: Lx) _ W
          (λa₁ w₁=>∃ w₂, (Instr.beginRound (w.heap.size + 1)).run P w₁=.ok () w₂∧body.wpIn (Fence.wide.inRound (w.heap.size + 1)) m P (roundPost P (w.heap.size + 1) (λe w'=>e=.returned (.bool o.on)∧∃ L', recJ rec (w.heap.size + 1) w.heap.size id S o L'∧Ctx G (L'++Lx) w')) a₁ w₂) hSM hbo hhas (hcW.perm (hmid _ _ M)) ?_
        · have hfin:({ tmps:=(ps.zip (encs x).toArray).foldl (λt p=>t.setIfInBounds p.1 p.2) (rec .ready none).tmps, defers:=[] }:Act)={ tmps:=(ps.toList.zip (encs x)).foldl (λt p=>t.setIfInBounds p.1 p.2) a.tmps, defers:=[] }:=by rw [htm]
          simp only [hrec] at hfin hgo ⊢
          rw [hfin]
          exact hgo
        · intro a1 w1 L1 hc1 hb
          obtain ⟨hb1, hcu⟩:=(hc1.perm List.perm_middle).rawUpd (o':=.loop { rec .ready none with state:=.busy }) List.mem_cons_self .here
          have hst:(rec .ready none).state=.ready:=by rw [hrec]
          refine ⟨_, run_beginRound hb1 hst, wpIn_mono (hb _ (hcu.perm List.perm_middle.symm)) ?_⟩
          have fin:∀ (jump:Option Code) (w3:World) (M:List Ent), Ctx G (M++.raw (w.heap.size + 1) (.loop { rec .ready none with state:=.busy }) :: .raw w.heap.size (.deferred (some [])) :: Lx) w3 →
              ∃ w4, (Instr.endRound (w.heap.size + 1) jump).run P w3=.ok (.bool jump.isNone) w4∧Ctx G ((.raw (w.heap.size + 1) (.loop (rec (if jump.isNone then .ready else .done) jump)) :: .raw w.heap.size (.deferred (some [])) :: M)++Lx) w4:=λjump w3 M hc3=>by
            obtain ⟨hb3, hcu3⟩:=(hc3.perm List.perm_middle).rawUpd (o':=.loop (rec (if jump.isNone then .ready else .done) jump)) List.mem_cons_self .here
            have:=run_endRound (P:=P) jump hb3
            refine ⟨w3.putObj (w.heap.size + 1) (.loop (rec (if jump.isNone then .ready else .done) jump)), ?_, ?_⟩
            · rw [this]; simp only [hrec]
            · exact hcu3.perm ((List.perm_middle.symm).trans (hmid _ _ M).symm)
          rintro e a3 w3 hp
          cases e with
          | normal=>
            obtain ⟨s', M', rfl, hS', hc3⟩:=hp
            obtain ⟨w4, hr, hc4⟩:=fin none w3 M' hc3
            exact ⟨_, w4, hr, rfl, _, ⟨M', hS', rfl⟩, hc4⟩
          | exit i=>
            obtain ⟨rfl, s', M', rfl, hS', hc3⟩:=hp
            obtain ⟨w4, hr, hc4⟩:=fin (some (.exit i)) w3 M' hc3
            exact ⟨_, w4, hr, rfl, _, ⟨M', hS', rfl⟩, hc4⟩
          | ret=>
            obtain ⟨s', M', rfl, hS', hc3⟩:=hp
            obtain ⟨w4, hr, hc4⟩:=fin (some .ret) w3 M' hc3
            exact ⟨_, w4, hr, rfl, _, ⟨M', hS', rfl⟩, hc4⟩
          | goto t=>exact hp.elim
          | panic ch=>exact hp.elim
          | outgrown=>exact hp.elim

section round
variable {P:Program} {Q:Exit→Act→World→Prop} {a:Act} {w:World} {N:Fm} {F:List (Nat × Value)} {l n:Nat}
theorem aAh {x y:Code} (h:∀ K:Act→World→Prop, (∀ a w, y.wpIn (Fence.wide.inRound l) n P Q a w→K a w)→x.wpIn (Fence.wide.inRound l) n P (Exit.then K Q) a w) :
    (Code.seq x y).wpIn (Fence.wide.inRound l) n P Q a w:=wpIn_seq_k h
theorem aHs {id:Nat} {c:Code} (h:c.wpIn (Fence.wide.inRound l) n P (Exit.inBlock id Q) a w):(Code.block id c).wpIn (Fence.wide.inRound l) n P Q a w:=wpIn_block h
theorem rRet (h:Q .ret a w):Code.ret.wpIn (Fence.wide.inRound l) n P Q a w:=wpIn_ret h
theorem aRa {id:Nat} (h:Q (.exit id) a w):(Code.exit id).wpIn (Fence.wide.inRound l) n P Q a w:=wpIn_exit h
theorem aKh (h:Q .normal a w):Code.skip.wpIn (Fence.wide.inRound l) n P Q a w:=wpIn_skip h
theorem aKv {c:Operand} {x y:Code} {b:Bool} (hf:Has N a F) (hc:ev F c=some (.bool b)) (h1:b=true→x.wpIn (Fence.wide.inRound l) n P Q a w) (h2:b=false→y.wpIn (Fence.wide.inRound l) n P Q a w) :
    (Code.cond c x y).wpIn (Fence.wide.inRound l) n P Q a w:=wpIn_cond_split (hf.ev hc) h1 h2
theorem aLw {c:Code} (h:∀ K:Act→World→Prop, (∀ a w, Q .normal a w→K a w)→c.wpIn (Fence.wide.inRound l) n P (Exit.then K Q) a w):c.wpIn (Fence.wide.inRound l) n P Q a w:=by
  refine wpIn_mono (h (Q .normal) λ_ _ h=>h) λe a w he=>?_
  cases e <;> exact he
theorem rLoop {c:Code} (m:Nat) (h:Code.roundsIn (Fence.wide.inRound l) n P c Q m a w):(Code.loop c).wpIn (Fence.wide.inRound l) n P Q a w:=wpIn_loop_rounds m h

theorem aSr {c:Code} {σ ρ:Type} {body:σ→Option (bC σ ρ)} {S:σ→Act→World→Prop} {x:Ex σ ρ}
    (hb:∀ s st a w (K:Act→World→Prop), S s a w→body s=some st→Fin x st→(∀ s' a w, st=.cont s'→S s' a w→K a w)→c.wpIn (Fence.wide.inRound l) n P (Exit.then K Q) a w) :
    ∀ (m:Nat) (s:σ) (a:Act) (w:World), S s a w→aS body m s=some x→Code.roundsIn (Fence.wide.inRound l) n P c Q m a w
  | 0, _, _, _, _, h=>by simp [aS] at h
  | m + 1, s, a, w, hS, h=>by
    rw [roundsIn_succ]
    unfold aS at h
    cases hs:body s with
    | none=>simp [hs] at h
    | some st=>
      rw [hs] at h
      refine hb s st a w _ hS hs ?_ ?_
      · cases st with
        | cont s'=>trivial
        | brk s'=>exact (Option.some.inj h).symm
        | ret r=>exact (Option.some.inj h).symm
      · intro s' a' w' he hS'
        subst he
        exact aSr hb m s' a' w' hS' h
end round

theorem aPq {P:Program} {f:Nat} {fn:Func} {c:Code} {args:List Value} {w:World} {R:Ending→World→Prop} {N:Nat} (hf:P.funcs[f]?=some fn) (hb:fn.body=some c) (hN:fn.ntmps=N) (hl:Nat.ble args.length N=true)
    (h:∀ a, Has ⟨N, []⟩ a (aIx 0 args)→c.wp P (bodyPostM Fence.wide 1 P fn R) a w):Calls P f args.toArray w R:=by
  refine (callsIn_wide (n:=1)).1 (callsIn_of_wp_marks hf hb trivial (wpIn_wide.2 (h _ ⟨?_, rfl, λd v hv=>?_⟩)))
  · have:args.length≤N:=by simpa using hl
    simp only [Array.size_append, List.size_toArray, Array.size_replicate, hN]
    omega
  · obtain ⟨j, rfl, hj⟩:=aD1 args 0 d v hv
    have hlt:=(List.getElem?_eq_some_iff.1 hj).1
    rw [Nat.zero_add, Array.getElem?_append_left (by simpa using hlt)]
    simpa using hj

section endsM
variable {P:Program} {fn:Func} {R:Ending→World→Prop} {a:Act} {w:World} {n:Nat} {ds:List Deferred} {F:List (Nat × Value)} {G:cJ} {L L':List Ent}

def Lv (P:Program) (fn:Func) (R:Ending→World→Prop) (tmps:Array Value) (ds:List Deferred) (w:World):Prop:=LeavesInM Fence.wide 1 P fn tmps R ds .returning w

theorem aJy (hf:Has ⟨n, ds⟩ a F) (h:Lv P fn R a.tmps ds w):bodyPostM Fence.wide 1 P fn R .ret a w:=by
  show LeavesInM _ _ _ _ _ _ a.defers _ _
  rw [hf.defers]
  exact h
theorem outMc {tmps:Array Value} {D:Nat} (hc:Ctx G L w) (hm:Ent.raw D (.deferred (some [])) ∈ L) (hu:Upd L (.raw D (.deferred (some []))) (.raw D (.deferred none)) L') (h:∀ w, Ctx G L' w→Lv P fn R tmps ds w):Lv P fn R tmps (xN D :: ds) w:=by
  obtain ⟨hb, hc'⟩:=hc.rawUpd hm hu
  exact ⟨by simp, .inl ⟨D, _, rfl, run_takeDeferred hb, h _ hc'⟩⟩
theorem aP1 {tmps:Array Value} {v:Value} (hr:(results fn tmps).run P w=.ok v w) (hR:R (.returned v) w):Lv P fn R tmps [] w:=by
  unfold Lv LeavesInM LeavesIn
  exact ⟨v, hr, hR⟩
variable {r1 r2 r3:ResultVar} {v1 v2 v3:Value}
theorem aSb (hres:fn.results=#[]) (hR:R (.returned (.tuple #[])) w):Lv P fn R a.tmps [] w:=aP1 (results_none hres _ _ _) hR
theorem aSu (hres:fn.results=#[r1]) (hf:Has ⟨n, ds⟩ a F) (hc:Ctx G L w) (h1:Rv P ⟨n, ds⟩ F G L r1 v1) (hR:R (.returned v1) w):Lv P fn R a.tmps [] w:=by
  refine aP1 ?_ hR
  have k1:=h1.run hf hc
  rw [uM, hres]
  simp [k1]
theorem aK5 (hres:fn.results=#[r1, r2]) (hf:Has ⟨n, ds⟩ a F) (hc:Ctx G L w) (h1:Rv P ⟨n, ds⟩ F G L r1 v1) (h2:Rv P ⟨n, ds⟩ F G L r2 v2) (hR:R (.returned (.tuple #[v1, v2])) w):Lv P fn R a.tmps [] w:=by
  refine aP1 ?_ hR
  have k1:=h1.run hf hc
  have k2:=h2.run hf hc
  rw [uM, hres]
  simp [k1, k2]
end endsM
end Go.Nilo
