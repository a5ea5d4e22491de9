/-
  A range over a function: the rounds' code; the law of the statement; the call of yield; the way out behind marks. Conditions: none.
-/
import Derived.Test.YtkcmofifepmkdaaGreatNl9
import Derived.RangeFuncNested
import Derived.RangeFuncLeaves
import Derived.LoopNIn
import Derived.OrdersIn
set_option linter.unusedSimpArgs false
set_option linter.unusedVariables false
namespace Go.Nilo

def tZ (l:List Oper):Bool:=l.all fun o=>match o.op with | .defer _=>false | _=>true
theorem zZ {l:List Oper} (h:tZ l=true) {o:Oper} (ho:o ∈ l):∀ c, o.op ≠ .defer c:=by
  intro c hc
  have:=List.all_eq_true.1 h o ho
  simp [hc] at this

section conv
variable {P:Program} {ops:Array Oper} {Q:Exit→Act→World→Prop} {a:Act} {w:World} {l n:Nat}

theorem aHl {f:FuncId} {args:Array Value} {R:Ending→World→Prop} (h:Calls P f args w R):CallsIn (Fence.wide.inRound l) n P f args w R :=
  CallsIn.inRound l (callsIn_wide.2 h)

theorem aC6 {o:Oper} {K:Act→World→Prop} (hd:∀ c, o.op ≠ .defer c) (h:o.wp P a w K Q):o.wpIn (Fence.wide.inRound l) n P a w K Q:=by
  refine ⟨fun _ _=>trivial, ?_⟩
  rw [Oper.semAt_eq _ _ _ hd]
  unfold Oper.wp at h
  generalize (execOp a.eval o).run P w=r at h ⊢
  cases r with
  | ok x w'=>
    cases x <;> simp only [Oper.upon, Oper.uponIn] at h ⊢ <;>
      first
        | exact h
        | exact ⟨by simp [Fence.wide], aHl h⟩
        | exact h.elim
        | (refine ⟨by simp [Fence.wide], fun c cs _=>?_⟩
           obtain ⟨v, w'', hn, hs⟩:=h c cs
           exact ⟨v, w'', hn, stepsIn_wide.2 hs⟩)
  | halt x w'=>cases x <;> simp only [Oper.upon, Oper.uponIn] at h ⊢ <;> exact h

theorem yV (hq:∀ a w, ¬ Q .outgrown a w):∀ {ls:List Oper} {a:Act} {w:World}, tZ ls=true→wpList P ops Q ls a w→wpListIn (Fence.wide.inRound l) n P ops Q ls a w
  | [], _, _, _, h=>h
  | o :: ls, a, w, hd, h=>by
    have hd':tZ ls=true:=by
      unfold tZ at hd ⊢
      simp only [List.all_cons, Bool.and_eq_true] at hd
      exact hd.2
    unfold wpList at h
    unfold wpListIn
    split
    · rename_i hw
      rw [if_pos hw] at h
      rcases h with h | ⟨_, a', w', h⟩
      · exact aC6 (zZ hd List.mem_cons_self) (Oper.wp_mono (fun a w h=>yV hq hd' h) h)
      · exact absurd h (hq a' w')
    · rename_i hw
      rw [if_neg hw] at h
      exact ⟨fun _ _=>trivial, yV hq hd' h⟩

theorem sP {id:Nat} {ls:List Oper} (hq:∀ a w, ¬ Q .outgrown a w) (hd:tZ ls=true) (h:wpList P ls.toArray Q ls a w):(Code.region id ls.toArray false).wpIn (Fence.wide.inRound l) n P Q a w :=
  wpIn_region_lit (yV hq hd h)

theorem aNd (hq:∀ a w, ¬ Q .outgrown a w) {i:Nat} {K:Act→World→Prop} (hd:tZ ops.toList=true) (h:wpOp P ops Q i K a w):wpOpIn (Fence.wide.inRound l) n P ops Q i K a w:=by
  unfold wpOp at h
  unfold wpOpIn
  cases ho:ops[i]? with
  | none=>simpa [ho] using h
  | some o=>
    simp only [ho] at h ⊢
    have hm:o ∈ ops.toList:=by
      have:=Array.mem_of_getElem? ho
      simpa using this
    split
    · rename_i hw
      rw [if_pos hw] at h
      rcases h with h | ⟨_, a', w', h⟩
      · exact aC6 (zZ hd hm) h
      · exact absurd h (hq a' w')
    · rename_i hw
      rw [if_neg hw] at h
      exact ⟨fun _ _=>trivial, h⟩

theorem aFm (hq:∀ a w, ¬ Q .outgrown a w) {md:Region.Mode} (hd:tZ ops.toList=true):∀ (fuel:Nat) (listed:Array Bool) (a:Act) (w:World), wpAny P md ops Q fuel listed a w→wpAnyIn (Fence.wide.inRound l) n P md ops Q fuel listed a w
  | 0, _, _, _, h=>h
  | fuel + 1, _, _, _, h=>⟨h.1, fun i hi=>wpOpIn_mono (fun a' w' h'=>aFm hq hd fuel _ a' w' h') (aNd hq hd (h.2 i hi))⟩

theorem xP {N:Fm} {G:bA} {id:Nat} {ls:List Oper} (hq:∀ a w, ¬ Q .outgrown a w) (hnd:tZ ls=true) (F:(Nat→Th)→List Fa) (M:(Nat→Bool)→(Nat→Th)→List Ent) (D:List (Nat × Nat)) (J:Act→World→Prop)
    (hm:P.follows .mixedOrders=true) (hb:aBi ls 0=true) (hd:aGq ls D=true)
    (hf:dL N a (fun _=>false) (F noT)) (hc:Ctx G (M (fun _=>false) noT) w)
    (hs:yU P ls.toArray Q N G F M D 0 ls)
    (hend:∀ E θ a w, (∀ i, Nat.blt i ls.length=true→E i=true)→dL N a E (F θ)→Ctx G (M E θ) w→J a w)
    (hJ:∀ a w, J a w→Q .normal a w):(Code.region id ls.toArray true).wpIn (Fence.wide.inRound l) n P Q a w:=by
  refine wpIn_region_any hm (aFm hq (by simpa using hnd) _ _ _ _ ?_)
  refine aBh hb hd hs (fun E θ a w hall hf hc=>hJ _ _ (hend E θ a w (fun i hi=>hall i (by simpa [Nat.blt_eq] using hi)) hf hc)) _ _ (fun _=>false) noT a _ (by simp) (fun j=>?_) ?_ (fun p _ h=>by cases h) hf hc.drew
  · by_cases hj:j < ls.length <;> simp [hj]
  · simpa using aB2 (fun _=>false) ls.length

theorem aKm {o:Oper} {K:Act→World→Prop} (h:o.wp P a w K Q):o.wpIn Fence.wide n P a w K Q:=by
  refine ⟨fun _ _=>trivial, ?_⟩
  show o.uponIn Fence.wide n P a K Q ((execOp a.eval o).run P w)
  unfold Oper.wp at h
  generalize (execOp a.eval o).run P w=r at h ⊢
  cases r with
  | ok x w'=>
    cases x <;> simp only [Oper.upon, Oper.uponIn] at h ⊢ <;>
      first
        | exact h
        | exact ⟨by simp [Fence.wide], callsIn_wide.2 h⟩
        | exact h.elim
        | (refine ⟨by simp [Fence.wide], fun c cs _=>?_⟩
           obtain ⟨v, w'', hn, hs⟩:=h c cs
           exact ⟨v, w'', hn, stepsIn_wide.2 hs⟩)
  | halt x w'=>cases x <;> simp only [Oper.upon, Oper.uponIn] at h ⊢ <;> exact h

theorem uS (hq:∀ a w, ¬ Q .outgrown a w) {J:List Oper}:∀ {ls:List Oper} {a:Act} {w:World}, wpList P ops (Exit.then (wpListIn Fence.wide n P ops Q J) Q) ls a w→wpListIn Fence.wide n P ops Q (ls++J) a w
  | [], _, _, h=>h
  | o :: ls, a, w, h=>by
    unfold wpList at h
    show wpListIn _ _ _ _ _ (o :: (ls++J)) _ _
    unfold wpListIn
    split
    · rename_i hw
      rw [if_pos hw] at h
      rcases h with h | ⟨_, a', w', h⟩
      · have h1:=aKm (n:=n) (Oper.wp_mono (fun a w h=>uS hq h) h)
        unfold Oper.wpIn at h1 ⊢
        refine ⟨h1.1, ?_⟩
        have h2:=h1.2
        generalize (o.semAt Fence.wide.round a.eval).run P w=r at h2 ⊢
        cases r with
        | ok x w'=>cases x <;> simp only [Oper.uponIn] at h2 ⊢ <;> exact h2
        | halt x w'=>cases x <;> simp only [Oper.uponIn] at h2 ⊢ <;> exact h2
      · exact absurd h (hq a' w')
    · rename_i hw
      rw [if_neg hw] at h
      exact ⟨fun _ _=>trivial, uS hq h⟩
theorem aKk {id:Nat} {ls:List Oper} (k:Nat) (J:Act→World→Prop) (hq:∀ a w, ¬ Q .outgrown a w) (h1:wpList P ls.toArray (Exit.then J Q) (ls.take k) a w)
    (h2:∀ a w, J a w→wpListIn Fence.wide 1 P ls.toArray Q (ls.drop k) a w):(Code.region id ls.toArray false).wp P Q a w:=by
  refine wpIn_wide.1 (wpIn_region_lit (n:=1) ?_)
  have:=uS (n:=1) (J:=ls.drop k) (ls:=ls.take k) (P:=P) (ops:=ls.toArray) (Q:=Q) (a:=a) (w:=w) hq ?_
  · rwa [List.take_append_drop] at this
  · refine qB h1 ?_
    intro e a w he
    cases e <;> first | exact h2 _ _ he | exact he
theorem aCq {ls:List Oper} (hq:∀ a w, ¬ Q .outgrown a w) (h:wpList P ops Q ls a w):wpListIn Fence.wide n P ops Q ls a w:=by
  have:=uS (n:=n) (J:=[]) (ls:=ls) (P:=P) (ops:=ops) (Q:=Q) (a:=a) (w:=w) hq ?_
  · rwa [List.append_nil] at this
  · refine qB h ?_
    intro e a w he
    cases e <;> exact he
end conv

def rJ {σ α:Type} (P:Program) (G:bA) (l:Nat) (encs:α→List Value) (J:σ→List Ent→Prop) (y:σ→α→Option (σ × Bool)):Prop :=
  ∀ (m:Nat) (s:σ) (x:α) (r:σ × Bool) (L Lx:List Ent) (w:World), J s L→y s x=some r→Ctx G (L++Lx) w →
    YieldAt Fence.wide m P l (encs x).toArray w fun e w'=>e=.returned (.bool r.2)∧∃ L', J r.1 L'∧Ctx G (L'++Lx) w'

theorem stY {σ α:Type} {P:Program} {G:bA} {l n d:Nat} {ops:Array Oper} {Q:Exit→Act→World→Prop} {rest:List Oper} {a:Act} {w:World} {N:Fm} {F:List (Nat × Value)}
    {encs:α→List Value} {J:σ→List Ent→Prop} {y:σ→α→Option (σ × Bool)} {x:Operand} {xs:List Operand} {c:Call} {ty:TypeId} {pos:String} {aft:Array Edge} {s:σ} {v:α} {r:σ × Bool} {own L Lf:List Ent} {gd:Option (Nat × Bool)}
    (hy:rJ P G l encs J y) (hJ:J s L) (hr:y s v=some r) (hf:Has N a F) (hc:Ctx G (own++(L++Lf)) w) (hg:pD ops F ⟨some d, .call c, ty, pos, aft, gd⟩=some true) (hN:Nat.blt d N.n=true) (hcal:c.callee=.value x) (hx:ev F x=some (.func (.yield l) #[] #[])) (hargs:c.args=xs.toArray) (hvs:xs.mapM (ev F)=some (encs v))
    (k:∀ a w L', J r.1 L'→Has N a ((d, .bool r.2) :: F)→Ctx G (own++(L'++Lf)) w→wpListIn Fence.wide n P ops Q rest a w) :
    wpListIn Fence.wide n P ops Q (⟨some d, .call c, ty, pos, aft, gd⟩ :: rest) a w:=by
  refine wpListIn_step fun K hK=>?_
  rw [fC hf hg, if_pos rfl]
  have hc':Ctx G (L++(own++Lf)) w:=hc.perm (by
    rw [← List.append_assoc, ← List.append_assoc]
    exact (List.perm_append_comm).append_right _)
  obtain ⟨fn, tmps, assign, body, hrun, hR⟩:=hy (n - 1) s v r L (own++Lf) w hJ hr hc'
  refine ⟨fun _ _=>trivial, ?_⟩
  show Oper.uponIn Fence.wide n P ⟨some d, .call c, ty, pos, aft, gd⟩ a K Q ((execOp a.eval ⟨some d, .call c, ty, pos, aft, gd⟩).run P w)
  have hex:(execOp a.eval ⟨some d, .call c, ty, pos, aft, gd⟩).run P w=.ok (.round l fn tmps assign body) w:=by
    have e1:c.args.map a.eval=(encs v).toArray:=by rw [hargs]; apply Array.ext'; simpa using evs hf _ _ hvs
    simp only [execOp, resolve, hcal, e1, hf.ev hx, Deferred.ofValue, Sem.run_bind, Sem.run_pure, Result.andThen_ok, invoke]
    simpa using hrun
  rw [hex]
  refine ⟨by simp [Fence.wide], hR.mono ?_⟩
  rintro e w' ⟨rfl, L', hJ', hc2⟩
  refine hK _ _ (k _ _ L' hJ' (hf.put hN _) (hc2.perm ?_))
  rw [← List.append_assoc, ← List.append_assoc]
  exact (List.perm_append_comm).append_right _

inductive Rs (ς:Type) where
  | go (s:ς)
  | brk (s:ς)
  | ret (s:ς)

def Rs.on {ς:Type}:Rs ς→Bool
  | .go _=>true
  | _=>false
def rY {ς α:Type} (body:ς→α→Option (Rs ς)):Rs ς→α→Option (Rs ς × Bool)
  | .go s, x=>(body s x).map fun r=>(r, r.on)
  | _, _=>none
def rsK {ς τ:Type} (x:Rs ς) (f g:ς→Option τ):Option τ :=
  match x with
  | .go s=>f s
  | .brk s=>f s
  | .ret s=>g s

def aC0 (ps:List Nat) (vs:List Value) (F:List (Nat × Value)):List (Nat × Value):=(ps.zip vs).foldl (fun F p=>(p.1, p.2) :: F) F

theorem xV {n:Nat}:∀ (ps:List Nat) (vs:List Value) {a:Act} {F:List (Nat × Value)}, (∀ p ∈ ps, p < n)→Has ⟨n, []⟩ a F →
    Has ⟨n, []⟩ { tmps:=(ps.zip vs).foldl (fun t p=>t.setIfInBounds p.1 p.2) a.tmps, defers:=[] } (aC0 ps vs F)
  | [], _, a, F, _, h=>⟨h.size, rfl, h.get⟩
  | p :: ps, [], a, F, _, h=>⟨h.size, rfl, h.get⟩
  | p :: ps, v :: vs, a, F, hp, h=>by
    have h1:=h.put (d:=p) (by simpa [Nat.blt_eq] using hp p List.mem_cons_self) v
    have:=xV ps vs (fun q hq=>hp q (List.mem_cons_of_mem _ hq)) h1
    simpa [aC0, Act.put] using this

def aLq {ς:Type} (id:Nat) (G:bA) (S:ς→List Ent→Prop) (Lx:List Ent) (o:Rs ς):Exit→Act→World→Prop
  | .normal, _, w=>∃ s L, o=.go s∧S s L∧Ctx G (L++Lx) w
  | .exit i, _, w=>i=id∧∃ s L, o=.brk s∧S s L∧Ctx G (L++Lx) w
  | .ret, _, w=>∃ s L, o=.ret s∧S s L∧Ctx G (L++Lx) w
  | _, _, _=>False

def nY (D:Nat):Deferred:={ target:=.collected D, args:=#[] }

theorem Ctx.rawUpd {G:bA} {L L':List Ent} {b:Nat} {o o':Obj} {w:World} (h:Ctx G L w) (hm:Ent.raw b o ∈ L) (hu:Upd L (.raw b o) (.raw b o') L'):w.heap[b]?=some o∧Ctx G L' (w.putObj b o'):=by
  have hb:w.heap[b]?=some o:=h.sat _ hm
  refine ⟨hb, h.updAt hu rfl rfl rfl (by simp) (fun k _ hk=>World.putObj_heap_other fun e=>hk (by rw [e]; rfl)) (World.putObj_heap_same (Array.getElem?_eq_some_iff.1 hb).1) fun k hk=>.inl hk⟩

theorem Ctx.newRaw {G:bA} {L:List Ent} {w:World} (h:Ctx G L w) (o:Obj):Ctx G (.raw w.heap.size o :: L) (w.alloc o):=h.new _ _ rfl (heap_alloc_new w _)

def aJ3 {ς:Type} (rec:LoopState→Option Code→Loop) (l D id:Nat) (S:ς→List Ent→Prop):Rs ς→List Ent→Prop
  | .go s, L=>∃ M, S s M∧L=.raw l (.loop (rec .ready none)) :: .raw D (.deferred (some [])) :: M
  | .brk s, L=>∃ M, S s M∧L=.raw l (.loop (rec .done (some (.exit id)))) :: .raw D (.deferred (some [])) :: M
  | .ret s, L=>∃ M, S s M∧L=.raw l (.loop (rec .done (some .ret))) :: .raw D (.deferred (some [])) :: M

section round
variable {P:Program} {Q:Exit→Act→World→Prop} {a:Act} {w:World} {N:Fm} {F:List (Nat × Value)} {l n:Nat}
theorem sE {x y:Code} (h:∀ K:Act→World→Prop, (∀ a w, y.wpIn (Fence.wide.inRound l) n P Q a w→K a w)→x.wpIn (Fence.wide.inRound l) n P (Exit.then K Q) a w) :
    (Code.seq x y).wpIn (Fence.wide.inRound l) n P Q a w:=wpIn_seq_k h
theorem vZ {id:Nat} {c:Code} (h:c.wpIn (Fence.wide.inRound l) n P (Exit.inBlock id Q) a w):(Code.block id c).wpIn (Fence.wide.inRound l) n P Q a w:=wpIn_block h
theorem rRet (h:Q .ret a w):Code.ret.wpIn (Fence.wide.inRound l) n P Q a w:=wpIn_ret h
theorem aKz {id:Nat} (h:Q (.exit id) a w):(Code.exit id).wpIn (Fence.wide.inRound l) n P Q a w:=wpIn_exit h
theorem aC4 (h:Q .normal a w):Code.skip.wpIn (Fence.wide.inRound l) n P Q a w:=wpIn_skip h
theorem aDe {c:Operand} {x y:Code} {b:Bool} (hf:Has N a F) (hc:ev F c=some (.bool b)) (h1:b=true→x.wpIn (Fence.wide.inRound l) n P Q a w) (h2:b=false→y.wpIn (Fence.wide.inRound l) n P Q a w) :
    (Code.cond c x y).wpIn (Fence.wide.inRound l) n P Q a w:=wpIn_cond_split (hf.ev hc) h1 h2
theorem xA {c:Code} (h:∀ K:Act→World→Prop, (∀ a w, Q .normal a w→K a w)→c.wpIn (Fence.wide.inRound l) n P (Exit.then K Q) a w):c.wpIn (Fence.wide.inRound l) n P Q a w:=by
  refine wpIn_mono (h (Q .normal) fun _ _ h=>h) fun e a w he=>?_
  cases e <;> exact he
theorem rLoop {c:Code} (m:Nat) (h:Code.roundsIn (Fence.wide.inRound l) n P c Q m a w):(Code.loop c).wpIn (Fence.wide.inRound l) n P Q a w:=wpIn_loop_rounds m h

theorem aOm {c:Code} {σ ρ:Type} {body:σ→Option (dA σ ρ)} {S:σ→Act→World→Prop} {x:Ex σ ρ}
    (hb:∀ s st a w (K:Act→World→Prop), S s a w→body s=some st→Fin x st→(∀ s' a w, st=.cont s'→S s' a w→K a w)→c.wpIn (Fence.wide.inRound l) n P (Exit.then K Q) a w) :
    ∀ (m:Nat) (s:σ) (a:Act) (w:World), S s a w→bN body m s=some x→Code.roundsIn (Fence.wide.inRound l) n P c Q m a w
  | 0, _, _, _, _, h=>by simp [bN] at h
  | m + 1, s, a, w, hS, h=>by
    rw [roundsIn_succ]
    unfold bN at h
    cases hs:body s with
    | none=>simp [hs] at h
    | some st=>
      rw [hs] at h
      refine hb s st a w _ hS hs ?_ ?_
      · cases st with
        | cont s'=>trivial
        | brk s'=>exact (Option.some.inj h).symm
        | ret r=>exact (Option.some.inj h).symm
      · intro s' a' w' he hS'
        subst he
        exact aOm hb m s' a' w' hS' h
end round

theorem aEy {P:Program} {f:Nat} {fn:Func} {c:Code} {args:List Value} {w:World} {R:Ending→World→Prop} {N:Nat} (hf:P.funcs[f]?=some fn) (hb:fn.body=some c) (hN:fn.ntmps=N) (hl:Nat.ble args.length N=true)
    (h:∀ a, Has ⟨N, []⟩ a (aFr 0 args)→c.wp P (bodyPostM Fence.wide 1 P fn R) a w):Calls P f args.toArray w R:=by
  refine (callsIn_wide (n:=1)).1 (callsIn_of_wp_marks hf hb trivial (wpIn_wide.2 (h _ ⟨?_, rfl, fun d v hv=>?_⟩)))
  · have:args.length≤N:=by simpa using hl
    simp only [Array.size_append, List.size_toArray, Array.size_replicate, hN]
    omega
  · obtain ⟨j, rfl, hj⟩:=yN args 0 d v hv
    have hlt:=(List.getElem?_eq_some_iff.1 hj).1
    rw [Nat.zero_add, Array.getElem?_append_left (by simpa using hlt)]
    simpa using hj

section endsM
variable {P:Program} {fn:Func} {R:Ending→World→Prop} {a:Act} {w:World} {n:Nat} {ds:List Deferred} {F:List (Nat × Value)} {G:bA} {L L':List Ent}

def Lv (P:Program) (fn:Func) (R:Ending→World→Prop) (tmps:Array Value) (ds:List Deferred) (w:World):Prop:=LeavesInM Fence.wide 1 P fn tmps R ds .returning w

theorem aFx (hf:Has ⟨n, ds⟩ a F) (h:Lv P fn R a.tmps ds w):bodyPostM Fence.wide 1 P fn R .ret a w:=by
  show LeavesInM _ _ _ _ _ _ a.defers _ _
  rw [hf.defers]
  exact h
theorem outMc {tmps:Array Value} {D:Nat} (hc:Ctx G L w) (hm:Ent.raw D (.deferred (some [])) ∈ L) (hu:Upd L (.raw D (.deferred (some []))) (.raw D (.deferred none)) L') (h:∀ w, Ctx G L' w→Lv P fn R tmps ds w):Lv P fn R tmps (nY D :: ds) w:=by
  obtain ⟨hb, hc'⟩:=hc.rawUpd hm hu
  exact ⟨by simp, .inl ⟨D, _, rfl, run_takeDeferred hb, h _ hc'⟩⟩
theorem aM3 {tmps:Array Value} {v:Value} (hr:(results fn tmps).run P w=.ok v w) (hR:R (.returned v) w):Lv P fn R tmps [] w:=by
  unfold Lv LeavesInM LeavesIn
  exact ⟨v, hr, hR⟩
variable {r1 r2 r3:ResultVar} {v1 v2 v3:Value}
theorem outM0 (hres:fn.results=#[]) (hR:R (.returned (.tuple #[])) w):Lv P fn R a.tmps [] w:=aM3 (results_none hres _ _ _) hR
theorem aFs (hres:fn.results=#[r1]) (hf:Has ⟨n, ds⟩ a F) (hc:Ctx G L w) (h1:Rv P ⟨n, ds⟩ F G L r1 v1) (hR:R (.returned v1) w):Lv P fn R a.tmps [] w:=by
  refine aM3 ?_ hR
  have k1:=h1.run hf hc
  rw [nM, hres]
  simp [k1]
theorem aOw (hres:fn.results=#[r1, r2, r3]) (hf:Has ⟨n, ds⟩ a F) (hc:Ctx G L w) (h1:Rv P ⟨n, ds⟩ F G L r1 v1) (h2:Rv P ⟨n, ds⟩ F G L r2 v2) (h3:Rv P ⟨n, ds⟩ F G L r3 v3) (hR:R (.returned (.tuple #[v1, v2, v3])) w):Lv P fn R a.tmps [] w:=by
  refine aM3 ?_ hR
  have k1:=h1.run hf hc
  have k2:=h2.run hf hc
  have k3:=h3.run hf hc
  rw [nM, hres]
  simp [k1, k2, k3]
end endsM
end Go.Nilo
