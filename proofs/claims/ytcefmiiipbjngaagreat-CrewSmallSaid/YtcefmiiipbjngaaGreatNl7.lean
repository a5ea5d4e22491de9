/-
  Calls, code, and the ends of functions. Conditions: what each theorem names.
-/
import Derived.Test.YtcefmiiipbjngaaGreatNl6
set_option linter.unusedSimpArgs false
set_option linter.unusedVariables false
namespace Go.Nilo

/-! ### Calls -/

/-- The function is entered (it has a body). -/
def En (P:Program) (f:Nat):Prop:=∀ args w, (callFunc f args).run P w=.ok (.enter f args) w

theorem En.of {P : Program} {f : Nat} {fn : Func} (h : P.funcs[f]? = some fn) (hn : (fn.name == "runtime.NumGoroutine") = false) (hb : fn.body.isNone = false) : En P f := fun args w => by
  simp only [callFunc, Sem.run_bind, Go.run_program, Result.andThen_ok, h, hn, hb, Bool.false_eq_true, if_false, Sem.run_pure]

section steps
variable {P:Program} {ops:Array Oper} {Q:Exit→Act→World→Prop} {rest:List Oper} {a:Act} {w:World} {N:Fm} {d:Nat} {F:List (Nat × Value)} {G:cJ} {L L' L'':List Ent} {v:Value}
  {ty:TypeId} {pos:String} {aft:Array Edge} {gd:Option (Nat × Bool)} {x y:Operand} {T:TypeId}

theorem evs {a:Act} (hf:Has N a F):∀ (l:List Operand) (vs:List Value), l.mapM (ev F)=some vs→l.map a.eval=vs:=by
  intro l
  induction l with
  | nil=>intro vs h; simp at h; simp [h]
  | cons x l ih=>
    intro vs h
    simp only [List.mapM_cons, Option.bind_eq_bind, Option.bind_eq_some_iff, Option.pure_def, Option.some.injEq] at h
    obtain ⟨u, hu, us, hus, rfl⟩:=h
    simp [hf.ev hu, ih us hus]

theorem aQ9 {f:Nat} {c:Call} {xs:List Operand} {vs caps:List Value} {a:Act} {dd:Option Nat} (hen:En P f) (hf:Has N a F) (hc:c.callee=.value x) (hx:ev F x=some (.func (.func f) #[] caps.toArray)) (hargs:c.args=xs.toArray) (hvs:xs.mapM (ev F)=some vs) :
    (execOp a.eval ⟨dd, .call c, ty, pos, aft, gd⟩).run P w=.ok (.enter f (vs++caps).toArray) w:=by
  have e1:c.args.map a.eval=vs.toArray:=by rw [hargs]; apply Array.ext'; simpa using evs hf _ _ hvs
  simp only [execOp, resolve, hc, e1, hf.ev hx, Deferred.ofValue, Sem.run_bind, Sem.run_pure, Result.andThen_ok, invoke, hen _ _]
  simp

/-- A call that leaves all that is owned as it was, and hands back one value: in whatever world of which the facts hold. -/
theorem eC {f:Nat} {c:Call} {xs:List Operand} {vs caps:List Value} {dd:Option Nat} (hen:En P f) (hc:c.callee=.value x) (hx:ev F x=some (.func (.func f) #[] caps.toArray)) (hargs:c.args=xs.toArray) (hvs:xs.mapM (ev F)=some vs)
    (hcall:∀ w, Ctx G L w→Calls P f (vs++caps).toArray w λe w'=>e=.returned v∧Ctx G L w'):Ev P ⟨dd, .call c, ty, pos, aft, gd⟩ N F G L v:=λa w hf hcx=>by
  unfold Oper.quietAt
  rw [aQ9 hen hf hc hx hargs hvs]
  exact ⟨rfl, hcall w hcx⟩

end steps

/-! ### Code -/

section code
variable {P:Program} {Q:Exit→Act→World→Prop} {a:Act} {w:World} {N:Fm} {F:List (Nat × Value)} {G:cJ} {L:List Ent}

theorem bK {id:Nat} {l:List Oper} (h:wpList P l.toArray Q l a w):(Code.region id l.toArray false).wp P Q a w:=wp_region_lit h

theorem aN {ops:Array Oper} (h:Q .normal a w):wpList P ops Q [] a w:=h

/-- A region that draws its order, of operations that leave what is owned as it is. -/
theorem cQ {id:Nat} {l:List Oper} (hc:Ctx G L w) (hm:P.follows .mixedOrders=true) (hB:Region.lexB .any l.toArray=true) (h:wpQuiet P l.toArray (Ctx G L) (λa'=>∀ w', Ctx G L w'→Q .normal a' w') l a):(Code.region id l.toArray true).wp P Q a w :=
  wp_region_quiet hm hB hc.drew (by simpa using h)

theorem cCond {c:Operand} {x y:Code} {b:Bool} (hf:Has N a F) (hc:ev F c=some (.bool b)) (h1:b=true→x.wp P Q a w) (h2:b=false→y.wp P Q a w):(Code.cond c x y).wp P Q a w :=
  wp_cond_split (hf.ev hc) h1 h2
theorem aMf {c:Operand} {x y:Code} (hf:Has N a F) (hc:ev F c=some (.bool true)) (h1:x.wp P Q a w):(Code.cond c x y).wp P Q a w:=wp_cond_true (hf.ev hc) h1
theorem aMe {c:Operand} {x y:Code} (hf:Has N a F) (hc:ev F c=some (.bool false)) (h1:y.wp P Q a w):(Code.cond c x y).wp P Q a w:=wp_cond_false (hf.ev hc) h1

theorem cX {id:Nat} (h:Q .normal a w):Exit.inBlock id Q (.exit id) a w:=by simp [Exit.inBlock, h]
theorem aLb {id id':Nat} (hne:(id' == id)=false) (h:Q (.exit id') a w):Exit.inBlock id Q (.exit id') a w:=by
  have:¬ id'=id:=by simpa using hne
  simp [Exit.inBlock, this, h]

theorem cF {c:Code} (n:Nat) (h:Code.rounds P c Q n a w):(Code.loop c).wp P Q a w:=wp_loop_rounds n h

end code

section quiet
variable {P:Program} {ops:Array Oper} {Q:Act→Prop} {rest:List Oper} {o:Oper} {a:Act} {N:Fm} {d:Nat} {F:List (Nat × Value)} {G:cJ} {L:List Ent} {v:Value}

/-- One operation of a region that draws its order. -/
theorem qE (hf:Has N a F) (hg:vJ ops F o=some true) (hd:o.dst=some d) (hN:Nat.blt d N.n=true) (e:Ev P o N F G L v) (k:∀ a, Has N a ((d, v) :: F)→wpQuiet P ops (Ctx G L) Q rest a):wpQuiet P ops (Ctx G L) Q (o :: rest) a:=by
  refine wpQuiet_step λK hK=>?_
  rw [gX hf hg, if_pos rfl]
  refine ⟨v, λw hc=>e a w hf hc, ?_⟩
  rw [hd]
  exact hK _ (k _ (hf.put hN v))
theorem qS (hf:Has N a F) (hg:vJ ops F o=some false) (hd:o.dst=some d) (hN:Nat.blt d N.n=true) (k:∀ a, Has N a ((d, undef) :: F)→wpQuiet P ops (Ctx G L) Q rest a):wpQuiet P ops (Ctx G L) Q (o :: rest) a:=by
  refine wpQuiet_step λK hK=>?_
  rw [gX hf hg, if_neg (by simp), hd]
  exact hK _ (k _ (hf.put hN undef))
end quiet

/-! ### The function's ends -/

def aIx:Nat→List Value→List (Nat × Value)
  | _, []=>[]
  | i, v :: vs=>(i, v) :: aIx (i + 1) vs

theorem aD1:∀ (vs:List Value) (i d:Nat) (v:Value), kH (aIx i vs) d=some v→∃ j, d=i + j∧vs[j]?=some v
  | [], _, _, _, h=>by simp [aIx, kH] at h
  | u :: vs, i, d, v, h=>by
    simp only [aIx, kH] at h
    cases hb:Nat.beq i d with
    | true=>
      rw [hb] at h
      have:i=d:=Nat.eq_of_beq_eq_true hb
      simp at h
      exact ⟨0, by omega, by simp [h]⟩
    | false=>
      rw [hb] at h
      obtain ⟨j, h1, h2⟩:=aD1 vs (i + 1) d v h
      exact ⟨j + 1, by omega, by simpa using h2⟩

theorem bY {P:Program} {f:Nat} {fn:Func} {c:Code} {args:List Value} {w:World} {R:Ending→World→Prop} {N:Nat} (hf:P.funcs[f]?=some fn) (hb:fn.body=some c) (hN:fn.ntmps=N) (hl:Nat.ble args.length N=true)
    (h:∀ a, Has ⟨N, []⟩ a (aIx 0 args)→c.wp P (bodyPost P fn R) a w):Calls P f args.toArray w R:=by
  refine calls_of_wp hf hb (h _ ⟨?_, rfl, λd v hv=>?_⟩)
  · have:args.length≤N:=by simpa using hl
    simp only [Array.size_append, List.size_toArray, Array.size_replicate, hN]
    omega
  · obtain ⟨j, rfl, hj⟩:=aD1 args 0 d v hv
    have hlt:=(List.getElem?_eq_some_iff.1 hj).1
    rw [Nat.zero_add, Array.getElem?_append_left (by simpa using hlt)]
    simpa using hj

/-- What one result reads as. -/
def Rv (P:Program) (N:Fm) (F:List (Nat × Value)) (G:cJ) (L:List Ent):ResultVar→Value→Prop
  | .tmp t, v=>kH F t=some v
  | .cell q T, v=>∀ a w, Has N a F→Ctx G L w→(do loadVar T (← asAddr (a.tmps.getD q undef))).run P w=.ok v w

theorem eE {P:Program} {N:Fm} {q T b o sz:Nat} {F:List (Nat × Value)} {G:cJ} {L:List Ent} {vs:List Value} (hT:aAt P T sz) (hq:kH F q=some (.pointer (some ⟨b, o, none⟩))) (hl:vs.length=sz) (hv:∀ j u, vs[j]?=some u→yQ G L ⟨b, o + j, none⟩ u) :
    Rv P N F G L (.cell q T) (.agg vs.toArray):=λa w hf hc=>by
  have:=hf.get _ _ hq
  have h1:=run_loadCells_list (P:=P) w ⟨b, o, none⟩ vs (λj u hu=>by rw [Addr.add_lit]; exact hv j u hu w hc)
  rw [hl] at h1
  simp [this, asAddr, loadVar, hT.isAgg w, wF hT.2, h1]

def rdR (tmps:Array Value):ResultVar→Sem Value:=fun
  | .tmp t=>pure (tmps.getD t undef)
  | .cell a t=>do loadVar t (← asAddr (tmps.getD a undef))

theorem uM (fn:Func) (tmps:Array Value):results fn tmps=(do let vs ← fn.results.mapM (rdR tmps); pure (if h:vs.size=1 then vs[0] else .tuple vs)):=rfl

theorem Rv.run {P:Program} {N:Fm} {F:List (Nat × Value)} {G:cJ} {L:List Ent} {r:ResultVar} {v:Value} (h:Rv P N F G L r v) {a:Act} {w:World} (hf:Has N a F) (hc:Ctx G L w):(rdR a.tmps r).run P w=.ok v w:=by
  cases r with
  | tmp t=>have:=hf.get _ _ h; simp [rdR, this]
  | cell q T=>exact h a w hf hc

section ends
variable {P:Program} {fn:Func} {R:Ending→World→Prop} {a:Act} {w:World} {N:Fm} {F:List (Nat × Value)} {G:cJ} {L:List Ent} {r1 r2 r3:ResultVar} {v1 v2 v3:Value} {e:Exit}

theorem aC7 {v:Value} (he:e=.ret ∨ e=.normal) (hds:N.ds=[]) (hf:Has N a F) (hr:(results fn a.tmps).run P w=.ok v w) (hR:R (.returned v) w):bodyPost P fn R e a w:=by
  rcases he with rfl | rfl
  · exact ⟨hf.defers.trans hds, v, hr, hR⟩
  · exact ⟨hf.defers.trans hds, v, hr, hR⟩

theorem aLy (he:e=.ret ∨ e=.normal) (hds:N.ds=[]) (hres:fn.results=#[]) (hf:Has N a F) (hR:R (.returned (.tuple #[])) w):bodyPost P fn R e a w :=
  aC7 he hds hf (results_none hres _ _ _) hR
theorem yY (he:e=.ret ∨ e=.normal) (hds:N.ds=[]) (hres:fn.results=#[r1]) (hf:Has N a F) (hc:Ctx G L w) (h1:Rv P N F G L r1 v1) (hR:R (.returned v1) w):bodyPost P fn R e a w:=by
  refine aC7 he hds hf ?_ hR
  have k1:=h1.run hf hc
  rw [uM, hres]
  simp [k1]
theorem xI (he:e=.ret ∨ e=.normal) (hds:N.ds=[]) (hres:fn.results=#[r1, r2]) (hf:Has N a F) (hc:Ctx G L w) (h1:Rv P N F G L r1 v1) (h2:Rv P N F G L r2 v2) (hR:R (.returned (.tuple #[v1, v2])) w):bodyPost P fn R e a w:=by
  refine aC7 he hds hf ?_ hR
  have k1:=h1.run hf hc
  have k2:=h2.run hf hc
  rw [uM, hres]
  simp [k1, k2]
end ends
end Go.Nilo
