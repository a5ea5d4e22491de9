/-
  Operations that only compute, one law each. Conditions: what each theorem names.
-/
import Derived.Test.YtcefmiiipbjngaaGreatNl1
set_option linter.unusedSimpArgs false
set_option linter.unusedVariables false
namespace Go.Nilo


def aAt (P:Program) (T sz:Nat):Prop:=(∃ d,P.underlying T=some d∧(match d with | .struct _ | .array _ _=>True | _=>False))∧(P.info? T).map (·.size)=some sz
def ScT (P:Program) (T:Nat):Prop:=(∃ d,P.underlying T=some d∧(match d with | .struct _ | .array _ _=>False | _=>True))∧(P.info? T).map (·.size)=some 1

theorem wF {P:Program} {w:World} {T sz:Nat} (h:(P.info? T).map (·.size)=some sz):(sizeOf T).run P w=.ok sz w:=by
 cases hi:P.info? T with
 | none=>simp [hi] at h
 | some i=>simp [hi] at h; simp [sizeOf,typeInfo,hi,h]

theorem aAt.isAgg {P:Program} {T sz:Nat} (h:aAt P T sz) (w:World):(isAgg T).run P w=.ok true w:=by
 obtain ⟨⟨d,hd,hm⟩,-⟩:=h
 cases d <;> first | exact hm.elim | simp [Go.isAgg,run_underlying hd]
theorem ScT.isAgg {P:Program} {T:Nat} (h:ScT P T) (w:World):(isAgg T).run P w=.ok false w:=by
 obtain ⟨⟨d,hd,hm⟩,-⟩:=h
 cases d <;> first | exact hm.elim | simp [Go.isAgg,run_underlying hd]

def Pu (P:Program) (o:Oper) (F:List (Nat × Value)) (v:Value):Prop:=∀ N a w,Has N a F→(execOp a.eval o).run P w=.ok (.value v) w
def Ev (P:Program) (o:Oper) (N:Fm) (F:List (Nat × Value)) (G:cJ) (L:List Ent) (v:Value):Prop:=∀ a w,Has N a F→Ctx G L w→o.quietAt P a (Ctx G L) w v

theorem Pu.ev {P:Program} {o:Oper} {N:Fm} {F:List (Nat × Value)} {G:cJ} {L:List Ent} {v:Value} (h:Pu P o F v):Ev P o N F G L v:=λa w hf _=>by
 unfold Oper.quietAt
 rw [h N a w hf]
 exact ⟨rfl,rfl⟩

section pure
variable {P:Program} {F:List (Nat × Value)} {ty:TypeId} {pos:String} {aft:Array Edge} {gd:Option (Nat × Bool)} {d:Option Tmp} {v:Value} {x y c:Operand} {T T':TypeId} {k:IntKind} {m n:Int}

theorem pM (h:ev F x=some v):Pu P ⟨d,.move x,ty,pos,aft,gd⟩ F v:=λN a w hf=>by
 simp only [execOp,hf.ev h]; rfl
theorem pA (h:ev F x=some v):Pu P ⟨d,.assign x,ty,pos,aft,gd⟩ F v:=λN a w hf=>by
 simp only [execOp,hf.ev h]; rfl
theorem pPt (hc:ev F c=some (.bool true)) (h:ev F x=some v):Pu P ⟨d,.pick c x y,ty,pos,aft,gd⟩ F v:=λN a w hf=>by
 simp only [execOp,hf.ev h,hf.ev hc]
 simp [go_sem,asBool]
theorem pPf (hc:ev F c=some (.bool false)) (h:ev F y=some v):Pu P ⟨d,.pick c x y,ty,pos,aft,gd⟩ F v:=λN a w hf=>by
 simp only [execOp,hf.ev h,hf.ev hc]
 simp [go_sem,asBool]

theorem pAdd (hx:ev F x=some (.int k m)) (hy:ev F y=some (.int k n)):Pu P ⟨d,.binOp .add T x y T',ty,pos,aft,gd⟩ F (.int k (k.wrap (m + n))):=λN a w hf=>by
 simp only [execOp,hf.ev hx,hf.ev hy]
 simp [go_sem,Op.intArith]
theorem pSub (hx:ev F x=some (.int k m)) (hy:ev F y=some (.int k n)):Pu P ⟨d,.binOp .sub T x y T',ty,pos,aft,gd⟩ F (.int k (k.wrap (m - n))):=λN a w hf=>by
 simp only [execOp,hf.ev hx,hf.ev hy]
 simp [go_sem,Op.intArith]
theorem pMul (hx:ev F x=some (.int k m)) (hy:ev F y=some (.int k n)):Pu P ⟨d,.binOp .mul T x y T',ty,pos,aft,gd⟩ F (.int k (k.wrap (m * n))):=λN a w hf=>by
 simp only [execOp,hf.ev hx,hf.ev hy]
 simp [go_sem,Op.intArith]
theorem tL (hx:ev F x=some (.int k m)) (hy:ev F y=some (.int k n)) (h0:¬ n=0):Pu P ⟨d,.binOp .quo T x y T',ty,pos,aft,gd⟩ F (.int k (k.wrap (m.tdiv n))):=λN a w hf=>by
 simp only [execOp,hf.ev hx,hf.ev hy]
 simp [go_sem,Op.intDiv,h0]
theorem nS (hx:ev F x=some (.int k m)) (hy:ev F y=some (.int k n)) (h0:¬ n=0):Pu P ⟨d,.binOp .rem T x y T',ty,pos,aft,gd⟩ F (.int k (m.tmod n)):=λN a w hf=>by
 simp only [execOp,hf.ev hx,hf.ev hy]
 simp [go_sem,Op.intDiv,h0]
theorem pLt (hx:ev F x=some (.int k m)) (hy:ev F y=some (.int k n)):Pu P ⟨d,.binOp .lss T x y T',ty,pos,aft,gd⟩ F (.bool (decide (m < n))):=λN a w hf=>by
 simp only [execOp,hf.ev hx,hf.ev hy]
 simp [go_sem,Op.intCmp,binOp]
theorem pLe (hx:ev F x=some (.int k m)) (hy:ev F y=some (.int k n)):Pu P ⟨d,.binOp .leq T x y T',ty,pos,aft,gd⟩ F (.bool (decide (m≤n))):=λN a w hf=>by
 simp only [execOp,hf.ev hx,hf.ev hy]
 simp [go_sem,Op.intCmp,binOp]
theorem pGt (hx:ev F x=some (.int k m)) (hy:ev F y=some (.int k n)):Pu P ⟨d,.binOp .gtr T x y T',ty,pos,aft,gd⟩ F (.bool (decide (n < m))):=λN a w hf=>by
 simp only [execOp,hf.ev hx,hf.ev hy]
 simp [go_sem,Op.intCmp,binOp]
theorem pGe (hx:ev F x=some (.int k m)) (hy:ev F y=some (.int k n)):Pu P ⟨d,.binOp .geq T x y T',ty,pos,aft,gd⟩ F (.bool (decide (n≤m))):=λN a w hf=>by
 simp only [execOp,hf.ev hx,hf.ev hy]
 simp [go_sem,Op.intCmp,binOp]
theorem pEq (hx:ev F x=some (.int k m)) (hy:ev F y=some (.int k n)):Pu P ⟨d,.binOp .eql T x y T',ty,pos,aft,gd⟩ F (.bool (m == n)):=λN a w hf=>by
 simp only [execOp,hf.ev hx,hf.ev hy]
 simp [go_sem,Op.intCmp,binOp]
theorem pNe (hx:ev F x=some (.int k m)) (hy:ev F y=some (.int k n)):Pu P ⟨d,.binOp .neq T x y T',ty,pos,aft,gd⟩ F (.bool (m != n)):=λN a w hf=>by
 simp only [execOp,hf.ev hx,hf.ev hy]
 simp [go_sem,Op.intCmp,binOp]
theorem pNeB {p q:Bool} (hT:P.underlying T=some .bool) (hx:ev F x=some (.bool p)) (hy:ev F y=some (.bool q)):Pu P ⟨d,.binOp .neq T x y T',ty,pos,aft,gd⟩ F (.bool (p != q)):=λN a w hf=>by
 simp only [execOp,hf.ev hx,hf.ev hy]
 simp [go_sem,binOp,Op.equal,Op.maxDepth,run_equalIn_bool' w _ _ _ _ hT,bne]
theorem pNot {p:Bool} (hx:ev F x=some (.bool p)):Pu P ⟨d,.unOp .not T x,ty,pos,aft,gd⟩ F (.bool (!p)):=λN a w hf=>by
 simp only [execOp,hf.ev hx]
 simp [go_sem,Op.unary]
theorem pNeg (hx:ev F x=some (.int k m)):Pu P ⟨d,.unOp .neg T x,ty,pos,aft,gd⟩ F (.int k (k.wrap (0 - m))):=λN a w hf=>by
 simp only [execOp,hf.ev hx]
 simp [go_sem,Op.unary,Op.intArith]
theorem pCv {k':IntKind} {D:TypeDesc} (hS:P.underlying T=some D) (hT:P.underlying T'=some (.int k')) (hx:ev F x=some (.int k m)):Pu P ⟨d,.convert T T' x,ty,pos,aft,gd⟩ F (.int k' (k'.wrap m)):=λN a w hf=>by
 simp only [execOp,hf.ev hx,convert,Sem.run_bind,run_underlying hS,run_underlying hT,Result.andThen_ok]
 cases D <;> simp [Conv.intToInt]
theorem pNC {q:Addr} (hx:ev F x=some (.pointer (some q))):Pu P ⟨d,.nilCheck x,ty,pos,aft,gd⟩ F (.pointer (some q)):=λN a w hf=>by
 simp only [execOp,hf.ev hx]; rfl
theorem pX {vs:Array Value} {i:Nat} (hx:ev F x=some (.tuple vs)) (h:vs[i]?=some v):Pu P ⟨d,.extract x i,ty,pos,aft,gd⟩ F v:=λN a w hf=>by
 simp only [execOp,hf.ev hx]
 simp [go_sem,Instr.extract,h]
theorem pFA {b o:Nat} {off f:Nat} (hT:∀ (q:Addr) (w:World),(Instr.fieldAt T (.pointer (some q)) f).run P w=.ok (.pointer (some (q.add off))) w) (hx:ev F x=some (.pointer (some ⟨b,o,none⟩))) :
  Pu P ⟨d,.fieldAddr T x f,ty,pos,aft,gd⟩ F (.pointer (some ⟨b,o + off,none⟩)):=λN a w hf=>by
 simp only [execOp,hf.ev hx,Sem.run_bind,hT,Result.andThen_ok,Sem.run_pure,Addr.add_lit]
theorem pMF {fn:Fn} {first cap:Array Operand} {vs us:List Value} (h1:first.toList.mapM (ev F)=some vs) (h2:cap.toList.mapM (ev F)=some us) :
  Pu P ⟨d,.makeFunc fn first cap,ty,pos,aft,gd⟩ F (.func fn vs.toArray us.toArray):=λN a w hf=>by
 have key:∀ (l:List Operand) (vs:List Value),l.mapM (ev F)=some vs→l.map a.eval=vs:=by
  intro l
  induction l with
  | nil=>intro vs h; simp at h; simp [h]
  | cons x l ih=>
   intro vs h
   simp only [List.mapM_cons,Option.bind_eq_bind,Option.bind_eq_some_iff,Option.pure_def,Option.some.injEq] at h
   obtain ⟨u,hu,us,hus,rfl⟩:=h
   simp [hf.ev hu,ih us hus]
 have e1:first.map a.eval=vs.toArray:=by apply Array.ext'; simpa using key _ _ h1
 have e2:cap.map a.eval=us.toArray:=by apply Array.ext'; simpa using key _ _ h2
 simp only [execOp]
 simp [go_sem,Instr.makeFunc,e1,e2]
theorem bA {e:TypeId} {p:Option Addr} {n cap:Nat} (hT:P.underlying T=some (.slice e)) (hx:ev F x=some (.slice p n cap)) :
  Pu P ⟨d,.call { callee:=.builtin .len,args:=#[x],argTypes:=#[T] },ty,pos,aft,gd⟩ F (.int .i64 (n:Int)):=λN a w hf=>by
 simp only [execOp,resolve,List.map_toArray,List.map_cons,List.map_nil,hf.ev hx]
 simp [go_sem,invoke,Builtin.len_,run_underlying hT]
theorem aNw (hx:ev F x=some (.int k m)) (hy:ev F y=some (.int k n)) {ats:Array TypeId} :
  Pu P ⟨d,.call { callee:=.builtin .max,args:=#[x,y],argTypes:=ats },ty,pos,aft,gd⟩ F (.int k (max m n)):=λN a w hf=>by
 simp only [execOp,resolve,invoke,List.map_toArray,List.map_cons,List.map_nil,hf.ev hx,hf.ev hy]
 simp only [go_sem,Builtin.max_,Sem.run_bind,Sem.run_pure,Result.andThen_ok,List.map_toArray,List.map_cons,List.map_nil,List.foldlM_cons,List.foldlM_nil,Builtin.max2]
 congr 3
 show (if n > m then n else m)=max m n
 split <;> omega
theorem aSj (hx:ev F x=some (.int k m)) (hy:ev F y=some (.int k n)) {ats:Array TypeId} :
  Pu P ⟨d,.call { callee:=.builtin .min,args:=#[x,y],argTypes:=ats },ty,pos,aft,gd⟩ F (.int k (min m n)):=λN a w hf=>by
 simp only [execOp,resolve,invoke,List.map_toArray,List.map_cons,List.map_nil,hf.ev hx,hf.ev hy]
 simp only [go_sem,Builtin.min_,Sem.run_bind,Sem.run_pure,Result.andThen_ok,List.map_toArray,List.map_cons,List.map_nil,List.foldlM_cons,List.foldlM_nil,Builtin.min2]
 congr 3
 split <;> omega
end pure
end Go.Nilo
