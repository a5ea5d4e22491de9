/-
 What functions of the Go text compute, as plain functions, and that they do, part 1 of 5. Conditions: what each theorem names.
-/
import Derived.Test.YtkcmofifepmkdaaGreatNl33
import Derived.Test.YtkcmofifepmkdaaGreatProg
set_option linter.unusedVariables false
set_option linter.unusedSimpArgs false
set_option maxRecDepth 100000
set_option maxHeartbeats 4000000
namespace Go.Nilo
open Go.Proofs


structure aV where
 bytes:List Int
 used:Int
 mix:Int

structure bL where
 Index:Int
 Due:Int
@[reducible] def bK (x:bL):List Value:=[i6 x.Index,i6 x.Due]
theorem yH:∀ x,(bK x).length=2∧nJ (bK x)=true:=fun _=>⟨rfl,rfl⟩

structure aF where
 Lo:Int
 Hi:Int
@[reducible] def aJ (x:aF):List Value:=[i6 x.Lo,i6 x.Hi]
theorem iO:∀ x,(aJ x).length=2∧nJ (aJ x)=true:=fun _=>⟨rfl,rfl⟩

structure aI where
 Index:aF
 Delivered:aF
 Spill:Bool
@[reducible] def aZ (x:aI):List Value:=[i6 x.Index.Lo,i6 x.Index.Hi,i6 x.Delivered.Lo,i6 x.Delivered.Hi,.bool x.Spill]
theorem pC:∀ x,(aZ x).length=5∧nJ (aZ x)=true:=fun _=>⟨rfl,rfl⟩

structure aR where
 Index:Int
 Delivered:Int
@[reducible] def bY (x:aR):List Value:=[i6 x.Index,i6 x.Delivered]
theorem rZ:∀ x,(bY x).length=2∧nJ (bY x)=true:=fun _=>⟨rfl,rfl⟩

structure bB where
 Table:List bL
 Credit:Int

structure bD where
 From:Int
 To:Int
 Flow:aF
@[reducible] def bH (x:bD):List Value:=[i6 x.From,i6 x.To,i6 x.Flow.Lo,i6 x.Flow.Hi]
theorem wR:∀ x,(bH x).length=4∧nJ (bH x)=true:=fun _=>⟨rfl,rfl⟩

structure bC where
 Gains:List aF
 Reaches:List bD

structure cL where
 Flows:List Int
 Gains:List Int

structure aE where
 from_:Int
 to_:Int
 span:aF
 now:Int
@[reducible] def aH (x:aE):List Value:=[i6 x.from_,i6 x.to_,i6 x.span.Lo,i6 x.span.Hi,i6 x.now]
theorem eU:∀ x,(aH x).length=5∧nJ (aH x)=true:=fun _=>⟨rfl,rfl⟩

structure cH where
 all:List aE
 outside:Int

structure aP where
 ways:cH
 reaches:Int

structure aB where
 way:Int
 back:Bool
@[reducible] def jY (x:aB):List Value:=[i6 x.way,.bool x.back]
theorem xO:∀ x,(jY x).length=2∧nJ (jY x)=true:=fun _=>⟨rfl,rfl⟩

structure aA where
 cost:Int
 many:Int
 by_:aB
@[reducible] def wM (x:aA):List Value:=[i6 x.cost,i6 x.many,i6 x.by_.way,.bool x.by_.back]
theorem aH0:∀ x,(wM x).length=4∧nJ (wM x)=true:=fun _=>⟨rfl,rfl⟩

structure sW where
 Least:Int
 Part:Int
 Can:List Int

structure cD where
 From:Int
 To:Int
 Day:Int
 Rise:Int
 Error:Int
@[reducible] def bR (x:cD):List Value:=[i6 x.From,i6 x.To,i6 x.Day,i6 x.Rise,i6 x.Error]
theorem aH7:∀ x,(bR x).length=5∧nJ (bR x)=true:=fun _=>⟨rfl,rfl⟩

structure aO where
 Marks:Int
 Lines:List cD

structure aK where
 Line:Int
 Back:Bool
@[reducible] def aG (x:aK):List Value:=[i6 x.Line,.bool x.Back]
theorem aAm:∀ x,(aG x).length=2∧nJ (aG x)=true:=fun _=>⟨rfl,rfl⟩

structure bX where
 Net:aO
 can:Nat→Int
 by_:Nat→aK

structure bZ where
 Known:Bool
 Flow:aF
@[reducible] def dD (x:bZ):List Value:=[.bool x.Known,i6 x.Flow.Lo,i6 x.Flow.Hi]
theorem aHy:∀ x,(dD x).length=3∧nJ (dD x)=true:=fun _=>⟨rfl,rfl⟩

structure eN where
 Rise:Int
 Fall:Int
 Days:List bZ

structure oY where
 Record:eN
 spans:List aF

structure cA where
 State:Int
 Amount:Int
 Loss:Int
@[reducible] def cN (x:cA):List Value:=[i6 x.State,i6 x.Amount,i6 x.Loss]
theorem aHz:∀ x,(cN x).length=3∧nJ (cN x)=true:=fun _=>⟨rfl,rfl⟩

structure cK where
 States:Int
 Rights:List cA

structure jU where
 Compact:cK
 got:Nat→Int

theorem bt_66:cR Tryz.prog 66=some ([.slice none 0 0,i6 0,i6 0],[(0,1),(1,1),(2,1)]):=by kernel_rfl

theorem en_4:En Tryz.prog 4:=En.of Tryz.func4 (by kernel_rfl) (by kernel_rfl)

theorem aKw:(Tryz.prog.info? 27).map (·.zero)=some (some (.agg #[.slice none 0 0,i6 0])):=by kernel_rfl

theorem rE:(Tryz.prog.info? 29).map (·.zero)=some (some (.agg #[i6 0,i6 0])):=by kernel_rfl

theorem aAj:∀ (q:Addr) (w:World),(Instr.fieldAt 66 (.pointer (some q)) 0).run Tryz.prog w=.ok (.pointer (some (q.add 0))) w:=fun _ _=>by kernel_rfl

theorem aHc:ScT Tryz.prog 22:=⟨⟨_,Tryz.underlying22,trivial⟩,by kernel_rfl⟩

theorem aAg:∀ (q:Addr) (w:World),(Instr.fieldAt 66 (.pointer (some q)) 1).run Tryz.prog w=.ok (.pointer (some (q.add 1))) w:=fun _ _=>by kernel_rfl

theorem aX:ScT Tryz.prog 3:=⟨⟨_,Tryz.underlying3,trivial⟩,by kernel_rfl⟩

theorem sz_5:(Tryz.prog.info? 5).map (·.size)=some 1:=by kernel_rfl

theorem sc_5:ScT Tryz.prog 5:=⟨⟨_,Tryz.underlying5,trivial⟩,by kernel_rfl⟩

theorem aT:Tryz.prog.follows .mixedOrders=true:=by kernel_rfl

theorem aB0:∀ (q:Addr) (w:World),(Instr.fieldAt 66 (.pointer (some q)) 2).run Tryz.prog w=.ok (.pointer (some (q.add 2))) w:=fun _ _=>by kernel_rfl

theorem fD:(Tryz.prog.info? 3).map (·.size)=some 1:=by kernel_rfl

theorem pR:En Tryz.prog 16:=En.of Tryz.func16 (by kernel_rfl) (by kernel_rfl)

theorem bt_27:cR Tryz.prog 27=some ([.slice none 0 0,i6 0],[(0,1),(1,1)]):=by kernel_rfl

theorem aM4:(Tryz.prog.info? 27).map (·.size)=some 2:=by kernel_rfl

theorem aGy:En Tryz.prog 6:=En.of Tryz.func6 (by kernel_rfl) (by kernel_rfl)

theorem oD:∀ (q:Addr) (w:World),(Instr.fieldAt 27 (.pointer (some q)) 0).run Tryz.prog w=.ok (.pointer (some (q.add 0))) w:=fun _ _=>by kernel_rfl

theorem wJ:ScT Tryz.prog 25:=⟨⟨_,Tryz.underlying25,trivial⟩,by kernel_rfl⟩

theorem bt_69:cR Tryz.prog 69=some ([i6 0,i6 0],[(0,1),(1,1)]):=by kernel_rfl

theorem aOf:SlT Tryz.prog 25 69 2 16 (.agg #[i6 0,i6 0]):=SlT.of Tryz.underlying25 (by kernel_rfl) (by decide)

theorem sz_25:(Tryz.prog.info? 25).map (·.size)=some 1:=by kernel_rfl

theorem oO:cR Tryz.prog 29=some ([i6 0,i6 0],[(0,1),(1,1)]):=by kernel_rfl

theorem fS:(Tryz.prog.info? 29).map (·.size)=some 2:=by kernel_rfl

theorem eY:oX Tryz.prog 29 2:=⟨⟨_,Tryz.underlying29,trivial⟩,by kernel_rfl⟩

theorem aLk:En Tryz.prog 17:=En.of Tryz.func17 (by kernel_rfl) (by kernel_rfl)

theorem aJl:cR Tryz.prog 53=some ([i6 0,i6 0],[(0,1),(1,1)]):=by kernel_rfl

theorem aN5:(Tryz.prog.info? 53).map (·.zero)=some (some (.agg #[i6 0,i6 0])):=by kernel_rfl

theorem aK3:(Tryz.prog.info? 53).map (·.size)=some 2:=by kernel_rfl

theorem yC:∀ (q:Addr) (w:World),(Instr.fieldAt 53 (.pointer (some q)) 0).run Tryz.prog w=.ok (.pointer (some (q.add 0))) w:=fun _ _=>by kernel_rfl

theorem aB4:∀ (q:Addr) (w:World),(Instr.fieldAt 53 (.pointer (some q)) 1).run Tryz.prog w=.ok (.pointer (some (q.add 1))) w:=fun _ _=>by kernel_rfl

theorem aLx:cR Tryz.prog 51=some ([i6 0,i6 0,i6 0,i6 0,.bool false],[(0,2),(2,2),(4,1)]):=by kernel_rfl

theorem aE7:SlT Tryz.prog 30 51 5 40 (.agg #[i6 0,i6 0,i6 0,i6 0,.bool false]):=SlT.of Tryz.underlying30 (by kernel_rfl) (by decide)

theorem aLz:oX Tryz.prog 53 2:=⟨⟨_,Tryz.underlying53,trivial⟩,by kernel_rfl⟩

theorem aJk:SlT Tryz.prog 31 53 2 16 (.agg #[i6 0,i6 0]):=SlT.of Tryz.underlying31 (by kernel_rfl) (by decide)

theorem wA:oX Tryz.prog 27 2:=⟨⟨_,Tryz.underlying27,trivial⟩,by kernel_rfl⟩

theorem en_5:En Tryz.prog 5:=En.of Tryz.func5 (by kernel_rfl) (by kernel_rfl)

theorem aK5:(Tryz.prog.info? 38).map (·.zero)=some (some (.agg #[.slice none 0 0,.slice none 0 0])):=by kernel_rfl

theorem aHm:(Tryz.prog.info? 41).map (·.zero)=some (some (.agg #[.slice none 0 0,.slice none 0 0])):=by kernel_rfl

theorem lQ:SlT Tryz.prog 39 3 1 8 (i6 0):=SlT.of Tryz.underlying39 (by kernel_rfl) (by decide)

theorem bt_49:cR Tryz.prog 49=some ([i6 0,i6 0,i6 0,i6 0],[(0,1),(1,1),(2,2)]):=by kernel_rfl

theorem aJv:(Tryz.prog.info? 49).map (·.zero)=some (some (.agg #[i6 0,i6 0,i6 0,i6 0])):=by kernel_rfl

theorem zY:(Tryz.prog.info? 49).map (·.size)=some 4:=by kernel_rfl

theorem xZ:∀ (q:Addr) (w:World),(Instr.fieldAt 49 (.pointer (some q)) 0).run Tryz.prog w=.ok (.pointer (some (q.add 0))) w:=fun _ _=>by kernel_rfl

theorem xW:∀ (q:Addr) (w:World),(Instr.fieldAt 49 (.pointer (some q)) 1).run Tryz.prog w=.ok (.pointer (some (q.add 1))) w:=fun _ _=>by kernel_rfl

theorem yB:∀ (q:Addr) (w:World),(Instr.fieldAt 49 (.pointer (some q)) 2).run Tryz.prog w=.ok (.pointer (some (q.add 2))) w:=fun _ _=>by kernel_rfl

theorem rA:∀ (q:Addr) (w:World),(Instr.fieldAt 38 (.pointer (some q)) 1).run Tryz.prog w=.ok (.pointer (some (q.add 1))) w:=fun _ _=>by kernel_rfl

theorem yX:ScT Tryz.prog 36:=⟨⟨_,Tryz.underlying36,trivial⟩,by kernel_rfl⟩

theorem aJc:oX Tryz.prog 49 4:=⟨⟨_,Tryz.underlying49,trivial⟩,by kernel_rfl⟩

theorem aOz:SlT Tryz.prog 36 49 4 32 (.agg #[i6 0,i6 0,i6 0,i6 0]):=SlT.of Tryz.underlying36 (by kernel_rfl) (by decide)

theorem tY:∀ (q:Addr) (w:World),(Instr.fieldAt 41 (.pointer (some q)) 0).run Tryz.prog w=.ok (.pointer (some (q.add 0))) w:=fun _ _=>by kernel_rfl

theorem uA:ScT Tryz.prog 39:=⟨⟨_,Tryz.underlying39,trivial⟩,by kernel_rfl⟩

theorem sz_36:(Tryz.prog.info? 36).map (·.size)=some 1:=by kernel_rfl

theorem aNe:(Tryz.prog.info? 39).map (·.size)=some 1:=by kernel_rfl

theorem sC:∀ (q:Addr) (w:World),(Instr.fieldAt 38 (.pointer (some q)) 0).run Tryz.prog w=.ok (.pointer (some (q.add 0))) w:=fun _ _=>by kernel_rfl

theorem sA:ScT Tryz.prog 35:=⟨⟨_,Tryz.underlying35,trivial⟩,by kernel_rfl⟩

theorem yK:SlT Tryz.prog 35 29 2 16 (.agg #[i6 0,i6 0]):=SlT.of Tryz.underlying35 (by kernel_rfl) (by decide)

theorem aB6:∀ (q:Addr) (w:World),(Instr.fieldAt 41 (.pointer (some q)) 1).run Tryz.prog w=.ok (.pointer (some (q.add 1))) w:=fun _ _=>by kernel_rfl

theorem aOo:(Tryz.prog.info? 35).map (·.size)=some 1:=by kernel_rfl

theorem aBg:oX Tryz.prog 38 2:=⟨⟨_,Tryz.underlying38,trivial⟩,by kernel_rfl⟩

theorem aJh:oX Tryz.prog 41 2:=⟨⟨_,Tryz.underlying41,trivial⟩,by kernel_rfl⟩

theorem aOl:(Tryz.prog.info? 38).map (·.size)=some 2:=by kernel_rfl

theorem aIz:(Tryz.prog.info? 41).map (·.size)=some 2:=by kernel_rfl

theorem en_7:En Tryz.prog 7:=En.of Tryz.func7 (by kernel_rfl) (by kernel_rfl)

theorem aHs:En Tryz.prog 92:=En.of Tryz.func92 (by kernel_rfl) (by kernel_rfl)

theorem aLu:ScT Tryz.prog 115:=⟨⟨_,Tryz.underlying115,trivial⟩,by kernel_rfl⟩

theorem iH:∀ (q:Addr) (w:World),(Instr.fieldAt 29 (.pointer (some q)) 0).run Tryz.prog w=.ok (.pointer (some (q.add 0))) w:=fun _ _=>by kernel_rfl

theorem fQ:∀ (q:Addr) (w:World),(Instr.fieldAt 29 (.pointer (some q)) 1).run Tryz.prog w=.ok (.pointer (some (q.add 1))) w:=fun _ _=>by kernel_rfl

theorem aOd:En Tryz.prog 94:=En.of Tryz.func94 (by kernel_rfl) (by kernel_rfl)

theorem aPy:En Tryz.prog 121:=En.of Tryz.func121 (by kernel_rfl) (by kernel_rfl)

theorem aLb:En Tryz.prog 133:=En.of Tryz.func133 (by kernel_rfl) (by kernel_rfl)

theorem aNc:En Tryz.prog 120:=En.of Tryz.func120 (by kernel_rfl) (by kernel_rfl)

theorem en_93:En Tryz.prog 93:=En.of Tryz.func93 (by kernel_rfl) (by kernel_rfl)

theorem en_59:En Tryz.prog 59:=En.of Tryz.func59 (by kernel_rfl) (by kernel_rfl)

theorem aN4:cR Tryz.prog 76=some ([.slice none 0 0,i6 0],[(0,1),(1,1)]):=by kernel_rfl

theorem aOp:cR Tryz.prog 78=some ([.slice none 0 0,i6 0,i6 0],[(0,2),(2,1)]):=by kernel_rfl

theorem gA:∀ (q:Addr) (w:World),(Instr.fieldAt 78 (.pointer (some q)) 0).run Tryz.prog w=.ok (.pointer (some (q.add 0))) w:=fun _ _=>by kernel_rfl

theorem jI:∀ (q:Addr) (w:World),(Instr.fieldAt 76 (.pointer (some q)) 0).run Tryz.prog w=.ok (.pointer (some (q.add 0))) w:=fun _ _=>by kernel_rfl

theorem qK:ScT Tryz.prog 74:=⟨⟨_,Tryz.underlying74,trivial⟩,by kernel_rfl⟩

theorem aK8:cR Tryz.prog 112=some ([i6 0,i6 0,i6 0,i6 0,i6 0],[(0,1),(1,1),(2,2),(4,1)]):=by kernel_rfl

theorem aFo:SlT Tryz.prog 74 112 5 40 (.agg #[i6 0,i6 0,i6 0,i6 0,i6 0]):=SlT.of Tryz.underlying74 (by kernel_rfl) (by decide)

theorem aO4:(Tryz.prog.info? 74).map (·.size)=some 1:=by kernel_rfl

theorem yW:∀ (q:Addr) (w:World),(Instr.fieldAt 76 (.pointer (some q)) 1).run Tryz.prog w=.ok (.pointer (some (q.add 1))) w:=fun _ _=>by kernel_rfl

theorem kB:(Tryz.prog.info? 112).map (·.size)=some 5:=by kernel_rfl

theorem aDc:oX Tryz.prog 112 5:=⟨⟨_,Tryz.underlying112,trivial⟩,by kernel_rfl⟩

theorem aCr:(Tryz.prog.info? 112).map (·.zero)=some (some (.agg #[i6 0,i6 0,i6 0,i6 0,i6 0])):=by kernel_rfl

theorem zH:∀ (q:Addr) (w:World),(Instr.fieldAt 112 (.pointer (some q)) 2).run Tryz.prog w=.ok (.pointer (some (q.add 2))) w:=fun _ _=>by kernel_rfl

theorem jZ:∀ (q:Addr) (w:World),(Instr.fieldAt 112 (.pointer (some q)) 3).run Tryz.prog w=.ok (.pointer (some (q.add 4))) w:=fun _ _=>by kernel_rfl

theorem en_60:En Tryz.prog 60:=En.of Tryz.func60 (by kernel_rfl) (by kernel_rfl)

theorem aLv:cR Tryz.prog 163=some ([.nilFunc],[(0,1)]):=by kernel_rfl

theorem aM0:(Tryz.prog.info? 163).map (·.zero)=some (some (.agg #[.nilFunc])):=by kernel_rfl

theorem aM9:(Tryz.prog.info? 163).map (·.size)=some 1:=by kernel_rfl

theorem aGk:(Tryz.prog.info? 193).map (·.zero)=some (some (.agg (aY [] 10 aD (fun _=>0) []).toArray)):=by kernel_rfl

theorem sX:∀ (q:Addr) (w:World),(Instr.fieldAt 112 (.pointer (some q)) 0).run Tryz.prog w=.ok (.pointer (some (q.add 0))) w:=fun _ _=>by kernel_rfl

theorem uQ:∀ (q:Addr) (w:World),(Instr.fieldAt 112 (.pointer (some q)) 1).run Tryz.prog w=.ok (.pointer (some (q.add 1))) w:=fun _ _=>by kernel_rfl

@[reducible] def vE (x:Nat→Int):List Value:=aY [] 10 aD x []
theorem eZ:∀ x,(vE x).length=10∧nJ (vE x)=true:=fun x=>⟨(aHa bG 10 x).1.trans (by decide),(aHa bG 10 x).2⟩

theorem aDh:oX Tryz.prog 193 10:=⟨⟨_,Tryz.underlying193,trivial⟩,by kernel_rfl⟩

theorem aGd:(Tryz.prog.info? 193).map (·.size)=some 10:=by kernel_rfl

theorem aN2:En Tryz.prog 96:=En.of Tryz.func96 (by kernel_rfl) (by kernel_rfl)

theorem aP3:Tryz.prog.eqGuardType Tryz.prog.depth 193=false:=by kernel_rfl

theorem aPq:∀ (f g:Nat→Int) (w:World),(Op.equalIn 10000 193 (.agg (aY [] 10 aD f []).toArray) (.agg (aY [] 10 aD g []).toArray)).run Tryz.prog w=.ok (aC3 10 f g) w:=aKg Tryz.underlying193 Tryz.underlying3 (by kernel_rfl) (by kernel_rfl)

theorem en_97:En Tryz.prog 97:=En.of Tryz.func97 (by kernel_rfl) (by kernel_rfl)

theorem aOt:En Tryz.prog 76:=En.of Tryz.func76 (by kernel_rfl) (by kernel_rfl)

theorem aMn:oX Tryz.prog 163 1:=⟨⟨_,Tryz.underlying163,trivial⟩,by kernel_rfl⟩

theorem aCn:cR Tryz.prog 168=some ([i6 0,i6 0,i6 0,.bool false],[(0,1),(1,1),(2,2)]):=by kernel_rfl

theorem aL5:(Tryz.prog.info? 165).map (·.zero)=some (some (.map none)):=by kernel_rfl

theorem aK2:(Tryz.prog.info? 165).map (·.size)=some 1:=by kernel_rfl

theorem nT:ScT Tryz.prog 71:=⟨⟨_,Tryz.underlying71,trivial⟩,by kernel_rfl⟩

theorem aM6:(Tryz.prog.info? 160).map (·.zero)=some (some (.nilFunc)):=by kernel_rfl

theorem aMs:(Tryz.prog.info? 160).map (·.size)=some 1:=by kernel_rfl

theorem aMo:(Tryz.prog.info? 4).map (·.zero)=some (some (.bool false)):=by kernel_rfl

theorem aBv:(Tryz.prog.info? 4).map (·.size)=some 1:=by kernel_rfl

theorem vC:ScT Tryz.prog 4:=⟨⟨_,Tryz.underlying4,trivial⟩,by kernel_rfl⟩

theorem wT:ScT Tryz.prog 165:=⟨⟨_,Tryz.underlying165,trivial⟩,by kernel_rfl⟩

theorem nB:(Tryz.prog.info? 168).map (·.zero)=some (some (.agg #[i6 0,i6 0,i6 0,.bool false])):=by kernel_rfl

theorem uG:(Tryz.prog.info? 168).map (·.size)=some 4:=by kernel_rfl

theorem aK1:En Tryz.prog 100:=En.of Tryz.func100 (by kernel_rfl) (by kernel_rfl)

theorem vM:cR Tryz.prog 158=some ([i6 0,.bool false],[(0,1),(1,1)]):=by kernel_rfl

theorem aAw:(Tryz.prog.info? 158).map (·.zero)=some (some (.agg #[i6 0,.bool false])):=by kernel_rfl

theorem xK:(Tryz.prog.info? 158).map (·.size)=some 2:=by kernel_rfl

theorem aHi:∀ (q:Addr) (w:World),(Instr.fieldAt 163 (.pointer (some q)) 0).run Tryz.prog w=.ok (.pointer (some (q.add 0))) w:=fun _ _=>by kernel_rfl

theorem aL6:ScT Tryz.prog 161:=⟨⟨_,Tryz.underlying161,trivial⟩,by kernel_rfl⟩

theorem kQ:oX Tryz.prog 158 2:=⟨⟨_,Tryz.underlying158,trivial⟩,by kernel_rfl⟩

theorem en_95:En Tryz.prog 95:=En.of Tryz.func95 (by kernel_rfl) (by kernel_rfl)

theorem aNb:ScT Tryz.prog 160:=⟨⟨_,Tryz.underlying160,trivial⟩,by kernel_rfl⟩

theorem xF:∀ (q:Addr) (w:World),(Instr.fieldAt 158 (.pointer (some q)) 0).run Tryz.prog w=.ok (.pointer (some (q.add 0))) w:=fun _ _=>by kernel_rfl

theorem xM:∀ (q:Addr) (w:World),(Instr.fieldAt 158 (.pointer (some q)) 1).run Tryz.prog w=.ok (.pointer (some (q.add 1))) w:=fun _ _=>by kernel_rfl

theorem aG5:En Tryz.prog 66:=En.of Tryz.func66 (by kernel_rfl) (by kernel_rfl)

theorem kT:∀ (q:Addr) (w:World),(Instr.fieldAt 168 (.pointer (some q)) 0).run Tryz.prog w=.ok (.pointer (some (q.add 0))) w:=fun _ _=>by kernel_rfl

theorem rK:∀ (q:Addr) (w:World),(Instr.fieldAt 168 (.pointer (some q)) 1).run Tryz.prog w=.ok (.pointer (some (q.add 1))) w:=fun _ _=>by kernel_rfl

theorem aCt:En Tryz.prog 67:=En.of Tryz.func67 (by kernel_rfl) (by kernel_rfl)

theorem aId:oX Tryz.prog 168 4:=⟨⟨_,Tryz.underlying168,trivial⟩,by kernel_rfl⟩

theorem aM8:En Tryz.prog 122:=En.of Tryz.func122 (by kernel_rfl) (by kernel_rfl)

theorem aOb:En Tryz.prog 68:=En.of Tryz.func68 (by kernel_rfl) (by kernel_rfl)

theorem aK9:SlT Tryz.prog 199 158 2 16 (.agg #[i6 0,.bool false]):=SlT.of Tryz.underlying199 (by kernel_rfl) (by decide)

theorem aQc:En Tryz.prog 101:=En.of Tryz.func101 (by kernel_rfl) (by kernel_rfl)

theorem aOs:En Tryz.prog 69:=En.of Tryz.func69 (by kernel_rfl) (by kernel_rfl)

theorem en_61:En Tryz.prog 61:=En.of Tryz.func61 (by kernel_rfl) (by kernel_rfl)

theorem aBz:∀ (q:Addr) (w:World),(Instr.fieldAt 78 (.pointer (some q)) 1).run Tryz.prog w=.ok (.pointer (some (q.add 2))) w:=fun _ _=>by kernel_rfl

theorem bt_41:cR Tryz.prog 41=some ([.slice none 0 0,.slice none 0 0],[(0,1),(1,1)]):=by kernel_rfl

theorem en_63:En Tryz.prog 63:=En.of Tryz.func63 (by kernel_rfl) (by kernel_rfl)

theorem aOx:En Tryz.prog 98:=En.of Tryz.func98 (by kernel_rfl) (by kernel_rfl)

theorem en_99:En Tryz.prog 99:=En.of Tryz.func99 (by kernel_rfl) (by kernel_rfl)

theorem en_62:En Tryz.prog 62:=En.of Tryz.func62 (by kernel_rfl) (by kernel_rfl)

theorem aNz:En Tryz.prog 34:=En.of Tryz.func34 (by kernel_rfl) (by kernel_rfl)

theorem aOq:En Tryz.prog 18:=En.of Tryz.func18 (by kernel_rfl) (by kernel_rfl)

theorem en_64:En Tryz.prog 64:=En.of Tryz.func64 (by kernel_rfl) (by kernel_rfl)

theorem aOu:En Tryz.prog 35:=En.of Tryz.func35 (by kernel_rfl) (by kernel_rfl)

theorem aLc:Tryz.prog.eqGuardType Tryz.prog.depth 158=false:=by kernel_rfl

theorem aJi (x0:Int) (x1:Bool) (y0:Int) (y1:Bool) (w:World):(Op.equalIn 10000 158 (.agg #[i6 x0,.bool x1]) (.agg #[i6 y0,.bool y1])).run Tryz.prog w=.ok (x0 == y0 && x1 == y1) w:=by
 rw [run_equalIn_agg w 9999 158 _ _ (by kernel_rfl) (by kernel_rfl)]
 simp [Op.eqFields,part,go_sem]
 repeat' split
 all_goals simp_all

theorem en_65:En Tryz.prog 65:=En.of Tryz.func65 (by kernel_rfl) (by kernel_rfl)

theorem aN9:En Tryz.prog 36:=En.of Tryz.func36 (by kernel_rfl) (by kernel_rfl)

theorem en_19:En Tryz.prog 19:=En.of Tryz.func19 (by kernel_rfl) (by kernel_rfl)

theorem en_8:En Tryz.prog 8:=En.of Tryz.func8 (by kernel_rfl) (by kernel_rfl)

theorem en_9:En Tryz.prog 9:=En.of Tryz.func9 (by kernel_rfl) (by kernel_rfl)

theorem wH:En Tryz.prog 24:=En.of Tryz.func24 (by kernel_rfl) (by kernel_rfl)

theorem uZ:(Tryz.prog.info? 69).map (·.size)=some 2:=by kernel_rfl

theorem aD8:oX Tryz.prog 69 2:=⟨⟨_,Tryz.underlying69,trivial⟩,by kernel_rfl⟩

theorem aP5:ScT Tryz.prog 172:=⟨⟨_,Tryz.underlying172,trivial⟩,by kernel_rfl⟩

theorem vV:∀ (q:Addr) (w:World),(Instr.fieldAt 69 (.pointer (some q)) 0).run Tryz.prog w=.ok (.pointer (some (q.add 0))) w:=fun _ _=>by kernel_rfl

theorem aBf:En Tryz.prog 25:=En.of Tryz.func25 (by kernel_rfl) (by kernel_rfl)

theorem tU:∀ (q:Addr) (w:World),(Instr.fieldAt 69 (.pointer (some q)) 1).run Tryz.prog w=.ok (.pointer (some (q.add 1))) w:=fun _ _=>by kernel_rfl

theorem en_71:En Tryz.prog 71:=En.of Tryz.func71 (by kernel_rfl) (by kernel_rfl)

theorem aP4:En Tryz.prog 103:=En.of Tryz.func103 (by kernel_rfl) (by kernel_rfl)

theorem aOj:En Tryz.prog 74:=En.of Tryz.func74 (by kernel_rfl) (by kernel_rfl)

theorem aQ0:En Tryz.prog 102:=En.of Tryz.func102 (by kernel_rfl) (by kernel_rfl)

theorem en_70:En Tryz.prog 70:=En.of Tryz.func70 (by kernel_rfl) (by kernel_rfl)

theorem aIu:∀ (q:Addr) (w:World),(Instr.fieldAt 27 (.pointer (some q)) 1).run Tryz.prog w=.ok (.pointer (some (q.add 1))) w:=fun _ _=>by kernel_rfl

theorem aJ2:(Tryz.prog.info? 69).map (·.zero)=some (some (.agg #[i6 0,i6 0])):=by kernel_rfl

theorem en_37:En Tryz.prog 37:=En.of Tryz.func37 (by kernel_rfl) (by kernel_rfl)

theorem aHk:(Tryz.prog.info? 51).map (·.size)=some 5:=by kernel_rfl

theorem aJn:oX Tryz.prog 51 5:=⟨⟨_,Tryz.underlying51,trivial⟩,by kernel_rfl⟩

theorem aPc:ScT Tryz.prog 116:=⟨⟨_,Tryz.underlying116,trivial⟩,by kernel_rfl⟩

theorem zU:∀ (q:Addr) (w:World),(Instr.fieldAt 51 (.pointer (some q)) 0).run Tryz.prog w=.ok (.pointer (some (q.add 0))) w:=fun _ _=>by kernel_rfl

theorem aN3:En Tryz.prog 40:=En.of Tryz.func40 (by kernel_rfl) (by kernel_rfl)

theorem zK:∀ (q:Addr) (w:World),(Instr.fieldAt 51 (.pointer (some q)) 1).run Tryz.prog w=.ok (.pointer (some (q.add 2))) w:=fun _ _=>by kernel_rfl

theorem en_39:En Tryz.prog 39:=En.of Tryz.func39 (by kernel_rfl) (by kernel_rfl)

theorem en_73:En Tryz.prog 73:=En.of Tryz.func73 (by kernel_rfl) (by kernel_rfl)

theorem aPz:En Tryz.prog 104:=En.of Tryz.func104 (by kernel_rfl) (by kernel_rfl)

theorem en_72:En Tryz.prog 72:=En.of Tryz.func72 (by kernel_rfl) (by kernel_rfl)

theorem en_38:En Tryz.prog 38:=En.of Tryz.func38 (by kernel_rfl) (by kernel_rfl)

theorem aNy:En Tryz.prog 20:=En.of Tryz.func20 (by kernel_rfl) (by kernel_rfl)

theorem aQd:(Tryz.prog.info? 117).map (·.zero)=some (some (.map none)):=by kernel_rfl

theorem aO8:(Tryz.prog.info? 117).map (·.size)=some 1:=by kernel_rfl

theorem aLj:En Tryz.prog 21:=En.of Tryz.func21 (by kernel_rfl) (by kernel_rfl)

theorem aJz:(Tryz.prog.info? 85).map (·.zero)=some (some (.agg #[.nilFunc,.nilFunc])):=by kernel_rfl

theorem aOa:cR Tryz.prog 85=some ([.nilFunc,.nilFunc],[(0,1),(1,1)]):=by kernel_rfl

theorem aJg:(Tryz.prog.info? 85).map (·.size)=some 2:=by kernel_rfl

theorem aOy:oX Tryz.prog 85 2:=⟨⟨_,Tryz.underlying85,trivial⟩,by kernel_rfl⟩

theorem en_22:En Tryz.prog 22:=En.of Tryz.func22 (by kernel_rfl) (by kernel_rfl)

theorem en_23:En Tryz.prog 23:=En.of Tryz.func23 (by kernel_rfl) (by kernel_rfl)

theorem aO0:(Tryz.prog.info? 51).map (·.zero)=some (some (.agg #[i6 0,i6 0,i6 0,i6 0,.bool false])):=by kernel_rfl

theorem aI1:∀ (q:Addr) (w:World),(Instr.fieldAt 85 (.pointer (some q)) 0).run Tryz.prog w=.ok (.pointer (some (q.add 0))) w:=fun _ _=>by kernel_rfl

theorem aEv:ScT Tryz.prog 83:=⟨⟨_,Tryz.underlying83,trivial⟩,by kernel_rfl⟩

theorem en_43:En Tryz.prog 43:=En.of Tryz.func43 (by kernel_rfl) (by kernel_rfl)

theorem aJw:∀ (q:Addr) (w:World),(Instr.fieldAt 85 (.pointer (some q)) 1).run Tryz.prog w=.ok (.pointer (some (q.add 1))) w:=fun _ _=>by kernel_rfl

theorem en_44:En Tryz.prog 44:=En.of Tryz.func44 (by kernel_rfl) (by kernel_rfl)

theorem aFu:∀ (q:Addr) (w:World),(Instr.fieldAt 51 (.pointer (some q)) 2).run Tryz.prog w=.ok (.pointer (some (q.add 4))) w:=fun _ _=>by kernel_rfl

theorem aLe:ScT Tryz.prog 117:=⟨⟨_,Tryz.underlying117,trivial⟩,by kernel_rfl⟩

theorem zr_3:(Tryz.prog.info? 3).map (·.zero)=some (some (i6 0)):=by kernel_rfl

theorem en_75:En Tryz.prog 75:=En.of Tryz.func75 (by kernel_rfl) (by kernel_rfl)

theorem en_42:En Tryz.prog 42:=En.of Tryz.func42 (by kernel_rfl) (by kernel_rfl)

theorem aKy:En Tryz.prog 41:=En.of Tryz.func41 (by kernel_rfl) (by kernel_rfl)

theorem en_45:En Tryz.prog 45:=En.of Tryz.func45 (by kernel_rfl) (by kernel_rfl)

theorem en_46:En Tryz.prog 46:=En.of Tryz.func46 (by kernel_rfl) (by kernel_rfl)

theorem aNw:En Tryz.prog 10:=En.of Tryz.func10 (by kernel_rfl) (by kernel_rfl)

theorem en_11:En Tryz.prog 11:=En.of Tryz.func11 (by kernel_rfl) (by kernel_rfl)

theorem en_12:En Tryz.prog 12:=En.of Tryz.func12 (by kernel_rfl) (by kernel_rfl)

theorem bt_60:cR Tryz.prog 60=some ([i6 0,i6 0,.slice none 0 0],[(0,1),(1,1),(2,1)]):=by kernel_rfl

theorem zr_60:(Tryz.prog.info? 60).map (·.zero)=some (some (.agg #[i6 0,i6 0,.slice none 0 0])):=by kernel_rfl

theorem sz_60:(Tryz.prog.info? 60).map (·.size)=some 3:=by kernel_rfl

theorem zO:∀ (q:Addr) (w:World),(Instr.fieldAt 60 (.pointer (some q)) 2).run Tryz.prog w=.ok (.pointer (some (q.add 2))) w:=fun _ _=>by kernel_rfl

theorem aGl:∀ (q:Addr) (w:World),(Instr.fieldAt 60 (.pointer (some q)) 0).run Tryz.prog w=.ok (.pointer (some (q.add 0))) w:=fun _ _=>by kernel_rfl

theorem ag_60:oX Tryz.prog 60 3:=⟨⟨_,Tryz.underlying60,trivial⟩,by kernel_rfl⟩

theorem aF8:∀ (q:Addr) (w:World),(Instr.fieldAt 60 (.pointer (some q)) 1).run Tryz.prog w=.ok (.pointer (some (q.add 1))) w:=fun _ _=>by kernel_rfl

theorem aMb:ScT Tryz.prog 88:=⟨⟨_,Tryz.underlying88,trivial⟩,by kernel_rfl⟩

theorem en_48:En Tryz.prog 48:=En.of Tryz.func48 (by kernel_rfl) (by kernel_rfl)

theorem en_47:En Tryz.prog 47:=En.of Tryz.func47 (by kernel_rfl) (by kernel_rfl)

theorem en_26:En Tryz.prog 26:=En.of Tryz.func26 (by kernel_rfl) (by kernel_rfl)

theorem en_13:En Tryz.prog 13:=En.of Tryz.func13 (by kernel_rfl) (by kernel_rfl)

theorem en_14:En Tryz.prog 14:=En.of Tryz.func14 (by kernel_rfl) (by kernel_rfl)

theorem zr_94:(Tryz.prog.info? 94).map (·.zero)=some (some (.agg #[i6 0,.slice none 0 0])):=by kernel_rfl

theorem aH4:cR Tryz.prog 132=some ([i6 0,i6 0,i6 0,i6 0,i6 0],[(0,1),(1,1),(2,1),(3,1),(4,1)]):=by kernel_rfl

theorem sl_92:SlT Tryz.prog 92 132 5 40 (.agg #[i6 0,i6 0,i6 0,i6 0,i6 0]):=SlT.of Tryz.underlying92 (by kernel_rfl) (by decide)

theorem bt_94:cR Tryz.prog 94=some ([i6 0,.slice none 0 0],[(0,1),(1,1)]):=by kernel_rfl

theorem sz_94:(Tryz.prog.info? 94).map (·.size)=some 2:=by kernel_rfl

theorem aBm:oX Tryz.prog 94 2:=⟨⟨_,Tryz.underlying94,trivial⟩,by kernel_rfl⟩

theorem en_28:En Tryz.prog 28:=En.of Tryz.func28 (by kernel_rfl) (by kernel_rfl)

theorem zr_88:(Tryz.prog.info? 88).map (·.zero)=some (some (.nilFunc)):=by kernel_rfl

theorem sz_88:(Tryz.prog.info? 88).map (·.size)=some 1:=by kernel_rfl

theorem pW:∀ (q:Addr) (w:World),(Instr.fieldAt 94 (.pointer (some q)) 0).run Tryz.prog w=.ok (.pointer (some (q.add 0))) w:=fun _ _=>by kernel_rfl

theorem aCv:En Tryz.prog 78:=En.of Tryz.func78 (by kernel_rfl) (by kernel_rfl)

theorem yE:∀ (q:Addr) (w:World),(Instr.fieldAt 94 (.pointer (some q)) 1).run Tryz.prog w=.ok (.pointer (some (q.add 1))) w:=fun _ _=>by kernel_rfl

theorem aFj:ScT Tryz.prog 92:=⟨⟨_,Tryz.underlying92,trivial⟩,by kernel_rfl⟩

theorem aC7:(Tryz.prog.info? 132).map (·.size)=some 5:=by kernel_rfl

theorem aCh:oX Tryz.prog 132 5:=⟨⟨_,Tryz.underlying132,trivial⟩,by kernel_rfl⟩

theorem aPa:ScT Tryz.prog 203:=⟨⟨_,Tryz.underlying203,trivial⟩,by kernel_rfl⟩

theorem aCe:∀ (q:Addr) (w:World),(Instr.fieldAt 132 (.pointer (some q)) 0).run Tryz.prog w=.ok (.pointer (some (q.add 0))) w:=fun _ _=>by kernel_rfl

theorem aMi:En Tryz.prog 105:=En.of Tryz.func105 (by kernel_rfl) (by kernel_rfl)

theorem aCy:∀ (q:Addr) (w:World),(Instr.fieldAt 132 (.pointer (some q)) 1).run Tryz.prog w=.ok (.pointer (some (q.add 1))) w:=fun _ _=>by kernel_rfl

theorem aMr:∀ (q:Addr) (w:World),(Instr.fieldAt 132 (.pointer (some q)) 2).run Tryz.prog w=.ok (.pointer (some (q.add 2))) w:=fun _ _=>by kernel_rfl

theorem aCi:∀ (q:Addr) (w:World),(Instr.fieldAt 132 (.pointer (some q)) 3).run Tryz.prog w=.ok (.pointer (some (q.add 3))) w:=fun _ _=>by kernel_rfl

theorem aDt:∀ (q:Addr) (w:World),(Instr.fieldAt 132 (.pointer (some q)) 4).run Tryz.prog w=.ok (.pointer (some (q.add 4))) w:=fun _ _=>by kernel_rfl

theorem aP1:En Tryz.prog 107:=En.of Tryz.func107 (by kernel_rfl) (by kernel_rfl)

theorem aQv:En Tryz.prog 124:=En.of Tryz.func124 (by kernel_rfl) (by kernel_rfl)

theorem aQi:En Tryz.prog 134:=En.of Tryz.func134 (by kernel_rfl) (by kernel_rfl)

theorem aQz:En Tryz.prog 123:=En.of Tryz.func123 (by kernel_rfl) (by kernel_rfl)

theorem aQh:En Tryz.prog 106:=En.of Tryz.func106 (by kernel_rfl) (by kernel_rfl)

theorem aNx:En Tryz.prog 77:=En.of Tryz.func77 (by kernel_rfl) (by kernel_rfl)

theorem aQr:cR Tryz.prog 130=some ((aY [i6 0,.slice none 0 0] 169 aD (fun _=>0) (aY [] 169 aG (fun _=>(⟨0,false⟩:aK)) [])),[(0,2),(2,169),(171,338)]):=by kernel_rfl

theorem oP:∀ (q:Addr) (w:World),(Instr.fieldAt 130 (.pointer (some q)) 1).run Tryz.prog w=.ok (.pointer (some (q.add 2))) w:=fun _ _=>by kernel_rfl

theorem uH:(Tryz.prog.info? 122).map (·.size)=some 13:=by kernel_rfl

theorem lI:ScT Tryz.prog 119:=⟨⟨_,Tryz.underlying119,trivial⟩,by kernel_rfl⟩

theorem aMg:∀ (q:Addr) (w:World),(Instr.fieldAt 130 (.pointer (some q)) 2).run Tryz.prog w=.ok (.pointer (some (q.add 171))) w:=fun _ _=>by kernel_rfl

theorem aP0:(Tryz.prog.info? 127).map (·.size)=some 26:=by kernel_rfl

theorem aPj:(Tryz.prog.info? 228).map (·.zero)=some (some (.pointer none)):=by kernel_rfl

theorem aQf:(Tryz.prog.info? 229).map (·.zero)=some (some (.pointer none)):=by kernel_rfl

theorem aPr:(Tryz.prog.info? 228).map (·.size)=some 1:=by kernel_rfl

theorem aP9:(Tryz.prog.info? 229).map (·.size)=some 1:=by kernel_rfl

theorem rI:∀ (q:Addr) (w:World),(Instr.fieldAt 130 (.pointer (some q)) 0).run Tryz.prog w=.ok (.pointer (some (q.add 0))) w:=fun _ _=>by kernel_rfl

theorem aF6:ScT Tryz.prog 228:=⟨⟨_,Tryz.underlying228,trivial⟩,by kernel_rfl⟩

theorem aNf:En Tryz.prog 126:=En.of Tryz.func126 (by kernel_rfl) (by kernel_rfl)

theorem aK0:cR Tryz.prog 126=some ([i6 0,.bool false],[(0,1),(1,1)]):=by kernel_rfl

theorem aPt:SlT Tryz.prog 223 126 2 16 (.agg #[i6 0,.bool false]):=SlT.of Tryz.underlying223 (by kernel_rfl) (by decide)

theorem aAr:(Tryz.prog.info? 126).map (·.size)=some 2:=by kernel_rfl

theorem sV:oX Tryz.prog 126 2:=⟨⟨_,Tryz.underlying126,trivial⟩,by kernel_rfl⟩

theorem aIn:(Tryz.prog.info? 126).map (·.zero)=some (some (.agg #[i6 0,.bool false])):=by kernel_rfl

theorem aCc:∀ (q:Addr) (w:World),(Instr.fieldAt 126 (.pointer (some q)) 1).run Tryz.prog w=.ok (.pointer (some (q.add 1))) w:=fun _ _=>by kernel_rfl

theorem aQl:(Tryz.prog.info? 226).map (·.zero)=some (some (.agg #[.nilFunc])):=by kernel_rfl

theorem aMu:cR Tryz.prog 226=some ([.nilFunc],[(0,1)]):=by kernel_rfl

theorem aMe:(Tryz.prog.info? 226).map (·.size)=some 1:=by kernel_rfl

theorem aL3:oX Tryz.prog 226 1:=⟨⟨_,Tryz.underlying226,trivial⟩,by kernel_rfl⟩

theorem aMw:En Tryz.prog 138:=En.of Tryz.func138 (by kernel_rfl) (by kernel_rfl)

theorem aMy:ScT Tryz.prog 224:=⟨⟨_,Tryz.underlying224,trivial⟩,by kernel_rfl⟩

theorem aEb:∀ (q:Addr) (w:World),(Instr.fieldAt 126 (.pointer (some q)) 0).run Tryz.prog w=.ok (.pointer (some (q.add 0))) w:=fun _ _=>by kernel_rfl

theorem aLi:En Tryz.prog 140:=En.of Tryz.func140 (by kernel_rfl) (by kernel_rfl)

theorem aM1:En Tryz.prog 141:=En.of Tryz.func141 (by kernel_rfl) (by kernel_rfl)

theorem aL9:En Tryz.prog 137:=En.of Tryz.func137 (by kernel_rfl) (by kernel_rfl)

theorem aPu:(Tryz.prog.info? 132).map (·.zero)=some (some (.agg #[i6 0,i6 0,i6 0,i6 0,i6 0])):=by kernel_rfl

theorem aKr:En Tryz.prog 127:=En.of Tryz.func127 (by kernel_rfl) (by kernel_rfl)

theorem aPx:En Tryz.prog 139:=En.of Tryz.func139 (by kernel_rfl) (by kernel_rfl)

theorem aGp:En Tryz.prog 128:=En.of Tryz.func128 (by kernel_rfl) (by kernel_rfl)

theorem aPs:ScT Tryz.prog 229:=⟨⟨_,Tryz.underlying229,trivial⟩,by kernel_rfl⟩

theorem aLn:En Tryz.prog 136:=En.of Tryz.func136 (by kernel_rfl) (by kernel_rfl)

theorem aPe:En Tryz.prog 135:=En.of Tryz.func135 (by kernel_rfl) (by kernel_rfl)

theorem aQg:En Tryz.prog 125:=En.of Tryz.func125 (by kernel_rfl) (by kernel_rfl)

theorem aLf:En Tryz.prog 108:=En.of Tryz.func108 (by kernel_rfl) (by kernel_rfl)

theorem aQj:En Tryz.prog 109:=En.of Tryz.func109 (by kernel_rfl) (by kernel_rfl)

theorem en_79:En Tryz.prog 79:=En.of Tryz.func79 (by kernel_rfl) (by kernel_rfl)

theorem aN0:En Tryz.prog 49:=En.of Tryz.func49 (by kernel_rfl) (by kernel_rfl)

theorem en_27:En Tryz.prog 27:=En.of Tryz.func27 (by kernel_rfl) (by kernel_rfl)

theorem zr_99:(Tryz.prog.info? 99).map (·.zero)=some (some (.agg #[i6 0,i6 0,.slice none 0 0])):=by kernel_rfl

theorem aL0:(Tryz.prog.info? 146).map (·.zero)=some (some (.agg #[.bool false,i6 0,i6 0])):=by kernel_rfl

theorem en_87:En Tryz.prog 87:=En.of Tryz.func87 (by kernel_rfl) (by kernel_rfl)

theorem aIs:cR Tryz.prog 146=some ([.bool false,i6 0,i6 0],[(0,1),(1,2)]):=by kernel_rfl

theorem aF9:(Tryz.prog.info? 146).map (·.size)=some 3:=by kernel_rfl

theorem aEg:oX Tryz.prog 146 3:=⟨⟨_,Tryz.underlying146,trivial⟩,by kernel_rfl⟩

theorem aOi:En Tryz.prog 56:=En.of Tryz.func56 (by kernel_rfl) (by kernel_rfl)

theorem sl_97:SlT Tryz.prog 97 146 3 24 (.agg #[.bool false,i6 0,i6 0]):=SlT.of Tryz.underlying97 (by kernel_rfl) (by decide)

theorem bt_99:cR Tryz.prog 99=some ([i6 0,i6 0,.slice none 0 0],[(0,1),(1,1),(2,1)]):=by kernel_rfl

theorem sz_99:(Tryz.prog.info? 99).map (·.size)=some 3:=by kernel_rfl

theorem aFn:oX Tryz.prog 99 3:=⟨⟨_,Tryz.underlying99,trivial⟩,by kernel_rfl⟩

theorem en_30:En Tryz.prog 30:=En.of Tryz.func30 (by kernel_rfl) (by kernel_rfl)

theorem vW:∀ (q:Addr) (w:World),(Instr.fieldAt 99 (.pointer (some q)) 2).run Tryz.prog w=.ok (.pointer (some (q.add 2))) w:=fun _ _=>by kernel_rfl

theorem aCp:ScT Tryz.prog 97:=⟨⟨_,Tryz.underlying97,trivial⟩,by kernel_rfl⟩

theorem aIy:En Tryz.prog 51:=En.of Tryz.func51 (by kernel_rfl) (by kernel_rfl)

theorem aGf:∀ (q:Addr) (w:World),(Instr.fieldAt 99 (.pointer (some q)) 0).run Tryz.prog w=.ok (.pointer (some (q.add 0))) w:=fun _ _=>by kernel_rfl

theorem aLo:En Tryz.prog 80:=En.of Tryz.func80 (by kernel_rfl) (by kernel_rfl)

theorem aGb:∀ (q:Addr) (w:World),(Instr.fieldAt 99 (.pointer (some q)) 1).run Tryz.prog w=.ok (.pointer (some (q.add 1))) w:=fun _ _=>by kernel_rfl

theorem aPi:ScT Tryz.prog 178:=⟨⟨_,Tryz.underlying178,trivial⟩,by kernel_rfl⟩

theorem aG0:∀ (q:Addr) (w:World),(Instr.fieldAt 146 (.pointer (some q)) 0).run Tryz.prog w=.ok (.pointer (some (q.add 0))) w:=fun _ _=>by kernel_rfl

theorem aG9:∀ (q:Addr) (w:World),(Instr.fieldAt 146 (.pointer (some q)) 1).run Tryz.prog w=.ok (.pointer (some (q.add 1))) w:=fun _ _=>by kernel_rfl

theorem en_83:En Tryz.prog 83:=En.of Tryz.func83 (by kernel_rfl) (by kernel_rfl)

theorem en_82:En Tryz.prog 82:=En.of Tryz.func82 (by kernel_rfl) (by kernel_rfl)

theorem aQx:En Tryz.prog 111:=En.of Tryz.func111 (by kernel_rfl) (by kernel_rfl)

theorem aQa:En Tryz.prog 129:=En.of Tryz.func129 (by kernel_rfl) (by kernel_rfl)

theorem aQb:En Tryz.prog 110:=En.of Tryz.func110 (by kernel_rfl) (by kernel_rfl)

theorem en_81:En Tryz.prog 81:=En.of Tryz.func81 (by kernel_rfl) (by kernel_rfl)

theorem aOr:En Tryz.prog 50:=En.of Tryz.func50 (by kernel_rfl) (by kernel_rfl)

theorem aPp:cR Tryz.prog 138=some ([i6 0,i6 0,.slice none 0 0,.slice none 0 0],[(0,3),(3,1)]):=by kernel_rfl

theorem aQp:(Tryz.prog.info? 134).map (·.zero)=some (some (.pointer none)):=by kernel_rfl

theorem aQy:(Tryz.prog.info? 134).map (·.size)=some 1:=by kernel_rfl

theorem nE:ScT Tryz.prog 134:=⟨⟨_,Tryz.underlying134,trivial⟩,by kernel_rfl⟩

theorem pN:∀ (q:Addr) (w:World),(Instr.fieldAt 138 (.pointer (some q)) 1).run Tryz.prog w=.ok (.pointer (some (q.add 3))) w:=fun _ _=>by kernel_rfl

theorem aO7:En Tryz.prog 112:=En.of Tryz.func112 (by kernel_rfl) (by kernel_rfl)

theorem aPw:(Tryz.prog.info? 206).map (·.zero)=some (some (.nilFunc)):=by kernel_rfl

theorem aPo:(Tryz.prog.info? 206).map (·.size)=some 1:=by kernel_rfl

theorem aLr:En Tryz.prog 114:=En.of Tryz.func114 (by kernel_rfl) (by kernel_rfl)

theorem sS:∀ (q:Addr) (w:World),(Instr.fieldAt 138 (.pointer (some q)) 0).run Tryz.prog w=.ok (.pointer (some (q.add 0))) w:=fun _ _=>by kernel_rfl

theorem aNg:ScT Tryz.prog 206:=⟨⟨_,Tryz.underlying206,trivial⟩,by kernel_rfl⟩

theorem aLa:En Tryz.prog 113:=En.of Tryz.func113 (by kernel_rfl) (by kernel_rfl)

theorem aQn:En Tryz.prog 116:=En.of Tryz.func116 (by kernel_rfl) (by kernel_rfl)

theorem aPf:En Tryz.prog 131:=En.of Tryz.func131 (by kernel_rfl) (by kernel_rfl)

theorem aQo:En Tryz.prog 115:=En.of Tryz.func115 (by kernel_rfl) (by kernel_rfl)

theorem aKq:En Tryz.prog 130:=En.of Tryz.func130 (by kernel_rfl) (by kernel_rfl)

theorem aNv:En Tryz.prog 84:=En.of Tryz.func84 (by kernel_rfl) (by kernel_rfl)

theorem aOh:En Tryz.prog 52:=En.of Tryz.func52 (by kernel_rfl) (by kernel_rfl)

theorem aNa:(Tryz.prog.info? 141).map (·.zero)=some (some (.agg #[.nilFunc,.nilFunc])):=by kernel_rfl

theorem aK7:cR Tryz.prog 140=some ([.nilFunc],[(0,1)]):=by kernel_rfl

theorem aMz:(Tryz.prog.info? 141).map (·.size)=some 2:=by kernel_rfl

theorem aQm:oX Tryz.prog 141 2:=⟨⟨_,Tryz.underlying141,trivial⟩,by kernel_rfl⟩

theorem en_53:En Tryz.prog 53:=En.of Tryz.func53 (by kernel_rfl) (by kernel_rfl)

theorem aKx:(Tryz.prog.info? 140).map (·.size)=some 1:=by kernel_rfl

theorem aMt:oX Tryz.prog 140 1:=⟨⟨_,Tryz.underlying140,trivial⟩,by kernel_rfl⟩

theorem aGt:∀ (q:Addr) (w:World),(Instr.fieldAt 140 (.pointer (some q)) 0).run Tryz.prog w=.ok (.pointer (some (q.add 0))) w:=fun _ _=>by kernel_rfl

theorem en_85:En Tryz.prog 85:=En.of Tryz.func85 (by kernel_rfl) (by kernel_rfl)

theorem aO3:En Tryz.prog 55:=En.of Tryz.func55 (by kernel_rfl) (by kernel_rfl)

theorem aO1:En Tryz.prog 54:=En.of Tryz.func54 (by kernel_rfl) (by kernel_rfl)

theorem en_86:En Tryz.prog 86:=En.of Tryz.func86 (by kernel_rfl) (by kernel_rfl)

theorem en_29:En Tryz.prog 29:=En.of Tryz.func29 (by kernel_rfl) (by kernel_rfl)

theorem aQq:(Tryz.prog.info? 104).map (·.zero)=some (some (.agg #[i6 0,.slice none 0 0])):=by kernel_rfl

theorem aIq:cR Tryz.prog 151=some ([i6 0,i6 0,i6 0],[(0,1),(1,1),(2,1)]):=by kernel_rfl

theorem aPk:SlT Tryz.prog 102 151 3 24 (.agg #[i6 0,i6 0,i6 0]):=SlT.of Tryz.underlying102 (by kernel_rfl) (by decide)

theorem aQe:cR Tryz.prog 104=some ([i6 0,.slice none 0 0],[(0,1),(1,1)]):=by kernel_rfl

theorem aPh:(Tryz.prog.info? 104).map (·.size)=some 2:=by kernel_rfl

theorem aFw:oX Tryz.prog 104 2:=⟨⟨_,Tryz.underlying104,trivial⟩,by kernel_rfl⟩

theorem en_32:En Tryz.prog 32:=En.of Tryz.func32 (by kernel_rfl) (by kernel_rfl)

theorem aDd:∀ (q:Addr) (w:World),(Instr.fieldAt 104 (.pointer (some q)) 0).run Tryz.prog w=.ok (.pointer (some (q.add 0))) w:=fun _ _=>by kernel_rfl

theorem aEf:∀ (q:Addr) (w:World),(Instr.fieldAt 104 (.pointer (some q)) 1).run Tryz.prog w=.ok (.pointer (some (q.add 1))) w:=fun _ _=>by kernel_rfl

theorem aH2:ScT Tryz.prog 102:=⟨⟨_,Tryz.underlying102,trivial⟩,by kernel_rfl⟩

theorem aGi:(Tryz.prog.info? 151).map (·.size)=some 3:=by kernel_rfl

theorem aGe:oX Tryz.prog 151 3:=⟨⟨_,Tryz.underlying151,trivial⟩,by kernel_rfl⟩

theorem aQw:ScT Tryz.prog 182:=⟨⟨_,Tryz.underlying182,trivial⟩,by kernel_rfl⟩

theorem aHo:∀ (q:Addr) (w:World),(Instr.fieldAt 151 (.pointer (some q)) 0).run Tryz.prog w=.ok (.pointer (some (q.add 0))) w:=fun _ _=>by kernel_rfl

theorem aHh:∀ (q:Addr) (w:World),(Instr.fieldAt 151 (.pointer (some q)) 1).run Tryz.prog w=.ok (.pointer (some (q.add 1))) w:=fun _ _=>by kernel_rfl

theorem aHr:∀ (q:Addr) (w:World),(Instr.fieldAt 151 (.pointer (some q)) 2).run Tryz.prog w=.ok (.pointer (some (q.add 2))) w:=fun _ _=>by kernel_rfl

theorem en_89:En Tryz.prog 89:=En.of Tryz.func89 (by kernel_rfl) (by kernel_rfl)

theorem aQs:En Tryz.prog 118:=En.of Tryz.func118 (by kernel_rfl) (by kernel_rfl)

theorem aQu:En Tryz.prog 132:=En.of Tryz.func132 (by kernel_rfl) (by kernel_rfl)

theorem aPm:En Tryz.prog 117:=En.of Tryz.func117 (by kernel_rfl) (by kernel_rfl)

theorem en_88:En Tryz.prog 88:=En.of Tryz.func88 (by kernel_rfl) (by kernel_rfl)

theorem en_57:En Tryz.prog 57:=En.of Tryz.func57 (by kernel_rfl) (by kernel_rfl)

theorem aP2:cR Tryz.prog 186=some ((aY [i6 0,.slice none 0 0] 12 aD (fun _=>0) []),[(0,2),(2,12)]):=by kernel_rfl

theorem aQt:(Tryz.prog.info? 183).map (·.zero)=some (some (.pointer none)):=by kernel_rfl

theorem aPl:(Tryz.prog.info? 183).map (·.size)=some 1:=by kernel_rfl

theorem aEh:ScT Tryz.prog 183:=⟨⟨_,Tryz.underlying183,trivial⟩,by kernel_rfl⟩

theorem en_90:En Tryz.prog 90:=En.of Tryz.func90 (by kernel_rfl) (by kernel_rfl)

theorem aG4:∀ (q:Addr) (w:World),(Instr.fieldAt 186 (.pointer (some q)) 0).run Tryz.prog w=.ok (.pointer (some (q.add 0))) w:=fun _ _=>by kernel_rfl

theorem aKu:(Tryz.prog.info? 151).map (·.zero)=some (some (.agg #[i6 0,i6 0,i6 0])):=by kernel_rfl

theorem aEd:∀ (q:Addr) (w:World),(Instr.fieldAt 186 (.pointer (some q)) 1).run Tryz.prog w=.ok (.pointer (some (q.add 2))) w:=fun _ _=>by kernel_rfl

theorem en_91:En Tryz.prog 91:=En.of Tryz.func91 (by kernel_rfl) (by kernel_rfl)

theorem aO6:En Tryz.prog 119:=En.of Tryz.func119 (by kernel_rfl) (by kernel_rfl)

theorem en_58:En Tryz.prog 58:=En.of Tryz.func58 (by kernel_rfl) (by kernel_rfl)

theorem en_31:En Tryz.prog 31:=En.of Tryz.func31 (by kernel_rfl) (by kernel_rfl)

theorem aOk:Tryz.prog.eqGuardType Tryz.prog.depth 29=false:=by kernel_rfl

theorem aLg (x0:Int) (x1:Int) (y0:Int) (y1:Int) (w:World):(Op.equalIn 10000 29 (.agg #[i6 x0,i6 x1]) (.agg #[i6 y0,i6 y1])).run Tryz.prog w=.ok (x0 == y0 && x1 == y1) w:=by
 rw [run_equalIn_agg w 9999 29 _ _ (by kernel_rfl) (by kernel_rfl)]
 simp [Op.eqFields,part,go_sem]
 repeat' split
 all_goals simp_all

theorem en_33:En Tryz.prog 33:=En.of Tryz.func33 (by kernel_rfl) (by kernel_rfl)

theorem en_15:En Tryz.prog 15:=En.of Tryz.func15 (by kernel_rfl) (by kernel_rfl)

def aAh (N:Nat) (B:List Int):Option (Int × Int) :=
 some (0,0)
theorem aC9 {N:Nat} {G:bA} {Lf:List Ent} {w:World} (H:List Int) {D:Option Addr} {B:Nat} (M:Rd G 1 D B (H.map sI)) (hc:Ctx G (Lf) w) {I:Int × Int} (hF:aAh N H=some I):Calls Tryz.prog 4 #[.slice D H.length B] w (fun e w=>∃ (J:Nat),e=.returned (pq J)∧Ctx G (.box J [.slice D H.length B,i6 I.1,i6 I.2] 66::Lf) w):=by
 unfold aAh at hF
 refine cC Tryz.func4 rfl Tryz.ntmps4 rfl fun a hf=>zS fun K h=>sp 1 hf rfl fun a hf=>zT h ?_
 refine zS fun K h=>sp 1 hf rfl fun a hf=>zP hf rfl (bJ (cells:=[.slice D H.length B,i6 0,i6 0]) bt_66 rfl rfl) fun a hf=>zB hf hc rfl fun O a w hf hc=>sp 1 hf rfl fun a hf=>zT h ?_
 refine wp_ret ?_
 obtain rfl:=sj hF
 exact zO1 Tryz.results4 hf rfl ⟨O,rfl,hc⟩

def gF (N:Nat) (s_:aV) (n:Int) (B:Int) (D:Int):Option (Int × Int × Int) :=
 Option.bind (nz n) fun H=>
 some (D.tmod n,W (s_.used + 1),(W ((W ((W (5 * s_.mix)) + B)) + 1)).tmod 251)
def gH (N:Nat) (s_:aV) (n:Int) (B:Int):Option (Int × Int × Int) :=
 cond (decide (256 < n))
 (gF N s_ n B (W ((W (256 * B)) + ((W ((W ((W (5 * s_.mix)) + B)) + 1)).tmod 251))))
 (gF N s_ n B B)
def bW (N:Nat) (s_:aV) (n:Int):Option (Int × Int × Int) :=
 cond ((decide (n < 2)) || (((s_.bytes.length:Nat):Int) == 0))
 (some (0,s_.used,s_.mix))
 (Option.bind (nz ((s_.bytes.length:Nat):Int)) fun un=>
 Option.bind (cM s_.bytes (s_.used.tmod ((s_.bytes.length:Nat):Int))) fun B=>
 cond (decide (((s_.bytes.length:Nat):Int)≤s_.used))
 (Option.bind (nz ((s_.bytes.length:Nat):Int)) fun D=>
 gH N s_ n (W ((W (B)) + (W ((W (11 * s_.mix)) + (W (s_.used.tdiv ((s_.bytes.length:Nat):Int))))))))
 (gH N s_ n (W (B))))
theorem bS {N:Nat} {G:bA} {Lf:List Ent} {w:World} (s_:aV) (n:Int) {b_:Nat} {B:Option Addr} {D:Nat} (J:Rd G 1 B D (s_.bytes.map sI)) (hc:Ctx G (.box b_ [.slice B s_.bytes.length D,i6 s_.used,i6 s_.mix] 66::Lf) w) {I:Int × Int × Int} (hF:bW N s_ n=some I):Calls Tryz.prog 16 #[pq b_,i6 n] w (fun e w=>e=.returned (i6 I.1)∧Ctx G (.box b_ [.slice B s_.bytes.length D,i6 I.2.1,i6 I.2.2] 66::Lf) w):=by
 unfold bW at hF
 refine cC Tryz.func16 rfl Tryz.ntmps16 rfl fun a hf=>zS fun K h=>sp 1 hf rfl fun a hf=>zT h ?_
 refine wp_seq_k fun K2 h2=>zS fun K h=>sp 3 hf rfl fun a hf=>fL 7 (fun a=>Has 92 a [(0,pq b_),(1,i6 n),(6,i6 n),(7,.bool (decide (n < 2))),(8,.bool (decide (n < 2))),(15,.bool ((decide (n < 2)) || (((s_.bytes.length:Nat):Int) == 0)))]) hc ?_ ?_
 ·cases hb:(decide (n < 2))
  ·rw [hb] at hf
   refine sp 2 hf rfl fun a hf=>zP hf rfl (pFA aAj rfl) fun a hf=>zL hf hc aHc m0 rfl fun a w hf hc=>zP hf rfl (cP Tryz.underlying22 rfl) fun a hf=>sp 2 hf rfl fun a hf=>aQ ⟨hf.kp rfl,hc⟩
  ·rw [hb] at hf
   refine stS hf rfl rfl rfl fun a hf=>stS hf rfl rfl rfl fun a hf=>stS hf rfl rfl rfl fun a hf=>stS hf rfl rfl rfl fun a hf=>stS hf rfl rfl rfl fun a hf=>stS hf rfl rfl rfl fun a hf=>sp 1 hf rfl fun a hf=>aQ ⟨hf.kp rfl,hc⟩
 intro a w ⟨hf,hc⟩
 refine zT h ?_
 refine zI hf rfl hF ?_ ?_ <;> clear hF <;> intro hF
 ·refine zS fun K h=>sp 1 hf rfl fun a hf=>zT h ?_
  refine wp_ret ?_
  refine aU ?_
  obtain rfl:=sj hF
  exact zO1 Tryz.results16 hf rfl ⟨rfl,hc⟩
 ·refine wp_skip ?_
  refine h2 _ _ ?_
  refine wp_seq_k fun K5 h5=>?_
  obtain ⟨un,Y,hF⟩:=aC hF
  obtain ⟨U,X,hF⟩:=aC hF
  obtain ⟨g,o,qa,qp⟩:=J.atm X
  refine cQ hc aT (by kernel_rfl) ?_
  refine qE hf rfl rfl rfl (Pu.ev (pM rfl)) fun a hf=>qE hf rfl rfl rfl (Pu.ev (pNC rfl)) fun a hf=>qE hf rfl rfl rfl (Pu.ev (pFA aAj rfl)) fun a hf=>qE hf rfl rfl rfl (cV aHc rfl (bQ m0 rfl)) fun a hf=>qE hf rfl rfl rfl (Pu.ev (pM rfl)) fun a hf=>qE hf rfl rfl rfl (Pu.ev (pNC rfl)) fun a hf=>qE hf rfl rfl rfl (Pu.ev (pFA aAg rfl)) fun a hf=>qE hf rfl rfl rfl (cV aX rfl (bQ m0 rfl)) fun a hf=>qE hf rfl rfl rfl (Pu.ev (pM rfl)) fun a hf=>qE hf rfl rfl rfl (Pu.ev (pNC rfl)) fun a hf=>qE hf rfl rfl rfl (Pu.ev (pFA aAj rfl)) fun a hf=>qE hf rfl rfl rfl (cV aHc rfl (bQ m0 rfl)) fun a hf=>qE hf rfl rfl rfl (Pu.ev (cP Tryz.underlying22 rfl)) fun a hf=>?_
  refine qE hf rfl rfl rfl (Pu.ev (aKp rfl rfl (tV Y))) fun a hf=>qE hf rfl rfl rfl (Pu.ev (pIA Tryz.underlying22 sz_5 rfl rfl qa)) fun a hf=>qE hf rfl rfl rfl (cV sc_5 rfl (kX (j:=0) qp rfl)) fun a hf=>qE hf rfl rfl rfl (Pu.ev (pCv Tryz.underlying5 Tryz.underlying3 rfl)) fun a hf=>qE hf rfl rfl rfl (Pu.ev (pA rfl)) fun a hf=>?_
  intro w hc
  refine h5 _ _ ?_
  refine wp_seq_k fun K6 h6=>?_
  have S:∀ (H:Int) a w,Has 92 a [(0,pq b_),(1,i6 n),(5,i6 H)]→Ctx G (.box b_ [.slice B s_.bytes.length D,i6 s_.used,i6 s_.mix] 66::Lf) w→gH N s_ n H=some I→K6 a w:=by
   repeat (clear hF)
   repeat (clear hc)
   repeat (clear hf)
   intro H a w hf hc hF
   unfold gH at hF
   refine h6 _ _ ?_
   refine zS fun K h=>sp 3 hf rfl fun a hf=>zP hf rfl (pFA aB0 rfl) fun a hf=>zL hf hc aX m0 rfl fun a w hf hc=>sp 4 hf rfl fun a hf=>zP hf rfl (aKp rfl rfl (by decide)) fun a hf=>sp 1 hf rfl fun a hf=>zP hf rfl (pFA aB0 rfl) fun a hf=>zW hf hc fD u0 rfl fun w hc=>zT h ?_
   refine zS fun K h=>sp 2 hf rfl fun a hf=>zP hf rfl (pFA aAg rfl) fun a hf=>zL hf hc aX m0 rfl fun a w hf hc=>sp 2 hf rfl fun a hf=>zP hf rfl (pFA aAg rfl) fun a hf=>zW hf hc fD u0 rfl fun w hc=>zT h ?_
   refine wp_seq_k fun K9 h9=>?_
   have V:∀ (M:Int) a w,Has 92 a [(1,i6 n),(5,i6 M)]→Ctx G (.box b_ [.slice B s_.bytes.length D,i6 (W (s_.used + 1)),i6 ((W ((W ((W (5 * s_.mix)) + H)) + 1)).tmod 251)] 66::Lf) w→gF N s_ n H M=some I→K9 a w:=by
    repeat (clear hF)
    repeat (clear hc)
    repeat (clear hf)
    intro M a w hf hc hF
    unfold gF at hF
    refine h9 _ _ ?_
    refine zS fun K h=>sp 2 hf rfl fun a hf=>?_
    obtain ⟨d,O,hF⟩:=aC hF
    refine zP hf rfl (aKp rfl rfl (tV O)) fun a hf=>sp 1 hf rfl fun a hf=>zT h ?_
    refine wp_ret ?_
    obtain rfl:=sj hF
    exact zO1 Tryz.results16 hf rfl ⟨rfl,hc⟩
   refine zS fun K h=>sp 2 hf rfl fun a hf=>zT h ?_
   refine zI hf rfl hF ?_ ?_ <;> clear hF <;> intro hF
   ·refine cX ?_
    refine sp 4 hf rfl fun a hf=>zP hf rfl (pFA aB0 rfl) fun a hf=>zL hf hc aX m0 rfl fun a w hf hc=>sp 2 hf rfl fun a hf=>aQ ?_
    exact V (W ((W (256 * H)) + ((W ((W ((W (5 * s_.mix)) + H)) + 1)).tmod 251))) _ _  (hf.kp rfl) hc hF
   ·refine wp_skip ?_
    exact V H _ _  (hf.kp rfl) hc hF
  refine wp_seq_k fun K12 Z=>cQ hc aT (by kernel_rfl) ?_
  refine qE hf rfl rfl rfl (Pu.ev (pM rfl)) fun a hf=>qE hf rfl rfl rfl (Pu.ev (pNC rfl)) fun a hf=>qE hf rfl rfl rfl (Pu.ev (pFA aAg rfl)) fun a hf=>qE hf rfl rfl rfl (cV aX rfl (bQ m0 rfl)) fun a hf=>qE hf rfl rfl rfl (Pu.ev (pM rfl)) fun a hf=>qE hf rfl rfl rfl (Pu.ev (pNC rfl)) fun a hf=>qE hf rfl rfl rfl (Pu.ev (pFA aAj rfl)) fun a hf=>qE hf rfl rfl rfl (cV aHc rfl (bQ m0 rfl)) fun a hf=>qE hf rfl rfl rfl (Pu.ev (cP Tryz.underlying22 rfl)) fun a hf=>qE hf rfl rfl rfl (Pu.ev (pGe rfl rfl)) fun a hf=>?_
  intro w hc
  refine Z _ _ ?_
  refine zI hf rfl hF ?_ ?_ <;> clear hF <;> intro hF
  ·obtain ⟨b,R,hF⟩:=aC hF
   refine cQ hc aT (by kernel_rfl) ?_
   refine qE hf rfl rfl rfl (Pu.ev (pM rfl)) fun a hf=>qE hf rfl rfl rfl (Pu.ev (pM rfl)) fun a hf=>qE hf rfl rfl rfl (Pu.ev (pNC rfl)) fun a hf=>qE hf rfl rfl rfl (Pu.ev (pFA aB0 rfl)) fun a hf=>qE hf rfl rfl rfl (cV aX rfl (bQ m0 rfl)) fun a hf=>qE hf rfl rfl rfl (Pu.ev (pMul rfl rfl)) fun a hf=>qE hf rfl rfl rfl (Pu.ev (pM rfl)) fun a hf=>qE hf rfl rfl rfl (Pu.ev (pNC rfl)) fun a hf=>qE hf rfl rfl rfl (Pu.ev (pFA aAg rfl)) fun a hf=>qE hf rfl rfl rfl (cV aX rfl (bQ m0 rfl)) fun a hf=>qE hf rfl rfl rfl (Pu.ev (pM rfl)) fun a hf=>qE hf rfl rfl rfl (Pu.ev (pNC rfl)) fun a hf=>qE hf rfl rfl rfl (Pu.ev (pFA aAj rfl)) fun a hf=>?_
   refine qE hf rfl rfl rfl (cV aHc rfl (bQ m0 rfl)) fun a hf=>qE hf rfl rfl rfl (Pu.ev (cP Tryz.underlying22 rfl)) fun a hf=>qE hf rfl rfl rfl (Pu.ev (aJ9 rfl rfl (tV R))) fun a hf=>qE hf rfl rfl rfl (Pu.ev (aLt rfl rfl)) fun a hf=>qE hf rfl rfl rfl (Pu.ev (aLt rfl rfl)) fun a hf=>qE hf rfl rfl rfl (Pu.ev (pA rfl)) fun a hf=>?_
   intro w hc
   exact S (W ((W (U)) + (W ((W (11 * s_.mix)) + (W (s_.used.tdiv ((s_.bytes.length:Nat):Int))))))) _ _  (hf.kp rfl) hc hF
  ·refine wp_skip ?_
   exact S (W (U)) _ _  (hf.kp rfl) hc hF

def dE (N:Nat) (s_:aV) (lo:Int) (B:Int):Option (Int × Int × Int) :=
 Option.bind (bW N s_ (W ((W (B - lo)) + 1))) fun r=>
 some (W (lo + r.1),r.2.1,r.2.2)
theorem eJ {N:Nat} {G:bA} {Lf:List Ent} {w:World} (s_:aV) (lo:Int) (J:Int) {b_:Nat} {B:Option Addr} {D:Nat} (H:Rd G 1 B D (s_.bytes.map sI)) (hc:Ctx G (.box b_ [.slice B s_.bytes.length D,i6 s_.used,i6 s_.mix] 66::Lf) w) {I:Int × Int × Int} (hF:dE N s_ lo J=some I):Calls Tryz.prog 6 #[pq b_,i6 lo,i6 J] w (fun e w=>e=.returned (i6 I.1)∧Ctx G (.box b_ [.slice B s_.bytes.length D,i6 I.2.1,i6 I.2.2] 66::Lf) w):=by
 unfold dE at hF
 refine cC Tryz.func6 rfl Tryz.ntmps6 rfl fun a hf=>zS fun K h=>sp 1 hf rfl fun a hf=>zT h ?_
 refine zS fun K h=>sp 6 hf rfl fun a hf=>?_
 obtain ⟨r,hr,hF⟩:=aC hF
 refine zC hf pR rfl (bS s_ (W ((W (J - lo)) + 1)) H (hc.pick k0) hr) ?_
 rintro _ w ⟨rfl,hc⟩
 refine ⟨_,rfl,fun a hf=>?_⟩
 refine sp 2 hf rfl fun a hf=>zT h ?_
 refine wp_ret ?_
 obtain rfl:=sj hF
 exact zO1 Tryz.results6 hf rfl ⟨rfl,hc⟩

def oW (N:Nat) (lo:Int) (B:Int):Option (aF) :=
 some (⟨lo,B⟩:aF)
theorem uL {N:Nat} {G:bA} {Lf:List Ent} {w:World} (lo:Int) (B:Int)   (hc:Ctx G (Lf) w) {D:aF} (hF:oW N lo B=some D):Calls Tryz.prog 17 #[i6 lo,i6 B] w (fun e w=>e=.returned (.agg #[i6 D.Lo,i6 D.Hi])∧Ctx G (Lf) w):=by
 unfold oW at hF
 refine cC Tryz.func17 rfl Tryz.ntmps17 rfl fun a hf=>zS fun K h=>zA hf hc rE rfl fun H a w hf hc=>zT h ?_
 refine zS fun K h=>sp 2 hf rfl fun a hf=>zP hf rfl (bJ (cells:=[i6 lo,i6 B]) oO rfl rfl) fun a hf=>zW hf hc fS u0 rfl fun w hc=>zT h ?_
 refine wp_ret ?_
 obtain rfl:=sj hF
 exact nK (by simp) rfl Tryz.results17 hf hc (dX (vs:=[i6 lo,i6 B]) eY rfl rfl (cE (n:=2) m0 rfl)) ⟨rfl,(hc.drop k0)⟩

def kH (N:Nat) (s_:aV) (Z:Int × Int × Int) (l:List aI) (I:List aR) (V:Int) (Y:Int) (U:Int):Option (dA ((List aI) × (List aR) × Int × Int × Int) (bB × aF × (List aI) × (List aR) × Int × Int)) :=
 cond (decide (V < Z.1))
 (Option.bind (bW N (⟨s_.bytes,Y,U⟩:aV) 200) fun D=>
 Option.bind (bW N (⟨s_.bytes,D.2.1,D.2.2⟩:aV) 120) fun B=>
 Option.bind (bW N (⟨s_.bytes,B.2.1,B.2.2⟩:aV) 20) fun R=>
 Option.bind (bW N (⟨s_.bytes,R.2.1,R.2.2⟩:aV) 20) fun O=>
 Option.bind (oW N (max 0 (W (D.1 - R.1))) (W (D.1 + O.1))) fun X=>
 Option.bind (bW N (⟨s_.bytes,O.2.1,O.2.2⟩:aV) 9) fun J=>
 Option.bind (bW N (⟨s_.bytes,J.2.1,J.2.2⟩:aV) 9) fun M=>
 Option.bind (oW N (max 0 (W (B.1 - J.1))) (W (B.1 + M.1))) fun S=>
 Option.bind (bW N (⟨s_.bytes,M.2.1,M.2.2⟩:aV) 9) fun H=>
 Option.bind (nQ ((l++[(⟨X,S,(H.1 == 0)⟩:aI)])).length) fun un=>
 Option.bind (nQ ((I++[(⟨D.1,B.1⟩:aR)])).length) fun b=>
 some (.cont ((l++[(⟨X,S,(H.1 == 0)⟩:aI)]),(I++[(⟨D.1,B.1⟩:aR)]),W (V + 1),H.2.1,H.2.2)))
 (some (.brk (l,I,V,Y,U)))
def lA (N:Nat) (s_:aV) (R:Int × Int × Int) (B:Int) (I:Int) (x:Int) (O:Int) (J:Int) (M:List bL):Option (dA (Int × Int × Int × Int × Int × (List bL)) (bB × aF × (List aI) × (List aR) × Int × Int)) :=
 cond (decide (x < R.1))
 (Option.bind (nQ ((M++[(⟨B,I⟩:bL)])).length) fun S=>
 Option.bind (dE N (⟨s_.bytes,O,J⟩:aV) 1 60) fun H=>
 Option.bind (bW N (⟨s_.bytes,H.2.1,H.2.2⟩:aV) 50) fun D=>
 some (.cont (W (B + H.1),W (I + D.1),W (x + 1),D.2.1,D.2.2,(M++[(⟨B,I⟩:bL)]))))
 (some (.brk (B,I,x,O,J,M)))
def nO (N:Nat) (s_:aV) (most:Int):Option (bB × aF × (List aI) × (List aR) × Int × Int) :=
 Option.bind (bW N s_ 60) fun r=>
 Option.bind (bW N (⟨s_.bytes,r.2.1,r.2.2⟩:aV) 50) fun O=>
 Option.bind (bW N (⟨s_.bytes,O.2.1,O.2.2⟩:aV) 20) fun I=>
 Option.bind (dE N (⟨s_.bytes,I.2.1,I.2.2⟩:aV) 2 6) fun J=>
 Option.bind (bN (fun s6=>lA N s_ J s6.1 s6.2.1 s6.2.2.1 s6.2.2.2.1 s6.2.2.2.2.1 s6.2.2.2.2.2) N (O.1,I.1,0,J.2.1,J.2.2,([]:List bL))) fun x6=>
 exK x6 (fun s6=>Option.bind (dE N (⟨s_.bytes,s6.2.2.2.1,s6.2.2.2.2.1⟩:aV) (-40) 40) fun D=>
 Option.bind (bW N (⟨s_.bytes,D.2.1,D.2.2⟩:aV) 20) fun H=>
 Option.bind (oW N D.1 (W (D.1 + H.1))) fun S=>
 Option.bind (dE N (⟨s_.bytes,H.2.1,H.2.2⟩:aV) 1 most) fun M=>
 Option.bind (bN (fun B=>kH N s_ M B.1 B.2.1 B.2.2.1 B.2.2.2.1 B.2.2.2.2) N (([]:List aI),([]:List aR),0,M.2.1,M.2.2)) fun R=>
 exK R (fun B=>some ((⟨s6.2.2.2.2.2,r.1⟩:bB),S,B.1,B.2.1,B.2.2.2.1,B.2.2.2.2)) some) some
theorem zJ {N:Nat} {G:bA} {Lf:List Ent} {w:World} (s_:aV) (most:Int) {b_:Nat} {H:Option Addr} {D:Nat} (B:Rd G 1 H D (s_.bytes.map sI)) (hc:Ctx G (.box b_ [.slice H s_.bytes.length D,i6 s_.used,i6 s_.mix] 66::Lf) w) {z:bB × aF × (List aI) × (List aR) × Int × Int} (hF:nO N s_ most=some z):Calls Tryz.prog 5 #[pq b_,i6 most] w (fun e w=>∃ (b4:Option Addr) (bz:Nat) (b5:Option Addr) (b0:Nat) (b1:Option Addr) (b3:Nat),e=.returned (.tuple #[.agg #[.slice b4 z.1.Table.length bz,i6 z.1.Credit],.agg #[i6 z.2.1.Lo,i6 z.2.1.Hi],.slice b5 z.2.2.1.length b0,.slice b1 z.2.2.2.1.length b3])∧Ctx G (.row b4 bz (z.1.Table.map bK) 69 2::.row b5 b0 (z.2.2.1.map aZ) 51 5::.row b1 b3 (z.2.2.2.1.map bY) 53 2::.box b_ [.slice H s_.bytes.length D,i6 z.2.2.2.2.1,i6 z.2.2.2.2.2] 66::Lf) w):=by
 unfold nO at hF
 refine cC Tryz.func5 rfl Tryz.ntmps5 rfl fun a hf=>zS fun K h=>zA hf hc aKw rfl fun ac a w hf hc=>zA hf hc rE rfl fun ab a w hf hc=>sp 2 hf rfl fun a hf=>zT h ?_
 refine zS fun K h=>sp 1 hf rfl fun a hf=>?_
 obtain ⟨r,hr,hF⟩:=aC hF
 refine zC hf pR rfl (bS s_ 60 B (hc.pick k2) hr) ?_
 rintro _ w ⟨rfl,hc⟩
 refine ⟨_,rfl,fun a hf=>?_⟩
 refine zP hf rfl (bJ (cells:=[.slice none 0 0,i6 r.1]) bt_27 rfl rfl) fun a hf=>zA hf hc aKw rfl fun ak a w hf hc=>zW hf hc aM4 u0 rfl fun w hc=>zT h ?_
 refine zS fun K h=>sp 1 hf rfl fun a hf=>?_
 obtain ⟨bc,b8,hF⟩:=aC hF
 refine zC hf pR rfl (bS (⟨s_.bytes,r.2.1,r.2.2⟩:aV) 50 B (hc.pick k1) b8) ?_
 rintro _ w ⟨rfl,hc⟩
 refine ⟨_,rfl,fun a hf=>?_⟩
 refine sp 1 hf rfl fun a hf=>?_
 obtain ⟨bj,b7,hF⟩:=aC hF
 refine zC hf pR rfl (bS (⟨s_.bytes,bc.2.1,bc.2.2⟩:aV) 20 B (hc.pick k0) b7) ?_
 rintro _ w ⟨rfl,hc⟩
 refine ⟨_,rfl,fun a hf=>?_⟩
 refine sp 2 hf rfl fun a hf=>zT h ?_
 refine wp_seq_k fun K4 h4=>zS fun K h=>sp 1 hf rfl fun a hf=>?_
 obtain ⟨bg,cc,hF⟩:=aC hF
 refine zC hf aGy rfl (eJ (⟨s_.bytes,bj.2.1,bj.2.2⟩:aV) 2 6 B (hc.pick k0) cc) ?_
 rintro _ w ⟨rfl,hc⟩
 refine ⟨_,rfl,fun a hf=>?_⟩
 refine sp 1 hf rfl fun a hf=>zT h ?_
 refine wp_block ?_
 obtain ⟨x6,da,hF⟩:=aC hF
 let S6:(Int × Int × Int × Int × Int × (List bL))→Act→World→Prop:=(fun (zz:Int × Int × Int × Int × Int × (List bL)) a w=>∃ (V:Option Addr) (U:Nat),Has 102 a [(0,pq b_),(1,i6 most),(4,pq ac),(5,pq ab),(8,pq ak),(9,i6 zz.1),(10,i6 zz.2.1),(24,i6 bg.1),(25,i6 zz.2.2.1)]∧Ctx G (.row V U (zz.2.2.2.2.2.map bK) 69 2::.box b_ [.slice H s_.bytes.length D,i6 zz.2.2.2.1,i6 zz.2.2.2.2.1] 66::.box ak [.slice V zz.2.2.2.2.2.length U,i6 r.1] 27::.box ab [i6 0,i6 0] 29::.box ac [.slice none 0 0,i6 0] 27::Lf) w)
 have c1:∀ (zz:Int × Int × Int × Int × Int × (List bL)) a w,x6=.go zz→S6 zz a w→K4 a w:=by
  rintro ⟨af,av,x,a4,a6,d⟩ a w rfl ⟨V,U,hf,hc⟩
  replace hF:=cJ hF
  refine h4 _ _ ?_
  refine zS fun K h=>sp 1 hf rfl fun a hf=>?_
  obtain ⟨a8,ca,hF⟩:=aC hF
  refine zC hf aGy rfl (eJ (⟨s_.bytes,a4,a6⟩:aV) (-40) 40 B (hc.pick k1) ca) ?_
  rintro _ w ⟨rfl,hc⟩
  refine ⟨_,rfl,fun a hf=>?_⟩
  refine sp 1 hf rfl fun a hf=>zT h ?_
  refine zS fun K h=>sp 3 hf rfl fun a hf=>?_
  obtain ⟨bi,cg,hF⟩:=aC hF
  refine zC hf pR rfl (bS (⟨s_.bytes,a8.2.1,a8.2.2⟩:aV) 20 B (hc.pick k0) cg) ?_
  rintro _ w ⟨rfl,hc⟩
  refine ⟨_,rfl,fun a hf=>?_⟩
  refine sp 1 hf rfl fun a hf=>?_
  obtain ⟨X,cj,hF⟩:=aC hF
  refine zQ (v:=.agg #[i6 X.Lo,i6 X.Hi]) hf hc aLk rfl (fun w hc=>uL a8.1 (W (a8.1 + bi.1)) hc cj) fun a w hf hc=>zA hf hc rE rfl fun aq a w hf hc=>zW hf hc fS u0 rfl fun w hc=>zT h ?_
  refine zS fun K h=>sp 1 hf rfl fun a hf=>zT h ?_
  refine zS fun K h=>sp 1 hf rfl fun a hf=>zT h ?_
  refine wp_seq_k fun K11 c0=>zS fun K h=>sp 2 hf rfl fun a hf=>?_
  obtain ⟨a1,b9,hF⟩:=aC hF
  refine zC hf aGy rfl (eJ (⟨s_.bytes,bi.2.1,bi.2.2⟩:aV) 1 most B (hc.pick k1) b9) ?_
  rintro _ w ⟨rfl,hc⟩
  refine ⟨_,rfl,fun a hf=>?_⟩
  refine sp 1 hf rfl fun a hf=>zT h ?_
  refine wp_block ?_
  obtain ⟨bd,cb,hF⟩:=aC hF
  let S13:((List aI) × (List aR) × Int × Int × Int)→Act→World→Prop:=(fun (zz:(List aI) × (List aR) × Int × Int × Int) a w=>∃ (k:Option Addr) (s:Nat) (g:Option Addr) (j:Nat),Has 102 a [(0,pq b_),(4,pq ac),(5,pq ab),(8,pq ak),(12,pq aq),(13,.slice k zz.1.length s),(14,.slice g zz.2.1.length j),(54,i6 a1.1),(55,i6 zz.2.2.1)]∧Ctx G (.row g j (zz.2.1.map bY) 53 2::.row k s (zz.1.map aZ) 51 5::.box b_ [.slice H s_.bytes.length D,i6 zz.2.2.2.1,i6 zz.2.2.2.2] 66::.box aq [i6 X.Lo,i6 X.Hi] 29::.row V U (d.map bK) 69 2::.box ak [.slice V d.length U,i6 r.1] 27::.box ab [i6 0,i6 0] 29::.box ac [.slice none 0 0,i6 0] 27::Lf) w)
  have b6:∀ (zz:(List aI) × (List aR) × Int × Int × Int) a w,bd=.go zz→S13 zz a w→K11 a w:=by
   rintro ⟨l,O,a9,ay,ax⟩ a w rfl ⟨k,s,g,j,hf,hc⟩
   replace hF:=cJ hF
   refine c0 _ _ ?_
   refine wp_seq_k fun K14 c8=>cU (fun θ=>[⟨none,none,4,pq ac⟩,⟨none,none,5,pq ab⟩,⟨none,none,8,pq ak⟩,⟨none,none,12,pq aq⟩,⟨none,none,13,.slice k l.length s⟩,⟨none,none,14,.slice g O.length j⟩,⟨some 0,none,98,.agg #[.slice V d.length U,i6 r.1]⟩,⟨some 1,none,99,.agg #[i6 X.Lo,i6 X.Hi]⟩,⟨some 2,none,100,.slice k l.length s⟩,⟨some 3,none,101,.slice g O.length j⟩,⟨some 6,none,6,.slice k l.length s⟩,⟨some 7,none,7,.slice g O.length j⟩]) (fun E θ=>.row g j (O.map bY) 53 2::.row k s (l.map aZ) 51 5::.box b_ [.slice H s_.bytes.length D,i6 ay,i6 ax] 66::.box aq [i6 X.Lo,i6 X.Hi] 29::.row V U (d.map bK) 69 2::.box ak [.slice V d.length U,i6 r.1] 27::(bif E 5 then .box ab [i6 X.Lo,i6 X.Hi] 29 else .box ab [i6 0,i6 0] 29)::(bif E 4 then .box ac [.slice V d.length U,i6 r.1] 27 else .box ac [.slice none 0 0,i6 0] 27)::Lf) [] (fun a w=>Has 102 a [(4,pq ac),(5,pq ab),(6,.slice k l.length s),(7,.slice g O.length j)]∧Ctx G (.row g j (O.map bY) 53 2::.row k s (l.map aZ) 51 5::.box b_ [.slice H s_.bytes.length D,i6 ay,i6 ax] 66::.box aq [i6 X.Lo,i6 X.Hi] 29::.row V U (d.map bK) 69 2::.box ak [.slice V d.length U,i6 r.1] 27::.box ab [i6 X.Lo,i6 X.Hi] 29::.box ac [.slice V d.length U,i6 r.1] 27::Lf) w) aT (by kernel_rfl) (by kernel_rfl) (dL.of hf ⟨rfl,rfl,rfl,rfl,rfl,rfl,trivial,trivial,trivial,trivial,trivial,trivial,trivial⟩) hc ⟨?_,?_,?_,?_,?_,?_,?_,?_,trivial⟩ ?_ ?_
   ·intro E θ a w hD hi hp he hc
    have hf:=he.h0.mT he 2 rfl
    refine zN hf hc wA m5 rfl fun a w hf hc=>zD θ he hi hf 6 rfl rfl rfl hc
   ·intro E θ a w hD hi hp he hc
    have hf:=he.h0.mT he 3 rfl
    refine zN hf hc eY m3 rfl fun a w hf hc=>zD θ he hi hf 7 rfl rfl rfl hc
   ·intro E θ a w hD hi hp he hc
    have hf:=he.h0.mT he 4 rfl
    refine sp 1 hf rfl fun a hf=>zD θ he hi hf 8 rfl rfl rfl hc
   ·intro E θ a w hD hi hp he hc
    have hf:=he.h0.mT he 5 rfl
    refine sp 1 hf rfl fun a hf=>zD θ he hi hf 9 rfl rfl rfl hc
   ·intro E θ a w hD hi hp he hc
    have e0:=hp.o 0 rfl
    try dsimp only at hc
    rw [hi] at hc
    have hf:=(he.h0.mT he 0 rfl).mP he 6 rfl e0
    refine zW hf hc aM4 u7 rfl fun w hc=>zG θ he hi hf rfl ?_
    try dsimp only
    rw [aN E 4]
    exact hc
   ·intro E θ a w hD hi hp he hc
    have e1:=hp.o 1 rfl
    try dsimp only at hc
    rw [hi] at hc
    have hf:=(he.h0.mT he 1 rfl).mP he 7 rfl e1
    refine zW hf hc fS u6 rfl fun w hc=>zG θ he hi hf rfl ?_
    try dsimp only
    rw [aN E 5]
    exact hc
   ·intro E θ a w hD hi hp he hc
    have e2:=hp.o 2 rfl
    have hf:=he.h0.mP he 8 rfl e2
    refine sp 1 hf rfl fun a hf=>zD θ he hi hf 10 rfl rfl rfl hc
   ·intro E θ a w hD hi hp he hc
    have e3:=hp.o 3 rfl
    have hf:=he.h0.mP he 9 rfl e3
    refine sp 1 hf rfl fun a hf=>zD θ he hi hf 11 rfl rfl rfl hc
   ·intro E θ a w Z he hc
    have hf:=he.h0
    have e4:=Z 4 rfl
    have e5:=Z 5 rfl
    have e6:=Z 6 rfl
    have e7:=Z 7 rfl
    replace hf:=hf.more he 11 rfl (onP e7)
    replace hf:=hf.more he 10 rfl (onP e6)
    replace hf:=hf.more he 1 rfl (onT)
    replace hf:=hf.more he 0 rfl (onT)
    try dsimp only at hc
    rw [e4,e5] at hc
    exact ⟨hf.kp rfl,hc⟩
   rintro a w ⟨hf,hc⟩
   refine c8 _ _ ?_
   refine wp_ret ?_
   obtain rfl:=sj hF
   replace hc:=(((((((hc.drop k5).drop k3).pick k4).pick k5).pick k4).pick k3).pick k4).pick k5
   exact aPn (by simp) rfl Tryz.results5 hf hc (dX (vs:=[.slice V d.length U,i6 r.1]) wA rfl rfl (cE (n:=2) m4 rfl)) (dX (vs:=[i6 X.Lo,i6 X.Hi]) eY rfl rfl (cE (n:=2) m5 rfl)) (show iK _ 6=_ from rfl) (show iK _ 7=_ from rfl) ⟨V,U,k,s,g,j,rfl,((hc.drop k5).drop k4)⟩
  have di:∀ r,bd=.out r→r=z:=by
   rintro r rfl
   exact sj hF
  replace hc:=hc.nilRow 51 5
  replace hc:=hc.nilRow 53 2
  refine dQ N (dP (S:=S13) (x:=bd) ?_ N (([]:List aI),([]:List aR),0,a1.2.1,a1.2.2) _ _ ⟨none,0,none,0,hf.kp rfl,hc⟩ cb)
  clear hF hf hc
  rintro ⟨l,O,a9,ay,ax⟩ dm a w KB13 ⟨k,s,g,j,hf,hc⟩ hF a0 cd
  unfold kH at hF
  refine zS fun K h=>sp 1 hf rfl fun a hf=>zT h ?_
  refine wp_seq_k fun K16 cn=>zI hf rfl hF ?_ ?_ <;> clear hF <;> intro hF
  ·refine wp_skip ?_
   refine cn _ _ ?_
   refine wp_seq_k fun K17 dg=>wp_block ?_
   refine zS fun K h=>sp 1 hf rfl fun a hf=>?_
   obtain ⟨i,cf,hF⟩:=aC hF
   refine zC hf pR rfl (bS (⟨s_.bytes,ay,ax⟩:aV) 200 B (hc.pick k2) cf) ?_
   rintro _ w ⟨rfl,hc⟩
   refine ⟨_,rfl,fun a hf=>?_⟩
   refine sp 1 hf rfl fun a hf=>?_
   obtain ⟨Y,ci,hF⟩:=aC hF
   refine zC hf pR rfl (bS (⟨s_.bytes,i.2.1,i.2.2⟩:aV) 120 B (hc.pick k0) ci) ?_
   rintro _ w ⟨rfl,hc⟩
   refine ⟨_,rfl,fun a hf=>?_⟩
   refine zP hf rfl (bJ (cells:=[i6 i.1,i6 Y.1]) aJl rfl rfl) fun a hf=>zA hf hc aN5 rfl fun au a w hf hc=>zW hf hc aK3 u0 rfl fun w hc=>zT h ?_
   refine wp_seq_k fun K19 cv=>?_
   obtain ⟨aj,bn,hF⟩:=aC hF
   obtain ⟨am,bv,hF⟩:=aC hF
   obtain ⟨J,bp,hF⟩:=aC hF
   obtain ⟨ai,bm,hF⟩:=aC hF
   obtain ⟨an,bs,hF⟩:=aC hF
   obtain ⟨M,bu,hF⟩:=aC hF
   obtain ⟨I,bq,hF⟩:=aC hF
   obtain ⟨un,c9,hF⟩:=aC hF
   replace hc:=hc.nilRow 0 0
   refine cU (fun θ=>(⟨none,none,0,pq b_⟩::⟨none,none,4,pq ac⟩::⟨none,none,5,pq ab⟩::⟨none,none,8,pq ak⟩::⟨none,none,12,pq aq⟩::⟨none,some 31,13,.slice k l.length s⟩::⟨none,none,14,.slice g O.length j⟩::⟨none,none,15,pq au⟩::⟨none,none,54,i6 a1.1⟩::⟨none,none,55,i6 a9⟩::⟨some 0,none,62,.slice k l.length s⟩::⟨some 1,none,63,pq au⟩::⟨some 2,none,64,i6 i.1⟩::⟨some 3,none,65,pq b_⟩::⟨some 4,none,66,i6 aj.1⟩::⟨some 5,none,67,i6 (W (i.1 - aj.1))⟩::⟨some 6,none,68,i6 (max 0 (W (i.1 - aj.1)))⟩::⟨some 7,none,69,pq au⟩::⟨some 8,none,70,i6 i.1⟩::⟨some 9,none,71,pq b_⟩::⟨some 10,none,72,i6 am.1⟩::⟨some 11,none,73,i6 (W (i.1 + am.1))⟩::⟨some 12,none,74,.agg #[i6 J.Lo,i6 J.Hi]⟩::⟨some 13,none,75,.pointer (some ⟨au,1,none⟩)⟩::⟨some 14,none,76,i6 Y.1⟩::⟨some 15,none,77,pq b_⟩::⟨some 16,none,78,i6 ai.1⟩::⟨some 17,none,79,i6 (W (Y.1 - ai.1))⟩::⟨some 18,none,80,i6 (max 0 (W (Y.1 - ai.1)))⟩::⟨some 19,none,81,.pointer (some ⟨au,1,none⟩)⟩::⟨some 20,none,82,i6 Y.1⟩::⟨some 21,none,83,pq b_⟩::⟨some 22,none,84,i6 an.1⟩::⟨some 23,none,85,i6 (W (Y.1 + an.1))⟩::⟨some 24,none,86,.agg #[i6 M.Lo,i6 M.Hi]⟩::⟨some 25,none,87,pq b_⟩::⟨some 26,none,88,i6 I.1⟩::⟨some 27,none,89,.bool (I.1 == 0)⟩::⟨some 28,none,90,.agg #[i6 J.Lo,i6 J.Hi,i6 M.Lo,i6 M.Hi,.bool (I.1 == 0)]⟩::⟨some 29,none,91,.slice (some ⟨(θ 232).b,0,none⟩) 1 1⟩::⟨some 30,none,92,.slice ((θ 240).p) ((l++[(⟨J,M,(I.1 == 0)⟩:aI)]).length) ((θ 240).c)⟩::⟨some 31,none,13,.slice ((θ 240).p) ((l++[(⟨J,M,(I.1 == 0)⟩:aI)]).length) ((θ 240).c)⟩::[])) (fun E θ=>(bif E 29 then .row (some ⟨(θ 232).b,0,none⟩) 1 (([(⟨J,M,(I.1 == 0)⟩:aI)]:List aI).map aZ) 51 5 else .row none 0 [] 0 0)::.box au [i6 i.1,i6 Y.1] 53::(bif E 26 then .box b_ [.slice H s_.bytes.length D,i6 I.2.1,i6 I.2.2] 66 else bif E 22 then .box b_ [.slice H s_.bytes.length D,i6 an.2.1,i6 an.2.2] 66 else bif E 16 then .box b_ [.slice H s_.bytes.length D,i6 ai.2.1,i6 ai.2.2] 66 else bif E 10 then .box b_ [.slice H s_.bytes.length D,i6 am.2.1,i6 am.2.2] 66 else bif E 4 then .box b_ [.slice H s_.bytes.length D,i6 aj.2.1,i6 aj.2.2] 66 else .box b_ [.slice H s_.bytes.length D,i6 Y.2.1,i6 Y.2.2] 66)::.row g j (O.map bY) 53 2::(bif E 30 then .row ((θ 240).p) ((θ 240).c) ((l++[(⟨J,M,(I.1 == 0)⟩:aI)]).map aZ) 51 5 else .row k s (l.map aZ) 51 5)::.box aq [i6 X.Lo,i6 X.Hi] 29::.row V U (d.map bK) 69 2::.box ak [.slice V d.length U,i6 r.1] 27::.box ab [i6 0,i6 0] 29::.box ac [.slice none 0 0,i6 0] 27::Lf) [(12,6),(6,5),(5,4),(12,10),(16,12),(24,18),(18,17),(17,16),(24,22),(31,0),(10,4),(22,16),(26,24),(31,30)] (fun a w=>∃ (bb:Option Addr) (ba:Nat) (b2:Nat),Has 102 a [(0,pq b_),(4,pq ac),(5,pq ab),(8,pq ak),(12,pq aq),(14,.slice g O.length j),(15,pq au),(54,i6 a1.1),(55,i6 a9),(13,.slice bb ((l++[(⟨J,M,(I.1 == 0)⟩:aI)]).length) ba)]∧Ctx G (.row (some ⟨b2,0,none⟩) 1 (([(⟨J,M,(I.1 == 0)⟩:aI)]:List aI).map aZ) 51 5::.box au [i6 i.1,i6 Y.1] 53::.box b_ [.slice H s_.bytes.length D,i6 I.2.1,i6 I.2.2] 66::.row g j (O.map bY) 53 2::.row bb ba ((l++[(⟨J,M,(I.1 == 0)⟩:aI)]).map aZ) 51 5::.box aq [i6 X.Lo,i6 X.Hi] 29::.row V U (d.map bK) 69 2::.box ak [.slice V d.length U,i6 r.1] 27::.box ab [i6 0,i6 0] 29::.box ac [.slice none 0 0,i6 0] 27::Lf) w) aT (by kernel_rfl) (by kernel_rfl) (dL.of hf ⟨rfl,rfl,rfl,rfl,rfl,rfl,rfl,rfl,rfl,rfl,trivial,trivial,trivial,trivial,trivial,trivial,trivial,trivial,trivial,trivial,trivial,trivial,trivial,trivial,trivial,trivial,trivial,trivial,trivial,trivial,trivial,trivial,trivial,trivial,trivial,trivial,trivial,trivial,trivial,trivial,trivial,trivial,trivial⟩) hc ⟨?_,?_,?_,?_,?_,?_,?_,?_,?_,?_,?_,?_,?_,?_,?_,?_,?_,?_,?_,?_,?_,?_,?_,?_,?_,?_,?_,?_,?_,?_,?_,?_,trivial⟩ ?_ ?_
   ·intro E θ a w hD hi hp he hc
    have a2:=hD.f 9 rfl hi
    have hf:=he.h0.mN he 5 rfl a2
    refine sp 1 hf rfl fun a hf=>zD θ he hi hf 10 rfl rfl rfl hc
   ·intro E θ a w hD hi hp he hc
    have hf:=he.h0.mT he 7 rfl
    refine zP hf rfl (pFA yC rfl) fun a hf=>zD θ he hi hf 11 rfl rfl rfl hc
   ·intro E θ a w hD hi hp he hc
    have e1:=hp.o 1 rfl
    have hf:=he.h0.mP he 11 rfl e1
    refine zL hf hc aX m1 rfl fun a w hf hc=>zD θ he hi hf 12 rfl rfl rfl hc
   ·intro E θ a w hD hi hp he hc
    have hf:=he.h0.mT he 0 rfl
    refine sp 1 hf rfl fun a hf=>zD θ he hi hf 13 rfl rfl rfl hc
   ·intro E θ a w hD hi hp he hc
    have e3:=hp.o 3 rfl
    have y:=hD.f 10 rfl hi
    have e5:=hD.f 2 rfl hi
    have e6:=hD.f 1 rfl e5
    have aa:=hD.f 0 rfl e6
    have R:=hD.f 4 rfl aa
    have m:=hD.f 11 rfl R
    have ar:=hD.f 7 rfl R
    have ap:=hD.f 6 rfl ar
    have ag:=hD.f 5 rfl ap
    have q:=hD.f 12 rfl ag
    try dsimp only at hc
    rw [hi,y,R,m,q] at hc
    have hf:=he.h0.mP he 13 rfl e3
    refine zC hf pR rfl (bS (⟨s_.bytes,Y.2.1,Y.2.2⟩:aV) 20 B (hc.pick k2) bn) ?_
    rintro _ w ⟨rfl,hc⟩
    refine ⟨_,rfl,fun a hf=>?_⟩
    refine aQ ?_
    refine bV ?_
    intro ds u ad
    replace hc:=((hc.pick k0).pick k2).pick k2
    refine ⟨θ,he.put0 hi ad hf rfl 14 rfl rfl,?_⟩
    try dsimp only
    rw [aN E 4,aS 4 y rfl,aS 4 R rfl,aS 4 m rfl,aS 4 q rfl]
    exact hc
   ·intro E θ a w hD hi hp he hc
    have e2:=hp.o 2 rfl
    have e4:=hp.o 4 rfl
    have hf:=(he.h0.mP he 12 rfl e2).mP he 14 rfl e4
    refine sp 1 hf rfl fun a hf=>zD θ he hi hf 15 rfl rfl rfl hc
   ·intro E θ a w hD hi hp he hc
    have e5:=hp.o 5 rfl
    have hf:=he.h0.mP he 15 rfl e5
    refine zP hf rfl (aAk rfl rfl) fun a hf=>zD θ he hi hf 16 rfl rfl rfl hc
   ·intro E θ a w hD hi hp he hc
    have hf:=he.h0.mT he 7 rfl
    refine zP hf rfl (pFA yC rfl) fun a hf=>zD θ he hi hf 17 rfl rfl rfl hc
   ·intro E θ a w hD hi hp he hc
    have e7:=hp.o 7 rfl
    have hf:=he.h0.mP he 17 rfl e7
    refine zL hf hc aX m1 rfl fun a w hf hc=>zD θ he hi hf 18 rfl rfl rfl hc
   ·intro E θ a w hD hi hp he hc
    have hf:=he.h0.mT he 0 rfl
    refine sp 1 hf rfl fun a hf=>zD θ he hi hf 19 rfl rfl rfl hc
   ·intro E θ a w hD hi hp he hc
    have e9:=hp.o 9 rfl
    have e4:=hp.o 4 rfl
    have aa:=hD.f 3 rfl hi
    have R:=hD.f 4 rfl aa
    have m:=hD.f 11 rfl R
    have ar:=hD.f 7 rfl R
    have ap:=hD.f 6 rfl ar
    have ag:=hD.f 5 rfl ap
    have q:=hD.f 12 rfl ag
    try dsimp only at hc
    rw [e4,hi,R,m,q] at hc
    have hf:=he.h0.mP he 19 rfl e9
    refine zC hf pR rfl (bS (⟨s_.bytes,aj.2.1,aj.2.2⟩:aV) 20 B (hc.pick k2) bv) ?_
    rintro _ w ⟨rfl,hc⟩
    refine ⟨_,rfl,fun a hf=>?_⟩
    refine aQ ?_
    refine bV ?_
    intro ds u ad
    replace hc:=((hc.pick k0).pick k2).pick k2
    refine ⟨θ,he.put0 hi ad hf rfl 20 rfl rfl,?_⟩
    try dsimp only
    rw [cB 10 e4,aN E 10,aS 10 R rfl,aS 10 m rfl,aS 10 q rfl]
    exact hc
   ·intro E θ a w hD hi hp he hc
    have e8:=hp.o 8 rfl
    have y:=hp.o 10 rfl
    have hf:=(he.h0.mP he 18 rfl e8).mP he 20 rfl y
    refine sp 1 hf rfl fun a hf=>zD θ he hi hf 21 rfl rfl rfl hc
   ·intro E θ a w hD hi hp he hc
    have e6:=hp.o 6 rfl
    have cz:=hp.o 11 rfl
    have hf:=(he.h0.mP he 16 rfl e6).mP he 21 rfl cz
    refine zQ (v:=.agg #[i6 J.Lo,i6 J.Hi]) hf hc aLk rfl (fun w hc=>uL (max 0 (W (i.1 - aj.1))) (W (i.1 + am.1)) hc bp) fun a w hf hc=>zD θ he hi hf 22 rfl rfl rfl hc
   ·intro E θ a w hD hi hp he hc
    have hf:=he.h0.mT he 7 rfl
    refine zP hf rfl (pFA aB4 rfl) fun a hf=>zD θ he hi hf 23 rfl rfl rfl hc
   ·intro E θ a w hD hi hp he hc
    have c6:=hp.o 13 rfl
    have hf:=he.h0.mP he 23 rfl c6
    refine zL hf hc aX m1 rfl fun a w hf hc=>zD θ he hi hf 24 rfl rfl rfl hc
   ·intro E θ a w hD hi hp he hc
    have hf:=he.h0.mT he 0 rfl
    refine sp 1 hf rfl fun a hf=>zD θ he hi hf 25 rfl rfl rfl hc
   ·intro E θ a w hD hi hp he hc
    have c7:=hp.o 15 rfl
    have aa:=hp.o 12 rfl
    have e6:=hD.t 0 rfl aa
    have e5:=hD.t 1 rfl e6
    have e4:=hD.t 2 rfl e5
    have y:=hD.t 3 rfl aa
    have m:=hD.f 11 rfl hi
    have ar:=hD.f 7 rfl hi
    have ap:=hD.f 6 rfl ar
    have ag:=hD.f 5 rfl ap
    have q:=hD.f 12 rfl ag
    try dsimp only at hc
    rw [e4,y,hi,m,q] at hc
    have hf:=he.h0.mP he 25 rfl c7
    refine zC hf pR rfl (bS (⟨s_.bytes,am.2.1,am.2.2⟩:aV) 9 B (hc.pick k2) bm) ?_
    rintro _ w ⟨rfl,hc⟩
    refine ⟨_,rfl,fun a hf=>?_⟩
    refine aQ ?_
    refine bV ?_
    intro ds u ad
    replace hc:=((hc.pick k0).pick k2).pick k2
    refine ⟨θ,he.put0 hi ad hf rfl 26 rfl rfl,?_⟩
    try dsimp only
    rw [cB 16 e4,cB 16 y,aN E 16,aS 16 m rfl,aS 16 q rfl]
    exact hc
   ·intro E θ a w hD hi hp he hc
    have c4:=hp.o 14 rfl
    have R:=hp.o 16 rfl
    have hf:=(he.h0.mP he 24 rfl c4).mP he 26 rfl R
    refine sp 1 hf rfl fun a hf=>zD θ he hi hf 27 rfl rfl rfl hc
   ·intro E θ a w hD hi hp he hc
    have ar:=hp.o 17 rfl
    have hf:=he.h0.mP he 27 rfl ar
    refine zP hf rfl (aAk rfl rfl) fun a hf=>zD θ he hi hf 28 rfl rfl rfl hc
   ·intro E θ a w hD hi hp he hc
    have hf:=he.h0.mT he 7 rfl
    refine zP hf rfl (pFA aB4 rfl) fun a hf=>zD θ he hi hf 29 rfl rfl rfl hc
   ·intro E θ a w hD hi hp he hc
    have dc:=hp.o 19 rfl
    have hf:=he.h0.mP he 29 rfl dc
    refine zL hf hc aX m1 rfl fun a w hf hc=>zD θ he hi hf 30 rfl rfl rfl hc
   ·intro E θ a w hD hi hp he hc
    have hf:=he.h0.mT he 0 rfl
    refine sp 1 hf rfl fun a hf=>zD θ he hi hf 31 rfl rfl rfl hc
   ·intro E θ a w hD hi hp he hc
    have cu:=hp.o 21 rfl
    have R:=hp.o 16 rfl
    have aa:=hD.t 4 rfl R
    have e6:=hD.t 0 rfl aa
    have e5:=hD.t 1 rfl e6
    have e4:=hD.t 2 rfl e5
    have y:=hD.t 3 rfl aa
    have ag:=hD.f 8 rfl hi
    have q:=hD.f 12 rfl ag
    try dsimp only at hc
    rw [e4,y,R,hi,q] at hc
    have hf:=he.h0.mP he 31 rfl cu
    refine zC hf pR rfl (bS (⟨s_.bytes,ai.2.1,ai.2.2⟩:aV) 9 B (hc.pick k2) bs) ?_
    rintro _ w ⟨rfl,hc⟩
    refine ⟨_,rfl,fun a hf=>?_⟩
    refine aQ ?_
    refine bV ?_
    intro ds u ad
    replace hc:=((hc.pick k0).pick k2).pick k2
    refine ⟨θ,he.put0 hi ad hf rfl 32 rfl rfl,?_⟩
    try dsimp only
    rw [cB 22 e4,cB 22 y,cB 22 R,aN E 22,aS 22 q rfl]
    exact hc
   ·intro E θ a w hD hi hp he hc
    have db:=hp.o 20 rfl
    have m:=hp.o 22 rfl
    have hf:=(he.h0.mP he 30 rfl db).mP he 32 rfl m
    refine sp 1 hf rfl fun a hf=>zD θ he hi hf 33 rfl rfl rfl hc
   ·intro E θ a w hD hi hp he hc
    have ap:=hp.o 18 rfl
    have c2:=hp.o 23 rfl
    have hf:=(he.h0.mP he 28 rfl ap).mP he 33 rfl c2
    refine zQ (v:=.agg #[i6 M.Lo,i6 M.Hi]) hf hc aLk rfl (fun w hc=>uL (max 0 (W (Y.1 - ai.1))) (W (Y.1 + an.1)) hc bu) fun a w hf hc=>zD θ he hi hf 34 rfl rfl rfl hc
   ·intro E θ a w hD hi hp he hc
    have hf:=he.h0.mT he 0 rfl
    refine sp 1 hf rfl fun a hf=>zD θ he hi hf 35 rfl rfl rfl hc
   ·intro E θ a w hD hi hp he hc
    have ct:=hp.o 25 rfl
    have ag:=hp.o 24 rfl
    have ap:=hD.t 5 rfl ag
    have ar:=hD.t 6 rfl ap
    have R:=hD.t 7 rfl ar
    have aa:=hD.t 4 rfl R
    have e6:=hD.t 0 rfl aa
    have e5:=hD.t 1 rfl e6
    have e4:=hD.t 2 rfl e5
    have y:=hD.t 3 rfl aa
    have m:=hD.t 8 rfl ag
    try dsimp only at hc
    rw [e4,y,R,m,hi] at hc
    have hf:=he.h0.mP he 35 rfl ct
    refine zC hf pR rfl (bS (⟨s_.bytes,an.2.1,an.2.2⟩:aV) 9 B (hc.pick k2) bq) ?_
    rintro _ w ⟨rfl,hc⟩
    refine ⟨_,rfl,fun a hf=>?_⟩
    refine aQ ?_
    refine bV ?_
    intro ds u ad
    replace hc:=((hc.pick k0).pick k2).pick k2
    refine ⟨θ,he.put0 hi ad hf rfl 36 rfl rfl,?_⟩
    try dsimp only
    rw [cB 26 e4,cB 26 y,cB 26 R,cB 26 m,aN E 26]
    exact hc
   ·intro E θ a w hD hi hp he hc
    have q:=hp.o 26 rfl
    have hf:=he.h0.mP he 36 rfl q
    refine sp 1 hf rfl fun a hf=>zD θ he hi hf 37 rfl rfl rfl hc
   ·intro E θ a w hD hi hp he hc
    have aa:=hp.o 12 rfl
    have ag:=hp.o 24 rfl
    have df:=hp.o 27 rfl
    have hf:=((he.h0.mP he 22 rfl aa).mP he 34 rfl ag).mP he 37 rfl df
    refine zP hf rfl (bJ (cells:=[i6 J.Lo,i6 J.Hi,i6 M.Lo,i6 M.Hi,.bool (I.1 == 0)]) aLx rfl rfl) fun a hf=>zD θ he hi hf 38 rfl rfl rfl hc
   ·intro E θ a w hD hi hp he hc
    have cp:=hp.o 28 rfl
    try dsimp only at hc
    rw [hi] at hc
    have hf:=he.h0.mP he 38 rfl cp
    refine oJ (rows:=([(⟨J,M,(I.1 == 0)⟩:aI)]:List aI).map aZ) (vs:=[(0,.agg #[i6 J.Lo,i6 J.Hi,i6 M.Lo,i6 M.Hi,.bool (I.1 == 0)])]) hf hc rfl rfl aE7 rfl ⟨rfl,rfl,rfl,trivial⟩ rfl rfl fun cy a w hf hc=>aQ ?_
    refine bV ?_
    intro ds u ad
    replace hc:=hc.drop k1
    refine ⟨(hZ θ 232 ⟨cy,none,0,(fun _=>(none,0))⟩),he.put hi ad hf rfl [] trivial ⟨qq,qq,qq,qq,qq,qq,qq,qq,qq,qq,qq,qq,qq,qq,qq,qq,qq,qq,qq,qq,qq,qq,qq,qq,qq,qq,qq,qq,qq,qq,qq,qq,qq,qq,qq,qq,qq,qq,qq,qq,qq,qq,trivial⟩,?_⟩
    try dsimp only
    rw [aN E 29]
    exact hc
   ·intro E θ a w hD hi hp he hc
    have e0:=hp.o 0 rfl
    have az:=hp.o 29 rfl
    have a2:=hD.f 13 rfl hi
    try dsimp only at hc
    rw [az,hi] at hc
    have hf:=(he.h0.mP he 10 rfl e0).mP he 39 rfl az
    refine lO (xs:=l) (ys:=([(⟨J,M,(I.1 == 0)⟩:aI)]:List aI)) hf hc rfl rfl aE7 rfl rfl rfl rfl rfl pC (fM hc m0) (fun _ _=>u4) (by simpa using dB c9) fun cx c5 a w hf hc=>aQ ?_
    refine bV ?_
    intro ds u ad
    refine ⟨(hZ θ 240 ⟨0,cx,c5,(fun _=>(none,0))⟩),he.put hi ad hf rfl [31] ⟨⟨a2,rfl⟩,trivial⟩ ⟨qq,qq,qq,qq,qq,qq,qq,qq,qq,qq,qq,qq,qq,qq,qq,qq,qq,qq,qq,qq,qq,qq,qq,qq,qq,qq,qq,qq,qq,qq,qq,qq,qq,qq,qq,qq,qq,qq,qq,qq,qq,trivial,trivial⟩,?_⟩
    try dsimp only
    rw [cB 30 az,aN E 30]
    exact hc
   ·intro E θ a w hD hi hp he hc
    have bf:=hp.o 30 rfl
    have hf:=he.h0.mP he 40 rfl bf
    refine sp 1 hf rfl fun a hf=>zD θ he hi hf 41 rfl rfl rfl hc
   ·intro E θ a w Z he hc
    have hf:=he.h0
    have e4:=Z 4 rfl
    have y:=Z 10 rfl
    have R:=Z 16 rfl
    have m:=Z 22 rfl
    have q:=Z 26 rfl
    have az:=Z 29 rfl
    have bf:=Z 30 rfl
    have a2:=Z 31 rfl
    replace hf:=hf.more he 41 rfl (onP a2)
    replace hf:=hf.more he 9 rfl (onT)
    replace hf:=hf.more he 8 rfl (onT)
    replace hf:=hf.more he 7 rfl (onT)
    replace hf:=hf.more he 6 rfl (onT)
    replace hf:=hf.more he 4 rfl (onT)
    replace hf:=hf.more he 3 rfl (onT)
    replace hf:=hf.more he 2 rfl (onT)
    replace hf:=hf.more he 1 rfl (onT)
    replace hf:=hf.more he 0 rfl (onT)
    try dsimp only at hc
    rw [e4,y,R,m,q,az,bf] at hc
    exact ⟨(θ 240).p,(θ 240).c,(θ 232).b,hf.kp rfl,hc⟩
   rintro a w ⟨bb,ba,b2,hf,hc⟩
   replace hc:=hc.drop k0
   refine cv _ _ ?_
   refine cX ?_
   refine sp 1 hf rfl fun a hf=>zN hf hc aLz m0 rfl fun a w hf hc=>oJ (rows:=([(⟨i.1,Y.1⟩:aR)]:List aR).map bY) (vs:=[(0,.agg #[i6 i.1,i6 Y.1])]) hf hc rfl rfl aJk rfl ⟨rfl,rfl,rfl,trivial⟩ rfl rfl fun dr a w hf hc=>?_
   obtain ⟨dk,bx,hF⟩:=aC hF
   refine lO (xs:=O) (ys:=([(⟨i.1,Y.1⟩:aR)]:List aR)) hf hc rfl rfl aJk rfl rfl rfl rfl rfl rZ (fM hc m0) (fun _ _=>u3) (by simpa using dB bx) fun ck c3 a w hf hc=>sp 1 hf rfl fun a hf=>aQ ?_
   replace hc:=(hc.drop k1).drop k0
   refine dg _ _ ?_
   refine cX ?_
   refine sp 2 hf rfl fun a hf=>aQ ?_
   replace hc:=((hc.pick k0).pick k2).pick k2
   exact cd ((l++[(⟨J,M,(I.1 == 0)⟩:aI)]),(O++[(⟨i.1,Y.1⟩:aR)]),W (a9 + 1),I.2.1,I.2.2) _ _ (sj hF).symm ⟨bb,ba,ck,c3,hf.kp rfl,hc⟩
  ·refine wp_exit ?_
   refine bI ?_
   refine bI ?_
   have he:=sj hF
   rw [← he] at a0
   refine fB ?_
   exact b6 _ _ _ a0 ⟨k,s,g,j,hf.kp rfl,hc⟩
 have dn:∀ r,x6=.out r→r=z:=by
  rintro r rfl
  exact sj hF
 replace hc:=hc.nilRow 69 2
 refine dQ N (dP (S:=S6) (x:=x6) ?_ N (bc.1,bj.1,0,bg.2.1,bg.2.2,([]:List bL)) _ _ ⟨none,0,hf.kp rfl,hc⟩ da)
 clear hF hf hc
 rintro ⟨af,av,x,a4,a6,d⟩ dq a w KB6 ⟨V,U,hf,hc⟩ hF a7 dd
 unfold lA at hF
 refine zS fun K h=>sp 1 hf rfl fun a hf=>zT h ?_
 refine wp_seq_k fun K21 cm=>zI hf rfl hF ?_ ?_ <;> clear hF <;> intro hF
 ·refine wp_skip ?_
  refine cm _ _ ?_
  refine wp_seq_k fun K22 cr=>wp_block ?_
  refine zS fun K h=>zP hf rfl (pFA oD rfl) fun a hf=>zL hf hc wJ m2 rfl fun a w hf hc=>sp 2 hf rfl fun a hf=>zP hf rfl (bJ (cells:=[i6 af,i6 av]) bt_69 rfl rfl) fun a hf=>oJ (rows:=([(⟨af,av⟩:bL)]:List bL).map bK) (vs:=[(0,.agg #[i6 af,i6 av])]) hf hc rfl rfl aOf rfl ⟨rfl,rfl,rfl,trivial⟩ rfl rfl fun dp a w hf hc=>?_
  obtain ⟨dj,bt,hF⟩:=aC hF
  refine lO (xs:=d) (ys:=([(⟨af,av⟩:bL)]:List bL)) hf hc rfl rfl aOf rfl rfl rfl rfl rfl yH (fM hc m0) (fun _ _=>u1) (by simpa using dB bt) fun cq cs a w hf hc=>zP hf rfl (pFA oD rfl) fun a hf=>zW hf hc sz_25 u3 rfl fun w hc=>zT h ?_
  refine cX ?_
  refine sp 2 hf rfl fun a hf=>?_
  obtain ⟨a3,bk,hF⟩:=aC hF
  refine zC hf aGy rfl (eJ (⟨s_.bytes,a4,a6⟩:aV) 1 60 B (hc.pick k2) bk) ?_
  rintro _ w ⟨rfl,hc⟩
  refine ⟨_,rfl,fun a hf=>?_⟩
  refine sp 3 hf rfl fun a hf=>?_
  obtain ⟨a5,br,hF⟩:=aC hF
  refine zC hf pR rfl (bS (⟨s_.bytes,a3.2.1,a3.2.2⟩:aV) 50 B (hc.pick k0) br) ?_
  rintro _ w ⟨rfl,hc⟩
  refine ⟨_,rfl,fun a hf=>?_⟩
  refine sp 3 hf rfl fun a hf=>aQ ?_
  refine cr _ _ ?_
  refine cX ?_
  refine sp 2 hf rfl fun a hf=>aQ ?_
  replace hc:=((hc.drop k1).pick k0).pick k1
  exact dd (W (af + a3.1),W (av + a5.1),W (x + 1),a5.2.1,a5.2.2,(d++[(⟨af,av⟩:bL)])) _ _ (sj hF).symm ⟨cq,cs,hf.kp rfl,hc⟩
 ·refine wp_exit ?_
  refine bI ?_
  refine bI ?_
  have he:=sj hF
  rw [← he] at a7
  refine fB ?_
  exact c1 _ _ _ a7 ⟨V,U,hf.kp rfl,hc⟩

def iY (N:Nat) (s_:aV) (r:Int × Int × Int) (S:List Int) (D:Int) (R:Int) (J:Int) (O:List aF) (M:List Int):Option (dA (Int × Int × Int × (List aF) × (List Int)) (bC × cL × Int × Int)) :=
 cond (decide (D < r.1))
 (Option.bind (cM S D) fun B=>
 Option.bind (bW N (⟨s_.bytes,R,J⟩:aV) 9) fun H=>
 Option.bind (bW N (⟨s_.bytes,H.2.1,H.2.2⟩:aV) 9) fun I=>
 Option.bind (nQ ((O++[(⟨W ((W (0 - B)) - H.1),W ((W (0 - B)) + I.1)⟩:aF)])).length) fun V=>
 Option.bind (nQ ((M++[W (0 - B)])).length) fun U=>
 some (.cont (W (D + 1),I.2.1,I.2.2,(O++[(⟨W ((W (0 - B)) - H.1),W ((W (0 - B)) + I.1)⟩:aF)]),(M++[W (0 - B)]))))
 (some (.brk (D,R,J,O,M)))
def gR (N:Nat) (s_:aV) (r:Int × Int × Int) (H:List Int) (R:Int) (S:Int) (O:Int) (x:List bD) (U:List Int):Option (dA ((List Int) × Int × Int × Int × (List bD) × (List Int)) (bC × cL × Int × Int)) :=
 cond ((decide (0 < R)) && (decide (1 < r.1)))
 (Option.bind (bW N (⟨s_.bytes,S,O⟩:aV) r.1) fun B=>
 Option.bind (dE N (⟨s_.bytes,B.2.1,B.2.2⟩:aV) 1 (W (r.1 - 1))) fun I=>
 Option.bind (nz r.1) fun Z=>
 Option.bind (dE N (⟨s_.bytes,I.2.1,I.2.2⟩:aV) (-20) 120) fun D=>
 Option.bind (bW N (⟨s_.bytes,D.2.1,D.2.2⟩:aV) 9) fun J=>
 Option.bind (bW N (⟨s_.bytes,J.2.1,J.2.2⟩:aV) 9) fun M=>
 Option.bind (nQ ((x++[(⟨B.1,(W (B.1 + I.1)).tmod r.1,(⟨W (D.1 - J.1),W (D.1 + M.1)⟩:aF)⟩:bD)])).length) fun Y=>
 Option.bind (nQ ((U++[D.1])).length) fun b=>
 Option.bind (cM H B.1) fun X=>
 Option.bind (cM H ((W (B.1 + I.1)).tmod r.1)) fun V=>
 Option.bind (cM H B.1) fun g=>
 Option.bind (cM H ((W (B.1 + I.1)).tmod r.1)) fun d=>
 some (.cont (((H.set B.1.toNat (W (X - D.1))).set ((W (B.1 + I.1)).tmod r.1).toNat (W (V + D.1))),W (R - 1),M.2.1,M.2.2,(x++[(⟨B.1,(W (B.1 + I.1)).tmod r.1,(⟨W (D.1 - J.1),W (D.1 + M.1)⟩:aF)⟩:bD)]),(U++[D.1]))))
 (some (.brk (H,R,S,O,x,U)))
def sQ (N:Nat) (s_:aV) (most:Int):Option (bC × cL × Int × Int) :=
 Option.bind (dE N s_ 1 most) fun r=>
 Option.bind (inM r.1) fun un=>
 Option.bind (bW N (⟨s_.bytes,r.2.1,r.2.2⟩:aV) 12) fun D=>
 Option.bind (bN (fun s8=>gR N s_ r s8.1 s8.2.1 s8.2.2.1 s8.2.2.2.1 s8.2.2.2.2.1 s8.2.2.2.2.2) N ((List.replicate r.1.toNat (0:Int)),D.1,D.2.1,D.2.2,([]:List bD),([]:List Int))) fun x8=>
 exK x8 (fun s8=>Option.bind (bN (fun B=>iY N s_ r s8.1 B.1 B.2.1 B.2.2.1 B.2.2.2.1 B.2.2.2.2) N (0,s8.2.2.1,s8.2.2.2.1,([]:List aF),([]:List Int))) fun H=>
 exK H (fun B=>some ((⟨B.2.2.2.1,s8.2.2.2.2.1⟩:bC),(⟨s8.2.2.2.2.2,B.2.2.2.2⟩:cL),B.2.1,B.2.2.1)) some) some
theorem aEo {N:Nat} {G:bA} {Lf:List Ent} {w:World} (s_:aV) (most:Int) {b_:Nat} {H:Option Addr} {I:Nat} (U:Rd G 1 H I (s_.bytes.map sI)) (hc:Ctx G (.box b_ [.slice H s_.bytes.length I,i6 s_.used,i6 s_.mix] 66::Lf) w) {az:bC × cL × Int × Int} (hF:sQ N s_ most=some az):Calls Tryz.prog 7 #[pq b_,i6 most] w (fun e w=>∃ (ci:Option Addr) (cc:Nat) (cn:Option Addr) (cj:Nat) (cb:Option Addr) (cf:Nat) (cg:Option Addr) (ck:Nat),e=.returned (.tuple #[.agg #[.slice ci az.1.Gains.length cc,.slice cn az.1.Reaches.length cj],.agg #[.slice cb az.2.1.Flows.length cf,.slice cg az.2.1.Gains.length ck]])∧Ctx G (.row ci cc (az.1.Gains.map aJ) 29 2::.row cn cj (az.1.Reaches.map bH) 49 4::.row cb cf (az.2.1.Flows.map aD) 3 1::.row cg ck (az.2.1.Gains.map aD) 3 1::.box b_ [.slice H s_.bytes.length I,i6 az.2.2.1,i6 az.2.2.2] 66::Lf) w):=by
 unfold sQ at hF
 refine cC Tryz.func7 rfl Tryz.ntmps7 rfl fun a hf=>zS fun K h=>zA hf hc aK5 rfl fun ab a w hf hc=>zA hf hc aHm rfl fun aa a w hf hc=>zT h ?_
 refine zS fun K h=>zA hf hc aK5 rfl fun d a w hf hc=>zT h ?_
 refine zS fun K h=>zA hf hc aHm rfl fun Z a w hf hc=>zT h ?_
 refine zS fun K h=>sp 2 hf rfl fun a hf=>?_
 obtain ⟨r,hr,hF⟩:=aC hF
 refine zC hf aGy rfl (eJ s_ 1 most U (hc.pick k4) hr) ?_
 rintro _ w ⟨rfl,hc⟩
 refine ⟨_,rfl,fun a hf=>?_⟩
 refine sp 1 hf rfl fun a hf=>zT h ?_
 refine zS fun K h=>sp 1 hf rfl fun a hf=>?_
 obtain ⟨un,dx,hF⟩:=aC hF
 refine stMk (m:=(List.replicate r.1.toNat (0:Int)).length) (rows:=(List.replicate r.1.toNat (0:Int)).map aD) hf hc rfl rfl lQ rfl rfl (aCz dx) rfl rfl (by simp [List.map_replicate,Value.cells]) (by simp) fun d3 a w hf hc=>sp 1 hf rfl fun a hf=>zT h ?_
 refine wp_seq_k fun K6 h6=>zS fun K h=>sp 1 hf rfl fun a hf=>?_
 obtain ⟨bu,cx,hF⟩:=aC hF
 refine zC hf pR rfl (bS (⟨s_.bytes,r.2.1,r.2.2⟩:aV) 12 U (hc.pick k1) cx) ?_
 rintro _ w ⟨rfl,hc⟩
 refine ⟨_,rfl,fun a hf=>?_⟩
 refine sp 1 hf rfl fun a hf=>zT h ?_
 refine wp_block ?_
 obtain ⟨x8,di,hF⟩:=aC hF
 let S8:((List Int) × Int × Int × Int × (List bD) × (List Int))→Act→World→Prop:=(fun (zz:(List Int) × Int × Int × Int × (List bD) × (List Int)) a w=>∃ (av:Option Addr) (v:Nat) (q:Option Addr) (t:Nat) (s:Option Addr) (y:Nat),Has 122 a [(0,pq b_),(4,pq ab),(5,pq aa),(6,pq d),(7,pq Z),(8,i6 r.1),(9,.slice av zz.1.length v),(10,i6 zz.2.1)]∧Ctx G (.row s y (zz.2.2.2.2.2.map aD) 3 1::.row q t (zz.2.2.2.2.1.map bH) 49 4::.box b_ [.slice H s_.bytes.length I,i6 zz.2.2.1,i6 zz.2.2.2.1] 66::.row av v (zz.1.map aD) 3 1::.box Z [.slice s zz.2.2.2.2.2.length y,.slice none 0 0] 41::.box d [.slice none 0 0,.slice q zz.2.2.2.2.1.length t] 38::.box aa [.slice none 0 0,.slice none 0 0] 41::.box ab [.slice none 0 0,.slice none 0 0] 38::Lf) w)
 have du:∀ (zz:(List Int) × Int × Int × Int × (List bD) × (List Int)) a w,x8=.go zz→S8 zz a w→K6 a w:=by
  rintro ⟨J,ay,bn,bp,x,R⟩ a w rfl ⟨av,v,q,t,s,y,hf,hc⟩
  replace hF:=cJ hF
  refine h6 _ _ ?_
  refine wp_seq_k fun K9 h9=>zS fun K h=>sp 1 hf rfl fun a hf=>zT h ?_
  refine wp_block ?_
  obtain ⟨b4,c8,hF⟩:=aC hF
  let S11:(Int × Int × Int × (List aF) × (List Int))→Act→World→Prop:=(fun (zz:Int × Int × Int × (List aF) × (List Int)) a w=>∃ (bd:Option Addr) (a0:Nat) (ar:Option Addr) (aq:Nat) (an:Option Addr) (ap:Nat),Has 122 a [(0,pq b_),(4,pq ab),(5,pq aa),(6,pq d),(7,pq Z),(8,i6 r.1),(9,.slice bd J.length a0),(13,i6 zz.1)]∧Ctx G (.row an ap (zz.2.2.2.2.map aD) 3 1::.row ar aq (zz.2.2.2.1.map aJ) 29 2::.row s y (R.map aD) 3 1::.row q t (x.map bH) 49 4::.box b_ [.slice H s_.bytes.length I,i6 zz.2.1,i6 zz.2.2.1] 66::.row bd a0 (J.map aD) 3 1::.box Z [.slice s R.length y,.slice an zz.2.2.2.2.length ap] 41::.box d [.slice ar zz.2.2.2.1.length aq,.slice q x.length t] 38::.box aa [.slice none 0 0,.slice none 0 0] 41::.box ab [.slice none 0 0,.slice none 0 0] 38::Lf) w)
  have cp:∀ (zz:Int × Int × Int × (List aF) × (List Int)) a w,b4=.go zz→S11 zz a w→K9 a w:=by
   rintro ⟨bk,bf,ba,aj,am⟩ a w rfl ⟨bd,a0,ar,aq,an,ap,hf,hc⟩
   replace hF:=cJ hF
   refine h9 _ _ ?_
   refine wp_seq_k fun K12 d0=>cU (fun θ=>[⟨none,none,4,pq ab⟩,⟨none,none,5,pq aa⟩,⟨none,none,6,pq d⟩,⟨none,none,7,pq Z⟩,⟨some 0,none,120,.agg #[.slice ar aj.length aq,.slice q x.length t]⟩,⟨some 1,none,121,.agg #[.slice s R.length y,.slice an am.length ap]⟩]) (fun E θ=>.row an ap (am.map aD) 3 1::.row ar aq (aj.map aJ) 29 2::.row s y (R.map aD) 3 1::.row q t (x.map bH) 49 4::.box b_ [.slice H s_.bytes.length I,i6 bf,i6 ba] 66::.row bd a0 (J.map aD) 3 1::.box Z [.slice s R.length y,.slice an am.length ap] 41::.box d [.slice ar aj.length aq,.slice q x.length t] 38::(bif E 3 then .box aa [.slice s R.length y,.slice an am.length ap] 41 else .box aa [.slice none 0 0,.slice none 0 0] 41)::(bif E 2 then .box ab [.slice ar aj.length aq,.slice q x.length t] 38 else .box ab [.slice none 0 0,.slice none 0 0] 38)::Lf) [] (fun a w=>Has 122 a [(4,pq ab),(5,pq aa)]∧Ctx G (.row an ap (am.map aD) 3 1::.row ar aq (aj.map aJ) 29 2::.row s y (R.map aD) 3 1::.row q t (x.map bH) 49 4::.box b_ [.slice H s_.bytes.length I,i6 bf,i6 ba] 66::.row bd a0 (J.map aD) 3 1::.box Z [.slice s R.length y,.slice an am.length ap] 41::.box d [.slice ar aj.length aq,.slice q x.length t] 38::.box aa [.slice s R.length y,.slice an am.length ap] 41::.box ab [.slice ar aj.length aq,.slice q x.length t] 38::Lf) w) aT (by kernel_rfl) (by kernel_rfl) (dL.of hf ⟨rfl,rfl,rfl,rfl,trivial,trivial,trivial⟩) hc ⟨?_,?_,?_,?_,trivial⟩ ?_ ?_
   ·intro E θ a w hD hi hp he hc
    have hf:=he.h0.mT he 2 rfl
    refine zN hf hc aBg m7 rfl fun a w hf hc=>zD θ he hi hf 4 rfl rfl rfl hc
   ·intro E θ a w hD hi hp he hc
    have hf:=he.h0.mT he 3 rfl
    refine zN hf hc aJh m6 rfl fun a w hf hc=>zD θ he hi hf 5 rfl rfl rfl hc
   ·intro E θ a w hD hi hp he hc
    have e0:=hp.o 0 rfl
    try dsimp only at hc
    rw [hi] at hc
    have hf:=(he.h0.mT he 0 rfl).mP he 4 rfl e0
    refine zW hf hc aOl u9 rfl fun w hc=>zG θ he hi hf rfl ?_
    try dsimp only
    rw [aN E 2]
    exact hc
   ·intro E θ a w hD hi hp he hc
    have e1:=hp.o 1 rfl
    try dsimp only at hc
    rw [hi] at hc
    have hf:=(he.h0.mT he 1 rfl).mP he 5 rfl e1
    refine zW hf hc aIz u8 rfl fun w hc=>zG θ he hi hf rfl ?_
    try dsimp only
    rw [aN E 3]
    exact hc
   ·intro E θ a w V he hc
    have hf:=he.h0
    have e2:=V 2 rfl
    have e3:=V 3 rfl
    replace hf:=hf.more he 1 rfl (onT)
    replace hf:=hf.more he 0 rfl (onT)
    try dsimp only at hc
    rw [e2,e3] at hc
    exact ⟨hf.kp rfl,hc⟩
   rintro a w ⟨hf,hc⟩
   replace hc:=((hc.drop k7).drop k6).drop k5
   refine d0 _ _ ?_
   refine wp_ret ?_
   obtain rfl:=sj hF
   replace hc:=((((((hc.pick k5).pick k6).pick k6).pick k3).pick k5).pick k6).pick k6
   exact vY (by simp) rfl Tryz.results7 hf hc (dX (vs:=[.slice ar aj.length aq,.slice q x.length t]) aBg rfl rfl (cE (n:=2) m5 rfl)) (dX (vs:=[.slice s R.length y,.slice an am.length ap]) aJh rfl rfl (cE (n:=2) m6 rfl)) ⟨ar,aq,q,t,s,y,an,ap,rfl,((hc.drop k6).drop k5)⟩
  have gb:∀ r,b4=.out r→r=az:=by
   rintro r rfl
   exact sj hF
  replace hc:=hc.nilRow 3 1
  replace hc:=hc.nilRow 29 2
  replace hc:=(hc.pick k0).pick k1
  refine dQ N (dP (S:=S11) (x:=b4) ?_ N (0,bn,bp,([]:List aF),([]:List Int)) _ _ ⟨av,v,none,0,none,0,hf.kp rfl,hc⟩ c8)
  clear hF hf hc
  rintro ⟨bk,bf,ba,aj,am⟩ gc a w KB11 ⟨bd,a0,ar,aq,an,ap,hf,hc⟩ hF bm c4
  unfold iY at hF
  refine wp_seq_k fun K13 dq=>zS fun K h=>sp 3 hf rfl fun a hf=>zT h ?_
  refine zI hf rfl hF ?_ ?_ <;> clear hF <;> intro hF
  ·refine wp_skip ?_
   refine dq _ _ ?_
   refine wp_seq_k fun K15 dt=>wp_block ?_
   refine zS fun K h=>sp 2 hf rfl fun a hf=>?_
   obtain ⟨M,da,hF⟩:=aC hF
   have b5:=hf
   obtain ⟨g,rfl,qa,qr⟩:=iJ hc m5 da
   have hf:=b5
   refine zP hf rfl (pIA Tryz.underlying39 fD rfl rfl qa) fun a hf=>zE hf hc rfl (cV aX rfl (eI (sz:=1) (i:=bk.toNat) (j:=0) m5 qr rfl)) fun a w hf hc=>sp 2 hf rfl fun a hf=>zT h ?_
   obtain ⟨ak,cv,hF⟩:=aC hF
   obtain ⟨ag,ct,hF⟩:=aC hF
   obtain ⟨gd,ca,hF⟩:=aC hF
   obtain ⟨d8,b7,hF⟩:=aC hF
   replace hc:=hc.nilRow 0 0
   replace hc:=hc.nilRow 0 0
   refine cU (fun θ=>[⟨none,none,0,pq b_⟩,⟨none,none,4,pq ab⟩,⟨none,none,5,pq aa⟩,⟨none,none,6,pq d⟩,⟨none,none,7,pq Z⟩,⟨none,none,8,i6 r.1⟩,⟨none,none,9,.slice (some ⟨g,0,none⟩) J.length a0⟩,⟨none,none,13,i6 bk⟩,⟨none,none,14,i6 (W (0 - M))⟩,⟨some 0,none,100,pq d⟩,⟨some 1,none,101,.slice ar aj.length aq⟩,⟨some 2,none,102,i6 (W (0 - M))⟩,⟨some 3,none,103,pq b_⟩,⟨some 4,none,104,i6 ak.1⟩,⟨some 5,none,105,i6 (W ((W (0 - M)) - ak.1))⟩,⟨some 6,none,106,i6 (W (0 - M))⟩,⟨some 7,none,107,pq b_⟩,⟨some 8,none,108,i6 ag.1⟩,⟨some 9,none,109,i6 (W ((W (0 - M)) + ag.1))⟩,⟨some 10,none,110,.agg #[i6 (W ((W (0 - M)) - ak.1)),i6 (W ((W (0 - M)) + ag.1))]⟩,⟨some 11,none,111,.slice (some ⟨(θ 88).b,0,none⟩) 1 1⟩,⟨some 12,none,112,.slice ((θ 96).p) ((aj++[(⟨W ((W (0 - M)) - ak.1),W ((W (0 - M)) + ag.1)⟩:aF)]).length) ((θ 96).c)⟩,⟨some 13,none,113,.pointer (some ⟨Z,1,none⟩)⟩,⟨some 14,none,114,.slice an am.length ap⟩,⟨some 15,none,115,i6 (W (0 - M))⟩,⟨some 16,none,116,.slice (some ⟨(θ 128).b,0,none⟩) 1 1⟩,⟨some 17,none,117,.slice ((θ 136).p) ((am++[W (0 - M)]).length) ((θ 136).c)⟩,⟨some 18,none,118,pq d⟩,⟨some 20,none,119,.pointer (some ⟨Z,1,none⟩)⟩]) (fun E θ=>(bif E 16 then .row (some ⟨(θ 128).b,0,none⟩) 1 (([W (0 - M)]:List Int).map aD) 3 1 else .row none 0 [] 0 0)::(bif E 11 then .row (some ⟨(θ 88).b,0,none⟩) 1 (([(⟨W ((W (0 - M)) - ak.1),W ((W (0 - M)) + ag.1)⟩:aF)]:List aF).map aJ) 29 2 else .row none 0 [] 0 0)::(bif E 17 then .row ((θ 136).p) ((θ 136).c) ((am++[W (0 - M)]).map aD) 3 1 else .row an ap (am.map aD) 3 1)::(bif E 12 then .row ((θ 96).p) ((θ 96).c) ((aj++[(⟨W ((W (0 - M)) - ak.1),W ((W (0 - M)) + ag.1)⟩:aF)]).map aJ) 29 2 else .row ar aq (aj.map aJ) 29 2)::.row s y (R.map aD) 3 1::.row q t (x.map bH) 49 4::(bif E 8 then .box b_ [.slice H s_.bytes.length I,i6 ag.2.1,i6 ag.2.2] 66 else bif E 4 then .box b_ [.slice H s_.bytes.length I,i6 ak.2.1,i6 ak.2.2] 66 else .box b_ [.slice H s_.bytes.length I,i6 bf,i6 ba] 66)::.row (some ⟨g,0,none⟩) a0 (J.map aD) 3 1::(bif E 21 then .box Z [.slice s R.length y,.slice ((θ 136).p) ((am++[W (0 - M)]).length) ((θ 136).c)] 41 else .box Z [.slice s R.length y,.slice an am.length ap] 41)::(bif E 19 then .box d [.slice ((θ 96).p) ((aj++[(⟨W ((W (0 - M)) - ak.1),W ((W (0 - M)) + ag.1)⟩:aF)]).length) ((θ 96).c),.slice q x.length t] 38 else .box d [.slice ar aj.length aq,.slice q x.length t] 38)::.box aa [.slice none 0 0,.slice none 0 0] 41::.box ab [.slice none 0 0,.slice none 0 0] 38::Lf) [(19,1),(8,4),(19,12),(21,14),(21,17)] (fun a w=>∃ (cm:Nat) (cd:Nat) (bs:Option Addr) (br:Nat) (bj:Option Addr) (bi:Nat),Has 122 a [(0,pq b_),(4,pq ab),(5,pq aa),(6,pq d),(7,pq Z),(8,i6 r.1),(9,.slice (some ⟨g,0,none⟩) J.length a0),(13,i6 bk)]∧Ctx G (.row (some ⟨cm,0,none⟩) 1 (([W (0 - M)]:List Int).map aD) 3 1::.row (some ⟨cd,0,none⟩) 1 (([(⟨W ((W (0 - M)) - ak.1),W ((W (0 - M)) + ag.1)⟩:aF)]:List aF).map aJ) 29 2::.row bs br ((am++[W (0 - M)]).map aD) 3 1::.row bj bi ((aj++[(⟨W ((W (0 - M)) - ak.1),W ((W (0 - M)) + ag.1)⟩:aF)]).map aJ) 29 2::.row s y (R.map aD) 3 1::.row q t (x.map bH) 49 4::.box b_ [.slice H s_.bytes.length I,i6 ag.2.1,i6 ag.2.2] 66::.row (some ⟨g,0,none⟩) a0 (J.map aD) 3 1::.box Z [.slice s R.length y,.slice bs ((am++[W (0 - M)]).length) br] 41::.box d [.slice bj ((aj++[(⟨W ((W (0 - M)) - ak.1),W ((W (0 - M)) + ag.1)⟩:aF)]).length) bi,.slice q x.length t] 38::.box aa [.slice none 0 0,.slice none 0 0] 41::.box ab [.slice none 0 0,.slice none 0 0] 38::Lf) w) aT (by kernel_rfl) (by kernel_rfl) (dL.of hf ⟨rfl,rfl,rfl,rfl,rfl,rfl,rfl,rfl,rfl,trivial,trivial,trivial,trivial,trivial,trivial,trivial,trivial,trivial,trivial,trivial,trivial,trivial,trivial,trivial,trivial,trivial,trivial,trivial,trivial,trivial⟩) hc ⟨?_,?_,?_,?_,?_,?_,?_,?_,?_,?_,?_,?_,?_,?_,?_,?_,?_,?_,?_,?_,?_,?_,trivial⟩ ?_ ?_
   ·intro E θ a w hD hi hp he hc
    have hf:=he.h0.mT he 3 rfl
    refine zP hf rfl (pFA sC rfl) fun a hf=>zD θ he hi hf 9 rfl rfl rfl hc
   ·intro E θ a w hD hi hp he hc
    have e0:=hp.o 0 rfl
    have a8:=hD.f 0 rfl hi
    try dsimp only at hc
    rw [a8] at hc
    have hf:=he.h0.mP he 9 rfl e0
    refine zL hf hc sA m9 rfl fun a w hf hc=>zD θ he hi hf 10 rfl rfl rfl ?_
    try dsimp only
    rw [aS 1 a8 rfl]
    exact hc
   ·intro E θ a w hD hi hp he hc
    have hf:=he.h0.mT he 8 rfl
    refine sp 1 hf rfl fun a hf=>zD θ he hi hf 11 rfl rfl rfl hc
   ·intro E θ a w hD hi hp he hc
    have hf:=he.h0.mT he 0 rfl
    refine sp 1 hf rfl fun a hf=>zD θ he hi hf 12 rfl rfl rfl hc
   ·intro E θ a w hD hi hp he hc
    have e3:=hp.o 3 rfl
    have e8:=hD.f 1 rfl hi
    try dsimp only at hc
    rw [hi,e8] at hc
    have hf:=he.h0.mP he 12 rfl e3
    refine zC hf pR rfl (bS (⟨s_.bytes,bf,ba⟩:aV) 9 U (hc.pick k6) cv) ?_
    rintro _ w ⟨rfl,hc⟩
    refine ⟨_,rfl,fun a hf=>?_⟩
    refine aQ ?_
    refine bV ?_
    intro ds u ai
    replace hc:=((((((hc.pick k0).pick k6).pick k6).pick k6).pick k6).pick k6).pick k6
    refine ⟨θ,he.put0 hi ai hf rfl 13 rfl rfl,?_⟩
    try dsimp only
    rw [aN E 4,aS 4 e8 rfl]
    exact hc
   ·intro E θ a w hD hi hp he hc
    have e2:=hp.o 2 rfl
    have e4:=hp.o 4 rfl
    have hf:=(he.h0.mP he 11 rfl e2).mP he 13 rfl e4
    refine sp 1 hf rfl fun a hf=>zD θ he hi hf 14 rfl rfl rfl hc
   ·intro E θ a w hD hi hp he hc
    have hf:=he.h0.mT he 8 rfl
    refine sp 1 hf rfl fun a hf=>zD θ he hi hf 15 rfl rfl rfl hc
   ·intro E θ a w hD hi hp he hc
    have hf:=he.h0.mT he 0 rfl
    refine sp 1 hf rfl fun a hf=>zD θ he hi hf 16 rfl rfl rfl hc
   ·intro E θ a w hD hi hp he hc
    have e7:=hp.o 7 rfl
    have e4:=hp.o 4 rfl
    try dsimp only at hc
    rw [e4,hi] at hc
    have hf:=he.h0.mP he 16 rfl e7
    refine zC hf pR rfl (bS (⟨s_.bytes,ak.2.1,ak.2.2⟩:aV) 9 U (hc.pick k6) ct) ?_
    rintro _ w ⟨rfl,hc⟩
    refine ⟨_,rfl,fun a hf=>?_⟩
    refine aQ ?_
    refine bV ?_
    intro ds u ai
    replace hc:=((((((hc.pick k0).pick k6).pick k6).pick k6).pick k6).pick k6).pick k6
    refine ⟨θ,he.put0 hi ai hf rfl 17 rfl rfl,?_⟩
    try dsimp only
    rw [cB 8 e4,aN E 8]
    exact hc
   ·intro E θ a w hD hi hp he hc
    have e6:=hp.o 6 rfl
    have e8:=hp.o 8 rfl
    have hf:=(he.h0.mP he 15 rfl e6).mP he 17 rfl e8
    refine sp 1 hf rfl fun a hf=>zD θ he hi hf 18 rfl rfl rfl hc
   ·intro E θ a w hD hi hp he hc
    have e5:=hp.o 5 rfl
    have e9:=hp.o 9 rfl
    have hf:=(he.h0.mP he 14 rfl e5).mP he 18 rfl e9
    refine zP hf rfl (bJ (cells:=[i6 (W ((W (0 - M)) - ak.1)),i6 (W ((W (0 - M)) + ag.1))]) oO rfl rfl) fun a hf=>zD θ he hi hf 19 rfl rfl rfl hc
   ·intro E θ a w hD hi hp he hc
    have a7:=hp.o 10 rfl
    try dsimp only at hc
    rw [hi] at hc
    have hf:=he.h0.mP he 19 rfl a7
    refine oJ (rows:=([(⟨W ((W (0 - M)) - ak.1),W ((W (0 - M)) + ag.1)⟩:aF)]:List aF).map aJ) (vs:=[(0,.agg #[i6 (W ((W (0 - M)) - ak.1)),i6 (W ((W (0 - M)) + ag.1))])]) hf hc rfl rfl yK rfl ⟨rfl,rfl,rfl,trivial⟩ rfl rfl fun d1 a w hf hc=>aQ ?_
    refine bV ?_
    intro ds u ai
    replace hc:=((hc.drop k2).pick k0).pick k1
    refine ⟨(hZ θ 88 ⟨d1,none,0,(fun _=>(none,0))⟩),he.put hi ai hf rfl [] trivial ⟨qq,qq,qq,qq,qq,qq,qq,qq,qq,qq,qq,qq,qq,qq,qq,qq,qq,qq,qq,qq,qq,qq,qq,qq,qq,qq,qq,qq,qq,trivial⟩,?_⟩
    try dsimp only
    rw [aN E 11]
    exact hc
   ·intro E θ a w hD hi hp he hc
    have e1:=hp.o 1 rfl
    have ax:=hp.o 11 rfl
    have a8:=hD.f 2 rfl hi
    try dsimp only at hc
    rw [ax,hi,a8] at hc
    have hf:=(he.h0.mP he 10 rfl e1).mP he 20 rfl ax
    refine lO (xs:=aj) (ys:=([(⟨W ((W (0 - M)) - ak.1),W ((W (0 - M)) + ag.1)⟩:aF)]:List aF)) hf hc rfl rfl yK rfl rfl rfl rfl rfl iO (fM hc m1) (fun _ _=>u3) (by simpa using dB ca) fun dp dv a w hf hc=>aQ ?_
    refine bV ?_
    intro ds u ai
    refine ⟨(hZ θ 96 ⟨0,dp,dv,(fun _=>(none,0))⟩),he.put hi ai hf rfl [] trivial ⟨qq,qq,qq,qq,qq,qq,qq,qq,qq,qq,qq,qq,qq,qq,qq,qq,qq,qq,qq,qq,qq,qq,qq,qq,qq,qq,qq,qq,qq,trivial⟩,?_⟩
    try dsimp only
    rw [cB 12 ax,aN E 12,aS 12 a8 rfl]
    exact hc
   ·intro E θ a w hD hi hp he hc
    have hf:=he.h0.mT he 4 rfl
    refine zP hf rfl (pFA aB6 rfl) fun a hf=>zD θ he hi hf 22 rfl rfl rfl hc
   ·intro E θ a w hD hi hp he hc
    have a3:=hp.o 13 rfl
    have Y:=hD.f 3 rfl hi
    try dsimp only at hc
    rw [Y] at hc
    have hf:=he.h0.mP he 22 rfl a3
    refine zL hf hc uA m8 rfl fun a w hf hc=>zD θ he hi hf 23 rfl rfl rfl ?_
    try dsimp only
    rw [aS 14 Y rfl]
    exact hc
   ·intro E θ a w hD hi hp he hc
    have hf:=he.h0.mT he 8 rfl
    refine sp 1 hf rfl fun a hf=>zD θ he hi hf 24 rfl rfl rfl hc
   ·intro E θ a w hD hi hp he hc
    have bz:=hp.o 15 rfl
    try dsimp only at hc
    rw [hi] at hc
    have hf:=he.h0.mP he 24 rfl bz
    refine oJ (rows:=([W (0 - M)]:List Int).map aD) (vs:=[(0,i6 (W (0 - M)))]) hf hc rfl rfl lQ rfl ⟨rfl,rfl,rfl,trivial⟩ rfl rfl fun dr a w hf hc=>aQ ?_
    refine bV ?_
    intro ds u ai
    replace hc:=hc.drop k1
    refine ⟨(hZ θ 128 ⟨dr,none,0,(fun _=>(none,0))⟩),he.put hi ai hf rfl [] trivial ⟨qq,qq,qq,qq,qq,qq,qq,qq,qq,qq,qq,qq,qq,qq,qq,qq,qq,qq,qq,qq,qq,qq,qq,qq,qq,qq,qq,qq,qq,trivial⟩,?_⟩
    try dsimp only
    rw [aN E 16]
    exact hc
   ·intro E θ a w hD hi hp he hc
    have bv:=hp.o 14 rfl
    have bb:=hp.o 16 rfl
    have Y:=hD.f 4 rfl hi
    try dsimp only at hc
    rw [bb,hi,Y] at hc
    have hf:=(he.h0.mP he 23 rfl bv).mP he 25 rfl bb
    refine lO (xs:=am) (ys:=([W (0 - M)]:List Int)) hf hc rfl rfl lQ rfl rfl rfl rfl rfl bG (fM hc m0) (fun _ _=>u2) (by simpa using dB b7) fun dn dm a w hf hc=>aQ ?_
    refine bV ?_
    intro ds u ai
    refine ⟨(hZ θ 136 ⟨0,dn,dm,(fun _=>(none,0))⟩),he.put hi ai hf rfl [] trivial ⟨qq,qq,qq,qq,qq,qq,qq,qq,qq,qq,qq,qq,qq,qq,qq,qq,qq,qq,qq,qq,qq,qq,qq,qq,qq,qq,qq,qq,qq,trivial⟩,?_⟩
    try dsimp only
    rw [cB 17 bb,aN E 17,aS 17 Y rfl]
    exact hc
   ·intro E θ a w hD hi hp he hc
    have hf:=he.h0.mT he 3 rfl
    refine zP hf rfl (pFA sC rfl) fun a hf=>zD θ he hi hf 27 rfl rfl rfl hc
   ·intro E θ a w hD hi hp he hc
    have bg:=hp.o 12 rfl
    have bt:=hp.o 18 rfl
    try dsimp only at hc
    rw [hi] at hc
    have hf:=(he.h0.mP he 21 rfl bg).mP he 27 rfl bt
    refine zW hf hc aOo u9 rfl fun w hc=>zG θ he hi hf rfl ?_
    try dsimp only
    rw [aN E 19]
    exact hc
   ·intro E θ a w hD hi hp he hc
    have hf:=he.h0.mT he 4 rfl
    refine zP hf rfl (pFA aB6 rfl) fun a hf=>zD θ he hi hf 28 rfl rfl rfl hc
   ·intro E θ a w hD hi hp he hc
    have bc:=hp.o 17 rfl
    have b2:=hp.o 20 rfl
    try dsimp only at hc
    rw [hi] at hc
    have hf:=(he.h0.mP he 26 rfl bc).mP he 28 rfl b2
    refine zW hf hc aNe u8 rfl fun w hc=>zG θ he hi hf rfl ?_
    try dsimp only
    rw [aN E 21]
    exact hc
   ·intro E θ a w V he hc
    have hf:=he.h0
    have e4:=V 4 rfl
    have e8:=V 8 rfl
    have ax:=V 11 rfl
    have bg:=V 12 rfl
    have bb:=V 16 rfl
    have bc:=V 17 rfl
    have a8:=V 19 rfl
    have Y:=V 21 rfl
    replace hf:=hf.more he 7 rfl (onT)
    replace hf:=hf.more he 6 rfl (onT)
    replace hf:=hf.more he 5 rfl (onT)
    replace hf:=hf.more he 4 rfl (onT)
    replace hf:=hf.more he 3 rfl (onT)
    replace hf:=hf.more he 2 rfl (onT)
    replace hf:=hf.more he 1 rfl (onT)
    replace hf:=hf.more he 0 rfl (onT)
    try dsimp only at hc
    rw [e4,e8,ax,bg,bb,bc,a8,Y] at hc
    exact ⟨(θ 128).b,(θ 88).b,(θ 136).p,(θ 136).c,(θ 96).p,(θ 96).c,hf.kp rfl,hc⟩
   rintro a w ⟨cm,cd,bs,br,bj,bi,hf,hc⟩
   replace hc:=(hc.drop k1).drop k0
   refine dt _ _ ?_
   refine cX ?_
   refine sp 3 hf rfl fun a hf=>aQ ?_
   exact c4 (W (bk + 1),ag.2.1,ag.2.2,(aj++[(⟨W ((W (0 - M)) - ak.1),W ((W (0 - M)) + ag.1)⟩:aF)]),(am++[W (0 - M)])) _ _ (sj hF).symm ⟨(some ⟨g,0,none⟩),a0,bj,bi,bs,br,hf.kp rfl,hc⟩
  ·refine wp_exit ?_
   refine bI ?_
   refine bI ?_
   have he:=sj hF
   rw [← he] at bm
   refine fB ?_
   exact cp _ _ _ bm ⟨bd,a0,ar,aq,an,ap,hf.kp rfl,hc⟩
 have gj:∀ r,x8=.out r→r=az:=by
  rintro r rfl
  exact sj hF
 replace hc:=hc.nilRow 3 1
 replace hc:=hc.nilRow 49 4
 replace hc:=(hc.pick k0).pick k1
 refine dQ N (dP (S:=S8) (x:=x8) ?_ N ((List.replicate r.1.toNat (0:Int)),bu.1,bu.2.1,bu.2.2,([]:List bD),([]:List Int)) _ _ ⟨(some ⟨d3,0,none⟩),r.1.toNat,none,0,none,0,hf.kp rfl,hc⟩ di)
 clear hF hf hc
 rintro ⟨J,ay,bn,bp,x,R⟩ gi a w KB8 ⟨av,v,q,t,s,y,hf,hc⟩ hF bq d4
 unfold gR at hF
 refine wp_seq_k fun K17 d2=>zS fun K h=>sp 3 hf rfl fun a hf=>fL 3 (fun a=>Has 122 a [(0,pq b_),(4,pq ab),(5,pq aa),(6,pq d),(7,pq Z),(8,i6 r.1),(9,.slice av J.length v),(10,i6 ay),(22,i6 ay),(23,.bool (decide (0 < ay))),(24,.bool (decide (0 < ay))),(27,.bool ((decide (0 < ay)) && (decide (1 < r.1))))]) hc ?_ ?_
 ·cases hb:(decide (0 < ay))
  ·rw [hb] at hf
   refine stS hf rfl rfl rfl fun a hf=>stS hf rfl rfl rfl fun a hf=>sp 1 hf rfl fun a hf=>aQ ⟨hf.kp rfl,hc⟩
  ·rw [hb] at hf
   refine sp 3 hf rfl fun a hf=>aQ ⟨hf.kp rfl,hc⟩
 intro a w ⟨hf,hc⟩
 refine zT h ?_
 refine zI hf rfl hF ?_ ?_ <;> clear hF <;> intro hF
 ·refine wp_skip ?_
  refine d2 _ _ ?_
  refine wp_seq_k fun K19 dz=>wp_block ?_
  refine zS fun K h=>sp 2 hf rfl fun a hf=>?_
  obtain ⟨D,db,hF⟩:=aC hF
  refine zC hf pR rfl (bS (⟨s_.bytes,bn,bp⟩:aV) r.1 U (hc.pick k2) db) ?_
  rintro _ w ⟨rfl,hc⟩
  refine ⟨_,rfl,fun a hf=>?_⟩
  refine zP hf rfl (bJ (cells:=[i6 D.1,i6 0,i6 0,i6 0]) bt_49 rfl rfl) fun a hf=>zA hf hc aJv rfl fun ac a w hf hc=>zW hf hc zY u0 rfl fun w hc=>zT h ?_
  refine wp_seq_k fun K21 dj=>?_
  obtain ⟨O,c1,hF⟩:=aC hF
  obtain ⟨d6,b8,hF⟩:=aC hF
  refine cU (fun θ=>[⟨none,none,0,pq b_⟩,⟨none,none,4,pq ab⟩,⟨none,none,5,pq aa⟩,⟨none,none,6,pq d⟩,⟨none,none,7,pq Z⟩,⟨none,none,8,i6 r.1⟩,⟨none,none,9,.slice av J.length v⟩,⟨none,none,10,i6 ay⟩,⟨none,none,11,pq ac⟩,⟨some 0,none,34,pq ac⟩,⟨some 1,none,35,i6 D.1⟩,⟨some 2,none,36,pq b_⟩,⟨some 3,none,37,i6 r.1⟩,⟨some 4,none,38,i6 (W (r.1 - 1))⟩,⟨some 5,none,39,i6 O.1⟩,⟨some 6,none,40,i6 (W (D.1 + O.1))⟩,⟨some 7,none,41,i6 r.1⟩,⟨some 8,none,42,i6 ((W (D.1 + O.1)).tmod r.1)⟩,⟨some 9,none,43,.pointer (some ⟨ac,1,none⟩)⟩]) (fun E θ=>(bif E 10 then .box ac [i6 D.1,i6 ((W (D.1 + O.1)).tmod r.1),i6 0,i6 0] 49 else .box ac [i6 D.1,i6 0,i6 0,i6 0] 49)::(bif E 5 then .box b_ [.slice H s_.bytes.length I,i6 O.2.1,i6 O.2.2] 66 else .box b_ [.slice H s_.bytes.length I,i6 D.2.1,i6 D.2.2] 66)::.row s y (R.map aD) 3 1::.row q t (x.map bH) 49 4::.row av v (J.map aD) 3 1::.box Z [.slice s R.length y,.slice none 0 0] 41::.box d [.slice none 0 0,.slice q x.length t] 38::.box aa [.slice none 0 0,.slice none 0 0] 41::.box ab [.slice none 0 0,.slice none 0 0] 38::Lf) [(10,1)] (fun a w=>Has 122 a [(0,pq b_),(4,pq ab),(5,pq aa),(6,pq d),(7,pq Z),(8,i6 r.1),(9,.slice av J.length v),(10,i6 ay),(11,pq ac)]∧Ctx G (.box ac [i6 D.1,i6 ((W (D.1 + O.1)).tmod r.1),i6 0,i6 0] 49::.box b_ [.slice H s_.bytes.length I,i6 O.2.1,i6 O.2.2] 66::.row s y (R.map aD) 3 1::.row q t (x.map bH) 49 4::.row av v (J.map aD) 3 1::.box Z [.slice s R.length y,.slice none 0 0] 41::.box d [.slice none 0 0,.slice q x.length t] 38::.box aa [.slice none 0 0,.slice none 0 0] 41::.box ab [.slice none 0 0,.slice none 0 0] 38::Lf) w) aT (by kernel_rfl) (by kernel_rfl) (dL.of hf ⟨rfl,rfl,rfl,rfl,rfl,rfl,rfl,rfl,rfl,trivial,trivial,trivial,trivial,trivial,trivial,trivial,trivial,trivial,trivial,trivial⟩) hc ⟨?_,?_,?_,?_,?_,?_,?_,?_,?_,?_,?_,trivial⟩ ?_ ?_
  ·intro E θ a w hD hi hp he hc
   have hf:=he.h0.mT he 8 rfl
   refine zP hf rfl (pFA xZ rfl) fun a hf=>zD θ he hi hf 9 rfl rfl rfl hc
  ·intro E θ a w hD hi hp he hc
   have e0:=hp.o 0 rfl
   have a7:=hD.f 0 rfl hi
   try dsimp only at hc
   rw [a7] at hc
   have hf:=he.h0.mP he 9 rfl e0
   refine zL hf hc aX m0 rfl fun a w hf hc=>zD θ he hi hf 10 rfl rfl rfl ?_
   try dsimp only
   rw [aS 1 a7 rfl]
   exact hc
  ·intro E θ a w hD hi hp he hc
   have hf:=he.h0.mT he 0 rfl
   refine sp 1 hf rfl fun a hf=>zD θ he hi hf 11 rfl rfl rfl hc
  ·intro E θ a w hD hi hp he hc
   have hf:=he.h0.mT he 5 rfl
   refine sp 1 hf rfl fun a hf=>zD θ he hi hf 12 rfl rfl rfl hc
  ·intro E θ a w hD hi hp he hc
   have e3:=hp.o 3 rfl
   have hf:=he.h0.mP he 12 rfl e3
   refine sp 1 hf rfl fun a hf=>zD θ he hi hf 13 rfl rfl rfl hc
  ·intro E θ a w hD hi hp he hc
   have e2:=hp.o 2 rfl
   have e4:=hp.o 4 rfl
   try dsimp only at hc
   rw [hi] at hc
   have hf:=(he.h0.mP he 11 rfl e2).mP he 13 rfl e4
   refine zC hf aGy rfl (eJ (⟨s_.bytes,D.2.1,D.2.2⟩:aV) 1 (W (r.1 - 1)) U (hc.pick k1) c1) ?_
   rintro _ w ⟨rfl,hc⟩
   refine ⟨_,rfl,fun a hf=>?_⟩
   refine aQ ?_
   refine bV ?_
   intro ds u ai
   replace hc:=(hc.pick k0).pick k1
   refine ⟨θ,he.put0 hi ai hf rfl 14 rfl rfl,?_⟩
   try dsimp only
   rw [aN E 5]
   exact hc
  ·intro E θ a w hD hi hp he hc
   have e1:=hp.o 1 rfl
   have e5:=hp.o 5 rfl
   have hf:=(he.h0.mP he 10 rfl e1).mP he 14 rfl e5
   refine sp 1 hf rfl fun a hf=>zD θ he hi hf 15 rfl rfl rfl hc
  ·intro E θ a w hD hi hp he hc
   have hf:=he.h0.mT he 5 rfl
   refine sp 1 hf rfl fun a hf=>zD θ he hi hf 16 rfl rfl rfl hc
  ·intro E θ a w hD hi hp he hc
   have e6:=hp.o 6 rfl
   have e7:=hp.o 7 rfl
   have hf:=(he.h0.mP he 15 rfl e6).mP he 16 rfl e7
   refine zP hf rfl (aKp rfl rfl (tV b8)) fun a hf=>zD θ he hi hf 17 rfl rfl rfl hc
  ·intro E θ a w hD hi hp he hc
   have hf:=he.h0.mT he 8 rfl
   refine zP hf rfl (pFA xW rfl) fun a hf=>zD θ he hi hf 18 rfl rfl rfl hc
  ·intro E θ a w hD hi hp he hc
   have e8:=hp.o 8 rfl
   have e9:=hp.o 9 rfl
   try dsimp only at hc
   rw [hi] at hc
   have hf:=(he.h0.mP he 17 rfl e8).mP he 18 rfl e9
   refine zW hf hc fD u0 rfl fun w hc=>zG θ he hi hf rfl ?_
   try dsimp only
   rw [aN E 10]
   exact hc
  ·intro E θ a w V he hc
   have hf:=he.h0
   have e5:=V 5 rfl
   have a7:=V 10 rfl
   replace hf:=hf.more he 8 rfl (onT)
   replace hf:=hf.more he 7 rfl (onT)
   replace hf:=hf.more he 6 rfl (onT)
   replace hf:=hf.more he 5 rfl (onT)
   replace hf:=hf.more he 4 rfl (onT)
   replace hf:=hf.more he 3 rfl (onT)
   replace hf:=hf.more he 2 rfl (onT)
   replace hf:=hf.more he 1 rfl (onT)
   replace hf:=hf.more he 0 rfl (onT)
   try dsimp only at hc
   rw [e5,a7] at hc
   exact ⟨hf.kp rfl,hc⟩
  rintro a w ⟨hf,hc⟩
  refine dj _ _ ?_
  refine zS fun K h=>sp 1 hf rfl fun a hf=>?_
  obtain ⟨B,dd,hF⟩:=aC hF
  refine zC hf aGy rfl (eJ (⟨s_.bytes,O.2.1,O.2.2⟩:aV) (-20) 120 U (hc.pick k1) dd) ?_
  rintro _ w ⟨rfl,hc⟩
  refine ⟨_,rfl,fun a hf=>?_⟩
  refine sp 1 hf rfl fun a hf=>zT h ?_
  refine zS fun K h=>sp 2 hf rfl fun a hf=>?_
  obtain ⟨ad,c0,hF⟩:=aC hF
  refine zC hf pR rfl (bS (⟨s_.bytes,B.2.1,B.2.2⟩:aV) 9 U (hc.pick k0) c0) ?_
  rintro _ w ⟨rfl,hc⟩
  refine ⟨_,rfl,fun a hf=>?_⟩
  refine sp 3 hf rfl fun a hf=>?_
  obtain ⟨X,cy,hF⟩:=aC hF
  refine zC hf pR rfl (bS (⟨s_.bytes,ad.2.1,ad.2.2⟩:aV) 9 U (hc.pick k0) cy) ?_
  rintro _ w ⟨rfl,hc⟩
  refine ⟨_,rfl,fun a hf=>?_⟩
  refine sp 1 hf rfl fun a hf=>zP hf rfl (bJ (cells:=[i6 (W (B.1 - ad.1)),i6 (W (B.1 + X.1))]) oO rfl rfl) fun a hf=>zP hf rfl (pFA yB rfl) fun a hf=>zW hf hc fS u1 rfl fun w hc=>zT h ?_
  refine wp_seq_k fun K24 dy=>?_
  obtain ⟨d5,b6,hF⟩:=aC hF
  obtain ⟨ga,b9,hF⟩:=aC hF
  replace hc:=hc.nilRow 0 0
  replace hc:=hc.nilRow 0 0
  refine cU (fun θ=>[⟨none,none,0,pq b_⟩,⟨none,none,4,pq ab⟩,⟨none,none,5,pq aa⟩,⟨none,none,6,pq d⟩,⟨none,none,7,pq Z⟩,⟨none,none,8,i6 r.1⟩,⟨none,none,9,.slice av J.length v⟩,⟨none,none,10,i6 ay⟩,⟨none,none,11,pq ac⟩,⟨none,none,12,i6 B.1⟩,⟨some 0,none,56,.pointer (some ⟨d,1,none⟩)⟩,⟨some 1,none,57,.slice q x.length t⟩,⟨some 2,none,58,.agg #[i6 D.1,i6 ((W (D.1 + O.1)).tmod r.1),i6 (W (B.1 - ad.1)),i6 (W (B.1 + X.1))]⟩,⟨some 3,none,59,.slice (some ⟨(θ 24).b,0,none⟩) 1 1⟩,⟨some 4,none,60,.slice ((θ 32).p) ((x++[(⟨D.1,(W (D.1 + O.1)).tmod r.1,(⟨W (B.1 - ad.1),W (B.1 + X.1)⟩:aF)⟩:bD)]).length) ((θ 32).c)⟩,⟨some 5,none,61,pq Z⟩,⟨some 6,none,62,.slice s R.length y⟩,⟨some 7,none,63,i6 B.1⟩,⟨some 8,none,64,.slice (some ⟨(θ 64).b,0,none⟩) 1 1⟩,⟨some 9,none,65,.slice ((θ 72).p) ((R++[B.1]).length) ((θ 72).c)⟩,⟨some 10,none,66,.pointer (some ⟨d,1,none⟩)⟩,⟨some 12,none,67,pq Z⟩]) (fun E θ=>(bif E 8 then .row (some ⟨(θ 64).b,0,none⟩) 1 (([B.1]:List Int).map aD) 3 1 else .row none 0 [] 0 0)::(bif E 3 then .row (some ⟨(θ 24).b,0,none⟩) 1 (([(⟨D.1,(W (D.1 + O.1)).tmod r.1,(⟨W (B.1 - ad.1),W (B.1 + X.1)⟩:aF)⟩:bD)]:List bD).map bH) 49 4 else .row none 0 [] 0 0)::.box b_ [.slice H s_.bytes.length I,i6 X.2.1,i6 X.2.2] 66::.box ac [i6 D.1,i6 ((W (D.1 + O.1)).tmod r.1),i6 (W (B.1 - ad.1)),i6 (W (B.1 + X.1))] 49::(bif E 9 then .row ((θ 72).p) ((θ 72).c) ((R++[B.1]).map aD) 3 1 else .row s y (R.map aD) 3 1)::(bif E 4 then .row ((θ 32).p) ((θ 32).c) ((x++[(⟨D.1,(W (D.1 + O.1)).tmod r.1,(⟨W (B.1 - ad.1),W (B.1 + X.1)⟩:aF)⟩:bD)]).map bH) 49 4 else .row q t (x.map bH) 49 4)::.row av v (J.map aD) 3 1::(bif E 13 then .box Z [.slice ((θ 72).p) ((R++[B.1]).length) ((θ 72).c),.slice none 0 0] 41 else .box Z [.slice s R.length y,.slice none 0 0] 41)::(bif E 11 then .box d [.slice none 0 0,.slice ((θ 32).p) ((x++[(⟨D.1,(W (D.1 + O.1)).tmod r.1,(⟨W (B.1 - ad.1),W (B.1 + X.1)⟩:aF)⟩:bD)]).length) ((θ 32).c)] 38 else .box d [.slice none 0 0,.slice q x.length t] 38)::.box aa [.slice none 0 0,.slice none 0 0] 41::.box ab [.slice none 0 0,.slice none 0 0] 38::Lf) [(11,1),(11,4),(13,6),(13,9)] (fun a w=>∃ (b3:Nat) (b1:Nat) (a2:Option Addr) (a1:Nat) (a4:Option Addr) (a5:Nat),Has 122 a [(0,pq b_),(4,pq ab),(5,pq aa),(6,pq d),(7,pq Z),(8,i6 r.1),(9,.slice av J.length v),(10,i6 ay),(11,pq ac),(12,i6 B.1)]∧Ctx G (.row (some ⟨b3,0,none⟩) 1 (([B.1]:List Int).map aD) 3 1::.row (some ⟨b1,0,none⟩) 1 (([(⟨D.1,(W (D.1 + O.1)).tmod r.1,(⟨W (B.1 - ad.1),W (B.1 + X.1)⟩:aF)⟩:bD)]:List bD).map bH) 49 4::.box b_ [.slice H s_.bytes.length I,i6 X.2.1,i6 X.2.2] 66::.box ac [i6 D.1,i6 ((W (D.1 + O.1)).tmod r.1),i6 (W (B.1 - ad.1)),i6 (W (B.1 + X.1))] 49::.row a2 a1 ((R++[B.1]).map aD) 3 1::.row a4 a5 ((x++[(⟨D.1,(W (D.1 + O.1)).tmod r.1,(⟨W (B.1 - ad.1),W (B.1 + X.1)⟩:aF)⟩:bD)]).map bH) 49 4::.row av v (J.map aD) 3 1::.box Z [.slice a2 ((R++[B.1]).length) a1,.slice none 0 0] 41::.box d [.slice none 0 0,.slice a4 ((x++[(⟨D.1,(W (D.1 + O.1)).tmod r.1,(⟨W (B.1 - ad.1),W (B.1 + X.1)⟩:aF)⟩:bD)]).length) a5] 38::.box aa [.slice none 0 0,.slice none 0 0] 41::.box ab [.slice none 0 0,.slice none 0 0] 38::Lf) w) aT (by kernel_rfl) (by kernel_rfl) (dL.of hf ⟨rfl,rfl,rfl,rfl,rfl,rfl,rfl,rfl,rfl,rfl,trivial,trivial,trivial,trivial,trivial,trivial,trivial,trivial,trivial,trivial,trivial,trivial,trivial⟩) hc ⟨?_,?_,?_,?_,?_,?_,?_,?_,?_,?_,?_,?_,?_,?_,trivial⟩ ?_ ?_
  ·intro E θ a w hD hi hp he hc
   have hf:=he.h0.mT he 3 rfl
   refine zP hf rfl (pFA rA rfl) fun a hf=>zD θ he hi hf 10 rfl rfl rfl hc
  ·intro E θ a w hD hi hp he hc
   have e0:=hp.o 0 rfl
   have ax:=hD.f 0 rfl hi
   try dsimp only at hc
   rw [ax] at hc
   have hf:=he.h0.mP he 10 rfl e0
   refine zL hf hc yX m8 rfl fun a w hf hc=>zD θ he hi hf 11 rfl rfl rfl ?_
   try dsimp only
   rw [aS 1 ax rfl]
   exact hc
  ·intro E θ a w hD hi hp he hc
   have hf:=he.h0.mT he 8 rfl
   refine zN hf hc aJc m3 rfl fun a w hf hc=>zD θ he hi hf 12 rfl rfl rfl hc
  ·intro E θ a w hD hi hp he hc
   have e2:=hp.o 2 rfl
   try dsimp only at hc
   rw [hi] at hc
   have hf:=he.h0.mP he 12 rfl e2
   refine oJ (rows:=([(⟨D.1,(W (D.1 + O.1)).tmod r.1,(⟨W (B.1 - ad.1),W (B.1 + X.1)⟩:aF)⟩:bD)]:List bD).map bH) (vs:=[(0,.agg #[i6 D.1,i6 ((W (D.1 + O.1)).tmod r.1),i6 (W (B.1 - ad.1)),i6 (W (B.1 + X.1))])]) hf hc rfl rfl aOz rfl ⟨rfl,rfl,rfl,trivial⟩ rfl rfl fun c9 a w hf hc=>aQ ?_
   refine bV ?_
   intro ds u ai
   replace hc:=((hc.drop k2).pick k0).pick k1
   refine ⟨(hZ θ 24 ⟨c9,none,0,(fun _=>(none,0))⟩),he.put hi ai hf rfl [] trivial ⟨qq,qq,qq,qq,qq,qq,qq,qq,qq,qq,qq,qq,qq,qq,qq,qq,qq,qq,qq,qq,qq,qq,trivial⟩,?_⟩
   try dsimp only
   rw [aN E 3]
   exact hc
  ·intro E θ a w hD hi hp he hc
   have e1:=hp.o 1 rfl
   have e3:=hp.o 3 rfl
   have ax:=hD.f 1 rfl hi
   try dsimp only at hc
   rw [e3,hi,ax] at hc
   have hf:=(he.h0.mP he 11 rfl e1).mP he 13 rfl e3
   refine lO (xs:=x) (ys:=([(⟨D.1,(W (D.1 + O.1)).tmod r.1,(⟨W (B.1 - ad.1),W (B.1 + X.1)⟩:aF)⟩:bD)]:List bD)) hf hc rfl rfl aOz rfl rfl rfl rfl rfl wR (fM hc m1) (fun _ _=>u5) (by simpa using dB b6) fun c3 cz a w hf hc=>aQ ?_
   refine bV ?_
   intro ds u ai
   refine ⟨(hZ θ 32 ⟨0,c3,cz,(fun _=>(none,0))⟩),he.put hi ai hf rfl [] trivial ⟨qq,qq,qq,qq,qq,qq,qq,qq,qq,qq,qq,qq,qq,qq,qq,qq,qq,qq,qq,qq,qq,qq,trivial⟩,?_⟩
   try dsimp only
   rw [cB 4 e3,aN E 4,aS 4 ax rfl]
   exact hc
  ·intro E θ a w hD hi hp he hc
   have hf:=he.h0.mT he 4 rfl
   refine zP hf rfl (pFA tY rfl) fun a hf=>zD θ he hi hf 15 rfl rfl rfl hc
  ·intro E θ a w hD hi hp he hc
   have e5:=hp.o 5 rfl
   have a3:=hD.f 2 rfl hi
   try dsimp only at hc
   rw [a3] at hc
   have hf:=he.h0.mP he 15 rfl e5
   refine zL hf hc uA m7 rfl fun a w hf hc=>zD θ he hi hf 16 rfl rfl rfl ?_
   try dsimp only
   rw [aS 6 a3 rfl]
   exact hc
  ·intro E θ a w hD hi hp he hc
   have hf:=he.h0.mT he 9 rfl
   refine sp 1 hf rfl fun a hf=>zD θ he hi hf 17 rfl rfl rfl hc
  ·intro E θ a w hD hi hp he hc
   have e7:=hp.o 7 rfl
   try dsimp only at hc
   rw [hi] at hc
   have hf:=he.h0.mP he 17 rfl e7
   refine oJ (rows:=([B.1]:List Int).map aD) (vs:=[(0,i6 B.1)]) hf hc rfl rfl lQ rfl ⟨rfl,rfl,rfl,trivial⟩ rfl rfl fun cu a w hf hc=>aQ ?_
   refine bV ?_
   intro ds u ai
   replace hc:=hc.drop k1
   refine ⟨(hZ θ 64 ⟨cu,none,0,(fun _=>(none,0))⟩),he.put hi ai hf rfl [] trivial ⟨qq,qq,qq,qq,qq,qq,qq,qq,qq,qq,qq,qq,qq,qq,qq,qq,qq,qq,qq,qq,qq,qq,trivial⟩,?_⟩
   try dsimp only
   rw [aN E 8]
   exact hc
  ·intro E θ a w hD hi hp he hc
   have e6:=hp.o 6 rfl
   have e8:=hp.o 8 rfl
   have a3:=hD.f 3 rfl hi
   try dsimp only at hc
   rw [e8,hi,a3] at hc
   have hf:=(he.h0.mP he 16 rfl e6).mP he 18 rfl e8
   refine lO (xs:=R) (ys:=([B.1]:List Int)) hf hc rfl rfl lQ rfl rfl rfl rfl rfl bG (fM hc m0) (fun _ _=>u4) (by simpa using dB b9) fun c7 c6 a w hf hc=>aQ ?_
   refine bV ?_
   intro ds u ai
   refine ⟨(hZ θ 72 ⟨0,c7,c6,(fun _=>(none,0))⟩),he.put hi ai hf rfl [] trivial ⟨qq,qq,qq,qq,qq,qq,qq,qq,qq,qq,qq,qq,qq,qq,qq,qq,qq,qq,qq,qq,qq,qq,trivial⟩,?_⟩
   try dsimp only
   rw [cB 9 e8,aN E 9,aS 9 a3 rfl]
   exact hc
  ·intro E θ a w hD hi hp he hc
   have hf:=he.h0.mT he 3 rfl
   refine zP hf rfl (pFA rA rfl) fun a hf=>zD θ he hi hf 20 rfl rfl rfl hc
  ·intro E θ a w hD hi hp he hc
   have e4:=hp.o 4 rfl
   have a7:=hp.o 10 rfl
   try dsimp only at hc
   rw [hi] at hc
   have hf:=(he.h0.mP he 14 rfl e4).mP he 20 rfl a7
   refine zW hf hc sz_36 u8 rfl fun w hc=>zG θ he hi hf rfl ?_
   try dsimp only
   rw [aN E 11]
   exact hc
  ·intro E θ a w hD hi hp he hc
   have hf:=he.h0.mT he 4 rfl
   refine zP hf rfl (pFA tY rfl) fun a hf=>zD θ he hi hf 21 rfl rfl rfl hc
  ·intro E θ a w hD hi hp he hc
   have e9:=hp.o 9 rfl
   have bg:=hp.o 12 rfl
   try dsimp only at hc
   rw [hi] at hc
   have hf:=(he.h0.mP he 19 rfl e9).mP he 21 rfl bg
   refine zW hf hc aNe u7 rfl fun w hc=>zG θ he hi hf rfl ?_
   try dsimp only
   rw [aN E 13]
   exact hc
  ·intro E θ a w V he hc
   have hf:=he.h0
   have e3:=V 3 rfl
   have e4:=V 4 rfl
   have e8:=V 8 rfl
   have e9:=V 9 rfl
   have ax:=V 11 rfl
   have a3:=V 13 rfl
   replace hf:=hf.more he 9 rfl (onT)
   replace hf:=hf.more he 8 rfl (onT)
   replace hf:=hf.more he 7 rfl (onT)
   replace hf:=hf.more he 6 rfl (onT)
   replace hf:=hf.more he 5 rfl (onT)
   replace hf:=hf.more he 4 rfl (onT)
   replace hf:=hf.more he 3 rfl (onT)
   replace hf:=hf.more he 2 rfl (onT)
   replace hf:=hf.more he 1 rfl (onT)
   replace hf:=hf.more he 0 rfl (onT)
   try dsimp only at hc
   rw [e3,e4,e8,e9,ax,a3] at hc
   exact ⟨(θ 64).b,(θ 24).b,(θ 72).p,(θ 72).c,(θ 32).p,(θ 32).c,hf.kp rfl,hc⟩
  rintro a w ⟨b3,b1,a2,a1,a4,a5,hf,hc⟩
  replace hc:=(hc.drop k1).drop k0
  refine dy _ _ ?_
  obtain ⟨a6,cr,hF⟩:=aC hF
  have b5:=hf
  obtain ⟨au,rfl,cq,dc⟩:=iJ hc m4 cr
  have hf:=b5
  obtain ⟨a9,cs,hF⟩:=aC hF
  obtain ⟨df,c5⟩:=jX hc m4 cs
  obtain ⟨gf,b0,hF⟩:=aC hF
  obtain ⟨c2,d9⟩:=jX hc m4 b0
  obtain ⟨gg,bx,hF⟩:=aC hF
  obtain ⟨dg,d7⟩:=jX hc m4 bx
  refine cU (fun θ=>(⟨none,none,0,pq b_⟩::⟨none,none,4,pq ab⟩::⟨none,none,5,pq aa⟩::⟨none,none,6,pq d⟩::⟨none,none,7,pq Z⟩::⟨none,none,8,i6 r.1⟩::⟨none,none,9,.slice (some ⟨au,0,none⟩) J.length v⟩::⟨none,none,10,i6 ay⟩::⟨none,none,11,pq ac⟩::⟨none,none,12,i6 B.1⟩::⟨some 0,none,68,.slice (some ⟨au,0,none⟩) J.length v⟩::⟨some 1,none,69,pq ac⟩::⟨some 2,none,70,i6 D.1⟩::⟨some 3,none,71,.slice (some ⟨au,0,none⟩) J.length v⟩::⟨some 4,none,72,.pointer (some ⟨ac,1,none⟩)⟩::⟨some 5,none,73,i6 ((W (D.1 + O.1)).tmod r.1)⟩::⟨some 6,none,74,.slice (some ⟨au,0,none⟩) J.length v⟩::⟨some 7,none,75,pq ac⟩::⟨some 8,none,76,i6 D.1⟩::⟨some 9,none,77,.pointer (some ⟨au,D.1.toNat * 1,none⟩)⟩::⟨some 10,none,78,i6 a6⟩::⟨some 11,none,79,i6 B.1⟩::⟨some 12,none,80,i6 (W (a6 - B.1))⟩::⟨some 13,none,81,.slice (some ⟨au,0,none⟩) J.length v⟩::⟨some 14,none,82,.pointer (some ⟨ac,1,none⟩)⟩::⟨some 15,none,83,i6 ((W (D.1 + O.1)).tmod r.1)⟩::⟨some 16,none,84,.pointer (some ⟨au,((W (D.1 + O.1)).tmod r.1).toNat * 1,none⟩)⟩::⟨some 17,none,85,i6 a9⟩::⟨some 18,none,86,i6 B.1⟩::⟨some 19,none,87,i6 (W (a9 + B.1))⟩::⟨some 20,none,88,.pointer (some ⟨au,D.1.toNat * 1,none⟩)⟩::⟨some 22,none,89,.pointer (some ⟨au,((W (D.1 + O.1)).tmod r.1).toNat * 1,none⟩)⟩::[])) (fun E θ=>.box b_ [.slice H s_.bytes.length I,i6 X.2.1,i6 X.2.2] 66::.box ac [i6 D.1,i6 ((W (D.1 + O.1)).tmod r.1),i6 (W (B.1 - ad.1)),i6 (W (B.1 + X.1))] 49::.row a2 a1 ((R++[B.1]).map aD) 3 1::.row a4 a5 ((x++[(⟨D.1,(W (D.1 + O.1)).tmod r.1,(⟨W (B.1 - ad.1),W (B.1 + X.1)⟩:aF)⟩:bD)]).map bH) 49 4::(bif E 23 then .row (some ⟨au,0,none⟩) v (((J.set D.1.toNat (W (a6 - B.1))).set ((W (D.1 + O.1)).tmod r.1).toNat (W (a9 + B.1))).map aD) 3 1 else bif E 21 then .row (some ⟨au,0,none⟩) v ((J.set D.1.toNat (W (a6 - B.1))).map aD) 3 1 else .row (some ⟨au,0,none⟩) v (J.map aD) 3 1)::.box Z [.slice a2 ((R++[B.1]).length) a1,.slice none 0 0] 41::.box d [.slice none 0 0,.slice a4 ((x++[(⟨D.1,(W (D.1 + O.1)).tmod r.1,(⟨W (B.1 - ad.1),W (B.1 + X.1)⟩:aF)⟩:bD)]).length) a5] 38::.box aa [.slice none 0 0,.slice none 0 0] 41::.box ab [.slice none 0 0,.slice none 0 0] 38::Lf) [(21,9),(23,9),(21,10),(23,10),(17,16),(21,17),(23,16),(23,17),(21,20),(23,20),(23,21),(23,22)] (fun a w=>Has 122 a [(0,pq b_),(4,pq ab),(5,pq aa),(6,pq d),(7,pq Z),(8,i6 r.1),(9,.slice (some ⟨au,0,none⟩) J.length v),(10,i6 ay)]∧Ctx G (.box b_ [.slice H s_.bytes.length I,i6 X.2.1,i6 X.2.2] 66::.box ac [i6 D.1,i6 ((W (D.1 + O.1)).tmod r.1),i6 (W (B.1 - ad.1)),i6 (W (B.1 + X.1))] 49::.row a2 a1 ((R++[B.1]).map aD) 3 1::.row a4 a5 ((x++[(⟨D.1,(W (D.1 + O.1)).tmod r.1,(⟨W (B.1 - ad.1),W (B.1 + X.1)⟩:aF)⟩:bD)]).map bH) 49 4::.row (some ⟨au,0,none⟩) v (((J.set D.1.toNat (W (a6 - B.1))).set ((W (D.1 + O.1)).tmod r.1).toNat (W (a9 + B.1))).map aD) 3 1::.box Z [.slice a2 ((R++[B.1]).length) a1,.slice none 0 0] 41::.box d [.slice none 0 0,.slice a4 ((x++[(⟨D.1,(W (D.1 + O.1)).tmod r.1,(⟨W (B.1 - ad.1),W (B.1 + X.1)⟩:aF)⟩:bD)]).length) a5] 38::.box aa [.slice none 0 0,.slice none 0 0] 41::.box ab [.slice none 0 0,.slice none 0 0] 38::Lf) w) aT (by kernel_rfl) (by kernel_rfl) (dL.of hf ⟨rfl,rfl,rfl,rfl,rfl,rfl,rfl,rfl,rfl,rfl,trivial,trivial,trivial,trivial,trivial,trivial,trivial,trivial,trivial,trivial,trivial,trivial,trivial,trivial,trivial,trivial,trivial,trivial,trivial,trivial,trivial,trivial,trivial⟩) hc ⟨?_,?_,?_,?_,?_,?_,?_,?_,?_,?_,?_,?_,?_,?_,?_,?_,?_,?_,?_,?_,?_,?_,?_,?_,trivial⟩ ?_ ?_
  ·intro E θ a w hD hi hp he hc
   have hf:=he.h0.mT he 6 rfl
   refine sp 1 hf rfl fun a hf=>zD θ he hi hf 10 rfl rfl rfl hc
  ·intro E θ a w hD hi hp he hc
   have hf:=he.h0.mT he 8 rfl
   refine zP hf rfl (pFA xZ rfl) fun a hf=>zD θ he hi hf 11 rfl rfl rfl hc
  ·intro E θ a w hD hi hp he hc
   have e1:=hp.o 1 rfl
   have hf:=he.h0.mP he 11 rfl e1
   refine zL hf hc aX m1 rfl fun a w hf hc=>zD θ he hi hf 12 rfl rfl rfl hc
  ·intro E θ a w hD hi hp he hc
   have hf:=he.h0.mT he 6 rfl
   refine sp 1 hf rfl fun a hf=>zD θ he hi hf 13 rfl rfl rfl hc
  ·intro E θ a w hD hi hp he hc
   have hf:=he.h0.mT he 8 rfl
   refine zP hf rfl (pFA xW rfl) fun a hf=>zD θ he hi hf 14 rfl rfl rfl hc
  ·intro E θ a w hD hi hp he hc
   have e4:=hp.o 4 rfl
   have hf:=he.h0.mP he 14 rfl e4
   refine zL hf hc aX m1 rfl fun a w hf hc=>zD θ he hi hf 15 rfl rfl rfl hc
  ·intro E θ a w hD hi hp he hc
   have hf:=he.h0.mT he 6 rfl
   refine sp 1 hf rfl fun a hf=>zD θ he hi hf 16 rfl rfl rfl hc
  ·intro E θ a w hD hi hp he hc
   have hf:=he.h0.mT he 8 rfl
   refine zP hf rfl (pFA xZ rfl) fun a hf=>zD θ he hi hf 17 rfl rfl rfl hc
  ·intro E θ a w hD hi hp he hc
   have e7:=hp.o 7 rfl
   have hf:=he.h0.mP he 17 rfl e7
   refine zL hf hc aX m1 rfl fun a w hf hc=>zD θ he hi hf 18 rfl rfl rfl hc
  ·intro E θ a w hD hi hp he hc
   have e6:=hp.o 6 rfl
   have e8:=hp.o 8 rfl
   have Y:=hD.f 0 rfl hi
   have af:=hD.f 1 rfl hi
   try dsimp only at hc
   rw [Y,af] at hc
   have hf:=(he.h0.mP he 16 rfl e6).mP he 18 rfl e8
   refine zP hf rfl (pIA Tryz.underlying39 fD rfl rfl cq) fun a hf=>zD θ he hi hf 19 rfl rfl rfl ?_
   try dsimp only
   rw [aS 9 Y rfl,aS 9 af rfl]
   exact hc
  ·intro E θ a w hD hi hp he hc
   have e9:=hp.o 9 rfl
   have Y:=hD.f 2 rfl hi
   have af:=hD.f 3 rfl hi
   try dsimp only at hc
   rw [Y,af] at hc
   have hf:=he.h0.mP he 19 rfl e9
   refine zE hf hc rfl (cV aX rfl (eI (sz:=1) (i:=D.1.toNat) (j:=0) m4 dc rfl)) fun a w hf hc=>zD θ he hi hf 20 rfl rfl rfl ?_
   try dsimp only
   rw [aS 10 Y rfl,aS 10 af rfl]
   exact hc
  ·intro E θ a w hD hi hp he hc
   have hf:=he.h0.mT he 9 rfl
   refine sp 1 hf rfl fun a hf=>zD θ he hi hf 21 rfl rfl rfl hc
  ·intro E θ a w hD hi hp he hc
   have a7:=hp.o 10 rfl
   have ax:=hp.o 11 rfl
   have hf:=(he.h0.mP he 20 rfl a7).mP he 21 rfl ax
   refine sp 1 hf rfl fun a hf=>zD θ he hi hf 22 rfl rfl rfl hc
  ·intro E θ a w hD hi hp he hc
   have hf:=he.h0.mT he 6 rfl
   refine sp 1 hf rfl fun a hf=>zD θ he hi hf 23 rfl rfl rfl hc
  ·intro E θ a w hD hi hp he hc
   have hf:=he.h0.mT he 8 rfl
   refine zP hf rfl (pFA xW rfl) fun a hf=>zD θ he hi hf 24 rfl rfl rfl hc
  ·intro E θ a w hD hi hp he hc
   have bv:=hp.o 14 rfl
   have hf:=he.h0.mP he 24 rfl bv
   refine zL hf hc aX m1 rfl fun a w hf hc=>zD θ he hi hf 25 rfl rfl rfl hc
  ·intro E θ a w hD hi hp he hc
   have a3:=hp.o 13 rfl
   have bz:=hp.o 15 rfl
   have bc:=hD.f 4 rfl hi
   have Y:=hD.f 5 rfl bc
   have af:=hD.f 6 rfl hi
   try dsimp only at hc
   rw [Y,af] at hc
   have hf:=(he.h0.mP he 23 rfl a3).mP he 25 rfl bz
   refine zP hf rfl (pIA Tryz.underlying39 fD rfl rfl df) fun a hf=>zD θ he hi hf 26 rfl rfl rfl ?_
   try dsimp only
   rw [aS 16 Y rfl,aS 16 af rfl]
   exact hc
  ·intro E θ a w hD hi hp he hc
   have bb:=hp.o 16 rfl
   have Y:=hD.f 5 rfl hi
   have af:=hD.f 7 rfl hi
   try dsimp only at hc
   rw [Y,af] at hc
   have hf:=he.h0.mP he 26 rfl bb
   refine zE hf hc rfl (cV aX rfl (eI (sz:=1) (i:=((W (D.1 + O.1)).tmod r.1).toNat) (j:=0) m4 c5 rfl)) fun a w hf hc=>zD θ he hi hf 27 rfl rfl rfl ?_
   try dsimp only
   rw [aS 17 Y rfl,aS 17 af rfl]
   exact hc
  ·intro E θ a w hD hi hp he hc
   have hf:=he.h0.mT he 9 rfl
   refine sp 1 hf rfl fun a hf=>zD θ he hi hf 28 rfl rfl rfl hc
  ·intro E θ a w hD hi hp he hc
   have bc:=hp.o 17 rfl
   have bt:=hp.o 18 rfl
   have hf:=(he.h0.mP he 27 rfl bc).mP he 28 rfl bt
   refine sp 1 hf rfl fun a hf=>zD θ he hi hf 29 rfl rfl rfl hc
  ·intro E θ a w hD hi hp he hc
   have e0:=hp.o 0 rfl
   have e2:=hp.o 2 rfl
   have Y:=hD.f 8 rfl hi
   have af:=hD.f 9 rfl hi
   try dsimp only at hc
   rw [Y,af] at hc
   have hf:=(he.h0.mP he 10 rfl e0).mP he 12 rfl e2
   refine zP hf rfl (pIA Tryz.underlying39 fD rfl rfl c2) fun a hf=>zD θ he hi hf 30 rfl rfl rfl ?_
   try dsimp only
   rw [aS 20 Y rfl,aS 20 af rfl]
   exact hc
  ·intro E θ a w hD hi hp he hc
   have bg:=hp.o 12 rfl
   have b2:=hp.o 20 rfl
   have af:=hD.f 10 rfl hi
   try dsimp only at hc
   rw [hi,af] at hc
   have hf:=(he.h0.mP he 22 rfl bg).mP he 30 rfl b2
   refine aGj (sz:=1) (vs:=[i6 (W (a6 - B.1))]) (o':=0) (z:=W (a6 - B.1)) (xs:=J) hf hc rfl rfl rfl rfl fD rfl (fun x=>(bG x).1) (qX b0) (fun _ _=>rfl) rfl u4 fun w hc=>zG θ he hi hf rfl ?_
   try dsimp only
   rw [aN E 21,aS 21 af rfl]
   exact hc
  ·intro E θ a w hD hi hp he hc
   have e3:=hp.o 3 rfl
   have e5:=hp.o 5 rfl
   have Y:=hp.o 21 rfl
   have af:=hD.f 11 rfl hi
   try dsimp only at hc
   rw [Y,af] at hc
   have hf:=(he.h0.mP he 13 rfl e3).mP he 15 rfl e5
   refine zP hf rfl (pIA Tryz.underlying39 fD rfl rfl dg) fun a hf=>zD θ he hi hf 31 rfl rfl rfl ?_
   try dsimp only
   rw [cB 22 Y,aS 22 af rfl]
   exact hc
  ·intro E θ a w hD hi hp he hc
   have a8:=hp.o 19 rfl
   have dk:=hp.o 22 rfl
   have Y:=hp.o 21 rfl
   try dsimp only at hc
   rw [Y,hi] at hc
   have hf:=(he.h0.mP he 29 rfl a8).mP he 31 rfl dk
   refine aGj (sz:=1) (vs:=[i6 (W (a9 + B.1))]) (o':=0) (z:=W (a9 + B.1)) (xs:=(J.set D.1.toNat (W (a6 - B.1)))) hf hc rfl rfl rfl rfl fD rfl (fun x=>(bG x).1) (by simpa using qX bx) (fun _ _=>rfl) rfl u4 fun w hc=>zG θ he hi hf rfl ?_
   try dsimp only
   rw [cB 23 Y,aN E 23]
   exact hc
  ·intro E θ a w V he hc
   have hf:=he.h0
   have Y:=V 21 rfl
   have af:=V 23 rfl
   replace hf:=hf.more he 7 rfl (onT)
   replace hf:=hf.more he 6 rfl (onT)
   replace hf:=hf.more he 5 rfl (onT)
   replace hf:=hf.more he 4 rfl (onT)
   replace hf:=hf.more he 3 rfl (onT)
   replace hf:=hf.more he 2 rfl (onT)
   replace hf:=hf.more he 1 rfl (onT)
   replace hf:=hf.more he 0 rfl (onT)
   try dsimp only at hc
   rw [Y,af] at hc
   exact ⟨hf.kp rfl,hc⟩
  rintro a w ⟨hf,hc⟩
  replace hc:=hc.drop k1
  refine dz _ _ ?_
  refine cX ?_
  refine sp 3 hf rfl fun a hf=>aQ ?_
  replace hf:=hf.castAt 9 (v':=.slice (some ⟨au,0,none⟩) (((J.set D.1.toNat (W (a6 - B.1))).set ((W (D.1 + O.1)).tmod r.1).toNat (W (a9 + B.1))).length) v) rfl (congrArg (fun k=>Value.slice (some ⟨au,0,none⟩) k v) (by simp))
  replace hc:=((hc.pick k0).pick k2).pick k2
  exact d4 (((J.set D.1.toNat (W (a6 - B.1))).set ((W (D.1 + O.1)).tmod r.1).toNat (W (a9 + B.1))),W (ay - 1),X.2.1,X.2.2,(x++[(⟨D.1,(W (D.1 + O.1)).tmod r.1,(⟨W (B.1 - ad.1),W (B.1 + X.1)⟩:aF)⟩:bD)]),(R++[B.1])) _ _ (sj hF).symm ⟨(some ⟨au,0,none⟩),v,a4,a5,a2,a1,hf.kp rfl,hc⟩
 ·refine wp_exit ?_
  refine bI ?_
  refine bI ?_
  have he:=sj hF
  rw [← he] at bq
  refine fB ?_
  exact du _ _ _ bq ⟨av,v,q,t,s,y,hf.kp rfl,hc⟩

def bM (n:Int) (D:Int) (B:Int):Bool :=
 ((decide (D≤n)) && (decide (n≤B)))
theorem oN {G:bA} {Lf:List Ent} {w:World} (n:Int) (B:Int) (D:Int)   (hc:Ctx G (Lf) w) {H:Bool} (hF:bM n B D=H):Calls Tryz.prog 92 #[i6 n,i6 B,i6 D] w (fun e w=>e=.returned (.bool H)∧Ctx G (Lf) w):=by
 unfold bM at hF
 refine cC Tryz.func92 rfl Tryz.ntmps92 rfl fun a hf=>zS fun K h=>sp 1 hf rfl fun a hf=>zT h ?_
 refine zS fun K h=>sp 4 hf rfl fun a hf=>fL 4 (fun a=>Has 15 a [(0,i6 n),(1,i6 B),(2,i6 D),(6,.bool false),(7,i6 n),(8,i6 B),(9,.bool (decide (B≤n))),(10,.bool (decide (B≤n))),(14,.bool ((decide (B≤n)) && (decide (n≤D))))]) hc ?_ ?_
 ·cases hb:(decide (B≤n))
  ·rw [hb] at hf
   refine stS hf rfl rfl rfl fun a hf=>stS hf rfl rfl rfl fun a hf=>stS hf rfl rfl rfl fun a hf=>sp 1 hf rfl fun a hf=>aQ ⟨hf.kp rfl,hc⟩
  ·rw [hb] at hf
   refine sp 4 hf rfl fun a hf=>aQ ⟨hf.kp rfl,hc⟩
 intro a w ⟨hf,hc⟩
 refine sp 1 hf rfl fun a hf=>zT h ?_
 refine wp_ret ?_
 obtain rfl:=hF
 exact zO1 Tryz.results92 hf rfl ⟨rfl,hc⟩

def fK (s_:aF):Bool :=
 ((bM s_.Lo (-1000000) s_.Hi) && (bM s_.Hi (-1000000) 1000000))
theorem sR {G:bA} {Lf:List Ent} {w:World} (s_:aF)   (hc:Ctx G (Lf) w) {D:Bool} (hF:fK s_=D):Calls Tryz.prog 94 #[.agg #[i6 s_.Lo,i6 s_.Hi]] w (fun e w=>e=.returned (.bool D)∧Ctx G (Lf) w):=by
 unfold fK at hF
 refine cC Tryz.func94 rfl Tryz.ntmps94 rfl fun a hf=>zS fun K h=>zB hf hc rfl fun B a w hf hc=>sp 1 hf rfl fun a hf=>zT h ?_
 refine zS fun K h=>zP hf rfl (pFA iH rfl) fun a hf=>zL hf hc aX m0 rfl fun a w hf hc=>zP hf rfl (pFA fQ rfl) fun a hf=>zL hf hc aX m0 rfl fun a w hf hc=>zQ (v:=.bool (bM s_.Lo (-1000000) s_.Hi)) hf hc aHs rfl (fun w hc=>oN s_.Lo (-1000000) s_.Hi hc rfl) fun a w hf hc=>sp 1 hf rfl fun a hf=>fL 4 (fun a=>Has 13 a [(1,pq B),(2,.bool false),(3,pq B),(4,i6 s_.Lo),(5,.pointer (some ⟨B,1,none⟩)),(6,i6 s_.Hi),(7,.bool (bM s_.Lo (-1000000) s_.Hi)),(8,.bool (bM s_.Lo (-1000000) s_.Hi)),(12,.bool ((bM s_.Lo (-1000000) s_.Hi) && (bM s_.Hi (-1000000) 1000000)))]) hc ?_ ?_
 ·cases hb:(bM s_.Lo (-1000000) s_.Hi)
  ·rw [hb] at hf
   refine stS hf rfl rfl rfl fun a hf=>stS hf rfl rfl rfl fun a hf=>stS hf rfl rfl rfl fun a hf=>sp 1 hf rfl fun a hf=>aQ ⟨hf.kp rfl,hc⟩
  ·rw [hb] at hf
   refine zP hf rfl (pFA fQ rfl) fun a hf=>zL hf hc aX m0 rfl fun a w hf hc=>zQ (v:=.bool (bM s_.Hi (-1000000) 1000000)) hf hc aHs rfl (fun w hc=>oN s_.Hi (-1000000) 1000000 hc rfl) fun a w hf hc=>sp 1 hf rfl fun a hf=>aQ ⟨hf.kp rfl,hc⟩
 intro a w ⟨hf,hc⟩
 refine sp 1 hf rfl fun a hf=>zT h ?_
 refine wp_ret ?_
 obtain rfl:=hF
 replace hc:=hc.drop k0
 exact zO1 Tryz.results94 hf rfl ⟨rfl,hc⟩

def fY (x:aF):Bool :=
 (!(fK x))
theorem sH {G:bA} {Lf:List Ent} {w:World} (x:aF) {b_:Nat}  (hc:Ctx G (.box b_ [.func (.func 94) #[] #[]] 115::Lf) w) {B:Bool} (hF:fY x=B):Calls Tryz.prog 121 #[.agg #[i6 x.Lo,i6 x.Hi],pq b_] w (fun e w=>e=.returned (.bool B)∧Ctx G (.box b_ [.func (.func 94) #[] #[]] 115::Lf) w):=by
 unfold fY at hF
 refine cC Tryz.func121 rfl Tryz.ntmps121 rfl fun a hf=>zS fun K h=>zB hf hc rfl fun D a w hf hc=>sp 1 hf rfl fun a hf=>zT h ?_
 refine zS fun K h=>zL hf hc aLu m1 rfl fun a w hf hc=>zN hf hc eY m0 rfl fun a w hf hc=>zQ (v:=.bool (fK x)) hf hc aOd rfl (fun w hc=>sR x hc rfl) fun a w hf hc=>sp 2 hf rfl fun a hf=>zT h ?_
 refine wp_ret ?_
 obtain rfl:=hF
 replace hc:=hc.drop k0
 exact zO1 Tryz.results121 hf rfl ⟨rfl,hc⟩

def fF (N:Nat) (s_:List aF) (x:Int):Option (dA (Int) (Int)) :=
 cond (decide (x < ((s_.length:Nat):Int)))
 (Option.bind (cM s_ x) fun B=>
 cond (fY B)
 (some (.ret x))
 (some (.cont (W (x + 1)))))
 (some (.brk x))
def fX (N:Nat) (s_:List aF):Option (Int) :=
 Option.bind (bN (fun s4=>fF N s_ s4) N 0) fun x4=>
 exK x4 (fun s4=>some (-1)) some
theorem nP {N:Nat} {G:bA} {Lf:List Ent} {w:World} (s_:List aF) {H:Option Addr} {D:Nat} {b_:Nat} (O:Rd G 2 H D (s_.map aJ)) (hc:Ctx G (.box b_ [.func (.func 94) #[] #[]] 115::Lf) w) {J:Int} (hF:fX N s_=some J):Calls Tryz.prog 133 #[.slice H s_.length D,.func (.func 121) #[] #[pq b_]] w (fun e w=>e=.returned (i6 J)∧Ctx G (.box b_ [.func (.func 94) #[] #[]] 115::Lf) w):=by
 unfold fX at hF
 refine cC Tryz.func133 rfl Tryz.ntmps133 rfl fun a hf=>zS fun K h=>sp 1 hf rfl fun a hf=>zT h ?_
 refine wp_seq_k fun K2 h2=>zS fun K h=>sp 1 hf rfl fun a hf=>zP hf rfl (cP Tryz.underlying35 rfl) fun a hf=>sp 1 hf rfl fun a hf=>zT h ?_
 refine wp_block ?_
 obtain ⟨x4,U,hF⟩:=aC hF
 let S4:Int→Act→World→Prop:=(fun (zz:Int) a w=>Has 19 a [(0,.slice H s_.length D),(1,.func (.func 121) #[] #[pq b_]),(7,i6 ((s_.length:Nat):Int)),(8,i6 zz)]∧Ctx G (.box b_ [.func (.func 94) #[] #[]] 115::Lf) w)
 have X:∀ (zz:Int) a w,x4=.go zz→S4 zz a w→K2 a w:=by
  rintro x a w rfl ⟨hf,hc⟩
  replace hF:=cJ hF
  refine h2 _ _ ?_
  refine zS fun K h=>sp 1 hf rfl fun a hf=>zT h ?_
  refine wp_ret ?_
  obtain rfl:=sj hF
  exact zO1 Tryz.results133 hf rfl ⟨rfl,hc⟩
 have R:∀ r,x4=.out r→r=J:=by
  rintro r rfl
  exact sj hF
 refine dQ N (dP (S:=S4) (x:=x4) ?_ N 0 _ _ ⟨hf.kp rfl,hc⟩ U)
 clear hF hf hc
 rintro x Y a w KB4 ⟨hf,hc⟩ hF B V
 unfold fF at hF
 refine zS fun K h=>sp 1 hf rfl fun a hf=>zT h ?_
 refine wp_seq_k fun K7 h7=>zI hf rfl hF ?_ ?_ <;> clear hF <;> intro hF
 ·refine wp_skip ?_
  refine h7 _ _ ?_
  refine wp_seq_k fun K8 h8=>wp_block ?_
  refine zS fun K h=>sp 2 hf rfl fun a hf=>zT h ?_
  refine zS fun K h=>sp 3 hf rfl fun a hf=>?_
  obtain ⟨I,M,hF⟩:=aC hF
  obtain ⟨Z,o,qa,qp⟩:=O.atm M
  refine zP hf rfl (pIA Tryz.underlying35 fS rfl rfl qa) fun a hf=>zE hf hc rfl (kK (vs:=[i6 I.Lo,i6 I.Hi]) eY rfl rfl (dF qp (n:=2) (o':=0) rfl)) fun a w hf hc=>zQ (v:=.bool (fY I)) hf hc aPy rfl (fun w hc=>(sH I (hc.pick k0) rfl).mono fun e w h=>⟨h.1,(h.2.unpick k0)⟩) fun a w hf hc=>zT h ?_
  refine zI hf rfl hF ?_ ?_ <;> clear hF <;> intro hF
  ·refine zS fun K h=>sp 2 hf rfl fun a hf=>zT h ?_
   refine wp_ret ?_
   refine cI ?_
   refine aU ?_
   refine aU ?_
   have he:=sj hF
   rw [← he] at B
   replace hF:=R _ B
   refine cI ?_
   refine aU ?_
   obtain rfl:=hF
   exact zO1 Tryz.results133 hf rfl ⟨rfl,hc⟩
  ·refine wp_skip ?_
   refine h8 _ _ ?_
   refine cX ?_
   refine sp 2 hf rfl fun a hf=>aQ ?_
   exact V (W (x + 1)) _ _ (sj hF).symm ⟨hf.kp rfl,hc⟩
 ·refine wp_exit ?_
  refine bI ?_
  refine bI ?_
  have he:=sj hF
  rw [← he] at B
  refine fB ?_
  exact X _ _ _ B ⟨hf.kp rfl,hc⟩

def fI (N:Nat) (s_:List aF):Option (Bool) :=
 Option.bind (fX N s_) fun r=>
 some (decide (0≤r))
theorem mX {N:Nat} {G:bA} {Lf:List Ent} {w:World} (s_:List aF) {D:Option Addr} {B:Nat} {b_:Nat} (I:Rd G 2 D B (s_.map aJ)) (hc:Ctx G (.box b_ [.func (.func 94) #[] #[]] 115::Lf) w) {H:Bool} (hF:fI N s_=some H):Calls Tryz.prog 120 #[.slice D s_.length B,.func (.func 121) #[] #[pq b_]] w (fun e w=>e=.returned (.bool H)∧Ctx G (.box b_ [.func (.func 94) #[] #[]] 115::Lf) w):=by
 unfold fI at hF
 refine cC Tryz.func120 rfl Tryz.ntmps120 rfl fun a hf=>zS fun K h=>sp 1 hf rfl fun a hf=>zT h ?_
 refine zS fun K h=>sp 2 hf rfl fun a hf=>?_
 obtain ⟨r,hr,hF⟩:=aC hF
 refine zQ (v:=i6 r) hf hc aLb rfl (fun w hc=>(nP s_ I (hc.pick k0) hr).mono fun e w h=>⟨h.1,(h.2.unpick k0)⟩) fun a w hf hc=>sp 2 hf rfl fun a hf=>zT h ?_
 refine wp_ret ?_
 obtain rfl:=sj hF
 exact zO1 Tryz.results120 hf rfl ⟨rfl,hc⟩

def jQ (N:Nat) (l:List aF):Option (Bool) :=
 Option.bind (fI N l) fun r=>
 some (!r)
theorem tH {N:Nat} {G:bA} {Lf:List Ent} {w:World} (l:List aF) {H:Option Addr} {D:Nat} (I:Rd G 2 H D (l.map aJ)) (hc:Ctx G (Lf) w) {B:Bool} (hF:jQ N l=some B):Calls Tryz.prog 93 #[.slice H l.length D,.func (.func 94) #[] #[]] w (fun e w=>e=.returned (.bool B)∧Ctx G (Lf) w):=by
 unfold jQ at hF
 refine cC Tryz.func93 rfl Tryz.ntmps93 rfl fun a hf=>zS fun K h=>zB hf hc rfl fun J a w hf hc=>sp 1 hf rfl fun a hf=>zT h ?_
 refine zS fun K h=>sp 1 hf rfl fun a hf=>zP hf rfl (pMF (us:=[pq J]) rfl rfl) fun a hf=>?_
 obtain ⟨r,hr,hF⟩:=aC hF
 refine zQ (v:=.bool r) hf hc aNc rfl (fun w hc=>(mX l I (hc.pick k0) hr).mono fun e w h=>⟨h.1,(h.2.unpick k0)⟩) fun a w hf hc=>sp 2 hf rfl fun a hf=>zT h ?_
 refine wp_ret ?_
 obtain rfl:=sj hF
 replace hc:=hc.drop k0
 exact zO1 Tryz.results93 hf rfl ⟨rfl,hc⟩

def gK (N:Nat) (n:bC) (x:Int):Option (dA (Int) (Int)) :=
 cond (decide (x < ((n.Reaches.length:Nat):Int)))
 (Option.bind (cM n.Reaches x) fun B=>
 cond (((!(bM B.From 0 (W (((n.Gains.length:Nat):Int) - 1)))) || (!(bM B.To 0 (W (((n.Gains.length:Nat):Int) - 1))))) || (B.From == B.To))
 (some (.ret 2))
 (cond (!(fK B.Flow))
 (some (.ret 90))
 (some (.cont (W (x + 1))))))
 (some (.brk x))
def oL (N:Nat) (n:bC):Option (Int) :=
 cond ((!(bM ((n.Gains.length:Nat):Int) 1 8)) || (decide (14 < ((n.Reaches.length:Nat):Int))))
 (some 3)
 (Option.bind (jQ N n.Gains) fun r=>
 cond (!r)
 (some 90)
 (Option.bind (bN (fun s9=>gK N n s9) N 0) fun x9=>
 exK x9 (fun s9=>some 0) some))
theorem aA9 {N:Nat} {G:bA} {Lf:List Ent} {w:World} (n:bC) {I:Option Addr} {J:Nat} {D:Option Addr} {H:Nat} (U:Rd G 2 I J (n.Gains.map aJ)) (R:Rd G 4 D H (n.Reaches.map bH)) (hc:Ctx G (Lf) w) {X:Int} (hF:oL N n=some X):Calls Tryz.prog 59 #[.agg #[.slice I n.Gains.length J,.slice D n.Reaches.length H]] w (fun e w=>e=.returned (i6 X)∧Ctx G (Lf) w):=by
 unfold oL at hF
 refine cC Tryz.func59 rfl Tryz.ntmps59 rfl fun a hf=>zS fun K h=>zB hf hc rfl fun O a w hf hc=>sp 1 hf rfl fun a hf=>zT h ?_
 refine wp_seq_k fun K2 h2=>wp_block ?_
 refine zS fun K h=>zP hf rfl (pFA sC rfl) fun a hf=>zL hf hc sA m0 rfl fun a w hf hc=>zP hf rfl (cP Tryz.underlying35 rfl) fun a hf=>zQ (v:=.bool (bM ((n.Gains.length:Nat):Int) 1 8)) hf hc aHs rfl (fun w hc=>oN ((n.Gains.length:Nat):Int) 1 8 hc rfl) fun a w hf hc=>sp 2 hf rfl fun a hf=>fL 5 (fun a=>Has 61 a [(1,pq O),(6,pq O),(7,.slice I n.Gains.length J),(8,i6 ((n.Gains.length:Nat):Int)),(9,.bool (bM ((n.Gains.length:Nat):Int) 1 8)),(10,.bool (!(bM ((n.Gains.length:Nat):Int) 1 8))),(11,.bool (!(bM ((n.Gains.length:Nat):Int) 1 8))),(16,.bool ((!(bM ((n.Gains.length:Nat):Int) 1 8)) || (decide (14 < ((n.Reaches.length:Nat):Int)))))]) hc ?_ ?_
 ·cases hb:(!(bM ((n.Gains.length:Nat):Int) 1 8))
  ·rw [hb] at hf
   refine zP hf rfl (pFA rA rfl) fun a hf=>zL hf hc yX m0 rfl fun a w hf hc=>zP hf rfl (cP Tryz.underlying36 rfl) fun a hf=>sp 2 hf rfl fun a hf=>aQ ⟨hf.kp rfl,hc⟩
  ·rw [hb] at hf
   refine stS hf rfl rfl rfl fun a hf=>stS hf rfl rfl rfl fun a hf=>stS hf rfl rfl rfl fun a hf=>stS hf rfl rfl rfl fun a hf=>sp 1 hf rfl fun a hf=>aQ ⟨hf.kp rfl,hc⟩
 intro a w ⟨hf,hc⟩
 refine sp 1 hf rfl fun a hf=>zT h ?_
 refine zI hf rfl hF ?_ ?_ <;> clear hF <;> intro hF
 ·refine zS fun K h=>sp 1 hf rfl fun a hf=>zT h ?_
  refine wp_ret ?_
  refine cI ?_
  refine aU ?_
  obtain rfl:=sj hF
  replace hc:=hc.drop k0
  exact zO1 Tryz.results59 hf rfl ⟨rfl,hc⟩
 ·refine zS fun K h=>zP hf rfl (pFA sC rfl) fun a hf=>zL hf hc sA m0 rfl fun a w hf hc=>?_
  obtain ⟨r,hr,hF⟩:=aC hF
  refine zQ (v:=.bool r) hf hc en_93 rfl (fun w hc=>tH n.Gains U hc hr) fun a w hf hc=>sp 2 hf rfl fun a hf=>zT h ?_
  refine zI hf rfl hF ?_ ?_ <;> clear hF <;> intro hF
  ·refine zS fun K h=>sp 1 hf rfl fun a hf=>zT h ?_
   refine wp_ret ?_
   refine cI ?_
   refine aU ?_
   obtain rfl:=sj hF
   replace hc:=hc.drop k0
   exact zO1 Tryz.results59 hf rfl ⟨rfl,hc⟩
  ·refine wp_skip ?_
   refine h2 _ _ ?_
   refine wp_seq_k fun K7 h7=>zS fun K h=>zP hf rfl (pFA rA rfl) fun a hf=>zL hf hc yX m0 rfl fun a w hf hc=>zP hf rfl (cP Tryz.underlying36 rfl) fun a hf=>sp 1 hf rfl fun a hf=>zT h ?_
   refine wp_block ?_
   obtain ⟨x9,k,hF⟩:=aC hF
   let S9:Int→Act→World→Prop:=(fun (zz:Int) a w=>Has 61 a [(1,pq O),(23,.slice D n.Reaches.length H),(24,i6 ((n.Reaches.length:Nat):Int)),(25,i6 zz)]∧Ctx G (.box O [.slice I n.Gains.length J,.slice D n.Reaches.length H] 38::Lf) w)
   have d:∀ (zz:Int) a w,x9=.go zz→S9 zz a w→K7 a w:=by
    rintro x a w rfl ⟨hf,hc⟩
    replace hF:=cJ hF
    refine h7 _ _ ?_
    refine zS fun K h=>sp 1 hf rfl fun a hf=>zT h ?_
    refine wp_ret ?_
    obtain rfl:=sj hF
    replace hc:=hc.drop k0
    exact zO1 Tryz.results59 hf rfl ⟨rfl,hc⟩
   have Y:∀ r,x9=.out r→r=X:=by
    rintro r rfl
    exact sj hF
   refine dQ N (dP (S:=S9) (x:=x9) ?_ N 0 _ _ ⟨hf.kp rfl,hc⟩ k)
   clear hF hf hc
   rintro x m a w KB9 ⟨hf,hc⟩ hF M g
   unfold gK at hF
   refine zS fun K h=>sp 1 hf rfl fun a hf=>zT h ?_
   refine wp_seq_k fun K12 j=>zI hf rfl hF ?_ ?_ <;> clear hF <;> intro hF
   ·refine wp_skip ?_
    refine j _ _ ?_
    refine wp_seq_k fun K13 i=>wp_block ?_
    refine zS fun K h=>?_
    obtain ⟨B,Z,hF⟩:=aC hF
    obtain ⟨p,o,qa,qp⟩:=R.atm Z
    refine zP hf rfl (pIA Tryz.underlying36 zY rfl rfl qa) fun a hf=>zE hf hc rfl (kK (vs:=[i6 B.From,i6 B.To,i6 B.Flow.Lo,i6 B.Flow.Hi]) aJc rfl rfl (dF qp (n:=4) (o':=0) rfl)) fun a w hf hc=>zA hf hc aJv rfl fun V a w hf hc=>zW hf hc zY u0 rfl fun w hc=>zT h ?_
    refine lR fun K15 b=>wp_block ?_
    refine zS fun K h=>zP hf rfl (pFA xZ rfl) fun a hf=>zL hf hc aX m0 rfl fun a w hf hc=>zP hf rfl (pFA sC rfl) fun a hf=>zL hf hc sA m1 rfl fun a w hf hc=>zP hf rfl (cP Tryz.underlying35 rfl) fun a hf=>sp 1 hf rfl fun a hf=>zQ (v:=.bool (bM B.From 0 (W (((n.Gains.length:Nat):Int) - 1)))) hf hc aHs rfl (fun w hc=>oN B.From 0 (W (((n.Gains.length:Nat):Int) - 1)) hc rfl) fun a w hf hc=>sp 2 hf rfl fun a hf=>fL 9 (fun a=>Has 61 a [(1,pq O),(23,.slice D n.Reaches.length H),(24,i6 ((n.Reaches.length:Nat):Int)),(25,i6 x),(4,pq V),(30,pq V),(31,i6 B.From),(32,pq O),(33,.slice I n.Gains.length J),(34,i6 ((n.Gains.length:Nat):Int)),(35,i6 (W (((n.Gains.length:Nat):Int) - 1))),(36,.bool (bM B.From 0 (W (((n.Gains.length:Nat):Int) - 1)))),(37,.bool (!(bM B.From 0 (W (((n.Gains.length:Nat):Int) - 1))))),(38,.bool (!(bM B.From 0 (W (((n.Gains.length:Nat):Int) - 1))))),(47,.bool ((!(bM B.From 0 (W (((n.Gains.length:Nat):Int) - 1)))) || (!(bM B.To 0 (W (((n.Gains.length:Nat):Int) - 1))))))]) hc ?_ ?_
    ·cases hb:(!(bM B.From 0 (W (((n.Gains.length:Nat):Int) - 1))))
     ·rw [hb] at hf
      refine zP hf rfl (pFA xW rfl) fun a hf=>zL hf hc aX m0 rfl fun a w hf hc=>zP hf rfl (pFA sC rfl) fun a hf=>zL hf hc sA m1 rfl fun a w hf hc=>zP hf rfl (cP Tryz.underlying35 rfl) fun a hf=>sp 1 hf rfl fun a hf=>zQ (v:=.bool (bM B.To 0 (W (((n.Gains.length:Nat):Int) - 1)))) hf hc aHs rfl (fun w hc=>oN B.To 0 (W (((n.Gains.length:Nat):Int) - 1)) hc rfl) fun a w hf hc=>sp 2 hf rfl fun a hf=>aQ ⟨hf.kp rfl,hc⟩
     ·rw [hb] at hf
      refine stS hf rfl rfl rfl fun a hf=>stS hf rfl rfl rfl fun a hf=>stS hf rfl rfl rfl fun a hf=>stS hf rfl rfl rfl fun a hf=>stS hf rfl rfl rfl fun a hf=>stS hf rfl rfl rfl fun a hf=>stS hf rfl rfl rfl fun a hf=>stS hf rfl rfl rfl fun a hf=>sp 1 hf rfl fun a hf=>aQ ⟨hf.kp rfl,hc⟩
    intro a w ⟨hf,hc⟩
    refine sp 1 hf rfl fun a hf=>fL 6 (fun a=>Has 61 a [(1,pq O),(23,.slice D n.Reaches.length H),(24,i6 ((n.Reaches.length:Nat):Int)),(25,i6 x),(4,pq V),(30,pq V),(31,i6 B.From),(32,pq O),(33,.slice I n.Gains.length J),(34,i6 ((n.Gains.length:Nat):Int)),(35,i6 (W (((n.Gains.length:Nat):Int) - 1))),(36,.bool (bM B.From 0 (W (((n.Gains.length:Nat):Int) - 1)))),(37,.bool (!(bM B.From 0 (W (((n.Gains.length:Nat):Int) - 1))))),(38,.bool (!(bM B.From 0 (W (((n.Gains.length:Nat):Int) - 1))))),(47,.bool ((!(bM B.From 0 (W (((n.Gains.length:Nat):Int) - 1)))) || (!(bM B.To 0 (W (((n.Gains.length:Nat):Int) - 1)))))),(48,.bool ((!(bM B.From 0 (W (((n.Gains.length:Nat):Int) - 1)))) || (!(bM B.To 0 (W (((n.Gains.length:Nat):Int) - 1)))))),(54,.bool (((!(bM B.From 0 (W (((n.Gains.length:Nat):Int) - 1)))) || (!(bM B.To 0 (W (((n.Gains.length:Nat):Int) - 1))))) || (B.From == B.To)))]) hc ?_ ?_
    ·cases hb:((!(bM B.From 0 (W (((n.Gains.length:Nat):Int) - 1)))) || (!(bM B.To 0 (W (((n.Gains.length:Nat):Int) - 1)))))
     ·rw [hb] at hf
      refine zP hf rfl (pFA xZ rfl) fun a hf=>zL hf hc aX m0 rfl fun a w hf hc=>zP hf rfl (pFA xW rfl) fun a hf=>zL hf hc aX m0 rfl fun a w hf hc=>sp 2 hf rfl fun a hf=>aQ ⟨hf.kp rfl,hc⟩
     ·rw [hb] at hf
      refine stS hf rfl rfl rfl fun a hf=>stS hf rfl rfl rfl fun a hf=>stS hf rfl rfl rfl fun a hf=>stS hf rfl rfl rfl fun a hf=>stS hf rfl rfl rfl fun a hf=>sp 1 hf rfl fun a hf=>aQ ⟨hf.kp rfl,hc⟩
    intro a w ⟨hf,hc⟩
    refine sp 1 hf rfl fun a hf=>zT h ?_
    refine zI hf rfl hF ?_ ?_ <;> clear hF <;> intro hF
    ·refine zS fun K h=>sp 1 hf rfl fun a hf=>zT h ?_
     refine wp_ret ?_
     refine cI ?_
     refine aU ?_
     refine cI ?_
     refine aU ?_
     refine aU ?_
     have he:=sj hF
     rw [← he] at M
     replace hF:=Y _ M
     refine cI ?_
     refine aU ?_
     obtain rfl:=hF
     replace hc:=(hc.drop k1).drop k0
     exact zO1 Tryz.results59 hf rfl ⟨rfl,hc⟩
    ·refine zS fun K h=>zP hf rfl (pFA yB rfl) fun a hf=>zN hf hc eY m0 rfl fun a w hf hc=>zQ (v:=.bool (fK B.Flow)) hf hc aOd rfl (fun w hc=>sR B.Flow hc rfl) fun a w hf hc=>sp 2 hf rfl fun a hf=>zT h ?_
     refine zI hf rfl hF ?_ ?_ <;> clear hF <;> intro hF
     ·refine zS fun K h=>sp 1 hf rfl fun a hf=>zT h ?_
      refine wp_ret ?_
      refine cI ?_
      refine aU ?_
      refine cI ?_
      refine aU ?_
      refine aU ?_
      have he:=sj hF
      rw [← he] at M
      replace hF:=Y _ M
      refine cI ?_
      refine aU ?_
      obtain rfl:=hF
      replace hc:=(hc.drop k1).drop k0
      exact zO1 Tryz.results59 hf rfl ⟨rfl,hc⟩
     ·refine wp_skip ?_
      refine b _ _ ?_
      refine i _ _ ?_
      refine cX ?_
      refine sp 2 hf rfl fun a hf=>aQ ?_
      replace hc:=hc.drop k0
      exact g (W (x + 1)) _ _ (sj hF).symm ⟨hf.kp rfl,hc⟩
   ·refine wp_exit ?_
    refine bI ?_
    refine bI ?_
    have he:=sj hF
    rw [← he] at M
    refine fB ?_
    exact d _ _ _ M ⟨hf.kp rfl,hc⟩

def eX (N:Nat) (J:List aE) (D:List aE) (B:Int):Option (dA ((List aE) × Int) (aP)) :=
 cond (decide (B < ((J.length:Nat):Int)))
 (Option.bind (cM D B) fun I=>
 Option.bind (cM D B) fun H=>
 some (.cont ((D.set B.toNat (⟨H.from_,H.to_,H.span,min (max 0 I.span.Lo) I.span.Hi⟩:aE)),W (B + 1))))
 (some (.brk (D,B)))
def fP (N:Nat) (n:bC) (B:Int) (D:List aE):Option (dA (Int × (List aE)) (aP)) :=
 cond (decide (B < ((n.Gains.length:Nat):Int)))
 (Option.bind (cM n.Gains B) fun H=>
 Option.bind (nQ ((D++[(⟨((n.Gains.length:Nat):Int),B,H,0⟩:aE)])).length) fun un=>
 some (.cont (W (B + 1),(D++[(⟨((n.Gains.length:Nat):Int),B,H,0⟩:aE)]))))
 (some (.brk (B,D)))
def gJ (N:Nat) (n:bC) (x:Int) (D:List aE):Option (dA (Int × (List aE)) (aP)) :=
 cond (decide (x < ((n.Reaches.length:Nat):Int)))
 (Option.bind (cM n.Reaches x) fun B=>
 Option.bind (nQ ((D++[(⟨B.From,B.To,B.Flow,0⟩:aE)])).length) fun H=>
 some (.cont (W (x + 1),(D++[(⟨B.From,B.To,B.Flow,0⟩:aE)]))))
 (some (.brk (x,D)))
def mZ (N:Nat) (n:bC):Option (aP) :=
 Option.bind (bN (fun s5=>gJ N n s5.1 s5.2) N (0,([]:List aE))) fun x5=>
 exK x5 (fun s5=>Option.bind (bN (fun s8=>fP N n s8.1 s8.2) N (0,s5.2)) fun x8=>
 exK x8 (fun s8=>Option.bind (bN (fun B=>eX N s8.2 B.1 B.2) N (s8.2,0)) fun D=>
 exK D (fun B=>some (⟨(⟨B.1,((n.Gains.length:Nat):Int)⟩:cH),((n.Reaches.length:Nat):Int)⟩:aP)) some) some) some
theorem aA5 {N:Nat} {G:bA} {Lf:List Ent} {w:World} (n:bC) {O:Option Addr} {M:Nat} {I:Option Addr} {J:Nat} (au:Rd G 2 O M (n.Gains.map aJ)) (am:Rd G 4 I J (n.Reaches.map bH)) (hc:Ctx G (Lf) w) {ag:aP} (hF:mZ N n=some ag):Calls Tryz.prog 60 #[.agg #[.slice O n.Gains.length M,.slice I n.Reaches.length J]] w (fun e w=>∃ (bd:Nat) (bc:Option Addr) (ba:Nat),e=.returned (pq bd)∧Ctx G (.row bc ba (ag.ways.all.map aH) 112 5::.box bd [.slice bc ag.ways.all.length ba,i6 ag.ways.outside,i6 ag.reaches] 78::Lf) w):=by
 unfold mZ at hF
 refine cC Tryz.func60 rfl Tryz.ntmps60 rfl fun a hf=>zS fun K h=>zB hf hc rfl fun an a w hf hc=>sp 1 hf rfl fun a hf=>zT h ?_
 refine zS fun K h=>zP hf rfl (pFA sC rfl) fun a hf=>zL hf hc sA m0 rfl fun a w hf hc=>zP hf rfl (cP Tryz.underlying35 rfl) fun a hf=>zP hf rfl (bJ (cells:=[.slice none 0 0,i6 ((n.Gains.length:Nat):Int)]) aN4 rfl rfl) fun a hf=>zP hf rfl (pFA rA rfl) fun a hf=>zL hf hc yX m0 rfl fun a w hf hc=>zP hf rfl (cP Tryz.underlying36 rfl) fun a hf=>zP hf rfl (bJ (cells:=[.slice none 0 0,i6 ((n.Gains.length:Nat):Int),i6 ((n.Reaches.length:Nat):Int)]) aOp rfl rfl) fun a hf=>zB hf hc rfl fun D a w hf hc=>sp 1 hf rfl fun a hf=>zT h ?_
 refine wp_seq_k fun K3 h3=>zS fun K h=>zP hf rfl (pFA rA rfl) fun a hf=>zL hf hc yX m1 rfl fun a w hf hc=>zP hf rfl (cP Tryz.underlying36 rfl) fun a hf=>sp 1 hf rfl fun a hf=>zT h ?_
 refine wp_block ?_
 obtain ⟨x5,bv,hF⟩:=aC hF
 let S5:(Int × (List aE))→Act→World→Prop:=(fun (zz:Int × (List aE)) a w=>∃ (ab:Option Addr) (v:Nat),Has 102 a [(1,pq an),(3,pq D),(20,.slice I n.Reaches.length J),(21,i6 ((n.Reaches.length:Nat):Int)),(22,i6 zz.1)]∧Ctx G (.row ab v (zz.2.map aH) 112 5::.box D [.slice ab zz.2.length v,i6 ((n.Gains.length:Nat):Int),i6 ((n.Reaches.length:Nat):Int)] 78::.box an [.slice O n.Gains.length M,.slice I n.Reaches.length J] 38::Lf) w)
 have cd:∀ (zz:Int × (List aE)) a w,x5=.go zz→S5 zz a w→K3 a w:=by
  rintro ⟨x,m⟩ a w rfl ⟨ab,v,hf,hc⟩
  replace hF:=cJ hF
  refine h3 _ _ ?_
  refine wp_seq_k fun K6 h6=>zS fun K h=>zP hf rfl (pFA sC rfl) fun a hf=>zL hf hc sA m2 rfl fun a w hf hc=>zP hf rfl (cP Tryz.underlying35 rfl) fun a hf=>sp 1 hf rfl fun a hf=>zT h ?_
  refine wp_block ?_
  obtain ⟨x8,bt,hF⟩:=aC hF
  let S8:(Int × (List aE))→Act→World→Prop:=(fun (zz:Int × (List aE)) a w=>∃ (y:Option Addr) (ad:Nat),Has 102 a [(3,pq D),(46,.slice O n.Gains.length M),(47,i6 ((n.Gains.length:Nat):Int)),(48,i6 zz.1)]∧Ctx G (.row y ad (zz.2.map aH) 112 5::.box D [.slice y zz.2.length ad,i6 ((n.Gains.length:Nat):Int),i6 ((n.Reaches.length:Nat):Int)] 78::Lf) w)
  have ca:∀ (zz:Int × (List aE)) a w,x8=.go zz→S8 zz a w→K6 a w:=by
   rintro ⟨X,Z⟩ a w rfl ⟨y,ad,hf,hc⟩
   replace hF:=cJ hF
   refine h6 _ _ ?_
   refine wp_seq_k fun K9 h9=>zS fun K h=>sp 2 hf rfl fun a hf=>zP hf rfl (pFA gA rfl) fun a hf=>zP hf rfl (pFA jI rfl) fun a hf=>zL hf hc qK m1 rfl fun a w hf hc=>zP hf rfl (cP Tryz.underlying74 rfl) fun a hf=>sp 1 hf rfl fun a hf=>zT h ?_
   refine wp_block ?_
   obtain ⟨a6,br,hF⟩:=aC hF
   let S11:((List aE) × Int)→Act→World→Prop:=(fun (zz:(List aE) × Int) a w=>∃ (aj:Option Addr) (V:Nat),Has 102 a [(3,pq D),(77,.slice aj zz.1.length V),(78,i6 ((Z.length:Nat):Int)),(79,i6 zz.2)]∧Ctx G (.row aj V (zz.1.map aH) 112 5::.box D [.slice aj zz.1.length V,i6 ((n.Gains.length:Nat):Int),i6 ((n.Reaches.length:Nat):Int)] 78::Lf) w)
   have bj:∀ (zz:(List aE) × Int) a w,a6=.go zz→S11 zz a w→K9 a w:=by
    rintro ⟨d,Y⟩ a w rfl ⟨aj,V,hf,hc⟩
    replace hF:=cJ hF
    refine h9 _ _ ?_
    refine zS fun K h=>sp 2 hf rfl fun a hf=>zT h ?_
    refine wp_ret ?_
    obtain rfl:=sj hF
    exact zO1 Tryz.results60 hf rfl ⟨D,aj,V,rfl,hc⟩
   have cg:∀ r,a6=.out r→r=ag:=by
    rintro r rfl
    exact sj hF
   refine dQ N (dP (S:=S11) (x:=a6) ?_ N (Z,0) _ _ ⟨y,ad,hf.kp rfl,hc⟩ br)
   clear hF hf hc
   rintro ⟨d,Y⟩ cj a w KB11 ⟨aj,V,hf,hc⟩ hF aq bq
   unfold eX at hF
   refine zS fun K h=>sp 1 hf rfl fun a hf=>zT h ?_
   refine wp_seq_k fun K14 b9=>zI hf rfl hF ?_ ?_ <;> clear hF <;> intro hF
   ·refine wp_skip ?_
    refine b9 _ _ ?_
    refine wp_seq_k fun K15 b1=>wp_block ?_
    refine zS fun K h=>sp 1 hf rfl fun a hf=>?_
    obtain ⟨H,bs,hF⟩:=aC hF
    have b6:=hf
    obtain ⟨g,rfl,qa,qr⟩:=iJ hc m0 bs
    have hf:=b6
    refine zP hf rfl (pIA Tryz.underlying74 kB rfl rfl qa) fun a hf=>zE hf hc rfl (kK (vs:=[i6 H.from_,i6 H.to_,i6 H.span.Lo,i6 H.span.Hi,i6 H.now]) aDc rfl rfl (pP (sz:=5) (i:=Y.toNat) m0 qr (n:=5) (o':=0) rfl)) fun a w hf hc=>zA hf hc aCr rfl fun ai a w hf hc=>sp 1 hf rfl fun a hf=>zW hf hc kB u0 rfl fun w hc=>zT h ?_
    obtain ⟨U,ay,hF⟩:=aC hF
    obtain ⟨bk,ck⟩:=jX hc m1 ay
    refine cU (fun θ=>[⟨none,none,3,pq D⟩,⟨none,none,8,i6 Y⟩,⟨none,none,9,pq ai⟩,⟨none,none,77,.slice (some ⟨g,0,none⟩) d.length V⟩,⟨none,none,78,i6 ((Z.length:Nat):Int)⟩,⟨none,none,79,i6 Y⟩,⟨some 0,none,84,pq D⟩,⟨some 1,none,85,pq D⟩,⟨some 2,none,86,pq D⟩,⟨some 3,none,87,pq D⟩,⟨some 4,none,88,.slice (some ⟨g,0,none⟩) d.length V⟩,⟨some 5,none,89,i6 Y⟩,⟨some 6,none,90,.pointer (some ⟨ai,2,none⟩)⟩,⟨some 7,none,91,.pointer (some ⟨ai,2,none⟩)⟩,⟨some 8,none,92,i6 H.span.Lo⟩,⟨some 9,none,93,i6 (max 0 H.span.Lo)⟩,⟨some 10,none,94,.pointer (some ⟨ai,2,none⟩)⟩,⟨some 11,none,95,.pointer (some ⟨ai,3,none⟩)⟩,⟨some 12,none,96,i6 H.span.Hi⟩,⟨some 13,none,97,i6 (min (max 0 H.span.Lo) H.span.Hi)⟩,⟨some 14,none,98,.pointer (some ⟨g,Y.toNat * 5,none⟩)⟩,⟨some 15,none,99,.pointer (some ⟨g,Y.toNat * 5 + 4,none⟩)⟩]) (fun E θ=>.box ai [i6 H.from_,i6 H.to_,i6 H.span.Lo,i6 H.span.Hi,i6 H.now] 112::(bif E 16 then .row (some ⟨g,0,none⟩) V ((d.set Y.toNat (⟨U.from_,U.to_,U.span,min (max 0 H.span.Lo) H.span.Hi⟩:aE)).map aH) 112 5 else .row (some ⟨g,0,none⟩) V (d.map aH) 112 5)::.box D [.slice (some ⟨g,0,none⟩) d.length V,i6 ((n.Gains.length:Nat):Int),i6 ((n.Reaches.length:Nat):Int)] 78::Lf) [(15,14),(16,15)] (fun a w=>Has 102 a [(3,pq D),(77,.slice (some ⟨g,0,none⟩) d.length V),(78,i6 ((Z.length:Nat):Int)),(79,i6 Y)]∧Ctx G (.box ai [i6 H.from_,i6 H.to_,i6 H.span.Lo,i6 H.span.Hi,i6 H.now] 112::.row (some ⟨g,0,none⟩) V ((d.set Y.toNat (⟨U.from_,U.to_,U.span,min (max 0 H.span.Lo) H.span.Hi⟩:aE)).map aH) 112 5::.box D [.slice (some ⟨g,0,none⟩) d.length V,i6 ((n.Gains.length:Nat):Int),i6 ((n.Reaches.length:Nat):Int)] 78::Lf) w) aT (by kernel_rfl) (by kernel_rfl) (dL.of hf ⟨rfl,rfl,rfl,rfl,rfl,rfl,trivial,trivial,trivial,trivial,trivial,trivial,trivial,trivial,trivial,trivial,trivial,trivial,trivial,trivial,trivial,trivial,trivial⟩) hc ⟨?_,?_,?_,?_,?_,?_,?_,?_,?_,?_,?_,?_,?_,?_,?_,?_,?_,trivial⟩ ?_ ?_
    ·intro E θ a w hD hi hp he hc
     have hf:=he.h0.mT he 0 rfl
     refine sp 1 hf rfl fun a hf=>zD θ he hi hf 6 rfl rfl rfl hc
    ·intro E θ a w hD hi hp he hc
     have e0:=hp.o 0 rfl
     have hf:=he.h0.mP he 6 rfl e0
     refine sp 1 hf rfl fun a hf=>zD θ he hi hf 7 rfl rfl rfl hc
    ·intro E θ a w hD hi hp he hc
     have e1:=hp.o 1 rfl
     have hf:=he.h0.mP he 7 rfl e1
     refine zP hf rfl (pFA gA rfl) fun a hf=>zD θ he hi hf 8 rfl rfl rfl hc
    ·intro E θ a w hD hi hp he hc
     have e2:=hp.o 2 rfl
     have hf:=he.h0.mP he 8 rfl e2
     refine zP hf rfl (pFA jI rfl) fun a hf=>zD θ he hi hf 9 rfl rfl rfl hc
    ·intro E θ a w hD hi hp he hc
     have e3:=hp.o 3 rfl
     have hf:=he.h0.mP he 9 rfl e3
     refine zL hf hc qK m2 rfl fun a w hf hc=>zD θ he hi hf 10 rfl rfl rfl hc
    ·intro E θ a w hD hi hp he hc
     have hf:=he.h0.mT he 1 rfl
     refine sp 1 hf rfl fun a hf=>zD θ he hi hf 11 rfl rfl rfl hc
    ·intro E θ a w hD hi hp he hc
     have hf:=he.h0.mT he 2 rfl
     refine zP hf rfl (pFA zH rfl) fun a hf=>zD θ he hi hf 12 rfl rfl rfl hc
    ·intro E θ a w hD hi hp he hc
     have e6:=hp.o 6 rfl
     have hf:=he.h0.mP he 12 rfl e6
     refine zP hf rfl (pFA iH rfl) fun a hf=>zD θ he hi hf 13 rfl rfl rfl hc
    ·intro E θ a w hD hi hp he hc
     have e7:=hp.o 7 rfl
     have hf:=he.h0.mP he 13 rfl e7
     refine zL hf hc aX m0 rfl fun a w hf hc=>zD θ he hi hf 14 rfl rfl rfl hc
    ·intro E θ a w hD hi hp he hc
     have e8:=hp.o 8 rfl
     have hf:=he.h0.mP he 14 rfl e8
     refine zP hf rfl (aAk rfl rfl) fun a hf=>zD θ he hi hf 15 rfl rfl rfl hc
    ·intro E θ a w hD hi hp he hc
     have hf:=he.h0.mT he 2 rfl
     refine zP hf rfl (pFA zH rfl) fun a hf=>zD θ he hi hf 16 rfl rfl rfl hc
    ·intro E θ a w hD hi hp he hc
     have av:=hp.o 10 rfl
     have hf:=he.h0.mP he 16 rfl av
     refine zP hf rfl (pFA fQ rfl) fun a hf=>zD θ he hi hf 17 rfl rfl rfl hc
    ·intro E θ a w hD hi hp he hc
     have ar:=hp.o 11 rfl
     have hf:=he.h0.mP he 17 rfl ar
     refine zL hf hc aX m0 rfl fun a w hf hc=>zD θ he hi hf 18 rfl rfl rfl hc
    ·intro E θ a w hD hi hp he hc
     have e9:=hp.o 9 rfl
     have ax:=hp.o 12 rfl
     have hf:=(he.h0.mP he 15 rfl e9).mP he 18 rfl ax
     refine zP hf rfl (aFi rfl rfl) fun a hf=>zD θ he hi hf 19 rfl rfl rfl hc
    ·intro E θ a w hD hi hp he hc
     have e4:=hp.o 4 rfl
     have e5:=hp.o 5 rfl
     have ac:=hD.f 0 rfl hi
     have af:=hD.f 1 rfl ac
     try dsimp only at hc
     rw [af] at hc
     have hf:=(he.h0.mP he 10 rfl e4).mP he 11 rfl e5
     refine zP hf rfl (pIA Tryz.underlying74 kB rfl rfl bk) fun a hf=>zD θ he hi hf 20 rfl rfl rfl ?_
     try dsimp only
     rw [aS 14 af rfl]
     exact hc
    ·intro E θ a w hD hi hp he hc
     have q:=hp.o 14 rfl
     have hf:=he.h0.mP he 20 rfl q
     refine zP hf rfl (pFA jZ rfl) fun a hf=>zD θ he hi hf 21 rfl rfl rfl hc
    ·intro E θ a w hD hi hp he hc
     have aa:=hp.o 13 rfl
     have ac:=hp.o 15 rfl
     try dsimp only at hc
     rw [hi] at hc
     have hf:=(he.h0.mP he 19 rfl aa).mP he 21 rfl ac
     refine aGj (sz:=5) (vs:=[i6 (min (max 0 H.span.Lo) H.span.Hi)]) (o':=4) (z:=(⟨U.from_,U.to_,U.span,min (max 0 H.span.Lo) H.span.Hi⟩:aE)) (xs:=d) hf hc rfl rfl rfl rfl fD rfl (fun x=>(eU x).1) (qX ay) (fun e' cf=>by cases (cf.symm.trans (kS ay).2); rfl) rfl u1 fun w hc=>zG θ he hi hf rfl ?_
     try dsimp only
     rw [aN E 16]
     exact hc
    ·intro E θ a w j he hc
     have hf:=he.h0
     have af:=j 16 rfl
     replace hf:=hf.more he 5 rfl (onT)
     replace hf:=hf.more he 4 rfl (onT)
     replace hf:=hf.more he 3 rfl (onT)
     replace hf:=hf.more he 0 rfl (onT)
     try dsimp only at hc
     rw [af] at hc
     exact ⟨hf.kp rfl,hc⟩
    rintro a w ⟨hf,hc⟩
    refine b1 _ _ ?_
    refine cX ?_
    refine sp 2 hf rfl fun a hf=>aQ ?_
    replace hc:Ctx G (.box ai [i6 H.from_,i6 H.to_,i6 H.span.Lo,i6 H.span.Hi,i6 H.now] 112::.row (some ⟨g,0,none⟩) V ((d.set Y.toNat (⟨U.from_,U.to_,U.span,min (max 0 H.span.Lo) H.span.Hi⟩:aE)).map aH) 112 5::.box D [.slice (some ⟨g,0,none⟩) ((d.set Y.toNat (⟨U.from_,U.to_,U.span,min (max 0 H.span.Lo) H.span.Hi⟩:aE)).length) V,i6 ((n.Gains.length:Nat):Int),i6 ((n.Reaches.length:Nat):Int)] 78::Lf) w:=by simp only [List.length_set] at hc ⊢; exact hc
    replace hf:=hf.castAt 77 (v':=.slice (some ⟨g,0,none⟩) ((d.set Y.toNat (⟨U.from_,U.to_,U.span,min (max 0 H.span.Lo) H.span.Hi⟩:aE)).length) V) rfl (congrArg (fun k=>Value.slice (some ⟨g,0,none⟩) k V) (by simp))
    replace hc:=hc.drop k0
    exact bq ((d.set Y.toNat (⟨U.from_,U.to_,U.span,min (max 0 H.span.Lo) H.span.Hi⟩:aE)),W (Y + 1)) _ _ (sj hF).symm ⟨(some ⟨g,0,none⟩),V,hf.kp rfl,hc⟩
   ·refine wp_exit ?_
    refine bI ?_
    refine bI ?_
    have he:=sj hF
    rw [← he] at aq
    refine fB ?_
    exact bj _ _ _ aq ⟨aj,V,hf.kp rfl,hc⟩
  have cr:∀ r,x8=.out r→r=ag:=by
   rintro r rfl
   exact sj hF
  replace hc:=hc.drop k2
  refine dQ N (dP (S:=S8) (x:=x8) ?_ N (0,m) _ _ ⟨ab,v,hf.kp rfl,hc⟩ bt)
  clear hF hf hc
  rintro ⟨X,Z⟩ cm a w KB8 ⟨y,ad,hf,hc⟩ hF az cc
  unfold fP at hF
  refine zS fun K h=>sp 1 hf rfl fun a hf=>zT h ?_
  refine wp_seq_k fun K18 b2=>zI hf rfl hF ?_ ?_ <;> clear hF <;> intro hF
  ·refine wp_skip ?_
   refine b2 _ _ ?_
   refine wp_seq_k fun K19 b3=>wp_block ?_
   refine zS fun K h=>sp 1 hf rfl fun a hf=>?_
   obtain ⟨R,bm,hF⟩:=aC hF
   obtain ⟨cp,o,bi,qp⟩:=au.atm bm
   refine zP hf rfl (pIA Tryz.underlying35 fS rfl rfl bi) fun a hf=>zE hf hc rfl (kK (vs:=[i6 R.Lo,i6 R.Hi]) eY rfl rfl (dF qp (n:=2) (o':=0) rfl)) fun a w hf hc=>zA hf hc rE rfl fun a7 a w hf hc=>sp 1 hf rfl fun a hf=>zW hf hc fS u0 rfl fun w hc=>zT h ?_
   obtain ⟨un,cb,hF⟩:=aC hF
   replace hc:=hc.nilRow 0 0
   refine cU (fun θ=>[⟨none,none,3,pq D⟩,⟨none,none,6,i6 X⟩,⟨none,none,7,pq a7⟩,⟨none,none,46,.slice O n.Gains.length M⟩,⟨none,none,47,i6 ((n.Gains.length:Nat):Int)⟩,⟨none,none,48,i6 X⟩,⟨some 0,none,53,pq D⟩,⟨some 1,none,54,pq D⟩,⟨some 2,none,55,pq D⟩,⟨some 3,none,56,pq D⟩,⟨some 4,none,57,pq D⟩,⟨some 5,none,58,.slice y Z.length ad⟩,⟨some 6,none,59,pq D⟩,⟨some 7,none,60,pq D⟩,⟨some 8,none,61,pq D⟩,⟨some 9,none,62,.pointer (some ⟨D,1,none⟩)⟩,⟨some 10,none,63,i6 ((n.Gains.length:Nat):Int)⟩,⟨some 11,none,64,i6 X⟩,⟨some 12,none,65,.agg #[i6 R.Lo,i6 R.Hi]⟩,⟨some 13,none,66,.agg #[i6 ((n.Gains.length:Nat):Int),i6 X,i6 R.Lo,i6 R.Hi,i6 0]⟩,⟨some 14,none,67,.slice (some ⟨(θ 112).b,0,none⟩) 1 1⟩,⟨some 15,none,68,.slice ((θ 120).p) ((Z++[(⟨((n.Gains.length:Nat):Int),X,R,0⟩:aE)]).length) ((θ 120).c)⟩,⟨some 16,none,69,pq D⟩,⟨some 17,none,70,pq D⟩,⟨some 18,none,71,pq D⟩]) (fun E θ=>(bif E 14 then .row (some ⟨(θ 112).b,0,none⟩) 1 (([(⟨((n.Gains.length:Nat):Int),X,R,0⟩:aE)]:List aE).map aH) 112 5 else .row none 0 [] 0 0)::.box a7 [i6 R.Lo,i6 R.Hi] 29::(bif E 15 then .row ((θ 120).p) ((θ 120).c) ((Z++[(⟨((n.Gains.length:Nat):Int),X,R,0⟩:aE)]).map aH) 112 5 else .row y ad (Z.map aH) 112 5)::(bif E 19 then .box D [.slice ((θ 120).p) ((Z++[(⟨((n.Gains.length:Nat):Int),X,R,0⟩:aE)]).length) ((θ 120).c),i6 ((n.Gains.length:Nat):Int),i6 ((n.Reaches.length:Nat):Int)] 78 else .box D [.slice y Z.length ad,i6 ((n.Gains.length:Nat):Int),i6 ((n.Reaches.length:Nat):Int)] 78)::Lf) [(19,5),(19,10),(19,15)] (fun a w=>∃ (bb:Nat) (a4:Option Addr) (a3:Nat),Has 102 a [(3,pq D),(46,.slice O n.Gains.length M),(47,i6 ((n.Gains.length:Nat):Int)),(48,i6 X)]∧Ctx G (.row (some ⟨bb,0,none⟩) 1 (([(⟨((n.Gains.length:Nat):Int),X,R,0⟩:aE)]:List aE).map aH) 112 5::.box a7 [i6 R.Lo,i6 R.Hi] 29::.row a4 a3 ((Z++[(⟨((n.Gains.length:Nat):Int),X,R,0⟩:aE)]).map aH) 112 5::.box D [.slice a4 ((Z++[(⟨((n.Gains.length:Nat):Int),X,R,0⟩:aE)]).length) a3,i6 ((n.Gains.length:Nat):Int),i6 ((n.Reaches.length:Nat):Int)] 78::Lf) w) aT (by kernel_rfl) (by kernel_rfl) (dL.of hf ⟨rfl,rfl,rfl,rfl,rfl,rfl,trivial,trivial,trivial,trivial,trivial,trivial,trivial,trivial,trivial,trivial,trivial,trivial,trivial,trivial,trivial,trivial,trivial,trivial,trivial,trivial⟩) hc ⟨?_,?_,?_,?_,?_,?_,?_,?_,?_,?_,?_,?_,?_,?_,?_,?_,?_,?_,?_,?_,trivial⟩ ?_ ?_
   ·intro E θ a w hD hi hp he hc
    have hf:=he.h0.mT he 0 rfl
    refine sp 1 hf rfl fun a hf=>zD θ he hi hf 6 rfl rfl rfl hc
   ·intro E θ a w hD hi hp he hc
    have hf:=he.h0.mT he 0 rfl
    refine sp 1 hf rfl fun a hf=>zD θ he hi hf 7 rfl rfl rfl hc
   ·intro E θ a w hD hi hp he hc
    have e1:=hp.o 1 rfl
    have hf:=he.h0.mP he 7 rfl e1
    refine sp 1 hf rfl fun a hf=>zD θ he hi hf 8 rfl rfl rfl hc
   ·intro E θ a w hD hi hp he hc
    have e2:=hp.o 2 rfl
    have hf:=he.h0.mP he 8 rfl e2
    refine zP hf rfl (pFA gA rfl) fun a hf=>zD θ he hi hf 9 rfl rfl rfl hc
   ·intro E θ a w hD hi hp he hc
    have e3:=hp.o 3 rfl
    have hf:=he.h0.mP he 9 rfl e3
    refine zP hf rfl (pFA jI rfl) fun a hf=>zD θ he hi hf 10 rfl rfl rfl hc
   ·intro E θ a w hD hi hp he hc
    have e4:=hp.o 4 rfl
    have s:=hD.f 0 rfl hi
    try dsimp only at hc
    rw [s] at hc
    have hf:=he.h0.mP he 10 rfl e4
    refine zL hf hc qK m3 rfl fun a w hf hc=>zD θ he hi hf 11 rfl rfl rfl ?_
    try dsimp only
    rw [aS 5 s rfl]
    exact hc
   ·intro E θ a w hD hi hp he hc
    have hf:=he.h0.mT he 0 rfl
    refine sp 1 hf rfl fun a hf=>zD θ he hi hf 12 rfl rfl rfl hc
   ·intro E θ a w hD hi hp he hc
    have e6:=hp.o 6 rfl
    have hf:=he.h0.mP he 12 rfl e6
    refine sp 1 hf rfl fun a hf=>zD θ he hi hf 13 rfl rfl rfl hc
   ·intro E θ a w hD hi hp he hc
    have e7:=hp.o 7 rfl
    have hf:=he.h0.mP he 13 rfl e7
    refine zP hf rfl (pFA gA rfl) fun a hf=>zD θ he hi hf 14 rfl rfl rfl hc
   ·intro E θ a w hD hi hp he hc
    have e8:=hp.o 8 rfl
    have hf:=he.h0.mP he 14 rfl e8
    refine zP hf rfl (pFA yW rfl) fun a hf=>zD θ he hi hf 15 rfl rfl rfl hc
   ·intro E θ a w hD hi hp he hc
    have e9:=hp.o 9 rfl
    have s:=hD.f 1 rfl hi
    try dsimp only at hc
    rw [s] at hc
    have hf:=he.h0.mP he 15 rfl e9
    refine zL hf hc aX m3 rfl fun a w hf hc=>zD θ he hi hf 16 rfl rfl rfl ?_
    try dsimp only
    rw [aS 10 s rfl]
    exact hc
   ·intro E θ a w hD hi hp he hc
    have hf:=he.h0.mT he 1 rfl
    refine sp 1 hf rfl fun a hf=>zD θ he hi hf 17 rfl rfl rfl hc
   ·intro E θ a w hD hi hp he hc
    have hf:=he.h0.mT he 2 rfl
    refine zN hf hc eY m1 rfl fun a w hf hc=>zD θ he hi hf 18 rfl rfl rfl hc
   ·intro E θ a w hD hi hp he hc
    have av:=hp.o 10 rfl
    have ar:=hp.o 11 rfl
    have ax:=hp.o 12 rfl
    have hf:=((he.h0.mP he 16 rfl av).mP he 17 rfl ar).mP he 18 rfl ax
    refine zP hf rfl (bJ (cells:=[i6 ((n.Gains.length:Nat):Int),i6 X,i6 R.Lo,i6 R.Hi,i6 0]) aK8 rfl rfl) fun a hf=>zD θ he hi hf 19 rfl rfl rfl hc
   ·intro E θ a w hD hi hp he hc
    have aa:=hp.o 13 rfl
    try dsimp only at hc
    rw [hi] at hc
    have hf:=he.h0.mP he 19 rfl aa
    refine oJ (rows:=([(⟨((n.Gains.length:Nat):Int),X,R,0⟩:aE)]:List aE).map aH) (vs:=[(0,.agg #[i6 ((n.Gains.length:Nat):Int),i6 X,i6 R.Lo,i6 R.Hi,i6 0])]) hf hc rfl rfl aFo rfl ⟨rfl,rfl,rfl,trivial⟩ rfl rfl fun b5 a w hf hc=>aQ ?_
    refine bV ?_
    intro ds u ak
    replace hc:=hc.drop k1
    refine ⟨(hZ θ 112 ⟨b5,none,0,(fun _=>(none,0))⟩),he.put hi ak hf rfl [] trivial ⟨qq,qq,qq,qq,qq,qq,qq,qq,qq,qq,qq,qq,qq,qq,qq,qq,qq,qq,qq,qq,qq,qq,qq,qq,qq,trivial⟩,?_⟩
    try dsimp only
    rw [aN E 14]
    exact hc
   ·intro E θ a w hD hi hp he hc
    have e5:=hp.o 5 rfl
    have q:=hp.o 14 rfl
    have s:=hD.f 2 rfl hi
    try dsimp only at hc
    rw [q,hi,s] at hc
    have hf:=(he.h0.mP he 11 rfl e5).mP he 20 rfl q
    refine lO (xs:=Z) (ys:=([(⟨((n.Gains.length:Nat):Int),X,R,0⟩:aE)]:List aE)) hf hc rfl rfl aFo rfl rfl rfl rfl rfl eU (fM hc m0) (fun _ _=>u2) (by simpa using dB cb) fun b4 b8 a w hf hc=>aQ ?_
    refine bV ?_
    intro ds u ak
    refine ⟨(hZ θ 120 ⟨0,b4,b8,(fun _=>(none,0))⟩),he.put hi ak hf rfl [] trivial ⟨qq,qq,qq,qq,qq,qq,qq,qq,qq,qq,qq,qq,qq,qq,qq,qq,qq,qq,qq,qq,qq,qq,qq,qq,qq,trivial⟩,?_⟩
    try dsimp only
    rw [cB 15 q,aN E 15,aS 15 s rfl]
    exact hc
   ·intro E θ a w hD hi hp he hc
    have e0:=hp.o 0 rfl
    have hf:=he.h0.mP he 6 rfl e0
    refine sp 1 hf rfl fun a hf=>zD θ he hi hf 22 rfl rfl rfl hc
   ·intro E θ a w hD hi hp he hc
    have af:=hp.o 16 rfl
    have hf:=he.h0.mP he 22 rfl af
    refine zP hf rfl (pFA gA rfl) fun a hf=>zD θ he hi hf 23 rfl rfl rfl hc
   ·intro E θ a w hD hi hp he hc
    have a8:=hp.o 17 rfl
    have hf:=he.h0.mP he 23 rfl a8
    refine zP hf rfl (pFA jI rfl) fun a hf=>zD θ he hi hf 24 rfl rfl rfl hc
   ·intro E θ a w hD hi hp he hc
    have ac:=hp.o 15 rfl
    have t:=hp.o 18 rfl
    try dsimp only at hc
    rw [hi] at hc
    have hf:=(he.h0.mP he 21 rfl ac).mP he 24 rfl t
    refine zW hf hc aO4 u3 rfl fun w hc=>zG θ he hi hf rfl ?_
    try dsimp only
    rw [aN E 19]
    exact hc
   ·intro E θ a w j he hc
    have hf:=he.h0
    have q:=j 14 rfl
    have ac:=j 15 rfl
    have s:=j 19 rfl
    replace hf:=hf.more he 5 rfl (onT)
    replace hf:=hf.more he 4 rfl (onT)
    replace hf:=hf.more he 3 rfl (onT)
    replace hf:=hf.more he 0 rfl (onT)
    try dsimp only at hc
    rw [q,ac,s] at hc
    exact ⟨(θ 112).b,(θ 120).p,(θ 120).c,hf.kp rfl,hc⟩
   rintro a w ⟨bb,a4,a3,hf,hc⟩
   refine b3 _ _ ?_
   refine cX ?_
   refine sp 2 hf rfl fun a hf=>aQ ?_
   replace hc:=(hc.drop k1).drop k0
   exact cc (W (X + 1),(Z++[(⟨((n.Gains.length:Nat):Int),X,R,0⟩:aE)])) _ _ (sj hF).symm ⟨a4,a3,hf.kp rfl,hc⟩
  ·refine wp_exit ?_
   refine bI ?_
   refine bI ?_
   have he:=sj hF
   rw [← he] at az
   refine fB ?_
   exact ca _ _ _ az ⟨y,ad,hf.kp rfl,hc⟩
 have cq:∀ r,x5=.out r→r=ag:=by
  rintro r rfl
  exact sj hF
 replace hc:=hc.nilRow 112 5
 refine dQ N (dP (S:=S5) (x:=x5) ?_ N (0,([]:List aE)) _ _ ⟨none,0,hf.kp rfl,hc⟩ bv)
 clear hF hf hc
 rintro ⟨x,m⟩ cn a w KB5 ⟨ab,v,hf,hc⟩ hF a2 bu
 unfold gJ at hF
 refine zS fun K h=>sp 1 hf rfl fun a hf=>zT h ?_
 refine wp_seq_k fun K22 b0=>zI hf rfl hF ?_ ?_ <;> clear hF <;> intro hF
 ·refine wp_skip ?_
  refine b0 _ _ ?_
  refine wp_seq_k fun K23 bz=>wp_block ?_
  refine zS fun K h=>?_
  obtain ⟨B,bf,hF⟩:=aC hF
  obtain ⟨cs,ct,bp,bn⟩:=am.atm bf
  refine zP hf rfl (pIA Tryz.underlying36 zY rfl rfl bp) fun a hf=>zE hf hc rfl (kK (vs:=[i6 B.From,i6 B.To,i6 B.Flow.Lo,i6 B.Flow.Hi]) aJc rfl rfl (dF bn (n:=4) (o':=0) rfl)) fun a w hf hc=>zA hf hc aJv rfl fun ap a w hf hc=>zW hf hc zY u0 rfl fun w hc=>zT h ?_
  obtain ⟨ci,a9,hF⟩:=aC hF
  replace hc:=hc.nilRow 0 0
  refine cU (fun θ=>[⟨none,none,1,pq an⟩,⟨none,none,3,pq D⟩,⟨none,none,5,pq ap⟩,⟨none,none,20,.slice I n.Reaches.length J⟩,⟨none,none,21,i6 ((n.Reaches.length:Nat):Int)⟩,⟨none,none,22,i6 x⟩,⟨some 0,none,26,pq D⟩,⟨some 1,none,27,pq D⟩,⟨some 2,none,28,pq D⟩,⟨some 3,none,29,pq D⟩,⟨some 4,none,30,pq D⟩,⟨some 5,none,31,.slice ab m.length v⟩,⟨some 6,none,32,pq ap⟩,⟨some 7,none,33,i6 B.From⟩,⟨some 8,none,34,.pointer (some ⟨ap,1,none⟩)⟩,⟨some 9,none,35,i6 B.To⟩,⟨some 10,none,36,.pointer (some ⟨ap,2,none⟩)⟩,⟨some 11,none,37,.agg #[i6 B.Flow.Lo,i6 B.Flow.Hi]⟩,⟨some 12,none,38,.agg #[i6 B.From,i6 B.To,i6 B.Flow.Lo,i6 B.Flow.Hi,i6 0]⟩,⟨some 13,none,39,.slice (some ⟨(θ 104).b,0,none⟩) 1 1⟩,⟨some 14,none,40,.slice ((θ 112).p) ((m++[(⟨B.From,B.To,B.Flow,0⟩:aE)]).length) ((θ 112).c)⟩,⟨some 15,none,41,pq D⟩,⟨some 16,none,42,pq D⟩,⟨some 17,none,43,pq D⟩]) (fun E θ=>(bif E 13 then .row (some ⟨(θ 104).b,0,none⟩) 1 (([(⟨B.From,B.To,B.Flow,0⟩:aE)]:List aE).map aH) 112 5 else .row none 0 [] 0 0)::.box ap [i6 B.From,i6 B.To,i6 B.Flow.Lo,i6 B.Flow.Hi] 49::(bif E 14 then .row ((θ 112).p) ((θ 112).c) ((m++[(⟨B.From,B.To,B.Flow,0⟩:aE)]).map aH) 112 5 else .row ab v (m.map aH) 112 5)::(bif E 18 then .box D [.slice ((θ 112).p) ((m++[(⟨B.From,B.To,B.Flow,0⟩:aE)]).length) ((θ 112).c),i6 ((n.Gains.length:Nat):Int),i6 ((n.Reaches.length:Nat):Int)] 78 else .box D [.slice ab m.length v,i6 ((n.Gains.length:Nat):Int),i6 ((n.Reaches.length:Nat):Int)] 78)::.box an [.slice O n.Gains.length M,.slice I n.Reaches.length J] 38::Lf) [(18,5),(18,14)] (fun a w=>∃ (a5:Nat) (a0:Option Addr) (a1:Nat),Has 102 a [(1,pq an),(3,pq D),(20,.slice I n.Reaches.length J),(21,i6 ((n.Reaches.length:Nat):Int)),(22,i6 x)]∧Ctx G (.row (some ⟨a5,0,none⟩) 1 (([(⟨B.From,B.To,B.Flow,0⟩:aE)]:List aE).map aH) 112 5::.box ap [i6 B.From,i6 B.To,i6 B.Flow.Lo,i6 B.Flow.Hi] 49::.row a0 a1 ((m++[(⟨B.From,B.To,B.Flow,0⟩:aE)]).map aH) 112 5::.box D [.slice a0 ((m++[(⟨B.From,B.To,B.Flow,0⟩:aE)]).length) a1,i6 ((n.Gains.length:Nat):Int),i6 ((n.Reaches.length:Nat):Int)] 78::.box an [.slice O n.Gains.length M,.slice I n.Reaches.length J] 38::Lf) w) aT (by kernel_rfl) (by kernel_rfl) (dL.of hf ⟨rfl,rfl,rfl,rfl,rfl,rfl,trivial,trivial,trivial,trivial,trivial,trivial,trivial,trivial,trivial,trivial,trivial,trivial,trivial,trivial,trivial,trivial,trivial,trivial,trivial⟩) hc ⟨?_,?_,?_,?_,?_,?_,?_,?_,?_,?_,?_,?_,?_,?_,?_,?_,?_,?_,?_,trivial⟩ ?_ ?_
  ·intro E θ a w hD hi hp he hc
   have hf:=he.h0.mT he 1 rfl
   refine sp 1 hf rfl fun a hf=>zD θ he hi hf 6 rfl rfl rfl hc
  ·intro E θ a w hD hi hp he hc
   have hf:=he.h0.mT he 1 rfl
   refine sp 1 hf rfl fun a hf=>zD θ he hi hf 7 rfl rfl rfl hc
  ·intro E θ a w hD hi hp he hc
   have e1:=hp.o 1 rfl
   have hf:=he.h0.mP he 7 rfl e1
   refine sp 1 hf rfl fun a hf=>zD θ he hi hf 8 rfl rfl rfl hc
  ·intro E θ a w hD hi hp he hc
   have e2:=hp.o 2 rfl
   have hf:=he.h0.mP he 8 rfl e2
   refine zP hf rfl (pFA gA rfl) fun a hf=>zD θ he hi hf 9 rfl rfl rfl hc
  ·intro E θ a w hD hi hp he hc
   have e3:=hp.o 3 rfl
   have hf:=he.h0.mP he 9 rfl e3
   refine zP hf rfl (pFA jI rfl) fun a hf=>zD θ he hi hf 10 rfl rfl rfl hc
  ·intro E θ a w hD hi hp he hc
   have e4:=hp.o 4 rfl
   have t:=hD.f 0 rfl hi
   try dsimp only at hc
   rw [t] at hc
   have hf:=he.h0.mP he 10 rfl e4
   refine zL hf hc qK m3 rfl fun a w hf hc=>zD θ he hi hf 11 rfl rfl rfl ?_
   try dsimp only
   rw [aS 5 t rfl]
   exact hc
  ·intro E θ a w hD hi hp he hc
   have hf:=he.h0.mT he 2 rfl
   refine zP hf rfl (pFA xZ rfl) fun a hf=>zD θ he hi hf 12 rfl rfl rfl hc
  ·intro E θ a w hD hi hp he hc
   have e6:=hp.o 6 rfl
   have hf:=he.h0.mP he 12 rfl e6
   refine zL hf hc aX m1 rfl fun a w hf hc=>zD θ he hi hf 13 rfl rfl rfl hc
  ·intro E θ a w hD hi hp he hc
   have hf:=he.h0.mT he 2 rfl
   refine zP hf rfl (pFA xW rfl) fun a hf=>zD θ he hi hf 14 rfl rfl rfl hc
  ·intro E θ a w hD hi hp he hc
   have e8:=hp.o 8 rfl
   have hf:=he.h0.mP he 14 rfl e8
   refine zL hf hc aX m1 rfl fun a w hf hc=>zD θ he hi hf 15 rfl rfl rfl hc
  ·intro E θ a w hD hi hp he hc
   have hf:=he.h0.mT he 2 rfl
   refine zP hf rfl (pFA yB rfl) fun a hf=>zD θ he hi hf 16 rfl rfl rfl hc
  ·intro E θ a w hD hi hp he hc
   have av:=hp.o 10 rfl
   have hf:=he.h0.mP he 16 rfl av
   refine zN hf hc eY m1 rfl fun a w hf hc=>zD θ he hi hf 17 rfl rfl rfl hc
  ·intro E θ a w hD hi hp he hc
   have e7:=hp.o 7 rfl
   have e9:=hp.o 9 rfl
   have ar:=hp.o 11 rfl
   have hf:=((he.h0.mP he 13 rfl e7).mP he 15 rfl e9).mP he 17 rfl ar
   refine zP hf rfl (bJ (cells:=[i6 B.From,i6 B.To,i6 B.Flow.Lo,i6 B.Flow.Hi,i6 0]) aK8 rfl rfl) fun a hf=>zD θ he hi hf 18 rfl rfl rfl hc
  ·intro E θ a w hD hi hp he hc
   have ax:=hp.o 12 rfl
   try dsimp only at hc
   rw [hi] at hc
   have hf:=he.h0.mP he 18 rfl ax
   refine oJ (rows:=([(⟨B.From,B.To,B.Flow,0⟩:aE)]:List aE).map aH) (vs:=[(0,.agg #[i6 B.From,i6 B.To,i6 B.Flow.Lo,i6 B.Flow.Hi,i6 0])]) hf hc rfl rfl aFo rfl ⟨rfl,rfl,rfl,trivial⟩ rfl rfl fun bg a w hf hc=>aQ ?_
   refine bV ?_
   intro ds u ak
   replace hc:=hc.drop k1
   refine ⟨(hZ θ 104 ⟨bg,none,0,(fun _=>(none,0))⟩),he.put hi ak hf rfl [] trivial ⟨qq,qq,qq,qq,qq,qq,qq,qq,qq,qq,qq,qq,qq,qq,qq,qq,qq,qq,qq,qq,qq,qq,qq,qq,trivial⟩,?_⟩
   try dsimp only
   rw [aN E 13]
   exact hc
  ·intro E θ a w hD hi hp he hc
   have e5:=hp.o 5 rfl
   have aa:=hp.o 13 rfl
   have t:=hD.f 1 rfl hi
   try dsimp only at hc
   rw [aa,hi,t] at hc
   have hf:=(he.h0.mP he 11 rfl e5).mP he 19 rfl aa
   refine lO (xs:=m) (ys:=([(⟨B.From,B.To,B.Flow,0⟩:aE)]:List aE)) hf hc rfl rfl aFo rfl rfl rfl rfl rfl eU (fM hc m0) (fun _ _=>u2) (by simpa using dB a9) fun bx b7 a w hf hc=>aQ ?_
   refine bV ?_
   intro ds u ak
   refine ⟨(hZ θ 112 ⟨0,bx,b7,(fun _=>(none,0))⟩),he.put hi ak hf rfl [] trivial ⟨qq,qq,qq,qq,qq,qq,qq,qq,qq,qq,qq,qq,qq,qq,qq,qq,qq,qq,qq,qq,qq,qq,qq,qq,trivial⟩,?_⟩
   try dsimp only
   rw [cB 14 aa,aN E 14,aS 14 t rfl]
   exact hc
  ·intro E θ a w hD hi hp he hc
   have e0:=hp.o 0 rfl
   have hf:=he.h0.mP he 6 rfl e0
   refine sp 1 hf rfl fun a hf=>zD θ he hi hf 21 rfl rfl rfl hc
  ·intro E θ a w hD hi hp he hc
   have ac:=hp.o 15 rfl
   have hf:=he.h0.mP he 21 rfl ac
   refine zP hf rfl (pFA gA rfl) fun a hf=>zD θ he hi hf 22 rfl rfl rfl hc
  ·intro E θ a w hD hi hp he hc
   have af:=hp.o 16 rfl
   have hf:=he.h0.mP he 22 rfl af
   refine zP hf rfl (pFA jI rfl) fun a hf=>zD θ he hi hf 23 rfl rfl rfl hc
  ·intro E θ a w hD hi hp he hc
   have q:=hp.o 14 rfl
   have a8:=hp.o 17 rfl
   try dsimp only at hc
   rw [hi] at hc
   have hf:=(he.h0.mP he 20 rfl q).mP he 23 rfl a8
   refine zW hf hc aO4 u3 rfl fun w hc=>zG θ he hi hf rfl ?_
   try dsimp only
   rw [aN E 18]
   exact hc
  ·intro E θ a w j he hc
   have hf:=he.h0
   have aa:=j 13 rfl
   have q:=j 14 rfl
   have t:=j 18 rfl
   replace hf:=hf.more he 5 rfl (onT)
   replace hf:=hf.more he 4 rfl (onT)
   replace hf:=hf.more he 3 rfl (onT)
   replace hf:=hf.more he 1 rfl (onT)
   replace hf:=hf.more he 0 rfl (onT)
   try dsimp only at hc
   rw [aa,q,t] at hc
   exact ⟨(θ 104).b,(θ 112).p,(θ 112).c,hf.kp rfl,hc⟩
  rintro a w ⟨a5,a0,a1,hf,hc⟩
  refine bz _ _ ?_
  refine cX ?_
  refine sp 2 hf rfl fun a hf=>aQ ?_
  replace hc:=(hc.drop k1).drop k0
  exact bu (W (x + 1),(m++[(⟨B.From,B.To,B.Flow,0⟩:aE)])) _ _ (sj hF).symm ⟨a0,a1,hf.kp rfl,hc⟩
 ·refine wp_exit ?_
  refine bI ?_
  refine bI ?_
  have he:=sj hF
  rw [← he] at a2
  refine fB ?_
  exact cd _ _ _ a2 ⟨ab,v,hf.kp rfl,hc⟩

def fH (N:Nat) (d:aP) (x:Int) (D:Nat→Int):Option (dA (Int × (Nat→Int)) ((Nat→Int))) :=
 cond (decide (x < ((d.ways.all.length:Nat):Int)))
 (Option.bind (cM d.ways.all x) fun B=>
 Option.bind (inR B.from_ 10) fun un=>
 Option.bind (inR B.from_ 10) fun J=>
 Option.bind (inR B.to_ 10) fun H=>
 Option.bind (inR B.to_ 10) fun I=>
 some (.cont (W (x + 1),(kR (kR D B.from_.toNat (W ((D B.from_.toNat) - B.now))) B.to_.toNat (W (((kR D B.from_.toNat (W ((D B.from_.toNat) - B.now))) B.to_.toNat) + B.now))))))
 (some (.brk (x,D)))
def gX (N:Nat) (d:aP):Option ((Nat→Int)) :=
 Option.bind (bN (fun s5=>fH N d s5.1 s5.2) N (0,(fun _=>0))) fun x5=>
 exK x5 (fun s5=>some s5.2) some
theorem rC {N:Nat} {G:bA} {Lf:List Ent} {w:World} (d:aP) {b_:Nat} {H:Option Addr} {D:Nat} (R:Rd G 5 H D (d.ways.all.map aH)) (hc:Ctx G (.box b_ [.slice H d.ways.all.length D,i6 d.ways.outside,i6 d.reaches] 78::Lf) w) {g:(Nat→Int)} (hF:gX N d=some g):Calls Tryz.prog 96 #[pq b_] w (fun e w=>e=.returned (.agg (aY [] 10 aD g []).toArray)∧Ctx G (.box b_ [.slice H d.ways.all.length D,i6 d.ways.outside,i6 d.reaches] 78::Lf) w):=by
 unfold gX at hF
 refine cC Tryz.func96 rfl Tryz.ntmps96 rfl fun a hf=>zS fun K h=>aHw (cs:=(aY [] 10 aD (fun _=>0) [])) hf hc rfl rfl aGk rfl fun O a w hf hc=>zT h ?_
 refine zS fun K h=>aHw (cs:=(aY [] 10 aD (fun _=>0) [])) hf hc rfl rfl aGk rfl fun J a w hf hc=>zT h ?_
 refine wp_seq_k fun K3 h3=>zS fun K h=>sp 2 hf rfl fun a hf=>zP hf rfl (pFA gA rfl) fun a hf=>zP hf rfl (pFA jI rfl) fun a hf=>zL hf hc qK m2 rfl fun a w hf hc=>zP hf rfl (cP Tryz.underlying74 rfl) fun a hf=>sp 1 hf rfl fun a hf=>zT h ?_
 refine wp_block ?_
 obtain ⟨x5,m,hF⟩:=aC hF
 let S5:(Int × (Nat→Int))→Act→World→Prop:=(fun (zz:Int × (Nat→Int)) a w=>Has 34 a [(2,pq O),(3,pq J),(10,.slice H d.ways.all.length D),(11,i6 ((d.ways.all.length:Nat):Int)),(12,i6 zz.1)]∧Ctx G (.box J (aY [] 10 aD zz.2 []) 193::.box O (aY [] 10 aD (fun _=>0) []) 193::.box b_ [.slice H d.ways.all.length D,i6 d.ways.outside,i6 d.reaches] 78::Lf) w)
 have p:∀ (zz:Int × (Nat→Int)) a w,x5=.go zz→S5 zz a w→K3 a w:=by
  rintro ⟨x,I⟩ a w rfl ⟨hf,hc⟩
  replace hF:=cJ hF
  refine h3 _ _ ?_
  refine zS fun K h=>zE hf hc rfl (kK (vs:=(aY [] 10 aD I [])) aDh rfl (eZ _).1 (cE (n:=10) m0 (aGr (eZ _).1))) fun a w hf hc=>aJq (enc:=vE) (f:=(fun _=>0)) (z:=I) hf hc rfl rfl rfl eZ aGd u1 fun w hc=>zT h ?_
  refine wp_ret ?_
  obtain rfl:=sj hF
  replace hc:=((hc.drop k0).pick k0).pick k1
  exact nK (by simp) rfl Tryz.results96 hf hc (dX (vs:=(aY [] 10 aD I [])) aDh rfl (eZ _).1 (cE (n:=10) m1 (aGr (eZ _).1))) ⟨rfl,(hc.drop k1)⟩
 have aa:∀ r,x5=.out r→r=g:=by
  rintro r rfl
  exact sj hF
 refine dQ N (dP (S:=S5) (x:=x5) ?_ N (0,(fun _=>0)) _ _ ⟨hf.kp rfl,hc⟩ m)
 clear hF hf hc
 rintro ⟨x,I⟩ y a w KB5 ⟨hf,hc⟩ hF Z k
 unfold fH at hF
 refine zS fun K h=>sp 1 hf rfl fun a hf=>zT h ?_
 refine wp_seq_k fun K8 h8=>zI hf rfl hF ?_ ?_ <;> clear hF <;> intro hF
 ·refine wp_skip ?_
  refine h8 _ _ ?_
  refine wp_seq_k fun K9 h9=>wp_block ?_
  refine zS fun K h=>?_
  obtain ⟨B,i,hF⟩:=aC hF
  obtain ⟨v,o,qa,qp⟩:=R.atm i
  refine zP hf rfl (pIA Tryz.underlying74 kB rfl rfl qa) fun a hf=>zE hf hc rfl (kK (vs:=[i6 B.from_,i6 B.to_,i6 B.span.Lo,i6 B.span.Hi,i6 B.now]) aDc rfl rfl (dF qp (n:=5) (o':=0) rfl)) fun a w hf hc=>zA hf hc aCr rfl fun M a w hf hc=>zW hf hc kB u0 rfl fun w hc=>zT h ?_
  refine wp_seq_k fun K11 q=>?_
  obtain ⟨un,b,hF⟩:=aC hF
  obtain ⟨u,V,hF⟩:=aC hF
  refine cU (fun θ=>[⟨none,none,2,pq O⟩,⟨none,none,3,pq J⟩,⟨none,none,5,pq M⟩,⟨none,none,10,.slice H d.ways.all.length D⟩,⟨none,none,11,i6 ((d.ways.all.length:Nat):Int)⟩,⟨none,none,12,i6 x⟩,⟨some 0,none,16,pq M⟩,⟨some 1,none,17,i6 B.from_⟩,⟨some 2,none,18,.pointer (some ⟨J,0 + B.from_.toNat * 1,none⟩)⟩,⟨some 3,none,19,i6 (I B.from_.toNat)⟩,⟨some 4,none,20,.pointer (some ⟨M,4,none⟩)⟩,⟨some 5,none,21,i6 B.now⟩,⟨some 6,none,22,i6 (W ((I B.from_.toNat) - B.now))⟩,⟨some 7,none,23,.pointer (some ⟨J,0 + B.from_.toNat * 1,none⟩)⟩]) (fun E θ=>.box M [i6 B.from_,i6 B.to_,i6 B.span.Lo,i6 B.span.Hi,i6 B.now] 112::(bif E 8 then .box J (aY [] 10 aD (kR I B.from_.toNat (W ((I B.from_.toNat) - B.now))) []) 193 else .box J (aY [] 10 aD I []) 193)::.box O (aY [] 10 aD (fun _=>0) []) 193::.box b_ [.slice H d.ways.all.length D,i6 d.ways.outside,i6 d.reaches] 78::Lf) [(8,3)] (fun a w=>Has 34 a [(2,pq O),(3,pq J),(5,pq M),(10,.slice H d.ways.all.length D),(11,i6 ((d.ways.all.length:Nat):Int)),(12,i6 x)]∧Ctx G (.box M [i6 B.from_,i6 B.to_,i6 B.span.Lo,i6 B.span.Hi,i6 B.now] 112::.box J (aY [] 10 aD (kR I B.from_.toNat (W ((I B.from_.toNat) - B.now))) []) 193::.box O (aY [] 10 aD (fun _=>0) []) 193::.box b_ [.slice H d.ways.all.length D,i6 d.ways.outside,i6 d.reaches] 78::Lf) w) aT (by kernel_rfl) (by kernel_rfl) (dL.of hf ⟨rfl,rfl,rfl,rfl,rfl,rfl,trivial,trivial,trivial,trivial,trivial,trivial,trivial,trivial,trivial⟩) hc ⟨?_,?_,?_,?_,?_,?_,?_,?_,?_,trivial⟩ ?_ ?_
  ·intro E θ a w hD hi hp he hc
   have hf:=he.h0.mT he 2 rfl
   refine zP hf rfl (pFA sX rfl) fun a hf=>zD θ he hi hf 6 rfl rfl rfl hc
  ·intro E θ a w hD hi hp he hc
   have e0:=hp.o 0 rfl
   have hf:=he.h0.mP he 6 rfl e0
   refine zL hf hc aX m0 rfl fun a w hf hc=>zD θ he hi hf 7 rfl rfl rfl hc
  ·intro E θ a w hD hi hp he hc
   have e1:=hp.o 1 rfl
   have hf:=(he.h0.mT he 1 rfl).mP he 7 rfl e1
   refine zP hf rfl (nS Tryz.underlying193 fD rfl rfl (bF b).1 (bF b).2) fun a hf=>zD θ he hi hf 8 rfl rfl rfl hc
  ·intro E θ a w hD hi hp he hc
   have e2:=hp.o 2 rfl
   have e8:=hD.f 0 rfl hi
   try dsimp only at hc
   rw [e8] at hc
   have hf:=he.h0.mP he 8 rfl e2
   refine zE hf hc rfl (cV aX rfl (kA (j:=0) m1 (fun x=>(bG x).1) rfl b rfl)) fun a w hf hc=>zD θ he hi hf 9 rfl rfl rfl ?_
   try dsimp only
   rw [aS 3 e8 rfl]
   exact hc
  ·intro E θ a w hD hi hp he hc
   have hf:=he.h0.mT he 2 rfl
   refine zP hf rfl (pFA jZ rfl) fun a hf=>zD θ he hi hf 10 rfl rfl rfl hc
  ·intro E θ a w hD hi hp he hc
   have e4:=hp.o 4 rfl
   have hf:=he.h0.mP he 10 rfl e4
   refine zL hf hc aX m0 rfl fun a w hf hc=>zD θ he hi hf 11 rfl rfl rfl hc
  ·intro E θ a w hD hi hp he hc
   have e3:=hp.o 3 rfl
   have e5:=hp.o 5 rfl
   have hf:=(he.h0.mP he 9 rfl e3).mP he 11 rfl e5
   refine sp 1 hf rfl fun a hf=>zD θ he hi hf 12 rfl rfl rfl hc
  ·intro E θ a w hD hi hp he hc
   have e1:=hp.o 1 rfl
   have hf:=(he.h0.mT he 1 rfl).mP he 7 rfl e1
   refine zP hf rfl (nS Tryz.underlying193 fD rfl rfl (bF V).1 (bF V).2) fun a hf=>zD θ he hi hf 13 rfl rfl rfl hc
  ·intro E θ a w hD hi hp he hc
   have e6:=hp.o 6 rfl
   have e7:=hp.o 7 rfl
   try dsimp only at hc
   rw [hi] at hc
   have hf:=(he.h0.mP he 12 rfl e6).mP he 13 rfl e7
   refine aIj (vs:=[i6 (W ((I B.from_.toNat) - B.now))]) (o':=0) (z:=W ((I B.from_.toNat) - B.now)) hf hc rfl rfl rfl rfl fD rfl (fun x=>(bG x).1) rfl V rfl rfl u1 fun w hc=>zG θ he hi hf rfl ?_
   try dsimp only
   rw [aN E 8]
   exact hc
  ·intro E θ a w Y he hc
   have hf:=he.h0
   have e8:=Y 8 rfl
   replace hf:=hf.more he 5 rfl (onT)
   replace hf:=hf.more he 4 rfl (onT)
   replace hf:=hf.more he 3 rfl (onT)
   replace hf:=hf.more he 2 rfl (onT)
   replace hf:=hf.more he 1 rfl (onT)
   replace hf:=hf.more he 0 rfl (onT)
   try dsimp only at hc
   rw [e8] at hc
   exact ⟨hf.kp rfl,hc⟩
  rintro a w ⟨hf,hc⟩
  refine q _ _ ?_
  obtain ⟨s,X,hF⟩:=aC hF
  obtain ⟨t,U,hF⟩:=aC hF
  refine cU (fun θ=>[⟨none,none,2,pq O⟩,⟨none,none,3,pq J⟩,⟨none,none,5,pq M⟩,⟨none,none,10,.slice H d.ways.all.length D⟩,⟨none,none,11,i6 ((d.ways.all.length:Nat):Int)⟩,⟨none,none,12,i6 x⟩,⟨some 0,none,24,.pointer (some ⟨M,1,none⟩)⟩,⟨some 1,none,25,i6 B.to_⟩,⟨some 2,none,26,.pointer (some ⟨J,0 + B.to_.toNat * 1,none⟩)⟩,⟨some 3,none,27,i6 ((kR I B.from_.toNat (W ((I B.from_.toNat) - B.now))) B.to_.toNat)⟩,⟨some 4,none,28,.pointer (some ⟨M,4,none⟩)⟩,⟨some 5,none,29,i6 B.now⟩,⟨some 6,none,30,i6 (W (((kR I B.from_.toNat (W ((I B.from_.toNat) - B.now))) B.to_.toNat) + B.now))⟩,⟨some 7,none,31,.pointer (some ⟨J,0 + B.to_.toNat * 1,none⟩)⟩]) (fun E θ=>.box M [i6 B.from_,i6 B.to_,i6 B.span.Lo,i6 B.span.Hi,i6 B.now] 112::(bif E 8 then .box J (aY [] 10 aD (kR (kR I B.from_.toNat (W ((I B.from_.toNat) - B.now))) B.to_.toNat (W (((kR I B.from_.toNat (W ((I B.from_.toNat) - B.now))) B.to_.toNat) + B.now))) []) 193 else .box J (aY [] 10 aD (kR I B.from_.toNat (W ((I B.from_.toNat) - B.now))) []) 193)::.box O (aY [] 10 aD (fun _=>0) []) 193::.box b_ [.slice H d.ways.all.length D,i6 d.ways.outside,i6 d.reaches] 78::Lf) [(8,3)] (fun a w=>Has 34 a [(2,pq O),(3,pq J),(10,.slice H d.ways.all.length D),(11,i6 ((d.ways.all.length:Nat):Int)),(12,i6 x)]∧Ctx G (.box M [i6 B.from_,i6 B.to_,i6 B.span.Lo,i6 B.span.Hi,i6 B.now] 112::.box J (aY [] 10 aD (kR (kR I B.from_.toNat (W ((I B.from_.toNat) - B.now))) B.to_.toNat (W (((kR I B.from_.toNat (W ((I B.from_.toNat) - B.now))) B.to_.toNat) + B.now))) []) 193::.box O (aY [] 10 aD (fun _=>0) []) 193::.box b_ [.slice H d.ways.all.length D,i6 d.ways.outside,i6 d.reaches] 78::Lf) w) aT (by kernel_rfl) (by kernel_rfl) (dL.of hf ⟨rfl,rfl,rfl,rfl,rfl,rfl,trivial,trivial,trivial,trivial,trivial,trivial,trivial,trivial,trivial⟩) hc ⟨?_,?_,?_,?_,?_,?_,?_,?_,?_,trivial⟩ ?_ ?_
  ·intro E θ a w hD hi hp he hc
   have hf:=he.h0.mT he 2 rfl
   refine zP hf rfl (pFA uQ rfl) fun a hf=>zD θ he hi hf 6 rfl rfl rfl hc
  ·intro E θ a w hD hi hp he hc
   have e0:=hp.o 0 rfl
   have hf:=he.h0.mP he 6 rfl e0
   refine zL hf hc aX m0 rfl fun a w hf hc=>zD θ he hi hf 7 rfl rfl rfl hc
  ·intro E θ a w hD hi hp he hc
   have e1:=hp.o 1 rfl
   have hf:=(he.h0.mT he 1 rfl).mP he 7 rfl e1
   refine zP hf rfl (nS Tryz.underlying193 fD rfl rfl (bF X).1 (bF X).2) fun a hf=>zD θ he hi hf 8 rfl rfl rfl hc
  ·intro E θ a w hD hi hp he hc
   have e2:=hp.o 2 rfl
   have e8:=hD.f 0 rfl hi
   try dsimp only at hc
   rw [e8] at hc
   have hf:=he.h0.mP he 8 rfl e2
   refine zE hf hc rfl (cV aX rfl (kA (j:=0) m1 (fun x=>(bG x).1) rfl X rfl)) fun a w hf hc=>zD θ he hi hf 9 rfl rfl rfl ?_
   try dsimp only
   rw [aS 3 e8 rfl]
   exact hc
  ·intro E θ a w hD hi hp he hc
   have hf:=he.h0.mT he 2 rfl
   refine zP hf rfl (pFA jZ rfl) fun a hf=>zD θ he hi hf 10 rfl rfl rfl hc
  ·intro E θ a w hD hi hp he hc
   have e4:=hp.o 4 rfl
   have hf:=he.h0.mP he 10 rfl e4
   refine zL hf hc aX m0 rfl fun a w hf hc=>zD θ he hi hf 11 rfl rfl rfl hc
  ·intro E θ a w hD hi hp he hc
   have e3:=hp.o 3 rfl
   have e5:=hp.o 5 rfl
   have hf:=(he.h0.mP he 9 rfl e3).mP he 11 rfl e5
   refine sp 1 hf rfl fun a hf=>zD θ he hi hf 12 rfl rfl rfl hc
  ·intro E θ a w hD hi hp he hc
   have e1:=hp.o 1 rfl
   have hf:=(he.h0.mT he 1 rfl).mP he 7 rfl e1
   refine zP hf rfl (nS Tryz.underlying193 fD rfl rfl (bF U).1 (bF U).2) fun a hf=>zD θ he hi hf 13 rfl rfl rfl hc
  ·intro E θ a w hD hi hp he hc
   have e6:=hp.o 6 rfl
   have e7:=hp.o 7 rfl
   try dsimp only at hc
   rw [hi] at hc
   have hf:=(he.h0.mP he 12 rfl e6).mP he 13 rfl e7
   refine aIj (vs:=[i6 (W (((kR I B.from_.toNat (W ((I B.from_.toNat) - B.now))) B.to_.toNat) + B.now))]) (o':=0) (z:=W (((kR I B.from_.toNat (W ((I B.from_.toNat) - B.now))) B.to_.toNat) + B.now)) hf hc rfl rfl rfl rfl fD rfl (fun x=>(bG x).1) rfl U rfl rfl u1 fun w hc=>zG θ he hi hf rfl ?_
   try dsimp only
   rw [aN E 8]
   exact hc
  ·intro E θ a w Y he hc
   have hf:=he.h0
   have e8:=Y 8 rfl
   replace hf:=hf.more he 5 rfl (onT)
   replace hf:=hf.more he 4 rfl (onT)
   replace hf:=hf.more he 3 rfl (onT)
   replace hf:=hf.more he 1 rfl (onT)
   replace hf:=hf.more he 0 rfl (onT)
   try dsimp only at hc
   rw [e8] at hc
   exact ⟨hf.kp rfl,hc⟩
  rintro a w ⟨hf,hc⟩
  refine h9 _ _ ?_
  refine cX ?_
  refine sp 2 hf rfl fun a hf=>aQ ?_
  replace hc:=hc.drop k0
  exact k (W (x + 1),(kR (kR I B.from_.toNat (W ((I B.from_.toNat) - B.now))) B.to_.toNat (W (((kR I B.from_.toNat (W ((I B.from_.toNat) - B.now))) B.to_.toNat) + B.now)))) _ _ (sj hF).symm ⟨hf.kp rfl,hc⟩
 ·refine wp_exit ?_
  refine bI ?_
  refine bI ?_
  have he:=sj hF
  rw [← he] at Z
  refine fB ?_
  exact p _ _ _ Z ⟨hf.kp rfl,hc⟩

def dG (x:Int):Bool :=
 (decide (0 < x))
theorem uM {G:bA} {Lf:List Ent} {w:World} (x:Int)   (hc:Ctx G (Lf) w) {B:Bool} (hF:dG x=B):Calls Tryz.prog 97 #[i6 x] w (fun e w=>e=.returned (.bool B)∧Ctx G (Lf) w):=by
 unfold dG at hF
 refine cC Tryz.func97 rfl Tryz.ntmps97 rfl fun a hf=>zS fun K h=>sp 1 hf rfl fun a hf=>zT h ?_
 refine zS fun K h=>sp 3 hf rfl fun a hf=>zT h ?_
 refine wp_ret ?_
 obtain rfl:=hF
 exact zO1 Tryz.results97 hf rfl ⟨rfl,hc⟩

def jL (N:Nat) (s_:List Int) (x:Int):Option (dA (Int) (Int)) :=
 cond (decide (x < ((s_.length:Nat):Int)))
 (Option.bind (cM s_ x) fun B=>
 cond (dG B)
 (some (.ret x))
 (some (.cont (W (x + 1)))))
 (some (.brk x))
def fT (N:Nat) (s_:List Int):Option (Int) :=
 Option.bind (bN (fun s4=>jL N s_ s4) N 0) fun x4=>
 exK x4 (fun s4=>some (-1)) some
theorem rV {N:Nat} {G:bA} {Lf:List Ent} {w:World} (s_:List Int) {H:Option Addr} {D:Nat} (O:Rd G 1 H D (s_.map aD)) (hc:Ctx G (Lf) w) {I:Int} (hF:fT N s_=some I):Calls Tryz.prog 76 #[.slice H s_.length D,.func (.func 97) #[] #[]] w (fun e w=>e=.returned (i6 I)∧Ctx G (Lf) w):=by
 unfold fT at hF
 refine cC Tryz.func76 rfl Tryz.ntmps76 rfl fun a hf=>zS fun K h=>sp 1 hf rfl fun a hf=>zT h ?_
 refine wp_seq_k fun K2 h2=>zS fun K h=>sp 1 hf rfl fun a hf=>zP hf rfl (cP Tryz.underlying39 rfl) fun a hf=>sp 1 hf rfl fun a hf=>zT h ?_
 refine wp_block ?_
 obtain ⟨x4,U,hF⟩:=aC hF
 let S4:Int→Act→World→Prop:=(fun (zz:Int) a w=>Has 19 a [(0,.slice H s_.length D),(1,.func (.func 97) #[] #[]),(7,i6 ((s_.length:Nat):Int)),(8,i6 zz)]∧Ctx G (Lf) w)
 have X:∀ (zz:Int) a w,x4=.go zz→S4 zz a w→K2 a w:=by
  rintro x a w rfl ⟨hf,hc⟩
  replace hF:=cJ hF
  refine h2 _ _ ?_
  refine zS fun K h=>sp 1 hf rfl fun a hf=>zT h ?_
  refine wp_ret ?_
  obtain rfl:=sj hF
  exact zO1 Tryz.results76 hf rfl ⟨rfl,hc⟩
 have R:∀ r,x4=.out r→r=I:=by
  rintro r rfl
  exact sj hF
 refine dQ N (dP (S:=S4) (x:=x4) ?_ N 0 _ _ ⟨hf.kp rfl,hc⟩ U)
 clear hF hf hc
 rintro x Y a w KB4 ⟨hf,hc⟩ hF B V
 unfold jL at hF
 refine zS fun K h=>sp 1 hf rfl fun a hf=>zT h ?_
 refine wp_seq_k fun K7 h7=>zI hf rfl hF ?_ ?_ <;> clear hF <;> intro hF
 ·refine wp_skip ?_
  refine h7 _ _ ?_
  refine wp_seq_k fun K8 h8=>wp_block ?_
  refine zS fun K h=>sp 2 hf rfl fun a hf=>zT h ?_
  refine zS fun K h=>sp 3 hf rfl fun a hf=>?_
  obtain ⟨J,M,hF⟩:=aC hF
  obtain ⟨Z,o,qa,qp⟩:=O.atm M
  refine zP hf rfl (pIA Tryz.underlying39 fD rfl rfl qa) fun a hf=>zE hf hc rfl (cV aX rfl (kX (j:=0) qp rfl)) fun a w hf hc=>zQ (v:=.bool (dG J)) hf hc en_97 rfl (fun w hc=>uM J hc rfl) fun a w hf hc=>zT h ?_
  refine zI hf rfl hF ?_ ?_ <;> clear hF <;> intro hF
  ·refine zS fun K h=>sp 2 hf rfl fun a hf=>zT h ?_
   refine wp_ret ?_
   refine cI ?_
   refine aU ?_
   refine aU ?_
   have he:=sj hF
   rw [← he] at B
   replace hF:=R _ B
   refine cI ?_
   refine aU ?_
   obtain rfl:=hF
   exact zO1 Tryz.results76 hf rfl ⟨rfl,hc⟩
  ·refine wp_skip ?_
   refine h8 _ _ ?_
   refine cX ?_
   refine sp 2 hf rfl fun a hf=>aQ ?_
   exact V (W (x + 1)) _ _ (sj hF).symm ⟨hf.kp rfl,hc⟩
 ·refine wp_exit ?_
  refine bI ?_
  refine bI ?_
  have he:=sj hF
  rw [← he] at B
  refine fB ?_
  exact X _ _ _ B ⟨hf.kp rfl,hc⟩

def kG (N:Nat) (d:aP) (B:Int):Option (Int) :=
 some B
theorem qM {N:Nat} {G:bA} {Lf:List Ent} {w:World} (d:aP) (H:Int) {b_:Nat} {B:Option Addr} {D:Nat} (I:Rd G 5 B D (d.ways.all.map aH)) (hc:Ctx G (.box b_ [.slice B d.ways.all.length D,i6 d.ways.outside,i6 d.reaches] 78::Lf) w) {O:Int} (hF:kG N d H=some O):Calls Tryz.prog 100 #[pq b_,i6 H] w (fun e w=>∃ (J:Nat) (M:Nat),e=.returned (.func (.func 122) #[] #[pq J,pq M])∧Ctx G (.box J [pq b_] 71::.box M [i6 O] 3::.box b_ [.slice B d.ways.all.length D,i6 d.ways.outside,i6 d.reaches] 78::Lf) w):=by
 unfold kG at hF
 refine cC Tryz.func100 rfl Tryz.ntmps100 rfl fun a hf=>zS fun K h=>zB hf hc rfl fun S a w hf hc=>zB hf hc rfl fun R a w hf hc=>sp 1 hf rfl fun a hf=>zT h ?_
 refine zS fun K h=>zP hf rfl (pMF (us:=[pq S,pq R]) rfl rfl) fun a hf=>sp 1 hf rfl fun a hf=>zT h ?_
 refine wp_ret ?_
 obtain rfl:=sj hF
 replace hc:=(hc.pick k0).pick k1
 exact zO1 Tryz.results100 hf rfl ⟨S,R,rfl,hc⟩

def bT (N:Nat) {σ:Type} (D:Int) (B:σ):Option (dA (Int × σ) (σ)) :=
 some (.cont (W (D + 1),B))
def dK (N:Nat) {σ:Type} (x:aP) (I:Int) (y:σ→aB→Option (σ × Bool)) (B:Int) (sg:σ):Option (dA (Int × σ) (σ)) :=
 cond (decide (B < ((x.ways.all.length:Nat):Int)))
 (Option.bind (cM x.ways.all B) fun J=>
 cond (J.from_ == I)
 (Option.bind (y sg (⟨B,false⟩:aB)) fun ry=>
 cond (!ry.2)
 (some (.ret ry.1))
 (cond (J.to_ == I)
 (Option.bind (y ry.1 (⟨B,true⟩:aB)) fun H=>
 cond (!H.2)
 (some (.ret H.1))
 (bT N B H.1))
 (bT N B ry.1)))
 (cond (J.to_ == I)
 (Option.bind (y sg (⟨B,true⟩:aB)) fun D=>
 cond (!D.2)
 (some (.ret D.1))
 (bT N B D.1))
 (bT N B sg)))
 (some (.brk (B,sg)))
def dV (N:Nat) {σ:Type} (x:aP) (D:Int) (y:σ→aB→Option (σ × Bool)) (B:σ):Option (σ) :=
 Option.bind (bN (fun s3=>dK N x D y s3.1 s3.2) N (0,B)) fun x3=>
 exK x3 (fun s3=>some s3.2) some
theorem pG {N:Nat} {G:bA} {Lf:List Ent} {w:World} {σ:Type} (x:aP) (R:Int) {b_:Nat} {M:Nat} {H:Option Addr} {D:Nat} {I:Nat} (Z:Rd G 5 H D (x.ways.all.map aH)) (J:σ→List Ent→Prop) (y:σ→aB→Option (σ × Bool)) {l:Nat} (hy:rJ Tryz.prog G l (fun x:aB=>[.agg #[i6 x.way,.bool x.back]]) J y) (m:σ) {A0 Ls1:List Ent} (ag:J m (A0++(.box M [.slice H x.ways.all.length D,i6 x.ways.outside,i6 x.reaches] 78::Ls1))) (hc:Ctx G (.box b_ [pq M] 71::.box I [i6 R] 3::((A0++(.box M [.slice H x.ways.all.length D,i6 x.ways.outside,i6 x.reaches] 78::Ls1))++Lf)) w) {j:σ} (hF:dV N x R y m=some j):Calls Tryz.prog 122 #[.func (.yield l) #[] #[],pq b_,pq I] w (fun e w=>(∃ v,e=.returned v)∧∃ L,J j L∧Ctx G (.box b_ [pq M] 71::.box I [i6 R] 3::(L++Lf)) w):=by
 unfold dV at hF
 refine cC Tryz.func122 rfl Tryz.ntmps122 rfl fun a hf=>?_
 replace hc:Ctx G (.box M [.slice H x.ways.all.length D,i6 x.ways.outside,i6 x.reaches] 78::.box b_ [pq M] 71::.box I [i6 R] 3::((A0++Ls1)++Lf)) w:=aE4 [.box b_ [pq M] 71,.box I [i6 R] 3] hc
 refine zS fun K h=>zL hf hc nT m1 rfl fun a w hf hc=>sp 1 hf rfl fun a hf=>zP hf rfl (pFA gA rfl) fun a hf=>zP hf rfl (pFA jI rfl) fun a hf=>zL hf hc qK m0 rfl fun a w hf hc=>zP hf rfl (cP Tryz.underlying74 rfl) fun a hf=>sp 1 hf rfl fun a hf=>zT h ?_
 refine lR fun K2 h2=>wp_block ?_
 replace hc:Ctx G (.box b_ [pq M] 71::.box I [i6 R] 3::((A0++(.box M [.slice H x.ways.all.length D,i6 x.ways.outside,i6 x.reaches] 78::Ls1))++Lf)) w:=aH8 [.box b_ [pq M] 71,.box I [i6 R] 3] hc
 obtain ⟨x3,ai,hF⟩:=aC hF
 let S3:(Int × σ)→Act→World→Prop:=(fun (zz:Int × σ) a w=>∃ (Ls:List Ent),J zz.2 Ls∧Has 42 a [(0,.func (.yield l) #[] #[]),(2,pq I),(10,.slice H x.ways.all.length D),(11,i6 ((x.ways.all.length:Nat):Int)),(12,i6 zz.1)]∧Ctx G (.box b_ [pq M] 71::.box I [i6 R] 3::(Ls++Lf)) w)
 have aj:∀ (zz:Int × σ) a w,x3=.go zz→S3 zz a w→K2 a w:=by
  rintro ⟨O,sg⟩ a w rfl ⟨Ls,hJ,hf,hc⟩
  replace hF:=cJ hF
  refine h2 _ _ ?_
  obtain rfl:=sj hF
  exact pO (by simp) rfl Tryz.results122 hf ⟨⟨_,rfl⟩,Ls,hJ,hc⟩
 have k:∀ r,x3=.out r→r=j:=by
  rintro r rfl
  exact sj hF
 refine dQ N (dP (S:=S3) (x:=x3) ?_ N (0,m) _ _ ⟨(A0++(.box M [.slice H x.ways.all.length D,i6 x.ways.outside,i6 x.reaches] 78::Ls1)),ag,hf.kp rfl,hc⟩ ai)
 clear hF hf hc
 rintro ⟨O,sg⟩ ak a w KB3 ⟨Ls,hJ,hf,hc⟩ hF V am
 unfold dK at hF
 refine zS fun K h=>sp 1 hf rfl fun a hf=>zT h ?_
 refine wp_seq_k fun K5 h5=>zI hf rfl hF ?_ ?_ <;> clear hF <;> intro hF
 ·refine wp_skip ?_
  refine h5 _ _ ?_
  refine wp_seq_k fun K6 h6=>?_
  have g:∀ (d:σ) (Ls_1:List Ent) a w,J d Ls_1→Has 42 a [(0,.func (.yield l) #[] #[]),(2,pq I),(10,.slice H x.ways.all.length D),(11,i6 ((x.ways.all.length:Nat):Int)),(12,i6 O)]→Ctx G (.box b_ [pq M] 71::.box I [i6 R] 3::(Ls_1++Lf)) w→bT N O d=some ak→K6 a w:=by
   repeat (clear hF)
   repeat (clear hc)
   repeat (clear hf)
   intro d Ls_1 a w ab hf hc hF
   unfold bT at hF
   refine h6 _ _ ?_
   refine cX ?_
   refine sp 2 hf rfl fun a hf=>aQ ?_
   exact am (W (O + 1),d) _ _ (sj hF).symm ⟨Ls_1,ab,hf.kp rfl,hc⟩
  refine wp_block ?_
  refine zS fun K h=>sp 1 hf rfl fun a hf=>?_
  obtain ⟨B,ac,hF⟩:=aC hF
  obtain ⟨an,o,qa,qp⟩:=Z.atm ac
  refine zP hf rfl (pIA Tryz.underlying74 kB rfl rfl qa) fun a hf=>zE hf hc rfl (kK (vs:=[i6 B.from_,i6 B.to_,i6 B.span.Lo,i6 B.span.Hi,i6 B.now]) aDc rfl rfl (dF qp (n:=5) (o':=0) rfl)) fun a w hf hc=>zA hf hc aCr rfl fun U a w hf hc=>sp 1 hf rfl fun a hf=>zW hf hc kB u0 rfl fun w hc=>zT h ?_
  refine wp_seq_k fun K8 h8=>?_
  rcases gW (B.from_ == R) with Y | Y
  ·replace hF:=gI Y hF
   obtain ⟨ry,p,hF⟩:=aC hF
   rcases gW (!ry.2) with b | b
   ·replace hF:=gI b hF
    refine aKk 8 (fun a w=>Has 42 a [(0,.func (.yield l) #[] #[]),(2,pq I),(10,.slice H x.ways.all.length D),(11,i6 ((x.ways.all.length:Nat):Int)),(12,i6 O),(5,pq U),(4,i6 O),(17,pq U),(18,i6 B.from_),(19,i6 R),(20,.bool true),(21,.bool true),(22,.func (.yield l) #[] #[]),(23,i6 O),(24,.agg #[i6 O,.bool false])]∧Ctx G (.box U [i6 B.from_,i6 B.to_,i6 B.span.Lo,i6 B.span.Hi,i6 B.now] 112::.box b_ [pq M] 71::.box I [i6 R] 3::(Ls++Lf)) w) (fun _ _ h=>by obtain ⟨⟨_,h⟩,_⟩:=h; cases h) ?_ ?_
    ·refine zP hf rfl (pFA sX rfl) fun a hf=>zL hf hc aX m0 rfl fun a w hf hc=>zL hf hc aX m2 rfl fun a w hf hc=>sp 1 hf rfl fun a hf=>?_
     replace hf:=dI Y hf
     refine sp 3 hf rfl fun a hf=>zP hf rfl (bJ (cells:=[i6 O,.bool false]) vM rfl rfl) fun a hf=>aQ ⟨hf.kp rfl,hc⟩
    rintro a w ⟨hf,hc⟩
    refine stY (own:=[.box U [i6 B.from_,i6 B.to_,i6 B.span.Lo,i6 B.span.Hi,i6 B.now] 112,.box b_ [pq M] 71,.box I [i6 R] 3]) (v:=(⟨O,false⟩:aB)) hy hJ p hf hc rfl rfl rfl rfl rfl rfl fun a w Ls_3 af hf hc=>?_
    replace hc:Ctx G (.box U [i6 B.from_,i6 B.to_,i6 B.span.Lo,i6 B.span.Hi,i6 B.now] 112::.box b_ [pq M] 71::.box I [i6 R] 3::(Ls_3++Lf)) w:=hc
    refine aCq (fun _ _ h=>by obtain ⟨⟨_,h⟩,_⟩:=h; cases h) ?_
    refine sp 1 hf rfl fun a hf=>?_
    replace hf:=dI b hf
    refine sp 2 hf rfl fun a hf=>stS hf rfl rfl rfl fun a hf=>stS hf rfl rfl rfl fun a hf=>stS hf rfl rfl rfl fun a hf=>stS hf rfl rfl rfl fun a hf=>stS hf rfl rfl rfl fun a hf=>stS hf rfl rfl rfl fun a hf=>stS hf rfl rfl rfl fun a hf=>stS hf rfl rfl rfl fun a hf=>stS hf rfl rfl rfl fun a hf=>stS hf rfl rfl rfl fun a hf=>stS hf rfl rfl rfl fun a hf=>sp 1 hf rfl fun a hf=>?_
    refine aQ ?_
    refine h8 _ _ ?_
    refine aIk hf rfl ?_
    refine wp_ret ?_
    refine cI ?_
    refine aU ?_
    refine aU ?_
    have he:=sj hF
    rw [← he] at V
    replace hF:=k _ V
    refine cI ?_
    refine aU ?_
    obtain rfl:=hF
    replace hc:=hc.drop k0
    exact pO (by simp) rfl Tryz.results122 hf ⟨⟨_,rfl⟩,Ls_3,af,hc⟩
   ·replace hF:=nU b hF
    rcases gW (B.to_ == R) with X | X
    ·replace hF:=gI X hF
     obtain ⟨aa,t,hF⟩:=aC hF
     refine aKk 8 (fun a w=>Has 42 a [(0,.func (.yield l) #[] #[]),(2,pq I),(10,.slice H x.ways.all.length D),(11,i6 ((x.ways.all.length:Nat):Int)),(12,i6 O),(5,pq U),(4,i6 O),(17,pq U),(18,i6 B.from_),(19,i6 R),(20,.bool true),(21,.bool true),(22,.func (.yield l) #[] #[]),(23,i6 O),(24,.agg #[i6 O,.bool false])]∧Ctx G (.box U [i6 B.from_,i6 B.to_,i6 B.span.Lo,i6 B.span.Hi,i6 B.now] 112::.box b_ [pq M] 71::.box I [i6 R] 3::(Ls++Lf)) w) (fun _ _ h=>by obtain ⟨⟨_,h⟩,_⟩:=h; cases h) ?_ ?_
     ·refine zP hf rfl (pFA sX rfl) fun a hf=>zL hf hc aX m0 rfl fun a w hf hc=>zL hf hc aX m2 rfl fun a w hf hc=>sp 1 hf rfl fun a hf=>?_
      replace hf:=dI Y hf
      refine sp 3 hf rfl fun a hf=>zP hf rfl (bJ (cells:=[i6 O,.bool false]) vM rfl rfl) fun a hf=>aQ ⟨hf.kp rfl,hc⟩
     rintro a w ⟨hf,hc⟩
     refine stY (own:=[.box U [i6 B.from_,i6 B.to_,i6 B.span.Lo,i6 B.span.Hi,i6 B.now] 112,.box b_ [pq M] 71,.box I [i6 R] 3]) (v:=(⟨O,false⟩:aB)) hy hJ p hf hc rfl rfl rfl rfl rfl rfl fun a w Ls_5 ad hf hc=>?_
     replace hc:Ctx G (.box U [i6 B.from_,i6 B.to_,i6 B.span.Lo,i6 B.span.Hi,i6 B.now] 112::.box b_ [pq M] 71::.box I [i6 R] 3::(Ls_5++Lf)) w:=hc
     refine yMid 11 (fun a w=>Has 42 a [(0,.func (.yield l) #[] #[]),(2,pq I),(10,.slice H x.ways.all.length D),(11,i6 ((x.ways.all.length:Nat):Int)),(12,i6 O),(5,pq U),(4,i6 O),(17,pq U),(18,i6 B.from_),(19,i6 R),(20,.bool true),(21,.bool true),(22,.func (.yield l) #[] #[]),(23,i6 O),(24,.agg #[i6 O,.bool false]),(25,.bool ry.2),(26,.bool false),(27,.bool false),(28,.bool false),(29,.pointer (some ⟨U,1,none⟩)),(30,i6 B.to_),(31,i6 R),(32,.bool true),(33,.bool true),(34,.func (.yield l) #[] #[]),(35,i6 O),(36,.agg #[i6 O,.bool true])]∧Ctx G (.box U [i6 B.from_,i6 B.to_,i6 B.span.Lo,i6 B.span.Hi,i6 B.now] 112::.box b_ [pq M] 71::.box I [i6 R] 3::(Ls_5++Lf)) w) (fun _ _ h=>by obtain ⟨⟨_,h⟩,_⟩:=h; cases h) ?_ ?_
     ·refine sp 1 hf rfl fun a hf=>?_
      replace hf:=dI b hf
      refine sp 2 hf rfl fun a hf=>zP hf rfl (pFA uQ rfl) fun a hf=>zL hf hc aX m0 rfl fun a w hf hc=>zL hf hc aX m2 rfl fun a w hf hc=>sp 1 hf rfl fun a hf=>?_
      replace hf:=dI X hf
      refine sp 3 hf rfl fun a hf=>zP hf rfl (bJ (cells:=[i6 O,.bool true]) vM rfl rfl) fun a hf=>aQ ⟨hf.kp rfl,hc⟩
     rintro a w ⟨hf,hc⟩
     refine stY (own:=[.box U [i6 B.from_,i6 B.to_,i6 B.span.Lo,i6 B.span.Hi,i6 B.now] 112,.box b_ [pq M] 71,.box I [i6 R] 3]) (v:=(⟨O,true⟩:aB)) hy ad t hf hc rfl rfl rfl rfl rfl rfl fun a w Ls_6 q hf hc=>?_
     replace hc:Ctx G (.box U [i6 B.from_,i6 B.to_,i6 B.span.Lo,i6 B.span.Hi,i6 B.now] 112::.box b_ [pq M] 71::.box I [i6 R] 3::(Ls_6++Lf)) w:=hc
     refine aCq (fun _ _ h=>by obtain ⟨⟨_,h⟩,_⟩:=h; cases h) ?_
     refine sp 3 hf rfl fun a hf=>aQ ?_
     refine h8 _ _ ?_
     refine zI hf rfl hF ?_ ?_ <;> clear hF <;> intro hF
     ·refine wp_ret ?_
      refine cI ?_
      refine aU ?_
      refine aU ?_
      have he:=sj hF
      rw [← he] at V
      replace hF:=k _ V
      refine cI ?_
      refine aU ?_
      obtain rfl:=hF
      replace hc:=hc.drop k0
      exact pO (by simp) rfl Tryz.results122 hf ⟨⟨_,rfl⟩,Ls_6,q,hc⟩
     ·refine wp_skip ?_
      replace hc:=hc.drop k0
      exact g aa.1 Ls_6 _ _ q (hf.kp rfl) hc hF
    ·replace hF:=nU X hF
     refine aKk 8 (fun a w=>Has 42 a [(0,.func (.yield l) #[] #[]),(2,pq I),(10,.slice H x.ways.all.length D),(11,i6 ((x.ways.all.length:Nat):Int)),(12,i6 O),(5,pq U),(4,i6 O),(17,pq U),(18,i6 B.from_),(19,i6 R),(20,.bool true),(21,.bool true),(22,.func (.yield l) #[] #[]),(23,i6 O),(24,.agg #[i6 O,.bool false])]∧Ctx G (.box U [i6 B.from_,i6 B.to_,i6 B.span.Lo,i6 B.span.Hi,i6 B.now] 112::.box b_ [pq M] 71::.box I [i6 R] 3::(Ls++Lf)) w) (fun _ _ h=>by obtain ⟨⟨_,h⟩,_⟩:=h; cases h) ?_ ?_
     ·refine zP hf rfl (pFA sX rfl) fun a hf=>zL hf hc aX m0 rfl fun a w hf hc=>zL hf hc aX m2 rfl fun a w hf hc=>sp 1 hf rfl fun a hf=>?_
      replace hf:=dI Y hf
      refine sp 3 hf rfl fun a hf=>zP hf rfl (bJ (cells:=[i6 O,.bool false]) vM rfl rfl) fun a hf=>aQ ⟨hf.kp rfl,hc⟩
     rintro a w ⟨hf,hc⟩
     refine stY (own:=[.box U [i6 B.from_,i6 B.to_,i6 B.span.Lo,i6 B.span.Hi,i6 B.now] 112,.box b_ [pq M] 71,.box I [i6 R] 3]) (v:=(⟨O,false⟩:aB)) hy hJ p hf hc rfl rfl rfl rfl rfl rfl fun a w Ls_7 u hf hc=>?_
     replace hc:Ctx G (.box U [i6 B.from_,i6 B.to_,i6 B.span.Lo,i6 B.span.Hi,i6 B.now] 112::.box b_ [pq M] 71::.box I [i6 R] 3::(Ls_7++Lf)) w:=hc
     refine aCq (fun _ _ h=>by obtain ⟨⟨_,h⟩,_⟩:=h; cases h) ?_
     refine sp 1 hf rfl fun a hf=>?_
     replace hf:=dI b hf
     refine sp 2 hf rfl fun a hf=>zP hf rfl (pFA uQ rfl) fun a hf=>zL hf hc aX m0 rfl fun a w hf hc=>zL hf hc aX m2 rfl fun a w hf hc=>sp 1 hf rfl fun a hf=>?_
     replace hf:=dI X hf
     refine sp 1 hf rfl fun a hf=>stS hf rfl rfl rfl fun a hf=>stS hf rfl rfl rfl fun a hf=>stS hf rfl rfl rfl fun a hf=>stS hf rfl rfl rfl fun a hf=>stS hf rfl rfl rfl fun a hf=>sp 2 hf rfl fun a hf=>aQ ?_
     refine h8 _ _ ?_
     refine aDi hf rfl ?_
     refine wp_skip ?_
     replace hc:=hc.drop k0
     exact g ry.1 Ls_7 _ _ u (hf.kp rfl) hc hF
  ·replace hF:=nU Y hF
   rcases gW (B.to_ == R) with X | X
   ·replace hF:=gI X hF
    obtain ⟨z,s,hF⟩:=aC hF
    refine aKk 20 (fun a w=>Has 42 a [(0,.func (.yield l) #[] #[]),(2,pq I),(10,.slice H x.ways.all.length D),(11,i6 ((x.ways.all.length:Nat):Int)),(12,i6 O),(5,pq U),(4,i6 O),(17,pq U),(18,i6 B.from_),(19,i6 R),(20,.bool false),(21,.bool false),(27,.bool false),(28,.bool false),(29,.pointer (some ⟨U,1,none⟩)),(30,i6 B.to_),(31,i6 R),(32,.bool true),(33,.bool true),(34,.func (.yield l) #[] #[]),(35,i6 O),(36,.agg #[i6 O,.bool true])]∧Ctx G (.box U [i6 B.from_,i6 B.to_,i6 B.span.Lo,i6 B.span.Hi,i6 B.now] 112::.box b_ [pq M] 71::.box I [i6 R] 3::(Ls++Lf)) w) (fun _ _ h=>by obtain ⟨⟨_,h⟩,_⟩:=h; cases h) ?_ ?_
    ·refine zP hf rfl (pFA sX rfl) fun a hf=>zL hf hc aX m0 rfl fun a w hf hc=>zL hf hc aX m2 rfl fun a w hf hc=>sp 1 hf rfl fun a hf=>?_
     replace hf:=dI Y hf
     refine sp 1 hf rfl fun a hf=>stS hf rfl rfl rfl fun a hf=>stS hf rfl rfl rfl fun a hf=>stS hf rfl rfl rfl fun a hf=>stS hf rfl rfl rfl fun a hf=>stS hf rfl rfl rfl fun a hf=>sp 2 hf rfl fun a hf=>zP hf rfl (pFA uQ rfl) fun a hf=>zL hf hc aX m0 rfl fun a w hf hc=>zL hf hc aX m2 rfl fun a w hf hc=>sp 1 hf rfl fun a hf=>?_
     replace hf:=dI X hf
     refine sp 3 hf rfl fun a hf=>zP hf rfl (bJ (cells:=[i6 O,.bool true]) vM rfl rfl) fun a hf=>aQ ⟨hf.kp rfl,hc⟩
    rintro a w ⟨hf,hc⟩
    refine stY (own:=[.box U [i6 B.from_,i6 B.to_,i6 B.span.Lo,i6 B.span.Hi,i6 B.now] 112,.box b_ [pq M] 71,.box I [i6 R] 3]) (v:=(⟨O,true⟩:aB)) hy hJ s hf hc rfl rfl rfl rfl rfl rfl fun a w Ls_8 i hf hc=>?_
    replace hc:Ctx G (.box U [i6 B.from_,i6 B.to_,i6 B.span.Lo,i6 B.span.Hi,i6 B.now] 112::.box b_ [pq M] 71::.box I [i6 R] 3::(Ls_8++Lf)) w:=hc
    refine aCq (fun _ _ h=>by obtain ⟨⟨_,h⟩,_⟩:=h; cases h) ?_
    refine sp 3 hf rfl fun a hf=>aQ ?_
    refine h8 _ _ ?_
    refine zI hf rfl hF ?_ ?_ <;> clear hF <;> intro hF
    ·refine wp_ret ?_
     refine cI ?_
     refine aU ?_
     refine aU ?_
     have he:=sj hF
     rw [← he] at V
     replace hF:=k _ V
     refine cI ?_
     refine aU ?_
     obtain rfl:=hF
     replace hc:=hc.drop k0
     exact pO (by simp) rfl Tryz.results122 hf ⟨⟨_,rfl⟩,Ls_8,i,hc⟩
    ·refine wp_skip ?_
     replace hc:=hc.drop k0
     exact g z.1 Ls_8 _ _ i (hf.kp rfl) hc hF
   ·replace hF:=nU X hF
    refine cX ?_
    refine zP hf rfl (pFA sX rfl) fun a hf=>zL hf hc aX m0 rfl fun a w hf hc=>zL hf hc aX m2 rfl fun a w hf hc=>sp 1 hf rfl fun a hf=>?_
    replace hf:=dI Y hf
    refine sp 1 hf rfl fun a hf=>stS hf rfl rfl rfl fun a hf=>stS hf rfl rfl rfl fun a hf=>stS hf rfl rfl rfl fun a hf=>stS hf rfl rfl rfl fun a hf=>stS hf rfl rfl rfl fun a hf=>sp 2 hf rfl fun a hf=>zP hf rfl (pFA uQ rfl) fun a hf=>zL hf hc aX m0 rfl fun a w hf hc=>zL hf hc aX m2 rfl fun a w hf hc=>sp 1 hf rfl fun a hf=>?_
    replace hf:=dI X hf
    refine sp 1 hf rfl fun a hf=>stS hf rfl rfl rfl fun a hf=>stS hf rfl rfl rfl fun a hf=>stS hf rfl rfl rfl fun a hf=>stS hf rfl rfl rfl fun a hf=>stS hf rfl rfl rfl fun a hf=>sp 2 hf rfl fun a hf=>aQ ?_
    refine h8 _ _ ?_
    refine aDi hf rfl ?_
    refine wp_skip ?_
    replace hc:=hc.drop k0
    exact g sg Ls _ _ hJ (hf.kp rfl) hc hF
 ·refine wp_exit ?_
  refine bI ?_
  refine bI ?_
  have he:=sj hF
  rw [← he] at V
  refine fB ?_
  exact aj _ _ _ V ⟨Ls,hJ,hf.kp rfl,hc⟩

def fW (x:aB):Bool :=
 true
theorem uI {G:bA} {Lf:List Ent} {w:World} (x:aB)   (hc:Ctx G (Lf) w) {B:Bool} (hF:fW x=B):Calls Tryz.prog 95 #[.agg #[i6 x.way,.bool x.back]] w (fun e w=>e=.returned (.bool B)∧Ctx G (Lf) w):=by
 unfold fW at hF
 refine cC Tryz.func95 rfl Tryz.ntmps95 rfl fun a hf=>zS fun K h=>zB hf hc rfl fun D a w hf hc=>sp 1 hf rfl fun a hf=>zT h ?_
 refine zS fun K h=>sp 1 hf rfl fun a hf=>zT h ?_
 refine wp_ret ?_
 obtain rfl:=hF
 replace hc:=hc.drop k0
 exact zO1 Tryz.results95 hf rfl ⟨rfl,hc⟩

def gO (N:Nat) (D:Int) (B:Int) (most:Int):Option (Int × Int) :=
 cond (decide (D < B))
 (some ((-1),W (B - D)))
 (cond (decide (D < most))
 (some (0,W (most - D)))
 (some (1,10000000000)))
def dW (N:Nat) (d:aP) (s_:aB):Option (Int × Int) :=
 Option.bind (cM d.ways.all s_.way) fun B=>
 cond s_.back
 (gO N (W (0 - B.now)) (W (0 - B.span.Hi)) (W (0 - B.span.Lo)))
 (gO N B.now B.span.Lo B.span.Hi)
theorem iV {N:Nat} {G:bA} {Lf:List Ent} {w:World} (d:aP) (s_:aB) {b_:Nat} {D:Option Addr} {B:Nat} (I:Rd G 5 D B (d.ways.all.map aH)) (hc:Ctx G (.box b_ [.slice D d.ways.all.length B,i6 d.ways.outside,i6 d.reaches] 78::Lf) w) {R:Int × Int} (hF:dW N d s_=some R):Calls Tryz.prog 66 #[pq b_,.agg #[i6 s_.way,.bool s_.back]] w (fun e w=>e=.returned (.tuple #[i6 R.1,i6 R.2])∧Ctx G (.box b_ [.slice D d.ways.all.length B,i6 d.ways.outside,i6 d.reaches] 78::Lf) w):=by
 unfold dW at hF
 refine cC Tryz.func66 rfl Tryz.ntmps66 rfl fun a hf=>zS fun K h=>zB hf hc rfl fun M a w hf hc=>sp 2 hf rfl fun a hf=>zT h ?_
 refine wp_seq_k fun K2 h2=>?_
 obtain ⟨H,Y,hF⟩:=aC hF
 obtain ⟨i,o,qa,qp⟩:=I.atm Y
 replace hc:=hc.nilRow 0 0
 refine cU (fun θ=>[⟨none,none,0,pq b_⟩,⟨none,none,3,pq M⟩,⟨some 0,none,10,pq b_⟩,⟨some 1,none,11,pq b_⟩,⟨some 2,none,12,pq b_⟩,⟨some 3,none,13,pq b_⟩,⟨some 4,none,14,.slice D d.ways.all.length B⟩,⟨some 5,none,15,pq M⟩,⟨some 6,none,16,i6 s_.way⟩,⟨some 7,none,17,.pointer (some ⟨i,o,none⟩)⟩,⟨some 8,none,18,.agg #[i6 H.from_,i6 H.to_,i6 H.span.Lo,i6 H.span.Hi,i6 H.now]⟩,⟨some 9,none,6,.pointer (some ⟨(θ 72).b,0,none⟩)⟩]) (fun E θ=>(bif E 10 then .box (θ 72).b [i6 H.from_,i6 H.to_,i6 H.span.Lo,i6 H.span.Hi,i6 H.now] 112 else bif E 9 then .box (θ 72).b [i6 0,i6 0,i6 0,i6 0,i6 0] 112 else .row none 0 [] 0 0)::.box M [i6 s_.way,.bool s_.back] 158::.box b_ [.slice D d.ways.all.length B,i6 d.ways.outside,i6 d.reaches] 78::Lf) [(10,9)] (fun a w=>∃ (S:Nat),Has 49 a [(3,pq M),(6,pq S)]∧Ctx G (.box S [i6 H.from_,i6 H.to_,i6 H.span.Lo,i6 H.span.Hi,i6 H.now] 112::.box M [i6 s_.way,.bool s_.back] 158::.box b_ [.slice D d.ways.all.length B,i6 d.ways.outside,i6 d.reaches] 78::Lf) w) aT (by kernel_rfl) (by kernel_rfl) (dL.of hf ⟨rfl,rfl,trivial,trivial,trivial,trivial,trivial,trivial,trivial,trivial,trivial,trivial,trivial⟩) hc ⟨?_,?_,?_,?_,?_,?_,?_,?_,?_,?_,?_,trivial⟩ ?_ ?_
 ·intro E θ a w hD hi hp he hc
  have hf:=he.h0.mT he 0 rfl
  refine sp 1 hf rfl fun a hf=>zD θ he hi hf 2 rfl rfl rfl hc
 ·intro E θ a w hD hi hp he hc
  have e0:=hp.o 0 rfl
  have hf:=he.h0.mP he 2 rfl e0
  refine sp 1 hf rfl fun a hf=>zD θ he hi hf 3 rfl rfl rfl hc
 ·intro E θ a w hD hi hp he hc
  have e1:=hp.o 1 rfl
  have hf:=he.h0.mP he 3 rfl e1
  refine zP hf rfl (pFA gA rfl) fun a hf=>zD θ he hi hf 4 rfl rfl rfl hc
 ·intro E θ a w hD hi hp he hc
  have e2:=hp.o 2 rfl
  have hf:=he.h0.mP he 4 rfl e2
  refine zP hf rfl (pFA jI rfl) fun a hf=>zD θ he hi hf 5 rfl rfl rfl hc
 ·intro E θ a w hD hi hp he hc
  have e3:=hp.o 3 rfl
  have hf:=he.h0.mP he 5 rfl e3
  refine zL hf hc qK m2 rfl fun a w hf hc=>zD θ he hi hf 6 rfl rfl rfl hc
 ·intro E θ a w hD hi hp he hc
  have hf:=he.h0.mT he 1 rfl
  refine zP hf rfl (pFA xF rfl) fun a hf=>zD θ he hi hf 7 rfl rfl rfl hc
 ·intro E θ a w hD hi hp he hc
  have e5:=hp.o 5 rfl
  have hf:=he.h0.mP he 7 rfl e5
  refine zL hf hc aX m1 rfl fun a w hf hc=>zD θ he hi hf 8 rfl rfl rfl hc
 ·intro E θ a w hD hi hp he hc
  have e4:=hp.o 4 rfl
  have e6:=hp.o 6 rfl
  have hf:=(he.h0.mP he 6 rfl e4).mP he 8 rfl e6
  refine zP hf rfl (pIA Tryz.underlying74 kB rfl rfl qa) fun a hf=>zD θ he hi hf 9 rfl rfl rfl hc
 ·intro E θ a w hD hi hp he hc
  have e7:=hp.o 7 rfl
  have hf:=he.h0.mP he 9 rfl e7
  refine zE hf hc rfl (kK (vs:=[i6 H.from_,i6 H.to_,i6 H.span.Lo,i6 H.span.Hi,i6 H.now]) aDc rfl rfl (dF qp (n:=5) (o':=0) rfl)) fun a w hf hc=>zD θ he hi hf 10 rfl rfl rfl hc
 ·intro E θ a w hD hi hp he hc
  have O:=hD.f 0 rfl hi
  try dsimp only at hc
  rw [hi,O] at hc
  have hf:=he.h0
  refine zA hf hc aCr rfl fun Z a w hf hc=>aQ ?_
  refine bV ?_
  intro ds u g
  replace hc:=hc.drop k1
  refine ⟨(hZ θ 72 ⟨Z,none,0,(fun _=>(none,0))⟩),he.put hi g hf rfl [] trivial ⟨qq,qq,qq,qq,qq,qq,qq,qq,qq,qq,qq,qq,trivial⟩,?_⟩
  try dsimp only
  rw [aN E 9,aS 9 O rfl]
  exact hc
 ·intro E θ a w hD hi hp he hc
  have e8:=hp.o 8 rfl
  have e9:=hp.o 9 rfl
  try dsimp only at hc
  rw [e9,hi] at hc
  have hf:=(he.h0.mP he 10 rfl e8).mP he 11 rfl e9
  refine zW hf hc kB u0 rfl fun w hc=>zG θ he hi hf rfl ?_
  try dsimp only
  rw [cB 10 e9,aN E 10]
  exact hc
 ·intro E θ a w V he hc
  have hf:=he.h0
  have e9:=V 9 rfl
  have O:=V 10 rfl
  replace hf:=hf.more he 11 rfl (onP e9)
  replace hf:=hf.more he 1 rfl (onT)
  try dsimp only at hc
  rw [e9,O] at hc
  exact ⟨(θ 72).b,hf.kp rfl,hc⟩
 rintro a w ⟨S,hf,hc⟩
 refine h2 _ _ ?_
 refine wp_seq_k fun K3 h3=>cQ hc aT (by kernel_rfl) ?_
 refine qE hf rfl rfl rfl (Pu.ev (pFA jZ rfl)) fun a hf=>qE hf rfl rfl rfl (cV aX rfl (bQ m0 rfl)) fun a hf=>qE hf rfl rfl rfl (Pu.ev (pFA zH rfl)) fun a hf=>qE hf rfl rfl rfl (Pu.ev (pFA iH rfl)) fun a hf=>qE hf rfl rfl rfl (cV aX rfl (bQ m0 rfl)) fun a hf=>qE hf rfl rfl rfl (Pu.ev (pFA zH rfl)) fun a hf=>qE hf rfl rfl rfl (Pu.ev (pFA fQ rfl)) fun a hf=>qE hf rfl rfl rfl (cV aX rfl (bQ m0 rfl)) fun a hf=>qE hf rfl rfl rfl (Pu.ev (pA rfl)) fun a hf=>qE hf rfl rfl rfl (Pu.ev (pA rfl)) fun a hf=>qE hf rfl rfl rfl (Pu.ev (pA rfl)) fun a hf=>?_
 intro w hc
 refine h3 _ _ ?_
 refine wp_seq_k fun K4 h4=>?_
 have X:∀ (U:Int) (J:Int) (most:Int) a w,Has 49 a [(7,i6 U),(8,i6 J),(9,i6 most)]→Ctx G (.box b_ [.slice D d.ways.all.length B,i6 d.ways.outside,i6 d.reaches] 78::Lf) w→gO N U J most=some R→K4 a w:=by
  repeat (clear hF)
  repeat (clear hc)
  repeat (clear hf)
  intro U J most a w hf hc hF
  unfold gO at hF
  refine h4 _ _ ?_
  refine wp_seq_k fun K5 h5=>wp_block ?_
  refine zS fun K h=>sp 4 hf rfl fun a hf=>zT h ?_
  refine zI hf rfl hF ?_ ?_ <;> clear hF <;> intro hF
  ·refine zS fun K h=>sp 5 hf rfl fun a hf=>zT h ?_
   refine wp_ret ?_
   refine cI ?_
   refine aU ?_
   obtain rfl:=sj hF
   exact zO2 Tryz.results66 hf rfl rfl ⟨rfl,hc⟩
  ·refine zS fun K h=>sp 4 hf rfl fun a hf=>zT h ?_
   refine zI hf rfl hF ?_ ?_ <;> clear hF <;> intro hF
   ·refine zS fun K h=>sp 5 hf rfl fun a hf=>zT h ?_
    refine wp_ret ?_
    refine cI ?_
    refine aU ?_
    obtain rfl:=sj hF
    exact zO2 Tryz.results66 hf rfl rfl ⟨rfl,hc⟩
   ·refine wp_skip ?_
    refine h5 _ _ ?_
    refine zS fun K h=>sp 2 hf rfl fun a hf=>zT h ?_
    refine wp_ret ?_
    obtain rfl:=sj hF
    exact zO2 Tryz.results66 hf rfl rfl ⟨rfl,hc⟩
 refine zS fun K h=>zP hf rfl (pFA xM rfl) fun a hf=>zL hf hc vC m1 rfl fun a w hf hc=>zT h ?_
 refine zI hf rfl hF ?_ ?_ <;> clear hF <;> intro hF
 ·refine cX ?_
  refine sp 9 hf rfl fun a hf=>aQ ?_
  replace hc:=(hc.drop k1).drop k0
  exact X (W (0 - H.now)) (W (0 - H.span.Hi)) (W (0 - H.span.Lo)) _ _  (hf.kp rfl) hc hF
 ·refine wp_skip ?_
  replace hc:=(hc.drop k1).drop k0
  exact X H.now H.span.Lo H.span.Hi _ _  (hf.kp rfl) hc hF

def eD (N:Nat) (d:aP) (s_:aB):Option (Int) :=
 cond s_.back
 (Option.bind (cM d.ways.all s_.way) fun B=>
 some B.from_)
 (Option.bind (cM d.ways.all s_.way) fun D=>
 some D.to_)
theorem gG {N:Nat} {G:bA} {Lf:List Ent} {w:World} (d:aP) (s_:aB) {b_:Nat} {D:Option Addr} {B:Nat} (H:Rd G 5 D B (d.ways.all.map aH)) (hc:Ctx G (.box b_ [.slice D d.ways.all.length B,i6 d.ways.outside,i6 d.reaches] 78::Lf) w) {I:Int} (hF:eD N d s_=some I):Calls Tryz.prog 67 #[pq b_,.agg #[i6 s_.way,.bool s_.back]] w (fun e w=>e=.returned (i6 I)∧Ctx G (.box b_ [.slice D d.ways.all.length B,i6 d.ways.outside,i6 d.reaches] 78::Lf) w):=by
 unfold eD at hF
 refine cC Tryz.func67 rfl Tryz.ntmps67 rfl fun a hf=>zS fun K h=>zB hf hc rfl fun Z a w hf hc=>sp 1 hf rfl fun a hf=>zT h ?_
 refine wp_seq_k fun K2 h2=>zS fun K h=>zP hf rfl (pFA xM rfl) fun a hf=>zL hf hc vC m0 rfl fun a w hf hc=>zT h ?_
 refine zI hf rfl hF ?_ ?_ <;> clear hF <;> intro hF
 ·refine wp_seq_k fun K4 h4=>?_
  obtain ⟨V,O,hF⟩:=aC hF
  obtain ⟨X,o,qa,qp⟩:=H.atm O
  refine cQ hc aT (by kernel_rfl) ?_
  refine qE hf rfl rfl rfl (Pu.ev (pM rfl)) fun a hf=>qE hf rfl rfl rfl (Pu.ev (pNC rfl)) fun a hf=>qE hf rfl rfl rfl (Pu.ev (pFA gA rfl)) fun a hf=>qE hf rfl rfl rfl (Pu.ev (pFA jI rfl)) fun a hf=>qE hf rfl rfl rfl (cV qK rfl (bQ m1 rfl)) fun a hf=>qE hf rfl rfl rfl (Pu.ev (pFA xF rfl)) fun a hf=>qE hf rfl rfl rfl (cV aX rfl (bQ m0 rfl)) fun a hf=>qE hf rfl rfl rfl (Pu.ev (pIA Tryz.underlying74 kB rfl rfl qa)) fun a hf=>qE hf rfl rfl rfl (Pu.ev (pFA sX rfl)) fun a hf=>qE hf rfl rfl rfl (cV aX rfl (kX (j:=0) qp rfl)) fun a hf=>qE hf rfl rfl rfl (Pu.ev (pA rfl)) fun a hf=>?_
  intro w hc
  refine h4 _ _ ?_
  refine wp_ret ?_
  refine aU ?_
  obtain rfl:=sj hF
  replace hc:=hc.drop k0
  exact zO1 Tryz.results67 hf rfl ⟨rfl,hc⟩
 ·refine wp_skip ?_
  refine h2 _ _ ?_
  refine wp_seq_k fun K5 h5=>?_
  obtain ⟨U,M,hF⟩:=aC hF
  obtain ⟨S,Y,J,R⟩:=H.atm M
  refine cQ hc aT (by kernel_rfl) ?_
  refine qE hf rfl rfl rfl (Pu.ev (pM rfl)) fun a hf=>qE hf rfl rfl rfl (Pu.ev (pNC rfl)) fun a hf=>qE hf rfl rfl rfl (Pu.ev (pFA gA rfl)) fun a hf=>qE hf rfl rfl rfl (Pu.ev (pFA jI rfl)) fun a hf=>qE hf rfl rfl rfl (cV qK rfl (bQ m1 rfl)) fun a hf=>qE hf rfl rfl rfl (Pu.ev (pFA xF rfl)) fun a hf=>qE hf rfl rfl rfl (cV aX rfl (bQ m0 rfl)) fun a hf=>qE hf rfl rfl rfl (Pu.ev (pIA Tryz.underlying74 kB rfl rfl J)) fun a hf=>qE hf rfl rfl rfl (Pu.ev (pFA uQ rfl)) fun a hf=>qE hf rfl rfl rfl (cV aX rfl (kX (j:=1) R rfl)) fun a hf=>qE hf rfl rfl rfl (Pu.ev (pA rfl)) fun a hf=>?_
  intro w hc
  refine h5 _ _ ?_
  refine wp_ret ?_
  obtain rfl:=sj hF
  replace hc:=hc.drop k0
  exact zO1 Tryz.results67 hf rfl ⟨rfl,hc⟩

end Go.Nilo
