/-
 What functions of the Go text compute, as plain functions, and that they do, part 1 of 4. Conditions: what each theorem names.
-/
import Derived.Test.YtfgdaecfjidahaaGreatNl33
import Derived.Test.YtfgdaecfjidahaaGreatProg
set_option linter.unusedVariables false
set_option linter.unusedSimpArgs false
set_option maxRecDepth 100000
set_option maxHeartbeats 4000000
namespace Go.Nilo
open Go.Proofs


structure bG where
 bytes:List Int
 used:Int
 mix:Int

structure aF where
 From:Int
 To:Int
 Day:Int
 Rise:Int
 Error:Int
@[reducible] def aM (x:aF):List Value:=[i6 x.From,i6 x.To,i6 x.Day,i6 x.Rise,i6 x.Error]
theorem gR:∀ x,(aM x).length=5∧nW (aM x)=true:=fun _=>⟨rfl,rfl⟩

structure aO where
 Marks:Int
 Lines:List aF

structure aE where
 Line:Int
 Back:Bool
@[reducible] def aD (x:aE):List Value:=[i6 x.Line,.bool x.Back]
theorem xO:∀ x,(aD x).length=2∧nW (aD x)=true:=fun _=>⟨rfl,rfl⟩

structure aP where
 Net:aO
 can:Nat→Int
 by_:Nat→aE

structure aZ where
 Mark:Int
 Day:Int
@[reducible] def jG (x:aZ):List Value:=[i6 x.Mark,i6 x.Day]
theorem xD:∀ x,(jG x).length=2∧nW (jG x)=true:=fun _=>⟨rfl,rfl⟩

structure aG where
 Stage:Int
 Flow:Int
@[reducible] def bF (x:aG):List Value:=[i6 x.Stage,i6 x.Flow]
theorem aGh:∀ x,(bF x).length=2∧nW (bF x)=true:=fun _=>⟨rfl,rfl⟩

structure fE where
 N:Int
 D:Int
@[reducible] def wH (x:fE):List Value:=[i6 x.N,i6 x.D]
theorem aHv:∀ x,(wH x).length=2∧nW (wH x)=true:=fun _=>⟨rfl,rfl⟩

structure aC where
 Lo:Int
 Hi:Int
@[reducible] def aH (x:aC):List Value:=[i6 x.Lo,i6 x.Hi]
theorem gU:∀ x,(aH x).length=2∧nW (aH x)=true:=fun _=>⟨rfl,rfl⟩

structure aJ where
 Day:Int
 Stage:Int
 Flow:aC
@[reducible] def bB (x:aJ):List Value:=[i6 x.Day,i6 x.Stage,i6 x.Flow.Lo,i6 x.Flow.Hi]
theorem uL:∀ x,(bB x).length=4∧nW (bB x)=true:=fun _=>⟨rfl,rfl⟩

structure aR where
 Rating:List aG
 Gaugings:List aJ

structure tT where
 Record:aR
 passes:List aC

structure aK where
 Gauging:Int
 Up:Bool
@[reducible] def dD (x:aK):List Value:=[i6 x.Gauging,.bool x.Up]
theorem nE:∀ x,(dD x).length=2∧nW (dD x)=true:=fun _=>⟨rfl,rfl⟩

structure bN where
 Known:Bool
 Flow:aC
@[reducible] def cO (x:bN):List Value:=[.bool x.Known,i6 x.Flow.Lo,i6 x.Flow.Hi]
theorem aGc:∀ x,(cO x).length=3∧nW (cO x)=true:=fun _=>⟨rfl,rfl⟩

structure dZ where
 Rise:Int
 Fall:Int
 Days:List bN

structure nL where
 Record:dZ
 spans:List aC

structure bM where
 State:Int
 Amount:Int
 Loss:Int
@[reducible] def cB (x:bM):List Value:=[i6 x.State,i6 x.Amount,i6 x.Loss]
theorem aGd:∀ x,(cB x).length=3∧nW (cB x)=true:=fun _=>⟨rfl,rfl⟩

structure bW where
 States:Int
 Rights:List bM

structure iR where
 Compact:bW
 got:Nat→Int

theorem bt_65:cU Tryz.prog 65=some ([.slice none 0 0,i6 0,i6 0],[(0,1),(1,1),(2,1)]):=by kernel_rfl

theorem en_5:En Tryz.prog 5:=En.of Tryz.func5 (by kernel_rfl) (by kernel_rfl)

theorem aC2:(Tryz.prog.info? 25).map (·.zero)=some (some (.agg #[i6 0,.slice none 0 0])):=by kernel_rfl

theorem yC:∀ (q:Addr) (w:World),(Instr.fieldAt 65 (.pointer (some q)) 0).run Tryz.prog w=.ok (.pointer (some (q.add 0))) w:=fun _ _=>by kernel_rfl

theorem aF0:ScT Tryz.prog 22:=⟨⟨_,Tryz.underlying22,trivial⟩,by kernel_rfl⟩

theorem xS:∀ (q:Addr) (w:World),(Instr.fieldAt 65 (.pointer (some q)) 1).run Tryz.prog w=.ok (.pointer (some (q.add 1))) w:=fun _ _=>by kernel_rfl

theorem aY:ScT Tryz.prog 3:=⟨⟨_,Tryz.underlying3,trivial⟩,by kernel_rfl⟩

theorem sz_5:(Tryz.prog.info? 5).map (·.size)=some 1:=by kernel_rfl

theorem sc_5:ScT Tryz.prog 5:=⟨⟨_,Tryz.underlying5,trivial⟩,by kernel_rfl⟩

theorem aW:Tryz.prog.follows .mixedOrders=true:=by kernel_rfl

theorem aAs:∀ (q:Addr) (w:World),(Instr.fieldAt 65 (.pointer (some q)) 2).run Tryz.prog w=.ok (.pointer (some (q.add 2))) w:=fun _ _=>by kernel_rfl

theorem eQ:(Tryz.prog.info? 3).map (·.size)=some 1:=by kernel_rfl

theorem aD4:En Tryz.prog 8:=En.of Tryz.func8 (by kernel_rfl) (by kernel_rfl)

theorem aI1:En Tryz.prog 9:=En.of Tryz.func9 (by kernel_rfl) (by kernel_rfl)

theorem aKa:cU Tryz.prog 25=some ([i6 0,.slice none 0 0],[(0,1),(1,1)]):=by kernel_rfl

theorem aDd:(Tryz.prog.info? 25).map (·.size)=some 2:=by kernel_rfl

theorem qG:SlT Tryz.prog 26 3 1 8 (i6 0):=SlT.of Tryz.underlying26 (by kernel_rfl) (by decide)

theorem gW:∀ (q:Addr) (w:World),(Instr.fieldAt 25 (.pointer (some q)) 0).run Tryz.prog w=.ok (.pointer (some (q.add 0))) w:=fun _ _=>by kernel_rfl

theorem kW:∀ (q:Addr) (w:World),(Instr.fieldAt 25 (.pointer (some q)) 1).run Tryz.prog w=.ok (.pointer (some (q.add 1))) w:=fun _ _=>by kernel_rfl

theorem sE:ScT Tryz.prog 23:=⟨⟨_,Tryz.underlying23,trivial⟩,by kernel_rfl⟩

theorem aH4:(Tryz.prog.info? 32).map (·.zero)=some (some (.agg #[i6 0,i6 0,i6 0,i6 0,i6 0])):=by kernel_rfl

theorem aIl:cU Tryz.prog 32=some ([i6 0,i6 0,i6 0,i6 0,i6 0],[(0,1),(1,1),(2,1),(3,1),(4,1)]):=by kernel_rfl

theorem rA:(Tryz.prog.info? 32).map (·.size)=some 5:=by kernel_rfl

theorem yD:∀ (q:Addr) (w:World),(Instr.fieldAt 32 (.pointer (some q)) 4).run Tryz.prog w=.ok (.pointer (some (q.add 4))) w:=fun _ _=>by kernel_rfl

theorem sH:∀ (q:Addr) (w:World),(Instr.fieldAt 32 (.pointer (some q)) 3).run Tryz.prog w=.ok (.pointer (some (q.add 3))) w:=fun _ _=>by kernel_rfl

theorem aAa:qO Tryz.prog 32 5:=⟨⟨_,Tryz.underlying32,trivial⟩,by kernel_rfl⟩

theorem en_16:En Tryz.prog 16:=En.of Tryz.func16 (by kernel_rfl) (by kernel_rfl)

theorem aF5:SlT Tryz.prog 23 32 5 40 (.agg #[i6 0,i6 0,i6 0,i6 0,i6 0]):=SlT.of Tryz.underlying23 (by kernel_rfl) (by decide)

theorem sz_23:(Tryz.prog.info? 23).map (·.size)=some 1:=by kernel_rfl

theorem oN:qO Tryz.prog 25 2:=⟨⟨_,Tryz.underlying25,trivial⟩,by kernel_rfl⟩

theorem en_4:En Tryz.prog 4:=En.of Tryz.func4 (by kernel_rfl) (by kernel_rfl)

theorem xM:∀ (q:Addr) (w:World),(Instr.fieldAt 32 (.pointer (some q)) 2).run Tryz.prog w=.ok (.pointer (some (q.add 2))) w:=fun _ _=>by kernel_rfl

theorem vT:∀ (q:Addr) (w:World),(Instr.fieldAt 32 (.pointer (some q)) 0).run Tryz.prog w=.ok (.pointer (some (q.add 0))) w:=fun _ _=>by kernel_rfl

theorem vX:∀ (q:Addr) (w:World),(Instr.fieldAt 32 (.pointer (some q)) 1).run Tryz.prog w=.ok (.pointer (some (q.add 1))) w:=fun _ _=>by kernel_rfl

theorem aN4:(Tryz.prog.info? 136).map (·.zero)=some (some (.nilFunc)):=by kernel_rfl

theorem aPk:(Tryz.prog.info? 136).map (·.size)=some 1:=by kernel_rfl

theorem aBr:En Tryz.prog 77:=En.of Tryz.func77 (by kernel_rfl) (by kernel_rfl)

theorem aN6:ScT Tryz.prog 169:=⟨⟨_,Tryz.underlying169,trivial⟩,by kernel_rfl⟩

theorem aKh:ScT Tryz.prog 136:=⟨⟨_,Tryz.underlying136,trivial⟩,by kernel_rfl⟩

theorem aMb:En Tryz.prog 76:=En.of Tryz.func76 (by kernel_rfl) (by kernel_rfl)

theorem en_79:En Tryz.prog 79:=En.of Tryz.func79 (by kernel_rfl) (by kernel_rfl)

theorem aN3:En Tryz.prog 110:=En.of Tryz.func110 (by kernel_rfl) (by kernel_rfl)

theorem aNf:En Tryz.prog 131:=En.of Tryz.func131 (by kernel_rfl) (by kernel_rfl)

theorem aOz:En Tryz.prog 109:=En.of Tryz.func109 (by kernel_rfl) (by kernel_rfl)

theorem en_78:En Tryz.prog 78:=En.of Tryz.func78 (by kernel_rfl) (by kernel_rfl)

theorem aMw:En Tryz.prog 39:=En.of Tryz.func39 (by kernel_rfl) (by kernel_rfl)

theorem aNv:cU Tryz.prog 127=some ((aN [i6 0,.slice none 0 0] 169 aB (fun _=>0) (aN [] 169 aD (fun _=>(⟨0,false⟩:aE)) [])),[(0,2),(2,169),(171,338)]):=by kernel_rfl

theorem lY:∀ (q:Addr) (w:World),(Instr.fieldAt 127 (.pointer (some q)) 1).run Tryz.prog w=.ok (.pointer (some (q.add 2))) w:=fun _ _=>by kernel_rfl

theorem qW:(Tryz.prog.info? 119).map (·.size)=some 13:=by kernel_rfl

theorem lP:ScT Tryz.prog 66:=⟨⟨_,Tryz.underlying66,trivial⟩,by kernel_rfl⟩

theorem aLg:∀ (q:Addr) (w:World),(Instr.fieldAt 127 (.pointer (some q)) 2).run Tryz.prog w=.ok (.pointer (some (q.add 171))) w:=fun _ _=>by kernel_rfl

theorem aNp:(Tryz.prog.info? 124).map (·.size)=some 26:=by kernel_rfl

theorem aO4:(Tryz.prog.info? 207).map (·.zero)=some (some (.pointer none)):=by kernel_rfl

theorem aNz:(Tryz.prog.info? 208).map (·.zero)=some (some (.pointer none)):=by kernel_rfl

theorem aM9:(Tryz.prog.info? 207).map (·.size)=some 1:=by kernel_rfl

theorem aO8:(Tryz.prog.info? 208).map (·.size)=some 1:=by kernel_rfl

theorem nY:∀ (q:Addr) (w:World),(Instr.fieldAt 127 (.pointer (some q)) 0).run Tryz.prog w=.ok (.pointer (some (q.add 0))) w:=fun _ _=>by kernel_rfl

theorem aJu:(Tryz.prog.info? 3).map (·.zero)=some (some (i6 0)):=by kernel_rfl

theorem aEa:ScT Tryz.prog 207:=⟨⟨_,Tryz.underlying207,trivial⟩,by kernel_rfl⟩

theorem aJ3:En Tryz.prog 41:=En.of Tryz.func41 (by kernel_rfl) (by kernel_rfl)

theorem aLe:cU Tryz.prog 123=some ([i6 0,.bool false],[(0,1),(1,1)]):=by kernel_rfl

theorem aOw:SlT Tryz.prog 172 123 2 16 (.agg #[i6 0,.bool false]):=SlT.of Tryz.underlying172 (by kernel_rfl) (by decide)

theorem wU:(Tryz.prog.info? 123).map (·.size)=some 2:=by kernel_rfl

theorem rE:qO Tryz.prog 123 2:=⟨⟨_,Tryz.underlying123,trivial⟩,by kernel_rfl⟩

theorem aEj:(Tryz.prog.info? 123).map (·.zero)=some (some (.agg #[i6 0,.bool false])):=by kernel_rfl

theorem aBg:∀ (q:Addr) (w:World),(Instr.fieldAt 123 (.pointer (some q)) 1).run Tryz.prog w=.ok (.pointer (some (q.add 1))) w:=fun _ _=>by kernel_rfl

theorem wC:ScT Tryz.prog 4:=⟨⟨_,Tryz.underlying4,trivial⟩,by kernel_rfl⟩

theorem aO3:(Tryz.prog.info? 175).map (·.zero)=some (some (.agg #[.nilFunc])):=by kernel_rfl

theorem aJk:cU Tryz.prog 175=some ([.nilFunc],[(0,1)]):=by kernel_rfl

theorem aJq:(Tryz.prog.info? 175).map (·.size)=some 1:=by kernel_rfl

theorem aKd:qO Tryz.prog 175 1:=⟨⟨_,Tryz.underlying175,trivial⟩,by kernel_rfl⟩

theorem aMs:En Tryz.prog 83:=En.of Tryz.func83 (by kernel_rfl) (by kernel_rfl)

theorem aK5:ScT Tryz.prog 173:=⟨⟨_,Tryz.underlying173,trivial⟩,by kernel_rfl⟩

theorem yF:∀ (q:Addr) (w:World),(Instr.fieldAt 123 (.pointer (some q)) 0).run Tryz.prog w=.ok (.pointer (some (q.add 0))) w:=fun _ _=>by kernel_rfl

theorem aKv:En Tryz.prog 112:=En.of Tryz.func112 (by kernel_rfl) (by kernel_rfl)

theorem aLd:En Tryz.prog 113:=En.of Tryz.func113 (by kernel_rfl) (by kernel_rfl)

theorem aMv:En Tryz.prog 82:=En.of Tryz.func82 (by kernel_rfl) (by kernel_rfl)

theorem aMq:En Tryz.prog 42:=En.of Tryz.func42 (by kernel_rfl) (by kernel_rfl)

theorem aNw:En Tryz.prog 111:=En.of Tryz.func111 (by kernel_rfl) (by kernel_rfl)

theorem aHi:En Tryz.prog 43:=En.of Tryz.func43 (by kernel_rfl) (by kernel_rfl)

theorem aNt:ScT Tryz.prog 208:=⟨⟨_,Tryz.underlying208,trivial⟩,by kernel_rfl⟩

theorem aJm:En Tryz.prog 81:=En.of Tryz.func81 (by kernel_rfl) (by kernel_rfl)

theorem en_80:En Tryz.prog 80:=En.of Tryz.func80 (by kernel_rfl) (by kernel_rfl)

theorem aMk:En Tryz.prog 40:=En.of Tryz.func40 (by kernel_rfl) (by kernel_rfl)

theorem aDk:En Tryz.prog 17:=En.of Tryz.func17 (by kernel_rfl) (by kernel_rfl)

theorem zr_4:(Tryz.prog.info? 4).map (·.zero)=some (some (.bool false)):=by kernel_rfl

theorem sz_4:(Tryz.prog.info? 4).map (·.size)=some 1:=by kernel_rfl

theorem aHz:En Tryz.prog 18:=En.of Tryz.func18 (by kernel_rfl) (by kernel_rfl)

theorem en_6:En Tryz.prog 6:=En.of Tryz.func6 (by kernel_rfl) (by kernel_rfl)

theorem aNs:(Tryz.prog.info? 177).map (·.zero)=some (some (.map none)):=by kernel_rfl

theorem aOr:(Tryz.prog.info? 177).map (·.size)=some 1:=by kernel_rfl

theorem aGp:ScT Tryz.prog 177:=⟨⟨_,Tryz.underlying177,trivial⟩,by kernel_rfl⟩

theorem en_85:En Tryz.prog 85:=En.of Tryz.func85 (by kernel_rfl) (by kernel_rfl)

theorem en_84:En Tryz.prog 84:=En.of Tryz.func84 (by kernel_rfl) (by kernel_rfl)

theorem en_44:En Tryz.prog 44:=En.of Tryz.func44 (by kernel_rfl) (by kernel_rfl)

theorem aMl:cU Tryz.prog 73=some ([i6 0,i6 0],[(0,1),(1,1)]):=by kernel_rfl

theorem zr_73:(Tryz.prog.info? 73).map (·.zero)=some (some (.agg #[i6 0,i6 0])):=by kernel_rfl

theorem aHl:(Tryz.prog.info? 73).map (·.size)=some 2:=by kernel_rfl

theorem aKp:qO Tryz.prog 73 2:=⟨⟨_,Tryz.underlying73,trivial⟩,by kernel_rfl⟩

theorem aH0:∀ (q:Addr) (w:World),(Instr.fieldAt 73 (.pointer (some q)) 1).run Tryz.prog w=.ok (.pointer (some (q.add 1))) w:=fun _ _=>by kernel_rfl

theorem ge_73:Tryz.prog.eqGuardType Tryz.prog.depth 73=false:=by kernel_rfl

theorem aOj (x0:Int) (x1:Int) (y0:Int) (y1:Int) (w:World):(Op.equalIn 10000 73 (.agg #[i6 x0,i6 x1]) (.agg #[i6 y0,i6 y1])).run Tryz.prog w=.ok (x0 == y0 && x1 == y1) w:=by
 rw [run_equalIn_agg w 9999 73 _ _ (by kernel_rfl) (by kernel_rfl)]
 simp [Op.eqFields,part,go_sem]
 repeat' split
 all_goals simp_all

theorem en_86:En Tryz.prog 86:=En.of Tryz.func86 (by kernel_rfl) (by kernel_rfl)

theorem aDx:∀ (q:Addr) (w:World),(Instr.fieldAt 73 (.pointer (some q)) 0).run Tryz.prog w=.ok (.pointer (some (q.add 0))) w:=fun _ _=>by kernel_rfl

theorem en_45:En Tryz.prog 45:=En.of Tryz.func45 (by kernel_rfl) (by kernel_rfl)

theorem aMz:SlT Tryz.prog 69 73 2 16 (.agg #[i6 0,i6 0]):=SlT.of Tryz.underlying69 (by kernel_rfl) (by decide)

theorem en_19:En Tryz.prog 19:=En.of Tryz.func19 (by kernel_rfl) (by kernel_rfl)

theorem en_7:En Tryz.prog 7:=En.of Tryz.func7 (by kernel_rfl) (by kernel_rfl)

theorem aL2:cU Tryz.prog 39=some ([i6 0,i6 0],[(0,1),(1,1)]):=by kernel_rfl

theorem sl_41:SlT Tryz.prog 41 39 2 16 (.agg #[i6 0,i6 0]):=SlT.of Tryz.underlying41 (by kernel_rfl) (by decide)

theorem bt_44:cU Tryz.prog 44=some ([.slice none 0 0,.slice none 0 0],[(0,1),(1,1)]):=by kernel_rfl

theorem zr_44:(Tryz.prog.info? 44).map (·.zero)=some (some (.agg #[.slice none 0 0,.slice none 0 0])):=by kernel_rfl

theorem sz_44:(Tryz.prog.info? 44).map (·.size)=some 2:=by kernel_rfl

theorem aAw:∀ (q:Addr) (w:World),(Instr.fieldAt 44 (.pointer (some q)) 0).run Tryz.prog w=.ok (.pointer (some (q.add 0))) w:=fun _ _=>by kernel_rfl

theorem aId:ScT Tryz.prog 41:=⟨⟨_,Tryz.underlying41,trivial⟩,by kernel_rfl⟩

theorem aC7:(Tryz.prog.info? 47).map (·.zero)=some (some (.agg #[i6 0,i6 0])):=by kernel_rfl

theorem vH:En Tryz.prog 23:=En.of Tryz.func23 (by kernel_rfl) (by kernel_rfl)

theorem tJ:(Tryz.prog.info? 39).map (·.size)=some 2:=by kernel_rfl

theorem aC9:qO Tryz.prog 39 2:=⟨⟨_,Tryz.underlying39,trivial⟩,by kernel_rfl⟩

theorem aOe:ScT Tryz.prog 140:=⟨⟨_,Tryz.underlying140,trivial⟩,by kernel_rfl⟩

theorem qR:∀ (q:Addr) (w:World),(Instr.fieldAt 39 (.pointer (some q)) 0).run Tryz.prog w=.ok (.pointer (some (q.add 0))) w:=fun _ _=>by kernel_rfl

theorem aKi:En Tryz.prog 48:=En.of Tryz.func48 (by kernel_rfl) (by kernel_rfl)

theorem sI:∀ (q:Addr) (w:World),(Instr.fieldAt 39 (.pointer (some q)) 1).run Tryz.prog w=.ok (.pointer (some (q.add 1))) w:=fun _ _=>by kernel_rfl

theorem aMt:En Tryz.prog 89:=En.of Tryz.func89 (by kernel_rfl) (by kernel_rfl)

theorem en_88:En Tryz.prog 88:=En.of Tryz.func88 (by kernel_rfl) (by kernel_rfl)

theorem aNg:En Tryz.prog 118:=En.of Tryz.func118 (by kernel_rfl) (by kernel_rfl)

theorem aM7:En Tryz.prog 51:=En.of Tryz.func51 (by kernel_rfl) (by kernel_rfl)

theorem aO6:En Tryz.prog 117:=En.of Tryz.func117 (by kernel_rfl) (by kernel_rfl)

theorem en_87:En Tryz.prog 87:=En.of Tryz.func87 (by kernel_rfl) (by kernel_rfl)

theorem aMp:En Tryz.prog 46:=En.of Tryz.func46 (by kernel_rfl) (by kernel_rfl)

theorem aMa:En Tryz.prog 47:=En.of Tryz.func47 (by kernel_rfl) (by kernel_rfl)

theorem en_20:En Tryz.prog 20:=En.of Tryz.func20 (by kernel_rfl) (by kernel_rfl)

theorem aHq:cU Tryz.prog 47=some ([i6 0,i6 0],[(0,1),(1,1)]):=by kernel_rfl

theorem xH:(Tryz.prog.info? 47).map (·.size)=some 2:=by kernel_rfl

theorem zr_39:(Tryz.prog.info? 39).map (·.zero)=some (some (.agg #[i6 0,i6 0])):=by kernel_rfl

theorem en_52:En Tryz.prog 52:=En.of Tryz.func52 (by kernel_rfl) (by kernel_rfl)

theorem aCa:qO Tryz.prog 47 2:=⟨⟨_,Tryz.underlying47,trivial⟩,by kernel_rfl⟩

theorem en_50:En Tryz.prog 50:=En.of Tryz.func50 (by kernel_rfl) (by kernel_rfl)

theorem en_49:En Tryz.prog 49:=En.of Tryz.func49 (by kernel_rfl) (by kernel_rfl)

theorem aMe:En Tryz.prog 21:=En.of Tryz.func21 (by kernel_rfl) (by kernel_rfl)

theorem en_10:En Tryz.prog 10:=En.of Tryz.func10 (by kernel_rfl) (by kernel_rfl)

theorem wA:∀ (q:Addr) (w:World),(Instr.fieldAt 47 (.pointer (some q)) 1).run Tryz.prog w=.ok (.pointer (some (q.add 1))) w:=fun _ _=>by kernel_rfl

theorem oU:∀ (q:Addr) (w:World),(Instr.fieldAt 44 (.pointer (some q)) 1).run Tryz.prog w=.ok (.pointer (some (q.add 1))) w:=fun _ _=>by kernel_rfl

theorem yA:ScT Tryz.prog 42:=⟨⟨_,Tryz.underlying42,trivial⟩,by kernel_rfl⟩

theorem aAt:∀ (q:Addr) (w:World),(Instr.fieldAt 47 (.pointer (some q)) 0).run Tryz.prog w=.ok (.pointer (some (q.add 0))) w:=fun _ _=>by kernel_rfl

theorem qD:cU Tryz.prog 51=some ([i6 0,i6 0],[(0,1),(1,1)]):=by kernel_rfl

theorem bt_53:cU Tryz.prog 53=some ([i6 0,i6 0,i6 0,i6 0],[(0,1),(1,1),(2,2)]):=by kernel_rfl

theorem aM1:SlT Tryz.prog 42 53 4 32 (.agg #[i6 0,i6 0,i6 0,i6 0]):=SlT.of Tryz.underlying42 (by kernel_rfl) (by decide)

theorem sz_42:(Tryz.prog.info? 42).map (·.size)=some 1:=by kernel_rfl

theorem wJ:qO Tryz.prog 44 2:=⟨⟨_,Tryz.underlying44,trivial⟩,by kernel_rfl⟩

theorem aC5:(Tryz.prog.info? 53).map (·.size)=some 4:=by kernel_rfl

theorem aE4:qO Tryz.prog 53 4:=⟨⟨_,Tryz.underlying53,trivial⟩,by kernel_rfl⟩

theorem aO7:ScT Tryz.prog 186:=⟨⟨_,Tryz.underlying186,trivial⟩,by kernel_rfl⟩

theorem aD1:∀ (q:Addr) (w:World),(Instr.fieldAt 53 (.pointer (some q)) 0).run Tryz.prog w=.ok (.pointer (some (q.add 0))) w:=fun _ _=>by kernel_rfl

theorem aHf:∀ (q:Addr) (w:World),(Instr.fieldAt 53 (.pointer (some q)) 1).run Tryz.prog w=.ok (.pointer (some (q.add 1))) w:=fun _ _=>by kernel_rfl

theorem xL:∀ (q:Addr) (w:World),(Instr.fieldAt 53 (.pointer (some q)) 2).run Tryz.prog w=.ok (.pointer (some (q.add 2))) w:=fun _ _=>by kernel_rfl

theorem fY:∀ (q:Addr) (w:World),(Instr.fieldAt 51 (.pointer (some q)) 0).run Tryz.prog w=.ok (.pointer (some (q.add 0))) w:=fun _ _=>by kernel_rfl

theorem fD:∀ (q:Addr) (w:World),(Instr.fieldAt 51 (.pointer (some q)) 1).run Tryz.prog w=.ok (.pointer (some (q.add 1))) w:=fun _ _=>by kernel_rfl

theorem en_91:En Tryz.prog 91:=En.of Tryz.func91 (by kernel_rfl) (by kernel_rfl)

theorem aN8:En Tryz.prog 120:=En.of Tryz.func120 (by kernel_rfl) (by kernel_rfl)

theorem aNr:En Tryz.prog 135:=En.of Tryz.func135 (by kernel_rfl) (by kernel_rfl)

theorem aNh:En Tryz.prog 119:=En.of Tryz.func119 (by kernel_rfl) (by kernel_rfl)

theorem en_90:En Tryz.prog 90:=En.of Tryz.func90 (by kernel_rfl) (by kernel_rfl)

theorem aMn:(Tryz.prog.info? 53).map (·.zero)=some (some (.agg #[i6 0,i6 0,i6 0,i6 0])):=by kernel_rfl

theorem en_53:En Tryz.prog 53:=En.of Tryz.func53 (by kernel_rfl) (by kernel_rfl)

theorem bt_81:cU Tryz.prog 81=some ([.slice none 0 0,.slice none 0 0,.slice none 0 0],[(0,2),(2,1)]):=by kernel_rfl

theorem aOi:(Tryz.prog.info? 142).map (·.zero)=some (some (.nilFunc)):=by kernel_rfl

theorem aOc:(Tryz.prog.info? 142).map (·.size)=some 1:=by kernel_rfl

theorem uF:(Tryz.prog.info? 51).map (·.zero)=some (some (.agg #[i6 0,i6 0])):=by kernel_rfl

theorem fN:(Tryz.prog.info? 51).map (·.size)=some 2:=by kernel_rfl

theorem aHd:En Tryz.prog 27:=En.of Tryz.func27 (by kernel_rfl) (by kernel_rfl)

theorem aNu:ScT Tryz.prog 142:=⟨⟨_,Tryz.underlying142,trivial⟩,by kernel_rfl⟩

theorem aL1:∀ (q:Addr) (w:World),(Instr.fieldAt 81 (.pointer (some q)) 0).run Tryz.prog w=.ok (.pointer (some (q.add 0))) w:=fun _ _=>by kernel_rfl

theorem en_54:En Tryz.prog 54:=En.of Tryz.func54 (by kernel_rfl) (by kernel_rfl)

theorem sJ:∀ (q:Addr) (w:World),(Instr.fieldAt 81 (.pointer (some q)) 1).run Tryz.prog w=.ok (.pointer (some (q.add 2))) w:=fun _ _=>by kernel_rfl

theorem rC:ScT Tryz.prog 79:=⟨⟨_,Tryz.underlying79,trivial⟩,by kernel_rfl⟩

theorem iS:qO Tryz.prog 51 2:=⟨⟨_,Tryz.underlying51,trivial⟩,by kernel_rfl⟩

theorem aC8:SlT Tryz.prog 79 51 2 16 (.agg #[i6 0,i6 0]):=SlT.of Tryz.underlying79 (by kernel_rfl) (by decide)

theorem aMy:(Tryz.prog.info? 79).map (·.size)=some 1:=by kernel_rfl

theorem aIi:En Tryz.prog 60:=En.of Tryz.func60 (by kernel_rfl) (by kernel_rfl)

theorem aAb:En Tryz.prog 22:=En.of Tryz.func22 (by kernel_rfl) (by kernel_rfl)

theorem en_55:En Tryz.prog 55:=En.of Tryz.func55 (by kernel_rfl) (by kernel_rfl)

theorem aMd:En Tryz.prog 24:=En.of Tryz.func24 (by kernel_rfl) (by kernel_rfl)

theorem en_11:En Tryz.prog 11:=En.of Tryz.func11 (by kernel_rfl) (by kernel_rfl)

theorem en_56:En Tryz.prog 56:=En.of Tryz.func56 (by kernel_rfl) (by kernel_rfl)

theorem en_57:En Tryz.prog 57:=En.of Tryz.func57 (by kernel_rfl) (by kernel_rfl)

theorem aJ5:(Tryz.prog.info? 87).map (·.zero)=some (some (.agg (aN [] 601 aB (fun _=>0) []).toArray)):=by kernel_rfl

theorem en_92:En Tryz.prog 92:=En.of Tryz.func92 (by kernel_rfl) (by kernel_rfl)

@[reducible] def cT (x:Nat→Int):List Value:=aN [] 601 aB x []
theorem dC:∀ x,(cT x).length=601∧nW (cT x)=true:=fun x=>⟨(aF7 bA 601 x).1.trans (by decide),(aF7 bA 601 x).2⟩

theorem aCy:qO Tryz.prog 87 601:=⟨⟨_,Tryz.underlying87,trivial⟩,by kernel_rfl⟩

theorem aJ8:SlT Tryz.prog 83 87 601 4808 (.agg (aN [] 601 aB (fun _=>0) []).toArray):=SlT.of Tryz.underlying83 (by kernel_rfl) (by decide)

theorem zR:ScT Tryz.prog 187:=⟨⟨_,Tryz.underlying187,trivial⟩,by kernel_rfl⟩

theorem wL:(Tryz.prog.info? 87).map (·.size)=some 601:=by kernel_rfl

theorem en_93:En Tryz.prog 93:=En.of Tryz.func93 (by kernel_rfl) (by kernel_rfl)

theorem en_58:En Tryz.prog 58:=En.of Tryz.func58 (by kernel_rfl) (by kernel_rfl)

theorem en_59:En Tryz.prog 59:=En.of Tryz.func59 (by kernel_rfl) (by kernel_rfl)

theorem en_25:En Tryz.prog 25:=En.of Tryz.func25 (by kernel_rfl) (by kernel_rfl)

theorem en_26:En Tryz.prog 26:=En.of Tryz.func26 (by kernel_rfl) (by kernel_rfl)

theorem zr_26:(Tryz.prog.info? 26).map (·.zero)=some (some (.slice none 0 0)):=by kernel_rfl

theorem aK6:ScT Tryz.prog 26:=⟨⟨_,Tryz.underlying26,trivial⟩,by kernel_rfl⟩

theorem sz_26:(Tryz.prog.info? 26).map (·.size)=some 1:=by kernel_rfl

theorem en_12:En Tryz.prog 12:=En.of Tryz.func12 (by kernel_rfl) (by kernel_rfl)

theorem aKx:cU Tryz.prog 92=some ([i6 0,i6 0,i6 0,i6 0],[(0,2),(2,1),(3,1)]):=by kernel_rfl

theorem zr_92:(Tryz.prog.info? 92).map (·.zero)=some (some (.agg #[i6 0,i6 0,i6 0,i6 0])):=by kernel_rfl

theorem aKb:(Tryz.prog.info? 92).map (·.size)=some 4:=by kernel_rfl

theorem vR:∀ (q:Addr) (w:World),(Instr.fieldAt 92 (.pointer (some q)) 0).run Tryz.prog w=.ok (.pointer (some (q.add 0))) w:=fun _ _=>by kernel_rfl

theorem aHk:∀ (q:Addr) (w:World),(Instr.fieldAt 92 (.pointer (some q)) 2).run Tryz.prog w=.ok (.pointer (some (q.add 3))) w:=fun _ _=>by kernel_rfl

theorem aFd:cU Tryz.prog 95=some ([i6 0,.bool false],[(0,1),(1,1)]):=by kernel_rfl

theorem tG:qO Tryz.prog 95 2:=⟨⟨_,Tryz.underlying95,trivial⟩,by kernel_rfl⟩

theorem aIn:SlT Tryz.prog 57 95 2 16 (.agg #[i6 0,.bool false]):=SlT.of Tryz.underlying57 (by kernel_rfl) (by decide)

theorem sV:(Tryz.prog.info? 95).map (·.size)=some 2:=by kernel_rfl

theorem rW:∀ (q:Addr) (w:World),(Instr.fieldAt 95 (.pointer (some q)) 0).run Tryz.prog w=.ok (.pointer (some (q.add 0))) w:=fun _ _=>by kernel_rfl

theorem tX:∀ (q:Addr) (w:World),(Instr.fieldAt 95 (.pointer (some q)) 1).run Tryz.prog w=.ok (.pointer (some (q.add 1))) w:=fun _ _=>by kernel_rfl

theorem ge_95:Tryz.prog.eqGuardType Tryz.prog.depth 95=false:=by kernel_rfl

theorem aOo (x0:Int) (x1:Bool) (y0:Int) (y1:Bool) (w:World):(Op.equalIn 10000 95 (.agg #[i6 x0,.bool x1]) (.agg #[i6 y0,.bool y1])).run Tryz.prog w=.ok (x0 == y0 && x1 == y1) w:=by
 rw [run_equalIn_agg w 9999 95 _ _ (by kernel_rfl) (by kernel_rfl)]
 simp [Op.eqFields,part,go_sem]
 repeat' split
 all_goals simp_all

theorem aMc:En Tryz.prog 28:=En.of Tryz.func28 (by kernel_rfl) (by kernel_rfl)

theorem aHg:∀ (q:Addr) (w:World),(Instr.fieldAt 92 (.pointer (some q)) 1).run Tryz.prog w=.ok (.pointer (some (q.add 2))) w:=fun _ _=>by kernel_rfl

theorem en_13:En Tryz.prog 13:=En.of Tryz.func13 (by kernel_rfl) (by kernel_rfl)

theorem sc_97:ScT Tryz.prog 97:=⟨⟨_,Tryz.underlying97,trivial⟩,by kernel_rfl⟩

theorem en_30:En Tryz.prog 30:=En.of Tryz.func30 (by kernel_rfl) (by kernel_rfl)

theorem en_62:En Tryz.prog 62:=En.of Tryz.func62 (by kernel_rfl) (by kernel_rfl)

theorem en_94:En Tryz.prog 94:=En.of Tryz.func94 (by kernel_rfl) (by kernel_rfl)

theorem en_61:En Tryz.prog 61:=En.of Tryz.func61 (by kernel_rfl) (by kernel_rfl)

theorem aMu:En Tryz.prog 29:=En.of Tryz.func29 (by kernel_rfl) (by kernel_rfl)

theorem aIg:(Tryz.prog.info? 95).map (·.zero)=some (some (.agg #[i6 0,.bool false])):=by kernel_rfl

theorem aNl:(Tryz.prog.info? 100).map (·.zero)=some (some (.agg #[.nilFunc])):=by kernel_rfl

theorem aKc:cU Tryz.prog 100=some ([.nilFunc],[(0,1)]):=by kernel_rfl

theorem aKu:(Tryz.prog.info? 100).map (·.size)=some 1:=by kernel_rfl

theorem aJt:qO Tryz.prog 100 1:=⟨⟨_,Tryz.underlying100,trivial⟩,by kernel_rfl⟩

theorem aL7:En Tryz.prog 31:=En.of Tryz.func31 (by kernel_rfl) (by kernel_rfl)

theorem aG8:ScT Tryz.prog 98:=⟨⟨_,Tryz.underlying98,trivial⟩,by kernel_rfl⟩

theorem aMh:En Tryz.prog 63:=En.of Tryz.func63 (by kernel_rfl) (by kernel_rfl)

theorem aM3:En Tryz.prog 64:=En.of Tryz.func64 (by kernel_rfl) (by kernel_rfl)

theorem en_14:En Tryz.prog 14:=En.of Tryz.func14 (by kernel_rfl) (by kernel_rfl)

theorem en_33:En Tryz.prog 33:=En.of Tryz.func33 (by kernel_rfl) (by kernel_rfl)

theorem en_95:En Tryz.prog 95:=En.of Tryz.func95 (by kernel_rfl) (by kernel_rfl)

theorem aL6:En Tryz.prog 65:=En.of Tryz.func65 (by kernel_rfl) (by kernel_rfl)

theorem en_32:En Tryz.prog 32:=En.of Tryz.func32 (by kernel_rfl) (by kernel_rfl)

theorem aOd:(Tryz.prog.info? 108).map (·.zero)=some (some (.agg #[i6 0,i6 0,.slice none 0 0])):=by kernel_rfl

theorem aJ4:(Tryz.prog.info? 162).map (·.zero)=some (some (.agg #[.bool false,i6 0,i6 0])):=by kernel_rfl

theorem aOg:En Tryz.prog 103:=En.of Tryz.func103 (by kernel_rfl) (by kernel_rfl)

theorem aG6:cU Tryz.prog 162=some ([.bool false,i6 0,i6 0],[(0,1),(1,2)]):=by kernel_rfl

theorem aDu:(Tryz.prog.info? 162).map (·.size)=some 3:=by kernel_rfl

theorem aB2:qO Tryz.prog 162 3:=⟨⟨_,Tryz.underlying162,trivial⟩,by kernel_rfl⟩

theorem aM4:En Tryz.prog 72:=En.of Tryz.func72 (by kernel_rfl) (by kernel_rfl)

theorem aOb:SlT Tryz.prog 106 162 3 24 (.agg #[.bool false,i6 0,i6 0]):=SlT.of Tryz.underlying106 (by kernel_rfl) (by decide)

theorem aNi:cU Tryz.prog 108=some ([i6 0,i6 0,.slice none 0 0],[(0,1),(1,1),(2,1)]):=by kernel_rfl

theorem aO0:(Tryz.prog.info? 108).map (·.size)=some 3:=by kernel_rfl

theorem zK:qO Tryz.prog 108 3:=⟨⟨_,Tryz.underlying108,trivial⟩,by kernel_rfl⟩

theorem en_35:En Tryz.prog 35:=En.of Tryz.func35 (by kernel_rfl) (by kernel_rfl)

theorem rB:∀ (q:Addr) (w:World),(Instr.fieldAt 108 (.pointer (some q)) 2).run Tryz.prog w=.ok (.pointer (some (q.add 2))) w:=fun _ _=>by kernel_rfl

theorem wX:ScT Tryz.prog 106:=⟨⟨_,Tryz.underlying106,trivial⟩,by kernel_rfl⟩

theorem aIk:En Tryz.prog 67:=En.of Tryz.func67 (by kernel_rfl) (by kernel_rfl)

theorem aB4:∀ (q:Addr) (w:World),(Instr.fieldAt 108 (.pointer (some q)) 0).run Tryz.prog w=.ok (.pointer (some (q.add 0))) w:=fun _ _=>by kernel_rfl

theorem aK2:En Tryz.prog 96:=En.of Tryz.func96 (by kernel_rfl) (by kernel_rfl)

theorem aA7:∀ (q:Addr) (w:World),(Instr.fieldAt 108 (.pointer (some q)) 1).run Tryz.prog w=.ok (.pointer (some (q.add 1))) w:=fun _ _=>by kernel_rfl

theorem aOp:ScT Tryz.prog 193:=⟨⟨_,Tryz.underlying193,trivial⟩,by kernel_rfl⟩

theorem aFa:∀ (q:Addr) (w:World),(Instr.fieldAt 162 (.pointer (some q)) 0).run Tryz.prog w=.ok (.pointer (some (q.add 0))) w:=fun _ _=>by kernel_rfl

theorem aFs:∀ (q:Addr) (w:World),(Instr.fieldAt 162 (.pointer (some q)) 1).run Tryz.prog w=.ok (.pointer (some (q.add 1))) w:=fun _ _=>by kernel_rfl

theorem en_99:En Tryz.prog 99:=En.of Tryz.func99 (by kernel_rfl) (by kernel_rfl)

theorem en_98:En Tryz.prog 98:=En.of Tryz.func98 (by kernel_rfl) (by kernel_rfl)

theorem aOx:En Tryz.prog 122:=En.of Tryz.func122 (by kernel_rfl) (by kernel_rfl)

theorem aNe:En Tryz.prog 136:=En.of Tryz.func136 (by kernel_rfl) (by kernel_rfl)

theorem aNd:En Tryz.prog 121:=En.of Tryz.func121 (by kernel_rfl) (by kernel_rfl)

theorem en_97:En Tryz.prog 97:=En.of Tryz.func97 (by kernel_rfl) (by kernel_rfl)

theorem aM5:En Tryz.prog 66:=En.of Tryz.func66 (by kernel_rfl) (by kernel_rfl)

theorem aOm:cU Tryz.prog 154=some ([i6 0,i6 0,.slice none 0 0,.slice none 0 0],[(0,3),(3,1)]):=by kernel_rfl

theorem aN5:(Tryz.prog.info? 150).map (·.zero)=some (some (.pointer none)):=by kernel_rfl

theorem aPi:(Tryz.prog.info? 150).map (·.size)=some 1:=by kernel_rfl

theorem lJ:ScT Tryz.prog 150:=⟨⟨_,Tryz.underlying150,trivial⟩,by kernel_rfl⟩

theorem oC:∀ (q:Addr) (w:World),(Instr.fieldAt 154 (.pointer (some q)) 1).run Tryz.prog w=.ok (.pointer (some (q.add 3))) w:=fun _ _=>by kernel_rfl

theorem aPc:En Tryz.prog 123:=En.of Tryz.func123 (by kernel_rfl) (by kernel_rfl)

theorem aPg:(Tryz.prog.info? 212).map (·.zero)=some (some (.nilFunc)):=by kernel_rfl

theorem aOs:(Tryz.prog.info? 212).map (·.size)=some 1:=by kernel_rfl

theorem aKm:En Tryz.prog 125:=En.of Tryz.func125 (by kernel_rfl) (by kernel_rfl)

theorem rH:∀ (q:Addr) (w:World),(Instr.fieldAt 154 (.pointer (some q)) 0).run Tryz.prog w=.ok (.pointer (some (q.add 0))) w:=fun _ _=>by kernel_rfl

theorem aKg:ScT Tryz.prog 212:=⟨⟨_,Tryz.underlying212,trivial⟩,by kernel_rfl⟩

theorem aJl:En Tryz.prog 124:=En.of Tryz.func124 (by kernel_rfl) (by kernel_rfl)

theorem aNj:ScT Tryz.prog 192:=⟨⟨_,Tryz.underlying192,trivial⟩,by kernel_rfl⟩

theorem aOt:En Tryz.prog 127:=En.of Tryz.func127 (by kernel_rfl) (by kernel_rfl)

theorem aNk:En Tryz.prog 139:=En.of Tryz.func139 (by kernel_rfl) (by kernel_rfl)

theorem aN2:En Tryz.prog 152:=En.of Tryz.func152 (by kernel_rfl) (by kernel_rfl)

theorem aNq:En Tryz.prog 138:=En.of Tryz.func138 (by kernel_rfl) (by kernel_rfl)

theorem aPd:En Tryz.prog 126:=En.of Tryz.func126 (by kernel_rfl) (by kernel_rfl)

theorem aKo:En Tryz.prog 137:=En.of Tryz.func137 (by kernel_rfl) (by kernel_rfl)

theorem aJs:En Tryz.prog 100:=En.of Tryz.func100 (by kernel_rfl) (by kernel_rfl)

theorem aL9:En Tryz.prog 68:=En.of Tryz.func68 (by kernel_rfl) (by kernel_rfl)

theorem aKn:(Tryz.prog.info? 157).map (·.zero)=some (some (.agg #[.nilFunc,.nilFunc])):=by kernel_rfl

theorem aLf:cU Tryz.prog 156=some ([.nilFunc],[(0,1)]):=by kernel_rfl

theorem aJ9:(Tryz.prog.info? 157).map (·.size)=some 2:=by kernel_rfl

theorem aOy:qO Tryz.prog 157 2:=⟨⟨_,Tryz.underlying157,trivial⟩,by kernel_rfl⟩

theorem en_69:En Tryz.prog 69:=En.of Tryz.func69 (by kernel_rfl) (by kernel_rfl)

theorem aK1:(Tryz.prog.info? 156).map (·.size)=some 1:=by kernel_rfl

theorem aKk:qO Tryz.prog 156 1:=⟨⟨_,Tryz.underlying156,trivial⟩,by kernel_rfl⟩

theorem aEv:∀ (q:Addr) (w:World),(Instr.fieldAt 156 (.pointer (some q)) 0).run Tryz.prog w=.ok (.pointer (some (q.add 0))) w:=fun _ _=>by kernel_rfl

theorem aO1:En Tryz.prog 101:=En.of Tryz.func101 (by kernel_rfl) (by kernel_rfl)

theorem aL8:En Tryz.prog 71:=En.of Tryz.func71 (by kernel_rfl) (by kernel_rfl)

theorem aM0:En Tryz.prog 70:=En.of Tryz.func70 (by kernel_rfl) (by kernel_rfl)

theorem aOk:En Tryz.prog 102:=En.of Tryz.func102 (by kernel_rfl) (by kernel_rfl)

theorem en_34:En Tryz.prog 34:=En.of Tryz.func34 (by kernel_rfl) (by kernel_rfl)

theorem aOq:(Tryz.prog.info? 114).map (·.zero)=some (some (.agg #[i6 0,.slice none 0 0])):=by kernel_rfl

theorem aGu:cU Tryz.prog 167=some ([i6 0,i6 0,i6 0],[(0,1),(1,1),(2,1)]):=by kernel_rfl

theorem aNa:SlT Tryz.prog 112 167 3 24 (.agg #[i6 0,i6 0,i6 0]):=SlT.of Tryz.underlying112 (by kernel_rfl) (by decide)

theorem aPl:cU Tryz.prog 114=some ([i6 0,.slice none 0 0],[(0,1),(1,1)]):=by kernel_rfl

theorem aPe:(Tryz.prog.info? 114).map (·.size)=some 2:=by kernel_rfl

theorem aDz:qO Tryz.prog 114 2:=⟨⟨_,Tryz.underlying114,trivial⟩,by kernel_rfl⟩

theorem en_37:En Tryz.prog 37:=En.of Tryz.func37 (by kernel_rfl) (by kernel_rfl)

theorem aCh:∀ (q:Addr) (w:World),(Instr.fieldAt 114 (.pointer (some q)) 0).run Tryz.prog w=.ok (.pointer (some (q.add 0))) w:=fun _ _=>by kernel_rfl

theorem aBv:En Tryz.prog 104:=En.of Tryz.func104 (by kernel_rfl) (by kernel_rfl)

theorem aB5:∀ (q:Addr) (w:World),(Instr.fieldAt 114 (.pointer (some q)) 1).run Tryz.prog w=.ok (.pointer (some (q.add 1))) w:=fun _ _=>by kernel_rfl

theorem aGz:ScT Tryz.prog 112:=⟨⟨_,Tryz.underlying112,trivial⟩,by kernel_rfl⟩

theorem aD0:(Tryz.prog.info? 167).map (·.size)=some 3:=by kernel_rfl

theorem aEd:qO Tryz.prog 167 3:=⟨⟨_,Tryz.underlying167,trivial⟩,by kernel_rfl⟩

theorem aO5:ScT Tryz.prog 198:=⟨⟨_,Tryz.underlying198,trivial⟩,by kernel_rfl⟩

theorem aEs:∀ (q:Addr) (w:World),(Instr.fieldAt 167 (.pointer (some q)) 0).run Tryz.prog w=.ok (.pointer (some (q.add 0))) w:=fun _ _=>by kernel_rfl

theorem aFz:∀ (q:Addr) (w:World),(Instr.fieldAt 167 (.pointer (some q)) 1).run Tryz.prog w=.ok (.pointer (some (q.add 1))) w:=fun _ _=>by kernel_rfl

theorem aL5:En Tryz.prog 74:=En.of Tryz.func74 (by kernel_rfl) (by kernel_rfl)

theorem aFq:∀ (q:Addr) (w:World),(Instr.fieldAt 167 (.pointer (some q)) 2).run Tryz.prog w=.ok (.pointer (some (q.add 2))) w:=fun _ _=>by kernel_rfl

theorem aOa:En Tryz.prog 106:=En.of Tryz.func106 (by kernel_rfl) (by kernel_rfl)

theorem aNy:En Tryz.prog 129:=En.of Tryz.func129 (by kernel_rfl) (by kernel_rfl)

theorem aOn:En Tryz.prog 140:=En.of Tryz.func140 (by kernel_rfl) (by kernel_rfl)

theorem aM8:En Tryz.prog 128:=En.of Tryz.func128 (by kernel_rfl) (by kernel_rfl)

theorem aOh:En Tryz.prog 105:=En.of Tryz.func105 (by kernel_rfl) (by kernel_rfl)

theorem en_73:En Tryz.prog 73:=En.of Tryz.func73 (by kernel_rfl) (by kernel_rfl)

theorem aPa:cU Tryz.prog 202=some ((aN [i6 0,.slice none 0 0] 12 aB (fun _=>0) []),[(0,2),(2,12)]):=by kernel_rfl

theorem aNn:(Tryz.prog.info? 199).map (·.zero)=some (some (.pointer none)):=by kernel_rfl

theorem aPh:(Tryz.prog.info? 199).map (·.size)=some 1:=by kernel_rfl

theorem aBn:ScT Tryz.prog 199:=⟨⟨_,Tryz.underlying199,trivial⟩,by kernel_rfl⟩

theorem aN1:En Tryz.prog 107:=En.of Tryz.func107 (by kernel_rfl) (by kernel_rfl)

theorem aFk:∀ (q:Addr) (w:World),(Instr.fieldAt 202 (.pointer (some q)) 0).run Tryz.prog w=.ok (.pointer (some (q.add 0))) w:=fun _ _=>by kernel_rfl

theorem aK0:(Tryz.prog.info? 167).map (·.zero)=some (some (.agg #[i6 0,i6 0,i6 0])):=by kernel_rfl

theorem aBj:∀ (q:Addr) (w:World),(Instr.fieldAt 202 (.pointer (some q)) 1).run Tryz.prog w=.ok (.pointer (some (q.add 2))) w:=fun _ _=>by kernel_rfl

theorem aOf:En Tryz.prog 108:=En.of Tryz.func108 (by kernel_rfl) (by kernel_rfl)

theorem aPj:En Tryz.prog 130:=En.of Tryz.func130 (by kernel_rfl) (by kernel_rfl)

theorem en_75:En Tryz.prog 75:=En.of Tryz.func75 (by kernel_rfl) (by kernel_rfl)

theorem en_36:En Tryz.prog 36:=En.of Tryz.func36 (by kernel_rfl) (by kernel_rfl)

theorem aMx:Tryz.prog.eqGuardType Tryz.prog.depth 51=false:=by kernel_rfl

theorem aJn (x0:Int) (x1:Int) (y0:Int) (y1:Int) (w:World):(Op.equalIn 10000 51 (.agg #[i6 x0,i6 x1]) (.agg #[i6 y0,i6 y1])).run Tryz.prog w=.ok (x0 == y0 && x1 == y1) w:=by
 rw [run_equalIn_agg w 9999 51 _ _ (by kernel_rfl) (by kernel_rfl)]
 simp [Op.eqFields,part,go_sem]
 repeat' split
 all_goals simp_all

theorem en_38:En Tryz.prog 38:=En.of Tryz.func38 (by kernel_rfl) (by kernel_rfl)

theorem en_15:En Tryz.prog 15:=En.of Tryz.func15 (by kernel_rfl) (by kernel_rfl)

def aAz (N:Nat) (B:List Int):Option (Int × Int) :=
 some (0,0)
theorem aBx {N:Nat} {G:aU} {Lf:List Ent} {w:World} (H:List Int) {B:Option Addr} {D:Nat} (M:Rd G 1 B D (H.map qP)) (hc:Ctx G (Lf) w) {I:Int × Int} (hF:aAz N H=some I):Calls Tryz.prog 5 #[.slice B H.length D] w (fun e w=>∃ (J:Nat),e=.returned (pq J)∧Ctx G (.box J [.slice B H.length D,i6 I.1,i6 I.2] 65::Lf) w):=by
 unfold aAz at hF
 refine bU Tryz.func5 rfl Tryz.ntmps5 rfl fun a hf=>zS fun K h=>sp 1 hf rfl fun a hf=>zT h ?_
 refine zS fun K h=>sp 1 hf rfl fun a hf=>zP hf rfl (bL (cells:=[.slice B H.length D,i6 0,i6 0]) bt_65 rfl rfl) fun a hf=>zB hf hc rfl fun O a w hf hc=>sp 1 hf rfl fun a hf=>zT h ?_
 refine wp_ret ?_
 obtain rfl:=sj hF
 exact zO1 Tryz.results5 hf rfl ⟨O,rfl,hc⟩

def fQ (N:Nat) (s_:bG) (n:Int) (B:Int) (D:Int):Option (Int × Int × Int) :=
 Option.bind (nz n) fun H=>
 some (D.tmod n,W (s_.used + 1),(W ((W ((W (5 * s_.mix)) + B)) + 1)).tmod 251)
def fR (N:Nat) (s_:bG) (n:Int) (B:Int):Option (Int × Int × Int) :=
 cond (decide (256 < n))
 (fQ N s_ n B (W ((W (256 * B)) + ((W ((W ((W (5 * s_.mix)) + B)) + 1)).tmod 251))))
 (fQ N s_ n B B)
def cH (N:Nat) (s_:bG) (n:Int):Option (Int × Int × Int) :=
 cond ((decide (n < 2)) || (((s_.bytes.length:Nat):Int) == 0))
 (some (0,s_.used,s_.mix))
 (Option.bind (nz ((s_.bytes.length:Nat):Int)) fun un=>
 Option.bind (bQ s_.bytes (s_.used.tmod ((s_.bytes.length:Nat):Int))) fun B=>
 cond (decide (((s_.bytes.length:Nat):Int)≤s_.used))
 (Option.bind (nz ((s_.bytes.length:Nat):Int)) fun D=>
 fR N s_ n (W ((W (B)) + (W ((W (11 * s_.mix)) + (W (s_.used.tdiv ((s_.bytes.length:Nat):Int))))))))
 (fR N s_ n (W (B))))
theorem dV {N:Nat} {G:aU} {Lf:List Ent} {w:World} (s_:bG) (n:Int) {b_:Nat} {B:Option Addr} {D:Nat} (J:Rd G 1 B D (s_.bytes.map qP)) (hc:Ctx G (.box b_ [.slice B s_.bytes.length D,i6 s_.used,i6 s_.mix] 65::Lf) w) {I:Int × Int × Int} (hF:cH N s_ n=some I):Calls Tryz.prog 8 #[pq b_,i6 n] w (fun e w=>e=.returned (i6 I.1)∧Ctx G (.box b_ [.slice B s_.bytes.length D,i6 I.2.1,i6 I.2.2] 65::Lf) w):=by
 unfold cH at hF
 refine bU Tryz.func8 rfl Tryz.ntmps8 rfl fun a hf=>zS fun K h=>sp 1 hf rfl fun a hf=>zT h ?_
 refine wp_seq_k fun K2 h2=>zS fun K h=>sp 3 hf rfl fun a hf=>gQ 7 (fun a=>Has 92 a [(0,pq b_),(1,i6 n),(6,i6 n),(7,.bool (decide (n < 2))),(8,.bool (decide (n < 2))),(15,.bool ((decide (n < 2)) || (((s_.bytes.length:Nat):Int) == 0)))]) hc ?_ ?_
 ·cases hb:(decide (n < 2))
  ·rw [hb] at hf
   refine sp 2 hf rfl fun a hf=>zP hf rfl (pFA yC rfl) fun a hf=>zL hf hc aF0 m0 rfl fun a w hf hc=>zP hf rfl (cR Tryz.underlying22 rfl) fun a hf=>sp 2 hf rfl fun a hf=>aS ⟨hf.kp rfl,hc⟩
  ·rw [hb] at hf
   refine stS hf rfl rfl rfl fun a hf=>stS hf rfl rfl rfl fun a hf=>stS hf rfl rfl rfl fun a hf=>stS hf rfl rfl rfl fun a hf=>stS hf rfl rfl rfl fun a hf=>stS hf rfl rfl rfl fun a hf=>sp 1 hf rfl fun a hf=>aS ⟨hf.kp rfl,hc⟩
 intro a w ⟨hf,hc⟩
 refine zT h ?_
 refine zI hf rfl hF ?_ ?_ <;> clear hF <;> intro hF
 ·refine zS fun K h=>sp 1 hf rfl fun a hf=>zT h ?_
  refine wp_ret ?_
  refine aQ ?_
  obtain rfl:=sj hF
  exact zO1 Tryz.results8 hf rfl ⟨rfl,hc⟩
 ·refine wp_skip ?_
  refine h2 _ _ ?_
  refine wp_seq_k fun K5 h5=>?_
  obtain ⟨un,Z,hF⟩:=aA hF
  obtain ⟨V,X,hF⟩:=aA hF
  obtain ⟨g,o,qa,qp⟩:=J.atm X
  refine cQ hc aW (by kernel_rfl) ?_
  refine qE hf rfl rfl rfl (Pu.ev (pM rfl)) fun a hf=>qE hf rfl rfl rfl (Pu.ev (pNC rfl)) fun a hf=>qE hf rfl rfl rfl (Pu.ev (pFA yC rfl)) fun a hf=>qE hf rfl rfl rfl (cN aF0 rfl (bO m0 rfl)) fun a hf=>qE hf rfl rfl rfl (Pu.ev (pM rfl)) fun a hf=>qE hf rfl rfl rfl (Pu.ev (pNC rfl)) fun a hf=>qE hf rfl rfl rfl (Pu.ev (pFA xS rfl)) fun a hf=>qE hf rfl rfl rfl (cN aY rfl (bO m0 rfl)) fun a hf=>qE hf rfl rfl rfl (Pu.ev (pM rfl)) fun a hf=>qE hf rfl rfl rfl (Pu.ev (pNC rfl)) fun a hf=>qE hf rfl rfl rfl (Pu.ev (pFA yC rfl)) fun a hf=>qE hf rfl rfl rfl (cN aF0 rfl (bO m0 rfl)) fun a hf=>qE hf rfl rfl rfl (Pu.ev (cR Tryz.underlying22 rfl)) fun a hf=>?_
  refine qE hf rfl rfl rfl (Pu.ev (aG3 rfl rfl (qJ Z))) fun a hf=>qE hf rfl rfl rfl (Pu.ev (pIA Tryz.underlying22 sz_5 rfl rfl qa)) fun a hf=>qE hf rfl rfl rfl (cN sc_5 rfl (gO (j:=0) qp rfl)) fun a hf=>qE hf rfl rfl rfl (Pu.ev (pCv Tryz.underlying5 Tryz.underlying3 rfl)) fun a hf=>qE hf rfl rfl rfl (Pu.ev (pA rfl)) fun a hf=>?_
  intro w hc
  refine h5 _ _ ?_
  refine wp_seq_k fun K6 h6=>?_
  have S:∀ (H:Int) a w,Has 92 a [(0,pq b_),(1,i6 n),(5,i6 H)]→Ctx G (.box b_ [.slice B s_.bytes.length D,i6 s_.used,i6 s_.mix] 65::Lf) w→fR N s_ n H=some I→K6 a w:=by
   repeat (clear hF)
   repeat (clear hc)
   repeat (clear hf)
   intro H a w hf hc hF
   unfold fR at hF
   refine h6 _ _ ?_
   refine zS fun K h=>sp 3 hf rfl fun a hf=>zP hf rfl (pFA aAs rfl) fun a hf=>zL hf hc aY m0 rfl fun a w hf hc=>sp 4 hf rfl fun a hf=>zP hf rfl (aG3 rfl rfl (by decide)) fun a hf=>sp 1 hf rfl fun a hf=>zP hf rfl (pFA aAs rfl) fun a hf=>zW hf hc eQ u0 rfl fun w hc=>zT h ?_
   refine zS fun K h=>sp 2 hf rfl fun a hf=>zP hf rfl (pFA xS rfl) fun a hf=>zL hf hc aY m0 rfl fun a w hf hc=>sp 2 hf rfl fun a hf=>zP hf rfl (pFA xS rfl) fun a hf=>zW hf hc eQ u0 rfl fun w hc=>zT h ?_
   refine wp_seq_k fun K9 h9=>?_
   have U:∀ (M:Int) a w,Has 92 a [(1,i6 n),(5,i6 M)]→Ctx G (.box b_ [.slice B s_.bytes.length D,i6 (W (s_.used + 1)),i6 ((W ((W ((W (5 * s_.mix)) + H)) + 1)).tmod 251)] 65::Lf) w→fQ N s_ n H M=some I→K9 a w:=by
    repeat (clear hF)
    repeat (clear hc)
    repeat (clear hf)
    intro M a w hf hc hF
    unfold fQ at hF
    refine h9 _ _ ?_
    refine zS fun K h=>sp 2 hf rfl fun a hf=>?_
    obtain ⟨b,R,hF⟩:=aA hF
    refine zP hf rfl (aG3 rfl rfl (qJ R)) fun a hf=>sp 1 hf rfl fun a hf=>zT h ?_
    refine wp_ret ?_
    obtain rfl:=sj hF
    exact zO1 Tryz.results8 hf rfl ⟨rfl,hc⟩
   refine zS fun K h=>sp 2 hf rfl fun a hf=>zT h ?_
   refine zI hf rfl hF ?_ ?_ <;> clear hF <;> intro hF
   ·refine eB ?_
    refine sp 4 hf rfl fun a hf=>zP hf rfl (pFA aAs rfl) fun a hf=>zL hf hc aY m0 rfl fun a w hf hc=>sp 2 hf rfl fun a hf=>aS ?_
    exact U (W ((W (256 * H)) + ((W ((W ((W (5 * s_.mix)) + H)) + 1)).tmod 251))) _ _  (hf.kp rfl) hc hF
   ·refine wp_skip ?_
    exact U H _ _  (hf.kp rfl) hc hF
  refine wp_seq_k fun K12 Y=>cQ hc aW (by kernel_rfl) ?_
  refine qE hf rfl rfl rfl (Pu.ev (pM rfl)) fun a hf=>qE hf rfl rfl rfl (Pu.ev (pNC rfl)) fun a hf=>qE hf rfl rfl rfl (Pu.ev (pFA xS rfl)) fun a hf=>qE hf rfl rfl rfl (cN aY rfl (bO m0 rfl)) fun a hf=>qE hf rfl rfl rfl (Pu.ev (pM rfl)) fun a hf=>qE hf rfl rfl rfl (Pu.ev (pNC rfl)) fun a hf=>qE hf rfl rfl rfl (Pu.ev (pFA yC rfl)) fun a hf=>qE hf rfl rfl rfl (cN aF0 rfl (bO m0 rfl)) fun a hf=>qE hf rfl rfl rfl (Pu.ev (cR Tryz.underlying22 rfl)) fun a hf=>qE hf rfl rfl rfl (Pu.ev (pGe rfl rfl)) fun a hf=>?_
  intro w hc
  refine Y _ _ ?_
  refine zI hf rfl hF ?_ ?_ <;> clear hF <;> intro hF
  ·obtain ⟨d,O,hF⟩:=aA hF
   refine cQ hc aW (by kernel_rfl) ?_
   refine qE hf rfl rfl rfl (Pu.ev (pM rfl)) fun a hf=>qE hf rfl rfl rfl (Pu.ev (pM rfl)) fun a hf=>qE hf rfl rfl rfl (Pu.ev (pNC rfl)) fun a hf=>qE hf rfl rfl rfl (Pu.ev (pFA aAs rfl)) fun a hf=>qE hf rfl rfl rfl (cN aY rfl (bO m0 rfl)) fun a hf=>qE hf rfl rfl rfl (Pu.ev (pMul rfl rfl)) fun a hf=>qE hf rfl rfl rfl (Pu.ev (pM rfl)) fun a hf=>qE hf rfl rfl rfl (Pu.ev (pNC rfl)) fun a hf=>qE hf rfl rfl rfl (Pu.ev (pFA xS rfl)) fun a hf=>qE hf rfl rfl rfl (cN aY rfl (bO m0 rfl)) fun a hf=>qE hf rfl rfl rfl (Pu.ev (pM rfl)) fun a hf=>qE hf rfl rfl rfl (Pu.ev (pNC rfl)) fun a hf=>qE hf rfl rfl rfl (Pu.ev (pFA yC rfl)) fun a hf=>?_
   refine qE hf rfl rfl rfl (cN aF0 rfl (bO m0 rfl)) fun a hf=>qE hf rfl rfl rfl (Pu.ev (cR Tryz.underlying22 rfl)) fun a hf=>qE hf rfl rfl rfl (Pu.ev (aI5 rfl rfl (qJ O))) fun a hf=>qE hf rfl rfl rfl (Pu.ev (aI3 rfl rfl)) fun a hf=>qE hf rfl rfl rfl (Pu.ev (aI3 rfl rfl)) fun a hf=>qE hf rfl rfl rfl (Pu.ev (pA rfl)) fun a hf=>?_
   intro w hc
   exact S (W ((W (V)) + (W ((W (11 * s_.mix)) + (W (s_.used.tdiv ((s_.bytes.length:Nat):Int))))))) _ _  (hf.kp rfl) hc hF
  ·refine wp_skip ?_
   exact S (W (V)) _ _  (hf.kp rfl) hc hF

def dP (N:Nat) (s_:bG) (lo:Int) (B:Int):Option (Int × Int × Int) :=
 Option.bind (cH N s_ (W ((W (B - lo)) + 1))) fun r=>
 some (W (lo + r.1),r.2.1,r.2.2)
theorem fT {N:Nat} {G:aU} {Lf:List Ent} {w:World} (s_:bG) (lo:Int) (J:Int) {b_:Nat} {B:Option Addr} {D:Nat} (H:Rd G 1 B D (s_.bytes.map qP)) (hc:Ctx G (.box b_ [.slice B s_.bytes.length D,i6 s_.used,i6 s_.mix] 65::Lf) w) {I:Int × Int × Int} (hF:dP N s_ lo J=some I):Calls Tryz.prog 9 #[pq b_,i6 lo,i6 J] w (fun e w=>e=.returned (i6 I.1)∧Ctx G (.box b_ [.slice B s_.bytes.length D,i6 I.2.1,i6 I.2.2] 65::Lf) w):=by
 unfold dP at hF
 refine bU Tryz.func9 rfl Tryz.ntmps9 rfl fun a hf=>zS fun K h=>sp 1 hf rfl fun a hf=>zT h ?_
 refine zS fun K h=>sp 6 hf rfl fun a hf=>?_
 obtain ⟨r,hr,hF⟩:=aA hF
 refine zC hf aD4 rfl (dV s_ (W ((W (J - lo)) + 1)) H (hc.pick k0) hr) ?_
 rintro _ w ⟨rfl,hc⟩
 refine ⟨_,rfl,fun a hf=>?_⟩
 refine sp 2 hf rfl fun a hf=>zT h ?_
 refine wp_ret ?_
 obtain rfl:=sj hF
 exact zO1 Tryz.results9 hf rfl ⟨rfl,hc⟩

def mA (N:Nat) (s_:bG) (B:List Int) (a_:Int) (D:Int) (day:Int):Option (aF × Int × Int) :=
 Option.bind (cH N s_ 9) fun r=>
 Option.bind (bQ B D) fun J=>
 Option.bind (bQ B a_) fun I=>
 Option.bind (dP N (⟨s_.bytes,r.2.1,r.2.2⟩:bG) (W (0 - r.1)) r.1) fun H=>
 some ((⟨a_,D,day,W ((W (J - I)) + H.1),r.1⟩:aF),H.2.1,H.2.2)
theorem xX {N:Nat} {G:aU} {Lf:List Ent} {w:World} (s_:bG) (J:List Int) (a_:Int) (M:Int) (day:Int) {b_:Nat} {B:Option Addr} {D:Nat} {H:Option Addr} {I:Nat} (R:Rd G 1 B D (s_.bytes.map qP)) (V:Rd G 1 H I (J.map aB)) (hc:Ctx G (.box b_ [.slice B s_.bytes.length D,i6 s_.used,i6 s_.mix] 65::Lf) w) {U:aF × Int × Int} (hF:mA N s_ J a_ M day=some U):Calls Tryz.prog 16 #[pq b_,.slice H J.length I,i6 a_,i6 M,i6 day] w (fun e w=>e=.returned (.agg #[i6 U.1.From,i6 U.1.To,i6 U.1.Day,i6 U.1.Rise,i6 U.1.Error])∧Ctx G (.box b_ [.slice B s_.bytes.length D,i6 U.2.1,i6 U.2.2] 65::Lf) w):=by
 unfold mA at hF
 refine bU Tryz.func16 rfl Tryz.ntmps16 rfl fun a hf=>zS fun K h=>zA hf hc aH4 rfl fun b a w hf hc=>zT h ?_
 refine zS fun K h=>sp 4 hf rfl fun a hf=>?_
 obtain ⟨r,hr,hF⟩:=aA hF
 refine zC hf aD4 rfl (dV s_ 9 R (hc.pick k1) hr) ?_
 rintro _ w ⟨rfl,hc⟩
 refine ⟨_,rfl,fun a hf=>?_⟩
 refine zP hf rfl (bL (cells:=[i6 a_,i6 M,i6 day,i6 0,i6 r.1]) aIl rfl rfl) fun a hf=>zA hf hc aH4 rfl fun S a w hf hc=>zW hf hc rA u0 rfl fun w hc=>zT h ?_
 refine wp_seq_k fun K3 h3=>?_
 obtain ⟨Y,p,hF⟩:=aA hF
 obtain ⟨z,o,qa,qp⟩:=V.atm p
 obtain ⟨Z,i,hF⟩:=aA hF
 obtain ⟨s,t,m,k⟩:=V.atm i
 obtain ⟨O,q,hF⟩:=aA hF
 refine iE (fun θ=>[⟨none,none,0,pq b_⟩,⟨none,none,1,.slice H J.length I⟩,⟨none,none,2,i6 a_⟩,⟨none,none,3,i6 M⟩,⟨none,none,10,pq b⟩,⟨none,none,11,pq S⟩,⟨some 0,none,18,.slice H J.length I⟩,⟨some 1,none,19,i6 M⟩,⟨some 2,none,20,.pointer (some ⟨z,o,none⟩)⟩,⟨some 3,none,21,i6 Y⟩,⟨some 4,none,22,.slice H J.length I⟩,⟨some 5,none,23,i6 a_⟩,⟨some 6,none,24,.pointer (some ⟨s,t,none⟩)⟩,⟨some 7,none,25,i6 Z⟩,⟨some 8,none,26,i6 (W (Y - Z))⟩,⟨some 9,none,27,pq b_⟩,⟨some 10,none,28,.pointer (some ⟨S,4,none⟩)⟩,⟨some 11,none,29,i6 r.1⟩,⟨some 12,none,30,i6 (W (0 - r.1))⟩,⟨some 13,none,31,.pointer (some ⟨S,4,none⟩)⟩,⟨some 14,none,32,i6 r.1⟩,⟨some 15,none,33,i6 O.1⟩,⟨some 16,none,34,i6 (W ((W (Y - Z)) + O.1))⟩,⟨some 17,none,35,.pointer (some ⟨S,3,none⟩)⟩]) (fun E θ=>(bif E 18 then .box S [i6 a_,i6 M,i6 day,i6 (W ((W (Y - Z)) + O.1)),i6 r.1] 32 else .box S [i6 a_,i6 M,i6 day,i6 0,i6 r.1] 32)::(bif E 15 then .box b_ [.slice B s_.bytes.length D,i6 O.2.1,i6 O.2.2] 65 else .box b_ [.slice B s_.bytes.length D,i6 r.2.1,i6 r.2.2] 65)::.box b [i6 0,i6 0,i6 0,i6 0,i6 0] 32::Lf) [(18,11),(18,14)] (fun a w=>Has 37 a [(10,pq b),(11,pq S)]∧Ctx G (.box S [i6 a_,i6 M,i6 day,i6 (W ((W (Y - Z)) + O.1)),i6 r.1] 32::.box b_ [.slice B s_.bytes.length D,i6 O.2.1,i6 O.2.2] 65::.box b [i6 0,i6 0,i6 0,i6 0,i6 0] 32::Lf) w) aW (by kernel_rfl) (by kernel_rfl) (eV.of hf ⟨rfl,rfl,rfl,rfl,rfl,rfl,trivial,trivial,trivial,trivial,trivial,trivial,trivial,trivial,trivial,trivial,trivial,trivial,trivial,trivial,trivial,trivial,trivial,trivial,trivial⟩) hc ⟨?_,?_,?_,?_,?_,?_,?_,?_,?_,?_,?_,?_,?_,?_,?_,?_,?_,?_,?_,trivial⟩ ?_ ?_
 ·intro E θ a w hD hi hp he hc
  have hf:=he.h0.mT he 1 rfl
  refine sp 1 hf rfl fun a hf=>zD θ he hi hf 6 rfl rfl rfl hc
 ·intro E θ a w hD hi hp he hc
  have hf:=he.h0.mT he 3 rfl
  refine sp 1 hf rfl fun a hf=>zD θ he hi hf 7 rfl rfl rfl hc
 ·intro E θ a w hD hi hp he hc
  have e0:=hp.o 0 rfl
  have e1:=hp.o 1 rfl
  have hf:=(he.h0.mP he 6 rfl e0).mP he 7 rfl e1
  refine zP hf rfl (pIA Tryz.underlying26 eQ rfl rfl qa) fun a hf=>zD θ he hi hf 8 rfl rfl rfl hc
 ·intro E θ a w hD hi hp he hc
  have e2:=hp.o 2 rfl
  have hf:=he.h0.mP he 8 rfl e2
  refine zE hf hc rfl (cN aY rfl (gO (j:=0) qp rfl)) fun a w hf hc=>zD θ he hi hf 9 rfl rfl rfl hc
 ·intro E θ a w hD hi hp he hc
  have hf:=he.h0.mT he 1 rfl
  refine sp 1 hf rfl fun a hf=>zD θ he hi hf 10 rfl rfl rfl hc
 ·intro E θ a w hD hi hp he hc
  have hf:=he.h0.mT he 2 rfl
  refine sp 1 hf rfl fun a hf=>zD θ he hi hf 11 rfl rfl rfl hc
 ·intro E θ a w hD hi hp he hc
  have e4:=hp.o 4 rfl
  have e5:=hp.o 5 rfl
  have hf:=(he.h0.mP he 10 rfl e4).mP he 11 rfl e5
  refine zP hf rfl (pIA Tryz.underlying26 eQ rfl rfl m) fun a hf=>zD θ he hi hf 12 rfl rfl rfl hc
 ·intro E θ a w hD hi hp he hc
  have e6:=hp.o 6 rfl
  have hf:=he.h0.mP he 12 rfl e6
  refine zE hf hc rfl (cN aY rfl (gO (j:=0) k rfl)) fun a w hf hc=>zD θ he hi hf 13 rfl rfl rfl hc
 ·intro E θ a w hD hi hp he hc
  have e3:=hp.o 3 rfl
  have e7:=hp.o 7 rfl
  have hf:=(he.h0.mP he 9 rfl e3).mP he 13 rfl e7
  refine sp 1 hf rfl fun a hf=>zD θ he hi hf 14 rfl rfl rfl hc
 ·intro E θ a w hD hi hp he hc
  have hf:=he.h0.mT he 0 rfl
  refine sp 1 hf rfl fun a hf=>zD θ he hi hf 15 rfl rfl rfl hc
 ·intro E θ a w hD hi hp he hc
  have hf:=he.h0.mT he 5 rfl
  refine zP hf rfl (pFA yD rfl) fun a hf=>zD θ he hi hf 16 rfl rfl rfl hc
 ·intro E θ a w hD hi hp he hc
  have ac:=hp.o 10 rfl
  have X:=hD.f 0 rfl hi
  try dsimp only at hc
  rw [X] at hc
  have hf:=he.h0.mP he 16 rfl ac
  refine zL hf hc aY m0 rfl fun a w hf hc=>zD θ he hi hf 17 rfl rfl rfl ?_
  try dsimp only
  rw [aV 11 X rfl]
  exact hc
 ·intro E θ a w hD hi hp he hc
  have ab:=hp.o 11 rfl
  have hf:=he.h0.mP he 17 rfl ab
  refine sp 1 hf rfl fun a hf=>zD θ he hi hf 18 rfl rfl rfl hc
 ·intro E θ a w hD hi hp he hc
  have hf:=he.h0.mT he 5 rfl
  refine zP hf rfl (pFA yD rfl) fun a hf=>zD θ he hi hf 19 rfl rfl rfl hc
 ·intro E θ a w hD hi hp he hc
  have af:=hp.o 13 rfl
  have X:=hD.f 1 rfl hi
  try dsimp only at hc
  rw [X] at hc
  have hf:=he.h0.mP he 19 rfl af
  refine zL hf hc aY m0 rfl fun a w hf hc=>zD θ he hi hf 20 rfl rfl rfl ?_
  try dsimp only
  rw [aV 14 X rfl]
  exact hc
 ·intro E θ a w hD hi hp he hc
  have e9:=hp.o 9 rfl
  have aa:=hp.o 12 rfl
  have v:=hp.o 14 rfl
  try dsimp only at hc
  rw [hi] at hc
  have hf:=((he.h0.mP he 15 rfl e9).mP he 18 rfl aa).mP he 20 rfl v
  refine zC hf aI1 rfl (fT (⟨s_.bytes,r.2.1,r.2.2⟩:bG) (W (0 - r.1)) r.1 R (hc.pick k1) q) ?_
  rintro _ w ⟨rfl,hc⟩
  refine ⟨_,rfl,fun a hf=>?_⟩
  refine aS ?_
  refine dA ?_
  intro ds u y
  replace hc:=(hc.pick k0).pick k1
  refine ⟨θ,he.put0 hi y hf rfl 21 rfl rfl,?_⟩
  try dsimp only
  rw [aX E 15]
  exact hc
 ·intro E θ a w hD hi hp he hc
  have e8:=hp.o 8 rfl
  have g:=hp.o 15 rfl
  have hf:=(he.h0.mP he 14 rfl e8).mP he 21 rfl g
  refine sp 1 hf rfl fun a hf=>zD θ he hi hf 22 rfl rfl rfl hc
 ·intro E θ a w hD hi hp he hc
  have hf:=he.h0.mT he 5 rfl
  refine zP hf rfl (pFA sH rfl) fun a hf=>zD θ he hi hf 23 rfl rfl rfl hc
 ·intro E θ a w hD hi hp he hc
  have ad:=hp.o 16 rfl
  have x:=hp.o 17 rfl
  try dsimp only at hc
  rw [hi] at hc
  have hf:=(he.h0.mP he 22 rfl ad).mP he 23 rfl x
  refine zW hf hc eQ u0 rfl fun w hc=>zG θ he hi hf rfl ?_
  try dsimp only
  rw [aX E 18]
  exact hc
 ·intro E θ a w d he hc
  have hf:=he.h0
  have g:=d 15 rfl
  have X:=d 18 rfl
  replace hf:=hf.more he 5 rfl (onT)
  replace hf:=hf.more he 4 rfl (onT)
  try dsimp only at hc
  rw [g,X] at hc
  exact ⟨hf.kp rfl,hc⟩
 rintro a w ⟨hf,hc⟩
 refine h3 _ _ ?_
 refine zS fun K h=>zN hf hc aAa m0 rfl fun a w hf hc=>zW hf hc rA u2 rfl fun w hc=>zT h ?_
 refine wp_ret ?_
 obtain rfl:=sj hF
 replace hc:=hc.drop k0
 exact lC (by simp) rfl Tryz.results16 hf hc (cW (vs:=[i6 a_,i6 M,i6 day,i6 (W ((W (Y - Z)) + O.1)),i6 r.1]) aAa rfl rfl (bR (n:=5) m1 rfl)) ⟨rfl,(hc.drop k1)⟩

def mV (N:Nat) (s_:bG) (r:Int × Int × Int) (H:List Int) (S:Int × Int × Int) (x:Int) (I:Int) (R:Int) (J:List aF):Option (cP (Int × Int × Int × (List aF)) (aO × (List Int) × Int × Int)) :=
 cond (decide (x < S.1))
 (Option.bind (cH N (⟨s_.bytes,I,R⟩:bG) r.1) fun B=>
 Option.bind (cH N (⟨s_.bytes,B.2.1,B.2.2⟩:bG) (W (r.1 - 1))) fun M=>
 Option.bind (nz r.1) fun un=>
 Option.bind (cH N (⟨s_.bytes,M.2.1,M.2.2⟩:bG) 30) fun O=>
 Option.bind (mA N (⟨s_.bytes,O.2.1,O.2.2⟩:bG) H B.1 ((W ((W (B.1 + 1)) + M.1)).tmod r.1) O.1) fun D=>
 Option.bind (rR ((J++[D.1])).length) fun U=>
 some (.cont (W (x + 1),D.2.1,D.2.2,(J++[D.1]))))
 (some (.brk (x,I,R,J)))
def mQ (N:Nat) (s_:bG) (r:Int × Int × Int) (B:List Int) (H:Int) (I:Int):Option (cP ((List Int) × Int × Int) (aO × (List Int) × Int × Int)) :=
 cond (decide (((B.length:Nat):Int) < r.1))
 (Option.bind (dP N (⟨s_.bytes,H,I⟩:bG) (-300) 300) fun D=>
 Option.bind (rR ((B++[D.1])).length) fun J=>
 some (.cont ((B++[D.1]),D.2.1,D.2.2)))
 (some (.brk (B,H,I)))
def oP (N:Nat) (s_:bG) (D:Int):Option (aO × (List Int) × Int × Int) :=
 Option.bind (dP N s_ 2 D) fun r=>
 Option.bind (bC (fun s5=>mQ N s_ r s5.1 s5.2.1 s5.2.2) N (([0]:List Int),r.2.1,r.2.2)) fun x5=>
 exK x5 (fun s5=>Option.bind (dP N (⟨s_.bytes,s5.2.1,s5.2.2⟩:bG) 1 14) fun B=>
 Option.bind (bC (fun s8=>mV N s_ r s5.1 B s8.1 s8.2.1 s8.2.2.1 s8.2.2.2) N (0,B.2.1,B.2.2,([]:List aF))) fun x8=>
 exK x8 (fun s8=>some ((⟨r.1,s8.2.2.2⟩:aO),s5.1,s8.2.1,s8.2.2.1)) some) some
theorem aCq {N:Nat} {G:aU} {Lf:List Ent} {w:World} (s_:bG) (z:Int) {b_:Nat} {B:Option Addr} {D:Nat} (J:Rd G 1 B D (s_.bytes.map qP)) (hc:Ctx G (.box b_ [.slice B s_.bytes.length D,i6 s_.used,i6 s_.mix] 65::Lf) w) {i:aO × (List Int) × Int × Int} (hF:oP N s_ z=some i):Calls Tryz.prog 4 #[pq b_,i6 z] w (fun e w=>∃ (ar:Option Addr) (an:Nat) (am:Option Addr) (ap:Nat),e=.returned (.tuple #[.agg #[i6 i.1.Marks,.slice ar i.1.Lines.length an],.slice am i.2.1.length ap])∧Ctx G (.row ar an (i.1.Lines.map aM) 32 5::.row am ap (i.2.1.map aB) 3 1::.box b_ [.slice B s_.bytes.length D,i6 i.2.2.1,i6 i.2.2.2] 65::Lf) w):=by
 unfold oP at hF
 refine bU Tryz.func4 rfl Tryz.ntmps4 rfl fun a hf=>zS fun K h=>zA hf hc aC2 rfl fun d a w hf hc=>sp 1 hf rfl fun a hf=>zT h ?_
 refine zS fun K h=>sp 2 hf rfl fun a hf=>?_
 obtain ⟨r,hr,hF⟩:=aA hF
 refine zC hf aI1 rfl (fT s_ 2 z J (hc.pick k1) hr) ?_
 rintro _ w ⟨rfl,hc⟩
 refine ⟨_,rfl,fun a hf=>?_⟩
 refine zP hf rfl (bL (cells:=[i6 r.1,.slice none 0 0]) aKa rfl rfl) fun a hf=>zA hf hc aC2 rfl fun O a w hf hc=>zW hf hc aDd u0 rfl fun w hc=>zT h ?_
 refine zS fun K h=>pJ (rows:=([0]:List Int).map aB) (vs:=[(0,i6 0)]) hf hc rfl rfl qG rfl ⟨rfl,rfl,rfl,trivial⟩ rfl rfl fun a9 a w hf hc=>sp 1 hf rfl fun a hf=>zT h ?_
 refine wp_seq_k fun K4 h4=>wp_block ?_
 obtain ⟨x5,a6,hF⟩:=aA hF
 let S5:((List Int) × Int × Int)→Act→World→Prop:=(fun (zz:(List Int) × Int × Int) a w=>∃ (R:Option Addr) (U:Nat),Has 59 a [(0,pq b_),(4,pq d),(6,pq O),(7,.slice R zz.1.length U)]∧Ctx G (.row R U (zz.1.map aB) 3 1::.box O [i6 r.1,.slice none 0 0] 25::.box b_ [.slice B s_.bytes.length D,i6 zz.2.1,i6 zz.2.2] 65::.box d [i6 0,.slice none 0 0] 25::Lf) w)
 have bc:∀ (zz:(List Int) × Int × Int) a w,x5=.go zz→S5 zz a w→K4 a w:=by
  rintro ⟨H,v,y⟩ a w rfl ⟨R,U,hf,hc⟩
  replace hF:=cI hF
  refine h4 _ _ ?_
  refine wp_seq_k fun K6 h6=>zS fun K h=>sp 1 hf rfl fun a hf=>?_
  obtain ⟨j,a3,hF⟩:=aA hF
  refine zC hf aI1 rfl (fT (⟨s_.bytes,v,y⟩:bG) 1 14 J (hc.pick k2) a3) ?_
  rintro _ w ⟨rfl,hc⟩
  refine ⟨_,rfl,fun a hf=>?_⟩
  refine sp 1 hf rfl fun a hf=>zT h ?_
  refine wp_block ?_
  obtain ⟨x8,bp,hF⟩:=aA hF
  let S8:(Int × Int × Int × (List aF))→Act→World→Prop:=(fun (zz:Int × Int × Int × (List aF)) a w=>∃ (Y:Option Addr) (Z:Nat),Has 59 a [(0,pq b_),(4,pq d),(6,pq O),(7,.slice R H.length U),(26,i6 j.1),(27,i6 zz.1)]∧Ctx G (.row Y Z (zz.2.2.2.map aM) 32 5::.box b_ [.slice B s_.bytes.length D,i6 zz.2.1,i6 zz.2.2.1] 65::.row R U (H.map aB) 3 1::.box O [i6 r.1,.slice Y zz.2.2.2.length Z] 25::.box d [i6 0,.slice none 0 0] 25::Lf) w)
  have bn:∀ (zz:Int × Int × Int × (List aF)) a w,x8=.go zz→S8 zz a w→K6 a w:=by
   rintro ⟨x,af,ai,V⟩ a w rfl ⟨Y,Z,hf,hc⟩
   replace hF:=cI hF
   refine h6 _ _ ?_
   refine zS fun K h=>zN hf hc oN m3 rfl fun a w hf hc=>sp 1 hf rfl fun a hf=>zW hf hc aDd u4 rfl fun w hc=>sp 1 hf rfl fun a hf=>zT h ?_
   refine wp_ret ?_
   obtain rfl:=sj hF
   replace hc:=(((hc.drop k3).pick k1).pick k2).pick k2
   exact qX (by simp) rfl Tryz.results4 hf hc (cW (vs:=[i6 r.1,.slice Y V.length Z]) oN rfl rfl (bR (n:=2) m3 rfl)) (show eZ _ 5=_ from rfl) ⟨Y,Z,R,U,rfl,(hc.drop k3)⟩
  have bx:∀ r,x8=.out r→r=i:=by
   rintro r rfl
   exact sj hF
  replace hc:=hc.nilRow 32 5
  refine eR N (eO (S:=S8) (x:=x8) ?_ N (0,j.2.1,j.2.2,([]:List aF)) _ _ ⟨none,0,hf.kp rfl,hc⟩ bp)
  clear hF hf hc
  rintro ⟨x,af,ai,V⟩ bv a w KB8 ⟨Y,Z,hf,hc⟩ hF aa bd
  unfold mV at hF
  refine zS fun K h=>sp 1 hf rfl fun a hf=>zT h ?_
  refine wp_seq_k fun K11 bg=>zI hf rfl hF ?_ ?_ <;> clear hF <;> intro hF
  ·refine wp_skip ?_
   refine bg _ _ ?_
   refine wp_seq_k fun K12 bk=>wp_block ?_
   refine zS fun K h=>sp 1 hf rfl fun a hf=>zP hf rfl (pFA gW rfl) fun a hf=>zL hf hc aY m3 rfl fun a w hf hc=>?_
   obtain ⟨M,az,hF⟩:=aA hF
   refine zC hf aD4 rfl (dV (⟨s_.bytes,af,ai⟩:bG) r.1 J (hc.pick k1) az) ?_
   rintro _ w ⟨rfl,hc⟩
   refine ⟨_,rfl,fun a hf=>?_⟩
   refine sp 1 hf rfl fun a hf=>zT h ?_
   refine wp_seq_k fun K14 a7=>?_
   obtain ⟨X,ay,hF⟩:=aA hF
   obtain ⟨un,bm,hF⟩:=aA hF
   refine iE (fun θ=>[⟨none,none,0,pq b_⟩,⟨none,none,4,pq d⟩,⟨none,none,6,pq O⟩,⟨none,none,7,.slice R H.length U⟩,⟨none,none,8,i6 M.1⟩,⟨none,none,26,i6 j.1⟩,⟨none,none,27,i6 x⟩,⟨some 0,none,33,i6 M.1⟩,⟨some 1,none,34,i6 (W (M.1 + 1))⟩,⟨some 2,none,35,pq b_⟩,⟨some 3,none,36,pq O⟩,⟨some 4,none,37,i6 r.1⟩,⟨some 5,none,38,i6 (W (r.1 - 1))⟩,⟨some 6,none,39,i6 X.1⟩,⟨some 7,none,40,i6 (W ((W (M.1 + 1)) + X.1))⟩,⟨some 8,none,41,pq O⟩,⟨some 9,none,42,i6 r.1⟩,⟨some 10,none,43,i6 ((W ((W (M.1 + 1)) + X.1)).tmod r.1)⟩,⟨some 11,none,9,i6 ((W ((W (M.1 + 1)) + X.1)).tmod r.1)⟩]) (fun E θ=>(bif E 6 then .box b_ [.slice B s_.bytes.length D,i6 X.2.1,i6 X.2.2] 65 else .box b_ [.slice B s_.bytes.length D,i6 M.2.1,i6 M.2.2] 65)::.row Y Z (V.map aM) 32 5::.row R U (H.map aB) 3 1::.box O [i6 r.1,.slice Y V.length Z] 25::.box d [i6 0,.slice none 0 0] 25::Lf) [] (fun a w=>Has 59 a [(0,pq b_),(4,pq d),(6,pq O),(7,.slice R H.length U),(8,i6 M.1),(26,i6 j.1),(27,i6 x),(9,i6 ((W ((W (M.1 + 1)) + X.1)).tmod r.1))]∧Ctx G (.box b_ [.slice B s_.bytes.length D,i6 X.2.1,i6 X.2.2] 65::.row Y Z (V.map aM) 32 5::.row R U (H.map aB) 3 1::.box O [i6 r.1,.slice Y V.length Z] 25::.box d [i6 0,.slice none 0 0] 25::Lf) w) aW (by kernel_rfl) (by kernel_rfl) (eV.of hf ⟨rfl,rfl,rfl,rfl,rfl,rfl,rfl,trivial,trivial,trivial,trivial,trivial,trivial,trivial,trivial,trivial,trivial,trivial,trivial,trivial⟩) hc ⟨?_,?_,?_,?_,?_,?_,?_,?_,?_,?_,?_,?_,trivial⟩ ?_ ?_
   ·intro E θ a w hD hi hp he hc
    have hf:=he.h0.mT he 4 rfl
    refine sp 1 hf rfl fun a hf=>zD θ he hi hf 7 rfl rfl rfl hc
   ·intro E θ a w hD hi hp he hc
    have e0:=hp.o 0 rfl
    have hf:=he.h0.mP he 7 rfl e0
    refine sp 1 hf rfl fun a hf=>zD θ he hi hf 8 rfl rfl rfl hc
   ·intro E θ a w hD hi hp he hc
    have hf:=he.h0.mT he 0 rfl
    refine sp 1 hf rfl fun a hf=>zD θ he hi hf 9 rfl rfl rfl hc
   ·intro E θ a w hD hi hp he hc
    have hf:=he.h0.mT he 2 rfl
    refine zP hf rfl (pFA gW rfl) fun a hf=>zD θ he hi hf 10 rfl rfl rfl hc
   ·intro E θ a w hD hi hp he hc
    have e3:=hp.o 3 rfl
    have hf:=he.h0.mP he 10 rfl e3
    refine zL hf hc aY m3 rfl fun a w hf hc=>zD θ he hi hf 11 rfl rfl rfl hc
   ·intro E θ a w hD hi hp he hc
    have e4:=hp.o 4 rfl
    have hf:=he.h0.mP he 11 rfl e4
    refine sp 1 hf rfl fun a hf=>zD θ he hi hf 12 rfl rfl rfl hc
   ·intro E θ a w hD hi hp he hc
    have e2:=hp.o 2 rfl
    have e5:=hp.o 5 rfl
    try dsimp only at hc
    rw [hi] at hc
    have hf:=(he.h0.mP he 9 rfl e2).mP he 12 rfl e5
    refine zC hf aD4 rfl (dV (⟨s_.bytes,M.2.1,M.2.2⟩:bG) (W (r.1 - 1)) J (hc.pick k0) ay) ?_
    rintro _ w ⟨rfl,hc⟩
    refine ⟨_,rfl,fun a hf=>?_⟩
    refine zD θ he hi hf 13 rfl rfl rfl ?_
    try dsimp only
    rw [aX E 6]
    exact hc
   ·intro E θ a w hD hi hp he hc
    have e1:=hp.o 1 rfl
    have e6:=hp.o 6 rfl
    have hf:=(he.h0.mP he 8 rfl e1).mP he 13 rfl e6
    refine sp 1 hf rfl fun a hf=>zD θ he hi hf 14 rfl rfl rfl hc
   ·intro E θ a w hD hi hp he hc
    have hf:=he.h0.mT he 2 rfl
    refine zP hf rfl (pFA gW rfl) fun a hf=>zD θ he hi hf 15 rfl rfl rfl hc
   ·intro E θ a w hD hi hp he hc
    have e8:=hp.o 8 rfl
    have hf:=he.h0.mP he 15 rfl e8
    refine zL hf hc aY m3 rfl fun a w hf hc=>zD θ he hi hf 16 rfl rfl rfl hc
   ·intro E θ a w hD hi hp he hc
    have e7:=hp.o 7 rfl
    have e9:=hp.o 9 rfl
    have hf:=(he.h0.mP he 14 rfl e7).mP he 16 rfl e9
    refine zP hf rfl (aG3 rfl rfl (qJ bm)) fun a hf=>zD θ he hi hf 17 rfl rfl rfl hc
   ·intro E θ a w hD hi hp he hc
    have t:=hp.o 10 rfl
    have hf:=he.h0.mP he 17 rfl t
    refine sp 1 hf rfl fun a hf=>zD θ he hi hf 18 rfl rfl rfl hc
   ·intro E θ a w g he hc
    have hf:=he.h0
    have e6:=g 6 rfl
    have ag:=g 11 rfl
    replace hf:=hf.more he 18 rfl (onP ag)
    replace hf:=hf.more he 6 rfl (onT)
    replace hf:=hf.more he 5 rfl (onT)
    replace hf:=hf.more he 4 rfl (onT)
    replace hf:=hf.more he 3 rfl (onT)
    replace hf:=hf.more he 2 rfl (onT)
    replace hf:=hf.more he 1 rfl (onT)
    replace hf:=hf.more he 0 rfl (onT)
    try dsimp only at hc
    rw [e6] at hc
    exact ⟨hf.kp rfl,hc⟩
   rintro a w ⟨hf,hc⟩
   refine a7 _ _ ?_
   obtain ⟨q,au,hF⟩:=aA hF
   obtain ⟨I,av,hF⟩:=aA hF
   obtain ⟨br,ak,hF⟩:=aA hF
   replace hc:=hc.nilRow 0 0
   refine iE (fun θ=>[⟨none,none,0,pq b_⟩,⟨none,none,4,pq d⟩,⟨none,none,6,pq O⟩,⟨none,none,7,.slice R H.length U⟩,⟨none,none,8,i6 M.1⟩,⟨none,none,9,i6 ((W ((W (M.1 + 1)) + X.1)).tmod r.1)⟩,⟨none,none,26,i6 j.1⟩,⟨none,none,27,i6 x⟩,⟨some 0,none,44,.pointer (some ⟨O,1,none⟩)⟩,⟨some 1,none,45,.slice Y V.length Z⟩,⟨some 2,none,46,pq b_⟩,⟨some 3,none,47,.slice R H.length U⟩,⟨some 4,none,48,i6 M.1⟩,⟨some 5,none,49,i6 ((W ((W (M.1 + 1)) + X.1)).tmod r.1)⟩,⟨some 6,none,50,pq b_⟩,⟨some 7,none,51,i6 q.1⟩,⟨some 8,none,52,.agg #[i6 I.1.From,i6 I.1.To,i6 I.1.Day,i6 I.1.Rise,i6 I.1.Error]⟩,⟨some 9,none,53,.slice (some ⟨(θ 72).b,0,none⟩) 1 1⟩,⟨some 10,none,54,.slice ((θ 80).p) ((V++[I.1]).length) ((θ 80).c)⟩,⟨some 11,none,55,.pointer (some ⟨O,1,none⟩)⟩]) (fun E θ=>(bif E 9 then .row (some ⟨(θ 72).b,0,none⟩) 1 (([I.1]:List aF).map aM) 32 5 else .row none 0 [] 0 0)::(bif E 8 then .box b_ [.slice B s_.bytes.length D,i6 I.2.1,i6 I.2.2] 65 else bif E 7 then .box b_ [.slice B s_.bytes.length D,i6 q.2.1,i6 q.2.2] 65 else .box b_ [.slice B s_.bytes.length D,i6 X.2.1,i6 X.2.2] 65)::(bif E 10 then .row ((θ 80).p) ((θ 80).c) ((V++[I.1]).map aM) 32 5 else .row Y Z (V.map aM) 32 5)::.row R U (H.map aB) 3 1::(bif E 12 then .box O [i6 r.1,.slice ((θ 80).p) ((V++[I.1]).length) ((θ 80).c)] 25 else .box O [i6 r.1,.slice Y V.length Z] 25)::.box d [i6 0,.slice none 0 0] 25::Lf) [(12,1),(8,7),(12,10)] (fun a w=>∃ (aq:Nat) (ad:Option Addr) (ac:Nat),Has 59 a [(0,pq b_),(4,pq d),(6,pq O),(7,.slice R H.length U),(26,i6 j.1),(27,i6 x)]∧Ctx G (.row (some ⟨aq,0,none⟩) 1 (([I.1]:List aF).map aM) 32 5::.box b_ [.slice B s_.bytes.length D,i6 I.2.1,i6 I.2.2] 65::.row ad ac ((V++[I.1]).map aM) 32 5::.row R U (H.map aB) 3 1::.box O [i6 r.1,.slice ad ((V++[I.1]).length) ac] 25::.box d [i6 0,.slice none 0 0] 25::Lf) w) aW (by kernel_rfl) (by kernel_rfl) (eV.of hf ⟨rfl,rfl,rfl,rfl,rfl,rfl,rfl,rfl,trivial,trivial,trivial,trivial,trivial,trivial,trivial,trivial,trivial,trivial,trivial,trivial,trivial⟩) hc ⟨?_,?_,?_,?_,?_,?_,?_,?_,?_,?_,?_,?_,?_,trivial⟩ ?_ ?_
   ·intro E θ a w hD hi hp he hc
    have hf:=he.h0.mT he 2 rfl
    refine zP hf rfl (pFA kW rfl) fun a hf=>zD θ he hi hf 8 rfl rfl rfl hc
   ·intro E θ a w hD hi hp he hc
    have e0:=hp.o 0 rfl
    have k:=hD.f 0 rfl hi
    try dsimp only at hc
    rw [k] at hc
    have hf:=he.h0.mP he 8 rfl e0
    refine zL hf hc sE m4 rfl fun a w hf hc=>zD θ he hi hf 9 rfl rfl rfl ?_
    try dsimp only
    rw [aV 1 k rfl]
    exact hc
   ·intro E θ a w hD hi hp he hc
    have hf:=he.h0.mT he 0 rfl
    refine sp 1 hf rfl fun a hf=>zD θ he hi hf 10 rfl rfl rfl hc
   ·intro E θ a w hD hi hp he hc
    have hf:=he.h0.mT he 3 rfl
    refine sp 1 hf rfl fun a hf=>zD θ he hi hf 11 rfl rfl rfl hc
   ·intro E θ a w hD hi hp he hc
    have hf:=he.h0.mT he 4 rfl
    refine sp 1 hf rfl fun a hf=>zD θ he hi hf 12 rfl rfl rfl hc
   ·intro E θ a w hD hi hp he hc
    have hf:=he.h0.mT he 5 rfl
    refine sp 1 hf rfl fun a hf=>zD θ he hi hf 13 rfl rfl rfl hc
   ·intro E θ a w hD hi hp he hc
    have hf:=he.h0.mT he 0 rfl
    refine sp 1 hf rfl fun a hf=>zD θ he hi hf 14 rfl rfl rfl hc
   ·intro E θ a w hD hi hp he hc
    have e6:=hp.o 6 rfl
    have e8:=hD.f 1 rfl hi
    try dsimp only at hc
    rw [hi,e8] at hc
    have hf:=he.h0.mP he 14 rfl e6
    refine zC hf aD4 rfl (dV (⟨s_.bytes,X.2.1,X.2.2⟩:bG) 30 J (hc.pick k1) au) ?_
    rintro _ w ⟨rfl,hc⟩
    refine ⟨_,rfl,fun a hf=>?_⟩
    refine aS ?_
    refine dA ?_
    intro ds u m
    replace hc:=(hc.pick k0).pick k1
    refine ⟨θ,he.put0 hi m hf rfl 15 rfl rfl,?_⟩
    try dsimp only
    rw [aX E 7,aV 7 e8 rfl]
    exact hc
   ·intro E θ a w hD hi hp he hc
    have e2:=hp.o 2 rfl
    have e3:=hp.o 3 rfl
    have e4:=hp.o 4 rfl
    have e5:=hp.o 5 rfl
    have e7:=hp.o 7 rfl
    try dsimp only at hc
    rw [e7,hi] at hc
    have hf:=((((he.h0.mP he 10 rfl e2).mP he 11 rfl e3).mP he 12 rfl e4).mP he 13 rfl e5).mP he 15 rfl e7
    obtain ⟨G1,a2,a0,hc,ax⟩:=lend hc k3
    refine zC hf en_16 rfl (xX (⟨s_.bytes,q.2.1,q.2.2⟩:bG) H M.1 ((W ((W (M.1 + 1)) + X.1)).tmod r.1) q.1 (J.mono a2) a0 (hc.pick k1) av) ?_
    rintro _ w ⟨rfl,hc⟩
    refine ⟨_,rfl,fun a hf=>?_⟩
    replace hc:=ax _ _ hc
    refine aS ?_
    refine dA ?_
    intro ds u m
    replace hc:=(((hc.pick k0).pick k3).pick k2).pick k3
    refine ⟨θ,he.put0 hi m hf rfl 16 rfl rfl,?_⟩
    try dsimp only
    rw [eL 8 e7,aX E 8]
    exact hc
   ·intro E θ a w hD hi hp he hc
    have e8:=hp.o 8 rfl
    try dsimp only at hc
    rw [hi] at hc
    have hf:=he.h0.mP he 16 rfl e8
    refine pJ (rows:=([I.1]:List aF).map aM) (vs:=[(0,.agg #[i6 I.1.From,i6 I.1.To,i6 I.1.Day,i6 I.1.Rise,i6 I.1.Error])]) hf hc rfl rfl aF5 rfl ⟨rfl,rfl,rfl,trivial⟩ rfl rfl fun a5 a w hf hc=>aS ?_
    refine dA ?_
    intro ds u m
    replace hc:=hc.drop k1
    refine ⟨(sK θ 72 ⟨a5,none,0,(fun _=>(none,0))⟩),he.put hi m hf rfl [] trivial ⟨qq,qq,qq,qq,qq,qq,qq,qq,qq,qq,qq,qq,qq,qq,qq,qq,qq,qq,qq,qq,trivial⟩,?_⟩
    try dsimp only
    rw [aX E 9]
    exact hc
   ·intro E θ a w hD hi hp he hc
    have e1:=hp.o 1 rfl
    have e9:=hp.o 9 rfl
    have k:=hD.f 2 rfl hi
    try dsimp only at hc
    rw [e9,hi,k] at hc
    have hf:=(he.h0.mP he 9 rfl e1).mP he 17 rfl e9
    refine qI (xs:=V) (ys:=([I.1]:List aF)) hf hc rfl rfl aF5 rfl rfl rfl rfl rfl gR (mJ hc m0) (fun _ _=>u2) (by simpa using gJ ak) fun ba a4 a w hf hc=>aS ?_
    refine dA ?_
    intro ds u m
    refine ⟨(sK θ 80 ⟨0,ba,a4,(fun _=>(none,0))⟩),he.put hi m hf rfl [] trivial ⟨qq,qq,qq,qq,qq,qq,qq,qq,qq,qq,qq,qq,qq,qq,qq,qq,qq,qq,qq,qq,trivial⟩,?_⟩
    try dsimp only
    rw [eL 10 e9,aX E 10,aV 10 k rfl]
    exact hc
   ·intro E θ a w hD hi hp he hc
    have hf:=he.h0.mT he 2 rfl
    refine zP hf rfl (pFA kW rfl) fun a hf=>zD θ he hi hf 19 rfl rfl rfl hc
   ·intro E θ a w hD hi hp he hc
    have t:=hp.o 10 rfl
    have ag:=hp.o 11 rfl
    try dsimp only at hc
    rw [hi] at hc
    have hf:=(he.h0.mP he 18 rfl t).mP he 19 rfl ag
    refine zW hf hc sz_23 u4 rfl fun w hc=>zG θ he hi hf rfl ?_
    try dsimp only
    rw [aX E 12]
    exact hc
   ·intro E θ a w g he hc
    have hf:=he.h0
    have e7:=g 7 rfl
    have e8:=g 8 rfl
    have e9:=g 9 rfl
    have t:=g 10 rfl
    have k:=g 12 rfl
    replace hf:=hf.more he 7 rfl (onT)
    replace hf:=hf.more he 6 rfl (onT)
    replace hf:=hf.more he 3 rfl (onT)
    replace hf:=hf.more he 2 rfl (onT)
    replace hf:=hf.more he 1 rfl (onT)
    replace hf:=hf.more he 0 rfl (onT)
    try dsimp only at hc
    rw [e7,e8,e9,t,k] at hc
    exact ⟨(θ 72).b,(θ 80).p,(θ 80).c,hf.kp rfl,hc⟩
   rintro a w ⟨aq,ad,ac,hf,hc⟩
   refine bk _ _ ?_
   refine eB ?_
   refine sp 2 hf rfl fun a hf=>aS ?_
   replace hc:=((hc.drop k0).pick k0).pick k1
   exact bd (W (x + 1),I.2.1,I.2.2,(V++[I.1])) _ _ (sj hF).symm ⟨ad,ac,hf.kp rfl,hc⟩
  ·refine wp_exit ?_
   refine bI ?_
   refine bI ?_
   have he:=sj hF
   rw [← he] at aa
   refine fZ ?_
   exact bn _ _ _ aa ⟨Y,Z,hf.kp rfl,hc⟩
 have bs:∀ r,x5=.out r→r=i:=by
  rintro r rfl
  exact sj hF
 refine eR N (eO (S:=S5) (x:=x5) ?_ N (([0]:List Int),r.2.1,r.2.2) _ _ ⟨(some ⟨a9,0,none⟩),1,hf.kp rfl,hc⟩ a6)
 clear hF hf hc
 rintro ⟨H,v,y⟩ bt a w KB5 ⟨R,U,hf,hc⟩ hF ab bf
 unfold mQ at hF
 refine wp_seq_k fun K15 bj=>zS fun K h=>sp 1 hf rfl fun a hf=>zP hf rfl (cR Tryz.underlying26 rfl) fun a hf=>zP hf rfl (pFA gW rfl) fun a hf=>zL hf hc aY m1 rfl fun a w hf hc=>sp 1 hf rfl fun a hf=>zT h ?_
 refine zI hf rfl hF ?_ ?_ <;> clear hF <;> intro hF
 ·refine wp_skip ?_
  refine bj _ _ ?_
  refine lH fun K17 a8=>wp_block ?_
  refine eB ?_
  refine sp 2 hf rfl fun a hf=>?_
  obtain ⟨s,a1,hF⟩:=aA hF
  refine zC hf aI1 rfl (fT (⟨s_.bytes,v,y⟩:bG) (-300) 300 J (hc.pick k2) a1) ?_
  rintro _ w ⟨rfl,hc⟩
  refine ⟨_,rfl,fun a hf=>?_⟩
  refine pJ (rows:=([s.1]:List Int).map aB) (vs:=[(0,i6 s.1)]) hf hc rfl rfl qG rfl ⟨rfl,rfl,rfl,trivial⟩ rfl rfl fun bu a w hf hc=>?_
  obtain ⟨bq,aj,hF⟩:=aA hF
  refine qI (xs:=H) (ys:=([s.1]:List Int)) hf hc rfl rfl qG rfl rfl rfl rfl rfl bA (mJ hc m0) (fun _ _=>u2) (by simpa using gJ aj) fun bi bb a w hf hc=>sp 1 hf rfl fun a hf=>aS ?_
  refine a8 _ _ ?_
  replace hc:=(((hc.drop k0).pick k0).pick k2).pick k2
  exact bf ((H++[s.1]),s.2.1,s.2.2) _ _ (sj hF).symm ⟨bi,bb,hf.kp rfl,hc⟩
 ·refine wp_exit ?_
  refine bI ?_
  refine bI ?_
  have he:=sj hF
  rw [← he] at ab
  refine fZ ?_
  exact bc _ _ _ ab ⟨R,U,hf.kp rfl,hc⟩

def bE (n:Int) (D:Int) (B:Int):Bool :=
 ((decide (D≤n)) && (decide (n≤B)))
theorem mB {G:aU} {Lf:List Ent} {w:World} (n:Int) (B:Int) (D:Int)   (hc:Ctx G (Lf) w) {H:Bool} (hF:bE n B D=H):Calls Tryz.prog 77 #[i6 n,i6 B,i6 D] w (fun e w=>e=.returned (.bool H)∧Ctx G (Lf) w):=by
 unfold bE at hF
 refine bU Tryz.func77 rfl Tryz.ntmps77 rfl fun a hf=>zS fun K h=>sp 1 hf rfl fun a hf=>zT h ?_
 refine zS fun K h=>sp 4 hf rfl fun a hf=>gQ 4 (fun a=>Has 15 a [(0,i6 n),(1,i6 B),(2,i6 D),(6,.bool false),(7,i6 n),(8,i6 B),(9,.bool (decide (B≤n))),(10,.bool (decide (B≤n))),(14,.bool ((decide (B≤n)) && (decide (n≤D))))]) hc ?_ ?_
 ·cases hb:(decide (B≤n))
  ·rw [hb] at hf
   refine stS hf rfl rfl rfl fun a hf=>stS hf rfl rfl rfl fun a hf=>stS hf rfl rfl rfl fun a hf=>sp 1 hf rfl fun a hf=>aS ⟨hf.kp rfl,hc⟩
  ·rw [hb] at hf
   refine sp 4 hf rfl fun a hf=>aS ⟨hf.kp rfl,hc⟩
 intro a w ⟨hf,hc⟩
 refine sp 1 hf rfl fun a hf=>zT h ?_
 refine wp_ret ?_
 obtain rfl:=hF
 exact zO1 Tryz.results77 hf rfl ⟨rfl,hc⟩

def aI (i_:Int) (x:aO):Bool :=
 (bE i_ 0 (W (x.Marks - 1)))
theorem tC {G:aU} {Lf:List Ent} {w:World} (i_:Int) (x:aO) {b_:Nat} {D:Option Addr} {B:Nat} (I:Rd G 5 D B (x.Lines.map aM)) (hc:Ctx G (.box b_ [i6 x.Marks,.slice D x.Lines.length B] 25::Lf) w) {H:Bool} (hF:aI i_ x=H):Calls Tryz.prog 76 #[i6 i_,pq b_] w (fun e w=>e=.returned (.bool H)∧Ctx G (.box b_ [i6 x.Marks,.slice D x.Lines.length B] 25::Lf) w):=by
 unfold aI at hF
 refine bU Tryz.func76 rfl Tryz.ntmps76 rfl fun a hf=>zS fun K h=>sp 1 hf rfl fun a hf=>zT h ?_
 refine zS fun K h=>sp 1 hf rfl fun a hf=>zP hf rfl (pFA gW rfl) fun a hf=>zL hf hc aY m0 rfl fun a w hf hc=>sp 1 hf rfl fun a hf=>zQ (v:=.bool (bE i_ 0 (W (x.Marks - 1)))) hf hc aBr rfl (fun w hc=>mB i_ 0 (W (x.Marks - 1)) hc rfl) fun a w hf hc=>sp 1 hf rfl fun a hf=>zT h ?_
 refine wp_ret ?_
 obtain rfl:=hF
 exact zO1 Tryz.results76 hf rfl ⟨rfl,hc⟩

def mO (l:aF) (x:aO):Bool :=
 ((((((aI l.From x) && (aI l.To x)) && (l.From != l.To)) && (bE l.Day 0 40000)) && (bE l.Rise (-1000000) 1000000)) && (bE l.Error 0 10000))
theorem yR {G:aU} {Lf:List Ent} {w:World} (l:aF) (x:aO) {b_:Nat} {B:Nat} {H:Option Addr} {D:Nat} (J:Rd G 5 H D (x.Lines.map aM)) (hc:Ctx G (.box b_ [.func (.func 76) #[] #[pq B]] 136::.box B [i6 x.Marks,.slice H x.Lines.length D] 25::Lf) w) {M:Bool} (hF:mO l x=M):Calls Tryz.prog 79 #[.agg #[i6 l.From,i6 l.To,i6 l.Day,i6 l.Rise,i6 l.Error],pq b_] w (fun e w=>e=.returned (.bool M)∧Ctx G (.box b_ [.func (.func 76) #[] #[pq B]] 136::.box B [i6 x.Marks,.slice H x.Lines.length D] 25::Lf) w):=by
 unfold mO at hF
 refine bU Tryz.func79 rfl Tryz.ntmps79 rfl fun a hf=>zS fun K h=>zB hf hc rfl fun I a w hf hc=>sp 1 hf rfl fun a hf=>zT h ?_
 refine zS fun K h=>zL hf hc aKh m1 rfl fun a w hf hc=>zP hf rfl (pFA vT rfl) fun a hf=>zL hf hc aY m0 rfl fun a w hf hc=>zQ (v:=.bool (aI l.From x)) hf hc aMb rfl (fun w hc=>(tC l.From x J (hc.pick k2) rfl).mono fun e w h=>⟨h.1,(h.2.unpick k2)⟩) fun a w hf hc=>sp 1 hf rfl fun a hf=>gQ 5 (fun a=>Has 36 a [(1,pq b_),(2,pq I),(3,.bool false),(4,.func (.func 76) #[] #[pq B]),(5,pq I),(6,i6 l.From),(7,.bool (aI l.From x)),(8,.bool (aI l.From x)),(13,.bool ((aI l.From x) && (aI l.To x)))]) hc ?_ ?_
 ·cases hb:(aI l.From x)
  ·rw [hb] at hf
   refine stS hf rfl rfl rfl fun a hf=>stS hf rfl rfl rfl fun a hf=>stS hf rfl rfl rfl fun a hf=>stS hf rfl rfl rfl fun a hf=>sp 1 hf rfl fun a hf=>aS ⟨hf.kp rfl,hc⟩
  ·rw [hb] at hf
   refine zL hf hc aKh m1 rfl fun a w hf hc=>zP hf rfl (pFA vX rfl) fun a hf=>zL hf hc aY m0 rfl fun a w hf hc=>zQ (v:=.bool (aI l.To x)) hf hc aMb rfl (fun w hc=>(tC l.To x J (hc.pick k2) rfl).mono fun e w h=>⟨h.1,(h.2.unpick k2)⟩) fun a w hf hc=>sp 1 hf rfl fun a hf=>aS ⟨hf.kp rfl,hc⟩
 intro a w ⟨hf,hc⟩
 refine sp 1 hf rfl fun a hf=>gQ 6 (fun a=>Has 36 a [(1,pq b_),(2,pq I),(3,.bool false),(4,.func (.func 76) #[] #[pq B]),(5,pq I),(6,i6 l.From),(7,.bool (aI l.From x)),(8,.bool (aI l.From x)),(13,.bool ((aI l.From x) && (aI l.To x))),(14,.bool ((aI l.From x) && (aI l.To x))),(20,.bool (((aI l.From x) && (aI l.To x)) && (l.From != l.To)))]) hc ?_ ?_
 ·cases hb:((aI l.From x) && (aI l.To x))
  ·rw [hb] at hf
   refine stS hf rfl rfl rfl fun a hf=>stS hf rfl rfl rfl fun a hf=>stS hf rfl rfl rfl fun a hf=>stS hf rfl rfl rfl fun a hf=>stS hf rfl rfl rfl fun a hf=>sp 1 hf rfl fun a hf=>aS ⟨hf.kp rfl,hc⟩
  ·rw [hb] at hf
   refine zP hf rfl (pFA vT rfl) fun a hf=>zL hf hc aY m0 rfl fun a w hf hc=>zP hf rfl (pFA vX rfl) fun a hf=>zL hf hc aY m0 rfl fun a w hf hc=>sp 2 hf rfl fun a hf=>aS ⟨hf.kp rfl,hc⟩
 intro a w ⟨hf,hc⟩
 refine sp 1 hf rfl fun a hf=>gQ 4 (fun a=>Has 36 a [(1,pq b_),(2,pq I),(3,.bool false),(4,.func (.func 76) #[] #[pq B]),(5,pq I),(6,i6 l.From),(7,.bool (aI l.From x)),(8,.bool (aI l.From x)),(13,.bool ((aI l.From x) && (aI l.To x))),(14,.bool ((aI l.From x) && (aI l.To x))),(20,.bool (((aI l.From x) && (aI l.To x)) && (l.From != l.To))),(21,.bool (((aI l.From x) && (aI l.To x)) && (l.From != l.To))),(25,.bool ((((aI l.From x) && (aI l.To x)) && (l.From != l.To)) && (bE l.Day 0 40000)))]) hc ?_ ?_
 ·cases hb:(((aI l.From x) && (aI l.To x)) && (l.From != l.To))
  ·rw [hb] at hf
   refine stS hf rfl rfl rfl fun a hf=>stS hf rfl rfl rfl fun a hf=>stS hf rfl rfl rfl fun a hf=>sp 1 hf rfl fun a hf=>aS ⟨hf.kp rfl,hc⟩
  ·rw [hb] at hf
   refine zP hf rfl (pFA xM rfl) fun a hf=>zL hf hc aY m0 rfl fun a w hf hc=>zQ (v:=.bool (bE l.Day 0 40000)) hf hc aBr rfl (fun w hc=>mB l.Day 0 40000 hc rfl) fun a w hf hc=>sp 1 hf rfl fun a hf=>aS ⟨hf.kp rfl,hc⟩
 intro a w ⟨hf,hc⟩
 refine sp 1 hf rfl fun a hf=>gQ 4 (fun a=>Has 36 a [(1,pq b_),(2,pq I),(3,.bool false),(4,.func (.func 76) #[] #[pq B]),(5,pq I),(6,i6 l.From),(7,.bool (aI l.From x)),(8,.bool (aI l.From x)),(13,.bool ((aI l.From x) && (aI l.To x))),(14,.bool ((aI l.From x) && (aI l.To x))),(20,.bool (((aI l.From x) && (aI l.To x)) && (l.From != l.To))),(21,.bool (((aI l.From x) && (aI l.To x)) && (l.From != l.To))),(25,.bool ((((aI l.From x) && (aI l.To x)) && (l.From != l.To)) && (bE l.Day 0 40000))),(26,.bool ((((aI l.From x) && (aI l.To x)) && (l.From != l.To)) && (bE l.Day 0 40000))),(30,.bool (((((aI l.From x) && (aI l.To x)) && (l.From != l.To)) && (bE l.Day 0 40000)) && (bE l.Rise (-1000000) 1000000)))]) hc ?_ ?_
 ·cases hb:((((aI l.From x) && (aI l.To x)) && (l.From != l.To)) && (bE l.Day 0 40000))
  ·rw [hb] at hf
   refine stS hf rfl rfl rfl fun a hf=>stS hf rfl rfl rfl fun a hf=>stS hf rfl rfl rfl fun a hf=>sp 1 hf rfl fun a hf=>aS ⟨hf.kp rfl,hc⟩
  ·rw [hb] at hf
   refine zP hf rfl (pFA sH rfl) fun a hf=>zL hf hc aY m0 rfl fun a w hf hc=>zQ (v:=.bool (bE l.Rise (-1000000) 1000000)) hf hc aBr rfl (fun w hc=>mB l.Rise (-1000000) 1000000 hc rfl) fun a w hf hc=>sp 1 hf rfl fun a hf=>aS ⟨hf.kp rfl,hc⟩
 intro a w ⟨hf,hc⟩
 refine sp 1 hf rfl fun a hf=>gQ 4 (fun a=>Has 36 a [(1,pq b_),(2,pq I),(3,.bool false),(4,.func (.func 76) #[] #[pq B]),(5,pq I),(6,i6 l.From),(7,.bool (aI l.From x)),(8,.bool (aI l.From x)),(13,.bool ((aI l.From x) && (aI l.To x))),(14,.bool ((aI l.From x) && (aI l.To x))),(20,.bool (((aI l.From x) && (aI l.To x)) && (l.From != l.To))),(21,.bool (((aI l.From x) && (aI l.To x)) && (l.From != l.To))),(25,.bool ((((aI l.From x) && (aI l.To x)) && (l.From != l.To)) && (bE l.Day 0 40000))),(26,.bool ((((aI l.From x) && (aI l.To x)) && (l.From != l.To)) && (bE l.Day 0 40000))),(30,.bool (((((aI l.From x) && (aI l.To x)) && (l.From != l.To)) && (bE l.Day 0 40000)) && (bE l.Rise (-1000000) 1000000))),(31,.bool (((((aI l.From x) && (aI l.To x)) && (l.From != l.To)) && (bE l.Day 0 40000)) && (bE l.Rise (-1000000) 1000000))),(35,.bool ((((((aI l.From x) && (aI l.To x)) && (l.From != l.To)) && (bE l.Day 0 40000)) && (bE l.Rise (-1000000) 1000000)) && (bE l.Error 0 10000)))]) hc ?_ ?_
 ·cases hb:(((((aI l.From x) && (aI l.To x)) && (l.From != l.To)) && (bE l.Day 0 40000)) && (bE l.Rise (-1000000) 1000000))
  ·rw [hb] at hf
   refine stS hf rfl rfl rfl fun a hf=>stS hf rfl rfl rfl fun a hf=>stS hf rfl rfl rfl fun a hf=>sp 1 hf rfl fun a hf=>aS ⟨hf.kp rfl,hc⟩
  ·rw [hb] at hf
   refine zP hf rfl (pFA yD rfl) fun a hf=>zL hf hc aY m0 rfl fun a w hf hc=>zQ (v:=.bool (bE l.Error 0 10000)) hf hc aBr rfl (fun w hc=>mB l.Error 0 10000 hc rfl) fun a w hf hc=>sp 1 hf rfl fun a hf=>aS ⟨hf.kp rfl,hc⟩
 intro a w ⟨hf,hc⟩
 refine sp 1 hf rfl fun a hf=>zT h ?_
 refine wp_ret ?_
 obtain rfl:=hF
 replace hc:=hc.drop k0
 exact zO1 Tryz.results79 hf rfl ⟨rfl,hc⟩

def dG (x:aF) (B:aO):Bool :=
 (!(mO x B))
theorem qU {G:aU} {Lf:List Ent} {w:World} (x:aF) (H:aO) {b_:Nat} {M:Nat} {J:Nat} {D:Option Addr} {B:Nat} (I:Rd G 5 D B (H.Lines.map aM)) (hc:Ctx G (.box b_ [.func (.func 79) #[] #[pq M]] 169::.box M [.func (.func 76) #[] #[pq J]] 136::.box J [i6 H.Marks,.slice D H.Lines.length B] 25::Lf) w) {O:Bool} (hF:dG x H=O):Calls Tryz.prog 110 #[.agg #[i6 x.From,i6 x.To,i6 x.Day,i6 x.Rise,i6 x.Error],pq b_] w (fun e w=>e=.returned (.bool O)∧Ctx G (.box b_ [.func (.func 79) #[] #[pq M]] 169::.box M [.func (.func 76) #[] #[pq J]] 136::.box J [i6 H.Marks,.slice D H.Lines.length B] 25::Lf) w):=by
 unfold dG at hF
 refine bU Tryz.func110 rfl Tryz.ntmps110 rfl fun a hf=>zS fun K h=>zB hf hc rfl fun R a w hf hc=>sp 1 hf rfl fun a hf=>zT h ?_
 refine zS fun K h=>zL hf hc aN6 m1 rfl fun a w hf hc=>zN hf hc aAa m0 rfl fun a w hf hc=>zQ (v:=.bool (mO x H)) hf hc en_79 rfl (fun w hc=>(yR x H I ((hc.pick k3).pick k3) rfl).mono fun e w h=>⟨h.1,((h.2.unpick k3).unpick k3)⟩) fun a w hf hc=>sp 2 hf rfl fun a hf=>zT h ?_
 refine wp_ret ?_
 obtain rfl:=hF
 replace hc:=hc.drop k0
 exact zO1 Tryz.results110 hf rfl ⟨rfl,hc⟩

def dW (N:Nat) (s_:List aF) (f_:aO) (x:Int):Option (cP (Int) (Int)) :=
 cond (decide (x < ((s_.length:Nat):Int)))
 (Option.bind (bQ s_ x) fun B=>
 cond (dG B f_)
 (some (.ret x))
 (some (.cont (W (x + 1)))))
 (some (.brk x))
def cY (N:Nat) (s_:List aF) (f_:aO):Option (Int) :=
 Option.bind (bC (fun s4=>dW N s_ f_ s4) N 0) fun x4=>
 exK x4 (fun s4=>some (-1)) some
theorem lA {N:Nat} {G:aU} {Lf:List Ent} {w:World} (s_:List aF) (f_:aO) {R:Option Addr} {U:Nat} {b_:Nat} {I:Nat} {H:Nat} {B:Option Addr} {D:Nat} (Y:Rd G 5 R U (s_.map aM)) (O:Rd G 5 B D (f_.Lines.map aM)) (hc:Ctx G (.box b_ [.func (.func 79) #[] #[pq I]] 169::.box I [.func (.func 76) #[] #[pq H]] 136::.box H [i6 f_.Marks,.slice B f_.Lines.length D] 25::Lf) w) {V:Int} (hF:cY N s_ f_=some V):Calls Tryz.prog 131 #[.slice R s_.length U,.func (.func 110) #[] #[pq b_]] w (fun e w=>e=.returned (i6 V)∧Ctx G (.box b_ [.func (.func 79) #[] #[pq I]] 169::.box I [.func (.func 76) #[] #[pq H]] 136::.box H [i6 f_.Marks,.slice B f_.Lines.length D] 25::Lf) w):=by
 unfold cY at hF
 refine bU Tryz.func131 rfl Tryz.ntmps131 rfl fun a hf=>zS fun K h=>sp 1 hf rfl fun a hf=>zT h ?_
 refine wp_seq_k fun K2 h2=>zS fun K h=>sp 1 hf rfl fun a hf=>zP hf rfl (cR Tryz.underlying23 rfl) fun a hf=>sp 1 hf rfl fun a hf=>zT h ?_
 refine wp_block ?_
 obtain ⟨x4,b,hF⟩:=aA hF
 let S4:Int→Act→World→Prop:=(fun (zz:Int) a w=>Has 19 a [(0,.slice R s_.length U),(1,.func (.func 110) #[] #[pq b_]),(7,i6 ((s_.length:Nat):Int)),(8,i6 zz)]∧Ctx G (.box b_ [.func (.func 79) #[] #[pq I]] 169::.box I [.func (.func 76) #[] #[pq H]] 136::.box H [i6 f_.Marks,.slice B f_.Lines.length D] 25::Lf) w)
 have g:∀ (zz:Int) a w,x4=.go zz→S4 zz a w→K2 a w:=by
  rintro x a w rfl ⟨hf,hc⟩
  replace hF:=cI hF
  refine h2 _ _ ?_
  refine zS fun K h=>sp 1 hf rfl fun a hf=>zT h ?_
  refine wp_ret ?_
  obtain rfl:=sj hF
  exact zO1 Tryz.results131 hf rfl ⟨rfl,hc⟩
 have d:∀ r,x4=.out r→r=V:=by
  rintro r rfl
  exact sj hF
 refine eR N (eO (S:=S4) (x:=x4) ?_ N 0 _ _ ⟨hf.kp rfl,hc⟩ b)
 clear hF hf hc
 rintro x j a w KB4 ⟨hf,hc⟩ hF J Z
 unfold dW at hF
 refine zS fun K h=>sp 1 hf rfl fun a hf=>zT h ?_
 refine wp_seq_k fun K7 h7=>zI hf rfl hF ?_ ?_ <;> clear hF <;> intro hF
 ·refine wp_skip ?_
  refine h7 _ _ ?_
  refine wp_seq_k fun K8 h8=>wp_block ?_
  refine zS fun K h=>sp 2 hf rfl fun a hf=>zT h ?_
  refine zS fun K h=>sp 3 hf rfl fun a hf=>?_
  obtain ⟨M,X,hF⟩:=aA hF
  obtain ⟨i,o,qa,qp⟩:=Y.atm X
  refine zP hf rfl (pIA Tryz.underlying23 rA rfl rfl qa) fun a hf=>zE hf hc rfl (jE (vs:=[i6 M.From,i6 M.To,i6 M.Day,i6 M.Rise,i6 M.Error]) aAa rfl rfl (dS qp (n:=5) (o':=0) rfl)) fun a w hf hc=>zQ (v:=.bool (dG M f_)) hf hc aN3 rfl (fun w hc=>(qU M f_ O (((hc.pick k2).pick k2).pick k2) rfl).mono fun e w h=>⟨h.1,(((h.2.unpick k2).unpick k2).unpick k2)⟩) fun a w hf hc=>zT h ?_
  refine zI hf rfl hF ?_ ?_ <;> clear hF <;> intro hF
  ·refine zS fun K h=>sp 2 hf rfl fun a hf=>zT h ?_
   refine wp_ret ?_
   refine bT ?_
   refine aQ ?_
   refine aQ ?_
   have he:=sj hF
   rw [← he] at J
   replace hF:=d _ J
   refine bT ?_
   refine aQ ?_
   obtain rfl:=hF
   exact zO1 Tryz.results131 hf rfl ⟨rfl,hc⟩
  ·refine wp_skip ?_
   refine h8 _ _ ?_
   refine eB ?_
   refine sp 2 hf rfl fun a hf=>aS ?_
   exact Z (W (x + 1)) _ _ (sj hF).symm ⟨hf.kp rfl,hc⟩
 ·refine wp_exit ?_
  refine bI ?_
  refine bI ?_
  have he:=sj hF
  rw [← he] at J
  refine fZ ?_
  exact g _ _ _ J ⟨hf.kp rfl,hc⟩

def cL (N:Nat) (s_:List aF) (f_:aO):Option (Bool) :=
 Option.bind (cY N s_ f_) fun r=>
 some (decide (0≤r))
theorem kJ {N:Nat} {G:aU} {Lf:List Ent} {w:World} (s_:List aF) (f_:aO) {M:Option Addr} {O:Nat} {b_:Nat} {I:Nat} {H:Nat} {B:Option Addr} {D:Nat} (S:Rd G 5 M O (s_.map aM)) (J:Rd G 5 B D (f_.Lines.map aM)) (hc:Ctx G (.box b_ [.func (.func 79) #[] #[pq I]] 169::.box I [.func (.func 76) #[] #[pq H]] 136::.box H [i6 f_.Marks,.slice B f_.Lines.length D] 25::Lf) w) {R:Bool} (hF:cL N s_ f_=some R):Calls Tryz.prog 109 #[.slice M s_.length O,.func (.func 110) #[] #[pq b_]] w (fun e w=>e=.returned (.bool R)∧Ctx G (.box b_ [.func (.func 79) #[] #[pq I]] 169::.box I [.func (.func 76) #[] #[pq H]] 136::.box H [i6 f_.Marks,.slice B f_.Lines.length D] 25::Lf) w):=by
 unfold cL at hF
 refine bU Tryz.func109 rfl Tryz.ntmps109 rfl fun a hf=>zS fun K h=>sp 1 hf rfl fun a hf=>zT h ?_
 refine zS fun K h=>sp 2 hf rfl fun a hf=>?_
 obtain ⟨r,hr,hF⟩:=aA hF
 refine zQ (v:=i6 r) hf hc aNf rfl (fun w hc=>(lA s_ f_ S J (((hc.pick k2).pick k2).pick k2) hr).mono fun e w h=>⟨h.1,(((h.2.unpick k2).unpick k2).unpick k2)⟩) fun a w hf hc=>sp 2 hf rfl fun a hf=>zT h ?_
 refine wp_ret ?_
 obtain rfl:=sj hF
 exact zO1 Tryz.results109 hf rfl ⟨rfl,hc⟩

def gG (N:Nat) (l:List aF) (so:aO):Option (Bool) :=
 Option.bind (cL N l so) fun r=>
 some (!r)
theorem rQ {N:Nat} {G:aU} {Lf:List Ent} {w:World} (l:List aF) (so:aO) {O:Option Addr} {M:Nat} {b_:Nat} {H:Nat} {D:Option Addr} {B:Nat} (R:Rd G 5 O M (l.map aM)) (I:Rd G 5 D B (so.Lines.map aM)) (hc:Ctx G (.box b_ [.func (.func 76) #[] #[pq H]] 136::.box H [i6 so.Marks,.slice D so.Lines.length B] 25::Lf) w) {J:Bool} (hF:gG N l so=some J):Calls Tryz.prog 78 #[.slice O l.length M,.func (.func 79) #[] #[pq b_]] w (fun e w=>e=.returned (.bool J)∧Ctx G (.box b_ [.func (.func 76) #[] #[pq H]] 136::.box H [i6 so.Marks,.slice D so.Lines.length B] 25::Lf) w):=by
 unfold gG at hF
 refine bU Tryz.func78 rfl Tryz.ntmps78 rfl fun a hf=>zS fun K h=>zB hf hc rfl fun S a w hf hc=>sp 1 hf rfl fun a hf=>zT h ?_
 refine zS fun K h=>sp 1 hf rfl fun a hf=>zP hf rfl (pMF (us:=[pq S]) rfl rfl) fun a hf=>?_
 obtain ⟨r,hr,hF⟩:=aA hF
 refine zQ (v:=.bool r) hf hc aOz rfl (fun w hc=>(kJ l so R I (((hc.pick k2).pick k2).pick k2) hr).mono fun e w h=>⟨h.1,(((h.2.unpick k2).unpick k2).unpick k2)⟩) fun a w hf hc=>sp 2 hf rfl fun a hf=>zT h ?_
 refine wp_ret ?_
 obtain rfl:=sj hF
 replace hc:=hc.drop k0
 exact zO1 Tryz.results78 hf rfl ⟨rfl,hc⟩

def nN (N:Nat) (n:aO):Option (Int) :=
 cond ((!(bE n.Marks 1 12)) || (decide (30 < ((n.Lines.length:Nat):Int))))
 (some 3)
 (Option.bind (gG N n.Lines n) fun r=>
 cond (!r)
 (some 20)
 (some 0))
theorem uO {N:Nat} {G:aU} {Lf:List Ent} {w:World} (n:aO) {H:Option Addr} {D:Nat} (B:Rd G 5 H D (n.Lines.map aM)) (hc:Ctx G (Lf) w) {M:Int} (hF:nN N n=some M):Calls Tryz.prog 39 #[.agg #[i6 n.Marks,.slice H n.Lines.length D]] w (fun e w=>e=.returned (i6 M)∧Ctx G (Lf) w):=by
 unfold nN at hF
 refine bU Tryz.func39 rfl Tryz.ntmps39 rfl fun a hf=>zS fun K h=>zB hf hc rfl fun I a w hf hc=>sp 1 hf rfl fun a hf=>zT h ?_
 refine zS fun K h=>zP hf rfl (pMF (us:=[pq I]) rfl rfl) fun a hf=>zA hf hc aN4 rfl fun J a w hf hc=>zW hf hc aPk u0 rfl fun w hc=>zT h ?_
 refine wp_seq_k fun K3 h3=>wp_block ?_
 refine zS fun K h=>zP hf rfl (pFA gW rfl) fun a hf=>zL hf hc aY m1 rfl fun a w hf hc=>zQ (v:=.bool (bE n.Marks 1 12)) hf hc aBr rfl (fun w hc=>mB n.Marks 1 12 hc rfl) fun a w hf hc=>sp 2 hf rfl fun a hf=>gQ 5 (fun a=>Has 22 a [(1,pq I),(3,pq J),(6,pq I),(7,i6 n.Marks),(8,.bool (bE n.Marks 1 12)),(9,.bool (!(bE n.Marks 1 12))),(10,.bool (!(bE n.Marks 1 12))),(15,.bool ((!(bE n.Marks 1 12)) || (decide (30 < ((n.Lines.length:Nat):Int)))))]) hc ?_ ?_
 ·cases hb:(!(bE n.Marks 1 12))
  ·rw [hb] at hf
   refine zP hf rfl (pFA kW rfl) fun a hf=>zL hf hc sE m1 rfl fun a w hf hc=>zP hf rfl (cR Tryz.underlying23 rfl) fun a hf=>sp 2 hf rfl fun a hf=>aS ⟨hf.kp rfl,hc⟩
  ·rw [hb] at hf
   refine stS hf rfl rfl rfl fun a hf=>stS hf rfl rfl rfl fun a hf=>stS hf rfl rfl rfl fun a hf=>stS hf rfl rfl rfl fun a hf=>sp 1 hf rfl fun a hf=>aS ⟨hf.kp rfl,hc⟩
 intro a w ⟨hf,hc⟩
 refine sp 1 hf rfl fun a hf=>zT h ?_
 refine zI hf rfl hF ?_ ?_ <;> clear hF <;> intro hF
 ·refine zS fun K h=>sp 1 hf rfl fun a hf=>zT h ?_
  refine wp_ret ?_
  refine bT ?_
  refine aQ ?_
  obtain rfl:=sj hF
  replace hc:=(hc.drop k1).drop k0
  exact zO1 Tryz.results39 hf rfl ⟨rfl,hc⟩
 ·refine zS fun K h=>zP hf rfl (pFA kW rfl) fun a hf=>zL hf hc sE m1 rfl fun a w hf hc=>zP hf rfl (pMF (us:=[pq J]) rfl rfl) fun a hf=>?_
  obtain ⟨r,hr,hF⟩:=aA hF
  refine zQ (v:=.bool r) hf hc en_78 rfl (fun w hc=>(rQ n.Lines n B B ((hc.pick k1).pick k1) hr).mono fun e w h=>⟨h.1,((h.2.unpick k1).unpick k1)⟩) fun a w hf hc=>sp 2 hf rfl fun a hf=>zT h ?_
  refine zI hf rfl hF ?_ ?_ <;> clear hF <;> intro hF
  ·refine zS fun K h=>sp 1 hf rfl fun a hf=>zT h ?_
   refine wp_ret ?_
   refine bT ?_
   refine aQ ?_
   obtain rfl:=sj hF
   replace hc:=(hc.drop k1).drop k0
   exact zO1 Tryz.results39 hf rfl ⟨rfl,hc⟩
  ·refine wp_skip ?_
   refine h3 _ _ ?_
   refine zS fun K h=>sp 1 hf rfl fun a hf=>zT h ?_
   refine wp_ret ?_
   obtain rfl:=sj hF
   replace hc:=(hc.drop k1).drop k0
   exact zO1 Tryz.results39 hf rfl ⟨rfl,hc⟩

def eM (N:Nat) (w_:aP) (mark:Int):Option (Int) :=
 some mark
theorem lU {N:Nat} {G:aU} {Lf:List Ent} {w:World} (w_:aP) (mark:Int) {b_:Nat} {B:Option Addr} {D:Nat} (H:Rd G 5 B D (w_.Net.Lines.map aM)) (hc:Ctx G (.box b_ (aN [i6 w_.Net.Marks,.slice B w_.Net.Lines.length D] 169 aB w_.can (aN [] 169 aD w_.by_ [])) 127::Lf) w) {J:Int} (hF:eM N w_ mark=some J):Calls Tryz.prog 41 #[pq b_,i6 mark] w (fun e w=>∃ (R:Nat) (M:Nat),e=.returned (.func (.func 81) #[] #[pq R,pq M])∧Ctx G (.box R [pq b_] 66::.box M [i6 J] 3::.box b_ (aN [i6 w_.Net.Marks,.slice B w_.Net.Lines.length D] 169 aB w_.can (aN [] 169 aD w_.by_ [])) 127::Lf) w):=by
 unfold eM at hF
 refine bU Tryz.func41 rfl Tryz.ntmps41 rfl fun a hf=>zS fun K h=>zB hf hc rfl fun O a w hf hc=>zB hf hc rfl fun I a w hf hc=>sp 1 hf rfl fun a hf=>zT h ?_
 refine zS fun K h=>zP hf rfl (pMF (us:=[pq O,pq I]) rfl rfl) fun a hf=>sp 1 hf rfl fun a hf=>zT h ?_
 refine wp_ret ?_
 obtain rfl:=sj hF
 replace hc:=(hc.pick k0).pick k1
 exact zO1 Tryz.results41 hf rfl ⟨O,I,rfl,hc⟩

def gX (B:Bool):Bool :=
 cond B
 (true)
 (false)
theorem tY {G:aU} {Lf:List Ent} {w:World} (B:Bool)   (hc:Ctx G (Lf) w) {D:Bool} (hF:gX B=D):Calls Tryz.prog 83 #[.bool B] w (fun e w=>e=.returned (.agg #[(bif D then .func (.func 112) #[] #[] else .func (.func 113) #[] #[])])∧Ctx G (Lf) w):=by
 unfold gX at hF
 refine bU Tryz.func83 rfl Tryz.ntmps83 rfl fun a hf=>zS fun K h=>zA hf hc aO3 rfl fun H a w hf hc=>zT h ?_
 refine wp_seq_k fun K2 h2=>zS fun K h=>sp 1 hf rfl fun a hf=>zT h ?_
 refine zI hf rfl hF ?_ ?_ <;> clear hF <;> intro hF
 ·refine zS fun K h=>zP hf rfl (bL (cells:=[.func (.func 112) #[] #[]]) aJk rfl rfl) fun a hf=>zW hf hc aJq u0 rfl fun w hc=>zT h ?_
  refine wp_ret ?_
  refine aQ ?_
  obtain rfl:=hF
  exact lC (by simp) rfl Tryz.results83 hf hc (cW (vs:=[.func (.func 112) #[] #[]]) aKd rfl rfl (bR (n:=1) m0 rfl)) ⟨rfl,(hc.drop k0)⟩
 ·refine wp_skip ?_
  refine h2 _ _ ?_
  refine zS fun K h=>zP hf rfl (bL (cells:=[.func (.func 113) #[] #[]]) aJk rfl rfl) fun a hf=>zW hf hc aJq u0 rfl fun w hc=>zT h ?_
  refine wp_ret ?_
  obtain rfl:=hF
  exact lC (by simp) rfl Tryz.results83 hf hc (cW (vs:=[.func (.func 113) #[] #[]]) aKd rfl rfl (bR (n:=1) m0 rfl)) ⟨rfl,(hc.drop k0)⟩

def iB (l:aF):Int :=
 l.To
theorem rX {G:aU} {Lf:List Ent} {w:World} (l:aF)   (hc:Ctx G (Lf) w) {B:Int} (hF:iB l=B):Calls Tryz.prog 112 #[.agg #[i6 l.From,i6 l.To,i6 l.Day,i6 l.Rise,i6 l.Error]] w (fun e w=>e=.returned (i6 B)∧Ctx G (Lf) w):=by
 unfold iB at hF
 refine bU Tryz.func112 rfl Tryz.ntmps112 rfl fun a hf=>zS fun K h=>zB hf hc rfl fun D a w hf hc=>sp 1 hf rfl fun a hf=>zT h ?_
 refine zS fun K h=>zP hf rfl (pFA vX rfl) fun a hf=>zL hf hc aY m0 rfl fun a w hf hc=>sp 1 hf rfl fun a hf=>zT h ?_
 refine wp_ret ?_
 obtain rfl:=hF
 replace hc:=hc.drop k0
 exact zO1 Tryz.results112 hf rfl ⟨rfl,hc⟩

def hX (l:aF):Int :=
 l.From
theorem rV {G:aU} {Lf:List Ent} {w:World} (l:aF)   (hc:Ctx G (Lf) w) {B:Int} (hF:hX l=B):Calls Tryz.prog 113 #[.agg #[i6 l.From,i6 l.To,i6 l.Day,i6 l.Rise,i6 l.Error]] w (fun e w=>e=.returned (i6 B)∧Ctx G (Lf) w):=by
 unfold hX at hF
 refine bU Tryz.func113 rfl Tryz.ntmps113 rfl fun a hf=>zS fun K h=>zB hf hc rfl fun D a w hf hc=>sp 1 hf rfl fun a hf=>zT h ?_
 refine zS fun K h=>zP hf rfl (pFA vT rfl) fun a hf=>zL hf hc aY m0 rfl fun a w hf hc=>sp 1 hf rfl fun a hf=>zT h ?_
 refine wp_ret ?_
 obtain rfl:=hF
 replace hc:=hc.drop k0
 exact zO1 Tryz.results113 hf rfl ⟨rfl,hc⟩

def jC (N:Nat) (w_:Int) (D:List aF) (g:aE):Option (Int) :=
 Option.bind (bQ D g.Line) fun B=>
 some (bif (gX g.Back) then (iB B) else (hX B))
theorem oJ {N:Nat} {G:aU} {Lf:List Ent} {w:World} (w_:Int) (I:List aF) (g:aE) {b_:Nat} {H:Option Addr} {D:Nat} {xa:Nat→Int} {J:Nat→aE} (M:Rd G 5 H D (I.map aM)) (hc:Ctx G (.box b_ (aN [i6 w_,.slice H I.length D] 169 aB xa (aN [] 169 aD J [])) 127::Lf) w) {O:Int} (hF:jC N w_ I g=some O):Calls Tryz.prog 82 #[pq b_,.agg #[i6 g.Line,.bool g.Back]] w (fun e w=>e=.returned (i6 O)∧Ctx G (.box b_ (aN [i6 w_,.slice H I.length D] 169 aB xa (aN [] 169 aD J [])) 127::Lf) w):=by
 unfold jC at hF
 refine bU Tryz.func82 rfl Tryz.ntmps82 rfl fun a hf=>zS fun K h=>zB hf hc rfl fun U a w hf hc=>sp 1 hf rfl fun a hf=>zT h ?_
 refine wp_seq_k fun K2 h2=>?_
 obtain ⟨B,R,hF⟩:=aA hF
 obtain ⟨S,o,qa,qp⟩:=M.atm R
 refine cQ hc aW (by kernel_rfl) ?_
 refine qE hf rfl rfl rfl (Pu.ev (pFA aBg rfl)) fun a hf=>qE hf rfl rfl rfl (cN wC rfl (bO m0 rfl)) fun a hf=>qE hf rfl rfl rfl (eC (v:=.agg #[(bif (gX g.Back) then .func (.func 112) #[] #[] else .func (.func 113) #[] #[])]) (vs:=[.bool g.Back]) (caps:=[]) aMs rfl rfl rfl rfl (fun w hc=>tY g.Back hc rfl)) fun a hf=>qE hf rfl rfl rfl (Pu.ev (aAu Tryz.underlying175 rfl aK5 rfl rfl)) fun a hf=>qE hf rfl rfl rfl (Pu.ev (pM rfl)) fun a hf=>qE hf rfl rfl rfl (Pu.ev (pNC rfl)) fun a hf=>qE hf rfl rfl rfl (Pu.ev (pFA nY rfl)) fun a hf=>qE hf rfl rfl rfl (Pu.ev (pFA kW rfl)) fun a hf=>qE hf rfl rfl rfl (cN sE rfl (bO m1 rfl)) fun a hf=>qE hf rfl rfl rfl (Pu.ev (pFA yF rfl)) fun a hf=>qE hf rfl rfl rfl (cN aY rfl (bO m0 rfl)) fun a hf=>qE hf rfl rfl rfl (Pu.ev (pIA Tryz.underlying23 rA rfl rfl qa)) fun a hf=>qE hf rfl rfl rfl (jE (vs:=[i6 B.From,i6 B.To,i6 B.Day,i6 B.Rise,i6 B.Error]) aAa rfl rfl (dS qp (n:=5) (o':=0) rfl)) fun a hf=>?_
 refine qE hf rfl rfl rfl (aHx (c:=(gX g.Back)) (v:=i6 (bif (gX g.Back) then (iB B) else (hX B))) (v1:=i6 (iB B)) (v2:=i6 (hX B)) (vs:=[.agg #[i6 B.From,i6 B.To,i6 B.Day,i6 B.Rise,i6 B.Error]]) aKv aLd rfl rfl rfl rfl (fun hb=>congrArg (Value.int .i64) (bifT hb)) (fun hb=>congrArg (Value.int .i64) (bifF hb)) (fun w hc=>rX B hc rfl) (fun w hc=>rV B hc rfl)) fun a hf=>qE hf rfl rfl rfl (Pu.ev (pA rfl)) fun a hf=>?_
 intro w hc
 refine h2 _ _ ?_
 refine wp_ret ?_
 obtain rfl:=sj hF
 replace hc:=hc.drop k0
 exact zO1 Tryz.results82 hf rfl ⟨rfl,hc⟩

def dL (N:Nat) {σ:Type} (D:Int) (B:σ):Option (cP (Int × σ) (cP (Int × σ) (σ))) :=
 some (.cont (W (D + 1),B))
def bH (N:Nat) {σ:Type} (x:Int) (J:List aF) (M:Int) (y:σ→aE→Option (σ × Bool)) (I:Int) (B:Int) (D:σ):Option (cP (Int × σ) (cP (Int × σ) (σ))) :=
 cond (decide (B < (2:Int)))
 (Option.bind (bQ ([(⟨I,false⟩:aE),(⟨I,true⟩:aE)]:List aE) B) fun H=>
 Option.bind (jC N x J H) fun r=>
 cond (r == M)
 (Option.bind (y D H) fun ry=>
 cond (!ry.2)
 (some (.ret (.ret ry.1)))
 (dL N B ry.1))
 (dL N B D))
 (some (.brk (B,D)))
def bJ (N:Nat) {σ:Type} (x:Int) (H:List aF) (I:Int) (y:σ→aE→Option (σ × Bool)) (D:Int) (sg:σ):Option (cP (Int × σ) (σ)) :=
 cond (decide (D < ((H.length:Nat):Int)))
 (Option.bind (bC (fun B=>bH N x H I y D B.1 B.2) N (0,sg)) fun J=>
 exK J (fun B=>some (.cont (W (D + 1),B.2))) some)
 (some (.brk (D,sg)))
def cA (N:Nat) {σ:Type} (x:Int) (B:List aF) (H:Int) (y:σ→aE→Option (σ × Bool)) (D:σ):Option (σ) :=
 Option.bind (bC (fun s3=>bJ N x B H y s3.1 s3.2) N (0,D)) fun x3=>
 exK x3 (fun s3=>some s3.2) some
theorem lD {N:Nat} {G:aU} {Lf:List Ent} {w:World} {σ:Type} (x:Int) (X:List aF) (O:Int) {b_:Nat} {D:Nat} {U:Option Addr} {V:Nat} {M:Nat} (ad:Rd G 5 U V (X.map aM)) (J:σ→List Ent→Prop) (y:σ→aE→Option (σ × Bool)) {l:Nat} (hy:oI Tryz.prog G l (fun x:aE=>[.agg #[i6 x.Line,.bool x.Back]]) J y) (aj:σ) {Ls0:List Ent} (ag:J aj Ls0) (am:∀ (o:σ) (L:List Ent),J o L→∃ A B,∃ xx:(Nat→Int) × (Nat→aE),L=A++(.box D (aN [i6 x,.slice U X.length V] 169 aB xx.1 (aN [] 169 aD xx.2 [])) 127::B)) (hc:Ctx G (.box b_ [pq D] 66::.box M [i6 O] 3::(Ls0++Lf)) w) {ai:σ} (hF:cA N x X O y aj=some ai):Calls Tryz.prog 81 #[.func (.yield l) #[] #[],pq b_,pq M] w (fun e w=>(∃ v,e=.returned v)∧∃ L,J ai L∧Ctx G (.box b_ [pq D] 66::.box M [i6 O] 3::(L++Lf)) w):=by
 unfold cA at hF
 refine bU Tryz.func81 rfl Tryz.ntmps81 rfl fun a hf=>wp_seq_k fun K1 h1=>?_
 obtain ⟨As,Bs,⟨xa,aa⟩,q⟩:=am _ _ ag
 dsimp only at q
 rw [q] at hc ag
 replace hc:Ctx G (.box b_ [pq D] 66::.box M [i6 O] 3::((As++(.box D (aN [i6 x,.slice U X.length V] 169 aB xa (aN [] 169 aD aa [])) 127::Bs))++Lf)) w:=hc
 replace hc:Ctx G (.box D (aN [i6 x,.slice U X.length V] 169 aB xa (aN [] 169 aD aa [])) 127::.box b_ [pq D] 66::.box M [i6 O] 3::((As++Bs)++Lf)) w:=aFy [.box b_ [pq D] 66,.box M [i6 O] 3] hc
 refine eB ?_
 refine zL hf hc lP m1 rfl fun a w hf hc=>sp 1 hf rfl fun a hf=>zP hf rfl (pFA nY rfl) fun a hf=>zP hf rfl (pFA kW rfl) fun a hf=>zL hf hc sE m0 rfl fun a w hf hc=>zP hf rfl (cR Tryz.underlying23 rfl) fun a hf=>sp 1 hf rfl fun a hf=>aS ?_
 replace hc:Ctx G (.box b_ [pq D] 66::.box M [i6 O] 3::((As++(.box D (aN [i6 x,.slice U X.length V] 169 aB xa (aN [] 169 aD aa [])) 127::Bs))++Lf)) w:=aI0 [.box b_ [pq D] 66,.box M [i6 O] 3] hc
 refine h1 _ _ ?_
 refine lH fun K2 h2=>wp_block ?_
 obtain ⟨x3,a1,hF⟩:=aA hF
 let S3:(Int × σ)→Act→World→Prop:=(fun (zz:Int × σ) a w=>∃ (Ls:List Ent),J zz.2 Ls∧Has 39 a [(0,.func (.yield l) #[] #[]),(1,pq b_),(2,pq M),(12,i6 ((X.length:Nat):Int)),(13,i6 zz.1)]∧Ctx G (.box b_ [pq D] 66::.box M [i6 O] 3::(Ls++Lf)) w)
 have a0:∀ (zz:Int × σ) a w,x3=.go zz→S3 zz a w→K2 a w:=by
  rintro ⟨H,sg⟩ a w rfl ⟨Ls,hJ,hf,hc⟩
  replace hF:=cI hF
  refine h2 _ _ ?_
  obtain rfl:=sj hF
  exact rG (by simp) rfl Tryz.results81 hf ⟨⟨_,rfl⟩,Ls,hJ,hc⟩
 have a6:∀ r,x3=.out r→r=ai:=by
  rintro r rfl
  exact sj hF
 refine eR N (eO (S:=S3) (x:=x3) ?_ N (0,aj) _ _ ⟨(As++(.box D (aN [i6 x,.slice U X.length V] 169 aB xa (aN [] 169 aD aa [])) 127::Bs)),ag,hf.kp rfl,hc⟩ a1)
 clear hF hf hc
 rintro ⟨H,sg⟩ az a w KB3 ⟨Ls,hJ,hf,hc⟩ hF p a3
 unfold bJ at hF
 refine zS fun K h=>sp 1 hf rfl fun a hf=>zT h ?_
 refine wp_seq_k fun K5 h5=>zI hf rfl hF ?_ ?_ <;> clear hF <;> intro hF
 ·refine wp_skip ?_
  refine h5 _ _ ?_
  refine wp_seq_k fun K6 h6=>wp_block ?_
  refine zS fun K h=>sp 2 hf rfl fun a hf=>zT h ?_
  refine zS fun K h=>sp 1 hf rfl fun a hf=>zP hf rfl (bL (cells:=[i6 H,.bool false]) aLe rfl rfl) fun a hf=>sp 1 hf rfl fun a hf=>zP hf rfl (bL (cells:=[i6 H,.bool true]) aLe rfl rfl) fun a hf=>pJ (rows:=([(⟨H,false⟩:aE),(⟨H,true⟩:aE)]:List aE).map aD) (vs:=[(0,.agg #[i6 H,.bool false]),(1,.agg #[i6 H,.bool true])]) hf hc rfl rfl aOw rfl ⟨rfl,rfl,rfl,rfl,rfl,rfl,trivial⟩ rfl rfl fun Y a w hf hc=>zP hf rfl (cR Tryz.underlying172 rfl) fun a hf=>sp 1 hf rfl fun a hf=>zT h ?_
  refine lH fun K9 h9=>wp_block ?_
  obtain ⟨ak,aq,hF⟩:=aA hF
  let S10:(Int × σ)→Act→World→Prop:=(fun (zz:Int × σ) a w=>∃ (Ls_1:List Ent),J zz.2 Ls_1∧Has 39 a [(0,.func (.yield l) #[] #[]),(1,pq b_),(2,pq M),(12,i6 ((X.length:Nat):Int)),(13,i6 H),(20,.slice (some ⟨Y,0,none⟩) 2 2),(21,i6 (2:Int)),(22,i6 zz.1)]∧Ctx G (.row (some ⟨Y,0,none⟩) 2 (([(⟨H,false⟩:aE),(⟨H,true⟩:aE)]:List aE).map aD) 123 2::.box b_ [pq D] 66::.box M [i6 O] 3::(Ls_1++Lf)) w)
  have ar:∀ (zz:Int × σ) a w,ak=.go zz→S10 zz a w→K9 a w:=by
   rintro ⟨s,ac⟩ a w rfl ⟨Ls_1,d,hf,hc⟩
   replace hF:=cI hF
   refine h9 _ _ ?_
   refine h6 _ _ ?_
   refine eB ?_
   refine sp 2 hf rfl fun a hf=>aS ?_
   replace hc:=hc.drop k0
   exact a3 (W (H + 1),ac) _ _ (sj hF).symm ⟨Ls_1,d,hf.kp rfl,hc⟩
  have ap:∀ r,ak=.out r→r=az:=by
   rintro r rfl
   exact sj hF
  refine eR N (eO (S:=S10) (x:=ak) ?_ N (0,sg) _ _ ⟨Ls,hJ,hf.kp rfl,hc⟩ aq)
  clear hF hf hc
  rintro ⟨s,ac⟩ ax a w KB10 ⟨Ls_1,d,hf,hc⟩ hF g au
  unfold bH at hF
  refine zS fun K h=>sp 1 hf rfl fun a hf=>zT h ?_
  refine wp_seq_k fun K12 a5=>zI hf rfl hF ?_ ?_ <;> clear hF <;> intro hF
  ·refine wp_skip ?_
   refine a5 _ _ ?_
   refine wp_seq_k fun K13 a4=>?_
   have af:∀ (z:σ) (Ls_2:List Ent) a w,J z Ls_2→Has 39 a [(0,.func (.yield l) #[] #[]),(1,pq b_),(2,pq M),(12,i6 ((X.length:Nat):Int)),(13,i6 H),(20,.slice (some ⟨Y,0,none⟩) 2 2),(21,i6 (2:Int)),(22,i6 s)]→Ctx G (.row (some ⟨Y,0,none⟩) 2 (([(⟨H,false⟩:aE),(⟨H,true⟩:aE)]:List aE).map aD) 123 2::.box b_ [pq D] 66::.box M [i6 O] 3::(Ls_2++Lf)) w→dL N s z=some ax→K13 a w:=by
    repeat (clear hF)
    repeat (clear hc)
    repeat (clear hf)
    intro z Ls_2 a w ay hf hc hF
    unfold dL at hF
    refine a4 _ _ ?_
    refine eB ?_
    refine sp 2 hf rfl fun a hf=>aS ?_
    exact au (W (s + 1),z) _ _ (sj hF).symm ⟨Ls_2,ay,hf.kp rfl,hc⟩
   refine wp_block ?_
   refine zS fun K h=>?_
   obtain ⟨I,av,hF⟩:=aA hF
   obtain ⟨qa,qr⟩:=iF hc m0 av
   refine zP hf rfl (pIA Tryz.underlying172 wU rfl rfl qa) fun a hf=>zE hf hc rfl (jE (vs:=[i6 I.Line,.bool I.Back]) rE rfl rfl (jV (sz:=2) (i:=s.toNat) m0 qr (n:=2) (o':=0) rfl)) fun a w hf hc=>zA hf hc aEj rfl fun b a w hf hc=>zW hf hc wU u0 rfl fun w hc=>zT h ?_
   refine wp_seq_k fun K15 an=>?_
   obtain ⟨As_1,Bs_1,⟨k,m⟩,q⟩:=am _ _ d
   dsimp only at q
   rw [q] at hc d
   replace hc:Ctx G (.box b [i6 I.Line,.bool I.Back] 123::.row (some ⟨Y,0,none⟩) 2 (([(⟨H,false⟩:aE),(⟨H,true⟩:aE)]:List aE).map aD) 123 2::.box b_ [pq D] 66::.box M [i6 O] 3::((As_1++(.box D (aN [i6 x,.slice U X.length V] 169 aB k (aN [] 169 aD m [])) 127::Bs_1))++Lf)) w:=hc
   replace hc:Ctx G (.box D (aN [i6 x,.slice U X.length V] 169 aB k (aN [] 169 aD m [])) 127::.box b [i6 I.Line,.bool I.Back] 123::.row (some ⟨Y,0,none⟩) 2 (([(⟨H,false⟩:aE),(⟨H,true⟩:aE)]:List aE).map aD) 123 2::.box b_ [pq D] 66::.box M [i6 O] 3::((As_1++Bs_1)++Lf)) w:=aFy [.box b [i6 I.Line,.bool I.Back] 123,.row (some ⟨Y,0,none⟩) 2 (([(⟨H,false⟩:aE),(⟨H,true⟩:aE)]:List aE).map aD) 123 2,.box b_ [pq D] 66,.box M [i6 O] 3] hc
   obtain ⟨r,hr,hF⟩:=aA hF
   rcases aOv (r == O) with ab | ab
   ·replace hF:=mN ab hF
    obtain ⟨ry,a2,hF⟩:=aA hF
    refine aLr [⟨none,none,0,.func (.yield l) #[] #[]⟩,⟨none,none,1,pq b_⟩,⟨none,none,2,pq M⟩,⟨none,none,6,pq b⟩,⟨none,none,12,i6 ((X.length:Nat):Int)⟩,⟨none,none,13,i6 H⟩,⟨none,none,20,.slice (some ⟨Y,0,none⟩) 2 2⟩,⟨none,none,21,i6 (2:Int)⟩,⟨none,none,22,i6 s⟩,⟨some 0,none,26,pq D⟩,⟨some 1,none,27,.agg #[i6 I.Line,.bool I.Back]⟩,⟨some 2,none,28,i6 r⟩,⟨some 3,none,29,i6 O⟩,⟨some 4,none,30,.bool true⟩,⟨some 5,none,31,.bool true⟩,⟨some 6,none,32,.func (.yield l) #[] #[]⟩,⟨some 7,none,33,.agg #[i6 I.Line,.bool I.Back]⟩,⟨some 8,none,34,.bool ry.2⟩,⟨some 9,none,35,.bool (!ry.2)⟩,⟨some 10,none,36,.bool (!ry.2)⟩] (fun E w=>cond (E 8) (∃ Ls_3,J ry.1 Ls_3∧Ctx G (.box b [i6 I.Line,.bool I.Back] 123::.row (some ⟨Y,0,none⟩) 2 (([(⟨H,false⟩:aE),(⟨H,true⟩:aE)]:List aE).map aD) 123 2::.box b_ [pq D] 66::.box M [i6 O] 3::(Ls_3++Lf)) w) (Ctx G (.box D (aN [i6 x,.slice U X.length V] 169 aB k (aN [] 169 aD m [])) 127::.box b [i6 I.Line,.bool I.Back] 123::.row (some ⟨Y,0,none⟩) 2 (([(⟨H,false⟩:aE),(⟨H,true⟩:aE)]:List aE).map aD) 123 2::.box b_ [pq D] 66::.box M [i6 O] 3::((As_1++Bs_1)++Lf)) w)) [(2,0),(5,2),(8,5),(2,1),(4,3),(5,4),(8,6),(8,7),(9,8)] (fun a w=>∃ Ls_3,J ry.1 Ls_3∧Has 39 a [(0,.func (.yield l) #[] #[]),(1,pq b_),(2,pq M),(12,i6 ((X.length:Nat):Int)),(13,i6 H),(20,.slice (some ⟨Y,0,none⟩) 2 2),(21,i6 (2:Int)),(22,i6 s),(32,.func (.yield l) #[] #[]),(33,.agg #[i6 I.Line,.bool I.Back]),(34,.bool ry.2),(35,.bool (!ry.2)),(36,.bool (!ry.2))]∧Ctx G (.box b [i6 I.Line,.bool I.Back] 123::.row (some ⟨Y,0,none⟩) 2 (([(⟨H,false⟩:aE),(⟨H,true⟩:aE)]:List aE).map aD) 123 2::.box b_ [pq D] 66::.box M [i6 O] 3::(Ls_3++Lf)) w) aW (by kernel_rfl) (by kernel_rfl) (eV.of hf ⟨rfl,rfl,rfl,rfl,rfl,rfl,rfl,rfl,rfl,trivial,trivial,trivial,trivial,trivial,trivial,trivial,trivial,trivial,trivial,trivial,trivial⟩) (tK rfl hc.drew) ⟨?_,?_,?_,?_,?_,?_,?_,?_,?_,?_,?_,trivial⟩ ?_ ?_
    ·intro E a w hD hi hp he hc K hK
     have e2:=hD.f 0 rfl hi
     have e5:=hD.f 1 rfl e2
     have e8:=hD.f 2 rfl e5
     replace hc:=tV e8 hc
     have hf:=he.h0.mT he 1 rfl
     refine sQ (fun _ _ h=>by obtain ⟨⟨_,h⟩,_⟩:=h; cases h) ?_
     refine zL hf hc lP m3 rfl fun a w hf hc=>aS ?_
     refine dA ?_
     refine hK _ _ fun ds u R=>⟨he.put0 hi R hf rfl 9 rfl rfl,tK (aV 0 e8 rfl) hc⟩
    ·intro E a w hD hi hp he hc K hK
     have e2:=hD.f 3 rfl hi
     have e5:=hD.f 1 rfl e2
     have e8:=hD.f 2 rfl e5
     replace hc:=tV e8 hc
     have hf:=he.h0.mT he 3 rfl
     refine sQ (fun _ _ h=>by obtain ⟨⟨_,h⟩,_⟩:=h; cases h) ?_
     refine zN hf hc rE m1 rfl fun a w hf hc=>aS ?_
     refine dA ?_
     refine hK _ _ fun ds u R=>⟨he.put0 hi R hf rfl 10 rfl rfl,tK (aV 1 e8 rfl) hc⟩
    ·intro E a w hD hi hp he hc K hK
     have e0:=hp.o 0 rfl
     have e1:=hp.o 1 rfl
     have e5:=hD.f 1 rfl hi
     have e8:=hD.f 2 rfl e5
     replace hc:=tV e8 hc
     have hf:=(he.h0.mP he 9 rfl e0).mP he 10 rfl e1
     refine sQ (fun _ _ h=>by obtain ⟨⟨_,h⟩,_⟩:=h; cases h) ?_
     refine zQ (v:=i6 r) hf hc aMv rfl (fun w hc=>(oJ x X I ad (hc.pick k0) hr).mono fun e w h=>⟨h.1,(h.2.unpick k0)⟩) fun a w hf hc=>aS ?_
     refine dA ?_
     refine hK _ _ fun ds u R=>⟨he.put0 hi R hf rfl 11 rfl rfl,tK (aV 2 e8 rfl) hc⟩
    ·intro E a w hD hi hp he hc K hK
     have e4:=hD.f 4 rfl hi
     have e5:=hD.f 5 rfl e4
     have e8:=hD.f 2 rfl e5
     replace hc:=tV e8 hc
     have hf:=he.h0.mT he 2 rfl
     refine sQ (fun _ _ h=>by obtain ⟨⟨_,h⟩,_⟩:=h; cases h) ?_
     refine zL hf hc aY m4 rfl fun a w hf hc=>aS ?_
     refine dA ?_
     refine hK _ _ fun ds u R=>⟨he.put0 hi R hf rfl 12 rfl rfl,tK (aV 3 e8 rfl) hc⟩
    ·intro E a w hD hi hp he hc K hK
     have e2:=hp.o 2 rfl
     have e3:=hp.o 3 rfl
     have e5:=hD.f 5 rfl hi
     have e8:=hD.f 2 rfl e5
     replace hc:=tV e8 hc
     have hf:=(he.h0.mP he 11 rfl e2).mP he 12 rfl e3
     refine sQ (fun _ _ h=>by obtain ⟨⟨_,h⟩,_⟩:=h; cases h) ?_
     refine sp 1 hf rfl fun a hf=>?_
     replace hf:=aMr ab hf
     refine aS ?_
     refine dA ?_
     refine hK _ _ fun ds u R=>⟨he.put0 hi R hf rfl 13 rfl rfl,tK (aV 4 e8 rfl) hc⟩
    ·intro E a w hD hi hp he hc K hK
     have e4:=hp.o 4 rfl
     have e8:=hD.f 2 rfl hi
     replace hc:=tV e8 hc
     have hf:=he.h0.mP he 13 rfl e4
     refine sQ (fun _ _ h=>by obtain ⟨⟨_,h⟩,_⟩:=h; cases h) ?_
     refine sp 1 hf rfl fun a hf=>aS ?_
     refine dA ?_
     refine hK _ _ fun ds u R=>⟨he.put0 hi R hf rfl 14 rfl rfl,tK (aV 5 e8 rfl) hc⟩
    ·intro E a w hD hi hp he hc K hK
     have e5:=hp.o 5 rfl
     have e8:=hD.f 6 rfl hi
     replace hc:=tV e8 hc
     have hf:=(he.h0.mT he 0 rfl).mP he 14 rfl e5
     refine sQ (fun _ _ h=>by obtain ⟨⟨_,h⟩,_⟩:=h; cases h) ?_
     refine sp 1 hf rfl fun a hf=>aS ?_
     refine dA ?_
     refine hK _ _ fun ds u R=>⟨he.put0 hi R hf rfl 15 rfl rfl,tK (aV 6 e8 rfl) hc⟩
    ·intro E a w hD hi hp he hc K hK
     have e5:=hp.o 5 rfl
     have e8:=hD.f 7 rfl hi
     replace hc:=tV e8 hc
     have hf:=(he.h0.mT he 3 rfl).mP he 14 rfl e5
     refine sQ (fun _ _ h=>by obtain ⟨⟨_,h⟩,_⟩:=h; cases h) ?_
     refine zN hf hc rE m1 rfl fun a w hf hc=>aS ?_
     refine dA ?_
     refine hK _ _ fun ds u R=>⟨he.put0 hi R hf rfl 16 rfl rfl,tK (aV 7 e8 rfl) hc⟩
    ·intro E a w hD hi hp he hc K hK
     have e5:=hp.o 5 rfl
     have e6:=hp.o 6 rfl
     have e7:=hp.o 7 rfl
     replace hc:=tV hi hc
     have hf:=((he.h0.mP he 14 rfl e5).mP he 15 rfl e6).mP he 16 rfl e7
     replace hc:Ctx G (.box b [i6 I.Line,.bool I.Back] 123::.row (some ⟨Y,0,none⟩) 2 (([(⟨H,false⟩:aE),(⟨H,true⟩:aE)]:List aE).map aD) 123 2::.box b_ [pq D] 66::.box M [i6 O] 3::((As_1++(.box D (aN [i6 x,.slice U X.length V] 169 aB k (aN [] 169 aD m [])) 127::Bs_1))++Lf)) w:=aI0 [.box b [i6 I.Line,.bool I.Back] 123,.row (some ⟨Y,0,none⟩) 2 (([(⟨H,false⟩:aE),(⟨H,true⟩:aE)]:List aE).map aD) 123 2,.box b_ [pq D] 66,.box M [i6 O] 3] hc
     refine stY (own:=[.box b [i6 I.Line,.bool I.Back] 123,.row (some ⟨Y,0,none⟩) 2 (([(⟨H,false⟩:aE),(⟨H,true⟩:aE)]:List aE).map aD) 123 2,.box b_ [pq D] 66,.box M [i6 O] 3]) (v:=I) hy d a2 hf hc rfl rfl rfl rfl rfl rfl fun a w Ls_3 Z hf hc=>aOu ?_
     refine dA ?_
     refine hK _ _ fun ds u R=>⟨he.put0 hi R hf rfl 17 rfl rfl,aG2 (aX E 8) ⟨Ls_3,Z,hc⟩⟩
    ·intro E a w hD hi hp he hc K hK
     have e5:=hp.o 5 rfl
     have e8:=hp.o 8 rfl
     obtain ⟨Ls_3,Z,hc⟩:=aGj e8 hc
     have hf:=(he.h0.mP he 14 rfl e5).mP he 17 rfl e8
     refine sQ (fun _ _ h=>by obtain ⟨⟨_,h⟩,_⟩:=h; cases h) ?_
     refine sp 1 hf rfl fun a hf=>aS ?_
     refine dA ?_
     refine hK _ _ fun ds u R=>⟨he.put0 hi R hf rfl 18 rfl rfl,aG2 (eL 9 e8) ⟨Ls_3,Z,hc⟩⟩
    ·intro E a w hD hi hp he hc K hK
     have e5:=hp.o 5 rfl
     have e9:=hp.o 9 rfl
     have e8:=hD.t 8 rfl e9
     obtain ⟨Ls_3,Z,hc⟩:=aGj e8 hc
     have hf:=(he.h0.mP he 14 rfl e5).mP he 18 rfl e9
     refine sQ (fun _ _ h=>by obtain ⟨⟨_,h⟩,_⟩:=h; cases h) ?_
     refine sp 1 hf rfl fun a hf=>aS ?_
     refine dA ?_
     refine hK _ _ fun ds u R=>⟨he.put0 hi R hf rfl 19 rfl rfl,aG2 (eL 10 e8) ⟨Ls_3,Z,hc⟩⟩
    ·intro E a w j he hc
     obtain ⟨Ls_3,Z,hc⟩:=aGj (j 8 rfl) hc
     have hf:=he.h0
     replace hf:=hf.more he 19 rfl (onP (j 10 rfl))
     replace hf:=hf.more he 18 rfl (onP (j 9 rfl))
     replace hf:=hf.more he 17 rfl (onP (j 8 rfl))
     replace hf:=hf.more he 16 rfl (onP (j 7 rfl))
     replace hf:=hf.more he 15 rfl (onP (j 6 rfl))
     replace hf:=hf.more he 8 rfl onT
     replace hf:=hf.more he 7 rfl onT
     replace hf:=hf.more he 6 rfl onT
     replace hf:=hf.more he 5 rfl onT
     replace hf:=hf.more he 4 rfl onT
     replace hf:=hf.more he 2 rfl onT
     replace hf:=hf.more he 1 rfl onT
     replace hf:=hf.more he 0 rfl onT
     exact ⟨Ls_3,Z,hf.kp rfl,hc⟩
    rintro a w ⟨Ls_3,Z,hf,hc⟩
    refine an _ _ ?_
    refine zI hf rfl hF ?_ ?_ <;> clear hF <;> intro hF
    ·refine wp_ret ?_
     refine bT ?_
     refine aQ ?_
     refine aQ ?_
     have he:=sj hF
     rw [← he] at g
     replace hF:=ap _ g
     refine bT ?_
     refine aQ ?_
     refine bT ?_
     refine aQ ?_
     refine aQ ?_
     have he:=hF
     rw [← he] at p
     replace hF:=a6 _ p
     refine bT ?_
     refine aQ ?_
     obtain rfl:=hF
     replace hc:=(hc.drop k1).drop k0
     exact rG (by simp) rfl Tryz.results81 hf ⟨⟨_,rfl⟩,Ls_3,Z,hc⟩
    ·refine wp_skip ?_
     replace hc:=hc.drop k0
     exact af ry.1 Ls_3 _ _ Z (hf.kp rfl) hc hF
   ·replace hF:=mR ab hF
    refine cQ hc aW (by kernel_rfl) ?_
    refine qE hf rfl rfl rfl (cN lP rfl (bO m3 rfl)) fun a hf=>qE hf rfl rfl rfl (jE (vs:=[i6 I.Line,.bool I.Back]) rE rfl rfl (bR (n:=2) m1 rfl)) fun a hf=>qE hf rfl rfl rfl (eC (v:=i6 r) (vs:=[pq D,.agg #[i6 I.Line,.bool I.Back]]) (caps:=[]) aMv rfl rfl rfl rfl (fun w hc=>(oJ x X I ad (hc.pick k0) hr).mono fun e w h=>⟨h.1,(h.2.unpick k0)⟩)) fun a hf=>qE hf rfl rfl rfl (cN aY rfl (bO m4 rfl)) fun a hf=>qE hf rfl rfl rfl (Pu.ev (pEq rfl rfl)) fun a hf=>?_
    replace hf:=aMr ab hf
    refine qE hf rfl rfl rfl (Pu.ev (pM rfl)) fun a hf=>qS hf rfl rfl rfl fun a hf=>qS hf rfl rfl rfl fun a hf=>qS hf rfl rfl rfl fun a hf=>qS hf rfl rfl rfl fun a hf=>qE hf rfl rfl rfl (Pu.ev (pPf rfl rfl)) fun a hf=>?_
    intro w hc
    replace hc:Ctx G (.box b [i6 I.Line,.bool I.Back] 123::.row (some ⟨Y,0,none⟩) 2 (([(⟨H,false⟩:aE),(⟨H,true⟩:aE)]:List aE).map aD) 123 2::.box b_ [pq D] 66::.box M [i6 O] 3::((As_1++(.box D (aN [i6 x,.slice U X.length V] 169 aB k (aN [] 169 aD m [])) 127::Bs_1))++Lf)) w:=aI0 [.box b [i6 I.Line,.bool I.Back] 123,.row (some ⟨Y,0,none⟩) 2 (([(⟨H,false⟩:aE),(⟨H,true⟩:aE)]:List aE).map aD) 123 2,.box b_ [pq D] 66,.box M [i6 O] 3] hc
    refine an _ _ ?_
    refine aDv hf rfl ?_
    refine wp_skip ?_
    replace hc:=hc.drop k0
    exact af ac (As_1++(.box D (aN [i6 x,.slice U X.length V] 169 aB k (aN [] 169 aD m [])) 127::Bs_1)) _ _ d (hf.kp rfl) hc hF
  ·refine wp_exit ?_
   refine bI ?_
   refine bI ?_
   have he:=sj hF
   rw [← he] at g
   refine fZ ?_
   exact ar _ _ _ g ⟨Ls_1,d,hf.kp rfl,hc⟩
 ·refine wp_exit ?_
  refine bI ?_
  refine bI ?_
  have he:=sj hF
  rw [← he] at p
  refine fZ ?_
  exact a0 _ _ _ p ⟨Ls,hJ,hf.kp rfl,hc⟩

def gB (N:Nat) (w_:aP) (g:aE):Option (Int) :=
 Option.bind (bQ w_.Net.Lines g.Line) fun B=>
 cond g.Back
 (some (W (B.Error - B.Rise)))
 (some (W (B.Error + B.Rise)))
theorem pH {N:Nat} {G:aU} {Lf:List Ent} {w:World} (w_:aP) (g:aE) {b_:Nat} {B:Option Addr} {D:Nat} (I:Rd G 5 B D (w_.Net.Lines.map aM)) (hc:Ctx G (.box b_ (aN [i6 w_.Net.Marks,.slice B w_.Net.Lines.length D] 169 aB w_.can (aN [] 169 aD w_.by_ [])) 127::Lf) w) {S:Int} (hF:gB N w_ g=some S):Calls Tryz.prog 42 #[pq b_,.agg #[i6 g.Line,.bool g.Back]] w (fun e w=>e=.returned (i6 S)∧Ctx G (.box b_ (aN [i6 w_.Net.Marks,.slice B w_.Net.Lines.length D] 169 aB w_.can (aN [] 169 aD w_.by_ [])) 127::Lf) w):=by
 unfold gB at hF
 refine bU Tryz.func42 rfl Tryz.ntmps42 rfl fun a hf=>zS fun K h=>zB hf hc rfl fun J a w hf hc=>sp 1 hf rfl fun a hf=>zT h ?_
 refine wp_seq_k fun K2 h2=>?_
 obtain ⟨H,U,hF⟩:=aA hF
 obtain ⟨V,o,qa,qp⟩:=I.atm U
 replace hc:=hc.nilRow 0 0
 refine iE (fun θ=>[⟨none,none,0,pq b_⟩,⟨none,none,3,pq J⟩,⟨some 0,none,6,pq b_⟩,⟨some 1,none,7,pq b_⟩,⟨some 2,none,8,pq b_⟩,⟨some 3,none,9,.pointer (some ⟨b_,1,none⟩)⟩,⟨some 4,none,10,.slice B w_.Net.Lines.length D⟩,⟨some 5,none,11,pq J⟩,⟨some 6,none,12,i6 g.Line⟩,⟨some 7,none,13,.pointer (some ⟨V,o,none⟩)⟩,⟨some 8,none,14,.agg #[i6 H.From,i6 H.To,i6 H.Day,i6 H.Rise,i6 H.Error]⟩,⟨some 9,none,5,.pointer (some ⟨(θ 72).b,0,none⟩)⟩]) (fun E θ=>(bif E 10 then .box (θ 72).b [i6 H.From,i6 H.To,i6 H.Day,i6 H.Rise,i6 H.Error] 32 else bif E 9 then .box (θ 72).b [i6 0,i6 0,i6 0,i6 0,i6 0] 32 else .row none 0 [] 0 0)::.box J [i6 g.Line,.bool g.Back] 123::.box b_ (aN [i6 w_.Net.Marks,.slice B w_.Net.Lines.length D] 169 aB w_.can (aN [] 169 aD w_.by_ [])) 127::Lf) [(10,9)] (fun a w=>∃ (R:Nat),Has 27 a [(3,pq J),(5,pq R)]∧Ctx G (.box R [i6 H.From,i6 H.To,i6 H.Day,i6 H.Rise,i6 H.Error] 32::.box J [i6 g.Line,.bool g.Back] 123::.box b_ (aN [i6 w_.Net.Marks,.slice B w_.Net.Lines.length D] 169 aB w_.can (aN [] 169 aD w_.by_ [])) 127::Lf) w) aW (by kernel_rfl) (by kernel_rfl) (eV.of hf ⟨rfl,rfl,trivial,trivial,trivial,trivial,trivial,trivial,trivial,trivial,trivial,trivial,trivial⟩) hc ⟨?_,?_,?_,?_,?_,?_,?_,?_,?_,?_,?_,trivial⟩ ?_ ?_
 ·intro E θ a w hD hi hp he hc
  have hf:=he.h0.mT he 0 rfl
  refine sp 1 hf rfl fun a hf=>zD θ he hi hf 2 rfl rfl rfl hc
 ·intro E θ a w hD hi hp he hc
  have e0:=hp.o 0 rfl
  have hf:=he.h0.mP he 2 rfl e0
  refine sp 1 hf rfl fun a hf=>zD θ he hi hf 3 rfl rfl rfl hc
 ·intro E θ a w hD hi hp he hc
  have e1:=hp.o 1 rfl
  have hf:=he.h0.mP he 3 rfl e1
  refine zP hf rfl (pFA nY rfl) fun a hf=>zD θ he hi hf 4 rfl rfl rfl hc
 ·intro E θ a w hD hi hp he hc
  have e2:=hp.o 2 rfl
  have hf:=he.h0.mP he 4 rfl e2
  refine zP hf rfl (pFA kW rfl) fun a hf=>zD θ he hi hf 5 rfl rfl rfl hc
 ·intro E θ a w hD hi hp he hc
  have e3:=hp.o 3 rfl
  have hf:=he.h0.mP he 5 rfl e3
  refine zL hf hc sE m2 rfl fun a w hf hc=>zD θ he hi hf 6 rfl rfl rfl hc
 ·intro E θ a w hD hi hp he hc
  have hf:=he.h0.mT he 1 rfl
  refine zP hf rfl (pFA yF rfl) fun a hf=>zD θ he hi hf 7 rfl rfl rfl hc
 ·intro E θ a w hD hi hp he hc
  have e5:=hp.o 5 rfl
  have hf:=he.h0.mP he 7 rfl e5
  refine zL hf hc aY m1 rfl fun a w hf hc=>zD θ he hi hf 8 rfl rfl rfl hc
 ·intro E θ a w hD hi hp he hc
  have e4:=hp.o 4 rfl
  have e6:=hp.o 6 rfl
  have hf:=(he.h0.mP he 6 rfl e4).mP he 8 rfl e6
  refine zP hf rfl (pIA Tryz.underlying23 rA rfl rfl qa) fun a hf=>zD θ he hi hf 9 rfl rfl rfl hc
 ·intro E θ a w hD hi hp he hc
  have e7:=hp.o 7 rfl
  have hf:=he.h0.mP he 9 rfl e7
  refine zE hf hc rfl (jE (vs:=[i6 H.From,i6 H.To,i6 H.Day,i6 H.Rise,i6 H.Error]) aAa rfl rfl (dS qp (n:=5) (o':=0) rfl)) fun a w hf hc=>zD θ he hi hf 10 rfl rfl rfl hc
 ·intro E θ a w hD hi hp he hc
  have M:=hD.f 0 rfl hi
  try dsimp only at hc
  rw [hi,M] at hc
  have hf:=he.h0
  refine zA hf hc aH4 rfl fun Y a w hf hc=>aS ?_
  refine dA ?_
  intro ds u X
  replace hc:=hc.drop k1
  refine ⟨(sK θ 72 ⟨Y,none,0,(fun _=>(none,0))⟩),he.put hi X hf rfl [] trivial ⟨qq,qq,qq,qq,qq,qq,qq,qq,qq,qq,qq,qq,trivial⟩,?_⟩
  try dsimp only
  rw [aX E 9,aV 9 M rfl]
  exact hc
 ·intro E θ a w hD hi hp he hc
  have e8:=hp.o 8 rfl
  have e9:=hp.o 9 rfl
  try dsimp only at hc
  rw [e9,hi] at hc
  have hf:=(he.h0.mP he 10 rfl e8).mP he 11 rfl e9
  refine zW hf hc rA u0 rfl fun w hc=>zG θ he hi hf rfl ?_
  try dsimp only
  rw [eL 10 e9,aX E 10]
  exact hc
 ·intro E θ a w O he hc
  have hf:=he.h0
  have e9:=O 9 rfl
  have M:=O 10 rfl
  replace hf:=hf.more he 11 rfl (onP e9)
  replace hf:=hf.more he 1 rfl (onT)
  try dsimp only at hc
  rw [e9,M] at hc
  exact ⟨(θ 72).b,hf.kp rfl,hc⟩
 rintro a w ⟨R,hf,hc⟩
 refine h2 _ _ ?_
 refine wp_seq_k fun K3 h3=>zS fun K h=>zP hf rfl (pFA aBg rfl) fun a hf=>zL hf hc wC m1 rfl fun a w hf hc=>zT h ?_
 refine zI hf rfl hF ?_ ?_ <;> clear hF <;> intro hF
 ·refine zS fun K h=>zP hf rfl (pFA yD rfl) fun a hf=>zL hf hc aY m0 rfl fun a w hf hc=>zP hf rfl (pFA sH rfl) fun a hf=>zL hf hc aY m0 rfl fun a w hf hc=>sp 2 hf rfl fun a hf=>zT h ?_
  refine wp_ret ?_
  refine aQ ?_
  obtain rfl:=sj hF
  replace hc:=(hc.drop k1).drop k0
  exact zO1 Tryz.results42 hf rfl ⟨rfl,hc⟩
 ·refine wp_skip ?_
  refine h3 _ _ ?_
  refine zS fun K h=>zP hf rfl (pFA yD rfl) fun a hf=>zL hf hc aY m0 rfl fun a w hf hc=>zP hf rfl (pFA sH rfl) fun a hf=>zL hf hc aY m0 rfl fun a w hf hc=>sp 2 hf rfl fun a hf=>zT h ?_
  refine wp_ret ?_
  obtain rfl:=sj hF
  replace hc:=(hc.drop k1).drop k0
  exact zO1 Tryz.results42 hf rfl ⟨rfl,hc⟩

def iQ (N:Nat) (l:List Int) (out:Int) (x:Int):Option (cP (Int × Int) (Int)) :=
 cond (decide (x < ((l.length:Nat):Int)))
 (Option.bind (bQ l x) fun B=>
 some (.cont (W (out + B),W (x + 1))))
 (some (.brk (out,x)))
def tB (N:Nat) (l:List Int):Option (Int) :=
 Option.bind (bC (fun s5=>iQ N l s5.1 s5.2) N (0,0)) fun x5=>
 exK x5 (fun s5=>some s5.1) some
theorem aEl {N:Nat} {G:aU} {Lf:List Ent} {w:World} (l:List Int) {I:Option Addr} {D:Nat} (V:Rd G 1 I D (l.map aB)) (hc:Ctx G (Lf) w) {H:Int} (hF:tB N l=some H):Calls Tryz.prog 111 #[.slice I l.length D] w (fun e w=>e=.returned (i6 H)∧Ctx G (Lf) w):=by
 unfold tB at hF
 refine bU Tryz.func111 rfl Tryz.ntmps111 rfl fun a hf=>zS fun K h=>sp 1 hf rfl fun a hf=>zT h ?_
 refine zS fun K h=>sp 1 hf rfl fun a hf=>zT h ?_
 refine wp_seq_k fun K3 h3=>zS fun K h=>sp 1 hf rfl fun a hf=>zP hf rfl (cR Tryz.underlying26 rfl) fun a hf=>sp 1 hf rfl fun a hf=>zT h ?_
 refine wp_block ?_
 obtain ⟨x5,R,hF⟩:=aA hF
 let S5:(Int × Int)→Act→World→Prop:=(fun (zz:Int × Int) a w=>Has 17 a [(3,i6 zz.1),(6,.slice I l.length D),(7,i6 ((l.length:Nat):Int)),(8,i6 zz.2)]∧Ctx G (Lf) w)
 have O:∀ (zz:Int × Int) a w,x5=.go zz→S5 zz a w→K3 a w:=by
  rintro ⟨out,x⟩ a w rfl ⟨hf,hc⟩
  replace hF:=cI hF
  refine h3 _ _ ?_
  refine zS fun K h=>sp 2 hf rfl fun a hf=>zT h ?_
  refine wp_ret ?_
  obtain rfl:=sj hF
  exact zO1 Tryz.results111 hf rfl ⟨rfl,hc⟩
 have X:∀ r,x5=.out r→r=H:=by
  rintro r rfl
  exact sj hF
 refine eR N (eO (S:=S5) (x:=x5) ?_ N (0,0) _ _ ⟨hf.kp rfl,hc⟩ R)
 clear hF hf hc
 rintro ⟨out,x⟩ Z a w KB5 ⟨hf,hc⟩ hF B M
 unfold iQ at hF
 refine zS fun K h=>sp 1 hf rfl fun a hf=>zT h ?_
 refine wp_seq_k fun K8 h8=>zI hf rfl hF ?_ ?_ <;> clear hF <;> intro hF
 ·refine wp_skip ?_
  refine h8 _ _ ?_
  refine wp_seq_k fun K9 h9=>wp_block ?_
  refine zS fun K h=>?_
  obtain ⟨U,J,hF⟩:=aA hF
  obtain ⟨Y,o,qa,qp⟩:=V.atm J
  refine zP hf rfl (pIA Tryz.underlying26 eQ rfl rfl qa) fun a hf=>zE hf hc rfl (cN aY rfl (gO (j:=0) qp rfl)) fun a w hf hc=>sp 1 hf rfl fun a hf=>zT h ?_
  refine eB ?_
  refine sp 4 hf rfl fun a hf=>aS ?_
  refine h9 _ _ ?_
  refine eB ?_
  refine sp 2 hf rfl fun a hf=>aS ?_
  exact M (W (out + U),W (x + 1)) _ _ (sj hF).symm ⟨hf.kp rfl,hc⟩
 ·refine wp_exit ?_
  refine bI ?_
  refine bI ?_
  have he:=sj hF
  rw [← he] at B
  refine fZ ?_
  exact O _ _ _ B ⟨hf.kp rfl,hc⟩

def eP (N:Nat) (w_:aP) (g:aE):Option (Int) :=
 Option.bind (bQ w_.Net.Lines g.Line) fun B=>
 some (bif (gX (!g.Back)) then (iB B) else (hX B))
theorem kB {N:Nat} {G:aU} {Lf:List Ent} {w:World} (w_:aP) (g:aE) {b_:Nat} {B:Option Addr} {D:Nat} (I:Rd G 5 B D (w_.Net.Lines.map aM)) (hc:Ctx G (.box b_ (aN [i6 w_.Net.Marks,.slice B w_.Net.Lines.length D] 169 aB w_.can (aN [] 169 aD w_.by_ [])) 127::Lf) w) {J:Int} (hF:eP N w_ g=some J):Calls Tryz.prog 43 #[pq b_,.agg #[i6 g.Line,.bool g.Back]] w (fun e w=>e=.returned (i6 J)∧Ctx G (.box b_ (aN [i6 w_.Net.Marks,.slice B w_.Net.Lines.length D] 169 aB w_.can (aN [] 169 aD w_.by_ [])) 127::Lf) w):=by
 unfold eP at hF
 refine bU Tryz.func43 rfl Tryz.ntmps43 rfl fun a hf=>zS fun K h=>zB hf hc rfl fun R a w hf hc=>sp 1 hf rfl fun a hf=>zT h ?_
 refine wp_seq_k fun K2 h2=>?_
 obtain ⟨H,M,hF⟩:=aA hF
 obtain ⟨O,o,qa,qp⟩:=I.atm M
 refine cQ hc aW (by kernel_rfl) ?_
 refine qE hf rfl rfl rfl (Pu.ev (pFA aBg rfl)) fun a hf=>qE hf rfl rfl rfl (cN wC rfl (bO m0 rfl)) fun a hf=>qE hf rfl rfl rfl (Pu.ev (pNot rfl)) fun a hf=>qE hf rfl rfl rfl (eC (v:=.agg #[(bif (gX (!g.Back)) then .func (.func 112) #[] #[] else .func (.func 113) #[] #[])]) (vs:=[.bool (!g.Back)]) (caps:=[]) aMs rfl rfl rfl rfl (fun w hc=>tY (!g.Back) hc rfl)) fun a hf=>qE hf rfl rfl rfl (Pu.ev (aAu Tryz.underlying175 rfl aK5 rfl rfl)) fun a hf=>qE hf rfl rfl rfl (Pu.ev (pM rfl)) fun a hf=>qE hf rfl rfl rfl (Pu.ev (pNC rfl)) fun a hf=>qE hf rfl rfl rfl (Pu.ev (pFA nY rfl)) fun a hf=>qE hf rfl rfl rfl (Pu.ev (pFA kW rfl)) fun a hf=>qE hf rfl rfl rfl (cN sE rfl (bO m1 rfl)) fun a hf=>qE hf rfl rfl rfl (Pu.ev (pFA yF rfl)) fun a hf=>qE hf rfl rfl rfl (cN aY rfl (bO m0 rfl)) fun a hf=>qE hf rfl rfl rfl (Pu.ev (pIA Tryz.underlying23 rA rfl rfl qa)) fun a hf=>?_
 refine qE hf rfl rfl rfl (jE (vs:=[i6 H.From,i6 H.To,i6 H.Day,i6 H.Rise,i6 H.Error]) aAa rfl rfl (dS qp (n:=5) (o':=0) rfl)) fun a hf=>qE hf rfl rfl rfl (aHx (c:=(gX (!g.Back))) (v:=i6 (bif (gX (!g.Back)) then (iB H) else (hX H))) (v1:=i6 (iB H)) (v2:=i6 (hX H)) (vs:=[.agg #[i6 H.From,i6 H.To,i6 H.Day,i6 H.Rise,i6 H.Error]]) aKv aLd rfl rfl rfl rfl (fun hb=>congrArg (Value.int .i64) (bifT hb)) (fun hb=>congrArg (Value.int .i64) (bifF hb)) (fun w hc=>rX H hc rfl) (fun w hc=>rV H hc rfl)) fun a hf=>qE hf rfl rfl rfl (Pu.ev (pA rfl)) fun a hf=>?_
 intro w hc
 refine h2 _ _ ?_
 refine wp_ret ?_
 obtain rfl:=sj hF
 replace hc:=hc.drop k0
 exact zO1 Tryz.results43 hf rfl ⟨rfl,hc⟩

def fG (N:Nat) (H:Int) (B:Nat→Int) (D:Nat→aE):Option (cP (Int × (Nat→Int) × (Nat→aE)) (cP (Int × (Nat→Int) × (Nat→aE)) ((Nat→Int) × (Nat→aE)))) :=
 some (.cont (W (H + 1),B,D))
def bS (N:Nat) (w_:aP) (H:Int) (M:Int) (B:Nat→Int) (D:Nat→aE) (xv:aE):Option (Rs ((Nat→Int) × (Nat→aE))) :=
 Option.bind (inR M 13) fun V=>
 Option.bind (gB N (⟨w_.Net,B,D⟩:aP) xv) fun S=>
 Option.bind (tB N ([(B (H * 13 + M).toNat),S]:List Int)) fun I=>
 Option.bind (eP N (⟨w_.Net,B,D⟩:aP) xv) fun O=>
 Option.bind (inR O 13) fun X=>
 cond (decide (I < (B (H * 13 + O).toNat)))
 (Option.bind (eP N (⟨w_.Net,B,D⟩:aP) xv) fun R=>
 Option.bind (eP N (⟨w_.Net,B,D⟩:aP) xv) fun J=>
 Option.bind (inR R 13) fun U=>
 Option.bind (inR J 13) fun Y=>
 some (.go ((kU B (H * 13 + R).toNat I),(kU D (H * 13 + J).toNat xv))))
 (some (.go (B,D)))
def cS (N:Nat) (w_:aP) (J:Int) (B:Int) (D:Nat→Int) (H:Nat→aE):Option (cP (Int × (Nat→Int) × (Nat→aE)) (cP (Int × (Nat→Int) × (Nat→aE)) ((Nat→Int) × (Nat→aE)))) :=
 cond (decide (B < w_.Net.Marks))
 (Option.bind (inR B 13) fun R=>
 cond ((D (J * 13 + B).toNat) == 1099511627776)
 (fG N B D H)
 (Option.bind (eM N (⟨w_.Net,D,H⟩:aP) B) fun r=>
 Option.bind (cA N w_.Net.Marks w_.Net.Lines r (rY (fun (zz:(Nat→Int) × (Nat→aE)) (M:aE)=>bS N w_ J B zz.1 zz.2 M)) (.go (D,H))) fun O=>
 rsK O (fun I=>fG N B I.1 I.2) (fun I=>none)))
 (some (.brk (B,D,H)))
def dR (N:Nat) (w_:aP) (I:Int) (x:Int) (D:Nat→Int) (H:Nat→aE):Option (cP (Int × (Nat→Int) × (Nat→aE)) ((Nat→Int) × (Nat→aE))) :=
 cond (decide (x < w_.Net.Marks))
 (Option.bind (bC (fun B=>cS N w_ I B.1 B.2.1 B.2.2) N (0,D,H)) fun J=>
 exK J (fun B=>some (.cont (W (x + 1),B.2.1,B.2.2))) some)
 (some (.brk (x,D,H)))
def jX (N:Nat) (w_:aP) (B:Int):Option ((Nat→Int) × (Nat→aE)) :=
 Option.bind (inR B 13) fun un=>
 Option.bind (inR B 13) fun D=>
 Option.bind (bC (fun s5=>dR N w_ B s5.1 s5.2.1 s5.2.2) N (0,w_.can,w_.by_)) fun x5=>
 exK x5 (fun s5=>some (s5.2.1,s5.2.2)) some
theorem vM {N:Nat} {G:aU} {Lf:List Ent} {w:World} (w_:aP) (I:Int) {b_:Nat} {D:Option Addr} {H:Nat} (Z:Rd G 5 D H (w_.Net.Lines.map aM)) (hc:Ctx G (.box b_ (aN [i6 w_.Net.Marks,.slice D w_.Net.Lines.length H] 169 aB w_.can (aN [] 169 aD w_.by_ [])) 127::Lf) w) {a6:(Nat→Int) × (Nat→aE)} (hF:jX N w_ I=some a6):Calls Tryz.prog 80 #[pq b_,i6 I] w (fun e w=>e=.returned (.tuple #[])∧Ctx G (.box b_ (aN [i6 w_.Net.Marks,.slice D w_.Net.Lines.length H] 169 aB a6.1 (aN [] 169 aD a6.2 [])) 127::Lf) w):=by
 unfold jX at hF
 refine xK Tryz.func80 rfl Tryz.ntmps80 rfl fun a hf=>zS fun K h=>zB hf hc rfl fun V a w hf hc=>zT h ?_
 refine wp_seq_k fun K2 h2=>?_
 obtain ⟨un,aa,hF⟩:=aA hF
 obtain ⟨cb,an,hF⟩:=aA hF
 replace hc:=hc.nilRow 0 0
 replace hc:=hc.nilRow 0 0
 refine iE (fun θ=>[⟨none,none,1,i6 I⟩,⟨none,none,2,pq V⟩,⟨some 0,none,9,pq b_⟩,⟨some 1,none,10,i6 I⟩,⟨some 2,none,11,pq b_⟩,⟨some 3,none,12,.pointer (some ⟨b_,2,none⟩)⟩,⟨some 4,none,13,.pointer (some ⟨b_,2 + I.toNat * 13,none⟩)⟩,⟨some 5,none,14,pq b_⟩,⟨some 6,none,15,i6 I⟩,⟨some 7,none,16,pq b_⟩,⟨some 8,none,17,.pointer (some ⟨b_,171,none⟩)⟩,⟨some 9,none,18,.pointer (some ⟨b_,171 + I.toNat * 26,none⟩)⟩,⟨some 10,none,4,.pointer (some ⟨(θ 80).b,0,none⟩)⟩,⟨some 11,none,5,.pointer (some ⟨(θ 88).b,0,none⟩)⟩]) (fun E θ=>(bif E 13 then .box (θ 88).b [.pointer (some ⟨b_,171 + I.toNat * 26,none⟩)] 208 else bif E 11 then .box (θ 88).b [.pointer none] 208 else .row none 0 [] 0 0)::(bif E 12 then .box (θ 80).b [.pointer (some ⟨b_,2 + I.toNat * 13,none⟩)] 207 else bif E 10 then .box (θ 80).b [.pointer none] 207 else .row none 0 [] 0 0)::.box V [pq b_] 66::.box b_ (aN [i6 w_.Net.Marks,.slice D w_.Net.Lines.length H] 169 aB w_.can (aN [] 169 aD w_.by_ [])) 127::Lf) [(12,10),(13,11)] (fun a w=>∃ (Y:Nat) (X:Nat),Has 79 a [(2,pq V),(4,pq Y),(5,pq X)]∧Ctx G (.box X [.pointer (some ⟨b_,171 + I.toNat * 26,none⟩)] 208::.box Y [.pointer (some ⟨b_,2 + I.toNat * 13,none⟩)] 207::.box V [pq b_] 66::.box b_ (aN [i6 w_.Net.Marks,.slice D w_.Net.Lines.length H] 169 aB w_.can (aN [] 169 aD w_.by_ [])) 127::Lf) w) aW (by kernel_rfl) (by kernel_rfl) (eV.of hf ⟨rfl,rfl,trivial,trivial,trivial,trivial,trivial,trivial,trivial,trivial,trivial,trivial,trivial,trivial,trivial⟩) hc ⟨?_,?_,?_,?_,?_,?_,?_,?_,?_,?_,?_,?_,?_,?_,trivial⟩ ?_ ?_
 ·intro E θ a w hD hi hp he hc
  have hf:=he.h0.mT he 1 rfl
  refine zL hf hc lP m2 rfl fun a w hf hc=>zD θ he hi hf 2 rfl rfl rfl hc
 ·intro E θ a w hD hi hp he hc
  have hf:=he.h0.mT he 0 rfl
  refine sp 1 hf rfl fun a hf=>zD θ he hi hf 3 rfl rfl rfl hc
 ·intro E θ a w hD hi hp he hc
  have e0:=hp.o 0 rfl
  have hf:=he.h0.mP he 2 rfl e0
  refine sp 1 hf rfl fun a hf=>zD θ he hi hf 4 rfl rfl rfl hc
 ·intro E θ a w hD hi hp he hc
  have e2:=hp.o 2 rfl
  have hf:=he.h0.mP he 4 rfl e2
  refine zP hf rfl (pFA lY rfl) fun a hf=>zD θ he hi hf 5 rfl rfl rfl hc
 ·intro E θ a w hD hi hp he hc
  have e1:=hp.o 1 rfl
  have e3:=hp.o 3 rfl
  have hf:=(he.h0.mP he 3 rfl e1).mP he 5 rfl e3
  refine zP hf rfl (kK Tryz.underlying121 qW rfl rfl (aT aa).1 (aT aa).2) fun a hf=>zD θ he hi hf 6 rfl rfl rfl hc
 ·intro E θ a w hD hi hp he hc
  have hf:=he.h0.mT he 1 rfl
  refine zL hf hc lP m2 rfl fun a w hf hc=>zD θ he hi hf 7 rfl rfl rfl hc
 ·intro E θ a w hD hi hp he hc
  have hf:=he.h0.mT he 0 rfl
  refine sp 1 hf rfl fun a hf=>zD θ he hi hf 8 rfl rfl rfl hc
 ·intro E θ a w hD hi hp he hc
  have e5:=hp.o 5 rfl
  have hf:=he.h0.mP he 7 rfl e5
  refine sp 1 hf rfl fun a hf=>zD θ he hi hf 9 rfl rfl rfl hc
 ·intro E θ a w hD hi hp he hc
  have e7:=hp.o 7 rfl
  have hf:=he.h0.mP he 9 rfl e7
  refine zP hf rfl (pFA aLg rfl) fun a hf=>zD θ he hi hf 10 rfl rfl rfl hc
 ·intro E θ a w hD hi hp he hc
  have e6:=hp.o 6 rfl
  have e8:=hp.o 8 rfl
  have hf:=(he.h0.mP he 8 rfl e6).mP he 10 rfl e8
  refine zP hf rfl (kK Tryz.underlying125 aNp rfl rfl (aT an).1 (aT an).2) fun a hf=>zD θ he hi hf 11 rfl rfl rfl hc
 ·intro E θ a w hD hi hp he hc
  have n:=hD.f 0 rfl hi
  try dsimp only at hc
  rw [hi,n] at hc
  have hf:=he.h0
  refine zA hf hc aO4 rfl fun b0 a w hf hc=>aS ?_
  refine dA ?_
  intro ds u a2
  replace hc:=((hc.drop k2).pick k0).pick k1
  refine ⟨(sK θ 80 ⟨b0,none,0,(fun _=>(none,0))⟩),he.put hi a2 hf rfl [] trivial ⟨qq,qq,qq,qq,qq,qq,qq,qq,qq,qq,qq,qq,qq,qq,trivial⟩,?_⟩
  try dsimp only
  rw [aX E 10,aV 10 n rfl]
  exact hc
 ·intro E θ a w hD hi hp he hc
  have ax:=hD.f 1 rfl hi
  try dsimp only at hc
  rw [hi,ax] at hc
  have hf:=he.h0
  refine zA hf hc aNz rfl fun b6 a w hf hc=>aS ?_
  refine dA ?_
  intro ds u a2
  replace hc:=hc.drop k1
  refine ⟨(sK θ 88 ⟨b6,none,0,(fun _=>(none,0))⟩),he.put hi a2 hf rfl [] trivial ⟨qq,qq,qq,qq,qq,qq,qq,qq,qq,qq,qq,qq,qq,qq,trivial⟩,?_⟩
  try dsimp only
  rw [aX E 11,aV 11 ax rfl]
  exact hc
 ·intro E θ a w hD hi hp he hc
  have e4:=hp.o 4 rfl
  have t:=hp.o 10 rfl
  try dsimp only at hc
  rw [t,hi] at hc
  have hf:=(he.h0.mP he 6 rfl e4).mP he 12 rfl t
  refine zW hf hc aM9 u1 rfl fun w hc=>zG θ he hi hf rfl ?_
  try dsimp only
  rw [eL 12 t,aX E 12]
  exact hc
 ·intro E θ a w hD hi hp he hc
  have e9:=hp.o 9 rfl
  have af:=hp.o 11 rfl
  try dsimp only at hc
  rw [af,hi] at hc
  have hf:=(he.h0.mP he 11 rfl e9).mP he 13 rfl af
  refine zW hf hc aO8 u0 rfl fun w hc=>zG θ he hi hf rfl ?_
  try dsimp only
  rw [eL 13 af,aX E 13]
  exact hc
 ·intro E θ a w i he hc
  have hf:=he.h0
  have t:=i 10 rfl
  have af:=i 11 rfl
  have n:=i 12 rfl
  have ax:=i 13 rfl
  replace hf:=hf.more he 13 rfl (onP af)
  replace hf:=hf.more he 12 rfl (onP t)
  replace hf:=hf.more he 1 rfl (onT)
  try dsimp only at hc
  rw [t,af,n,ax] at hc
  exact ⟨(θ 80).b,(θ 88).b,hf.kp rfl,hc⟩
 rintro a w ⟨Y,X,hf,hc⟩
 refine h2 _ _ ?_
 refine zS fun K h=>zL hf hc lP m2 rfl fun a w hf hc=>sp 1 hf rfl fun a hf=>zP hf rfl (pFA nY rfl) fun a hf=>zP hf rfl (pFA gW rfl) fun a hf=>zL hf hc aY m3 rfl fun a w hf hc=>sp 1 hf rfl fun a hf=>zT h ?_
 refine lH fun K4 h4=>wp_block ?_
 obtain ⟨x5,b1,hF⟩:=aA hF
 let S5:(Int × (Nat→Int) × (Nat→aE))→Act→World→Prop:=(fun (zz:Int × (Nat→Int) × (Nat→aE)) a w=>∃ (Ds:List Nat),Has ⟨79,jA Ds⟩ a [(2,pq V),(4,pq Y),(5,pq X),(23,i6 w_.Net.Marks),(24,i6 zz.1)]∧Ctx G (.box X [.pointer (some ⟨b_,171 + I.toNat * 26,none⟩)] 208::.box Y [.pointer (some ⟨b_,2 + I.toNat * 13,none⟩)] 207::.box V [pq b_] 66::.box b_ (aN [i6 w_.Net.Marks,.slice D w_.Net.Lines.length H] 169 aB zz.2.1 (aN [] 169 aD zz.2.2 [])) 127::(kV Ds++Lf)) w)
 have bv:∀ (zz:Int × (Nat→Int) × (Nat→aE)) a w,x5=.go zz→S5 zz a w→K4 a w:=by
  rintro ⟨x,ay,az⟩ a w rfl ⟨Ds,hf,hc⟩
  replace hF:=cI hF
  refine h4 _ _ ?_
  obtain rfl:=sj hF
  replace hc:=((hc.drop k2).drop k1).drop k0
  refine wV hf ?_
  refine uC [.box b_ (aN [i6 w_.Net.Marks,.slice D w_.Net.Lines.length H] 169 aB ay (aN [] 169 aD az [])) 127] Ds hc fun w hc=>?_
  replace hc:Ctx G (.box b_ (aN [i6 w_.Net.Marks,.slice D w_.Net.Lines.length H] 169 aB ay (aN [] 169 aD az [])) 127::Lf) w:=hc
  exact aM2 Tryz.results80 ⟨rfl,hc⟩
 have ck:∀ r,x5=.out r→r=a6:=by
  rintro r rfl
  exact sj hF
 replace hf:=aHy hf
 replace hc:Ctx G (.box X [.pointer (some ⟨b_,171 + I.toNat * 26,none⟩)] 208::.box Y [.pointer (some ⟨b_,2 + I.toNat * 13,none⟩)] 207::.box V [pq b_] 66::.box b_ (aN [i6 w_.Net.Marks,.slice D w_.Net.Lines.length H] 169 aB w_.can (aN [] 169 aD w_.by_ [])) 127::(kV []++Lf)) w:=hc
 refine eR N (eO (S:=S5) (x:=x5) ?_ N (0,w_.can,w_.by_) _ _ ⟨[],hf.kp rfl,hc⟩ b1)
 clear hF hf hc
 rintro ⟨x,ay,az⟩ bu a w KB5 ⟨Ds,hf,hc⟩ hF a5 bs
 unfold dR at hF
 refine zS fun K h=>sp 1 hf rfl fun a hf=>zT h ?_
 refine wp_seq_k fun K7 h7=>zI hf rfl hF ?_ ?_ <;> clear hF <;> intro hF
 ·refine wp_skip ?_
  refine h7 _ _ ?_
  refine wp_seq_k fun K8 h8=>wp_block ?_
  refine zS fun K h=>zL hf hc lP m2 rfl fun a w hf hc=>sp 1 hf rfl fun a hf=>zP hf rfl (pFA nY rfl) fun a hf=>zP hf rfl (pFA gW rfl) fun a hf=>zL hf hc aY m3 rfl fun a w hf hc=>sp 1 hf rfl fun a hf=>zT h ?_
  refine lH fun K10 b7=>wp_block ?_
  obtain ⟨a7,bi,hF⟩:=aA hF
  let S11:(Int × (Nat→Int) × (Nat→aE))→Act→World→Prop:=(fun (zz:Int × (Nat→Int) × (Nat→aE)) a w=>∃ (Ds_1:List Nat),Has ⟨79,jA Ds_1⟩ a [(2,pq V),(4,pq Y),(5,pq X),(23,i6 w_.Net.Marks),(24,i6 x),(30,i6 w_.Net.Marks),(31,i6 zz.1)]∧Ctx G (.box X [.pointer (some ⟨b_,171 + I.toNat * 26,none⟩)] 208::.box Y [.pointer (some ⟨b_,2 + I.toNat * 13,none⟩)] 207::.box V [pq b_] 66::.box b_ (aN [i6 w_.Net.Marks,.slice D w_.Net.Lines.length H] 169 aB zz.2.1 (aN [] 169 aD zz.2.2 [])) 127::(kV Ds_1++Lf)) w)
  have bk:∀ (zz:Int × (Nat→Int) × (Nat→aE)) a w,a7=.go zz→S11 zz a w→K10 a w:=by
   rintro ⟨R,ac,ab⟩ a w rfl ⟨Ds_1,hf,hc⟩
   replace hF:=cI hF
   refine b7 _ _ ?_
   refine h8 _ _ ?_
   refine eB ?_
   refine sp 2 hf rfl fun a hf=>aS ?_
   exact bs (W (x + 1),ac,ab) _ _ (sj hF).symm ⟨Ds_1,hf.kp rfl,hc⟩
  have ci:∀ r,a7=.out r→r=bu:=by
   rintro r rfl
   exact sj hF
  refine eR N (eO (S:=S11) (x:=a7) ?_ N (0,ay,az) _ _ ⟨Ds,hf.kp rfl,hc⟩ bi)
  clear hF hf hc
  rintro ⟨R,ac,ab⟩ a4 a w KB11 ⟨Ds_1,hf,hc⟩ hF a3 bf
  unfold cS at hF
  refine zS fun K h=>sp 1 hf rfl fun a hf=>zT h ?_
  refine wp_seq_k fun K13 bx=>zI hf rfl hF ?_ ?_ <;> clear hF <;> intro hF
  ·refine wp_skip ?_
   refine bx _ _ ?_
   refine wp_seq_k fun K14 b2=>?_
   have a9:∀ (a0:Nat→Int) (a1:Nat→aE) (Ds_2:List Nat) a w,Has ⟨79,jA Ds_2⟩ a [(2,pq V),(4,pq Y),(5,pq X),(23,i6 w_.Net.Marks),(24,i6 x),(30,i6 w_.Net.Marks),(31,i6 R)]→Ctx G (.box X [.pointer (some ⟨b_,171 + I.toNat * 26,none⟩)] 208::.box Y [.pointer (some ⟨b_,2 + I.toNat * 13,none⟩)] 207::.box V [pq b_] 66::.box b_ (aN [i6 w_.Net.Marks,.slice D w_.Net.Lines.length H] 169 aB a0 (aN [] 169 aD a1 [])) 127::(kV Ds_2++Lf)) w→fG N R a0 a1=some a4→K14 a w:=by
    repeat (clear hF)
    repeat (clear hc)
    repeat (clear hf)
    intro a0 a1 Ds_2 a w hf hc hF
    unfold fG at hF
    refine b2 _ _ ?_
    refine eB ?_
    refine sp 2 hf rfl fun a hf=>aS ?_
    exact bf (W (R + 1),a0,a1) _ _ (sj hF).symm ⟨Ds_2,hf.kp rfl,hc⟩
   refine wp_block ?_
   refine zS fun K h=>sp 1 hf rfl fun a hf=>zA hf hc aJu rfl fun d a w hf hc=>zW hf hc eQ u0 rfl fun w hc=>zT h ?_
   refine wp_seq_k fun K16 bz=>wp_seq_k fun K17 b5=>?_
   obtain ⟨cg,am,hF⟩:=aA hF
   refine cQ hc aW (by kernel_rfl) ?_
   refine qE hf rfl rfl rfl (cN aEa rfl (bO m2 rfl)) fun a hf=>qE hf rfl rfl rfl (cN aY rfl (bO m0 rfl)) fun a hf=>qE hf rfl rfl rfl (Pu.ev (pNC rfl)) fun a hf=>qE hf rfl rfl rfl (Pu.ev (Pu.cast (kK Tryz.underlying119 eQ rfl rfl (aT am).1 (aT am).2) (congrArg (fun k=>Value.pointer (some ⟨b_,k,none⟩)) (jW (M:=13) (2) aa am rfl)))) fun a hf=>qE hf rfl rfl rfl (cN aY rfl (gF (j:=0) m4 (fun x=>(bA x).1) rfl (wY aa am rfl) rfl)) fun a hf=>qE hf rfl rfl rfl (Pu.ev (pEq rfl rfl)) fun a hf=>?_
   intro w hc
   refine b5 _ _ ?_
   refine zI hf rfl hF ?_ ?_ <;> clear hF <;> intro hF
   ·refine wp_exit ?_
    refine bI ?_
    refine fZ ?_
    replace hc:=hc.drop k0
    exact a9 ac ab Ds_1 _ _  (hf.kp rfl) hc hF
   ·refine wp_skip ?_
    refine bz _ _ ?_
    refine zS fun K h=>zL hf hc lP m3 rfl fun a w hf hc=>zL hf hc aY m0 rfl fun a w hf hc=>?_
    obtain ⟨r,hr,hF⟩:=aA hF
    refine zC hf aJ3 rfl (lU (⟨w_.Net,ac,ab⟩:aP) R Z (hc.pick k4) hr) ?_
    rintro _ w ⟨au,av,rfl,hc⟩
    refine ⟨_,rfl,fun a hf=>?_⟩
    refine zT h ?_
    obtain ⟨bt,bj,hF⟩:=aA hF
    refine aEf (C:=[.box au [pq b_] 66,.box av [i6 r] 3]) (C2:=[.box au [pq b_] 66,.box av [i6 r] 3]) (L0:=[.box b_ (aN [i6 w_.Net.Marks,.slice D w_.Net.Lines.length H] 169 aB ac (aN [] 169 aD ab [])) 127,.box d [i6 R] 3,.box X [.pointer (some ⟨b_,171 + I.toNat * 26,none⟩)] 208,.box Y [.pointer (some ⟨b_,2 + I.toNat * 13,none⟩)] 207,.box V [pq b_] 66]) (Lf:=(kV Ds_1++Lf)) (encs:=fun x:aE=>[.agg #[i6 x.Line,.bool x.Back]]) (fun (zz:(Nat→Int) × (Nat→aE)) L=>L=[.box b_ (aN [i6 w_.Net.Marks,.slice D w_.Net.Lines.length H] 169 aB zz.1 (aN [] 169 aD zz.2 [])) 127,.box d [i6 R] 3,.box X [.pointer (some ⟨b_,171 + I.toNat * 26,none⟩)] 208,.box Y [.pointer (some ⟨b_,2 + I.toNat * 13,none⟩)] 207,.box V [pq b_] 66]) (fun (zz:(Nat→Int) × (Nat→aE)) (b9:aE)=>bS N w_ I R zz.1 zz.2 b9) (ac,ab) bt hf hc rfl aJm (fun _=>rfl) rfl rfl ?_ ?_ ?_ ?_
    ·intro lq mq J L Lx w hy hQ hJ hc
     have bm:∀ (zz:(Nat→Int) × (Nat→aE)) (M:List Ent),(fun (zz:(Nat→Int) × (Nat→aE)) L=>L=[.box b_ (aN [i6 w_.Net.Marks,.slice D w_.Net.Lines.length H] 169 aB zz.1 (aN [] 169 aD zz.2 [])) 127,.box d [i6 R] 3,.box X [.pointer (some ⟨b_,171 + I.toNat * 26,none⟩)] 208,.box Y [.pointer (some ⟨b_,2 + I.toNat * 13,none⟩)] 207,.box V [pq b_] 66]) zz M→∃ A B,∃ xx:(Nat→Int) × (Nat→aE),M=A++(.box b_ (aN [i6 w_.Net.Marks,.slice D w_.Net.Lines.length H] 169 aB xx.1 (aN [] 169 aD xx.2 [])) 127::B):=by
      rintro ⟨O,U⟩ _ ⟨rfl⟩
      exact ⟨[],_,(O,U),rfl⟩
     exact lD w_.Net.Marks w_.Net.Lines r Z J _ hy _ hJ (hQ _ (fun xx:(Nat→Int) × (Nat→aE)=>.box b_ (aN [i6 w_.Net.Marks,.slice D w_.Net.Lines.length H] 169 aB xx.1 (aN [] 169 aD xx.2 [])) 127) bm) hc bj
    ·clear hF hf hc
     rintro lq mq ⟨O,U⟩ xv oq _ Lr Lb a w cm rfl hF hf hc hK
     replace hf:Has 79 a [(2,pq V),(4,pq Y),(5,pq X),(6,pq d),(23,i6 w_.Net.Marks),(24,i6 x),(30,i6 w_.Net.Marks),(31,i6 R),(43,.agg #[i6 xv.Line,.bool xv.Back])]:=hf.kp rfl
     replace hc:Ctx G (.box b_ (aN [i6 w_.Net.Marks,.slice D w_.Net.Lines.length H] 169 aB O (aN [] 169 aD U [])) 127::.box d [i6 R] 3::.box X [.pointer (some ⟨b_,171 + I.toNat * 26,none⟩)] 208::.box Y [.pointer (some ⟨b_,2 + I.toNat * 13,none⟩)] 207::.box V [pq b_] 66::Lr) w:=hc
     replace hF:bS N w_ I R O U xv=some oq:=hF
     unfold bS at hF
     refine mU (fun _ _ h=>h) rfl ?_
     refine zA hf hc aEj rfl fun p a w hf hc=>zW hf hc wU u0 rfl fun w hc=>aS ?_
     refine hK _ _ [.box p [i6 xv.Line,.bool xv.Back] 123,.box b_ (aN [i6 w_.Net.Marks,.slice D w_.Net.Lines.length H] 169 aB O (aN [] 169 aD U [])) 127,.box d [i6 R] 3,.box X [.pointer (some ⟨b_,171 + I.toNat * 26,none⟩)] 208,.box Y [.pointer (some ⟨b_,2 + I.toNat * 13,none⟩)] 207,.box V [pq b_] 66] hc fun w hc=>?_
     replace hc:Ctx G (.box p [i6 xv.Line,.bool xv.Back] 123::.box b_ (aN [i6 w_.Net.Marks,.slice D w_.Net.Lines.length H] 169 aB O (aN [] 169 aD U [])) 127::.box d [i6 R] 3::.box X [.pointer (some ⟨b_,171 + I.toNat * 26,none⟩)] 208::.box Y [.pointer (some ⟨b_,2 + I.toNat * 13,none⟩)] 207::.box V [pq b_] 66::Lb) w:=hc
     refine rK fun K20 ba=>pW ?_
     refine qA fun K21 b3=>?_
     obtain ⟨cc,ai,hF⟩:=aA hF
     obtain ⟨s,bg,hF⟩:=aA hF
     obtain ⟨g,br,hF⟩:=aA hF
     replace hc:=hc.nilRow 0 0
     refine tZ (fun _ _ h=>h) rfl (fun θ=>[⟨none,none,2,pq V⟩,⟨none,none,4,pq Y⟩,⟨none,none,5,pq X⟩,⟨none,none,6,pq d⟩,⟨none,none,7,pq p⟩,⟨none,none,23,i6 w_.Net.Marks⟩,⟨none,none,24,i6 x⟩,⟨none,none,30,i6 w_.Net.Marks⟩,⟨none,none,31,i6 R⟩,⟨some 0,none,44,.pointer (some ⟨b_,2 + I.toNat * 13,none⟩)⟩,⟨some 1,none,45,i6 R⟩,⟨some 2,none,46,.pointer (some ⟨b_,2 + I.toNat * 13,none⟩)⟩,⟨some 3,none,47,.pointer (some ⟨b_,2 + (I * 13 + R).toNat * 1,none⟩)⟩,⟨some 4,none,48,i6 (O (I * 13 + R).toNat)⟩,⟨some 5,none,49,pq b_⟩,⟨some 6,none,50,.agg #[i6 xv.Line,.bool xv.Back]⟩,⟨some 7,none,51,i6 s⟩,⟨some 8,none,52,.slice (some ⟨(θ 64).b,0,none⟩) 2 2⟩,⟨some 9,none,53,i6 g⟩,⟨some 10,none,8,i6 g⟩]) (fun E θ=>(bif E 8 then .row (some ⟨(θ 64).b,0,none⟩) 2 (([(O (I * 13 + R).toNat),s]:List Int).map aB) 3 1 else .row none 0 [] 0 0)::.box p [i6 xv.Line,.bool xv.Back] 123::.box b_ (aN [i6 w_.Net.Marks,.slice D w_.Net.Lines.length H] 169 aB O (aN [] 169 aD U [])) 127::.box d [i6 R] 3::.box X [.pointer (some ⟨b_,171 + I.toNat * 26,none⟩)] 208::.box Y [.pointer (some ⟨b_,2 + I.toNat * 13,none⟩)] 207::.box V [pq b_] 66::Lb) [] (fun a w=>∃ (ad:Nat),Has 79 a [(2,pq V),(4,pq Y),(5,pq X),(6,pq d),(7,pq p),(23,i6 w_.Net.Marks),(24,i6 x),(30,i6 w_.Net.Marks),(31,i6 R),(8,i6 g)]∧Ctx G (.row (some ⟨ad,0,none⟩) 2 (([(O (I * 13 + R).toNat),s]:List Int).map aB) 3 1::.box p [i6 xv.Line,.bool xv.Back] 123::.box b_ (aN [i6 w_.Net.Marks,.slice D w_.Net.Lines.length H] 169 aB O (aN [] 169 aD U [])) 127::.box d [i6 R] 3::.box X [.pointer (some ⟨b_,171 + I.toNat * 26,none⟩)] 208::.box Y [.pointer (some ⟨b_,2 + I.toNat * 13,none⟩)] 207::.box V [pq b_] 66::Lb) w) aW (by kernel_rfl) (by kernel_rfl) (eV.of hf ⟨rfl,rfl,rfl,rfl,rfl,rfl,rfl,rfl,rfl,trivial,trivial,trivial,trivial,trivial,trivial,trivial,trivial,trivial,trivial,trivial,trivial⟩) hc ⟨?_,?_,?_,?_,?_,?_,?_,?_,?_,?_,?_,trivial⟩ ?_ ?_
     ·intro E θ a w hD hi hp he hc
      have hf:=he.h0.mT he 1 rfl
      refine zL hf hc aEa m5 rfl fun a w hf hc=>zD θ he hi hf 9 rfl rfl rfl hc
     ·intro E θ a w hD hi hp he hc
      have hf:=he.h0.mT he 3 rfl
      refine zL hf hc aY m3 rfl fun a w hf hc=>zD θ he hi hf 10 rfl rfl rfl hc
     ·intro E θ a w hD hi hp he hc
      have e0:=hp.o 0 rfl
      have hf:=he.h0.mP he 9 rfl e0
      refine sp 1 hf rfl fun a hf=>zD θ he hi hf 11 rfl rfl rfl hc
     ·intro E θ a w hD hi hp he hc
      have e1:=hp.o 1 rfl
      have e2:=hp.o 2 rfl
      have hf:=(he.h0.mP he 10 rfl e1).mP he 11 rfl e2
      refine zP hf rfl (Pu.cast (kK Tryz.underlying119 eQ rfl rfl (aT ai).1 (aT ai).2) (congrArg (fun k=>Value.pointer (some ⟨b_,k,none⟩)) (jW (M:=13) (2) aa ai rfl))) fun a hf=>zD θ he hi hf 12 rfl rfl rfl hc
     ·intro E θ a w hD hi hp he hc
      have e3:=hp.o 3 rfl
      have hf:=he.h0.mP he 12 rfl e3
      refine zE hf hc rfl (cN aY rfl (gF (j:=0) m2 (fun x=>(bA x).1) rfl (wY aa ai rfl) rfl)) fun a w hf hc=>zD θ he hi hf 13 rfl rfl rfl hc
     ·intro E θ a w hD hi hp he hc
      have hf:=he.h0.mT he 0 rfl
      refine zL hf hc lP m6 rfl fun a w hf hc=>zD θ he hi hf 14 rfl rfl rfl hc
     ·intro E θ a w hD hi hp he hc
      have hf:=he.h0.mT he 4 rfl
      refine zN hf hc rE m1 rfl fun a w hf hc=>zD θ he hi hf 15 rfl rfl rfl hc
     ·intro E θ a w hD hi hp he hc
      have e5:=hp.o 5 rfl
      have e6:=hp.o 6 rfl
      have hf:=(he.h0.mP he 14 rfl e5).mP he 15 rfl e6
      refine zQ (v:=i6 s) hf hc aMq rfl (fun w hc=>(pH (⟨w_.Net,O,U⟩:aP) xv Z (hc.pick k2) bg).mono fun e w h=>⟨h.1,(h.2.unpick k2)⟩) fun a w hf hc=>zD θ he hi hf 16 rfl rfl rfl hc
     ·intro E θ a w hD hi hp he hc
      have e4:=hp.o 4 rfl
      have e7:=hp.o 7 rfl
      try dsimp only at hc
      rw [hi] at hc
      have hf:=(he.h0.mP he 13 rfl e4).mP he 16 rfl e7
      refine pJ (rows:=([(O (I * 13 + R).toNat),s]:List Int).map aB) (vs:=[(0,i6 (O (I * 13 + R).toNat)),(1,i6 s)]) hf hc rfl rfl qG rfl ⟨rfl,rfl,rfl,rfl,rfl,rfl,trivial⟩ rfl rfl fun bn a w hf hc=>aS ?_
      refine dA ?_
      intro ds u a2
      replace hc:=hc.drop k1
      refine ⟨(sK θ 64 ⟨bn,none,0,(fun _=>(none,0))⟩),he.put hi a2 hf rfl [] trivial ⟨qq,qq,qq,qq,qq,qq,qq,qq,qq,qq,qq,qq,qq,qq,qq,qq,qq,qq,qq,qq,trivial⟩,?_⟩
      try dsimp only
      rw [aX E 8]
      exact hc
     ·intro E θ a w hD hi hp he hc
      have e8:=hp.o 8 rfl
      try dsimp only at hc
      rw [e8] at hc
      have hf:=he.h0.mP he 17 rfl e8
      refine zQ (v:=i6 g) hf hc aNw rfl (fun w hc=>by obtain ⟨G1,cf,bd,hc,bc⟩:=lend hc k0; exact (aEl ([(O (I * 13 + R).toNat),s]:List Int) bd hc br).mono fun e w h=>⟨h.1,((bc _ _ h.2).unpick k0)⟩) fun a w hf hc=>zD θ he hi hf 18 rfl rfl rfl ?_
      try dsimp only
      rw [eL 9 e8]
      exact hc
     ·intro E θ a w hD hi hp he hc
      have e9:=hp.o 9 rfl
      have hf:=he.h0.mP he 18 rfl e9
      refine sp 1 hf rfl fun a hf=>zD θ he hi hf 19 rfl rfl rfl hc
     ·intro E θ a w i he hc
      have hf:=he.h0
      have e8:=i 8 rfl
      have t:=i 10 rfl
      replace hf:=hf.more he 19 rfl (onP t)
      replace hf:=hf.more he 8 rfl (onT)
      replace hf:=hf.more he 7 rfl (onT)
      replace hf:=hf.more he 6 rfl (onT)
      replace hf:=hf.more he 5 rfl (onT)
      replace hf:=hf.more he 4 rfl (onT)
      replace hf:=hf.more he 3 rfl (onT)
      replace hf:=hf.more he 2 rfl (onT)
      replace hf:=hf.more he 1 rfl (onT)
      replace hf:=hf.more he 0 rfl (onT)
      try dsimp only at hc
      rw [e8] at hc
      exact ⟨(θ 64).b,hf.kp rfl,hc⟩
     rintro a w ⟨ad,hf,hc⟩
     refine b3 _ _ ?_
     refine qA fun K22 b4=>?_
     obtain ⟨ap,bq,hF⟩:=aA hF
     obtain ⟨cj,ag,hF⟩:=aA hF
     refine tZ (fun _ _ h=>h) rfl (fun θ=>[⟨none,none,2,pq V⟩,⟨none,none,4,pq Y⟩,⟨none,none,5,pq X⟩,⟨none,none,6,pq d⟩,⟨none,none,7,pq p⟩,⟨none,none,8,i6 g⟩,⟨none,none,23,i6 w_.Net.Marks⟩,⟨none,none,24,i6 x⟩,⟨none,none,30,i6 w_.Net.Marks⟩,⟨none,none,31,i6 R⟩,⟨some 0,none,54,i6 g⟩,⟨some 1,none,55,.pointer (some ⟨b_,2 + I.toNat * 13,none⟩)⟩,⟨some 2,none,56,pq b_⟩,⟨some 3,none,57,.agg #[i6 xv.Line,.bool xv.Back]⟩,⟨some 4,none,58,i6 ap⟩,⟨some 5,none,59,.pointer (some ⟨b_,2 + I.toNat * 13,none⟩)⟩,⟨some 6,none,60,.pointer (some ⟨b_,2 + (I * 13 + ap).toNat * 1,none⟩)⟩,⟨some 7,none,61,i6 (O (I * 13 + ap).toNat)⟩,⟨some 8,none,62,.bool (decide (g < (O (I * 13 + ap).toNat)))⟩]) (fun E θ=>.row (some ⟨ad,0,none⟩) 2 (([(O (I * 13 + R).toNat),s]:List Int).map aB) 3 1::.box p [i6 xv.Line,.bool xv.Back] 123::.box b_ (aN [i6 w_.Net.Marks,.slice D w_.Net.Lines.length H] 169 aB O (aN [] 169 aD U [])) 127::.box d [i6 R] 3::.box X [.pointer (some ⟨b_,171 + I.toNat * 26,none⟩)] 208::.box Y [.pointer (some ⟨b_,2 + I.toNat * 13,none⟩)] 207::.box V [pq b_] 66::Lb) [] (fun a w=>Has 79 a [(2,pq V),(4,pq Y),(5,pq X),(6,pq d),(7,pq p),(8,i6 g),(23,i6 w_.Net.Marks),(24,i6 x),(30,i6 w_.Net.Marks),(31,i6 R),(62,.bool (decide (g < (O (I * 13 + ap).toNat))))]∧Ctx G (.row (some ⟨ad,0,none⟩) 2 (([(O (I * 13 + R).toNat),s]:List Int).map aB) 3 1::.box p [i6 xv.Line,.bool xv.Back] 123::.box b_ (aN [i6 w_.Net.Marks,.slice D w_.Net.Lines.length H] 169 aB O (aN [] 169 aD U [])) 127::.box d [i6 R] 3::.box X [.pointer (some ⟨b_,171 + I.toNat * 26,none⟩)] 208::.box Y [.pointer (some ⟨b_,2 + I.toNat * 13,none⟩)] 207::.box V [pq b_] 66::Lb) w) aW (by kernel_rfl) (by kernel_rfl) (eV.of hf ⟨rfl,rfl,rfl,rfl,rfl,rfl,rfl,rfl,rfl,rfl,trivial,trivial,trivial,trivial,trivial,trivial,trivial,trivial,trivial,trivial⟩) hc ⟨?_,?_,?_,?_,?_,?_,?_,?_,?_,trivial⟩ ?_ ?_
     ·intro E θ a w hD hi hp he hc
      have hf:=he.h0.mT he 5 rfl
      refine sp 1 hf rfl fun a hf=>zD θ he hi hf 10 rfl rfl rfl hc
     ·intro E θ a w hD hi hp he hc
      have hf:=he.h0.mT he 1 rfl
      refine zL hf hc aEa m5 rfl fun a w hf hc=>zD θ he hi hf 11 rfl rfl rfl hc
     ·intro E θ a w hD hi hp he hc
      have hf:=he.h0.mT he 0 rfl
      refine zL hf hc lP m6 rfl fun a w hf hc=>zD θ he hi hf 12 rfl rfl rfl hc
     ·intro E θ a w hD hi hp he hc
      have hf:=he.h0.mT he 4 rfl
      refine zN hf hc rE m1 rfl fun a w hf hc=>zD θ he hi hf 13 rfl rfl rfl hc
     ·intro E θ a w hD hi hp he hc
      have e2:=hp.o 2 rfl
      have e3:=hp.o 3 rfl
      have hf:=(he.h0.mP he 12 rfl e2).mP he 13 rfl e3
      refine zQ (v:=i6 ap) hf hc aHi rfl (fun w hc=>(kB (⟨w_.Net,O,U⟩:aP) xv Z (hc.pick k2) bq).mono fun e w h=>⟨h.1,(h.2.unpick k2)⟩) fun a w hf hc=>zD θ he hi hf 14 rfl rfl rfl hc
     ·intro E θ a w hD hi hp he hc
      have e1:=hp.o 1 rfl
      have hf:=he.h0.mP he 11 rfl e1
      refine sp 1 hf rfl fun a hf=>zD θ he hi hf 15 rfl rfl rfl hc
     ·intro E θ a w hD hi hp he hc
      have e4:=hp.o 4 rfl
      have e5:=hp.o 5 rfl
      have hf:=(he.h0.mP he 14 rfl e4).mP he 15 rfl e5
      refine zP hf rfl (Pu.cast (kK Tryz.underlying119 eQ rfl rfl (aT ag).1 (aT ag).2) (congrArg (fun k=>Value.pointer (some ⟨b_,k,none⟩)) (jW (M:=13) (2) aa ag rfl))) fun a hf=>zD θ he hi hf 16 rfl rfl rfl hc
     ·intro E θ a w hD hi hp he hc
      have e6:=hp.o 6 rfl
      have hf:=he.h0.mP he 16 rfl e6
      refine zE hf hc rfl (cN aY rfl (gF (j:=0) m2 (fun x=>(bA x).1) rfl (wY aa ag rfl) rfl)) fun a w hf hc=>zD θ he hi hf 17 rfl rfl rfl hc
     ·intro E θ a w hD hi hp he hc
      have e0:=hp.o 0 rfl
      have e7:=hp.o 7 rfl
      have hf:=(he.h0.mP he 10 rfl e0).mP he 17 rfl e7
      refine sp 1 hf rfl fun a hf=>zD θ he hi hf 18 rfl rfl rfl hc
     ·intro E θ a w i he hc
      have hf:=he.h0
      have e8:=i 8 rfl
      replace hf:=hf.more he 18 rfl (onP e8)
      replace hf:=hf.more he 9 rfl (onT)
      replace hf:=hf.more he 8 rfl (onT)
      replace hf:=hf.more he 7 rfl (onT)
      replace hf:=hf.more he 6 rfl (onT)
      replace hf:=hf.more he 5 rfl (onT)
      replace hf:=hf.more he 4 rfl (onT)
      replace hf:=hf.more he 3 rfl (onT)
      replace hf:=hf.more he 2 rfl (onT)
      replace hf:=hf.more he 1 rfl (onT)
      replace hf:=hf.more he 0 rfl (onT)
      exact ⟨hf.kp rfl,hc⟩
     rintro a w ⟨hf,hc⟩
     refine b4 _ _ ?_
     refine xR (b:=(decide (g < (O (I * 13 + ap).toNat)))) hf rfl (fun hb=>?_) (fun hb=>?_)
     ·replace hF:=mN hb hF
      clear hb
      obtain ⟨aq,bp,hF⟩:=aA hF
      obtain ⟨ar,bb,hF⟩:=aA hF
      obtain ⟨ca,aj,hF⟩:=aA hF
      obtain ⟨cd,ak,hF⟩:=aA hF
      refine tZ (fun _ _ h=>h) rfl (fun θ=>[⟨none,none,2,pq V⟩,⟨none,none,4,pq Y⟩,⟨none,none,5,pq X⟩,⟨none,none,6,pq d⟩,⟨none,none,7,pq p⟩,⟨none,none,8,i6 g⟩,⟨none,none,23,i6 w_.Net.Marks⟩,⟨none,none,24,i6 x⟩,⟨none,none,30,i6 w_.Net.Marks⟩,⟨none,none,31,i6 R⟩,⟨some 0,none,63,.pointer (some ⟨b_,2 + I.toNat * 13,none⟩)⟩,⟨some 1,none,64,pq b_⟩,⟨some 2,none,65,.agg #[i6 xv.Line,.bool xv.Back]⟩,⟨some 3,none,66,i6 aq⟩,⟨some 4,none,67,.pointer (some ⟨b_,171 + I.toNat * 26,none⟩)⟩,⟨some 5,none,68,pq b_⟩,⟨some 6,none,69,.agg #[i6 xv.Line,.bool xv.Back]⟩,⟨some 7,none,70,i6 ar⟩,⟨some 8,none,71,i6 g⟩,⟨some 9,none,72,.agg #[i6 xv.Line,.bool xv.Back]⟩,⟨some 10,none,73,.pointer (some ⟨b_,2 + I.toNat * 13,none⟩)⟩,⟨some 11,none,74,.pointer (some ⟨b_,2 + (I * 13 + aq).toNat * 1,none⟩)⟩,⟨some 13,none,75,.pointer (some ⟨b_,171 + I.toNat * 26,none⟩)⟩,⟨some 14,none,76,.pointer (some ⟨b_,171 + (I * 13 + ar).toNat * 2,none⟩)⟩]) (fun E θ=>.row (some ⟨ad,0,none⟩) 2 (([(O (I * 13 + R).toNat),s]:List Int).map aB) 3 1::.box p [i6 xv.Line,.bool xv.Back] 123::(bif E 15 then .box b_ (aN [i6 w_.Net.Marks,.slice D w_.Net.Lines.length H] 169 aB (kU O (I * 13 + aq).toNat g) (aN [] 169 aD (kU U (I * 13 + ar).toNat xv) [])) 127 else bif E 12 then .box b_ (aN [i6 w_.Net.Marks,.slice D w_.Net.Lines.length H] 169 aB (kU O (I * 13 + aq).toNat g) (aN [] 169 aD U [])) 127 else .box b_ (aN [i6 w_.Net.Marks,.slice D w_.Net.Lines.length H] 169 aB O (aN [] 169 aD U [])) 127)::.box d [i6 R] 3::.box X [.pointer (some ⟨b_,171 + I.toNat * 26,none⟩)] 208::.box Y [.pointer (some ⟨b_,2 + I.toNat * 13,none⟩)] 207::.box V [pq b_] 66::Lb) [(12,3),(15,3),(12,7),(15,7),(15,12)] (fun a w=>Has 79 a [(2,pq V),(4,pq Y),(5,pq X),(6,pq d),(23,i6 w_.Net.Marks),(24,i6 x),(30,i6 w_.Net.Marks),(31,i6 R)]∧Ctx G (.row (some ⟨ad,0,none⟩) 2 (([(O (I * 13 + R).toNat),s]:List Int).map aB) 3 1::.box p [i6 xv.Line,.bool xv.Back] 123::.box b_ (aN [i6 w_.Net.Marks,.slice D w_.Net.Lines.length H] 169 aB (kU O (I * 13 + aq).toNat g) (aN [] 169 aD (kU U (I * 13 + ar).toNat xv) [])) 127::.box d [i6 R] 3::.box X [.pointer (some ⟨b_,171 + I.toNat * 26,none⟩)] 208::.box Y [.pointer (some ⟨b_,2 + I.toNat * 13,none⟩)] 207::.box V [pq b_] 66::Lb) w) aW (by kernel_rfl) (by kernel_rfl) (eV.of hf ⟨rfl,rfl,rfl,rfl,rfl,rfl,rfl,rfl,rfl,rfl,trivial,trivial,trivial,trivial,trivial,trivial,trivial,trivial,trivial,trivial,trivial,trivial,trivial,trivial,trivial⟩) hc ⟨?_,?_,?_,?_,?_,?_,?_,?_,?_,?_,?_,?_,?_,?_,?_,?_,trivial⟩ ?_ ?_
      ·intro E θ a w hD hi hp he hc
       have hf:=he.h0.mT he 1 rfl
       refine zL hf hc aEa m5 rfl fun a w hf hc=>zD θ he hi hf 10 rfl rfl rfl hc
      ·intro E θ a w hD hi hp he hc
       have hf:=he.h0.mT he 0 rfl
       refine zL hf hc lP m6 rfl fun a w hf hc=>zD θ he hi hf 11 rfl rfl rfl hc
      ·intro E θ a w hD hi hp he hc
       have hf:=he.h0.mT he 4 rfl
       refine zN hf hc rE m1 rfl fun a w hf hc=>zD θ he hi hf 12 rfl rfl rfl hc
      ·intro E θ a w hD hi hp he hc
       have e1:=hp.o 1 rfl
       have e2:=hp.o 2 rfl
       have n:=hD.f 0 rfl hi
       have y:=hD.f 1 rfl hi
       try dsimp only at hc
       rw [n,y] at hc
       have hf:=(he.h0.mP he 11 rfl e1).mP he 12 rfl e2
       refine zQ (v:=i6 aq) hf hc aHi rfl (fun w hc=>(kB (⟨w_.Net,O,U⟩:aP) xv Z (hc.pick k2) bp).mono fun e w h=>⟨h.1,(h.2.unpick k2)⟩) fun a w hf hc=>zD θ he hi hf 13 rfl rfl rfl ?_
       try dsimp only
       rw [aV 3 n rfl,aV 3 y rfl]
       exact hc
      ·intro E θ a w hD hi hp he hc
       have hf:=he.h0.mT he 2 rfl
       refine zL hf hc aNt m4 rfl fun a w hf hc=>zD θ he hi hf 14 rfl rfl rfl hc
      ·intro E θ a w hD hi hp he hc
       have hf:=he.h0.mT he 0 rfl
       refine zL hf hc lP m6 rfl fun a w hf hc=>zD θ he hi hf 15 rfl rfl rfl hc
      ·intro E θ a w hD hi hp he hc
       have hf:=he.h0.mT he 4 rfl
       refine zN hf hc rE m1 rfl fun a w hf hc=>zD θ he hi hf 16 rfl rfl rfl hc
      ·intro E θ a w hD hi hp he hc
       have e5:=hp.o 5 rfl
       have e6:=hp.o 6 rfl
       have n:=hD.f 2 rfl hi
       have y:=hD.f 3 rfl hi
       try dsimp only at hc
       rw [n,y] at hc
       have hf:=(he.h0.mP he 15 rfl e5).mP he 16 rfl e6
       refine zQ (v:=i6 ar) hf hc aHi rfl (fun w hc=>(kB (⟨w_.Net,O,U⟩:aP) xv Z (hc.pick k2) bb).mono fun e w h=>⟨h.1,(h.2.unpick k2)⟩) fun a w hf hc=>zD θ he hi hf 17 rfl rfl rfl ?_
       try dsimp only
       rw [aV 7 n rfl,aV 7 y rfl]
       exact hc
      ·intro E θ a w hD hi hp he hc
       have hf:=he.h0.mT he 5 rfl
       refine sp 1 hf rfl fun a hf=>zD θ he hi hf 18 rfl rfl rfl hc
      ·intro E θ a w hD hi hp he hc
       have hf:=he.h0.mT he 4 rfl
       refine zN hf hc rE m1 rfl fun a w hf hc=>zD θ he hi hf 19 rfl rfl rfl hc
      ·intro E θ a w hD hi hp he hc
       have e0:=hp.o 0 rfl
       have hf:=he.h0.mP he 10 rfl e0
       refine sp 1 hf rfl fun a hf=>zD θ he hi hf 20 rfl rfl rfl hc
      ·intro E θ a w hD hi hp he hc
       have e3:=hp.o 3 rfl
       have t:=hp.o 10 rfl
       have hf:=(he.h0.mP he 13 rfl e3).mP he 20 rfl t
       refine zP hf rfl (Pu.cast (kK Tryz.underlying119 eQ rfl rfl (aT aj).1 (aT aj).2) (congrArg (fun k=>Value.pointer (some ⟨b_,k,none⟩)) (jW (M:=13) (2) aa aj rfl))) fun a hf=>zD θ he hi hf 21 rfl rfl rfl hc
      ·intro E θ a w hD hi hp he hc
       have e8:=hp.o 8 rfl
       have af:=hp.o 11 rfl
       have y:=hD.f 4 rfl hi
       try dsimp only at hc
       rw [hi,y] at hc
       have hf:=(he.h0.mP he 18 rfl e8).mP he 21 rfl af
       refine aEn (vs:=[i6 g]) (o':=0) (z:=g) hf hc rfl rfl rfl rfl eQ rfl (fun x=>(bA x).1) rfl (wY aa aj rfl) rfl rfl u2 fun w hc=>zG θ he hi hf rfl ?_
       try dsimp only
       rw [aX E 12,aV 12 y rfl]
       exact hc
      ·intro E θ a w hD hi hp he hc
       have e4:=hp.o 4 rfl
       have hf:=he.h0.mP he 14 rfl e4
       refine sp 1 hf rfl fun a hf=>zD θ he hi hf 22 rfl rfl rfl hc
      ·intro E θ a w hD hi hp he hc
       have e7:=hp.o 7 rfl
       have ax:=hp.o 13 rfl
       have hf:=(he.h0.mP he 17 rfl e7).mP he 22 rfl ax
       refine zP hf rfl (Pu.cast (kK Tryz.underlying124 wU rfl rfl (aT ak).1 (aT ak).2) (congrArg (fun k=>Value.pointer (some ⟨b_,k,none⟩)) (aIv (m:=13) (sz:=2) (M:=13) (q:=26) (171) an ak rfl rfl))) fun a hf=>zD θ he hi hf 23 rfl rfl rfl hc
      ·intro E θ a w hD hi hp he hc
       have e9:=hp.o 9 rfl
       have b8:=hp.o 14 rfl
       have n:=hp.o 12 rfl
       try dsimp only at hc
       rw [n,hi] at hc
       have hf:=(he.h0.mP he 19 rfl e9).mP he 23 rfl b8
       refine stAr2 (vs:=[i6 xv.Line,.bool xv.Back]) (o':=0) (z:=xv) hf hc rfl rfl rfl rfl wU rfl (fun x=>(xO x).1) (fun x=>(bA x).1) rfl (wY an ak rfl) rfl rfl u2 fun w hc=>zG θ he hi hf rfl ?_
       try dsimp only
       rw [eL 15 n,aX E 15]
       exact hc
      ·intro E θ a w i he hc
       have hf:=he.h0
       have n:=i 12 rfl
       have y:=i 15 rfl
       replace hf:=hf.more he 9 rfl (onT)
       replace hf:=hf.more he 8 rfl (onT)
       replace hf:=hf.more he 7 rfl (onT)
       replace hf:=hf.more he 6 rfl (onT)
       replace hf:=hf.more he 3 rfl (onT)
       replace hf:=hf.more he 2 rfl (onT)
       replace hf:=hf.more he 1 rfl (onT)
       replace hf:=hf.more he 0 rfl (onT)
       try dsimp only at hc
       rw [n,y] at hc
       exact ⟨hf.kp rfl,hc⟩
      rintro a w ⟨hf,hc⟩
      refine ba _ _ ?_
      replace hc:=(hc.drop k1).drop k0
      exact ⟨((kU O (I * 13 + aq).toNat g),(kU U (I * 13 + ar).toNat xv)),_,(sj hF).symm,rfl,hc⟩
     ·replace hF:=mR hb hF
      clear hb
      refine yB ?_
      refine ba _ _ ?_
      replace hc:=(hc.drop k1).drop k0
      exact ⟨(O,U),_,(sj hF).symm,rfl,hc⟩
    ·rintro D_1 ⟨O,U⟩ _ a w a8 rfl hf hc
     replace hf:Has ⟨79,jA (D_1::Ds_1)⟩ a [(2,pq V),(4,pq Y),(5,pq X),(6,pq d),(23,i6 w_.Net.Marks),(24,i6 x),(30,i6 w_.Net.Marks),(31,i6 R)]:=hf.kp rfl
     replace hc:Ctx G (.box au [pq b_] 66::.box av [i6 r] 3::.box b_ (aN [i6 w_.Net.Marks,.slice D w_.Net.Lines.length H] 169 aB O (aN [] 169 aD U [])) 127::.box d [i6 R] 3::.box X [.pointer (some ⟨b_,171 + I.toNat * 26,none⟩)] 208::.box Y [.pointer (some ⟨b_,2 + I.toNat * 13,none⟩)] 207::.box V [pq b_] 66::(kV (D_1::Ds_1)++Lf)) w:=kS (C:=[.box au [pq b_] 66,.box av [i6 r] 3]) (L:=[.box b_ (aN [i6 w_.Net.Marks,.slice D w_.Net.Lines.length H] 169 aB O (aN [] 169 aD U [])) 127,.box d [i6 R] 3,.box X [.pointer (some ⟨b_,171 + I.toNat * 26,none⟩)] 208,.box Y [.pointer (some ⟨b_,2 + I.toNat * 13,none⟩)] 207,.box V [pq b_] 66]) hc
     replace hF:(fG N R O U)=some a4:=by rcases a8 with rfl | rfl <;> exact hF
     replace hc:=((((((hc.drop k3).drop k1).drop k0).pick k0).pick k3).pick k3).pick k3
     exact a9 O U (D_1::Ds_1) _ _  (hf.kp rfl) hc hF
    ·rintro D_1 ⟨O,U⟩ _ a w a8 rfl hf hc
     replace hf:Has ⟨79,jA (D_1::Ds_1)⟩ a [(2,pq V),(4,pq Y),(5,pq X),(6,pq d),(23,i6 w_.Net.Marks),(24,i6 x),(30,i6 w_.Net.Marks),(31,i6 R)]:=hf.kp rfl
     replace hc:Ctx G (.box au [pq b_] 66::.box av [i6 r] 3::.box b_ (aN [i6 w_.Net.Marks,.slice D w_.Net.Lines.length H] 169 aB O (aN [] 169 aD U [])) 127::.box d [i6 R] 3::.box X [.pointer (some ⟨b_,171 + I.toNat * 26,none⟩)] 208::.box Y [.pointer (some ⟨b_,2 + I.toNat * 13,none⟩)] 207::.box V [pq b_] 66::(kV (D_1::Ds_1)++Lf)) w:=kS (C:=[.box au [pq b_] 66,.box av [i6 r] 3]) (L:=[.box b_ (aN [i6 w_.Net.Marks,.slice D w_.Net.Lines.length H] 169 aB O (aN [] 169 aD U [])) 127,.box d [i6 R] 3,.box X [.pointer (some ⟨b_,171 + I.toNat * 26,none⟩)] 208,.box Y [.pointer (some ⟨b_,2 + I.toNat * 13,none⟩)] 207,.box V [pq b_] 66]) hc
     replace hF:(none)=some a4:=by subst a8; exact hF
     cases hF
  ·refine wp_exit ?_
   refine bI ?_
   refine bI ?_
   have he:=sj hF
   rw [← he] at a3
   refine fZ ?_
   exact bk _ _ _ a3 ⟨Ds_1,hf.kp rfl,hc⟩
 ·refine wp_exit ?_
  refine bI ?_
  refine bI ?_
  have he:=sj hF
  rw [← he] at a5
  refine fZ ?_
  exact bv _ _ _ a5 ⟨Ds,hf.kp rfl,hc⟩

def gL (N:Nat) (n:aO) (B:Int) (D:Nat→Int) (H:Nat→aE):Option (cP (Int × (Nat→Int) × (Nat→aE)) (Int × (Nat→Int) × (Nat→aE))) :=
 cond (decide (B < n.Marks))
 (Option.bind (jX N (⟨n,D,H⟩:aP) B) fun r=>
 some (.cont (W (B + 1),r.1,r.2)))
 (some (.brk (B,D,H)))
def fW (N:Nat) (n:aO) (x:Int) (B:Int) (D:Nat→Int):Option (cP (Int × (Nat→Int)) (cP (Int × (Nat→Int)) (Int × (Nat→Int) × (Nat→aE)))) :=
 cond (decide (B < n.Marks))
 (Option.bind (inR x 13) fun I=>
 Option.bind (inR B 13) fun H=>
 some (.cont (W (B + 1),(kU D (x * 13 + B).toNat 1099511627776))))
 (some (.brk (B,D)))
def gK (N:Nat) (n:aO) (x:Int) (D:Nat→Int):Option (cP (Int × (Nat→Int)) (Int × (Nat→Int) × (Nat→aE))) :=
 cond (decide (x < n.Marks))
 (Option.bind (bC (fun B=>fW N n x B.1 B.2) N (0,D)) fun H=>
 exK H (fun B=>Option.bind (inR x 13) fun un=>
 Option.bind (inR x 13) fun I=>
 some (.cont (W (x + 1),(kU B.2 (x * 13 + x).toNat 0)))) some)
 (some (.brk (x,D)))
def kY (N:Nat) (n:aO):Option (Int × (Nat→Int) × (Nat→aE)) :=
 Option.bind (bC (fun s5=>gK N n s5.1 s5.2) N (0,(fun _=>0))) fun x5=>
 exK x5 (fun s5=>Option.bind (bC (fun s8=>gL N n s8.1 s8.2.1 s8.2.2) N (0,s5.2,(fun _=>(⟨0,false⟩:aE)))) fun x8=>
 exK x8 (fun s8=>some (n.Marks,s8.2.1,s8.2.2)) some) some
theorem uD {N:Nat} {G:aU} {Lf:List Ent} {w:World} (n:aO) {D:Option Addr} {B:Nat} (V:Rd G 5 D B (n.Lines.map aM)) (hc:Ctx G (Lf) w) {R:Int × (Nat→Int) × (Nat→aE)} (hF:kY N n=some R):Calls Tryz.prog 40 #[.agg #[i6 n.Marks,.slice D n.Lines.length B]] w (fun e w=>∃ (q:Nat),e=.returned (pq q)∧Ctx G (.box q (aN [i6 R.1,.slice D n.Lines.length B] 169 aB R.2.1 (aN [] 169 aD R.2.2 [])) 127::Lf) w):=by
 unfold kY at hF
 refine bU Tryz.func40 rfl Tryz.ntmps40 rfl fun a hf=>zS fun K h=>zB hf hc rfl fun Z a w hf hc=>sp 1 hf rfl fun a hf=>zT h ?_
 refine zS fun K h=>zN hf hc oN m0 rfl fun a w hf hc=>zP hf rfl (bL (cells:=(aN [i6 n.Marks,.slice D n.Lines.length B] 169 aB (fun _=>0) (aN [] 169 aD (fun _=>(⟨0,false⟩:aE)) []))) aNv rfl rfl) fun a hf=>stBx (cs:=(aN [i6 n.Marks,.slice D n.Lines.length B] 169 aB (fun _=>0) (aN [] 169 aD (fun _=>(⟨0,false⟩:aE)) []))) hf hc rfl rfl rfl rfl fun H a w hf hc=>sp 1 hf rfl fun a hf=>zT h ?_
 refine wp_seq_k fun K3 h3=>zS fun K h=>zP hf rfl (pFA gW rfl) fun a hf=>zL hf hc aY m1 rfl fun a w hf hc=>sp 1 hf rfl fun a hf=>zT h ?_
 refine wp_block ?_
 obtain ⟨x5,y,hF⟩:=aA hF
 let S5:(Int × (Nat→Int))→Act→World→Prop:=(fun (zz:Int × (Nat→Int)) a w=>Has 46 a [(1,pq Z),(3,pq H),(11,i6 n.Marks),(12,i6 zz.1)]∧Ctx G (.box H (aN [i6 n.Marks,.slice D n.Lines.length B] 169 aB zz.2 (aN [] 169 aD (fun _=>(⟨0,false⟩:aE)) [])) 127::.box Z [i6 n.Marks,.slice D n.Lines.length B] 25::Lf) w)
 have ac:∀ (zz:Int × (Nat→Int)) a w,x5=.go zz→S5 zz a w→K3 a w:=by
  rintro ⟨x,d⟩ a w rfl ⟨hf,hc⟩
  replace hF:=cI hF
  refine h3 _ _ ?_
  refine wp_seq_k fun K6 h6=>zS fun K h=>zP hf rfl (pFA gW rfl) fun a hf=>zL hf hc aY m1 rfl fun a w hf hc=>sp 1 hf rfl fun a hf=>zT h ?_
  refine wp_block ?_
  obtain ⟨x8,an,hF⟩:=aA hF
  let S8:(Int × (Nat→Int) × (Nat→aE))→Act→World→Prop:=(fun (zz:Int × (Nat→Int) × (Nat→aE)) a w=>Has 46 a [(3,pq H),(37,i6 n.Marks),(38,i6 zz.1)]∧Ctx G (.box H (aN [i6 n.Marks,.slice D n.Lines.length B] 169 aB zz.2.1 (aN [] 169 aD zz.2.2 [])) 127::Lf) w)
  have am:∀ (zz:Int × (Nat→Int) × (Nat→aE)) a w,x8=.go zz→S8 zz a w→K6 a w:=by
   rintro ⟨j,p,o⟩ a w rfl ⟨hf,hc⟩
   replace hF:=cI hF
   refine h6 _ _ ?_
   refine zS fun K h=>sp 2 hf rfl fun a hf=>zT h ?_
   refine wp_ret ?_
   obtain rfl:=sj hF
   exact zO1 Tryz.results40 hf rfl ⟨H,rfl,hc⟩
  have a0:∀ r,x8=.out r→r=R:=by
   rintro r rfl
   exact sj hF
  replace hc:=hc.drop k1
  refine eR N (eO (S:=S8) (x:=x8) ?_ N (0,d,(fun _=>(⟨0,false⟩:aE))) _ _ ⟨hf.kp rfl,hc⟩ an)
  clear hF hf hc
  rintro ⟨j,p,o⟩ az a w KB8 ⟨hf,hc⟩ hF Y ad
  unfold gL at hF
  refine zS fun K h=>sp 1 hf rfl fun a hf=>zT h ?_
  refine wp_seq_k fun K11 ag=>zI hf rfl hF ?_ ?_ <;> clear hF <;> intro hF
  ·refine wp_skip ?_
   refine ag _ _ ?_
   refine wp_seq_k fun K12 aj=>wp_block ?_
   refine zS fun K h=>sp 2 hf rfl fun a hf=>zT h ?_
   refine eB ?_
   refine sp 2 hf rfl fun a hf=>?_
   obtain ⟨r,hr,hF⟩:=aA hF
   refine zC hf en_80 rfl (vM (⟨n,p,o⟩:aP) j V (hc.pick k0) hr) ?_
   rintro _ w ⟨rfl,hc⟩
   refine ⟨_,rfl,fun a hf=>?_⟩
   refine aS ?_
   refine aj _ _ ?_
   refine eB ?_
   refine sp 2 hf rfl fun a hf=>aS ?_
   exact ad (W (j + 1),r.1,r.2) _ _ (sj hF).symm ⟨hf.kp rfl,hc⟩
  ·refine wp_exit ?_
   refine bI ?_
   refine bI ?_
   have he:=sj hF
   rw [← he] at Y
   refine fZ ?_
   exact am _ _ _ Y ⟨hf.kp rfl,hc⟩
 have ay:∀ r,x5=.out r→r=R:=by
  rintro r rfl
  exact sj hF
 refine eR N (eO (S:=S5) (x:=x5) ?_ N (0,(fun _=>0)) _ _ ⟨hf.kp rfl,hc⟩ y)
 clear hF hf hc
 rintro ⟨x,d⟩ ab a w KB5 ⟨hf,hc⟩ hF X v
 unfold gK at hF
 refine zS fun K h=>sp 1 hf rfl fun a hf=>zT h ?_
 refine wp_seq_k fun K15 ai=>zI hf rfl hF ?_ ?_ <;> clear hF <;> intro hF
 ·refine wp_skip ?_
  refine ai _ _ ?_
  refine wp_seq_k fun K16 af=>wp_block ?_
  refine zS fun K h=>sp 2 hf rfl fun a hf=>zT h ?_
  refine wp_seq_k fun K18 ak=>zS fun K h=>zP hf rfl (pFA gW rfl) fun a hf=>zL hf hc aY m1 rfl fun a w hf hc=>sp 1 hf rfl fun a hf=>zT h ?_
  refine wp_block ?_
  obtain ⟨g,s,hF⟩:=aA hF
  let S20:(Int × (Nat→Int))→Act→World→Prop:=(fun (zz:Int × (Nat→Int)) a w=>Has 46 a [(1,pq Z),(3,pq H),(4,i6 x),(11,i6 n.Marks),(12,i6 x),(16,i6 n.Marks),(17,i6 zz.1)]∧Ctx G (.box H (aN [i6 n.Marks,.slice D n.Lines.length B] 169 aB zz.2 (aN [] 169 aD (fun _=>(⟨0,false⟩:aE)) [])) 127::.box Z [i6 n.Marks,.slice D n.Lines.length B] 25::Lf) w)
  have u:∀ (zz:Int × (Nat→Int)) a w,g=.go zz→S20 zz a w→K18 a w:=by
   rintro ⟨m,i⟩ a w rfl ⟨hf,hc⟩
   replace hF:=cI hF
   refine ak _ _ ?_
   refine eB ?_
   refine sp 4 hf rfl fun a hf=>zP hf rfl (pFA lY rfl) fun a hf=>?_
   obtain ⟨un,b,hF⟩:=aA hF
   refine zP hf rfl (kK Tryz.underlying121 qW rfl rfl (aT b).1 (aT b).2) fun a hf=>?_
   obtain ⟨av,O,hF⟩:=aA hF
   refine zP hf rfl (Pu.cast (kK Tryz.underlying119 eQ rfl rfl (aT O).1 (aT O).2) (congrArg (fun k=>Value.pointer (some ⟨H,k,none⟩)) (jW (M:=13) (2) b O rfl))) fun a hf=>aEn (vs:=[i6 0]) (o':=0) (z:=0) hf hc rfl rfl rfl rfl eQ rfl (fun x=>(bA x).1) rfl (wY b O rfl) rfl rfl u0 fun w hc=>aS ?_
   refine af _ _ ?_
   refine eB ?_
   refine sp 2 hf rfl fun a hf=>aS ?_
   exact v (W (x + 1),(kU i (x * 13 + x).toNat 0)) _ _ (sj hF).symm ⟨hf.kp rfl,hc⟩
  have ar:∀ r,g=.out r→r=ab:=by
   rintro r rfl
   exact sj hF
  refine eR N (eO (S:=S20) (x:=g) ?_ N (0,d) _ _ ⟨hf.kp rfl,hc⟩ s)
  clear hF hf hc
  rintro ⟨m,i⟩ au a w KB20 ⟨hf,hc⟩ hF U t
  unfold fW at hF
  refine zS fun K h=>sp 1 hf rfl fun a hf=>zT h ?_
  refine wp_seq_k fun K22 aa=>zI hf rfl hF ?_ ?_ <;> clear hF <;> intro hF
  ·refine wp_skip ?_
   refine aa _ _ ?_
   refine wp_seq_k fun K23 ap=>wp_block ?_
   refine zS fun K h=>sp 2 hf rfl fun a hf=>zT h ?_
   refine eB ?_
   refine sp 4 hf rfl fun a hf=>zP hf rfl (pFA lY rfl) fun a hf=>?_
   obtain ⟨aq,J,hF⟩:=aA hF
   refine zP hf rfl (kK Tryz.underlying121 qW rfl rfl (aT J).1 (aT J).2) fun a hf=>?_
   obtain ⟨ax,I,hF⟩:=aA hF
   refine zP hf rfl (Pu.cast (kK Tryz.underlying119 eQ rfl rfl (aT I).1 (aT I).2) (congrArg (fun k=>Value.pointer (some ⟨H,k,none⟩)) (jW (M:=13) (2) J I rfl))) fun a hf=>aEn (vs:=[i6 1099511627776]) (o':=0) (z:=1099511627776) hf hc rfl rfl rfl rfl eQ rfl (fun x=>(bA x).1) rfl (wY J I rfl) rfl rfl u0 fun w hc=>aS ?_
   refine ap _ _ ?_
   refine eB ?_
   refine sp 2 hf rfl fun a hf=>aS ?_
   exact t (W (m + 1),(kU i (x * 13 + m).toNat 1099511627776)) _ _ (sj hF).symm ⟨hf.kp rfl,hc⟩
  ·refine wp_exit ?_
   refine bI ?_
   refine bI ?_
   have he:=sj hF
   rw [← he] at U
   refine fZ ?_
   exact u _ _ _ U ⟨hf.kp rfl,hc⟩
 ·refine wp_exit ?_
  refine bI ?_
  refine bI ?_
  have he:=sj hF
  rw [← he] at X
  refine fZ ?_
  exact ac _ _ _ X ⟨hf.kp rfl,hc⟩

def kX (N:Nat) (n:aO):Option ((Int) ⊕ (Int × (Nat→Int) × (Nat→aE) × Int)) :=
 Option.bind (nN N n) fun r=>
 cond (r != 0)
 (some (.inl r))
 (Option.bind (kY N n) fun B=>
 some (.inr (B.1,B.2.1,B.2.2,0)))
theorem jS {N:Nat} {G:aU} {Lf:List Ent} {w:World} (n:aO) {D:Option Addr} {B:Nat} (H:Rd G 5 D B (n.Lines.map aM)) (hc:Ctx G (Lf) w) {I:(Int) ⊕ (Int × (Nat→Int) × (Nat→aE) × Int)} (hF:kX N n=some I):Calls Tryz.prog 17 #[.agg #[i6 n.Marks,.slice D n.Lines.length B]] w (fun e w=>vF (fun rr=>e=.returned (.tuple #[.pointer none,i6 rr])∧Ctx G (Lf) w) (fun rr=>∃ (J:Nat),e=.returned (.tuple #[pq J,i6 rr.2.2.2])∧Ctx G (.box J (aN [i6 rr.1,.slice D n.Lines.length B] 169 aB rr.2.1 (aN [] 169 aD rr.2.2.1 [])) 127::Lf) w) I):=by
 unfold kX at hF
 refine bU Tryz.func17 rfl Tryz.ntmps17 rfl fun a hf=>zS fun K h=>zB hf hc rfl fun S a w hf hc=>sp 2 hf rfl fun a hf=>zT h ?_
 refine wp_seq_k fun K2 h2=>zS fun K h=>zN hf hc oN m0 rfl fun a w hf hc=>?_
 obtain ⟨r,hr,hF⟩:=aA hF
 refine zQ (v:=i6 r) hf hc aMw rfl (fun w hc=>uO n H hc hr) fun a w hf hc=>sp 1 hf rfl fun a hf=>zT h ?_
 refine zS fun K h=>sp 2 hf rfl fun a hf=>zT h ?_
 refine zI hf rfl hF ?_ ?_ <;> clear hF <;> intro hF
 ·refine zS fun K h=>sp 3 hf rfl fun a hf=>zT h ?_
  refine wp_ret ?_
  refine aQ ?_
  obtain rfl:=sj hF
  replace hc:=hc.drop k0
  exact zO2 Tryz.results17 hf rfl rfl ⟨rfl,hc⟩
 ·refine wp_skip ?_
  refine h2 _ _ ?_
  refine zS fun K h=>zN hf hc oN m0 rfl fun a w hf hc=>?_
  obtain ⟨R,M,hF⟩:=aA hF
  refine zC hf aMk rfl (uD n H hc M) ?_
  rintro _ w ⟨O,rfl,hc⟩
  refine ⟨_,rfl,fun a hf=>?_⟩
  refine sp 2 hf rfl fun a hf=>zT h ?_
  refine wp_ret ?_
  obtain rfl:=sj hF
  replace hc:=hc.drop k1
  exact zO2 Tryz.results17 hf rfl rfl ⟨O,rfl,hc⟩

def eJ (N:Nat) (w_:aP) (x:Int) (xv:aE) (B:Int):Option (cP (Int) (Rs (Bool))) :=
 cond (decide (B < w_.Net.Marks))
 (Option.bind (Option.bind (inR B 13) fun un=>
 Option.bind (inR x 13) fun I=>
 cond (decide ((w_.can (B * 13 + x).toNat) < 1099511627776))
 (Option.bind (gB N w_ xv) fun H=>
 Option.bind (eP N w_ xv) fun D=>
 Option.bind (inR D 13) fun J=>
 some (decide ((W ((w_.can (B * 13 + x).toNat) + H)) < (w_.can (B * 13 + D).toNat))))
 (some false)) fun rg=>
 cond rg
 (some (.ret (.ret true)))
 (some (.cont (W (B + 1)))))
 (some (.brk B))
def bP (N:Nat) (w_:aP) (x:Int) (D:Bool) (xv:aE):Option (Rs (Bool)) :=
 Option.bind (bC (fun B=>eJ N w_ x xv B) N 0) fun H=>
 exK H (fun B=>some (.go D)) some
def dE (N:Nat) (w_:aP) (x:Int) (D:Bool):Option (cP (Int × Bool) (Bool)) :=
 cond (decide (x < w_.Net.Marks))
 (Option.bind (eM N w_ x) fun r=>
 Option.bind (cA N w_.Net.Marks w_.Net.Lines r (rY (fun (zz:Bool) (H:aE)=>bP N w_ x zz H)) (.go D)) fun I=>
 rsK I (fun B=>Option.bind (inR x 13) fun J=>
 Option.bind (inR x 13) fun M=>
 cond (decide ((w_.can (x * 13 + x).toNat) < 0))
 (some (.ret true))
 (some (.cont (W (x + 1),B)))) (fun B=>some (.ret B)))
 (some (.brk (x,D)))
def cD (N:Nat) (w_:aP):Option (Bool) :=
 Option.bind (bC (fun s4=>dE N w_ s4.1 s4.2) N (0,false)) fun x4=>
 exK x4 (fun s4=>some false) some
theorem jZ {N:Nat} {G:aU} {Lf:List Ent} {w:World} (w_:aP) {b_:Nat} {H:Option Addr} {D:Nat} (Y:Rd G 5 H D (w_.Net.Lines.map aM)) (hc:Ctx G (.box b_ (aN [i6 w_.Net.Marks,.slice H w_.Net.Lines.length D] 169 aB w_.can (aN [] 169 aD w_.by_ [])) 127::Lf) w) {a8:Bool} (hF:cD N w_=some a8):Calls Tryz.prog 18 #[pq b_] w (fun e w=>e=.returned (.bool a8)∧Ctx G (.box b_ (aN [i6 w_.Net.Marks,.slice H w_.Net.Lines.length D] 169 aB w_.can (aN [] 169 aD w_.by_ [])) 127::Lf) w):=by
 unfold cD at hF
 refine xK Tryz.func18 rfl Tryz.ntmps18 rfl fun a hf=>zS fun K h=>zB hf hc rfl fun U a w hf hc=>zA hf hc zr_4 rfl fun R a w hf hc=>zT h ?_
 refine wp_seq_k fun K2 h2=>zS fun K h=>zL hf hc lP m1 rfl fun a w hf hc=>sp 1 hf rfl fun a hf=>zP hf rfl (pFA nY rfl) fun a hf=>zP hf rfl (pFA gW rfl) fun a hf=>zL hf hc aY m2 rfl fun a w hf hc=>sp 1 hf rfl fun a hf=>zT h ?_
 refine wp_block ?_
 obtain ⟨x4,b3,hF⟩:=aA hF
 let S4:(Int × Bool)→Act→World→Prop:=(fun (zz:Int × Bool) a w=>∃ (Ds:List Nat),Has ⟨71,jA Ds⟩ a [(1,pq U),(2,pq R),(10,i6 w_.Net.Marks),(11,i6 zz.1)]∧Ctx G (.box R [.bool zz.2] 4::.box U [pq b_] 66::.box b_ (aN [i6 w_.Net.Marks,.slice H w_.Net.Lines.length D] 169 aB w_.can (aN [] 169 aD w_.by_ [])) 127::(kV Ds++Lf)) w)
 have bz:∀ (zz:Int × Bool) a w,x4=.go zz→S4 zz a w→K2 a w:=by
  rintro ⟨x,a4⟩ a w rfl ⟨Ds,hf,hc⟩
  replace hF:=cI hF
  refine h2 _ _ ?_
  refine zS fun K h=>zW hf hc sz_4 u0 rfl fun w hc=>zT h ?_
  refine wp_ret ?_
  obtain rfl:=sj hF
  replace hc:=((hc.drop k1).pick k0).pick k1
  refine wV hf ?_
  refine uC [.box b_ (aN [i6 w_.Net.Marks,.slice H w_.Net.Lines.length D] 169 aB w_.can (aN [] 169 aD w_.by_ [])) 127,.box R [.bool false] 4] Ds hc fun w hc=>?_
  replace hc:Ctx G (.box b_ (aN [i6 w_.Net.Marks,.slice H w_.Net.Lines.length D] 169 aB w_.can (aN [] 169 aD w_.by_ [])) 127::.box R [.bool false] 4::Lf) w:=hc
  exact aDg Tryz.results18 hf hc (aCn wC rfl (bO m1 rfl)) ⟨rfl,(hc.drop k1)⟩
 have ba:∀ r,x4=.out r→r=a8:=by
  rintro r rfl
  exact sj hF
 replace hf:=aHy hf
 replace hc:Ctx G (.box R [.bool false] 4::.box U [pq b_] 66::.box b_ (aN [i6 w_.Net.Marks,.slice H w_.Net.Lines.length D] 169 aB w_.can (aN [] 169 aD w_.by_ [])) 127::(kV []++Lf)) w:=hc
 refine eR N (eO (S:=S4) (x:=x4) ?_ N (0,false) _ _ ⟨[],hf.kp rfl,hc⟩ b3)
 clear hF hf hc
 rintro ⟨x,a4⟩ bb a w KB4 ⟨Ds,hf,hc⟩ hF m b1
 unfold dE at hF
 refine zS fun K h=>sp 1 hf rfl fun a hf=>zT h ?_
 refine wp_seq_k fun K7 h7=>zI hf rfl hF ?_ ?_ <;> clear hF <;> intro hF
 ·refine wp_skip ?_
  refine h7 _ _ ?_
  refine wp_seq_k fun K8 h8=>wp_block ?_
  refine zS fun K h=>sp 1 hf rfl fun a hf=>zA hf hc aJu rfl fun V a w hf hc=>zW hf hc eQ u0 rfl fun w hc=>zT h ?_
  refine wp_seq_k fun K10 b6=>zS fun K h=>zL hf hc lP m2 rfl fun a w hf hc=>zL hf hc aY m0 rfl fun a w hf hc=>?_
  obtain ⟨r,hr,hF⟩:=aA hF
  refine zC hf aJ3 rfl (lU w_ x Y (hc.pick k3) hr) ?_
  rintro _ w ⟨a2,a1,rfl,hc⟩
  refine ⟨_,rfl,fun a hf=>?_⟩
  refine zT h ?_
  obtain ⟨b2,bk,hF⟩:=aA hF
  refine aEf (C:=[.box a2 [pq b_] 66,.box a1 [i6 r] 3]) (C2:=[.box a2 [pq b_] 66,.box a1 [i6 r] 3]) (L0:=[.box b_ (aN [i6 w_.Net.Marks,.slice H w_.Net.Lines.length D] 169 aB w_.can (aN [] 169 aD w_.by_ [])) 127,.box V [i6 x] 3,.box R [.bool a4] 4,.box U [pq b_] 66]) (Lf:=(kV Ds++Lf)) (encs:=fun x:aE=>[.agg #[i6 x.Line,.bool x.Back]]) (fun (zz:Bool) L=>L=[.box b_ (aN [i6 w_.Net.Marks,.slice H w_.Net.Lines.length D] 169 aB w_.can (aN [] 169 aD w_.by_ [])) 127,.box V [i6 x] 3,.box R [.bool zz] 4,.box U [pq b_] 66]) (fun (zz:Bool) (bx:aE)=>bP N w_ x zz bx) a4 b2 hf hc rfl aJm (fun _=>rfl) rfl rfl ?_ ?_ ?_ ?_
  ·intro lq mq J L Lx w hy hQ hJ hc
   have bf:∀ (zz:Bool) (M:List Ent),(fun (zz:Bool) L=>L=[.box b_ (aN [i6 w_.Net.Marks,.slice H w_.Net.Lines.length D] 169 aB w_.can (aN [] 169 aD w_.by_ [])) 127,.box V [i6 x] 3,.box R [.bool zz] 4,.box U [pq b_] 66]) zz M→∃ A B,∃ xx:(Nat→Int) × (Nat→aE),M=A++(.box b_ (aN [i6 w_.Net.Marks,.slice H w_.Net.Lines.length D] 169 aB xx.1 (aN [] 169 aD xx.2 [])) 127::B):=by
    rintro X _ ⟨rfl⟩
    exact ⟨[],_,(w_.can,w_.by_),rfl⟩
   exact lD w_.Net.Marks w_.Net.Lines r Y J _ hy _ hJ (hQ _ (fun xx:(Nat→Int) × (Nat→aE)=>.box b_ (aN [i6 w_.Net.Marks,.slice H w_.Net.Lines.length D] 169 aB xx.1 (aN [] 169 aD xx.2 [])) 127) bf) hc bk
  ·clear hF hf hc
   rintro lq mq X xv oq _ Lr Lb a w cb rfl hF hf hc hK
   replace hf:Has 71 a [(1,pq U),(2,pq R),(3,pq V),(10,i6 w_.Net.Marks),(11,i6 x),(17,.agg #[i6 xv.Line,.bool xv.Back])]:=hf.kp rfl
   replace hc:Ctx G (.box b_ (aN [i6 w_.Net.Marks,.slice H w_.Net.Lines.length D] 169 aB w_.can (aN [] 169 aD w_.by_ [])) 127::.box V [i6 x] 3::.box R [.bool X] 4::.box U [pq b_] 66::Lr) w:=hc
   replace hF:bP N w_ x X xv=some oq:=hF
   unfold bP at hF
   refine mU (fun _ _ h=>h) rfl ?_
   refine zA hf hc aEj rfl fun g a w hf hc=>zW hf hc wU u0 rfl fun w hc=>aS ?_
   refine hK _ _ [.box g [i6 xv.Line,.bool xv.Back] 123,.box b_ (aN [i6 w_.Net.Marks,.slice H w_.Net.Lines.length D] 169 aB w_.can (aN [] 169 aD w_.by_ [])) 127,.box V [i6 x] 3,.box R [.bool X] 4,.box U [pq b_] 66] hc fun w hc=>?_
   replace hc:Ctx G (.box g [i6 xv.Line,.bool xv.Back] 123::.box b_ (aN [i6 w_.Net.Marks,.slice H w_.Net.Lines.length D] 169 aB w_.can (aN [] 169 aD w_.by_ [])) 127::.box V [i6 x] 3::.box R [.bool X] 4::.box U [pq b_] 66::Lb) w:=hc
   refine rK fun K13 bq=>pW ?_
   refine qA fun K14 bt=>mU (fun _ _ h=>h) rfl ?_
   refine zL hf hc lP m4 rfl fun a w hf hc=>sp 1 hf rfl fun a hf=>zP hf rfl (pFA nY rfl) fun a hf=>zP hf rfl (pFA gW rfl) fun a hf=>zL hf hc aY m1 rfl fun a w hf hc=>sp 1 hf rfl fun a hf=>aS ?_
   refine bt _ _ ?_
   refine rK fun K15 br=>pW ?_
   obtain ⟨a7,bm,hF⟩:=aA hF
   let S16:Int→Act→World→Prop:=(fun (zz:Int) a w=>Has 71 a [(1,pq U),(2,pq R),(3,pq V),(4,pq g),(10,i6 w_.Net.Marks),(11,i6 x),(22,i6 w_.Net.Marks),(23,i6 zz)]∧Ctx G (.box g [i6 xv.Line,.bool xv.Back] 123::.box b_ (aN [i6 w_.Net.Marks,.slice H w_.Net.Lines.length D] 169 aB w_.can (aN [] 169 aD w_.by_ [])) 127::.box V [i6 x] 3::.box R [.bool X] 4::.box U [pq b_] 66::Lb) w)
   have bc:∀ (zz:Int) a w,a7=.go zz→S16 zz a w→K15 a w:=by
    rintro O a w rfl ⟨hf,hc⟩
    replace hF:=cI hF
    refine br _ _ ?_
    refine bq _ _ ?_
    replace hc:=hc.drop k0
    exact ⟨X,_,(sj hF).symm,rfl,hc⟩
   have bi:∀ r,a7=.out r→r=oq:=by
    rintro r rfl
    exact sj hF
   refine rLoop N (aMg (S:=S16) (x:=a7) ?_ N 0 _ _ ⟨hf.kp rfl,hc⟩ bm)
   clear hF hf hc
   rintro O b8 a w KB16 ⟨hf,hc⟩ hF n bp
   unfold eJ at hF
   refine qA fun K17 b5=>mU (fun _ _ h=>h) rfl ?_
   refine sp 1 hf rfl fun a hf=>aS ?_
   refine b5 _ _ ?_
   refine qA fun K18 bs=>xR (b:=(decide (O < w_.Net.Marks))) hf rfl (fun hb=>?_) (fun hb=>?_)
   ·replace hF:=mN hb hF
    clear hb
    refine yB ?_
    refine bs _ _ ?_
    refine qA fun K19 b7=>pW ?_
    refine qA fun K20 b4=>mU (fun _ _ h=>h) rfl ?_
    refine sp 2 hf rfl fun a hf=>aS ?_
    refine b4 _ _ ?_
    refine qA fun K21 bu=>?_
    obtain ⟨rg,a9,hF⟩:=aA hF
    refine rCut (fun a w=>Has 71 a [(1,pq U),(2,pq R),(3,pq V),(4,pq g),(10,i6 w_.Net.Marks),(11,i6 x),(22,i6 w_.Net.Marks),(23,i6 O),(59,.bool rg)]∧Ctx G (.box g [i6 xv.Line,.bool xv.Back] 123::.box b_ (aN [i6 w_.Net.Marks,.slice H w_.Net.Lines.length D] 169 aB w_.can (aN [] 169 aD w_.by_ [])) 127::.box V [i6 x] 3::.box R [.bool X] 4::.box U [pq b_] 66::Lb) w) ?_ ?_
    ·clear hF
     have hF:=a9
     clear a9
     obtain ⟨un,d,hF⟩:=aA hF
     obtain ⟨b9,Z,hF⟩:=aA hF
     cases hb:(decide ((w_.can (O * 13 + x).toNat) < 1099511627776))
     ·replace hF:=mR hb hF
      try rw [hb] at hf
      try rw [hb] at hc
      have a5:=hb
      clear hb
      refine tZ (fun _ _ h=>h) rfl (fun θ=>(⟨none,none,1,pq U⟩::⟨none,none,2,pq R⟩::⟨none,none,3,pq V⟩::⟨none,none,4,pq g⟩::⟨none,none,5,i6 O⟩::⟨none,none,10,i6 w_.Net.Marks⟩::⟨none,none,11,i6 x⟩::⟨none,none,22,i6 w_.Net.Marks⟩::⟨none,none,23,i6 O⟩::⟨some 0,none,26,pq b_⟩::⟨some 1,none,27,i6 O⟩::⟨some 2,none,28,i6 x⟩::⟨some 3,none,29,pq b_⟩::⟨some 4,none,30,.pointer (some ⟨b_,2,none⟩)⟩::⟨some 5,none,31,.pointer (some ⟨b_,2 + O.toNat * 13,none⟩)⟩::⟨some 6,none,32,.pointer (some ⟨b_,2 + (O * 13 + x).toNat * 1,none⟩)⟩::⟨some 7,none,33,i6 (w_.can (O * 13 + x).toNat)⟩::⟨some 8,none,34,.bool false⟩::⟨some 9,none,35,.bool false⟩::⟨some 10,none,36,undef⟩::⟨some 11,none,37,undef⟩::⟨some 12,none,38,undef⟩::⟨some 13,none,39,undef⟩::⟨some 14,none,40,undef⟩::⟨some 15,none,41,undef⟩::⟨some 16,none,42,undef⟩::⟨some 17,none,43,undef⟩::⟨some 18,none,44,undef⟩::⟨some 19,none,45,undef⟩::⟨some 20,none,46,undef⟩::⟨some 21,none,47,undef⟩::⟨some 22,none,48,undef⟩::⟨some 23,none,49,undef⟩::⟨some 24,none,50,undef⟩::⟨some 25,none,51,undef⟩::⟨some 26,none,52,undef⟩::⟨some 27,none,53,undef⟩::⟨some 28,none,54,undef⟩::⟨some 29,none,55,undef⟩::⟨some 30,none,56,undef⟩::⟨some 31,none,57,undef⟩::⟨some 32,none,58,undef⟩::⟨some 33,none,59,.bool false⟩::[])) (fun E θ=>.box g [i6 xv.Line,.bool xv.Back] 123::.box b_ (aN [i6 w_.Net.Marks,.slice H w_.Net.Lines.length D] 169 aB w_.can (aN [] 169 aD w_.by_ [])) 127::.box V [i6 x] 3::.box R [.bool X] 4::.box U [pq b_] 66::Lb) [] (fun a w=>Has 71 a ((1,pq U)::(2,pq R)::(3,pq V)::(4,pq g)::(10,i6 w_.Net.Marks)::(11,i6 x)::(22,i6 w_.Net.Marks)::(23,i6 O)::(36,undef)::(37,undef)::(38,undef)::(39,undef)::(40,undef)::(41,undef)::(42,undef)::(43,undef)::(44,undef)::(45,undef)::(46,undef)::(47,undef)::(48,undef)::(49,undef)::(50,undef)::(51,undef)::(52,undef)::(53,undef)::(54,undef)::(55,undef)::(56,undef)::(57,undef)::(58,undef)::(59,.bool false)::[])∧Ctx G (.box g [i6 xv.Line,.bool xv.Back] 123::.box b_ (aN [i6 w_.Net.Marks,.slice H w_.Net.Lines.length D] 169 aB w_.can (aN [] 169 aD w_.by_ [])) 127::.box V [i6 x] 3::.box R [.bool X] 4::.box U [pq b_] 66::Lb) w) aW (by kernel_rfl) (by kernel_rfl) (eV.of hf ⟨rfl,rfl,rfl,rfl,rfl,rfl,rfl,rfl,rfl,trivial,trivial,trivial,trivial,trivial,trivial,trivial,trivial,trivial,trivial,trivial,trivial,trivial,trivial,trivial,trivial,trivial,trivial,trivial,trivial,trivial,trivial,trivial,trivial,trivial,trivial,trivial,trivial,trivial,trivial,trivial,trivial,trivial,trivial,trivial⟩) hc ⟨?_,?_,?_,?_,?_,?_,?_,?_,?_,?_,?_,?_,?_,?_,?_,?_,?_,?_,?_,?_,?_,?_,?_,?_,?_,?_,?_,?_,?_,?_,?_,?_,?_,?_,trivial⟩ ?_ ?_
      ·intro E θ a w hD hi hp he hc
       have hf:=he.h0.mT he 0 rfl
       refine zL hf hc lP m4 rfl fun a w hf hc=>zD θ he hi hf 9 rfl rfl rfl hc
      ·intro E θ a w hD hi hp he hc
       have hf:=he.h0.mT he 4 rfl
       refine sp 1 hf rfl fun a hf=>zD θ he hi hf 10 rfl rfl rfl hc
      ·intro E θ a w hD hi hp he hc
       have hf:=he.h0.mT he 2 rfl
       refine zL hf hc aY m2 rfl fun a w hf hc=>zD θ he hi hf 11 rfl rfl rfl hc
      ·intro E θ a w hD hi hp he hc
       have e0:=hp.o 0 rfl
       have hf:=he.h0.mP he 9 rfl e0
       refine sp 1 hf rfl fun a hf=>zD θ he hi hf 12 rfl rfl rfl hc
      ·intro E θ a w hD hi hp he hc
       have e3:=hp.o 3 rfl
       have hf:=he.h0.mP he 12 rfl e3
       refine zP hf rfl (pFA lY rfl) fun a hf=>zD θ he hi hf 13 rfl rfl rfl hc
      ·intro E θ a w hD hi hp he hc
       have e1:=hp.o 1 rfl
       have e4:=hp.o 4 rfl
       have hf:=(he.h0.mP he 10 rfl e1).mP he 13 rfl e4
       refine zP hf rfl (kK Tryz.underlying121 qW rfl rfl (aT d).1 (aT d).2) fun a hf=>zD θ he hi hf 14 rfl rfl rfl hc
      ·intro E θ a w hD hi hp he hc
       have e2:=hp.o 2 rfl
       have e5:=hp.o 5 rfl
       have hf:=(he.h0.mP he 11 rfl e2).mP he 14 rfl e5
       refine zP hf rfl (Pu.cast (kK Tryz.underlying119 eQ rfl rfl (aT Z).1 (aT Z).2) (congrArg (fun k=>Value.pointer (some ⟨b_,k,none⟩)) (jW (M:=13) (2) d Z rfl))) fun a hf=>zD θ he hi hf 15 rfl rfl rfl hc
      ·intro E θ a w hD hi hp he hc
       have e6:=hp.o 6 rfl
       have hf:=he.h0.mP he 15 rfl e6
       refine zE hf hc rfl (cN aY rfl (gF (j:=0) m1 (fun x=>(bA x).1) rfl (wY d Z rfl) rfl)) fun a w hf hc=>zD θ he hi hf 16 rfl rfl rfl hc
      ·intro E θ a w hD hi hp he hc
       have e7:=hp.o 7 rfl
       have hf:=he.h0.mP he 16 rfl e7
       refine sp 1 hf rfl fun a hf=>?_
       rw [a5] at hf
       exact zD θ he hi hf 17 rfl rfl rfl hc
      ·intro E θ a w hD hi hp he hc
       have e8:=hp.o 8 rfl
       have hf:=he.h0.mP he 17 rfl e8
       refine sp 1 hf rfl fun a hf=>zD θ he hi hf 18 rfl rfl rfl hc
      ·intro E θ a w hD hi hp he hc
       have e9:=hp.o 9 rfl
       have hf:=(he.h0.mT he 0 rfl).mP he 18 rfl e9
       refine stS hf rfl rfl rfl fun a hf=>zD θ he hi hf 19 rfl rfl rfl hc
      ·intro E θ a w hD hi hp he hc
       have e9:=hp.o 9 rfl
       have hf:=(he.h0.mT he 4 rfl).mP he 18 rfl e9
       refine stS hf rfl rfl rfl fun a hf=>zD θ he hi hf 20 rfl rfl rfl hc
      ·intro E θ a w hD hi hp he hc
       have e9:=hp.o 9 rfl
       have hf:=(he.h0.mT he 2 rfl).mP he 18 rfl e9
       refine stS hf rfl rfl rfl fun a hf=>zD θ he hi hf 21 rfl rfl rfl hc
      ·intro E θ a w hD hi hp he hc
       have e9:=hp.o 9 rfl
       have u:=hp.o 10 rfl
       have hf:=(he.h0.mP he 18 rfl e9).mP he 19 rfl u
       refine stS hf rfl rfl rfl fun a hf=>zD θ he hi hf 22 rfl rfl rfl hc
      ·intro E θ a w hD hi hp he hc
       have e9:=hp.o 9 rfl
       have af:=hp.o 13 rfl
       have hf:=(he.h0.mP he 18 rfl e9).mP he 22 rfl af
       refine stS hf rfl rfl rfl fun a hf=>zD θ he hi hf 23 rfl rfl rfl hc
      ·intro E θ a w hD hi hp he hc
       have e9:=hp.o 9 rfl
       have ab:=hp.o 11 rfl
       have ay:=hp.o 14 rfl
       have hf:=((he.h0.mP he 18 rfl e9).mP he 20 rfl ab).mP he 23 rfl ay
       refine stS hf rfl rfl rfl fun a hf=>zD θ he hi hf 24 rfl rfl rfl hc
      ·intro E θ a w hD hi hp he hc
       have e9:=hp.o 9 rfl
       have am:=hp.o 12 rfl
       have aa:=hp.o 15 rfl
       have hf:=((he.h0.mP he 18 rfl e9).mP he 21 rfl am).mP he 24 rfl aa
       refine stS hf rfl rfl rfl fun a hf=>zD θ he hi hf 25 rfl rfl rfl hc
      ·intro E θ a w hD hi hp he hc
       have e9:=hp.o 9 rfl
       have an:=hp.o 16 rfl
       have hf:=(he.h0.mP he 18 rfl e9).mP he 25 rfl an
       refine stS hf rfl rfl rfl fun a hf=>zD θ he hi hf 26 rfl rfl rfl hc
      ·intro E θ a w hD hi hp he hc
       have e9:=hp.o 9 rfl
       have hf:=(he.h0.mT he 0 rfl).mP he 18 rfl e9
       refine stS hf rfl rfl rfl fun a hf=>zD θ he hi hf 27 rfl rfl rfl hc
      ·intro E θ a w hD hi hp he hc
       have e9:=hp.o 9 rfl
       have hf:=(he.h0.mT he 3 rfl).mP he 18 rfl e9
       refine stS hf rfl rfl rfl fun a hf=>zD θ he hi hf 28 rfl rfl rfl hc
      ·intro E θ a w hD hi hp he hc
       have e9:=hp.o 9 rfl
       have ap:=hp.o 18 rfl
       have ai:=hp.o 19 rfl
       have hf:=((he.h0.mP he 18 rfl e9).mP he 27 rfl ap).mP he 28 rfl ai
       refine stS hf rfl rfl rfl fun a hf=>zD θ he hi hf 29 rfl rfl rfl hc
      ·intro E θ a w hD hi hp he hc
       have e9:=hp.o 9 rfl
       have au:=hp.o 17 rfl
       have ar:=hp.o 20 rfl
       have hf:=((he.h0.mP he 18 rfl e9).mP he 26 rfl au).mP he 29 rfl ar
       refine stS hf rfl rfl rfl fun a hf=>zD θ he hi hf 30 rfl rfl rfl hc
      ·intro E θ a w hD hi hp he hc
       have e9:=hp.o 9 rfl
       have hf:=(he.h0.mT he 0 rfl).mP he 18 rfl e9
       refine stS hf rfl rfl rfl fun a hf=>zD θ he hi hf 31 rfl rfl rfl hc
      ·intro E θ a w hD hi hp he hc
       have e9:=hp.o 9 rfl
       have hf:=(he.h0.mT he 4 rfl).mP he 18 rfl e9
       refine stS hf rfl rfl rfl fun a hf=>zD θ he hi hf 32 rfl rfl rfl hc
      ·intro E θ a w hD hi hp he hc
       have e9:=hp.o 9 rfl
       have hf:=(he.h0.mT he 0 rfl).mP he 18 rfl e9
       refine stS hf rfl rfl rfl fun a hf=>zD θ he hi hf 33 rfl rfl rfl hc
      ·intro E θ a w hD hi hp he hc
       have e9:=hp.o 9 rfl
       have hf:=(he.h0.mT he 3 rfl).mP he 18 rfl e9
       refine stS hf rfl rfl rfl fun a hf=>zD θ he hi hf 34 rfl rfl rfl hc
      ·intro E θ a w hD hi hp he hc
       have e9:=hp.o 9 rfl
       have z:=hp.o 24 rfl
       have ad:=hp.o 25 rfl
       have hf:=((he.h0.mP he 18 rfl e9).mP he 33 rfl z).mP he 34 rfl ad
       refine stS hf rfl rfl rfl fun a hf=>zD θ he hi hf 35 rfl rfl rfl hc
      ·intro E θ a w hD hi hp he hc
       have e9:=hp.o 9 rfl
       have av:=hp.o 22 rfl
       have hf:=(he.h0.mP he 18 rfl e9).mP he 31 rfl av
       refine stS hf rfl rfl rfl fun a hf=>zD θ he hi hf 36 rfl rfl rfl hc
      ·intro E θ a w hD hi hp he hc
       have e9:=hp.o 9 rfl
       have y:=hp.o 27 rfl
       have hf:=(he.h0.mP he 18 rfl e9).mP he 36 rfl y
       refine stS hf rfl rfl rfl fun a hf=>zD θ he hi hf 37 rfl rfl rfl hc
      ·intro E θ a w hD hi hp he hc
       have e9:=hp.o 9 rfl
       have a0:=hp.o 23 rfl
       have ag:=hp.o 28 rfl
       have hf:=((he.h0.mP he 18 rfl e9).mP he 32 rfl a0).mP he 37 rfl ag
       refine stS hf rfl rfl rfl fun a hf=>zD θ he hi hf 38 rfl rfl rfl hc
      ·intro E θ a w hD hi hp he hc
       have e9:=hp.o 9 rfl
       have az:=hp.o 26 rfl
       have ak:=hp.o 29 rfl
       have hf:=((he.h0.mP he 18 rfl e9).mP he 35 rfl az).mP he 38 rfl ak
       refine stS hf rfl rfl rfl fun a hf=>zD θ he hi hf 39 rfl rfl rfl hc
      ·intro E θ a w hD hi hp he hc
       have e9:=hp.o 9 rfl
       have ac:=hp.o 30 rfl
       have hf:=(he.h0.mP he 18 rfl e9).mP he 39 rfl ac
       refine stS hf rfl rfl rfl fun a hf=>zD θ he hi hf 40 rfl rfl rfl hc
      ·intro E θ a w hD hi hp he hc
       have e9:=hp.o 9 rfl
       have aq:=hp.o 21 rfl
       have ax:=hp.o 31 rfl
       have hf:=((he.h0.mP he 18 rfl e9).mP he 30 rfl aq).mP he 40 rfl ax
       refine stS hf rfl rfl rfl fun a hf=>zD θ he hi hf 41 rfl rfl rfl hc
      ·intro E θ a w hD hi hp he hc
       have e9:=hp.o 9 rfl
       have aj:=hp.o 32 rfl
       have hf:=(he.h0.mP he 18 rfl e9).mP he 41 rfl aj
       refine sp 1 hf rfl fun a hf=>zD θ he hi hf 42 rfl rfl rfl hc
      ·intro E θ a w I he hc
       have hf:=he.h0
       have u:=I 10 rfl
       have ab:=I 11 rfl
       have am:=I 12 rfl
       have af:=I 13 rfl
       have ay:=I 14 rfl
       have aa:=I 15 rfl
       have an:=I 16 rfl
       have au:=I 17 rfl
       have ap:=I 18 rfl
       have ai:=I 19 rfl
       have ar:=I 20 rfl
       have aq:=I 21 rfl
       have av:=I 22 rfl
       have a0:=I 23 rfl
       have z:=I 24 rfl
       have ad:=I 25 rfl
       have az:=I 26 rfl
       have y:=I 27 rfl
       have ag:=I 28 rfl
       have ak:=I 29 rfl
       have ac:=I 30 rfl
       have ax:=I 31 rfl
       have aj:=I 32 rfl
       have a3:=I 33 rfl
       replace hf:=hf.more he 42 rfl (onP a3)
       replace hf:=hf.more he 41 rfl (onP aj)
       replace hf:=hf.more he 40 rfl (onP ax)
       replace hf:=hf.more he 39 rfl (onP ac)
       replace hf:=hf.more he 38 rfl (onP ak)
       replace hf:=hf.more he 37 rfl (onP ag)
       replace hf:=hf.more he 36 rfl (onP y)
       replace hf:=hf.more he 35 rfl (onP az)
       replace hf:=hf.more he 34 rfl (onP ad)
       replace hf:=hf.more he 33 rfl (onP z)
       replace hf:=hf.more he 32 rfl (onP a0)
       replace hf:=hf.more he 31 rfl (onP av)
       replace hf:=hf.more he 30 rfl (onP aq)
       replace hf:=hf.more he 29 rfl (onP ar)
       replace hf:=hf.more he 28 rfl (onP ai)
       replace hf:=hf.more he 27 rfl (onP ap)
       replace hf:=hf.more he 26 rfl (onP au)
       replace hf:=hf.more he 25 rfl (onP an)
       replace hf:=hf.more he 24 rfl (onP aa)
       replace hf:=hf.more he 23 rfl (onP ay)
       replace hf:=hf.more he 22 rfl (onP af)
       replace hf:=hf.more he 21 rfl (onP am)
       replace hf:=hf.more he 20 rfl (onP ab)
       replace hf:=hf.more he 19 rfl (onP u)
       replace hf:=hf.more he 8 rfl (onT)
       replace hf:=hf.more he 7 rfl (onT)
       replace hf:=hf.more he 6 rfl (onT)
       replace hf:=hf.more he 5 rfl (onT)
       replace hf:=hf.more he 3 rfl (onT)
       replace hf:=hf.more he 2 rfl (onT)
       replace hf:=hf.more he 1 rfl (onT)
       replace hf:=hf.more he 0 rfl (onT)
       exact ⟨hf.kp rfl,hc⟩
      rintro a w ⟨hf,hc⟩
      refine dA ?_
      obtain rfl:=sj hF
      exact ⟨hf.kp rfl,hc⟩
     ·replace hF:=mN hb hF
      try rw [hb] at hf
      try rw [hb] at hc
      have a5:=hb
      clear hb
      obtain ⟨p,bd,hF⟩:=aA hF
      obtain ⟨i,bn,hF⟩:=aA hF
      obtain ⟨ca,t,hF⟩:=aA hF
      refine tZ (fun _ _ h=>h) rfl (fun θ=>(⟨none,none,1,pq U⟩::⟨none,none,2,pq R⟩::⟨none,none,3,pq V⟩::⟨none,none,4,pq g⟩::⟨none,none,5,i6 O⟩::⟨none,none,10,i6 w_.Net.Marks⟩::⟨none,none,11,i6 x⟩::⟨none,none,22,i6 w_.Net.Marks⟩::⟨none,none,23,i6 O⟩::⟨some 0,none,26,pq b_⟩::⟨some 1,none,27,i6 O⟩::⟨some 2,none,28,i6 x⟩::⟨some 3,none,29,pq b_⟩::⟨some 4,none,30,.pointer (some ⟨b_,2,none⟩)⟩::⟨some 5,none,31,.pointer (some ⟨b_,2 + O.toNat * 13,none⟩)⟩::⟨some 6,none,32,.pointer (some ⟨b_,2 + (O * 13 + x).toNat * 1,none⟩)⟩::⟨some 7,none,33,i6 (w_.can (O * 13 + x).toNat)⟩::⟨some 8,none,34,.bool true⟩::⟨some 9,none,35,.bool true⟩::⟨some 10,none,36,pq b_⟩::⟨some 11,none,37,i6 O⟩::⟨some 12,none,38,i6 x⟩::⟨some 13,none,39,pq b_⟩::⟨some 14,none,40,.pointer (some ⟨b_,2,none⟩)⟩::⟨some 15,none,41,.pointer (some ⟨b_,2 + O.toNat * 13,none⟩)⟩::⟨some 16,none,42,.pointer (some ⟨b_,2 + (O * 13 + x).toNat * 1,none⟩)⟩::⟨some 17,none,43,i6 (w_.can (O * 13 + x).toNat)⟩::⟨some 18,none,44,pq b_⟩::⟨some 19,none,45,.agg #[i6 xv.Line,.bool xv.Back]⟩::⟨some 20,none,46,i6 p⟩::⟨some 21,none,47,i6 (W ((w_.can (O * 13 + x).toNat) + p))⟩::⟨some 22,none,48,pq b_⟩::⟨some 23,none,49,i6 O⟩::⟨some 24,none,50,pq b_⟩::⟨some 25,none,51,.agg #[i6 xv.Line,.bool xv.Back]⟩::⟨some 26,none,52,i6 i⟩::⟨some 27,none,53,pq b_⟩::⟨some 28,none,54,.pointer (some ⟨b_,2,none⟩)⟩::⟨some 29,none,55,.pointer (some ⟨b_,2 + O.toNat * 13,none⟩)⟩::⟨some 30,none,56,.pointer (some ⟨b_,2 + (O * 13 + i).toNat * 1,none⟩)⟩::⟨some 31,none,57,i6 (w_.can (O * 13 + i).toNat)⟩::⟨some 32,none,58,.bool (decide ((W ((w_.can (O * 13 + x).toNat) + p)) < (w_.can (O * 13 + i).toNat)))⟩::⟨some 33,none,59,.bool (decide ((W ((w_.can (O * 13 + x).toNat) + p)) < (w_.can (O * 13 + i).toNat)))⟩::[])) (fun E θ=>.box g [i6 xv.Line,.bool xv.Back] 123::.box b_ (aN [i6 w_.Net.Marks,.slice H w_.Net.Lines.length D] 169 aB w_.can (aN [] 169 aD w_.by_ [])) 127::.box V [i6 x] 3::.box R [.bool X] 4::.box U [pq b_] 66::Lb) [] (fun a w=>Has 71 a ((1,pq U)::(2,pq R)::(3,pq V)::(4,pq g)::(10,i6 w_.Net.Marks)::(11,i6 x)::(22,i6 w_.Net.Marks)::(23,i6 O)::(36,pq b_)::(37,i6 O)::(38,i6 x)::(39,pq b_)::(40,.pointer (some ⟨b_,2,none⟩))::(41,.pointer (some ⟨b_,2 + O.toNat * 13,none⟩))::(42,.pointer (some ⟨b_,2 + (O * 13 + x).toNat * 1,none⟩))::(43,i6 (w_.can (O * 13 + x).toNat))::(44,pq b_)::(45,.agg #[i6 xv.Line,.bool xv.Back])::(46,i6 p)::(47,i6 (W ((w_.can (O * 13 + x).toNat) + p)))::(48,pq b_)::(49,i6 O)::(50,pq b_)::(51,.agg #[i6 xv.Line,.bool xv.Back])::(52,i6 i)::(53,pq b_)::(54,.pointer (some ⟨b_,2,none⟩))::(55,.pointer (some ⟨b_,2 + O.toNat * 13,none⟩))::(56,.pointer (some ⟨b_,2 + (O * 13 + i).toNat * 1,none⟩))::(57,i6 (w_.can (O * 13 + i).toNat))::(58,.bool (decide ((W ((w_.can (O * 13 + x).toNat) + p)) < (w_.can (O * 13 + i).toNat))))::(59,.bool (decide ((W ((w_.can (O * 13 + x).toNat) + p)) < (w_.can (O * 13 + i).toNat))))::[])∧Ctx G (.box g [i6 xv.Line,.bool xv.Back] 123::.box b_ (aN [i6 w_.Net.Marks,.slice H w_.Net.Lines.length D] 169 aB w_.can (aN [] 169 aD w_.by_ [])) 127::.box V [i6 x] 3::.box R [.bool X] 4::.box U [pq b_] 66::Lb) w) aW (by kernel_rfl) (by kernel_rfl) (eV.of hf ⟨rfl,rfl,rfl,rfl,rfl,rfl,rfl,rfl,rfl,trivial,trivial,trivial,trivial,trivial,trivial,trivial,trivial,trivial,trivial,trivial,trivial,trivial,trivial,trivial,trivial,trivial,trivial,trivial,trivial,trivial,trivial,trivial,trivial,trivial,trivial,trivial,trivial,trivial,trivial,trivial,trivial,trivial,trivial,trivial⟩) hc ⟨?_,?_,?_,?_,?_,?_,?_,?_,?_,?_,?_,?_,?_,?_,?_,?_,?_,?_,?_,?_,?_,?_,?_,?_,?_,?_,?_,?_,?_,?_,?_,?_,?_,?_,trivial⟩ ?_ ?_
      ·intro E θ a w hD hi hp he hc
       have hf:=he.h0.mT he 0 rfl
       refine zL hf hc lP m4 rfl fun a w hf hc=>zD θ he hi hf 9 rfl rfl rfl hc
      ·intro E θ a w hD hi hp he hc
       have hf:=he.h0.mT he 4 rfl
       refine sp 1 hf rfl fun a hf=>zD θ he hi hf 10 rfl rfl rfl hc
      ·intro E θ a w hD hi hp he hc
       have hf:=he.h0.mT he 2 rfl
       refine zL hf hc aY m2 rfl fun a w hf hc=>zD θ he hi hf 11 rfl rfl rfl hc
      ·intro E θ a w hD hi hp he hc
       have e0:=hp.o 0 rfl
       have hf:=he.h0.mP he 9 rfl e0
       refine sp 1 hf rfl fun a hf=>zD θ he hi hf 12 rfl rfl rfl hc
      ·intro E θ a w hD hi hp he hc
       have e3:=hp.o 3 rfl
       have hf:=he.h0.mP he 12 rfl e3
       refine zP hf rfl (pFA lY rfl) fun a hf=>zD θ he hi hf 13 rfl rfl rfl hc
      ·intro E θ a w hD hi hp he hc
       have e1:=hp.o 1 rfl
       have e4:=hp.o 4 rfl
       have hf:=(he.h0.mP he 10 rfl e1).mP he 13 rfl e4
       refine zP hf rfl (kK Tryz.underlying121 qW rfl rfl (aT d).1 (aT d).2) fun a hf=>zD θ he hi hf 14 rfl rfl rfl hc
      ·intro E θ a w hD hi hp he hc
       have e2:=hp.o 2 rfl
       have e5:=hp.o 5 rfl
       have hf:=(he.h0.mP he 11 rfl e2).mP he 14 rfl e5
       refine zP hf rfl (Pu.cast (kK Tryz.underlying119 eQ rfl rfl (aT Z).1 (aT Z).2) (congrArg (fun k=>Value.pointer (some ⟨b_,k,none⟩)) (jW (M:=13) (2) d Z rfl))) fun a hf=>zD θ he hi hf 15 rfl rfl rfl hc
      ·intro E θ a w hD hi hp he hc
       have e6:=hp.o 6 rfl
       have hf:=he.h0.mP he 15 rfl e6
       refine zE hf hc rfl (cN aY rfl (gF (j:=0) m1 (fun x=>(bA x).1) rfl (wY d Z rfl) rfl)) fun a w hf hc=>zD θ he hi hf 16 rfl rfl rfl hc
      ·intro E θ a w hD hi hp he hc
       have e7:=hp.o 7 rfl
       have hf:=he.h0.mP he 16 rfl e7
       refine sp 1 hf rfl fun a hf=>?_
       rw [a5] at hf
       exact zD θ he hi hf 17 rfl rfl rfl hc
      ·intro E θ a w hD hi hp he hc
       have e8:=hp.o 8 rfl
       have hf:=he.h0.mP he 17 rfl e8
       refine sp 1 hf rfl fun a hf=>zD θ he hi hf 18 rfl rfl rfl hc
      ·intro E θ a w hD hi hp he hc
       have e9:=hp.o 9 rfl
       have hf:=(he.h0.mT he 0 rfl).mP he 18 rfl e9
       refine zL hf hc lP m4 rfl fun a w hf hc=>zD θ he hi hf 19 rfl rfl rfl hc
      ·intro E θ a w hD hi hp he hc
       have e9:=hp.o 9 rfl
       have hf:=(he.h0.mT he 4 rfl).mP he 18 rfl e9
       refine sp 1 hf rfl fun a hf=>zD θ he hi hf 20 rfl rfl rfl hc
      ·intro E θ a w hD hi hp he hc
       have e9:=hp.o 9 rfl
       have hf:=(he.h0.mT he 2 rfl).mP he 18 rfl e9
       refine zL hf hc aY m2 rfl fun a w hf hc=>zD θ he hi hf 21 rfl rfl rfl hc
      ·intro E θ a w hD hi hp he hc
       have e9:=hp.o 9 rfl
       have u:=hp.o 10 rfl
       have hf:=(he.h0.mP he 18 rfl e9).mP he 19 rfl u
       refine sp 1 hf rfl fun a hf=>zD θ he hi hf 22 rfl rfl rfl hc
      ·intro E θ a w hD hi hp he hc
       have e9:=hp.o 9 rfl
       have af:=hp.o 13 rfl
       have hf:=(he.h0.mP he 18 rfl e9).mP he 22 rfl af
       refine zP hf rfl (pFA lY rfl) fun a hf=>zD θ he hi hf 23 rfl rfl rfl hc
      ·intro E θ a w hD hi hp he hc
       have e9:=hp.o 9 rfl
       have ab:=hp.o 11 rfl
       have ay:=hp.o 14 rfl
       have hf:=((he.h0.mP he 18 rfl e9).mP he 20 rfl ab).mP he 23 rfl ay
       refine zP hf rfl (kK Tryz.underlying121 qW rfl rfl (aT d).1 (aT d).2) fun a hf=>zD θ he hi hf 24 rfl rfl rfl hc
      ·intro E θ a w hD hi hp he hc
       have e9:=hp.o 9 rfl
       have am:=hp.o 12 rfl
       have aa:=hp.o 15 rfl
       have hf:=((he.h0.mP he 18 rfl e9).mP he 21 rfl am).mP he 24 rfl aa
       refine zP hf rfl (Pu.cast (kK Tryz.underlying119 eQ rfl rfl (aT Z).1 (aT Z).2) (congrArg (fun k=>Value.pointer (some ⟨b_,k,none⟩)) (jW (M:=13) (2) d Z rfl))) fun a hf=>zD θ he hi hf 25 rfl rfl rfl hc
      ·intro E θ a w hD hi hp he hc
       have e9:=hp.o 9 rfl
       have an:=hp.o 16 rfl
       have hf:=(he.h0.mP he 18 rfl e9).mP he 25 rfl an
       refine zE hf hc rfl (cN aY rfl (gF (j:=0) m1 (fun x=>(bA x).1) rfl (wY d Z rfl) rfl)) fun a w hf hc=>zD θ he hi hf 26 rfl rfl rfl hc
      ·intro E θ a w hD hi hp he hc
       have e9:=hp.o 9 rfl
       have hf:=(he.h0.mT he 0 rfl).mP he 18 rfl e9
       refine zL hf hc lP m4 rfl fun a w hf hc=>zD θ he hi hf 27 rfl rfl rfl hc
      ·intro E θ a w hD hi hp he hc
       have e9:=hp.o 9 rfl
       have hf:=(he.h0.mT he 3 rfl).mP he 18 rfl e9
       refine zN hf hc rE m0 rfl fun a w hf hc=>zD θ he hi hf 28 rfl rfl rfl hc
      ·intro E θ a w hD hi hp he hc
       have e9:=hp.o 9 rfl
       have ap:=hp.o 18 rfl
       have ai:=hp.o 19 rfl
       have hf:=((he.h0.mP he 18 rfl e9).mP he 27 rfl ap).mP he 28 rfl ai
       refine zQ (v:=i6 p) hf hc aMq rfl (fun w hc=>(pH w_ xv Y (hc.pick k1) bd).mono fun e w h=>⟨h.1,(h.2.unpick k1)⟩) fun a w hf hc=>zD θ he hi hf 29 rfl rfl rfl hc
      ·intro E θ a w hD hi hp he hc
       have e9:=hp.o 9 rfl
       have au:=hp.o 17 rfl
       have ar:=hp.o 20 rfl
       have hf:=((he.h0.mP he 18 rfl e9).mP he 26 rfl au).mP he 29 rfl ar
       refine sp 1 hf rfl fun a hf=>zD θ he hi hf 30 rfl rfl rfl hc
      ·intro E θ a w hD hi hp he hc
       have e9:=hp.o 9 rfl
       have hf:=(he.h0.mT he 0 rfl).mP he 18 rfl e9
       refine zL hf hc lP m4 rfl fun a w hf hc=>zD θ he hi hf 31 rfl rfl rfl hc
      ·intro E θ a w hD hi hp he hc
       have e9:=hp.o 9 rfl
       have hf:=(he.h0.mT he 4 rfl).mP he 18 rfl e9
       refine sp 1 hf rfl fun a hf=>zD θ he hi hf 32 rfl rfl rfl hc
      ·intro E θ a w hD hi hp he hc
       have e9:=hp.o 9 rfl
       have hf:=(he.h0.mT he 0 rfl).mP he 18 rfl e9
       refine zL hf hc lP m4 rfl fun a w hf hc=>zD θ he hi hf 33 rfl rfl rfl hc
      ·intro E θ a w hD hi hp he hc
       have e9:=hp.o 9 rfl
       have hf:=(he.h0.mT he 3 rfl).mP he 18 rfl e9
       refine zN hf hc rE m0 rfl fun a w hf hc=>zD θ he hi hf 34 rfl rfl rfl hc
      ·intro E θ a w hD hi hp he hc
       have e9:=hp.o 9 rfl
       have z:=hp.o 24 rfl
       have ad:=hp.o 25 rfl
       have hf:=((he.h0.mP he 18 rfl e9).mP he 33 rfl z).mP he 34 rfl ad
       refine zQ (v:=i6 i) hf hc aHi rfl (fun w hc=>(kB w_ xv Y (hc.pick k1) bn).mono fun e w h=>⟨h.1,(h.2.unpick k1)⟩) fun a w hf hc=>zD θ he hi hf 35 rfl rfl rfl hc
      ·intro E θ a w hD hi hp he hc
       have e9:=hp.o 9 rfl
       have av:=hp.o 22 rfl
       have hf:=(he.h0.mP he 18 rfl e9).mP he 31 rfl av
       refine sp 1 hf rfl fun a hf=>zD θ he hi hf 36 rfl rfl rfl hc
      ·intro E θ a w hD hi hp he hc
       have e9:=hp.o 9 rfl
       have y:=hp.o 27 rfl
       have hf:=(he.h0.mP he 18 rfl e9).mP he 36 rfl y
       refine zP hf rfl (pFA lY rfl) fun a hf=>zD θ he hi hf 37 rfl rfl rfl hc
      ·intro E θ a w hD hi hp he hc
       have e9:=hp.o 9 rfl
       have a0:=hp.o 23 rfl
       have ag:=hp.o 28 rfl
       have hf:=((he.h0.mP he 18 rfl e9).mP he 32 rfl a0).mP he 37 rfl ag
       refine zP hf rfl (kK Tryz.underlying121 qW rfl rfl (aT d).1 (aT d).2) fun a hf=>zD θ he hi hf 38 rfl rfl rfl hc
      ·intro E θ a w hD hi hp he hc
       have e9:=hp.o 9 rfl
       have az:=hp.o 26 rfl
       have ak:=hp.o 29 rfl
       have hf:=((he.h0.mP he 18 rfl e9).mP he 35 rfl az).mP he 38 rfl ak
       refine zP hf rfl (Pu.cast (kK Tryz.underlying119 eQ rfl rfl (aT t).1 (aT t).2) (congrArg (fun k=>Value.pointer (some ⟨b_,k,none⟩)) (jW (M:=13) (2) d t rfl))) fun a hf=>zD θ he hi hf 39 rfl rfl rfl hc
      ·intro E θ a w hD hi hp he hc
       have e9:=hp.o 9 rfl
       have ac:=hp.o 30 rfl
       have hf:=(he.h0.mP he 18 rfl e9).mP he 39 rfl ac
       refine zE hf hc rfl (cN aY rfl (gF (j:=0) m1 (fun x=>(bA x).1) rfl (wY d t rfl) rfl)) fun a w hf hc=>zD θ he hi hf 40 rfl rfl rfl hc
      ·intro E θ a w hD hi hp he hc
       have e9:=hp.o 9 rfl
       have aq:=hp.o 21 rfl
       have ax:=hp.o 31 rfl
       have hf:=((he.h0.mP he 18 rfl e9).mP he 30 rfl aq).mP he 40 rfl ax
       refine sp 1 hf rfl fun a hf=>zD θ he hi hf 41 rfl rfl rfl hc
      ·intro E θ a w hD hi hp he hc
       have e9:=hp.o 9 rfl
       have aj:=hp.o 32 rfl
       have hf:=(he.h0.mP he 18 rfl e9).mP he 41 rfl aj
       refine sp 1 hf rfl fun a hf=>zD θ he hi hf 42 rfl rfl rfl hc
      ·intro E θ a w I he hc
       have hf:=he.h0
       have u:=I 10 rfl
       have ab:=I 11 rfl
       have am:=I 12 rfl
       have af:=I 13 rfl
       have ay:=I 14 rfl
       have aa:=I 15 rfl
       have an:=I 16 rfl
       have au:=I 17 rfl
       have ap:=I 18 rfl
       have ai:=I 19 rfl
       have ar:=I 20 rfl
       have aq:=I 21 rfl
       have av:=I 22 rfl
       have a0:=I 23 rfl
       have z:=I 24 rfl
       have ad:=I 25 rfl
       have az:=I 26 rfl
       have y:=I 27 rfl
       have ag:=I 28 rfl
       have ak:=I 29 rfl
       have ac:=I 30 rfl
       have ax:=I 31 rfl
       have aj:=I 32 rfl
       have a3:=I 33 rfl
       replace hf:=hf.more he 42 rfl (onP a3)
       replace hf:=hf.more he 41 rfl (onP aj)
       replace hf:=hf.more he 40 rfl (onP ax)
       replace hf:=hf.more he 39 rfl (onP ac)
       replace hf:=hf.more he 38 rfl (onP ak)
       replace hf:=hf.more he 37 rfl (onP ag)
       replace hf:=hf.more he 36 rfl (onP y)
       replace hf:=hf.more he 35 rfl (onP az)
       replace hf:=hf.more he 34 rfl (onP ad)
       replace hf:=hf.more he 33 rfl (onP z)
       replace hf:=hf.more he 32 rfl (onP a0)
       replace hf:=hf.more he 31 rfl (onP av)
       replace hf:=hf.more he 30 rfl (onP aq)
       replace hf:=hf.more he 29 rfl (onP ar)
       replace hf:=hf.more he 28 rfl (onP ai)
       replace hf:=hf.more he 27 rfl (onP ap)
       replace hf:=hf.more he 26 rfl (onP au)
       replace hf:=hf.more he 25 rfl (onP an)
       replace hf:=hf.more he 24 rfl (onP aa)
       replace hf:=hf.more he 23 rfl (onP ay)
       replace hf:=hf.more he 22 rfl (onP af)
       replace hf:=hf.more he 21 rfl (onP am)
       replace hf:=hf.more he 20 rfl (onP ab)
       replace hf:=hf.more he 19 rfl (onP u)
       replace hf:=hf.more he 8 rfl (onT)
       replace hf:=hf.more he 7 rfl (onT)
       replace hf:=hf.more he 6 rfl (onT)
       replace hf:=hf.more he 5 rfl (onT)
       replace hf:=hf.more he 3 rfl (onT)
       replace hf:=hf.more he 2 rfl (onT)
       replace hf:=hf.more he 1 rfl (onT)
       replace hf:=hf.more he 0 rfl (onT)
       exact ⟨hf.kp rfl,hc⟩
      rintro a w ⟨hf,hc⟩
      refine dA ?_
      obtain rfl:=sj hF
      exact ⟨hf.kp rfl,hc⟩
    rintro a w ⟨hf,hc⟩
    refine bu _ _ ?_
    refine xR (b:=rg) hf rfl (fun hb=>?_) (fun hb=>?_)
    ·replace hF:=mN hb hF
     clear hb
     refine qA fun K22 bv=>mU (fun _ _ h=>h) rfl ?_
     refine zW hf hc sz_4 u3 rfl fun w hc=>aS ?_
     refine bv _ _ ?_
     refine rRet ?_
     refine bT ?_
     refine aQ ?_
     refine aQ ?_
     have he:=sj hF
     rw [← he] at n
     replace hF:=bi _ n
     refine bT ?_
     refine aQ ?_
     refine bT ?_
     refine aQ ?_
     replace hc:=hc.drop k0
     exact ⟨true,_,hF.symm,rfl,hc⟩
    ·replace hF:=mR hb hF
     clear hb
     refine yB ?_
     refine b7 _ _ ?_
     refine mU (fun _ _ h=>h) rfl ?_
     refine sp 2 hf rfl fun a hf=>aS ?_
     exact bp (W (O + 1)) _ _ (sj hF).symm ⟨hf.kp rfl,hc⟩
   ·replace hF:=mR hb hF
    clear hb
    refine aM6 ?_
    refine bI ?_
    refine bI ?_
    have he:=sj hF
    rw [← he] at n
    refine fZ ?_
    exact bc _ _ _ n ⟨hf.kp rfl,hc⟩
  ·rintro D_1 X _ a w a6 rfl hf hc
   replace hf:Has ⟨71,jA (D_1::Ds)⟩ a [(1,pq U),(2,pq R),(3,pq V),(10,i6 w_.Net.Marks),(11,i6 x)]:=hf.kp rfl
   replace hc:Ctx G (.box a2 [pq b_] 66::.box a1 [i6 r] 3::.box b_ (aN [i6 w_.Net.Marks,.slice H w_.Net.Lines.length D] 169 aB w_.can (aN [] 169 aD w_.by_ [])) 127::.box V [i6 x] 3::.box R [.bool X] 4::.box U [pq b_] 66::(kV (D_1::Ds)++Lf)) w:=kS (C:=[.box a2 [pq b_] 66,.box a1 [i6 r] 3]) (L:=[.box b_ (aN [i6 w_.Net.Marks,.slice H w_.Net.Lines.length D] 169 aB w_.can (aN [] 169 aD w_.by_ [])) 127,.box V [i6 x] 3,.box R [.bool X] 4,.box U [pq b_] 66]) hc
   replace hF:(Option.bind (inR x 13) fun bj=>Option.bind (inR x 13) fun bg=>cond (decide ((w_.can (x * 13 + x).toNat) < 0)) (some (.ret true)) (some (.cont (W (x + 1),X))))=some bb:=by rcases a6 with rfl | rfl <;> exact hF
   refine b6 _ _ ?_
   refine wp_seq_k fun K23 b0=>?_
   obtain ⟨bj,s,hF⟩:=aA hF
   obtain ⟨bg,q,hF⟩:=aA hF
   refine cQ hc aW (by kernel_rfl) ?_
   refine qE hf rfl rfl rfl (cN lP rfl (bO m5 rfl)) fun a hf=>qE hf rfl rfl rfl (cN aY rfl (bO m3 rfl)) fun a hf=>qE hf rfl rfl rfl (cN aY rfl (bO m3 rfl)) fun a hf=>qE hf rfl rfl rfl (Pu.ev (pNC rfl)) fun a hf=>qE hf rfl rfl rfl (Pu.ev (pFA lY rfl)) fun a hf=>qE hf rfl rfl rfl (Pu.ev (kK Tryz.underlying121 qW rfl rfl (aT s).1 (aT s).2)) fun a hf=>qE hf rfl rfl rfl (Pu.ev (Pu.cast (kK Tryz.underlying119 eQ rfl rfl (aT q).1 (aT q).2) (congrArg (fun k=>Value.pointer (some ⟨b_,k,none⟩)) (jW (M:=13) (2) s q rfl)))) fun a hf=>qE hf rfl rfl rfl (cN aY rfl (gF (j:=0) m2 (fun x=>(bA x).1) rfl (wY s q rfl) rfl)) fun a hf=>qE hf rfl rfl rfl (Pu.ev (pLt rfl rfl)) fun a hf=>?_
   intro w hc
   refine b0 _ _ ?_
   refine zI hf rfl hF ?_ ?_ <;> clear hF <;> intro hF
   ·refine zS fun K h=>zW hf hc sz_4 u4 rfl fun w hc=>zT h ?_
    refine wp_ret ?_
    refine bT ?_
    refine aQ ?_
    refine aQ ?_
    have he:=sj hF
    rw [← he] at m
    replace hF:=ba _ m
    refine bT ?_
    refine aQ ?_
    obtain rfl:=hF
    replace hc:=(((hc.drop k5).drop k3).drop k1).drop k0
    refine wV hf ?_
    refine uC [.box b_ (aN [i6 w_.Net.Marks,.slice H w_.Net.Lines.length D] 169 aB w_.can (aN [] 169 aD w_.by_ [])) 127,.box R [.bool true] 4] (D_1::Ds) hc fun w hc=>?_
    replace hc:Ctx G (.box b_ (aN [i6 w_.Net.Marks,.slice H w_.Net.Lines.length D] 169 aB w_.can (aN [] 169 aD w_.by_ [])) 127::.box R [.bool true] 4::Lf) w:=hc
    exact aDg Tryz.results18 hf hc (aCn wC rfl (bO m1 rfl)) ⟨rfl,(hc.drop k1)⟩
   ·refine wp_skip ?_
    refine h8 _ _ ?_
    refine eB ?_
    refine sp 2 hf rfl fun a hf=>aS ?_
    replace hc:=(((((hc.drop k3).drop k1).drop k0).pick k0).pick k2).pick k2
    exact b1 (W (x + 1),X) _ _ (sj hF).symm ⟨(D_1::Ds),hf.kp rfl,hc⟩
  ·rintro D_1 X _ a w a6 rfl hf hc
   replace hf:Has ⟨71,jA (D_1::Ds)⟩ a [(1,pq U),(2,pq R),(3,pq V),(10,i6 w_.Net.Marks),(11,i6 x)]:=hf.kp rfl
   replace hc:Ctx G (.box a2 [pq b_] 66::.box a1 [i6 r] 3::.box b_ (aN [i6 w_.Net.Marks,.slice H w_.Net.Lines.length D] 169 aB w_.can (aN [] 169 aD w_.by_ [])) 127::.box V [i6 x] 3::.box R [.bool X] 4::.box U [pq b_] 66::(kV (D_1::Ds)++Lf)) w:=kS (C:=[.box a2 [pq b_] 66,.box a1 [i6 r] 3]) (L:=[.box b_ (aN [i6 w_.Net.Marks,.slice H w_.Net.Lines.length D] 169 aB w_.can (aN [] 169 aD w_.by_ [])) 127,.box V [i6 x] 3,.box R [.bool X] 4,.box U [pq b_] 66]) hc
   replace hF:(some (.ret X))=some bb:=by subst a6; exact hF
   refine aQ ?_
   refine bT ?_
   refine aQ ?_
   refine aQ ?_
   have he:=sj hF
   rw [← he] at m
   replace hF:=ba _ m
   refine bT ?_
   refine aQ ?_
   obtain rfl:=hF
   replace hc:=(((hc.drop k5).drop k3).drop k1).drop k0
   refine wV hf ?_
   refine uC [.box b_ (aN [i6 w_.Net.Marks,.slice H w_.Net.Lines.length D] 169 aB w_.can (aN [] 169 aD w_.by_ [])) 127,.box R [.bool X] 4] (D_1::Ds) hc fun w hc=>?_
   replace hc:Ctx G (.box b_ (aN [i6 w_.Net.Marks,.slice H w_.Net.Lines.length D] 169 aB w_.can (aN [] 169 aD w_.by_ [])) 127::.box R [.bool X] 4::Lf) w:=hc
   exact aDg Tryz.results18 hf hc (aCn wC rfl (bO m1 rfl)) ⟨rfl,(hc.drop k1)⟩
 ·refine wp_exit ?_
  refine bI ?_
  refine bI ?_
  have he:=sj hF
  rw [← he] at m
  refine fZ ?_
  exact bz _ _ _ m ⟨Ds,hf.kp rfl,hc⟩

def kE (N:Nat) (n:aO):Option (Bool × Int) :=
 Option.bind (kX N n) (vF (fun r=>cond (r != 0)
 (some (false,r))
 (none))
 (fun B=>cond (B.2.2.2 != 0)
 (some (false,B.2.2.2))
 (Option.bind (cD N (⟨(⟨B.1,n.Lines⟩:aO),B.2.1,B.2.2.1⟩:aP)) fun D=>
 some ((!D),0))))
theorem aAm {N:Nat} {G:aU} {Lf:List Ent} {w:World} (n:aO) {H:Option Addr} {D:Nat} (B:Rd G 5 H D (n.Lines.map aM)) (hc:Ctx G (Lf) w) {I:Bool × Int} (hF:kE N n=some I):Calls Tryz.prog 6 #[.agg #[i6 n.Marks,.slice H n.Lines.length D]] w (fun e w=>e=.returned (.tuple #[.bool I.1,i6 I.2])∧Ctx G (Lf) w):=by
 unfold kE at hF
 refine bU Tryz.func6 rfl Tryz.ntmps6 rfl fun a hf=>zS fun K h=>zB hf hc rfl fun U a w hf hc=>sp 2 hf rfl fun a hf=>zT h ?_
 refine zS fun K h=>zN hf hc oN m0 rfl fun a w hf hc=>?_
 obtain ⟨r,hr,hF⟩:=aA hF
 cases r with
 | inl r=>
  replace hF:=wF hF
  refine zC hf aDk rfl (jS n B hc hr) ?_
  rintro _ w ⟨rfl,hc⟩
  refine ⟨_,rfl,fun a hf=>?_⟩
  refine sp 5 hf rfl fun a hf=>zT h ?_
  refine wp_seq_k fun K3 h3=>zS fun K h=>sp 2 hf rfl fun a hf=>zT h ?_
  refine zI hf rfl hF ?_ ?_ <;> clear hF <;> intro hF
  ·refine zS fun K h=>sp 3 hf rfl fun a hf=>zT h ?_
   refine wp_ret ?_
   refine aQ ?_
   obtain rfl:=sj hF
   replace hc:=hc.drop k0
   exact zO2 Tryz.results6 hf rfl rfl ⟨rfl,hc⟩
  ·refine wp_skip ?_
   refine h3 _ _ ?_
   refine wp_seq_k fun K6 h6=>wD hF
 | inr J=>
  replace hF:=wI hF
  have M:=hr
  refine zC hf aDk rfl (jS n B hc M) ?_
  rintro _ w ⟨S,rfl,hc⟩
  refine ⟨_,rfl,fun a hf=>?_⟩
  refine sp 5 hf rfl fun a hf=>zT h ?_
  refine wp_seq_k fun K7 h7=>zS fun K h=>sp 2 hf rfl fun a hf=>zT h ?_
  refine zI hf rfl hF ?_ ?_ <;> clear hF <;> intro hF
  ·refine zS fun K h=>sp 3 hf rfl fun a hf=>zT h ?_
   refine wp_ret ?_
   refine aQ ?_
   obtain rfl:=sj hF
   replace hc:=(hc.drop k1).drop k0
   exact zO2 Tryz.results6 hf rfl rfl ⟨rfl,hc⟩
  ·refine wp_skip ?_
   refine h7 _ _ ?_
   refine zS fun K h=>sp 1 hf rfl fun a hf=>?_
   obtain ⟨R,O,hF⟩:=aA hF
   refine zQ (v:=.bool R) hf hc aHz rfl (fun w hc=>(jZ (⟨(⟨J.1,n.Lines⟩:aO),J.2.1,J.2.2.1⟩:aP) B (hc.pick k0) O).mono fun e w h=>⟨h.1,(h.2.unpick k0)⟩) fun a w hf hc=>sp 3 hf rfl fun a hf=>zT h ?_
   refine wp_ret ?_
   obtain rfl:=sj hF
   replace hc:=(hc.drop k1).drop k0
   exact zO2 Tryz.results6 hf rfl rfl ⟨rfl,hc⟩

def dI (N:Nat) (m:Int→Option Bool):Option ((Int→Option Bool)) :=
 some m
theorem nD {N:Nat} {G:aU} {Lf:List Ent} {w:World} (m:Int→Option Bool) {mb:Nat}  (hc:Ctx G (.im mb (fun j=>(m j).map Value.bool) none::Lf) w) {B:(Int→Option Bool)} (hF:dI N m=some B):Calls Tryz.prog 85 #[.map (some mb)] w (fun e w=>∃ (I:Nat) (D:Nat),e=.returned (.func (.func 116) #[] #[pq I])∧Ctx G (.im D (fun j=>(B j).map Value.bool) none::.box I [.map (some D)] 177::Lf) w):=by
 unfold dI at hF
 refine bU Tryz.func85 rfl Tryz.ntmps85 rfl fun a hf=>zS fun K h=>stBx (cs:=[.map (some mb)]) hf hc rfl rfl rfl rfl fun H a w hf hc=>sp 1 hf rfl fun a hf=>zT h ?_
 refine zS fun K h=>zP hf rfl (pMF (us:=[pq H]) rfl rfl) fun a hf=>sp 1 hf rfl fun a hf=>zT h ?_
 refine wp_ret ?_
 obtain rfl:=sj hF
 replace hc:=(hc.pick k0).pick k1
 exact zO1 Tryz.results85 hf rfl ⟨H,mb,rfl,hc⟩

noncomputable def slices_Sorted_int (N:Nat) (J:Int→Option Bool):Option ((List Int)) :=
 keysO J
/-! ### Walks of the library -/
end Go.Nilo
namespace Go.Proofs
open Go.Shelf
def Tryz.layk7_ren:Go.Shelf.Ren:=⟨fun | 7=>85 | 10=>116 | n=>n,fun | 23=>177 | 26=>3 | 3=>4 | 28=>180 | 0=>0 | 27=>179 | 33=>136 | 4=>4 | n=>n,fun | n=>n⟩
theorem Tryz.layk7:Go.Proofs.SlLaysZI.n7 Tryz.prog Tryz.layk7_ren:={
 mixed:=by kernel_rfl
 f7:=⟨Tryz.f85.name,by decide,Tryz.func85.trans (congrArg some (by kernel_rfl))⟩
 f10:=⟨Tryz.f116.name,by decide,Tryz.func116.trans (congrArg some (by kernel_rfl))⟩
 t0:=Tryz.underlying0
 a0:=Tryz.isAgg0
 z0:=Tryz.sizeOf0
 v0:=Tryz.zeroValue0
 t4:=Tryz.underlying4
 a4:=Tryz.isAgg4
 z4:=Tryz.sizeOf4
 v4:=Tryz.zeroValue4
 t23:=Tryz.underlying177
 a23:=Tryz.isAgg177
 z23:=Tryz.sizeOf177
 v23:=Tryz.zeroValue177
 t26:=Tryz.underlying3
 a26:=Tryz.isAgg3
 z26:=Tryz.sizeOf3
 v26:=Tryz.zeroValue3
 t27:=Tryz.underlying179
 a27:=Tryz.isAgg179
 z27:=Tryz.sizeOf179
 v27:=Tryz.zeroValue179
 t28:=Tryz.underlying180
 a28:=Tryz.isAgg180
 z28:=Tryz.sizeOf180
 v28:=Tryz.zeroValue180
 t33:=Tryz.underlying136
 a33:=Tryz.isAgg136
 z33:=Tryz.sizeOf136
 v33:=Tryz.zeroValue136 }
def Tryz.layk6_ren:Go.Shelf.Ren:=⟨fun | 6=>84 | 8=>114 | 9=>115 | 11=>132 | 13=>134 | 12=>133 | 23=>150 | 24=>151 | 14=>141 | 15=>142 | 16=>143 | 17=>144 | 18=>145 | 19=>146 | 20=>147 | 21=>148 | 22=>149 | 25=>153 | 26=>154 | 27=>155 | 28=>156 | 29=>157 | 30=>158 | 31=>159 | n=>n,fun | 26=>3 | 28=>180 | 24=>26 | 0=>0 | 3=>3 | 37=>220 | 48=>233 | 50=>235 | 4=>4 | 40=>226 | 39=>225 | 45=>230 | 5=>5 | 9=>9 | 51=>237 | 55=>241 | 57=>243 | 58=>244 | 33=>136 | n=>n,fun | n=>n⟩
theorem Tryz.layk6:Go.Proofs.SlLaysZI.n6 Tryz.prog Tryz.layk6_ren:={
 mixed:=by kernel_rfl
 f6:=⟨Tryz.f84.name,by decide,Tryz.func84.trans (congrArg some (by kernel_rfl))⟩
 f8:=⟨Tryz.f114.name,by decide,Tryz.func114.trans (congrArg some (by kernel_rfl))⟩
 f11:=⟨Tryz.f132.name,by decide,Tryz.func132.trans (congrArg some (by kernel_rfl))⟩
 t0:=Tryz.underlying0
 a0:=Tryz.isAgg0
 z0:=Tryz.sizeOf0
 v0:=Tryz.zeroValue0
 t24:=Tryz.underlying26
 a24:=Tryz.isAgg26
 z24:=Tryz.sizeOf26
 v24:=Tryz.zeroValue26
 t26:=Tryz.underlying3
 a26:=Tryz.isAgg3
 z26:=Tryz.sizeOf3
 v26:=Tryz.zeroValue3
 t28:=Tryz.underlying180
 a28:=Tryz.isAgg180
 z28:=Tryz.sizeOf180
 v28:=Tryz.zeroValue180
 i26:=by kernel_rfl }
def Tryz.laym5_ren:Go.Shelf.Ren:=⟨fun | 5=>115 | 8=>134 | 7=>133 | 19=>150 | 20=>151 | 10=>141 | 11=>142 | 12=>143 | 13=>144 | 14=>145 | 15=>146 | 16=>147 | 17=>148 | 18=>149 | 30=>153 | 31=>154 | 32=>155 | 33=>156 | 34=>157 | 35=>158 | 40=>159 | n=>n,fun | 23=>26 | 25=>3 | 3=>3 | 32=>220 | 22=>26 | 0=>0 | 44=>233 | 46=>235 | 4=>4 | 36=>226 | 35=>225 | 41=>230 | 5=>5 | 9=>9 | 53=>237 | 57=>241 | 63=>243 | 64=>244 | n=>n,fun | n=>n⟩
theorem Tryz.laym5:Go.Proofs.SlLaysM.n5 Tryz.prog Tryz.laym5_ren:={
 mixed:=by kernel_rfl
 f5:=⟨Tryz.f115.name,by decide,Tryz.func115.trans (congrArg some (by kernel_rfl))⟩
 f7:=⟨Tryz.f133.name,by decide,Tryz.func133.trans (congrArg some (by kernel_rfl))⟩
 f8:=Tryz.func134.trans (congrArg some (by kernel_rfl))
 f10:=⟨Tryz.f141.name,by decide,Tryz.func141.trans (congrArg some (by kernel_rfl))⟩
 f11:=⟨Tryz.f142.name,by decide,Tryz.func142.trans (congrArg some (by kernel_rfl))⟩
 f12:=⟨Tryz.f143.name,by decide,Tryz.func143.trans (congrArg some (by kernel_rfl))⟩
 f13:=⟨Tryz.f144.name,by decide,Tryz.func144.trans (congrArg some (by kernel_rfl))⟩
 f14:=⟨Tryz.f145.name,by decide,Tryz.func145.trans (congrArg some (by kernel_rfl))⟩
 f15:=⟨Tryz.f146.name,by decide,Tryz.func146.trans (congrArg some (by kernel_rfl))⟩
 f16:=⟨Tryz.f147.name,by decide,Tryz.func147.trans (congrArg some (by kernel_rfl))⟩
 f17:=⟨Tryz.f148.name,by decide,Tryz.func148.trans (congrArg some (by kernel_rfl))⟩
 f18:=⟨Tryz.f149.name,by decide,Tryz.func149.trans (congrArg some (by kernel_rfl))⟩
 f19:=Tryz.func150.trans (congrArg some (by kernel_rfl))
 f20:=Tryz.func151.trans (congrArg some (by kernel_rfl))
 f30:=⟨Tryz.f153.name,by decide,Tryz.func153.trans (congrArg some (by kernel_rfl))⟩
 f31:=Tryz.func154.trans (congrArg some (by kernel_rfl))
 f32:=Tryz.func155.trans (congrArg some (by kernel_rfl))
 f33:=⟨Tryz.f156.name,by decide,Tryz.func156.trans (congrArg some (by kernel_rfl))⟩
 f34:=⟨Tryz.f157.name,by decide,Tryz.func157.trans (congrArg some (by kernel_rfl))⟩
 f35:=⟨Tryz.f158.name,by decide,Tryz.func158.trans (congrArg some (by kernel_rfl))⟩
 f40:=⟨Tryz.f159.name,by decide,Tryz.func159.trans (congrArg some (by kernel_rfl))⟩
 t0:=Tryz.underlying0
 a0:=Tryz.isAgg0
 z0:=Tryz.sizeOf0
 v0:=Tryz.zeroValue0
 t3:=Tryz.underlying3
 a3:=Tryz.isAgg3
 z3:=Tryz.sizeOf3
 v3:=Tryz.zeroValue3
 t4:=Tryz.underlying4
 a4:=Tryz.isAgg4
 z4:=Tryz.sizeOf4
 v4:=Tryz.zeroValue4
 t5:=Tryz.underlying5
 a5:=Tryz.isAgg5
 z5:=Tryz.sizeOf5
 v5:=Tryz.zeroValue5
 t9:=Tryz.underlying9
 a9:=Tryz.isAgg9
 z9:=Tryz.sizeOf9
 v9:=Tryz.zeroValue9
 t22:=Tryz.underlying26
 a22:=Tryz.isAgg26
 z22:=Tryz.sizeOf26
 v22:=Tryz.zeroValue26
 t23:=Tryz.underlying26
 a23:=Tryz.isAgg26
 z23:=Tryz.sizeOf26
 v23:=Tryz.zeroValue26
 t25:=Tryz.underlying3
 a25:=Tryz.isAgg3
 z25:=Tryz.sizeOf3
 v25:=Tryz.zeroValue3
 t32:=Tryz.underlying220
 a32:=Tryz.isAgg220
 z32:=Tryz.sizeOf220
 v32:=Tryz.zeroValue220
 t35:=Tryz.underlying225
 a35:=Tryz.isAgg225
 z35:=Tryz.sizeOf225
 v35:=Tryz.zeroValue225
 t36:=Tryz.underlying226
 a36:=Tryz.isAgg226
 z36:=Tryz.sizeOf226
 v36:=Tryz.zeroValue226
 t41:=Tryz.underlying230
 a41:=Tryz.isAgg230
 z41:=Tryz.sizeOf230
 v41:=Tryz.zeroValue230
 t44:=Tryz.underlying233
 a44:=Tryz.isAgg233
 z44:=Tryz.sizeOf233
 v44:=Tryz.zeroValue233
 t46:=Tryz.underlying235
 a46:=Tryz.isAgg235
 z46:=Tryz.sizeOf235
 v46:=Tryz.zeroValue235
 t53:=Tryz.underlying237
 a53:=Tryz.isAgg237
 z53:=Tryz.sizeOf237
 v53:=Tryz.zeroValue237
 t57:=Tryz.underlying241
 a57:=Tryz.isAgg241
 z57:=Tryz.sizeOf241
 v57:=Tryz.zeroValue241
 t63:=Tryz.underlying243
 a63:=Tryz.isAgg243
 z63:=Tryz.sizeOf243
 v63:=Tryz.zeroValue243
 t64:=Tryz.underlying244
 a64:=Tryz.isAgg244
 z64:=Tryz.sizeOf244
 v64:=Tryz.zeroValue244 }
open Go.RowKit Go.Maps Go.Sort
theorem Tryz.sortsK (m:Nat):AnyZI.SortsIn Tryz.prog Tryz.layk6_ren Fence.wide m :=
 ⟨fun I J B ss W hH D H=>callsIn_wide.2 (AnyM.slices_Sort_int Tryz.laym5 I J B ss W hH D H),fun p B W=>callsIn_wide.2 (AnyM.slices_Sort_int_none Tryz.laym5 p B W)⟩
theorem Tryz.sortedK {bx mb:Nat} (nn:Nat) (D0:DataW Unit) (R:Value→Option (DataW Unit × List MemPlace)) (w:World) (J:bx < w.heap.size) (hm:w.cell? ⟨bx,0,none⟩=some (.map (some mb))) (D:w.ownsMap Tryz.prog 3 R mb nn D0) (H:Maps.size D0≤maxLen) (B:Maps.size D0 * 8≤140737488355328) :
  Calls Tryz.prog 84 #[.func (.func 116) #[] #[.pointer (some (Addr.mk bx 0 none))]] w fun e w'=>∃ (v:Value) (ss:List Int),e=.returned v∧ss.Perm (intKeys D0)∧w'.ownsRow w.heap.size 3 1 v ss.length ((ss.mergeSort (fun x y=>decide (x≤y))).map encZ)∧(v=.slice none 0 0 ↔ ss=[])∧Below w.heap.size w w':=by
 refine (callsIn_wide (n:=5)).1 ?_
 have I:SeqGives Fence.wide 2 Tryz.prog 116 #[.pointer (some (Addr.mk bx 0 none))] encZ (fun ss=>ss.Perm (intKeys D0)) (Maps.size D0) w :=
  AnyZI.keys_gives (ρ:=Tryz.layk7_ren) { Tryz.layk7 with } Fence.wide _ trivial rfl (by omega) bx mb nn D0 w J hm D
 exact AnyZI.sorted_in Tryz.layk6 Fence.wide 5 trivial trivial trivial trivial rfl (by omega) (Tryz.sortsK _) (enters_of Tryz.func115 (by kernel_rfl) rfl) 116 #[.pointer (some (Addr.mk bx 0 none))] trivial (enters_of Tryz.func116 (by kernel_rfl) rfl) _ _ H B _ I

end Go.Proofs
namespace Go.Nilo
open Go.Proofs

theorem uP {N:Nat} {G:aU} {Lf:List Ent} {w:World} (D:Int→Option Bool) {b_:Nat} {mb:Nat}  (hc:Ctx G (.box b_ [.map (some mb)] 177::.im mb (fun j=>(D j).map Value.bool) none::Lf) w) {B:(List Int)} (hF:slices_Sorted_int N D=some B):Calls Tryz.prog 84 #[.func (.func 116) #[] #[pq b_]] w (fun e w=>∃ (H:Option Addr) (I:Nat),e=.returned (.slice H B.length I)∧Ctx G (.row H I (B.map aB) 3 1::.box b_ [.map (some mb)] 177::.im mb (fun j=>(D j).map Value.bool) none::Lf) w):=by
 unfold slices_Sorted_int at hF
 exact aB1 Tryz.underlying3 (fun nn D0 R w h1 h2 h3 h4 h5=>Go.Proofs.Tryz.sortedK nn D0 R w h1 h2 h3 h4 h5) hc hF

end Go.Nilo
