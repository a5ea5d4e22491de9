/-
 What functions of the Go text compute, as plain functions, and that they do, part 1 of 5. Conditions: what each theorem names.
-/
import Derived.Test.YtmkacilcbfiieaaGreatNl29
import Derived.Test.YtmkacilcbfiieaaGreatProg
set_option linter.unusedVariables false
set_option linter.unusedSimpArgs false
set_option maxRecDepth 100000
set_option maxHeartbeats 4000000
namespace Go.Nilo
open Go.Proofs


structure aG where
 State:Int
 Amount:Int
 Loss:Int
@[reducible] def aK (x:aG):List Value:=[i6 x.State,i6 x.Amount,i6 x.Loss]
theorem gI:∀ x,(aK x).length=3∧rW (aK x)=true:=fun _=>⟨rfl,rfl⟩

structure aJ where
 States:Int
 Rights:List aG

structure aE where
 Lo:Int
 Hi:Int
@[reducible] def bC (x:aE):List Value:=[i6 x.Lo,i6 x.Hi]
theorem nH:∀ x,(bC x).length=2∧rW (bC x)=true:=fun _=>⟨rfl,rfl⟩

structure aI where
 Index:Int
 Due:Int
@[reducible] def aO (x:aI):List Value:=[i6 x.Index,i6 x.Due]
theorem iY:∀ x,(aO x).length=2∧rW (aO x)=true:=fun _=>⟨rfl,rfl⟩

structure aF where
 Index:aE
 Delivered:aE
 Spill:Bool
@[reducible] def aS (x:aF):List Value:=[i6 x.Index.Lo,i6 x.Index.Hi,i6 x.Delivered.Lo,i6 x.Delivered.Hi,.bool x.Spill]
theorem jP:∀ x,(aS x).length=5∧rW (aS x)=true:=fun _=>⟨rfl,rfl⟩

structure aH where
 Table:List aI
 Credit:Int

structure aB where
 Index:Int
 Delivered:Int
@[reducible] def aW (x:aB):List Value:=[i6 x.Index,i6 x.Delivered]
theorem kZ:∀ x,(aW x).length=2∧rW (aW x)=true:=fun _=>⟨rfl,rfl⟩

structure cI where
 Compact:aJ
 got:Nat→Int

structure bU where
 Least:Int
 Part:Int
 Can:List Int

structure aR where
 claim:Int
 by_:Int
@[reducible] def dN (x:aR):List Value:=[i6 x.claim,i6 x.by_]
theorem tR:∀ x,(dN x).length=2∧rW (dN x)=true:=fun _=>⟨rfl,rfl⟩

structure aM where
 N:Int
 D:Int
@[reducible] def eW (x:aM):List Value:=[i6 x.N,i6 x.D]
theorem xE:∀ x,(eW x).length=2∧rW (eW x)=true:=fun _=>⟨rfl,rfl⟩

structure dF where
 State:Int
 Amount:Int
 Loss:Int
@[reducible] def dA (x:dF):List Value:=[i6 x.State,i6 x.Amount,i6 x.Loss]
theorem wB:∀ x,(dA x).length=3∧rW (dA x)=true:=fun _=>⟨rfl,rfl⟩

structure cH where
 States:Int
 Rights:List dF

structure bS where
 Index:aE
 Delivered:aE
 Spill:Bool
@[reducible] def dE (x:bS):List Value:=[i6 x.Index.Lo,i6 x.Index.Hi,i6 x.Delivered.Lo,i6 x.Delivered.Hi,.bool x.Spill]
theorem wM:∀ x,(dE x).length=5∧rW (dE x)=true:=fun _=>⟨rfl,rfl⟩

structure cD where
 Index:Int
 Delivered:Int
@[reducible] def eV (x:cD):List Value:=[i6 x.Index,i6 x.Delivered]
theorem vY:∀ x,(eV x).length=2∧rW (eV x)=true:=fun _=>⟨rfl,rfl⟩

structure eB where
 Index:Int
 Due:Int
@[reducible] def bW (x:eB):List Value:=[i6 x.Index,i6 x.Due]
theorem wA:∀ x,(bW x).length=2∧rW (bW x)=true:=fun _=>⟨rfl,rfl⟩

structure bO where
 Table:List eB
 Credit:Int

structure pV where
 rule:Int
 divisor:aR
@[reducible] def tV (x:pV):List Value:=[i6 x.rule,i6 x.divisor.claim,i6 x.divisor.by_]
theorem aFd:∀ x,(tV x).length=3∧rW (tV x)=true:=fun _=>⟨rfl,rfl⟩

theorem fC:SlT Tryz.prog 22 3 1 8 (i6 0):=SlT.of Tryz.underlying22 (by kernel_rfl) (by decide)

theorem cY:(Tryz.prog.info? 3).map (·.size)=some 1:=by kernel_rfl

theorem bB:ScT Tryz.prog 3:=⟨⟨_,Tryz.underlying3,trivial⟩,by kernel_rfl⟩

theorem aCo:(Tryz.prog.info? 25).map (·.zero)=some (some (.agg #[i6 0,.slice none 0 0])):=by kernel_rfl

theorem aD5:fH Tryz.prog 46=some ([i6 0,i6 0,i6 0],[(0,1),(1,1),(2,1)]):=by kernel_rfl

theorem aCy:SlT Tryz.prog 23 46 3 24 (.agg #[i6 0,i6 0,i6 0]):=SlT.of Tryz.underlying23 (by kernel_rfl) (by decide)

theorem aIf:fH Tryz.prog 25=some ([i6 0,.slice none 0 0],[(0,1),(1,1)]):=by kernel_rfl

theorem aCa:(Tryz.prog.info? 25).map (·.size)=some 2:=by kernel_rfl

theorem lN:sN Tryz.prog 25 2:=⟨⟨_,Tryz.underlying25,trivial⟩,by kernel_rfl⟩

theorem en_4:En Tryz.prog 4:=En.of Tryz.func4 (by kernel_rfl) (by kernel_rfl)

theorem aG5:(Tryz.prog.info? 28).map (·.zero)=some (some (.agg #[i6 0,i6 0])):=by kernel_rfl

theorem tF:fH Tryz.prog 28=some ([i6 0,i6 0],[(0,1),(1,1)]):=by kernel_rfl

theorem aBu:(Tryz.prog.info? 28).map (·.size)=some 2:=by kernel_rfl

theorem mL:sN Tryz.prog 28 2:=⟨⟨_,Tryz.underlying28,trivial⟩,by kernel_rfl⟩

theorem tQ:En Tryz.prog 5:=En.of Tryz.func5 (by kernel_rfl) (by kernel_rfl)

theorem aFt:(Tryz.prog.info? 3).map (·.zero)=some (some (i6 0)):=by kernel_rfl

theorem aAv:(Tryz.prog.info? 32).map (·.zero)=some (some (.agg #[.slice none 0 0,i6 0])):=by kernel_rfl

theorem aGw:fH Tryz.prog 48=some ([i6 0,i6 0],[(0,1),(1,1)]):=by kernel_rfl

theorem aCk:SlT Tryz.prog 30 48 2 16 (.agg #[i6 0,i6 0]):=SlT.of Tryz.underlying30 (by kernel_rfl) (by decide)

theorem bt_32:fH Tryz.prog 32=some ([.slice none 0 0,i6 0],[(0,1),(1,1)]):=by kernel_rfl

theorem aEd:fH Tryz.prog 50=some ([i6 0,i6 0,i6 0,i6 0,.bool false],[(0,2),(2,2),(4,1)]):=by kernel_rfl

theorem aCb:SlT Tryz.prog 33 50 5 40 (.agg #[i6 0,i6 0,i6 0,i6 0,.bool false]):=SlT.of Tryz.underlying33 (by kernel_rfl) (by decide)

theorem aEa:(Tryz.prog.info? 32).map (·.size)=some 2:=by kernel_rfl

theorem lE:sN Tryz.prog 32 2:=⟨⟨_,Tryz.underlying32,trivial⟩,by kernel_rfl⟩

theorem en_6:En Tryz.prog 6:=En.of Tryz.func6 (by kernel_rfl) (by kernel_rfl)

theorem aCc:fH Tryz.prog 37=some ([i6 0,i6 0],[(0,1),(1,1)]):=by kernel_rfl

theorem aCs:SlT Tryz.prog 38 37 2 16 (.agg #[i6 0,i6 0]):=SlT.of Tryz.underlying38 (by kernel_rfl) (by decide)

theorem aCt:fH Tryz.prog 40=some ([i6 0,i6 0,.slice none 0 0],[(0,1),(1,1),(2,1)]):=by kernel_rfl

theorem qN:fH Tryz.prog 43=some ([i6 0,i6 0],[(0,1),(1,1)]):=by kernel_rfl

theorem aKw:(Tryz.prog.info? 40).map (·.zero)=some (some (.agg #[i6 0,i6 0,.slice none 0 0])):=by kernel_rfl

theorem rA:(Tryz.prog.info? 43).map (·.zero)=some (some (.agg #[i6 0,i6 0])):=by kernel_rfl

theorem aK0:(Tryz.prog.info? 40).map (·.size)=some 3:=by kernel_rfl

theorem jU:(Tryz.prog.info? 43).map (·.size)=some 2:=by kernel_rfl

theorem qP:∀ (q:Addr) (w:World),(Instr.fieldAt 25 (.pointer (some q)) 0).run Tryz.prog w=.ok (.pointer (some (q.add 0))) w:=fun _ _=>by kernel_rfl

theorem kN:∀ (q:Addr) (w:World),(Instr.fieldAt 25 (.pointer (some q)) 1).run Tryz.prog w=.ok (.pointer (some (q.add 1))) w:=fun _ _=>by kernel_rfl

theorem sD:ScT Tryz.prog 23:=⟨⟨_,Tryz.underlying23,trivial⟩,by kernel_rfl⟩

theorem sG:(Tryz.prog.info? 46).map (·.size)=some 3:=by kernel_rfl

theorem aC4:∀ (q:Addr) (w:World),(Instr.fieldAt 46 (.pointer (some q)) 0).run Tryz.prog w=.ok (.pointer (some (q.add 0))) w:=fun _ _=>by kernel_rfl

theorem xU:∀ (q:Addr) (w:World),(Instr.fieldAt 46 (.pointer (some q)) 1).run Tryz.prog w=.ok (.pointer (some (q.add 1))) w:=fun _ _=>by kernel_rfl

theorem aDg:∀ (q:Addr) (w:World),(Instr.fieldAt 46 (.pointer (some q)) 2).run Tryz.prog w=.ok (.pointer (some (q.add 2))) w:=fun _ _=>by kernel_rfl

theorem hC:∀ (q:Addr) (w:World),(Instr.fieldAt 28 (.pointer (some q)) 0).run Tryz.prog w=.ok (.pointer (some (q.add 0))) w:=fun _ _=>by kernel_rfl

theorem hI:∀ (q:Addr) (w:World),(Instr.fieldAt 28 (.pointer (some q)) 1).run Tryz.prog w=.ok (.pointer (some (q.add 1))) w:=fun _ _=>by kernel_rfl

theorem gB:∀ (q:Addr) (w:World),(Instr.fieldAt 32 (.pointer (some q)) 0).run Tryz.prog w=.ok (.pointer (some (q.add 0))) w:=fun _ _=>by kernel_rfl

theorem oH:ScT Tryz.prog 30:=⟨⟨_,Tryz.underlying30,trivial⟩,by kernel_rfl⟩

theorem oK:(Tryz.prog.info? 48).map (·.size)=some 2:=by kernel_rfl

theorem sB:∀ (q:Addr) (w:World),(Instr.fieldAt 48 (.pointer (some q)) 0).run Tryz.prog w=.ok (.pointer (some (q.add 0))) w:=fun _ _=>by kernel_rfl

theorem qR:∀ (q:Addr) (w:World),(Instr.fieldAt 48 (.pointer (some q)) 1).run Tryz.prog w=.ok (.pointer (some (q.add 1))) w:=fun _ _=>by kernel_rfl

theorem tN:∀ (q:Addr) (w:World),(Instr.fieldAt 32 (.pointer (some q)) 1).run Tryz.prog w=.ok (.pointer (some (q.add 1))) w:=fun _ _=>by kernel_rfl

theorem vD:(Tryz.prog.info? 50).map (·.size)=some 5:=by kernel_rfl

theorem vL:∀ (q:Addr) (w:World),(Instr.fieldAt 50 (.pointer (some q)) 0).run Tryz.prog w=.ok (.pointer (some (q.add 0))) w:=fun _ _=>by kernel_rfl

theorem vV:∀ (q:Addr) (w:World),(Instr.fieldAt 50 (.pointer (some q)) 1).run Tryz.prog w=.ok (.pointer (some (q.add 2))) w:=fun _ _=>by kernel_rfl

theorem zJ:(Tryz.prog.info? 37).map (·.size)=some 2:=by kernel_rfl

theorem wS:∀ (q:Addr) (w:World),(Instr.fieldAt 37 (.pointer (some q)) 0).run Tryz.prog w=.ok (.pointer (some (q.add 0))) w:=fun _ _=>by kernel_rfl

theorem aC7:∀ (q:Addr) (w:World),(Instr.fieldAt 37 (.pointer (some q)) 1).run Tryz.prog w=.ok (.pointer (some (q.add 1))) w:=fun _ _=>by kernel_rfl

theorem xT:∀ (q:Addr) (w:World),(Instr.fieldAt 40 (.pointer (some q)) 0).run Tryz.prog w=.ok (.pointer (some (q.add 0))) w:=fun _ _=>by kernel_rfl

theorem vT:∀ (q:Addr) (w:World),(Instr.fieldAt 40 (.pointer (some q)) 1).run Tryz.prog w=.ok (.pointer (some (q.add 1))) w:=fun _ _=>by kernel_rfl

theorem pO:∀ (q:Addr) (w:World),(Instr.fieldAt 40 (.pointer (some q)) 2).run Tryz.prog w=.ok (.pointer (some (q.add 2))) w:=fun _ _=>by kernel_rfl

theorem xC:ScT Tryz.prog 22:=⟨⟨_,Tryz.underlying22,trivial⟩,by kernel_rfl⟩

theorem nU:∀ (q:Addr) (w:World),(Instr.fieldAt 43 (.pointer (some q)) 0).run Tryz.prog w=.ok (.pointer (some (q.add 0))) w:=fun _ _=>by kernel_rfl

theorem lT:∀ (q:Addr) (w:World),(Instr.fieldAt 43 (.pointer (some q)) 1).run Tryz.prog w=.ok (.pointer (some (q.add 1))) w:=fun _ _=>by kernel_rfl

theorem sl_51:SlT Tryz.prog 51 44 1 8 (.pointer none):=SlT.of Tryz.underlying51 (by kernel_rfl) (by decide)

theorem aY:Tryz.prog.follows .mixedOrders=true:=by kernel_rfl

theorem lM:(Tryz.prog.info? 44).map (·.size)=some 1:=by kernel_rfl

theorem lJ:ScT Tryz.prog 44:=⟨⟨_,Tryz.underlying44,trivial⟩,by kernel_rfl⟩

theorem pD:En Tryz.prog 52:=En.of Tryz.func52 (by kernel_rfl) (by kernel_rfl)

theorem wG:sN Tryz.prog 46 3:=⟨⟨_,Tryz.underlying46,trivial⟩,by kernel_rfl⟩

theorem aMt:ScT Tryz.prog 117:=⟨⟨_,Tryz.underlying117,trivial⟩,by kernel_rfl⟩

theorem wE:En Tryz.prog 51:=En.of Tryz.func51 (by kernel_rfl) (by kernel_rfl)

theorem en_55:En Tryz.prog 55:=En.of Tryz.func55 (by kernel_rfl) (by kernel_rfl)

theorem en_90:En Tryz.prog 90:=En.of Tryz.func90 (by kernel_rfl) (by kernel_rfl)

theorem aMc:En Tryz.prog 107:=En.of Tryz.func107 (by kernel_rfl) (by kernel_rfl)

theorem en_89:En Tryz.prog 89:=En.of Tryz.func89 (by kernel_rfl) (by kernel_rfl)

theorem en_54:En Tryz.prog 54:=En.of Tryz.func54 (by kernel_rfl) (by kernel_rfl)

theorem aEr:En Tryz.prog 11:=En.of Tryz.func11 (by kernel_rfl) (by kernel_rfl)

theorem aJs:fH Tryz.prog 134=some ((lY [i6 0,.slice none 0 0] 12 aD (fun _=>0) []),[(0,2),(2,12)]):=by kernel_rfl

theorem aLv:(Tryz.prog.info? 131).map (·.zero)=some (some (.pointer none)):=by kernel_rfl

theorem aMh:(Tryz.prog.info? 131).map (·.size)=some 1:=by kernel_rfl

theorem yC:ScT Tryz.prog 131:=⟨⟨_,Tryz.underlying131,trivial⟩,by kernel_rfl⟩

theorem aK5:En Tryz.prog 68:=En.of Tryz.func68 (by kernel_rfl) (by kernel_rfl)

theorem aBv:∀ (q:Addr) (w:World),(Instr.fieldAt 134 (.pointer (some q)) 0).run Tryz.prog w=.ok (.pointer (some (q.add 0))) w:=fun _ _=>by kernel_rfl

theorem aEm:(Tryz.prog.info? 46).map (·.zero)=some (some (.agg #[i6 0,i6 0,i6 0])):=by kernel_rfl

theorem aAz:∀ (q:Addr) (w:World),(Instr.fieldAt 134 (.pointer (some q)) 1).run Tryz.prog w=.ok (.pointer (some (q.add 2))) w:=fun _ _=>by kernel_rfl

theorem en_94:En Tryz.prog 94:=En.of Tryz.func94 (by kernel_rfl) (by kernel_rfl)

theorem aLk:En Tryz.prog 95:=En.of Tryz.func95 (by kernel_rfl) (by kernel_rfl)

theorem aJb:En Tryz.prog 64:=En.of Tryz.func64 (by kernel_rfl) (by kernel_rfl)

theorem aKz:En Tryz.prog 19:=En.of Tryz.func19 (by kernel_rfl) (by kernel_rfl)

theorem aI3:En Tryz.prog 66:=En.of Tryz.func66 (by kernel_rfl) (by kernel_rfl)

theorem wF:SlT Tryz.prog 71 28 2 16 (.agg #[i6 0,i6 0]):=SlT.of Tryz.underlying71 (by kernel_rfl) (by decide)

theorem aLa:En Tryz.prog 21:=En.of Tryz.func21 (by kernel_rfl) (by kernel_rfl)

theorem zr_55:(Tryz.prog.info? 55).map (·.zero)=some (some (i6 0)):=by kernel_rfl

theorem aGq:(Tryz.prog.info? 55).map (·.size)=some 1:=by kernel_rfl

theorem aHf:ScT Tryz.prog 55:=⟨⟨_,Tryz.underlying55,trivial⟩,by kernel_rfl⟩

theorem aKt:En Tryz.prog 24:=En.of Tryz.func24 (by kernel_rfl) (by kernel_rfl)

theorem uZ:sN Tryz.prog 48 2:=⟨⟨_,Tryz.underlying48,trivial⟩,by kernel_rfl⟩

theorem aL1:ScT Tryz.prog 119:=⟨⟨_,Tryz.underlying119,trivial⟩,by kernel_rfl⟩

theorem en_57:En Tryz.prog 57:=En.of Tryz.func57 (by kernel_rfl) (by kernel_rfl)

theorem en_92:En Tryz.prog 92:=En.of Tryz.func92 (by kernel_rfl) (by kernel_rfl)

theorem aKr:En Tryz.prog 96:=En.of Tryz.func96 (by kernel_rfl) (by kernel_rfl)

theorem en_91:En Tryz.prog 91:=En.of Tryz.func91 (by kernel_rfl) (by kernel_rfl)

theorem en_56:En Tryz.prog 56:=En.of Tryz.func56 (by kernel_rfl) (by kernel_rfl)

theorem aD9:(Tryz.prog.info? 48).map (·.zero)=some (some (.agg #[i6 0,i6 0])):=by kernel_rfl

theorem aHa:En Tryz.prog 12:=En.of Tryz.func12 (by kernel_rfl) (by kernel_rfl)

theorem zK:sN Tryz.prog 50 5:=⟨⟨_,Tryz.underlying50,trivial⟩,by kernel_rfl⟩

theorem aLw:ScT Tryz.prog 168:=⟨⟨_,Tryz.underlying168,trivial⟩,by kernel_rfl⟩

theorem en_99:En Tryz.prog 99:=En.of Tryz.func99 (by kernel_rfl) (by kernel_rfl)

theorem aMw:En Tryz.prog 109:=En.of Tryz.func109 (by kernel_rfl) (by kernel_rfl)

theorem aMp:En Tryz.prog 110:=En.of Tryz.func110 (by kernel_rfl) (by kernel_rfl)

theorem aMs:En Tryz.prog 108:=En.of Tryz.func108 (by kernel_rfl) (by kernel_rfl)

theorem en_98:En Tryz.prog 98:=En.of Tryz.func98 (by kernel_rfl) (by kernel_rfl)

theorem aK9:En Tryz.prog 72:=En.of Tryz.func72 (by kernel_rfl) (by kernel_rfl)

theorem aL6:(Tryz.prog.info? 169).map (·.zero)=some (some (.map none)):=by kernel_rfl

theorem aL0:(Tryz.prog.info? 169).map (·.size)=some 1:=by kernel_rfl

theorem aIs:En Tryz.prog 73:=En.of Tryz.func73 (by kernel_rfl) (by kernel_rfl)

theorem aDr:(Tryz.prog.info? 151).map (·.zero)=some (some (.agg #[.nilFunc,.nilFunc])):=by kernel_rfl

theorem aJy:fH Tryz.prog 151=some ([.nilFunc,.nilFunc],[(0,1),(1,1)]):=by kernel_rfl

theorem aD2:(Tryz.prog.info? 151).map (·.size)=some 2:=by kernel_rfl

theorem aIu:sN Tryz.prog 151 2:=⟨⟨_,Tryz.underlying151,trivial⟩,by kernel_rfl⟩

theorem en_76:En Tryz.prog 76:=En.of Tryz.func76 (by kernel_rfl) (by kernel_rfl)

theorem en_77:En Tryz.prog 77:=En.of Tryz.func77 (by kernel_rfl) (by kernel_rfl)

theorem aJv:(Tryz.prog.info? 50).map (·.zero)=some (some (.agg #[i6 0,i6 0,i6 0,i6 0,.bool false])):=by kernel_rfl

theorem aD6:∀ (q:Addr) (w:World),(Instr.fieldAt 151 (.pointer (some q)) 0).run Tryz.prog w=.ok (.pointer (some (q.add 0))) w:=fun _ _=>by kernel_rfl

theorem aD1:ScT Tryz.prog 149:=⟨⟨_,Tryz.underlying149,trivial⟩,by kernel_rfl⟩

theorem aMf:En Tryz.prog 101:=En.of Tryz.func101 (by kernel_rfl) (by kernel_rfl)

theorem aEb:∀ (q:Addr) (w:World),(Instr.fieldAt 151 (.pointer (some q)) 1).run Tryz.prog w=.ok (.pointer (some (q.add 1))) w:=fun _ _=>by kernel_rfl

theorem aMj:En Tryz.prog 102:=En.of Tryz.func102 (by kernel_rfl) (by kernel_rfl)

theorem aDq:∀ (q:Addr) (w:World),(Instr.fieldAt 50 (.pointer (some q)) 2).run Tryz.prog w=.ok (.pointer (some (q.add 4))) w:=fun _ _=>by kernel_rfl

theorem aHq:ScT Tryz.prog 4:=⟨⟨_,Tryz.underlying4,trivial⟩,by kernel_rfl⟩

theorem aJi:ScT Tryz.prog 169:=⟨⟨_,Tryz.underlying169,trivial⟩,by kernel_rfl⟩

theorem en_97:En Tryz.prog 97:=En.of Tryz.func97 (by kernel_rfl) (by kernel_rfl)

theorem aKo:En Tryz.prog 70:=En.of Tryz.func70 (by kernel_rfl) (by kernel_rfl)

theorem aFm:En Tryz.prog 100:=En.of Tryz.func100 (by kernel_rfl) (by kernel_rfl)

theorem aMu:En Tryz.prog 103:=En.of Tryz.func103 (by kernel_rfl) (by kernel_rfl)

theorem aMx:En Tryz.prog 104:=En.of Tryz.func104 (by kernel_rfl) (by kernel_rfl)

theorem aK8:En Tryz.prog 37:=En.of Tryz.func37 (by kernel_rfl) (by kernel_rfl)

theorem tY:En Tryz.prog 14:=En.of Tryz.func14 (by kernel_rfl) (by kernel_rfl)

theorem ge_28:Tryz.prog.eqGuardType Tryz.prog.depth 28=false:=by kernel_rfl

theorem aLm (x0:Int) (x1:Int) (y0:Int) (y1:Int) (w:World):(Op.equalIn 10000 28 (.agg #[i6 x0,i6 x1]) (.agg #[i6 y0,i6 y1])).run Tryz.prog w=.ok (x0 == y0 && x1 == y1) w:=by
 rw [run_equalIn_agg w 9999 28 _ _ (by kernel_rfl) (by kernel_rfl)]
 simp [Op.eqFields,part,go_sem]
 repeat' split
 all_goals simp_all

theorem aGg:En Tryz.prog 23:=En.of Tryz.func23 (by kernel_rfl) (by kernel_rfl)

theorem aF7:ScT Tryz.prog 113:=⟨⟨_,Tryz.underlying113,trivial⟩,by kernel_rfl⟩

theorem aJn:En Tryz.prog 88:=En.of Tryz.func88 (by kernel_rfl) (by kernel_rfl)

theorem aF9:En Tryz.prog 106:=En.of Tryz.func106 (by kernel_rfl) (by kernel_rfl)

theorem aJc:En Tryz.prog 87:=En.of Tryz.func87 (by kernel_rfl) (by kernel_rfl)

theorem aI1:En Tryz.prog 53:=En.of Tryz.func53 (by kernel_rfl) (by kernel_rfl)

theorem aIh:En Tryz.prog 10:=En.of Tryz.func10 (by kernel_rfl) (by kernel_rfl)

theorem en_93:En Tryz.prog 93:=En.of Tryz.func93 (by kernel_rfl) (by kernel_rfl)

theorem aKl:En Tryz.prog 58:=En.of Tryz.func58 (by kernel_rfl) (by kernel_rfl)

theorem aK6:En Tryz.prog 59:=En.of Tryz.func59 (by kernel_rfl) (by kernel_rfl)

theorem sM:(Tryz.prog.info? 122).map (·.zero)=some (some (.agg #[i6 0,i6 0])):=by kernel_rfl

theorem aA8:fH Tryz.prog 122=some ([i6 0,i6 0],[(0,1),(1,1)]):=by kernel_rfl

theorem mJ:(Tryz.prog.info? 122).map (·.size)=some 2:=by kernel_rfl

theorem hO:sN Tryz.prog 122 2:=⟨⟨_,Tryz.underlying122,trivial⟩,by kernel_rfl⟩

theorem yX:En Tryz.prog 60:=En.of Tryz.func60 (by kernel_rfl) (by kernel_rfl)

theorem aMq:Tryz.prog.eqGuardType Tryz.prog.depth 122=false:=by kernel_rfl

theorem aJ5 (x0:Int) (x1:Int) (y0:Int) (y1:Int) (w:World):(Op.equalIn 10000 122 (.agg #[i6 x0,i6 x1]) (.agg #[i6 y0,i6 y1])).run Tryz.prog w=.ok (x0 == y0 && x1 == y1) w:=by
 rw [run_equalIn_agg w 9999 122 _ _ (by kernel_rfl) (by kernel_rfl)]
 simp [Op.eqFields,part,go_sem]
 repeat' split
 all_goals simp_all

theorem xM:∀ (q:Addr) (w:World),(Instr.fieldAt 122 (.pointer (some q)) 0).run Tryz.prog w=.ok (.pointer (some (q.add 0))) w:=fun _ _=>by kernel_rfl

theorem sT:∀ (q:Addr) (w:World),(Instr.fieldAt 122 (.pointer (some q)) 1).run Tryz.prog w=.ok (.pointer (some (q.add 1))) w:=fun _ _=>by kernel_rfl

theorem aBj:En Tryz.prog 61:=En.of Tryz.func61 (by kernel_rfl) (by kernel_rfl)

theorem aGs:En Tryz.prog 13:=En.of Tryz.func13 (by kernel_rfl) (by kernel_rfl)

theorem aL9:En Tryz.prog 105:=En.of Tryz.func105 (by kernel_rfl) (by kernel_rfl)

theorem aJd:En Tryz.prog 81:=En.of Tryz.func81 (by kernel_rfl) (by kernel_rfl)

theorem aIb:SlT Tryz.prog 157 122 2 16 (.agg #[i6 0,i6 0]):=SlT.of Tryz.underlying157 (by kernel_rfl) (by decide)

theorem en_83:En Tryz.prog 83:=En.of Tryz.func83 (by kernel_rfl) (by kernel_rfl)

theorem jW:sN Tryz.prog 43 2:=⟨⟨_,Tryz.underlying43,trivial⟩,by kernel_rfl⟩

theorem aLc:En Tryz.prog 84:=En.of Tryz.func84 (by kernel_rfl) (by kernel_rfl)

theorem aKn:En Tryz.prog 47:=En.of Tryz.func47 (by kernel_rfl) (by kernel_rfl)

theorem aLb:En Tryz.prog 45:=En.of Tryz.func45 (by kernel_rfl) (by kernel_rfl)

theorem aGn:Tryz.prog.eqGuardType Tryz.prog.depth 43=false:=by kernel_rfl

theorem aC6 (x0:Int) (x1:Int) (y0:Int) (y1:Int) (w:World):(Op.equalIn 10000 43 (.agg #[i6 x0,i6 x1]) (.agg #[i6 y0,i6 y1])).run Tryz.prog w=.ok (x0 == y0 && x1 == y1) w:=by
 rw [run_equalIn_agg w 9999 43 _ _ (by kernel_rfl) (by kernel_rfl)]
 simp [Op.eqFields,part,go_sem]
 repeat' split
 all_goals simp_all

theorem aAh:En Tryz.prog 15:=En.of Tryz.func15 (by kernel_rfl) (by kernel_rfl)

theorem en_62:En Tryz.prog 62:=En.of Tryz.func62 (by kernel_rfl) (by kernel_rfl)

theorem aJf:(Tryz.prog.info? 23).map (·.size)=some 1:=by kernel_rfl

theorem en_16:En Tryz.prog 16:=En.of Tryz.func16 (by kernel_rfl) (by kernel_rfl)

theorem aKv:(Tryz.prog.info? 67).map (·.zero)=some (some (.agg #[i6 0,.slice none 0 0])):=by kernel_rfl

theorem bt_67:fH Tryz.prog 67=some ([i6 0,.slice none 0 0],[(0,1),(1,1)]):=by kernel_rfl

theorem aK7:(Tryz.prog.info? 67).map (·.size)=some 2:=by kernel_rfl

theorem nA:∀ (q:Addr) (w:World),(Instr.fieldAt 67 (.pointer (some q)) 1).run Tryz.prog w=.ok (.pointer (some (q.add 1))) w:=fun _ _=>by kernel_rfl

theorem tZ:ScT Tryz.prog 65:=⟨⟨_,Tryz.underlying65,trivial⟩,by kernel_rfl⟩

theorem aK4:SlT Tryz.prog 65 126 3 24 (.agg #[i6 0,i6 0,i6 0]):=SlT.of Tryz.underlying65 (by kernel_rfl) (by decide)

theorem sz_65:(Tryz.prog.info? 65).map (·.size)=some 1:=by kernel_rfl

theorem xF:sN Tryz.prog 67 2:=⟨⟨_,Tryz.underlying67,trivial⟩,by kernel_rfl⟩

theorem aG1:En Tryz.prog 18:=En.of Tryz.func18 (by kernel_rfl) (by kernel_rfl)

theorem aDz:∀ (q:Addr) (w:World),(Instr.fieldAt 67 (.pointer (some q)) 0).run Tryz.prog w=.ok (.pointer (some (q.add 0))) w:=fun _ _=>by kernel_rfl

theorem nM:En Tryz.prog 63:=En.of Tryz.func63 (by kernel_rfl) (by kernel_rfl)

theorem wP:(Tryz.prog.info? 126).map (·.size)=some 3:=by kernel_rfl

theorem aL4:sN Tryz.prog 126 3:=⟨⟨_,Tryz.underlying126,trivial⟩,by kernel_rfl⟩

theorem aLr:(Tryz.prog.info? 126).map (·.zero)=some (some (.agg #[i6 0,i6 0,i6 0])):=by kernel_rfl

theorem aE9:∀ (q:Addr) (w:World),(Instr.fieldAt 126 (.pointer (some q)) 0).run Tryz.prog w=.ok (.pointer (some (q.add 0))) w:=fun _ _=>by kernel_rfl

theorem wT:∀ (q:Addr) (w:World),(Instr.fieldAt 126 (.pointer (some q)) 1).run Tryz.prog w=.ok (.pointer (some (q.add 1))) w:=fun _ _=>by kernel_rfl

theorem aEk:∀ (q:Addr) (w:World),(Instr.fieldAt 126 (.pointer (some q)) 2).run Tryz.prog w=.ok (.pointer (some (q.add 2))) w:=fun _ _=>by kernel_rfl

theorem aJw:En Tryz.prog 17:=En.of Tryz.func17 (by kernel_rfl) (by kernel_rfl)

theorem aK2:En Tryz.prog 65:=En.of Tryz.func65 (by kernel_rfl) (by kernel_rfl)

theorem aGm:En Tryz.prog 20:=En.of Tryz.func20 (by kernel_rfl) (by kernel_rfl)

theorem aGj:En Tryz.prog 67:=En.of Tryz.func67 (by kernel_rfl) (by kernel_rfl)

theorem en_22:En Tryz.prog 22:=En.of Tryz.func22 (by kernel_rfl) (by kernel_rfl)

theorem en_25:En Tryz.prog 25:=En.of Tryz.func25 (by kernel_rfl) (by kernel_rfl)

theorem ge_46:Tryz.prog.eqGuardType Tryz.prog.depth 46=false:=by kernel_rfl

theorem aMk (x0:Int) (x1:Int) (x2:Int) (y0:Int) (y1:Int) (y2:Int) (w:World):(Op.equalIn 10000 46 (.agg #[i6 x0,i6 x1,i6 x2]) (.agg #[i6 y0,i6 y1,i6 y2])).run Tryz.prog w=.ok (x0 == y0 && x1 == y1 && x2 == y2) w:=by
 rw [run_equalIn_agg w 9999 46 _ _ (by kernel_rfl) (by kernel_rfl)]
 simp [Op.eqFields,part,go_sem]
 repeat' split
 all_goals simp_all

theorem en_26:En Tryz.prog 26:=En.of Tryz.func26 (by kernel_rfl) (by kernel_rfl)

theorem aJg:En Tryz.prog 7:=En.of Tryz.func7 (by kernel_rfl) (by kernel_rfl)

theorem en_69:En Tryz.prog 69:=En.of Tryz.func69 (by kernel_rfl) (by kernel_rfl)

theorem aIl:(Tryz.prog.info? 30).map (·.size)=some 1:=by kernel_rfl

theorem en_27:En Tryz.prog 27:=En.of Tryz.func27 (by kernel_rfl) (by kernel_rfl)

theorem en_28:En Tryz.prog 28:=En.of Tryz.func28 (by kernel_rfl) (by kernel_rfl)

theorem en_29:En Tryz.prog 29:=En.of Tryz.func29 (by kernel_rfl) (by kernel_rfl)

theorem aKs:SlT Tryz.prog 83 139 5 40 (.agg #[i6 0,i6 0,i6 0,i6 0,.bool false]):=SlT.of Tryz.underlying83 (by kernel_rfl) (by decide)

theorem aCh:sN Tryz.prog 37 2:=⟨⟨_,Tryz.underlying37,trivial⟩,by kernel_rfl⟩

theorem aLh:(Tryz.prog.info? 37).map (·.zero)=some (some (.agg #[i6 0,i6 0])):=by kernel_rfl

theorem aK1:SlT Tryz.prog 84 140 2 16 (.agg #[i6 0,i6 0]):=SlT.of Tryz.underlying84 (by kernel_rfl) (by decide)

theorem en_30:En Tryz.prog 30:=En.of Tryz.func30 (by kernel_rfl) (by kernel_rfl)

theorem aLg:(Tryz.prog.info? 90).map (·.zero)=some (some (.agg #[.slice none 0 0,i6 0])):=by kernel_rfl

theorem bt_90:fH Tryz.prog 90=some ([.slice none 0 0,i6 0],[(0,1),(1,1)]):=by kernel_rfl

theorem aKm:(Tryz.prog.info? 90).map (·.size)=some 2:=by kernel_rfl

theorem jA:∀ (q:Addr) (w:World),(Instr.fieldAt 90 (.pointer (some q)) 0).run Tryz.prog w=.ok (.pointer (some (q.add 0))) w:=fun _ _=>by kernel_rfl

theorem pE:ScT Tryz.prog 88:=⟨⟨_,Tryz.underlying88,trivial⟩,by kernel_rfl⟩

theorem aLl:SlT Tryz.prog 88 141 2 16 (.agg #[i6 0,i6 0]):=SlT.of Tryz.underlying88 (by kernel_rfl) (by decide)

theorem sz_88:(Tryz.prog.info? 88).map (·.size)=some 1:=by kernel_rfl

theorem uL:sN Tryz.prog 90 2:=⟨⟨_,Tryz.underlying90,trivial⟩,by kernel_rfl⟩

theorem aGl:En Tryz.prog 32:=En.of Tryz.func32 (by kernel_rfl) (by kernel_rfl)

theorem aDa:∀ (q:Addr) (w:World),(Instr.fieldAt 90 (.pointer (some q)) 1).run Tryz.prog w=.ok (.pointer (some (q.add 1))) w:=fun _ _=>by kernel_rfl

theorem pL:(Tryz.prog.info? 141).map (·.size)=some 2:=by kernel_rfl

theorem oR:∀ (q:Addr) (w:World),(Instr.fieldAt 141 (.pointer (some q)) 0).run Tryz.prog w=.ok (.pointer (some (q.add 0))) w:=fun _ _=>by kernel_rfl

theorem rN:∀ (q:Addr) (w:World),(Instr.fieldAt 141 (.pointer (some q)) 1).run Tryz.prog w=.ok (.pointer (some (q.add 1))) w:=fun _ _=>by kernel_rfl

theorem aIj:En Tryz.prog 31:=En.of Tryz.func31 (by kernel_rfl) (by kernel_rfl)

theorem en_33:En Tryz.prog 33:=En.of Tryz.func33 (by kernel_rfl) (by kernel_rfl)

theorem aIt:sN Tryz.prog 141 2:=⟨⟨_,Tryz.underlying141,trivial⟩,by kernel_rfl⟩

theorem aIv:(Tryz.prog.info? 141).map (·.zero)=some (some (.agg #[i6 0,i6 0])):=by kernel_rfl

theorem aK3:En Tryz.prog 71:=En.of Tryz.func71 (by kernel_rfl) (by kernel_rfl)

theorem en_34:En Tryz.prog 34:=En.of Tryz.func34 (by kernel_rfl) (by kernel_rfl)

theorem en_35:En Tryz.prog 35:=En.of Tryz.func35 (by kernel_rfl) (by kernel_rfl)

theorem tM:(Tryz.prog.info? 139).map (·.size)=some 5:=by kernel_rfl

theorem vH:∀ (q:Addr) (w:World),(Instr.fieldAt 139 (.pointer (some q)) 0).run Tryz.prog w=.ok (.pointer (some (q.add 0))) w:=fun _ _=>by kernel_rfl

theorem uY:∀ (q:Addr) (w:World),(Instr.fieldAt 139 (.pointer (some q)) 1).run Tryz.prog w=.ok (.pointer (some (q.add 2))) w:=fun _ _=>by kernel_rfl

theorem aLe:En Tryz.prog 74:=En.of Tryz.func74 (by kernel_rfl) (by kernel_rfl)

theorem aD4:(Tryz.prog.info? 140).map (·.size)=some 2:=by kernel_rfl

theorem aEl:∀ (q:Addr) (w:World),(Instr.fieldAt 140 (.pointer (some q)) 0).run Tryz.prog w=.ok (.pointer (some (q.add 0))) w:=fun _ _=>by kernel_rfl

theorem aEv:∀ (q:Addr) (w:World),(Instr.fieldAt 140 (.pointer (some q)) 1).run Tryz.prog w=.ok (.pointer (some (q.add 1))) w:=fun _ _=>by kernel_rfl

theorem aA4:∀ (q:Addr) (w:World),(Instr.fieldAt 139 (.pointer (some q)) 2).run Tryz.prog w=.ok (.pointer (some (q.add 4))) w:=fun _ _=>by kernel_rfl

theorem aIx:En Tryz.prog 75:=En.of Tryz.func75 (by kernel_rfl) (by kernel_rfl)

theorem en_36:En Tryz.prog 36:=En.of Tryz.func36 (by kernel_rfl) (by kernel_rfl)

theorem aL2:sN Tryz.prog 139 5:=⟨⟨_,Tryz.underlying139,trivial⟩,by kernel_rfl⟩

theorem aMo:(Tryz.prog.info? 139).map (·.zero)=some (some (.agg #[i6 0,i6 0,i6 0,i6 0,.bool false])):=by kernel_rfl

theorem en_38:En Tryz.prog 38:=En.of Tryz.func38 (by kernel_rfl) (by kernel_rfl)

theorem ge_48:Tryz.prog.eqGuardType Tryz.prog.depth 48=false:=by kernel_rfl

theorem aMn (x0:Int) (x1:Int) (y0:Int) (y1:Int) (w:World):(Op.equalIn 10000 48 (.agg #[i6 x0,i6 x1]) (.agg #[i6 y0,i6 y1])).run Tryz.prog w=.ok (x0 == y0 && x1 == y1) w:=by
 rw [run_equalIn_agg w 9999 48 _ _ (by kernel_rfl) (by kernel_rfl)]
 simp [Op.eqFields,part,go_sem]
 repeat' split
 all_goals simp_all

theorem en_39:En Tryz.prog 39:=En.of Tryz.func39 (by kernel_rfl) (by kernel_rfl)

theorem ge_50:Tryz.prog.eqGuardType Tryz.prog.depth 50=false:=by kernel_rfl

theorem aLz (x0:Int) (x1:Int) (x2:Int) (x3:Int) (x4:Bool) (y0:Int) (y1:Int) (y2:Int) (y3:Int) (y4:Bool) (w:World):(Op.equalIn 10000 50 (.agg #[i6 x0,i6 x1,i6 x2,i6 x3,.bool x4]) (.agg #[i6 y0,i6 y1,i6 y2,i6 y3,.bool y4])).run Tryz.prog w=.ok (x0 == y0 && x1 == y1 && x2 == y2 && x3 == y3 && x4 == y4) w:=by
 rw [run_equalIn_agg w 9999 50 _ _ (by kernel_rfl) (by kernel_rfl)]
 simp [Op.eqFields,part,go_sem]
 repeat' split
 all_goals simp_all

theorem en_40:En Tryz.prog 40:=En.of Tryz.func40 (by kernel_rfl) (by kernel_rfl)

theorem ge_37:Tryz.prog.eqGuardType Tryz.prog.depth 37=false:=by kernel_rfl

theorem aMg (x0:Int) (x1:Int) (y0:Int) (y1:Int) (w:World):(Op.equalIn 10000 37 (.agg #[i6 x0,i6 x1]) (.agg #[i6 y0,i6 y1])).run Tryz.prog w=.ok (x0 == y0 && x1 == y1) w:=by
 rw [run_equalIn_agg w 9999 37 _ _ (by kernel_rfl) (by kernel_rfl)]
 simp [Op.eqFields,part,go_sem]
 repeat' split
 all_goals simp_all

theorem en_41:En Tryz.prog 41:=En.of Tryz.func41 (by kernel_rfl) (by kernel_rfl)

theorem en_8:En Tryz.prog 8:=En.of Tryz.func8 (by kernel_rfl) (by kernel_rfl)

theorem aIe:sN Tryz.prog 40 3:=⟨⟨_,Tryz.underlying40,trivial⟩,by kernel_rfl⟩

theorem aIa:En Tryz.prog 42:=En.of Tryz.func42 (by kernel_rfl) (by kernel_rfl)

theorem en_43:En Tryz.prog 43:=En.of Tryz.func43 (by kernel_rfl) (by kernel_rfl)

theorem aLi:En Tryz.prog 78:=En.of Tryz.func78 (by kernel_rfl) (by kernel_rfl)

theorem wU:En Tryz.prog 80:=En.of Tryz.func80 (by kernel_rfl) (by kernel_rfl)

theorem aJp:En Tryz.prog 79:=En.of Tryz.func79 (by kernel_rfl) (by kernel_rfl)

theorem en_44:En Tryz.prog 44:=En.of Tryz.func44 (by kernel_rfl) (by kernel_rfl)

theorem aIw:En Tryz.prog 82:=En.of Tryz.func82 (by kernel_rfl) (by kernel_rfl)

theorem en_46:En Tryz.prog 46:=En.of Tryz.func46 (by kernel_rfl) (by kernel_rfl)

theorem aFx:SlT Tryz.prog 160 43 2 16 (.agg #[i6 0,i6 0]):=SlT.of Tryz.underlying160 (by kernel_rfl) (by decide)

theorem en_85:En Tryz.prog 85:=En.of Tryz.func85 (by kernel_rfl) (by kernel_rfl)

theorem aKq:En Tryz.prog 50:=En.of Tryz.func50 (by kernel_rfl) (by kernel_rfl)

theorem en_48:En Tryz.prog 48:=En.of Tryz.func48 (by kernel_rfl) (by kernel_rfl)

theorem aMi:fH Tryz.prog 164=some ([i6 0,i6 0,i6 0],[(0,1),(1,2)]):=by kernel_rfl

theorem aEf:∀ (q:Addr) (w:World),(Instr.fieldAt 164 (.pointer (some q)) 0).run Tryz.prog w=.ok (.pointer (some (q.add 0))) w:=fun _ _=>by kernel_rfl

theorem aKy:ScT Tryz.prog 41:=⟨⟨_,Tryz.underlying41,trivial⟩,by kernel_rfl⟩

theorem aEn:∀ (q:Addr) (w:World),(Instr.fieldAt 164 (.pointer (some q)) 1).run Tryz.prog w=.ok (.pointer (some (q.add 1))) w:=fun _ _=>by kernel_rfl

theorem en_86:En Tryz.prog 86:=En.of Tryz.func86 (by kernel_rfl) (by kernel_rfl)

theorem en_49:En Tryz.prog 49:=En.of Tryz.func49 (by kernel_rfl) (by kernel_rfl)

theorem en_9:En Tryz.prog 9:=En.of Tryz.func9 (by kernel_rfl) (by kernel_rfl)

theorem sz_22:(Tryz.prog.info? 22).map (·.size)=some 1:=by kernel_rfl

def pK (N:Nat)  : Option (aJ) :=
 some (⟨2,([(⟨0,100,50⟩:aG),(⟨1,60,100⟩:aG),(⟨0,40,0⟩:aG)]:List aG)⟩:aJ)
theorem qU {N:Nat} {G:bA} {Lf:List Ent} {w:World}    (hc:Ctx G (Lf) w) {B:aJ} (hF:pK N=some B):Calls Tryz.prog 4 #[] w (fun e w=>∃ (I:Option Addr) (H:Nat),e=.returned (.agg #[i6 B.States,.slice I B.Rights.length H])∧Ctx G (.row I H (B.Rights.map aK) 46 3::Lf) w):=by
 unfold pK at hF
 refine cG Tryz.func4 rfl Tryz.ntmps4 rfl fun a hf=>zS fun K h=>zA hf hc aCo rfl fun J a w hf hc=>zT h ?_
 refine zS fun K h=>zP hf rfl (bG (cells:=[i6 0,i6 100,i6 50]) aD5 rfl rfl) fun a hf=>zP hf rfl (bG (cells:=[i6 1,i6 60,i6 100]) aD5 rfl rfl) fun a hf=>zP hf rfl (bG (cells:=[i6 0,i6 40,i6 0]) aD5 rfl rfl) fun a hf=>gV (rows:=([(⟨0,100,50⟩:aG),(⟨1,60,100⟩:aG),(⟨0,40,0⟩:aG)]:List aG).map aK) (vs:=[(0,.agg #[i6 0,i6 100,i6 50]),(1,.agg #[i6 1,i6 60,i6 100]),(2,.agg #[i6 0,i6 40,i6 0])]) hf hc rfl rfl aCy rfl ⟨rfl,rfl,rfl,rfl,rfl,rfl,rfl,rfl,rfl,trivial⟩ rfl rfl fun D a w hf hc=>zP hf rfl (bG (cells:=[i6 2,.slice (some ⟨D,0,none⟩) 3 3]) aIf rfl rfl) fun a hf=>zW hf hc aCa u1 rfl fun w hc=>zT h ?_
 refine wp_ret ?_
 obtain rfl:=sj hF
 exact oO (by simp) rfl Tryz.results4 hf hc (dQ (vs:=[i6 2,.slice (some ⟨D,0,none⟩) 3 3]) lN rfl rfl (cA (n:=2) m1 rfl)) ⟨(some ⟨D,0,none⟩),3,rfl,(hc.drop k1)⟩

def eE (N:Nat) (lo:Int) (B:Int):Option (aE) :=
 some (⟨lo,B⟩:aE)
theorem cJ {N:Nat} {G:bA} {Lf:List Ent} {w:World} (lo:Int) (B:Int)   (hc:Ctx G (Lf) w) {D:aE} (hF:eE N lo B=some D):Calls Tryz.prog 5 #[i6 lo,i6 B] w (fun e w=>e=.returned (.agg #[i6 D.Lo,i6 D.Hi])∧Ctx G (Lf) w):=by
 unfold eE at hF
 refine cG Tryz.func5 rfl Tryz.ntmps5 rfl fun a hf=>zS fun K h=>zA hf hc aG5 rfl fun H a w hf hc=>zT h ?_
 refine zS fun K h=>sp 2 hf rfl fun a hf=>zP hf rfl (bG (cells:=[i6 lo,i6 B]) tF rfl rfl) fun a hf=>zW hf hc aBu u0 rfl fun w hc=>zT h ?_
 refine wp_ret ?_
 obtain rfl:=sj hF
 exact oO (by simp) rfl Tryz.results5 hf hc (dQ (vs:=[i6 lo,i6 B]) mL rfl rfl (cA (n:=2) m0 rfl)) ⟨rfl,(hc.drop k0)⟩

def rJ (N:Nat)  : Option (aH × (List aF)) :=
 Option.bind (eE N 140 160) fun r=>
 Option.bind (eE N 20 24) fun J=>
 Option.bind (eE N 90 90) fun D=>
 Option.bind (eE N 30 40) fun B=>
 Option.bind (eE N 0 500) fun I=>
 Option.bind (eE N 0 1) fun H=>
 some ((⟨([(⟨100,10⟩:aI),(⟨200,40⟩:aI)]:List aI),15⟩:aH),([(⟨r,J,false⟩:aF),(⟨D,B,false⟩:aF),(⟨I,H,true⟩:aF)]:List aF))
theorem wC {N:Nat} {G:bA} {Lf:List Ent} {w:World}    (hc:Ctx G (Lf) w) {M:aH × (List aF)} (hF:rJ N=some M):Calls Tryz.prog 6 #[] w (fun e w=>∃ (V:Option Addr) (U:Nat) (R:Option Addr) (S:Nat),e=.returned (.tuple #[.agg #[.slice V M.1.Table.length U,i6 M.1.Credit],.slice R M.2.length S])∧Ctx G (.row V U (M.1.Table.map aO) 48 2::.row R S (M.2.map aS) 50 5::Lf) w):=by
 unfold rJ at hF
 refine cG Tryz.func6 rfl Tryz.ntmps6 rfl fun a hf=>zS fun K h=>zA hf hc aAv rfl fun i a w hf hc=>sp 1 hf rfl fun a hf=>zT h ?_
 refine zS fun K h=>zP hf rfl (bG (cells:=[i6 100,i6 10]) aGw rfl rfl) fun a hf=>zP hf rfl (bG (cells:=[i6 200,i6 40]) aGw rfl rfl) fun a hf=>gV (rows:=([(⟨100,10⟩:aI),(⟨200,40⟩:aI)]:List aI).map aO) (vs:=[(0,.agg #[i6 100,i6 10]),(1,.agg #[i6 200,i6 40])]) hf hc rfl rfl aCk rfl ⟨rfl,rfl,rfl,rfl,rfl,rfl,trivial⟩ rfl rfl fun O a w hf hc=>zP hf rfl (bG (cells:=[.slice (some ⟨O,0,none⟩) 2 2,i6 15]) bt_32 rfl rfl) fun a hf=>?_
 obtain ⟨r,hr,hF⟩:=aA hF
 refine zQ (v:=.agg #[i6 r.Lo,i6 r.Hi]) hf hc tQ rfl (fun w hc=>cJ 140 160 hc hr) fun a w hf hc=>?_
 obtain ⟨B,X,hF⟩:=aA hF
 refine zQ (v:=.agg #[i6 B.Lo,i6 B.Hi]) hf hc tQ rfl (fun w hc=>cJ 20 24 hc X) fun a w hf hc=>zP hf rfl (bG (cells:=[i6 r.Lo,i6 r.Hi,i6 B.Lo,i6 B.Hi,.bool false]) aEd rfl rfl) fun a hf=>?_
 obtain ⟨D,Z,hF⟩:=aA hF
 refine zQ (v:=.agg #[i6 D.Lo,i6 D.Hi]) hf hc tQ rfl (fun w hc=>cJ 90 90 hc Z) fun a w hf hc=>?_
 obtain ⟨I,d,hF⟩:=aA hF
 refine zQ (v:=.agg #[i6 I.Lo,i6 I.Hi]) hf hc tQ rfl (fun w hc=>cJ 30 40 hc d) fun a w hf hc=>zP hf rfl (bG (cells:=[i6 D.Lo,i6 D.Hi,i6 I.Lo,i6 I.Hi,.bool false]) aEd rfl rfl) fun a hf=>?_
 obtain ⟨H,b,hF⟩:=aA hF
 refine zQ (v:=.agg #[i6 H.Lo,i6 H.Hi]) hf hc tQ rfl (fun w hc=>cJ 0 500 hc b) fun a w hf hc=>?_
 obtain ⟨J,Y,hF⟩:=aA hF
 refine zQ (v:=.agg #[i6 J.Lo,i6 J.Hi]) hf hc tQ rfl (fun w hc=>cJ 0 1 hc Y) fun a w hf hc=>zP hf rfl (bG (cells:=[i6 H.Lo,i6 H.Hi,i6 J.Lo,i6 J.Hi,.bool true]) aEd rfl rfl) fun a hf=>gV (rows:=([(⟨r,B,false⟩:aF),(⟨D,I,false⟩:aF),(⟨H,J,true⟩:aF)]:List aF).map aS) (vs:=[(0,.agg #[i6 r.Lo,i6 r.Hi,i6 B.Lo,i6 B.Hi,.bool false]),(1,.agg #[i6 D.Lo,i6 D.Hi,i6 I.Lo,i6 I.Hi,.bool false]),(2,.agg #[i6 H.Lo,i6 H.Hi,i6 J.Lo,i6 J.Hi,.bool true])]) hf hc rfl rfl aCb rfl ⟨rfl,rfl,rfl,rfl,rfl,rfl,rfl,rfl,rfl,trivial⟩ rfl rfl fun g a w hf hc=>zW hf hc aEa u2 rfl fun w hc=>sp 1 hf rfl fun a hf=>zT h ?_
 refine wp_ret ?_
 obtain rfl:=sj hF
 replace hc:=(hc.pick k0).pick k1
 exact aMl (by simp) rfl Tryz.results6 hf hc (dQ (vs:=[.slice (some ⟨O,0,none⟩) 2 2,i6 15]) lE rfl rfl (cA (n:=2) m2 rfl)) (show jV _ 1=_ from rfl) ⟨(some ⟨O,0,none⟩),2,(some ⟨g,0,none⟩),3,rfl,(hc.drop k2)⟩

def aQ (n:Int) (D:Int) (B:Int):Bool :=
 ((decide (D≤n)) && (decide (n≤B)))
theorem dO {G:bA} {Lf:List Ent} {w:World} (n:Int) (B:Int) (D:Int)   (hc:Ctx G (Lf) w) {H:Bool} (hF:aQ n B D=H):Calls Tryz.prog 52 #[i6 n,i6 B,i6 D] w (fun e w=>e=.returned (.bool H)∧Ctx G (Lf) w):=by
 unfold aQ at hF
 refine cG Tryz.func52 rfl Tryz.ntmps52 rfl fun a hf=>zS fun K h=>sp 1 hf rfl fun a hf=>zT h ?_
 refine zS fun K h=>sp 4 hf rfl fun a hf=>cP 4 (fun a=>Has 15 a [(0,i6 n),(1,i6 B),(2,i6 D),(6,.bool false),(7,i6 n),(8,i6 B),(9,.bool (decide (B≤n))),(10,.bool (decide (B≤n))),(14,.bool ((decide (B≤n)) && (decide (n≤D))))]) hc ?_ ?_
 ·cases hb:(decide (B≤n))
  ·rw [hb] at hf
   refine stS hf rfl rfl rfl fun a hf=>stS hf rfl rfl rfl fun a hf=>stS hf rfl rfl rfl fun a hf=>sp 1 hf rfl fun a hf=>aP ⟨hf.kp rfl,hc⟩
  ·rw [hb] at hf
   refine sp 4 hf rfl fun a hf=>aP ⟨hf.kp rfl,hc⟩
 intro a w ⟨hf,hc⟩
 refine sp 1 hf rfl fun a hf=>zT h ?_
 refine wp_ret ?_
 obtain rfl:=hF
 exact zO1 Tryz.results52 hf rfl ⟨rfl,hc⟩

def bD (n:Int):Bool :=
 (aQ n 0 1000000000)
theorem fI {G:bA} {Lf:List Ent} {w:World} (n:Int)   (hc:Ctx G (Lf) w) {B:Bool} (hF:bD n=B):Calls Tryz.prog 51 #[i6 n] w (fun e w=>e=.returned (.bool B)∧Ctx G (Lf) w):=by
 unfold bD at hF
 refine cG Tryz.func51 rfl Tryz.ntmps51 rfl fun a hf=>zS fun K h=>sp 1 hf rfl fun a hf=>zT h ?_
 refine zS fun K h=>sp 1 hf rfl fun a hf=>zQ (v:=.bool (aQ n 0 1000000000)) hf hc pD rfl (fun w hc=>dO n 0 1000000000 hc rfl) fun a w hf hc=>sp 1 hf rfl fun a hf=>zT h ?_
 refine wp_ret ?_
 obtain rfl:=hF
 exact zO1 Tryz.results51 hf rfl ⟨rfl,hc⟩

def nO (r:aG) (x:aJ):Bool :=
 (((aQ r.State 0 (W (x.States - 1))) && (bD r.Amount)) && (aQ r.Loss 0 1000))
theorem yG {G:bA} {Lf:List Ent} {w:World} (r:aG) (x:aJ) {b_:Nat} {D:Option Addr} {B:Nat} (I:Rd G 3 D B (x.Rights.map aK)) (hc:Ctx G (.box b_ [i6 x.States,.slice D x.Rights.length B] 25::Lf) w) {J:Bool} (hF:nO r x=J):Calls Tryz.prog 55 #[.agg #[i6 r.State,i6 r.Amount,i6 r.Loss],pq b_] w (fun e w=>e=.returned (.bool J)∧Ctx G (.box b_ [i6 x.States,.slice D x.Rights.length B] 25::Lf) w):=by
 unfold nO at hF
 refine cG Tryz.func55 rfl Tryz.ntmps55 rfl fun a hf=>zS fun K h=>zB hf hc rfl fun H a w hf hc=>sp 1 hf rfl fun a hf=>zT h ?_
 refine zS fun K h=>zP hf rfl (pFA aC4 rfl) fun a hf=>zL hf hc bB m0 rfl fun a w hf hc=>zP hf rfl (pFA qP rfl) fun a hf=>zL hf hc bB m1 rfl fun a w hf hc=>sp 1 hf rfl fun a hf=>zQ (v:=.bool (aQ r.State 0 (W (x.States - 1)))) hf hc pD rfl (fun w hc=>dO r.State 0 (W (x.States - 1)) hc rfl) fun a w hf hc=>sp 1 hf rfl fun a hf=>cP 4 (fun a=>Has 20 a [(1,pq b_),(2,pq H),(3,.bool false),(4,pq H),(5,i6 r.State),(6,pq b_),(7,i6 x.States),(8,i6 (W (x.States - 1))),(9,.bool (aQ r.State 0 (W (x.States - 1)))),(10,.bool (aQ r.State 0 (W (x.States - 1)))),(14,.bool ((aQ r.State 0 (W (x.States - 1))) && (bD r.Amount)))]) hc ?_ ?_
 ·cases hb:(aQ r.State 0 (W (x.States - 1)))
  ·rw [hb] at hf
   refine stS hf rfl rfl rfl fun a hf=>stS hf rfl rfl rfl fun a hf=>stS hf rfl rfl rfl fun a hf=>sp 1 hf rfl fun a hf=>aP ⟨hf.kp rfl,hc⟩
  ·rw [hb] at hf
   refine zP hf rfl (pFA xU rfl) fun a hf=>zL hf hc bB m0 rfl fun a w hf hc=>zQ (v:=.bool (bD r.Amount)) hf hc wE rfl (fun w hc=>fI r.Amount hc rfl) fun a w hf hc=>sp 1 hf rfl fun a hf=>aP ⟨hf.kp rfl,hc⟩
 intro a w ⟨hf,hc⟩
 refine sp 1 hf rfl fun a hf=>cP 4 (fun a=>Has 20 a [(1,pq b_),(2,pq H),(3,.bool false),(4,pq H),(5,i6 r.State),(6,pq b_),(7,i6 x.States),(8,i6 (W (x.States - 1))),(9,.bool (aQ r.State 0 (W (x.States - 1)))),(10,.bool (aQ r.State 0 (W (x.States - 1)))),(14,.bool ((aQ r.State 0 (W (x.States - 1))) && (bD r.Amount))),(15,.bool ((aQ r.State 0 (W (x.States - 1))) && (bD r.Amount))),(19,.bool (((aQ r.State 0 (W (x.States - 1))) && (bD r.Amount)) && (aQ r.Loss 0 1000)))]) hc ?_ ?_
 ·cases hb:((aQ r.State 0 (W (x.States - 1))) && (bD r.Amount))
  ·rw [hb] at hf
   refine stS hf rfl rfl rfl fun a hf=>stS hf rfl rfl rfl fun a hf=>stS hf rfl rfl rfl fun a hf=>sp 1 hf rfl fun a hf=>aP ⟨hf.kp rfl,hc⟩
  ·rw [hb] at hf
   refine zP hf rfl (pFA aDg rfl) fun a hf=>zL hf hc bB m0 rfl fun a w hf hc=>zQ (v:=.bool (aQ r.Loss 0 1000)) hf hc pD rfl (fun w hc=>dO r.Loss 0 1000 hc rfl) fun a w hf hc=>sp 1 hf rfl fun a hf=>aP ⟨hf.kp rfl,hc⟩
 intro a w ⟨hf,hc⟩
 refine sp 1 hf rfl fun a hf=>zT h ?_
 refine wp_ret ?_
 obtain rfl:=hF
 replace hc:=hc.drop k0
 exact zO1 Tryz.results55 hf rfl ⟨rfl,hc⟩

def cT (x:aG) (B:aJ):Bool :=
 (!(nO x B))
theorem qF {G:bA} {Lf:List Ent} {w:World} (x:aG) (H:aJ) {b_:Nat} {J:Nat} {D:Option Addr} {B:Nat} (I:Rd G 3 D B (H.Rights.map aK)) (hc:Ctx G (.box b_ [.func (.func 55) #[] #[pq J]] 117::.box J [i6 H.States,.slice D H.Rights.length B] 25::Lf) w) {M:Bool} (hF:cT x H=M):Calls Tryz.prog 90 #[.agg #[i6 x.State,i6 x.Amount,i6 x.Loss],pq b_] w (fun e w=>e=.returned (.bool M)∧Ctx G (.box b_ [.func (.func 55) #[] #[pq J]] 117::.box J [i6 H.States,.slice D H.Rights.length B] 25::Lf) w):=by
 unfold cT at hF
 refine cG Tryz.func90 rfl Tryz.ntmps90 rfl fun a hf=>zS fun K h=>zB hf hc rfl fun O a w hf hc=>sp 1 hf rfl fun a hf=>zT h ?_
 refine zS fun K h=>zL hf hc aMt m1 rfl fun a w hf hc=>zN hf hc wG m0 rfl fun a w hf hc=>zQ (v:=.bool (nO x H)) hf hc en_55 rfl (fun w hc=>(yG x H I (hc.pick k2) rfl).mono fun e w h=>⟨h.1,(h.2.unpick k2)⟩) fun a w hf hc=>sp 2 hf rfl fun a hf=>zT h ?_
 refine wp_ret ?_
 obtain rfl:=hF
 replace hc:=hc.drop k0
 exact zO1 Tryz.results90 hf rfl ⟨rfl,hc⟩

def dS (N:Nat) (s_:List aG) (f_:aJ) (x:Int):Option (bH (Int) (Int)) :=
 cond (decide (x < ((s_.length:Nat):Int)))
 (Option.bind (aZ s_ x) fun B=>
 cond (cT B f_)
 (some (.ret x))
 (some (.cont (W (x + 1)))))
 (some (.brk x))
def dC (N:Nat) (s_:List aG) (f_:aJ):Option (Int) :=
 Option.bind (aT (fun s4=>dS N s_ f_ s4) N 0) fun x4=>
 exK x4 (fun s4=>some (-1)) some
theorem lF {N:Nat} {G:bA} {Lf:List Ent} {w:World} (s_:List aG) (f_:aJ) {O:Option Addr} {R:Nat} {b_:Nat} {H:Nat} {D:Option Addr} {B:Nat} (X:Rd G 3 O R (s_.map aK)) (J:Rd G 3 D B (f_.Rights.map aK)) (hc:Ctx G (.box b_ [.func (.func 55) #[] #[pq H]] 117::.box H [i6 f_.States,.slice D f_.Rights.length B] 25::Lf) w) {U:Int} (hF:dC N s_ f_=some U):Calls Tryz.prog 107 #[.slice O s_.length R,.func (.func 90) #[] #[pq b_]] w (fun e w=>e=.returned (i6 U)∧Ctx G (.box b_ [.func (.func 55) #[] #[pq H]] 117::.box H [i6 f_.States,.slice D f_.Rights.length B] 25::Lf) w):=by
 unfold dC at hF
 refine cG Tryz.func107 rfl Tryz.ntmps107 rfl fun a hf=>zS fun K h=>sp 1 hf rfl fun a hf=>zT h ?_
 refine wp_seq_k fun K2 h2=>zS fun K h=>sp 1 hf rfl fun a hf=>zP hf rfl (bL Tryz.underlying23 rfl) fun a hf=>sp 1 hf rfl fun a hf=>zT h ?_
 refine wp_block ?_
 obtain ⟨x4,Y,hF⟩:=aA hF
 let S4:Int→Act→World→Prop:=(fun (zz:Int) a w=>Has 19 a [(0,.slice O s_.length R),(1,.func (.func 90) #[] #[pq b_]),(7,i6 ((s_.length:Nat):Int)),(8,i6 zz)]∧Ctx G (.box b_ [.func (.func 55) #[] #[pq H]] 117::.box H [i6 f_.States,.slice D f_.Rights.length B] 25::Lf) w)
 have b:∀ (zz:Int) a w,x4=.go zz→S4 zz a w→K2 a w:=by
  rintro x a w rfl ⟨hf,hc⟩
  replace hF:=bQ hF
  refine h2 _ _ ?_
  refine zS fun K h=>sp 1 hf rfl fun a hf=>zT h ?_
  refine wp_ret ?_
  obtain rfl:=sj hF
  exact zO1 Tryz.results107 hf rfl ⟨rfl,hc⟩
 have d:∀ r,x4=.out r→r=U:=by
  rintro r rfl
  exact sj hF
 refine cX N (cV (S:=S4) (x:=x4) ?_ N 0 _ _ ⟨hf.kp rfl,hc⟩ Y)
 clear hF hf hc
 rintro x i a w KB4 ⟨hf,hc⟩ hF I Z
 unfold dS at hF
 refine zS fun K h=>sp 1 hf rfl fun a hf=>zT h ?_
 refine wp_seq_k fun K7 h7=>zI hf rfl hF ?_ ?_ <;> clear hF <;> intro hF
 ·refine wp_skip ?_
  refine h7 _ _ ?_
  refine wp_seq_k fun K8 h8=>wp_block ?_
  refine zS fun K h=>sp 2 hf rfl fun a hf=>zT h ?_
  refine zS fun K h=>sp 3 hf rfl fun a hf=>?_
  obtain ⟨M,V,hF⟩:=aA hF
  obtain ⟨g,o,qa,qp⟩:=X.atm V
  refine zP hf rfl (pIA Tryz.underlying23 sG rfl rfl qa) fun a hf=>zE hf hc rfl (kG (vs:=[i6 M.State,i6 M.Amount,i6 M.Loss]) wG rfl rfl (cR qp (n:=3) (o':=0) rfl)) fun a w hf hc=>zQ (v:=.bool (cT M f_)) hf hc en_90 rfl (fun w hc=>(qF M f_ J ((hc.pick k1).pick k1) rfl).mono fun e w h=>⟨h.1,((h.2.unpick k1).unpick k1)⟩) fun a w hf hc=>zT h ?_
  refine zI hf rfl hF ?_ ?_ <;> clear hF <;> intro hF
  ·refine zS fun K h=>sp 2 hf rfl fun a hf=>zT h ?_
   refine wp_ret ?_
   refine bI ?_
   refine aN ?_
   refine aN ?_
   have he:=sj hF
   rw [← he] at I
   replace hF:=d _ I
   refine bI ?_
   refine aN ?_
   obtain rfl:=hF
   exact zO1 Tryz.results107 hf rfl ⟨rfl,hc⟩
  ·refine wp_skip ?_
   refine h8 _ _ ?_
   refine bR ?_
   refine sp 2 hf rfl fun a hf=>aP ?_
   exact Z (W (x + 1)) _ _ (sj hF).symm ⟨hf.kp rfl,hc⟩
 ·refine wp_exit ?_
  refine bE ?_
  refine bE ?_
  have he:=sj hF
  rw [← he] at I
  refine eX ?_
  exact b _ _ _ I ⟨hf.kp rfl,hc⟩

def cL (N:Nat) (s_:List aG) (f_:aJ):Option (Bool) :=
 Option.bind (dC N s_ f_) fun r=>
 some (decide (0≤r))
theorem kC {N:Nat} {G:bA} {Lf:List Ent} {w:World} (s_:List aG) (f_:aJ) {M:Option Addr} {J:Nat} {b_:Nat} {I:Nat} {D:Option Addr} {B:Nat} (R:Rd G 3 M J (s_.map aK)) (H:Rd G 3 D B (f_.Rights.map aK)) (hc:Ctx G (.box b_ [.func (.func 55) #[] #[pq I]] 117::.box I [i6 f_.States,.slice D f_.Rights.length B] 25::Lf) w) {O:Bool} (hF:cL N s_ f_=some O):Calls Tryz.prog 89 #[.slice M s_.length J,.func (.func 90) #[] #[pq b_]] w (fun e w=>e=.returned (.bool O)∧Ctx G (.box b_ [.func (.func 55) #[] #[pq I]] 117::.box I [i6 f_.States,.slice D f_.Rights.length B] 25::Lf) w):=by
 unfold cL at hF
 refine cG Tryz.func89 rfl Tryz.ntmps89 rfl fun a hf=>zS fun K h=>sp 1 hf rfl fun a hf=>zT h ?_
 refine zS fun K h=>sp 2 hf rfl fun a hf=>?_
 obtain ⟨r,hr,hF⟩:=aA hF
 refine zQ (v:=i6 r) hf hc aMc rfl (fun w hc=>(lF s_ f_ R H ((hc.pick k1).pick k1) hr).mono fun e w h=>⟨h.1,((h.2.unpick k1).unpick k1)⟩) fun a w hf hc=>sp 2 hf rfl fun a hf=>zT h ?_
 refine wp_ret ?_
 obtain rfl:=sj hF
 exact zO1 Tryz.results89 hf rfl ⟨rfl,hc⟩

def fX (N:Nat) (l:List aG) (so:aJ):Option (Bool) :=
 Option.bind (cL N l so) fun r=>
 some (!r)
theorem rK {N:Nat} {G:bA} {Lf:List Ent} {w:World} (l:List aG) (so:aJ) {M:Option Addr} {I:Nat} {b_:Nat} {D:Option Addr} {B:Nat} (R:Rd G 3 M I (l.map aK)) (H:Rd G 3 D B (so.Rights.map aK)) (hc:Ctx G (.box b_ [i6 so.States,.slice D so.Rights.length B] 25::Lf) w) {J:Bool} (hF:fX N l so=some J):Calls Tryz.prog 54 #[.slice M l.length I,.func (.func 55) #[] #[pq b_]] w (fun e w=>e=.returned (.bool J)∧Ctx G (.box b_ [i6 so.States,.slice D so.Rights.length B] 25::Lf) w):=by
 unfold fX at hF
 refine cG Tryz.func54 rfl Tryz.ntmps54 rfl fun a hf=>zS fun K h=>zB hf hc rfl fun O a w hf hc=>sp 1 hf rfl fun a hf=>zT h ?_
 refine zS fun K h=>sp 1 hf rfl fun a hf=>zP hf rfl (pMF (us:=[pq O]) rfl rfl) fun a hf=>?_
 obtain ⟨r,hr,hF⟩:=aA hF
 refine zQ (v:=.bool r) hf hc en_89 rfl (fun w hc=>(kC l so R H ((hc.pick k1).pick k1) hr).mono fun e w h=>⟨h.1,((h.2.unpick k1).unpick k1)⟩) fun a w hf hc=>sp 2 hf rfl fun a hf=>zT h ?_
 refine wp_ret ?_
 obtain rfl:=sj hF
 replace hc:=hc.drop k0
 exact zO1 Tryz.results54 hf rfl ⟨rfl,hc⟩

def hY (N:Nat) (c_:aJ):Option (Int) :=
 cond ((!(aQ c_.States 1 12)) || (!(aQ ((c_.Rights.length:Nat):Int) 1 30)))
 (some 3)
 (Option.bind (fX N c_.Rights c_) fun r=>
 cond (!r)
 (some 100)
 (some 0))
theorem mX {N:Nat} {G:bA} {Lf:List Ent} {w:World} (c_:aJ) {B:Option Addr} {H:Nat} (D:Rd G 3 B H (c_.Rights.map aK)) (hc:Ctx G (Lf) w) {J:Int} (hF:hY N c_=some J):Calls Tryz.prog 11 #[.agg #[i6 c_.States,.slice B c_.Rights.length H]] w (fun e w=>e=.returned (i6 J)∧Ctx G (Lf) w):=by
 unfold hY at hF
 refine cG Tryz.func11 rfl Tryz.ntmps11 rfl fun a hf=>zS fun K h=>zB hf hc rfl fun I a w hf hc=>sp 1 hf rfl fun a hf=>zT h ?_
 refine wp_seq_k fun K2 h2=>wp_block ?_
 refine zS fun K h=>zP hf rfl (pFA qP rfl) fun a hf=>zL hf hc bB m0 rfl fun a w hf hc=>zQ (v:=.bool (aQ c_.States 1 12)) hf hc pD rfl (fun w hc=>dO c_.States 1 12 hc rfl) fun a w hf hc=>sp 2 hf rfl fun a hf=>cP 6 (fun a=>Has 21 a [(1,pq I),(4,pq I),(5,i6 c_.States),(6,.bool (aQ c_.States 1 12)),(7,.bool (!(aQ c_.States 1 12))),(8,.bool (!(aQ c_.States 1 12))),(14,.bool ((!(aQ c_.States 1 12)) || (!(aQ ((c_.Rights.length:Nat):Int) 1 30))))]) hc ?_ ?_
 ·cases hb:(!(aQ c_.States 1 12))
  ·rw [hb] at hf
   refine zP hf rfl (pFA kN rfl) fun a hf=>zL hf hc sD m0 rfl fun a w hf hc=>zP hf rfl (bL Tryz.underlying23 rfl) fun a hf=>zQ (v:=.bool (aQ ((c_.Rights.length:Nat):Int) 1 30)) hf hc pD rfl (fun w hc=>dO ((c_.Rights.length:Nat):Int) 1 30 hc rfl) fun a w hf hc=>sp 2 hf rfl fun a hf=>aP ⟨hf.kp rfl,hc⟩
  ·rw [hb] at hf
   refine stS hf rfl rfl rfl fun a hf=>stS hf rfl rfl rfl fun a hf=>stS hf rfl rfl rfl fun a hf=>stS hf rfl rfl rfl fun a hf=>stS hf rfl rfl rfl fun a hf=>sp 1 hf rfl fun a hf=>aP ⟨hf.kp rfl,hc⟩
 intro a w ⟨hf,hc⟩
 refine sp 1 hf rfl fun a hf=>zT h ?_
 refine zI hf rfl hF ?_ ?_ <;> clear hF <;> intro hF
 ·refine zS fun K h=>sp 1 hf rfl fun a hf=>zT h ?_
  refine wp_ret ?_
  refine bI ?_
  refine aN ?_
  obtain rfl:=sj hF
  replace hc:=hc.drop k0
  exact zO1 Tryz.results11 hf rfl ⟨rfl,hc⟩
 ·refine zS fun K h=>zP hf rfl (pFA kN rfl) fun a hf=>zL hf hc sD m0 rfl fun a w hf hc=>zP hf rfl (pMF (us:=[pq I]) rfl rfl) fun a hf=>?_
  obtain ⟨r,hr,hF⟩:=aA hF
  refine zQ (v:=.bool r) hf hc en_54 rfl (fun w hc=>(rK c_.Rights c_ D D (hc.pick k0) hr).mono fun e w h=>⟨h.1,(h.2.unpick k0)⟩) fun a w hf hc=>sp 2 hf rfl fun a hf=>zT h ?_
  refine zI hf rfl hF ?_ ?_ <;> clear hF <;> intro hF
  ·refine zS fun K h=>sp 1 hf rfl fun a hf=>zT h ?_
   refine wp_ret ?_
   refine bI ?_
   refine aN ?_
   obtain rfl:=sj hF
   replace hc:=hc.drop k0
   exact zO1 Tryz.results11 hf rfl ⟨rfl,hc⟩
  ·refine wp_skip ?_
   refine h2 _ _ ?_
   refine zS fun K h=>sp 1 hf rfl fun a hf=>zT h ?_
   refine wp_ret ?_
   obtain rfl:=sj hF
   replace hc:=hc.drop k0
   exact zO1 Tryz.results11 hf rfl ⟨rfl,hc⟩

def gT (N:Nat) (w_:cI) (flow:Int):Option (Int) :=
 some flow
theorem pC {N:Nat} {G:bA} {Lf:List Ent} {w:World} (w_:cI) (flow:Int) {b_:Nat} {B:Option Addr} {D:Nat} (H:Rd G 3 B D (w_.Compact.Rights.map aK)) (hc:Ctx G (.box b_ (lY [i6 w_.Compact.States,.slice B w_.Compact.Rights.length D] 12 aD w_.got []) 134::Lf) w) {I:Int} (hF:gT N w_ flow=some I):Calls Tryz.prog 68 #[pq b_,i6 flow] w (fun e w=>∃ (R:Nat) (M:Nat),e=.returned (.func (.func 95) #[] #[pq R,pq M])∧Ctx G (.box R [pq b_] 131::.box M [i6 I] 3::.box b_ (lY [i6 w_.Compact.States,.slice B w_.Compact.Rights.length D] 12 aD w_.got []) 134::Lf) w):=by
 unfold gT at hF
 refine cG Tryz.func68 rfl Tryz.ntmps68 rfl fun a hf=>zS fun K h=>zB hf hc rfl fun O a w hf hc=>zB hf hc rfl fun J a w hf hc=>sp 1 hf rfl fun a hf=>zT h ?_
 refine zS fun K h=>zP hf rfl (pMF (us:=[pq O,pq J]) rfl rfl) fun a hf=>sp 1 hf rfl fun a hf=>zT h ?_
 refine wp_ret ?_
 obtain rfl:=sj hF
 replace hc:=(hc.pick k0).pick k1
 exact zO1 Tryz.results68 hf rfl ⟨O,J,rfl,hc⟩

def dU (N:Nat) {σ:Type} (x:cI) (y:σ→(aG × Int)→Option (σ × Bool)) (H:Int) (B:Int) (sg:σ):Option (bH (Int × Int × σ) (σ × Int)) :=
 cond (decide (H < ((x.Compact.Rights.length:Nat):Int)))
 (Option.bind (aZ x.Compact.Rights H) fun D=>
 Option.bind (y sg (D,min D.Amount B)) fun ry=>
 cond (!ry.2)
 (some (.ret (ry.1,W (B - (min D.Amount B)))))
 (some (.cont (W (H + 1),W (B - (min D.Amount B)),ry.1))))
 (some (.brk (H,B,sg)))
def kO (N:Nat) {σ:Type} (x:cI) (B:Int) (y:σ→(aG × Int)→Option (σ × Bool)) (D:σ):Option (σ × Int) :=
 Option.bind (aT (fun s3=>dU N x y s3.1 s3.2.1 s3.2.2) N (0,B,D)) fun x3=>
 exK x3 (fun s3=>some (s3.2.2,s3.2.1)) some
theorem tH {N:Nat} {G:bA} {Lf:List Ent} {w:World} {σ:Type} (x:cI) (V:Int) {b_:Nat} {I:Nat} {B:Option Addr} {D:Nat} {M:Nat} (R:Rd G 3 B D (x.Compact.Rights.map aK)) (J:σ→List Ent→Prop) (y:σ→(aG × Int)→Option (σ × Bool)) {l:Nat} (hy:uR Tryz.prog G l (fun x:(aG × Int)=>[.agg #[i6 x.1.State,i6 x.1.Amount,i6 x.1.Loss],i6 x.2]) J y) (d:σ) {A0 Ls1:List Ent} (k:J d (A0++(.box I (lY [i6 x.Compact.States,.slice B x.Compact.Rights.length D] 12 aD x.got []) 134::Ls1))) (hc:Ctx G (.box b_ [pq I] 131::.box M [i6 V] 3::((A0++(.box I (lY [i6 x.Compact.States,.slice B x.Compact.Rights.length D] 12 aD x.got []) 134::Ls1))++Lf)) w) {X:σ × Int} (hF:kO N x V y d=some X):Calls Tryz.prog 95 #[.func (.yield l) #[] #[],pq b_,pq M] w (fun e w=>(∃ v,e=.returned v)∧∃ L,J X.1 L∧Ctx G (.box b_ [pq I] 131::.box M [i6 X.2] 3::(L++Lf)) w):=by
 unfold kO at hF
 refine cG Tryz.func95 rfl Tryz.ntmps95 rfl fun a hf=>?_
 replace hc:Ctx G (.box I (lY [i6 x.Compact.States,.slice B x.Compact.Rights.length D] 12 aD x.got []) 134::.box b_ [pq I] 131::.box M [i6 V] 3::((A0++Ls1)++Lf)) w:=shOut [.box b_ [pq I] 131,.box M [i6 V] 3] hc
 refine zS fun K h=>zL hf hc yC m1 rfl fun a w hf hc=>sp 1 hf rfl fun a hf=>zP hf rfl (pFA aBv rfl) fun a hf=>zP hf rfl (pFA kN rfl) fun a hf=>zL hf hc sD m0 rfl fun a w hf hc=>zP hf rfl (bL Tryz.underlying23 rfl) fun a hf=>sp 1 hf rfl fun a hf=>zT h ?_
 refine oV fun K2 h2=>wp_block ?_
 replace hc:Ctx G (.box b_ [pq I] 131::.box M [i6 V] 3::((A0++(.box I (lY [i6 x.Compact.States,.slice B x.Compact.Rights.length D] 12 aD x.got []) 134::Ls1))++Lf)) w:=shIn [.box b_ [pq I] 131,.box M [i6 V] 3] hc
 obtain ⟨x3,s,hF⟩:=aA hF
 let S3:(Int × Int × σ)→Act→World→Prop:=(fun (zz:Int × Int × σ) a w=>∃ (Ls:List Ent),J zz.2.2 Ls∧Has 30 a [(0,.func (.yield l) #[] #[]),(2,pq M),(11,.slice B x.Compact.Rights.length D),(12,i6 ((x.Compact.Rights.length:Nat):Int)),(13,i6 zz.1)]∧Ctx G (.box b_ [pq I] 131::.box M [i6 zz.2.1] 3::(Ls++Lf)) w)
 have m:∀ (zz:Int × Int × σ) a w,x3=.go zz→S3 zz a w→K2 a w:=by
  rintro ⟨b,O,sg⟩ a w rfl ⟨Ls,hJ,hf,hc⟩
  replace hF:=bQ hF
  refine h2 _ _ ?_
  obtain rfl:=sj hF
  exact aDh (by simp) rfl Tryz.results95 hf ⟨⟨_,rfl⟩,Ls,hJ,hc⟩
 have p:∀ r,x3=.out r→r=X:=by
  rintro r rfl
  exact sj hF
 refine cX N (cV (S:=S3) (x:=x3) ?_ N (0,V,d) _ _ ⟨(A0++(.box I (lY [i6 x.Compact.States,.slice B x.Compact.Rights.length D] 12 aD x.got []) 134::Ls1)),k,hf.kp rfl,hc⟩ s)
 clear hF hf hc
 rintro ⟨b,O,sg⟩ t a w KB3 ⟨Ls,hJ,hf,hc⟩ hF U j
 unfold dU at hF
 refine zS fun K h=>sp 1 hf rfl fun a hf=>zT h ?_
 refine wp_seq_k fun K5 h5=>zI hf rfl hF ?_ ?_ <;> clear hF <;> intro hF
 ·refine wp_skip ?_
  refine h5 _ _ ?_
  refine wp_seq_k fun K6 h6=>wp_block ?_
  refine zS fun K h=>?_
  obtain ⟨H,g,hF⟩:=aA hF
  obtain ⟨u,o,qa,qp⟩:=R.atm g
  refine zP hf rfl (pIA Tryz.underlying23 sG rfl rfl qa) fun a hf=>zE hf hc rfl (kG (vs:=[i6 H.State,i6 H.Amount,i6 H.Loss]) wG rfl rfl (cR qp (n:=3) (o':=0) rfl)) fun a w hf hc=>zA hf hc aEm rfl fun Y a w hf hc=>zW hf hc sG u0 rfl fun w hc=>zT h ?_
  refine zS fun K h=>zP hf rfl (pFA xU rfl) fun a hf=>zL hf hc bB m0 rfl fun a w hf hc=>zL hf hc bB m2 rfl fun a w hf hc=>zP hf rfl (aG8 rfl rfl) fun a hf=>sp 1 hf rfl fun a hf=>zT h ?_
  refine zS fun K h=>zL hf hc bB m2 rfl fun a w hf hc=>sp 2 hf rfl fun a hf=>zW hf hc cY u2 rfl fun w hc=>zT h ?_
  refine wp_seq_k fun K10 i=>?_
  obtain ⟨ry,q,hF⟩:=aA hF
  refine yReg 3 (fun a w=>Has 30 a [(0,.func (.yield l) #[] #[]),(2,pq M),(11,.slice B x.Compact.Rights.length D),(12,i6 ((x.Compact.Rights.length:Nat):Int)),(13,i6 b),(5,pq Y),(6,i6 (min H.Amount O)),(24,.func (.yield l) #[] #[]),(25,.agg #[i6 H.State,i6 H.Amount,i6 H.Loss]),(26,i6 (min H.Amount O))]∧Ctx G (.box Y [i6 H.State,i6 H.Amount,i6 H.Loss] 46::.box b_ [pq I] 131::.box M [i6 (W (O - (min H.Amount O)))] 3::(Ls++Lf)) w) (fun _ _ h=>by obtain ⟨⟨_,h⟩,_⟩:=h; cases h) ?_ ?_
  ·refine sp 1 hf rfl fun a hf=>zN hf hc wG m0 rfl fun a w hf hc=>sp 1 hf rfl fun a hf=>aP ⟨hf.kp rfl,hc⟩
  rintro a w ⟨hf,hc⟩
  refine stY (own:=[.box Y [i6 H.State,i6 H.Amount,i6 H.Loss] 46,.box b_ [pq I] 131,.box M [i6 (W (O - (min H.Amount O)))] 3]) (v:=(H,min H.Amount O)) hy hJ q hf hc rfl rfl rfl rfl rfl rfl fun a w Ls_1 Z hf hc=>?_
  replace hc:Ctx G (.box Y [i6 H.State,i6 H.Amount,i6 H.Loss] 46::.box b_ [pq I] 131::.box M [i6 (W (O - (min H.Amount O)))] 3::(Ls_1++Lf)) w:=hc
  refine aLj (fun _ _ h=>by obtain ⟨⟨_,h⟩,_⟩:=h; cases h) ?_
  refine sp 1 hf rfl fun a hf=>aP ?_
  refine i _ _ ?_
  refine zI hf rfl hF ?_ ?_ <;> clear hF <;> intro hF
  ·refine wp_ret ?_
   refine bI ?_
   refine aN ?_
   refine aN ?_
   have he:=sj hF
   rw [← he] at U
   replace hF:=p _ U
   refine bI ?_
   refine aN ?_
   obtain rfl:=hF
   replace hc:=hc.drop k0
   exact aDh (by simp) rfl Tryz.results95 hf ⟨⟨_,rfl⟩,Ls_1,Z,hc⟩
  ·refine wp_skip ?_
   refine h6 _ _ ?_
   refine bR ?_
   refine sp 2 hf rfl fun a hf=>aP ?_
   replace hc:=hc.drop k0
   exact j (W (b + 1),W (O - (min H.Amount O)),ry.1) _ _ (sj hF).symm ⟨Ls_1,Z,hf.kp rfl,hc⟩
 ·refine wp_exit ?_
  refine bE ?_
  refine bE ?_
  have he:=sj hF
  rw [← he] at U
  refine eX ?_
  exact m _ _ _ U ⟨Ls,hJ,hf.kp rfl,hc⟩

def gO (N:Nat) (s_:List Int):Option ((List Int)) :=
 Option.bind (jE (s_).length) fun un=>
 some s_
theorem sL {N:Nat} {G:bA} {Lf:List Ent} {w:World} (s_:List Int) {I:Option Addr} {D:Nat} (H:Rd G 1 I D (s_.map aD)) (hc:Ctx G (Lf) w) {B:(List Int)} (hF:gO N s_=some B):Calls Tryz.prog 94 #[.slice I s_.length D] w (fun e w=>∃ (M:Option Addr) (J:Nat),e=.returned (.slice M B.length J)∧Ctx G (.row M J (B.map aD) 3 1::Lf) w):=by
 unfold gO at hF
 refine cG Tryz.func94 rfl Tryz.ntmps94 rfl fun a hf=>zS fun K h=>sp 1 hf rfl fun a hf=>zT h ?_
 refine wp_seq_k fun K2 h2=>zS fun K h=>sp 1 hf rfl fun a hf=>zP hf rfl (pEqN Tryz.underlying22 rfl rfl) fun a hf=>zT h ?_
 rcases aKb H with ⟨hp,hx⟩ | hp
 ·rw [hp] at hf
  replace hF:(some ([]:List Int))=some B:=by
   try rw [hx] at hF
   exact hF
  refine aMm hf rfl ?_
  refine zS fun K h=>sp 1 hf rfl fun a hf=>zT h ?_
  refine wp_ret ?_
  refine aN ?_
  obtain rfl:=sj hF
  replace hc:=hc.nilRow 3 1
  exact zO1 Tryz.results94 hf rfl ⟨none,0,rfl,hc⟩
 ·rw [hp] at hf
  refine aLq hf rfl ?_
  refine wp_skip ?_
  refine h2 _ _ ?_
  refine zS fun K h=>gV (rows:=([]:List Int).map aD) (vs:=[]) hf hc rfl rfl fC rfl trivial rfl rfl fun U a w hf hc=>sp 1 hf rfl fun a hf=>?_
  obtain ⟨un,S,hF⟩:=aA hF
  refine iV (xs:=([]:List Int)) (ys:=s_) hf hc rfl rfl fC rfl rfl rfl rfl rfl cM (yM hc H) (fun _ _=>u0) (by simpa using cB S) fun O R a w hf hc=>sp 1 hf rfl fun a hf=>zT h ?_
  refine wp_ret ?_
  obtain rfl:=sj hF
  exact zO1 Tryz.results94 hf rfl ⟨O,R,rfl,hc⟩

def gE (N:Nat) (x:Nat→Int) (xv:aG) (B:Int):Option (Rs ((Nat→Int))) :=
 Option.bind (inR xv.State 12) fun un=>
 Option.bind (inR xv.State 12) fun D=>
 some (.go (yD x xv.State.toNat (W ((x xv.State.toNat) + (W ((W (B * (W (1000 - xv.Loss)))).tdiv 1000))))))
def mR (N:Nat) (c_:aJ) (flow:Int):Option ((List Int)) :=
 Option.bind (gT N (⟨c_,(fun _=>0)⟩:cI) flow) fun r=>
 Option.bind (kO N (⟨c_,(fun _=>0)⟩:cI) r (rY (fun (zz:(Nat→Int)) (B:(aG × Int))=>gE N zz B.1 B.2)) (.go (fun _=>0))) fun x5=>
 rsK x5.1 (fun D=>Option.bind (uX (aL 12 D) 0 c_.States) fun sub=>
 Option.bind (gO N sub) fun H=>
 some H) (fun D=>none)
theorem rF {N:Nat} {G:bA} {Lf:List Ent} {w:World} (c_:aJ) (flow:Int) {B:Option Addr} {D:Nat} (O:Rd G 3 B D (c_.Rights.map aK)) (hc:Ctx G (Lf) w) {d:(List Int)} (hF:mR N c_ flow=some d):Calls Tryz.prog 64 #[.agg #[i6 c_.States,.slice B c_.Rights.length D],i6 flow] w (fun e w=>∃ (q:Option Addr) (s:Nat),e=.returned (.slice q d.length s)∧Ctx G (.row q s (d.map aD) 3 1::Lf) w):=by
 unfold mR at hF
 refine aKx Tryz.func64 rfl Tryz.ntmps64 rfl fun a hf=>zS fun K h=>zB hf hc rfl fun ar a w hf hc=>sp 1 hf rfl fun a hf=>zT h ?_
 refine zS fun K h=>zN hf hc lN m0 rfl fun a w hf hc=>zP hf rfl (bG (cells:=(lY [i6 c_.States,.slice B c_.Rights.length D] 12 aD (fun _=>0) [])) aJs rfl rfl) fun a hf=>stBx (cs:=(lY [i6 c_.States,.slice B c_.Rights.length D] 12 aD (fun _=>0) [])) hf hc rfl rfl rfl rfl fun H a w hf hc=>zA hf hc aLv rfl fun I a w hf hc=>zW hf hc aMh u0 rfl fun w hc=>zT h ?_
 refine wp_seq_k fun K3 h3=>zS fun K h=>zL hf hc yC m0 rfl fun a w hf hc=>sp 1 hf rfl fun a hf=>?_
 obtain ⟨r,hr,hF⟩:=aA hF
 refine zC hf aK5 rfl (pC (⟨c_,(fun _=>0)⟩:cI) flow O (hc.pick k1) hr) ?_
 rintro _ w ⟨S,U,rfl,hc⟩
 refine ⟨_,rfl,fun a hf=>?_⟩
 refine zT h ?_
 obtain ⟨x5,ab,hF⟩:=aA hF
 replace hc:=hc.drop k4
 refine aKg (C:=[.box S [pq H] 131,.box U [i6 r] 3]) (C2:=[.box S [pq H] 131,.box U [i6 x5.2] 3]) (L0:=[.box H (lY [i6 c_.States,.slice B c_.Rights.length D] 12 aD ((fun _=>0)) []) 134,.box I [pq H] 131]) (Lf:=Lf) (encs:=fun x:(aG × Int)=>[.agg #[i6 x.1.State,i6 x.1.Amount,i6 x.1.Loss],i6 x.2]) (fun (zz:(Nat→Int)) L=>L=[.box H (lY [i6 c_.States,.slice B c_.Rights.length D] 12 aD zz []) 134,.box I [pq H] 131]) (fun (zz:(Nat→Int)) (t:(aG × Int))=>gE N zz t.1 t.2) (fun _=>0) x5.1 hf hc rfl aLk (fun _=>rfl) rfl rfl ?_ ?_ ?_ ?_
 ·intro lq mq J A Lx w hy hJ hc
  exact tH (⟨c_,(fun _=>0)⟩:cI) r O J _ hy _ hJ hc ab
 ·clear hF hf hc
  rintro lq mq x ⟨xv,M⟩ oq _ Lr Lb a w au rfl hF hf hc hK
  replace hf:Has 43 a [(5,pq I),(14,.agg #[i6 xv.State,i6 xv.Amount,i6 xv.Loss]),(15,i6 M)]:=hf.kp rfl
  replace hc:Ctx G (.box H (lY [i6 c_.States,.slice B c_.Rights.length D] 12 aD x []) 134::.box I [pq H] 131::Lr) w:=hc
  replace hF:gE N x xv M=some oq:=hF
  unfold gE at hF
  refine aJl fun K6 h6=>aFy (fun _ _ h=>h) rfl ?_
  refine zA hf hc aEm rfl fun V a w hf hc=>zW hf hc sG u0 rfl fun w hc=>aP ?_
  refine h6 _ _ ?_
  refine aFy (fun _ _ h=>h) rfl ?_
  refine sp 1 hf rfl fun a hf=>aP ?_
  refine hK _ _ [.box V [i6 xv.State,i6 xv.Amount,i6 xv.Loss] 46,.box H (lY [i6 c_.States,.slice B c_.Rights.length D] 12 aD x []) 134,.box I [pq H] 131] hc fun w hc=>?_
  replace hc:Ctx G (.box V [i6 xv.State,i6 xv.Amount,i6 xv.Loss] 46::.box H (lY [i6 c_.States,.slice B c_.Rights.length D] 12 aD x []) 134::.box I [pq H] 131::Lb) w:=hc
  refine aIr fun K7 h7=>aJz ?_
  obtain ⟨un,m,hF⟩:=aA hF
  obtain ⟨aq,Z,hF⟩:=aA hF
  refine rRegE (fun _ _ h=>h) rfl (fun θ=>[⟨none,none,5,pq I⟩,⟨none,none,6,pq V⟩,⟨none,none,7,i6 M⟩,⟨some 0,none,16,pq H⟩,⟨some 1,none,17,pq V⟩,⟨some 2,none,18,i6 xv.State⟩,⟨some 3,none,19,pq H⟩,⟨some 4,none,20,.pointer (some ⟨H,2,none⟩)⟩,⟨some 5,none,21,.pointer (some ⟨H,2 + xv.State.toNat * 1,none⟩)⟩,⟨some 6,none,22,i6 (x xv.State.toNat)⟩,⟨some 7,none,23,i6 M⟩,⟨some 8,none,24,.pointer (some ⟨V,2,none⟩)⟩,⟨some 9,none,25,i6 xv.Loss⟩,⟨some 10,none,26,i6 (W (1000 - xv.Loss))⟩,⟨some 11,none,27,i6 (W (M * (W (1000 - xv.Loss))))⟩,⟨some 12,none,28,i6 (W ((W (M * (W (1000 - xv.Loss)))).tdiv 1000))⟩,⟨some 13,none,29,i6 (W ((x xv.State.toNat) + (W ((W (M * (W (1000 - xv.Loss)))).tdiv 1000))))⟩,⟨some 14,none,30,pq H⟩,⟨some 15,none,31,.pointer (some ⟨H,2,none⟩)⟩,⟨some 16,none,32,.pointer (some ⟨H,2 + xv.State.toNat * 1,none⟩)⟩]) (fun E θ=>.box V [i6 xv.State,i6 xv.Amount,i6 xv.Loss] 46::(bif E 17 then .box H (lY [i6 c_.States,.slice B c_.Rights.length D] 12 aD (yD x xv.State.toNat (W ((x xv.State.toNat) + (W ((W (M * (W (1000 - xv.Loss)))).tdiv 1000))))) []) 134 else .box H (lY [i6 c_.States,.slice B c_.Rights.length D] 12 aD x []) 134)::.box I [pq H] 131::Lb) [(17,6)] (fun a w=>Has 43 a [(5,pq I)]∧Ctx G (.box V [i6 xv.State,i6 xv.Amount,i6 xv.Loss] 46::.box H (lY [i6 c_.States,.slice B c_.Rights.length D] 12 aD (yD x xv.State.toNat (W ((x xv.State.toNat) + (W ((W (M * (W (1000 - xv.Loss)))).tdiv 1000))))) []) 134::.box I [pq H] 131::Lb) w) aY (by kernel_rfl) (by kernel_rfl) (eY.of hf ⟨rfl,rfl,rfl,trivial,trivial,trivial,trivial,trivial,trivial,trivial,trivial,trivial,trivial,trivial,trivial,trivial,trivial,trivial,trivial,trivial,trivial⟩) hc ⟨?_,?_,?_,?_,?_,?_,?_,?_,?_,?_,?_,?_,?_,?_,?_,?_,?_,?_,trivial⟩ ?_ ?_
  ·intro E θ a w hD hi hp he hc
   have hf:=he.h0.mT he 0 rfl
   refine zL hf hc yC m2 rfl fun a w hf hc=>zD θ he hi hf 3 rfl rfl rfl hc
  ·intro E θ a w hD hi hp he hc
   have hf:=he.h0.mT he 1 rfl
   refine zP hf rfl (pFA aC4 rfl) fun a hf=>zD θ he hi hf 4 rfl rfl rfl hc
  ·intro E θ a w hD hi hp he hc
   have e1:=hp.o 1 rfl
   have hf:=he.h0.mP he 4 rfl e1
   refine zL hf hc bB m0 rfl fun a w hf hc=>zD θ he hi hf 5 rfl rfl rfl hc
  ·intro E θ a w hD hi hp he hc
   have e0:=hp.o 0 rfl
   have hf:=he.h0.mP he 3 rfl e0
   refine sp 1 hf rfl fun a hf=>zD θ he hi hf 6 rfl rfl rfl hc
  ·intro E θ a w hD hi hp he hc
   have e3:=hp.o 3 rfl
   have hf:=he.h0.mP he 6 rfl e3
   refine zP hf rfl (pFA aAz rfl) fun a hf=>zD θ he hi hf 7 rfl rfl rfl hc
  ·intro E θ a w hD hi hp he hc
   have e2:=hp.o 2 rfl
   have e4:=hp.o 4 rfl
   have hf:=(he.h0.mP he 5 rfl e2).mP he 7 rfl e4
   refine zP hf rfl (pIAA Tryz.underlying132 cY rfl rfl (rH m).1 (rH m).2) fun a hf=>zD θ he hi hf 8 rfl rfl rfl hc
  ·intro E θ a w hD hi hp he hc
   have e5:=hp.o 5 rfl
   have i:=hD.f 0 rfl hi
   try dsimp only at hc
   rw [i] at hc
   have hf:=he.h0.mP he 8 rfl e5
   refine zE hf hc rfl (bP bB rfl (aIq (j:=0) m1 (fun x=>(cM x).1) rfl m rfl)) fun a w hf hc=>zD θ he hi hf 9 rfl rfl rfl ?_
   try dsimp only
   rw [eO 6 i rfl]
   exact hc
  ·intro E θ a w hD hi hp he hc
   have hf:=he.h0.mT he 2 rfl
   refine sp 1 hf rfl fun a hf=>zD θ he hi hf 10 rfl rfl rfl hc
  ·intro E θ a w hD hi hp he hc
   have hf:=he.h0.mT he 1 rfl
   refine zP hf rfl (pFA aDg rfl) fun a hf=>zD θ he hi hf 11 rfl rfl rfl hc
  ·intro E θ a w hD hi hp he hc
   have e8:=hp.o 8 rfl
   have hf:=he.h0.mP he 11 rfl e8
   refine zL hf hc bB m0 rfl fun a w hf hc=>zD θ he hi hf 12 rfl rfl rfl hc
  ·intro E θ a w hD hi hp he hc
   have e9:=hp.o 9 rfl
   have hf:=he.h0.mP he 12 rfl e9
   refine sp 1 hf rfl fun a hf=>zD θ he hi hf 13 rfl rfl rfl hc
  ·intro E θ a w hD hi hp he hc
   have e7:=hp.o 7 rfl
   have g:=hp.o 10 rfl
   have hf:=(he.h0.mP he 10 rfl e7).mP he 13 rfl g
   refine sp 1 hf rfl fun a hf=>zD θ he hi hf 14 rfl rfl rfl hc
  ·intro E θ a w hD hi hp he hc
   have ad:=hp.o 11 rfl
   have hf:=he.h0.mP he 14 rfl ad
   refine zP hf rfl (nE rfl rfl (by decide)) fun a hf=>zD θ he hi hf 15 rfl rfl rfl hc
  ·intro E θ a w hD hi hp he hc
   have e6:=hp.o 6 rfl
   have ai:=hp.o 12 rfl
   have hf:=(he.h0.mP he 9 rfl e6).mP he 15 rfl ai
   refine sp 1 hf rfl fun a hf=>zD θ he hi hf 16 rfl rfl rfl hc
  ·intro E θ a w hD hi hp he hc
   have e0:=hp.o 0 rfl
   have hf:=he.h0.mP he 3 rfl e0
   refine sp 1 hf rfl fun a hf=>zD θ he hi hf 17 rfl rfl rfl hc
  ·intro E θ a w hD hi hp he hc
   have am:=hp.o 14 rfl
   have hf:=he.h0.mP he 17 rfl am
   refine zP hf rfl (pFA aAz rfl) fun a hf=>zD θ he hi hf 18 rfl rfl rfl hc
  ·intro E θ a w hD hi hp he hc
   have e2:=hp.o 2 rfl
   have aj:=hp.o 15 rfl
   have hf:=(he.h0.mP he 5 rfl e2).mP he 18 rfl aj
   refine zP hf rfl (pIAA Tryz.underlying132 cY rfl rfl (rH Z).1 (rH Z).2) fun a hf=>zD θ he hi hf 19 rfl rfl rfl hc
  ·intro E θ a w hD hi hp he hc
   have an:=hp.o 13 rfl
   have af:=hp.o 16 rfl
   try dsimp only at hc
   rw [hi] at hc
   have hf:=(he.h0.mP he 16 rfl an).mP he 19 rfl af
   refine stAr (vs:=[i6 (W ((x xv.State.toNat) + (W ((W (M * (W (1000 - xv.Loss)))).tdiv 1000))))]) (o':=0) (z:=W ((x xv.State.toNat) + (W ((W (M * (W (1000 - xv.Loss)))).tdiv 1000)))) hf hc rfl rfl rfl rfl cY rfl (fun x=>(cM x).1) rfl Z rfl rfl u1 fun w hc=>zG θ he hi hf rfl ?_
   try dsimp only
   rw [aU E 17]
   exact hc
  ·intro E θ a w b he hc
   have hf:=he.h0
   have i:=b 17 rfl
   replace hf:=hf.more he 0 rfl (onT)
   try dsimp only at hc
   rw [i] at hc
   exact ⟨hf.kp rfl,hc⟩
  rintro a w ⟨hf,hc⟩
  refine h7 _ _ ?_
  replace hc:=hc.drop k0
  exact ⟨(yD x xv.State.toNat (W ((x xv.State.toNat) + (W ((W (M * (W (1000 - xv.Loss)))).tdiv 1000))))),_,(sj hF).symm,rfl,hc⟩
 ·rintro D_1 x _ a w n rfl hf hc
  replace hf:Has ⟨43,aA9 (D_1::[])⟩ a [(5,pq I)]:=hf.kp rfl
  replace hc:Ctx G (.box S [pq H] 131::.box U [i6 x5.2] 3::.box H (lY [i6 c_.States,.slice B c_.Rights.length D] 12 aD x []) 134::.box I [pq H] 131::(aFg (D_1::[])++Lf)) w:=aDc (C:=[.box S [pq H] 131,.box U [i6 x5.2] 3]) (L:=[.box H (lY [i6 c_.States,.slice B c_.Rights.length D] 12 aD x []) 134,.box I [pq H] 131]) hc
  replace hF:(Option.bind (uX (aL 12 x) 0 c_.States) fun sub=>Option.bind (gO N sub) fun R=>some R)=some d:=by rcases n with h_ | h_ <;> (rw [h_] at hF; exact hF)
  refine h3 _ _ ?_
  refine wp_seq_k fun K8 h8=>?_
  obtain ⟨sub,k,hF⟩:=aA hF
  obtain ⟨R,v,hF⟩:=aA hF
  replace hc:=hc.nilRow 0 0
  refine dJ (fun θ=>[⟨none,none,5,pq I⟩,⟨some 0,none,33,pq H⟩,⟨some 1,none,34,pq H⟩,⟨some 2,none,35,.pointer (some ⟨H,2,none⟩)⟩,⟨some 3,none,36,pq H⟩,⟨some 4,none,37,pq H⟩,⟨some 5,none,38,pq H⟩,⟨some 6,none,39,pq H⟩,⟨some 7,none,40,i6 c_.States⟩,⟨some 8,none,41,.slice (aB3 (some ⟨H,2,none⟩) 12 (0:Int).toNat 1) sub.length (12 - (0:Int).toNat)⟩,⟨some 9,none,42,.slice ((θ 72).p) R.length ((θ 72).c)⟩,⟨some 10,none,4,.slice ((θ 72).p) R.length ((θ 72).c)⟩]) (fun E θ=>(bif E 9 then .row ((θ 72).p) ((θ 72).c) (R.map aD) 3 1 else .row none 0 [] 0 0)::.box S [pq H] 131::.box U [i6 x5.2] 3::.box H (lY [i6 c_.States,.slice B c_.Rights.length D] 12 aD x []) 134::.box I [pq H] 131::(aFg (D_1::[])++Lf)) [(10,9)] (fun a w=>∃ (Y:Option Addr) (X:Nat),Has ⟨43,aA9 (D_1::[])⟩ a [(4,.slice Y R.length X)]∧Ctx G (.row Y X (R.map aD) 3 1::.box S [pq H] 131::.box U [i6 x5.2] 3::.box H (lY [i6 c_.States,.slice B c_.Rights.length D] 12 aD x []) 134::.box I [pq H] 131::(aFg (D_1::[])++Lf)) w) aY (by kernel_rfl) (by kernel_rfl) (eY.of hf ⟨rfl,trivial,trivial,trivial,trivial,trivial,trivial,trivial,trivial,trivial,trivial,trivial,trivial⟩) hc ⟨?_,?_,?_,?_,?_,?_,?_,?_,?_,?_,?_,trivial⟩ ?_ ?_
  ·intro E θ a w hD hi hp he hc
   have hf:=he.h0.mT he 0 rfl
   refine zL hf hc yC m4 rfl fun a w hf hc=>zD θ he hi hf 1 rfl rfl rfl hc
  ·intro E θ a w hD hi hp he hc
   have e0:=hp.o 0 rfl
   have hf:=he.h0.mP he 1 rfl e0
   refine sp 1 hf rfl fun a hf=>zD θ he hi hf 2 rfl rfl rfl hc
  ·intro E θ a w hD hi hp he hc
   have e1:=hp.o 1 rfl
   have hf:=he.h0.mP he 2 rfl e1
   refine zP hf rfl (pFA aAz rfl) fun a hf=>zD θ he hi hf 3 rfl rfl rfl hc
  ·intro E θ a w hD hi hp he hc
   have hf:=he.h0.mT he 0 rfl
   refine zL hf hc yC m4 rfl fun a w hf hc=>zD θ he hi hf 4 rfl rfl rfl hc
  ·intro E θ a w hD hi hp he hc
   have e3:=hp.o 3 rfl
   have hf:=he.h0.mP he 4 rfl e3
   refine sp 1 hf rfl fun a hf=>zD θ he hi hf 5 rfl rfl rfl hc
  ·intro E θ a w hD hi hp he hc
   have e4:=hp.o 4 rfl
   have hf:=he.h0.mP he 5 rfl e4
   refine zP hf rfl (pFA aBv rfl) fun a hf=>zD θ he hi hf 6 rfl rfl rfl hc
  ·intro E θ a w hD hi hp he hc
   have e5:=hp.o 5 rfl
   have hf:=he.h0.mP he 6 rfl e5
   refine zP hf rfl (pFA qP rfl) fun a hf=>zD θ he hi hf 7 rfl rfl rfl hc
  ·intro E θ a w hD hi hp he hc
   have e6:=hp.o 6 rfl
   have hf:=he.h0.mP he 7 rfl e6
   refine zL hf hc bB m3 rfl fun a w hf hc=>zD θ he hi hf 8 rfl rfl rfl hc
  ·intro E θ a w hD hi hp he hc
   have e2:=hp.o 2 rfl
   have e7:=hp.o 7 rfl
   have hf:=(he.h0.mP he 3 rfl e2).mP he 8 rfl e7
   refine zP hf rfl (pSlA (xs:=(aL 12 x)) Tryz.underlying132 cY rfl aIy rfl rfl k) fun a hf=>zD θ he hi hf 9 rfl rfl rfl hc
  ·intro E θ a w hD hi hp he hc
   have e8:=hp.o 8 rfl
   have g:=hD.f 0 rfl hi
   try dsimp only at hc
   rw [hi] at hc
   have hf:=he.h0.mP he 9 rfl e8
   obtain ⟨G1,ap,y,hc,aa⟩:=lendB hc k3
   refine zC hf en_94 rfl (sL sub (Rd.sub (rdA (fun x=>(cM x).1) y rfl rfl) k) hc v) ?_
   rintro _ w ⟨ag,ac,rfl,hc⟩
   refine ⟨_,rfl,fun a hf=>?_⟩
   replace hc:=aa _ _ hc
   refine aP ?_
   refine bV ?_
   intro ds u ak
   replace hc:=((((hc.drop k2).pick k0).pick k3).pick k3).pick k3
   refine ⟨(fY θ 72 ⟨0,ag,ac,(fun _=>(none,0))⟩),he.put hi ak hf rfl [10] ⟨⟨g,rfl⟩,trivial⟩ ⟨qq,qq,qq,qq,qq,qq,qq,qq,qq,qq,qq,trivial,trivial⟩,?_⟩
   try dsimp only
   rw [aU E 9]
   exact hc
  ·intro E θ a w hD hi hp he hc
   have e9:=hp.o 9 rfl
   have hf:=he.h0.mP he 10 rfl e9
   refine sp 1 hf rfl fun a hf=>zD θ he hi hf 11 rfl rfl rfl hc
  ·intro E θ a w b he hc
   have hf:=he.h0
   have e9:=b 9 rfl
   have g:=b 10 rfl
   replace hf:=hf.more he 11 rfl (onP g)
   try dsimp only at hc
   rw [e9] at hc
   exact ⟨(θ 72).p,(θ 72).c,hf.kp rfl,hc⟩
  rintro a w ⟨Y,X,hf,hc⟩
  refine h8 _ _ ?_
  refine wp_ret ?_
  obtain rfl:=sj hF
  replace hc:=(((hc.drop k4).drop k3).drop k2).drop k1
  refine aIi hf ?_
  refine aGv [.row Y X (R.map aD) 3 1] (D_1::[]) hc fun w hc=>?_
  replace hc:Ctx G (.row Y X (R.map aD) 3 1::Lf) w:=hc
  exact outM1 Tryz.results64 hf hc (show jV _ 4=_ from rfl) ⟨Y,X,rfl,hc⟩
 ·rintro D_1 x _ a w n rfl hf hc
  replace hf:Has ⟨43,aA9 (D_1::[])⟩ a [(5,pq I)]:=hf.kp rfl
  replace hc:Ctx G (.box S [pq H] 131::.box U [i6 x5.2] 3::.box H (lY [i6 c_.States,.slice B c_.Rights.length D] 12 aD x []) 134::.box I [pq H] 131::(aFg (D_1::[])++Lf)) w:=aDc (C:=[.box S [pq H] 131,.box U [i6 x5.2] 3]) (L:=[.box H (lY [i6 c_.States,.slice B c_.Rights.length D] 12 aD x []) 134,.box I [pq H] 131]) hc
  replace hF:(none)=some d:=by rw [n] at hF; exact hF
  cases hF

def pF (N:Nat) (c_:aJ) (flow:Int):Option ((List Int) × Int) :=
 Option.bind (hY N c_) fun r=>
 cond (r != 0)
 (some (([]:List Int),r))
 (cond (!(bD flow))
 (some (([]:List Int),4))
 (Option.bind (mR N c_ flow) fun B=>
 some (B,0)))
theorem wH {N:Nat} {G:bA} {Lf:List Ent} {w:World} (c_:aJ) (flow:Int) {B:Option Addr} {H:Nat} (D:Rd G 3 B H (c_.Rights.map aK)) (hc:Ctx G (Lf) w) {I:(List Int) × Int} (hF:pF N c_ flow=some I):Calls Tryz.prog 19 #[.agg #[i6 c_.States,.slice B c_.Rights.length H],i6 flow] w (fun e w=>∃ (M:Option Addr) (J:Nat),e=.returned (.tuple #[.slice M I.1.length J,i6 I.2])∧Ctx G (.row M J (I.1.map aD) 3 1::Lf) w):=by
 unfold pF at hF
 refine cG Tryz.func19 rfl Tryz.ntmps19 rfl fun a hf=>zS fun K h=>zB hf hc rfl fun V a w hf hc=>sp 2 hf rfl fun a hf=>zT h ?_
 refine zS fun K h=>zN hf hc lN m0 rfl fun a w hf hc=>?_
 obtain ⟨r,hr,hF⟩:=aA hF
 refine zQ (v:=i6 r) hf hc aEr rfl (fun w hc=>mX c_ D hc hr) fun a w hf hc=>sp 1 hf rfl fun a hf=>zT h ?_
 refine wp_seq_k fun K3 h3=>wp_block ?_
 refine zS fun K h=>sp 3 hf rfl fun a hf=>zT h ?_
 refine zI hf rfl hF ?_ ?_ <;> clear hF <;> intro hF
 ·refine zS fun K h=>sp 3 hf rfl fun a hf=>zT h ?_
  refine wp_ret ?_
  refine bI ?_
  refine aN ?_
  obtain rfl:=sj hF
  replace hc:=hc.nilRow 3 1
  replace hc:=hc.drop k1
  exact zO2 Tryz.results19 hf rfl rfl ⟨none,0,rfl,hc⟩
 ·refine zS fun K h=>sp 1 hf rfl fun a hf=>zQ (v:=.bool (bD flow)) hf hc wE rfl (fun w hc=>fI flow hc rfl) fun a w hf hc=>sp 2 hf rfl fun a hf=>zT h ?_
  refine zI hf rfl hF ?_ ?_ <;> clear hF <;> intro hF
  ·refine zS fun K h=>sp 2 hf rfl fun a hf=>zT h ?_
   refine wp_ret ?_
   refine bI ?_
   refine aN ?_
   obtain rfl:=sj hF
   replace hc:=hc.nilRow 3 1
   replace hc:=hc.drop k1
   exact zO2 Tryz.results19 hf rfl rfl ⟨none,0,rfl,hc⟩
  ·refine wp_skip ?_
   refine h3 _ _ ?_
   refine zS fun K h=>zN hf hc lN m0 rfl fun a w hf hc=>sp 1 hf rfl fun a hf=>?_
   obtain ⟨U,O,hF⟩:=aA hF
   refine zC hf aJb rfl (rF c_ flow D hc O) ?_
   rintro _ w ⟨R,S,rfl,hc⟩
   refine ⟨_,rfl,fun a hf=>?_⟩
   refine sp 2 hf rfl fun a hf=>zT h ?_
   refine wp_ret ?_
   obtain rfl:=sj hF
   replace hc:=hc.drop k1
   exact zO2 Tryz.results19 hf rfl rfl ⟨R,S,rfl,hc⟩

def dK (s_:aE):Bool :=
 ((aQ s_.Lo 0 s_.Hi) && (bD s_.Hi))
theorem qG {G:bA} {Lf:List Ent} {w:World} (s_:aE)   (hc:Ctx G (Lf) w) {D:Bool} (hF:dK s_=D):Calls Tryz.prog 66 #[.agg #[i6 s_.Lo,i6 s_.Hi]] w (fun e w=>e=.returned (.bool D)∧Ctx G (Lf) w):=by
 unfold dK at hF
 refine cG Tryz.func66 rfl Tryz.ntmps66 rfl fun a hf=>zS fun K h=>zB hf hc rfl fun B a w hf hc=>sp 1 hf rfl fun a hf=>zT h ?_
 refine zS fun K h=>zP hf rfl (pFA hC rfl) fun a hf=>zL hf hc bB m0 rfl fun a w hf hc=>zP hf rfl (pFA hI rfl) fun a hf=>zL hf hc bB m0 rfl fun a w hf hc=>zQ (v:=.bool (aQ s_.Lo 0 s_.Hi)) hf hc pD rfl (fun w hc=>dO s_.Lo 0 s_.Hi hc rfl) fun a w hf hc=>sp 1 hf rfl fun a hf=>cP 4 (fun a=>Has 13 a [(1,pq B),(2,.bool false),(3,pq B),(4,i6 s_.Lo),(5,.pointer (some ⟨B,1,none⟩)),(6,i6 s_.Hi),(7,.bool (aQ s_.Lo 0 s_.Hi)),(8,.bool (aQ s_.Lo 0 s_.Hi)),(12,.bool ((aQ s_.Lo 0 s_.Hi) && (bD s_.Hi)))]) hc ?_ ?_
 ·cases hb:(aQ s_.Lo 0 s_.Hi)
  ·rw [hb] at hf
   refine stS hf rfl rfl rfl fun a hf=>stS hf rfl rfl rfl fun a hf=>stS hf rfl rfl rfl fun a hf=>sp 1 hf rfl fun a hf=>aP ⟨hf.kp rfl,hc⟩
  ·rw [hb] at hf
   refine zP hf rfl (pFA hI rfl) fun a hf=>zL hf hc bB m0 rfl fun a w hf hc=>zQ (v:=.bool (bD s_.Hi)) hf hc wE rfl (fun w hc=>fI s_.Hi hc rfl) fun a w hf hc=>sp 1 hf rfl fun a hf=>aP ⟨hf.kp rfl,hc⟩
 intro a w ⟨hf,hc⟩
 refine sp 1 hf rfl fun a hf=>zT h ?_
 refine wp_ret ?_
 obtain rfl:=hF
 replace hc:=hc.drop k0
 exact zO1 Tryz.results66 hf rfl ⟨rfl,hc⟩

def gY (N:Nat) (H:(List Int)) (I:(List Int)) (out:List aE) (x:Int):Option (bH ((List aE) × Int) ((List aE) × Int)) :=
 cond (decide (x < ((H.length:Nat):Int)))
 (Option.bind (aZ H x) fun D=>
 Option.bind (aZ I x) fun B=>
 Option.bind (jE ((out++[(⟨D,B⟩:aE)])).length) fun un=>
 some (.cont ((out++[(⟨D,B⟩:aE)]),W (x + 1))))
 (some (.brk (out,x)))
def nK (N:Nat) (c_:aJ) (flow:aE):Option ((List aE) × Int) :=
 Option.bind (hY N c_) fun r=>
 cond (r != 0)
 (some (([]:List aE),r))
 (cond (!(dK flow))
 (some (([]:List aE),4))
 (Option.bind (mR N c_ flow.Lo) fun H=>
 Option.bind (mR N c_ flow.Hi) fun I=>
 Option.bind (aT (fun B=>gY N H I B.1 B.2) N (([]:List aE),0)) fun D=>
 exK D (fun B=>some (B.1,0)) some))
theorem tX {N:Nat} {G:bA} {Lf:List Ent} {w:World} (c_:aJ) (flow:aE) {B:Option Addr} {D:Nat} (M:Rd G 3 B D (c_.Rights.map aK)) (hc:Ctx G (Lf) w) {k:(List aE) × Int} (hF:nK N c_ flow=some k):Calls Tryz.prog 21 #[.agg #[i6 c_.States,.slice B c_.Rights.length D],.agg #[i6 flow.Lo,i6 flow.Hi]] w (fun e w=>∃ (ak:Option Addr) (am:Nat),e=.returned (.tuple #[.slice ak k.1.length am,i6 k.2])∧Ctx G (.row ak am (k.1.map bC) 28 2::Lf) w):=by
 unfold nK at hF
 refine cG Tryz.func21 rfl Tryz.ntmps21 rfl fun a hf=>zS fun K h=>zB hf hc rfl fun aj a w hf hc=>zB hf hc rfl fun n a w hf hc=>sp 2 hf rfl fun a hf=>zT h ?_
 refine zS fun K h=>zN hf hc lN m1 rfl fun a w hf hc=>?_
 obtain ⟨r,hr,hF⟩:=aA hF
 refine zQ (v:=i6 r) hf hc aEr rfl (fun w hc=>mX c_ M hc hr) fun a w hf hc=>sp 1 hf rfl fun a hf=>zT h ?_
 refine wp_seq_k fun K3 h3=>wp_block ?_
 refine zS fun K h=>sp 3 hf rfl fun a hf=>zT h ?_
 refine zI hf rfl hF ?_ ?_ <;> clear hF <;> intro hF
 ·refine zS fun K h=>sp 3 hf rfl fun a hf=>zT h ?_
  refine wp_ret ?_
  refine bI ?_
  refine aN ?_
  obtain rfl:=sj hF
  replace hc:=hc.nilRow 28 2
  replace hc:=(hc.drop k2).drop k1
  exact zO2 Tryz.results21 hf rfl rfl ⟨none,0,rfl,hc⟩
 ·refine zS fun K h=>zN hf hc mL m0 rfl fun a w hf hc=>zQ (v:=.bool (dK flow)) hf hc aI3 rfl (fun w hc=>qG flow hc rfl) fun a w hf hc=>sp 2 hf rfl fun a hf=>zT h ?_
  refine zI hf rfl hF ?_ ?_ <;> clear hF <;> intro hF
  ·refine zS fun K h=>sp 2 hf rfl fun a hf=>zT h ?_
   refine wp_ret ?_
   refine bI ?_
   refine aN ?_
   obtain rfl:=sj hF
   replace hc:=hc.nilRow 28 2
   replace hc:=(hc.drop k2).drop k1
   exact zO2 Tryz.results21 hf rfl rfl ⟨none,0,rfl,hc⟩
  ·refine wp_skip ?_
   refine h3 _ _ ?_
   refine wp_seq_k fun K8 h8=>?_
   obtain ⟨H,ap,hF⟩:=aA hF
   obtain ⟨O,ay,hF⟩:=aA hF
   replace hc:=hc.nilRow 0 0
   replace hc:=hc.nilRow 0 0
   refine dJ (fun θ=>[⟨none,none,2,pq aj⟩,⟨none,none,3,pq n⟩,⟨some 0,none,21,.agg #[i6 c_.States,.slice B c_.Rights.length D]⟩,⟨some 1,none,22,pq n⟩,⟨some 2,none,23,i6 flow.Lo⟩,⟨some 3,none,24,.slice ((θ 24).p) H.length ((θ 24).c)⟩,⟨some 4,none,25,.agg #[i6 c_.States,.slice B c_.Rights.length D]⟩,⟨some 5,none,26,.pointer (some ⟨n,1,none⟩)⟩,⟨some 6,none,27,i6 flow.Hi⟩,⟨some 7,none,28,.slice ((θ 56).p) O.length ((θ 56).c)⟩,⟨some 8,none,7,.slice ((θ 24).p) H.length ((θ 24).c)⟩,⟨some 9,none,8,.slice ((θ 56).p) O.length ((θ 56).c)⟩]) (fun E θ=>(bif E 7 then .row ((θ 56).p) ((θ 56).c) (O.map aD) 3 1 else .row none 0 [] 0 0)::(bif E 3 then .row ((θ 24).p) ((θ 24).c) (H.map aD) 3 1 else .row none 0 [] 0 0)::.box n [i6 flow.Lo,i6 flow.Hi] 28::.box aj [i6 c_.States,.slice B c_.Rights.length D] 25::Lf) [(8,3),(9,7)] (fun a w=>∃ (ad:Option Addr) (ab:Nat) (af:Option Addr) (ac:Nat),Has 48 a [(7,.slice ad H.length ab),(8,.slice af O.length ac)]∧Ctx G (.row af ac (O.map aD) 3 1::.row ad ab (H.map aD) 3 1::.box n [i6 flow.Lo,i6 flow.Hi] 28::.box aj [i6 c_.States,.slice B c_.Rights.length D] 25::Lf) w) aY (by kernel_rfl) (by kernel_rfl) (eY.of hf ⟨rfl,rfl,trivial,trivial,trivial,trivial,trivial,trivial,trivial,trivial,trivial,trivial,trivial⟩) hc ⟨?_,?_,?_,?_,?_,?_,?_,?_,?_,?_,trivial⟩ ?_ ?_
   ·intro E θ a w hD hi hp he hc
    have hf:=he.h0.mT he 0 rfl
    refine zN hf hc lN m3 rfl fun a w hf hc=>zD θ he hi hf 2 rfl rfl rfl hc
   ·intro E θ a w hD hi hp he hc
    have hf:=he.h0.mT he 1 rfl
    refine zP hf rfl (pFA hC rfl) fun a hf=>zD θ he hi hf 3 rfl rfl rfl hc
   ·intro E θ a w hD hi hp he hc
    have e1:=hp.o 1 rfl
    have hf:=he.h0.mP he 3 rfl e1
    refine zL hf hc bB m2 rfl fun a w hf hc=>zD θ he hi hf 4 rfl rfl rfl hc
   ·intro E θ a w hD hi hp he hc
    have e0:=hp.o 0 rfl
    have e2:=hp.o 2 rfl
    have e8:=hD.f 0 rfl hi
    try dsimp only at hc
    rw [hi] at hc
    have hf:=(he.h0.mP he 2 rfl e0).mP he 4 rfl e2
    refine zC hf aJb rfl (rF c_ flow.Lo M hc ap) ?_
    rintro _ w ⟨a8,a3,rfl,hc⟩
    refine ⟨_,rfl,fun a hf=>?_⟩
    refine aP ?_
    refine bV ?_
    intro ds u Z
    replace hc:=((hc.drop k2).pick k0).pick k1
    refine ⟨(fY θ 24 ⟨0,a8,a3,(fun _=>(none,0))⟩),he.put hi Z hf rfl [8] ⟨⟨e8,rfl⟩,trivial⟩ ⟨qq,qq,qq,qq,qq,qq,qq,qq,qq,qq,trivial,qq,trivial⟩,?_⟩
    try dsimp only
    rw [aU E 3]
    exact hc
   ·intro E θ a w hD hi hp he hc
    have hf:=he.h0.mT he 0 rfl
    refine zN hf hc lN m3 rfl fun a w hf hc=>zD θ he hi hf 6 rfl rfl rfl hc
   ·intro E θ a w hD hi hp he hc
    have hf:=he.h0.mT he 1 rfl
    refine zP hf rfl (pFA hI rfl) fun a hf=>zD θ he hi hf 7 rfl rfl rfl hc
   ·intro E θ a w hD hi hp he hc
    have e5:=hp.o 5 rfl
    have hf:=he.h0.mP he 7 rfl e5
    refine zL hf hc bB m2 rfl fun a w hf hc=>zD θ he hi hf 8 rfl rfl rfl hc
   ·intro E θ a w hD hi hp he hc
    have e4:=hp.o 4 rfl
    have e6:=hp.o 6 rfl
    have e9:=hD.f 1 rfl hi
    try dsimp only at hc
    rw [hi] at hc
    have hf:=(he.h0.mP he 6 rfl e4).mP he 8 rfl e6
    refine zC hf aJb rfl (rF c_ flow.Hi M hc ay) ?_
    rintro _ w ⟨bb,ba,rfl,hc⟩
    refine ⟨_,rfl,fun a hf=>?_⟩
    refine aP ?_
    refine bV ?_
    intro ds u Z
    replace hc:=hc.drop k1
    refine ⟨(fY θ 56 ⟨0,bb,ba,(fun _=>(none,0))⟩),he.put hi Z hf rfl [9] ⟨⟨e9,rfl⟩,trivial⟩ ⟨qq,qq,qq,qq,qq,qq,qq,qq,qq,qq,qq,trivial,trivial⟩,?_⟩
    try dsimp only
    rw [aU E 7]
    exact hc
   ·intro E θ a w hD hi hp he hc
    have e3:=hp.o 3 rfl
    have hf:=he.h0.mP he 5 rfl e3
    refine sp 1 hf rfl fun a hf=>zD θ he hi hf 10 rfl rfl rfl hc
   ·intro E θ a w hD hi hp he hc
    have e7:=hp.o 7 rfl
    have hf:=he.h0.mP he 9 rfl e7
    refine sp 1 hf rfl fun a hf=>zD θ he hi hf 11 rfl rfl rfl hc
   ·intro E θ a w V he hc
    have hf:=he.h0
    have e3:=V 3 rfl
    have e7:=V 7 rfl
    have e8:=V 8 rfl
    have e9:=V 9 rfl
    replace hf:=hf.more he 11 rfl (onP e9)
    replace hf:=hf.more he 10 rfl (onP e8)
    try dsimp only at hc
    rw [e3,e7] at hc
    exact ⟨(θ 24).p,(θ 24).c,(θ 56).p,(θ 56).c,hf.kp rfl,hc⟩
   rintro a w ⟨ad,ab,af,ac,hf,hc⟩
   refine h8 _ _ ?_
   refine zS fun K h=>sp 1 hf rfl fun a hf=>zT h ?_
   refine wp_seq_k fun K10 a2=>zS fun K h=>sp 1 hf rfl fun a hf=>zP hf rfl (bL Tryz.underlying22 rfl) fun a hf=>sp 1 hf rfl fun a hf=>zT h ?_
   refine wp_block ?_
   obtain ⟨ai,az,hF⟩:=aA hF
   let S12:((List aE) × Int)→Act→World→Prop:=(fun (zz:(List aE) × Int) a w=>∃ (m:Option Addr) (R:Nat) (y:Option Addr) (U:Nat) (Y:Option Addr) (X:Nat),Has 48 a [(7,.slice m H.length R),(8,.slice y O.length U),(9,.slice Y zz.1.length X),(30,i6 ((H.length:Nat):Int)),(31,i6 zz.2)]∧Ctx G (.row Y X (zz.1.map bC) 28 2::.row y U (O.map aD) 3 1::.row m R (H.map aD) 3 1::Lf) w)
   have aq:∀ (zz:(List aE) × Int) a w,ai=.go zz→S12 zz a w→K10 a w:=by
    rintro ⟨out,x⟩ a w rfl ⟨m,R,y,U,Y,X,hf,hc⟩
    replace hF:=bQ hF
    refine a2 _ _ ?_
    refine zS fun K h=>sp 3 hf rfl fun a hf=>zT h ?_
    refine wp_ret ?_
    obtain rfl:=sj hF
    replace hc:=(hc.drop k2).drop k1
    exact zO2 Tryz.results21 hf rfl rfl ⟨Y,X,rfl,hc⟩
   have bc:∀ r,ai=.out r→r=k:=by
    rintro r rfl
    exact sj hF
   replace hc:=hc.nilRow 28 2
   replace hc:=(hc.drop k4).drop k3
   refine cX N (cV (S:=S12) (x:=ai) ?_ N (([]:List aE),0) _ _ ⟨ad,ab,af,ac,none,0,hf.kp rfl,hc⟩ az)
   clear hF hf hc
   rintro ⟨out,x⟩ bd a w KB12 ⟨m,R,y,U,Y,X,hf,hc⟩ hF t av
   unfold gY at hF
   refine zS fun K h=>sp 1 hf rfl fun a hf=>zT h ?_
   refine wp_seq_k fun K15 a7=>zI hf rfl hF ?_ ?_ <;> clear hF <;> intro hF
   ·refine wp_skip ?_
    refine a7 _ _ ?_
    refine wp_seq_k fun K16 a4=>wp_block ?_
    refine zS fun K h=>sp 2 hf rfl fun a hf=>zT h ?_
    obtain ⟨I,ar,hF⟩:=aA hF
    obtain ⟨g,rfl,qa,qr⟩:=nT hc m2 ar
    obtain ⟨J,au,hF⟩:=aA hF
    obtain ⟨d,rfl,ax,a0⟩:=nT hc m1 au
    obtain ⟨un,a6,hF⟩:=aA hF
    replace hc:=hc.nilRow 0 0
    refine dJ (fun θ=>[⟨none,none,7,.slice (some ⟨g,0,none⟩) H.length R⟩,⟨none,none,8,.slice (some ⟨d,0,none⟩) O.length U⟩,⟨none,some 12,9,.slice Y out.length X⟩,⟨none,none,10,i6 x⟩,⟨none,none,30,i6 ((H.length:Nat):Int)⟩,⟨none,none,31,i6 x⟩,⟨some 0,none,34,.slice Y out.length X⟩,⟨some 1,none,35,.slice (some ⟨g,0,none⟩) H.length R⟩,⟨some 2,none,36,i6 x⟩,⟨some 3,none,37,.pointer (some ⟨g,x.toNat * 1,none⟩)⟩,⟨some 4,none,38,i6 I⟩,⟨some 5,none,39,.slice (some ⟨d,0,none⟩) O.length U⟩,⟨some 6,none,40,i6 x⟩,⟨some 7,none,41,.pointer (some ⟨d,x.toNat * 1,none⟩)⟩,⟨some 8,none,42,i6 J⟩,⟨some 9,none,43,.agg #[i6 I,i6 J]⟩,⟨some 10,none,44,.slice (some ⟨(θ 80).b,0,none⟩) 1 1⟩,⟨some 11,none,45,.slice ((θ 88).p) ((out++[(⟨I,J⟩:aE)]).length) ((θ 88).c)⟩,⟨some 12,none,9,.slice ((θ 88).p) ((out++[(⟨I,J⟩:aE)]).length) ((θ 88).c)⟩]) (fun E θ=>(bif E 10 then .row (some ⟨(θ 80).b,0,none⟩) 1 (([(⟨I,J⟩:aE)]:List aE).map bC) 28 2 else .row none 0 [] 0 0)::(bif E 11 then .row ((θ 88).p) ((θ 88).c) ((out++[(⟨I,J⟩:aE)]).map bC) 28 2 else .row Y X (out.map bC) 28 2)::.row (some ⟨d,0,none⟩) U (O.map aD) 3 1::.row (some ⟨g,0,none⟩) R (H.map aD) 3 1::Lf) [(12,0),(12,11)] (fun a w=>∃ (aa:Option Addr) (z:Nat) (an:Nat),Has 48 a [(7,.slice (some ⟨g,0,none⟩) H.length R),(8,.slice (some ⟨d,0,none⟩) O.length U),(30,i6 ((H.length:Nat):Int)),(31,i6 x),(9,.slice aa ((out++[(⟨I,J⟩:aE)]).length) z)]∧Ctx G (.row (some ⟨an,0,none⟩) 1 (([(⟨I,J⟩:aE)]:List aE).map bC) 28 2::.row aa z ((out++[(⟨I,J⟩:aE)]).map bC) 28 2::.row (some ⟨d,0,none⟩) U (O.map aD) 3 1::.row (some ⟨g,0,none⟩) R (H.map aD) 3 1::Lf) w) aY (by kernel_rfl) (by kernel_rfl) (eY.of hf ⟨rfl,rfl,rfl,rfl,rfl,rfl,trivial,trivial,trivial,trivial,trivial,trivial,trivial,trivial,trivial,trivial,trivial,trivial,trivial,trivial⟩) hc ⟨?_,?_,?_,?_,?_,?_,?_,?_,?_,?_,?_,?_,?_,trivial⟩ ?_ ?_
    ·intro E θ a w hD hi hp he hc
     have s:=hD.f 0 rfl hi
     have hf:=he.h0.mN he 2 rfl s
     refine sp 1 hf rfl fun a hf=>zD θ he hi hf 6 rfl rfl rfl hc
    ·intro E θ a w hD hi hp he hc
     have hf:=he.h0.mT he 0 rfl
     refine sp 1 hf rfl fun a hf=>zD θ he hi hf 7 rfl rfl rfl hc
    ·intro E θ a w hD hi hp he hc
     have hf:=he.h0.mT he 3 rfl
     refine sp 1 hf rfl fun a hf=>zD θ he hi hf 8 rfl rfl rfl hc
    ·intro E θ a w hD hi hp he hc
     have e1:=hp.o 1 rfl
     have e2:=hp.o 2 rfl
     have hf:=(he.h0.mP he 7 rfl e1).mP he 8 rfl e2
     refine zP hf rfl (pIA Tryz.underlying22 cY rfl rfl qa) fun a hf=>zD θ he hi hf 9 rfl rfl rfl hc
    ·intro E θ a w hD hi hp he hc
     have e3:=hp.o 3 rfl
     have hf:=he.h0.mP he 9 rfl e3
     refine zE hf hc rfl (bP bB rfl (bX (sz:=1) (i:=x.toNat) (j:=0) m3 qr rfl)) fun a w hf hc=>zD θ he hi hf 10 rfl rfl rfl hc
    ·intro E θ a w hD hi hp he hc
     have hf:=he.h0.mT he 1 rfl
     refine sp 1 hf rfl fun a hf=>zD θ he hi hf 11 rfl rfl rfl hc
    ·intro E θ a w hD hi hp he hc
     have hf:=he.h0.mT he 3 rfl
     refine sp 1 hf rfl fun a hf=>zD θ he hi hf 12 rfl rfl rfl hc
    ·intro E θ a w hD hi hp he hc
     have e5:=hp.o 5 rfl
     have e6:=hp.o 6 rfl
     have hf:=(he.h0.mP he 11 rfl e5).mP he 12 rfl e6
     refine zP hf rfl (pIA Tryz.underlying22 cY rfl rfl ax) fun a hf=>zD θ he hi hf 13 rfl rfl rfl hc
    ·intro E θ a w hD hi hp he hc
     have e7:=hp.o 7 rfl
     have hf:=he.h0.mP he 13 rfl e7
     refine zE hf hc rfl (bP bB rfl (bX (sz:=1) (i:=x.toNat) (j:=0) m2 a0 rfl)) fun a w hf hc=>zD θ he hi hf 14 rfl rfl rfl hc
    ·intro E θ a w hD hi hp he hc
     have e4:=hp.o 4 rfl
     have e8:=hp.o 8 rfl
     have hf:=(he.h0.mP he 10 rfl e4).mP he 14 rfl e8
     refine zP hf rfl (bG (cells:=[i6 I,i6 J]) tF rfl rfl) fun a hf=>zD θ he hi hf 15 rfl rfl rfl hc
    ·intro E θ a w hD hi hp he hc
     have e9:=hp.o 9 rfl
     try dsimp only at hc
     rw [hi] at hc
     have hf:=he.h0.mP he 15 rfl e9
     refine gV (rows:=([(⟨I,J⟩:aE)]:List aE).map bC) (vs:=[(0,.agg #[i6 I,i6 J])]) hf hc rfl rfl wF rfl ⟨rfl,rfl,rfl,trivial⟩ rfl rfl fun a1 a w hf hc=>aP ?_
     refine bV ?_
     intro ds u Z
     replace hc:=hc.drop k1
     refine ⟨(fY θ 80 ⟨a1,none,0,(fun _=>(none,0))⟩),he.put hi Z hf rfl [] trivial ⟨qq,qq,qq,qq,qq,qq,qq,qq,qq,qq,qq,qq,qq,qq,qq,qq,qq,qq,qq,trivial⟩,?_⟩
     try dsimp only
     rw [aU E 10]
     exact hc
    ·intro E θ a w hD hi hp he hc
     have e0:=hp.o 0 rfl
     have q:=hp.o 10 rfl
     have s:=hD.f 1 rfl hi
     try dsimp only at hc
     rw [q,hi] at hc
     have hf:=(he.h0.mP he 6 rfl e0).mP he 16 rfl q
     refine iV (xs:=out) (ys:=([(⟨I,J⟩:aE)]:List aE)) hf hc rfl rfl wF rfl rfl rfl rfl rfl nH (fA hc m0) (fun _ _=>u1) (by simpa using cB a6) fun a9 a5 a w hf hc=>aP ?_
     refine bV ?_
     intro ds u Z
     refine ⟨(fY θ 88 ⟨0,a9,a5,(fun _=>(none,0))⟩),he.put hi Z hf rfl [12] ⟨⟨s,rfl⟩,trivial⟩ ⟨qq,qq,qq,qq,qq,qq,qq,qq,qq,qq,qq,qq,qq,qq,qq,qq,qq,qq,trivial,trivial⟩,?_⟩
     try dsimp only
     rw [dH 11 q,aU E 11]
     exact hc
    ·intro E θ a w hD hi hp he hc
     have ag:=hp.o 11 rfl
     have hf:=he.h0.mP he 17 rfl ag
     refine sp 1 hf rfl fun a hf=>zD θ he hi hf 18 rfl rfl rfl hc
    ·intro E θ a w V he hc
     have hf:=he.h0
     have q:=V 10 rfl
     have ag:=V 11 rfl
     have s:=V 12 rfl
     replace hf:=hf.more he 18 rfl (onP s)
     replace hf:=hf.more he 5 rfl (onT)
     replace hf:=hf.more he 4 rfl (onT)
     replace hf:=hf.more he 1 rfl (onT)
     replace hf:=hf.more he 0 rfl (onT)
     try dsimp only at hc
     rw [q,ag] at hc
     exact ⟨(θ 88).p,(θ 88).c,(θ 80).b,hf.kp rfl,hc⟩
    rintro a w ⟨aa,z,an,hf,hc⟩
    refine a4 _ _ ?_
    refine bR ?_
    refine sp 2 hf rfl fun a hf=>aP ?_
    replace hc:=hc.drop k0
    exact av ((out++[(⟨I,J⟩:aE)]),W (x + 1)) _ _ (sj hF).symm ⟨(some ⟨g,0,none⟩),R,(some ⟨d,0,none⟩),U,aa,z,hf.kp rfl,hc⟩
   ·refine wp_exit ?_
    refine bE ?_
    refine bE ?_
    have he:=sj hF
    rw [← he] at t
    refine eX ?_
    exact aq _ _ _ t ⟨m,R,y,U,Y,X,hf.kp rfl,hc⟩

def dD (N:Nat) {σ:Type} (x:cI) (y:σ→(aG × Int)→Option (σ × Bool)) (H:Int) (B:Int) (sg:σ):Option (bH (Int × Int × σ) (σ × Int)) :=
 cond (decide (H < ((x.Compact.Rights.length:Nat):Int)))
 (Option.bind (aZ x.Compact.Rights H) fun D=>
 Option.bind (y sg (D,min D.Amount B)) fun ry=>
 cond (!ry.2)
 (some (.ret (ry.1,W (B - (min D.Amount B)))))
 (some (.cont (W (H + 1),W (B - (min D.Amount B)),ry.1))))
 (some (.brk (H,B,sg)))
def iH (N:Nat) {σ:Type} (x:cI) (B:Int) (y:σ→(aG × Int)→Option (σ × Bool)) (D:σ):Option (σ × Int) :=
 Option.bind (aT (fun s3=>dD N x y s3.1 s3.2.1 s3.2.2) N (0,B,D)) fun x3=>
 exK x3 (fun s3=>some (s3.2.2,s3.2.1)) some
theorem qY {N:Nat} {G:bA} {Lf:List Ent} {w:World} {σ:Type} (x:cI) (Y:Int) {b_:Nat} {M:Nat} {B:Option Addr} {D:Nat} {O:Nat} (R:Rd G 3 B D (x.Compact.Rights.map aK)) (J:σ→List Ent→Prop) (y:σ→(aG × Int)→Option (σ × Bool)) {l:Nat} (hy:uR Tryz.prog G l (fun x:(aG × Int)=>[.agg #[i6 x.1.State,i6 x.1.Amount,i6 x.1.Loss],i6 x.2]) J y) (d:σ) {Ls0:List Ent} (k:J d Ls0) (hc:Ctx G (.box b_ [pq M] 131::.box M (lY [i6 x.Compact.States,.slice B x.Compact.Rights.length D] 12 aD x.got []) 134::.box O [i6 Y] 3::(Ls0++Lf)) w) {V:σ × Int} (hF:iH N x Y y d=some V):Calls Tryz.prog 95 #[.func (.yield l) #[] #[],pq b_,pq O] w (fun e w=>(∃ v,e=.returned v)∧∃ L,J V.1 L∧Ctx G (.box b_ [pq M] 131::.box M (lY [i6 x.Compact.States,.slice B x.Compact.Rights.length D] 12 aD x.got []) 134::.box O [i6 V.2] 3::(L++Lf)) w):=by
 unfold iH at hF
 refine cG Tryz.func95 rfl Tryz.ntmps95 rfl fun a hf=>zS fun K h=>zL hf hc yC m0 rfl fun a w hf hc=>sp 1 hf rfl fun a hf=>zP hf rfl (pFA aBv rfl) fun a hf=>zP hf rfl (pFA kN rfl) fun a hf=>zL hf hc sD m1 rfl fun a w hf hc=>zP hf rfl (bL Tryz.underlying23 rfl) fun a hf=>sp 1 hf rfl fun a hf=>zT h ?_
 refine oV fun K2 h2=>wp_block ?_
 obtain ⟨x3,s,hF⟩:=aA hF
 let S3:(Int × Int × σ)→Act→World→Prop:=(fun (zz:Int × Int × σ) a w=>∃ (Ls:List Ent),J zz.2.2 Ls∧Has 30 a [(0,.func (.yield l) #[] #[]),(2,pq O),(11,.slice B x.Compact.Rights.length D),(12,i6 ((x.Compact.Rights.length:Nat):Int)),(13,i6 zz.1)]∧Ctx G (.box b_ [pq M] 131::.box M (lY [i6 x.Compact.States,.slice B x.Compact.Rights.length D] 12 aD x.got []) 134::.box O [i6 zz.2.1] 3::(Ls++Lf)) w)
 have m:∀ (zz:Int × Int × σ) a w,x3=.go zz→S3 zz a w→K2 a w:=by
  rintro ⟨b,I,sg⟩ a w rfl ⟨Ls,hJ,hf,hc⟩
  replace hF:=bQ hF
  refine h2 _ _ ?_
  obtain rfl:=sj hF
  exact aDh (by simp) rfl Tryz.results95 hf ⟨⟨_,rfl⟩,Ls,hJ,hc⟩
 have p:∀ r,x3=.out r→r=V:=by
  rintro r rfl
  exact sj hF
 refine cX N (cV (S:=S3) (x:=x3) ?_ N (0,Y,d) _ _ ⟨Ls0,k,hf.kp rfl,hc⟩ s)
 clear hF hf hc
 rintro ⟨b,I,sg⟩ t a w KB3 ⟨Ls,hJ,hf,hc⟩ hF U j
 unfold dD at hF
 refine zS fun K h=>sp 1 hf rfl fun a hf=>zT h ?_
 refine wp_seq_k fun K5 h5=>zI hf rfl hF ?_ ?_ <;> clear hF <;> intro hF
 ·refine wp_skip ?_
  refine h5 _ _ ?_
  refine wp_seq_k fun K6 h6=>wp_block ?_
  refine zS fun K h=>?_
  obtain ⟨H,g,hF⟩:=aA hF
  obtain ⟨u,o,qa,qp⟩:=R.atm g
  refine zP hf rfl (pIA Tryz.underlying23 sG rfl rfl qa) fun a hf=>zE hf hc rfl (kG (vs:=[i6 H.State,i6 H.Amount,i6 H.Loss]) wG rfl rfl (cR qp (n:=3) (o':=0) rfl)) fun a w hf hc=>zA hf hc aEm rfl fun X a w hf hc=>zW hf hc sG u0 rfl fun w hc=>zT h ?_
  refine zS fun K h=>zP hf rfl (pFA xU rfl) fun a hf=>zL hf hc bB m0 rfl fun a w hf hc=>zL hf hc bB m3 rfl fun a w hf hc=>zP hf rfl (aG8 rfl rfl) fun a hf=>sp 1 hf rfl fun a hf=>zT h ?_
  refine zS fun K h=>zL hf hc bB m3 rfl fun a w hf hc=>sp 2 hf rfl fun a hf=>zW hf hc cY u3 rfl fun w hc=>zT h ?_
  refine wp_seq_k fun K10 i=>?_
  obtain ⟨ry,q,hF⟩:=aA hF
  refine yReg 3 (fun a w=>Has 30 a [(0,.func (.yield l) #[] #[]),(2,pq O),(11,.slice B x.Compact.Rights.length D),(12,i6 ((x.Compact.Rights.length:Nat):Int)),(13,i6 b),(5,pq X),(6,i6 (min H.Amount I)),(24,.func (.yield l) #[] #[]),(25,.agg #[i6 H.State,i6 H.Amount,i6 H.Loss]),(26,i6 (min H.Amount I))]∧Ctx G (.box X [i6 H.State,i6 H.Amount,i6 H.Loss] 46::.box b_ [pq M] 131::.box M (lY [i6 x.Compact.States,.slice B x.Compact.Rights.length D] 12 aD x.got []) 134::.box O [i6 (W (I - (min H.Amount I)))] 3::(Ls++Lf)) w) (fun _ _ h=>by obtain ⟨⟨_,h⟩,_⟩:=h; cases h) ?_ ?_
  ·refine sp 1 hf rfl fun a hf=>zN hf hc wG m0 rfl fun a w hf hc=>sp 1 hf rfl fun a hf=>aP ⟨hf.kp rfl,hc⟩
  rintro a w ⟨hf,hc⟩
  refine stY (own:=[.box X [i6 H.State,i6 H.Amount,i6 H.Loss] 46,.box b_ [pq M] 131,.box M (lY [i6 x.Compact.States,.slice B x.Compact.Rights.length D] 12 aD x.got []) 134,.box O [i6 (W (I - (min H.Amount I)))] 3]) (v:=(H,min H.Amount I)) hy hJ q hf hc rfl rfl rfl rfl rfl rfl fun a w Ls_1 Z hf hc=>?_
  replace hc:Ctx G (.box X [i6 H.State,i6 H.Amount,i6 H.Loss] 46::.box b_ [pq M] 131::.box M (lY [i6 x.Compact.States,.slice B x.Compact.Rights.length D] 12 aD x.got []) 134::.box O [i6 (W (I - (min H.Amount I)))] 3::(Ls_1++Lf)) w:=hc
  refine aLj (fun _ _ h=>by obtain ⟨⟨_,h⟩,_⟩:=h; cases h) ?_
  refine sp 1 hf rfl fun a hf=>aP ?_
  refine i _ _ ?_
  refine zI hf rfl hF ?_ ?_ <;> clear hF <;> intro hF
  ·refine wp_ret ?_
   refine bI ?_
   refine aN ?_
   refine aN ?_
   have he:=sj hF
   rw [← he] at U
   replace hF:=p _ U
   refine bI ?_
   refine aN ?_
   obtain rfl:=hF
   replace hc:=hc.drop k0
   exact aDh (by simp) rfl Tryz.results95 hf ⟨⟨_,rfl⟩,Ls_1,Z,hc⟩
  ·refine wp_skip ?_
   refine h6 _ _ ?_
   refine bR ?_
   refine sp 2 hf rfl fun a hf=>aP ?_
   replace hc:=hc.drop k0
   exact j (W (b + 1),W (I - (min H.Amount I)),ry.1) _ _ (sj hF).symm ⟨Ls_1,Z,hf.kp rfl,hc⟩
 ·refine wp_exit ?_
  refine bE ?_
  refine bE ?_
  have he:=sj hF
  rw [← he] at U
  refine eX ?_
  exact m _ _ _ U ⟨Ls,hJ,hf.kp rfl,hc⟩

def iR (N:Nat) (x:Int) (B:Int) (xv:aG) (D:Int):Option (Rs (Int × Int)) :=
 cond (decide (D < xv.Amount))
 (some (.ret (B,B)))
 (some (.go (x,W (B + 1))))
def oE (N:Nat) (c_:aJ) (flow:Int):Option (Int × Int) :=
 Option.bind (hY N c_) fun r=>
 cond (r != 0)
 (some (0,r))
 (cond (!(bD flow))
 (some (0,4))
 (Option.bind (gT N (⟨c_,(fun _=>0)⟩:cI) flow) fun I=>
 Option.bind (iH N (⟨c_,(fun _=>0)⟩:cI) I (rY (fun (zz:Int × Int) (D:(aG × Int))=>iR N zz.1 zz.2 D.1 D.2)) (.go (0,0))) fun H=>
 rsK H.1 (fun B=>some ((-1),0)) (fun B=>some (B.1,0))))
theorem vJ {N:Nat} {G:bA} {Lf:List Ent} {w:World} (c_:aJ) (flow:Int) {B:Option Addr} {D:Nat} (M:Rd G 3 B D (c_.Rights.map aK)) (hc:Ctx G (Lf) w) {Y:Int × Int} (hF:oE N c_ flow=some Y):Calls Tryz.prog 24 #[.agg #[i6 c_.States,.slice B c_.Rights.length D],i6 flow] w (fun e w=>e=.returned (.tuple #[i6 Y.1,i6 Y.2])∧Ctx G (Lf) w):=by
 unfold oE at hF
 refine aKx Tryz.func24 rfl Tryz.ntmps24 rfl fun a hf=>zS fun K h=>zB hf hc rfl fun u a w hf hc=>zA hf hc aFt rfl fun I a w hf hc=>zA hf hc zr_55 rfl fun H a w hf hc=>zT h ?_
 refine zS fun K h=>zN hf hc lN m2 rfl fun a w hf hc=>?_
 obtain ⟨r,hr,hF⟩:=aA hF
 refine zQ (v:=i6 r) hf hc aEr rfl (fun w hc=>mX c_ M hc hr) fun a w hf hc=>sp 1 hf rfl fun a hf=>zT h ?_
 refine wp_seq_k fun K3 h3=>wp_block ?_
 refine zS fun K h=>sp 3 hf rfl fun a hf=>zT h ?_
 refine zI hf rfl hF ?_ ?_ <;> clear hF <;> intro hF
 ·refine zS fun K h=>sp 1 hf rfl fun a hf=>zW hf hc cY u1 rfl fun w hc=>zW hf hc aGq u0 rfl fun w hc=>zT h ?_
  refine wp_ret ?_
  refine bI ?_
  refine aN ?_
  obtain rfl:=sj hF
  replace hc:=((hc.drop k2).pick k0).pick k1
  refine aIi hf ?_
  exact aGu Tryz.results24 hf hc (pU bB rfl (bZ m0 rfl)) (pU aHf rfl (bZ m1 rfl)) ⟨rfl,((hc.drop k1).drop k0)⟩
 ·refine zS fun K h=>sp 1 hf rfl fun a hf=>zQ (v:=.bool (bD flow)) hf hc wE rfl (fun w hc=>fI flow hc rfl) fun a w hf hc=>sp 2 hf rfl fun a hf=>zT h ?_
  refine zI hf rfl hF ?_ ?_ <;> clear hF <;> intro hF
  ·refine zS fun K h=>zW hf hc cY u1 rfl fun w hc=>zW hf hc aGq u0 rfl fun w hc=>zT h ?_
   refine wp_ret ?_
   refine bI ?_
   refine aN ?_
   obtain rfl:=sj hF
   replace hc:=((hc.drop k2).pick k0).pick k1
   refine aIi hf ?_
   exact aGu Tryz.results24 hf hc (pU bB rfl (bZ m0 rfl)) (pU aHf rfl (bZ m1 rfl)) ⟨rfl,((hc.drop k1).drop k0)⟩
  ·refine wp_skip ?_
   refine h3 _ _ ?_
   refine zS fun K h=>zN hf hc lN m2 rfl fun a w hf hc=>zP hf rfl (bG (cells:=(lY [i6 c_.States,.slice B c_.Rights.length D] 12 aD (fun _=>0) [])) aJs rfl rfl) fun a hf=>stBx (cs:=(lY [i6 c_.States,.slice B c_.Rights.length D] 12 aD (fun _=>0) [])) hf hc rfl rfl rfl rfl fun R a w hf hc=>sp 1 hf rfl fun a hf=>zT h ?_
   refine zS fun K h=>zA hf hc aFt rfl fun S a w hf hc=>zW hf hc cY u0 rfl fun w hc=>zT h ?_
   refine wp_seq_k fun K10 n=>zS fun K h=>sp 2 hf rfl fun a hf=>?_
   obtain ⟨i,k,hF⟩:=aA hF
   refine zC hf aK5 rfl (pC (⟨c_,(fun _=>0)⟩:cI) flow M (hc.pick k1) k) ?_
   rintro _ w ⟨V,X,rfl,hc⟩
   refine ⟨_,rfl,fun a hf=>?_⟩
   refine zT h ?_
   obtain ⟨U,m,hF⟩:=aA hF
   replace hc:=(((hc.drop k6).pick k1).pick k2).pick k2
   refine aLx (C:=[.box V [pq R] 131,.box R (lY [i6 c_.States,.slice B c_.Rights.length D] 12 aD (fun _=>0) []) 134,.box X [i6 i] 3]) (C2:=[.box V [pq R] 131,.box R (lY [i6 c_.States,.slice B c_.Rights.length D] 12 aD (fun _=>0) []) 134,.box X [i6 U.2] 3]) (L0:=[.box S [i6 0] 3,.box H [i6 0] 55,.box I [i6 0] 3]) (Lf:=Lf) (encs:=fun x:(aG × Int)=>[.agg #[i6 x.1.State,i6 x.1.Amount,i6 x.1.Loss],i6 x.2]) (fun (zz:Int × Int) L=>L=[.box S [i6 zz.2] 3,.box H [i6 0] 55,.box I [i6 zz.1] 3]) (fun (zz:Int × Int) (j:(aG × Int))=>iR N zz.1 zz.2 j.1 j.2) (0,0) U.1 hf hc rfl aLk (fun _=>rfl) rfl rfl ?_ ?_ ?_ ?_
   ·intro lq mq J L Lx w hy hJ hc
    exact qY (⟨c_,(fun _=>0)⟩:cI) i M J _ hy _ hJ hc m
   ·clear hF hf hc
    rintro lq mq ⟨x,O⟩ ⟨xv,Z⟩ oq _ Lr Lb a w y rfl hF hf hc hK
    replace hf:Has 36 a [(4,pq I),(5,pq H),(8,pq S),(27,.agg #[i6 xv.State,i6 xv.Amount,i6 xv.Loss]),(28,i6 Z)]:=hf.kp rfl
    replace hc:Ctx G (.box S [i6 O] 3::.box H [i6 0] 55::.box I [i6 x] 3::Lr) w:=hc
    replace hF:iR N x O xv Z=some oq:=hF
    unfold iR at hF
    refine aJl fun K13 t=>aFy (fun _ _ h=>h) rfl ?_
    refine zA hf hc aEm rfl fun g a w hf hc=>zW hf hc sG u0 rfl fun w hc=>aP ?_
    refine t _ _ ?_
    refine aFy (fun _ _ h=>h) rfl ?_
    refine sp 1 hf rfl fun a hf=>aP ?_
    refine hK _ _ [.box g [i6 xv.State,i6 xv.Amount,i6 xv.Loss] 46,.box S [i6 O] 3,.box H [i6 0] 55,.box I [i6 x] 3] hc fun w hc=>?_
    replace hc:Ctx G (.box g [i6 xv.State,i6 xv.Amount,i6 xv.Loss] 46::.box S [i6 O] 3::.box H [i6 0] 55::.box I [i6 x] 3::Lb) w:=hc
    refine aIr fun K14 o=>aJz ?_
    refine aJl fun K15 q=>aJl fun K16 p=>aFy (fun _ _ h=>h) rfl ?_
    refine sp 1 hf rfl fun a hf=>zP hf rfl (pFA xU rfl) fun a hf=>zL hf hc bB m0 rfl fun a w hf hc=>sp 1 hf rfl fun a hf=>aP ?_
    refine p _ _ ?_
    refine rCond (b:=(decide (Z < xv.Amount))) hf rfl (fun hb=>?_) (fun hb=>?_)
    ·replace hF:=fO hb hF
     clear hb
     refine aJl fun K17 s=>aFy (fun _ _ h=>h) rfl ?_
     refine zL hf hc bB m1 rfl fun a w hf hc=>zW hf hc cY u3 rfl fun w hc=>zW hf hc aGq u2 rfl fun w hc=>aP ?_
     refine s _ _ ?_
     refine rRet ?_
     refine aN ?_
     refine bI ?_
     refine aN ?_
     replace hc:=hc.drop k0
     exact ⟨(O,O),_,(sj hF).symm,rfl,hc⟩
    ·replace hF:=fN hb hF
     clear hb
     refine rSkip ?_
     refine q _ _ ?_
     refine aFy (fun _ _ h=>h) rfl ?_
     refine zL hf hc bB m1 rfl fun a w hf hc=>sp 1 hf rfl fun a hf=>zW hf hc cY u1 rfl fun w hc=>aP ?_
     refine o _ _ ?_
     replace hc:=hc.drop k0
     exact ⟨(x,W (O + 1)),_,(sj hF).symm,rfl,hc⟩
   ·rintro D_1 ⟨x,O⟩ _ a w d rfl hf hc
    replace hf:Has ⟨36,aA9 (D_1::[])⟩ a [(4,pq I),(5,pq H),(8,pq S)]:=hf.kp rfl
    replace hc:Ctx G (.box V [pq R] 131::.box R (lY [i6 c_.States,.slice B c_.Rights.length D] 12 aD (fun _=>0) []) 134::.box X [i6 U.2] 3::.box S [i6 O] 3::.box H [i6 0] 55::.box I [i6 x] 3::(aFg (D_1::[])++Lf)) w:=aDc (C:=[.box V [pq R] 131,.box R (lY [i6 c_.States,.slice B c_.Rights.length D] 12 aD (fun _=>0) []) 134,.box X [i6 U.2] 3]) (L:=[.box S [i6 O] 3,.box H [i6 0] 55,.box I [i6 x] 3]) hc
    replace hF:(some ((-1),0))=some Y:=by rcases d with h_ | h_ <;> (rw [h_] at hF; exact hF)
    refine n _ _ ?_
    refine zS fun K h=>zW hf hc cY u5 rfl fun w hc=>zW hf hc aGq u4 rfl fun w hc=>zT h ?_
    refine wp_ret ?_
    obtain rfl:=sj hF
    replace hc:=(((((hc.drop k3).drop k2).drop k1).drop k0).pick k0).pick k1
    refine aIi hf ?_
    refine aGv [.box I [i6 (-1)] 3,.box H [i6 0] 55] (D_1::[]) hc fun w hc=>?_
    replace hc:Ctx G (.box I [i6 (-1)] 3::.box H [i6 0] 55::Lf) w:=hc
    exact aGu Tryz.results24 hf hc (pU bB rfl (bZ m0 rfl)) (pU aHf rfl (bZ m1 rfl)) ⟨rfl,((hc.drop k1).drop k0)⟩
   ·rintro D_1 ⟨x,O⟩ _ a w d rfl hf hc
    replace hf:Has ⟨36,aA9 (D_1::[])⟩ a [(4,pq I),(5,pq H),(8,pq S)]:=hf.kp rfl
    replace hc:Ctx G (.box V [pq R] 131::.box R (lY [i6 c_.States,.slice B c_.Rights.length D] 12 aD (fun _=>0) []) 134::.box X [i6 U.2] 3::.box S [i6 O] 3::.box H [i6 0] 55::.box I [i6 x] 3::(aFg (D_1::[])++Lf)) w:=aDc (C:=[.box V [pq R] 131,.box R (lY [i6 c_.States,.slice B c_.Rights.length D] 12 aD (fun _=>0) []) 134,.box X [i6 U.2] 3]) (L:=[.box S [i6 O] 3,.box H [i6 0] 55,.box I [i6 x] 3]) hc
    replace hF:(some (x,0))=some Y:=by rw [d] at hF; exact hF
    refine aN ?_
    obtain rfl:=sj hF
    replace hc:=(((((hc.drop k3).drop k2).drop k1).drop k0).pick k0).pick k1
    refine aIi hf ?_
    refine aGv [.box I [i6 x] 3,.box H [i6 0] 55] (D_1::[]) hc fun w hc=>?_
    replace hc:Ctx G (.box I [i6 x] 3::.box H [i6 0] 55::Lf) w:=hc
    exact aGu Tryz.results24 hf hc (pU bB rfl (bZ m0 rfl)) (pU aHf rfl (bZ m1 rfl)) ⟨rfl,((hc.drop k1).drop k0)⟩

def iW (p_:aI):Bool :=
 ((bD p_.Index) && (bD p_.Due))
theorem tO {G:bA} {Lf:List Ent} {w:World} (p_:aI)   (hc:Ctx G (Lf) w) {B:Bool} (hF:iW p_=B):Calls Tryz.prog 57 #[.agg #[i6 p_.Index,i6 p_.Due]] w (fun e w=>e=.returned (.bool B)∧Ctx G (Lf) w):=by
 unfold iW at hF
 refine cG Tryz.func57 rfl Tryz.ntmps57 rfl fun a hf=>zS fun K h=>zB hf hc rfl fun D a w hf hc=>sp 1 hf rfl fun a hf=>zT h ?_
 refine zS fun K h=>zP hf rfl (pFA sB rfl) fun a hf=>zL hf hc bB m0 rfl fun a w hf hc=>zQ (v:=.bool (bD p_.Index)) hf hc wE rfl (fun w hc=>fI p_.Index hc rfl) fun a w hf hc=>sp 1 hf rfl fun a hf=>cP 4 (fun a=>Has 11 a [(1,pq D),(2,.bool false),(3,pq D),(4,i6 p_.Index),(5,.bool (bD p_.Index)),(6,.bool (bD p_.Index)),(10,.bool ((bD p_.Index) && (bD p_.Due)))]) hc ?_ ?_
 ·cases hb:(bD p_.Index)
  ·rw [hb] at hf
   refine stS hf rfl rfl rfl fun a hf=>stS hf rfl rfl rfl fun a hf=>stS hf rfl rfl rfl fun a hf=>sp 1 hf rfl fun a hf=>aP ⟨hf.kp rfl,hc⟩
  ·rw [hb] at hf
   refine zP hf rfl (pFA qR rfl) fun a hf=>zL hf hc bB m0 rfl fun a w hf hc=>zQ (v:=.bool (bD p_.Due)) hf hc wE rfl (fun w hc=>fI p_.Due hc rfl) fun a w hf hc=>sp 1 hf rfl fun a hf=>aP ⟨hf.kp rfl,hc⟩
 intro a w ⟨hf,hc⟩
 refine sp 1 hf rfl fun a hf=>zT h ?_
 refine wp_ret ?_
 obtain rfl:=hF
 replace hc:=hc.drop k0
 exact zO1 Tryz.results57 hf rfl ⟨rfl,hc⟩

def cU (x:aI):Bool :=
 (!(iW x))
theorem pZ {G:bA} {Lf:List Ent} {w:World} (x:aI) {b_:Nat}  (hc:Ctx G (.box b_ [.func (.func 57) #[] #[]] 119::Lf) w) {B:Bool} (hF:cU x=B):Calls Tryz.prog 92 #[.agg #[i6 x.Index,i6 x.Due],pq b_] w (fun e w=>e=.returned (.bool B)∧Ctx G (.box b_ [.func (.func 57) #[] #[]] 119::Lf) w):=by
 unfold cU at hF
 refine cG Tryz.func92 rfl Tryz.ntmps92 rfl fun a hf=>zS fun K h=>zB hf hc rfl fun D a w hf hc=>sp 1 hf rfl fun a hf=>zT h ?_
 refine zS fun K h=>zL hf hc aL1 m1 rfl fun a w hf hc=>zN hf hc uZ m0 rfl fun a w hf hc=>zQ (v:=.bool (iW x)) hf hc en_57 rfl (fun w hc=>tO x hc rfl) fun a w hf hc=>sp 2 hf rfl fun a hf=>zT h ?_
 refine wp_ret ?_
 obtain rfl:=hF
 replace hc:=hc.drop k0
 exact zO1 Tryz.results92 hf rfl ⟨rfl,hc⟩

def dX (N:Nat) (s_:List aI) (x:Int):Option (bH (Int) (Int)) :=
 cond (decide (x < ((s_.length:Nat):Int)))
 (Option.bind (aZ s_ x) fun B=>
 cond (cU B)
 (some (.ret x))
 (some (.cont (W (x + 1)))))
 (some (.brk x))
def dB (N:Nat) (s_:List aI):Option (Int) :=
 Option.bind (aT (fun s4=>dX N s_ s4) N 0) fun x4=>
 exK x4 (fun s4=>some (-1)) some
theorem lG {N:Nat} {G:bA} {Lf:List Ent} {w:World} (s_:List aI) {D:Option Addr} {H:Nat} {b_:Nat} (O:Rd G 2 D H (s_.map aO)) (hc:Ctx G (.box b_ [.func (.func 57) #[] #[]] 119::Lf) w) {J:Int} (hF:dB N s_=some J):Calls Tryz.prog 96 #[.slice D s_.length H,.func (.func 92) #[] #[pq b_]] w (fun e w=>e=.returned (i6 J)∧Ctx G (.box b_ [.func (.func 57) #[] #[]] 119::Lf) w):=by
 unfold dB at hF
 refine cG Tryz.func96 rfl Tryz.ntmps96 rfl fun a hf=>zS fun K h=>sp 1 hf rfl fun a hf=>zT h ?_
 refine wp_seq_k fun K2 h2=>zS fun K h=>sp 1 hf rfl fun a hf=>zP hf rfl (bL Tryz.underlying30 rfl) fun a hf=>sp 1 hf rfl fun a hf=>zT h ?_
 refine wp_block ?_
 obtain ⟨x4,R,hF⟩:=aA hF
 let S4:Int→Act→World→Prop:=(fun (zz:Int) a w=>Has 19 a [(0,.slice D s_.length H),(1,.func (.func 92) #[] #[pq b_]),(7,i6 ((s_.length:Nat):Int)),(8,i6 zz)]∧Ctx G (.box b_ [.func (.func 57) #[] #[]] 119::Lf) w)
 have V:∀ (zz:Int) a w,x4=.go zz→S4 zz a w→K2 a w:=by
  rintro x a w rfl ⟨hf,hc⟩
  replace hF:=bQ hF
  refine h2 _ _ ?_
  refine zS fun K h=>sp 1 hf rfl fun a hf=>zT h ?_
  refine wp_ret ?_
  obtain rfl:=sj hF
  exact zO1 Tryz.results96 hf rfl ⟨rfl,hc⟩
 have X:∀ r,x4=.out r→r=J:=by
  rintro r rfl
  exact sj hF
 refine cX N (cV (S:=S4) (x:=x4) ?_ N 0 _ _ ⟨hf.kp rfl,hc⟩ R)
 clear hF hf hc
 rintro x Z a w KB4 ⟨hf,hc⟩ hF B U
 unfold dX at hF
 refine zS fun K h=>sp 1 hf rfl fun a hf=>zT h ?_
 refine wp_seq_k fun K7 h7=>zI hf rfl hF ?_ ?_ <;> clear hF <;> intro hF
 ·refine wp_skip ?_
  refine h7 _ _ ?_
  refine wp_seq_k fun K8 h8=>wp_block ?_
  refine zS fun K h=>sp 2 hf rfl fun a hf=>zT h ?_
  refine zS fun K h=>sp 3 hf rfl fun a hf=>?_
  obtain ⟨I,M,hF⟩:=aA hF
  obtain ⟨Y,o,qa,qp⟩:=O.atm M
  refine zP hf rfl (pIA Tryz.underlying30 oK rfl rfl qa) fun a hf=>zE hf hc rfl (kG (vs:=[i6 I.Index,i6 I.Due]) uZ rfl rfl (cR qp (n:=2) (o':=0) rfl)) fun a w hf hc=>zQ (v:=.bool (cU I)) hf hc en_92 rfl (fun w hc=>(pZ I (hc.pick k0) rfl).mono fun e w h=>⟨h.1,(h.2.unpick k0)⟩) fun a w hf hc=>zT h ?_
  refine zI hf rfl hF ?_ ?_ <;> clear hF <;> intro hF
  ·refine zS fun K h=>sp 2 hf rfl fun a hf=>zT h ?_
   refine wp_ret ?_
   refine bI ?_
   refine aN ?_
   refine aN ?_
   have he:=sj hF
   rw [← he] at B
   replace hF:=X _ B
   refine bI ?_
   refine aN ?_
   obtain rfl:=hF
   exact zO1 Tryz.results96 hf rfl ⟨rfl,hc⟩
  ·refine wp_skip ?_
   refine h8 _ _ ?_
   refine bR ?_
   refine sp 2 hf rfl fun a hf=>aP ?_
   exact U (W (x + 1)) _ _ (sj hF).symm ⟨hf.kp rfl,hc⟩
 ·refine wp_exit ?_
  refine bE ?_
  refine bE ?_
  have he:=sj hF
  rw [← he] at B
  refine eX ?_
  exact V _ _ _ B ⟨hf.kp rfl,hc⟩

def cO (N:Nat) (s_:List aI):Option (Bool) :=
 Option.bind (dB N s_) fun r=>
 some (decide (0≤r))
theorem kR {N:Nat} {G:bA} {Lf:List Ent} {w:World} (s_:List aI) {D:Option Addr} {B:Nat} {b_:Nat} (I:Rd G 2 D B (s_.map aO)) (hc:Ctx G (.box b_ [.func (.func 57) #[] #[]] 119::Lf) w) {H:Bool} (hF:cO N s_=some H):Calls Tryz.prog 91 #[.slice D s_.length B,.func (.func 92) #[] #[pq b_]] w (fun e w=>e=.returned (.bool H)∧Ctx G (.box b_ [.func (.func 57) #[] #[]] 119::Lf) w):=by
 unfold cO at hF
 refine cG Tryz.func91 rfl Tryz.ntmps91 rfl fun a hf=>zS fun K h=>sp 1 hf rfl fun a hf=>zT h ?_
 refine zS fun K h=>sp 2 hf rfl fun a hf=>?_
 obtain ⟨r,hr,hF⟩:=aA hF
 refine zQ (v:=i6 r) hf hc aKr rfl (fun w hc=>(lG s_ I (hc.pick k0) hr).mono fun e w h=>⟨h.1,(h.2.unpick k0)⟩) fun a w hf hc=>sp 2 hf rfl fun a hf=>zT h ?_
 refine wp_ret ?_
 obtain rfl:=sj hF
 exact zO1 Tryz.results91 hf rfl ⟨rfl,hc⟩

def fT (N:Nat) (l:List aI):Option (Bool) :=
 Option.bind (cO N l) fun r=>
 some (!r)
theorem rM {N:Nat} {G:bA} {Lf:List Ent} {w:World} (l:List aI) {H:Option Addr} {B:Nat} (J:Rd G 2 H B (l.map aO)) (hc:Ctx G (Lf) w) {D:Bool} (hF:fT N l=some D):Calls Tryz.prog 56 #[.slice H l.length B,.func (.func 57) #[] #[]] w (fun e w=>e=.returned (.bool D)∧Ctx G (Lf) w):=by
 unfold fT at hF
 refine cG Tryz.func56 rfl Tryz.ntmps56 rfl fun a hf=>zS fun K h=>zB hf hc rfl fun I a w hf hc=>sp 1 hf rfl fun a hf=>zT h ?_
 refine zS fun K h=>sp 1 hf rfl fun a hf=>zP hf rfl (pMF (us:=[pq I]) rfl rfl) fun a hf=>?_
 obtain ⟨r,hr,hF⟩:=aA hF
 refine zQ (v:=.bool r) hf hc en_91 rfl (fun w hc=>(kR l J (hc.pick k0) hr).mono fun e w h=>⟨h.1,(h.2.unpick k0)⟩) fun a w hf hc=>sp 2 hf rfl fun a hf=>zT h ?_
 refine wp_ret ?_
 obtain rfl:=sj hF
 replace hc:=hc.drop k0
 exact zO1 Tryz.results56 hf rfl ⟨rfl,hc⟩

def eR (N:Nat) (b_:aH) (sub:List aI) (x:Int):Option (bH (Int) (Int)) :=
 cond (decide (x < ((sub.length:Nat):Int)))
 (Option.bind (aZ b_.Table x) fun D=>
 Option.bind (aZ b_.Table (W (x + 1))) fun B=>
 cond ((decide (B.Index≤D.Index)) || (decide (B.Due < D.Due)))
 (some (.ret 9))
 (some (.cont (W (x + 1)))))
 (some (.brk x))
def eA (N:Nat) (b_:aH):Option (Int) :=
 cond (!(aQ ((b_.Table.length:Nat):Int) 2 12))
 (some 3)
 (Option.bind (fT N b_.Table) fun r=>
 cond ((!r) || (!(bD b_.Credit)))
 (some 100)
 (Option.bind (uX b_.Table 1 ((b_.Table.length:Nat):Int)) fun sub=>
 Option.bind (aT (fun s9=>eR N b_ sub s9) N 0) fun x9=>
 exK x9 (fun s9=>some 0) some))
theorem kH {N:Nat} {G:bA} {Lf:List Ent} {w:World} (b_:aH) {D:Option Addr} {B:Nat} (H:Rd G 2 D B (b_.Table.map aO)) (hc:Ctx G (Lf) w) {g:Int} (hF:eA N b_=some g):Calls Tryz.prog 12 #[.agg #[.slice D b_.Table.length B,i6 b_.Credit]] w (fun e w=>e=.returned (i6 g)∧Ctx G (Lf) w):=by
 unfold eA at hF
 refine cG Tryz.func12 rfl Tryz.ntmps12 rfl fun a hf=>zS fun K h=>zB hf hc rfl fun M a w hf hc=>sp 1 hf rfl fun a hf=>zT h ?_
 refine wp_seq_k fun K2 h2=>wp_block ?_
 refine zS fun K h=>zP hf rfl (pFA gB rfl) fun a hf=>zL hf hc oH m0 rfl fun a w hf hc=>zP hf rfl (bL Tryz.underlying30 rfl) fun a hf=>zQ (v:=.bool (aQ ((b_.Table.length:Nat):Int) 2 12)) hf hc pD rfl (fun w hc=>dO ((b_.Table.length:Nat):Int) 2 12 hc rfl) fun a w hf hc=>sp 2 hf rfl fun a hf=>zT h ?_
 refine zI hf rfl hF ?_ ?_ <;> clear hF <;> intro hF
 ·refine zS fun K h=>sp 1 hf rfl fun a hf=>zT h ?_
  refine wp_ret ?_
  refine bI ?_
  refine aN ?_
  obtain rfl:=sj hF
  replace hc:=hc.drop k0
  exact zO1 Tryz.results12 hf rfl ⟨rfl,hc⟩
 ·refine zS fun K h=>zP hf rfl (pFA gB rfl) fun a hf=>zL hf hc oH m0 rfl fun a w hf hc=>?_
  obtain ⟨r,hr,hF⟩:=aA hF
  refine zQ (v:=.bool r) hf hc en_56 rfl (fun w hc=>rM b_.Table H hc hr) fun a w hf hc=>sp 2 hf rfl fun a hf=>cP 5 (fun a=>Has 54 a [(1,pq M),(13,pq M),(14,.slice D b_.Table.length B),(15,.bool r),(16,.bool (!r)),(17,.bool (!r)),(22,.bool ((!r) || (!(bD b_.Credit))))]) hc ?_ ?_
  ·cases hb:(!r)
   ·rw [hb] at hf
    refine zP hf rfl (pFA tN rfl) fun a hf=>zL hf hc bB m0 rfl fun a w hf hc=>zQ (v:=.bool (bD b_.Credit)) hf hc wE rfl (fun w hc=>fI b_.Credit hc rfl) fun a w hf hc=>sp 2 hf rfl fun a hf=>aP ⟨hf.kp rfl,hc⟩
   ·rw [hb] at hf
    refine stS hf rfl rfl rfl fun a hf=>stS hf rfl rfl rfl fun a hf=>stS hf rfl rfl rfl fun a hf=>stS hf rfl rfl rfl fun a hf=>sp 1 hf rfl fun a hf=>aP ⟨hf.kp rfl,hc⟩
  intro a w ⟨hf,hc⟩
  refine sp 1 hf rfl fun a hf=>zT h ?_
  refine zI hf rfl hF ?_ ?_ <;> clear hF <;> intro hF
  ·refine zS fun K h=>sp 1 hf rfl fun a hf=>zT h ?_
   refine wp_ret ?_
   refine bI ?_
   refine aN ?_
   obtain rfl:=sj hF
   replace hc:=hc.drop k0
   exact zO1 Tryz.results12 hf rfl ⟨rfl,hc⟩
  ·refine wp_skip ?_
   refine h2 _ _ ?_
   refine wp_seq_k fun K7 h7=>zS fun K h=>zP hf rfl (pFA gB rfl) fun a hf=>zL hf hc oH m0 rfl fun a w hf hc=>?_
   obtain ⟨sub,i,hF⟩:=aA hF
   have qs:=Rd.sub H i
   refine zP hf rfl (pSl Tryz.underlying30 oK rfl rfl (by simpa using H.1) rfl rfl i) fun a hf=>zP hf rfl (bL Tryz.underlying30 rfl) fun a hf=>sp 1 hf rfl fun a hf=>zT h ?_
   refine wp_block ?_
   obtain ⟨x9,ab,hF⟩:=aA hF
   let S9:Int→Act→World→Prop:=(fun (zz:Int) a w=>Has 54 a [(1,pq M),(26,i6 ((sub.length:Nat):Int)),(27,i6 zz)]∧Ctx G (.box M [.slice D b_.Table.length B,i6 b_.Credit] 32::Lf) w)
   have ad:∀ (zz:Int) a w,x9=.go zz→S9 zz a w→K7 a w:=by
    rintro x a w rfl ⟨hf,hc⟩
    replace hF:=bQ hF
    refine h7 _ _ ?_
    refine zS fun K h=>sp 1 hf rfl fun a hf=>zT h ?_
    refine wp_ret ?_
    obtain rfl:=sj hF
    replace hc:=hc.drop k0
    exact zO1 Tryz.results12 hf rfl ⟨rfl,hc⟩
   have aa:∀ r,x9=.out r→r=g:=by
    rintro r rfl
    exact sj hF
   refine cX N (cV (S:=S9) (x:=x9) ?_ N 0 _ _ ⟨hf.kp rfl,hc⟩ ab)
   clear hF hf hc
   rintro x am a w KB9 ⟨hf,hc⟩ hF O af
   unfold eR at hF
   refine zS fun K h=>sp 1 hf rfl fun a hf=>zT h ?_
   refine wp_seq_k fun K12 ai=>zI hf rfl hF ?_ ?_ <;> clear hF <;> intro hF
   ·refine wp_skip ?_
    refine ai _ _ ?_
    refine wp_seq_k fun K13 ac=>wp_block ?_
    refine zS fun K h=>sp 2 hf rfl fun a hf=>zT h ?_
    refine wp_seq_k fun K15 ag=>?_
    obtain ⟨J,q,hF⟩:=aA hF
    obtain ⟨t,o,qa,qp⟩:=H.atm q
    obtain ⟨I,k,hF⟩:=aA hF
    obtain ⟨s,y,m,p⟩:=H.atm k
    replace hc:=hc.nilRow 0 0
    replace hc:=hc.nilRow 0 0
    refine dJ (fun θ=>[⟨none,none,1,pq M⟩,⟨none,none,3,i6 x⟩,⟨none,none,26,i6 ((sub.length:Nat):Int)⟩,⟨none,none,27,i6 x⟩,⟨some 0,none,30,pq M⟩,⟨some 1,none,31,.slice D b_.Table.length B⟩,⟨some 2,none,32,i6 x⟩,⟨some 3,none,33,.pointer (some ⟨t,o,none⟩)⟩,⟨some 4,none,34,.agg #[i6 J.Index,i6 J.Due]⟩,⟨some 5,none,35,pq M⟩,⟨some 6,none,36,.slice D b_.Table.length B⟩,⟨some 7,none,37,i6 x⟩,⟨some 8,none,38,i6 (W (x + 1))⟩,⟨some 9,none,39,.pointer (some ⟨s,y,none⟩)⟩,⟨some 10,none,40,.agg #[i6 I.Index,i6 I.Due]⟩,⟨some 11,none,4,.pointer (some ⟨(θ 88).b,0,none⟩)⟩,⟨some 12,none,5,.pointer (some ⟨(θ 96).b,0,none⟩)⟩]) (fun E θ=>(bif E 14 then .box (θ 96).b [i6 I.Index,i6 I.Due] 48 else bif E 12 then .box (θ 96).b [i6 0,i6 0] 48 else .row none 0 [] 0 0)::(bif E 13 then .box (θ 88).b [i6 J.Index,i6 J.Due] 48 else bif E 11 then .box (θ 88).b [i6 0,i6 0] 48 else .row none 0 [] 0 0)::.box M [.slice D b_.Table.length B,i6 b_.Credit] 32::Lf) [(13,11),(14,12)] (fun a w=>∃ (Y:Nat) (X:Nat),Has 54 a [(1,pq M),(26,i6 ((sub.length:Nat):Int)),(27,i6 x),(4,pq Y),(5,pq X)]∧Ctx G (.box X [i6 I.Index,i6 I.Due] 48::.box Y [i6 J.Index,i6 J.Due] 48::.box M [.slice D b_.Table.length B,i6 b_.Credit] 32::Lf) w) aY (by kernel_rfl) (by kernel_rfl) (eY.of hf ⟨rfl,rfl,rfl,rfl,trivial,trivial,trivial,trivial,trivial,trivial,trivial,trivial,trivial,trivial,trivial,trivial,trivial,trivial⟩) hc ⟨?_,?_,?_,?_,?_,?_,?_,?_,?_,?_,?_,?_,?_,?_,?_,trivial⟩ ?_ ?_
    ·intro E θ a w hD hi hp he hc
     have hf:=he.h0.mT he 0 rfl
     refine zP hf rfl (pFA gB rfl) fun a hf=>zD θ he hi hf 4 rfl rfl rfl hc
    ·intro E θ a w hD hi hp he hc
     have e0:=hp.o 0 rfl
     have hf:=he.h0.mP he 4 rfl e0
     refine zL hf hc oH m2 rfl fun a w hf hc=>zD θ he hi hf 5 rfl rfl rfl hc
    ·intro E θ a w hD hi hp he hc
     have hf:=he.h0.mT he 1 rfl
     refine sp 1 hf rfl fun a hf=>zD θ he hi hf 6 rfl rfl rfl hc
    ·intro E θ a w hD hi hp he hc
     have e1:=hp.o 1 rfl
     have e2:=hp.o 2 rfl
     have hf:=(he.h0.mP he 5 rfl e1).mP he 6 rfl e2
     refine zP hf rfl (pIA Tryz.underlying30 oK rfl rfl qa) fun a hf=>zD θ he hi hf 7 rfl rfl rfl hc
    ·intro E θ a w hD hi hp he hc
     have e3:=hp.o 3 rfl
     have hf:=he.h0.mP he 7 rfl e3
     refine zE hf hc rfl (kG (vs:=[i6 J.Index,i6 J.Due]) uZ rfl rfl (cR qp (n:=2) (o':=0) rfl)) fun a w hf hc=>zD θ he hi hf 8 rfl rfl rfl hc
    ·intro E θ a w hD hi hp he hc
     have hf:=he.h0.mT he 0 rfl
     refine zP hf rfl (pFA gB rfl) fun a hf=>zD θ he hi hf 9 rfl rfl rfl hc
    ·intro E θ a w hD hi hp he hc
     have e5:=hp.o 5 rfl
     have hf:=he.h0.mP he 9 rfl e5
     refine zL hf hc oH m2 rfl fun a w hf hc=>zD θ he hi hf 10 rfl rfl rfl hc
    ·intro E θ a w hD hi hp he hc
     have hf:=he.h0.mT he 1 rfl
     refine sp 1 hf rfl fun a hf=>zD θ he hi hf 11 rfl rfl rfl hc
    ·intro E θ a w hD hi hp he hc
     have e7:=hp.o 7 rfl
     have hf:=he.h0.mP he 11 rfl e7
     refine sp 1 hf rfl fun a hf=>zD θ he hi hf 12 rfl rfl rfl hc
    ·intro E θ a w hD hi hp he hc
     have e6:=hp.o 6 rfl
     have e8:=hp.o 8 rfl
     have hf:=(he.h0.mP he 10 rfl e6).mP he 12 rfl e8
     refine zP hf rfl (pIA Tryz.underlying30 oK rfl rfl m) fun a hf=>zD θ he hi hf 13 rfl rfl rfl hc
    ·intro E θ a w hD hi hp he hc
     have e9:=hp.o 9 rfl
     have hf:=he.h0.mP he 13 rfl e9
     refine zE hf hc rfl (kG (vs:=[i6 I.Index,i6 I.Due]) uZ rfl rfl (cR p (n:=2) (o':=0) rfl)) fun a w hf hc=>zD θ he hi hf 14 rfl rfl rfl hc
    ·intro E θ a w hD hi hp he hc
     have Z:=hD.f 0 rfl hi
     try dsimp only at hc
     rw [hi,Z] at hc
     have hf:=he.h0
     refine zA hf hc aD9 rfl fun aj a w hf hc=>aP ?_
     refine bV ?_
     intro ds u j
     replace hc:=((hc.drop k2).pick k0).pick k1
     refine ⟨(fY θ 88 ⟨aj,none,0,(fun _=>(none,0))⟩),he.put hi j hf rfl [] trivial ⟨qq,qq,qq,qq,qq,qq,qq,qq,qq,qq,qq,qq,qq,qq,qq,qq,qq,trivial⟩,?_⟩
     try dsimp only
     rw [aU E 11,eO 11 Z rfl]
     exact hc
    ·intro E θ a w hD hi hp he hc
     have d:=hD.f 1 rfl hi
     try dsimp only at hc
     rw [hi,d] at hc
     have hf:=he.h0
     refine zA hf hc aD9 rfl fun ak a w hf hc=>aP ?_
     refine bV ?_
     intro ds u j
     replace hc:=hc.drop k1
     refine ⟨(fY θ 96 ⟨ak,none,0,(fun _=>(none,0))⟩),he.put hi j hf rfl [] trivial ⟨qq,qq,qq,qq,qq,qq,qq,qq,qq,qq,qq,qq,qq,qq,qq,qq,qq,trivial⟩,?_⟩
     try dsimp only
     rw [aU E 12,eO 12 d rfl]
     exact hc
    ·intro E θ a w hD hi hp he hc
     have e4:=hp.o 4 rfl
     have U:=hp.o 11 rfl
     try dsimp only at hc
     rw [U,hi] at hc
     have hf:=(he.h0.mP he 8 rfl e4).mP he 15 rfl U
     refine zW hf hc oK u1 rfl fun w hc=>zG θ he hi hf rfl ?_
     try dsimp only
     rw [dH 13 U,aU E 13]
     exact hc
    ·intro E θ a w hD hi hp he hc
     have z:=hp.o 10 rfl
     have R:=hp.o 12 rfl
     try dsimp only at hc
     rw [R,hi] at hc
     have hf:=(he.h0.mP he 14 rfl z).mP he 16 rfl R
     refine zW hf hc oK u0 rfl fun w hc=>zG θ he hi hf rfl ?_
     try dsimp only
     rw [dH 14 R,aU E 14]
     exact hc
    ·intro E θ a w V he hc
     have hf:=he.h0
     have U:=V 11 rfl
     have R:=V 12 rfl
     have Z:=V 13 rfl
     have d:=V 14 rfl
     replace hf:=hf.more he 16 rfl (onP R)
     replace hf:=hf.more he 15 rfl (onP U)
     replace hf:=hf.more he 3 rfl (onT)
     replace hf:=hf.more he 2 rfl (onT)
     replace hf:=hf.more he 0 rfl (onT)
     try dsimp only at hc
     rw [U,R,Z,d] at hc
     exact ⟨(θ 88).b,(θ 96).b,hf.kp rfl,hc⟩
    rintro a w ⟨Y,X,hf,hc⟩
    refine ag _ _ ?_
    refine zS fun K h=>zP hf rfl (pFA sB rfl) fun a hf=>zL hf hc bB m0 rfl fun a w hf hc=>zP hf rfl (pFA sB rfl) fun a hf=>zL hf hc bB m1 rfl fun a w hf hc=>sp 2 hf rfl fun a hf=>cP 6 (fun a=>Has 54 a [(1,pq M),(26,i6 ((sub.length:Nat):Int)),(27,i6 x),(4,pq Y),(5,pq X),(41,pq X),(42,i6 I.Index),(43,pq Y),(44,i6 J.Index),(45,.bool (decide (I.Index≤J.Index))),(46,.bool (decide (I.Index≤J.Index))),(52,.bool ((decide (I.Index≤J.Index)) || (decide (I.Due < J.Due))))]) hc ?_ ?_
    ·cases hb:(decide (I.Index≤J.Index))
     ·rw [hb] at hf
      refine zP hf rfl (pFA qR rfl) fun a hf=>zL hf hc bB m0 rfl fun a w hf hc=>zP hf rfl (pFA qR rfl) fun a hf=>zL hf hc bB m1 rfl fun a w hf hc=>sp 2 hf rfl fun a hf=>aP ⟨hf.kp rfl,hc⟩
     ·rw [hb] at hf
      refine stS hf rfl rfl rfl fun a hf=>stS hf rfl rfl rfl fun a hf=>stS hf rfl rfl rfl fun a hf=>stS hf rfl rfl rfl fun a hf=>stS hf rfl rfl rfl fun a hf=>sp 1 hf rfl fun a hf=>aP ⟨hf.kp rfl,hc⟩
    intro a w ⟨hf,hc⟩
    refine zT h ?_
    refine zI hf rfl hF ?_ ?_ <;> clear hF <;> intro hF
    ·refine zS fun K h=>sp 1 hf rfl fun a hf=>zT h ?_
     refine wp_ret ?_
     refine bI ?_
     refine aN ?_
     refine aN ?_
     have he:=sj hF
     rw [← he] at O
     replace hF:=aa _ O
     refine bI ?_
     refine aN ?_
     obtain rfl:=hF
     replace hc:=((hc.drop k2).drop k1).drop k0
     exact zO1 Tryz.results12 hf rfl ⟨rfl,hc⟩
    ·refine wp_skip ?_
     refine ac _ _ ?_
     refine bR ?_
     refine sp 2 hf rfl fun a hf=>aP ?_
     replace hc:=(hc.drop k1).drop k0
     exact af (W (x + 1)) _ _ (sj hF).symm ⟨hf.kp rfl,hc⟩
   ·refine wp_exit ?_
    refine bE ?_
    refine bE ?_
    have he:=sj hF
    rw [← he] at O
    refine eX ?_
    exact ad _ _ _ O ⟨hf.kp rfl,hc⟩

def nP (y:aF):Bool :=
 ((dK y.Index) && (dK y.Delivered))
theorem yQ {G:bA} {Lf:List Ent} {w:World} (y:aF)   (hc:Ctx G (Lf) w) {B:Bool} (hF:nP y=B):Calls Tryz.prog 99 #[.agg #[i6 y.Index.Lo,i6 y.Index.Hi,i6 y.Delivered.Lo,i6 y.Delivered.Hi,.bool y.Spill]] w (fun e w=>e=.returned (.bool B)∧Ctx G (Lf) w):=by
 unfold nP at hF
 refine cG Tryz.func99 rfl Tryz.ntmps99 rfl fun a hf=>zS fun K h=>zB hf hc rfl fun D a w hf hc=>sp 1 hf rfl fun a hf=>zT h ?_
 refine zS fun K h=>zP hf rfl (pFA vL rfl) fun a hf=>zN hf hc mL m0 rfl fun a w hf hc=>zQ (v:=.bool (dK y.Index)) hf hc aI3 rfl (fun w hc=>qG y.Index hc rfl) fun a w hf hc=>sp 1 hf rfl fun a hf=>cP 4 (fun a=>Has 11 a [(1,pq D),(2,.bool false),(3,pq D),(4,.agg #[i6 y.Index.Lo,i6 y.Index.Hi]),(5,.bool (dK y.Index)),(6,.bool (dK y.Index)),(10,.bool ((dK y.Index) && (dK y.Delivered)))]) hc ?_ ?_
 ·cases hb:(dK y.Index)
  ·rw [hb] at hf
   refine stS hf rfl rfl rfl fun a hf=>stS hf rfl rfl rfl fun a hf=>stS hf rfl rfl rfl fun a hf=>sp 1 hf rfl fun a hf=>aP ⟨hf.kp rfl,hc⟩
  ·rw [hb] at hf
   refine zP hf rfl (pFA vV rfl) fun a hf=>zN hf hc mL m0 rfl fun a w hf hc=>zQ (v:=.bool (dK y.Delivered)) hf hc aI3 rfl (fun w hc=>qG y.Delivered hc rfl) fun a w hf hc=>sp 1 hf rfl fun a hf=>aP ⟨hf.kp rfl,hc⟩
 intro a w ⟨hf,hc⟩
 refine sp 1 hf rfl fun a hf=>zT h ?_
 refine wp_ret ?_
 obtain rfl:=hF
 replace hc:=hc.drop k0
 exact zO1 Tryz.results99 hf rfl ⟨rfl,hc⟩

def cZ (x:aF):Bool :=
 (!(nP x))
theorem qT {G:bA} {Lf:List Ent} {w:World} (x:aF) {b_:Nat}  (hc:Ctx G (.box b_ [.func (.func 99) #[] #[]] 168::Lf) w) {B:Bool} (hF:cZ x=B):Calls Tryz.prog 109 #[.agg #[i6 x.Index.Lo,i6 x.Index.Hi,i6 x.Delivered.Lo,i6 x.Delivered.Hi,.bool x.Spill],pq b_] w (fun e w=>e=.returned (.bool B)∧Ctx G (.box b_ [.func (.func 99) #[] #[]] 168::Lf) w):=by
 unfold cZ at hF
 refine cG Tryz.func109 rfl Tryz.ntmps109 rfl fun a hf=>zS fun K h=>zB hf hc rfl fun D a w hf hc=>sp 1 hf rfl fun a hf=>zT h ?_
 refine zS fun K h=>zL hf hc aLw m1 rfl fun a w hf hc=>zN hf hc zK m0 rfl fun a w hf hc=>zQ (v:=.bool (nP x)) hf hc en_99 rfl (fun w hc=>yQ x hc rfl) fun a w hf hc=>sp 2 hf rfl fun a hf=>zT h ?_
 refine wp_ret ?_
 obtain rfl:=hF
 replace hc:=hc.drop k0
 exact zO1 Tryz.results109 hf rfl ⟨rfl,hc⟩

def eF (N:Nat) (s_:List aF) (x:Int):Option (bH (Int) (Int)) :=
 cond (decide (x < ((s_.length:Nat):Int)))
 (Option.bind (aZ s_ x) fun B=>
 cond (cZ B)
 (some (.ret x))
 (some (.cont (W (x + 1)))))
 (some (.brk x))
def dI (N:Nat) (s_:List aF):Option (Int) :=
 Option.bind (aT (fun s4=>eF N s_ s4) N 0) fun x4=>
 exK x4 (fun s4=>some (-1)) some
theorem lU {N:Nat} {G:bA} {Lf:List Ent} {w:World} (s_:List aF) {H:Option Addr} {I:Nat} {b_:Nat} (O:Rd G 5 H I (s_.map aS)) (hc:Ctx G (.box b_ [.func (.func 99) #[] #[]] 168::Lf) w) {J:Int} (hF:dI N s_=some J):Calls Tryz.prog 110 #[.slice H s_.length I,.func (.func 109) #[] #[pq b_]] w (fun e w=>e=.returned (i6 J)∧Ctx G (.box b_ [.func (.func 99) #[] #[]] 168::Lf) w):=by
 unfold dI at hF
 refine cG Tryz.func110 rfl Tryz.ntmps110 rfl fun a hf=>zS fun K h=>sp 1 hf rfl fun a hf=>zT h ?_
 refine wp_seq_k fun K2 h2=>zS fun K h=>sp 1 hf rfl fun a hf=>zP hf rfl (bL Tryz.underlying33 rfl) fun a hf=>sp 1 hf rfl fun a hf=>zT h ?_
 refine wp_block ?_
 obtain ⟨x4,R,hF⟩:=aA hF
 let S4:Int→Act→World→Prop:=(fun (zz:Int) a w=>Has 19 a [(0,.slice H s_.length I),(1,.func (.func 109) #[] #[pq b_]),(7,i6 ((s_.length:Nat):Int)),(8,i6 zz)]∧Ctx G (.box b_ [.func (.func 99) #[] #[]] 168::Lf) w)
 have V:∀ (zz:Int) a w,x4=.go zz→S4 zz a w→K2 a w:=by
  rintro x a w rfl ⟨hf,hc⟩
  replace hF:=bQ hF
  refine h2 _ _ ?_
  refine zS fun K h=>sp 1 hf rfl fun a hf=>zT h ?_
  refine wp_ret ?_
  obtain rfl:=sj hF
  exact zO1 Tryz.results110 hf rfl ⟨rfl,hc⟩
 have X:∀ r,x4=.out r→r=J:=by
  rintro r rfl
  exact sj hF
 refine cX N (cV (S:=S4) (x:=x4) ?_ N 0 _ _ ⟨hf.kp rfl,hc⟩ R)
 clear hF hf hc
 rintro x Z a w KB4 ⟨hf,hc⟩ hF B U
 unfold eF at hF
 refine zS fun K h=>sp 1 hf rfl fun a hf=>zT h ?_
 refine wp_seq_k fun K7 h7=>zI hf rfl hF ?_ ?_ <;> clear hF <;> intro hF
 ·refine wp_skip ?_
  refine h7 _ _ ?_
  refine wp_seq_k fun K8 h8=>wp_block ?_
  refine zS fun K h=>sp 2 hf rfl fun a hf=>zT h ?_
  refine zS fun K h=>sp 3 hf rfl fun a hf=>?_
  obtain ⟨D,M,hF⟩:=aA hF
  obtain ⟨Y,o,qa,qp⟩:=O.atm M
  refine zP hf rfl (pIA Tryz.underlying33 vD rfl rfl qa) fun a hf=>zE hf hc rfl (kG (vs:=[i6 D.Index.Lo,i6 D.Index.Hi,i6 D.Delivered.Lo,i6 D.Delivered.Hi,.bool D.Spill]) zK rfl rfl (cR qp (n:=5) (o':=0) rfl)) fun a w hf hc=>zQ (v:=.bool (cZ D)) hf hc aMw rfl (fun w hc=>(qT D (hc.pick k0) rfl).mono fun e w h=>⟨h.1,(h.2.unpick k0)⟩) fun a w hf hc=>zT h ?_
  refine zI hf rfl hF ?_ ?_ <;> clear hF <;> intro hF
  ·refine zS fun K h=>sp 2 hf rfl fun a hf=>zT h ?_
   refine wp_ret ?_
   refine bI ?_
   refine aN ?_
   refine aN ?_
   have he:=sj hF
   rw [← he] at B
   replace hF:=X _ B
   refine bI ?_
   refine aN ?_
   obtain rfl:=hF
   exact zO1 Tryz.results110 hf rfl ⟨rfl,hc⟩
  ·refine wp_skip ?_
   refine h8 _ _ ?_
   refine bR ?_
   refine sp 2 hf rfl fun a hf=>aP ?_
   exact U (W (x + 1)) _ _ (sj hF).symm ⟨hf.kp rfl,hc⟩
 ·refine wp_exit ?_
  refine bE ?_
  refine bE ?_
  have he:=sj hF
  rw [← he] at B
  refine eX ?_
  exact V _ _ _ B ⟨hf.kp rfl,hc⟩

def cW (N:Nat) (s_:List aF):Option (Bool) :=
 Option.bind (dI N s_) fun r=>
 some (decide (0≤r))
theorem kW {N:Nat} {G:bA} {Lf:List Ent} {w:World} (s_:List aF) {D:Option Addr} {B:Nat} {b_:Nat} (I:Rd G 5 D B (s_.map aS)) (hc:Ctx G (.box b_ [.func (.func 99) #[] #[]] 168::Lf) w) {H:Bool} (hF:cW N s_=some H):Calls Tryz.prog 108 #[.slice D s_.length B,.func (.func 109) #[] #[pq b_]] w (fun e w=>e=.returned (.bool H)∧Ctx G (.box b_ [.func (.func 99) #[] #[]] 168::Lf) w):=by
 unfold cW at hF
 refine cG Tryz.func108 rfl Tryz.ntmps108 rfl fun a hf=>zS fun K h=>sp 1 hf rfl fun a hf=>zT h ?_
 refine zS fun K h=>sp 2 hf rfl fun a hf=>?_
 obtain ⟨r,hr,hF⟩:=aA hF
 refine zQ (v:=i6 r) hf hc aMp rfl (fun w hc=>(lU s_ I (hc.pick k0) hr).mono fun e w h=>⟨h.1,(h.2.unpick k0)⟩) fun a w hf hc=>sp 2 hf rfl fun a hf=>zT h ?_
 refine wp_ret ?_
 obtain rfl:=sj hF
 exact zO1 Tryz.results108 hf rfl ⟨rfl,hc⟩

def gF (N:Nat) (l:List aF):Option (Bool) :=
 Option.bind (cW N l) fun r=>
 some (!r)
theorem rX {N:Nat} {G:bA} {Lf:List Ent} {w:World} (l:List aF) {H:Option Addr} {B:Nat} (J:Rd G 5 H B (l.map aS)) (hc:Ctx G (Lf) w) {D:Bool} (hF:gF N l=some D):Calls Tryz.prog 98 #[.slice H l.length B,.func (.func 99) #[] #[]] w (fun e w=>e=.returned (.bool D)∧Ctx G (Lf) w):=by
 unfold gF at hF
 refine cG Tryz.func98 rfl Tryz.ntmps98 rfl fun a hf=>zS fun K h=>zB hf hc rfl fun I a w hf hc=>sp 1 hf rfl fun a hf=>zT h ?_
 refine zS fun K h=>sp 1 hf rfl fun a hf=>zP hf rfl (pMF (us:=[pq I]) rfl rfl) fun a hf=>?_
 obtain ⟨r,hr,hF⟩:=aA hF
 refine zQ (v:=.bool r) hf hc aMs rfl (fun w hc=>(kW l J (hc.pick k0) hr).mono fun e w h=>⟨h.1,(h.2.unpick k0)⟩) fun a w hf hc=>sp 2 hf rfl fun a hf=>zT h ?_
 refine wp_ret ?_
 obtain rfl:=sj hF
 replace hc:=hc.drop k0
 exact zO1 Tryz.results98 hf rfl ⟨rfl,hc⟩

def oB (N:Nat) (b_:aH) (B:aE) (D:List aF):Option (Int) :=
 Option.bind (eA N b_) fun r=>
 cond (r != 0)
 (some r)
 (cond ((!(aQ B.Lo (-1000000000) B.Hi)) || (decide (1000000000 < B.Hi)))
 (some 4)
 (cond (decide (40 < ((D.length:Nat):Int)))
 (some 3)
 (Option.bind (gF N D) fun H=>
 cond (!H)
 (some 100)
 (some 0))))
theorem vG {N:Nat} {G:bA} {Lf:List Ent} {w:World} (b_:aH) (B:aE) (H:List aF) {D:Option Addr} {I:Nat} {J:Option Addr} {M:Nat} (O:Rd G 2 D I (b_.Table.map aO)) (R:Rd G 5 J M (H.map aS)) (hc:Ctx G (Lf) w) {U:Int} (hF:oB N b_ B H=some U):Calls Tryz.prog 72 #[.agg #[.slice D b_.Table.length I,i6 b_.Credit],.agg #[i6 B.Lo,i6 B.Hi],.slice J H.length M] w (fun e w=>e=.returned (i6 U)∧Ctx G (Lf) w):=by
 unfold oB at hF
 refine cG Tryz.func72 rfl Tryz.ntmps72 rfl fun a hf=>zS fun K h=>zB hf hc rfl fun Y a w hf hc=>zB hf hc rfl fun S a w hf hc=>sp 1 hf rfl fun a hf=>zT h ?_
 refine zS fun K h=>zN hf hc lE m1 rfl fun a w hf hc=>?_
 obtain ⟨r,hr,hF⟩:=aA hF
 refine zQ (v:=i6 r) hf hc aHa rfl (fun w hc=>kH b_ O hc hr) fun a w hf hc=>sp 1 hf rfl fun a hf=>zT h ?_
 refine wp_seq_k fun K3 h3=>wp_block ?_
 refine zS fun K h=>sp 3 hf rfl fun a hf=>zT h ?_
 refine zI hf rfl hF ?_ ?_ <;> clear hF <;> intro hF
 ·refine zS fun K h=>sp 2 hf rfl fun a hf=>zT h ?_
  refine wp_ret ?_
  refine bI ?_
  refine aN ?_
  obtain rfl:=sj hF
  replace hc:=(hc.drop k1).drop k0
  exact zO1 Tryz.results72 hf rfl ⟨rfl,hc⟩
 ·refine zS fun K h=>zP hf rfl (pFA hC rfl) fun a hf=>zL hf hc bB m0 rfl fun a w hf hc=>zP hf rfl (pFA hI rfl) fun a hf=>zL hf hc bB m0 rfl fun a w hf hc=>zQ (v:=.bool (aQ B.Lo (-1000000000) B.Hi)) hf hc pD rfl (fun w hc=>dO B.Lo (-1000000000) B.Hi hc rfl) fun a w hf hc=>sp 2 hf rfl fun a hf=>cP 4 (fun a=>Has 34 a [(2,.slice J H.length M),(4,pq S),(15,pq S),(16,i6 B.Lo),(17,.pointer (some ⟨S,1,none⟩)),(18,i6 B.Hi),(19,.bool (aQ B.Lo (-1000000000) B.Hi)),(20,.bool (!(aQ B.Lo (-1000000000) B.Hi))),(21,.bool (!(aQ B.Lo (-1000000000) B.Hi))),(25,.bool ((!(aQ B.Lo (-1000000000) B.Hi)) || (decide (1000000000 < B.Hi))))]) hc ?_ ?_
  ·cases hb:(!(aQ B.Lo (-1000000000) B.Hi))
   ·rw [hb] at hf
    refine zP hf rfl (pFA hI rfl) fun a hf=>zL hf hc bB m0 rfl fun a w hf hc=>sp 2 hf rfl fun a hf=>aP ⟨hf.kp rfl,hc⟩
   ·rw [hb] at hf
    refine stS hf rfl rfl rfl fun a hf=>stS hf rfl rfl rfl fun a hf=>stS hf rfl rfl rfl fun a hf=>sp 1 hf rfl fun a hf=>aP ⟨hf.kp rfl,hc⟩
  intro a w ⟨hf,hc⟩
  refine sp 1 hf rfl fun a hf=>zT h ?_
  refine zI hf rfl hF ?_ ?_ <;> clear hF <;> intro hF
  ·refine zS fun K h=>sp 1 hf rfl fun a hf=>zT h ?_
   refine wp_ret ?_
   refine bI ?_
   refine aN ?_
   obtain rfl:=sj hF
   replace hc:=(hc.drop k1).drop k0
   exact zO1 Tryz.results72 hf rfl ⟨rfl,hc⟩
  ·refine zS fun K h=>sp 1 hf rfl fun a hf=>zP hf rfl (bL Tryz.underlying33 rfl) fun a hf=>sp 2 hf rfl fun a hf=>zT h ?_
   refine zI hf rfl hF ?_ ?_ <;> clear hF <;> intro hF
   ·refine zS fun K h=>sp 1 hf rfl fun a hf=>zT h ?_
    refine wp_ret ?_
    refine bI ?_
    refine aN ?_
    obtain rfl:=sj hF
    replace hc:=(hc.drop k1).drop k0
    exact zO1 Tryz.results72 hf rfl ⟨rfl,hc⟩
   ·refine zS fun K h=>sp 1 hf rfl fun a hf=>?_
    obtain ⟨X,V,hF⟩:=aA hF
    refine zQ (v:=.bool X) hf hc en_98 rfl (fun w hc=>rX H R hc V) fun a w hf hc=>sp 2 hf rfl fun a hf=>zT h ?_
    refine zI hf rfl hF ?_ ?_ <;> clear hF <;> intro hF
    ·refine zS fun K h=>sp 1 hf rfl fun a hf=>zT h ?_
     refine wp_ret ?_
     refine bI ?_
     refine aN ?_
     obtain rfl:=sj hF
     replace hc:=(hc.drop k1).drop k0
     exact zO1 Tryz.results72 hf rfl ⟨rfl,hc⟩
    ·refine wp_skip ?_
     refine h3 _ _ ?_
     refine zS fun K h=>sp 1 hf rfl fun a hf=>zT h ?_
     refine wp_ret ?_
     obtain rfl:=sj hF
     replace hc:=(hc.drop k1).drop k0
     exact zO1 Tryz.results72 hf rfl ⟨rfl,hc⟩

def iG (N:Nat) (b_:aH) (debt:Int):Option ((Int→Option Int) × Int × Int) :=
 some ((fun _=>none:Int→Option Int),b_.Credit,debt)
theorem mO {N:Nat} {G:bA} {Lf:List Ent} {w:World} (b_:aH) (debt:Int) {B:Option Addr} {D:Nat} (I:Rd G 2 B D (b_.Table.map aO)) (hc:Ctx G (Lf) w) {H:(Int→Option Int) × Int × Int} (hF:iG N b_ debt=some H):Calls Tryz.prog 73 #[.agg #[.slice B b_.Table.length D,i6 b_.Credit],i6 debt] w (fun e w=>∃ (V:Nat) (R:Nat) (U:Nat) (O:Nat),e=.returned (.func (.func 100) #[] #[pq V,pq U,pq O])∧Ctx G (.im R (fun j=>(H.1 j).map (Value.int .i64)) none::.box V [.map (some R)] 169::.box U [.slice B b_.Table.length D,i6 H.2.1] 32::.box O [i6 H.2.2] 3::Lf) w):=by
 unfold iG at hF
 refine cG Tryz.func73 rfl Tryz.ntmps73 rfl fun a hf=>zS fun K h=>zB hf hc rfl fun S a w hf hc=>zB hf hc rfl fun M a w hf hc=>sp 1 hf rfl fun a hf=>zT h ?_
 refine zS fun K h=>stMM hf hc rfl rfl fun mb a w hf hc=>?_
 replace hc:Ctx _ (.im mb (fun j=>((fun _=>none:Int→Option Int) j).map (Value.int .i64)) none::_) w:=hc
 refine stAl (cs:=[.map none]) hf hc rfl rfl aL6 rfl fun J a w hf hc=>stSt (vs:=[.map (some mb)]) hf hc rfl rfl rfl rfl aL0 rfl rfl u0 fun w hc=>zT h ?_
 refine zS fun K h=>zP hf rfl (pMF (us:=[pq J,pq S,pq M]) rfl rfl) fun a hf=>sp 1 hf rfl fun a hf=>zT h ?_
 refine wp_ret ?_
 obtain rfl:=sj hF
 replace hc:=(((hc.pick k2).pick k3).pick k2).pick k3
 exact zO1 Tryz.results73 hf rfl ⟨J,mb,S,M,rfl,hc⟩

def aCn  : Unit :=
 ()
theorem aDv {G:bA} {Lf:List Ent} {w:World}    (hc:Ctx G (Lf) w) {B:Unit} (hF:aCn=B):Calls Tryz.prog 76 #[] w (fun e w=>e=.returned (.agg #[.func (.func 101) #[] #[],.func (.func 102) #[] #[]])∧Ctx G (Lf) w):=by
 unfold aCn at hF
 refine cG Tryz.func76 rfl Tryz.ntmps76 rfl fun a hf=>zS fun K h=>zA hf hc aDr rfl fun D a w hf hc=>zT h ?_
 refine zS fun K h=>zP hf rfl (bG (cells:=[.func (.func 101) #[] #[],.func (.func 102) #[] #[]]) aJy rfl rfl) fun a hf=>zW hf hc aD2 u0 rfl fun w hc=>zT h ?_
 refine wp_ret ?_
 obtain rfl:=hF
 exact oO (by simp) rfl Tryz.results76 hf hc (dQ (vs:=[.func (.func 101) #[] #[],.func (.func 102) #[] #[]]) aIu rfl rfl (cA (n:=2) m0 rfl)) ⟨rfl,(hc.drop k0)⟩

def aBc  : Unit :=
 ()
theorem aBz {G:bA} {Lf:List Ent} {w:World}    (hc:Ctx G (Lf) w) {B:Unit} (hF:aBc=B):Calls Tryz.prog 77 #[] w (fun e w=>e=.returned (.agg #[.func (.func 103) #[] #[],.func (.func 104) #[] #[]])∧Ctx G (Lf) w):=by
 unfold aBc at hF
 refine cG Tryz.func77 rfl Tryz.ntmps77 rfl fun a hf=>zS fun K h=>zA hf hc aDr rfl fun D a w hf hc=>zT h ?_
 refine zS fun K h=>zP hf rfl (bG (cells:=[.func (.func 103) #[] #[],.func (.func 104) #[] #[]]) aJy rfl rfl) fun a hf=>zW hf hc aD2 u0 rfl fun w hc=>zT h ?_
 refine wp_ret ?_
 obtain rfl:=hF
 exact oO (by simp) rfl Tryz.results77 hf hc (dQ (vs:=[.func (.func 103) #[] #[],.func (.func 104) #[] #[]]) aIu rfl rfl (cA (n:=2) m0 rfl)) ⟨rfl,(hc.drop k0)⟩

def lL (s_:aE):Int :=
 s_.Lo
theorem aBe {G:bA} {Lf:List Ent} {w:World} (s_:aE)   (hc:Ctx G (Lf) w) {B:Int} (hF:lL s_=B):Calls Tryz.prog 101 #[.agg #[i6 s_.Lo,i6 s_.Hi]] w (fun e w=>e=.returned (i6 B)∧Ctx G (Lf) w):=by
 unfold lL at hF
 refine cG Tryz.func101 rfl Tryz.ntmps101 rfl fun a hf=>zS fun K h=>zB hf hc rfl fun D a w hf hc=>sp 1 hf rfl fun a hf=>zT h ?_
 refine zS fun K h=>zP hf rfl (pFA hC rfl) fun a hf=>zL hf hc bB m0 rfl fun a w hf hc=>sp 1 hf rfl fun a hf=>zT h ?_
 refine wp_ret ?_
 obtain rfl:=hF
 replace hc:=hc.drop k0
 exact zO1 Tryz.results101 hf rfl ⟨rfl,hc⟩

def lI (s_:aE):Int :=
 s_.Hi
theorem aBh {G:bA} {Lf:List Ent} {w:World} (s_:aE)   (hc:Ctx G (Lf) w) {B:Int} (hF:lI s_=B):Calls Tryz.prog 102 #[.agg #[i6 s_.Lo,i6 s_.Hi]] w (fun e w=>e=.returned (i6 B)∧Ctx G (Lf) w):=by
 unfold lI at hF
 refine cG Tryz.func102 rfl Tryz.ntmps102 rfl fun a hf=>zS fun K h=>zB hf hc rfl fun D a w hf hc=>sp 1 hf rfl fun a hf=>zT h ?_
 refine zS fun K h=>zP hf rfl (pFA hI rfl) fun a hf=>zL hf hc bB m0 rfl fun a w hf hc=>sp 1 hf rfl fun a hf=>zT h ?_
 refine wp_ret ?_
 obtain rfl:=hF
 replace hc:=hc.drop k0
 exact zO1 Tryz.results102 hf rfl ⟨rfl,hc⟩

def lX (p_:aI) (x:Int):Bool :=
 (decide (x < p_.Index))
theorem uD {G:bA} {Lf:List Ent} {w:World} (p_:aI) (x:Int) {b_:Nat}  (hc:Ctx G (.box b_ [i6 x] 3::Lf) w) {B:Bool} (hF:lX p_ x=B):Calls Tryz.prog 97 #[.agg #[i6 p_.Index,i6 p_.Due],pq b_] w (fun e w=>e=.returned (.bool B)∧Ctx G (.box b_ [i6 x] 3::Lf) w):=by
 unfold lX at hF
 refine cG Tryz.func97 rfl Tryz.ntmps97 rfl fun a hf=>zS fun K h=>zB hf hc rfl fun D a w hf hc=>sp 1 hf rfl fun a hf=>zT h ?_
 refine zS fun K h=>zP hf rfl (pFA sB rfl) fun a hf=>zL hf hc bB m0 rfl fun a w hf hc=>zL hf hc bB m1 rfl fun a w hf hc=>sp 2 hf rfl fun a hf=>zT h ?_
 refine wp_ret ?_
 obtain rfl:=hF
 replace hc:=hc.drop k0
 exact zO1 Tryz.results97 hf rfl ⟨rfl,hc⟩

def dM (N:Nat) (s_:List aI) (f_:Int) (x:Int):Option (bH (Int) (Int)) :=
 cond (decide (x < ((s_.length:Nat):Int)))
 (Option.bind (aZ s_ x) fun B=>
 cond (lX B f_)
 (some (.ret x))
 (some (.cont (W (x + 1)))))
 (some (.brk x))
def bT (N:Nat) (s_:List aI) (f_:Int):Option (Int) :=
 Option.bind (aT (fun s4=>dM N s_ f_ s4) N 0) fun x4=>
 exK x4 (fun s4=>some (-1)) some
theorem kA {N:Nat} {G:bA} {Lf:List Ent} {w:World} (s_:List aI) (f_:Int) {D:Option Addr} {H:Nat} {b_:Nat} (O:Rd G 2 D H (s_.map aO)) (hc:Ctx G (.box b_ [i6 f_] 3::Lf) w) {J:Int} (hF:bT N s_ f_=some J):Calls Tryz.prog 96 #[.slice D s_.length H,.func (.func 97) #[] #[pq b_]] w (fun e w=>e=.returned (i6 J)∧Ctx G (.box b_ [i6 f_] 3::Lf) w):=by
 unfold bT at hF
 refine cG Tryz.func96 rfl Tryz.ntmps96 rfl fun a hf=>zS fun K h=>sp 1 hf rfl fun a hf=>zT h ?_
 refine wp_seq_k fun K2 h2=>zS fun K h=>sp 1 hf rfl fun a hf=>zP hf rfl (bL Tryz.underlying30 rfl) fun a hf=>sp 1 hf rfl fun a hf=>zT h ?_
 refine wp_block ?_
 obtain ⟨x4,R,hF⟩:=aA hF
 let S4:Int→Act→World→Prop:=(fun (zz:Int) a w=>Has 19 a [(0,.slice D s_.length H),(1,.func (.func 97) #[] #[pq b_]),(7,i6 ((s_.length:Nat):Int)),(8,i6 zz)]∧Ctx G (.box b_ [i6 f_] 3::Lf) w)
 have V:∀ (zz:Int) a w,x4=.go zz→S4 zz a w→K2 a w:=by
  rintro x a w rfl ⟨hf,hc⟩
  replace hF:=bQ hF
  refine h2 _ _ ?_
  refine zS fun K h=>sp 1 hf rfl fun a hf=>zT h ?_
  refine wp_ret ?_
  obtain rfl:=sj hF
  exact zO1 Tryz.results96 hf rfl ⟨rfl,hc⟩
 have X:∀ r,x4=.out r→r=J:=by
  rintro r rfl
  exact sj hF
 refine cX N (cV (S:=S4) (x:=x4) ?_ N 0 _ _ ⟨hf.kp rfl,hc⟩ R)
 clear hF hf hc
 rintro x Z a w KB4 ⟨hf,hc⟩ hF B U
 unfold dM at hF
 refine zS fun K h=>sp 1 hf rfl fun a hf=>zT h ?_
 refine wp_seq_k fun K7 h7=>zI hf rfl hF ?_ ?_ <;> clear hF <;> intro hF
 ·refine wp_skip ?_
  refine h7 _ _ ?_
  refine wp_seq_k fun K8 h8=>wp_block ?_
  refine zS fun K h=>sp 2 hf rfl fun a hf=>zT h ?_
  refine zS fun K h=>sp 3 hf rfl fun a hf=>?_
  obtain ⟨I,M,hF⟩:=aA hF
  obtain ⟨Y,o,qa,qp⟩:=O.atm M
  refine zP hf rfl (pIA Tryz.underlying30 oK rfl rfl qa) fun a hf=>zE hf hc rfl (kG (vs:=[i6 I.Index,i6 I.Due]) uZ rfl rfl (cR qp (n:=2) (o':=0) rfl)) fun a w hf hc=>zQ (v:=.bool (lX I f_)) hf hc en_97 rfl (fun w hc=>(uD I f_ (hc.pick k0) rfl).mono fun e w h=>⟨h.1,(h.2.unpick k0)⟩) fun a w hf hc=>zT h ?_
  refine zI hf rfl hF ?_ ?_ <;> clear hF <;> intro hF
  ·refine zS fun K h=>sp 2 hf rfl fun a hf=>zT h ?_
   refine wp_ret ?_
   refine bI ?_
   refine aN ?_
   refine aN ?_
   have he:=sj hF
   rw [← he] at B
   replace hF:=X _ B
   refine bI ?_
   refine aN ?_
   obtain rfl:=hF
   exact zO1 Tryz.results96 hf rfl ⟨rfl,hc⟩
  ·refine wp_skip ?_
   refine h8 _ _ ?_
   refine bR ?_
   refine sp 2 hf rfl fun a hf=>aP ?_
   exact U (W (x + 1)) _ _ (sj hF).symm ⟨hf.kp rfl,hc⟩
 ·refine wp_exit ?_
  refine bE ?_
  refine bE ?_
  have he:=sj hF
  rw [← he] at B
  refine eX ?_
  exact V _ _ _ B ⟨hf.kp rfl,hc⟩

def jF (N:Nat) (b_:aH) (D:Int):Option (Int) :=
 Option.bind (bT N b_.Table D) fun r=>
 cond (r == 0)
 (Option.bind (aZ b_.Table 0) fun J=>
 some J.Due)
 (cond (r == (-1))
 (Option.bind (aZ b_.Table (W (((b_.Table.length:Nat):Int) - 1))) fun I=>
 some I.Due)
 (Option.bind (aZ b_.Table (W (r - 1))) fun B=>
 Option.bind (aZ b_.Table r) fun H=>
 Option.bind (nz (W (H.Index - B.Index))) fun un=>
 some (W (B.Due + (W ((W ((W (H.Due - B.Due)) * (W (D - B.Index)))).tdiv (W (H.Index - B.Index))))))))
theorem qM {N:Nat} {G:bA} {Lf:List Ent} {w:World} (b_:aH) (I:Int) {D:Option Addr} {B:Nat} (H:Rd G 2 D B (b_.Table.map aO)) (hc:Ctx G (Lf) w) {i:Int} (hF:jF N b_ I=some i):Calls Tryz.prog 70 #[.agg #[.slice D b_.Table.length B,i6 b_.Credit],i6 I] w (fun e w=>e=.returned (i6 i)∧Ctx G (Lf) w):=by
 unfold jF at hF
 refine cG Tryz.func70 rfl Tryz.ntmps70 rfl fun a hf=>zS fun K h=>zB hf hc rfl fun V a w hf hc=>zB hf hc rfl fun U a w hf hc=>sp 1 hf rfl fun a hf=>zT h ?_
 refine zS fun K h=>zP hf rfl (pFA gB rfl) fun a hf=>zL hf hc oH m1 rfl fun a w hf hc=>zP hf rfl (pMF (us:=[pq U]) rfl rfl) fun a hf=>?_
 obtain ⟨r,hr,hF⟩:=aA hF
 refine zQ (v:=i6 r) hf hc aKr rfl (fun w hc=>(kA b_.Table I H (hc.pick k0) hr).mono fun e w h=>⟨h.1,(h.2.unpick k0)⟩) fun a w hf hc=>sp 1 hf rfl fun a hf=>zT h ?_
 refine wp_seq_k fun K3 h3=>zS fun K h=>sp 1 hf rfl fun a hf=>zT h ?_
 refine wp_block ?_
 refine zS fun K h=>sp 2 hf rfl fun a hf=>zT h ?_
 refine zI hf rfl hF ?_ ?_ <;> clear hF <;> intro hF
 ·refine zS fun K h=>zP hf rfl (pFA gB rfl) fun a hf=>zL hf hc oH m1 rfl fun a w hf hc=>?_
  obtain ⟨ar,y,hF⟩:=aA hF
  obtain ⟨an,o,qa,qp⟩:=H.atm y
  refine zP hf rfl (pIA Tryz.underlying30 oK rfl rfl qa) fun a hf=>zP hf rfl (pFA qR rfl) fun a hf=>zE hf hc rfl (bP bB rfl (bK (j:=1) qp rfl)) fun a w hf hc=>sp 1 hf rfl fun a hf=>zT h ?_
  refine wp_ret ?_
  refine bI ?_
  refine aN ?_
  obtain rfl:=sj hF
  replace hc:=(hc.drop k1).drop k0
  exact zO1 Tryz.results70 hf rfl ⟨rfl,hc⟩
 ·refine zS fun K h=>sp 2 hf rfl fun a hf=>zT h ?_
  refine zI hf rfl hF ?_ ?_ <;> clear hF <;> intro hF
  ·refine zS fun K h=>zP hf rfl (pFA gB rfl) fun a hf=>zL hf hc oH m1 rfl fun a w hf hc=>zP hf rfl (pFA gB rfl) fun a hf=>zL hf hc oH m1 rfl fun a w hf hc=>zP hf rfl (bL Tryz.underlying30 rfl) fun a hf=>sp 1 hf rfl fun a hf=>?_
   obtain ⟨aq,p,hF⟩:=aA hF
   obtain ⟨au,ap,q,s⟩:=H.atm p
   refine zP hf rfl (pIA Tryz.underlying30 oK rfl rfl q) fun a hf=>zP hf rfl (pFA qR rfl) fun a hf=>zE hf hc rfl (bP bB rfl (bK (j:=1) s rfl)) fun a w hf hc=>sp 1 hf rfl fun a hf=>zT h ?_
   refine wp_ret ?_
   refine bI ?_
   refine aN ?_
   obtain rfl:=sj hF
   replace hc:=(hc.drop k1).drop k0
   exact zO1 Tryz.results70 hf rfl ⟨rfl,hc⟩
  ·refine wp_skip ?_
   refine h3 _ _ ?_
   refine wp_seq_k fun K9 h9=>?_
   obtain ⟨J,m,hF⟩:=aA hF
   obtain ⟨am,af,z,aa⟩:=H.atm m
   obtain ⟨M,x,hF⟩:=aA hF
   obtain ⟨ak,ad,t,k⟩:=H.atm x
   replace hc:=hc.nilRow 0 0
   replace hc:=hc.nilRow 0 0
   refine dJ (fun θ=>[⟨none,none,2,pq V⟩,⟨none,none,3,pq U⟩,⟨none,none,5,i6 r⟩,⟨some 0,none,31,pq V⟩,⟨some 1,none,32,.slice D b_.Table.length B⟩,⟨some 2,none,33,i6 r⟩,⟨some 3,none,34,i6 (W (r - 1))⟩,⟨some 4,none,35,.pointer (some ⟨am,af,none⟩)⟩,⟨some 5,none,36,.agg #[i6 J.Index,i6 J.Due]⟩,⟨some 6,none,37,pq V⟩,⟨some 7,none,38,.slice D b_.Table.length B⟩,⟨some 8,none,39,i6 r⟩,⟨some 9,none,40,.pointer (some ⟨ak,ad,none⟩)⟩,⟨some 10,none,41,.agg #[i6 M.Index,i6 M.Due]⟩,⟨some 11,none,6,.pointer (some ⟨(θ 88).b,0,none⟩)⟩,⟨some 12,none,7,.pointer (some ⟨(θ 96).b,0,none⟩)⟩]) (fun E θ=>(bif E 14 then .box (θ 96).b [i6 M.Index,i6 M.Due] 48 else bif E 12 then .box (θ 96).b [i6 0,i6 0] 48 else .row none 0 [] 0 0)::(bif E 13 then .box (θ 88).b [i6 J.Index,i6 J.Due] 48 else bif E 11 then .box (θ 88).b [i6 0,i6 0] 48 else .row none 0 [] 0 0)::.box U [i6 I] 3::.box V [.slice D b_.Table.length B,i6 b_.Credit] 32::Lf) [(13,11),(14,12)] (fun a w=>∃ (d:Nat) (X:Nat),Has 61 a [(3,pq U),(6,pq d),(7,pq X)]∧Ctx G (.box X [i6 M.Index,i6 M.Due] 48::.box d [i6 J.Index,i6 J.Due] 48::.box U [i6 I] 3::.box V [.slice D b_.Table.length B,i6 b_.Credit] 32::Lf) w) aY (by kernel_rfl) (by kernel_rfl) (eY.of hf ⟨rfl,rfl,rfl,trivial,trivial,trivial,trivial,trivial,trivial,trivial,trivial,trivial,trivial,trivial,trivial,trivial,trivial⟩) hc ⟨?_,?_,?_,?_,?_,?_,?_,?_,?_,?_,?_,?_,?_,?_,?_,trivial⟩ ?_ ?_
   ·intro E θ a w hD hi hp he hc
    have hf:=he.h0.mT he 0 rfl
    refine zP hf rfl (pFA gB rfl) fun a hf=>zD θ he hi hf 3 rfl rfl rfl hc
   ·intro E θ a w hD hi hp he hc
    have e0:=hp.o 0 rfl
    have hf:=he.h0.mP he 3 rfl e0
    refine zL hf hc oH m3 rfl fun a w hf hc=>zD θ he hi hf 4 rfl rfl rfl hc
   ·intro E θ a w hD hi hp he hc
    have hf:=he.h0.mT he 2 rfl
    refine sp 1 hf rfl fun a hf=>zD θ he hi hf 5 rfl rfl rfl hc
   ·intro E θ a w hD hi hp he hc
    have e2:=hp.o 2 rfl
    have hf:=he.h0.mP he 5 rfl e2
    refine sp 1 hf rfl fun a hf=>zD θ he hi hf 6 rfl rfl rfl hc
   ·intro E θ a w hD hi hp he hc
    have e1:=hp.o 1 rfl
    have e3:=hp.o 3 rfl
    have hf:=(he.h0.mP he 4 rfl e1).mP he 6 rfl e3
    refine zP hf rfl (pIA Tryz.underlying30 oK rfl rfl z) fun a hf=>zD θ he hi hf 7 rfl rfl rfl hc
   ·intro E θ a w hD hi hp he hc
    have e4:=hp.o 4 rfl
    have hf:=he.h0.mP he 7 rfl e4
    refine zE hf hc rfl (kG (vs:=[i6 J.Index,i6 J.Due]) uZ rfl rfl (cR aa (n:=2) (o':=0) rfl)) fun a w hf hc=>zD θ he hi hf 8 rfl rfl rfl hc
   ·intro E θ a w hD hi hp he hc
    have hf:=he.h0.mT he 0 rfl
    refine zP hf rfl (pFA gB rfl) fun a hf=>zD θ he hi hf 9 rfl rfl rfl hc
   ·intro E θ a w hD hi hp he hc
    have e6:=hp.o 6 rfl
    have hf:=he.h0.mP he 9 rfl e6
    refine zL hf hc oH m3 rfl fun a w hf hc=>zD θ he hi hf 10 rfl rfl rfl hc
   ·intro E θ a w hD hi hp he hc
    have hf:=he.h0.mT he 2 rfl
    refine sp 1 hf rfl fun a hf=>zD θ he hi hf 11 rfl rfl rfl hc
   ·intro E θ a w hD hi hp he hc
    have e7:=hp.o 7 rfl
    have e8:=hp.o 8 rfl
    have hf:=(he.h0.mP he 10 rfl e7).mP he 11 rfl e8
    refine zP hf rfl (pIA Tryz.underlying30 oK rfl rfl t) fun a hf=>zD θ he hi hf 12 rfl rfl rfl hc
   ·intro E θ a w hD hi hp he hc
    have e9:=hp.o 9 rfl
    have hf:=he.h0.mP he 12 rfl e9
    refine zE hf hc rfl (kG (vs:=[i6 M.Index,i6 M.Due]) uZ rfl rfl (cR k (n:=2) (o':=0) rfl)) fun a w hf hc=>zD θ he hi hf 13 rfl rfl rfl hc
   ·intro E θ a w hD hi hp he hc
    have Y:=hD.f 0 rfl hi
    try dsimp only at hc
    rw [hi,Y] at hc
    have hf:=he.h0
    refine zA hf hc aD9 rfl fun ai a w hf hc=>aP ?_
    refine bV ?_
    intro ds u g
    replace hc:=((hc.drop k2).pick k0).pick k1
    refine ⟨(fY θ 88 ⟨ai,none,0,(fun _=>(none,0))⟩),he.put hi g hf rfl [] trivial ⟨qq,qq,qq,qq,qq,qq,qq,qq,qq,qq,qq,qq,qq,qq,qq,qq,trivial⟩,?_⟩
    try dsimp only
    rw [aU E 11,eO 11 Y rfl]
    exact hc
   ·intro E θ a w hD hi hp he hc
    have Z:=hD.f 1 rfl hi
    try dsimp only at hc
    rw [hi,Z] at hc
    have hf:=he.h0
    refine zA hf hc aD9 rfl fun aj a w hf hc=>aP ?_
    refine bV ?_
    intro ds u g
    replace hc:=hc.drop k1
    refine ⟨(fY θ 96 ⟨aj,none,0,(fun _=>(none,0))⟩),he.put hi g hf rfl [] trivial ⟨qq,qq,qq,qq,qq,qq,qq,qq,qq,qq,qq,qq,qq,qq,qq,qq,trivial⟩,?_⟩
    try dsimp only
    rw [aU E 12,eO 12 Z rfl]
    exact hc
   ·intro E θ a w hD hi hp he hc
    have e5:=hp.o 5 rfl
    have R:=hp.o 11 rfl
    try dsimp only at hc
    rw [R,hi] at hc
    have hf:=(he.h0.mP he 8 rfl e5).mP he 14 rfl R
    refine zW hf hc oK u1 rfl fun w hc=>zG θ he hi hf rfl ?_
    try dsimp only
    rw [dH 13 R,aU E 13]
    exact hc
   ·intro E θ a w hD hi hp he hc
    have ac:=hp.o 10 rfl
    have O:=hp.o 12 rfl
    try dsimp only at hc
    rw [O,hi] at hc
    have hf:=(he.h0.mP he 13 rfl ac).mP he 15 rfl O
    refine zW hf hc oK u0 rfl fun w hc=>zG θ he hi hf rfl ?_
    try dsimp only
    rw [dH 14 O,aU E 14]
    exact hc
   ·intro E θ a w S he hc
    have hf:=he.h0
    have R:=S 11 rfl
    have O:=S 12 rfl
    have Y:=S 13 rfl
    have Z:=S 14 rfl
    replace hf:=hf.more he 15 rfl (onP O)
    replace hf:=hf.more he 14 rfl (onP R)
    replace hf:=hf.more he 1 rfl (onT)
    try dsimp only at hc
    rw [R,O,Y,Z] at hc
    exact ⟨(θ 88).b,(θ 96).b,hf.kp rfl,hc⟩
   rintro a w ⟨d,X,hf,hc⟩
   refine h9 _ _ ?_
   refine wp_seq_k fun K10 ab=>?_
   obtain ⟨un,ag,hF⟩:=aA hF
   refine cQ hc aY (by kernel_rfl) ?_
   refine qE hf rfl rfl rfl (Pu.ev (pFA qR rfl)) fun a hf=>qE hf rfl rfl rfl (bP bB rfl (bZ m1 rfl)) fun a hf=>qE hf rfl rfl rfl (Pu.ev (pFA qR rfl)) fun a hf=>qE hf rfl rfl rfl (bP bB rfl (bZ m0 rfl)) fun a hf=>qE hf rfl rfl rfl (Pu.ev (pFA qR rfl)) fun a hf=>qE hf rfl rfl rfl (bP bB rfl (bZ m1 rfl)) fun a hf=>qE hf rfl rfl rfl (Pu.ev (aB0 rfl rfl)) fun a hf=>qE hf rfl rfl rfl (bP bB rfl (bZ m2 rfl)) fun a hf=>qE hf rfl rfl rfl (Pu.ev (pFA sB rfl)) fun a hf=>qE hf rfl rfl rfl (bP bB rfl (bZ m1 rfl)) fun a hf=>qE hf rfl rfl rfl (Pu.ev (aB0 rfl rfl)) fun a hf=>qE hf rfl rfl rfl (Pu.ev (yJ rfl rfl)) fun a hf=>qE hf rfl rfl rfl (Pu.ev (pFA sB rfl)) fun a hf=>?_
   refine qE hf rfl rfl rfl (bP bB rfl (bZ m0 rfl)) fun a hf=>qE hf rfl rfl rfl (Pu.ev (pFA sB rfl)) fun a hf=>qE hf rfl rfl rfl (bP bB rfl (bZ m1 rfl)) fun a hf=>qE hf rfl rfl rfl (Pu.ev (aB0 rfl rfl)) fun a hf=>qE hf rfl rfl rfl (Pu.ev (nE rfl rfl (eZ ag))) fun a hf=>qE hf rfl rfl rfl (Pu.ev (wZ rfl rfl)) fun a hf=>qE hf rfl rfl rfl (Pu.ev (pA rfl)) fun a hf=>?_
   intro w hc
   refine ab _ _ ?_
   refine wp_ret ?_
   obtain rfl:=sj hF
   replace hc:=(((hc.drop k3).drop k2).drop k1).drop k0
   exact zO1 Tryz.results70 hf rfl ⟨rfl,hc⟩

def gH (N:Nat) (mp:Int→Option Int) (B:Int):Option (Int × (Int→Option Int) × Int) :=
 some (B,mp,B)
def fB (N:Nat) (t_:aB) (B:Bool) (D:aH) (I:Int) (H:Int) (mp:Int→Option Int):Option (Int × (Int→Option Int) × Int) :=
 cond B
 (gH N mp 0)
 (gH N mp (max (W (0 - D.Credit)) (W ((W (I + H)) - t_.Delivered))))
def dG (N:Nat) (t_:aB) (B:Bool) (x:Int→Option Int) (D:aH) (H:Int):Option (Int × (Int→Option Int) × Int) :=
 cond (!((x t_.Index).isSome))
 (Option.bind (jF N D t_.Index) fun r=>
 fB N t_ B D H r (aDf x t_.Index r))
 (fB N t_ B D H ((x t_.Index).getD 0) x)
theorem lQ {N:Nat} {G:bA} {Lf:List Ent} {w:World} (t_:aB) (M:Bool) (x:Int→Option Int) (H:aH) (S:Int) {b_:Nat} {mb:Nat} {J:Nat} {D:Option Addr} {B:Nat} {I:Nat} (O:Rd G 2 D B (H.Table.map aO)) (hc:Ctx G (.box b_ [.map (some mb)] 169::.im mb (fun j=>(x j).map (Value.int .i64)) none::.box J [.slice D H.Table.length B,i6 H.Credit] 32::.box I [i6 S] 3::Lf) w) {R:Int × (Int→Option Int) × Int} (hF:dG N t_ M x H S=some R):Calls Tryz.prog 100 #[.agg #[i6 t_.Index,i6 t_.Delivered],.bool M,pq b_,pq J,pq I] w (fun e w=>e=.returned (i6 R.1)∧Ctx G (.box b_ [.map (some mb)] 169::.im mb (fun j=>(R.2.1 j).map (Value.int .i64)) none::.box J [.slice D H.Table.length B,i6 H.Credit] 32::.box I [i6 R.2.2] 3::Lf) w):=by
 unfold dG at hF
 refine cG Tryz.func100 rfl Tryz.ntmps100 rfl fun a hf=>zS fun K h=>zB hf hc rfl fun Z a w hf hc=>sp 1 hf rfl fun a hf=>zT h ?_
 refine zS fun K h=>zL hf hc aJi m1 rfl fun a w hf hc=>zP hf rfl (pFA wS rfl) fun a hf=>zL hf hc bB m0 rfl fun a w hf hc=>zE hf hc rfl (eLkOk (enc:=(Value.int .i64)) (z0:=0) (m:=x) m2 Tryz.underlying169 Tryz.underlying3 aFt rfl rfl) fun a w hf hc=>sp 5 hf rfl fun a hf=>zT h ?_
 refine wp_seq_k fun K3 h3=>?_
 have X:∀ (V:Int) (mp:Int→Option Int) a w,Has 39 a [(1,.bool M),(3,pq J),(4,pq I),(5,pq Z),(8,i6 V)]→Ctx G (.box Z [i6 t_.Index,i6 t_.Delivered] 37::.box b_ [.map (some mb)] 169::.im mb (fun j=>(mp j).map (Value.int .i64)) none::.box J [.slice D H.Table.length B,i6 H.Credit] 32::.box I [i6 S] 3::Lf) w→fB N t_ M H S V mp=some R→K3 a w:=by
  repeat (clear hF)
  repeat (clear hc)
  repeat (clear hf)
  intro V mp a w hf hc hF
  unfold fB at hF
  refine h3 _ _ ?_
  refine zS fun K h=>zP hf rfl (pFA tN rfl) fun a hf=>zL hf hc bB m3 rfl fun a w hf hc=>sp 1 hf rfl fun a hf=>zL hf hc bB m4 rfl fun a w hf hc=>sp 2 hf rfl fun a hf=>zP hf rfl (pFA aC7 rfl) fun a hf=>zL hf hc bB m0 rfl fun a w hf hc=>sp 1 hf rfl fun a hf=>zP hf rfl (aG6 rfl rfl) fun a hf=>zW hf hc cY u4 rfl fun w hc=>zT h ?_
  refine wp_seq_k fun K5 h5=>?_
  have Y:∀ (U:Int) a w,Has 39 a [(4,pq I)]→Ctx G (.box b_ [.map (some mb)] 169::.im mb (fun j=>(mp j).map (Value.int .i64)) none::.box J [.slice D H.Table.length B,i6 H.Credit] 32::.box I [i6 U] 3::Lf) w→gH N mp U=some R→K5 a w:=by
   repeat (clear hF)
   repeat (clear hc)
   repeat (clear hf)
   intro U a w hf hc hF
   unfold gH at hF
   refine h5 _ _ ?_
   refine zS fun K h=>zL hf hc bB m3 rfl fun a w hf hc=>sp 1 hf rfl fun a hf=>zT h ?_
   refine wp_ret ?_
   obtain rfl:=sj hF
   exact zO1 Tryz.results100 hf rfl ⟨rfl,hc⟩
  refine zS fun K h=>sp 1 hf rfl fun a hf=>zT h ?_
  refine zI hf rfl hF ?_ ?_ <;> clear hF <;> intro hF
  ·refine bR ?_
   refine zW hf hc cY u4 rfl fun w hc=>aP ?_
   replace hc:=hc.drop k0
   exact Y 0 _ _  (hf.kp rfl) hc hF
  ·refine wp_skip ?_
   replace hc:=hc.drop k0
   exact Y (max (W (0 - H.Credit)) (W ((W (S + V)) - t_.Delivered))) _ _  (hf.kp rfl) hc hF
 refine zS fun K h=>sp 2 hf rfl fun a hf=>zT h ?_
 refine zI hf rfl hF ?_ ?_ <;> clear hF <;> intro hF
 ·refine zS fun K h=>zN hf hc lE m3 rfl fun a w hf hc=>zP hf rfl (pFA wS rfl) fun a hf=>zL hf hc bB m0 rfl fun a w hf hc=>?_
  obtain ⟨r,hr,hF⟩:=aA hF
  refine zQ (v:=i6 r) hf hc aKo rfl (fun w hc=>qM H t_.Index O hc hr) fun a w hf hc=>sp 1 hf rfl fun a hf=>zT h ?_
  refine bR ?_
  refine zL hf hc aJi m1 rfl fun a w hf hc=>zP hf rfl (pFA wS rfl) fun a hf=>zL hf hc bB m0 rfl fun a w hf hc=>sp 1 hf rfl fun a hf=>stMU (enc:=(Value.int .i64)) (m:=x) (v:=r) hf hc rfl Tryz.underlying169 Tryz.underlying3 rfl rfl rfl u2 fun w hc=>aP ?_
  exact X r (aDf x t_.Index r) _ _  (hf.kp rfl) hc hF
 ·refine wp_skip ?_
  exact X ((x t_.Index).getD 0) x _ _  (hf.kp rfl) hc hF

def kB (s_:aE):Int :=
 s_.Hi
theorem zR {G:bA} {Lf:List Ent} {w:World} (s_:aE)   (hc:Ctx G (Lf) w) {B:Int} (hF:kB s_=B):Calls Tryz.prog 103 #[.agg #[i6 s_.Lo,i6 s_.Hi]] w (fun e w=>e=.returned (i6 B)∧Ctx G (Lf) w):=by
 unfold kB at hF
 refine cG Tryz.func103 rfl Tryz.ntmps103 rfl fun a hf=>zS fun K h=>zB hf hc rfl fun D a w hf hc=>sp 1 hf rfl fun a hf=>zT h ?_
 refine zS fun K h=>zP hf rfl (pFA hI rfl) fun a hf=>zL hf hc bB m0 rfl fun a w hf hc=>sp 1 hf rfl fun a hf=>zT h ?_
 refine wp_ret ?_
 obtain rfl:=hF
 replace hc:=hc.drop k0
 exact zO1 Tryz.results103 hf rfl ⟨rfl,hc⟩

def kP (s_:aE):Int :=
 s_.Lo
theorem zO {G:bA} {Lf:List Ent} {w:World} (s_:aE)   (hc:Ctx G (Lf) w) {B:Int} (hF:kP s_=B):Calls Tryz.prog 104 #[.agg #[i6 s_.Lo,i6 s_.Hi]] w (fun e w=>e=.returned (i6 B)∧Ctx G (Lf) w):=by
 unfold kP at hF
 refine cG Tryz.func104 rfl Tryz.ntmps104 rfl fun a hf=>zS fun K h=>zB hf hc rfl fun D a w hf hc=>sp 1 hf rfl fun a hf=>zT h ?_
 refine zS fun K h=>zP hf rfl (pFA hC rfl) fun a hf=>zL hf hc bB m0 rfl fun a w hf hc=>sp 1 hf rfl fun a hf=>zT h ?_
 refine wp_ret ?_
 obtain rfl:=hF
 replace hc:=hc.drop k0
 exact zO1 Tryz.results104 hf rfl ⟨rfl,hc⟩

def iP (N:Nat) (b_:aH) (H:List aF) (R:(Int→Option Int) × Int × Int) (S:(Int→Option Int) × Int × Int) (out:List aE) (x:Int) (M:Int) (O:Int) (mp:Int→Option Int) (J:Int→Option Int):Option (bH ((List aE) × Int × Int × Int × (Int→Option Int) × (Int→Option Int)) ((List aE) × Int)) :=
 cond (decide (x < ((H.length:Nat):Int)))
 (Option.bind (aZ H x) fun B=>
 Option.bind (dG N (⟨(lL B.Index),(lI B.Delivered)⟩:aB) B.Spill J (⟨b_.Table,R.2.1⟩:aH) M) fun D=>
 Option.bind (dG N (⟨(kB B.Index),(kP B.Delivered)⟩:aB) B.Spill mp (⟨b_.Table,S.2.1⟩:aH) O) fun I=>
 Option.bind (jE ((out++[(⟨D.1,I.1⟩:aE)])).length) fun un=>
 some (.cont ((out++[(⟨D.1,I.1⟩:aE)]),W (x + 1),D.2.2,I.2.2,I.2.1,D.2.1)))
 (some (.brk (out,x,M,O,mp,J)))
def oD (N:Nat) (b_:aH) (D:aE) (H:List aF):Option ((List aE) × Int) :=
 Option.bind (oB N b_ D H) fun r=>
 cond (r != 0)
 (some (([]:List aE),r))
 (Option.bind (iG N b_ D.Lo) fun I=>
 Option.bind (iG N b_ D.Hi) fun J=>
 Option.bind (aT (fun B=>iP N b_ H I J B.1 B.2.1 B.2.2.1 B.2.2.2.1 B.2.2.2.2.1 B.2.2.2.2.2) N (([]:List aE),0,I.2.2,J.2.2,J.1,I.1)) fun M=>
 exK M (fun B=>some (B.1,0)) some)
theorem vA {N:Nat} {G:bA} {Lf:List Ent} {w:World} (b_:aH) (O:aE) (I:List aF) {D:Option Addr} {B:Nat} {J:Option Addr} {M:Nat} (d:Rd G 2 D B (b_.Table.map aO)) (af:Rd G 5 J M (I.map aS)) (hc:Ctx G (Lf) w) {ag:(List aE) × Int} (hF:oD N b_ O I=some ag):Calls Tryz.prog 37 #[.agg #[.slice D b_.Table.length B,i6 b_.Credit],.agg #[i6 O.Lo,i6 O.Hi],.slice J I.length M] w (fun e w=>∃ (az:Option Addr) (a0:Nat),e=.returned (.tuple #[.slice az ag.1.length a0,i6 ag.2])∧Ctx G (.row az a0 (ag.1.map bC) 28 2::Lf) w):=by
 unfold oD at hF
 refine cG Tryz.func37 rfl Tryz.ntmps37 rfl fun a hf=>zS fun K h=>zB hf hc rfl fun aq a w hf hc=>zB hf hc rfl fun ai a w hf hc=>sp 2 hf rfl fun a hf=>zT h ?_
 refine wp_seq_k fun K2 h2=>zS fun K h=>zN hf hc lE m1 rfl fun a w hf hc=>zN hf hc mL m0 rfl fun a w hf hc=>sp 1 hf rfl fun a hf=>?_
 obtain ⟨r,hr,hF⟩:=aA hF
 refine zQ (v:=i6 r) hf hc aK9 rfl (fun w hc=>vG b_ O I d af hc hr) fun a w hf hc=>sp 1 hf rfl fun a hf=>zT h ?_
 refine zS fun K h=>sp 2 hf rfl fun a hf=>zT h ?_
 refine zI hf rfl hF ?_ ?_ <;> clear hF <;> intro hF
 ·refine zS fun K h=>sp 3 hf rfl fun a hf=>zT h ?_
  refine wp_ret ?_
  refine aN ?_
  obtain rfl:=sj hF
  replace hc:=hc.nilRow 28 2
  replace hc:=(hc.drop k2).drop k1
  exact zO2 Tryz.results37 hf rfl rfl ⟨none,0,rfl,hc⟩
 ·refine wp_skip ?_
  refine h2 _ _ ?_
  refine zS fun K h=>sp 1 hf rfl fun a hf=>zT h ?_
  refine wp_seq_k fun K7 h7=>?_
  obtain ⟨z,a1,hF⟩:=aA hF
  obtain ⟨aa,a9,hF⟩:=aA hF
  replace hc:=hc.nilRow 0 0
  replace hc:=hc.nilRow 0 0
  replace hc:=hc.nilRow 0 0
  replace hc:=hc.nilRow 0 0
  replace hc:=hc.nilRow 0 0
  replace hc:=hc.nilRow 0 0
  replace hc:=hc.nilRow 0 0
  replace hc:=hc.nilRow 0 0
  refine dJ (fun θ=>[⟨none,none,2,.slice J I.length M⟩,⟨none,none,3,pq aq⟩,⟨none,none,4,pq ai⟩,⟨none,none,9,.slice none 0 0⟩,⟨some 0,none,25,.agg #[.slice D b_.Table.length B,i6 b_.Credit]⟩,⟨some 1,none,26,pq ai⟩,⟨some 2,none,27,i6 O.Lo⟩,⟨some 3,none,28,.func (.func 100) #[] #[.pointer (some ⟨(θ 24).b,0,none⟩),.pointer (some ⟨(θ 26).b,0,none⟩),.pointer (some ⟨(θ 27).b,0,none⟩)]⟩,⟨some 4,none,29,.agg #[.slice D b_.Table.length B,i6 b_.Credit]⟩,⟨some 5,none,30,.pointer (some ⟨ai,1,none⟩)⟩,⟨some 6,none,31,i6 O.Hi⟩,⟨some 7,none,32,.func (.func 100) #[] #[.pointer (some ⟨(θ 56).b,0,none⟩),.pointer (some ⟨(θ 58).b,0,none⟩),.pointer (some ⟨(θ 59).b,0,none⟩)]⟩,⟨some 8,none,10,.func (.func 100) #[] #[.pointer (some ⟨(θ 24).b,0,none⟩),.pointer (some ⟨(θ 26).b,0,none⟩),.pointer (some ⟨(θ 27).b,0,none⟩)]⟩,⟨some 9,none,11,.func (.func 100) #[] #[.pointer (some ⟨(θ 56).b,0,none⟩),.pointer (some ⟨(θ 58).b,0,none⟩),.pointer (some ⟨(θ 59).b,0,none⟩)]⟩]) (fun E θ=>(bif E 7 then .box (θ 59).b [i6 aa.2.2] 3 else .row none 0 [] 0 0)::(bif E 7 then .box (θ 58).b [.slice D b_.Table.length B,i6 aa.2.1] 32 else .row none 0 [] 0 0)::(bif E 7 then .box (θ 56).b [.map (some ((θ 57).b))] 169 else .row none 0 [] 0 0)::(bif E 7 then .im ((θ 57).b) (fun j=>(aa.1 j).map (Value.int .i64)) none else .row none 0 [] 0 0)::(bif E 3 then .box (θ 27).b [i6 z.2.2] 3 else .row none 0 [] 0 0)::(bif E 3 then .box (θ 26).b [.slice D b_.Table.length B,i6 z.2.1] 32 else .row none 0 [] 0 0)::(bif E 3 then .box (θ 24).b [.map (some ((θ 25).b))] 169 else .row none 0 [] 0 0)::(bif E 3 then .im ((θ 25).b) (fun j=>(z.1 j).map (Value.int .i64)) none else .row none 0 [] 0 0)::.box ai [i6 O.Lo,i6 O.Hi] 28::.box aq [.slice D b_.Table.length B,i6 b_.Credit] 32::Lf) [(8,3),(9,7)] (fun a w=>∃ (g:Nat) (X:Nat) (U:Nat) (k:Nat) (Z:Nat) (R:Nat) (i:Nat) (Y:Nat),Has 79 a [(2,.slice J I.length M),(9,.slice none 0 0),(10,.func (.func 100) #[] #[pq g,pq X,pq U]),(11,.func (.func 100) #[] #[pq k,pq Z,pq R])]∧Ctx G (.box R [i6 aa.2.2] 3::.box Z [.slice D b_.Table.length B,i6 aa.2.1] 32::.box k [.map (some i)] 169::.im i (fun j=>(aa.1 j).map (Value.int .i64)) none::.box U [i6 z.2.2] 3::.box X [.slice D b_.Table.length B,i6 z.2.1] 32::.box g [.map (some Y)] 169::.im Y (fun j=>(z.1 j).map (Value.int .i64)) none::.box ai [i6 O.Lo,i6 O.Hi] 28::.box aq [.slice D b_.Table.length B,i6 b_.Credit] 32::Lf) w) aY (by kernel_rfl) (by kernel_rfl) (eY.of hf ⟨rfl,rfl,rfl,rfl,trivial,trivial,trivial,trivial,trivial,trivial,trivial,trivial,trivial,trivial,trivial⟩) hc ⟨?_,?_,?_,?_,?_,?_,?_,?_,?_,?_,trivial⟩ ?_ ?_
  ·intro E θ a w hD hi hp he hc
   have hf:=he.h0.mT he 1 rfl
   refine zN hf hc lE m9 rfl fun a w hf hc=>zD θ he hi hf 4 rfl rfl rfl hc
  ·intro E θ a w hD hi hp he hc
   have hf:=he.h0.mT he 2 rfl
   refine zP hf rfl (pFA hC rfl) fun a hf=>zD θ he hi hf 5 rfl rfl rfl hc
  ·intro E θ a w hD hi hp he hc
   have e1:=hp.o 1 rfl
   have hf:=he.h0.mP he 5 rfl e1
   refine zL hf hc bB m8 rfl fun a w hf hc=>zD θ he hi hf 6 rfl rfl rfl hc
  ·intro E θ a w hD hi hp he hc
   have e0:=hp.o 0 rfl
   have e2:=hp.o 2 rfl
   have e8:=hD.f 0 rfl hi
   try dsimp only at hc
   rw [hi] at hc
   have hf:=(he.h0.mP he 4 rfl e0).mP he 6 rfl e2
   refine zC hf aIs rfl (mO b_ O.Lo d hc a1) ?_
   rintro _ w ⟨ba,bp,bs,bg,rfl,hc⟩
   refine ⟨_,rfl,fun a hf=>?_⟩
   refine aP ?_
   refine bV ?_
   intro ds u ac
   replace hc:=(((((((((((hc.drop k11).drop k10).drop k9).drop k8).pick k0).pick k1).pick k2).pick k3).pick k7).pick k7).pick k7).pick k7
   refine ⟨(fY (fY (fY (fY θ 24 ⟨ba,none,0,(fun _=>(none,0))⟩) 25 ⟨bp,none,0,(fun _=>(none,0))⟩) 26 ⟨bs,none,0,(fun _=>(none,0))⟩) 27 ⟨bg,none,0,(fun _=>(none,0))⟩),he.put hi ac hf rfl [8] ⟨⟨e8,rfl⟩,trivial⟩ ⟨qq,qq,qq,qq,qq,qq,qq,qq,qq,qq,qq,qq,trivial,qq,trivial⟩,?_⟩
   try dsimp only
   rw [aU E 3]
   exact hc
  ·intro E θ a w hD hi hp he hc
   have hf:=he.h0.mT he 1 rfl
   refine zN hf hc lE m9 rfl fun a w hf hc=>zD θ he hi hf 8 rfl rfl rfl hc
  ·intro E θ a w hD hi hp he hc
   have hf:=he.h0.mT he 2 rfl
   refine zP hf rfl (pFA hI rfl) fun a hf=>zD θ he hi hf 9 rfl rfl rfl hc
  ·intro E θ a w hD hi hp he hc
   have e5:=hp.o 5 rfl
   have hf:=he.h0.mP he 9 rfl e5
   refine zL hf hc bB m8 rfl fun a w hf hc=>zD θ he hi hf 10 rfl rfl rfl hc
  ·intro E θ a w hD hi hp he hc
   have e4:=hp.o 4 rfl
   have e6:=hp.o 6 rfl
   have e9:=hD.f 1 rfl hi
   try dsimp only at hc
   rw [hi] at hc
   have hf:=(he.h0.mP he 8 rfl e4).mP he 10 rfl e6
   refine zC hf aIs rfl (mO b_ O.Hi d hc a9) ?_
   rintro _ w ⟨bn,bf,bb,a5,rfl,hc⟩
   refine ⟨_,rfl,fun a hf=>?_⟩
   refine aP ?_
   refine bV ?_
   intro ds u ac
   replace hc:=(((((((hc.drop k7).drop k6).drop k5).drop k4).pick k0).pick k1).pick k2).pick k3
   refine ⟨(fY (fY (fY (fY θ 56 ⟨bn,none,0,(fun _=>(none,0))⟩) 57 ⟨bf,none,0,(fun _=>(none,0))⟩) 58 ⟨bb,none,0,(fun _=>(none,0))⟩) 59 ⟨a5,none,0,(fun _=>(none,0))⟩),he.put hi ac hf rfl [9] ⟨⟨e9,rfl⟩,trivial⟩ ⟨qq,qq,qq,qq,qq,qq,qq,qq,qq,qq,qq,qq,qq,trivial,trivial⟩,?_⟩
   try dsimp only
   rw [aU E 7]
   exact hc
  ·intro E θ a w hD hi hp he hc
   have e3:=hp.o 3 rfl
   have hf:=he.h0.mP he 7 rfl e3
   refine sp 1 hf rfl fun a hf=>zD θ he hi hf 12 rfl rfl rfl hc
  ·intro E θ a w hD hi hp he hc
   have e7:=hp.o 7 rfl
   have hf:=he.h0.mP he 11 rfl e7
   refine sp 1 hf rfl fun a hf=>zD θ he hi hf 13 rfl rfl rfl hc
  ·intro E θ a w ab he hc
   have hf:=he.h0
   have e3:=ab 3 rfl
   have e7:=ab 7 rfl
   have e8:=ab 8 rfl
   have e9:=ab 9 rfl
   replace hf:=hf.more he 13 rfl (onP e9)
   replace hf:=hf.more he 12 rfl (onP e8)
   replace hf:=hf.more he 3 rfl (onT)
   replace hf:=hf.more he 0 rfl (onT)
   try dsimp only at hc
   rw [e3,e7] at hc
   exact ⟨(θ 24).b,(θ 26).b,(θ 27).b,(θ 56).b,(θ 58).b,(θ 59).b,(θ 57).b,(θ 25).b,hf.kp rfl,hc⟩
  rintro a w ⟨g,X,U,k,Z,R,i,Y,hf,hc⟩
  replace hc:=(hc.drop k9).drop k8
  refine h7 _ _ ?_
  refine zS fun K h=>zQ (v:=.agg #[.func (.func 101) #[] #[],.func (.func 102) #[] #[]]) hf hc en_76 rfl (fun w hc=>aDv hc rfl) fun a w hf hc=>zQ (v:=.agg #[.func (.func 103) #[] #[],.func (.func 104) #[] #[]]) hf hc en_77 rfl (fun w hc=>aBz hc rfl) fun a w hf hc=>zA hf hc aDr rfl fun p a w hf hc=>zA hf hc aDr rfl fun q a w hf hc=>zW hf hc aD2 u1 rfl fun w hc=>zW hf hc aD2 u0 rfl fun w hc=>zT h ?_
  refine wp_seq_k fun K9 h9=>zS fun K h=>sp 1 hf rfl fun a hf=>zP hf rfl (bL Tryz.underlying33 rfl) fun a hf=>sp 1 hf rfl fun a hf=>zT h ?_
  refine wp_block ?_
  obtain ⟨ar,a3,hF⟩:=aA hF
  let S11:((List aE) × Int × Int × Int × (Int→Option Int) × (Int→Option Int))→Act→World→Prop:=(fun (zz:(List aE) × Int × Int × Int × (Int→Option Int) × (Int→Option Int)) a w=>∃ (y:Option Addr) (s:Nat),Has 79 a [(9,.slice y zz.1.length s),(10,.func (.func 100) #[] #[pq g,pq X,pq U]),(11,.func (.func 100) #[] #[pq k,pq Z,pq R]),(12,pq p),(13,pq q),(35,.slice J I.length M),(36,i6 ((I.length:Nat):Int)),(37,i6 zz.2.1)]∧Ctx G (.row y s (zz.1.map bC) 28 2::.box q [.func (.func 103) #[] #[],.func (.func 104) #[] #[]] 151::.box p [.func (.func 101) #[] #[],.func (.func 102) #[] #[]] 151::.box R [i6 zz.2.2.2.1] 3::.box Z [.slice D b_.Table.length B,i6 aa.2.1] 32::.box k [.map (some i)] 169::.im i (fun j=>(zz.2.2.2.2.1 j).map (Value.int .i64)) none::.box U [i6 zz.2.2.1] 3::.box X [.slice D b_.Table.length B,i6 z.2.1] 32::.box g [.map (some Y)] 169::.im Y (fun j=>(zz.2.2.2.2.2 j).map (Value.int .i64)) none::Lf) w)
  have a8:∀ (zz:(List aE) × Int × Int × Int × (Int→Option Int) × (Int→Option Int)) a w,ar=.go zz→S11 zz a w→K9 a w:=by
   rintro ⟨out,x,au,aj,mp,am⟩ a w rfl ⟨y,s,hf,hc⟩
   replace hF:=bQ hF
   refine h9 _ _ ?_
   refine wp_seq_k fun K12 bk=>bR ?_
   refine sp 3 hf rfl fun a hf=>aP ?_
   replace hc:=(((((((((hc.drop k10).drop k9).drop k8).drop k7).drop k6).drop k5).drop k4).drop k3).drop k2).drop k1
   refine bk _ _ ?_
   refine wp_ret ?_
   obtain rfl:=sj hF
   exact zO2 Tryz.results37 hf rfl rfl ⟨y,s,rfl,hc⟩
  have bv:∀ r,ar=.out r→r=ag:=by
   rintro r rfl
   exact sj hF
  replace hc:=hc.nilRow 28 2
  refine cX N (cV (S:=S11) (x:=ar) ?_ N (([]:List aE),0,z.2.2,aa.2.2,aa.1,z.1) _ _ ⟨none,0,hf.kp rfl,hc⟩ a3)
  clear hF hf hc
  rintro ⟨out,x,au,aj,mp,am⟩ bu a w KB11 ⟨y,s,hf,hc⟩ hF ak a4
  unfold iP at hF
  refine zS fun K h=>sp 1 hf rfl fun a hf=>zT h ?_
  refine wp_seq_k fun K14 bc=>zI hf rfl hF ?_ ?_ <;> clear hF <;> intro hF
  ·refine wp_skip ?_
   refine bc _ _ ?_
   refine wp_seq_k fun K15 bj=>wp_block ?_
   refine zS fun K h=>?_
   obtain ⟨H,a7,hF⟩:=aA hF
   obtain ⟨bx,o,qa,qp⟩:=af.atm a7
   refine zP hf rfl (pIA Tryz.underlying33 vD rfl rfl qa) fun a hf=>zE hf hc rfl (kG (vs:=[i6 H.Index.Lo,i6 H.Index.Hi,i6 H.Delivered.Lo,i6 H.Delivered.Hi,.bool H.Spill]) zK rfl rfl (cR qp (n:=5) (o':=0) rfl)) fun a w hf hc=>zA hf hc aJv rfl fun m a w hf hc=>zW hf hc vD u0 rfl fun w hc=>zT h ?_
   refine wp_seq_k fun K17 bm=>?_
   obtain ⟨V,a6,hF⟩:=aA hF
   refine dJ (fun θ=>[⟨none,none,9,.slice y out.length s⟩,⟨none,none,10,.func (.func 100) #[] #[pq g,pq X,pq U]⟩,⟨none,none,11,.func (.func 100) #[] #[pq k,pq Z,pq R]⟩,⟨none,none,12,pq p⟩,⟨none,none,13,pq q⟩,⟨none,none,15,pq m⟩,⟨none,none,35,.slice J I.length M⟩,⟨none,none,36,i6 ((I.length:Nat):Int)⟩,⟨none,none,37,i6 x⟩,⟨some 0,none,41,.func (.func 100) #[] #[pq g,pq X,pq U]⟩,⟨some 1,none,42,pq p⟩,⟨some 2,none,43,.func (.func 101) #[] #[]⟩,⟨some 3,none,44,pq m⟩,⟨some 4,none,45,.agg #[i6 H.Index.Lo,i6 H.Index.Hi]⟩,⟨some 5,none,46,i6 (lL H.Index)⟩,⟨some 6,none,47,.pointer (some ⟨p,1,none⟩)⟩,⟨some 7,none,48,.func (.func 102) #[] #[]⟩,⟨some 8,none,49,.pointer (some ⟨m,2,none⟩)⟩,⟨some 9,none,50,.agg #[i6 H.Delivered.Lo,i6 H.Delivered.Hi]⟩,⟨some 10,none,51,i6 (lI H.Delivered)⟩,⟨some 11,none,52,.agg #[i6 (lL H.Index),i6 (lI H.Delivered)]⟩,⟨some 12,none,53,.pointer (some ⟨m,4,none⟩)⟩,⟨some 13,none,54,.bool H.Spill⟩,⟨some 14,none,55,i6 V.1⟩,⟨some 15,none,16,i6 V.1⟩]) (fun E θ=>.box m [i6 H.Index.Lo,i6 H.Index.Hi,i6 H.Delivered.Lo,i6 H.Delivered.Hi,.bool H.Spill] 50::.row y s (out.map bC) 28 2::.box q [.func (.func 103) #[] #[],.func (.func 104) #[] #[]] 151::.box p [.func (.func 101) #[] #[],.func (.func 102) #[] #[]] 151::.box R [i6 aj] 3::.box Z [.slice D b_.Table.length B,i6 aa.2.1] 32::.box k [.map (some i)] 169::.im i (fun j=>(mp j).map (Value.int .i64)) none::(bif E 14 then .box U [i6 V.2.2] 3 else .box U [i6 au] 3)::.box X [.slice D b_.Table.length B,i6 z.2.1] 32::.box g [.map (some Y)] 169::(bif E 14 then .im Y (fun j=>(V.2.1 j).map (Value.int .i64)) none else .im Y (fun j=>(am j).map (Value.int .i64)) none)::Lf) [] (fun a w=>Has 79 a [(9,.slice y out.length s),(10,.func (.func 100) #[] #[pq g,pq X,pq U]),(11,.func (.func 100) #[] #[pq k,pq Z,pq R]),(12,pq p),(13,pq q),(15,pq m),(35,.slice J I.length M),(36,i6 ((I.length:Nat):Int)),(37,i6 x),(16,i6 V.1)]∧Ctx G (.box m [i6 H.Index.Lo,i6 H.Index.Hi,i6 H.Delivered.Lo,i6 H.Delivered.Hi,.bool H.Spill] 50::.row y s (out.map bC) 28 2::.box q [.func (.func 103) #[] #[],.func (.func 104) #[] #[]] 151::.box p [.func (.func 101) #[] #[],.func (.func 102) #[] #[]] 151::.box R [i6 aj] 3::.box Z [.slice D b_.Table.length B,i6 aa.2.1] 32::.box k [.map (some i)] 169::.im i (fun j=>(mp j).map (Value.int .i64)) none::.box U [i6 V.2.2] 3::.box X [.slice D b_.Table.length B,i6 z.2.1] 32::.box g [.map (some Y)] 169::.im Y (fun j=>(V.2.1 j).map (Value.int .i64)) none::Lf) w) aY (by kernel_rfl) (by kernel_rfl) (eY.of hf ⟨rfl,rfl,rfl,rfl,rfl,rfl,rfl,rfl,rfl,trivial,trivial,trivial,trivial,trivial,trivial,trivial,trivial,trivial,trivial,trivial,trivial,trivial,trivial,trivial,trivial,trivial⟩) hc ⟨?_,?_,?_,?_,?_,?_,?_,?_,?_,?_,?_,?_,?_,?_,?_,?_,trivial⟩ ?_ ?_
   ·intro E θ a w hD hi hp he hc
    have hf:=he.h0.mT he 1 rfl
    refine sp 1 hf rfl fun a hf=>zD θ he hi hf 9 rfl rfl rfl hc
   ·intro E θ a w hD hi hp he hc
    have hf:=he.h0.mT he 3 rfl
    refine zP hf rfl (pFA aD6 rfl) fun a hf=>zD θ he hi hf 10 rfl rfl rfl hc
   ·intro E θ a w hD hi hp he hc
    have e1:=hp.o 1 rfl
    have hf:=he.h0.mP he 10 rfl e1
    refine zL hf hc aD1 m3 rfl fun a w hf hc=>zD θ he hi hf 11 rfl rfl rfl hc
   ·intro E θ a w hD hi hp he hc
    have hf:=he.h0.mT he 5 rfl
    refine zP hf rfl (pFA vL rfl) fun a hf=>zD θ he hi hf 12 rfl rfl rfl hc
   ·intro E θ a w hD hi hp he hc
    have e3:=hp.o 3 rfl
    have hf:=he.h0.mP he 12 rfl e3
    refine zN hf hc mL m0 rfl fun a w hf hc=>zD θ he hi hf 13 rfl rfl rfl hc
   ·intro E θ a w hD hi hp he hc
    have e2:=hp.o 2 rfl
    have e4:=hp.o 4 rfl
    have hf:=(he.h0.mP he 11 rfl e2).mP he 13 rfl e4
    refine zQ (v:=i6 (lL H.Index)) hf hc aMf rfl (fun w hc=>aBe H.Index hc rfl) fun a w hf hc=>zD θ he hi hf 14 rfl rfl rfl hc
   ·intro E θ a w hD hi hp he hc
    have hf:=he.h0.mT he 3 rfl
    refine zP hf rfl (pFA aEb rfl) fun a hf=>zD θ he hi hf 15 rfl rfl rfl hc
   ·intro E θ a w hD hi hp he hc
    have e6:=hp.o 6 rfl
    have hf:=he.h0.mP he 15 rfl e6
    refine zL hf hc aD1 m3 rfl fun a w hf hc=>zD θ he hi hf 16 rfl rfl rfl hc
   ·intro E θ a w hD hi hp he hc
    have hf:=he.h0.mT he 5 rfl
    refine zP hf rfl (pFA vV rfl) fun a hf=>zD θ he hi hf 17 rfl rfl rfl hc
   ·intro E θ a w hD hi hp he hc
    have e8:=hp.o 8 rfl
    have hf:=he.h0.mP he 17 rfl e8
    refine zN hf hc mL m0 rfl fun a w hf hc=>zD θ he hi hf 18 rfl rfl rfl hc
   ·intro E θ a w hD hi hp he hc
    have e7:=hp.o 7 rfl
    have e9:=hp.o 9 rfl
    have hf:=(he.h0.mP he 16 rfl e7).mP he 18 rfl e9
    refine zQ (v:=i6 (lI H.Delivered)) hf hc aMj rfl (fun w hc=>aBh H.Delivered hc rfl) fun a w hf hc=>zD θ he hi hf 19 rfl rfl rfl hc
   ·intro E θ a w hD hi hp he hc
    have e5:=hp.o 5 rfl
    have ap:=hp.o 10 rfl
    have hf:=(he.h0.mP he 14 rfl e5).mP he 19 rfl ap
    refine zP hf rfl (bG (cells:=[i6 (lL H.Index),i6 (lI H.Delivered)]) aCc rfl rfl) fun a hf=>zD θ he hi hf 20 rfl rfl rfl hc
   ·intro E θ a w hD hi hp he hc
    have hf:=he.h0.mT he 5 rfl
    refine zP hf rfl (pFA aDq rfl) fun a hf=>zD θ he hi hf 21 rfl rfl rfl hc
   ·intro E θ a w hD hi hp he hc
    have av:=hp.o 12 rfl
    have hf:=he.h0.mP he 21 rfl av
    refine zL hf hc aHq m0 rfl fun a w hf hc=>zD θ he hi hf 22 rfl rfl rfl hc
   ·intro E θ a w hD hi hp he hc
    have e0:=hp.o 0 rfl
    have an:=hp.o 11 rfl
    have ay:=hp.o 13 rfl
    try dsimp only at hc
    rw [hi] at hc
    have hf:=((he.h0.mP he 9 rfl e0).mP he 20 rfl an).mP he 22 rfl ay
    refine zC hf aFm rfl (lQ (⟨(lL H.Index),(lI H.Delivered)⟩:aB) H.Spill am (⟨b_.Table,z.2.1⟩:aH) au d ((((hc.pick k8).pick k9).pick k11).pick k11) a6) ?_
    rintro _ w ⟨rfl,hc⟩
    refine ⟨_,rfl,fun a hf=>?_⟩
    refine aP ?_
    refine bV ?_
    intro ds u ac
    replace hc:=(((((((((((hc.pick k1).pick k1).pick k2).pick k3).pick k11).pick k11).pick k11).pick k11).pick k11).pick k11).pick k11).pick k11
    refine ⟨θ,he.put0 hi ac hf rfl 23 rfl rfl,?_⟩
    try dsimp only
    rw [aU E 14]
    exact hc
   ·intro E θ a w hD hi hp he hc
    have ad:=hp.o 14 rfl
    have hf:=he.h0.mP he 23 rfl ad
    refine sp 1 hf rfl fun a hf=>zD θ he hi hf 24 rfl rfl rfl hc
   ·intro E θ a w ab he hc
    have hf:=he.h0
    have ad:=ab 14 rfl
    have ax:=ab 15 rfl
    replace hf:=hf.more he 24 rfl (onP ax)
    replace hf:=hf.more he 8 rfl (onT)
    replace hf:=hf.more he 7 rfl (onT)
    replace hf:=hf.more he 6 rfl (onT)
    replace hf:=hf.more he 5 rfl (onT)
    replace hf:=hf.more he 4 rfl (onT)
    replace hf:=hf.more he 3 rfl (onT)
    replace hf:=hf.more he 2 rfl (onT)
    replace hf:=hf.more he 1 rfl (onT)
    replace hf:=hf.more he 0 rfl (onT)
    try dsimp only at hc
    rw [ad] at hc
    exact ⟨hf.kp rfl,hc⟩
   rintro a w ⟨hf,hc⟩
   refine bm _ _ ?_
   refine wp_seq_k fun K18 bd=>?_
   obtain ⟨t,a2,hF⟩:=aA hF
   refine dJ (fun θ=>[⟨none,none,9,.slice y out.length s⟩,⟨none,none,10,.func (.func 100) #[] #[pq g,pq X,pq U]⟩,⟨none,none,11,.func (.func 100) #[] #[pq k,pq Z,pq R]⟩,⟨none,none,12,pq p⟩,⟨none,none,13,pq q⟩,⟨none,none,15,pq m⟩,⟨none,none,16,i6 V.1⟩,⟨none,none,35,.slice J I.length M⟩,⟨none,none,36,i6 ((I.length:Nat):Int)⟩,⟨none,none,37,i6 x⟩,⟨some 0,none,56,.func (.func 100) #[] #[pq k,pq Z,pq R]⟩,⟨some 1,none,57,pq q⟩,⟨some 2,none,58,.func (.func 103) #[] #[]⟩,⟨some 3,none,59,pq m⟩,⟨some 4,none,60,.agg #[i6 H.Index.Lo,i6 H.Index.Hi]⟩,⟨some 5,none,61,i6 (kB H.Index)⟩,⟨some 6,none,62,.pointer (some ⟨q,1,none⟩)⟩,⟨some 7,none,63,.func (.func 104) #[] #[]⟩,⟨some 8,none,64,.pointer (some ⟨m,2,none⟩)⟩,⟨some 9,none,65,.agg #[i6 H.Delivered.Lo,i6 H.Delivered.Hi]⟩,⟨some 10,none,66,i6 (kP H.Delivered)⟩,⟨some 11,none,67,.agg #[i6 (kB H.Index),i6 (kP H.Delivered)]⟩,⟨some 12,none,68,.pointer (some ⟨m,4,none⟩)⟩,⟨some 13,none,69,.bool H.Spill⟩,⟨some 14,none,70,i6 t.1⟩,⟨some 15,none,17,i6 t.1⟩]) (fun E θ=>.box m [i6 H.Index.Lo,i6 H.Index.Hi,i6 H.Delivered.Lo,i6 H.Delivered.Hi,.bool H.Spill] 50::.row y s (out.map bC) 28 2::.box q [.func (.func 103) #[] #[],.func (.func 104) #[] #[]] 151::.box p [.func (.func 101) #[] #[],.func (.func 102) #[] #[]] 151::(bif E 14 then .box R [i6 t.2.2] 3 else .box R [i6 aj] 3)::.box Z [.slice D b_.Table.length B,i6 aa.2.1] 32::.box k [.map (some i)] 169::(bif E 14 then .im i (fun j=>(t.2.1 j).map (Value.int .i64)) none else .im i (fun j=>(mp j).map (Value.int .i64)) none)::.box U [i6 V.2.2] 3::.box X [.slice D b_.Table.length B,i6 z.2.1] 32::.box g [.map (some Y)] 169::.im Y (fun j=>(V.2.1 j).map (Value.int .i64)) none::Lf) [] (fun a w=>Has 79 a [(9,.slice y out.length s),(10,.func (.func 100) #[] #[pq g,pq X,pq U]),(11,.func (.func 100) #[] #[pq k,pq Z,pq R]),(12,pq p),(13,pq q),(16,i6 V.1),(35,.slice J I.length M),(36,i6 ((I.length:Nat):Int)),(37,i6 x),(17,i6 t.1)]∧Ctx G (.box m [i6 H.Index.Lo,i6 H.Index.Hi,i6 H.Delivered.Lo,i6 H.Delivered.Hi,.bool H.Spill] 50::.row y s (out.map bC) 28 2::.box q [.func (.func 103) #[] #[],.func (.func 104) #[] #[]] 151::.box p [.func (.func 101) #[] #[],.func (.func 102) #[] #[]] 151::.box R [i6 t.2.2] 3::.box Z [.slice D b_.Table.length B,i6 aa.2.1] 32::.box k [.map (some i)] 169::.im i (fun j=>(t.2.1 j).map (Value.int .i64)) none::.box U [i6 V.2.2] 3::.box X [.slice D b_.Table.length B,i6 z.2.1] 32::.box g [.map (some Y)] 169::.im Y (fun j=>(V.2.1 j).map (Value.int .i64)) none::Lf) w) aY (by kernel_rfl) (by kernel_rfl) (eY.of hf ⟨rfl,rfl,rfl,rfl,rfl,rfl,rfl,rfl,rfl,rfl,trivial,trivial,trivial,trivial,trivial,trivial,trivial,trivial,trivial,trivial,trivial,trivial,trivial,trivial,trivial,trivial,trivial⟩) hc ⟨?_,?_,?_,?_,?_,?_,?_,?_,?_,?_,?_,?_,?_,?_,?_,?_,trivial⟩ ?_ ?_
   ·intro E θ a w hD hi hp he hc
    have hf:=he.h0.mT he 2 rfl
    refine sp 1 hf rfl fun a hf=>zD θ he hi hf 10 rfl rfl rfl hc
   ·intro E θ a w hD hi hp he hc
    have hf:=he.h0.mT he 4 rfl
    refine zP hf rfl (pFA aD6 rfl) fun a hf=>zD θ he hi hf 11 rfl rfl rfl hc
   ·intro E θ a w hD hi hp he hc
    have e1:=hp.o 1 rfl
    have hf:=he.h0.mP he 11 rfl e1
    refine zL hf hc aD1 m2 rfl fun a w hf hc=>zD θ he hi hf 12 rfl rfl rfl hc
   ·intro E θ a w hD hi hp he hc
    have hf:=he.h0.mT he 5 rfl
    refine zP hf rfl (pFA vL rfl) fun a hf=>zD θ he hi hf 13 rfl rfl rfl hc
   ·intro E θ a w hD hi hp he hc
    have e3:=hp.o 3 rfl
    have hf:=he.h0.mP he 13 rfl e3
    refine zN hf hc mL m0 rfl fun a w hf hc=>zD θ he hi hf 14 rfl rfl rfl hc
   ·intro E θ a w hD hi hp he hc
    have e2:=hp.o 2 rfl
    have e4:=hp.o 4 rfl
    have hf:=(he.h0.mP he 12 rfl e2).mP he 14 rfl e4
    refine zQ (v:=i6 (kB H.Index)) hf hc aMu rfl (fun w hc=>zR H.Index hc rfl) fun a w hf hc=>zD θ he hi hf 15 rfl rfl rfl hc
   ·intro E θ a w hD hi hp he hc
    have hf:=he.h0.mT he 4 rfl
    refine zP hf rfl (pFA aEb rfl) fun a hf=>zD θ he hi hf 16 rfl rfl rfl hc
   ·intro E θ a w hD hi hp he hc
    have e6:=hp.o 6 rfl
    have hf:=he.h0.mP he 16 rfl e6
    refine zL hf hc aD1 m2 rfl fun a w hf hc=>zD θ he hi hf 17 rfl rfl rfl hc
   ·intro E θ a w hD hi hp he hc
    have hf:=he.h0.mT he 5 rfl
    refine zP hf rfl (pFA vV rfl) fun a hf=>zD θ he hi hf 18 rfl rfl rfl hc
   ·intro E θ a w hD hi hp he hc
    have e8:=hp.o 8 rfl
    have hf:=he.h0.mP he 18 rfl e8
    refine zN hf hc mL m0 rfl fun a w hf hc=>zD θ he hi hf 19 rfl rfl rfl hc
   ·intro E θ a w hD hi hp he hc
    have e7:=hp.o 7 rfl
    have e9:=hp.o 9 rfl
    have hf:=(he.h0.mP he 17 rfl e7).mP he 19 rfl e9
    refine zQ (v:=i6 (kP H.Delivered)) hf hc aMx rfl (fun w hc=>zO H.Delivered hc rfl) fun a w hf hc=>zD θ he hi hf 20 rfl rfl rfl hc
   ·intro E θ a w hD hi hp he hc
    have e5:=hp.o 5 rfl
    have ap:=hp.o 10 rfl
    have hf:=(he.h0.mP he 15 rfl e5).mP he 20 rfl ap
    refine zP hf rfl (bG (cells:=[i6 (kB H.Index),i6 (kP H.Delivered)]) aCc rfl rfl) fun a hf=>zD θ he hi hf 21 rfl rfl rfl hc
   ·intro E θ a w hD hi hp he hc
    have hf:=he.h0.mT he 5 rfl
    refine zP hf rfl (pFA aDq rfl) fun a hf=>zD θ he hi hf 22 rfl rfl rfl hc
   ·intro E θ a w hD hi hp he hc
    have av:=hp.o 12 rfl
    have hf:=he.h0.mP he 22 rfl av
    refine zL hf hc aHq m0 rfl fun a w hf hc=>zD θ he hi hf 23 rfl rfl rfl hc
   ·intro E θ a w hD hi hp he hc
    have e0:=hp.o 0 rfl
    have an:=hp.o 11 rfl
    have ay:=hp.o 13 rfl
    try dsimp only at hc
    rw [hi] at hc
    have hf:=((he.h0.mP he 10 rfl e0).mP he 21 rfl an).mP he 23 rfl ay
    refine zC hf aFm rfl (lQ (⟨(kB H.Index),(kP H.Delivered)⟩:aB) H.Spill mp (⟨b_.Table,aa.2.1⟩:aH) aj d ((((hc.pick k4).pick k5).pick k7).pick k7) a2) ?_
    rintro _ w ⟨rfl,hc⟩
    refine ⟨_,rfl,fun a hf=>?_⟩
    refine aP ?_
    refine bV ?_
    intro ds u ac
    replace hc:=(((((((hc.pick k1).pick k1).pick k2).pick k3).pick k7).pick k7).pick k7).pick k7
    refine ⟨θ,he.put0 hi ac hf rfl 24 rfl rfl,?_⟩
    try dsimp only
    rw [aU E 14]
    exact hc
   ·intro E θ a w hD hi hp he hc
    have ad:=hp.o 14 rfl
    have hf:=he.h0.mP he 24 rfl ad
    refine sp 1 hf rfl fun a hf=>zD θ he hi hf 25 rfl rfl rfl hc
   ·intro E θ a w ab he hc
    have hf:=he.h0
    have ad:=ab 14 rfl
    have ax:=ab 15 rfl
    replace hf:=hf.more he 25 rfl (onP ax)
    replace hf:=hf.more he 9 rfl (onT)
    replace hf:=hf.more he 8 rfl (onT)
    replace hf:=hf.more he 7 rfl (onT)
    replace hf:=hf.more he 6 rfl (onT)
    replace hf:=hf.more he 4 rfl (onT)
    replace hf:=hf.more he 3 rfl (onT)
    replace hf:=hf.more he 2 rfl (onT)
    replace hf:=hf.more he 1 rfl (onT)
    replace hf:=hf.more he 0 rfl (onT)
    try dsimp only at hc
    rw [ad] at hc
    exact ⟨hf.kp rfl,hc⟩
   rintro a w ⟨hf,hc⟩
   replace hc:=hc.drop k0
   refine bd _ _ ?_
   refine bR ?_
   refine sp 3 hf rfl fun a hf=>zP hf rfl (bG (cells:=[i6 V.1,i6 t.1]) tF rfl rfl) fun a hf=>gV (rows:=([(⟨V.1,t.1⟩:aE)]:List aE).map bC) (vs:=[(0,.agg #[i6 V.1,i6 t.1])]) hf hc rfl rfl wF rfl ⟨rfl,rfl,rfl,trivial⟩ rfl rfl fun bt a w hf hc=>?_
   obtain ⟨un,bi,hF⟩:=aA hF
   refine iV (xs:=out) (ys:=([(⟨V.1,t.1⟩:aE)]:List aE)) hf hc rfl rfl wF rfl rfl rfl rfl rfl nH (fA hc m0) (fun _ _=>u1) (by simpa using cB bi) fun br bq a w hf hc=>sp 1 hf rfl fun a hf=>aP ?_
   replace hc:=hc.drop k0
   refine bj _ _ ?_
   refine bR ?_
   refine sp 2 hf rfl fun a hf=>aP ?_
   exact a4 ((out++[(⟨V.1,t.1⟩:aE)]),W (x + 1),V.2.2,t.2.2,t.2.1,V.2.1) _ _ (sj hF).symm ⟨br,bq,hf.kp rfl,hc⟩
  ·refine wp_exit ?_
   refine bE ?_
   refine bE ?_
   have he:=sj hF
   rw [← he] at ak
   refine eX ?_
   exact a8 _ _ _ ak ⟨y,s,hf.kp rfl,hc⟩

def cF (N:Nat) (a_:List Int) (b_:List Int) (B:Int):Option (bH (Int) (Bool)) :=
 cond (decide (B < ((a_.length:Nat):Int)))
 (Option.bind (aZ a_ B) fun H=>
 Option.bind (aZ b_ B) fun D=>
 cond (H != D)
 (some (.ret false))
 (some (.cont (W (B + 1)))))
 (some (.brk B))
def cK (N:Nat) (a_:List Int) (b_:List Int):Option (Bool) :=
 cond (((a_.length:Nat):Int) != ((b_.length:Nat):Int))
 (some false)
 (Option.bind (aT (fun s7=>cF N a_ b_ s7) N 0) fun x7=>
 exK x7 (fun s7=>some true) some)
theorem dP {N:Nat} {G:bA} {Lf:List Ent} {w:World} (a_:List Int) (b_:List Int) {D:Option Addr} {H:Nat} {I:Option Addr} {J:Nat} (Z:Rd G 1 D H (a_.map aD)) (V:Rd G 1 I J (b_.map aD)) (hc:Ctx G (Lf) w) {M:Bool} (hF:cK N a_ b_=some M):Calls Tryz.prog 14 #[.slice D a_.length H,.slice I b_.length J] w (fun e w=>e=.returned (.bool M)∧Ctx G (Lf) w):=by
 unfold cK at hF
 refine cG Tryz.func14 rfl Tryz.ntmps14 rfl fun a hf=>zS fun K h=>sp 1 hf rfl fun a hf=>zT h ?_
 refine wp_seq_k fun K2 h2=>zS fun K h=>sp 1 hf rfl fun a hf=>zP hf rfl (bL Tryz.underlying22 rfl) fun a hf=>sp 1 hf rfl fun a hf=>zP hf rfl (bL Tryz.underlying22 rfl) fun a hf=>sp 1 hf rfl fun a hf=>zT h ?_
 refine zI hf rfl hF ?_ ?_ <;> clear hF <;> intro hF
 ·refine zS fun K h=>sp 1 hf rfl fun a hf=>zT h ?_
  refine wp_ret ?_
  refine aN ?_
  obtain rfl:=sj hF
  exact zO1 Tryz.results14 hf rfl ⟨rfl,hc⟩
 ·refine wp_skip ?_
  refine h2 _ _ ?_
  refine wp_seq_k fun K5 h5=>zS fun K h=>sp 1 hf rfl fun a hf=>zT h ?_
  refine wp_block ?_
  obtain ⟨x7,k,hF⟩:=aA hF
  let S7:Int→Act→World→Prop:=(fun (zz:Int) a w=>Has 26 a [(0,.slice D a_.length H),(1,.slice I b_.length J),(5,i6 zz)]∧Ctx G (Lf) w)
  have i:∀ (zz:Int) a w,x7=.go zz→S7 zz a w→K5 a w:=by
   rintro O a w rfl ⟨hf,hc⟩
   replace hF:=bQ hF
   refine h5 _ _ ?_
   refine zS fun K h=>sp 1 hf rfl fun a hf=>zT h ?_
   refine wp_ret ?_
   obtain rfl:=sj hF
   exact zO1 Tryz.results14 hf rfl ⟨rfl,hc⟩
  have m:∀ r,x7=.out r→r=M:=by
   rintro r rfl
   exact sj hF
  refine cX N (cV (S:=S7) (x:=x7) ?_ N 0 _ _ ⟨hf.kp rfl,hc⟩ k)
  clear hF hf hc
  rintro O q a w KB7 ⟨hf,hc⟩ hF B d
  unfold cF at hF
  refine wp_seq_k fun K9 h9=>zS fun K h=>sp 2 hf rfl fun a hf=>zP hf rfl (bL Tryz.underlying22 rfl) fun a hf=>sp 1 hf rfl fun a hf=>zT h ?_
  refine zI hf rfl hF ?_ ?_ <;> clear hF <;> intro hF
  ·refine wp_skip ?_
   refine h9 _ _ ?_
   refine wp_seq_k fun K11 b=>wp_block ?_
   refine wp_seq_k fun K12 g=>?_
   obtain ⟨u,R,hF⟩:=aA hF
   obtain ⟨s,o,qa,qp⟩:=Z.atm R
   obtain ⟨t,U,hF⟩:=aA hF
   obtain ⟨n,p,Y,X⟩:=V.atm U
   refine cQ hc aY (by kernel_rfl) ?_
   refine qE hf rfl rfl rfl (Pu.ev (pM rfl)) fun a hf=>qE hf rfl rfl rfl (Pu.ev (pM rfl)) fun a hf=>qE hf rfl rfl rfl (Pu.ev (pIA Tryz.underlying22 cY rfl rfl qa)) fun a hf=>qE hf rfl rfl rfl (bP bB rfl (bK (j:=0) qp rfl)) fun a hf=>qE hf rfl rfl rfl (Pu.ev (pM rfl)) fun a hf=>qE hf rfl rfl rfl (Pu.ev (pM rfl)) fun a hf=>qE hf rfl rfl rfl (Pu.ev (pIA Tryz.underlying22 cY rfl rfl Y)) fun a hf=>qE hf rfl rfl rfl (bP bB rfl (bK (j:=0) X rfl)) fun a hf=>qE hf rfl rfl rfl (Pu.ev (pNe rfl rfl)) fun a hf=>?_
   intro w hc
   refine g _ _ ?_
   refine zI hf rfl hF ?_ ?_ <;> clear hF <;> intro hF
   ·refine zS fun K h=>sp 1 hf rfl fun a hf=>zT h ?_
    refine wp_ret ?_
    refine bI ?_
    refine aN ?_
    refine aN ?_
    have he:=sj hF
    rw [← he] at B
    replace hF:=m _ B
    refine bI ?_
    refine aN ?_
    obtain rfl:=hF
    exact zO1 Tryz.results14 hf rfl ⟨rfl,hc⟩
   ·refine wp_skip ?_
    refine b _ _ ?_
    refine bR ?_
    refine sp 3 hf rfl fun a hf=>aP ?_
    exact d (W (O + 1)) _ _ (sj hF).symm ⟨hf.kp rfl,hc⟩
  ·refine wp_exit ?_
   refine bE ?_
   refine bE ?_
   have he:=sj hF
   rw [← he] at B
   refine eX ?_
   exact i _ _ _ B ⟨hf.kp rfl,hc⟩

def cE (N:Nat) (a_:List aE) (b_:List aE) (B:Int):Option (bH (Int) (Bool)) :=
 cond (decide (B < ((a_.length:Nat):Int)))
 (Option.bind (aZ a_ B) fun H=>
 Option.bind (aZ b_ B) fun D=>
 cond (!(H.Lo == D.Lo && H.Hi == D.Hi))
 (some (.ret false))
 (some (.cont (W (B + 1)))))
 (some (.brk B))
def dY (N:Nat) (a_:List aE) (b_:List aE):Option (Bool) :=
 cond (((a_.length:Nat):Int) != ((b_.length:Nat):Int))
 (some false)
 (Option.bind (aT (fun s7=>cE N a_ b_ s7) N 0) fun x7=>
 exK x7 (fun s7=>some true) some)
theorem kL {N:Nat} {G:bA} {Lf:List Ent} {w:World} (a_:List aE) (b_:List aE) {D:Option Addr} {H:Nat} {I:Option Addr} {J:Nat} (d:Rd G 2 D H (a_.map bC)) (Y:Rd G 2 I J (b_.map bC)) (hc:Ctx G (Lf) w) {M:Bool} (hF:dY N a_ b_=some M):Calls Tryz.prog 23 #[.slice D a_.length H,.slice I b_.length J] w (fun e w=>e=.returned (.bool M)∧Ctx G (Lf) w):=by
 unfold dY at hF
 refine cG Tryz.func23 rfl Tryz.ntmps23 rfl fun a hf=>zS fun K h=>sp 1 hf rfl fun a hf=>zT h ?_
 refine wp_seq_k fun K2 h2=>zS fun K h=>sp 1 hf rfl fun a hf=>zP hf rfl (bL Tryz.underlying71 rfl) fun a hf=>sp 1 hf rfl fun a hf=>zP hf rfl (bL Tryz.underlying71 rfl) fun a hf=>sp 1 hf rfl fun a hf=>zT h ?_
 refine zI hf rfl hF ?_ ?_ <;> clear hF <;> intro hF
 ·refine zS fun K h=>sp 1 hf rfl fun a hf=>zT h ?_
  refine wp_ret ?_
  refine aN ?_
  obtain rfl:=sj hF
  exact zO1 Tryz.results23 hf rfl ⟨rfl,hc⟩
 ·refine wp_skip ?_
  refine h2 _ _ ?_
  refine wp_seq_k fun K5 h5=>zS fun K h=>sp 1 hf rfl fun a hf=>zT h ?_
  refine wp_block ?_
  obtain ⟨x7,m,hF⟩:=aA hF
  let S7:Int→Act→World→Prop:=(fun (zz:Int) a w=>Has 26 a [(0,.slice D a_.length H),(1,.slice I b_.length J),(5,i6 zz)]∧Ctx G (Lf) w)
  have k:∀ (zz:Int) a w,x7=.go zz→S7 zz a w→K5 a w:=by
   rintro O a w rfl ⟨hf,hc⟩
   replace hF:=bQ hF
   refine h5 _ _ ?_
   refine zS fun K h=>sp 1 hf rfl fun a hf=>zT h ?_
   refine wp_ret ?_
   obtain rfl:=sj hF
   exact zO1 Tryz.results23 hf rfl ⟨rfl,hc⟩
  have p:∀ r,x7=.out r→r=M:=by
   rintro r rfl
   exact sj hF
  refine cX N (cV (S:=S7) (x:=x7) ?_ N 0 _ _ ⟨hf.kp rfl,hc⟩ m)
  clear hF hf hc
  rintro O t a w KB7 ⟨hf,hc⟩ hF B i
  unfold cE at hF
  refine wp_seq_k fun K9 h9=>zS fun K h=>sp 2 hf rfl fun a hf=>zP hf rfl (bL Tryz.underlying71 rfl) fun a hf=>sp 1 hf rfl fun a hf=>zT h ?_
  refine zI hf rfl hF ?_ ?_ <;> clear hF <;> intro hF
  ·refine wp_skip ?_
   refine h9 _ _ ?_
   refine wp_seq_k fun K11 g=>wp_block ?_
   refine wp_seq_k fun K12 j=>?_
   obtain ⟨U,V,hF⟩:=aA hF
   obtain ⟨u,o,qa,qp⟩:=d.atm V
   obtain ⟨R,X,hF⟩:=aA hF
   obtain ⟨q,s,b,Z⟩:=Y.atm X
   refine cQ hc aY (by kernel_rfl) ?_
   refine qE hf rfl rfl rfl (Pu.ev (pM rfl)) fun a hf=>qE hf rfl rfl rfl (Pu.ev (pM rfl)) fun a hf=>qE hf rfl rfl rfl (Pu.ev (pIA Tryz.underlying71 aBu rfl rfl qa)) fun a hf=>qE hf rfl rfl rfl (kG (vs:=[i6 U.Lo,i6 U.Hi]) mL rfl rfl (cR qp (n:=2) (o':=0) rfl)) fun a hf=>qE hf rfl rfl rfl (Pu.ev (pM rfl)) fun a hf=>qE hf rfl rfl rfl (Pu.ev (pM rfl)) fun a hf=>qE hf rfl rfl rfl (Pu.ev (pIA Tryz.underlying71 aBu rfl rfl b)) fun a hf=>qE hf rfl rfl rfl (kG (vs:=[i6 R.Lo,i6 R.Hi]) mL rfl rfl (cR Z (n:=2) (o':=0) rfl)) fun a hf=>qE hf rfl rfl rfl (Pu.ev (aEi ge_28 rfl rfl (aLm _ _ _ _))) fun a hf=>?_
   intro w hc
   refine j _ _ ?_
   refine zI hf rfl hF ?_ ?_ <;> clear hF <;> intro hF
   ·refine zS fun K h=>sp 1 hf rfl fun a hf=>zT h ?_
    refine wp_ret ?_
    refine bI ?_
    refine aN ?_
    refine aN ?_
    have he:=sj hF
    rw [← he] at B
    replace hF:=p _ B
    refine bI ?_
    refine aN ?_
    obtain rfl:=hF
    exact zO1 Tryz.results23 hf rfl ⟨rfl,hc⟩
   ·refine wp_skip ?_
    refine g _ _ ?_
    refine bR ?_
    refine sp 3 hf rfl fun a hf=>aP ?_
    exact i (W (O + 1)) _ _ (sj hF).symm ⟨hf.kp rfl,hc⟩
  ·refine wp_exit ?_
   refine bE ?_
   refine bE ?_
   have he:=sj hF
   rw [← he] at B
   refine eX ?_
   exact k _ _ _ B ⟨hf.kp rfl,hc⟩

def kQ (x:Int):Bool :=
 (!(bD x))
theorem uK {G:bA} {Lf:List Ent} {w:World} (x:Int) {b_:Nat}  (hc:Ctx G (.box b_ [.func (.func 51) #[] #[]] 113::Lf) w) {B:Bool} (hF:kQ x=B):Calls Tryz.prog 88 #[i6 x,pq b_] w (fun e w=>e=.returned (.bool B)∧Ctx G (.box b_ [.func (.func 51) #[] #[]] 113::Lf) w):=by
 unfold kQ at hF
 refine cG Tryz.func88 rfl Tryz.ntmps88 rfl fun a hf=>zS fun K h=>sp 1 hf rfl fun a hf=>zT h ?_
 refine zS fun K h=>zL hf hc aF7 m0 rfl fun a w hf hc=>sp 1 hf rfl fun a hf=>zQ (v:=.bool (bD x)) hf hc wE rfl (fun w hc=>fI x hc rfl) fun a w hf hc=>sp 2 hf rfl fun a hf=>zT h ?_
 refine wp_ret ?_
 obtain rfl:=hF
 exact zO1 Tryz.results88 hf rfl ⟨rfl,hc⟩

def mB (N:Nat) (s_:List Int) (x:Int):Option (bH (Int) (Int)) :=
 cond (decide (x < ((s_.length:Nat):Int)))
 (Option.bind (aZ s_ x) fun B=>
 cond (kQ B)
 (some (.ret x))
 (some (.cont (W (x + 1)))))
 (some (.brk x))
def gN (N:Nat) (s_:List Int):Option (Int) :=
 Option.bind (aT (fun s4=>mB N s_ s4) N 0) fun x4=>
 exK x4 (fun s4=>some (-1)) some
theorem qI {N:Nat} {G:bA} {Lf:List Ent} {w:World} (s_:List Int) {D:Option Addr} {H:Nat} {b_:Nat} (O:Rd G 1 D H (s_.map aD)) (hc:Ctx G (.box b_ [.func (.func 51) #[] #[]] 113::Lf) w) {I:Int} (hF:gN N s_=some I):Calls Tryz.prog 106 #[.slice D s_.length H,.func (.func 88) #[] #[pq b_]] w (fun e w=>e=.returned (i6 I)∧Ctx G (.box b_ [.func (.func 51) #[] #[]] 113::Lf) w):=by
 unfold gN at hF
 refine cG Tryz.func106 rfl Tryz.ntmps106 rfl fun a hf=>zS fun K h=>sp 1 hf rfl fun a hf=>zT h ?_
 refine wp_seq_k fun K2 h2=>zS fun K h=>sp 1 hf rfl fun a hf=>zP hf rfl (bL Tryz.underlying22 rfl) fun a hf=>sp 1 hf rfl fun a hf=>zT h ?_
 refine wp_block ?_
 obtain ⟨x4,R,hF⟩:=aA hF
 let S4:Int→Act→World→Prop:=(fun (zz:Int) a w=>Has 19 a [(0,.slice D s_.length H),(1,.func (.func 88) #[] #[pq b_]),(7,i6 ((s_.length:Nat):Int)),(8,i6 zz)]∧Ctx G (.box b_ [.func (.func 51) #[] #[]] 113::Lf) w)
 have V:∀ (zz:Int) a w,x4=.go zz→S4 zz a w→K2 a w:=by
  rintro x a w rfl ⟨hf,hc⟩
  replace hF:=bQ hF
  refine h2 _ _ ?_
  refine zS fun K h=>sp 1 hf rfl fun a hf=>zT h ?_
  refine wp_ret ?_
  obtain rfl:=sj hF
  exact zO1 Tryz.results106 hf rfl ⟨rfl,hc⟩
 have X:∀ r,x4=.out r→r=I:=by
  rintro r rfl
  exact sj hF
 refine cX N (cV (S:=S4) (x:=x4) ?_ N 0 _ _ ⟨hf.kp rfl,hc⟩ R)
 clear hF hf hc
 rintro x Z a w KB4 ⟨hf,hc⟩ hF B U
 unfold mB at hF
 refine zS fun K h=>sp 1 hf rfl fun a hf=>zT h ?_
 refine wp_seq_k fun K7 h7=>zI hf rfl hF ?_ ?_ <;> clear hF <;> intro hF
 ·refine wp_skip ?_
  refine h7 _ _ ?_
  refine wp_seq_k fun K8 h8=>wp_block ?_
  refine zS fun K h=>sp 2 hf rfl fun a hf=>zT h ?_
  refine zS fun K h=>sp 3 hf rfl fun a hf=>?_
  obtain ⟨J,M,hF⟩:=aA hF
  obtain ⟨Y,o,qa,qp⟩:=O.atm M
  refine zP hf rfl (pIA Tryz.underlying22 cY rfl rfl qa) fun a hf=>zE hf hc rfl (bP bB rfl (bK (j:=0) qp rfl)) fun a w hf hc=>zQ (v:=.bool (kQ J)) hf hc aJn rfl (fun w hc=>(uK J (hc.pick k0) rfl).mono fun e w h=>⟨h.1,(h.2.unpick k0)⟩) fun a w hf hc=>zT h ?_
  refine zI hf rfl hF ?_ ?_ <;> clear hF <;> intro hF
  ·refine zS fun K h=>sp 2 hf rfl fun a hf=>zT h ?_
   refine wp_ret ?_
   refine bI ?_
   refine aN ?_
   refine aN ?_
   have he:=sj hF
   rw [← he] at B
   replace hF:=X _ B
   refine bI ?_
   refine aN ?_
   obtain rfl:=hF
   exact zO1 Tryz.results106 hf rfl ⟨rfl,hc⟩
  ·refine wp_skip ?_
   refine h8 _ _ ?_
   refine bR ?_
   refine sp 2 hf rfl fun a hf=>aP ?_
   exact U (W (x + 1)) _ _ (sj hF).symm ⟨hf.kp rfl,hc⟩
 ·refine wp_exit ?_
  refine bE ?_
  refine bE ?_
  have he:=sj hF
  rw [← he] at B
  refine eX ?_
  exact V _ _ _ B ⟨hf.kp rfl,hc⟩

def fL (N:Nat) (s_:List Int):Option (Bool) :=
 Option.bind (gN N s_) fun r=>
 some (decide (0≤r))
theorem pB {N:Nat} {G:bA} {Lf:List Ent} {w:World} (s_:List Int) {D:Option Addr} {B:Nat} {b_:Nat} (I:Rd G 1 D B (s_.map aD)) (hc:Ctx G (.box b_ [.func (.func 51) #[] #[]] 113::Lf) w) {H:Bool} (hF:fL N s_=some H):Calls Tryz.prog 87 #[.slice D s_.length B,.func (.func 88) #[] #[pq b_]] w (fun e w=>e=.returned (.bool H)∧Ctx G (.box b_ [.func (.func 51) #[] #[]] 113::Lf) w):=by
 unfold fL at hF
 refine cG Tryz.func87 rfl Tryz.ntmps87 rfl fun a hf=>zS fun K h=>sp 1 hf rfl fun a hf=>zT h ?_
 refine zS fun K h=>sp 2 hf rfl fun a hf=>?_
 obtain ⟨r,hr,hF⟩:=aA hF
 refine zQ (v:=i6 r) hf hc aF9 rfl (fun w hc=>(qI s_ I (hc.pick k0) hr).mono fun e w h=>⟨h.1,(h.2.unpick k0)⟩) fun a w hf hc=>sp 2 hf rfl fun a hf=>zT h ?_
 refine wp_ret ?_
 obtain rfl:=sj hF
 exact zO1 Tryz.results87 hf rfl ⟨rfl,hc⟩

def lZ (N:Nat) (l:List Int):Option (Bool) :=
 Option.bind (fL N l) fun r=>
 some (!r)
theorem wK {N:Nat} {G:bA} {Lf:List Ent} {w:World} (l:List Int) {H:Option Addr} {B:Nat} (J:Rd G 1 H B (l.map aD)) (hc:Ctx G (Lf) w) {D:Bool} (hF:lZ N l=some D):Calls Tryz.prog 53 #[.slice H l.length B,.func (.func 51) #[] #[]] w (fun e w=>e=.returned (.bool D)∧Ctx G (Lf) w):=by
 unfold lZ at hF
 refine cG Tryz.func53 rfl Tryz.ntmps53 rfl fun a hf=>zS fun K h=>zB hf hc rfl fun I a w hf hc=>sp 1 hf rfl fun a hf=>zT h ?_
 refine zS fun K h=>sp 1 hf rfl fun a hf=>zP hf rfl (pMF (us:=[pq I]) rfl rfl) fun a hf=>?_
 obtain ⟨r,hr,hF⟩:=aA hF
 refine zQ (v:=.bool r) hf hc aJc rfl (fun w hc=>(pB l J (hc.pick k0) hr).mono fun e w h=>⟨h.1,(h.2.unpick k0)⟩) fun a w hf hc=>sp 2 hf rfl fun a hf=>zT h ?_
 refine wp_ret ?_
 obtain rfl:=sj hF
 replace hc:=hc.drop k0
 exact zO1 Tryz.results53 hf rfl ⟨rfl,hc⟩

def bM (N:Nat) (p_:bU) (B:Int) (out:List Int) (x:Int):Option (bH (Int × (List Int) × Int) ((List Int) × Int)) :=
 cond (decide (x < ((p_.Can.length:Nat):Int)))
 (Option.bind (aZ p_.Can x) fun D=>
 cond (B == 0)
 (some (.brk (B,out,x)))
 (Option.bind (nz p_.Part) fun un=>
 Option.bind (jE ((out++[min (min B D) (max p_.Least (W ((W ((W (B + p_.Part)) - 1)).tdiv p_.Part)))])).length) fun H=>
 some (.cont (W (B - (min (min B D) (max p_.Least (W ((W ((W (B + p_.Part)) - 1)).tdiv p_.Part))))),(out++[min (min B D) (max p_.Least (W ((W ((W (B + p_.Part)) - 1)).tdiv p_.Part)))]),W (x + 1)))))
 (some (.brk (B,out,x)))
def fZ (N:Nat) (debt:Int) (p_:bU):Option ((List Int) × Int) :=
 cond (!(bD debt))
 (some (([]:List Int),4))
 (cond (decide (40 < ((p_.Can.length:Nat):Int)))
 (some (([]:List Int),3))
 (Option.bind (cond ((!(aQ p_.Least 1 1000000000)) || (!(aQ p_.Part 1 100))) (some true) (Option.bind (lZ N p_.Can) fun r=>
 some (!r))) fun D=>
 cond D
 (some (([]:List Int),100))
 (Option.bind (aT (fun B=>bM N p_ B.1 B.2.1 B.2.2) N (debt,([]:List Int),0)) fun H=>
 exK H (fun B=>cond (decide (0 < B.1))
 (some (([]:List Int),5))
 (some (B.2.1,0))) some)))
theorem pJ {N:Nat} {G:bA} {Lf:List Ent} {w:World} (debt:Int) (p_:bU) {D:Option Addr} {H:Nat} (O:Rd G 1 D H (p_.Can.map aD)) (hc:Ctx G (Lf) w) {U:(List Int) × Int} (hF:fZ N debt p_=some U):Calls Tryz.prog 10 #[i6 debt,.agg #[i6 p_.Least,i6 p_.Part,.slice D p_.Can.length H]] w (fun e w=>∃ (d:Option Addr) (g:Nat),e=.returned (.tuple #[.slice d U.1.length g,i6 U.2])∧Ctx G (.row d g (U.1.map aD) 3 1::Lf) w):=by
 unfold fZ at hF
 refine cG Tryz.func10 rfl Tryz.ntmps10 rfl fun a hf=>zS fun K h=>zB hf hc rfl fun R a w hf hc=>sp 2 hf rfl fun a hf=>zT h ?_
 refine wp_seq_k fun K2 h2=>wp_block ?_
 refine zS fun K h=>sp 1 hf rfl fun a hf=>zQ (v:=.bool (bD debt)) hf hc wE rfl (fun w hc=>fI debt hc rfl) fun a w hf hc=>sp 2 hf rfl fun a hf=>zT h ?_
 refine zI hf rfl hF ?_ ?_ <;> clear hF <;> intro hF
 ·refine zS fun K h=>sp 2 hf rfl fun a hf=>zT h ?_
  refine wp_ret ?_
  refine bI ?_
  refine aN ?_
  obtain rfl:=sj hF
  replace hc:=hc.nilRow 3 1
  replace hc:=hc.drop k1
  exact zO2 Tryz.results10 hf rfl rfl ⟨none,0,rfl,hc⟩
 ·refine zS fun K h=>zP hf rfl (pFA pO rfl) fun a hf=>zL hf hc xC m0 rfl fun a w hf hc=>zP hf rfl (bL Tryz.underlying22 rfl) fun a hf=>sp 2 hf rfl fun a hf=>zT h ?_
  refine zI hf rfl hF ?_ ?_ <;> clear hF <;> intro hF
  ·refine zS fun K h=>sp 2 hf rfl fun a hf=>zT h ?_
   refine wp_ret ?_
   refine bI ?_
   refine aN ?_
   obtain rfl:=sj hF
   replace hc:=hc.nilRow 3 1
   replace hc:=hc.drop k1
   exact zO2 Tryz.results10 hf rfl rfl ⟨none,0,rfl,hc⟩
  ·refine zS fun K h=>zP hf rfl (pFA xT rfl) fun a hf=>zL hf hc bB m0 rfl fun a w hf hc=>zQ (v:=.bool (aQ p_.Least 1 1000000000)) hf hc pD rfl (fun w hc=>dO p_.Least 1 1000000000 hc rfl) fun a w hf hc=>sp 2 hf rfl fun a hf=>cP 5 (fun a=>Has 70 a [(0,i6 debt),(3,pq R),(20,pq R),(21,i6 p_.Least),(22,.bool (aQ p_.Least 1 1000000000)),(23,.bool (!(aQ p_.Least 1 1000000000))),(24,.bool (!(aQ p_.Least 1 1000000000))),(29,.bool ((!(aQ p_.Least 1 1000000000)) || (!(aQ p_.Part 1 100))))]) hc ?_ ?_
   ·cases hb:(!(aQ p_.Least 1 1000000000))
    ·rw [hb] at hf
     refine zP hf rfl (pFA vT rfl) fun a hf=>zL hf hc bB m0 rfl fun a w hf hc=>zQ (v:=.bool (aQ p_.Part 1 100)) hf hc pD rfl (fun w hc=>dO p_.Part 1 100 hc rfl) fun a w hf hc=>sp 2 hf rfl fun a hf=>aP ⟨hf.kp rfl,hc⟩
    ·rw [hb] at hf
     refine stS hf rfl rfl rfl fun a hf=>stS hf rfl rfl rfl fun a hf=>stS hf rfl rfl rfl fun a hf=>stS hf rfl rfl rfl fun a hf=>sp 1 hf rfl fun a hf=>aP ⟨hf.kp rfl,hc⟩
   intro a w ⟨hf,hc⟩
   refine sp 1 hf rfl fun a hf=>?_
   obtain ⟨u,Y,hF⟩:=aA hF
   refine cP 5 (fun a=>Has 70 a [(0,i6 debt),(3,pq R),(20,pq R),(21,i6 p_.Least),(22,.bool (aQ p_.Least 1 1000000000)),(23,.bool (!(aQ p_.Least 1 1000000000))),(24,.bool (!(aQ p_.Least 1 1000000000))),(29,.bool ((!(aQ p_.Least 1 1000000000)) || (!(aQ p_.Part 1 100)))),(30,.bool ((!(aQ p_.Least 1 1000000000)) || (!(aQ p_.Part 1 100)))),(35,.bool u)]) hc ?_ ?_
   ·cases hb:((!(aQ p_.Least 1 1000000000)) || (!(aQ p_.Part 1 100)))
    ·rw [hb] at hf
     have hF:=fN hb Y
     refine zP hf rfl (pFA pO rfl) fun a hf=>zL hf hc xC m0 rfl fun a w hf hc=>?_
     obtain ⟨r,hr,hF⟩:=aA hF
     refine zQ (v:=.bool r) hf hc aI1 rfl (fun w hc=>wK p_.Can O hc hr) fun a w hf hc=>sp 2 hf rfl fun a hf=>?_
     obtain rfl:=sj hF
     exact aP ⟨hf.kp rfl,hc⟩
    ·rw [hb] at hf
     have hF:=fO hb Y
     obtain rfl:=sj hF
     refine stS hf rfl rfl rfl fun a hf=>stS hf rfl rfl rfl fun a hf=>stS hf rfl rfl rfl fun a hf=>stS hf rfl rfl rfl fun a hf=>sp 1 hf rfl fun a hf=>aP ⟨hf.kp rfl,hc⟩
   intro a w ⟨hf,hc⟩
   refine sp 1 hf rfl fun a hf=>zT h ?_
   refine zI hf rfl hF ?_ ?_ <;> clear hF <;> intro hF
   ·refine zS fun K h=>sp 2 hf rfl fun a hf=>zT h ?_
    refine wp_ret ?_
    refine bI ?_
    refine aN ?_
    obtain rfl:=sj hF
    replace hc:=hc.nilRow 3 1
    replace hc:=hc.drop k1
    exact zO2 Tryz.results10 hf rfl rfl ⟨none,0,rfl,hc⟩
   ·refine wp_skip ?_
    refine h2 _ _ ?_
    refine zS fun K h=>sp 1 hf rfl fun a hf=>zT h ?_
    refine wp_seq_k fun K10 n=>zS fun K h=>zP hf rfl (pFA pO rfl) fun a hf=>zL hf hc xC m0 rfl fun a w hf hc=>zP hf rfl (bL Tryz.underlying22 rfl) fun a hf=>sp 1 hf rfl fun a hf=>zT h ?_
    refine wp_block ?_
    obtain ⟨X,m,hF⟩:=aA hF
    let S12:(Int × (List Int) × Int)→Act→World→Prop:=(fun (zz:Int × (List Int) × Int) a w=>∃ (J:Option Addr) (M:Nat),Has 70 a [(0,i6 zz.1),(3,pq R),(6,.slice J zz.2.1.length M),(37,.slice D p_.Can.length H),(38,i6 ((p_.Can.length:Nat):Int)),(39,i6 zz.2.2)]∧Ctx G (.row J M (zz.2.1.map aD) 3 1::.box R [i6 p_.Least,i6 p_.Part,.slice D p_.Can.length H] 40::Lf) w)
    have Z:∀ (zz:Int × (List Int) × Int) a w,X=.go zz→S12 zz a w→K10 a w:=by
     rintro ⟨B,out,x⟩ a w rfl ⟨J,M,hf,hc⟩
     replace hF:=bQ hF
     refine n _ _ ?_
     refine wp_seq_k fun K13 y=>zS fun K h=>sp 2 hf rfl fun a hf=>zT h ?_
     refine zI hf rfl hF ?_ ?_ <;> clear hF <;> intro hF
     ·refine zS fun K h=>sp 2 hf rfl fun a hf=>zT h ?_
      refine wp_ret ?_
      refine aN ?_
      obtain rfl:=sj hF
      replace hc:=hc.nilRow 3 1
      replace hc:=(hc.drop k2).drop k1
      exact zO2 Tryz.results10 hf rfl rfl ⟨none,0,rfl,hc⟩
     ·refine wp_skip ?_
      refine y _ _ ?_
      refine zS fun K h=>sp 3 hf rfl fun a hf=>zT h ?_
      refine wp_ret ?_
      obtain rfl:=sj hF
      replace hc:=hc.drop k1
      exact zO2 Tryz.results10 hf rfl rfl ⟨J,M,rfl,hc⟩
    have af:∀ r,X=.out r→r=U:=by
     rintro r rfl
     exact sj hF
    replace hc:=hc.nilRow 3 1
    refine cX N (cV (S:=S12) (x:=X) ?_ N (debt,([]:List Int),0) _ _ ⟨none,0,hf.kp rfl,hc⟩ m)
    clear hF hf hc
    rintro ⟨B,out,x⟩ ac a w KB12 ⟨J,M,hf,hc⟩ hF I k
    unfold bM at hF
    refine zS fun K h=>sp 1 hf rfl fun a hf=>zT h ?_
    refine wp_seq_k fun K18 p=>zI hf rfl hF ?_ ?_ <;> clear hF <;> intro hF
    ·refine wp_skip ?_
     refine p _ _ ?_
     refine wp_seq_k fun K19 s=>wp_block ?_
     refine zS fun K h=>?_
     obtain ⟨V,i,hF⟩:=aA hF
     obtain ⟨ai,o,qa,qp⟩:=O.atm i
     refine zP hf rfl (pIA Tryz.underlying22 cY rfl rfl qa) fun a hf=>zE hf hc rfl (bP bB rfl (bK (j:=0) qp rfl)) fun a w hf hc=>sp 1 hf rfl fun a hf=>zT h ?_
     refine wp_seq_k fun K21 ab=>zS fun K h=>sp 2 hf rfl fun a hf=>zT h ?_
     refine zI hf rfl hF ?_ ?_ <;> clear hF <;> intro hF
     ·refine wp_exit ?_
      refine bE ?_
      refine aG4 rfl ?_
      refine bE ?_
      refine bE ?_
      have he:=sj hF
      rw [← he] at I
      refine eX ?_
      exact Z _ _ _ I ⟨J,M,hf.kp rfl,hc⟩
     ·refine wp_skip ?_
      refine ab _ _ ?_
      refine wp_seq_k fun K23 q=>?_
      obtain ⟨un,aa,hF⟩:=aA hF
      refine cQ hc aY (by kernel_rfl) ?_
      refine qE hf rfl rfl rfl (Pu.ev (pM rfl)) fun a hf=>qE hf rfl rfl rfl (Pu.ev (pM rfl)) fun a hf=>qE hf rfl rfl rfl (Pu.ev (pFA xT rfl)) fun a hf=>qE hf rfl rfl rfl (bP bB rfl (bZ m1 rfl)) fun a hf=>qE hf rfl rfl rfl (Pu.ev (pM rfl)) fun a hf=>qE hf rfl rfl rfl (Pu.ev (pFA vT rfl)) fun a hf=>qE hf rfl rfl rfl (bP bB rfl (bZ m1 rfl)) fun a hf=>qE hf rfl rfl rfl (Pu.ev (wZ rfl rfl)) fun a hf=>qE hf rfl rfl rfl (Pu.ev (aB0 rfl rfl)) fun a hf=>qE hf rfl rfl rfl (Pu.ev (pFA vT rfl)) fun a hf=>qE hf rfl rfl rfl (bP bB rfl (bZ m1 rfl)) fun a hf=>qE hf rfl rfl rfl (Pu.ev (nE rfl rfl (eZ aa))) fun a hf=>qE hf rfl rfl rfl (Pu.ev (aG6 rfl rfl)) fun a hf=>?_
      refine qE hf rfl rfl rfl (Pu.ev (pMin3 rfl rfl rfl)) fun a hf=>qE hf rfl rfl rfl (Pu.ev (pA rfl)) fun a hf=>?_
      intro w hc
      refine q _ _ ?_
      refine zS fun K h=>sp 2 hf rfl fun a hf=>gV (rows:=([min (min B V) (max p_.Least (W ((W ((W (B + p_.Part)) - 1)).tdiv p_.Part)))]:List Int).map aD) (vs:=[(0,i6 (min (min B V) (max p_.Least (W ((W ((W (B + p_.Part)) - 1)).tdiv p_.Part)))))]) hf hc rfl rfl fC rfl ⟨rfl,rfl,rfl,trivial⟩ rfl rfl fun ag a w hf hc=>?_
      obtain ⟨ad,b,hF⟩:=aA hF
      refine iV (xs:=out) (ys:=([min (min B V) (max p_.Least (W ((W ((W (B + p_.Part)) - 1)).tdiv p_.Part)))]:List Int)) hf hc rfl rfl fC rfl rfl rfl rfl rfl cM (fA hc m0) (fun _ _=>u1) (by simpa using cB b) fun z t a w hf hc=>sp 1 hf rfl fun a hf=>zT h ?_
      refine bR ?_
      refine sp 4 hf rfl fun a hf=>aP ?_
      refine s _ _ ?_
      refine bR ?_
      refine sp 2 hf rfl fun a hf=>aP ?_
      replace hc:=hc.drop k0
      exact k (W (B - (min (min B V) (max p_.Least (W ((W ((W (B + p_.Part)) - 1)).tdiv p_.Part))))),(out++[min (min B V) (max p_.Least (W ((W ((W (B + p_.Part)) - 1)).tdiv p_.Part)))]),W (x + 1)) _ _ (sj hF).symm ⟨z,t,hf.kp rfl,hc⟩
    ·refine wp_exit ?_
     refine bE ?_
     refine bE ?_
     have he:=sj hF
     rw [← he] at I
     refine eX ?_
     exact Z _ _ _ I ⟨J,M,hf.kp rfl,hc⟩

def nV (n:Int):Bool :=
 (aQ n 1 1000000)
theorem wR {G:bA} {Lf:List Ent} {w:World} (n:Int)   (hc:Ctx G (Lf) w) {B:Bool} (hF:nV n=B):Calls Tryz.prog 93 #[i6 n] w (fun e w=>e=.returned (.bool B)∧Ctx G (Lf) w):=by
 unfold nV at hF
 refine cG Tryz.func93 rfl Tryz.ntmps93 rfl fun a hf=>zS fun K h=>sp 1 hf rfl fun a hf=>zT h ?_
 refine zS fun K h=>sp 1 hf rfl fun a hf=>zQ (v:=.bool (aQ n 1 1000000)) hf hc pD rfl (fun w hc=>dO n 1 1000000 hc rfl) fun a w hf hc=>sp 1 hf rfl fun a hf=>zT h ?_
 refine wp_ret ?_
 obtain rfl:=hF
 exact zO1 Tryz.results93 hf rfl ⟨rfl,hc⟩

def iE (x:Int):Bool :=
 (!(nV x))
theorem tC {G:bA} {Lf:List Ent} {w:World} (x:Int) {b_:Nat}  (hc:Ctx G (.box b_ [.func (.func 93) #[] #[]] 113::Lf) w) {B:Bool} (hF:iE x=B):Calls Tryz.prog 88 #[i6 x,pq b_] w (fun e w=>e=.returned (.bool B)∧Ctx G (.box b_ [.func (.func 93) #[] #[]] 113::Lf) w):=by
 unfold iE at hF
 refine cG Tryz.func88 rfl Tryz.ntmps88 rfl fun a hf=>zS fun K h=>sp 1 hf rfl fun a hf=>zT h ?_
 refine zS fun K h=>zL hf hc aF7 m0 rfl fun a w hf hc=>sp 1 hf rfl fun a hf=>zQ (v:=.bool (nV x)) hf hc en_93 rfl (fun w hc=>wR x hc rfl) fun a w hf hc=>sp 2 hf rfl fun a hf=>zT h ?_
 refine wp_ret ?_
 obtain rfl:=hF
 exact zO1 Tryz.results88 hf rfl ⟨rfl,hc⟩

def kT (N:Nat) (s_:List Int) (x:Int):Option (bH (Int) (Int)) :=
 cond (decide (x < ((s_.length:Nat):Int)))
 (Option.bind (aZ s_ x) fun B=>
 cond (iE B)
 (some (.ret x))
 (some (.cont (W (x + 1)))))
 (some (.brk x))
def fJ (N:Nat) (s_:List Int):Option (Int) :=
 Option.bind (aT (fun s4=>kT N s_ s4) N 0) fun x4=>
 exK x4 (fun s4=>some (-1)) some
theorem oX {N:Nat} {G:bA} {Lf:List Ent} {w:World} (s_:List Int) {D:Option Addr} {H:Nat} {b_:Nat} (O:Rd G 1 D H (s_.map aD)) (hc:Ctx G (.box b_ [.func (.func 93) #[] #[]] 113::Lf) w) {I:Int} (hF:fJ N s_=some I):Calls Tryz.prog 106 #[.slice D s_.length H,.func (.func 88) #[] #[pq b_]] w (fun e w=>e=.returned (i6 I)∧Ctx G (.box b_ [.func (.func 93) #[] #[]] 113::Lf) w):=by
 unfold fJ at hF
 refine cG Tryz.func106 rfl Tryz.ntmps106 rfl fun a hf=>zS fun K h=>sp 1 hf rfl fun a hf=>zT h ?_
 refine wp_seq_k fun K2 h2=>zS fun K h=>sp 1 hf rfl fun a hf=>zP hf rfl (bL Tryz.underlying22 rfl) fun a hf=>sp 1 hf rfl fun a hf=>zT h ?_
 refine wp_block ?_
 obtain ⟨x4,R,hF⟩:=aA hF
 let S4:Int→Act→World→Prop:=(fun (zz:Int) a w=>Has 19 a [(0,.slice D s_.length H),(1,.func (.func 88) #[] #[pq b_]),(7,i6 ((s_.length:Nat):Int)),(8,i6 zz)]∧Ctx G (.box b_ [.func (.func 93) #[] #[]] 113::Lf) w)
 have V:∀ (zz:Int) a w,x4=.go zz→S4 zz a w→K2 a w:=by
  rintro x a w rfl ⟨hf,hc⟩
  replace hF:=bQ hF
  refine h2 _ _ ?_
  refine zS fun K h=>sp 1 hf rfl fun a hf=>zT h ?_
  refine wp_ret ?_
  obtain rfl:=sj hF
  exact zO1 Tryz.results106 hf rfl ⟨rfl,hc⟩
 have X:∀ r,x4=.out r→r=I:=by
  rintro r rfl
  exact sj hF
 refine cX N (cV (S:=S4) (x:=x4) ?_ N 0 _ _ ⟨hf.kp rfl,hc⟩ R)
 clear hF hf hc
 rintro x Z a w KB4 ⟨hf,hc⟩ hF B U
 unfold kT at hF
 refine zS fun K h=>sp 1 hf rfl fun a hf=>zT h ?_
 refine wp_seq_k fun K7 h7=>zI hf rfl hF ?_ ?_ <;> clear hF <;> intro hF
 ·refine wp_skip ?_
  refine h7 _ _ ?_
  refine wp_seq_k fun K8 h8=>wp_block ?_
  refine zS fun K h=>sp 2 hf rfl fun a hf=>zT h ?_
  refine zS fun K h=>sp 3 hf rfl fun a hf=>?_
  obtain ⟨J,M,hF⟩:=aA hF
  obtain ⟨Y,o,qa,qp⟩:=O.atm M
  refine zP hf rfl (pIA Tryz.underlying22 cY rfl rfl qa) fun a hf=>zE hf hc rfl (bP bB rfl (bK (j:=0) qp rfl)) fun a w hf hc=>zQ (v:=.bool (iE J)) hf hc aJn rfl (fun w hc=>(tC J (hc.pick k0) rfl).mono fun e w h=>⟨h.1,(h.2.unpick k0)⟩) fun a w hf hc=>zT h ?_
  refine zI hf rfl hF ?_ ?_ <;> clear hF <;> intro hF
  ·refine zS fun K h=>sp 2 hf rfl fun a hf=>zT h ?_
   refine wp_ret ?_
   refine bI ?_
   refine aN ?_
   refine aN ?_
   have he:=sj hF
   rw [← he] at B
   replace hF:=X _ B
   refine bI ?_
   refine aN ?_
   obtain rfl:=hF
   exact zO1 Tryz.results106 hf rfl ⟨rfl,hc⟩
  ·refine wp_skip ?_
   refine h8 _ _ ?_
   refine bR ?_
   refine sp 2 hf rfl fun a hf=>aP ?_
   exact U (W (x + 1)) _ _ (sj hF).symm ⟨hf.kp rfl,hc⟩
 ·refine wp_exit ?_
  refine bE ?_
  refine bE ?_
  have he:=sj hF
  rw [← he] at B
  refine eX ?_
  exact V _ _ _ B ⟨hf.kp rfl,hc⟩

def eL (N:Nat) (s_:List Int):Option (Bool) :=
 Option.bind (fJ N s_) fun r=>
 some (decide (0≤r))
theorem oA {N:Nat} {G:bA} {Lf:List Ent} {w:World} (s_:List Int) {D:Option Addr} {B:Nat} {b_:Nat} (I:Rd G 1 D B (s_.map aD)) (hc:Ctx G (.box b_ [.func (.func 93) #[] #[]] 113::Lf) w) {H:Bool} (hF:eL N s_=some H):Calls Tryz.prog 87 #[.slice D s_.length B,.func (.func 88) #[] #[pq b_]] w (fun e w=>e=.returned (.bool H)∧Ctx G (.box b_ [.func (.func 93) #[] #[]] 113::Lf) w):=by
 unfold eL at hF
 refine cG Tryz.func87 rfl Tryz.ntmps87 rfl fun a hf=>zS fun K h=>sp 1 hf rfl fun a hf=>zT h ?_
 refine zS fun K h=>sp 2 hf rfl fun a hf=>?_
 obtain ⟨r,hr,hF⟩:=aA hF
 refine zQ (v:=i6 r) hf hc aF9 rfl (fun w hc=>(oX s_ I (hc.pick k0) hr).mono fun e w h=>⟨h.1,(h.2.unpick k0)⟩) fun a w hf hc=>sp 2 hf rfl fun a hf=>zT h ?_
 refine wp_ret ?_
 obtain rfl:=sj hF
 exact zO1 Tryz.results87 hf rfl ⟨rfl,hc⟩

def jN (N:Nat) (l:List Int):Option (Bool) :=
 Option.bind (eL N l) fun r=>
 some (!r)
theorem uG {N:Nat} {G:bA} {Lf:List Ent} {w:World} (l:List Int) {H:Option Addr} {B:Nat} (J:Rd G 1 H B (l.map aD)) (hc:Ctx G (Lf) w) {D:Bool} (hF:jN N l=some D):Calls Tryz.prog 53 #[.slice H l.length B,.func (.func 93) #[] #[]] w (fun e w=>e=.returned (.bool D)∧Ctx G (Lf) w):=by
 unfold jN at hF
 refine cG Tryz.func53 rfl Tryz.ntmps53 rfl fun a hf=>zS fun K h=>zB hf hc rfl fun I a w hf hc=>sp 1 hf rfl fun a hf=>zT h ?_
 refine zS fun K h=>sp 1 hf rfl fun a hf=>zP hf rfl (pMF (us:=[pq I]) rfl rfl) fun a hf=>?_
 obtain ⟨r,hr,hF⟩:=aA hF
 refine zQ (v:=.bool r) hf hc aJc rfl (fun w hc=>(oA l J (hc.pick k0) hr).mono fun e w h=>⟨h.1,(h.2.unpick k0)⟩) fun a w hf hc=>sp 2 hf rfl fun a hf=>zT h ?_
 refine wp_ret ?_
 obtain rfl:=sj hF
 replace hc:=hc.drop k0
 exact zO1 Tryz.results53 hf rfl ⟨rfl,hc⟩

def mF (N:Nat) (B:List Int):Option (Int) :=
 cond (!(aQ ((B.length:Nat):Int) 1 12))
 (some 3)
 (Option.bind (jN N B) fun r=>
 cond (!r)
 (some 4)
 (some 0))
theorem sX {N:Nat} {G:bA} {Lf:List Ent} {w:World} (B:List Int) {D:Option Addr} {H:Nat} (I:Rd G 1 D H (B.map aD)) (hc:Ctx G (Lf) w) {J:Int} (hF:mF N B=some J):Calls Tryz.prog 58 #[.slice D B.length H] w (fun e w=>e=.returned (i6 J)∧Ctx G (Lf) w):=by
 unfold mF at hF
 refine cG Tryz.func58 rfl Tryz.ntmps58 rfl fun a hf=>zS fun K h=>sp 1 hf rfl fun a hf=>zT h ?_
 refine wp_seq_k fun K2 h2=>wp_block ?_
 refine zS fun K h=>sp 1 hf rfl fun a hf=>zP hf rfl (bL Tryz.underlying22 rfl) fun a hf=>zQ (v:=.bool (aQ ((B.length:Nat):Int) 1 12)) hf hc pD rfl (fun w hc=>dO ((B.length:Nat):Int) 1 12 hc rfl) fun a w hf hc=>sp 2 hf rfl fun a hf=>zT h ?_
 refine zI hf rfl hF ?_ ?_ <;> clear hF <;> intro hF
 ·refine zS fun K h=>sp 1 hf rfl fun a hf=>zT h ?_
  refine wp_ret ?_
  refine bI ?_
  refine aN ?_
  obtain rfl:=sj hF
  exact zO1 Tryz.results58 hf rfl ⟨rfl,hc⟩
 ·refine zS fun K h=>sp 1 hf rfl fun a hf=>?_
  obtain ⟨r,hr,hF⟩:=aA hF
  refine zQ (v:=.bool r) hf hc aI1 rfl (fun w hc=>uG B I hc hr) fun a w hf hc=>sp 2 hf rfl fun a hf=>zT h ?_
  refine zI hf rfl hF ?_ ?_ <;> clear hF <;> intro hF
  ·refine zS fun K h=>sp 1 hf rfl fun a hf=>zT h ?_
   refine wp_ret ?_
   refine bI ?_
   refine aN ?_
   obtain rfl:=sj hF
   exact zO1 Tryz.results58 hf rfl ⟨rfl,hc⟩
  ·refine wp_skip ?_
   refine h2 _ _ ?_
   refine zS fun K h=>sp 1 hf rfl fun a hf=>zT h ?_
   refine wp_ret ?_
   obtain rfl:=sj hF
   exact zO1 Tryz.results58 hf rfl ⟨rfl,hc⟩

def dW (r:Int):Bool :=
 ((decide (0≤r)) && (decide (r≤2)))
theorem qL {G:bA} {Lf:List Ent} {w:World} (r:Int)   (hc:Ctx G (Lf) w) {B:Bool} (hF:dW r=B):Calls Tryz.prog 59 #[i6 r] w (fun e w=>e=.returned (.bool B)∧Ctx G (Lf) w):=by
 unfold dW at hF
 refine cG Tryz.func59 rfl Tryz.ntmps59 rfl fun a hf=>zS fun K h=>sp 1 hf rfl fun a hf=>zT h ?_
 refine zS fun K h=>sp 3 hf rfl fun a hf=>cP 3 (fun a=>Has 9 a [(0,i6 r),(2,.bool false),(3,i6 r),(4,.bool (decide (0≤r))),(5,.bool (decide (0≤r))),(8,.bool ((decide (0≤r)) && (decide (r≤2))))]) hc ?_ ?_
 ·cases hb:(decide (0≤r))
  ·rw [hb] at hf
   refine stS hf rfl rfl rfl fun a hf=>stS hf rfl rfl rfl fun a hf=>sp 1 hf rfl fun a hf=>aP ⟨hf.kp rfl,hc⟩
  ·rw [hb] at hf
   refine sp 3 hf rfl fun a hf=>aP ⟨hf.kp rfl,hc⟩
 intro a w ⟨hf,hc⟩
 refine sp 1 hf rfl fun a hf=>zT h ?_
 refine wp_ret ?_
 obtain rfl:=hF
 exact zO1 Tryz.results59 hf rfl ⟨rfl,hc⟩

def dL (N:Nat) (r:Int) (B:Int) (n:Int):Option (aR) :=
 cond (r == 0)
 (some (⟨W (2 * B),W (2 * n)⟩:aR))
 (cond (r == 1)
 (some (⟨W (2 * B),W ((W (2 * n)) - 1)⟩:aR))
 (some (⟨W (2 * B),W ((W (2 * n)) - 2)⟩:aR)))
theorem fF {N:Nat} {G:bA} {Lf:List Ent} {w:World} (r:Int) (B:Int) (n:Int)   (hc:Ctx G (Lf) w) {D:aR} (hF:dL N r B n=some D):Calls Tryz.prog 60 #[i6 r,i6 B,i6 n] w (fun e w=>e=.returned (.agg #[i6 D.claim,i6 D.by_])∧Ctx G (Lf) w):=by
 unfold dL at hF
 refine cG Tryz.func60 rfl Tryz.ntmps60 rfl fun a hf=>zS fun K h=>zA hf hc sM rfl fun H a w hf hc=>zT h ?_
 refine wp_seq_k fun K2 h2=>zS fun K h=>sp 1 hf rfl fun a hf=>zT h ?_
 refine wp_block ?_
 refine zS fun K h=>sp 2 hf rfl fun a hf=>zT h ?_
 refine zI hf rfl hF ?_ ?_ <;> clear hF <;> intro hF
 ·refine zS fun K h=>sp 4 hf rfl fun a hf=>zP hf rfl (bG (cells:=[i6 (W (2 * B)),i6 (W (2 * n))]) aA8 rfl rfl) fun a hf=>zW hf hc mJ u0 rfl fun w hc=>zT h ?_
  refine wp_ret ?_
  refine bI ?_
  refine aN ?_
  obtain rfl:=sj hF
  exact oO (by simp) rfl Tryz.results60 hf hc (dQ (vs:=[i6 (W (2 * B)),i6 (W (2 * n))]) hO rfl rfl (cA (n:=2) m0 rfl)) ⟨rfl,(hc.drop k0)⟩
 ·refine zS fun K h=>sp 2 hf rfl fun a hf=>zT h ?_
  refine zI hf rfl hF ?_ ?_ <;> clear hF <;> intro hF
  ·refine zS fun K h=>sp 5 hf rfl fun a hf=>zP hf rfl (bG (cells:=[i6 (W (2 * B)),i6 (W ((W (2 * n)) - 1))]) aA8 rfl rfl) fun a hf=>zW hf hc mJ u0 rfl fun w hc=>zT h ?_
   refine wp_ret ?_
   refine bI ?_
   refine aN ?_
   obtain rfl:=sj hF
   exact oO (by simp) rfl Tryz.results60 hf hc (dQ (vs:=[i6 (W (2 * B)),i6 (W ((W (2 * n)) - 1))]) hO rfl rfl (cA (n:=2) m0 rfl)) ⟨rfl,(hc.drop k0)⟩
  ·refine wp_skip ?_
   refine h2 _ _ ?_
   refine zS fun K h=>sp 5 hf rfl fun a hf=>zP hf rfl (bG (cells:=[i6 (W (2 * B)),i6 (W ((W (2 * n)) - 2))]) aA8 rfl rfl) fun a hf=>zW hf hc mJ u0 rfl fun w hc=>zT h ?_
   refine wp_ret ?_
   obtain rfl:=sj hF
   exact oO (by simp) rfl Tryz.results60 hf hc (dQ (vs:=[i6 (W (2 * B)),i6 (W ((W (2 * n)) - 2))]) hO rfl rfl (cA (n:=2) m0 rfl)) ⟨rfl,(hc.drop k0)⟩

def aV (q:aR) (r:aR):Bool :=
 (decide ((W (r.claim * q.by_)) < (W (q.claim * r.by_))))
theorem eG {G:bA} {Lf:List Ent} {w:World} (q:aR) (r:aR)   (hc:Ctx G (Lf) w) {B:Bool} (hF:aV q r=B):Calls Tryz.prog 61 #[.agg #[i6 q.claim,i6 q.by_],.agg #[i6 r.claim,i6 r.by_]] w (fun e w=>e=.returned (.bool B)∧Ctx G (Lf) w):=by
 unfold aV at hF
 refine cG Tryz.func61 rfl Tryz.ntmps61 rfl fun a hf=>zS fun K h=>zB hf hc rfl fun H a w hf hc=>zB hf hc rfl fun D a w hf hc=>sp 1 hf rfl fun a hf=>zT h ?_
 refine zS fun K h=>zP hf rfl (pFA xM rfl) fun a hf=>zL hf hc bB m1 rfl fun a w hf hc=>zP hf rfl (pFA sT rfl) fun a hf=>zL hf hc bB m0 rfl fun a w hf hc=>sp 1 hf rfl fun a hf=>zP hf rfl (pFA xM rfl) fun a hf=>zL hf hc bB m0 rfl fun a w hf hc=>zP hf rfl (pFA sT rfl) fun a hf=>zL hf hc bB m1 rfl fun a w hf hc=>sp 3 hf rfl fun a hf=>zT h ?_
 refine wp_ret ?_
 obtain rfl:=hF
 replace hc:=(hc.drop k1).drop k0
 exact zO1 Tryz.results61 hf rfl ⟨rfl,hc⟩

end Go.Nilo
