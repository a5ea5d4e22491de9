/-
 What functions of the Go text compute, as plain functions, and that they do, part 1 of 4. Conditions: what each theorem names.
-/
import Derived.Test.YtofihdjdhecfdaaGreatNl29
import Derived.Test.YtofihdjdhecfdaaGreatProg
set_option linter.unusedVariables false
set_option linter.unusedSimpArgs false
set_option maxRecDepth 100000
set_option maxHeartbeats 4000000
namespace Go.Nilo
open Go.Proofs


structure bC where
 bytes:List Int
 used:Int
 mix:Int

structure aE where
 Stage:Int
 Flow:Int
@[reducible] def aW (x:aE):List Value:=[i6 x.Stage,i6 x.Flow]
theorem wO:∀ x,(aW x).length=2∧mI (aW x)=true:=fun _=>⟨rfl,rfl⟩

structure eE where
 N:Int
 D:Int
@[reducible] def vZ (x:eE):List Value:=[i6 x.N,i6 x.D]
theorem aF0:∀ x,(vZ x).length=2∧mI (vZ x)=true:=fun _=>⟨rfl,rfl⟩

structure aA where
 Lo:Int
 Hi:Int
@[reducible] def aC (x:aA):List Value:=[i6 x.Lo,i6 x.Hi]
theorem eF:∀ x,(aC x).length=2∧mI (aC x)=true:=fun _=>⟨rfl,rfl⟩

structure aI where
 Day:Int
 Stage:Int
 Flow:aA
@[reducible] def aX (x:aI):List Value:=[i6 x.Day,i6 x.Stage,i6 x.Flow.Lo,i6 x.Flow.Hi]
theorem tZ:∀ x,(aX x).length=4∧mI (aX x)=true:=fun _=>⟨rfl,rfl⟩

structure aH where
 Rating:List aE
 Gaugings:List aI

structure sW where
 Record:aH
 passes:List aA

structure aK where
 Known:Bool
 Flow:aA
@[reducible] def aJ (x:aK):List Value:=[.bool x.Known,i6 x.Flow.Lo,i6 x.Flow.Hi]
theorem vS:∀ x,(aJ x).length=3∧mI (aJ x)=true:=fun _=>⟨rfl,rfl⟩

structure aF where
 Rise:Int
 Fall:Int
 Days:List aK

structure iC where
 Record:aF
 spans:List aA

structure aM where
 Value:Int
 Weight:Int
@[reducible] def cP (x:aM):List Value:=[i6 x.Value,i6 x.Weight]
theorem uA:∀ x,(cP x).length=2∧mI (cP x)=true:=fun _=>⟨rfl,rfl⟩

structure aN where
 reading:Int
 value:Int
@[reducible] def tU (x:aN):List Value:=[i6 x.reading,i6 x.value]
theorem aEp:∀ x,(tU x).length=2∧mI (tU x)=true:=fun _=>⟨rfl,rfl⟩

structure eN where
 A:Int
 B:Int
 Weight:Int
@[reducible] def nP (x:eN):List Value:=[i6 x.A,i6 x.B,i6 x.Weight]
theorem aFf:∀ x,(nP x).length=3∧mI (nP x)=true:=fun _=>⟨rfl,rfl⟩

theorem bt_68:fE Tryz.prog 68=some ([.slice none 0 0,i6 0,i6 0],[(0,1),(1,1),(2,1)]):=by kernel_rfl

theorem en_5:En Tryz.prog 5:=En.of Tryz.func5 (by kernel_rfl) (by kernel_rfl)

theorem aJa:(Tryz.prog.info? 26).map (·.zero)=some (some (.agg #[.slice none 0 0,.slice none 0 0])):=by kernel_rfl

theorem xQ:∀ (q:Addr) (w:World),(Instr.fieldAt 68 (.pointer (some q)) 0).run Tryz.prog w=.ok (.pointer (some (q.add 0))) w:=fun _ _=>by kernel_rfl

theorem aEm:ScT Tryz.prog 22:=⟨⟨_,Tryz.underlying22,trivial⟩,by kernel_rfl⟩

theorem wW:∀ (q:Addr) (w:World),(Instr.fieldAt 68 (.pointer (some q)) 1).run Tryz.prog w=.ok (.pointer (some (q.add 1))) w:=fun _ _=>by kernel_rfl

theorem aU:ScT Tryz.prog 3:=⟨⟨_,Tryz.underlying3,trivial⟩,by kernel_rfl⟩

theorem sz_5:(Tryz.prog.info? 5).map (·.size)=some 1:=by kernel_rfl

theorem sc_5:ScT Tryz.prog 5:=⟨⟨_,Tryz.underlying5,trivial⟩,by kernel_rfl⟩

theorem aT:Tryz.prog.follows .mixedOrders=true:=by kernel_rfl

theorem aAc:∀ (q:Addr) (w:World),(Instr.fieldAt 68 (.pointer (some q)) 2).run Tryz.prog w=.ok (.pointer (some (q.add 2))) w:=fun _ _=>by kernel_rfl

theorem eL:(Tryz.prog.info? 3).map (·.size)=some 1:=by kernel_rfl

theorem aDk:En Tryz.prog 18:=En.of Tryz.func18 (by kernel_rfl) (by kernel_rfl)

theorem aBz:En Tryz.prog 8:=En.of Tryz.func8 (by kernel_rfl) (by kernel_rfl)

theorem bt_65:fE Tryz.prog 65=some ([i6 0,i6 0],[(0,1),(1,1)]):=by kernel_rfl

theorem aK4:SlT Tryz.prog 23 65 2 16 (.agg #[i6 0,i6 0]):=SlT.of Tryz.underlying23 (by kernel_rfl) (by decide)

theorem en_17:En Tryz.prog 17:=En.of Tryz.func17 (by kernel_rfl) (by kernel_rfl)

theorem bt_26:fE Tryz.prog 26=some ([.slice none 0 0,.slice none 0 0],[(0,1),(1,1)]):=by kernel_rfl

theorem aJb:(Tryz.prog.info? 26).map (·.size)=some 2:=by kernel_rfl

theorem oQ:∀ (q:Addr) (w:World),(Instr.fieldAt 26 (.pointer (some q)) 0).run Tryz.prog w=.ok (.pointer (some (q.add 0))) w:=fun _ _=>by kernel_rfl

theorem wC:ScT Tryz.prog 23:=⟨⟨_,Tryz.underlying23,trivial⟩,by kernel_rfl⟩

theorem qH:(Tryz.prog.info? 65).map (·.size)=some 2:=by kernel_rfl

theorem mZ:∀ (q:Addr) (w:World),(Instr.fieldAt 65 (.pointer (some q)) 0).run Tryz.prog w=.ok (.pointer (some (q.add 0))) w:=fun _ _=>by kernel_rfl

theorem bt_43:fE Tryz.prog 43=some ([i6 0,i6 0,i6 0,i6 0],[(0,1),(1,1),(2,2)]):=by kernel_rfl

theorem aEg:(Tryz.prog.info? 43).map (·.zero)=some (some (.agg #[i6 0,i6 0,i6 0,i6 0])):=by kernel_rfl

theorem rK:(Tryz.prog.info? 43).map (·.size)=some 4:=by kernel_rfl

theorem aC7:∀ (q:Addr) (w:World),(Instr.fieldAt 43 (.pointer (some q)) 1).run Tryz.prog w=.ok (.pointer (some (q.add 1))) w:=fun _ _=>by kernel_rfl

theorem xE:(Tryz.prog.info? 46).map (·.zero)=some (some (.agg #[i6 0,i6 0])):=by kernel_rfl

theorem rI:En Tryz.prog 25:=En.of Tryz.func25 (by kernel_rfl) (by kernel_rfl)

theorem aCf:tY Tryz.prog 65 2:=⟨⟨_,Tryz.underlying65,trivial⟩,by kernel_rfl⟩

theorem aL2:ScT Tryz.prog 133:=⟨⟨_,Tryz.underlying133,trivial⟩,by kernel_rfl⟩

theorem aD6:En Tryz.prog 28:=En.of Tryz.func28 (by kernel_rfl) (by kernel_rfl)

theorem rL:∀ (q:Addr) (w:World),(Instr.fieldAt 65 (.pointer (some q)) 1).run Tryz.prog w=.ok (.pointer (some (q.add 1))) w:=fun _ _=>by kernel_rfl

theorem aKw:En Tryz.prog 84:=En.of Tryz.func84 (by kernel_rfl) (by kernel_rfl)

theorem en_88:En Tryz.prog 88:=En.of Tryz.func88 (by kernel_rfl) (by kernel_rfl)

theorem aL6:En Tryz.prog 105:=En.of Tryz.func105 (by kernel_rfl) (by kernel_rfl)

theorem aKj:En Tryz.prog 62:=En.of Tryz.func62 (by kernel_rfl) (by kernel_rfl)

theorem aLt:En Tryz.prog 104:=En.of Tryz.func104 (by kernel_rfl) (by kernel_rfl)

theorem en_87:En Tryz.prog 87:=En.of Tryz.func87 (by kernel_rfl) (by kernel_rfl)

theorem aKb:En Tryz.prog 58:=En.of Tryz.func58 (by kernel_rfl) (by kernel_rfl)

theorem aK9:En Tryz.prog 59:=En.of Tryz.func59 (by kernel_rfl) (by kernel_rfl)

theorem en_26:En Tryz.prog 26:=En.of Tryz.func26 (by kernel_rfl) (by kernel_rfl)

theorem aFp:fE Tryz.prog 46=some ([i6 0,i6 0],[(0,1),(1,1)]):=by kernel_rfl

theorem tP:(Tryz.prog.info? 46).map (·.size)=some 2:=by kernel_rfl

theorem zr_65:(Tryz.prog.info? 65).map (·.zero)=some (some (.agg #[i6 0,i6 0])):=by kernel_rfl

theorem en_63:En Tryz.prog 63:=En.of Tryz.func63 (by kernel_rfl) (by kernel_rfl)

theorem aAz:tY Tryz.prog 46 2:=⟨⟨_,Tryz.underlying46,trivial⟩,by kernel_rfl⟩

theorem en_61:En Tryz.prog 61:=En.of Tryz.func61 (by kernel_rfl) (by kernel_rfl)

theorem en_60:En Tryz.prog 60:=En.of Tryz.func60 (by kernel_rfl) (by kernel_rfl)

theorem aGh:En Tryz.prog 27:=En.of Tryz.func27 (by kernel_rfl) (by kernel_rfl)

theorem en_9:En Tryz.prog 9:=En.of Tryz.func9 (by kernel_rfl) (by kernel_rfl)

theorem lN:∀ (q:Addr) (w:World),(Instr.fieldAt 46 (.pointer (some q)) 1).run Tryz.prog w=.ok (.pointer (some (q.add 1))) w:=fun _ _=>by kernel_rfl

theorem qD:∀ (q:Addr) (w:World),(Instr.fieldAt 46 (.pointer (some q)) 0).run Tryz.prog w=.ok (.pointer (some (q.add 0))) w:=fun _ _=>by kernel_rfl

theorem kX:(Tryz.prog.info? 41).map (·.zero)=some (some (.agg #[i6 0,i6 0])):=by kernel_rfl

theorem iY:fE Tryz.prog 41=some ([i6 0,i6 0],[(0,1),(1,1)]):=by kernel_rfl

theorem cA:(Tryz.prog.info? 41).map (·.size)=some 2:=by kernel_rfl

theorem eA:tY Tryz.prog 41 2:=⟨⟨_,Tryz.underlying41,trivial⟩,by kernel_rfl⟩

theorem en_19:En Tryz.prog 19:=En.of Tryz.func19 (by kernel_rfl) (by kernel_rfl)

theorem vL:∀ (q:Addr) (w:World),(Instr.fieldAt 43 (.pointer (some q)) 2).run Tryz.prog w=.ok (.pointer (some (q.add 2))) w:=fun _ _=>by kernel_rfl

theorem jQ:∀ (q:Addr) (w:World),(Instr.fieldAt 26 (.pointer (some q)) 1).run Tryz.prog w=.ok (.pointer (some (q.add 1))) w:=fun _ _=>by kernel_rfl

theorem qK:ScT Tryz.prog 24:=⟨⟨_,Tryz.underlying24,trivial⟩,by kernel_rfl⟩

theorem yS:tY Tryz.prog 43 4:=⟨⟨_,Tryz.underlying43,trivial⟩,by kernel_rfl⟩

theorem aKy:SlT Tryz.prog 24 43 4 32 (.agg #[i6 0,i6 0,i6 0,i6 0]):=SlT.of Tryz.underlying24 (by kernel_rfl) (by decide)

theorem lD:SlT Tryz.prog 27 3 1 8 (i6 0):=SlT.of Tryz.underlying27 (by kernel_rfl) (by decide)

theorem sz_24:(Tryz.prog.info? 24).map (·.size)=some 1:=by kernel_rfl

theorem vY:tY Tryz.prog 26 2:=⟨⟨_,Tryz.underlying26,trivial⟩,by kernel_rfl⟩

theorem en_4:En Tryz.prog 4:=En.of Tryz.func4 (by kernel_rfl) (by kernel_rfl)

theorem aL7:ScT Tryz.prog 154:=⟨⟨_,Tryz.underlying154,trivial⟩,by kernel_rfl⟩

theorem oP:∀ (q:Addr) (w:World),(Instr.fieldAt 43 (.pointer (some q)) 0).run Tryz.prog w=.ok (.pointer (some (q.add 0))) w:=fun _ _=>by kernel_rfl

theorem dS:∀ (q:Addr) (w:World),(Instr.fieldAt 41 (.pointer (some q)) 0).run Tryz.prog w=.ok (.pointer (some (q.add 0))) w:=fun _ _=>by kernel_rfl

theorem dC:∀ (q:Addr) (w:World),(Instr.fieldAt 41 (.pointer (some q)) 1).run Tryz.prog w=.ok (.pointer (some (q.add 1))) w:=fun _ _=>by kernel_rfl

theorem en_83:En Tryz.prog 83:=En.of Tryz.func83 (by kernel_rfl) (by kernel_rfl)

theorem aL8:En Tryz.prog 103:=En.of Tryz.func103 (by kernel_rfl) (by kernel_rfl)

theorem aLp:En Tryz.prog 122:=En.of Tryz.func122 (by kernel_rfl) (by kernel_rfl)

theorem aL1:En Tryz.prog 102:=En.of Tryz.func102 (by kernel_rfl) (by kernel_rfl)

theorem en_82:En Tryz.prog 82:=En.of Tryz.func82 (by kernel_rfl) (by kernel_rfl)

theorem en_51:En Tryz.prog 51:=En.of Tryz.func51 (by kernel_rfl) (by kernel_rfl)

theorem bt_75:fE Tryz.prog 75=some ([.slice none 0 0,.slice none 0 0,.slice none 0 0],[(0,2),(2,1)]):=by kernel_rfl

theorem aMc:(Tryz.prog.info? 123).map (·.zero)=some (some (.nilFunc)):=by kernel_rfl

theorem aLf:(Tryz.prog.info? 123).map (·.size)=some 1:=by kernel_rfl

theorem aDi:En Tryz.prog 23:=En.of Tryz.func23 (by kernel_rfl) (by kernel_rfl)

theorem aLd:ScT Tryz.prog 123:=⟨⟨_,Tryz.underlying123,trivial⟩,by kernel_rfl⟩

theorem aJo:∀ (q:Addr) (w:World),(Instr.fieldAt 75 (.pointer (some q)) 0).run Tryz.prog w=.ok (.pointer (some (q.add 0))) w:=fun _ _=>by kernel_rfl

theorem en_52:En Tryz.prog 52:=En.of Tryz.func52 (by kernel_rfl) (by kernel_rfl)

theorem xL:∀ (q:Addr) (w:World),(Instr.fieldAt 75 (.pointer (some q)) 1).run Tryz.prog w=.ok (.pointer (some (q.add 2))) w:=fun _ _=>by kernel_rfl

theorem oW:ScT Tryz.prog 54:=⟨⟨_,Tryz.underlying54,trivial⟩,by kernel_rfl⟩

theorem tR:SlT Tryz.prog 54 41 2 16 (.agg #[i6 0,i6 0]):=SlT.of Tryz.underlying54 (by kernel_rfl) (by decide)

theorem aK3:(Tryz.prog.info? 54).map (·.size)=some 1:=by kernel_rfl

theorem aDd:En Tryz.prog 56:=En.of Tryz.func56 (by kernel_rfl) (by kernel_rfl)

theorem aCk:En Tryz.prog 20:=En.of Tryz.func20 (by kernel_rfl) (by kernel_rfl)

theorem aK8:En Tryz.prog 30:=En.of Tryz.func30 (by kernel_rfl) (by kernel_rfl)

theorem en_53:En Tryz.prog 53:=En.of Tryz.func53 (by kernel_rfl) (by kernel_rfl)

theorem aIw:(Tryz.prog.info? 77).map (·.zero)=some (some (.agg (cH [] 601 aD (fun _=>0) []).toArray)):=by kernel_rfl

theorem en_85:En Tryz.prog 85:=En.of Tryz.func85 (by kernel_rfl) (by kernel_rfl)

@[reducible] def bA (x:Nat→Int):List Value:=cH [] 601 aD x []
theorem cU:∀ x,(bA x).length=601∧mI (bA x)=true:=fun x=>⟨(aDq bD 601 x).1.trans (by decide),(aDq bD 601 x).2⟩

theorem aB7:tY Tryz.prog 77 601:=⟨⟨_,Tryz.underlying77,trivial⟩,by kernel_rfl⟩

theorem aIs:SlT Tryz.prog 72 77 601 4808 (.agg (cH [] 601 aD (fun _=>0) []).toArray):=SlT.of Tryz.underlying72 (by kernel_rfl) (by decide)

theorem xU:ScT Tryz.prog 155:=⟨⟨_,Tryz.underlying155,trivial⟩,by kernel_rfl⟩

theorem rE:(Tryz.prog.info? 77).map (·.size)=some 601:=by kernel_rfl

theorem aAr:(Tryz.prog.info? 3).map (·.zero)=some (some (i6 0)):=by kernel_rfl

theorem en_86:En Tryz.prog 86:=En.of Tryz.func86 (by kernel_rfl) (by kernel_rfl)

theorem aKt:En Tryz.prog 54:=En.of Tryz.func54 (by kernel_rfl) (by kernel_rfl)

theorem en_55:En Tryz.prog 55:=En.of Tryz.func55 (by kernel_rfl) (by kernel_rfl)

theorem aKh:En Tryz.prog 21:=En.of Tryz.func21 (by kernel_rfl) (by kernel_rfl)

theorem en_22:En Tryz.prog 22:=En.of Tryz.func22 (by kernel_rfl) (by kernel_rfl)

theorem zr_27:(Tryz.prog.info? 27).map (·.zero)=some (some (.slice none 0 0)):=by kernel_rfl

theorem aIx:ScT Tryz.prog 27:=⟨⟨_,Tryz.underlying27,trivial⟩,by kernel_rfl⟩

theorem en_57:En Tryz.prog 57:=En.of Tryz.func57 (by kernel_rfl) (by kernel_rfl)

theorem aK7:En Tryz.prog 24:=En.of Tryz.func24 (by kernel_rfl) (by kernel_rfl)

theorem sz_27:(Tryz.prog.info? 27).map (·.size)=some 1:=by kernel_rfl

theorem en_6:En Tryz.prog 6:=En.of Tryz.func6 (by kernel_rfl) (by kernel_rfl)

theorem en_7:En Tryz.prog 7:=En.of Tryz.func7 (by kernel_rfl) (by kernel_rfl)

theorem aKv:(Tryz.prog.info? 39).map (·.zero)=some (some (.agg #[i6 0,i6 0,.slice none 0 0])):=by kernel_rfl

theorem en_29:En Tryz.prog 29:=En.of Tryz.func29 (by kernel_rfl) (by kernel_rfl)

theorem aJ7:(Tryz.prog.info? 72).map (·.zero)=some (some (.slice none 0 0)):=by kernel_rfl

theorem aKo:(Tryz.prog.info? 72).map (·.size)=some 1:=by kernel_rfl

theorem aFn:ScT Tryz.prog 72:=⟨⟨_,Tryz.underlying72,trivial⟩,by kernel_rfl⟩

theorem en_31:En Tryz.prog 31:=En.of Tryz.func31 (by kernel_rfl) (by kernel_rfl)

theorem en_10:En Tryz.prog 10:=En.of Tryz.func10 (by kernel_rfl) (by kernel_rfl)

theorem sV:∀ (q:Addr) (w:World),(Instr.fieldAt 39 (.pointer (some q)) 0).run Tryz.prog w=.ok (.pointer (some (q.add 0))) w:=fun _ _=>by kernel_rfl

theorem tF:∀ (q:Addr) (w:World),(Instr.fieldAt 39 (.pointer (some q)) 1).run Tryz.prog w=.ok (.pointer (some (q.add 1))) w:=fun _ _=>by kernel_rfl

theorem kZ:∀ (q:Addr) (w:World),(Instr.fieldAt 39 (.pointer (some q)) 2).run Tryz.prog w=.ok (.pointer (some (q.add 2))) w:=fun _ _=>by kernel_rfl

theorem sN:ScT Tryz.prog 37:=⟨⟨_,Tryz.underlying37,trivial⟩,by kernel_rfl⟩

theorem aEd:(Tryz.prog.info? 52).map (·.zero)=some (some (.agg #[.bool false,i6 0,i6 0])):=by kernel_rfl

theorem aH7:En Tryz.prog 32:=En.of Tryz.func32 (by kernel_rfl) (by kernel_rfl)

theorem aIg:fE Tryz.prog 52=some ([.bool false,i6 0,i6 0],[(0,1),(1,2)]):=by kernel_rfl

theorem vV:(Tryz.prog.info? 52).map (·.size)=some 3:=by kernel_rfl

theorem uN:tY Tryz.prog 52 3:=⟨⟨_,Tryz.underlying52,trivial⟩,by kernel_rfl⟩

theorem aIo:En Tryz.prog 11:=En.of Tryz.func11 (by kernel_rfl) (by kernel_rfl)

theorem aH2:SlT Tryz.prog 37 52 3 24 (.agg #[.bool false,i6 0,i6 0]):=SlT.of Tryz.underlying37 (by kernel_rfl) (by decide)

theorem sz_37:(Tryz.prog.info? 37).map (·.size)=some 1:=by kernel_rfl

theorem qQ:tY Tryz.prog 39 3:=⟨⟨_,Tryz.underlying39,trivial⟩,by kernel_rfl⟩

theorem vE:En Tryz.prog 35:=En.of Tryz.func35 (by kernel_rfl) (by kernel_rfl)

theorem aFv:En Tryz.prog 40:=En.of Tryz.func40 (by kernel_rfl) (by kernel_rfl)

theorem aL9:ScT Tryz.prog 139:=⟨⟨_,Tryz.underlying139,trivial⟩,by kernel_rfl⟩

theorem aGo:∀ (q:Addr) (w:World),(Instr.fieldAt 52 (.pointer (some q)) 0).run Tryz.prog w=.ok (.pointer (some (q.add 0))) w:=fun _ _=>by kernel_rfl

theorem sc_4:ScT Tryz.prog 4:=⟨⟨_,Tryz.underlying4,trivial⟩,by kernel_rfl⟩

theorem aGe:∀ (q:Addr) (w:World),(Instr.fieldAt 52 (.pointer (some q)) 1).run Tryz.prog w=.ok (.pointer (some (q.add 1))) w:=fun _ _=>by kernel_rfl

theorem aKd:En Tryz.prog 69:=En.of Tryz.func69 (by kernel_rfl) (by kernel_rfl)

theorem en_68:En Tryz.prog 68:=En.of Tryz.func68 (by kernel_rfl) (by kernel_rfl)

theorem en_94:En Tryz.prog 94:=En.of Tryz.func94 (by kernel_rfl) (by kernel_rfl)

theorem aLo:En Tryz.prog 107:=En.of Tryz.func107 (by kernel_rfl) (by kernel_rfl)

theorem en_93:En Tryz.prog 93:=En.of Tryz.func93 (by kernel_rfl) (by kernel_rfl)

theorem en_67:En Tryz.prog 67:=En.of Tryz.func67 (by kernel_rfl) (by kernel_rfl)

theorem aDh:En Tryz.prog 34:=En.of Tryz.func34 (by kernel_rfl) (by kernel_rfl)

theorem bt_95:fE Tryz.prog 95=some ([i6 0,i6 0,.slice none 0 0,.slice none 0 0],[(0,3),(3,1)]):=by kernel_rfl

theorem zr_91:(Tryz.prog.info? 91).map (·.zero)=some (some (.pointer none)):=by kernel_rfl

theorem sz_91:(Tryz.prog.info? 91).map (·.size)=some 1:=by kernel_rfl

theorem nU:ScT Tryz.prog 91:=⟨⟨_,Tryz.underlying91,trivial⟩,by kernel_rfl⟩

theorem kY:∀ (q:Addr) (w:World),(Instr.fieldAt 95 (.pointer (some q)) 1).run Tryz.prog w=.ok (.pointer (some (q.add 3))) w:=fun _ _=>by kernel_rfl

theorem aFt:En Tryz.prog 41:=En.of Tryz.func41 (by kernel_rfl) (by kernel_rfl)

theorem aMa:(Tryz.prog.info? 160).map (·.zero)=some (some (.nilFunc)):=by kernel_rfl

theorem aLj:(Tryz.prog.info? 160).map (·.size)=some 1:=by kernel_rfl

theorem aKq:En Tryz.prog 91:=En.of Tryz.func91 (by kernel_rfl) (by kernel_rfl)

theorem sU:∀ (q:Addr) (w:World),(Instr.fieldAt 95 (.pointer (some q)) 0).run Tryz.prog w=.ok (.pointer (some (q.add 0))) w:=fun _ _=>by kernel_rfl

theorem aI1:ScT Tryz.prog 160:=⟨⟨_,Tryz.underlying160,trivial⟩,by kernel_rfl⟩

theorem aK2:En Tryz.prog 90:=En.of Tryz.func90 (by kernel_rfl) (by kernel_rfl)

theorem aIn:ScT Tryz.prog 138:=⟨⟨_,Tryz.underlying138,trivial⟩,by kernel_rfl⟩

theorem en_92:En Tryz.prog 92:=En.of Tryz.func92 (by kernel_rfl) (by kernel_rfl)

theorem aJ8:En Tryz.prog 97:=En.of Tryz.func97 (by kernel_rfl) (by kernel_rfl)

theorem aH6:En Tryz.prog 108:=En.of Tryz.func108 (by kernel_rfl) (by kernel_rfl)

theorem aKf:En Tryz.prog 96:=En.of Tryz.func96 (by kernel_rfl) (by kernel_rfl)

theorem aK1:En Tryz.prog 75:=En.of Tryz.func75 (by kernel_rfl) (by kernel_rfl)

theorem aId:En Tryz.prog 106:=En.of Tryz.func106 (by kernel_rfl) (by kernel_rfl)

theorem aKk:En Tryz.prog 66:=En.of Tryz.func66 (by kernel_rfl) (by kernel_rfl)

theorem zF:En Tryz.prog 33:=En.of Tryz.func33 (by kernel_rfl) (by kernel_rfl)

theorem aJ9:En Tryz.prog 12:=En.of Tryz.func12 (by kernel_rfl) (by kernel_rfl)

theorem aDa:(Tryz.prog.info? 100).map (·.zero)=some (some (.agg #[.nilFunc,.nilFunc])):=by kernel_rfl

theorem aKp:fE Tryz.prog 99=some ([.nilFunc],[(0,1)]):=by kernel_rfl

theorem aC8:(Tryz.prog.info? 100).map (·.size)=some 2:=by kernel_rfl

theorem aLz:tY Tryz.prog 100 2:=⟨⟨_,Tryz.underlying100,trivial⟩,by kernel_rfl⟩

theorem aHv:En Tryz.prog 36:=En.of Tryz.func36 (by kernel_rfl) (by kernel_rfl)

theorem aGm:(Tryz.prog.info? 99).map (·.size)=some 1:=by kernel_rfl

theorem aGf:tY Tryz.prog 99 1:=⟨⟨_,Tryz.underlying99,trivial⟩,by kernel_rfl⟩

theorem aF2:∀ (q:Addr) (w:World),(Instr.fieldAt 99 (.pointer (some q)) 0).run Tryz.prog w=.ok (.pointer (some (q.add 0))) w:=fun _ _=>by kernel_rfl

theorem aKz:ScT Tryz.prog 97:=⟨⟨_,Tryz.underlying97,trivial⟩,by kernel_rfl⟩

theorem en_70:En Tryz.prog 70:=En.of Tryz.func70 (by kernel_rfl) (by kernel_rfl)

theorem aF1:En Tryz.prog 38:=En.of Tryz.func38 (by kernel_rfl) (by kernel_rfl)

theorem aK5:En Tryz.prog 37:=En.of Tryz.func37 (by kernel_rfl) (by kernel_rfl)

theorem en_71:En Tryz.prog 71:=En.of Tryz.func71 (by kernel_rfl) (by kernel_rfl)

theorem aLa:En Tryz.prog 13:=En.of Tryz.func13 (by kernel_rfl) (by kernel_rfl)

theorem sc_84:ScT Tryz.prog 84:=⟨⟨_,Tryz.underlying84,trivial⟩,by kernel_rfl⟩

theorem en_73:En Tryz.prog 73:=En.of Tryz.func73 (by kernel_rfl) (by kernel_rfl)

theorem en_95:En Tryz.prog 95:=En.of Tryz.func95 (by kernel_rfl) (by kernel_rfl)

theorem en_72:En Tryz.prog 72:=En.of Tryz.func72 (by kernel_rfl) (by kernel_rfl)

theorem en_39:En Tryz.prog 39:=En.of Tryz.func39 (by kernel_rfl) (by kernel_rfl)

theorem en_14:En Tryz.prog 14:=En.of Tryz.func14 (by kernel_rfl) (by kernel_rfl)

theorem en_15:En Tryz.prog 15:=En.of Tryz.func15 (by kernel_rfl) (by kernel_rfl)

theorem bt_39:fE Tryz.prog 39=some ([i6 0,i6 0,.slice none 0 0],[(0,1),(1,1),(2,1)]):=by kernel_rfl

theorem sz_39:(Tryz.prog.info? 39).map (·.size)=some 3:=by kernel_rfl

theorem aEc:En Tryz.prog 42:=En.of Tryz.func42 (by kernel_rfl) (by kernel_rfl)

theorem aKg:En Tryz.prog 74:=En.of Tryz.func74 (by kernel_rfl) (by kernel_rfl)

theorem en_43:En Tryz.prog 43:=En.of Tryz.func43 (by kernel_rfl) (by kernel_rfl)

theorem en_44:En Tryz.prog 44:=En.of Tryz.func44 (by kernel_rfl) (by kernel_rfl)

theorem aHo:Tryz.prog.eqGuardType Tryz.prog.depth 41=false:=by kernel_rfl

theorem aFb (x0:Int) (x1:Int) (y0:Int) (y1:Int) (w:World):(Op.equalIn 10000 41 (.agg #[i6 x0,i6 x1]) (.agg #[i6 y0,i6 y1])).run Tryz.prog w=.ok (x0 == y0 && x1 == y1) w:=by
 rw [run_equalIn_agg w 9999 41 _ _ (by kernel_rfl) (by kernel_rfl)]
 simp [Op.eqFields,part,go_sem]
 repeat' split
 all_goals simp_all

theorem en_45:En Tryz.prog 45:=En.of Tryz.func45 (by kernel_rfl) (by kernel_rfl)

theorem aH3:En Tryz.prog 46:=En.of Tryz.func46 (by kernel_rfl) (by kernel_rfl)

theorem en_76:En Tryz.prog 76:=En.of Tryz.func76 (by kernel_rfl) (by kernel_rfl)

theorem en_47:En Tryz.prog 47:=En.of Tryz.func47 (by kernel_rfl) (by kernel_rfl)

theorem aL3:fE Tryz.prog 144=some ([i6 0,i6 0],[(0,1),(1,1)]):=by kernel_rfl

theorem aIj:SlT Tryz.prog 116 144 2 16 (.agg #[i6 0,i6 0]):=SlT.of Tryz.underlying116 (by kernel_rfl) (by decide)

theorem aKr:En Tryz.prog 49:=En.of Tryz.func49 (by kernel_rfl) (by kernel_rfl)

theorem uO:(Tryz.prog.info? 144).map (·.size)=some 2:=by kernel_rfl

theorem aBa:tY Tryz.prog 144 2:=⟨⟨_,Tryz.underlying144,trivial⟩,by kernel_rfl⟩

theorem aLh:ScT Tryz.prog 164:=⟨⟨_,Tryz.underlying164,trivial⟩,by kernel_rfl⟩

theorem sH:∀ (q:Addr) (w:World),(Instr.fieldAt 144 (.pointer (some q)) 0).run Tryz.prog w=.ok (.pointer (some (q.add 0))) w:=fun _ _=>by kernel_rfl

theorem aAk:∀ (q:Addr) (w:World),(Instr.fieldAt 144 (.pointer (some q)) 1).run Tryz.prog w=.ok (.pointer (some (q.add 1))) w:=fun _ _=>by kernel_rfl

theorem en_99:En Tryz.prog 99:=En.of Tryz.func99 (by kernel_rfl) (by kernel_rfl)

theorem aLm:En Tryz.prog 110:=En.of Tryz.func110 (by kernel_rfl) (by kernel_rfl)

theorem aLs:En Tryz.prog 123:=En.of Tryz.func123 (by kernel_rfl) (by kernel_rfl)

theorem aLx:En Tryz.prog 109:=En.of Tryz.func109 (by kernel_rfl) (by kernel_rfl)

theorem en_98:En Tryz.prog 98:=En.of Tryz.func98 (by kernel_rfl) (by kernel_rfl)

theorem aK0:En Tryz.prog 77:=En.of Tryz.func77 (by kernel_rfl) (by kernel_rfl)

theorem aH0:(Tryz.prog.info? 144).map (·.zero)=some (some (.agg #[i6 0,i6 0])):=by kernel_rfl

theorem en_78:En Tryz.prog 78:=En.of Tryz.func78 (by kernel_rfl) (by kernel_rfl)

theorem en_79:En Tryz.prog 79:=En.of Tryz.func79 (by kernel_rfl) (by kernel_rfl)

@[reducible] def dR (k:Int × Int):Value:=.agg #[i6 k.1,i6 k.2]

set_option maxRecDepth 100000 in
theorem pJ:aGr Tryz.prog 150 dR :=
 aJ2 (by kernel_rfl) (fun a b h=>by
   simp only [dR,Value.agg.injEq,Array.mk.injEq,List.cons.injEq,Value.int.injEq,Value.bool.injEq,true_and,and_true] at h
   grind) (fun a b=>decide (a=b)) (fun a b=>by simp)
  (fun a b w=>by
   show (Op.equalIn 10000 150 _ _).run Tryz.prog w=_
   rw [run_equalIn_agg w 9999 150 _ _ (by kernel_rfl) (by kernel_rfl)]
   simp [Op.eqFields,part,go_sem]
   repeat' split
   all_goals (refine congrArg (fun q=>Result.ok q w) ?_; symm; simp_all [Prod.ext_iff]))
  (fun e k w=>by rw [Instr.checkKey]; simp [run_underlying Tryz.underlying150,part,go_sem,aHq (n:=9998) Tryz.underlying3]) (fun k=>by simp [Instr.sameBits])

theorem yI:fE Tryz.prog 150=some ([i6 0,i6 0],[(0,1),(1,1)]):=by kernel_rfl

theorem aAu:(Tryz.prog.info? 150).map (·.zero)=some (some (.agg #[i6 0,i6 0])):=by kernel_rfl

theorem aDc:(Tryz.prog.info? 150).map (·.size)=some 2:=by kernel_rfl

theorem en_80:En Tryz.prog 80:=En.of Tryz.func80 (by kernel_rfl) (by kernel_rfl)

theorem rR:tY Tryz.prog 150 2:=⟨⟨_,Tryz.underlying150,trivial⟩,by kernel_rfl⟩

theorem aDu:∀ (q:Addr) (w:World),(Instr.fieldAt 150 (.pointer (some q)) 1).run Tryz.prog w=.ok (.pointer (some (q.add 1))) w:=fun _ _=>by kernel_rfl

theorem aMb:Tryz.prog.eqGuardType Tryz.prog.depth 150=false:=by kernel_rfl

theorem aJj (x0:Int) (x1:Int) (y0:Int) (y1:Int) (w:World):(Op.equalIn 10000 150 (.agg #[i6 x0,i6 x1]) (.agg #[i6 y0,i6 y1])).run Tryz.prog w=.ok (x0 == y0 && x1 == y1) w:=by
 rw [run_equalIn_agg w 9999 150 _ _ (by kernel_rfl) (by kernel_rfl)]
 simp [Op.eqFields,part,go_sem]
 repeat' split
 all_goals simp_all

theorem aD7:∀ (q:Addr) (w:World),(Instr.fieldAt 150 (.pointer (some q)) 0).run Tryz.prog w=.ok (.pointer (some (q.add 0))) w:=fun _ _=>by kernel_rfl

theorem en_48:En Tryz.prog 48:=En.of Tryz.func48 (by kernel_rfl) (by kernel_rfl)

theorem aI9:fE Tryz.prog 120=some ([i6 0,i6 0,i6 0],[(0,1),(1,1),(2,1)]):=by kernel_rfl

theorem aLg:SlT Tryz.prog 121 120 3 24 (.agg #[i6 0,i6 0,i6 0]):=SlT.of Tryz.underlying121 (by kernel_rfl) (by decide)

theorem aL5:(Tryz.prog.info? 151).map (·.zero)=some (some (.agg (cH [] 30 aD (fun _=>0) []).toArray)):=by kernel_rfl

theorem aHl:(Tryz.prog.info? 120).map (·.size)=some 3:=by kernel_rfl

theorem aHn:tY Tryz.prog 120 3:=⟨⟨_,Tryz.underlying120,trivial⟩,by kernel_rfl⟩

theorem aLi:(Tryz.prog.info? 120).map (·.zero)=some (some (.agg #[i6 0,i6 0,i6 0])):=by kernel_rfl

theorem wV:∀ (q:Addr) (w:World),(Instr.fieldAt 120 (.pointer (some q)) 0).run Tryz.prog w=.ok (.pointer (some (q.add 0))) w:=fun _ _=>by kernel_rfl

theorem xD:∀ (q:Addr) (w:World),(Instr.fieldAt 120 (.pointer (some q)) 1).run Tryz.prog w=.ok (.pointer (some (q.add 1))) w:=fun _ _=>by kernel_rfl

theorem xI:∀ (q:Addr) (w:World),(Instr.fieldAt 120 (.pointer (some q)) 2).run Tryz.prog w=.ok (.pointer (some (q.add 2))) w:=fun _ _=>by kernel_rfl

theorem en_81:En Tryz.prog 81:=En.of Tryz.func81 (by kernel_rfl) (by kernel_rfl)

theorem en_50:En Tryz.prog 50:=En.of Tryz.func50 (by kernel_rfl) (by kernel_rfl)

theorem en_16:En Tryz.prog 16:=En.of Tryz.func16 (by kernel_rfl) (by kernel_rfl)

def aAa (N:Nat) (B:List Int):Option (Int × Int) :=
 some (0,0)
theorem aA6 {N:Nat} {G:aS} {Lf:List Ent} {w:World} (H:List Int) {B:Option Addr} {D:Nat} (M:Rd G 1 B D (H.map qC)) (hc:Ctx G (Lf) w) {I:Int × Int} (hF:aAa N H=some I):Calls Tryz.prog 5 #[.slice B H.length D] w (fun e w=>∃ (J:Nat),e=.returned (pq J)∧Ctx G (.box J [.slice B H.length D,i6 I.1,i6 I.2] 68::Lf) w):=by
 unfold aAa at hF
 refine cB Tryz.func5 rfl Tryz.ntmps5 rfl fun a hf=>zS fun K h=>sp 1 hf rfl fun a hf=>zT h ?_
 refine zS fun K h=>sp 1 hf rfl fun a hf=>zP hf rfl (bH (cells:=[.slice B H.length D,i6 0,i6 0]) bt_68 rfl rfl) fun a hf=>zB hf hc rfl fun O a w hf hc=>sp 1 hf rfl fun a hf=>zT h ?_
 refine wp_ret ?_
 obtain rfl:=sj hF
 exact zO1 Tryz.results5 hf rfl ⟨O,rfl,hc⟩

def fB (N:Nat) (s_:bC) (n:Int) (D:Int) (B:Int):Option (Int × Int × Int) :=
 Option.bind (nz n) fun H=>
 some (B.tmod n,W (s_.used + 1),(W ((W ((W (5 * s_.mix)) + D)) + 1)).tmod 251)
def eX (N:Nat) (s_:bC) (n:Int) (B:Int):Option (Int × Int × Int) :=
 cond (decide (256 < n))
 (fB N s_ n B (W ((W (256 * B)) + ((W ((W ((W (5 * s_.mix)) + B)) + 1)).tmod 251))))
 (fB N s_ n B B)
def cM (N:Nat) (s_:bC) (n:Int):Option (Int × Int × Int) :=
 cond ((decide (n < 2)) || (((s_.bytes.length:Nat):Int) == 0))
 (some (0,s_.used,s_.mix))
 (Option.bind (nz ((s_.bytes.length:Nat):Int)) fun un=>
 Option.bind (bG s_.bytes (s_.used.tmod ((s_.bytes.length:Nat):Int))) fun B=>
 cond (decide (((s_.bytes.length:Nat):Int)≤s_.used))
 (Option.bind (nz ((s_.bytes.length:Nat):Int)) fun D=>
 eX N s_ n (W ((W (B)) + (W ((W (11 * s_.mix)) + (W (s_.used.tdiv ((s_.bytes.length:Nat):Int))))))))
 (eX N s_ n (W (B))))
theorem iK {N:Nat} {G:aS} {Lf:List Ent} {w:World} (s_:bC) (n:Int) {b_:Nat} {D:Option Addr} {B:Nat} (J:Rd G 1 D B (s_.bytes.map qC)) (hc:Ctx G (.box b_ [.slice D s_.bytes.length B,i6 s_.used,i6 s_.mix] 68::Lf) w) {I:Int × Int × Int} (hF:cM N s_ n=some I):Calls Tryz.prog 18 #[pq b_,i6 n] w (fun e w=>e=.returned (i6 I.1)∧Ctx G (.box b_ [.slice D s_.bytes.length B,i6 I.2.1,i6 I.2.2] 68::Lf) w):=by
 unfold cM at hF
 refine cB Tryz.func18 rfl Tryz.ntmps18 rfl fun a hf=>zS fun K h=>sp 1 hf rfl fun a hf=>zT h ?_
 refine wp_seq_k fun K2 h2=>zS fun K h=>sp 3 hf rfl fun a hf=>hY 7 (fun a=>Has 92 a [(0,pq b_),(1,i6 n),(6,i6 n),(7,.bool (decide (n < 2))),(8,.bool (decide (n < 2))),(15,.bool ((decide (n < 2)) || (((s_.bytes.length:Nat):Int) == 0)))]) hc ?_ ?_
 ·cases hb:(decide (n < 2))
  ·rw [hb] at hf
   refine sp 2 hf rfl fun a hf=>zP hf rfl (pFA xQ rfl) fun a hf=>zL hf hc aEm m0 rfl fun a w hf hc=>zP hf rfl (bM Tryz.underlying22 rfl) fun a hf=>sp 2 hf rfl fun a hf=>aP ⟨hf.kp rfl,hc⟩
  ·rw [hb] at hf
   refine stS hf rfl rfl rfl fun a hf=>stS hf rfl rfl rfl fun a hf=>stS hf rfl rfl rfl fun a hf=>stS hf rfl rfl rfl fun a hf=>stS hf rfl rfl rfl fun a hf=>stS hf rfl rfl rfl fun a hf=>sp 1 hf rfl fun a hf=>aP ⟨hf.kp rfl,hc⟩
 intro a w ⟨hf,hc⟩
 refine zT h ?_
 refine zI hf rfl hF ?_ ?_ <;> clear hF <;> intro hF
 ·refine zS fun K h=>sp 1 hf rfl fun a hf=>zT h ?_
  refine wp_ret ?_
  refine aO ?_
  obtain rfl:=sj hF
  exact zO1 Tryz.results18 hf rfl ⟨rfl,hc⟩
 ·refine wp_skip ?_
  refine h2 _ _ ?_
  refine wp_seq_k fun K5 h5=>?_
  obtain ⟨un,Z,hF⟩:=aB hF
  obtain ⟨S,X,hF⟩:=aB hF
  obtain ⟨g,o,qa,qp⟩:=J.atm X
  refine cQ hc aT (by kernel_rfl) ?_
  refine qE hf rfl rfl rfl (Pu.ev (pM rfl)) fun a hf=>qE hf rfl rfl rfl (Pu.ev (pNC rfl)) fun a hf=>qE hf rfl rfl rfl (Pu.ev (pFA xQ rfl)) fun a hf=>qE hf rfl rfl rfl (cE aEm rfl (bR m0 rfl)) fun a hf=>qE hf rfl rfl rfl (Pu.ev (pM rfl)) fun a hf=>qE hf rfl rfl rfl (Pu.ev (pNC rfl)) fun a hf=>qE hf rfl rfl rfl (Pu.ev (pFA wW rfl)) fun a hf=>qE hf rfl rfl rfl (cE aU rfl (bR m0 rfl)) fun a hf=>qE hf rfl rfl rfl (Pu.ev (pM rfl)) fun a hf=>qE hf rfl rfl rfl (Pu.ev (pNC rfl)) fun a hf=>qE hf rfl rfl rfl (Pu.ev (pFA xQ rfl)) fun a hf=>qE hf rfl rfl rfl (cE aEm rfl (bR m0 rfl)) fun a hf=>qE hf rfl rfl rfl (Pu.ev (bM Tryz.underlying22 rfl)) fun a hf=>?_
  refine qE hf rfl rfl rfl (Pu.ev (pRem rfl rfl (nC Z))) fun a hf=>qE hf rfl rfl rfl (Pu.ev (pIA Tryz.underlying22 sz_5 rfl rfl qa)) fun a hf=>qE hf rfl rfl rfl (cE sc_5 rfl (dX (j:=0) qp rfl)) fun a hf=>qE hf rfl rfl rfl (Pu.ev (pCv Tryz.underlying5 Tryz.underlying3 rfl)) fun a hf=>qE hf rfl rfl rfl (Pu.ev (pA rfl)) fun a hf=>?_
  intro w hc
  refine h5 _ _ ?_
  refine wp_seq_k fun K6 h6=>?_
  have V:∀ (H:Int) a w,Has 92 a [(0,pq b_),(1,i6 n),(5,i6 H)]→Ctx G (.box b_ [.slice D s_.bytes.length B,i6 s_.used,i6 s_.mix] 68::Lf) w→eX N s_ n H=some I→K6 a w:=by
   repeat (clear hF)
   repeat (clear hc)
   repeat (clear hf)
   intro H a w hf hc hF
   unfold eX at hF
   refine h6 _ _ ?_
   refine zS fun K h=>sp 3 hf rfl fun a hf=>zP hf rfl (pFA aAc rfl) fun a hf=>zL hf hc aU m0 rfl fun a w hf hc=>sp 4 hf rfl fun a hf=>zP hf rfl (pRem rfl rfl (by decide)) fun a hf=>sp 1 hf rfl fun a hf=>zP hf rfl (pFA aAc rfl) fun a hf=>zW hf hc eL u0 rfl fun w hc=>zT h ?_
   refine zS fun K h=>sp 2 hf rfl fun a hf=>zP hf rfl (pFA wW rfl) fun a hf=>zL hf hc aU m0 rfl fun a w hf hc=>sp 2 hf rfl fun a hf=>zP hf rfl (pFA wW rfl) fun a hf=>zW hf hc eL u0 rfl fun w hc=>zT h ?_
   refine wp_seq_k fun K9 h9=>?_
   have U:∀ (M:Int) a w,Has 92 a [(1,i6 n),(5,i6 M)]→Ctx G (.box b_ [.slice D s_.bytes.length B,i6 (W (s_.used + 1)),i6 ((W ((W ((W (5 * s_.mix)) + H)) + 1)).tmod 251)] 68::Lf) w→fB N s_ n H M=some I→K9 a w:=by
    repeat (clear hF)
    repeat (clear hc)
    repeat (clear hf)
    intro M a w hf hc hF
    unfold fB at hF
    refine h9 _ _ ?_
    refine zS fun K h=>sp 2 hf rfl fun a hf=>?_
    obtain ⟨d,R,hF⟩:=aB hF
    refine zP hf rfl (pRem rfl rfl (nC R)) fun a hf=>sp 1 hf rfl fun a hf=>zT h ?_
    refine wp_ret ?_
    obtain rfl:=sj hF
    exact zO1 Tryz.results18 hf rfl ⟨rfl,hc⟩
   refine zS fun K h=>sp 2 hf rfl fun a hf=>zT h ?_
   refine zI hf rfl hF ?_ ?_ <;> clear hF <;> intro hF
   ·refine dE ?_
    refine sp 4 hf rfl fun a hf=>zP hf rfl (pFA aAc rfl) fun a hf=>zL hf hc aU m0 rfl fun a w hf hc=>sp 2 hf rfl fun a hf=>aP ?_
    exact U (W ((W (256 * H)) + ((W ((W ((W (5 * s_.mix)) + H)) + 1)).tmod 251))) _ _  (hf.kp rfl) hc hF
   ·refine wp_skip ?_
    exact U H _ _  (hf.kp rfl) hc hF
  refine wp_seq_k fun K12 Y=>cQ hc aT (by kernel_rfl) ?_
  refine qE hf rfl rfl rfl (Pu.ev (pM rfl)) fun a hf=>qE hf rfl rfl rfl (Pu.ev (pNC rfl)) fun a hf=>qE hf rfl rfl rfl (Pu.ev (pFA wW rfl)) fun a hf=>qE hf rfl rfl rfl (cE aU rfl (bR m0 rfl)) fun a hf=>qE hf rfl rfl rfl (Pu.ev (pM rfl)) fun a hf=>qE hf rfl rfl rfl (Pu.ev (pNC rfl)) fun a hf=>qE hf rfl rfl rfl (Pu.ev (pFA xQ rfl)) fun a hf=>qE hf rfl rfl rfl (cE aEm rfl (bR m0 rfl)) fun a hf=>qE hf rfl rfl rfl (Pu.ev (bM Tryz.underlying22 rfl)) fun a hf=>qE hf rfl rfl rfl (Pu.ev (pGe rfl rfl)) fun a hf=>?_
  intro w hc
  refine Y _ _ ?_
  refine zI hf rfl hF ?_ ?_ <;> clear hF <;> intro hF
  ·obtain ⟨b,O,hF⟩:=aB hF
   refine cQ hc aT (by kernel_rfl) ?_
   refine qE hf rfl rfl rfl (Pu.ev (pM rfl)) fun a hf=>qE hf rfl rfl rfl (Pu.ev (pM rfl)) fun a hf=>qE hf rfl rfl rfl (Pu.ev (pNC rfl)) fun a hf=>qE hf rfl rfl rfl (Pu.ev (pFA aAc rfl)) fun a hf=>qE hf rfl rfl rfl (cE aU rfl (bR m0 rfl)) fun a hf=>qE hf rfl rfl rfl (Pu.ev (pMul rfl rfl)) fun a hf=>qE hf rfl rfl rfl (Pu.ev (pM rfl)) fun a hf=>qE hf rfl rfl rfl (Pu.ev (pNC rfl)) fun a hf=>qE hf rfl rfl rfl (Pu.ev (pFA wW rfl)) fun a hf=>qE hf rfl rfl rfl (cE aU rfl (bR m0 rfl)) fun a hf=>qE hf rfl rfl rfl (Pu.ev (pM rfl)) fun a hf=>qE hf rfl rfl rfl (Pu.ev (pNC rfl)) fun a hf=>qE hf rfl rfl rfl (Pu.ev (pFA xQ rfl)) fun a hf=>?_
   refine qE hf rfl rfl rfl (cE aEm rfl (bR m0 rfl)) fun a hf=>qE hf rfl rfl rfl (Pu.ev (bM Tryz.underlying22 rfl)) fun a hf=>qE hf rfl rfl rfl (Pu.ev (aD5 rfl rfl (nC O))) fun a hf=>qE hf rfl rfl rfl (Pu.ev (aBv rfl rfl)) fun a hf=>qE hf rfl rfl rfl (Pu.ev (aBv rfl rfl)) fun a hf=>qE hf rfl rfl rfl (Pu.ev (pA rfl)) fun a hf=>?_
   intro w hc
   exact V (W ((W (S)) + (W ((W (11 * s_.mix)) + (W (s_.used.tdiv ((s_.bytes.length:Nat):Int))))))) _ _  (hf.kp rfl) hc hF
  ·refine wp_skip ?_
   exact V (W (S)) _ _  (hf.kp rfl) hc hF

def aZ (N:Nat) (s_:bC) (lo:Int) (B:Int):Option (Int × Int × Int) :=
 Option.bind (cM N s_ (W ((W (B - lo)) + 1))) fun r=>
 some (W (lo + r.1),r.2.1,r.2.2)
theorem cD {N:Nat} {G:aS} {Lf:List Ent} {w:World} (s_:bC) (lo:Int) (J:Int) {b_:Nat} {D:Option Addr} {B:Nat} (H:Rd G 1 D B (s_.bytes.map qC)) (hc:Ctx G (.box b_ [.slice D s_.bytes.length B,i6 s_.used,i6 s_.mix] 68::Lf) w) {I:Int × Int × Int} (hF:aZ N s_ lo J=some I):Calls Tryz.prog 8 #[pq b_,i6 lo,i6 J] w (fun e w=>e=.returned (i6 I.1)∧Ctx G (.box b_ [.slice D s_.bytes.length B,i6 I.2.1,i6 I.2.2] 68::Lf) w):=by
 unfold aZ at hF
 refine cB Tryz.func8 rfl Tryz.ntmps8 rfl fun a hf=>zS fun K h=>sp 1 hf rfl fun a hf=>zT h ?_
 refine zS fun K h=>sp 6 hf rfl fun a hf=>?_
 obtain ⟨r,hr,hF⟩:=aB hF
 refine zC hf aDk rfl (iK s_ (W ((W (J - lo)) + 1)) H (hc.pick k0) hr) ?_
 rintro _ w ⟨rfl,hc⟩
 refine ⟨_,rfl,fun a hf=>?_⟩
 refine sp 2 hf rfl fun a hf=>zT h ?_
 refine wp_ret ?_
 obtain rfl:=sj hF
 exact zO1 Tryz.results8 hf rfl ⟨rfl,hc⟩

def iE (N:Nat) (s_:bC) (O:Int × Int × Int) (out:List aE) (B:Int) (D:Int) (x:Int) (I:Int) (M:Int):Option (cY ((List aE) × Int × Int × Int × Int × Int) ((List aE) × Int × Int)) :=
 cond (decide (x < O.1))
 (Option.bind (pG ((out++[(⟨B,D⟩:aE)])).length) fun un=>
 Option.bind (aZ N (⟨s_.bytes,I,M⟩:bC) 1 30) fun H=>
 Option.bind (aZ N (⟨s_.bytes,H.2.1,H.2.2⟩:bC) 1 400) fun J=>
 some (.cont ((out++[(⟨B,D⟩:aE)]),W (B + H.1),W (D + J.1),W (x + 1),J.2.1,J.2.2)))
 (some (.brk (out,B,D,x,I,M)))
def pD (N:Nat) (s_:bC):Option ((List aE) × Int × Int) :=
 Option.bind (aZ N s_ (-20) 20) fun r=>
 Option.bind (cM N (⟨s_.bytes,r.2.1,r.2.2⟩:bC) 50) fun B=>
 Option.bind (aZ N (⟨s_.bytes,B.2.1,B.2.2⟩:bC) 2 7) fun D=>
 Option.bind (bE (fun s6=>iE N s_ D s6.1 s6.2.1 s6.2.2.1 s6.2.2.2.1 s6.2.2.2.2.1 s6.2.2.2.2.2) N (([]:List aE),r.1,B.1,0,D.2.1,D.2.2)) fun x6=>
 exK x6 (fun s6=>some (s6.1,s6.2.2.2.2.1,s6.2.2.2.2.2)) some
theorem aBs {N:Nat} {G:aS} {Lf:List Ent} {w:World} (s_:bC) {b_:Nat} {H:Option Addr} {D:Nat} (B:Rd G 1 H D (s_.bytes.map qC)) (hc:Ctx G (.box b_ [.slice H s_.bytes.length D,i6 s_.used,i6 s_.mix] 68::Lf) w) {M:(List aE) × Int × Int} (hF:pD N s_=some M):Calls Tryz.prog 17 #[pq b_] w (fun e w=>∃ (g:Option Addr) (i:Nat),e=.returned (.slice g M.1.length i)∧Ctx G (.row g i (M.1.map aW) 65 2::.box b_ [.slice H s_.bytes.length D,i6 M.2.1,i6 M.2.2] 68::Lf) w):=by
 unfold pD at hF
 refine cB Tryz.func17 rfl Tryz.ntmps17 rfl fun a hf=>zS fun K h=>sp 1 hf rfl fun a hf=>zT h ?_
 refine zS fun K h=>sp 1 hf rfl fun a hf=>zT h ?_
 refine zS fun K h=>sp 1 hf rfl fun a hf=>?_
 obtain ⟨r,hr,hF⟩:=aB hF
 refine zC hf aBz rfl (cD s_ (-20) 20 B (hc.pick k0) hr) ?_
 rintro _ w ⟨rfl,hc⟩
 refine ⟨_,rfl,fun a hf=>?_⟩
 refine sp 1 hf rfl fun a hf=>?_
 obtain ⟨V,j,hF⟩:=aB hF
 refine zC hf aDk rfl (iK (⟨s_.bytes,r.2.1,r.2.2⟩:bC) 50 B (hc.pick k0) j) ?_
 rintro _ w ⟨rfl,hc⟩
 refine ⟨_,rfl,fun a hf=>?_⟩
 refine sp 2 hf rfl fun a hf=>zT h ?_
 refine wp_seq_k fun K4 h4=>zS fun K h=>sp 1 hf rfl fun a hf=>?_
 obtain ⟨Y,k,hF⟩:=aB hF
 refine zC hf aBz rfl (cD (⟨s_.bytes,V.2.1,V.2.2⟩:bC) 2 7 B (hc.pick k0) k) ?_
 rintro _ w ⟨rfl,hc⟩
 refine ⟨_,rfl,fun a hf=>?_⟩
 refine sp 1 hf rfl fun a hf=>zT h ?_
 refine wp_block ?_
 obtain ⟨x6,v,hF⟩:=aB hF
 let S6:((List aE) × Int × Int × Int × Int × Int)→Act→World→Prop:=(fun (zz:(List aE) × Int × Int × Int × Int × Int) a w=>∃ (O:Option Addr) (R:Nat),Has 30 a [(0,pq b_),(3,.slice O zz.1.length R),(4,i6 zz.2.1),(5,i6 zz.2.2.1),(11,i6 Y.1),(12,i6 zz.2.2.2.1)]∧Ctx G (.row O R (zz.1.map aW) 65 2::.box b_ [.slice H s_.bytes.length D,i6 zz.2.2.2.2.1,i6 zz.2.2.2.2.2] 68::Lf) w)
 have s:∀ (zz:(List aE) × Int × Int × Int × Int × Int) a w,x6=.go zz→S6 zz a w→K4 a w:=by
  rintro ⟨out,I,J,x,d,X⟩ a w rfl ⟨O,R,hf,hc⟩
  replace hF:=bW hF
  refine h4 _ _ ?_
  refine zS fun K h=>sp 2 hf rfl fun a hf=>zT h ?_
  refine wp_ret ?_
  obtain rfl:=sj hF
  exact zO1 Tryz.results17 hf rfl ⟨O,R,rfl,hc⟩
 have y:∀ r,x6=.out r→r=M:=by
  rintro r rfl
  exact sj hF
 replace hc:=hc.nilRow 65 2
 refine dO N (dH (S:=S6) (x:=x6) ?_ N (([]:List aE),r.1,V.1,0,Y.2.1,Y.2.2) _ _ ⟨none,0,hf.kp rfl,hc⟩ v)
 clear hF hf hc
 rintro ⟨out,I,J,x,d,X⟩ z a w KB6 ⟨O,R,hf,hc⟩ hF U u
 unfold iE at hF
 refine zS fun K h=>sp 1 hf rfl fun a hf=>zT h ?_
 refine wp_seq_k fun K9 h9=>zI hf rfl hF ?_ ?_ <;> clear hF <;> intro hF
 ·refine wp_skip ?_
  refine h9 _ _ ?_
  refine wp_seq_k fun K10 t=>wp_block ?_
  refine zS fun K h=>sp 3 hf rfl fun a hf=>zP hf rfl (bH (cells:=[i6 I,i6 J]) bt_65 rfl rfl) fun a hf=>mY (rows:=([(⟨I,J⟩:aE)]:List aE).map aW) (vs:=[(0,.agg #[i6 I,i6 J])]) hf hc rfl rfl aK4 rfl ⟨rfl,rfl,rfl,trivial⟩ rfl rfl fun aa a w hf hc=>?_
  obtain ⟨un,q,hF⟩:=aB hF
  refine nT (xs:=out) (ys:=([(⟨I,J⟩:aE)]:List aE)) hf hc rfl rfl aK4 rfl rfl rfl rfl rfl wO (iL hc m0) (fun _ _=>u1) (by simpa using eR q) fun p o a w hf hc=>sp 1 hf rfl fun a hf=>zT h ?_
  refine dE ?_
  refine sp 2 hf rfl fun a hf=>?_
  obtain ⟨b,n,hF⟩:=aB hF
  refine zC hf aBz rfl (cD (⟨s_.bytes,d,X⟩:bC) 1 30 B (hc.pick k2) n) ?_
  rintro _ w ⟨rfl,hc⟩
  refine ⟨_,rfl,fun a hf=>?_⟩
  refine sp 3 hf rfl fun a hf=>?_
  obtain ⟨Z,m,hF⟩:=aB hF
  refine zC hf aBz rfl (cD (⟨s_.bytes,b.2.1,b.2.2⟩:bC) 1 400 B (hc.pick k0) m) ?_
  rintro _ w ⟨rfl,hc⟩
  refine ⟨_,rfl,fun a hf=>?_⟩
  refine sp 3 hf rfl fun a hf=>aP ?_
  refine t _ _ ?_
  refine dE ?_
  refine sp 2 hf rfl fun a hf=>aP ?_
  replace hc:=((hc.drop k1).pick k0).pick k1
  exact u ((out++[(⟨I,J⟩:aE)]),W (I + b.1),W (J + Z.1),W (x + 1),Z.2.1,Z.2.2) _ _ (sj hF).symm ⟨p,o,hf.kp rfl,hc⟩
 ·refine wp_exit ?_
  refine aV ?_
  refine aV ?_
  have he:=sj hF
  rw [← he] at U
  refine eW ?_
  exact s _ _ _ U ⟨O,R,hf.kp rfl,hc⟩

def aG (n:Int) (D:Int) (B:Int):Bool :=
 ((decide (D≤n)) && (decide (n≤B)))
theorem eO {G:aS} {Lf:List Ent} {w:World} (n:Int) (B:Int) (D:Int)   (hc:Ctx G (Lf) w) {H:Bool} (hF:aG n B D=H):Calls Tryz.prog 25 #[i6 n,i6 B,i6 D] w (fun e w=>e=.returned (.bool H)∧Ctx G (Lf) w):=by
 unfold aG at hF
 refine cB Tryz.func25 rfl Tryz.ntmps25 rfl fun a hf=>zS fun K h=>sp 1 hf rfl fun a hf=>zT h ?_
 refine zS fun K h=>sp 4 hf rfl fun a hf=>hY 4 (fun a=>Has 15 a [(0,i6 n),(1,i6 B),(2,i6 D),(6,.bool false),(7,i6 n),(8,i6 B),(9,.bool (decide (B≤n))),(10,.bool (decide (B≤n))),(14,.bool ((decide (B≤n)) && (decide (n≤D))))]) hc ?_ ?_
 ·cases hb:(decide (B≤n))
  ·rw [hb] at hf
   refine stS hf rfl rfl rfl fun a hf=>stS hf rfl rfl rfl fun a hf=>stS hf rfl rfl rfl fun a hf=>sp 1 hf rfl fun a hf=>aP ⟨hf.kp rfl,hc⟩
  ·rw [hb] at hf
   refine sp 4 hf rfl fun a hf=>aP ⟨hf.kp rfl,hc⟩
 intro a w ⟨hf,hc⟩
 refine sp 1 hf rfl fun a hf=>zT h ?_
 refine wp_ret ?_
 obtain rfl:=hF
 exact zO1 Tryz.results25 hf rfl ⟨rfl,hc⟩

def aY (n:Int):Bool :=
 (aG n (-2000) 2000)
theorem lG {G:aS} {Lf:List Ent} {w:World} (n:Int)   (hc:Ctx G (Lf) w) {B:Bool} (hF:aY n=B):Calls Tryz.prog 28 #[i6 n] w (fun e w=>e=.returned (.bool B)∧Ctx G (Lf) w):=by
 unfold aY at hF
 refine cB Tryz.func28 rfl Tryz.ntmps28 rfl fun a hf=>zS fun K h=>sp 1 hf rfl fun a hf=>zT h ?_
 refine zS fun K h=>sp 1 hf rfl fun a hf=>zQ (v:=.bool (aG n (-2000) 2000)) hf hc rI rfl (fun w hc=>eO n (-2000) 2000 hc rfl) fun a w hf hc=>sp 1 hf rfl fun a hf=>zT h ?_
 refine wp_ret ?_
 obtain rfl:=hF
 exact zO1 Tryz.results28 hf rfl ⟨rfl,hc⟩

def iA (n:Int):Bool :=
 (aG n 0 1000000000)
theorem vX {G:aS} {Lf:List Ent} {w:World} (n:Int)   (hc:Ctx G (Lf) w) {B:Bool} (hF:iA n=B):Calls Tryz.prog 84 #[i6 n] w (fun e w=>e=.returned (.bool B)∧Ctx G (Lf) w):=by
 unfold iA at hF
 refine cB Tryz.func84 rfl Tryz.ntmps84 rfl fun a hf=>zS fun K h=>sp 1 hf rfl fun a hf=>zT h ?_
 refine zS fun K h=>sp 1 hf rfl fun a hf=>zQ (v:=.bool (aG n 0 1000000000)) hf hc rI rfl (fun w hc=>eO n 0 1000000000 hc rfl) fun a w hf hc=>sp 1 hf rfl fun a hf=>zT h ?_
 refine wp_ret ?_
 obtain rfl:=hF
 exact zO1 Tryz.results84 hf rfl ⟨rfl,hc⟩

def dU (m:aE):Bool :=
 ((aY m.Stage) && (iA m.Flow))
theorem xZ {G:aS} {Lf:List Ent} {w:World} (m:aE)   (hc:Ctx G (Lf) w) {B:Bool} (hF:dU m=B):Calls Tryz.prog 88 #[.agg #[i6 m.Stage,i6 m.Flow]] w (fun e w=>e=.returned (.bool B)∧Ctx G (Lf) w):=by
 unfold dU at hF
 refine cB Tryz.func88 rfl Tryz.ntmps88 rfl fun a hf=>zS fun K h=>zB hf hc rfl fun D a w hf hc=>sp 1 hf rfl fun a hf=>zT h ?_
 refine zS fun K h=>zP hf rfl (pFA mZ rfl) fun a hf=>zL hf hc aU m0 rfl fun a w hf hc=>zQ (v:=.bool (aY m.Stage)) hf hc aD6 rfl (fun w hc=>lG m.Stage hc rfl) fun a w hf hc=>sp 1 hf rfl fun a hf=>hY 4 (fun a=>Has 11 a [(1,pq D),(2,.bool false),(3,pq D),(4,i6 m.Stage),(5,.bool (aY m.Stage)),(6,.bool (aY m.Stage)),(10,.bool ((aY m.Stage) && (iA m.Flow)))]) hc ?_ ?_
 ·cases hb:(aY m.Stage)
  ·rw [hb] at hf
   refine stS hf rfl rfl rfl fun a hf=>stS hf rfl rfl rfl fun a hf=>stS hf rfl rfl rfl fun a hf=>sp 1 hf rfl fun a hf=>aP ⟨hf.kp rfl,hc⟩
  ·rw [hb] at hf
   refine zP hf rfl (pFA rL rfl) fun a hf=>zL hf hc aU m0 rfl fun a w hf hc=>zQ (v:=.bool (iA m.Flow)) hf hc aKw rfl (fun w hc=>vX m.Flow hc rfl) fun a w hf hc=>sp 1 hf rfl fun a hf=>aP ⟨hf.kp rfl,hc⟩
 intro a w ⟨hf,hc⟩
 refine sp 1 hf rfl fun a hf=>zT h ?_
 refine wp_ret ?_
 obtain rfl:=hF
 replace hc:=hc.drop k0
 exact zO1 Tryz.results88 hf rfl ⟨rfl,hc⟩

def eS (x:aE):Bool :=
 (!(dU x))
theorem qA {G:aS} {Lf:List Ent} {w:World} (x:aE) {b_:Nat}  (hc:Ctx G (.box b_ [.func (.func 88) #[] #[]] 133::Lf) w) {B:Bool} (hF:eS x=B):Calls Tryz.prog 105 #[.agg #[i6 x.Stage,i6 x.Flow],pq b_] w (fun e w=>e=.returned (.bool B)∧Ctx G (.box b_ [.func (.func 88) #[] #[]] 133::Lf) w):=by
 unfold eS at hF
 refine cB Tryz.func105 rfl Tryz.ntmps105 rfl fun a hf=>zS fun K h=>zB hf hc rfl fun D a w hf hc=>sp 1 hf rfl fun a hf=>zT h ?_
 refine zS fun K h=>zL hf hc aL2 m1 rfl fun a w hf hc=>zN hf hc aCf m0 rfl fun a w hf hc=>zQ (v:=.bool (dU x)) hf hc en_88 rfl (fun w hc=>xZ x hc rfl) fun a w hf hc=>sp 2 hf rfl fun a hf=>zT h ?_
 refine wp_ret ?_
 obtain rfl:=hF
 replace hc:=hc.drop k0
 exact zO1 Tryz.results105 hf rfl ⟨rfl,hc⟩

def fM (N:Nat) (s_:List aE) (x:Int):Option (cY (Int) (Int)) :=
 cond (decide (x < ((s_.length:Nat):Int)))
 (Option.bind (bG s_ x) fun B=>
 cond (eS B)
 (some (.ret x))
 (some (.cont (W (x + 1)))))
 (some (.brk x))
def cK (N:Nat) (s_:List aE):Option (Int) :=
 Option.bind (bE (fun s4=>fM N s_ s4) N 0) fun x4=>
 exK x4 (fun s4=>some (-1)) some
theorem kK {N:Nat} {G:aS} {Lf:List Ent} {w:World} (s_:List aE) {D:Option Addr} {H:Nat} {b_:Nat} (M:Rd G 2 D H (s_.map aW)) (hc:Ctx G (.box b_ [.func (.func 88) #[] #[]] 133::Lf) w) {J:Int} (hF:cK N s_=some J):Calls Tryz.prog 62 #[.slice D s_.length H,.func (.func 105) #[] #[pq b_]] w (fun e w=>e=.returned (i6 J)∧Ctx G (.box b_ [.func (.func 88) #[] #[]] 133::Lf) w):=by
 unfold cK at hF
 refine cB Tryz.func62 rfl Tryz.ntmps62 rfl fun a hf=>zS fun K h=>sp 1 hf rfl fun a hf=>zT h ?_
 refine wp_seq_k fun K2 h2=>zS fun K h=>sp 1 hf rfl fun a hf=>zP hf rfl (bM Tryz.underlying23 rfl) fun a hf=>sp 1 hf rfl fun a hf=>zT h ?_
 refine wp_block ?_
 obtain ⟨x4,U,hF⟩:=aB hF
 let S4:Int→Act→World→Prop:=(fun (zz:Int) a w=>Has 19 a [(0,.slice D s_.length H),(1,.func (.func 105) #[] #[pq b_]),(7,i6 ((s_.length:Nat):Int)),(8,i6 zz)]∧Ctx G (.box b_ [.func (.func 88) #[] #[]] 133::Lf) w)
 have V:∀ (zz:Int) a w,x4=.go zz→S4 zz a w→K2 a w:=by
  rintro x a w rfl ⟨hf,hc⟩
  replace hF:=bW hF
  refine h2 _ _ ?_
  refine zS fun K h=>sp 1 hf rfl fun a hf=>zT h ?_
  refine wp_ret ?_
  obtain rfl:=sj hF
  exact zO1 Tryz.results62 hf rfl ⟨rfl,hc⟩
 have R:∀ r,x4=.out r→r=J:=by
  rintro r rfl
  exact sj hF
 refine dO N (dH (S:=S4) (x:=x4) ?_ N 0 _ _ ⟨hf.kp rfl,hc⟩ U)
 clear hF hf hc
 rintro x Y a w KB4 ⟨hf,hc⟩ hF B X
 unfold fM at hF
 refine zS fun K h=>sp 1 hf rfl fun a hf=>zT h ?_
 refine wp_seq_k fun K7 h7=>zI hf rfl hF ?_ ?_ <;> clear hF <;> intro hF
 ·refine wp_skip ?_
  refine h7 _ _ ?_
  refine wp_seq_k fun K8 h8=>wp_block ?_
  refine zS fun K h=>sp 2 hf rfl fun a hf=>zT h ?_
  refine zS fun K h=>sp 3 hf rfl fun a hf=>?_
  obtain ⟨I,O,hF⟩:=aB hF
  obtain ⟨Z,o,qa,qp⟩:=M.atm O
  refine zP hf rfl (pIA Tryz.underlying23 qH rfl rfl qa) fun a hf=>zE hf hc rfl (jM (vs:=[i6 I.Stage,i6 I.Flow]) aCf rfl rfl (cI qp (n:=2) (o':=0) rfl)) fun a w hf hc=>zQ (v:=.bool (eS I)) hf hc aL6 rfl (fun w hc=>(qA I (hc.pick k0) rfl).mono fun e w h=>⟨h.1,(h.2.unpick k0)⟩) fun a w hf hc=>zT h ?_
  refine zI hf rfl hF ?_ ?_ <;> clear hF <;> intro hF
  ·refine zS fun K h=>sp 2 hf rfl fun a hf=>zT h ?_
   refine wp_ret ?_
   refine bU ?_
   refine aO ?_
   refine aO ?_
   have he:=sj hF
   rw [← he] at B
   replace hF:=R _ B
   refine bU ?_
   refine aO ?_
   obtain rfl:=hF
   exact zO1 Tryz.results62 hf rfl ⟨rfl,hc⟩
  ·refine wp_skip ?_
   refine h8 _ _ ?_
   refine dE ?_
   refine sp 2 hf rfl fun a hf=>aP ?_
   exact X (W (x + 1)) _ _ (sj hF).symm ⟨hf.kp rfl,hc⟩
 ·refine wp_exit ?_
  refine aV ?_
  refine aV ?_
  have he:=sj hF
  rw [← he] at B
  refine eW ?_
  exact V _ _ _ B ⟨hf.kp rfl,hc⟩

def cC (N:Nat) (s_:List aE):Option (Bool) :=
 Option.bind (cK N s_) fun r=>
 some (decide (0≤r))
theorem jK {N:Nat} {G:aS} {Lf:List Ent} {w:World} (s_:List aE) {D:Option Addr} {B:Nat} {b_:Nat} (I:Rd G 2 D B (s_.map aW)) (hc:Ctx G (.box b_ [.func (.func 88) #[] #[]] 133::Lf) w) {H:Bool} (hF:cC N s_=some H):Calls Tryz.prog 104 #[.slice D s_.length B,.func (.func 105) #[] #[pq b_]] w (fun e w=>e=.returned (.bool H)∧Ctx G (.box b_ [.func (.func 88) #[] #[]] 133::Lf) w):=by
 unfold cC at hF
 refine cB Tryz.func104 rfl Tryz.ntmps104 rfl fun a hf=>zS fun K h=>sp 1 hf rfl fun a hf=>zT h ?_
 refine zS fun K h=>sp 2 hf rfl fun a hf=>?_
 obtain ⟨r,hr,hF⟩:=aB hF
 refine zQ (v:=i6 r) hf hc aKj rfl (fun w hc=>(kK s_ I (hc.pick k0) hr).mono fun e w h=>⟨h.1,(h.2.unpick k0)⟩) fun a w hf hc=>sp 2 hf rfl fun a hf=>zT h ?_
 refine wp_ret ?_
 obtain rfl:=sj hF
 exact zO1 Tryz.results104 hf rfl ⟨rfl,hc⟩

def fQ (N:Nat) (l:List aE):Option (Bool) :=
 Option.bind (cC N l) fun r=>
 some (!r)
theorem qZ {N:Nat} {G:aS} {Lf:List Ent} {w:World} (l:List aE) {H:Option Addr} {B:Nat} (I:Rd G 2 H B (l.map aW)) (hc:Ctx G (Lf) w) {D:Bool} (hF:fQ N l=some D):Calls Tryz.prog 87 #[.slice H l.length B,.func (.func 88) #[] #[]] w (fun e w=>e=.returned (.bool D)∧Ctx G (Lf) w):=by
 unfold fQ at hF
 refine cB Tryz.func87 rfl Tryz.ntmps87 rfl fun a hf=>zS fun K h=>zB hf hc rfl fun J a w hf hc=>sp 1 hf rfl fun a hf=>zT h ?_
 refine zS fun K h=>sp 1 hf rfl fun a hf=>zP hf rfl (pMF (us:=[pq J]) rfl rfl) fun a hf=>?_
 obtain ⟨r,hr,hF⟩:=aB hF
 refine zQ (v:=.bool r) hf hc aLt rfl (fun w hc=>(jK l I (hc.pick k0) hr).mono fun e w h=>⟨h.1,(h.2.unpick k0)⟩) fun a w hf hc=>sp 2 hf rfl fun a hf=>zT h ?_
 refine wp_ret ?_
 obtain rfl:=sj hF
 replace hc:=hc.drop k0
 exact zO1 Tryz.results87 hf rfl ⟨rfl,hc⟩

def mV (N:Nat) (l:List aE):Option (Int) :=
 cond (!(aG ((l.length:Nat):Int) 2 12))
 (some 3)
 (Option.bind (fQ N l) fun r=>
 cond (!r)
 (some 60)
 (some 0))
theorem uT {N:Nat} {G:aS} {Lf:List Ent} {w:World} (l:List aE) {H:Option Addr} {B:Nat} (I:Rd G 2 H B (l.map aW)) (hc:Ctx G (Lf) w) {D:Int} (hF:mV N l=some D):Calls Tryz.prog 58 #[.slice H l.length B] w (fun e w=>e=.returned (i6 D)∧Ctx G (Lf) w):=by
 unfold mV at hF
 refine cB Tryz.func58 rfl Tryz.ntmps58 rfl fun a hf=>zS fun K h=>sp 1 hf rfl fun a hf=>zT h ?_
 refine wp_seq_k fun K2 h2=>wp_block ?_
 refine zS fun K h=>sp 1 hf rfl fun a hf=>zP hf rfl (bM Tryz.underlying23 rfl) fun a hf=>zQ (v:=.bool (aG ((l.length:Nat):Int) 2 12)) hf hc rI rfl (fun w hc=>eO ((l.length:Nat):Int) 2 12 hc rfl) fun a w hf hc=>sp 2 hf rfl fun a hf=>zT h ?_
 refine zI hf rfl hF ?_ ?_ <;> clear hF <;> intro hF
 ·refine zS fun K h=>sp 1 hf rfl fun a hf=>zT h ?_
  refine wp_ret ?_
  refine bU ?_
  refine aO ?_
  obtain rfl:=sj hF
  exact zO1 Tryz.results58 hf rfl ⟨rfl,hc⟩
 ·refine zS fun K h=>sp 1 hf rfl fun a hf=>?_
  obtain ⟨r,hr,hF⟩:=aB hF
  refine zQ (v:=.bool r) hf hc en_87 rfl (fun w hc=>qZ l I hc hr) fun a w hf hc=>sp 2 hf rfl fun a hf=>zT h ?_
  refine zI hf rfl hF ?_ ?_ <;> clear hF <;> intro hF
  ·refine zS fun K h=>sp 1 hf rfl fun a hf=>zT h ?_
   refine wp_ret ?_
   refine bU ?_
   refine aO ?_
   obtain rfl:=sj hF
   exact zO1 Tryz.results58 hf rfl ⟨rfl,hc⟩
  ·refine wp_skip ?_
   refine h2 _ _ ?_
   refine zS fun K h=>sp 1 hf rfl fun a hf=>zT h ?_
   refine wp_ret ?_
   obtain rfl:=sj hF
   exact zO1 Tryz.results58 hf rfl ⟨rfl,hc⟩

def iJ (N:Nat) (l:List aE) (sub:List aE) (x:Int):Option (cY (Int) (Bool)) :=
 cond (decide (x < ((sub.length:Nat):Int)))
 (Option.bind (bG l (W (x + 1))) fun J=>
 Option.bind (bG l x) fun I=>
 Option.bind (cond (decide (J.Stage≤I.Stage)) (some true) (Option.bind (bG l (W (x + 1))) fun B=>
 Option.bind (bG l x) fun D=>
 some (decide (B.Flow≤D.Flow)))) fun H=>
 cond H
 (some (.ret false))
 (some (.cont (W (x + 1)))))
 (some (.brk x))
def mW (N:Nat) (l:List aE):Option (Bool) :=
 Option.bind (qX l 1 ((l.length:Nat):Int)) fun sub=>
 Option.bind (bE (fun s4=>iJ N l sub s4) N 0) fun x4=>
 exK x4 (fun s4=>some true) some
theorem uF {N:Nat} {G:aS} {Lf:List Ent} {w:World} (l:List aE) {H:Option Addr} {D:Nat} (I:Rd G 2 H D (l.map aW)) (hc:Ctx G (Lf) w) {O:Bool} (hF:mW N l=some O):Calls Tryz.prog 59 #[.slice H l.length D] w (fun e w=>e=.returned (.bool O)∧Ctx G (Lf) w):=by
 unfold mW at hF
 refine cB Tryz.func59 rfl Tryz.ntmps59 rfl fun a hf=>zS fun K h=>sp 1 hf rfl fun a hf=>zT h ?_
 refine wp_seq_k fun K2 h2=>zS fun K h=>sp 1 hf rfl fun a hf=>?_
 obtain ⟨sub,U,hF⟩:=aB hF
 have qs:=Rd.sub I U
 refine zP hf rfl (pSl Tryz.underlying23 qH rfl rfl (by simpa using I.1) rfl rfl U) fun a hf=>zP hf rfl (bM Tryz.underlying23 rfl) fun a hf=>sp 1 hf rfl fun a hf=>zT h ?_
 refine wp_block ?_
 obtain ⟨x4,t,hF⟩:=aB hF
 let S4:Int→Act→World→Prop:=(fun (zz:Int) a w=>Has 37 a [(0,.slice H l.length D),(6,i6 ((sub.length:Nat):Int)),(7,i6 zz)]∧Ctx G (Lf) w)
 have u:∀ (zz:Int) a w,x4=.go zz→S4 zz a w→K2 a w:=by
  rintro x a w rfl ⟨hf,hc⟩
  replace hF:=bW hF
  refine h2 _ _ ?_
  refine zS fun K h=>sp 1 hf rfl fun a hf=>zT h ?_
  refine wp_ret ?_
  obtain rfl:=sj hF
  exact zO1 Tryz.results59 hf rfl ⟨rfl,hc⟩
 have s:∀ r,x4=.out r→r=O:=by
  rintro r rfl
  exact sj hF
 refine dO N (dH (S:=S4) (x:=x4) ?_ N 0 _ _ ⟨hf.kp rfl,hc⟩ t)
 clear hF hf hc
 rintro x aa a w KB4 ⟨hf,hc⟩ hF B z
 unfold iJ at hF
 refine zS fun K h=>sp 1 hf rfl fun a hf=>zT h ?_
 refine wp_seq_k fun K7 h7=>zI hf rfl hF ?_ ?_ <;> clear hF <;> intro hF
 ·refine wp_skip ?_
  refine h7 _ _ ?_
  refine wp_seq_k fun K8 h8=>wp_block ?_
  refine zS fun K h=>sp 2 hf rfl fun a hf=>zT h ?_
  refine wp_seq_k fun K10 v=>?_
  obtain ⟨J,i,hF⟩:=aB hF
  obtain ⟨V,o,qa,qp⟩:=I.atm i
  obtain ⟨M,k,hF⟩:=aB hF
  obtain ⟨Y,X,Z,p⟩:=I.atm k
  obtain ⟨y,R,hF⟩:=aB hF
  refine cQ hc aT (by kernel_rfl) ?_
  refine qE hf rfl rfl rfl (Pu.ev (pM rfl)) fun a hf=>qE hf rfl rfl rfl (Pu.ev (pM rfl)) fun a hf=>qE hf rfl rfl rfl (Pu.ev (aBv rfl rfl)) fun a hf=>qE hf rfl rfl rfl (Pu.ev (pIA Tryz.underlying23 qH rfl rfl qa)) fun a hf=>qE hf rfl rfl rfl (Pu.ev (pFA mZ rfl)) fun a hf=>qE hf rfl rfl rfl (cE aU rfl (dX (j:=0) qp rfl)) fun a hf=>qE hf rfl rfl rfl (Pu.ev (pM rfl)) fun a hf=>qE hf rfl rfl rfl (Pu.ev (pM rfl)) fun a hf=>qE hf rfl rfl rfl (Pu.ev (pIA Tryz.underlying23 qH rfl rfl Z)) fun a hf=>qE hf rfl rfl rfl (Pu.ev (pFA mZ rfl)) fun a hf=>qE hf rfl rfl rfl (cE aU rfl (dX (j:=0) p rfl)) fun a hf=>qE hf rfl rfl rfl (Pu.ev (pLe rfl rfl)) fun a hf=>qE hf rfl rfl rfl (Pu.ev (pM rfl)) fun a hf=>?_
  refine qCut 13 (fun a=>Has 37 a [(0,.slice H l.length D),(6,i6 ((sub.length:Nat):Int)),(7,i6 x),(3,i6 x),(10,.slice H l.length D),(11,i6 x),(12,i6 (W (x + 1))),(13,.pointer (some ⟨V,o,none⟩)),(14,.pointer (some ⟨V,o + 0,none⟩)),(15,i6 J.Stage),(16,.slice H l.length D),(17,i6 x),(18,.pointer (some ⟨Y,X,none⟩)),(19,.pointer (some ⟨Y,X + 0,none⟩)),(20,i6 M.Stage),(21,.bool (decide (J.Stage≤M.Stage))),(22,.bool (decide (J.Stage≤M.Stage))),(35,.bool y)]) ?_ ?_
  ·cases hb:(decide (J.Stage≤M.Stage))
   ·rw [hb] at hf
    have hF:=nJ hb R
    obtain ⟨ab,q,hF⟩:=aB hF
    obtain ⟨ai,ac,g,d⟩:=I.atm q
    obtain ⟨ad,m,hF⟩:=aB hF
    obtain ⟨ag,af,b,n⟩:=I.atm m
    refine qE hf rfl rfl rfl (Pu.ev (pM rfl)) fun a hf=>qE hf rfl rfl rfl (Pu.ev (pM rfl)) fun a hf=>qE hf rfl rfl rfl (Pu.ev (aBv rfl rfl)) fun a hf=>qE hf rfl rfl rfl (Pu.ev (pIA Tryz.underlying23 qH rfl rfl g)) fun a hf=>qE hf rfl rfl rfl (Pu.ev (pFA rL rfl)) fun a hf=>qE hf rfl rfl rfl (cE aU rfl (dX (j:=1) d rfl)) fun a hf=>qE hf rfl rfl rfl (Pu.ev (pM rfl)) fun a hf=>qE hf rfl rfl rfl (Pu.ev (pM rfl)) fun a hf=>qE hf rfl rfl rfl (Pu.ev (pIA Tryz.underlying23 qH rfl rfl b)) fun a hf=>qE hf rfl rfl rfl (Pu.ev (pFA rL rfl)) fun a hf=>qE hf rfl rfl rfl (cE aU rfl (dX (j:=1) n rfl)) fun a hf=>qE hf rfl rfl rfl (Pu.ev (pLe rfl rfl)) fun a hf=>qE hf rfl rfl rfl (Pu.ev (pPf rfl rfl)) fun a hf=>?_
    obtain rfl:=sj hF
    exact qNil (hf.kp rfl)
   ·rw [hb] at hf
    have hF:=lF hb R
    obtain rfl:=sj hF
    refine qS hf rfl rfl rfl fun a hf=>qS hf rfl rfl rfl fun a hf=>qS hf rfl rfl rfl fun a hf=>qS hf rfl rfl rfl fun a hf=>qS hf rfl rfl rfl fun a hf=>qS hf rfl rfl rfl fun a hf=>qS hf rfl rfl rfl fun a hf=>qS hf rfl rfl rfl fun a hf=>qS hf rfl rfl rfl fun a hf=>qS hf rfl rfl rfl fun a hf=>qS hf rfl rfl rfl fun a hf=>qS hf rfl rfl rfl fun a hf=>qE hf rfl rfl rfl (Pu.ev (pPt rfl rfl)) fun a hf=>?_
    exact qNil (hf.kp rfl)
  intro a hf
  intro w hc
  refine v _ _ ?_
  refine zI hf rfl hF ?_ ?_ <;> clear hF <;> intro hF
  ·refine zS fun K h=>sp 1 hf rfl fun a hf=>zT h ?_
   refine wp_ret ?_
   refine bU ?_
   refine aO ?_
   refine aO ?_
   have he:=sj hF
   rw [← he] at B
   replace hF:=s _ B
   refine bU ?_
   refine aO ?_
   obtain rfl:=hF
   exact zO1 Tryz.results59 hf rfl ⟨rfl,hc⟩
  ·refine wp_skip ?_
   refine h8 _ _ ?_
   refine dE ?_
   refine sp 2 hf rfl fun a hf=>aP ?_
   exact z (W (x + 1)) _ _ (sj hF).symm ⟨hf.kp rfl,hc⟩
 ·refine wp_exit ?_
  refine aV ?_
  refine aV ?_
  have he:=sj hF
  rw [← he] at B
  refine eW ?_
  exact u _ _ _ B ⟨hf.kp rfl,hc⟩

def oU (N:Nat) (l:List aE) (at_:Int) (B:Int):Option (Int) :=
 Option.bind (mV N l) fun r=>
 cond (r != 0)
 (some r)
 (Option.bind (mW N l) fun D=>
 cond (!D)
 (some 9)
 (cond ((!(aY at_)) || (!(aG B (-300) 300)))
 (some 4)
 (some 0)))
theorem aA7 {N:Nat} {G:aS} {Lf:List Ent} {w:World} (l:List aE) (at_:Int) (B:Int) {J:Option Addr} {H:Nat} (D:Rd G 2 J H (l.map aW)) (hc:Ctx G (Lf) w) {I:Int} (hF:oU N l at_ B=some I):Calls Tryz.prog 26 #[.slice J l.length H,i6 at_,i6 B] w (fun e w=>e=.returned (i6 I)∧Ctx G (Lf) w):=by
 unfold oU at hF
 refine cB Tryz.func26 rfl Tryz.ntmps26 rfl fun a hf=>zS fun K h=>sp 1 hf rfl fun a hf=>zT h ?_
 refine zS fun K h=>sp 1 hf rfl fun a hf=>?_
 obtain ⟨r,hr,hF⟩:=aB hF
 refine zQ (v:=i6 r) hf hc aKb rfl (fun w hc=>uT l D hc hr) fun a w hf hc=>sp 1 hf rfl fun a hf=>zT h ?_
 refine wp_seq_k fun K3 h3=>wp_block ?_
 refine zS fun K h=>sp 3 hf rfl fun a hf=>zT h ?_
 refine zI hf rfl hF ?_ ?_ <;> clear hF <;> intro hF
 ·refine zS fun K h=>sp 2 hf rfl fun a hf=>zT h ?_
  refine wp_ret ?_
  refine bU ?_
  refine aO ?_
  obtain rfl:=sj hF
  exact zO1 Tryz.results26 hf rfl ⟨rfl,hc⟩
 ·refine zS fun K h=>sp 1 hf rfl fun a hf=>?_
  obtain ⟨O,M,hF⟩:=aB hF
  refine zQ (v:=.bool O) hf hc aK9 rfl (fun w hc=>uF l D hc M) fun a w hf hc=>sp 2 hf rfl fun a hf=>zT h ?_
  refine zI hf rfl hF ?_ ?_ <;> clear hF <;> intro hF
  ·refine zS fun K h=>sp 1 hf rfl fun a hf=>zT h ?_
   refine wp_ret ?_
   refine bU ?_
   refine aO ?_
   obtain rfl:=sj hF
   exact zO1 Tryz.results26 hf rfl ⟨rfl,hc⟩
  ·refine zS fun K h=>sp 1 hf rfl fun a hf=>zQ (v:=.bool (aY at_)) hf hc aD6 rfl (fun w hc=>lG at_ hc rfl) fun a w hf hc=>sp 2 hf rfl fun a hf=>hY 4 (fun a=>Has 27 a [(1,i6 at_),(2,i6 B),(19,i6 at_),(20,.bool (aY at_)),(21,.bool (!(aY at_))),(22,.bool (!(aY at_))),(26,.bool ((!(aY at_)) || (!(aG B (-300) 300))))]) hc ?_ ?_
   ·cases hb:(!(aY at_))
    ·rw [hb] at hf
     refine sp 1 hf rfl fun a hf=>zQ (v:=.bool (aG B (-300) 300)) hf hc rI rfl (fun w hc=>eO B (-300) 300 hc rfl) fun a w hf hc=>sp 2 hf rfl fun a hf=>aP ⟨hf.kp rfl,hc⟩
    ·rw [hb] at hf
     refine stS hf rfl rfl rfl fun a hf=>stS hf rfl rfl rfl fun a hf=>stS hf rfl rfl rfl fun a hf=>sp 1 hf rfl fun a hf=>aP ⟨hf.kp rfl,hc⟩
   intro a w ⟨hf,hc⟩
   refine sp 1 hf rfl fun a hf=>zT h ?_
   refine zI hf rfl hF ?_ ?_ <;> clear hF <;> intro hF
   ·refine zS fun K h=>sp 1 hf rfl fun a hf=>zT h ?_
    refine wp_ret ?_
    refine bU ?_
    refine aO ?_
    obtain rfl:=sj hF
    exact zO1 Tryz.results26 hf rfl ⟨rfl,hc⟩
   ·refine wp_skip ?_
    refine h3 _ _ ?_
    refine zS fun K h=>sp 1 hf rfl fun a hf=>zT h ?_
    refine wp_ret ?_
    obtain rfl:=sj hF
    exact zO1 Tryz.results26 hf rfl ⟨rfl,hc⟩

def gG (m:aE) (x:Int):Bool :=
 (decide (x < m.Stage))
theorem yC {G:aS} {Lf:List Ent} {w:World} (m:aE) (x:Int) {b_:Nat}  (hc:Ctx G (.box b_ [i6 x] 3::Lf) w) {B:Bool} (hF:gG m x=B):Calls Tryz.prog 63 #[.agg #[i6 m.Stage,i6 m.Flow],pq b_] w (fun e w=>e=.returned (.bool B)∧Ctx G (.box b_ [i6 x] 3::Lf) w):=by
 unfold gG at hF
 refine cB Tryz.func63 rfl Tryz.ntmps63 rfl fun a hf=>zS fun K h=>zB hf hc rfl fun D a w hf hc=>sp 1 hf rfl fun a hf=>zT h ?_
 refine zS fun K h=>zP hf rfl (pFA mZ rfl) fun a hf=>zL hf hc aU m0 rfl fun a w hf hc=>zL hf hc aU m1 rfl fun a w hf hc=>sp 2 hf rfl fun a hf=>zT h ?_
 refine wp_ret ?_
 obtain rfl:=hF
 replace hc:=hc.drop k0
 exact zO1 Tryz.results63 hf rfl ⟨rfl,hc⟩

def cW (N:Nat) (s_:List aE) (f_:Int) (x:Int):Option (cY (Int) (Int)) :=
 cond (decide (x < ((s_.length:Nat):Int)))
 (Option.bind (bG s_ x) fun B=>
 cond (gG B f_)
 (some (.ret x))
 (some (.cont (W (x + 1)))))
 (some (.brk x))
def bN (N:Nat) (s_:List aE) (f_:Int):Option (Int) :=
 Option.bind (bE (fun s4=>cW N s_ f_ s4) N 0) fun x4=>
 exK x4 (fun s4=>some (-1)) some
theorem jL {N:Nat} {G:aS} {Lf:List Ent} {w:World} (s_:List aE) (f_:Int) {D:Option Addr} {H:Nat} {b_:Nat} (M:Rd G 2 D H (s_.map aW)) (hc:Ctx G (.box b_ [i6 f_] 3::Lf) w) {J:Int} (hF:bN N s_ f_=some J):Calls Tryz.prog 62 #[.slice D s_.length H,.func (.func 63) #[] #[pq b_]] w (fun e w=>e=.returned (i6 J)∧Ctx G (.box b_ [i6 f_] 3::Lf) w):=by
 unfold bN at hF
 refine cB Tryz.func62 rfl Tryz.ntmps62 rfl fun a hf=>zS fun K h=>sp 1 hf rfl fun a hf=>zT h ?_
 refine wp_seq_k fun K2 h2=>zS fun K h=>sp 1 hf rfl fun a hf=>zP hf rfl (bM Tryz.underlying23 rfl) fun a hf=>sp 1 hf rfl fun a hf=>zT h ?_
 refine wp_block ?_
 obtain ⟨x4,U,hF⟩:=aB hF
 let S4:Int→Act→World→Prop:=(fun (zz:Int) a w=>Has 19 a [(0,.slice D s_.length H),(1,.func (.func 63) #[] #[pq b_]),(7,i6 ((s_.length:Nat):Int)),(8,i6 zz)]∧Ctx G (.box b_ [i6 f_] 3::Lf) w)
 have V:∀ (zz:Int) a w,x4=.go zz→S4 zz a w→K2 a w:=by
  rintro x a w rfl ⟨hf,hc⟩
  replace hF:=bW hF
  refine h2 _ _ ?_
  refine zS fun K h=>sp 1 hf rfl fun a hf=>zT h ?_
  refine wp_ret ?_
  obtain rfl:=sj hF
  exact zO1 Tryz.results62 hf rfl ⟨rfl,hc⟩
 have R:∀ r,x4=.out r→r=J:=by
  rintro r rfl
  exact sj hF
 refine dO N (dH (S:=S4) (x:=x4) ?_ N 0 _ _ ⟨hf.kp rfl,hc⟩ U)
 clear hF hf hc
 rintro x Y a w KB4 ⟨hf,hc⟩ hF B X
 unfold cW at hF
 refine zS fun K h=>sp 1 hf rfl fun a hf=>zT h ?_
 refine wp_seq_k fun K7 h7=>zI hf rfl hF ?_ ?_ <;> clear hF <;> intro hF
 ·refine wp_skip ?_
  refine h7 _ _ ?_
  refine wp_seq_k fun K8 h8=>wp_block ?_
  refine zS fun K h=>sp 2 hf rfl fun a hf=>zT h ?_
  refine zS fun K h=>sp 3 hf rfl fun a hf=>?_
  obtain ⟨I,O,hF⟩:=aB hF
  obtain ⟨Z,o,qa,qp⟩:=M.atm O
  refine zP hf rfl (pIA Tryz.underlying23 qH rfl rfl qa) fun a hf=>zE hf hc rfl (jM (vs:=[i6 I.Stage,i6 I.Flow]) aCf rfl rfl (cI qp (n:=2) (o':=0) rfl)) fun a w hf hc=>zQ (v:=.bool (gG I f_)) hf hc en_63 rfl (fun w hc=>(yC I f_ (hc.pick k0) rfl).mono fun e w h=>⟨h.1,(h.2.unpick k0)⟩) fun a w hf hc=>zT h ?_
  refine zI hf rfl hF ?_ ?_ <;> clear hF <;> intro hF
  ·refine zS fun K h=>sp 2 hf rfl fun a hf=>zT h ?_
   refine wp_ret ?_
   refine bU ?_
   refine aO ?_
   refine aO ?_
   have he:=sj hF
   rw [← he] at B
   replace hF:=R _ B
   refine bU ?_
   refine aO ?_
   obtain rfl:=hF
   exact zO1 Tryz.results62 hf rfl ⟨rfl,hc⟩
  ·refine wp_skip ?_
   refine h8 _ _ ?_
   refine dE ?_
   refine sp 2 hf rfl fun a hf=>aP ?_
   exact X (W (x + 1)) _ _ (sj hF).symm ⟨hf.kp rfl,hc⟩
 ·refine wp_exit ?_
  refine aV ?_
  refine aV ?_
  have he:=sj hF
  rw [← he] at B
  refine eW ?_
  exact V _ _ _ B ⟨hf.kp rfl,hc⟩

def gM (N:Nat) (D:Int) (B:Int):Option (cY (Int × Int) (eE)) :=
 cond (B != 0)
 (Option.bind (nz B) fun H=>
 some (.cont (B,D.tmod B)))
 (some (.brk (D,B)))
def mU (N:Nat) (n:Int) (d:Int):Option (eE) :=
 Option.bind (bE (fun s4=>gM N s4.1 s4.2) N (max n (W (0 - n)),d)) fun x4=>
 exK x4 (fun s4=>Option.bind (nz s4.1) fun un=>
 Option.bind (nz s4.1) fun B=>
 some (⟨W (n.tdiv s4.1),W (d.tdiv s4.1)⟩:eE)) some
theorem aAv {N:Nat} {G:aS} {Lf:List Ent} {w:World} (n:Int) (d:Int)   (hc:Ctx G (Lf) w) {I:eE} (hF:mU N n d=some I):Calls Tryz.prog 61 #[i6 n,i6 d] w (fun e w=>e=.returned (.agg #[i6 I.N,i6 I.D])∧Ctx G (Lf) w):=by
 unfold mU at hF
 refine cB Tryz.func61 rfl Tryz.ntmps61 rfl fun a hf=>zS fun K h=>zA hf hc xE rfl fun H a w hf hc=>zT h ?_
 refine zS fun K h=>sp 3 hf rfl fun a hf=>zP hf rfl (xH rfl rfl) fun a hf=>sp 3 hf rfl fun a hf=>zT h ?_
 refine wp_seq_k fun K3 h3=>wp_block ?_
 obtain ⟨x4,V,hF⟩:=aB hF
 let S4:(Int × Int)→Act→World→Prop:=(fun (zz:Int × Int) a w=>Has 25 a [(0,i6 n),(1,i6 d),(4,pq H),(5,i6 zz.1),(6,i6 zz.2)]∧Ctx G (.box H [i6 0,i6 0] 46::Lf) w)
 have X:∀ (zz:Int × Int) a w,x4=.go zz→S4 zz a w→K3 a w:=by
  rintro ⟨B,M⟩ a w rfl ⟨hf,hc⟩
  replace hF:=bW hF
  refine h3 _ _ ?_
  refine wp_seq_k fun K5 h5=>?_
  obtain ⟨un,Y,hF⟩:=aB hF
  obtain ⟨g,O,hF⟩:=aB hF
  refine fI (fun θ=>[⟨none,none,0,i6 n⟩,⟨none,none,1,i6 d⟩,⟨none,none,4,pq H⟩,⟨none,none,5,i6 B⟩,⟨some 0,none,18,i6 n⟩,⟨some 1,none,19,i6 B⟩,⟨some 2,none,20,i6 (W (n.tdiv B))⟩,⟨some 3,none,21,i6 d⟩,⟨some 4,none,22,i6 B⟩,⟨some 5,none,23,i6 (W (d.tdiv B))⟩,⟨some 6,none,24,.agg #[i6 (W (n.tdiv B)),i6 (W (d.tdiv B))]⟩]) (fun E θ=>(bif E 7 then .box H [i6 (W (n.tdiv B)),i6 (W (d.tdiv B))] 46 else .box H [i6 0,i6 0] 46)::Lf) [] (fun a w=>Has 25 a [(4,pq H)]∧Ctx G (.box H [i6 (W (n.tdiv B)),i6 (W (d.tdiv B))] 46::Lf) w) aT (by kernel_rfl) (by kernel_rfl) (eZ.of hf ⟨rfl,rfl,rfl,rfl,trivial,trivial,trivial,trivial,trivial,trivial,trivial,trivial⟩) hc ⟨?_,?_,?_,?_,?_,?_,?_,?_,trivial⟩ ?_ ?_
  ·intro E θ a w hD hi hp he hc
   have hf:=he.h0.mT he 0 rfl
   refine sp 1 hf rfl fun a hf=>zD θ he hi hf 4 rfl rfl rfl hc
  ·intro E θ a w hD hi hp he hc
   have hf:=he.h0.mT he 3 rfl
   refine sp 1 hf rfl fun a hf=>zD θ he hi hf 5 rfl rfl rfl hc
  ·intro E θ a w hD hi hp he hc
   have e0:=hp.o 0 rfl
   have e1:=hp.o 1 rfl
   have hf:=(he.h0.mP he 4 rfl e0).mP he 5 rfl e1
   refine zP hf rfl (aD5 rfl rfl (nC Y)) fun a hf=>zD θ he hi hf 6 rfl rfl rfl hc
  ·intro E θ a w hD hi hp he hc
   have hf:=he.h0.mT he 1 rfl
   refine sp 1 hf rfl fun a hf=>zD θ he hi hf 7 rfl rfl rfl hc
  ·intro E θ a w hD hi hp he hc
   have hf:=he.h0.mT he 3 rfl
   refine sp 1 hf rfl fun a hf=>zD θ he hi hf 8 rfl rfl rfl hc
  ·intro E θ a w hD hi hp he hc
   have e3:=hp.o 3 rfl
   have e4:=hp.o 4 rfl
   have hf:=(he.h0.mP he 7 rfl e3).mP he 8 rfl e4
   refine zP hf rfl (aD5 rfl rfl (nC O)) fun a hf=>zD θ he hi hf 9 rfl rfl rfl hc
  ·intro E θ a w hD hi hp he hc
   have e2:=hp.o 2 rfl
   have e5:=hp.o 5 rfl
   have hf:=(he.h0.mP he 6 rfl e2).mP he 9 rfl e5
   refine zP hf rfl (bH (cells:=[i6 (W (n.tdiv B)),i6 (W (d.tdiv B))]) aFp rfl rfl) fun a hf=>zD θ he hi hf 10 rfl rfl rfl hc
  ·intro E θ a w hD hi hp he hc
   have e6:=hp.o 6 rfl
   try dsimp only at hc
   rw [hi] at hc
   have hf:=(he.h0.mT he 2 rfl).mP he 10 rfl e6
   refine zW hf hc tP u0 rfl fun w hc=>zG θ he hi hf rfl ?_
   try dsimp only
   rw [aR E 7]
   exact hc
  ·intro E θ a w U he hc
   have hf:=he.h0
   have e7:=U 7 rfl
   replace hf:=hf.more he 2 rfl (onT)
   try dsimp only at hc
   rw [e7] at hc
   exact ⟨hf.kp rfl,hc⟩
  rintro a w ⟨hf,hc⟩
  refine h5 _ _ ?_
  refine wp_ret ?_
  obtain rfl:=sj hF
  exact pH (by simp) rfl Tryz.results61 hf hc (cR (vs:=[i6 (W (n.tdiv B)),i6 (W (d.tdiv B))]) aAz rfl rfl (bO (n:=2) m0 rfl)) ⟨rfl,(hc.drop k0)⟩
 have j:∀ r,x4=.out r→r=I:=by
  rintro r rfl
  exact sj hF
 refine dO N (dH (S:=S4) (x:=x4) ?_ N (max n (W (0 - n)),d) _ _ ⟨hf.kp rfl,hc⟩ V)
 clear hF hf hc
 rintro ⟨B,M⟩ i a w KB4 ⟨hf,hc⟩ hF J Z
 unfold gM at hF
 refine wp_seq_k fun K6 h6=>zS fun K h=>sp 2 hf rfl fun a hf=>zT h ?_
 refine zI hf rfl hF ?_ ?_ <;> clear hF <;> intro hF
 ·refine wp_skip ?_
  refine h6 _ _ ?_
  refine mA fun K8 h8=>wp_block ?_
  obtain ⟨b,R,hF⟩:=aB hF
  refine cQ hc aT (by kernel_rfl) ?_
  refine qE hf rfl rfl rfl (Pu.ev (pM rfl)) fun a hf=>qE hf rfl rfl rfl (Pu.ev (pM rfl)) fun a hf=>qE hf rfl rfl rfl (Pu.ev (pM rfl)) fun a hf=>qE hf rfl rfl rfl (Pu.ev (pRem rfl rfl (nC R))) fun a hf=>qE hf rfl rfl rfl (Pu.ev (pA rfl)) fun a hf=>qE hf rfl rfl rfl (Pu.ev (pA rfl)) fun a hf=>?_
  intro w hc
  refine h8 _ _ ?_
  exact Z (M,B.tmod M) _ _ (sj hF).symm ⟨hf.kp rfl,hc⟩
 ·refine wp_exit ?_
  refine aV ?_
  refine aV ?_
  have he:=sj hF
  rw [← he] at J
  refine eW ?_
  exact X _ _ _ J ⟨hf.kp rfl,hc⟩

def oL (N:Nat) (a_:aE) (b_:aE) (x:Int):Option (eE) :=
 Option.bind (mU N (W ((W (a_.Flow * (W (b_.Stage - a_.Stage)))) + (W ((W (b_.Flow - a_.Flow)) * (W (x - a_.Stage)))))) (W (b_.Stage - a_.Stage))) fun r=>
 some r
theorem yJ {N:Nat} {G:aS} {Lf:List Ent} {w:World} (a_:aE) (b_:aE) (x:Int) {B:Nat}  (hc:Ctx G (.box B [i6 x] 3::Lf) w) {H:eE} (hF:oL N a_ b_ x=some H):Calls Tryz.prog 60 #[.agg #[i6 a_.Stage,i6 a_.Flow],.agg #[i6 b_.Stage,i6 b_.Flow],pq B] w (fun e w=>e=.returned (.agg #[i6 H.N,i6 H.D])∧Ctx G (.box B [i6 x] 3::Lf) w):=by
 unfold oL at hF
 refine cB Tryz.func60 rfl Tryz.ntmps60 rfl fun a hf=>zS fun K h=>zB hf hc rfl fun I a w hf hc=>zB hf hc rfl fun M a w hf hc=>zA hf hc xE rfl fun J a w hf hc=>zT h ?_
 refine zS fun K h=>zP hf rfl (pFA mZ rfl) fun a hf=>zL hf hc aU m1 rfl fun a w hf hc=>zP hf rfl (pFA mZ rfl) fun a hf=>zL hf hc aU m2 rfl fun a w hf hc=>sp 2 hf rfl fun a hf=>zT h ?_
 refine zS fun K h=>zP hf rfl (pFA rL rfl) fun a hf=>zL hf hc aU m2 rfl fun a w hf hc=>sp 2 hf rfl fun a hf=>zP hf rfl (pFA rL rfl) fun a hf=>zL hf hc aU m1 rfl fun a w hf hc=>zP hf rfl (pFA rL rfl) fun a hf=>zL hf hc aU m2 rfl fun a w hf hc=>sp 1 hf rfl fun a hf=>zL hf hc aU m3 rfl fun a w hf hc=>zP hf rfl (pFA mZ rfl) fun a hf=>zL hf hc aU m2 rfl fun a w hf hc=>sp 4 hf rfl fun a hf=>?_
 obtain ⟨r,hr,hF⟩:=aB hF
 refine zQ (v:=.agg #[i6 r.N,i6 r.D]) hf hc en_61 rfl (fun w hc=>aAv (W ((W (a_.Flow * (W (b_.Stage - a_.Stage)))) + (W ((W (b_.Flow - a_.Flow)) * (W (x - a_.Stage)))))) (W (b_.Stage - a_.Stage)) hc hr) fun a w hf hc=>zW hf hc tP u0 rfl fun w hc=>zT h ?_
 refine wp_ret ?_
 obtain rfl:=sj hF
 replace hc:=(((hc.drop k2).drop k1).pick k0).pick k1
 exact pH (by simp) rfl Tryz.results60 hf hc (cR (vs:=[i6 r.N,i6 r.D]) aAz rfl rfl (bO (n:=2) m1 rfl)) ⟨rfl,(hc.drop k1)⟩

def iX (N:Nat) (l:List aE) (at_:Int):Option (eE) :=
 Option.bind (bG l (W (((l.length:Nat):Int) - 1))) fun B=>
 Option.bind (bG l 0) fun J=>
 cond (decide (at_≤J.Stage))
 (Option.bind (bG l 0) fun H=>
 some (⟨H.Flow,1⟩:eE))
 (cond (decide (B.Stage≤at_))
 (some (⟨B.Flow,1⟩:eE))
 (Option.bind (bN N l at_) fun r=>
 Option.bind (bG l (W (r - 1))) fun I=>
 Option.bind (bG l r) fun M=>
 Option.bind (oL N I M at_) fun D=>
 some D))
theorem nN {N:Nat} {G:aS} {Lf:List Ent} {w:World} (l:List aE) (at_:Int) {U:Option Addr} {O:Nat} (J:Rd G 2 U O (l.map aW)) (hc:Ctx G (Lf) w) {V:eE} (hF:iX N l at_=some V):Calls Tryz.prog 27 #[.slice U l.length O,i6 at_] w (fun e w=>e=.returned (.agg #[i6 V.N,i6 V.D])∧Ctx G (Lf) w):=by
 unfold iX at hF
 refine cB Tryz.func27 rfl Tryz.ntmps27 rfl fun a hf=>zS fun K h=>zB hf hc rfl fun I a w hf hc=>zA hf hc xE rfl fun M a w hf hc=>zT h ?_
 refine zS fun K h=>sp 2 hf rfl fun a hf=>zP hf rfl (bM Tryz.underlying23 rfl) fun a hf=>sp 1 hf rfl fun a hf=>?_
 obtain ⟨H,y,hF⟩:=aB hF
 obtain ⟨aq,o,qa,qp⟩:=J.atm y
 refine zP hf rfl (pIA Tryz.underlying23 qH rfl rfl qa) fun a hf=>zE hf hc rfl (jM (vs:=[i6 H.Stage,i6 H.Flow]) aCf rfl rfl (cI qp (n:=2) (o':=0) rfl)) fun a w hf hc=>zA hf hc zr_65 rfl fun X a w hf hc=>zW hf hc qH u0 rfl fun w hc=>zT h ?_
 refine wp_seq_k fun K3 h3=>wp_block ?_
 refine wp_seq_k fun K4 h4=>?_
 obtain ⟨aj,Z,hF⟩:=aB hF
 obtain ⟨an,ak,g,b⟩:=J.atm Z
 refine cQ hc aT (by kernel_rfl) ?_
 refine qE hf rfl rfl rfl (cE aU rfl (bR m2 rfl)) fun a hf=>qE hf rfl rfl rfl (Pu.ev (pM rfl)) fun a hf=>qE hf rfl rfl rfl (Pu.ev (pIA Tryz.underlying23 qH rfl rfl g)) fun a hf=>qE hf rfl rfl rfl (Pu.ev (pFA mZ rfl)) fun a hf=>qE hf rfl rfl rfl (cE aU rfl (dX (j:=0) b rfl)) fun a hf=>qE hf rfl rfl rfl (Pu.ev (pLe rfl rfl)) fun a hf=>qE hf rfl rfl rfl (Pu.ev (pA rfl)) fun a hf=>?_
 intro w hc
 refine h4 _ _ ?_
 refine zI hf rfl hF ?_ ?_ <;> clear hF <;> intro hF
 ·refine zS fun K h=>sp 1 hf rfl fun a hf=>?_
  obtain ⟨Y,d,hF⟩:=aB hF
  obtain ⟨ap,am,q,i⟩:=J.atm d
  refine zP hf rfl (pIA Tryz.underlying23 qH rfl rfl q) fun a hf=>zP hf rfl (pFA rL rfl) fun a hf=>zE hf hc rfl (cE aU rfl (dX (j:=1) i rfl)) fun a w hf hc=>zP hf rfl (bH (cells:=[i6 Y.Flow,i6 1]) aFp rfl rfl) fun a hf=>zW hf hc tP u1 rfl fun w hc=>zT h ?_
  refine wp_ret ?_
  refine bU ?_
  refine aO ?_
  obtain rfl:=sj hF
  replace hc:=(hc.drop k2).drop k0
  exact pH (by simp) rfl Tryz.results27 hf hc (cR (vs:=[i6 Y.Flow,i6 1]) aAz rfl rfl (bO (n:=2) m0 rfl)) ⟨rfl,(hc.drop k0)⟩
 ·refine zS fun K h=>zL hf hc aU m2 rfl fun a w hf hc=>zP hf rfl (pFA mZ rfl) fun a hf=>zL hf hc aU m0 rfl fun a w hf hc=>sp 2 hf rfl fun a hf=>zT h ?_
  refine zI hf rfl hF ?_ ?_ <;> clear hF <;> intro hF
  ·refine zS fun K h=>zP hf rfl (pFA rL rfl) fun a hf=>zL hf hc aU m0 rfl fun a w hf hc=>zP hf rfl (bH (cells:=[i6 H.Flow,i6 1]) aFp rfl rfl) fun a hf=>zW hf hc tP u1 rfl fun w hc=>zT h ?_
   refine wp_ret ?_
   refine bU ?_
   refine aO ?_
   obtain rfl:=sj hF
   replace hc:=(hc.drop k2).drop k0
   exact pH (by simp) rfl Tryz.results27 hf hc (cR (vs:=[i6 H.Flow,i6 1]) aAz rfl rfl (bO (n:=2) m0 rfl)) ⟨rfl,(hc.drop k0)⟩
  ·refine wp_skip ?_
   refine h3 _ _ ?_
   refine zS fun K h=>zP hf rfl (pMF (us:=[pq I]) rfl rfl) fun a hf=>sp 1 hf rfl fun a hf=>zT h ?_
   refine zS fun K h=>sp 1 hf rfl fun a hf=>zP hf rfl (pMF (us:=[pq I]) rfl rfl) fun a hf=>?_
   obtain ⟨r,hr,hF⟩:=aB hF
   refine zQ (v:=i6 r) hf hc aKj rfl (fun w hc=>(jL l at_ J (hc.pick k2) hr).mono fun e w h=>⟨h.1,(h.2.unpick k2)⟩) fun a w hf hc=>sp 1 hf rfl fun a hf=>zT h ?_
   refine wp_seq_k fun K10 ad=>?_
   obtain ⟨S,s,hF⟩:=aB hF
   obtain ⟨ag,ac,p,u⟩:=J.atm s
   obtain ⟨R,m,hF⟩:=aB hF
   obtain ⟨ab,af,x,z⟩:=J.atm m
   obtain ⟨B,k,hF⟩:=aB hF
   refine fI (fun θ=>[⟨none,none,0,.slice U l.length O⟩,⟨none,none,4,pq M⟩,⟨none,none,6,.func (.func 60) #[] #[pq I]⟩,⟨none,none,7,i6 r⟩,⟨some 0,none,38,.func (.func 60) #[] #[pq I]⟩,⟨some 1,none,39,.slice U l.length O⟩,⟨some 2,none,40,i6 r⟩,⟨some 3,none,41,i6 (W (r - 1))⟩,⟨some 4,none,42,.pointer (some ⟨ag,ac,none⟩)⟩,⟨some 5,none,43,.agg #[i6 S.Stage,i6 S.Flow]⟩,⟨some 6,none,44,.slice U l.length O⟩,⟨some 7,none,45,i6 r⟩,⟨some 8,none,46,.pointer (some ⟨ab,af,none⟩)⟩,⟨some 9,none,47,.agg #[i6 R.Stage,i6 R.Flow]⟩,⟨some 10,none,48,.agg #[i6 B.N,i6 B.D]⟩]) (fun E θ=>.box X [i6 H.Stage,i6 H.Flow] 65::(bif E 11 then .box M [i6 B.N,i6 B.D] 46 else .box M [i6 0,i6 0] 46)::.box I [i6 at_] 3::Lf) [] (fun a w=>Has 49 a [(4,pq M)]∧Ctx G (.box X [i6 H.Stage,i6 H.Flow] 65::.box M [i6 B.N,i6 B.D] 46::.box I [i6 at_] 3::Lf) w) aT (by kernel_rfl) (by kernel_rfl) (eZ.of hf ⟨rfl,rfl,rfl,rfl,trivial,trivial,trivial,trivial,trivial,trivial,trivial,trivial,trivial,trivial,trivial,trivial⟩) hc ⟨?_,?_,?_,?_,?_,?_,?_,?_,?_,?_,?_,?_,trivial⟩ ?_ ?_
   ·intro E θ a w hD hi hp he hc
    have hf:=he.h0.mT he 2 rfl
    refine sp 1 hf rfl fun a hf=>zD θ he hi hf 4 rfl rfl rfl hc
   ·intro E θ a w hD hi hp he hc
    have hf:=he.h0.mT he 0 rfl
    refine sp 1 hf rfl fun a hf=>zD θ he hi hf 5 rfl rfl rfl hc
   ·intro E θ a w hD hi hp he hc
    have hf:=he.h0.mT he 3 rfl
    refine sp 1 hf rfl fun a hf=>zD θ he hi hf 6 rfl rfl rfl hc
   ·intro E θ a w hD hi hp he hc
    have e2:=hp.o 2 rfl
    have hf:=he.h0.mP he 6 rfl e2
    refine sp 1 hf rfl fun a hf=>zD θ he hi hf 7 rfl rfl rfl hc
   ·intro E θ a w hD hi hp he hc
    have e1:=hp.o 1 rfl
    have e3:=hp.o 3 rfl
    have hf:=(he.h0.mP he 5 rfl e1).mP he 7 rfl e3
    refine zP hf rfl (pIA Tryz.underlying23 qH rfl rfl p) fun a hf=>zD θ he hi hf 8 rfl rfl rfl hc
   ·intro E θ a w hD hi hp he hc
    have e4:=hp.o 4 rfl
    have hf:=he.h0.mP he 8 rfl e4
    refine zE hf hc rfl (jM (vs:=[i6 S.Stage,i6 S.Flow]) aCf rfl rfl (cI u (n:=2) (o':=0) rfl)) fun a w hf hc=>zD θ he hi hf 9 rfl rfl rfl hc
   ·intro E θ a w hD hi hp he hc
    have hf:=he.h0.mT he 0 rfl
    refine sp 1 hf rfl fun a hf=>zD θ he hi hf 10 rfl rfl rfl hc
   ·intro E θ a w hD hi hp he hc
    have hf:=he.h0.mT he 3 rfl
    refine sp 1 hf rfl fun a hf=>zD θ he hi hf 11 rfl rfl rfl hc
   ·intro E θ a w hD hi hp he hc
    have e6:=hp.o 6 rfl
    have e7:=hp.o 7 rfl
    have hf:=(he.h0.mP he 10 rfl e6).mP he 11 rfl e7
    refine zP hf rfl (pIA Tryz.underlying23 qH rfl rfl x) fun a hf=>zD θ he hi hf 12 rfl rfl rfl hc
   ·intro E θ a w hD hi hp he hc
    have e8:=hp.o 8 rfl
    have hf:=he.h0.mP he 12 rfl e8
    refine zE hf hc rfl (jM (vs:=[i6 R.Stage,i6 R.Flow]) aCf rfl rfl (cI z (n:=2) (o':=0) rfl)) fun a w hf hc=>zD θ he hi hf 13 rfl rfl rfl hc
   ·intro E θ a w hD hi hp he hc
    have e0:=hp.o 0 rfl
    have e5:=hp.o 5 rfl
    have e9:=hp.o 9 rfl
    have hf:=((he.h0.mP he 4 rfl e0).mP he 9 rfl e5).mP he 13 rfl e9
    refine zQ (v:=.agg #[i6 B.N,i6 B.D]) hf hc en_60 rfl (fun w hc=>(yJ S R at_ (hc.pick k2) k).mono fun e w h=>⟨h.1,(h.2.unpick k2)⟩) fun a w hf hc=>zD θ he hi hf 14 rfl rfl rfl hc
   ·intro E θ a w hD hi hp he hc
    have aa:=hp.o 10 rfl
    try dsimp only at hc
    rw [hi] at hc
    have hf:=(he.h0.mT he 1 rfl).mP he 14 rfl aa
    refine zW hf hc tP u1 rfl fun w hc=>zG θ he hi hf rfl ?_
    try dsimp only
    rw [aR E 11]
    exact hc
   ·intro E θ a w t he hc
    have hf:=he.h0
    have ai:=t 11 rfl
    replace hf:=hf.more he 1 rfl (onT)
    try dsimp only at hc
    rw [ai] at hc
    exact ⟨hf.kp rfl,hc⟩
   rintro a w ⟨hf,hc⟩
   refine ad _ _ ?_
   refine wp_ret ?_
   obtain rfl:=sj hF
   replace hc:=(hc.drop k2).drop k0
   exact pH (by simp) rfl Tryz.results27 hf hc (cR (vs:=[i6 B.N,i6 B.D]) aAz rfl rfl (bO (n:=2) m0 rfl)) ⟨rfl,(hc.drop k0)⟩

def jB (N:Nat) (B:List aE) (H:Int) (D:Int):Option (eE × Int) :=
 Option.bind (oU N B H D) fun r=>
 cond (r != 0)
 (some ((⟨0,0⟩:eE),r))
 (Option.bind (iX N B (W (H - D))) fun I=>
 some (I,0))
theorem uL {N:Nat} {G:aS} {Lf:List Ent} {w:World} (B:List aE) (H:Int) (I:Int) {J:Option Addr} {M:Nat} (O:Rd G 2 J M (B.map aW)) (hc:Ctx G (Lf) w) {S:eE × Int} (hF:jB N B H I=some S):Calls Tryz.prog 9 #[.slice J B.length M,i6 H,i6 I] w (fun e w=>e=.returned (.tuple #[.agg #[i6 S.1.N,i6 S.1.D],i6 S.2])∧Ctx G (Lf) w):=by
 unfold jB at hF
 refine cB Tryz.func9 rfl Tryz.ntmps9 rfl fun a hf=>zS fun K h=>zA hf hc xE rfl fun V a w hf hc=>sp 1 hf rfl fun a hf=>zT h ?_
 refine wp_seq_k fun K2 h2=>zS fun K h=>sp 3 hf rfl fun a hf=>?_
 obtain ⟨r,hr,hF⟩:=aB hF
 refine zQ (v:=i6 r) hf hc en_26 rfl (fun w hc=>aA7 B H I O hc hr) fun a w hf hc=>sp 1 hf rfl fun a hf=>zT h ?_
 refine zS fun K h=>sp 2 hf rfl fun a hf=>zT h ?_
 refine zI hf rfl hF ?_ ?_ <;> clear hF <;> intro hF
 ·refine zS fun K h=>zP hf rfl (bH (cells:=[i6 0,i6 0]) aFp rfl rfl) fun a hf=>sp 1 hf rfl fun a hf=>zW hf hc tP u0 rfl fun w hc=>sp 1 hf rfl fun a hf=>zT h ?_
  refine wp_ret ?_
  refine aO ?_
  obtain rfl:=sj hF
  exact nQ (by simp) rfl Tryz.results9 hf hc (cR (vs:=[i6 0,i6 0]) aAz rfl rfl (bO (n:=2) m0 rfl)) (show dG _ 7=_ from rfl) ⟨rfl,(hc.drop k0)⟩
 ·refine wp_skip ?_
  refine h2 _ _ ?_
  refine zS fun K h=>sp 4 hf rfl fun a hf=>?_
  obtain ⟨R,U,hF⟩:=aB hF
  refine zQ (v:=.agg #[i6 R.N,i6 R.D]) hf hc aGh rfl (fun w hc=>nN B (W (H - I)) O hc U) fun a w hf hc=>zW hf hc tP u0 rfl fun w hc=>sp 1 hf rfl fun a hf=>zT h ?_
  refine wp_ret ?_
  obtain rfl:=sj hF
  exact nQ (by simp) rfl Tryz.results9 hf hc (cR (vs:=[i6 R.N,i6 R.D]) aAz rfl rfl (bO (n:=2) m0 rfl)) (show dG _ 7=_ from rfl) ⟨rfl,(hc.drop k0)⟩

def qL (N:Nat) (lo:Int) (B:Int):Option (aA) :=
 some (⟨lo,B⟩:aA)
theorem aBu {N:Nat} {G:aS} {Lf:List Ent} {w:World} (lo:Int) (B:Int)   (hc:Ctx G (Lf) w) {D:aA} (hF:qL N lo B=some D):Calls Tryz.prog 19 #[i6 lo,i6 B] w (fun e w=>e=.returned (.agg #[i6 D.Lo,i6 D.Hi])∧Ctx G (Lf) w):=by
 unfold qL at hF
 refine cB Tryz.func19 rfl Tryz.ntmps19 rfl fun a hf=>zS fun K h=>zA hf hc kX rfl fun H a w hf hc=>zT h ?_
 refine zS fun K h=>sp 2 hf rfl fun a hf=>zP hf rfl (bH (cells:=[i6 lo,i6 B]) iY rfl rfl) fun a hf=>zW hf hc cA u0 rfl fun w hc=>zT h ?_
 refine wp_ret ?_
 obtain rfl:=sj hF
 exact pH (by simp) rfl Tryz.results19 hf hc (cR (vs:=[i6 lo,i6 B]) eA rfl rfl (bO (n:=2) m0 rfl)) ⟨rfl,(hc.drop k0)⟩

def hX (N:Nat) (s_:bC) (B:List Int) (day:Int) (at_:Int) (x:Int) (O:List aI) (H:Int × Int × Int) (U:Int) (S:Int):Option (cY ((List Int) × Int × Int × Int × Int × Int × (List aI)) (aH × (List Int) × Int × Int)) :=
 Option.bind (cM N (⟨s_.bytes,H.2.1,H.2.2⟩:bC) 40) fun M=>
 Option.bind (cM N (⟨s_.bytes,M.2.1,M.2.2⟩:bC) 40) fun J=>
 Option.bind (qL N (max 0 (W (U - M.1))) (min 1000000000 (W (S + J.1)))) fun R=>
 Option.bind (pG ((O++[(⟨day,W (H.1 + at_),R⟩:aI)])).length) fun un=>
 Option.bind (pG ((B++[at_])).length) fun V=>
 Option.bind (aZ N (⟨s_.bytes,J.2.1,J.2.2⟩:bC) 1 9) fun I=>
 Option.bind (aZ N (⟨s_.bytes,I.2.1,I.2.2⟩:bC) (-5) 5) fun D=>
 some (.cont ((B++[at_]),W (day + I.1),W (at_ + D.1),W (x + 1),D.2.1,D.2.2,(O++[(⟨day,W (H.1 + at_),R⟩:aI)])))
def gT (N:Nat) (s_:bC) (r:(List aE) × Int × Int) (R:Int × Int × Int) (H:List Int) (day:Int) (at_:Int) (x:Int) (J:Int) (O:Int) (I:List aI):Option (cY ((List Int) × Int × Int × Int × Int × Int × (List aI)) (aH × (List Int) × Int × Int)) :=
 cond (decide (x < R.1))
 (Option.bind (bG r.1 0) fun U=>
 Option.bind (bG r.1 (W (((r.1.length:Nat):Int) - 1))) fun S=>
 Option.bind (aZ N (⟨s_.bytes,J,O⟩:bC) U.Stage S.Stage) fun M=>
 Option.bind (jB N r.1 (W (M.1 + at_)) at_) fun B=>
 cond (decide (0 < B.1.D))
 (Option.bind (nz B.1.D) fun V=>
 Option.bind (nz B.1.D) fun X=>
 hX N s_ H day at_ x I M (W (B.1.N.tdiv B.1.D)) (W ((W ((W (B.1.N + B.1.D)) - 1)).tdiv B.1.D)))
 (hX N s_ H day at_ x I M 0 0))
 (some (.brk (H,day,at_,x,J,O,I)))
def lM (N:Nat) (s_:bC) (most:Int):Option (aH × (List Int) × Int × Int) :=
 Option.bind (pD N s_) fun r=>
 Option.bind (cM N (⟨s_.bytes,r.2.1,r.2.2⟩:bC) 9) fun B=>
 Option.bind (aZ N (⟨s_.bytes,B.2.1,B.2.2⟩:bC) (-9) 9) fun H=>
 Option.bind (aZ N (⟨s_.bytes,H.2.1,H.2.2⟩:bC) 1 most) fun D=>
 Option.bind (bE (fun s8=>gT N s_ r D s8.1 s8.2.1 s8.2.2.1 s8.2.2.2.1 s8.2.2.2.2.1 s8.2.2.2.2.2.1 s8.2.2.2.2.2.2) N (([]:List Int),B.1,H.1,0,D.2.1,D.2.2,([]:List aI))) fun x8=>
 exK x8 (fun s8=>some ((⟨r.1,s8.2.2.2.2.2.2⟩:aH),s8.1,s8.2.2.2.2.1,s8.2.2.2.2.2.1)) some
theorem zZ {N:Nat} {G:aS} {Lf:List Ent} {w:World} (s_:bC) (most:Int) {b_:Nat} {I:Option Addr} {H:Nat} (B:Rd G 1 I H (s_.bytes.map qC)) (hc:Ctx G (.box b_ [.slice I s_.bytes.length H,i6 s_.used,i6 s_.mix] 68::Lf) w) {O:aH × (List Int) × Int × Int} (hF:lM N s_ most=some O):Calls Tryz.prog 4 #[pq b_,i6 most] w (fun e w=>∃ (av:Option Addr) (ay:Nat) (ap:Option Addr) (au:Nat) (aq:Option Addr) (an:Nat),e=.returned (.tuple #[.agg #[.slice av O.1.Rating.length ay,.slice ap O.1.Gaugings.length au],.slice aq O.2.1.length an])∧Ctx G (.row av ay (O.1.Rating.map aW) 65 2::.row ap au (O.1.Gaugings.map aX) 43 4::.row aq an (O.2.1.map aD) 3 1::.box b_ [.slice I s_.bytes.length H,i6 O.2.2.1,i6 O.2.2.2] 68::Lf) w):=by
 unfold lM at hF
 refine cB Tryz.func4 rfl Tryz.ntmps4 rfl fun a hf=>zS fun K h=>zA hf hc aJa rfl fun t a w hf hc=>sp 1 hf rfl fun a hf=>zT h ?_
 refine zS fun K h=>sp 1 hf rfl fun a hf=>?_
 obtain ⟨r,hr,hF⟩:=aB hF
 refine zC hf en_17 rfl (aBs s_ B (hc.pick k1) hr) ?_
 rintro _ w ⟨ax,az,rfl,hc⟩
 refine ⟨_,rfl,fun a hf=>?_⟩
 refine zP hf rfl (bH (cells:=[.slice ax r.1.length az,.slice none 0 0]) bt_26 rfl rfl) fun a hf=>zA hf hc aJa rfl fun q a w hf hc=>zW hf hc aJb u0 rfl fun w hc=>zT h ?_
 refine zS fun K h=>sp 1 hf rfl fun a hf=>zT h ?_
 refine zS fun K h=>sp 1 hf rfl fun a hf=>?_
 obtain ⟨aa,bc,hF⟩:=aB hF
 refine zC hf aDk rfl (iK (⟨s_.bytes,r.2.1,r.2.2⟩:bC) 9 B (hc.pick k2) bc) ?_
 rintro _ w ⟨rfl,hc⟩
 refine ⟨_,rfl,fun a hf=>?_⟩
 refine sp 1 hf rfl fun a hf=>zT h ?_
 refine zS fun K h=>sp 1 hf rfl fun a hf=>?_
 obtain ⟨ad,bf,hF⟩:=aB hF
 refine zC hf aBz rfl (cD (⟨s_.bytes,aa.2.1,aa.2.2⟩:bC) (-9) 9 B (hc.pick k0) bf) ?_
 rintro _ w ⟨rfl,hc⟩
 refine ⟨_,rfl,fun a hf=>?_⟩
 refine sp 1 hf rfl fun a hf=>zT h ?_
 refine wp_seq_k fun K6 h6=>zS fun K h=>sp 2 hf rfl fun a hf=>?_
 obtain ⟨s,a6,hF⟩:=aB hF
 refine zC hf aBz rfl (cD (⟨s_.bytes,ad.2.1,ad.2.2⟩:bC) 1 most B (hc.pick k0) a6) ?_
 rintro _ w ⟨rfl,hc⟩
 refine ⟨_,rfl,fun a hf=>?_⟩
 refine sp 1 hf rfl fun a hf=>zT h ?_
 refine wp_block ?_
 obtain ⟨x8,b0,hF⟩:=aB hF
 let S8:((List Int) × Int × Int × Int × Int × Int × (List aI))→Act→World→Prop:=(fun (zz:(List Int) × Int × Int × Int × Int × Int × (List aI)) a w=>∃ (Y:Option Addr) (X:Nat) (d:Option Addr) (R:Nat) (V:Option Addr) (U:Nat),Has 110 a [(0,pq b_),(4,pq t),(6,pq q),(7,.slice Y zz.1.length X),(8,i6 zz.2.1),(9,i6 zz.2.2.1),(26,i6 s.1),(27,i6 zz.2.2.2.1)]∧Ctx G (.row V U (zz.2.2.2.2.2.2.map aX) 43 4::.row Y X (zz.1.map aD) 3 1::.box b_ [.slice I s_.bytes.length H,i6 zz.2.2.2.2.1,i6 zz.2.2.2.2.2.1] 68::.box q [.slice d r.1.length R,.slice V zz.2.2.2.2.2.2.length U] 26::.row d R (r.1.map aW) 65 2::.box t [.slice none 0 0,.slice none 0 0] 26::Lf) w)
 have bs:∀ (zz:(List Int) × Int × Int × Int × Int × Int × (List aI)) a w,x8=.go zz→S8 zz a w→K6 a w:=by
  rintro ⟨J,day,at_,x,y,ac,k⟩ a w rfl ⟨Y,X,d,R,V,U,hf,hc⟩
  replace hF:=bW hF
  refine h6 _ _ ?_
  refine zS fun K h=>zN hf hc vY m3 rfl fun a w hf hc=>sp 1 hf rfl fun a hf=>zW hf hc aJb u5 rfl fun w hc=>sp 1 hf rfl fun a hf=>zT h ?_
  refine wp_ret ?_
  obtain rfl:=sj hF
  replace hc:=((((hc.drop k3).pick k2).pick k2).pick k2).pick k3
  exact nQ (by simp) rfl Tryz.results4 hf hc (cR (vs:=[.slice d r.1.length R,.slice V k.length U]) vY rfl rfl (bO (n:=2) m4 rfl)) (show dG _ 5=_ from rfl) ⟨d,R,V,U,Y,X,rfl,(hc.drop k4)⟩
 have b8:∀ r,x8=.out r→r=O:=by
  rintro r rfl
  exact sj hF
 replace hc:=hc.nilRow 3 1
 replace hc:=hc.nilRow 43 4
 refine dO N (dH (S:=S8) (x:=x8) ?_ N (([]:List Int),aa.1,ad.1,0,s.2.1,s.2.2,([]:List aI)) _ _ ⟨none,0,ax,az,none,0,hf.kp rfl,hc⟩ b0)
 clear hF hf hc
 rintro ⟨J,day,at_,x,y,ac,k⟩ bp a w KB8 ⟨Y,X,d,R,V,U,hf,hc⟩ hF u bm
 unfold gT at hF
 refine zS fun K h=>sp 1 hf rfl fun a hf=>zT h ?_
 refine wp_seq_k fun K11 bq=>zI hf rfl hF ?_ ?_ <;> clear hF <;> intro hF
 ·refine wp_skip ?_
  refine bq _ _ ?_
  refine wp_seq_k fun K12 bg=>wp_block ?_
  refine wp_seq_k fun K13 bv=>?_
  obtain ⟨bj,bb,hF⟩:=aB hF
  obtain ⟨g,rfl,qa,qr⟩:=gH hc m4 bb
  obtain ⟨bx,a2,hF⟩:=aB hF
  obtain ⟨a8,a3⟩:=kD hc m4 a2
  refine cQ hc aT (by kernel_rfl) ?_
  refine qE hf rfl rfl rfl (Pu.ev (pFA oQ rfl)) fun a hf=>qE hf rfl rfl rfl (cE wC rfl (bR m3 rfl)) fun a hf=>qE hf rfl rfl rfl (Pu.ev (pIA Tryz.underlying23 qH rfl rfl qa)) fun a hf=>qE hf rfl rfl rfl (Pu.ev (pFA mZ rfl)) fun a hf=>qE hf rfl rfl rfl (cE aU rfl (dA (sz:=2) (i:=(0:Int).toNat) (j:=0) m4 qr rfl)) fun a hf=>qE hf rfl rfl rfl (Pu.ev (pFA oQ rfl)) fun a hf=>qE hf rfl rfl rfl (cE wC rfl (bR m3 rfl)) fun a hf=>qE hf rfl rfl rfl (Pu.ev (pFA oQ rfl)) fun a hf=>qE hf rfl rfl rfl (cE wC rfl (bR m3 rfl)) fun a hf=>qE hf rfl rfl rfl (Pu.ev (bM Tryz.underlying23 rfl)) fun a hf=>qE hf rfl rfl rfl (Pu.ev (aBy rfl rfl)) fun a hf=>qE hf rfl rfl rfl (Pu.ev (pIA Tryz.underlying23 qH rfl rfl a8)) fun a hf=>qE hf rfl rfl rfl (Pu.ev (pFA mZ rfl)) fun a hf=>?_
  refine qE hf rfl rfl rfl (cE aU rfl (dA (sz:=2) (i:=(W (((r.1.length:Nat):Int) - 1)).toNat) (j:=0) m4 a3 rfl)) fun a hf=>qE hf rfl rfl rfl (Pu.ev (pA rfl)) fun a hf=>qE hf rfl rfl rfl (Pu.ev (pA rfl)) fun a hf=>?_
  intro w hc
  refine bv _ _ ?_
  refine zS fun K h=>sp 4 hf rfl fun a hf=>?_
  obtain ⟨M,a5,hF⟩:=aB hF
  refine zC hf aBz rfl (cD (⟨s_.bytes,y,ac⟩:bC) bj.Stage bx.Stage B (hc.pick k2) a5) ?_
  rintro _ w ⟨rfl,hc⟩
  refine ⟨_,rfl,fun a hf=>?_⟩
  refine sp 2 hf rfl fun a hf=>zP hf rfl (bH (cells:=[i6 day,i6 (W (M.1 + at_)),i6 0,i6 0]) bt_43 rfl rfl) fun a hf=>zA hf hc aEg rfl fun ar a w hf hc=>zW hf hc rK u0 rfl fun w hc=>zT h ?_
  refine zS fun K h=>zP hf rfl (pFA oQ rfl) fun a hf=>zL hf hc wC m4 rfl fun a w hf hc=>zP hf rfl (pFA aC7 rfl) fun a hf=>zL hf hc aU m0 rfl fun a w hf hc=>sp 1 hf rfl fun a hf=>?_
  obtain ⟨Z,a1,hF⟩:=aB hF
  refine zQ (v:=.tuple #[.agg #[i6 Z.1.N,i6 Z.1.D],i6 Z.2]) hf hc en_9 rfl (fun w hc=>by obtain ⟨G1,b1,a7,hc,a0⟩:=lend hc k5; exact (uL r.1 (W (M.1 + at_)) at_ a7 hc a1).mono fun e w h=>⟨h.1,((a0 _ _ h.2).unpick k5)⟩) fun a w hf hc=>sp 3 hf rfl fun a hf=>zA hf hc xE rfl fun b7 a w hf hc=>zW hf hc tP u0 rfl fun w hc=>sp 1 hf rfl fun a hf=>zT h ?_
  refine zS fun K h=>sp 2 hf rfl fun a hf=>zT h ?_
  refine wp_seq_k fun K17 bt=>?_
  have af:∀ (p:Int) (m:Int) a w,Has 110 a [(0,pq b_),(4,pq t),(6,pq q),(7,.slice Y J.length X),(8,i6 day),(9,i6 at_),(12,pq ar),(15,i6 p),(16,i6 m),(26,i6 s.1),(27,i6 x)]→Ctx G (.box ar [i6 day,i6 (W (M.1 + at_)),i6 0,i6 0] 43::.box b_ [.slice I s_.bytes.length H,i6 M.2.1,i6 M.2.2] 68::.row V U (k.map aX) 43 4::.row Y X (J.map aD) 3 1::.box q [.slice (some ⟨g,0,none⟩) r.1.length R,.slice V k.length U] 26::.row (some ⟨g,0,none⟩) R (r.1.map aW) 65 2::.box t [.slice none 0 0,.slice none 0 0] 26::Lf) w→hX N s_ J day at_ x k M p m=some bp→K17 a w:=by
   repeat (clear hF)
   repeat (clear hc)
   repeat (clear hf)
   intro p m a w hf hc hF
   unfold hX at hF
   refine bt _ _ ?_
   refine zS fun K h=>sp 2 hf rfl fun a hf=>?_
   obtain ⟨ag,a9,hF⟩:=aB hF
   refine zC hf aDk rfl (iK (⟨s_.bytes,M.2.1,M.2.2⟩:bC) 40 B (hc.pick k1) a9) ?_
   rintro _ w ⟨rfl,hc⟩
   refine ⟨_,rfl,fun a hf=>?_⟩
   refine sp 1 hf rfl fun a hf=>zP hf rfl (xH rfl rfl) fun a hf=>sp 2 hf rfl fun a hf=>?_
   obtain ⟨z,bd,hF⟩:=aB hF
   refine zC hf aDk rfl (iK (⟨s_.bytes,ag.2.1,ag.2.2⟩:bC) 40 B (hc.pick k0) bd) ?_
   rintro _ w ⟨rfl,hc⟩
   refine ⟨_,rfl,fun a hf=>?_⟩
   refine sp 1 hf rfl fun a hf=>zP hf rfl (zO rfl rfl) fun a hf=>?_
   obtain ⟨b,a4,hF⟩:=aB hF
   refine zQ (v:=.agg #[i6 b.Lo,i6 b.Hi]) hf hc en_19 rfl (fun w hc=>aBu (max 0 (W (p - ag.1))) (min 1000000000 (W (m + z.1))) hc a4) fun a w hf hc=>zP hf rfl (pFA vL rfl) fun a hf=>zW hf hc cA u1 rfl fun w hc=>zT h ?_
   refine wp_seq_k fun K19 bi=>dE ?_
   refine zP hf rfl (pFA jQ rfl) fun a hf=>zL hf hc qK m4 rfl fun a w hf hc=>zN hf hc yS m1 rfl fun a w hf hc=>mY (rows:=([(⟨day,W (M.1 + at_),b⟩:aI)]:List aI).map aX) (vs:=[(0,.agg #[i6 day,i6 (W (M.1 + at_)),i6 b.Lo,i6 b.Hi])]) hf hc rfl rfl aKy rfl ⟨rfl,rfl,rfl,trivial⟩ rfl rfl fun b5 a w hf hc=>?_
   obtain ⟨un,bn,hF⟩:=aB hF
   refine nT (xs:=k) (ys:=([(⟨day,W (M.1 + at_),b⟩:aI)]:List aI)) hf hc rfl rfl aKy rfl rfl rfl rfl rfl tZ (iL hc m0) (fun _ _=>u3) (by simpa using eR bn) fun bz bk a w hf hc=>sp 2 hf rfl fun a hf=>mY (rows:=([at_]:List Int).map aD) (vs:=[(0,i6 at_)]) hf hc rfl rfl lD rfl ⟨rfl,rfl,rfl,trivial⟩ rfl rfl fun b6 a w hf hc=>?_
   obtain ⟨b3,ak,hF⟩:=aB hF
   refine nT (xs:=J) (ys:=([at_]:List Int)) hf hc rfl rfl lD rfl rfl rfl rfl rfl bD (iL hc m0) (fun _ _=>u5) (by simpa using eR ak) fun bu br a w hf hc=>zP hf rfl (pFA jQ rfl) fun a hf=>zW hf hc sz_24 u6 rfl fun w hc=>sp 1 hf rfl fun a hf=>aP ?_
   replace hc:=((hc.drop k3).drop k1).drop k0
   refine bi _ _ ?_
   refine dE ?_
   refine sp 2 hf rfl fun a hf=>?_
   obtain ⟨ab,ba,hF⟩:=aB hF
   refine zC hf aBz rfl (cD (⟨s_.bytes,z.2.1,z.2.2⟩:bC) 1 9 B (hc.pick k0) ba) ?_
   rintro _ w ⟨rfl,hc⟩
   refine ⟨_,rfl,fun a hf=>?_⟩
   refine sp 3 hf rfl fun a hf=>?_
   obtain ⟨o,ai,hF⟩:=aB hF
   refine zC hf aBz rfl (cD (⟨s_.bytes,ab.2.1,ab.2.2⟩:bC) (-5) 5 B (hc.pick k0) ai) ?_
   rintro _ w ⟨rfl,hc⟩
   refine ⟨_,rfl,fun a hf=>?_⟩
   refine sp 3 hf rfl fun a hf=>aP ?_
   refine bg _ _ ?_
   refine dE ?_
   refine sp 2 hf rfl fun a hf=>aP ?_
   replace hc:=((hc.pick k0).pick k2).pick k2
   exact bm ((J++[at_]),W (day + ab.1),W (at_ + o.1),W (x + 1),o.2.1,o.2.2,(k++[(⟨day,W (M.1 + at_),b⟩:aI)])) _ _ (sj hF).symm ⟨bu,br,(some ⟨g,0,none⟩),R,bz,bk,hf.kp rfl,hc⟩
  refine zS fun K h=>zP hf rfl (pFA lN rfl) fun a hf=>zL hf hc aU m0 rfl fun a w hf hc=>sp 1 hf rfl fun a hf=>zT h ?_
  refine zI hf rfl hF ?_ ?_ <;> clear hF <;> intro hF
  ·obtain ⟨b2,am,hF⟩:=aB hF
   obtain ⟨b4,aj,hF⟩:=aB hF
   refine cQ hc aT (by kernel_rfl) ?_
   refine qE hf rfl rfl rfl (Pu.ev (pFA qD rfl)) fun a hf=>qE hf rfl rfl rfl (cE aU rfl (bR m0 rfl)) fun a hf=>qE hf rfl rfl rfl (Pu.ev (pFA lN rfl)) fun a hf=>qE hf rfl rfl rfl (cE aU rfl (bR m0 rfl)) fun a hf=>qE hf rfl rfl rfl (Pu.ev (aD5 rfl rfl (nC am))) fun a hf=>qE hf rfl rfl rfl (Pu.ev (pFA qD rfl)) fun a hf=>qE hf rfl rfl rfl (cE aU rfl (bR m0 rfl)) fun a hf=>qE hf rfl rfl rfl (Pu.ev (pFA lN rfl)) fun a hf=>qE hf rfl rfl rfl (cE aU rfl (bR m0 rfl)) fun a hf=>qE hf rfl rfl rfl (Pu.ev (aBv rfl rfl)) fun a hf=>qE hf rfl rfl rfl (Pu.ev (aBy rfl rfl)) fun a hf=>qE hf rfl rfl rfl (Pu.ev (pFA lN rfl)) fun a hf=>qE hf rfl rfl rfl (cE aU rfl (bR m0 rfl)) fun a hf=>?_
   refine qE hf rfl rfl rfl (Pu.ev (aD5 rfl rfl (nC aj))) fun a hf=>qE hf rfl rfl rfl (Pu.ev (pA rfl)) fun a hf=>qE hf rfl rfl rfl (Pu.ev (pA rfl)) fun a hf=>?_
   intro w hc
   replace hc:=hc.drop k0
   exact af (W (Z.1.N.tdiv Z.1.D)) (W ((W ((W (Z.1.N + Z.1.D)) - 1)).tdiv Z.1.D)) _ _  (hf.kp rfl) hc hF
  ·refine wp_skip ?_
   replace hc:=hc.drop k0
   exact af 0 0 _ _  (hf.kp rfl) hc hF
 ·refine wp_exit ?_
  refine aV ?_
  refine aV ?_
  have he:=sj hF
  rw [← he] at u
  refine eW ?_
  exact bs _ _ _ u ⟨Y,X,d,R,V,U,hf.kp rfl,hc⟩

def dZ (g:aI):Bool :=
 ((((aG g.Day 0 40000) && (aY g.Stage)) && (aG g.Flow.Lo 0 g.Flow.Hi)) && (iA g.Flow.Hi))
theorem xX {G:aS} {Lf:List Ent} {w:World} (g:aI)   (hc:Ctx G (Lf) w) {D:Bool} (hF:dZ g=D):Calls Tryz.prog 83 #[.agg #[i6 g.Day,i6 g.Stage,i6 g.Flow.Lo,i6 g.Flow.Hi]] w (fun e w=>e=.returned (.bool D)∧Ctx G (Lf) w):=by
 unfold dZ at hF
 refine cB Tryz.func83 rfl Tryz.ntmps83 rfl fun a hf=>zS fun K h=>zB hf hc rfl fun B a w hf hc=>sp 1 hf rfl fun a hf=>zT h ?_
 refine zS fun K h=>zP hf rfl (pFA oP rfl) fun a hf=>zL hf hc aU m0 rfl fun a w hf hc=>zQ (v:=.bool (aG g.Day 0 40000)) hf hc rI rfl (fun w hc=>eO g.Day 0 40000 hc rfl) fun a w hf hc=>sp 1 hf rfl fun a hf=>hY 4 (fun a=>Has 26 a [(1,pq B),(2,.bool false),(3,pq B),(4,i6 g.Day),(5,.bool (aG g.Day 0 40000)),(6,.bool (aG g.Day 0 40000)),(10,.bool ((aG g.Day 0 40000) && (aY g.Stage)))]) hc ?_ ?_
 ·cases hb:(aG g.Day 0 40000)
  ·rw [hb] at hf
   refine stS hf rfl rfl rfl fun a hf=>stS hf rfl rfl rfl fun a hf=>stS hf rfl rfl rfl fun a hf=>sp 1 hf rfl fun a hf=>aP ⟨hf.kp rfl,hc⟩
  ·rw [hb] at hf
   refine zP hf rfl (pFA aC7 rfl) fun a hf=>zL hf hc aU m0 rfl fun a w hf hc=>zQ (v:=.bool (aY g.Stage)) hf hc aD6 rfl (fun w hc=>lG g.Stage hc rfl) fun a w hf hc=>sp 1 hf rfl fun a hf=>aP ⟨hf.kp rfl,hc⟩
 intro a w ⟨hf,hc⟩
 refine sp 1 hf rfl fun a hf=>hY 8 (fun a=>Has 26 a [(1,pq B),(2,.bool false),(3,pq B),(4,i6 g.Day),(5,.bool (aG g.Day 0 40000)),(6,.bool (aG g.Day 0 40000)),(10,.bool ((aG g.Day 0 40000) && (aY g.Stage))),(11,.bool ((aG g.Day 0 40000) && (aY g.Stage))),(19,.bool (((aG g.Day 0 40000) && (aY g.Stage)) && (aG g.Flow.Lo 0 g.Flow.Hi)))]) hc ?_ ?_
 ·cases hb:((aG g.Day 0 40000) && (aY g.Stage))
  ·rw [hb] at hf
   refine stS hf rfl rfl rfl fun a hf=>stS hf rfl rfl rfl fun a hf=>stS hf rfl rfl rfl fun a hf=>stS hf rfl rfl rfl fun a hf=>stS hf rfl rfl rfl fun a hf=>stS hf rfl rfl rfl fun a hf=>stS hf rfl rfl rfl fun a hf=>sp 1 hf rfl fun a hf=>aP ⟨hf.kp rfl,hc⟩
  ·rw [hb] at hf
   refine zP hf rfl (pFA vL rfl) fun a hf=>zP hf rfl (pFA dS rfl) fun a hf=>zL hf hc aU m0 rfl fun a w hf hc=>zP hf rfl (pFA vL rfl) fun a hf=>zP hf rfl (pFA dC rfl) fun a hf=>zL hf hc aU m0 rfl fun a w hf hc=>zQ (v:=.bool (aG g.Flow.Lo 0 g.Flow.Hi)) hf hc rI rfl (fun w hc=>eO g.Flow.Lo 0 g.Flow.Hi hc rfl) fun a w hf hc=>sp 1 hf rfl fun a hf=>aP ⟨hf.kp rfl,hc⟩
 intro a w ⟨hf,hc⟩
 refine sp 1 hf rfl fun a hf=>hY 5 (fun a=>Has 26 a [(1,pq B),(2,.bool false),(3,pq B),(4,i6 g.Day),(5,.bool (aG g.Day 0 40000)),(6,.bool (aG g.Day 0 40000)),(10,.bool ((aG g.Day 0 40000) && (aY g.Stage))),(11,.bool ((aG g.Day 0 40000) && (aY g.Stage))),(19,.bool (((aG g.Day 0 40000) && (aY g.Stage)) && (aG g.Flow.Lo 0 g.Flow.Hi))),(20,.bool (((aG g.Day 0 40000) && (aY g.Stage)) && (aG g.Flow.Lo 0 g.Flow.Hi))),(25,.bool ((((aG g.Day 0 40000) && (aY g.Stage)) && (aG g.Flow.Lo 0 g.Flow.Hi)) && (iA g.Flow.Hi)))]) hc ?_ ?_
 ·cases hb:(((aG g.Day 0 40000) && (aY g.Stage)) && (aG g.Flow.Lo 0 g.Flow.Hi))
  ·rw [hb] at hf
   refine stS hf rfl rfl rfl fun a hf=>stS hf rfl rfl rfl fun a hf=>stS hf rfl rfl rfl fun a hf=>stS hf rfl rfl rfl fun a hf=>sp 1 hf rfl fun a hf=>aP ⟨hf.kp rfl,hc⟩
  ·rw [hb] at hf
   refine zP hf rfl (pFA vL rfl) fun a hf=>zP hf rfl (pFA dC rfl) fun a hf=>zL hf hc aU m0 rfl fun a w hf hc=>zQ (v:=.bool (iA g.Flow.Hi)) hf hc aKw rfl (fun w hc=>vX g.Flow.Hi hc rfl) fun a w hf hc=>sp 1 hf rfl fun a hf=>aP ⟨hf.kp rfl,hc⟩
 intro a w ⟨hf,hc⟩
 refine sp 1 hf rfl fun a hf=>zT h ?_
 refine wp_ret ?_
 obtain rfl:=hF
 replace hc:=hc.drop k0
 exact zO1 Tryz.results83 hf rfl ⟨rfl,hc⟩

def dV (x:aI):Bool :=
 (!(dZ x))
theorem oF {G:aS} {Lf:List Ent} {w:World} (x:aI) {b_:Nat}  (hc:Ctx G (.box b_ [.func (.func 83) #[] #[]] 154::Lf) w) {B:Bool} (hF:dV x=B):Calls Tryz.prog 103 #[.agg #[i6 x.Day,i6 x.Stage,i6 x.Flow.Lo,i6 x.Flow.Hi],pq b_] w (fun e w=>e=.returned (.bool B)∧Ctx G (.box b_ [.func (.func 83) #[] #[]] 154::Lf) w):=by
 unfold dV at hF
 refine cB Tryz.func103 rfl Tryz.ntmps103 rfl fun a hf=>zS fun K h=>zB hf hc rfl fun D a w hf hc=>sp 1 hf rfl fun a hf=>zT h ?_
 refine zS fun K h=>zL hf hc aL7 m1 rfl fun a w hf hc=>zN hf hc yS m0 rfl fun a w hf hc=>zQ (v:=.bool (dZ x)) hf hc en_83 rfl (fun w hc=>xX x hc rfl) fun a w hf hc=>sp 2 hf rfl fun a hf=>zT h ?_
 refine wp_ret ?_
 obtain rfl:=hF
 replace hc:=hc.drop k0
 exact zO1 Tryz.results103 hf rfl ⟨rfl,hc⟩

def eI (N:Nat) (s_:List aI) (x:Int):Option (cY (Int) (Int)) :=
 cond (decide (x < ((s_.length:Nat):Int)))
 (Option.bind (bG s_ x) fun B=>
 cond (dV B)
 (some (.ret x))
 (some (.cont (W (x + 1)))))
 (some (.brk x))
def bV (N:Nat) (s_:List aI):Option (Int) :=
 Option.bind (bE (fun s4=>eI N s_ s4) N 0) fun x4=>
 exK x4 (fun s4=>some (-1)) some
theorem iN {N:Nat} {G:aS} {Lf:List Ent} {w:World} (s_:List aI) {H:Option Addr} {I:Nat} {b_:Nat} (M:Rd G 4 H I (s_.map aX)) (hc:Ctx G (.box b_ [.func (.func 83) #[] #[]] 154::Lf) w) {J:Int} (hF:bV N s_=some J):Calls Tryz.prog 122 #[.slice H s_.length I,.func (.func 103) #[] #[pq b_]] w (fun e w=>e=.returned (i6 J)∧Ctx G (.box b_ [.func (.func 83) #[] #[]] 154::Lf) w):=by
 unfold bV at hF
 refine cB Tryz.func122 rfl Tryz.ntmps122 rfl fun a hf=>zS fun K h=>sp 1 hf rfl fun a hf=>zT h ?_
 refine wp_seq_k fun K2 h2=>zS fun K h=>sp 1 hf rfl fun a hf=>zP hf rfl (bM Tryz.underlying24 rfl) fun a hf=>sp 1 hf rfl fun a hf=>zT h ?_
 refine wp_block ?_
 obtain ⟨x4,U,hF⟩:=aB hF
 let S4:Int→Act→World→Prop:=(fun (zz:Int) a w=>Has 19 a [(0,.slice H s_.length I),(1,.func (.func 103) #[] #[pq b_]),(7,i6 ((s_.length:Nat):Int)),(8,i6 zz)]∧Ctx G (.box b_ [.func (.func 83) #[] #[]] 154::Lf) w)
 have V:∀ (zz:Int) a w,x4=.go zz→S4 zz a w→K2 a w:=by
  rintro x a w rfl ⟨hf,hc⟩
  replace hF:=bW hF
  refine h2 _ _ ?_
  refine zS fun K h=>sp 1 hf rfl fun a hf=>zT h ?_
  refine wp_ret ?_
  obtain rfl:=sj hF
  exact zO1 Tryz.results122 hf rfl ⟨rfl,hc⟩
 have R:∀ r,x4=.out r→r=J:=by
  rintro r rfl
  exact sj hF
 refine dO N (dH (S:=S4) (x:=x4) ?_ N 0 _ _ ⟨hf.kp rfl,hc⟩ U)
 clear hF hf hc
 rintro x Y a w KB4 ⟨hf,hc⟩ hF B X
 unfold eI at hF
 refine zS fun K h=>sp 1 hf rfl fun a hf=>zT h ?_
 refine wp_seq_k fun K7 h7=>zI hf rfl hF ?_ ?_ <;> clear hF <;> intro hF
 ·refine wp_skip ?_
  refine h7 _ _ ?_
  refine wp_seq_k fun K8 h8=>wp_block ?_
  refine zS fun K h=>sp 2 hf rfl fun a hf=>zT h ?_
  refine zS fun K h=>sp 3 hf rfl fun a hf=>?_
  obtain ⟨D,O,hF⟩:=aB hF
  obtain ⟨Z,o,qa,qp⟩:=M.atm O
  refine zP hf rfl (pIA Tryz.underlying24 rK rfl rfl qa) fun a hf=>zE hf hc rfl (jM (vs:=[i6 D.Day,i6 D.Stage,i6 D.Flow.Lo,i6 D.Flow.Hi]) yS rfl rfl (cI qp (n:=4) (o':=0) rfl)) fun a w hf hc=>zQ (v:=.bool (dV D)) hf hc aL8 rfl (fun w hc=>(oF D (hc.pick k0) rfl).mono fun e w h=>⟨h.1,(h.2.unpick k0)⟩) fun a w hf hc=>zT h ?_
  refine zI hf rfl hF ?_ ?_ <;> clear hF <;> intro hF
  ·refine zS fun K h=>sp 2 hf rfl fun a hf=>zT h ?_
   refine wp_ret ?_
   refine bU ?_
   refine aO ?_
   refine aO ?_
   have he:=sj hF
   rw [← he] at B
   replace hF:=R _ B
   refine bU ?_
   refine aO ?_
   obtain rfl:=hF
   exact zO1 Tryz.results122 hf rfl ⟨rfl,hc⟩
  ·refine wp_skip ?_
   refine h8 _ _ ?_
   refine dE ?_
   refine sp 2 hf rfl fun a hf=>aP ?_
   exact X (W (x + 1)) _ _ (sj hF).symm ⟨hf.kp rfl,hc⟩
 ·refine wp_exit ?_
  refine aV ?_
  refine aV ?_
  have he:=sj hF
  rw [← he] at B
  refine eW ?_
  exact V _ _ _ B ⟨hf.kp rfl,hc⟩

def bQ (N:Nat) (s_:List aI):Option (Bool) :=
 Option.bind (bV N s_) fun r=>
 some (decide (0≤r))
theorem hZ {N:Nat} {G:aS} {Lf:List Ent} {w:World} (s_:List aI) {D:Option Addr} {B:Nat} {b_:Nat} (I:Rd G 4 D B (s_.map aX)) (hc:Ctx G (.box b_ [.func (.func 83) #[] #[]] 154::Lf) w) {H:Bool} (hF:bQ N s_=some H):Calls Tryz.prog 102 #[.slice D s_.length B,.func (.func 103) #[] #[pq b_]] w (fun e w=>e=.returned (.bool H)∧Ctx G (.box b_ [.func (.func 83) #[] #[]] 154::Lf) w):=by
 unfold bQ at hF
 refine cB Tryz.func102 rfl Tryz.ntmps102 rfl fun a hf=>zS fun K h=>sp 1 hf rfl fun a hf=>zT h ?_
 refine zS fun K h=>sp 2 hf rfl fun a hf=>?_
 obtain ⟨r,hr,hF⟩:=aB hF
 refine zQ (v:=i6 r) hf hc aLp rfl (fun w hc=>(iN s_ I (hc.pick k0) hr).mono fun e w h=>⟨h.1,(h.2.unpick k0)⟩) fun a w hf hc=>sp 2 hf rfl fun a hf=>zT h ?_
 refine wp_ret ?_
 obtain rfl:=sj hF
 exact zO1 Tryz.results102 hf rfl ⟨rfl,hc⟩

def eJ (N:Nat) (l:List aI):Option (Bool) :=
 Option.bind (bQ N l) fun r=>
 some (!r)
theorem pN {N:Nat} {G:aS} {Lf:List Ent} {w:World} (l:List aI) {H:Option Addr} {B:Nat} (I:Rd G 4 H B (l.map aX)) (hc:Ctx G (Lf) w) {D:Bool} (hF:eJ N l=some D):Calls Tryz.prog 82 #[.slice H l.length B,.func (.func 83) #[] #[]] w (fun e w=>e=.returned (.bool D)∧Ctx G (Lf) w):=by
 unfold eJ at hF
 refine cB Tryz.func82 rfl Tryz.ntmps82 rfl fun a hf=>zS fun K h=>zB hf hc rfl fun J a w hf hc=>sp 1 hf rfl fun a hf=>zT h ?_
 refine zS fun K h=>sp 1 hf rfl fun a hf=>zP hf rfl (pMF (us:=[pq J]) rfl rfl) fun a hf=>?_
 obtain ⟨r,hr,hF⟩:=aB hF
 refine zQ (v:=.bool r) hf hc aL1 rfl (fun w hc=>(hZ l I (hc.pick k0) hr).mono fun e w h=>⟨h.1,(h.2.unpick k0)⟩) fun a w hf hc=>sp 2 hf rfl fun a hf=>zT h ?_
 refine wp_ret ?_
 obtain rfl:=sj hF
 replace hc:=hc.drop k0
 exact zO1 Tryz.results82 hf rfl ⟨rfl,hc⟩

def gP (N:Nat) (r:aH) (x:Int):Option (cY (Int) (Int)) :=
 cond (decide (x < ((r.Gaugings.length:Nat):Int)))
 (Option.bind (bG r.Gaugings x) fun D=>
 Option.bind (cond (decide (0 < x)) (Option.bind (bG r.Gaugings (W (x - 1))) fun B=>
 some (decide (D.Day≤B.Day))) (some false)) fun H=>
 cond H
 (some (.ret 9))
 (some (.cont (W (x + 1)))))
 (some (.brk x))
def oV (N:Nat) (r:aH):Option (Int) :=
 Option.bind (mV N r.Rating) fun B=>
 cond ((B == 3) || (!(aG ((r.Gaugings.length:Nat):Int) 1 30)))
 (some 3)
 (cond (B != 0)
 (some B)
 (Option.bind (eJ N r.Gaugings) fun H=>
 cond (!H)
 (some 60)
 (Option.bind (mW N r.Rating) fun J=>
 cond (!J)
 (some 9)
 (Option.bind (bE (fun D=>gP N r D) N 0) fun I=>
 exK I (fun D=>some 0) some))))
theorem aBo {N:Nat} {G:aS} {Lf:List Ent} {w:World} (r:aH) {J:Option Addr} {I:Nat} {D:Option Addr} {B:Nat} (O:Rd G 2 J I (r.Rating.map aW)) (H:Rd G 4 D B (r.Gaugings.map aX)) (hc:Ctx G (Lf) w) {X:Int} (hF:oV N r=some X):Calls Tryz.prog 51 #[.agg #[.slice J r.Rating.length I,.slice D r.Gaugings.length B]] w (fun e w=>e=.returned (i6 X)∧Ctx G (Lf) w):=by
 unfold oV at hF
 refine cB Tryz.func51 rfl Tryz.ntmps51 rfl fun a hf=>zS fun K h=>zB hf hc rfl fun V a w hf hc=>sp 1 hf rfl fun a hf=>zT h ?_
 refine zS fun K h=>zP hf rfl (pFA oQ rfl) fun a hf=>zL hf hc wC m0 rfl fun a w hf hc=>?_
 obtain ⟨R,g,hF⟩:=aB hF
 refine zQ (v:=i6 R) hf hc aKb rfl (fun w hc=>uT r.Rating O hc g) fun a w hf hc=>sp 1 hf rfl fun a hf=>zT h ?_
 refine wp_seq_k fun K3 h3=>wp_block ?_
 refine zS fun K h=>sp 3 hf rfl fun a hf=>hY 6 (fun a=>Has 56 a [(1,pq V),(3,i6 R),(10,i6 R),(11,.bool (R == 3)),(12,.bool (R == 3)),(18,.bool ((R == 3) || (!(aG ((r.Gaugings.length:Nat):Int) 1 30))))]) hc ?_ ?_
 ·cases hb:(R == 3)
  ·rw [hb] at hf
   refine zP hf rfl (pFA jQ rfl) fun a hf=>zL hf hc qK m0 rfl fun a w hf hc=>zP hf rfl (bM Tryz.underlying24 rfl) fun a hf=>zQ (v:=.bool (aG ((r.Gaugings.length:Nat):Int) 1 30)) hf hc rI rfl (fun w hc=>eO ((r.Gaugings.length:Nat):Int) 1 30 hc rfl) fun a w hf hc=>sp 2 hf rfl fun a hf=>aP ⟨hf.kp rfl,hc⟩
  ·rw [hb] at hf
   refine stS hf rfl rfl rfl fun a hf=>stS hf rfl rfl rfl fun a hf=>stS hf rfl rfl rfl fun a hf=>stS hf rfl rfl rfl fun a hf=>stS hf rfl rfl rfl fun a hf=>sp 1 hf rfl fun a hf=>aP ⟨hf.kp rfl,hc⟩
 intro a w ⟨hf,hc⟩
 refine sp 1 hf rfl fun a hf=>zT h ?_
 refine zI hf rfl hF ?_ ?_ <;> clear hF <;> intro hF
 ·refine zS fun K h=>sp 1 hf rfl fun a hf=>zT h ?_
  refine wp_ret ?_
  refine bU ?_
  refine aO ?_
  obtain rfl:=sj hF
  replace hc:=hc.drop k0
  exact zO1 Tryz.results51 hf rfl ⟨rfl,hc⟩
 ·refine zS fun K h=>sp 3 hf rfl fun a hf=>zT h ?_
  refine zI hf rfl hF ?_ ?_ <;> clear hF <;> intro hF
  ·refine zS fun K h=>sp 2 hf rfl fun a hf=>zT h ?_
   refine wp_ret ?_
   refine bU ?_
   refine aO ?_
   obtain rfl:=sj hF
   replace hc:=hc.drop k0
   exact zO1 Tryz.results51 hf rfl ⟨rfl,hc⟩
  ·refine zS fun K h=>zP hf rfl (pFA jQ rfl) fun a hf=>zL hf hc qK m0 rfl fun a w hf hc=>?_
   obtain ⟨z,p,hF⟩:=aB hF
   refine zQ (v:=.bool z) hf hc en_82 rfl (fun w hc=>pN r.Gaugings H hc p) fun a w hf hc=>sp 2 hf rfl fun a hf=>zT h ?_
   refine zI hf rfl hF ?_ ?_ <;> clear hF <;> intro hF
   ·refine zS fun K h=>sp 1 hf rfl fun a hf=>zT h ?_
    refine wp_ret ?_
    refine bU ?_
    refine aO ?_
    obtain rfl:=sj hF
    replace hc:=hc.drop k0
    exact zO1 Tryz.results51 hf rfl ⟨rfl,hc⟩
   ·refine zS fun K h=>zP hf rfl (pFA oQ rfl) fun a hf=>zL hf hc wC m0 rfl fun a w hf hc=>?_
    obtain ⟨ab,s,hF⟩:=aB hF
    refine zQ (v:=.bool ab) hf hc aK9 rfl (fun w hc=>uF r.Rating O hc s) fun a w hf hc=>sp 2 hf rfl fun a hf=>zT h ?_
    refine zI hf rfl hF ?_ ?_ <;> clear hF <;> intro hF
    ·refine zS fun K h=>sp 1 hf rfl fun a hf=>zT h ?_
     refine wp_ret ?_
     refine bU ?_
     refine aO ?_
     obtain rfl:=sj hF
     replace hc:=hc.drop k0
     exact zO1 Tryz.results51 hf rfl ⟨rfl,hc⟩
    ·refine wp_skip ?_
     refine h3 _ _ ?_
     refine wp_seq_k fun K12 y=>zS fun K h=>zP hf rfl (pFA jQ rfl) fun a hf=>zL hf hc qK m0 rfl fun a w hf hc=>zP hf rfl (bM Tryz.underlying24 rfl) fun a hf=>sp 1 hf rfl fun a hf=>zT h ?_
     refine wp_block ?_
     obtain ⟨Z,t,hF⟩:=aB hF
     let S14:Int→Act→World→Prop:=(fun (zz:Int) a w=>Has 56 a [(1,pq V),(34,.slice D r.Gaugings.length B),(35,i6 ((r.Gaugings.length:Nat):Int)),(36,i6 zz)]∧Ctx G (.box V [.slice J r.Rating.length I,.slice D r.Gaugings.length B] 26::Lf) w)
     have d:∀ (zz:Int) a w,Z=.go zz→S14 zz a w→K12 a w:=by
      rintro x a w rfl ⟨hf,hc⟩
      replace hF:=bW hF
      refine y _ _ ?_
      refine zS fun K h=>sp 1 hf rfl fun a hf=>zT h ?_
      refine wp_ret ?_
      obtain rfl:=sj hF
      replace hc:=hc.drop k0
      exact zO1 Tryz.results51 hf rfl ⟨rfl,hc⟩
     have q:∀ r,Z=.out r→r=X:=by
      rintro r rfl
      exact sj hF
     refine dO N (dH (S:=S14) (x:=Z) ?_ N 0 _ _ ⟨hf.kp rfl,hc⟩ t)
     clear hF hf hc
     rintro x ai a w KB14 ⟨hf,hc⟩ hF M i
     unfold gP at hF
     refine zS fun K h=>sp 1 hf rfl fun a hf=>zT h ?_
     refine wp_seq_k fun K17 aa=>zI hf rfl hF ?_ ?_ <;> clear hF <;> intro hF
     ·refine wp_skip ?_
      refine aa _ _ ?_
      refine wp_seq_k fun K18 ad=>wp_block ?_
      refine zS fun K h=>sp 1 hf rfl fun a hf=>?_
      obtain ⟨U,k,hF⟩:=aB hF
      obtain ⟨an,o,qa,qp⟩:=H.atm k
      refine zP hf rfl (pIA Tryz.underlying24 rK rfl rfl qa) fun a hf=>zE hf hc rfl (jM (vs:=[i6 U.Day,i6 U.Stage,i6 U.Flow.Lo,i6 U.Flow.Hi]) yS rfl rfl (cI qp (n:=4) (o':=0) rfl)) fun a w hf hc=>zA hf hc aEg rfl fun ag a w hf hc=>sp 1 hf rfl fun a hf=>zW hf hc rK u0 rfl fun w hc=>zT h ?_
      refine wp_seq_k fun K20 af=>?_
      obtain ⟨ac,Y,hF⟩:=aB hF
      refine cQ hc aT (by kernel_rfl) ?_
      refine qE hf rfl rfl rfl (Pu.ev (pM rfl)) fun a hf=>qE hf rfl rfl rfl (Pu.ev (pGt rfl rfl)) fun a hf=>qE hf rfl rfl rfl (Pu.ev (pM rfl)) fun a hf=>qCut 11 (fun a=>Has 56 a [(1,pq V),(34,.slice D r.Gaugings.length B),(35,i6 ((r.Gaugings.length:Nat):Int)),(36,i6 x),(5,pq ag),(4,i6 x),(41,i6 x),(42,.bool (decide (0 < x))),(43,.bool (decide (0 < x))),(54,.bool ac)]) ?_ ?_
      ·cases hb:(decide (0 < x))
       ·rw [hb] at hf
        have hF:=nJ hb Y
        obtain rfl:=sj hF
        refine qS hf rfl rfl rfl fun a hf=>qS hf rfl rfl rfl fun a hf=>qS hf rfl rfl rfl fun a hf=>qS hf rfl rfl rfl fun a hf=>qS hf rfl rfl rfl fun a hf=>qS hf rfl rfl rfl fun a hf=>qS hf rfl rfl rfl fun a hf=>qS hf rfl rfl rfl fun a hf=>qS hf rfl rfl rfl fun a hf=>qS hf rfl rfl rfl fun a hf=>qE hf rfl rfl rfl (Pu.ev (pPf rfl rfl)) fun a hf=>qNil (hf.kp rfl)
       ·rw [hb] at hf
        have hF:=lF hb Y
        obtain ⟨aj,m,hF⟩:=aB hF
        obtain ⟨am,ak,b,u⟩:=H.atm m
        refine qE hf rfl rfl rfl (Pu.ev (pFA oP rfl)) fun a hf=>qE hf rfl rfl rfl (cE aU rfl (bR m0 rfl)) fun a hf=>qE hf rfl rfl rfl (Pu.ev (pFA jQ rfl)) fun a hf=>qE hf rfl rfl rfl (cE qK rfl (bR m1 rfl)) fun a hf=>qE hf rfl rfl rfl (Pu.ev (pM rfl)) fun a hf=>qE hf rfl rfl rfl (Pu.ev (aBy rfl rfl)) fun a hf=>qE hf rfl rfl rfl (Pu.ev (pIA Tryz.underlying24 rK rfl rfl b)) fun a hf=>qE hf rfl rfl rfl (Pu.ev (pFA oP rfl)) fun a hf=>qE hf rfl rfl rfl (cE aU rfl (dX (j:=0) u rfl)) fun a hf=>qE hf rfl rfl rfl (Pu.ev (pLe rfl rfl)) fun a hf=>qE hf rfl rfl rfl (Pu.ev (pPt rfl rfl)) fun a hf=>?_
        obtain rfl:=sj hF
        exact qNil (hf.kp rfl)
      intro a hf
      intro w hc
      refine af _ _ ?_
      refine zI hf rfl hF ?_ ?_ <;> clear hF <;> intro hF
      ·refine zS fun K h=>sp 1 hf rfl fun a hf=>zT h ?_
       refine wp_ret ?_
       refine bU ?_
       refine aO ?_
       refine aO ?_
       have he:=sj hF
       rw [← he] at M
       replace hF:=q _ M
       refine bU ?_
       refine aO ?_
       obtain rfl:=hF
       replace hc:=(hc.drop k1).drop k0
       exact zO1 Tryz.results51 hf rfl ⟨rfl,hc⟩
      ·refine wp_skip ?_
       refine ad _ _ ?_
       refine dE ?_
       refine sp 2 hf rfl fun a hf=>aP ?_
       replace hc:=hc.drop k0
       exact i (W (x + 1)) _ _ (sj hF).symm ⟨hf.kp rfl,hc⟩
     ·refine wp_exit ?_
      refine aV ?_
      refine aV ?_
      have he:=sj hF
      rw [← he] at M
      refine eW ?_
      exact d _ _ _ M ⟨hf.kp rfl,hc⟩

def xO  : Unit :=
 ()
theorem kR {G:aS} {Lf:List Ent} {w:World}    (hc:Ctx G (Lf) w) {B:Unit} (hF:xO=B):Calls Tryz.prog 23 #[] w (fun e w=>e=.returned (.func (.func 56) #[] #[])∧Ctx G (Lf) w):=by
 unfold xO at hF
 refine cB Tryz.func23 rfl Tryz.ntmps23 rfl fun a hf=>zS fun K h=>sp 1 hf rfl fun a hf=>zT h ?_
 refine zS fun K h=>sp 1 hf rfl fun a hf=>zT h ?_
 refine wp_ret ?_
 obtain rfl:=hF
 exact zO1 Tryz.results23 hf rfl ⟨rfl,hc⟩

def dB (N:Nat) {σ:Type} (y:σ→(Int × Int)→Option (σ × Bool)) (x:Int) (sg:σ):Option (cY (Int × σ) (σ)) :=
 cond (decide (x < 601))
 (Option.bind (y sg (x,W (x - 300))) fun ry=>
 cond (!ry.2)
 (some (.ret ry.1))
 (some (.cont (W (x + 1),ry.1))))
 (some (.brk (x,sg)))
def cN (N:Nat) {σ:Type} (y:σ→(Int × Int)→Option (σ × Bool)) (B:σ):Option (σ) :=
 Option.bind (bE (fun s3=>dB N y s3.1 s3.2) N (0,B)) fun x3=>
 exK x3 (fun s3=>some s3.2) some
theorem iZ {N:Nat} {G:aS} {Lf:List Ent} {w:World} {σ:Type}    (J:σ→List Ent→Prop) (y:σ→(Int × Int)→Option (σ × Bool)) {l:Nat} (hy:uU Tryz.prog G l (fun x:(Int × Int)=>[i6 x.1,i6 x.2]) J y) (D:σ) {Ls0:List Ent} (M:J D Ls0) (hc:Ctx G ((Ls0++Lf)) w) {H:σ} (hF:cN N  y D=some H):Calls Tryz.prog 56 #[.func (.yield l) #[] #[]] w (fun e w=>(∃ v,e=.returned v)∧∃ L,J H L∧Ctx G ((L++Lf)) w):=by
 unfold cN at hF
 refine cB Tryz.func56 rfl Tryz.ntmps56 rfl fun a hf=>zS fun K h=>sp 1 hf rfl fun a hf=>zT h ?_
 refine mA fun K2 h2=>wp_block ?_
 obtain ⟨x3,R,hF⟩:=aB hF
 let S3:(Int × σ)→Act→World→Prop:=(fun (zz:Int × σ) a w=>∃ (Ls:List Ent),J zz.2 Ls∧Has 13 a [(0,.func (.yield l) #[] #[]),(3,i6 zz.1)]∧Ctx G ((Ls++Lf)) w)
 have V:∀ (zz:Int × σ) a w,x3=.go zz→S3 zz a w→K2 a w:=by
  rintro ⟨x,sg⟩ a w rfl ⟨Ls,hJ,hf,hc⟩
  replace hF:=bW hF
  refine h2 _ _ ?_
  obtain rfl:=sj hF
  exact wF (by simp) rfl Tryz.results56 hf ⟨⟨_,rfl⟩,Ls,hJ,hc⟩
 have U:∀ r,x3=.out r→r=H:=by
  rintro r rfl
  exact sj hF
 refine dO N (dH (S:=S3) (x:=x3) ?_ N (0,D) _ _ ⟨Ls0,M,hf.kp rfl,hc⟩ R)
 clear hF hf hc
 rintro ⟨x,sg⟩ Y a w KB3 ⟨Ls,hJ,hf,hc⟩ hF B O
 unfold dB at hF
 refine zS fun K h=>sp 1 hf rfl fun a hf=>zT h ?_
 refine wp_seq_k fun K5 h5=>zI hf rfl hF ?_ ?_ <;> clear hF <;> intro hF
 ·refine wp_skip ?_
  refine h5 _ _ ?_
  refine wp_seq_k fun K6 h6=>wp_block ?_
  refine zS fun K h=>sp 2 hf rfl fun a hf=>zT h ?_
  refine wp_seq_k fun K8 h8=>?_
  obtain ⟨ry,X,hF⟩:=aB hF
  refine yReg 4 (fun a w=>Has 13 a [(0,.func (.yield l) #[] #[]),(3,i6 x),(2,i6 x),(6,.func (.yield l) #[] #[]),(7,i6 x),(8,i6 x),(9,i6 (W (x - 300)))]∧Ctx G ((Ls++Lf)) w) (fun _ _ h=>by obtain ⟨⟨_,h⟩,_⟩:=h; cases h) ?_ ?_
  ·refine sp 4 hf rfl fun a hf=>aP ⟨hf.kp rfl,hc⟩
  rintro a w ⟨hf,hc⟩
  refine stY (own:=[]) (v:=(x,W (x - 300))) hy hJ X hf hc rfl rfl rfl rfl rfl rfl fun a w Ls_1 I hf hc=>?_
  replace hc:Ctx G ((Ls_1++Lf)) w:=hc
  refine aKc (fun _ _ h=>by obtain ⟨⟨_,h⟩,_⟩:=h; cases h) ?_
  refine sp 1 hf rfl fun a hf=>aP ?_
  refine h8 _ _ ?_
  refine zI hf rfl hF ?_ ?_ <;> clear hF <;> intro hF
  ·refine wp_ret ?_
   refine bU ?_
   refine aO ?_
   refine aO ?_
   have he:=sj hF
   rw [← he] at B
   replace hF:=U _ B
   refine bU ?_
   refine aO ?_
   obtain rfl:=hF
   exact wF (by simp) rfl Tryz.results56 hf ⟨⟨_,rfl⟩,Ls_1,I,hc⟩
  ·refine wp_skip ?_
   refine h6 _ _ ?_
   refine dE ?_
   refine sp 2 hf rfl fun a hf=>aP ?_
   exact O (W (x + 1),ry.1) _ _ (sj hF).symm ⟨Ls_1,I,hf.kp rfl,hc⟩
 ·refine wp_exit ?_
  refine aV ?_
  refine aV ?_
  have he:=sj hF
  rw [← he] at B
  refine eW ?_
  exact V _ _ _ B ⟨Ls,hJ,hf.kp rfl,hc⟩

def jF (N:Nat) (w_:sW) (g:aI) (B:Int):Option (Bool) :=
 Option.bind (iX N w_.Record.Rating (W (g.Stage - B))) fun r=>
 some ((decide ((W (g.Flow.Lo * r.D))≤r.N)) && (decide (r.N≤(W (g.Flow.Hi * r.D)))))
theorem uP {N:Nat} {G:aS} {Lf:List Ent} {w:World} (w_:sW) (g:aI) (S:Int) {b_:Nat} {B:Option Addr} {H:Nat} {I:Option Addr} {J:Nat} {O:Option Addr} {M:Nat} (R:Rd G 2 B H (w_.Record.Rating.map aW)) (Y:Rd G 4 I J (w_.Record.Gaugings.map aX)) (i:Rd G 2 O M (w_.passes.map aC)) (hc:Ctx G (.box b_ [.slice B w_.Record.Rating.length H,.slice I w_.Record.Gaugings.length J,.slice O w_.passes.length M] 75::Lf) w) {j:Bool} (hF:jF N w_ g S=some j):Calls Tryz.prog 52 #[pq b_,.agg #[i6 g.Day,i6 g.Stage,i6 g.Flow.Lo,i6 g.Flow.Hi],i6 S] w (fun e w=>e=.returned (.bool j)∧Ctx G (.box b_ [.slice B w_.Record.Rating.length H,.slice I w_.Record.Gaugings.length J,.slice O w_.passes.length M] 75::Lf) w):=by
 unfold jF at hF
 refine cB Tryz.func52 rfl Tryz.ntmps52 rfl fun a hf=>zS fun K h=>zB hf hc rfl fun U a w hf hc=>sp 1 hf rfl fun a hf=>zT h ?_
 refine wp_seq_k fun K2 h2=>?_
 obtain ⟨r,hr,hF⟩:=aB hF
 replace hc:=hc.nilRow 0 0
 refine fI (fun θ=>[⟨none,none,0,pq b_⟩,⟨none,none,2,i6 S⟩,⟨none,none,4,pq U⟩,⟨some 0,none,8,pq b_⟩,⟨some 1,none,9,pq b_⟩,⟨some 2,none,10,pq b_⟩,⟨some 3,none,11,pq b_⟩,⟨some 4,none,12,.slice B w_.Record.Rating.length H⟩,⟨some 5,none,13,.pointer (some ⟨U,1,none⟩)⟩,⟨some 6,none,14,i6 g.Stage⟩,⟨some 7,none,15,i6 S⟩,⟨some 8,none,16,i6 (W (g.Stage - S))⟩,⟨some 9,none,17,.agg #[i6 r.N,i6 r.D]⟩,⟨some 10,none,7,.pointer (some ⟨(θ 80).b,0,none⟩)⟩]) (fun E θ=>(bif E 11 then .box (θ 80).b [i6 r.N,i6 r.D] 46 else bif E 10 then .box (θ 80).b [i6 0,i6 0] 46 else .row none 0 [] 0 0)::.box U [i6 g.Day,i6 g.Stage,i6 g.Flow.Lo,i6 g.Flow.Hi] 43::.box b_ [.slice B w_.Record.Rating.length H,.slice I w_.Record.Gaugings.length J,.slice O w_.passes.length M] 75::Lf) [(11,10)] (fun a w=>∃ (X:Nat),Has 38 a [(4,pq U),(7,pq X)]∧Ctx G (.box X [i6 r.N,i6 r.D] 46::.box U [i6 g.Day,i6 g.Stage,i6 g.Flow.Lo,i6 g.Flow.Hi] 43::.box b_ [.slice B w_.Record.Rating.length H,.slice I w_.Record.Gaugings.length J,.slice O w_.passes.length M] 75::Lf) w) aT (by kernel_rfl) (by kernel_rfl) (eZ.of hf ⟨rfl,rfl,rfl,trivial,trivial,trivial,trivial,trivial,trivial,trivial,trivial,trivial,trivial,trivial,trivial⟩) hc ⟨?_,?_,?_,?_,?_,?_,?_,?_,?_,?_,?_,?_,trivial⟩ ?_ ?_
 ·intro E θ a w hD hi hp he hc
  have hf:=he.h0.mT he 0 rfl
  refine sp 1 hf rfl fun a hf=>zD θ he hi hf 3 rfl rfl rfl hc
 ·intro E θ a w hD hi hp he hc
  have e0:=hp.o 0 rfl
  have hf:=he.h0.mP he 3 rfl e0
  refine sp 1 hf rfl fun a hf=>zD θ he hi hf 4 rfl rfl rfl hc
 ·intro E θ a w hD hi hp he hc
  have e1:=hp.o 1 rfl
  have hf:=he.h0.mP he 4 rfl e1
  refine zP hf rfl (pFA aJo rfl) fun a hf=>zD θ he hi hf 5 rfl rfl rfl hc
 ·intro E θ a w hD hi hp he hc
  have e2:=hp.o 2 rfl
  have hf:=he.h0.mP he 5 rfl e2
  refine zP hf rfl (pFA oQ rfl) fun a hf=>zD θ he hi hf 6 rfl rfl rfl hc
 ·intro E θ a w hD hi hp he hc
  have e3:=hp.o 3 rfl
  have hf:=he.h0.mP he 6 rfl e3
  refine zL hf hc wC m2 rfl fun a w hf hc=>zD θ he hi hf 7 rfl rfl rfl hc
 ·intro E θ a w hD hi hp he hc
  have hf:=he.h0.mT he 2 rfl
  refine zP hf rfl (pFA aC7 rfl) fun a hf=>zD θ he hi hf 8 rfl rfl rfl hc
 ·intro E θ a w hD hi hp he hc
  have e5:=hp.o 5 rfl
  have hf:=he.h0.mP he 8 rfl e5
  refine zL hf hc aU m1 rfl fun a w hf hc=>zD θ he hi hf 9 rfl rfl rfl hc
 ·intro E θ a w hD hi hp he hc
  have hf:=he.h0.mT he 1 rfl
  refine sp 1 hf rfl fun a hf=>zD θ he hi hf 10 rfl rfl rfl hc
 ·intro E θ a w hD hi hp he hc
  have e6:=hp.o 6 rfl
  have e7:=hp.o 7 rfl
  have hf:=(he.h0.mP he 9 rfl e6).mP he 10 rfl e7
  refine sp 1 hf rfl fun a hf=>zD θ he hi hf 11 rfl rfl rfl hc
 ·intro E θ a w hD hi hp he hc
  have e4:=hp.o 4 rfl
  have e8:=hp.o 8 rfl
  have hf:=(he.h0.mP he 7 rfl e4).mP he 11 rfl e8
  refine zQ (v:=.agg #[i6 r.N,i6 r.D]) hf hc aGh rfl (fun w hc=>nN w_.Record.Rating (W (g.Stage - S)) R hc hr) fun a w hf hc=>zD θ he hi hf 12 rfl rfl rfl hc
 ·intro E θ a w hD hi hp he hc
  have Z:=hD.f 0 rfl hi
  try dsimp only at hc
  rw [hi,Z] at hc
  have hf:=he.h0
  refine zA hf hc xE rfl fun m a w hf hc=>aP ?_
  refine eY ?_
  intro ds u k
  replace hc:=hc.drop k1
  refine ⟨(qW θ 80 ⟨m,none,0,(fun _=>(none,0))⟩),he.put hi k hf rfl [] trivial ⟨qq,qq,qq,qq,qq,qq,qq,qq,qq,qq,qq,qq,qq,qq,trivial⟩,?_⟩
  try dsimp only
  rw [aR E 10,aQ 10 Z rfl]
  exact hc
 ·intro E θ a w hD hi hp he hc
  have e9:=hp.o 9 rfl
  have V:=hp.o 10 rfl
  try dsimp only at hc
  rw [V,hi] at hc
  have hf:=(he.h0.mP he 12 rfl e9).mP he 13 rfl V
  refine zW hf hc tP u0 rfl fun w hc=>zG θ he hi hf rfl ?_
  try dsimp only
  rw [cV 11 V,aR E 11]
  exact hc
 ·intro E θ a w d he hc
  have hf:=he.h0
  have V:=d 10 rfl
  have Z:=d 11 rfl
  replace hf:=hf.more he 13 rfl (onP V)
  replace hf:=hf.more he 2 rfl (onT)
  try dsimp only at hc
  rw [V,Z] at hc
  exact ⟨(θ 80).b,hf.kp rfl,hc⟩
 rintro a w ⟨X,hf,hc⟩
 refine h2 _ _ ?_
 refine zS fun K h=>zP hf rfl (pFA qD rfl) fun a hf=>zL hf hc aU m0 rfl fun a w hf hc=>zP hf rfl (pFA vL rfl) fun a hf=>zP hf rfl (pFA dS rfl) fun a hf=>zL hf hc aU m1 rfl fun a w hf hc=>zP hf rfl (pFA lN rfl) fun a hf=>zL hf hc aU m0 rfl fun a w hf hc=>sp 3 hf rfl fun a hf=>hY 10 (fun a=>Has 38 a [(4,pq U),(7,pq X),(18,pq X),(19,i6 r.N),(20,.pointer (some ⟨U,2,none⟩)),(21,.pointer (some ⟨U,2,none⟩)),(22,i6 g.Flow.Lo),(23,.pointer (some ⟨X,1,none⟩)),(24,i6 r.D),(25,i6 (W (g.Flow.Lo * r.D))),(26,.bool (decide ((W (g.Flow.Lo * r.D))≤r.N))),(27,.bool (decide ((W (g.Flow.Lo * r.D))≤r.N))),(37,.bool ((decide ((W (g.Flow.Lo * r.D))≤r.N)) && (decide (r.N≤(W (g.Flow.Hi * r.D))))))]) hc ?_ ?_
 ·cases hb:(decide ((W (g.Flow.Lo * r.D))≤r.N))
  ·rw [hb] at hf
   refine stS hf rfl rfl rfl fun a hf=>stS hf rfl rfl rfl fun a hf=>stS hf rfl rfl rfl fun a hf=>stS hf rfl rfl rfl fun a hf=>stS hf rfl rfl rfl fun a hf=>stS hf rfl rfl rfl fun a hf=>stS hf rfl rfl rfl fun a hf=>stS hf rfl rfl rfl fun a hf=>stS hf rfl rfl rfl fun a hf=>sp 1 hf rfl fun a hf=>aP ⟨hf.kp rfl,hc⟩
  ·rw [hb] at hf
   refine zP hf rfl (pFA qD rfl) fun a hf=>zL hf hc aU m0 rfl fun a w hf hc=>zP hf rfl (pFA vL rfl) fun a hf=>zP hf rfl (pFA dC rfl) fun a hf=>zL hf hc aU m1 rfl fun a w hf hc=>zP hf rfl (pFA lN rfl) fun a hf=>zL hf hc aU m0 rfl fun a w hf hc=>sp 3 hf rfl fun a hf=>aP ⟨hf.kp rfl,hc⟩
 intro a w ⟨hf,hc⟩
 refine sp 1 hf rfl fun a hf=>zT h ?_
 refine wp_ret ?_
 obtain rfl:=sj hF
 replace hc:=(hc.drop k1).drop k0
 exact zO1 Tryz.results52 hf rfl ⟨rfl,hc⟩

def lL (N:Nat) (B:Int) (D:Int):Option (Rs (Int × Int)) :=
 some (.go (D,B))
def fC (N:Nat) (r:aH) (J:List aA) (M:aI) (D:Int) (H:Int) (xv:Int) (B:Int):Option (Rs (Int × Int)) :=
 Option.bind (jF N (⟨r,J⟩:sW) M B) fun I=>
 cond I
 (cond (decide (H < D))
 (lL N B B)
 (lL N B D))
 (some (.go (D,H)))
def gC (N:Nat) (r:aH) (H:Int) (x:Int) (D:List aA):Option (cY (Int × Int × (List aA)) ((Int) ⊕ ((List aA) × Int))) :=
 cond (decide (x < ((r.Gaugings.length:Nat):Int)))
 (Option.bind (bG r.Gaugings x) fun J=>
 Option.bind (cN N (rY (fun (zz:Int × Int) (I:(Int × Int))=>fC N r D J zz.1 zz.2 I.1 I.2)) (.go (1,0))) fun M=>
 rsK M (fun B=>cond (decide (B.2 < B.1))
 (some (.brk (6,x,D)))
 (Option.bind (pG ((D++[(⟨B.1,B.2⟩:aA)])).length) fun un=>
 some (.cont (H,W (x + 1),(D++[(⟨B.1,B.2⟩:aA)]))))) (fun B=>none))
 (some (.brk (H,x,D)))
def gK (N:Nat) (r:aH):Option ((Int) ⊕ ((List aA) × Int)) :=
 Option.bind (oV N r) fun D=>
 cond (D != 0)
 (some (.inl D))
 (Option.bind (bE (fun B=>gC N r B.1 B.2.1 B.2.2) N (0,0,([]:List aA))) fun H=>
 exK H (fun B=>some (.inr (B.2.2,B.1))) some)
theorem iT {N:Nat} {G:aS} {Lf:List Ent} {w:World} (r:aH) {H:Option Addr} {I:Nat} {D:Option Addr} {B:Nat} (q:Rd G 2 H I (r.Rating.map aW)) (i:Rd G 4 D B (r.Gaugings.map aX)) (hc:Ctx G (Lf) w) {ai:(Int) ⊕ ((List aA) × Int)} (hF:gK N r=some ai):Calls Tryz.prog 20 #[.agg #[.slice H r.Rating.length I,.slice D r.Gaugings.length B]] w (fun e w=>yA (fun rr=>e=.returned (.tuple #[.pointer none,i6 rr])∧Ctx G (Lf) w) (fun rr=>∃ (am:Nat) (aq:Option Addr) (ar:Nat),e=.returned (.tuple #[pq am,i6 rr.2])∧Ctx G (.row aq ar (rr.1.map aC) 41 2::.box am [.slice H r.Rating.length I,.slice D r.Gaugings.length B,.slice aq rr.1.length ar] 75::Lf) w) ai):=by
 unfold gK at hF
 refine aCr Tryz.func20 rfl Tryz.ntmps20 rfl fun a hf=>zS fun K h=>zB hf hc rfl fun bm a w hf hc=>sp 2 hf rfl fun a hf=>zT h ?_
 refine wp_scope_straight ?_
 refine wp_seq_k fun K2 h2=>zS fun K h=>zN hf hc vY m0 rfl fun a w hf hc=>?_
 obtain ⟨a9,ay,hF⟩:=aB hF
 refine zQ (v:=i6 a9) hf hc en_51 rfl (fun w hc=>aBo r q i hc ay) fun a w hf hc=>sp 1 hf rfl fun a hf=>zT h ?_
 refine zS fun K h=>sp 2 hf rfl fun a hf=>zT h ?_
 refine zI hf rfl hF ?_ ?_ <;> clear hF <;> intro hF
 ·refine zS fun K h=>sp 3 hf rfl fun a hf=>zT h ?_
  refine wp_ret ?_
  refine aO ?_
  refine aAd ?_
  obtain rfl:=sj hF
  replace hc:=hc.drop k0
  refine aA3 hf ?_
  exact aGa Tryz.results20 hf hc (show dG _ 2=_ from rfl) (show dG _ 3=_ from rfl) ⟨rfl,hc⟩
 ·refine wp_skip ?_
  refine h2 _ _ ?_
  refine zS fun K h=>zN hf hc vY m0 rfl fun a w hf hc=>zP hf rfl (bH (cells:=[.slice H r.Rating.length I,.slice D r.Gaugings.length B,.slice none 0 0]) bt_75 rfl rfl) fun a hf=>zB hf hc rfl fun O a w hf hc=>sp 1 hf rfl fun a hf=>zT h ?_
  refine zS fun K h=>sp 1 hf rfl fun a hf=>zT h ?_
  refine zS fun K h=>sp 1 hf rfl fun a hf=>zP hf rfl (pMF (vs:=[pq O]) (us:=[]) rfl rfl) fun a hf=>zA hf hc aMc rfl fun Z a w hf hc=>zW hf hc aLf u0 rfl fun w hc=>zT h ?_
  refine wp_seq_k fun K9 h9=>wp_label ?_
  refine h9 _ _ ?_
  refine wp_seq_k fun K10 ba=>zS fun K h=>zP hf rfl (pFA jQ rfl) fun a hf=>zL hf hc qK m2 rfl fun a w hf hc=>zP hf rfl (bM Tryz.underlying24 rfl) fun a hf=>sp 1 hf rfl fun a hf=>zT h ?_
  refine wp_block ?_
  obtain ⟨ad,a2,hF⟩:=aB hF
  let S12:(Int × Int × (List aA))→Act→World→Prop:=(fun (zz:Int × Int × (List aA)) a w=>∃ (U:Option Addr) (V:Nat) (Ds:List Nat),Has ⟨65,lY Ds⟩ a [(5,pq O),(6,i6 zz.1),(7,pq Z),(24,.slice D r.Gaugings.length B),(25,i6 ((r.Gaugings.length:Nat):Int)),(26,i6 zz.2.1)]∧Ctx G (.row U V (zz.2.2.map aC) 41 2::.box Z [.func (.func 52) #[pq O] #[]] 123::.box O [.slice H r.Rating.length I,.slice D r.Gaugings.length B,.slice U zz.2.2.length V] 75::(oH Ds++Lf)) w)
  have ag:∀ (zz:Int × Int × (List aA)) a w,ad=.go zz→S12 zz a w→K10 a w:=by
   rintro ⟨m,x,R⟩ a w rfl ⟨U,V,Ds,hf,hc⟩
   replace hF:=bW hF
   refine ba _ _ ?_
   refine zS fun K h=>sp 4 hf rfl fun a hf=>zT h ?_
   refine wp_ret ?_
   refine aAd ?_
   obtain rfl:=sj hF
   replace hc:=hc.drop k1
   refine aA3 hf ?_
   refine zJ [.row U V (R.map aC) 41 2,.box O [.slice H r.Rating.length I,.slice D r.Gaugings.length B,.slice U R.length V] 75] Ds hc fun w hc=>?_
   replace hc:Ctx G (.row U V (R.map aC) 41 2::.box O [.slice H r.Rating.length I,.slice D r.Gaugings.length B,.slice U R.length V] 75::Lf) w:=hc
   exact aGa Tryz.results20 hf hc (show dG _ 2=_ from rfl) (show dG _ 3=_ from rfl) ⟨O,U,V,rfl,hc⟩
  have bn:∀ r,ad=.out r→r=ai:=by
   rintro r rfl
   exact sj hF
  replace hf:=aHz hf
  replace hc:Ctx G (.box Z [.func (.func 52) #[pq O] #[]] 123::.box O [.slice H r.Rating.length I,.slice D r.Gaugings.length B,.slice none 0 0] 75::.box bm [.slice H r.Rating.length I,.slice D r.Gaugings.length B] 26::(oH []++Lf)) w:=hc
  replace hc:=hc.nilRow 41 2
  replace hc:=hc.drop k3
  refine dO N (dH (S:=S12) (x:=ad) ?_ N (0,0,([]:List aA)) _ _ ⟨none,0,[],hf.kp rfl,hc⟩ a2)
  clear hF hf hc
  rintro ⟨m,x,R⟩ ak a w KB12 ⟨U,V,Ds,hf,hc⟩ hF k a4
  unfold gC at hF
  refine zS fun K h=>sp 1 hf rfl fun a hf=>zT h ?_
  refine wp_seq_k fun K15 a7=>zI hf rfl hF ?_ ?_ <;> clear hF <;> intro hF
  ·refine wp_skip ?_
   refine a7 _ _ ?_
   refine wp_seq_k fun K16 bi=>wp_block ?_
   refine zS fun K h=>?_
   obtain ⟨M,a0,hF⟩:=aB hF
   obtain ⟨bq,o,qa,qp⟩:=i.atm a0
   refine zP hf rfl (pIA Tryz.underlying24 rK rfl rfl qa) fun a hf=>zE hf hc rfl (jM (vs:=[i6 M.Day,i6 M.Stage,i6 M.Flow.Lo,i6 M.Flow.Hi]) yS rfl rfl (cI qp (n:=4) (o':=0) rfl)) fun a w hf hc=>zA hf hc aEg rfl fun g a w hf hc=>zW hf hc rK u0 rfl fun w hc=>zT h ?_
   refine zS fun K h=>zP hf rfl (bH (cells:=[i6 1,i6 0]) iY rfl rfl) fun a hf=>zA hf hc kX rfl fun d a w hf hc=>zW hf hc cA u0 rfl fun w hc=>zT h ?_
   refine wp_seq_k fun K19 a6=>zS fun K h=>zQ (v:=.func (.func 56) #[] #[]) hf hc aDi rfl (fun w hc=>kR hc rfl) fun a w hf hc=>zT h ?_
   obtain ⟨bk,az,hF⟩:=aB hF
   refine aBf (C:=[]) (C2:=[]) (L0:=[.box d [i6 1,i6 0] 41,.box g [i6 M.Day,i6 M.Stage,i6 M.Flow.Lo,i6 M.Flow.Hi] 43,.row U V (R.map aC) 41 2,.box Z [.func (.func 52) #[pq O] #[]] 123,.box O [.slice H r.Rating.length I,.slice D r.Gaugings.length B,.slice U R.length V] 75]) (Lf:=(oH Ds++Lf)) (encs:=fun x:(Int × Int)=>[i6 x.1,i6 x.2]) (fun (zz:Int × Int) L=>L=[.box d [i6 zz.1,i6 zz.2] 41,.box g [i6 M.Day,i6 M.Stage,i6 M.Flow.Lo,i6 M.Flow.Hi] 43,.row U V (R.map aC) 41 2,.box Z [.func (.func 52) #[pq O] #[]] 123,.box O [.slice H r.Rating.length I,.slice D r.Gaugings.length B,.slice U R.length V] 75]) (fun (zz:Int × Int) (au:(Int × Int))=>fC N r R M zz.1 zz.2 au.1 au.2) (1,0) bk hf hc rfl aDd (fun _=>rfl) rfl rfl ?_ ?_ ?_ ?_
   ·intro lq mq J L Lx w hy hJ hc
    exact iZ  J _ hy _ hJ hc az
   ·clear hF hf hc
    rintro lq mq ⟨Y,X⟩ ⟨xv,j⟩ oq _ Lr Lb a w bp rfl hF hf hc hK
    replace hf:Has 65 a [(5,pq O),(6,i6 m),(7,pq Z),(9,pq g),(10,pq d),(24,.slice D r.Gaugings.length B),(25,i6 ((r.Gaugings.length:Nat):Int)),(26,i6 x),(32,i6 xv),(33,i6 j)]:=hf.kp rfl
    replace hc:Ctx G (.box d [i6 Y,i6 X] 41::.box g [i6 M.Day,i6 M.Stage,i6 M.Flow.Lo,i6 M.Flow.Hi] 43::.row U V (R.map aC) 41 2::.box Z [.func (.func 52) #[pq O] #[]] 123::.box O [.slice H r.Rating.length I,.slice D r.Gaugings.length B,.slice U R.length V] 75::Lr) w:=hc
    replace hF:fC N r R M Y X xv j=some oq:=hF
    unfold fC at hF
    refine oE (fun _ _ h=>h) rfl ?_
    refine sp 1 hf rfl fun a hf=>aP ?_
    refine hK _ _ [.box d [i6 Y,i6 X] 41,.box g [i6 M.Day,i6 M.Stage,i6 M.Flow.Lo,i6 M.Flow.Hi] 43,.row U V (R.map aC) 41 2,.box Z [.func (.func 52) #[pq O] #[]] 123,.box O [.slice H r.Rating.length I,.slice D r.Gaugings.length B,.slice U R.length V] 75] hc fun w hc=>?_
    replace hc:Ctx G (.box d [i6 Y,i6 X] 41::.box g [i6 M.Day,i6 M.Stage,i6 M.Flow.Lo,i6 M.Flow.Hi] 43::.row U V (R.map aC) 41 2::.box Z [.func (.func 52) #[pq O] #[]] 123::.box O [.slice H r.Rating.length I,.slice D r.Gaugings.length B,.slice U R.length V] 75::Lb) w:=hc
    refine wR fun K22 av=>wE ?_
    refine sX fun K23 bj=>oE (fun _ _ h=>h) rfl ?_
    refine zL hf hc aLd m3 rfl fun a w hf hc=>zN hf hc yS m1 rfl fun a w hf hc=>sp 1 hf rfl fun a hf=>?_
    obtain ⟨ap,a3,hF⟩:=aB hF
    refine zQ (v:=.bool ap) hf hc en_52 rfl (fun w hc=>by obtain ⟨G1,ab,a1,hc,ax⟩:=lend hc k2; exact (uP (⟨r,R⟩:sW) M j (q.mono ab) (i.mono ab) a1 (hc.pick k3) a3).mono fun e w h=>⟨h.1,((ax _ _ (h.2.unpick k3)).unpick k2)⟩) fun a w hf hc=>aP ?_
    refine bj _ _ ?_
    refine yY (b:=ap) hf rfl (fun hb=>?_) (fun hb=>?_)
    ·replace hF:=lF hb hF
     clear hb
     refine sX fun K24 bb=>?_
     have ac:∀ (y:Int) a w,Has 65 a [(5,pq O),(6,i6 m),(7,pq Z),(9,pq g),(10,pq d),(12,i6 j),(24,.slice D r.Gaugings.length B),(25,i6 ((r.Gaugings.length:Nat):Int)),(26,i6 x)]→Ctx G (.box d [i6 y,i6 X] 41::.box g [i6 M.Day,i6 M.Stage,i6 M.Flow.Lo,i6 M.Flow.Hi] 43::.row U V (R.map aC) 41 2::.box Z [.func (.func 52) #[pq O] #[]] 123::.box O [.slice H r.Rating.length I,.slice D r.Gaugings.length B,.slice U R.length V] 75::Lb) w→lL N j y=some oq→K24 a w:=by
      repeat (clear hF)
      repeat (clear hc)
      repeat (clear hf)
      intro y a w hf hc hF
      unfold lL at hF
      refine bb _ _ ?_
      refine oE (fun _ _ h=>h) rfl ?_
      refine sp 1 hf rfl fun a hf=>zP hf rfl (pFA dC rfl) fun a hf=>zW hf hc eL u0 rfl fun w hc=>aP ?_
      refine av _ _ ?_
      exact ⟨(y,j),_,(sj hF).symm,rfl,hc⟩
     refine sX fun K25 bc=>oE (fun _ _ h=>h) rfl ?_
     refine zP hf rfl (pFA dS rfl) fun a hf=>zL hf hc aU m0 rfl fun a w hf hc=>zP hf rfl (pFA dC rfl) fun a hf=>zL hf hc aU m0 rfl fun a w hf hc=>sp 1 hf rfl fun a hf=>aP ?_
     refine bc _ _ ?_
     refine yY (b:=(decide (X < Y))) hf rfl (fun hb=>?_) (fun hb=>?_)
     ·replace hF:=lF hb hF
      clear hb
      refine oE (fun _ _ h=>h) rfl ?_
      refine sp 1 hf rfl fun a hf=>zP hf rfl (pFA dS rfl) fun a hf=>zW hf hc eL u0 rfl fun w hc=>aP ?_
      exact ac j _ _  (hf.kp rfl) hc hF
     ·replace hF:=nJ hb hF
      clear hb
      refine zM ?_
      exact ac Y _ _  (hf.kp rfl) hc hF
    ·replace hF:=nJ hb hF
     clear hb
     refine zM ?_
     refine av _ _ ?_
     exact ⟨(Y,X),_,(sj hF).symm,rfl,hc⟩
   ·rintro D_1 ⟨Y,X⟩ _ a w af rfl hf hc
    replace hf:Has ⟨65,lY (D_1::Ds)⟩ a [(5,pq O),(6,i6 m),(7,pq Z),(9,pq g),(10,pq d),(24,.slice D r.Gaugings.length B),(25,i6 ((r.Gaugings.length:Nat):Int)),(26,i6 x)]:=hf.kp rfl
    replace hc:Ctx G (.box d [i6 Y,i6 X] 41::.box g [i6 M.Day,i6 M.Stage,i6 M.Flow.Lo,i6 M.Flow.Hi] 43::.row U V (R.map aC) 41 2::.box Z [.func (.func 52) #[pq O] #[]] 123::.box O [.slice H r.Rating.length I,.slice D r.Gaugings.length B,.slice U R.length V] 75::(oH (D_1::Ds)++Lf)) w:=nL (C:=[]) (L:=[.box d [i6 Y,i6 X] 41,.box g [i6 M.Day,i6 M.Stage,i6 M.Flow.Lo,i6 M.Flow.Hi] 43,.row U V (R.map aC) 41 2,.box Z [.func (.func 52) #[pq O] #[]] 123,.box O [.slice H r.Rating.length I,.slice D r.Gaugings.length B,.slice U R.length V] 75]) hc
    replace hF:(cond (decide (X < Y)) (some (.brk (6,x,R))) (Option.bind (pG ((R++[(⟨Y,X⟩:aA)])).length) fun un=>some (.cont (m,W (x + 1),(R++[(⟨Y,X⟩:aA)])))))=some ak:=by rcases af with rfl | rfl <;> exact hF
    refine a6 _ _ ?_
    refine wp_seq_k fun K26 bd=>zS fun K h=>zP hf rfl (pFA dS rfl) fun a hf=>zL hf hc aU m0 rfl fun a w hf hc=>zP hf rfl (pFA dC rfl) fun a hf=>zL hf hc aU m0 rfl fun a w hf hc=>sp 1 hf rfl fun a hf=>zT h ?_
    refine zI hf rfl hF ?_ ?_ <;> clear hF <;> intro hF
    ·refine zS fun K h=>sp 1 hf rfl fun a hf=>zT h ?_
     refine wp_exit ?_
     refine aV ?_
     refine nS rfl ?_
     refine aV ?_
     refine aV ?_
     replace hc:=(hc.drop k1).drop k0
     have he:=sj hF
     rw [← he] at k
     refine eW ?_
     exact ag _ _ _ k ⟨U,V,(D_1::Ds),hf.kp rfl,hc⟩
    ·refine wp_skip ?_
     refine bd _ _ ?_
     obtain ⟨un,a8,hF⟩:=aB hF
     replace hc:=hc.nilRow 0 0
     refine fI (fun θ=>[⟨none,none,5,pq O⟩,⟨none,none,6,i6 m⟩,⟨none,none,7,pq Z⟩,⟨none,none,10,pq d⟩,⟨none,none,24,.slice D r.Gaugings.length B⟩,⟨none,none,25,i6 ((r.Gaugings.length:Nat):Int)⟩,⟨none,none,26,i6 x⟩,⟨some 0,none,52,pq O⟩,⟨some 1,none,53,pq O⟩,⟨some 2,none,54,pq O⟩,⟨some 3,none,55,.pointer (some ⟨O,2,none⟩)⟩,⟨some 4,none,56,.slice U R.length V⟩,⟨some 5,none,57,.agg #[i6 Y,i6 X]⟩,⟨some 6,none,58,.slice (some ⟨(θ 48).b,0,none⟩) 1 1⟩,⟨some 7,none,59,.slice ((θ 56).p) ((R++[(⟨Y,X⟩:aA)]).length) ((θ 56).c)⟩,⟨some 8,none,60,pq O⟩,⟨some 9,none,61,.pointer (some ⟨O,2,none⟩)⟩]) (fun E θ=>(bif E 6 then .row (some ⟨(θ 48).b,0,none⟩) 1 (([(⟨Y,X⟩:aA)]:List aA).map aC) 41 2 else .row none 0 [] 0 0)::.box d [i6 Y,i6 X] 41::.box g [i6 M.Day,i6 M.Stage,i6 M.Flow.Lo,i6 M.Flow.Hi] 43::(bif E 7 then .row ((θ 56).p) ((θ 56).c) ((R++[(⟨Y,X⟩:aA)]).map aC) 41 2 else .row U V (R.map aC) 41 2)::.box Z [.func (.func 52) #[pq O] #[]] 123::(bif E 10 then .box O [.slice H r.Rating.length I,.slice D r.Gaugings.length B,.slice ((θ 56).p) ((R++[(⟨Y,X⟩:aA)]).length) ((θ 56).c)] 75 else .box O [.slice H r.Rating.length I,.slice D r.Gaugings.length B,.slice U R.length V] 75)::(oH (D_1::Ds)++Lf)) [(10,4),(10,7)] (fun a w=>∃ (an:Nat) (z:Option Addr) (aa:Nat),Has ⟨65,lY (D_1::Ds)⟩ a [(5,pq O),(6,i6 m),(7,pq Z),(24,.slice D r.Gaugings.length B),(25,i6 ((r.Gaugings.length:Nat):Int)),(26,i6 x)]∧Ctx G (.row (some ⟨an,0,none⟩) 1 (([(⟨Y,X⟩:aA)]:List aA).map aC) 41 2::.box d [i6 Y,i6 X] 41::.box g [i6 M.Day,i6 M.Stage,i6 M.Flow.Lo,i6 M.Flow.Hi] 43::.row z aa ((R++[(⟨Y,X⟩:aA)]).map aC) 41 2::.box Z [.func (.func 52) #[pq O] #[]] 123::.box O [.slice H r.Rating.length I,.slice D r.Gaugings.length B,.slice z ((R++[(⟨Y,X⟩:aA)]).length) aa] 75::(oH (D_1::Ds)++Lf)) w) aT (by kernel_rfl) (by kernel_rfl) (eZ.of hf ⟨rfl,rfl,rfl,rfl,rfl,rfl,rfl,trivial,trivial,trivial,trivial,trivial,trivial,trivial,trivial,trivial,trivial,trivial⟩) hc ⟨?_,?_,?_,?_,?_,?_,?_,?_,?_,?_,?_,trivial⟩ ?_ ?_
     ·intro E θ a w hD hi hp he hc
      have hf:=he.h0.mT he 0 rfl
      refine sp 1 hf rfl fun a hf=>zD θ he hi hf 7 rfl rfl rfl hc
     ·intro E θ a w hD hi hp he hc
      have hf:=he.h0.mT he 0 rfl
      refine sp 1 hf rfl fun a hf=>zD θ he hi hf 8 rfl rfl rfl hc
     ·intro E θ a w hD hi hp he hc
      have e1:=hp.o 1 rfl
      have hf:=he.h0.mP he 8 rfl e1
      refine sp 1 hf rfl fun a hf=>zD θ he hi hf 9 rfl rfl rfl hc
     ·intro E θ a w hD hi hp he hc
      have e2:=hp.o 2 rfl
      have hf:=he.h0.mP he 9 rfl e2
      refine zP hf rfl (pFA xL rfl) fun a hf=>zD θ he hi hf 10 rfl rfl rfl hc
     ·intro E θ a w hD hi hp he hc
      have e3:=hp.o 3 rfl
      have s:=hD.f 0 rfl hi
      try dsimp only at hc
      rw [s] at hc
      have hf:=he.h0.mP he 10 rfl e3
      refine zL hf hc oW m5 rfl fun a w hf hc=>zD θ he hi hf 11 rfl rfl rfl ?_
      try dsimp only
      rw [aQ 4 s rfl]
      exact hc
     ·intro E θ a w hD hi hp he hc
      have hf:=he.h0.mT he 3 rfl
      refine zN hf hc eA m1 rfl fun a w hf hc=>zD θ he hi hf 12 rfl rfl rfl hc
     ·intro E θ a w hD hi hp he hc
      have e5:=hp.o 5 rfl
      try dsimp only at hc
      rw [hi] at hc
      have hf:=he.h0.mP he 12 rfl e5
      refine mY (rows:=([(⟨Y,X⟩:aA)]:List aA).map aC) (vs:=[(0,.agg #[i6 Y,i6 X])]) hf hc rfl rfl tR rfl ⟨rfl,rfl,rfl,trivial⟩ rfl rfl fun bf a w hf hc=>aP ?_
      refine eY ?_
      intro ds u aj
      replace hc:=hc.drop k1
      refine ⟨(qW θ 48 ⟨bf,none,0,(fun _=>(none,0))⟩),he.put hi aj hf rfl [] trivial ⟨qq,qq,qq,qq,qq,qq,qq,qq,qq,qq,qq,qq,qq,qq,qq,qq,qq,trivial⟩,?_⟩
      try dsimp only
      rw [aR E 6]
      exact hc
     ·intro E θ a w hD hi hp he hc
      have e4:=hp.o 4 rfl
      have e6:=hp.o 6 rfl
      have s:=hD.f 1 rfl hi
      try dsimp only at hc
      rw [e6,hi,s] at hc
      have hf:=(he.h0.mP he 11 rfl e4).mP he 13 rfl e6
      refine nT (xs:=R) (ys:=([(⟨Y,X⟩:aA)]:List aA)) hf hc rfl rfl tR rfl rfl rfl rfl rfl eF (iL hc m0) (fun _ _=>u3) (by simpa using eR a8) fun bg a5 a w hf hc=>aP ?_
      refine eY ?_
      intro ds u aj
      refine ⟨(qW θ 56 ⟨0,bg,a5,(fun _=>(none,0))⟩),he.put hi aj hf rfl [] trivial ⟨qq,qq,qq,qq,qq,qq,qq,qq,qq,qq,qq,qq,qq,qq,qq,qq,qq,trivial⟩,?_⟩
      try dsimp only
      rw [cV 7 e6,aR E 7,aQ 7 s rfl]
      exact hc
     ·intro E θ a w hD hi hp he hc
      have e0:=hp.o 0 rfl
      have hf:=he.h0.mP he 7 rfl e0
      refine sp 1 hf rfl fun a hf=>zD θ he hi hf 15 rfl rfl rfl hc
     ·intro E θ a w hD hi hp he hc
      have e8:=hp.o 8 rfl
      have hf:=he.h0.mP he 15 rfl e8
      refine zP hf rfl (pFA xL rfl) fun a hf=>zD θ he hi hf 16 rfl rfl rfl hc
     ·intro E θ a w hD hi hp he hc
      have e7:=hp.o 7 rfl
      have e9:=hp.o 9 rfl
      try dsimp only at hc
      rw [hi] at hc
      have hf:=(he.h0.mP he 14 rfl e7).mP he 16 rfl e9
      refine zW hf hc aK3 u5 rfl fun w hc=>zG θ he hi hf rfl ?_
      try dsimp only
      rw [aR E 10]
      exact hc
     ·intro E θ a w t he hc
      have hf:=he.h0
      have e6:=t 6 rfl
      have e7:=t 7 rfl
      have s:=t 10 rfl
      replace hf:=hf.more he 6 rfl (onT)
      replace hf:=hf.more he 5 rfl (onT)
      replace hf:=hf.more he 4 rfl (onT)
      replace hf:=hf.more he 2 rfl (onT)
      replace hf:=hf.more he 1 rfl (onT)
      replace hf:=hf.more he 0 rfl (onT)
      try dsimp only at hc
      rw [e6,e7,s] at hc
      exact ⟨(θ 48).b,(θ 56).p,(θ 56).c,hf.kp rfl,hc⟩
     rintro a w ⟨an,z,aa,hf,hc⟩
     refine bi _ _ ?_
     refine dE ?_
     refine sp 2 hf rfl fun a hf=>aP ?_
     replace hc:=((hc.drop k2).drop k1).drop k0
     exact a4 (m,W (x + 1),(R++[(⟨Y,X⟩:aA)])) _ _ (sj hF).symm ⟨z,aa,(D_1::Ds),hf.kp rfl,hc⟩
   ·rintro D_1 ⟨Y,X⟩ _ a w af rfl hf hc
    replace hf:Has ⟨65,lY (D_1::Ds)⟩ a [(5,pq O),(6,i6 m),(7,pq Z),(9,pq g),(10,pq d),(24,.slice D r.Gaugings.length B),(25,i6 ((r.Gaugings.length:Nat):Int)),(26,i6 x)]:=hf.kp rfl
    replace hc:Ctx G (.box d [i6 Y,i6 X] 41::.box g [i6 M.Day,i6 M.Stage,i6 M.Flow.Lo,i6 M.Flow.Hi] 43::.row U V (R.map aC) 41 2::.box Z [.func (.func 52) #[pq O] #[]] 123::.box O [.slice H r.Rating.length I,.slice D r.Gaugings.length B,.slice U R.length V] 75::(oH (D_1::Ds)++Lf)) w:=nL (C:=[]) (L:=[.box d [i6 Y,i6 X] 41,.box g [i6 M.Day,i6 M.Stage,i6 M.Flow.Lo,i6 M.Flow.Hi] 43,.row U V (R.map aC) 41 2,.box Z [.func (.func 52) #[pq O] #[]] 123,.box O [.slice H r.Rating.length I,.slice D r.Gaugings.length B,.slice U R.length V] 75]) hc
    replace hF:(none)=some ak:=by subst af; exact hF
    cases hF
  ·refine wp_exit ?_
   refine aV ?_
   refine aV ?_
   have he:=sj hF
   rw [← he] at k
   refine eW ?_
   exact ag _ _ _ k ⟨U,V,Ds,hf.kp rfl,hc⟩

def bJ (N:Nat) (s_:List aA):Option ((List aA)) :=
 Option.bind (pG (s_).length) fun un=>
 some s_
theorem iD {N:Nat} {G:aS} {Lf:List Ent} {w:World} (s_:List aA) {H:Option Addr} {D:Nat} (I:Rd G 2 H D (s_.map aC)) (hc:Ctx G (Lf) w) {B:(List aA)} (hF:bJ N s_=some B):Calls Tryz.prog 30 #[.slice H s_.length D] w (fun e w=>∃ (M:Option Addr) (J:Nat),e=.returned (.slice M B.length J)∧Ctx G (.row M J (B.map aC) 41 2::Lf) w):=by
 unfold bJ at hF
 refine cB Tryz.func30 rfl Tryz.ntmps30 rfl fun a hf=>zS fun K h=>sp 1 hf rfl fun a hf=>zT h ?_
 refine wp_seq_k fun K2 h2=>zS fun K h=>sp 1 hf rfl fun a hf=>zP hf rfl (pEqN Tryz.underlying54 rfl rfl) fun a hf=>zT h ?_
 rcases aJ4 I with ⟨hp,hx⟩ | hp
 ·rw [hp] at hf
  replace hF:(some ([]:List aA))=some B:=by
   try rw [hx] at hF
   exact hF
  refine aLn hf rfl ?_
  refine zS fun K h=>sp 1 hf rfl fun a hf=>zT h ?_
  refine wp_ret ?_
  refine aO ?_
  obtain rfl:=sj hF
  replace hc:=hc.nilRow 41 2
  exact zO1 Tryz.results30 hf rfl ⟨none,0,rfl,hc⟩
 ·rw [hp] at hf
  refine aLc hf rfl ?_
  refine wp_skip ?_
  refine h2 _ _ ?_
  refine zS fun K h=>mY (rows:=([]:List aA).map aC) (vs:=[]) hf hc rfl rfl tR rfl trivial rfl rfl fun U a w hf hc=>sp 1 hf rfl fun a hf=>?_
  obtain ⟨un,S,hF⟩:=aB hF
  refine nT (xs:=([]:List aA)) (ys:=s_) hf hc rfl rfl tR rfl rfl rfl rfl rfl eF (aLl hc I) (fun _ _=>u0) (by simpa using eR S) fun R O a w hf hc=>sp 1 hf rfl fun a hf=>zT h ?_
  refine wp_ret ?_
  obtain rfl:=sj hF
  exact zO1 Tryz.results30 hf rfl ⟨R,O,rfl,hc⟩

def eM (N:Nat) (D:List aA) (B:Int) (H:Int):Option (cY ((List aA) × Int × Int) ((List aA))) :=
 cond (decide (B < H))
 (Option.bind (bG D H) fun J=>
 Option.bind (bG D B) fun I=>
 Option.bind (bG D B) fun M=>
 Option.bind (bG D H) fun O=>
 some (.cont (((D.set B.toNat J).set H.toNat I),W (B + 1),W (H - 1))))
 (some (.brk (D,B,H)))
def cJ (N:Nat) (s_:List aA):Option ((List aA)) :=
 Option.bind (bE (fun s3=>eM N s3.1 s3.2.1 s3.2.2) N (s_,0,W (((s_.length:Nat):Int) - 1))) fun x3=>
 exK x3 (fun s3=>Option.bind (tS s3.1 s_) fun _=>
 some s3.1) some
theorem lP {N:Nat} {G:aS} {Lf:List Ent} {w:World} (s_:List aA) {U:Option Addr} {B:Nat}  (hc:Ctx G (.row U B (s_.map aC) 41 2::Lf) w) {V:(List aA)} (hF:cJ N s_=some V):Calls Tryz.prog 53 #[.slice U s_.length B] w (fun e w=>e=.returned (.tuple #[])∧V.length=s_.length∧Ctx G (.row U B (V.map aC) 41 2::Lf) w):=by
 unfold cJ at hF
 refine cB Tryz.func53 rfl Tryz.ntmps53 rfl fun a hf=>zS fun K h=>sp 1 hf rfl fun a hf=>zP hf rfl (bM Tryz.underlying54 rfl) fun a hf=>sp 3 hf rfl fun a hf=>zT h ?_
 refine mA fun K2 h2=>wp_block ?_
 obtain ⟨x3,ad,hF⟩:=aB hF
 let S3:((List aA) × Int × Int)→Act→World→Prop:=(fun (zz:(List aA) × Int × Int) a w=>Has 28 a [(0,.slice U zz.1.length B),(2,i6 zz.2.1),(3,i6 zz.2.2)]∧Ctx G (.row U B (zz.1.map aC) 41 2::Lf) w)
 have y:∀ (zz:(List aA) × Int × Int) a w,x3=.go zz→S3 zz a w→K2 a w:=by
  rintro ⟨I,J,O⟩ a w rfl ⟨hf,hc⟩
  replace hF:=bW hF
  refine h2 _ _ ?_
  obtain ⟨_,u,hF⟩:=uI hF
  obtain rfl:=sj hF
  exact wF (by simp) rfl Tryz.results53 hf ⟨rfl,u,hc⟩
 have am:∀ r,x3=.out r→r=V:=by
  rintro r rfl
  exact sj hF
 refine dO N (dH (S:=S3) (x:=x3) ?_ N (s_,0,W (((s_.length:Nat):Int) - 1)) _ _ ⟨hf.kp rfl,hc⟩ ad)
 clear hF hf hc
 rintro ⟨I,J,O⟩ ak a w KB3 ⟨hf,hc⟩ hF X ac
 unfold eM at hF
 refine wp_seq_k fun K4 h4=>zS fun K h=>sp 3 hf rfl fun a hf=>zT h ?_
 refine zI hf rfl hF ?_ ?_ <;> clear hF <;> intro hF
 ·refine wp_skip ?_
  refine h4 _ _ ?_
  refine wp_seq_k fun K6 h6=>wp_block ?_
  obtain ⟨M,t,hF⟩:=aB hF
  obtain ⟨g,rfl,qa,qr⟩:=gH hc m0 t
  obtain ⟨R,j,hF⟩:=aB hF
  obtain ⟨m,s⟩:=kD hc m0 j
  obtain ⟨ai,Y,hF⟩:=aB hF
  obtain ⟨q,af⟩:=kD hc m0 Y
  obtain ⟨aj,Z,hF⟩:=aB hF
  obtain ⟨p,ag⟩:=kD hc m0 Z
  refine fI (fun θ=>[⟨none,none,0,.slice (some ⟨g,0,none⟩) I.length B⟩,⟨none,none,2,i6 J⟩,⟨none,none,3,i6 O⟩,⟨some 0,none,14,.slice (some ⟨g,0,none⟩) I.length B⟩,⟨some 1,none,15,i6 J⟩,⟨some 2,none,16,.slice (some ⟨g,0,none⟩) I.length B⟩,⟨some 3,none,17,i6 O⟩,⟨some 4,none,18,.slice (some ⟨g,0,none⟩) I.length B⟩,⟨some 5,none,19,i6 O⟩,⟨some 6,none,20,.pointer (some ⟨g,O.toNat * 2,none⟩)⟩,⟨some 7,none,21,.agg #[i6 M.Lo,i6 M.Hi]⟩,⟨some 8,none,22,.slice (some ⟨g,0,none⟩) I.length B⟩,⟨some 9,none,23,i6 J⟩,⟨some 10,none,24,.pointer (some ⟨g,J.toNat * 2,none⟩)⟩,⟨some 11,none,25,.agg #[i6 R.Lo,i6 R.Hi]⟩,⟨some 12,none,26,.pointer (some ⟨g,J.toNat * 2,none⟩)⟩,⟨some 14,none,27,.pointer (some ⟨g,O.toNat * 2,none⟩)⟩]) (fun E θ=>(bif E 15 then .row (some ⟨g,0,none⟩) B (((I.set J.toNat M).set O.toNat R).map aC) 41 2 else bif E 13 then .row (some ⟨g,0,none⟩) B ((I.set J.toNat M).map aC) 41 2 else .row (some ⟨g,0,none⟩) B (I.map aC) 41 2)::Lf) [(13,6),(15,6),(13,7),(15,7),(11,10),(13,11),(15,10),(15,11),(13,12),(15,12),(15,13),(15,14)] (fun a w=>Has 28 a [(0,.slice (some ⟨g,0,none⟩) I.length B),(2,i6 J),(3,i6 O)]∧Ctx G (.row (some ⟨g,0,none⟩) B (((I.set J.toNat M).set O.toNat R).map aC) 41 2::Lf) w) aT (by kernel_rfl) (by kernel_rfl) (eZ.of hf ⟨rfl,rfl,rfl,trivial,trivial,trivial,trivial,trivial,trivial,trivial,trivial,trivial,trivial,trivial,trivial,trivial,trivial,trivial⟩) hc ⟨?_,?_,?_,?_,?_,?_,?_,?_,?_,?_,?_,?_,?_,?_,?_,?_,trivial⟩ ?_ ?_
  ·intro E θ a w hD hi hp he hc
   have hf:=he.h0.mT he 0 rfl
   refine sp 1 hf rfl fun a hf=>zD θ he hi hf 3 rfl rfl rfl hc
  ·intro E θ a w hD hi hp he hc
   have hf:=he.h0.mT he 1 rfl
   refine sp 1 hf rfl fun a hf=>zD θ he hi hf 4 rfl rfl rfl hc
  ·intro E θ a w hD hi hp he hc
   have hf:=he.h0.mT he 0 rfl
   refine sp 1 hf rfl fun a hf=>zD θ he hi hf 5 rfl rfl rfl hc
  ·intro E θ a w hD hi hp he hc
   have hf:=he.h0.mT he 2 rfl
   refine sp 1 hf rfl fun a hf=>zD θ he hi hf 6 rfl rfl rfl hc
  ·intro E θ a w hD hi hp he hc
   have hf:=he.h0.mT he 0 rfl
   refine sp 1 hf rfl fun a hf=>zD θ he hi hf 7 rfl rfl rfl hc
  ·intro E θ a w hD hi hp he hc
   have hf:=he.h0.mT he 2 rfl
   refine sp 1 hf rfl fun a hf=>zD θ he hi hf 8 rfl rfl rfl hc
  ·intro E θ a w hD hi hp he hc
   have e4:=hp.o 4 rfl
   have e5:=hp.o 5 rfl
   have D:=hD.f 0 rfl hi
   have H:=hD.f 1 rfl hi
   try dsimp only at hc
   rw [D,H] at hc
   have hf:=(he.h0.mP he 7 rfl e4).mP he 8 rfl e5
   refine zP hf rfl (pIA Tryz.underlying54 cA rfl rfl qa) fun a hf=>zD θ he hi hf 9 rfl rfl rfl ?_
   try dsimp only
   rw [aQ 6 D rfl,aQ 6 H rfl]
   exact hc
  ·intro E θ a w hD hi hp he hc
   have e6:=hp.o 6 rfl
   have D:=hD.f 2 rfl hi
   have H:=hD.f 3 rfl hi
   try dsimp only at hc
   rw [D,H] at hc
   have hf:=he.h0.mP he 9 rfl e6
   refine zE hf hc rfl (jM (vs:=[i6 M.Lo,i6 M.Hi]) eA rfl rfl (qJ (sz:=2) (i:=O.toNat) m0 qr (n:=2) (o':=0) rfl)) fun a w hf hc=>zD θ he hi hf 10 rfl rfl rfl ?_
   try dsimp only
   rw [aQ 7 D rfl,aQ 7 H rfl]
   exact hc
  ·intro E θ a w hD hi hp he hc
   have hf:=he.h0.mT he 0 rfl
   refine sp 1 hf rfl fun a hf=>zD θ he hi hf 11 rfl rfl rfl hc
  ·intro E θ a w hD hi hp he hc
   have hf:=he.h0.mT he 1 rfl
   refine sp 1 hf rfl fun a hf=>zD θ he hi hf 12 rfl rfl rfl hc
  ·intro E θ a w hD hi hp he hc
   have e8:=hp.o 8 rfl
   have e9:=hp.o 9 rfl
   have d:=hD.f 4 rfl hi
   have D:=hD.f 5 rfl d
   have H:=hD.f 6 rfl hi
   try dsimp only at hc
   rw [D,H] at hc
   have hf:=(he.h0.mP he 11 rfl e8).mP he 12 rfl e9
   refine zP hf rfl (pIA Tryz.underlying54 cA rfl rfl m) fun a hf=>zD θ he hi hf 13 rfl rfl rfl ?_
   try dsimp only
   rw [aQ 10 D rfl,aQ 10 H rfl]
   exact hc
  ·intro E θ a w hD hi hp he hc
   have v:=hp.o 10 rfl
   have D:=hD.f 5 rfl hi
   have H:=hD.f 7 rfl hi
   try dsimp only at hc
   rw [D,H] at hc
   have hf:=he.h0.mP he 13 rfl v
   refine zE hf hc rfl (jM (vs:=[i6 R.Lo,i6 R.Hi]) eA rfl rfl (qJ (sz:=2) (i:=J.toNat) m0 s (n:=2) (o':=0) rfl)) fun a w hf hc=>zD θ he hi hf 14 rfl rfl rfl ?_
   try dsimp only
   rw [aQ 11 D rfl,aQ 11 H rfl]
   exact hc
  ·intro E θ a w hD hi hp he hc
   have e0:=hp.o 0 rfl
   have e1:=hp.o 1 rfl
   have D:=hD.f 8 rfl hi
   have H:=hD.f 9 rfl hi
   try dsimp only at hc
   rw [D,H] at hc
   have hf:=(he.h0.mP he 3 rfl e0).mP he 4 rfl e1
   refine zP hf rfl (pIA Tryz.underlying54 cA rfl rfl q) fun a hf=>zD θ he hi hf 15 rfl rfl rfl ?_
   try dsimp only
   rw [aQ 12 D rfl,aQ 12 H rfl]
   exact hc
  ·intro E θ a w hD hi hp he hc
   have e7:=hp.o 7 rfl
   have ab:=hp.o 12 rfl
   have H:=hD.f 10 rfl hi
   try dsimp only at hc
   rw [hi,H] at hc
   have hf:=(he.h0.mP he 10 rfl e7).mP he 15 rfl ab
   refine aIu (sz:=2) (vs:=[i6 M.Lo,i6 M.Hi]) (o':=0) (z:=M) (xs:=I) hf hc rfl rfl rfl rfl cA rfl (fun x=>(eF x).1) (tK Y) (fun _ _=>rfl) rfl u0 fun w hc=>zG θ he hi hf rfl ?_
   try dsimp only
   rw [aR E 13,aQ 13 H rfl]
   exact hc
  ·intro E θ a w hD hi hp he hc
   have e2:=hp.o 2 rfl
   have e3:=hp.o 3 rfl
   have D:=hp.o 13 rfl
   have H:=hD.f 11 rfl hi
   try dsimp only at hc
   rw [D,H] at hc
   have hf:=(he.h0.mP he 5 rfl e2).mP he 6 rfl e3
   refine zP hf rfl (pIA Tryz.underlying54 cA rfl rfl p) fun a hf=>zD θ he hi hf 16 rfl rfl rfl ?_
   try dsimp only
   rw [cV 14 D,aQ 14 H rfl]
   exact hc
  ·intro E θ a w hD hi hp he hc
   have d:=hp.o 11 rfl
   have aa:=hp.o 14 rfl
   have D:=hp.o 13 rfl
   try dsimp only at hc
   rw [D,hi] at hc
   have hf:=(he.h0.mP he 14 rfl d).mP he 16 rfl aa
   refine aIu (sz:=2) (vs:=[i6 R.Lo,i6 R.Hi]) (o':=0) (z:=R) (xs:=(I.set J.toNat M)) hf hc rfl rfl rfl rfl cA rfl (fun x=>(eF x).1) (by simpa using tK Z) (fun _ _=>rfl) rfl u0 fun w hc=>zG θ he hi hf rfl ?_
   try dsimp only
   rw [cV 15 D,aR E 15]
   exact hc
  ·intro E θ a w b he hc
   have hf:=he.h0
   have D:=b 13 rfl
   have H:=b 15 rfl
   replace hf:=hf.more he 2 rfl (onT)
   replace hf:=hf.more he 1 rfl (onT)
   replace hf:=hf.more he 0 rfl (onT)
   try dsimp only at hc
   rw [D,H] at hc
   exact ⟨hf.kp rfl,hc⟩
  rintro a w ⟨hf,hc⟩
  refine h6 _ _ ?_
  refine dE ?_
  refine sp 6 hf rfl fun a hf=>aP ?_
  replace hf:=hf.castAt 0 (v':=.slice (some ⟨g,0,none⟩) (((I.set J.toNat M).set O.toNat R).length) B) rfl (congrArg (fun k=>Value.slice (some ⟨g,0,none⟩) k B) (by simp))
  exact ac (((I.set J.toNat M).set O.toNat R),W (J + 1),W (O - 1)) _ _ (sj hF).symm ⟨hf.kp rfl,hc⟩
 ·refine wp_exit ?_
  refine aV ?_
  refine aV ?_
  have he:=sj hF
  rw [← he] at X
  refine eW ?_
  exact y _ _ _ X ⟨hf.kp rfl,hc⟩

def iF (N:Nat) (s_:aA) (x:Nat→Int) (xv:Int) (B:Int):Option (Rs ((Nat→Int))) :=
 cond (!(aG B s_.Lo s_.Hi))
 (Option.bind (inR xv 601) fun un=>
 some (.go (kF x xv.toNat 1073741824)))
 (some (.go x))
def pF (N:Nat) (s_:aA):Option ((Nat→Int)) :=
 Option.bind (cN N (rY (fun (zz:(Nat→Int)) (D:(Int × Int))=>iF N s_ zz D.1 D.2)) (.go (fun _=>0))) fun x5=>
 rsK x5 (fun B=>some B) (fun B=>none)
theorem aBl {N:Nat} {G:aS} {Lf:List Ent} {w:World} (s_:aA)   (hc:Ctx G (Lf) w) {I:(Nat→Int)} (hF:pF N s_=some I):Calls Tryz.prog 85 #[.agg #[i6 s_.Lo,i6 s_.Hi]] w (fun e w=>∃ (R:Nat),e=.returned (pq R)∧Ctx G (.box R (cH [] 601 aD I []) 77::Lf) w):=by
 unfold pF at hF
 refine aCr Tryz.func85 rfl Tryz.ntmps85 rfl fun a hf=>zS fun K h=>zB hf hc rfl fun D a w hf hc=>sp 1 hf rfl fun a hf=>zT h ?_
 refine zS fun K h=>aI3 (cs:=(cH [] 601 aD (fun _=>0) [])) hf hc rfl rfl aIw rfl fun B a w hf hc=>zT h ?_
 refine wp_seq_k fun K3 h3=>zS fun K h=>zQ (v:=.func (.func 56) #[] #[]) hf hc aDi rfl (fun w hc=>kR hc rfl) fun a w hf hc=>zT h ?_
 obtain ⟨x5,U,hF⟩:=aB hF
 refine aBf (C:=[]) (C2:=[]) (L0:=[.box B (cH [] 601 aD ((fun _=>0)) []) 77,.box D [i6 s_.Lo,i6 s_.Hi] 41]) (Lf:=Lf) (encs:=fun x:(Int × Int)=>[i6 x.1,i6 x.2]) (fun (zz:(Nat→Int)) L=>L=[.box B (cH [] 601 aD zz []) 77,.box D [i6 s_.Lo,i6 s_.Hi] 41]) (fun (zz:(Nat→Int)) (S:(Int × Int))=>iF N s_ zz S.1 S.2) (fun _=>0) x5 hf hc rfl aDd (fun _=>rfl) rfl rfl ?_ ?_ ?_ ?_
 ·intro lq mq J L Lx w hy hJ hc
  exact iZ  J _ hy _ hJ hc U
 ·clear hF hf hc
  rintro lq mq x ⟨xv,H⟩ oq _ Lr Lb a w V rfl hF hf hc hK
  replace hf:Has 18 a [(1,pq D),(3,pq B),(7,i6 xv),(8,i6 H)]:=hf.kp rfl
  replace hc:Ctx G (.box B (cH [] 601 aD x []) 77::.box D [i6 s_.Lo,i6 s_.Hi] 41::Lr) w:=hc
  replace hF:iF N s_ x xv H=some oq:=hF
  unfold iF at hF
  refine sX fun K6 h6=>oE (fun _ _ h=>h) rfl ?_
  refine sp 1 hf rfl fun a hf=>aP ?_
  refine h6 _ _ ?_
  refine oE (fun _ _ h=>h) rfl ?_
  refine sp 1 hf rfl fun a hf=>aP ?_
  refine hK _ _ [.box B (cH [] 601 aD x []) 77,.box D [i6 s_.Lo,i6 s_.Hi] 41] hc fun w hc=>?_
  replace hc:Ctx G (.box B (cH [] 601 aD x []) 77::.box D [i6 s_.Lo,i6 s_.Hi] 41::Lb) w:=hc
  refine wR fun K7 h7=>wE ?_
  refine sX fun K8 h8=>oE (fun _ _ h=>h) rfl ?_
  refine sp 1 hf rfl fun a hf=>zP hf rfl (pFA dS rfl) fun a hf=>zL hf hc aU m1 rfl fun a w hf hc=>zP hf rfl (pFA dC rfl) fun a hf=>zL hf hc aU m1 rfl fun a w hf hc=>zQ (v:=.bool (aG H s_.Lo s_.Hi)) hf hc rI rfl (fun w hc=>eO H s_.Lo s_.Hi hc rfl) fun a w hf hc=>sp 1 hf rfl fun a hf=>aP ?_
  refine h8 _ _ ?_
  refine yY (b:=(!(aG H s_.Lo s_.Hi))) hf rfl (fun hb=>?_) (fun hb=>?_)
  ·replace hF:=lF hb hF
   clear hb
   refine oE (fun _ _ h=>h) rfl ?_
   refine sp 1 hf rfl fun a hf=>?_
   obtain ⟨un,M,hF⟩:=aB hF
   refine zP hf rfl (pW Tryz.underlying77 eL rfl rfl (bI M).1 (bI M).2) fun a hf=>aGs (vs:=[i6 1073741824]) (o':=0) (z:=1073741824) hf hc rfl rfl rfl rfl eL rfl (fun x=>(bD x).1) rfl M rfl rfl u0 fun w hc=>aP ?_
   refine h7 _ _ ?_
   exact ⟨(kF x xv.toNat 1073741824),_,(sj hF).symm,rfl,hc⟩
  ·replace hF:=nJ hb hF
   clear hb
   refine zM ?_
   refine h7 _ _ ?_
   exact ⟨x,_,(sj hF).symm,rfl,hc⟩
 ·rintro D_1 x _ a w O rfl hf hc
  replace hf:Has ⟨18,lY (D_1::[])⟩ a [(1,pq D),(3,pq B)]:=hf.kp rfl
  replace hc:Ctx G (.box B (cH [] 601 aD x []) 77::.box D [i6 s_.Lo,i6 s_.Hi] 41::(oH (D_1::[])++Lf)) w:=nL (C:=[]) (L:=[.box B (cH [] 601 aD x []) 77,.box D [i6 s_.Lo,i6 s_.Hi] 41]) hc
  replace hF:(some x)=some I:=by rcases O with rfl | rfl <;> exact hF
  refine h3 _ _ ?_
  refine zS fun K h=>sp 1 hf rfl fun a hf=>zT h ?_
  refine wp_ret ?_
  obtain rfl:=sj hF
  replace hc:=hc.drop k1
  refine aA3 hf ?_
  refine zJ [.box B (cH [] 601 aD x []) 77] (D_1::[]) hc fun w hc=>?_
  replace hc:Ctx G (.box B (cH [] 601 aD x []) 77::Lf) w:=hc
  exact outM1 Tryz.results85 hf hc (show dG _ 2=_ from rfl) ⟨B,rfl,hc⟩
 ·rintro D_1 x _ a w O rfl hf hc
  replace hf:Has ⟨18,lY (D_1::[])⟩ a [(1,pq D),(3,pq B)]:=hf.kp rfl
  replace hc:Ctx G (.box B (cH [] 601 aD x []) 77::.box D [i6 s_.Lo,i6 s_.Hi] 41::(oH (D_1::[])++Lf)) w:=nL (C:=[]) (L:=[.box B (cH [] 601 aD x []) 77,.box D [i6 s_.Lo,i6 s_.Hi] 41]) hc
  replace hF:(none)=some I:=by subst O; exact hF
  cases hF

def fA (N:Nat) (s_:aA) (B:Nat→Int) (xv:Int) (D:Int):Option (Rs ((Nat→Int))) :=
 cond (!(aG D s_.Lo s_.Hi))
 (Option.bind (inR xv 601) fun un=>
 some (.go (kF B xv.toNat 1073741824)))
 (some (.go B))
def iB (N:Nat) (m:Nat→Int) (D:Int) (B:Int) (H:Nat→Int):Option (cY (Int × Int × (Nat→Int)) ((Nat→Int))) :=
 cond (decide (0≤B))
 (Option.bind (inR B 601) fun M=>
 Option.bind (inR B 601) fun I=>
 Option.bind (inR B 601) fun J=>
 some (.cont (min (W (D + 1)) (m B.toNat),W (B - 1),(kF H B.toNat (min (H B.toNat) (min (W (D + 1)) (m B.toNat)))))))
 (some (.brk (D,B,H)))
def jE (N:Nat) (m:Nat→Int) (B:Int) (x:Int) (D:Nat→Int):Option (cY (Int × Int × (Nat→Int)) ((Nat→Int))) :=
 cond (decide (x < 601))
 (Option.bind (inR x 601) fun I=>
 Option.bind (inR x 601) fun H=>
 some (.cont (min (W (B + 1)) (m x.toNat),W (x + 1),(kF D x.toNat (min (W (B + 1)) (m x.toNat))))))
 (some (.brk (B,x,D)))
def lI (N:Nat) (m:Nat→Int) (s_:aA):Option ((Nat→Int)) :=
 Option.bind (qX (aL 601 m) 0 ((601:Nat):Int)) fun sub=>
 Option.bind (bE (fun s7=>jE N m s7.1 s7.2.1 s7.2.2) N (1073741824,0,(fun _=>0))) fun x7=>
 exK x7 (fun s7=>Option.bind (bE (fun B=>iB N m B.1 B.2.1 B.2.2) N (1073741824,600,s7.2.2)) fun I=>
 exK I (fun B=>Option.bind (cN N (rY (fun (zz:(Nat→Int)) (H:(Int × Int))=>fA N s_ zz H.1 H.2)) (.go B.2.2)) fun J=>
 rsK J (fun D=>some D) (fun D=>none)) some) some
theorem xG {N:Nat} {G:aS} {Lf:List Ent} {w:World} (m:Nat→Int) (s_:aA) {b_:Nat}  (hc:Ctx G (.box b_ (cH [] 601 aD m []) 77::Lf) w) {X:(Nat→Int)} (hF:lI N m s_=some X):Calls Tryz.prog 86 #[pq b_,.agg #[i6 s_.Lo,i6 s_.Hi]] w (fun e w=>e=.returned (.tuple #[])∧Ctx G (.box b_ (cH [] 601 aD X []) 77::Lf) w):=by
 unfold lI at hF
 refine aCr Tryz.func86 rfl Tryz.ntmps86 rfl fun a hf=>zS fun K h=>zB hf hc rfl fun M a w hf hc=>zB hf hc rfl fun I a w hf hc=>zT h ?_
 refine zS fun K h=>zL hf hc xU m1 rfl fun a w hf hc=>sp 1 hf rfl fun a hf=>zE hf hc rfl (jM (vs:=(cH [] 601 aD m [])) aB7 rfl (cU _).1 (bO (n:=601) m2 (aB5 (cU _).1))) fun a w hf hc=>aI3 (cs:=(cH [] 601 aD (fun _=>0) [])) hf hc rfl rfl aIw rfl fun R a w hf hc=>aKm (enc:=bA) (f:=(fun _=>0)) (z:=m) hf hc rfl rfl rfl cU rE u0 fun w hc=>zT h ?_
 refine zS fun K h=>zL hf hc xU m2 rfl fun a w hf hc=>sp 1 hf rfl fun a hf=>?_
 obtain ⟨sub,y,hF⟩:=aB hF
 refine zP hf rfl (pSlA (xs:=(aL 601 m)) Tryz.underlying77 eL rfl wG rfl rfl y) fun a hf=>stClN (n:=601) (f:=m) (x0:=0) (v:=i6 0) hf hc rfl Tryz.underlying27 aAr rfl rfl rfl subP0 (aIl y rfl rfl) rfl rfl (fun x=>(bD x).1) u3 fun w hc=>zT h ?_
 refine zS fun K h=>sp 1 hf rfl fun a hf=>zT h ?_
 refine wp_seq_k fun K5 h5=>zS fun K h=>sp 1 hf rfl fun a hf=>zT h ?_
 refine wp_block ?_
 obtain ⟨x7,aq,hF⟩:=aB hF
 let S7:(Int × Int × (Nat→Int))→Act→World→Prop:=(fun (zz:Int × Int × (Nat→Int)) a w=>Has 66 a [(2,pq M),(3,pq I),(4,pq R),(5,i6 zz.1),(16,i6 zz.2.1)]∧Ctx G (.box R (cH [] 601 aD m []) 77::.box I [i6 s_.Lo,i6 s_.Hi] 41::.box M [pq b_] 155::.box b_ (cH [] 601 aD zz.2.2 []) 77::Lf) w)
 have au:∀ (zz:Int × Int × (Nat→Int)) a w,x7=.go zz→S7 zz a w→K5 a w:=by
  rintro ⟨V,x,p⟩ a w rfl ⟨hf,hc⟩
  replace hF:=bW hF
  refine h5 _ _ ?_
  refine zS fun K h=>sp 1 hf rfl fun a hf=>zT h ?_
  refine wp_seq_k fun K9 h9=>zS fun K h=>sp 1 hf rfl fun a hf=>zT h ?_
  refine wp_block ?_
  obtain ⟨aa,ad,hF⟩:=aB hF
  let S11:(Int × Int × (Nat→Int))→Act→World→Prop:=(fun (zz:Int × Int × (Nat→Int)) a w=>Has 66 a [(2,pq M),(3,pq I),(4,pq R),(5,i6 zz.1),(7,i6 zz.2.1)]∧Ctx G (.box R (cH [] 601 aD m []) 77::.box I [i6 s_.Lo,i6 s_.Hi] 41::.box M [pq b_] 155::.box b_ (cH [] 601 aD zz.2.2 []) 77::Lf) w)
  have ai:∀ (zz:Int × Int × (Nat→Int)) a w,aa=.go zz→S11 zz a w→K9 a w:=by
   rintro ⟨D,B,O⟩ a w rfl ⟨hf,hc⟩
   replace hF:=bW hF
   refine h9 _ _ ?_
   refine zS fun K h=>zQ (v:=.func (.func 56) #[] #[]) hf hc aDi rfl (fun w hc=>kR hc rfl) fun a w hf hc=>zT h ?_
   obtain ⟨ap,aj,hF⟩:=aB hF
   replace hc:=hc.drop k0
   refine aBf (C:=[]) (C2:=[]) (L0:=[.box I [i6 s_.Lo,i6 s_.Hi] 41,.box M [pq b_] 155,.box b_ (cH [] 601 aD O []) 77]) (Lf:=Lf) (encs:=fun x:(Int × Int)=>[i6 x.1,i6 x.2]) (fun (zz:(Nat→Int)) L=>L=[.box I [i6 s_.Lo,i6 s_.Hi] 41,.box M [pq b_] 155,.box b_ (cH [] 601 aD zz []) 77]) (fun (zz:(Nat→Int)) (ac:(Int × Int))=>fA N s_ zz ac.1 ac.2) O ap hf hc rfl aDd (fun _=>rfl) rfl rfl ?_ ?_ ?_ ?_
   ·intro lq mq J L Lx w hy hJ hc
    exact iZ  J _ hy _ hJ hc aj
   ·clear hF hf hc
    rintro lq mq H ⟨xv,U⟩ oq _ Lr Lb a w a7 rfl hF hf hc hK
    replace hf:Has 66 a [(2,pq M),(3,pq I),(53,i6 xv),(54,i6 U)]:=hf.kp rfl
    replace hc:Ctx G (.box I [i6 s_.Lo,i6 s_.Hi] 41::.box M [pq b_] 155::.box b_ (cH [] 601 aD H []) 77::Lr) w:=hc
    replace hF:fA N s_ H xv U=some oq:=hF
    unfold fA at hF
    refine sX fun K14 ay=>oE (fun _ _ h=>h) rfl ?_
    refine sp 1 hf rfl fun a hf=>aP ?_
    refine ay _ _ ?_
    refine oE (fun _ _ h=>h) rfl ?_
    refine sp 1 hf rfl fun a hf=>aP ?_
    refine hK _ _ [.box I [i6 s_.Lo,i6 s_.Hi] 41,.box M [pq b_] 155,.box b_ (cH [] 601 aD H []) 77] hc fun w hc=>?_
    replace hc:Ctx G (.box I [i6 s_.Lo,i6 s_.Hi] 41::.box M [pq b_] 155::.box b_ (cH [] 601 aD H []) 77::Lb) w:=hc
    refine wR fun K15 ab=>wE ?_
    refine sX fun K16 av=>oE (fun _ _ h=>h) rfl ?_
    refine sp 1 hf rfl fun a hf=>zP hf rfl (pFA dS rfl) fun a hf=>zL hf hc aU m0 rfl fun a w hf hc=>zP hf rfl (pFA dC rfl) fun a hf=>zL hf hc aU m0 rfl fun a w hf hc=>zQ (v:=.bool (aG U s_.Lo s_.Hi)) hf hc rI rfl (fun w hc=>eO U s_.Lo s_.Hi hc rfl) fun a w hf hc=>sp 1 hf rfl fun a hf=>aP ?_
    refine av _ _ ?_
    refine yY (b:=(!(aG U s_.Lo s_.Hi))) hf rfl (fun hb=>?_) (fun hb=>?_)
    ·replace hF:=lF hb hF
     clear hb
     refine oE (fun _ _ h=>h) rfl ?_
     refine zL hf hc xU m1 rfl fun a w hf hc=>sp 2 hf rfl fun a hf=>?_
     obtain ⟨un,t,hF⟩:=aB hF
     refine zP hf rfl (pW Tryz.underlying77 eL rfl rfl (bI t).1 (bI t).2) fun a hf=>aGs (vs:=[i6 1073741824]) (o':=0) (z:=1073741824) hf hc rfl rfl rfl rfl eL rfl (fun x=>(bD x).1) rfl t rfl rfl u2 fun w hc=>aP ?_
     refine ab _ _ ?_
     exact ⟨(kF H xv.toNat 1073741824),_,(sj hF).symm,rfl,hc⟩
    ·replace hF:=nJ hb hF
     clear hb
     refine zM ?_
     refine ab _ _ ?_
     exact ⟨H,_,(sj hF).symm,rfl,hc⟩
   ·rintro D_1 H _ a w u rfl hf hc
    replace hf:Has ⟨66,lY (D_1::[])⟩ a [(2,pq M),(3,pq I)]:=hf.kp rfl
    replace hc:Ctx G (.box I [i6 s_.Lo,i6 s_.Hi] 41::.box M [pq b_] 155::.box b_ (cH [] 601 aD H []) 77::(oH (D_1::[])++Lf)) w:=nL (C:=[]) (L:=[.box I [i6 s_.Lo,i6 s_.Hi] 41,.box M [pq b_] 155,.box b_ (cH [] 601 aD H []) 77]) hc
    replace hF:(some H)=some X:=by rcases u with rfl | rfl <;> exact hF
    obtain rfl:=sj hF
    replace hc:=(hc.drop k1).drop k0
    refine aA3 hf ?_
    refine zJ [.box b_ (cH [] 601 aD H []) 77] (D_1::[]) hc fun w hc=>?_
    replace hc:Ctx G (.box b_ (cH [] 601 aD H []) 77::Lf) w:=hc
    exact outM0 Tryz.results86 ⟨rfl,hc⟩
   ·rintro D_1 H _ a w u rfl hf hc
    replace hf:Has ⟨66,lY (D_1::[])⟩ a [(2,pq M),(3,pq I)]:=hf.kp rfl
    replace hc:Ctx G (.box I [i6 s_.Lo,i6 s_.Hi] 41::.box M [pq b_] 155::.box b_ (cH [] 601 aD H []) 77::(oH (D_1::[])++Lf)) w:=nL (C:=[]) (L:=[.box I [i6 s_.Lo,i6 s_.Hi] 41,.box M [pq b_] 155,.box b_ (cH [] 601 aD H []) 77]) hc
    replace hF:(none)=some X:=by subst u; exact hF
    cases hF
  have a3:∀ r,aa=.out r→r=X:=by
   rintro r rfl
   exact sj hF
  refine dO N (dH (S:=S11) (x:=aa) ?_ N (1073741824,600,p) _ _ ⟨hf.kp rfl,hc⟩ ad)
  clear hF hf hc
  rintro ⟨D,B,O⟩ a4 a w KB11 ⟨hf,hc⟩ hF k af
  unfold iB at hF
  refine wp_seq_k fun K17 ar=>zS fun K h=>sp 2 hf rfl fun a hf=>zT h ?_
  refine zI hf rfl hF ?_ ?_ <;> clear hF <;> intro hF
  ·refine wp_skip ?_
   refine ar _ _ ?_
   refine wp_seq_k fun K19 ak=>wp_block ?_
   refine zS fun K h=>sp 3 hf rfl fun a hf=>?_
   obtain ⟨a1,Z,hF⟩:=aB hF
   refine zP hf rfl (pW Tryz.underlying77 eL rfl rfl (bI Z).1 (bI Z).2) fun a hf=>zE hf hc rfl (cE aU rfl (lV (j:=0) m0 (fun x=>(bD x).1) rfl Z rfl)) fun a w hf hc=>zP hf rfl (zO rfl rfl) fun a hf=>sp 1 hf rfl fun a hf=>zT h ?_
   obtain ⟨a0,i,hF⟩:=aB hF
   obtain ⟨a6,Y,hF⟩:=aB hF
   refine fI (fun θ=>[⟨none,none,2,pq M⟩,⟨none,none,3,pq I⟩,⟨none,none,4,pq R⟩,⟨none,none,5,i6 (min (W (D + 1)) (m B.toNat))⟩,⟨none,none,7,i6 B⟩,⟨some 0,none,41,pq b_⟩,⟨some 1,none,42,i6 B⟩,⟨some 2,none,43,pq b_⟩,⟨some 3,none,44,i6 B⟩,⟨some 4,none,45,pq b_⟩,⟨some 5,none,46,.pointer (some ⟨b_,0 + B.toNat * 1,none⟩)⟩,⟨some 6,none,47,i6 (O B.toNat)⟩,⟨some 7,none,48,i6 (min (W (D + 1)) (m B.toNat))⟩,⟨some 8,none,49,i6 (min (O B.toNat) (min (W (D + 1)) (m B.toNat)))⟩,⟨some 9,none,50,pq b_⟩,⟨some 10,none,51,.pointer (some ⟨b_,0 + B.toNat * 1,none⟩)⟩]) (fun E θ=>.box R (cH [] 601 aD m []) 77::.box I [i6 s_.Lo,i6 s_.Hi] 41::.box M [pq b_] 155::(bif E 11 then .box b_ (cH [] 601 aD (kF O B.toNat (min (O B.toNat) (min (W (D + 1)) (m B.toNat)))) []) 77 else .box b_ (cH [] 601 aD O []) 77)::Lf) [(11,6)] (fun a w=>Has 66 a [(2,pq M),(3,pq I),(4,pq R),(5,i6 (min (W (D + 1)) (m B.toNat))),(7,i6 B)]∧Ctx G (.box R (cH [] 601 aD m []) 77::.box I [i6 s_.Lo,i6 s_.Hi] 41::.box M [pq b_] 155::.box b_ (cH [] 601 aD (kF O B.toNat (min (O B.toNat) (min (W (D + 1)) (m B.toNat)))) []) 77::Lf) w) aT (by kernel_rfl) (by kernel_rfl) (eZ.of hf ⟨rfl,rfl,rfl,rfl,rfl,trivial,trivial,trivial,trivial,trivial,trivial,trivial,trivial,trivial,trivial,trivial,trivial⟩) hc ⟨?_,?_,?_,?_,?_,?_,?_,?_,?_,?_,?_,?_,trivial⟩ ?_ ?_
   ·intro E θ a w hD hi hp he hc
    have hf:=he.h0.mT he 0 rfl
    refine zL hf hc xU m2 rfl fun a w hf hc=>zD θ he hi hf 5 rfl rfl rfl hc
   ·intro E θ a w hD hi hp he hc
    have hf:=he.h0.mT he 4 rfl
    refine sp 1 hf rfl fun a hf=>zD θ he hi hf 6 rfl rfl rfl hc
   ·intro E θ a w hD hi hp he hc
    have hf:=he.h0.mT he 0 rfl
    refine zL hf hc xU m2 rfl fun a w hf hc=>zD θ he hi hf 7 rfl rfl rfl hc
   ·intro E θ a w hD hi hp he hc
    have hf:=he.h0.mT he 4 rfl
    refine sp 1 hf rfl fun a hf=>zD θ he hi hf 8 rfl rfl rfl hc
   ·intro E θ a w hD hi hp he hc
    have e2:=hp.o 2 rfl
    have hf:=he.h0.mP he 7 rfl e2
    refine sp 1 hf rfl fun a hf=>zD θ he hi hf 9 rfl rfl rfl hc
   ·intro E θ a w hD hi hp he hc
    have e3:=hp.o 3 rfl
    have e4:=hp.o 4 rfl
    have hf:=(he.h0.mP he 8 rfl e3).mP he 9 rfl e4
    refine zP hf rfl (pW Tryz.underlying77 eL rfl rfl (bI i).1 (bI i).2) fun a hf=>zD θ he hi hf 10 rfl rfl rfl hc
   ·intro E θ a w hD hi hp he hc
    have e5:=hp.o 5 rfl
    have s:=hD.f 0 rfl hi
    try dsimp only at hc
    rw [s] at hc
    have hf:=he.h0.mP he 10 rfl e5
    refine zE hf hc rfl (cE aU rfl (lV (j:=0) m3 (fun x=>(bD x).1) rfl i rfl)) fun a w hf hc=>zD θ he hi hf 11 rfl rfl rfl ?_
    try dsimp only
    rw [aQ 6 s rfl]
    exact hc
   ·intro E θ a w hD hi hp he hc
    have hf:=he.h0.mT he 3 rfl
    refine sp 1 hf rfl fun a hf=>zD θ he hi hf 12 rfl rfl rfl hc
   ·intro E θ a w hD hi hp he hc
    have e6:=hp.o 6 rfl
    have e7:=hp.o 7 rfl
    have hf:=(he.h0.mP he 11 rfl e6).mP he 12 rfl e7
    refine zP hf rfl (zO rfl rfl) fun a hf=>zD θ he hi hf 13 rfl rfl rfl hc
   ·intro E θ a w hD hi hp he hc
    have e0:=hp.o 0 rfl
    have hf:=he.h0.mP he 5 rfl e0
    refine sp 1 hf rfl fun a hf=>zD θ he hi hf 14 rfl rfl rfl hc
   ·intro E θ a w hD hi hp he hc
    have e1:=hp.o 1 rfl
    have e9:=hp.o 9 rfl
    have hf:=(he.h0.mP he 6 rfl e1).mP he 14 rfl e9
    refine zP hf rfl (pW Tryz.underlying77 eL rfl rfl (bI Y).1 (bI Y).2) fun a hf=>zD θ he hi hf 15 rfl rfl rfl hc
   ·intro E θ a w hD hi hp he hc
    have e8:=hp.o 8 rfl
    have am:=hp.o 10 rfl
    try dsimp only at hc
    rw [hi] at hc
    have hf:=(he.h0.mP he 13 rfl e8).mP he 15 rfl am
    refine aGs (vs:=[i6 (min (O B.toNat) (min (W (D + 1)) (m B.toNat)))]) (o':=0) (z:=min (O B.toNat) (min (W (D + 1)) (m B.toNat))) hf hc rfl rfl rfl rfl eL rfl (fun x=>(bD x).1) rfl Y rfl rfl u3 fun w hc=>zG θ he hi hf rfl ?_
    try dsimp only
    rw [aR E 11]
    exact hc
   ·intro E θ a w ag he hc
    have hf:=he.h0
    have s:=ag 11 rfl
    replace hf:=hf.more he 4 rfl (onT)
    replace hf:=hf.more he 3 rfl (onT)
    replace hf:=hf.more he 2 rfl (onT)
    replace hf:=hf.more he 1 rfl (onT)
    replace hf:=hf.more he 0 rfl (onT)
    try dsimp only at hc
    rw [s] at hc
    exact ⟨hf.kp rfl,hc⟩
   rintro a w ⟨hf,hc⟩
   refine ak _ _ ?_
   refine dE ?_
   refine sp 3 hf rfl fun a hf=>aP ?_
   exact af (min (W (D + 1)) (m B.toNat),W (B - 1),(kF O B.toNat (min (O B.toNat) (min (W (D + 1)) (m B.toNat))))) _ _ (sj hF).symm ⟨hf.kp rfl,hc⟩
  ·refine wp_exit ?_
   refine aV ?_
   refine aV ?_
   have he:=sj hF
   rw [← he] at k
   refine eW ?_
   exact ai _ _ _ k ⟨hf.kp rfl,hc⟩
 have a9:∀ r,x7=.out r→r=X:=by
  rintro r rfl
  exact sj hF
 refine dO N (dH (S:=S7) (x:=x7) ?_ N (1073741824,0,(fun _=>0)) _ _ ⟨hf.kp rfl,hc⟩ aq)
 clear hF hf hc
 rintro ⟨V,x,p⟩ a8 a w KB7 ⟨hf,hc⟩ hF q an
 unfold jE at hF
 refine zS fun K h=>sp 1 hf rfl fun a hf=>zT h ?_
 refine wp_seq_k fun K22 az=>zI hf rfl hF ?_ ?_ <;> clear hF <;> intro hF
 ·refine wp_skip ?_
  refine az _ _ ?_
  refine wp_seq_k fun K23 ax=>wp_block ?_
  refine zS fun K h=>sp 2 hf rfl fun a hf=>zT h ?_
  refine zS fun K h=>sp 3 hf rfl fun a hf=>?_
  obtain ⟨a5,g,hF⟩:=aB hF
  refine zP hf rfl (pW Tryz.underlying77 eL rfl rfl (bI g).1 (bI g).2) fun a hf=>zE hf hc rfl (cE aU rfl (lV (j:=0) m0 (fun x=>(bD x).1) rfl g rfl)) fun a w hf hc=>zP hf rfl (zO rfl rfl) fun a hf=>sp 1 hf rfl fun a hf=>zT h ?_
  refine dE ?_
  refine zL hf hc xU m2 rfl fun a w hf hc=>sp 3 hf rfl fun a hf=>?_
  obtain ⟨a2,d,hF⟩:=aB hF
  refine zP hf rfl (pW Tryz.underlying77 eL rfl rfl (bI d).1 (bI d).2) fun a hf=>aGs (vs:=[i6 (min (W (V + 1)) (m x.toNat))]) (o':=0) (z:=min (W (V + 1)) (m x.toNat)) hf hc rfl rfl rfl rfl eL rfl (fun x=>(bD x).1) rfl d rfl rfl u3 fun w hc=>aP ?_
  refine ax _ _ ?_
  refine dE ?_
  refine sp 2 hf rfl fun a hf=>aP ?_
  exact an (min (W (V + 1)) (m x.toNat),W (x + 1),(kF p x.toNat (min (W (V + 1)) (m x.toNat)))) _ _ (sj hF).symm ⟨hf.kp rfl,hc⟩
 ·refine wp_exit ?_
  refine aV ?_
  refine aV ?_
  have he:=sj hF
  rw [← he] at q
  refine eW ?_
  exact au _ _ _ q ⟨hf.kp rfl,hc⟩

def fO (N:Nat) (sub:List aA) (out:List (Nat→Int)) (x:Int) (D:Nat→Int):Option (cY ((List (Nat→Int)) × Int × (Nat→Int)) ((List (Nat→Int)))) :=
 cond (decide (x < ((sub.length:Nat):Int)))
 (Option.bind (bG sub x) fun H=>
 Option.bind (lI N D H) fun B=>
 Option.bind (pG ((out++[B])).length) fun un=>
 some (.cont ((out++[B]),W (x + 1),B)))
 (some (.brk (out,x,D)))
def jY (N:Nat) (l:List aA):Option ((List (Nat→Int))) :=
 Option.bind (bG l 0) fun B=>
 Option.bind (pF N B) fun r=>
 Option.bind (qX l 1 ((l.length:Nat):Int)) fun sub=>
 Option.bind (bE (fun s6=>fO N sub s6.1 s6.2.1 s6.2.2) N (([r]:List (Nat→Int)),0,r)) fun x6=>
 exK x6 (fun s6=>some s6.1) some
theorem rC {N:Nat} {G:aS} {Lf:List Ent} {w:World} (l:List aA) {U:Option Addr} {I:Nat} (V:Rd G 2 U I (l.map aC)) (hc:Ctx G (Lf) w) {J:(List (Nat→Int))} (hF:jY N l=some J):Calls Tryz.prog 54 #[.slice U l.length I] w (fun e w=>∃ (Y:Option Addr) (b:Nat),e=.returned (.slice Y J.length b)∧Ctx G (.row Y b (J.map bA) 77 601::Lf) w):=by
 unfold jY at hF
 refine cB Tryz.func54 rfl Tryz.ntmps54 rfl fun a hf=>zS fun K h=>sp 1 hf rfl fun a hf=>zT h ?_
 refine zS fun K h=>sp 1 hf rfl fun a hf=>?_
 obtain ⟨O,i,hF⟩:=aB hF
 obtain ⟨aa,o,qa,qp⟩:=V.atm i
 refine zP hf rfl (pIA Tryz.underlying54 cA rfl rfl qa) fun a hf=>zE hf hc rfl (jM (vs:=[i6 O.Lo,i6 O.Hi]) eA rfl rfl (cI qp (n:=2) (o':=0) rfl)) fun a w hf hc=>?_
 obtain ⟨r,hr,hF⟩:=aB hF
 refine zC hf en_85 rfl (aBl O hc hr) ?_
 rintro _ w ⟨d,rfl,hc⟩
 refine ⟨_,rfl,fun a hf=>?_⟩
 refine sp 1 hf rfl fun a hf=>zT h ?_
 refine zS fun K h=>sp 2 hf rfl fun a hf=>zE hf hc rfl (jM (vs:=(cH [] 601 aD r [])) aB7 rfl (cU _).1 (bO (n:=601) m0 (aB5 (cU _).1))) fun a w hf hc=>mY (rows:=([r]:List (Nat→Int)).map bA) (vs:=[(0,.agg (cH [] 601 aD r []).toArray)]) hf hc rfl rfl aIs rfl ⟨rfl,rfl,(cU _).1,trivial⟩ rfl rfl fun y a w hf hc=>sp 1 hf rfl fun a hf=>zT h ?_
 refine wp_seq_k fun K4 h4=>zS fun K h=>sp 1 hf rfl fun a hf=>?_
 obtain ⟨sub,X,hF⟩:=aB hF
 have qs:=Rd.sub V X
 refine zP hf rfl (pSl Tryz.underlying54 cA rfl rfl (by simpa using V.1) rfl rfl X) fun a hf=>zP hf rfl (bM Tryz.underlying54 rfl) fun a hf=>sp 1 hf rfl fun a hf=>zT h ?_
 refine wp_block ?_
 obtain ⟨x6,z,hF⟩:=aB hF
 let S6:((List (Nat→Int)) × Int × (Nat→Int))→Act→World→Prop:=(fun (zz:(List (Nat→Int)) × Int × (Nat→Int)) a w=>∃ (D:Option Addr) (H:Nat),Has 33 a [(3,pq d),(4,.slice D zz.1.length H),(16,.slice (uX U I (1:Int).toNat 2) sub.length (I - (1:Int).toNat)),(17,i6 ((sub.length:Nat):Int)),(18,i6 zz.2.1)]∧Ctx G (.row D H (zz.1.map bA) 77 601::.box d (cH [] 601 aD zz.2.2 []) 77::Lf) w)
 have t:∀ (zz:(List (Nat→Int)) × Int × (Nat→Int)) a w,x6=.go zz→S6 zz a w→K4 a w:=by
  rintro ⟨out,x,Z⟩ a w rfl ⟨D,H,hf,hc⟩
  replace hF:=bW hF
  refine h4 _ _ ?_
  refine zS fun K h=>sp 2 hf rfl fun a hf=>zT h ?_
  refine wp_ret ?_
  obtain rfl:=sj hF
  replace hc:=hc.drop k1
  exact zO1 Tryz.results54 hf rfl ⟨D,H,rfl,hc⟩
 have ad:∀ r,x6=.out r→r=J:=by
  rintro r rfl
  exact sj hF
 refine dO N (dH (S:=S6) (x:=x6) ?_ N (([r]:List (Nat→Int)),0,r) _ _ ⟨(some ⟨y,0,none⟩),1,hf.kp rfl,hc⟩ z)
 clear hF hf hc
 rintro ⟨out,x,Z⟩ af a w KB6 ⟨D,H,hf,hc⟩ hF M v
 unfold fO at hF
 refine zS fun K h=>sp 1 hf rfl fun a hf=>zT h ?_
 refine wp_seq_k fun K9 h9=>zI hf rfl hF ?_ ?_ <;> clear hF <;> intro hF
 ·refine wp_skip ?_
  refine h9 _ _ ?_
  refine wp_seq_k fun K10 u=>wp_block ?_
  refine zS fun K h=>?_
  obtain ⟨R,j,hF⟩:=aB hF
  obtain ⟨ai,ac,g,m⟩:=qs.atm j
  refine zP hf rfl (pIA Tryz.underlying54 cA rfl rfl g) fun a hf=>zE hf hc rfl (jM (vs:=[i6 R.Lo,i6 R.Hi]) eA rfl rfl (cI m (n:=2) (o':=0) rfl)) fun a w hf hc=>zA hf hc kX rfl fun ab a w hf hc=>zW hf hc cA u0 rfl fun w hc=>zT h ?_
  refine zS fun K h=>sp 1 hf rfl fun a hf=>zN hf hc eA m0 rfl fun a w hf hc=>?_
  obtain ⟨B,k,hF⟩:=aB hF
  refine zC hf en_86 rfl (xG Z R (hc.pick k2) k) ?_
  rintro _ w ⟨rfl,hc⟩
  refine ⟨_,rfl,fun a hf=>?_⟩
  refine zT h ?_
  refine dE ?_
  refine sp 3 hf rfl fun a hf=>zE hf hc rfl (jM (vs:=(cH [] 601 aD B [])) aB7 rfl (cU _).1 (bO (n:=601) m0 (aB5 (cU _).1))) fun a w hf hc=>mY (rows:=([B]:List (Nat→Int)).map bA) (vs:=[(0,.agg (cH [] 601 aD B []).toArray)]) hf hc rfl rfl aIs rfl ⟨rfl,rfl,(cU _).1,trivial⟩ rfl rfl fun ag a w hf hc=>?_
  obtain ⟨un,s,hF⟩:=aB hF
  refine nT (xs:=out) (ys:=([B]:List (Nat→Int))) hf hc rfl rfl aIs rfl rfl rfl rfl rfl cU (iL hc m0) (fun _ _=>u3) (by simpa using eR s) fun q p a w hf hc=>sp 1 hf rfl fun a hf=>aP ?_
  refine u _ _ ?_
  refine dE ?_
  refine sp 2 hf rfl fun a hf=>aP ?_
  replace hc:=(((hc.drop k2).drop k0).pick k0).pick k1
  exact v ((out++[B]),W (x + 1),B) _ _ (sj hF).symm ⟨q,p,hf.kp rfl,hc⟩
 ·refine wp_exit ?_
  refine aV ?_
  refine aV ?_
  have he:=sj hF
  rw [← he] at M
  refine eW ?_
  exact t _ _ _ M ⟨D,H,hf.kp rfl,hc⟩

def dL (N:Nat) (D:List (Nat→Int)) (B:Int) (H:Int):Option (cY ((List (Nat→Int)) × Int × Int) ((List (Nat→Int)))) :=
 cond (decide (B < H))
 (Option.bind (bG D H) fun J=>
 Option.bind (bG D B) fun I=>
 Option.bind (bG D B) fun M=>
 Option.bind (bG D H) fun O=>
 some (.cont (((D.set B.toNat J).set H.toNat I),W (B + 1),W (H - 1))))
 (some (.brk (D,B,H)))
def bT (N:Nat) (s_:List (Nat→Int)):Option ((List (Nat→Int))) :=
 Option.bind (bE (fun s3=>dL N s3.1 s3.2.1 s3.2.2) N (s_,0,W (((s_.length:Nat):Int) - 1))) fun x3=>
 exK x3 (fun s3=>Option.bind (tS s3.1 s_) fun _=>
 some s3.1) some
theorem kJ {N:Nat} {G:aS} {Lf:List Ent} {w:World} (s_:List (Nat→Int)) {U:Option Addr} {B:Nat}  (hc:Ctx G (.row U B (s_.map bA) 77 601::Lf) w) {V:(List (Nat→Int))} (hF:bT N s_=some V):Calls Tryz.prog 55 #[.slice U s_.length B] w (fun e w=>e=.returned (.tuple #[])∧V.length=s_.length∧Ctx G (.row U B (V.map bA) 77 601::Lf) w):=by
 unfold bT at hF
 refine cB Tryz.func55 rfl Tryz.ntmps55 rfl fun a hf=>zS fun K h=>sp 1 hf rfl fun a hf=>zP hf rfl (bM Tryz.underlying72 rfl) fun a hf=>sp 3 hf rfl fun a hf=>zT h ?_
 refine mA fun K2 h2=>wp_block ?_
 obtain ⟨x3,ad,hF⟩:=aB hF
 let S3:((List (Nat→Int)) × Int × Int)→Act→World→Prop:=(fun (zz:(List (Nat→Int)) × Int × Int) a w=>Has 28 a [(0,.slice U zz.1.length B),(2,i6 zz.2.1),(3,i6 zz.2.2)]∧Ctx G (.row U B (zz.1.map bA) 77 601::Lf) w)
 have y:∀ (zz:(List (Nat→Int)) × Int × Int) a w,x3=.go zz→S3 zz a w→K2 a w:=by
  rintro ⟨I,J,M⟩ a w rfl ⟨hf,hc⟩
  replace hF:=bW hF
  refine h2 _ _ ?_
  obtain ⟨_,u,hF⟩:=uI hF
  obtain rfl:=sj hF
  exact wF (by simp) rfl Tryz.results55 hf ⟨rfl,u,hc⟩
 have am:∀ r,x3=.out r→r=V:=by
  rintro r rfl
  exact sj hF
 refine dO N (dH (S:=S3) (x:=x3) ?_ N (s_,0,W (((s_.length:Nat):Int) - 1)) _ _ ⟨hf.kp rfl,hc⟩ ad)
 clear hF hf hc
 rintro ⟨I,J,M⟩ ak a w KB3 ⟨hf,hc⟩ hF X ac
 unfold dL at hF
 refine wp_seq_k fun K4 h4=>zS fun K h=>sp 3 hf rfl fun a hf=>zT h ?_
 refine zI hf rfl hF ?_ ?_ <;> clear hF <;> intro hF
 ·refine wp_skip ?_
  refine h4 _ _ ?_
  refine wp_seq_k fun K6 h6=>wp_block ?_
  obtain ⟨O,t,hF⟩:=aB hF
  obtain ⟨g,rfl,qa,qr⟩:=gH hc m0 t
  obtain ⟨R,j,hF⟩:=aB hF
  obtain ⟨m,s⟩:=kD hc m0 j
  obtain ⟨ai,Y,hF⟩:=aB hF
  obtain ⟨q,af⟩:=kD hc m0 Y
  obtain ⟨aj,Z,hF⟩:=aB hF
  obtain ⟨p,ag⟩:=kD hc m0 Z
  refine fI (fun θ=>[⟨none,none,0,.slice (some ⟨g,0,none⟩) I.length B⟩,⟨none,none,2,i6 J⟩,⟨none,none,3,i6 M⟩,⟨some 0,none,14,.slice (some ⟨g,0,none⟩) I.length B⟩,⟨some 1,none,15,i6 J⟩,⟨some 2,none,16,.slice (some ⟨g,0,none⟩) I.length B⟩,⟨some 3,none,17,i6 M⟩,⟨some 4,none,18,.slice (some ⟨g,0,none⟩) I.length B⟩,⟨some 5,none,19,i6 M⟩,⟨some 6,none,20,.pointer (some ⟨g,M.toNat * 601,none⟩)⟩,⟨some 7,none,21,.agg (cH [] 601 aD O []).toArray⟩,⟨some 8,none,22,.slice (some ⟨g,0,none⟩) I.length B⟩,⟨some 9,none,23,i6 J⟩,⟨some 10,none,24,.pointer (some ⟨g,J.toNat * 601,none⟩)⟩,⟨some 11,none,25,.agg (cH [] 601 aD R []).toArray⟩,⟨some 12,none,26,.pointer (some ⟨g,J.toNat * 601,none⟩)⟩,⟨some 14,none,27,.pointer (some ⟨g,M.toNat * 601,none⟩)⟩]) (fun E θ=>(bif E 15 then .row (some ⟨g,0,none⟩) B (((I.set J.toNat O).set M.toNat R).map bA) 77 601 else bif E 13 then .row (some ⟨g,0,none⟩) B ((I.set J.toNat O).map bA) 77 601 else .row (some ⟨g,0,none⟩) B (I.map bA) 77 601)::Lf) [(13,6),(15,6),(13,7),(15,7),(11,10),(13,11),(15,10),(15,11),(13,12),(15,12),(15,13),(15,14)] (fun a w=>Has 28 a [(0,.slice (some ⟨g,0,none⟩) I.length B),(2,i6 J),(3,i6 M)]∧Ctx G (.row (some ⟨g,0,none⟩) B (((I.set J.toNat O).set M.toNat R).map bA) 77 601::Lf) w) aT (by kernel_rfl) (by kernel_rfl) (eZ.of hf ⟨rfl,rfl,rfl,trivial,trivial,trivial,trivial,trivial,trivial,trivial,trivial,trivial,trivial,trivial,trivial,trivial,trivial,trivial⟩) hc ⟨?_,?_,?_,?_,?_,?_,?_,?_,?_,?_,?_,?_,?_,?_,?_,?_,trivial⟩ ?_ ?_
  ·intro E θ a w hD hi hp he hc
   have hf:=he.h0.mT he 0 rfl
   refine sp 1 hf rfl fun a hf=>zD θ he hi hf 3 rfl rfl rfl hc
  ·intro E θ a w hD hi hp he hc
   have hf:=he.h0.mT he 1 rfl
   refine sp 1 hf rfl fun a hf=>zD θ he hi hf 4 rfl rfl rfl hc
  ·intro E θ a w hD hi hp he hc
   have hf:=he.h0.mT he 0 rfl
   refine sp 1 hf rfl fun a hf=>zD θ he hi hf 5 rfl rfl rfl hc
  ·intro E θ a w hD hi hp he hc
   have hf:=he.h0.mT he 2 rfl
   refine sp 1 hf rfl fun a hf=>zD θ he hi hf 6 rfl rfl rfl hc
  ·intro E θ a w hD hi hp he hc
   have hf:=he.h0.mT he 0 rfl
   refine sp 1 hf rfl fun a hf=>zD θ he hi hf 7 rfl rfl rfl hc
  ·intro E θ a w hD hi hp he hc
   have hf:=he.h0.mT he 2 rfl
   refine sp 1 hf rfl fun a hf=>zD θ he hi hf 8 rfl rfl rfl hc
  ·intro E θ a w hD hi hp he hc
   have e4:=hp.o 4 rfl
   have e5:=hp.o 5 rfl
   have D:=hD.f 0 rfl hi
   have H:=hD.f 1 rfl hi
   try dsimp only at hc
   rw [D,H] at hc
   have hf:=(he.h0.mP he 7 rfl e4).mP he 8 rfl e5
   refine zP hf rfl (pIA Tryz.underlying72 rE rfl rfl qa) fun a hf=>zD θ he hi hf 9 rfl rfl rfl ?_
   try dsimp only
   rw [aQ 6 D rfl,aQ 6 H rfl]
   exact hc
  ·intro E θ a w hD hi hp he hc
   have e6:=hp.o 6 rfl
   have D:=hD.f 2 rfl hi
   have H:=hD.f 3 rfl hi
   try dsimp only at hc
   rw [D,H] at hc
   have hf:=he.h0.mP he 9 rfl e6
   refine zE hf hc rfl (jM (vs:=(cH [] 601 aD O [])) aB7 rfl (cU _).1 (qJ (sz:=601) (i:=M.toNat) m0 qr (n:=601) (o':=0) (aB5 (cU _).1))) fun a w hf hc=>zD θ he hi hf 10 rfl rfl rfl ?_
   try dsimp only
   rw [aQ 7 D rfl,aQ 7 H rfl]
   exact hc
  ·intro E θ a w hD hi hp he hc
   have hf:=he.h0.mT he 0 rfl
   refine sp 1 hf rfl fun a hf=>zD θ he hi hf 11 rfl rfl rfl hc
  ·intro E θ a w hD hi hp he hc
   have hf:=he.h0.mT he 1 rfl
   refine sp 1 hf rfl fun a hf=>zD θ he hi hf 12 rfl rfl rfl hc
  ·intro E θ a w hD hi hp he hc
   have e8:=hp.o 8 rfl
   have e9:=hp.o 9 rfl
   have d:=hD.f 4 rfl hi
   have D:=hD.f 5 rfl d
   have H:=hD.f 6 rfl hi
   try dsimp only at hc
   rw [D,H] at hc
   have hf:=(he.h0.mP he 11 rfl e8).mP he 12 rfl e9
   refine zP hf rfl (pIA Tryz.underlying72 rE rfl rfl m) fun a hf=>zD θ he hi hf 13 rfl rfl rfl ?_
   try dsimp only
   rw [aQ 10 D rfl,aQ 10 H rfl]
   exact hc
  ·intro E θ a w hD hi hp he hc
   have v:=hp.o 10 rfl
   have D:=hD.f 5 rfl hi
   have H:=hD.f 7 rfl hi
   try dsimp only at hc
   rw [D,H] at hc
   have hf:=he.h0.mP he 13 rfl v
   refine zE hf hc rfl (jM (vs:=(cH [] 601 aD R [])) aB7 rfl (cU _).1 (qJ (sz:=601) (i:=J.toNat) m0 s (n:=601) (o':=0) (aB5 (cU _).1))) fun a w hf hc=>zD θ he hi hf 14 rfl rfl rfl ?_
   try dsimp only
   rw [aQ 11 D rfl,aQ 11 H rfl]
   exact hc
  ·intro E θ a w hD hi hp he hc
   have e0:=hp.o 0 rfl
   have e1:=hp.o 1 rfl
   have D:=hD.f 8 rfl hi
   have H:=hD.f 9 rfl hi
   try dsimp only at hc
   rw [D,H] at hc
   have hf:=(he.h0.mP he 3 rfl e0).mP he 4 rfl e1
   refine zP hf rfl (pIA Tryz.underlying72 rE rfl rfl q) fun a hf=>zD θ he hi hf 15 rfl rfl rfl ?_
   try dsimp only
   rw [aQ 12 D rfl,aQ 12 H rfl]
   exact hc
  ·intro E θ a w hD hi hp he hc
   have e7:=hp.o 7 rfl
   have ab:=hp.o 12 rfl
   have H:=hD.f 10 rfl hi
   try dsimp only at hc
   rw [hi,H] at hc
   have hf:=(he.h0.mP he 10 rfl e7).mP he 15 rfl ab
   refine aKs (enc:=bA) (z:=O) (xs:=I) hf hc rfl rfl rfl cU rE (tK Y) u0 fun w hc=>zG θ he hi hf rfl ?_
   try dsimp only
   rw [aR E 13,aQ 13 H rfl]
   exact hc
  ·intro E θ a w hD hi hp he hc
   have e2:=hp.o 2 rfl
   have e3:=hp.o 3 rfl
   have D:=hp.o 13 rfl
   have H:=hD.f 11 rfl hi
   try dsimp only at hc
   rw [D,H] at hc
   have hf:=(he.h0.mP he 5 rfl e2).mP he 6 rfl e3
   refine zP hf rfl (pIA Tryz.underlying72 rE rfl rfl p) fun a hf=>zD θ he hi hf 16 rfl rfl rfl ?_
   try dsimp only
   rw [cV 14 D,aQ 14 H rfl]
   exact hc
  ·intro E θ a w hD hi hp he hc
   have d:=hp.o 11 rfl
   have aa:=hp.o 14 rfl
   have D:=hp.o 13 rfl
   try dsimp only at hc
   rw [D,hi] at hc
   have hf:=(he.h0.mP he 14 rfl d).mP he 16 rfl aa
   refine aKs (enc:=bA) (z:=R) (xs:=(I.set J.toNat O)) hf hc rfl rfl rfl cU rE (by simpa using tK Z) u0 fun w hc=>zG θ he hi hf rfl ?_
   try dsimp only
   rw [cV 15 D,aR E 15]
   exact hc
  ·intro E θ a w b he hc
   have hf:=he.h0
   have D:=b 13 rfl
   have H:=b 15 rfl
   replace hf:=hf.more he 2 rfl (onT)
   replace hf:=hf.more he 1 rfl (onT)
   replace hf:=hf.more he 0 rfl (onT)
   try dsimp only at hc
   rw [D,H] at hc
   exact ⟨hf.kp rfl,hc⟩
  rintro a w ⟨hf,hc⟩
  refine h6 _ _ ?_
  refine dE ?_
  refine sp 6 hf rfl fun a hf=>aP ?_
  replace hf:=hf.castAt 0 (v':=.slice (some ⟨g,0,none⟩) (((I.set J.toNat O).set M.toNat R).length) B) rfl (congrArg (fun k=>Value.slice (some ⟨g,0,none⟩) k B) (by simp))
  exact ac (((I.set J.toNat O).set M.toNat R),W (J + 1),W (M - 1)) _ _ (sj hF).symm ⟨hf.kp rfl,hc⟩
 ·refine wp_exit ?_
  refine aV ?_
  refine aV ?_
  have he:=sj hF
  rw [← he] at X
  refine eW ?_
  exact y _ _ _ X ⟨hf.kp rfl,hc⟩

def kG (N:Nat) (l:List aA):Option ((List (Nat→Int))) :=
 Option.bind (bJ N l) fun r=>
 Option.bind (cJ N r) fun B=>
 Option.bind (jY N B) fun H=>
 Option.bind (bT N H) fun D=>
 some D
theorem tQ {N:Nat} {G:aS} {Lf:List Ent} {w:World} (l:List aA) {J:Option Addr} {H:Nat} (d:Rd G 2 J H (l.map aC)) (hc:Ctx G (Lf) w) {B:(List (Nat→Int))} (hF:kG N l=some B):Calls Tryz.prog 21 #[.slice J l.length H] w (fun e w=>∃ (I:Option Addr) (M:Nat),e=.returned (.slice I B.length M)∧Ctx G (.row I M (B.map bA) 77 601::Lf) w):=by
 unfold kG at hF
 refine cB Tryz.func21 rfl Tryz.ntmps21 rfl fun a hf=>zS fun K h=>sp 1 hf rfl fun a hf=>zT h ?_
 refine zS fun K h=>sp 1 hf rfl fun a hf=>?_
 obtain ⟨r,hr,hF⟩:=aB hF
 refine zC hf aK8 rfl (iD l d hc hr) ?_
 rintro _ w ⟨i,k,rfl,hc⟩
 refine ⟨_,rfl,fun a hf=>?_⟩
 refine sp 1 hf rfl fun a hf=>zT h ?_
 refine zS fun K h=>sp 1 hf rfl fun a hf=>?_
 obtain ⟨X,R,hF⟩:=aB hF
 refine zC hf en_53 rfl (lP r (hc.pick k0) R) ?_
 rintro _ w ⟨rfl,hl,hc⟩
 refine ⟨_,rfl,fun a hf=>?_⟩
 try rw [← hl] at hf
 try rw [← hl] at hc
 refine zT h ?_
 refine zS fun K h=>sp 1 hf rfl fun a hf=>?_
 obtain ⟨b,S,hF⟩:=aB hF
 obtain ⟨G1,g,V,hc,O⟩:=lend hc k0
 refine zC hf aKt rfl (rC X V hc S) ?_
 rintro _ w ⟨Z,Y,rfl,hc⟩
 refine ⟨_,rfl,fun a hf=>?_⟩
 replace hc:=O _ _ hc
 refine sp 1 hf rfl fun a hf=>zT h ?_
 refine zS fun K h=>sp 1 hf rfl fun a hf=>?_
 obtain ⟨j,U,hF⟩:=aB hF
 refine zC hf en_55 rfl (kJ b (hc.pick k1) U) ?_
 rintro _ w ⟨rfl,D,hc⟩
 refine ⟨_,rfl,fun a hf=>?_⟩
 try rw [← D] at hf
 try rw [← D] at hc
 refine zT h ?_
 refine zS fun K h=>sp 2 hf rfl fun a hf=>zT h ?_
 refine wp_ret ?_
 obtain rfl:=sj hF
 replace hc:=hc.drop k1
 exact zO1 Tryz.results21 hf rfl ⟨Z,Y,rfl,hc⟩

def dM (N:Nat) (x:List Int) (m:Int) (B:Int):Option (cY (Int × Int) (Int)) :=
 cond (decide (B < ((x.length:Nat):Int)))
 (Option.bind (bG x B) fun D=>
 some (.cont (min m D,W (B + 1))))
 (some (.brk (m,B)))
def gV (N:Nat) (x:List Int):Option (Int) :=
 cond (decide (((x.length:Nat):Int) < 1))
 (none)
 (Option.bind (bG x 0) fun B=>
 Option.bind (bE (fun s7=>dM N x s7.1 s7.2) N (B,1)) fun x7=>
 exK x7 (fun s7=>some s7.1) some)
theorem tC {N:Nat} {G:aS} {Lf:List Ent} {w:World} (x:List Int) {H:Option Addr} {I:Nat} (M:Rd G 1 H I (x.map aD)) (hc:Ctx G (Lf) w) {D:Int} (hF:gV N x=some D):Calls Tryz.prog 22 #[.slice H x.length I] w (fun e w=>e=.returned (i6 D)∧Ctx G (Lf) w):=by
 unfold gV at hF
 refine cB Tryz.func22 rfl Tryz.ntmps22 rfl fun a hf=>zS fun K h=>sp 1 hf rfl fun a hf=>zT h ?_
 refine wp_seq_k fun K2 h2=>zS fun K h=>sp 1 hf rfl fun a hf=>zP hf rfl (bM Tryz.underlying27 rfl) fun a hf=>sp 1 hf rfl fun a hf=>zT h ?_
 refine zI hf rfl hF ?_ ?_ <;> clear hF <;> intro hF
 ·exact wX hF
 ·refine wp_skip ?_
  refine h2 _ _ ?_
  refine zS fun K h=>sp 1 hf rfl fun a hf=>?_
  obtain ⟨X,R,hF⟩:=aB hF
  obtain ⟨p,o,qa,qp⟩:=M.atm R
  refine zP hf rfl (pIA Tryz.underlying27 eL rfl rfl qa) fun a hf=>zE hf hc rfl (cE aU rfl (dX (j:=0) qp rfl)) fun a w hf hc=>sp 1 hf rfl fun a hf=>zT h ?_
  refine wp_seq_k fun K5 h5=>zS fun K h=>sp 1 hf rfl fun a hf=>zT h ?_
  refine wp_block ?_
  obtain ⟨x7,g,hF⟩:=aB hF
  let S7:(Int × Int)→Act→World→Prop:=(fun (zz:Int × Int) a w=>Has 25 a [(0,.slice H x.length I),(3,i6 zz.1),(4,i6 zz.2)]∧Ctx G (Lf) w)
  have b:∀ (zz:Int × Int) a w,x7=.go zz→S7 zz a w→K5 a w:=by
   rintro ⟨m,J⟩ a w rfl ⟨hf,hc⟩
   replace hF:=bW hF
   refine h5 _ _ ?_
   refine zS fun K h=>sp 2 hf rfl fun a hf=>zT h ?_
   refine wp_ret ?_
   obtain rfl:=sj hF
   exact zO1 Tryz.results22 hf rfl ⟨rfl,hc⟩
  have n:∀ r,x7=.out r→r=D:=by
   rintro r rfl
   exact sj hF
  refine dO N (dH (S:=S7) (x:=x7) ?_ N (X,1) _ _ ⟨hf.kp rfl,hc⟩ g)
  clear hF hf hc
  rintro ⟨m,J⟩ i a w KB7 ⟨hf,hc⟩ hF B Y
  unfold dM at hF
  refine wp_seq_k fun K9 h9=>zS fun K h=>sp 2 hf rfl fun a hf=>zP hf rfl (bM Tryz.underlying27 rfl) fun a hf=>sp 1 hf rfl fun a hf=>zT h ?_
  refine zI hf rfl hF ?_ ?_ <;> clear hF <;> intro hF
  ·refine wp_skip ?_
   refine h9 _ _ ?_
   refine wp_seq_k fun K11 d=>wp_block ?_
   refine dE ?_
   refine sp 3 hf rfl fun a hf=>?_
   obtain ⟨Z,U,hF⟩:=aB hF
   obtain ⟨q,k,O,V⟩:=M.atm U
   refine zP hf rfl (pIA Tryz.underlying27 eL rfl rfl O) fun a hf=>zE hf hc rfl (cE aU rfl (dX (j:=0) V rfl)) fun a w hf hc=>zP hf rfl (zO rfl rfl) fun a hf=>sp 1 hf rfl fun a hf=>aP ?_
   refine d _ _ ?_
   refine dE ?_
   refine sp 3 hf rfl fun a hf=>aP ?_
   exact Y (min m Z,W (J + 1)) _ _ (sj hF).symm ⟨hf.kp rfl,hc⟩
  ·refine wp_exit ?_
   refine aV ?_
   refine aV ?_
   have he:=sj hF
   rw [← he] at B
   refine eW ?_
   exact b _ _ _ B ⟨hf.kp rfl,hc⟩

def nD (N:Nat) (l:List Int) (B:Int) (x:Int):Option (cY (Int × Int) (Int)) :=
 cond (decide (x < ((l.length:Nat):Int)))
 (Option.bind (bG l x) fun D=>
 some (.cont (max B D,W (x + 1))))
 (some (.brk (B,x)))
def nF (N:Nat) (first:Int) (l:List Int):Option (Int) :=
 Option.bind (bE (fun s4=>nD N l s4.1 s4.2) N (first,0)) fun x4=>
 exK x4 (fun s4=>some s4.1) some
theorem xA {N:Nat} {G:aS} {Lf:List Ent} {w:World} (first:Int) (l:List Int) {J:Option Addr} {H:Nat} (V:Rd G 1 J H (l.map aD)) (hc:Ctx G (Lf) w) {I:Int} (hF:nF N first l=some I):Calls Tryz.prog 57 #[i6 first,.slice J l.length H] w (fun e w=>e=.returned (i6 I)∧Ctx G (Lf) w):=by
 unfold nF at hF
 refine cB Tryz.func57 rfl Tryz.ntmps57 rfl fun a hf=>zS fun K h=>sp 1 hf rfl fun a hf=>zT h ?_
 refine wp_seq_k fun K2 h2=>zS fun K h=>sp 1 hf rfl fun a hf=>zP hf rfl (bM Tryz.underlying27 rfl) fun a hf=>sp 1 hf rfl fun a hf=>zT h ?_
 refine wp_block ?_
 obtain ⟨x4,R,hF⟩:=aB hF
 let S4:(Int × Int)→Act→World→Prop:=(fun (zz:Int × Int) a w=>Has 18 a [(0,i6 zz.1),(7,.slice J l.length H),(8,i6 ((l.length:Nat):Int)),(9,i6 zz.2)]∧Ctx G (Lf) w)
 have U:∀ (zz:Int × Int) a w,x4=.go zz→S4 zz a w→K2 a w:=by
  rintro ⟨B,x⟩ a w rfl ⟨hf,hc⟩
  replace hF:=bW hF
  refine h2 _ _ ?_
  refine zS fun K h=>sp 2 hf rfl fun a hf=>zT h ?_
  refine wp_ret ?_
  obtain rfl:=sj hF
  exact zO1 Tryz.results57 hf rfl ⟨rfl,hc⟩
 have b:∀ r,x4=.out r→r=I:=by
  rintro r rfl
  exact sj hF
 refine dO N (dH (S:=S4) (x:=x4) ?_ N (first,0) _ _ ⟨hf.kp rfl,hc⟩ R)
 clear hF hf hc
 rintro ⟨B,x⟩ Y a w KB4 ⟨hf,hc⟩ hF D X
 unfold nD at hF
 refine zS fun K h=>sp 1 hf rfl fun a hf=>zT h ?_
 refine wp_seq_k fun K7 h7=>zI hf rfl hF ?_ ?_ <;> clear hF <;> intro hF
 ·refine wp_skip ?_
  refine h7 _ _ ?_
  refine wp_seq_k fun K8 h8=>wp_block ?_
  refine zS fun K h=>?_
  obtain ⟨O,M,hF⟩:=aB hF
  obtain ⟨Z,o,qa,qp⟩:=V.atm M
  refine zP hf rfl (pIA Tryz.underlying27 eL rfl rfl qa) fun a hf=>zE hf hc rfl (cE aU rfl (dX (j:=0) qp rfl)) fun a w hf hc=>sp 1 hf rfl fun a hf=>zT h ?_
  refine dE ?_
  refine sp 2 hf rfl fun a hf=>zP hf rfl (xH rfl rfl) fun a hf=>sp 1 hf rfl fun a hf=>aP ?_
  refine h8 _ _ ?_
  refine dE ?_
  refine sp 2 hf rfl fun a hf=>aP ?_
  exact X (max B O,W (x + 1)) _ _ (sj hF).symm ⟨hf.kp rfl,hc⟩
 ·refine wp_exit ?_
  refine aV ?_
  refine aV ?_
  have he:=sj hF
  rw [← he] at D
  refine eW ?_
  exact U _ _ _ D ⟨hf.kp rfl,hc⟩

def mN (N:Nat) (a_:Int) (b_:Int):Option (Int) :=
 Option.bind (nF N (W (a_ - b_)) ([W (b_ - a_)]:List Int)) fun r=>
 some r
theorem uS {N:Nat} {G:aS} {Lf:List Ent} {w:World} (a_:Int) (b_:Int)   (hc:Ctx G (Lf) w) {B:Int} (hF:mN N a_ b_=some B):Calls Tryz.prog 24 #[i6 a_,i6 b_] w (fun e w=>e=.returned (i6 B)∧Ctx G (Lf) w):=by
 unfold mN at hF
 refine cB Tryz.func24 rfl Tryz.ntmps24 rfl fun a hf=>zS fun K h=>sp 1 hf rfl fun a hf=>zT h ?_
 refine zS fun K h=>sp 6 hf rfl fun a hf=>mY (rows:=([W (b_ - a_)]:List Int).map aD) (vs:=[(0,i6 (W (b_ - a_)))]) hf hc rfl rfl lD rfl ⟨rfl,rfl,rfl,trivial⟩ rfl rfl fun J a w hf hc=>?_
 obtain ⟨r,hr,hF⟩:=aB hF
 refine zQ (v:=i6 r) hf hc en_57 rfl (fun w hc=>by obtain ⟨G1,I,H,hc,D⟩:=lend hc k0; exact (xA (W (a_ - b_)) ([W (b_ - a_)]:List Int) H hc hr).mono fun e w h=>⟨h.1,((D _ _ h.2).unpick k0)⟩) fun a w hf hc=>sp 1 hf rfl fun a hf=>zT h ?_
 refine wp_ret ?_
 obtain rfl:=sj hF
 replace hc:=hc.drop k0
 exact zO1 Tryz.results24 hf rfl ⟨rfl,hc⟩

def iR (N:Nat) (B:Nat→Int) (I:Int) (H:List Int) (xv:Int) (D:Int) (J:Int):Option (Rs (Int × (List Int))) :=
 Option.bind (Option.bind (inR xv 601) fun un=>
 cond ((B xv.toNat) != 1073741824)
 (some ((W (J + (B xv.toNat))) == I))
 (some false)) fun rg=>
 cond rg
 (Option.bind (pG ((H++[D])).length) fun O=>
 Option.bind (inR xv 601) fun M=>
 some (.brk ((B xv.toNat),(H++[D]))))
 (some (.go (I,H)))
def eV (N:Nat) (x:Int) (H:Nat→Int) (I:Int) (D:List Int) (xv:Int) (B:Int):Option (Rs (Int × (List Int))) :=
 cond (decide (0 < x))
 (Option.bind (bG D (W (x - 1))) fun J=>
 Option.bind (mN N B J) fun M=>
 iR N H I D xv B M)
 (iR N H I D xv B 0)
def gQ (N:Nat) (D:(List (Nat→Int))) (x:Int) (H:Int) (J:List Int):Option (cY (Int × Int × (List Int)) ((List Int) × Int × Int)) :=
 cond (decide (x < ((D.length:Nat):Int)))
 (Option.bind (bG D x) fun O=>
 Option.bind (cN N (rY (fun (zz:Int × (List Int)) (I:(Int × Int))=>eV N x O zz.1 zz.2 I.1 I.2)) (.go (H,J))) fun M=>
 rsK M (fun B=>some (.cont (W (x + 1),B.1,B.2))) (fun B=>none))
 (some (.brk (x,H,J)))
def mO (N:Nat) (r:aH):Option ((List Int) × Int × Int) :=
 Option.bind (gK N r) (yA (fun J=>cond (J != 0)
 (some (([]:List Int),0,J))
 (none))
 (fun D=>cond (D.2 != 0)
 (some (([]:List Int),0,D.2))
 (Option.bind (kG N D.1) fun I=>
 Option.bind (bG I 0) fun M=>
 Option.bind (qX (aL 601 M) 0 ((601:Nat):Int)) fun sub=>
 Option.bind (gV N sub) fun H=>
 Option.bind (bE (fun B=>gQ N I B.1 B.2.1 B.2.2) N (0,H,([]:List Int))) fun O=>
 exK O (fun B=>some (B.2.2,H,0)) some)))
theorem aAt {N:Nat} {G:aS} {Lf:List Ent} {w:World} (r:aH) {aa:Option Addr} {y:Nat} {m:Option Addr} {k:Nat} (ai:Rd G 2 aa y (r.Rating.map aW)) (ac:Rd G 4 m k (r.Gaugings.map aX)) (hc:Ctx G (Lf) w) {an:(List Int) × Int × Int} (hF:mO N r=some an):Calls Tryz.prog 6 #[.agg #[.slice aa r.Rating.length y,.slice m r.Gaugings.length k]] w (fun e w=>∃ (bd:Option Addr) (bg:Nat),e=.returned (.tuple #[.slice bd an.1.length bg,i6 an.2.1,i6 an.2.2])∧Ctx G (.row bd bg (an.1.map aD) 3 1::Lf) w):=by
 unfold mO at hF
 refine aCr Tryz.func6 rfl Tryz.ntmps6 rfl fun a hf=>zS fun K h=>zB hf hc rfl fun cg a w hf hc=>sp 3 hf rfl fun a hf=>zT h ?_
 refine zS fun K h=>zN hf hc vY m0 rfl fun a w hf hc=>?_
 obtain ⟨bb,a4,hF⟩:=aB hF
 cases bb with
 | inl bb=>
  replace hF:=yX hF
  refine zC hf aCk rfl (iT r ai ac hc a4) ?_
  rintro _ w ⟨rfl,hc⟩
  refine ⟨_,rfl,fun a hf=>?_⟩
  refine sp 5 hf rfl fun a hf=>zT h ?_
  refine wp_seq_k fun K3 h3=>zS fun K h=>sp 2 hf rfl fun a hf=>zT h ?_
  refine zI hf rfl hF ?_ ?_ <;> clear hF <;> intro hF
  ·refine zS fun K h=>sp 4 hf rfl fun a hf=>zT h ?_
   refine wp_ret ?_
   refine aO ?_
   obtain rfl:=sj hF
   replace hc:=hc.nilRow 3 1
   replace hc:=hc.drop k1
   refine aA3 hf ?_
   exact aD0 Tryz.results6 hf hc (show dG _ 2=_ from rfl) (show dG _ 3=_ from rfl) (show dG _ 4=_ from rfl) ⟨none,0,rfl,hc⟩
  ·refine wp_skip ?_
   refine h3 _ _ ?_
   refine wp_seq_k fun K6 h6=>wX hF
 | inr az=>
  replace hF:=yU hF
  have bu:=a4
  refine zC hf aCk rfl (iT r ai ac hc bu) ?_
  rintro _ w ⟨cb,bk,bj,rfl,hc⟩
  refine ⟨_,rfl,fun a hf=>?_⟩
  refine sp 5 hf rfl fun a hf=>zT h ?_
  refine wp_seq_k fun K7 h7=>zS fun K h=>sp 2 hf rfl fun a hf=>zT h ?_
  refine zI hf rfl hF ?_ ?_ <;> clear hF <;> intro hF
  ·refine zS fun K h=>sp 4 hf rfl fun a hf=>zT h ?_
   refine wp_ret ?_
   refine aO ?_
   obtain rfl:=sj hF
   replace hc:=hc.nilRow 3 1
   replace hc:=((hc.drop k3).drop k2).drop k1
   refine aA3 hf ?_
   exact aD0 Tryz.results6 hf hc (show dG _ 2=_ from rfl) (show dG _ 3=_ from rfl) (show dG _ 4=_ from rfl) ⟨none,0,rfl,hc⟩
  ·refine wp_skip ?_
   refine h7 _ _ ?_
   refine zS fun K h=>sp 2 hf rfl fun a hf=>zP hf rfl (pFA xL rfl) fun a hf=>zL hf hc oW m1 rfl fun a w hf hc=>?_
   obtain ⟨D,b3,hF⟩:=aB hF
   obtain ⟨G1,bv,ar,hc,au⟩:=lend hc k0
   refine zC hf aKh rfl (tQ az.1 ar hc b3) ?_
   rintro _ w ⟨cy,R,rfl,hc⟩
   refine ⟨_,rfl,fun a hf=>?_⟩
   replace hc:=au _ _ hc
   refine sp 1 hf rfl fun a hf=>zT h ?_
   refine zS fun K h=>sp 1 hf rfl fun a hf=>?_
   obtain ⟨b5,a7,hF⟩:=aB hF
   obtain ⟨g,rfl,qa,qr⟩:=gH hc m1 a7
   refine zP hf rfl (pIA Tryz.underlying72 rE rfl rfl qa) fun a hf=>?_
   obtain ⟨sub,a6,hF⟩:=aB hF
   refine zP hf rfl (pSlA (xs:=(aL 601 b5)) Tryz.underlying77 eL rfl wG rfl rfl a6) fun a hf=>?_
   obtain ⟨ab,b2,hF⟩:=aB hF
   refine zQ (v:=i6 ab) hf hc en_22 rfl (fun w hc=>by obtain ⟨G1,bv,ar,hc,au⟩:=lend hc k1; exact (tC sub (Rd.sub (aJu ar (by decide) (fun x=>(bD x).1) rfl a7) a6) hc b2).mono fun e w h=>⟨h.1,((au _ _ h.2).unpick k1)⟩) fun a w hf hc=>sp 1 hf rfl fun a hf=>zT h ?_
   refine zS fun K h=>sp 1 hf rfl fun a hf=>zA hf hc aAr rfl fun O a w hf hc=>zW hf hc eL u0 rfl fun w hc=>zT h ?_
   refine zS fun K h=>zA hf hc zr_27 rfl fun I a w hf hc=>zT h ?_
   refine wp_seq_k fun K14 cq=>zS fun K h=>sp 1 hf rfl fun a hf=>zP hf rfl (bM Tryz.underlying72 rfl) fun a hf=>sp 1 hf rfl fun a hf=>zT h ?_
   refine wp_block ?_
   obtain ⟨a9,bp,hF⟩:=aB hF
   let S16:(Int × Int × (List Int))→Act→World→Prop:=(fun (zz:Int × Int × (List Int)) a w=>∃ (ad:Option Addr) (af:Nat) (Ds:List Nat),Has ⟨76,lY Ds⟩ a [(8,i6 ab),(9,pq O),(10,pq I),(34,.slice (some ⟨g,0,none⟩) D.length R),(35,i6 ((D.length:Nat):Int)),(36,i6 zz.1)]∧Ctx G (.row ad af (zz.2.2.map aD) 3 1::.box I [.slice ad zz.2.2.length af] 27::.box O [i6 zz.2.1] 3::.row (some ⟨g,0,none⟩) R (D.map bA) 77 601::(oH Ds++Lf)) w)
   have bq:∀ (zz:Int × Int × (List Int)) a w,a9=.go zz→S16 zz a w→K14 a w:=by
    rintro ⟨x,a8,am⟩ a w rfl ⟨ad,af,Ds,hf,hc⟩
    replace hF:=bW hF
    refine cq _ _ ?_
    refine zS fun K h=>zL hf hc aIx m1 rfl fun a w hf hc=>sp 4 hf rfl fun a hf=>zT h ?_
    refine wp_ret ?_
    obtain rfl:=sj hF
    replace hc:=((hc.drop k3).drop k2).drop k1
    refine aA3 hf ?_
    refine zJ [.row ad af (am.map aD) 3 1] Ds hc fun w hc=>?_
    replace hc:Ctx G (.row ad af (am.map aD) 3 1::Lf) w:=hc
    exact aD0 Tryz.results6 hf hc (show dG _ 2=_ from rfl) (show dG _ 3=_ from rfl) (show dG _ 4=_ from rfl) ⟨ad,af,rfl,hc⟩
   have cv:∀ r,a9=.out r→r=an:=by
    rintro r rfl
    exact sj hF
   replace hf:=aHz hf
   replace hc:Ctx G (.box I [.slice none 0 0] 27::.box O [i6 ab] 3::.row bk bj (az.1.map aC) 41 2::.row (some ⟨g,0,none⟩) R (D.map bA) 77 601::.box cb [.slice aa r.Rating.length y,.slice m r.Gaugings.length k,.slice bk az.1.length bj] 75::.box cg [.slice aa r.Rating.length y,.slice m r.Gaugings.length k] 26::(oH []++Lf)) w:=hc
   replace hc:=hc.nilRow 3 1
   replace hc:=((hc.drop k6).drop k5).drop k3
   refine dO N (dH (S:=S16) (x:=a9) ?_ N (0,ab,([]:List Int)) _ _ ⟨none,0,[],hf.kp rfl,hc⟩ bp)
   clear hF hf hc
   rintro ⟨x,a8,am⟩ a0 a w KB16 ⟨ad,af,Ds,hf,hc⟩ hF aq bt
   unfold gQ at hF
   refine zS fun K h=>sp 1 hf rfl fun a hf=>zT h ?_
   refine wp_seq_k fun K19 cj=>zI hf rfl hF ?_ ?_ <;> clear hF <;> intro hF
   ·refine wp_skip ?_
    refine cj _ _ ?_
    refine wp_seq_k fun K20 ck=>wp_block ?_
    refine zS fun K h=>sp 1 hf rfl fun a hf=>?_
    obtain ⟨H,bn,hF⟩:=aB hF
    obtain ⟨bs,b0⟩:=kD hc m3 bn
    refine zP hf rfl (pIA Tryz.underlying72 rE rfl rfl bs) fun a hf=>zE hf hc rfl (jM (vs:=(cH [] 601 aD H [])) aB7 rfl (cU _).1 (qJ (sz:=601) (i:=x.toNat) m3 b0 (n:=601) (o':=0) (aB5 (cU _).1))) fun a w hf hc=>zA hf hc aAr rfl fun Y a w hf hc=>aI3 (cs:=(cH [] 601 aD (fun _=>0) [])) hf hc rfl rfl aIw rfl fun M a w hf hc=>zW hf hc eL u1 rfl fun w hc=>aKm (enc:=bA) (f:=(fun _=>0)) (z:=H) hf hc rfl rfl rfl cU rE u0 fun w hc=>zT h ?_
    refine zS fun K h=>zQ (v:=.func (.func 56) #[] #[]) hf hc aDi rfl (fun w hc=>kR hc rfl) fun a w hf hc=>zT h ?_
    obtain ⟨cc,b4,hF⟩:=aB hF
    refine aBf (C:=[]) (C2:=[]) (L0:=[.box M (cH [] 601 aD H []) 77,.box Y [i6 x] 3,.row ad af (am.map aD) 3 1,.box I [.slice ad am.length af] 27,.box O [i6 a8] 3,.row (some ⟨g,0,none⟩) R (D.map bA) 77 601]) (Lf:=(oH Ds++Lf)) (encs:=fun x:(Int × Int)=>[i6 x.1,i6 x.2]) (fun (zz:Int × (List Int)) L=>∃ (d:Option Addr) (Z:Nat),L=[.box M (cH [] 601 aD H []) 77,.box Y [i6 x] 3,.row d Z (zz.2.map aD) 3 1,.box I [.slice d zz.2.length Z] 27,.box O [i6 zz.1] 3,.row (some ⟨g,0,none⟩) R (D.map bA) 77 601]) (fun (zz:Int × (List Int)) (bi:(Int × Int))=>eV N x H zz.1 zz.2 bi.1 bi.2) (a8,am) cc hf hc rfl aDd (fun _=>rfl) rfl ⟨ad,af,rfl⟩ ?_ ?_ ?_ ?_
    ·intro lq mq J L Lx w hy hJ hc
     exact iZ  J _ hy _ hJ hc b4
    ·clear hF hf hc
     rintro lq mq ⟨X,B⟩ ⟨xv,U⟩ oq _ Lr Lb a w cx ⟨d,Z,rfl⟩ hF hf hc hK
     replace hf:Has 76 a [(8,i6 ab),(9,pq O),(10,pq I),(11,pq Y),(12,pq M),(34,.slice (some ⟨g,0,none⟩) D.length R),(35,i6 ((D.length:Nat):Int)),(36,i6 x),(42,i6 xv),(43,i6 U)]:=hf.kp rfl
     replace hc:Ctx G (.box M (cH [] 601 aD H []) 77::.box Y [i6 x] 3::.row d Z (B.map aD) 3 1::.box I [.slice d B.length Z] 27::.box O [i6 X] 3::.row (some ⟨g,0,none⟩) R (D.map bA) 77 601::Lr) w:=hc
     replace hF:eV N x H X B xv U=some oq:=hF
     unfold eV at hF
     refine sX fun K24 b7=>oE (fun _ _ h=>h) rfl ?_
     refine sp 1 hf rfl fun a hf=>aP ?_
     refine b7 _ _ ?_
     refine oE (fun _ _ h=>h) rfl ?_
     refine sp 1 hf rfl fun a hf=>aP ?_
     refine hK _ _ [.box M (cH [] 601 aD H []) 77,.box Y [i6 x] 3,.row d Z (B.map aD) 3 1,.box I [.slice d B.length Z] 27,.box O [i6 X] 3,.row (some ⟨g,0,none⟩) R (D.map bA) 77 601] hc fun w hc=>?_
     replace hc:Ctx G (.box M (cH [] 601 aD H []) 77::.box Y [i6 x] 3::.row d Z (B.map aD) 3 1::.box I [.slice d B.length Z] 27::.box O [i6 X] 3::.row (some ⟨g,0,none⟩) R (D.map bA) 77 601::Lb) w:=hc
     refine wR fun K25 b8=>wE ?_
     refine sX fun K26 b9=>oE (fun _ _ h=>h) rfl ?_
     refine sp 1 hf rfl fun a hf=>aP ?_
     refine b9 _ _ ?_
     refine sX fun K27 cf=>?_
     have a5:∀ (q:Int) (t:Option Addr) (s:Nat) a w,Has 76 a [(8,i6 ab),(9,pq O),(10,pq I),(11,pq Y),(12,pq M),(13,i6 xv),(14,i6 U),(15,i6 q),(34,.slice (some ⟨g,0,none⟩) D.length R),(35,i6 ((D.length:Nat):Int)),(36,i6 x)]→Ctx G (.box M (cH [] 601 aD H []) 77::.box Y [i6 x] 3::.row t s (B.map aD) 3 1::.box I [.slice t B.length s] 27::.box O [i6 X] 3::.row (some ⟨g,0,none⟩) R (D.map bA) 77 601::Lb) w→iR N H X B xv U q=some oq→K27 a w:=by
      repeat (clear hF)
      repeat (clear hc)
      repeat (clear hf)
      intro q t s a w hf hc hF
      unfold iR at hF
      refine cf _ _ ?_
      refine sX fun K28 cd=>?_
      obtain ⟨rg,bf,hF⟩:=aB hF
      refine rCut (fun a w=>Has 76 a [(8,i6 ab),(9,pq O),(10,pq I),(11,pq Y),(12,pq M),(13,i6 xv),(14,i6 U),(34,.slice (some ⟨g,0,none⟩) D.length R),(35,i6 ((D.length:Nat):Int)),(36,i6 x),(65,.bool rg)]∧Ctx G (.box M (cH [] 601 aD H []) 77::.box Y [i6 x] 3::.row t s (B.map aD) 3 1::.box I [.slice t B.length s] 27::.box O [i6 X] 3::.row (some ⟨g,0,none⟩) R (D.map bA) 77 601::Lb) w) ?_ ?_
      ·clear hF
       have hF:=bf
       clear bf
       obtain ⟨un,ag,hF⟩:=aB hF
       cases hb:((H xv.toNat) != 1073741824)
       ·replace hF:=nJ hb hF
        try rw [hb] at hf
        try rw [hb] at hc
        have a3:=hb
        clear hb
        refine aAj (fun _ _ h=>h) rfl (fun θ=>[⟨none,none,8,i6 ab⟩,⟨none,none,9,pq O⟩,⟨none,none,10,pq I⟩,⟨none,none,11,pq Y⟩,⟨none,none,12,pq M⟩,⟨none,none,13,i6 xv⟩,⟨none,none,14,i6 U⟩,⟨none,none,15,i6 q⟩,⟨none,none,34,.slice (some ⟨g,0,none⟩) D.length R⟩,⟨none,none,35,i6 ((D.length:Nat):Int)⟩,⟨none,none,36,i6 x⟩,⟨some 0,none,53,i6 xv⟩,⟨some 1,none,54,.pointer (some ⟨M,0 + xv.toNat * 1,none⟩)⟩,⟨some 2,none,55,i6 (H xv.toNat)⟩,⟨some 3,none,56,.bool false⟩,⟨some 4,none,57,.bool false⟩,⟨some 5,none,58,undef⟩,⟨some 6,none,59,undef⟩,⟨some 7,none,60,undef⟩,⟨some 8,none,61,undef⟩,⟨some 9,none,62,undef⟩,⟨some 10,none,63,undef⟩,⟨some 11,none,64,undef⟩,⟨some 12,none,65,.bool false⟩]) (fun E θ=>.box M (cH [] 601 aD H []) 77::.box Y [i6 x] 3::.row t s (B.map aD) 3 1::.box I [.slice t B.length s] 27::.box O [i6 X] 3::.row (some ⟨g,0,none⟩) R (D.map bA) 77 601::Lb) [] (fun a w=>Has 76 a [(8,i6 ab),(9,pq O),(10,pq I),(11,pq Y),(12,pq M),(13,i6 xv),(14,i6 U),(34,.slice (some ⟨g,0,none⟩) D.length R),(35,i6 ((D.length:Nat):Int)),(36,i6 x),(58,undef),(59,undef),(60,undef),(61,undef),(62,undef),(63,undef),(64,undef),(65,.bool false)]∧Ctx G (.box M (cH [] 601 aD H []) 77::.box Y [i6 x] 3::.row t s (B.map aD) 3 1::.box I [.slice t B.length s] 27::.box O [i6 X] 3::.row (some ⟨g,0,none⟩) R (D.map bA) 77 601::Lb) w) aT (by kernel_rfl) (by kernel_rfl) (eZ.of hf ⟨rfl,rfl,rfl,rfl,rfl,rfl,rfl,rfl,rfl,rfl,rfl,trivial,trivial,trivial,trivial,trivial,trivial,trivial,trivial,trivial,trivial,trivial,trivial,trivial,trivial⟩) hc ⟨?_,?_,?_,?_,?_,?_,?_,?_,?_,?_,?_,?_,?_,trivial⟩ ?_ ?_
        ·intro E θ a w hD hi hp he hc
         have hf:=he.h0.mT he 5 rfl
         refine sp 1 hf rfl fun a hf=>zD θ he hi hf 11 rfl rfl rfl hc
        ·intro E θ a w hD hi hp he hc
         have e0:=hp.o 0 rfl
         have hf:=(he.h0.mT he 4 rfl).mP he 11 rfl e0
         refine zP hf rfl (pW Tryz.underlying77 eL rfl rfl (bI ag).1 (bI ag).2) fun a hf=>zD θ he hi hf 12 rfl rfl rfl hc
        ·intro E θ a w hD hi hp he hc
         have e1:=hp.o 1 rfl
         have hf:=he.h0.mP he 12 rfl e1
         refine zE hf hc rfl (cE aU rfl (lV (j:=0) m0 (fun x=>(bD x).1) rfl ag rfl)) fun a w hf hc=>zD θ he hi hf 13 rfl rfl rfl hc
        ·intro E θ a w hD hi hp he hc
         have e2:=hp.o 2 rfl
         have hf:=he.h0.mP he 13 rfl e2
         refine sp 1 hf rfl fun a hf=>?_
         rw [a3] at hf
         exact zD θ he hi hf 14 rfl rfl rfl hc
        ·intro E θ a w hD hi hp he hc
         have e3:=hp.o 3 rfl
         have hf:=he.h0.mP he 14 rfl e3
         refine sp 1 hf rfl fun a hf=>zD θ he hi hf 15 rfl rfl rfl hc
        ·intro E θ a w hD hi hp he hc
         have e4:=hp.o 4 rfl
         have hf:=(he.h0.mT he 7 rfl).mP he 15 rfl e4
         refine stS hf rfl rfl rfl fun a hf=>zD θ he hi hf 16 rfl rfl rfl hc
        ·intro E θ a w hD hi hp he hc
         have e4:=hp.o 4 rfl
         have hf:=(he.h0.mT he 5 rfl).mP he 15 rfl e4
         refine stS hf rfl rfl rfl fun a hf=>zD θ he hi hf 17 rfl rfl rfl hc
        ·intro E θ a w hD hi hp he hc
         have e4:=hp.o 4 rfl
         have e6:=hp.o 6 rfl
         have hf:=((he.h0.mT he 4 rfl).mP he 15 rfl e4).mP he 17 rfl e6
         refine stS hf rfl rfl rfl fun a hf=>zD θ he hi hf 18 rfl rfl rfl hc
        ·intro E θ a w hD hi hp he hc
         have e4:=hp.o 4 rfl
         have e7:=hp.o 7 rfl
         have hf:=(he.h0.mP he 15 rfl e4).mP he 18 rfl e7
         refine stS hf rfl rfl rfl fun a hf=>zD θ he hi hf 19 rfl rfl rfl hc
        ·intro E θ a w hD hi hp he hc
         have e4:=hp.o 4 rfl
         have e5:=hp.o 5 rfl
         have e8:=hp.o 8 rfl
         have hf:=((he.h0.mP he 15 rfl e4).mP he 16 rfl e5).mP he 19 rfl e8
         refine stS hf rfl rfl rfl fun a hf=>zD θ he hi hf 20 rfl rfl rfl hc
        ·intro E θ a w hD hi hp he hc
         have e4:=hp.o 4 rfl
         have hf:=(he.h0.mT he 1 rfl).mP he 15 rfl e4
         refine stS hf rfl rfl rfl fun a hf=>zD θ he hi hf 21 rfl rfl rfl hc
        ·intro E θ a w hD hi hp he hc
         have e4:=hp.o 4 rfl
         have e9:=hp.o 9 rfl
         have aj:=hp.o 10 rfl
         have hf:=((he.h0.mP he 15 rfl e4).mP he 20 rfl e9).mP he 21 rfl aj
         refine stS hf rfl rfl rfl fun a hf=>zD θ he hi hf 22 rfl rfl rfl hc
        ·intro E θ a w hD hi hp he hc
         have e4:=hp.o 4 rfl
         have ak:=hp.o 11 rfl
         have hf:=(he.h0.mP he 15 rfl e4).mP he 22 rfl ak
         refine sp 1 hf rfl fun a hf=>zD θ he hi hf 23 rfl rfl rfl hc
        ·intro E θ a w V he hc
         have hf:=he.h0
         have e5:=V 5 rfl
         have e6:=V 6 rfl
         have e7:=V 7 rfl
         have e8:=V 8 rfl
         have e9:=V 9 rfl
         have aj:=V 10 rfl
         have ak:=V 11 rfl
         have a1:=V 12 rfl
         replace hf:=hf.more he 23 rfl (onP a1)
         replace hf:=hf.more he 22 rfl (onP ak)
         replace hf:=hf.more he 21 rfl (onP aj)
         replace hf:=hf.more he 20 rfl (onP e9)
         replace hf:=hf.more he 19 rfl (onP e8)
         replace hf:=hf.more he 18 rfl (onP e7)
         replace hf:=hf.more he 17 rfl (onP e6)
         replace hf:=hf.more he 16 rfl (onP e5)
         replace hf:=hf.more he 10 rfl (onT)
         replace hf:=hf.more he 9 rfl (onT)
         replace hf:=hf.more he 8 rfl (onT)
         replace hf:=hf.more he 6 rfl (onT)
         replace hf:=hf.more he 5 rfl (onT)
         replace hf:=hf.more he 4 rfl (onT)
         replace hf:=hf.more he 3 rfl (onT)
         replace hf:=hf.more he 2 rfl (onT)
         replace hf:=hf.more he 1 rfl (onT)
         replace hf:=hf.more he 0 rfl (onT)
         exact ⟨hf.kp rfl,hc⟩
        rintro a w ⟨hf,hc⟩
        refine eY ?_
        obtain rfl:=sj hF
        exact ⟨hf.kp rfl,hc⟩
       ·replace hF:=lF hb hF
        try rw [hb] at hf
        try rw [hb] at hc
        have a3:=hb
        clear hb
        refine aAj (fun _ _ h=>h) rfl (fun θ=>[⟨none,none,8,i6 ab⟩,⟨none,none,9,pq O⟩,⟨none,none,10,pq I⟩,⟨none,none,11,pq Y⟩,⟨none,none,12,pq M⟩,⟨none,none,13,i6 xv⟩,⟨none,none,14,i6 U⟩,⟨none,none,15,i6 q⟩,⟨none,none,34,.slice (some ⟨g,0,none⟩) D.length R⟩,⟨none,none,35,i6 ((D.length:Nat):Int)⟩,⟨none,none,36,i6 x⟩,⟨some 0,none,53,i6 xv⟩,⟨some 1,none,54,.pointer (some ⟨M,0 + xv.toNat * 1,none⟩)⟩,⟨some 2,none,55,i6 (H xv.toNat)⟩,⟨some 3,none,56,.bool true⟩,⟨some 4,none,57,.bool true⟩,⟨some 5,none,58,i6 q⟩,⟨some 6,none,59,i6 xv⟩,⟨some 7,none,60,.pointer (some ⟨M,0 + xv.toNat * 1,none⟩)⟩,⟨some 8,none,61,i6 (H xv.toNat)⟩,⟨some 9,none,62,i6 (W (q + (H xv.toNat)))⟩,⟨some 10,none,63,i6 X⟩,⟨some 11,none,64,.bool ((W (q + (H xv.toNat))) == X)⟩,⟨some 12,none,65,.bool ((W (q + (H xv.toNat))) == X)⟩]) (fun E θ=>.box M (cH [] 601 aD H []) 77::.box Y [i6 x] 3::.row t s (B.map aD) 3 1::.box I [.slice t B.length s] 27::.box O [i6 X] 3::.row (some ⟨g,0,none⟩) R (D.map bA) 77 601::Lb) [] (fun a w=>Has 76 a [(8,i6 ab),(9,pq O),(10,pq I),(11,pq Y),(12,pq M),(13,i6 xv),(14,i6 U),(34,.slice (some ⟨g,0,none⟩) D.length R),(35,i6 ((D.length:Nat):Int)),(36,i6 x),(58,i6 q),(59,i6 xv),(60,.pointer (some ⟨M,0 + xv.toNat * 1,none⟩)),(61,i6 (H xv.toNat)),(62,i6 (W (q + (H xv.toNat)))),(63,i6 X),(64,.bool ((W (q + (H xv.toNat))) == X)),(65,.bool ((W (q + (H xv.toNat))) == X))]∧Ctx G (.box M (cH [] 601 aD H []) 77::.box Y [i6 x] 3::.row t s (B.map aD) 3 1::.box I [.slice t B.length s] 27::.box O [i6 X] 3::.row (some ⟨g,0,none⟩) R (D.map bA) 77 601::Lb) w) aT (by kernel_rfl) (by kernel_rfl) (eZ.of hf ⟨rfl,rfl,rfl,rfl,rfl,rfl,rfl,rfl,rfl,rfl,rfl,trivial,trivial,trivial,trivial,trivial,trivial,trivial,trivial,trivial,trivial,trivial,trivial,trivial,trivial⟩) hc ⟨?_,?_,?_,?_,?_,?_,?_,?_,?_,?_,?_,?_,?_,trivial⟩ ?_ ?_
        ·intro E θ a w hD hi hp he hc
         have hf:=he.h0.mT he 5 rfl
         refine sp 1 hf rfl fun a hf=>zD θ he hi hf 11 rfl rfl rfl hc
        ·intro E θ a w hD hi hp he hc
         have e0:=hp.o 0 rfl
         have hf:=(he.h0.mT he 4 rfl).mP he 11 rfl e0
         refine zP hf rfl (pW Tryz.underlying77 eL rfl rfl (bI ag).1 (bI ag).2) fun a hf=>zD θ he hi hf 12 rfl rfl rfl hc
        ·intro E θ a w hD hi hp he hc
         have e1:=hp.o 1 rfl
         have hf:=he.h0.mP he 12 rfl e1
         refine zE hf hc rfl (cE aU rfl (lV (j:=0) m0 (fun x=>(bD x).1) rfl ag rfl)) fun a w hf hc=>zD θ he hi hf 13 rfl rfl rfl hc
        ·intro E θ a w hD hi hp he hc
         have e2:=hp.o 2 rfl
         have hf:=he.h0.mP he 13 rfl e2
         refine sp 1 hf rfl fun a hf=>?_
         rw [a3] at hf
         exact zD θ he hi hf 14 rfl rfl rfl hc
        ·intro E θ a w hD hi hp he hc
         have e3:=hp.o 3 rfl
         have hf:=he.h0.mP he 14 rfl e3
         refine sp 1 hf rfl fun a hf=>zD θ he hi hf 15 rfl rfl rfl hc
        ·intro E θ a w hD hi hp he hc
         have e4:=hp.o 4 rfl
         have hf:=(he.h0.mT he 7 rfl).mP he 15 rfl e4
         refine sp 1 hf rfl fun a hf=>zD θ he hi hf 16 rfl rfl rfl hc
        ·intro E θ a w hD hi hp he hc
         have e4:=hp.o 4 rfl
         have hf:=(he.h0.mT he 5 rfl).mP he 15 rfl e4
         refine sp 1 hf rfl fun a hf=>zD θ he hi hf 17 rfl rfl rfl hc
        ·intro E θ a w hD hi hp he hc
         have e4:=hp.o 4 rfl
         have e6:=hp.o 6 rfl
         have hf:=((he.h0.mT he 4 rfl).mP he 15 rfl e4).mP he 17 rfl e6
         refine zP hf rfl (pW Tryz.underlying77 eL rfl rfl (bI ag).1 (bI ag).2) fun a hf=>zD θ he hi hf 18 rfl rfl rfl hc
        ·intro E θ a w hD hi hp he hc
         have e4:=hp.o 4 rfl
         have e7:=hp.o 7 rfl
         have hf:=(he.h0.mP he 15 rfl e4).mP he 18 rfl e7
         refine zE hf hc rfl (cE aU rfl (lV (j:=0) m0 (fun x=>(bD x).1) rfl ag rfl)) fun a w hf hc=>zD θ he hi hf 19 rfl rfl rfl hc
        ·intro E θ a w hD hi hp he hc
         have e4:=hp.o 4 rfl
         have e5:=hp.o 5 rfl
         have e8:=hp.o 8 rfl
         have hf:=((he.h0.mP he 15 rfl e4).mP he 16 rfl e5).mP he 19 rfl e8
         refine sp 1 hf rfl fun a hf=>zD θ he hi hf 20 rfl rfl rfl hc
        ·intro E θ a w hD hi hp he hc
         have e4:=hp.o 4 rfl
         have hf:=(he.h0.mT he 1 rfl).mP he 15 rfl e4
         refine zL hf hc aU m4 rfl fun a w hf hc=>zD θ he hi hf 21 rfl rfl rfl hc
        ·intro E θ a w hD hi hp he hc
         have e4:=hp.o 4 rfl
         have e9:=hp.o 9 rfl
         have aj:=hp.o 10 rfl
         have hf:=((he.h0.mP he 15 rfl e4).mP he 20 rfl e9).mP he 21 rfl aj
         refine sp 1 hf rfl fun a hf=>zD θ he hi hf 22 rfl rfl rfl hc
        ·intro E θ a w hD hi hp he hc
         have e4:=hp.o 4 rfl
         have ak:=hp.o 11 rfl
         have hf:=(he.h0.mP he 15 rfl e4).mP he 22 rfl ak
         refine sp 1 hf rfl fun a hf=>zD θ he hi hf 23 rfl rfl rfl hc
        ·intro E θ a w V he hc
         have hf:=he.h0
         have e5:=V 5 rfl
         have e6:=V 6 rfl
         have e7:=V 7 rfl
         have e8:=V 8 rfl
         have e9:=V 9 rfl
         have aj:=V 10 rfl
         have ak:=V 11 rfl
         have a1:=V 12 rfl
         replace hf:=hf.more he 23 rfl (onP a1)
         replace hf:=hf.more he 22 rfl (onP ak)
         replace hf:=hf.more he 21 rfl (onP aj)
         replace hf:=hf.more he 20 rfl (onP e9)
         replace hf:=hf.more he 19 rfl (onP e8)
         replace hf:=hf.more he 18 rfl (onP e7)
         replace hf:=hf.more he 17 rfl (onP e6)
         replace hf:=hf.more he 16 rfl (onP e5)
         replace hf:=hf.more he 10 rfl (onT)
         replace hf:=hf.more he 9 rfl (onT)
         replace hf:=hf.more he 8 rfl (onT)
         replace hf:=hf.more he 6 rfl (onT)
         replace hf:=hf.more he 5 rfl (onT)
         replace hf:=hf.more he 4 rfl (onT)
         replace hf:=hf.more he 3 rfl (onT)
         replace hf:=hf.more he 2 rfl (onT)
         replace hf:=hf.more he 1 rfl (onT)
         replace hf:=hf.more he 0 rfl (onT)
         exact ⟨hf.kp rfl,hc⟩
        rintro a w ⟨hf,hc⟩
        refine eY ?_
        obtain rfl:=sj hF
        exact ⟨hf.kp rfl,hc⟩
      rintro a w ⟨hf,hc⟩
      refine cd _ _ ?_
      refine yY (b:=rg) hf rfl (fun hb=>?_) (fun hb=>?_)
      ·replace hF:=lF hb hF
       clear hb
       refine sX fun K29 cr=>?_
       obtain ⟨ct,ba,hF⟩:=aB hF
       obtain ⟨cu,ap,hF⟩:=aB hF
       replace hc:=hc.nilRow 0 0
       refine aAj (fun _ _ h=>h) rfl (fun θ=>[⟨none,none,8,i6 ab⟩,⟨none,none,9,pq O⟩,⟨none,none,10,pq I⟩,⟨none,none,12,pq M⟩,⟨none,none,13,i6 xv⟩,⟨none,none,14,i6 U⟩,⟨none,none,34,.slice (some ⟨g,0,none⟩) D.length R⟩,⟨none,none,35,i6 ((D.length:Nat):Int)⟩,⟨none,none,36,i6 x⟩,⟨some 0,none,66,.slice t B.length s⟩,⟨some 1,none,67,i6 U⟩,⟨some 2,none,68,.slice (some ⟨(θ 16).b,0,none⟩) 1 1⟩,⟨some 3,none,69,.slice ((θ 24).p) ((B++[U]).length) ((θ 24).c)⟩,⟨some 4,none,70,i6 xv⟩,⟨some 5,none,71,.pointer (some ⟨M,0 + xv.toNat * 1,none⟩)⟩,⟨some 6,none,72,i6 (H xv.toNat)⟩]) (fun E θ=>(bif E 2 then .row (some ⟨(θ 16).b,0,none⟩) 1 (([U]:List Int).map aD) 3 1 else .row none 0 [] 0 0)::.box M (cH [] 601 aD H []) 77::.box Y [i6 x] 3::(bif E 3 then .row ((θ 24).p) ((θ 24).c) ((B++[U]).map aD) 3 1 else .row t s (B.map aD) 3 1)::(bif E 7 then .box I [.slice ((θ 24).p) ((B++[U]).length) ((θ 24).c)] 27 else .box I [.slice t B.length s] 27)::(bif E 8 then .box O [i6 (H xv.toNat)] 3 else .box O [i6 X] 3)::.row (some ⟨g,0,none⟩) R (D.map bA) 77 601::Lb) [(7,0),(7,3)] (fun a w=>∃ (bc:Nat) (ax:Option Addr) (av:Nat),Has 76 a [(8,i6 ab),(9,pq O),(10,pq I),(34,.slice (some ⟨g,0,none⟩) D.length R),(35,i6 ((D.length:Nat):Int)),(36,i6 x)]∧Ctx G (.row (some ⟨bc,0,none⟩) 1 (([U]:List Int).map aD) 3 1::.box M (cH [] 601 aD H []) 77::.box Y [i6 x] 3::.row ax av ((B++[U]).map aD) 3 1::.box I [.slice ax ((B++[U]).length) av] 27::.box O [i6 (H xv.toNat)] 3::.row (some ⟨g,0,none⟩) R (D.map bA) 77 601::Lb) w) aT (by kernel_rfl) (by kernel_rfl) (eZ.of hf ⟨rfl,rfl,rfl,rfl,rfl,rfl,rfl,rfl,rfl,trivial,trivial,trivial,trivial,trivial,trivial,trivial,trivial⟩) hc ⟨?_,?_,?_,?_,?_,?_,?_,?_,?_,trivial⟩ ?_ ?_
       ·intro E θ a w hD hi hp he hc
        have e7:=hD.f 0 rfl hi
        try dsimp only at hc
        rw [e7] at hc
        have hf:=he.h0.mT he 2 rfl
        refine zL hf hc aIx m4 rfl fun a w hf hc=>zD θ he hi hf 9 rfl rfl rfl ?_
        try dsimp only
        rw [aQ 0 e7 rfl]
        exact hc
       ·intro E θ a w hD hi hp he hc
        have hf:=he.h0.mT he 5 rfl
        refine sp 1 hf rfl fun a hf=>zD θ he hi hf 10 rfl rfl rfl hc
       ·intro E θ a w hD hi hp he hc
        have e1:=hp.o 1 rfl
        try dsimp only at hc
        rw [hi] at hc
        have hf:=he.h0.mP he 10 rfl e1
        refine mY (rows:=([U]:List Int).map aD) (vs:=[(0,i6 U)]) hf hc rfl rfl lD rfl ⟨rfl,rfl,rfl,trivial⟩ rfl rfl fun cm a w hf hc=>aP ?_
        refine eY ?_
        intro ds u a2
        replace hc:=hc.drop k1
        refine ⟨(qW θ 16 ⟨cm,none,0,(fun _=>(none,0))⟩),he.put hi a2 hf rfl [] trivial ⟨qq,qq,qq,qq,qq,qq,qq,qq,qq,qq,qq,qq,qq,qq,qq,qq,trivial⟩,?_⟩
        try dsimp only
        rw [aR E 2]
        exact hc
       ·intro E θ a w hD hi hp he hc
        have e0:=hp.o 0 rfl
        have e2:=hp.o 2 rfl
        have e7:=hD.f 1 rfl hi
        try dsimp only at hc
        rw [e2,hi,e7] at hc
        have hf:=(he.h0.mP he 9 rfl e0).mP he 11 rfl e2
        refine nT (xs:=B) (ys:=([U]:List Int)) hf hc rfl rfl lD rfl rfl rfl rfl rfl bD (iL hc m0) (fun _ _=>u3) (by simpa using eR ba) fun cn ca a w hf hc=>aP ?_
        refine eY ?_
        intro ds u a2
        refine ⟨(qW θ 24 ⟨0,cn,ca,(fun _=>(none,0))⟩),he.put hi a2 hf rfl [] trivial ⟨qq,qq,qq,qq,qq,qq,qq,qq,qq,qq,qq,qq,qq,qq,qq,qq,trivial⟩,?_⟩
        try dsimp only
        rw [cV 3 e2,aR E 3,aQ 3 e7 rfl]
        exact hc
       ·intro E θ a w hD hi hp he hc
        have hf:=he.h0.mT he 4 rfl
        refine sp 1 hf rfl fun a hf=>zD θ he hi hf 13 rfl rfl rfl hc
       ·intro E θ a w hD hi hp he hc
        have e4:=hp.o 4 rfl
        have hf:=(he.h0.mT he 3 rfl).mP he 13 rfl e4
        refine zP hf rfl (pW Tryz.underlying77 eL rfl rfl (bI ap).1 (bI ap).2) fun a hf=>zD θ he hi hf 14 rfl rfl rfl hc
       ·intro E θ a w hD hi hp he hc
        have e5:=hp.o 5 rfl
        have hf:=he.h0.mP he 14 rfl e5
        refine zE hf hc rfl (cE aU rfl (lV (j:=0) m1 (fun x=>(bD x).1) rfl ap rfl)) fun a w hf hc=>zD θ he hi hf 15 rfl rfl rfl hc
       ·intro E θ a w hD hi hp he hc
        have e3:=hp.o 3 rfl
        try dsimp only at hc
        rw [hi] at hc
        have hf:=(he.h0.mT he 2 rfl).mP he 12 rfl e3
        refine zW hf hc sz_27 u4 rfl fun w hc=>zG θ he hi hf rfl ?_
        try dsimp only
        rw [aR E 7]
        exact hc
       ·intro E θ a w hD hi hp he hc
        have e6:=hp.o 6 rfl
        try dsimp only at hc
        rw [hi] at hc
        have hf:=(he.h0.mT he 1 rfl).mP he 15 rfl e6
        refine zW hf hc eL u5 rfl fun w hc=>zG θ he hi hf rfl ?_
        try dsimp only
        rw [aR E 8]
        exact hc
       ·intro E θ a w V he hc
        have hf:=he.h0
        have e2:=V 2 rfl
        have e3:=V 3 rfl
        have e7:=V 7 rfl
        have e8:=V 8 rfl
        replace hf:=hf.more he 8 rfl (onT)
        replace hf:=hf.more he 7 rfl (onT)
        replace hf:=hf.more he 6 rfl (onT)
        replace hf:=hf.more he 2 rfl (onT)
        replace hf:=hf.more he 1 rfl (onT)
        replace hf:=hf.more he 0 rfl (onT)
        try dsimp only at hc
        rw [e2,e3,e7,e8] at hc
        exact ⟨(θ 16).b,(θ 24).p,(θ 24).c,hf.kp rfl,hc⟩
       rintro a w ⟨bc,ax,av,hf,hc⟩
       refine cr _ _ ?_
       refine rExit ?_
       refine nS rfl ?_
       refine aV ?_
       replace hc:=hc.drop k0
       exact ⟨rfl,((H xv.toNat),(B++[U])),_,(sj hF).symm,⟨ax,av,rfl⟩,hc⟩
      ·replace hF:=nJ hb hF
       clear hb
       refine zM ?_
       refine b8 _ _ ?_
       exact ⟨(X,B),_,(sj hF).symm,⟨t,s,rfl⟩,hc⟩
     refine sX fun K30 b6=>oE (fun _ _ h=>h) rfl ?_
     refine zL hf hc aU m1 rfl fun a w hf hc=>sp 1 hf rfl fun a hf=>aP ?_
     refine b6 _ _ ?_
     refine yY (b:=(decide (0 < x))) hf rfl (fun hb=>?_) (fun hb=>?_)
     ·replace hF:=lF hb hF
      clear hb
      refine oE (fun _ _ h=>h) rfl ?_
      refine sp 1 hf rfl fun a hf=>zL hf hc aIx m3 rfl fun a w hf hc=>zL hf hc aU m1 rfl fun a w hf hc=>sp 1 hf rfl fun a hf=>?_
      obtain ⟨ci,br,hF⟩:=aB hF
      obtain ⟨cp,rfl,bz,bx⟩:=gH hc m2 br
      refine zP hf rfl (pIA Tryz.underlying27 eL rfl rfl bz) fun a hf=>zE hf hc rfl (cE aU rfl (dA (sz:=1) (i:=(W (x - 1)).toNat) (j:=0) m2 bx rfl)) fun a w hf hc=>?_
      obtain ⟨bm,b1,hF⟩:=aB hF
      refine zQ (v:=i6 bm) hf hc aK7 rfl (fun w hc=>uS U ci hc b1) fun a w hf hc=>sp 1 hf rfl fun a hf=>aP ?_
      exact a5 bm (some ⟨cp,0,none⟩) Z _ _  (hf.kp rfl) hc hF
     ·replace hF:=nJ hb hF
      clear hb
      refine zM ?_
      exact a5 0 d Z _ _  (hf.kp rfl) hc hF
    ·rintro D_1 ⟨X,B⟩ _ a w ay ⟨d,Z,rfl⟩ hf hc
     replace hf:Has ⟨76,lY (D_1::Ds)⟩ a [(8,i6 ab),(9,pq O),(10,pq I),(11,pq Y),(12,pq M),(34,.slice (some ⟨g,0,none⟩) D.length R),(35,i6 ((D.length:Nat):Int)),(36,i6 x)]:=hf.kp rfl
     replace hc:Ctx G (.box M (cH [] 601 aD H []) 77::.box Y [i6 x] 3::.row d Z (B.map aD) 3 1::.box I [.slice d B.length Z] 27::.box O [i6 X] 3::.row (some ⟨g,0,none⟩) R (D.map bA) 77 601::(oH (D_1::Ds)++Lf)) w:=nL (C:=[]) (L:=[.box M (cH [] 601 aD H []) 77,.box Y [i6 x] 3,.row d Z (B.map aD) 3 1,.box I [.slice d B.length Z] 27,.box O [i6 X] 3,.row (some ⟨g,0,none⟩) R (D.map bA) 77 601]) hc
     replace hF:(some (.cont (W (x + 1),X,B)))=some a0:=by rcases ay with rfl | rfl <;> exact hF
     refine ck _ _ ?_
     refine dE ?_
     refine sp 2 hf rfl fun a hf=>aP ?_
     replace hc:=(hc.drop k1).drop k0
     exact bt (W (x + 1),X,B) _ _ (sj hF).symm ⟨d,Z,(D_1::Ds),hf.kp rfl,hc⟩
    ·rintro D_1 ⟨X,B⟩ _ a w ay ⟨d,Z,rfl⟩ hf hc
     replace hf:Has ⟨76,lY (D_1::Ds)⟩ a [(8,i6 ab),(9,pq O),(10,pq I),(11,pq Y),(12,pq M),(34,.slice (some ⟨g,0,none⟩) D.length R),(35,i6 ((D.length:Nat):Int)),(36,i6 x)]:=hf.kp rfl
     replace hc:Ctx G (.box M (cH [] 601 aD H []) 77::.box Y [i6 x] 3::.row d Z (B.map aD) 3 1::.box I [.slice d B.length Z] 27::.box O [i6 X] 3::.row (some ⟨g,0,none⟩) R (D.map bA) 77 601::(oH (D_1::Ds)++Lf)) w:=nL (C:=[]) (L:=[.box M (cH [] 601 aD H []) 77,.box Y [i6 x] 3,.row d Z (B.map aD) 3 1,.box I [.slice d B.length Z] 27,.box O [i6 X] 3,.row (some ⟨g,0,none⟩) R (D.map bA) 77 601]) hc
     replace hF:(none)=some a0:=by subst ay; exact hF
     cases hF
   ·refine wp_exit ?_
    refine aV ?_
    refine aV ?_
    have he:=sj hF
    rw [← he] at aq
    refine eW ?_
    exact bq _ _ _ aq ⟨ad,af,Ds,hf.kp rfl,hc⟩

end Go.Nilo
