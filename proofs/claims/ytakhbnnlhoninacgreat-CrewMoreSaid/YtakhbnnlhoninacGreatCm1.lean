/-
 What functions of the Go text compute, as plain functions, and that they do, part 1 of 4. Conditions: what each theorem names.
-/
import Derived.Test.YtakhbnnlhoninacGreatNl29
import Derived.Test.YtakhbnnlhoninacGreatProg
set_option linter.unusedVariables false
set_option linter.unusedSimpArgs false
set_option maxRecDepth 100000
set_option maxHeartbeats 4000000
namespace Go.Nilo
open Go.Proofs


structure bD where
 bytes:List Int
 used:Int
 mix:Int

structure aC where
 Places:Int
 Order:List Int

structure aB where
 People:List (List Int)
 Stations:List aC

structure aT where
 Roster:aB
 rank:Nat→Int

structure aE where
 Person:Int
 Station:Int
@[reducible] def aJ (x:aE):List Value:=[i6 x.Person,i6 x.Station]
theorem tZ:∀ x,(aJ x).length=2∧mB (aJ x)=true:=fun _=>⟨rfl,rfl⟩

structure aS where
 Lo:Int
 Hi:Int
@[reducible] def cS (x:aS):List Value:=[i6 x.Lo,i6 x.Hi]
theorem xP:∀ x,(cS x).length=2∧mB (cS x)=true:=fun _=>⟨rfl,rfl⟩

structure aY where
 Way:aS
 Work:aS
 Open:Int
 Close:Int
@[reducible] def cU (x:aY):List Value:=[i6 x.Way.Lo,i6 x.Way.Hi,i6 x.Work.Lo,i6 x.Work.Hi,i6 x.Open,i6 x.Close]
theorem aEc:∀ x,(cU x).length=6∧mB (cU x)=true:=fun _=>⟨rfl,rfl⟩

structure aI where
 From:Int
 Long:Int
 Weight:aS
@[reducible] def aK (x:aI):List Value:=[i6 x.From,i6 x.Long,i6 x.Weight.Lo,i6 x.Weight.Hi]
theorem kU:∀ x,(aK x).length=4∧mB (aK x)=true:=fun _=>⟨rfl,rfl⟩

structure aM where
 Car:Int
 Wide:Int
 Sag:Int
 Most:Int
 Rides:List aI

structure sD where
 Rate:Int
 Normal:Int
 Extra:Int
@[reducible] def xI (x:sD):List Value:=[i6 x.Rate,i6 x.Normal,i6 x.Extra]
theorem aGe:∀ x,(xI x).length=3∧mB (xI x)=true:=fun _=>⟨rfl,rfl⟩

theorem bt_46:gL Tryz.prog 46=some ([.slice none 0 0,i6 0,i6 0],[(0,1),(1,1),(2,1)]):=by kernel_rfl

theorem en_5:En Tryz.prog 5:=En.of Tryz.func5 (by kernel_rfl) (by kernel_rfl)

theorem wW:(Tryz.prog.info? 26).map (·.zero)=some (some (.agg #[.slice none 0 0,.slice none 0 0])):=by kernel_rfl

theorem wT:∀ (q:Addr) (w:World),(Instr.fieldAt 46 (.pointer (some q)) 0).run Tryz.prog w=.ok (.pointer (some (q.add 0))) w:=fun _ _=>by kernel_rfl

theorem aDq:ScT Tryz.prog 22:=⟨⟨_,Tryz.underlying22,trivial⟩,by kernel_rfl⟩

theorem wX:∀ (q:Addr) (w:World),(Instr.fieldAt 46 (.pointer (some q)) 1).run Tryz.prog w=.ok (.pointer (some (q.add 1))) w:=fun _ _=>by kernel_rfl

theorem bA:ScT Tryz.prog 3:=⟨⟨_,Tryz.underlying3,trivial⟩,by kernel_rfl⟩

theorem sz_5:(Tryz.prog.info? 5).map (·.size)=some 1:=by kernel_rfl

theorem sc_5:ScT Tryz.prog 5:=⟨⟨_,Tryz.underlying5,trivial⟩,by kernel_rfl⟩

theorem aU:Tryz.prog.follows .mixedOrders=true:=by kernel_rfl

theorem zV:∀ (q:Addr) (w:World),(Instr.fieldAt 46 (.pointer (some q)) 2).run Tryz.prog w=.ok (.pointer (some (q.add 2))) w:=fun _ _=>by kernel_rfl

theorem eL:(Tryz.prog.info? 3).map (·.size)=some 1:=by kernel_rfl

theorem aFk:En Tryz.prog 10:=En.of Tryz.func10 (by kernel_rfl) (by kernel_rfl)

theorem aHj:En Tryz.prog 14:=En.of Tryz.func14 (by kernel_rfl) (by kernel_rfl)

theorem eZ:∀ (q:Addr) (w:World),(Instr.fieldAt 26 (.pointer (some q)) 0).run Tryz.prog w=.ok (.pointer (some (q.add 0))) w:=fun _ _=>by kernel_rfl

theorem mA:ScT Tryz.prog 23:=⟨⟨_,Tryz.underlying23,trivial⟩,by kernel_rfl⟩

theorem fN:SlT Tryz.prog 30 3 1 8 (i6 0):=SlT.of Tryz.underlying30 (by kernel_rfl) (by decide)

theorem en_19:En Tryz.prog 19:=En.of Tryz.func19 (by kernel_rfl) (by kernel_rfl)

theorem en_8:En Tryz.prog 8:=En.of Tryz.func8 (by kernel_rfl) (by kernel_rfl)

@[reducible] def aG:Kd (List Int):=kL aD 3 1
theorem lX:yX aG:=aJu _ _ _
theorem cD:∀ r,(aG.v r).length=1∧mB (aG.v r)=true:=fun _=>⟨rfl,rfl⟩

theorem wH:SlT Tryz.prog 23 30 1 24 (.slice none 0 0):=SlT.of Tryz.underlying23 (by kernel_rfl) (by decide)

theorem aG2:(Tryz.prog.info? 23).map (·.size)=some 1:=by kernel_rfl

theorem eG:∀ (q:Addr) (w:World),(Instr.fieldAt 26 (.pointer (some q)) 1).run Tryz.prog w=.ok (.pointer (some (q.add 1))) w:=fun _ _=>by kernel_rfl

theorem lN:ScT Tryz.prog 24:=⟨⟨_,Tryz.underlying24,trivial⟩,by kernel_rfl⟩

theorem aDm:gL Tryz.prog 36=some ([i6 0,.slice none 0 0],[(0,1),(1,1)]):=by kernel_rfl

@[reducible] def aL:Kd aC:=Kd.comp (kL aD 3 1) (fun x=>x.Order) (fun h x=>[i6 x.Places,.slice h.1 x.Order.length h.2])
theorem nK:yX aL:=yX.comp (aJu _ _ _) _ _
theorem rV:∀ r,(aL.v r).length=2∧mB (aL.v r)=true:=fun _=>⟨rfl,rfl⟩

theorem aAe:SlT Tryz.prog 24 36 2 32 (.agg #[i6 0,.slice none 0 0]):=SlT.of Tryz.underlying24 (by kernel_rfl) (by decide)

theorem aIq:(Tryz.prog.info? 24).map (·.size)=some 1:=by kernel_rfl

theorem mD:xL Tryz.prog 26 2:=⟨⟨_,Tryz.underlying26,trivial⟩,by kernel_rfl⟩

theorem yL:(Tryz.prog.info? 26).map (·.size)=some 2:=by kernel_rfl

theorem en_4:En Tryz.prog 4:=En.of Tryz.func4 (by kernel_rfl) (by kernel_rfl)

theorem lJ:En Tryz.prog 46:=En.of Tryz.func46 (by kernel_rfl) (by kernel_rfl)

theorem nB:(Tryz.prog.info? 30).map (·.size)=some 1:=by kernel_rfl

theorem kJ:ScT Tryz.prog 30:=⟨⟨_,Tryz.underlying30,trivial⟩,by kernel_rfl⟩

theorem aH4:ScT Tryz.prog 128:=⟨⟨_,Tryz.underlying128,trivial⟩,by kernel_rfl⟩

theorem aB6:ScT Tryz.prog 106:=⟨⟨_,Tryz.underlying106,trivial⟩,by kernel_rfl⟩

theorem en_74:En Tryz.prog 74:=En.of Tryz.func74 (by kernel_rfl) (by kernel_rfl)

theorem aE9:En Tryz.prog 84:=En.of Tryz.func84 (by kernel_rfl) (by kernel_rfl)

theorem aA3:En Tryz.prog 63:=En.of Tryz.func63 (by kernel_rfl) (by kernel_rfl)

theorem aC0:En Tryz.prog 50:=En.of Tryz.func50 (by kernel_rfl) (by kernel_rfl)

theorem aD0:En Tryz.prog 44:=En.of Tryz.func44 (by kernel_rfl) (by kernel_rfl)

theorem en_73:En Tryz.prog 73:=En.of Tryz.func73 (by kernel_rfl) (by kernel_rfl)

theorem aIa:En Tryz.prog 101:=En.of Tryz.func101 (by kernel_rfl) (by kernel_rfl)

theorem aIc:En Tryz.prog 112:=En.of Tryz.func112 (by kernel_rfl) (by kernel_rfl)

theorem aG0:En Tryz.prog 100:=En.of Tryz.func100 (by kernel_rfl) (by kernel_rfl)

theorem aJi:En Tryz.prog 72:=En.of Tryz.func72 (by kernel_rfl) (by kernel_rfl)

theorem pF:(Tryz.prog.info? 36).map (·.size)=some 2:=by kernel_rfl

theorem aAn:xL Tryz.prog 36 2:=⟨⟨_,Tryz.underlying36,trivial⟩,by kernel_rfl⟩

theorem aGv:ScT Tryz.prog 130:=⟨⟨_,Tryz.underlying130,trivial⟩,by kernel_rfl⟩

theorem pW:∀ (q:Addr) (w:World),(Instr.fieldAt 36 (.pointer (some q)) 0).run Tryz.prog w=.ok (.pointer (some (q.add 0))) w:=fun _ _=>by kernel_rfl

theorem tF:∀ (q:Addr) (w:World),(Instr.fieldAt 36 (.pointer (some q)) 1).run Tryz.prog w=.ok (.pointer (some (q.add 1))) w:=fun _ _=>by kernel_rfl

theorem en_77:En Tryz.prog 77:=En.of Tryz.func77 (by kernel_rfl) (by kernel_rfl)

theorem en_76:En Tryz.prog 76:=En.of Tryz.func76 (by kernel_rfl) (by kernel_rfl)

theorem aIu:En Tryz.prog 103:=En.of Tryz.func103 (by kernel_rfl) (by kernel_rfl)

theorem aHx:En Tryz.prog 113:=En.of Tryz.func113 (by kernel_rfl) (by kernel_rfl)

theorem aHr:En Tryz.prog 102:=En.of Tryz.func102 (by kernel_rfl) (by kernel_rfl)

theorem aKi:En Tryz.prog 75:=En.of Tryz.func75 (by kernel_rfl) (by kernel_rfl)

theorem aIo:En Tryz.prog 22:=En.of Tryz.func22 (by kernel_rfl) (by kernel_rfl)

theorem aJv:En Tryz.prog 85:=En.of Tryz.func85 (by kernel_rfl) (by kernel_rfl)

theorem aJk:En Tryz.prog 78:=En.of Tryz.func78 (by kernel_rfl) (by kernel_rfl)

theorem en_79:En Tryz.prog 79:=En.of Tryz.func79 (by kernel_rfl) (by kernel_rfl)

theorem en_37:En Tryz.prog 37:=En.of Tryz.func37 (by kernel_rfl) (by kernel_rfl)

theorem bt_94:gL Tryz.prog 94=some ((sQ [.slice none 0 0,.slice none 0 0] 144 aD (fun _=>0) []),[(0,2),(2,144)]):=by kernel_rfl

theorem aHd:(Tryz.prog.info? 36).map (·.zero)=some (some (.agg #[i6 0,.slice none 0 0])):=by kernel_rfl

theorem rB:∀ (q:Addr) (w:World),(Instr.fieldAt 94 (.pointer (some q)) 1).run Tryz.prog w=.ok (.pointer (some (q.add 2))) w:=fun _ _=>by kernel_rfl

theorem yO:(Tryz.prog.info? 91).map (·.size)=some 12:=by kernel_rfl

theorem aBv:En Tryz.prog 15:=En.of Tryz.func15 (by kernel_rfl) (by kernel_rfl)

theorem nI:ScT Tryz.prog 47:=⟨⟨_,Tryz.underlying47,trivial⟩,by kernel_rfl⟩

theorem pI:∀ (q:Addr) (w:World),(Instr.fieldAt 94 (.pointer (some q)) 0).run Tryz.prog w=.ok (.pointer (some (q.add 0))) w:=fun _ _=>by kernel_rfl

@[reducible] def bK:Kd (Option (List (Int × Bool))):=kM Value.bool
theorem aBn:∀ r,(bK.v r).length=1∧mB (bK.v r)=true:=aKv _

theorem sl_95:SlT Tryz.prog 95 96 1 8 (.map none):=SlT.of Tryz.underlying95 (by kernel_rfl) (by decide)

theorem zr_95:(Tryz.prog.info? 95).map (·.zero)=some (some (.slice none 0 0)):=by kernel_rfl

theorem sz_95:(Tryz.prog.info? 95).map (·.size)=some 1:=by kernel_rfl

theorem aAm:ScT Tryz.prog 95:=⟨⟨_,Tryz.underlying95,trivial⟩,by kernel_rfl⟩

theorem aA1:(Tryz.prog.info? 96).map (·.size)=some 1:=by kernel_rfl

theorem en_80:En Tryz.prog 80:=En.of Tryz.func80 (by kernel_rfl) (by kernel_rfl)

theorem en_38:En Tryz.prog 38:=En.of Tryz.func38 (by kernel_rfl) (by kernel_rfl)

theorem aJy:(Tryz.prog.info? 30).map (·.zero)=some (some (.slice none 0 0)):=by kernel_rfl

theorem zr_50:(Tryz.prog.info? 50).map (·.zero)=some (some (.slice none 0 0)):=by kernel_rfl

theorem zr_98:(Tryz.prog.info? 98).map (·.zero)=some (some (.nilFunc)):=by kernel_rfl

theorem sz_98:(Tryz.prog.info? 98).map (·.size)=some 1:=by kernel_rfl

theorem aKf:ScT Tryz.prog 98:=⟨⟨_,Tryz.underlying98,trivial⟩,by kernel_rfl⟩

theorem aE2:En Tryz.prog 40:=En.of Tryz.func40 (by kernel_rfl) (by kernel_rfl)

theorem aDf:En Tryz.prog 48:=En.of Tryz.func48 (by kernel_rfl) (by kernel_rfl)

theorem aG3:(Tryz.prog.info? 3).map (·.zero)=some (some (i6 0)):=by kernel_rfl

theorem aEr:ScT Tryz.prog 50:=⟨⟨_,Tryz.underlying50,trivial⟩,by kernel_rfl⟩

theorem nF:(Tryz.prog.info? 59).map (·.size)=some 2:=by kernel_rfl

theorem mV:xL Tryz.prog 59 2:=⟨⟨_,Tryz.underlying59,trivial⟩,by kernel_rfl⟩

theorem sK:gL Tryz.prog 59=some ([i6 0,i6 0],[(0,1),(1,1)]):=by kernel_rfl

theorem aHv:Tryz.prog.eqGuardType Tryz.prog.depth 59=false:=by kernel_rfl

theorem aEp (x0:Int) (x1:Int) (y0:Int) (y1:Int) (w:World):(Op.equalIn 10000 59 (.agg #[i6 x0,i6 x1]) (.agg #[i6 y0,i6 y1])).run Tryz.prog w=.ok (x0 == y0 && x1 == y1) w:=by
 rw [run_equalIn_agg w 9999 59 _ _ (by kernel_rfl) (by kernel_rfl)]
 simp [Op.eqFields,part,go_sem]
 repeat' split
 all_goals simp_all

theorem en_42:En Tryz.prog 42:=En.of Tryz.func42 (by kernel_rfl) (by kernel_rfl)

theorem aKh:En Tryz.prog 82:=En.of Tryz.func82 (by kernel_rfl) (by kernel_rfl)

theorem aJ9:En Tryz.prog 41:=En.of Tryz.func41 (by kernel_rfl) (by kernel_rfl)

theorem aDt:ScT Tryz.prog 96:=⟨⟨_,Tryz.underlying96,trivial⟩,by kernel_rfl⟩

theorem zr_4:(Tryz.prog.info? 4).map (·.zero)=some (some (.bool false)):=by kernel_rfl

theorem aIh:SlT Tryz.prog 50 59 2 16 (.agg #[i6 0,i6 0]):=SlT.of Tryz.underlying50 (by kernel_rfl) (by decide)

theorem sz_50:(Tryz.prog.info? 50).map (·.size)=some 1:=by kernel_rfl

theorem aJ3:En Tryz.prog 39:=En.of Tryz.func39 (by kernel_rfl) (by kernel_rfl)

theorem aIs:En Tryz.prog 81:=En.of Tryz.func81 (by kernel_rfl) (by kernel_rfl)

theorem en_16:En Tryz.prog 16:=En.of Tryz.func16 (by kernel_rfl) (by kernel_rfl)

theorem aHh:En Tryz.prog 6:=En.of Tryz.func6 (by kernel_rfl) (by kernel_rfl)

theorem aKa:En Tryz.prog 18:=En.of Tryz.func18 (by kernel_rfl) (by kernel_rfl)

theorem en_17:En Tryz.prog 17:=En.of Tryz.func17 (by kernel_rfl) (by kernel_rfl)

theorem aKg:gL Tryz.prog 26=some ([.slice none 0 0,.slice none 0 0],[(0,1),(1,1)]):=by kernel_rfl

theorem en_7:En Tryz.prog 7:=En.of Tryz.func7 (by kernel_rfl) (by kernel_rfl)

theorem en_9:En Tryz.prog 9:=En.of Tryz.func9 (by kernel_rfl) (by kernel_rfl)

theorem aHc:En Tryz.prog 11:=En.of Tryz.func11 (by kernel_rfl) (by kernel_rfl)

theorem aFi:En Tryz.prog 12:=En.of Tryz.func12 (by kernel_rfl) (by kernel_rfl)

theorem aGw:En Tryz.prog 23:=En.of Tryz.func23 (by kernel_rfl) (by kernel_rfl)

theorem aB4:(Tryz.prog.info? 59).map (·.zero)=some (some (.agg #[i6 0,i6 0])):=by kernel_rfl

theorem aJm:(Tryz.prog.info? 47).map (·.zero)=some (some (.pointer none)):=by kernel_rfl

theorem aJh:(Tryz.prog.info? 31).map (·.zero)=some (some (i6 0)):=by kernel_rfl

theorem aJ4:(Tryz.prog.info? 47).map (·.size)=some 1:=by kernel_rfl

theorem aCx:(Tryz.prog.info? 31).map (·.size)=some 1:=by kernel_rfl

theorem aBk:ScT Tryz.prog 31:=⟨⟨_,Tryz.underlying31,trivial⟩,by kernel_rfl⟩

theorem en_45:En Tryz.prog 45:=En.of Tryz.func45 (by kernel_rfl) (by kernel_rfl)

theorem xY:(Tryz.prog.info? 107).map (·.zero)=some (some (.agg #[.slice none 0 0,.slice none 0 0,.slice none 0 0,.slice none 0 0,.slice none 0 0,.slice none 0 0,.slice none 0 0,.slice none 0 0,.slice none 0 0,.slice none 0 0,.slice none 0 0,.slice none 0 0])):=by kernel_rfl

theorem aCj:xL Tryz.prog 107 12:=⟨⟨_,Tryz.underlying107,trivial⟩,by kernel_rfl⟩

theorem aCu:(Tryz.prog.info? 107).map (·.size)=some 12:=by kernel_rfl

theorem aJq:En Tryz.prog 47:=En.of Tryz.func47 (by kernel_rfl) (by kernel_rfl)

theorem en_49:En Tryz.prog 49:=En.of Tryz.func49 (by kernel_rfl) (by kernel_rfl)

theorem en_24:En Tryz.prog 24:=En.of Tryz.func24 (by kernel_rfl) (by kernel_rfl)

theorem aKq:ScT Tryz.prog 103:=⟨⟨_,Tryz.underlying103,trivial⟩,by kernel_rfl⟩

theorem aCh:∀ (q:Addr) (w:World),(Instr.fieldAt 59 (.pointer (some q)) 0).run Tryz.prog w=.ok (.pointer (some (q.add 0))) w:=fun _ _=>by kernel_rfl

theorem sY:∀ (q:Addr) (w:World),(Instr.fieldAt 59 (.pointer (some q)) 1).run Tryz.prog w=.ok (.pointer (some (q.add 1))) w:=fun _ _=>by kernel_rfl

theorem en_52:En Tryz.prog 52:=En.of Tryz.func52 (by kernel_rfl) (by kernel_rfl)

theorem en_86:En Tryz.prog 86:=En.of Tryz.func86 (by kernel_rfl) (by kernel_rfl)

theorem aKd:En Tryz.prog 51:=En.of Tryz.func51 (by kernel_rfl) (by kernel_rfl)

theorem sz_4:(Tryz.prog.info? 4).map (·.size)=some 1:=by kernel_rfl

theorem sc_4:ScT Tryz.prog 4:=⟨⟨_,Tryz.underlying4,trivial⟩,by kernel_rfl⟩

theorem aKw:En Tryz.prog 106:=En.of Tryz.func106 (by kernel_rfl) (by kernel_rfl)

theorem en_87:En Tryz.prog 87:=En.of Tryz.func87 (by kernel_rfl) (by kernel_rfl)

theorem en_53:En Tryz.prog 53:=En.of Tryz.func53 (by kernel_rfl) (by kernel_rfl)

theorem en_25:En Tryz.prog 25:=En.of Tryz.func25 (by kernel_rfl) (by kernel_rfl)

theorem aHm:(Tryz.prog.info? 73).map (·.zero)=some (some (.agg #[i6 0,i6 0])):=by kernel_rfl

theorem aAf:gL Tryz.prog 73=some ([i6 0,i6 0],[(0,1),(1,1)]):=by kernel_rfl

theorem wD:(Tryz.prog.info? 73).map (·.size)=some 2:=by kernel_rfl

theorem qG:xL Tryz.prog 73 2:=⟨⟨_,Tryz.underlying73,trivial⟩,by kernel_rfl⟩

theorem aAr:En Tryz.prog 34:=En.of Tryz.func34 (by kernel_rfl) (by kernel_rfl)

theorem aHa:gL Tryz.prog 118=some ([i6 0,i6 0,i6 0,i6 0,i6 0,i6 0],[(0,2),(2,2),(4,1),(5,1)]):=by kernel_rfl

theorem sl_67:SlT Tryz.prog 67 118 6 48 (.agg #[i6 0,i6 0,i6 0,i6 0,i6 0,i6 0]):=SlT.of Tryz.underlying67 (by kernel_rfl) (by decide)

theorem aIv:En Tryz.prog 27:=En.of Tryz.func27 (by kernel_rfl) (by kernel_rfl)

theorem qL:(Tryz.prog.info? 118).map (·.size)=some 6:=by kernel_rfl

theorem aCm:xL Tryz.prog 118 6:=⟨⟨_,Tryz.underlying118,trivial⟩,by kernel_rfl⟩

theorem aKp:ScT Tryz.prog 140:=⟨⟨_,Tryz.underlying140,trivial⟩,by kernel_rfl⟩

theorem wN:∀ (q:Addr) (w:World),(Instr.fieldAt 118 (.pointer (some q)) 0).run Tryz.prog w=.ok (.pointer (some (q.add 0))) w:=fun _ _=>by kernel_rfl

theorem zU:∀ (q:Addr) (w:World),(Instr.fieldAt 73 (.pointer (some q)) 0).run Tryz.prog w=.ok (.pointer (some (q.add 0))) w:=fun _ _=>by kernel_rfl

theorem pQ:∀ (q:Addr) (w:World),(Instr.fieldAt 73 (.pointer (some q)) 1).run Tryz.prog w=.ok (.pointer (some (q.add 1))) w:=fun _ _=>by kernel_rfl

theorem aFg:En Tryz.prog 55:=En.of Tryz.func55 (by kernel_rfl) (by kernel_rfl)

theorem aJj:En Tryz.prog 90:=En.of Tryz.func90 (by kernel_rfl) (by kernel_rfl)

theorem wK:∀ (q:Addr) (w:World),(Instr.fieldAt 118 (.pointer (some q)) 1).run Tryz.prog w=.ok (.pointer (some (q.add 2))) w:=fun _ _=>by kernel_rfl

theorem wS:∀ (q:Addr) (w:World),(Instr.fieldAt 118 (.pointer (some q)) 2).run Tryz.prog w=.ok (.pointer (some (q.add 4))) w:=fun _ _=>by kernel_rfl

theorem uC:∀ (q:Addr) (w:World),(Instr.fieldAt 118 (.pointer (some q)) 3).run Tryz.prog w=.ok (.pointer (some (q.add 5))) w:=fun _ _=>by kernel_rfl

theorem en_89:En Tryz.prog 89:=En.of Tryz.func89 (by kernel_rfl) (by kernel_rfl)

theorem aKj:En Tryz.prog 108:=En.of Tryz.func108 (by kernel_rfl) (by kernel_rfl)

theorem aKm:En Tryz.prog 114:=En.of Tryz.func114 (by kernel_rfl) (by kernel_rfl)

theorem aKs:En Tryz.prog 107:=En.of Tryz.func107 (by kernel_rfl) (by kernel_rfl)

theorem en_88:En Tryz.prog 88:=En.of Tryz.func88 (by kernel_rfl) (by kernel_rfl)

theorem aJ2:En Tryz.prog 54:=En.of Tryz.func54 (by kernel_rfl) (by kernel_rfl)

theorem aG6:(Tryz.prog.info? 115).map (·.zero)=some (some (.agg #[.nilFunc])):=by kernel_rfl

theorem aHz:gL Tryz.prog 115=some ([.nilFunc],[(0,1)]):=by kernel_rfl

theorem aHq:(Tryz.prog.info? 115).map (·.size)=some 1:=by kernel_rfl

theorem aB7:xL Tryz.prog 115 1:=⟨⟨_,Tryz.underlying115,trivial⟩,by kernel_rfl⟩

theorem aHi:En Tryz.prog 57:=En.of Tryz.func57 (by kernel_rfl) (by kernel_rfl)

theorem aHw:(Tryz.prog.info? 118).map (·.zero)=some (some (.agg #[i6 0,i6 0,i6 0,i6 0,i6 0,i6 0])):=by kernel_rfl

theorem sM:∀ (q:Addr) (w:World),(Instr.fieldAt 115 (.pointer (some q)) 0).run Tryz.prog w=.ok (.pointer (some (q.add 0))) w:=fun _ _=>by kernel_rfl

theorem yG:ScT Tryz.prog 113:=⟨⟨_,Tryz.underlying113,trivial⟩,by kernel_rfl⟩

theorem aGz:En Tryz.prog 91:=En.of Tryz.func91 (by kernel_rfl) (by kernel_rfl)

theorem aJt:En Tryz.prog 56:=En.of Tryz.func56 (by kernel_rfl) (by kernel_rfl)

theorem aFh:En Tryz.prog 58:=En.of Tryz.func58 (by kernel_rfl) (by kernel_rfl)

theorem aHf:En Tryz.prog 92:=En.of Tryz.func92 (by kernel_rfl) (by kernel_rfl)

theorem aGp:SlT Tryz.prog 64 73 2 16 (.agg #[i6 0,i6 0]):=SlT.of Tryz.underlying64 (by kernel_rfl) (by decide)

theorem aJw:En Tryz.prog 26:=En.of Tryz.func26 (by kernel_rfl) (by kernel_rfl)

theorem en_28:En Tryz.prog 28:=En.of Tryz.func28 (by kernel_rfl) (by kernel_rfl)

theorem aJx:Tryz.prog.eqGuardType Tryz.prog.depth 73=false:=by kernel_rfl

theorem aHe (x0:Int) (x1:Int) (y0:Int) (y1:Int) (w:World):(Op.equalIn 10000 73 (.agg #[i6 x0,i6 x1]) (.agg #[i6 y0,i6 y1])).run Tryz.prog w=.ok (x0 == y0 && x1 == y1) w:=by
 rw [run_equalIn_agg w 9999 73 _ _ (by kernel_rfl) (by kernel_rfl)]
 simp [Op.eqFields,part,go_sem]
 repeat' split
 all_goals simp_all

theorem en_29:En Tryz.prog 29:=En.of Tryz.func29 (by kernel_rfl) (by kernel_rfl)

theorem en_30:En Tryz.prog 30:=En.of Tryz.func30 (by kernel_rfl) (by kernel_rfl)

theorem aEz:(Tryz.prog.info? 80).map (·.zero)=some (some (.agg #[i6 0,i6 0,i6 0,i6 0,.slice none 0 0])):=by kernel_rfl

theorem aHy:gL Tryz.prog 85=some ([i6 0,i6 0,i6 0,i6 0],[(0,1),(1,1),(2,2)]):=by kernel_rfl

theorem aAi:SlT Tryz.prog 78 85 4 32 (.agg #[i6 0,i6 0,i6 0,i6 0]):=SlT.of Tryz.underlying78 (by kernel_rfl) (by decide)

theorem bt_80:gL Tryz.prog 80=some ([i6 0,i6 0,i6 0,i6 0,.slice none 0 0],[(0,1),(1,1),(2,1),(3,1),(4,1)]):=by kernel_rfl

theorem aDk:(Tryz.prog.info? 80).map (·.size)=some 5:=by kernel_rfl

theorem mW:xL Tryz.prog 80 5:=⟨⟨_,Tryz.underlying80,trivial⟩,by kernel_rfl⟩

theorem aG4:En Tryz.prog 32:=En.of Tryz.func32 (by kernel_rfl) (by kernel_rfl)

theorem jU:∀ (q:Addr) (w:World),(Instr.fieldAt 80 (.pointer (some q)) 4).run Tryz.prog w=.ok (.pointer (some (q.add 4))) w:=fun _ _=>by kernel_rfl

theorem tI:ScT Tryz.prog 78:=⟨⟨_,Tryz.underlying78,trivial⟩,by kernel_rfl⟩

theorem wL:∀ (q:Addr) (w:World),(Instr.fieldAt 80 (.pointer (some q)) 0).run Tryz.prog w=.ok (.pointer (some (q.add 0))) w:=fun _ _=>by kernel_rfl

theorem aEw:∀ (q:Addr) (w:World),(Instr.fieldAt 80 (.pointer (some q)) 1).run Tryz.prog w=.ok (.pointer (some (q.add 1))) w:=fun _ _=>by kernel_rfl

theorem aFo:∀ (q:Addr) (w:World),(Instr.fieldAt 80 (.pointer (some q)) 2).run Tryz.prog w=.ok (.pointer (some (q.add 2))) w:=fun _ _=>by kernel_rfl

theorem aEq:∀ (q:Addr) (w:World),(Instr.fieldAt 80 (.pointer (some q)) 3).run Tryz.prog w=.ok (.pointer (some (q.add 3))) w:=fun _ _=>by kernel_rfl

theorem rD:(Tryz.prog.info? 85).map (·.size)=some 4:=by kernel_rfl

theorem qI:xL Tryz.prog 85 4:=⟨⟨_,Tryz.underlying85,trivial⟩,by kernel_rfl⟩

theorem aGs:ScT Tryz.prog 125:=⟨⟨_,Tryz.underlying125,trivial⟩,by kernel_rfl⟩

theorem oG:∀ (q:Addr) (w:World),(Instr.fieldAt 85 (.pointer (some q)) 0).run Tryz.prog w=.ok (.pointer (some (q.add 0))) w:=fun _ _=>by kernel_rfl

theorem zJ:∀ (q:Addr) (w:World),(Instr.fieldAt 85 (.pointer (some q)) 1).run Tryz.prog w=.ok (.pointer (some (q.add 1))) w:=fun _ _=>by kernel_rfl

theorem vA:∀ (q:Addr) (w:World),(Instr.fieldAt 85 (.pointer (some q)) 2).run Tryz.prog w=.ok (.pointer (some (q.add 2))) w:=fun _ _=>by kernel_rfl

theorem en_93:En Tryz.prog 93:=En.of Tryz.func93 (by kernel_rfl) (by kernel_rfl)

theorem aJz:En Tryz.prog 99:=En.of Tryz.func99 (by kernel_rfl) (by kernel_rfl)

theorem aHl:En Tryz.prog 111:=En.of Tryz.func111 (by kernel_rfl) (by kernel_rfl)

theorem aJn:En Tryz.prog 98:=En.of Tryz.func98 (by kernel_rfl) (by kernel_rfl)

theorem aJ5:En Tryz.prog 66:=En.of Tryz.func66 (by kernel_rfl) (by kernel_rfl)

theorem aH3:En Tryz.prog 59:=En.of Tryz.func59 (by kernel_rfl) (by kernel_rfl)

theorem aDh:(Tryz.prog.info? 85).map (·.zero)=some (some (.agg #[i6 0,i6 0,i6 0,i6 0])):=by kernel_rfl

theorem aIg:En Tryz.prog 70:=En.of Tryz.func70 (by kernel_rfl) (by kernel_rfl)

theorem aJl:En Tryz.prog 94:=En.of Tryz.func94 (by kernel_rfl) (by kernel_rfl)

theorem aDu:En Tryz.prog 60:=En.of Tryz.func60 (by kernel_rfl) (by kernel_rfl)

theorem en_31:En Tryz.prog 31:=En.of Tryz.func31 (by kernel_rfl) (by kernel_rfl)

theorem en_95:En Tryz.prog 95:=En.of Tryz.func95 (by kernel_rfl) (by kernel_rfl)

theorem en_96:En Tryz.prog 96:=En.of Tryz.func96 (by kernel_rfl) (by kernel_rfl)

theorem en_97:En Tryz.prog 97:=En.of Tryz.func97 (by kernel_rfl) (by kernel_rfl)

theorem en_61:En Tryz.prog 61:=En.of Tryz.func61 (by kernel_rfl) (by kernel_rfl)

theorem aC9:En Tryz.prog 65:=En.of Tryz.func65 (by kernel_rfl) (by kernel_rfl)

theorem aJp:En Tryz.prog 64:=En.of Tryz.func64 (by kernel_rfl) (by kernel_rfl)

theorem aKe:En Tryz.prog 62:=En.of Tryz.func62 (by kernel_rfl) (by kernel_rfl)

theorem en_33:En Tryz.prog 33:=En.of Tryz.func33 (by kernel_rfl) (by kernel_rfl)

theorem aHs:(Tryz.prog.info? 78).map (·.size)=some 1:=by kernel_rfl

theorem en_67:En Tryz.prog 67:=En.of Tryz.func67 (by kernel_rfl) (by kernel_rfl)

theorem en_68:En Tryz.prog 68:=En.of Tryz.func68 (by kernel_rfl) (by kernel_rfl)

theorem en_69:En Tryz.prog 69:=En.of Tryz.func69 (by kernel_rfl) (by kernel_rfl)

theorem en_35:En Tryz.prog 35:=En.of Tryz.func35 (by kernel_rfl) (by kernel_rfl)

theorem bt_89:gL Tryz.prog 89=some ([i6 0,i6 0,i6 0],[(0,1),(1,1),(2,1)]):=by kernel_rfl

theorem aFu:∀ (q:Addr) (w:World),(Instr.fieldAt 89 (.pointer (some q)) 0).run Tryz.prog w=.ok (.pointer (some (q.add 0))) w:=fun _ _=>by kernel_rfl

theorem aE4:∀ (q:Addr) (w:World),(Instr.fieldAt 89 (.pointer (some q)) 1).run Tryz.prog w=.ok (.pointer (some (q.add 1))) w:=fun _ _=>by kernel_rfl

theorem aFb:∀ (q:Addr) (w:World),(Instr.fieldAt 89 (.pointer (some q)) 2).run Tryz.prog w=.ok (.pointer (some (q.add 2))) w:=fun _ _=>by kernel_rfl

theorem en_71:En Tryz.prog 71:=En.of Tryz.func71 (by kernel_rfl) (by kernel_rfl)

theorem en_36:En Tryz.prog 36:=En.of Tryz.func36 (by kernel_rfl) (by kernel_rfl)

theorem en_13:En Tryz.prog 13:=En.of Tryz.func13 (by kernel_rfl) (by kernel_rfl)

def wE (N:Nat) (B:List Int):Option (Int × Int) :=
 some (0,0)
theorem aAx {N:Nat} {G:aO} {Lf:List Ent} {w:World} (H:List Int) {D:Option Addr} {B:Nat} (M:Rd G 1 D B (H.map oF)) (hc:Ctx G (Lf) w) {I:Int × Int} (hF:wE N H=some I):Calls Tryz.prog 5 #[.slice D H.length B] w (fun e w=>∃ (J:Nat),e=.returned (pq J)∧Ctx G (.box J [.slice D H.length B,i6 I.1,i6 I.2] 46::Lf) w):=by
 unfold wE at hF
 refine bI Tryz.func5 rfl Tryz.ntmps5 rfl fun a hf=>zS fun K h=>sp 1 hf rfl fun a hf=>zT h ?_
 refine zS fun K h=>sp 1 hf rfl fun a hf=>zP hf rfl (cF (cells:=[.slice D H.length B,i6 0,i6 0]) bt_46 rfl rfl) fun a hf=>zB hf hc rfl fun O a w hf hc=>sp 1 hf rfl fun a hf=>zT h ?_
 refine wp_ret ?_
 obtain rfl:=sj hF
 exact zO1 Tryz.results5 hf rfl ⟨O,rfl,hc⟩

def eU (N:Nat) (s_:bD) (n:Int) (D:Int) (B:Int):Option (Int × Int × Int) :=
 Option.bind (nz n) fun H=>
 some (B.tmod n,W (s_.used + 1),(W ((W ((W (5 * s_.mix)) + D)) + 1)).tmod 251)
def eW (N:Nat) (s_:bD) (n:Int) (B:Int):Option (Int × Int × Int) :=
 cond (decide (256 < n))
 (eU N s_ n B (W ((W (256 * B)) + ((W ((W ((W (5 * s_.mix)) + B)) + 1)).tmod 251))))
 (eU N s_ n B B)
def fO (N:Nat) (s_:bD) (n:Int):Option (Int × Int × Int) :=
 cond ((decide (n < 2)) || (((s_.bytes.length:Nat):Int) == 0))
 (some (0,s_.used,s_.mix))
 (Option.bind (nz ((s_.bytes.length:Nat):Int)) fun un=>
 Option.bind (bH s_.bytes (s_.used.tmod ((s_.bytes.length:Nat):Int))) fun B=>
 cond (decide (((s_.bytes.length:Nat):Int)≤s_.used))
 (Option.bind (nz ((s_.bytes.length:Nat):Int)) fun D=>
 eW N s_ n (W ((W (B)) + (W ((W (11 * s_.mix)) + (W (s_.used.tdiv ((s_.bytes.length:Nat):Int))))))))
 (eW N s_ n (W (B))))
theorem kE {N:Nat} {G:aO} {Lf:List Ent} {w:World} (s_:bD) (n:Int) {b_:Nat} {D:Option Addr} {B:Nat} (J:Rd G 1 D B (s_.bytes.map oF)) (hc:Ctx G (.box b_ [.slice D s_.bytes.length B,i6 s_.used,i6 s_.mix] 46::Lf) w) {I:Int × Int × Int} (hF:fO N s_ n=some I):Calls Tryz.prog 10 #[pq b_,i6 n] w (fun e w=>e=.returned (i6 I.1)∧Ctx G (.box b_ [.slice D s_.bytes.length B,i6 I.2.1,i6 I.2.2] 46::Lf) w):=by
 unfold fO at hF
 refine bI Tryz.func10 rfl Tryz.ntmps10 rfl fun a hf=>zS fun K h=>sp 1 hf rfl fun a hf=>zT h ?_
 refine wp_seq_k fun K2 h2=>zS fun K h=>sp 3 hf rfl fun a hf=>gX 7 (fun a=>Has 92 a [(0,pq b_),(1,i6 n),(6,i6 n),(7,.bool (decide (n < 2))),(8,.bool (decide (n < 2))),(15,.bool ((decide (n < 2)) || (((s_.bytes.length:Nat):Int) == 0)))]) hc ?_ ?_
 ·cases hb:(decide (n < 2))
  ·rw [hb] at hf
   refine sp 2 hf rfl fun a hf=>zP hf rfl (pFA wT rfl) fun a hf=>zL hf hc aDq m0 rfl fun a w hf hc=>zP hf rfl (bC Tryz.underlying22 rfl) fun a hf=>sp 2 hf rfl fun a hf=>aP ⟨hf.kp rfl,hc⟩
  ·rw [hb] at hf
   refine stS hf rfl rfl rfl fun a hf=>stS hf rfl rfl rfl fun a hf=>stS hf rfl rfl rfl fun a hf=>stS hf rfl rfl rfl fun a hf=>stS hf rfl rfl rfl fun a hf=>stS hf rfl rfl rfl fun a hf=>sp 1 hf rfl fun a hf=>aP ⟨hf.kp rfl,hc⟩
 intro a w ⟨hf,hc⟩
 refine zT h ?_
 refine zI hf rfl hF ?_ ?_ <;> clear hF <;> intro hF
 ·refine zS fun K h=>sp 1 hf rfl fun a hf=>zT h ?_
  refine wp_ret ?_
  refine aN ?_
  obtain rfl:=sj hF
  exact zO1 Tryz.results10 hf rfl ⟨rfl,hc⟩
 ·refine wp_skip ?_
  refine h2 _ _ ?_
  refine wp_seq_k fun K5 h5=>?_
  obtain ⟨un,Z,hF⟩:=aA hF
  obtain ⟨S,X,hF⟩:=aA hF
  obtain ⟨g,o,qa,qp⟩:=J.atm X
  refine cQ hc aU (by kernel_rfl) ?_
  refine qE hf rfl rfl rfl (Pu.ev (pM rfl)) fun a hf=>qE hf rfl rfl rfl (Pu.ev (pNC rfl)) fun a hf=>qE hf rfl rfl rfl (Pu.ev (pFA wT rfl)) fun a hf=>qE hf rfl rfl rfl (bT aDq rfl (bU m0 rfl)) fun a hf=>qE hf rfl rfl rfl (Pu.ev (pM rfl)) fun a hf=>qE hf rfl rfl rfl (Pu.ev (pNC rfl)) fun a hf=>qE hf rfl rfl rfl (Pu.ev (pFA wX rfl)) fun a hf=>qE hf rfl rfl rfl (bT bA rfl (bU m0 rfl)) fun a hf=>qE hf rfl rfl rfl (Pu.ev (pM rfl)) fun a hf=>qE hf rfl rfl rfl (Pu.ev (pNC rfl)) fun a hf=>qE hf rfl rfl rfl (Pu.ev (pFA wT rfl)) fun a hf=>qE hf rfl rfl rfl (bT aDq rfl (bU m0 rfl)) fun a hf=>qE hf rfl rfl rfl (Pu.ev (bC Tryz.underlying22 rfl)) fun a hf=>?_
  refine qE hf rfl rfl rfl (Pu.ev (pRem rfl rfl (zX Z))) fun a hf=>qE hf rfl rfl rfl (Pu.ev (pIA Tryz.underlying22 sz_5 rfl rfl qa)) fun a hf=>qE hf rfl rfl rfl (bT sc_5 rfl (bL (j:=0) qp rfl)) fun a hf=>qE hf rfl rfl rfl (Pu.ev (pCv Tryz.underlying5 Tryz.underlying3 rfl)) fun a hf=>qE hf rfl rfl rfl (Pu.ev (pA rfl)) fun a hf=>?_
  intro w hc
  refine h5 _ _ ?_
  refine wp_seq_k fun K6 h6=>?_
  have U:∀ (H:Int) a w,Has 92 a [(0,pq b_),(1,i6 n),(5,i6 H)]→Ctx G (.box b_ [.slice D s_.bytes.length B,i6 s_.used,i6 s_.mix] 46::Lf) w→eW N s_ n H=some I→K6 a w:=by
   repeat (clear hF)
   repeat (clear hc)
   repeat (clear hf)
   intro H a w hf hc hF
   unfold eW at hF
   refine h6 _ _ ?_
   refine zS fun K h=>sp 3 hf rfl fun a hf=>zP hf rfl (pFA zV rfl) fun a hf=>zL hf hc bA m0 rfl fun a w hf hc=>sp 4 hf rfl fun a hf=>zP hf rfl (pRem rfl rfl (by decide)) fun a hf=>sp 1 hf rfl fun a hf=>zP hf rfl (pFA zV rfl) fun a hf=>zW hf hc eL u0 rfl fun w hc=>zT h ?_
   refine zS fun K h=>sp 2 hf rfl fun a hf=>zP hf rfl (pFA wX rfl) fun a hf=>zL hf hc bA m0 rfl fun a w hf hc=>sp 2 hf rfl fun a hf=>zP hf rfl (pFA wX rfl) fun a hf=>zW hf hc eL u0 rfl fun w hc=>zT h ?_
   refine wp_seq_k fun K9 h9=>?_
   have V:∀ (M:Int) a w,Has 92 a [(1,i6 n),(5,i6 M)]→Ctx G (.box b_ [.slice D s_.bytes.length B,i6 (W (s_.used + 1)),i6 ((W ((W ((W (5 * s_.mix)) + H)) + 1)).tmod 251)] 46::Lf) w→eU N s_ n H M=some I→K9 a w:=by
    repeat (clear hF)
    repeat (clear hc)
    repeat (clear hf)
    intro M a w hf hc hF
    unfold eU at hF
    refine h9 _ _ ?_
    refine zS fun K h=>sp 2 hf rfl fun a hf=>?_
    obtain ⟨b,R,hF⟩:=aA hF
    refine zP hf rfl (pRem rfl rfl (zX R)) fun a hf=>sp 1 hf rfl fun a hf=>zT h ?_
    refine wp_ret ?_
    obtain rfl:=sj hF
    exact zO1 Tryz.results10 hf rfl ⟨rfl,hc⟩
   refine zS fun K h=>sp 2 hf rfl fun a hf=>zT h ?_
   refine zI hf rfl hF ?_ ?_ <;> clear hF <;> intro hF
   ·refine cJ ?_
    refine sp 4 hf rfl fun a hf=>zP hf rfl (pFA zV rfl) fun a hf=>zL hf hc bA m0 rfl fun a w hf hc=>sp 2 hf rfl fun a hf=>aP ?_
    exact V (W ((W (256 * H)) + ((W ((W ((W (5 * s_.mix)) + H)) + 1)).tmod 251))) _ _  (hf.kp rfl) hc hF
   ·refine wp_skip ?_
    exact V H _ _  (hf.kp rfl) hc hF
  refine wp_seq_k fun K12 Y=>cQ hc aU (by kernel_rfl) ?_
  refine qE hf rfl rfl rfl (Pu.ev (pM rfl)) fun a hf=>qE hf rfl rfl rfl (Pu.ev (pNC rfl)) fun a hf=>qE hf rfl rfl rfl (Pu.ev (pFA wX rfl)) fun a hf=>qE hf rfl rfl rfl (bT bA rfl (bU m0 rfl)) fun a hf=>qE hf rfl rfl rfl (Pu.ev (pM rfl)) fun a hf=>qE hf rfl rfl rfl (Pu.ev (pNC rfl)) fun a hf=>qE hf rfl rfl rfl (Pu.ev (pFA wT rfl)) fun a hf=>qE hf rfl rfl rfl (bT aDq rfl (bU m0 rfl)) fun a hf=>qE hf rfl rfl rfl (Pu.ev (bC Tryz.underlying22 rfl)) fun a hf=>qE hf rfl rfl rfl (Pu.ev (pGe rfl rfl)) fun a hf=>?_
  intro w hc
  refine Y _ _ ?_
  refine zI hf rfl hF ?_ ?_ <;> clear hF <;> intro hF
  ·obtain ⟨d,O,hF⟩:=aA hF
   refine cQ hc aU (by kernel_rfl) ?_
   refine qE hf rfl rfl rfl (Pu.ev (pM rfl)) fun a hf=>qE hf rfl rfl rfl (Pu.ev (pM rfl)) fun a hf=>qE hf rfl rfl rfl (Pu.ev (pNC rfl)) fun a hf=>qE hf rfl rfl rfl (Pu.ev (pFA zV rfl)) fun a hf=>qE hf rfl rfl rfl (bT bA rfl (bU m0 rfl)) fun a hf=>qE hf rfl rfl rfl (Pu.ev (pMul rfl rfl)) fun a hf=>qE hf rfl rfl rfl (Pu.ev (pM rfl)) fun a hf=>qE hf rfl rfl rfl (Pu.ev (pNC rfl)) fun a hf=>qE hf rfl rfl rfl (Pu.ev (pFA wX rfl)) fun a hf=>qE hf rfl rfl rfl (bT bA rfl (bU m0 rfl)) fun a hf=>qE hf rfl rfl rfl (Pu.ev (pM rfl)) fun a hf=>qE hf rfl rfl rfl (Pu.ev (pNC rfl)) fun a hf=>qE hf rfl rfl rfl (Pu.ev (pFA wT rfl)) fun a hf=>?_
   refine qE hf rfl rfl rfl (bT aDq rfl (bU m0 rfl)) fun a hf=>qE hf rfl rfl rfl (Pu.ev (bC Tryz.underlying22 rfl)) fun a hf=>qE hf rfl rfl rfl (Pu.ev (pQuo rfl rfl (zX O))) fun a hf=>qE hf rfl rfl rfl (Pu.ev (aIm rfl rfl)) fun a hf=>qE hf rfl rfl rfl (Pu.ev (aIm rfl rfl)) fun a hf=>qE hf rfl rfl rfl (Pu.ev (pA rfl)) fun a hf=>?_
   intro w hc
   exact U (W ((W (S)) + (W ((W (11 * s_.mix)) + (W (s_.used.tdiv ((s_.bytes.length:Nat):Int))))))) _ _  (hf.kp rfl) hc hF
  ·refine wp_skip ?_
   exact U (W (S)) _ _  (hf.kp rfl) hc hF

def fI (N:Nat) (s_:bD) (lo:Int) (B:Int):Option (Int × Int × Int) :=
 Option.bind (fO N s_ (W ((W (B - lo)) + 1))) fun r=>
 some (W (lo + r.1),r.2.1,r.2.2)
theorem lM {N:Nat} {G:aO} {Lf:List Ent} {w:World} (s_:bD) (lo:Int) (J:Int) {b_:Nat} {B:Option Addr} {D:Nat} (H:Rd G 1 B D (s_.bytes.map oF)) (hc:Ctx G (.box b_ [.slice B s_.bytes.length D,i6 s_.used,i6 s_.mix] 46::Lf) w) {I:Int × Int × Int} (hF:fI N s_ lo J=some I):Calls Tryz.prog 14 #[pq b_,i6 lo,i6 J] w (fun e w=>e=.returned (i6 I.1)∧Ctx G (.box b_ [.slice B s_.bytes.length D,i6 I.2.1,i6 I.2.2] 46::Lf) w):=by
 unfold fI at hF
 refine bI Tryz.func14 rfl Tryz.ntmps14 rfl fun a hf=>zS fun K h=>sp 1 hf rfl fun a hf=>zT h ?_
 refine zS fun K h=>sp 6 hf rfl fun a hf=>?_
 obtain ⟨r,hr,hF⟩:=aA hF
 refine zC hf aFk rfl (kE s_ (W ((W (J - lo)) + 1)) H (hc.pick k0) hr) ?_
 rintro _ w ⟨rfl,hc⟩
 refine ⟨_,rfl,fun a hf=>?_⟩
 refine sp 2 hf rfl fun a hf=>zT h ?_
 refine wp_ret ?_
 obtain rfl:=sj hF
 exact zO1 Tryz.results14 hf rfl ⟨rfl,hc⟩

def jV (N:Nat) (s_:bD) (n:Int) (out:List Int) (B:Int) (H:Int) (D:Int):Option (cK ((List Int) × Int × Int × Int) ((List Int) × Int × Int)) :=
 cond (decide (B < n))
 (Option.bind (fO N (⟨s_.bytes,H,D⟩:bD) (W (B + 1))) fun r=>
 Option.bind (room ((out++[B])).length) fun un=>
 Option.bind (bH (out++[B]) r.1) fun I=>
 Option.bind (bH (out++[B]) B) fun J=>
 Option.bind (bH (out++[B]) B) fun M=>
 Option.bind (bH (out++[B]) r.1) fun O=>
 some (.cont ((((out++[B]).set B.toNat I).set r.1.toNat J),W (B + 1),r.2.1,r.2.2)))
 (some (.brk (out,B,H,D)))
def sI (N:Nat) (s_:bD) (n:Int):Option ((List Int) × Int × Int) :=
 Option.bind (bE (fun s5=>jV N s_ n s5.1 s5.2.1 s5.2.2.1 s5.2.2.2) N (([]:List Int),0,s_.used,s_.mix)) fun x5=>
 exK x5 (fun s5=>some (s5.1,s5.2.2.1,s5.2.2.2)) some
theorem aCt {N:Nat} {G:aO} {Lf:List Ent} {w:World} (s_:bD) (n:Int) {b_:Nat} {H:Option Addr} {D:Nat} (Y:Rd G 1 H D (s_.bytes.map oF)) (hc:Ctx G (.box b_ [.slice H s_.bytes.length D,i6 s_.used,i6 s_.mix] 46::Lf) w) {X:(List Int) × Int × Int} (hF:sI N s_ n=some X):Calls Tryz.prog 19 #[pq b_,i6 n] w (fun e w=>∃ (u:Option Addr) (t:Nat),e=.returned (.slice u X.1.length t)∧Ctx G (.row u t (X.1.map aD) 3 1::.box b_ [.slice H s_.bytes.length D,i6 X.2.1,i6 X.2.2] 46::Lf) w):=by
 unfold sI at hF
 refine bI Tryz.func19 rfl Tryz.ntmps19 rfl fun a hf=>zS fun K h=>sp 1 hf rfl fun a hf=>zT h ?_
 refine zS fun K h=>sp 1 hf rfl fun a hf=>zT h ?_
 refine wp_seq_k fun K3 h3=>zS fun K h=>sp 1 hf rfl fun a hf=>zT h ?_
 refine wp_block ?_
 obtain ⟨x5,ag,hF⟩:=aA hF
 let S5:((List Int) × Int × Int × Int)→Act→World→Prop:=(fun (zz:(List Int) × Int × Int × Int) a w=>∃ (U:Option Addr) (V:Nat),Has 36 a [(0,pq b_),(1,i6 n),(5,.slice U zz.1.length V),(6,i6 zz.2.1)]∧Ctx G (.row U V (zz.1.map aD) 3 1::.box b_ [.slice H s_.bytes.length D,i6 zz.2.2.1,i6 zz.2.2.2] 46::Lf) w)
 have am:∀ (zz:(List Int) × Int × Int × Int) a w,x5=.go zz→S5 zz a w→K3 a w:=by
  rintro ⟨out,B,q,b⟩ a w rfl ⟨U,V,hf,hc⟩
  replace hF:=bP hF
  refine h3 _ _ ?_
  refine zS fun K h=>sp 2 hf rfl fun a hf=>zT h ?_
  refine wp_ret ?_
  obtain rfl:=sj hF
  exact zO1 Tryz.results19 hf rfl ⟨U,V,rfl,hc⟩
 have az:∀ r,x5=.out r→r=X:=by
  rintro r rfl
  exact sj hF
 replace hc:=hc.nilRow 3 1
 refine cR N (cL (S:=S5) (x:=x5) ?_ N (([]:List Int),0,s_.used,s_.mix) _ _ ⟨none,0,hf.kp rfl,hc⟩ ag)
 clear hF hf hc
 rintro ⟨out,B,q,b⟩ ay a w KB5 ⟨U,V,hf,hc⟩ hF Z aj
 unfold jV at hF
 refine wp_seq_k fun K7 h7=>zS fun K h=>sp 3 hf rfl fun a hf=>zT h ?_
 refine zI hf rfl hF ?_ ?_ <;> clear hF <;> intro hF
 ·refine wp_skip ?_
  refine h7 _ _ ?_
  refine wp_seq_k fun K9 h9=>wp_block ?_
  refine zS fun K h=>sp 3 hf rfl fun a hf=>?_
  obtain ⟨r,hr,hF⟩:=aA hF
  refine zC hf aFk rfl (kE (⟨s_.bytes,q,b⟩:bD) (W (B + 1)) Y (hc.pick k1) hr) ?_
  rintro _ w ⟨rfl,hc⟩
  refine ⟨_,rfl,fun a hf=>?_⟩
  refine sp 1 hf rfl fun a hf=>zT h ?_
  refine zS fun K h=>sp 2 hf rfl fun a hf=>jD (rows:=([B]:List Int).map aD) (vs:=[(0,i6 B)]) hf hc rfl rfl fN rfl ⟨rfl,rfl,rfl,trivial⟩ rfl rfl fun v a w hf hc=>?_
  obtain ⟨un,ap,hF⟩:=aA hF
  refine kY (xs:=out) (ys:=([B]:List Int)) hf hc rfl rfl fN rfl rfl rfl rfl rfl bF (fG hc m0) (fun _ _=>u2) (by simpa using cP ap) fun au M a w hf hc=>sp 1 hf rfl fun a hf=>zT h ?_
  obtain ⟨O,aa,hF⟩:=aA hF
  obtain ⟨g,rfl,qa,qr⟩:=hU hc m2 aa
  obtain ⟨R,ab,hF⟩:=aA hF
  obtain ⟨ad,y⟩:=jE hc m2 ab
  obtain ⟨ax,p,hF⟩:=aA hF
  obtain ⟨af,ar⟩:=jE hc m2 p
  obtain ⟨av,s,hF⟩:=aA hF
  obtain ⟨ac,aq⟩:=jE hc m2 s
  refine gK (fun θ=>[⟨none,none,0,pq b_⟩,⟨none,none,1,i6 n⟩,⟨none,none,5,.slice (some ⟨g,0,none⟩) ((out++[B]).length) M⟩,⟨none,none,6,i6 B⟩,⟨none,none,7,i6 r.1⟩,⟨some 0,none,21,.slice (some ⟨g,0,none⟩) ((out++[B]).length) M⟩,⟨some 1,none,22,i6 B⟩,⟨some 2,none,23,.slice (some ⟨g,0,none⟩) ((out++[B]).length) M⟩,⟨some 3,none,24,i6 r.1⟩,⟨some 4,none,25,.slice (some ⟨g,0,none⟩) ((out++[B]).length) M⟩,⟨some 5,none,26,i6 r.1⟩,⟨some 6,none,27,.pointer (some ⟨g,r.1.toNat * 1,none⟩)⟩,⟨some 7,none,28,i6 O⟩,⟨some 8,none,29,.slice (some ⟨g,0,none⟩) ((out++[B]).length) M⟩,⟨some 9,none,30,i6 B⟩,⟨some 10,none,31,.pointer (some ⟨g,B.toNat * 1,none⟩)⟩,⟨some 11,none,32,i6 R⟩,⟨some 12,none,33,.pointer (some ⟨g,B.toNat * 1,none⟩)⟩,⟨some 14,none,34,.pointer (some ⟨g,r.1.toNat * 1,none⟩)⟩]) (fun E θ=>.row (some ⟨v,0,none⟩) 1 (([B]:List Int).map aD) 3 1::.box b_ [.slice H s_.bytes.length D,i6 r.2.1,i6 r.2.2] 46::(bif E 15 then .row (some ⟨g,0,none⟩) M ((((out++[B]).set B.toNat O).set r.1.toNat R).map aD) 3 1 else bif E 13 then .row (some ⟨g,0,none⟩) M (((out++[B]).set B.toNat O).map aD) 3 1 else .row (some ⟨g,0,none⟩) M ((out++[B]).map aD) 3 1)::Lf) [(13,6),(15,6),(13,7),(15,7),(11,10),(13,11),(15,10),(15,11),(13,12),(15,12),(15,13),(15,14)] (fun a w=>Has 36 a [(0,pq b_),(1,i6 n),(5,.slice (some ⟨g,0,none⟩) ((out++[B]).length) M),(6,i6 B)]∧Ctx G (.row (some ⟨v,0,none⟩) 1 (([B]:List Int).map aD) 3 1::.box b_ [.slice H s_.bytes.length D,i6 r.2.1,i6 r.2.2] 46::.row (some ⟨g,0,none⟩) M ((((out++[B]).set B.toNat O).set r.1.toNat R).map aD) 3 1::Lf) w) aU (by kernel_rfl) (by kernel_rfl) (fB.of hf ⟨rfl,rfl,rfl,rfl,rfl,trivial,trivial,trivial,trivial,trivial,trivial,trivial,trivial,trivial,trivial,trivial,trivial,trivial,trivial,trivial⟩) hc ⟨?_,?_,?_,?_,?_,?_,?_,?_,?_,?_,?_,?_,?_,?_,?_,?_,trivial⟩ ?_ ?_
  ·intro E θ a w hD hi hp he hc
   have hf:=he.h0.mT he 2 rfl
   refine sp 1 hf rfl fun a hf=>zD θ he hi hf 5 rfl rfl rfl hc
  ·intro E θ a w hD hi hp he hc
   have hf:=he.h0.mT he 3 rfl
   refine sp 1 hf rfl fun a hf=>zD θ he hi hf 6 rfl rfl rfl hc
  ·intro E θ a w hD hi hp he hc
   have hf:=he.h0.mT he 2 rfl
   refine sp 1 hf rfl fun a hf=>zD θ he hi hf 7 rfl rfl rfl hc
  ·intro E θ a w hD hi hp he hc
   have hf:=he.h0.mT he 4 rfl
   refine sp 1 hf rfl fun a hf=>zD θ he hi hf 8 rfl rfl rfl hc
  ·intro E θ a w hD hi hp he hc
   have hf:=he.h0.mT he 2 rfl
   refine sp 1 hf rfl fun a hf=>zD θ he hi hf 9 rfl rfl rfl hc
  ·intro E θ a w hD hi hp he hc
   have hf:=he.h0.mT he 4 rfl
   refine sp 1 hf rfl fun a hf=>zD θ he hi hf 10 rfl rfl rfl hc
  ·intro E θ a w hD hi hp he hc
   have e4:=hp.o 4 rfl
   have e5:=hp.o 5 rfl
   have I:=hD.f 0 rfl hi
   have J:=hD.f 1 rfl hi
   try dsimp only at hc
   rw [I,J] at hc
   have hf:=(he.h0.mP he 9 rfl e4).mP he 10 rfl e5
   refine zP hf rfl (pIA Tryz.underlying30 eL rfl rfl qa) fun a hf=>zD θ he hi hf 11 rfl rfl rfl ?_
   try dsimp only
   rw [bB 6 I rfl,bB 6 J rfl]
   exact hc
  ·intro E θ a w hD hi hp he hc
   have e6:=hp.o 6 rfl
   have I:=hD.f 2 rfl hi
   have J:=hD.f 3 rfl hi
   try dsimp only at hc
   rw [I,J] at hc
   have hf:=he.h0.mP he 11 rfl e6
   refine zE hf hc rfl (bT bA rfl (eJ (sz:=1) (i:=r.1.toNat) (j:=0) m2 qr rfl)) fun a w hf hc=>zD θ he hi hf 12 rfl rfl rfl ?_
   try dsimp only
   rw [bB 7 I rfl,bB 7 J rfl]
   exact hc
  ·intro E θ a w hD hi hp he hc
   have hf:=he.h0.mT he 2 rfl
   refine sp 1 hf rfl fun a hf=>zD θ he hi hf 13 rfl rfl rfl hc
  ·intro E θ a w hD hi hp he hc
   have hf:=he.h0.mT he 3 rfl
   refine sp 1 hf rfl fun a hf=>zD θ he hi hf 14 rfl rfl rfl hc
  ·intro E θ a w hD hi hp he hc
   have e8:=hp.o 8 rfl
   have e9:=hp.o 9 rfl
   have m:=hD.f 4 rfl hi
   have I:=hD.f 5 rfl m
   have J:=hD.f 6 rfl hi
   try dsimp only at hc
   rw [I,J] at hc
   have hf:=(he.h0.mP he 13 rfl e8).mP he 14 rfl e9
   refine zP hf rfl (pIA Tryz.underlying30 eL rfl rfl ad) fun a hf=>zD θ he hi hf 15 rfl rfl rfl ?_
   try dsimp only
   rw [bB 10 I rfl,bB 10 J rfl]
   exact hc
  ·intro E θ a w hD hi hp he hc
   have an:=hp.o 10 rfl
   have I:=hD.f 5 rfl hi
   have J:=hD.f 7 rfl hi
   try dsimp only at hc
   rw [I,J] at hc
   have hf:=he.h0.mP he 15 rfl an
   refine zE hf hc rfl (bT bA rfl (eJ (sz:=1) (i:=B.toNat) (j:=0) m2 y rfl)) fun a w hf hc=>zD θ he hi hf 16 rfl rfl rfl ?_
   try dsimp only
   rw [bB 11 I rfl,bB 11 J rfl]
   exact hc
  ·intro E θ a w hD hi hp he hc
   have e0:=hp.o 0 rfl
   have e1:=hp.o 1 rfl
   have I:=hD.f 8 rfl hi
   have J:=hD.f 9 rfl hi
   try dsimp only at hc
   rw [I,J] at hc
   have hf:=(he.h0.mP he 5 rfl e0).mP he 6 rfl e1
   refine zP hf rfl (pIA Tryz.underlying30 eL rfl rfl af) fun a hf=>zD θ he hi hf 17 rfl rfl rfl ?_
   try dsimp only
   rw [bB 12 I rfl,bB 12 J rfl]
   exact hc
  ·intro E θ a w hD hi hp he hc
   have e7:=hp.o 7 rfl
   have ai:=hp.o 12 rfl
   have J:=hD.f 10 rfl hi
   try dsimp only at hc
   rw [hi,J] at hc
   have hf:=(he.h0.mP he 12 rfl e7).mP he 17 rfl ai
   refine aBi (sz:=1) (vs:=[i6 O]) (o':=0) (z:=O) (xs:=(out++[B])) hf hc rfl rfl rfl rfl eL rfl (fun x=>(bF x).1) (oE p) (fun _ _=>rfl) rfl u2 fun w hc=>zG θ he hi hf rfl ?_
   try dsimp only
   rw [aR E 13,bB 13 J rfl]
   exact hc
  ·intro E θ a w hD hi hp he hc
   have e2:=hp.o 2 rfl
   have e3:=hp.o 3 rfl
   have I:=hp.o 13 rfl
   have J:=hD.f 11 rfl hi
   try dsimp only at hc
   rw [I,J] at hc
   have hf:=(he.h0.mP he 7 rfl e2).mP he 8 rfl e3
   refine zP hf rfl (pIA Tryz.underlying30 eL rfl rfl ac) fun a hf=>zD θ he hi hf 18 rfl rfl rfl ?_
   try dsimp only
   rw [dK 14 I,bB 14 J rfl]
   exact hc
  ·intro E θ a w hD hi hp he hc
   have m:=hp.o 11 rfl
   have ak:=hp.o 14 rfl
   have I:=hp.o 13 rfl
   try dsimp only at hc
   rw [I,hi] at hc
   have hf:=(he.h0.mP he 16 rfl m).mP he 18 rfl ak
   refine aBi (sz:=1) (vs:=[i6 R]) (o':=0) (z:=R) (xs:=((out++[B]).set B.toNat O)) hf hc rfl rfl rfl rfl eL rfl (fun x=>(bF x).1) (by simpa using oE s) (fun _ _=>rfl) rfl u2 fun w hc=>zG θ he hi hf rfl ?_
   try dsimp only
   rw [dK 15 I,aR E 15]
   exact hc
  ·intro E θ a w d he hc
   have hf:=he.h0
   have I:=d 13 rfl
   have J:=d 15 rfl
   replace hf:=hf.more he 3 rfl (onT)
   replace hf:=hf.more he 2 rfl (onT)
   replace hf:=hf.more he 1 rfl (onT)
   replace hf:=hf.more he 0 rfl (onT)
   try dsimp only at hc
   rw [I,J] at hc
   exact ⟨hf.kp rfl,hc⟩
  rintro a w ⟨hf,hc⟩
  refine h9 _ _ ?_
  refine cJ ?_
  refine sp 3 hf rfl fun a hf=>aP ?_
  replace hf:=hf.castAt 5 (v':=.slice (some ⟨g,0,none⟩) ((((out++[B]).set B.toNat O).set r.1.toNat R).length) M) rfl (congrArg (fun k=>Value.slice (some ⟨g,0,none⟩) k M) (by simp))
  replace hc:=((hc.drop k0).pick k0).pick k1
  exact aj ((((out++[B]).set B.toNat O).set r.1.toNat R),W (B + 1),r.2.1,r.2.2) _ _ (sj hF).symm ⟨(some ⟨g,0,none⟩),M,hf.kp rfl,hc⟩
 ·refine wp_exit ?_
  refine aW ?_
  refine aW ?_
  have he:=sj hF
  rw [← he] at Z
  refine eV ?_
  exact am _ _ _ Z ⟨U,V,hf.kp rfl,hc⟩

def kK (N:Nat) (x:Int) (B:List Int) (H:Int) (D:Int):Option (cK ((List Int) × Int × Int × Int) ((List Int) × Int × Int)) :=
 some (.cont (B,W (x + 1),H,D))
def gM (N:Nat) (s_:bD) (r:(List Int) × Int × Int) (out:List Int) (x:Int) (H:Int) (D:Int):Option (cK ((List Int) × Int × Int × Int) ((List Int) × Int × Int)) :=
 cond (decide (x < ((r.1.length:Nat):Int)))
 (Option.bind (bH r.1 x) fun I=>
 Option.bind (fO N (⟨s_.bytes,H,D⟩:bD) 5) fun B=>
 cond (decide (0 < B.1))
 (Option.bind (room ((out++[I])).length) fun un=>
 kK N x (out++[I]) B.2.1 B.2.2)
 (kK N x out B.2.1 B.2.2))
 (some (.brk (out,x,H,D)))
def jW (N:Nat) (s_:bD) (B:Int):Option ((List Int) × Int × Int) :=
 Option.bind (sI N s_ B) fun r=>
 Option.bind (bE (fun s5=>gM N s_ r s5.1 s5.2.1 s5.2.2.1 s5.2.2.2) N (([]:List Int),0,r.2.1,r.2.2)) fun x5=>
 exK x5 (fun s5=>some (s5.1,s5.2.2.1,s5.2.2.2)) some
theorem oW {N:Nat} {G:aO} {Lf:List Ent} {w:World} (s_:bD) (X:Int) {b_:Nat} {D:Option Addr} {B:Nat} (I:Rd G 1 D B (s_.bytes.map oF)) (hc:Ctx G (.box b_ [.slice D s_.bytes.length B,i6 s_.used,i6 s_.mix] 46::Lf) w) {R:(List Int) × Int × Int} (hF:jW N s_ X=some R):Calls Tryz.prog 8 #[pq b_,i6 X] w (fun e w=>∃ (t:Option Addr) (s:Nat),e=.returned (.slice t R.1.length s)∧Ctx G (.row t s (R.1.map aD) 3 1::.box b_ [.slice D s_.bytes.length B,i6 R.2.1,i6 R.2.2] 46::Lf) w):=by
 unfold jW at hF
 refine bI Tryz.func8 rfl Tryz.ntmps8 rfl fun a hf=>zS fun K h=>sp 1 hf rfl fun a hf=>zT h ?_
 refine zS fun K h=>sp 1 hf rfl fun a hf=>zT h ?_
 refine wp_seq_k fun K3 h3=>zS fun K h=>sp 2 hf rfl fun a hf=>?_
 obtain ⟨r,hr,hF⟩:=aA hF
 refine zC hf en_19 rfl (aCt s_ X I (hc.pick k0) hr) ?_
 rintro _ w ⟨aa,ai,rfl,hc⟩
 refine ⟨_,rfl,fun a hf=>?_⟩
 refine zP hf rfl (bC Tryz.underlying30 rfl) fun a hf=>sp 1 hf rfl fun a hf=>zT h ?_
 refine wp_block ?_
 obtain ⟨x5,z,hF⟩:=aA hF
 let S5:((List Int) × Int × Int × Int)→Act→World→Prop:=(fun (zz:(List Int) × Int × Int × Int) a w=>∃ (J:Option Addr) (M:Nat) (Y:Option Addr) (O:Nat),Has 25 a [(0,pq b_),(5,.slice J zz.1.length M),(10,.slice Y r.1.length O),(11,i6 ((r.1.length:Nat):Int)),(12,i6 zz.2.1)]∧Ctx G (.row J M (zz.1.map aD) 3 1::.row Y O (r.1.map aD) 3 1::.box b_ [.slice D s_.bytes.length B,i6 zz.2.2.1,i6 zz.2.2.2] 46::Lf) w)
 have ad:∀ (zz:(List Int) × Int × Int × Int) a w,x5=.go zz→S5 zz a w→K3 a w:=by
  rintro ⟨out,x,q,p⟩ a w rfl ⟨J,M,Y,O,hf,hc⟩
  replace hF:=bP hF
  refine h3 _ _ ?_
  refine zS fun K h=>sp 2 hf rfl fun a hf=>zT h ?_
  refine wp_ret ?_
  obtain rfl:=sj hF
  replace hc:=hc.drop k1
  exact zO1 Tryz.results8 hf rfl ⟨J,M,rfl,hc⟩
 have ak:∀ r,x5=.out r→r=R:=by
  rintro r rfl
  exact sj hF
 replace hc:=hc.nilRow 3 1
 refine cR N (cL (S:=S5) (x:=x5) ?_ N (([]:List Int),0,r.2.1,r.2.2) _ _ ⟨none,0,aa,ai,hf.kp rfl,hc⟩ z)
 clear hF hf hc
 rintro ⟨out,x,q,p⟩ ab a w KB5 ⟨J,M,Y,O,hf,hc⟩ hF Z af
 unfold gM at hF
 refine zS fun K h=>sp 1 hf rfl fun a hf=>zT h ?_
 refine wp_seq_k fun K8 h8=>zI hf rfl hF ?_ ?_ <;> clear hF <;> intro hF
 ·refine wp_skip ?_
  refine h8 _ _ ?_
  refine wp_seq_k fun K9 h9=>?_
  have u:∀ (H:List Int) (V:Int) (U:Int) (n:Option Addr) (k:Nat) (d:Option Addr) (m:Nat) a w,Has 25 a [(0,pq b_),(5,.slice n H.length k),(10,.slice d r.1.length m),(11,i6 ((r.1.length:Nat):Int)),(12,i6 x)]→Ctx G (.box b_ [.slice D s_.bytes.length B,i6 V,i6 U] 46::.row n k (H.map aD) 3 1::.row d m (r.1.map aD) 3 1::Lf) w→kK N x H V U=some ab→K9 a w:=by
   repeat (clear hF)
   repeat (clear hc)
   repeat (clear hf)
   intro H V U n k d m a w hf hc hF
   unfold kK at hF
   refine h9 _ _ ?_
   refine cJ ?_
   refine sp 2 hf rfl fun a hf=>aP ?_
   replace hc:=((hc.pick k0).pick k2).pick k2
   exact af (H,W (x + 1),V,U) _ _ (sj hF).symm ⟨n,k,d,m,hf.kp rfl,hc⟩
  refine wp_block ?_
  refine zS fun K h=>?_
  obtain ⟨b,y,hF⟩:=aA hF
  obtain ⟨g,rfl,qa,qr⟩:=hU hc m1 y
  refine zP hf rfl (pIA Tryz.underlying30 eL rfl rfl qa) fun a hf=>zE hf hc rfl (bT bA rfl (eJ (sz:=1) (i:=x.toNat) (j:=0) m1 qr rfl)) fun a w hf hc=>sp 1 hf rfl fun a hf=>zT h ?_
  refine zS fun K h=>sp 1 hf rfl fun a hf=>?_
  obtain ⟨o,v,hF⟩:=aA hF
  refine zC hf aFk rfl (kE (⟨s_.bytes,q,p⟩:bD) 5 I (hc.pick k2) v) ?_
  rintro _ w ⟨rfl,hc⟩
  refine ⟨_,rfl,fun a hf=>?_⟩
  refine sp 1 hf rfl fun a hf=>zT h ?_
  refine zI hf rfl hF ?_ ?_ <;> clear hF <;> intro hF
  ·refine cJ ?_
   refine sp 2 hf rfl fun a hf=>jD (rows:=([b]:List Int).map aD) (vs:=[(0,i6 b)]) hf hc rfl rfl fN rfl ⟨rfl,rfl,rfl,trivial⟩ rfl rfl fun am a w hf hc=>?_
   obtain ⟨un,aj,hF⟩:=aA hF
   refine kY (xs:=out) (ys:=([b]:List Int)) hf hc rfl rfl fN rfl rfl rfl rfl rfl bF (fG hc m0) (fun _ _=>u2) (by simpa using cP aj) fun ag ac a w hf hc=>sp 1 hf rfl fun a hf=>aP ?_
   replace hc:=hc.drop k0
   exact u (out++[b]) o.2.1 o.2.2 ag ac (some ⟨g,0,none⟩) O _ _  (hf.kp rfl) hc hF
  ·refine wp_skip ?_
   exact u out o.2.1 o.2.2 J M (some ⟨g,0,none⟩) O _ _  (hf.kp rfl) hc hF
 ·refine wp_exit ?_
  refine aW ?_
  refine aW ?_
  have he:=sj hF
  rw [← he] at Z
  refine eV ?_
  exact ad _ _ _ Z ⟨J,M,Y,O,hf.kp rfl,hc⟩

def iN (N:Nat) (s_:bD) (r:Int × Int × Int) (O:Int × Int × Int) (I:Int) (M:Int) (H:Int) (J:List aC):Option (cK (Int × Int × Int × (List aC)) (aB × Int × Int)) :=
 cond (decide (I < O.1))
 (Option.bind (fI N (⟨s_.bytes,M,H⟩:bD) 1 3) fun D=>
 Option.bind (jW N (⟨s_.bytes,D.2.1,D.2.2⟩:bD) r.1) fun B=>
 Option.bind (room ((J++[(⟨D.1,B.1⟩:aC)])).length) fun un=>
 some (.cont (W (I + 1),B.2.1,B.2.2,(J++[(⟨D.1,B.1⟩:aC)]))))
 (some (.brk (I,M,H,J)))
def iP (N:Nat) (s_:bD) (r:Int × Int × Int) (J:Int × Int × Int) (x:Int) (I:Int) (H:Int) (D:List (List Int)):Option (cK (Int × Int × Int × (List (List Int))) (aB × Int × Int)) :=
 cond (decide (x < r.1))
 (Option.bind (jW N (⟨s_.bytes,I,H⟩:bD) J.1) fun B=>
 Option.bind (room ((D++[B.1])).length) fun M=>
 some (.cont (W (x + 1),B.2.1,B.2.2,(D++[B.1]))))
 (some (.brk (x,I,H,D)))
def qK (N:Nat) (s_:bD) (most:Int):Option (aB × Int × Int) :=
 Option.bind (fI N s_ 1 most) fun r=>
 Option.bind (fI N (⟨s_.bytes,r.2.1,r.2.2⟩:bD) 1 most) fun B=>
 Option.bind (bE (fun s6=>iP N s_ r B s6.1 s6.2.1 s6.2.2.1 s6.2.2.2) N (0,B.2.1,B.2.2,([]:List (List Int)))) fun x6=>
 exK x6 (fun s6=>Option.bind (bE (fun s9=>iN N s_ r B s9.1 s9.2.1 s9.2.2.1 s9.2.2.2) N (0,s6.2.1,s6.2.2.1,([]:List aC))) fun x9=>
 exK x9 (fun s9=>some ((⟨s6.2.2.2,s9.2.2.2⟩:aB),s9.2.1,s9.2.2.1)) some) some
theorem aBf {N:Nat} {G:aO} {Lf:List Ent} {w:World} (s_:bD) (most:Int) {b_:Nat} {D:Option Addr} {B:Nat} (X:Rd G 1 D B (s_.bytes.map oF)) (hc:Ctx G (.box b_ [.slice D s_.bytes.length B,i6 s_.used,i6 s_.mix] 46::Lf) w) {i:aB × Int × Int} (hF:qK N s_ most=some i):Calls Tryz.prog 4 #[pq b_,i6 most] w (fun e w=>∃ (ax:Option Addr) (q:rM) (az:Option Addr) (s:rM),e=.returned (.agg #[.slice ax i.1.People.length q.1,.slice az i.1.Stations.length s.1])∧Ctx G (.row ax q.1 ((aF q.2 i.1.People).map (Kd.v aG)) 30 1::aQ aG (aF q.2 i.1.People)::.row az s.1 ((aF s.2 i.1.Stations).map (Kd.v aL)) 36 2::aQ aL (aF s.2 i.1.Stations)::.box b_ [.slice D s_.bytes.length B,i6 i.2.1,i6 i.2.2] 46::Lf) w):=by
 unfold qK at hF
 refine bI Tryz.func4 rfl Tryz.ntmps4 rfl fun a hf=>zS fun K h=>zA hf hc wW rfl fun Z a w hf hc=>zT h ?_
 refine zS fun K h=>zA hf hc wW rfl fun U a w hf hc=>zT h ?_
 refine zS fun K h=>sp 2 hf rfl fun a hf=>?_
 obtain ⟨r,hr,hF⟩:=aA hF
 refine zC hf aHj rfl (lM s_ 1 most X (hc.pick k2) hr) ?_
 rintro _ w ⟨rfl,hc⟩
 refine ⟨_,rfl,fun a hf=>?_⟩
 refine sp 2 hf rfl fun a hf=>?_
 obtain ⟨k,a8,hF⟩:=aA hF
 refine zC hf aHj rfl (lM (⟨s_.bytes,r.2.1,r.2.2⟩:bD) 1 most X (hc.pick k0) a8) ?_
 rintro _ w ⟨rfl,hc⟩
 refine ⟨_,rfl,fun a hf=>?_⟩
 refine sp 2 hf rfl fun a hf=>zT h ?_
 refine wp_seq_k fun K4 h4=>zS fun K h=>sp 2 hf rfl fun a hf=>zT h ?_
 refine wp_block ?_
 obtain ⟨x6,bj,hF⟩:=aA hF
 let S6:(Int × Int × Int × (List (List Int)))→Act→World→Prop:=(fun (zz:Int × Int × Int × (List (List Int))) a w=>∃ (V:Option Addr) (H:rM),Has 42 a [(0,pq b_),(4,pq Z),(5,pq U),(6,i6 r.1),(7,i6 k.1),(14,i6 r.1),(15,i6 zz.1)]∧Ctx G (.row V H.1 ((aF H.2 zz.2.2.2).map (Kd.v aG)) 30 1::aQ aG (aF H.2 zz.2.2.2)::.box b_ [.slice D s_.bytes.length B,i6 zz.2.1,i6 zz.2.2.1] 46::.box U [.slice V zz.2.2.2.length H.1,.slice none 0 0] 26::.box Z [.slice none 0 0,.slice none 0 0] 26::Lf) w)
 have bd:∀ (zz:Int × Int × Int × (List (List Int))) a w,x6=.go zz→S6 zz a w→K4 a w:=by
  rintro ⟨x,af,ac,I⟩ a w rfl ⟨V,H,hf,hc⟩
  replace hF:=bP hF
  refine h4 _ _ ?_
  refine wp_seq_k fun K7 h7=>zS fun K h=>sp 2 hf rfl fun a hf=>zT h ?_
  refine wp_block ?_
  obtain ⟨x9,bk,hF⟩:=aA hF
  let S9:(Int × Int × Int × (List aC))→Act→World→Prop:=(fun (zz:Int × Int × Int × (List aC)) a w=>∃ (j:Option Addr) (J:rM),Has 42 a [(0,pq b_),(4,pq Z),(5,pq U),(6,i6 r.1),(26,i6 k.1),(27,i6 zz.1)]∧Ctx G (.row j J.1 ((aF J.2 zz.2.2.2).map (Kd.v aL)) 36 2::aQ aL (aF J.2 zz.2.2.2)::.row V H.1 ((aF H.2 I).map (Kd.v aG)) 30 1::aQ aG (aF H.2 I)::.box b_ [.slice D s_.bytes.length B,i6 zz.2.1,i6 zz.2.2.1] 46::.box U [.slice V I.length H.1,.slice j zz.2.2.2.length J.1] 26::.box Z [.slice none 0 0,.slice none 0 0] 26::Lf) w)
  have bu:∀ (zz:Int × Int × Int × (List aC)) a w,x9=.go zz→S9 zz a w→K7 a w:=by
   rintro ⟨ar,an,am,Y⟩ a w rfl ⟨j,J,hf,hc⟩
   replace hF:=bP hF
   refine h7 _ _ ?_
   refine zS fun K h=>zN hf hc mD m5 rfl fun a w hf hc=>zW hf hc yL u6 rfl fun w hc=>zT h ?_
   refine wp_ret ?_
   obtain rfl:=sj hF
   replace hc:=((((hc.drop k5).pick k1).pick k1).pick k3).pick k3
   exact tC (by simp) rfl Tryz.results4 hf hc (fK (vs:=[.slice V I.length H.1,.slice j Y.length J.1]) mD rfl rfl (bM (n:=2) m5 rfl)) ⟨V,H,j,J,rfl,(hc.drop k5)⟩
  have bz:∀ r,x9=.out r→r=i:=by
   rintro r rfl
   exact sj hF
  replace hc:=hc.nilRow 36 2
  replace hc:=zH (K:=aL) (hs:=(noH 0)) hc
  replace hc:=(hc.pick k0).pick k1
  refine cR N (cL (S:=S9) (x:=x9) ?_ N (0,af,ac,([]:List aC)) _ _ ⟨none,(0,(noH 0)),hf.kp rfl,hc⟩ bk)
  clear hF hf hc
  rintro ⟨ar,an,am,Y⟩ b1 a w KB9 ⟨j,J,hf,hc⟩ hF aq bp
  unfold iN at hF
  refine zS fun K h=>sp 1 hf rfl fun a hf=>zT h ?_
  refine wp_seq_k fun K12 bn=>zI hf rfl hF ?_ ?_ <;> clear hF <;> intro hF
  ·refine wp_skip ?_
   refine bn _ _ ?_
   refine wp_seq_k fun K13 bg=>wp_block ?_
   obtain ⟨R,a5,hF⟩:=aA hF
   obtain ⟨M,a7,hF⟩:=aA hF
   obtain ⟨un,bm,hF⟩:=aA hF
   replace hc:=hc.nilRow 0 0
   replace hc:=hc.nilRow 0 0
   refine gK (fun θ=>[⟨none,none,0,pq b_⟩,⟨none,none,4,pq Z⟩,⟨none,none,5,pq U⟩,⟨none,none,6,i6 r.1⟩,⟨none,none,26,i6 k.1⟩,⟨none,none,27,i6 ar⟩,⟨some 0,none,29,.pointer (some ⟨U,1,none⟩)⟩,⟨some 1,none,30,.slice j Y.length J.1⟩,⟨some 2,none,31,pq b_⟩,⟨some 3,none,32,i6 R.1⟩,⟨some 4,none,33,pq b_⟩,⟨some 5,none,34,i6 r.1⟩,⟨some 6,none,35,.slice ((θ 48).p) M.1.length ((θ 48).c)⟩,⟨some 7,none,36,.agg #[i6 R.1,.slice ((θ 48).p) M.1.length ((θ 48).c)]⟩,⟨some 8,none,37,.slice (some ⟨(θ 64).b,0,none⟩) 1 1⟩,⟨some 9,none,38,.slice ((θ 72).p) ((Y++[(⟨R.1,M.1⟩:aC)]).length) ((θ 72).c)⟩,⟨some 10,none,39,.pointer (some ⟨U,1,none⟩)⟩]) (fun E θ=>(bif E 8 then .row (some ⟨(θ 64).b,0,none⟩) 1 (([(((θ 48).p,(θ 48).c),(⟨R.1,M.1⟩:aC))]:List (H2 × aC)).map (Kd.v aL)) 36 2 else .row none 0 [] 0 0)::(bif E 6 then .row ((θ 48).p) ((θ 48).c) (M.1.map aD) 3 1 else .row none 0 [] 0 0)::(bif E 9 then .row ((θ 72).p) ((θ 72).c) (((aF J.2 Y)++([(((θ 48).p,(θ 48).c),(⟨R.1,M.1⟩:aC))]:List (H2 × aC))).map (Kd.v aL)) 36 2 else .row j J.1 ((aF J.2 Y).map (Kd.v aL)) 36 2)::aQ aL (aF J.2 Y)::.row V H.1 ((aF H.2 I).map (Kd.v aG)) 30 1::aQ aG (aF H.2 I)::(bif E 6 then .box b_ [.slice D s_.bytes.length B,i6 M.2.1,i6 M.2.2] 46 else bif E 3 then .box b_ [.slice D s_.bytes.length B,i6 R.2.1,i6 R.2.2] 46 else .box b_ [.slice D s_.bytes.length B,i6 an,i6 am] 46)::(bif E 11 then .box U [.slice V I.length H.1,.slice ((θ 72).p) ((Y++[(⟨R.1,M.1⟩:aC)]).length) ((θ 72).c)] 26 else .box U [.slice V I.length H.1,.slice j Y.length J.1] 26)::.box Z [.slice none 0 0,.slice none 0 0] 26::Lf) [(7,6),(11,1),(6,3),(8,7),(9,6),(11,9)] (fun a w=>∃ (a1:Nat) (aj:Option Addr) (ai:Nat) (aa:Option Addr) (ab:Nat),Has 42 a [(0,pq b_),(4,pq Z),(5,pq U),(6,i6 r.1),(26,i6 k.1),(27,i6 ar)]∧Ctx G (.row (some ⟨a1,0,none⟩) 1 (([((aj,ai),(⟨R.1,M.1⟩:aC))]:List (H2 × aC)).map (Kd.v aL)) 36 2::.row aj ai (M.1.map aD) 3 1::.row aa ab (((aF J.2 Y)++([((aj,ai),(⟨R.1,M.1⟩:aC))]:List (H2 × aC))).map (Kd.v aL)) 36 2::aQ aL (aF J.2 Y)::.row V H.1 ((aF H.2 I).map (Kd.v aG)) 30 1::aQ aG (aF H.2 I)::.box b_ [.slice D s_.bytes.length B,i6 M.2.1,i6 M.2.2] 46::.box U [.slice V I.length H.1,.slice aa ((Y++[(⟨R.1,M.1⟩:aC)]).length) ab] 26::.box Z [.slice none 0 0,.slice none 0 0] 26::Lf) w) aU (by kernel_rfl) (by kernel_rfl) (fB.of hf ⟨rfl,rfl,rfl,rfl,rfl,rfl,trivial,trivial,trivial,trivial,trivial,trivial,trivial,trivial,trivial,trivial,trivial,trivial⟩) hc ⟨?_,?_,?_,?_,?_,?_,?_,?_,?_,?_,?_,?_,trivial⟩ ?_ ?_
   ·intro E θ a w hD hi hp he hc
    have hf:=he.h0.mT he 2 rfl
    refine zP hf rfl (pFA eG rfl) fun a hf=>zD θ he hi hf 6 rfl rfl rfl hc
   ·intro E θ a w hD hi hp he hc
    have e0:=hp.o 0 rfl
    have y:=hD.f 1 rfl hi
    try dsimp only at hc
    rw [y] at hc
    have hf:=he.h0.mP he 6 rfl e0
    refine zL hf hc lN m7 rfl fun a w hf hc=>zD θ he hi hf 7 rfl rfl rfl ?_
    try dsimp only
    rw [bB 1 y rfl]
    exact hc
   ·intro E θ a w hD hi hp he hc
    have hf:=he.h0.mT he 0 rfl
    refine sp 1 hf rfl fun a hf=>zD θ he hi hf 8 rfl rfl rfl hc
   ·intro E θ a w hD hi hp he hc
    have e2:=hp.o 2 rfl
    have e6:=hD.f 2 rfl hi
    try dsimp only at hc
    rw [hi,e6] at hc
    have hf:=he.h0.mP he 8 rfl e2
    refine zC hf aHj rfl (lM (⟨s_.bytes,an,am⟩:bD) 1 3 X (hc.pick k6) a5) ?_
    rintro _ w ⟨rfl,hc⟩
    refine ⟨_,rfl,fun a hf=>?_⟩
    refine aP ?_
    refine cV ?_
    intro ds u g
    replace hc:=((((((hc.pick k0).pick k6).pick k6).pick k6).pick k6).pick k6).pick k6
    refine ⟨θ,he.put0 hi g hf rfl 9 rfl rfl,?_⟩
    try dsimp only
    rw [aR E 3,bB 3 e6 rfl]
    exact hc
   ·intro E θ a w hD hi hp he hc
    have hf:=he.h0.mT he 0 rfl
    refine sp 1 hf rfl fun a hf=>zD θ he hi hf 10 rfl rfl rfl hc
   ·intro E θ a w hD hi hp he hc
    have hf:=he.h0.mT he 3 rfl
    refine sp 1 hf rfl fun a hf=>zD θ he hi hf 11 rfl rfl rfl hc
   ·intro E θ a w hD hi hp he hc
    have e4:=hp.o 4 rfl
    have e5:=hp.o 5 rfl
    have e3:=hp.o 3 rfl
    have e7:=hD.f 0 rfl hi
    have e8:=hD.f 3 rfl e7
    have e9:=hD.f 4 rfl hi
    try dsimp only at hc
    rw [hi,e3,e8,e9] at hc
    have hf:=(he.h0.mP he 10 rfl e4).mP he 11 rfl e5
    refine zC hf en_8 rfl (oW (⟨s_.bytes,R.2.1,R.2.2⟩:bD) r.1 X (hc.pick k6) a7) ?_
    rintro _ w ⟨ba,bb,rfl,hc⟩
    refine ⟨_,rfl,fun a hf=>?_⟩
    refine aP ?_
    refine cV ?_
    intro ds u g
    replace hc:=(((((((hc.drop k3).pick k1).pick k6).pick k6).pick k6).pick k6).pick k5).pick k6
    refine ⟨(lA θ 48 ⟨0,ba,bb,(fun _=>(none,0))⟩),he.put hi g hf rfl [7] ⟨⟨e7,rfl⟩,trivial⟩ ⟨qq,qq,qq,qq,qq,qq,qq,qq,qq,qq,qq,qq,qq,trivial,qq,qq,qq,trivial⟩,?_⟩
    try dsimp only
    rw [aR E 6,dK 6 e3,bB 6 e8 rfl,bB 6 e9 rfl]
    exact hc
   ·intro E θ a w hD hi hp he hc
    have e3:=hp.o 3 rfl
    have e6:=hp.o 6 rfl
    have hf:=(he.h0.mP he 9 rfl e3).mP he 12 rfl e6
    refine zP hf rfl (cF (cells:=[i6 R.1,.slice ((θ 48).p) M.1.length ((θ 48).c)]) aDm rfl rfl) fun a hf=>zD θ he hi hf 13 rfl rfl rfl hc
   ·intro E θ a w hD hi hp he hc
    have e7:=hp.o 7 rfl
    have e6:=hD.t 0 rfl e7
    try dsimp only at hc
    rw [hi,e6] at hc
    have hf:=he.h0.mP he 13 rfl e7
    refine jD (rows:=([(((θ 48).p,(θ 48).c),(⟨R.1,M.1⟩:aC))]:List (H2 × aC)).map (Kd.v aL)) (vs:=[(0,.agg #[i6 R.1,.slice ((θ 48).p) M.1.length ((θ 48).c)])]) hf hc rfl rfl aAe rfl ⟨rfl,rfl,rfl,trivial⟩ rfl rfl fun bi a w hf hc=>aP ?_
    refine cV ?_
    intro ds u g
    replace hc:=hc.drop k1
    refine ⟨(lA θ 64 ⟨bi,none,0,(fun _=>(none,0))⟩),he.put hi g hf rfl [] trivial ⟨qq,qq,qq,qq,qq,qq,qq,qq,qq,qq,qq,qq,qq,qq,qq,qq,qq,trivial⟩,?_⟩
    try dsimp only
    rw [aR E 8,dK 8 e6]
    exact hc
   ·intro E θ a w hD hi hp he hc
    have e1:=hp.o 1 rfl
    have e8:=hp.o 8 rfl
    have y:=hD.f 5 rfl hi
    try dsimp only at hc
    rw [e8,hi,y] at hc
    have hf:=(he.h0.mP he 7 rfl e1).mP he 14 rfl e8
    refine kY (xs:=(aF J.2 Y)) (ys:=([(((θ 48).p,(θ 48).c),(⟨R.1,M.1⟩:aC))]:List (H2 × aC))) hf hc rfl rfl aAe rfl rfl (bY _ _).symm rfl rfl rV (fG hc m0) (fun _ _=>u2) (by simpa [bY] using cP bm) fun a4 ay a w hf hc=>?_
    replace hf:=jP (v':=.slice a4 (Y++[(⟨R.1,M.1⟩:aC)]).length ay) (by simp [bY]) hf
    refine aP ?_
    refine cV ?_
    intro ds u g
    refine ⟨(lA θ 72 ⟨0,a4,ay,(fun _=>(none,0))⟩),he.put hi g hf rfl [] trivial ⟨qq,qq,qq,qq,qq,qq,qq,qq,qq,qq,qq,qq,qq,qq,qq,qq,qq,trivial⟩,?_⟩
    try dsimp only
    rw [dK 9 e8,aR E 9,bB 9 y rfl]
    exact hc
   ·intro E θ a w hD hi hp he hc
    have hf:=he.h0.mT he 2 rfl
    refine zP hf rfl (pFA eG rfl) fun a hf=>zD θ he hi hf 16 rfl rfl rfl hc
   ·intro E θ a w hD hi hp he hc
    have e9:=hp.o 9 rfl
    have bq:=hp.o 10 rfl
    try dsimp only at hc
    rw [hi] at hc
    have hf:=(he.h0.mP he 15 rfl e9).mP he 16 rfl bq
    refine zW hf hc aIq u7 rfl fun w hc=>zG θ he hi hf rfl ?_
    try dsimp only
    rw [aR E 11]
    exact hc
   ·intro E θ a w d he hc
    have hf:=he.h0
    have e3:=d 3 rfl
    have e6:=d 6 rfl
    have e8:=d 8 rfl
    have e9:=d 9 rfl
    have y:=d 11 rfl
    replace hf:=hf.more he 5 rfl (onT)
    replace hf:=hf.more he 4 rfl (onT)
    replace hf:=hf.more he 3 rfl (onT)
    replace hf:=hf.more he 2 rfl (onT)
    replace hf:=hf.more he 1 rfl (onT)
    replace hf:=hf.more he 0 rfl (onT)
    try dsimp only at hc
    rw [e3,e6,e8,e9,y] at hc
    exact ⟨(θ 64).b,(θ 48).p,(θ 48).c,(θ 72).p,(θ 72).c,hf.kp rfl,hc⟩
   rintro a w ⟨a1,aj,ai,aa,ab,hf,hc⟩
   replace hc:=(((hc.drop k0).pick k0).pick k2).pick k2
   obtain ⟨au,hc⟩:=nW (K:=aL) ([((aj,ai),(⟨R.1,M.1⟩:aC))]:List (H2 × aC)) hc
   replace hc:Ctx G (.row aa ab ((aF au (Y++[(⟨R.1,M.1⟩:aC)])).map (Kd.v aL)) 36 2::aQ aL (aF au (Y++[(⟨R.1,M.1⟩:aC)]))::.row V H.1 ((aF H.2 I).map (Kd.v aG)) 30 1::aQ aG (aF H.2 I)::.box b_ [.slice D s_.bytes.length B,i6 M.2.1,i6 M.2.2] 46::.box U [.slice V I.length H.1,.slice aa ((Y++[(⟨R.1,M.1⟩:aC)]).length) ab] 26::.box Z [.slice none 0 0,.slice none 0 0] 26::Lf) w:=hc
   refine bg _ _ ?_
   refine cJ ?_
   refine sp 2 hf rfl fun a hf=>aP ?_
   exact bp (W (ar + 1),M.2.1,M.2.2,(Y++[(⟨R.1,M.1⟩:aC)])) _ _ (sj hF).symm ⟨aa,(ab,au),hf.kp rfl,hc⟩
  ·refine wp_exit ?_
   refine aW ?_
   refine aW ?_
   have he:=sj hF
   rw [← he] at aq
   refine eV ?_
   exact bu _ _ _ aq ⟨j,J,hf.kp rfl,hc⟩
 have bx:∀ r,x6=.out r→r=i:=by
  rintro r rfl
  exact sj hF
 replace hc:=hc.nilRow 30 1
 replace hc:=zH (K:=aG) (hs:=(noH 0)) hc
 replace hc:=(hc.pick k0).pick k1
 refine cR N (cL (S:=S6) (x:=x6) ?_ N (0,k.2.1,k.2.2,([]:List (List Int))) _ _ ⟨none,(0,(noH 0)),hf.kp rfl,hc⟩ bj)
 clear hF hf hc
 rintro ⟨x,af,ac,I⟩ b0 a w KB6 ⟨V,H,hf,hc⟩ hF ap a9
 unfold iP at hF
 refine zS fun K h=>sp 1 hf rfl fun a hf=>zT h ?_
 refine wp_seq_k fun K15 br=>zI hf rfl hF ?_ ?_ <;> clear hF <;> intro hF
 ·refine wp_skip ?_
  refine br _ _ ?_
  refine wp_seq_k fun K16 bf=>wp_block ?_
  obtain ⟨O,a6,hF⟩:=aA hF
  obtain ⟨bv,av,hF⟩:=aA hF
  replace hc:=hc.nilRow 0 0
  replace hc:=hc.nilRow 0 0
  refine gK (fun θ=>[⟨none,none,0,pq b_⟩,⟨none,none,4,pq Z⟩,⟨none,none,5,pq U⟩,⟨none,none,6,i6 r.1⟩,⟨none,none,7,i6 k.1⟩,⟨none,none,14,i6 r.1⟩,⟨none,none,15,i6 x⟩,⟨some 0,none,17,pq U⟩,⟨some 1,none,18,.slice V I.length H.1⟩,⟨some 2,none,19,pq b_⟩,⟨some 3,none,20,i6 k.1⟩,⟨some 4,none,21,.slice ((θ 32).p) O.1.length ((θ 32).c)⟩,⟨some 5,none,22,.slice (some ⟨(θ 40).b,0,none⟩) 1 1⟩,⟨some 6,none,23,.slice ((θ 48).p) ((I++[O.1]).length) ((θ 48).c)⟩,⟨some 7,none,24,pq U⟩]) (fun E θ=>(bif E 5 then .row (some ⟨(θ 40).b,0,none⟩) 1 (([(((θ 32).p,(θ 32).c),O.1)]:List (H2 × (List Int))).map (Kd.v aG)) 30 1 else .row none 0 [] 0 0)::(bif E 4 then .row ((θ 32).p) ((θ 32).c) (O.1.map aD) 3 1 else .row none 0 [] 0 0)::(bif E 6 then .row ((θ 48).p) ((θ 48).c) (((aF H.2 I)++([(((θ 32).p,(θ 32).c),O.1)]:List (H2 × (List Int)))).map (Kd.v aG)) 30 1 else .row V H.1 ((aF H.2 I).map (Kd.v aG)) 30 1)::aQ aG (aF H.2 I)::(bif E 4 then .box b_ [.slice D s_.bytes.length B,i6 O.2.1,i6 O.2.2] 46 else .box b_ [.slice D s_.bytes.length B,i6 af,i6 ac] 46)::(bif E 8 then .box U [.slice ((θ 48).p) ((I++[O.1]).length) ((θ 48).c),.slice none 0 0] 26 else .box U [.slice V I.length H.1,.slice none 0 0] 26)::.box Z [.slice none 0 0,.slice none 0 0] 26::Lf) [(8,1),(5,4),(6,4),(8,6)] (fun a w=>∃ (a0:Nat) (ag:Option Addr) (ak:Nat) (m:Option Addr) (z:Nat),Has 42 a [(0,pq b_),(4,pq Z),(5,pq U),(6,i6 r.1),(7,i6 k.1),(14,i6 r.1),(15,i6 x)]∧Ctx G (.row (some ⟨a0,0,none⟩) 1 (([((ag,ak),O.1)]:List (H2 × (List Int))).map (Kd.v aG)) 30 1::.row ag ak (O.1.map aD) 3 1::.row m z (((aF H.2 I)++([((ag,ak),O.1)]:List (H2 × (List Int)))).map (Kd.v aG)) 30 1::aQ aG (aF H.2 I)::.box b_ [.slice D s_.bytes.length B,i6 O.2.1,i6 O.2.2] 46::.box U [.slice m ((I++[O.1]).length) z,.slice none 0 0] 26::.box Z [.slice none 0 0,.slice none 0 0] 26::Lf) w) aU (by kernel_rfl) (by kernel_rfl) (fB.of hf ⟨rfl,rfl,rfl,rfl,rfl,rfl,rfl,trivial,trivial,trivial,trivial,trivial,trivial,trivial,trivial,trivial⟩) hc ⟨?_,?_,?_,?_,?_,?_,?_,?_,?_,trivial⟩ ?_ ?_
  ·intro E θ a w hD hi hp he hc
   have hf:=he.h0.mT he 2 rfl
   refine zP hf rfl (pFA eZ rfl) fun a hf=>zD θ he hi hf 7 rfl rfl rfl hc
  ·intro E θ a w hD hi hp he hc
   have e0:=hp.o 0 rfl
   have e8:=hD.f 0 rfl hi
   try dsimp only at hc
   rw [e8] at hc
   have hf:=he.h0.mP he 7 rfl e0
   refine zL hf hc mA m5 rfl fun a w hf hc=>zD θ he hi hf 8 rfl rfl rfl ?_
   try dsimp only
   rw [bB 1 e8 rfl]
   exact hc
  ·intro E θ a w hD hi hp he hc
   have hf:=he.h0.mT he 0 rfl
   refine sp 1 hf rfl fun a hf=>zD θ he hi hf 9 rfl rfl rfl hc
  ·intro E θ a w hD hi hp he hc
   have hf:=he.h0.mT he 4 rfl
   refine sp 1 hf rfl fun a hf=>zD θ he hi hf 10 rfl rfl rfl hc
  ·intro E θ a w hD hi hp he hc
   have e2:=hp.o 2 rfl
   have e3:=hp.o 3 rfl
   have e5:=hD.f 1 rfl hi
   have e6:=hD.f 2 rfl hi
   try dsimp only at hc
   rw [hi,e5,e6] at hc
   have hf:=(he.h0.mP he 9 rfl e2).mP he 10 rfl e3
   refine zC hf en_8 rfl (oW (⟨s_.bytes,af,ac⟩:bD) k.1 X (hc.pick k4) a6) ?_
   rintro _ w ⟨bt,bs,rfl,hc⟩
   refine ⟨_,rfl,fun a hf=>?_⟩
   refine aP ?_
   refine cV ?_
   intro ds u g
   replace hc:=(((((hc.drop k3).pick k1).pick k4).pick k4).pick k3).pick k4
   refine ⟨(lA θ 32 ⟨0,bt,bs,(fun _=>(none,0))⟩),he.put hi g hf rfl [] trivial ⟨qq,qq,qq,qq,qq,qq,qq,qq,qq,qq,qq,qq,qq,qq,qq,trivial⟩,?_⟩
   try dsimp only
   rw [aR E 4,bB 4 e5 rfl,bB 4 e6 rfl]
   exact hc
  ·intro E θ a w hD hi hp he hc
   have e4:=hp.o 4 rfl
   try dsimp only at hc
   rw [hi,e4] at hc
   have hf:=he.h0.mP he 11 rfl e4
   refine jD (rows:=([(((θ 32).p,(θ 32).c),O.1)]:List (H2 × (List Int))).map (Kd.v aG)) (vs:=[(0,.slice ((θ 32).p) O.1.length ((θ 32).c))]) hf hc rfl rfl wH rfl ⟨rfl,rfl,rfl,trivial⟩ rfl rfl fun bc a w hf hc=>aP ?_
   refine cV ?_
   intro ds u g
   replace hc:=hc.drop k1
   refine ⟨(lA θ 40 ⟨bc,none,0,(fun _=>(none,0))⟩),he.put hi g hf rfl [] trivial ⟨qq,qq,qq,qq,qq,qq,qq,qq,qq,qq,qq,qq,qq,qq,qq,trivial⟩,?_⟩
   try dsimp only
   rw [aR E 5,dK 5 e4]
   exact hc
  ·intro E θ a w hD hi hp he hc
   have e1:=hp.o 1 rfl
   have e5:=hp.o 5 rfl
   have e8:=hD.f 3 rfl hi
   try dsimp only at hc
   rw [e5,hi,e8] at hc
   have hf:=(he.h0.mP he 8 rfl e1).mP he 12 rfl e5
   refine kY (xs:=(aF H.2 I)) (ys:=([(((θ 32).p,(θ 32).c),O.1)]:List (H2 × (List Int)))) hf hc rfl rfl wH rfl rfl (bY _ _).symm rfl rfl cD (fG hc m0) (fun _ _=>u2) (by simpa [bY] using cP av) fun a3 a2 a w hf hc=>?_
   replace hf:=jP (v':=.slice a3 (I++[O.1]).length a2) (by simp [bY]) hf
   refine aP ?_
   refine cV ?_
   intro ds u g
   refine ⟨(lA θ 48 ⟨0,a3,a2,(fun _=>(none,0))⟩),he.put hi g hf rfl [] trivial ⟨qq,qq,qq,qq,qq,qq,qq,qq,qq,qq,qq,qq,qq,qq,qq,trivial⟩,?_⟩
   try dsimp only
   rw [dK 6 e5,aR E 6,bB 6 e8 rfl]
   exact hc
  ·intro E θ a w hD hi hp he hc
   have hf:=he.h0.mT he 2 rfl
   refine zP hf rfl (pFA eZ rfl) fun a hf=>zD θ he hi hf 14 rfl rfl rfl hc
  ·intro E θ a w hD hi hp he hc
   have e6:=hp.o 6 rfl
   have e7:=hp.o 7 rfl
   try dsimp only at hc
   rw [hi] at hc
   have hf:=(he.h0.mP he 13 rfl e6).mP he 14 rfl e7
   refine zW hf hc aG2 u5 rfl fun w hc=>zG θ he hi hf rfl ?_
   try dsimp only
   rw [aR E 8]
   exact hc
  ·intro E θ a w d he hc
   have hf:=he.h0
   have e4:=d 4 rfl
   have e5:=d 5 rfl
   have e6:=d 6 rfl
   have e8:=d 8 rfl
   replace hf:=hf.more he 6 rfl (onT)
   replace hf:=hf.more he 5 rfl (onT)
   replace hf:=hf.more he 4 rfl (onT)
   replace hf:=hf.more he 3 rfl (onT)
   replace hf:=hf.more he 2 rfl (onT)
   replace hf:=hf.more he 1 rfl (onT)
   replace hf:=hf.more he 0 rfl (onT)
   try dsimp only at hc
   rw [e4,e5,e6,e8] at hc
   exact ⟨(θ 40).b,(θ 32).p,(θ 32).c,(θ 48).p,(θ 48).c,hf.kp rfl,hc⟩
  rintro a w ⟨a0,ag,ak,m,z,hf,hc⟩
  replace hc:=(((hc.drop k0).pick k0).pick k2).pick k2
  obtain ⟨ad,hc⟩:=nW (K:=aG) ([((ag,ak),O.1)]:List (H2 × (List Int))) hc
  replace hc:Ctx G (.row m z ((aF ad (I++[O.1])).map (Kd.v aG)) 30 1::aQ aG (aF ad (I++[O.1]))::.box b_ [.slice D s_.bytes.length B,i6 O.2.1,i6 O.2.2] 46::.box U [.slice m ((I++[O.1]).length) z,.slice none 0 0] 26::.box Z [.slice none 0 0,.slice none 0 0] 26::Lf) w:=hc
  refine bf _ _ ?_
  refine cJ ?_
  refine sp 2 hf rfl fun a hf=>aP ?_
  exact a9 (W (x + 1),O.2.1,O.2.2,(I++[O.1])) _ _ (sj hF).symm ⟨m,(z,ad),hf.kp rfl,hc⟩
 ·refine wp_exit ?_
  refine aW ?_
  refine aW ?_
  have he:=sj hF
  rw [← he] at ap
  refine eV ?_
  exact bd _ _ _ ap ⟨V,H,hf.kp rfl,hc⟩

def aH (n:Int) (D:Int) (B:Int):Bool :=
 ((decide (D≤n)) && (decide (n≤B)))
theorem cG {G:aO} {Lf:List Ent} {w:World} (n:Int) (B:Int) (D:Int)   (hc:Ctx G (Lf) w) {H:Bool} (hF:aH n B D=H):Calls Tryz.prog 46 #[i6 n,i6 B,i6 D] w (fun e w=>e=.returned (.bool H)∧Ctx G (Lf) w):=by
 unfold aH at hF
 refine bI Tryz.func46 rfl Tryz.ntmps46 rfl fun a hf=>zS fun K h=>sp 1 hf rfl fun a hf=>zT h ?_
 refine zS fun K h=>sp 4 hf rfl fun a hf=>gX 4 (fun a=>Has 15 a [(0,i6 n),(1,i6 B),(2,i6 D),(6,.bool false),(7,i6 n),(8,i6 B),(9,.bool (decide (B≤n))),(10,.bool (decide (B≤n))),(14,.bool ((decide (B≤n)) && (decide (n≤D))))]) hc ?_ ?_
 ·cases hb:(decide (B≤n))
  ·rw [hb] at hf
   refine stS hf rfl rfl rfl fun a hf=>stS hf rfl rfl rfl fun a hf=>stS hf rfl rfl rfl fun a hf=>sp 1 hf rfl fun a hf=>aP ⟨hf.kp rfl,hc⟩
  ·rw [hb] at hf
   refine sp 4 hf rfl fun a hf=>aP ⟨hf.kp rfl,hc⟩
 intro a w ⟨hf,hc⟩
 refine sp 1 hf rfl fun a hf=>zT h ?_
 refine wp_ret ?_
 obtain rfl:=hF
 exact zO1 Tryz.results46 hf rfl ⟨rfl,hc⟩

def lO (s_:Int) (x:aB):Bool :=
 (aH s_ 0 (W (((x.Stations.length:Nat):Int) - 1)))
theorem xC {G:aO} {Lf:List Ent} {w:World} (s_:Int) (x:aB) {b_:Nat} {I:Option Addr} {H:Nat} {D:Option Addr} {B:Nat} (M:RdT aG G 1 I H x.People) (J:RdT aL G 2 D B x.Stations) (hc:Ctx G (.box b_ [.slice I x.People.length H,.slice D x.Stations.length B] 26::Lf) w) {O:Bool} (hF:lO s_ x=O):Calls Tryz.prog 74 #[i6 s_,pq b_] w (fun e w=>e=.returned (.bool O)∧Ctx G (.box b_ [.slice I x.People.length H,.slice D x.Stations.length B] 26::Lf) w):=by
 unfold lO at hF
 refine bI Tryz.func74 rfl Tryz.ntmps74 rfl fun a hf=>zS fun K h=>sp 1 hf rfl fun a hf=>zT h ?_
 refine zS fun K h=>sp 1 hf rfl fun a hf=>zP hf rfl (pFA eG rfl) fun a hf=>zL hf hc lN m0 rfl fun a w hf hc=>zP hf rfl (bC Tryz.underlying24 rfl) fun a hf=>sp 1 hf rfl fun a hf=>zQ (v:=.bool (aH s_ 0 (W (((x.Stations.length:Nat):Int) - 1)))) hf hc lJ rfl (fun w hc=>cG s_ 0 (W (((x.Stations.length:Nat):Int) - 1)) hc rfl) fun a w hf hc=>sp 1 hf rfl fun a hf=>zT h ?_
 refine wp_ret ?_
 obtain rfl:=hF
 exact zO1 Tryz.results74 hf rfl ⟨rfl,hc⟩

def gW (x:Int) (B:aB):Bool :=
 (!(lO x B))
theorem vJ {G:aO} {Lf:List Ent} {w:World} (x:Int) (J:aB) {b_:Nat} {R:Nat} {H:Option Addr} {I:Nat} {B:Option Addr} {D:Nat} (O:RdT aG G 1 H I J.People) (M:RdT aL G 2 B D J.Stations) (hc:Ctx G (.box b_ [.func (.func 74) #[] #[pq R]] 106::.box R [.slice H J.People.length I,.slice B J.Stations.length D] 26::Lf) w) {S:Bool} (hF:gW x J=S):Calls Tryz.prog 84 #[i6 x,pq b_] w (fun e w=>e=.returned (.bool S)∧Ctx G (.box b_ [.func (.func 74) #[] #[pq R]] 106::.box R [.slice H J.People.length I,.slice B J.Stations.length D] 26::Lf) w):=by
 unfold gW at hF
 refine bI Tryz.func84 rfl Tryz.ntmps84 rfl fun a hf=>zS fun K h=>sp 1 hf rfl fun a hf=>zT h ?_
 refine zS fun K h=>zL hf hc aB6 m0 rfl fun a w hf hc=>sp 1 hf rfl fun a hf=>zQ (v:=.bool (lO x J)) hf hc en_74 rfl (fun w hc=>(xC x J O M (hc.pick k1) rfl).mono fun e w h=>⟨h.1,(h.2.unpick k1)⟩) fun a w hf hc=>sp 2 hf rfl fun a hf=>zT h ?_
 refine wp_ret ?_
 obtain rfl:=hF
 exact zO1 Tryz.results84 hf rfl ⟨rfl,hc⟩

def eR (N:Nat) (s_:List Int) (f_:aB) (x:Int):Option (cK (Int) (Int)) :=
 cond (decide (x < ((s_.length:Nat):Int)))
 (Option.bind (bH s_ x) fun B=>
 cond (gW B f_)
 (some (.ret x))
 (some (.cont (W (x + 1)))))
 (some (.brk x))
def fT (N:Nat) (s_:List Int) (f_:aB):Option (Int) :=
 Option.bind (bE (fun s4=>eR N s_ f_ s4) N 0) fun x4=>
 exK x4 (fun s4=>some (-1)) some
theorem oU {N:Nat} {G:aO} {Lf:List Ent} {w:World} (s_:List Int) (f_:aB) {U:Option Addr} {V:Nat} {b_:Nat} {J:Nat} {I:Option Addr} {H:Nat} {D:Option Addr} {B:Nat} (b:Rd G 1 U V (s_.map aD)) (R:RdT aG G 1 I H f_.People) (M:RdT aL G 2 D B f_.Stations) (hc:Ctx G (.box b_ [.func (.func 74) #[] #[pq J]] 106::.box J [.slice I f_.People.length H,.slice D f_.Stations.length B] 26::Lf) w) {X:Int} (hF:fT N s_ f_=some X):Calls Tryz.prog 63 #[.slice U s_.length V,.func (.func 84) #[] #[pq b_]] w (fun e w=>e=.returned (i6 X)∧Ctx G (.box b_ [.func (.func 74) #[] #[pq J]] 106::.box J [.slice I f_.People.length H,.slice D f_.Stations.length B] 26::Lf) w):=by
 unfold fT at hF
 refine bI Tryz.func63 rfl Tryz.ntmps63 rfl fun a hf=>zS fun K h=>sp 1 hf rfl fun a hf=>zT h ?_
 refine wp_seq_k fun K2 h2=>zS fun K h=>sp 1 hf rfl fun a hf=>zP hf rfl (bC Tryz.underlying30 rfl) fun a hf=>sp 1 hf rfl fun a hf=>zT h ?_
 refine wp_block ?_
 obtain ⟨x4,g,hF⟩:=aA hF
 let S4:Int→Act→World→Prop:=(fun (zz:Int) a w=>Has 19 a [(0,.slice U s_.length V),(1,.func (.func 84) #[] #[pq b_]),(7,i6 ((s_.length:Nat):Int)),(8,i6 zz)]∧Ctx G (.box b_ [.func (.func 74) #[] #[pq J]] 106::.box J [.slice I f_.People.length H,.slice D f_.Stations.length B] 26::Lf) w)
 have i:∀ (zz:Int) a w,x4=.go zz→S4 zz a w→K2 a w:=by
  rintro x a w rfl ⟨hf,hc⟩
  replace hF:=bP hF
  refine h2 _ _ ?_
  refine zS fun K h=>sp 1 hf rfl fun a hf=>zT h ?_
  refine wp_ret ?_
  obtain rfl:=sj hF
  exact zO1 Tryz.results63 hf rfl ⟨rfl,hc⟩
 have k:∀ r,x4=.out r→r=X:=by
  rintro r rfl
  exact sj hF
 refine cR N (cL (S:=S4) (x:=x4) ?_ N 0 _ _ ⟨hf.kp rfl,hc⟩ g)
 clear hF hf hc
 rintro x m a w KB4 ⟨hf,hc⟩ hF O d
 unfold eR at hF
 refine zS fun K h=>sp 1 hf rfl fun a hf=>zT h ?_
 refine wp_seq_k fun K7 h7=>zI hf rfl hF ?_ ?_ <;> clear hF <;> intro hF
 ·refine wp_skip ?_
  refine h7 _ _ ?_
  refine wp_seq_k fun K8 h8=>wp_block ?_
  refine zS fun K h=>sp 2 hf rfl fun a hf=>zT h ?_
  refine zS fun K h=>sp 3 hf rfl fun a hf=>?_
  obtain ⟨Y,Z,hF⟩:=aA hF
  obtain ⟨n,o,qa,qp⟩:=b.atm Z
  refine zP hf rfl (pIA Tryz.underlying30 eL rfl rfl qa) fun a hf=>zE hf hc rfl (bT bA rfl (bL (j:=0) qp rfl)) fun a w hf hc=>zQ (v:=.bool (gW Y f_)) hf hc aE9 rfl (fun w hc=>(vJ Y f_ R M ((hc.pick k1).pick k1) rfl).mono fun e w h=>⟨h.1,((h.2.unpick k1).unpick k1)⟩) fun a w hf hc=>zT h ?_
  refine zI hf rfl hF ?_ ?_ <;> clear hF <;> intro hF
  ·refine zS fun K h=>sp 2 hf rfl fun a hf=>zT h ?_
   refine wp_ret ?_
   refine bN ?_
   refine aN ?_
   refine aN ?_
   have he:=sj hF
   rw [← he] at O
   replace hF:=k _ O
   refine bN ?_
   refine aN ?_
   obtain rfl:=hF
   exact zO1 Tryz.results63 hf rfl ⟨rfl,hc⟩
  ·refine wp_skip ?_
   refine h8 _ _ ?_
   refine cJ ?_
   refine sp 2 hf rfl fun a hf=>aP ?_
   exact d (W (x + 1)) _ _ (sj hF).symm ⟨hf.kp rfl,hc⟩
 ·refine wp_exit ?_
  refine aW ?_
  refine aW ?_
  have he:=sj hF
  rw [← he] at O
  refine eV ?_
  exact i _ _ _ O ⟨hf.kp rfl,hc⟩

def eO (N:Nat) (s_:List Int) (f_:aB):Option (Bool) :=
 Option.bind (fT N s_ f_) fun r=>
 some (decide (0≤r))
theorem nP {N:Nat} {G:aO} {Lf:List Ent} {w:World} (s_:List Int) (f_:aB) {R:Option Addr} {S:Nat} {b_:Nat} {O:Nat} {I:Option Addr} {H:Nat} {D:Option Addr} {B:Nat} (V:Rd G 1 R S (s_.map aD)) (M:RdT aG G 1 I H f_.People) (J:RdT aL G 2 D B f_.Stations) (hc:Ctx G (.box b_ [.func (.func 74) #[] #[pq O]] 106::.box O [.slice I f_.People.length H,.slice D f_.Stations.length B] 26::Lf) w) {U:Bool} (hF:eO N s_ f_=some U):Calls Tryz.prog 50 #[.slice R s_.length S,.func (.func 84) #[] #[pq b_]] w (fun e w=>e=.returned (.bool U)∧Ctx G (.box b_ [.func (.func 74) #[] #[pq O]] 106::.box O [.slice I f_.People.length H,.slice D f_.Stations.length B] 26::Lf) w):=by
 unfold eO at hF
 refine bI Tryz.func50 rfl Tryz.ntmps50 rfl fun a hf=>zS fun K h=>sp 1 hf rfl fun a hf=>zT h ?_
 refine zS fun K h=>sp 2 hf rfl fun a hf=>?_
 obtain ⟨r,hr,hF⟩:=aA hF
 refine zQ (v:=i6 r) hf hc aA3 rfl (fun w hc=>(oU s_ f_ V M J ((hc.pick k1).pick k1) hr).mono fun e w h=>⟨h.1,((h.2.unpick k1).unpick k1)⟩) fun a w hf hc=>sp 2 hf rfl fun a hf=>zT h ?_
 refine wp_ret ?_
 obtain rfl:=sj hF
 exact zO1 Tryz.results50 hf rfl ⟨rfl,hc⟩

def nH (N:Nat) (l:List Int) (so:aB):Option (Bool) :=
 Option.bind (eO N l so) fun r=>
 some (!r)
theorem xG {N:Nat} {G:aO} {Lf:List Ent} {w:World} (l:List Int) (so:aB) {O:Option Addr} {R:Nat} {b_:Nat} {H:Option Addr} {I:Nat} {D:Option Addr} {B:Nat} (U:Rd G 1 O R (l.map aD)) (M:RdT aG G 1 H I so.People) (J:RdT aL G 2 D B so.Stations) (hc:Ctx G (.box b_ [.slice H so.People.length I,.slice D so.Stations.length B] 26::Lf) w) {S:Bool} (hF:nH N l so=some S):Calls Tryz.prog 44 #[.slice O l.length R,.func (.func 74) #[] #[pq b_]] w (fun e w=>e=.returned (.bool S)∧Ctx G (.box b_ [.slice H so.People.length I,.slice D so.Stations.length B] 26::Lf) w):=by
 unfold nH at hF
 refine bI Tryz.func44 rfl Tryz.ntmps44 rfl fun a hf=>zS fun K h=>zB hf hc rfl fun V a w hf hc=>sp 1 hf rfl fun a hf=>zT h ?_
 refine zS fun K h=>sp 1 hf rfl fun a hf=>zP hf rfl (pMF (us:=[pq V]) rfl rfl) fun a hf=>?_
 obtain ⟨r,hr,hF⟩:=aA hF
 refine zQ (v:=.bool r) hf hc aC0 rfl (fun w hc=>(nP l so U M J ((hc.pick k1).pick k1) hr).mono fun e w h=>⟨h.1,((h.2.unpick k1).unpick k1)⟩) fun a w hf hc=>sp 2 hf rfl fun a hf=>zT h ?_
 refine wp_ret ?_
 obtain rfl:=sj hF
 replace hc:=hc.drop k0
 exact zO1 Tryz.results44 hf rfl ⟨rfl,hc⟩

def pV (N:Nat) (l:List Int) (x:aB):Option (Bool) :=
 Option.bind (nH N l (⟨x.People,x.Stations⟩:aB)) fun r=>
 some r
theorem yY {N:Nat} {G:aO} {Lf:List Ent} {w:World} (l:List Int) (x:aB) {O:Option Addr} {R:Nat} {b_:Nat} {H:Option Addr} {I:Nat} {D:Option Addr} {B:Nat} (U:Rd G 1 O R (l.map aD)) (M:RdT aG G 1 H I x.People) (J:RdT aL G 2 D B x.Stations) (hc:Ctx G (.box b_ [.slice H x.People.length I,.slice D x.Stations.length B] 26::Lf) w) {S:Bool} (hF:pV N l x=some S):Calls Tryz.prog 73 #[.slice O l.length R,pq b_] w (fun e w=>e=.returned (.bool S)∧Ctx G (.box b_ [.slice H x.People.length I,.slice D x.Stations.length B] 26::Lf) w):=by
 unfold pV at hF
 refine bI Tryz.func73 rfl Tryz.ntmps73 rfl fun a hf=>zS fun K h=>sp 1 hf rfl fun a hf=>zT h ?_
 refine zS fun K h=>sp 1 hf rfl fun a hf=>zP hf rfl (pMF (us:=[pq b_]) rfl rfl) fun a hf=>?_
 obtain ⟨r,hr,hF⟩:=aA hF
 refine zQ (v:=.bool r) hf hc aD0 rfl (fun w hc=>(xG l (⟨x.People,x.Stations⟩:aB) U M J (hc.pick k0) hr).mono fun e w h=>⟨h.1,(h.2.unpick k0)⟩) fun a w hf hc=>sp 1 hf rfl fun a hf=>zT h ?_
 refine wp_ret ?_
 obtain rfl:=sj hF
 exact zO1 Tryz.results73 hf rfl ⟨rfl,hc⟩

def iI (N:Nat) (x:List Int) (B:aB):Option (Bool) :=
 Option.bind (pV N x B) fun r=>
 some (!r)
theorem uB {N:Nat} {G:aO} {Lf:List Ent} {w:World} (x:List Int) (M:aB) {U:Option Addr} {S:Nat} {b_:Nat} {R:Nat} {H:Option Addr} {I:Nat} {B:Option Addr} {D:Nat} (X:Rd G 1 U S (x.map aD)) (O:RdT aG G 1 H I M.People) (J:RdT aL G 2 B D M.Stations) (hc:Ctx G (.box b_ [.func (.func 73) #[] #[pq R]] 128::.box R [.slice H M.People.length I,.slice B M.Stations.length D] 26::Lf) w) {V:Bool} (hF:iI N x M=some V):Calls Tryz.prog 101 #[.slice U x.length S,pq b_] w (fun e w=>e=.returned (.bool V)∧Ctx G (.box b_ [.func (.func 73) #[] #[pq R]] 128::.box R [.slice H M.People.length I,.slice B M.Stations.length D] 26::Lf) w):=by
 unfold iI at hF
 refine bI Tryz.func101 rfl Tryz.ntmps101 rfl fun a hf=>zS fun K h=>sp 1 hf rfl fun a hf=>zT h ?_
 refine zS fun K h=>zL hf hc aH4 m0 rfl fun a w hf hc=>sp 1 hf rfl fun a hf=>?_
 obtain ⟨r,hr,hF⟩:=aA hF
 refine zQ (v:=.bool r) hf hc en_73 rfl (fun w hc=>(yY x M X O J (hc.pick k1) hr).mono fun e w h=>⟨h.1,(h.2.unpick k1)⟩) fun a w hf hc=>sp 2 hf rfl fun a hf=>zT h ?_
 refine wp_ret ?_
 obtain rfl:=sj hF
 exact zO1 Tryz.results101 hf rfl ⟨rfl,hc⟩

def dY (N:Nat) (s_:List (List Int)) (f_:aB) (x:Int):Option (cK (Int) (Int)) :=
 cond (decide (x < ((s_.length:Nat):Int)))
 (Option.bind (bH s_ x) fun B=>
 Option.bind (iI N B f_) fun r=>
 cond r
 (some (.ret x))
 (some (.cont (W (x + 1)))))
 (some (.brk x))
def fA (N:Nat) (s_:List (List Int)) (f_:aB):Option (Int) :=
 Option.bind (bE (fun s4=>dY N s_ f_ s4) N 0) fun x4=>
 exK x4 (fun s4=>some (-1)) some
theorem nY {N:Nat} {G:aO} {Lf:List Ent} {w:World} (s_:List (List Int)) (f_:aB) {U:Option Addr} {V:Nat} {b_:Nat} {J:Nat} {I:Option Addr} {H:Nat} {D:Option Addr} {B:Nat} (Z:RdT aG G 1 U V s_) (R:RdT aG G 1 I H f_.People) (M:RdT aL G 2 D B f_.Stations) (hc:Ctx G (.box b_ [.func (.func 73) #[] #[pq J]] 128::.box J [.slice I f_.People.length H,.slice D f_.Stations.length B] 26::Lf) w) {X:Int} (hF:fA N s_ f_=some X):Calls Tryz.prog 112 #[.slice U s_.length V,.func (.func 101) #[] #[pq b_]] w (fun e w=>e=.returned (i6 X)∧Ctx G (.box b_ [.func (.func 73) #[] #[pq J]] 128::.box J [.slice I f_.People.length H,.slice D f_.Stations.length B] 26::Lf) w):=by
 unfold fA at hF
 refine bI Tryz.func112 rfl Tryz.ntmps112 rfl fun a hf=>zS fun K h=>sp 1 hf rfl fun a hf=>zT h ?_
 refine wp_seq_k fun K2 h2=>zS fun K h=>sp 1 hf rfl fun a hf=>zP hf rfl (bC Tryz.underlying23 rfl) fun a hf=>sp 1 hf rfl fun a hf=>zT h ?_
 refine wp_block ?_
 obtain ⟨x4,d,hF⟩:=aA hF
 let S4:Int→Act→World→Prop:=(fun (zz:Int) a w=>Has 19 a [(0,.slice U s_.length V),(1,.func (.func 101) #[] #[pq b_]),(7,i6 ((s_.length:Nat):Int)),(8,i6 zz)]∧Ctx G (.box b_ [.func (.func 73) #[] #[pq J]] 128::.box J [.slice I f_.People.length H,.slice D f_.Stations.length B] 26::Lf) w)
 have i:∀ (zz:Int) a w,x4=.go zz→S4 zz a w→K2 a w:=by
  rintro x a w rfl ⟨hf,hc⟩
  replace hF:=bP hF
  refine h2 _ _ ?_
  refine zS fun K h=>sp 1 hf rfl fun a hf=>zT h ?_
  refine wp_ret ?_
  obtain rfl:=sj hF
  exact zO1 Tryz.results112 hf rfl ⟨rfl,hc⟩
 have k:∀ r,x4=.out r→r=X:=by
  rintro r rfl
  exact sj hF
 refine cR N (cL (S:=S4) (x:=x4) ?_ N 0 _ _ ⟨hf.kp rfl,hc⟩ d)
 clear hF hf hc
 rintro x m a w KB4 ⟨hf,hc⟩ hF O b
 unfold dY at hF
 refine zS fun K h=>sp 1 hf rfl fun a hf=>zT h ?_
 refine wp_seq_k fun K7 h7=>zI hf rfl hF ?_ ?_ <;> clear hF <;> intro hF
 ·refine wp_skip ?_
  refine h7 _ _ ?_
  refine wp_seq_k fun K8 h8=>wp_block ?_
  refine zS fun K h=>sp 2 hf rfl fun a hf=>zT h ?_
  refine zS fun K h=>sp 3 hf rfl fun a hf=>?_
  obtain ⟨g,Y,hF⟩:=aA hF
  obtain ⟨n,o,hd,qa,qp,qr⟩:=Z.atm Y
  refine zP hf rfl (pIA Tryz.underlying23 nB rfl rfl qa) fun a hf=>zE hf hc rfl (bT kJ rfl (bL (j:=0) qp rfl)) fun a w hf hc=>?_
  obtain ⟨r,hr,hF⟩:=aA hF
  refine zQ (v:=.bool r) hf hc aIa rfl (fun w hc=>(uB g f_ qr R M ((hc.pick k1).pick k1) hr).mono fun e w h=>⟨h.1,((h.2.unpick k1).unpick k1)⟩) fun a w hf hc=>zT h ?_
  refine zI hf rfl hF ?_ ?_ <;> clear hF <;> intro hF
  ·refine zS fun K h=>sp 2 hf rfl fun a hf=>zT h ?_
   refine wp_ret ?_
   refine bN ?_
   refine aN ?_
   refine aN ?_
   have he:=sj hF
   rw [← he] at O
   replace hF:=k _ O
   refine bN ?_
   refine aN ?_
   obtain rfl:=hF
   exact zO1 Tryz.results112 hf rfl ⟨rfl,hc⟩
  ·refine wp_skip ?_
   refine h8 _ _ ?_
   refine cJ ?_
   refine sp 2 hf rfl fun a hf=>aP ?_
   exact b (W (x + 1)) _ _ (sj hF).symm ⟨hf.kp rfl,hc⟩
 ·refine wp_exit ?_
  refine aW ?_
  refine aW ?_
  have he:=sj hF
  rw [← he] at O
  refine eV ?_
  exact i _ _ _ O ⟨hf.kp rfl,hc⟩

def dZ (N:Nat) (s_:List (List Int)) (f_:aB):Option (Bool) :=
 Option.bind (fA N s_ f_) fun r=>
 some (decide (0≤r))
theorem mY {N:Nat} {G:aO} {Lf:List Ent} {w:World} (s_:List (List Int)) (f_:aB) {R:Option Addr} {S:Nat} {b_:Nat} {O:Nat} {I:Option Addr} {H:Nat} {D:Option Addr} {B:Nat} (V:RdT aG G 1 R S s_) (M:RdT aG G 1 I H f_.People) (J:RdT aL G 2 D B f_.Stations) (hc:Ctx G (.box b_ [.func (.func 73) #[] #[pq O]] 128::.box O [.slice I f_.People.length H,.slice D f_.Stations.length B] 26::Lf) w) {U:Bool} (hF:dZ N s_ f_=some U):Calls Tryz.prog 100 #[.slice R s_.length S,.func (.func 101) #[] #[pq b_]] w (fun e w=>e=.returned (.bool U)∧Ctx G (.box b_ [.func (.func 73) #[] #[pq O]] 128::.box O [.slice I f_.People.length H,.slice D f_.Stations.length B] 26::Lf) w):=by
 unfold dZ at hF
 refine bI Tryz.func100 rfl Tryz.ntmps100 rfl fun a hf=>zS fun K h=>sp 1 hf rfl fun a hf=>zT h ?_
 refine zS fun K h=>sp 2 hf rfl fun a hf=>?_
 obtain ⟨r,hr,hF⟩:=aA hF
 refine zQ (v:=i6 r) hf hc aIc rfl (fun w hc=>(nY s_ f_ V M J ((hc.pick k1).pick k1) hr).mono fun e w h=>⟨h.1,((h.2.unpick k1).unpick k1)⟩) fun a w hf hc=>sp 2 hf rfl fun a hf=>zT h ?_
 refine wp_ret ?_
 obtain rfl:=sj hF
 exact zO1 Tryz.results100 hf rfl ⟨rfl,hc⟩

def kO (N:Nat) (l:List (List Int)) (so:aB):Option (Bool) :=
 Option.bind (dZ N l so) fun r=>
 some (!r)
theorem wB {N:Nat} {G:aO} {Lf:List Ent} {w:World} (l:List (List Int)) (so:aB) {O:Option Addr} {R:Nat} {b_:Nat} {H:Option Addr} {I:Nat} {D:Option Addr} {B:Nat} (U:RdT aG G 1 O R l) (M:RdT aG G 1 H I so.People) (J:RdT aL G 2 D B so.Stations) (hc:Ctx G (.box b_ [.slice H so.People.length I,.slice D so.Stations.length B] 26::Lf) w) {S:Bool} (hF:kO N l so=some S):Calls Tryz.prog 72 #[.slice O l.length R,.func (.func 73) #[] #[pq b_]] w (fun e w=>e=.returned (.bool S)∧Ctx G (.box b_ [.slice H so.People.length I,.slice D so.Stations.length B] 26::Lf) w):=by
 unfold kO at hF
 refine bI Tryz.func72 rfl Tryz.ntmps72 rfl fun a hf=>zS fun K h=>zB hf hc rfl fun V a w hf hc=>sp 1 hf rfl fun a hf=>zT h ?_
 refine zS fun K h=>sp 1 hf rfl fun a hf=>zP hf rfl (pMF (us:=[pq V]) rfl rfl) fun a hf=>?_
 obtain ⟨r,hr,hF⟩:=aA hF
 refine zQ (v:=.bool r) hf hc aG0 rfl (fun w hc=>(mY l so U M J ((hc.pick k1).pick k1) hr).mono fun e w h=>⟨h.1,((h.2.unpick k1).unpick k1)⟩) fun a w hf hc=>sp 2 hf rfl fun a hf=>zT h ?_
 refine wp_ret ?_
 obtain rfl:=sj hF
 replace hc:=hc.drop k0
 exact zO1 Tryz.results72 hf rfl ⟨rfl,hc⟩

def lD (p_:Int) (x:aB):Bool :=
 (aH p_ 0 (W (((x.People.length:Nat):Int) - 1)))
theorem wR {G:aO} {Lf:List Ent} {w:World} (p_:Int) (x:aB) {b_:Nat} {I:Option Addr} {H:Nat} {D:Option Addr} {B:Nat} (M:RdT aG G 1 I H x.People) (J:RdT aL G 2 D B x.Stations) (hc:Ctx G (.box b_ [.slice I x.People.length H,.slice D x.Stations.length B] 26::Lf) w) {O:Bool} (hF:lD p_ x=O):Calls Tryz.prog 77 #[i6 p_,pq b_] w (fun e w=>e=.returned (.bool O)∧Ctx G (.box b_ [.slice I x.People.length H,.slice D x.Stations.length B] 26::Lf) w):=by
 unfold lD at hF
 refine bI Tryz.func77 rfl Tryz.ntmps77 rfl fun a hf=>zS fun K h=>sp 1 hf rfl fun a hf=>zT h ?_
 refine zS fun K h=>sp 1 hf rfl fun a hf=>zP hf rfl (pFA eZ rfl) fun a hf=>zL hf hc mA m0 rfl fun a w hf hc=>zP hf rfl (bC Tryz.underlying23 rfl) fun a hf=>sp 1 hf rfl fun a hf=>zQ (v:=.bool (aH p_ 0 (W (((x.People.length:Nat):Int) - 1)))) hf hc lJ rfl (fun w hc=>cG p_ 0 (W (((x.People.length:Nat):Int) - 1)) hc rfl) fun a w hf hc=>sp 1 hf rfl fun a hf=>zT h ?_
 refine wp_ret ?_
 obtain rfl:=hF
 exact zO1 Tryz.results77 hf rfl ⟨rfl,hc⟩

def fL (x:Int) (B:aB):Bool :=
 (!(lD x B))
theorem tG {G:aO} {Lf:List Ent} {w:World} (x:Int) (J:aB) {b_:Nat} {R:Nat} {H:Option Addr} {I:Nat} {B:Option Addr} {D:Nat} (O:RdT aG G 1 H I J.People) (M:RdT aL G 2 B D J.Stations) (hc:Ctx G (.box b_ [.func (.func 77) #[] #[pq R]] 106::.box R [.slice H J.People.length I,.slice B J.Stations.length D] 26::Lf) w) {S:Bool} (hF:fL x J=S):Calls Tryz.prog 84 #[i6 x,pq b_] w (fun e w=>e=.returned (.bool S)∧Ctx G (.box b_ [.func (.func 77) #[] #[pq R]] 106::.box R [.slice H J.People.length I,.slice B J.Stations.length D] 26::Lf) w):=by
 unfold fL at hF
 refine bI Tryz.func84 rfl Tryz.ntmps84 rfl fun a hf=>zS fun K h=>sp 1 hf rfl fun a hf=>zT h ?_
 refine zS fun K h=>zL hf hc aB6 m0 rfl fun a w hf hc=>sp 1 hf rfl fun a hf=>zQ (v:=.bool (lD x J)) hf hc en_77 rfl (fun w hc=>(wR x J O M (hc.pick k1) rfl).mono fun e w h=>⟨h.1,(h.2.unpick k1)⟩) fun a w hf hc=>sp 2 hf rfl fun a hf=>zT h ?_
 refine wp_ret ?_
 obtain rfl:=hF
 exact zO1 Tryz.results84 hf rfl ⟨rfl,hc⟩

def dO (N:Nat) (s_:List Int) (f_:aB) (x:Int):Option (cK (Int) (Int)) :=
 cond (decide (x < ((s_.length:Nat):Int)))
 (Option.bind (bH s_ x) fun B=>
 cond (fL B f_)
 (some (.ret x))
 (some (.cont (W (x + 1)))))
 (some (.brk x))
def eQ (N:Nat) (s_:List Int) (f_:aB):Option (Int) :=
 Option.bind (bE (fun s4=>dO N s_ f_ s4) N 0) fun x4=>
 exK x4 (fun s4=>some (-1)) some
theorem nQ {N:Nat} {G:aO} {Lf:List Ent} {w:World} (s_:List Int) (f_:aB) {U:Option Addr} {V:Nat} {b_:Nat} {J:Nat} {I:Option Addr} {H:Nat} {D:Option Addr} {B:Nat} (b:Rd G 1 U V (s_.map aD)) (R:RdT aG G 1 I H f_.People) (M:RdT aL G 2 D B f_.Stations) (hc:Ctx G (.box b_ [.func (.func 77) #[] #[pq J]] 106::.box J [.slice I f_.People.length H,.slice D f_.Stations.length B] 26::Lf) w) {X:Int} (hF:eQ N s_ f_=some X):Calls Tryz.prog 63 #[.slice U s_.length V,.func (.func 84) #[] #[pq b_]] w (fun e w=>e=.returned (i6 X)∧Ctx G (.box b_ [.func (.func 77) #[] #[pq J]] 106::.box J [.slice I f_.People.length H,.slice D f_.Stations.length B] 26::Lf) w):=by
 unfold eQ at hF
 refine bI Tryz.func63 rfl Tryz.ntmps63 rfl fun a hf=>zS fun K h=>sp 1 hf rfl fun a hf=>zT h ?_
 refine wp_seq_k fun K2 h2=>zS fun K h=>sp 1 hf rfl fun a hf=>zP hf rfl (bC Tryz.underlying30 rfl) fun a hf=>sp 1 hf rfl fun a hf=>zT h ?_
 refine wp_block ?_
 obtain ⟨x4,g,hF⟩:=aA hF
 let S4:Int→Act→World→Prop:=(fun (zz:Int) a w=>Has 19 a [(0,.slice U s_.length V),(1,.func (.func 84) #[] #[pq b_]),(7,i6 ((s_.length:Nat):Int)),(8,i6 zz)]∧Ctx G (.box b_ [.func (.func 77) #[] #[pq J]] 106::.box J [.slice I f_.People.length H,.slice D f_.Stations.length B] 26::Lf) w)
 have i:∀ (zz:Int) a w,x4=.go zz→S4 zz a w→K2 a w:=by
  rintro x a w rfl ⟨hf,hc⟩
  replace hF:=bP hF
  refine h2 _ _ ?_
  refine zS fun K h=>sp 1 hf rfl fun a hf=>zT h ?_
  refine wp_ret ?_
  obtain rfl:=sj hF
  exact zO1 Tryz.results63 hf rfl ⟨rfl,hc⟩
 have k:∀ r,x4=.out r→r=X:=by
  rintro r rfl
  exact sj hF
 refine cR N (cL (S:=S4) (x:=x4) ?_ N 0 _ _ ⟨hf.kp rfl,hc⟩ g)
 clear hF hf hc
 rintro x m a w KB4 ⟨hf,hc⟩ hF O d
 unfold dO at hF
 refine zS fun K h=>sp 1 hf rfl fun a hf=>zT h ?_
 refine wp_seq_k fun K7 h7=>zI hf rfl hF ?_ ?_ <;> clear hF <;> intro hF
 ·refine wp_skip ?_
  refine h7 _ _ ?_
  refine wp_seq_k fun K8 h8=>wp_block ?_
  refine zS fun K h=>sp 2 hf rfl fun a hf=>zT h ?_
  refine zS fun K h=>sp 3 hf rfl fun a hf=>?_
  obtain ⟨Y,Z,hF⟩:=aA hF
  obtain ⟨n,o,qa,qp⟩:=b.atm Z
  refine zP hf rfl (pIA Tryz.underlying30 eL rfl rfl qa) fun a hf=>zE hf hc rfl (bT bA rfl (bL (j:=0) qp rfl)) fun a w hf hc=>zQ (v:=.bool (fL Y f_)) hf hc aE9 rfl (fun w hc=>(tG Y f_ R M ((hc.pick k1).pick k1) rfl).mono fun e w h=>⟨h.1,((h.2.unpick k1).unpick k1)⟩) fun a w hf hc=>zT h ?_
  refine zI hf rfl hF ?_ ?_ <;> clear hF <;> intro hF
  ·refine zS fun K h=>sp 2 hf rfl fun a hf=>zT h ?_
   refine wp_ret ?_
   refine bN ?_
   refine aN ?_
   refine aN ?_
   have he:=sj hF
   rw [← he] at O
   replace hF:=k _ O
   refine bN ?_
   refine aN ?_
   obtain rfl:=hF
   exact zO1 Tryz.results63 hf rfl ⟨rfl,hc⟩
  ·refine wp_skip ?_
   refine h8 _ _ ?_
   refine cJ ?_
   refine sp 2 hf rfl fun a hf=>aP ?_
   exact d (W (x + 1)) _ _ (sj hF).symm ⟨hf.kp rfl,hc⟩
 ·refine wp_exit ?_
  refine aW ?_
  refine aW ?_
  have he:=sj hF
  rw [← he] at O
  refine eV ?_
  exact i _ _ _ O ⟨hf.kp rfl,hc⟩

def dN (N:Nat) (s_:List Int) (f_:aB):Option (Bool) :=
 Option.bind (eQ N s_ f_) fun r=>
 some (decide (0≤r))
theorem mK {N:Nat} {G:aO} {Lf:List Ent} {w:World} (s_:List Int) (f_:aB) {R:Option Addr} {S:Nat} {b_:Nat} {O:Nat} {I:Option Addr} {H:Nat} {D:Option Addr} {B:Nat} (V:Rd G 1 R S (s_.map aD)) (M:RdT aG G 1 I H f_.People) (J:RdT aL G 2 D B f_.Stations) (hc:Ctx G (.box b_ [.func (.func 77) #[] #[pq O]] 106::.box O [.slice I f_.People.length H,.slice D f_.Stations.length B] 26::Lf) w) {U:Bool} (hF:dN N s_ f_=some U):Calls Tryz.prog 50 #[.slice R s_.length S,.func (.func 84) #[] #[pq b_]] w (fun e w=>e=.returned (.bool U)∧Ctx G (.box b_ [.func (.func 77) #[] #[pq O]] 106::.box O [.slice I f_.People.length H,.slice D f_.Stations.length B] 26::Lf) w):=by
 unfold dN at hF
 refine bI Tryz.func50 rfl Tryz.ntmps50 rfl fun a hf=>zS fun K h=>sp 1 hf rfl fun a hf=>zT h ?_
 refine zS fun K h=>sp 2 hf rfl fun a hf=>?_
 obtain ⟨r,hr,hF⟩:=aA hF
 refine zQ (v:=i6 r) hf hc aA3 rfl (fun w hc=>(nQ s_ f_ V M J ((hc.pick k1).pick k1) hr).mono fun e w h=>⟨h.1,((h.2.unpick k1).unpick k1)⟩) fun a w hf hc=>sp 2 hf rfl fun a hf=>zT h ?_
 refine wp_ret ?_
 obtain rfl:=sj hF
 exact zO1 Tryz.results50 hf rfl ⟨rfl,hc⟩

def kX (N:Nat) (l:List Int) (so:aB):Option (Bool) :=
 Option.bind (dN N l so) fun r=>
 some (!r)
theorem uP {N:Nat} {G:aO} {Lf:List Ent} {w:World} (l:List Int) (so:aB) {O:Option Addr} {R:Nat} {b_:Nat} {H:Option Addr} {I:Nat} {D:Option Addr} {B:Nat} (U:Rd G 1 O R (l.map aD)) (M:RdT aG G 1 H I so.People) (J:RdT aL G 2 D B so.Stations) (hc:Ctx G (.box b_ [.slice H so.People.length I,.slice D so.Stations.length B] 26::Lf) w) {S:Bool} (hF:kX N l so=some S):Calls Tryz.prog 44 #[.slice O l.length R,.func (.func 77) #[] #[pq b_]] w (fun e w=>e=.returned (.bool S)∧Ctx G (.box b_ [.slice H so.People.length I,.slice D so.Stations.length B] 26::Lf) w):=by
 unfold kX at hF
 refine bI Tryz.func44 rfl Tryz.ntmps44 rfl fun a hf=>zS fun K h=>zB hf hc rfl fun V a w hf hc=>sp 1 hf rfl fun a hf=>zT h ?_
 refine zS fun K h=>sp 1 hf rfl fun a hf=>zP hf rfl (pMF (us:=[pq V]) rfl rfl) fun a hf=>?_
 obtain ⟨r,hr,hF⟩:=aA hF
 refine zQ (v:=.bool r) hf hc aC0 rfl (fun w hc=>(mK l so U M J ((hc.pick k1).pick k1) hr).mono fun e w h=>⟨h.1,((h.2.unpick k1).unpick k1)⟩) fun a w hf hc=>sp 2 hf rfl fun a hf=>zT h ?_
 refine wp_ret ?_
 obtain rfl:=sj hF
 replace hc:=hc.drop k0
 exact zO1 Tryz.results44 hf rfl ⟨rfl,hc⟩

def pJ (N:Nat) (s_:aC) (x:aB):Option (Bool) :=
 Option.bind (cond (aH s_.Places 1 12) (Option.bind (kX N s_.Order (⟨x.People,x.Stations⟩:aB)) fun r=>
 some r) (some false)) fun B=>
 some B
theorem yV {N:Nat} {G:aO} {Lf:List Ent} {w:World} (s_:aC) (x:aB) {M:Option Addr} {J:Nat} {b_:Nat} {H:Option Addr} {I:Nat} {D:Option Addr} {B:Nat} (R:Rd G 1 M J (s_.Order.map aD)) (S:RdT aG G 1 H I x.People) (O:RdT aL G 2 D B x.Stations) (hc:Ctx G (.box b_ [.slice H x.People.length I,.slice D x.Stations.length B] 26::Lf) w) {X:Bool} (hF:pJ N s_ x=some X):Calls Tryz.prog 76 #[.agg #[i6 s_.Places,.slice M s_.Order.length J],pq b_] w (fun e w=>e=.returned (.bool X)∧Ctx G (.box b_ [.slice H x.People.length I,.slice D x.Stations.length B] 26::Lf) w):=by
 unfold pJ at hF
 refine bI Tryz.func76 rfl Tryz.ntmps76 rfl fun a hf=>zS fun K h=>zB hf hc rfl fun V a w hf hc=>sp 1 hf rfl fun a hf=>zT h ?_
 refine zS fun K h=>zP hf rfl (pFA pW rfl) fun a hf=>zL hf hc bA m0 rfl fun a w hf hc=>zQ (v:=.bool (aH s_.Places 1 12)) hf hc lJ rfl (fun w hc=>cG s_.Places 1 12 hc rfl) fun a w hf hc=>sp 1 hf rfl fun a hf=>?_
 obtain ⟨Y,U,hF⟩:=aA hF
 refine gX 5 (fun a=>Has 13 a [(1,pq b_),(2,pq V),(3,.bool false),(4,pq V),(5,i6 s_.Places),(6,.bool (aH s_.Places 1 12)),(7,.bool (aH s_.Places 1 12)),(12,.bool Y)]) hc ?_ ?_
 ·cases hb:(aH s_.Places 1 12)
  ·rw [hb] at hf
   have hF:=jM hb U
   obtain rfl:=sj hF
   refine stS hf rfl rfl rfl fun a hf=>stS hf rfl rfl rfl fun a hf=>stS hf rfl rfl rfl fun a hf=>stS hf rfl rfl rfl fun a hf=>sp 1 hf rfl fun a hf=>aP ⟨hf.kp rfl,hc⟩
  ·rw [hb] at hf
   have hF:=iL hb U
   refine zP hf rfl (pFA tF rfl) fun a hf=>zL hf hc kJ m0 rfl fun a w hf hc=>zP hf rfl (pMF (us:=[pq b_]) rfl rfl) fun a hf=>?_
   obtain ⟨r,hr,hF⟩:=aA hF
   refine zQ (v:=.bool r) hf hc aD0 rfl (fun w hc=>(uP s_.Order (⟨x.People,x.Stations⟩:aB) R S O (hc.pick k1) hr).mono fun e w h=>⟨h.1,(h.2.unpick k1)⟩) fun a w hf hc=>sp 1 hf rfl fun a hf=>?_
   obtain rfl:=sj hF
   exact aP ⟨hf.kp rfl,hc⟩
 intro a w ⟨hf,hc⟩
 refine sp 1 hf rfl fun a hf=>zT h ?_
 refine wp_ret ?_
 obtain rfl:=sj hF
 replace hc:=hc.drop k0
 exact zO1 Tryz.results76 hf rfl ⟨rfl,hc⟩

def eE (N:Nat) (x:aC) (B:aB):Option (Bool) :=
 Option.bind (pJ N x B) fun r=>
 some (!r)
theorem pB {N:Nat} {G:aO} {Lf:List Ent} {w:World} (x:aC) (R:aB) {M:Option Addr} {O:Nat} {b_:Nat} {U:Nat} {H:Option Addr} {I:Nat} {B:Option Addr} {D:Nat} (V:Rd G 1 M O (x.Order.map aD)) (S:RdT aG G 1 H I R.People) (J:RdT aL G 2 B D R.Stations) (hc:Ctx G (.box b_ [.func (.func 76) #[] #[pq U]] 130::.box U [.slice H R.People.length I,.slice B R.Stations.length D] 26::Lf) w) {X:Bool} (hF:eE N x R=some X):Calls Tryz.prog 103 #[.agg #[i6 x.Places,.slice M x.Order.length O],pq b_] w (fun e w=>e=.returned (.bool X)∧Ctx G (.box b_ [.func (.func 76) #[] #[pq U]] 130::.box U [.slice H R.People.length I,.slice B R.Stations.length D] 26::Lf) w):=by
 unfold eE at hF
 refine bI Tryz.func103 rfl Tryz.ntmps103 rfl fun a hf=>zS fun K h=>zB hf hc rfl fun Y a w hf hc=>sp 1 hf rfl fun a hf=>zT h ?_
 refine zS fun K h=>zL hf hc aGv m1 rfl fun a w hf hc=>zN hf hc aAn m0 rfl fun a w hf hc=>?_
 obtain ⟨r,hr,hF⟩:=aA hF
 refine zQ (v:=.bool r) hf hc en_76 rfl (fun w hc=>(yV x R V S J (hc.pick k2) hr).mono fun e w h=>⟨h.1,(h.2.unpick k2)⟩) fun a w hf hc=>sp 2 hf rfl fun a hf=>zT h ?_
 refine wp_ret ?_
 obtain rfl:=sj hF
 replace hc:=hc.drop k0
 exact zO1 Tryz.results103 hf rfl ⟨rfl,hc⟩

def bV (N:Nat) (s_:List aC) (f_:aB) (x:Int):Option (cK (Int) (Int)) :=
 cond (decide (x < ((s_.length:Nat):Int)))
 (Option.bind (bH s_ x) fun B=>
 Option.bind (eE N B f_) fun r=>
 cond r
 (some (.ret x))
 (some (.cont (W (x + 1)))))
 (some (.brk x))
def cB (N:Nat) (s_:List aC) (f_:aB):Option (Int) :=
 Option.bind (bE (fun s4=>bV N s_ f_ s4) N 0) fun x4=>
 exK x4 (fun s4=>some (-1)) some
theorem iO {N:Nat} {G:aO} {Lf:List Ent} {w:World} (s_:List aC) (f_:aB) {U:Option Addr} {V:Nat} {b_:Nat} {J:Nat} {I:Option Addr} {H:Nat} {D:Option Addr} {B:Nat} (b:RdT aL G 2 U V s_) (R:RdT aG G 1 I H f_.People) (M:RdT aL G 2 D B f_.Stations) (hc:Ctx G (.box b_ [.func (.func 76) #[] #[pq J]] 130::.box J [.slice I f_.People.length H,.slice D f_.Stations.length B] 26::Lf) w) {Y:Int} (hF:cB N s_ f_=some Y):Calls Tryz.prog 113 #[.slice U s_.length V,.func (.func 103) #[] #[pq b_]] w (fun e w=>e=.returned (i6 Y)∧Ctx G (.box b_ [.func (.func 76) #[] #[pq J]] 130::.box J [.slice I f_.People.length H,.slice D f_.Stations.length B] 26::Lf) w):=by
 unfold cB at hF
 refine bI Tryz.func113 rfl Tryz.ntmps113 rfl fun a hf=>zS fun K h=>sp 1 hf rfl fun a hf=>zT h ?_
 refine wp_seq_k fun K2 h2=>zS fun K h=>sp 1 hf rfl fun a hf=>zP hf rfl (bC Tryz.underlying24 rfl) fun a hf=>sp 1 hf rfl fun a hf=>zT h ?_
 refine wp_block ?_
 obtain ⟨x4,g,hF⟩:=aA hF
 let S4:Int→Act→World→Prop:=(fun (zz:Int) a w=>Has 19 a [(0,.slice U s_.length V),(1,.func (.func 103) #[] #[pq b_]),(7,i6 ((s_.length:Nat):Int)),(8,i6 zz)]∧Ctx G (.box b_ [.func (.func 76) #[] #[pq J]] 130::.box J [.slice I f_.People.length H,.slice D f_.Stations.length B] 26::Lf) w)
 have i:∀ (zz:Int) a w,x4=.go zz→S4 zz a w→K2 a w:=by
  rintro x a w rfl ⟨hf,hc⟩
  replace hF:=bP hF
  refine h2 _ _ ?_
  refine zS fun K h=>sp 1 hf rfl fun a hf=>zT h ?_
  refine wp_ret ?_
  obtain rfl:=sj hF
  exact zO1 Tryz.results113 hf rfl ⟨rfl,hc⟩
 have j:∀ r,x4=.out r→r=Y:=by
  rintro r rfl
  exact sj hF
 refine cR N (cL (S:=S4) (x:=x4) ?_ N 0 _ _ ⟨hf.kp rfl,hc⟩ g)
 clear hF hf hc
 rintro x k a w KB4 ⟨hf,hc⟩ hF O d
 unfold bV at hF
 refine zS fun K h=>sp 1 hf rfl fun a hf=>zT h ?_
 refine wp_seq_k fun K7 h7=>zI hf rfl hF ?_ ?_ <;> clear hF <;> intro hF
 ·refine wp_skip ?_
  refine h7 _ _ ?_
  refine wp_seq_k fun K8 h8=>wp_block ?_
  refine zS fun K h=>sp 2 hf rfl fun a hf=>zT h ?_
  refine zS fun K h=>sp 3 hf rfl fun a hf=>?_
  obtain ⟨X,Z,hF⟩:=aA hF
  obtain ⟨m,o,hd,qa,qp,qr⟩:=b.atm Z
  refine zP hf rfl (pIA Tryz.underlying24 pF rfl rfl qa) fun a hf=>zE hf hc rfl (jN (vs:=[i6 X.Places,.slice hd.1 X.Order.length hd.2]) aAn rfl rfl (eX qp (n:=2) (o':=0) rfl)) fun a w hf hc=>?_
  obtain ⟨r,hr,hF⟩:=aA hF
  refine zQ (v:=.bool r) hf hc aIu rfl (fun w hc=>(pB X f_ qr R M ((hc.pick k1).pick k1) hr).mono fun e w h=>⟨h.1,((h.2.unpick k1).unpick k1)⟩) fun a w hf hc=>zT h ?_
  refine zI hf rfl hF ?_ ?_ <;> clear hF <;> intro hF
  ·refine zS fun K h=>sp 2 hf rfl fun a hf=>zT h ?_
   refine wp_ret ?_
   refine bN ?_
   refine aN ?_
   refine aN ?_
   have he:=sj hF
   rw [← he] at O
   replace hF:=j _ O
   refine bN ?_
   refine aN ?_
   obtain rfl:=hF
   exact zO1 Tryz.results113 hf rfl ⟨rfl,hc⟩
  ·refine wp_skip ?_
   refine h8 _ _ ?_
   refine cJ ?_
   refine sp 2 hf rfl fun a hf=>aP ?_
   exact d (W (x + 1)) _ _ (sj hF).symm ⟨hf.kp rfl,hc⟩
 ·refine wp_exit ?_
  refine aW ?_
  refine aW ?_
  have he:=sj hF
  rw [← he] at O
  refine eV ?_
  exact i _ _ _ O ⟨hf.kp rfl,hc⟩

def bX (N:Nat) (s_:List aC) (f_:aB):Option (Bool) :=
 Option.bind (cB N s_ f_) fun r=>
 some (decide (0≤r))
theorem hY {N:Nat} {G:aO} {Lf:List Ent} {w:World} (s_:List aC) (f_:aB) {R:Option Addr} {S:Nat} {b_:Nat} {O:Nat} {I:Option Addr} {H:Nat} {D:Option Addr} {B:Nat} (V:RdT aL G 2 R S s_) (M:RdT aG G 1 I H f_.People) (J:RdT aL G 2 D B f_.Stations) (hc:Ctx G (.box b_ [.func (.func 76) #[] #[pq O]] 130::.box O [.slice I f_.People.length H,.slice D f_.Stations.length B] 26::Lf) w) {U:Bool} (hF:bX N s_ f_=some U):Calls Tryz.prog 102 #[.slice R s_.length S,.func (.func 103) #[] #[pq b_]] w (fun e w=>e=.returned (.bool U)∧Ctx G (.box b_ [.func (.func 76) #[] #[pq O]] 130::.box O [.slice I f_.People.length H,.slice D f_.Stations.length B] 26::Lf) w):=by
 unfold bX at hF
 refine bI Tryz.func102 rfl Tryz.ntmps102 rfl fun a hf=>zS fun K h=>sp 1 hf rfl fun a hf=>zT h ?_
 refine zS fun K h=>sp 2 hf rfl fun a hf=>?_
 obtain ⟨r,hr,hF⟩:=aA hF
 refine zQ (v:=i6 r) hf hc aHx rfl (fun w hc=>(iO s_ f_ V M J ((hc.pick k1).pick k1) hr).mono fun e w h=>⟨h.1,((h.2.unpick k1).unpick k1)⟩) fun a w hf hc=>sp 2 hf rfl fun a hf=>zT h ?_
 refine wp_ret ?_
 obtain rfl:=sj hF
 exact zO1 Tryz.results102 hf rfl ⟨rfl,hc⟩

def eY (N:Nat) (l:List aC) (so:aB):Option (Bool) :=
 Option.bind (bX N l so) fun r=>
 some (!r)
theorem qM {N:Nat} {G:aO} {Lf:List Ent} {w:World} (l:List aC) (so:aB) {O:Option Addr} {R:Nat} {b_:Nat} {H:Option Addr} {I:Nat} {D:Option Addr} {B:Nat} (U:RdT aL G 2 O R l) (M:RdT aG G 1 H I so.People) (J:RdT aL G 2 D B so.Stations) (hc:Ctx G (.box b_ [.slice H so.People.length I,.slice D so.Stations.length B] 26::Lf) w) {S:Bool} (hF:eY N l so=some S):Calls Tryz.prog 75 #[.slice O l.length R,.func (.func 76) #[] #[pq b_]] w (fun e w=>e=.returned (.bool S)∧Ctx G (.box b_ [.slice H so.People.length I,.slice D so.Stations.length B] 26::Lf) w):=by
 unfold eY at hF
 refine bI Tryz.func75 rfl Tryz.ntmps75 rfl fun a hf=>zS fun K h=>zB hf hc rfl fun V a w hf hc=>sp 1 hf rfl fun a hf=>zT h ?_
 refine zS fun K h=>sp 1 hf rfl fun a hf=>zP hf rfl (pMF (us:=[pq V]) rfl rfl) fun a hf=>?_
 obtain ⟨r,hr,hF⟩:=aA hF
 refine zQ (v:=.bool r) hf hc aHr rfl (fun w hc=>(hY l so U M J ((hc.pick k1).pick k1) hr).mono fun e w h=>⟨h.1,((h.2.unpick k1).unpick k1)⟩) fun a w hf hc=>sp 2 hf rfl fun a hf=>zT h ?_
 refine wp_ret ?_
 obtain rfl:=sj hF
 replace hc:=hc.drop k0
 exact zO1 Tryz.results75 hf rfl ⟨rfl,hc⟩

def iU (N:Nat) (s_:List Int) (v:Int) (x:Int):Option (cK (Int) (Int)) :=
 cond (decide (x < ((s_.length:Nat):Int)))
 (Option.bind (bH s_ x) fun B=>
 cond (v == B)
 (some (.ret x))
 (some (.cont (W (x + 1)))))
 (some (.brk x))
def dI (N:Nat) (s_:List Int) (v:Int):Option (Int) :=
 Option.bind (bE (fun s4=>iU N s_ v s4) N 0) fun x4=>
 exK x4 (fun s4=>some (-1)) some
theorem iS {N:Nat} {G:aO} {Lf:List Ent} {w:World} (s_:List Int) (v:Int) {D:Option Addr} {H:Nat} (M:Rd G 1 D H (s_.map aD)) (hc:Ctx G (Lf) w) {I:Int} (hF:dI N s_ v=some I):Calls Tryz.prog 22 #[.slice D s_.length H,i6 v] w (fun e w=>e=.returned (i6 I)∧Ctx G (Lf) w):=by
 unfold dI at hF
 refine bI Tryz.func22 rfl Tryz.ntmps22 rfl fun a hf=>zS fun K h=>sp 1 hf rfl fun a hf=>zT h ?_
 refine wp_seq_k fun K2 h2=>zS fun K h=>sp 1 hf rfl fun a hf=>zP hf rfl (bC Tryz.underlying30 rfl) fun a hf=>sp 1 hf rfl fun a hf=>zT h ?_
 refine wp_block ?_
 obtain ⟨x4,R,hF⟩:=aA hF
 let S4:Int→Act→World→Prop:=(fun (zz:Int) a w=>Has 19 a [(0,.slice D s_.length H),(1,i6 v),(7,i6 ((s_.length:Nat):Int)),(8,i6 zz)]∧Ctx G (Lf) w)
 have U:∀ (zz:Int) a w,x4=.go zz→S4 zz a w→K2 a w:=by
  rintro x a w rfl ⟨hf,hc⟩
  replace hF:=bP hF
  refine h2 _ _ ?_
  refine zS fun K h=>sp 1 hf rfl fun a hf=>zT h ?_
  refine wp_ret ?_
  obtain rfl:=sj hF
  exact zO1 Tryz.results22 hf rfl ⟨rfl,hc⟩
 have V:∀ r,x4=.out r→r=I:=by
  rintro r rfl
  exact sj hF
 refine cR N (cL (S:=S4) (x:=x4) ?_ N 0 _ _ ⟨hf.kp rfl,hc⟩ R)
 clear hF hf hc
 rintro x Y a w KB4 ⟨hf,hc⟩ hF B O
 unfold iU at hF
 refine zS fun K h=>sp 1 hf rfl fun a hf=>zT h ?_
 refine wp_seq_k fun K7 h7=>zI hf rfl hF ?_ ?_ <;> clear hF <;> intro hF
 ·refine wp_skip ?_
  refine h7 _ _ ?_
  refine wp_seq_k fun K8 h8=>wp_block ?_
  refine zS fun K h=>sp 2 hf rfl fun a hf=>zT h ?_
  refine zS fun K h=>sp 3 hf rfl fun a hf=>?_
  obtain ⟨X,J,hF⟩:=aA hF
  obtain ⟨Z,o,qa,qp⟩:=M.atm J
  refine zP hf rfl (pIA Tryz.underlying30 eL rfl rfl qa) fun a hf=>zE hf hc rfl (bT bA rfl (bL (j:=0) qp rfl)) fun a w hf hc=>sp 1 hf rfl fun a hf=>zT h ?_
  refine zI hf rfl hF ?_ ?_ <;> clear hF <;> intro hF
  ·refine zS fun K h=>sp 2 hf rfl fun a hf=>zT h ?_
   refine wp_ret ?_
   refine bN ?_
   refine aN ?_
   refine aN ?_
   have he:=sj hF
   rw [← he] at B
   replace hF:=V _ B
   refine bN ?_
   refine aN ?_
   obtain rfl:=hF
   exact zO1 Tryz.results22 hf rfl ⟨rfl,hc⟩
  ·refine wp_skip ?_
   refine h8 _ _ ?_
   refine cJ ?_
   refine sp 2 hf rfl fun a hf=>aP ?_
   exact O (W (x + 1)) _ _ (sj hF).symm ⟨hf.kp rfl,hc⟩
 ·refine wp_exit ?_
  refine aW ?_
  refine aW ?_
  have he:=sj hF
  rw [← he] at B
  refine eV ?_
  exact U _ _ _ B ⟨hf.kp rfl,hc⟩

def dF (N:Nat) (s_:List Int) (v:Int):Option (Bool) :=
 Option.bind (dI N s_ v) fun r=>
 some (decide (0≤r))
theorem kV {N:Nat} {G:aO} {Lf:List Ent} {w:World} (s_:List Int) (v:Int) {B:Option Addr} {D:Nat} (I:Rd G 1 B D (s_.map aD)) (hc:Ctx G (Lf) w) {H:Bool} (hF:dF N s_ v=some H):Calls Tryz.prog 85 #[.slice B s_.length D,i6 v] w (fun e w=>e=.returned (.bool H)∧Ctx G (Lf) w):=by
 unfold dF at hF
 refine bI Tryz.func85 rfl Tryz.ntmps85 rfl fun a hf=>zS fun K h=>sp 1 hf rfl fun a hf=>zT h ?_
 refine zS fun K h=>sp 2 hf rfl fun a hf=>?_
 obtain ⟨r,hr,hF⟩:=aA hF
 refine zQ (v:=i6 r) hf hc aIo rfl (fun w hc=>iS s_ v I hc hr) fun a w hf hc=>sp 2 hf rfl fun a hf=>zT h ?_
 refine wp_ret ?_
 obtain rfl:=sj hF
 exact zO1 Tryz.results85 hf rfl ⟨rfl,hc⟩

def kF (N:Nat) (l:List Int) (x:Int):Option (cK (Int) (Bool)) :=
 cond (decide (x < ((l.length:Nat):Int)))
 (Option.bind (bH l x) fun B=>
 Option.bind (xE l 0 x) fun sub=>
 Option.bind (dF N sub B) fun r=>
 cond r
 (some (.ret false))
 (some (.cont (W (x + 1)))))
 (some (.brk x))
def pZ (N:Nat) (l:List Int):Option (Bool) :=
 Option.bind (bE (fun s4=>kF N l s4) N 0) fun x4=>
 exK x4 (fun s4=>some true) some
theorem wJ {N:Nat} {G:aO} {Lf:List Ent} {w:World} (l:List Int) {D:Option Addr} {H:Nat} (I:Rd G 1 D H (l.map aD)) (hc:Ctx G (Lf) w) {M:Bool} (hF:pZ N l=some M):Calls Tryz.prog 78 #[.slice D l.length H] w (fun e w=>e=.returned (.bool M)∧Ctx G (Lf) w):=by
 unfold pZ at hF
 refine bI Tryz.func78 rfl Tryz.ntmps78 rfl fun a hf=>zS fun K h=>sp 1 hf rfl fun a hf=>zT h ?_
 refine wp_seq_k fun K2 h2=>zS fun K h=>sp 1 hf rfl fun a hf=>zP hf rfl (bC Tryz.underlying30 rfl) fun a hf=>sp 1 hf rfl fun a hf=>zT h ?_
 refine wp_block ?_
 obtain ⟨x4,U,hF⟩:=aA hF
 let S4:Int→Act→World→Prop:=(fun (zz:Int) a w=>Has 18 a [(0,.slice D l.length H),(5,.slice D l.length H),(6,i6 ((l.length:Nat):Int)),(7,i6 zz)]∧Ctx G (Lf) w)
 have X:∀ (zz:Int) a w,x4=.go zz→S4 zz a w→K2 a w:=by
  rintro x a w rfl ⟨hf,hc⟩
  replace hF:=bP hF
  refine h2 _ _ ?_
  refine zS fun K h=>sp 1 hf rfl fun a hf=>zT h ?_
  refine wp_ret ?_
  obtain rfl:=sj hF
  exact zO1 Tryz.results78 hf rfl ⟨rfl,hc⟩
 have Y:∀ r,x4=.out r→r=M:=by
  rintro r rfl
  exact sj hF
 refine cR N (cL (S:=S4) (x:=x4) ?_ N 0 _ _ ⟨hf.kp rfl,hc⟩ U)
 clear hF hf hc
 rintro x Z a w KB4 ⟨hf,hc⟩ hF B R
 unfold kF at hF
 refine zS fun K h=>sp 1 hf rfl fun a hf=>zT h ?_
 refine wp_seq_k fun K7 h7=>zI hf rfl hF ?_ ?_ <;> clear hF <;> intro hF
 ·refine wp_skip ?_
  refine h7 _ _ ?_
  refine wp_seq_k fun K8 h8=>wp_block ?_
  refine zS fun K h=>sp 1 hf rfl fun a hf=>?_
  obtain ⟨V,O,hF⟩:=aA hF
  obtain ⟨b,o,qa,qp⟩:=I.atm O
  refine zP hf rfl (pIA Tryz.underlying30 eL rfl rfl qa) fun a hf=>zE hf hc rfl (bT bA rfl (bL (j:=0) qp rfl)) fun a w hf hc=>sp 2 hf rfl fun a hf=>zT h ?_
  refine zS fun K h=>sp 2 hf rfl fun a hf=>?_
  obtain ⟨sub,J,hF⟩:=aA hF
  have qs:=Rd.sub I J
  refine zP hf rfl (pSl Tryz.underlying30 eL rfl rfl (by simpa using I.1) rfl rfl J) fun a hf=>sp 1 hf rfl fun a hf=>?_
  obtain ⟨r,hr,hF⟩:=aA hF
  refine zQ (v:=.bool r) hf hc aJv rfl (fun w hc=>kV sub V qs hc hr) fun a w hf hc=>zT h ?_
  refine zI hf rfl hF ?_ ?_ <;> clear hF <;> intro hF
  ·refine zS fun K h=>sp 1 hf rfl fun a hf=>zT h ?_
   refine wp_ret ?_
   refine bN ?_
   refine aN ?_
   refine aN ?_
   have he:=sj hF
   rw [← he] at B
   replace hF:=Y _ B
   refine bN ?_
   refine aN ?_
   obtain rfl:=hF
   exact zO1 Tryz.results78 hf rfl ⟨rfl,hc⟩
  ·refine wp_skip ?_
   refine h8 _ _ ?_
   refine cJ ?_
   refine sp 2 hf rfl fun a hf=>aP ?_
   exact R (W (x + 1)) _ _ (sj hF).symm ⟨hf.kp rfl,hc⟩
 ·refine wp_exit ?_
  refine aW ?_
  refine aW ?_
  have he:=sj hF
  rw [← he] at B
  refine eV ?_
  exact X _ _ _ B ⟨hf.kp rfl,hc⟩

def iH (N:Nat) (x:List Int):Option (Bool) :=
 Option.bind (pZ N x) fun r=>
 some (!r)
theorem sL {N:Nat} {G:aO} {Lf:List Ent} {w:World} (x:List Int) {D:Option Addr} {B:Nat} {b_:Nat} (I:Rd G 1 D B (x.map aD)) (hc:Ctx G (.box b_ [.func (.func 78) #[] #[]] 128::Lf) w) {H:Bool} (hF:iH N x=some H):Calls Tryz.prog 101 #[.slice D x.length B,pq b_] w (fun e w=>e=.returned (.bool H)∧Ctx G (.box b_ [.func (.func 78) #[] #[]] 128::Lf) w):=by
 unfold iH at hF
 refine bI Tryz.func101 rfl Tryz.ntmps101 rfl fun a hf=>zS fun K h=>sp 1 hf rfl fun a hf=>zT h ?_
 refine zS fun K h=>zL hf hc aH4 m0 rfl fun a w hf hc=>sp 1 hf rfl fun a hf=>?_
 obtain ⟨r,hr,hF⟩:=aA hF
 refine zQ (v:=.bool r) hf hc aJk rfl (fun w hc=>wJ x I hc hr) fun a w hf hc=>sp 2 hf rfl fun a hf=>zT h ?_
 refine wp_ret ?_
 obtain rfl:=sj hF
 exact zO1 Tryz.results101 hf rfl ⟨rfl,hc⟩

def dC (N:Nat) (s_:List (List Int)) (x:Int):Option (cK (Int) (Int)) :=
 cond (decide (x < ((s_.length:Nat):Int)))
 (Option.bind (bH s_ x) fun B=>
 Option.bind (iH N B) fun r=>
 cond r
 (some (.ret x))
 (some (.cont (W (x + 1)))))
 (some (.brk x))
def eB (N:Nat) (s_:List (List Int)):Option (Int) :=
 Option.bind (bE (fun s4=>dC N s_ s4) N 0) fun x4=>
 exK x4 (fun s4=>some (-1)) some
theorem mX {N:Nat} {G:aO} {Lf:List Ent} {w:World} (s_:List (List Int)) {D:Option Addr} {H:Nat} {b_:Nat} (M:RdT aG G 1 D H s_) (hc:Ctx G (.box b_ [.func (.func 78) #[] #[]] 128::Lf) w) {I:Int} (hF:eB N s_=some I):Calls Tryz.prog 112 #[.slice D s_.length H,.func (.func 101) #[] #[pq b_]] w (fun e w=>e=.returned (i6 I)∧Ctx G (.box b_ [.func (.func 78) #[] #[]] 128::Lf) w):=by
 unfold eB at hF
 refine bI Tryz.func112 rfl Tryz.ntmps112 rfl fun a hf=>zS fun K h=>sp 1 hf rfl fun a hf=>zT h ?_
 refine wp_seq_k fun K2 h2=>zS fun K h=>sp 1 hf rfl fun a hf=>zP hf rfl (bC Tryz.underlying23 rfl) fun a hf=>sp 1 hf rfl fun a hf=>zT h ?_
 refine wp_block ?_
 obtain ⟨x4,R,hF⟩:=aA hF
 let S4:Int→Act→World→Prop:=(fun (zz:Int) a w=>Has 19 a [(0,.slice D s_.length H),(1,.func (.func 101) #[] #[pq b_]),(7,i6 ((s_.length:Nat):Int)),(8,i6 zz)]∧Ctx G (.box b_ [.func (.func 78) #[] #[]] 128::Lf) w)
 have V:∀ (zz:Int) a w,x4=.go zz→S4 zz a w→K2 a w:=by
  rintro x a w rfl ⟨hf,hc⟩
  replace hF:=bP hF
  refine h2 _ _ ?_
  refine zS fun K h=>sp 1 hf rfl fun a hf=>zT h ?_
  refine wp_ret ?_
  obtain rfl:=sj hF
  exact zO1 Tryz.results112 hf rfl ⟨rfl,hc⟩
 have X:∀ r,x4=.out r→r=I:=by
  rintro r rfl
  exact sj hF
 refine cR N (cL (S:=S4) (x:=x4) ?_ N 0 _ _ ⟨hf.kp rfl,hc⟩ R)
 clear hF hf hc
 rintro x Y a w KB4 ⟨hf,hc⟩ hF B O
 unfold dC at hF
 refine zS fun K h=>sp 1 hf rfl fun a hf=>zT h ?_
 refine wp_seq_k fun K7 h7=>zI hf rfl hF ?_ ?_ <;> clear hF <;> intro hF
 ·refine wp_skip ?_
  refine h7 _ _ ?_
  refine wp_seq_k fun K8 h8=>wp_block ?_
  refine zS fun K h=>sp 2 hf rfl fun a hf=>zT h ?_
  refine zS fun K h=>sp 3 hf rfl fun a hf=>?_
  obtain ⟨U,J,hF⟩:=aA hF
  obtain ⟨Z,o,hd,qa,qp,qr⟩:=M.atm J
  refine zP hf rfl (pIA Tryz.underlying23 nB rfl rfl qa) fun a hf=>zE hf hc rfl (bT kJ rfl (bL (j:=0) qp rfl)) fun a w hf hc=>?_
  obtain ⟨r,hr,hF⟩:=aA hF
  refine zQ (v:=.bool r) hf hc aIa rfl (fun w hc=>(sL U qr (hc.pick k0) hr).mono fun e w h=>⟨h.1,(h.2.unpick k0)⟩) fun a w hf hc=>zT h ?_
  refine zI hf rfl hF ?_ ?_ <;> clear hF <;> intro hF
  ·refine zS fun K h=>sp 2 hf rfl fun a hf=>zT h ?_
   refine wp_ret ?_
   refine bN ?_
   refine aN ?_
   refine aN ?_
   have he:=sj hF
   rw [← he] at B
   replace hF:=X _ B
   refine bN ?_
   refine aN ?_
   obtain rfl:=hF
   exact zO1 Tryz.results112 hf rfl ⟨rfl,hc⟩
  ·refine wp_skip ?_
   refine h8 _ _ ?_
   refine cJ ?_
   refine sp 2 hf rfl fun a hf=>aP ?_
   exact O (W (x + 1)) _ _ (sj hF).symm ⟨hf.kp rfl,hc⟩
 ·refine wp_exit ?_
  refine aW ?_
  refine aW ?_
  have he:=sj hF
  rw [← he] at B
  refine eV ?_
  exact V _ _ _ B ⟨hf.kp rfl,hc⟩

def dD (N:Nat) (s_:List (List Int)):Option (Bool) :=
 Option.bind (eB N s_) fun r=>
 some (decide (0≤r))
theorem lW {N:Nat} {G:aO} {Lf:List Ent} {w:World} (s_:List (List Int)) {B:Option Addr} {D:Nat} {b_:Nat} (I:RdT aG G 1 B D s_) (hc:Ctx G (.box b_ [.func (.func 78) #[] #[]] 128::Lf) w) {H:Bool} (hF:dD N s_=some H):Calls Tryz.prog 100 #[.slice B s_.length D,.func (.func 101) #[] #[pq b_]] w (fun e w=>e=.returned (.bool H)∧Ctx G (.box b_ [.func (.func 78) #[] #[]] 128::Lf) w):=by
 unfold dD at hF
 refine bI Tryz.func100 rfl Tryz.ntmps100 rfl fun a hf=>zS fun K h=>sp 1 hf rfl fun a hf=>zT h ?_
 refine zS fun K h=>sp 2 hf rfl fun a hf=>?_
 obtain ⟨r,hr,hF⟩:=aA hF
 refine zQ (v:=i6 r) hf hc aIc rfl (fun w hc=>(mX s_ I (hc.pick k0) hr).mono fun e w h=>⟨h.1,(h.2.unpick k0)⟩) fun a w hf hc=>sp 2 hf rfl fun a hf=>zT h ?_
 refine wp_ret ?_
 obtain rfl:=sj hF
 exact zO1 Tryz.results100 hf rfl ⟨rfl,hc⟩

def hC (N:Nat) (l:List (List Int)):Option (Bool) :=
 Option.bind (dD N l) fun r=>
 some (!r)
theorem tT {N:Nat} {G:aO} {Lf:List Ent} {w:World} (l:List (List Int)) {B:Option Addr} {D:Nat} (I:RdT aG G 1 B D l) (hc:Ctx G (Lf) w) {H:Bool} (hF:hC N l=some H):Calls Tryz.prog 72 #[.slice B l.length D,.func (.func 78) #[] #[]] w (fun e w=>e=.returned (.bool H)∧Ctx G (Lf) w):=by
 unfold hC at hF
 refine bI Tryz.func72 rfl Tryz.ntmps72 rfl fun a hf=>zS fun K h=>zB hf hc rfl fun J a w hf hc=>sp 1 hf rfl fun a hf=>zT h ?_
 refine zS fun K h=>sp 1 hf rfl fun a hf=>zP hf rfl (pMF (us:=[pq J]) rfl rfl) fun a hf=>?_
 obtain ⟨r,hr,hF⟩:=aA hF
 refine zQ (v:=.bool r) hf hc aG0 rfl (fun w hc=>(lW l I (hc.pick k0) hr).mono fun e w h=>⟨h.1,(h.2.unpick k0)⟩) fun a w hf hc=>sp 2 hf rfl fun a hf=>zT h ?_
 refine wp_ret ?_
 obtain rfl:=sj hF
 replace hc:=hc.drop k0
 exact zO1 Tryz.results72 hf rfl ⟨rfl,hc⟩

def pH (N:Nat) (s_:aC):Option (Bool) :=
 Option.bind (pZ N s_.Order) fun r=>
 some r
theorem yS {N:Nat} {G:aO} {Lf:List Ent} {w:World} (s_:aC) {B:Option Addr} {D:Nat} (H:Rd G 1 B D (s_.Order.map aD)) (hc:Ctx G (Lf) w) {I:Bool} (hF:pH N s_=some I):Calls Tryz.prog 79 #[.agg #[i6 s_.Places,.slice B s_.Order.length D]] w (fun e w=>e=.returned (.bool I)∧Ctx G (Lf) w):=by
 unfold pH at hF
 refine bI Tryz.func79 rfl Tryz.ntmps79 rfl fun a hf=>zS fun K h=>zB hf hc rfl fun J a w hf hc=>sp 1 hf rfl fun a hf=>zT h ?_
 refine zS fun K h=>zP hf rfl (pFA tF rfl) fun a hf=>zL hf hc kJ m0 rfl fun a w hf hc=>?_
 obtain ⟨r,hr,hF⟩:=aA hF
 refine zQ (v:=.bool r) hf hc aJk rfl (fun w hc=>wJ s_.Order H hc hr) fun a w hf hc=>sp 1 hf rfl fun a hf=>zT h ?_
 refine wp_ret ?_
 obtain rfl:=sj hF
 replace hc:=hc.drop k0
 exact zO1 Tryz.results79 hf rfl ⟨rfl,hc⟩

def eS (N:Nat) (x:aC):Option (Bool) :=
 Option.bind (pH N x) fun r=>
 some (!r)
theorem nN {N:Nat} {G:aO} {Lf:List Ent} {w:World} (x:aC) {B:Option Addr} {D:Nat} {b_:Nat} (H:Rd G 1 B D (x.Order.map aD)) (hc:Ctx G (.box b_ [.func (.func 79) #[] #[]] 130::Lf) w) {I:Bool} (hF:eS N x=some I):Calls Tryz.prog 103 #[.agg #[i6 x.Places,.slice B x.Order.length D],pq b_] w (fun e w=>e=.returned (.bool I)∧Ctx G (.box b_ [.func (.func 79) #[] #[]] 130::Lf) w):=by
 unfold eS at hF
 refine bI Tryz.func103 rfl Tryz.ntmps103 rfl fun a hf=>zS fun K h=>zB hf hc rfl fun J a w hf hc=>sp 1 hf rfl fun a hf=>zT h ?_
 refine zS fun K h=>zL hf hc aGv m1 rfl fun a w hf hc=>zN hf hc aAn m0 rfl fun a w hf hc=>?_
 obtain ⟨r,hr,hF⟩:=aA hF
 refine zQ (v:=.bool r) hf hc en_79 rfl (fun w hc=>yS x H hc hr) fun a w hf hc=>sp 2 hf rfl fun a hf=>zT h ?_
 refine wp_ret ?_
 obtain rfl:=sj hF
 replace hc:=hc.drop k0
 exact zO1 Tryz.results103 hf rfl ⟨rfl,hc⟩

def bR (N:Nat) (s_:List aC) (x:Int):Option (cK (Int) (Int)) :=
 cond (decide (x < ((s_.length:Nat):Int)))
 (Option.bind (bH s_ x) fun B=>
 Option.bind (eS N B) fun r=>
 cond r
 (some (.ret x))
 (some (.cont (W (x + 1)))))
 (some (.brk x))
def bW (N:Nat) (s_:List aC):Option (Int) :=
 Option.bind (bE (fun s4=>bR N s_ s4) N 0) fun x4=>
 exK x4 (fun s4=>some (-1)) some
theorem iB {N:Nat} {G:aO} {Lf:List Ent} {w:World} (s_:List aC) {D:Option Addr} {H:Nat} {b_:Nat} (O:RdT aL G 2 D H s_) (hc:Ctx G (.box b_ [.func (.func 79) #[] #[]] 130::Lf) w) {J:Int} (hF:bW N s_=some J):Calls Tryz.prog 113 #[.slice D s_.length H,.func (.func 103) #[] #[pq b_]] w (fun e w=>e=.returned (i6 J)∧Ctx G (.box b_ [.func (.func 79) #[] #[]] 130::Lf) w):=by
 unfold bW at hF
 refine bI Tryz.func113 rfl Tryz.ntmps113 rfl fun a hf=>zS fun K h=>sp 1 hf rfl fun a hf=>zT h ?_
 refine wp_seq_k fun K2 h2=>zS fun K h=>sp 1 hf rfl fun a hf=>zP hf rfl (bC Tryz.underlying24 rfl) fun a hf=>sp 1 hf rfl fun a hf=>zT h ?_
 refine wp_block ?_
 obtain ⟨x4,U,hF⟩:=aA hF
 let S4:Int→Act→World→Prop:=(fun (zz:Int) a w=>Has 19 a [(0,.slice D s_.length H),(1,.func (.func 103) #[] #[pq b_]),(7,i6 ((s_.length:Nat):Int)),(8,i6 zz)]∧Ctx G (.box b_ [.func (.func 79) #[] #[]] 130::Lf) w)
 have V:∀ (zz:Int) a w,x4=.go zz→S4 zz a w→K2 a w:=by
  rintro x a w rfl ⟨hf,hc⟩
  replace hF:=bP hF
  refine h2 _ _ ?_
  refine zS fun K h=>sp 1 hf rfl fun a hf=>zT h ?_
  refine wp_ret ?_
  obtain rfl:=sj hF
  exact zO1 Tryz.results113 hf rfl ⟨rfl,hc⟩
 have X:∀ r,x4=.out r→r=J:=by
  rintro r rfl
  exact sj hF
 refine cR N (cL (S:=S4) (x:=x4) ?_ N 0 _ _ ⟨hf.kp rfl,hc⟩ U)
 clear hF hf hc
 rintro x Y a w KB4 ⟨hf,hc⟩ hF B R
 unfold bR at hF
 refine zS fun K h=>sp 1 hf rfl fun a hf=>zT h ?_
 refine wp_seq_k fun K7 h7=>zI hf rfl hF ?_ ?_ <;> clear hF <;> intro hF
 ·refine wp_skip ?_
  refine h7 _ _ ?_
  refine wp_seq_k fun K8 h8=>wp_block ?_
  refine zS fun K h=>sp 2 hf rfl fun a hf=>zT h ?_
  refine zS fun K h=>sp 3 hf rfl fun a hf=>?_
  obtain ⟨I,M,hF⟩:=aA hF
  obtain ⟨Z,o,hd,qa,qp,qr⟩:=O.atm M
  refine zP hf rfl (pIA Tryz.underlying24 pF rfl rfl qa) fun a hf=>zE hf hc rfl (jN (vs:=[i6 I.Places,.slice hd.1 I.Order.length hd.2]) aAn rfl rfl (eX qp (n:=2) (o':=0) rfl)) fun a w hf hc=>?_
  obtain ⟨r,hr,hF⟩:=aA hF
  refine zQ (v:=.bool r) hf hc aIu rfl (fun w hc=>(nN I qr (hc.pick k0) hr).mono fun e w h=>⟨h.1,(h.2.unpick k0)⟩) fun a w hf hc=>zT h ?_
  refine zI hf rfl hF ?_ ?_ <;> clear hF <;> intro hF
  ·refine zS fun K h=>sp 2 hf rfl fun a hf=>zT h ?_
   refine wp_ret ?_
   refine bN ?_
   refine aN ?_
   refine aN ?_
   have he:=sj hF
   rw [← he] at B
   replace hF:=X _ B
   refine bN ?_
   refine aN ?_
   obtain rfl:=hF
   exact zO1 Tryz.results113 hf rfl ⟨rfl,hc⟩
  ·refine wp_skip ?_
   refine h8 _ _ ?_
   refine cJ ?_
   refine sp 2 hf rfl fun a hf=>aP ?_
   exact R (W (x + 1)) _ _ (sj hF).symm ⟨hf.kp rfl,hc⟩
 ·refine wp_exit ?_
  refine aW ?_
  refine aW ?_
  have he:=sj hF
  rw [← he] at B
  refine eV ?_
  exact V _ _ _ B ⟨hf.kp rfl,hc⟩

def bQ (N:Nat) (s_:List aC):Option (Bool) :=
 Option.bind (bW N s_) fun r=>
 some (decide (0≤r))
theorem gT {N:Nat} {G:aO} {Lf:List Ent} {w:World} (s_:List aC) {B:Option Addr} {D:Nat} {b_:Nat} (I:RdT aL G 2 B D s_) (hc:Ctx G (.box b_ [.func (.func 79) #[] #[]] 130::Lf) w) {H:Bool} (hF:bQ N s_=some H):Calls Tryz.prog 102 #[.slice B s_.length D,.func (.func 103) #[] #[pq b_]] w (fun e w=>e=.returned (.bool H)∧Ctx G (.box b_ [.func (.func 79) #[] #[]] 130::Lf) w):=by
 unfold bQ at hF
 refine bI Tryz.func102 rfl Tryz.ntmps102 rfl fun a hf=>zS fun K h=>sp 1 hf rfl fun a hf=>zT h ?_
 refine zS fun K h=>sp 2 hf rfl fun a hf=>?_
 obtain ⟨r,hr,hF⟩:=aA hF
 refine zQ (v:=i6 r) hf hc aHx rfl (fun w hc=>(iB s_ I (hc.pick k0) hr).mono fun e w h=>⟨h.1,(h.2.unpick k0)⟩) fun a w hf hc=>sp 2 hf rfl fun a hf=>zT h ?_
 refine wp_ret ?_
 obtain rfl:=sj hF
 exact zO1 Tryz.results102 hf rfl ⟨rfl,hc⟩

def dS (N:Nat) (l:List aC):Option (Bool) :=
 Option.bind (bQ N l) fun r=>
 some (!r)
theorem oL {N:Nat} {G:aO} {Lf:List Ent} {w:World} (l:List aC) {B:Option Addr} {D:Nat} (I:RdT aL G 2 B D l) (hc:Ctx G (Lf) w) {H:Bool} (hF:dS N l=some H):Calls Tryz.prog 75 #[.slice B l.length D,.func (.func 79) #[] #[]] w (fun e w=>e=.returned (.bool H)∧Ctx G (Lf) w):=by
 unfold dS at hF
 refine bI Tryz.func75 rfl Tryz.ntmps75 rfl fun a hf=>zS fun K h=>zB hf hc rfl fun J a w hf hc=>sp 1 hf rfl fun a hf=>zT h ?_
 refine zS fun K h=>sp 1 hf rfl fun a hf=>zP hf rfl (pMF (us:=[pq J]) rfl rfl) fun a hf=>?_
 obtain ⟨r,hr,hF⟩:=aA hF
 refine zQ (v:=.bool r) hf hc aHr rfl (fun w hc=>(gT l I (hc.pick k0) hr).mono fun e w h=>⟨h.1,(h.2.unpick k0)⟩) fun a w hf hc=>sp 2 hf rfl fun a hf=>zT h ?_
 refine wp_ret ?_
 obtain rfl:=sj hF
 replace hc:=hc.drop k0
 exact zO1 Tryz.results75 hf rfl ⟨rfl,hc⟩

def qR (N:Nat) (r:aB):Option (Int) :=
 cond ((!(aH ((r.People.length:Nat):Int) 1 12)) || (!(aH ((r.Stations.length:Nat):Int) 1 12)))
 (some 3)
 (Option.bind (kO N r.People r) fun I=>
 Option.bind (cond (!I) (some true) (Option.bind (eY N r.Stations r) fun H=>
 some (!H))) fun D=>
 cond D
 (some 120)
 (Option.bind (hC N r.People) fun J=>
 Option.bind (cond (!J) (some true) (Option.bind (dS N r.Stations) fun B=>
 some (!B))) fun M=>
 cond M
 (some 10)
 (some 0)))
theorem aBh {N:Nat} {G:aO} {Lf:List Ent} {w:World} (r:aB) {B:Option Addr} {H:Nat} {M:Option Addr} {J:Nat} (I:RdT aG G 1 B H r.People) (D:RdT aL G 2 M J r.Stations) (hc:Ctx G (Lf) w) {X:Int} (hF:qR N r=some X):Calls Tryz.prog 37 #[.agg #[.slice B r.People.length H,.slice M r.Stations.length J]] w (fun e w=>e=.returned (i6 X)∧Ctx G (Lf) w):=by
 unfold qR at hF
 refine bI Tryz.func37 rfl Tryz.ntmps37 rfl fun a hf=>zS fun K h=>zB hf hc rfl fun O a w hf hc=>sp 1 hf rfl fun a hf=>zT h ?_
 refine wp_seq_k fun K2 h2=>wp_block ?_
 refine zS fun K h=>zP hf rfl (pFA eZ rfl) fun a hf=>zL hf hc mA m0 rfl fun a w hf hc=>zP hf rfl (bC Tryz.underlying23 rfl) fun a hf=>zQ (v:=.bool (aH ((r.People.length:Nat):Int) 1 12)) hf hc lJ rfl (fun w hc=>cG ((r.People.length:Nat):Int) 1 12 hc rfl) fun a w hf hc=>sp 2 hf rfl fun a hf=>gX 6 (fun a=>Has 40 a [(1,pq O),(4,pq O),(5,.slice B r.People.length H),(6,i6 ((r.People.length:Nat):Int)),(7,.bool (aH ((r.People.length:Nat):Int) 1 12)),(8,.bool (!(aH ((r.People.length:Nat):Int) 1 12))),(9,.bool (!(aH ((r.People.length:Nat):Int) 1 12))),(15,.bool ((!(aH ((r.People.length:Nat):Int) 1 12)) || (!(aH ((r.Stations.length:Nat):Int) 1 12))))]) hc ?_ ?_
 ·cases hb:(!(aH ((r.People.length:Nat):Int) 1 12))
  ·rw [hb] at hf
   refine zP hf rfl (pFA eG rfl) fun a hf=>zL hf hc lN m0 rfl fun a w hf hc=>zP hf rfl (bC Tryz.underlying24 rfl) fun a hf=>zQ (v:=.bool (aH ((r.Stations.length:Nat):Int) 1 12)) hf hc lJ rfl (fun w hc=>cG ((r.Stations.length:Nat):Int) 1 12 hc rfl) fun a w hf hc=>sp 2 hf rfl fun a hf=>aP ⟨hf.kp rfl,hc⟩
  ·rw [hb] at hf
   refine stS hf rfl rfl rfl fun a hf=>stS hf rfl rfl rfl fun a hf=>stS hf rfl rfl rfl fun a hf=>stS hf rfl rfl rfl fun a hf=>stS hf rfl rfl rfl fun a hf=>sp 1 hf rfl fun a hf=>aP ⟨hf.kp rfl,hc⟩
 intro a w ⟨hf,hc⟩
 refine sp 1 hf rfl fun a hf=>zT h ?_
 refine zI hf rfl hF ?_ ?_ <;> clear hF <;> intro hF
 ·refine zS fun K h=>sp 1 hf rfl fun a hf=>zT h ?_
  refine wp_ret ?_
  refine bN ?_
  refine aN ?_
  obtain rfl:=sj hF
  replace hc:=hc.drop k0
  exact zO1 Tryz.results37 hf rfl ⟨rfl,hc⟩
 ·refine zS fun K h=>zP hf rfl (pFA eZ rfl) fun a hf=>zL hf hc mA m0 rfl fun a w hf hc=>zP hf rfl (pMF (us:=[pq O]) rfl rfl) fun a hf=>?_
  obtain ⟨R,d,hF⟩:=aA hF
  refine zQ (v:=.bool R) hf hc aJi rfl (fun w hc=>(wB r.People r I I D (hc.pick k0) d).mono fun e w h=>⟨h.1,(h.2.unpick k0)⟩) fun a w hf hc=>sp 2 hf rfl fun a hf=>?_
  obtain ⟨j,U,hF⟩:=aA hF
  refine gX 6 (fun a=>Has 40 a [(1,pq O),(17,pq O),(18,.slice B r.People.length H),(19,.func (.func 73) #[] #[pq O]),(20,.bool R),(21,.bool (!R)),(22,.bool (!R)),(28,.bool j)]) hc ?_ ?_
  ·cases hb:(!R)
   ·rw [hb] at hf
    have hF:=jM hb U
    refine zP hf rfl (pFA eG rfl) fun a hf=>zL hf hc lN m0 rfl fun a w hf hc=>zP hf rfl (pMF (us:=[pq O]) rfl rfl) fun a hf=>?_
    obtain ⟨k,Z,hF⟩:=aA hF
    refine zQ (v:=.bool k) hf hc aKi rfl (fun w hc=>(qM r.Stations r D I D (hc.pick k0) Z).mono fun e w h=>⟨h.1,(h.2.unpick k0)⟩) fun a w hf hc=>sp 2 hf rfl fun a hf=>?_
    obtain rfl:=sj hF
    exact aP ⟨hf.kp rfl,hc⟩
   ·rw [hb] at hf
    have hF:=iL hb U
    obtain rfl:=sj hF
    refine stS hf rfl rfl rfl fun a hf=>stS hf rfl rfl rfl fun a hf=>stS hf rfl rfl rfl fun a hf=>stS hf rfl rfl rfl fun a hf=>stS hf rfl rfl rfl fun a hf=>sp 1 hf rfl fun a hf=>aP ⟨hf.kp rfl,hc⟩
  intro a w ⟨hf,hc⟩
  refine sp 1 hf rfl fun a hf=>zT h ?_
  refine zI hf rfl hF ?_ ?_ <;> clear hF <;> intro hF
  ·refine zS fun K h=>sp 1 hf rfl fun a hf=>zT h ?_
   refine wp_ret ?_
   refine bN ?_
   refine aN ?_
   obtain rfl:=sj hF
   replace hc:=hc.drop k0
   exact zO1 Tryz.results37 hf rfl ⟨rfl,hc⟩
  ·refine zS fun K h=>zP hf rfl (pFA eZ rfl) fun a hf=>zL hf hc mA m0 rfl fun a w hf hc=>?_
   obtain ⟨S,b,hF⟩:=aA hF
   refine zQ (v:=.bool S) hf hc aJi rfl (fun w hc=>tT r.People I hc b) fun a w hf hc=>sp 2 hf rfl fun a hf=>?_
   obtain ⟨g,V,hF⟩:=aA hF
   refine gX 5 (fun a=>Has 40 a [(1,pq O),(30,pq O),(31,.slice B r.People.length H),(32,.bool S),(33,.bool (!S)),(34,.bool (!S)),(39,.bool g)]) hc ?_ ?_
   ·cases hb:(!S)
    ·rw [hb] at hf
     have hF:=jM hb V
     refine zP hf rfl (pFA eG rfl) fun a hf=>zL hf hc lN m0 rfl fun a w hf hc=>?_
     obtain ⟨i,Y,hF⟩:=aA hF
     refine zQ (v:=.bool i) hf hc aKi rfl (fun w hc=>oL r.Stations D hc Y) fun a w hf hc=>sp 2 hf rfl fun a hf=>?_
     obtain rfl:=sj hF
     exact aP ⟨hf.kp rfl,hc⟩
    ·rw [hb] at hf
     have hF:=iL hb V
     obtain rfl:=sj hF
     refine stS hf rfl rfl rfl fun a hf=>stS hf rfl rfl rfl fun a hf=>stS hf rfl rfl rfl fun a hf=>stS hf rfl rfl rfl fun a hf=>sp 1 hf rfl fun a hf=>aP ⟨hf.kp rfl,hc⟩
   intro a w ⟨hf,hc⟩
   refine sp 1 hf rfl fun a hf=>zT h ?_
   refine zI hf rfl hF ?_ ?_ <;> clear hF <;> intro hF
   ·refine zS fun K h=>sp 1 hf rfl fun a hf=>zT h ?_
    refine wp_ret ?_
    refine bN ?_
    refine aN ?_
    obtain rfl:=sj hF
    replace hc:=hc.drop k0
    exact zO1 Tryz.results37 hf rfl ⟨rfl,hc⟩
   ·refine wp_skip ?_
    refine h2 _ _ ?_
    refine zS fun K h=>sp 1 hf rfl fun a hf=>zT h ?_
    refine wp_ret ?_
    obtain rfl:=sj hF
    replace hc:=hc.drop k0
    exact zO1 Tryz.results37 hf rfl ⟨rfl,hc⟩

def gO (N:Nat) (r:aB) (x:Int) (I:aC) (B:Int) (D:Nat→Int):Option (cK (Int × (Nat→Int)) (cK (Int × (Nat→Int)) ((Int) ⊕ ((Nat→Int) × Int)))) :=
 cond (decide (B < ((r.People.length:Nat):Int)))
 (Option.bind (dI N I.Order B) fun H=>
 Option.bind (inR x 12) fun un=>
 Option.bind (inR B 12) fun J=>
 some (.cont (W (B + 1),(wY D (x * 12 + B).toNat H))))
 (some (.brk (B,D)))
def gZ (N:Nat) (r:aB) (x:Int) (D:Nat→Int):Option (cK (Int × (Nat→Int)) ((Int) ⊕ ((Nat→Int) × Int))) :=
 cond (decide (x < ((r.Stations.length:Nat):Int)))
 (Option.bind (bH r.Stations x) fun I=>
 Option.bind (bE (fun B=>gO N r x I B.1 B.2) N (0,D)) fun H=>
 exK H (fun B=>some (.cont (W (x + 1),B.2))) some)
 (some (.brk (x,D)))
def lH (N:Nat) (r:aB):Option ((Int) ⊕ ((Nat→Int) × Int)) :=
 Option.bind (qR N r) fun B=>
 cond (B != 0)
 (some (.inl B))
 (Option.bind (bE (fun s9=>gZ N r s9.1 s9.2) N (0,(fun _=>0))) fun x9=>
 exK x9 (fun s9=>some (.inr (s9.2,0))) some)
theorem jL {N:Nat} {G:aO} {Lf:List Ent} {w:World} (r:aB) {I:Option Addr} {H:Nat} {B:Option Addr} {D:Nat} (d:RdT aG G 1 I H r.People) (R:RdT aL G 2 B D r.Stations) (hc:Ctx G (Lf) w) {p:(Int) ⊕ ((Nat→Int) × Int)} (hF:lH N r=some p):Calls Tryz.prog 15 #[.agg #[.slice I r.People.length H,.slice B r.Stations.length D]] w (fun e w=>aEi (fun rr=>e=.returned (.tuple #[.pointer none,i6 rr])∧Ctx G (Lf) w) (fun rr=>∃ (q:Nat),e=.returned (.tuple #[pq q,i6 rr.2])∧Ctx G (.box q (sQ [.slice I r.People.length H,.slice B r.Stations.length D] 144 aD rr.1 []) 94::Lf) w) p):=by
 unfold lH at hF
 refine bI Tryz.func15 rfl Tryz.ntmps15 rfl fun a hf=>zS fun K h=>zB hf hc rfl fun V a w hf hc=>sp 2 hf rfl fun a hf=>zT h ?_
 refine wp_seq_k fun K2 h2=>zS fun K h=>zN hf hc mD m0 rfl fun a w hf hc=>?_
 obtain ⟨am,y,hF⟩:=aA hF
 refine zQ (v:=i6 am) hf hc en_37 rfl (fun w hc=>aBh r d R hc y) fun a w hf hc=>sp 1 hf rfl fun a hf=>zT h ?_
 refine zS fun K h=>sp 2 hf rfl fun a hf=>zT h ?_
 refine zI hf rfl hF ?_ ?_ <;> clear hF <;> intro hF
 ·refine zS fun K h=>sp 3 hf rfl fun a hf=>zT h ?_
  refine wp_ret ?_
  refine aN ?_
  obtain rfl:=sj hF
  replace hc:=hc.drop k0
  exact zO2 Tryz.results15 hf rfl rfl ⟨rfl,hc⟩
 ·refine wp_skip ?_
  refine h2 _ _ ?_
  refine zS fun K h=>zN hf hc mD m0 rfl fun a w hf hc=>zP hf rfl (cF (cells:=(sQ [.slice I r.People.length H,.slice B r.Stations.length D] 144 aD (fun _=>0) [])) bt_94 rfl rfl) fun a hf=>stBx (cs:=(sQ [.slice I r.People.length H,.slice B r.Stations.length D] 144 aD (fun _=>0) [])) hf hc rfl rfl rfl rfl fun J a w hf hc=>sp 1 hf rfl fun a hf=>zT h ?_
  refine wp_seq_k fun K7 h7=>zS fun K h=>zP hf rfl (pFA eG rfl) fun a hf=>zL hf hc lN m1 rfl fun a w hf hc=>zP hf rfl (bC Tryz.underlying24 rfl) fun a hf=>sp 1 hf rfl fun a hf=>zT h ?_
  refine wp_block ?_
  obtain ⟨x9,ak,hF⟩:=aA hF
  let S9:(Int × (Nat→Int))→Act→World→Prop:=(fun (zz:Int × (Nat→Int)) a w=>Has 45 a [(1,pq V),(5,pq J),(18,.slice B r.Stations.length D),(19,i6 ((r.Stations.length:Nat):Int)),(20,i6 zz.1)]∧Ctx G (.box J (sQ [.slice I r.People.length H,.slice B r.Stations.length D] 144 aD zz.2 []) 94::.box V [.slice I r.People.length H,.slice B r.Stations.length D] 26::Lf) w)
  have av:∀ (zz:Int × (Nat→Int)) a w,x9=.go zz→S9 zz a w→K7 a w:=by
   rintro ⟨x,s⟩ a w rfl ⟨hf,hc⟩
   replace hF:=bP hF
   refine h7 _ _ ?_
   refine zS fun K h=>sp 3 hf rfl fun a hf=>zT h ?_
   refine wp_ret ?_
   obtain rfl:=sj hF
   replace hc:=hc.drop k1
   exact zO2 Tryz.results15 hf rfl rfl ⟨J,rfl,hc⟩
  have a1:∀ r,x9=.out r→r=p:=by
   rintro r rfl
   exact sj hF
  refine cR N (cL (S:=S9) (x:=x9) ?_ N (0,(fun _=>0)) _ _ ⟨hf.kp rfl,hc⟩ ak)
  clear hF hf hc
  rintro ⟨x,s⟩ au a w KB9 ⟨hf,hc⟩ hF i aq
  unfold gZ at hF
  refine zS fun K h=>sp 1 hf rfl fun a hf=>zT h ?_
  refine wp_seq_k fun K12 an=>zI hf rfl hF ?_ ?_ <;> clear hF <;> intro hF
  ·refine wp_skip ?_
   refine an _ _ ?_
   refine wp_seq_k fun K13 ag=>wp_block ?_
   refine zS fun K h=>sp 1 hf rfl fun a hf=>?_
   obtain ⟨U,t,hF⟩:=aA hF
   obtain ⟨a0,o,hd,qa,qp,qr⟩:=R.atm t
   refine zP hf rfl (pIA Tryz.underlying24 pF rfl rfl qa) fun a hf=>zE hf hc rfl (jN (vs:=[i6 U.Places,.slice hd.1 U.Order.length hd.2]) aAn rfl rfl (eX qp (n:=2) (o':=0) rfl)) fun a w hf hc=>zA hf hc aHd rfl fun Z a w hf hc=>sp 1 hf rfl fun a hf=>zW hf hc pF u0 rfl fun w hc=>zT h ?_
   refine zS fun K h=>zP hf rfl (pFA eZ rfl) fun a hf=>zL hf hc mA m2 rfl fun a w hf hc=>zP hf rfl (bC Tryz.underlying23 rfl) fun a hf=>sp 1 hf rfl fun a hf=>zT h ?_
   refine wC fun K16 af=>wp_block ?_
   obtain ⟨m,ab,hF⟩:=aA hF
   let S17:(Int × (Nat→Int))→Act→World→Prop:=(fun (zz:Int × (Nat→Int)) a w=>Has 45 a [(1,pq V),(5,pq J),(6,i6 x),(7,pq Z),(18,.slice B r.Stations.length D),(19,i6 ((r.Stations.length:Nat):Int)),(20,i6 x),(27,i6 ((r.People.length:Nat):Int)),(28,i6 zz.1)]∧Ctx G (.box Z [i6 U.Places,.slice hd.1 U.Order.length hd.2] 36::.box J (sQ [.slice I r.People.length H,.slice B r.Stations.length D] 144 aD zz.2 []) 94::.box V [.slice I r.People.length H,.slice B r.Stations.length D] 26::Lf) w)
   have ac:∀ (zz:Int × (Nat→Int)) a w,m=.go zz→S17 zz a w→K16 a w:=by
    rintro ⟨O,b⟩ a w rfl ⟨hf,hc⟩
    replace hF:=bP hF
    refine af _ _ ?_
    refine ag _ _ ?_
    refine cJ ?_
    refine sp 2 hf rfl fun a hf=>aP ?_
    replace hc:=hc.drop k0
    exact aq (W (x + 1),b) _ _ (sj hF).symm ⟨hf.kp rfl,hc⟩
   have ay:∀ r,m=.out r→r=au:=by
    rintro r rfl
    exact sj hF
   refine cR N (cL (S:=S17) (x:=m) ?_ N (0,s) _ _ ⟨hf.kp rfl,hc⟩ ab)
   clear hF hf hc
   rintro ⟨O,b⟩ az a w KB17 ⟨hf,hc⟩ hF g aa
   unfold gO at hF
   refine zS fun K h=>sp 1 hf rfl fun a hf=>zT h ?_
   refine wp_seq_k fun K19 ap=>zI hf rfl hF ?_ ?_ <;> clear hF <;> intro hF
   ·refine wp_skip ?_
    refine ap _ _ ?_
    refine wp_seq_k fun K20 aj=>wp_block ?_
    refine zS fun K h=>sp 2 hf rfl fun a hf=>zT h ?_
    obtain ⟨Y,ad,hF⟩:=aA hF
    obtain ⟨un,j,hF⟩:=aA hF
    obtain ⟨ax,X,hF⟩:=aA hF
    refine gK (fun θ=>[⟨none,none,1,pq V⟩,⟨none,none,5,pq J⟩,⟨none,none,6,i6 x⟩,⟨none,none,7,pq Z⟩,⟨none,none,8,i6 O⟩,⟨none,none,18,.slice B r.Stations.length D⟩,⟨none,none,19,i6 ((r.Stations.length:Nat):Int)⟩,⟨none,none,20,i6 x⟩,⟨none,none,27,i6 ((r.People.length:Nat):Int)⟩,⟨none,none,28,i6 O⟩,⟨some 0,none,31,pq J⟩,⟨some 1,none,32,i6 x⟩,⟨some 2,none,33,i6 O⟩,⟨some 3,none,34,.pointer (some ⟨Z,1,none⟩)⟩,⟨some 4,none,35,.slice hd.1 U.Order.length hd.2⟩,⟨some 5,none,36,i6 O⟩,⟨some 6,none,37,i6 Y⟩,⟨some 7,none,38,pq J⟩,⟨some 8,none,39,.pointer (some ⟨J,2,none⟩)⟩,⟨some 9,none,40,.pointer (some ⟨J,2 + x.toNat * 12,none⟩)⟩,⟨some 10,none,41,.pointer (some ⟨J,2 + (x * 12 + O).toNat * 1,none⟩)⟩]) (fun E θ=>.box Z [i6 U.Places,.slice hd.1 U.Order.length hd.2] 36::(bif E 11 then .box J (sQ [.slice I r.People.length H,.slice B r.Stations.length D] 144 aD (wY b (x * 12 + O).toNat Y) []) 94 else .box J (sQ [.slice I r.People.length H,.slice B r.Stations.length D] 144 aD b []) 94)::.box V [.slice I r.People.length H,.slice B r.Stations.length D] 26::Lf) [] (fun a w=>Has 45 a [(1,pq V),(5,pq J),(6,i6 x),(7,pq Z),(18,.slice B r.Stations.length D),(19,i6 ((r.Stations.length:Nat):Int)),(20,i6 x),(27,i6 ((r.People.length:Nat):Int)),(28,i6 O)]∧Ctx G (.box Z [i6 U.Places,.slice hd.1 U.Order.length hd.2] 36::.box J (sQ [.slice I r.People.length H,.slice B r.Stations.length D] 144 aD (wY b (x * 12 + O).toNat Y) []) 94::.box V [.slice I r.People.length H,.slice B r.Stations.length D] 26::Lf) w) aU (by kernel_rfl) (by kernel_rfl) (fB.of hf ⟨rfl,rfl,rfl,rfl,rfl,rfl,rfl,rfl,rfl,rfl,trivial,trivial,trivial,trivial,trivial,trivial,trivial,trivial,trivial,trivial,trivial,trivial⟩) hc ⟨?_,?_,?_,?_,?_,?_,?_,?_,?_,?_,?_,?_,trivial⟩ ?_ ?_
    ·intro E θ a w hD hi hp he hc
     have hf:=he.h0.mT he 1 rfl
     refine sp 1 hf rfl fun a hf=>zD θ he hi hf 10 rfl rfl rfl hc
    ·intro E θ a w hD hi hp he hc
     have hf:=he.h0.mT he 2 rfl
     refine sp 1 hf rfl fun a hf=>zD θ he hi hf 11 rfl rfl rfl hc
    ·intro E θ a w hD hi hp he hc
     have hf:=he.h0.mT he 4 rfl
     refine sp 1 hf rfl fun a hf=>zD θ he hi hf 12 rfl rfl rfl hc
    ·intro E θ a w hD hi hp he hc
     have hf:=he.h0.mT he 3 rfl
     refine zP hf rfl (pFA tF rfl) fun a hf=>zD θ he hi hf 13 rfl rfl rfl hc
    ·intro E θ a w hD hi hp he hc
     have e3:=hp.o 3 rfl
     have hf:=he.h0.mP he 13 rfl e3
     refine zL hf hc kJ m0 rfl fun a w hf hc=>zD θ he hi hf 14 rfl rfl rfl hc
    ·intro E θ a w hD hi hp he hc
     have hf:=he.h0.mT he 4 rfl
     refine sp 1 hf rfl fun a hf=>zD θ he hi hf 15 rfl rfl rfl hc
    ·intro E θ a w hD hi hp he hc
     have e4:=hp.o 4 rfl
     have e5:=hp.o 5 rfl
     have hf:=(he.h0.mP he 14 rfl e4).mP he 15 rfl e5
     refine zQ (v:=i6 Y) hf hc aIo rfl (fun w hc=>iS U.Order O qr hc ad) fun a w hf hc=>zD θ he hi hf 16 rfl rfl rfl hc
    ·intro E θ a w hD hi hp he hc
     have e0:=hp.o 0 rfl
     have hf:=he.h0.mP he 10 rfl e0
     refine sp 1 hf rfl fun a hf=>zD θ he hi hf 17 rfl rfl rfl hc
    ·intro E θ a w hD hi hp he hc
     have e7:=hp.o 7 rfl
     have hf:=he.h0.mP he 17 rfl e7
     refine zP hf rfl (pFA rB rfl) fun a hf=>zD θ he hi hf 18 rfl rfl rfl hc
    ·intro E θ a w hD hi hp he hc
     have e1:=hp.o 1 rfl
     have e8:=hp.o 8 rfl
     have hf:=(he.h0.mP he 11 rfl e1).mP he 18 rfl e8
     refine zP hf rfl (pS Tryz.underlying92 yO rfl rfl (aZ j).1 (aZ j).2) fun a hf=>zD θ he hi hf 19 rfl rfl rfl hc
    ·intro E θ a w hD hi hp he hc
     have e2:=hp.o 2 rfl
     have e9:=hp.o 9 rfl
     have hf:=(he.h0.mP he 12 rfl e2).mP he 19 rfl e9
     refine zP hf rfl (Pu.cast (pS Tryz.underlying91 eL rfl rfl (aZ X).1 (aZ X).2) (congrArg (fun k=>Value.pointer (some ⟨J,k,none⟩)) (oO (M:=12) (2) j X rfl))) fun a hf=>zD θ he hi hf 20 rfl rfl rfl hc
    ·intro E θ a w hD hi hp he hc
     have e6:=hp.o 6 rfl
     have ar:=hp.o 10 rfl
     try dsimp only at hc
     rw [hi] at hc
     have hf:=(he.h0.mP he 16 rfl e6).mP he 20 rfl ar
     refine stAr (vs:=[i6 Y]) (o':=0) (z:=Y) hf hc rfl rfl rfl rfl eL rfl (fun x=>(bF x).1) rfl (aCz j X rfl) rfl rfl u1 fun w hc=>zG θ he hi hf rfl ?_
     try dsimp only
     rw [aR E 11]
     exact hc
    ·intro E θ a w u he hc
     have hf:=he.h0
     have ai:=u 11 rfl
     replace hf:=hf.more he 9 rfl (onT)
     replace hf:=hf.more he 8 rfl (onT)
     replace hf:=hf.more he 7 rfl (onT)
     replace hf:=hf.more he 6 rfl (onT)
     replace hf:=hf.more he 5 rfl (onT)
     replace hf:=hf.more he 3 rfl (onT)
     replace hf:=hf.more he 2 rfl (onT)
     replace hf:=hf.more he 1 rfl (onT)
     replace hf:=hf.more he 0 rfl (onT)
     try dsimp only at hc
     rw [ai] at hc
     exact ⟨hf.kp rfl,hc⟩
    rintro a w ⟨hf,hc⟩
    refine aj _ _ ?_
    refine cJ ?_
    refine sp 2 hf rfl fun a hf=>aP ?_
    exact aa (W (O + 1),(wY b (x * 12 + O).toNat Y)) _ _ (sj hF).symm ⟨hf.kp rfl,hc⟩
   ·refine wp_exit ?_
    refine aW ?_
    refine aW ?_
    have he:=sj hF
    rw [← he] at g
    refine eV ?_
    exact ac _ _ _ g ⟨hf.kp rfl,hc⟩
  ·refine wp_exit ?_
   refine aW ?_
   refine aW ?_
   have he:=sj hF
   rw [← he] at i
   refine eV ?_
   exact av _ _ _ i ⟨hf.kp rfl,hc⟩

def rK (N:Nat) (x:Int) (y:Int):Option (Int × Int) :=
 mulU x y
/-! ### Walks of the library -/
end Go.Nilo
namespace Go.Proofs
open Go.Shelf
def Tryz.lays189_ren:Go.Shelf.Ren:=⟨fun | 189=>96 | 125=>110 | 257=>109 | 128=>124 | 129=>125 | 294=>115 | 295=>116 | 296=>117 | 297=>118 | 298=>119 | 299=>120 | 216=>121 | 300=>122 | 301=>123 | 328=>126 | 329=>127 | 330=>128 | 331=>129 | 332=>130 | 215=>131 | 343=>132 | n=>n,fun | 28=>30 | 3=>3 | 46=>131 | 0=>0 | 51=>142 | 53=>145 | 4=>4 | 183=>157 | 182=>156 | 131=>161 | 5=>5 | 9=>9 | 218=>165 | 222=>169 | 228=>171 | 229=>172 | n=>n,fun | n=>n⟩
theorem Tryz.lays189:Go.Proofs.Lays.n189 Tryz.prog Tryz.lays189_ren:={
 mixed:=by kernel_rfl
 f125:=Tryz.func110.trans (congrArg some (by kernel_rfl))
 f128:=Tryz.func124.trans (congrArg some (by kernel_rfl))
 f129:=Tryz.func125.trans (congrArg some (by kernel_rfl))
 f189:=Tryz.func96.trans (congrArg some (by kernel_rfl))
 f215:=Tryz.func131.trans (congrArg some (by kernel_rfl))
 f216:=Tryz.func121.trans (congrArg some (by kernel_rfl))
 f257:=Tryz.func109.trans (congrArg some (by kernel_rfl))
 f294:=Tryz.func115.trans (congrArg some (by kernel_rfl))
 f295:=Tryz.func116.trans (congrArg some (by kernel_rfl))
 f296:=Tryz.func117.trans (congrArg some (by kernel_rfl))
 f297:=Tryz.func118.trans (congrArg some (by kernel_rfl))
 f298:=Tryz.func119.trans (congrArg some (by kernel_rfl))
 f299:=Tryz.func120.trans (congrArg some (by kernel_rfl))
 f300:=Tryz.func122.trans (congrArg some (by kernel_rfl))
 f301:=Tryz.func123.trans (congrArg some (by kernel_rfl))
 f328:=Tryz.func126.trans (congrArg some (by kernel_rfl))
 f329:=Tryz.func127.trans (congrArg some (by kernel_rfl))
 f330:=Tryz.func128.trans (congrArg some (by kernel_rfl))
 f331:=Tryz.func129.trans (congrArg some (by kernel_rfl))
 f332:=Tryz.func130.trans (congrArg some (by kernel_rfl))
 f343:=Tryz.func132.trans (congrArg some (by kernel_rfl))
 t0:=Tryz.underlying0
 a0:=Tryz.isAgg0
 z0:=Tryz.sizeOf0
 v0:=Tryz.zeroValue0
 t3:=Tryz.underlying3
 a3:=Tryz.isAgg3
 z3:=Tryz.sizeOf3
 v3:=Tryz.zeroValue3
 t4:=Tryz.underlying4
 a4:=Tryz.isAgg4
 z4:=Tryz.sizeOf4
 v4:=Tryz.zeroValue4
 t5:=Tryz.underlying5
 a5:=Tryz.isAgg5
 z5:=Tryz.sizeOf5
 v5:=Tryz.zeroValue5
 t9:=Tryz.underlying9
 a9:=Tryz.isAgg9
 z9:=Tryz.sizeOf9
 v9:=Tryz.zeroValue9
 t28:=Tryz.underlying30
 a28:=Tryz.isAgg30
 z28:=Tryz.sizeOf30
 v28:=Tryz.zeroValue30
 t46:=Tryz.underlying131
 a46:=Tryz.isAgg131
 z46:=Tryz.sizeOf131
 v46:=Tryz.zeroValue131
 t51:=Tryz.underlying142
 a51:=Tryz.isAgg142
 z51:=Tryz.sizeOf142
 v51:=Tryz.zeroValue142
 t53:=Tryz.underlying145
 a53:=Tryz.isAgg145
 z53:=Tryz.sizeOf145
 v53:=Tryz.zeroValue145
 t131:=Tryz.underlying161
 a131:=Tryz.isAgg161
 z131:=Tryz.sizeOf161
 v131:=Tryz.zeroValue161
 t182:=Tryz.underlying156
 a182:=Tryz.isAgg156
 z182:=Tryz.sizeOf156
 v182:=Tryz.zeroValue156
 t183:=Tryz.underlying157
 a183:=Tryz.isAgg157
 z183:=Tryz.sizeOf157
 v183:=Tryz.zeroValue157
 t218:=Tryz.underlying165
 a218:=Tryz.isAgg165
 z218:=Tryz.sizeOf165
 v218:=Tryz.zeroValue165
 t222:=Tryz.underlying169
 a222:=Tryz.isAgg169
 z222:=Tryz.sizeOf169
 v222:=Tryz.zeroValue169
 t228:=Tryz.underlying171
 a228:=Tryz.isAgg171
 z228:=Tryz.sizeOf171
 v228:=Tryz.zeroValue171
 t229:=Tryz.underlying172
 a229:=Tryz.isAgg172
 z229:=Tryz.sizeOf172
 v229:=Tryz.zeroValue172 }
def Tryz.lays20_ren:Go.Shelf.Ren:=⟨fun | 20=>97 | n=>n,fun | 22=>30 | 3=>3 | 4=>4 | 0=>0 | n=>n,fun | n=>n⟩
theorem Tryz.lays20:Go.Proofs.Lays2.n20 Tryz.prog Tryz.lays20_ren:={
 mixed:=by kernel_rfl
 f20:=Tryz.func97.trans (congrArg some (by kernel_rfl))
 t0:=Tryz.underlying0
 a0:=Tryz.isAgg0
 z0:=Tryz.sizeOf0
 v0:=Tryz.zeroValue0
 t3:=Tryz.underlying3
 a3:=Tryz.isAgg3
 z3:=Tryz.sizeOf3
 v3:=Tryz.zeroValue3
 t4:=Tryz.underlying4
 a4:=Tryz.isAgg4
 z4:=Tryz.sizeOf4
 v4:=Tryz.zeroValue4
 t22:=Tryz.underlying30
 a22:=Tryz.isAgg30
 z22:=Tryz.sizeOf30
 v22:=Tryz.zeroValue30
 i3:=by kernel_rfl }
def Tryz.lays212_ren:Go.Shelf.Ren:=⟨fun | 212=>80 | 263=>104 | 264=>105 | n=>n,fun | 46=>131 | 51=>142 | 146=>143 | 53=>145 | 148=>146 | n=>n,fun | n=>n⟩
theorem Tryz.lays212:Go.Proofs.Lays.n212 Tryz.prog Tryz.lays212_ren:={
 mixed:=by kernel_rfl
 f212:=Tryz.func80.trans (congrArg some (by kernel_rfl))
 f263:=Tryz.func104.trans (congrArg some (by kernel_rfl))
 f264:=Tryz.func105.trans (congrArg some (by kernel_rfl))
 t46:=Tryz.underlying131
 a46:=Tryz.isAgg131
 z46:=Tryz.sizeOf131
 v46:=Tryz.zeroValue131
 t51:=Tryz.underlying142
 a51:=Tryz.isAgg142
 z51:=Tryz.sizeOf142
 v51:=Tryz.zeroValue142
 t53:=Tryz.underlying145
 a53:=Tryz.isAgg145
 z53:=Tryz.sizeOf145
 v53:=Tryz.zeroValue145
 t146:=Tryz.underlying143
 a146:=Tryz.isAgg143
 z146:=Tryz.sizeOf143
 v146:=Tryz.zeroValue143
 t148:=Tryz.underlying146
 a148:=Tryz.isAgg146
 z148:=Tryz.sizeOf146
 v148:=Tryz.zeroValue146 }
end Go.Proofs
namespace Go.Nilo
open Go.Proofs

theorem xX {N:Nat} {G:aO} {Lf:List Ent} {w:World} (x:Int) (y:Int)   (hc:Ctx G (Lf) w) {B:Int × Int} (hF:rK N x y=some B):Calls Tryz.prog 80 #[.int .u64 x,.int .u64 y] w (fun e w=>e=.returned (.tuple #[.int .u64 B.1,.int .u64 B.2])∧Ctx G (Lf) w):=by
 unfold rK at hF
 exact aI7 (fun x y h1 h2 w=>Go.Proofs.Any.bits_Mul Go.Proofs.Tryz.lays212 x y h1 h2 w) hc hF

def lC (N:Nat) (B:List Int) (n:Int):Option (cK ((List Int) × Int) ((List Int))) :=
 cond (decide (n < ((B.length:Nat):Int)))
 (Option.bind (xE B n ((B.length:Nat):Int)) fun sub=>
 Option.bind (xE B 0 n) fun D=>
 Option.bind (cpOk D.length sub.length) fun H=>
 some (.cont ((cpL B n.toNat sub.length D),W (n + ((Nat.min D.length sub.length:Nat):Int)))))
 (some (.brk (B,n)))
def aV (N:Nat) (x:List Int) (B:Int):Option ((List Int)) :=
 cond (decide (B < 0))
 (none)
 (Option.bind (rK N (IntKind.u64.wrap (((x.length:Nat):Int))) (IntKind.u64.wrap (B))) fun r=>
 cond ((decide (0 < r.1)) || (decide (9223372036854775807 < r.2)))
 (none)
 (Option.bind (inM (W (r.2))) fun un=>
 Option.bind (cpOk x.length ((List.replicate (W (r.2)).toNat (0:Int)).length)) fun I=>
 Option.bind (bE (fun D=>lC N D.1 D.2) N ((cpL (List.replicate (W (r.2)).toNat (0:Int)) 0 ((List.replicate (W (r.2)).toNat (0:Int)).length) x),((Nat.min x.length ((List.replicate (W (r.2)).toNat (0:Int)).length):Nat):Int))) fun H=>
 exK H (fun D=>some D.1) some))
theorem qX {N:Nat} {G:aO} {Lf:List Ent} {w:World} (x:List Int) (I:Int) {X:Option Addr} {b:Nat} (t:Rd G 1 X b (x.map aD)) (hc:Ctx G (Lf) w) {O:(List Int)} (hF:aV N x I=some O):Calls Tryz.prog 38 #[.slice X x.length b,i6 I] w (fun e w=>∃ (i:Option Addr) (g:Nat),e=.returned (.slice i O.length g)∧Ctx G (.row i g (O.map aD) 3 1::Lf) w):=by
 unfold aV at hF
 refine bI Tryz.func38 rfl Tryz.ntmps38 rfl fun a hf=>zS fun K h=>sp 1 hf rfl fun a hf=>zT h ?_
 refine wp_seq_k fun K2 h2=>zS fun K h=>sp 2 hf rfl fun a hf=>zT h ?_
 refine zI hf rfl hF ?_ ?_ <;> clear hF <;> intro hF
 ·exact aAb hF
 ·refine wp_skip ?_
  refine h2 _ _ ?_
  refine zS fun K h=>sp 1 hf rfl fun a hf=>zP hf rfl (bC Tryz.underlying30 rfl) fun a hf=>zP hf rfl (pCv Tryz.underlying3 Tryz.underlying131 rfl) fun a hf=>sp 1 hf rfl fun a hf=>zP hf rfl (pCv Tryz.underlying3 Tryz.underlying131 rfl) fun a hf=>?_
  obtain ⟨r,hr,hF⟩:=aA hF
  refine zQ (v:=.tuple #[.int .u64 r.1,.int .u64 r.2]) hf hc en_80 rfl (fun w hc=>xX (IntKind.u64.wrap (((x.length:Nat):Int))) (IntKind.u64.wrap (I)) hc hr) fun a w hf hc=>sp 5 hf rfl fun a hf=>zT h ?_
  refine wp_seq_k fun K5 h5=>zS fun K h=>sp 3 hf rfl fun a hf=>gX 3 (fun a=>Has 48 a [(0,.slice X x.length b),(5,.int .u64 r.1),(6,.int .u64 r.2),(21,.int .u64 r.1),(22,.bool (decide (0 < r.1))),(23,.bool (decide (0 < r.1))),(26,.bool ((decide (0 < r.1)) || (decide (9223372036854775807 < r.2))))]) hc ?_ ?_
  ·cases hb:(decide (0 < r.1))
   ·rw [hb] at hf
    refine sp 3 hf rfl fun a hf=>aP ⟨hf.kp rfl,hc⟩
   ·rw [hb] at hf
    refine stS hf rfl rfl rfl fun a hf=>stS hf rfl rfl rfl fun a hf=>sp 1 hf rfl fun a hf=>aP ⟨hf.kp rfl,hc⟩
  intro a w ⟨hf,hc⟩
  refine zT h ?_
  refine zI hf rfl hF ?_ ?_ <;> clear hF <;> intro hF
  ·exact aAb hF
  ·refine wp_skip ?_
   refine h5 _ _ ?_
   refine zS fun K h=>sp 1 hf rfl fun a hf=>zP hf rfl (pCv Tryz.underlying131 Tryz.underlying3 rfl) fun a hf=>?_
   obtain ⟨un,z,hF⟩:=aA hF
   refine stMk (m:=(List.replicate (W (r.2)).toNat (0:Int)).length) (rows:=(List.replicate (W (r.2)).toNat (0:Int)).map aD) hf hc rfl rfl fN rfl rfl (aDx z) rfl rfl (by simp [List.map_replicate,Value.cells]) (by simp) fun H a w hf hc=>sp 1 hf rfl fun a hf=>zT h ?_
   refine zS fun K h=>sp 2 hf rfl fun a hf=>?_
   obtain ⟨ab,d,hF⟩:=aA hF
   refine stCp (enc:=aD) (R:=(List.replicate (W (r.2)).toNat (0:Int))) (S:=x) (lo:=0) hf hc rfl rfl Tryz.underlying30 eL rfl (by simp) rfl rfl bF (aCl hc t) (yH d) (by simp) u0 fun a w hf hc=>sp 1 hf rfl fun a hf=>zT h ?_
   refine wp_seq_k fun K9 h9=>wp_block ?_
   obtain ⟨Y,p,hF⟩:=aA hF
   let S10:((List Int) × Int)→Act→World→Prop:=(fun (zz:(List Int) × Int) a w=>Has 48 a [(7,.slice (some ⟨H,0,none⟩) zz.1.length ((W (r.2)).toNat)),(8,i6 zz.2)]∧Ctx G (.row (some ⟨H,0,none⟩) ((W (r.2)).toNat) (zz.1.map aD) 3 1::Lf) w)
   have j:∀ (zz:(List Int) × Int) a w,Y=.go zz→S10 zz a w→K9 a w:=by
    rintro ⟨B,n⟩ a w rfl ⟨hf,hc⟩
    replace hF:=bP hF
    refine h9 _ _ ?_
    refine zS fun K h=>sp 2 hf rfl fun a hf=>zT h ?_
    refine wp_ret ?_
    obtain rfl:=sj hF
    exact zO1 Tryz.results38 hf rfl ⟨(some ⟨H,0,none⟩),(W (r.2)).toNat,rfl,hc⟩
   have aa:∀ r,Y=.out r→r=O:=by
    rintro r rfl
    exact sj hF
   replace hf:=hf.castAt 7 (v':=.slice (some ⟨H,0,none⟩) ((cpL (List.replicate (W (r.2)).toNat (0:Int)) 0 ((List.replicate (W (r.2)).toNat (0:Int)).length) x).length) ((W (r.2)).toNat)) rfl (congrArg (fun k=>Value.slice (some ⟨H,0,none⟩) k ((W (r.2)).toNat)) (by simp))
   refine cR N (cL (S:=S10) (x:=Y) ?_ N ((cpL (List.replicate (W (r.2)).toNat (0:Int)) 0 ((List.replicate (W (r.2)).toNat (0:Int)).length) x),((Nat.min x.length ((List.replicate (W (r.2)).toNat (0:Int)).length):Nat):Int)) _ _ ⟨hf.kp rfl,hc⟩ p)
   clear hF hf hc
   rintro ⟨B,n⟩ ac a w KB10 ⟨hf,hc⟩ hF J s
   unfold lC at hF
   refine wp_seq_k fun K12 y=>zS fun K h=>sp 2 hf rfl fun a hf=>zP hf rfl (bC Tryz.underlying30 rfl) fun a hf=>sp 1 hf rfl fun a hf=>zT h ?_
   refine zI hf rfl hF ?_ ?_ <;> clear hF <;> intro hF
   ·refine wp_skip ?_
    refine y _ _ ?_
    refine wC fun K14 u=>wp_block ?_
    have qc:=wO hc m0
    obtain ⟨sub,Z,hF⟩:=aA hF
    have q:=wO hc m0
    obtain ⟨D,M,hF⟩:=aA hF
    obtain ⟨ad,U,hF⟩:=aA hF
    have qs:=uZ Z
    try dsimp only at qs
    refine gK (fun θ=>[⟨none,none,7,.slice (some ⟨H,0,none⟩) B.length ((W (r.2)).toNat)⟩,⟨none,some 9,8,i6 n⟩,⟨some 0,none,38,i6 n⟩,⟨some 1,none,39,.slice (some ⟨H,0,none⟩) B.length ((W (r.2)).toNat)⟩,⟨some 2,none,40,i6 n⟩,⟨some 3,none,41,.slice (yU (some ⟨H,0,none⟩) ((W (r.2)).toNat) n.toNat 1) sub.length (((W (r.2)).toNat) - n.toNat)⟩,⟨some 4,none,42,.slice (some ⟨H,0,none⟩) B.length ((W (r.2)).toNat)⟩,⟨some 5,none,43,i6 n⟩,⟨some 6,none,44,.slice (yU (some ⟨H,0,none⟩) ((W (r.2)).toNat) (0:Int).toNat 1) D.length (((W (r.2)).toNat) - (0:Int).toNat)⟩,⟨some 7,none,45,i6 ((Nat.min D.length sub.length:Nat):Int)⟩,⟨some 8,none,46,i6 (W (n + ((Nat.min D.length sub.length:Nat):Int)))⟩,⟨some 9,none,8,i6 (W (n + ((Nat.min D.length sub.length:Nat):Int)))⟩]) (fun E θ=>(bif E 7 then .row (some ⟨H,0,none⟩) ((W (r.2)).toNat) ((cpL B n.toNat sub.length D).map aD) 3 1 else .row (some ⟨H,0,none⟩) ((W (r.2)).toNat) (B.map aD) 3 1)::Lf) [(9,0),(9,2),(7,3),(9,5),(7,6)] (fun a w=>Has 48 a [(7,.slice (some ⟨H,0,none⟩) B.length ((W (r.2)).toNat)),(8,i6 (W (n + ((Nat.min D.length sub.length:Nat):Int))))]∧Ctx G (.row (some ⟨H,0,none⟩) ((W (r.2)).toNat) ((cpL B n.toNat sub.length D).map aD) 3 1::Lf) w) aU (by kernel_rfl) (by kernel_rfl) (fB.of hf ⟨rfl,rfl,trivial,trivial,trivial,trivial,trivial,trivial,trivial,trivial,trivial,trivial,trivial⟩) hc ⟨?_,?_,?_,?_,?_,?_,?_,?_,?_,?_,trivial⟩ ?_ ?_
    ·intro E θ a w hD hi hp he hc
     have e9:=hD.f 0 rfl hi
     have hf:=he.h0.mN he 1 rfl e9
     refine sp 1 hf rfl fun a hf=>zD θ he hi hf 2 rfl rfl rfl hc
    ·intro E θ a w hD hi hp he hc
     have hf:=he.h0.mT he 0 rfl
     refine sp 1 hf rfl fun a hf=>zD θ he hi hf 3 rfl rfl rfl hc
    ·intro E θ a w hD hi hp he hc
     have e9:=hD.f 1 rfl hi
     have hf:=he.h0.mN he 1 rfl e9
     refine sp 1 hf rfl fun a hf=>zD θ he hi hf 4 rfl rfl rfl hc
    ·intro E θ a w hD hi hp he hc
     have e1:=hp.o 1 rfl
     have e2:=hp.o 2 rfl
     have e7:=hD.f 2 rfl hi
     try dsimp only at hc
     rw [e7] at hc
     have hf:=(he.h0.mP he 3 rfl e1).mP he 4 rfl e2
     refine zP hf rfl (pSl Tryz.underlying30 eL rfl rfl qc rfl rfl Z) fun a hf=>zD θ he hi hf 5 rfl rfl rfl ?_
     try dsimp only
     rw [bB 3 e7 rfl]
     exact hc
    ·intro E θ a w hD hi hp he hc
     have hf:=he.h0.mT he 0 rfl
     refine sp 1 hf rfl fun a hf=>zD θ he hi hf 6 rfl rfl rfl hc
    ·intro E θ a w hD hi hp he hc
     have e9:=hD.f 3 rfl hi
     have hf:=he.h0.mN he 1 rfl e9
     refine sp 1 hf rfl fun a hf=>zD θ he hi hf 7 rfl rfl rfl hc
    ·intro E θ a w hD hi hp he hc
     have e4:=hp.o 4 rfl
     have e5:=hp.o 5 rfl
     have e7:=hD.f 4 rfl hi
     try dsimp only at hc
     rw [e7] at hc
     have hf:=(he.h0.mP he 6 rfl e4).mP he 7 rfl e5
     refine zP hf rfl (pSl Tryz.underlying30 eL rfl rfl q rfl rfl M) fun a hf=>zD θ he hi hf 8 rfl rfl rfl ?_
     try dsimp only
     rw [bB 6 e7 rfl]
     exact hc
    ·intro E θ a w hD hi hp he hc
     have e3:=hp.o 3 rfl
     have e6:=hp.o 6 rfl
     try dsimp only at hc
     rw [hi] at hc
     have hf:=(he.h0.mP he 5 rfl e3).mP he 8 rfl e6
     refine stCp (enc:=aD) (R:=B) (S:=D) (lo:=n.toNat) hf hc rfl rfl Tryz.underlying30 eL rfl (aF5 (yH U).2 (by have:B.length≤(W (r.2)).toNat:=wO hc m0; omega)) rfl rfl bF (aJa (fun x=>(bF x).1) (fG hc m0) M (wO hc m0)) (yH U) (by omega) u0 fun a w hf hc=>zD θ he hi hf 9 rfl rfl rfl ?_
     try dsimp only
     rw [aR E 7]
     exact hc
    ·intro E θ a w hD hi hp he hc
     have e0:=hp.o 0 rfl
     have e7:=hp.o 7 rfl
     have hf:=(he.h0.mP he 2 rfl e0).mP he 9 rfl e7
     refine sp 1 hf rfl fun a hf=>zD θ he hi hf 10 rfl rfl rfl hc
    ·intro E θ a w hD hi hp he hc
     have e8:=hp.o 8 rfl
     have hf:=he.h0.mP he 10 rfl e8
     refine sp 1 hf rfl fun a hf=>zD θ he hi hf 11 rfl rfl rfl hc
    ·intro E θ a w V he hc
     have hf:=he.h0
     have e7:=V 7 rfl
     have e9:=V 9 rfl
     replace hf:=hf.more he 11 rfl (onP e9)
     replace hf:=hf.more he 0 rfl (onT)
     try dsimp only at hc
     rw [e7] at hc
     exact ⟨hf.kp rfl,hc⟩
    rintro a w ⟨hf,hc⟩
    refine u _ _ ?_
    replace hf:=hf.castAt 7 (v':=.slice (some ⟨H,0,none⟩) ((cpL B n.toNat sub.length D).length) ((W (r.2)).toNat)) rfl (congrArg (fun k=>Value.slice (some ⟨H,0,none⟩) k ((W (r.2)).toNat)) (by simp))
    exact s ((cpL B n.toNat sub.length D),W (n + ((Nat.min D.length sub.length:Nat):Int))) _ _ (sj hF).symm ⟨hf.kp rfl,hc⟩
   ·refine wp_exit ?_
    refine aW ?_
    refine aW ?_
    have he:=sj hF
    rw [← he] at J
    refine eV ?_
    exact j _ _ _ J ⟨hf.kp rfl,hc⟩

def gA (N:Nat) (w_:aT) (p_:Int) (than:Int):Option (Int × Int) :=
 some (p_,than)
theorem lV {N:Nat} {G:aO} {Lf:List Ent} {w:World} (w_:aT) (p_:Int) (than:Int) {b_:Nat} {I:Option Addr} {H:Nat} {B:Option Addr} {D:Nat} (M:RdT aG G 1 I H w_.Roster.People) (J:RdT aL G 2 B D w_.Roster.Stations) (Z:PC G b_ 0 (sQ [.slice I w_.Roster.People.length H,.slice B w_.Roster.Stations.length D] 144 aD w_.rank [])) (hc:Ctx G (Lf) w) {O:Int × Int} (hF:gA N w_ p_ than=some O):Calls Tryz.prog 40 #[pq b_,i6 p_,i6 than] w (fun e w=>∃ (V:Nat) (R:Nat) (Y:Nat),e=.returned (.func (.func 81) #[] #[pq V,pq R,pq Y])∧Ctx G (.box V [pq b_] 47::.box R [i6 O.1] 3::.box Y [i6 O.2] 3::Lf) w):=by
 unfold gA at hF
 refine bI Tryz.func40 rfl Tryz.ntmps40 rfl fun a hf=>zS fun K h=>zB hf hc rfl fun S a w hf hc=>zB hf hc rfl fun U a w hf hc=>zB hf hc rfl fun X a w hf hc=>sp 1 hf rfl fun a hf=>zT h ?_
 refine zS fun K h=>zP hf rfl (pMF (us:=[pq S,pq U,pq X]) rfl rfl) fun a hf=>sp 1 hf rfl fun a hf=>zT h ?_
 refine wp_ret ?_
 obtain rfl:=sj hF
 replace hc:=((hc.pick k0).pick k1).pick k2
 exact zO1 Tryz.results40 hf rfl ⟨S,U,X,rfl,hc⟩

def dP (N:Nat) (w_:aT) (p_:Int) (s_:Int):Option (Bool) :=
 Option.bind (inR s_ 12) fun un=>
 Option.bind (inR p_ 12) fun H=>
 Option.bind (cond ((w_.rank (s_ * 12 + p_).toNat) != (-1)) (Option.bind (bH w_.Roster.People p_) fun D=>
 Option.bind (dF N D s_) fun r=>
 some r) (some false)) fun B=>
 some B
theorem fV {N:Nat} {G:aO} {Lf:List Ent} {w:World} (w_:aT) (p_:Int) (s_:Int) {b_:Nat} {I:Option Addr} {H:Nat} {B:Option Addr} {D:Nat} (J:RdT aG G 1 I H w_.Roster.People) (S:RdT aL G 2 B D w_.Roster.Stations) (R:PC G b_ 0 (sQ [.slice I w_.Roster.People.length H,.slice B w_.Roster.Stations.length D] 144 aD w_.rank [])) (hc:Ctx G (Lf) w) {X:Bool} (hF:dP N w_ p_ s_=some X):Calls Tryz.prog 48 #[pq b_,i6 p_,i6 s_] w (fun e w=>e=.returned (.bool X)∧Ctx G (Lf) w):=by
 unfold dP at hF
 refine bI Tryz.func48 rfl Tryz.ntmps48 rfl fun a hf=>zS fun K h=>sp 1 hf rfl fun a hf=>zT h ?_
 refine zS fun K h=>sp 4 hf rfl fun a hf=>zP hf rfl (pFA rB rfl) fun a hf=>?_
 obtain ⟨un,U,hF⟩:=aA hF
 refine zP hf rfl (pS Tryz.underlying92 yO rfl rfl (aZ U).1 (aZ U).2) fun a hf=>?_
 obtain ⟨d,O,hF⟩:=aA hF
 refine zP hf rfl (Pu.cast (pS Tryz.underlying91 eL rfl rfl (aZ O).1 (aZ O).2) (congrArg (fun k=>Value.pointer (some ⟨b_,k,none⟩)) (oO (M:=12) (0 + 2) U O rfl))) fun a hf=>zE hf hc rfl (bT bA rfl (qU (j:=0) R (fun x=>(bF x).1) rfl (aCz U O rfl) rfl)) fun a w hf hc=>sp 2 hf rfl fun a hf=>?_
 obtain ⟨b,V,hF⟩:=aA hF
 refine gX 11 (fun a=>Has 28 a [(0,pq b_),(1,i6 p_),(2,i6 s_),(6,.bool false),(7,pq b_),(8,i6 s_),(9,i6 p_),(10,pq b_),(11,.pointer (some ⟨b_,0 + 2,none⟩)),(12,.pointer (some ⟨b_,0 + 2 + s_.toNat * 12,none⟩)),(13,.pointer (some ⟨b_,0 + 2 + (s_ * 12 + p_).toNat * 1,none⟩)),(14,i6 (w_.rank (s_ * 12 + p_).toNat)),(15,.bool ((w_.rank (s_ * 12 + p_).toNat) != (-1))),(16,.bool ((w_.rank (s_ * 12 + p_).toNat) != (-1))),(27,.bool b)]) hc ?_ ?_
 ·cases hb:((w_.rank (s_ * 12 + p_).toNat) != (-1))
  ·rw [hb] at hf
   have hF:=jM hb V
   obtain rfl:=sj hF
   refine stS hf rfl rfl rfl fun a hf=>stS hf rfl rfl rfl fun a hf=>stS hf rfl rfl rfl fun a hf=>stS hf rfl rfl rfl fun a hf=>stS hf rfl rfl rfl fun a hf=>stS hf rfl rfl rfl fun a hf=>stS hf rfl rfl rfl fun a hf=>stS hf rfl rfl rfl fun a hf=>stS hf rfl rfl rfl fun a hf=>stS hf rfl rfl rfl fun a hf=>sp 1 hf rfl fun a hf=>aP ⟨hf.kp rfl,hc⟩
  ·rw [hb] at hf
   have hF:=iL hb V
   refine sp 2 hf rfl fun a hf=>zP hf rfl (pFA pI rfl) fun a hf=>zP hf rfl (pFA eZ rfl) fun a hf=>zE hf hc rfl (bT mA rfl (bL (j:=0) R rfl)) fun a w hf hc=>sp 1 hf rfl fun a hf=>?_
   obtain ⟨Z,Y,hF⟩:=aA hF
   obtain ⟨g,o,hd,qa,qp,qr⟩:=J.atm Y
   refine zP hf rfl (pIA Tryz.underlying23 nB rfl rfl qa) fun a hf=>zE hf hc rfl (bT kJ rfl (bL (j:=0) qp rfl)) fun a w hf hc=>sp 1 hf rfl fun a hf=>?_
   obtain ⟨r,hr,hF⟩:=aA hF
   refine zQ (v:=.bool r) hf hc aJv rfl (fun w hc=>kV Z s_ qr hc hr) fun a w hf hc=>sp 1 hf rfl fun a hf=>?_
   obtain rfl:=sj hF
   exact aP ⟨hf.kp rfl,hc⟩
 intro a w ⟨hf,hc⟩
 refine sp 1 hf rfl fun a hf=>zT h ?_
 refine wp_ret ?_
 obtain rfl:=sj hF
 exact zO1 Tryz.results48 hf rfl ⟨rfl,hc⟩

def fY (N:Nat) {σ:Type} (D:Int) (J:Int) (H:Bool) (I:Bool) (M:Bool) (B:σ):Option (cK (Int × σ) (σ)) :=
 some (.cont (W (D + 1),B))
def eI (N:Nat) {σ:Type} (x:aT) (I:Int) (J:Int) (y:σ→Int→Option (σ × Bool)) (H:List Int) (D:Int) (sg:σ):Option (cK (Int × σ) (σ)) :=
 cond (decide (D < ((H.length:Nat):Int)))
 (Option.bind (bH H D) fun B=>
 cond (B == J)
 (some (.ret sg))
 (Option.bind (dP N (⟨x.Roster,x.rank⟩:aT) I B) fun r=>
 cond r
 (Option.bind (y sg B) fun ry=>
 cond (!ry.2)
 (some (.ret ry.1))
 (fY N D B true true (!ry.2) ry.1))
 (fY N D B false false false sg)))
 (some (.brk (D,sg)))
def dQ (N:Nat) {σ:Type} (x:aT) (B:Int) (H:Int) (y:σ→Int→Option (σ × Bool)) (D:σ):Option (σ) :=
 Option.bind (bH x.Roster.People B) fun I=>
 Option.bind (bE (fun s3=>eI N x B H y I s3.1 s3.2) N (0,D)) fun x3=>
 exK x3 (fun s3=>some s3.2) some
theorem kT {N:Nat} {G:aO} {Lf:List Ent} {w:World} {σ:Type} (x:aT) (X:Int) (b:Int) {b_:Nat} {V:Nat} {M:Option Addr} {O:Nat} {H:Option Addr} {I:Nat} {U:Nat} {R:Nat} (B:RdT aG G 1 M O x.Roster.People) (D:RdT aL G 2 H I x.Roster.Stations) (d:PC G V 0 (sQ [.slice M x.Roster.People.length O,.slice H x.Roster.Stations.length I] 144 aD x.rank [])) (J:σ→List Ent→Prop) (y:σ→Int→Option (σ × Bool)) {l:Nat} (hy:xJ Tryz.prog G l (fun x:Int=>[i6 x]) J y) (p:σ) {Ls0:List Ent} (aq:J p Ls0) (hc:Ctx G (.box b_ [pq V] 47::.box U [i6 X] 3::.box R [i6 b] 3::(Ls0++Lf)) w) {u:σ} (hF:dQ N x X b y p=some u):Calls Tryz.prog 81 #[.func (.yield l) #[] #[],pq b_,pq U,pq R] w (fun e w=>(∃ v,e=.returned v)∧∃ L,J u L∧Ctx G (.box b_ [pq V] 47::.box U [i6 X] 3::.box R [i6 b] 3::(L++Lf)) w):=by
 unfold dQ at hF
 refine bI Tryz.func81 rfl Tryz.ntmps81 rfl fun a hf=>wp_seq_k fun K1 h1=>?_
 obtain ⟨g,ag,hF⟩:=aA hF
 obtain ⟨au,o,hd,qa,qp,qr⟩:=B.atm ag
 refine cQ hc aU (by kernel_rfl) ?_
 refine qE hf rfl rfl rfl (bT nI rfl (bU m0 rfl)) fun a hf=>qE hf rfl rfl rfl (Pu.ev (pNC rfl)) fun a hf=>qE hf rfl rfl rfl (Pu.ev (pFA pI rfl)) fun a hf=>qE hf rfl rfl rfl (Pu.ev (pFA eZ rfl)) fun a hf=>qE hf rfl rfl rfl (bT mA rfl (bL (j:=0) d rfl)) fun a hf=>qE hf rfl rfl rfl (bT bA rfl (bU m1 rfl)) fun a hf=>qE hf rfl rfl rfl (Pu.ev (pIA Tryz.underlying23 nB rfl rfl qa)) fun a hf=>qE hf rfl rfl rfl (bT kJ rfl (bL (j:=0) qp rfl)) fun a hf=>qE hf rfl rfl rfl (Pu.ev (bC Tryz.underlying30 rfl)) fun a hf=>qE hf rfl rfl rfl (Pu.ev (pM rfl)) fun a hf=>?_
 intro w hc
 refine h1 _ _ ?_
 refine wC fun K2 h2=>wp_block ?_
 obtain ⟨x3,ar,hF⟩:=aA hF
 let S3:(Int × σ)→Act→World→Prop:=(fun (zz:Int × σ) a w=>∃ (Ls:List Ent),J zz.2 Ls∧Has 36 a [(0,.func (.yield l) #[] #[]),(1,pq b_),(2,pq U),(3,pq R),(14,.slice hd.1 g.length hd.2),(15,i6 ((g.length:Nat):Int)),(16,i6 zz.1)]∧Ctx G (.box b_ [pq V] 47::.box U [i6 X] 3::.box R [i6 b] 3::(Ls++Lf)) w)
 have an:∀ (zz:Int × σ) a w,x3=.go zz→S3 zz a w→K2 a w:=by
  rintro ⟨m,sg⟩ a w rfl ⟨Ls,hJ,hf,hc⟩
  replace hF:=bP hF
  refine h2 _ _ ?_
  obtain rfl:=sj hF
  exact aEh (by simp) rfl Tryz.results81 hf ⟨⟨_,rfl⟩,Ls,hJ,hc⟩
 have ab:∀ r,x3=.out r→r=u:=by
  rintro r rfl
  exact sj hF
 refine cR N (cL (S:=S3) (x:=x3) ?_ N (0,p) _ _ ⟨Ls0,aq,hf.kp rfl,hc⟩ ar)
 clear hF hf hc
 rintro ⟨m,sg⟩ ak a w KB3 ⟨Ls,hJ,hf,hc⟩ hF Y am
 unfold eI at hF
 refine zS fun K h=>sp 1 hf rfl fun a hf=>zT h ?_
 refine wp_seq_k fun K5 h5=>zI hf rfl hF ?_ ?_ <;> clear hF <;> intro hF
 ·refine wp_skip ?_
  refine h5 _ _ ?_
  refine wp_seq_k fun K6 h6=>?_
  have ac:∀ (s:Int) (q:Bool) (t:Bool) (z:Bool) (k:σ) (Ls_1:List Ent) a w,J k Ls_1→Has 36 a [(0,.func (.yield l) #[] #[]),(1,pq b_),(2,pq U),(3,pq R),(14,.slice hd.1 g.length hd.2),(15,i6 ((g.length:Nat):Int)),(16,i6 m),(24,pq V),(25,i6 X),(26,i6 s),(27,.bool q),(28,.bool t),(33,.bool z)]→Ctx G (.box b_ [pq V] 47::.box U [i6 X] 3::.box R [i6 b] 3::(Ls_1++Lf)) w→fY N m s q t z k=some ak→K6 a w:=by
   repeat (clear hF)
   repeat (clear hc)
   repeat (clear hf)
   intro s q t z k Ls_1 a w ad hf hc hF
   unfold fY at hF
   refine h6 _ _ ?_
   refine cJ ?_
   refine sp 2 hf rfl fun a hf=>aP ?_
   exact am (W (m + 1),k) _ _ (sj hF).symm ⟨Ls_1,ad,hf.kp rfl,hc⟩
  refine wp_block ?_
  refine zS fun K h=>?_
  obtain ⟨Z,ai,hF⟩:=aA hF
  obtain ⟨av,ax,aj,af⟩:=qr.atm ai
  refine zP hf rfl (pIA Tryz.underlying30 eL rfl rfl aj) fun a hf=>zE hf hc rfl (bT bA rfl (bL (j:=0) af rfl)) fun a w hf hc=>sp 1 hf rfl fun a hf=>zT h ?_
  refine wp_seq_k fun K8 h8=>?_
  rcases dX (Z == b) with i | i
  ·replace hF:=iL i hF
   refine cJ ?_
   refine sp 1 hf rfl fun a hf=>zL hf hc bA m2 rfl fun a w hf hc=>sp 1 hf rfl fun a hf=>?_
   replace hf:=bZ i hf
   refine sp 1 hf rfl fun a hf=>stS hf rfl rfl rfl fun a hf=>stS hf rfl rfl rfl fun a hf=>stS hf rfl rfl rfl fun a hf=>stS hf rfl rfl rfl fun a hf=>stS hf rfl rfl rfl fun a hf=>stS hf rfl rfl rfl fun a hf=>stS hf rfl rfl rfl fun a hf=>stS hf rfl rfl rfl fun a hf=>stS hf rfl rfl rfl fun a hf=>stS hf rfl rfl rfl fun a hf=>sp 1 hf rfl fun a hf=>aP ?_
   refine h8 _ _ ?_
   refine aEm hf rfl ?_
   refine wp_ret ?_
   refine bN ?_
   refine aN ?_
   refine aN ?_
   have he:=sj hF
   rw [← he] at Y
   replace hF:=ab _ Y
   refine bN ?_
   refine aN ?_
   obtain rfl:=hF
   exact aEh (by simp) rfl Tryz.results81 hf ⟨⟨_,rfl⟩,Ls,hJ,hc⟩
  ·replace hF:=jM i hF
   obtain ⟨r,hr,hF⟩:=aA hF
   rcases dX r with n | n
   ·replace hF:=iL n hF
    obtain ⟨ry,ap,hF⟩:=aA hF
    refine yReg 11 (fun a w=>Has 36 a [(0,.func (.yield l) #[] #[]),(1,pq b_),(2,pq U),(3,pq R),(14,.slice hd.1 g.length hd.2),(15,i6 ((g.length:Nat):Int)),(16,i6 m),(6,i6 Z),(20,i6 Z),(21,i6 b),(22,.bool false),(23,.bool false),(24,pq V),(25,i6 X),(26,i6 Z),(27,.bool true),(28,.bool true),(29,.func (.yield l) #[] #[]),(30,i6 Z)]∧Ctx G (.box b_ [pq V] 47::.box U [i6 X] 3::.box R [i6 b] 3::(Ls++Lf)) w) (fun _ _ h=>by obtain ⟨⟨_,h⟩,_⟩:=h; cases h) ?_ ?_
    ·refine sp 1 hf rfl fun a hf=>zL hf hc bA m2 rfl fun a w hf hc=>sp 1 hf rfl fun a hf=>?_
     replace hf:=bZ i hf
     refine sp 1 hf rfl fun a hf=>zL hf hc nI m0 rfl fun a w hf hc=>zL hf hc bA m1 rfl fun a w hf hc=>sp 1 hf rfl fun a hf=>zQ (v:=.bool r) hf hc aDf rfl (fun w hc=>fV (⟨x.Roster,x.rank⟩:aT) X Z B D d hc hr) fun a w hf hc=>?_
     replace hf:=bZ n hf
     refine sp 3 hf rfl fun a hf=>aP ⟨hf.kp rfl,hc⟩
    rintro a w ⟨hf,hc⟩
    refine stY (own:=[.box b_ [pq V] 47,.box U [i6 X] 3,.box R [i6 b] 3]) (v:=Z) hy hJ ap hf hc rfl rfl rfl rfl rfl rfl fun a w Ls_2 aa hf hc=>?_
    replace hc:Ctx G (.box b_ [pq V] 47::.box U [i6 X] 3::.box R [i6 b] 3::(Ls_2++Lf)) w:=hc
    refine yRest (fun _ _ h=>by obtain ⟨⟨_,h⟩,_⟩:=h; cases h) ?_
    refine sp 3 hf rfl fun a hf=>aP ?_
    refine h8 _ _ ?_
    refine zI hf rfl hF ?_ ?_ <;> clear hF <;> intro hF
    ·refine wp_ret ?_
     refine bN ?_
     refine aN ?_
     refine aN ?_
     have he:=sj hF
     rw [← he] at Y
     replace hF:=ab _ Y
     refine bN ?_
     refine aN ?_
     obtain rfl:=hF
     exact aEh (by simp) rfl Tryz.results81 hf ⟨⟨_,rfl⟩,Ls_2,aa,hc⟩
    ·refine wp_skip ?_
     exact ac Z true true (!ry.2) ry.1 Ls_2 _ _ aa (hf.kp rfl) hc hF
   ·replace hF:=jM n hF
    refine cJ ?_
    refine sp 1 hf rfl fun a hf=>zL hf hc bA m2 rfl fun a w hf hc=>sp 1 hf rfl fun a hf=>?_
    replace hf:=bZ i hf
    refine sp 1 hf rfl fun a hf=>zL hf hc nI m0 rfl fun a w hf hc=>zL hf hc bA m1 rfl fun a w hf hc=>sp 1 hf rfl fun a hf=>zQ (v:=.bool r) hf hc aDf rfl (fun w hc=>fV (⟨x.Roster,x.rank⟩:aT) X Z B D d hc hr) fun a w hf hc=>?_
    replace hf:=bZ n hf
    refine sp 1 hf rfl fun a hf=>stS hf rfl rfl rfl fun a hf=>stS hf rfl rfl rfl fun a hf=>stS hf rfl rfl rfl fun a hf=>stS hf rfl rfl rfl fun a hf=>sp 2 hf rfl fun a hf=>aP ?_
    refine h8 _ _ ?_
    refine aEg hf rfl ?_
    refine wp_skip ?_
    exact ac Z false false false sg Ls _ _ hJ (hf.kp rfl) hc hF
 ·refine wp_exit ?_
  refine aW ?_
  refine aW ?_
  have he:=sj hF
  rw [← he] at Y
  refine eV ?_
  exact an _ _ _ Y ⟨Ls,hJ,hf.kp rfl,hc⟩

def dV (x:aE) (B:Int) (D:Int):Bool :=
 (x.Person == B && x.Station == D)
theorem sJ {G:aO} {Lf:List Ent} {w:World} (x:aE) (D:Int) (H:Int) {b_:Nat} {B:Nat}  (hc:Ctx G (.box b_ [i6 D] 3::.box B [i6 H] 3::Lf) w) {I:Bool} (hF:dV x D H=I):Calls Tryz.prog 42 #[.agg #[i6 x.Person,i6 x.Station],pq b_,pq B] w (fun e w=>e=.returned (.bool I)∧Ctx G (.box b_ [i6 D] 3::.box B [i6 H] 3::Lf) w):=by
 unfold dV at hF
 refine bI Tryz.func42 rfl Tryz.ntmps42 rfl fun a hf=>zS fun K h=>zB hf hc rfl fun J a w hf hc=>sp 1 hf rfl fun a hf=>zT h ?_
 refine zS fun K h=>zN hf hc mV m0 rfl fun a w hf hc=>zL hf hc bA m1 rfl fun a w hf hc=>zL hf hc bA m2 rfl fun a w hf hc=>zP hf rfl (cF (cells:=[i6 D,i6 H]) sK rfl rfl) fun a hf=>zP hf rfl (pEqA aHv rfl rfl (aEp _ _ _ _)) fun a hf=>sp 1 hf rfl fun a hf=>zT h ?_
 refine wp_ret ?_
 obtain rfl:=hF
 replace hc:=hc.drop k0
 exact zO1 Tryz.results42 hf rfl ⟨rfl,hc⟩

def cM (N:Nat) (s_:List aE) (f_:Int) (B:Int) (x:Int):Option (cK (Int) (Int)) :=
 cond (decide (x < ((s_.length:Nat):Int)))
 (Option.bind (bH s_ x) fun D=>
 cond (dV D f_ B)
 (some (.ret x))
 (some (.cont (W (x + 1)))))
 (some (.brk x))
def cC (N:Nat) (s_:List aE) (f_:Int) (B:Int):Option (Int) :=
 Option.bind (bE (fun s4=>cM N s_ f_ B s4) N 0) fun x4=>
 exK x4 (fun s4=>some (-1)) some
theorem iT {N:Nat} {G:aO} {Lf:List Ent} {w:World} (s_:List aE) (f_:Int) (B:Int) {I:Option Addr} {J:Nat} {b_:Nat} {H:Nat} (U:Rd G 2 I J (s_.map aJ)) (hc:Ctx G (.box b_ [i6 f_] 3::.box H [i6 B] 3::Lf) w) {O:Int} (hF:cC N s_ f_ B=some O):Calls Tryz.prog 82 #[.slice I s_.length J,.func (.func 42) #[] #[pq b_,pq H]] w (fun e w=>e=.returned (i6 O)∧Ctx G (.box b_ [i6 f_] 3::.box H [i6 B] 3::Lf) w):=by
 unfold cC at hF
 refine bI Tryz.func82 rfl Tryz.ntmps82 rfl fun a hf=>zS fun K h=>sp 1 hf rfl fun a hf=>zT h ?_
 refine wp_seq_k fun K2 h2=>zS fun K h=>sp 1 hf rfl fun a hf=>zP hf rfl (bC Tryz.underlying50 rfl) fun a hf=>sp 1 hf rfl fun a hf=>zT h ?_
 refine wp_block ?_
 obtain ⟨x4,X,hF⟩:=aA hF
 let S4:Int→Act→World→Prop:=(fun (zz:Int) a w=>Has 19 a [(0,.slice I s_.length J),(1,.func (.func 42) #[] #[pq b_,pq H]),(7,i6 ((s_.length:Nat):Int)),(8,i6 zz)]∧Ctx G (.box b_ [i6 f_] 3::.box H [i6 B] 3::Lf) w)
 have Y:∀ (zz:Int) a w,x4=.go zz→S4 zz a w→K2 a w:=by
  rintro x a w rfl ⟨hf,hc⟩
  replace hF:=bP hF
  refine h2 _ _ ?_
  refine zS fun K h=>sp 1 hf rfl fun a hf=>zT h ?_
  refine wp_ret ?_
  obtain rfl:=sj hF
  exact zO1 Tryz.results82 hf rfl ⟨rfl,hc⟩
 have Z:∀ r,x4=.out r→r=O:=by
  rintro r rfl
  exact sj hF
 refine cR N (cL (S:=S4) (x:=x4) ?_ N 0 _ _ ⟨hf.kp rfl,hc⟩ X)
 clear hF hf hc
 rintro x b a w KB4 ⟨hf,hc⟩ hF D V
 unfold cM at hF
 refine zS fun K h=>sp 1 hf rfl fun a hf=>zT h ?_
 refine wp_seq_k fun K7 h7=>zI hf rfl hF ?_ ?_ <;> clear hF <;> intro hF
 ·refine wp_skip ?_
  refine h7 _ _ ?_
  refine wp_seq_k fun K8 h8=>wp_block ?_
  refine zS fun K h=>sp 2 hf rfl fun a hf=>zT h ?_
  refine zS fun K h=>sp 3 hf rfl fun a hf=>?_
  obtain ⟨M,R,hF⟩:=aA hF
  obtain ⟨d,o,qa,qp⟩:=U.atm R
  refine zP hf rfl (pIA Tryz.underlying50 nF rfl rfl qa) fun a hf=>zE hf hc rfl (jN (vs:=[i6 M.Person,i6 M.Station]) mV rfl rfl (eX qp (n:=2) (o':=0) rfl)) fun a w hf hc=>zQ (v:=.bool (dV M f_ B)) hf hc en_42 rfl (fun w hc=>(sJ M f_ B ((hc.pick k1).pick k1) rfl).mono fun e w h=>⟨h.1,((h.2.unpick k1).unpick k1)⟩) fun a w hf hc=>zT h ?_
  refine zI hf rfl hF ?_ ?_ <;> clear hF <;> intro hF
  ·refine zS fun K h=>sp 2 hf rfl fun a hf=>zT h ?_
   refine wp_ret ?_
   refine bN ?_
   refine aN ?_
   refine aN ?_
   have he:=sj hF
   rw [← he] at D
   replace hF:=Z _ D
   refine bN ?_
   refine aN ?_
   obtain rfl:=hF
   exact zO1 Tryz.results82 hf rfl ⟨rfl,hc⟩
  ·refine wp_skip ?_
   refine h8 _ _ ?_
   refine cJ ?_
   refine sp 2 hf rfl fun a hf=>aP ?_
   exact V (W (x + 1)) _ _ (sj hF).symm ⟨hf.kp rfl,hc⟩
 ·refine wp_exit ?_
  refine aW ?_
  refine aW ?_
  have he:=sj hF
  rw [← he] at D
  refine eV ?_
  exact Y _ _ _ D ⟨hf.kp rfl,hc⟩

def bJ (N:Nat) (s_:List aE) (f_:Int) (B:Int):Option (Bool) :=
 Option.bind (cC N s_ f_ B) fun r=>
 some (decide (0≤r))
theorem iA {N:Nat} {G:aO} {Lf:List Ent} {w:World} (s_:List aE) (f_:Int) (B:Int) {H:Option Addr} {I:Nat} {b_:Nat} {D:Nat} (M:Rd G 2 H I (s_.map aJ)) (hc:Ctx G (.box b_ [i6 f_] 3::.box D [i6 B] 3::Lf) w) {J:Bool} (hF:bJ N s_ f_ B=some J):Calls Tryz.prog 41 #[.slice H s_.length I,.func (.func 42) #[] #[pq b_,pq D]] w (fun e w=>e=.returned (.bool J)∧Ctx G (.box b_ [i6 f_] 3::.box D [i6 B] 3::Lf) w):=by
 unfold bJ at hF
 refine bI Tryz.func41 rfl Tryz.ntmps41 rfl fun a hf=>zS fun K h=>sp 1 hf rfl fun a hf=>zT h ?_
 refine zS fun K h=>sp 2 hf rfl fun a hf=>?_
 obtain ⟨r,hr,hF⟩:=aA hF
 refine zQ (v:=i6 r) hf hc aKh rfl (fun w hc=>(iT s_ f_ B M ((hc.pick k1).pick k1) hr).mono fun e w h=>⟨h.1,((h.2.unpick k1).unpick k1)⟩) fun a w hf hc=>sp 2 hf rfl fun a hf=>zT h ?_
 refine wp_ret ?_
 obtain rfl:=sj hF
 exact zO1 Tryz.results41 hf rfl ⟨rfl,hc⟩

end Go.Nilo
