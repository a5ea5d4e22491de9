/-
 What functions of the Go text compute, as plain functions, and that they do, part 1 of 5. Conditions: what each theorem names.
-/
import Derived.Test.YtbkcdekgmilmcaaGreatNl34
import Derived.Test.YtbkcdekgmilmcaaGreatProg
set_option linter.unusedVariables false
set_option linter.unusedSimpArgs false
set_option maxRecDepth 100000
set_option maxHeartbeats 4000000
namespace Go.Nilo
open Go.Proofs


structure aZ where
 bytes:List Int
 used:Int
 mix:Int

structure aN where
 Lo:Int
 Hi:Int
@[reducible] def aI (x:aN):List Value:=[i6 x.Lo,i6 x.Hi]
theorem wJ:∀ x,(aI x).length=2∧oQ (aI x)=true:=fun _=>⟨rfl,rfl⟩

structure aR where
 Station:Int
 Lead:Int
 Alarm:Int
@[reducible] def aG (x:aR):List Value:=[i6 x.Station,i6 x.Lead,i6 x.Alarm]
theorem oP:∀ x,(aG x).length=3∧oQ (aG x)=true:=fun _=>⟨rfl,rfl⟩

structure cX where
 Spring:Int
 Stages:List Int

structure aH where
 Down:List Int
 Travel:List aN
 Springs:List Int
 Towns:List aR
 Delay:aN
 Floods:List cX

structure aC where
 Spring:Int
 Town:Int
@[reducible] def aD (x:aC):List Value:=[i6 x.Spring,i6 x.Town]
theorem dJ:∀ x,(aD x).length=2∧oQ (aD x)=true:=fun _=>⟨rfl,rfl⟩

structure aF where
 River:aH
 found:Int × Int→Option (List Int)

structure aM where
 Of:List Int
 Base:Int
 Minutes:Int

structure aA0 where
 works:List aM

structure wE where
 list:aA0

structure aJ where
 Places:Int
 Order:List Int

structure aE where
 People:List (List Int)
 Stations:List aJ

structure dD where
 Roster:aE
 rank:Nat→Int

structure aO where
 Person:Int
 Station:Int
@[reducible] def aV (x:aO):List Value:=[i6 x.Person,i6 x.Station]
theorem yT:∀ x,(aV x).length=2∧oQ (aV x)=true:=fun _=>⟨rfl,rfl⟩

structure eU where
 claim:Int
 by_:Int
@[reducible] def uI (x:eU):List Value:=[i6 x.claim,i6 x.by_]
theorem aHe:∀ x,(uI x).length=2∧oQ (uI x)=true:=fun _=>⟨rfl,rfl⟩

theorem bt_70:iY Tryz.prog 70=some ([.slice none 0 0,i6 0,i6 0],[(0,1),(1,1),(2,1)]):=by kernel_rfl

theorem en_6:En Tryz.prog 6:=En.of Tryz.func6 (by kernel_rfl) (by kernel_rfl)

theorem aJu:(Tryz.prog.info? 30).map (·.zero)=some (some (.agg #[.slice none 0 0,.slice none 0 0,.slice none 0 0,.slice none 0 0,i6 0,i6 0,.slice none 0 0])):=by kernel_rfl

theorem aBv:∀ (q:Addr) (w:World),(Instr.fieldAt 70 (.pointer (some q)) 0).run Tryz.prog w=.ok (.pointer (some (q.add 0))) w:=fun _ _=>by kernel_rfl

theorem aHs:ScT Tryz.prog 22:=⟨⟨_,Tryz.underlying22,trivial⟩,by kernel_rfl⟩

theorem aBr:∀ (q:Addr) (w:World),(Instr.fieldAt 70 (.pointer (some q)) 1).run Tryz.prog w=.ok (.pointer (some (q.add 1))) w:=fun _ _=>by kernel_rfl

theorem cR:ScT Tryz.prog 3:=⟨⟨_,Tryz.underlying3,trivial⟩,by kernel_rfl⟩

theorem sz_5:(Tryz.prog.info? 5).map (·.size)=some 1:=by kernel_rfl

theorem sc_5:ScT Tryz.prog 5:=⟨⟨_,Tryz.underlying5,trivial⟩,by kernel_rfl⟩

theorem bA:Tryz.prog.follows .mixedOrders=true:=by kernel_rfl

theorem aDw:∀ (q:Addr) (w:World),(Instr.fieldAt 70 (.pointer (some q)) 2).run Tryz.prog w=.ok (.pointer (some (q.add 2))) w:=fun _ _=>by kernel_rfl

theorem fO:(Tryz.prog.info? 3).map (·.size)=some 1:=by kernel_rfl

theorem uF:En Tryz.prog 14:=En.of Tryz.func14 (by kernel_rfl) (by kernel_rfl)

theorem aLv:En Tryz.prog 22:=En.of Tryz.func22 (by kernel_rfl) (by kernel_rfl)

theorem sI:∀ (q:Addr) (w:World),(Instr.fieldAt 30 (.pointer (some q)) 0).run Tryz.prog w=.ok (.pointer (some (q.add 0))) w:=fun _ _=>by kernel_rfl

theorem hY:ScT Tryz.prog 23:=⟨⟨_,Tryz.underlying23,trivial⟩,by kernel_rfl⟩

theorem jA:SlT Tryz.prog 23 3 1 8 (i6 0):=SlT.of Tryz.underlying23 (by kernel_rfl) (by decide)

theorem aBq:∀ (q:Addr) (w:World),(Instr.fieldAt 30 (.pointer (some q)) 1).run Tryz.prog w=.ok (.pointer (some (q.add 1))) w:=fun _ _=>by kernel_rfl

theorem aFt:ScT Tryz.prog 24:=⟨⟨_,Tryz.underlying24,trivial⟩,by kernel_rfl⟩

theorem aNz:iY Tryz.prog 27=some ([i6 0,i6 0],[(0,1),(1,1)]):=by kernel_rfl

theorem aKn:SlT Tryz.prog 24 27 2 16 (.agg #[i6 0,i6 0]):=SlT.of Tryz.underlying24 (by kernel_rfl) (by decide)

theorem vI:(Tryz.prog.info? 23).map (·.size)=some 1:=by kernel_rfl

theorem aO8:(Tryz.prog.info? 24).map (·.size)=some 1:=by kernel_rfl

theorem rF:∀ (q:Addr) (w:World),(Instr.fieldAt 30 (.pointer (some q)) 2).run Tryz.prog w=.ok (.pointer (some (q.add 2))) w:=fun _ _=>by kernel_rfl

theorem qY:∀ (q:Addr) (w:World),(Instr.fieldAt 30 (.pointer (some q)) 3).run Tryz.prog w=.ok (.pointer (some (q.add 3))) w:=fun _ _=>by kernel_rfl

theorem aBx:ScT Tryz.prog 25:=⟨⟨_,Tryz.underlying25,trivial⟩,by kernel_rfl⟩

theorem bt_65:iY Tryz.prog 65=some ([i6 0,i6 0,i6 0],[(0,1),(1,1),(2,1)]):=by kernel_rfl

theorem aJ7:SlT Tryz.prog 25 65 3 24 (.agg #[i6 0,i6 0,i6 0]):=SlT.of Tryz.underlying25 (by kernel_rfl) (by decide)

theorem aPr:(Tryz.prog.info? 25).map (·.size)=some 1:=by kernel_rfl

theorem aB0:∀ (q:Addr) (w:World),(Instr.fieldAt 30 (.pointer (some q)) 4).run Tryz.prog w=.ok (.pointer (some (q.add 4))) w:=fun _ _=>by kernel_rfl

theorem zJ:∀ (q:Addr) (w:World),(Instr.fieldAt 27 (.pointer (some q)) 0).run Tryz.prog w=.ok (.pointer (some (q.add 0))) w:=fun _ _=>by kernel_rfl

theorem zR:∀ (q:Addr) (w:World),(Instr.fieldAt 27 (.pointer (some q)) 1).run Tryz.prog w=.ok (.pointer (some (q.add 1))) w:=fun _ _=>by kernel_rfl

theorem bt_68:iY Tryz.prog 68=some ([i6 0,.slice none 0 0],[(0,1),(1,1)]):=by kernel_rfl

theorem aP0:(Tryz.prog.info? 68).map (·.zero)=some (some (.agg #[i6 0,.slice none 0 0])):=by kernel_rfl

theorem aNn:(Tryz.prog.info? 68).map (·.size)=some 2:=by kernel_rfl

theorem aG2:∀ (q:Addr) (w:World),(Instr.fieldAt 68 (.pointer (some q)) 0).run Tryz.prog w=.ok (.pointer (some (q.add 0))) w:=fun _ _=>by kernel_rfl

theorem aDy:∀ (q:Addr) (w:World),(Instr.fieldAt 68 (.pointer (some q)) 1).run Tryz.prog w=.ok (.pointer (some (q.add 1))) w:=fun _ _=>by kernel_rfl

theorem aDv:∀ (q:Addr) (w:World),(Instr.fieldAt 30 (.pointer (some q)) 5).run Tryz.prog w=.ok (.pointer (some (q.add 6))) w:=fun _ _=>by kernel_rfl

theorem aMd:ScT Tryz.prog 28:=⟨⟨_,Tryz.underlying28,trivial⟩,by kernel_rfl⟩

theorem aPe:yL Tryz.prog 68 2:=⟨⟨_,Tryz.underlying68,trivial⟩,by kernel_rfl⟩

@[reducible] def cH:Kd cX:=Kd.comp (kL aB 3 1) (fun x=>x.Stages) (fun h x=>[i6 x.Spring,.slice h.1 x.Stages.length h.2])
theorem aGm:aAh cH:=aAh.comp (aKu _ _ _) _ _
theorem aLs:∀ r,(cH.v r).length=2∧oQ (cH.v r)=true:=fun _=>⟨rfl,rfl⟩

theorem aQe:SlT Tryz.prog 28 68 2 32 (.agg #[i6 0,.slice none 0 0]):=SlT.of Tryz.underlying28 (by kernel_rfl) (by decide)

theorem sz_28:(Tryz.prog.info? 28).map (·.size)=some 1:=by kernel_rfl

theorem oK:yL Tryz.prog 30 7:=⟨⟨_,Tryz.underlying30,trivial⟩,by kernel_rfl⟩

theorem aIn:(Tryz.prog.info? 30).map (·.size)=some 7:=by kernel_rfl

theorem en_5:En Tryz.prog 5:=En.of Tryz.func5 (by kernel_rfl) (by kernel_rfl)

theorem aJs:(Tryz.prog.info? 3).map (·.zero)=some (some (i6 0)):=by kernel_rfl

theorem aB1:En Tryz.prog 68:=En.of Tryz.func68 (by kernel_rfl) (by kernel_rfl)

theorem aAq:(Tryz.prog.info? 27).map (·.size)=some 2:=by kernel_rfl

theorem aDd:yL Tryz.prog 27 2:=⟨⟨_,Tryz.underlying27,trivial⟩,by kernel_rfl⟩

theorem aPd:En Tryz.prog 69:=En.of Tryz.func69 (by kernel_rfl) (by kernel_rfl)

theorem aL4:En Tryz.prog 63:=En.of Tryz.func63 (by kernel_rfl) (by kernel_rfl)

theorem aC5:(Tryz.prog.info? 65).map (·.size)=some 3:=by kernel_rfl

theorem aF9:yL Tryz.prog 65 3:=⟨⟨_,Tryz.underlying65,trivial⟩,by kernel_rfl⟩

theorem aNd:ScT Tryz.prog 145:=⟨⟨_,Tryz.underlying145,trivial⟩,by kernel_rfl⟩

theorem aJx:∀ (q:Addr) (w:World),(Instr.fieldAt 65 (.pointer (some q)) 1).run Tryz.prog w=.ok (.pointer (some (q.add 1))) w:=fun _ _=>by kernel_rfl

theorem aOc:∀ (q:Addr) (w:World),(Instr.fieldAt 65 (.pointer (some q)) 2).run Tryz.prog w=.ok (.pointer (some (q.add 2))) w:=fun _ _=>by kernel_rfl

theorem aPx:En Tryz.prog 74:=En.of Tryz.func74 (by kernel_rfl) (by kernel_rfl)

theorem en_71:En Tryz.prog 71:=En.of Tryz.func71 (by kernel_rfl) (by kernel_rfl)

theorem aMs:En Tryz.prog 102:=En.of Tryz.func102 (by kernel_rfl) (by kernel_rfl)

theorem aMo:En Tryz.prog 130:=En.of Tryz.func130 (by kernel_rfl) (by kernel_rfl)

theorem aNg:En Tryz.prog 101:=En.of Tryz.func101 (by kernel_rfl) (by kernel_rfl)

theorem aPo:En Tryz.prog 70:=En.of Tryz.func70 (by kernel_rfl) (by kernel_rfl)

theorem aHa:∀ (q:Addr) (w:World),(Instr.fieldAt 65 (.pointer (some q)) 0).run Tryz.prog w=.ok (.pointer (some (q.add 0))) w:=fun _ _=>by kernel_rfl

theorem en_72:En Tryz.prog 72:=En.of Tryz.func72 (by kernel_rfl) (by kernel_rfl)

theorem aKe:En Tryz.prog 46:=En.of Tryz.func46 (by kernel_rfl) (by kernel_rfl)

theorem aQd:En Tryz.prog 31:=En.of Tryz.func31 (by kernel_rfl) (by kernel_rfl)

theorem aB4:En Tryz.prog 11:=En.of Tryz.func11 (by kernel_rfl) (by kernel_rfl)

theorem aEm:ScT Tryz.prog 56:=⟨⟨_,Tryz.underlying56,trivial⟩,by kernel_rfl⟩

theorem aQr:En Tryz.prog 103:=En.of Tryz.func103 (by kernel_rfl) (by kernel_rfl)

theorem aAn:En Tryz.prog 39:=En.of Tryz.func39 (by kernel_rfl) (by kernel_rfl)

theorem aAp:En Tryz.prog 36:=En.of Tryz.func36 (by kernel_rfl) (by kernel_rfl)

theorem en_73:En Tryz.prog 73:=En.of Tryz.func73 (by kernel_rfl) (by kernel_rfl)

theorem aKs:En Tryz.prog 76:=En.of Tryz.func76 (by kernel_rfl) (by kernel_rfl)

theorem en_42:En Tryz.prog 42:=En.of Tryz.func42 (by kernel_rfl) (by kernel_rfl)

@[reducible] def aW (k:Int × Int):Value:=.agg #[i6 k.1,i6 k.2]

set_option maxRecDepth 100000 in
theorem aNv:aLc Tryz.prog 62 aW :=
 aOp (by kernel_rfl) (fun a b h=>by
   simp only [aW,Value.agg.injEq,Array.mk.injEq,List.cons.injEq,Value.int.injEq,Value.bool.injEq,true_and,and_true] at h
   grind) (fun a b=>decide (a=b)) (fun a b=>by simp)
  (fun a b w=>by
   show (Op.equalIn 10000 62 _ _).run Tryz.prog w=_
   rw [run_equalIn_agg w 9999 62 _ _ (by kernel_rfl) (by kernel_rfl)]
   simp [Op.eqFields,part,go_sem]
   repeat' split
   all_goals (refine congrArg (fun q=>Result.ok q w) ?_; symm; simp_all [Prod.ext_iff]))
  (fun e k w=>by rw [Instr.checkKey]; simp [run_underlying Tryz.underlying62,part,go_sem,aLw (n:=9998) Tryz.underlying3]) (fun k=>by simp [Instr.sameBits])

theorem aRi:iY Tryz.prog 102=some ([.slice none 0 0,.slice none 0 0,.slice none 0 0,.slice none 0 0,i6 0,i6 0,.slice none 0 0,.map none],[(0,7),(7,1)]):=by kernel_rfl

theorem aDf:En Tryz.prog 23:=En.of Tryz.func23 (by kernel_rfl) (by kernel_rfl)

theorem sQ:∀ (q:Addr) (w:World),(Instr.fieldAt 102 (.pointer (some q)) 0).run Tryz.prog w=.ok (.pointer (some (q.add 0))) w:=fun _ _=>by kernel_rfl

theorem aO4:(Tryz.prog.info? 65).map (·.zero)=some (some (.agg #[i6 0,i6 0,i6 0])):=by kernel_rfl

theorem aFy:(Tryz.prog.info? 27).map (·.zero)=some (some (.agg #[i6 0,i6 0])):=by kernel_rfl

theorem zr_4:(Tryz.prog.info? 4).map (·.zero)=some (some (.bool false)):=by kernel_rfl

theorem zr_24:(Tryz.prog.info? 24).map (·.zero)=some (some (.slice none 0 0)):=by kernel_rfl

theorem vB:ScT Tryz.prog 71:=⟨⟨_,Tryz.underlying71,trivial⟩,by kernel_rfl⟩

theorem aQ0:En Tryz.prog 100:=En.of Tryz.func100 (by kernel_rfl) (by kernel_rfl)

theorem yC:(Tryz.prog.info? 4).map (·.size)=some 1:=by kernel_rfl

theorem aJi:ScT Tryz.prog 4:=⟨⟨_,Tryz.underlying4,trivial⟩,by kernel_rfl⟩

theorem aP5:En Tryz.prog 65:=En.of Tryz.func65 (by kernel_rfl) (by kernel_rfl)

theorem bt_62:iY Tryz.prog 62=some ([i6 0,i6 0],[(0,1),(1,1)]):=by kernel_rfl

theorem aKg:SlT Tryz.prog 49 62 2 16 (.agg #[i6 0,i6 0]):=SlT.of Tryz.underlying49 (by kernel_rfl) (by decide)

theorem aKb:En Tryz.prog 34:=En.of Tryz.func34 (by kernel_rfl) (by kernel_rfl)

theorem en_19:En Tryz.prog 19:=En.of Tryz.func19 (by kernel_rfl) (by kernel_rfl)

theorem gG:(Tryz.prog.info? 62).map (·.size)=some 2:=by kernel_rfl

theorem jE:yL Tryz.prog 62 2:=⟨⟨_,Tryz.underlying62,trivial⟩,by kernel_rfl⟩

theorem ge_62:Tryz.prog.eqGuardType Tryz.prog.depth 62=false:=by kernel_rfl

theorem aRj (x0:Int) (x1:Int) (y0:Int) (y1:Int) (w:World):(Op.equalIn 10000 62 (.agg #[i6 x0,i6 x1]) (.agg #[i6 y0,i6 y1])).run Tryz.prog w=.ok (x0 == y0 && x1 == y1) w:=by
 rw [run_equalIn_agg w 9999 62 _ _ (by kernel_rfl) (by kernel_rfl)]
 simp [Op.eqFields,part,go_sem]
 repeat' split
 all_goals simp_all

theorem en_67:En Tryz.prog 67:=En.of Tryz.func67 (by kernel_rfl) (by kernel_rfl)

theorem aN2:En Tryz.prog 64:=En.of Tryz.func64 (by kernel_rfl) (by kernel_rfl)

theorem aP3:En Tryz.prog 66:=En.of Tryz.func66 (by kernel_rfl) (by kernel_rfl)

theorem en_40:En Tryz.prog 40:=En.of Tryz.func40 (by kernel_rfl) (by kernel_rfl)

theorem aEd:∀ (q:Addr) (w:World),(Instr.fieldAt 102 (.pointer (some q)) 1).run Tryz.prog w=.ok (.pointer (some (q.add 7))) w:=fun _ _=>by kernel_rfl

theorem aIy:ScT Tryz.prog 100:=⟨⟨_,Tryz.underlying100,trivial⟩,by kernel_rfl⟩

theorem aJw:(Tryz.prog.info? 23).map (·.zero)=some (some (.slice none 0 0)):=by kernel_rfl

theorem aB7:∀ (q:Addr) (w:World),(Instr.fieldAt 62 (.pointer (some q)) 1).run Tryz.prog w=.ok (.pointer (some (q.add 1))) w:=fun _ _=>by kernel_rfl

theorem aO1:∀ (q:Addr) (w:World),(Instr.fieldAt 62 (.pointer (some q)) 0).run Tryz.prog w=.ok (.pointer (some (q.add 0))) w:=fun _ _=>by kernel_rfl

theorem aH7:En Tryz.prog 37:=En.of Tryz.func37 (by kernel_rfl) (by kernel_rfl)

theorem en_41:En Tryz.prog 41:=En.of Tryz.func41 (by kernel_rfl) (by kernel_rfl)

theorem en_20:En Tryz.prog 20:=En.of Tryz.func20 (by kernel_rfl) (by kernel_rfl)

theorem en_21:En Tryz.prog 21:=En.of Tryz.func21 (by kernel_rfl) (by kernel_rfl)

theorem en_4:En Tryz.prog 4:=En.of Tryz.func4 (by kernel_rfl) (by kernel_rfl)

theorem zr_96:(Tryz.prog.info? 96).map (·.zero)=some (some (.nilFunc)):=by kernel_rfl

theorem sz_96:(Tryz.prog.info? 96).map (·.size)=some 1:=by kernel_rfl

theorem sc_97:ScT Tryz.prog 97:=⟨⟨_,Tryz.underlying97,trivial⟩,by kernel_rfl⟩

theorem aLx:ScT Tryz.prog 96:=⟨⟨_,Tryz.underlying96,trivial⟩,by kernel_rfl⟩

theorem en_44:En Tryz.prog 44:=En.of Tryz.func44 (by kernel_rfl) (by kernel_rfl)

theorem en_75:En Tryz.prog 75:=En.of Tryz.func75 (by kernel_rfl) (by kernel_rfl)

theorem en_43:En Tryz.prog 43:=En.of Tryz.func43 (by kernel_rfl) (by kernel_rfl)

theorem aRg:(Tryz.prog.info? 107).map (·.zero)=some (some (.nilFunc)):=by kernel_rfl

theorem aQ8:(Tryz.prog.info? 107).map (·.size)=some 1:=by kernel_rfl

theorem aMt:ScT Tryz.prog 107:=⟨⟨_,Tryz.underlying107,trivial⟩,by kernel_rfl⟩

theorem aO7:En Tryz.prog 45:=En.of Tryz.func45 (by kernel_rfl) (by kernel_rfl)

theorem aQg:En Tryz.prog 78:=En.of Tryz.func78 (by kernel_rfl) (by kernel_rfl)

theorem en_49:En Tryz.prog 49:=En.of Tryz.func49 (by kernel_rfl) (by kernel_rfl)

theorem aKi:En Tryz.prog 48:=En.of Tryz.func48 (by kernel_rfl) (by kernel_rfl)

theorem aNs:En Tryz.prog 104:=En.of Tryz.func104 (by kernel_rfl) (by kernel_rfl)

theorem aI0:En Tryz.prog 144:=En.of Tryz.func144 (by kernel_rfl) (by kernel_rfl)

theorem aQx:En Tryz.prog 131:=En.of Tryz.func131 (by kernel_rfl) (by kernel_rfl)

theorem aGz:En Tryz.prog 105:=En.of Tryz.func105 (by kernel_rfl) (by kernel_rfl)

theorem en_77:En Tryz.prog 77:=En.of Tryz.func77 (by kernel_rfl) (by kernel_rfl)

theorem en_47:En Tryz.prog 47:=En.of Tryz.func47 (by kernel_rfl) (by kernel_rfl)

theorem aIi:(Tryz.prog.info? 90).map (·.zero)=some (some (.agg (bR [] 12 cG (fun _=>false) []).toArray)):=by kernel_rfl

theorem aLy:(Tryz.prog.info? 62).map (·.zero)=some (some (.agg #[i6 0,i6 0])):=by kernel_rfl

theorem en_50:En Tryz.prog 50:=En.of Tryz.func50 (by kernel_rfl) (by kernel_rfl)

theorem en_24:En Tryz.prog 24:=En.of Tryz.func24 (by kernel_rfl) (by kernel_rfl)

theorem en_7:En Tryz.prog 7:=En.of Tryz.func7 (by kernel_rfl) (by kernel_rfl)

theorem aC2:iY Tryz.prog 116=some ([.slice none 0 0,i6 0,i6 0],[(0,1),(1,1),(2,1)]):=by kernel_rfl

@[reducible] def jV:Kd aM:=Kd.comp (kL aB 3 1) (fun x=>x.Of) (fun h x=>[.slice h.1 x.Of.length h.2,i6 x.Base,i6 x.Minutes])
theorem aO0:aAh jV:=aAh.comp (aKu _ _ _) _ _
theorem aRb:∀ r,(jV.v r).length=3∧oQ (jV.v r)=true:=fun _=>⟨rfl,rfl⟩

theorem sl_77:SlT Tryz.prog 77 116 3 40 (.agg #[.slice none 0 0,i6 0,i6 0]):=SlT.of Tryz.underlying77 (by kernel_rfl) (by decide)

theorem en_26:En Tryz.prog 26:=En.of Tryz.func26 (by kernel_rfl) (by kernel_rfl)

theorem aG5:(Tryz.prog.info? 112).map (·.zero)=some (some (.agg (bR [] 30 cG (fun _=>false) []).toArray)):=by kernel_rfl

theorem aEe:ScT Tryz.prog 77:=⟨⟨_,Tryz.underlying77,trivial⟩,by kernel_rfl⟩

theorem aEa:En Tryz.prog 121:=En.of Tryz.func121 (by kernel_rfl) (by kernel_rfl)

theorem aCe:(Tryz.prog.info? 116).map (·.size)=some 3:=by kernel_rfl

theorem aIz:yL Tryz.prog 116 3:=⟨⟨_,Tryz.underlying116,trivial⟩,by kernel_rfl⟩

theorem aRr:ScT Tryz.prog 195:=⟨⟨_,Tryz.underlying195,trivial⟩,by kernel_rfl⟩

theorem uM:∀ (q:Addr) (w:World),(Instr.fieldAt 116 (.pointer (some q)) 0).run Tryz.prog w=.ok (.pointer (some (q.add 0))) w:=fun _ _=>by kernel_rfl

theorem aRl:En Tryz.prog 138:=En.of Tryz.func138 (by kernel_rfl) (by kernel_rfl)

theorem aRp:En Tryz.prog 147:=En.of Tryz.func147 (by kernel_rfl) (by kernel_rfl)

theorem aRm:En Tryz.prog 148:=En.of Tryz.func148 (by kernel_rfl) (by kernel_rfl)

theorem aQi:En Tryz.prog 146:=En.of Tryz.func146 (by kernel_rfl) (by kernel_rfl)

theorem aRs:En Tryz.prog 137:=En.of Tryz.func137 (by kernel_rfl) (by kernel_rfl)

theorem aQ3:(Tryz.prog.info? 116).map (·.zero)=some (some (.agg #[.slice none 0 0,i6 0,i6 0])):=by kernel_rfl

theorem aMa:∀ (q:Addr) (w:World),(Instr.fieldAt 116 (.pointer (some q)) 1).run Tryz.prog w=.ok (.pointer (some (q.add 1))) w:=fun _ _=>by kernel_rfl

theorem aNa:∀ (q:Addr) (w:World),(Instr.fieldAt 116 (.pointer (some q)) 2).run Tryz.prog w=.ok (.pointer (some (q.add 2))) w:=fun _ _=>by kernel_rfl

theorem aRc:En Tryz.prog 139:=En.of Tryz.func139 (by kernel_rfl) (by kernel_rfl)

theorem aJa:En Tryz.prog 141:=En.of Tryz.func141 (by kernel_rfl) (by kernel_rfl)

theorem aJg:En Tryz.prog 119:=En.of Tryz.func119 (by kernel_rfl) (by kernel_rfl)

theorem aQ4:En Tryz.prog 117:=En.of Tryz.func117 (by kernel_rfl) (by kernel_rfl)

theorem aQm:iY Tryz.prog 178=some ([.slice none 0 0],[(0,1)]):=by kernel_rfl

theorem aQs:iY Tryz.prog 180=some ([.slice none 0 0],[(0,1)]):=by kernel_rfl

theorem aIk:∀ (q:Addr) (w:World),(Instr.fieldAt 180 (.pointer (some q)) 0).run Tryz.prog w=.ok (.pointer (some (q.add 0))) w:=fun _ _=>by kernel_rfl

theorem aHr:∀ (q:Addr) (w:World),(Instr.fieldAt 178 (.pointer (some q)) 0).run Tryz.prog w=.ok (.pointer (some (q.add 0))) w:=fun _ _=>by kernel_rfl

theorem aMh:En Tryz.prog 140:=En.of Tryz.func140 (by kernel_rfl) (by kernel_rfl)

theorem aQh:En Tryz.prog 118:=En.of Tryz.func118 (by kernel_rfl) (by kernel_rfl)

theorem aQf:En Tryz.prog 81:=En.of Tryz.func81 (by kernel_rfl) (by kernel_rfl)

theorem aQ1:En Tryz.prog 120:=En.of Tryz.func120 (by kernel_rfl) (by kernel_rfl)

theorem aPi:En Tryz.prog 82:=En.of Tryz.func82 (by kernel_rfl) (by kernel_rfl)

@[reducible] def sP (x:Nat→Bool):List Value:=bR [] 30 cG x []
theorem dE:∀ x,(sP x).length=30∧oQ (sP x)=true:=fun x=>⟨(aBo mD 30 x).1.trans (by decide),(aBo mD 30 x).2⟩

theorem zF:yL Tryz.prog 112 30:=⟨⟨_,Tryz.underlying112,trivial⟩,by kernel_rfl⟩

theorem aCn:(Tryz.prog.info? 112).map (·.size)=some 30:=by kernel_rfl

theorem en_83:En Tryz.prog 83:=En.of Tryz.func83 (by kernel_rfl) (by kernel_rfl)

theorem aP9:En Tryz.prog 51:=En.of Tryz.func51 (by kernel_rfl) (by kernel_rfl)

theorem en_25:En Tryz.prog 25:=En.of Tryz.func25 (by kernel_rfl) (by kernel_rfl)

theorem aP7:(Tryz.prog.info? 43).map (·.zero)=some (some (.agg #[.slice none 0 0,.slice none 0 0])):=by kernel_rfl

@[reducible] def cL:Kd (List Int):=kL aB 3 1
theorem aG3:aAh cL:=aKu _ _ _
theorem aC3:∀ r,(cL.v r).length=1∧oQ (cL.v r)=true:=fun _=>⟨rfl,rfl⟩

theorem aMr:SlT Tryz.prog 40 23 1 24 (.slice none 0 0):=SlT.of Tryz.underlying40 (by kernel_rfl) (by decide)

theorem aL6:iY Tryz.prog 46=some ([i6 0,.slice none 0 0],[(0,1),(1,1)]):=by kernel_rfl

@[reducible] def dP:Kd aJ:=Kd.comp (kL aB 3 1) (fun x=>x.Order) (fun h x=>[i6 x.Places,.slice h.1 x.Order.length h.2])
theorem aJl:aAh dP:=aAh.comp (aKu _ _ _) _ _
theorem aLh:∀ r,(dP.v r).length=2∧oQ (dP.v r)=true:=fun _=>⟨rfl,rfl⟩

theorem aN5:SlT Tryz.prog 41 46 2 32 (.agg #[i6 0,.slice none 0 0]):=SlT.of Tryz.underlying41 (by kernel_rfl) (by decide)

theorem bt_43:iY Tryz.prog 43=some ([.slice none 0 0,.slice none 0 0],[(0,1),(1,1)]):=by kernel_rfl

theorem sz_43:(Tryz.prog.info? 43).map (·.size)=some 2:=by kernel_rfl

theorem aFl:yL Tryz.prog 43 2:=⟨⟨_,Tryz.underlying43,trivial⟩,by kernel_rfl⟩

theorem en_27:En Tryz.prog 27:=En.of Tryz.func27 (by kernel_rfl) (by kernel_rfl)

theorem oM:∀ (q:Addr) (w:World),(Instr.fieldAt 43 (.pointer (some q)) 0).run Tryz.prog w=.ok (.pointer (some (q.add 0))) w:=fun _ _=>by kernel_rfl

theorem wA:ScT Tryz.prog 40:=⟨⟨_,Tryz.underlying40,trivial⟩,by kernel_rfl⟩

theorem aHx:En Tryz.prog 86:=En.of Tryz.func86 (by kernel_rfl) (by kernel_rfl)

theorem tK:∀ (q:Addr) (w:World),(Instr.fieldAt 43 (.pointer (some q)) 1).run Tryz.prog w=.ok (.pointer (some (q.add 1))) w:=fun _ _=>by kernel_rfl

theorem aDb:ScT Tryz.prog 41:=⟨⟨_,Tryz.underlying41,trivial⟩,by kernel_rfl⟩

theorem aM4:ScT Tryz.prog 155:=⟨⟨_,Tryz.underlying155,trivial⟩,by kernel_rfl⟩

theorem en_90:En Tryz.prog 90:=En.of Tryz.func90 (by kernel_rfl) (by kernel_rfl)

theorem aNr:En Tryz.prog 125:=En.of Tryz.func125 (by kernel_rfl) (by kernel_rfl)

theorem aPa:En Tryz.prog 89:=En.of Tryz.func89 (by kernel_rfl) (by kernel_rfl)

theorem en_88:En Tryz.prog 88:=En.of Tryz.func88 (by kernel_rfl) (by kernel_rfl)

theorem aMc:En Tryz.prog 124:=En.of Tryz.func124 (by kernel_rfl) (by kernel_rfl)

theorem aMi:En Tryz.prog 142:=En.of Tryz.func142 (by kernel_rfl) (by kernel_rfl)

theorem aNq:En Tryz.prog 123:=En.of Tryz.func123 (by kernel_rfl) (by kernel_rfl)

theorem aPv:En Tryz.prog 87:=En.of Tryz.func87 (by kernel_rfl) (by kernel_rfl)

theorem aHh:(Tryz.prog.info? 46).map (·.size)=some 2:=by kernel_rfl

theorem aIa:yL Tryz.prog 46 2:=⟨⟨_,Tryz.underlying46,trivial⟩,by kernel_rfl⟩

theorem aLu:ScT Tryz.prog 157:=⟨⟨_,Tryz.underlying157,trivial⟩,by kernel_rfl⟩

theorem aKq:∀ (q:Addr) (w:World),(Instr.fieldAt 46 (.pointer (some q)) 0).run Tryz.prog w=.ok (.pointer (some (q.add 0))) w:=fun _ _=>by kernel_rfl

theorem aGj:∀ (q:Addr) (w:World),(Instr.fieldAt 46 (.pointer (some q)) 1).run Tryz.prog w=.ok (.pointer (some (q.add 1))) w:=fun _ _=>by kernel_rfl

theorem en_93:En Tryz.prog 93:=En.of Tryz.func93 (by kernel_rfl) (by kernel_rfl)

theorem en_92:En Tryz.prog 92:=En.of Tryz.func92 (by kernel_rfl) (by kernel_rfl)

theorem aNx:En Tryz.prog 127:=En.of Tryz.func127 (by kernel_rfl) (by kernel_rfl)

theorem aL3:En Tryz.prog 143:=En.of Tryz.func143 (by kernel_rfl) (by kernel_rfl)

theorem aNp:En Tryz.prog 126:=En.of Tryz.func126 (by kernel_rfl) (by kernel_rfl)

theorem aP4:En Tryz.prog 91:=En.of Tryz.func91 (by kernel_rfl) (by kernel_rfl)

theorem aP2:En Tryz.prog 94:=En.of Tryz.func94 (by kernel_rfl) (by kernel_rfl)

theorem en_95:En Tryz.prog 95:=En.of Tryz.func95 (by kernel_rfl) (by kernel_rfl)

theorem en_57:En Tryz.prog 57:=En.of Tryz.func57 (by kernel_rfl) (by kernel_rfl)

theorem aRt:iY Tryz.prog 127=some ((bR [.slice none 0 0,.slice none 0 0] 144 aB (fun _=>0) []),[(0,2),(2,144)]):=by kernel_rfl

theorem zr_46:(Tryz.prog.info? 46).map (·.zero)=some (some (.agg #[i6 0,.slice none 0 0])):=by kernel_rfl

theorem aBt:∀ (q:Addr) (w:World),(Instr.fieldAt 127 (.pointer (some q)) 1).run Tryz.prog w=.ok (.pointer (some (q.add 2))) w:=fun _ _=>by kernel_rfl

theorem aGi:(Tryz.prog.info? 124).map (·.size)=some 12:=by kernel_rfl

theorem aPp:En Tryz.prog 29:=En.of Tryz.func29 (by kernel_rfl) (by kernel_rfl)

theorem yX:ScT Tryz.prog 82:=⟨⟨_,Tryz.underlying82,trivial⟩,by kernel_rfl⟩

theorem uG:∀ (q:Addr) (w:World),(Instr.fieldAt 127 (.pointer (some q)) 0).run Tryz.prog w=.ok (.pointer (some (q.add 0))) w:=fun _ _=>by kernel_rfl

@[reducible] def bF:Kd (Option (List (Int × Bool))):=kM Value.bool
theorem aD0:∀ r,(bF.v r).length=1∧oQ (bF.v r)=true:=aQv _

theorem aRq:SlT Tryz.prog 128 129 1 8 (.map none):=SlT.of Tryz.underlying128 (by kernel_rfl) (by decide)

theorem aQ7:(Tryz.prog.info? 128).map (·.zero)=some (some (.slice none 0 0)):=by kernel_rfl

theorem aQl:(Tryz.prog.info? 128).map (·.size)=some 1:=by kernel_rfl

theorem aCs:ScT Tryz.prog 128:=⟨⟨_,Tryz.underlying128,trivial⟩,by kernel_rfl⟩

theorem aCz:(Tryz.prog.info? 129).map (·.size)=some 1:=by kernel_rfl

theorem en_96:En Tryz.prog 96:=En.of Tryz.func96 (by kernel_rfl) (by kernel_rfl)

theorem en_58:En Tryz.prog 58:=En.of Tryz.func58 (by kernel_rfl) (by kernel_rfl)

theorem zr_85:(Tryz.prog.info? 85).map (·.zero)=some (some (.slice none 0 0)):=by kernel_rfl

theorem aQt:(Tryz.prog.info? 131).map (·.zero)=some (some (.nilFunc)):=by kernel_rfl

theorem aRe:(Tryz.prog.info? 131).map (·.size)=some 1:=by kernel_rfl

theorem aNt:ScT Tryz.prog 131:=⟨⟨_,Tryz.underlying131,trivial⟩,by kernel_rfl⟩

theorem en_60:En Tryz.prog 60:=En.of Tryz.func60 (by kernel_rfl) (by kernel_rfl)

theorem aPj:En Tryz.prog 98:=En.of Tryz.func98 (by kernel_rfl) (by kernel_rfl)

theorem aN4:ScT Tryz.prog 85:=⟨⟨_,Tryz.underlying85,trivial⟩,by kernel_rfl⟩

theorem aQ2:(Tryz.prog.info? 137).map (·.size)=some 2:=by kernel_rfl

theorem aMu:yL Tryz.prog 137 2:=⟨⟨_,Tryz.underlying137,trivial⟩,by kernel_rfl⟩

theorem aNb:iY Tryz.prog 137=some ([i6 0,i6 0],[(0,1),(1,1)]):=by kernel_rfl

theorem aRd:Tryz.prog.eqGuardType Tryz.prog.depth 137=false:=by kernel_rfl

theorem aOj (x0:Int) (x1:Int) (y0:Int) (y1:Int) (w:World):(Op.equalIn 10000 137 (.agg #[i6 x0,i6 x1]) (.agg #[i6 y0,i6 y1])).run Tryz.prog w=.ok (x0 == y0 && x1 == y1) w:=by
 rw [run_equalIn_agg w 9999 137 _ _ (by kernel_rfl) (by kernel_rfl)]
 simp [Op.eqFields,part,go_sem]
 repeat' split
 all_goals simp_all

theorem en_62:En Tryz.prog 62:=En.of Tryz.func62 (by kernel_rfl) (by kernel_rfl)

theorem en_99:En Tryz.prog 99:=En.of Tryz.func99 (by kernel_rfl) (by kernel_rfl)

theorem en_61:En Tryz.prog 61:=En.of Tryz.func61 (by kernel_rfl) (by kernel_rfl)

theorem aHc:ScT Tryz.prog 129:=⟨⟨_,Tryz.underlying129,trivial⟩,by kernel_rfl⟩

theorem aPc:SlT Tryz.prog 85 137 2 16 (.agg #[i6 0,i6 0]):=SlT.of Tryz.underlying85 (by kernel_rfl) (by decide)

theorem sz_85:(Tryz.prog.info? 85).map (·.size)=some 1:=by kernel_rfl

theorem aPk:En Tryz.prog 59:=En.of Tryz.func59 (by kernel_rfl) (by kernel_rfl)

theorem en_97:En Tryz.prog 97:=En.of Tryz.func97 (by kernel_rfl) (by kernel_rfl)

theorem en_30:En Tryz.prog 30:=En.of Tryz.func30 (by kernel_rfl) (by kernel_rfl)

theorem aN3:En Tryz.prog 10:=En.of Tryz.func10 (by kernel_rfl) (by kernel_rfl)

theorem aMz:En Tryz.prog 53:=En.of Tryz.func53 (by kernel_rfl) (by kernel_rfl)

theorem en_85:En Tryz.prog 85:=En.of Tryz.func85 (by kernel_rfl) (by kernel_rfl)

theorem aRa:En Tryz.prog 122:=En.of Tryz.func122 (by kernel_rfl) (by kernel_rfl)

theorem en_84:En Tryz.prog 84:=En.of Tryz.func84 (by kernel_rfl) (by kernel_rfl)

theorem en_52:En Tryz.prog 52:=En.of Tryz.func52 (by kernel_rfl) (by kernel_rfl)

theorem en_54:En Tryz.prog 54:=En.of Tryz.func54 (by kernel_rfl) (by kernel_rfl)

theorem aJe:(Tryz.prog.info? 120).map (·.zero)=some (some (.agg #[i6 0,i6 0])):=by kernel_rfl

theorem aI9:iY Tryz.prog 120=some ([i6 0,i6 0],[(0,1),(1,1)]):=by kernel_rfl

theorem aCh:(Tryz.prog.info? 120).map (·.size)=some 2:=by kernel_rfl

theorem yG:yL Tryz.prog 120 2:=⟨⟨_,Tryz.underlying120,trivial⟩,by kernel_rfl⟩

theorem aO9:En Tryz.prog 55:=En.of Tryz.func55 (by kernel_rfl) (by kernel_rfl)

theorem aQp:Tryz.prog.eqGuardType Tryz.prog.depth 120=false:=by kernel_rfl

theorem aOi (x0:Int) (x1:Int) (y0:Int) (y1:Int) (w:World):(Op.equalIn 10000 120 (.agg #[i6 x0,i6 x1]) (.agg #[i6 y0,i6 y1])).run Tryz.prog w=.ok (x0 == y0 && x1 == y1) w:=by
 rw [run_equalIn_agg w 9999 120 _ _ (by kernel_rfl) (by kernel_rfl)]
 simp [Op.eqFields,part,go_sem]
 repeat' split
 all_goals simp_all

theorem aHz:∀ (q:Addr) (w:World),(Instr.fieldAt 120 (.pointer (some q)) 0).run Tryz.prog w=.ok (.pointer (some (q.add 0))) w:=fun _ _=>by kernel_rfl

theorem aHi:∀ (q:Addr) (w:World),(Instr.fieldAt 120 (.pointer (some q)) 1).run Tryz.prog w=.ok (.pointer (some (q.add 1))) w:=fun _ _=>by kernel_rfl

theorem en_56:En Tryz.prog 56:=En.of Tryz.func56 (by kernel_rfl) (by kernel_rfl)

theorem en_28:En Tryz.prog 28:=En.of Tryz.func28 (by kernel_rfl) (by kernel_rfl)

theorem aJ0:En Tryz.prog 13:=En.of Tryz.func13 (by kernel_rfl) (by kernel_rfl)

theorem en_8:En Tryz.prog 8:=En.of Tryz.func8 (by kernel_rfl) (by kernel_rfl)

theorem en_9:En Tryz.prog 9:=En.of Tryz.func9 (by kernel_rfl) (by kernel_rfl)

theorem sz_40:(Tryz.prog.info? 40).map (·.size)=some 1:=by kernel_rfl

theorem sz_41:(Tryz.prog.info? 41).map (·.size)=some 1:=by kernel_rfl

@[reducible] def vE (x:Nat→Bool):List Value:=bR [] 12 cG x []
theorem eF:∀ x,(vE x).length=12∧oQ (vE x)=true:=fun x=>⟨(aBo mD 12 x).1.trans (by decide),(aBo mD 12 x).2⟩

theorem aDc:yL Tryz.prog 90 12:=⟨⟨_,Tryz.underlying90,trivial⟩,by kernel_rfl⟩

theorem aF2:(Tryz.prog.info? 90).map (·.size)=some 12:=by kernel_rfl

theorem aPm:En Tryz.prog 32:=En.of Tryz.func32 (by kernel_rfl) (by kernel_rfl)

theorem aPn:(Tryz.prog.info? 71).map (·.zero)=some (some (.pointer none)):=by kernel_rfl

theorem aO3:(Tryz.prog.info? 71).map (·.size)=some 1:=by kernel_rfl

theorem en_38:En Tryz.prog 38:=En.of Tryz.func38 (by kernel_rfl) (by kernel_rfl)

theorem aPu:En Tryz.prog 35:=En.of Tryz.func35 (by kernel_rfl) (by kernel_rfl)

theorem en_33:En Tryz.prog 33:=En.of Tryz.func33 (by kernel_rfl) (by kernel_rfl)

theorem aQa:En Tryz.prog 12:=En.of Tryz.func12 (by kernel_rfl) (by kernel_rfl)

theorem aO5:En Tryz.prog 16:=En.of Tryz.func16 (by kernel_rfl) (by kernel_rfl)

theorem aQb:En Tryz.prog 17:=En.of Tryz.func17 (by kernel_rfl) (by kernel_rfl)

theorem en_15:En Tryz.prog 15:=En.of Tryz.func15 (by kernel_rfl) (by kernel_rfl)

theorem en_18:En Tryz.prog 18:=En.of Tryz.func18 (by kernel_rfl) (by kernel_rfl)

def aBe (N:Nat) (B:List Int):Option (Int × Int) :=
 some (0,0)
theorem aEf {N:Nat} {G:aT} {Lf:List Ent} {w:World} (H:List Int) {B:Option Addr} {D:Nat} (M:Rd G 1 B D (H.map tI)) (hc:Ctx G (Lf) w) {I:Int × Int} (hF:aBe N H=some I):Calls Tryz.prog 6 #[.slice B H.length D] w (fun e w=>∃ (J:Nat),e=.returned (pq J)∧Ctx G (.box J [.slice B H.length D,i6 I.1,i6 I.2] 70::Lf) w):=by
 unfold aBe at hF
 refine bL Tryz.func6 rfl Tryz.ntmps6 rfl fun a hf=>zS fun K h=>sp 1 hf rfl fun a hf=>zT h ?_
 refine zS fun K h=>sp 1 hf rfl fun a hf=>zP hf rfl (iF (cells:=[.slice B H.length D,i6 0,i6 0]) bt_70 rfl rfl) fun a hf=>zB hf hc rfl fun O a w hf hc=>sp 1 hf rfl fun a hf=>zT h ?_
 refine wp_ret ?_
 obtain rfl:=sj hF
 exact zO1 Tryz.results6 hf rfl ⟨O,rfl,hc⟩

def iQ (N:Nat) (s_:aZ) (n:Int) (B:Int) (D:Int):Option (Int × Int × Int) :=
 Option.bind (nz n) fun H=>
 some (D.tmod n,W (s_.used + 1),(W ((W ((W (5 * s_.mix)) + B)) + 1)).tmod 251)
def iR (N:Nat) (s_:aZ) (n:Int) (B:Int):Option (Int × Int × Int) :=
 cond (decide (256 < n))
 (iQ N s_ n B (W ((W (256 * B)) + ((W ((W ((W (5 * s_.mix)) + B)) + 1)).tmod 251))))
 (iQ N s_ n B B)
def bW (N:Nat) (s_:aZ) (n:Int):Option (Int × Int × Int) :=
 cond ((decide (n < 2)) || (((s_.bytes.length:Nat):Int) == 0))
 (some (0,s_.used,s_.mix))
 (Option.bind (nz ((s_.bytes.length:Nat):Int)) fun un=>
 Option.bind (bE s_.bytes (s_.used.tmod ((s_.bytes.length:Nat):Int))) fun B=>
 cond (decide (((s_.bytes.length:Nat):Int)≤s_.used))
 (Option.bind (nz ((s_.bytes.length:Nat):Int)) fun D=>
 iR N s_ n (W ((W (B)) + (W ((W (11 * s_.mix)) + (W (s_.used.tdiv ((s_.bytes.length:Nat):Int))))))))
 (iR N s_ n (W (B))))
theorem cJ {N:Nat} {G:aT} {Lf:List Ent} {w:World} (s_:aZ) (n:Int) {b_:Nat} {B:Option Addr} {D:Nat} (J:Rd G 1 B D (s_.bytes.map tI)) (hc:Ctx G (.box b_ [.slice B s_.bytes.length D,i6 s_.used,i6 s_.mix] 70::Lf) w) {I:Int × Int × Int} (hF:bW N s_ n=some I):Calls Tryz.prog 14 #[pq b_,i6 n] w (fun e w=>e=.returned (i6 I.1)∧Ctx G (.box b_ [.slice B s_.bytes.length D,i6 I.2.1,i6 I.2.2] 70::Lf) w):=by
 unfold bW at hF
 refine bL Tryz.func14 rfl Tryz.ntmps14 rfl fun a hf=>zS fun K h=>sp 1 hf rfl fun a hf=>zT h ?_
 refine wp_seq_k fun K2 h2=>zS fun K h=>sp 3 hf rfl fun a hf=>jX 7 (fun a=>Has 92 a [(0,pq b_),(1,i6 n),(6,i6 n),(7,.bool (decide (n < 2))),(8,.bool (decide (n < 2))),(15,.bool ((decide (n < 2)) || (((s_.bytes.length:Nat):Int) == 0)))]) hc ?_ ?_
 ·cases hb:(decide (n < 2))
  ·rw [hb] at hf
   refine sp 2 hf rfl fun a hf=>zP hf rfl (pFA aBv rfl) fun a hf=>zL hf hc aHs m0 rfl fun a w hf hc=>zP hf rfl (bG Tryz.underlying22 rfl) fun a hf=>sp 2 hf rfl fun a hf=>aP ⟨hf.kp rfl,hc⟩
  ·rw [hb] at hf
   refine stS hf rfl rfl rfl fun a hf=>stS hf rfl rfl rfl fun a hf=>stS hf rfl rfl rfl fun a hf=>stS hf rfl rfl rfl fun a hf=>stS hf rfl rfl rfl fun a hf=>stS hf rfl rfl rfl fun a hf=>sp 1 hf rfl fun a hf=>aP ⟨hf.kp rfl,hc⟩
 intro a w ⟨hf,hc⟩
 refine zT h ?_
 refine zI hf rfl hF ?_ ?_ <;> clear hF <;> intro hF
 ·refine zS fun K h=>sp 1 hf rfl fun a hf=>zT h ?_
  refine wp_ret ?_
  refine aL ?_
  obtain rfl:=sj hF
  exact zO1 Tryz.results14 hf rfl ⟨rfl,hc⟩
 ·refine wp_skip ?_
  refine h2 _ _ ?_
  refine wp_seq_k fun K5 h5=>?_
  obtain ⟨un,Y,hF⟩:=aA hF
  obtain ⟨S,X,hF⟩:=aA hF
  obtain ⟨g,o,qa,qp⟩:=J.atm X
  refine cQ hc bA (by kernel_rfl) ?_
  refine qE hf rfl rfl rfl (Pu.ev (pM rfl)) fun a hf=>qE hf rfl rfl rfl (Pu.ev (pNC rfl)) fun a hf=>qE hf rfl rfl rfl (Pu.ev (pFA aBv rfl)) fun a hf=>qE hf rfl rfl rfl (eP aHs rfl (iA m0 rfl)) fun a hf=>qE hf rfl rfl rfl (Pu.ev (pM rfl)) fun a hf=>qE hf rfl rfl rfl (Pu.ev (pNC rfl)) fun a hf=>qE hf rfl rfl rfl (Pu.ev (pFA aBr rfl)) fun a hf=>qE hf rfl rfl rfl (eP cR rfl (iA m0 rfl)) fun a hf=>qE hf rfl rfl rfl (Pu.ev (pM rfl)) fun a hf=>qE hf rfl rfl rfl (Pu.ev (pNC rfl)) fun a hf=>qE hf rfl rfl rfl (Pu.ev (pFA aBv rfl)) fun a hf=>qE hf rfl rfl rfl (eP aHs rfl (iA m0 rfl)) fun a hf=>qE hf rfl rfl rfl (Pu.ev (bG Tryz.underlying22 rfl)) fun a hf=>?_
  refine qE hf rfl rfl rfl (Pu.ev (pRem rfl rfl (aDs Y))) fun a hf=>qE hf rfl rfl rfl (Pu.ev (pIA Tryz.underlying22 sz_5 rfl rfl qa)) fun a hf=>qE hf rfl rfl rfl (eP sc_5 rfl (dI (j:=0) qp rfl)) fun a hf=>qE hf rfl rfl rfl (Pu.ev (pCv Tryz.underlying5 Tryz.underlying3 rfl)) fun a hf=>qE hf rfl rfl rfl (Pu.ev (pA rfl)) fun a hf=>?_
  intro w hc
  refine h5 _ _ ?_
  refine wp_seq_k fun K6 h6=>?_
  have U:∀ (H:Int) a w,Has 92 a [(0,pq b_),(1,i6 n),(5,i6 H)]→Ctx G (.box b_ [.slice B s_.bytes.length D,i6 s_.used,i6 s_.mix] 70::Lf) w→iR N s_ n H=some I→K6 a w:=by
   repeat (clear hF)
   repeat (clear hc)
   repeat (clear hf)
   intro H a w hf hc hF
   unfold iR at hF
   refine h6 _ _ ?_
   refine zS fun K h=>sp 3 hf rfl fun a hf=>zP hf rfl (pFA aDw rfl) fun a hf=>zL hf hc cR m0 rfl fun a w hf hc=>sp 4 hf rfl fun a hf=>zP hf rfl (pRem rfl rfl (by decide)) fun a hf=>sp 1 hf rfl fun a hf=>zP hf rfl (pFA aDw rfl) fun a hf=>zW hf hc fO u0 rfl fun w hc=>zT h ?_
   refine zS fun K h=>sp 2 hf rfl fun a hf=>zP hf rfl (pFA aBr rfl) fun a hf=>zL hf hc cR m0 rfl fun a w hf hc=>sp 2 hf rfl fun a hf=>zP hf rfl (pFA aBr rfl) fun a hf=>zW hf hc fO u0 rfl fun w hc=>zT h ?_
   refine wp_seq_k fun K9 h9=>?_
   have V:∀ (M:Int) a w,Has 92 a [(1,i6 n),(5,i6 M)]→Ctx G (.box b_ [.slice B s_.bytes.length D,i6 (W (s_.used + 1)),i6 ((W ((W ((W (5 * s_.mix)) + H)) + 1)).tmod 251)] 70::Lf) w→iQ N s_ n H M=some I→K9 a w:=by
    repeat (clear hF)
    repeat (clear hc)
    repeat (clear hf)
    intro M a w hf hc hF
    unfold iQ at hF
    refine h9 _ _ ?_
    refine zS fun K h=>sp 2 hf rfl fun a hf=>?_
    obtain ⟨d,R,hF⟩:=aA hF
    refine zP hf rfl (pRem rfl rfl (aDs R)) fun a hf=>sp 1 hf rfl fun a hf=>zT h ?_
    refine wp_ret ?_
    obtain rfl:=sj hF
    exact zO1 Tryz.results14 hf rfl ⟨rfl,hc⟩
   refine zS fun K h=>sp 2 hf rfl fun a hf=>zT h ?_
   refine zI hf rfl hF ?_ ?_ <;> clear hF <;> intro hF
   ·refine bV ?_
    refine sp 4 hf rfl fun a hf=>zP hf rfl (pFA aDw rfl) fun a hf=>zL hf hc cR m0 rfl fun a w hf hc=>sp 2 hf rfl fun a hf=>aP ?_
    exact V (W ((W (256 * H)) + ((W ((W ((W (5 * s_.mix)) + H)) + 1)).tmod 251))) _ _  (hf.kp rfl) hc hF
   ·refine wp_skip ?_
    exact V H _ _  (hf.kp rfl) hc hF
  refine wp_seq_k fun K12 Z=>cQ hc bA (by kernel_rfl) ?_
  refine qE hf rfl rfl rfl (Pu.ev (pM rfl)) fun a hf=>qE hf rfl rfl rfl (Pu.ev (pNC rfl)) fun a hf=>qE hf rfl rfl rfl (Pu.ev (pFA aBr rfl)) fun a hf=>qE hf rfl rfl rfl (eP cR rfl (iA m0 rfl)) fun a hf=>qE hf rfl rfl rfl (Pu.ev (pM rfl)) fun a hf=>qE hf rfl rfl rfl (Pu.ev (pNC rfl)) fun a hf=>qE hf rfl rfl rfl (Pu.ev (pFA aBv rfl)) fun a hf=>qE hf rfl rfl rfl (eP aHs rfl (iA m0 rfl)) fun a hf=>qE hf rfl rfl rfl (Pu.ev (bG Tryz.underlying22 rfl)) fun a hf=>qE hf rfl rfl rfl (Pu.ev (pGe rfl rfl)) fun a hf=>?_
  intro w hc
  refine Z _ _ ?_
  refine zI hf rfl hF ?_ ?_ <;> clear hF <;> intro hF
  ·obtain ⟨b,O,hF⟩:=aA hF
   refine cQ hc bA (by kernel_rfl) ?_
   refine qE hf rfl rfl rfl (Pu.ev (pM rfl)) fun a hf=>qE hf rfl rfl rfl (Pu.ev (pM rfl)) fun a hf=>qE hf rfl rfl rfl (Pu.ev (pNC rfl)) fun a hf=>qE hf rfl rfl rfl (Pu.ev (pFA aDw rfl)) fun a hf=>qE hf rfl rfl rfl (eP cR rfl (iA m0 rfl)) fun a hf=>qE hf rfl rfl rfl (Pu.ev (pMul rfl rfl)) fun a hf=>qE hf rfl rfl rfl (Pu.ev (pM rfl)) fun a hf=>qE hf rfl rfl rfl (Pu.ev (pNC rfl)) fun a hf=>qE hf rfl rfl rfl (Pu.ev (pFA aBr rfl)) fun a hf=>qE hf rfl rfl rfl (eP cR rfl (iA m0 rfl)) fun a hf=>qE hf rfl rfl rfl (Pu.ev (pM rfl)) fun a hf=>qE hf rfl rfl rfl (Pu.ev (pNC rfl)) fun a hf=>qE hf rfl rfl rfl (Pu.ev (pFA aBv rfl)) fun a hf=>?_
   refine qE hf rfl rfl rfl (eP aHs rfl (iA m0 rfl)) fun a hf=>qE hf rfl rfl rfl (Pu.ev (bG Tryz.underlying22 rfl)) fun a hf=>qE hf rfl rfl rfl (Pu.ev (pQuo rfl rfl (aDs O))) fun a hf=>qE hf rfl rfl rfl (Pu.ev (pAdd rfl rfl)) fun a hf=>qE hf rfl rfl rfl (Pu.ev (pAdd rfl rfl)) fun a hf=>qE hf rfl rfl rfl (Pu.ev (pA rfl)) fun a hf=>?_
   intro w hc
   exact U (W ((W (S)) + (W ((W (11 * s_.mix)) + (W (s_.used.tdiv ((s_.bytes.length:Nat):Int))))))) _ _  (hf.kp rfl) hc hF
  ·refine wp_skip ?_
   exact U (W (S)) _ _  (hf.kp rfl) hc hF

def jB (N:Nat) (s_:aZ) (lo:Int) (B:Int):Option (Int × Int × Int) :=
 Option.bind (bW N s_ (W ((W (B - lo)) + 1))) fun r=>
 some (W (lo + r.1),r.2.1,r.2.2)
theorem oU {N:Nat} {G:aT} {Lf:List Ent} {w:World} (s_:aZ) (lo:Int) (J:Int) {b_:Nat} {D:Option Addr} {B:Nat} (H:Rd G 1 D B (s_.bytes.map tI)) (hc:Ctx G (.box b_ [.slice D s_.bytes.length B,i6 s_.used,i6 s_.mix] 70::Lf) w) {I:Int × Int × Int} (hF:jB N s_ lo J=some I):Calls Tryz.prog 22 #[pq b_,i6 lo,i6 J] w (fun e w=>e=.returned (i6 I.1)∧Ctx G (.box b_ [.slice D s_.bytes.length B,i6 I.2.1,i6 I.2.2] 70::Lf) w):=by
 unfold jB at hF
 refine bL Tryz.func22 rfl Tryz.ntmps22 rfl fun a hf=>zS fun K h=>sp 1 hf rfl fun a hf=>zT h ?_
 refine zS fun K h=>sp 6 hf rfl fun a hf=>?_
 obtain ⟨r,hr,hF⟩:=aA hF
 refine zC hf uF rfl (cJ s_ (W ((W (J - lo)) + 1)) H (hc.pick k0) hr) ?_
 rintro _ w ⟨rfl,hc⟩
 refine ⟨_,rfl,fun a hf=>?_⟩
 refine sp 2 hf rfl fun a hf=>zT h ?_
 refine wp_ret ?_
 obtain rfl:=sj hF
 exact zO1 Tryz.results22 hf rfl ⟨rfl,hc⟩

def oS (N:Nat) (s_:aZ) (x:List Int) (D:Int) (I:Int) (J:Int) (H:List Int):Option (bY (Int × Int × Int × (List Int)) (bY (Int × Int × Int × (List cX)) (aH × Int × Int))) :=
 cond (D != (-1))
 (Option.bind (bW N (⟨s_.bytes,I,J⟩:aZ) 400) fun B=>
 Option.bind (room ((H++[B.1])).length) fun O=>
 Option.bind (bE x D) fun M=>
 some (.cont (M,B.2.1,B.2.2,(H++[B.1]))))
 (some (.brk (D,I,J,H)))
def pB (N:Nat) (s_:aZ) (x:List Int) (R:List Int) (D:Int) (I:Int) (O:Int) (J:List cX):Option (bY (Int × Int × Int × (List cX)) (aH × Int × Int)) :=
 cond (decide (0 < D))
 (Option.bind (bW N (⟨s_.bytes,I,O⟩:aZ) ((R.length:Nat):Int)) fun H=>
 Option.bind (bE R H.1) fun M=>
 Option.bind (aX (fun B=>oS N s_ x B.1 B.2.1 B.2.2.1 B.2.2.2) N (M,H.2.1,H.2.2,([]:List Int))) fun S=>
 exK S (fun B=>Option.bind (room ((J++[(⟨M,B.2.2.2⟩:cX)])).length) fun un=>
 some (.cont (W (D - 1),B.2.1,B.2.2.1,(J++[(⟨M,B.2.2.2⟩:cX)])))) some)
 (some (.brk (D,I,O,J)))
def oX (N:Nat) (s_:aZ) (r:Int × Int × Int) (k:Int) (M:Int) (I:Int) (J:List aR):Option (bY (Int × Int × Int × (List aR)) (aH × Int × Int)) :=
 cond (decide (0 < k))
 (Option.bind (bW N (⟨s_.bytes,M,I⟩:aZ) r.1) fun B=>
 Option.bind (bW N (⟨s_.bytes,B.2.1,B.2.2⟩:aZ) 8) fun D=>
 Option.bind (jB N (⟨s_.bytes,D.2.1,D.2.2⟩:aZ) 100 300) fun H=>
 Option.bind (room ((J++[(⟨B.1,D.1,H.1⟩:aR)])).length) fun O=>
 some (.cont (W (k - 1),H.2.1,H.2.2,(J++[(⟨B.1,D.1,H.1⟩:aR)]))))
 (some (.brk (k,M,I,J)))
def oE (N:Nat) (s_:aZ) (r:Int × Int × Int) (S:Int) (R:Int) (x:List Int) (X:List aN) (O:List Int):Option (aH × Int × Int) :=
 Option.bind (bW N (⟨s_.bytes,S,R⟩:aZ) 8) fun I=>
 Option.bind (aX (fun D=>oX N s_ r D.1 D.2.1 D.2.2.1 D.2.2.2) N (I.1,I.2.1,I.2.2,([]:List aR))) fun U=>
 exK U (fun D=>Option.bind (bW N (⟨s_.bytes,D.2.1,D.2.2.1⟩:aZ) 3) fun H=>
 Option.bind (bW N (⟨s_.bytes,H.2.1,H.2.2⟩:aZ) 3) fun M=>
 Option.bind (bW N (⟨s_.bytes,M.2.1,M.2.2⟩:aZ) 10) fun J=>
 Option.bind (aX (fun B=>pB N s_ x O B.1 B.2.1 B.2.2.1 B.2.2.2) N (J.1,J.2.1,J.2.2,([]:List cX))) fun V=>
 exK V (fun B=>some ((⟨x,X,O,D.2.2.2,(⟨H.1,W (H.1 + M.1)⟩:aN),B.2.2.2⟩:aH),B.2.1,B.2.2.1)) some) some
def oV (N:Nat) (H:Int) (D:Int) (B:Int) (I:List Int) (J:List aN) (M:List Int):Option (bY (Int × Int × Int × (List Int) × (List aN) × (List Int)) (aH × Int × Int)) :=
 some (.cont (W (H + 1),D,B,I,J,M))
def lH (N:Nat) (s_:aZ) (M:Int) (x:List Int) (O:List aN) (J:List Int) (down:Int) (R:Int) (S:Int):Option (bY (Int × Int × Int × (List Int) × (List aN) × (List Int)) (aH × Int × Int)) :=
 Option.bind (bW N (⟨s_.bytes,R,S⟩:aZ) 9) fun B=>
 Option.bind (room ((x++[down])).length) fun X=>
 Option.bind (bW N (⟨s_.bytes,B.2.1,B.2.2⟩:aZ) 5) fun D=>
 Option.bind (room ((O++[(⟨B.1,W (B.1 + D.1)⟩:aN)])).length) fun U=>
 Option.bind (cond (decide (((J.length:Nat):Int) < 8)) (Option.bind (bW N (⟨s_.bytes,D.2.1,D.2.2⟩:aZ) 3) fun I=>
 some ((I.1 == 0),I.2.1,I.2.2)) (some (false,D.2.1,D.2.2))) fun H=>
 cond H.1
 (Option.bind (room ((J++[M])).length) fun V=>
 oV N M H.2.1 H.2.2 (x++[down]) (O++[(⟨B.1,W (B.1 + D.1)⟩:aN)]) (J++[M]))
 (oV N M H.2.1 H.2.2 (x++[down]) (O++[(⟨B.1,W (B.1 + D.1)⟩:aN)]) J)
def lB (N:Nat) (s_:aZ) (r:Int × Int × Int) (B:Int) (M:Int) (H:Int) (x:List Int) (R:List aN) (O:List Int):Option (bY (Int × Int × Int × (List Int) × (List aN) × (List Int)) (aH × Int × Int)) :=
 cond (decide (B < r.1))
 (Option.bind (cond (decide ((W (B + 1)) < r.1)) (Option.bind (bW N (⟨s_.bytes,M,H⟩:aZ) 6) fun I=>
 some ((decide (0 < I.1)),I.2.1,I.2.2)) (some (false,M,H))) fun D=>
 cond D.1
 (Option.bind (jB N (⟨s_.bytes,D.2.1,D.2.2⟩:aZ) (W (B + 1)) (min (W (r.1 - 1)) (W (B + 3)))) fun J=>
 lH N s_ B x R O J.1 J.2.1 J.2.2)
 (lH N s_ B x R O (-1) D.2.1 D.2.2))
 (some (.brk (B,M,H,x,R,O)))
def uP (N:Nat) (s_:aZ) (B:Int):Option (aH × Int × Int) :=
 Option.bind (jB N s_ 1 B) fun r=>
 Option.bind (aX (fun s6=>lB N s_ r s6.1 s6.2.1 s6.2.2.1 s6.2.2.2.1 s6.2.2.2.2.1 s6.2.2.2.2.2) N (0,r.2.1,r.2.2,([]:List Int),([]:List aN),([]:List Int))) fun x6=>
 exK x6 (fun s6=>cond (((s6.2.2.2.2.2.length:Nat):Int) == 0)
 (oE N s_ r s6.2.1 s6.2.2.1 s6.2.2.2.1 s6.2.2.2.2.1 ([0]:List Int))
 (oE N s_ r s6.2.1 s6.2.2.1 s6.2.2.2.1 s6.2.2.2.2.1 s6.2.2.2.2.2)) some
theorem aFh {N:Nat} {G:aT} {Lf:List Ent} {w:World} (s_:aZ) (cp:Int) {b_:Nat} {D:Option Addr} {B:Nat} (J:Rd G 1 D B (s_.bytes.map tI)) (hc:Ctx G (.box b_ [.slice D s_.bytes.length B,i6 s_.used,i6 s_.mix] 70::Lf) w) {aj:aH × Int × Int} (hF:uP N s_ cp=some aj):Calls Tryz.prog 5 #[pq b_,i6 cp] w (fun e w=>∃ (dq:Option Addr) (dv:Nat) (dr:Option Addr) (dt:Nat) (dm:Option Addr) (dn:Nat) (d0:Option Addr) (dy:Nat) (d1:Option Addr) (bi:aCq),e=.returned (.agg #[.slice dq aj.1.Down.length dv,.slice dr aj.1.Travel.length dt,.slice dm aj.1.Springs.length dn,.slice d0 aj.1.Towns.length dy,i6 aj.1.Delay.Lo,i6 aj.1.Delay.Hi,.slice d1 aj.1.Floods.length bi.1])∧Ctx G (.row dq dv (aj.1.Down.map aB) 3 1::.row dr dt (aj.1.Travel.map aI) 27 2::.row dm dn (aj.1.Springs.map aB) 3 1::.row d0 dy (aj.1.Towns.map aG) 65 3::.row d1 bi.1 ((aU bi.2 aj.1.Floods).map (Kd.v cH)) 68 2::cK cH (aU bi.2 aj.1.Floods)::.box b_ [.slice D s_.bytes.length B,i6 aj.2.1,i6 aj.2.2] 70::Lf) w):=by
 unfold uP at hF
 refine bL Tryz.func5 rfl Tryz.ntmps5 rfl fun a hf=>zS fun K h=>zA hf hc aJu rfl fun U a w hf hc=>zT h ?_
 refine zS fun K h=>zA hf hc aJu rfl fun I a w hf hc=>zT h ?_
 refine zS fun K h=>sp 2 hf rfl fun a hf=>?_
 obtain ⟨r,hr,hF⟩:=aA hF
 refine zC hf aLv rfl (oU s_ 1 cp J (hc.pick k2) hr) ?_
 rintro _ w ⟨rfl,hc⟩
 refine ⟨_,rfl,fun a hf=>?_⟩
 refine sp 1 hf rfl fun a hf=>zT h ?_
 refine wp_seq_k fun K4 h4=>zS fun K h=>sp 1 hf rfl fun a hf=>zT h ?_
 refine wp_block ?_
 obtain ⟨x6,ic,hF⟩:=aA hF
 let S6:(Int × Int × Int × (List Int) × (List aN) × (List Int))→Act→World→Prop:=(fun (zz:Int × Int × Int × (List Int) × (List aN) × (List Int)) a w=>∃ (aa:Option Addr) (z:Nat) (O:Option Addr) (R:Nat) (an:Option Addr) (ak:Nat),Has 150 a [(0,pq b_),(4,pq U),(5,pq I),(6,i6 r.1),(7,i6 zz.1)]∧Ctx G (.row an ak (zz.2.2.2.2.2.map aB) 3 1::.row O R (zz.2.2.2.2.1.map aI) 27 2::.row aa z (zz.2.2.2.1.map aB) 3 1::.box b_ [.slice D s_.bytes.length B,i6 zz.2.1,i6 zz.2.2.1] 70::.box I [.slice aa zz.2.2.2.1.length z,.slice O zz.2.2.2.2.1.length R,.slice an zz.2.2.2.2.2.length ak,.slice none 0 0,i6 0,i6 0,.slice none 0 0] 30::.box U [.slice none 0 0,.slice none 0 0,.slice none 0 0,.slice none 0 0,i6 0,i6 0,.slice none 0 0] 30::Lf) w)
 have ik:∀ (zz:Int × Int × Int × (List Int) × (List aN) × (List Int)) a w,x6=.go zz→S6 zz a w→K4 a w:=by
  rintro ⟨ag,bu,bt,x,M,ac⟩ a w rfl ⟨aa,z,O,R,an,ak,hf,hc⟩
  replace hF:=bK hF
  refine h4 _ _ ?_
  refine wp_seq_k fun K7 h7=>?_
  have du:∀ (V:List Int) (a0:Option Addr) (ay:Nat) a w,Has 150 a [(0,pq b_),(4,pq U),(5,pq I),(6,i6 r.1)]→Ctx G (.row a0 ay (V.map aB) 3 1::.row O R (M.map aI) 27 2::.row aa z (x.map aB) 3 1::.box b_ [.slice D s_.bytes.length B,i6 bu,i6 bt] 70::.box I [.slice aa x.length z,.slice O M.length R,.slice a0 V.length ay,.slice none 0 0,i6 0,i6 0,.slice none 0 0] 30::.box U [.slice none 0 0,.slice none 0 0,.slice none 0 0,.slice none 0 0,i6 0,i6 0,.slice none 0 0] 30::Lf) w→oE N s_ r bu bt x M V=some aj→K7 a w:=by
   repeat (clear hF)
   repeat (clear hc)
   repeat (clear hf)
   intro V a0 ay a w hf hc hF
   unfold oE at hF
   refine h7 _ _ ?_
   refine wp_seq_k fun K8 h8=>zS fun K h=>sp 1 hf rfl fun a hf=>?_
   obtain ⟨c1,g0,hF⟩:=aA hF
   refine zC hf uF rfl (cJ (⟨s_.bytes,bu,bt⟩:aZ) 8 J (hc.pick k3) g0) ?_
   rintro _ w ⟨rfl,hc⟩
   refine ⟨_,rfl,fun a hf=>?_⟩
   refine sp 1 hf rfl fun a hf=>zT h ?_
   refine wp_block ?_
   obtain ⟨c4,g5,hF⟩:=aA hF
   let S10:(Int × Int × Int × (List aR))→Act→World→Prop:=(fun (zz:Int × Int × Int × (List aR)) a w=>∃ (m:Option Addr) (q:Nat),Has 150 a [(0,pq b_),(4,pq U),(5,pq I),(6,i6 r.1),(10,i6 zz.1)]∧Ctx G (.row m q (zz.2.2.2.map aG) 65 3::.box b_ [.slice D s_.bytes.length B,i6 zz.2.1,i6 zz.2.2.1] 70::.row a0 ay (V.map aB) 3 1::.row O R (M.map aI) 27 2::.row aa z (x.map aB) 3 1::.box I [.slice aa x.length z,.slice O M.length R,.slice a0 V.length ay,.slice m zz.2.2.2.length q,i6 0,i6 0,.slice none 0 0] 30::.box U [.slice none 0 0,.slice none 0 0,.slice none 0 0,.slice none 0 0,i6 0,i6 0,.slice none 0 0] 30::Lf) w)
   have gi:∀ (zz:Int × Int × Int × (List aR)) a w,c4=.go zz→S10 zz a w→K8 a w:=by
    rintro ⟨k,b9,b3,Z⟩ a w rfl ⟨m,q,hf,hc⟩
    replace hF:=bK hF
    refine h8 _ _ ?_
    refine zS fun K h=>sp 1 hf rfl fun a hf=>?_
    obtain ⟨y,g6,hF⟩:=aA hF
    refine zC hf uF rfl (cJ (⟨s_.bytes,b9,b3⟩:aZ) 3 J (hc.pick k1) g6) ?_
    rintro _ w ⟨rfl,hc⟩
    refine ⟨_,rfl,fun a hf=>?_⟩
    refine zP hf rfl (pFA aB0 rfl) fun a hf=>zP hf rfl (pFA zJ rfl) fun a hf=>zW hf hc fO u5 rfl fun w hc=>zT h ?_
    refine wp_seq_k fun K12 ir=>?_
    obtain ⟨au,gn,hF⟩:=aA hF
    refine eL (fun θ=>[⟨none,none,0,pq b_⟩,⟨none,none,4,pq U⟩,⟨none,none,5,pq I⟩,⟨some 0,none,103,.pointer (some ⟨I,4,none⟩)⟩,⟨some 1,none,104,.pointer (some ⟨I,4,none⟩)⟩,⟨some 2,none,105,i6 y.1⟩,⟨some 3,none,106,pq b_⟩,⟨some 4,none,107,i6 au.1⟩,⟨some 5,none,108,i6 (W (y.1 + au.1))⟩,⟨some 6,none,109,.pointer (some ⟨I,4,none⟩)⟩,⟨some 7,none,110,.pointer (some ⟨I,5,none⟩)⟩]) (fun E θ=>(bif E 4 then .box b_ [.slice D s_.bytes.length B,i6 au.2.1,i6 au.2.2] 70 else .box b_ [.slice D s_.bytes.length B,i6 y.2.1,i6 y.2.2] 70)::.row m q (Z.map aG) 65 3::.row a0 ay (V.map aB) 3 1::.row O R (M.map aI) 27 2::.row aa z (x.map aB) 3 1::(bif E 8 then .box I [.slice aa x.length z,.slice O M.length R,.slice a0 V.length ay,.slice m Z.length q,i6 y.1,i6 (W (y.1 + au.1)),.slice none 0 0] 30 else .box I [.slice aa x.length z,.slice O M.length R,.slice a0 V.length ay,.slice m Z.length q,i6 y.1,i6 0,.slice none 0 0] 30)::.box U [.slice none 0 0,.slice none 0 0,.slice none 0 0,.slice none 0 0,i6 0,i6 0,.slice none 0 0] 30::Lf) [(8,2)] (fun a w=>Has 150 a [(0,pq b_),(4,pq U),(5,pq I)]∧Ctx G (.box b_ [.slice D s_.bytes.length B,i6 au.2.1,i6 au.2.2] 70::.row m q (Z.map aG) 65 3::.row a0 ay (V.map aB) 3 1::.row O R (M.map aI) 27 2::.row aa z (x.map aB) 3 1::.box I [.slice aa x.length z,.slice O M.length R,.slice a0 V.length ay,.slice m Z.length q,i6 y.1,i6 (W (y.1 + au.1)),.slice none 0 0] 30::.box U [.slice none 0 0,.slice none 0 0,.slice none 0 0,.slice none 0 0,i6 0,i6 0,.slice none 0 0] 30::Lf) w) bA (by kernel_rfl) (by kernel_rfl) (fN.of hf ⟨rfl,rfl,rfl,trivial,trivial,trivial,trivial,trivial,trivial,trivial,trivial,trivial⟩) hc ⟨?_,?_,?_,?_,?_,?_,?_,?_,?_,trivial⟩ ?_ ?_
    ·intro E θ a w hD hi hp he hc
     have hf:=he.h0.mT he 2 rfl
     refine zP hf rfl (pFA aB0 rfl) fun a hf=>zD θ he hi hf 3 rfl rfl rfl hc
    ·intro E θ a w hD hi hp he hc
     have e0:=hp.o 0 rfl
     have hf:=he.h0.mP he 3 rfl e0
     refine zP hf rfl (pFA zJ rfl) fun a hf=>zD θ he hi hf 4 rfl rfl rfl hc
    ·intro E θ a w hD hi hp he hc
     have e1:=hp.o 1 rfl
     have e8:=hD.f 0 rfl hi
     try dsimp only at hc
     rw [e8] at hc
     have hf:=he.h0.mP he 4 rfl e1
     refine zL hf hc cR m5 rfl fun a w hf hc=>zD θ he hi hf 5 rfl rfl rfl ?_
     try dsimp only
     rw [aQ 2 e8 rfl]
     exact hc
    ·intro E θ a w hD hi hp he hc
     have hf:=he.h0.mT he 0 rfl
     refine sp 1 hf rfl fun a hf=>zD θ he hi hf 6 rfl rfl rfl hc
    ·intro E θ a w hD hi hp he hc
     have e3:=hp.o 3 rfl
     try dsimp only at hc
     rw [hi] at hc
     have hf:=he.h0.mP he 6 rfl e3
     refine zC hf uF rfl (cJ (⟨s_.bytes,y.2.1,y.2.2⟩:aZ) 3 J (hc.pick k0) gn) ?_
     rintro _ w ⟨rfl,hc⟩
     refine ⟨_,rfl,fun a hf=>?_⟩
     refine zD θ he hi hf 7 rfl rfl rfl ?_
     try dsimp only
     rw [aS E 4]
     exact hc
    ·intro E θ a w hD hi hp he hc
     have e2:=hp.o 2 rfl
     have e4:=hp.o 4 rfl
     have hf:=(he.h0.mP he 5 rfl e2).mP he 7 rfl e4
     refine sp 1 hf rfl fun a hf=>zD θ he hi hf 8 rfl rfl rfl hc
    ·intro E θ a w hD hi hp he hc
     have hf:=he.h0.mT he 2 rfl
     refine zP hf rfl (pFA aB0 rfl) fun a hf=>zD θ he hi hf 9 rfl rfl rfl hc
    ·intro E θ a w hD hi hp he hc
     have e6:=hp.o 6 rfl
     have hf:=he.h0.mP he 9 rfl e6
     refine zP hf rfl (pFA zR rfl) fun a hf=>zD θ he hi hf 10 rfl rfl rfl hc
    ·intro E θ a w hD hi hp he hc
     have e5:=hp.o 5 rfl
     have e7:=hp.o 7 rfl
     try dsimp only at hc
     rw [hi] at hc
     have hf:=(he.h0.mP he 8 rfl e5).mP he 10 rfl e7
     refine zW hf hc fO u5 rfl fun w hc=>zG θ he hi hf rfl ?_
     try dsimp only
     rw [aS E 8]
     exact hc
    ·intro E θ a w X he hc
     have hf:=he.h0
     have e4:=X 4 rfl
     have e8:=X 8 rfl
     replace hf:=hf.more he 2 rfl (onT)
     replace hf:=hf.more he 1 rfl (onT)
     replace hf:=hf.more he 0 rfl (onT)
     try dsimp only at hc
     rw [e4,e8] at hc
     exact ⟨hf.kp rfl,hc⟩
    rintro a w ⟨hf,hc⟩
    refine ir _ _ ?_
    refine wp_seq_k fun K13 ib=>zS fun K h=>sp 1 hf rfl fun a hf=>?_
    obtain ⟨cz,g3,hF⟩:=aA hF
    refine zC hf uF rfl (cJ (⟨s_.bytes,au.2.1,au.2.2⟩:aZ) 10 J (hc.pick k0) g3) ?_
    rintro _ w ⟨rfl,hc⟩
    refine ⟨_,rfl,fun a hf=>?_⟩
    refine sp 1 hf rfl fun a hf=>zT h ?_
    refine wp_block ?_
    obtain ⟨c5,gj,hF⟩:=aA hF
    let S15:(Int × Int × Int × (List cX))→Act→World→Prop:=(fun (zz:Int × Int × Int × (List cX)) a w=>∃ (a9:Option Addr) (a8:Nat) (bs:Option Addr) (ad:Nat) (ax:Option Addr) (d:aCq),Has 150 a [(0,pq b_),(4,pq U),(5,pq I),(11,i6 zz.1)]∧Ctx G (.row ax d.1 ((aU d.2 zz.2.2.2).map (Kd.v cH)) 68 2::cK cH (aU d.2 zz.2.2.2)::.box b_ [.slice D s_.bytes.length B,i6 zz.2.1,i6 zz.2.2.1] 70::.row m q (Z.map aG) 65 3::.row bs ad (V.map aB) 3 1::.row O R (M.map aI) 27 2::.row a9 a8 (x.map aB) 3 1::.box I [.slice a9 x.length a8,.slice O M.length R,.slice bs V.length ad,.slice m Z.length q,i6 y.1,i6 (W (y.1 + au.1)),.slice ax zz.2.2.2.length d.1] 30::.box U [.slice none 0 0,.slice none 0 0,.slice none 0 0,.slice none 0 0,i6 0,i6 0,.slice none 0 0] 30::Lf) w)
    have gr:∀ (zz:Int × Int × Int × (List cX)) a w,c5=.go zz→S15 zz a w→K13 a w:=by
     rintro ⟨bp,cm,cr,ab⟩ a w rfl ⟨a9,a8,bs,ad,ax,d,hf,hc⟩
     replace hF:=bK hF
     refine ib _ _ ?_
     refine wp_seq_k fun K16 i5=>bV ?_
     refine zN hf hc oK m7 rfl fun a w hf hc=>zW hf hc aIn u8 rfl fun w hc=>aP ?_
     replace hc:=hc.drop k7
     refine i5 _ _ ?_
     refine wp_ret ?_
     obtain rfl:=sj hF
     replace hc:=((((((hc.pick k2).pick k2).pick k2).pick k3).pick k4).pick k5).pick k6
     exact aCi (by simp) rfl Tryz.results5 hf hc (jH (vs:=[.slice a9 x.length a8,.slice O M.length R,.slice bs V.length ad,.slice m Z.length q,i6 y.1,i6 (W (y.1 + au.1)),.slice ax ab.length d.1]) oK rfl rfl (dN (n:=7) m7 rfl)) ⟨a9,a8,O,R,bs,ad,m,q,ax,d,rfl,(hc.drop k7)⟩
    have jf:∀ r,c5=.out r→r=aj:=by
     rintro r rfl
     exact sj hF
    replace hc:=hc.nilRow 68 2
    replace hc:=aG7 (K:=cH) (hs:=(noH 0)) hc
    replace hc:=(hc.pick k0).pick k1
    refine cZ N (cW (S:=S15) (x:=c5) ?_ N (cz.1,cz.2.1,cz.2.2,([]:List cX)) _ _ ⟨aa,z,a0,ay,none,(0,(noH 0)),hf.kp rfl,hc⟩ gj)
    clear hF hf hc
    rintro ⟨bp,cm,cr,ab⟩ gk a w KB15 ⟨a9,a8,bs,ad,ax,d,hf,hc⟩ hF cj gq
    unfold pB at hF
    refine wp_seq_k fun K17 ia=>zS fun K h=>sp 2 hf rfl fun a hf=>zT h ?_
    refine zI hf rfl hF ?_ ?_ <;> clear hF <;> intro hF
    ·refine wp_skip ?_
     refine ia _ _ ?_
     refine wp_seq_k fun K19 iu=>wp_block ?_
     refine wp_seq_k fun K20 i7=>?_
     obtain ⟨bg,gx,hF⟩:=aA hF
     obtain ⟨am,gb,hF⟩:=aA hF
     have cx:=hf
     obtain ⟨g,rfl,qa,qr⟩:=hP hc m4 gb
     have hf:=cx
     replace hc:=hc.nilRow 0 0
     refine eL (fun θ=>[⟨none,none,0,pq b_⟩,⟨none,none,4,pq U⟩,⟨none,none,5,pq I⟩,⟨none,none,11,i6 bp⟩,⟨some 0,none,117,.pointer (some ⟨I,2,none⟩)⟩,⟨some 1,none,118,.slice (some ⟨g,0,none⟩) V.length ad⟩,⟨some 2,none,119,pq b_⟩,⟨some 3,none,120,.pointer (some ⟨I,2,none⟩)⟩,⟨some 4,none,121,.slice (some ⟨g,0,none⟩) V.length ad⟩,⟨some 5,none,122,i6 ((V.length:Nat):Int)⟩,⟨some 6,none,123,i6 bg.1⟩,⟨some 7,none,124,.pointer (some ⟨g,bg.1.toNat * 1,none⟩)⟩,⟨some 8,none,125,i6 am⟩,⟨some 9,none,126,.agg #[i6 am,.slice none 0 0]⟩,⟨some 10,none,12,.pointer (some ⟨(θ 80).b,0,none⟩)⟩]) (fun E θ=>(bif E 11 then .box (θ 80).b [i6 am,.slice none 0 0] 68 else bif E 10 then .box (θ 80).b [i6 0,.slice none 0 0] 68 else .row none 0 [] 0 0)::.row ax d.1 ((aU d.2 ab).map (Kd.v cH)) 68 2::cK cH (aU d.2 ab)::(bif E 6 then .box b_ [.slice D s_.bytes.length B,i6 bg.2.1,i6 bg.2.2] 70 else .box b_ [.slice D s_.bytes.length B,i6 cm,i6 cr] 70)::.row m q (Z.map aG) 65 3::.row (some ⟨g,0,none⟩) ad (V.map aB) 3 1::.row O R (M.map aI) 27 2::.row a9 a8 (x.map aB) 3 1::.box I [.slice a9 x.length a8,.slice O M.length R,.slice (some ⟨g,0,none⟩) V.length ad,.slice m Z.length q,i6 y.1,i6 (W (y.1 + au.1)),.slice ax ab.length d.1] 30::.box U [.slice none 0 0,.slice none 0 0,.slice none 0 0,.slice none 0 0,i6 0,i6 0,.slice none 0 0] 30::Lf) [(11,10)] (fun a w=>∃ (a5:Nat),Has 150 a [(0,pq b_),(4,pq U),(5,pq I),(11,i6 bp),(12,pq a5)]∧Ctx G (.box a5 [i6 am,.slice none 0 0] 68::.row ax d.1 ((aU d.2 ab).map (Kd.v cH)) 68 2::cK cH (aU d.2 ab)::.box b_ [.slice D s_.bytes.length B,i6 bg.2.1,i6 bg.2.2] 70::.row m q (Z.map aG) 65 3::.row (some ⟨g,0,none⟩) ad (V.map aB) 3 1::.row O R (M.map aI) 27 2::.row a9 a8 (x.map aB) 3 1::.box I [.slice a9 x.length a8,.slice O M.length R,.slice (some ⟨g,0,none⟩) V.length ad,.slice m Z.length q,i6 y.1,i6 (W (y.1 + au.1)),.slice ax ab.length d.1] 30::.box U [.slice none 0 0,.slice none 0 0,.slice none 0 0,.slice none 0 0,i6 0,i6 0,.slice none 0 0] 30::Lf) w) bA (by kernel_rfl) (by kernel_rfl) (fN.of hf ⟨rfl,rfl,rfl,rfl,trivial,trivial,trivial,trivial,trivial,trivial,trivial,trivial,trivial,trivial,trivial,trivial⟩) hc ⟨?_,?_,?_,?_,?_,?_,?_,?_,?_,?_,?_,?_,trivial⟩ ?_ ?_
     ·intro E θ a w hD hi hp he hc
      have hf:=he.h0.mT he 2 rfl
      refine zP hf rfl (pFA rF rfl) fun a hf=>zD θ he hi hf 4 rfl rfl rfl hc
     ·intro E θ a w hD hi hp he hc
      have e0:=hp.o 0 rfl
      have hf:=he.h0.mP he 4 rfl e0
      refine zL hf hc hY m8 rfl fun a w hf hc=>zD θ he hi hf 5 rfl rfl rfl hc
     ·intro E θ a w hD hi hp he hc
      have hf:=he.h0.mT he 0 rfl
      refine sp 1 hf rfl fun a hf=>zD θ he hi hf 6 rfl rfl rfl hc
     ·intro E θ a w hD hi hp he hc
      have hf:=he.h0.mT he 2 rfl
      refine zP hf rfl (pFA rF rfl) fun a hf=>zD θ he hi hf 7 rfl rfl rfl hc
     ·intro E θ a w hD hi hp he hc
      have e3:=hp.o 3 rfl
      have hf:=he.h0.mP he 7 rfl e3
      refine zL hf hc hY m8 rfl fun a w hf hc=>zD θ he hi hf 8 rfl rfl rfl hc
     ·intro E θ a w hD hi hp he hc
      have e4:=hp.o 4 rfl
      have hf:=he.h0.mP he 8 rfl e4
      refine zP hf rfl (bG Tryz.underlying23 rfl) fun a hf=>zD θ he hi hf 9 rfl rfl rfl hc
     ·intro E θ a w hD hi hp he hc
      have e2:=hp.o 2 rfl
      have e5:=hp.o 5 rfl
      try dsimp only at hc
      rw [hi] at hc
      have hf:=(he.h0.mP he 6 rfl e2).mP he 9 rfl e5
      refine zC hf uF rfl (cJ (⟨s_.bytes,cm,cr⟩:aZ) ((V.length:Nat):Int) J (hc.pick k3) gx) ?_
      rintro _ w ⟨rfl,hc⟩
      refine ⟨_,rfl,fun a hf=>?_⟩
      refine aP ?_
      refine eJ ?_
      intro ds u s
      replace hc:=(((hc.pick k0).pick k3).pick k3).pick k3
      refine ⟨θ,he.put0 hi s hf rfl 10 rfl rfl,?_⟩
      try dsimp only
      rw [aS E 6]
      exact hc
     ·intro E θ a w hD hi hp he hc
      have e1:=hp.o 1 rfl
      have e6:=hp.o 6 rfl
      have hf:=(he.h0.mP he 5 rfl e1).mP he 10 rfl e6
      refine zP hf rfl (pIA Tryz.underlying23 fO rfl rfl qa) fun a hf=>zD θ he hi hf 11 rfl rfl rfl hc
     ·intro E θ a w hD hi hp he hc
      have e7:=hp.o 7 rfl
      have hf:=he.h0.mP he 11 rfl e7
      refine zE hf hc rfl (eP cR rfl (fZ (sz:=1) (i:=bg.1.toNat) (j:=0) m5 qr rfl)) fun a w hf hc=>zD θ he hi hf 12 rfl rfl rfl hc
     ·intro E θ a w hD hi hp he hc
      have e8:=hp.o 8 rfl
      have hf:=he.h0.mP he 12 rfl e8
      refine zP hf rfl (iF (cells:=[i6 am,.slice none 0 0]) bt_68 rfl rfl) fun a hf=>zD θ he hi hf 13 rfl rfl rfl hc
     ·intro E θ a w hD hi hp he hc
      have ba:=hD.f 0 rfl hi
      try dsimp only at hc
      rw [hi,ba] at hc
      have hf:=he.h0
      refine zA hf hc aP0 rfl fun i3 a w hf hc=>aP ?_
      refine eJ ?_
      intro ds u s
      replace hc:=hc.drop k1
      refine ⟨(nF θ 80 ⟨i3,none,0,(fun _=>(none,0))⟩),he.put hi s hf rfl [] trivial ⟨qq,qq,qq,qq,qq,qq,qq,qq,qq,qq,qq,qq,qq,qq,qq,trivial⟩,?_⟩
      try dsimp only
      rw [aS E 10,aQ 10 ba rfl]
      exact hc
     ·intro E θ a w hD hi hp he hc
      have e9:=hp.o 9 rfl
      have a1:=hp.o 10 rfl
      try dsimp only at hc
      rw [a1,hi] at hc
      have hf:=(he.h0.mP he 13 rfl e9).mP he 14 rfl a1
      refine zW hf hc aNn u0 rfl fun w hc=>zG θ he hi hf rfl ?_
      try dsimp only
      rw [eC 11 a1,aS E 11]
      exact hc
     ·intro E θ a w X he hc
      have hf:=he.h0
      have e6:=X 6 rfl
      have a1:=X 10 rfl
      have ba:=X 11 rfl
      replace hf:=hf.more he 14 rfl (onP a1)
      replace hf:=hf.more he 3 rfl (onT)
      replace hf:=hf.more he 2 rfl (onT)
      replace hf:=hf.more he 1 rfl (onT)
      replace hf:=hf.more he 0 rfl (onT)
      try dsimp only at hc
      rw [e6,a1,ba] at hc
      exact ⟨(θ 80).b,hf.kp rfl,hc⟩
     rintro a w ⟨a5,hf,hc⟩
     refine i7 _ _ ?_
     refine wp_seq_k fun K21 ip=>zS fun K h=>zP hf rfl (pFA aG2 rfl) fun a hf=>zL hf hc cR m0 rfl fun a w hf hc=>sp 1 hf rfl fun a hf=>zT h ?_
     refine wp_block ?_
     obtain ⟨c6,d2,hF⟩:=aA hF
     let S23:(Int × Int × Int × (List Int))→Act→World→Prop:=(fun (zz:Int × Int × Int × (List Int)) a w=>∃ (a7:Option Addr) (a3:Nat) (av:Option Addr) (a6:Nat),Has 150 a [(0,pq b_),(4,pq U),(5,pq I),(11,i6 bp),(12,pq a5),(13,i6 zz.1)]∧Ctx G (.row av a6 (zz.2.2.2.map aB) 3 1::.box a5 [i6 am,.slice av zz.2.2.2.length a6] 68::.row ax d.1 ((aU d.2 ab).map (Kd.v cH)) 68 2::cK cH (aU d.2 ab)::.box b_ [.slice D s_.bytes.length B,i6 zz.2.1,i6 zz.2.2.1] 70::.row m q (Z.map aG) 65 3::.row (some ⟨g,0,none⟩) ad (V.map aB) 3 1::.row O R (M.map aI) 27 2::.row a7 a3 (x.map aB) 3 1::.box I [.slice a7 x.length a3,.slice O M.length R,.slice (some ⟨g,0,none⟩) V.length ad,.slice m Z.length q,i6 y.1,i6 (W (y.1 + au.1)),.slice ax ab.length d.1] 30::.box U [.slice none 0 0,.slice none 0 0,.slice none 0 0,.slice none 0 0,i6 0,i6 0,.slice none 0 0] 30::Lf) w)
     have d6:∀ (zz:Int × Int × Int × (List Int)) a w,c6=.go zz→S23 zz a w→K21 a w:=by
      rintro ⟨cu,br,bm,af⟩ a w rfl ⟨a7,a3,av,a6,hf,hc⟩
      replace hF:=bK hF
      refine ip _ _ ?_
      refine bV ?_
      refine zP hf rfl (pFA aDv rfl) fun a hf=>zL hf hc aMd m9 rfl fun a w hf hc=>zN hf hc aPe m1 rfl fun a w hf hc=>oB (rows:=([((av,a6),(⟨am,af⟩:cX))]:List (H2 × cX)).map (Kd.v cH)) (vs:=[(0,.agg #[i6 am,.slice av af.length a6])]) hf hc rfl rfl aQe rfl ⟨rfl,rfl,rfl,trivial⟩ rfl rfl fun jr a w hf hc=>?_
      obtain ⟨un,ii,hF⟩:=aA hF
      refine pC (xs:=(aU d.2 ab)) (ys:=([((av,a6),(⟨am,af⟩:cX))]:List (H2 × cX))) hf hc rfl rfl aQe rfl rfl (jJ _ _).symm rfl rfl aLs (kC hc m0) (fun _ _=>u3) (by simpa [jJ] using fD ii) fun cb bx a w hf hc=>?_
      replace hf:=aD8 (v':=.slice cb (ab++[(⟨am,af⟩:cX)]).length bx) (by simp [jJ]) hf
      refine zP hf rfl (pFA aDv rfl) fun a hf=>zW hf hc sz_28 u10 rfl fun w hc=>aP ?_
      replace hc:=((((hc.drop k0).pick k1).pick k1).pick k3).pick k3
      obtain ⟨cv,hc⟩:=aCj (K:=cH) ([((av,a6),(⟨am,af⟩:cX))]:List (H2 × cX)) hc
      replace hc:Ctx G (.row cb bx ((aU cv (ab++[(⟨am,af⟩:cX)])).map (Kd.v cH)) 68 2::cK cH (aU cv (ab++[(⟨am,af⟩:cX)]))::.box a5 [i6 am,.slice av af.length a6] 68::.box b_ [.slice D s_.bytes.length B,i6 br,i6 bm] 70::.row m q (Z.map aG) 65 3::.row (some ⟨g,0,none⟩) ad (V.map aB) 3 1::.row O R (M.map aI) 27 2::.row a7 a3 (x.map aB) 3 1::.box I [.slice a7 x.length a3,.slice O M.length R,.slice (some ⟨g,0,none⟩) V.length ad,.slice m Z.length q,i6 y.1,i6 (W (y.1 + au.1)),.slice cb ((ab++[(⟨am,af⟩:cX)]).length) bx] 30::.box U [.slice none 0 0,.slice none 0 0,.slice none 0 0,.slice none 0 0,i6 0,i6 0,.slice none 0 0] 30::Lf) w:=hc
      replace hc:=hc.drop k2
      refine iu _ _ ?_
      refine bV ?_
      refine sp 3 hf rfl fun a hf=>aP ?_
      exact gq (W (bp - 1),br,bm,(ab++[(⟨am,af⟩:cX)])) _ _ (sj hF).symm ⟨a7,a3,(some ⟨g,0,none⟩),ad,cb,(bx,cv),hf.kp rfl,hc⟩
     have jm:∀ r,c6=.out r→r=gk:=by
      rintro r rfl
      exact sj hF
     replace hc:=hc.nilRow 3 1
     refine cZ N (cW (S:=S23) (x:=c6) ?_ N (am,bg.2.1,bg.2.2,([]:List Int)) _ _ ⟨a9,a8,none,0,hf.kp rfl,hc⟩ d2)
     clear hF hf hc
     rintro ⟨cu,br,bm,af⟩ jq a w KB23 ⟨a7,a3,av,a6,hf,hc⟩ hF cg d4
     unfold oS at hF
     refine wp_seq_k fun K24 i2=>zS fun K h=>sp 2 hf rfl fun a hf=>zT h ?_
     refine zI hf rfl hF ?_ ?_ <;> clear hF <;> intro hF
     ·refine wp_skip ?_
      refine i2 _ _ ?_
      refine wp_seq_k fun K26 iq=>wp_block ?_
      obtain ⟨aq,gu,hF⟩:=aA hF
      obtain ⟨jj,db,hF⟩:=aA hF
      replace hc:=hc.nilRow 0 0
      refine eL (fun θ=>[⟨none,none,0,pq b_⟩,⟨none,none,4,pq U⟩,⟨none,none,5,pq I⟩,⟨none,none,11,i6 bp⟩,⟨none,none,12,pq a5⟩,⟨none,none,13,i6 cu⟩,⟨some 0,none,136,.pointer (some ⟨a5,1,none⟩)⟩,⟨some 1,none,137,.slice av af.length a6⟩,⟨some 2,none,138,pq b_⟩,⟨some 3,none,139,i6 aq.1⟩,⟨some 4,none,140,.slice (some ⟨(θ 32).b,0,none⟩) 1 1⟩,⟨some 5,none,141,.slice ((θ 40).p) ((af++[aq.1]).length) ((θ 40).c)⟩,⟨some 6,none,142,.pointer (some ⟨a5,1,none⟩)⟩]) (fun E θ=>(bif E 4 then .row (some ⟨(θ 32).b,0,none⟩) 1 (([aq.1]:List Int).map aB) 3 1 else .row none 0 [] 0 0)::(bif E 5 then .row ((θ 40).p) ((θ 40).c) ((af++[aq.1]).map aB) 3 1 else .row av a6 (af.map aB) 3 1)::(bif E 7 then .box a5 [i6 am,.slice ((θ 40).p) ((af++[aq.1]).length) ((θ 40).c)] 68 else .box a5 [i6 am,.slice av af.length a6] 68)::.row ax d.1 ((aU d.2 ab).map (Kd.v cH)) 68 2::cK cH (aU d.2 ab)::(bif E 3 then .box b_ [.slice D s_.bytes.length B,i6 aq.2.1,i6 aq.2.2] 70 else .box b_ [.slice D s_.bytes.length B,i6 br,i6 bm] 70)::.row m q (Z.map aG) 65 3::.row (some ⟨g,0,none⟩) ad (V.map aB) 3 1::.row O R (M.map aI) 27 2::.row a7 a3 (x.map aB) 3 1::.box I [.slice a7 x.length a3,.slice O M.length R,.slice (some ⟨g,0,none⟩) V.length ad,.slice m Z.length q,i6 y.1,i6 (W (y.1 + au.1)),.slice ax ab.length d.1] 30::.box U [.slice none 0 0,.slice none 0 0,.slice none 0 0,.slice none 0 0,i6 0,i6 0,.slice none 0 0] 30::Lf) [(7,1),(7,5)] (fun a w=>∃ (dz:Nat) (bz:Option Addr) (b6:Nat),Has 150 a [(0,pq b_),(4,pq U),(5,pq I),(11,i6 bp),(12,pq a5),(13,i6 cu)]∧Ctx G (.row (some ⟨dz,0,none⟩) 1 (([aq.1]:List Int).map aB) 3 1::.row bz b6 ((af++[aq.1]).map aB) 3 1::.box a5 [i6 am,.slice bz ((af++[aq.1]).length) b6] 68::.row ax d.1 ((aU d.2 ab).map (Kd.v cH)) 68 2::cK cH (aU d.2 ab)::.box b_ [.slice D s_.bytes.length B,i6 aq.2.1,i6 aq.2.2] 70::.row m q (Z.map aG) 65 3::.row (some ⟨g,0,none⟩) ad (V.map aB) 3 1::.row O R (M.map aI) 27 2::.row a7 a3 (x.map aB) 3 1::.box I [.slice a7 x.length a3,.slice O M.length R,.slice (some ⟨g,0,none⟩) V.length ad,.slice m Z.length q,i6 y.1,i6 (W (y.1 + au.1)),.slice ax ab.length d.1] 30::.box U [.slice none 0 0,.slice none 0 0,.slice none 0 0,.slice none 0 0,i6 0,i6 0,.slice none 0 0] 30::Lf) w) bA (by kernel_rfl) (by kernel_rfl) (fN.of hf ⟨rfl,rfl,rfl,rfl,rfl,rfl,trivial,trivial,trivial,trivial,trivial,trivial,trivial,trivial⟩) hc ⟨?_,?_,?_,?_,?_,?_,?_,?_,trivial⟩ ?_ ?_
      ·intro E θ a w hD hi hp he hc
       have hf:=he.h0.mT he 4 rfl
       refine zP hf rfl (pFA aDy rfl) fun a hf=>zD θ he hi hf 6 rfl rfl rfl hc
      ·intro E θ a w hD hi hp he hc
       have e0:=hp.o 0 rfl
       have e7:=hD.f 0 rfl hi
       try dsimp only at hc
       rw [e7] at hc
       have hf:=he.h0.mP he 6 rfl e0
       refine zL hf hc hY m2 rfl fun a w hf hc=>zD θ he hi hf 7 rfl rfl rfl ?_
       try dsimp only
       rw [aQ 1 e7 rfl]
       exact hc
      ·intro E θ a w hD hi hp he hc
       have hf:=he.h0.mT he 0 rfl
       refine sp 1 hf rfl fun a hf=>zD θ he hi hf 8 rfl rfl rfl hc
      ·intro E θ a w hD hi hp he hc
       have e2:=hp.o 2 rfl
       try dsimp only at hc
       rw [hi] at hc
       have hf:=he.h0.mP he 8 rfl e2
       refine zC hf uF rfl (cJ (⟨s_.bytes,br,bm⟩:aZ) 400 J (hc.pick k5) gu) ?_
       rintro _ w ⟨rfl,hc⟩
       refine ⟨_,rfl,fun a hf=>?_⟩
       refine aP ?_
       refine eJ ?_
       intro ds u s
       replace hc:=(((((hc.pick k0).pick k5).pick k5).pick k5).pick k5).pick k5
       refine ⟨θ,he.put0 hi s hf rfl 9 rfl rfl,?_⟩
       try dsimp only
       rw [aS E 3]
       exact hc
      ·intro E θ a w hD hi hp he hc
       have e3:=hp.o 3 rfl
       try dsimp only at hc
       rw [hi] at hc
       have hf:=he.h0.mP he 9 rfl e3
       refine oB (rows:=([aq.1]:List Int).map aB) (vs:=[(0,i6 aq.1)]) hf hc rfl rfl jA rfl ⟨rfl,rfl,rfl,trivial⟩ rfl rfl fun i0 a w hf hc=>aP ?_
       refine eJ ?_
       intro ds u s
       replace hc:=hc.drop k1
       refine ⟨(nF θ 32 ⟨i0,none,0,(fun _=>(none,0))⟩),he.put hi s hf rfl [] trivial ⟨qq,qq,qq,qq,qq,qq,qq,qq,qq,qq,qq,qq,qq,trivial⟩,?_⟩
       try dsimp only
       rw [aS E 4]
       exact hc
      ·intro E θ a w hD hi hp he hc
       have e1:=hp.o 1 rfl
       have e4:=hp.o 4 rfl
       have e7:=hD.f 1 rfl hi
       try dsimp only at hc
       rw [e4,hi,e7] at hc
       have hf:=(he.h0.mP he 7 rfl e1).mP he 10 rfl e4
       refine pC (xs:=af) (ys:=([aq.1]:List Int)) hf hc rfl rfl jA rfl rfl rfl rfl rfl bZ (kC hc m0) (fun _ _=>u1) (by simpa using fD db) fun g4 g1 a w hf hc=>aP ?_
       refine eJ ?_
       intro ds u s
       refine ⟨(nF θ 40 ⟨0,g4,g1,(fun _=>(none,0))⟩),he.put hi s hf rfl [] trivial ⟨qq,qq,qq,qq,qq,qq,qq,qq,qq,qq,qq,qq,qq,trivial⟩,?_⟩
       try dsimp only
       rw [eC 5 e4,aS E 5,aQ 5 e7 rfl]
       exact hc
      ·intro E θ a w hD hi hp he hc
       have hf:=he.h0.mT he 4 rfl
       refine zP hf rfl (pFA aDy rfl) fun a hf=>zD θ he hi hf 12 rfl rfl rfl hc
      ·intro E θ a w hD hi hp he hc
       have e5:=hp.o 5 rfl
       have e6:=hp.o 6 rfl
       try dsimp only at hc
       rw [hi] at hc
       have hf:=(he.h0.mP he 11 rfl e5).mP he 12 rfl e6
       refine zW hf hc vI u2 rfl fun w hc=>zG θ he hi hf rfl ?_
       try dsimp only
       rw [aS E 7]
       exact hc
      ·intro E θ a w X he hc
       have hf:=he.h0
       have e3:=X 3 rfl
       have e4:=X 4 rfl
       have e5:=X 5 rfl
       have e7:=X 7 rfl
       replace hf:=hf.more he 5 rfl (onT)
       replace hf:=hf.more he 4 rfl (onT)
       replace hf:=hf.more he 3 rfl (onT)
       replace hf:=hf.more he 2 rfl (onT)
       replace hf:=hf.more he 1 rfl (onT)
       replace hf:=hf.more he 0 rfl (onT)
       try dsimp only at hc
       rw [e3,e4,e5,e7] at hc
       exact ⟨(θ 32).b,(θ 40).p,(θ 40).c,hf.kp rfl,hc⟩
      rintro a w ⟨dz,bz,b6,hf,hc⟩
      replace hc:=hc.drop k0
      refine iq _ _ ?_
      refine bV ?_
      refine zP hf rfl (pFA sI rfl) fun a hf=>zL hf hc hY m9 rfl fun a w hf hc=>sp 1 hf rfl fun a hf=>?_
      obtain ⟨i4,gd,hF⟩:=aA hF
      have cx:=hf
      obtain ⟨i8,rfl,gv,d9⟩:=hP hc m8 gd
      have hf:=cx
      refine zP hf rfl (pIA Tryz.underlying23 fO rfl rfl gv) fun a hf=>zE hf hc rfl (eP cR rfl (fZ (sz:=1) (i:=cu.toNat) (j:=0) m8 d9 rfl)) fun a w hf hc=>sp 1 hf rfl fun a hf=>aP ?_
      exact d4 (i4,aq.2.1,aq.2.2,(af++[aq.1])) _ _ (sj hF).symm ⟨(some ⟨i8,0,none⟩),a3,bz,b6,hf.kp rfl,hc⟩
     ·refine wp_exit ?_
      refine aY ?_
      refine aY ?_
      have he:=sj hF
      rw [← he] at cg
      refine fJ ?_
      exact d6 _ _ _ cg ⟨a7,a3,av,a6,hf.kp rfl,hc⟩
    ·refine wp_exit ?_
     refine aY ?_
     refine aY ?_
     have he:=sj hF
     rw [← he] at cj
     refine fJ ?_
     exact gr _ _ _ cj ⟨a9,a8,bs,ad,ax,d,hf.kp rfl,hc⟩
   have jd:∀ r,c4=.out r→r=aj:=by
    rintro r rfl
    exact sj hF
   replace hc:=hc.nilRow 65 3
   refine cZ N (cW (S:=S10) (x:=c4) ?_ N (c1.1,c1.2.1,c1.2.2,([]:List aR)) _ _ ⟨none,0,hf.kp rfl,hc⟩ g5)
   clear hF hf hc
   rintro ⟨k,b9,b3,Z⟩ jg a w KB10 ⟨m,q,hf,hc⟩ hF cf gc
   unfold oX at hF
   refine wp_seq_k fun K27 iz=>zS fun K h=>sp 2 hf rfl fun a hf=>zT h ?_
   refine zI hf rfl hF ?_ ?_ <;> clear hF <;> intro hF
   ·refine wp_skip ?_
    refine iz _ _ ?_
    refine wp_seq_k fun K29 g9=>wp_block ?_
    obtain ⟨ap,d8,hF⟩:=aA hF
    obtain ⟨ar,gf,hF⟩:=aA hF
    obtain ⟨ai,gg,hF⟩:=aA hF
    obtain ⟨jp,c9,hF⟩:=aA hF
    replace hc:=hc.nilRow 0 0
    refine eL (fun θ=>[⟨none,none,0,pq b_⟩,⟨none,none,4,pq U⟩,⟨none,none,5,pq I⟩,⟨none,none,6,i6 r.1⟩,⟨none,none,10,i6 k⟩,⟨some 0,none,86,.pointer (some ⟨I,3,none⟩)⟩,⟨some 1,none,87,.slice m Z.length q⟩,⟨some 2,none,88,pq b_⟩,⟨some 3,none,89,i6 r.1⟩,⟨some 4,none,90,i6 ap.1⟩,⟨some 5,none,91,pq b_⟩,⟨some 6,none,92,i6 ar.1⟩,⟨some 7,none,93,pq b_⟩,⟨some 8,none,94,i6 ai.1⟩,⟨some 9,none,95,.agg #[i6 ap.1,i6 ar.1,i6 ai.1]⟩,⟨some 10,none,96,.slice (some ⟨(θ 80).b,0,none⟩) 1 1⟩,⟨some 11,none,97,.slice ((θ 88).p) ((Z++[(⟨ap.1,ar.1,ai.1⟩:aR)]).length) ((θ 88).c)⟩,⟨some 12,none,98,.pointer (some ⟨I,3,none⟩)⟩]) (fun E θ=>(bif E 10 then .row (some ⟨(θ 80).b,0,none⟩) 1 (([(⟨ap.1,ar.1,ai.1⟩:aR)]:List aR).map aG) 65 3 else .row none 0 [] 0 0)::(bif E 11 then .row ((θ 88).p) ((θ 88).c) ((Z++[(⟨ap.1,ar.1,ai.1⟩:aR)]).map aG) 65 3 else .row m q (Z.map aG) 65 3)::(bif E 8 then .box b_ [.slice D s_.bytes.length B,i6 ai.2.1,i6 ai.2.2] 70 else bif E 6 then .box b_ [.slice D s_.bytes.length B,i6 ar.2.1,i6 ar.2.2] 70 else bif E 4 then .box b_ [.slice D s_.bytes.length B,i6 ap.2.1,i6 ap.2.2] 70 else .box b_ [.slice D s_.bytes.length B,i6 b9,i6 b3] 70)::.row a0 ay (V.map aB) 3 1::.row O R (M.map aI) 27 2::.row aa z (x.map aB) 3 1::(bif E 13 then .box I [.slice aa x.length z,.slice O M.length R,.slice a0 V.length ay,.slice ((θ 88).p) ((Z++[(⟨ap.1,ar.1,ai.1⟩:aR)]).length) ((θ 88).c),i6 0,i6 0,.slice none 0 0] 30 else .box I [.slice aa x.length z,.slice O M.length R,.slice a0 V.length ay,.slice m Z.length q,i6 0,i6 0,.slice none 0 0] 30)::.box U [.slice none 0 0,.slice none 0 0,.slice none 0 0,.slice none 0 0,i6 0,i6 0,.slice none 0 0] 30::Lf) [(6,4),(13,1),(8,6),(13,11)] (fun a w=>∃ (dp:Nat) (b4:Option Addr) (b0:Nat),Has 150 a [(0,pq b_),(4,pq U),(5,pq I),(6,i6 r.1),(10,i6 k)]∧Ctx G (.row (some ⟨dp,0,none⟩) 1 (([(⟨ap.1,ar.1,ai.1⟩:aR)]:List aR).map aG) 65 3::.row b4 b0 ((Z++[(⟨ap.1,ar.1,ai.1⟩:aR)]).map aG) 65 3::.box b_ [.slice D s_.bytes.length B,i6 ai.2.1,i6 ai.2.2] 70::.row a0 ay (V.map aB) 3 1::.row O R (M.map aI) 27 2::.row aa z (x.map aB) 3 1::.box I [.slice aa x.length z,.slice O M.length R,.slice a0 V.length ay,.slice b4 ((Z++[(⟨ap.1,ar.1,ai.1⟩:aR)]).length) b0,i6 0,i6 0,.slice none 0 0] 30::.box U [.slice none 0 0,.slice none 0 0,.slice none 0 0,.slice none 0 0,i6 0,i6 0,.slice none 0 0] 30::Lf) w) bA (by kernel_rfl) (by kernel_rfl) (fN.of hf ⟨rfl,rfl,rfl,rfl,rfl,trivial,trivial,trivial,trivial,trivial,trivial,trivial,trivial,trivial,trivial,trivial,trivial,trivial,trivial⟩) hc ⟨?_,?_,?_,?_,?_,?_,?_,?_,?_,?_,?_,?_,?_,?_,trivial⟩ ?_ ?_
    ·intro E θ a w hD hi hp he hc
     have hf:=he.h0.mT he 2 rfl
     refine zP hf rfl (pFA qY rfl) fun a hf=>zD θ he hi hf 5 rfl rfl rfl hc
    ·intro E θ a w hD hi hp he hc
     have e0:=hp.o 0 rfl
     have a4:=hD.f 1 rfl hi
     try dsimp only at hc
     rw [a4] at hc
     have hf:=he.h0.mP he 5 rfl e0
     refine zL hf hc aBx m6 rfl fun a w hf hc=>zD θ he hi hf 6 rfl rfl rfl ?_
     try dsimp only
     rw [aQ 1 a4 rfl]
     exact hc
    ·intro E θ a w hD hi hp he hc
     have hf:=he.h0.mT he 0 rfl
     refine sp 1 hf rfl fun a hf=>zD θ he hi hf 7 rfl rfl rfl hc
    ·intro E θ a w hD hi hp he hc
     have hf:=he.h0.mT he 3 rfl
     refine sp 1 hf rfl fun a hf=>zD θ he hi hf 8 rfl rfl rfl hc
    ·intro E θ a w hD hi hp he hc
     have e2:=hp.o 2 rfl
     have e3:=hp.o 3 rfl
     have e6:=hD.f 0 rfl hi
     have e8:=hD.f 2 rfl e6
     try dsimp only at hc
     rw [hi,e6,e8] at hc
     have hf:=(he.h0.mP he 7 rfl e2).mP he 8 rfl e3
     refine zC hf uF rfl (cJ (⟨s_.bytes,b9,b3⟩:aZ) r.1 J (hc.pick k2) d8) ?_
     rintro _ w ⟨rfl,hc⟩
     refine ⟨_,rfl,fun a hf=>?_⟩
     refine aP ?_
     refine eJ ?_
     intro ds u s
     replace hc:=((hc.pick k0).pick k2).pick k2
     refine ⟨θ,he.put0 hi s hf rfl 9 rfl rfl,?_⟩
     try dsimp only
     rw [aS E 4,aQ 4 e6 rfl,aQ 4 e8 rfl]
     exact hc
    ·intro E θ a w hD hi hp he hc
     have hf:=he.h0.mT he 0 rfl
     refine sp 1 hf rfl fun a hf=>zD θ he hi hf 10 rfl rfl rfl hc
    ·intro E θ a w hD hi hp he hc
     have e5:=hp.o 5 rfl
     have e4:=hp.o 4 rfl
     have e8:=hD.f 2 rfl hi
     try dsimp only at hc
     rw [e4,hi,e8] at hc
     have hf:=he.h0.mP he 10 rfl e5
     refine zC hf uF rfl (cJ (⟨s_.bytes,ap.2.1,ap.2.2⟩:aZ) 8 J (hc.pick k2) gf) ?_
     rintro _ w ⟨rfl,hc⟩
     refine ⟨_,rfl,fun a hf=>?_⟩
     refine aP ?_
     refine eJ ?_
     intro ds u s
     replace hc:=((hc.pick k0).pick k2).pick k2
     refine ⟨θ,he.put0 hi s hf rfl 11 rfl rfl,?_⟩
     try dsimp only
     rw [eC 6 e4,aS E 6,aQ 6 e8 rfl]
     exact hc
    ·intro E θ a w hD hi hp he hc
     have hf:=he.h0.mT he 0 rfl
     refine sp 1 hf rfl fun a hf=>zD θ he hi hf 12 rfl rfl rfl hc
    ·intro E θ a w hD hi hp he hc
     have e7:=hp.o 7 rfl
     have e6:=hp.o 6 rfl
     have e4:=hD.t 0 rfl e6
     try dsimp only at hc
     rw [e4,e6,hi] at hc
     have hf:=he.h0.mP he 12 rfl e7
     refine zC hf aLv rfl (oU (⟨s_.bytes,ar.2.1,ar.2.2⟩:aZ) 100 300 J (hc.pick k2) gg) ?_
     rintro _ w ⟨rfl,hc⟩
     refine ⟨_,rfl,fun a hf=>?_⟩
     refine aP ?_
     refine eJ ?_
     intro ds u s
     replace hc:=((hc.pick k0).pick k2).pick k2
     refine ⟨θ,he.put0 hi s hf rfl 13 rfl rfl,?_⟩
     try dsimp only
     rw [eC 8 e4,eC 8 e6,aS E 8]
     exact hc
    ·intro E θ a w hD hi hp he hc
     have e4:=hp.o 4 rfl
     have e6:=hp.o 6 rfl
     have e8:=hp.o 8 rfl
     have hf:=((he.h0.mP he 9 rfl e4).mP he 11 rfl e6).mP he 13 rfl e8
     refine zP hf rfl (iF (cells:=[i6 ap.1,i6 ar.1,i6 ai.1]) bt_65 rfl rfl) fun a hf=>zD θ he hi hf 14 rfl rfl rfl hc
    ·intro E θ a w hD hi hp he hc
     have e9:=hp.o 9 rfl
     try dsimp only at hc
     rw [hi] at hc
     have hf:=he.h0.mP he 14 rfl e9
     refine oB (rows:=([(⟨ap.1,ar.1,ai.1⟩:aR)]:List aR).map aG) (vs:=[(0,.agg #[i6 ap.1,i6 ar.1,i6 ai.1])]) hf hc rfl rfl aJ7 rfl ⟨rfl,rfl,rfl,trivial⟩ rfl rfl fun i1 a w hf hc=>aP ?_
     refine eJ ?_
     intro ds u s
     replace hc:=hc.drop k1
     refine ⟨(nF θ 80 ⟨i1,none,0,(fun _=>(none,0))⟩),he.put hi s hf rfl [] trivial ⟨qq,qq,qq,qq,qq,qq,qq,qq,qq,qq,qq,qq,qq,qq,qq,qq,qq,qq,trivial⟩,?_⟩
     try dsimp only
     rw [aS E 10]
     exact hc
    ·intro E θ a w hD hi hp he hc
     have e1:=hp.o 1 rfl
     have a1:=hp.o 10 rfl
     have a4:=hD.f 3 rfl hi
     try dsimp only at hc
     rw [a1,hi,a4] at hc
     have hf:=(he.h0.mP he 6 rfl e1).mP he 15 rfl a1
     refine pC (xs:=Z) (ys:=([(⟨ap.1,ar.1,ai.1⟩:aR)]:List aR)) hf hc rfl rfl aJ7 rfl rfl rfl rfl rfl oP (kC hc m0) (fun _ _=>u1) (by simpa using fD c9) fun d7 gp a w hf hc=>aP ?_
     refine eJ ?_
     intro ds u s
     refine ⟨(nF θ 88 ⟨0,d7,gp,(fun _=>(none,0))⟩),he.put hi s hf rfl [] trivial ⟨qq,qq,qq,qq,qq,qq,qq,qq,qq,qq,qq,qq,qq,qq,qq,qq,qq,qq,trivial⟩,?_⟩
     try dsimp only
     rw [eC 11 a1,aS E 11,aQ 11 a4 rfl]
     exact hc
    ·intro E θ a w hD hi hp he hc
     have hf:=he.h0.mT he 2 rfl
     refine zP hf rfl (pFA qY rfl) fun a hf=>zD θ he hi hf 17 rfl rfl rfl hc
    ·intro E θ a w hD hi hp he hc
     have ba:=hp.o 11 rfl
     have c3:=hp.o 12 rfl
     try dsimp only at hc
     rw [hi] at hc
     have hf:=(he.h0.mP he 16 rfl ba).mP he 17 rfl c3
     refine zW hf hc aPr u6 rfl fun w hc=>zG θ he hi hf rfl ?_
     try dsimp only
     rw [aS E 13]
     exact hc
    ·intro E θ a w X he hc
     have hf:=he.h0
     have e4:=X 4 rfl
     have e6:=X 6 rfl
     have e8:=X 8 rfl
     have a1:=X 10 rfl
     have ba:=X 11 rfl
     have a4:=X 13 rfl
     replace hf:=hf.more he 4 rfl (onT)
     replace hf:=hf.more he 3 rfl (onT)
     replace hf:=hf.more he 2 rfl (onT)
     replace hf:=hf.more he 1 rfl (onT)
     replace hf:=hf.more he 0 rfl (onT)
     try dsimp only at hc
     rw [e4,e6,e8,a1,ba,a4] at hc
     exact ⟨(θ 80).b,(θ 88).p,(θ 88).c,hf.kp rfl,hc⟩
    rintro a w ⟨dp,b4,b0,hf,hc⟩
    refine g9 _ _ ?_
    refine bV ?_
    refine sp 3 hf rfl fun a hf=>aP ?_
    replace hc:=hc.drop k0
    exact gc (W (k - 1),ai.2.1,ai.2.2,(Z++[(⟨ap.1,ar.1,ai.1⟩:aR)])) _ _ (sj hF).symm ⟨b4,b0,hf.kp rfl,hc⟩
   ·refine wp_exit ?_
    refine aY ?_
    refine aY ?_
    have he:=sj hF
    rw [← he] at cf
    refine fJ ?_
    exact gi _ _ _ cf ⟨m,q,hf.kp rfl,hc⟩
  refine zS fun K h=>zP hf rfl (pFA rF rfl) fun a hf=>zL hf hc hY m4 rfl fun a w hf hc=>zP hf rfl (bG Tryz.underlying23 rfl) fun a hf=>sp 1 hf rfl fun a hf=>zT h ?_
  refine zI hf rfl hF ?_ ?_ <;> clear hF <;> intro hF
  ·refine bV ?_
   refine oB (rows:=([0]:List Int).map aB) (vs:=[(0,i6 0)]) hf hc rfl rfl jA rfl ⟨rfl,rfl,rfl,trivial⟩ rfl rfl fun ga a w hf hc=>zP hf rfl (pFA rF rfl) fun a hf=>zW hf hc vI u5 rfl fun w hc=>aP ?_
   replace hc:=hc.drop k1
   exact du ([0]:List Int) (some ⟨ga,0,none⟩) 1 _ _  (hf.kp rfl) hc hF
  ·refine wp_skip ?_
   exact du ac an ak _ _  (hf.kp rfl) hc hF
 have js:∀ r,x6=.out r→r=aj:=by
  rintro r rfl
  exact sj hF
 replace hc:=hc.nilRow 3 1
 replace hc:=hc.nilRow 27 2
 replace hc:=hc.nilRow 3 1
 refine cZ N (cW (S:=S6) (x:=x6) ?_ N (0,r.2.1,r.2.2,([]:List Int),([]:List aN),([]:List Int)) _ _ ⟨none,0,none,0,none,0,hf.kp rfl,hc⟩ ic)
 clear hF hf hc
 rintro ⟨ag,bu,bt,x,M,ac⟩ dx a w KB6 ⟨aa,z,O,R,an,ak,hf,hc⟩ hF ct ig
 unfold lB at hF
 refine wp_seq_k fun K31 ij=>zS fun K h=>sp 3 hf rfl fun a hf=>zT h ?_
 refine zI hf rfl hF ?_ ?_ <;> clear hF <;> intro hF
 ·refine wp_skip ?_
  refine ij _ _ ?_
  refine wp_seq_k fun K33 ix=>?_
  have c2:∀ (b5:Int) (b1:Int) (ck:List Int) (ci:List aN) (cd:List Int) (ca:Option Addr) (bv:Nat) (b8:Option Addr) (b2:Nat) (b7:Option Addr) (cc:Nat) a w,Has 150 a [(0,pq b_),(4,pq U),(5,pq I),(6,i6 r.1),(7,i6 ag)]→Ctx G (.box b_ [.slice D s_.bytes.length B,i6 b5,i6 b1] 70::.row b7 cc (cd.map aB) 3 1::.row b8 b2 (ci.map aI) 27 2::.row ca bv (ck.map aB) 3 1::.box I [.slice ca ck.length bv,.slice b8 ci.length b2,.slice b7 cd.length cc,.slice none 0 0,i6 0,i6 0,.slice none 0 0] 30::.box U [.slice none 0 0,.slice none 0 0,.slice none 0 0,.slice none 0 0,i6 0,i6 0,.slice none 0 0] 30::Lf) w→oV N ag b5 b1 ck ci cd=some dx→K33 a w:=by
   repeat (clear hF)
   repeat (clear hc)
   repeat (clear hf)
   intro b5 b1 ck ci cd ca bv b8 b2 b7 cc a w hf hc hF
   unfold oV at hF
   refine ix _ _ ?_
   refine bV ?_
   refine sp 3 hf rfl fun a hf=>aP ?_
   replace hc:=(((hc.pick k0).pick k3).pick k3).pick k3
   exact ig (W (ag + 1),b5,b1,ck,ci,cd) _ _ (sj hF).symm ⟨ca,bv,b8,b2,b7,cc,hf.kp rfl,hc⟩
  refine wp_block ?_
  refine zS fun K h=>sp 1 hf rfl fun a hf=>zT h ?_
  refine wp_seq_k fun K35 iy=>?_
  have c7:∀ (down:Int) (bk:Int) (bj:Int) a w,Has 150 a [(0,pq b_),(4,pq U),(5,pq I),(6,i6 r.1),(7,i6 ag),(8,i6 down)]→Ctx G (.box b_ [.slice D s_.bytes.length B,i6 bk,i6 bj] 70::.row an ak (ac.map aB) 3 1::.row O R (M.map aI) 27 2::.row aa z (x.map aB) 3 1::.box I [.slice aa x.length z,.slice O M.length R,.slice an ac.length ak,.slice none 0 0,i6 0,i6 0,.slice none 0 0] 30::.box U [.slice none 0 0,.slice none 0 0,.slice none 0 0,.slice none 0 0,i6 0,i6 0,.slice none 0 0] 30::Lf) w→lH N s_ ag x M ac down bk bj=some dx→K35 a w:=by
   repeat (clear hF)
   repeat (clear hc)
   repeat (clear hf)
   intro down bk bj a w hf hc hF
   unfold lH at hF
   refine iy _ _ ?_
   refine zS fun K h=>sp 1 hf rfl fun a hf=>?_
   obtain ⟨H,da,hF⟩:=aA hF
   refine zC hf uF rfl (cJ (⟨s_.bytes,bk,bj⟩:aZ) 9 J (hc.pick k0) da) ?_
   rintro _ w ⟨rfl,hc⟩
   refine ⟨_,rfl,fun a hf=>?_⟩
   refine sp 1 hf rfl fun a hf=>zT h ?_
   refine wp_seq_k fun K37 it=>?_
   obtain ⟨jn,dj,hF⟩:=aA hF
   obtain ⟨Y,df,hF⟩:=aA hF
   obtain ⟨ji,dc,hF⟩:=aA hF
   replace hc:=hc.nilRow 0 0
   replace hc:=hc.nilRow 0 0
   refine eL (fun θ=>[⟨none,none,0,pq b_⟩,⟨none,none,4,pq U⟩,⟨none,none,5,pq I⟩,⟨none,none,6,i6 r.1⟩,⟨none,none,7,i6 ag⟩,⟨none,none,8,i6 down⟩,⟨none,none,9,i6 H.1⟩,⟨some 0,none,42,pq I⟩,⟨some 1,none,43,.slice aa x.length z⟩,⟨some 2,none,44,i6 down⟩,⟨some 3,none,45,.slice (some ⟨(θ 24).b,0,none⟩) 1 1⟩,⟨some 4,none,46,.slice ((θ 32).p) ((x++[down]).length) ((θ 32).c)⟩,⟨some 5,none,47,.pointer (some ⟨I,1,none⟩)⟩,⟨some 6,none,48,.slice O M.length R⟩,⟨some 7,none,49,i6 H.1⟩,⟨some 8,none,50,i6 H.1⟩,⟨some 9,none,51,pq b_⟩,⟨some 10,none,52,i6 Y.1⟩,⟨some 11,none,53,i6 (W (H.1 + Y.1))⟩,⟨some 12,none,54,.agg #[i6 H.1,i6 (W (H.1 + Y.1))]⟩,⟨some 13,none,55,.slice (some ⟨(θ 104).b,0,none⟩) 1 1⟩,⟨some 14,none,56,.slice ((θ 112).p) ((M++[(⟨H.1,W (H.1 + Y.1)⟩:aN)]).length) ((θ 112).c)⟩,⟨some 15,none,57,pq I⟩,⟨some 17,none,58,.pointer (some ⟨I,1,none⟩)⟩]) (fun E θ=>(bif E 13 then .row (some ⟨(θ 104).b,0,none⟩) 1 (([(⟨H.1,W (H.1 + Y.1)⟩:aN)]:List aN).map aI) 27 2 else .row none 0 [] 0 0)::(bif E 3 then .row (some ⟨(θ 24).b,0,none⟩) 1 (([down]:List Int).map aB) 3 1 else .row none 0 [] 0 0)::(bif E 10 then .box b_ [.slice D s_.bytes.length B,i6 Y.2.1,i6 Y.2.2] 70 else .box b_ [.slice D s_.bytes.length B,i6 H.2.1,i6 H.2.2] 70)::.row an ak (ac.map aB) 3 1::(bif E 14 then .row ((θ 112).p) ((θ 112).c) ((M++[(⟨H.1,W (H.1 + Y.1)⟩:aN)]).map aI) 27 2 else .row O R (M.map aI) 27 2)::(bif E 4 then .row ((θ 32).p) ((θ 32).c) ((x++[down]).map aB) 3 1 else .row aa z (x.map aB) 3 1)::(bif E 18 then .box I [.slice ((θ 32).p) ((x++[down]).length) ((θ 32).c),.slice ((θ 112).p) ((M++[(⟨H.1,W (H.1 + Y.1)⟩:aN)]).length) ((θ 112).c),.slice an ac.length ak,.slice none 0 0,i6 0,i6 0,.slice none 0 0] 30 else bif E 16 then .box I [.slice ((θ 32).p) ((x++[down]).length) ((θ 32).c),.slice O M.length R,.slice an ac.length ak,.slice none 0 0,i6 0,i6 0,.slice none 0 0] 30 else .box I [.slice aa x.length z,.slice O M.length R,.slice an ac.length ak,.slice none 0 0,i6 0,i6 0,.slice none 0 0] 30)::.box U [.slice none 0 0,.slice none 0 0,.slice none 0 0,.slice none 0 0,i6 0,i6 0,.slice none 0 0] 30::Lf) [(16,1),(18,1),(16,4),(18,4),(16,6),(18,6),(18,14),(18,16)] (fun a w=>∃ (cs:Nat) (cn:Nat) (bc:Option Addr) (bd:Nat) (bf:Option Addr) (bb:Nat),Has 150 a [(0,pq b_),(4,pq U),(5,pq I),(6,i6 r.1),(7,i6 ag)]∧Ctx G (.row (some ⟨cs,0,none⟩) 1 (([(⟨H.1,W (H.1 + Y.1)⟩:aN)]:List aN).map aI) 27 2::.row (some ⟨cn,0,none⟩) 1 (([down]:List Int).map aB) 3 1::.box b_ [.slice D s_.bytes.length B,i6 Y.2.1,i6 Y.2.2] 70::.row an ak (ac.map aB) 3 1::.row bc bd ((M++[(⟨H.1,W (H.1 + Y.1)⟩:aN)]).map aI) 27 2::.row bf bb ((x++[down]).map aB) 3 1::.box I [.slice bf ((x++[down]).length) bb,.slice bc ((M++[(⟨H.1,W (H.1 + Y.1)⟩:aN)]).length) bd,.slice an ac.length ak,.slice none 0 0,i6 0,i6 0,.slice none 0 0] 30::.box U [.slice none 0 0,.slice none 0 0,.slice none 0 0,.slice none 0 0,i6 0,i6 0,.slice none 0 0] 30::Lf) w) bA (by kernel_rfl) (by kernel_rfl) (fN.of hf ⟨rfl,rfl,rfl,rfl,rfl,rfl,rfl,trivial,trivial,trivial,trivial,trivial,trivial,trivial,trivial,trivial,trivial,trivial,trivial,trivial,trivial,trivial,trivial,trivial,trivial⟩) hc ⟨?_,?_,?_,?_,?_,?_,?_,?_,?_,?_,?_,?_,?_,?_,?_,?_,?_,?_,?_,trivial⟩ ?_ ?_
   ·intro E θ a w hD hi hp he hc
    have hf:=he.h0.mT he 2 rfl
    refine zP hf rfl (pFA sI rfl) fun a hf=>zD θ he hi hf 7 rfl rfl rfl hc
   ·intro E θ a w hD hi hp he hc
    have e0:=hp.o 0 rfl
    have a2:=hD.f 0 rfl hi
    have az:=hD.f 1 rfl hi
    try dsimp only at hc
    rw [a2,az] at hc
    have hf:=he.h0.mP he 7 rfl e0
    refine zL hf hc hY m6 rfl fun a w hf hc=>zD θ he hi hf 8 rfl rfl rfl ?_
    try dsimp only
    rw [aQ 1 a2 rfl,aQ 1 az rfl]
    exact hc
   ·intro E θ a w hD hi hp he hc
    have hf:=he.h0.mT he 5 rfl
    refine sp 1 hf rfl fun a hf=>zD θ he hi hf 9 rfl rfl rfl hc
   ·intro E θ a w hD hi hp he hc
    have e2:=hp.o 2 rfl
    try dsimp only at hc
    rw [hi] at hc
    have hf:=he.h0.mP he 9 rfl e2
    refine oB (rows:=([down]:List Int).map aB) (vs:=[(0,i6 down)]) hf hc rfl rfl jA rfl ⟨rfl,rfl,rfl,trivial⟩ rfl rfl fun gs a w hf hc=>aP ?_
    refine eJ ?_
    intro ds u s
    replace hc:=((hc.drop k2).pick k0).pick k1
    refine ⟨(nF θ 24 ⟨gs,none,0,(fun _=>(none,0))⟩),he.put hi s hf rfl [] trivial ⟨qq,qq,qq,qq,qq,qq,qq,qq,qq,qq,qq,qq,qq,qq,qq,qq,qq,qq,qq,qq,qq,qq,qq,qq,trivial⟩,?_⟩
    try dsimp only
    rw [aS E 3]
    exact hc
   ·intro E θ a w hD hi hp he hc
    have e1:=hp.o 1 rfl
    have e3:=hp.o 3 rfl
    have a2:=hD.f 2 rfl hi
    have az:=hD.f 3 rfl hi
    try dsimp only at hc
    rw [e3,hi,a2,az] at hc
    have hf:=(he.h0.mP he 8 rfl e1).mP he 10 rfl e3
    refine pC (xs:=x) (ys:=([down]:List Int)) hf hc rfl rfl jA rfl rfl rfl rfl rfl bZ (kC hc m1) (fun _ _=>u5) (by simpa using fD dj) fun d3 gy a w hf hc=>aP ?_
    refine eJ ?_
    intro ds u s
    refine ⟨(nF θ 32 ⟨0,d3,gy,(fun _=>(none,0))⟩),he.put hi s hf rfl [] trivial ⟨qq,qq,qq,qq,qq,qq,qq,qq,qq,qq,qq,qq,qq,qq,qq,qq,qq,qq,qq,qq,qq,qq,qq,qq,trivial⟩,?_⟩
    try dsimp only
    rw [eC 4 e3,aS E 4,aQ 4 a2 rfl,aQ 4 az rfl]
    exact hc
   ·intro E θ a w hD hi hp he hc
    have hf:=he.h0.mT he 2 rfl
    refine zP hf rfl (pFA aBq rfl) fun a hf=>zD θ he hi hf 12 rfl rfl rfl hc
   ·intro E θ a w hD hi hp he hc
    have e5:=hp.o 5 rfl
    have a2:=hD.f 4 rfl hi
    have az:=hD.f 5 rfl hi
    try dsimp only at hc
    rw [a2,az] at hc
    have hf:=he.h0.mP he 12 rfl e5
    refine zL hf hc aFt m6 rfl fun a w hf hc=>zD θ he hi hf 13 rfl rfl rfl ?_
    try dsimp only
    rw [aQ 6 a2 rfl,aQ 6 az rfl]
    exact hc
   ·intro E θ a w hD hi hp he hc
    have hf:=he.h0.mT he 6 rfl
    refine sp 1 hf rfl fun a hf=>zD θ he hi hf 14 rfl rfl rfl hc
   ·intro E θ a w hD hi hp he hc
    have hf:=he.h0.mT he 6 rfl
    refine sp 1 hf rfl fun a hf=>zD θ he hi hf 15 rfl rfl rfl hc
   ·intro E θ a w hD hi hp he hc
    have hf:=he.h0.mT he 0 rfl
    refine sp 1 hf rfl fun a hf=>zD θ he hi hf 16 rfl rfl rfl hc
   ·intro E θ a w hD hi hp he hc
    have e9:=hp.o 9 rfl
    try dsimp only at hc
    rw [hi] at hc
    have hf:=he.h0.mP he 16 rfl e9
    refine zC hf uF rfl (cJ (⟨s_.bytes,H.2.1,H.2.2⟩:aZ) 5 J (hc.pick k2) df) ?_
    rintro _ w ⟨rfl,hc⟩
    refine ⟨_,rfl,fun a hf=>?_⟩
    refine aP ?_
    refine eJ ?_
    intro ds u s
    replace hc:=((hc.pick k0).pick k2).pick k2
    refine ⟨θ,he.put0 hi s hf rfl 17 rfl rfl,?_⟩
    try dsimp only
    rw [aS E 10]
    exact hc
   ·intro E θ a w hD hi hp he hc
    have e8:=hp.o 8 rfl
    have a1:=hp.o 10 rfl
    have hf:=(he.h0.mP he 15 rfl e8).mP he 17 rfl a1
    refine sp 1 hf rfl fun a hf=>zD θ he hi hf 18 rfl rfl rfl hc
   ·intro E θ a w hD hi hp he hc
    have e7:=hp.o 7 rfl
    have ba:=hp.o 11 rfl
    have hf:=(he.h0.mP he 14 rfl e7).mP he 18 rfl ba
    refine zP hf rfl (iF (cells:=[i6 H.1,i6 (W (H.1 + Y.1))]) aNz rfl rfl) fun a hf=>zD θ he hi hf 19 rfl rfl rfl hc
   ·intro E θ a w hD hi hp he hc
    have c3:=hp.o 12 rfl
    try dsimp only at hc
    rw [hi] at hc
    have hf:=he.h0.mP he 19 rfl c3
    refine oB (rows:=([(⟨H.1,W (H.1 + Y.1)⟩:aN)]:List aN).map aI) (vs:=[(0,.agg #[i6 H.1,i6 (W (H.1 + Y.1))])]) hf hc rfl rfl aKn rfl ⟨rfl,rfl,rfl,trivial⟩ rfl rfl fun g7 a w hf hc=>aP ?_
    refine eJ ?_
    intro ds u s
    replace hc:=hc.drop k1
    refine ⟨(nF θ 104 ⟨g7,none,0,(fun _=>(none,0))⟩),he.put hi s hf rfl [] trivial ⟨qq,qq,qq,qq,qq,qq,qq,qq,qq,qq,qq,qq,qq,qq,qq,qq,qq,qq,qq,qq,qq,qq,qq,qq,trivial⟩,?_⟩
    try dsimp only
    rw [aS E 13]
    exact hc
   ·intro E θ a w hD hi hp he hc
    have e6:=hp.o 6 rfl
    have a4:=hp.o 13 rfl
    have az:=hD.f 6 rfl hi
    try dsimp only at hc
    rw [a4,hi,az] at hc
    have hf:=(he.h0.mP he 13 rfl e6).mP he 20 rfl a4
    refine pC (xs:=M) (ys:=([(⟨H.1,W (H.1 + Y.1)⟩:aN)]:List aN)) hf hc rfl rfl aKn rfl rfl rfl rfl rfl wJ (kC hc m0) (fun _ _=>u4) (by simpa using fD dc) fun gz d5 a w hf hc=>aP ?_
    refine eJ ?_
    intro ds u s
    refine ⟨(nF θ 112 ⟨0,gz,d5,(fun _=>(none,0))⟩),he.put hi s hf rfl [] trivial ⟨qq,qq,qq,qq,qq,qq,qq,qq,qq,qq,qq,qq,qq,qq,qq,qq,qq,qq,qq,qq,qq,qq,qq,qq,trivial⟩,?_⟩
    try dsimp only
    rw [eC 14 a4,aS E 14,aQ 14 az rfl]
    exact hc
   ·intro E θ a w hD hi hp he hc
    have hf:=he.h0.mT he 2 rfl
    refine zP hf rfl (pFA sI rfl) fun a hf=>zD θ he hi hf 22 rfl rfl rfl hc
   ·intro E θ a w hD hi hp he hc
    have e4:=hp.o 4 rfl
    have iv:=hp.o 15 rfl
    have az:=hD.f 7 rfl hi
    try dsimp only at hc
    rw [hi,az] at hc
    have hf:=(he.h0.mP he 11 rfl e4).mP he 22 rfl iv
    refine zW hf hc vI u6 rfl fun w hc=>zG θ he hi hf rfl ?_
    try dsimp only
    rw [aS E 16,aQ 16 az rfl]
    exact hc
   ·intro E θ a w hD hi hp he hc
    have hf:=he.h0.mT he 2 rfl
    refine zP hf rfl (pFA aBq rfl) fun a hf=>zD θ he hi hf 23 rfl rfl rfl hc
   ·intro E θ a w hD hi hp he hc
    have cy:=hp.o 14 rfl
    have i9:=hp.o 17 rfl
    have a2:=hp.o 16 rfl
    try dsimp only at hc
    rw [a2,hi] at hc
    have hf:=(he.h0.mP he 21 rfl cy).mP he 23 rfl i9
    refine zW hf hc aO8 u6 rfl fun w hc=>zG θ he hi hf rfl ?_
    try dsimp only
    rw [eC 18 a2,aS E 18]
    exact hc
   ·intro E θ a w X he hc
    have hf:=he.h0
    have e3:=X 3 rfl
    have e4:=X 4 rfl
    have a1:=X 10 rfl
    have a4:=X 13 rfl
    have cy:=X 14 rfl
    have a2:=X 16 rfl
    have az:=X 18 rfl
    replace hf:=hf.more he 4 rfl (onT)
    replace hf:=hf.more he 3 rfl (onT)
    replace hf:=hf.more he 2 rfl (onT)
    replace hf:=hf.more he 1 rfl (onT)
    replace hf:=hf.more he 0 rfl (onT)
    try dsimp only at hc
    rw [e3,e4,a1,a4,cy,a2,az] at hc
    exact ⟨(θ 104).b,(θ 24).b,(θ 112).p,(θ 112).c,(θ 32).p,(θ 32).c,hf.kp rfl,hc⟩
   rintro a w ⟨cs,cn,bc,bd,bf,bb,hf,hc⟩
   refine it _ _ ?_
   refine zS fun K h=>zP hf rfl (pFA rF rfl) fun a hf=>zL hf hc hY m6 rfl fun a w hf hc=>zP hf rfl (bG Tryz.underlying23 rfl) fun a hf=>sp 2 hf rfl fun a hf=>?_
   obtain ⟨bn,c8,hF⟩:=aA hF
   refine (aNw 4 (fun a w=>Has 150 a [(0,pq b_),(4,pq U),(5,pq I),(6,i6 r.1),(7,i6 ag),(59,.pointer (some ⟨I,2,none⟩)),(60,.slice an ac.length ak),(61,i6 ((ac.length:Nat):Int)),(62,.bool (decide (((ac.length:Nat):Int) < 8))),(63,.bool (decide (((ac.length:Nat):Int) < 8))),(67,.bool bn.1)]∧Ctx G (.row (some ⟨cs,0,none⟩) 1 (([(⟨H.1,W (H.1 + Y.1)⟩:aN)]:List aN).map aI) 27 2::.row (some ⟨cn,0,none⟩) 1 (([down]:List Int).map aB) 3 1::.box b_ [.slice D s_.bytes.length B,i6 bn.2.1,i6 bn.2.2] 70::.row an ak (ac.map aB) 3 1::.row bc bd ((M++[(⟨H.1,W (H.1 + Y.1)⟩:aN)]).map aI) 27 2::.row bf bb ((x++[down]).map aB) 3 1::.box I [.slice bf ((x++[down]).length) bb,.slice bc ((M++[(⟨H.1,W (H.1 + Y.1)⟩:aN)]).length) bd,.slice an ac.length ak,.slice none 0 0,i6 0,i6 0,.slice none 0 0] 30::.box U [.slice none 0 0,.slice none 0 0,.slice none 0 0,.slice none 0 0,i6 0,i6 0,.slice none 0 0] 30::Lf) w) ?_ ?_)
   ·cases hb:(decide (((ac.length:Nat):Int) < 8))
    ·rw [hb] at hf
     have hF:=kI hb c8
     obtain rfl:=sj hF
     refine stS hf rfl rfl rfl fun a hf=>stS hf rfl rfl rfl fun a hf=>stS hf rfl rfl rfl fun a hf=>sp 1 hf rfl fun a hf=>aP ⟨hf.kp rfl,hc⟩
    ·rw [hb] at hf
     have hF:=fP hb c8
     refine sp 1 hf rfl fun a hf=>?_
     obtain ⟨ja,dg,hF⟩:=aA hF
     refine zC hf uF rfl (cJ (⟨s_.bytes,Y.2.1,Y.2.2⟩:aZ) 3 J (hc.pick k2) dg) ?_
     rintro _ w ⟨rfl,hc⟩
     refine ⟨_,rfl,fun a hf=>?_⟩
     refine sp 2 hf rfl fun a hf=>?_
     replace hc:=((hc.pick k0).pick k2).pick k2
     obtain rfl:=sj hF
     exact aP ⟨hf.kp rfl,hc⟩
   intro a w ⟨hf,hc⟩
   refine zT h ?_
   refine zI hf rfl hF ?_ ?_ <;> clear hF <;> intro hF
   ·refine bV ?_
    refine zP hf rfl (pFA rF rfl) fun a hf=>zL hf hc hY m6 rfl fun a w hf hc=>sp 1 hf rfl fun a hf=>oB (rows:=([ag]:List Int).map aB) (vs:=[(0,i6 ag)]) hf hc rfl rfl jA rfl ⟨rfl,rfl,rfl,trivial⟩ rfl rfl fun jc a w hf hc=>?_
    obtain ⟨jk,dd,hF⟩:=aA hF
    refine pC (xs:=ac) (ys:=([ag]:List Int)) hf hc rfl rfl jA rfl rfl rfl rfl rfl bZ (kC hc m0) (fun _ _=>u4) (by simpa using fD dd) fun g2 g8 a w hf hc=>zP hf rfl (pFA rF rfl) fun a hf=>zW hf hc vI u7 rfl fun w hc=>aP ?_
    replace hc:=((hc.drop k2).drop k1).drop k0
    exact c2 bn.2.1 bn.2.2 (x++[down]) (M++[(⟨H.1,W (H.1 + Y.1)⟩:aN)]) (ac++[ag]) bf bb bc bd g2 g8 _ _  (hf.kp rfl) hc hF
   ·refine wp_skip ?_
    replace hc:=(hc.drop k1).drop k0
    exact c2 bn.2.1 bn.2.2 (x++[down]) (M++[(⟨H.1,W (H.1 + Y.1)⟩:aN)]) ac bf bb bc bd an ak _ _  (hf.kp rfl) hc hF
  refine zS fun K h=>sp 5 hf rfl fun a hf=>?_
  obtain ⟨bq,c0,hF⟩:=aA hF
  refine (aNw 4 (fun a w=>Has 150 a [(0,pq b_),(4,pq U),(5,pq I),(6,i6 r.1),(7,i6 ag),(8,i6 (-1)),(22,i6 ag),(23,i6 (W (ag + 1))),(24,i6 r.1),(25,.bool (decide ((W (ag + 1)) < r.1))),(26,.bool (decide ((W (ag + 1)) < r.1))),(30,.bool bq.1)]∧Ctx G (.row an ak (ac.map aB) 3 1::.row O R (M.map aI) 27 2::.row aa z (x.map aB) 3 1::.box b_ [.slice D s_.bytes.length B,i6 bq.2.1,i6 bq.2.2] 70::.box I [.slice aa x.length z,.slice O M.length R,.slice an ac.length ak,.slice none 0 0,i6 0,i6 0,.slice none 0 0] 30::.box U [.slice none 0 0,.slice none 0 0,.slice none 0 0,.slice none 0 0,i6 0,i6 0,.slice none 0 0] 30::Lf) w) ?_ ?_)
  ·cases hb:(decide ((W (ag + 1)) < r.1))
   ·rw [hb] at hf
    have hF:=kI hb c0
    obtain rfl:=sj hF
    refine stS hf rfl rfl rfl fun a hf=>stS hf rfl rfl rfl fun a hf=>stS hf rfl rfl rfl fun a hf=>sp 1 hf rfl fun a hf=>aP ⟨hf.kp rfl,hc⟩
   ·rw [hb] at hf
    have hF:=fP hb c0
    refine sp 1 hf rfl fun a hf=>?_
    obtain ⟨jb,dk,hF⟩:=aA hF
    refine zC hf uF rfl (cJ (⟨s_.bytes,bu,bt⟩:aZ) 6 J (hc.pick k3) dk) ?_
    rintro _ w ⟨rfl,hc⟩
    refine ⟨_,rfl,fun a hf=>?_⟩
    refine sp 2 hf rfl fun a hf=>?_
    replace hc:=(((hc.pick k0).pick k3).pick k3).pick k3
    obtain rfl:=sj hF
    exact aP ⟨hf.kp rfl,hc⟩
  intro a w ⟨hf,hc⟩
  refine zT h ?_
  refine zI hf rfl hF ?_ ?_ <;> clear hF <;> intro hF
  ·refine bV ?_
   refine sp 7 hf rfl fun a hf=>zP hf rfl (pMin2 rfl rfl) fun a hf=>?_
   obtain ⟨cq,di,hF⟩:=aA hF
   refine zC hf aLv rfl (oU (⟨s_.bytes,bq.2.1,bq.2.2⟩:aZ) (W (ag + 1)) (min (W (r.1 - 1)) (W (ag + 3))) J (hc.pick k3) di) ?_
   rintro _ w ⟨rfl,hc⟩
   refine ⟨_,rfl,fun a hf=>?_⟩
   refine sp 1 hf rfl fun a hf=>aP ?_
   exact c7 cq.1 cq.2.1 cq.2.2 _ _  (hf.kp rfl) hc hF
  ·refine wp_skip ?_
   replace hc:=(((hc.pick k2).pick k2).pick k2).pick k3
   exact c7 (-1) bq.2.1 bq.2.2 _ _  (hf.kp rfl) hc hF
 ·refine wp_exit ?_
  refine aY ?_
  refine aY ?_
  have he:=sj hF
  rw [← he] at ct
  refine fJ ?_
  exact ik _ _ _ ct ⟨aa,z,O,R,an,ak,hf.kp rfl,hc⟩

def bC (n:Int) (D:Int) (B:Int):Bool :=
 ((decide (D≤n)) && (decide (n≤B)))
theorem oA {G:aT} {Lf:List Ent} {w:World} (n:Int) (B:Int) (D:Int)   (hc:Ctx G (Lf) w) {H:Bool} (hF:bC n B D=H):Calls Tryz.prog 68 #[i6 n,i6 B,i6 D] w (fun e w=>e=.returned (.bool H)∧Ctx G (Lf) w):=by
 unfold bC at hF
 refine bL Tryz.func68 rfl Tryz.ntmps68 rfl fun a hf=>zS fun K h=>sp 1 hf rfl fun a hf=>zT h ?_
 refine zS fun K h=>sp 4 hf rfl fun a hf=>jX 4 (fun a=>Has 15 a [(0,i6 n),(1,i6 B),(2,i6 D),(6,.bool false),(7,i6 n),(8,i6 B),(9,.bool (decide (B≤n))),(10,.bool (decide (B≤n))),(14,.bool ((decide (B≤n)) && (decide (n≤D))))]) hc ?_ ?_
 ·cases hb:(decide (B≤n))
  ·rw [hb] at hf
   refine stS hf rfl rfl rfl fun a hf=>stS hf rfl rfl rfl fun a hf=>stS hf rfl rfl rfl fun a hf=>sp 1 hf rfl fun a hf=>aP ⟨hf.kp rfl,hc⟩
  ·rw [hb] at hf
   refine sp 4 hf rfl fun a hf=>aP ⟨hf.kp rfl,hc⟩
 intro a w ⟨hf,hc⟩
 refine sp 1 hf rfl fun a hf=>zT h ?_
 refine wp_ret ?_
 obtain rfl:=hF
 exact zO1 Tryz.results68 hf rfl ⟨rfl,hc⟩

def lP (s_:aN):Bool :=
 ((bC s_.Lo 0 s_.Hi) && (bC s_.Hi 0 1000))
theorem aAl {G:aT} {Lf:List Ent} {w:World} (s_:aN)   (hc:Ctx G (Lf) w) {D:Bool} (hF:lP s_=D):Calls Tryz.prog 69 #[.agg #[i6 s_.Lo,i6 s_.Hi]] w (fun e w=>e=.returned (.bool D)∧Ctx G (Lf) w):=by
 unfold lP at hF
 refine bL Tryz.func69 rfl Tryz.ntmps69 rfl fun a hf=>zS fun K h=>zB hf hc rfl fun B a w hf hc=>sp 1 hf rfl fun a hf=>zT h ?_
 refine zS fun K h=>zP hf rfl (pFA zJ rfl) fun a hf=>zL hf hc cR m0 rfl fun a w hf hc=>zP hf rfl (pFA zR rfl) fun a hf=>zL hf hc cR m0 rfl fun a w hf hc=>zQ (v:=.bool (bC s_.Lo 0 s_.Hi)) hf hc aB1 rfl (fun w hc=>oA s_.Lo 0 s_.Hi hc rfl) fun a w hf hc=>sp 1 hf rfl fun a hf=>jX 4 (fun a=>Has 13 a [(1,pq B),(2,.bool false),(3,pq B),(4,i6 s_.Lo),(5,.pointer (some ⟨B,1,none⟩)),(6,i6 s_.Hi),(7,.bool (bC s_.Lo 0 s_.Hi)),(8,.bool (bC s_.Lo 0 s_.Hi)),(12,.bool ((bC s_.Lo 0 s_.Hi) && (bC s_.Hi 0 1000)))]) hc ?_ ?_
 ·cases hb:(bC s_.Lo 0 s_.Hi)
  ·rw [hb] at hf
   refine stS hf rfl rfl rfl fun a hf=>stS hf rfl rfl rfl fun a hf=>stS hf rfl rfl rfl fun a hf=>sp 1 hf rfl fun a hf=>aP ⟨hf.kp rfl,hc⟩
  ·rw [hb] at hf
   refine zP hf rfl (pFA zR rfl) fun a hf=>zL hf hc cR m0 rfl fun a w hf hc=>zQ (v:=.bool (bC s_.Hi 0 1000)) hf hc aB1 rfl (fun w hc=>oA s_.Hi 0 1000 hc rfl) fun a w hf hc=>sp 1 hf rfl fun a hf=>aP ⟨hf.kp rfl,hc⟩
 intro a w ⟨hf,hc⟩
 refine sp 1 hf rfl fun a hf=>zT h ?_
 refine wp_ret ?_
 obtain rfl:=hF
 replace hc:=hc.drop k0
 exact zO1 Tryz.results69 hf rfl ⟨rfl,hc⟩

def lD (N:Nat) (l:List Int) (H:Int) (B:Int) (x:Int):Option (bY (Int × Int) (Bool)) :=
 cond (decide (x < ((l.length:Nat):Int)))
 (Option.bind (bE l x) fun D=>
 cond (!(bC D (W (B + 1)) (W (H - 1))))
 (some (.ret false))
 (some (.cont (D,W (x + 1)))))
 (some (.brk (B,x)))
def mS (N:Nat) (l:List Int) (B:Int):Option (Bool) :=
 Option.bind (aX (fun s5=>lD N l B s5.1 s5.2) N ((-1),0)) fun x5=>
 exK x5 (fun s5=>some true) some
theorem uQ {N:Nat} {G:aT} {Lf:List Ent} {w:World} (l:List Int) (D:Int) {O:Option Addr} {I:Nat} (Z:Rd G 1 O I (l.map aB)) (hc:Ctx G (Lf) w) {M:Bool} (hF:mS N l D=some M):Calls Tryz.prog 63 #[.slice O l.length I,i6 D] w (fun e w=>e=.returned (.bool M)∧Ctx G (Lf) w):=by
 unfold mS at hF
 refine bL Tryz.func63 rfl Tryz.ntmps63 rfl fun a hf=>zS fun K h=>sp 1 hf rfl fun a hf=>zT h ?_
 refine zS fun K h=>sp 1 hf rfl fun a hf=>zT h ?_
 refine wp_seq_k fun K3 h3=>zS fun K h=>sp 1 hf rfl fun a hf=>zP hf rfl (bG Tryz.underlying23 rfl) fun a hf=>sp 1 hf rfl fun a hf=>zT h ?_
 refine wp_block ?_
 obtain ⟨x5,U,hF⟩:=aA hF
 let S5:(Int × Int)→Act→World→Prop:=(fun (zz:Int × Int) a w=>Has 23 a [(1,i6 D),(5,i6 zz.1),(8,.slice O l.length I),(9,i6 ((l.length:Nat):Int)),(10,i6 zz.2)]∧Ctx G (Lf) w)
 have X:∀ (zz:Int × Int) a w,x5=.go zz→S5 zz a w→K3 a w:=by
  rintro ⟨H,x⟩ a w rfl ⟨hf,hc⟩
  replace hF:=bK hF
  refine h3 _ _ ?_
  refine zS fun K h=>sp 1 hf rfl fun a hf=>zT h ?_
  refine wp_ret ?_
  obtain rfl:=sj hF
  exact zO1 Tryz.results63 hf rfl ⟨rfl,hc⟩
 have Y:∀ r,x5=.out r→r=M:=by
  rintro r rfl
  exact sj hF
 refine cZ N (cW (S:=S5) (x:=x5) ?_ N ((-1),0) _ _ ⟨hf.kp rfl,hc⟩ U)
 clear hF hf hc
 rintro ⟨H,x⟩ d a w KB5 ⟨hf,hc⟩ hF B b
 unfold lD at hF
 refine zS fun K h=>sp 1 hf rfl fun a hf=>zT h ?_
 refine wp_seq_k fun K8 h8=>zI hf rfl hF ?_ ?_ <;> clear hF <;> intro hF
 ·refine wp_skip ?_
  refine h8 _ _ ?_
  refine wp_seq_k fun K9 h9=>wp_block ?_
  refine zS fun K h=>?_
  obtain ⟨J,R,hF⟩:=aA hF
  obtain ⟨g,o,qa,qp⟩:=Z.atm R
  refine zP hf rfl (pIA Tryz.underlying23 fO rfl rfl qa) fun a hf=>zE hf hc rfl (eP cR rfl (dI (j:=0) qp rfl)) fun a w hf hc=>sp 1 hf rfl fun a hf=>zT h ?_
  refine wp_seq_k fun K11 V=>zS fun K h=>sp 5 hf rfl fun a hf=>zQ (v:=.bool (bC J (W (H + 1)) (W (D - 1)))) hf hc aB1 rfl (fun w hc=>oA J (W (H + 1)) (W (D - 1)) hc rfl) fun a w hf hc=>sp 1 hf rfl fun a hf=>zT h ?_
  refine zI hf rfl hF ?_ ?_ <;> clear hF <;> intro hF
  ·refine zS fun K h=>sp 1 hf rfl fun a hf=>zT h ?_
   refine wp_ret ?_
   refine aL ?_
   refine bS ?_
   refine aL ?_
   refine aL ?_
   have he:=sj hF
   rw [← he] at B
   replace hF:=Y _ B
   refine bS ?_
   refine aL ?_
   obtain rfl:=hF
   exact zO1 Tryz.results63 hf rfl ⟨rfl,hc⟩
  ·refine wp_skip ?_
   refine V _ _ ?_
   refine bV ?_
   refine sp 2 hf rfl fun a hf=>aP ?_
   refine h9 _ _ ?_
   refine bV ?_
   refine sp 2 hf rfl fun a hf=>aP ?_
   exact b (J,W (x + 1)) _ _ (sj hF).symm ⟨hf.kp rfl,hc⟩
 ·refine wp_exit ?_
  refine aY ?_
  refine aY ?_
  have he:=sj hF
  rw [← he] at B
  refine fJ ?_
  exact X _ _ _ B ⟨hf.kp rfl,hc⟩

def lF (n:Int):Bool :=
 (bC n 0 2000)
theorem aAs {G:aT} {Lf:List Ent} {w:World} (n:Int)   (hc:Ctx G (Lf) w) {B:Bool} (hF:lF n=B):Calls Tryz.prog 74 #[i6 n] w (fun e w=>e=.returned (.bool B)∧Ctx G (Lf) w):=by
 unfold lF at hF
 refine bL Tryz.func74 rfl Tryz.ntmps74 rfl fun a hf=>zS fun K h=>sp 1 hf rfl fun a hf=>zT h ?_
 refine zS fun K h=>sp 1 hf rfl fun a hf=>zQ (v:=.bool (bC n 0 2000)) hf hc aB1 rfl (fun w hc=>oA n 0 2000 hc rfl) fun a w hf hc=>sp 1 hf rfl fun a hf=>zT h ?_
 refine wp_ret ?_
 obtain rfl:=hF
 exact zO1 Tryz.results74 hf rfl ⟨rfl,hc⟩

def iT (t_:aR):Bool :=
 ((bC t_.Lead 0 1000) && (lF t_.Alarm))
theorem aAi {G:aT} {Lf:List Ent} {w:World} (t_:aR)   (hc:Ctx G (Lf) w) {B:Bool} (hF:iT t_=B):Calls Tryz.prog 71 #[.agg #[i6 t_.Station,i6 t_.Lead,i6 t_.Alarm]] w (fun e w=>e=.returned (.bool B)∧Ctx G (Lf) w):=by
 unfold iT at hF
 refine bL Tryz.func71 rfl Tryz.ntmps71 rfl fun a hf=>zS fun K h=>zB hf hc rfl fun D a w hf hc=>sp 1 hf rfl fun a hf=>zT h ?_
 refine zS fun K h=>zP hf rfl (pFA aJx rfl) fun a hf=>zL hf hc cR m0 rfl fun a w hf hc=>zQ (v:=.bool (bC t_.Lead 0 1000)) hf hc aB1 rfl (fun w hc=>oA t_.Lead 0 1000 hc rfl) fun a w hf hc=>sp 1 hf rfl fun a hf=>jX 4 (fun a=>Has 11 a [(1,pq D),(2,.bool false),(3,.pointer (some ⟨D,1,none⟩)),(4,i6 t_.Lead),(5,.bool (bC t_.Lead 0 1000)),(6,.bool (bC t_.Lead 0 1000)),(10,.bool ((bC t_.Lead 0 1000) && (lF t_.Alarm)))]) hc ?_ ?_
 ·cases hb:(bC t_.Lead 0 1000)
  ·rw [hb] at hf
   refine stS hf rfl rfl rfl fun a hf=>stS hf rfl rfl rfl fun a hf=>stS hf rfl rfl rfl fun a hf=>sp 1 hf rfl fun a hf=>aP ⟨hf.kp rfl,hc⟩
  ·rw [hb] at hf
   refine zP hf rfl (pFA aOc rfl) fun a hf=>zL hf hc cR m0 rfl fun a w hf hc=>zQ (v:=.bool (lF t_.Alarm)) hf hc aPx rfl (fun w hc=>aAs t_.Alarm hc rfl) fun a w hf hc=>sp 1 hf rfl fun a hf=>aP ⟨hf.kp rfl,hc⟩
 intro a w ⟨hf,hc⟩
 refine sp 1 hf rfl fun a hf=>zT h ?_
 refine wp_ret ?_
 obtain rfl:=hF
 replace hc:=hc.drop k0
 exact zO1 Tryz.results71 hf rfl ⟨rfl,hc⟩

def jK (x:aR):Bool :=
 (!(iT (⟨x.Station,x.Lead,x.Alarm⟩:aR)))
theorem uT {G:aT} {Lf:List Ent} {w:World} (x:aR) {b_:Nat}  (hc:Ctx G (.box b_ [.func (.func 71) #[] #[]] 145::Lf) w) {B:Bool} (hF:jK x=B):Calls Tryz.prog 102 #[.agg #[i6 x.Station,i6 x.Lead,i6 x.Alarm],pq b_] w (fun e w=>e=.returned (.bool B)∧Ctx G (.box b_ [.func (.func 71) #[] #[]] 145::Lf) w):=by
 unfold jK at hF
 refine bL Tryz.func102 rfl Tryz.ntmps102 rfl fun a hf=>zS fun K h=>zB hf hc rfl fun D a w hf hc=>sp 1 hf rfl fun a hf=>zT h ?_
 refine zS fun K h=>zL hf hc aNd m1 rfl fun a w hf hc=>zN hf hc aF9 m0 rfl fun a w hf hc=>zQ (v:=.bool (iT (⟨x.Station,x.Lead,x.Alarm⟩:aR))) hf hc en_71 rfl (fun w hc=>aAi (⟨x.Station,x.Lead,x.Alarm⟩:aR) hc rfl) fun a w hf hc=>sp 2 hf rfl fun a hf=>zT h ?_
 refine wp_ret ?_
 obtain rfl:=hF
 replace hc:=hc.drop k0
 exact zO1 Tryz.results102 hf rfl ⟨rfl,hc⟩

def fX (N:Nat) (s_:List aR) (x:Int):Option (bY (Int) (Int)) :=
 cond (decide (x < ((s_.length:Nat):Int)))
 (Option.bind (bE s_ x) fun B=>
 cond (jK B)
 (some (.ret x))
 (some (.cont (W (x + 1)))))
 (some (.brk x))
def gY (N:Nat) (s_:List aR):Option (Int) :=
 Option.bind (aX (fun s4=>fX N s_ s4) N 0) fun x4=>
 exK x4 (fun s4=>some (-1)) some
theorem oH {N:Nat} {G:aT} {Lf:List Ent} {w:World} (s_:List aR) {I:Option Addr} {H:Nat} {b_:Nat} (O:Rd G 3 I H (s_.map aG)) (hc:Ctx G (.box b_ [.func (.func 71) #[] #[]] 145::Lf) w) {J:Int} (hF:gY N s_=some J):Calls Tryz.prog 130 #[.slice I s_.length H,.func (.func 102) #[] #[pq b_]] w (fun e w=>e=.returned (i6 J)∧Ctx G (.box b_ [.func (.func 71) #[] #[]] 145::Lf) w):=by
 unfold gY at hF
 refine bL Tryz.func130 rfl Tryz.ntmps130 rfl fun a hf=>zS fun K h=>sp 1 hf rfl fun a hf=>zT h ?_
 refine wp_seq_k fun K2 h2=>zS fun K h=>sp 1 hf rfl fun a hf=>zP hf rfl (bG Tryz.underlying25 rfl) fun a hf=>sp 1 hf rfl fun a hf=>zT h ?_
 refine wp_block ?_
 obtain ⟨x4,V,hF⟩:=aA hF
 let S4:Int→Act→World→Prop:=(fun (zz:Int) a w=>Has 19 a [(0,.slice I s_.length H),(1,.func (.func 102) #[] #[pq b_]),(7,i6 ((s_.length:Nat):Int)),(8,i6 zz)]∧Ctx G (.box b_ [.func (.func 71) #[] #[]] 145::Lf) w)
 have R:∀ (zz:Int) a w,x4=.go zz→S4 zz a w→K2 a w:=by
  rintro x a w rfl ⟨hf,hc⟩
  replace hF:=bK hF
  refine h2 _ _ ?_
  refine zS fun K h=>sp 1 hf rfl fun a hf=>zT h ?_
  refine wp_ret ?_
  obtain rfl:=sj hF
  exact zO1 Tryz.results130 hf rfl ⟨rfl,hc⟩
 have X:∀ r,x4=.out r→r=J:=by
  rintro r rfl
  exact sj hF
 refine cZ N (cW (S:=S4) (x:=x4) ?_ N 0 _ _ ⟨hf.kp rfl,hc⟩ V)
 clear hF hf hc
 rintro x Z a w KB4 ⟨hf,hc⟩ hF B U
 unfold fX at hF
 refine zS fun K h=>sp 1 hf rfl fun a hf=>zT h ?_
 refine wp_seq_k fun K7 h7=>zI hf rfl hF ?_ ?_ <;> clear hF <;> intro hF
 ·refine wp_skip ?_
  refine h7 _ _ ?_
  refine wp_seq_k fun K8 h8=>wp_block ?_
  refine zS fun K h=>sp 2 hf rfl fun a hf=>zT h ?_
  refine zS fun K h=>sp 3 hf rfl fun a hf=>?_
  obtain ⟨D,M,hF⟩:=aA hF
  obtain ⟨Y,o,qa,qp⟩:=O.atm M
  refine zP hf rfl (pIA Tryz.underlying25 aC5 rfl rfl qa) fun a hf=>zE hf hc rfl (lK (vs:=[i6 D.Station,i6 D.Lead,i6 D.Alarm]) aF9 rfl rfl (kH qp (n:=3) (o':=0) rfl)) fun a w hf hc=>zQ (v:=.bool (jK D)) hf hc aMs rfl (fun w hc=>(uT D (hc.pick k0) rfl).mono fun e w h=>⟨h.1,(h.2.unpick k0)⟩) fun a w hf hc=>zT h ?_
  refine zI hf rfl hF ?_ ?_ <;> clear hF <;> intro hF
  ·refine zS fun K h=>sp 2 hf rfl fun a hf=>zT h ?_
   refine wp_ret ?_
   refine bS ?_
   refine aL ?_
   refine aL ?_
   have he:=sj hF
   rw [← he] at B
   replace hF:=X _ B
   refine bS ?_
   refine aL ?_
   obtain rfl:=hF
   exact zO1 Tryz.results130 hf rfl ⟨rfl,hc⟩
  ·refine wp_skip ?_
   refine h8 _ _ ?_
   refine bV ?_
   refine sp 2 hf rfl fun a hf=>aP ?_
   exact U (W (x + 1)) _ _ (sj hF).symm ⟨hf.kp rfl,hc⟩
 ·refine wp_exit ?_
  refine aY ?_
  refine aY ?_
  have he:=sj hF
  rw [← he] at B
  refine fJ ?_
  exact R _ _ _ B ⟨hf.kp rfl,hc⟩

def fW (N:Nat) (s_:List aR):Option (Bool) :=
 Option.bind (gY N s_) fun r=>
 some (decide (0≤r))
theorem nQ {N:Nat} {G:aT} {Lf:List Ent} {w:World} (s_:List aR) {B:Option Addr} {D:Nat} {b_:Nat} (I:Rd G 3 B D (s_.map aG)) (hc:Ctx G (.box b_ [.func (.func 71) #[] #[]] 145::Lf) w) {H:Bool} (hF:fW N s_=some H):Calls Tryz.prog 101 #[.slice B s_.length D,.func (.func 102) #[] #[pq b_]] w (fun e w=>e=.returned (.bool H)∧Ctx G (.box b_ [.func (.func 71) #[] #[]] 145::Lf) w):=by
 unfold fW at hF
 refine bL Tryz.func101 rfl Tryz.ntmps101 rfl fun a hf=>zS fun K h=>sp 1 hf rfl fun a hf=>zT h ?_
 refine zS fun K h=>sp 2 hf rfl fun a hf=>?_
 obtain ⟨r,hr,hF⟩:=aA hF
 refine zQ (v:=i6 r) hf hc aMo rfl (fun w hc=>(oH s_ I (hc.pick k0) hr).mono fun e w h=>⟨h.1,(h.2.unpick k0)⟩) fun a w hf hc=>sp 2 hf rfl fun a hf=>zT h ?_
 refine wp_ret ?_
 obtain rfl:=sj hF
 exact zO1 Tryz.results101 hf rfl ⟨rfl,hc⟩

def mO (N:Nat) (l:List aR):Option (Bool) :=
 Option.bind (fW N l) fun r=>
 some (!r)
theorem vT {N:Nat} {G:aT} {Lf:List Ent} {w:World} (l:List aR) {H:Option Addr} {B:Nat} (I:Rd G 3 H B (l.map aG)) (hc:Ctx G (Lf) w) {D:Bool} (hF:mO N l=some D):Calls Tryz.prog 70 #[.slice H l.length B,.func (.func 71) #[] #[]] w (fun e w=>e=.returned (.bool D)∧Ctx G (Lf) w):=by
 unfold mO at hF
 refine bL Tryz.func70 rfl Tryz.ntmps70 rfl fun a hf=>zS fun K h=>zB hf hc rfl fun J a w hf hc=>sp 1 hf rfl fun a hf=>zT h ?_
 refine zS fun K h=>sp 1 hf rfl fun a hf=>zP hf rfl (pMF (us:=[pq J]) rfl rfl) fun a hf=>?_
 obtain ⟨r,hr,hF⟩:=aA hF
 refine zQ (v:=.bool r) hf hc aNg rfl (fun w hc=>(nQ l I (hc.pick k0) hr).mono fun e w h=>⟨h.1,(h.2.unpick k0)⟩) fun a w hf hc=>sp 2 hf rfl fun a hf=>zT h ?_
 refine wp_ret ?_
 obtain rfl:=sj hF
 replace hc:=hc.drop k0
 exact zO1 Tryz.results70 hf rfl ⟨rfl,hc⟩

def mM (t_:aR) (x:Int):Bool :=
 (bC t_.Station 0 (W (x - 1)))
theorem aDh {G:aT} {Lf:List Ent} {w:World} (t_:aR) (x:Int) {b_:Nat}  (hc:Ctx G (.box b_ [i6 x] 3::Lf) w) {B:Bool} (hF:mM t_ x=B):Calls Tryz.prog 72 #[.agg #[i6 t_.Station,i6 t_.Lead,i6 t_.Alarm],pq b_] w (fun e w=>e=.returned (.bool B)∧Ctx G (.box b_ [i6 x] 3::Lf) w):=by
 unfold mM at hF
 refine bL Tryz.func72 rfl Tryz.ntmps72 rfl fun a hf=>zS fun K h=>zB hf hc rfl fun D a w hf hc=>sp 1 hf rfl fun a hf=>zT h ?_
 refine zS fun K h=>zP hf rfl (pFA aHa rfl) fun a hf=>zL hf hc cR m0 rfl fun a w hf hc=>zL hf hc cR m1 rfl fun a w hf hc=>sp 1 hf rfl fun a hf=>zQ (v:=.bool (bC t_.Station 0 (W (x - 1)))) hf hc aB1 rfl (fun w hc=>oA t_.Station 0 (W (x - 1)) hc rfl) fun a w hf hc=>sp 1 hf rfl fun a hf=>zT h ?_
 refine wp_ret ?_
 obtain rfl:=hF
 replace hc:=hc.drop k0
 exact zO1 Tryz.results72 hf rfl ⟨rfl,hc⟩

def iB (x:aR) (B:Int):Bool :=
 (!(mM (⟨x.Station,x.Lead,x.Alarm⟩:aR) B))
theorem sW {G:aT} {Lf:List Ent} {w:World} (x:aR) (D:Int) {b_:Nat} {B:Nat}  (hc:Ctx G (.box b_ [.func (.func 72) #[] #[pq B]] 145::.box B [i6 D] 3::Lf) w) {H:Bool} (hF:iB x D=H):Calls Tryz.prog 102 #[.agg #[i6 x.Station,i6 x.Lead,i6 x.Alarm],pq b_] w (fun e w=>e=.returned (.bool H)∧Ctx G (.box b_ [.func (.func 72) #[] #[pq B]] 145::.box B [i6 D] 3::Lf) w):=by
 unfold iB at hF
 refine bL Tryz.func102 rfl Tryz.ntmps102 rfl fun a hf=>zS fun K h=>zB hf hc rfl fun I a w hf hc=>sp 1 hf rfl fun a hf=>zT h ?_
 refine zS fun K h=>zL hf hc aNd m1 rfl fun a w hf hc=>zN hf hc aF9 m0 rfl fun a w hf hc=>zQ (v:=.bool (mM (⟨x.Station,x.Lead,x.Alarm⟩:aR) D)) hf hc en_72 rfl (fun w hc=>(aDh (⟨x.Station,x.Lead,x.Alarm⟩:aR) D (hc.pick k2) rfl).mono fun e w h=>⟨h.1,(h.2.unpick k2)⟩) fun a w hf hc=>sp 2 hf rfl fun a hf=>zT h ?_
 refine wp_ret ?_
 obtain rfl:=hF
 replace hc:=hc.drop k0
 exact zO1 Tryz.results102 hf rfl ⟨rfl,hc⟩

def fG (N:Nat) (s_:List aR) (f_:Int) (x:Int):Option (bY (Int) (Int)) :=
 cond (decide (x < ((s_.length:Nat):Int)))
 (Option.bind (bE s_ x) fun B=>
 cond (iB B f_)
 (some (.ret x))
 (some (.cont (W (x + 1)))))
 (some (.brk x))
def fV (N:Nat) (s_:List aR) (f_:Int):Option (Int) :=
 Option.bind (aX (fun s4=>fG N s_ f_ s4) N 0) fun x4=>
 exK x4 (fun s4=>some (-1)) some
theorem nP {N:Nat} {G:aT} {Lf:List Ent} {w:World} (s_:List aR) (f_:Int) {J:Option Addr} {I:Nat} {b_:Nat} {B:Nat} (R:Rd G 3 J I (s_.map aG)) (hc:Ctx G (.box b_ [.func (.func 72) #[] #[pq B]] 145::.box B [i6 f_] 3::Lf) w) {M:Int} (hF:fV N s_ f_=some M):Calls Tryz.prog 130 #[.slice J s_.length I,.func (.func 102) #[] #[pq b_]] w (fun e w=>e=.returned (i6 M)∧Ctx G (.box b_ [.func (.func 72) #[] #[pq B]] 145::.box B [i6 f_] 3::Lf) w):=by
 unfold fV at hF
 refine bL Tryz.func130 rfl Tryz.ntmps130 rfl fun a hf=>zS fun K h=>sp 1 hf rfl fun a hf=>zT h ?_
 refine wp_seq_k fun K2 h2=>zS fun K h=>sp 1 hf rfl fun a hf=>zP hf rfl (bG Tryz.underlying25 rfl) fun a hf=>sp 1 hf rfl fun a hf=>zT h ?_
 refine wp_block ?_
 obtain ⟨x4,X,hF⟩:=aA hF
 let S4:Int→Act→World→Prop:=(fun (zz:Int) a w=>Has 19 a [(0,.slice J s_.length I),(1,.func (.func 102) #[] #[pq b_]),(7,i6 ((s_.length:Nat):Int)),(8,i6 zz)]∧Ctx G (.box b_ [.func (.func 72) #[] #[pq B]] 145::.box B [i6 f_] 3::Lf) w)
 have U:∀ (zz:Int) a w,x4=.go zz→S4 zz a w→K2 a w:=by
  rintro x a w rfl ⟨hf,hc⟩
  replace hF:=bK hF
  refine h2 _ _ ?_
  refine zS fun K h=>sp 1 hf rfl fun a hf=>zT h ?_
  refine wp_ret ?_
  obtain rfl:=sj hF
  exact zO1 Tryz.results130 hf rfl ⟨rfl,hc⟩
 have Y:∀ r,x4=.out r→r=M:=by
  rintro r rfl
  exact sj hF
 refine cZ N (cW (S:=S4) (x:=x4) ?_ N 0 _ _ ⟨hf.kp rfl,hc⟩ X)
 clear hF hf hc
 rintro x b a w KB4 ⟨hf,hc⟩ hF D V
 unfold fG at hF
 refine zS fun K h=>sp 1 hf rfl fun a hf=>zT h ?_
 refine wp_seq_k fun K7 h7=>zI hf rfl hF ?_ ?_ <;> clear hF <;> intro hF
 ·refine wp_skip ?_
  refine h7 _ _ ?_
  refine wp_seq_k fun K8 h8=>wp_block ?_
  refine zS fun K h=>sp 2 hf rfl fun a hf=>zT h ?_
  refine zS fun K h=>sp 3 hf rfl fun a hf=>?_
  obtain ⟨H,O,hF⟩:=aA hF
  obtain ⟨Z,o,qa,qp⟩:=R.atm O
  refine zP hf rfl (pIA Tryz.underlying25 aC5 rfl rfl qa) fun a hf=>zE hf hc rfl (lK (vs:=[i6 H.Station,i6 H.Lead,i6 H.Alarm]) aF9 rfl rfl (kH qp (n:=3) (o':=0) rfl)) fun a w hf hc=>zQ (v:=.bool (iB H f_)) hf hc aMs rfl (fun w hc=>(sW H f_ ((hc.pick k1).pick k1) rfl).mono fun e w h=>⟨h.1,((h.2.unpick k1).unpick k1)⟩) fun a w hf hc=>zT h ?_
  refine zI hf rfl hF ?_ ?_ <;> clear hF <;> intro hF
  ·refine zS fun K h=>sp 2 hf rfl fun a hf=>zT h ?_
   refine wp_ret ?_
   refine bS ?_
   refine aL ?_
   refine aL ?_
   have he:=sj hF
   rw [← he] at D
   replace hF:=Y _ D
   refine bS ?_
   refine aL ?_
   obtain rfl:=hF
   exact zO1 Tryz.results130 hf rfl ⟨rfl,hc⟩
  ·refine wp_skip ?_
   refine h8 _ _ ?_
   refine bV ?_
   refine sp 2 hf rfl fun a hf=>aP ?_
   exact V (W (x + 1)) _ _ (sj hF).symm ⟨hf.kp rfl,hc⟩
 ·refine wp_exit ?_
  refine aY ?_
  refine aY ?_
  have he:=sj hF
  rw [← he] at D
  refine fJ ?_
  exact U _ _ _ D ⟨hf.kp rfl,hc⟩

def fH (N:Nat) (s_:List aR) (f_:Int):Option (Bool) :=
 Option.bind (fV N s_ f_) fun r=>
 some (decide (0≤r))
theorem mX {N:Nat} {G:aT} {Lf:List Ent} {w:World} (s_:List aR) (f_:Int) {D:Option Addr} {H:Nat} {b_:Nat} {B:Nat} (J:Rd G 3 D H (s_.map aG)) (hc:Ctx G (.box b_ [.func (.func 72) #[] #[pq B]] 145::.box B [i6 f_] 3::Lf) w) {I:Bool} (hF:fH N s_ f_=some I):Calls Tryz.prog 101 #[.slice D s_.length H,.func (.func 102) #[] #[pq b_]] w (fun e w=>e=.returned (.bool I)∧Ctx G (.box b_ [.func (.func 72) #[] #[pq B]] 145::.box B [i6 f_] 3::Lf) w):=by
 unfold fH at hF
 refine bL Tryz.func101 rfl Tryz.ntmps101 rfl fun a hf=>zS fun K h=>sp 1 hf rfl fun a hf=>zT h ?_
 refine zS fun K h=>sp 2 hf rfl fun a hf=>?_
 obtain ⟨r,hr,hF⟩:=aA hF
 refine zQ (v:=i6 r) hf hc aMo rfl (fun w hc=>(nP s_ f_ J ((hc.pick k1).pick k1) hr).mono fun e w h=>⟨h.1,((h.2.unpick k1).unpick k1)⟩) fun a w hf hc=>sp 2 hf rfl fun a hf=>zT h ?_
 refine wp_ret ?_
 obtain rfl:=sj hF
 exact zO1 Tryz.results101 hf rfl ⟨rfl,hc⟩

def kN (N:Nat) (l:List aR) (so:Int):Option (Bool) :=
 Option.bind (fH N l so) fun r=>
 some (!r)
theorem tZ {N:Nat} {G:aT} {Lf:List Ent} {w:World} (l:List aR) (so:Int) {H:Option Addr} {B:Nat} {b_:Nat} (I:Rd G 3 H B (l.map aG)) (hc:Ctx G (.box b_ [i6 so] 3::Lf) w) {D:Bool} (hF:kN N l so=some D):Calls Tryz.prog 70 #[.slice H l.length B,.func (.func 72) #[] #[pq b_]] w (fun e w=>e=.returned (.bool D)∧Ctx G (.box b_ [i6 so] 3::Lf) w):=by
 unfold kN at hF
 refine bL Tryz.func70 rfl Tryz.ntmps70 rfl fun a hf=>zS fun K h=>zB hf hc rfl fun J a w hf hc=>sp 1 hf rfl fun a hf=>zT h ?_
 refine zS fun K h=>sp 1 hf rfl fun a hf=>zP hf rfl (pMF (us:=[pq J]) rfl rfl) fun a hf=>?_
 obtain ⟨r,hr,hF⟩:=aA hF
 refine zQ (v:=.bool r) hf hc aNg rfl (fun w hc=>(mX l so I ((hc.pick k1).pick k1) hr).mono fun e w h=>⟨h.1,((h.2.unpick k1).unpick k1)⟩) fun a w hf hc=>sp 2 hf rfl fun a hf=>zT h ?_
 refine wp_ret ?_
 obtain rfl:=sj hF
 replace hc:=hc.drop k0
 exact zO1 Tryz.results70 hf rfl ⟨rfl,hc⟩

def gW (N:Nat) (r:aH) (B:Int):Option (Int × Int × Int) :=
 some (B,r.Delay.Lo,r.Delay.Hi)
theorem nY {N:Nat} {G:aT} {Lf:List Ent} {w:World} (r:aH) (V:Int) {S:Option Addr} {U:Nat} {M:Option Addr} {I:Nat} {B:Option Addr} {D:Nat} {R:Option Addr} {O:Nat} {H:Option Addr} {J:Nat} (m:Rd G 1 S U (r.Down.map aB)) (b:Rd G 2 M I (r.Travel.map aI)) (Y:Rd G 1 B D (r.Springs.map aB)) (g:Rd G 3 R O (r.Towns.map aG)) (Z:RdT cH G 2 H J r.Floods) (hc:Ctx G (Lf) w) {X:Int × Int × Int} (hF:gW N r V=some X):Calls Tryz.prog 46 #[.agg #[.slice S r.Down.length U,.slice M r.Travel.length I,.slice B r.Springs.length D,.slice R r.Towns.length O,i6 r.Delay.Lo,i6 r.Delay.Hi,.slice H r.Floods.length J],i6 V] w (fun e w=>∃ (i:Nat) (k:Nat),e=.returned (.func (.func 76) #[] #[pq i,pq k])∧Ctx G (.box i [i6 X.1] 3::.box k [.slice S r.Down.length U,.slice M r.Travel.length I,.slice B r.Springs.length D,.slice R r.Towns.length O,i6 X.2.1,i6 X.2.2,.slice H r.Floods.length J] 30::Lf) w):=by
 unfold gW at hF
 refine bL Tryz.func46 rfl Tryz.ntmps46 rfl fun a hf=>zS fun K h=>zB hf hc rfl fun d a w hf hc=>zB hf hc rfl fun j a w hf hc=>sp 1 hf rfl fun a hf=>zT h ?_
 refine zS fun K h=>zP hf rfl (pMF (us:=[pq j,pq d]) rfl rfl) fun a hf=>sp 1 hf rfl fun a hf=>zT h ?_
 refine wp_ret ?_
 obtain rfl:=sj hF
 exact zO1 Tryz.results46 hf rfl ⟨j,d,rfl,hc⟩

def cN (N:Nat) {σ:Type} (H:aH) (y:σ→(Int × Int)→Option (σ × Bool)) (D:Int) (B:Int) (sg:σ):Option (bY (Int × Int × σ) (σ × Int)) :=
 cond ((B != (-1)) && (decide (B < ((H.Down.length:Nat):Int))))
 (Option.bind (y sg (D,B)) fun ry=>
 cond (!ry.2)
 (some (.ret (ry.1,B)))
 (Option.bind (bE H.Down B) fun I=>
 some (.cont (W (D + 1),I,ry.1))))
 (some (.brk (D,B,sg)))
def iD (N:Nat) {σ:Type} (x:Int) (D:aH) (y:σ→(Int × Int)→Option (σ × Bool)) (B:σ):Option (σ × Int) :=
 Option.bind (aX (fun s3=>cN N D y s3.1 s3.2.1 s3.2.2) N (0,x,B)) fun x3=>
 exK x3 (fun s3=>some (s3.2.2,s3.2.1)) some
theorem mJ {N:Nat} {G:aT} {Lf:List Ent} {w:World} {σ:Type} (x:Int) (B:aH) {b_:Nat} {b:Nat} {X:Option Addr} {Y:Nat} {I:Option Addr} {O:Nat} {D:Option Addr} {H:Nat} {U:Option Addr} {V:Nat} {M:Option Addr} {R:Nat} (i:Rd G 1 X Y (B.Down.map aB)) (q:Rd G 2 I O (B.Travel.map aI)) (m:Rd G 1 D H (B.Springs.map aB)) (t:Rd G 3 U V (B.Towns.map aG)) (p:RdT cH G 2 M R B.Floods) (J:σ→List Ent→Prop) (y:σ→(Int × Int)→Option (σ × Bool)) {l:Nat} (hy:aB8 Tryz.prog G l (fun x:(Int × Int)=>[i6 x.1,i6 x.2]) J y) (s:σ) {Ls0:List Ent} (z:J s Ls0) (hc:Ctx G (.box b_ [i6 x] 3::.box b [.slice X B.Down.length Y,.slice I B.Travel.length O,.slice D B.Springs.length H,.slice U B.Towns.length V,i6 B.Delay.Lo,i6 B.Delay.Hi,.slice M B.Floods.length R] 30::(Ls0++Lf)) w) {k:σ × Int} (hF:iD N x B y s=some k):Calls Tryz.prog 76 #[.func (.yield l) #[] #[],pq b_,pq b] w (fun e w=>(∃ v,e=.returned v)∧∃ L,J k.1 L∧Ctx G (.box b_ [i6 k.2] 3::.box b [.slice X B.Down.length Y,.slice I B.Travel.length O,.slice D B.Springs.length H,.slice U B.Towns.length V,i6 B.Delay.Lo,i6 B.Delay.Hi,.slice M B.Floods.length R] 30::(L++Lf)) w):=by
 unfold iD at hF
 refine bL Tryz.func76 rfl Tryz.ntmps76 rfl fun a hf=>zS fun K h=>sp 1 hf rfl fun a hf=>zT h ?_
 refine iK fun K2 h2=>wp_block ?_
 obtain ⟨x3,ab,hF⟩:=aA hF
 let S3:(Int × Int × σ)→Act→World→Prop:=(fun (zz:Int × Int × σ) a w=>∃ (Ls:List Ent),J zz.2.2 Ls∧Has 26 a [(0,.func (.yield l) #[] #[]),(1,pq b_),(2,pq b),(4,i6 zz.1)]∧Ctx G (.box b_ [i6 zz.2.1] 3::.box b [.slice X B.Down.length Y,.slice I B.Travel.length O,.slice D B.Springs.length H,.slice U B.Towns.length V,i6 B.Delay.Lo,i6 B.Delay.Hi,.slice M B.Floods.length R] 30::(Ls++Lf)) w)
 have aa:∀ (zz:Int × Int × σ) a w,x3=.go zz→S3 zz a w→K2 a w:=by
  rintro ⟨g,Z,sg⟩ a w rfl ⟨Ls,hJ,hf,hc⟩
  replace hF:=bK hF
  refine h2 _ _ ?_
  obtain rfl:=sj hF
  exact qZ (by simp) rfl Tryz.results76 hf ⟨⟨_,rfl⟩,Ls,hJ,hc⟩
 have af:∀ r,x3=.out r→r=k:=by
  rintro r rfl
  exact sj hF
 refine cZ N (cW (S:=S3) (x:=x3) ?_ N (0,x,s) _ _ ⟨Ls0,z,hf.kp rfl,hc⟩ ab)
 clear hF hf hc
 rintro ⟨g,Z,sg⟩ ai a w KB3 ⟨Ls,hJ,hf,hc⟩ hF d ad
 unfold cN at hF
 refine wp_seq_k fun K4 h4=>zS fun K h=>zL hf hc cR m0 rfl fun a w hf hc=>sp 2 hf rfl fun a hf=>jX 6 (fun a=>Has 26 a [(0,.func (.yield l) #[] #[]),(1,pq b_),(2,pq b),(4,i6 g),(5,i6 Z),(6,.bool (Z != (-1))),(7,.bool (Z != (-1))),(13,.bool ((Z != (-1)) && (decide (Z < ((B.Down.length:Nat):Int)))))]) hc ?_ ?_
 ·cases hb:(Z != (-1))
  ·rw [hb] at hf
   refine stS hf rfl rfl rfl fun a hf=>stS hf rfl rfl rfl fun a hf=>stS hf rfl rfl rfl fun a hf=>stS hf rfl rfl rfl fun a hf=>stS hf rfl rfl rfl fun a hf=>sp 1 hf rfl fun a hf=>aP ⟨hf.kp rfl,hc⟩
  ·rw [hb] at hf
   refine zL hf hc cR m0 rfl fun a w hf hc=>zP hf rfl (pFA sI rfl) fun a hf=>zL hf hc hY m1 rfl fun a w hf hc=>zP hf rfl (bG Tryz.underlying23 rfl) fun a hf=>sp 2 hf rfl fun a hf=>aP ⟨hf.kp rfl,hc⟩
 intro a w ⟨hf,hc⟩
 refine zT h ?_
 refine zI hf rfl hF ?_ ?_ <;> clear hF <;> intro hF
 ·refine wp_skip ?_
  refine h4 _ _ ?_
  refine wp_seq_k fun K6 h6=>wp_block ?_
  refine wp_seq_k fun K7 h7=>wp_seq_k fun K8 h8=>?_
  obtain ⟨ry,ac,hF⟩:=aA hF
  refine yReg 3 (fun a w=>Has 26 a [(0,.func (.yield l) #[] #[]),(1,pq b_),(2,pq b),(4,i6 g),(16,.func (.yield l) #[] #[]),(17,i6 g),(18,i6 Z)]∧Ctx G (.box b_ [i6 Z] 3::.box b [.slice X B.Down.length Y,.slice I B.Travel.length O,.slice D B.Springs.length H,.slice U B.Towns.length V,i6 B.Delay.Lo,i6 B.Delay.Hi,.slice M B.Floods.length R] 30::(Ls++Lf)) w) (fun _ _ h=>by obtain ⟨⟨_,h⟩,_⟩:=h; cases h) ?_ ?_
  ·refine sp 2 hf rfl fun a hf=>zL hf hc cR m0 rfl fun a w hf hc=>aP ⟨hf.kp rfl,hc⟩
  rintro a w ⟨hf,hc⟩
  refine stY (own:=[.box b_ [i6 Z] 3,.box b [.slice X B.Down.length Y,.slice I B.Travel.length O,.slice D B.Springs.length H,.slice U B.Towns.length V,i6 B.Delay.Lo,i6 B.Delay.Hi,.slice M B.Floods.length R] 30]) (v:=(g,Z)) hy hJ ac hf hc rfl rfl rfl rfl rfl rfl fun a w Ls_1 n hf hc=>?_
  replace hc:Ctx G (.box b_ [i6 Z] 3::.box b [.slice X B.Down.length Y,.slice I B.Travel.length O,.slice D B.Springs.length H,.slice U B.Towns.length V,i6 B.Delay.Lo,i6 B.Delay.Hi,.slice M B.Floods.length R] 30::(Ls_1++Lf)) w:=hc
  refine aPg (fun _ _ h=>by obtain ⟨⟨_,h⟩,_⟩:=h; cases h) ?_
  refine sp 1 hf rfl fun a hf=>aP ?_
  refine h8 _ _ ?_
  refine zI hf rfl hF ?_ ?_ <;> clear hF <;> intro hF
  ·refine wp_ret ?_
   refine aL ?_
   refine bS ?_
   refine aL ?_
   refine aL ?_
   have he:=sj hF
   rw [← he] at d
   replace hF:=af _ d
   refine bS ?_
   refine aL ?_
   obtain rfl:=hF
   exact qZ (by simp) rfl Tryz.results76 hf ⟨⟨_,rfl⟩,Ls_1,n,hc⟩
  ·refine wp_skip ?_
   refine h7 _ _ ?_
   refine bV ?_
   refine zP hf rfl (pFA sI rfl) fun a hf=>zL hf hc hY m1 rfl fun a w hf hc=>zL hf hc cR m0 rfl fun a w hf hc=>?_
   obtain ⟨ag,u,hF⟩:=aA hF
   obtain ⟨aj,o,qa,qp⟩:=i.atm u
   refine zP hf rfl (pIA Tryz.underlying23 fO rfl rfl qa) fun a hf=>zE hf hc rfl (eP cR rfl (dI (j:=0) qp rfl)) fun a w hf hc=>zW hf hc fO u0 rfl fun w hc=>aP ?_
   refine h6 _ _ ?_
   refine bV ?_
   refine sp 3 hf rfl fun a hf=>aP ?_
   exact ad (W (g + 1),ag,ry.1) _ _ (sj hF).symm ⟨Ls_1,n,hf.kp rfl,hc⟩
 ·refine wp_exit ?_
  refine aY ?_
  refine aY ?_
  have he:=sj hF
  rw [← he] at d
  refine fJ ?_
  exact aa _ _ _ d ⟨Ls,hJ,hf.kp rfl,hc⟩

def fS (N:Nat) (s_:List Int) (v:Int) (x:Int):Option (bY (Int) (Int)) :=
 cond (decide (x < ((s_.length:Nat):Int)))
 (Option.bind (bE s_ x) fun B=>
 cond (v == B)
 (some (.ret x))
 (some (.cont (W (x + 1)))))
 (some (.brk x))
def fY (N:Nat) (s_:List Int) (v:Int):Option (Int) :=
 Option.bind (aX (fun s4=>fS N s_ v s4) N 0) fun x4=>
 exK x4 (fun s4=>some (-1)) some
theorem pV {N:Nat} {G:aT} {Lf:List Ent} {w:World} (s_:List Int) (v:Int) {H:Option Addr} {D:Nat} (M:Rd G 1 H D (s_.map aB)) (hc:Ctx G (Lf) w) {I:Int} (hF:fY N s_ v=some I):Calls Tryz.prog 31 #[.slice H s_.length D,i6 v] w (fun e w=>e=.returned (i6 I)∧Ctx G (Lf) w):=by
 unfold fY at hF
 refine bL Tryz.func31 rfl Tryz.ntmps31 rfl fun a hf=>zS fun K h=>sp 1 hf rfl fun a hf=>zT h ?_
 refine wp_seq_k fun K2 h2=>zS fun K h=>sp 1 hf rfl fun a hf=>zP hf rfl (bG Tryz.underlying23 rfl) fun a hf=>sp 1 hf rfl fun a hf=>zT h ?_
 refine wp_block ?_
 obtain ⟨x4,U,hF⟩:=aA hF
 let S4:Int→Act→World→Prop:=(fun (zz:Int) a w=>Has 19 a [(0,.slice H s_.length D),(1,i6 v),(7,i6 ((s_.length:Nat):Int)),(8,i6 zz)]∧Ctx G (Lf) w)
 have O:∀ (zz:Int) a w,x4=.go zz→S4 zz a w→K2 a w:=by
  rintro x a w rfl ⟨hf,hc⟩
  replace hF:=bK hF
  refine h2 _ _ ?_
  refine zS fun K h=>sp 1 hf rfl fun a hf=>zT h ?_
  refine wp_ret ?_
  obtain rfl:=sj hF
  exact zO1 Tryz.results31 hf rfl ⟨rfl,hc⟩
 have V:∀ r,x4=.out r→r=I:=by
  rintro r rfl
  exact sj hF
 refine cZ N (cW (S:=S4) (x:=x4) ?_ N 0 _ _ ⟨hf.kp rfl,hc⟩ U)
 clear hF hf hc
 rintro x Z a w KB4 ⟨hf,hc⟩ hF B R
 unfold fS at hF
 refine zS fun K h=>sp 1 hf rfl fun a hf=>zT h ?_
 refine wp_seq_k fun K7 h7=>zI hf rfl hF ?_ ?_ <;> clear hF <;> intro hF
 ·refine wp_skip ?_
  refine h7 _ _ ?_
  refine wp_seq_k fun K8 h8=>wp_block ?_
  refine zS fun K h=>sp 2 hf rfl fun a hf=>zT h ?_
  refine zS fun K h=>sp 3 hf rfl fun a hf=>?_
  obtain ⟨X,J,hF⟩:=aA hF
  obtain ⟨Y,o,qa,qp⟩:=M.atm J
  refine zP hf rfl (pIA Tryz.underlying23 fO rfl rfl qa) fun a hf=>zE hf hc rfl (eP cR rfl (dI (j:=0) qp rfl)) fun a w hf hc=>sp 1 hf rfl fun a hf=>zT h ?_
  refine zI hf rfl hF ?_ ?_ <;> clear hF <;> intro hF
  ·refine zS fun K h=>sp 2 hf rfl fun a hf=>zT h ?_
   refine wp_ret ?_
   refine bS ?_
   refine aL ?_
   refine aL ?_
   have he:=sj hF
   rw [← he] at B
   replace hF:=V _ B
   refine bS ?_
   refine aL ?_
   obtain rfl:=hF
   exact zO1 Tryz.results31 hf rfl ⟨rfl,hc⟩
  ·refine wp_skip ?_
   refine h8 _ _ ?_
   refine bV ?_
   refine sp 2 hf rfl fun a hf=>aP ?_
   exact R (W (x + 1)) _ _ (sj hF).symm ⟨hf.kp rfl,hc⟩
 ·refine wp_exit ?_
  refine aY ?_
  refine aY ?_
  have he:=sj hF
  rw [← he] at B
  refine fJ ?_
  exact O _ _ _ B ⟨hf.kp rfl,hc⟩

def bB (N:Nat) (s_:List Int) (v:Int):Option (Bool) :=
 Option.bind (fY N s_ v) fun r=>
 some (decide (0≤r))
theorem cP {N:Nat} {G:aT} {Lf:List Ent} {w:World} (s_:List Int) (v:Int) {B:Option Addr} {D:Nat} (I:Rd G 1 B D (s_.map aB)) (hc:Ctx G (Lf) w) {H:Bool} (hF:bB N s_ v=some H):Calls Tryz.prog 11 #[.slice B s_.length D,i6 v] w (fun e w=>e=.returned (.bool H)∧Ctx G (Lf) w):=by
 unfold bB at hF
 refine bL Tryz.func11 rfl Tryz.ntmps11 rfl fun a hf=>zS fun K h=>sp 1 hf rfl fun a hf=>zT h ?_
 refine zS fun K h=>sp 2 hf rfl fun a hf=>?_
 obtain ⟨r,hr,hF⟩:=aA hF
 refine zQ (v:=i6 r) hf hc aQd rfl (fun w hc=>pV s_ v I hc hr) fun a w hf hc=>sp 2 hf rfl fun a hf=>zT h ?_
 refine wp_ret ?_
 obtain rfl:=sj hF
 exact zO1 Tryz.results11 hf rfl ⟨rfl,hc⟩

def nO (x:Int):Bool :=
 (!(lF x))
theorem aAe {G:aT} {Lf:List Ent} {w:World} (x:Int) {b_:Nat}  (hc:Ctx G (.box b_ [.func (.func 74) #[] #[]] 56::Lf) w) {B:Bool} (hF:nO x=B):Calls Tryz.prog 103 #[i6 x,pq b_] w (fun e w=>e=.returned (.bool B)∧Ctx G (.box b_ [.func (.func 74) #[] #[]] 56::Lf) w):=by
 unfold nO at hF
 refine bL Tryz.func103 rfl Tryz.ntmps103 rfl fun a hf=>zS fun K h=>sp 1 hf rfl fun a hf=>zT h ?_
 refine zS fun K h=>zL hf hc aEm m0 rfl fun a w hf hc=>sp 1 hf rfl fun a hf=>zQ (v:=.bool (lF x)) hf hc aPx rfl (fun w hc=>aAs x hc rfl) fun a w hf hc=>sp 2 hf rfl fun a hf=>zT h ?_
 refine wp_ret ?_
 obtain rfl:=hF
 exact zO1 Tryz.results103 hf rfl ⟨rfl,hc⟩

def kR (N:Nat) (s_:List Int) (x:Int):Option (bY (Int) (Int)) :=
 cond (decide (x < ((s_.length:Nat):Int)))
 (Option.bind (bE s_ x) fun B=>
 cond (nO B)
 (some (.ret x))
 (some (.cont (W (x + 1)))))
 (some (.brk x))
def lX (N:Nat) (s_:List Int):Option (Int) :=
 Option.bind (aX (fun s4=>kR N s_ s4) N 0) fun x4=>
 exK x4 (fun s4=>some (-1)) some
theorem sY {N:Nat} {G:aT} {Lf:List Ent} {w:World} (s_:List Int) {H:Option Addr} {D:Nat} {b_:Nat} (O:Rd G 1 H D (s_.map aB)) (hc:Ctx G (.box b_ [.func (.func 74) #[] #[]] 56::Lf) w) {I:Int} (hF:lX N s_=some I):Calls Tryz.prog 39 #[.slice H s_.length D,.func (.func 103) #[] #[pq b_]] w (fun e w=>e=.returned (i6 I)∧Ctx G (.box b_ [.func (.func 74) #[] #[]] 56::Lf) w):=by
 unfold lX at hF
 refine bL Tryz.func39 rfl Tryz.ntmps39 rfl fun a hf=>zS fun K h=>sp 1 hf rfl fun a hf=>zT h ?_
 refine wp_seq_k fun K2 h2=>zS fun K h=>sp 1 hf rfl fun a hf=>zP hf rfl (bG Tryz.underlying23 rfl) fun a hf=>sp 1 hf rfl fun a hf=>zT h ?_
 refine wp_block ?_
 obtain ⟨x4,V,hF⟩:=aA hF
 let S4:Int→Act→World→Prop:=(fun (zz:Int) a w=>Has 19 a [(0,.slice H s_.length D),(1,.func (.func 103) #[] #[pq b_]),(7,i6 ((s_.length:Nat):Int)),(8,i6 zz)]∧Ctx G (.box b_ [.func (.func 74) #[] #[]] 56::Lf) w)
 have R:∀ (zz:Int) a w,x4=.go zz→S4 zz a w→K2 a w:=by
  rintro x a w rfl ⟨hf,hc⟩
  replace hF:=bK hF
  refine h2 _ _ ?_
  refine zS fun K h=>sp 1 hf rfl fun a hf=>zT h ?_
  refine wp_ret ?_
  obtain rfl:=sj hF
  exact zO1 Tryz.results39 hf rfl ⟨rfl,hc⟩
 have X:∀ r,x4=.out r→r=I:=by
  rintro r rfl
  exact sj hF
 refine cZ N (cW (S:=S4) (x:=x4) ?_ N 0 _ _ ⟨hf.kp rfl,hc⟩ V)
 clear hF hf hc
 rintro x Z a w KB4 ⟨hf,hc⟩ hF B U
 unfold kR at hF
 refine zS fun K h=>sp 1 hf rfl fun a hf=>zT h ?_
 refine wp_seq_k fun K7 h7=>zI hf rfl hF ?_ ?_ <;> clear hF <;> intro hF
 ·refine wp_skip ?_
  refine h7 _ _ ?_
  refine wp_seq_k fun K8 h8=>wp_block ?_
  refine zS fun K h=>sp 2 hf rfl fun a hf=>zT h ?_
  refine zS fun K h=>sp 3 hf rfl fun a hf=>?_
  obtain ⟨J,M,hF⟩:=aA hF
  obtain ⟨Y,o,qa,qp⟩:=O.atm M
  refine zP hf rfl (pIA Tryz.underlying23 fO rfl rfl qa) fun a hf=>zE hf hc rfl (eP cR rfl (dI (j:=0) qp rfl)) fun a w hf hc=>zQ (v:=.bool (nO J)) hf hc aQr rfl (fun w hc=>(aAe J (hc.pick k0) rfl).mono fun e w h=>⟨h.1,(h.2.unpick k0)⟩) fun a w hf hc=>zT h ?_
  refine zI hf rfl hF ?_ ?_ <;> clear hF <;> intro hF
  ·refine zS fun K h=>sp 2 hf rfl fun a hf=>zT h ?_
   refine wp_ret ?_
   refine bS ?_
   refine aL ?_
   refine aL ?_
   have he:=sj hF
   rw [← he] at B
   replace hF:=X _ B
   refine bS ?_
   refine aL ?_
   obtain rfl:=hF
   exact zO1 Tryz.results39 hf rfl ⟨rfl,hc⟩
  ·refine wp_skip ?_
   refine h8 _ _ ?_
   refine bV ?_
   refine sp 2 hf rfl fun a hf=>aP ?_
   exact U (W (x + 1)) _ _ (sj hF).symm ⟨hf.kp rfl,hc⟩
 ·refine wp_exit ?_
  refine aY ?_
  refine aY ?_
  have he:=sj hF
  rw [← he] at B
  refine fJ ?_
  exact R _ _ _ B ⟨hf.kp rfl,hc⟩

def kX (N:Nat) (s_:List Int):Option (Bool) :=
 Option.bind (lX N s_) fun r=>
 some (decide (0≤r))
theorem rK {N:Nat} {G:aT} {Lf:List Ent} {w:World} (s_:List Int) {B:Option Addr} {D:Nat} {b_:Nat} (I:Rd G 1 B D (s_.map aB)) (hc:Ctx G (.box b_ [.func (.func 74) #[] #[]] 56::Lf) w) {H:Bool} (hF:kX N s_=some H):Calls Tryz.prog 36 #[.slice B s_.length D,.func (.func 103) #[] #[pq b_]] w (fun e w=>e=.returned (.bool H)∧Ctx G (.box b_ [.func (.func 74) #[] #[]] 56::Lf) w):=by
 unfold kX at hF
 refine bL Tryz.func36 rfl Tryz.ntmps36 rfl fun a hf=>zS fun K h=>sp 1 hf rfl fun a hf=>zT h ?_
 refine zS fun K h=>sp 2 hf rfl fun a hf=>?_
 obtain ⟨r,hr,hF⟩:=aA hF
 refine zQ (v:=i6 r) hf hc aAn rfl (fun w hc=>(sY s_ I (hc.pick k0) hr).mono fun e w h=>⟨h.1,(h.2.unpick k0)⟩) fun a w hf hc=>sp 2 hf rfl fun a hf=>zT h ?_
 refine wp_ret ?_
 obtain rfl:=sj hF
 exact zO1 Tryz.results36 hf rfl ⟨rfl,hc⟩

def pE (N:Nat) (l:List Int):Option (Bool) :=
 Option.bind (kX N l) fun r=>
 some (!r)
theorem aB2 {N:Nat} {G:aT} {Lf:List Ent} {w:World} (l:List Int) {H:Option Addr} {B:Nat} (I:Rd G 1 H B (l.map aB)) (hc:Ctx G (Lf) w) {D:Bool} (hF:pE N l=some D):Calls Tryz.prog 73 #[.slice H l.length B,.func (.func 74) #[] #[]] w (fun e w=>e=.returned (.bool D)∧Ctx G (Lf) w):=by
 unfold pE at hF
 refine bL Tryz.func73 rfl Tryz.ntmps73 rfl fun a hf=>zS fun K h=>zB hf hc rfl fun J a w hf hc=>sp 1 hf rfl fun a hf=>zT h ?_
 refine zS fun K h=>sp 1 hf rfl fun a hf=>zP hf rfl (pMF (us:=[pq J]) rfl rfl) fun a hf=>?_
 obtain ⟨r,hr,hF⟩:=aA hF
 refine zQ (v:=.bool r) hf hc aAp rfl (fun w hc=>(rK l I (hc.pick k0) hr).mono fun e w h=>⟨h.1,(h.2.unpick k0)⟩) fun a w hf hc=>sp 2 hf rfl fun a hf=>zT h ?_
 refine wp_ret ?_
 obtain rfl:=sj hF
 replace hc:=hc.drop k0
 exact zO1 Tryz.results73 hf rfl ⟨rfl,hc⟩

def oY (N:Nat) (B:Int) (xv:Int) (D:Int):Option (Rs (Int)) :=
 some (.go (W (B + 1)))
def lO (N:Nat) (r:aH) (D:Int):Option (bY (Int) (Int)) :=
 cond (decide (D < ((r.Floods.length:Nat):Int)))
 (Option.bind (bE r.Floods D) fun B=>
 Option.bind (gW N r (max 0 B.Spring)) fun I=>
 Option.bind (iD N I.1 (⟨r.Down,r.Travel,r.Springs,r.Towns,(⟨I.2.1,I.2.2⟩:aN),r.Floods⟩:aH) (rY (fun (zz:Int) (J:(Int × Int))=>oY N zz J.1 J.2)) (.go 0)) fun O=>
 rsK O.1 (fun H=>Option.bind (bB N r.Springs B.Spring) fun R=>
 cond ((!R) || (((B.Stages.length:Nat):Int) != H))
 (some (.ret 2))
 (Option.bind (pE N B.Stages) fun M=>
 cond (!M)
 (some (.ret 130))
 (some (.cont (W (D + 1)))))) (fun H=>none))
 (some (.brk D))
def oG (N:Nat) (r:aH) (x:Int):Option (bY (Int) (Int)) :=
 cond (decide (x < ((r.Down.length:Nat):Int)))
 (Option.bind (bE r.Down x) fun B=>
 cond ((B != (-1)) && (!(bC B (W (x + 1)) (W (((r.Down.length:Nat):Int) - 1)))))
 (some (.ret 2))
 (Option.bind (bE r.Travel x) fun D=>
 cond (!(lP D))
 (some (.ret 130))
 (some (.cont (W (x + 1))))))
 (some (.brk x))
def uO (N:Nat) (r:aH):Option (Int) :=
 cond (((((!(bC ((r.Down.length:Nat):Int) 1 12)) || (((r.Travel.length:Nat):Int) != ((r.Down.length:Nat):Int))) || (!(bC ((r.Springs.length:Nat):Int) 1 8))) || (decide (8 < ((r.Towns.length:Nat):Int)))) || (decide (20 < ((r.Floods.length:Nat):Int))))
 (some 3)
 (Option.bind (aX (fun s8=>oG N r s8) N 0) fun x8=>
 exK x8 (fun s8=>Option.bind (mS N r.Springs ((r.Down.length:Nat):Int)) fun J=>
 cond (!J)
 (some 9)
 (Option.bind (mO N r.Towns) fun D=>
 Option.bind (cond (!D) (some true) (Option.bind (kN N r.Towns ((r.Down.length:Nat):Int)) fun M=>
 some (!M))) fun I=>
 cond (I || (!(lP r.Delay)))
 (some 130)
 (Option.bind (aX (fun B=>lO N r B) N 0) fun H=>
 exK H (fun B=>some 0) some))) some)
theorem aFf {N:Nat} {G:aT} {Lf:List Ent} {w:World} (r:aH) {V:Option Addr} {X:Nat} {O:Option Addr} {M:Nat} {H:Option Addr} {I:Nat} {R:Option Addr} {U:Nat} {B:Option Addr} {D:Nat} (y:Rd G 1 V X (r.Down.map aB)) (q:Rd G 2 O M (r.Travel.map aI)) (b:Rd G 1 H I (r.Springs.map aB)) (i:Rd G 3 R U (r.Towns.map aG)) (s:RdT cH G 2 B D r.Floods) (hc:Ctx G (Lf) w) {ak:Int} (hF:uO N r=some ak):Calls Tryz.prog 42 #[.agg #[.slice V r.Down.length X,.slice O r.Travel.length M,.slice H r.Springs.length I,.slice R r.Towns.length U,i6 r.Delay.Lo,i6 r.Delay.Hi,.slice B r.Floods.length D]] w (fun e w=>e=.returned (i6 ak)∧Ctx G (Lf) w):=by
 unfold uO at hF
 refine aIf Tryz.func42 rfl Tryz.ntmps42 rfl fun a hf=>zS fun K h=>zB hf hc rfl fun Y a w hf hc=>sp 1 hf rfl fun a hf=>zT h ?_
 refine zS fun K h=>zP hf rfl (pFA sI rfl) fun a hf=>zL hf hc hY m0 rfl fun a w hf hc=>zP hf rfl (bG Tryz.underlying23 rfl) fun a hf=>zA hf hc aJs rfl fun t a w hf hc=>zW hf hc fO u0 rfl fun w hc=>zT h ?_
 refine wp_seq_k fun K3 h3=>zS fun K h=>zL hf hc cR m0 rfl fun a w hf hc=>zQ (v:=.bool (bC ((r.Down.length:Nat):Int) 1 12)) hf hc aB1 rfl (fun w hc=>oA ((r.Down.length:Nat):Int) 1 12 hc rfl) fun a w hf hc=>sp 2 hf rfl fun a hf=>jX 6 (fun a=>Has 130 a [(1,pq Y),(3,pq t),(12,i6 ((r.Down.length:Nat):Int)),(13,.bool (bC ((r.Down.length:Nat):Int) 1 12)),(14,.bool (!(bC ((r.Down.length:Nat):Int) 1 12))),(15,.bool (!(bC ((r.Down.length:Nat):Int) 1 12))),(21,.bool ((!(bC ((r.Down.length:Nat):Int) 1 12)) || (((r.Travel.length:Nat):Int) != ((r.Down.length:Nat):Int))))]) hc ?_ ?_
 ·cases hb:(!(bC ((r.Down.length:Nat):Int) 1 12))
  ·rw [hb] at hf
   refine zP hf rfl (pFA aBq rfl) fun a hf=>zL hf hc aFt m1 rfl fun a w hf hc=>zP hf rfl (bG Tryz.underlying24 rfl) fun a hf=>zL hf hc cR m0 rfl fun a w hf hc=>sp 2 hf rfl fun a hf=>aP ⟨hf.kp rfl,hc⟩
  ·rw [hb] at hf
   refine stS hf rfl rfl rfl fun a hf=>stS hf rfl rfl rfl fun a hf=>stS hf rfl rfl rfl fun a hf=>stS hf rfl rfl rfl fun a hf=>stS hf rfl rfl rfl fun a hf=>sp 1 hf rfl fun a hf=>aP ⟨hf.kp rfl,hc⟩
 intro a w ⟨hf,hc⟩
 refine sp 1 hf rfl fun a hf=>jX 6 (fun a=>Has 130 a [(1,pq Y),(3,pq t),(12,i6 ((r.Down.length:Nat):Int)),(13,.bool (bC ((r.Down.length:Nat):Int) 1 12)),(14,.bool (!(bC ((r.Down.length:Nat):Int) 1 12))),(15,.bool (!(bC ((r.Down.length:Nat):Int) 1 12))),(21,.bool ((!(bC ((r.Down.length:Nat):Int) 1 12)) || (((r.Travel.length:Nat):Int) != ((r.Down.length:Nat):Int)))),(22,.bool ((!(bC ((r.Down.length:Nat):Int) 1 12)) || (((r.Travel.length:Nat):Int) != ((r.Down.length:Nat):Int)))),(28,.bool (((!(bC ((r.Down.length:Nat):Int) 1 12)) || (((r.Travel.length:Nat):Int) != ((r.Down.length:Nat):Int))) || (!(bC ((r.Springs.length:Nat):Int) 1 8))))]) hc ?_ ?_
 ·cases hb:((!(bC ((r.Down.length:Nat):Int) 1 12)) || (((r.Travel.length:Nat):Int) != ((r.Down.length:Nat):Int)))
  ·rw [hb] at hf
   refine zP hf rfl (pFA rF rfl) fun a hf=>zL hf hc hY m1 rfl fun a w hf hc=>zP hf rfl (bG Tryz.underlying23 rfl) fun a hf=>zQ (v:=.bool (bC ((r.Springs.length:Nat):Int) 1 8)) hf hc aB1 rfl (fun w hc=>oA ((r.Springs.length:Nat):Int) 1 8 hc rfl) fun a w hf hc=>sp 2 hf rfl fun a hf=>aP ⟨hf.kp rfl,hc⟩
  ·rw [hb] at hf
   refine stS hf rfl rfl rfl fun a hf=>stS hf rfl rfl rfl fun a hf=>stS hf rfl rfl rfl fun a hf=>stS hf rfl rfl rfl fun a hf=>stS hf rfl rfl rfl fun a hf=>sp 1 hf rfl fun a hf=>aP ⟨hf.kp rfl,hc⟩
 intro a w ⟨hf,hc⟩
 refine sp 1 hf rfl fun a hf=>jX 5 (fun a=>Has 130 a [(1,pq Y),(3,pq t),(12,i6 ((r.Down.length:Nat):Int)),(13,.bool (bC ((r.Down.length:Nat):Int) 1 12)),(14,.bool (!(bC ((r.Down.length:Nat):Int) 1 12))),(15,.bool (!(bC ((r.Down.length:Nat):Int) 1 12))),(21,.bool ((!(bC ((r.Down.length:Nat):Int) 1 12)) || (((r.Travel.length:Nat):Int) != ((r.Down.length:Nat):Int)))),(22,.bool ((!(bC ((r.Down.length:Nat):Int) 1 12)) || (((r.Travel.length:Nat):Int) != ((r.Down.length:Nat):Int)))),(28,.bool (((!(bC ((r.Down.length:Nat):Int) 1 12)) || (((r.Travel.length:Nat):Int) != ((r.Down.length:Nat):Int))) || (!(bC ((r.Springs.length:Nat):Int) 1 8)))),(29,.bool (((!(bC ((r.Down.length:Nat):Int) 1 12)) || (((r.Travel.length:Nat):Int) != ((r.Down.length:Nat):Int))) || (!(bC ((r.Springs.length:Nat):Int) 1 8)))),(34,.bool ((((!(bC ((r.Down.length:Nat):Int) 1 12)) || (((r.Travel.length:Nat):Int) != ((r.Down.length:Nat):Int))) || (!(bC ((r.Springs.length:Nat):Int) 1 8))) || (decide (8 < ((r.Towns.length:Nat):Int)))))]) hc ?_ ?_
 ·cases hb:(((!(bC ((r.Down.length:Nat):Int) 1 12)) || (((r.Travel.length:Nat):Int) != ((r.Down.length:Nat):Int))) || (!(bC ((r.Springs.length:Nat):Int) 1 8)))
  ·rw [hb] at hf
   refine zP hf rfl (pFA qY rfl) fun a hf=>zL hf hc aBx m1 rfl fun a w hf hc=>zP hf rfl (bG Tryz.underlying25 rfl) fun a hf=>sp 2 hf rfl fun a hf=>aP ⟨hf.kp rfl,hc⟩
  ·rw [hb] at hf
   refine stS hf rfl rfl rfl fun a hf=>stS hf rfl rfl rfl fun a hf=>stS hf rfl rfl rfl fun a hf=>stS hf rfl rfl rfl fun a hf=>sp 1 hf rfl fun a hf=>aP ⟨hf.kp rfl,hc⟩
 intro a w ⟨hf,hc⟩
 refine sp 1 hf rfl fun a hf=>jX 5 (fun a=>Has 130 a [(1,pq Y),(3,pq t),(12,i6 ((r.Down.length:Nat):Int)),(13,.bool (bC ((r.Down.length:Nat):Int) 1 12)),(14,.bool (!(bC ((r.Down.length:Nat):Int) 1 12))),(15,.bool (!(bC ((r.Down.length:Nat):Int) 1 12))),(21,.bool ((!(bC ((r.Down.length:Nat):Int) 1 12)) || (((r.Travel.length:Nat):Int) != ((r.Down.length:Nat):Int)))),(22,.bool ((!(bC ((r.Down.length:Nat):Int) 1 12)) || (((r.Travel.length:Nat):Int) != ((r.Down.length:Nat):Int)))),(28,.bool (((!(bC ((r.Down.length:Nat):Int) 1 12)) || (((r.Travel.length:Nat):Int) != ((r.Down.length:Nat):Int))) || (!(bC ((r.Springs.length:Nat):Int) 1 8)))),(29,.bool (((!(bC ((r.Down.length:Nat):Int) 1 12)) || (((r.Travel.length:Nat):Int) != ((r.Down.length:Nat):Int))) || (!(bC ((r.Springs.length:Nat):Int) 1 8)))),(34,.bool ((((!(bC ((r.Down.length:Nat):Int) 1 12)) || (((r.Travel.length:Nat):Int) != ((r.Down.length:Nat):Int))) || (!(bC ((r.Springs.length:Nat):Int) 1 8))) || (decide (8 < ((r.Towns.length:Nat):Int))))),(35,.bool ((((!(bC ((r.Down.length:Nat):Int) 1 12)) || (((r.Travel.length:Nat):Int) != ((r.Down.length:Nat):Int))) || (!(bC ((r.Springs.length:Nat):Int) 1 8))) || (decide (8 < ((r.Towns.length:Nat):Int))))),(40,.bool (((((!(bC ((r.Down.length:Nat):Int) 1 12)) || (((r.Travel.length:Nat):Int) != ((r.Down.length:Nat):Int))) || (!(bC ((r.Springs.length:Nat):Int) 1 8))) || (decide (8 < ((r.Towns.length:Nat):Int)))) || (decide (20 < ((r.Floods.length:Nat):Int)))))]) hc ?_ ?_
 ·cases hb:((((!(bC ((r.Down.length:Nat):Int) 1 12)) || (((r.Travel.length:Nat):Int) != ((r.Down.length:Nat):Int))) || (!(bC ((r.Springs.length:Nat):Int) 1 8))) || (decide (8 < ((r.Towns.length:Nat):Int))))
  ·rw [hb] at hf
   refine zP hf rfl (pFA aDv rfl) fun a hf=>zL hf hc aMd m1 rfl fun a w hf hc=>zP hf rfl (bG Tryz.underlying28 rfl) fun a hf=>sp 2 hf rfl fun a hf=>aP ⟨hf.kp rfl,hc⟩
  ·rw [hb] at hf
   refine stS hf rfl rfl rfl fun a hf=>stS hf rfl rfl rfl fun a hf=>stS hf rfl rfl rfl fun a hf=>stS hf rfl rfl rfl fun a hf=>sp 1 hf rfl fun a hf=>aP ⟨hf.kp rfl,hc⟩
 intro a w ⟨hf,hc⟩
 refine zT h ?_
 refine zI hf rfl hF ?_ ?_ <;> clear hF <;> intro hF
 ·refine zS fun K h=>sp 1 hf rfl fun a hf=>zT h ?_
  refine wp_ret ?_
  refine aL ?_
  obtain rfl:=sj hF
  replace hc:=(hc.drop k1).drop k0
  refine aA3 hf ?_
  exact yY Tryz.results42 hf hc (show gR _ 2=_ from rfl) ⟨rfl,hc⟩
 ·refine wp_skip ?_
  refine h3 _ _ ?_
  refine wp_seq_k fun K6 h6=>zS fun K h=>zP hf rfl (pFA sI rfl) fun a hf=>zL hf hc hY m1 rfl fun a w hf hc=>zP hf rfl (bG Tryz.underlying23 rfl) fun a hf=>sp 1 hf rfl fun a hf=>zT h ?_
  refine wp_block ?_
  obtain ⟨x8,bu,hF⟩:=aA hF
  let S8:Int→Act→World→Prop:=(fun (zz:Int) a w=>Has 130 a [(1,pq Y),(3,pq t),(42,.slice V r.Down.length X),(43,i6 ((r.Down.length:Nat):Int)),(44,i6 zz)]∧Ctx G (.box t [i6 ((r.Down.length:Nat):Int)] 3::.box Y [.slice V r.Down.length X,.slice O r.Travel.length M,.slice H r.Springs.length I,.slice R r.Towns.length U,i6 r.Delay.Lo,i6 r.Delay.Hi,.slice B r.Floods.length D] 30::Lf) w)
  have bx:∀ (zz:Int) a w,x8=.go zz→S8 zz a w→K6 a w:=by
   rintro x a w rfl ⟨hf,hc⟩
   replace hF:=bK hF
   refine h6 _ _ ?_
   refine wp_seq_k fun K9 h9=>wp_block ?_
   refine zS fun K h=>zP hf rfl (pFA rF rfl) fun a hf=>zL hf hc hY m1 rfl fun a w hf hc=>zL hf hc cR m0 rfl fun a w hf hc=>?_
   obtain ⟨bm,a8,hF⟩:=aA hF
   refine zQ (v:=.bool bm) hf hc aL4 rfl (fun w hc=>uQ r.Springs ((r.Down.length:Nat):Int) b hc a8) fun a w hf hc=>sp 2 hf rfl fun a hf=>zT h ?_
   refine zI hf rfl hF ?_ ?_ <;> clear hF <;> intro hF
   ·refine zS fun K h=>sp 1 hf rfl fun a hf=>zT h ?_
    refine wp_ret ?_
    refine bS ?_
    refine aL ?_
    obtain rfl:=sj hF
    replace hc:=(hc.drop k1).drop k0
    refine aA3 hf ?_
    exact yY Tryz.results42 hf hc (show gR _ 2=_ from rfl) ⟨rfl,hc⟩
   ·refine zS fun K h=>zP hf rfl (pFA qY rfl) fun a hf=>zL hf hc aBx m1 rfl fun a w hf hc=>?_
    obtain ⟨ab,a7,hF⟩:=aA hF
    refine zQ (v:=.bool ab) hf hc aPo rfl (fun w hc=>vT r.Towns i hc a7) fun a w hf hc=>sp 2 hf rfl fun a hf=>?_
    obtain ⟨ai,au,hF⟩:=aA hF
    refine jX 6 (fun a=>Has 130 a [(1,pq Y),(3,pq t),(77,.pointer (some ⟨Y,3,none⟩)),(78,.slice R r.Towns.length U),(79,.bool ab),(80,.bool (!ab)),(81,.bool (!ab)),(87,.bool ai)]) hc ?_ ?_
    ·cases hb:(!ab)
     ·rw [hb] at hf
      have hF:=kI hb au
      refine zP hf rfl (pFA qY rfl) fun a hf=>zL hf hc aBx m1 rfl fun a w hf hc=>zP hf rfl (pMF (us:=[pq t]) rfl rfl) fun a hf=>?_
      obtain ⟨bt,bb,hF⟩:=aA hF
      refine zQ (v:=.bool bt) hf hc aPo rfl (fun w hc=>(tZ r.Towns ((r.Down.length:Nat):Int) i (hc.pick k0) bb).mono fun e w h=>⟨h.1,(h.2.unpick k0)⟩) fun a w hf hc=>sp 2 hf rfl fun a hf=>?_
      obtain rfl:=sj hF
      exact aP ⟨hf.kp rfl,hc⟩
     ·rw [hb] at hf
      have hF:=fP hb au
      obtain rfl:=sj hF
      refine stS hf rfl rfl rfl fun a hf=>stS hf rfl rfl rfl fun a hf=>stS hf rfl rfl rfl fun a hf=>stS hf rfl rfl rfl fun a hf=>stS hf rfl rfl rfl fun a hf=>sp 1 hf rfl fun a hf=>aP ⟨hf.kp rfl,hc⟩
    intro a w ⟨hf,hc⟩
    refine sp 1 hf rfl fun a hf=>jX 5 (fun a=>Has 130 a [(1,pq Y),(3,pq t),(77,.pointer (some ⟨Y,3,none⟩)),(78,.slice R r.Towns.length U),(79,.bool ab),(80,.bool (!ab)),(81,.bool (!ab)),(87,.bool ai),(88,.bool ai),(93,.bool (ai || (!(lP r.Delay))))]) hc ?_ ?_
    ·cases hb:ai
     ·rw [hb] at hf
      try rw [hb] at hc
      refine zP hf rfl (pFA aB0 rfl) fun a hf=>zN hf hc aDd m1 rfl fun a w hf hc=>zQ (v:=.bool (lP r.Delay)) hf hc aPd rfl (fun w hc=>aAl r.Delay hc rfl) fun a w hf hc=>sp 2 hf rfl fun a hf=>aP ⟨hf.kp rfl,hc⟩
     ·rw [hb] at hf
      try rw [hb] at hc
      refine stS hf rfl rfl rfl fun a hf=>stS hf rfl rfl rfl fun a hf=>stS hf rfl rfl rfl fun a hf=>stS hf rfl rfl rfl fun a hf=>sp 1 hf rfl fun a hf=>aP ⟨hf.kp rfl,hc⟩
    intro a w ⟨hf,hc⟩
    refine sp 1 hf rfl fun a hf=>zT h ?_
    refine zI hf rfl hF ?_ ?_ <;> clear hF <;> intro hF
    ·refine zS fun K h=>sp 1 hf rfl fun a hf=>zT h ?_
     refine wp_ret ?_
     refine bS ?_
     refine aL ?_
     obtain rfl:=sj hF
     replace hc:=(hc.drop k1).drop k0
     refine aA3 hf ?_
     exact yY Tryz.results42 hf hc (show gR _ 2=_ from rfl) ⟨rfl,hc⟩
    ·refine wp_skip ?_
     refine h9 _ _ ?_
     refine wp_seq_k fun K14 bq=>zS fun K h=>zP hf rfl (pFA aDv rfl) fun a hf=>zL hf hc aMd m1 rfl fun a w hf hc=>zP hf rfl (bG Tryz.underlying28 rfl) fun a hf=>sp 1 hf rfl fun a hf=>zT h ?_
     refine wp_block ?_
     obtain ⟨av,a0,hF⟩:=aA hF
     let S16:Int→Act→World→Prop:=(fun (zz:Int) a w=>∃ (Ds:List Nat),Has ⟨130,tE Ds⟩ a [(1,pq Y),(95,.slice B r.Floods.length D),(96,i6 ((r.Floods.length:Nat):Int)),(97,i6 zz)]∧Ctx G (.box Y [.slice V r.Down.length X,.slice O r.Travel.length M,.slice H r.Springs.length I,.slice R r.Towns.length U,i6 r.Delay.Lo,i6 r.Delay.Hi,.slice B r.Floods.length D] 30::(aAc Ds++Lf)) w)
     have a4:∀ (zz:Int) a w,av=.go zz→S16 zz a w→K14 a w:=by
      rintro ac a w rfl ⟨Ds,hf,hc⟩
      replace hF:=bK hF
      refine bq _ _ ?_
      refine zS fun K h=>sp 1 hf rfl fun a hf=>zT h ?_
      refine wp_ret ?_
      obtain rfl:=sj hF
      replace hc:=hc.drop k0
      refine aA3 hf ?_
      refine aAr [] Ds hc fun w hc=>?_
      replace hc:Ctx G (Lf) w:=hc
      exact yY Tryz.results42 hf hc (show gR _ 2=_ from rfl) ⟨rfl,hc⟩
     have am:∀ r,av=.out r→r=ak:=by
      rintro r rfl
      exact sj hF
     replace hf:=markZ hf
     replace hc:Ctx G (.box t [i6 ((r.Down.length:Nat):Int)] 3::.box Y [.slice V r.Down.length X,.slice O r.Travel.length M,.slice H r.Springs.length I,.slice R r.Towns.length U,i6 r.Delay.Lo,i6 r.Delay.Hi,.slice B r.Floods.length D] 30::(aAc []++Lf)) w:=hc
     replace hc:=hc.drop k0
     refine cZ N (cW (S:=S16) (x:=av) ?_ N 0 _ _ ⟨[],hf.kp rfl,hc⟩ a0)
     clear hF hf hc
     rintro ac ar a w KB16 ⟨Ds,hf,hc⟩ hF p bg
     unfold lO at hF
     refine zS fun K h=>sp 1 hf rfl fun a hf=>zT h ?_
     refine wp_seq_k fun K19 bz=>zI hf rfl hF ?_ ?_ <;> clear hF <;> intro hF
     ·refine wp_skip ?_
      refine bz _ _ ?_
      refine wp_seq_k fun K20 bs=>wp_block ?_
      refine zS fun K h=>?_
      obtain ⟨Z,a5,hF⟩:=aA hF
      obtain ⟨b3,o,hd,qa,qp,qr⟩:=s.atm a5
      refine zP hf rfl (pIA Tryz.underlying28 aNn rfl rfl qa) fun a hf=>zE hf hc rfl (lK (vs:=[i6 Z.Spring,.slice hd.1 Z.Stages.length hd.2]) aPe rfl rfl (kH qp (n:=2) (o':=0) rfl)) fun a w hf hc=>zA hf hc aP0 rfl fun g a w hf hc=>zW hf hc aNn u0 rfl fun w hc=>zT h ?_
      refine zS fun K h=>zA hf hc aJs rfl fun m a w hf hc=>zW hf hc fO u0 rfl fun w hc=>zT h ?_
      refine wp_seq_k fun K23 bj=>zS fun K h=>zN hf hc oK m2 rfl fun a w hf hc=>zP hf rfl (pFA aG2 rfl) fun a hf=>zL hf hc cR m1 rfl fun a w hf hc=>zP hf rfl (pMax2 rfl rfl) fun a hf=>?_
      obtain ⟨d,bf,hF⟩:=aA hF
      refine zC hf aKe rfl (nY r (max 0 Z.Spring) y q b i s hc bf) ?_
      rintro _ w ⟨ad,ag,rfl,hc⟩
      refine ⟨_,rfl,fun a hf=>?_⟩
      refine zT h ?_
      obtain ⟨af,ba,hF⟩:=aA hF
      refine aEw (C:=[.box ad [i6 d.1] 3,.box ag [.slice V r.Down.length X,.slice O r.Travel.length M,.slice H r.Springs.length I,.slice R r.Towns.length U,i6 d.2.1,i6 d.2.2,.slice B r.Floods.length D] 30]) (C2:=[.box ad [i6 af.2] 3,.box ag [.slice V r.Down.length X,.slice O r.Travel.length M,.slice H r.Springs.length I,.slice R r.Towns.length U,i6 d.2.1,i6 d.2.2,.slice B r.Floods.length D] 30]) (L0:=[.box m [i6 0] 3,.box g [i6 Z.Spring,.slice hd.1 Z.Stages.length hd.2] 68,.box Y [.slice V r.Down.length X,.slice O r.Travel.length M,.slice H r.Springs.length I,.slice R r.Towns.length U,i6 r.Delay.Lo,i6 r.Delay.Hi,.slice B r.Floods.length D] 30]) (Lf:=(aAc Ds++Lf)) (encs:=fun x:(Int × Int)=>[i6 x.1,i6 x.2]) (fun (zz:Int) L=>L=[.box m [i6 zz] 3,.box g [i6 Z.Spring,.slice hd.1 Z.Stages.length hd.2] 68,.box Y [.slice V r.Down.length X,.slice O r.Travel.length M,.slice H r.Springs.length I,.slice R r.Towns.length U,i6 r.Delay.Lo,i6 r.Delay.Hi,.slice B r.Floods.length D] 30]) (fun (zz:Int) (ay:(Int × Int))=>oY N zz ay.1 ay.2) 0 af.1 hf hc rfl aKs (fun _=>rfl) rfl rfl ?_ ?_ ?_ ?_
      ·intro lq mq J L Lx w hy hJ hc
       exact mJ d.1 (⟨r.Down,r.Travel,r.Springs,r.Towns,(⟨d.2.1,d.2.2⟩:aN),r.Floods⟩:aH) y q b i s J _ hy _ hJ hc ba
      ·clear hF hf hc
       rintro lq mq k ⟨xv,aq⟩ oq _ Lr Lb a w b4 rfl hF hf hc hK
       replace hf:Has 130 a [(1,pq Y),(7,pq g),(8,pq m),(95,.slice B r.Floods.length D),(96,i6 ((r.Floods.length:Nat):Int)),(97,i6 ac),(106,i6 xv),(107,i6 aq)]:=hf.kp rfl
       replace hc:Ctx G (.box m [i6 k] 3::.box g [i6 Z.Spring,.slice hd.1 Z.Stages.length hd.2] 68::.box Y [.slice V r.Down.length X,.slice O r.Travel.length M,.slice H r.Springs.length I,.slice R r.Towns.length U,i6 r.Delay.Lo,i6 r.Delay.Hi,.slice B r.Floods.length D] 30::Lr) w:=hc
       replace hF:oY N k xv aq=some oq:=hF
       unfold oY at hF
       refine aC6 ?_
       refine hK _ _ [.box m [i6 k] 3,.box g [i6 Z.Spring,.slice hd.1 Z.Stages.length hd.2] 68,.box Y [.slice V r.Down.length X,.slice O r.Travel.length M,.slice H r.Springs.length I,.slice R r.Towns.length U,i6 r.Delay.Lo,i6 r.Delay.Hi,.slice B r.Floods.length D] 30] hc fun w hc=>?_
       replace hc:Ctx G (.box m [i6 k] 3::.box g [i6 Z.Spring,.slice hd.1 Z.Stages.length hd.2] 68::.box Y [.slice V r.Down.length X,.slice O r.Travel.length M,.slice H r.Springs.length I,.slice R r.Towns.length U,i6 r.Delay.Lo,i6 r.Delay.Hi,.slice B r.Floods.length D] 30::Lb) w:=hc
       refine aE8 fun K26 bv=>aA8 ?_
       refine vN (fun _ _ h=>h) rfl ?_
       refine zL hf hc cR m0 rfl fun a w hf hc=>sp 1 hf rfl fun a hf=>zW hf hc fO u0 rfl fun w hc=>aP ?_
       refine bv _ _ ?_
       exact ⟨W (k + 1),_,(sj hF).symm,rfl,hc⟩
      ·rintro D_1 k _ a w ap rfl hf hc
       replace hf:Has ⟨130,tE (D_1::Ds)⟩ a [(1,pq Y),(7,pq g),(8,pq m),(95,.slice B r.Floods.length D),(96,i6 ((r.Floods.length:Nat):Int)),(97,i6 ac)]:=hf.kp rfl
       replace hc:Ctx G (.box ad [i6 af.2] 3::.box ag [.slice V r.Down.length X,.slice O r.Travel.length M,.slice H r.Springs.length I,.slice R r.Towns.length U,i6 d.2.1,i6 d.2.2,.slice B r.Floods.length D] 30::.box m [i6 k] 3::.box g [i6 Z.Spring,.slice hd.1 Z.Stages.length hd.2] 68::.box Y [.slice V r.Down.length X,.slice O r.Travel.length M,.slice H r.Springs.length I,.slice R r.Towns.length U,i6 r.Delay.Lo,i6 r.Delay.Hi,.slice B r.Floods.length D] 30::(aAc (D_1::Ds)++Lf)) w:=vJ (C:=[.box ad [i6 af.2] 3,.box ag [.slice V r.Down.length X,.slice O r.Travel.length M,.slice H r.Springs.length I,.slice R r.Towns.length U,i6 d.2.1,i6 d.2.2,.slice B r.Floods.length D] 30]) (L:=[.box m [i6 k] 3,.box g [i6 Z.Spring,.slice hd.1 Z.Stages.length hd.2] 68,.box Y [.slice V r.Down.length X,.slice O r.Travel.length M,.slice H r.Springs.length I,.slice R r.Towns.length U,i6 r.Delay.Lo,i6 r.Delay.Hi,.slice B r.Floods.length D] 30]) hc
       replace hF:(Option.bind (bB N r.Springs Z.Spring) fun aa=>cond ((!aa) || (((Z.Stages.length:Nat):Int) != k)) (some (.ret 2)) (Option.bind (pE N Z.Stages) fun an=>cond (!an) (some (.ret 130)) (some (.cont (W (ac + 1))))))=some ar:=by rcases ap with h_ | h_ <;> (rw [h_] at hF; exact hF)
       refine bj _ _ ?_
       refine iK fun K27 bk=>wp_block ?_
       refine zS fun K h=>zP hf rfl (pFA rF rfl) fun a hf=>zL hf hc hY m4 rfl fun a w hf hc=>zP hf rfl (pFA aG2 rfl) fun a hf=>zL hf hc cR m3 rfl fun a w hf hc=>?_
       obtain ⟨aa,a9,hF⟩:=aA hF
       refine zQ (v:=.bool aa) hf hc aB4 rfl (fun w hc=>cP r.Springs Z.Spring b hc a9) fun a w hf hc=>sp 2 hf rfl fun a hf=>jX 6 (fun a=>Has ⟨130,tE (D_1::Ds)⟩ a [(1,pq Y),(7,pq g),(8,pq m),(95,.slice B r.Floods.length D),(96,i6 ((r.Floods.length:Nat):Int)),(97,i6 ac),(111,.pointer (some ⟨Y,2,none⟩)),(112,.slice H r.Springs.length I),(113,pq g),(114,i6 Z.Spring),(115,.bool aa),(116,.bool (!aa)),(117,.bool (!aa)),(123,.bool ((!aa) || (((Z.Stages.length:Nat):Int) != k)))]) hc ?_ ?_
       ·cases hb:(!aa)
        ·rw [hb] at hf
         refine zP hf rfl (pFA aDy rfl) fun a hf=>zL hf hc hY m3 rfl fun a w hf hc=>zP hf rfl (bG Tryz.underlying23 rfl) fun a hf=>zL hf hc cR m2 rfl fun a w hf hc=>sp 2 hf rfl fun a hf=>aP ⟨hf.kp rfl,hc⟩
        ·rw [hb] at hf
         refine stS hf rfl rfl rfl fun a hf=>stS hf rfl rfl rfl fun a hf=>stS hf rfl rfl rfl fun a hf=>stS hf rfl rfl rfl fun a hf=>stS hf rfl rfl rfl fun a hf=>sp 1 hf rfl fun a hf=>aP ⟨hf.kp rfl,hc⟩
       intro a w ⟨hf,hc⟩
       refine sp 1 hf rfl fun a hf=>zT h ?_
       refine zI hf rfl hF ?_ ?_ <;> clear hF <;> intro hF
       ·refine zS fun K h=>sp 1 hf rfl fun a hf=>zT h ?_
        refine wp_ret ?_
        refine bS ?_
        refine aL ?_
        refine bS ?_
        refine aL ?_
        refine aL ?_
        have he:=sj hF
        rw [← he] at p
        replace hF:=am _ p
        refine bS ?_
        refine aL ?_
        obtain rfl:=hF
        replace hc:=((((hc.drop k4).drop k3).drop k2).drop k1).drop k0
        refine aA3 hf ?_
        refine aAr [] (D_1::Ds) hc fun w hc=>?_
        replace hc:Ctx G (Lf) w:=hc
        exact yY Tryz.results42 hf hc (show gR _ 2=_ from rfl) ⟨rfl,hc⟩
       ·refine zS fun K h=>zP hf rfl (pFA aDy rfl) fun a hf=>zL hf hc hY m3 rfl fun a w hf hc=>?_
        obtain ⟨an,a2,hF⟩:=aA hF
        refine zQ (v:=.bool an) hf hc en_73 rfl (fun w hc=>aB2 Z.Stages qr hc a2) fun a w hf hc=>sp 2 hf rfl fun a hf=>zT h ?_
        refine zI hf rfl hF ?_ ?_ <;> clear hF <;> intro hF
        ·refine zS fun K h=>sp 1 hf rfl fun a hf=>zT h ?_
         refine wp_ret ?_
         refine bS ?_
         refine aL ?_
         refine bS ?_
         refine aL ?_
         refine aL ?_
         have he:=sj hF
         rw [← he] at p
         replace hF:=am _ p
         refine bS ?_
         refine aL ?_
         obtain rfl:=hF
         replace hc:=((((hc.drop k4).drop k3).drop k2).drop k1).drop k0
         refine aA3 hf ?_
         refine aAr [] (D_1::Ds) hc fun w hc=>?_
         replace hc:Ctx G (Lf) w:=hc
         exact yY Tryz.results42 hf hc (show gR _ 2=_ from rfl) ⟨rfl,hc⟩
        ·refine wp_skip ?_
         refine bk _ _ ?_
         refine bs _ _ ?_
         refine bV ?_
         refine sp 2 hf rfl fun a hf=>aP ?_
         replace hc:=(((hc.drop k3).drop k2).drop k1).drop k0
         exact bg (W (ac + 1)) _ _ (sj hF).symm ⟨(D_1::Ds),hf.kp rfl,hc⟩
      ·rintro D_1 k _ a w ap rfl hf hc
       replace hf:Has ⟨130,tE (D_1::Ds)⟩ a [(1,pq Y),(7,pq g),(8,pq m),(95,.slice B r.Floods.length D),(96,i6 ((r.Floods.length:Nat):Int)),(97,i6 ac)]:=hf.kp rfl
       replace hc:Ctx G (.box ad [i6 af.2] 3::.box ag [.slice V r.Down.length X,.slice O r.Travel.length M,.slice H r.Springs.length I,.slice R r.Towns.length U,i6 d.2.1,i6 d.2.2,.slice B r.Floods.length D] 30::.box m [i6 k] 3::.box g [i6 Z.Spring,.slice hd.1 Z.Stages.length hd.2] 68::.box Y [.slice V r.Down.length X,.slice O r.Travel.length M,.slice H r.Springs.length I,.slice R r.Towns.length U,i6 r.Delay.Lo,i6 r.Delay.Hi,.slice B r.Floods.length D] 30::(aAc (D_1::Ds)++Lf)) w:=vJ (C:=[.box ad [i6 af.2] 3,.box ag [.slice V r.Down.length X,.slice O r.Travel.length M,.slice H r.Springs.length I,.slice R r.Towns.length U,i6 d.2.1,i6 d.2.2,.slice B r.Floods.length D] 30]) (L:=[.box m [i6 k] 3,.box g [i6 Z.Spring,.slice hd.1 Z.Stages.length hd.2] 68,.box Y [.slice V r.Down.length X,.slice O r.Travel.length M,.slice H r.Springs.length I,.slice R r.Towns.length U,i6 r.Delay.Lo,i6 r.Delay.Hi,.slice B r.Floods.length D] 30]) hc
       replace hF:(none)=some ar:=by rw [ap] at hF; exact hF
       cases hF
     ·refine wp_exit ?_
      refine aY ?_
      refine aY ?_
      have he:=sj hF
      rw [← he] at p
      refine fJ ?_
      exact a4 _ _ _ p ⟨Ds,hf.kp rfl,hc⟩
  have ax:∀ r,x8=.out r→r=ak:=by
   rintro r rfl
   exact sj hF
  refine cZ N (cW (S:=S8) (x:=x8) ?_ N 0 _ _ ⟨hf.kp rfl,hc⟩ bu)
  clear hF hf hc
  rintro x b6 a w KB8 ⟨hf,hc⟩ hF u bn
  unfold oG at hF
  refine zS fun K h=>sp 1 hf rfl fun a hf=>zT h ?_
  refine wp_seq_k fun K33 bi=>zI hf rfl hF ?_ ?_ <;> clear hF <;> intro hF
  ·refine wp_skip ?_
   refine bi _ _ ?_
   refine wp_seq_k fun K34 br=>wp_block ?_
   refine zS fun K h=>sp 1 hf rfl fun a hf=>?_
   obtain ⟨z,a6,hF⟩:=aA hF
   obtain ⟨b2,b1,a1,bc⟩:=y.atm a6
   refine zP hf rfl (pIA Tryz.underlying23 fO rfl rfl a1) fun a hf=>zE hf hc rfl (eP cR rfl (dI (j:=0) bc rfl)) fun a w hf hc=>sp 2 hf rfl fun a hf=>zT h ?_
   refine iK fun K36 bp=>wp_block ?_
   refine zS fun K h=>sp 3 hf rfl fun a hf=>jX 8 (fun a=>Has 130 a [(1,pq Y),(3,pq t),(42,.slice V r.Down.length X),(43,i6 ((r.Down.length:Nat):Int)),(44,i6 x),(4,i6 x),(5,i6 z),(50,i6 z),(51,.bool (z != (-1))),(52,.bool (z != (-1))),(60,.bool ((z != (-1)) && (!(bC z (W (x + 1)) (W (((r.Down.length:Nat):Int) - 1))))))]) hc ?_ ?_
   ·cases hb:(z != (-1))
    ·rw [hb] at hf
     refine stS hf rfl rfl rfl fun a hf=>stS hf rfl rfl rfl fun a hf=>stS hf rfl rfl rfl fun a hf=>stS hf rfl rfl rfl fun a hf=>stS hf rfl rfl rfl fun a hf=>stS hf rfl rfl rfl fun a hf=>stS hf rfl rfl rfl fun a hf=>sp 1 hf rfl fun a hf=>aP ⟨hf.kp rfl,hc⟩
    ·rw [hb] at hf
     refine sp 3 hf rfl fun a hf=>zL hf hc cR m0 rfl fun a w hf hc=>sp 1 hf rfl fun a hf=>zQ (v:=.bool (bC z (W (x + 1)) (W (((r.Down.length:Nat):Int) - 1)))) hf hc aB1 rfl (fun w hc=>oA z (W (x + 1)) (W (((r.Down.length:Nat):Int) - 1)) hc rfl) fun a w hf hc=>sp 2 hf rfl fun a hf=>aP ⟨hf.kp rfl,hc⟩
   intro a w ⟨hf,hc⟩
   refine sp 1 hf rfl fun a hf=>zT h ?_
   refine zI hf rfl hF ?_ ?_ <;> clear hF <;> intro hF
   ·refine zS fun K h=>sp 1 hf rfl fun a hf=>zT h ?_
    refine wp_ret ?_
    refine bS ?_
    refine aL ?_
    refine bS ?_
    refine aL ?_
    refine aL ?_
    have he:=sj hF
    rw [← he] at u
    replace hF:=ax _ u
    refine bS ?_
    refine aL ?_
    obtain rfl:=hF
    replace hc:=(hc.drop k1).drop k0
    refine aA3 hf ?_
    exact yY Tryz.results42 hf hc (show gR _ 2=_ from rfl) ⟨rfl,hc⟩
   ·refine zS fun K h=>zP hf rfl (pFA aBq rfl) fun a hf=>zL hf hc aFt m1 rfl fun a w hf hc=>sp 1 hf rfl fun a hf=>?_
    obtain ⟨aj,a3,hF⟩:=aA hF
    obtain ⟨b5,b0,az,bd⟩:=q.atm a3
    refine zP hf rfl (pIA Tryz.underlying24 aAq rfl rfl az) fun a hf=>zE hf hc rfl (lK (vs:=[i6 aj.Lo,i6 aj.Hi]) aDd rfl rfl (kH bd (n:=2) (o':=0) rfl)) fun a w hf hc=>zQ (v:=.bool (lP aj)) hf hc aPd rfl (fun w hc=>aAl aj hc rfl) fun a w hf hc=>sp 2 hf rfl fun a hf=>zT h ?_
    refine zI hf rfl hF ?_ ?_ <;> clear hF <;> intro hF
    ·refine zS fun K h=>sp 1 hf rfl fun a hf=>zT h ?_
     refine wp_ret ?_
     refine bS ?_
     refine aL ?_
     refine bS ?_
     refine aL ?_
     refine aL ?_
     have he:=sj hF
     rw [← he] at u
     replace hF:=ax _ u
     refine bS ?_
     refine aL ?_
     obtain rfl:=hF
     replace hc:=(hc.drop k1).drop k0
     refine aA3 hf ?_
     exact yY Tryz.results42 hf hc (show gR _ 2=_ from rfl) ⟨rfl,hc⟩
    ·refine wp_skip ?_
     refine bp _ _ ?_
     refine br _ _ ?_
     refine bV ?_
     refine sp 2 hf rfl fun a hf=>aP ?_
     exact bn (W (x + 1)) _ _ (sj hF).symm ⟨hf.kp rfl,hc⟩
  ·refine wp_exit ?_
   refine aY ?_
   refine aY ?_
   have he:=sj hF
   rw [← he] at u
   refine fJ ?_
   exact bx _ _ _ u ⟨hf.kp rfl,hc⟩

def nR (N:Nat) (r:aH):Option ((Int) ⊕ (Int × Int × (Int × Int→Option (List Int)) × Int)) :=
 Option.bind (uO N r) fun B=>
 cond (B != 0)
 (some (.inl B))
 (some (.inr (r.Delay.Lo,r.Delay.Hi,(fun k=>some (stM r.Down (r.Travel.map fun x=>x.Lo) (r.Towns.map fun x=>(x.Station,x.Lead)) r.Delay.Hi k)),0)))
theorem kG {N:Nat} {G:aT} {Lf:List Ent} {w:World} (r:aH) {S:Option Addr} {U:Nat} {M:Option Addr} {I:Nat} {B:Option Addr} {D:Nat} {R:Option Addr} {O:Nat} {H:Option Addr} {J:Nat} (b:Rd G 1 S U (r.Down.map aB)) (Y:Rd G 2 M I (r.Travel.map aI)) (V:Rd G 1 B D (r.Springs.map aB)) (Z:Rd G 3 R O (r.Towns.map aG)) (X:RdT cH G 2 H J r.Floods) (hc:Ctx G (Lf) w) {i:(Int) ⊕ (Int × Int × (Int × Int→Option (List Int)) × Int)} (hF:nR N r=some i):Calls Tryz.prog 23 #[.agg #[.slice S r.Down.length U,.slice M r.Travel.length I,.slice B r.Springs.length D,.slice R r.Towns.length O,i6 r.Delay.Lo,i6 r.Delay.Hi,.slice H r.Floods.length J]] w (fun e w=>aAg (fun rr=>e=.returned (.tuple #[.pointer none,i6 rr])∧Ctx G (Lf) w) (fun rr=>∃ (g:Nat) (j:Nat) (d:Hds),e=.returned (.tuple #[pq g,i6 rr.2.2.2])∧Ctx G (bI j aW rr.2.2.1 3 d::.box g [.slice S r.Down.length U,.slice M r.Travel.length I,.slice B r.Springs.length D,.slice R r.Towns.length O,i6 rr.1,i6 rr.2.1,.slice H r.Floods.length J,.map (some j)] 102::Lf) w) i):=by
 unfold nR at hF
 refine bL Tryz.func23 rfl Tryz.ntmps23 rfl fun a hf=>zS fun K h=>zB hf hc rfl fun q a w hf hc=>sp 2 hf rfl fun a hf=>zT h ?_
 refine wp_seq_k fun K2 h2=>zS fun K h=>zN hf hc oK m0 rfl fun a w hf hc=>?_
 obtain ⟨n,m,hF⟩:=aA hF
 refine zQ (v:=i6 n) hf hc en_42 rfl (fun w hc=>aFf r b Y V Z X hc m) fun a w hf hc=>sp 1 hf rfl fun a hf=>zT h ?_
 refine zS fun K h=>sp 2 hf rfl fun a hf=>zT h ?_
 refine zI hf rfl hF ?_ ?_ <;> clear hF <;> intro hF
 ·refine zS fun K h=>sp 3 hf rfl fun a hf=>zT h ?_
  refine wp_ret ?_
  refine aL ?_
  obtain rfl:=sj hF
  replace hc:=hc.drop k0
  exact zO2 Tryz.results23 hf rfl rfl ⟨rfl,hc⟩
 ·refine wp_skip ?_
  refine h2 _ _ ?_
  refine zS fun K h=>zN hf hc oK m0 rfl fun a w hf hc=>stGM (kv:=aW) hf hc rfl rfl fun mb a w hf hc=>?_
  obtain ⟨p,hc⟩:=aOf (F:=(fun k=>some (stM r.Down (r.Travel.map fun x=>x.Lo) (r.Towns.map fun x=>(x.Station,x.Lead)) r.Delay.Hi k))) (T:=3) hc
  refine zP hf rfl (iF (cells:=[.slice S r.Down.length U,.slice M r.Travel.length I,.slice B r.Springs.length D,.slice R r.Towns.length O,i6 r.Delay.Lo,i6 r.Delay.Hi,.slice H r.Floods.length J,.map (some mb)]) aRi rfl rfl) fun a hf=>stBx (cs:=[.slice S r.Down.length U,.slice M r.Travel.length I,.slice B r.Springs.length D,.slice R r.Towns.length O,i6 r.Delay.Lo,i6 r.Delay.Hi,.slice H r.Floods.length J,.map (some mb)]) hf hc rfl rfl rfl rfl fun o a w hf hc=>sp 2 hf rfl fun a hf=>zT h ?_
  refine wp_ret ?_
  obtain rfl:=sj hF
  replace hc:=((hc.drop k2).pick k0).pick k1
  exact zO2 Tryz.results23 hf rfl rfl ⟨o,mb,p,rfl,hc⟩

def mY (N:Nat) (l:List aN) (x:Int) (H:Int) (B:Int):Option (bY (Int × Int × Int) (aN)) :=
 cond (decide (x < ((l.length:Nat):Int)))
 (Option.bind (bE l x) fun D=>
 some (.cont (W (x + 1),W (H + D.Lo),W (B + D.Hi))))
 (some (.brk (x,H,B)))
def uN (N:Nat) (l:List aN):Option (aN) :=
 Option.bind (aX (fun s5=>mY N l s5.1 s5.2.1 s5.2.2) N (0,0,0)) fun x5=>
 exK x5 (fun s5=>some (⟨s5.2.1,s5.2.2⟩:aN)) some
theorem aFi {N:Nat} {G:aT} {Lf:List Ent} {w:World} (l:List aN) {O:Option Addr} {M:Nat} (Z:Rd G 2 O M (l.map aI)) (hc:Ctx G (Lf) w) {I:aN} (hF:uN N l=some I):Calls Tryz.prog 100 #[.slice O l.length M] w (fun e w=>e=.returned (.agg #[i6 I.Lo,i6 I.Hi])∧Ctx G (Lf) w):=by
 unfold uN at hF
 refine bL Tryz.func100 rfl Tryz.ntmps100 rfl fun a hf=>zS fun K h=>zA hf hc aFy rfl fun R a w hf hc=>zT h ?_
 refine zS fun K h=>zA hf hc aFy rfl fun U a w hf hc=>zT h ?_
 refine wp_seq_k fun K3 h3=>zS fun K h=>sp 1 hf rfl fun a hf=>zP hf rfl (bG Tryz.underlying24 rfl) fun a hf=>sp 1 hf rfl fun a hf=>zT h ?_
 refine wp_block ?_
 obtain ⟨x5,X,hF⟩:=aA hF
 let S5:(Int × Int × Int)→Act→World→Prop:=(fun (zz:Int × Int × Int) a w=>Has 25 a [(2,pq R),(3,pq U),(6,.slice O l.length M),(7,i6 ((l.length:Nat):Int)),(8,i6 zz.1)]∧Ctx G (.box U [i6 zz.2.1,i6 zz.2.2] 27::.box R [i6 0,i6 0] 27::Lf) w)
 have Y:∀ (zz:Int × Int × Int) a w,x5=.go zz→S5 zz a w→K3 a w:=by
  rintro ⟨x,J,H⟩ a w rfl ⟨hf,hc⟩
  replace hF:=bK hF
  refine h3 _ _ ?_
  refine zS fun K h=>zN hf hc aDd m0 rfl fun a w hf hc=>zW hf hc aAq u1 rfl fun w hc=>zT h ?_
  refine wp_ret ?_
  obtain rfl:=sj hF
  replace hc:=hc.drop k0
  exact aCi (by simp) rfl Tryz.results100 hf hc (jH (vs:=[i6 J,i6 H]) aDd rfl rfl (dN (n:=2) m0 rfl)) ⟨rfl,(hc.drop k0)⟩
 have i:∀ r,x5=.out r→r=I:=by
  rintro r rfl
  exact sj hF
 refine cZ N (cW (S:=S5) (x:=x5) ?_ N (0,0,0) _ _ ⟨hf.kp rfl,hc⟩ X)
 clear hF hf hc
 rintro ⟨x,J,H⟩ g a w KB5 ⟨hf,hc⟩ hF D b
 unfold mY at hF
 refine zS fun K h=>sp 1 hf rfl fun a hf=>zT h ?_
 refine wp_seq_k fun K8 h8=>zI hf rfl hF ?_ ?_ <;> clear hF <;> intro hF
 ·refine wp_skip ?_
  refine h8 _ _ ?_
  refine wp_seq_k fun K9 h9=>wp_block ?_
  refine zS fun K h=>?_
  obtain ⟨B,V,hF⟩:=aA hF
  obtain ⟨j,o,qa,qp⟩:=Z.atm V
  refine zP hf rfl (pIA Tryz.underlying24 aAq rfl rfl qa) fun a hf=>zE hf hc rfl (lK (vs:=[i6 B.Lo,i6 B.Hi]) aDd rfl rfl (kH qp (n:=2) (o':=0) rfl)) fun a w hf hc=>zA hf hc aFy rfl fun d a w hf hc=>zW hf hc aAq u0 rfl fun w hc=>zT h ?_
  refine bV ?_
  refine zP hf rfl (pFA zJ rfl) fun a hf=>zL hf hc cR m1 rfl fun a w hf hc=>zP hf rfl (pFA zJ rfl) fun a hf=>zL hf hc cR m0 rfl fun a w hf hc=>sp 1 hf rfl fun a hf=>zP hf rfl (pFA zR rfl) fun a hf=>zL hf hc cR m1 rfl fun a w hf hc=>zP hf rfl (pFA zR rfl) fun a hf=>zL hf hc cR m0 rfl fun a w hf hc=>sp 1 hf rfl fun a hf=>zP hf rfl (iF (cells:=[i6 (W (J + B.Lo)),i6 (W (H + B.Hi))]) aNz rfl rfl) fun a hf=>zW hf hc aAq u1 rfl fun w hc=>aP ?_
  refine h9 _ _ ?_
  refine bV ?_
  refine sp 2 hf rfl fun a hf=>aP ?_
  replace hc:=hc.drop k0
  exact b (W (x + 1),W (J + B.Lo),W (H + B.Hi)) _ _ (sj hF).symm ⟨hf.kp rfl,hc⟩
 ·refine wp_exit ?_
  refine aY ?_
  refine aY ?_
  have he:=sj hF
  rw [← he] at D
  refine fJ ?_
  exact Y _ _ _ D ⟨hf.kp rfl,hc⟩

def bX (N:Nat) (w_:aF) (O:Int) (x:Int) (M:Int) (J:Bool) (B:List aN) (xv:Int) (D:Int):Option (Rs (Int × Int × Bool × (List aN))) :=
 cond (D == O)
 (Option.bind (uN N B) fun H=>
 some (.ret (H.Lo,H.Hi,true,B)))
 (Option.bind (bE w_.River.Travel D) fun I=>
 Option.bind (room ((B++[I])).length) fun un=>
 some (.go (x,M,J,(B++[I]))))
def iV (N:Nat) (w_:aF) (D:Int) (I:Int):Option (aN × Bool) :=
 Option.bind (gW N w_.River D) fun r=>
 Option.bind (iD N r.1 (⟨w_.River.Down,w_.River.Travel,w_.River.Springs,w_.River.Towns,(⟨r.2.1,r.2.2⟩:aN),w_.River.Floods⟩:aH) (rY (fun (zz:Int × Int × Bool × (List aN)) (H:(Int × Int))=>bX N w_ I zz.1 zz.2.1 zz.2.2.1 zz.2.2.2 H.1 H.2)) (.go (0,0,false,([]:List aN)))) fun x5=>
 rsK x5.1 (fun B=>some ((⟨0,0⟩:aN),false)) (fun B=>some ((⟨B.1,B.2.1⟩:aN),B.2.2.1))
theorem qP {N:Nat} {G:aT} {Lf:List Ent} {w:World} (w_:aF) (am:Int) (s:Int) {b_:Nat} {V:Option Addr} {U:Nat} {I:Option Addr} {H:Nat} {B:Option Addr} {D:Nat} {R:Option Addr} {S:Nat} {O:Option Addr} {M:Nat} {mb:Nat} {k:Hds} (ad:Rd G 1 V U (w_.River.Down.map aB)) (d:Rd G 2 I H (w_.River.Travel.map aI)) (q:Rd G 1 B D (w_.River.Springs.map aB)) (ac:Rd G 3 R S (w_.River.Towns.map aG)) (aa:RdT cH G 2 O M w_.River.Floods) (hc:Ctx G (.box b_ [.slice V w_.River.Down.length U,.slice I w_.River.Travel.length H,.slice B w_.River.Springs.length D,.slice R w_.River.Towns.length S,i6 w_.River.Delay.Lo,i6 w_.River.Delay.Hi,.slice O w_.River.Floods.length M,.map (some mb)] 102::bI mb aW w_.found 3 k::Lf) w) {ak:aN × Bool} (hF:iV N w_ am s=some ak):Calls Tryz.prog 65 #[pq b_,i6 am,i6 s] w (fun e w=>e=.returned (.tuple #[.agg #[i6 ak.1.Lo,i6 ak.1.Hi],.bool ak.2])∧Ctx G (.box b_ [.slice V w_.River.Down.length U,.slice I w_.River.Travel.length H,.slice B w_.River.Springs.length D,.slice R w_.River.Towns.length S,i6 w_.River.Delay.Lo,i6 w_.River.Delay.Hi,.slice O w_.River.Floods.length M,.map (some mb)] 102::bI mb aW w_.found 3 k::Lf) w):=by
 unfold iV at hF
 refine aIf Tryz.func65 rfl Tryz.ntmps65 rfl fun a hf=>zS fun K h=>zB hf hc rfl fun t a w hf hc=>zB hf hc rfl fun y a w hf hc=>zA hf hc aFy rfl fun g a w hf hc=>zA hf hc zr_4 rfl fun i a w hf hc=>zT h ?_
 refine zS fun K h=>zA hf hc zr_24 rfl fun m a w hf hc=>zT h ?_
 refine wp_seq_k fun K3 h3=>zS fun K h=>zL hf hc vB m4 rfl fun a w hf hc=>sp 1 hf rfl fun a hf=>zP hf rfl (pFA sQ rfl) fun a hf=>zN hf hc oK m5 rfl fun a w hf hc=>sp 1 hf rfl fun a hf=>?_
 obtain ⟨r,hr,hF⟩:=aA hF
 refine zC hf aKe rfl (nY w_.River am ad d q ac aa hc hr) ?_
 rintro _ w ⟨ai,aj,rfl,hc⟩
 refine ⟨_,rfl,fun a hf=>?_⟩
 refine zT h ?_
 obtain ⟨x5,ba,hF⟩:=aA hF
 replace hc:=hc.nilRow 27 2
 replace hc:=((hc.pick k0).pick k2).pick k2
 refine aEw (C:=[.box ai [i6 r.1] 3,.box aj [.slice V w_.River.Down.length U,.slice I w_.River.Travel.length H,.slice B w_.River.Springs.length D,.slice R w_.River.Towns.length S,i6 r.2.1,i6 r.2.2,.slice O w_.River.Floods.length M] 30]) (C2:=[.box ai [i6 x5.2] 3,.box aj [.slice V w_.River.Down.length U,.slice I w_.River.Travel.length H,.slice B w_.River.Springs.length D,.slice R w_.River.Towns.length S,i6 r.2.1,i6 r.2.2,.slice O w_.River.Floods.length M] 30]) (L0:=[.row none 0 ((([]:List aN)).map aI) 27 2,.box m [.slice none (([]:List aN)).length 0] 24,.box i [.bool false] 4,.box g [i6 0,i6 0] 27,.box y [i6 s] 3,.box t [pq b_] 71,.box b_ [.slice V w_.River.Down.length U,.slice I w_.River.Travel.length H,.slice B w_.River.Springs.length D,.slice R w_.River.Towns.length S,i6 w_.River.Delay.Lo,i6 w_.River.Delay.Hi,.slice O w_.River.Floods.length M,.map (some mb)] 102,bI mb aW w_.found 3 k]) (Lf:=Lf) (encs:=fun x:(Int × Int)=>[i6 x.1,i6 x.2]) (fun (zz:Int × Int × Bool × (List aN)) L=>∃ (Z:Option Addr) (Y:Nat),L=[.row Z Y (zz.2.2.2.map aI) 27 2,.box m [.slice Z zz.2.2.2.length Y] 24,.box i [.bool zz.2.2.1] 4,.box g [i6 zz.1,i6 zz.2.1] 27,.box y [i6 s] 3,.box t [pq b_] 71,.box b_ [.slice V w_.River.Down.length U,.slice I w_.River.Travel.length H,.slice B w_.River.Springs.length D,.slice R w_.River.Towns.length S,i6 w_.River.Delay.Lo,i6 w_.River.Delay.Hi,.slice O w_.River.Floods.length M,.map (some mb)] 102,bI mb aW w_.found 3 k]) (fun (zz:Int × Int × Bool × (List aN)) (az:(Int × Int))=>bX N w_ s zz.1 zz.2.1 zz.2.2.1 zz.2.2.2 az.1 az.2) (0,0,false,([]:List aN)) x5.1 hf hc rfl aKs (fun _=>rfl) rfl ⟨none,0,rfl⟩ ?_ ?_ ?_ ?_
 ·intro lq mq J L Lx w hy hJ hc
  exact mJ r.1 (⟨w_.River.Down,w_.River.Travel,w_.River.Springs,w_.River.Towns,(⟨r.2.1,r.2.2⟩:aN),w_.River.Floods⟩:aH) ad d q ac aa J _ hy _ hJ hc ba
 ·clear hF hf hc
  rintro lq mq ⟨x,j,z,X⟩ ⟨xv,af⟩ oq _ Lr Lb a w bc ⟨Z,Y,rfl⟩ hF hf hc hK
  replace hf:Has 36 a [(3,pq t),(5,pq y),(6,pq g),(7,pq i),(8,pq m),(17,i6 xv),(18,i6 af)]:=hf.kp rfl
  replace hc:Ctx G (.row Z Y (X.map aI) 27 2::.box m [.slice Z X.length Y] 24::.box i [.bool z] 4::.box g [i6 x,i6 j] 27::.box y [i6 s] 3::.box t [pq b_] 71::.box b_ [.slice V w_.River.Down.length U,.slice I w_.River.Travel.length H,.slice B w_.River.Springs.length D,.slice R w_.River.Towns.length S,i6 w_.River.Delay.Lo,i6 w_.River.Delay.Hi,.slice O w_.River.Floods.length M,.map (some mb)] 102::bI mb aW w_.found 3 k::Lr) w:=hc
  replace hF:bX N w_ s x j z X xv af=some oq:=hF
  unfold bX at hF
  refine vN (fun _ _ h=>h) rfl ?_
  refine sp 1 hf rfl fun a hf=>aP ?_
  refine hK _ _ [.row Z Y (X.map aI) 27 2,.box m [.slice Z X.length Y] 24,.box i [.bool z] 4,.box g [i6 x,i6 j] 27,.box y [i6 s] 3,.box t [pq b_] 71,.box b_ [.slice V w_.River.Down.length U,.slice I w_.River.Travel.length H,.slice B w_.River.Springs.length D,.slice R w_.River.Towns.length S,i6 w_.River.Delay.Lo,i6 w_.River.Delay.Hi,.slice O w_.River.Floods.length M,.map (some mb)] 102,bI mb aW w_.found 3 k] hc fun w hc=>?_
  replace hc:Ctx G (.row Z Y (X.map aI) 27 2::.box m [.slice Z X.length Y] 24::.box i [.bool z] 4::.box g [i6 x,i6 j] 27::.box y [i6 s] 3::.box t [pq b_] 71::.box b_ [.slice V w_.River.Down.length U,.slice I w_.River.Travel.length H,.slice B w_.River.Springs.length D,.slice R w_.River.Towns.length S,i6 w_.River.Delay.Lo,i6 w_.River.Delay.Hi,.slice O w_.River.Floods.length M,.map (some mb)] 102::bI mb aW w_.found 3 k::Lb) w:=hc
  refine aE8 fun K6 h6=>aA8 ?_
  refine uR fun K7 h7=>uR fun K8 h8=>vN (fun _ _ h=>h) rfl ?_
  refine sp 1 hf rfl fun a hf=>zL hf hc cR m4 rfl fun a w hf hc=>sp 1 hf rfl fun a hf=>aP ?_
  refine h8 _ _ ?_
  refine aFu (b:=(af == s)) hf rfl (fun hb=>?_) (fun hb=>?_)
  ·replace hF:=fP hb hF
   clear hb
   refine uR fun K9 h9=>vN (fun _ _ h=>h) rfl ?_
   refine zL hf hc aFt m1 rfl fun a w hf hc=>?_
   obtain ⟨aq,a2,hF⟩:=aA hF
   refine zQ (v:=.agg #[i6 aq.Lo,i6 aq.Hi]) hf hc aQ0 rfl (fun w hc=>by obtain ⟨G1,bb,a3,hc,a0⟩:=lend hc k0; exact (aFi X a3 hc a2).mono fun e w h=>⟨h.1,((a0 _ _ h.2).unpick k0)⟩) fun a w hf hc=>zW hf hc aAq u3 rfl fun w hc=>zW hf hc yC u2 rfl fun w hc=>aP ?_
   refine h9 _ _ ?_
   refine rRet ?_
   refine aL ?_
   refine bS ?_
   refine aL ?_
   exact ⟨(aq.Lo,aq.Hi,true,X),_,(sj hF).symm,⟨Z,Y,rfl⟩,hc⟩
  ·replace hF:=kI hb hF
   clear hb
   refine aC6 ?_
   refine h7 _ _ ?_
   obtain ⟨ab,a1,hF⟩:=aA hF
   obtain ⟨a6,o,qa,qp⟩:=d.atm a1
   obtain ⟨un,a5,hF⟩:=aA hF
   replace hc:=hc.nilRow 0 0
   refine aH0 (fun _ _ h=>h) rfl (fun θ=>[⟨none,none,3,pq t⟩,⟨none,none,5,pq y⟩,⟨none,none,6,pq g⟩,⟨none,none,7,pq i⟩,⟨none,none,8,pq m⟩,⟨none,none,10,i6 af⟩,⟨some 0,none,24,.slice Z X.length Y⟩,⟨some 1,none,25,pq b_⟩,⟨some 2,none,26,pq b_⟩,⟨some 3,none,27,pq b_⟩,⟨some 4,none,28,.pointer (some ⟨b_,1,none⟩)⟩,⟨some 5,none,29,.slice I w_.River.Travel.length H⟩,⟨some 6,none,30,i6 af⟩,⟨some 7,none,31,.pointer (some ⟨a6,o,none⟩)⟩,⟨some 8,none,32,.agg #[i6 ab.Lo,i6 ab.Hi]⟩,⟨some 9,none,33,.slice (some ⟨(θ 72).b,0,none⟩) 1 1⟩,⟨some 10,none,34,.slice ((θ 80).p) ((X++[ab]).length) ((θ 80).c)⟩]) (fun E θ=>(bif E 9 then .row (some ⟨(θ 72).b,0,none⟩) 1 (([ab]:List aN).map aI) 27 2 else .row none 0 [] 0 0)::(bif E 10 then .row ((θ 80).p) ((θ 80).c) ((X++[ab]).map aI) 27 2 else .row Z Y (X.map aI) 27 2)::(bif E 11 then .box m [.slice ((θ 80).p) ((X++[ab]).length) ((θ 80).c)] 24 else .box m [.slice Z X.length Y] 24)::.box i [.bool z] 4::.box g [i6 x,i6 j] 27::.box y [i6 s] 3::.box t [pq b_] 71::.box b_ [.slice V w_.River.Down.length U,.slice I w_.River.Travel.length H,.slice B w_.River.Springs.length D,.slice R w_.River.Towns.length S,i6 w_.River.Delay.Lo,i6 w_.River.Delay.Hi,.slice O w_.River.Floods.length M,.map (some mb)] 102::bI mb aW w_.found 3 k::Lb) [(11,0),(11,10)] (fun a w=>∃ (ay:Nat) (ar:Option Addr) (ap:Nat),Has 36 a [(3,pq t),(5,pq y),(6,pq g),(7,pq i),(8,pq m)]∧Ctx G (.row (some ⟨ay,0,none⟩) 1 (([ab]:List aN).map aI) 27 2::.row ar ap ((X++[ab]).map aI) 27 2::.box m [.slice ar ((X++[ab]).length) ap] 24::.box i [.bool z] 4::.box g [i6 x,i6 j] 27::.box y [i6 s] 3::.box t [pq b_] 71::.box b_ [.slice V w_.River.Down.length U,.slice I w_.River.Travel.length H,.slice B w_.River.Springs.length D,.slice R w_.River.Towns.length S,i6 w_.River.Delay.Lo,i6 w_.River.Delay.Hi,.slice O w_.River.Floods.length M,.map (some mb)] 102::bI mb aW w_.found 3 k::Lb) w) bA (by kernel_rfl) (by kernel_rfl) (fN.of hf ⟨rfl,rfl,rfl,rfl,rfl,rfl,trivial,trivial,trivial,trivial,trivial,trivial,trivial,trivial,trivial,trivial,trivial,trivial⟩) hc ⟨?_,?_,?_,?_,?_,?_,?_,?_,?_,?_,?_,?_,trivial⟩ ?_ ?_
   ·intro E θ a w hD hi hp he hc
    have ag:=hD.f 0 rfl hi
    try dsimp only at hc
    rw [ag] at hc
    have hf:=he.h0.mT he 4 rfl
    refine zL hf hc aFt m2 rfl fun a w hf hc=>zD θ he hi hf 6 rfl rfl rfl ?_
    try dsimp only
    rw [aQ 0 ag rfl]
    exact hc
   ·intro E θ a w hD hi hp he hc
    have hf:=he.h0.mT he 0 rfl
    refine zL hf hc vB m6 rfl fun a w hf hc=>zD θ he hi hf 7 rfl rfl rfl hc
   ·intro E θ a w hD hi hp he hc
    have e1:=hp.o 1 rfl
    have hf:=he.h0.mP he 7 rfl e1
    refine sp 1 hf rfl fun a hf=>zD θ he hi hf 8 rfl rfl rfl hc
   ·intro E θ a w hD hi hp he hc
    have e2:=hp.o 2 rfl
    have hf:=he.h0.mP he 8 rfl e2
    refine zP hf rfl (pFA sQ rfl) fun a hf=>zD θ he hi hf 9 rfl rfl rfl hc
   ·intro E θ a w hD hi hp he hc
    have e3:=hp.o 3 rfl
    have hf:=he.h0.mP he 9 rfl e3
    refine zP hf rfl (pFA aBq rfl) fun a hf=>zD θ he hi hf 10 rfl rfl rfl hc
   ·intro E θ a w hD hi hp he hc
    have e4:=hp.o 4 rfl
    have hf:=he.h0.mP he 10 rfl e4
    refine zL hf hc aFt m7 rfl fun a w hf hc=>zD θ he hi hf 11 rfl rfl rfl hc
   ·intro E θ a w hD hi hp he hc
    have hf:=he.h0.mT he 5 rfl
    refine sp 1 hf rfl fun a hf=>zD θ he hi hf 12 rfl rfl rfl hc
   ·intro E θ a w hD hi hp he hc
    have e5:=hp.o 5 rfl
    have e6:=hp.o 6 rfl
    have hf:=(he.h0.mP he 11 rfl e5).mP he 12 rfl e6
    refine zP hf rfl (pIA Tryz.underlying24 aAq rfl rfl qa) fun a hf=>zD θ he hi hf 13 rfl rfl rfl hc
   ·intro E θ a w hD hi hp he hc
    have e7:=hp.o 7 rfl
    have hf:=he.h0.mP he 13 rfl e7
    refine zE hf hc rfl (lK (vs:=[i6 ab.Lo,i6 ab.Hi]) aDd rfl rfl (kH qp (n:=2) (o':=0) rfl)) fun a w hf hc=>zD θ he hi hf 14 rfl rfl rfl hc
   ·intro E θ a w hD hi hp he hc
    have e8:=hp.o 8 rfl
    try dsimp only at hc
    rw [hi] at hc
    have hf:=he.h0.mP he 14 rfl e8
    refine oB (rows:=([ab]:List aN).map aI) (vs:=[(0,.agg #[i6 ab.Lo,i6 ab.Hi])]) hf hc rfl rfl aKn rfl ⟨rfl,rfl,rfl,trivial⟩ rfl rfl fun a8 a w hf hc=>aP ?_
    refine eJ ?_
    intro ds u av
    replace hc:=hc.drop k1
    refine ⟨(nF θ 72 ⟨a8,none,0,(fun _=>(none,0))⟩),he.put hi av hf rfl [] trivial ⟨qq,qq,qq,qq,qq,qq,qq,qq,qq,qq,qq,qq,qq,qq,qq,qq,qq,trivial⟩,?_⟩
    try dsimp only
    rw [aS E 9]
    exact hc
   ·intro E θ a w hD hi hp he hc
    have e0:=hp.o 0 rfl
    have e9:=hp.o 9 rfl
    have ag:=hD.f 1 rfl hi
    try dsimp only at hc
    rw [e9,hi,ag] at hc
    have hf:=(he.h0.mP he 6 rfl e0).mP he 15 rfl e9
    refine pC (xs:=X) (ys:=([ab]:List aN)) hf hc rfl rfl aKn rfl rfl rfl rfl rfl wJ (kC hc m0) (fun _ _=>u1) (by simpa using fD a5) fun a4 a7 a w hf hc=>aP ?_
    refine eJ ?_
    intro ds u av
    refine ⟨(nF θ 80 ⟨0,a4,a7,(fun _=>(none,0))⟩),he.put hi av hf rfl [] trivial ⟨qq,qq,qq,qq,qq,qq,qq,qq,qq,qq,qq,qq,qq,qq,qq,qq,qq,trivial⟩,?_⟩
    try dsimp only
    rw [eC 10 e9,aS E 10,aQ 10 ag rfl]
    exact hc
   ·intro E θ a w hD hi hp he hc
    have au:=hp.o 10 rfl
    try dsimp only at hc
    rw [hi] at hc
    have hf:=(he.h0.mT he 4 rfl).mP he 16 rfl au
    refine zW hf hc aO8 u2 rfl fun w hc=>zG θ he hi hf rfl ?_
    try dsimp only
    rw [aS E 11]
    exact hc
   ·intro E θ a w an he hc
    have hf:=he.h0
    have e9:=an 9 rfl
    have au:=an 10 rfl
    have ag:=an 11 rfl
    replace hf:=hf.more he 4 rfl (onT)
    replace hf:=hf.more he 3 rfl (onT)
    replace hf:=hf.more he 2 rfl (onT)
    replace hf:=hf.more he 1 rfl (onT)
    replace hf:=hf.more he 0 rfl (onT)
    try dsimp only at hc
    rw [e9,au,ag] at hc
    exact ⟨(θ 72).b,(θ 80).p,(θ 80).c,hf.kp rfl,hc⟩
   rintro a w ⟨ay,ar,ap,hf,hc⟩
   refine h6 _ _ ?_
   replace hc:=hc.drop k0
   exact ⟨(x,j,z,(X++[ab])),_,(sj hF).symm,⟨ar,ap,rfl⟩,hc⟩
 ·rintro D_1 ⟨x,j,z,X⟩ _ a w ax ⟨Z,Y,rfl⟩ hf hc
  replace hf:Has ⟨36,tE (D_1::[])⟩ a [(3,pq t),(5,pq y),(6,pq g),(7,pq i),(8,pq m)]:=hf.kp rfl
  replace hc:Ctx G (.box ai [i6 x5.2] 3::.box aj [.slice V w_.River.Down.length U,.slice I w_.River.Travel.length H,.slice B w_.River.Springs.length D,.slice R w_.River.Towns.length S,i6 r.2.1,i6 r.2.2,.slice O w_.River.Floods.length M] 30::.row Z Y (X.map aI) 27 2::.box m [.slice Z X.length Y] 24::.box i [.bool z] 4::.box g [i6 x,i6 j] 27::.box y [i6 s] 3::.box t [pq b_] 71::.box b_ [.slice V w_.River.Down.length U,.slice I w_.River.Travel.length H,.slice B w_.River.Springs.length D,.slice R w_.River.Towns.length S,i6 w_.River.Delay.Lo,i6 w_.River.Delay.Hi,.slice O w_.River.Floods.length M,.map (some mb)] 102::bI mb aW w_.found 3 k::(aAc (D_1::[])++Lf)) w:=vJ (C:=[.box ai [i6 x5.2] 3,.box aj [.slice V w_.River.Down.length U,.slice I w_.River.Travel.length H,.slice B w_.River.Springs.length D,.slice R w_.River.Towns.length S,i6 r.2.1,i6 r.2.2,.slice O w_.River.Floods.length M] 30]) (L:=[.row Z Y (X.map aI) 27 2,.box m [.slice Z X.length Y] 24,.box i [.bool z] 4,.box g [i6 x,i6 j] 27,.box y [i6 s] 3,.box t [pq b_] 71,.box b_ [.slice V w_.River.Down.length U,.slice I w_.River.Travel.length H,.slice B w_.River.Springs.length D,.slice R w_.River.Towns.length S,i6 w_.River.Delay.Lo,i6 w_.River.Delay.Hi,.slice O w_.River.Floods.length M,.map (some mb)] 102,bI mb aW w_.found 3 k]) hc
  replace hF:(some ((⟨0,0⟩:aN),false))=some ak:=by rcases ax with h_ | h_ <;> (rw [h_] at hF; exact hF)
  refine h3 _ _ ?_
  refine wp_seq_k fun K10 a9=>bV ?_
  refine zP hf rfl (iF (cells:=[i6 0,i6 0]) aNz rfl rfl) fun a hf=>zW hf hc aAq u5 rfl fun w hc=>zW hf hc yC u4 rfl fun w hc=>aP ?_
  replace hc:=(((((hc.drop k7).drop k6).drop k3).drop k2).drop k1).drop k0
  refine a9 _ _ ?_
  refine wp_ret ?_
  obtain rfl:=sj hF
  replace hc:=(((hc.pick k0).pick k1).pick k3).pick k3
  refine aA3 hf ?_
  refine aAr [.box b_ [.slice V w_.River.Down.length U,.slice I w_.River.Travel.length H,.slice B w_.River.Springs.length D,.slice R w_.River.Towns.length S,i6 w_.River.Delay.Lo,i6 w_.River.Delay.Hi,.slice O w_.River.Floods.length M,.map (some mb)] 102,bI mb aW w_.found 3 k,.box g [i6 0,i6 0] 27,.box i [.bool false] 4] (D_1::[]) hc fun w hc=>?_
  replace hc:Ctx G (.box b_ [.slice V w_.River.Down.length U,.slice I w_.River.Travel.length H,.slice B w_.River.Springs.length D,.slice R w_.River.Towns.length S,i6 w_.River.Delay.Lo,i6 w_.River.Delay.Hi,.slice O w_.River.Floods.length M,.map (some mb)] 102::bI mb aW w_.found 3 k::.box g [i6 0,i6 0] 27::.box i [.bool false] 4::Lf) w:=hc
  exact aPl Tryz.results65 hf hc (jH (vs:=[i6 0,i6 0]) aDd rfl rfl (dN (n:=2) m2 rfl)) (aIj aJi rfl (iA m3 rfl)) ⟨rfl,((hc.drop k3).drop k2)⟩
 ·rintro D_1 ⟨x,j,z,X⟩ _ a w ax ⟨Z,Y,rfl⟩ hf hc
  replace hf:Has ⟨36,tE (D_1::[])⟩ a [(3,pq t),(5,pq y),(6,pq g),(7,pq i),(8,pq m)]:=hf.kp rfl
  replace hc:Ctx G (.box ai [i6 x5.2] 3::.box aj [.slice V w_.River.Down.length U,.slice I w_.River.Travel.length H,.slice B w_.River.Springs.length D,.slice R w_.River.Towns.length S,i6 r.2.1,i6 r.2.2,.slice O w_.River.Floods.length M] 30::.row Z Y (X.map aI) 27 2::.box m [.slice Z X.length Y] 24::.box i [.bool z] 4::.box g [i6 x,i6 j] 27::.box y [i6 s] 3::.box t [pq b_] 71::.box b_ [.slice V w_.River.Down.length U,.slice I w_.River.Travel.length H,.slice B w_.River.Springs.length D,.slice R w_.River.Towns.length S,i6 w_.River.Delay.Lo,i6 w_.River.Delay.Hi,.slice O w_.River.Floods.length M,.map (some mb)] 102::bI mb aW w_.found 3 k::(aAc (D_1::[])++Lf)) w:=vJ (C:=[.box ai [i6 x5.2] 3,.box aj [.slice V w_.River.Down.length U,.slice I w_.River.Travel.length H,.slice B w_.River.Springs.length D,.slice R w_.River.Towns.length S,i6 r.2.1,i6 r.2.2,.slice O w_.River.Floods.length M] 30]) (L:=[.row Z Y (X.map aI) 27 2,.box m [.slice Z X.length Y] 24,.box i [.bool z] 4,.box g [i6 x,i6 j] 27,.box y [i6 s] 3,.box t [pq b_] 71,.box b_ [.slice V w_.River.Down.length U,.slice I w_.River.Travel.length H,.slice B w_.River.Springs.length D,.slice R w_.River.Towns.length S,i6 w_.River.Delay.Lo,i6 w_.River.Delay.Hi,.slice O w_.River.Floods.length M,.map (some mb)] 102,bI mb aW w_.found 3 k]) hc
  replace hF:(some ((⟨x,j⟩:aN),z))=some ak:=by rw [ax] at hF; exact hF
  refine aL ?_
  obtain rfl:=sj hF
  replace hc:=(((((((((hc.drop k7).drop k6).drop k3).drop k2).drop k1).drop k0).pick k0).pick k1).pick k3).pick k3
  refine aA3 hf ?_
  refine aAr [.box b_ [.slice V w_.River.Down.length U,.slice I w_.River.Travel.length H,.slice B w_.River.Springs.length D,.slice R w_.River.Towns.length S,i6 w_.River.Delay.Lo,i6 w_.River.Delay.Hi,.slice O w_.River.Floods.length M,.map (some mb)] 102,bI mb aW w_.found 3 k,.box g [i6 x,i6 j] 27,.box i [.bool z] 4] (D_1::[]) hc fun w hc=>?_
  replace hc:Ctx G (.box b_ [.slice V w_.River.Down.length U,.slice I w_.River.Travel.length H,.slice B w_.River.Springs.length D,.slice R w_.River.Towns.length S,i6 w_.River.Delay.Lo,i6 w_.River.Delay.Hi,.slice O w_.River.Floods.length M,.map (some mb)] 102::bI mb aW w_.found 3 k::.box g [i6 x,i6 j] 27::.box i [.bool z] 4::Lf) w:=hc
  exact aPl Tryz.results65 hf hc (jH (vs:=[i6 x,i6 j]) aDd rfl rfl (dN (n:=2) m2 rfl)) (aIj aJi rfl (iA m3 rfl)) ⟨rfl,((hc.drop k3).drop k2)⟩

def iH (N:Nat) (D:Int) (B:List aC):Option (bY ((List aC) × Int) (bY ((List aC) × Int) ((List aC)))) :=
 some (.cont (B,W (D + 1)))
def eM (N:Nat) (w_:aF) (H:Int) (B:List aC) (D:Int):Option (bY ((List aC) × Int) (bY ((List aC) × Int) ((List aC)))) :=
 cond (decide (D < ((w_.River.Towns.length:Nat):Int)))
 (Option.bind (bE w_.River.Towns D) fun I=>
 Option.bind (iV N w_ H I.Station) fun r=>
 cond r.2
 (Option.bind (room ((B++[(⟨H,D⟩:aC)])).length) fun un=>
 iH N D (B++[(⟨H,D⟩:aC)]))
 (iH N D B))
 (some (.brk (B,D)))
def fB (N:Nat) (w_:aF) (out:List aC) (x:Int):Option (bY ((List aC) × Int) ((List aC))) :=
 cond (decide (x < ((w_.River.Springs.length:Nat):Int)))
 (Option.bind (bE w_.River.Springs x) fun H=>
 Option.bind (aX (fun B=>eM N w_ H B.1 B.2) N (out,0)) fun D=>
 exK D (fun B=>some (.cont (B.1,W (x + 1)))) some)
 (some (.brk (out,x)))
def eN (N:Nat) (w_:aF):Option ((List aC)) :=
 Option.bind (aX (fun s5=>fB N w_ s5.1 s5.2) N (([]:List aC),0)) fun x5=>
 exK x5 (fun s5=>some s5.1) some
theorem kO {N:Nat} {G:aT} {Lf:List Ent} {w:World} (w_:aF) {b_:Nat} {V:Option Addr} {U:Nat} {O:Option Addr} {J:Nat} {B:Option Addr} {D:Nat} {H:Option Addr} {I:Nat} {R:Option Addr} {M:Nat} {mb:Nat} {y:Hds} (d:Rd G 1 V U (w_.River.Down.map aB)) (Z:Rd G 2 O J (w_.River.Travel.map aI)) (X:Rd G 1 B D (w_.River.Springs.map aB)) (Y:Rd G 3 H I (w_.River.Towns.map aG)) (b:RdT cH G 2 R M w_.River.Floods) (hc:Ctx G (.box b_ [.slice V w_.River.Down.length U,.slice O w_.River.Travel.length J,.slice B w_.River.Springs.length D,.slice H w_.River.Towns.length I,i6 w_.River.Delay.Lo,i6 w_.River.Delay.Hi,.slice R w_.River.Floods.length M,.map (some mb)] 102::bI mb aW w_.found 3 y::Lf) w) {ac:(List aC)} (hF:eN N w_=some ac):Calls Tryz.prog 34 #[pq b_] w (fun e w=>∃ (aj:Option Addr) (ai:Nat),e=.returned (.slice aj ac.length ai)∧Ctx G (.row aj ai (ac.map aD) 62 2::.box b_ [.slice V w_.River.Down.length U,.slice O w_.River.Travel.length J,.slice B w_.River.Springs.length D,.slice H w_.River.Towns.length I,i6 w_.River.Delay.Lo,i6 w_.River.Delay.Hi,.slice R w_.River.Floods.length M,.map (some mb)] 102::bI mb aW w_.found 3 y::Lf) w):=by
 unfold eN at hF
 refine bL Tryz.func34 rfl Tryz.ntmps34 rfl fun a hf=>zS fun K h=>sp 1 hf rfl fun a hf=>zT h ?_
 refine zS fun K h=>sp 1 hf rfl fun a hf=>zT h ?_
 refine wp_seq_k fun K3 h3=>zS fun K h=>sp 2 hf rfl fun a hf=>zP hf rfl (pFA sQ rfl) fun a hf=>zP hf rfl (pFA rF rfl) fun a hf=>zL hf hc hY m0 rfl fun a w hf hc=>zP hf rfl (bG Tryz.underlying23 rfl) fun a hf=>sp 1 hf rfl fun a hf=>zT h ?_
 refine wp_block ?_
 obtain ⟨x5,a3,hF⟩:=aA hF
 let S5:((List aC) × Int)→Act→World→Prop:=(fun (zz:(List aC) × Int) a w=>∃ (t:Option Addr) (s:Nat),Has 49 a [(0,pq b_),(3,.slice t zz.1.length s),(14,.slice B w_.River.Springs.length D),(15,i6 ((w_.River.Springs.length:Nat):Int)),(16,i6 zz.2)]∧Ctx G (.row t s (zz.1.map aD) 62 2::.box b_ [.slice V w_.River.Down.length U,.slice O w_.River.Travel.length J,.slice B w_.River.Springs.length D,.slice H w_.River.Towns.length I,i6 w_.River.Delay.Lo,i6 w_.River.Delay.Hi,.slice R w_.River.Floods.length M,.map (some mb)] 102::bI mb aW w_.found 3 y::Lf) w)
 have a4:∀ (zz:(List aC) × Int) a w,x5=.go zz→S5 zz a w→K3 a w:=by
  rintro ⟨out,x⟩ a w rfl ⟨t,s,hf,hc⟩
  replace hF:=bK hF
  refine h3 _ _ ?_
  refine zS fun K h=>sp 2 hf rfl fun a hf=>zT h ?_
  refine wp_ret ?_
  obtain rfl:=sj hF
  exact zO1 Tryz.results34 hf rfl ⟨t,s,rfl,hc⟩
 have bd:∀ r,x5=.out r→r=ac:=by
  rintro r rfl
  exact sj hF
 replace hc:=hc.nilRow 62 2
 refine cZ N (cW (S:=S5) (x:=x5) ?_ N (([]:List aC),0) _ _ ⟨none,0,hf.kp rfl,hc⟩ a3)
 clear hF hf hc
 rintro ⟨out,x⟩ a5 a w KB5 ⟨t,s,hf,hc⟩ hF z a1
 unfold fB at hF
 refine zS fun K h=>sp 1 hf rfl fun a hf=>zT h ?_
 refine wp_seq_k fun K8 h8=>zI hf rfl hF ?_ ?_ <;> clear hF <;> intro hF
 ·refine wp_skip ?_
  refine h8 _ _ ?_
  refine wp_seq_k fun K9 h9=>wp_block ?_
  refine zS fun K h=>?_
  obtain ⟨m,ap,hF⟩:=aA hF
  obtain ⟨a8,o,qa,qp⟩:=X.atm ap
  refine zP hf rfl (pIA Tryz.underlying23 fO rfl rfl qa) fun a hf=>zE hf hc rfl (eP cR rfl (dI (j:=0) qp rfl)) fun a w hf hc=>sp 1 hf rfl fun a hf=>zT h ?_
  refine zS fun K h=>sp 2 hf rfl fun a hf=>zP hf rfl (pFA sQ rfl) fun a hf=>zP hf rfl (pFA qY rfl) fun a hf=>zL hf hc aBx m1 rfl fun a w hf hc=>zP hf rfl (bG Tryz.underlying25 rfl) fun a hf=>sp 1 hf rfl fun a hf=>zT h ?_
  refine iK fun K12 a6=>wp_block ?_
  obtain ⟨ag,an,hF⟩:=aA hF
  let S13:((List aC) × Int)→Act→World→Prop:=(fun (zz:(List aC) × Int) a w=>∃ (p:Option Addr) (q:Nat),Has 49 a [(0,pq b_),(3,.slice p zz.1.length q),(5,i6 m),(14,.slice B w_.River.Springs.length D),(15,i6 ((w_.River.Springs.length:Nat):Int)),(16,i6 x),(24,.slice H w_.River.Towns.length I),(25,i6 ((w_.River.Towns.length:Nat):Int)),(26,i6 zz.2)]∧Ctx G (.row p q (zz.1.map aD) 62 2::.box b_ [.slice V w_.River.Down.length U,.slice O w_.River.Travel.length J,.slice B w_.River.Springs.length D,.slice H w_.River.Towns.length I,i6 w_.River.Delay.Lo,i6 w_.River.Delay.Hi,.slice R w_.River.Floods.length M,.map (some mb)] 102::bI mb aW w_.found 3 y::Lf) w)
  have am:∀ (zz:(List aC) × Int) a w,ag=.go zz→S13 zz a w→K12 a w:=by
   rintro ⟨k,g⟩ a w rfl ⟨p,q,hf,hc⟩
   replace hF:=bK hF
   refine a6 _ _ ?_
   refine h9 _ _ ?_
   refine bV ?_
   refine sp 2 hf rfl fun a hf=>aP ?_
   exact a1 (k,W (x + 1)) _ _ (sj hF).symm ⟨p,q,hf.kp rfl,hc⟩
  have a7:∀ r,ag=.out r→r=a5:=by
   rintro r rfl
   exact sj hF
  refine cZ N (cW (S:=S13) (x:=ag) ?_ N (out,0) _ _ ⟨t,s,hf.kp rfl,hc⟩ an)
  clear hF hf hc
  rintro ⟨k,g⟩ au a w KB13 ⟨p,q,hf,hc⟩ hF u ar
  unfold eM at hF
  refine zS fun K h=>sp 1 hf rfl fun a hf=>zT h ?_
  refine wp_seq_k fun K15 a0=>zI hf rfl hF ?_ ?_ <;> clear hF <;> intro hF
  ·refine wp_skip ?_
   refine a0 _ _ ?_
   refine wp_seq_k fun K16 a2=>?_
   have af:∀ (i:List aC) (ad:Option Addr) (ab:Nat) a w,Has 49 a [(0,pq b_),(3,.slice ad i.length ab),(5,i6 m),(14,.slice B w_.River.Springs.length D),(15,i6 ((w_.River.Springs.length:Nat):Int)),(16,i6 x),(24,.slice H w_.River.Towns.length I),(25,i6 ((w_.River.Towns.length:Nat):Int)),(26,i6 g)]→Ctx G (.row ad ab (i.map aD) 62 2::.box b_ [.slice V w_.River.Down.length U,.slice O w_.River.Travel.length J,.slice B w_.River.Springs.length D,.slice H w_.River.Towns.length I,i6 w_.River.Delay.Lo,i6 w_.River.Delay.Hi,.slice R w_.River.Floods.length M,.map (some mb)] 102::bI mb aW w_.found 3 y::Lf) w→iH N g i=some au→K16 a w:=by
    repeat (clear hF)
    repeat (clear hc)
    repeat (clear hf)
    intro i ad ab a w hf hc hF
    unfold iH at hF
    refine a2 _ _ ?_
    refine bV ?_
    refine sp 2 hf rfl fun a hf=>aP ?_
    exact ar (i,W (g + 1)) _ _ (sj hF).symm ⟨ad,ab,hf.kp rfl,hc⟩
   refine wp_block ?_
   refine zS fun K h=>sp 1 hf rfl fun a hf=>?_
   obtain ⟨aa,aq,hF⟩:=aA hF
   obtain ⟨ba,a9,ak,av⟩:=Y.atm aq
   refine zP hf rfl (pIA Tryz.underlying25 aC5 rfl rfl ak) fun a hf=>zE hf hc rfl (lK (vs:=[i6 aa.Station,i6 aa.Lead,i6 aa.Alarm]) aF9 rfl rfl (kH av (n:=3) (o':=0) rfl)) fun a w hf hc=>zA hf hc aO4 rfl fun bb a w hf hc=>sp 1 hf rfl fun a hf=>zW hf hc aC5 u0 rfl fun w hc=>zT h ?_
   refine zS fun K h=>sp 2 hf rfl fun a hf=>zP hf rfl (pFA aHa rfl) fun a hf=>zL hf hc cR m0 rfl fun a w hf hc=>?_
   obtain ⟨r,hr,hF⟩:=aA hF
   refine zQ (v:=.tuple #[.agg #[i6 r.1.Lo,i6 r.1.Hi],.bool r.2]) hf hc aP5 rfl (fun w hc=>(qP w_ m aa.Station d Z X Y b ((hc.pick k3).pick k3) hr).mono fun e w h=>⟨h.1,((h.2.unpick k3).unpick k3)⟩) fun a w hf hc=>sp 3 hf rfl fun a hf=>zA hf hc aFy rfl fun bc a w hf hc=>zW hf hc aAq u0 rfl fun w hc=>sp 1 hf rfl fun a hf=>zT h ?_
   refine zS fun K h=>sp 1 hf rfl fun a hf=>zT h ?_
   refine zI hf rfl hF ?_ ?_ <;> clear hF <;> intro hF
   ·refine bV ?_
    refine sp 3 hf rfl fun a hf=>zP hf rfl (iF (cells:=[i6 m,i6 g]) bt_62 rfl rfl) fun a hf=>oB (rows:=([(⟨m,g⟩:aC)]:List aC).map aD) (vs:=[(0,.agg #[i6 m,i6 g])]) hf hc rfl rfl aKg rfl ⟨rfl,rfl,rfl,trivial⟩ rfl rfl fun bf a w hf hc=>?_
    obtain ⟨un,az,hF⟩:=aA hF
    refine pC (xs:=k) (ys:=([(⟨m,g⟩:aC)]:List aC)) hf hc rfl rfl aKg rfl rfl rfl rfl rfl dJ (kC hc m0) (fun _ _=>u3) (by simpa using fD az) fun ax ay a w hf hc=>sp 1 hf rfl fun a hf=>aP ?_
    replace hc:=((hc.drop k2).drop k1).drop k0
    exact af (k++[(⟨m,g⟩:aC)]) ax ay _ _  (hf.kp rfl) hc hF
   ·refine wp_skip ?_
    replace hc:=(hc.drop k1).drop k0
    exact af k p q _ _  (hf.kp rfl) hc hF
  ·refine wp_exit ?_
   refine aY ?_
   refine aY ?_
   have he:=sj hF
   rw [← he] at u
   refine fJ ?_
   exact am _ _ _ u ⟨p,q,hf.kp rfl,hc⟩
 ·refine wp_exit ?_
  refine aY ?_
  refine aY ?_
  have he:=sj hF
  rw [← he] at z
  refine fJ ?_
  exact a4 _ _ _ z ⟨t,s,hf.kp rfl,hc⟩

def pJ (N:Nat) (r:aH):Option ((List aC) × Int) :=
 Option.bind (nR N r) (aAg (fun D=>cond (D != 0)
 (some (([]:List aC),D))
 (none))
 (fun B=>cond (B.2.2.2 != 0)
 (some (([]:List aC),B.2.2.2))
 (Option.bind (eN N (⟨(⟨r.Down,r.Travel,r.Springs,r.Towns,(⟨B.1,B.2.1⟩:aN),r.Floods⟩:aH),B.2.2.1⟩:aF)) fun H=>
 some (H,0))))
theorem aDn {N:Nat} {G:aT} {Lf:List Ent} {w:World} (r:aH) {Z:Option Addr} {b:Nat} {V:Option Addr} {S:Nat} {J:Option Addr} {M:Nat} {Y:Option Addr} {X:Nat} {R:Option Addr} {U:Nat} (O:Rd G 1 Z b (r.Down.map aB)) (H:Rd G 2 V S (r.Travel.map aI)) (B:Rd G 1 J M (r.Springs.map aB)) (I:Rd G 3 Y X (r.Towns.map aG)) (D:RdT cH G 2 R U r.Floods) (hc:Ctx G (Lf) w) {d:(List aC) × Int} (hF:pJ N r=some d):Calls Tryz.prog 19 #[.agg #[.slice Z r.Down.length b,.slice V r.Travel.length S,.slice J r.Springs.length M,.slice Y r.Towns.length X,i6 r.Delay.Lo,i6 r.Delay.Hi,.slice R r.Floods.length U]] w (fun e w=>∃ (j:Option Addr) (k:Nat),e=.returned (.tuple #[.slice j d.1.length k,i6 d.2])∧Ctx G (.row j k (d.1.map aD) 62 2::Lf) w):=by
 unfold pJ at hF
 refine bL Tryz.func19 rfl Tryz.ntmps19 rfl fun a hf=>zS fun K h=>zB hf hc rfl fun t a w hf hc=>sp 2 hf rfl fun a hf=>zT h ?_
 refine zS fun K h=>zN hf hc oK m0 rfl fun a w hf hc=>?_
 obtain ⟨m,i,hF⟩:=aA hF
 cases m with
 | inl m=>
  replace hF:=aC4 hF
  refine zC hf aDf rfl (kG r O H B I D hc i) ?_
  rintro _ w ⟨rfl,hc⟩
  refine ⟨_,rfl,fun a hf=>?_⟩
  refine sp 5 hf rfl fun a hf=>zT h ?_
  refine wp_seq_k fun K3 h3=>zS fun K h=>sp 2 hf rfl fun a hf=>zT h ?_
  refine zI hf rfl hF ?_ ?_ <;> clear hF <;> intro hF
  ·refine zS fun K h=>sp 3 hf rfl fun a hf=>zT h ?_
   refine wp_ret ?_
   refine aL ?_
   obtain rfl:=sj hF
   replace hc:=hc.nilRow 62 2
   replace hc:=hc.drop k1
   exact zO2 Tryz.results19 hf rfl rfl ⟨none,0,rfl,hc⟩
  ·refine wp_skip ?_
   refine h3 _ _ ?_
   refine wp_seq_k fun K6 h6=>aBn hF
 | inr g=>
  replace hF:=aC7 hF
  have n:=i
  refine zC hf aDf rfl (kG r O H B I D hc n) ?_
  rintro _ w ⟨u,x,v,rfl,hc⟩
  refine ⟨_,rfl,fun a hf=>?_⟩
  refine sp 5 hf rfl fun a hf=>zT h ?_
  refine wp_seq_k fun K7 h7=>zS fun K h=>sp 2 hf rfl fun a hf=>zT h ?_
  refine zI hf rfl hF ?_ ?_ <;> clear hF <;> intro hF
  ·refine zS fun K h=>sp 3 hf rfl fun a hf=>zT h ?_
   refine wp_ret ?_
   refine aL ?_
   obtain rfl:=sj hF
   replace hc:=hc.nilRow 62 2
   replace hc:=((hc.drop k3).drop k2).drop k1
   exact zO2 Tryz.results19 hf rfl rfl ⟨none,0,rfl,hc⟩
  ·refine wp_skip ?_
   refine h7 _ _ ?_
   refine zS fun K h=>sp 1 hf rfl fun a hf=>?_
   obtain ⟨s,o,hF⟩:=aA hF
   refine zC hf aKb rfl (kO (⟨(⟨r.Down,r.Travel,r.Springs,r.Towns,(⟨g.1,g.2.1⟩:aN),r.Floods⟩:aH),g.2.2.1⟩:aF) O H B I D ((hc.pick k0).pick k1) o) ?_
   rintro _ w ⟨q,p,rfl,hc⟩
   refine ⟨_,rfl,fun a hf=>?_⟩
   refine sp 2 hf rfl fun a hf=>zT h ?_
   refine wp_ret ?_
   obtain rfl:=sj hF
   replace hc:=((hc.drop k3).drop k2).drop k1
   exact zO2 Tryz.results19 hf rfl rfl ⟨q,p,rfl,hc⟩

def kJ (x:aC) (B:aC):Bool :=
 (x.Spring == B.Spring && x.Town == B.Town)
theorem yQ {G:aT} {Lf:List Ent} {w:World} (x:aC) (B:aC) {b_:Nat}  (hc:Ctx G (.box b_ [i6 B.Spring,i6 B.Town] 62::Lf) w) {D:Bool} (hF:kJ x B=D):Calls Tryz.prog 67 #[.agg #[i6 x.Spring,i6 x.Town],pq b_] w (fun e w=>e=.returned (.bool D)∧Ctx G (.box b_ [i6 B.Spring,i6 B.Town] 62::Lf) w):=by
 unfold kJ at hF
 refine bL Tryz.func67 rfl Tryz.ntmps67 rfl fun a hf=>zS fun K h=>zB hf hc rfl fun H a w hf hc=>sp 1 hf rfl fun a hf=>zT h ?_
 refine zS fun K h=>zN hf hc jE m0 rfl fun a w hf hc=>zN hf hc jE m1 rfl fun a w hf hc=>zP hf rfl (pEqA ge_62 rfl rfl (aRj _ _ _ _)) fun a hf=>sp 1 hf rfl fun a hf=>zT h ?_
 refine wp_ret ?_
 obtain rfl:=hF
 replace hc:=hc.drop k0
 exact zO1 Tryz.results67 hf rfl ⟨rfl,hc⟩

def dX (N:Nat) (s_:List aC) (f_:aC) (x:Int):Option (bY (Int) (Int)) :=
 cond (decide (x < ((s_.length:Nat):Int)))
 (Option.bind (bE s_ x) fun B=>
 cond (kJ B f_)
 (some (.ret x))
 (some (.cont (W (x + 1)))))
 (some (.brk x))
def eO (N:Nat) (s_:List aC) (f_:aC):Option (Int) :=
 Option.bind (aX (fun s4=>dX N s_ f_ s4) N 0) fun x4=>
 exK x4 (fun s4=>some (-1)) some
theorem nM {N:Nat} {G:aT} {Lf:List Ent} {w:World} (s_:List aC) (f_:aC) {H:Option Addr} {D:Nat} {b_:Nat} (O:Rd G 2 H D (s_.map aD)) (hc:Ctx G (.box b_ [i6 f_.Spring,i6 f_.Town] 62::Lf) w) {J:Int} (hF:eO N s_ f_=some J):Calls Tryz.prog 64 #[.slice H s_.length D,.func (.func 67) #[] #[pq b_]] w (fun e w=>e=.returned (i6 J)∧Ctx G (.box b_ [i6 f_.Spring,i6 f_.Town] 62::Lf) w):=by
 unfold eO at hF
 refine bL Tryz.func64 rfl Tryz.ntmps64 rfl fun a hf=>zS fun K h=>sp 1 hf rfl fun a hf=>zT h ?_
 refine wp_seq_k fun K2 h2=>zS fun K h=>sp 1 hf rfl fun a hf=>zP hf rfl (bG Tryz.underlying49 rfl) fun a hf=>sp 1 hf rfl fun a hf=>zT h ?_
 refine wp_block ?_
 obtain ⟨x4,V,hF⟩:=aA hF
 let S4:Int→Act→World→Prop:=(fun (zz:Int) a w=>Has 19 a [(0,.slice H s_.length D),(1,.func (.func 67) #[] #[pq b_]),(7,i6 ((s_.length:Nat):Int)),(8,i6 zz)]∧Ctx G (.box b_ [i6 f_.Spring,i6 f_.Town] 62::Lf) w)
 have R:∀ (zz:Int) a w,x4=.go zz→S4 zz a w→K2 a w:=by
  rintro x a w rfl ⟨hf,hc⟩
  replace hF:=bK hF
  refine h2 _ _ ?_
  refine zS fun K h=>sp 1 hf rfl fun a hf=>zT h ?_
  refine wp_ret ?_
  obtain rfl:=sj hF
  exact zO1 Tryz.results64 hf rfl ⟨rfl,hc⟩
 have X:∀ r,x4=.out r→r=J:=by
  rintro r rfl
  exact sj hF
 refine cZ N (cW (S:=S4) (x:=x4) ?_ N 0 _ _ ⟨hf.kp rfl,hc⟩ V)
 clear hF hf hc
 rintro x Z a w KB4 ⟨hf,hc⟩ hF B U
 unfold dX at hF
 refine zS fun K h=>sp 1 hf rfl fun a hf=>zT h ?_
 refine wp_seq_k fun K7 h7=>zI hf rfl hF ?_ ?_ <;> clear hF <;> intro hF
 ·refine wp_skip ?_
  refine h7 _ _ ?_
  refine wp_seq_k fun K8 h8=>wp_block ?_
  refine zS fun K h=>sp 2 hf rfl fun a hf=>zT h ?_
  refine zS fun K h=>sp 3 hf rfl fun a hf=>?_
  obtain ⟨I,M,hF⟩:=aA hF
  obtain ⟨Y,o,qa,qp⟩:=O.atm M
  refine zP hf rfl (pIA Tryz.underlying49 gG rfl rfl qa) fun a hf=>zE hf hc rfl (lK (vs:=[i6 I.Spring,i6 I.Town]) jE rfl rfl (kH qp (n:=2) (o':=0) rfl)) fun a w hf hc=>zQ (v:=.bool (kJ I f_)) hf hc en_67 rfl (fun w hc=>(yQ I f_ (hc.pick k0) rfl).mono fun e w h=>⟨h.1,(h.2.unpick k0)⟩) fun a w hf hc=>zT h ?_
  refine zI hf rfl hF ?_ ?_ <;> clear hF <;> intro hF
  ·refine zS fun K h=>sp 2 hf rfl fun a hf=>zT h ?_
   refine wp_ret ?_
   refine bS ?_
   refine aL ?_
   refine aL ?_
   have he:=sj hF
   rw [← he] at B
   replace hF:=X _ B
   refine bS ?_
   refine aL ?_
   obtain rfl:=hF
   exact zO1 Tryz.results64 hf rfl ⟨rfl,hc⟩
  ·refine wp_skip ?_
   refine h8 _ _ ?_
   refine bV ?_
   refine sp 2 hf rfl fun a hf=>aP ?_
   exact U (W (x + 1)) _ _ (sj hF).symm ⟨hf.kp rfl,hc⟩
 ·refine wp_exit ?_
  refine aY ?_
  refine aY ?_
  have he:=sj hF
  rw [← he] at B
  refine fJ ?_
  exact R _ _ _ B ⟨hf.kp rfl,hc⟩

def eB (N:Nat) (s_:List aC) (f_:aC):Option (Bool) :=
 Option.bind (eO N s_ f_) fun r=>
 some (decide (0≤r))
theorem mK {N:Nat} {G:aT} {Lf:List Ent} {w:World} (s_:List aC) (f_:aC) {B:Option Addr} {D:Nat} {b_:Nat} (I:Rd G 2 B D (s_.map aD)) (hc:Ctx G (.box b_ [i6 f_.Spring,i6 f_.Town] 62::Lf) w) {H:Bool} (hF:eB N s_ f_=some H):Calls Tryz.prog 66 #[.slice B s_.length D,.func (.func 67) #[] #[pq b_]] w (fun e w=>e=.returned (.bool H)∧Ctx G (.box b_ [i6 f_.Spring,i6 f_.Town] 62::Lf) w):=by
 unfold eB at hF
 refine bL Tryz.func66 rfl Tryz.ntmps66 rfl fun a hf=>zS fun K h=>sp 1 hf rfl fun a hf=>zT h ?_
 refine zS fun K h=>sp 2 hf rfl fun a hf=>?_
 obtain ⟨r,hr,hF⟩:=aA hF
 refine zQ (v:=i6 r) hf hc aN2 rfl (fun w hc=>(nM s_ f_ I (hc.pick k0) hr).mono fun e w h=>⟨h.1,(h.2.unpick k0)⟩) fun a w hf hc=>sp 2 hf rfl fun a hf=>zT h ?_
 refine wp_ret ?_
 obtain rfl:=sj hF
 exact zO1 Tryz.results66 hf rfl ⟨rfl,hc⟩

def lY (N:Nat) (w_:aF) (d:aC):Option (Bool) :=
 Option.bind (eN N w_) fun r=>
 Option.bind (eB N r d) fun B=>
 some B
theorem aA7 {N:Nat} {G:aT} {Lf:List Ent} {w:World} (w_:aF) (d:aC) {b_:Nat} {S:Option Addr} {U:Nat} {I:Option Addr} {H:Nat} {B:Option Addr} {D:Nat} {O:Option Addr} {R:Nat} {M:Option Addr} {J:Nat} {mb:Nat} {i:Hds} (b:Rd G 1 S U (w_.River.Down.map aB)) (Y:Rd G 2 I H (w_.River.Travel.map aI)) (V:Rd G 1 B D (w_.River.Springs.map aB)) (Z:Rd G 3 O R (w_.River.Towns.map aG)) (X:RdT cH G 2 M J w_.River.Floods) (hc:Ctx G (.box b_ [.slice S w_.River.Down.length U,.slice I w_.River.Travel.length H,.slice B w_.River.Springs.length D,.slice O w_.River.Towns.length R,i6 w_.River.Delay.Lo,i6 w_.River.Delay.Hi,.slice M w_.River.Floods.length J,.map (some mb)] 102::bI mb aW w_.found 3 i::Lf) w) {g:Bool} (hF:lY N w_ d=some g):Calls Tryz.prog 40 #[pq b_,.agg #[i6 d.Spring,i6 d.Town]] w (fun e w=>e=.returned (.bool g)∧Ctx G (.box b_ [.slice S w_.River.Down.length U,.slice I w_.River.Travel.length H,.slice B w_.River.Springs.length D,.slice O w_.River.Towns.length R,i6 w_.River.Delay.Lo,i6 w_.River.Delay.Hi,.slice M w_.River.Floods.length J,.map (some mb)] 102::bI mb aW w_.found 3 i::Lf) w):=by
 unfold lY at hF
 refine bL Tryz.func40 rfl Tryz.ntmps40 rfl fun a hf=>zS fun K h=>zB hf hc rfl fun o a w hf hc=>sp 1 hf rfl fun a hf=>zT h ?_
 refine zS fun K h=>sp 1 hf rfl fun a hf=>?_
 obtain ⟨r,hr,hF⟩:=aA hF
 refine zC hf aKb rfl (kO w_ b Y V Z X ((hc.pick k2).pick k2) hr) ?_
 rintro _ w ⟨s,q,rfl,hc⟩
 refine ⟨_,rfl,fun a hf=>?_⟩
 refine zP hf rfl (pMF (us:=[pq o]) rfl rfl) fun a hf=>?_
 obtain ⟨n,k,hF⟩:=aA hF
 refine zQ (v:=.bool n) hf hc aP3 rfl (fun w hc=>by obtain ⟨G1,p,m,hc,j⟩:=lend hc k0; exact (mK r d m (hc.pick k2) k).mono fun e w h=>⟨h.1,((j _ _ (h.2.unpick k2)).unpick k0)⟩) fun a w hf hc=>sp 1 hf rfl fun a hf=>zT h ?_
 refine wp_ret ?_
 obtain rfl:=sj hF
 replace hc:=(hc.drop k3).drop k0
 exact zO1 Tryz.results40 hf rfl ⟨rfl,hc⟩

end Go.Nilo
