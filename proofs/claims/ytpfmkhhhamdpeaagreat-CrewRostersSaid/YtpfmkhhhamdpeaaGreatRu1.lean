/-
 What functions of the Go text compute, as plain functions, and that they do, part 1 of 4. Conditions: what each theorem names.
-/
import Derived.Test.YtpfmkhhhamdpeaaGreatNl29
import Derived.Test.YtpfmkhhhamdpeaaGreatProg
set_option linter.unusedVariables false
set_option linter.unusedSimpArgs false
set_option maxRecDepth 100000
set_option maxHeartbeats 4000000
namespace Go.Nilo
open Go.Proofs


structure aG where
 Places:Int
 Order:List Int

structure aB where
 People:List (List Int)
 Stations:List aG

structure aC where
 Person:Int
 Station:Int
@[reducible] def aF (x:aC):List Value:=[i6 x.Person,i6 x.Station]
theorem rQ:∀ x,(aF x).length=2∧oN (aF x)=true:=fun _=>⟨rfl,rfl⟩

structure aV where
 Roster:aB
 rank:Nat→Int

structure aX where
 Lo:Int
 Hi:Int
@[reducible] def dK (x:aX):List Value:=[i6 x.Lo,i6 x.Hi]
theorem aBf:∀ x,(dK x).length=2∧oN (dK x)=true:=fun _=>⟨rfl,rfl⟩

structure bI where
 Way:aX
 Work:aX
 Open:Int
 Close:Int
@[reducible] def dQ (x:bI):List Value:=[i6 x.Way.Lo,i6 x.Way.Hi,i6 x.Work.Lo,i6 x.Work.Hi,i6 x.Open,i6 x.Close]
theorem aGw:∀ x,(dQ x).length=6∧oN (dQ x)=true:=fun _=>⟨rfl,rfl⟩

structure aI where
 From:Int
 Long:Int
 Weight:aX
@[reducible] def aJ (x:aI):List Value:=[i6 x.From,i6 x.Long,i6 x.Weight.Lo,i6 x.Weight.Hi]
theorem nS:∀ x,(aJ x).length=4∧oN (aJ x)=true:=fun _=>⟨rfl,rfl⟩

structure aO where
 Car:Int
 Wide:Int
 Sag:Int
 Most:Int
 Rides:List aI

structure vB where
 Rate:Int
 Normal:Int
 Extra:Int
@[reducible] def aAb (x:vB):List Value:=[i6 x.Rate,i6 x.Normal,i6 x.Extra]
theorem aI1:∀ x,(aAb x).length=3∧oN (aAb x)=true:=fun _=>⟨rfl,rfl⟩

structure aY where
 Places:Int
 Order:List Int

structure bE where
 People:List (List Int)
 Stations:List aY

structure aP where
 Person:Int
 Station:Int
@[reducible] def jK (x:aP):List Value:=[i6 x.Person,i6 x.Station]
theorem wE:∀ x,(jK x).length=2∧oN (jK x)=true:=fun _=>⟨rfl,rfl⟩

@[reducible] def aM:Kd (List Int):=kL aD 3 1
theorem oC:yE aM:=aKa _ _ _
theorem dA:∀ r,(aM.v r).length=1∧oN (aM.v r)=true:=fun _=>⟨rfl,rfl⟩

@[reducible] def bA:Kd aG:=Kd.comp (kL aD 3 1) (fun x=>x.Order) (fun h x=>[i6 x.Places,.slice h.1 x.Order.length h.2])
theorem rJ:yE bA:=yE.comp (aKa _ _ _) _ _
theorem aGx:∀ r,(bA.v r).length=2∧oN (bA.v r)=true:=fun _=>⟨rfl,rfl⟩

theorem iK:∀ (q:Addr) (w:World),(Instr.fieldAt 78 (.pointer (some q)) 0).run Tryz.prog w=.ok (.pointer (some (q.add 0))) w:=fun _ _=>by kernel_rfl

theorem gB:ScT Tryz.prog 75:=⟨⟨_,Tryz.underlying75,trivial⟩,by kernel_rfl⟩

theorem fJ:∀ (q:Addr) (w:World),(Instr.fieldAt 78 (.pointer (some q)) 1).run Tryz.prog w=.ok (.pointer (some (q.add 1))) w:=fun _ _=>by kernel_rfl

theorem mR:ScT Tryz.prog 76:=⟨⟨_,Tryz.underlying76,trivial⟩,by kernel_rfl⟩

theorem aHq:(Tryz.prog.info? 78).map (·.zero)=some (some (.agg #[.slice none 0 0,.slice none 0 0])):=by kernel_rfl

theorem jO:SlT Tryz.prog 25 3 1 8 (i6 0):=SlT.of Tryz.underlying25 (by kernel_rfl) (by decide)

theorem aLc:SlT Tryz.prog 75 25 1 24 (.slice none 0 0):=SlT.of Tryz.underlying75 (by kernel_rfl) (by decide)

theorem aGp:iA Tryz.prog 101=some ([i6 0,.slice none 0 0],[(0,1),(1,1)]):=by kernel_rfl

theorem aKs:SlT Tryz.prog 76 101 2 32 (.agg #[i6 0,.slice none 0 0]):=SlT.of Tryz.underlying76 (by kernel_rfl) (by decide)

theorem aMr:iA Tryz.prog 78=some ([.slice none 0 0,.slice none 0 0],[(0,1),(1,1)]):=by kernel_rfl

theorem aHy:(Tryz.prog.info? 78).map (·.size)=some 2:=by kernel_rfl

theorem nY:yB Tryz.prog 78 2:=⟨⟨_,Tryz.underlying78,trivial⟩,by kernel_rfl⟩

theorem aKv:En Tryz.prog 67:=En.of Tryz.func67 (by kernel_rfl) (by kernel_rfl)

theorem nZ:En Tryz.prog 86:=En.of Tryz.func86 (by kernel_rfl) (by kernel_rfl)

theorem kX:(Tryz.prog.info? 25).map (·.size)=some 1:=by kernel_rfl

theorem fB:ScT Tryz.prog 25:=⟨⟨_,Tryz.underlying25,trivial⟩,by kernel_rfl⟩

theorem aKe:ScT Tryz.prog 185:=⟨⟨_,Tryz.underlying185,trivial⟩,by kernel_rfl⟩

theorem eH:(Tryz.prog.info? 3).map (·.size)=some 1:=by kernel_rfl

theorem bG:ScT Tryz.prog 3:=⟨⟨_,Tryz.underlying3,trivial⟩,by kernel_rfl⟩

theorem aE4:ScT Tryz.prog 143:=⟨⟨_,Tryz.underlying143,trivial⟩,by kernel_rfl⟩

theorem aNr:En Tryz.prog 118:=En.of Tryz.func118 (by kernel_rfl) (by kernel_rfl)

theorem aEr:En Tryz.prog 157:=En.of Tryz.func157 (by kernel_rfl) (by kernel_rfl)

theorem aDn:En Tryz.prog 97:=En.of Tryz.func97 (by kernel_rfl) (by kernel_rfl)

theorem aCr:En Tryz.prog 113:=En.of Tryz.func113 (by kernel_rfl) (by kernel_rfl)

theorem aFi:En Tryz.prog 87:=En.of Tryz.func87 (by kernel_rfl) (by kernel_rfl)

theorem aOp:En Tryz.prog 117:=En.of Tryz.func117 (by kernel_rfl) (by kernel_rfl)

theorem aK4:En Tryz.prog 169:=En.of Tryz.func169 (by kernel_rfl) (by kernel_rfl)

theorem aLy:En Tryz.prog 191:=En.of Tryz.func191 (by kernel_rfl) (by kernel_rfl)

theorem aLh:En Tryz.prog 168:=En.of Tryz.func168 (by kernel_rfl) (by kernel_rfl)

theorem aJr:En Tryz.prog 116:=En.of Tryz.func116 (by kernel_rfl) (by kernel_rfl)

theorem mK:(Tryz.prog.info? 101).map (·.size)=some 2:=by kernel_rfl

theorem xI:yB Tryz.prog 101 2:=⟨⟨_,Tryz.underlying101,trivial⟩,by kernel_rfl⟩

theorem aKk:ScT Tryz.prog 187:=⟨⟨_,Tryz.underlying187,trivial⟩,by kernel_rfl⟩

theorem oU:∀ (q:Addr) (w:World),(Instr.fieldAt 101 (.pointer (some q)) 0).run Tryz.prog w=.ok (.pointer (some (q.add 0))) w:=fun _ _=>by kernel_rfl

theorem pR:∀ (q:Addr) (w:World),(Instr.fieldAt 101 (.pointer (some q)) 1).run Tryz.prog w=.ok (.pointer (some (q.add 1))) w:=fun _ _=>by kernel_rfl

theorem aNq:En Tryz.prog 121:=En.of Tryz.func121 (by kernel_rfl) (by kernel_rfl)

theorem aOu:En Tryz.prog 120:=En.of Tryz.func120 (by kernel_rfl) (by kernel_rfl)

theorem aJw:En Tryz.prog 171:=En.of Tryz.func171 (by kernel_rfl) (by kernel_rfl)

theorem aLx:En Tryz.prog 192:=En.of Tryz.func192 (by kernel_rfl) (by kernel_rfl)

theorem aKm:En Tryz.prog 170:=En.of Tryz.func170 (by kernel_rfl) (by kernel_rfl)

theorem aLu:En Tryz.prog 119:=En.of Tryz.func119 (by kernel_rfl) (by kernel_rfl)

theorem aKt:En Tryz.prog 114:=En.of Tryz.func114 (by kernel_rfl) (by kernel_rfl)

theorem aMo:En Tryz.prog 72:=En.of Tryz.func72 (by kernel_rfl) (by kernel_rfl)

theorem aJ0:En Tryz.prog 122:=En.of Tryz.func122 (by kernel_rfl) (by kernel_rfl)

theorem aOg:En Tryz.prog 123:=En.of Tryz.func123 (by kernel_rfl) (by kernel_rfl)

theorem aNf:En Tryz.prog 55:=En.of Tryz.func55 (by kernel_rfl) (by kernel_rfl)

theorem aN1:iA Tryz.prog 181=some ((vT [.slice none 0 0,.slice none 0 0] 144 aD (fun _=>0) []),[(0,2),(2,144)]):=by kernel_rfl

theorem aEv:(Tryz.prog.info? 101).map (·.zero)=some (some (.agg #[i6 0,.slice none 0 0])):=by kernel_rfl

theorem rO:∀ (q:Addr) (w:World),(Instr.fieldAt 181 (.pointer (some q)) 1).run Tryz.prog w=.ok (.pointer (some (q.add 2))) w:=fun _ _=>by kernel_rfl

theorem xO:(Tryz.prog.info? 178).map (·.size)=some 12:=by kernel_rfl

theorem aT:Tryz.prog.follows .mixedOrders=true:=by kernel_rfl

theorem wY:En Tryz.prog 105:=En.of Tryz.func105 (by kernel_rfl) (by kernel_rfl)

theorem mZ:ScT Tryz.prog 166:=⟨⟨_,Tryz.underlying166,trivial⟩,by kernel_rfl⟩

theorem pS:∀ (q:Addr) (w:World),(Instr.fieldAt 181 (.pointer (some q)) 0).run Tryz.prog w=.ok (.pointer (some (q.add 0))) w:=fun _ _=>by kernel_rfl

@[reducible] def bD:Kd (Option (List (Int × Bool))):=kM Value.bool
theorem aDp:∀ r,(bD.v r).length=1∧oN (bD.v r)=true:=aOr _

theorem aN0:SlT Tryz.prog 222 223 1 8 (.map none):=SlT.of Tryz.underlying222 (by kernel_rfl) (by decide)

theorem aOd:(Tryz.prog.info? 222).map (·.zero)=some (some (.slice none 0 0)):=by kernel_rfl

theorem aN6:(Tryz.prog.info? 222).map (·.size)=some 1:=by kernel_rfl

theorem yW:ScT Tryz.prog 222:=⟨⟨_,Tryz.underlying222,trivial⟩,by kernel_rfl⟩

theorem yO:(Tryz.prog.info? 223).map (·.size)=some 1:=by kernel_rfl

theorem aOj:En Tryz.prog 166:=En.of Tryz.func166 (by kernel_rfl) (by kernel_rfl)

theorem aOq:En Tryz.prog 107:=En.of Tryz.func107 (by kernel_rfl) (by kernel_rfl)

theorem aM3:(Tryz.prog.info? 25).map (·.zero)=some (some (.slice none 0 0)):=by kernel_rfl

theorem zr_99:(Tryz.prog.info? 99).map (·.zero)=some (some (.slice none 0 0)):=by kernel_rfl

theorem aNm:(Tryz.prog.info? 213).map (·.zero)=some (some (.nilFunc)):=by kernel_rfl

theorem aOc:(Tryz.prog.info? 213).map (·.size)=some 1:=by kernel_rfl

theorem aJt:ScT Tryz.prog 213:=⟨⟨_,Tryz.underlying213,trivial⟩,by kernel_rfl⟩

theorem aE6:En Tryz.prog 111:=En.of Tryz.func111 (by kernel_rfl) (by kernel_rfl)

theorem aCs:En Tryz.prog 110:=En.of Tryz.func110 (by kernel_rfl) (by kernel_rfl)

theorem aJ9:(Tryz.prog.info? 3).map (·.zero)=some (some (i6 0)):=by kernel_rfl

theorem aHh:ScT Tryz.prog 99:=⟨⟨_,Tryz.underlying99,trivial⟩,by kernel_rfl⟩

theorem lJ:(Tryz.prog.info? 86).map (·.size)=some 2:=by kernel_rfl

theorem lM:yB Tryz.prog 86 2:=⟨⟨_,Tryz.underlying86,trivial⟩,by kernel_rfl⟩

theorem uW:iA Tryz.prog 86=some ([i6 0,i6 0],[(0,1),(1,1)]):=by kernel_rfl

theorem aFm:Tryz.prog.eqGuardType Tryz.prog.depth 86=false:=by kernel_rfl

theorem aCz (x0:Int) (x1:Int) (y0:Int) (y1:Int) (w:World):(Op.equalIn 10000 86 (.agg #[i6 x0,i6 x1]) (.agg #[i6 y0,i6 y1])).run Tryz.prog w=.ok (x0 == y0 && x1 == y1) w:=by
 rw [run_equalIn_agg w 9999 86 _ _ (by kernel_rfl) (by kernel_rfl)]
 simp [Op.eqFields,part,go_sem]
 repeat' split
 all_goals simp_all

theorem aNu:En Tryz.prog 165:=En.of Tryz.func165 (by kernel_rfl) (by kernel_rfl)

theorem aKg:En Tryz.prog 188:=En.of Tryz.func188 (by kernel_rfl) (by kernel_rfl)

theorem aKf:En Tryz.prog 164:=En.of Tryz.func164 (by kernel_rfl) (by kernel_rfl)

theorem aDl:ScT Tryz.prog 223:=⟨⟨_,Tryz.underlying223,trivial⟩,by kernel_rfl⟩

theorem zr_4:(Tryz.prog.info? 4).map (·.zero)=some (some (.bool false)):=by kernel_rfl

theorem aIa:SlT Tryz.prog 99 86 2 16 (.agg #[i6 0,i6 0]):=SlT.of Tryz.underlying99 (by kernel_rfl) (by decide)

theorem sz_99:(Tryz.prog.info? 99).map (·.size)=some 1:=by kernel_rfl

theorem aKj:En Tryz.prog 163:=En.of Tryz.func163 (by kernel_rfl) (by kernel_rfl)

theorem aG4:En Tryz.prog 167:=En.of Tryz.func167 (by kernel_rfl) (by kernel_rfl)

theorem aLm:En Tryz.prog 106:=En.of Tryz.func106 (by kernel_rfl) (by kernel_rfl)

theorem aM2:En Tryz.prog 43:=En.of Tryz.func43 (by kernel_rfl) (by kernel_rfl)

theorem yL:(Tryz.prog.info? 86).map (·.zero)=some (some (.agg #[i6 0,i6 0])):=by kernel_rfl

theorem aJf:(Tryz.prog.info? 166).map (·.zero)=some (some (.pointer none)):=by kernel_rfl

theorem aNc:(Tryz.prog.info? 34).map (·.zero)=some (some (i6 0)):=by kernel_rfl

theorem aLz:(Tryz.prog.info? 166).map (·.size)=some 1:=by kernel_rfl

theorem aGd:(Tryz.prog.info? 34).map (·.size)=some 1:=by kernel_rfl

theorem aD7:ScT Tryz.prog 34:=⟨⟨_,Tryz.underlying34,trivial⟩,by kernel_rfl⟩

theorem aNh:En Tryz.prog 108:=En.of Tryz.func108 (by kernel_rfl) (by kernel_rfl)

theorem aBk:(Tryz.prog.info? 172).map (·.zero)=some (some (.agg #[.slice none 0 0,.slice none 0 0,.slice none 0 0,.slice none 0 0,.slice none 0 0,.slice none 0 0,.slice none 0 0,.slice none 0 0,.slice none 0 0,.slice none 0 0,.slice none 0 0,.slice none 0 0])):=by kernel_rfl

theorem aE5:yB Tryz.prog 172 12:=⟨⟨_,Tryz.underlying172,trivial⟩,by kernel_rfl⟩

theorem aEq:(Tryz.prog.info? 172).map (·.size)=some 12:=by kernel_rfl

theorem aK0:En Tryz.prog 109:=En.of Tryz.func109 (by kernel_rfl) (by kernel_rfl)

theorem aN4:En Tryz.prog 112:=En.of Tryz.func112 (by kernel_rfl) (by kernel_rfl)

theorem aMs:En Tryz.prog 46:=En.of Tryz.func46 (by kernel_rfl) (by kernel_rfl)

theorem aNk:ScT Tryz.prog 192:=⟨⟨_,Tryz.underlying192,trivial⟩,by kernel_rfl⟩

theorem aCe:∀ (q:Addr) (w:World),(Instr.fieldAt 86 (.pointer (some q)) 0).run Tryz.prog w=.ok (.pointer (some (q.add 0))) w:=fun _ _=>by kernel_rfl

theorem tZ:∀ (q:Addr) (w:World),(Instr.fieldAt 86 (.pointer (some q)) 1).run Tryz.prog w=.ok (.pointer (some (q.add 1))) w:=fun _ _=>by kernel_rfl

theorem aN9:En Tryz.prog 129:=En.of Tryz.func129 (by kernel_rfl) (by kernel_rfl)

theorem aNp:En Tryz.prog 172:=En.of Tryz.func172 (by kernel_rfl) (by kernel_rfl)

theorem aJb:En Tryz.prog 128:=En.of Tryz.func128 (by kernel_rfl) (by kernel_rfl)

theorem sz_4:(Tryz.prog.info? 4).map (·.size)=some 1:=by kernel_rfl

theorem sc_4:ScT Tryz.prog 4:=⟨⟨_,Tryz.underlying4,trivial⟩,by kernel_rfl⟩

theorem aOa:En Tryz.prog 193:=En.of Tryz.func193 (by kernel_rfl) (by kernel_rfl)

theorem aOi:En Tryz.prog 173:=En.of Tryz.func173 (by kernel_rfl) (by kernel_rfl)

theorem aNl:En Tryz.prog 130:=En.of Tryz.func130 (by kernel_rfl) (by kernel_rfl)

theorem aMw:En Tryz.prog 59:=En.of Tryz.func59 (by kernel_rfl) (by kernel_rfl)

theorem aKo:(Tryz.prog.info? 29).map (·.zero)=some (some (.agg #[i6 0,i6 0])):=by kernel_rfl

theorem aDm:iA Tryz.prog 29=some ([i6 0,i6 0],[(0,1),(1,1)]):=by kernel_rfl

theorem aAi:(Tryz.prog.info? 29).map (·.size)=some 2:=by kernel_rfl

theorem tK:yB Tryz.prog 29 2:=⟨⟨_,Tryz.underlying29,trivial⟩,by kernel_rfl⟩

theorem aDo:En Tryz.prog 51:=En.of Tryz.func51 (by kernel_rfl) (by kernel_rfl)

theorem aMv:iA Tryz.prog 31=some ([i6 0,i6 0,i6 0,i6 0,i6 0,i6 0],[(0,2),(2,2),(4,1),(5,1)]):=by kernel_rfl

theorem sl_22:SlT Tryz.prog 22 31 6 48 (.agg #[i6 0,i6 0,i6 0,i6 0,i6 0,i6 0]):=SlT.of Tryz.underlying22 (by kernel_rfl) (by decide)

theorem aLp:En Tryz.prog 68:=En.of Tryz.func68 (by kernel_rfl) (by kernel_rfl)

theorem wP:(Tryz.prog.info? 31).map (·.size)=some 6:=by kernel_rfl

theorem aG8:yB Tryz.prog 31 6:=⟨⟨_,Tryz.underlying31,trivial⟩,by kernel_rfl⟩

theorem aNj:ScT Tryz.prog 219:=⟨⟨_,Tryz.underlying219,trivial⟩,by kernel_rfl⟩

theorem aCh:∀ (q:Addr) (w:World),(Instr.fieldAt 31 (.pointer (some q)) 0).run Tryz.prog w=.ok (.pointer (some (q.add 0))) w:=fun _ _=>by kernel_rfl

theorem aCf:∀ (q:Addr) (w:World),(Instr.fieldAt 29 (.pointer (some q)) 0).run Tryz.prog w=.ok (.pointer (some (q.add 0))) w:=fun _ _=>by kernel_rfl

theorem sU:∀ (q:Addr) (w:World),(Instr.fieldAt 29 (.pointer (some q)) 1).run Tryz.prog w=.ok (.pointer (some (q.add 1))) w:=fun _ _=>by kernel_rfl

theorem aH3:En Tryz.prog 80:=En.of Tryz.func80 (by kernel_rfl) (by kernel_rfl)

theorem aJc:En Tryz.prog 154:=En.of Tryz.func154 (by kernel_rfl) (by kernel_rfl)

theorem aCg:∀ (q:Addr) (w:World),(Instr.fieldAt 31 (.pointer (some q)) 1).run Tryz.prog w=.ok (.pointer (some (q.add 2))) w:=fun _ _=>by kernel_rfl

theorem aCm:∀ (q:Addr) (w:World),(Instr.fieldAt 31 (.pointer (some q)) 2).run Tryz.prog w=.ok (.pointer (some (q.add 4))) w:=fun _ _=>by kernel_rfl

theorem aAr:∀ (q:Addr) (w:World),(Instr.fieldAt 31 (.pointer (some q)) 3).run Tryz.prog w=.ok (.pointer (some (q.add 5))) w:=fun _ _=>by kernel_rfl

theorem aOk:En Tryz.prog 153:=En.of Tryz.func153 (by kernel_rfl) (by kernel_rfl)

theorem aOm:En Tryz.prog 184:=En.of Tryz.func184 (by kernel_rfl) (by kernel_rfl)

theorem aOn:En Tryz.prog 200:=En.of Tryz.func200 (by kernel_rfl) (by kernel_rfl)

theorem aN7:En Tryz.prog 183:=En.of Tryz.func183 (by kernel_rfl) (by kernel_rfl)

theorem aOh:En Tryz.prog 152:=En.of Tryz.func152 (by kernel_rfl) (by kernel_rfl)

theorem aM8:En Tryz.prog 79:=En.of Tryz.func79 (by kernel_rfl) (by kernel_rfl)

theorem aJd:(Tryz.prog.info? 147).map (·.zero)=some (some (.agg #[.nilFunc])):=by kernel_rfl

theorem aJ6:iA Tryz.prog 147=some ([.nilFunc],[(0,1)]):=by kernel_rfl

theorem aJn:(Tryz.prog.info? 147).map (·.size)=some 1:=by kernel_rfl

theorem aEw:yB Tryz.prog 147 1:=⟨⟨_,Tryz.underlying147,trivial⟩,by kernel_rfl⟩

theorem aK2:En Tryz.prog 82:=En.of Tryz.func82 (by kernel_rfl) (by kernel_rfl)

theorem aMx:(Tryz.prog.info? 31).map (·.zero)=some (some (.agg #[i6 0,i6 0,i6 0,i6 0,i6 0,i6 0])):=by kernel_rfl

theorem vA:∀ (q:Addr) (w:World),(Instr.fieldAt 147 (.pointer (some q)) 0).run Tryz.prog w=.ok (.pointer (some (q.add 0))) w:=fun _ _=>by kernel_rfl

theorem aBb:ScT Tryz.prog 145:=⟨⟨_,Tryz.underlying145,trivial⟩,by kernel_rfl⟩

theorem aGo:En Tryz.prog 155:=En.of Tryz.func155 (by kernel_rfl) (by kernel_rfl)

theorem aNa:En Tryz.prog 81:=En.of Tryz.func81 (by kernel_rfl) (by kernel_rfl)

theorem aHv:En Tryz.prog 83:=En.of Tryz.func83 (by kernel_rfl) (by kernel_rfl)

theorem aGy:En Tryz.prog 156:=En.of Tryz.func156 (by kernel_rfl) (by kernel_rfl)

theorem aKn:SlT Tryz.prog 33 29 2 16 (.agg #[i6 0,i6 0]):=SlT.of Tryz.underlying33 (by kernel_rfl) (by decide)

theorem aMt:En Tryz.prog 18:=En.of Tryz.func18 (by kernel_rfl) (by kernel_rfl)

theorem en_22:En Tryz.prog 22:=En.of Tryz.func22 (by kernel_rfl) (by kernel_rfl)

theorem aD2:En Tryz.prog 29:=En.of Tryz.func29 (by kernel_rfl) (by kernel_rfl)

theorem aMy:Tryz.prog.eqGuardType Tryz.prog.depth 29=false:=by kernel_rfl

theorem aK5 (x0:Int) (x1:Int) (y0:Int) (y1:Int) (w:World):(Op.equalIn 10000 29 (.agg #[i6 x0,i6 x1]) (.agg #[i6 y0,i6 y1])).run Tryz.prog w=.ok (x0 == y0 && x1 == y1) w:=by
 rw [run_equalIn_agg w 9999 29 _ _ (by kernel_rfl) (by kernel_rfl)]
 simp [Op.eqFields,part,go_sem]
 repeat' split
 all_goals simp_all

theorem en_21:En Tryz.prog 21:=En.of Tryz.func21 (by kernel_rfl) (by kernel_rfl)

theorem en_24:En Tryz.prog 24:=En.of Tryz.func24 (by kernel_rfl) (by kernel_rfl)

theorem aHo:(Tryz.prog.info? 54).map (·.zero)=some (some (.agg #[i6 0,i6 0,i6 0,i6 0,.slice none 0 0])):=by kernel_rfl

theorem aL0:iA Tryz.prog 72=some ([i6 0,i6 0,i6 0,i6 0],[(0,1),(1,1),(2,2)]):=by kernel_rfl

theorem aDb:SlT Tryz.prog 52 72 4 32 (.agg #[i6 0,i6 0,i6 0,i6 0]):=SlT.of Tryz.underlying52 (by kernel_rfl) (by decide)

theorem bt_54:iA Tryz.prog 54=some ([i6 0,i6 0,i6 0,i6 0,.slice none 0 0],[(0,1),(1,1),(2,1),(3,1),(4,1)]):=by kernel_rfl

theorem aF0:(Tryz.prog.info? 54).map (·.size)=some 5:=by kernel_rfl

theorem pF:yB Tryz.prog 54 5:=⟨⟨_,Tryz.underlying54,trivial⟩,by kernel_rfl⟩

theorem aLt:En Tryz.prog 69:=En.of Tryz.func69 (by kernel_rfl) (by kernel_rfl)

theorem mV:∀ (q:Addr) (w:World),(Instr.fieldAt 54 (.pointer (some q)) 4).run Tryz.prog w=.ok (.pointer (some (q.add 4))) w:=fun _ _=>by kernel_rfl

theorem vY:ScT Tryz.prog 52:=⟨⟨_,Tryz.underlying52,trivial⟩,by kernel_rfl⟩

theorem aAm:∀ (q:Addr) (w:World),(Instr.fieldAt 54 (.pointer (some q)) 0).run Tryz.prog w=.ok (.pointer (some (q.add 0))) w:=fun _ _=>by kernel_rfl

theorem aHt:∀ (q:Addr) (w:World),(Instr.fieldAt 54 (.pointer (some q)) 1).run Tryz.prog w=.ok (.pointer (some (q.add 1))) w:=fun _ _=>by kernel_rfl

theorem aIm:∀ (q:Addr) (w:World),(Instr.fieldAt 54 (.pointer (some q)) 2).run Tryz.prog w=.ok (.pointer (some (q.add 2))) w:=fun _ _=>by kernel_rfl

theorem aIg:∀ (q:Addr) (w:World),(Instr.fieldAt 54 (.pointer (some q)) 3).run Tryz.prog w=.ok (.pointer (some (q.add 3))) w:=fun _ _=>by kernel_rfl

theorem uB:(Tryz.prog.info? 72).map (·.size)=some 4:=by kernel_rfl

theorem tF:yB Tryz.prog 72 4:=⟨⟨_,Tryz.underlying72,trivial⟩,by kernel_rfl⟩

theorem aJi:ScT Tryz.prog 155:=⟨⟨_,Tryz.underlying155,trivial⟩,by kernel_rfl⟩

theorem rI:∀ (q:Addr) (w:World),(Instr.fieldAt 72 (.pointer (some q)) 0).run Tryz.prog w=.ok (.pointer (some (q.add 0))) w:=fun _ _=>by kernel_rfl

theorem aCd:∀ (q:Addr) (w:World),(Instr.fieldAt 72 (.pointer (some q)) 1).run Tryz.prog w=.ok (.pointer (some (q.add 1))) w:=fun _ _=>by kernel_rfl

theorem xY:∀ (q:Addr) (w:World),(Instr.fieldAt 72 (.pointer (some q)) 2).run Tryz.prog w=.ok (.pointer (some (q.add 2))) w:=fun _ _=>by kernel_rfl

theorem en_91:En Tryz.prog 91:=En.of Tryz.func91 (by kernel_rfl) (by kernel_rfl)

theorem aJ8:En Tryz.prog 159:=En.of Tryz.func159 (by kernel_rfl) (by kernel_rfl)

theorem aJk:En Tryz.prog 185:=En.of Tryz.func185 (by kernel_rfl) (by kernel_rfl)

theorem aJa:En Tryz.prog 158:=En.of Tryz.func158 (by kernel_rfl) (by kernel_rfl)

theorem aM9:En Tryz.prog 90:=En.of Tryz.func90 (by kernel_rfl) (by kernel_rfl)

theorem aLk:En Tryz.prog 31:=En.of Tryz.func31 (by kernel_rfl) (by kernel_rfl)

theorem aFt:(Tryz.prog.info? 72).map (·.zero)=some (some (.agg #[i6 0,i6 0,i6 0,i6 0])):=by kernel_rfl

theorem aGm:En Tryz.prog 104:=En.of Tryz.func104 (by kernel_rfl) (by kernel_rfl)

theorem aLe:En Tryz.prog 160:=En.of Tryz.func160 (by kernel_rfl) (by kernel_rfl)

theorem aGf:En Tryz.prog 93:=En.of Tryz.func93 (by kernel_rfl) (by kernel_rfl)

theorem en_34:En Tryz.prog 34:=En.of Tryz.func34 (by kernel_rfl) (by kernel_rfl)

theorem aOs:En Tryz.prog 150:=En.of Tryz.func150 (by kernel_rfl) (by kernel_rfl)

theorem aOt:En Tryz.prog 161:=En.of Tryz.func161 (by kernel_rfl) (by kernel_rfl)

theorem aNt:En Tryz.prog 162:=En.of Tryz.func162 (by kernel_rfl) (by kernel_rfl)

theorem en_95:En Tryz.prog 95:=En.of Tryz.func95 (by kernel_rfl) (by kernel_rfl)

theorem aFj:En Tryz.prog 99:=En.of Tryz.func99 (by kernel_rfl) (by kernel_rfl)

theorem aM4:En Tryz.prog 98:=En.of Tryz.func98 (by kernel_rfl) (by kernel_rfl)

theorem aMp:En Tryz.prog 96:=En.of Tryz.func96 (by kernel_rfl) (by kernel_rfl)

theorem en_36:En Tryz.prog 36:=En.of Tryz.func36 (by kernel_rfl) (by kernel_rfl)

theorem aJz:(Tryz.prog.info? 52).map (·.size)=some 1:=by kernel_rfl

theorem aNi:En Tryz.prog 101:=En.of Tryz.func101 (by kernel_rfl) (by kernel_rfl)

theorem aNv:En Tryz.prog 102:=En.of Tryz.func102 (by kernel_rfl) (by kernel_rfl)

theorem aNo:En Tryz.prog 103:=En.of Tryz.func103 (by kernel_rfl) (by kernel_rfl)

theorem en_38:En Tryz.prog 38:=En.of Tryz.func38 (by kernel_rfl) (by kernel_rfl)

theorem bt_24:iA Tryz.prog 24=some ([i6 0,i6 0,i6 0],[(0,1),(1,1),(2,1)]):=by kernel_rfl

theorem aIo:∀ (q:Addr) (w:World),(Instr.fieldAt 24 (.pointer (some q)) 0).run Tryz.prog w=.ok (.pointer (some (q.add 0))) w:=fun _ _=>by kernel_rfl

theorem aIl:∀ (q:Addr) (w:World),(Instr.fieldAt 24 (.pointer (some q)) 1).run Tryz.prog w=.ok (.pointer (some (q.add 1))) w:=fun _ _=>by kernel_rfl

theorem aHe:∀ (q:Addr) (w:World),(Instr.fieldAt 24 (.pointer (some q)) 2).run Tryz.prog w=.ok (.pointer (some (q.add 2))) w:=fun _ _=>by kernel_rfl

theorem en_88:En Tryz.prog 88:=En.of Tryz.func88 (by kernel_rfl) (by kernel_rfl)

theorem en_26:En Tryz.prog 26:=En.of Tryz.func26 (by kernel_rfl) (by kernel_rfl)

theorem aId:En Tryz.prog 15:=En.of Tryz.func15 (by kernel_rfl) (by kernel_rfl)

theorem aHl:En Tryz.prog 17:=En.of Tryz.func17 (by kernel_rfl) (by kernel_rfl)

theorem aLo:En Tryz.prog 115:=En.of Tryz.func115 (by kernel_rfl) (by kernel_rfl)

theorem sz_76:(Tryz.prog.info? 76).map (·.size)=some 1:=by kernel_rfl

theorem en_53:En Tryz.prog 53:=En.of Tryz.func53 (by kernel_rfl) (by kernel_rfl)

theorem en_54:En Tryz.prog 54:=En.of Tryz.func54 (by kernel_rfl) (by kernel_rfl)

theorem aLv:(Tryz.prog.info? 108).map (·.zero)=some (some (.agg #[.slice none 0 0,.slice none 0 0])):=by kernel_rfl

theorem aNw:iA Tryz.prog 108=some ([.slice none 0 0,.slice none 0 0],[(0,1),(1,1)]):=by kernel_rfl

theorem aLw:(Tryz.prog.info? 108).map (·.size)=some 2:=by kernel_rfl

theorem gC:∀ (q:Addr) (w:World),(Instr.fieldAt 108 (.pointer (some q)) 1).run Tryz.prog w=.ok (.pointer (some (q.add 1))) w:=fun _ _=>by kernel_rfl

theorem mI:ScT Tryz.prog 106:=⟨⟨_,Tryz.underlying106,trivial⟩,by kernel_rfl⟩

theorem aNn:iA Tryz.prog 188=some ([i6 0,.slice none 0 0],[(0,1),(1,1)]):=by kernel_rfl

@[reducible] def hL:Kd aY:=Kd.comp (kL aD 3 1) (fun x=>x.Order) (fun h x=>[i6 x.Places,.slice h.1 x.Order.length h.2])
theorem aAo:yE hL:=yE.comp (aKa _ _ _) _ _
theorem aGs:∀ r,(hL.v r).length=2∧oN (hL.v r)=true:=fun _=>⟨rfl,rfl⟩

theorem aKi:SlT Tryz.prog 106 188 2 32 (.agg #[i6 0,.slice none 0 0]):=SlT.of Tryz.underlying106 (by kernel_rfl) (by decide)

theorem aOf:(Tryz.prog.info? 106).map (·.size)=some 1:=by kernel_rfl

theorem sI:yB Tryz.prog 108 2:=⟨⟨_,Tryz.underlying108,trivial⟩,by kernel_rfl⟩

theorem aGa:En Tryz.prog 57:=En.of Tryz.func57 (by kernel_rfl) (by kernel_rfl)

theorem gA:∀ (q:Addr) (w:World),(Instr.fieldAt 108 (.pointer (some q)) 0).run Tryz.prog w=.ok (.pointer (some (q.add 0))) w:=fun _ _=>by kernel_rfl

theorem aFf:En Tryz.prog 85:=En.of Tryz.func85 (by kernel_rfl) (by kernel_rfl)

theorem uN:En Tryz.prog 131:=En.of Tryz.func131 (by kernel_rfl) (by kernel_rfl)

theorem aJm:En Tryz.prog 124:=En.of Tryz.func124 (by kernel_rfl) (by kernel_rfl)

theorem rA:(Tryz.prog.info? 188).map (·.size)=some 2:=by kernel_rfl

theorem rZ:∀ (q:Addr) (w:World),(Instr.fieldAt 188 (.pointer (some q)) 1).run Tryz.prog w=.ok (.pointer (some (q.add 1))) w:=fun _ _=>by kernel_rfl

theorem wK:∀ (q:Addr) (w:World),(Instr.fieldAt 188 (.pointer (some q)) 0).run Tryz.prog w=.ok (.pointer (some (q.add 0))) w:=fun _ _=>by kernel_rfl

theorem aHg:En Tryz.prog 56:=En.of Tryz.func56 (by kernel_rfl) (by kernel_rfl)

theorem aJ2:(Tryz.prog.info? 110).map (·.zero)=some (some (.agg #[i6 0,i6 0])):=by kernel_rfl

theorem aA5:iA Tryz.prog 110=some ([i6 0,i6 0],[(0,1),(1,1)]):=by kernel_rfl

theorem rD:(Tryz.prog.info? 110).map (·.size)=some 2:=by kernel_rfl

theorem aA2:En Tryz.prog 125:=En.of Tryz.func125 (by kernel_rfl) (by kernel_rfl)

theorem aGk:En Tryz.prog 126:=En.of Tryz.func126 (by kernel_rfl) (by kernel_rfl)

theorem aOl:En Tryz.prog 127:=En.of Tryz.func127 (by kernel_rfl) (by kernel_rfl)

theorem zF:yB Tryz.prog 110 2:=⟨⟨_,Tryz.underlying110,trivial⟩,by kernel_rfl⟩

theorem en_58:En Tryz.prog 58:=En.of Tryz.func58 (by kernel_rfl) (by kernel_rfl)

theorem aNz:Tryz.prog.eqGuardType Tryz.prog.depth 110=false:=by kernel_rfl

theorem aL2 (x0:Int) (x1:Int) (y0:Int) (y1:Int) (w:World):(Op.equalIn 10000 110 (.agg #[i6 x0,i6 x1]) (.agg #[i6 y0,i6 y1])).run Tryz.prog w=.ok (x0 == y0 && x1 == y1) w:=by
 rw [run_equalIn_agg w 9999 110 _ _ (by kernel_rfl) (by kernel_rfl)]
 simp [Op.eqFields,part,go_sem]
 repeat' split
 all_goals simp_all

theorem aJ1:SlT Tryz.prog 116 110 2 16 (.agg #[i6 0,i6 0]):=SlT.of Tryz.underlying116 (by kernel_rfl) (by decide)

theorem aM5:En Tryz.prog 61:=En.of Tryz.func61 (by kernel_rfl) (by kernel_rfl)

theorem aDc:∀ (q:Addr) (w:World),(Instr.fieldAt 110 (.pointer (some q)) 0).run Tryz.prog w=.ok (.pointer (some (q.add 0))) w:=fun _ _=>by kernel_rfl

theorem aCu:∀ (q:Addr) (w:World),(Instr.fieldAt 110 (.pointer (some q)) 1).run Tryz.prog w=.ok (.pointer (some (q.add 1))) w:=fun _ _=>by kernel_rfl

theorem aM6:En Tryz.prog 60:=En.of Tryz.func60 (by kernel_rfl) (by kernel_rfl)

theorem en_62:En Tryz.prog 62:=En.of Tryz.func62 (by kernel_rfl) (by kernel_rfl)

theorem en_63:En Tryz.prog 63:=En.of Tryz.func63 (by kernel_rfl) (by kernel_rfl)

theorem en_64:En Tryz.prog 64:=En.of Tryz.func64 (by kernel_rfl) (by kernel_rfl)

theorem aOo:En Tryz.prog 132:=En.of Tryz.func132 (by kernel_rfl) (by kernel_rfl)

theorem en_65:En Tryz.prog 65:=En.of Tryz.func65 (by kernel_rfl) (by kernel_rfl)

theorem en_66:En Tryz.prog 66:=En.of Tryz.func66 (by kernel_rfl) (by kernel_rfl)

def uT (N:Nat)  : Option (aB) :=
 some (⟨([([0,1]:List Int),([0,1]:List Int)]:List (List Int)),([(⟨1,([1,0]:List Int)⟩:aG),(⟨1,([0,1]:List Int)⟩:aG)]:List aG)⟩:aB)
theorem vO {N:Nat} {G:aQ} {Lf:List Ent} {w:World}    (hc:Ctx G (Lf) w) {J:aB} (hF:uT N=some J):Calls Tryz.prog 67 #[] w (fun e w=>∃ (X:Option Addr) (D:vP) (Z:Option Addr) (B:vP),e=.returned (.agg #[.slice X J.People.length D.1,.slice Z J.Stations.length B.1])∧Ctx G (.row X D.1 ((aK D.2 J.People).map (Kd.v aM)) 25 1::bZ aM (aK D.2 J.People)::.row Z B.1 ((aK B.2 J.Stations).map (Kd.v bA)) 101 2::bZ bA (aK B.2 J.Stations)::Lf) w):=by
 unfold uT at hF
 refine bN Tryz.func67 rfl Tryz.ntmps67 rfl fun a hf=>zS fun K h=>zA hf hc aHq rfl fun Y a w hf hc=>zT h ?_
 refine wp_seq_k fun K2 h2=>bW ?_
 refine nU (rows:=([0,1]:List Int).map aD) (vs:=[(0,i6 0),(1,i6 1)]) hf hc rfl rfl jO rfl ⟨rfl,rfl,rfl,rfl,rfl,rfl,trivial⟩ rfl rfl fun O a w hf hc=>nU (rows:=([0,1]:List Int).map aD) (vs:=[(0,i6 0),(1,i6 1)]) hf hc rfl rfl jO rfl ⟨rfl,rfl,rfl,rfl,rfl,rfl,trivial⟩ rfl rfl fun S a w hf hc=>nU (rows:=([(((some ⟨O,0,none⟩),2),([0,1]:List Int)),(((some ⟨S,0,none⟩),2),([0,1]:List Int))]:List (H2 × (List Int))).map (Kd.v aM)) (vs:=[(0,.slice (some ⟨O,0,none⟩) 2 2),(1,.slice (some ⟨S,0,none⟩) 2 2)]) hf hc rfl rfl aLc rfl ⟨rfl,rfl,rfl,rfl,rfl,rfl,trivial⟩ rfl rfl fun H a w hf hc=>nU (rows:=([1,0]:List Int).map aD) (vs:=[(0,i6 1),(1,i6 0)]) hf hc rfl rfl jO rfl ⟨rfl,rfl,rfl,rfl,rfl,rfl,trivial⟩ rfl rfl fun V a w hf hc=>zP hf rfl (cK (cells:=[i6 1,.slice (some ⟨V,0,none⟩) 2 2]) aGp rfl rfl) fun a hf=>nU (rows:=([0,1]:List Int).map aD) (vs:=[(0,i6 0),(1,i6 1)]) hf hc rfl rfl jO rfl ⟨rfl,rfl,rfl,rfl,rfl,rfl,trivial⟩ rfl rfl fun U a w hf hc=>zP hf rfl (cK (cells:=[i6 1,.slice (some ⟨U,0,none⟩) 2 2]) aGp rfl rfl) fun a hf=>nU (rows:=([(((some ⟨V,0,none⟩),2),(⟨1,([1,0]:List Int)⟩:aG)),(((some ⟨U,0,none⟩),2),(⟨1,([0,1]:List Int)⟩:aG))]:List (H2 × aG)).map (Kd.v bA)) (vs:=[(0,.agg #[i6 1,.slice (some ⟨V,0,none⟩) 2 2]),(1,.agg #[i6 1,.slice (some ⟨U,0,none⟩) 2 2])]) hf hc rfl rfl aKs rfl ⟨rfl,rfl,rfl,rfl,rfl,rfl,trivial⟩ rfl rfl fun I a w hf hc=>zP hf rfl (cK (cells:=[.slice (some ⟨H,0,none⟩) 2 2,.slice (some ⟨I,0,none⟩) 2 2]) aMr rfl rfl) fun a hf=>zW hf hc aHy u6 rfl fun w hc=>aL ?_
 replace hc:=((hc.pick k1).pick k2).pick k2
 obtain ⟨R,hc⟩:=aLb (K:=bA) ([(((some ⟨V,0,none⟩),2),(⟨1,([1,0]:List Int)⟩:aG)),(((some ⟨U,0,none⟩),2),(⟨1,([0,1]:List Int)⟩:aG))]:List (H2 × aG)) hc
 replace hc:Ctx G (.row (some ⟨I,0,none⟩) 2 ((aK R ([(⟨1,([1,0]:List Int)⟩:aG),(⟨1,([0,1]:List Int)⟩:aG)]:List aG)).map (Kd.v bA)) 101 2::bZ bA (aK R ([(⟨1,([1,0]:List Int)⟩:aG),(⟨1,([0,1]:List Int)⟩:aG)]:List aG))::.row (some ⟨H,0,none⟩) 2 (([(((some ⟨O,0,none⟩),2),([0,1]:List Int)),(((some ⟨S,0,none⟩),2),([0,1]:List Int))]:List (H2 × (List Int))).map (Kd.v aM)) 25 1::.row (some ⟨S,0,none⟩) 2 (([0,1]:List Int).map aD) 3 1::.row (some ⟨O,0,none⟩) 2 (([0,1]:List Int).map aD) 3 1::.box Y [.slice (some ⟨H,0,none⟩) 2 2,.slice (some ⟨I,0,none⟩) 2 2] 78::Lf) w:=hc
 replace hc:=((((hc.pick k1).pick k1).pick k3).pick k4).pick k4
 obtain ⟨M,hc⟩:=aLb (K:=aM) ([(((some ⟨O,0,none⟩),2),([0,1]:List Int)),(((some ⟨S,0,none⟩),2),([0,1]:List Int))]:List (H2 × (List Int))) hc
 replace hc:Ctx G (.row (some ⟨H,0,none⟩) 2 ((aK M ([([0,1]:List Int),([0,1]:List Int)]:List (List Int))).map (Kd.v aM)) 25 1::bZ aM (aK M ([([0,1]:List Int),([0,1]:List Int)]:List (List Int)))::.row (some ⟨I,0,none⟩) 2 ((aK R ([(⟨1,([1,0]:List Int)⟩:aG),(⟨1,([0,1]:List Int)⟩:aG)]:List aG)).map (Kd.v bA)) 101 2::bZ bA (aK R ([(⟨1,([1,0]:List Int)⟩:aG),(⟨1,([0,1]:List Int)⟩:aG)]:List aG))::.box Y [.slice (some ⟨H,0,none⟩) 2 2,.slice (some ⟨I,0,none⟩) 2 2] 78::Lf) w:=hc
 refine h2 _ _ ?_
 refine wp_ret ?_
 obtain rfl:=sj hF
 exact vQ (by simp) rfl Tryz.results67 hf hc (eG (vs:=[.slice (some ⟨H,0,none⟩) 2 2,.slice (some ⟨I,0,none⟩) 2 2]) nY rfl rfl (bM (n:=2) m4 rfl)) ⟨(some ⟨H,0,none⟩),(2,M),(some ⟨I,0,none⟩),(2,R),rfl,(hc.drop k4)⟩

def aE (n:Int) (D:Int) (B:Int):Bool :=
 ((decide (D≤n)) && (decide (n≤B)))
theorem cU {G:aQ} {Lf:List Ent} {w:World} (n:Int) (B:Int) (D:Int)   (hc:Ctx G (Lf) w) {H:Bool} (hF:aE n B D=H):Calls Tryz.prog 86 #[i6 n,i6 B,i6 D] w (fun e w=>e=.returned (.bool H)∧Ctx G (Lf) w):=by
 unfold aE at hF
 refine bN Tryz.func86 rfl Tryz.ntmps86 rfl fun a hf=>zS fun K h=>sp 1 hf rfl fun a hf=>zT h ?_
 refine zS fun K h=>sp 4 hf rfl fun a hf=>fV 4 (fun a=>Has 15 a [(0,i6 n),(1,i6 B),(2,i6 D),(6,.bool false),(7,i6 n),(8,i6 B),(9,.bool (decide (B≤n))),(10,.bool (decide (B≤n))),(14,.bool ((decide (B≤n)) && (decide (n≤D))))]) hc ?_ ?_
 ·cases hb:(decide (B≤n))
  ·rw [hb] at hf
   refine stS hf rfl rfl rfl fun a hf=>stS hf rfl rfl rfl fun a hf=>stS hf rfl rfl rfl fun a hf=>sp 1 hf rfl fun a hf=>aL ⟨hf.kp rfl,hc⟩
  ·rw [hb] at hf
   refine sp 4 hf rfl fun a hf=>aL ⟨hf.kp rfl,hc⟩
 intro a w ⟨hf,hc⟩
 refine sp 1 hf rfl fun a hf=>zT h ?_
 refine wp_ret ?_
 obtain rfl:=hF
 exact zO1 Tryz.results86 hf rfl ⟨rfl,hc⟩

def mD (s_:Int) (x:aB):Bool :=
 (aE s_ 0 (W (((x.Stations.length:Nat):Int) - 1)))
theorem aAu {G:aQ} {Lf:List Ent} {w:World} (s_:Int) (x:aB) {b_:Nat} {H:Option Addr} {I:Nat} {D:Option Addr} {B:Nat} (M:RdT aM G 1 H I x.People) (J:RdT bA G 2 D B x.Stations) (hc:Ctx G (.box b_ [.slice H x.People.length I,.slice D x.Stations.length B] 78::Lf) w) {O:Bool} (hF:mD s_ x=O):Calls Tryz.prog 118 #[i6 s_,pq b_] w (fun e w=>e=.returned (.bool O)∧Ctx G (.box b_ [.slice H x.People.length I,.slice D x.Stations.length B] 78::Lf) w):=by
 unfold mD at hF
 refine bN Tryz.func118 rfl Tryz.ntmps118 rfl fun a hf=>zS fun K h=>sp 1 hf rfl fun a hf=>zT h ?_
 refine zS fun K h=>sp 1 hf rfl fun a hf=>zP hf rfl (pFA fJ rfl) fun a hf=>zL hf hc mR m0 rfl fun a w hf hc=>zP hf rfl (aW Tryz.underlying76 rfl) fun a hf=>sp 1 hf rfl fun a hf=>zQ (v:=.bool (aE s_ 0 (W (((x.Stations.length:Nat):Int) - 1)))) hf hc nZ rfl (fun w hc=>cU s_ 0 (W (((x.Stations.length:Nat):Int) - 1)) hc rfl) fun a w hf hc=>sp 1 hf rfl fun a hf=>zT h ?_
 refine wp_ret ?_
 obtain rfl:=hF
 exact zO1 Tryz.results118 hf rfl ⟨rfl,hc⟩

def gT (x:Int) (B:aB):Bool :=
 (!(mD x B))
theorem yF {G:aQ} {Lf:List Ent} {w:World} (x:Int) (J:aB) {b_:Nat} {R:Nat} {H:Option Addr} {I:Nat} {B:Option Addr} {D:Nat} (O:RdT aM G 1 H I J.People) (M:RdT bA G 2 B D J.Stations) (hc:Ctx G (.box b_ [.func (.func 118) #[] #[pq R]] 143::.box R [.slice H J.People.length I,.slice B J.Stations.length D] 78::Lf) w) {S:Bool} (hF:gT x J=S):Calls Tryz.prog 157 #[i6 x,pq b_] w (fun e w=>e=.returned (.bool S)∧Ctx G (.box b_ [.func (.func 118) #[] #[pq R]] 143::.box R [.slice H J.People.length I,.slice B J.Stations.length D] 78::Lf) w):=by
 unfold gT at hF
 refine bN Tryz.func157 rfl Tryz.ntmps157 rfl fun a hf=>zS fun K h=>sp 1 hf rfl fun a hf=>zT h ?_
 refine zS fun K h=>zL hf hc aE4 m0 rfl fun a w hf hc=>sp 1 hf rfl fun a hf=>zQ (v:=.bool (mD x J)) hf hc aNr rfl (fun w hc=>(aAu x J O M (hc.pick k1) rfl).mono fun e w h=>⟨h.1,(h.2.unpick k1)⟩) fun a w hf hc=>sp 2 hf rfl fun a hf=>zT h ?_
 refine wp_ret ?_
 obtain rfl:=hF
 exact zO1 Tryz.results157 hf rfl ⟨rfl,hc⟩

def gI (N:Nat) (s_:List Int) (f_:aB) (x:Int):Option (bK (Int) (Int)) :=
 cond (decide (x < ((s_.length:Nat):Int)))
 (Option.bind (aU s_ x) fun B=>
 cond (gT B f_)
 (some (.ret x))
 (some (.cont (W (x + 1)))))
 (some (.brk x))
def fQ (N:Nat) (s_:List Int) (f_:aB):Option (Int) :=
 Option.bind (aS (fun s4=>gI N s_ f_ s4) N 0) fun x4=>
 exK x4 (fun s4=>some (-1)) some
theorem sJ {N:Nat} {G:aQ} {Lf:List Ent} {w:World} (s_:List Int) (f_:aB) {V:Option Addr} {U:Nat} {b_:Nat} {J:Nat} {H:Option Addr} {I:Nat} {D:Option Addr} {B:Nat} (Z:Rd G 1 V U (s_.map aD)) (R:RdT aM G 1 H I f_.People) (M:RdT bA G 2 D B f_.Stations) (hc:Ctx G (.box b_ [.func (.func 118) #[] #[pq J]] 143::.box J [.slice H f_.People.length I,.slice D f_.Stations.length B] 78::Lf) w) {X:Int} (hF:fQ N s_ f_=some X):Calls Tryz.prog 97 #[.slice V s_.length U,.func (.func 157) #[] #[pq b_]] w (fun e w=>e=.returned (i6 X)∧Ctx G (.box b_ [.func (.func 118) #[] #[pq J]] 143::.box J [.slice H f_.People.length I,.slice D f_.Stations.length B] 78::Lf) w):=by
 unfold fQ at hF
 refine bN Tryz.func97 rfl Tryz.ntmps97 rfl fun a hf=>zS fun K h=>sp 1 hf rfl fun a hf=>zT h ?_
 refine wp_seq_k fun K2 h2=>zS fun K h=>sp 1 hf rfl fun a hf=>zP hf rfl (aW Tryz.underlying25 rfl) fun a hf=>sp 1 hf rfl fun a hf=>zT h ?_
 refine wp_block ?_
 obtain ⟨x4,k,hF⟩:=aA hF
 let S4:Int→Act→World→Prop:=(fun (zz:Int) a w=>Has 19 a [(0,.slice V s_.length U),(1,.func (.func 157) #[] #[pq b_]),(7,i6 ((s_.length:Nat):Int)),(8,i6 zz)]∧Ctx G (.box b_ [.func (.func 118) #[] #[pq J]] 143::.box J [.slice H f_.People.length I,.slice D f_.Stations.length B] 78::Lf) w)
 have i:∀ (zz:Int) a w,x4=.go zz→S4 zz a w→K2 a w:=by
  rintro x a w rfl ⟨hf,hc⟩
  replace hF:=bH hF
  refine h2 _ _ ?_
  refine zS fun K h=>sp 1 hf rfl fun a hf=>zT h ?_
  refine wp_ret ?_
  obtain rfl:=sj hF
  exact zO1 Tryz.results97 hf rfl ⟨rfl,hc⟩
 have d:∀ r,x4=.out r→r=X:=by
  rintro r rfl
  exact sj hF
 refine bY N (bX (S:=S4) (x:=x4) ?_ N 0 _ _ ⟨hf.kp rfl,hc⟩ k)
 clear hF hf hc
 rintro x n a w KB4 ⟨hf,hc⟩ hF O g
 unfold gI at hF
 refine zS fun K h=>sp 1 hf rfl fun a hf=>zT h ?_
 refine wp_seq_k fun K7 h7=>zI hf rfl hF ?_ ?_ <;> clear hF <;> intro hF
 ·refine wp_skip ?_
  refine h7 _ _ ?_
  refine wp_seq_k fun K8 h8=>wp_block ?_
  refine zS fun K h=>sp 2 hf rfl fun a hf=>zT h ?_
  refine zS fun K h=>sp 3 hf rfl fun a hf=>?_
  obtain ⟨Y,b,hF⟩:=aA hF
  obtain ⟨m,o,qa,qp⟩:=Z.atm b
  refine zP hf rfl (pIA Tryz.underlying25 eH rfl rfl qa) fun a hf=>zE hf hc rfl (bF bG rfl (aR (j:=0) qp rfl)) fun a w hf hc=>zQ (v:=.bool (gT Y f_)) hf hc aEr rfl (fun w hc=>(yF Y f_ R M ((hc.pick k1).pick k1) rfl).mono fun e w h=>⟨h.1,((h.2.unpick k1).unpick k1)⟩) fun a w hf hc=>zT h ?_
  refine zI hf rfl hF ?_ ?_ <;> clear hF <;> intro hF
  ·refine zS fun K h=>sp 2 hf rfl fun a hf=>zT h ?_
   refine wp_ret ?_
   refine bB ?_
   refine aH ?_
   refine aH ?_
   have he:=sj hF
   rw [← he] at O
   replace hF:=d _ O
   refine bB ?_
   refine aH ?_
   obtain rfl:=hF
   exact zO1 Tryz.results97 hf rfl ⟨rfl,hc⟩
  ·refine wp_skip ?_
   refine h8 _ _ ?_
   refine bW ?_
   refine sp 2 hf rfl fun a hf=>aL ?_
   exact g (W (x + 1)) _ _ (sj hF).symm ⟨hf.kp rfl,hc⟩
 ·refine wp_exit ?_
  refine aN ?_
  refine aN ?_
  have he:=sj hF
  rw [← he] at O
  refine cT ?_
  exact i _ _ _ O ⟨hf.kp rfl,hc⟩

def eD (N:Nat) (s_:List Int) (f_:aB):Option (Bool) :=
 Option.bind (fQ N s_ f_) fun r=>
 some (decide (0≤r))
theorem qO {N:Nat} {G:aQ} {Lf:List Ent} {w:World} (s_:List Int) (f_:aB) {S:Option Addr} {R:Nat} {b_:Nat} {O:Nat} {H:Option Addr} {I:Nat} {D:Option Addr} {B:Nat} (V:Rd G 1 S R (s_.map aD)) (M:RdT aM G 1 H I f_.People) (J:RdT bA G 2 D B f_.Stations) (hc:Ctx G (.box b_ [.func (.func 118) #[] #[pq O]] 143::.box O [.slice H f_.People.length I,.slice D f_.Stations.length B] 78::Lf) w) {U:Bool} (hF:eD N s_ f_=some U):Calls Tryz.prog 113 #[.slice S s_.length R,.func (.func 157) #[] #[pq b_]] w (fun e w=>e=.returned (.bool U)∧Ctx G (.box b_ [.func (.func 118) #[] #[pq O]] 143::.box O [.slice H f_.People.length I,.slice D f_.Stations.length B] 78::Lf) w):=by
 unfold eD at hF
 refine bN Tryz.func113 rfl Tryz.ntmps113 rfl fun a hf=>zS fun K h=>sp 1 hf rfl fun a hf=>zT h ?_
 refine zS fun K h=>sp 2 hf rfl fun a hf=>?_
 obtain ⟨r,hr,hF⟩:=aA hF
 refine zQ (v:=i6 r) hf hc aDn rfl (fun w hc=>(sJ s_ f_ V M J ((hc.pick k1).pick k1) hr).mono fun e w h=>⟨h.1,((h.2.unpick k1).unpick k1)⟩) fun a w hf hc=>sp 2 hf rfl fun a hf=>zT h ?_
 refine wp_ret ?_
 obtain rfl:=sj hF
 exact zO1 Tryz.results113 hf rfl ⟨rfl,hc⟩

def kO (N:Nat) (l:List Int) (so:aB):Option (Bool) :=
 Option.bind (eD N l so) fun r=>
 some (!r)
theorem aAk {N:Nat} {G:aQ} {Lf:List Ent} {w:World} (l:List Int) (so:aB) {S:Option Addr} {R:Nat} {b_:Nat} {I:Option Addr} {H:Nat} {B:Option Addr} {D:Nat} (V:Rd G 1 S R (l.map aD)) (M:RdT aM G 1 I H so.People) (J:RdT bA G 2 B D so.Stations) (hc:Ctx G (.box b_ [.slice I so.People.length H,.slice B so.Stations.length D] 78::Lf) w) {O:Bool} (hF:kO N l so=some O):Calls Tryz.prog 87 #[.slice S l.length R,.func (.func 118) #[] #[pq b_]] w (fun e w=>e=.returned (.bool O)∧Ctx G (.box b_ [.slice I so.People.length H,.slice B so.Stations.length D] 78::Lf) w):=by
 unfold kO at hF
 refine bN Tryz.func87 rfl Tryz.ntmps87 rfl fun a hf=>zS fun K h=>zB hf hc rfl fun U a w hf hc=>sp 1 hf rfl fun a hf=>zT h ?_
 refine zS fun K h=>sp 1 hf rfl fun a hf=>zP hf rfl (pMF (us:=[pq U]) rfl rfl) fun a hf=>?_
 obtain ⟨r,hr,hF⟩:=aA hF
 refine zQ (v:=.bool r) hf hc aCr rfl (fun w hc=>(qO l so V M J ((hc.pick k1).pick k1) hr).mono fun e w h=>⟨h.1,((h.2.unpick k1).unpick k1)⟩) fun a w hf hc=>sp 2 hf rfl fun a hf=>zT h ?_
 refine wp_ret ?_
 obtain rfl:=sj hF
 replace hc:=hc.drop k0
 exact zO1 Tryz.results87 hf rfl ⟨rfl,hc⟩

def qC (N:Nat) (l:List Int) (x:aB):Option (Bool) :=
 Option.bind (kO N l (⟨x.People,x.Stations⟩:aB)) fun r=>
 some r
theorem aB4 {N:Nat} {G:aQ} {Lf:List Ent} {w:World} (l:List Int) (x:aB) {S:Option Addr} {R:Nat} {b_:Nat} {H:Option Addr} {I:Nat} {D:Option Addr} {B:Nat} (U:Rd G 1 S R (l.map aD)) (M:RdT aM G 1 H I x.People) (J:RdT bA G 2 D B x.Stations) (hc:Ctx G (.box b_ [.slice H x.People.length I,.slice D x.Stations.length B] 78::Lf) w) {O:Bool} (hF:qC N l x=some O):Calls Tryz.prog 117 #[.slice S l.length R,pq b_] w (fun e w=>e=.returned (.bool O)∧Ctx G (.box b_ [.slice H x.People.length I,.slice D x.Stations.length B] 78::Lf) w):=by
 unfold qC at hF
 refine bN Tryz.func117 rfl Tryz.ntmps117 rfl fun a hf=>zS fun K h=>sp 1 hf rfl fun a hf=>zT h ?_
 refine zS fun K h=>sp 1 hf rfl fun a hf=>zP hf rfl (pMF (us:=[pq b_]) rfl rfl) fun a hf=>?_
 obtain ⟨r,hr,hF⟩:=aA hF
 refine zQ (v:=.bool r) hf hc aFi rfl (fun w hc=>(aAk l (⟨x.People,x.Stations⟩:aB) U M J (hc.pick k0) hr).mono fun e w h=>⟨h.1,(h.2.unpick k0)⟩) fun a w hf hc=>sp 1 hf rfl fun a hf=>zT h ?_
 refine wp_ret ?_
 obtain rfl:=sj hF
 exact zO1 Tryz.results117 hf rfl ⟨rfl,hc⟩

def hO (N:Nat) (x:List Int) (B:aB):Option (Bool) :=
 Option.bind (qC N x B) fun r=>
 some (!r)
theorem xK {N:Nat} {G:aQ} {Lf:List Ent} {w:World} (x:List Int) (M:aB) {S:Option Addr} {V:Nat} {b_:Nat} {R:Nat} {H:Option Addr} {I:Nat} {D:Option Addr} {B:Nat} (X:Rd G 1 S V (x.map aD)) (O:RdT aM G 1 H I M.People) (J:RdT bA G 2 D B M.Stations) (hc:Ctx G (.box b_ [.func (.func 117) #[] #[pq R]] 185::.box R [.slice H M.People.length I,.slice D M.Stations.length B] 78::Lf) w) {U:Bool} (hF:hO N x M=some U):Calls Tryz.prog 169 #[.slice S x.length V,pq b_] w (fun e w=>e=.returned (.bool U)∧Ctx G (.box b_ [.func (.func 117) #[] #[pq R]] 185::.box R [.slice H M.People.length I,.slice D M.Stations.length B] 78::Lf) w):=by
 unfold hO at hF
 refine bN Tryz.func169 rfl Tryz.ntmps169 rfl fun a hf=>zS fun K h=>sp 1 hf rfl fun a hf=>zT h ?_
 refine zS fun K h=>zL hf hc aKe m0 rfl fun a w hf hc=>sp 1 hf rfl fun a hf=>?_
 obtain ⟨r,hr,hF⟩:=aA hF
 refine zQ (v:=.bool r) hf hc aOp rfl (fun w hc=>(aB4 x M X O J (hc.pick k1) hr).mono fun e w h=>⟨h.1,(h.2.unpick k1)⟩) fun a w hf hc=>sp 2 hf rfl fun a hf=>zT h ?_
 refine wp_ret ?_
 obtain rfl:=sj hF
 exact zO1 Tryz.results169 hf rfl ⟨rfl,hc⟩

def fN (N:Nat) (s_:List (List Int)) (f_:aB) (x:Int):Option (bK (Int) (Int)) :=
 cond (decide (x < ((s_.length:Nat):Int)))
 (Option.bind (aU s_ x) fun B=>
 Option.bind (hO N B f_) fun r=>
 cond r
 (some (.ret x))
 (some (.cont (W (x + 1)))))
 (some (.brk x))
def eW (N:Nat) (s_:List (List Int)) (f_:aB):Option (Int) :=
 Option.bind (aS (fun s4=>fN N s_ f_ s4) N 0) fun x4=>
 exK x4 (fun s4=>some (-1)) some
theorem qZ {N:Nat} {G:aQ} {Lf:List Ent} {w:World} (s_:List (List Int)) (f_:aB) {V:Option Addr} {U:Nat} {b_:Nat} {J:Nat} {H:Option Addr} {I:Nat} {D:Option Addr} {B:Nat} (Y:RdT aM G 1 V U s_) (R:RdT aM G 1 H I f_.People) (M:RdT bA G 2 D B f_.Stations) (hc:Ctx G (.box b_ [.func (.func 117) #[] #[pq J]] 185::.box J [.slice H f_.People.length I,.slice D f_.Stations.length B] 78::Lf) w) {X:Int} (hF:eW N s_ f_=some X):Calls Tryz.prog 191 #[.slice V s_.length U,.func (.func 169) #[] #[pq b_]] w (fun e w=>e=.returned (i6 X)∧Ctx G (.box b_ [.func (.func 117) #[] #[pq J]] 185::.box J [.slice H f_.People.length I,.slice D f_.Stations.length B] 78::Lf) w):=by
 unfold eW at hF
 refine bN Tryz.func191 rfl Tryz.ntmps191 rfl fun a hf=>zS fun K h=>sp 1 hf rfl fun a hf=>zT h ?_
 refine wp_seq_k fun K2 h2=>zS fun K h=>sp 1 hf rfl fun a hf=>zP hf rfl (aW Tryz.underlying75 rfl) fun a hf=>sp 1 hf rfl fun a hf=>zT h ?_
 refine wp_block ?_
 obtain ⟨x4,k,hF⟩:=aA hF
 let S4:Int→Act→World→Prop:=(fun (zz:Int) a w=>Has 19 a [(0,.slice V s_.length U),(1,.func (.func 169) #[] #[pq b_]),(7,i6 ((s_.length:Nat):Int)),(8,i6 zz)]∧Ctx G (.box b_ [.func (.func 117) #[] #[pq J]] 185::.box J [.slice H f_.People.length I,.slice D f_.Stations.length B] 78::Lf) w)
 have i:∀ (zz:Int) a w,x4=.go zz→S4 zz a w→K2 a w:=by
  rintro x a w rfl ⟨hf,hc⟩
  replace hF:=bH hF
  refine h2 _ _ ?_
  refine zS fun K h=>sp 1 hf rfl fun a hf=>zT h ?_
  refine wp_ret ?_
  obtain rfl:=sj hF
  exact zO1 Tryz.results191 hf rfl ⟨rfl,hc⟩
 have b:∀ r,x4=.out r→r=X:=by
  rintro r rfl
  exact sj hF
 refine bY N (bX (S:=S4) (x:=x4) ?_ N 0 _ _ ⟨hf.kp rfl,hc⟩ k)
 clear hF hf hc
 rintro x n a w KB4 ⟨hf,hc⟩ hF O d
 unfold fN at hF
 refine zS fun K h=>sp 1 hf rfl fun a hf=>zT h ?_
 refine wp_seq_k fun K7 h7=>zI hf rfl hF ?_ ?_ <;> clear hF <;> intro hF
 ·refine wp_skip ?_
  refine h7 _ _ ?_
  refine wp_seq_k fun K8 h8=>wp_block ?_
  refine zS fun K h=>sp 2 hf rfl fun a hf=>zT h ?_
  refine zS fun K h=>sp 3 hf rfl fun a hf=>?_
  obtain ⟨g,Z,hF⟩:=aA hF
  obtain ⟨m,o,hd,qa,qp,qr⟩:=Y.atm Z
  refine zP hf rfl (pIA Tryz.underlying75 kX rfl rfl qa) fun a hf=>zE hf hc rfl (bF fB rfl (aR (j:=0) qp rfl)) fun a w hf hc=>?_
  obtain ⟨r,hr,hF⟩:=aA hF
  refine zQ (v:=.bool r) hf hc aK4 rfl (fun w hc=>(xK g f_ qr R M ((hc.pick k1).pick k1) hr).mono fun e w h=>⟨h.1,((h.2.unpick k1).unpick k1)⟩) fun a w hf hc=>zT h ?_
  refine zI hf rfl hF ?_ ?_ <;> clear hF <;> intro hF
  ·refine zS fun K h=>sp 2 hf rfl fun a hf=>zT h ?_
   refine wp_ret ?_
   refine bB ?_
   refine aH ?_
   refine aH ?_
   have he:=sj hF
   rw [← he] at O
   replace hF:=b _ O
   refine bB ?_
   refine aH ?_
   obtain rfl:=hF
   exact zO1 Tryz.results191 hf rfl ⟨rfl,hc⟩
  ·refine wp_skip ?_
   refine h8 _ _ ?_
   refine bW ?_
   refine sp 2 hf rfl fun a hf=>aL ?_
   exact d (W (x + 1)) _ _ (sj hF).symm ⟨hf.kp rfl,hc⟩
 ·refine wp_exit ?_
  refine aN ?_
  refine aN ?_
  have he:=sj hF
  rw [← he] at O
  refine cT ?_
  exact i _ _ _ O ⟨hf.kp rfl,hc⟩

def dR (N:Nat) (s_:List (List Int)) (f_:aB):Option (Bool) :=
 Option.bind (eW N s_ f_) fun r=>
 some (decide (0≤r))
theorem pL {N:Nat} {G:aQ} {Lf:List Ent} {w:World} (s_:List (List Int)) (f_:aB) {S:Option Addr} {R:Nat} {b_:Nat} {O:Nat} {H:Option Addr} {I:Nat} {D:Option Addr} {B:Nat} (V:RdT aM G 1 S R s_) (M:RdT aM G 1 H I f_.People) (J:RdT bA G 2 D B f_.Stations) (hc:Ctx G (.box b_ [.func (.func 117) #[] #[pq O]] 185::.box O [.slice H f_.People.length I,.slice D f_.Stations.length B] 78::Lf) w) {U:Bool} (hF:dR N s_ f_=some U):Calls Tryz.prog 168 #[.slice S s_.length R,.func (.func 169) #[] #[pq b_]] w (fun e w=>e=.returned (.bool U)∧Ctx G (.box b_ [.func (.func 117) #[] #[pq O]] 185::.box O [.slice H f_.People.length I,.slice D f_.Stations.length B] 78::Lf) w):=by
 unfold dR at hF
 refine bN Tryz.func168 rfl Tryz.ntmps168 rfl fun a hf=>zS fun K h=>sp 1 hf rfl fun a hf=>zT h ?_
 refine zS fun K h=>sp 2 hf rfl fun a hf=>?_
 obtain ⟨r,hr,hF⟩:=aA hF
 refine zQ (v:=i6 r) hf hc aLy rfl (fun w hc=>(qZ s_ f_ V M J ((hc.pick k1).pick k1) hr).mono fun e w h=>⟨h.1,((h.2.unpick k1).unpick k1)⟩) fun a w hf hc=>sp 2 hf rfl fun a hf=>zT h ?_
 refine wp_ret ?_
 obtain rfl:=sj hF
 exact zO1 Tryz.results168 hf rfl ⟨rfl,hc⟩

def jT (N:Nat) (l:List (List Int)) (so:aB):Option (Bool) :=
 Option.bind (dR N l so) fun r=>
 some (!r)
theorem yR {N:Nat} {G:aQ} {Lf:List Ent} {w:World} (l:List (List Int)) (so:aB) {S:Option Addr} {R:Nat} {b_:Nat} {I:Option Addr} {H:Nat} {B:Option Addr} {D:Nat} (V:RdT aM G 1 S R l) (M:RdT aM G 1 I H so.People) (J:RdT bA G 2 B D so.Stations) (hc:Ctx G (.box b_ [.slice I so.People.length H,.slice B so.Stations.length D] 78::Lf) w) {O:Bool} (hF:jT N l so=some O):Calls Tryz.prog 116 #[.slice S l.length R,.func (.func 117) #[] #[pq b_]] w (fun e w=>e=.returned (.bool O)∧Ctx G (.box b_ [.slice I so.People.length H,.slice B so.Stations.length D] 78::Lf) w):=by
 unfold jT at hF
 refine bN Tryz.func116 rfl Tryz.ntmps116 rfl fun a hf=>zS fun K h=>zB hf hc rfl fun U a w hf hc=>sp 1 hf rfl fun a hf=>zT h ?_
 refine zS fun K h=>sp 1 hf rfl fun a hf=>zP hf rfl (pMF (us:=[pq U]) rfl rfl) fun a hf=>?_
 obtain ⟨r,hr,hF⟩:=aA hF
 refine zQ (v:=.bool r) hf hc aLh rfl (fun w hc=>(pL l so V M J ((hc.pick k1).pick k1) hr).mono fun e w h=>⟨h.1,((h.2.unpick k1).unpick k1)⟩) fun a w hf hc=>sp 2 hf rfl fun a hf=>zT h ?_
 refine wp_ret ?_
 obtain rfl:=sj hF
 replace hc:=hc.drop k0
 exact zO1 Tryz.results116 hf rfl ⟨rfl,hc⟩

def mM (p_:Int) (x:aB):Bool :=
 (aE p_ 0 (W (((x.People.length:Nat):Int) - 1)))
theorem aAg {G:aQ} {Lf:List Ent} {w:World} (p_:Int) (x:aB) {b_:Nat} {H:Option Addr} {I:Nat} {D:Option Addr} {B:Nat} (M:RdT aM G 1 H I x.People) (J:RdT bA G 2 D B x.Stations) (hc:Ctx G (.box b_ [.slice H x.People.length I,.slice D x.Stations.length B] 78::Lf) w) {O:Bool} (hF:mM p_ x=O):Calls Tryz.prog 121 #[i6 p_,pq b_] w (fun e w=>e=.returned (.bool O)∧Ctx G (.box b_ [.slice H x.People.length I,.slice D x.Stations.length B] 78::Lf) w):=by
 unfold mM at hF
 refine bN Tryz.func121 rfl Tryz.ntmps121 rfl fun a hf=>zS fun K h=>sp 1 hf rfl fun a hf=>zT h ?_
 refine zS fun K h=>sp 1 hf rfl fun a hf=>zP hf rfl (pFA iK rfl) fun a hf=>zL hf hc gB m0 rfl fun a w hf hc=>zP hf rfl (aW Tryz.underlying75 rfl) fun a hf=>sp 1 hf rfl fun a hf=>zQ (v:=.bool (aE p_ 0 (W (((x.People.length:Nat):Int) - 1)))) hf hc nZ rfl (fun w hc=>cU p_ 0 (W (((x.People.length:Nat):Int) - 1)) hc rfl) fun a w hf hc=>sp 1 hf rfl fun a hf=>zT h ?_
 refine wp_ret ?_
 obtain rfl:=hF
 exact zO1 Tryz.results121 hf rfl ⟨rfl,hc⟩

def eS (x:Int) (B:aB):Bool :=
 (!(mM x B))
theorem vF {G:aQ} {Lf:List Ent} {w:World} (x:Int) (J:aB) {b_:Nat} {R:Nat} {H:Option Addr} {I:Nat} {B:Option Addr} {D:Nat} (O:RdT aM G 1 H I J.People) (M:RdT bA G 2 B D J.Stations) (hc:Ctx G (.box b_ [.func (.func 121) #[] #[pq R]] 143::.box R [.slice H J.People.length I,.slice B J.Stations.length D] 78::Lf) w) {S:Bool} (hF:eS x J=S):Calls Tryz.prog 157 #[i6 x,pq b_] w (fun e w=>e=.returned (.bool S)∧Ctx G (.box b_ [.func (.func 121) #[] #[pq R]] 143::.box R [.slice H J.People.length I,.slice B J.Stations.length D] 78::Lf) w):=by
 unfold eS at hF
 refine bN Tryz.func157 rfl Tryz.ntmps157 rfl fun a hf=>zS fun K h=>sp 1 hf rfl fun a hf=>zT h ?_
 refine zS fun K h=>zL hf hc aE4 m0 rfl fun a w hf hc=>sp 1 hf rfl fun a hf=>zQ (v:=.bool (mM x J)) hf hc aNq rfl (fun w hc=>(aAg x J O M (hc.pick k1) rfl).mono fun e w h=>⟨h.1,(h.2.unpick k1)⟩) fun a w hf hc=>sp 2 hf rfl fun a hf=>zT h ?_
 refine wp_ret ?_
 obtain rfl:=hF
 exact zO1 Tryz.results157 hf rfl ⟨rfl,hc⟩

def fD (N:Nat) (s_:List Int) (f_:aB) (x:Int):Option (bK (Int) (Int)) :=
 cond (decide (x < ((s_.length:Nat):Int)))
 (Option.bind (aU s_ x) fun B=>
 cond (eS B f_)
 (some (.ret x))
 (some (.cont (W (x + 1)))))
 (some (.brk x))
def eE (N:Nat) (s_:List Int) (f_:aB):Option (Int) :=
 Option.bind (aS (fun s4=>fD N s_ f_ s4) N 0) fun x4=>
 exK x4 (fun s4=>some (-1)) some
theorem qL {N:Nat} {G:aQ} {Lf:List Ent} {w:World} (s_:List Int) (f_:aB) {V:Option Addr} {U:Nat} {b_:Nat} {J:Nat} {H:Option Addr} {I:Nat} {D:Option Addr} {B:Nat} (Z:Rd G 1 V U (s_.map aD)) (R:RdT aM G 1 H I f_.People) (M:RdT bA G 2 D B f_.Stations) (hc:Ctx G (.box b_ [.func (.func 121) #[] #[pq J]] 143::.box J [.slice H f_.People.length I,.slice D f_.Stations.length B] 78::Lf) w) {X:Int} (hF:eE N s_ f_=some X):Calls Tryz.prog 97 #[.slice V s_.length U,.func (.func 157) #[] #[pq b_]] w (fun e w=>e=.returned (i6 X)∧Ctx G (.box b_ [.func (.func 121) #[] #[pq J]] 143::.box J [.slice H f_.People.length I,.slice D f_.Stations.length B] 78::Lf) w):=by
 unfold eE at hF
 refine bN Tryz.func97 rfl Tryz.ntmps97 rfl fun a hf=>zS fun K h=>sp 1 hf rfl fun a hf=>zT h ?_
 refine wp_seq_k fun K2 h2=>zS fun K h=>sp 1 hf rfl fun a hf=>zP hf rfl (aW Tryz.underlying25 rfl) fun a hf=>sp 1 hf rfl fun a hf=>zT h ?_
 refine wp_block ?_
 obtain ⟨x4,k,hF⟩:=aA hF
 let S4:Int→Act→World→Prop:=(fun (zz:Int) a w=>Has 19 a [(0,.slice V s_.length U),(1,.func (.func 157) #[] #[pq b_]),(7,i6 ((s_.length:Nat):Int)),(8,i6 zz)]∧Ctx G (.box b_ [.func (.func 121) #[] #[pq J]] 143::.box J [.slice H f_.People.length I,.slice D f_.Stations.length B] 78::Lf) w)
 have i:∀ (zz:Int) a w,x4=.go zz→S4 zz a w→K2 a w:=by
  rintro x a w rfl ⟨hf,hc⟩
  replace hF:=bH hF
  refine h2 _ _ ?_
  refine zS fun K h=>sp 1 hf rfl fun a hf=>zT h ?_
  refine wp_ret ?_
  obtain rfl:=sj hF
  exact zO1 Tryz.results97 hf rfl ⟨rfl,hc⟩
 have d:∀ r,x4=.out r→r=X:=by
  rintro r rfl
  exact sj hF
 refine bY N (bX (S:=S4) (x:=x4) ?_ N 0 _ _ ⟨hf.kp rfl,hc⟩ k)
 clear hF hf hc
 rintro x n a w KB4 ⟨hf,hc⟩ hF O g
 unfold fD at hF
 refine zS fun K h=>sp 1 hf rfl fun a hf=>zT h ?_
 refine wp_seq_k fun K7 h7=>zI hf rfl hF ?_ ?_ <;> clear hF <;> intro hF
 ·refine wp_skip ?_
  refine h7 _ _ ?_
  refine wp_seq_k fun K8 h8=>wp_block ?_
  refine zS fun K h=>sp 2 hf rfl fun a hf=>zT h ?_
  refine zS fun K h=>sp 3 hf rfl fun a hf=>?_
  obtain ⟨Y,b,hF⟩:=aA hF
  obtain ⟨m,o,qa,qp⟩:=Z.atm b
  refine zP hf rfl (pIA Tryz.underlying25 eH rfl rfl qa) fun a hf=>zE hf hc rfl (bF bG rfl (aR (j:=0) qp rfl)) fun a w hf hc=>zQ (v:=.bool (eS Y f_)) hf hc aEr rfl (fun w hc=>(vF Y f_ R M ((hc.pick k1).pick k1) rfl).mono fun e w h=>⟨h.1,((h.2.unpick k1).unpick k1)⟩) fun a w hf hc=>zT h ?_
  refine zI hf rfl hF ?_ ?_ <;> clear hF <;> intro hF
  ·refine zS fun K h=>sp 2 hf rfl fun a hf=>zT h ?_
   refine wp_ret ?_
   refine bB ?_
   refine aH ?_
   refine aH ?_
   have he:=sj hF
   rw [← he] at O
   replace hF:=d _ O
   refine bB ?_
   refine aH ?_
   obtain rfl:=hF
   exact zO1 Tryz.results97 hf rfl ⟨rfl,hc⟩
  ·refine wp_skip ?_
   refine h8 _ _ ?_
   refine bW ?_
   refine sp 2 hf rfl fun a hf=>aL ?_
   exact g (W (x + 1)) _ _ (sj hF).symm ⟨hf.kp rfl,hc⟩
 ·refine wp_exit ?_
  refine aN ?_
  refine aN ?_
  have he:=sj hF
  rw [← he] at O
  refine cT ?_
  exact i _ _ _ O ⟨hf.kp rfl,hc⟩

def dH (N:Nat) (s_:List Int) (f_:aB):Option (Bool) :=
 Option.bind (eE N s_ f_) fun r=>
 some (decide (0≤r))
theorem oX {N:Nat} {G:aQ} {Lf:List Ent} {w:World} (s_:List Int) (f_:aB) {S:Option Addr} {R:Nat} {b_:Nat} {O:Nat} {H:Option Addr} {I:Nat} {D:Option Addr} {B:Nat} (V:Rd G 1 S R (s_.map aD)) (M:RdT aM G 1 H I f_.People) (J:RdT bA G 2 D B f_.Stations) (hc:Ctx G (.box b_ [.func (.func 121) #[] #[pq O]] 143::.box O [.slice H f_.People.length I,.slice D f_.Stations.length B] 78::Lf) w) {U:Bool} (hF:dH N s_ f_=some U):Calls Tryz.prog 113 #[.slice S s_.length R,.func (.func 157) #[] #[pq b_]] w (fun e w=>e=.returned (.bool U)∧Ctx G (.box b_ [.func (.func 121) #[] #[pq O]] 143::.box O [.slice H f_.People.length I,.slice D f_.Stations.length B] 78::Lf) w):=by
 unfold dH at hF
 refine bN Tryz.func113 rfl Tryz.ntmps113 rfl fun a hf=>zS fun K h=>sp 1 hf rfl fun a hf=>zT h ?_
 refine zS fun K h=>sp 2 hf rfl fun a hf=>?_
 obtain ⟨r,hr,hF⟩:=aA hF
 refine zQ (v:=i6 r) hf hc aDn rfl (fun w hc=>(qL s_ f_ V M J ((hc.pick k1).pick k1) hr).mono fun e w h=>⟨h.1,((h.2.unpick k1).unpick k1)⟩) fun a w hf hc=>sp 2 hf rfl fun a hf=>zT h ?_
 refine wp_ret ?_
 obtain rfl:=sj hF
 exact zO1 Tryz.results113 hf rfl ⟨rfl,hc⟩

def hY (N:Nat) (l:List Int) (so:aB):Option (Bool) :=
 Option.bind (dH N l so) fun r=>
 some (!r)
theorem wN {N:Nat} {G:aQ} {Lf:List Ent} {w:World} (l:List Int) (so:aB) {S:Option Addr} {R:Nat} {b_:Nat} {I:Option Addr} {H:Nat} {B:Option Addr} {D:Nat} (V:Rd G 1 S R (l.map aD)) (M:RdT aM G 1 I H so.People) (J:RdT bA G 2 B D so.Stations) (hc:Ctx G (.box b_ [.slice I so.People.length H,.slice B so.Stations.length D] 78::Lf) w) {O:Bool} (hF:hY N l so=some O):Calls Tryz.prog 87 #[.slice S l.length R,.func (.func 121) #[] #[pq b_]] w (fun e w=>e=.returned (.bool O)∧Ctx G (.box b_ [.slice I so.People.length H,.slice B so.Stations.length D] 78::Lf) w):=by
 unfold hY at hF
 refine bN Tryz.func87 rfl Tryz.ntmps87 rfl fun a hf=>zS fun K h=>zB hf hc rfl fun U a w hf hc=>sp 1 hf rfl fun a hf=>zT h ?_
 refine zS fun K h=>sp 1 hf rfl fun a hf=>zP hf rfl (pMF (us:=[pq U]) rfl rfl) fun a hf=>?_
 obtain ⟨r,hr,hF⟩:=aA hF
 refine zQ (v:=.bool r) hf hc aCr rfl (fun w hc=>(oX l so V M J ((hc.pick k1).pick k1) hr).mono fun e w h=>⟨h.1,((h.2.unpick k1).unpick k1)⟩) fun a w hf hc=>sp 2 hf rfl fun a hf=>zT h ?_
 refine wp_ret ?_
 obtain rfl:=sj hF
 replace hc:=hc.drop k0
 exact zO1 Tryz.results87 hf rfl ⟨rfl,hc⟩

def qD (N:Nat) (s_:aG) (x:aB):Option (Bool) :=
 Option.bind (cond (aE s_.Places 1 12) (Option.bind (hY N s_.Order (⟨x.People,x.Stations⟩:aB)) fun r=>
 some r) (some false)) fun B=>
 some B
theorem aBz {N:Nat} {G:aQ} {Lf:List Ent} {w:World} (s_:aG) (x:aB) {M:Option Addr} {J:Nat} {b_:Nat} {H:Option Addr} {I:Nat} {D:Option Addr} {B:Nat} (R:Rd G 1 M J (s_.Order.map aD)) (S:RdT aM G 1 H I x.People) (O:RdT bA G 2 D B x.Stations) (hc:Ctx G (.box b_ [.slice H x.People.length I,.slice D x.Stations.length B] 78::Lf) w) {V:Bool} (hF:qD N s_ x=some V):Calls Tryz.prog 120 #[.agg #[i6 s_.Places,.slice M s_.Order.length J],pq b_] w (fun e w=>e=.returned (.bool V)∧Ctx G (.box b_ [.slice H x.People.length I,.slice D x.Stations.length B] 78::Lf) w):=by
 unfold qD at hF
 refine bN Tryz.func120 rfl Tryz.ntmps120 rfl fun a hf=>zS fun K h=>zB hf hc rfl fun X a w hf hc=>sp 1 hf rfl fun a hf=>zT h ?_
 refine zS fun K h=>zP hf rfl (pFA oU rfl) fun a hf=>zL hf hc bG m0 rfl fun a w hf hc=>zQ (v:=.bool (aE s_.Places 1 12)) hf hc nZ rfl (fun w hc=>cU s_.Places 1 12 hc rfl) fun a w hf hc=>sp 1 hf rfl fun a hf=>?_
 obtain ⟨Y,U,hF⟩:=aA hF
 refine fV 5 (fun a=>Has 13 a [(1,pq b_),(2,pq X),(3,.bool false),(4,pq X),(5,i6 s_.Places),(6,.bool (aE s_.Places 1 12)),(7,.bool (aE s_.Places 1 12)),(12,.bool Y)]) hc ?_ ?_
 ·cases hb:(aE s_.Places 1 12)
  ·rw [hb] at hf
   have hF:=gN hb U
   obtain rfl:=sj hF
   refine stS hf rfl rfl rfl fun a hf=>stS hf rfl rfl rfl fun a hf=>stS hf rfl rfl rfl fun a hf=>stS hf rfl rfl rfl fun a hf=>sp 1 hf rfl fun a hf=>aL ⟨hf.kp rfl,hc⟩
  ·rw [hb] at hf
   have hF:=fU hb U
   refine zP hf rfl (pFA pR rfl) fun a hf=>zL hf hc fB m0 rfl fun a w hf hc=>zP hf rfl (pMF (us:=[pq b_]) rfl rfl) fun a hf=>?_
   obtain ⟨r,hr,hF⟩:=aA hF
   refine zQ (v:=.bool r) hf hc aFi rfl (fun w hc=>(wN s_.Order (⟨x.People,x.Stations⟩:aB) R S O (hc.pick k1) hr).mono fun e w h=>⟨h.1,(h.2.unpick k1)⟩) fun a w hf hc=>sp 1 hf rfl fun a hf=>?_
   obtain rfl:=sj hF
   exact aL ⟨hf.kp rfl,hc⟩
 intro a w ⟨hf,hc⟩
 refine sp 1 hf rfl fun a hf=>zT h ?_
 refine wp_ret ?_
 obtain rfl:=sj hF
 replace hc:=hc.drop k0
 exact zO1 Tryz.results120 hf rfl ⟨rfl,hc⟩

def cY (N:Nat) (x:aG) (B:aB):Option (Bool) :=
 Option.bind (qD N x B) fun r=>
 some (!r)
theorem sD {N:Nat} {G:aQ} {Lf:List Ent} {w:World} (x:aG) (M:aB) {O:Option Addr} {R:Nat} {b_:Nat} {U:Nat} {H:Option Addr} {I:Nat} {D:Option Addr} {B:Nat} (V:Rd G 1 O R (x.Order.map aD)) (S:RdT aM G 1 H I M.People) (J:RdT bA G 2 D B M.Stations) (hc:Ctx G (.box b_ [.func (.func 120) #[] #[pq U]] 187::.box U [.slice H M.People.length I,.slice D M.Stations.length B] 78::Lf) w) {X:Bool} (hF:cY N x M=some X):Calls Tryz.prog 171 #[.agg #[i6 x.Places,.slice O x.Order.length R],pq b_] w (fun e w=>e=.returned (.bool X)∧Ctx G (.box b_ [.func (.func 120) #[] #[pq U]] 187::.box U [.slice H M.People.length I,.slice D M.Stations.length B] 78::Lf) w):=by
 unfold cY at hF
 refine bN Tryz.func171 rfl Tryz.ntmps171 rfl fun a hf=>zS fun K h=>zB hf hc rfl fun Y a w hf hc=>sp 1 hf rfl fun a hf=>zT h ?_
 refine zS fun K h=>zL hf hc aKk m1 rfl fun a w hf hc=>zN hf hc xI m0 rfl fun a w hf hc=>?_
 obtain ⟨r,hr,hF⟩:=aA hF
 refine zQ (v:=.bool r) hf hc aOu rfl (fun w hc=>(aBz x M V S J (hc.pick k2) hr).mono fun e w h=>⟨h.1,(h.2.unpick k2)⟩) fun a w hf hc=>sp 2 hf rfl fun a hf=>zT h ?_
 refine wp_ret ?_
 obtain rfl:=sj hF
 replace hc:=hc.drop k0
 exact zO1 Tryz.results171 hf rfl ⟨rfl,hc⟩

def cN (N:Nat) (s_:List aG) (f_:aB) (x:Int):Option (bK (Int) (Int)) :=
 cond (decide (x < ((s_.length:Nat):Int)))
 (Option.bind (aU s_ x) fun B=>
 Option.bind (cY N B f_) fun r=>
 cond r
 (some (.ret x))
 (some (.cont (W (x + 1)))))
 (some (.brk x))
def cA (N:Nat) (s_:List aG) (f_:aB):Option (Int) :=
 Option.bind (aS (fun s4=>cN N s_ f_ s4) N 0) fun x4=>
 exK x4 (fun s4=>some (-1)) some
theorem lR {N:Nat} {G:aQ} {Lf:List Ent} {w:World} (s_:List aG) (f_:aB) {V:Option Addr} {U:Nat} {b_:Nat} {J:Nat} {H:Option Addr} {I:Nat} {D:Option Addr} {B:Nat} (Z:RdT bA G 2 V U s_) (R:RdT aM G 1 H I f_.People) (M:RdT bA G 2 D B f_.Stations) (hc:Ctx G (.box b_ [.func (.func 120) #[] #[pq J]] 187::.box J [.slice H f_.People.length I,.slice D f_.Stations.length B] 78::Lf) w) {Y:Int} (hF:cA N s_ f_=some Y):Calls Tryz.prog 192 #[.slice V s_.length U,.func (.func 171) #[] #[pq b_]] w (fun e w=>e=.returned (i6 Y)∧Ctx G (.box b_ [.func (.func 120) #[] #[pq J]] 187::.box J [.slice H f_.People.length I,.slice D f_.Stations.length B] 78::Lf) w):=by
 unfold cA at hF
 refine bN Tryz.func192 rfl Tryz.ntmps192 rfl fun a hf=>zS fun K h=>sp 1 hf rfl fun a hf=>zT h ?_
 refine wp_seq_k fun K2 h2=>zS fun K h=>sp 1 hf rfl fun a hf=>zP hf rfl (aW Tryz.underlying76 rfl) fun a hf=>sp 1 hf rfl fun a hf=>zT h ?_
 refine wp_block ?_
 obtain ⟨x4,j,hF⟩:=aA hF
 let S4:Int→Act→World→Prop:=(fun (zz:Int) a w=>Has 19 a [(0,.slice V s_.length U),(1,.func (.func 171) #[] #[pq b_]),(7,i6 ((s_.length:Nat):Int)),(8,i6 zz)]∧Ctx G (.box b_ [.func (.func 120) #[] #[pq J]] 187::.box J [.slice H f_.People.length I,.slice D f_.Stations.length B] 78::Lf) w)
 have i:∀ (zz:Int) a w,x4=.go zz→S4 zz a w→K2 a w:=by
  rintro x a w rfl ⟨hf,hc⟩
  replace hF:=bH hF
  refine h2 _ _ ?_
  refine zS fun K h=>sp 1 hf rfl fun a hf=>zT h ?_
  refine wp_ret ?_
  obtain rfl:=sj hF
  exact zO1 Tryz.results192 hf rfl ⟨rfl,hc⟩
 have d:∀ r,x4=.out r→r=Y:=by
  rintro r rfl
  exact sj hF
 refine bY N (bX (S:=S4) (x:=x4) ?_ N 0 _ _ ⟨hf.kp rfl,hc⟩ j)
 clear hF hf hc
 rintro x m a w KB4 ⟨hf,hc⟩ hF O g
 unfold cN at hF
 refine zS fun K h=>sp 1 hf rfl fun a hf=>zT h ?_
 refine wp_seq_k fun K7 h7=>zI hf rfl hF ?_ ?_ <;> clear hF <;> intro hF
 ·refine wp_skip ?_
  refine h7 _ _ ?_
  refine wp_seq_k fun K8 h8=>wp_block ?_
  refine zS fun K h=>sp 2 hf rfl fun a hf=>zT h ?_
  refine zS fun K h=>sp 3 hf rfl fun a hf=>?_
  obtain ⟨X,b,hF⟩:=aA hF
  obtain ⟨k,o,hd,qa,qp,qr⟩:=Z.atm b
  refine zP hf rfl (pIA Tryz.underlying76 mK rfl rfl qa) fun a hf=>zE hf hc rfl (kG (vs:=[i6 X.Places,.slice hd.1 X.Order.length hd.2]) xI rfl rfl (dF qp (n:=2) (o':=0) rfl)) fun a w hf hc=>?_
  obtain ⟨r,hr,hF⟩:=aA hF
  refine zQ (v:=.bool r) hf hc aJw rfl (fun w hc=>(sD X f_ qr R M ((hc.pick k1).pick k1) hr).mono fun e w h=>⟨h.1,((h.2.unpick k1).unpick k1)⟩) fun a w hf hc=>zT h ?_
  refine zI hf rfl hF ?_ ?_ <;> clear hF <;> intro hF
  ·refine zS fun K h=>sp 2 hf rfl fun a hf=>zT h ?_
   refine wp_ret ?_
   refine bB ?_
   refine aH ?_
   refine aH ?_
   have he:=sj hF
   rw [← he] at O
   replace hF:=d _ O
   refine bB ?_
   refine aH ?_
   obtain rfl:=hF
   exact zO1 Tryz.results192 hf rfl ⟨rfl,hc⟩
  ·refine wp_skip ?_
   refine h8 _ _ ?_
   refine bW ?_
   refine sp 2 hf rfl fun a hf=>aL ?_
   exact g (W (x + 1)) _ _ (sj hF).symm ⟨hf.kp rfl,hc⟩
 ·refine wp_exit ?_
  refine aN ?_
  refine aN ?_
  have he:=sj hF
  rw [← he] at O
  refine cT ?_
  exact i _ _ _ O ⟨hf.kp rfl,hc⟩

def bU (N:Nat) (s_:List aG) (f_:aB):Option (Bool) :=
 Option.bind (cA N s_ f_) fun r=>
 some (decide (0≤r))
theorem kT {N:Nat} {G:aQ} {Lf:List Ent} {w:World} (s_:List aG) (f_:aB) {S:Option Addr} {R:Nat} {b_:Nat} {O:Nat} {H:Option Addr} {I:Nat} {D:Option Addr} {B:Nat} (V:RdT bA G 2 S R s_) (M:RdT aM G 1 H I f_.People) (J:RdT bA G 2 D B f_.Stations) (hc:Ctx G (.box b_ [.func (.func 120) #[] #[pq O]] 187::.box O [.slice H f_.People.length I,.slice D f_.Stations.length B] 78::Lf) w) {U:Bool} (hF:bU N s_ f_=some U):Calls Tryz.prog 170 #[.slice S s_.length R,.func (.func 171) #[] #[pq b_]] w (fun e w=>e=.returned (.bool U)∧Ctx G (.box b_ [.func (.func 120) #[] #[pq O]] 187::.box O [.slice H f_.People.length I,.slice D f_.Stations.length B] 78::Lf) w):=by
 unfold bU at hF
 refine bN Tryz.func170 rfl Tryz.ntmps170 rfl fun a hf=>zS fun K h=>sp 1 hf rfl fun a hf=>zT h ?_
 refine zS fun K h=>sp 2 hf rfl fun a hf=>?_
 obtain ⟨r,hr,hF⟩:=aA hF
 refine zQ (v:=i6 r) hf hc aLx rfl (fun w hc=>(lR s_ f_ V M J ((hc.pick k1).pick k1) hr).mono fun e w h=>⟨h.1,((h.2.unpick k1).unpick k1)⟩) fun a w hf hc=>sp 2 hf rfl fun a hf=>zT h ?_
 refine wp_ret ?_
 obtain rfl:=sj hF
 exact zO1 Tryz.results170 hf rfl ⟨rfl,hc⟩

def dN (N:Nat) (l:List aG) (so:aB):Option (Bool) :=
 Option.bind (bU N l so) fun r=>
 some (!r)
theorem tE {N:Nat} {G:aQ} {Lf:List Ent} {w:World} (l:List aG) (so:aB) {S:Option Addr} {R:Nat} {b_:Nat} {I:Option Addr} {H:Nat} {B:Option Addr} {D:Nat} (V:RdT bA G 2 S R l) (M:RdT aM G 1 I H so.People) (J:RdT bA G 2 B D so.Stations) (hc:Ctx G (.box b_ [.slice I so.People.length H,.slice B so.Stations.length D] 78::Lf) w) {O:Bool} (hF:dN N l so=some O):Calls Tryz.prog 119 #[.slice S l.length R,.func (.func 120) #[] #[pq b_]] w (fun e w=>e=.returned (.bool O)∧Ctx G (.box b_ [.slice I so.People.length H,.slice B so.Stations.length D] 78::Lf) w):=by
 unfold dN at hF
 refine bN Tryz.func119 rfl Tryz.ntmps119 rfl fun a hf=>zS fun K h=>zB hf hc rfl fun U a w hf hc=>sp 1 hf rfl fun a hf=>zT h ?_
 refine zS fun K h=>sp 1 hf rfl fun a hf=>zP hf rfl (pMF (us:=[pq U]) rfl rfl) fun a hf=>?_
 obtain ⟨r,hr,hF⟩:=aA hF
 refine zQ (v:=.bool r) hf hc aKm rfl (fun w hc=>(kT l so V M J ((hc.pick k1).pick k1) hr).mono fun e w h=>⟨h.1,((h.2.unpick k1).unpick k1)⟩) fun a w hf hc=>sp 2 hf rfl fun a hf=>zT h ?_
 refine wp_ret ?_
 obtain rfl:=sj hF
 replace hc:=hc.drop k0
 exact zO1 Tryz.results119 hf rfl ⟨rfl,hc⟩

def lS (N:Nat) (s_:List Int) (v:Int) (x:Int):Option (bK (Int) (Int)) :=
 cond (decide (x < ((s_.length:Nat):Int)))
 (Option.bind (aU s_ x) fun B=>
 cond (v == B)
 (some (.ret x))
 (some (.cont (W (x + 1)))))
 (some (.brk x))
def fW (N:Nat) (s_:List Int) (v:Int):Option (Int) :=
 Option.bind (aS (fun s4=>lS N s_ v s4) N 0) fun x4=>
 exK x4 (fun s4=>some (-1)) some
theorem oT {N:Nat} {G:aQ} {Lf:List Ent} {w:World} (s_:List Int) (v:Int) {H:Option Addr} {D:Nat} (J:Rd G 1 H D (s_.map aD)) (hc:Ctx G (Lf) w) {I:Int} (hF:fW N s_ v=some I):Calls Tryz.prog 114 #[.slice H s_.length D,i6 v] w (fun e w=>e=.returned (i6 I)∧Ctx G (Lf) w):=by
 unfold fW at hF
 refine bN Tryz.func114 rfl Tryz.ntmps114 rfl fun a hf=>zS fun K h=>sp 1 hf rfl fun a hf=>zT h ?_
 refine wp_seq_k fun K2 h2=>zS fun K h=>sp 1 hf rfl fun a hf=>zP hf rfl (aW Tryz.underlying25 rfl) fun a hf=>sp 1 hf rfl fun a hf=>zT h ?_
 refine wp_block ?_
 obtain ⟨x4,U,hF⟩:=aA hF
 let S4:Int→Act→World→Prop:=(fun (zz:Int) a w=>Has 19 a [(0,.slice H s_.length D),(1,i6 v),(7,i6 ((s_.length:Nat):Int)),(8,i6 zz)]∧Ctx G (Lf) w)
 have V:∀ (zz:Int) a w,x4=.go zz→S4 zz a w→K2 a w:=by
  rintro x a w rfl ⟨hf,hc⟩
  replace hF:=bH hF
  refine h2 _ _ ?_
  refine zS fun K h=>sp 1 hf rfl fun a hf=>zT h ?_
  refine wp_ret ?_
  obtain rfl:=sj hF
  exact zO1 Tryz.results114 hf rfl ⟨rfl,hc⟩
 have O:∀ r,x4=.out r→r=I:=by
  rintro r rfl
  exact sj hF
 refine bY N (bX (S:=S4) (x:=x4) ?_ N 0 _ _ ⟨hf.kp rfl,hc⟩ U)
 clear hF hf hc
 rintro x Z a w KB4 ⟨hf,hc⟩ hF B R
 unfold lS at hF
 refine zS fun K h=>sp 1 hf rfl fun a hf=>zT h ?_
 refine wp_seq_k fun K7 h7=>zI hf rfl hF ?_ ?_ <;> clear hF <;> intro hF
 ·refine wp_skip ?_
  refine h7 _ _ ?_
  refine wp_seq_k fun K8 h8=>wp_block ?_
  refine zS fun K h=>sp 2 hf rfl fun a hf=>zT h ?_
  refine zS fun K h=>sp 3 hf rfl fun a hf=>?_
  obtain ⟨X,M,hF⟩:=aA hF
  obtain ⟨Y,o,qa,qp⟩:=J.atm M
  refine zP hf rfl (pIA Tryz.underlying25 eH rfl rfl qa) fun a hf=>zE hf hc rfl (bF bG rfl (aR (j:=0) qp rfl)) fun a w hf hc=>sp 1 hf rfl fun a hf=>zT h ?_
  refine zI hf rfl hF ?_ ?_ <;> clear hF <;> intro hF
  ·refine zS fun K h=>sp 2 hf rfl fun a hf=>zT h ?_
   refine wp_ret ?_
   refine bB ?_
   refine aH ?_
   refine aH ?_
   have he:=sj hF
   rw [← he] at B
   replace hF:=O _ B
   refine bB ?_
   refine aH ?_
   obtain rfl:=hF
   exact zO1 Tryz.results114 hf rfl ⟨rfl,hc⟩
  ·refine wp_skip ?_
   refine h8 _ _ ?_
   refine bW ?_
   refine sp 2 hf rfl fun a hf=>aL ?_
   exact R (W (x + 1)) _ _ (sj hF).symm ⟨hf.kp rfl,hc⟩
 ·refine wp_exit ?_
  refine aN ?_
  refine aN ?_
  have he:=sj hF
  rw [← he] at B
  refine cT ?_
  exact V _ _ _ B ⟨hf.kp rfl,hc⟩

def eL (N:Nat) (s_:List Int) (v:Int):Option (Bool) :=
 Option.bind (fW N s_ v) fun r=>
 some (decide (0≤r))
theorem nT {N:Nat} {G:aQ} {Lf:List Ent} {w:World} (s_:List Int) (v:Int) {B:Option Addr} {D:Nat} (I:Rd G 1 B D (s_.map aD)) (hc:Ctx G (Lf) w) {H:Bool} (hF:eL N s_ v=some H):Calls Tryz.prog 72 #[.slice B s_.length D,i6 v] w (fun e w=>e=.returned (.bool H)∧Ctx G (Lf) w):=by
 unfold eL at hF
 refine bN Tryz.func72 rfl Tryz.ntmps72 rfl fun a hf=>zS fun K h=>sp 1 hf rfl fun a hf=>zT h ?_
 refine zS fun K h=>sp 2 hf rfl fun a hf=>?_
 obtain ⟨r,hr,hF⟩:=aA hF
 refine zQ (v:=i6 r) hf hc aKt rfl (fun w hc=>oT s_ v I hc hr) fun a w hf hc=>sp 2 hf rfl fun a hf=>zT h ?_
 refine wp_ret ?_
 obtain rfl:=sj hF
 exact zO1 Tryz.results72 hf rfl ⟨rfl,hc⟩

def gM (N:Nat) (l:List Int) (x:Int):Option (bK (Int) (Bool)) :=
 cond (decide (x < ((l.length:Nat):Int)))
 (Option.bind (aU l x) fun B=>
 Option.bind (yP l 0 x) fun sub=>
 Option.bind (eL N sub B) fun r=>
 cond r
 (some (.ret false))
 (some (.cont (W (x + 1)))))
 (some (.brk x))
def pI (N:Nat) (l:List Int):Option (Bool) :=
 Option.bind (aS (fun s4=>gM N l s4) N 0) fun x4=>
 exK x4 (fun s4=>some true) some
theorem aAw {N:Nat} {G:aQ} {Lf:List Ent} {w:World} (l:List Int) {H:Option Addr} {D:Nat} (M:Rd G 1 H D (l.map aD)) (hc:Ctx G (Lf) w) {J:Bool} (hF:pI N l=some J):Calls Tryz.prog 122 #[.slice H l.length D] w (fun e w=>e=.returned (.bool J)∧Ctx G (Lf) w):=by
 unfold pI at hF
 refine bN Tryz.func122 rfl Tryz.ntmps122 rfl fun a hf=>zS fun K h=>sp 1 hf rfl fun a hf=>zT h ?_
 refine wp_seq_k fun K2 h2=>zS fun K h=>sp 1 hf rfl fun a hf=>zP hf rfl (aW Tryz.underlying25 rfl) fun a hf=>sp 1 hf rfl fun a hf=>zT h ?_
 refine wp_block ?_
 obtain ⟨x4,X,hF⟩:=aA hF
 let S4:Int→Act→World→Prop:=(fun (zz:Int) a w=>Has 18 a [(0,.slice H l.length D),(5,.slice H l.length D),(6,i6 ((l.length:Nat):Int)),(7,i6 zz)]∧Ctx G (Lf) w)
 have Y:∀ (zz:Int) a w,x4=.go zz→S4 zz a w→K2 a w:=by
  rintro x a w rfl ⟨hf,hc⟩
  replace hF:=bH hF
  refine h2 _ _ ?_
  refine zS fun K h=>sp 1 hf rfl fun a hf=>zT h ?_
  refine wp_ret ?_
  obtain rfl:=sj hF
  exact zO1 Tryz.results122 hf rfl ⟨rfl,hc⟩
 have R:∀ r,x4=.out r→r=J:=by
  rintro r rfl
  exact sj hF
 refine bY N (bX (S:=S4) (x:=x4) ?_ N 0 _ _ ⟨hf.kp rfl,hc⟩ X)
 clear hF hf hc
 rintro x b a w KB4 ⟨hf,hc⟩ hF B U
 unfold gM at hF
 refine zS fun K h=>sp 1 hf rfl fun a hf=>zT h ?_
 refine wp_seq_k fun K7 h7=>zI hf rfl hF ?_ ?_ <;> clear hF <;> intro hF
 ·refine wp_skip ?_
  refine h7 _ _ ?_
  refine wp_seq_k fun K8 h8=>wp_block ?_
  refine zS fun K h=>sp 1 hf rfl fun a hf=>?_
  obtain ⟨V,O,hF⟩:=aA hF
  obtain ⟨Z,o,qa,qp⟩:=M.atm O
  refine zP hf rfl (pIA Tryz.underlying25 eH rfl rfl qa) fun a hf=>zE hf hc rfl (bF bG rfl (aR (j:=0) qp rfl)) fun a w hf hc=>sp 2 hf rfl fun a hf=>zT h ?_
  refine zS fun K h=>sp 2 hf rfl fun a hf=>?_
  obtain ⟨sub,I,hF⟩:=aA hF
  have qs:=Rd.sub M I
  refine zP hf rfl (pSl Tryz.underlying25 eH rfl rfl (by simpa using M.1) rfl rfl I) fun a hf=>sp 1 hf rfl fun a hf=>?_
  obtain ⟨r,hr,hF⟩:=aA hF
  refine zQ (v:=.bool r) hf hc aMo rfl (fun w hc=>nT sub V qs hc hr) fun a w hf hc=>zT h ?_
  refine zI hf rfl hF ?_ ?_ <;> clear hF <;> intro hF
  ·refine zS fun K h=>sp 1 hf rfl fun a hf=>zT h ?_
   refine wp_ret ?_
   refine bB ?_
   refine aH ?_
   refine aH ?_
   have he:=sj hF
   rw [← he] at B
   replace hF:=R _ B
   refine bB ?_
   refine aH ?_
   obtain rfl:=hF
   exact zO1 Tryz.results122 hf rfl ⟨rfl,hc⟩
  ·refine wp_skip ?_
   refine h8 _ _ ?_
   refine bW ?_
   refine sp 2 hf rfl fun a hf=>aL ?_
   exact U (W (x + 1)) _ _ (sj hF).symm ⟨hf.kp rfl,hc⟩
 ·refine wp_exit ?_
  refine aN ?_
  refine aN ?_
  have he:=sj hF
  rw [← he] at B
  refine cT ?_
  exact Y _ _ _ B ⟨hf.kp rfl,hc⟩

def gS (N:Nat) (x:List Int):Option (Bool) :=
 Option.bind (pI N x) fun r=>
 some (!r)
theorem uY {N:Nat} {G:aQ} {Lf:List Ent} {w:World} (x:List Int) {B:Option Addr} {H:Nat} {b_:Nat} (I:Rd G 1 B H (x.map aD)) (hc:Ctx G (.box b_ [.func (.func 122) #[] #[]] 185::Lf) w) {D:Bool} (hF:gS N x=some D):Calls Tryz.prog 169 #[.slice B x.length H,pq b_] w (fun e w=>e=.returned (.bool D)∧Ctx G (.box b_ [.func (.func 122) #[] #[]] 185::Lf) w):=by
 unfold gS at hF
 refine bN Tryz.func169 rfl Tryz.ntmps169 rfl fun a hf=>zS fun K h=>sp 1 hf rfl fun a hf=>zT h ?_
 refine zS fun K h=>zL hf hc aKe m0 rfl fun a w hf hc=>sp 1 hf rfl fun a hf=>?_
 obtain ⟨r,hr,hF⟩:=aA hF
 refine zQ (v:=.bool r) hf hc aJ0 rfl (fun w hc=>aAw x I hc hr) fun a w hf hc=>sp 2 hf rfl fun a hf=>zT h ?_
 refine wp_ret ?_
 obtain rfl:=sj hF
 exact zO1 Tryz.results169 hf rfl ⟨rfl,hc⟩

def eJ (N:Nat) (s_:List (List Int)) (x:Int):Option (bK (Int) (Int)) :=
 cond (decide (x < ((s_.length:Nat):Int)))
 (Option.bind (aU s_ x) fun B=>
 Option.bind (gS N B) fun r=>
 cond r
 (some (.ret x))
 (some (.cont (W (x + 1)))))
 (some (.brk x))
def dO (N:Nat) (s_:List (List Int)):Option (Int) :=
 Option.bind (aS (fun s4=>eJ N s_ s4) N 0) fun x4=>
 exK x4 (fun s4=>some (-1)) some
theorem pK {N:Nat} {G:aQ} {Lf:List Ent} {w:World} (s_:List (List Int)) {H:Option Addr} {D:Nat} {b_:Nat} (J:RdT aM G 1 H D s_) (hc:Ctx G (.box b_ [.func (.func 122) #[] #[]] 185::Lf) w) {I:Int} (hF:dO N s_=some I):Calls Tryz.prog 191 #[.slice H s_.length D,.func (.func 169) #[] #[pq b_]] w (fun e w=>e=.returned (i6 I)∧Ctx G (.box b_ [.func (.func 122) #[] #[]] 185::Lf) w):=by
 unfold dO at hF
 refine bN Tryz.func191 rfl Tryz.ntmps191 rfl fun a hf=>zS fun K h=>sp 1 hf rfl fun a hf=>zT h ?_
 refine wp_seq_k fun K2 h2=>zS fun K h=>sp 1 hf rfl fun a hf=>zP hf rfl (aW Tryz.underlying75 rfl) fun a hf=>sp 1 hf rfl fun a hf=>zT h ?_
 refine wp_block ?_
 obtain ⟨x4,V,hF⟩:=aA hF
 let S4:Int→Act→World→Prop:=(fun (zz:Int) a w=>Has 19 a [(0,.slice H s_.length D),(1,.func (.func 169) #[] #[pq b_]),(7,i6 ((s_.length:Nat):Int)),(8,i6 zz)]∧Ctx G (.box b_ [.func (.func 122) #[] #[]] 185::Lf) w)
 have X:∀ (zz:Int) a w,x4=.go zz→S4 zz a w→K2 a w:=by
  rintro x a w rfl ⟨hf,hc⟩
  replace hF:=bH hF
  refine h2 _ _ ?_
  refine zS fun K h=>sp 1 hf rfl fun a hf=>zT h ?_
  refine wp_ret ?_
  obtain rfl:=sj hF
  exact zO1 Tryz.results191 hf rfl ⟨rfl,hc⟩
 have O:∀ r,x4=.out r→r=I:=by
  rintro r rfl
  exact sj hF
 refine bY N (bX (S:=S4) (x:=x4) ?_ N 0 _ _ ⟨hf.kp rfl,hc⟩ V)
 clear hF hf hc
 rintro x Z a w KB4 ⟨hf,hc⟩ hF B R
 unfold eJ at hF
 refine zS fun K h=>sp 1 hf rfl fun a hf=>zT h ?_
 refine wp_seq_k fun K7 h7=>zI hf rfl hF ?_ ?_ <;> clear hF <;> intro hF
 ·refine wp_skip ?_
  refine h7 _ _ ?_
  refine wp_seq_k fun K8 h8=>wp_block ?_
  refine zS fun K h=>sp 2 hf rfl fun a hf=>zT h ?_
  refine zS fun K h=>sp 3 hf rfl fun a hf=>?_
  obtain ⟨U,M,hF⟩:=aA hF
  obtain ⟨Y,o,hd,qa,qp,qr⟩:=J.atm M
  refine zP hf rfl (pIA Tryz.underlying75 kX rfl rfl qa) fun a hf=>zE hf hc rfl (bF fB rfl (aR (j:=0) qp rfl)) fun a w hf hc=>?_
  obtain ⟨r,hr,hF⟩:=aA hF
  refine zQ (v:=.bool r) hf hc aK4 rfl (fun w hc=>(uY U qr (hc.pick k0) hr).mono fun e w h=>⟨h.1,(h.2.unpick k0)⟩) fun a w hf hc=>zT h ?_
  refine zI hf rfl hF ?_ ?_ <;> clear hF <;> intro hF
  ·refine zS fun K h=>sp 2 hf rfl fun a hf=>zT h ?_
   refine wp_ret ?_
   refine bB ?_
   refine aH ?_
   refine aH ?_
   have he:=sj hF
   rw [← he] at B
   replace hF:=O _ B
   refine bB ?_
   refine aH ?_
   obtain rfl:=hF
   exact zO1 Tryz.results191 hf rfl ⟨rfl,hc⟩
  ·refine wp_skip ?_
   refine h8 _ _ ?_
   refine bW ?_
   refine sp 2 hf rfl fun a hf=>aL ?_
   exact R (W (x + 1)) _ _ (sj hF).symm ⟨hf.kp rfl,hc⟩
 ·refine wp_exit ?_
  refine aN ?_
  refine aN ?_
  have he:=sj hF
  rw [← he] at B
  refine cT ?_
  exact X _ _ _ B ⟨hf.kp rfl,hc⟩

def cW (N:Nat) (s_:List (List Int)):Option (Bool) :=
 Option.bind (dO N s_) fun r=>
 some (decide (0≤r))
theorem oQ {N:Nat} {G:aQ} {Lf:List Ent} {w:World} (s_:List (List Int)) {B:Option Addr} {D:Nat} {b_:Nat} (I:RdT aM G 1 B D s_) (hc:Ctx G (.box b_ [.func (.func 122) #[] #[]] 185::Lf) w) {H:Bool} (hF:cW N s_=some H):Calls Tryz.prog 168 #[.slice B s_.length D,.func (.func 169) #[] #[pq b_]] w (fun e w=>e=.returned (.bool H)∧Ctx G (.box b_ [.func (.func 122) #[] #[]] 185::Lf) w):=by
 unfold cW at hF
 refine bN Tryz.func168 rfl Tryz.ntmps168 rfl fun a hf=>zS fun K h=>sp 1 hf rfl fun a hf=>zT h ?_
 refine zS fun K h=>sp 2 hf rfl fun a hf=>?_
 obtain ⟨r,hr,hF⟩:=aA hF
 refine zQ (v:=i6 r) hf hc aLy rfl (fun w hc=>(pK s_ I (hc.pick k0) hr).mono fun e w h=>⟨h.1,(h.2.unpick k0)⟩) fun a w hf hc=>sp 2 hf rfl fun a hf=>zT h ?_
 refine wp_ret ?_
 obtain rfl:=sj hF
 exact zO1 Tryz.results168 hf rfl ⟨rfl,hc⟩

def gO (N:Nat) (l:List (List Int)):Option (Bool) :=
 Option.bind (cW N l) fun r=>
 some (!r)
theorem wD {N:Nat} {G:aQ} {Lf:List Ent} {w:World} (l:List (List Int)) {D:Option Addr} {B:Nat} (J:RdT aM G 1 D B l) (hc:Ctx G (Lf) w) {H:Bool} (hF:gO N l=some H):Calls Tryz.prog 116 #[.slice D l.length B,.func (.func 122) #[] #[]] w (fun e w=>e=.returned (.bool H)∧Ctx G (Lf) w):=by
 unfold gO at hF
 refine bN Tryz.func116 rfl Tryz.ntmps116 rfl fun a hf=>zS fun K h=>zB hf hc rfl fun I a w hf hc=>sp 1 hf rfl fun a hf=>zT h ?_
 refine zS fun K h=>sp 1 hf rfl fun a hf=>zP hf rfl (pMF (us:=[pq I]) rfl rfl) fun a hf=>?_
 obtain ⟨r,hr,hF⟩:=aA hF
 refine zQ (v:=.bool r) hf hc aLh rfl (fun w hc=>(oQ l J (hc.pick k0) hr).mono fun e w h=>⟨h.1,(h.2.unpick k0)⟩) fun a w hf hc=>sp 2 hf rfl fun a hf=>zT h ?_
 refine wp_ret ?_
 obtain rfl:=sj hF
 replace hc:=hc.drop k0
 exact zO1 Tryz.results116 hf rfl ⟨rfl,hc⟩

def qG (N:Nat) (s_:aG):Option (Bool) :=
 Option.bind (pI N s_.Order) fun r=>
 some r
theorem aB5 {N:Nat} {G:aQ} {Lf:List Ent} {w:World} (s_:aG) {D:Option Addr} {B:Nat} (H:Rd G 1 D B (s_.Order.map aD)) (hc:Ctx G (Lf) w) {I:Bool} (hF:qG N s_=some I):Calls Tryz.prog 123 #[.agg #[i6 s_.Places,.slice D s_.Order.length B]] w (fun e w=>e=.returned (.bool I)∧Ctx G (Lf) w):=by
 unfold qG at hF
 refine bN Tryz.func123 rfl Tryz.ntmps123 rfl fun a hf=>zS fun K h=>zB hf hc rfl fun J a w hf hc=>sp 1 hf rfl fun a hf=>zT h ?_
 refine zS fun K h=>zP hf rfl (pFA pR rfl) fun a hf=>zL hf hc fB m0 rfl fun a w hf hc=>?_
 obtain ⟨r,hr,hF⟩:=aA hF
 refine zQ (v:=.bool r) hf hc aJ0 rfl (fun w hc=>aAw s_.Order H hc hr) fun a w hf hc=>sp 1 hf rfl fun a hf=>zT h ?_
 refine wp_ret ?_
 obtain rfl:=sj hF
 replace hc:=hc.drop k0
 exact zO1 Tryz.results123 hf rfl ⟨rfl,hc⟩

def cZ (N:Nat) (x:aG):Option (Bool) :=
 Option.bind (qG N x) fun r=>
 some (!r)
theorem qQ {N:Nat} {G:aQ} {Lf:List Ent} {w:World} (x:aG) {B:Option Addr} {D:Nat} {b_:Nat} (H:Rd G 1 B D (x.Order.map aD)) (hc:Ctx G (.box b_ [.func (.func 123) #[] #[]] 187::Lf) w) {I:Bool} (hF:cZ N x=some I):Calls Tryz.prog 171 #[.agg #[i6 x.Places,.slice B x.Order.length D],pq b_] w (fun e w=>e=.returned (.bool I)∧Ctx G (.box b_ [.func (.func 123) #[] #[]] 187::Lf) w):=by
 unfold cZ at hF
 refine bN Tryz.func171 rfl Tryz.ntmps171 rfl fun a hf=>zS fun K h=>zB hf hc rfl fun J a w hf hc=>sp 1 hf rfl fun a hf=>zT h ?_
 refine zS fun K h=>zL hf hc aKk m1 rfl fun a w hf hc=>zN hf hc xI m0 rfl fun a w hf hc=>?_
 obtain ⟨r,hr,hF⟩:=aA hF
 refine zQ (v:=.bool r) hf hc aOg rfl (fun w hc=>aB5 x H hc hr) fun a w hf hc=>sp 2 hf rfl fun a hf=>zT h ?_
 refine wp_ret ?_
 obtain rfl:=sj hF
 replace hc:=hc.drop k0
 exact zO1 Tryz.results171 hf rfl ⟨rfl,hc⟩

def cF (N:Nat) (s_:List aG) (x:Int):Option (bK (Int) (Int)) :=
 cond (decide (x < ((s_.length:Nat):Int)))
 (Option.bind (aU s_ x) fun B=>
 Option.bind (cZ N B) fun r=>
 cond r
 (some (.ret x))
 (some (.cont (W (x + 1)))))
 (some (.brk x))
def bT (N:Nat) (s_:List aG):Option (Int) :=
 Option.bind (aS (fun s4=>cF N s_ s4) N 0) fun x4=>
 exK x4 (fun s4=>some (-1)) some
theorem kW {N:Nat} {G:aQ} {Lf:List Ent} {w:World} (s_:List aG) {H:Option Addr} {D:Nat} {b_:Nat} (M:RdT bA G 2 H D s_) (hc:Ctx G (.box b_ [.func (.func 123) #[] #[]] 187::Lf) w) {J:Int} (hF:bT N s_=some J):Calls Tryz.prog 192 #[.slice H s_.length D,.func (.func 171) #[] #[pq b_]] w (fun e w=>e=.returned (i6 J)∧Ctx G (.box b_ [.func (.func 123) #[] #[]] 187::Lf) w):=by
 unfold bT at hF
 refine bN Tryz.func192 rfl Tryz.ntmps192 rfl fun a hf=>zS fun K h=>sp 1 hf rfl fun a hf=>zT h ?_
 refine wp_seq_k fun K2 h2=>zS fun K h=>sp 1 hf rfl fun a hf=>zP hf rfl (aW Tryz.underlying76 rfl) fun a hf=>sp 1 hf rfl fun a hf=>zT h ?_
 refine wp_block ?_
 obtain ⟨x4,V,hF⟩:=aA hF
 let S4:Int→Act→World→Prop:=(fun (zz:Int) a w=>Has 19 a [(0,.slice H s_.length D),(1,.func (.func 171) #[] #[pq b_]),(7,i6 ((s_.length:Nat):Int)),(8,i6 zz)]∧Ctx G (.box b_ [.func (.func 123) #[] #[]] 187::Lf) w)
 have X:∀ (zz:Int) a w,x4=.go zz→S4 zz a w→K2 a w:=by
  rintro x a w rfl ⟨hf,hc⟩
  replace hF:=bH hF
  refine h2 _ _ ?_
  refine zS fun K h=>sp 1 hf rfl fun a hf=>zT h ?_
  refine wp_ret ?_
  obtain rfl:=sj hF
  exact zO1 Tryz.results192 hf rfl ⟨rfl,hc⟩
 have R:∀ r,x4=.out r→r=J:=by
  rintro r rfl
  exact sj hF
 refine bY N (bX (S:=S4) (x:=x4) ?_ N 0 _ _ ⟨hf.kp rfl,hc⟩ V)
 clear hF hf hc
 rintro x Z a w KB4 ⟨hf,hc⟩ hF B U
 unfold cF at hF
 refine zS fun K h=>sp 1 hf rfl fun a hf=>zT h ?_
 refine wp_seq_k fun K7 h7=>zI hf rfl hF ?_ ?_ <;> clear hF <;> intro hF
 ·refine wp_skip ?_
  refine h7 _ _ ?_
  refine wp_seq_k fun K8 h8=>wp_block ?_
  refine zS fun K h=>sp 2 hf rfl fun a hf=>zT h ?_
  refine zS fun K h=>sp 3 hf rfl fun a hf=>?_
  obtain ⟨I,O,hF⟩:=aA hF
  obtain ⟨Y,o,hd,qa,qp,qr⟩:=M.atm O
  refine zP hf rfl (pIA Tryz.underlying76 mK rfl rfl qa) fun a hf=>zE hf hc rfl (kG (vs:=[i6 I.Places,.slice hd.1 I.Order.length hd.2]) xI rfl rfl (dF qp (n:=2) (o':=0) rfl)) fun a w hf hc=>?_
  obtain ⟨r,hr,hF⟩:=aA hF
  refine zQ (v:=.bool r) hf hc aJw rfl (fun w hc=>(qQ I qr (hc.pick k0) hr).mono fun e w h=>⟨h.1,(h.2.unpick k0)⟩) fun a w hf hc=>zT h ?_
  refine zI hf rfl hF ?_ ?_ <;> clear hF <;> intro hF
  ·refine zS fun K h=>sp 2 hf rfl fun a hf=>zT h ?_
   refine wp_ret ?_
   refine bB ?_
   refine aH ?_
   refine aH ?_
   have he:=sj hF
   rw [← he] at B
   replace hF:=R _ B
   refine bB ?_
   refine aH ?_
   obtain rfl:=hF
   exact zO1 Tryz.results192 hf rfl ⟨rfl,hc⟩
  ·refine wp_skip ?_
   refine h8 _ _ ?_
   refine bW ?_
   refine sp 2 hf rfl fun a hf=>aL ?_
   exact U (W (x + 1)) _ _ (sj hF).symm ⟨hf.kp rfl,hc⟩
 ·refine wp_exit ?_
  refine aN ?_
  refine aN ?_
  have he:=sj hF
  rw [← he] at B
  refine cT ?_
  exact X _ _ _ B ⟨hf.kp rfl,hc⟩

def bO (N:Nat) (s_:List aG):Option (Bool) :=
 Option.bind (bT N s_) fun r=>
 some (decide (0≤r))
theorem kA {N:Nat} {G:aQ} {Lf:List Ent} {w:World} (s_:List aG) {B:Option Addr} {D:Nat} {b_:Nat} (I:RdT bA G 2 B D s_) (hc:Ctx G (.box b_ [.func (.func 123) #[] #[]] 187::Lf) w) {H:Bool} (hF:bO N s_=some H):Calls Tryz.prog 170 #[.slice B s_.length D,.func (.func 171) #[] #[pq b_]] w (fun e w=>e=.returned (.bool H)∧Ctx G (.box b_ [.func (.func 123) #[] #[]] 187::Lf) w):=by
 unfold bO at hF
 refine bN Tryz.func170 rfl Tryz.ntmps170 rfl fun a hf=>zS fun K h=>sp 1 hf rfl fun a hf=>zT h ?_
 refine zS fun K h=>sp 2 hf rfl fun a hf=>?_
 obtain ⟨r,hr,hF⟩:=aA hF
 refine zQ (v:=i6 r) hf hc aLx rfl (fun w hc=>(kW s_ I (hc.pick k0) hr).mono fun e w h=>⟨h.1,(h.2.unpick k0)⟩) fun a w hf hc=>sp 2 hf rfl fun a hf=>zT h ?_
 refine wp_ret ?_
 obtain rfl:=sj hF
 exact zO1 Tryz.results170 hf rfl ⟨rfl,hc⟩

def cV (N:Nat) (l:List aG):Option (Bool) :=
 Option.bind (bO N l) fun r=>
 some (!r)
theorem sB {N:Nat} {G:aQ} {Lf:List Ent} {w:World} (l:List aG) {D:Option Addr} {B:Nat} (J:RdT bA G 2 D B l) (hc:Ctx G (Lf) w) {H:Bool} (hF:cV N l=some H):Calls Tryz.prog 119 #[.slice D l.length B,.func (.func 123) #[] #[]] w (fun e w=>e=.returned (.bool H)∧Ctx G (Lf) w):=by
 unfold cV at hF
 refine bN Tryz.func119 rfl Tryz.ntmps119 rfl fun a hf=>zS fun K h=>zB hf hc rfl fun I a w hf hc=>sp 1 hf rfl fun a hf=>zT h ?_
 refine zS fun K h=>sp 1 hf rfl fun a hf=>zP hf rfl (pMF (us:=[pq I]) rfl rfl) fun a hf=>?_
 obtain ⟨r,hr,hF⟩:=aA hF
 refine zQ (v:=.bool r) hf hc aKm rfl (fun w hc=>(kA l J (hc.pick k0) hr).mono fun e w h=>⟨h.1,(h.2.unpick k0)⟩) fun a w hf hc=>sp 2 hf rfl fun a hf=>zT h ?_
 refine wp_ret ?_
 obtain rfl:=sj hF
 replace hc:=hc.drop k0
 exact zO1 Tryz.results119 hf rfl ⟨rfl,hc⟩

def nD (N:Nat) (r:aB):Option (Int) :=
 cond ((!(aE ((r.People.length:Nat):Int) 1 12)) || (!(aE ((r.Stations.length:Nat):Int) 1 12)))
 (some 3)
 (Option.bind (jT N r.People r) fun H=>
 Option.bind (cond (!H) (some true) (Option.bind (dN N r.Stations r) fun I=>
 some (!I))) fun J=>
 cond J
 (some 120)
 (Option.bind (gO N r.People) fun B=>
 Option.bind (cond (!B) (some true) (Option.bind (cV N r.Stations) fun D=>
 some (!D))) fun M=>
 cond M
 (some 10)
 (some 0)))
theorem yK {N:Nat} {G:aQ} {Lf:List Ent} {w:World} (r:aB) {B:Option Addr} {D:Nat} {M:Option Addr} {J:Nat} (I:RdT aM G 1 B D r.People) (H:RdT bA G 2 M J r.Stations) (hc:Ctx G (Lf) w) {X:Int} (hF:nD N r=some X):Calls Tryz.prog 55 #[.agg #[.slice B r.People.length D,.slice M r.Stations.length J]] w (fun e w=>e=.returned (i6 X)∧Ctx G (Lf) w):=by
 unfold nD at hF
 refine bN Tryz.func55 rfl Tryz.ntmps55 rfl fun a hf=>zS fun K h=>zB hf hc rfl fun O a w hf hc=>sp 1 hf rfl fun a hf=>zT h ?_
 refine wp_seq_k fun K2 h2=>wp_block ?_
 refine zS fun K h=>zP hf rfl (pFA iK rfl) fun a hf=>zL hf hc gB m0 rfl fun a w hf hc=>zP hf rfl (aW Tryz.underlying75 rfl) fun a hf=>zQ (v:=.bool (aE ((r.People.length:Nat):Int) 1 12)) hf hc nZ rfl (fun w hc=>cU ((r.People.length:Nat):Int) 1 12 hc rfl) fun a w hf hc=>sp 2 hf rfl fun a hf=>fV 6 (fun a=>Has 40 a [(1,pq O),(4,pq O),(5,.slice B r.People.length D),(6,i6 ((r.People.length:Nat):Int)),(7,.bool (aE ((r.People.length:Nat):Int) 1 12)),(8,.bool (!(aE ((r.People.length:Nat):Int) 1 12))),(9,.bool (!(aE ((r.People.length:Nat):Int) 1 12))),(15,.bool ((!(aE ((r.People.length:Nat):Int) 1 12)) || (!(aE ((r.Stations.length:Nat):Int) 1 12))))]) hc ?_ ?_
 ·cases hb:(!(aE ((r.People.length:Nat):Int) 1 12))
  ·rw [hb] at hf
   refine zP hf rfl (pFA fJ rfl) fun a hf=>zL hf hc mR m0 rfl fun a w hf hc=>zP hf rfl (aW Tryz.underlying76 rfl) fun a hf=>zQ (v:=.bool (aE ((r.Stations.length:Nat):Int) 1 12)) hf hc nZ rfl (fun w hc=>cU ((r.Stations.length:Nat):Int) 1 12 hc rfl) fun a w hf hc=>sp 2 hf rfl fun a hf=>aL ⟨hf.kp rfl,hc⟩
  ·rw [hb] at hf
   refine stS hf rfl rfl rfl fun a hf=>stS hf rfl rfl rfl fun a hf=>stS hf rfl rfl rfl fun a hf=>stS hf rfl rfl rfl fun a hf=>stS hf rfl rfl rfl fun a hf=>sp 1 hf rfl fun a hf=>aL ⟨hf.kp rfl,hc⟩
 intro a w ⟨hf,hc⟩
 refine sp 1 hf rfl fun a hf=>zT h ?_
 refine zI hf rfl hF ?_ ?_ <;> clear hF <;> intro hF
 ·refine zS fun K h=>sp 1 hf rfl fun a hf=>zT h ?_
  refine wp_ret ?_
  refine bB ?_
  refine aH ?_
  obtain rfl:=sj hF
  replace hc:=hc.drop k0
  exact zO1 Tryz.results55 hf rfl ⟨rfl,hc⟩
 ·refine zS fun K h=>zP hf rfl (pFA iK rfl) fun a hf=>zL hf hc gB m0 rfl fun a w hf hc=>zP hf rfl (pMF (us:=[pq O]) rfl rfl) fun a hf=>?_
  obtain ⟨R,Y,hF⟩:=aA hF
  refine zQ (v:=.bool R) hf hc aJr rfl (fun w hc=>(yR r.People r I I H (hc.pick k0) Y).mono fun e w h=>⟨h.1,(h.2.unpick k0)⟩) fun a w hf hc=>sp 2 hf rfl fun a hf=>?_
  obtain ⟨i,U,hF⟩:=aA hF
  refine fV 6 (fun a=>Has 40 a [(1,pq O),(17,pq O),(18,.slice B r.People.length D),(19,.func (.func 117) #[] #[pq O]),(20,.bool R),(21,.bool (!R)),(22,.bool (!R)),(28,.bool i)]) hc ?_ ?_
  ·cases hb:(!R)
   ·rw [hb] at hf
    have hF:=gN hb U
    refine zP hf rfl (pFA fJ rfl) fun a hf=>zL hf hc mR m0 rfl fun a w hf hc=>zP hf rfl (pMF (us:=[pq O]) rfl rfl) fun a hf=>?_
    obtain ⟨j,Z,hF⟩:=aA hF
    refine zQ (v:=.bool j) hf hc aLu rfl (fun w hc=>(tE r.Stations r H I H (hc.pick k0) Z).mono fun e w h=>⟨h.1,(h.2.unpick k0)⟩) fun a w hf hc=>sp 2 hf rfl fun a hf=>?_
    obtain rfl:=sj hF
    exact aL ⟨hf.kp rfl,hc⟩
   ·rw [hb] at hf
    have hF:=fU hb U
    obtain rfl:=sj hF
    refine stS hf rfl rfl rfl fun a hf=>stS hf rfl rfl rfl fun a hf=>stS hf rfl rfl rfl fun a hf=>stS hf rfl rfl rfl fun a hf=>stS hf rfl rfl rfl fun a hf=>sp 1 hf rfl fun a hf=>aL ⟨hf.kp rfl,hc⟩
  intro a w ⟨hf,hc⟩
  refine sp 1 hf rfl fun a hf=>zT h ?_
  refine zI hf rfl hF ?_ ?_ <;> clear hF <;> intro hF
  ·refine zS fun K h=>sp 1 hf rfl fun a hf=>zT h ?_
   refine wp_ret ?_
   refine bB ?_
   refine aH ?_
   obtain rfl:=sj hF
   replace hc:=hc.drop k0
   exact zO1 Tryz.results55 hf rfl ⟨rfl,hc⟩
  ·refine zS fun K h=>zP hf rfl (pFA iK rfl) fun a hf=>zL hf hc gB m0 rfl fun a w hf hc=>?_
   obtain ⟨S,d,hF⟩:=aA hF
   refine zQ (v:=.bool S) hf hc aJr rfl (fun w hc=>wD r.People I hc d) fun a w hf hc=>sp 2 hf rfl fun a hf=>?_
   obtain ⟨k,V,hF⟩:=aA hF
   refine fV 5 (fun a=>Has 40 a [(1,pq O),(30,pq O),(31,.slice B r.People.length D),(32,.bool S),(33,.bool (!S)),(34,.bool (!S)),(39,.bool k)]) hc ?_ ?_
   ·cases hb:(!S)
    ·rw [hb] at hf
     have hF:=gN hb V
     refine zP hf rfl (pFA fJ rfl) fun a hf=>zL hf hc mR m0 rfl fun a w hf hc=>?_
     obtain ⟨g,b,hF⟩:=aA hF
     refine zQ (v:=.bool g) hf hc aLu rfl (fun w hc=>sB r.Stations H hc b) fun a w hf hc=>sp 2 hf rfl fun a hf=>?_
     obtain rfl:=sj hF
     exact aL ⟨hf.kp rfl,hc⟩
    ·rw [hb] at hf
     have hF:=fU hb V
     obtain rfl:=sj hF
     refine stS hf rfl rfl rfl fun a hf=>stS hf rfl rfl rfl fun a hf=>stS hf rfl rfl rfl fun a hf=>stS hf rfl rfl rfl fun a hf=>sp 1 hf rfl fun a hf=>aL ⟨hf.kp rfl,hc⟩
   intro a w ⟨hf,hc⟩
   refine sp 1 hf rfl fun a hf=>zT h ?_
   refine zI hf rfl hF ?_ ?_ <;> clear hF <;> intro hF
   ·refine zS fun K h=>sp 1 hf rfl fun a hf=>zT h ?_
    refine wp_ret ?_
    refine bB ?_
    refine aH ?_
    obtain rfl:=sj hF
    replace hc:=hc.drop k0
    exact zO1 Tryz.results55 hf rfl ⟨rfl,hc⟩
   ·refine wp_skip ?_
    refine h2 _ _ ?_
    refine zS fun K h=>sp 1 hf rfl fun a hf=>zT h ?_
    refine wp_ret ?_
    obtain rfl:=sj hF
    replace hc:=hc.drop k0
    exact zO1 Tryz.results55 hf rfl ⟨rfl,hc⟩

def jQ (N:Nat) (r:aB) (x:Int) (H:aG) (B:Int) (D:Nat→Int):Option (bK (Int × (Nat→Int)) (bK (Int × (Nat→Int)) ((Int) ⊕ ((Nat→Int) × Int)))) :=
 cond (decide (B < ((r.People.length:Nat):Int)))
 (Option.bind (fW N H.Order B) fun I=>
 Option.bind (inR x 12) fun un=>
 Option.bind (inR B 12) fun J=>
 some (.cont (W (B + 1),(aAp D (x * 12 + B).toNat I))))
 (some (.brk (B,D)))
def kN (N:Nat) (r:aB) (x:Int) (D:Nat→Int):Option (bK (Int × (Nat→Int)) ((Int) ⊕ ((Nat→Int) × Int))) :=
 cond (decide (x < ((r.Stations.length:Nat):Int)))
 (Option.bind (aU r.Stations x) fun H=>
 Option.bind (aS (fun B=>jQ N r x H B.1 B.2) N (0,D)) fun I=>
 exK I (fun B=>some (.cont (W (x + 1),B.2))) some)
 (some (.brk (x,D)))
def kB (N:Nat) (r:aB):Option ((Int) ⊕ ((Nat→Int) × Int)) :=
 Option.bind (nD N r) fun B=>
 cond (B != 0)
 (some (.inl B))
 (Option.bind (aS (fun s9=>kN N r s9.1 s9.2) N (0,(fun _=>0))) fun x9=>
 exK x9 (fun s9=>some (.inr (s9.2,0))) some)
theorem iY {N:Nat} {G:aQ} {Lf:List Ent} {w:World} (r:aB) {H:Option Addr} {I:Nat} {B:Option Addr} {D:Nat} (d:RdT aM G 1 H I r.People) (R:RdT bA G 2 B D r.Stations) (hc:Ctx G (Lf) w) {p:(Int) ⊕ ((Nat→Int) × Int)} (hF:kB N r=some p):Calls Tryz.prog 105 #[.agg #[.slice H r.People.length I,.slice B r.Stations.length D]] w (fun e w=>aB0 (fun rr=>e=.returned (.tuple #[.pointer none,i6 rr])∧Ctx G (Lf) w) (fun rr=>∃ (s:Nat),e=.returned (.tuple #[pq s,i6 rr.2])∧Ctx G (.box s (vT [.slice H r.People.length I,.slice B r.Stations.length D] 144 aD rr.1 []) 181::Lf) w) p):=by
 unfold kB at hF
 refine bN Tryz.func105 rfl Tryz.ntmps105 rfl fun a hf=>zS fun K h=>zB hf hc rfl fun V a w hf hc=>sp 2 hf rfl fun a hf=>zT h ?_
 refine wp_seq_k fun K2 h2=>zS fun K h=>zN hf hc nY m0 rfl fun a w hf hc=>?_
 obtain ⟨aq,ad,hF⟩:=aA hF
 refine zQ (v:=i6 aq) hf hc aNf rfl (fun w hc=>yK r d R hc ad) fun a w hf hc=>sp 1 hf rfl fun a hf=>zT h ?_
 refine zS fun K h=>sp 2 hf rfl fun a hf=>zT h ?_
 refine zI hf rfl hF ?_ ?_ <;> clear hF <;> intro hF
 ·refine zS fun K h=>sp 3 hf rfl fun a hf=>zT h ?_
  refine wp_ret ?_
  refine aH ?_
  obtain rfl:=sj hF
  replace hc:=hc.drop k0
  exact zO2 Tryz.results105 hf rfl rfl ⟨rfl,hc⟩
 ·refine wp_skip ?_
  refine h2 _ _ ?_
  refine zS fun K h=>zN hf hc nY m0 rfl fun a w hf hc=>zP hf rfl (cK (cells:=(vT [.slice H r.People.length I,.slice B r.Stations.length D] 144 aD (fun _=>0) [])) aN1 rfl rfl) fun a hf=>stBx (cs:=(vT [.slice H r.People.length I,.slice B r.Stations.length D] 144 aD (fun _=>0) [])) hf hc rfl rfl rfl rfl fun J a w hf hc=>sp 1 hf rfl fun a hf=>zT h ?_
  refine wp_seq_k fun K7 h7=>zS fun K h=>zP hf rfl (pFA fJ rfl) fun a hf=>zL hf hc mR m1 rfl fun a w hf hc=>zP hf rfl (aW Tryz.underlying76 rfl) fun a hf=>sp 1 hf rfl fun a hf=>zT h ?_
  refine wp_block ?_
  obtain ⟨x9,am,hF⟩:=aA hF
  let S9:(Int × (Nat→Int))→Act→World→Prop:=(fun (zz:Int × (Nat→Int)) a w=>Has 45 a [(1,pq V),(5,pq J),(18,.slice B r.Stations.length D),(19,i6 ((r.Stations.length:Nat):Int)),(20,i6 zz.1)]∧Ctx G (.box J (vT [.slice H r.People.length I,.slice B r.Stations.length D] 144 aD zz.2 []) 181::.box V [.slice H r.People.length I,.slice B r.Stations.length D] 78::Lf) w)
  have an:∀ (zz:Int × (Nat→Int)) a w,x9=.go zz→S9 zz a w→K7 a w:=by
   rintro ⟨x,q⟩ a w rfl ⟨hf,hc⟩
   replace hF:=bH hF
   refine h7 _ _ ?_
   refine zS fun K h=>sp 3 hf rfl fun a hf=>zT h ?_
   refine wp_ret ?_
   obtain rfl:=sj hF
   replace hc:=hc.drop k1
   exact zO2 Tryz.results105 hf rfl rfl ⟨J,rfl,hc⟩
  have a1:∀ r,x9=.out r→r=p:=by
   rintro r rfl
   exact sj hF
  refine bY N (bX (S:=S9) (x:=x9) ?_ N (0,(fun _=>0)) _ _ ⟨hf.kp rfl,hc⟩ am)
  clear hF hf hc
  rintro ⟨x,q⟩ ag a w KB9 ⟨hf,hc⟩ hF j ak
  unfold kN at hF
  refine zS fun K h=>sp 1 hf rfl fun a hf=>zT h ?_
  refine wp_seq_k fun K12 aj=>zI hf rfl hF ?_ ?_ <;> clear hF <;> intro hF
  ·refine wp_skip ?_
   refine aj _ _ ?_
   refine wp_seq_k fun K13 ar=>wp_block ?_
   refine zS fun K h=>sp 1 hf rfl fun a hf=>?_
   obtain ⟨U,ac,hF⟩:=aA hF
   obtain ⟨a0,o,hd,qa,qp,qr⟩:=R.atm ac
   refine zP hf rfl (pIA Tryz.underlying76 mK rfl rfl qa) fun a hf=>zE hf hc rfl (kG (vs:=[i6 U.Places,.slice hd.1 U.Order.length hd.2]) xI rfl rfl (dF qp (n:=2) (o':=0) rfl)) fun a w hf hc=>zA hf hc aEv rfl fun Z a w hf hc=>sp 1 hf rfl fun a hf=>zW hf hc mK u0 rfl fun w hc=>zT h ?_
   refine zS fun K h=>zP hf rfl (pFA iK rfl) fun a hf=>zL hf hc gB m2 rfl fun a w hf hc=>zP hf rfl (aW Tryz.underlying75 rfl) fun a hf=>sp 1 hf rfl fun a hf=>zT h ?_
   refine qB fun K16 au=>wp_block ?_
   obtain ⟨m,t,hF⟩:=aA hF
   let S17:(Int × (Nat→Int))→Act→World→Prop:=(fun (zz:Int × (Nat→Int)) a w=>Has 45 a [(1,pq V),(5,pq J),(6,i6 x),(7,pq Z),(18,.slice B r.Stations.length D),(19,i6 ((r.Stations.length:Nat):Int)),(20,i6 x),(27,i6 ((r.People.length:Nat):Int)),(28,i6 zz.1)]∧Ctx G (.box Z [i6 U.Places,.slice hd.1 U.Order.length hd.2] 101::.box J (vT [.slice H r.People.length I,.slice B r.Stations.length D] 144 aD zz.2 []) 181::.box V [.slice H r.People.length I,.slice B r.Stations.length D] 78::Lf) w)
   have u:∀ (zz:Int × (Nat→Int)) a w,m=.go zz→S17 zz a w→K16 a w:=by
    rintro ⟨O,b⟩ a w rfl ⟨hf,hc⟩
    replace hF:=bH hF
    refine au _ _ ?_
    refine ar _ _ ?_
    refine bW ?_
    refine sp 2 hf rfl fun a hf=>aL ?_
    replace hc:=hc.drop k0
    exact ak (W (x + 1),b) _ _ (sj hF).symm ⟨hf.kp rfl,hc⟩
   have az:∀ r,m=.out r→r=ag:=by
    rintro r rfl
    exact sj hF
   refine bY N (bX (S:=S17) (x:=m) ?_ N (0,q) _ _ ⟨hf.kp rfl,hc⟩ t)
   clear hF hf hc
   rintro ⟨O,b⟩ ax a w KB17 ⟨hf,hc⟩ hF g y
   unfold jQ at hF
   refine zS fun K h=>sp 1 hf rfl fun a hf=>zT h ?_
   refine wp_seq_k fun K19 ai=>zI hf rfl hF ?_ ?_ <;> clear hF <;> intro hF
   ·refine wp_skip ?_
    refine ai _ _ ?_
    refine wp_seq_k fun K20 ap=>wp_block ?_
    refine zS fun K h=>sp 2 hf rfl fun a hf=>zT h ?_
    obtain ⟨Y,aa,hF⟩:=aA hF
    obtain ⟨un,i,hF⟩:=aA hF
    obtain ⟨ay,X,hF⟩:=aA hF
    refine mB (fun θ=>[⟨none,none,1,pq V⟩,⟨none,none,5,pq J⟩,⟨none,none,6,i6 x⟩,⟨none,none,7,pq Z⟩,⟨none,none,8,i6 O⟩,⟨none,none,18,.slice B r.Stations.length D⟩,⟨none,none,19,i6 ((r.Stations.length:Nat):Int)⟩,⟨none,none,20,i6 x⟩,⟨none,none,27,i6 ((r.People.length:Nat):Int)⟩,⟨none,none,28,i6 O⟩,⟨some 0,none,31,pq J⟩,⟨some 1,none,32,i6 x⟩,⟨some 2,none,33,i6 O⟩,⟨some 3,none,34,.pointer (some ⟨Z,1,none⟩)⟩,⟨some 4,none,35,.slice hd.1 U.Order.length hd.2⟩,⟨some 5,none,36,i6 O⟩,⟨some 6,none,37,i6 Y⟩,⟨some 7,none,38,pq J⟩,⟨some 8,none,39,.pointer (some ⟨J,2,none⟩)⟩,⟨some 9,none,40,.pointer (some ⟨J,2 + x.toNat * 12,none⟩)⟩,⟨some 10,none,41,.pointer (some ⟨J,2 + (x * 12 + O).toNat * 1,none⟩)⟩]) (fun E θ=>.box Z [i6 U.Places,.slice hd.1 U.Order.length hd.2] 101::(bif E 11 then .box J (vT [.slice H r.People.length I,.slice B r.Stations.length D] 144 aD (aAp b (x * 12 + O).toNat Y) []) 181 else .box J (vT [.slice H r.People.length I,.slice B r.Stations.length D] 144 aD b []) 181)::.box V [.slice H r.People.length I,.slice B r.Stations.length D] 78::Lf) [] (fun a w=>Has 45 a [(1,pq V),(5,pq J),(6,i6 x),(7,pq Z),(18,.slice B r.Stations.length D),(19,i6 ((r.Stations.length:Nat):Int)),(20,i6 x),(27,i6 ((r.People.length:Nat):Int)),(28,i6 O)]∧Ctx G (.box Z [i6 U.Places,.slice hd.1 U.Order.length hd.2] 101::.box J (vT [.slice H r.People.length I,.slice B r.Stations.length D] 144 aD (aAp b (x * 12 + O).toNat Y) []) 181::.box V [.slice H r.People.length I,.slice B r.Stations.length D] 78::Lf) w) aT (by kernel_rfl) (by kernel_rfl) (iT.of hf ⟨rfl,rfl,rfl,rfl,rfl,rfl,rfl,rfl,rfl,rfl,trivial,trivial,trivial,trivial,trivial,trivial,trivial,trivial,trivial,trivial,trivial,trivial⟩) hc ⟨?_,?_,?_,?_,?_,?_,?_,?_,?_,?_,?_,?_,trivial⟩ ?_ ?_
    ·intro E θ a w hD hi hp he hc
     have hf:=he.h0.mT he 1 rfl
     refine sp 1 hf rfl fun a hf=>zD θ he hi hf 10 rfl rfl rfl hc
    ·intro E θ a w hD hi hp he hc
     have hf:=he.h0.mT he 2 rfl
     refine sp 1 hf rfl fun a hf=>zD θ he hi hf 11 rfl rfl rfl hc
    ·intro E θ a w hD hi hp he hc
     have hf:=he.h0.mT he 4 rfl
     refine sp 1 hf rfl fun a hf=>zD θ he hi hf 12 rfl rfl rfl hc
    ·intro E θ a w hD hi hp he hc
     have hf:=he.h0.mT he 3 rfl
     refine zP hf rfl (pFA pR rfl) fun a hf=>zD θ he hi hf 13 rfl rfl rfl hc
    ·intro E θ a w hD hi hp he hc
     have e3:=hp.o 3 rfl
     have hf:=he.h0.mP he 13 rfl e3
     refine zL hf hc fB m0 rfl fun a w hf hc=>zD θ he hi hf 14 rfl rfl rfl hc
    ·intro E θ a w hD hi hp he hc
     have hf:=he.h0.mT he 4 rfl
     refine sp 1 hf rfl fun a hf=>zD θ he hi hf 15 rfl rfl rfl hc
    ·intro E θ a w hD hi hp he hc
     have e4:=hp.o 4 rfl
     have e5:=hp.o 5 rfl
     have hf:=(he.h0.mP he 14 rfl e4).mP he 15 rfl e5
     refine zQ (v:=i6 Y) hf hc aKt rfl (fun w hc=>oT U.Order O qr hc aa) fun a w hf hc=>zD θ he hi hf 16 rfl rfl rfl hc
    ·intro E θ a w hD hi hp he hc
     have e0:=hp.o 0 rfl
     have hf:=he.h0.mP he 10 rfl e0
     refine sp 1 hf rfl fun a hf=>zD θ he hi hf 17 rfl rfl rfl hc
    ·intro E θ a w hD hi hp he hc
     have e7:=hp.o 7 rfl
     have hf:=he.h0.mP he 17 rfl e7
     refine zP hf rfl (pFA rO rfl) fun a hf=>zD θ he hi hf 18 rfl rfl rfl hc
    ·intro E θ a w hD hi hp he hc
     have e1:=hp.o 1 rfl
     have e8:=hp.o 8 rfl
     have hf:=(he.h0.mP he 11 rfl e1).mP he 18 rfl e8
     refine zP hf rfl (sV Tryz.underlying179 xO rfl rfl (bJ i).1 (bJ i).2) fun a hf=>zD θ he hi hf 19 rfl rfl rfl hc
    ·intro E θ a w hD hi hp he hc
     have e2:=hp.o 2 rfl
     have e9:=hp.o 9 rfl
     have hf:=(he.h0.mP he 12 rfl e2).mP he 19 rfl e9
     refine zP hf rfl (Pu.cast (sV Tryz.underlying178 eH rfl rfl (bJ X).1 (bJ X).2) (congrArg (fun k=>Value.pointer (some ⟨J,k,none⟩)) (rX (M:=12) (2) i X rfl))) fun a hf=>zD θ he hi hf 20 rfl rfl rfl hc
    ·intro E θ a w hD hi hp he hc
     have e6:=hp.o 6 rfl
     have av:=hp.o 10 rfl
     try dsimp only at hc
     rw [hi] at hc
     have hf:=(he.h0.mP he 16 rfl e6).mP he 20 rfl av
     refine stAr (vs:=[i6 Y]) (o':=0) (z:=Y) hf hc rfl rfl rfl rfl eH rfl (fun x=>(bP x).1) rfl (aGe i X rfl) rfl rfl u1 fun w hc=>zG θ he hi hf rfl ?_
     try dsimp only
     rw [bV E 11]
     exact hc
    ·intro E θ a w ab he hc
     have hf:=he.h0
     have af:=ab 11 rfl
     replace hf:=hf.more he 9 rfl (onT)
     replace hf:=hf.more he 8 rfl (onT)
     replace hf:=hf.more he 7 rfl (onT)
     replace hf:=hf.more he 6 rfl (onT)
     replace hf:=hf.more he 5 rfl (onT)
     replace hf:=hf.more he 3 rfl (onT)
     replace hf:=hf.more he 2 rfl (onT)
     replace hf:=hf.more he 1 rfl (onT)
     replace hf:=hf.more he 0 rfl (onT)
     try dsimp only at hc
     rw [af] at hc
     exact ⟨hf.kp rfl,hc⟩
    rintro a w ⟨hf,hc⟩
    refine ap _ _ ?_
    refine bW ?_
    refine sp 2 hf rfl fun a hf=>aL ?_
    exact y (W (O + 1),(aAp b (x * 12 + O).toNat Y)) _ _ (sj hF).symm ⟨hf.kp rfl,hc⟩
   ·refine wp_exit ?_
    refine aN ?_
    refine aN ?_
    have he:=sj hF
    rw [← he] at g
    refine cT ?_
    exact u _ _ _ g ⟨hf.kp rfl,hc⟩
  ·refine wp_exit ?_
   refine aN ?_
   refine aN ?_
   have he:=sj hF
   rw [← he] at j
   refine cT ?_
   exact an _ _ _ j ⟨hf.kp rfl,hc⟩

def uO (N:Nat) (x:Int) (y:Int):Option (Int × Int) :=
 mulU x y
/-! ### Walks of the library -/
end Go.Nilo
namespace Go.Proofs
open Go.Shelf
def Tryz.lays189_ren:Go.Shelf.Ren:=⟨fun | 189=>161 | 125=>187 | 257=>186 | 128=>210 | 129=>211 | 294=>201 | 295=>202 | 296=>203 | 297=>204 | 298=>205 | 299=>206 | 216=>207 | 300=>208 | 301=>209 | 328=>214 | 329=>215 | 330=>216 | 331=>217 | 332=>218 | 215=>212 | 343=>219 | n=>n,fun | 28=>25 | 3=>3 | 46=>224 | 0=>0 | 51=>235 | 53=>238 | 4=>4 | 183=>247 | 182=>246 | 131=>251 | 5=>5 | 9=>9 | 218=>256 | 222=>127 | 228=>261 | 229=>262 | n=>n,fun | n=>n⟩
theorem Tryz.lays189:Go.Proofs.Lays.n189 Tryz.prog Tryz.lays189_ren:={
 mixed:=by kernel_rfl
 f125:=Tryz.func187.trans (congrArg some (by kernel_rfl))
 f128:=Tryz.func210.trans (congrArg some (by kernel_rfl))
 f129:=Tryz.func211.trans (congrArg some (by kernel_rfl))
 f189:=Tryz.func161.trans (congrArg some (by kernel_rfl))
 f215:=Tryz.func212.trans (congrArg some (by kernel_rfl))
 f216:=Tryz.func207.trans (congrArg some (by kernel_rfl))
 f257:=Tryz.func186.trans (congrArg some (by kernel_rfl))
 f294:=Tryz.func201.trans (congrArg some (by kernel_rfl))
 f295:=Tryz.func202.trans (congrArg some (by kernel_rfl))
 f296:=Tryz.func203.trans (congrArg some (by kernel_rfl))
 f297:=Tryz.func204.trans (congrArg some (by kernel_rfl))
 f298:=Tryz.func205.trans (congrArg some (by kernel_rfl))
 f299:=Tryz.func206.trans (congrArg some (by kernel_rfl))
 f300:=Tryz.func208.trans (congrArg some (by kernel_rfl))
 f301:=Tryz.func209.trans (congrArg some (by kernel_rfl))
 f328:=Tryz.func214.trans (congrArg some (by kernel_rfl))
 f329:=Tryz.func215.trans (congrArg some (by kernel_rfl))
 f330:=Tryz.func216.trans (congrArg some (by kernel_rfl))
 f331:=Tryz.func217.trans (congrArg some (by kernel_rfl))
 f332:=Tryz.func218.trans (congrArg some (by kernel_rfl))
 f343:=Tryz.func219.trans (congrArg some (by kernel_rfl))
 t0:=Tryz.underlying0
 a0:=Tryz.isAgg0
 z0:=Tryz.sizeOf0
 v0:=Tryz.zeroValue0
 t3:=Tryz.underlying3
 a3:=Tryz.isAgg3
 z3:=Tryz.sizeOf3
 v3:=Tryz.zeroValue3
 t4:=Tryz.underlying4
 a4:=Tryz.isAgg4
 z4:=Tryz.sizeOf4
 v4:=Tryz.zeroValue4
 t5:=Tryz.underlying5
 a5:=Tryz.isAgg5
 z5:=Tryz.sizeOf5
 v5:=Tryz.zeroValue5
 t9:=Tryz.underlying9
 a9:=Tryz.isAgg9
 z9:=Tryz.sizeOf9
 v9:=Tryz.zeroValue9
 t28:=Tryz.underlying25
 a28:=Tryz.isAgg25
 z28:=Tryz.sizeOf25
 v28:=Tryz.zeroValue25
 t46:=Tryz.underlying224
 a46:=Tryz.isAgg224
 z46:=Tryz.sizeOf224
 v46:=Tryz.zeroValue224
 t51:=Tryz.underlying235
 a51:=Tryz.isAgg235
 z51:=Tryz.sizeOf235
 v51:=Tryz.zeroValue235
 t53:=Tryz.underlying238
 a53:=Tryz.isAgg238
 z53:=Tryz.sizeOf238
 v53:=Tryz.zeroValue238
 t131:=Tryz.underlying251
 a131:=Tryz.isAgg251
 z131:=Tryz.sizeOf251
 v131:=Tryz.zeroValue251
 t182:=Tryz.underlying246
 a182:=Tryz.isAgg246
 z182:=Tryz.sizeOf246
 v182:=Tryz.zeroValue246
 t183:=Tryz.underlying247
 a183:=Tryz.isAgg247
 z183:=Tryz.sizeOf247
 v183:=Tryz.zeroValue247
 t218:=Tryz.underlying256
 a218:=Tryz.isAgg256
 z218:=Tryz.sizeOf256
 v218:=Tryz.zeroValue256
 t222:=Tryz.underlying127
 a222:=Tryz.isAgg127
 z222:=Tryz.sizeOf127
 v222:=Tryz.zeroValue127
 t228:=Tryz.underlying261
 a228:=Tryz.isAgg261
 z228:=Tryz.sizeOf261
 v228:=Tryz.zeroValue261
 t229:=Tryz.underlying262
 a229:=Tryz.isAgg262
 z229:=Tryz.sizeOf262
 v229:=Tryz.zeroValue262 }
def Tryz.lays20_ren:Go.Shelf.Ren:=⟨fun | 20=>162 | n=>n,fun | 22=>25 | 3=>3 | 4=>4 | 0=>0 | n=>n,fun | n=>n⟩
theorem Tryz.lays20:Go.Proofs.Lays2.n20 Tryz.prog Tryz.lays20_ren:={
 mixed:=by kernel_rfl
 f20:=Tryz.func162.trans (congrArg some (by kernel_rfl))
 t0:=Tryz.underlying0
 a0:=Tryz.isAgg0
 z0:=Tryz.sizeOf0
 v0:=Tryz.zeroValue0
 t3:=Tryz.underlying3
 a3:=Tryz.isAgg3
 z3:=Tryz.sizeOf3
 v3:=Tryz.zeroValue3
 t4:=Tryz.underlying4
 a4:=Tryz.isAgg4
 z4:=Tryz.sizeOf4
 v4:=Tryz.zeroValue4
 t22:=Tryz.underlying25
 a22:=Tryz.isAgg25
 z22:=Tryz.sizeOf25
 v22:=Tryz.zeroValue25
 i3:=by kernel_rfl }
def Tryz.lays212_ren:Go.Shelf.Ren:=⟨fun | 212=>166 | 263=>189 | 264=>190 | n=>n,fun | 46=>224 | 51=>235 | 146=>236 | 53=>238 | 148=>239 | n=>n,fun | n=>n⟩
theorem Tryz.lays212:Go.Proofs.Lays.n212 Tryz.prog Tryz.lays212_ren:={
 mixed:=by kernel_rfl
 f212:=Tryz.func166.trans (congrArg some (by kernel_rfl))
 f263:=Tryz.func189.trans (congrArg some (by kernel_rfl))
 f264:=Tryz.func190.trans (congrArg some (by kernel_rfl))
 t46:=Tryz.underlying224
 a46:=Tryz.isAgg224
 z46:=Tryz.sizeOf224
 v46:=Tryz.zeroValue224
 t51:=Tryz.underlying235
 a51:=Tryz.isAgg235
 z51:=Tryz.sizeOf235
 v51:=Tryz.zeroValue235
 t53:=Tryz.underlying238
 a53:=Tryz.isAgg238
 z53:=Tryz.sizeOf238
 v53:=Tryz.zeroValue238
 t146:=Tryz.underlying236
 a146:=Tryz.isAgg236
 z146:=Tryz.sizeOf236
 v146:=Tryz.zeroValue236
 t148:=Tryz.underlying239
 a148:=Tryz.isAgg239
 z148:=Tryz.sizeOf239
 v148:=Tryz.zeroValue239 }
def Tryz.lays23_ren:Go.Shelf.Ren:=⟨fun | 23=>77 | n=>n,fun | 22=>25 | 3=>3 | 4=>4 | 0=>0 | n=>n,fun | n=>n⟩
theorem Tryz.lays23:Go.Proofs.Lays2.n23 Tryz.prog Tryz.lays23_ren:={
 mixed:=by kernel_rfl
 f23:=Tryz.func77.trans (congrArg some (by kernel_rfl))
 t0:=Tryz.underlying0
 a0:=Tryz.isAgg0
 z0:=Tryz.sizeOf0
 v0:=Tryz.zeroValue0
 t3:=Tryz.underlying3
 a3:=Tryz.isAgg3
 z3:=Tryz.sizeOf3
 v3:=Tryz.zeroValue3
 t4:=Tryz.underlying4
 a4:=Tryz.isAgg4
 z4:=Tryz.sizeOf4
 v4:=Tryz.zeroValue4
 t22:=Tryz.underlying25
 a22:=Tryz.isAgg25
 z22:=Tryz.sizeOf25
 v22:=Tryz.zeroValue25
 i3:=by kernel_rfl }
end Go.Proofs
namespace Go.Nilo
open Go.Proofs

theorem aA9 {N:Nat} {G:aQ} {Lf:List Ent} {w:World} (x:Int) (y:Int)   (hc:Ctx G (Lf) w) {B:Int × Int} (hF:uO N x y=some B):Calls Tryz.prog 166 #[.int .u64 x,.int .u64 y] w (fun e w=>e=.returned (.tuple #[.int .u64 B.1,.int .u64 B.2])∧Ctx G (Lf) w):=by
 unfold uO at hF
 exact aL3 (fun x y h1 h2 w=>Go.Proofs.Any.bits_Mul Go.Proofs.Tryz.lays212 x y h1 h2 w) hc hF

def oA (N:Nat) (B:List Int) (n:Int):Option (bK ((List Int) × Int) ((List Int))) :=
 cond (decide (n < ((B.length:Nat):Int)))
 (Option.bind (yP B n ((B.length:Nat):Int)) fun sub=>
 Option.bind (yP B 0 n) fun D=>
 Option.bind (cpOk D.length sub.length) fun H=>
 some (.cont ((cpL B n.toNat sub.length D),W (n + ((Nat.min D.length sub.length:Nat):Int)))))
 (some (.brk (B,n)))
def aZ (N:Nat) (x:List Int) (D:Int):Option ((List Int)) :=
 cond (decide (D < 0))
 (none)
 (Option.bind (uO N (IntKind.u64.wrap (((x.length:Nat):Int))) (IntKind.u64.wrap (D))) fun r=>
 cond ((decide (0 < r.1)) || (decide (9223372036854775807 < r.2)))
 (none)
 (Option.bind (inM (W (r.2))) fun un=>
 Option.bind (cpOk x.length ((List.replicate (W (r.2)).toNat (0:Int)).length)) fun I=>
 Option.bind (aS (fun B=>oA N B.1 B.2) N ((cpL (List.replicate (W (r.2)).toNat (0:Int)) 0 ((List.replicate (W (r.2)).toNat (0:Int)).length) x),((Nat.min x.length ((List.replicate (W (r.2)).toNat (0:Int)).length):Nat):Int))) fun H=>
 exK H (fun B=>some B.1) some))
theorem tQ {N:Nat} {G:aQ} {Lf:List Ent} {w:World} (x:List Int) (I:Int) {Z:Option Addr} {b:Nat} (z:Rd G 1 Z b (x.map aD)) (hc:Ctx G (Lf) w) {U:(List Int)} (hF:aZ N x I=some U):Calls Tryz.prog 107 #[.slice Z x.length b,i6 I] w (fun e w=>∃ (g:Option Addr) (i:Nat),e=.returned (.slice g U.length i)∧Ctx G (.row g i (U.map aD) 3 1::Lf) w):=by
 unfold aZ at hF
 refine bN Tryz.func107 rfl Tryz.ntmps107 rfl fun a hf=>zS fun K h=>sp 1 hf rfl fun a hf=>zT h ?_
 refine wp_seq_k fun K2 h2=>zS fun K h=>sp 2 hf rfl fun a hf=>zT h ?_
 refine zI hf rfl hF ?_ ?_ <;> clear hF <;> intro hF
 ·exact aBs hF
 ·refine wp_skip ?_
  refine h2 _ _ ?_
  refine zS fun K h=>sp 1 hf rfl fun a hf=>zP hf rfl (aW Tryz.underlying25 rfl) fun a hf=>zP hf rfl (pCv Tryz.underlying3 Tryz.underlying224 rfl) fun a hf=>sp 1 hf rfl fun a hf=>zP hf rfl (pCv Tryz.underlying3 Tryz.underlying224 rfl) fun a hf=>?_
  obtain ⟨r,hr,hF⟩:=aA hF
  refine zQ (v:=.tuple #[.int .u64 r.1,.int .u64 r.2]) hf hc aOj rfl (fun w hc=>aA9 (IntKind.u64.wrap (((x.length:Nat):Int))) (IntKind.u64.wrap (I)) hc hr) fun a w hf hc=>sp 5 hf rfl fun a hf=>zT h ?_
  refine wp_seq_k fun K5 h5=>zS fun K h=>sp 3 hf rfl fun a hf=>fV 3 (fun a=>Has 48 a [(0,.slice Z x.length b),(5,.int .u64 r.1),(6,.int .u64 r.2),(21,.int .u64 r.1),(22,.bool (decide (0 < r.1))),(23,.bool (decide (0 < r.1))),(26,.bool ((decide (0 < r.1)) || (decide (9223372036854775807 < r.2))))]) hc ?_ ?_
  ·cases hb:(decide (0 < r.1))
   ·rw [hb] at hf
    refine sp 3 hf rfl fun a hf=>aL ⟨hf.kp rfl,hc⟩
   ·rw [hb] at hf
    refine stS hf rfl rfl rfl fun a hf=>stS hf rfl rfl rfl fun a hf=>sp 1 hf rfl fun a hf=>aL ⟨hf.kp rfl,hc⟩
  intro a w ⟨hf,hc⟩
  refine zT h ?_
  refine zI hf rfl hF ?_ ?_ <;> clear hF <;> intro hF
  ·exact aBs hF
  ·refine wp_skip ?_
   refine h5 _ _ ?_
   refine zS fun K h=>sp 1 hf rfl fun a hf=>zP hf rfl (pCv Tryz.underlying224 Tryz.underlying3 rfl) fun a hf=>?_
   obtain ⟨un,u,hF⟩:=aA hF
   refine stMk (m:=(List.replicate (W (r.2)).toNat (0:Int)).length) (rows:=(List.replicate (W (r.2)).toNat (0:Int)).map aD) hf hc rfl rfl jO rfl rfl (aAh u) rfl rfl (by simp [List.map_replicate,Value.cells]) (by simp) fun H a w hf hc=>sp 1 hf rfl fun a hf=>zT h ?_
   refine zS fun K h=>sp 2 hf rfl fun a hf=>?_
   obtain ⟨aa,d,hF⟩:=aA hF
   refine stCp (enc:=aD) (R:=(List.replicate (W (r.2)).toNat (0:Int))) (S:=x) (lo:=0) hf hc rfl rfl Tryz.underlying25 eH rfl (by simp) rfl rfl bP (aCt hc z) (aBh d) (by simp) u0 fun a w hf hc=>sp 1 hf rfl fun a hf=>zT h ?_
   refine wp_seq_k fun K9 h9=>wp_block ?_
   obtain ⟨V,j,hF⟩:=aA hF
   let S10:((List Int) × Int)→Act→World→Prop:=(fun (zz:(List Int) × Int) a w=>Has 48 a [(7,.slice (some ⟨H,0,none⟩) zz.1.length ((W (r.2)).toNat)),(8,i6 zz.2)]∧Ctx G (.row (some ⟨H,0,none⟩) ((W (r.2)).toNat) (zz.1.map aD) 3 1::Lf) w)
   have p:∀ (zz:(List Int) × Int) a w,V=.go zz→S10 zz a w→K9 a w:=by
    rintro ⟨B,n⟩ a w rfl ⟨hf,hc⟩
    replace hF:=bH hF
    refine h9 _ _ ?_
    refine zS fun K h=>sp 2 hf rfl fun a hf=>zT h ?_
    refine wp_ret ?_
    obtain rfl:=sj hF
    exact zO1 Tryz.results107 hf rfl ⟨(some ⟨H,0,none⟩),(W (r.2)).toNat,rfl,hc⟩
   have ab:∀ r,V=.out r→r=U:=by
    rintro r rfl
    exact sj hF
   replace hf:=hf.castAt 7 (v':=.slice (some ⟨H,0,none⟩) ((cpL (List.replicate (W (r.2)).toNat (0:Int)) 0 ((List.replicate (W (r.2)).toNat (0:Int)).length) x).length) ((W (r.2)).toNat)) rfl (congrArg (fun k=>Value.slice (some ⟨H,0,none⟩) k ((W (r.2)).toNat)) (by simp))
   refine bY N (bX (S:=S10) (x:=V) ?_ N ((cpL (List.replicate (W (r.2)).toNat (0:Int)) 0 ((List.replicate (W (r.2)).toNat (0:Int)).length) x),((Nat.min x.length ((List.replicate (W (r.2)).toNat (0:Int)).length):Nat):Int)) _ _ ⟨hf.kp rfl,hc⟩ j)
   clear hF hf hc
   rintro ⟨B,n⟩ ad a w KB10 ⟨hf,hc⟩ hF J q
   unfold oA at hF
   refine wp_seq_k fun K12 t=>zS fun K h=>sp 2 hf rfl fun a hf=>zP hf rfl (aW Tryz.underlying25 rfl) fun a hf=>sp 1 hf rfl fun a hf=>zT h ?_
   refine zI hf rfl hF ?_ ?_ <;> clear hF <;> intro hF
   ·refine wp_skip ?_
    refine t _ _ ?_
    refine qB fun K14 y=>wp_block ?_
    have qc:=aCl hc m0
    obtain ⟨sub,Y,hF⟩:=aA hF
    have s:=aCl hc m0
    obtain ⟨D,M,hF⟩:=aA hF
    obtain ⟨ac,O,hF⟩:=aA hF
    have qs:=xQ Y
    try dsimp only at qs
    refine mB (fun θ=>[⟨none,none,7,.slice (some ⟨H,0,none⟩) B.length ((W (r.2)).toNat)⟩,⟨none,some 9,8,i6 n⟩,⟨some 0,none,38,i6 n⟩,⟨some 1,none,39,.slice (some ⟨H,0,none⟩) B.length ((W (r.2)).toNat)⟩,⟨some 2,none,40,i6 n⟩,⟨some 3,none,41,.slice (aB6 (some ⟨H,0,none⟩) ((W (r.2)).toNat) n.toNat 1) sub.length (((W (r.2)).toNat) - n.toNat)⟩,⟨some 4,none,42,.slice (some ⟨H,0,none⟩) B.length ((W (r.2)).toNat)⟩,⟨some 5,none,43,i6 n⟩,⟨some 6,none,44,.slice (aB6 (some ⟨H,0,none⟩) ((W (r.2)).toNat) (0:Int).toNat 1) D.length (((W (r.2)).toNat) - (0:Int).toNat)⟩,⟨some 7,none,45,i6 ((Nat.min D.length sub.length:Nat):Int)⟩,⟨some 8,none,46,i6 (W (n + ((Nat.min D.length sub.length:Nat):Int)))⟩,⟨some 9,none,8,i6 (W (n + ((Nat.min D.length sub.length:Nat):Int)))⟩]) (fun E θ=>(bif E 7 then .row (some ⟨H,0,none⟩) ((W (r.2)).toNat) ((cpL B n.toNat sub.length D).map aD) 3 1 else .row (some ⟨H,0,none⟩) ((W (r.2)).toNat) (B.map aD) 3 1)::Lf) [(9,0),(9,2),(7,3),(9,5),(7,6)] (fun a w=>Has 48 a [(7,.slice (some ⟨H,0,none⟩) B.length ((W (r.2)).toNat)),(8,i6 (W (n + ((Nat.min D.length sub.length:Nat):Int))))]∧Ctx G (.row (some ⟨H,0,none⟩) ((W (r.2)).toNat) ((cpL B n.toNat sub.length D).map aD) 3 1::Lf) w) aT (by kernel_rfl) (by kernel_rfl) (iT.of hf ⟨rfl,rfl,trivial,trivial,trivial,trivial,trivial,trivial,trivial,trivial,trivial,trivial,trivial⟩) hc ⟨?_,?_,?_,?_,?_,?_,?_,?_,?_,?_,trivial⟩ ?_ ?_
    ·intro E θ a w hD hi hp he hc
     have e9:=hD.f 0 rfl hi
     have hf:=he.h0.mN he 1 rfl e9
     refine sp 1 hf rfl fun a hf=>zD θ he hi hf 2 rfl rfl rfl hc
    ·intro E θ a w hD hi hp he hc
     have hf:=he.h0.mT he 0 rfl
     refine sp 1 hf rfl fun a hf=>zD θ he hi hf 3 rfl rfl rfl hc
    ·intro E θ a w hD hi hp he hc
     have e9:=hD.f 1 rfl hi
     have hf:=he.h0.mN he 1 rfl e9
     refine sp 1 hf rfl fun a hf=>zD θ he hi hf 4 rfl rfl rfl hc
    ·intro E θ a w hD hi hp he hc
     have e1:=hp.o 1 rfl
     have e2:=hp.o 2 rfl
     have e7:=hD.f 2 rfl hi
     try dsimp only at hc
     rw [e7] at hc
     have hf:=(he.h0.mP he 3 rfl e1).mP he 4 rfl e2
     refine zP hf rfl (pSl Tryz.underlying25 eH rfl rfl qc rfl rfl Y) fun a hf=>zD θ he hi hf 5 rfl rfl rfl ?_
     try dsimp only
     rw [gU 3 e7 rfl]
     exact hc
    ·intro E θ a w hD hi hp he hc
     have hf:=he.h0.mT he 0 rfl
     refine sp 1 hf rfl fun a hf=>zD θ he hi hf 6 rfl rfl rfl hc
    ·intro E θ a w hD hi hp he hc
     have e9:=hD.f 3 rfl hi
     have hf:=he.h0.mN he 1 rfl e9
     refine sp 1 hf rfl fun a hf=>zD θ he hi hf 7 rfl rfl rfl hc
    ·intro E θ a w hD hi hp he hc
     have e4:=hp.o 4 rfl
     have e5:=hp.o 5 rfl
     have e7:=hD.f 4 rfl hi
     try dsimp only at hc
     rw [e7] at hc
     have hf:=(he.h0.mP he 6 rfl e4).mP he 7 rfl e5
     refine zP hf rfl (pSl Tryz.underlying25 eH rfl rfl s rfl rfl M) fun a hf=>zD θ he hi hf 8 rfl rfl rfl ?_
     try dsimp only
     rw [gU 6 e7 rfl]
     exact hc
    ·intro E θ a w hD hi hp he hc
     have e3:=hp.o 3 rfl
     have e6:=hp.o 6 rfl
     try dsimp only at hc
     rw [hi] at hc
     have hf:=(he.h0.mP he 5 rfl e3).mP he 8 rfl e6
     refine stCp (enc:=aD) (R:=B) (S:=D) (lo:=n.toNat) hf hc rfl rfl Tryz.underlying25 eH rfl (aI0 (aBh O).2 (by have:B.length≤(W (r.2)).toNat:=aCl hc m0; omega)) rfl rfl bP (aMf (fun x=>(bP x).1) (lL hc m0) M (aCl hc m0)) (aBh O) (by omega) u0 fun a w hf hc=>zD θ he hi hf 9 rfl rfl rfl ?_
     try dsimp only
     rw [bV E 7]
     exact hc
    ·intro E θ a w hD hi hp he hc
     have e0:=hp.o 0 rfl
     have e7:=hp.o 7 rfl
     have hf:=(he.h0.mP he 2 rfl e0).mP he 9 rfl e7
     refine sp 1 hf rfl fun a hf=>zD θ he hi hf 10 rfl rfl rfl hc
    ·intro E θ a w hD hi hp he hc
     have e8:=hp.o 8 rfl
     have hf:=he.h0.mP he 10 rfl e8
     refine sp 1 hf rfl fun a hf=>zD θ he hi hf 11 rfl rfl rfl hc
    ·intro E θ a w X he hc
     have hf:=he.h0
     have e7:=X 7 rfl
     have e9:=X 9 rfl
     replace hf:=hf.more he 11 rfl (onP e9)
     replace hf:=hf.more he 0 rfl (onT)
     try dsimp only at hc
     rw [e7] at hc
     exact ⟨hf.kp rfl,hc⟩
    rintro a w ⟨hf,hc⟩
    refine y _ _ ?_
    replace hf:=hf.castAt 7 (v':=.slice (some ⟨H,0,none⟩) ((cpL B n.toNat sub.length D).length) ((W (r.2)).toNat)) rfl (congrArg (fun k=>Value.slice (some ⟨H,0,none⟩) k ((W (r.2)).toNat)) (by simp))
    exact q ((cpL B n.toNat sub.length D),W (n + ((Nat.min D.length sub.length:Nat):Int))) _ _ (sj hF).symm ⟨hf.kp rfl,hc⟩
   ·refine wp_exit ?_
    refine aN ?_
    refine aN ?_
    have he:=sj hF
    rw [← he] at J
    refine cT ?_
    exact p _ _ _ J ⟨hf.kp rfl,hc⟩

def fK (N:Nat) (w_:aV) (p_:Int) (than:Int):Option (Int × Int) :=
 some (p_,than)
theorem oO {N:Nat} {G:aQ} {Lf:List Ent} {w:World} (w_:aV) (p_:Int) (than:Int) {b_:Nat} {H:Option Addr} {I:Nat} {D:Option Addr} {B:Nat} (M:RdT aM G 1 H I w_.Roster.People) (J:RdT bA G 2 D B w_.Roster.Stations) (Z:PC G b_ 0 (vT [.slice H w_.Roster.People.length I,.slice D w_.Roster.Stations.length B] 144 aD w_.rank [])) (hc:Ctx G (Lf) w) {O:Int × Int} (hF:fK N w_ p_ than=some O):Calls Tryz.prog 111 #[pq b_,i6 p_,i6 than] w (fun e w=>∃ (Y:Nat) (V:Nat) (U:Nat),e=.returned (.func (.func 167) #[] #[pq Y,pq V,pq U])∧Ctx G (.box Y [pq b_] 166::.box V [i6 O.1] 3::.box U [i6 O.2] 3::Lf) w):=by
 unfold fK at hF
 refine bN Tryz.func111 rfl Tryz.ntmps111 rfl fun a hf=>zS fun K h=>zB hf hc rfl fun X a w hf hc=>zB hf hc rfl fun R a w hf hc=>zB hf hc rfl fun S a w hf hc=>sp 1 hf rfl fun a hf=>zT h ?_
 refine zS fun K h=>zP hf rfl (pMF (us:=[pq X,pq R,pq S]) rfl rfl) fun a hf=>sp 1 hf rfl fun a hf=>zT h ?_
 refine wp_ret ?_
 obtain rfl:=sj hF
 replace hc:=((hc.pick k0).pick k1).pick k2
 exact zO1 Tryz.results111 hf rfl ⟨X,R,S,rfl,hc⟩

def fE (N:Nat) (w_:aV) (p_:Int) (s_:Int):Option (Bool) :=
 Option.bind (inR s_ 12) fun un=>
 Option.bind (inR p_ 12) fun H=>
 Option.bind (cond ((w_.rank (s_ * 12 + p_).toNat) != (-1)) (Option.bind (aU w_.Roster.People p_) fun D=>
 Option.bind (eL N D s_) fun r=>
 some r) (some false)) fun B=>
 some B
theorem iP {N:Nat} {G:aQ} {Lf:List Ent} {w:World} (w_:aV) (p_:Int) (s_:Int) {b_:Nat} {H:Option Addr} {I:Nat} {D:Option Addr} {B:Nat} (J:RdT aM G 1 H I w_.Roster.People) (S:RdT bA G 2 D B w_.Roster.Stations) (R:PC G b_ 0 (vT [.slice H w_.Roster.People.length I,.slice D w_.Roster.Stations.length B] 144 aD w_.rank [])) (hc:Ctx G (Lf) w) {X:Bool} (hF:fE N w_ p_ s_=some X):Calls Tryz.prog 110 #[pq b_,i6 p_,i6 s_] w (fun e w=>e=.returned (.bool X)∧Ctx G (Lf) w):=by
 unfold fE at hF
 refine bN Tryz.func110 rfl Tryz.ntmps110 rfl fun a hf=>zS fun K h=>sp 1 hf rfl fun a hf=>zT h ?_
 refine zS fun K h=>sp 4 hf rfl fun a hf=>zP hf rfl (pFA rO rfl) fun a hf=>?_
 obtain ⟨un,U,hF⟩:=aA hF
 refine zP hf rfl (sV Tryz.underlying179 xO rfl rfl (bJ U).1 (bJ U).2) fun a hf=>?_
 obtain ⟨d,O,hF⟩:=aA hF
 refine zP hf rfl (Pu.cast (sV Tryz.underlying178 eH rfl rfl (bJ O).1 (bJ O).2) (congrArg (fun k=>Value.pointer (some ⟨b_,k,none⟩)) (rX (M:=12) (0 + 2) U O rfl))) fun a hf=>zE hf hc rfl (bF bG rfl (tI (j:=0) R (fun x=>(bP x).1) rfl (aGe U O rfl) rfl)) fun a w hf hc=>sp 2 hf rfl fun a hf=>?_
 obtain ⟨b,V,hF⟩:=aA hF
 refine fV 11 (fun a=>Has 28 a [(0,pq b_),(1,i6 p_),(2,i6 s_),(6,.bool false),(7,pq b_),(8,i6 s_),(9,i6 p_),(10,pq b_),(11,.pointer (some ⟨b_,0 + 2,none⟩)),(12,.pointer (some ⟨b_,0 + 2 + s_.toNat * 12,none⟩)),(13,.pointer (some ⟨b_,0 + 2 + (s_ * 12 + p_).toNat * 1,none⟩)),(14,i6 (w_.rank (s_ * 12 + p_).toNat)),(15,.bool ((w_.rank (s_ * 12 + p_).toNat) != (-1))),(16,.bool ((w_.rank (s_ * 12 + p_).toNat) != (-1))),(27,.bool b)]) hc ?_ ?_
 ·cases hb:((w_.rank (s_ * 12 + p_).toNat) != (-1))
  ·rw [hb] at hf
   have hF:=gN hb V
   obtain rfl:=sj hF
   refine stS hf rfl rfl rfl fun a hf=>stS hf rfl rfl rfl fun a hf=>stS hf rfl rfl rfl fun a hf=>stS hf rfl rfl rfl fun a hf=>stS hf rfl rfl rfl fun a hf=>stS hf rfl rfl rfl fun a hf=>stS hf rfl rfl rfl fun a hf=>stS hf rfl rfl rfl fun a hf=>stS hf rfl rfl rfl fun a hf=>stS hf rfl rfl rfl fun a hf=>sp 1 hf rfl fun a hf=>aL ⟨hf.kp rfl,hc⟩
  ·rw [hb] at hf
   have hF:=fU hb V
   refine sp 2 hf rfl fun a hf=>zP hf rfl (pFA pS rfl) fun a hf=>zP hf rfl (pFA iK rfl) fun a hf=>zE hf hc rfl (bF gB rfl (aR (j:=0) R rfl)) fun a w hf hc=>sp 1 hf rfl fun a hf=>?_
   obtain ⟨Z,Y,hF⟩:=aA hF
   obtain ⟨g,o,hd,qa,qp,qr⟩:=J.atm Y
   refine zP hf rfl (pIA Tryz.underlying75 kX rfl rfl qa) fun a hf=>zE hf hc rfl (bF fB rfl (aR (j:=0) qp rfl)) fun a w hf hc=>sp 1 hf rfl fun a hf=>?_
   obtain ⟨r,hr,hF⟩:=aA hF
   refine zQ (v:=.bool r) hf hc aMo rfl (fun w hc=>nT Z s_ qr hc hr) fun a w hf hc=>sp 1 hf rfl fun a hf=>?_
   obtain rfl:=sj hF
   exact aL ⟨hf.kp rfl,hc⟩
 intro a w ⟨hf,hc⟩
 refine sp 1 hf rfl fun a hf=>zT h ?_
 refine wp_ret ?_
 obtain rfl:=sj hF
 exact zO1 Tryz.results110 hf rfl ⟨rfl,hc⟩

def iO (N:Nat) {σ:Type} (D:Int) (J:Int) (M:Bool) (H:Bool) (I:Bool) (B:σ):Option (bK (Int × σ) (σ)) :=
 some (.cont (W (D + 1),B))
def fY (N:Nat) {σ:Type} (x:aV) (J:Int) (I:Int) (y:σ→Int→Option (σ × Bool)) (H:List Int) (B:Int) (sg:σ):Option (bK (Int × σ) (σ)) :=
 cond (decide (B < ((H.length:Nat):Int)))
 (Option.bind (aU H B) fun D=>
 cond (D == I)
 (some (.ret sg))
 (Option.bind (fE N (⟨x.Roster,x.rank⟩:aV) J D) fun r=>
 cond r
 (Option.bind (y sg D) fun ry=>
 cond (!ry.2)
 (some (.ret ry.1))
 (iO N B D true true (!ry.2) ry.1))
 (iO N B D false false false sg)))
 (some (.brk (B,sg)))
def dC (N:Nat) {σ:Type} (x:aV) (B:Int) (D:Int) (y:σ→Int→Option (σ × Bool)) (H:σ):Option (σ) :=
 Option.bind (aU x.Roster.People B) fun I=>
 Option.bind (aS (fun s3=>fY N x B D y I s3.1 s3.2) N (0,H)) fun x3=>
 exK x3 (fun s3=>some s3.2) some
theorem nO {N:Nat} {G:aQ} {Lf:List Ent} {w:World} {σ:Type} (x:aV) (X:Int) (Z:Int) {b_:Nat} {V:Nat} {M:Option Addr} {O:Nat} {H:Option Addr} {I:Nat} {U:Nat} {R:Nat} (B:RdT aM G 1 M O x.Roster.People) (D:RdT bA G 2 H I x.Roster.Stations) (d:PC G V 0 (vT [.slice M x.Roster.People.length O,.slice H x.Roster.Stations.length I] 144 aD x.rank [])) (J:σ→List Ent→Prop) (y:σ→Int→Option (σ × Bool)) {l:Nat} (hy:zX Tryz.prog G l (fun x:Int=>[i6 x]) J y) (q:σ) {Ls0:List Ent} (ar:J q Ls0) (hc:Ctx G (.box b_ [pq V] 166::.box U [i6 X] 3::.box R [i6 Z] 3::(Ls0++Lf)) w) {t:σ} (hF:dC N x X Z y q=some t):Calls Tryz.prog 167 #[.func (.yield l) #[] #[],pq b_,pq U,pq R] w (fun e w=>(∃ v,e=.returned v)∧∃ L,J t L∧Ctx G (.box b_ [pq V] 166::.box U [i6 X] 3::.box R [i6 Z] 3::(L++Lf)) w):=by
 unfold dC at hF
 refine bN Tryz.func167 rfl Tryz.ntmps167 rfl fun a hf=>wp_seq_k fun K1 h1=>?_
 obtain ⟨i,af,hF⟩:=aA hF
 obtain ⟨av,o,hd,qa,qp,qr⟩:=B.atm af
 refine cQ hc aT (by kernel_rfl) ?_
 refine qE hf rfl rfl rfl (bF mZ rfl (bL m0 rfl)) fun a hf=>qE hf rfl rfl rfl (Pu.ev (pNC rfl)) fun a hf=>qE hf rfl rfl rfl (Pu.ev (pFA pS rfl)) fun a hf=>qE hf rfl rfl rfl (Pu.ev (pFA iK rfl)) fun a hf=>qE hf rfl rfl rfl (bF gB rfl (aR (j:=0) d rfl)) fun a hf=>qE hf rfl rfl rfl (bF bG rfl (bL m1 rfl)) fun a hf=>qE hf rfl rfl rfl (Pu.ev (pIA Tryz.underlying75 kX rfl rfl qa)) fun a hf=>qE hf rfl rfl rfl (bF fB rfl (aR (j:=0) qp rfl)) fun a hf=>qE hf rfl rfl rfl (Pu.ev (aW Tryz.underlying25 rfl)) fun a hf=>qE hf rfl rfl rfl (Pu.ev (pM rfl)) fun a hf=>?_
 intro w hc
 refine h1 _ _ ?_
 refine qB fun K2 h2=>wp_block ?_
 obtain ⟨x3,ak,hF⟩:=aA hF
 let S3:(Int × σ)→Act→World→Prop:=(fun (zz:Int × σ) a w=>∃ (Ls:List Ent),J zz.2 Ls∧Has 36 a [(0,.func (.yield l) #[] #[]),(1,pq b_),(2,pq U),(3,pq R),(14,.slice hd.1 i.length hd.2),(15,i6 ((i.length:Nat):Int)),(16,i6 zz.1)]∧Ctx G (.box b_ [pq V] 166::.box U [i6 X] 3::.box R [i6 Z] 3::(Ls++Lf)) w)
 have an:∀ (zz:Int × σ) a w,x3=.go zz→S3 zz a w→K2 a w:=by
  rintro ⟨m,sg⟩ a w rfl ⟨Ls,hJ,hf,hc⟩
  replace hF:=bH hF
  refine h2 _ _ ?_
  obtain rfl:=sj hF
  exact aG3 (by simp) rfl Tryz.results167 hf ⟨⟨_,rfl⟩,Ls,hJ,hc⟩
 have ac:∀ r,x3=.out r→r=t:=by
  rintro r rfl
  exact sj hF
 refine bY N (bX (S:=S3) (x:=x3) ?_ N (0,q) _ _ ⟨Ls0,ar,hf.kp rfl,hc⟩ ak)
 clear hF hf hc
 rintro ⟨m,sg⟩ am a w KB3 ⟨Ls,hJ,hf,hc⟩ hF Y aq
 unfold fY at hF
 refine zS fun K h=>sp 1 hf rfl fun a hf=>zT h ?_
 refine wp_seq_k fun K5 h5=>zI hf rfl hF ?_ ?_ <;> clear hF <;> intro hF
 ·refine wp_skip ?_
  refine h5 _ _ ?_
  refine wp_seq_k fun K6 h6=>?_
  have ab:∀ (p:Int) (s:Bool) (u:Bool) (z:Bool) (k:σ) (Ls_1:List Ent) a w,J k Ls_1→Has 36 a [(0,.func (.yield l) #[] #[]),(1,pq b_),(2,pq U),(3,pq R),(14,.slice hd.1 i.length hd.2),(15,i6 ((i.length:Nat):Int)),(16,i6 m),(24,pq V),(25,i6 X),(26,i6 p),(27,.bool s),(28,.bool u),(33,.bool z)]→Ctx G (.box b_ [pq V] 166::.box U [i6 X] 3::.box R [i6 Z] 3::(Ls_1++Lf)) w→iO N m p s u z k=some am→K6 a w:=by
   repeat (clear hF)
   repeat (clear hc)
   repeat (clear hf)
   intro p s u z k Ls_1 a w ag hf hc hF
   unfold iO at hF
   refine h6 _ _ ?_
   refine bW ?_
   refine sp 2 hf rfl fun a hf=>aL ?_
   exact aq (W (m + 1),k) _ _ (sj hF).symm ⟨Ls_1,ag,hf.kp rfl,hc⟩
  refine wp_block ?_
  refine zS fun K h=>?_
  obtain ⟨b,aj,hF⟩:=aA hF
  obtain ⟨au,ax,ai,ad⟩:=qr.atm aj
  refine zP hf rfl (pIA Tryz.underlying25 eH rfl rfl ai) fun a hf=>zE hf hc rfl (bF bG rfl (aR (j:=0) ad rfl)) fun a w hf hc=>sp 1 hf rfl fun a hf=>zT h ?_
  refine wp_seq_k fun K8 h8=>?_
  rcases fP (b == Z) with g | g
  ·replace hF:=fU g hF
   refine bW ?_
   refine sp 1 hf rfl fun a hf=>zL hf hc bG m2 rfl fun a w hf hc=>sp 1 hf rfl fun a hf=>?_
   replace hf:=cO g hf
   refine sp 1 hf rfl fun a hf=>stS hf rfl rfl rfl fun a hf=>stS hf rfl rfl rfl fun a hf=>stS hf rfl rfl rfl fun a hf=>stS hf rfl rfl rfl fun a hf=>stS hf rfl rfl rfl fun a hf=>stS hf rfl rfl rfl fun a hf=>stS hf rfl rfl rfl fun a hf=>stS hf rfl rfl rfl fun a hf=>stS hf rfl rfl rfl fun a hf=>stS hf rfl rfl rfl fun a hf=>sp 1 hf rfl fun a hf=>aL ?_
   refine h8 _ _ ?_
   refine aGt hf rfl ?_
   refine wp_ret ?_
   refine bB ?_
   refine aH ?_
   refine aH ?_
   have he:=sj hF
   rw [← he] at Y
   replace hF:=ac _ Y
   refine bB ?_
   refine aH ?_
   obtain rfl:=hF
   exact aG3 (by simp) rfl Tryz.results167 hf ⟨⟨_,rfl⟩,Ls,hJ,hc⟩
  ·replace hF:=gN g hF
   obtain ⟨r,hr,hF⟩:=aA hF
   rcases fP r with n | n
   ·replace hF:=fU n hF
    obtain ⟨ry,ap,hF⟩:=aA hF
    refine yReg 11 (fun a w=>Has 36 a [(0,.func (.yield l) #[] #[]),(1,pq b_),(2,pq U),(3,pq R),(14,.slice hd.1 i.length hd.2),(15,i6 ((i.length:Nat):Int)),(16,i6 m),(6,i6 b),(20,i6 b),(21,i6 Z),(22,.bool false),(23,.bool false),(24,pq V),(25,i6 X),(26,i6 b),(27,.bool true),(28,.bool true),(29,.func (.yield l) #[] #[]),(30,i6 b)]∧Ctx G (.box b_ [pq V] 166::.box U [i6 X] 3::.box R [i6 Z] 3::(Ls++Lf)) w) (fun _ _ h=>by obtain ⟨⟨_,h⟩,_⟩:=h; cases h) ?_ ?_
    ·refine sp 1 hf rfl fun a hf=>zL hf hc bG m2 rfl fun a w hf hc=>sp 1 hf rfl fun a hf=>?_
     replace hf:=cO g hf
     refine sp 1 hf rfl fun a hf=>zL hf hc mZ m0 rfl fun a w hf hc=>zL hf hc bG m1 rfl fun a w hf hc=>sp 1 hf rfl fun a hf=>zQ (v:=.bool r) hf hc aCs rfl (fun w hc=>iP (⟨x.Roster,x.rank⟩:aV) X b B D d hc hr) fun a w hf hc=>?_
     replace hf:=cO n hf
     refine sp 3 hf rfl fun a hf=>aL ⟨hf.kp rfl,hc⟩
    rintro a w ⟨hf,hc⟩
    refine stY (own:=[.box b_ [pq V] 166,.box U [i6 X] 3,.box R [i6 Z] 3]) (v:=b) hy hJ ap hf hc rfl rfl rfl rfl rfl rfl fun a w Ls_2 aa hf hc=>?_
    replace hc:Ctx G (.box b_ [pq V] 166::.box U [i6 X] 3::.box R [i6 Z] 3::(Ls_2++Lf)) w:=hc
    refine yRest (fun _ _ h=>by obtain ⟨⟨_,h⟩,_⟩:=h; cases h) ?_
    refine sp 3 hf rfl fun a hf=>aL ?_
    refine h8 _ _ ?_
    refine zI hf rfl hF ?_ ?_ <;> clear hF <;> intro hF
    ·refine wp_ret ?_
     refine bB ?_
     refine aH ?_
     refine aH ?_
     have he:=sj hF
     rw [← he] at Y
     replace hF:=ac _ Y
     refine bB ?_
     refine aH ?_
     obtain rfl:=hF
     exact aG3 (by simp) rfl Tryz.results167 hf ⟨⟨_,rfl⟩,Ls_2,aa,hc⟩
    ·refine wp_skip ?_
     exact ab b true true (!ry.2) ry.1 Ls_2 _ _ aa (hf.kp rfl) hc hF
   ·replace hF:=gN n hF
    refine bW ?_
    refine sp 1 hf rfl fun a hf=>zL hf hc bG m2 rfl fun a w hf hc=>sp 1 hf rfl fun a hf=>?_
    replace hf:=cO g hf
    refine sp 1 hf rfl fun a hf=>zL hf hc mZ m0 rfl fun a w hf hc=>zL hf hc bG m1 rfl fun a w hf hc=>sp 1 hf rfl fun a hf=>zQ (v:=.bool r) hf hc aCs rfl (fun w hc=>iP (⟨x.Roster,x.rank⟩:aV) X b B D d hc hr) fun a w hf hc=>?_
    replace hf:=cO n hf
    refine sp 1 hf rfl fun a hf=>stS hf rfl rfl rfl fun a hf=>stS hf rfl rfl rfl fun a hf=>stS hf rfl rfl rfl fun a hf=>stS hf rfl rfl rfl fun a hf=>sp 2 hf rfl fun a hf=>aL ?_
    refine h8 _ _ ?_
    refine aGq hf rfl ?_
    refine wp_skip ?_
    exact ab b false false false sg Ls _ _ hJ (hf.kp rfl) hc hF
 ·refine wp_exit ?_
  refine aN ?_
  refine aN ?_
  have he:=sj hF
  rw [← he] at Y
  refine cT ?_
  exact an _ _ _ Y ⟨Ls,hJ,hf.kp rfl,hc⟩

def fF (x:aC) (D:Int) (B:Int):Bool :=
 (x.Person == D && x.Station == B)
theorem uZ {G:aQ} {Lf:List Ent} {w:World} (x:aC) (H:Int) (D:Int) {b_:Nat} {B:Nat}  (hc:Ctx G (.box b_ [i6 H] 3::.box B [i6 D] 3::Lf) w) {I:Bool} (hF:fF x H D=I):Calls Tryz.prog 165 #[.agg #[i6 x.Person,i6 x.Station],pq b_,pq B] w (fun e w=>e=.returned (.bool I)∧Ctx G (.box b_ [i6 H] 3::.box B [i6 D] 3::Lf) w):=by
 unfold fF at hF
 refine bN Tryz.func165 rfl Tryz.ntmps165 rfl fun a hf=>zS fun K h=>zB hf hc rfl fun J a w hf hc=>sp 1 hf rfl fun a hf=>zT h ?_
 refine zS fun K h=>zN hf hc lM m0 rfl fun a w hf hc=>zL hf hc bG m1 rfl fun a w hf hc=>zL hf hc bG m2 rfl fun a w hf hc=>zP hf rfl (cK (cells:=[i6 H,i6 D]) uW rfl rfl) fun a hf=>zP hf rfl (pEqA aFm rfl rfl (aCz _ _ _ _)) fun a hf=>sp 1 hf rfl fun a hf=>zT h ?_
 refine wp_ret ?_
 obtain rfl:=hF
 replace hc:=hc.drop k0
 exact zO1 Tryz.results165 hf rfl ⟨rfl,hc⟩

def dD (N:Nat) (s_:List aC) (f_:Int) (B:Int) (x:Int):Option (bK (Int) (Int)) :=
 cond (decide (x < ((s_.length:Nat):Int)))
 (Option.bind (aU s_ x) fun D=>
 cond (fF D f_ B)
 (some (.ret x))
 (some (.cont (W (x + 1)))))
 (some (.brk x))
def cR (N:Nat) (s_:List aC) (f_:Int) (B:Int):Option (Int) :=
 Option.bind (aS (fun s4=>dD N s_ f_ B s4) N 0) fun x4=>
 exK x4 (fun s4=>some (-1)) some
theorem lT {N:Nat} {G:aQ} {Lf:List Ent} {w:World} (s_:List aC) (f_:Int) (B:Int) {J:Option Addr} {I:Nat} {b_:Nat} {H:Nat} (R:Rd G 2 J I (s_.map aF)) (hc:Ctx G (.box b_ [i6 f_] 3::.box H [i6 B] 3::Lf) w) {O:Int} (hF:cR N s_ f_ B=some O):Calls Tryz.prog 188 #[.slice J s_.length I,.func (.func 165) #[] #[pq b_,pq H]] w (fun e w=>e=.returned (i6 O)∧Ctx G (.box b_ [i6 f_] 3::.box H [i6 B] 3::Lf) w):=by
 unfold cR at hF
 refine bN Tryz.func188 rfl Tryz.ntmps188 rfl fun a hf=>zS fun K h=>sp 1 hf rfl fun a hf=>zT h ?_
 refine wp_seq_k fun K2 h2=>zS fun K h=>sp 1 hf rfl fun a hf=>zP hf rfl (aW Tryz.underlying99 rfl) fun a hf=>sp 1 hf rfl fun a hf=>zT h ?_
 refine wp_block ?_
 obtain ⟨x4,Z,hF⟩:=aA hF
 let S4:Int→Act→World→Prop:=(fun (zz:Int) a w=>Has 19 a [(0,.slice J s_.length I),(1,.func (.func 165) #[] #[pq b_,pq H]),(7,i6 ((s_.length:Nat):Int)),(8,i6 zz)]∧Ctx G (.box b_ [i6 f_] 3::.box H [i6 B] 3::Lf) w)
 have Y:∀ (zz:Int) a w,x4=.go zz→S4 zz a w→K2 a w:=by
  rintro x a w rfl ⟨hf,hc⟩
  replace hF:=bH hF
  refine h2 _ _ ?_
  refine zS fun K h=>sp 1 hf rfl fun a hf=>zT h ?_
  refine wp_ret ?_
  obtain rfl:=sj hF
  exact zO1 Tryz.results188 hf rfl ⟨rfl,hc⟩
 have V:∀ r,x4=.out r→r=O:=by
  rintro r rfl
  exact sj hF
 refine bY N (bX (S:=S4) (x:=x4) ?_ N 0 _ _ ⟨hf.kp rfl,hc⟩ Z)
 clear hF hf hc
 rintro x d a w KB4 ⟨hf,hc⟩ hF D X
 unfold dD at hF
 refine zS fun K h=>sp 1 hf rfl fun a hf=>zT h ?_
 refine wp_seq_k fun K7 h7=>zI hf rfl hF ?_ ?_ <;> clear hF <;> intro hF
 ·refine wp_skip ?_
  refine h7 _ _ ?_
  refine wp_seq_k fun K8 h8=>wp_block ?_
  refine zS fun K h=>sp 2 hf rfl fun a hf=>zT h ?_
  refine zS fun K h=>sp 3 hf rfl fun a hf=>?_
  obtain ⟨M,U,hF⟩:=aA hF
  obtain ⟨b,o,qa,qp⟩:=R.atm U
  refine zP hf rfl (pIA Tryz.underlying99 lJ rfl rfl qa) fun a hf=>zE hf hc rfl (kG (vs:=[i6 M.Person,i6 M.Station]) lM rfl rfl (dF qp (n:=2) (o':=0) rfl)) fun a w hf hc=>zQ (v:=.bool (fF M f_ B)) hf hc aNu rfl (fun w hc=>(uZ M f_ B ((hc.pick k1).pick k1) rfl).mono fun e w h=>⟨h.1,((h.2.unpick k1).unpick k1)⟩) fun a w hf hc=>zT h ?_
  refine zI hf rfl hF ?_ ?_ <;> clear hF <;> intro hF
  ·refine zS fun K h=>sp 2 hf rfl fun a hf=>zT h ?_
   refine wp_ret ?_
   refine bB ?_
   refine aH ?_
   refine aH ?_
   have he:=sj hF
   rw [← he] at D
   replace hF:=V _ D
   refine bB ?_
   refine aH ?_
   obtain rfl:=hF
   exact zO1 Tryz.results188 hf rfl ⟨rfl,hc⟩
  ·refine wp_skip ?_
   refine h8 _ _ ?_
   refine bW ?_
   refine sp 2 hf rfl fun a hf=>aL ?_
   exact X (W (x + 1)) _ _ (sj hF).symm ⟨hf.kp rfl,hc⟩
 ·refine wp_exit ?_
  refine aN ?_
  refine aN ?_
  have he:=sj hF
  rw [← he] at D
  refine cT ?_
  exact Y _ _ _ D ⟨hf.kp rfl,hc⟩

def bR (N:Nat) (s_:List aC) (f_:Int) (B:Int):Option (Bool) :=
 Option.bind (cR N s_ f_ B) fun r=>
 some (decide (0≤r))
theorem kV {N:Nat} {G:aQ} {Lf:List Ent} {w:World} (s_:List aC) (f_:Int) (B:Int) {H:Option Addr} {I:Nat} {b_:Nat} {D:Nat} (M:Rd G 2 H I (s_.map aF)) (hc:Ctx G (.box b_ [i6 f_] 3::.box D [i6 B] 3::Lf) w) {J:Bool} (hF:bR N s_ f_ B=some J):Calls Tryz.prog 164 #[.slice H s_.length I,.func (.func 165) #[] #[pq b_,pq D]] w (fun e w=>e=.returned (.bool J)∧Ctx G (.box b_ [i6 f_] 3::.box D [i6 B] 3::Lf) w):=by
 unfold bR at hF
 refine bN Tryz.func164 rfl Tryz.ntmps164 rfl fun a hf=>zS fun K h=>sp 1 hf rfl fun a hf=>zT h ?_
 refine zS fun K h=>sp 2 hf rfl fun a hf=>?_
 obtain ⟨r,hr,hF⟩:=aA hF
 refine zQ (v:=i6 r) hf hc aKg rfl (fun w hc=>(lT s_ f_ B M ((hc.pick k1).pick k1) hr).mono fun e w h=>⟨h.1,((h.2.unpick k1).unpick k1)⟩) fun a w hf hc=>sp 2 hf rfl fun a hf=>zT h ?_
 refine wp_ret ?_
 obtain rfl:=sj hF
 exact zO1 Tryz.results164 hf rfl ⟨rfl,hc⟩

def hH (N:Nat) (B:Int) (D:Int):Option (bK (Int × Int) (Rs ((List aC) × (List Int) × (List (Option (List (Int × Bool))))))) :=
 some (.cont (D,W (B + 1)))
def eB (N:Nat) (p_:Int) (x:aV) (H:List (Option (List (Int × Bool)))) (xv:Int) (mm:List (Int × Bool)) (q:Int) (B:Int):Option (bK (Int × Int) (Rs ((List aC) × (List Int) × (List (Option (List (Int × Bool))))))) :=
 cond (decide (B < ((x.Roster.People.length:Nat):Int)))
 (Option.bind (Option.bind (aU (H.set xv.toNat (some (gK mm p_ true))) xv) fun I=>
 Option.bind (I) fun D=>
 cond ((lkA D B).getD false)
 (Option.bind (inR xv 12) fun J=>
 Option.bind (inR B 12) fun M=>
 Option.bind (inR q 12) fun O=>
 some (decide ((x.rank (xv * 12 + q).toNat) < (x.rank (xv * 12 + B).toNat))))
 (some false)) fun rg=>
 cond rg
 (hH N B B)
 (hH N B q))
 (some (.brk (q,B)))
def cH (N:Nat) (R:Int→aV→(List aC)→(List Int)→(List (Option (List (Int × Bool))))→Option ((List aC) × (List Int) × (List (Option (List (Int × Bool)))))) (p_:Int) (x:aV) (I:List aC) (H:List Int) (B:List (Option (List (Int × Bool)))) (xv:Int):Option (Rs ((List aC) × (List Int) × (List (Option (List (Int × Bool)))))) :=
 Option.bind (bR N I p_ xv) fun U=>
 cond U
 (some (.go (I,H,B)))
 (Option.bind (aU H p_) fun b=>
 Option.bind (aU B xv) fun Y=>
 Option.bind (Y) fun mm=>
 Option.bind (aU (B.set xv.toNat (some (gK mm p_ true))) xv) fun X=>
 Option.bind (X) fun O=>
 Option.bind (aU x.Roster.Stations xv) fun Z=>
 cond (decide (((O.length:Nat):Int)≤Z.Places))
 (some (.ret (I,(H.set p_.toNat xv),(B.set xv.toNat (some (gK mm p_ true))))))
 (Option.bind (aS (fun D=>eB N p_ x B xv mm D.1 D.2) N (p_,0)) fun S=>
 exK S (fun D=>Option.bind (aU (B.set xv.toNat (some (gK mm p_ true))) xv) fun V=>
 Option.bind (V) fun M=>
 Option.bind (aU (H.set p_.toNat xv) D.1) fun d=>
 Option.bind (room ((I++[(⟨D.1,xv⟩:aC)])).length) fun un=>
 Option.bind (R D.1 (⟨x.Roster,x.rank⟩:aV) (I++[(⟨D.1,xv⟩:aC)]) ((H.set p_.toNat xv).set D.1.toNat (-1)) ((B.set xv.toNat (some (gK mm p_ true))).set xv.toNat (some (yQ M D.1)))) fun J=>
 some (.ret (J.1,J.2.1,J.2.2))) some))
def cP:Nat→Int→aV→(List aC)→(List Int)→(List (Option (List (Int × Bool))))→Option ((List aC) × (List Int) × (List (Option (List (Int × Bool)))))
| 0,_,_,_,_,_=>none
| N + 1,p_,x,x_1,x_2,x_3=>
 Option.bind (fK N (⟨x.Roster,x.rank⟩:aV) p_ (-1)) fun r=>
 Option.bind (dC N (⟨x.Roster,x.rank⟩:aV) r.1 r.2 (rY (fun (zz:(List aC) × (List Int) × (List (Option (List (Int × Bool))))) (D:Int)=>cH N (cP N) p_ x zz.1 zz.2.1 zz.2.2 D)) (.go (x_1,x_2,x_3))) fun x3=>
 rsK x3 (fun B=>some (B.1,B.2.1,B.2.2)) (fun B=>some (B.1,B.2.1,B.2.2))
theorem wG {N:Nat}:∀ {G:aQ} {Lf:List Ent} {w:World} (p_:Int) (x:aV) (a6:List aC) (a5:List Int) (az:List (Option (List (Int × Bool)))) {b_:Nat} {X:Nat} {aj:Option Addr} {ai:Nat} {t:Option Addr} {u:Nat} {R:Nat} {av:Option Addr} {ap:Nat} {H:Nat} {ar:Option Addr} {aq:Nat} {O:Nat} {ax:Option Addr} {ak:vP} {I:Nat} (ab:RdT aM G 1 aj ai x.Roster.People) (s:RdT bA G 2 t u x.Roster.Stations) (am:PC G X 0 (vT [.slice aj x.Roster.People.length ai,.slice t x.Roster.Stations.length u] 144 aD x.rank [])) (hc:Ctx G (.box b_ [pq X] 166::.box R [.slice av a6.length ap] 99::.row av ap (a6.map aF) 86 2::.box H [.slice ar a5.length aq] 25::.row ar aq (a5.map aD) 3 1::.box O [.slice ax az.length ak.1] 222::.row ax ak.1 ((aK ak.2 az).map (Kd.v bD)) 223 1::bZ bD (aK ak.2 az)::.box I [.func (.func 163) #[] #[pq b_,pq R,pq H,pq O,pq I]] 213::Lf) w) {ay:(List aC) × (List Int) × (List (Option (List (Int × Bool))))} (hF:cP N p_ x a6 a5 az=some ay),Calls Tryz.prog 163 #[i6 p_,pq b_,pq R,pq H,pq O,pq I] w (fun e w=>∃ (ck:Option Addr) (cm:Nat) (cn:Option Addr) (cr:Nat) (ci:Option Addr) (ba:vP),e=.returned (.tuple #[])∧Ctx G (.row ck cm (ay.1.map aF) 86 2::.row cn cr (ay.2.1.map aD) 3 1::.row ci ba.1 ((aK ba.2 ay.2.2).map (Kd.v bD)) 223 1::bZ bD (aK ba.2 ay.2.2)::.box b_ [pq X] 166::.box R [.slice ck ay.1.length cm] 99::.box H [.slice cn ay.2.1.length cr] 25::.box O [.slice ci ay.2.2.length ba.1] 222::.box I [.func (.func 163) #[] #[pq b_,pq R,pq H,pq O,pq I]] 213::Lf) w):=by
 induction N with
 | zero=>
  intro G Lf w p_ x a6 a5 az b_ X aj ai t u R av ap H ar aq O ax ak I ab s am hc ay hF
  exact aBs hF
 | succ N ih=>
 intro G Lf w p_ x a6 a5 az b_ X aj ai t u R av ap H ar aq O ax ak I ab s am hc ay hF
 rw [cP] at hF
 refine aKq Tryz.func163 rfl Tryz.ntmps163 rfl fun a hf=>zS fun K h=>zB hf hc rfl fun aa a w hf hc=>zT h ?_
 refine zS fun K h=>zL hf hc mZ m1 rfl fun a w hf hc=>zL hf hc bG m0 rfl fun a w hf hc=>?_
 obtain ⟨r,hr,hF⟩:=aA hF
 refine zC hf aE6 rfl (oO (⟨x.Roster,x.rank⟩:aV) p_ (-1) ab s am hc hr) ?_
 rintro _ w ⟨br,bq,bs,rfl,hc⟩
 refine ⟨_,rfl,fun a hf=>?_⟩
 refine zT h ?_
 obtain ⟨x3,dx,hF⟩:=aA hF
 refine aKc (C:=[.box br [pq X] 166,.box bq [i6 r.1] 3,.box bs [i6 r.2] 3]) (C2:=[.box br [pq X] 166,.box bq [i6 r.1] 3,.box bs [i6 r.2] 3]) (L0:=[.box aa [i6 p_] 3,.box b_ [pq X] 166,.box R [.slice av a6.length ap] 99,.row av ap (a6.map aF) 86 2,.box H [.slice ar a5.length aq] 25,.row ar aq (a5.map aD) 3 1,.box O [.slice ax az.length ak.1] 222,.row ax ak.1 ((aK ak.2 az).map (Kd.v bD)) 223 1,bZ bD (aK ak.2 az),.box I [.func (.func 163) #[] #[pq b_,pq R,pq H,pq O,pq I]] 213]) (Lf:=Lf) (encs:=fun x:Int=>[i6 x]) (fun (zz:(List aC) × (List Int) × (List (Option (List (Int × Bool))))) L=>∃ (d:Option Addr) (Z:Nat) (ad:Option Addr) (Y:Nat) (af:Option Addr) (B:vP),L=[.box aa [i6 p_] 3,.box b_ [pq X] 166,.box R [.slice d zz.1.length Z] 99,.row d Z (zz.1.map aF) 86 2,.box H [.slice ad zz.2.1.length Y] 25,.row ad Y (zz.2.1.map aD) 3 1,.box O [.slice af zz.2.2.length B.1] 222,.row af B.1 ((aK B.2 zz.2.2).map (Kd.v bD)) 223 1,bZ bD (aK B.2 zz.2.2),.box I [.func (.func 163) #[] #[pq b_,pq R,pq H,pq O,pq I]] 213]) (fun (zz:(List aC) × (List Int) × (List (Option (List (Int × Bool))))) (dv:Int)=>cH N (cP N) p_ x zz.1 zz.2.1 zz.2.2 dv) (a6,a5,az) x3 hf hc rfl aG4 (fun _=>rfl) rfl ⟨av,ap,ar,aq,ax,ak,rfl⟩ ?_ ?_ ?_ ?_
 ·intro lq mq J L Lx w hy hJ hc
  exact nO (⟨x.Roster,x.rank⟩:aV) r.1 r.2 ab s am J _ hy _ hJ hc dx
 ·clear hF hf hc
  rintro lq mq ⟨V,U,D⟩ xv oq _ Lr Lb a w gg ⟨d,Z,ad,Y,af,B,rfl⟩ hF hf hc hK
  replace hf:Has 95 a [(1,pq b_),(2,pq R),(3,pq H),(4,pq O),(5,pq I),(6,pq aa),(13,i6 xv)]:=hf.kp rfl
  replace hc:Ctx G (.box aa [i6 p_] 3::.box b_ [pq X] 166::.box R [.slice d V.length Z] 99::.row d Z (V.map aF) 86 2::.box H [.slice ad U.length Y] 25::.row ad Y (U.map aD) 3 1::.box O [.slice af D.length B.1] 222::.row af B.1 ((aK B.2 D).map (Kd.v bD)) 223 1::bZ bD (aK B.2 D)::.box I [.func (.func 163) #[] #[pq b_,pq R,pq H,pq O,pq I]] 213::Lr) w:=hc
  replace hF:cH N (cP N) p_ x V U D xv=some oq:=hF
  unfold cH at hF
  refine wF (fun _ _ h=>h) rfl ?_
  refine zA hf hc aJ9 rfl fun ac a w hf hc=>zW hf hc eH u0 rfl fun w hc=>aL ?_
  refine hK _ _ [.box ac [i6 xv] 3,.box aa [i6 p_] 3,.box b_ [pq X] 166,.box R [.slice d V.length Z] 99,.row d Z (V.map aF) 86 2,.box H [.slice ad U.length Y] 25,.row ad Y (U.map aD) 3 1,.box O [.slice af D.length B.1] 222,.row af B.1 ((aK B.2 D).map (Kd.v bD)) 223 1,bZ bD (aK B.2 D),.box I [.func (.func 163) #[] #[pq b_,pq R,pq H,pq O,pq I]] 213] hc fun w hc=>?_
  replace hc:Ctx G (.box ac [i6 xv] 3::.box aa [i6 p_] 3::.box b_ [pq X] 166::.box R [.slice d V.length Z] 99::.row d Z (V.map aF) 86 2::.box H [.slice ad U.length Y] 25::.row ad Y (U.map aD) 3 1::.box O [.slice af D.length B.1] 222::.row af B.1 ((aK B.2 D).map (Kd.v bD)) 223 1::bZ bD (aK B.2 D)::.box I [.func (.func 163) #[] #[pq b_,pq R,pq H,pq O,pq I]] 213::Lb) w:=hc
  refine aG2 fun K4 h4=>aDq ?_
  refine uK fun K5 h5=>uK fun K6 h6=>wF (fun _ _ h=>h) rfl ?_
  refine zL hf hc aHh m3 rfl fun a w hf hc=>zP hf rfl (pMF (us:=[pq aa,pq ac]) rfl rfl) fun a hf=>?_
  obtain ⟨cj,cv,hF⟩:=aA hF
  refine zQ (v:=.bool cj) hf hc aKf rfl (fun w hc=>by obtain ⟨G1,gb,cx,hc,c2⟩:=lend hc k4; exact (kV V p_ xv cx ((hc.pick k0).pick k1) cv).mono fun e w h=>⟨h.1,((c2 _ _ ((h.2.unpick k1).unpick k0)).unpick k4)⟩) fun a w hf hc=>aL ?_
  refine h6 _ _ ?_
  refine aFo (b:=cj) hf rfl (fun hb=>?_) (fun hb=>?_)
  ·replace hF:=fU hb hF
   clear hb
   refine aLi ?_
   refine aN ?_
   refine cT ?_
   refine h4 _ _ ?_
   replace hc:=hc.drop k0
   exact ⟨(V,U,D),_,(sj hF).symm,⟨d,Z,ad,Y,af,B,rfl⟩,hc⟩
  ·replace hF:=gN hb hF
   clear hb
   refine aFn ?_
   refine h5 _ _ ?_
   refine uK fun K7 h7=>wF (fun _ _ h=>h) rfl ?_
   refine zL hf hc fB m5 rfl fun a w hf hc=>zL hf hc bG m1 rfl fun a w hf hc=>zL hf hc bG m0 rfl fun a w hf hc=>?_
   obtain ⟨gj,b3,hF⟩:=aA hF
   obtain ⟨g,rfl,qa,qr⟩:=nQ hc m6 b3
   refine zP hf rfl (pIA Tryz.underlying25 eH rfl rfl qa) fun a hf=>aDu (vs:=[i6 xv]) (o':=0) (z:=xv) (xs:=U) hf hc rfl rfl rfl rfl eH rfl (fun x=>(bP x).1) (rH b3) (fun _ _=>rfl) rfl u6 fun w hc=>aL ?_
   refine h7 _ _ ?_
   refine uK fun K8 h8=>?_
   obtain ⟨gn,bz,hF⟩:=aA hF
   obtain ⟨p,rfl,cz,cs⟩:=nQ hc m8 (iU bz)
   obtain ⟨mm,cc,hF⟩:=aA hF
   refine aEi (fun _ _ h=>h) rfl (fun θ=>[⟨none,none,1,pq b_⟩,⟨none,none,2,pq R⟩,⟨none,none,3,pq H⟩,⟨none,none,4,pq O⟩,⟨none,none,5,pq I⟩,⟨none,none,6,pq aa⟩,⟨none,none,7,pq ac⟩,⟨some 0,none,21,.slice (some ⟨p,0,none⟩) D.length B.1⟩,⟨some 1,none,22,i6 xv⟩,⟨some 2,none,23,.pointer (some ⟨p,xv.toNat * 1,none⟩)⟩,⟨some 3,none,24,.map (some ((B.2 xv.toNat).2))⟩,⟨some 4,none,25,i6 p_⟩]) (fun E θ=>.box ac [i6 xv] 3::.box aa [i6 p_] 3::.box b_ [pq X] 166::.box R [.slice d V.length Z] 99::.row d Z (V.map aF) 86 2::.box H [.slice (some ⟨g,0,none⟩) U.length Y] 25::.row (some ⟨g,0,none⟩) Y ((U.set p_.toNat xv).map aD) 3 1::.box O [.slice (some ⟨p,0,none⟩) D.length B.1] 222::(bif E 5 then .row (some ⟨p,0,none⟩) B.1 ((aK B.2 (D.set xv.toNat (some (gK mm p_ true)))).map (Kd.v bD)) 223 1 else .row (some ⟨p,0,none⟩) B.1 ((aK B.2 D).map (Kd.v bD)) 223 1)::(bif E 5 then bZ bD (aK B.2 (D.set xv.toNat (some (gK mm p_ true)))) else bZ bD (aK B.2 D))::.box I [.func (.func 163) #[] #[pq b_,pq R,pq H,pq O,pq I]] 213::Lb) [(5,2),(5,3)] (fun a w=>Has 95 a [(1,pq b_),(2,pq R),(3,pq H),(4,pq O),(5,pq I),(6,pq aa),(7,pq ac)]∧Ctx G (.box ac [i6 xv] 3::.box aa [i6 p_] 3::.box b_ [pq X] 166::.box R [.slice d V.length Z] 99::.row d Z (V.map aF) 86 2::.box H [.slice (some ⟨g,0,none⟩) U.length Y] 25::.row (some ⟨g,0,none⟩) Y ((U.set p_.toNat xv).map aD) 3 1::.box O [.slice (some ⟨p,0,none⟩) D.length B.1] 222::.row (some ⟨p,0,none⟩) B.1 ((aK B.2 (D.set xv.toNat (some (gK mm p_ true)))).map (Kd.v bD)) 223 1::bZ bD (aK B.2 (D.set xv.toNat (some (gK mm p_ true))))::.box I [.func (.func 163) #[] #[pq b_,pq R,pq H,pq O,pq I]] 213::Lb) w) aT (by kernel_rfl) (by kernel_rfl) (iT.of hf ⟨rfl,rfl,rfl,rfl,rfl,rfl,rfl,trivial,trivial,trivial,trivial,trivial,trivial⟩) hc ⟨?_,?_,?_,?_,?_,?_,trivial⟩ ?_ ?_
   ·intro E θ a w hD hi hp he hc
    have hf:=he.h0.mT he 3 rfl
    refine zL hf hc yW m7 rfl fun a w hf hc=>zD θ he hi hf 7 rfl rfl rfl hc
   ·intro E θ a w hD hi hp he hc
    have hf:=he.h0.mT he 6 rfl
    refine zL hf hc bG m0 rfl fun a w hf hc=>zD θ he hi hf 8 rfl rfl rfl hc
   ·intro E θ a w hD hi hp he hc
    have e0:=hp.o 0 rfl
    have e1:=hp.o 1 rfl
    have e5:=hD.f 0 rfl hi
    try dsimp only at hc
    rw [e5] at hc
    have hf:=(he.h0.mP he 7 rfl e0).mP he 8 rfl e1
    refine zP hf rfl (pIA Tryz.underlying222 yO rfl rfl (At.len cz (by simp only [hU,List.length_set]))) fun a hf=>zD θ he hi hf 9 rfl rfl rfl ?_
    try dsimp only
    rw [gU 2 e5 rfl]
    exact hc
   ·intro E θ a w hD hi hp he hc
    have e2:=hp.o 2 rfl
    have e5:=hD.f 1 rfl hi
    try dsimp only at hc
    rw [e5] at hc
    have hf:=he.h0.mP he 9 rfl e2
    refine zE hf hc rfl (bF aDl rfl (jA (sz:=1) (i:=xv.toNat) (j:=0) m8 cs (by subst cc; rfl))) fun a w hf hc=>zD θ he hi hf 10 rfl rfl rfl ?_
    try dsimp only
    rw [gU 3 e5 rfl]
    exact hc
   ·intro E θ a w hD hi hp he hc
    have hf:=he.h0.mT he 5 rfl
    refine zL hf hc bG m1 rfl fun a w hf hc=>zD θ he hi hf 11 rfl rfl rfl hc
   ·intro E θ a w hD hi hp he hc
    have e3:=hp.o 3 rfl
    have e4:=hp.o 4 rfl
    try dsimp only at hc
    rw [hi] at hc
    have hf:=(he.h0.mP he 10 rfl e3).mP he 11 rfl e4
    replace hc:=aAe (hc.pick k9) (uU (vL bz cc))
    replace hc:Ctx G (.gm ((B.2 xv.toNat).2) (ALq Value.bool mm)::bZ bD ((aK B.2 D).eraseIdx xv.toNat)::.box ac [i6 xv] 3::.box aa [i6 p_] 3::.box b_ [pq X] 166::.box R [.slice d V.length Z] 99::.row d Z (V.map aF) 86 2::.box H [.slice (some ⟨g,0,none⟩) U.length Y] 25::.row (some ⟨g,0,none⟩) Y ((U.set p_.toNat xv).map aD) 3 1::.box O [.slice (some ⟨p,0,none⟩) D.length B.1] 222::.row (some ⟨p,0,none⟩) B.1 ((aK B.2 D).map (Kd.v bD)) 223 1::.box I [.func (.func 163) #[] #[pq b_,pq R,pq H,pq O,pq I]] 213::Lb) w:=hc
    refine stAU (enc:=Value.bool) (kvs:=mm) (k:=p_) (v:=true) hf hc rfl Tryz.underlying223 Tryz.underlying3 rfl rfl rfl u0 fun w hc=>?_
    replace hc:=((((((((((hc.pick k9).pick k9).pick k9).pick k9).pick k9).pick k9).pick k9).pick k9).pick k9).pick k10).pick k10
    replace hc:=aFd (K:=bD) (y:=some (gK mm p_ true)) (uU (vL bz cc)) rfl hc
    replace hc:Ctx G (.row (some ⟨p,0,none⟩) B.1 ((aK B.2 (D.set xv.toNat (some (gK mm p_ true)))).map (Kd.v bD)) 223 1::bZ bD (aK B.2 (D.set xv.toNat (some (gK mm p_ true))))::.box ac [i6 xv] 3::.box aa [i6 p_] 3::.box b_ [pq X] 166::.box R [.slice d V.length Z] 99::.row d Z (V.map aF) 86 2::.box H [.slice (some ⟨g,0,none⟩) U.length Y] 25::.row (some ⟨g,0,none⟩) Y ((U.set p_.toNat xv).map aD) 3 1::.box O [.slice (some ⟨p,0,none⟩) D.length B.1] 222::.box I [.func (.func 163) #[] #[pq b_,pq R,pq H,pq O,pq I]] 213::Lb) w:=hc
    replace hc:=(((((((((hc.pick k1).pick k1).pick k9).pick k9).pick k9).pick k9).pick k9).pick k9).pick k9).pick k9
    refine zG θ he hi hf rfl ?_
    try dsimp only
    rw [bV E 5]
    exact hc
   ·intro E θ a w n he hc
    have hf:=he.h0
    have e5:=n 5 rfl
    replace hf:=hf.more he 6 rfl (onT)
    replace hf:=hf.more he 5 rfl (onT)
    replace hf:=hf.more he 4 rfl (onT)
    replace hf:=hf.more he 3 rfl (onT)
    replace hf:=hf.more he 2 rfl (onT)
    replace hf:=hf.more he 1 rfl (onT)
    replace hf:=hf.more he 0 rfl (onT)
    try dsimp only at hc
    rw [e5] at hc
    exact ⟨hf.kp rfl,hc⟩
   rintro a w ⟨hf,hc⟩
   refine h8 _ _ ?_
   refine uK fun K9 h9=>uK fun K10 d4=>?_
   obtain ⟨gk,b6,hF⟩:=aA hF
   obtain ⟨c5,da⟩:=nA hc m8 (iU b6)
   obtain ⟨bj,b2,hF⟩:=aA hF
   obtain ⟨b1,c1,hF⟩:=aA hF
   obtain ⟨cp,o,hd,c6,qp,d6⟩:=s.atm c1
   refine aEi (fun _ _ h=>h) rfl (fun θ=>[⟨none,none,1,pq b_⟩,⟨none,none,2,pq R⟩,⟨none,none,3,pq H⟩,⟨none,none,4,pq O⟩,⟨none,none,5,pq I⟩,⟨none,none,6,pq aa⟩,⟨none,none,7,pq ac⟩,⟨some 0,none,26,.slice (some ⟨p,0,none⟩) D.length B.1⟩,⟨some 1,none,27,i6 xv⟩,⟨some 2,none,28,.pointer (some ⟨p,xv.toNat * 1,none⟩)⟩,⟨some 3,none,29,.map (some ((B.2 xv.toNat).2))⟩,⟨some 4,none,30,i6 ((bj.length:Nat):Int)⟩,⟨some 5,none,31,pq X⟩,⟨some 6,none,32,pq X⟩,⟨some 7,none,33,.pointer (some ⟨X,0 + 0,none⟩)⟩,⟨some 8,none,34,.pointer (some ⟨X,0 + 0 + 1,none⟩)⟩,⟨some 9,none,35,.slice t x.Roster.Stations.length u⟩,⟨some 10,none,36,i6 xv⟩,⟨some 11,none,37,.pointer (some ⟨cp,o,none⟩)⟩,⟨some 12,none,38,.pointer (some ⟨cp,o + 0,none⟩)⟩,⟨some 13,none,39,i6 b1.Places⟩,⟨some 14,none,40,.bool (decide (((bj.length:Nat):Int)≤b1.Places))⟩]) (fun E θ=>.box ac [i6 xv] 3::.box aa [i6 p_] 3::.box b_ [pq X] 166::.box R [.slice d V.length Z] 99::.row d Z (V.map aF) 86 2::.box H [.slice (some ⟨g,0,none⟩) U.length Y] 25::.row (some ⟨g,0,none⟩) Y ((U.set p_.toNat xv).map aD) 3 1::.box O [.slice (some ⟨p,0,none⟩) D.length B.1] 222::.row (some ⟨p,0,none⟩) B.1 ((aK B.2 (D.set xv.toNat (some (gK mm p_ true)))).map (Kd.v bD)) 223 1::bZ bD (aK B.2 (D.set xv.toNat (some (gK mm p_ true))))::.box I [.func (.func 163) #[] #[pq b_,pq R,pq H,pq O,pq I]] 213::Lb) [] (fun a w=>Has 95 a [(1,pq b_),(2,pq R),(3,pq H),(4,pq O),(5,pq I),(6,pq aa),(7,pq ac),(40,.bool (decide (((bj.length:Nat):Int)≤b1.Places)))]∧Ctx G (.box ac [i6 xv] 3::.box aa [i6 p_] 3::.box b_ [pq X] 166::.box R [.slice d V.length Z] 99::.row d Z (V.map aF) 86 2::.box H [.slice (some ⟨g,0,none⟩) U.length Y] 25::.row (some ⟨g,0,none⟩) Y ((U.set p_.toNat xv).map aD) 3 1::.box O [.slice (some ⟨p,0,none⟩) D.length B.1] 222::.row (some ⟨p,0,none⟩) B.1 ((aK B.2 (D.set xv.toNat (some (gK mm p_ true)))).map (Kd.v bD)) 223 1::bZ bD (aK B.2 (D.set xv.toNat (some (gK mm p_ true))))::.box I [.func (.func 163) #[] #[pq b_,pq R,pq H,pq O,pq I]] 213::Lb) w) aT (by kernel_rfl) (by kernel_rfl) (iT.of hf ⟨rfl,rfl,rfl,rfl,rfl,rfl,rfl,trivial,trivial,trivial,trivial,trivial,trivial,trivial,trivial,trivial,trivial,trivial,trivial,trivial,trivial,trivial,trivial⟩) hc ⟨?_,?_,?_,?_,?_,?_,?_,?_,?_,?_,?_,?_,?_,?_,?_,trivial⟩ ?_ ?_
   ·intro E θ a w hD hi hp he hc
    have hf:=he.h0.mT he 3 rfl
    refine zL hf hc yW m7 rfl fun a w hf hc=>zD θ he hi hf 7 rfl rfl rfl hc
   ·intro E θ a w hD hi hp he hc
    have hf:=he.h0.mT he 6 rfl
    refine zL hf hc bG m0 rfl fun a w hf hc=>zD θ he hi hf 8 rfl rfl rfl hc
   ·intro E θ a w hD hi hp he hc
    have e0:=hp.o 0 rfl
    have e1:=hp.o 1 rfl
    have hf:=(he.h0.mP he 7 rfl e0).mP he 8 rfl e1
    refine zP hf rfl (pIA Tryz.underlying222 yO rfl rfl (At.len c5 (by simp only [hU,List.length_set]))) fun a hf=>zD θ he hi hf 9 rfl rfl rfl hc
   ·intro E θ a w hD hi hp he hc
    have e2:=hp.o 2 rfl
    have hf:=he.h0.mP he 9 rfl e2
    refine zE hf hc rfl (bF aDl rfl (jA (sz:=1) (i:=xv.toNat) (j:=0) m8 da (by subst b2; rfl))) fun a w hf hc=>zD θ he hi hf 10 rfl rfl rfl hc
   ·intro E θ a w hD hi hp he hc
    have e3:=hp.o 3 rfl
    have hf:=he.h0.mP he 10 rfl e3
    refine zE hf hc rfl (eLenA (enc:=Value.bool) (kvs:=bj) (aJg m9 (vL b6 b2)) Tryz.underlying223 rfl) fun a w hf hc=>zD θ he hi hf 11 rfl rfl rfl hc
   ·intro E θ a w hD hi hp he hc
    have hf:=he.h0.mT he 0 rfl
    refine zL hf hc mZ m2 rfl fun a w hf hc=>zD θ he hi hf 12 rfl rfl rfl hc
   ·intro E θ a w hD hi hp he hc
    have e5:=hp.o 5 rfl
    have hf:=he.h0.mP he 12 rfl e5
    refine sp 1 hf rfl fun a hf=>zD θ he hi hf 13 rfl rfl rfl hc
   ·intro E θ a w hD hi hp he hc
    have e6:=hp.o 6 rfl
    have hf:=he.h0.mP he 13 rfl e6
    refine zP hf rfl (pFA pS rfl) fun a hf=>zD θ he hi hf 14 rfl rfl rfl hc
   ·intro E θ a w hD hi hp he hc
    have e7:=hp.o 7 rfl
    have hf:=he.h0.mP he 14 rfl e7
    refine zP hf rfl (pFA fJ rfl) fun a hf=>zD θ he hi hf 15 rfl rfl rfl hc
   ·intro E θ a w hD hi hp he hc
    have e8:=hp.o 8 rfl
    have hf:=he.h0.mP he 15 rfl e8
    refine zE hf hc rfl (bF mR rfl (aR (j:=1) am rfl)) fun a w hf hc=>zD θ he hi hf 16 rfl rfl rfl hc
   ·intro E θ a w hD hi hp he hc
    have hf:=he.h0.mT he 6 rfl
    refine zL hf hc bG m0 rfl fun a w hf hc=>zD θ he hi hf 17 rfl rfl rfl hc
   ·intro E θ a w hD hi hp he hc
    have e9:=hp.o 9 rfl
    have a4:=hp.o 10 rfl
    have hf:=(he.h0.mP he 16 rfl e9).mP he 17 rfl a4
    refine zP hf rfl (pIA Tryz.underlying76 mK rfl rfl c6) fun a hf=>zD θ he hi hf 18 rfl rfl rfl hc
   ·intro E θ a w hD hi hp he hc
    have a0:=hp.o 11 rfl
    have hf:=he.h0.mP he 18 rfl a0
    refine zP hf rfl (pFA oU rfl) fun a hf=>zD θ he hi hf 19 rfl rfl rfl hc
   ·intro E θ a w hD hi hp he hc
    have a2:=hp.o 12 rfl
    have hf:=he.h0.mP he 19 rfl a2
    refine zE hf hc rfl (bF bG rfl (aR (j:=0) qp rfl)) fun a w hf hc=>zD θ he hi hf 20 rfl rfl rfl hc
   ·intro E θ a w hD hi hp he hc
    have e4:=hp.o 4 rfl
    have a3:=hp.o 13 rfl
    have hf:=(he.h0.mP he 11 rfl e4).mP he 20 rfl a3
    refine sp 1 hf rfl fun a hf=>zD θ he hi hf 21 rfl rfl rfl hc
   ·intro E θ a w n he hc
    have hf:=he.h0
    have a1:=n 14 rfl
    replace hf:=hf.more he 21 rfl (onP a1)
    replace hf:=hf.more he 6 rfl (onT)
    replace hf:=hf.more he 5 rfl (onT)
    replace hf:=hf.more he 4 rfl (onT)
    replace hf:=hf.more he 3 rfl (onT)
    replace hf:=hf.more he 2 rfl (onT)
    replace hf:=hf.more he 1 rfl (onT)
    replace hf:=hf.more he 0 rfl (onT)
    exact ⟨hf.kp rfl,hc⟩
   rintro a w ⟨hf,hc⟩
   refine d4 _ _ ?_
   refine aFo (b:=(decide (((bj.length:Nat):Int)≤b1.Places))) hf rfl (fun hb=>?_) (fun hb=>?_)
   ·replace hF:=fU hb hF
    clear hb
    refine rRet ?_
    refine aH ?_
    refine bB ?_
    refine aH ?_
    replace hc:Ctx G (.box ac [i6 xv] 3::.box aa [i6 p_] 3::.box b_ [pq X] 166::.box R [.slice d V.length Z] 99::.row d Z (V.map aF) 86 2::.box H [.slice (some ⟨g,0,none⟩) ((U.set p_.toNat xv).length) Y] 25::.row (some ⟨g,0,none⟩) Y ((U.set p_.toNat xv).map aD) 3 1::.box O [.slice (some ⟨p,0,none⟩) ((D.set xv.toNat (some (gK mm p_ true))).length) B.1] 222::.row (some ⟨p,0,none⟩) B.1 ((aK B.2 (D.set xv.toNat (some (gK mm p_ true)))).map (Kd.v bD)) 223 1::bZ bD (aK B.2 (D.set xv.toNat (some (gK mm p_ true))))::.box I [.func (.func 163) #[] #[pq b_,pq R,pq H,pq O,pq I]] 213::Lb) w:=by simp only [List.length_set] at hc ⊢; exact hc
    replace hc:=hc.drop k0
    exact ⟨(V,(U.set p_.toNat xv),(D.set xv.toNat (some (gK mm p_ true)))),_,(sj hF).symm,⟨d,Z,(some ⟨g,0,none⟩),Y,(some ⟨p,0,none⟩),B,rfl⟩,hc⟩
   ·replace hF:=gN hb hF
    clear hb
    refine aFn ?_
    refine h9 _ _ ?_
    refine uK fun K11 dg=>wF (fun _ _ h=>h) rfl ?_
    refine zL hf hc bG m1 rfl fun a w hf hc=>sp 1 hf rfl fun a hf=>aL ?_
    refine dg _ _ ?_
    refine uK fun K12 dj=>uK fun K13 d1=>wF (fun _ _ h=>h) rfl ?_
    refine zL hf hc mZ m2 rfl fun a w hf hc=>sp 1 hf rfl fun a hf=>zP hf rfl (pFA pS rfl) fun a hf=>zP hf rfl (pFA iK rfl) fun a hf=>zE hf hc rfl (bF gB rfl (aR (j:=0) am rfl)) fun a w hf hc=>zP hf rfl (aW Tryz.underlying75 rfl) fun a hf=>sp 1 hf rfl fun a hf=>aL ?_
    refine d1 _ _ ?_
    refine aDq ?_
    obtain ⟨b7,c7,hF⟩:=aA hF
    let S14:(Int × Int)→Act→World→Prop:=(fun (zz:Int × Int) a w=>Has 95 a [(1,pq b_),(2,pq R),(3,pq H),(4,pq O),(5,pq I),(7,pq ac),(8,i6 zz.1),(47,i6 ((x.Roster.People.length:Nat):Int)),(48,i6 zz.2)]∧Ctx G (.box ac [i6 xv] 3::.box aa [i6 p_] 3::.box b_ [pq X] 166::.box R [.slice d V.length Z] 99::.row d Z (V.map aF) 86 2::.box H [.slice (some ⟨g,0,none⟩) ((U.set p_.toNat xv).length) Y] 25::.row (some ⟨g,0,none⟩) Y ((U.set p_.toNat xv).map aD) 3 1::.box O [.slice (some ⟨p,0,none⟩) ((D.set xv.toNat (some (gK mm p_ true))).length) B.1] 222::.row (some ⟨p,0,none⟩) B.1 ((aK B.2 (D.set xv.toNat (some (gK mm p_ true)))).map (Kd.v bD)) 223 1::bZ bD (aK B.2 (D.set xv.toNat (some (gK mm p_ true))))::.box I [.func (.func 163) #[] #[pq b_,pq R,pq H,pq O,pq I]] 213::Lb) w)
    have dd:∀ (zz:Int × Int) a w,b7=.go zz→S14 zz a w→K12 a w:=by
     rintro ⟨q,ag⟩ a w rfl ⟨hf,hc⟩
     replace hF:=bH hF
     refine dj _ _ ?_
     refine uK fun K15 du=>wF (fun _ _ h=>h) rfl ?_
     refine zL hf hc yW m7 rfl fun a w hf hc=>zL hf hc bG m0 rfl fun a w hf hc=>?_
     obtain ⟨gf,bv,hF⟩:=aA hF
     obtain ⟨c4,ct⟩:=nA hc m8 (iU bv)
     refine zP hf rfl (pIA Tryz.underlying222 yO rfl rfl (At.len c4 (by simp only [hU,List.length_set]))) fun a hf=>?_
     obtain ⟨au,bt,hF⟩:=aA hF
     refine zE hf hc rfl (bF aDl rfl (jA (sz:=1) (i:=xv.toNat) (j:=0) m8 ct (by subst bt; rfl))) fun a w hf hc=>sp 1 hf rfl fun a hf=>?_
     replace hc:=aAe (hc.pick k9) (uU (vL bv bt))
     replace hc:Ctx G (.gm ((B.2 xv.toNat).2) (ALq Value.bool au)::bZ bD ((aK B.2 (D.set xv.toNat (some (gK mm p_ true)))).eraseIdx xv.toNat)::.box ac [i6 xv] 3::.box aa [i6 p_] 3::.box b_ [pq X] 166::.box R [.slice d V.length Z] 99::.row d Z (V.map aF) 86 2::.box H [.slice (some ⟨g,0,none⟩) ((U.set p_.toNat xv).length) Y] 25::.row (some ⟨g,0,none⟩) Y ((U.set p_.toNat xv).map aD) 3 1::.box O [.slice (some ⟨p,0,none⟩) ((D.set xv.toNat (some (gK mm p_ true))).length) B.1] 222::.row (some ⟨p,0,none⟩) B.1 ((aK B.2 (D.set xv.toNat (some (gK mm p_ true)))).map (Kd.v bD)) 223 1::.box I [.func (.func 163) #[] #[pq b_,pq R,pq H,pq O,pq I]] 213::Lb) w:=hc
     refine stAD (enc:=Value.bool) (kvs:=au) (k:=q) hf hc rfl rfl Tryz.underlying223 Tryz.underlying3 rfl rfl u0 fun w hc=>?_
     replace hc:=((((((((((hc.pick k9).pick k9).pick k9).pick k9).pick k9).pick k9).pick k9).pick k9).pick k9).pick k10).pick k10
     replace hc:=aFd (K:=bD) (y:=some (yQ au q)) (uU (vL bv bt)) rfl hc
     replace hc:Ctx G (.row (some ⟨p,0,none⟩) B.1 ((aK B.2 ((D.set xv.toNat (some (gK mm p_ true))).set xv.toNat (some (yQ au q)))).map (Kd.v bD)) 223 1::bZ bD (aK B.2 ((D.set xv.toNat (some (gK mm p_ true))).set xv.toNat (some (yQ au q))))::.box ac [i6 xv] 3::.box aa [i6 p_] 3::.box b_ [pq X] 166::.box R [.slice d V.length Z] 99::.row d Z (V.map aF) 86 2::.box H [.slice (some ⟨g,0,none⟩) ((U.set p_.toNat xv).length) Y] 25::.row (some ⟨g,0,none⟩) Y ((U.set p_.toNat xv).map aD) 3 1::.box O [.slice (some ⟨p,0,none⟩) ((D.set xv.toNat (some (gK mm p_ true))).length) B.1] 222::.box I [.func (.func 163) #[] #[pq b_,pq R,pq H,pq O,pq I]] 213::Lb) w:=hc
     replace hc:=(((((((((hc.pick k1).pick k1).pick k9).pick k9).pick k9).pick k9).pick k9).pick k9).pick k9).pick k9
     refine aL ?_
     refine du _ _ ?_
     refine uK fun K16 d3=>wF (fun _ _ h=>h) rfl ?_
     refine zL hf hc fB m5 rfl fun a w hf hc=>sp 1 hf rfl fun a hf=>?_
     obtain ⟨gi,b9,hF⟩:=aA hF
     obtain ⟨cu,d7⟩:=nA hc m6 b9
     refine zP hf rfl (pIA Tryz.underlying25 eH rfl rfl (At.len cu (by simp only [List.length_set]))) fun a hf=>aDu (vs:=[i6 (-1)]) (o':=0) (z:=(-1)) (xs:=(U.set p_.toNat xv)) hf hc rfl rfl rfl rfl eH rfl (fun x=>(bP x).1) (rH b9) (fun _ _=>rfl) rfl u6 fun w hc=>aL ?_
     refine d3 _ _ ?_
     refine uK fun K17 dr=>wF (fun _ _ h=>h) rfl ?_
     refine zL hf hc aHh m3 rfl fun a w hf hc=>sp 1 hf rfl fun a hf=>zL hf hc bG m0 rfl fun a w hf hc=>zP hf rfl (cK (cells:=[i6 q,i6 xv]) uW rfl rfl) fun a hf=>nU (rows:=([(⟨q,xv⟩:aC)]:List aC).map aF) (vs:=[(0,.agg #[i6 q,i6 xv])]) hf hc rfl rfl aIa rfl ⟨rfl,rfl,rfl,trivial⟩ rfl rfl fun dz a w hf hc=>?_
     obtain ⟨un,dm,hF⟩:=aA hF
     refine pG (xs:=V) (ys:=([(⟨q,xv⟩:aC)]:List aC)) hf hc rfl rfl aIa rfl rfl rfl rfl rfl rQ (lL hc m0) (fun _ _=>u5) (by simpa using fA dm) fun cg cf a w hf hc=>zW hf hc sz_99 u4 rfl fun w hc=>aL ?_
     refine dr _ _ ?_
     refine uK fun K18 dp=>wF (fun _ _ h=>h) rfl ?_
     refine zL hf hc aJt m11 rfl fun a w hf hc=>sp 1 hf rfl fun a hf=>?_
     replace hc:Ctx G (.row (some ⟨dz,0,none⟩) 1 (([(⟨q,xv⟩:aC)]:List aC).map aF) 86 2::.box ac [i6 xv] 3::.box aa [i6 p_] 3::.box b_ [pq X] 166::.box R [.slice cg ((V++[(⟨q,xv⟩:aC)]).length) cf] 99::.row cg cf ((V++[(⟨q,xv⟩:aC)]).map aF) 86 2::.box H [.slice (some ⟨g,0,none⟩) (((U.set p_.toNat xv).set q.toNat (-1)).length) Y] 25::.row (some ⟨g,0,none⟩) Y (((U.set p_.toNat xv).set q.toNat (-1)).map aD) 3 1::.box O [.slice (some ⟨p,0,none⟩) (((D.set xv.toNat (some (gK mm p_ true))).set xv.toNat (some (yQ au q))).length) B.1] 222::.row (some ⟨p,0,none⟩) B.1 ((aK B.2 ((D.set xv.toNat (some (gK mm p_ true))).set xv.toNat (some (yQ au q)))).map (Kd.v bD)) 223 1::bZ bD (aK B.2 ((D.set xv.toNat (some (gK mm p_ true))).set xv.toNat (some (yQ au q))))::.box I [.func (.func 163) #[] #[pq b_,pq R,pq H,pq O,pq I]] 213::Lb) w:=by simp only [List.length_set] at hc ⊢; exact hc
     obtain ⟨cb,cy,hF⟩:=aA hF
     refine zC hf aKj rfl (by have hq:=ih q (⟨x.Roster,x.rank⟩:aV) (V++[(⟨q,xv⟩:aC)]) ((U.set p_.toNat xv).set q.toNat (-1)) ((D.set xv.toNat (some (gK mm p_ true))).set xv.toNat (some (yQ au q))) ab s am (((((((((hc.pick k11).pick k11).pick k11).pick k11).pick k11).pick k11).pick k11).pick k11).pick k11) cy; (try simp only [List.length_set] at hq); exact hq) ?_
     rintro _ w ⟨dn,dy,dt,df,dk,cd,rfl,hc⟩
     refine ⟨_,rfl,fun a hf=>?_⟩
     refine aL ?_
     refine dp _ _ ?_
     refine rRet ?_
     refine bB ?_
     refine aH ?_
     replace hc:=(((((((((((hc.drop k10).drop k9).pick k8).pick k4).pick k4).pick k8).pick k5).pick k8).pick k6).pick k8).pick k8).pick k9
     exact ⟨(cb.1,cb.2.1,cb.2.2),_,(sj hF).symm,⟨dn,dy,dt,df,dk,cd,rfl⟩,hc⟩
    have gd:∀ r,b7=.out r→r=oq:=by
     rintro r rfl
     exact sj hF
    replace hc:Ctx G (.box ac [i6 xv] 3::.box aa [i6 p_] 3::.box b_ [pq X] 166::.box R [.slice d V.length Z] 99::.row d Z (V.map aF) 86 2::.box H [.slice (some ⟨g,0,none⟩) ((U.set p_.toNat xv).length) Y] 25::.row (some ⟨g,0,none⟩) Y ((U.set p_.toNat xv).map aD) 3 1::.box O [.slice (some ⟨p,0,none⟩) ((D.set xv.toNat (some (gK mm p_ true))).length) B.1] 222::.row (some ⟨p,0,none⟩) B.1 ((aK B.2 (D.set xv.toNat (some (gK mm p_ true)))).map (Kd.v bD)) 223 1::bZ bD (aK B.2 (D.set xv.toNat (some (gK mm p_ true))))::.box I [.func (.func 163) #[] #[pq b_,pq R,pq H,pq O,pq I]] 213::Lb) w:=by simp only [List.length_set] at hc ⊢; exact hc
    refine rLoop N (aMl (S:=S14) (x:=b7) ?_ N (p_,0) _ _ ⟨hf.kp rfl,hc⟩ c7)
    clear hF hf hc
    rintro ⟨q,ag⟩ c9 a w KB14 ⟨hf,hc⟩ hF bu c0
    unfold eB at hF
    refine uK fun K19 di=>wF (fun _ _ h=>h) rfl ?_
    refine sp 1 hf rfl fun a hf=>aL ?_
    refine di _ _ ?_
    refine uK fun K20 d0=>aFo (b:=(decide (ag < ((x.Roster.People.length:Nat):Int)))) hf rfl (fun hb=>?_) (fun hb=>?_)
    ·replace hF:=fU hb hF
     clear hb
     refine aFn ?_
     refine d0 _ _ ?_
     refine uK fun K21 d2=>?_
     have ca:∀ (b0:Int) a w,Has 95 a [(1,pq b_),(2,pq R),(3,pq H),(4,pq O),(5,pq I),(7,pq ac),(8,i6 b0),(47,i6 ((x.Roster.People.length:Nat):Int)),(48,i6 ag)]→Ctx G (.box ac [i6 xv] 3::.box aa [i6 p_] 3::.box b_ [pq X] 166::.box R [.slice d V.length Z] 99::.row d Z (V.map aF) 86 2::.box H [.slice (some ⟨g,0,none⟩) ((U.set p_.toNat xv).length) Y] 25::.row (some ⟨g,0,none⟩) Y ((U.set p_.toNat xv).map aD) 3 1::.box O [.slice (some ⟨p,0,none⟩) ((D.set xv.toNat (some (gK mm p_ true))).length) B.1] 222::.row (some ⟨p,0,none⟩) B.1 ((aK B.2 (D.set xv.toNat (some (gK mm p_ true)))).map (Kd.v bD)) 223 1::bZ bD (aK B.2 (D.set xv.toNat (some (gK mm p_ true))))::.box I [.func (.func 163) #[] #[pq b_,pq R,pq H,pq O,pq I]] 213::Lb) w→hH N ag b0=some c9→K21 a w:=by
      repeat (clear hF)
      repeat (clear hc)
      repeat (clear hf)
      intro b0 a w hf hc hF
      unfold hH at hF
      refine d2 _ _ ?_
      refine wF (fun _ _ h=>h) rfl ?_
      refine sp 2 hf rfl fun a hf=>aL ?_
      exact c0 (b0,W (ag + 1)) _ _ (sj hF).symm ⟨hf.kp rfl,hc⟩
     refine aDq ?_
     refine uK fun K22 dq=>wF (fun _ _ h=>h) rfl ?_
     refine sp 2 hf rfl fun a hf=>aL ?_
     refine dq _ _ ?_
     refine uK fun K23 ds=>?_
     obtain ⟨rg,cq,hF⟩:=aA hF
     refine rCut (fun a w=>Has 95 a [(1,pq b_),(2,pq R),(3,pq H),(4,pq O),(5,pq I),(7,pq ac),(8,i6 q),(9,i6 ag),(47,i6 ((x.Roster.People.length:Nat):Int)),(48,i6 ag),(75,.bool rg)]∧Ctx G (.box ac [i6 xv] 3::.box aa [i6 p_] 3::.box b_ [pq X] 166::.box R [.slice d V.length Z] 99::.row d Z (V.map aF) 86 2::.box H [.slice (some ⟨g,0,none⟩) ((U.set p_.toNat xv).length) Y] 25::.row (some ⟨g,0,none⟩) Y ((U.set p_.toNat xv).map aD) 3 1::.box O [.slice (some ⟨p,0,none⟩) ((D.set xv.toNat (some (gK mm p_ true))).length) B.1] 222::.row (some ⟨p,0,none⟩) B.1 ((aK B.2 (D.set xv.toNat (some (gK mm p_ true)))).map (Kd.v bD)) 223 1::bZ bD (aK B.2 (D.set xv.toNat (some (gK mm p_ true))))::.box I [.func (.func 163) #[] #[pq b_,pq R,pq H,pq O,pq I]] 213::Lb) w) ?_ ?_
     ·clear hF
      have hF:=cq
      clear cq
      obtain ⟨gp,bb,hF⟩:=aA hF
      obtain ⟨gc,ga⟩:=nA hc m8 (iU bb)
      obtain ⟨bx,a9,hF⟩:=aA hF
      cases hb:((lkA bx ag).getD false)
      ·replace hF:=gN hb hF
       try rw [hb] at hf
       try rw [hb] at hc
       have b8:=hb
       clear hb
       obtain ⟨c8,db⟩:=nA hc m8 (iU bb)
       refine aEi (fun _ _ h=>h) rfl (fun θ=>(⟨none,none,1,pq b_⟩::⟨none,none,2,pq R⟩::⟨none,none,3,pq H⟩::⟨none,none,4,pq O⟩::⟨none,none,5,pq I⟩::⟨none,none,7,pq ac⟩::⟨none,none,8,i6 q⟩::⟨none,none,9,i6 ag⟩::⟨none,none,47,i6 ((x.Roster.People.length:Nat):Int)⟩::⟨none,none,48,i6 ag⟩::⟨some 0,none,51,.slice (some ⟨p,0,none⟩) ((D.set xv.toNat (some (gK mm p_ true))).length) B.1⟩::⟨some 1,none,52,i6 xv⟩::⟨some 2,none,53,.pointer (some ⟨p,xv.toNat * 1,none⟩)⟩::⟨some 3,none,54,.map (some ((B.2 xv.toNat).2))⟩::⟨some 4,none,55,i6 ag⟩::⟨some 5,none,56,.bool false⟩::⟨some 6,none,57,.bool false⟩::⟨some 7,none,58,undef⟩::⟨some 8,none,59,undef⟩::⟨some 9,none,60,undef⟩::⟨some 10,none,61,undef⟩::⟨some 11,none,62,undef⟩::⟨some 12,none,63,undef⟩::⟨some 13,none,64,undef⟩::⟨some 14,none,65,undef⟩::⟨some 15,none,66,undef⟩::⟨some 16,none,67,undef⟩::⟨some 17,none,68,undef⟩::⟨some 18,none,69,undef⟩::⟨some 19,none,70,undef⟩::⟨some 20,none,71,undef⟩::⟨some 21,none,72,undef⟩::⟨some 22,none,73,undef⟩::⟨some 23,none,74,undef⟩::⟨some 24,none,75,.bool false⟩::[])) (fun E θ=>.box ac [i6 xv] 3::.box aa [i6 p_] 3::.box b_ [pq X] 166::.box R [.slice d V.length Z] 99::.row d Z (V.map aF) 86 2::.box H [.slice (some ⟨g,0,none⟩) ((U.set p_.toNat xv).length) Y] 25::.row (some ⟨g,0,none⟩) Y ((U.set p_.toNat xv).map aD) 3 1::.box O [.slice (some ⟨p,0,none⟩) ((D.set xv.toNat (some (gK mm p_ true))).length) B.1] 222::.row (some ⟨p,0,none⟩) B.1 ((aK B.2 (D.set xv.toNat (some (gK mm p_ true)))).map (Kd.v bD)) 223 1::bZ bD (aK B.2 (D.set xv.toNat (some (gK mm p_ true))))::.box I [.func (.func 163) #[] #[pq b_,pq R,pq H,pq O,pq I]] 213::Lb) [] (fun a w=>Has 95 a [(1,pq b_),(2,pq R),(3,pq H),(4,pq O),(5,pq I),(7,pq ac),(8,i6 q),(9,i6 ag),(47,i6 ((x.Roster.People.length:Nat):Int)),(48,i6 ag),(58,undef),(59,undef),(60,undef),(61,undef),(62,undef),(63,undef),(64,undef),(65,undef),(66,undef),(67,undef),(68,undef),(69,undef),(70,undef),(71,undef),(72,undef),(73,undef),(74,undef),(75,.bool false)]∧Ctx G (.box ac [i6 xv] 3::.box aa [i6 p_] 3::.box b_ [pq X] 166::.box R [.slice d V.length Z] 99::.row d Z (V.map aF) 86 2::.box H [.slice (some ⟨g,0,none⟩) ((U.set p_.toNat xv).length) Y] 25::.row (some ⟨g,0,none⟩) Y ((U.set p_.toNat xv).map aD) 3 1::.box O [.slice (some ⟨p,0,none⟩) ((D.set xv.toNat (some (gK mm p_ true))).length) B.1] 222::.row (some ⟨p,0,none⟩) B.1 ((aK B.2 (D.set xv.toNat (some (gK mm p_ true)))).map (Kd.v bD)) 223 1::bZ bD (aK B.2 (D.set xv.toNat (some (gK mm p_ true))))::.box I [.func (.func 163) #[] #[pq b_,pq R,pq H,pq O,pq I]] 213::Lb) w) aT (by kernel_rfl) (by kernel_rfl) (iT.of hf ⟨rfl,rfl,rfl,rfl,rfl,rfl,rfl,rfl,rfl,rfl,trivial,trivial,trivial,trivial,trivial,trivial,trivial,trivial,trivial,trivial,trivial,trivial,trivial,trivial,trivial,trivial,trivial,trivial,trivial,trivial,trivial,trivial,trivial,trivial,trivial,trivial⟩) hc ⟨?_,?_,?_,?_,?_,?_,?_,?_,?_,?_,?_,?_,?_,?_,?_,?_,?_,?_,?_,?_,?_,?_,?_,?_,?_,trivial⟩ ?_ ?_
       ·intro E θ a w hD hi hp he hc
        have hf:=he.h0.mT he 3 rfl
        refine zL hf hc yW m7 rfl fun a w hf hc=>zD θ he hi hf 10 rfl rfl rfl hc
       ·intro E θ a w hD hi hp he hc
        have hf:=he.h0.mT he 5 rfl
        refine zL hf hc bG m0 rfl fun a w hf hc=>zD θ he hi hf 11 rfl rfl rfl hc
       ·intro E θ a w hD hi hp he hc
        have e0:=hp.o 0 rfl
        have e1:=hp.o 1 rfl
        have hf:=(he.h0.mP he 10 rfl e0).mP he 11 rfl e1
        refine zP hf rfl (pIA Tryz.underlying222 yO rfl rfl (At.len c8 (by simp only [hU,List.length_set]))) fun a hf=>zD θ he hi hf 12 rfl rfl rfl hc
       ·intro E θ a w hD hi hp he hc
        have e2:=hp.o 2 rfl
        have hf:=he.h0.mP he 12 rfl e2
        refine zE hf hc rfl (bF aDl rfl (jA (sz:=1) (i:=xv.toNat) (j:=0) m8 db (by subst a9; rfl))) fun a w hf hc=>zD θ he hi hf 13 rfl rfl rfl hc
       ·intro E θ a w hD hi hp he hc
        have hf:=he.h0.mT he 7 rfl
        refine sp 1 hf rfl fun a hf=>zD θ he hi hf 14 rfl rfl rfl hc
       ·intro E θ a w hD hi hp he hc
        have e3:=hp.o 3 rfl
        have e4:=hp.o 4 rfl
        have hf:=(he.h0.mP he 13 rfl e3).mP he 14 rfl e4
        refine zE hf hc rfl (eLk (enc:=Value.bool) (z0:=false) (m:=(lkA bx)) (alS (aJg m9 (vL bb a9))) Tryz.underlying223 Tryz.underlying3 zr_4 rfl rfl) fun a w hf hc=>?_
        rw [b8] at hf
        exact zD θ he hi hf 15 rfl rfl rfl hc
       ·intro E θ a w hD hi hp he hc
        have e5:=hp.o 5 rfl
        have hf:=he.h0.mP he 15 rfl e5
        refine sp 1 hf rfl fun a hf=>zD θ he hi hf 16 rfl rfl rfl hc
       ·intro E θ a w hD hi hp he hc
        have e6:=hp.o 6 rfl
        have hf:=(he.h0.mT he 0 rfl).mP he 16 rfl e6
        refine stS hf rfl rfl rfl fun a hf=>zD θ he hi hf 17 rfl rfl rfl hc
       ·intro E θ a w hD hi hp he hc
        have e6:=hp.o 6 rfl
        have hf:=(he.h0.mT he 5 rfl).mP he 16 rfl e6
        refine stS hf rfl rfl rfl fun a hf=>zD θ he hi hf 18 rfl rfl rfl hc
       ·intro E θ a w hD hi hp he hc
        have e6:=hp.o 6 rfl
        have hf:=(he.h0.mT he 7 rfl).mP he 16 rfl e6
        refine stS hf rfl rfl rfl fun a hf=>zD θ he hi hf 19 rfl rfl rfl hc
       ·intro E θ a w hD hi hp he hc
        have e6:=hp.o 6 rfl
        have e7:=hp.o 7 rfl
        have hf:=(he.h0.mP he 16 rfl e6).mP he 17 rfl e7
        refine stS hf rfl rfl rfl fun a hf=>zD θ he hi hf 20 rfl rfl rfl hc
       ·intro E θ a w hD hi hp he hc
        have e6:=hp.o 6 rfl
        have a4:=hp.o 10 rfl
        have hf:=(he.h0.mP he 16 rfl e6).mP he 20 rfl a4
        refine stS hf rfl rfl rfl fun a hf=>zD θ he hi hf 21 rfl rfl rfl hc
       ·intro E θ a w hD hi hp he hc
        have e6:=hp.o 6 rfl
        have e8:=hp.o 8 rfl
        have a0:=hp.o 11 rfl
        have hf:=((he.h0.mP he 16 rfl e6).mP he 18 rfl e8).mP he 21 rfl a0
        refine stS hf rfl rfl rfl fun a hf=>zD θ he hi hf 22 rfl rfl rfl hc
       ·intro E θ a w hD hi hp he hc
        have e6:=hp.o 6 rfl
        have e9:=hp.o 9 rfl
        have a2:=hp.o 12 rfl
        have hf:=((he.h0.mP he 16 rfl e6).mP he 19 rfl e9).mP he 22 rfl a2
        refine stS hf rfl rfl rfl fun a hf=>zD θ he hi hf 23 rfl rfl rfl hc
       ·intro E θ a w hD hi hp he hc
        have e6:=hp.o 6 rfl
        have a3:=hp.o 13 rfl
        have hf:=(he.h0.mP he 16 rfl e6).mP he 23 rfl a3
        refine stS hf rfl rfl rfl fun a hf=>zD θ he hi hf 24 rfl rfl rfl hc
       ·intro E θ a w hD hi hp he hc
        have e6:=hp.o 6 rfl
        have hf:=(he.h0.mT he 0 rfl).mP he 16 rfl e6
        refine stS hf rfl rfl rfl fun a hf=>zD θ he hi hf 25 rfl rfl rfl hc
       ·intro E θ a w hD hi hp he hc
        have e6:=hp.o 6 rfl
        have hf:=(he.h0.mT he 5 rfl).mP he 16 rfl e6
        refine stS hf rfl rfl rfl fun a hf=>zD θ he hi hf 26 rfl rfl rfl hc
       ·intro E θ a w hD hi hp he hc
        have e6:=hp.o 6 rfl
        have hf:=(he.h0.mT he 6 rfl).mP he 16 rfl e6
        refine stS hf rfl rfl rfl fun a hf=>zD θ he hi hf 27 rfl rfl rfl hc
       ·intro E θ a w hD hi hp he hc
        have e6:=hp.o 6 rfl
        have bd:=hp.o 15 rfl
        have hf:=(he.h0.mP he 16 rfl e6).mP he 25 rfl bd
        refine stS hf rfl rfl rfl fun a hf=>zD θ he hi hf 28 rfl rfl rfl hc
       ·intro E θ a w hD hi hp he hc
        have e6:=hp.o 6 rfl
        have bi:=hp.o 18 rfl
        have hf:=(he.h0.mP he 16 rfl e6).mP he 28 rfl bi
        refine stS hf rfl rfl rfl fun a hf=>zD θ he hi hf 29 rfl rfl rfl hc
       ·intro E θ a w hD hi hp he hc
        have e6:=hp.o 6 rfl
        have bm:=hp.o 16 rfl
        have bf:=hp.o 19 rfl
        have hf:=((he.h0.mP he 16 rfl e6).mP he 26 rfl bm).mP he 29 rfl bf
        refine stS hf rfl rfl rfl fun a hf=>zD θ he hi hf 30 rfl rfl rfl hc
       ·intro E θ a w hD hi hp he hc
        have e6:=hp.o 6 rfl
        have bc:=hp.o 17 rfl
        have bk:=hp.o 20 rfl
        have hf:=((he.h0.mP he 16 rfl e6).mP he 27 rfl bc).mP he 30 rfl bk
        refine stS hf rfl rfl rfl fun a hf=>zD θ he hi hf 31 rfl rfl rfl hc
       ·intro E θ a w hD hi hp he hc
        have e6:=hp.o 6 rfl
        have bg:=hp.o 21 rfl
        have hf:=(he.h0.mP he 16 rfl e6).mP he 31 rfl bg
        refine stS hf rfl rfl rfl fun a hf=>zD θ he hi hf 32 rfl rfl rfl hc
       ·intro E θ a w hD hi hp he hc
        have e6:=hp.o 6 rfl
        have a1:=hp.o 14 rfl
        have bn:=hp.o 22 rfl
        have hf:=((he.h0.mP he 16 rfl e6).mP he 24 rfl a1).mP he 32 rfl bn
        refine stS hf rfl rfl rfl fun a hf=>zD θ he hi hf 33 rfl rfl rfl hc
       ·intro E θ a w hD hi hp he hc
        have e6:=hp.o 6 rfl
        have bp:=hp.o 23 rfl
        have hf:=(he.h0.mP he 16 rfl e6).mP he 33 rfl bp
        refine sp 1 hf rfl fun a hf=>zD θ he hi hf 34 rfl rfl rfl hc
       ·intro E θ a w n he hc
        have hf:=he.h0
        have e7:=n 7 rfl
        have e8:=n 8 rfl
        have e9:=n 9 rfl
        have a4:=n 10 rfl
        have a0:=n 11 rfl
        have a2:=n 12 rfl
        have a3:=n 13 rfl
        have a1:=n 14 rfl
        have bd:=n 15 rfl
        have bm:=n 16 rfl
        have bc:=n 17 rfl
        have bi:=n 18 rfl
        have bf:=n 19 rfl
        have bk:=n 20 rfl
        have bg:=n 21 rfl
        have bn:=n 22 rfl
        have bp:=n 23 rfl
        have b4:=n 24 rfl
        replace hf:=hf.more he 34 rfl (onP b4)
        replace hf:=hf.more he 33 rfl (onP bp)
        replace hf:=hf.more he 32 rfl (onP bn)
        replace hf:=hf.more he 31 rfl (onP bg)
        replace hf:=hf.more he 30 rfl (onP bk)
        replace hf:=hf.more he 29 rfl (onP bf)
        replace hf:=hf.more he 28 rfl (onP bi)
        replace hf:=hf.more he 27 rfl (onP bc)
        replace hf:=hf.more he 26 rfl (onP bm)
        replace hf:=hf.more he 25 rfl (onP bd)
        replace hf:=hf.more he 24 rfl (onP a1)
        replace hf:=hf.more he 23 rfl (onP a3)
        replace hf:=hf.more he 22 rfl (onP a2)
        replace hf:=hf.more he 21 rfl (onP a0)
        replace hf:=hf.more he 20 rfl (onP a4)
        replace hf:=hf.more he 19 rfl (onP e9)
        replace hf:=hf.more he 18 rfl (onP e8)
        replace hf:=hf.more he 17 rfl (onP e7)
        replace hf:=hf.more he 9 rfl (onT)
        replace hf:=hf.more he 8 rfl (onT)
        replace hf:=hf.more he 7 rfl (onT)
        replace hf:=hf.more he 6 rfl (onT)
        replace hf:=hf.more he 5 rfl (onT)
        replace hf:=hf.more he 4 rfl (onT)
        replace hf:=hf.more he 3 rfl (onT)
        replace hf:=hf.more he 2 rfl (onT)
        replace hf:=hf.more he 1 rfl (onT)
        replace hf:=hf.more he 0 rfl (onT)
        exact ⟨hf.kp rfl,hc⟩
       rintro a w ⟨hf,hc⟩
       refine jV ?_
       obtain rfl:=sj hF
       exact ⟨hf.kp rfl,hc⟩
      ·replace hF:=fU hb hF
       try rw [hb] at hf
       try rw [hb] at hc
       have b8:=hb
       clear hb
       obtain ⟨c3,dc⟩:=nA hc m8 (iU bb)
       obtain ⟨d5,an,hF⟩:=aA hF
       obtain ⟨d8,a7,hF⟩:=aA hF
       obtain ⟨d9,a8,hF⟩:=aA hF
       refine aEi (fun _ _ h=>h) rfl (fun θ=>(⟨none,none,1,pq b_⟩::⟨none,none,2,pq R⟩::⟨none,none,3,pq H⟩::⟨none,none,4,pq O⟩::⟨none,none,5,pq I⟩::⟨none,none,7,pq ac⟩::⟨none,none,8,i6 q⟩::⟨none,none,9,i6 ag⟩::⟨none,none,47,i6 ((x.Roster.People.length:Nat):Int)⟩::⟨none,none,48,i6 ag⟩::⟨some 0,none,51,.slice (some ⟨p,0,none⟩) ((D.set xv.toNat (some (gK mm p_ true))).length) B.1⟩::⟨some 1,none,52,i6 xv⟩::⟨some 2,none,53,.pointer (some ⟨p,xv.toNat * 1,none⟩)⟩::⟨some 3,none,54,.map (some ((B.2 xv.toNat).2))⟩::⟨some 4,none,55,i6 ag⟩::⟨some 5,none,56,.bool true⟩::⟨some 6,none,57,.bool true⟩::⟨some 7,none,58,pq X⟩::⟨some 8,none,59,i6 xv⟩::⟨some 9,none,60,i6 ag⟩::⟨some 10,none,61,pq X⟩::⟨some 11,none,62,.pointer (some ⟨X,0 + 2,none⟩)⟩::⟨some 12,none,63,.pointer (some ⟨X,0 + 2 + xv.toNat * 12,none⟩)⟩::⟨some 13,none,64,.pointer (some ⟨X,0 + 2 + (xv * 12 + ag).toNat * 1,none⟩)⟩::⟨some 14,none,65,i6 (x.rank (xv * 12 + ag).toNat)⟩::⟨some 15,none,66,pq X⟩::⟨some 16,none,67,i6 xv⟩::⟨some 17,none,68,i6 q⟩::⟨some 18,none,69,pq X⟩::⟨some 19,none,70,.pointer (some ⟨X,0 + 2,none⟩)⟩::⟨some 20,none,71,.pointer (some ⟨X,0 + 2 + xv.toNat * 12,none⟩)⟩::⟨some 21,none,72,.pointer (some ⟨X,0 + 2 + (xv * 12 + q).toNat * 1,none⟩)⟩::⟨some 22,none,73,i6 (x.rank (xv * 12 + q).toNat)⟩::⟨some 23,none,74,.bool (decide ((x.rank (xv * 12 + q).toNat) < (x.rank (xv * 12 + ag).toNat)))⟩::⟨some 24,none,75,.bool (decide ((x.rank (xv * 12 + q).toNat) < (x.rank (xv * 12 + ag).toNat)))⟩::[])) (fun E θ=>.box ac [i6 xv] 3::.box aa [i6 p_] 3::.box b_ [pq X] 166::.box R [.slice d V.length Z] 99::.row d Z (V.map aF) 86 2::.box H [.slice (some ⟨g,0,none⟩) ((U.set p_.toNat xv).length) Y] 25::.row (some ⟨g,0,none⟩) Y ((U.set p_.toNat xv).map aD) 3 1::.box O [.slice (some ⟨p,0,none⟩) ((D.set xv.toNat (some (gK mm p_ true))).length) B.1] 222::.row (some ⟨p,0,none⟩) B.1 ((aK B.2 (D.set xv.toNat (some (gK mm p_ true)))).map (Kd.v bD)) 223 1::bZ bD (aK B.2 (D.set xv.toNat (some (gK mm p_ true))))::.box I [.func (.func 163) #[] #[pq b_,pq R,pq H,pq O,pq I]] 213::Lb) [] (fun a w=>Has 95 a [(1,pq b_),(2,pq R),(3,pq H),(4,pq O),(5,pq I),(7,pq ac),(8,i6 q),(9,i6 ag),(47,i6 ((x.Roster.People.length:Nat):Int)),(48,i6 ag),(58,pq X),(59,i6 xv),(60,i6 ag),(61,pq X),(62,.pointer (some ⟨X,0 + 2,none⟩)),(63,.pointer (some ⟨X,0 + 2 + xv.toNat * 12,none⟩)),(64,.pointer (some ⟨X,0 + 2 + (xv * 12 + ag).toNat * 1,none⟩)),(65,i6 (x.rank (xv * 12 + ag).toNat)),(66,pq X),(67,i6 xv),(68,i6 q),(69,pq X),(70,.pointer (some ⟨X,0 + 2,none⟩)),(71,.pointer (some ⟨X,0 + 2 + xv.toNat * 12,none⟩)),(72,.pointer (some ⟨X,0 + 2 + (xv * 12 + q).toNat * 1,none⟩)),(73,i6 (x.rank (xv * 12 + q).toNat)),(74,.bool (decide ((x.rank (xv * 12 + q).toNat) < (x.rank (xv * 12 + ag).toNat)))),(75,.bool (decide ((x.rank (xv * 12 + q).toNat) < (x.rank (xv * 12 + ag).toNat))))]∧Ctx G (.box ac [i6 xv] 3::.box aa [i6 p_] 3::.box b_ [pq X] 166::.box R [.slice d V.length Z] 99::.row d Z (V.map aF) 86 2::.box H [.slice (some ⟨g,0,none⟩) ((U.set p_.toNat xv).length) Y] 25::.row (some ⟨g,0,none⟩) Y ((U.set p_.toNat xv).map aD) 3 1::.box O [.slice (some ⟨p,0,none⟩) ((D.set xv.toNat (some (gK mm p_ true))).length) B.1] 222::.row (some ⟨p,0,none⟩) B.1 ((aK B.2 (D.set xv.toNat (some (gK mm p_ true)))).map (Kd.v bD)) 223 1::bZ bD (aK B.2 (D.set xv.toNat (some (gK mm p_ true))))::.box I [.func (.func 163) #[] #[pq b_,pq R,pq H,pq O,pq I]] 213::Lb) w) aT (by kernel_rfl) (by kernel_rfl) (iT.of hf ⟨rfl,rfl,rfl,rfl,rfl,rfl,rfl,rfl,rfl,rfl,trivial,trivial,trivial,trivial,trivial,trivial,trivial,trivial,trivial,trivial,trivial,trivial,trivial,trivial,trivial,trivial,trivial,trivial,trivial,trivial,trivial,trivial,trivial,trivial,trivial,trivial⟩) hc ⟨?_,?_,?_,?_,?_,?_,?_,?_,?_,?_,?_,?_,?_,?_,?_,?_,?_,?_,?_,?_,?_,?_,?_,?_,?_,trivial⟩ ?_ ?_
       ·intro E θ a w hD hi hp he hc
        have hf:=he.h0.mT he 3 rfl
        refine zL hf hc yW m7 rfl fun a w hf hc=>zD θ he hi hf 10 rfl rfl rfl hc
       ·intro E θ a w hD hi hp he hc
        have hf:=he.h0.mT he 5 rfl
        refine zL hf hc bG m0 rfl fun a w hf hc=>zD θ he hi hf 11 rfl rfl rfl hc
       ·intro E θ a w hD hi hp he hc
        have e0:=hp.o 0 rfl
        have e1:=hp.o 1 rfl
        have hf:=(he.h0.mP he 10 rfl e0).mP he 11 rfl e1
        refine zP hf rfl (pIA Tryz.underlying222 yO rfl rfl (At.len c3 (by simp only [hU,List.length_set]))) fun a hf=>zD θ he hi hf 12 rfl rfl rfl hc
       ·intro E θ a w hD hi hp he hc
        have e2:=hp.o 2 rfl
        have hf:=he.h0.mP he 12 rfl e2
        refine zE hf hc rfl (bF aDl rfl (jA (sz:=1) (i:=xv.toNat) (j:=0) m8 dc (by subst a9; rfl))) fun a w hf hc=>zD θ he hi hf 13 rfl rfl rfl hc
       ·intro E θ a w hD hi hp he hc
        have hf:=he.h0.mT he 7 rfl
        refine sp 1 hf rfl fun a hf=>zD θ he hi hf 14 rfl rfl rfl hc
       ·intro E θ a w hD hi hp he hc
        have e3:=hp.o 3 rfl
        have e4:=hp.o 4 rfl
        have hf:=(he.h0.mP he 13 rfl e3).mP he 14 rfl e4
        refine zE hf hc rfl (eLk (enc:=Value.bool) (z0:=false) (m:=(lkA bx)) (alS (aJg m9 (vL bb a9))) Tryz.underlying223 Tryz.underlying3 zr_4 rfl rfl) fun a w hf hc=>?_
        rw [b8] at hf
        exact zD θ he hi hf 15 rfl rfl rfl hc
       ·intro E θ a w hD hi hp he hc
        have e5:=hp.o 5 rfl
        have hf:=he.h0.mP he 15 rfl e5
        refine sp 1 hf rfl fun a hf=>zD θ he hi hf 16 rfl rfl rfl hc
       ·intro E θ a w hD hi hp he hc
        have e6:=hp.o 6 rfl
        have hf:=(he.h0.mT he 0 rfl).mP he 16 rfl e6
        refine zL hf hc mZ m2 rfl fun a w hf hc=>zD θ he hi hf 17 rfl rfl rfl hc
       ·intro E θ a w hD hi hp he hc
        have e6:=hp.o 6 rfl
        have hf:=(he.h0.mT he 5 rfl).mP he 16 rfl e6
        refine zL hf hc bG m0 rfl fun a w hf hc=>zD θ he hi hf 18 rfl rfl rfl hc
       ·intro E θ a w hD hi hp he hc
        have e6:=hp.o 6 rfl
        have hf:=(he.h0.mT he 7 rfl).mP he 16 rfl e6
        refine sp 1 hf rfl fun a hf=>zD θ he hi hf 19 rfl rfl rfl hc
       ·intro E θ a w hD hi hp he hc
        have e6:=hp.o 6 rfl
        have e7:=hp.o 7 rfl
        have hf:=(he.h0.mP he 16 rfl e6).mP he 17 rfl e7
        refine sp 1 hf rfl fun a hf=>zD θ he hi hf 20 rfl rfl rfl hc
       ·intro E θ a w hD hi hp he hc
        have e6:=hp.o 6 rfl
        have a4:=hp.o 10 rfl
        have hf:=(he.h0.mP he 16 rfl e6).mP he 20 rfl a4
        refine zP hf rfl (pFA rO rfl) fun a hf=>zD θ he hi hf 21 rfl rfl rfl hc
       ·intro E θ a w hD hi hp he hc
        have e6:=hp.o 6 rfl
        have e8:=hp.o 8 rfl
        have a0:=hp.o 11 rfl
        have hf:=((he.h0.mP he 16 rfl e6).mP he 18 rfl e8).mP he 21 rfl a0
        refine zP hf rfl (sV Tryz.underlying179 xO rfl rfl (bJ an).1 (bJ an).2) fun a hf=>zD θ he hi hf 22 rfl rfl rfl hc
       ·intro E θ a w hD hi hp he hc
        have e6:=hp.o 6 rfl
        have e9:=hp.o 9 rfl
        have a2:=hp.o 12 rfl
        have hf:=((he.h0.mP he 16 rfl e6).mP he 19 rfl e9).mP he 22 rfl a2
        refine zP hf rfl (Pu.cast (sV Tryz.underlying178 eH rfl rfl (bJ a7).1 (bJ a7).2) (congrArg (fun k=>Value.pointer (some ⟨X,k,none⟩)) (rX (M:=12) (0 + 2) an a7 rfl))) fun a hf=>zD θ he hi hf 23 rfl rfl rfl hc
       ·intro E θ a w hD hi hp he hc
        have e6:=hp.o 6 rfl
        have a3:=hp.o 13 rfl
        have hf:=(he.h0.mP he 16 rfl e6).mP he 23 rfl a3
        refine zE hf hc rfl (bF bG rfl (tI (j:=0) am (fun x=>(bP x).1) rfl (aGe an a7 rfl) rfl)) fun a w hf hc=>zD θ he hi hf 24 rfl rfl rfl hc
       ·intro E θ a w hD hi hp he hc
        have e6:=hp.o 6 rfl
        have hf:=(he.h0.mT he 0 rfl).mP he 16 rfl e6
        refine zL hf hc mZ m2 rfl fun a w hf hc=>zD θ he hi hf 25 rfl rfl rfl hc
       ·intro E θ a w hD hi hp he hc
        have e6:=hp.o 6 rfl
        have hf:=(he.h0.mT he 5 rfl).mP he 16 rfl e6
        refine zL hf hc bG m0 rfl fun a w hf hc=>zD θ he hi hf 26 rfl rfl rfl hc
       ·intro E θ a w hD hi hp he hc
        have e6:=hp.o 6 rfl
        have hf:=(he.h0.mT he 6 rfl).mP he 16 rfl e6
        refine sp 1 hf rfl fun a hf=>zD θ he hi hf 27 rfl rfl rfl hc
       ·intro E θ a w hD hi hp he hc
        have e6:=hp.o 6 rfl
        have bd:=hp.o 15 rfl
        have hf:=(he.h0.mP he 16 rfl e6).mP he 25 rfl bd
        refine sp 1 hf rfl fun a hf=>zD θ he hi hf 28 rfl rfl rfl hc
       ·intro E θ a w hD hi hp he hc
        have e6:=hp.o 6 rfl
        have bi:=hp.o 18 rfl
        have hf:=(he.h0.mP he 16 rfl e6).mP he 28 rfl bi
        refine zP hf rfl (pFA rO rfl) fun a hf=>zD θ he hi hf 29 rfl rfl rfl hc
       ·intro E θ a w hD hi hp he hc
        have e6:=hp.o 6 rfl
        have bm:=hp.o 16 rfl
        have bf:=hp.o 19 rfl
        have hf:=((he.h0.mP he 16 rfl e6).mP he 26 rfl bm).mP he 29 rfl bf
        refine zP hf rfl (sV Tryz.underlying179 xO rfl rfl (bJ an).1 (bJ an).2) fun a hf=>zD θ he hi hf 30 rfl rfl rfl hc
       ·intro E θ a w hD hi hp he hc
        have e6:=hp.o 6 rfl
        have bc:=hp.o 17 rfl
        have bk:=hp.o 20 rfl
        have hf:=((he.h0.mP he 16 rfl e6).mP he 27 rfl bc).mP he 30 rfl bk
        refine zP hf rfl (Pu.cast (sV Tryz.underlying178 eH rfl rfl (bJ a8).1 (bJ a8).2) (congrArg (fun k=>Value.pointer (some ⟨X,k,none⟩)) (rX (M:=12) (0 + 2) an a8 rfl))) fun a hf=>zD θ he hi hf 31 rfl rfl rfl hc
       ·intro E θ a w hD hi hp he hc
        have e6:=hp.o 6 rfl
        have bg:=hp.o 21 rfl
        have hf:=(he.h0.mP he 16 rfl e6).mP he 31 rfl bg
        refine zE hf hc rfl (bF bG rfl (tI (j:=0) am (fun x=>(bP x).1) rfl (aGe an a8 rfl) rfl)) fun a w hf hc=>zD θ he hi hf 32 rfl rfl rfl hc
       ·intro E θ a w hD hi hp he hc
        have e6:=hp.o 6 rfl
        have a1:=hp.o 14 rfl
        have bn:=hp.o 22 rfl
        have hf:=((he.h0.mP he 16 rfl e6).mP he 24 rfl a1).mP he 32 rfl bn
        refine sp 1 hf rfl fun a hf=>zD θ he hi hf 33 rfl rfl rfl hc
       ·intro E θ a w hD hi hp he hc
        have e6:=hp.o 6 rfl
        have bp:=hp.o 23 rfl
        have hf:=(he.h0.mP he 16 rfl e6).mP he 33 rfl bp
        refine sp 1 hf rfl fun a hf=>zD θ he hi hf 34 rfl rfl rfl hc
       ·intro E θ a w n he hc
        have hf:=he.h0
        have e7:=n 7 rfl
        have e8:=n 8 rfl
        have e9:=n 9 rfl
        have a4:=n 10 rfl
        have a0:=n 11 rfl
        have a2:=n 12 rfl
        have a3:=n 13 rfl
        have a1:=n 14 rfl
        have bd:=n 15 rfl
        have bm:=n 16 rfl
        have bc:=n 17 rfl
        have bi:=n 18 rfl
        have bf:=n 19 rfl
        have bk:=n 20 rfl
        have bg:=n 21 rfl
        have bn:=n 22 rfl
        have bp:=n 23 rfl
        have b4:=n 24 rfl
        replace hf:=hf.more he 34 rfl (onP b4)
        replace hf:=hf.more he 33 rfl (onP bp)
        replace hf:=hf.more he 32 rfl (onP bn)
        replace hf:=hf.more he 31 rfl (onP bg)
        replace hf:=hf.more he 30 rfl (onP bk)
        replace hf:=hf.more he 29 rfl (onP bf)
        replace hf:=hf.more he 28 rfl (onP bi)
        replace hf:=hf.more he 27 rfl (onP bc)
        replace hf:=hf.more he 26 rfl (onP bm)
        replace hf:=hf.more he 25 rfl (onP bd)
        replace hf:=hf.more he 24 rfl (onP a1)
        replace hf:=hf.more he 23 rfl (onP a3)
        replace hf:=hf.more he 22 rfl (onP a2)
        replace hf:=hf.more he 21 rfl (onP a0)
        replace hf:=hf.more he 20 rfl (onP a4)
        replace hf:=hf.more he 19 rfl (onP e9)
        replace hf:=hf.more he 18 rfl (onP e8)
        replace hf:=hf.more he 17 rfl (onP e7)
        replace hf:=hf.more he 9 rfl (onT)
        replace hf:=hf.more he 8 rfl (onT)
        replace hf:=hf.more he 7 rfl (onT)
        replace hf:=hf.more he 6 rfl (onT)
        replace hf:=hf.more he 5 rfl (onT)
        replace hf:=hf.more he 4 rfl (onT)
        replace hf:=hf.more he 3 rfl (onT)
        replace hf:=hf.more he 2 rfl (onT)
        replace hf:=hf.more he 1 rfl (onT)
        replace hf:=hf.more he 0 rfl (onT)
        exact ⟨hf.kp rfl,hc⟩
       rintro a w ⟨hf,hc⟩
       refine jV ?_
       obtain rfl:=sj hF
       exact ⟨hf.kp rfl,hc⟩
     rintro a w ⟨hf,hc⟩
     refine ds _ _ ?_
     refine aFo (b:=rg) hf rfl (fun hb=>?_) (fun hb=>?_)
     ·replace hF:=fU hb hF
      clear hb
      refine wF (fun _ _ h=>h) rfl ?_
      refine sp 2 hf rfl fun a hf=>aL ?_
      exact ca ag _ _  (hf.kp rfl) hc hF
     ·replace hF:=gN hb hF
      clear hb
      refine aFn ?_
      exact ca q _ _  (hf.kp rfl) hc hF
    ·replace hF:=gN hb hF
     clear hb
     refine aLi ?_
     refine aN ?_
     refine aN ?_
     have he:=sj hF
     rw [← he] at bu
     refine cT ?_
     exact dd _ _ _ bu ⟨hf.kp rfl,hc⟩
 ·rintro D_1 ⟨V,U,D⟩ _ a w b5 ⟨d,Z,ad,Y,af,B,rfl⟩ hf hc
  replace hf:Has ⟨95,tR (D_1::[])⟩ a [(1,pq b_),(2,pq R),(3,pq H),(4,pq O),(5,pq I),(6,pq aa)]:=hf.kp rfl
  replace hc:Ctx G (.box br [pq X] 166::.box bq [i6 r.1] 3::.box bs [i6 r.2] 3::.box aa [i6 p_] 3::.box b_ [pq X] 166::.box R [.slice d V.length Z] 99::.row d Z (V.map aF) 86 2::.box H [.slice ad U.length Y] 25::.row ad Y (U.map aD) 3 1::.box O [.slice af D.length B.1] 222::.row af B.1 ((aK B.2 D).map (Kd.v bD)) 223 1::bZ bD (aK B.2 D)::.box I [.func (.func 163) #[] #[pq b_,pq R,pq H,pq O,pq I]] 213::(yC (D_1::[])++Lf)) w:=aA4 (C:=[.box br [pq X] 166,.box bq [i6 r.1] 3,.box bs [i6 r.2] 3]) (L:=[.box aa [i6 p_] 3,.box b_ [pq X] 166,.box R [.slice d V.length Z] 99,.row d Z (V.map aF) 86 2,.box H [.slice ad U.length Y] 25,.row ad Y (U.map aD) 3 1,.box O [.slice af D.length B.1] 222,.row af B.1 ((aK B.2 D).map (Kd.v bD)) 223 1,bZ bD (aK B.2 D),.box I [.func (.func 163) #[] #[pq b_,pq R,pq H,pq O,pq I]] 213]) hc
  replace hF:(some (V,U,D))=some ay:=by rcases b5 with rfl | rfl <;> exact hF
  obtain rfl:=sj hF
  replace hc:=(((((((((((hc.drop k3).drop k2).drop k1).drop k0).pick k5).pick k4).pick k3).pick k3).pick k7).pick k7).pick k7).pick k7
  refine aC3 hf ?_
  refine aGb [.row d Z (V.map aF) 86 2,.row ad Y (U.map aD) 3 1,.row af B.1 ((aK B.2 D).map (Kd.v bD)) 223 1,bZ bD (aK B.2 D),.box b_ [pq X] 166,.box R [.slice d V.length Z] 99,.box H [.slice ad U.length Y] 25,.box O [.slice af D.length B.1] 222,.box I [.func (.func 163) #[] #[pq b_,pq R,pq H,pq O,pq I]] 213] (D_1::[]) hc fun w hc=>?_
  replace hc:Ctx G (.row d Z (V.map aF) 86 2::.row ad Y (U.map aD) 3 1::.row af B.1 ((aK B.2 D).map (Kd.v bD)) 223 1::bZ bD (aK B.2 D)::.box b_ [pq X] 166::.box R [.slice d V.length Z] 99::.box H [.slice ad U.length Y] 25::.box O [.slice af D.length B.1] 222::.box I [.func (.func 163) #[] #[pq b_,pq R,pq H,pq O,pq I]] 213::Lf) w:=hc
  exact aNe Tryz.results163 ⟨d,Z,ad,Y,af,B,rfl,hc⟩
 ·rintro D_1 ⟨V,U,D⟩ _ a w b5 ⟨d,Z,ad,Y,af,B,rfl⟩ hf hc
  replace hf:Has ⟨95,tR (D_1::[])⟩ a [(1,pq b_),(2,pq R),(3,pq H),(4,pq O),(5,pq I),(6,pq aa)]:=hf.kp rfl
  replace hc:Ctx G (.box br [pq X] 166::.box bq [i6 r.1] 3::.box bs [i6 r.2] 3::.box aa [i6 p_] 3::.box b_ [pq X] 166::.box R [.slice d V.length Z] 99::.row d Z (V.map aF) 86 2::.box H [.slice ad U.length Y] 25::.row ad Y (U.map aD) 3 1::.box O [.slice af D.length B.1] 222::.row af B.1 ((aK B.2 D).map (Kd.v bD)) 223 1::bZ bD (aK B.2 D)::.box I [.func (.func 163) #[] #[pq b_,pq R,pq H,pq O,pq I]] 213::(yC (D_1::[])++Lf)) w:=aA4 (C:=[.box br [pq X] 166,.box bq [i6 r.1] 3,.box bs [i6 r.2] 3]) (L:=[.box aa [i6 p_] 3,.box b_ [pq X] 166,.box R [.slice d V.length Z] 99,.row d Z (V.map aF) 86 2,.box H [.slice ad U.length Y] 25,.row ad Y (U.map aD) 3 1,.box O [.slice af D.length B.1] 222,.row af B.1 ((aK B.2 D).map (Kd.v bD)) 223 1,bZ bD (aK B.2 D),.box I [.func (.func 163) #[] #[pq b_,pq R,pq H,pq O,pq I]] 213]) hc
  replace hF:(some (V,U,D))=some ay:=by subst b5; exact hF
  obtain rfl:=sj hF
  replace hc:=(((((((((((hc.drop k3).drop k2).drop k1).drop k0).pick k5).pick k4).pick k3).pick k3).pick k7).pick k7).pick k7).pick k7
  refine aC3 hf ?_
  refine aGb [.row d Z (V.map aF) 86 2,.row ad Y (U.map aD) 3 1,.row af B.1 ((aK B.2 D).map (Kd.v bD)) 223 1,bZ bD (aK B.2 D),.box b_ [pq X] 166,.box R [.slice d V.length Z] 99,.box H [.slice ad U.length Y] 25,.box O [.slice af D.length B.1] 222,.box I [.func (.func 163) #[] #[pq b_,pq R,pq H,pq O,pq I]] 213] (D_1::[]) hc fun w hc=>?_
  replace hc:Ctx G (.row d Z (V.map aF) 86 2::.row ad Y (U.map aD) 3 1::.row af B.1 ((aK B.2 D).map (Kd.v bD)) 223 1::bZ bD (aK B.2 D)::.box b_ [pq X] 166::.box R [.slice d V.length Z] 99::.box H [.slice ad U.length Y] 25::.box O [.slice af D.length B.1] 222::.box I [.func (.func 163) #[] #[pq b_,pq R,pq H,pq O,pq I]] 213::Lf) w:=hc
  exact aNe Tryz.results163 ⟨d,Z,ad,Y,af,B,rfl,hc⟩

def dU (N:Nat) (w_:aV) (B:Int) (I:List Int) (J:List aC) (H:List (Option (List (Int × Bool)))):Option (bK (Int × (List Int) × (List aC) × (List (Option (List (Int × Bool))))) ((List Int) × (List aC))) :=
 cond (decide (B < ((w_.Roster.People.length:Nat):Int)))
 (Option.bind (cP N B w_ J I H) fun D=>
 some (.cont (W (B + 1),D.2.1,D.1,D.2.2)))
 (some (.brk (B,I,J,H)))
def dL (N:Nat) (w_:aV) (x:Int) (B:List (Option (List (Int × Bool)))):Option (bK (Int × (List (Option (List (Int × Bool))))) ((List Int) × (List aC))) :=
 cond (decide (x < (((List.replicate ((w_.Roster.Stations.length:Nat):Int).toNat (none:Option (List (Int × Bool)))).length:Nat):Int)))
 (Option.bind (aU B x) fun D=>
 some (.cont (W (x + 1),(B.set x.toNat (some ([]:List (Int × Bool)))))))
 (some (.brk (x,B)))
def kH (N:Nat) (w_:aV):Option ((List Int) × (List aC)) :=
 Option.bind (inM ((w_.Roster.Stations.length:Nat):Int)) fun un=>
 Option.bind (aS (fun s5=>dL N w_ s5.1 s5.2) N (0,(List.replicate ((w_.Roster.Stations.length:Nat):Int).toNat (none:Option (List (Int × Bool)))))) fun x5=>
 exK x5 (fun s5=>Option.bind (aZ N ([(-1)]:List Int) ((w_.Roster.People.length:Nat):Int)) fun r=>
 Option.bind (aS (fun B=>dU N w_ B.1 B.2.1 B.2.2.1 B.2.2.2) N (0,r,([]:List aC),s5.2)) fun D=>
 exK D (fun B=>some (B.2.1,B.2.2.1)) some) some
theorem sM {N:Nat} {G:aQ} {Lf:List Ent} {w:World} (w_:aV) {b_:Nat} {I:Option Addr} {J:Nat} {D:Option Addr} {B:Nat} (U:RdT aM G 1 I J w_.Roster.People) (R:RdT bA G 2 D B w_.Roster.Stations) (V:PC G b_ 0 (vT [.slice I w_.Roster.People.length J,.slice D w_.Roster.Stations.length B] 144 aD w_.rank [])) (hc:Ctx G (Lf) w) {b:(List Int) × (List aC)} (hF:kH N w_=some b):Calls Tryz.prog 106 #[pq b_] w (fun e w=>∃ (ap:Option Addr) (ar:Nat) (am:Option Addr) (au:Nat),e=.returned (.tuple #[.slice ap b.1.length ar,.slice am b.2.length au])∧Ctx G (.row ap ar (b.1.map aD) 3 1::.row am au (b.2.map aF) 86 2::Lf) w):=by
 unfold kH at hF
 refine bN Tryz.func106 rfl Tryz.ntmps106 rfl fun a hf=>zS fun K h=>zB hf hc rfl fun X a w hf hc=>sp 2 hf rfl fun a hf=>zT h ?_
 refine zS fun K h=>zL hf hc mZ m0 rfl fun a w hf hc=>sp 1 hf rfl fun a hf=>zP hf rfl (pFA pS rfl) fun a hf=>zP hf rfl (pFA fJ rfl) fun a hf=>zE hf hc rfl (bF mR rfl (aR (j:=1) V rfl)) fun a w hf hc=>zP hf rfl (aW Tryz.underlying76 rfl) fun a hf=>?_
 obtain ⟨un,a8,hF⟩:=aA hF
 refine stMk (m:=(List.replicate ((w_.Roster.Stations.length:Nat):Int).toNat (none:Option (List (Int × Bool)))).length) (rows:=(List.replicate ((w_.Roster.Stations.length:Nat):Int).toNat (((none,0),(none:Option (List (Int × Bool)))):H2 × (Option (List (Int × Bool))))).map (Kd.v bD)) hf hc rfl rfl aN0 rfl rfl (aAh a8) rfl rfl (by simp [List.map_replicate,Value.cells,Kd.v,kM,kL,Kd.comp]) (by simp) fun aj a w hf hc=>?_
 obtain ⟨af,hc⟩:=aFh (K:=bD) (x:=(none:Option (List (Int × Bool)))) (fun _ h=>h.nilRow _ _) _ hc
 replace hc:Ctx G (.row (some ⟨aj,0,none⟩) (((w_.Roster.Stations.length:Nat):Int).toNat) ((aK af (List.replicate ((w_.Roster.Stations.length:Nat):Int).toNat (none:Option (List (Int × Bool))))).map (Kd.v bD)) 223 1::bZ bD (aK af (List.replicate ((w_.Roster.Stations.length:Nat):Int).toNat (none:Option (List (Int × Bool)))))::.box X [pq b_] 166::Lf) w:=hc
 refine zA hf hc aOd rfl fun Z a w hf hc=>zW hf hc aN6 u0 rfl fun w hc=>zT h ?_
 refine wp_seq_k fun K3 h3=>zS fun K h=>zL hf hc yW m0 rfl fun a w hf hc=>zP hf rfl (aW Tryz.underlying222 rfl) fun a hf=>sp 1 hf rfl fun a hf=>zT h ?_
 refine wp_block ?_
 obtain ⟨x5,bd,hF⟩:=aA hF
 let S5:(Int × (List (Option (List (Int × Bool)))))→Act→World→Prop:=(fun (zz:Int × (List (Option (List (Int × Bool))))) a w=>∃ (n:Option Addr) (H:vP),Has 51 a [(1,pq X),(4,pq Z),(18,i6 (((List.replicate ((w_.Roster.Stations.length:Nat):Int).toNat (none:Option (List (Int × Bool)))).length:Nat):Int)),(19,i6 zz.1)]∧Ctx G (.box Z [.slice n zz.2.length H.1] 222::.row n H.1 ((aK H.2 zz.2).map (Kd.v bD)) 223 1::bZ bD (aK H.2 zz.2)::.box X [pq b_] 166::Lf) w)
 have a9:∀ (zz:Int × (List (Option (List (Int × Bool))))) a w,x5=.go zz→S5 zz a w→K3 a w:=by
  rintro ⟨x,M⟩ a w rfl ⟨n,H,hf,hc⟩
  replace hF:=bH hF
  refine h3 _ _ ?_
  refine zS fun K h=>nU (rows:=([(-1)]:List Int).map aD) (vs:=[(0,i6 (-1))]) hf hc rfl rfl jO rfl ⟨rfl,rfl,rfl,trivial⟩ rfl rfl fun bs a w hf hc=>zL hf hc mZ m4 rfl fun a w hf hc=>sp 1 hf rfl fun a hf=>zP hf rfl (pFA pS rfl) fun a hf=>zP hf rfl (pFA iK rfl) fun a hf=>zE hf hc rfl (bF gB rfl (aR (j:=0) V rfl)) fun a w hf hc=>zP hf rfl (aW Tryz.underlying75 rfl) fun a hf=>?_
  obtain ⟨r,hr,hF⟩:=aA hF
  obtain ⟨G1,bm,ay,hc,a1⟩:=lend hc k0
  refine zC hf aOq rfl (tQ ([(-1)]:List Int) ((w_.Roster.People.length:Nat):Int) ay hc hr) ?_
  rintro _ w ⟨a4,bc,rfl,hc⟩
  refine ⟨_,rfl,fun a hf=>?_⟩
  replace hc:=a1 _ _ hc
  refine zA hf hc aM3 rfl fun ab a w hf hc=>zW hf hc kX u0 rfl fun w hc=>zT h ?_
  refine zS fun K h=>zA hf hc zr_99 rfl fun aa a w hf hc=>zT h ?_
  refine wp_seq_k fun K8 h8=>bW ?_
  refine zA hf hc aNm rfl fun t a w hf hc=>aL ?_
  replace hc:=hc.drop k3
  refine h8 _ _ ?_
  refine zS fun K h=>zP hf rfl (pMF (us:=[pq X,pq aa,pq ab,pq Z,pq t]) rfl rfl) fun a hf=>zW hf hc aOc u0 rfl fun w hc=>zT h ?_
  refine wp_seq_k fun K10 bi=>zS fun K h=>zL hf hc mZ m7 rfl fun a w hf hc=>sp 1 hf rfl fun a hf=>zP hf rfl (pFA pS rfl) fun a hf=>zP hf rfl (pFA iK rfl) fun a hf=>zE hf hc rfl (bF gB rfl (aR (j:=0) V rfl)) fun a w hf hc=>zP hf rfl (aW Tryz.underlying75 rfl) fun a hf=>sp 1 hf rfl fun a hf=>zT h ?_
  refine wp_block ?_
  obtain ⟨ad,av,hF⟩:=aA hF
  let S12:(Int × (List Int) × (List aC) × (List (Option (List (Int × Bool)))))→Act→World→Prop:=(fun (zz:Int × (List Int) × (List aC) × (List (Option (List (Int × Bool))))) a w=>∃ (o:Option Addr) (i:Nat) (k:Option Addr) (d:Nat) (s:Option Addr) (O:vP),Has 51 a [(6,pq ab),(7,pq aa),(8,pq t),(41,i6 ((w_.Roster.People.length:Nat):Int)),(42,i6 zz.1)]∧Ctx G (.row k d (zz.2.2.1.map aF) 86 2::.box t [.func (.func 163) #[] #[pq X,pq aa,pq ab,pq Z,pq t]] 213::.box aa [.slice k zz.2.2.1.length d] 99::.box ab [.slice o zz.2.1.length i] 25::.row o i (zz.2.1.map aD) 3 1::.box Z [.slice s zz.2.2.2.length O.1] 222::.row s O.1 ((aK O.2 zz.2.2.2).map (Kd.v bD)) 223 1::bZ bD (aK O.2 zz.2.2.2)::.box X [pq b_] 166::Lf) w)
  have az:∀ (zz:Int × (List Int) × (List aC) × (List (Option (List (Int × Bool))))) a w,ad=.go zz→S12 zz a w→K10 a w:=by
   rintro ⟨ac,ak,an,aq⟩ a w rfl ⟨o,i,k,d,s,O,hf,hc⟩
   replace hF:=bH hF
   refine bi _ _ ?_
   refine wp_seq_k fun K13 bb=>cQ hc aT (by kernel_rfl) ?_
   refine qE hf rfl rfl rfl (bF fB rfl (bL m3 rfl)) fun a hf=>qE hf rfl rfl rfl (bF aHh rfl (bL m2 rfl)) fun a hf=>qE hf rfl rfl rfl (Pu.ev (pA rfl)) fun a hf=>qE hf rfl rfl rfl (Pu.ev (pA rfl)) fun a hf=>?_
   intro w hc
   replace hc:=((((((hc.drop k8).drop k7).drop k6).drop k5).drop k3).drop k2).drop k1
   refine bb _ _ ?_
   refine wp_ret ?_
   obtain rfl:=sj hF
   replace hc:=(hc.pick k0).pick k1
   exact zO2 Tryz.results106 hf rfl rfl ⟨o,i,k,d,rfl,hc⟩
  have bn:∀ r,ad=.out r→r=b:=by
   rintro r rfl
   exact sj hF
  replace hc:=hc.nilRow 86 2
  refine bY N (bX (S:=S12) (x:=ad) ?_ N (0,r,([]:List aC),M) _ _ ⟨a4,bc,none,0,n,H,hf.kp rfl,hc⟩ av)
  clear hF hf hc
  rintro ⟨ac,ak,an,aq⟩ bp a w KB12 ⟨o,i,k,d,s,O,hf,hc⟩ hF q a0
  unfold dU at hF
  refine zS fun K h=>sp 1 hf rfl fun a hf=>zT h ?_
  refine wp_seq_k fun K15 a2=>zI hf rfl hF ?_ ?_ <;> clear hF <;> intro hF
  ·refine wp_skip ?_
   refine a2 _ _ ?_
   refine wp_seq_k fun K16 bf=>wp_block ?_
   refine zS fun K h=>sp 2 hf rfl fun a hf=>zT h ?_
   refine bW ?_
   refine zL hf hc aJt m1 rfl fun a w hf hc=>sp 1 hf rfl fun a hf=>?_
   obtain ⟨ag,ax,hF⟩:=aA hF
   refine zC hf aKj rfl (wG ac w_ an ak aq U R V (((((((((hc.pick k1).pick k7).pick k7).pick k7).pick k7).pick k7).pick k6).pick k7).pick k8) ax) ?_
   rintro _ w ⟨bk,a7,a6,a3,bj,ai,rfl,hc⟩
   refine ⟨_,rfl,fun a hf=>?_⟩
   refine aL ?_
   refine bf _ _ ?_
   refine bW ?_
   refine sp 2 hf rfl fun a hf=>aL ?_
   replace hc:=((((((((hc.pick k4).pick k4).pick k4).pick k7).pick k5).pick k7).pick k7).pick k8).pick k8
   exact a0 (W (ac + 1),ag.2.1,ag.1,ag.2.2) _ _ (sj hF).symm ⟨a6,a3,bk,a7,bj,ai,hf.kp rfl,hc⟩
  ·refine wp_exit ?_
   refine aN ?_
   refine aN ?_
   have he:=sj hF
   rw [← he] at q
   refine cT ?_
   exact az _ _ _ q ⟨o,i,k,d,s,O,hf.kp rfl,hc⟩
 have br:∀ r,x5=.out r→r=b:=by
  rintro r rfl
  exact sj hF
 refine bY N (bX (S:=S5) (x:=x5) ?_ N (0,(List.replicate ((w_.Roster.Stations.length:Nat):Int).toNat (none:Option (List (Int × Bool))))) _ _ ⟨(some ⟨aj,0,none⟩),(((w_.Roster.Stations.length:Nat):Int).toNat,af),hf.kp rfl,hc⟩ bd)
 clear hF hf hc
 rintro ⟨x,M⟩ bq a w KB5 ⟨n,H,hf,hc⟩ hF u bg
 unfold dL at hF
 refine zS fun K h=>sp 1 hf rfl fun a hf=>zT h ?_
 refine wp_seq_k fun K19 a5=>zI hf rfl hF ?_ ?_ <;> clear hF <;> intro hF
 ·refine wp_skip ?_
  refine a5 _ _ ?_
  refine wp_seq_k fun K20 ba=>wp_block ?_
  refine zS fun K h=>sp 2 hf rfl fun a hf=>zT h ?_
  refine bW ?_
  refine zL hf hc yW m0 rfl fun a w hf hc=>sp 1 hf rfl fun a hf=>stAM (enc:=Value.bool) hf hc rfl rfl fun mb a w hf hc=>?_
  obtain ⟨bt,p,hF⟩:=aA hF
  obtain ⟨g,rfl,qa,qr⟩:=nQ hc m2 (iU p)
  refine zP hf rfl (pIA Tryz.underlying222 yO rfl rfl (At.len qa (by simp only [hU,List.length_set]))) fun a hf=>?_
  replace hc:=(aAe (hc.pick k3) p).tail
  replace hc:Ctx G (bZ bD ((aK H.2 M).eraseIdx x.toNat)::.gm mb (ALq Value.bool ([]:List (Int × Bool)))::.box Z [.slice (some ⟨g,0,none⟩) M.length H.1] 222::.row (some ⟨g,0,none⟩) H.1 ((aK H.2 M).map (Kd.v bD)) 223 1::.box X [pq b_] 166::Lf) w:=hc
  refine aDu (vs:=[.map (some mb)]) (o':=0) (z:=((none,mb),(some ([]:List (Int × Bool))))) (xs:=(aK H.2 M)) hf hc rfl rfl rfl rfl yO rfl (fun x=>(aDp x).1) (rH (iU p)) (fun e _=>splW (aDp e).1) rfl u3 fun w hc=>?_
  replace hc:=(((hc.pick k2).pick k1).pick k3).pick k3
  obtain ⟨Y,hc⟩:=aA1 (K:=bD) (h':=(none,mb)) (y:=(some ([]:List (Int × Bool)))) p hc
  replace hc:Ctx G (.row (some ⟨g,0,none⟩) H.1 ((aK Y (M.set x.toNat (some ([]:List (Int × Bool))))).map (Kd.v bD)) 223 1::bZ bD (aK Y (M.set x.toNat (some ([]:List (Int × Bool)))))::.box Z [.slice (some ⟨g,0,none⟩) M.length H.1] 222::.box X [pq b_] 166::Lf) w:=hc
  refine aL ?_
  refine ba _ _ ?_
  refine bW ?_
  refine sp 2 hf rfl fun a hf=>aL ?_
  replace hc:Ctx G (.row (some ⟨g,0,none⟩) H.1 ((aK Y (M.set x.toNat (some ([]:List (Int × Bool))))).map (Kd.v bD)) 223 1::bZ bD (aK Y (M.set x.toNat (some ([]:List (Int × Bool)))))::.box Z [.slice (some ⟨g,0,none⟩) ((M.set x.toNat (some ([]:List (Int × Bool)))).length) H.1] 222::.box X [pq b_] 166::Lf) w:=by simp only [List.length_set] at hc ⊢; exact hc
  replace hc:=((hc.pick k1).pick k1).pick k2
  exact bg (W (x + 1),(M.set x.toNat (some ([]:List (Int × Bool))))) _ _ (sj hF).symm ⟨(some ⟨g,0,none⟩),(H.1,Y),hf.kp rfl,hc⟩
 ·refine wp_exit ?_
  refine aN ?_
  refine aN ?_
  have he:=sj hF
  rw [← he] at u
  refine cT ?_
  exact a9 _ _ _ u ⟨n,H,hf.kp rfl,hc⟩

def lI (N:Nat) (r:aB):Option ((List Int) × Int) :=
 Option.bind (kB N r) (aB0 (fun D=>cond (D != 0)
 (some (([]:List Int),D))
 (none))
 (fun B=>cond (B.2 != 0)
 (some (([]:List Int),B.2))
 (Option.bind (kH N (⟨r,B.1⟩:aV)) fun H=>
 some (H.1,0))))
theorem wL {N:Nat} {G:aQ} {Lf:List Ent} {w:World} (r:aB) {J:Option Addr} {O:Nat} {I:Option Addr} {H:Nat} (D:RdT aM G 1 J O r.People) (B:RdT bA G 2 I H r.Stations) (hc:Ctx G (Lf) w) {S:(List Int) × Int} (hF:lI N r=some S):Calls Tryz.prog 43 #[.agg #[.slice J r.People.length O,.slice I r.Stations.length H]] w (fun e w=>∃ (V:Option Addr) (Y:Nat),e=.returned (.tuple #[.slice V S.1.length Y,i6 S.2])∧Ctx G (.row V Y (S.1.map aD) 3 1::Lf) w):=by
 unfold lI at hF
 refine bN Tryz.func43 rfl Tryz.ntmps43 rfl fun a hf=>zS fun K h=>zB hf hc rfl fun n a w hf hc=>sp 2 hf rfl fun a hf=>zT h ?_
 refine wp_seq_k fun K2 h2=>bW ?_
 refine zN hf hc nY m0 rfl fun a w hf hc=>?_
 obtain ⟨X,U,hF⟩:=aA hF
 cases X with
 | inl X=>
  replace hF:=aG9 hF
  refine zC hf wY rfl (iY r D B hc U) ?_
  rintro _ w ⟨rfl,hc⟩
  refine ⟨_,rfl,fun a hf=>?_⟩
  refine sp 5 hf rfl fun a hf=>aL ?_
  refine h2 _ _ ?_
  refine wp_seq_k fun K3 h3=>zS fun K h=>sp 2 hf rfl fun a hf=>zT h ?_
  refine zI hf rfl hF ?_ ?_ <;> clear hF <;> intro hF
  ·refine zS fun K h=>sp 3 hf rfl fun a hf=>zT h ?_
   refine wp_ret ?_
   refine aH ?_
   obtain rfl:=sj hF
   replace hc:=hc.nilRow 3 1
   replace hc:=hc.drop k1
   exact zO2 Tryz.results43 hf rfl rfl ⟨none,0,rfl,hc⟩
  ·refine wp_skip ?_
   refine h3 _ _ ?_
   refine wp_seq_k fun K6 h6=>aBs hF
 | inr g=>
  replace hF:=aHk hF
  have Z:=U
  refine zC hf wY rfl (iY r D B hc Z) ?_
  rintro _ w ⟨j,rfl,hc⟩
  refine ⟨_,rfl,fun a hf=>?_⟩
  refine sp 5 hf rfl fun a hf=>aL ?_
  obtain ⟨G,M,R,hc,-⟩:=aHz hc k0
  replace R:=aIh R
  refine h2 _ _ ?_
  refine wp_seq_k fun K7 h7=>zS fun K h=>sp 2 hf rfl fun a hf=>zT h ?_
  refine zI hf rfl hF ?_ ?_ <;> clear hF <;> intro hF
  ·refine zS fun K h=>sp 3 hf rfl fun a hf=>zT h ?_
   refine wp_ret ?_
   refine aH ?_
   obtain rfl:=sj hF
   replace hc:=hc.down M
   replace hc:=hc.nilRow 3 1
   replace hc:=hc.drop k1
   exact zO2 Tryz.results43 hf rfl rfl ⟨none,0,rfl,hc⟩
  ·refine wp_skip ?_
   refine h7 _ _ ?_
   refine zS fun K h=>sp 1 hf rfl fun a hf=>?_
   obtain ⟨o,b,hF⟩:=aA hF
   refine zC hf aLm rfl (sM (⟨r,g.1⟩:aV) (D.mono M) (B.mono M) R hc b) ?_
   rintro _ w ⟨i,d,m,k,rfl,hc⟩
   refine ⟨_,rfl,fun a hf=>?_⟩
   refine sp 5 hf rfl fun a hf=>zT h ?_
   refine zS fun K h=>sp 3 hf rfl fun a hf=>zT h ?_
   refine wp_ret ?_
   obtain rfl:=sj hF
   replace hc:=hc.down M
   replace hc:=(hc.drop k2).drop k1
   exact zO2 Tryz.results43 hf rfl rfl ⟨i,d,rfl,hc⟩

def nK (s_:Int) (x:aB):Bool :=
 (aE s_ (-1) (W (((x.Stations.length:Nat):Int) - 1)))
theorem aAz {G:aQ} {Lf:List Ent} {w:World} (s_:Int) (x:aB) {b_:Nat} {H:Option Addr} {I:Nat} {D:Option Addr} {B:Nat} (M:RdT aM G 1 H I x.People) (J:RdT bA G 2 D B x.Stations) (hc:Ctx G (.box b_ [.slice H x.People.length I,.slice D x.Stations.length B] 78::Lf) w) {O:Bool} (hF:nK s_ x=O):Calls Tryz.prog 108 #[i6 s_,pq b_] w (fun e w=>e=.returned (.bool O)∧Ctx G (.box b_ [.slice H x.People.length I,.slice D x.Stations.length B] 78::Lf) w):=by
 unfold nK at hF
 refine bN Tryz.func108 rfl Tryz.ntmps108 rfl fun a hf=>zS fun K h=>sp 1 hf rfl fun a hf=>zT h ?_
 refine zS fun K h=>sp 1 hf rfl fun a hf=>zP hf rfl (pFA fJ rfl) fun a hf=>zL hf hc mR m0 rfl fun a w hf hc=>zP hf rfl (aW Tryz.underlying76 rfl) fun a hf=>sp 1 hf rfl fun a hf=>zQ (v:=.bool (aE s_ (-1) (W (((x.Stations.length:Nat):Int) - 1)))) hf hc nZ rfl (fun w hc=>cU s_ (-1) (W (((x.Stations.length:Nat):Int) - 1)) hc rfl) fun a w hf hc=>sp 1 hf rfl fun a hf=>zT h ?_
 refine wp_ret ?_
 obtain rfl:=hF
 exact zO1 Tryz.results108 hf rfl ⟨rfl,hc⟩

def eO (x:Int) (B:aB):Bool :=
 (!(nK x B))
theorem vJ {G:aQ} {Lf:List Ent} {w:World} (x:Int) (J:aB) {b_:Nat} {R:Nat} {H:Option Addr} {I:Nat} {B:Option Addr} {D:Nat} (O:RdT aM G 1 H I J.People) (M:RdT bA G 2 B D J.Stations) (hc:Ctx G (.box b_ [.func (.func 108) #[] #[pq R]] 143::.box R [.slice H J.People.length I,.slice B J.Stations.length D] 78::Lf) w) {S:Bool} (hF:eO x J=S):Calls Tryz.prog 157 #[i6 x,pq b_] w (fun e w=>e=.returned (.bool S)∧Ctx G (.box b_ [.func (.func 108) #[] #[pq R]] 143::.box R [.slice H J.People.length I,.slice B J.Stations.length D] 78::Lf) w):=by
 unfold eO at hF
 refine bN Tryz.func157 rfl Tryz.ntmps157 rfl fun a hf=>zS fun K h=>sp 1 hf rfl fun a hf=>zT h ?_
 refine zS fun K h=>zL hf hc aE4 m0 rfl fun a w hf hc=>sp 1 hf rfl fun a hf=>zQ (v:=.bool (nK x J)) hf hc aNh rfl (fun w hc=>(aAz x J O M (hc.pick k1) rfl).mono fun e w h=>⟨h.1,(h.2.unpick k1)⟩) fun a w hf hc=>sp 2 hf rfl fun a hf=>zT h ?_
 refine wp_ret ?_
 obtain rfl:=hF
 exact zO1 Tryz.results157 hf rfl ⟨rfl,hc⟩

def fC (N:Nat) (s_:List Int) (f_:aB) (x:Int):Option (bK (Int) (Int)) :=
 cond (decide (x < ((s_.length:Nat):Int)))
 (Option.bind (aU s_ x) fun B=>
 cond (eO B f_)
 (some (.ret x))
 (some (.cont (W (x + 1)))))
 (some (.brk x))
def eI (N:Nat) (s_:List Int) (f_:aB):Option (Int) :=
 Option.bind (aS (fun s4=>fC N s_ f_ s4) N 0) fun x4=>
 exK x4 (fun s4=>some (-1)) some
theorem qK {N:Nat} {G:aQ} {Lf:List Ent} {w:World} (s_:List Int) (f_:aB) {V:Option Addr} {U:Nat} {b_:Nat} {J:Nat} {H:Option Addr} {I:Nat} {D:Option Addr} {B:Nat} (Z:Rd G 1 V U (s_.map aD)) (R:RdT aM G 1 H I f_.People) (M:RdT bA G 2 D B f_.Stations) (hc:Ctx G (.box b_ [.func (.func 108) #[] #[pq J]] 143::.box J [.slice H f_.People.length I,.slice D f_.Stations.length B] 78::Lf) w) {X:Int} (hF:eI N s_ f_=some X):Calls Tryz.prog 97 #[.slice V s_.length U,.func (.func 157) #[] #[pq b_]] w (fun e w=>e=.returned (i6 X)∧Ctx G (.box b_ [.func (.func 108) #[] #[pq J]] 143::.box J [.slice H f_.People.length I,.slice D f_.Stations.length B] 78::Lf) w):=by
 unfold eI at hF
 refine bN Tryz.func97 rfl Tryz.ntmps97 rfl fun a hf=>zS fun K h=>sp 1 hf rfl fun a hf=>zT h ?_
 refine wp_seq_k fun K2 h2=>zS fun K h=>sp 1 hf rfl fun a hf=>zP hf rfl (aW Tryz.underlying25 rfl) fun a hf=>sp 1 hf rfl fun a hf=>zT h ?_
 refine wp_block ?_
 obtain ⟨x4,k,hF⟩:=aA hF
 let S4:Int→Act→World→Prop:=(fun (zz:Int) a w=>Has 19 a [(0,.slice V s_.length U),(1,.func (.func 157) #[] #[pq b_]),(7,i6 ((s_.length:Nat):Int)),(8,i6 zz)]∧Ctx G (.box b_ [.func (.func 108) #[] #[pq J]] 143::.box J [.slice H f_.People.length I,.slice D f_.Stations.length B] 78::Lf) w)
 have i:∀ (zz:Int) a w,x4=.go zz→S4 zz a w→K2 a w:=by
  rintro x a w rfl ⟨hf,hc⟩
  replace hF:=bH hF
  refine h2 _ _ ?_
  refine zS fun K h=>sp 1 hf rfl fun a hf=>zT h ?_
  refine wp_ret ?_
  obtain rfl:=sj hF
  exact zO1 Tryz.results97 hf rfl ⟨rfl,hc⟩
 have d:∀ r,x4=.out r→r=X:=by
  rintro r rfl
  exact sj hF
 refine bY N (bX (S:=S4) (x:=x4) ?_ N 0 _ _ ⟨hf.kp rfl,hc⟩ k)
 clear hF hf hc
 rintro x n a w KB4 ⟨hf,hc⟩ hF O g
 unfold fC at hF
 refine zS fun K h=>sp 1 hf rfl fun a hf=>zT h ?_
 refine wp_seq_k fun K7 h7=>zI hf rfl hF ?_ ?_ <;> clear hF <;> intro hF
 ·refine wp_skip ?_
  refine h7 _ _ ?_
  refine wp_seq_k fun K8 h8=>wp_block ?_
  refine zS fun K h=>sp 2 hf rfl fun a hf=>zT h ?_
  refine zS fun K h=>sp 3 hf rfl fun a hf=>?_
  obtain ⟨Y,b,hF⟩:=aA hF
  obtain ⟨m,o,qa,qp⟩:=Z.atm b
  refine zP hf rfl (pIA Tryz.underlying25 eH rfl rfl qa) fun a hf=>zE hf hc rfl (bF bG rfl (aR (j:=0) qp rfl)) fun a w hf hc=>zQ (v:=.bool (eO Y f_)) hf hc aEr rfl (fun w hc=>(vJ Y f_ R M ((hc.pick k1).pick k1) rfl).mono fun e w h=>⟨h.1,((h.2.unpick k1).unpick k1)⟩) fun a w hf hc=>zT h ?_
  refine zI hf rfl hF ?_ ?_ <;> clear hF <;> intro hF
  ·refine zS fun K h=>sp 2 hf rfl fun a hf=>zT h ?_
   refine wp_ret ?_
   refine bB ?_
   refine aH ?_
   refine aH ?_
   have he:=sj hF
   rw [← he] at O
   replace hF:=d _ O
   refine bB ?_
   refine aH ?_
   obtain rfl:=hF
   exact zO1 Tryz.results97 hf rfl ⟨rfl,hc⟩
  ·refine wp_skip ?_
   refine h8 _ _ ?_
   refine bW ?_
   refine sp 2 hf rfl fun a hf=>aL ?_
   exact g (W (x + 1)) _ _ (sj hF).symm ⟨hf.kp rfl,hc⟩
 ·refine wp_exit ?_
  refine aN ?_
  refine aN ?_
  have he:=sj hF
  rw [← he] at O
  refine cT ?_
  exact i _ _ _ O ⟨hf.kp rfl,hc⟩

def dI (N:Nat) (s_:List Int) (f_:aB):Option (Bool) :=
 Option.bind (eI N s_ f_) fun r=>
 some (decide (0≤r))
theorem pB {N:Nat} {G:aQ} {Lf:List Ent} {w:World} (s_:List Int) (f_:aB) {S:Option Addr} {R:Nat} {b_:Nat} {O:Nat} {H:Option Addr} {I:Nat} {D:Option Addr} {B:Nat} (V:Rd G 1 S R (s_.map aD)) (M:RdT aM G 1 H I f_.People) (J:RdT bA G 2 D B f_.Stations) (hc:Ctx G (.box b_ [.func (.func 108) #[] #[pq O]] 143::.box O [.slice H f_.People.length I,.slice D f_.Stations.length B] 78::Lf) w) {U:Bool} (hF:dI N s_ f_=some U):Calls Tryz.prog 113 #[.slice S s_.length R,.func (.func 157) #[] #[pq b_]] w (fun e w=>e=.returned (.bool U)∧Ctx G (.box b_ [.func (.func 108) #[] #[pq O]] 143::.box O [.slice H f_.People.length I,.slice D f_.Stations.length B] 78::Lf) w):=by
 unfold dI at hF
 refine bN Tryz.func113 rfl Tryz.ntmps113 rfl fun a hf=>zS fun K h=>sp 1 hf rfl fun a hf=>zT h ?_
 refine zS fun K h=>sp 2 hf rfl fun a hf=>?_
 obtain ⟨r,hr,hF⟩:=aA hF
 refine zQ (v:=i6 r) hf hc aDn rfl (fun w hc=>(qK s_ f_ V M J ((hc.pick k1).pick k1) hr).mono fun e w h=>⟨h.1,((h.2.unpick k1).unpick k1)⟩) fun a w hf hc=>sp 2 hf rfl fun a hf=>zT h ?_
 refine wp_ret ?_
 obtain rfl:=sj hF
 exact zO1 Tryz.results113 hf rfl ⟨rfl,hc⟩

def fS (N:Nat) (l:List Int) (so:aB):Option (Bool) :=
 Option.bind (dI N l so) fun r=>
 some (!r)
theorem rU {N:Nat} {G:aQ} {Lf:List Ent} {w:World} (l:List Int) (so:aB) {S:Option Addr} {R:Nat} {b_:Nat} {I:Option Addr} {H:Nat} {B:Option Addr} {D:Nat} (V:Rd G 1 S R (l.map aD)) (M:RdT aM G 1 I H so.People) (J:RdT bA G 2 B D so.Stations) (hc:Ctx G (.box b_ [.slice I so.People.length H,.slice B so.Stations.length D] 78::Lf) w) {O:Bool} (hF:fS N l so=some O):Calls Tryz.prog 87 #[.slice S l.length R,.func (.func 108) #[] #[pq b_]] w (fun e w=>e=.returned (.bool O)∧Ctx G (.box b_ [.slice I so.People.length H,.slice B so.Stations.length D] 78::Lf) w):=by
 unfold fS at hF
 refine bN Tryz.func87 rfl Tryz.ntmps87 rfl fun a hf=>zS fun K h=>zB hf hc rfl fun U a w hf hc=>sp 1 hf rfl fun a hf=>zT h ?_
 refine zS fun K h=>sp 1 hf rfl fun a hf=>zP hf rfl (pMF (us:=[pq U]) rfl rfl) fun a hf=>?_
 obtain ⟨r,hr,hF⟩:=aA hF
 refine zQ (v:=.bool r) hf hc aCr rfl (fun w hc=>(pB l so V M J ((hc.pick k1).pick k1) hr).mono fun e w h=>⟨h.1,((h.2.unpick k1).unpick k1)⟩) fun a w hf hc=>sp 2 hf rfl fun a hf=>zT h ?_
 refine wp_ret ?_
 obtain rfl:=sj hF
 replace hc:=hc.drop k0
 exact zO1 Tryz.results87 hf rfl ⟨rfl,hc⟩

end Go.Nilo
