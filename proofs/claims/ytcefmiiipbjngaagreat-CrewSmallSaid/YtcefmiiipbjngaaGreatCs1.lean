/-
  What functions of the Go text compute, as plain functions, and that they do, part 1 of 5. Conditions: what each theorem names.
-/
import Derived.Test.YtcefmiiipbjngaaGreatNl35
import Derived.Test.YtcefmiiipbjngaaGreatProg
set_option linter.unusedVariables false
set_option linter.unusedSimpArgs false
set_option maxRecDepth 100000
set_option maxHeartbeats 4000000
namespace Go.Nilo
open Go.Proofs


theorem eN (k_:Nat) (D:Nat.blt k_ 143=true:=by rfl) (B:Nat.testBit 5923635443359696771970425166172221025026032 k_=true:=by rfl):En Tryz.prog k_:=enAll (M:=5923635443359696771970425166172221025026032) (n:=143) (by kernel_rfl) k_ D B

@[reducible] def Cz (G:cJ) (k_:Nat) (vs:Array Value) (w:World) (v:Value) (L:List Ent):Prop:=Cl Tryz.prog G k_ vs w v L

variable {N:Nat} {G:cJ} {Lf:List Ent} {w:World}

structure aD where
 Places:Int
 Order:List Int

structure aB where
 People:List (List Int)
 Stations:List aD

structure aA where
 Person:Int
 Station:Int
@[reducible] def aM (x:aA):List Value:=[i6 x.Person,i6 x.Station]
theorem oL:∀ x,(aM x).length=2∧sG (aM x)=true:=λ_=>⟨Z,Z⟩

structure aE where
 Lo:Int
 Hi:Int
@[reducible] def cN (x:aE):List Value:=[i6 x.Lo,i6 x.Hi]
theorem aAz:∀ x,(cN x).length=2∧sG (cN x)=true:=λ_=>⟨Z,Z⟩

structure aG where
 Way:aE
 Work:aE
 Open:Int
 Close:Int
@[reducible] def aX (x:aG):List Value:=[i6 x.Way.Lo,i6 x.Way.Hi,i6 x.Work.Lo,i6 x.Work.Hi,i6 x.Open,i6 x.Close]
theorem iH:∀ x,(aX x).length=6∧sG (aX x)=true:=λ_=>⟨Z,Z⟩

structure aC where
 From:Int
 Long:Int
 Weight:aE
@[reducible] def aI (x:aC):List Value:=[i6 x.From,i6 x.Long,i6 x.Weight.Lo,i6 x.Weight.Hi]
theorem dX:∀ x,(aI x).length=4∧sG (aI x)=true:=λ_=>⟨Z,Z⟩

structure aJ where
 Car:Int
 Wide:Int
 Sag:Int
 Most:Int
 Rides:List aC

structure bJ where
 Roster:aB
 rank:Nat→Int

structure dN where
 Rate:Int
 Normal:Int
 Extra:Int
@[reducible] def aE6 (x:dN):List Value:=[i6 x.Rate,i6 x.Normal,i6 x.Extra]
theorem aOr:∀ x,(aE6 x).length=3∧sG (aE6 x)=true:=λ_=>⟨Z,Z⟩

structure bL where
 Places:Int
 Order:List Int

structure bR where
 People:List (List Int)
 Stations:List bL

structure aW where
 Person:Int
 Station:Int
@[reducible] def lR (x:aW):List Value:=[i6 x.Person,i6 x.Station]
theorem aBz:∀ x,(lR x).length=2∧sG (lR x)=true:=λ_=>⟨Z,Z⟩

structure bV where
 Way:aE
 Work:aE
 Open:Int
 Close:Int
@[reducible] def hU (x:bV):List Value:=[i6 x.Way.Lo,i6 x.Way.Hi,i6 x.Work.Lo,i6 x.Work.Hi,i6 x.Open,i6 x.Close]
theorem aDd:∀ x,(hU x).length=6∧sG (hU x)=true:=λ_=>⟨Z,Z⟩

structure aY where
 From:Int
 Long:Int
 Weight:aE
@[reducible] def bM (x:aY):List Value:=[i6 x.From,i6 x.Long,i6 x.Weight.Lo,i6 x.Weight.Hi]
theorem uD:∀ x,(bM x).length=4∧sG (bM x)=true:=λ_=>⟨Z,Z⟩

structure cD where
 Car:Int
 Wide:Int
 Sag:Int
 Most:Int
 Rides:List aY

theorem eV:SlT Tryz.prog 22 3 1 8 (i6 0):=SlT.of Tryz.underlying22 (by kernel_rfl) (by decide)

theorem cS:(Tryz.prog.info? 3).map (·.size)=some 1:=by kernel_rfl

theorem aZ:ScT Tryz.prog 3:=⟨⟨_,Tryz.underlying3,trivial⟩,by kernel_rfl⟩

theorem aId:(Tryz.prog.info? 26).map (·.zero)=some (some (.agg #[.slice none 0 0,.slice none 0 0])):=by kernel_rfl

@[reducible] def aT:Kd (List Int):=kL aF 3 1
theorem pS:aDy aT:=aQk _ _ _
theorem kG:∀ r,(aT.v r).length=1∧sG (aT.v r)=true:=λ_=>⟨Z,Z⟩

theorem aHx:SlT Tryz.prog 23 22 1 24 (.slice none 0 0):=SlT.of Tryz.underlying23 (by kernel_rfl) (by decide)

theorem aHm:iR Tryz.prog 41=some ([i6 0,.slice none 0 0],[(0,1),(1,1)]):=by kernel_rfl

@[reducible] def bD:Kd aD:=Kd.comp (kL aF 3 1) (λx=>x.Order) (λh x=>[i6 x.Places,.slice h.1 x.Order.length h.2])
theorem wH:aDy bD:=aDy.comp (aQk _ _ _) _ _
theorem aFn:∀ r,(bD.v r).length=2∧sG (bD.v r)=true:=λ_=>⟨Z,Z⟩

theorem aI6:SlT Tryz.prog 24 41 2 32 (.agg #[i6 0,.slice none 0 0]):=SlT.of Tryz.underlying24 (by kernel_rfl) (by decide)

theorem aQ6:iR Tryz.prog 26=some ([.slice none 0 0,.slice none 0 0],[(0,1),(1,1)]):=by kernel_rfl

theorem aJc:(Tryz.prog.info? 26).map (·.size)=some 2:=by kernel_rfl

theorem qC:aAt Tryz.prog 26 2:=⟨⟨_,Tryz.underlying26,trivial⟩,by kernel_rfl⟩

theorem xR:iR Tryz.prog 29=some ([i6 0,i6 0],[(0,1),(1,1)]):=by kernel_rfl

theorem aHi:SlT Tryz.prog 30 29 2 16 (.agg #[i6 0,i6 0]):=SlT.of Tryz.underlying30 (by kernel_rfl) (by decide)

theorem aE8:(Tryz.prog.info? 43).map (·.zero)=some (some (.agg #[i6 0,i6 0])):=by kernel_rfl

theorem aBn:iR Tryz.prog 43=some ([i6 0,i6 0],[(0,1),(1,1)]):=by kernel_rfl

theorem uS:(Tryz.prog.info? 43).map (·.size)=some 2:=by kernel_rfl

theorem rG:aAt Tryz.prog 43 2:=⟨⟨_,Tryz.underlying43,trivial⟩,by kernel_rfl⟩

theorem aLl:iR Tryz.prog 45=some ([i6 0,i6 0,i6 0,i6 0,i6 0,i6 0],[(0,2),(2,2),(4,1),(5,1)]):=by kernel_rfl

theorem aLk:SlT Tryz.prog 31 45 6 48 (.agg #[i6 0,i6 0,i6 0,i6 0,i6 0,i6 0]):=SlT.of Tryz.underlying31 (by kernel_rfl) (by decide)

theorem aJe:iR Tryz.prog 34=some ([i6 0,i6 0,i6 0],[(0,1),(1,1),(2,1)]):=by kernel_rfl

theorem aOh:(Tryz.prog.info? 3).map (·.zero)=some (some (i6 0)):=by kernel_rfl

theorem zr_34:(Tryz.prog.info? 34).map (·.zero)=some (some (.agg #[i6 0,i6 0,i6 0])):=by kernel_rfl

theorem sz_34:(Tryz.prog.info? 34).map (·.size)=some 3:=by kernel_rfl

theorem aE9:(Tryz.prog.info? 37).map (·.zero)=some (some (.agg #[i6 0,i6 0,i6 0,i6 0,.slice none 0 0])):=by kernel_rfl

theorem aLe:iR Tryz.prog 47=some ([i6 0,i6 0,i6 0,i6 0],[(0,1),(1,1),(2,2)]):=by kernel_rfl

theorem aBo:SlT Tryz.prog 35 47 4 32 (.agg #[i6 0,i6 0,i6 0,i6 0]):=SlT.of Tryz.underlying35 (by kernel_rfl) (by decide)

theorem aPz:iR Tryz.prog 37=some ([i6 0,i6 0,i6 0,i6 0,.slice none 0 0],[(0,1),(1,1),(2,1),(3,1),(4,1)]):=by kernel_rfl

theorem aDj:(Tryz.prog.info? 37).map (·.size)=some 5:=by kernel_rfl

theorem lC:aAt Tryz.prog 37 5:=⟨⟨_,Tryz.underlying37,trivial⟩,by kernel_rfl⟩

theorem iG:∀ (q:Addr) (w:World),(Instr.fieldAt 26 (.pointer (some q)) 0).run Tryz.prog w=.ok (.pointer (some (q.add 0))) w:=λ_ _=>by kernel_rfl

theorem gR:ScT Tryz.prog 23:=⟨⟨_,Tryz.underlying23,trivial⟩,by kernel_rfl⟩

theorem lN:(Tryz.prog.info? 22).map (·.size)=some 1:=by kernel_rfl

theorem eL:ScT Tryz.prog 22:=⟨⟨_,Tryz.underlying22,trivial⟩,by kernel_rfl⟩

theorem fH:∀ (q:Addr) (w:World),(Instr.fieldAt 26 (.pointer (some q)) 1).run Tryz.prog w=.ok (.pointer (some (q.add 1))) w:=λ_ _=>by kernel_rfl

theorem pB:ScT Tryz.prog 24:=⟨⟨_,Tryz.underlying24,trivial⟩,by kernel_rfl⟩

theorem tV:(Tryz.prog.info? 41).map (·.size)=some 2:=by kernel_rfl

theorem wL:∀ (q:Addr) (w:World),(Instr.fieldAt 41 (.pointer (some q)) 0).run Tryz.prog w=.ok (.pointer (some (q.add 0))) w:=λ_ _=>by kernel_rfl

theorem wP:∀ (q:Addr) (w:World),(Instr.fieldAt 41 (.pointer (some q)) 1).run Tryz.prog w=.ok (.pointer (some (q.add 1))) w:=λ_ _=>by kernel_rfl

theorem pP:(Tryz.prog.info? 29).map (·.size)=some 2:=by kernel_rfl

theorem aEg:∀ (q:Addr) (w:World),(Instr.fieldAt 29 (.pointer (some q)) 0).run Tryz.prog w=.ok (.pointer (some (q.add 0))) w:=λ_ _=>by kernel_rfl

theorem xY:∀ (q:Addr) (w:World),(Instr.fieldAt 29 (.pointer (some q)) 1).run Tryz.prog w=.ok (.pointer (some (q.add 1))) w:=λ_ _=>by kernel_rfl

theorem tT:(Tryz.prog.info? 45).map (·.size)=some 6:=by kernel_rfl

theorem aC4:∀ (q:Addr) (w:World),(Instr.fieldAt 45 (.pointer (some q)) 0).run Tryz.prog w=.ok (.pointer (some (q.add 0))) w:=λ_ _=>by kernel_rfl

theorem kY:∀ (q:Addr) (w:World),(Instr.fieldAt 43 (.pointer (some q)) 1).run Tryz.prog w=.ok (.pointer (some (q.add 1))) w:=λ_ _=>by kernel_rfl

theorem aE4:∀ (q:Addr) (w:World),(Instr.fieldAt 45 (.pointer (some q)) 1).run Tryz.prog w=.ok (.pointer (some (q.add 2))) w:=λ_ _=>by kernel_rfl

theorem rC:∀ (q:Addr) (w:World),(Instr.fieldAt 43 (.pointer (some q)) 0).run Tryz.prog w=.ok (.pointer (some (q.add 0))) w:=λ_ _=>by kernel_rfl

theorem aEy:∀ (q:Addr) (w:World),(Instr.fieldAt 45 (.pointer (some q)) 2).run Tryz.prog w=.ok (.pointer (some (q.add 4))) w:=λ_ _=>by kernel_rfl

theorem aC3:∀ (q:Addr) (w:World),(Instr.fieldAt 45 (.pointer (some q)) 3).run Tryz.prog w=.ok (.pointer (some (q.add 5))) w:=λ_ _=>by kernel_rfl

theorem aGv:∀ (q:Addr) (w:World),(Instr.fieldAt 34 (.pointer (some q)) 0).run Tryz.prog w=.ok (.pointer (some (q.add 0))) w:=λ_ _=>by kernel_rfl

theorem aGp:∀ (q:Addr) (w:World),(Instr.fieldAt 34 (.pointer (some q)) 1).run Tryz.prog w=.ok (.pointer (some (q.add 1))) w:=λ_ _=>by kernel_rfl

theorem aGs:∀ (q:Addr) (w:World),(Instr.fieldAt 34 (.pointer (some q)) 2).run Tryz.prog w=.ok (.pointer (some (q.add 2))) w:=λ_ _=>by kernel_rfl

theorem xX:∀ (q:Addr) (w:World),(Instr.fieldAt 37 (.pointer (some q)) 0).run Tryz.prog w=.ok (.pointer (some (q.add 0))) w:=λ_ _=>by kernel_rfl

theorem aC6:∀ (q:Addr) (w:World),(Instr.fieldAt 37 (.pointer (some q)) 1).run Tryz.prog w=.ok (.pointer (some (q.add 1))) w:=λ_ _=>by kernel_rfl

theorem aDb:∀ (q:Addr) (w:World),(Instr.fieldAt 37 (.pointer (some q)) 2).run Tryz.prog w=.ok (.pointer (some (q.add 2))) w:=λ_ _=>by kernel_rfl

theorem aC9:∀ (q:Addr) (w:World),(Instr.fieldAt 37 (.pointer (some q)) 3).run Tryz.prog w=.ok (.pointer (some (q.add 3))) w:=λ_ _=>by kernel_rfl

theorem fR:∀ (q:Addr) (w:World),(Instr.fieldAt 37 (.pointer (some q)) 4).run Tryz.prog w=.ok (.pointer (some (q.add 4))) w:=λ_ _=>by kernel_rfl

theorem sL:ScT Tryz.prog 35:=⟨⟨_,Tryz.underlying35,trivial⟩,by kernel_rfl⟩

theorem tD:(Tryz.prog.info? 47).map (·.size)=some 4:=by kernel_rfl

theorem vH:∀ (q:Addr) (w:World),(Instr.fieldAt 47 (.pointer (some q)) 0).run Tryz.prog w=.ok (.pointer (some (q.add 0))) w:=λ_ _=>by kernel_rfl

theorem aEm:∀ (q:Addr) (w:World),(Instr.fieldAt 47 (.pointer (some q)) 1).run Tryz.prog w=.ok (.pointer (some (q.add 1))) w:=λ_ _=>by kernel_rfl

theorem zM:∀ (q:Addr) (w:World),(Instr.fieldAt 47 (.pointer (some q)) 2).run Tryz.prog w=.ok (.pointer (some (q.add 2))) w:=λ_ _=>by kernel_rfl

theorem sl_48:SlT Tryz.prog 48 39 1 8 (.pointer none):=SlT.of Tryz.underlying48 (by kernel_rfl) (by decide)

theorem aU:Tryz.prog.follows .mixedOrders=true:=by kernel_rfl

theorem qF:(Tryz.prog.info? 39).map (·.size)=some 1:=by kernel_rfl

theorem pU:ScT Tryz.prog 39:=⟨⟨_,Tryz.underlying39,trivial⟩,by kernel_rfl⟩

theorem aPx:ScT Tryz.prog 118:=⟨⟨_,Tryz.underlying118,trivial⟩,by kernel_rfl⟩

theorem aJv:ScT Tryz.prog 117:=⟨⟨_,Tryz.underlying117,trivial⟩,by kernel_rfl⟩

theorem aF1:aAt Tryz.prog 41 2:=⟨⟨_,Tryz.underlying41,trivial⟩,by kernel_rfl⟩

theorem aQm:ScT Tryz.prog 120:=⟨⟨_,Tryz.underlying120,trivial⟩,by kernel_rfl⟩

theorem aTe:iR Tryz.prog 138=some ((aBc [.slice none 0 0,.slice none 0 0] 144 aF (λ_=>0) []),[(0,2),(2,144)]):=by kernel_rfl

theorem aMu:(Tryz.prog.info? 41).map (·.zero)=some (some (.agg #[i6 0,.slice none 0 0])):=by kernel_rfl

theorem wY:∀ (q:Addr) (w:World),(Instr.fieldAt 138 (.pointer (some q)) 1).run Tryz.prog w=.ok (.pointer (some (q.add 2))) w:=λ_ _=>by kernel_rfl

theorem aCs:(Tryz.prog.info? 135).map (·.size)=some 12:=by kernel_rfl

theorem tF:ScT Tryz.prog 126:=⟨⟨_,Tryz.underlying126,trivial⟩,by kernel_rfl⟩

theorem vM:∀ (q:Addr) (w:World),(Instr.fieldAt 138 (.pointer (some q)) 0).run Tryz.prog w=.ok (.pointer (some (q.add 0))) w:=λ_ _=>by kernel_rfl

@[reducible] def bZ:Kd (Option (List (Int × Bool))):=kM Value.bool
theorem aIb:∀ r,(bZ.v r).length=1∧sG (bZ.v r)=true:=aTi _

theorem aS8:SlT Tryz.prog 166 167 1 8 (.map none):=SlT.of Tryz.underlying166 (by kernel_rfl) (by decide)

theorem aTp:(Tryz.prog.info? 166).map (·.zero)=some (some (.slice none 0 0)):=by kernel_rfl

theorem aSz:(Tryz.prog.info? 166).map (·.size)=some 1:=by kernel_rfl

theorem aFb:ScT Tryz.prog 166:=⟨⟨_,Tryz.underlying166,trivial⟩,by kernel_rfl⟩

theorem aFl:(Tryz.prog.info? 167).map (·.size)=some 1:=by kernel_rfl

theorem aSc:(Tryz.prog.info? 22).map (·.zero)=some (some (.slice none 0 0)):=by kernel_rfl

theorem zr_30:(Tryz.prog.info? 30).map (·.zero)=some (some (.slice none 0 0)):=by kernel_rfl

theorem aTd:(Tryz.prog.info? 169).map (·.zero)=some (some (.nilFunc)):=by kernel_rfl

theorem aTb:(Tryz.prog.info? 169).map (·.size)=some 1:=by kernel_rfl

theorem aPr:ScT Tryz.prog 169:=⟨⟨_,Tryz.underlying169,trivial⟩,by kernel_rfl⟩

theorem aNg:ScT Tryz.prog 30:=⟨⟨_,Tryz.underlying30,trivial⟩,by kernel_rfl⟩

theorem rL:aAt Tryz.prog 29 2:=⟨⟨_,Tryz.underlying29,trivial⟩,by kernel_rfl⟩

theorem aK2:Tryz.prog.eqGuardType Tryz.prog.depth 29=false:=by kernel_rfl

theorem aHy (x0:Int) (x1:Int) (y0:Int) (y1:Int) (w:World):(Op.equalIn 10000 29 (.agg #[i6 x0,i6 x1]) (.agg #[i6 y0,i6 y1])).run Tryz.prog w=.ok (x0 == y0 && x1 == y1) w:=by
 rw [run_equalIn_agg w 9999 29 _ _ (by kernel_rfl) (by kernel_rfl)]
 simp [Op.eqFields,part,go_sem]
 repeat' split
 all_goals simp_all

theorem aJ4:ScT Tryz.prog 167:=⟨⟨_,Tryz.underlying167,trivial⟩,by kernel_rfl⟩

theorem zr_4:(Tryz.prog.info? 4).map (·.zero)=some (some (.bool false)):=by kernel_rfl

theorem sz_30:(Tryz.prog.info? 30).map (·.size)=some 1:=by kernel_rfl

theorem aF4:(Tryz.prog.info? 29).map (·.zero)=some (some (.agg #[i6 0,i6 0])):=by kernel_rfl

theorem aPs:(Tryz.prog.info? 126).map (·.zero)=some (some (.pointer none)):=by kernel_rfl

theorem aR9:(Tryz.prog.info? 53).map (·.zero)=some (some (i6 0)):=by kernel_rfl

theorem aPg:(Tryz.prog.info? 126).map (·.size)=some 1:=by kernel_rfl

theorem aNf:(Tryz.prog.info? 53).map (·.size)=some 1:=by kernel_rfl

theorem aKb:ScT Tryz.prog 53:=⟨⟨_,Tryz.underlying53,trivial⟩,by kernel_rfl⟩

theorem aMq:(Tryz.prog.info? 129).map (·.zero)=some (some (.agg #[.slice none 0 0,.slice none 0 0,.slice none 0 0,.slice none 0 0,.slice none 0 0,.slice none 0 0,.slice none 0 0,.slice none 0 0,.slice none 0 0,.slice none 0 0,.slice none 0 0,.slice none 0 0])):=by kernel_rfl

theorem aQ4:aAt Tryz.prog 129 12:=⟨⟨_,Tryz.underlying129,trivial⟩,by kernel_rfl⟩

theorem aO9:(Tryz.prog.info? 129).map (·.size)=some 12:=by kernel_rfl

theorem aS1:ScT Tryz.prog 142:=⟨⟨_,Tryz.underlying142,trivial⟩,by kernel_rfl⟩

theorem sz_4:(Tryz.prog.info? 4).map (·.size)=some 1:=by kernel_rfl

theorem sc_4:ScT Tryz.prog 4:=⟨⟨_,Tryz.underlying4,trivial⟩,by kernel_rfl⟩

theorem aF5:aAt Tryz.prog 45 6:=⟨⟨_,Tryz.underlying45,trivial⟩,by kernel_rfl⟩

theorem aS7:ScT Tryz.prog 172:=⟨⟨_,Tryz.underlying172,trivial⟩,by kernel_rfl⟩

theorem aRb:(Tryz.prog.info? 151).map (·.zero)=some (some (.agg #[.nilFunc])):=by kernel_rfl

theorem aQ2:iR Tryz.prog 151=some ([.nilFunc],[(0,1)]):=by kernel_rfl

theorem aQj:(Tryz.prog.info? 151).map (·.size)=some 1:=by kernel_rfl

theorem aJs:aAt Tryz.prog 151 1:=⟨⟨_,Tryz.underlying151,trivial⟩,by kernel_rfl⟩

theorem aPu:(Tryz.prog.info? 45).map (·.zero)=some (some (.agg #[i6 0,i6 0,i6 0,i6 0,i6 0,i6 0])):=by kernel_rfl

theorem aAu:∀ (q:Addr) (w:World),(Instr.fieldAt 151 (.pointer (some q)) 0).run Tryz.prog w=.ok (.pointer (some (q.add 0))) w:=λ_ _=>by kernel_rfl

theorem aFd:ScT Tryz.prog 149:=⟨⟨_,Tryz.underlying149,trivial⟩,by kernel_rfl⟩

theorem aK3:SlT Tryz.prog 86 43 2 16 (.agg #[i6 0,i6 0]):=SlT.of Tryz.underlying86 (by kernel_rfl) (by decide)

theorem aPj:Tryz.prog.eqGuardType Tryz.prog.depth 43=false:=by kernel_rfl

theorem aLs (x0:Int) (x1:Int) (y0:Int) (y1:Int) (w:World):(Op.equalIn 10000 43 (.agg #[i6 x0,i6 x1]) (.agg #[i6 y0,i6 y1])).run Tryz.prog w=.ok (x0 == y0 && x1 == y1) w:=by
 rw [run_equalIn_agg w 9999 43 _ _ (by kernel_rfl) (by kernel_rfl)]
 simp [Op.eqFields,part,go_sem]
 repeat' split
 all_goals simp_all

theorem vA:aAt Tryz.prog 47 4:=⟨⟨_,Tryz.underlying47,trivial⟩,by kernel_rfl⟩

theorem aPa:ScT Tryz.prog 122:=⟨⟨_,Tryz.underlying122,trivial⟩,by kernel_rfl⟩

theorem aIy:(Tryz.prog.info? 47).map (·.zero)=some (some (.agg #[i6 0,i6 0,i6 0,i6 0])):=by kernel_rfl

theorem aJa:(Tryz.prog.info? 35).map (·.size)=some 1:=by kernel_rfl

theorem aSo:(Tryz.prog.info? 24).map (·.size)=some 1:=by kernel_rfl

theorem aR8:(Tryz.prog.info? 65).map (·.zero)=some (some (.agg #[.slice none 0 0,.slice none 0 0])):=by kernel_rfl

theorem bt_65:iR Tryz.prog 65=some ([.slice none 0 0,.slice none 0 0],[(0,1),(1,1)]):=by kernel_rfl

theorem aSs:(Tryz.prog.info? 65).map (·.size)=some 2:=by kernel_rfl

theorem kV:∀ (q:Addr) (w:World),(Instr.fieldAt 65 (.pointer (some q)) 1).run Tryz.prog w=.ok (.pointer (some (q.add 1))) w:=λ_ _=>by kernel_rfl

theorem uP:ScT Tryz.prog 63:=⟨⟨_,Tryz.underlying63,trivial⟩,by kernel_rfl⟩

theorem aSy:iR Tryz.prog 125=some ([i6 0,.slice none 0 0],[(0,1),(1,1)]):=by kernel_rfl

@[reducible] def iZ:Kd bL:=Kd.comp (kL aF 3 1) (λx=>x.Order) (λh x=>[i6 x.Places,.slice h.1 x.Order.length h.2])
theorem aEc:aDy iZ:=aDy.comp (aQk _ _ _) _ _
theorem aMg:∀ r,(iZ.v r).length=2∧sG (iZ.v r)=true:=λ_=>⟨Z,Z⟩

theorem aSf:SlT Tryz.prog 63 125 2 32 (.agg #[i6 0,.slice none 0 0]):=SlT.of Tryz.underlying63 (by kernel_rfl) (by decide)

theorem sz_63:(Tryz.prog.info? 63).map (·.size)=some 1:=by kernel_rfl

theorem aBm:aAt Tryz.prog 65 2:=⟨⟨_,Tryz.underlying65,trivial⟩,by kernel_rfl⟩

theorem kW:∀ (q:Addr) (w:World),(Instr.fieldAt 65 (.pointer (some q)) 0).run Tryz.prog w=.ok (.pointer (some (q.add 0))) w:=λ_ _=>by kernel_rfl

theorem wC:(Tryz.prog.info? 125).map (·.size)=some 2:=by kernel_rfl

theorem wT:∀ (q:Addr) (w:World),(Instr.fieldAt 125 (.pointer (some q)) 1).run Tryz.prog w=.ok (.pointer (some (q.add 1))) w:=λ_ _=>by kernel_rfl

theorem aCq:∀ (q:Addr) (w:World),(Instr.fieldAt 125 (.pointer (some q)) 0).run Tryz.prog w=.ok (.pointer (some (q.add 0))) w:=λ_ _=>by kernel_rfl

theorem aSe:(Tryz.prog.info? 69).map (·.zero)=some (some (.agg #[i6 0,i6 0])):=by kernel_rfl

theorem aIw:iR Tryz.prog 69=some ([i6 0,i6 0],[(0,1),(1,1)]):=by kernel_rfl

theorem aA5:(Tryz.prog.info? 69).map (·.size)=some 2:=by kernel_rfl

theorem aHg:aAt Tryz.prog 69 2:=⟨⟨_,Tryz.underlying69,trivial⟩,by kernel_rfl⟩

theorem ge_69:Tryz.prog.eqGuardType Tryz.prog.depth 69=false:=by kernel_rfl

theorem aTa (x0:Int) (x1:Int) (y0:Int) (y1:Int) (w:World):(Op.equalIn 10000 69 (.agg #[i6 x0,i6 x1]) (.agg #[i6 y0,i6 y1])).run Tryz.prog w=.ok (x0 == y0 && x1 == y1) w:=by
 rw [run_equalIn_agg w 9999 69 _ _ (by kernel_rfl) (by kernel_rfl)]
 simp [Op.eqFields,part,go_sem]
 repeat' split
 all_goals simp_all

theorem aSg:SlT Tryz.prog 75 69 2 16 (.agg #[i6 0,i6 0]):=SlT.of Tryz.underlying75 (by kernel_rfl) (by decide)

theorem aJz:∀ (q:Addr) (w:World),(Instr.fieldAt 69 (.pointer (some q)) 0).run Tryz.prog w=.ok (.pointer (some (q.add 0))) w:=λ_ _=>by kernel_rfl

theorem aJw:∀ (q:Addr) (w:World),(Instr.fieldAt 69 (.pointer (some q)) 1).run Tryz.prog w=.ok (.pointer (some (q.add 1))) w:=λ_ _=>by kernel_rfl

theorem aSl:aAt Tryz.prog 34 3:=⟨⟨_,Tryz.underlying34,trivial⟩,by kernel_rfl⟩

theorem aSq:SlT Tryz.prog 90 154 6 48 (.agg #[i6 0,i6 0,i6 0,i6 0,i6 0,i6 0]):=SlT.of Tryz.underlying90 (by kernel_rfl) (by decide)

theorem aFs:(Tryz.prog.info? 154).map (·.size)=some 6:=by kernel_rfl

theorem aP2:aAt Tryz.prog 154 6:=⟨⟨_,Tryz.underlying154,trivial⟩,by kernel_rfl⟩

theorem aPd:(Tryz.prog.info? 154).map (·.zero)=some (some (.agg #[i6 0,i6 0,i6 0,i6 0,i6 0,i6 0])):=by kernel_rfl

theorem aHz:∀ (q:Addr) (w:World),(Instr.fieldAt 154 (.pointer (some q)) 0).run Tryz.prog w=.ok (.pointer (some (q.add 0))) w:=λ_ _=>by kernel_rfl

theorem aHh:∀ (q:Addr) (w:World),(Instr.fieldAt 154 (.pointer (some q)) 1).run Tryz.prog w=.ok (.pointer (some (q.add 2))) w:=λ_ _=>by kernel_rfl

theorem aAy:∀ (q:Addr) (w:World),(Instr.fieldAt 154 (.pointer (some q)) 2).run Tryz.prog w=.ok (.pointer (some (q.add 4))) w:=λ_ _=>by kernel_rfl

theorem aEp:∀ (q:Addr) (w:World),(Instr.fieldAt 154 (.pointer (some q)) 3).run Tryz.prog w=.ok (.pointer (some (q.add 5))) w:=λ_ _=>by kernel_rfl

theorem ge_45:Tryz.prog.eqGuardType Tryz.prog.depth 45=false:=by kernel_rfl

theorem aS5 (x0:Int) (x1:Int) (x2:Int) (x3:Int) (x4:Int) (x5:Int) (y0:Int) (y1:Int) (y2:Int) (y3:Int) (y4:Int) (y5:Int) (w:World):(Op.equalIn 10000 45 (.agg #[i6 x0,i6 x1,i6 x2,i6 x3,i6 x4,i6 x5]) (.agg #[i6 y0,i6 y1,i6 y2,i6 y3,i6 y4,i6 y5])).run Tryz.prog w=.ok (x0 == y0 && x1 == y1 && x2 == y2 && x3 == y3 && x4 == y4 && x5 == y5) w:=by
 rw [run_equalIn_agg w 9999 45 _ _ (by kernel_rfl) (by kernel_rfl)]
 simp [Op.eqFields,part,go_sem]
 repeat' split
 all_goals simp_all

theorem aMp:(Tryz.prog.info? 104).map (·.zero)=some (some (.agg #[i6 0,i6 0,i6 0,i6 0,.slice none 0 0])):=by kernel_rfl

theorem aS3:iR Tryz.prog 104=some ([i6 0,i6 0,i6 0,i6 0,.slice none 0 0],[(0,1),(1,1),(2,1),(3,1),(4,1)]):=by kernel_rfl

theorem aLu:(Tryz.prog.info? 104).map (·.size)=some 5:=by kernel_rfl

theorem gZ:∀ (q:Addr) (w:World),(Instr.fieldAt 104 (.pointer (some q)) 4).run Tryz.prog w=.ok (.pointer (some (q.add 4))) w:=λ_ _=>by kernel_rfl

theorem rZ:ScT Tryz.prog 102:=⟨⟨_,Tryz.underlying102,trivial⟩,by kernel_rfl⟩

theorem aFq:SlT Tryz.prog 102 156 4 32 (.agg #[i6 0,i6 0,i6 0,i6 0]):=SlT.of Tryz.underlying102 (by kernel_rfl) (by decide)

theorem aMj:(Tryz.prog.info? 102).map (·.size)=some 1:=by kernel_rfl

theorem vK:aAt Tryz.prog 104 5:=⟨⟨_,Tryz.underlying104,trivial⟩,by kernel_rfl⟩

theorem aCn:∀ (q:Addr) (w:World),(Instr.fieldAt 104 (.pointer (some q)) 0).run Tryz.prog w=.ok (.pointer (some (q.add 0))) w:=λ_ _=>by kernel_rfl

theorem aKm:∀ (q:Addr) (w:World),(Instr.fieldAt 104 (.pointer (some q)) 1).run Tryz.prog w=.ok (.pointer (some (q.add 1))) w:=λ_ _=>by kernel_rfl

theorem aK8:∀ (q:Addr) (w:World),(Instr.fieldAt 104 (.pointer (some q)) 2).run Tryz.prog w=.ok (.pointer (some (q.add 2))) w:=λ_ _=>by kernel_rfl

theorem aKs:∀ (q:Addr) (w:World),(Instr.fieldAt 104 (.pointer (some q)) 3).run Tryz.prog w=.ok (.pointer (some (q.add 3))) w:=λ_ _=>by kernel_rfl

theorem yX:(Tryz.prog.info? 156).map (·.size)=some 4:=by kernel_rfl

theorem aJx:aAt Tryz.prog 156 4:=⟨⟨_,Tryz.underlying156,trivial⟩,by kernel_rfl⟩

theorem aMl:(Tryz.prog.info? 156).map (·.zero)=some (some (.agg #[i6 0,i6 0,i6 0,i6 0])):=by kernel_rfl

theorem wZ:∀ (q:Addr) (w:World),(Instr.fieldAt 156 (.pointer (some q)) 0).run Tryz.prog w=.ok (.pointer (some (q.add 0))) w:=λ_ _=>by kernel_rfl

theorem aE1:∀ (q:Addr) (w:World),(Instr.fieldAt 156 (.pointer (some q)) 1).run Tryz.prog w=.ok (.pointer (some (q.add 1))) w:=λ_ _=>by kernel_rfl

theorem aCc:∀ (q:Addr) (w:World),(Instr.fieldAt 156 (.pointer (some q)) 2).run Tryz.prog w=.ok (.pointer (some (q.add 2))) w:=λ_ _=>by kernel_rfl

theorem ge_47:Tryz.prog.eqGuardType Tryz.prog.depth 47=false:=by kernel_rfl

theorem aTk (x0:Int) (x1:Int) (x2:Int) (x3:Int) (y0:Int) (y1:Int) (y2:Int) (y3:Int) (w:World):(Op.equalIn 10000 47 (.agg #[i6 x0,i6 x1,i6 x2,i6 x3]) (.agg #[i6 y0,i6 y1,i6 y2,i6 y3])).run Tryz.prog w=.ok (x0 == y0 && x1 == y1 && x2 == y2 && x3 == y3) w:=by
 rw [run_equalIn_agg w 9999 47 _ _ (by kernel_rfl) (by kernel_rfl)]
 simp [Op.eqFields,part,go_sem]
 repeat' split
 all_goals simp_all

theorem sz_23:(Tryz.prog.info? 23).map (·.size)=some 1:=by kernel_rfl

def yI (N:Nat)  : Option (aB) :=
 some (⟨([([0,1]:List Int),([0,1]:List Int)]:List (List Int)),([(⟨1,([1,0]:List Int)⟩:aD),(⟨1,([0,1]:List Int)⟩:aD)]:List aD)⟩:aB)
theorem yH (d:Ctx G (Lf) w) {H:aB} (F:yI N=some H):Calls Tryz.prog 4 #[] w (λe w=>∃ (X:Option Addr) (B:aAf) (b:Option Addr) (D:aAf),e=.returned (.agg #[.slice X H.People.length B.1,.slice b H.Stations.length D.1])∧Ctx G (.row X B.1 ((aO B.2 H.People).map (Kd.v aT)) 22 1::bX aT (aO B.2 H.People)::.row b D.1 ((aO D.2 H.Stations).map (Kd.v bD)) 41 2::bX bD (aO D.2 H.Stations)::Lf) w):=by
 refine bY Tryz.func4 Z Tryz.ntmps4 Z λa f=>zS λK h=>zA f d aId Z λY a w f d=>zT h (wp_seq_k λK2 h2=>bK (gN (rows:=([0,1]:List Int).map aF) (vs:=[(0,i6 0),(1,i6 1)]) f d Z Z eV Z ⟨Z,Z,Z,Z,Z,Z,trivial⟩ Z Z λR a w f d=>gN (rows:=([0,1]:List Int).map aF) (vs:=[(0,i6 0),(1,i6 1)]) f d Z Z eV Z ⟨Z,Z,Z,Z,Z,Z,trivial⟩ Z Z λO a w f d=>gN (rows:=([(((sa R),2),([0,1]:List Int)),(((sa O),2),([0,1]:List Int))]:List (H2 × (List Int))).map (Kd.v aT)) (vs:=[(0,.slice (sa R) 2 2),(1,.slice (sa O) 2 2)]) f d Z Z aHx Z ⟨Z,Z,Z,Z,Z,Z,trivial⟩ Z Z λI a w f d=>gN (rows:=([1,0]:List Int).map aF) (vs:=[(0,i6 1),(1,i6 0)]) f d Z Z eV Z ⟨Z,Z,Z,Z,Z,Z,trivial⟩ Z Z λU a w f d=>zP f Z (bS (cells:=[i6 1,.slice (sa U) 2 2]) aHm Z Z) λa f=>gN (rows:=([0,1]:List Int).map aF) (vs:=[(0,i6 0),(1,i6 1)]) f d Z Z eV Z ⟨Z,Z,Z,Z,Z,Z,trivial⟩ Z Z λV a w f d=>zP f Z (bS (cells:=[i6 1,.slice (sa V) 2 2]) aHm Z Z) λa f=>gN (rows:=([(((sa U),2),(⟨1,([1,0]:List Int)⟩:aD)),(((sa V),2),(⟨1,([0,1]:List Int)⟩:aD))]:List (H2 × aD)).map (Kd.v bD)) (vs:=[(0,.agg #[i6 1,.slice (sa U) 2 2]),(1,.agg #[i6 1,.slice (sa V) 2 2])]) f d Z Z aI6 Z ⟨Z,Z,Z,Z,Z,Z,trivial⟩ Z Z λJ a w f d=>?_))
 refine zP f Z (bS (cells:=[.slice (sa I) 2 2,.slice (sa J) 2 2]) aQ6 Z Z) λa f=>zW f d aJc u6 Z λw d=>aN (have d:=((d.pick k1).pick k2).pick k2;?_)
 obtain ⟨S,d⟩:=aMi (K:=bD) ([(((sa U),2),(⟨1,([1,0]:List Int)⟩:aD)),(((sa V),2),(⟨1,([0,1]:List Int)⟩:aD))]:List (H2 × aD)) d
 refine have d:Ctx G (.row (sa J) 2 ((aO S ([(⟨1,([1,0]:List Int)⟩:aD),(⟨1,([0,1]:List Int)⟩:aD)]:List aD)).map (Kd.v bD)) 41 2::bX bD (aO S ([(⟨1,([1,0]:List Int)⟩:aD),(⟨1,([0,1]:List Int)⟩:aD)]:List aD))::.row (sa I) 2 (([(((sa R),2),([0,1]:List Int)),(((sa O),2),([0,1]:List Int))]:List (H2 × (List Int))).map (Kd.v aT)) 22 1::.row (sa O) 2 (([0,1]:List Int).map aF) 3 1::.row (sa R) 2 (([0,1]:List Int).map aF) 3 1::.box Y [.slice (sa I) 2 2,.slice (sa J) 2 2] 26::Lf) w:=d;have d:=((((d.pick k1).pick k1).pick k3).pick k4).pick k4;?_
 obtain ⟨M,d⟩:=aMi (K:=aT) ([(((sa R),2),([0,1]:List Int)),(((sa O),2),([0,1]:List Int))]:List (H2 × (List Int))) d
 refine have d:Ctx G (.row (sa I) 2 ((aO M ([([0,1]:List Int),([0,1]:List Int)]:List (List Int))).map (Kd.v aT)) 22 1::bX aT (aO M ([([0,1]:List Int),([0,1]:List Int)]:List (List Int)))::.row (sa J) 2 ((aO S ([(⟨1,([1,0]:List Int)⟩:aD),(⟨1,([0,1]:List Int)⟩:aD)]:List aD)).map (Kd.v bD)) 41 2::bX bD (aO S ([(⟨1,([1,0]:List Int)⟩:aD),(⟨1,([0,1]:List Int)⟩:aD)]:List aD))::.box Y [.slice (sa I) 2 2,.slice (sa J) 2 2] 26::Lf) w:=d;h2 _ _ (wp_ret ?_)
 obtain rfl:=sj F
 exact yY (by simp) Z Tryz.results4 f d (eE (vs:=[.slice (sa I) 2 2,.slice (sa J) 2 2]) qC Z Z (bT (n:=2) m4 Z)) ⟨(sa I),(2,M),(sa J),(2,S),Z,(d.drop k4)⟩

def iJ (N:Nat) (lo:Int) (B:Int):Option (aE) :=
 some (⟨lo,B⟩:aE)
theorem fJ (lo B:Int) (d:Ctx G (Lf) w) {D:aE} (F:iJ N lo B=some D):Cz G 10 #[i6 lo,i6 B] w (.agg #[i6 D.Lo,i6 D.Hi]) (Lf):=by
 refine bY Tryz.func10 Z Tryz.ntmps10 Z λa f=>zS λK h=>zA f d aE8 Z λH a w f d=>zT h (zS λK h=>sp 2 f Z λa f=>zP f Z (bS (cells:=[i6 lo,i6 B]) aBn Z Z) λa f=>zW f d uS u0 Z λw d=>zT h (wp_ret ?_))
 obtain rfl:=sj F
 exact yY (by simp) Z Tryz.results10 f d (eE (vs:=[i6 lo,i6 B]) rG Z Z (bT (n:=2) m0 Z)) ⟨Z,(d.drop k0)⟩

def wI (N:Nat) (B:Int):Option ((List aG)) :=
 Option.bind (iJ N 30 40) λr=>
 Option.bind (iJ N 20 25) λD=>
 Option.bind (iJ N 10 10) λH=>
 some ([(⟨r,D,35,60⟩:aG),(⟨H,(⟨0,0⟩:aE),0,B⟩:aG)]:List aG)
theorem wR (B:Int) (d:Ctx G (Lf) w) {I:(List aG)} (F:wI N B=some I):Calls Tryz.prog 5 #[i6 B] w (λe w=>∃ (J:Option Addr) (M:Nat),e=.returned (.slice J I.length M)∧Ctx G (.row J M (I.map aX) 45 6::Lf) w):=by
 refine bY Tryz.func5 Z Tryz.ntmps5 Z λa f=>zS λK h=>sp 1 f Z λa f=>zT h (zS λK h=>aH F λr hr F=>zQ (v:=.agg #[i6 r.Lo,i6 r.Hi]) f d (eN 10) Z (λw d=>fJ 30 40 d hr) λa w f d=>aH F λH R F=>zQ (v:=.agg #[i6 H.Lo,i6 H.Hi]) f d (eN 10) Z (λw d=>fJ 20 25 d R) λa w f d=>zP f Z (bS (cells:=[i6 r.Lo,i6 r.Hi,i6 H.Lo,i6 H.Hi,i6 35,i6 60]) aLl Z Z) λa f=>aH F λD O F=>zQ (v:=.agg #[i6 D.Lo,i6 D.Hi]) f d (eN 10) Z (λw d=>fJ 10 10 d O) λa w f d=>sp 1 f Z λa f=>zP f Z (bS (cells:=[i6 D.Lo,i6 D.Hi,i6 0,i6 0,i6 0,i6 B]) aLl Z Z) λa f=>?_)
 refine gN (rows:=([(⟨r,H,35,60⟩:aG),(⟨D,(⟨0,0⟩:aE),0,B⟩:aG)]:List aG).map aX) (vs:=[(0,.agg #[i6 r.Lo,i6 r.Hi,i6 H.Lo,i6 H.Hi,i6 35,i6 60]),(1,.agg #[i6 D.Lo,i6 D.Hi,i6 0,i6 0,i6 0,i6 B])]) f d Z Z aLk Z ⟨Z,Z,Z,Z,Z,Z,trivial⟩ Z Z λS a w f d=>sp 1 f Z λa f=>zT h (wp_ret ?_)
 obtain rfl:=sj F
 exact zO1 Tryz.results5 f Z ⟨(sa S),2,Z,d⟩

def uE (N:Nat)  : Option (aJ) :=
 Option.bind (iJ N 80 90) λr=>
 Option.bind (iJ N 160 180) λB=>
 some (⟨50,100,250,3000,([(⟨0,10,r⟩:aC),(⟨5,5,B⟩:aC)]:List aC)⟩:aJ)
theorem wK (d:Ctx G (Lf) w) {B:aJ} (F:uE N=some B):Calls Tryz.prog 6 #[] w (λe w=>∃ (I:Option Addr) (J:Nat),e=.returned (.agg #[i6 B.Car,i6 B.Wide,i6 B.Sag,i6 B.Most,.slice I B.Rides.length J])∧Ctx G (.row I J (B.Rides.map aI) 47 4::Lf) w):=by
 refine bY Tryz.func6 Z Tryz.ntmps6 Z λa f=>zS λK h=>zA f d aE9 Z λO a w f d=>zT h (zS λK h=>aH F λr hr F=>zQ (v:=.agg #[i6 r.Lo,i6 r.Hi]) f d (eN 10) Z (λw d=>fJ 80 90 d hr) λa w f d=>zP f Z (bS (cells:=[i6 0,i6 10,i6 r.Lo,i6 r.Hi]) aLe Z Z) λa f=>aH F λD M F=>zQ (v:=.agg #[i6 D.Lo,i6 D.Hi]) f d (eN 10) Z (λw d=>fJ 160 180 d M) λa w f d=>zP f Z (bS (cells:=[i6 5,i6 5,i6 D.Lo,i6 D.Hi]) aLe Z Z) λa f=>gN (rows:=([(⟨0,10,r⟩:aC),(⟨5,5,D⟩:aC)]:List aC).map aI) (vs:=[(0,.agg #[i6 0,i6 10,i6 r.Lo,i6 r.Hi]),(1,.agg #[i6 5,i6 5,i6 D.Lo,i6 D.Hi])]) f d Z Z aBo Z ⟨Z,Z,Z,Z,Z,Z,trivial⟩ Z Z λH a w f d=>zP f Z (bS (cells:=[i6 50,i6 100,i6 250,i6 3000,.slice (sa H) 2 2]) aPz Z Z) λa f=>zW f d aDj u1 Z λw d=>?_)
 refine zT h (wp_ret ?_)
 obtain rfl:=sj F
 exact yY (by simp) Z Tryz.results6 f d (eE (vs:=[i6 50,i6 100,i6 250,i6 3000,.slice (sa H) 2 2]) lC Z Z (bT (n:=5) m1 Z)) ⟨(sa H),2,Z,(d.drop k1)⟩

def aR (n:Int) (D:Int) (B:Int):Bool :=
 ((decide (D≤n)) && (decide (n≤B)))
theorem dP (n D B:Int) (d:Ctx G (Lf) w) {H:Bool} (F:aR n D B=H):Cz G 53 #[i6 n,i6 D,i6 B] w (.bool H) (Lf):=by
 refine bY Tryz.func53 Z Tryz.ntmps53 Z λa f=>zS λK h=>sp 1 f Z λa f=>zT h (zS λK h=>sp 4 f Z λa f=>cV 4 (λa=>Has 15 a [(6,.bool false),(14,.bool ((decide (D≤n)) && (decide (n≤B))))]) d ?_ ?_)
 ·cases hb:(decide (D≤n)) <;> (rw [hb] at f;exact sp 4 f Z λa f=>aN ⟨f.kp Z,d⟩)
 intro a w ⟨f,d⟩
 refine sp 1 f Z λa f=>zT h (wp_ret ?_)
 obtain rfl:=F
 exact zO1 Tryz.results53 f Z ⟨Z,d⟩

def sS (s_:Int) (x:aB):Bool :=
 (aR s_ 0 (W (((x.Stations.length:Nat):Int) - 1)))
theorem aEf {b_ I D:Nat} {H B:Option Addr} (s_:Int) (x:aB) (M:RdT aT G 1 H I x.People) (J:RdT bD G 2 B D x.Stations) (d:Ctx G (.box b_ [.slice H x.People.length I,.slice B x.Stations.length D] 26::Lf) w) {O:Bool} (F:sS s_ x=O):Cz G 57 #[i6 s_,pq b_] w (.bool O) (.box b_ [.slice H x.People.length I,.slice B x.Stations.length D] 26::Lf):=by
 refine bY Tryz.func57 Z Tryz.ntmps57 Z λa f=>zS λK h=>sp 1 f Z λa f=>zT h (zS λK h=>sp 1 f Z λa f=>zP f Z (pFA fH Z) λa f=>zL f d pB m0 Z λa w f d=>zP f Z (bA Tryz.underlying24 Z) λa f=>sp 1 f Z λa f=>zQ (v:=.bool (aR s_ 0 (W (((x.Stations.length:Nat):Int) - 1)))) f d (eN 53) Z (λw d=>dP s_ 0 (W (((x.Stations.length:Nat):Int) - 1)) d Z) λa w f d=>sp 1 f Z λa f=>zT h (wp_ret ?_))
 obtain rfl:=F
 exact zO1 Tryz.results57 f Z ⟨Z,d⟩

def kO (x:Int) (B:aB):Bool :=
 (!(sS x B))
theorem aDc {b_ R H B:Nat} {I D:Option Addr} (x:Int) (J:aB) (O:RdT aT G 1 I H J.People) (M:RdT bD G 2 D B J.Stations) (d:Ctx G (.box b_ [.func (.func 57) #[] #[pq R]] 117::.box R [.slice I J.People.length H,.slice D J.Stations.length B] 26::Lf) w) {S:Bool} (F:kO x J=S):Cz G 107 #[i6 x,pq b_] w (.bool S) (.box b_ [.func (.func 57) #[] #[pq R]] 117::.box R [.slice I J.People.length H,.slice D J.Stations.length B] 26::Lf):=by
 refine bY Tryz.func107 Z Tryz.ntmps107 Z λa f=>zS λK h=>sp 1 f Z λa f=>zT h (zS λK h=>zL f d aJv m0 Z λa w f d=>sp 1 f Z λa f=>zQ (v:=.bool (sS x J)) f d (eN 57) Z (λw d=>(aEf x J O M (d.pick k1) Z).mono λe w h=>⟨h.1,(h.2.unpick k1)⟩) λa w f d=>sp 2 f Z λa f=>zT h (wp_ret ?_))
 obtain rfl:=F
 exact zO1 Tryz.results107 f Z ⟨Z,d⟩

def mE (N:Nat) (s_:List Int) (f_:aB) (x:Int):Option (bC (Int) (Int)) :=
 cond (decide (x < ((s_.length:Nat):Int)))
 (Option.bind (aQ s_ x) λB=>
 cond (kO B f_)
 (some (.ret x))
 (some (.cont (W (x + 1)))))
 (some (.brk x))
def jW (N:Nat) (s_:List Int) (f_:aB):Option (Int) :=
 Option.bind (aS (λs4=>mE N s_ f_ s4) N 0) λx4=>
 exK x4 (λs4=>some (-1)) some
theorem xG {V I B:Option Addr} {U b_ M H D:Nat} (s_:List Int) (f_:aB) (b:Rd G 1 V U (s_.map aF)) (R:RdT aT G 1 I H f_.People) (O:RdT bD G 2 B D f_.Stations) (d:Ctx G (.box b_ [.func (.func 57) #[] #[pq M]] 117::.box M [.slice I f_.People.length H,.slice B f_.Stations.length D] 26::Lf) w) {X:Int} (F:jW N s_ f_=some X):Cz G 97 #[.slice V s_.length U,.func (.func 107) #[] #[pq b_]] w (i6 X) (.box b_ [.func (.func 57) #[] #[pq M]] 117::.box M [.slice I f_.People.length H,.slice B f_.Stations.length D] 26::Lf):=by
 refine bY Tryz.func97 Z Tryz.ntmps97 Z λa f=>zS λK h=>sp 1 f Z λa f=>zT h (wp_seq_k λK2 h2=>zS λK h=>sp 1 f Z λa f=>zP f Z (bA Tryz.underlying22 Z) λa f=>sp 1 f Z λa f=>zT h (wp_block (aH F λx4 n F=>?_)))
 let S4:Int→Act→World→Prop:=(λ(zz:Int) a w=>Has 19 a [(0,.slice V s_.length U),(1,.func (.func 107) #[] #[pq b_]),(7,i6 ((s_.length:Nat):Int)),(8,i6 zz)]∧Ctx G (.box b_ [.func (.func 57) #[] #[pq M]] 117::.box M [.slice I f_.People.length H,.slice B f_.Stations.length D] 26::Lf) w)
 have k:∀ (zz:Int) a w,x4=.go zz→S4 zz a w→K2 a w:=by
  rintro x a w rfl ⟨f,d⟩
  refine have F:=bI F;h2 _ _ (zS λK h=>sp 1 f Z λa f=>zT h (wp_ret ?_))
  obtain rfl:=sj F
  exact zO1 Tryz.results97 f Z ⟨Z,d⟩
 have i:∀ r,x4=.out r→r=X:=by
  rintro r rfl
  exact sj F
 refine cF N (cE (S:=S4) (x:=x4) ?_ N 0 _ _ ⟨f.kp Z,d⟩ n)
 clear F f d
 rintro x p a w KB4 ⟨f,d⟩ F J m
 refine zS λK h=>sp 1 f Z λa f=>zT h (wp_seq_k λK7 h7=>zI f Z F ?_ ?_) <;> intro F
 ·refine wp_skip (h7 _ _ (wp_seq_k λK8 h8=>wp_block (zS λK h=>sp 2 f Z λa f=>zT h (zS λK h=>sp 3 f Z λa f=>aH F λY g F=>?_))))
  obtain ⟨q,o,qa,qp⟩:=b.atm g
  refine zP f Z (pIA Tryz.underlying22 cS Z Z qa) λa f=>zE f d Z (bB aZ Z (aV (j:=0) qp Z)) λa w f d=>zQ (v:=.bool (kO Y f_)) f d (eN 107) Z (λw d=>(aDc Y f_ R O ((d.pick k1).pick k1) Z).mono λe w h=>⟨h.1,((h.2.unpick k1).unpick k1)⟩) λa w f d=>zT h (zI f Z F ?_ ?_) <;> intro F
  ·refine zS λK h=>sp 2 f Z λa f=>zT h (wp_ret (bG (aL (aL (have J:=cB F J;have F:=i _ J;bG (aL ?_))))))
   obtain rfl:=F
   exact zO1 Tryz.results97 f Z ⟨Z,d⟩
  ·exact wp_skip (h8 _ _ (bK (sp 2 f Z λa f=>aN (m (W (x + 1)) _ _ (sj F).symm ⟨f.kp Z,d⟩))))
 ·exact wp_exit (aP (aP (have J:=cB F J;cX (k _ _ _ J ⟨f.kp Z,d⟩))))

def iB (N:Nat) (s_:List Int) (f_:aB):Option (Bool) :=
 Option.bind (jW N s_ f_) λr=>
 some (decide (0≤r))
theorem vY {S I D:Option Addr} {R b_ O H B:Nat} (s_:List Int) (f_:aB) (V:Rd G 1 S R (s_.map aF)) (M:RdT aT G 1 I H f_.People) (J:RdT bD G 2 D B f_.Stations) (d:Ctx G (.box b_ [.func (.func 57) #[] #[pq O]] 117::.box O [.slice I f_.People.length H,.slice D f_.Stations.length B] 26::Lf) w) {U:Bool} (F:iB N s_ f_=some U):Cz G 76 #[.slice S s_.length R,.func (.func 107) #[] #[pq b_]] w (.bool U) (.box b_ [.func (.func 57) #[] #[pq O]] 117::.box O [.slice I f_.People.length H,.slice D f_.Stations.length B] 26::Lf):=by
 refine bY Tryz.func76 Z Tryz.ntmps76 Z λa f=>zS λK h=>sp 1 f Z λa f=>zT h (zS λK h=>sp 2 f Z λa f=>aH F λr hr F=>zQ (v:=i6 r) f d (eN 97) Z (λw d=>(xG s_ f_ V M J ((d.pick k1).pick k1) hr).mono λe w h=>⟨h.1,((h.2.unpick k1).unpick k1)⟩) λa w f d=>sp 2 f Z λa f=>zT h (wp_ret ?_))
 obtain rfl:=sj F
 exact zO1 Tryz.results76 f Z ⟨Z,d⟩

def pV (N:Nat) (l:List Int) (so:aB):Option (Bool) :=
 Option.bind (iB N l so) λr=>
 some (!r)
theorem aE3 {R H D:Option Addr} {S b_ I B:Nat} (l:List Int) (so:aB) (U:Rd G 1 R S (l.map aF)) (M:RdT aT G 1 H I so.People) (J:RdT bD G 2 D B so.Stations) (d:Ctx G (.box b_ [.slice H so.People.length I,.slice D so.Stations.length B] 26::Lf) w) {O:Bool} (F:pV N l so=some O):Cz G 56 #[.slice R l.length S,.func (.func 57) #[] #[pq b_]] w (.bool O) (.box b_ [.slice H so.People.length I,.slice D so.Stations.length B] 26::Lf):=by
 refine bY Tryz.func56 Z Tryz.ntmps56 Z λa f=>zS λK h=>zB f d Z λV a w f d=>sp 1 f Z λa f=>zT h (zS λK h=>sp 1 f Z λa f=>zP f Z (pMF (us:=[pq V]) Z Z) λa f=>aH F λr hr F=>zQ (v:=.bool r) f d (eN 76) Z (λw d=>(vY l so U M J ((d.pick k1).pick k1) hr).mono λe w h=>⟨h.1,((h.2.unpick k1).unpick k1)⟩) λa w f d=>sp 2 f Z λa f=>zT h (wp_ret ?_))
 obtain rfl:=sj F
 exact have d:=d.drop k0;zO1 Tryz.results56 f Z ⟨Z,d⟩

def xT (N:Nat) (l:List Int) (x:aB):Option (Bool) :=
 Option.bind (pV N l (⟨x.People,x.Stations⟩:aB)) λr=>
 some r
theorem aGj {R H B:Option Addr} {S b_ I D:Nat} (l:List Int) (x:aB) (U:Rd G 1 R S (l.map aF)) (M:RdT aT G 1 H I x.People) (J:RdT bD G 2 B D x.Stations) (d:Ctx G (.box b_ [.slice H x.People.length I,.slice B x.Stations.length D] 26::Lf) w) {O:Bool} (F:xT N l x=some O):Cz G 55 #[.slice R l.length S,pq b_] w (.bool O) (.box b_ [.slice H x.People.length I,.slice B x.Stations.length D] 26::Lf):=by
 refine bY Tryz.func55 Z Tryz.ntmps55 Z λa f=>zS λK h=>sp 1 f Z λa f=>zT h (zS λK h=>sp 1 f Z λa f=>zP f Z (pMF (us:=[pq b_]) Z Z) λa f=>aH F λr hr F=>zQ (v:=.bool r) f d (eN 56) Z (λw d=>(aE3 l (⟨x.People,x.Stations⟩:aB) U M J (d.pick k0) hr).mono λe w h=>⟨h.1,(h.2.unpick k0)⟩) λa w f d=>sp 1 f Z λa f=>zT h (wp_ret ?_))
 obtain rfl:=sj F
 exact zO1 Tryz.results55 f Z ⟨Z,d⟩

def lP (N:Nat) (x:List Int) (B:aB):Option (Bool) :=
 Option.bind (xT N x B) λr=>
 some (!r)
theorem aB6 {U I D:Option Addr} {V b_ R H B:Nat} (x:List Int) (M:aB) (X:Rd G 1 U V (x.map aF)) (O:RdT aT G 1 I H M.People) (J:RdT bD G 2 D B M.Stations) (d:Ctx G (.box b_ [.func (.func 55) #[] #[pq R]] 118::.box R [.slice I M.People.length H,.slice D M.Stations.length B] 26::Lf) w) {S:Bool} (F:lP N x M=some S):Cz G 106 #[.slice U x.length V,pq b_] w (.bool S) (.box b_ [.func (.func 55) #[] #[pq R]] 118::.box R [.slice I M.People.length H,.slice D M.Stations.length B] 26::Lf):=by
 refine bY Tryz.func106 Z Tryz.ntmps106 Z λa f=>zS λK h=>sp 1 f Z λa f=>zT h (zS λK h=>zL f d aPx m0 Z λa w f d=>sp 1 f Z λa f=>aH F λr hr F=>zQ (v:=.bool r) f d (eN 55) Z (λw d=>(aGj x M X O J (d.pick k1) hr).mono λe w h=>⟨h.1,(h.2.unpick k1)⟩) λa w f d=>sp 2 f Z λa f=>zT h (wp_ret ?_))
 obtain rfl:=sj F
 exact zO1 Tryz.results106 f Z ⟨Z,d⟩

def kN (N:Nat) (s_:List (List Int)) (f_:aB) (x:Int):Option (bC (Int) (Int)) :=
 cond (decide (x < ((s_.length:Nat):Int)))
 (Option.bind (aQ s_ x) λB=>
 Option.bind (lP N B f_) λr=>
 cond r
 (some (.ret x))
 (some (.cont (W (x + 1)))))
 (some (.brk x))
def iS (N:Nat) (s_:List (List Int)) (f_:aB):Option (Int) :=
 Option.bind (aS (λs4=>kN N s_ f_ s4) N 0) λx4=>
 exK x4 (λs4=>some (-1)) some
theorem wG {V I B:Option Addr} {U b_ M H D:Nat} (s_:List (List Int)) (f_:aB) (Y:RdT aT G 1 V U s_) (R:RdT aT G 1 I H f_.People) (O:RdT bD G 2 B D f_.Stations) (d:Ctx G (.box b_ [.func (.func 55) #[] #[pq M]] 118::.box M [.slice I f_.People.length H,.slice B f_.Stations.length D] 26::Lf) w) {X:Int} (F:iS N s_ f_=some X):Cz G 130 #[.slice V s_.length U,.func (.func 106) #[] #[pq b_]] w (i6 X) (.box b_ [.func (.func 55) #[] #[pq M]] 118::.box M [.slice I f_.People.length H,.slice B f_.Stations.length D] 26::Lf):=by
 refine bY Tryz.func130 Z Tryz.ntmps130 Z λa f=>zS λK h=>sp 1 f Z λa f=>zT h (wp_seq_k λK2 h2=>zS λK h=>sp 1 f Z λa f=>zP f Z (bA Tryz.underlying23 Z) λa f=>sp 1 f Z λa f=>zT h (wp_block (aH F λx4 n F=>?_)))
 let S4:Int→Act→World→Prop:=(λ(zz:Int) a w=>Has 19 a [(0,.slice V s_.length U),(1,.func (.func 106) #[] #[pq b_]),(7,i6 ((s_.length:Nat):Int)),(8,i6 zz)]∧Ctx G (.box b_ [.func (.func 55) #[] #[pq M]] 118::.box M [.slice I f_.People.length H,.slice B f_.Stations.length D] 26::Lf) w)
 have k:∀ (zz:Int) a w,x4=.go zz→S4 zz a w→K2 a w:=by
  rintro x a w rfl ⟨f,d⟩
  refine have F:=bI F;h2 _ _ (zS λK h=>sp 1 f Z λa f=>zT h (wp_ret ?_))
  obtain rfl:=sj F
  exact zO1 Tryz.results130 f Z ⟨Z,d⟩
 have g:∀ r,x4=.out r→r=X:=by
  rintro r rfl
  exact sj F
 refine cF N (cE (S:=S4) (x:=x4) ?_ N 0 _ _ ⟨f.kp Z,d⟩ n)
 clear F f d
 rintro x p a w KB4 ⟨f,d⟩ F J m
 refine zS λK h=>sp 1 f Z λa f=>zT h (wp_seq_k λK7 h7=>zI f Z F ?_ ?_) <;> intro F
 ·refine wp_skip (h7 _ _ (wp_seq_k λK8 h8=>wp_block (zS λK h=>sp 2 f Z λa f=>zT h (zS λK h=>sp 3 f Z λa f=>aH F λi b F=>?_))))
  obtain ⟨q,o,hd,qa,qp,qr⟩:=Y.atm b
  refine zP f Z (pIA Tryz.underlying23 lN Z Z qa) λa f=>zE f d Z (bB eL Z (aV (j:=0) qp Z)) λa w f d=>aH F λr hr F=>zQ (v:=.bool r) f d (eN 106) Z (λw d=>(aB6 i f_ qr R O ((d.pick k1).pick k1) hr).mono λe w h=>⟨h.1,((h.2.unpick k1).unpick k1)⟩) λa w f d=>zT h (zI f Z F ?_ ?_) <;> intro F
  ·refine zS λK h=>sp 2 f Z λa f=>zT h (wp_ret (bG (aL (aL (have J:=cB F J;have F:=g _ J;bG (aL ?_))))))
   obtain rfl:=F
   exact zO1 Tryz.results130 f Z ⟨Z,d⟩
  ·exact wp_skip (h8 _ _ (bK (sp 2 f Z λa f=>aN (m (W (x + 1)) _ _ (sj F).symm ⟨f.kp Z,d⟩))))
 ·exact wp_exit (aP (aP (have J:=cB F J;cX (k _ _ _ J ⟨f.kp Z,d⟩))))

def gJ (N:Nat) (s_:List (List Int)) (f_:aB):Option (Bool) :=
 Option.bind (iS N s_ f_) λr=>
 some (decide (0≤r))
theorem uX {S I D:Option Addr} {R b_ O H B:Nat} (s_:List (List Int)) (f_:aB) (V:RdT aT G 1 S R s_) (M:RdT aT G 1 I H f_.People) (J:RdT bD G 2 D B f_.Stations) (d:Ctx G (.box b_ [.func (.func 55) #[] #[pq O]] 118::.box O [.slice I f_.People.length H,.slice D f_.Stations.length B] 26::Lf) w) {U:Bool} (F:gJ N s_ f_=some U):Cz G 105 #[.slice S s_.length R,.func (.func 106) #[] #[pq b_]] w (.bool U) (.box b_ [.func (.func 55) #[] #[pq O]] 118::.box O [.slice I f_.People.length H,.slice D f_.Stations.length B] 26::Lf):=by
 refine bY Tryz.func105 Z Tryz.ntmps105 Z λa f=>zS λK h=>sp 1 f Z λa f=>zT h (zS λK h=>sp 2 f Z λa f=>aH F λr hr F=>zQ (v:=i6 r) f d (eN 130) Z (λw d=>(wG s_ f_ V M J ((d.pick k1).pick k1) hr).mono λe w h=>⟨h.1,((h.2.unpick k1).unpick k1)⟩) λa w f d=>sp 2 f Z λa f=>zT h (wp_ret ?_))
 obtain rfl:=sj F
 exact zO1 Tryz.results105 f Z ⟨Z,d⟩

def oB (N:Nat) (l:List (List Int)) (so:aB):Option (Bool) :=
 Option.bind (gJ N l so) λr=>
 some (!r)
theorem aDq {R H D:Option Addr} {S b_ I B:Nat} (l:List (List Int)) (so:aB) (U:RdT aT G 1 R S l) (M:RdT aT G 1 H I so.People) (J:RdT bD G 2 D B so.Stations) (d:Ctx G (.box b_ [.slice H so.People.length I,.slice D so.Stations.length B] 26::Lf) w) {O:Bool} (F:oB N l so=some O):Cz G 54 #[.slice R l.length S,.func (.func 55) #[] #[pq b_]] w (.bool O) (.box b_ [.slice H so.People.length I,.slice D so.Stations.length B] 26::Lf):=by
 refine bY Tryz.func54 Z Tryz.ntmps54 Z λa f=>zS λK h=>zB f d Z λV a w f d=>sp 1 f Z λa f=>zT h (zS λK h=>sp 1 f Z λa f=>zP f Z (pMF (us:=[pq V]) Z Z) λa f=>aH F λr hr F=>zQ (v:=.bool r) f d (eN 105) Z (λw d=>(uX l so U M J ((d.pick k1).pick k1) hr).mono λe w h=>⟨h.1,((h.2.unpick k1).unpick k1)⟩) λa w f d=>sp 2 f Z λa f=>zT h (wp_ret ?_))
 obtain rfl:=sj F
 exact have d:=d.drop k0;zO1 Tryz.results54 f Z ⟨Z,d⟩

def sN (p_:Int) (x:aB):Bool :=
 (aR p_ 0 (W (((x.People.length:Nat):Int) - 1)))
theorem aE7 {b_ I D:Nat} {H B:Option Addr} (p_:Int) (x:aB) (M:RdT aT G 1 H I x.People) (J:RdT bD G 2 B D x.Stations) (d:Ctx G (.box b_ [.slice H x.People.length I,.slice B x.Stations.length D] 26::Lf) w) {O:Bool} (F:sN p_ x=O):Cz G 60 #[i6 p_,pq b_] w (.bool O) (.box b_ [.slice H x.People.length I,.slice B x.Stations.length D] 26::Lf):=by
 refine bY Tryz.func60 Z Tryz.ntmps60 Z λa f=>zS λK h=>sp 1 f Z λa f=>zT h (zS λK h=>sp 1 f Z λa f=>zP f Z (pFA iG Z) λa f=>zL f d gR m0 Z λa w f d=>zP f Z (bA Tryz.underlying23 Z) λa f=>sp 1 f Z λa f=>zQ (v:=.bool (aR p_ 0 (W (((x.People.length:Nat):Int) - 1)))) f d (eN 53) Z (λw d=>dP p_ 0 (W (((x.People.length:Nat):Int) - 1)) d Z) λa w f d=>sp 1 f Z λa f=>zT h (wp_ret ?_))
 obtain rfl:=F
 exact zO1 Tryz.results60 f Z ⟨Z,d⟩

def gU (x:Int) (B:aB):Bool :=
 (!(sN x B))
theorem aBj {b_ R H B:Nat} {I D:Option Addr} (x:Int) (J:aB) (O:RdT aT G 1 I H J.People) (M:RdT bD G 2 D B J.Stations) (d:Ctx G (.box b_ [.func (.func 60) #[] #[pq R]] 117::.box R [.slice I J.People.length H,.slice D J.Stations.length B] 26::Lf) w) {S:Bool} (F:gU x J=S):Cz G 107 #[i6 x,pq b_] w (.bool S) (.box b_ [.func (.func 60) #[] #[pq R]] 117::.box R [.slice I J.People.length H,.slice D J.Stations.length B] 26::Lf):=by
 refine bY Tryz.func107 Z Tryz.ntmps107 Z λa f=>zS λK h=>sp 1 f Z λa f=>zT h (zS λK h=>zL f d aJv m0 Z λa w f d=>sp 1 f Z λa f=>zQ (v:=.bool (sN x J)) f d (eN 60) Z (λw d=>(aE7 x J O M (d.pick k1) Z).mono λe w h=>⟨h.1,(h.2.unpick k1)⟩) λa w f d=>sp 2 f Z λa f=>zT h (wp_ret ?_))
 obtain rfl:=F
 exact zO1 Tryz.results107 f Z ⟨Z,d⟩

def jS (N:Nat) (s_:List Int) (f_:aB) (x:Int):Option (bC (Int) (Int)) :=
 cond (decide (x < ((s_.length:Nat):Int)))
 (Option.bind (aQ s_ x) λB=>
 cond (gU B f_)
 (some (.ret x))
 (some (.cont (W (x + 1)))))
 (some (.brk x))
def iF (N:Nat) (s_:List Int) (f_:aB):Option (Int) :=
 Option.bind (aS (λs4=>jS N s_ f_ s4) N 0) λx4=>
 exK x4 (λs4=>some (-1)) some
theorem vU {V I B:Option Addr} {U b_ M H D:Nat} (s_:List Int) (f_:aB) (b:Rd G 1 V U (s_.map aF)) (R:RdT aT G 1 I H f_.People) (O:RdT bD G 2 B D f_.Stations) (d:Ctx G (.box b_ [.func (.func 60) #[] #[pq M]] 117::.box M [.slice I f_.People.length H,.slice B f_.Stations.length D] 26::Lf) w) {X:Int} (F:iF N s_ f_=some X):Cz G 97 #[.slice V s_.length U,.func (.func 107) #[] #[pq b_]] w (i6 X) (.box b_ [.func (.func 60) #[] #[pq M]] 117::.box M [.slice I f_.People.length H,.slice B f_.Stations.length D] 26::Lf):=by
 refine bY Tryz.func97 Z Tryz.ntmps97 Z λa f=>zS λK h=>sp 1 f Z λa f=>zT h (wp_seq_k λK2 h2=>zS λK h=>sp 1 f Z λa f=>zP f Z (bA Tryz.underlying22 Z) λa f=>sp 1 f Z λa f=>zT h (wp_block (aH F λx4 n F=>?_)))
 let S4:Int→Act→World→Prop:=(λ(zz:Int) a w=>Has 19 a [(0,.slice V s_.length U),(1,.func (.func 107) #[] #[pq b_]),(7,i6 ((s_.length:Nat):Int)),(8,i6 zz)]∧Ctx G (.box b_ [.func (.func 60) #[] #[pq M]] 117::.box M [.slice I f_.People.length H,.slice B f_.Stations.length D] 26::Lf) w)
 have k:∀ (zz:Int) a w,x4=.go zz→S4 zz a w→K2 a w:=by
  rintro x a w rfl ⟨f,d⟩
  refine have F:=bI F;h2 _ _ (zS λK h=>sp 1 f Z λa f=>zT h (wp_ret ?_))
  obtain rfl:=sj F
  exact zO1 Tryz.results97 f Z ⟨Z,d⟩
 have i:∀ r,x4=.out r→r=X:=by
  rintro r rfl
  exact sj F
 refine cF N (cE (S:=S4) (x:=x4) ?_ N 0 _ _ ⟨f.kp Z,d⟩ n)
 clear F f d
 rintro x p a w KB4 ⟨f,d⟩ F J m
 refine zS λK h=>sp 1 f Z λa f=>zT h (wp_seq_k λK7 h7=>zI f Z F ?_ ?_) <;> intro F
 ·refine wp_skip (h7 _ _ (wp_seq_k λK8 h8=>wp_block (zS λK h=>sp 2 f Z λa f=>zT h (zS λK h=>sp 3 f Z λa f=>aH F λY g F=>?_))))
  obtain ⟨q,o,qa,qp⟩:=b.atm g
  refine zP f Z (pIA Tryz.underlying22 cS Z Z qa) λa f=>zE f d Z (bB aZ Z (aV (j:=0) qp Z)) λa w f d=>zQ (v:=.bool (gU Y f_)) f d (eN 107) Z (λw d=>(aBj Y f_ R O ((d.pick k1).pick k1) Z).mono λe w h=>⟨h.1,((h.2.unpick k1).unpick k1)⟩) λa w f d=>zT h (zI f Z F ?_ ?_) <;> intro F
  ·refine zS λK h=>sp 2 f Z λa f=>zT h (wp_ret (bG (aL (aL (have J:=cB F J;have F:=i _ J;bG (aL ?_))))))
   obtain rfl:=F
   exact zO1 Tryz.results97 f Z ⟨Z,d⟩
  ·exact wp_skip (h8 _ _ (bK (sp 2 f Z λa f=>aN (m (W (x + 1)) _ _ (sj F).symm ⟨f.kp Z,d⟩))))
 ·exact wp_exit (aP (aP (have J:=cB F J;cX (k _ _ _ J ⟨f.kp Z,d⟩))))

def fY (N:Nat) (s_:List Int) (f_:aB):Option (Bool) :=
 Option.bind (iF N s_ f_) λr=>
 some (decide (0≤r))
theorem uK {S I D:Option Addr} {R b_ O H B:Nat} (s_:List Int) (f_:aB) (V:Rd G 1 S R (s_.map aF)) (M:RdT aT G 1 I H f_.People) (J:RdT bD G 2 D B f_.Stations) (d:Ctx G (.box b_ [.func (.func 60) #[] #[pq O]] 117::.box O [.slice I f_.People.length H,.slice D f_.Stations.length B] 26::Lf) w) {U:Bool} (F:fY N s_ f_=some U):Cz G 76 #[.slice S s_.length R,.func (.func 107) #[] #[pq b_]] w (.bool U) (.box b_ [.func (.func 60) #[] #[pq O]] 117::.box O [.slice I f_.People.length H,.slice D f_.Stations.length B] 26::Lf):=by
 refine bY Tryz.func76 Z Tryz.ntmps76 Z λa f=>zS λK h=>sp 1 f Z λa f=>zT h (zS λK h=>sp 2 f Z λa f=>aH F λr hr F=>zQ (v:=i6 r) f d (eN 97) Z (λw d=>(vU s_ f_ V M J ((d.pick k1).pick k1) hr).mono λe w h=>⟨h.1,((h.2.unpick k1).unpick k1)⟩) λa w f d=>sp 2 f Z λa f=>zT h (wp_ret ?_))
 obtain rfl:=sj F
 exact zO1 Tryz.results76 f Z ⟨Z,d⟩

def lV (N:Nat) (l:List Int) (so:aB):Option (Bool) :=
 Option.bind (fY N l so) λr=>
 some (!r)
theorem aCk {R H D:Option Addr} {S b_ I B:Nat} (l:List Int) (so:aB) (U:Rd G 1 R S (l.map aF)) (M:RdT aT G 1 H I so.People) (J:RdT bD G 2 D B so.Stations) (d:Ctx G (.box b_ [.slice H so.People.length I,.slice D so.Stations.length B] 26::Lf) w) {O:Bool} (F:lV N l so=some O):Cz G 56 #[.slice R l.length S,.func (.func 60) #[] #[pq b_]] w (.bool O) (.box b_ [.slice H so.People.length I,.slice D so.Stations.length B] 26::Lf):=by
 refine bY Tryz.func56 Z Tryz.ntmps56 Z λa f=>zS λK h=>zB f d Z λV a w f d=>sp 1 f Z λa f=>zT h (zS λK h=>sp 1 f Z λa f=>zP f Z (pMF (us:=[pq V]) Z Z) λa f=>aH F λr hr F=>zQ (v:=.bool r) f d (eN 76) Z (λw d=>(uK l so U M J ((d.pick k1).pick k1) hr).mono λe w h=>⟨h.1,((h.2.unpick k1).unpick k1)⟩) λa w f d=>sp 2 f Z λa f=>zT h (wp_ret ?_))
 obtain rfl:=sj F
 exact have d:=d.drop k0;zO1 Tryz.results56 f Z ⟨Z,d⟩

def xS (N:Nat) (s_:aD) (x:aB):Option (Bool) :=
 Option.bind (cond (aR s_.Places 1 12) (Option.bind (lV N s_.Order (⟨x.People,x.Stations⟩:aB)) λr=>
 some r) (some false)) λB=>
 some B
theorem aGi {J H B:Option Addr} {M b_ I D:Nat} (s_:aD) (x:aB) (R:Rd G 1 J M (s_.Order.map aF)) (S:RdT aT G 1 H I x.People) (O:RdT bD G 2 B D x.Stations) (d:Ctx G (.box b_ [.slice H x.People.length I,.slice B x.Stations.length D] 26::Lf) w) {V:Bool} (F:xS N s_ x=some V):Cz G 59 #[.agg #[i6 s_.Places,.slice J s_.Order.length M],pq b_] w (.bool V) (.box b_ [.slice H x.People.length I,.slice B x.Stations.length D] 26::Lf):=by
 refine bY Tryz.func59 Z Tryz.ntmps59 Z λa f=>zS λK h=>zB f d Z λY a w f d=>sp 1 f Z λa f=>zT h (zS λK h=>zP f Z (pFA wL Z) λa f=>zL f d aZ m0 Z λa w f d=>zQ (v:=.bool (aR s_.Places 1 12)) f d (eN 53) Z (λw d=>dP s_.Places 1 12 d Z) λa w f d=>sp 1 f Z λa f=>aH F λX U F=>cV 5 (λa=>Has 13 a [(3,.bool false),(12,.bool X)]) d ?_ ?_)
 ·cases hb:(aR s_.Places 1 12)
  ·rw [hb] at f
   have F:=eG hb U
   obtain rfl:=sj F
   exact sp 5 f Z λa f=>aN ⟨f.kp Z,d⟩
  ·rw [hb] at f
   refine have F:=cO hb U;zP f Z (pFA wP Z) λa f=>zL f d eL m0 Z λa w f d=>zP f Z (pMF (us:=[pq b_]) Z Z) λa f=>aH F λr hr F=>zQ (v:=.bool r) f d (eN 56) Z (λw d=>(aCk s_.Order (⟨x.People,x.Stations⟩:aB) R S O (d.pick k1) hr).mono λe w h=>⟨h.1,(h.2.unpick k1)⟩) λa w f d=>sp 1 f Z λa f=>?_
   obtain rfl:=sj F
   exact aN ⟨f.kp Z,d⟩
 intro a w ⟨f,d⟩
 refine sp 1 f Z λa f=>zT h (wp_ret ?_)
 obtain rfl:=sj F
 exact have d:=d.drop k0;zO1 Tryz.results59 f Z ⟨Z,d⟩

def eX (N:Nat) (x:aD) (B:aB):Option (Bool) :=
 Option.bind (xS N x B) λr=>
 some (!r)
theorem xP {M I D:Option Addr} {O b_ U H B:Nat} (x:aD) (R:aB) (V:Rd G 1 M O (x.Order.map aF)) (S:RdT aT G 1 I H R.People) (J:RdT bD G 2 D B R.Stations) (d:Ctx G (.box b_ [.func (.func 59) #[] #[pq U]] 120::.box U [.slice I R.People.length H,.slice D R.Stations.length B] 26::Lf) w) {X:Bool} (F:eX N x R=some X):Cz G 109 #[.agg #[i6 x.Places,.slice M x.Order.length O],pq b_] w (.bool X) (.box b_ [.func (.func 59) #[] #[pq U]] 120::.box U [.slice I R.People.length H,.slice D R.Stations.length B] 26::Lf):=by
 refine bY Tryz.func109 Z Tryz.ntmps109 Z λa f=>zS λK h=>zB f d Z λY a w f d=>sp 1 f Z λa f=>zT h (zS λK h=>zL f d aQm m1 Z λa w f d=>zN f d aF1 m0 Z λa w f d=>aH F λr hr F=>zQ (v:=.bool r) f d (eN 59) Z (λw d=>(aGi x R V S J (d.pick k2) hr).mono λe w h=>⟨h.1,(h.2.unpick k2)⟩) λa w f d=>sp 2 f Z λa f=>zT h (wp_ret ?_))
 obtain rfl:=sj F
 exact have d:=d.drop k0;zO1 Tryz.results109 f Z ⟨Z,d⟩

def eB (N:Nat) (s_:List aD) (f_:aB) (x:Int):Option (bC (Int) (Int)) :=
 cond (decide (x < ((s_.length:Nat):Int)))
 (Option.bind (aQ s_ x) λB=>
 Option.bind (eX N B f_) λr=>
 cond r
 (some (.ret x))
 (some (.cont (W (x + 1)))))
 (some (.brk x))
def dI (N:Nat) (s_:List aD) (f_:aB):Option (Int) :=
 Option.bind (aS (λs4=>eB N s_ f_ s4) N 0) λx4=>
 exK x4 (λs4=>some (-1)) some
theorem oX {V I B:Option Addr} {U b_ M H D:Nat} (s_:List aD) (f_:aB) (b:RdT bD G 2 V U s_) (R:RdT aT G 1 I H f_.People) (O:RdT bD G 2 B D f_.Stations) (d:Ctx G (.box b_ [.func (.func 59) #[] #[pq M]] 120::.box M [.slice I f_.People.length H,.slice B f_.Stations.length D] 26::Lf) w) {X:Int} (F:dI N s_ f_=some X):Cz G 131 #[.slice V s_.length U,.func (.func 109) #[] #[pq b_]] w (i6 X) (.box b_ [.func (.func 59) #[] #[pq M]] 120::.box M [.slice I f_.People.length H,.slice B f_.Stations.length D] 26::Lf):=by
 refine bY Tryz.func131 Z Tryz.ntmps131 Z λa f=>zS λK h=>sp 1 f Z λa f=>zT h (wp_seq_k λK2 h2=>zS λK h=>sp 1 f Z λa f=>zP f Z (bA Tryz.underlying24 Z) λa f=>sp 1 f Z λa f=>zT h (wp_block (aH F λx4 m F=>?_)))
 let S4:Int→Act→World→Prop:=(λ(zz:Int) a w=>Has 19 a [(0,.slice V s_.length U),(1,.func (.func 109) #[] #[pq b_]),(7,i6 ((s_.length:Nat):Int)),(8,i6 zz)]∧Ctx G (.box b_ [.func (.func 59) #[] #[pq M]] 120::.box M [.slice I f_.People.length H,.slice B f_.Stations.length D] 26::Lf) w)
 have j:∀ (zz:Int) a w,x4=.go zz→S4 zz a w→K2 a w:=by
  rintro x a w rfl ⟨f,d⟩
  refine have F:=bI F;h2 _ _ (zS λK h=>sp 1 f Z λa f=>zT h (wp_ret ?_))
  obtain rfl:=sj F
  exact zO1 Tryz.results131 f Z ⟨Z,d⟩
 have i:∀ r,x4=.out r→r=X:=by
  rintro r rfl
  exact sj F
 refine cF N (cE (S:=S4) (x:=x4) ?_ N 0 _ _ ⟨f.kp Z,d⟩ m)
 clear F f d
 rintro x p a w KB4 ⟨f,d⟩ F J k
 refine zS λK h=>sp 1 f Z λa f=>zT h (wp_seq_k λK7 h7=>zI f Z F ?_ ?_) <;> intro F
 ·refine wp_skip (h7 _ _ (wp_seq_k λK8 h8=>wp_block (zS λK h=>sp 2 f Z λa f=>zT h (zS λK h=>sp 3 f Z λa f=>aH F λY g F=>?_))))
  obtain ⟨q,o,hd,qa,qp,qr⟩:=b.atm g
  refine zP f Z (pIA Tryz.underlying24 tV Z Z qa) λa f=>zE f d Z (iY (vs:=[i6 Y.Places,.slice hd.1 Y.Order.length hd.2]) aF1 Z Z (cY qp (n:=2) (o':=0) Z)) λa w f d=>aH F λr hr F=>zQ (v:=.bool r) f d (eN 109) Z (λw d=>(xP Y f_ qr R O ((d.pick k1).pick k1) hr).mono λe w h=>⟨h.1,((h.2.unpick k1).unpick k1)⟩) λa w f d=>zT h (zI f Z F ?_ ?_) <;> intro F
  ·refine zS λK h=>sp 2 f Z λa f=>zT h (wp_ret (bG (aL (aL (have J:=cB F J;have F:=i _ J;bG (aL ?_))))))
   obtain rfl:=F
   exact zO1 Tryz.results131 f Z ⟨Z,d⟩
  ·exact wp_skip (h8 _ _ (bK (sp 2 f Z λa f=>aN (k (W (x + 1)) _ _ (sj F).symm ⟨f.kp Z,d⟩))))
 ·exact wp_exit (aP (aP (have J:=cB F J;cX (j _ _ _ J ⟨f.kp Z,d⟩))))

def dC (N:Nat) (s_:List aD) (f_:aB):Option (Bool) :=
 Option.bind (dI N s_ f_) λr=>
 some (decide (0≤r))
theorem nT {S I D:Option Addr} {R b_ O H B:Nat} (s_:List aD) (f_:aB) (V:RdT bD G 2 S R s_) (M:RdT aT G 1 I H f_.People) (J:RdT bD G 2 D B f_.Stations) (d:Ctx G (.box b_ [.func (.func 59) #[] #[pq O]] 120::.box O [.slice I f_.People.length H,.slice D f_.Stations.length B] 26::Lf) w) {U:Bool} (F:dC N s_ f_=some U):Cz G 108 #[.slice S s_.length R,.func (.func 109) #[] #[pq b_]] w (.bool U) (.box b_ [.func (.func 59) #[] #[pq O]] 120::.box O [.slice I f_.People.length H,.slice D f_.Stations.length B] 26::Lf):=by
 refine bY Tryz.func108 Z Tryz.ntmps108 Z λa f=>zS λK h=>sp 1 f Z λa f=>zT h (zS λK h=>sp 2 f Z λa f=>aH F λr hr F=>zQ (v:=i6 r) f d (eN 131) Z (λw d=>(oX s_ f_ V M J ((d.pick k1).pick k1) hr).mono λe w h=>⟨h.1,((h.2.unpick k1).unpick k1)⟩) λa w f d=>sp 2 f Z λa f=>zT h (wp_ret ?_))
 obtain rfl:=sj F
 exact zO1 Tryz.results108 f Z ⟨Z,d⟩

def fU (N:Nat) (l:List aD) (so:aB):Option (Bool) :=
 Option.bind (dC N l so) λr=>
 some (!r)
theorem yO {R H D:Option Addr} {S b_ I B:Nat} (l:List aD) (so:aB) (U:RdT bD G 2 R S l) (M:RdT aT G 1 H I so.People) (J:RdT bD G 2 D B so.Stations) (d:Ctx G (.box b_ [.slice H so.People.length I,.slice D so.Stations.length B] 26::Lf) w) {O:Bool} (F:fU N l so=some O):Cz G 58 #[.slice R l.length S,.func (.func 59) #[] #[pq b_]] w (.bool O) (.box b_ [.slice H so.People.length I,.slice D so.Stations.length B] 26::Lf):=by
 refine bY Tryz.func58 Z Tryz.ntmps58 Z λa f=>zS λK h=>zB f d Z λV a w f d=>sp 1 f Z λa f=>zT h (zS λK h=>sp 1 f Z λa f=>zP f Z (pMF (us:=[pq V]) Z Z) λa f=>aH F λr hr F=>zQ (v:=.bool r) f d (eN 108) Z (λw d=>(nT l so U M J ((d.pick k1).pick k1) hr).mono λe w h=>⟨h.1,((h.2.unpick k1).unpick k1)⟩) λa w f d=>sp 2 f Z λa f=>zT h (wp_ret ?_))
 obtain rfl:=sj F
 exact have d:=d.drop k0;zO1 Tryz.results58 f Z ⟨Z,d⟩

def tS (N:Nat) (s_:List Int) (v:Int) (x:Int):Option (bC (Int) (Int)) :=
 cond (decide (x < ((s_.length:Nat):Int)))
 (Option.bind (aQ s_ x) λB=>
 cond (v == B)
 (some (.ret x))
 (some (.cont (W (x + 1)))))
 (some (.brk x))
def jX (N:Nat) (s_:List Int) (v:Int):Option (Int) :=
 Option.bind (aS (λs4=>tS N s_ v s4) N 0) λx4=>
 exK x4 (λs4=>some (-1)) some
theorem tW {H:Option Addr} {D:Nat} (s_:List Int) (v:Int) (J:Rd G 1 H D (s_.map aF)) (d:Ctx G (Lf) w) {I:Int} (F:jX N s_ v=some I):Cz G 113 #[.slice H s_.length D,i6 v] w (i6 I) (Lf):=by
 refine bY Tryz.func113 Z Tryz.ntmps113 Z λa f=>zS λK h=>sp 1 f Z λa f=>zT h (wp_seq_k λK2 h2=>zS λK h=>sp 1 f Z λa f=>zP f Z (bA Tryz.underlying22 Z) λa f=>sp 1 f Z λa f=>zT h (wp_block (aH F λx4 V F=>?_)))
 let S4:Int→Act→World→Prop:=(λ(zz:Int) a w=>Has 19 a [(0,.slice H s_.length D),(1,i6 v),(7,i6 ((s_.length:Nat):Int)),(8,i6 zz)]∧Ctx G (Lf) w)
 have R:∀ (zz:Int) a w,x4=.go zz→S4 zz a w→K2 a w:=by
  rintro x a w rfl ⟨f,d⟩
  refine have F:=bI F;h2 _ _ (zS λK h=>sp 1 f Z λa f=>zT h (wp_ret ?_))
  obtain rfl:=sj F
  exact zO1 Tryz.results113 f Z ⟨Z,d⟩
 have O:∀ r,x4=.out r→r=I:=by
  rintro r rfl
  exact sj F
 refine cF N (cE (S:=S4) (x:=x4) ?_ N 0 _ _ ⟨f.kp Z,d⟩ V)
 clear F f d
 rintro x Y a w KB4 ⟨f,d⟩ F B U
 refine zS λK h=>sp 1 f Z λa f=>zT h (wp_seq_k λK7 h7=>zI f Z F ?_ ?_) <;> intro F
 ·refine wp_skip (h7 _ _ (wp_seq_k λK8 h8=>wp_block (zS λK h=>sp 2 f Z λa f=>zT h (zS λK h=>sp 3 f Z λa f=>aH F λX M F=>?_))))
  obtain ⟨b,o,qa,qp⟩:=J.atm M
  refine zP f Z (pIA Tryz.underlying22 cS Z Z qa) λa f=>zE f d Z (bB aZ Z (aV (j:=0) qp Z)) λa w f d=>sp 1 f Z λa f=>zT h (zI f Z F ?_ ?_) <;> intro F
  ·refine zS λK h=>sp 2 f Z λa f=>zT h (wp_ret (bG (aL (aL (have B:=cB F B;have F:=O _ B;bG (aL ?_))))))
   obtain rfl:=F
   exact zO1 Tryz.results113 f Z ⟨Z,d⟩
  ·exact wp_skip (h8 _ _ (bK (sp 2 f Z λa f=>aN (U (W (x + 1)) _ _ (sj F).symm ⟨f.kp Z,d⟩))))
 ·exact wp_exit (aP (aP (have B:=cB F B;cX (R _ _ _ B ⟨f.kp Z,d⟩))))

def hP (N:Nat) (s_:List Int) (v:Int):Option (Bool) :=
 Option.bind (jX N s_ v) λr=>
 some (decide (0≤r))
theorem sD {D:Option Addr} {B:Nat} (s_:List Int) (v:Int) (I:Rd G 1 D B (s_.map aF)) (d:Ctx G (Lf) w) {H:Bool} (F:hP N s_ v=some H):Cz G 110 #[.slice D s_.length B,i6 v] w (.bool H) (Lf):=by
 refine bY Tryz.func110 Z Tryz.ntmps110 Z λa f=>zS λK h=>sp 1 f Z λa f=>zT h (zS λK h=>sp 2 f Z λa f=>aH F λr hr F=>zQ (v:=i6 r) f d (eN 113) Z (λw d=>tW s_ v I d hr) λa w f d=>sp 2 f Z λa f=>zT h (wp_ret ?_))
 obtain rfl:=sj F
 exact zO1 Tryz.results110 f Z ⟨Z,d⟩

def jF (N:Nat) (l:List Int) (x:Int):Option (bC (Int) (Bool)) :=
 cond (decide (x < ((l.length:Nat):Int)))
 (Option.bind (aQ l x) λB=>
 Option.bind (yE l 0 x) λsub=>
 Option.bind (hP N sub B) λr=>
 cond r
 (some (.ret false))
 (some (.cont (W (x + 1)))))
 (some (.brk x))
def wD (N:Nat) (l:List Int):Option (Bool) :=
 Option.bind (aS (λs4=>jF N l s4) N 0) λx4=>
 exK x4 (λs4=>some true) some
theorem aEi {D:Option Addr} {H:Nat} (l:List Int) (M:Rd G 1 D H (l.map aF)) (d:Ctx G (Lf) w) {J:Bool} (F:wD N l=some J):Cz G 61 #[.slice D l.length H] w (.bool J) (Lf):=by
 refine bY Tryz.func61 Z Tryz.ntmps61 Z λa f=>zS λK h=>sp 1 f Z λa f=>zT h (wp_seq_k λK2 h2=>zS λK h=>sp 1 f Z λa f=>zP f Z (bA Tryz.underlying22 Z) λa f=>sp 1 f Z λa f=>zT h (wp_block (aH F λx4 Y F=>?_)))
 let S4:Int→Act→World→Prop:=(λ(zz:Int) a w=>Has 18 a [(0,.slice D l.length H),(5,.slice D l.length H),(6,i6 ((l.length:Nat):Int)),(7,i6 zz)]∧Ctx G (Lf) w)
 have V:∀ (zz:Int) a w,x4=.go zz→S4 zz a w→K2 a w:=by
  rintro x a w rfl ⟨f,d⟩
  refine have F:=bI F;h2 _ _ (zS λK h=>sp 1 f Z λa f=>zT h (wp_ret ?_))
  obtain rfl:=sj F
  exact zO1 Tryz.results61 f Z ⟨Z,d⟩
 have R:∀ r,x4=.out r→r=J:=by
  rintro r rfl
  exact sj F
 refine cF N (cE (S:=S4) (x:=x4) ?_ N 0 _ _ ⟨f.kp Z,d⟩ Y)
 clear F f d
 rintro x b a w KB4 ⟨f,d⟩ F B X
 refine zS λK h=>sp 1 f Z λa f=>zT h (wp_seq_k λK7 h7=>zI f Z F ?_ ?_) <;> intro F
 ·refine wp_skip (h7 _ _ (wp_seq_k λK8 h8=>wp_block (zS λK h=>sp 1 f Z λa f=>aH F λU O F=>?_)))
  obtain ⟨g,o,qa,qp⟩:=M.atm O
  refine zP f Z (pIA Tryz.underlying22 cS Z Z qa) λa f=>zE f d Z (bB aZ Z (aV (j:=0) qp Z)) λa w f d=>sp 2 f Z λa f=>zT h (zS λK h=>sp 2 f Z λa f=>aH F λsub I F=>have qs:=Rd.sub M I;zP f Z (pSl Tryz.underlying22 cS Z Z (by simpa using M.1) Z Z I) λa f=>sp 1 f Z λa f=>aH F λr hr F=>zQ (v:=.bool r) f d (eN 110) Z (λw d=>sD sub U qs d hr) λa w f d=>zT h (zI f Z F ?_ ?_)) <;> intro F
  ·refine zS λK h=>sp 1 f Z λa f=>zT h (wp_ret (bG (aL (aL (have B:=cB F B;have F:=R _ B;bG (aL ?_))))))
   obtain rfl:=F
   exact zO1 Tryz.results61 f Z ⟨Z,d⟩
  ·exact wp_skip (h8 _ _ (bK (sp 2 f Z λa f=>aN (X (W (x + 1)) _ _ (sj F).symm ⟨f.kp Z,d⟩))))
 ·exact wp_exit (aP (aP (have B:=cB F B;cX (V _ _ _ B ⟨f.kp Z,d⟩))))

def lM (N:Nat) (x:List Int):Option (Bool) :=
 Option.bind (wD N x) λr=>
 some (!r)
theorem aAn {D:Option Addr} {H b_:Nat} (x:List Int) (I:Rd G 1 D H (x.map aF)) (d:Ctx G (.box b_ [.func (.func 61) #[] #[]] 118::Lf) w) {B:Bool} (F:lM N x=some B):Cz G 106 #[.slice D x.length H,pq b_] w (.bool B) (.box b_ [.func (.func 61) #[] #[]] 118::Lf):=by
 refine bY Tryz.func106 Z Tryz.ntmps106 Z λa f=>zS λK h=>sp 1 f Z λa f=>zT h (zS λK h=>zL f d aPx m0 Z λa w f d=>sp 1 f Z λa f=>aH F λr hr F=>zQ (v:=.bool r) f d (eN 61) Z (λw d=>aEi x I d hr) λa w f d=>sp 2 f Z λa f=>zT h (wp_ret ?_))
 obtain rfl:=sj F
 exact zO1 Tryz.results106 f Z ⟨Z,d⟩

def iU (N:Nat) (s_:List (List Int)) (x:Int):Option (bC (Int) (Int)) :=
 cond (decide (x < ((s_.length:Nat):Int)))
 (Option.bind (aQ s_ x) λB=>
 Option.bind (lM N B) λr=>
 cond r
 (some (.ret x))
 (some (.cont (W (x + 1)))))
 (some (.brk x))
def gP (N:Nat) (s_:List (List Int)):Option (Int) :=
 Option.bind (aS (λs4=>iU N s_ s4) N 0) λx4=>
 exK x4 (λs4=>some (-1)) some
theorem uW {H:Option Addr} {D b_:Nat} (s_:List (List Int)) (J:RdT aT G 1 H D s_) (d:Ctx G (.box b_ [.func (.func 61) #[] #[]] 118::Lf) w) {I:Int} (F:gP N s_=some I):Cz G 130 #[.slice H s_.length D,.func (.func 106) #[] #[pq b_]] w (i6 I) (.box b_ [.func (.func 61) #[] #[]] 118::Lf):=by
 refine bY Tryz.func130 Z Tryz.ntmps130 Z λa f=>zS λK h=>sp 1 f Z λa f=>zT h (wp_seq_k λK2 h2=>zS λK h=>sp 1 f Z λa f=>zP f Z (bA Tryz.underlying23 Z) λa f=>sp 1 f Z λa f=>zT h (wp_block (aH F λx4 X F=>?_)))
 let S4:Int→Act→World→Prop:=(λ(zz:Int) a w=>Has 19 a [(0,.slice H s_.length D),(1,.func (.func 106) #[] #[pq b_]),(7,i6 ((s_.length:Nat):Int)),(8,i6 zz)]∧Ctx G (.box b_ [.func (.func 61) #[] #[]] 118::Lf) w)
 have U:∀ (zz:Int) a w,x4=.go zz→S4 zz a w→K2 a w:=by
  rintro x a w rfl ⟨f,d⟩
  refine have F:=bI F;h2 _ _ (zS λK h=>sp 1 f Z λa f=>zT h (wp_ret ?_))
  obtain rfl:=sj F
  exact zO1 Tryz.results130 f Z ⟨Z,d⟩
 have O:∀ r,x4=.out r→r=I:=by
  rintro r rfl
  exact sj F
 refine cF N (cE (S:=S4) (x:=x4) ?_ N 0 _ _ ⟨f.kp Z,d⟩ X)
 clear F f d
 rintro x Y a w KB4 ⟨f,d⟩ F B V
 refine zS λK h=>sp 1 f Z λa f=>zT h (wp_seq_k λK7 h7=>zI f Z F ?_ ?_) <;> intro F
 ·refine wp_skip (h7 _ _ (wp_seq_k λK8 h8=>wp_block (zS λK h=>sp 2 f Z λa f=>zT h (zS λK h=>sp 3 f Z λa f=>aH F λR M F=>?_))))
  obtain ⟨b,o,hd,qa,qp,qr⟩:=J.atm M
  refine zP f Z (pIA Tryz.underlying23 lN Z Z qa) λa f=>zE f d Z (bB eL Z (aV (j:=0) qp Z)) λa w f d=>aH F λr hr F=>zQ (v:=.bool r) f d (eN 106) Z (λw d=>(aAn R qr (d.pick k0) hr).mono λe w h=>⟨h.1,(h.2.unpick k0)⟩) λa w f d=>zT h (zI f Z F ?_ ?_) <;> intro F
  ·refine zS λK h=>sp 2 f Z λa f=>zT h (wp_ret (bG (aL (aL (have B:=cB F B;have F:=O _ B;bG (aL ?_))))))
   obtain rfl:=F
   exact zO1 Tryz.results130 f Z ⟨Z,d⟩
  ·exact wp_skip (h8 _ _ (bK (sp 2 f Z λa f=>aN (V (W (x + 1)) _ _ (sj F).symm ⟨f.kp Z,d⟩))))
 ·exact wp_exit (aP (aP (have B:=cB F B;cX (U _ _ _ B ⟨f.kp Z,d⟩))))

def fG (N:Nat) (s_:List (List Int)):Option (Bool) :=
 Option.bind (gP N s_) λr=>
 some (decide (0≤r))
theorem tH {D:Option Addr} {B b_:Nat} (s_:List (List Int)) (I:RdT aT G 1 D B s_) (d:Ctx G (.box b_ [.func (.func 61) #[] #[]] 118::Lf) w) {H:Bool} (F:fG N s_=some H):Cz G 105 #[.slice D s_.length B,.func (.func 106) #[] #[pq b_]] w (.bool H) (.box b_ [.func (.func 61) #[] #[]] 118::Lf):=by
 refine bY Tryz.func105 Z Tryz.ntmps105 Z λa f=>zS λK h=>sp 1 f Z λa f=>zT h (zS λK h=>sp 2 f Z λa f=>aH F λr hr F=>zQ (v:=i6 r) f d (eN 130) Z (λw d=>(uW s_ I (d.pick k0) hr).mono λe w h=>⟨h.1,(h.2.unpick k0)⟩) λa w f d=>sp 2 f Z λa f=>zT h (wp_ret ?_))
 obtain rfl:=sj F
 exact zO1 Tryz.results105 f Z ⟨Z,d⟩

def kP (N:Nat) (l:List (List Int)):Option (Bool) :=
 Option.bind (fG N l) λr=>
 some (!r)
theorem aBy {D:Option Addr} {H:Nat} (l:List (List Int)) (I:RdT aT G 1 D H l) (d:Ctx G (Lf) w) {B:Bool} (F:kP N l=some B):Cz G 54 #[.slice D l.length H,.func (.func 61) #[] #[]] w (.bool B) (Lf):=by
 refine bY Tryz.func54 Z Tryz.ntmps54 Z λa f=>zS λK h=>zB f d Z λJ a w f d=>sp 1 f Z λa f=>zT h (zS λK h=>sp 1 f Z λa f=>zP f Z (pMF (us:=[pq J]) Z Z) λa f=>aH F λr hr F=>zQ (v:=.bool r) f d (eN 105) Z (λw d=>(tH l I (d.pick k0) hr).mono λe w h=>⟨h.1,(h.2.unpick k0)⟩) λa w f d=>sp 2 f Z λa f=>zT h (wp_ret ?_))
 obtain rfl:=sj F
 exact have d:=d.drop k0;zO1 Tryz.results54 f Z ⟨Z,d⟩

def yC (N:Nat) (s_:aD):Option (Bool) :=
 Option.bind (wD N s_.Order) λr=>
 some r
theorem aGh {B:Option Addr} {D:Nat} (s_:aD) (H:Rd G 1 B D (s_.Order.map aF)) (d:Ctx G (Lf) w) {I:Bool} (F:yC N s_=some I):Cz G 62 #[.agg #[i6 s_.Places,.slice B s_.Order.length D]] w (.bool I) (Lf):=by
 refine bY Tryz.func62 Z Tryz.ntmps62 Z λa f=>zS λK h=>zB f d Z λJ a w f d=>sp 1 f Z λa f=>zT h (zS λK h=>zP f Z (pFA wP Z) λa f=>zL f d eL m0 Z λa w f d=>aH F λr hr F=>zQ (v:=.bool r) f d (eN 61) Z (λw d=>aEi s_.Order H d hr) λa w f d=>sp 1 f Z λa f=>zT h (wp_ret ?_))
 obtain rfl:=sj F
 exact have d:=d.drop k0;zO1 Tryz.results62 f Z ⟨Z,d⟩

def fE (N:Nat) (x:aD):Option (Bool) :=
 Option.bind (yC N x) λr=>
 some (!r)
theorem vZ {B:Option Addr} {D b_:Nat} (x:aD) (H:Rd G 1 B D (x.Order.map aF)) (d:Ctx G (.box b_ [.func (.func 62) #[] #[]] 120::Lf) w) {I:Bool} (F:fE N x=some I):Cz G 109 #[.agg #[i6 x.Places,.slice B x.Order.length D],pq b_] w (.bool I) (.box b_ [.func (.func 62) #[] #[]] 120::Lf):=by
 refine bY Tryz.func109 Z Tryz.ntmps109 Z λa f=>zS λK h=>zB f d Z λJ a w f d=>sp 1 f Z λa f=>zT h (zS λK h=>zL f d aQm m1 Z λa w f d=>zN f d aF1 m0 Z λa w f d=>aH F λr hr F=>zQ (v:=.bool r) f d (eN 62) Z (λw d=>aGh x H d hr) λa w f d=>sp 2 f Z λa f=>zT h (wp_ret ?_))
 obtain rfl:=sj F
 exact have d:=d.drop k0;zO1 Tryz.results109 f Z ⟨Z,d⟩

def dS (N:Nat) (s_:List aD) (x:Int):Option (bC (Int) (Int)) :=
 cond (decide (x < ((s_.length:Nat):Int)))
 (Option.bind (aQ s_ x) λB=>
 Option.bind (fE N B) λr=>
 cond r
 (some (.ret x))
 (some (.cont (W (x + 1)))))
 (some (.brk x))
def dF (N:Nat) (s_:List aD):Option (Int) :=
 Option.bind (aS (λs4=>dS N s_ s4) N 0) λx4=>
 exK x4 (λs4=>some (-1)) some
theorem nR {H:Option Addr} {D b_:Nat} (s_:List aD) (M:RdT bD G 2 H D s_) (d:Ctx G (.box b_ [.func (.func 62) #[] #[]] 120::Lf) w) {I:Int} (F:dF N s_=some I):Cz G 131 #[.slice H s_.length D,.func (.func 109) #[] #[pq b_]] w (i6 I) (.box b_ [.func (.func 62) #[] #[]] 120::Lf):=by
 refine bY Tryz.func131 Z Tryz.ntmps131 Z λa f=>zS λK h=>sp 1 f Z λa f=>zT h (wp_seq_k λK2 h2=>zS λK h=>sp 1 f Z λa f=>zP f Z (bA Tryz.underlying24 Z) λa f=>sp 1 f Z λa f=>zT h (wp_block (aH F λx4 X F=>?_)))
 let S4:Int→Act→World→Prop:=(λ(zz:Int) a w=>Has 19 a [(0,.slice H s_.length D),(1,.func (.func 109) #[] #[pq b_]),(7,i6 ((s_.length:Nat):Int)),(8,i6 zz)]∧Ctx G (.box b_ [.func (.func 62) #[] #[]] 120::Lf) w)
 have U:∀ (zz:Int) a w,x4=.go zz→S4 zz a w→K2 a w:=by
  rintro x a w rfl ⟨f,d⟩
  refine have F:=bI F;h2 _ _ (zS λK h=>sp 1 f Z λa f=>zT h (wp_ret ?_))
  obtain rfl:=sj F
  exact zO1 Tryz.results131 f Z ⟨Z,d⟩
 have R:∀ r,x4=.out r→r=I:=by
  rintro r rfl
  exact sj F
 refine cF N (cE (S:=S4) (x:=x4) ?_ N 0 _ _ ⟨f.kp Z,d⟩ X)
 clear F f d
 rintro x Y a w KB4 ⟨f,d⟩ F B V
 refine zS λK h=>sp 1 f Z λa f=>zT h (wp_seq_k λK7 h7=>zI f Z F ?_ ?_) <;> intro F
 ·refine wp_skip (h7 _ _ (wp_seq_k λK8 h8=>wp_block (zS λK h=>sp 2 f Z λa f=>zT h (zS λK h=>sp 3 f Z λa f=>aH F λJ O F=>?_))))
  obtain ⟨b,o,hd,qa,qp,qr⟩:=M.atm O
  refine zP f Z (pIA Tryz.underlying24 tV Z Z qa) λa f=>zE f d Z (iY (vs:=[i6 J.Places,.slice hd.1 J.Order.length hd.2]) aF1 Z Z (cY qp (n:=2) (o':=0) Z)) λa w f d=>aH F λr hr F=>zQ (v:=.bool r) f d (eN 109) Z (λw d=>(vZ J qr (d.pick k0) hr).mono λe w h=>⟨h.1,(h.2.unpick k0)⟩) λa w f d=>zT h (zI f Z F ?_ ?_) <;> intro F
  ·refine zS λK h=>sp 2 f Z λa f=>zT h (wp_ret (bG (aL (aL (have B:=cB F B;have F:=R _ B;bG (aL ?_))))))
   obtain rfl:=F
   exact zO1 Tryz.results131 f Z ⟨Z,d⟩
  ·exact wp_skip (h8 _ _ (bK (sp 2 f Z λa f=>aN (V (W (x + 1)) _ _ (sj F).symm ⟨f.kp Z,d⟩))))
 ·exact wp_exit (aP (aP (have B:=cB F B;cX (U _ _ _ B ⟨f.kp Z,d⟩))))

def cW (N:Nat) (s_:List aD):Option (Bool) :=
 Option.bind (dF N s_) λr=>
 some (decide (0≤r))
theorem mU {D:Option Addr} {B b_:Nat} (s_:List aD) (I:RdT bD G 2 D B s_) (d:Ctx G (.box b_ [.func (.func 62) #[] #[]] 120::Lf) w) {H:Bool} (F:cW N s_=some H):Cz G 108 #[.slice D s_.length B,.func (.func 109) #[] #[pq b_]] w (.bool H) (.box b_ [.func (.func 62) #[] #[]] 120::Lf):=by
 refine bY Tryz.func108 Z Tryz.ntmps108 Z λa f=>zS λK h=>sp 1 f Z λa f=>zT h (zS λK h=>sp 2 f Z λa f=>aH F λr hr F=>zQ (v:=i6 r) f d (eN 131) Z (λw d=>(nR s_ I (d.pick k0) hr).mono λe w h=>⟨h.1,(h.2.unpick k0)⟩) λa w f d=>sp 2 f Z λa f=>zT h (wp_ret ?_))
 obtain rfl:=sj F
 exact zO1 Tryz.results108 f Z ⟨Z,d⟩

def eJ (N:Nat) (l:List aD):Option (Bool) :=
 Option.bind (cW N l) λr=>
 some (!r)
theorem xE {D:Option Addr} {H:Nat} (l:List aD) (I:RdT bD G 2 D H l) (d:Ctx G (Lf) w) {B:Bool} (F:eJ N l=some B):Cz G 58 #[.slice D l.length H,.func (.func 62) #[] #[]] w (.bool B) (Lf):=by
 refine bY Tryz.func58 Z Tryz.ntmps58 Z λa f=>zS λK h=>zB f d Z λJ a w f d=>sp 1 f Z λa f=>zT h (zS λK h=>sp 1 f Z λa f=>zP f Z (pMF (us:=[pq J]) Z Z) λa f=>aH F λr hr F=>zQ (v:=.bool r) f d (eN 108) Z (λw d=>(mU l I (d.pick k0) hr).mono λe w h=>⟨h.1,(h.2.unpick k0)⟩) λa w f d=>sp 2 f Z λa f=>zT h (wp_ret ?_))
 obtain rfl:=sj F
 exact have d:=d.drop k0;zO1 Tryz.results58 f Z ⟨Z,d⟩

def nK (N:Nat) (r:aB):Option (Int) :=
 cond ((!(aR ((r.People.length:Nat):Int) 1 12)) || (!(aR ((r.Stations.length:Nat):Int) 1 12)))
 (some 3)
 (Option.bind (oB N r.People r) λM=>
 Option.bind (cond (!M) (some true) (Option.bind (fU N r.Stations r) λB=>
 some (!B))) λI=>
 cond I
 (some 120)
 (Option.bind (kP N r.People) λJ=>
 Option.bind (cond (!J) (some true) (Option.bind (eJ N r.Stations) λH=>
 some (!H))) λD=>
 cond D
 (some 10)
 (some 0)))
theorem aAl {M I:Option Addr} {J H:Nat} (r:aB) (D:RdT aT G 1 M J r.People) (B:RdT bD G 2 I H r.Stations) (d:Ctx G (Lf) w) {U:Int} (F:nK N r=some U):Cz G 11 #[.agg #[.slice M r.People.length J,.slice I r.Stations.length H]] w (i6 U) (Lf):=by
 refine bY Tryz.func11 Z Tryz.ntmps11 Z λa f=>zS λK h=>zB f d Z λO a w f d=>sp 1 f Z λa f=>zT h (wp_seq_k λK2 h2=>wp_block (zS λK h=>zP f Z (pFA iG Z) λa f=>zL f d gR m0 Z λa w f d=>zP f Z (bA Tryz.underlying23 Z) λa f=>zQ (v:=.bool (aR ((r.People.length:Nat):Int) 1 12)) f d (eN 53) Z (λw d=>dP ((r.People.length:Nat):Int) 1 12 d Z) λa w f d=>sp 2 f Z λa f=>cV 6 (λa=>Has 40 a [(1,pq O),(15,.bool ((!(aR ((r.People.length:Nat):Int) 1 12)) || (!(aR ((r.Stations.length:Nat):Int) 1 12))))]) d ?_ ?_))
 ·cases hb:(!(aR ((r.People.length:Nat):Int) 1 12))
  ·rw [hb] at f
   exact zP f Z (pFA fH Z) λa f=>zL f d pB m0 Z λa w f d=>zP f Z (bA Tryz.underlying24 Z) λa f=>zQ (v:=.bool (aR ((r.Stations.length:Nat):Int) 1 12)) f d (eN 53) Z (λw d=>dP ((r.Stations.length:Nat):Int) 1 12 d Z) λa w f d=>sp 2 f Z λa f=>aN ⟨f.kp Z,d⟩
  ·rw [hb] at f
   exact sp 6 f Z λa f=>aN ⟨f.kp Z,d⟩
 intro a w ⟨f,d⟩
 refine sp 1 f Z λa f=>zT h (zI f Z F ?_ ?_) <;> intro F
 ·refine zS λK h=>sp 1 f Z λa f=>zT h (wp_ret (bG (aL ?_)))
  obtain rfl:=sj F
  exact have d:=d.drop k0;zO1 Tryz.results11 f Z ⟨Z,d⟩
 ·refine zS λK h=>zP f Z (pFA iG Z) λa f=>zL f d gR m0 Z λa w f d=>zP f Z (pMF (us:=[pq O]) Z Z) λa f=>aH F λV b F=>zQ (v:=.bool V) f d (eN 54) Z (λw d=>(aDq r.People r D D B (d.pick k0) b).mono λe w h=>⟨h.1,(h.2.unpick k0)⟩) λa w f d=>sp 2 f Z λa f=>aH F λk R F=>cV 6 (λa=>Has 40 a [(1,pq O),(28,.bool k)]) d ?_ ?_
  ·cases hb:(!V)
   ·rw [hb] at f
    refine have F:=eG hb R;zP f Z (pFA fH Z) λa f=>zL f d pB m0 Z λa w f d=>zP f Z (pMF (us:=[pq O]) Z Z) λa f=>aH F λn i F=>zQ (v:=.bool n) f d (eN 58) Z (λw d=>(yO r.Stations r B D B (d.pick k0) i).mono λe w h=>⟨h.1,(h.2.unpick k0)⟩) λa w f d=>sp 2 f Z λa f=>?_
    obtain rfl:=sj F
    exact aN ⟨f.kp Z,d⟩
   ·rw [hb] at f
    have F:=cO hb R
    obtain rfl:=sj F
    exact sp 6 f Z λa f=>aN ⟨f.kp Z,d⟩
  intro a w ⟨f,d⟩
  refine sp 1 f Z λa f=>zT h (zI f Z F ?_ ?_) <;> intro F
  ·refine zS λK h=>sp 1 f Z λa f=>zT h (wp_ret (bG (aL ?_)))
   obtain rfl:=sj F
   exact have d:=d.drop k0;zO1 Tryz.results11 f Z ⟨Z,d⟩
  ·refine zS λK h=>zP f Z (pFA iG Z) λa f=>zL f d gR m0 Z λa w f d=>aH F λX g F=>zQ (v:=.bool X) f d (eN 54) Z (λw d=>aBy r.People D d g) λa w f d=>sp 2 f Z λa f=>aH F λm S F=>cV 5 (λa=>Has 40 a [(39,.bool m)]) d ?_ ?_
   ·cases hb:(!X)
    ·rw [hb] at f
     refine have F:=eG hb S;zP f Z (pFA fH Z) λa f=>zL f d pB m0 Z λa w f d=>aH F λj Y F=>zQ (v:=.bool j) f d (eN 58) Z (λw d=>xE r.Stations B d Y) λa w f d=>sp 2 f Z λa f=>?_
     obtain rfl:=sj F
     exact aN ⟨f.kp Z,d⟩
    ·rw [hb] at f
     have F:=cO hb S
     obtain rfl:=sj F
     exact sp 5 f Z λa f=>aN ⟨f.kp Z,d⟩
   intro a w ⟨f,d⟩
   refine sp 1 f Z λa f=>zT h (zI f Z F ?_ ?_) <;> intro F
   ·refine zS λK h=>sp 1 f Z λa f=>zT h (wp_ret (bG (aL ?_)))
    obtain rfl:=sj F
    exact have d:=d.drop k0;zO1 Tryz.results11 f Z ⟨Z,d⟩
   ·refine wp_skip (h2 _ _ (zS λK h=>sp 1 f Z λa f=>zT h (wp_ret ?_)))
    obtain rfl:=sj F
    exact have d:=d.drop k0;zO1 Tryz.results11 f Z ⟨Z,d⟩

def oD (N:Nat) (r:aB) (x:Int) (I:aD) (B:Int) (D:Nat→Int):Option (bC (Int × (Nat→Int)) (bC (Int × (Nat→Int)) ((Int) ⊕ ((Nat→Int) × Int)))) :=
 cond (decide (B < ((r.People.length:Nat):Int)))
 (Option.bind (jX N I.Order B) λH=>
 Option.bind (inR x 12) λun=>
 Option.bind (inR B 12) λJ=>
 some (.cont (W (B + 1),(aE5 D (x * 12 + B).toNat H))))
 (some (.brk (B,D)))
def qD (N:Nat) (r:aB) (x:Int) (D:Nat→Int):Option (bC (Int × (Nat→Int)) ((Int) ⊕ ((Nat→Int) × Int))) :=
 cond (decide (x < ((r.Stations.length:Nat):Int)))
 (Option.bind (aQ r.Stations x) λI=>
 Option.bind (aS (λB=>oD N r x I B.1 B.2) N (0,D)) λH=>
 exK H (λB=>some (.cont (W (x + 1),B.2))) some)
 (some (.brk (x,D)))
def oQ (N:Nat) (r:aB):Option ((Int) ⊕ ((Nat→Int) × Int)) :=
 Option.bind (nK N r) λB=>
 cond (B != 0)
 (some (.inl B))
 (Option.bind (aS (λs9=>qD N r s9.1 s9.2) N (0,(λ_=>0))) λx9=>
 exK x9 (λs9=>some (.inr (s9.2,0))) some)
theorem lK {H D:Option Addr} {I B:Nat} (r:aB) (m:RdT aT G 1 H I r.People) (R:RdT bD G 2 D B r.Stations) (d:Ctx G (Lf) w) {q:(Int) ⊕ ((Nat→Int) × Int)} (F:oQ N r=some q):Calls Tryz.prog 70 #[.agg #[.slice H r.People.length I,.slice D r.Stations.length B]] w (λe w=>aGl (λrr=>e=.returned (.tuple #[.pointer none,i6 rr])∧Ctx G (Lf) w) (λrr=>∃ (u:Nat),e=.returned (.tuple #[pq u,i6 rr.2])∧Ctx G (.box u (aBc [.slice H r.People.length I,.slice D r.Stations.length B] 144 aF rr.1 []) 138::Lf) w) q):=by
 refine bY Tryz.func70 Z Tryz.ntmps70 Z λa f=>zS λK h=>zB f d Z λV a w f d=>sp 2 f Z λa f=>zT h (wp_seq_k λK2 h2=>zS λK h=>zN f d qC m0 Z λa w f d=>aH F λap af F=>zQ (v:=i6 ap) f d (eN 11) Z (λw d=>aAl r m R d af) λa w f d=>sp 1 f Z λa f=>zT h (zS λK h=>sp 2 f Z λa f=>?_))
 refine zT h (zI f Z F ?_ ?_) <;> intro F
 ·refine zS λK h=>sp 3 f Z λa f=>zT h (wp_ret (aL ?_))
  obtain rfl:=sj F
  exact have d:=d.drop k0;zO2 Tryz.results70 f Z Z ⟨Z,d⟩
 ·refine wp_skip (h2 _ _ (zS λK h=>zN f d qC m0 Z λa w f d=>zP f Z (bS (cells:=(aBc [.slice H r.People.length I,.slice D r.Stations.length B] 144 aF (λ_=>0) [])) aTe Z Z) λa f=>stBx (cs:=(aBc [.slice H r.People.length I,.slice D r.Stations.length B] 144 aF (λ_=>0) [])) f d Z Z Z Z λJ a w f d=>sp 1 f Z λa f=>zT h (wp_seq_k λK7 h7=>zS λK h=>zP f Z (pFA fH Z) λa f=>zL f d pB m1 Z λa w f d=>zP f Z (bA Tryz.underlying24 Z) λa f=>sp 1 f Z λa f=>?_)))
  refine zT h (wp_block (aH F λx9 ai F=>?_))
  let S9:(Int × (Nat→Int))→Act→World→Prop:=(λ(zz:Int × (Nat→Int)) a w=>Has 45 a [(1,pq V),(5,pq J),(18,.slice D r.Stations.length B),(19,i6 ((r.Stations.length:Nat):Int)),(20,i6 zz.1)]∧Ctx G (.box J (aBc [.slice H r.People.length I,.slice D r.Stations.length B] 144 aF zz.2 []) 138::.box V [.slice H r.People.length I,.slice D r.Stations.length B] 26::Lf) w)
  have ay:∀ (zz:Int × (Nat→Int)) a w,x9=.go zz→S9 zz a w→K7 a w:=by
   rintro ⟨x,t⟩ a w rfl ⟨f,d⟩
   refine have F:=bI F;h7 _ _ (zS λK h=>sp 3 f Z λa f=>zT h (wp_ret ?_))
   obtain rfl:=sj F
   exact have d:=d.drop k1;zO2 Tryz.results70 f Z Z ⟨J,Z,d⟩
  have a2:∀ r,x9=.out r→r=q:=by
   rintro r rfl
   exact sj F
  refine cF N (cE (S:=S9) (x:=x9) ?_ N (0,(λ_=>0)) _ _ ⟨f.kp Z,d⟩ ai)
  clear F f d
  rintro ⟨x,t⟩ ax a w KB9 ⟨f,d⟩ F j av
  refine zS λK h=>sp 1 f Z λa f=>zT h (wp_seq_k λK12 an=>zI f Z F ?_ ?_) <;> intro F
  ·refine wp_skip (an _ _ (wp_seq_k λK13 aq=>wp_block (zS λK h=>sp 1 f Z λa f=>aH F λU ab F=>?_)))
   obtain ⟨a3,o,hd,qa,qp,qr⟩:=R.atm ab
   refine zP f Z (pIA Tryz.underlying24 tV Z Z qa) λa f=>zE f d Z (iY (vs:=[i6 U.Places,.slice hd.1 U.Order.length hd.2]) aF1 Z Z (cY qp (n:=2) (o':=0) Z)) λa w f d=>zA f d aMu Z λg a w f d=>sp 1 f Z λa f=>zW f d tV u0 Z λw d=>zT h (zS λK h=>zP f Z (pFA iG Z) λa f=>zL f d gR m2 Z λa w f d=>zP f Z (bA Tryz.underlying23 Z) λa f=>sp 1 f Z λa f=>zT h (sR λK16 aj=>wp_block ?_))
   obtain ⟨s,ac,F⟩:=cU F
   let S17:(Int × (Nat→Int))→Act→World→Prop:=(λ(zz:Int × (Nat→Int)) a w=>Has 45 a [(1,pq V),(5,pq J),(6,i6 x),(7,pq g),(18,.slice D r.Stations.length B),(19,i6 ((r.Stations.length:Nat):Int)),(20,i6 x),(27,i6 ((r.People.length:Nat):Int)),(28,i6 zz.1)]∧Ctx G (.box g [i6 U.Places,.slice hd.1 U.Order.length hd.2] 41::.box J (aBc [.slice H r.People.length I,.slice D r.Stations.length B] 144 aF zz.2 []) 138::.box V [.slice H r.People.length I,.slice D r.Stations.length B] 26::Lf) w)
   have aa:∀ (zz:Int × (Nat→Int)) a w,s=.go zz→S17 zz a w→K16 a w:=by
    rintro ⟨O,i⟩ a w rfl ⟨f,d⟩
    exact have F:=bI F;aj _ _ (aq _ _ (bK (sp 2 f Z λa f=>aN (have d:=d.drop k0;av (W (x + 1),i) _ _ (sj F).symm ⟨f.kp Z,d⟩))))
   have az:∀ r,s=.out r→r=ax:=by
    rintro r rfl
    exact sj F
   refine cF N (cE (S:=S17) (x:=s) ?_ N (0,t) _ _ ⟨f.kp Z,d⟩ ac)
   clear F f d
   rintro ⟨O,i⟩ a0 a w KB17 ⟨f,d⟩ F Y ad
   refine zS λK h=>sp 1 f Z λa f=>zT h (wp_seq_k λK19 ar=>zI f Z F ?_ ?_) <;> intro F
   ·refine wp_skip (ar _ _ (wp_seq_k λK20 ak=>wp_block (zS λK h=>sp 2 f Z λa f=>zT h (aH F λb ag F=>aH F λun p F=>aH F λa1 X F=>jV (λθ=>[f0 1 (pq V),f0 5 (pq J),f0 6 (i6 x),f0 7 (pq g),f0 8 (i6 O),f0 18 (.slice D r.Stations.length B),f0 19 (i6 ((r.Stations.length:Nat):Int)),f0 20 (i6 x),f0 27 (i6 ((r.People.length:Nat):Int)),f0 28 (i6 O),f1 0 31 (pq J),f1 1 32 (i6 x),f1 2 33 (i6 O),f1 3 34 (.pointer (some ⟨g,1,none⟩)),f1 4 35 (.slice hd.1 U.Order.length hd.2),f1 5 36 (i6 O),f1 6 37 (i6 b),f1 7 38 (pq J),f1 8 39 (.pointer (some ⟨J,2,none⟩)),f1 9 40 (.pointer (some ⟨J,2 + x.toNat * 12,none⟩)),f1 10 41 (.pointer (some ⟨J,2 + (x * 12 + O).toNat * 1,none⟩))]) (λE θ=>.box g [i6 U.Places,.slice hd.1 U.Order.length hd.2] 41::(bif E 11 then .box J (aBc [.slice H r.People.length I,.slice D r.Stations.length B] 144 aF (aE5 i (x * 12 + O).toNat b) []) 138 else .box J (aBc [.slice H r.People.length I,.slice D r.Stations.length B] 144 aF i []) 138)::.box V [.slice H r.People.length I,.slice D r.Stations.length B] 26::Lf) [] (λa w=>Has 45 a [(1,pq V),(5,pq J),(6,i6 x),(7,pq g),(18,.slice D r.Stations.length B),(19,i6 ((r.Stations.length:Nat):Int)),(20,i6 x),(27,i6 ((r.People.length:Nat):Int)),(28,i6 O)]∧Ctx G (.box g [i6 U.Places,.slice hd.1 U.Order.length hd.2] 41::.box J (aBc [.slice H r.People.length I,.slice D r.Stations.length B] 144 aF (aE5 i (x * 12 + O).toNat b) []) 138::.box V [.slice H r.People.length I,.slice D r.Stations.length B] 26::Lf) w) aU (by kernel_rfl) (by kernel_rfl) (iW.of f ⟨Z,Z,Z,Z,Z,Z,Z,Z,Z,Z,trivial,trivial,trivial,trivial,trivial,trivial,trivial,trivial,trivial,trivial,trivial,trivial⟩) d ⟨?_,?_,?_,?_,?_,?_,?_,?_,?_,?_,?_,?_,trivial⟩ ?_ ?_))))
    ·exact λE θ a w hD hi hp he d=>have f:=he.h0.mT he 1 Z;sp 1 f Z λa f=>zD θ he hi f 10 Z Z Z d
    ·exact λE θ a w hD hi hp he d=>have f:=he.h0.mT he 2 Z;sp 1 f Z λa f=>zD θ he hi f 11 Z Z Z d
    ·exact λE θ a w hD hi hp he d=>have f:=he.h0.mT he 4 Z;sp 1 f Z λa f=>zD θ he hi f 12 Z Z Z d
    ·exact λE θ a w hD hi hp he d=>have f:=he.h0.mT he 3 Z;zP f Z (pFA wP Z) λa f=>zD θ he hi f 13 Z Z Z d
    ·exact λE θ a w hD hi hp he d=>have e3:=hp.o 3 Z;have f:=he.h0.mP he 13 Z e3;zL f d eL m0 Z λa w f d=>zD θ he hi f 14 Z Z Z d
    ·exact λE θ a w hD hi hp he d=>have f:=he.h0.mT he 4 Z;sp 1 f Z λa f=>zD θ he hi f 15 Z Z Z d
    ·exact λE θ a w hD hi hp he d=>have e4:=hp.o 4 Z;have e5:=hp.o 5 Z;have f:=(he.h0.mP he 14 Z e4).mP he 15 Z e5;zQ (v:=i6 b) f d (eN 113) Z (λw d=>tW U.Order O qr d ag) λa w f d=>zD θ he hi f 16 Z Z Z d
    ·exact λE θ a w hD hi hp he d=>have e0:=hp.o 0 Z;have f:=he.h0.mP he 10 Z e0;sp 1 f Z λa f=>zD θ he hi f 17 Z Z Z d
    ·exact λE θ a w hD hi hp he d=>have e7:=hp.o 7 Z;have f:=he.h0.mP he 17 Z e7;zP f Z (pFA wY Z) λa f=>zD θ he hi f 18 Z Z Z d
    ·exact λE θ a w hD hi hp he d=>have e1:=hp.o 1 Z;have e8:=hp.o 8 Z;have f:=(he.h0.mP he 11 Z e1).mP he 18 Z e8;zP f Z (aAb Tryz.underlying136 aCs Z Z (cG p).1 (cG p).2) λa f=>zD θ he hi f 19 Z Z Z d
    ·exact λE θ a w hD hi hp he d=>have e2:=hp.o 2 Z;have e9:=hp.o 9 Z;have f:=(he.h0.mP he 12 Z e2).mP he 19 Z e9;zP f Z (Pu.cast (aAb Tryz.underlying135 cS Z Z (cG X).1 (cG X).2) (congrArg (λk=>Value.pointer (some ⟨J,k,none⟩)) (xA (M:=12) (2) p X Z))) λa f=>zD θ he hi f 20 Z Z Z d
    ·refine λE θ a w hD hi hp he d=>have e6:=hp.o 6 Z;have au:=hp.o 10 Z;?_
     try dsimp only at d
     rw [hi] at d
     refine have f:=(he.h0.mP he 16 Z e6).mP he 20 Z au;stAr (vs:=[i6 b]) (o':=0) (z:=b) f d Z Z Z Z cS Z (λx=>(bQ x).1) Z (aKf p X Z) Z Z u1 λw d=>zG θ he hi f Z ?_
     try dsimp only
     rw [bE E 11]
     exact d
    ·refine λE θ a w y he d=>have f:=he.h0;have am:=y 11 Z;have f:=f.more he 9 Z (onT);have f:=f.more he 8 Z (onT);have f:=f.more he 7 Z (onT);have f:=f.more he 6 Z (onT);have f:=f.more he 5 Z (onT);have f:=f.more he 3 Z (onT);have f:=f.more he 2 Z (onT);have f:=f.more he 1 Z (onT);have f:=f.more he 0 Z (onT);?_
     try dsimp only at d
     rw [am] at d
     exact ⟨f.kp Z,d⟩
    rintro a w ⟨f,d⟩
    exact ak _ _ (bK (sp 2 f Z λa f=>aN (ad (W (O + 1),(aE5 i (x * 12 + O).toNat b)) _ _ (sj F).symm ⟨f.kp Z,d⟩)))
   ·exact wp_exit (aP (aP (have Y:=cB F Y;cX (aa _ _ _ Y ⟨f.kp Z,d⟩))))
  ·exact wp_exit (aP (aP (have j:=cB F j;cX (ay _ _ _ j ⟨f.kp Z,d⟩))))

def aAk (N:Nat) (x:Int) (y:Int):Option (Int × Int) :=
 mulU x y
/-! ### Walks of the library -/
end Go.Nilo
namespace Go.Proofs
open Go.Shelf
def Tryz.lays189_ren:Go.Shelf.Ren:=⟨fun | 189=>128 | 125=>139 | 257=>138 | 128=>152 | 129=>153 | 294=>143 | 295=>144 | 296=>145 | 297=>146 | 298=>147 | 299=>148 | 216=>149 | 300=>150 | 301=>151 | 328=>154 | 329=>155 | 330=>156 | 331=>157 | 332=>158 | 215=>159 | 343=>160 | n=>n,fun | 28=>22 | 3=>3 | 46=>180 | 0=>0 | 51=>185 | 53=>188 | 4=>4 | 183=>194 | 182=>193 | 131=>198 | 5=>5 | 9=>9 | 218=>202 | 222=>39 | 228=>207 | 229=>208 | n=>n,fun | n=>n⟩
theorem Tryz.lays189:Go.Proofs.Lays.n189 Tryz.prog Tryz.lays189_ren:={
 mixed:=by kernel_rfl
 f125:=Tryz.func139.trans (congrArg some (by kernel_rfl))
 f128:=Tryz.func152.trans (congrArg some (by kernel_rfl))
 f129:=Tryz.func153.trans (congrArg some (by kernel_rfl))
 f189:=Tryz.func128.trans (congrArg some (by kernel_rfl))
 f215:=Tryz.func159.trans (congrArg some (by kernel_rfl))
 f216:=Tryz.func149.trans (congrArg some (by kernel_rfl))
 f257:=Tryz.func138.trans (congrArg some (by kernel_rfl))
 f294:=Tryz.func143.trans (congrArg some (by kernel_rfl))
 f295:=Tryz.func144.trans (congrArg some (by kernel_rfl))
 f296:=Tryz.func145.trans (congrArg some (by kernel_rfl))
 f297:=Tryz.func146.trans (congrArg some (by kernel_rfl))
 f298:=Tryz.func147.trans (congrArg some (by kernel_rfl))
 f299:=Tryz.func148.trans (congrArg some (by kernel_rfl))
 f300:=Tryz.func150.trans (congrArg some (by kernel_rfl))
 f301:=Tryz.func151.trans (congrArg some (by kernel_rfl))
 f328:=Tryz.func154.trans (congrArg some (by kernel_rfl))
 f329:=Tryz.func155.trans (congrArg some (by kernel_rfl))
 f330:=Tryz.func156.trans (congrArg some (by kernel_rfl))
 f331:=Tryz.func157.trans (congrArg some (by kernel_rfl))
 f332:=Tryz.func158.trans (congrArg some (by kernel_rfl))
 f343:=Tryz.func160.trans (congrArg some (by kernel_rfl))
 t0:=Tryz.underlying0
 a0:=Tryz.isAgg0
 z0:=Tryz.sizeOf0
 v0:=Tryz.zeroValue0
 t3:=Tryz.underlying3
 a3:=Tryz.isAgg3
 z3:=Tryz.sizeOf3
 v3:=Tryz.zeroValue3
 t4:=Tryz.underlying4
 a4:=Tryz.isAgg4
 z4:=Tryz.sizeOf4
 v4:=Tryz.zeroValue4
 t5:=Tryz.underlying5
 a5:=Tryz.isAgg5
 z5:=Tryz.sizeOf5
 v5:=Tryz.zeroValue5
 t9:=Tryz.underlying9
 a9:=Tryz.isAgg9
 z9:=Tryz.sizeOf9
 v9:=Tryz.zeroValue9
 t28:=Tryz.underlying22
 a28:=Tryz.isAgg22
 z28:=Tryz.sizeOf22
 v28:=Tryz.zeroValue22
 t46:=Tryz.underlying180
 a46:=Tryz.isAgg180
 z46:=Tryz.sizeOf180
 v46:=Tryz.zeroValue180
 t51:=Tryz.underlying185
 a51:=Tryz.isAgg185
 z51:=Tryz.sizeOf185
 v51:=Tryz.zeroValue185
 t53:=Tryz.underlying188
 a53:=Tryz.isAgg188
 z53:=Tryz.sizeOf188
 v53:=Tryz.zeroValue188
 t131:=Tryz.underlying198
 a131:=Tryz.isAgg198
 z131:=Tryz.sizeOf198
 v131:=Tryz.zeroValue198
 t182:=Tryz.underlying193
 a182:=Tryz.isAgg193
 z182:=Tryz.sizeOf193
 v182:=Tryz.zeroValue193
 t183:=Tryz.underlying194
 a183:=Tryz.isAgg194
 z183:=Tryz.sizeOf194
 v183:=Tryz.zeroValue194
 t218:=Tryz.underlying202
 a218:=Tryz.isAgg202
 z218:=Tryz.sizeOf202
 v218:=Tryz.zeroValue202
 t222:=Tryz.underlying39
 a222:=Tryz.isAgg39
 z222:=Tryz.sizeOf39
 v222:=Tryz.zeroValue39
 t228:=Tryz.underlying207
 a228:=Tryz.isAgg207
 z228:=Tryz.sizeOf207
 v228:=Tryz.zeroValue207
 t229:=Tryz.underlying208
 a229:=Tryz.isAgg208
 z229:=Tryz.sizeOf208
 v229:=Tryz.zeroValue208 }
def Tryz.lays20_ren:Go.Shelf.Ren:=⟨fun | 20=>129 | n=>n,fun | 22=>22 | 3=>3 | 4=>4 | 0=>0 | n=>n,fun | n=>n⟩
theorem Tryz.lays20:Go.Proofs.Lays2.n20 Tryz.prog Tryz.lays20_ren:={
 mixed:=by kernel_rfl
 f20:=Tryz.func129.trans (congrArg some (by kernel_rfl))
 t0:=Tryz.underlying0
 a0:=Tryz.isAgg0
 z0:=Tryz.sizeOf0
 v0:=Tryz.zeroValue0
 t3:=Tryz.underlying3
 a3:=Tryz.isAgg3
 z3:=Tryz.sizeOf3
 v3:=Tryz.zeroValue3
 t4:=Tryz.underlying4
 a4:=Tryz.isAgg4
 z4:=Tryz.sizeOf4
 v4:=Tryz.zeroValue4
 t22:=Tryz.underlying22
 a22:=Tryz.isAgg22
 z22:=Tryz.sizeOf22
 v22:=Tryz.zeroValue22
 i3:=by kernel_rfl }
def Tryz.lays212_ren:Go.Shelf.Ren:=⟨fun | 212=>135 | 263=>140 | 264=>141 | n=>n,fun | 46=>180 | 51=>185 | 146=>186 | 53=>188 | 148=>189 | n=>n,fun | n=>n⟩
theorem Tryz.lays212:Go.Proofs.Lays.n212 Tryz.prog Tryz.lays212_ren:={
 mixed:=by kernel_rfl
 f212:=Tryz.func135.trans (congrArg some (by kernel_rfl))
 f263:=Tryz.func140.trans (congrArg some (by kernel_rfl))
 f264:=Tryz.func141.trans (congrArg some (by kernel_rfl))
 t46:=Tryz.underlying180
 a46:=Tryz.isAgg180
 z46:=Tryz.sizeOf180
 v46:=Tryz.zeroValue180
 t51:=Tryz.underlying185
 a51:=Tryz.isAgg185
 z51:=Tryz.sizeOf185
 v51:=Tryz.zeroValue185
 t53:=Tryz.underlying188
 a53:=Tryz.isAgg188
 z53:=Tryz.sizeOf188
 v53:=Tryz.zeroValue188
 t146:=Tryz.underlying186
 a146:=Tryz.isAgg186
 z146:=Tryz.sizeOf186
 v146:=Tryz.zeroValue186
 t148:=Tryz.underlying189
 a148:=Tryz.isAgg189
 z148:=Tryz.sizeOf189
 v148:=Tryz.zeroValue189 }
end Go.Proofs
namespace Go.Nilo
open Go.Proofs
variable {N:Nat} {G:cJ} {Lf:List Ent} {w:World}

theorem aFk (x y:Int) (d:Ctx G (Lf) w) {B:Int × Int} (F:aAk N x y=some B):Cz G 135 #[.int .u64 x,.int .u64 y] w (.tuple #[.int .u64 B.1,.int .u64 B.2]) (Lf):=by
 unfold aAk at F
 exact aRv (λx y h1 h2 w=>Go.Proofs.Any.bits_Mul Go.Proofs.Tryz.lays212 x y h1 h2 w) d F

def sU (N:Nat) (B:List Int) (n:Int):Option (bC ((List Int) × Int) ((List Int))) :=
 cond (decide (n < ((B.length:Nat):Int)))
 (Option.bind (yE B n ((B.length:Nat):Int)) λsub=>
 Option.bind (yE B 0 n) λD=>
 Option.bind (cpOk D.length sub.length) λH=>
 some (.cont ((cpL B n.toNat sub.length D),W (n + ((Nat.min D.length sub.length:Nat):Int)))))
 (some (.brk (B,n)))
def bO (N:Nat) (x:List Int) (D:Int):Option ((List Int)) :=
 cond (decide (D < 0))
 (none)
 (Option.bind (aAk N (IntKind.u64.wrap (((x.length:Nat):Int))) (IntKind.u64.wrap (D))) λr=>
 cond ((decide (0 < r.1)) || (decide (9223372036854775807 < r.2)))
 (none)
 (Option.bind (inM (W (r.2))) λun=>
 Option.bind (cpO1 x.length) λI=>
 Option.bind (aS (λB=>sU N B.1 B.2) N ((cpL (List.replicate (W (r.2)).toNat (0:Int)) 0 ((List.replicate (W (r.2)).toNat (0:Int)).length) x),((Nat.min x.length ((List.replicate (W (r.2)).toNat (0:Int)).length):Nat):Int))) λH=>
 exK H (λB=>some B.1) some))
theorem zH {Y:Option Addr} {b:Nat} (x:List Int) (J:Int) (aa:Rd G 1 Y b (x.map aF)) (d:Ctx G (Lf) w) {O:(List Int)} (F:bO N x J=some O):Calls Tryz.prog 118 #[.slice Y x.length b,i6 J] w (λe w=>∃ (j:Option Addr) (p:Nat),e=.returned (.slice j O.length p)∧Ctx G (.row j p (O.map aF) 3 1::Lf) w):=by
 refine bY Tryz.func118 Z Tryz.ntmps118 Z λa f=>zS λK h=>sp 1 f Z λa f=>zT h (wp_seq_k λK2 h2=>zS λK h=>sp 2 f Z λa f=>zT h (zI f Z F ?_ ?_)) <;> intro F
 ·exact aG5 F
 ·refine wp_skip (h2 _ _ (zS λK h=>sp 1 f Z λa f=>zP f Z (bA Tryz.underlying22 Z) λa f=>zP f Z (pCv Tryz.underlying3 Tryz.underlying180 Z) λa f=>sp 1 f Z λa f=>zP f Z (pCv Tryz.underlying3 Tryz.underlying180 Z) λa f=>aH F λr hr F=>zQ (v:=.tuple #[.int .u64 r.1,.int .u64 r.2]) f d (eN 135) Z (λw d=>aFk (IntKind.u64.wrap (((x.length:Nat):Int))) (IntKind.u64.wrap (J)) d hr) λa w f d=>sp 5 f Z λa f=>zT h (wp_seq_k λK5 h5=>zS λK h=>?_)))
  refine sp 3 f Z λa f=>cV 3 (λa=>Has 48 a [(0,.slice Y x.length b),(6,.int .u64 r.2),(26,.bool ((decide (0 < r.1)) || (decide (9223372036854775807 < r.2))))]) d ?_ ?_
  ·cases hb:(decide (0 < r.1)) <;> (rw [hb] at f;exact sp 3 f Z λa f=>aN ⟨f.kp Z,d⟩)
  intro a w ⟨f,d⟩
  refine zT h (zI f Z F ?_ ?_) <;> intro F
  ·exact aG5 F
  ·refine wp_skip (h5 _ _ (zS λK h=>sp 1 f Z λa f=>zP f Z (pCv Tryz.underlying180 Tryz.underlying3 Z) λa f=>aH F λun y F=>aKk (m:=(List.replicate (W (r.2)).toNat (0:Int)).length) (rows:=(List.replicate (W (r.2)).toNat (0:Int)).map aF) f d Z Z eV Z Z (xC y) Z Z (by simp [List.map_replicate,Value.cells]) (by simp) λH a w f d=>sp 1 f Z λa f=>zT h (zS λK h=>sp 2 f Z λa f=>aH F λad i F=>stCp (enc:=aF) (R:=(List.replicate (W (r.2)).toNat (0:Int))) (S:=x) (lo:=0) f d Z Z Tryz.underlying22 cS Z (by simp) Z Z bQ (aDn d aa) (aO2 i) (by simp) u0 λa w f d=>sp 1 f Z λa f=>?_)))
   refine zT h (wp_seq_k λK9 h9=>wp_block (aH F λg q F=>?_))
   let S10:((List Int) × Int)→Act→World→Prop:=(λ(zz:(List Int) × Int) a w=>Has 48 a [(7,.slice (sa H) zz.1.length ((W (r.2)).toNat)),(8,i6 zz.2)]∧Ctx G (.row (sa H) ((W (r.2)).toNat) (zz.1.map aF) 3 1::Lf) w)
   have s:∀ (zz:(List Int) × Int) a w,g=.go zz→S10 zz a w→K9 a w:=by
    rintro ⟨B,n⟩ a w rfl ⟨f,d⟩
    refine have F:=bI F;h9 _ _ (zS λK h=>sp 2 f Z λa f=>zT h (wp_ret ?_))
    obtain rfl:=sj F
    exact zO1 Tryz.results118 f Z ⟨(sa H),(W (r.2)).toNat,Z,d⟩
   have ag:∀ r,g=.out r→r=O:=by
    rintro r rfl
    exact sj F
   refine have f:=f.castAt 7 (v':=.slice (sa H) ((cpL (List.replicate (W (r.2)).toNat (0:Int)) 0 ((List.replicate (W (r.2)).toNat (0:Int)).length) x).length) ((W (r.2)).toNat)) Z (congrArg (λk=>Value.slice (sa H) k ((W (r.2)).toNat)) (by simp));cF N (cE (S:=S10) (x:=g) ?_ N ((cpL (List.replicate (W (r.2)).toNat (0:Int)) 0 ((List.replicate (W (r.2)).toNat (0:Int)).length) x),((Nat.min x.length ((List.replicate (W (r.2)).toNat (0:Int)).length):Nat):Int)) _ _ ⟨f.kp Z,d⟩ q)
   clear F f d
   rintro ⟨B,n⟩ af a w KB10 ⟨f,d⟩ F I t
   unfold sU at F
   refine wp_seq_k λK12 z=>zS λK h=>sp 2 f Z λa f=>zP f Z (bA Tryz.underlying22 Z) λa f=>sp 1 f Z λa f=>zT h (zI f Z F ?_ ?_) <;> intro F
   ·refine wp_skip (z _ _ (sR λK14 ab=>wp_block (have qc:=aBe d m0;aH F λsub V F=>have u:=aBe d m0;aH F λD M F=>aH F λac U F=>have qs:=aC0 V;?_)))
    try dsimp only at qs
    refine jV (λθ=>[f0 7 (.slice (sa H) B.length ((W (r.2)).toNat)),⟨none,some 9,8,i6 n⟩,f1 0 38 (i6 n),f1 1 39 (.slice (sa H) B.length ((W (r.2)).toNat)),f1 2 40 (i6 n),f1 3 41 (.slice (aD4 (sa H) ((W (r.2)).toNat) n.toNat 1) sub.length (((W (r.2)).toNat) - n.toNat)),f1 4 42 (.slice (sa H) B.length ((W (r.2)).toNat)),f1 5 43 (i6 n),f1 6 44 (.slice (aD4 (sa H) ((W (r.2)).toNat) (0:Int).toNat 1) D.length (((W (r.2)).toNat) - (0:Int).toNat)),f1 7 45 (i6 ((Nat.min D.length sub.length:Nat):Int)),f1 8 46 (i6 (W (n + ((Nat.min D.length sub.length:Nat):Int)))),f1 9 8 (i6 (W (n + ((Nat.min D.length sub.length:Nat):Int))))]) (λE θ=>(bif E 7 then .row (sa H) ((W (r.2)).toNat) ((cpL B n.toNat sub.length D).map aF) 3 1 else .row (sa H) ((W (r.2)).toNat) (B.map aF) 3 1)::Lf) [(9,0),(9,2),(7,3),(9,5),(7,6)] (λa w=>Has 48 a [(7,.slice (sa H) B.length ((W (r.2)).toNat)),(8,i6 (W (n + ((Nat.min D.length sub.length:Nat):Int))))]∧Ctx G (.row (sa H) ((W (r.2)).toNat) ((cpL B n.toNat sub.length D).map aF) 3 1::Lf) w) aU (by kernel_rfl) (by kernel_rfl) (iW.of f ⟨Z,Z,trivial,trivial,trivial,trivial,trivial,trivial,trivial,trivial,trivial,trivial,trivial⟩) d ⟨?_,?_,?_,?_,?_,?_,?_,?_,?_,?_,trivial⟩ ?_ ?_
    ·exact λE θ a w hD hi hp he d=>have e9:=hD.f 0 Z hi;have f:=he.h0.mN he 1 Z e9;sp 1 f Z λa f=>zD θ he hi f 2 Z Z Z d
    ·exact λE θ a w hD hi hp he d=>have f:=he.h0.mT he 0 Z;sp 1 f Z λa f=>zD θ he hi f 3 Z Z Z d
    ·exact λE θ a w hD hi hp he d=>have e9:=hD.f 1 Z hi;have f:=he.h0.mN he 1 Z e9;sp 1 f Z λa f=>zD θ he hi f 4 Z Z Z d
    ·refine λE θ a w hD hi hp he d=>have e1:=hp.o 1 Z;have e2:=hp.o 2 Z;have e7:=hD.f 2 Z hi;?_
     try dsimp only at d
     rw [e7] at d
     refine have f:=(he.h0.mP he 3 Z e1).mP he 4 Z e2;zP f Z (pSl Tryz.underlying22 cS Z Z qc Z Z V) λa f=>zD θ he hi f 5 Z Z Z ?_
     try dsimp only
     rw [cR 3 e7 Z]
     exact d
    ·exact λE θ a w hD hi hp he d=>have f:=he.h0.mT he 0 Z;sp 1 f Z λa f=>zD θ he hi f 6 Z Z Z d
    ·exact λE θ a w hD hi hp he d=>have e9:=hD.f 3 Z hi;have f:=he.h0.mN he 1 Z e9;sp 1 f Z λa f=>zD θ he hi f 7 Z Z Z d
    ·refine λE θ a w hD hi hp he d=>have e4:=hp.o 4 Z;have e5:=hp.o 5 Z;have e7:=hD.f 4 Z hi;?_
     try dsimp only at d
     rw [e7] at d
     refine have f:=(he.h0.mP he 6 Z e4).mP he 7 Z e5;zP f Z (pSl Tryz.underlying22 cS Z Z u Z Z M) λa f=>zD θ he hi f 8 Z Z Z ?_
     try dsimp only
     rw [cR 6 e7 Z]
     exact d
    ·refine λE θ a w hD hi hp he d=>have e3:=hp.o 3 Z;have e6:=hp.o 6 Z;?_
     try dsimp only at d
     rw [hi] at d
     refine have f:=(he.h0.mP he 5 Z e3).mP he 8 Z e6;stCp (enc:=aF) (R:=B) (S:=D) (lo:=n.toNat) f d Z Z Tryz.underlying22 cS Z (aOg (aI5 U).2 (by have:B.length≤(W (r.2)).toNat:=aBe d m0;omega)) Z Z bQ (aRd (λx=>(bQ x).1) (gL d m0) M (aBe d m0)) (aI5 U).1 (by omega) u0 λa w f d=>zD θ he hi f 9 Z Z Z ?_
     try dsimp only
     rw [bE E 7]
     exact d
    ·exact λE θ a w hD hi hp he d=>have e0:=hp.o 0 Z;have e7:=hp.o 7 Z;have f:=(he.h0.mP he 2 Z e0).mP he 9 Z e7;sp 1 f Z λa f=>zD θ he hi f 10 Z Z Z d
    ·exact λE θ a w hD hi hp he d=>have e8:=hp.o 8 Z;have f:=he.h0.mP he 10 Z e8;sp 1 f Z λa f=>zD θ he hi f 11 Z Z Z d
    ·refine λE θ a w X he d=>have f:=he.h0;have e7:=X 7 Z;have e9:=X 9 Z;have f:=f.more he 11 Z (onP e9);have f:=f.more he 0 Z (onT);?_
     try dsimp only at d
     rw [e7] at d
     exact ⟨f.kp Z,d⟩
    rintro a w ⟨f,d⟩
    exact ab _ _ (have f:=f.castAt 7 (v':=.slice (sa H) ((cpL B n.toNat sub.length D).length) ((W (r.2)).toNat)) Z (congrArg (λk=>Value.slice (sa H) k ((W (r.2)).toNat)) (by simp));t ((cpL B n.toNat sub.length D),W (n + ((Nat.min D.length sub.length:Nat):Int))) _ _ (sj F).symm ⟨f.kp Z,d⟩)
   ·exact wp_exit (aP (aP (have I:=cB F I;cX (s _ _ _ I ⟨f.kp Z,d⟩))))

def iN (N:Nat) (w_:bJ) (p_:Int) (than:Int):Option (Int × Int) :=
 some (p_,than)
theorem tN {b_ H D:Nat} {I B:Option Addr} (w_:bJ) (p_ than:Int) (M:RdT aT G 1 I H w_.Roster.People) (J:RdT bD G 2 B D w_.Roster.Stations) (b:PC G b_ 0 (aBc [.slice I w_.Roster.People.length H,.slice B w_.Roster.Stations.length D] 144 aF w_.rank [])) (d:Ctx G (Lf) w) {O:Int × Int} (F:iN N w_ p_ than=some O):Calls Tryz.prog 74 #[pq b_,i6 p_,i6 than] w (λe w=>∃ (Y:Nat) (X:Nat) (U:Nat),e=.returned (.func (.func 114) #[] #[pq Y,pq X,pq U])∧Ctx G (.box Y [pq b_] 126::.box X [i6 O.1] 3::.box U [i6 O.2] 3::Lf) w):=by
 refine bY Tryz.func74 Z Tryz.ntmps74 Z λa f=>zS λK h=>zB f d Z λS a w f d=>zB f d Z λV a w f d=>zB f d Z λR a w f d=>sp 1 f Z λa f=>zT h (zS λK h=>zP f Z (pMF (us:=[pq S,pq V,pq R]) Z Z) λa f=>sp 1 f Z λa f=>zT h (wp_ret ?_))
 obtain rfl:=sj F
 exact have d:=((d.pick k0).pick k1).pick k2;zO1 Tryz.results74 f Z ⟨S,V,R,Z,d⟩

def iK (N:Nat) (w_:bJ) (p_:Int) (s_:Int):Option (Bool) :=
 Option.bind (inR s_ 12) λun=>
 Option.bind (inR p_ 12) λH=>
 Option.bind (cond ((w_.rank (s_ * 12 + p_).toNat) != (-1)) (Option.bind (aQ w_.Roster.People p_) λD=>
 Option.bind (hP N D s_) λr=>
 some r) (some false)) λB=>
 some B
theorem jY {b_ I D:Nat} {H B:Option Addr} (w_:bJ) (p_ s_:Int) (J:RdT aT G 1 H I w_.Roster.People) (S:RdT bD G 2 B D w_.Roster.Stations) (R:PC G b_ 0 (aBc [.slice H w_.Roster.People.length I,.slice B w_.Roster.Stations.length D] 144 aF w_.rank [])) (d:Ctx G (Lf) w) {X:Bool} (F:iK N w_ p_ s_=some X):Cz G 73 #[pq b_,i6 p_,i6 s_] w (.bool X) (Lf):=by
 refine bY Tryz.func73 Z Tryz.ntmps73 Z λa f=>zS λK h=>sp 1 f Z λa f=>zT h (zS λK h=>sp 4 f Z λa f=>zP f Z (pFA wY Z) λa f=>aH F λun U F=>zP f Z (aAb Tryz.underlying136 aCs Z Z (cG U).1 (cG U).2) λa f=>aH F λi O F=>zP f Z (Pu.cast (aAb Tryz.underlying135 cS Z Z (cG O).1 (cG O).2) (congrArg (λk=>Value.pointer (some ⟨b_,k,none⟩)) (xA (M:=12) (0 + 2) U O Z))) λa f=>zE f d Z (bB aZ Z (yW (j:=0) R (λx=>(bQ x).1) Z (aKf U O Z) Z)) λa w f d=>sp 2 f Z λa f=>aH F λb V F=>?_)
 refine cV 11 (λa=>Has 28 a [(6,.bool false),(27,.bool b)]) d ?_ ?_
 ·cases hb:((w_.rank (s_ * 12 + p_).toNat) != (-1))
  ·rw [hb] at f
   have F:=eG hb V
   obtain rfl:=sj F
   exact sp 11 f Z λa f=>aN ⟨f.kp Z,d⟩
  ·rw [hb] at f
   refine have F:=cO hb V;sp 2 f Z λa f=>zP f Z (pFA vM Z) λa f=>zP f Z (pFA iG Z) λa f=>zE f d Z (bB gR Z (aV (j:=0) R Z)) λa w f d=>sp 1 f Z λa f=>aH F λg Y F=>?_
   obtain ⟨m,o,hd,qa,qp,qr⟩:=J.atm Y
   refine zP f Z (pIA Tryz.underlying23 lN Z Z qa) λa f=>zE f d Z (bB eL Z (aV (j:=0) qp Z)) λa w f d=>sp 1 f Z λa f=>aH F λr hr F=>zQ (v:=.bool r) f d (eN 110) Z (λw d=>sD g s_ qr d hr) λa w f d=>sp 1 f Z λa f=>?_
   obtain rfl:=sj F
   exact aN ⟨f.kp Z,d⟩
 intro a w ⟨f,d⟩
 refine sp 1 f Z λa f=>zT h (wp_ret ?_)
 obtain rfl:=sj F
 exact zO1 Tryz.results73 f Z ⟨Z,d⟩

def jZ (N:Nat) {σ:Type} (D:Int) (B:σ):Option (bC (Int × σ) (σ)) :=
 some (.cont (W (D + 1),B))
def kB (N:Nat) {σ:Type} (x:bJ) (I:Int) (J:Int) (y:σ→Int→Option (σ × Bool)) (H:List Int) (B:Int) (sg:σ):Option (bC (Int × σ) (σ)) :=
 cond (decide (B < ((H.length:Nat):Int)))
 (Option.bind (aQ H B) λD=>
 cond (D == J)
 (some (.ret sg))
 (Option.bind (iK N (⟨x.Roster,x.rank⟩:bJ) I D) λr=>
 cond r
 (Option.bind (y sg D) λry=>
 cond (!ry.2)
 (some (.ret ry.1))
 (jZ N B ry.1))
 (jZ N B sg)))
 (some (.brk (B,sg)))
def fA (N:Nat) {σ:Type} (x:bJ) (B:Int) (I:Int) (y:σ→Int→Option (σ × Bool)) (D:σ):Option (σ) :=
 Option.bind (aQ x.Roster.People B) λH=>
 Option.bind (aS (λs3=>kB N x B I y H s3.1 s3.2) N (0,D)) λx3=>
 exK x3 (λs3=>some s3.2) some
theorem rW {b_ X M I V U:Nat} {O H:Option Addr} {σ:Type} (x:bJ) (Y b:Int) (B:RdT aT G 1 O M x.Roster.People) (D:RdT bD G 2 H I x.Roster.Stations) (i:PC G X 0 (aBc [.slice O x.Roster.People.length M,.slice H x.Roster.Stations.length I] 144 aF x.rank [])) (J:σ→List Ent→Prop) (y:σ→Int→Option (σ × Bool)) {l:Nat} (hy:aE0 Tryz.prog G l (λx:Int=>[i6 x]) J y) (t:σ) {Ls0:List Ent} (ak:J t Ls0) (d:Ctx G (.box b_ [pq X] 126::.box V [i6 Y] 3::.box U [i6 b] 3::(Ls0++Lf)) w) {s:σ} (F:fA N x Y b y t=some s):Calls Tryz.prog 114 #[.func (.yield l) #[] #[],pq b_,pq V,pq U] w (λe w=>(∃ v,e=.returned v)∧∃ L,J s L∧Ctx G (.box b_ [pq X] 126::.box V [i6 Y] 3::.box U [i6 b] 3::(L++Lf)) w):=by
 refine bY Tryz.func114 Z Tryz.ntmps114 Z λa f=>wp_seq_k λK1 h1=>aH F λk ad F=>?_
 obtain ⟨au,o,hd,qa,qp,qr⟩:=B.atm ad
 refine cQ d aU (by kernel_rfl) (qV f Z (bB tF Z (bN m0 Z)) λa f=>qp_ 1 f Z λa f=>qU f Z (pFA vM Z) λa f=>qU f Z (pFA iG Z) λa f=>qV f Z (bB gR Z (aV (j:=0) i Z)) λa f=>qV f Z (bB aZ Z (bN m1 Z)) λa f=>qU f Z (pIA Tryz.underlying23 lN Z Z qa) λa f=>qV f Z (bB eL Z (aV (j:=0) qp Z)) λa f=>qU f Z (bA Tryz.underlying22 Z) λa f=>qp_ 1 f Z λa f=>λw d=>h1 _ _ (sR λK2 h2=>?_))
 refine wp_block (aH F λx3 ai F=>?_)
 let S3:(Int × σ)→Act→World→Prop:=(λ(zz:Int × σ) a w=>∃ (Ls:List Ent),J zz.2 Ls∧Has 36 a [(0,.func (.yield l) #[] #[]),(1,pq b_),(2,pq V),(3,pq U),(14,.slice hd.1 k.length hd.2),(15,i6 ((k.length:Nat):Int)),(16,i6 zz.1)]∧Ctx G (.box b_ [pq X] 126::.box V [i6 Y] 3::.box U [i6 b] 3::(Ls++Lf)) w)
 have an:∀ (zz:Int × σ) a w,x3=.go zz→S3 zz a w→K2 a w:=by
  rintro ⟨p,sg⟩ a w rfl ⟨Ls,hJ,f,d⟩
  refine have F:=bI F;h2 _ _ ?_
  obtain rfl:=sj F
  exact aLy (by simp) Z Tryz.results114 f ⟨⟨_,Z⟩,Ls,hJ,d⟩
 have aa:∀ r,x3=.out r→r=s:=by
  rintro r rfl
  exact sj F
 refine cF N (cE (S:=S3) (x:=x3) ?_ N (0,t) _ _ ⟨Ls0,ak,f.kp Z,d⟩ ai)
 clear F f d
 rintro ⟨p,sg⟩ aj a w KB3 ⟨Ls,hJ,f,d⟩ F R am
 refine zS λK h=>sp 1 f Z λa f=>zT h (wp_seq_k λK5 h5=>zI f Z F ?_ ?_) <;> intro F
 ·refine wp_skip (h5 _ _ (wp_seq_k λK6 h6=>?_))
  have z:∀ (n:σ) (Ls_1:List Ent) a w,J n Ls_1→Has 36 a [(0,.func (.yield l) #[] #[]),(1,pq b_),(2,pq V),(3,pq U),(14,.slice hd.1 k.length hd.2),(15,i6 ((k.length:Nat):Int)),(16,i6 p)]→Ctx G (.box b_ [pq X] 126::.box V [i6 Y] 3::.box U [i6 b] 3::(Ls_1++Lf)) w→jZ N p n=some aj→K6 a w:=by
   repeat first | clear F | clear d | clear f
   intro n Ls_1 a w ag f d F
   unfold jZ at F
   exact h6 _ _ (bK (sp 2 f Z λa f=>aN (am (W (p + 1),n) _ _ (sj F).symm ⟨Ls_1,ag,f.kp Z,d⟩)))
  refine wp_block (zS λK h=>aH F λg af F=>?_)
  obtain ⟨aq,ar,ac,ab⟩:=qr.atm af
  refine zP f Z (pIA Tryz.underlying22 cS Z Z ac) λa f=>zE f d Z (bB aZ Z (aV (j:=0) ab Z)) λa w f d=>sp 1 f Z λa f=>zT h (wp_seq_k λK8 h8=>?_)
  rcases cH (g == b) with m | m
  ·refine have F:=cO m F;bK (sp 1 f Z λa f=>zL f d aZ m2 Z λa w f d=>sp 1 f Z λa f=>have f:=bH m f;sp 12 f Z λa f=>aN (h8 _ _ (aMf f Z (wp_ret (bG (aL (aL ?_)))))))
   refine have R:=cB F R;have F:=aa _ R;bG (aL ?_)
   obtain rfl:=F
   exact aLy (by simp) Z Tryz.results114 f ⟨⟨_,Z⟩,Ls,hJ,d⟩
  ·refine have F:=eG m F;aH F λr hr F=>?_
   rcases cH r with q | q
   ·refine have F:=cO q F;aH F λry ap F=>yReg 11 (λa w=>Has 36 a [(0,.func (.yield l) #[] #[]),(1,pq b_),(2,pq V),(3,pq U),(14,.slice hd.1 k.length hd.2),(15,i6 ((k.length:Nat):Int)),(16,i6 p),(6,i6 g),(20,i6 g),(21,i6 b),(22,.bool false),(23,.bool false),(24,pq X),(25,i6 Y),(26,i6 g),(27,.bool true),(28,.bool true),(29,.func (.yield l) #[] #[]),(30,i6 g)]∧Ctx G (.box b_ [pq X] 126::.box V [i6 Y] 3::.box U [i6 b] 3::(Ls++Lf)) w) (λ_ _ h=>by obtain ⟨⟨_,h⟩,_⟩:=h;cases h) ?_ ?_
    ·exact sp 1 f Z λa f=>zL f d aZ m2 Z λa w f d=>sp 1 f Z λa f=>have f:=bH m f;sp 1 f Z λa f=>zL f d tF m0 Z λa w f d=>zL f d aZ m1 Z λa w f d=>sp 1 f Z λa f=>zQ (v:=.bool r) f d (eN 73) Z (λw d=>jY (⟨x.Roster,x.rank⟩:bJ) Y g B D i d hr) λa w f d=>have f:=bH q f;sp 3 f Z λa f=>aN ⟨f.kp Z,d⟩
    rintro a w ⟨f,d⟩
    refine stY (own:=[.box b_ [pq X] 126,.box V [i6 Y] 3,.box U [i6 b] 3]) (v:=g) hy hJ ap f d Z Z Z Z Z Z λa w Ls_2 u f d=>have d:Ctx G (.box b_ [pq X] 126::.box V [i6 Y] 3::.box U [i6 b] 3::(Ls_2++Lf)) w:=d;yRest (λ_ _ h=>by obtain ⟨⟨_,h⟩,_⟩:=h;cases h) (sp 3 f Z λa f=>aN (h8 _ _ (zI f Z F ?_ ?_))) <;> intro F
    ·refine wp_ret (bG (aL (aL (have R:=cB F R;have F:=aa _ R;bG (aL ?_)))))
     obtain rfl:=F
     exact aLy (by simp) Z Tryz.results114 f ⟨⟨_,Z⟩,Ls_2,u,d⟩
    ·exact wp_skip (z ry.1 Ls_2 _ _ u (f.kp Z) d F)
   ·refine have F:=eG q F;bK (sp 1 f Z λa f=>zL f d aZ m2 Z λa w f d=>sp 1 f Z λa f=>have f:=bH m f;sp 1 f Z λa f=>zL f d tF m0 Z λa w f d=>zL f d aZ m1 Z λa w f d=>sp 1 f Z λa f=>zQ (v:=.bool r) f d (eN 73) Z (λw d=>jY (⟨x.Roster,x.rank⟩:bJ) Y g B D i d hr) λa w f d=>have f:=bH q f;sp 7 f Z λa f=>aN ?_)
    exact h8 _ _ (aMe f Z (wp_skip (z sg Ls _ _ hJ (f.kp Z) d F)))
 ·exact wp_exit (aP (aP (have R:=cB F R;cX (an _ _ _ R ⟨Ls,hJ,f.kp Z,d⟩))))

def iL (x:aA) (B:Int) (D:Int):Bool :=
 (x.Person == B && x.Station == D)
theorem aA1 {b_ B:Nat} (x:aA) (D H:Int) (d:Ctx G (.box b_ [i6 D] 3::.box B [i6 H] 3::Lf) w) {I:Bool} (F:iL x D H=I):Cz G 120 #[.agg #[i6 x.Person,i6 x.Station],pq b_,pq B] w (.bool I) (.box b_ [i6 D] 3::.box B [i6 H] 3::Lf):=by
 refine bY Tryz.func120 Z Tryz.ntmps120 Z λa f=>zS λK h=>zB f d Z λJ a w f d=>sp 1 f Z λa f=>zT h (zS λK h=>zN f d rL m0 Z λa w f d=>zL f d aZ m1 Z λa w f d=>zL f d aZ m2 Z λa w f d=>zP f Z (bS (cells:=[i6 D,i6 H]) xR Z Z) λa f=>zP f Z (pEqA aK2 Z Z (aHy _ _ _ _)) λa f=>sp 1 f Z λa f=>zT h (wp_ret ?_))
 obtain rfl:=F
 exact have d:=d.drop k0;zO1 Tryz.results120 f Z ⟨Z,d⟩

def hH (N:Nat) (s_:List aA) (f_:Int) (B:Int) (x:Int):Option (bC (Int) (Int)) :=
 cond (decide (x < ((s_.length:Nat):Int)))
 (Option.bind (aQ s_ x) λD=>
 cond (iL D f_ B)
 (some (.ret x))
 (some (.cont (W (x + 1)))))
 (some (.brk x))
def eR (N:Nat) (s_:List aA) (f_:Int) (B:Int):Option (Int) :=
 Option.bind (aS (λs4=>hH N s_ f_ B s4) N 0) λx4=>
 exK x4 (λs4=>some (-1)) some
theorem oS {J:Option Addr} {I b_ H:Nat} (s_:List aA) (f_ D:Int) (R:Rd G 2 J I (s_.map aM)) (d:Ctx G (.box b_ [i6 f_] 3::.box H [i6 D] 3::Lf) w) {O:Int} (F:eR N s_ f_ D=some O):Cz G 133 #[.slice J s_.length I,.func (.func 120) #[] #[pq b_,pq H]] w (i6 O) (.box b_ [i6 f_] 3::.box H [i6 D] 3::Lf):=by
 refine bY Tryz.func133 Z Tryz.ntmps133 Z λa f=>zS λK h=>sp 1 f Z λa f=>zT h (wp_seq_k λK2 h2=>zS λK h=>sp 1 f Z λa f=>zP f Z (bA Tryz.underlying30 Z) λa f=>sp 1 f Z λa f=>zT h (wp_block (aH F λx4 b F=>?_)))
 let S4:Int→Act→World→Prop:=(λ(zz:Int) a w=>Has 19 a [(0,.slice J s_.length I),(1,.func (.func 120) #[] #[pq b_,pq H]),(7,i6 ((s_.length:Nat):Int)),(8,i6 zz)]∧Ctx G (.box b_ [i6 f_] 3::.box H [i6 D] 3::Lf) w)
 have X:∀ (zz:Int) a w,x4=.go zz→S4 zz a w→K2 a w:=by
  rintro x a w rfl ⟨f,d⟩
  refine have F:=bI F;h2 _ _ (zS λK h=>sp 1 f Z λa f=>zT h (wp_ret ?_))
  obtain rfl:=sj F
  exact zO1 Tryz.results133 f Z ⟨Z,d⟩
 have V:∀ r,x4=.out r→r=O:=by
  rintro r rfl
  exact sj F
 refine cF N (cE (S:=S4) (x:=x4) ?_ N 0 _ _ ⟨f.kp Z,d⟩ b)
 clear F f d
 rintro x g a w KB4 ⟨f,d⟩ F B Y
 refine zS λK h=>sp 1 f Z λa f=>zT h (wp_seq_k λK7 h7=>zI f Z F ?_ ?_) <;> intro F
 ·refine wp_skip (h7 _ _ (wp_seq_k λK8 h8=>wp_block (zS λK h=>sp 2 f Z λa f=>zT h (zS λK h=>sp 3 f Z λa f=>aH F λM U F=>?_))))
  obtain ⟨i,o,qa,qp⟩:=R.atm U
  refine zP f Z (pIA Tryz.underlying30 pP Z Z qa) λa f=>zE f d Z (iY (vs:=[i6 M.Person,i6 M.Station]) rL Z Z (cY qp (n:=2) (o':=0) Z)) λa w f d=>zQ (v:=.bool (iL M f_ D)) f d (eN 120) Z (λw d=>(aA1 M f_ D ((d.pick k1).pick k1) Z).mono λe w h=>⟨h.1,((h.2.unpick k1).unpick k1)⟩) λa w f d=>zT h (zI f Z F ?_ ?_) <;> intro F
  ·refine zS λK h=>sp 2 f Z λa f=>zT h (wp_ret (bG (aL (aL (have B:=cB F B;have F:=V _ B;bG (aL ?_))))))
   obtain rfl:=F
   exact zO1 Tryz.results133 f Z ⟨Z,d⟩
  ·exact wp_skip (h8 _ _ (bK (sp 2 f Z λa f=>aN (Y (W (x + 1)) _ _ (sj F).symm ⟨f.kp Z,d⟩))))
 ·exact wp_exit (aP (aP (have B:=cB F B;cX (X _ _ _ B ⟨f.kp Z,d⟩))))

def dE (N:Nat) (s_:List aA) (f_:Int) (B:Int):Option (Bool) :=
 Option.bind (eR N s_ f_ B) λr=>
 some (decide (0≤r))
theorem nW {I:Option Addr} {H b_ D:Nat} (s_:List aA) (f_ B:Int) (M:Rd G 2 I H (s_.map aM)) (d:Ctx G (.box b_ [i6 f_] 3::.box D [i6 B] 3::Lf) w) {J:Bool} (F:dE N s_ f_ B=some J):Cz G 115 #[.slice I s_.length H,.func (.func 120) #[] #[pq b_,pq D]] w (.bool J) (.box b_ [i6 f_] 3::.box D [i6 B] 3::Lf):=by
 refine bY Tryz.func115 Z Tryz.ntmps115 Z λa f=>zS λK h=>sp 1 f Z λa f=>zT h (zS λK h=>sp 2 f Z λa f=>aH F λr hr F=>zQ (v:=i6 r) f d (eN 133) Z (λw d=>(oS s_ f_ B M ((d.pick k1).pick k1) hr).mono λe w h=>⟨h.1,((h.2.unpick k1).unpick k1)⟩) λa w f d=>sp 2 f Z λa f=>zT h (wp_ret ?_))
 obtain rfl:=sj F
 exact zO1 Tryz.results115 f Z ⟨Z,d⟩

def jE (N:Nat) (B:Int) (D:Int):Option (bC (Int × Int) (Rs ((List aA) × (List Int) × (List (Option (List (Int × Bool))))))) :=
 some (.cont (D,W (B + 1)))
def eY (N:Nat) (p_:Int) (x:bJ) (H:List (Option (List (Int × Bool)))) (xv:Int) (mm:List (Int × Bool)) (q:Int) (B:Int):Option (bC (Int × Int) (Rs ((List aA) × (List Int) × (List (Option (List (Int × Bool))))))) :=
 cond (decide (B < ((x.Roster.People.length:Nat):Int)))
 (Option.bind (aQ (H.set xv.toNat (some (kX mm p_ true))) xv) λI=>
 Option.bind (I) λD=>
 Option.bind (cond ((lkA D B).getD false) (inR xv 12) (some ())) λM=>
 Option.bind (cond ((lkA D B).getD false) (inR B 12) (some ())) λJ=>
 Option.bind (cond ((lkA D B).getD false) (inR xv 12) (some ())) λO=>
 Option.bind (cond ((lkA D B).getD false) (inR q 12) (some ())) λR=>
 cond (((lkA D B).getD false) && (decide ((x.rank (xv * 12 + q).toNat) < (x.rank (xv * 12 + B).toNat))))
 (jE N B B)
 (jE N B q))
 (some (.brk (q,B)))
def dA (N:Nat) (R:Int→bJ→(List aA)→(List Int)→(List (Option (List (Int × Bool))))→Option ((List aA) × (List Int) × (List (Option (List (Int × Bool)))))) (p_:Int) (x:bJ) (I:List aA) (H:List Int) (B:List (Option (List (Int × Bool)))) (xv:Int):Option (Rs ((List aA) × (List Int) × (List (Option (List (Int × Bool)))))) :=
 Option.bind (dE N I p_ xv) λX=>
 cond X
 (some (.go (I,H,B)))
 (Option.bind (aQ H p_) λg=>
 Option.bind (aQ B xv) λU=>
 Option.bind (U) λmm=>
 Option.bind (aQ (B.set xv.toNat (some (kX mm p_ true))) xv) λS=>
 Option.bind (S) λM=>
 Option.bind (aQ x.Roster.Stations xv) λb=>
 cond (decide (((M.length:Nat):Int)≤b.Places))
 (some (.ret (I,(H.set p_.toNat xv),(B.set xv.toNat (some (kX mm p_ true))))))
 (Option.bind (aS (λD=>eY N p_ x B xv mm D.1 D.2) N (p_,0)) λY=>
 exK Y (λD=>Option.bind (aQ (B.set xv.toNat (some (kX mm p_ true))) xv) λV=>
 Option.bind (V) λO=>
 Option.bind (aQ (H.set p_.toNat xv) D.1) λi=>
 Option.bind (room ((I++[(⟨D.1,xv⟩:aA)])).length) λun=>
 Option.bind (R D.1 (⟨x.Roster,x.rank⟩:bJ) (I++[(⟨D.1,xv⟩:aA)]) ((H.set p_.toNat xv).set D.1.toNat (-1)) ((B.set xv.toNat (some (kX mm p_ true))).set xv.toNat (some (aDp O D.1)))) λJ=>
 some (.ret (J.1,J.2.1,J.2.2))) some))
def dH:Nat→Int→bJ→(List aA)→(List Int)→(List (Option (List (Int × Bool))))→Option ((List aA) × (List Int) × (List (Option (List (Int × Bool)))))
| 0,_,_,_,_,_=>none
| N + 1,p_,x,x_1,x_2,x_3=>
 Option.bind (iN N (⟨x.Roster,x.rank⟩:bJ) p_ (-1)) λr=>
 Option.bind (fA N (⟨x.Roster,x.rank⟩:bJ) r.1 r.2 (rY (λ(zz:(List aA) × (List Int) × (List (Option (List (Int × Bool))))) (D:Int)=>dA N (dH N) p_ x zz.1 zz.2.1 zz.2.2 D)) (.go (x_1,x_2,x_3))) λx3=>
 rsK x3 (λB=>some (B.1,B.2.1,B.2.2)) (λB=>some (B.1,B.2.1,B.2.2))
theorem aBw {N:Nat}:∀ {G:cJ} {Lf:List Ent} {w:World} (p_:Int) (x:bJ) (a2:List aA) (a3:List Int) (a1:List (Option (List (Int × Bool)))) {b_:Nat} {U:Nat} {am:Option Addr} {ak:Nat} {ad:Option Addr} {ac:Nat} {R:Nat} {ar:Option Addr} {au:Nat} {I:Nat} {av:Option Addr} {ax:Nat} {H:Nat} {az:Option Addr} {an:aAf} {O:Nat} (af:RdT aT G 1 am ak x.Roster.People) (aa:RdT bD G 2 ad ac x.Roster.Stations) (aq:PC G U 0 (aBc [.slice am x.Roster.People.length ak,.slice ad x.Roster.Stations.length ac] 144 aF x.rank [])) (d:Ctx G (.box b_ [pq U] 126::.box R [.slice ar a2.length au] 30::.row ar au (a2.map aM) 29 2::.box I [.slice av a3.length ax] 22::.row av ax (a3.map aF) 3 1::.box H [.slice az a1.length an.1] 166::.row az an.1 ((aO an.2 a1).map (Kd.v bZ)) 167 1::bX bZ (aO an.2 a1)::.box O [.func (.func 119) #[] #[pq b_,pq R,pq I,pq H,pq O]] 169::Lf) w) {a0:(List aA) × (List Int) × (List (Option (List (Int × Bool))))} (F:dH N p_ x a2 a3 a1=some a0),Calls Tryz.prog 119 #[i6 p_,pq b_,pq R,pq I,pq H,pq O] w (λe w=>∃ (cc:Option Addr) (cf:Nat) (b7:Option Addr) (ck:Nat) (cn:Option Addr) (a5:aAf),e=.returned (.tuple #[])∧Ctx G (.row cc cf (a0.1.map aM) 29 2::.row b7 ck (a0.2.1.map aF) 3 1::.row cn a5.1 ((aO a5.2 a0.2.2).map (Kd.v bZ)) 167 1::bX bZ (aO a5.2 a0.2.2)::.box b_ [pq U] 126::.box R [.slice cc a0.1.length cf] 30::.box I [.slice b7 a0.2.1.length ck] 22::.box H [.slice cn a0.2.2.length a5.1] 166::.box O [.func (.func 119) #[] #[pq b_,pq R,pq I,pq H,pq O]] 169::Lf) w):=by
 induction N with
 | zero=>
  intro G Lf w p_ x a2 a3 a1 b_ U am ak ad ac R ar au I av ax H az an O af aa aq d a0 F
  exact aG5 F
 | succ N ih=>
 intro G Lf w p_ x a2 a3 a1 b_ U am ak ad ac R ar au I av ax H az an O af aa aq d a0 F
 rw [dH] at F
 refine aPq Tryz.func119 Z Tryz.ntmps119 Z λa f=>zS λK h=>zB f d Z λag a w f d=>zT h (zS λK h=>zL f d tF m1 Z λa w f d=>zL f d aZ m0 Z λa w f d=>aH F λr hr F=>zC f (eN 74) Z (tN (⟨x.Roster,x.rank⟩:bJ) p_ (-1) af aa aq d hr) ?_)
 rintro _ w ⟨bc,bf,bd,rfl,d⟩
 refine ⟨_,Z,λa f=>zT h (aH F λx3 dg F=>aO5 (C:=[.box bc [pq U] 126,.box bf [i6 r.1] 3,.box bd [i6 r.2] 3]) (C2:=[.box bc [pq U] 126,.box bf [i6 r.1] 3,.box bd [i6 r.2] 3]) (L0:=[.box ag [i6 p_] 3,.box b_ [pq U] 126,.box R [.slice ar a2.length au] 30,.row ar au (a2.map aM) 29 2,.box I [.slice av a3.length ax] 22,.row av ax (a3.map aF) 3 1,.box H [.slice az a1.length an.1] 166,.row az an.1 ((aO an.2 a1).map (Kd.v bZ)) 167 1,bX bZ (aO an.2 a1),.box O [.func (.func 119) #[] #[pq b_,pq R,pq I,pq H,pq O]] 169]) (Lf:=Lf) (encs:=λx:Int=>[i6 x]) (λ(zz:(List aA) × (List Int) × (List (Option (List (Int × Bool))))) L=>∃ (s:Option Addr) (p:Nat) (ai:Option Addr) (n:Nat) (aj:Option Addr) (B:aAf),L=[.box ag [i6 p_] 3,.box b_ [pq U] 126,.box R [.slice s zz.1.length p] 30,.row s p (zz.1.map aM) 29 2,.box I [.slice ai zz.2.1.length n] 22,.row ai n (zz.2.1.map aF) 3 1,.box H [.slice aj zz.2.2.length B.1] 166,.row aj B.1 ((aO B.2 zz.2.2).map (Kd.v bZ)) 167 1,bX bZ (aO B.2 zz.2.2),.box O [.func (.func 119) #[] #[pq b_,pq R,pq I,pq H,pq O]] 169]) (λ(zz:(List aA) × (List Int) × (List (Option (List (Int × Bool))))) (dz:Int)=>dA N (dH N) p_ x zz.1 zz.2.1 zz.2.2 dz) (a2,a3,a1) x3 f d Z (eN 114) (λ_=>Z) Z ⟨ar,au,av,ax,az,an,Z⟩ ?_ ?_ ?_ ?_)⟩
 ·exact λlq mq J L Lx w hy hJ d=>rW (⟨x.Roster,x.rank⟩:bJ) r.1 r.2 af aa aq J _ hy _ hJ d dg
 ·clear F f d
  rintro lq mq ⟨V,X,D⟩ xv oq _ Lr Lb a w gg ⟨s,p,ai,n,aj,B,rfl⟩ F f d hK
  refine have f:Has 95 a [(1,pq b_),(2,pq R),(3,pq I),(4,pq H),(5,pq O),(6,pq ag),(13,i6 xv)]:=f.kp Z;have d:Ctx G (.box ag [i6 p_] 3::.box b_ [pq U] 126::.box R [.slice s V.length p] 30::.row s p (V.map aM) 29 2::.box I [.slice ai X.length n] 22::.row ai n (X.map aF) 3 1::.box H [.slice aj D.length B.1] 166::.row aj B.1 ((aO B.2 D).map (Kd.v bZ)) 167 1::bX bZ (aO B.2 D)::.box O [.func (.func 119) #[] #[pq b_,pq R,pq I,pq H,pq O]] 169::Lr) w:=d;have F:dA N (dH N) p_ x V X D xv=some oq:=F;?_
  unfold dA at F
  refine aBt (λ_ _ h=>h) Z (zA f d aOh Z λap a w f d=>zW f d cS u0 Z λw d=>aN (hK _ _ [.box ap [i6 xv] 3,.box ag [i6 p_] 3,.box b_ [pq U] 126,.box R [.slice s V.length p] 30,.row s p (V.map aM) 29 2,.box I [.slice ai X.length n] 22,.row ai n (X.map aF) 3 1,.box H [.slice aj D.length B.1] 166,.row aj B.1 ((aO B.2 D).map (Kd.v bZ)) 167 1,bX bZ (aO B.2 D),.box O [.func (.func 119) #[] #[pq b_,pq R,pq I,pq H,pq O]] 169] d λw d=>have d:Ctx G (.box ap [i6 xv] 3::.box ag [i6 p_] 3::.box b_ [pq U] 126::.box R [.slice s V.length p] 30::.row s p (V.map aM) 29 2::.box I [.slice ai X.length n] 22::.row ai n (X.map aF) 3 1::.box H [.slice aj D.length B.1] 166::.row aj B.1 ((aO B.2 D).map (Kd.v bZ)) 167 1::bX bZ (aO B.2 D)::.box O [.func (.func 119) #[] #[pq b_,pq R,pq I,pq H,pq O]] 169::Lb) w:=d;aLw λK4 h4=>aHs (aAh λK5 h5=>aAh λK6 h6=>aBt (λ_ _ h=>h) Z (zL f d aNg m3 Z λa w f d=>zP f Z (pMF (us:=[pq ag,pq ap]) Z Z) λa f=>aH F λcm db F=>?_))))
  refine zQ (v:=.bool cm) f d (eN 115) Z (λw d=>by obtain ⟨G1,gc,cz,d,c5⟩:=lend d k4;exact (nW V p_ xv cz ((d.pick k0).pick k1) db).mono λe w h=>⟨h.1,((c5 _ _ ((h.2.unpick k1).unpick k0)).unpick k4)⟩) λa w f d=>aN (h6 _ _ (aKv (b:=cm) f Z (λhb=>?_) (λhb=>?_)))
  ·replace F:=cO hb F
   clear hb
   exact aRa (aP (cX (h4 _ _ (have d:=d.drop k0;⟨(V,X,D),_,(sj F).symm,⟨s,p,ai,n,aj,B,Z⟩,d⟩))))
  ·replace F:=eG hb F
   clear hb
   refine aKh (h5 _ _ (aAh λK7 h7=>aBt (λ_ _ h=>h) Z (zL f d eL m5 Z λa w f d=>zL f d aZ m1 Z λa w f d=>zL f d aZ m0 Z λa w f d=>aH F λgf b2 F=>have dj:=f;?_)))
   obtain ⟨g,rfl,qa,qr⟩:=gW d m6 b2
   refine have f:=dj;zP f Z (pIA Tryz.underlying22 cS Z Z qa) λa f=>wA (sz:=1) (vs:=[i6 xv]) (o':=0) (z:=xv) (xs:=X) f d Z Z Z Z cS Z (λx=>(bQ x).1) (fX b2) (λ_ _=>Z) Z u6 λw d=>aN (h7 _ _ (aAh λK8 h8=>aH F λgk bi F=>?_))
   obtain ⟨ab,rfl,c4,cx⟩:=gW d m8 (kD bi)
   refine aH F λmm b1 F=>aNb (λ_ _ h=>h) Z (λθ=>[f0 1 (pq b_),f0 2 (pq R),f0 3 (pq I),f0 4 (pq H),f0 5 (pq O),f0 6 (pq ag),f0 7 (pq ap),f1 0 21 (.slice (sa ab) D.length B.1),f1 1 22 (i6 xv),f1 2 23 (.pointer (some ⟨ab,xv.toNat * 1,none⟩)),f1 3 24 (.map (some ((B.2 xv.toNat).2))),f1 4 25 (i6 p_)]) (λE θ=>.box ap [i6 xv] 3::.box ag [i6 p_] 3::.box b_ [pq U] 126::.box R [.slice s V.length p] 30::.row s p (V.map aM) 29 2::.box I [.slice (sa g) X.length n] 22::.row (sa g) n ((X.set p_.toNat xv).map aF) 3 1::.box H [.slice (sa ab) D.length B.1] 166::(bif E 5 then .row (sa ab) B.1 ((aO B.2 (D.set xv.toNat (some (kX mm p_ true)))).map (Kd.v bZ)) 167 1 else .row (sa ab) B.1 ((aO B.2 D).map (Kd.v bZ)) 167 1)::(bif E 5 then bX bZ (aO B.2 (D.set xv.toNat (some (kX mm p_ true)))) else bX bZ (aO B.2 D))::.box O [.func (.func 119) #[] #[pq b_,pq R,pq I,pq H,pq O]] 169::Lb) [(5,2),(5,3)] (λa w=>Has 95 a [(1,pq b_),(2,pq R),(3,pq I),(4,pq H),(5,pq O),(6,pq ag),(7,pq ap)]∧Ctx G (.box ap [i6 xv] 3::.box ag [i6 p_] 3::.box b_ [pq U] 126::.box R [.slice s V.length p] 30::.row s p (V.map aM) 29 2::.box I [.slice (sa g) X.length n] 22::.row (sa g) n ((X.set p_.toNat xv).map aF) 3 1::.box H [.slice (sa ab) D.length B.1] 166::.row (sa ab) B.1 ((aO B.2 (D.set xv.toNat (some (kX mm p_ true)))).map (Kd.v bZ)) 167 1::bX bZ (aO B.2 (D.set xv.toNat (some (kX mm p_ true))))::.box O [.func (.func 119) #[] #[pq b_,pq R,pq I,pq H,pq O]] 169::Lb) w) aU (by kernel_rfl) (by kernel_rfl) (iW.of f ⟨Z,Z,Z,Z,Z,Z,Z,trivial,trivial,trivial,trivial,trivial,trivial⟩) d ⟨?_,?_,?_,?_,?_,?_,trivial⟩ ?_ ?_
   ·exact λE θ a w hD hi hp he d=>have f:=he.h0.mT he 3 Z;zL f d aFb m7 Z λa w f d=>zD θ he hi f 7 Z Z Z d
   ·exact λE θ a w hD hi hp he d=>have f:=he.h0.mT he 6 Z;zL f d aZ m0 Z λa w f d=>zD θ he hi f 8 Z Z Z d
   ·refine λE θ a w hD hi hp he d=>have e0:=hp.o 0 Z;have e1:=hp.o 1 Z;have e5:=hD.f 0 Z hi;?_
    try dsimp only at d
    rw [e5] at d
    refine have f:=(he.h0.mP he 7 Z e0).mP he 8 Z e1;zP f Z (pIA Tryz.underlying166 aFl Z Z (At.len c4 (by simp only [eF,List.length_set]))) λa f=>zD θ he hi f 9 Z Z Z ?_
    try dsimp only
    rw [cR 2 e5 Z]
    exact d
   ·refine λE θ a w hD hi hp he d=>have e2:=hp.o 2 Z;have e5:=hD.f 1 Z hi;?_
    try dsimp only at d
    rw [e5] at d
    refine have f:=he.h0.mP he 9 Z e2;zE f d Z (bB aJ4 Z (cA (sz:=1) (i:=xv.toNat) (j:=0) m8 cx (by subst b1;rfl))) λa w f d=>zD θ he hi f 10 Z Z Z ?_
    try dsimp only
    rw [cR 3 e5 Z]
    exact d
   ·exact λE θ a w hD hi hp he d=>have f:=he.h0.mT he 5 Z;zL f d aZ m1 Z λa w f d=>zD θ he hi f 11 Z Z Z d
   ·refine λE θ a w hD hi hp he d=>have e3:=hp.o 3 Z;have e4:=hp.o 4 Z;?_
    try dsimp only at d
    rw [hi] at d
    refine have f:=(he.h0.mP he 10 Z e3).mP he 11 Z e4;have d:=aEv (d.pick k9) (aA4 (aC2 bi b1));have d:Ctx G (.gm ((B.2 xv.toNat).2) (ALq Value.bool mm)::bX bZ ((aO B.2 D).eraseIdx xv.toNat)::.box ap [i6 xv] 3::.box ag [i6 p_] 3::.box b_ [pq U] 126::.box R [.slice s V.length p] 30::.row s p (V.map aM) 29 2::.box I [.slice (sa g) X.length n] 22::.row (sa g) n ((X.set p_.toNat xv).map aF) 3 1::.box H [.slice (sa ab) D.length B.1] 166::.row (sa ab) B.1 ((aO B.2 D).map (Kd.v bZ)) 167 1::.box O [.func (.func 119) #[] #[pq b_,pq R,pq I,pq H,pq O]] 169::Lb) w:=d;stAU (enc:=Value.bool) (kvs:=mm) (k:=p_) (v:=true) f d Z Tryz.underlying167 Tryz.underlying3 Z Z Z u0 λw d=>have d:=((((((((((d.pick k9).pick k9).pick k9).pick k9).pick k9).pick k9).pick k9).pick k9).pick k9).pick k10).pick k10;have d:=aH0 (K:=bZ) (y:=some (kX mm p_ true)) (aA4 (aC2 bi b1)) Z d;have d:Ctx G (.row (sa ab) B.1 ((aO B.2 (D.set xv.toNat (some (kX mm p_ true)))).map (Kd.v bZ)) 167 1::bX bZ (aO B.2 (D.set xv.toNat (some (kX mm p_ true))))::.box ap [i6 xv] 3::.box ag [i6 p_] 3::.box b_ [pq U] 126::.box R [.slice s V.length p] 30::.row s p (V.map aM) 29 2::.box I [.slice (sa g) X.length n] 22::.row (sa g) n ((X.set p_.toNat xv).map aF) 3 1::.box H [.slice (sa ab) D.length B.1] 166::.box O [.func (.func 119) #[] #[pq b_,pq R,pq I,pq H,pq O]] 169::Lb) w:=d;have d:=(((((((((d.pick k1).pick k1).pick k9).pick k9).pick k9).pick k9).pick k9).pick k9).pick k9).pick k9;zG θ he hi f Z ?_
    try dsimp only
    rw [bE E 5]
    exact d
   ·refine λE θ a w a9 he d=>have f:=he.h0;have e5:=a9 5 Z;have f:=f.more he 6 Z (onT);have f:=f.more he 5 Z (onT);have f:=f.more he 4 Z (onT);have f:=f.more he 3 Z (onT);have f:=f.more he 2 Z (onT);have f:=f.more he 1 Z (onT);have f:=f.more he 0 Z (onT);?_
    try dsimp only at d
    rw [e5] at d
    exact ⟨f.kp Z,d⟩
   rintro a w ⟨f,d⟩
   refine h8 _ _ (aAh λK9 h9=>aAh λK10 d5=>aH F λgj b3 F=>?_)
   obtain ⟨c3,c0⟩:=cK d m8 (kD b3)
   refine aH F λbb bt F=>aH F λbn c2 F=>?_
   obtain ⟨b8,o,hd,c1,qp,ga⟩:=aa.atm c2
   refine aNb (λ_ _ h=>h) Z (λθ=>[f0 1 (pq b_),f0 2 (pq R),f0 3 (pq I),f0 4 (pq H),f0 5 (pq O),f0 6 (pq ag),f0 7 (pq ap),f1 0 26 (.slice (sa ab) D.length B.1),f1 1 27 (i6 xv),f1 2 28 (.pointer (some ⟨ab,xv.toNat * 1,none⟩)),f1 3 29 (.map (some ((B.2 xv.toNat).2))),f1 4 30 (i6 ((bb.length:Nat):Int)),f1 5 31 (pq U),f1 6 32 (pq U),f1 7 33 (.pointer (some ⟨U,0 + 0,none⟩)),f1 8 34 (.pointer (some ⟨U,0 + 0 + 1,none⟩)),f1 9 35 (.slice ad x.Roster.Stations.length ac),f1 10 36 (i6 xv),f1 11 37 (.pointer (some ⟨b8,o,none⟩)),f1 12 38 (.pointer (some ⟨b8,o + 0,none⟩)),f1 13 39 (i6 bn.Places),f1 14 40 (.bool (decide (((bb.length:Nat):Int)≤bn.Places)))]) (λE θ=>.box ap [i6 xv] 3::.box ag [i6 p_] 3::.box b_ [pq U] 126::.box R [.slice s V.length p] 30::.row s p (V.map aM) 29 2::.box I [.slice (sa g) X.length n] 22::.row (sa g) n ((X.set p_.toNat xv).map aF) 3 1::.box H [.slice (sa ab) D.length B.1] 166::.row (sa ab) B.1 ((aO B.2 (D.set xv.toNat (some (kX mm p_ true)))).map (Kd.v bZ)) 167 1::bX bZ (aO B.2 (D.set xv.toNat (some (kX mm p_ true))))::.box O [.func (.func 119) #[] #[pq b_,pq R,pq I,pq H,pq O]] 169::Lb) [] (λa w=>Has 95 a [(1,pq b_),(2,pq R),(3,pq I),(4,pq H),(5,pq O),(6,pq ag),(7,pq ap),(40,.bool (decide (((bb.length:Nat):Int)≤bn.Places)))]∧Ctx G (.box ap [i6 xv] 3::.box ag [i6 p_] 3::.box b_ [pq U] 126::.box R [.slice s V.length p] 30::.row s p (V.map aM) 29 2::.box I [.slice (sa g) X.length n] 22::.row (sa g) n ((X.set p_.toNat xv).map aF) 3 1::.box H [.slice (sa ab) D.length B.1] 166::.row (sa ab) B.1 ((aO B.2 (D.set xv.toNat (some (kX mm p_ true)))).map (Kd.v bZ)) 167 1::bX bZ (aO B.2 (D.set xv.toNat (some (kX mm p_ true))))::.box O [.func (.func 119) #[] #[pq b_,pq R,pq I,pq H,pq O]] 169::Lb) w) aU (by kernel_rfl) (by kernel_rfl) (iW.of f ⟨Z,Z,Z,Z,Z,Z,Z,trivial,trivial,trivial,trivial,trivial,trivial,trivial,trivial,trivial,trivial,trivial,trivial,trivial,trivial,trivial,trivial⟩) d ⟨?_,?_,?_,?_,?_,?_,?_,?_,?_,?_,?_,?_,?_,?_,?_,trivial⟩ ?_ ?_
   ·exact λE θ a w hD hi hp he d=>have f:=he.h0.mT he 3 Z;zL f d aFb m7 Z λa w f d=>zD θ he hi f 7 Z Z Z d
   ·exact λE θ a w hD hi hp he d=>have f:=he.h0.mT he 6 Z;zL f d aZ m0 Z λa w f d=>zD θ he hi f 8 Z Z Z d
   ·exact λE θ a w hD hi hp he d=>have e0:=hp.o 0 Z;have e1:=hp.o 1 Z;have f:=(he.h0.mP he 7 Z e0).mP he 8 Z e1;zP f Z (pIA Tryz.underlying166 aFl Z Z (At.len c3 (by simp only [eF,List.length_set]))) λa f=>zD θ he hi f 9 Z Z Z d
   ·exact λE θ a w hD hi hp he d=>have e2:=hp.o 2 Z;have f:=he.h0.mP he 9 Z e2;zE f d Z (bB aJ4 Z (cA (sz:=1) (i:=xv.toNat) (j:=0) m8 c0 (by subst bt;rfl))) λa w f d=>zD θ he hi f 10 Z Z Z d
   ·exact λE θ a w hD hi hp he d=>have e3:=hp.o 3 Z;have f:=he.h0.mP he 10 Z e3;zE f d Z (eLenA (enc:=Value.bool) (kvs:=bb) (aSi m9 (aC2 b3 bt)) Tryz.underlying167 Z) λa w f d=>zD θ he hi f 11 Z Z Z d
   ·exact λE θ a w hD hi hp he d=>have f:=he.h0.mT he 0 Z;zL f d tF m2 Z λa w f d=>zD θ he hi f 12 Z Z Z d
   ·exact λE θ a w hD hi hp he d=>have e5:=hp.o 5 Z;have f:=he.h0.mP he 12 Z e5;sp 1 f Z λa f=>zD θ he hi f 13 Z Z Z d
   ·exact λE θ a w hD hi hp he d=>have e6:=hp.o 6 Z;have f:=he.h0.mP he 13 Z e6;zP f Z (pFA vM Z) λa f=>zD θ he hi f 14 Z Z Z d
   ·exact λE θ a w hD hi hp he d=>have e7:=hp.o 7 Z;have f:=he.h0.mP he 14 Z e7;zP f Z (pFA fH Z) λa f=>zD θ he hi f 15 Z Z Z d
   ·exact λE θ a w hD hi hp he d=>have e8:=hp.o 8 Z;have f:=he.h0.mP he 15 Z e8;zE f d Z (bB pB Z (aV (j:=1) aq Z)) λa w f d=>zD θ he hi f 16 Z Z Z d
   ·exact λE θ a w hD hi hp he d=>have f:=he.h0.mT he 6 Z;zL f d aZ m0 Z λa w f d=>zD θ he hi f 17 Z Z Z d
   ·exact λE θ a w hD hi hp he d=>have e9:=hp.o 9 Z;have bk:=hp.o 10 Z;have f:=(he.h0.mP he 16 Z e9).mP he 17 Z bk;zP f Z (pIA Tryz.underlying24 tV Z Z c1) λa f=>zD θ he hi f 18 Z Z Z d
   ·exact λE θ a w hD hi hp he d=>have bs:=hp.o 11 Z;have f:=he.h0.mP he 18 Z bs;zP f Z (pFA wL Z) λa f=>zD θ he hi f 19 Z Z Z d
   ·exact λE θ a w hD hi hp he d=>have bq:=hp.o 12 Z;have f:=he.h0.mP he 19 Z bq;zE f d Z (bB aZ Z (aV (j:=0) qp Z)) λa w f d=>zD θ he hi f 20 Z Z Z d
   ·exact λE θ a w hD hi hp he d=>have e4:=hp.o 4 Z;have br:=hp.o 13 Z;have f:=(he.h0.mP he 11 Z e4).mP he 20 Z br;sp 1 f Z λa f=>zD θ he hi f 21 Z Z Z d
   ·exact λE θ a w a9 he d=>have f:=he.h0;have bm:=a9 14 Z;have f:=f.more he 21 Z (onP bm);have f:=f.more he 6 Z (onT);have f:=f.more he 5 Z (onT);have f:=f.more he 4 Z (onT);have f:=f.more he 3 Z (onT);have f:=f.more he 2 Z (onT);have f:=f.more he 1 Z (onT);have f:=f.more he 0 Z (onT);⟨f.kp Z,d⟩
   rintro a w ⟨f,d⟩
   refine d5 _ _ (aKv (b:=(decide (((bb.length:Nat):Int)≤bn.Places))) f Z (λhb=>?_) (λhb=>?_))
   ·replace F:=cO hb F
    clear hb
    refine rRet (aL (bG (aL ?_)))
    replace d:Ctx G (.box ap [i6 xv] 3::.box ag [i6 p_] 3::.box b_ [pq U] 126::.box R [.slice s V.length p] 30::.row s p (V.map aM) 29 2::.box I [.slice (sa g) ((X.set p_.toNat xv).length) n] 22::.row (sa g) n ((X.set p_.toNat xv).map aF) 3 1::.box H [.slice (sa ab) ((D.set xv.toNat (some (kX mm p_ true))).length) B.1] 166::.row (sa ab) B.1 ((aO B.2 (D.set xv.toNat (some (kX mm p_ true)))).map (Kd.v bZ)) 167 1::bX bZ (aO B.2 (D.set xv.toNat (some (kX mm p_ true))))::.box O [.func (.func 119) #[] #[pq b_,pq R,pq I,pq H,pq O]] 169::Lb) w:=by simp only [List.length_set] at d ⊢;exact d
    exact have d:=d.drop k0;⟨(V,(X.set p_.toNat xv),(D.set xv.toNat (some (kX mm p_ true)))),_,(sj F).symm,⟨s,p,(sa g),n,(sa ab),B,Z⟩,d⟩
   ·replace F:=eG hb F
    clear hb
    refine aKh (h9 _ _ (aAh λK11 d2=>aBt (λ_ _ h=>h) Z (zL f d aZ m1 Z λa w f d=>sp 1 f Z λa f=>aN (d2 _ _ (aAh λK12 di=>aAh λK13 dm=>aBt (λ_ _ h=>h) Z (zL f d tF m2 Z λa w f d=>sp 1 f Z λa f=>zP f Z (pFA vM Z) λa f=>?_))))))
    refine zP f Z (pFA iG Z) λa f=>zE f d Z (bB gR Z (aV (j:=0) aq Z)) λa w f d=>zP f Z (bA Tryz.underlying23 Z) λa f=>sp 1 f Z λa f=>aN (dm _ _ (aHs (aH F λbx ct F=>?_)))
    let S14:(Int × Int)→Act→World→Prop:=(λ(zz:Int × Int) a w=>Has 95 a [(1,pq b_),(2,pq R),(3,pq I),(4,pq H),(5,pq O),(7,pq ap),(8,i6 zz.1),(47,i6 ((x.Roster.People.length:Nat):Int)),(48,i6 zz.2)]∧Ctx G (.box ap [i6 xv] 3::.box ag [i6 p_] 3::.box b_ [pq U] 126::.box R [.slice s V.length p] 30::.row s p (V.map aM) 29 2::.box I [.slice (sa g) ((X.set p_.toNat xv).length) n] 22::.row (sa g) n ((X.set p_.toNat xv).map aF) 3 1::.box H [.slice (sa ab) ((D.set xv.toNat (some (kX mm p_ true))).length) B.1] 166::.row (sa ab) B.1 ((aO B.2 (D.set xv.toNat (some (kX mm p_ true)))).map (Kd.v bZ)) 167 1::bX bZ (aO B.2 (D.set xv.toNat (some (kX mm p_ true))))::.box O [.func (.func 119) #[] #[pq b_,pq R,pq I,pq H,pq O]] 169::Lb) w)
    have dc:∀ (zz:Int × Int) a w,bx=.go zz→S14 zz a w→K12 a w:=by
     rintro ⟨q,Y⟩ a w rfl ⟨f,d⟩
     refine have F:=bI F;di _ _ (aAh λK15 dy=>aBt (λ_ _ h=>h) Z (zL f d aFb m7 Z λa w f d=>zL f d aZ m0 Z λa w f d=>aH F λgi bj F=>?_))
     obtain ⟨c6,cv⟩:=cK d m8 (kD bj)
     refine zP f Z (pIA Tryz.underlying166 aFl Z Z (At.len c6 (by simp only [eF,List.length_set]))) λa f=>aH F λay bg F=>zE f d Z (bB aJ4 Z (cA (sz:=1) (i:=xv.toNat) (j:=0) m8 cv (by subst bg;rfl))) λa w f d=>sp 1 f Z λa f=>have d:=aEv (d.pick k9) (aA4 (aC2 bj bg));have d:Ctx G (.gm ((B.2 xv.toNat).2) (ALq Value.bool ay)::bX bZ ((aO B.2 (D.set xv.toNat (some (kX mm p_ true)))).eraseIdx xv.toNat)::.box ap [i6 xv] 3::.box ag [i6 p_] 3::.box b_ [pq U] 126::.box R [.slice s V.length p] 30::.row s p (V.map aM) 29 2::.box I [.slice (sa g) ((X.set p_.toNat xv).length) n] 22::.row (sa g) n ((X.set p_.toNat xv).map aF) 3 1::.box H [.slice (sa ab) ((D.set xv.toNat (some (kX mm p_ true))).length) B.1] 166::.row (sa ab) B.1 ((aO B.2 (D.set xv.toNat (some (kX mm p_ true)))).map (Kd.v bZ)) 167 1::.box O [.func (.func 119) #[] #[pq b_,pq R,pq I,pq H,pq O]] 169::Lb) w:=d;stAD (enc:=Value.bool) (kvs:=ay) (k:=q) f d Z Z Tryz.underlying167 Tryz.underlying3 Z Z u0 λw d=>have d:=((((((((((d.pick k9).pick k9).pick k9).pick k9).pick k9).pick k9).pick k9).pick k9).pick k9).pick k10).pick k10;have d:=aH0 (K:=bZ) (y:=some (aDp ay q)) (aA4 (aC2 bj bg)) Z d;have d:Ctx G (.row (sa ab) B.1 ((aO B.2 ((D.set xv.toNat (some (kX mm p_ true))).set xv.toNat (some (aDp ay q)))).map (Kd.v bZ)) 167 1::bX bZ (aO B.2 ((D.set xv.toNat (some (kX mm p_ true))).set xv.toNat (some (aDp ay q))))::.box ap [i6 xv] 3::.box ag [i6 p_] 3::.box b_ [pq U] 126::.box R [.slice s V.length p] 30::.row s p (V.map aM) 29 2::.box I [.slice (sa g) ((X.set p_.toNat xv).length) n] 22::.row (sa g) n ((X.set p_.toNat xv).map aF) 3 1::.box H [.slice (sa ab) ((D.set xv.toNat (some (kX mm p_ true))).length) B.1] 166::.box O [.func (.func 119) #[] #[pq b_,pq R,pq I,pq H,pq O]] 169::Lb) w:=d;have d:=(((((((((d.pick k1).pick k1).pick k9).pick k9).pick k9).pick k9).pick k9).pick k9).pick k9).pick k9;aN (dy _ _ (aAh λK16 df=>?_))
     refine aBt (λ_ _ h=>h) Z (zL f d eL m5 Z λa w f d=>sp 1 f Z λa f=>aH F λgp b0 F=>?_)
     obtain ⟨c7,gb⟩:=cK d m6 b0
     refine zP f Z (pIA Tryz.underlying22 cS Z Z (At.len c7 (by simp only [List.length_set]))) λa f=>wA (sz:=1) (vs:=[i6 (-1)]) (o':=0) (z:=(-1)) (xs:=(X.set p_.toNat xv)) f d Z Z Z Z cS Z (λx=>(bQ x).1) (fX b0) (λ_ _=>Z) Z u6 λw d=>aN (df _ _ (aAh λK17 du=>aBt (λ_ _ h=>h) Z (zL f d aNg m3 Z λa w f d=>sp 1 f Z λa f=>zL f d aZ m0 Z λa w f d=>zP f Z (bS (cells:=[i6 q,i6 xv]) xR Z Z) λa f=>gN (rows:=([(⟨q,xv⟩:aA)]:List aA).map aM) (vs:=[(0,.agg #[i6 q,i6 xv])]) f d Z Z aHi Z ⟨Z,Z,Z,trivial⟩ Z Z λdk a w f d=>aH F λun ds F=>mV (xs:=V) (ys:=([(⟨q,xv⟩:aA)]:List aA)) f d Z Z aHi Z Z Z Z Z oL (gL d m0) (λ_ _=>u5) (by simpa using cZ ds) λcb cd a w f d=>zW f d sz_30 u4 Z λw d=>?_)))
     refine aN (du _ _ (aAh λK18 dr=>aBt (λ_ _ h=>h) Z (zL f d aPr m11 Z λa w f d=>sp 1 f Z λa f=>?_)))
     replace d:Ctx G (.row (sa dk) 1 (([(⟨q,xv⟩:aA)]:List aA).map aM) 29 2::.box ap [i6 xv] 3::.box ag [i6 p_] 3::.box b_ [pq U] 126::.box R [.slice cb ((V++[(⟨q,xv⟩:aA)]).length) cd] 30::.row cb cd ((V++[(⟨q,xv⟩:aA)]).map aM) 29 2::.box I [.slice (sa g) (((X.set p_.toNat xv).set q.toNat (-1)).length) n] 22::.row (sa g) n (((X.set p_.toNat xv).set q.toNat (-1)).map aF) 3 1::.box H [.slice (sa ab) (((D.set xv.toNat (some (kX mm p_ true))).set xv.toNat (some (aDp ay q))).length) B.1] 166::.row (sa ab) B.1 ((aO B.2 ((D.set xv.toNat (some (kX mm p_ true))).set xv.toNat (some (aDp ay q)))).map (Kd.v bZ)) 167 1::bX bZ (aO B.2 ((D.set xv.toNat (some (kX mm p_ true))).set xv.toNat (some (aDp ay q))))::.box O [.func (.func 119) #[] #[pq b_,pq R,pq I,pq H,pq O]] 169::Lb) w:=by simp only [List.length_set] at d ⊢;exact d
     refine aH F λbz cu F=>zC f (eN 119) Z (by have hq:=ih q (⟨x.Roster,x.rank⟩:bJ) (V++[(⟨q,xv⟩:aA)]) ((X.set p_.toNat xv).set q.toNat (-1)) ((D.set xv.toNat (some (kX mm p_ true))).set xv.toNat (some (aDp ay q))) af aa aq (((((((((d.pick k11).pick k11).pick k11).pick k11).pick k11).pick k11).pick k11).pick k11).pick k11) cu;(try simp only [List.length_set] at hq);exact hq) ?_
     rintro _ w ⟨dq,d0,d4,d1,dd,b6,rfl,d⟩
     exact ⟨_,Z,λa f=>aN (dr _ _ (rRet (bG (aL (have d:=(((((((((((d.drop k10).drop k9).pick k8).pick k4).pick k4).pick k8).pick k5).pick k8).pick k6).pick k8).pick k8).pick k9;⟨(bz.1,bz.2.1,bz.2.2),_,(sj F).symm,⟨dq,d0,d4,d1,dd,b6,Z⟩,d⟩)))))⟩
    have d7:∀ r,bx=.out r→r=oq:=by
     rintro r rfl
     exact sj F
    replace d:Ctx G (.box ap [i6 xv] 3::.box ag [i6 p_] 3::.box b_ [pq U] 126::.box R [.slice s V.length p] 30::.row s p (V.map aM) 29 2::.box I [.slice (sa g) ((X.set p_.toNat xv).length) n] 22::.row (sa g) n ((X.set p_.toNat xv).map aF) 3 1::.box H [.slice (sa ab) ((D.set xv.toNat (some (kX mm p_ true))).length) B.1] 166::.row (sa ab) B.1 ((aO B.2 (D.set xv.toNat (some (kX mm p_ true)))).map (Kd.v bZ)) 167 1::bX bZ (aO B.2 (D.set xv.toNat (some (kX mm p_ true))))::.box O [.func (.func 119) #[] #[pq b_,pq R,pq I,pq H,pq O]] 169::Lb) w:=by simp only [List.length_set] at d ⊢;exact d
    refine rLoop N (aSr (S:=S14) (x:=bx) ?_ N (p_,0) _ _ ⟨f.kp Z,d⟩ ct)
    clear F f d
    rintro ⟨q,Y⟩ cy a w KB14 ⟨f,d⟩ F ba c9
    unfold eY at F
    refine aAh λK19 dp=>aBt (λ_ _ h=>h) Z (sp 1 f Z λa f=>aN (dp _ _ (aAh λK20 dx=>aKv (b:=(decide (Y < ((x.Roster.People.length:Nat):Int)))) f Z (λhb=>?_) (λhb=>?_))))
    ·replace F:=cO hb F
     clear hb
     refine aKh (dx _ _ (aAh λK21 dn=>?_))
     have b4:∀ (bp:Int) a w,Has 95 a [(1,pq b_),(2,pq R),(3,pq I),(4,pq H),(5,pq O),(7,pq ap),(8,i6 bp),(47,i6 ((x.Roster.People.length:Nat):Int)),(48,i6 Y)]→Ctx G (.box ap [i6 xv] 3::.box ag [i6 p_] 3::.box b_ [pq U] 126::.box R [.slice s V.length p] 30::.row s p (V.map aM) 29 2::.box I [.slice (sa g) ((X.set p_.toNat xv).length) n] 22::.row (sa g) n ((X.set p_.toNat xv).map aF) 3 1::.box H [.slice (sa ab) ((D.set xv.toNat (some (kX mm p_ true))).length) B.1] 166::.row (sa ab) B.1 ((aO B.2 (D.set xv.toNat (some (kX mm p_ true)))).map (Kd.v bZ)) 167 1::bX bZ (aO B.2 (D.set xv.toNat (some (kX mm p_ true))))::.box O [.func (.func 119) #[] #[pq b_,pq R,pq I,pq H,pq O]] 169::Lb) w→jE N Y bp=some cy→K21 a w:=by
      repeat first | clear F | clear d | clear f
      intro bp a w f d F
      unfold jE at F
      exact dn _ _ (aBt (λ_ _ h=>h) Z (sp 2 f Z λa f=>aN (c9 (bp,W (Y + 1)) _ _ (sj F).symm ⟨f.kp Z,d⟩)))
     refine aHs (aAh λK22 dt=>aBt (λ_ _ h=>h) Z (sp 2 f Z λa f=>aN (dt _ _ (aAh λK23 d3=>aH F λgn b5 F=>?_))))
     obtain ⟨c8,da⟩:=cK d m8 (kD b5)
     refine aH F λt bu F=>aH F λd8 a7 F=>aH F λd6 a4 F=>aH F λgd a6 F=>aH F λd9 a8 F=>aNb (λ_ _ h=>h) Z (λθ=>(f0 1 (pq b_)::f0 2 (pq R)::f0 3 (pq I)::f0 4 (pq H)::f0 5 (pq O)::f0 7 (pq ap)::f0 8 (i6 q)::f0 9 (i6 Y)::f0 47 (i6 ((x.Roster.People.length:Nat):Int))::f0 48 (i6 Y)::f1 0 51 (.slice (sa ab) ((D.set xv.toNat (some (kX mm p_ true))).length) B.1)::f1 1 52 (i6 xv)::f1 2 53 (.pointer (some ⟨ab,xv.toNat * 1,none⟩))::f1 3 54 (.map (some ((B.2 xv.toNat).2)))::f1 4 55 (i6 Y)::f1 5 56 (.bool ((lkA t Y).getD false))::f1 6 57 (.bool ((lkA t Y).getD false))::⟨some 7,none,58,(bif ((lkA t Y).getD false) then pq U else undef)⟩::⟨some 8,none,59,(bif ((lkA t Y).getD false) then i6 xv else undef)⟩::⟨some 9,none,60,(bif ((lkA t Y).getD false) then i6 Y else undef)⟩::⟨some 10,none,61,(bif ((lkA t Y).getD false) then pq U else undef)⟩::⟨some 11,none,62,(bif ((lkA t Y).getD false) then .pointer (some ⟨U,0 + 2,none⟩) else undef)⟩::⟨some 12,none,63,(bif ((lkA t Y).getD false) then .pointer (some ⟨U,0 + 2 + xv.toNat * 12,none⟩) else undef)⟩::⟨some 13,none,64,(bif ((lkA t Y).getD false) then .pointer (some ⟨U,0 + 2 + (xv * 12 + Y).toNat * 1,none⟩) else undef)⟩::⟨some 14,none,65,(bif ((lkA t Y).getD false) then i6 (x.rank (xv * 12 + Y).toNat) else undef)⟩::⟨some 15,none,66,(bif ((lkA t Y).getD false) then pq U else undef)⟩::⟨some 16,none,67,(bif ((lkA t Y).getD false) then i6 xv else undef)⟩::⟨some 17,none,68,(bif ((lkA t Y).getD false) then i6 q else undef)⟩::⟨some 18,none,69,(bif ((lkA t Y).getD false) then pq U else undef)⟩::⟨some 19,none,70,(bif ((lkA t Y).getD false) then .pointer (some ⟨U,0 + 2,none⟩) else undef)⟩::⟨some 20,none,71,(bif ((lkA t Y).getD false) then .pointer (some ⟨U,0 + 2 + xv.toNat * 12,none⟩) else undef)⟩::⟨some 21,none,72,(bif ((lkA t Y).getD false) then .pointer (some ⟨U,0 + 2 + (xv * 12 + q).toNat * 1,none⟩) else undef)⟩::⟨some 22,none,73,(bif ((lkA t Y).getD false) then i6 (x.rank (xv * 12 + q).toNat) else undef)⟩::⟨some 23,none,74,(bif ((lkA t Y).getD false) then .bool (decide ((x.rank (xv * 12 + q).toNat) < (x.rank (xv * 12 + Y).toNat))) else undef)⟩::f1 24 75 (.bool (((lkA t Y).getD false) && (decide ((x.rank (xv * 12 + q).toNat) < (x.rank (xv * 12 + Y).toNat)))))::[])) (λE θ=>.box ap [i6 xv] 3::.box ag [i6 p_] 3::.box b_ [pq U] 126::.box R [.slice s V.length p] 30::.row s p (V.map aM) 29 2::.box I [.slice (sa g) ((X.set p_.toNat xv).length) n] 22::.row (sa g) n ((X.set p_.toNat xv).map aF) 3 1::.box H [.slice (sa ab) ((D.set xv.toNat (some (kX mm p_ true))).length) B.1] 166::.row (sa ab) B.1 ((aO B.2 (D.set xv.toNat (some (kX mm p_ true)))).map (Kd.v bZ)) 167 1::bX bZ (aO B.2 (D.set xv.toNat (some (kX mm p_ true))))::.box O [.func (.func 119) #[] #[pq b_,pq R,pq I,pq H,pq O]] 169::Lb) [] (λa w=>Has 95 a [(1,pq b_),(2,pq R),(3,pq I),(4,pq H),(5,pq O),(7,pq ap),(8,i6 q),(9,i6 Y),(47,i6 ((x.Roster.People.length:Nat):Int)),(48,i6 Y),(75,.bool (((lkA t Y).getD false) && (decide ((x.rank (xv * 12 + q).toNat) < (x.rank (xv * 12 + Y).toNat)))))]∧Ctx G (.box ap [i6 xv] 3::.box ag [i6 p_] 3::.box b_ [pq U] 126::.box R [.slice s V.length p] 30::.row s p (V.map aM) 29 2::.box I [.slice (sa g) ((X.set p_.toNat xv).length) n] 22::.row (sa g) n ((X.set p_.toNat xv).map aF) 3 1::.box H [.slice (sa ab) ((D.set xv.toNat (some (kX mm p_ true))).length) B.1] 166::.row (sa ab) B.1 ((aO B.2 (D.set xv.toNat (some (kX mm p_ true)))).map (Kd.v bZ)) 167 1::bX bZ (aO B.2 (D.set xv.toNat (some (kX mm p_ true))))::.box O [.func (.func 119) #[] #[pq b_,pq R,pq I,pq H,pq O]] 169::Lb) w) aU (by kernel_rfl) (by kernel_rfl) (iW.of f ⟨Z,Z,Z,Z,Z,Z,Z,Z,Z,Z,trivial,trivial,trivial,trivial,trivial,trivial,trivial,trivial,trivial,trivial,trivial,trivial,trivial,trivial,trivial,trivial,trivial,trivial,trivial,trivial,trivial,trivial,trivial,trivial,trivial,trivial⟩) d ⟨?_,?_,?_,?_,?_,?_,?_,?_,?_,?_,?_,?_,?_,?_,?_,?_,?_,?_,?_,?_,?_,?_,?_,?_,?_,trivial⟩ ?_ ?_
     ·exact λE θ a w hD hi hp he d=>have f:=he.h0.mT he 3 Z;zL f d aFb m7 Z λa w f d=>zD θ he hi f 10 Z Z Z d
     ·exact λE θ a w hD hi hp he d=>have f:=he.h0.mT he 5 Z;zL f d aZ m0 Z λa w f d=>zD θ he hi f 11 Z Z Z d
     ·exact λE θ a w hD hi hp he d=>have e0:=hp.o 0 Z;have e1:=hp.o 1 Z;have f:=(he.h0.mP he 10 Z e0).mP he 11 Z e1;zP f Z (pIA Tryz.underlying166 aFl Z Z (At.len c8 (by simp only [eF,List.length_set]))) λa f=>zD θ he hi f 12 Z Z Z d
     ·exact λE θ a w hD hi hp he d=>have e2:=hp.o 2 Z;have f:=he.h0.mP he 12 Z e2;zE f d Z (bB aJ4 Z (cA (sz:=1) (i:=xv.toNat) (j:=0) m8 da (by subst bu;rfl))) λa w f d=>zD θ he hi f 13 Z Z Z d
     ·exact λE θ a w hD hi hp he d=>have f:=he.h0.mT he 7 Z;sp 1 f Z λa f=>zD θ he hi f 14 Z Z Z d
     ·exact λE θ a w hD hi hp he d=>have e3:=hp.o 3 Z;have e4:=hp.o 4 Z;have f:=(he.h0.mP he 13 Z e3).mP he 14 Z e4;zE f d Z (eLk (enc:=Value.bool) (z0:=false) (m:=(lkA t)) (alS (aSi m9 (aC2 b5 bu))) Tryz.underlying167 Tryz.underlying3 zr_4 Z Z) λa w f d=>zD θ he hi f 15 Z Z Z d
     ·exact λE θ a w hD hi hp he d=>have e5:=hp.o 5 Z;have f:=he.h0.mP he 15 Z e5;sp 1 f Z λa f=>zD θ he hi f 16 Z Z Z d
     ·refine λE θ a w hD hi hp he d=>have e6:=hp.o 6 Z;?_
      rcases cH ((lkA t Y).getD false) with hb | hb
      ·exact have f:=(he.h0.mT he 0 Z).mP he 16 Z e6;have f:=bH hb f;zL f d tF m2 Z λa w f d=>have f:=eP (u:=undef) hb f;zD θ he hi f 17 Z Z Z d
      ·exact have f:=(he.h0.mT he 0 Z).mP he 16 Z e6;have f:=bH hb f;sp 1 f Z λa f=>have f:=eQ (u:=pq U) hb f;zD θ he hi f 17 Z Z Z d
     ·refine λE θ a w hD hi hp he d=>have e6:=hp.o 6 Z;?_
      rcases cH ((lkA t Y).getD false) with hb | hb
      ·exact have f:=(he.h0.mT he 5 Z).mP he 16 Z e6;have f:=bH hb f;zL f d aZ m0 Z λa w f d=>have f:=eP (u:=undef) hb f;zD θ he hi f 18 Z Z Z d
      ·exact have f:=(he.h0.mT he 5 Z).mP he 16 Z e6;have f:=bH hb f;sp 1 f Z λa f=>have f:=eQ (u:=i6 xv) hb f;zD θ he hi f 18 Z Z Z d
     ·refine λE θ a w hD hi hp he d=>have e6:=hp.o 6 Z;?_
      rcases cH ((lkA t Y).getD false) with hb | hb
      ·exact have f:=(he.h0.mT he 7 Z).mP he 16 Z e6;have f:=bH hb f;sp 1 f Z λa f=>have f:=eP (u:=undef) hb f;zD θ he hi f 19 Z Z Z d
      ·exact have f:=(he.h0.mT he 7 Z).mP he 16 Z e6;have f:=bH hb f;sp 1 f Z λa f=>have f:=eQ (u:=i6 Y) hb f;zD θ he hi f 19 Z Z Z d
     ·refine λE θ a w hD hi hp he d=>have e6:=hp.o 6 Z;have e7:=hp.o 7 Z;?_
      rcases cH ((lkA t Y).getD false) with hb | hb
      ·exact have f:=he.h0.mP he 16 Z e6;have f:=bH hb f;have f:=f.more he 17 Z (onP e7);have f:=dD hb f;sp 1 f Z λa f=>have f:=eP (u:=undef) hb f;zD θ he hi f 20 Z Z Z d
      ·exact have f:=he.h0.mP he 16 Z e6;have f:=bH hb f;have f:=f.more he 17 Z (onP e7);have f:=dB hb f;sp 1 f Z λa f=>have f:=eQ (u:=pq U) hb f;zD θ he hi f 20 Z Z Z d
     ·refine λE θ a w hD hi hp he d=>have e6:=hp.o 6 Z;have bk:=hp.o 10 Z;?_
      rcases cH ((lkA t Y).getD false) with hb | hb
      ·exact have f:=he.h0.mP he 16 Z e6;have f:=bH hb f;have f:=f.more he 20 Z (onP bk);have f:=dD hb f;zP f Z (pFA wY Z) λa f=>have f:=eP (u:=undef) hb f;zD θ he hi f 21 Z Z Z d
      ·exact have f:=he.h0.mP he 16 Z e6;have f:=bH hb f;have f:=f.more he 20 Z (onP bk);have f:=dB hb f;sp 1 f Z λa f=>have f:=eQ (u:=.pointer (some ⟨U,0 + 2,none⟩)) hb f;zD θ he hi f 21 Z Z Z d
     ·refine λE θ a w hD hi hp he d=>have e6:=hp.o 6 Z;have e8:=hp.o 8 Z;have bs:=hp.o 11 Z;?_
      rcases cH ((lkA t Y).getD false) with hb | hb
      ·exact have f:=he.h0.mP he 16 Z e6;have f:=bH hb f;have f:=f.more he 18 Z (onP e8);have f:=dD hb f;have f:=f.more he 21 Z (onP bs);have f:=dD hb f;zP f Z (aAb Tryz.underlying136 aCs Z Z (cG (cO hb a7)).1 (cG (cO hb a7)).2) λa f=>have f:=eP (u:=undef) hb f;zD θ he hi f 22 Z Z Z d
      ·exact have f:=he.h0.mP he 16 Z e6;have f:=bH hb f;have f:=f.more he 18 Z (onP e8);have f:=dB hb f;have f:=f.more he 21 Z (onP bs);have f:=dB hb f;sp 1 f Z λa f=>have f:=eQ (u:=.pointer (some ⟨U,0 + 2 + xv.toNat * 12,none⟩)) hb f;zD θ he hi f 22 Z Z Z d
     ·refine λE θ a w hD hi hp he d=>have e6:=hp.o 6 Z;have e9:=hp.o 9 Z;have bq:=hp.o 12 Z;?_
      rcases cH ((lkA t Y).getD false) with hb | hb
      ·exact have f:=he.h0.mP he 16 Z e6;have f:=bH hb f;have f:=f.more he 19 Z (onP e9);have f:=dD hb f;have f:=f.more he 22 Z (onP bq);have f:=dD hb f;zP f Z (Pu.cast (aAb Tryz.underlying135 cS Z Z (cG (cO hb a4)).1 (cG (cO hb a4)).2) (congrArg (λk=>Value.pointer (some ⟨U,k,none⟩)) (xA (M:=12) (0 + 2) (cO hb a7) (cO hb a4) Z))) λa f=>have f:=eP (u:=undef) hb f;zD θ he hi f 23 Z Z Z d
      ·exact have f:=he.h0.mP he 16 Z e6;have f:=bH hb f;have f:=f.more he 19 Z (onP e9);have f:=dB hb f;have f:=f.more he 22 Z (onP bq);have f:=dB hb f;sp 1 f Z λa f=>have f:=eQ (u:=.pointer (some ⟨U,0 + 2 + (xv * 12 + Y).toNat * 1,none⟩)) hb f;zD θ he hi f 23 Z Z Z d
     ·refine λE θ a w hD hi hp he d=>have e6:=hp.o 6 Z;have br:=hp.o 13 Z;?_
      rcases cH ((lkA t Y).getD false) with hb | hb
      ·exact have f:=he.h0.mP he 16 Z e6;have f:=bH hb f;have f:=f.more he 23 Z (onP br);have f:=dD hb f;zE f d Z (bB aZ Z (yW (j:=0) aq (λx=>(bQ x).1) Z (aKf (cO hb a7) (cO hb a4) Z) Z)) λa w f d=>have f:=eP (u:=undef) hb f;zD θ he hi f 24 Z Z Z d
      ·exact have f:=he.h0.mP he 16 Z e6;have f:=bH hb f;have f:=f.more he 23 Z (onP br);have f:=dB hb f;sp 1 f Z λa f=>have f:=eQ (u:=i6 (x.rank (xv * 12 + Y).toNat)) hb f;zD θ he hi f 24 Z Z Z d
     ·refine λE θ a w hD hi hp he d=>have e6:=hp.o 6 Z;?_
      rcases cH ((lkA t Y).getD false) with hb | hb
      ·exact have f:=(he.h0.mT he 0 Z).mP he 16 Z e6;have f:=bH hb f;zL f d tF m2 Z λa w f d=>have f:=eP (u:=undef) hb f;zD θ he hi f 25 Z Z Z d
      ·exact have f:=(he.h0.mT he 0 Z).mP he 16 Z e6;have f:=bH hb f;sp 1 f Z λa f=>have f:=eQ (u:=pq U) hb f;zD θ he hi f 25 Z Z Z d
     ·refine λE θ a w hD hi hp he d=>have e6:=hp.o 6 Z;?_
      rcases cH ((lkA t Y).getD false) with hb | hb
      ·exact have f:=(he.h0.mT he 5 Z).mP he 16 Z e6;have f:=bH hb f;zL f d aZ m0 Z λa w f d=>have f:=eP (u:=undef) hb f;zD θ he hi f 26 Z Z Z d
      ·exact have f:=(he.h0.mT he 5 Z).mP he 16 Z e6;have f:=bH hb f;sp 1 f Z λa f=>have f:=eQ (u:=i6 xv) hb f;zD θ he hi f 26 Z Z Z d
     ·refine λE θ a w hD hi hp he d=>have e6:=hp.o 6 Z;?_
      rcases cH ((lkA t Y).getD false) with hb | hb
      ·exact have f:=(he.h0.mT he 6 Z).mP he 16 Z e6;have f:=bH hb f;sp 1 f Z λa f=>have f:=eP (u:=undef) hb f;zD θ he hi f 27 Z Z Z d
      ·exact have f:=(he.h0.mT he 6 Z).mP he 16 Z e6;have f:=bH hb f;sp 1 f Z λa f=>have f:=eQ (u:=i6 q) hb f;zD θ he hi f 27 Z Z Z d
     ·refine λE θ a w hD hi hp he d=>have e6:=hp.o 6 Z;have b9:=hp.o 15 Z;?_
      rcases cH ((lkA t Y).getD false) with hb | hb
      ·exact have f:=he.h0.mP he 16 Z e6;have f:=bH hb f;have f:=f.more he 25 Z (onP b9);have f:=dD hb f;sp 1 f Z λa f=>have f:=eP (u:=undef) hb f;zD θ he hi f 28 Z Z Z d
      ·exact have f:=he.h0.mP he 16 Z e6;have f:=bH hb f;have f:=f.more he 25 Z (onP b9);have f:=dB hb f;sp 1 f Z λa f=>have f:=eQ (u:=pq U) hb f;zD θ he hi f 28 Z Z Z d
     ·refine λE θ a w hD hi hp he d=>have e6:=hp.o 6 Z;have ca:=hp.o 18 Z;?_
      rcases cH ((lkA t Y).getD false) with hb | hb
      ·exact have f:=he.h0.mP he 16 Z e6;have f:=bH hb f;have f:=f.more he 28 Z (onP ca);have f:=dD hb f;zP f Z (pFA wY Z) λa f=>have f:=eP (u:=undef) hb f;zD θ he hi f 29 Z Z Z d
      ·exact have f:=he.h0.mP he 16 Z e6;have f:=bH hb f;have f:=f.more he 28 Z (onP ca);have f:=dB hb f;sp 1 f Z λa f=>have f:=eQ (u:=.pointer (some ⟨U,0 + 2,none⟩)) hb f;zD θ he hi f 29 Z Z Z d
     ·refine λE θ a w hD hi hp he d=>have e6:=hp.o 6 Z;have cq:=hp.o 16 Z;have cg:=hp.o 19 Z;?_
      rcases cH ((lkA t Y).getD false) with hb | hb
      ·exact have f:=he.h0.mP he 16 Z e6;have f:=bH hb f;have f:=f.more he 26 Z (onP cq);have f:=dD hb f;have f:=f.more he 29 Z (onP cg);have f:=dD hb f;zP f Z (aAb Tryz.underlying136 aCs Z Z (cG (cO hb a6)).1 (cG (cO hb a6)).2) λa f=>have f:=eP (u:=undef) hb f;zD θ he hi f 30 Z Z Z d
      ·exact have f:=he.h0.mP he 16 Z e6;have f:=bH hb f;have f:=f.more he 26 Z (onP cq);have f:=dB hb f;have f:=f.more he 29 Z (onP cg);have f:=dB hb f;sp 1 f Z λa f=>have f:=eQ (u:=.pointer (some ⟨U,0 + 2 + xv.toNat * 12,none⟩)) hb f;zD θ he hi f 30 Z Z Z d
     ·refine λE θ a w hD hi hp he d=>have e6:=hp.o 6 Z;have cr:=hp.o 17 Z;have cp:=hp.o 20 Z;?_
      rcases cH ((lkA t Y).getD false) with hb | hb
      ·exact have f:=he.h0.mP he 16 Z e6;have f:=bH hb f;have f:=f.more he 27 Z (onP cr);have f:=dD hb f;have f:=f.more he 30 Z (onP cp);have f:=dD hb f;zP f Z (Pu.cast (aAb Tryz.underlying135 cS Z Z (cG (cO hb a8)).1 (cG (cO hb a8)).2) (congrArg (λk=>Value.pointer (some ⟨U,k,none⟩)) (xA (M:=12) (0 + 2) (cO hb a6) (cO hb a8) Z))) λa f=>have f:=eP (u:=undef) hb f;zD θ he hi f 31 Z Z Z d
      ·exact have f:=he.h0.mP he 16 Z e6;have f:=bH hb f;have f:=f.more he 27 Z (onP cr);have f:=dB hb f;have f:=f.more he 30 Z (onP cp);have f:=dB hb f;sp 1 f Z λa f=>have f:=eQ (u:=.pointer (some ⟨U,0 + 2 + (xv * 12 + q).toNat * 1,none⟩)) hb f;zD θ he hi f 31 Z Z Z d
     ·refine λE θ a w hD hi hp he d=>have e6:=hp.o 6 Z;have cs:=hp.o 21 Z;?_
      rcases cH ((lkA t Y).getD false) with hb | hb
      ·exact have f:=he.h0.mP he 16 Z e6;have f:=bH hb f;have f:=f.more he 31 Z (onP cs);have f:=dD hb f;zE f d Z (bB aZ Z (yW (j:=0) aq (λx=>(bQ x).1) Z (aKf (cO hb a6) (cO hb a8) Z) Z)) λa w f d=>have f:=eP (u:=undef) hb f;zD θ he hi f 32 Z Z Z d
      ·exact have f:=he.h0.mP he 16 Z e6;have f:=bH hb f;have f:=f.more he 31 Z (onP cs);have f:=dB hb f;sp 1 f Z λa f=>have f:=eQ (u:=i6 (x.rank (xv * 12 + q).toNat)) hb f;zD θ he hi f 32 Z Z Z d
     ·refine λE θ a w hD hi hp he d=>have e6:=hp.o 6 Z;have bm:=hp.o 14 Z;have cj:=hp.o 22 Z;?_
      rcases cH ((lkA t Y).getD false) with hb | hb
      ·exact have f:=he.h0.mP he 16 Z e6;have f:=bH hb f;have f:=f.more he 24 Z (onP bm);have f:=dD hb f;have f:=f.more he 32 Z (onP cj);have f:=dD hb f;sp 1 f Z λa f=>have f:=eP (u:=undef) hb f;zD θ he hi f 33 Z Z Z d
      ·exact have f:=he.h0.mP he 16 Z e6;have f:=bH hb f;have f:=f.more he 24 Z (onP bm);have f:=dB hb f;have f:=f.more he 32 Z (onP cj);have f:=dB hb f;sp 1 f Z λa f=>have f:=eQ (u:=.bool (decide ((x.rank (xv * 12 + q).toNat) < (x.rank (xv * 12 + Y).toNat)))) hb f;zD θ he hi f 33 Z Z Z d
     ·refine λE θ a w hD hi hp he d=>have e6:=hp.o 6 Z;have ci:=hp.o 23 Z;?_
      rcases cH ((lkA t Y).getD false) with hb | hb
      ·exact have f:=he.h0.mP he 16 Z e6;have f:=bH hb f;have f:=f.more he 33 Z (onP ci);have f:=dD hb f;sp 1 f Z λa f=>have f:=mQ (v':=.bool (((lkA t Y).getD false) && (decide ((x.rank (xv * 12 + q).toNat) < (x.rank (xv * 12 + Y).toNat))))) (congrArg Value.bool (aHp hb)) f;zD θ he hi f 34 Z Z Z d
      ·exact have f:=he.h0.mP he 16 Z e6;have f:=bH hb f;have f:=f.more he 33 Z (onP ci);have f:=dB hb f;sp 1 f Z λa f=>have f:=mQ (v':=.bool (((lkA t Y).getD false) && (decide ((x.rank (xv * 12 + q).toNat) < (x.rank (xv * 12 + Y).toNat))))) (congrArg Value.bool (aHw hb)) f;zD θ he hi f 34 Z Z Z d
     ·refine λE θ a w a9 he d=>have f:=he.h0;have dv:=a9 24 Z;have f:=f.more he 34 Z (onP dv);have f:=f.more he 9 Z (onT);have f:=f.more he 8 Z (onT);have f:=f.more he 7 Z (onT);have f:=f.more he 6 Z (onT);have f:=f.more he 5 Z (onT);have f:=f.more he 4 Z (onT);have f:=f.more he 3 Z (onT);have f:=f.more he 2 Z (onT);have f:=f.more he 1 Z (onT);have f:=f.more he 0 Z (onT);?_
      exact ⟨f.kp Z,d⟩
     rintro a w ⟨f,d⟩
     refine d3 _ _ (aKv (b:=(((lkA t Y).getD false) && (decide ((x.rank (xv * 12 + q).toNat) < (x.rank (xv * 12 + Y).toNat))))) f Z (λhb=>?_) (λhb=>?_))
     ·replace F:=cO hb F
      clear hb
      exact aBt (λ_ _ h=>h) Z (sp 2 f Z λa f=>aN (b4 Y _ _  (f.kp Z) d F))
     ·replace F:=eG hb F
      clear hb
      exact aKh (b4 q _ _  (f.kp Z) d F)
    ·replace F:=eG hb F
     clear hb
     exact aRa (aP (aP (have ba:=cB F ba;cX (dc _ _ _ ba ⟨f.kp Z,d⟩))))
 ·rintro D_1 ⟨V,X,D⟩ _ a w bv ⟨s,p,ai,n,aj,B,rfl⟩ f d
  refine have f:Has ⟨95,zU (D_1::[])⟩ a [(1,pq b_),(2,pq R),(3,pq I),(4,pq H),(5,pq O),(6,pq ag)]:=f.kp Z;have d:Ctx G (.box bc [pq U] 126::.box bf [i6 r.1] 3::.box bd [i6 r.2] 3::.box ag [i6 p_] 3::.box b_ [pq U] 126::.box R [.slice s V.length p] 30::.row s p (V.map aM) 29 2::.box I [.slice ai X.length n] 22::.row ai n (X.map aF) 3 1::.box H [.slice aj D.length B.1] 166::.row aj B.1 ((aO B.2 D).map (Kd.v bZ)) 167 1::bX bZ (aO B.2 D)::.box O [.func (.func 119) #[] #[pq b_,pq R,pq I,pq H,pq O]] 169::(aDg (D_1::[])++Lf)) w:=aFi (C:=[.box bc [pq U] 126,.box bf [i6 r.1] 3,.box bd [i6 r.2] 3]) (L:=[.box ag [i6 p_] 3,.box b_ [pq U] 126,.box R [.slice s V.length p] 30,.row s p (V.map aM) 29 2,.box I [.slice ai X.length n] 22,.row ai n (X.map aF) 3 1,.box H [.slice aj D.length B.1] 166,.row aj B.1 ((aO B.2 D).map (Kd.v bZ)) 167 1,bX bZ (aO B.2 D),.box O [.func (.func 119) #[] #[pq b_,pq R,pq I,pq H,pq O]] 169]) d;?_
  replace F:(some (V,X,D))=some a0:=by rcases bv with rfl | rfl <;> exact F
  obtain rfl:=sj F
  exact have d:=(((((((((((d.drop k3).drop k2).drop k1).drop k0).pick k5).pick k4).pick k3).pick k3).pick k7).pick k7).pick k7).pick k7;aJy f (aLa [.row s p (V.map aM) 29 2,.row ai n (X.map aF) 3 1,.row aj B.1 ((aO B.2 D).map (Kd.v bZ)) 167 1,bX bZ (aO B.2 D),.box b_ [pq U] 126,.box R [.slice s V.length p] 30,.box I [.slice ai X.length n] 22,.box H [.slice aj D.length B.1] 166,.box O [.func (.func 119) #[] #[pq b_,pq R,pq I,pq H,pq O]] 169] (D_1::[]) d λw d=>have d:Ctx G (.row s p (V.map aM) 29 2::.row ai n (X.map aF) 3 1::.row aj B.1 ((aO B.2 D).map (Kd.v bZ)) 167 1::bX bZ (aO B.2 D)::.box b_ [pq U] 126::.box R [.slice s V.length p] 30::.box I [.slice ai X.length n] 22::.box H [.slice aj D.length B.1] 166::.box O [.func (.func 119) #[] #[pq b_,pq R,pq I,pq H,pq O]] 169::Lf) w:=d;aSb Tryz.results119 ⟨s,p,ai,n,aj,B,Z,d⟩)
 ·rintro D_1 ⟨V,X,D⟩ _ a w bv ⟨s,p,ai,n,aj,B,rfl⟩ f d
  refine have f:Has ⟨95,zU (D_1::[])⟩ a [(1,pq b_),(2,pq R),(3,pq I),(4,pq H),(5,pq O),(6,pq ag)]:=f.kp Z;have d:Ctx G (.box bc [pq U] 126::.box bf [i6 r.1] 3::.box bd [i6 r.2] 3::.box ag [i6 p_] 3::.box b_ [pq U] 126::.box R [.slice s V.length p] 30::.row s p (V.map aM) 29 2::.box I [.slice ai X.length n] 22::.row ai n (X.map aF) 3 1::.box H [.slice aj D.length B.1] 166::.row aj B.1 ((aO B.2 D).map (Kd.v bZ)) 167 1::bX bZ (aO B.2 D)::.box O [.func (.func 119) #[] #[pq b_,pq R,pq I,pq H,pq O]] 169::(aDg (D_1::[])++Lf)) w:=aFi (C:=[.box bc [pq U] 126,.box bf [i6 r.1] 3,.box bd [i6 r.2] 3]) (L:=[.box ag [i6 p_] 3,.box b_ [pq U] 126,.box R [.slice s V.length p] 30,.row s p (V.map aM) 29 2,.box I [.slice ai X.length n] 22,.row ai n (X.map aF) 3 1,.box H [.slice aj D.length B.1] 166,.row aj B.1 ((aO B.2 D).map (Kd.v bZ)) 167 1,bX bZ (aO B.2 D),.box O [.func (.func 119) #[] #[pq b_,pq R,pq I,pq H,pq O]] 169]) d;?_
  replace F:(some (V,X,D))=some a0:=by subst bv;exact F
  obtain rfl:=sj F
  exact have d:=(((((((((((d.drop k3).drop k2).drop k1).drop k0).pick k5).pick k4).pick k3).pick k3).pick k7).pick k7).pick k7).pick k7;aJy f (aLa [.row s p (V.map aM) 29 2,.row ai n (X.map aF) 3 1,.row aj B.1 ((aO B.2 D).map (Kd.v bZ)) 167 1,bX bZ (aO B.2 D),.box b_ [pq U] 126,.box R [.slice s V.length p] 30,.box I [.slice ai X.length n] 22,.box H [.slice aj D.length B.1] 166,.box O [.func (.func 119) #[] #[pq b_,pq R,pq I,pq H,pq O]] 169] (D_1::[]) d λw d=>have d:Ctx G (.row s p (V.map aM) 29 2::.row ai n (X.map aF) 3 1::.row aj B.1 ((aO B.2 D).map (Kd.v bZ)) 167 1::bX bZ (aO B.2 D)::.box b_ [pq U] 126::.box R [.slice s V.length p] 30::.box I [.slice ai X.length n] 22::.box H [.slice aj D.length B.1] 166::.box O [.func (.func 119) #[] #[pq b_,pq R,pq I,pq H,pq O]] 169::Lf) w:=d;aSb Tryz.results119 ⟨s,p,ai,n,aj,B,Z,d⟩)

def gA (N:Nat) (w_:bJ) (B:Int) (H:List Int) (J:List aA) (I:List (Option (List (Int × Bool)))):Option (bC (Int × (List Int) × (List aA) × (List (Option (List (Int × Bool))))) ((List Int) × (List aA))) :=
 cond (decide (B < ((w_.Roster.People.length:Nat):Int)))
 (Option.bind (dH N B w_ J H I) λD=>
 some (.cont (W (B + 1),D.2.1,D.1,D.2.2)))
 (some (.brk (B,H,J,I)))
def fL (N:Nat) (w_:bJ) (x:Int) (B:List (Option (List (Int × Bool)))):Option (bC (Int × (List (Option (List (Int × Bool))))) ((List Int) × (List aA))) :=
 cond (decide (x < (((List.replicate ((w_.Roster.Stations.length:Nat):Int).toNat (none:Option (List (Int × Bool)))).length:Nat):Int)))
 (Option.bind (aQ B x) λD=>
 some (.cont (W (x + 1),(B.set x.toNat (some ([]:List (Int × Bool)))))))
 (some (.brk (x,B)))
def qA (N:Nat) (w_:bJ):Option ((List Int) × (List aA)) :=
 Option.bind (inM ((w_.Roster.Stations.length:Nat):Int)) λun=>
 Option.bind (aS (λs5=>fL N w_ s5.1 s5.2) N (0,(List.replicate ((w_.Roster.Stations.length:Nat):Int).toNat (none:Option (List (Int × Bool)))))) λx5=>
 exK x5 (λs5=>Option.bind (bO N ([(-1)]:List Int) ((w_.Roster.People.length:Nat):Int)) λr=>
 Option.bind (aS (λB=>gA N w_ B.1 B.2.1 B.2.2.1 B.2.2.2) N (0,r,([]:List aA),s5.2)) λD=>
 exK D (λB=>some (B.2.1,B.2.2.1)) some) some
theorem xQ {b_ J B:Nat} {I D:Option Addr} (w_:bJ) (U:RdT aT G 1 I J w_.Roster.People) (R:RdT bD G 2 D B w_.Roster.Stations) (V:PC G b_ 0 (aBc [.slice I w_.Roster.People.length J,.slice D w_.Roster.Stations.length B] 144 aF w_.rank [])) (d:Ctx G (Lf) w) {i:(List Int) × (List aA)} (F:qA N w_=some i):Calls Tryz.prog 84 #[pq b_] w (λe w=>∃ (au:Option Addr) (ax:Nat) (an:Option Addr) (am:Nat),e=.returned (.tuple #[.slice au i.1.length ax,.slice an i.2.length am])∧Ctx G (.row au ax (i.1.map aF) 3 1::.row an am (i.2.map aM) 29 2::Lf) w):=by
 refine bY Tryz.func84 Z Tryz.ntmps84 Z λa f=>zS λK h=>zB f d Z λY a w f d=>sp 2 f Z λa f=>zT h (zS λK h=>zL f d tF m0 Z λa w f d=>sp 1 f Z λa f=>zP f Z (pFA vM Z) λa f=>zP f Z (pFA fH Z) λa f=>zE f d Z (bB pB Z (aV (j:=1) V Z)) λa w f d=>zP f Z (bA Tryz.underlying24 Z) λa f=>aH F λun bk F=>aKk (m:=(List.replicate ((w_.Roster.Stations.length:Nat):Int).toNat (none:Option (List (Int × Bool)))).length) (rows:=(List.replicate ((w_.Roster.Stations.length:Nat):Int).toNat (((none,0),(none:Option (List (Int × Bool)))):H2 × (Option (List (Int × Bool))))).map (Kd.v bZ)) f d Z Z aS8 Z Z (xC bk) Z Z (by simp [List.map_replicate,Value.cells,Kd.v,kM,kL,Kd.comp]) (by simp) λaq a w f d=>?_)
 obtain ⟨ai,d⟩:=aKc (K:=bZ) (x:=(none:Option (List (Int × Bool)))) (λ_ h=>h.nilRow _ _) _ d
 refine have d:Ctx G (.row (sa aq) (((w_.Roster.Stations.length:Nat):Int).toNat) ((aO ai (List.replicate ((w_.Roster.Stations.length:Nat):Int).toNat (none:Option (List (Int × Bool))))).map (Kd.v bZ)) 167 1::bX bZ (aO ai (List.replicate ((w_.Roster.Stations.length:Nat):Int).toNat (none:Option (List (Int × Bool)))))::.box Y [pq b_] 126::Lf) w:=d;zA f d aTp Z λb a w f d=>zW f d aSz u0 Z λw d=>zT h (wp_seq_k λK3 h3=>zS λK h=>zL f d aFb m0 Z λa w f d=>zP f Z (bA Tryz.underlying166 Z) λa f=>sp 1 f Z λa f=>zT h (wp_block (aH F λx5 a5 F=>?_)))
 let S5:(Int × (List (Option (List (Int × Bool)))))→Act→World→Prop:=(λ(zz:Int × (List (Option (List (Int × Bool))))) a w=>∃ (n:Option Addr) (H:aAf),Has 51 a [(1,pq Y),(4,pq b),(18,i6 (((List.replicate ((w_.Roster.Stations.length:Nat):Int).toNat (none:Option (List (Int × Bool)))).length:Nat):Int)),(19,i6 zz.1)]∧Ctx G (.box b [.slice n zz.2.length H.1] 166::.row n H.1 ((aO H.2 zz.2).map (Kd.v bZ)) 167 1::bX bZ (aO H.2 zz.2)::.box Y [pq b_] 126::Lf) w)
 have bj:∀ (zz:Int × (List (Option (List (Int × Bool))))) a w,x5=.go zz→S5 zz a w→K3 a w:=by
  rintro ⟨x,M⟩ a w rfl ⟨n,H,f,d⟩
  refine have F:=bI F;h3 _ _ (zS λK h=>gN (rows:=([(-1)]:List Int).map aF) (vs:=[(0,i6 (-1))]) f d Z Z eV Z ⟨Z,Z,Z,trivial⟩ Z Z λbt a w f d=>zL f d tF m4 Z λa w f d=>sp 1 f Z λa f=>zP f Z (pFA vM Z) λa f=>zP f Z (pFA iG Z) λa f=>zE f d Z (bB gR Z (aV (j:=0) V Z)) λa w f d=>zP f Z (bA Tryz.underlying23 Z) λa f=>aH F λr hr F=>?_)
  obtain ⟨G1,bp,az,d,ay⟩:=lend d k0
  refine zC f (eN 118) Z (zH ([(-1)]:List Int) ((w_.Roster.People.length:Nat):Int) az d hr) ?_
  rintro _ w ⟨ba,bf,rfl,d⟩
  refine ⟨_,Z,λa f=>have d:=ay _ _ d;zA f d aSc Z λad a w f d=>zW f d lN u0 Z λw d=>zT h (zS λK h=>zA f d zr_30 Z λab a w f d=>zT h (wp_seq_k λK8 h8=>bK (zA f d aTd Z λac a w f d=>aN (have d:=d.drop k3;h8 _ _ ?_))))⟩
  refine zS λK h=>zP f Z (pMF (us:=[pq Y,pq ab,pq ad,pq b,pq ac]) Z Z) λa f=>zW f d aTb u0 Z λw d=>zT h (wp_seq_k λK10 bn=>zS λK h=>zL f d tF m7 Z λa w f d=>sp 1 f Z λa f=>zP f Z (pFA vM Z) λa f=>zP f Z (pFA iG Z) λa f=>zE f d Z (bB gR Z (aV (j:=0) V Z)) λa w f d=>zP f Z (bA Tryz.underlying23 Z) λa f=>sp 1 f Z λa f=>zT h ?_)
  refine wp_block (aH F λaj a2 F=>?_)
  let S12:(Int × (List Int) × (List aA) × (List (Option (List (Int × Bool)))))→Act→World→Prop:=(λ(zz:Int × (List Int) × (List aA) × (List (Option (List (Int × Bool))))) a w=>∃ (s:Option Addr) (o:Nat) (p:Option Addr) (q:Nat) (aa:Option Addr) (O:aAf),Has 51 a [(6,pq ad),(7,pq ab),(8,pq ac),(41,i6 ((w_.Roster.People.length:Nat):Int)),(42,i6 zz.1)]∧Ctx G (.row p q (zz.2.2.1.map aM) 29 2::.box ac [.func (.func 119) #[] #[pq Y,pq ab,pq ad,pq b,pq ac]] 169::.box ab [.slice p zz.2.2.1.length q] 30::.box ad [.slice s zz.2.1.length o] 22::.row s o (zz.2.1.map aF) 3 1::.box b [.slice aa zz.2.2.2.length O.1] 166::.row aa O.1 ((aO O.2 zz.2.2.2).map (Kd.v bZ)) 167 1::bX bZ (aO O.2 zz.2.2.2)::.box Y [pq b_] 126::Lf) w)
  have a0:∀ (zz:Int × (List Int) × (List aA) × (List (Option (List (Int × Bool))))) a w,aj=.go zz→S12 zz a w→K10 a w:=by
   rintro ⟨ag,ar,ap,av⟩ a w rfl ⟨s,o,p,q,aa,O,f,d⟩
   refine have F:=bI F;bn _ _ (wp_seq_k λK13 bb=>cQ d aU (by kernel_rfl) (qV f Z (bB eL Z (bN m3 Z)) λa f=>qV f Z (bB aNg Z (bN m2 Z)) λa f=>qp_ 2 f Z λa f=>λw d=>have d:=((((((d.drop k8).drop k7).drop k6).drop k5).drop k3).drop k2).drop k1;bb _ _ (wp_ret ?_)))
   obtain rfl:=sj F
   exact have d:=(d.pick k0).pick k1;zO2 Tryz.results84 f Z Z ⟨s,o,p,q,Z,d⟩
  have br:∀ r,aj=.out r→r=i:=by
   rintro r rfl
   exact sj F
  refine have d:=d.nilRow 29 2;cF N (cE (S:=S12) (x:=aj) ?_ N (0,r,([]:List aA),M) _ _ ⟨ba,bf,none,0,n,H,f.kp Z,d⟩ a2)
  clear F f d
  rintro ⟨ag,ar,ap,av⟩ bq a w KB12 ⟨s,o,p,q,aa,O,f,d⟩ F k a1
  refine zS λK h=>sp 1 f Z λa f=>zT h (wp_seq_k λK15 a8=>zI f Z F ?_ ?_) <;> intro F
  ·refine wp_skip (a8 _ _ (wp_seq_k λK16 a6=>wp_block (zS λK h=>sp 2 f Z λa f=>zT h (bK (zL f d aPr m1 Z λa w f d=>sp 1 f Z λa f=>aH F λaf a3 F=>zC f (eN 119) Z (aBw ag w_ ap ar av U R V (((((((((d.pick k1).pick k7).pick k7).pick k7).pick k7).pick k7).pick k6).pick k7).pick k8) a3) ?_)))))
   rintro _ w ⟨bm,a9,a4,bc,bg,ak,rfl,d⟩
   exact ⟨_,Z,λa f=>aN (a6 _ _ (bK (sp 2 f Z λa f=>aN (have d:=((((((((d.pick k4).pick k4).pick k4).pick k7).pick k5).pick k7).pick k7).pick k8).pick k8;a1 (W (ag + 1),af.2.1,af.1,af.2.2) _ _ (sj F).symm ⟨a4,bc,bm,a9,bg,ak,f.kp Z,d⟩))))⟩
  ·exact wp_exit (aP (aP (have k:=cB F k;cX (a0 _ _ _ k ⟨s,o,p,q,aa,O,f.kp Z,d⟩))))
 have bu:∀ r,x5=.out r→r=i:=by
  rintro r rfl
  exact sj F
 refine cF N (cE (S:=S5) (x:=x5) ?_ N (0,(List.replicate ((w_.Roster.Stations.length:Nat):Int).toNat (none:Option (List (Int × Bool))))) _ _ ⟨(sa aq),(((w_.Roster.Stations.length:Nat):Int).toNat,ai),f.kp Z,d⟩ a5)
 clear F f d
 rintro ⟨x,M⟩ bv a w KB5 ⟨n,H,f,d⟩ F u bi
 refine zS λK h=>sp 1 f Z λa f=>zT h (wp_seq_k λK19 bd=>zI f Z F ?_ ?_) <;> intro F
 ·refine wp_skip (bd _ _ (wp_seq_k λK20 a7=>wp_block (zS λK h=>sp 2 f Z λa f=>zT h (bK (zL f d aFb m0 Z λa w f d=>sp 1 f Z λa f=>stAM (enc:=Value.bool) f d Z Z λmb a w f d=>aH F λbs t F=>?_)))))
  obtain ⟨g,rfl,qa,qr⟩:=gW d m2 (kD t)
  refine zP f Z (pIA Tryz.underlying166 aFl Z Z (At.len qa (by simp only [eF,List.length_set]))) λa f=>have d:=(aEv (d.pick k3) t).tail;have d:Ctx G (bX bZ ((aO H.2 M).eraseIdx x.toNat)::.gm mb (ALq Value.bool ([]:List (Int × Bool)))::.box b [.slice (sa g) M.length H.1] 166::.row (sa g) H.1 ((aO H.2 M).map (Kd.v bZ)) 167 1::.box Y [pq b_] 126::Lf) w:=d;wA (vs:=[.map (some mb)]) (o':=0) (z:=((none,mb),(some ([]:List (Int × Bool))))) (xs:=(aO H.2 M)) f d Z Z Z Z aFl Z (λx=>(aIb x).1) (fX (kD t)) (λe _=>splW (aIb e).1) Z u3 λw d=>have d:=(((d.pick k2).pick k1).pick k3).pick k3;?_
  obtain ⟨X,d⟩:=aJd (K:=bZ) (h':=(none,mb)) (y:=(some ([]:List (Int × Bool)))) t d
  refine have d:Ctx G (.row (sa g) H.1 ((aO X (M.set x.toNat (some ([]:List (Int × Bool))))).map (Kd.v bZ)) 167 1::bX bZ (aO X (M.set x.toNat (some ([]:List (Int × Bool)))))::.box b [.slice (sa g) M.length H.1] 166::.box Y [pq b_] 126::Lf) w:=d;aN (a7 _ _ (bK (sp 2 f Z λa f=>aN ?_)))
  replace d:Ctx G (.row (sa g) H.1 ((aO X (M.set x.toNat (some ([]:List (Int × Bool))))).map (Kd.v bZ)) 167 1::bX bZ (aO X (M.set x.toNat (some ([]:List (Int × Bool)))))::.box b [.slice (sa g) ((M.set x.toNat (some ([]:List (Int × Bool)))).length) H.1] 166::.box Y [pq b_] 126::Lf) w:=by simp only [List.length_set] at d ⊢;exact d
  exact have d:=((d.pick k1).pick k1).pick k2;bi (W (x + 1),(M.set x.toNat (some ([]:List (Int × Bool))))) _ _ (sj F).symm ⟨(sa g),(H.1,X),f.kp Z,d⟩
 ·exact wp_exit (aP (aP (have u:=cB F u;cX (bj _ _ _ u ⟨n,H,f.kp Z,d⟩))))

def qN (N:Nat) (r:aB):Option ((List Int) × Int) :=
 Option.bind (oQ N r) (aGl (λD=>cond (D != 0)
 (some (([]:List Int),D))
 (none))
 (λB=>cond (B.2 != 0)
 (some (([]:List Int),B.2))
 (Option.bind (qA N (⟨r,B.1⟩:bJ)) λH=>
 some (H.1,0))))
theorem aCu {M I:Option Addr} {O H:Nat} (r:aB) (D:RdT aT G 1 M O r.People) (B:RdT bD G 2 I H r.Stations) (d:Ctx G (Lf) w) {S:(List Int) × Int} (F:qN N r=some S):Calls Tryz.prog 25 #[.agg #[.slice M r.People.length O,.slice I r.Stations.length H]] w (λe w=>∃ (V:Option Addr) (Y:Nat),e=.returned (.tuple #[.slice V S.1.length Y,i6 S.2])∧Ctx G (.row V Y (S.1.map aF) 3 1::Lf) w):=by
 refine bY Tryz.func25 Z Tryz.ntmps25 Z λa f=>zS λK h=>zB f d Z λm a w f d=>sp 2 f Z λa f=>zT h (wp_seq_k λK2 h2=>bK (zN f d qC m0 Z λa w f d=>aH F λX U F=>?_))
 cases X with
 | inl X=>
  refine have F:=aNv F;zC f (eN 70) Z (lK r D B d U) ?_
  rintro _ w ⟨rfl,d⟩
  refine ⟨_,Z,λa f=>sp 5 f Z λa f=>aN (h2 _ _ (wp_seq_k λK3 h3=>zS λK h=>sp 2 f Z λa f=>zT h (zI f Z F ?_ ?_)))⟩ <;> intro F
  ·refine zS λK h=>sp 3 f Z λa f=>zT h (wp_ret (aL ?_))
   obtain rfl:=sj F
   exact have d:=d.nilRow 3 1;have d:=d.drop k1;zO2 Tryz.results25 f Z Z ⟨none,0,Z,d⟩
  ·exact aG5 F
 | inr j=>
  refine have F:=aMx F;have g:=U;zC f (eN 70) Z (lK r D B d g) ?_
  rintro _ w ⟨n,rfl,d⟩
  refine ⟨_,Z,λa f=>sp 5 f Z λa f=>aN ?_⟩
  obtain ⟨G,J,R,d,-⟩:=aNc d k0
  refine have R:=aNr R;h2 _ _ (wp_seq_k λK6 h6=>zS λK h=>sp 2 f Z λa f=>zT h (zI f Z F ?_ ?_)) <;> intro F
  ·refine zS λK h=>sp 3 f Z λa f=>zT h (wp_ret (aL ?_))
   obtain rfl:=sj F
   exact have d:=d.down J;have d:=d.nilRow 3 1;have d:=d.drop k1;zO2 Tryz.results25 f Z Z ⟨none,0,Z,d⟩
  ·refine wp_skip (h6 _ _ (zS λK h=>sp 1 f Z λa f=>aH F λo b F=>zC f (eN 84) Z (xQ (⟨r,j.1⟩:bJ) (D.mono J) (B.mono J) R d b) ?_))
   rintro _ w ⟨k,i,q,p,rfl,d⟩
   refine ⟨_,Z,λa f=>sp 5 f Z λa f=>zT h (zS λK h=>sp 3 f Z λa f=>zT h (wp_ret ?_))⟩
   obtain rfl:=sj F
   exact have d:=d.down J;have d:=(d.drop k2).drop k1;zO2 Tryz.results25 f Z Z ⟨k,i,Z,d⟩

def tU (s_:Int) (x:aB):Bool :=
 (aR s_ (-1) (W (((x.Stations.length:Nat):Int) - 1)))
theorem aFa {b_ I D:Nat} {H B:Option Addr} (s_:Int) (x:aB) (M:RdT aT G 1 H I x.People) (J:RdT bD G 2 B D x.Stations) (d:Ctx G (.box b_ [.slice H x.People.length I,.slice B x.Stations.length D] 26::Lf) w) {O:Bool} (F:tU s_ x=O):Cz G 71 #[i6 s_,pq b_] w (.bool O) (.box b_ [.slice H x.People.length I,.slice B x.Stations.length D] 26::Lf):=by
 refine bY Tryz.func71 Z Tryz.ntmps71 Z λa f=>zS λK h=>sp 1 f Z λa f=>zT h (zS λK h=>sp 1 f Z λa f=>zP f Z (pFA fH Z) λa f=>zL f d pB m0 Z λa w f d=>zP f Z (bA Tryz.underlying24 Z) λa f=>sp 1 f Z λa f=>zQ (v:=.bool (aR s_ (-1) (W (((x.Stations.length:Nat):Int) - 1)))) f d (eN 53) Z (λw d=>dP s_ (-1) (W (((x.Stations.length:Nat):Int) - 1)) d Z) λa w f d=>sp 1 f Z λa f=>zT h (wp_ret ?_))
 obtain rfl:=F
 exact zO1 Tryz.results71 f Z ⟨Z,d⟩

def gS (x:Int) (B:aB):Bool :=
 (!(tU x B))
theorem aBh {b_ R H B:Nat} {I D:Option Addr} (x:Int) (J:aB) (O:RdT aT G 1 I H J.People) (M:RdT bD G 2 D B J.Stations) (d:Ctx G (.box b_ [.func (.func 71) #[] #[pq R]] 117::.box R [.slice I J.People.length H,.slice D J.Stations.length B] 26::Lf) w) {S:Bool} (F:gS x J=S):Cz G 107 #[i6 x,pq b_] w (.bool S) (.box b_ [.func (.func 71) #[] #[pq R]] 117::.box R [.slice I J.People.length H,.slice D J.Stations.length B] 26::Lf):=by
 refine bY Tryz.func107 Z Tryz.ntmps107 Z λa f=>zS λK h=>sp 1 f Z λa f=>zT h (zS λK h=>zL f d aJv m0 Z λa w f d=>sp 1 f Z λa f=>zQ (v:=.bool (tU x J)) f d (eN 71) Z (λw d=>(aFa x J O M (d.pick k1) Z).mono λe w h=>⟨h.1,(h.2.unpick k1)⟩) λa w f d=>sp 2 f Z λa f=>zT h (wp_ret ?_))
 obtain rfl:=F
 exact zO1 Tryz.results107 f Z ⟨Z,d⟩

def jR (N:Nat) (s_:List Int) (f_:aB) (x:Int):Option (bC (Int) (Int)) :=
 cond (decide (x < ((s_.length:Nat):Int)))
 (Option.bind (aQ s_ x) λB=>
 cond (gS B f_)
 (some (.ret x))
 (some (.cont (W (x + 1)))))
 (some (.brk x))
def iC (N:Nat) (s_:List Int) (f_:aB):Option (Int) :=
 Option.bind (aS (λs4=>jR N s_ f_ s4) N 0) λx4=>
 exK x4 (λs4=>some (-1)) some
theorem vT {V I B:Option Addr} {U b_ M H D:Nat} (s_:List Int) (f_:aB) (b:Rd G 1 V U (s_.map aF)) (R:RdT aT G 1 I H f_.People) (O:RdT bD G 2 B D f_.Stations) (d:Ctx G (.box b_ [.func (.func 71) #[] #[pq M]] 117::.box M [.slice I f_.People.length H,.slice B f_.Stations.length D] 26::Lf) w) {X:Int} (F:iC N s_ f_=some X):Cz G 97 #[.slice V s_.length U,.func (.func 107) #[] #[pq b_]] w (i6 X) (.box b_ [.func (.func 71) #[] #[pq M]] 117::.box M [.slice I f_.People.length H,.slice B f_.Stations.length D] 26::Lf):=by
 refine bY Tryz.func97 Z Tryz.ntmps97 Z λa f=>zS λK h=>sp 1 f Z λa f=>zT h (wp_seq_k λK2 h2=>zS λK h=>sp 1 f Z λa f=>zP f Z (bA Tryz.underlying22 Z) λa f=>sp 1 f Z λa f=>zT h (wp_block (aH F λx4 n F=>?_)))
 let S4:Int→Act→World→Prop:=(λ(zz:Int) a w=>Has 19 a [(0,.slice V s_.length U),(1,.func (.func 107) #[] #[pq b_]),(7,i6 ((s_.length:Nat):Int)),(8,i6 zz)]∧Ctx G (.box b_ [.func (.func 71) #[] #[pq M]] 117::.box M [.slice I f_.People.length H,.slice B f_.Stations.length D] 26::Lf) w)
 have k:∀ (zz:Int) a w,x4=.go zz→S4 zz a w→K2 a w:=by
  rintro x a w rfl ⟨f,d⟩
  refine have F:=bI F;h2 _ _ (zS λK h=>sp 1 f Z λa f=>zT h (wp_ret ?_))
  obtain rfl:=sj F
  exact zO1 Tryz.results97 f Z ⟨Z,d⟩
 have i:∀ r,x4=.out r→r=X:=by
  rintro r rfl
  exact sj F
 refine cF N (cE (S:=S4) (x:=x4) ?_ N 0 _ _ ⟨f.kp Z,d⟩ n)
 clear F f d
 rintro x p a w KB4 ⟨f,d⟩ F J m
 refine zS λK h=>sp 1 f Z λa f=>zT h (wp_seq_k λK7 h7=>zI f Z F ?_ ?_) <;> intro F
 ·refine wp_skip (h7 _ _ (wp_seq_k λK8 h8=>wp_block (zS λK h=>sp 2 f Z λa f=>zT h (zS λK h=>sp 3 f Z λa f=>aH F λY g F=>?_))))
  obtain ⟨q,o,qa,qp⟩:=b.atm g
  refine zP f Z (pIA Tryz.underlying22 cS Z Z qa) λa f=>zE f d Z (bB aZ Z (aV (j:=0) qp Z)) λa w f d=>zQ (v:=.bool (gS Y f_)) f d (eN 107) Z (λw d=>(aBh Y f_ R O ((d.pick k1).pick k1) Z).mono λe w h=>⟨h.1,((h.2.unpick k1).unpick k1)⟩) λa w f d=>zT h (zI f Z F ?_ ?_) <;> intro F
  ·refine zS λK h=>sp 2 f Z λa f=>zT h (wp_ret (bG (aL (aL (have J:=cB F J;have F:=i _ J;bG (aL ?_))))))
   obtain rfl:=F
   exact zO1 Tryz.results97 f Z ⟨Z,d⟩
  ·exact wp_skip (h8 _ _ (bK (sp 2 f Z λa f=>aN (m (W (x + 1)) _ _ (sj F).symm ⟨f.kp Z,d⟩))))
 ·exact wp_exit (aP (aP (have J:=cB F J;cX (k _ _ _ J ⟨f.kp Z,d⟩))))

def fW (N:Nat) (s_:List Int) (f_:aB):Option (Bool) :=
 Option.bind (iC N s_ f_) λr=>
 some (decide (0≤r))
theorem uC {S I D:Option Addr} {R b_ O H B:Nat} (s_:List Int) (f_:aB) (V:Rd G 1 S R (s_.map aF)) (M:RdT aT G 1 I H f_.People) (J:RdT bD G 2 D B f_.Stations) (d:Ctx G (.box b_ [.func (.func 71) #[] #[pq O]] 117::.box O [.slice I f_.People.length H,.slice D f_.Stations.length B] 26::Lf) w) {U:Bool} (F:fW N s_ f_=some U):Cz G 76 #[.slice S s_.length R,.func (.func 107) #[] #[pq b_]] w (.bool U) (.box b_ [.func (.func 71) #[] #[pq O]] 117::.box O [.slice I f_.People.length H,.slice D f_.Stations.length B] 26::Lf):=by
 refine bY Tryz.func76 Z Tryz.ntmps76 Z λa f=>zS λK h=>sp 1 f Z λa f=>zT h (zS λK h=>sp 2 f Z λa f=>aH F λr hr F=>zQ (v:=i6 r) f d (eN 97) Z (λw d=>(vT s_ f_ V M J ((d.pick k1).pick k1) hr).mono λe w h=>⟨h.1,((h.2.unpick k1).unpick k1)⟩) λa w f d=>sp 2 f Z λa f=>zT h (wp_ret ?_))
 obtain rfl:=sj F
 exact zO1 Tryz.results76 f Z ⟨Z,d⟩

def lQ (N:Nat) (l:List Int) (so:aB):Option (Bool) :=
 Option.bind (fW N l so) λr=>
 some (!r)
theorem aCe {R H D:Option Addr} {S b_ I B:Nat} (l:List Int) (so:aB) (U:Rd G 1 R S (l.map aF)) (M:RdT aT G 1 H I so.People) (J:RdT bD G 2 D B so.Stations) (d:Ctx G (.box b_ [.slice H so.People.length I,.slice D so.Stations.length B] 26::Lf) w) {O:Bool} (F:lQ N l so=some O):Cz G 56 #[.slice R l.length S,.func (.func 71) #[] #[pq b_]] w (.bool O) (.box b_ [.slice H so.People.length I,.slice D so.Stations.length B] 26::Lf):=by
 refine bY Tryz.func56 Z Tryz.ntmps56 Z λa f=>zS λK h=>zB f d Z λV a w f d=>sp 1 f Z λa f=>zT h (zS λK h=>sp 1 f Z λa f=>zP f Z (pMF (us:=[pq V]) Z Z) λa f=>aH F λr hr F=>zQ (v:=.bool r) f d (eN 76) Z (λw d=>(uC l so U M J ((d.pick k1).pick k1) hr).mono λe w h=>⟨h.1,((h.2.unpick k1).unpick k1)⟩) λa w f d=>sp 2 f Z λa f=>zT h (wp_ret ?_))
 obtain rfl:=sj F
 exact have d:=d.drop k0;zO1 Tryz.results56 f Z ⟨Z,d⟩

def pN (N:Nat) (x:Int) (B:List (List Int)):Option (bC (Int × (List (List Int))) ((List (List Int)))) :=
 some (.cont (W (x + 1),B))
def mZ (N:Nat) (B:List Int) (x:Int) (H:List (List Int)):Option (bC (Int × (List (List Int))) ((List (List Int)))) :=
 cond (decide (x < ((B.length:Nat):Int)))
 (Option.bind (aQ B x) λD=>
 cond (D != (-1))
 (Option.bind (inR D 12) λM=>
 Option.bind (aQ H D) λI=>
 Option.bind (room ((I++[x])).length) λJ=>
 Option.bind (inR D 12) λO=>
 Option.bind (aQ H D) λR=>
 pN N x (H.set D.toNat (I++[x])))
 (pN N x H))
 (some (.brk (x,H)))
def wN (N:Nat) (w_:bJ) (B:List Int):Option ((List (List Int))) :=
 Option.bind (aS (λs5=>mZ N B s5.1 s5.2) N (0,(List.replicate 12 ([]:List Int)))) λx5=>
 exK x5 (λs5=>Option.bind (aEq 12 s5.2) λun=>
 some s5.2) some
theorem aFx {b_ R I M:Nat} {O J D:Option Addr} (w_:bJ) (B:List Int) (t:RdT aT G 1 O R w_.Roster.People) (q:RdT bD G 2 J I w_.Roster.Stations) (au:PC G b_ 0 (aBc [.slice O w_.Roster.People.length R,.slice J w_.Roster.Stations.length I] 144 aF w_.rank [])) (m:Rd G 1 D M (B.map aF)) (d:Ctx G (Lf) w) {ab:(List (List Int))} (F:wN N w_ B=some ab):Calls Tryz.prog 72 #[pq b_,.slice D B.length M] w (λe w=>∃ (af:Hds),e=.returned (.agg ((aO af ab).map (Kd.v aT)).flatten.toArray)∧Ctx G (bX aT (aO af ab)::Lf) w):=by
 refine bY Tryz.func72 Z Tryz.ntmps72 Z λa f=>zS λK h=>zA f d aMq Z λg a w f d=>zT h (zS λK h=>zA f d aMq Z λV a w f d=>?_)
 obtain ⟨ai,d⟩:=aR5 (K:=aT) (x:=([]:List Int)) (n:=12) (λ_ h=>h.nilRow _ _) kG Z Z d
 refine have d:Ctx G (.row (sa V) 12 ((aO ai (List.replicate 12 ([]:List Int))).map (Kd.v aT)) 129 1::bX aT (aO ai (List.replicate 12 ([]:List Int)))::.box g [.slice none 0 0,.slice none 0 0,.slice none 0 0,.slice none 0 0,.slice none 0 0,.slice none 0 0,.slice none 0 0,.slice none 0 0,.slice none 0 0,.slice none 0 0,.slice none 0 0,.slice none 0 0] 129::Lf) w:=d;zT h (wp_seq_k λK3 h3=>zS λK h=>sp 1 f Z λa f=>zP f Z (bA Tryz.underlying22 Z) λa f=>sp 1 f Z λa f=>zT h (wp_block (aH F λx5 ax F=>?_)))
 let S5:(Int × (List (List Int)))→Act→World→Prop:=(λ(zz:Int × (List (List Int))) a w=>∃ (H:aAf),Has 27 a [(4,pq g),(5,pq V),(8,.slice D B.length M),(9,i6 ((B.length:Nat):Int)),(10,i6 zz.1)]∧Ctx G (.row (sa V) H.1 ((aO H.2 zz.2).map (Kd.v aT)) 129 1::bX aT (aO H.2 zz.2)::.box g [.slice none 0 0,.slice none 0 0,.slice none 0 0,.slice none 0 0,.slice none 0 0,.slice none 0 0,.slice none 0 0,.slice none 0 0,.slice none 0 0,.slice none 0 0,.slice none 0 0,.slice none 0 0] 129::Lf) w)
 have az:∀ (zz:Int × (List (List Int))) a w,x5=.go zz→S5 zz a w→K3 a w:=by
  rintro ⟨x,U⟩ a w rfl ⟨H,f,d⟩
  refine have F:=bI F;h3 _ _ (zS λK h=>aH F λun ac F=>zE f d Z (iY (vs:=((aO H.2 U).map (Kd.v aT)).flatten) aQ4 Z (aB7 kG ac) (aJp m0)) λa w f d=>aR6 (n:=12) (vs:=((aO H.2 U).map (Kd.v aT)).flatten) f d Z Z Z Z aO9 (aB7 kG ac) (aKz kG) Z u2 λw d=>zT h (wp_ret ?_))
  obtain rfl:=sj F
  exact have d:=d.drop k0;yY (by simp) Z Tryz.results72 f d (eE (vs:=((aO H.2 U).map (Kd.v aT)).flatten) aQ4 Z (aB7 kG ac) (bT (n:=12) m1 (takeW (aB7 kG ac)))) ⟨H.2,Z,(d.drop k1)⟩
 have a8:∀ r,x5=.out r→r=ab:=by
  rintro r rfl
  exact sj F
 refine cF N (cE (S:=S5) (x:=x5) ?_ N (0,(List.replicate 12 ([]:List Int))) _ _ ⟨(12,ai),f.kp Z,d⟩ ax)
 clear F f d
 rintro ⟨x,U⟩ av a w KB5 ⟨H,f,d⟩ F s ay
 refine zS λK h=>sp 1 f Z λa f=>zT h (wp_seq_k λK8 h8=>zI f Z F ?_ ?_) <;> intro F
 ·refine wp_skip (h8 _ _ (wp_seq_k λK9 h9=>?_))
  have aq:∀ (u:List (List Int)) (X:aAf) a w,Has 27 a [(4,pq g),(5,pq V),(8,.slice D B.length M),(9,i6 ((B.length:Nat):Int)),(10,i6 x)]→Ctx G (.row (sa V) X.1 ((aO X.2 u).map (Kd.v aT)) 129 1::bX aT (aO X.2 u)::.box g [.slice none 0 0,.slice none 0 0,.slice none 0 0,.slice none 0 0,.slice none 0 0,.slice none 0 0,.slice none 0 0,.slice none 0 0,.slice none 0 0,.slice none 0 0,.slice none 0 0,.slice none 0 0] 129::Lf) w→pN N x u=some av→K9 a w:=by
   repeat first | clear F | clear d | clear f
   intro u X a w f d F
   unfold pN at F
   exact h9 _ _ (bK (sp 2 f Z λa f=>aN (ay (W (x + 1),u) _ _ (sj F).symm ⟨X,f.kp Z,d⟩)))
  refine wp_block (zS λK h=>sp 1 f Z λa f=>aH F λb ar F=>?_)
  obtain ⟨a6,o,qa,qp⟩:=m.atm ar
  refine zP f Z (pIA Tryz.underlying22 cS Z Z qa) λa f=>zE f d Z (bB aZ Z (aV (j:=0) qp Z)) λa w f d=>sp 2 f Z λa f=>zT h (zS λK h=>sp 2 f Z λa f=>zT h (zI f Z F ?_ ?_)) <;> intro F
  ·refine bK (sp 2 f Z λa f=>aH F λa2 ag F=>aH F λY aj F=>?_)
   obtain ⟨a4,qr⟩:=cK d m0 (kD aj)
   refine zP f Z (Pu.cast (aAb Tryz.underlying129 lN Z Z (cG ag).1 (cG ag).2) (congrArg (λk=>Value.pointer (some ⟨V,k,none⟩)) (Nat.zero_add _))) λa f=>zE f d Z (bB eL Z (cA (sz:=1) (i:=b.toNat) (j:=0) m0 qr Z)) λa w f d=>sp 1 f Z λa f=>gN (rows:=([x]:List Int).map aF) (vs:=[(0,i6 x)]) f d Z Z eV Z ⟨Z,Z,Z,trivial⟩ Z Z λap a w f d=>have d:=aEv (d.pick k2) aj;have d:Ctx G (.row ((H.2 b.toNat).1) ((H.2 b.toNat).2) (Y.map aF) 3 1::bX aT ((aO H.2 U).eraseIdx b.toNat)::.row (sa ap) 1 (([x]:List Int).map aF) 3 1::.row (sa V) H.1 ((aO H.2 U).map (Kd.v aT)) 129 1::.box g [.slice none 0 0,.slice none 0 0,.slice none 0 0,.slice none 0 0,.slice none 0 0,.slice none 0 0,.slice none 0 0,.slice none 0 0,.slice none 0 0,.slice none 0 0,.slice none 0 0,.slice none 0 0] 129::Lf) w:=d;aH F λa0 an F=>mV (xs:=Y) (ys:=([x]:List Int)) f d Z Z eV Z Z Z Z Z bQ (gL d m2) (λ_ _=>u0) (by simpa using cZ an) λam ak a w f d=>aH F λa5 ad F=>aH F λa7 aa F=>?_
   obtain ⟨a3,a1⟩:=cK d m3 (kD aa)
   refine zP f Z (Pu.cast (aAb Tryz.underlying129 lN Z Z (cG ad).1 (cG ad).2) (congrArg (λk=>Value.pointer (some ⟨V,k,none⟩)) (Nat.zero_add _))) λa f=>wA (vs:=[.slice am ((Y++[x]).length) ak]) (o':=0) (z:=((am,ak),(Y++[x]))) (xs:=(aO H.2 U)) f d Z Z Z Z lN Z (λx=>(kG x).1) (fX (kD aa)) (λe _=>splW (kG e).1) Z u3 λw d=>have d:=(((d.pick k2).pick k2).pick k3).pick k3;?_
   obtain ⟨p,d⟩:=aJd (K:=aT) (h':=(am,ak)) (y:=(Y++[x])) aa d
   exact have d:Ctx G (.row (sa V) H.1 ((aO p (U.set b.toNat (Y++[x]))).map (Kd.v aT)) 129 1::bX aT (aO p (U.set b.toNat (Y++[x])))::.row (sa ap) 1 (([x]:List Int).map aF) 3 1::.box g [.slice none 0 0,.slice none 0 0,.slice none 0 0,.slice none 0 0,.slice none 0 0,.slice none 0 0,.slice none 0 0,.slice none 0 0,.slice none 0 0,.slice none 0 0,.slice none 0 0,.slice none 0 0] 129::Lf) w:=d;aN (have d:=d.drop k2;aq (U.set b.toNat (Y++[x])) (H.1,p) _ _  (f.kp Z) d F)
  ·exact wp_skip (aq U H _ _  (f.kp Z) d F)
 ·exact wp_exit (aP (aP (have s:=cB F s;cX (az _ _ _ s ⟨H,f.kp Z,d⟩))))

def aAm (N:Nat) (q:Int) (x:bJ) (B:Int) (D:Int):Option (Bool) :=
 Option.bind (inR B 12) λun=>
 Option.bind (inR q 12) λI=>
 Option.bind (inR B 12) λH=>
 Option.bind (inR D 12) λJ=>
 some (decide ((x.rank (B * 12 + D).toNat) < (x.rank (B * 12 + q).toNat)))
theorem aFe {b_ S H B b Y:Nat} {I D:Option Addr} (q:Int) (x:bJ) (m i:Int) (X:RdT aT G 1 I H x.Roster.People) (U:RdT bD G 2 D B x.Roster.Stations) (V:PC G S 0 (aBc [.slice I x.Roster.People.length H,.slice D x.Roster.Stations.length B] 144 aF x.rank [])) (d:Ctx G (.box b_ [pq S] 126::.box b [i6 m] 3::.box Y [i6 i] 3::Lf) w) {n:Bool} (F:aAm N q x m i=some n):Cz G 75 #[i6 q,pq b_,pq b,pq Y] w (.bool n) (.box b_ [pq S] 126::.box b [i6 m] 3::.box Y [i6 i] 3::Lf):=by
 refine bY Tryz.func75 Z Tryz.ntmps75 Z λa f=>zS λK h=>sp 1 f Z λa f=>zT h (wp_seq_k λK2 h2=>aH F λun g F=>aH F λp R F=>aH F λo J F=>aH F λr O F=>cQ d aU (by kernel_rfl) (qV f Z (bB tF Z (bN m0 Z)) λa f=>qV f Z (bB aZ Z (bN m1 Z)) λa f=>qp_ 2 f Z λa f=>qU f Z (pFA wY Z) λa f=>?_))
 refine qU f Z (aAb Tryz.underlying136 aCs Z Z (cG g).1 (cG g).2) λa f=>qU f Z (Pu.cast (aAb Tryz.underlying135 cS Z Z (cG R).1 (cG R).2) (congrArg (λk=>Value.pointer (some ⟨S,k,none⟩)) (xA (M:=12) (0 + 2) g R Z))) λa f=>qV f Z (bB aZ Z (yW (j:=0) V (λx=>(bQ x).1) Z (aKf g R Z) Z)) λa f=>qV f Z (bB tF Z (bN m0 Z)) λa f=>qV f Z (bB aZ Z (bN m1 Z)) λa f=>qV f Z (bB aZ Z (bN m2 Z)) λa f=>qp_ 1 f Z λa f=>qU f Z (pFA wY Z) λa f=>qU f Z (aAb Tryz.underlying136 aCs Z Z (cG J).1 (cG J).2) λa f=>qU f Z (Pu.cast (aAb Tryz.underlying135 cS Z Z (cG O).1 (cG O).2) (congrArg (λk=>Value.pointer (some ⟨S,k,none⟩)) (xA (M:=12) (0 + 2) J O Z))) λa f=>qV f Z (bB aZ Z (yW (j:=0) V (λx=>(bQ x).1) Z (aKf J O Z) Z)) λa f=>qp_ 2 f Z λa f=>λw d=>h2 _ _ ?_
 refine wp_ret ?_
 obtain rfl:=sj F
 exact zO1 Tryz.results75 f Z ⟨Z,d⟩

def dJ (N:Nat) (s_:List Int) (f_:bJ) (B:Int) (D:Int) (x:Int):Option (bC (Int) (Int)) :=
 cond (decide (x < ((s_.length:Nat):Int)))
 (Option.bind (aQ s_ x) λH=>
 Option.bind (aAm N H f_ B D) λr=>
 cond r
 (some (.ret x))
 (some (.cont (W (x + 1)))))
 (some (.brk x))
def mJ (N:Nat) (s_:List Int) (f_:bJ) (B:Int) (D:Int):Option (Int) :=
 Option.bind (aS (λs4=>dJ N s_ f_ B D s4) N 0) λx4=>
 exK x4 (λs4=>some (-1)) some
theorem vW {g H D:Option Addr} {b b_ Y I B V R:Nat} (s_:List Int) (f_:bJ) (U X:Int) (m:Rd G 1 g b (s_.map aF)) (M:RdT aT G 1 H I f_.Roster.People) (J:RdT bD G 2 D B f_.Roster.Stations) (i:PC G Y 0 (aBc [.slice H f_.Roster.People.length I,.slice D f_.Roster.Stations.length B] 144 aF f_.rank [])) (d:Ctx G (.box b_ [pq Y] 126::.box V [i6 U] 3::.box R [i6 X] 3::Lf) w) {k:Int} (F:mJ N s_ f_ U X=some k):Cz G 97 #[.slice g s_.length b,.func (.func 75) #[] #[pq b_,pq V,pq R]] w (i6 k) (.box b_ [pq Y] 126::.box V [i6 U] 3::.box R [i6 X] 3::Lf):=by
 refine bY Tryz.func97 Z Tryz.ntmps97 Z λa f=>zS λK h=>sp 1 f Z λa f=>zT h (wp_seq_k λK2 h2=>zS λK h=>sp 1 f Z λa f=>zP f Z (bA Tryz.underlying22 Z) λa f=>sp 1 f Z λa f=>zT h (wp_block (aH F λx4 u F=>?_)))
 let S4:Int→Act→World→Prop:=(λ(zz:Int) a w=>Has 19 a [(0,.slice g s_.length b),(1,.func (.func 75) #[] #[pq b_,pq V,pq R]),(7,i6 ((s_.length:Nat):Int)),(8,i6 zz)]∧Ctx G (.box b_ [pq Y] 126::.box V [i6 U] 3::.box R [i6 X] 3::Lf) w)
 have s:∀ (zz:Int) a w,x4=.go zz→S4 zz a w→K2 a w:=by
  rintro x a w rfl ⟨f,d⟩
  refine have F:=bI F;h2 _ _ (zS λK h=>sp 1 f Z λa f=>zT h (wp_ret ?_))
  obtain rfl:=sj F
  exact zO1 Tryz.results97 f Z ⟨Z,d⟩
 have p:∀ r,x4=.out r→r=k:=by
  rintro r rfl
  exact sj F
 refine cF N (cE (S:=S4) (x:=x4) ?_ N 0 _ _ ⟨f.kp Z,d⟩ u)
 clear F f d
 rintro x y a w KB4 ⟨f,d⟩ F O t
 refine zS λK h=>sp 1 f Z λa f=>zT h (wp_seq_k λK7 h7=>zI f Z F ?_ ?_) <;> intro F
 ·refine wp_skip (h7 _ _ (wp_seq_k λK8 h8=>wp_block (zS λK h=>sp 2 f Z λa f=>zT h (zS λK h=>sp 3 f Z λa f=>aH F λq n F=>?_))))
  obtain ⟨z,o,qa,qp⟩:=m.atm n
  refine zP f Z (pIA Tryz.underlying22 cS Z Z qa) λa f=>zE f d Z (bB aZ Z (aV (j:=0) qp Z)) λa w f d=>aH F λr hr F=>zQ (v:=.bool r) f d (eN 75) Z (λw d=>(aFe q f_ U X M J i (((d.pick k2).pick k2).pick k2) hr).mono λe w h=>⟨h.1,(((h.2.unpick k2).unpick k2).unpick k2)⟩) λa w f d=>zT h (zI f Z F ?_ ?_) <;> intro F
  ·refine zS λK h=>sp 2 f Z λa f=>zT h (wp_ret (bG (aL (aL (have O:=cB F O;have F:=p _ O;bG (aL ?_))))))
   obtain rfl:=F
   exact zO1 Tryz.results97 f Z ⟨Z,d⟩
  ·exact wp_skip (h8 _ _ (bK (sp 2 f Z λa f=>aN (t (W (x + 1)) _ _ (sj F).symm ⟨f.kp Z,d⟩))))
 ·exact wp_exit (aP (aP (have O:=cB F O;cX (s _ _ _ O ⟨f.kp Z,d⟩))))

def fZ (N:Nat) (s_:List Int) (f_:bJ) (B:Int) (D:Int):Option (Bool) :=
 Option.bind (mJ N s_ f_ B D) λr=>
 some (decide (0≤r))
theorem uB {b H D:Option Addr} {Y b_ U I B V S:Nat} (s_:List Int) (f_:bJ) (R O:Int) (i:Rd G 1 b Y (s_.map aF)) (M:RdT aT G 1 H I f_.Roster.People) (J:RdT bD G 2 D B f_.Roster.Stations) (X:PC G U 0 (aBc [.slice H f_.Roster.People.length I,.slice D f_.Roster.Stations.length B] 144 aF f_.rank [])) (d:Ctx G (.box b_ [pq U] 126::.box V [i6 R] 3::.box S [i6 O] 3::Lf) w) {g:Bool} (F:fZ N s_ f_ R O=some g):Cz G 76 #[.slice b s_.length Y,.func (.func 75) #[] #[pq b_,pq V,pq S]] w (.bool g) (.box b_ [pq U] 126::.box V [i6 R] 3::.box S [i6 O] 3::Lf):=by
 refine bY Tryz.func76 Z Tryz.ntmps76 Z λa f=>zS λK h=>sp 1 f Z λa f=>zT h (zS λK h=>sp 2 f Z λa f=>aH F λr hr F=>zQ (v:=i6 r) f d (eN 97) Z (λw d=>(vW s_ f_ R O i M J X (((d.pick k2).pick k2).pick k2) hr).mono λe w h=>⟨h.1,(((h.2.unpick k2).unpick k2).unpick k2)⟩) λa w f d=>sp 2 f Z λa f=>zT h (wp_ret ?_))
 obtain rfl:=sj F
 exact zO1 Tryz.results76 f Z ⟨Z,d⟩

end Go.Nilo
