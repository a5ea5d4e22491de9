/-
  What the plain functions compute, in plain arithmetic, part 5. Conditions: what each theorem names.
-/
import Derived.Test.YtcefmiiipbjngaaGreatCsL4
set_option linter.unusedSimpArgs false
set_option linter.unusedVariables false
set_option maxRecDepth 100000
namespace Go.Nilo
theorem aDx {σ ρ τ:Type} {s:σ} {f:σ→Option τ} {g:ρ→Option τ}:exK (.go s) f g=f s:=rfl
theorem aS6 (N:Nat):∃ (T:aB) (p q:List Int) (a b:Int) (x y:aD) (c:Int),yI N=some T∧aQ T.People 0=some p∧aQ p 1=some a∧aQ T.People 1=some q∧aQ q 0=some b∧aQ T.Stations 0=some x∧aQ T.Stations 1=some y∧aQ y.Order 0=some c:=⟨_,_,_,_,_,_,_,_,rfl,rfl,rfl,rfl,rfl,rfl,rfl,rfl⟩
theorem aRy (N:Nat):∃ (l:List aG) (a b:aG),wI N 70=some l∧aQ l 0=some a∧aQ l 1=some b:=⟨_,_,_,rfl,rfl,rfl⟩
theorem aRe (N:Nat):∃ (c:aJ) (a b:aC),uE N=some c∧aQ c.Rides 0=some a∧aQ c.Rides 1=some b:=⟨_,_,_,rfl,rfl,rfl⟩
theorem aM9 (N:Nat) (a b:Int):iJ N a b=some ⟨a,b⟩:=rfl
theorem aS4 (e:Int) {i:Nat} (hi:i < 27):jI 5000 e (i:Int)=some (.cont ((i + 1:Nat):Int)):=by
 unfold jI
 rw [show decide ((i:Int) < 27)=true by rw [decide_eq_true_eq]; omega,cond_true,inR,if_pos (by omega),bP (by omega)]
 obtain ⟨T,p,q,a,b,x,y,c,hT,t0,t1,t2,t3,t4,t5,t6⟩:=aS6 5000
 obtain ⟨l,v,w,hl,u0,u1⟩:=aRy 5000
 obtain ⟨C,r,s,hC,r0,r1⟩:=aRe 5000
 have l1:∀ {α:Type} {p q:α} {l:List α},aQ (p::q::l) 0=some p:=rfl
 have l2:∀ {α:Type} {p q:α} {l:List α},aQ (p::q::l) 1=some q:=rfl
 simp only [hT,hl,hC,Option.bind_some,t0,t1,t2,t3,t4,t5,t6,u0,u1,r0,r1,l1,l2,xK,Ro.crewrounds_law,Ca.crewcables_law,Bool.not_true]
 cases decide ((i:Int) < 8) <;> cases (decide (7 < (i:Int))) && (decide ((i:Int) < 18)) <;> cases decide (17 < (i:Int)) <;> rfl
theorem b4_ok {i:Nat} (hi:i < 45):kS 5000 (i:Int)=some (.cont ((i + 1:Nat):Int)):=by
 unfold kS
 rw [show decide ((i:Int) < (45:Int))=true by rw [decide_eq_true_eq]; omega,cond_true,bP (by omega)]
 have hL:∀ {L:List Int},L.length=45→∃ e,aQ L (i:Int)=some e:=fun {L} h=>⟨L[i]'(by omega),bF (by omega)⟩
 obtain ⟨e,he⟩:=hL (L:=[(-2),(-1),0,1,2,5,9,10,11,12,13,25,30,35,40,50,60,70,80,90,100,160,180,250,480,481,600,999,1000,1001,1440,1441,3000,9999,10000,10001,99999,100000,100001,200000,200001,10000000,10000001,9223372036854775807,(-9223372036854775808)]) rfl
 rw [he,Option.bind_some]
 have h:=rK (ρ:=bC Int Bool) (λk:Nat=>(k:Int)) 27 (λs73:Int=>jI 5000 e s73) (λk hk=>aS4 e hk) (by unfold jI; rfl) (N:=5000) (by omega)
 have h':aS (λs73:Int=>jI 5000 e s73) 5000 0=some (.go 27):=h
 rw [h',Option.bind_some,aDx]
theorem l4_ok:aS (λs4:Int=>kS 5000 s4) 5000 0=some (.go 45) :=
 rK (ρ:=Bool) (λk:Nat=>(k:Int)) 45 (λs4:Int=>kS 5000 s4) (λk hk=>b4_ok hk) (by unfold kS; rfl) (N:=5000) (by omega)
theorem g10 {α:Type} {L:List α} (h:L.length=10) {x:Int} (hx:0≤x):∃ e,aQ L (x.tmod 10)=some e:=by
 have h1:=Int.tmod_nonneg 10 hx
 have h2:=Int.tmod_lt_of_pos x (show (0:Int) < 10 by decide)
 unfold aQ
 rw [if_pos h1]
 exact ⟨_,List.getElem?_eq_getElem (by omega)⟩
theorem s3 {α:Type} {L:List α} {x:Int} (hx:0≤x) (h:x≤(L.length:Int)):∃ e,yE L 0 x=some e:=by
 unfold yE
 rw [if_pos (by omega)]
 exact ⟨_,rfl⟩
theorem dv {x k:Int} (h0:0≤x) (h1:x < 4000) (hk:0 < k):0≤W (x.tdiv k):=by
 have h2:=Int.tdiv_nonneg h0 (show 0≤k by omega)
 have h3:=Int.tdiv_le_self k h0
 rw [fB (by omega) (by omega)]
 exact h2
theorem aS9 {n:Nat} (hn:n < 4000):∃ s,aS (λs60:Int × List aC=>mO 5000 (n:Int) s60.1 s60.2) 5000 (0,[])=some (.go s):=by
 have e0:((n:Int).tmod 4)=((n % 4:Nat):Int):=by rw [aQh (by omega)]; omega
 have h4:n % 4 < 4:=Nat.mod_lt _ (by omega)
 obtain ⟨s,h,-⟩:=tY (ρ:=bC Int Bool) (λs60:Int × List aC=>mO 5000 (n:Int) s60.1 s60.2) (λk s=>s.1=(k:Int)∧s.2.length=k) (n % 4) (λk s hk hs=>by
  obtain ⟨x,l⟩:=s
  obtain ⟨rfl,h2⟩:=hs
  dsimp only at h2 ⊢
  unfold mO
  rw [e0,bW hk,cond_true,fB (by omega) (by omega),fB (n:=(k:Int) + 3) (by omega) (by omega),fB (n:=(k:Int) + 4) (by omega) (by omega),fB (n:=(k:Int) + 5) (by omega) (by omega)]
  have hz:∀ z:Int,z ≠ 0→nz z=some ():=λz h=>by unfold nz; rw [if_neg h]
  rw [hz _ (by omega),hz _ (by omega),hz _ (by omega),hz _ (by omega)]
  simp only [Option.bind_some,aM9]
  rw [fQ (by rw [List.length_append]; simp; omega),Option.bind_some,bP (by omega)]
  exact ⟨_,rfl,rfl,by simp [h2]⟩) (λs hs=>by
  obtain ⟨x,l⟩:=s
  obtain ⟨rfl,h2⟩:=hs
  dsimp only
  unfold mO
  rw [e0,bU,cond_false]) (n % 4) 0 (0,[]) 5000 (by omega) (by omega) ⟨rfl,rfl⟩
 exact ⟨s,h⟩
theorem b8_ok {i:Nat} (hi:i < 4000):kE 5000 (i:Int)=some (.cont ((i + 1:Nat):Int)):=by
 unfold kE
 rw [show decide ((i:Int) < 4000)=true by rw [decide_eq_true_eq]; omega,cond_true,bP (by omega)]
 have h0:(0:Int)≤i:=by omega
 have hD:∀ k:Int,0 < k→0≤W ((i:Int).tdiv k):=λk hk=>dv h0 (by omega) hk
 have t4:=Int.tmod_nonneg 4 h0
 have t4':=Int.tmod_lt_of_pos (i:Int) (show (0:Int) < 4 by decide)
 have t2:=Int.tmod_nonneg 2 h0
 have t2':=Int.tmod_lt_of_pos (i:Int) (show (0:Int) < 2 by decide)
 have hL:∀ L:List (List Int),L.length=10→∃ a b c d e f,aQ L ((i:Int).tmod 10)=some a∧aQ L ((W ((i:Int).tdiv 3)).tmod 10)=some b∧aQ L ((W ((i:Int).tdiv 7)).tmod 10)=some c∧aQ L ((W ((i:Int).tdiv 11)).tmod 10)=some d∧aQ L ((W ((i:Int).tdiv 13)).tmod 10)=some e∧aQ L ((W ((i:Int).tdiv 17)).tmod 10)=some f:=λL h=>by
  obtain ⟨a,ha⟩:=g10 h h0
  obtain ⟨b,hb⟩:=g10 h (hD 3 (by decide))
  obtain ⟨c,hc⟩:=g10 h (hD 7 (by decide))
  obtain ⟨d,hd⟩:=g10 h (hD 11 (by decide))
  obtain ⟨e,he⟩:=g10 h (hD 13 (by decide))
  obtain ⟨f,hf⟩:=g10 h (hD 17 (by decide))
  exact ⟨a,b,c,d,e,f,ha,hb,hc,hd,he,hf⟩
 obtain ⟨a,b,c,d,e,f,ha,hb,hc,hd,he,hf⟩:=hL [[],[0],[1],[2],[0,1],[1,0],[2,0],[0,2,1],[2,1,0],[1,2,0]] rfl
 rw [ha,hb,hc,hd,he,hf]
 simp only [Option.bind_some,aM9]
 have s1:∀ {α:Type} (p q r:α),∃ e,yE [p,q,r] 0 ((i:Int).tmod 4)=some e:=λp q r=>s3 t4 (by simp; omega)
 obtain ⟨g,hg⟩:=s1 _ _ _
 rw [hg,Option.bind_some,xK,Option.bind_some,Bool.not_true,cond_false]
 have s2:∀ {α:Type} (p q:α),∃ e,yE [p,q] 0 (W (1 + (i:Int).tmod 2))=some e:=λp q=>s3 (by rw [fB (by omega) (by omega)]; omega) (by rw [fB (by omega) (by omega)]; simp; omega)
 obtain ⟨u,hu⟩:=s2 _ _
 rw [hu,Option.bind_some]
 obtain ⟨s,hs⟩:=aS9 hi
 rw [hs,Option.bind_some,aDx,Ro.crewrounds_law,Option.bind_some]
 simp only [Ca.crewcables_law,Option.bind_some,Bool.not_true,cond_false]
theorem l8_ok:aS (λs8:Int=>kE 5000 s8) 5000 0=some (.go 4000) :=
 rK (ρ:=Bool) (λk:Nat=>(k:Int)) 4000 (λs8:Int=>kE 5000 s8) (λk hk=>b8_ok hk) (by unfold kE; rfl) (N:=5000) (by omega)
end Go.Nilo
set_option maxRecDepth 100000
namespace Go.Nilo
def q11 (n:Int):Bool :=
 match aS (λs32:List aG × Int × List (List Int) × List aD × List aC=>tI 5000 n s32.1 s32.2.1 s32.2.2.1 s32.2.2.2.1 s32.2.2.2.2) 5000 (([]:List aG),0,([]:List (List Int)),([]:List aD),([]:List aC)) with
 | some (.go s)=>match nK 5000 (⟨s.2.2.1,s.2.2.2.1⟩:aB),fF 5000 (⟨1000,1000,10000,10000000,s.2.2.2.2⟩:aJ) with
  | some a,some b=>!((a == 0) != ((decide (0 < n)) && (decide (n < 13)))) && !((b == 0) != (decide (n < 31)))
  | _,_=>false
 | _=>false
theorem aRc:(List.range 35).all (λn=>q11 (n:Int))=true:=by decide +kernel
theorem aS0 {i:Nat} (hi:i < 35):q11 (i:Int)=true:=List.all_eq_true.mp aRc i (List.mem_range.mpr hi)
theorem aTg {i:Nat} (hi:i < 35):jJ 5000 (i:Int)=some (.cont ((i + 1:Nat):Int)):=by
 have h:=aS0 hi
 unfold q11 at h
 unfold jJ
 rw [show decide ((i:Int) < 35)=true by rw [decide_eq_true_eq]; omega,cond_true,bP (by omega),fB (n:=4 * (i:Int)) (by omega) (by omega),fB (n:=11 * (i:Int)) (by omega) (by omega)]
 have hM:∀ z:Int,0≤z→z≤1000→inM z=some ():=λz h1 h2=>by unfold inM; rw [if_pos (by omega)]
 rw [hM (min (i:Int) 15) (by omega) (by omega),hM (4 * (i:Int)) (by omega) (by omega),hM (11 * (i:Int)) (by omega) (by omega)]
 revert h
 generalize aS (λs32:List aG × Int × List (List Int) × List aD × List aC=>tI 5000 (i:Int) s32.1 s32.2.1 s32.2.2.1 s32.2.2.2.1 s32.2.2.2.2) 5000 _=o
 intro h
 rcases o with _ | (s | r)
 ·cases h
 ·simp only [Option.bind_some,aDx,xK,Ro.crewrounds_law,Ca.crewcables_law,Bool.not_true,Bool.not_false,cond_true,cond_false,Bool.or_false]
  revert h
  dsimp only
  rcases nK 5000 (⟨s.2.2.1,s.2.2.2.1⟩:aB) with _ | a
  ·intro h; cases h
  rcases fF 5000 (⟨1000,1000,10000,10000000,s.2.2.2.2⟩:aJ) with _ | b
  ·intro h; cases h
  intro h
  rw [Bool.and_eq_true,Bool.not_eq_true',Bool.not_eq_true'] at h
  simp only [Option.bind_some,h.1,h.2,cond_false]
 ·cases h
theorem aSx:aS (λs11:Int=>jJ 5000 s11) 5000 0=some (.go 35) :=
 rK (ρ:=Bool) (λk:Nat=>(k:Int)) 35 (λs11:Int=>jJ 5000 s11) (λk hk=>aTg hk) (by unfold jJ; rfl) (N:=5000) (by omega)
theorem aTf:(Option.bind (inM 367) λun=>
 Option.bind (aS (λs15:List Int × Int=>tK 5000 s15.1 s15.2) 5000 ((List.replicate (367:Int).toNat (0:Int)),0)) λx15=>
 exK x15 (λs15=>Option.bind (yE s15.1 0 366) λsub=>
 Option.bind (kI 5000 (⟨10000,0,1000⟩:dN) sub) λr=>
 Option.bind (kI 5000 (⟨0,0,0⟩:dN) s15.1) λr_1=>
 some (((r.2 == 0) && (r_1.2 == 3)) && (r.1 == 175680000))) some)=some true:=by decide +kernel
theorem aIo:xJ 5000=some true:=by
 have h:=aTf
 unfold xJ
 rw [l4_ok,Option.bind_some,aDx,l8_ok,Option.bind_some,aDx,aSx,Option.bind_some,aDx]
 revert h
 rcases inM 367 with _ | u
 ·intro h; cases h
 rw [Option.bind_some,Option.bind_some]
 generalize aS (λs15:List Int × Int=>tK 5000 s15.1 s15.2) 5000 _=o
 intro h
 rcases o with _ | (s | r)
 ·cases h
 ·rw [Option.bind_some,aDx] at h ⊢
  revert h
  rcases yE s.1 0 366 with _ | sub
  ·intro h; cases h
  rw [Option.bind_some,Option.bind_some]
  rcases kI 5000 (⟨10000,0,1000⟩:dN) sub with _ | r
  ·intro h; cases h
  rw [Option.bind_some,Option.bind_some]
  rcases kI 5000 (⟨0,0,0⟩:dN) s.1 with _ | r1
  ·intro h; cases h
  rw [Option.bind_some,Option.bind_some]
  intro h
  rw [Option.some.inj h,cond_true,oY]
  rfl
 ·exact h
end Go.Nilo
