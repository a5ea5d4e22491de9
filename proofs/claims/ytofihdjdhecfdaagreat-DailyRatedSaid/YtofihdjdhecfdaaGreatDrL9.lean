/-
  What the plain functions compute, in plain arithmetic, part 9. Conditions: what each theorem names.
-/
import Derived.Test.YtofihdjdhecfdaaGreatDrL8
set_option linter.unusedSimpArgs false
set_option linter.unusedVariables false
namespace Go.Nilo
def s00:aA:=⟨0,0⟩
def t00:Nat→Int:=fun _=>0
structure VL (l:List aA):Prop where
 l1:1≤l.length
 l32:l.length≤32
 ok:∀ s ∈ l,vQ s
theorem VL.at_ {l:List aA} (h:VL l) {i:Nat} (hi:i < l.length):vQ (l.getD i s00):=by
 rw [← cF hi]
 exact h.ok _ (List.getElem_mem _)
theorem VL.rev {l:List aA} (h:VL l):VL l.reverse:=⟨by rw [List.length_reverse]; exact h.l1,by rw [List.length_reverse]; exact h.l32,fun s hs=>h.ok s (List.mem_reverse.1 hs)⟩
theorem vC {l:List aA} {i:Nat} (h:i < l.length):(l.take (i + 1)).reverse=l.getD i s00::(l.take i).reverse:=by
 rw [List.take_succ_eq_append_getElem h,List.reverse_append,cF (d:=s00) h]
 rfl
def kI (l:List aA) (i:Nat):Int→Int:=gB ((l.take (i + 1)).reverse)
def kP (l:List aA) (i:Nat):Int→Int:=gB (l.drop i)
def oA (l:List aA):List (Nat→Int):=(List.range l.length).map fun i=>bX (l.getD i s00) (kI l i)
def nG (l:List aA):List (Nat→Int):=(List.range l.length).map fun i=>bX (l.getD i s00) (kP l i)
theorem aCs {l:List aA} (h:VL l) {i:Nat} (hi:i < l.length) {y:Int} (h1:(l.getD i s00).Lo≤y) (h2:y≤(l.getD i s00).Hi):0≤kI l i y∧kI l i y≤20000:=by
 have hs:=h.at_ hi
 have h32:=h.l32
 unfold kI
 rcases aBd ((l.take (i + 1)).reverse) y (fun s hs=>h.ok s (List.mem_of_mem_take (List.mem_reverse.1 hs))) (by unfold vQ at hs; omega) with ⟨k1,k2⟩ | k
 ·rw [List.length_reverse,List.length_take] at k2
  omega
 ·rw [vC hi] at k
  cases k
theorem aAs {l:List aA} (h:VL l) {i:Nat} (hi:i < l.length) {y:Int} (h1:(l.getD i s00).Lo≤y) (h2:y≤(l.getD i s00).Hi):0≤kP l i y∧kP l i y≤20000:=by
 have hs:=h.at_ hi
 have h32:=h.l32
 unfold kP
 rcases aBd (l.drop i) y (fun s hs=>h.ok s (List.mem_of_mem_drop hs)) (by unfold vQ at hs; omega) with ⟨k1,k2⟩ | k
 ·rw [List.length_drop] at k2
  omega
 ·have:=congrArg List.length k
  rw [List.length_drop] at this
  simp at this
  omega
theorem uE {α:Type} (f:Nat→α) (n:Nat):(List.range (n + 1)).map f=(List.range n).map f++[f n]:=by rw [List.range_succ,List.map_append]; rfl
theorem wA {N:Nat} (hN:700≤N) {l:List aA} (h:VL l):jY N l=some (oA l):=by
 have h1:=h.l1
 have h32:=h.l32
 unfold jY
 rw [show (0:Int)=((0:Nat):Int) from rfl,getI_d s00 (by omega),Option.bind_some,aEw hN,Option.bind_some]
 have hsub:qX l 1 ((l.length:Nat):Int)=some ((l.drop 1).take (l.length - 1)):=by
  unfold qX
  rw [if_pos (by omega)]
  congr 1
 rw [hsub,Option.bind_some]
 have hlen:((l.drop 1).take (l.length - 1)).length=l.length - 1:=by simp
 have hget:∀ i,i < l.length - 1→bG ((l.drop 1).take (l.length - 1)) (i:Int)=some (l.getD (i + 1) s00):=fun i hi=>by
  rw [qP (by rw [hlen]; exact hi),List.getElem_take,List.getElem_drop,cF (d:=s00),Nat.add_comm 1 i]
 have h0:bX (l.getD 0 s00) (fun _=>0)=bX (l.getD 0 s00) (kI l 0):=by
  congr 1
  funext x
  unfold kI
  rw [vC (by omega)]
  rfl
 rw [h0]
 have:=uM (ρ:=List (Nat→Int)) (fun i:Nat=>(((List.range (i + 1)).map fun i=>bX (l.getD i s00) (kI l i),(i:Int),bX (l.getD i s00) (kI l i)):List (Nat→Int) × Int × (Nat→Int))) (l.length - 1) (fun s6=>fO N ((l.drop 1).take (l.length - 1)) s6.1 s6.2.1 s6.2.2) (fun i hi=>by
  show fO N ((l.drop 1).take (l.length - 1)) _ (i:Int) (bX (l.getD i s00) (kI l i))=_
  unfold fO
  rw [hlen,lR hi,cond_true,hget i hi,Option.bind_some,aJ0 hN (h.at_ (by omega)) (fun y h1 h2=>aCs h (by omega) h1 h2),Option.bind_some,lB (by simp; omega),Option.bind_some,fP (by omega)]
  have e:(fun x=>qT (fun y=>ap x y + kI l i y) (l.getD i s00).Lo ((l.getD i s00).Hi - (l.getD i s00).Lo).toNat)=kI l (i + 1):=by
   funext x
   unfold kI
   rw [vC (show i + 1 < l.length by omega),vC (show i < l.length by omega)]
   rfl
  rw [e,uE _ (i + 1)]) (by
  show fO N ((l.drop 1).take (l.length - 1)) _ ((l.length - 1:Nat):Int) _=_
  unfold fO
  rw [hlen,mJ,cond_false]) (N:=N) (by omega)
 have e0:([bX (l.getD 0 s00) (kI l 0)]:List (Nat→Int))=(List.range (0 + 1)).map fun i=>bX (l.getD i s00) (kI l i):=rfl
 rw [e0,this,Option.bind_some]
 show some _=some _
 unfold oA
 rw [Nat.sub_add_cancel h1]
theorem rev_s {N:Nat} {xs:List aA} (hl:xs.length≤600) (hN:700≤N):cJ N xs=some xs.reverse:=by
 unfold cJ
 obtain ⟨i,j,h⟩:=aEb (ρ:=List aA) s00 (fun s3=>eM N s3.1 s3.2.1 s3.2.2) (fun s i j=>rfl) (N:=N) (xs:=xs) (by omega) (by omega)
 rw [h,Option.bind_some]
 simp only [exK]
 unfold tS
 rw [if_pos (by simp),Option.bind_some]
theorem rev_t {N:Nat} {xs:List (Nat→Int)} (hl:xs.length≤600) (hN:700≤N):bT N xs=some xs.reverse:=by
 unfold bT
 obtain ⟨i,j,h⟩:=aEb (ρ:=List (Nat→Int)) t00 (fun s3=>dL N s3.1 s3.2.1 s3.2.2) (fun s i j=>rfl) (N:=N) (xs:=xs) (by omega) (by omega)
 rw [h,Option.bind_some]
 simp only [exK]
 unfold tS
 rw [if_pos (by simp),Option.bind_some]
theorem yT {N:Nat} (hN:700≤N) {l:List aA} (h:VL l):kG N l=some (nG l):=by
 have h1:=h.l1
 have h32:=h.l32
 unfold kG
 have hc:bJ N l=some l:=by
  unfold bJ
  rw [lB (by omega)]
  rfl
 rw [hc,Option.bind_some,rev_s (by omega) hN,Option.bind_some,wA hN h.rev,Option.bind_some,rev_t (by simp [oA]; omega) hN,Option.bind_some]
 congr 1
 refine List.ext_getElem (by simp [oA,nG]) fun i a b=>?_
 have hi:i < l.length:=by simpa [nG] using b
 rw [List.getElem_reverse]
 simp only [oA,nG,List.length_map,List.length_range,List.length_reverse,List.getElem_map,List.getElem_range]
 have e1:l.reverse.getD (l.length - 1 - i) s00=l.getD i s00:=by
  rw [← cF (by rw [List.length_reverse]; omega),List.getElem_reverse,cF (d:=s00)]
  congr 1
  omega
 have e2:kI l.reverse (l.length - 1 - i)=kP l i:=by
  unfold kI kP
  rw [List.take_reverse,List.reverse_reverse]
  congr 2
  omega
 rw [e1,e2]
def oK (l:List aA) (most:Int) (i:Nat) (x:Int):Bool:=decide ((l.getD i s00).Lo≤x∧x≤(l.getD i s00).Hi) && decide (kI l i x + kP l i x≤most)
def fT (l:List aA) (most:Int) (i:Nat):aA:=⟨(eP (oK l most i) 601).1,(eP (oK l most i) 601).2⟩
def uB (l:List aA) (most:Int):List aA:=(List.range l.length).map (fT l most)
theorem wY {l:List aA} {G:List aA→Nat→Int→Int} {i:Nat} (hi:i < l.length):bG ((List.range l.length).map fun i=>bX (l.getD i s00) (G l i)) (i:Int)=some (bX (l.getD i s00) (G l i)):=by
 rw [qP (by simpa using hi)]
 simp
theorem aJr {N:Nat} (hN:700≤N) {l:List aA} (h:VL l) {most:Int} {i:Nat} (hi:i < l.length) :
  cN N (rY (fun (zz:Int × Int) (ix_:(Int × Int))=>hC N most (oA l) (nG l) (i:Int) zz.1 zz.2 ix_.1 ix_.2)) (.go (1,0))=some (.go ((fT l most i).Lo,(fT l most i).Hi)):=by
 have:=tH hN (rY (fun (zz:Int × Int) (ix_:(Int × Int))=>hC N most (oA l) (nG l) (i:Int) zz.1 zz.2 ix_.1 ix_.2)) (fun k=>.go (eP (oK l most i) k)) (fun k hk=>by
  show Option.map _ (hC N most (oA l) (nG l) (i:Int) (eP (oK l most i) k).1 (eP (oK l most i) k).2 (k:Int) ((k:Int) - 300))=_
  unfold hC
  have hP:(Option.bind (bG (oA l) (i:Int)) fun e_1=>Option.bind (inR (k:Int) 601) fun un=>cond ((e_1 (k:Int).toNat) != 1073741824) (Option.bind (bG (nG l) (i:Int)) fun e_2=>some (decide ((W ((e_1 (k:Int).toNat) + (e_2 (k:Int).toNat)))≤most))) (some false))=some (oK l most i ((k:Int) - 300)):=by
   unfold oA nG
   rw [wY hi,Option.bind_some,yP hk,Option.bind_some,Int.toNat_natCast,wY hi,Option.bind_some]
   unfold bX oK
   rw [if_pos hk,if_pos hk]
   by_cases hin:(l.getD i s00).Lo≤(k:Int) - 300∧(k:Int) - 300≤(l.getD i s00).Hi
   ·have b1:=aCs h hi hin.1 hin.2
    have b2:=aAs h hi hin.1 hin.2
    rw [if_pos hin,if_pos hin,dT hin,Bool.true_and,W_sm (by omega) (by omega)]
    have:(kI l i ((k:Int) - 300) != 1073741824)=true:=by simp; omega
    rw [this,cond_true]
   ·rw [if_neg hin,if_neg hin,dF hin,Bool.false_and]
    rfl
  rw [hP,Option.bind_some]
  rw [show eP (oK l most i) (k + 1)=if oK l most i ((k:Int) - 300)=true then (if (eP (oK l most i) k).2 < (eP (oK l most i) k).1 then (k:Int) - 300 else (eP (oK l most i) k).1,(k:Int) - 300) else eP (oK l most i) k from rfl]
  cases oK l most i ((k:Int) - 300) with
  | false=>rfl
  | true=>
   rw [if_pos rfl,cond_true]
   by_cases h:(eP (oK l most i) k).2 < (eP (oK l most i) k).1
   ·rw [dT h,if_pos h]
    rfl
   ·rw [dF h,if_neg h]
    rfl)
 exact this
theorem aJc {N:Nat} (hN:700≤N) {l:List aA} (h:VL l) {most:Int}:sP N l most=some (if (uB l most).all eD=true then (uB l most,true) else ([],false)):=by
 have h1:=h.l1
 have h32:=h.l32
 unfold sP
 rw [wA hN h,Option.bind_some,yT hN h,Option.bind_some]
 have:=aCg (ρ:=List aA × Bool) (fun i:Nat=>(((List.range i).map (fT l most),(i:Int)):List aA × Int)) (fun j=>cond (eD (fT l most j)) none (some ([],false))) l.length (fun s6=>kM N l most (oA l) (nG l) s6.1 s6.2) (fun i hi=>by
  show kM N l most (oA l) (nG l) ((List.range i).map (fT l most)) (i:Int)=_
  unfold kM
  rw [lR hi,cond_true,aJr hN h hi,Option.bind_some]
  show cond (decide ((fT l most i).Hi < (fT l most i).Lo)) _ _=_
  unfold eD
  by_cases hs:(fT l most i).Lo≤(fT l most i).Hi
  ·rw [dF (by omega),dT hs,cond_false,cond_true,lB (by simp; omega),Option.bind_some,fP (by omega),uE]
  ·rw [dT (by omega),dF hs,cond_true,cond_false]) (by
  show kM N l most (oA l) (nG l) _ (l.length:Int)=_
  unfold kM
  rw [mJ,cond_false]) l.length 0 N (by omega) (by omega)
 rw [show (([]:List aA),(0:Int))=((List.range 0).map (fT l most),((0:Nat):Int)) from rfl,this,firstG_range,Option.bind_some]
 have e:(List.range' 0 l.length).all (fun j=>eD (fT l most j))=(uB l most).all eD:=by
  unfold uB
  rw [List.all_map,List.range_eq_range']
  rfl
 rw [e]
 cases (uB l most).all eD <;> rfl
end Go.Nilo
