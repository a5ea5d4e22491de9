/-
  What the plain functions compute, in plain arithmetic, part 8. Conditions: what each theorem names.
-/
import Derived.Test.YtofihdjdhecfdaaGreatDrL7
set_option linter.unusedSimpArgs false
set_option linter.unusedVariables false
namespace Go.Nilo
def aBr {α:Type} (d:α) (xs:List α) (k:Nat):List α:=(List.range xs.length).map fun m=>if m < k ∨ xs.length≤m + k then xs.getD (xs.length - 1 - m) d else xs.getD m d
theorem sI {α:Type} {d:α} {xs:List α} {k:Nat}:(aBr d xs k).length=xs.length:=by simp [aBr]
theorem uH {α:Type} {d:α} {xs:List α} {k m:Nat} (h:m < (aBr d xs k).length):(aBr d xs k)[m]=if m < k ∨ xs.length≤m + k then xs.getD (xs.length - 1 - m) d else xs.getD m d:=by
 simp [aBr]
theorem aGw {α:Type} {d:α} {xs:List α} {k:Nat} (h:k + k + 1 < xs.length):((aBr d xs k).set k (xs.getD (xs.length - 1 - k) d)).set (xs.length - 1 - k) (xs.getD k d)=aBr d xs (k + 1):=by
 refine List.ext_getElem (by simp [sI]) fun m h1 h2=>?_
 rw [List.getElem_set,List.getElem_set,uH,uH]
 have hm:m < xs.length:=by rwa [sI] at h2
 by_cases e1:xs.length - 1 - k=m
 ·rw [if_pos e1,if_pos (by omega),show xs.length - 1 - m=k by omega]
 ·rw [if_neg e1]
  by_cases e2:k=m
  ·rw [if_pos e2,if_pos (by omega),e2]
  ·rw [if_neg e2]
   by_cases e3:m < k ∨ xs.length≤m + k
   ·rw [if_pos e3,if_pos (by omega)]
   ·rw [if_neg e3,if_neg (by omega)]
theorem aIp {α:Type} {d:α} {xs:List α}:aBr d xs (xs.length / 2)=xs.reverse:=by
 refine List.ext_getElem (by simp [sI]) fun m h1 h2=>?_
 have hm:m < xs.length:=by rwa [sI] at h1
 rw [uH,List.getElem_reverse,cF (d:=d)]
 by_cases e3:m < xs.length / 2 ∨ xs.length≤m + xs.length / 2
 ·rw [if_pos e3]
 ·rw [if_neg e3,show xs.length - 1 - m=m by omega]
theorem aHh {α:Type} {d:α} {xs:List α}:aBr d xs 0=xs:=by
 refine List.ext_getElem (by simp [sI]) fun m h1 h2=>?_
 rw [uH,if_neg (by omega),cF (d:=d)]
theorem aEb {α ρ:Type} (d:α) (b:List α × Int × Int→Option (cY (List α × Int × Int) ρ)) (hb:∀ s i j,b (s,i,j)=cond (decide (i < j)) (Option.bind (bG s j) fun e1=>Option.bind (bG s i) fun e2=>Option.bind (bG s i) fun _=>Option.bind (bG s j) fun _=>some (.cont ((s.set i.toNat e1).set j.toNat e2,W (i + 1),W (j - 1)))) (some (.brk (s,i,j))))
  {N:Nat} {xs:List α} (hl:xs.length≤1000) (hN:xs.length < N):∃ i j,bE b N (xs,0,W (((xs.length:Nat):Int) - 1))=some (.go (xs.reverse,i,j)):=by
 have:=uM (fun k:Nat=>(aBr d xs k,(k:Int),(xs.length:Int) - 1 - k)) (xs.length / 2) b (fun k hk=>by
  have hg:∀ m,m < xs.length→bG (aBr d xs k) (m:Int)=some (if m < k ∨ xs.length≤m + k then xs.getD (xs.length - 1 - m) d else xs.getD m d):=fun m hm=>by
   rw [qP (by rw [sI]; exact hm),uH]
  rw [hb,decide_eq_true (by omega),cond_true,show (xs.length:Int) - 1 - (k:Int)=((xs.length - 1 - k:Nat):Int) by omega,hg _ (by omega),hg _ (by omega),if_neg (by omega),if_neg (by omega)]
  simp only [Option.bind_some,Int.toNat_natCast]
  rw [aGw (by omega),fP (by omega),oT (by omega) (by omega),show ((xs.length - 1 - k:Nat):Int) - 1=(xs.length:Int) - 1 - ((k + 1:Nat):Int) by omega]) (by
  rw [hb,decide_eq_false (by omega),cond_false]) (N:=N) (by omega)
 rw [aHh,aIp] at this
 rw [oT (by omega) (by omega)]
 refine ⟨_,_,Eq.trans ?_ this⟩
 congr 1
 simp

end Go.Nilo
