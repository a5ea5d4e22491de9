/-
  What the plain functions compute, in plain arithmetic, part 11. Conditions: what each theorem names.
-/
import Derived.Test.YtakhbnnlhoninacGreatCmL10
set_option linter.unusedSimpArgs false
set_option linter.unusedVariables false
namespace Go.Nilo
theorem aI4 {L:List Int} (hn:L.Nodup) {i j:Nat} (hi:i < L.length) (hj:j < L.length):(((L.set i L[j]).set j L[i]).Nodup)∧∀ x ∈ (L.set i L[j]).set j L[i],x ∈ L:=by
 have hg:∀ k (hk:k < ((L.set i L[j]).set j L[i]).length),∃ m,∃ hm:m < L.length,((L.set i L[j]).set j L[i])[k]=L[m]∧m=(if k=j then i else if k=i then j else k):=fun k hk=>by
  have hk':k < L.length:=by simpa using hk
  rw [List.getElem_set]
  by_cases h1:j=k
  ·subst h1
   exact ⟨i,hi,by rw [if_pos rfl],by rw [if_pos rfl]⟩
  ·rw [if_neg h1,List.getElem_set]
   by_cases h2:i=k
   ·subst h2
    exact ⟨j,hj,by rw [if_pos rfl],by rw [if_neg (fun e=>h1 e.symm),if_pos rfl]⟩
   ·exact ⟨k,hk',by rw [if_neg h2],by rw [if_neg (fun e=>h1 e.symm),if_neg (fun e=>h2 e.symm)]⟩
 constructor
 ·rw [List.nodup_iff_pairwise_ne,List.pairwise_iff_getElem]
  intro a b ha hb hab he
  obtain ⟨m,hm,e1,e2⟩:=hg a ha
  obtain ⟨n,hn',f1,f2⟩:=hg b hb
  rw [e1,f1] at he
  have:=(List.getElem_inj hn (h₀:=hm) (h₁:=hn')).1 he
  rw [e2,f2] at this
  split at this <;> split at this <;> (try split at this) <;> (try split at this) <;> omega
 ·intro x hx
  obtain ⟨k,hk,rfl⟩:=List.getElem_of_mem hx
  obtain ⟨m,hm,e1,-⟩:=hg k hk
  rw [e1]
  exact List.getElem_mem hm
theorem aIx {N:Nat} (hN:60≤N) {numbers:List Int} (hb:vP numbers) {u m:Int} {k n:Nat} (hk:k≤10000) (hn:n≤20) (hs:SOk u m k):∃ out u' m' k',sI N ⟨numbers,u,m⟩ (n:Int)=some (out,u',m')∧SOk u' m' k'∧k'≤k + n∧out.length=n∧out.Nodup∧∀ x ∈ out,0≤x∧x < (n:Int):=by
 unfold sI
 obtain ⟨s,g1,g2,g3,g4,g5,g6⟩:=oH (ρ:=List Int × Int × Int) (fun s5=>jV N ⟨numbers,u,m⟩ (n:Int) s5.1 s5.2.1 s5.2.2.1 s5.2.2.2) (fun i s=>s.2.1=(i:Int)∧s.1.length=i∧s.1.Nodup∧(∀ x ∈ s.1,0≤x∧x < (i:Int))∧SOk s.2.2.1 s.2.2.2 (k + i)) n (fun i s hi hI=>by
  obtain ⟨out,x,p,q⟩:=s
  obtain ⟨rfl,f1,f2,f3,f4⟩:=hI
  dsimp only at f1 f2 f3 f4
  have hW:W ((i:Int) + 1)=((i + 1:Nat):Int):=jZ (by omega)
  obtain ⟨r,v,w,r1,r2,r3,r4⟩:=vE (N:=N) hb (n:=((i + 1:Nat):Int)) f4 (by omega)
  obtain ⟨j,rfl⟩:=Int.eq_ofNat_of_zero_le r2
  have hj:j < (out++[(i:Int)]).length:=by rw [List.length_append,f1,List.length_cons,List.length_nil]; omega
  have hi2:i < (out++[(i:Int)]).length:=by rw [List.length_append,f1,List.length_cons,List.length_nil]; omega
  have hnd:(out++[(i:Int)]).Nodup:=by
   rw [List.nodup_append]
   exact ⟨f2,by simp,fun a ha b hb' e=>by rw [List.mem_singleton.1 hb'] at e; have:=(f3 a ha).2; omega⟩
  have hsw:=aI4 hnd hi2 hj
  refine ⟨(((out++[(i:Int)]).set i (out++[(i:Int)])[j]).set j (out++[(i:Int)])[i],((i + 1:Nat):Int),v,w),?_,rfl,?_,hsw.1,fun x hx=>?_,?_⟩
  ·show jV N ⟨numbers,u,m⟩ (n:Int) out (i:Int) p q=_
   unfold jV
   dsimp only
   rw [show decide ((i:Int) < (n:Int))=true by rw [decide_eq_true_eq]; omega,cond_true,hW,r1,Option.bind_some,mH (by rw [List.length_append,f1,List.length_cons,List.length_nil]; omega),Option.bind_some,eM hj,Option.bind_some,eM hi2,Option.bind_some,Option.bind_some,Option.bind_some,Int.toNat_natCast,Int.toNat_natCast]
  ·dsimp only
   rw [List.length_set,List.length_set,List.length_append,f1]; rfl
  ·have:=hsw.2 x hx
   push_cast
   rcases List.mem_append.1 this with h | h
   ·have:=f3 x h; omega
   ·rw [List.mem_singleton.1 h]; omega
  ·have:k + (i + 1)=k + i + 1:=by omega
   dsimp only
   rw [this]; exact r4) (fun s hI=>by
  show jV N ⟨numbers,u,m⟩ (n:Int) s.1 s.2.1 s.2.2.1 s.2.2.2=_
  unfold jV
  dsimp only
  rw [hI.1,iE,cond_false,← hI.1]) n 0 ([],0,u,m) N (by omega) (by omega) ⟨rfl,rfl,List.nodup_nil,fun x hx=>(List.not_mem_nil hx).elim,hs⟩
 dsimp only
 rw [g1,Option.bind_some]
 exact ⟨_,_,_,_,rfl,g6,by omega,g3,g4,g5⟩
theorem xW {N:Nat} (hN:60≤N) {numbers:List Int} (hb:vP numbers) {u m:Int} {k n:Nat} (hk:k≤9000) (hn:n≤20) (hs:SOk u m k):∃ out u' m' k',jW N ⟨numbers,u,m⟩ (n:Int)=some (out,u',m')∧SOk u' m' k'∧k'≤k + 2 * n∧out.length≤n∧out.Nodup∧∀ x ∈ out,0≤x∧x < (n:Int):=by
 obtain ⟨M,u1,m1,k1,a1,a2,a3,a4,a5,a6⟩:=aIx hN hb (by omega) hn hs
 unfold jW
 rw [a1,Option.bind_some]
 obtain ⟨s,g1,g2,g3,g4⟩:=oH (ρ:=List Int × Int × Int) (fun s5=>gM N ⟨numbers,u,m⟩ (M,u1,m1) s5.1 s5.2.1 s5.2.2.1 s5.2.2.2) (fun i s=>s.2.1=(i:Int)∧s.1.Sublist (M.take i)∧SOk s.2.2.1 s.2.2.2 (k1 + i)) M.length (fun i s hi hI=>by
  obtain ⟨out,x,p,q⟩:=s
  obtain ⟨rfl,f1,f2⟩:=hI
  dsimp only at f1 f2
  have hol:=f1.length_le
  rw [List.length_take] at hol
  obtain ⟨r,v,w,r1,r2,r3,r4⟩:=vE (N:=N) hb (n:=5) f2 (by omega)
  have hso:SOk v w (k1 + (i + 1)):=by
   have:k1 + (i + 1)=k1 + i + 1:=by omega
   rw [this]; exact r4
  show ∃ s',gM N ⟨numbers,u,m⟩ (M,u1,m1) out (i:Int) p q=_∧_
  unfold gM kK
  dsimp only
  rw [kH hi,cond_true,eM hi,Option.bind_some,r1,Option.bind_some,jZ (by omega),List.take_succ_eq_append_getElem hi]
  by_cases h:0 < r
  ·dsimp only
   rw [decide_eq_true h,cond_true,mH (by rw [List.length_append,List.length_cons,List.length_nil]; omega),Option.bind_some]
   exact ⟨_,rfl,rfl,List.Sublist.append f1 (List.Sublist.refl _),hso⟩
  ·dsimp only
   rw [decide_eq_false h,cond_false]
   exact ⟨_,rfl,rfl,f1.trans (List.sublist_append_left _ _),hso⟩) (fun s hI=>by
  show gM N ⟨numbers,u,m⟩ (M,u1,m1) s.1 s.2.1 s.2.2.1 s.2.2.2=_
  unfold gM
  dsimp only
  rw [hI.1,iE,cond_false,← hI.1]) M.length 0 ([],0,u1,m1) N (by omega) (by omega) ⟨rfl,List.Sublist.refl _,a2⟩
 rw [List.take_length] at g3
 dsimp only
 rw [g1,Option.bind_some]
 refine ⟨_,_,_,_,rfl,g4,by omega,by have:=g3.length_le; omega,a5.sublist g3,fun x hx=>a6 x (g3.subset hx)⟩
theorem aIz {N:Nat} (hN:60≤N) {numbers:List Int} (hb:vP numbers) {most:Int} (h1:1≤most) (h2:most≤12) {u m:Int} {k:Nat} (hk:k≤1000) (hs:SOk u m k):∃ r u' m' k',qK N ⟨numbers,u,m⟩ most=some (r,u',m')∧fW r∧SOk u' m' k'∧k'≤k + 1000∧np r≤most∧ns r≤most∧∀ x ∈ r.Stations,x.Places≤3:=by
 unfold qK
 obtain ⟨a,u1,m1,a1,a2,a3,a4⟩:=uF (N:=N) hb (lo:=1) (hi:=most) hs (by omega) (by omega) (by omega) h1
 rw [a1,Option.bind_some]
 obtain ⟨b,u2,m2,b1,b2,b3,b4⟩:=uF (N:=N) hb (lo:=1) (hi:=most) a4 (by omega) (by omega) (by omega) h1
 dsimp only
 rw [b1,Option.bind_some]
 obtain ⟨pn,rfl⟩:=Int.eq_ofNat_of_zero_le (show 0≤a by omega)
 obtain ⟨sn,rfl⟩:=Int.eq_ofNat_of_zero_le (show 0≤b by omega)
 obtain ⟨s,g1,g2,g3,g4,k1,g5,g6⟩:=oH (ρ:=aB × Int × Int) (fun s6=>iP N ⟨numbers,u,m⟩ ((pn:Int),u1,m1) ((sn:Int),u2,m2) s6.1 s6.2.1 s6.2.2.1 s6.2.2.2) (fun i s=>s.1=(i:Int)∧s.2.2.2.length=i∧(∀ l ∈ s.2.2.2,l.Nodup∧∀ x ∈ l,0≤x∧x < (sn:Int))∧∃ k',k'≤k + 2 + 24 * i∧SOk s.2.1 s.2.2.1 k') pn (fun i s hi hI=>by
  obtain ⟨x,p,q,l⟩:=s
  obtain ⟨rfl,f1,f2,k',f3,f4⟩:=hI
  dsimp only at f1 f2 f4
  obtain ⟨out,v,w,k2,c1,c2,c3,c4,c5,c6⟩:=xW (N:=N) hN hb (n:=sn) (by omega) (by omega) f4
  refine ⟨(((i + 1:Nat):Int),v,w,l++[out]),?_,rfl,by dsimp only; rw [List.length_append,f1]; rfl,fun y hy=>?_,k2,by omega,c2⟩
  ·show iP N ⟨numbers,u,m⟩ ((pn:Int),u1,m1) ((sn:Int),u2,m2) (i:Int) p q l=_
   unfold iP
   dsimp only
   rw [show decide ((i:Int) < (pn:Int))=true by rw [decide_eq_true_eq]; omega,cond_true,c1,Option.bind_some,mH (by rw [List.length_append,f1,List.length_cons,List.length_nil]; omega),Option.bind_some,jZ (by omega)]
  ·rcases List.mem_append.1 hy with h | h
   ·exact f2 y h
   ·rw [List.mem_singleton.1 h]; exact ⟨c5,c6⟩) (fun s hI=>by
  show iP N ⟨numbers,u,m⟩ ((pn:Int),u1,m1) ((sn:Int),u2,m2) s.1 s.2.1 s.2.2.1 s.2.2.2=_
  unfold iP
  dsimp only
  rw [hI.1,iE,cond_false,← hI.1]) pn 0 (0,u2,m2,[]) N (by omega) (by omega) ⟨rfl,rfl,fun l hl=>(List.not_mem_nil hl).elim,k + 1 + 1,by omega,b4⟩
 rw [g1,Option.bind_some]
 simp only [exK]
 obtain ⟨t,e1,e2,e3,e4,k3,e5,e6⟩:=oH (ρ:=aB × Int × Int) (fun s9=>iN N ⟨numbers,u,m⟩ ((pn:Int),u1,m1) ((sn:Int),u2,m2) s9.1 s9.2.1 s9.2.2.1 s9.2.2.2) (fun i s=>s.1=(i:Int)∧s.2.2.2.length=i∧(∀ x ∈ s.2.2.2,(1≤x.Places∧x.Places≤3)∧x.Order.Nodup∧∀ y ∈ x.Order,0≤y∧y < (pn:Int))∧∃ k',k'≤k + 2 + 24 * pn + 25 * i∧SOk s.2.1 s.2.2.1 k') sn (fun i s hi hI=>by
  obtain ⟨x,p,q,l⟩:=s
  obtain ⟨rfl,f1,f2,k',f3,f4⟩:=hI
  dsimp only at f1 f2 f4
  obtain ⟨pl,v0,w0,d1,d2,d3,d4⟩:=uF (N:=N) hb (lo:=1) (hi:=3) f4 (by omega) (by omega) (by omega) (by omega)
  obtain ⟨out,v,w,k2,c1,c2,c3,c4,c5,c6⟩:=xW (N:=N) hN hb (n:=pn) (by omega) (by omega) d4
  refine ⟨(((i + 1:Nat):Int),v,w,l++[⟨pl,out⟩]),?_,rfl,by dsimp only; rw [List.length_append,f1]; rfl,fun y hy=>?_,k2,by omega,c2⟩
  ·show iN N ⟨numbers,u,m⟩ ((pn:Int),u1,m1) ((sn:Int),u2,m2) (i:Int) p q l=_
   unfold iN
   dsimp only
   rw [show decide ((i:Int) < (sn:Int))=true by rw [decide_eq_true_eq]; omega,cond_true,d1,Option.bind_some]
   dsimp only
   rw [c1,Option.bind_some,mH (by rw [List.length_append,f1,List.length_cons,List.length_nil]; omega),Option.bind_some,jZ (by omega)]
  ·rcases List.mem_append.1 hy with h | h
   ·exact f2 y h
   ·rw [List.mem_singleton.1 h]; exact ⟨⟨d2,by dsimp only; omega⟩,c5,c6⟩) (fun s hI=>by
  show iN N ⟨numbers,u,m⟩ ((pn:Int),u1,m1) ((sn:Int),u2,m2) s.1 s.2.1 s.2.2.1 s.2.2.2=_
  unfold iN
  dsimp only
  rw [hI.1,iE,cond_false,← hI.1]) sn 0 (0,s.2.1,s.2.2.1,[]) N (by omega) (by omega) ⟨rfl,rfl,fun l hl=>(List.not_mem_nil hl).elim,k1,by omega,g6⟩
 rw [e1,Option.bind_some]
 refine ⟨_,_,_,k3,rfl,⟨by show 1≤s.2.2.2.length; omega,by show s.2.2.2.length≤12; omega,by show 1≤t.2.2.2.length; omega,by show t.2.2.2.length≤12; omega,fun l hl=>(g4 l hl).1,fun l hl x hx=>?_,fun x hx=>⟨(e4 x hx).1.1,by have:=(e4 x hx).1.2; omega⟩,fun x hx=>(e4 x hx).2.1,fun x hx y hy=>?_⟩,e6,by omega,by show ((s.2.2.2.length:Nat):Int)≤most; omega,by show ((t.2.2.2.length:Nat):Int)≤most; omega,fun x hx=>(e4 x hx).1.2⟩
 ·have:=(g4 l hl).2 x hx
  show 0≤x∧x < ((t.2.2.2.length:Nat):Int)
  rw [e3]; exact this
 ·have:=(e4 x hx).2.2 y hy
  show 0≤y∧y < ((s.2.2.2.length:Nat):Int)
  rw [g3]; exact this
end Go.Nilo
