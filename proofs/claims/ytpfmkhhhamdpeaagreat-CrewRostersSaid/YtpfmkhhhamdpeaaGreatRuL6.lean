/-
  What the plain functions compute, in plain arithmetic, part 6. Conditions: what each theorem names.
-/
import Derived.Test.YtpfmkhhhamdpeaaGreatRuL5
set_option linter.unusedSimpArgs false
set_option linter.unusedVariables false
namespace Go.Nilo
theorem aH8 {α:Type} (A B:List α) (x y:α):(A++x::B).set A.length y=A++y::B:=by
 rw [List.set_append_right _ _ (Nat.le_refl _),Nat.sub_self]; rfl
theorem rep1:aZ 700 [-1] 1=some [-1]:=by kernel_rfl
theorem rep2:aZ 700 [-1] 2=some [-1,-1]:=by kernel_rfl
theorem rep3:aZ 700 [-1] 3=some [-1,-1,-1]:=by kernel_rfl
theorem rep4:aZ 700 [-1] 4=some [-1,-1,-1,-1]:=by kernel_rfl
theorem rep5:aZ 700 [-1] 5=some [-1,-1,-1,-1,-1]:=by kernel_rfl
theorem rep6:aZ 700 [-1] 6=some [-1,-1,-1,-1,-1,-1]:=by kernel_rfl
theorem rep7:aZ 700 [-1] 7=some [-1,-1,-1,-1,-1,-1,-1]:=by kernel_rfl
theorem rep8:aZ 700 [-1] 8=some [-1,-1,-1,-1,-1,-1,-1,-1]:=by kernel_rfl
theorem rep9:aZ 700 [-1] 9=some [-1,-1,-1,-1,-1,-1,-1,-1,-1]:=by kernel_rfl
theorem rep10:aZ 700 [-1] 10=some [-1,-1,-1,-1,-1,-1,-1,-1,-1,-1]:=by kernel_rfl
theorem rep11:aZ 700 [-1] 11=some [-1,-1,-1,-1,-1,-1,-1,-1,-1,-1,-1]:=by kernel_rfl
theorem rep12:aZ 700 [-1] 12=some [-1,-1,-1,-1,-1,-1,-1,-1,-1,-1,-1,-1]:=by kernel_rfl
theorem aIp {k:Nat} (h1:1≤k) (h2:k≤12):aZ 700 [-1] (k:Int)=some (List.replicate k (-1)):=by
 have:k=1 ∨ k=2 ∨ k=3 ∨ k=4 ∨ k=5 ∨ k=6 ∨ k=7 ∨ k=8 ∨ k=9 ∨ k=10 ∨ k=11 ∨ k=12:=by omega
 rcases this with rfl | rfl | rfl | rfl | rfl | rfl | rfl | rfl | rfl | rfl | rfl | rfl
 ·exact rep1
 ·exact rep2
 ·exact rep3
 ·exact rep4
 ·exact rep5
 ·exact rep6
 ·exact rep7
 ·exact rep8
 ·exact rep9
 ·exact rep10
 ·exact rep11
 ·exact rep12
abbrev aMq (N:Nat):Prop:=∀ k:Nat,1≤k→k≤12→aZ N [-1] (k:Int)=some (List.replicate k (-1))
def sQ (r:aB) (asg:List Int) (l:List aC):Prop:=∃ ks,SI r (fun _=>True) l asg ks
theorem aL1 {N:Nat} (hN:400≤N) {r:aB} {rank:Nat→Int} (s2:r.Stations.length≤12):aS (fun s5=>dL N ⟨r,rank⟩ s5.1 s5.2) N (0,List.replicate ((r.Stations.length:Nat):Int).toNat (none:Option (List (Int × Bool))))=some (.go ((r.Stations.length:Int),iW (List.replicate r.Stations.length []))):=by
 have hrun:=vS (ρ:=List Int × List aC) (fun i:Nat=>((i:Int),List.replicate i (some ([]:List (Int × Bool)))++List.replicate (r.Stations.length - i) none)) r.Stations.length (fun s5=>dL N ⟨r,rank⟩ s5.1 s5.2) (fun i hi=>by
  show dL N ⟨r,rank⟩ (i:Int) (List.replicate i (some ([]:List (Int × Bool)))++List.replicate (r.Stations.length - i) none)=_
  unfold dL
  dsimp only
  have e1:List.replicate (r.Stations.length - i) (none:Option (List (Int × Bool)))=none::List.replicate (r.Stations.length - (i + 1)) none:=by
   rw [show r.Stations.length - i=(r.Stations.length - (i + 1)) + 1 by omega,List.replicate_succ]
  rw [List.length_replicate,Int.toNat_natCast,cM hi,cond_true,e1,bS (by rw [List.length_append,List.length_replicate,List.length_cons]; omega),Option.bind_some,cI (by omega),Int.toNat_natCast]
  have hs:=aH8 (List.replicate i (some ([]:List (Int × Bool)))) (List.replicate (r.Stations.length - (i + 1)) none) none (some [])
  rw [List.length_replicate] at hs
  rw [hs,List.replicate_succ',List.append_assoc]
  rfl) (by
  show dL N ⟨r,rank⟩ _ _=_
  unfold dL
  dsimp only
  rw [List.length_replicate,Int.toNat_natCast,cJ,cond_false]) (N:=N) (by omega)
 have hhad:List.replicate r.Stations.length (some ([]:List (Int × Bool)))++List.replicate (r.Stations.length - r.Stations.length) none=iW (List.replicate r.Stations.length []):=by
  rw [Nat.sub_self]
  unfold iW
  simp
 rw [hhad] at hrun
 have e0:((0:Int),List.replicate ((r.Stations.length:Nat):Int).toNat (none:Option (List (Int × Bool))))=(((0:Nat):Int),List.replicate 0 (some ([]:List (Int × Bool)))++List.replicate (r.Stations.length - 0) none):=by
  rw [Int.toNat_natCast]; rfl
 rw [e0,hrun]
theorem aGi {r:aB} (h:gY r):SI r (fun q=>q < ((0:Nat):Int)) [] (List.replicate r.People.length (-1)) (List.replicate r.Stations.length []):=by
 have eA:∀ p,Asg (List.replicate r.People.length (-1)) p = -1:=fun p=>by
  unfold Asg
  simp only [List.getD,List.getElem?_replicate]
  split <;> rfl
 have eK:∀ s,Ks (List.replicate r.Stations.length ([]:List Int)) s=[]:=fun s=>by
  unfold Ks
  simp only [List.getD,List.getElem?_replicate]
  split <;> rfl
 refine ⟨by simp,by simp,fun s p hs hp=>?_,fun s hs p hp=>?_,fun s hs=>?_,fun s hs=>?_,fun p hp=>Or.inl (eA p),fun p hp hne=>absurd (eA p) hne,fun p hp hd=>?_,fun p hp _=>eA p,fun x hx=>(List.not_mem_nil hx).elim,List.nodup_nil,fun k hk=>absurd hk (Nat.not_lt_zero k)⟩
 ·rw [eA,eK]
  exact ⟨fun h=>(List.not_mem_nil h).elim,fun h=>by have:=hs.1; omega⟩
 ·rw [eK] at hp; exact (List.not_mem_nil hp).elim
 ·rw [eK]; exact List.nodup_nil
 ·rw [eK]
  have:=(h.sp _ (aCb hs)).1
  simp only [List.length_nil]
  omega
 ·have:=hp.1; omega
theorem aL7 {N:Nat} (hN:400≤N) {r:aB} {rank:Nat→Int} (hw:WOk r rank):∃ s ks,aS (fun s12=>dU N ⟨r,rank⟩ s12.1 s12.2.1 s12.2.2.1 s12.2.2.2) N (0,List.replicate r.People.length (-1),[],iW (List.replicate r.Stations.length []))=some (.go s)∧SI r (fun q=>q < (r.People.length:Int)) s.2.2.1 s.2.1 ks:=by
 have p2:=hw.ok.p2
 obtain ⟨s,hs,hI,ks,hS⟩:=tV (ρ:=List Int × List aC) (fun s12=>dU N ⟨r,rank⟩ s12.1 s12.2.1 s12.2.2.1 s12.2.2.2) (fun i s=>s.1=(i:Int)∧∃ ks,s.2.2.2=iW ks∧SI r (fun q=>q < (i:Int)) s.2.2.1 s.2.1 ks) r.People.length (fun i s hi hI=>by
  obtain ⟨x,asg,l,had⟩:=s
  obtain ⟨rfl,ks,rfl,hS⟩:=hI
  dsimp only at hS
  obtain ⟨l',asg',ks',h1,h2⟩:=aJ3 hw N _ l asg ks (i:Int) hS ⟨by omega,by omega⟩ (by omega) (by omega)
  refine ⟨(W ((i:Int) + 1),asg',l',iW ks'),?_,cI (by omega),ks',rfl,h2.congr fun p hp=>?_⟩
  ·show dU N ⟨r,rank⟩ (i:Int) asg l (iW ks)=_
   unfold dU
   dsimp only
   rw [cM hi,cond_true,h1,Option.bind_some]
  ·push_cast; omega) (fun s hI=>by
  show dU N ⟨r,rank⟩ s.1 s.2.1 s.2.2.1 s.2.2.2=_
  unfold dU
  dsimp only
  rw [hI.1,cJ,cond_false,← hI.1]) r.People.length 0 (0,List.replicate r.People.length (-1),[],iW (List.replicate r.Stations.length [])) N (by omega) (by omega) ⟨rfl,_,rfl,aGi hw.ok⟩
 exact ⟨s,ks,hs,hS.2⟩
theorem aEx {σ ρ τ:Type} (s:σ) (f:σ→Option τ) (g:ρ→Option τ):exK (Ex.go s) f g=f s:=rfl
theorem aKx {n:Nat} (h:n≤1000000):inM (n:Int)=some ():=by
 unfold inM
 rw [if_pos ⟨by omega,by omega⟩]
theorem aIu {N:Nat} (hN:400≤N) (hrep:aMq N) {r:aB} {rank:Nat→Int} (hw:WOk r rank):∃ asg l,kH N ⟨r,rank⟩=some (asg,l)∧sQ r asg l:=by
 obtain ⟨p1,p2,s1,s2,-⟩:=id hw.ok
 obtain ⟨s,ks,hs,hS⟩:=aL7 hN hw
 refine ⟨s.2.1,s.2.2.1,?_,ks,hS.congr fun p hp=>⟨fun _=>trivial,fun _=>hp.2⟩⟩
 unfold kH
 rw [show inM (((⟨r,rank⟩:aV).Roster.Stations.length:Nat):Int)=some () from aKx (show r.Stations.length≤1000000 by omega),Option.bind_some]
 rw [show aS (fun s5=>dL N ⟨r,rank⟩ s5.1 s5.2) N (0,List.replicate (((⟨r,rank⟩:aV).Roster.Stations.length:Nat):Int).toNat (none:Option (List (Int × Bool))))=_ from aL1 hN s2,Option.bind_some]
 rw [aEx]
 rw [show aZ N ([(-1)]:List Int) (((⟨r,rank⟩:aV).Roster.People.length:Nat):Int)=some (List.replicate r.People.length (-1)) from hrep _ p1 p2,Option.bind_some,hs,Option.bind_some,aEx]
theorem aIr {N:Nat} (hN:400≤N) (hrep:aMq N) {r:aB} (h:gY r):∃ asg l,lI N r=some (asg,0)∧kC N r=some (l,0)∧sQ r asg l:=by
 obtain ⟨rank,h1,h2⟩:=xV (N:=N) (by omega) h
 obtain ⟨asg,l,h3,h4⟩:=aIu hN hrep ⟨h,h2⟩
 refine ⟨asg,l,?_,?_,h4⟩
 ·unfold lI
  rw [h1,Option.bind_some]
  simp only [aB0,bne_self_eq_false,cond_false]
  rw [h3]
  rfl
 ·unfold kC
  rw [h1,Option.bind_some]
  simp only [aB0,bne_self_eq_false,cond_false]
  rw [h3]
  rfl
end Go.Nilo
