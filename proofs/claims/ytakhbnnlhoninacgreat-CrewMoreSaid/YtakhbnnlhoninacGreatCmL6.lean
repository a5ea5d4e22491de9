/-
  What the plain functions compute, in plain arithmetic, part 6. Conditions: what each theorem names.
-/
import Derived.Test.YtakhbnnlhoninacGreatCmL5
set_option linter.unusedSimpArgs false
set_option linter.unusedVariables false
namespace Go.Nilo
theorem aJb {α:Type} (A B:List α) (x y:α):(A++x::B).set A.length y=A++y::B:=by
 rw [List.set_append_right _ _ (Nat.le_refl _),Nat.sub_self]; rfl
theorem rep1:aV 700 [-1] 1=some [-1]:=by kernel_rfl
theorem rep2:aV 700 [-1] 2=some [-1,-1]:=by kernel_rfl
theorem rep3:aV 700 [-1] 3=some [-1,-1,-1]:=by kernel_rfl
theorem rep4:aV 700 [-1] 4=some [-1,-1,-1,-1]:=by kernel_rfl
theorem rep5:aV 700 [-1] 5=some [-1,-1,-1,-1,-1]:=by kernel_rfl
theorem rep6:aV 700 [-1] 6=some [-1,-1,-1,-1,-1,-1]:=by kernel_rfl
theorem rep7:aV 700 [-1] 7=some [-1,-1,-1,-1,-1,-1,-1]:=by kernel_rfl
theorem rep8:aV 700 [-1] 8=some [-1,-1,-1,-1,-1,-1,-1,-1]:=by kernel_rfl
theorem rep9:aV 700 [-1] 9=some [-1,-1,-1,-1,-1,-1,-1,-1,-1]:=by kernel_rfl
theorem rep10:aV 700 [-1] 10=some [-1,-1,-1,-1,-1,-1,-1,-1,-1,-1]:=by kernel_rfl
theorem rep11:aV 700 [-1] 11=some [-1,-1,-1,-1,-1,-1,-1,-1,-1,-1,-1]:=by kernel_rfl
theorem rep12:aV 700 [-1] 12=some [-1,-1,-1,-1,-1,-1,-1,-1,-1,-1,-1,-1]:=by kernel_rfl
theorem aF4 {k:Nat} (h1:1≤k) (h2:k≤12):aV 700 [-1] (k:Int)=some (List.replicate k (-1)):=by
 have:k=1 ∨ k=2 ∨ k=3 ∨ k=4 ∨ k=5 ∨ k=6 ∨ k=7 ∨ k=8 ∨ k=9 ∨ k=10 ∨ k=11 ∨ k=12:=by omega
 rcases this with rfl | rfl | rfl | rfl | rfl | rfl | rfl | rfl | rfl | rfl | rfl | rfl
 ·exact rep1
 ·exact rep2
 ·exact rep3
 ·exact rep4
 ·exact rep5
 ·exact rep6
 ·exact rep7
 ·exact rep8
 ·exact rep9
 ·exact rep10
 ·exact rep11
 ·exact rep12
abbrev aH5 (N:Nat):Prop:=∀ k:Nat,1≤k→k≤12→aV N [-1] (k:Int)=some (List.replicate k (-1))
def aCn (r:aB) (asg:List Int) (l:List aE):Prop:=∃ ks,SI r (fun _=>True) l asg ks
theorem aI1 {N:Nat} (hN:400≤N) {r:aB} {rank:Nat→Int} (s2:r.Stations.length≤12):bE (fun s5=>cT N ⟨r,rank⟩ s5.1 s5.2) N (0,List.replicate ((r.Stations.length:Nat):Int).toNat (none:Option (List (Int × Bool))))=some (.go ((r.Stations.length:Int),gB (List.replicate r.Stations.length []))):=by
 have hrun:=aF8 (ρ:=List Int × List aE) (fun i:Nat=>((i:Int),List.replicate i (some ([]:List (Int × Bool)))++List.replicate (r.Stations.length - i) none)) r.Stations.length (fun s5=>cT N ⟨r,rank⟩ s5.1 s5.2) (fun i hi=>by
  show cT N ⟨r,rank⟩ (i:Int) (List.replicate i (some ([]:List (Int × Bool)))++List.replicate (r.Stations.length - i) none)=_
  unfold cT
  dsimp only
  have e1:List.replicate (r.Stations.length - i) (none:Option (List (Int × Bool)))=none::List.replicate (r.Stations.length - (i + 1)) none:=by
   rw [show r.Stations.length - i=(r.Stations.length - (i + 1)) + 1 by omega,List.replicate_succ]
  rw [List.length_replicate,Int.toNat_natCast,kH hi,cond_true,e1,eM (by rw [List.length_append,List.length_replicate,List.length_cons]; omega),Option.bind_some,jZ (by omega),Int.toNat_natCast]
  have hs:=aJb (List.replicate i (some ([]:List (Int × Bool)))) (List.replicate (r.Stations.length - (i + 1)) none) none (some [])
  rw [List.length_replicate] at hs
  rw [hs,List.replicate_succ',List.append_assoc]
  rfl) (by
  show cT N ⟨r,rank⟩ _ _=_
  unfold cT
  dsimp only
  rw [List.length_replicate,Int.toNat_natCast,iE,cond_false]) (N:=N) (by omega)
 have hhad:List.replicate r.Stations.length (some ([]:List (Int × Bool)))++List.replicate (r.Stations.length - r.Stations.length) none=gB (List.replicate r.Stations.length []):=by
  rw [Nat.sub_self]
  unfold gB
  simp
 rw [hhad] at hrun
 have e0:((0:Int),List.replicate ((r.Stations.length:Nat):Int).toNat (none:Option (List (Int × Bool))))=(((0:Nat):Int),List.replicate 0 (some ([]:List (Int × Bool)))++List.replicate (r.Stations.length - 0) none):=by
  rw [Int.toNat_natCast]; rfl
 rw [e0,hrun]
theorem aG1 {r:aB} (h:fW r):SI r (fun q=>q < ((0:Nat):Int)) [] (List.replicate r.People.length (-1)) (List.replicate r.Stations.length []):=by
 have eA:∀ p,Asg (List.replicate r.People.length (-1)) p = -1:=fun p=>by
  unfold Asg
  simp only [List.getD,List.getElem?_replicate]
  split <;> rfl
 have eK:∀ s,Ks (List.replicate r.Stations.length ([]:List Int)) s=[]:=fun s=>by
  unfold Ks
  simp only [List.getD,List.getElem?_replicate]
  split <;> rfl
 refine ⟨by simp,by simp,fun s p hs hp=>?_,fun s hs p hp=>?_,fun s hs=>?_,fun s hs=>?_,fun p hp=>Or.inl (eA p),fun p hp hne=>absurd (eA p) hne,fun p hp hd=>?_,fun p hp _=>eA p,fun x hx=>(List.not_mem_nil hx).elim,List.nodup_nil,fun k hk=>absurd hk (Nat.not_lt_zero k)⟩
 ·rw [eA,eK]
  exact ⟨fun h=>(List.not_mem_nil h).elim,fun h=>by have:=hs.1; omega⟩
 ·rw [eK] at hp; exact (List.not_mem_nil hp).elim
 ·rw [eK]; exact List.nodup_nil
 ·rw [eK]
  have:=(h.sp _ (vH hs)).1
  simp only [List.length_nil]
  omega
 ·have:=hp.1; omega
theorem aJc {N:Nat} (hN:400≤N) {r:aB} {rank:Nat→Int} (hw:WOk r rank):∃ s ks,bE (fun s12=>cY N ⟨r,rank⟩ s12.1 s12.2.1 s12.2.2.1 s12.2.2.2) N (0,List.replicate r.People.length (-1),[],gB (List.replicate r.Stations.length []))=some (.go s)∧SI r (fun q=>q < (r.People.length:Int)) s.2.2.1 s.2.1 ks:=by
 have p2:=hw.ok.p2
 obtain ⟨s,hs,hI,ks,hS⟩:=oH (ρ:=List Int × List aE) (fun s12=>cY N ⟨r,rank⟩ s12.1 s12.2.1 s12.2.2.1 s12.2.2.2) (fun i s=>s.1=(i:Int)∧∃ ks,s.2.2.2=gB ks∧SI r (fun q=>q < (i:Int)) s.2.2.1 s.2.1 ks) r.People.length (fun i s hi hI=>by
  obtain ⟨x,asg,l,had⟩:=s
  obtain ⟨rfl,ks,rfl,hS⟩:=hI
  dsimp only at hS
  obtain ⟨l',asg',ks',h1,h2⟩:=aG9 hw N _ l asg ks (i:Int) hS ⟨by omega,by omega⟩ (by omega) (by omega)
  refine ⟨(W ((i:Int) + 1),asg',l',gB ks'),?_,jZ (by omega),ks',rfl,h2.congr fun p hp=>?_⟩
  ·show cY N ⟨r,rank⟩ (i:Int) asg l (gB ks)=_
   unfold cY
   dsimp only
   rw [kH hi,cond_true,h1,Option.bind_some]
  ·push_cast; omega) (fun s hI=>by
  show cY N ⟨r,rank⟩ s.1 s.2.1 s.2.2.1 s.2.2.2=_
  unfold cY
  dsimp only
  rw [hI.1,iE,cond_false,← hI.1]) r.People.length 0 (0,List.replicate r.People.length (-1),[],gB (List.replicate r.Stations.length [])) N (by omega) (by omega) ⟨rfl,_,rfl,aG1 hw.ok⟩
 exact ⟨s,ks,hs,hS.2⟩
theorem aB9 {σ ρ τ:Type} (s:σ) (f:σ→Option τ) (g:ρ→Option τ):exK (Ex.go s) f g=f s:=rfl
theorem aKu {n:Nat} (h:n≤1000000):inM (n:Int)=some ():=by
 unfold inM
 rw [if_pos ⟨by omega,by omega⟩]
theorem aGf {N:Nat} (hN:400≤N) (hrep:aH5 N) {r:aB} {rank:Nat→Int} (hw:WOk r rank):∃ asg l,jK N ⟨r,rank⟩=some (asg,l)∧aCn r asg l:=by
 obtain ⟨p1,p2,s1,s2,-⟩:=id hw.ok
 obtain ⟨s,ks,hs,hS⟩:=aJc hN hw
 refine ⟨s.2.1,s.2.2.1,?_,ks,hS.congr fun p hp=>⟨fun _=>trivial,fun _=>hp.2⟩⟩
 unfold jK
 rw [show inM (((⟨r,rank⟩:aT).Roster.Stations.length:Nat):Int)=some () from aKu (show r.Stations.length≤1000000 by omega),Option.bind_some]
 rw [show bE (fun s5=>cT N ⟨r,rank⟩ s5.1 s5.2) N (0,List.replicate (((⟨r,rank⟩:aT).Roster.Stations.length:Nat):Int).toNat (none:Option (List (Int × Bool))))=_ from aI1 hN s2,Option.bind_some]
 rw [aB9]
 rw [show aV N ([(-1)]:List Int) (((⟨r,rank⟩:aT).Roster.People.length:Nat):Int)=some (List.replicate r.People.length (-1)) from hrep _ p1 p2,Option.bind_some,hs,Option.bind_some,aB9]
theorem tE {N:Nat} (hN:400≤N) (hrep:aH5 N) {r:aB} (h:fW r):∃ asg l,gC N r=some (asg,0)∧aCn r asg l:=by
 obtain ⟨rank,h1,h2⟩:=aGa (N:=N) (by omega) h
 obtain ⟨asg,l,h3,h4⟩:=aGf hN hrep ⟨h,h2⟩
 refine ⟨asg,l,?_,h4⟩
 unfold gC
 rw [h1,Option.bind_some]
 simp only [aEi,bne_self_eq_false,cond_false]
 rw [h3]
 rfl
end Go.Nilo
