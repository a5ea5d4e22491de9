/-
  What the plain functions compute, in plain arithmetic, part 9. Conditions: what each theorem names.
-/
import Derived.Test.YtpfmkhhhamdpeaaGreatRuL8
set_option linter.unusedSimpArgs false
set_option linter.unusedVariables false
namespace Go.Nilo
theorem aHi {σ ρ:Type} {f:σ→Option (bK σ ρ)} (Inv Post:σ→Prop) (μ:σ→Nat) (h:∀ s,Inv s→(∃ s',f s=some (.brk s')∧Post s') ∨ (∃ s',f s=some (.cont s')∧Inv s'∧μ s' < μ s)):∀ (N:Nat) (s:σ),Inv s→μ s < N→∃ s',aS f N s=some (.go s')∧Post s'
 | 0,s,_,hN=>by omega
 | N + 1,s,hs,hN=>by
  unfold aS
  rcases h s hs with ⟨s',h1,h2⟩ | ⟨s',h1,h2,h3⟩
  ·exact ⟨s',by rw [h1],h2⟩
  ·obtain ⟨s'',h4,h5⟩:=aHi Inv Post μ h N s' h2 (by omega)
   exact ⟨s'',by rw [h1]; exact h4,h5⟩
theorem aC0 {r:aB} {b:List Int} {s:Int} {i:Nat} (hi:i < r.People.length):((ppl r).take (i + 1)).filter (fun p=>Asg b p == s)=((ppl r).take i).filter (fun p=>Asg b p == s)++(if Asg b (i:Int)=s then [(i:Int)] else []):=by
 have hl:i < (ppl r).length:=by simpa [ppl] using hi
 rw [List.take_succ_eq_append_getElem hl,List.filter_append]
 have:(ppl r)[i]=(i:Int):=by simp [ppl]
 rw [this]
 congr 1
 by_cases h:Asg b (i:Int)=s
 ·rw [if_pos h,List.filter_cons,if_pos (by rw [beq_iff_eq]; exact h)]; rfl
 ·rw [if_neg h,List.filter_cons,if_neg (by rw [beq_iff_eq]; exact h)]; rfl
theorem aN2 {N:Nat} (hN:40≤N) {r:aB} {rank:Nat→Int} (hr:gY r) {b:List Int} (hb:AOk r b):∃ h:List (List Int),mF N ⟨r,rank⟩ b=some h∧h.length=12∧∀ s,inS r s→aU h s=some (lN r b s):=by
 have hp2:=hr.p2
 have hs2:=hr.s2
 have hbl:=hb.len
 unfold mF
 obtain ⟨s,g1,g2,g3,g4⟩:=tV (ρ:=List (List Int)) (fun s5=>fR N b s5.1 s5.2) (fun i s=>s.1=(i:Int)∧s.2.length=12∧∀ t:Int,inS r t→s.2.getD t.toNat []=((ppl r).take i).filter (fun p=>Asg b p == t)) r.People.length (fun i s hi hI=>by
  obtain ⟨x,h⟩:=s
  obtain ⟨rfl,hl,hh⟩:=hI
  dsimp only at hl hh
  have hiP:inP r (i:Int):=⟨by omega,by omega⟩
  have hget:aU b (i:Int)=some (Asg b (i:Int)):=hQ (-1) (by omega) (by omega)
  have hdec:decide ((i:Int) < ((b.length:Nat):Int))=true:=by rw [decide_eq_true_eq]; omega
  show ∃ s',fR N b (i:Int) h=_∧_
  unfold fR jW
  rw [hdec,cond_true,hget,Option.bind_some,cI (by omega)]
  by_cases hn:Asg b (i:Int) = -1
  ·rw [show (Asg b (i:Int) != -1)=false by rw [hn]; rfl,cond_false]
   refine ⟨_,rfl,rfl,hl,fun t ht=>?_⟩
   rw [aC0 hi,if_neg (by rw [hn]; have:=ht.1; omega),List.append_nil]
   exact hh t ht
  ·have hS:=(hb.rng _ hiP).resolve_left hn
   have hg2:aU h (Asg b (i:Int))=some (((ppl r).take i).filter (fun p=>Asg b p == Asg b (i:Int))):=by
    rw [hQ [] hS.1 (by have:=hS.2; omega),hh _ hS]
   have hfl:=List.length_filter_le (fun p=>Asg b p == Asg b (i:Int)) ((ppl r).take i)
   rw [List.length_take] at hfl
   rw [bne_iff_ne.2 hn,cond_true,pW hS.1 (by have:=hS.2; omega),Option.bind_some,hg2,Option.bind_some,qA (by rw [List.length_append,List.length_cons,List.length_nil]; omega),Option.bind_some,Option.bind_some,Option.bind_some]
   refine ⟨_,rfl,rfl,by rw [List.length_set]; exact hl,fun t ht=>?_⟩
   dsimp only
   rw [aAl (by have:=hS.2; omega),aC0 hi]
   by_cases h1:t=Asg b (i:Int)
   ·subst h1; rw [if_pos rfl,if_pos rfl]
   ·rw [if_neg (by have:=ht.1; have:=hS.1; omega),if_neg (fun e=>h1 e.symm),List.append_nil]
    exact hh t ht) (fun s hI=>by
  show fR N b s.1 s.2=_
  unfold fR
  rw [hI.1,hbl,cJ,cond_false,← hI.1]) r.People.length 0 (0,List.replicate 12 []) N (by omega) (by omega) ⟨rfl,rfl,fun t ht=>by
   simp only [List.getD,List.getElem?_replicate,List.take_zero,List.filter_nil]
   split <;> rfl⟩
 rw [g1,Option.bind_some]
 simp only [exK]
 have hisl:wS 12 s.2=some ():=by unfold wS; rw [if_pos g3]
 rw [hisl,Option.bind_some]
 refine ⟨s.2,rfl,g3,fun t ht=>?_⟩
 rw [hQ [] ht.1 (by have:=ht.2; omega),g4 t ht,List.take_of_length_le (by simp [ppl])]
 rfl
def xC (r:aB) (b:List Int) (p s:Int):Bool:=decide (((lN r b s).length:Int) < (sta r s).Places) || (lN r b s).any fun q=>decide (rk r s p < rk r s q)
theorem aK1 {N:Nat} (hN:40≤N) {r:aB} {rank:Nat→Int} (hw:WOk r rank) {b:List Int} {p s:Int} (hp:inP r p) (hs:inS r s):dG N (lN r b s) ⟨r,rank⟩ s p=some ((lN r b s).any fun q=>decide (rk r s p < rk r s q)):=by
 have hp2:=hw.ok.p2
 have hs2:=hw.ok.s2
 have hml:(lN r b s).length≤12:=by
  have:=List.length_filter_le (fun p=>Asg b p == s) (ppl r)
  have h2:(ppl r).length=r.People.length:=by simp [ppl]
  unfold lN
  omega
 unfold dG gJ
 have hrun:=rW (ρ:=Int) (fun i:Nat=>(i:Int)) (fun j=>cond (!decide (rk r s p < rk r s ((lN r b s).getD j 0))) none (some (j:Int))) (lN r b s).length (fun s4=>cG N (lN r b s) ⟨r,rank⟩ s p s4) (fun i hi=>by
  show cG N (lN r b s) ⟨r,rank⟩ s p (i:Int)=_
  unfold cG rK
  have hq:=(pT.1 (List.getElem_mem hi)).1
  rw [cM hi,cond_true,bS hi,Option.bind_some,pW hs.1 (by have:=hs.2; omega),pW hq.1 (by have:=hq.2; omega),pW hp.1 (by have:=hp.2; omega),Option.bind_some,Option.bind_some,Option.bind_some,Option.bind_some,Option.bind_some]
  simp only [hw.get hs hp,hw.get hs hq]
  rw [cI (by omega),dP (d:=(0:Int)) hi]
  cases decide (rk r s p < rk r s ((lN r b s).getD i 0)) <;> rfl) (by
  show cG N (lN r b s) ⟨r,rank⟩ s p _=_
  unfold cG
  rw [cJ,cond_false]) (lN r b s).length 0 N (by omega) (by omega)
 rw [show ((0:Nat):Int)=0 from rfl] at hrun
 rw [hrun]
 have key:∀ (l:List Int) (m i:Nat),i + m=l.length→(match eX (fun j=>cond (!decide (rk r s p < rk r s (l.getD j 0))) none (some (j:Int))) i m with | some r=>(Ex.out r:Ex Int Int) | none=>.go (l.length:Int))=(match eX (fun j=>cond (!decide (rk r s p < rk r s (l.getD j 0))) none (some (j:Int))) i m with | some r=>(Ex.out r:Ex Int Int) | none=>.go (l.length:Int))∧((eX (fun j=>cond (!decide (rk r s p < rk r s (l.getD j 0))) none (some (j:Int))) i m=none∧(l.drop i).any (fun q=>decide (rk r s p < rk r s q))=false) ∨ ∃ k:Int,0≤k∧eX (fun j=>cond (!decide (rk r s p < rk r s (l.getD j 0))) none (some (j:Int))) i m=some k∧(l.drop i).any (fun q=>decide (rk r s p < rk r s q))=true):=by
  intro l m
  induction m with
  | zero=>intro i hi; exact ⟨rfl,Or.inl ⟨rfl,by rw [List.drop_eq_nil_of_le (by omega)]; rfl⟩⟩
  | succ m ih=>
   intro i hi
   refine ⟨rfl,?_⟩
   have hil:i < l.length:=by omega
   rw [List.drop_eq_getElem_cons hil,List.any_cons,dP (d:=(0:Int)) hil]
   unfold eX
   cases hd:decide (rk r s p < rk r s (l.getD i 0)) with
   | true=>exact Or.inr ⟨(i:Int),by omega,rfl,rfl⟩
   | false=>
    have h2:=(ih (i + 1) (by omega)).2
    simpa using h2
 rcases (key (lN r b s) (lN r b s).length 0 (by omega)).2 with ⟨h1,h2⟩ | ⟨k,h0,h1,h2⟩
 ·rw [List.drop_zero] at h2
  rw [h1,h2]
  rfl
 ·rw [List.drop_zero] at h2
  rw [h1,h2]
  simp [exK,h0]
end Go.Nilo
