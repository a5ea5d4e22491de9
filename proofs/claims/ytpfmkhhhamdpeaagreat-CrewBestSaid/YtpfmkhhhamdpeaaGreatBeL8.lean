/-
  What the plain functions compute, in plain arithmetic, part 8. Conditions: what each theorem names.
-/
import Derived.Test.YtpfmkhhhamdpeaaGreatBeL7
set_option linter.unusedSimpArgs false
set_option linter.unusedVariables false
namespace Go.Nilo
theorem loop_to {σ ρ : Type} {f : σ → Option (Step σ ρ)} (Inv Post : σ → Prop) (μ : σ → Nat) (h : ∀ s,Inv s → (∃ s',f s = some (.brk s') ∧ Post s') ∨ (∃ s',f s = some (.cont s') ∧ Inv s' ∧ μ s' < μ s)) : ∀ (N : Nat) (s : σ),Inv s → μ s < N → ∃ s',loopO f N s = some (.go s') ∧ Post s'
 | 0,s,_,hN => by omega
 | N + 1,s,hs,hN => by
  unfold loopO
  rcases h s hs with ⟨s',h1,h2⟩ | ⟨s',h1,h2,h3⟩
  ·exact ⟨s',by rw [h1],h2⟩
  ·obtain ⟨s'',h4,h5⟩ := loop_to Inv Post μ h N s' h2 (by omega)
   exact ⟨s'',by rw [h1]; exact h4,h5⟩
theorem ppl_take {r : crew_Roster} {b : List Int} {s : Int} {i : Nat} (hi : i < r.People.length) : ((ppl r).take (i + 1)).filter (fun p => Asg b p == s) = ((ppl r).take i).filter (fun p => Asg b p == s) ++ (if Asg b (i : Int) = s then [(i : Int)] else []) := by
 have hl : i < (ppl r).length := by simpa [ppl] using hi
 rw [List.take_succ_eq_append_getElem hl,List.filter_append]
 have : (ppl r)[i] = (i : Int) := by simp [ppl]
 rw [this]
 congr 1
 by_cases h : Asg b (i : Int) = s
 ·rw [if_pos h,List.filter_cons,if_pos (by rw [beq_iff_eq]; exact h)]; rfl
 ·rw [if_neg h,List.filter_cons,if_neg (by rw [beq_iff_eq]; exact h)]; rfl
theorem had_ok {N : Nat} (hN : 40 ≤ N) {r : crew_Roster} {rank : Nat → Int} (hr : RosOk r) {b : List Int} (hb : AOk r b) : ∃ h : List (List Int),crew_work_has_s2 N ⟨r,rank⟩ b = some h ∧ h.length = 12 ∧ ∀ s,inS r s → getI h s = some (memL r b s) := by
 have hp2 := hr.p2
 have hs2 := hr.s2
 have hbl := hb.len
 unfold crew_work_has_s2
 obtain ⟨s,g1,g2,g3,g4⟩ := loopInv (ρ := List (List Int)) (fun s5 => crew_work_has_s2_b5 N b s5.1 s5.2) (fun i s => s.1 = (i : Int) ∧ s.2.length = 12 ∧ ∀ t : Int,inS r t → s.2.getD t.toNat [] = ((ppl r).take i).filter (fun p => Asg b p == t)) r.People.length (fun i s hi hI => by
  obtain ⟨x,h⟩ := s
  obtain ⟨rfl,hl,hh⟩ := hI
  dsimp only at hl hh
  have hiP : inP r (i : Int) := ⟨by omega,by omega⟩
  have hget : getI b (i : Int) = some (Asg b (i : Int)) := getI_of (-1) (by omega) (by omega)
  have hdec : decide ((i : Int) < ((b.length : Nat) : Int)) = true := by rw [decide_eq_true_eq]; omega
  show ∃ s',crew_work_has_s2_b5 N b (i : Int) h = _ ∧ _
  unfold crew_work_has_s2_b5 crew_work_has_s2_j9
  rw [hdec,cond_true,hget,Option.bind_some,W_succ (by omega)]
  by_cases hn : Asg b (i : Int) = -1
  ·rw [show (Asg b (i : Int) != -1) = false by rw [hn]; rfl,cond_false]
   refine ⟨_,rfl,rfl,hl,fun t ht => ?_⟩
   rw [ppl_take hi,if_neg (by rw [hn]; have := ht.1; omega),List.append_nil]
   exact hh t ht
  ·have hS := (hb.rng _ hiP).resolve_left hn
   have hg2 : getI h (Asg b (i : Int)) = some (((ppl r).take i).filter (fun p => Asg b p == Asg b (i : Int))) := by
    rw [getI_of [] hS.1 (by have := hS.2; omega),hh _ hS]
   have hfl := List.length_filter_le (fun p => Asg b p == Asg b (i : Int)) ((ppl r).take i)
   rw [List.length_take] at hfl
   rw [bne_iff_ne.2 hn,cond_true,inR_ok hS.1 (by have := hS.2; omega),Option.bind_some,hg2,Option.bind_some,room_ok (by rw [List.length_append,List.length_cons,List.length_nil]; omega),Option.bind_some,Option.bind_some,Option.bind_some]
   refine ⟨_,rfl,rfl,by rw [List.length_set]; exact hl,fun t ht => ?_⟩
   dsimp only
   rw [getD_set (by have := hS.2; omega),ppl_take hi]
   by_cases h1 : t = Asg b (i : Int)
   ·subst h1; rw [if_pos rfl,if_pos rfl]
   ·rw [if_neg (by have := ht.1; have := hS.1; omega),if_neg (fun e => h1 e.symm),List.append_nil]
    exact hh t ht) (fun s hI => by
  show crew_work_has_s2_b5 N b s.1 s.2 = _
  unfold crew_work_has_s2_b5
  rw [hI.1,hbl,ge_dec,cond_false,← hI.1]) r.People.length 0 (0,List.replicate 12 []) N (by omega) (by omega) ⟨rfl,rfl,fun t ht => by
   simp only [List.getD,List.getElem?_replicate,List.take_zero,List.filter_nil]
   split <;> rfl⟩
 rw [g1,Option.bind_some]
 simp only [exK]
 have hisl : isLen 12 s.2 = some () := by unfold isLen; rw [if_pos g3]
 rw [hisl,Option.bind_some]
 refine ⟨s.2,rfl,g3,fun t ht => ?_⟩
 rw [getI_of [] ht.1 (by have := ht.2; omega),g4 t ht,List.take_of_length_le (by simp [ppl])]
 rfl
def wantsB (r : crew_Roster) (b : List Int) (p s : Int) : Bool := decide (((memL r b s).length : Int) < (sta r s).Places) || (memL r b s).any fun q => decide (rk r s p < rk r s q)
theorem wantsB_iff {r : crew_Roster} {b : List Int} {p s : Int} : wantsB r b p s = true ↔ Wants r b p s := by
 unfold wantsB Wants
 rw [Bool.or_eq_true,decide_eq_true_eq,List.any_eq_true]
 simp only [decide_eq_true_eq]
theorem worse_ok {N : Nat} (hN : 40 ≤ N) {r : crew_Roster} {rank : Nat → Int} (hw : WOk r rank) {b : List Int} {p s : Int} (hp : inP r p) (hs : inS r s) : slices_ContainsFunc_Lint_int_s4 N (memL r b s) ⟨r,rank⟩ s p = some ((memL r b s).any fun q => decide (rk r s p < rk r s q)) := by
 have hp2 := hw.ok.p2
 have hs2 := hw.ok.s2
 have hml : (memL r b s).length ≤ 12 := by
  have := List.length_filter_le (fun p => Asg b p == s) (ppl r)
  have h2 : (ppl r).length = r.People.length := by simp [ppl]
  unfold memL
  omega
 unfold slices_ContainsFunc_Lint_int_s4 slices_IndexFunc_Lint_int_s4
 have hrun := scanS (ρ := Int) (fun i : Nat => (i : Int)) (fun j => cond (!decide (rk r s p < rk r s ((memL r b s).getD j 0))) none (some (j : Int))) (memL r b s).length (fun s4 => slices_IndexFunc_Lint_int_s4_b4 N (memL r b s) ⟨r,rank⟩ s p s4) (fun i hi => by
  show slices_IndexFunc_Lint_int_s4_b4 N (memL r b s) ⟨r,rank⟩ s p (i : Int) = _
  unfold slices_IndexFunc_Lint_int_s4_b4 crew_Blocks_2
  have hq := (mem_memL.1 (List.getElem_mem hi)).1
  rw [lt_dec hi,cond_true,getI_nat hi,Option.bind_some,inR_ok hs.1 (by have := hs.2; omega),inR_ok hq.1 (by have := hq.2; omega),inR_ok hp.1 (by have := hp.2; omega),Option.bind_some,Option.bind_some,Option.bind_some,Option.bind_some,Option.bind_some]
  simp only [hw.get hs hp,hw.get hs hq]
  rw [W_succ (by omega),get_getD (d := (0 : Int)) hi]
  cases decide (rk r s p < rk r s ((memL r b s).getD i 0)) <;> rfl) (by
  show slices_IndexFunc_Lint_int_s4_b4 N (memL r b s) ⟨r,rank⟩ s p _ = _
  unfold slices_IndexFunc_Lint_int_s4_b4
  rw [ge_dec,cond_false]) (memL r b s).length 0 N (by omega) (by omega)
 rw [show ((0 : Nat) : Int) = 0 from rfl] at hrun
 rw [hrun]
 have key : ∀ (l : List Int) (m i : Nat),i + m = l.length → (match firstG (fun j => cond (!decide (rk r s p < rk r s (l.getD j 0))) none (some (j : Int))) i m with | some r => (Ex.out r : Ex Int Int) | none => .go (l.length : Int)) = (match firstG (fun j => cond (!decide (rk r s p < rk r s (l.getD j 0))) none (some (j : Int))) i m with | some r => (Ex.out r : Ex Int Int) | none => .go (l.length : Int)) ∧ ((firstG (fun j => cond (!decide (rk r s p < rk r s (l.getD j 0))) none (some (j : Int))) i m = none ∧ (l.drop i).any (fun q => decide (rk r s p < rk r s q)) = false) ∨ ∃ k : Int,0 ≤ k ∧ firstG (fun j => cond (!decide (rk r s p < rk r s (l.getD j 0))) none (some (j : Int))) i m = some k ∧ (l.drop i).any (fun q => decide (rk r s p < rk r s q)) = true) := by
  intro l m
  induction m with
  | zero => intro i hi; exact ⟨rfl,Or.inl ⟨rfl,by rw [List.drop_eq_nil_of_le (by omega)]; rfl⟩⟩
  | succ m ih =>
   intro i hi
   refine ⟨rfl,?_⟩
   have hil : i < l.length := by omega
   rw [List.drop_eq_getElem_cons hil,List.any_cons,get_getD (d := (0 : Int)) hil]
   unfold firstG
   cases hd : decide (rk r s p < rk r s (l.getD i 0)) with
   | true => exact Or.inr ⟨(i : Int),by omega,rfl,rfl⟩
   | false =>
    have h2 := (ih (i + 1) (by omega)).2
    simpa using h2
 rcases (key (memL r b s) (memL r b s).length 0 (by omega)).2 with ⟨h1,h2⟩ | ⟨k,h0,h1,h2⟩
 ·rw [List.drop_zero] at h2
  rw [h1,h2]
  rfl
 ·rw [List.drop_zero] at h2
  rw [h1,h2]
  simp [exK,h0]
theorem blocks_ok {N : Nat} (hN : 60 ≤ N) {r : crew_Roster} (hr : RosOk r) {b : List Int} (hb : AOk r b) : ∃ x e,crew_Blocks N r b = some (x,e) ∧ (e = 5 ∨ e = 0 ∨ e = 7) ∧ (e = 5 ↔ Stable r b) := by
 obtain ⟨rank,h1,h2⟩ := opened_ok (N := N) (by omega) hr
 have hw : WOk r rank := ⟨hr,h2⟩
 have hp2 := hr.p2
 have hs2 := hr.s2
 have hbl := hb.len
 obtain ⟨had,d1,d2,d3⟩ := had_ok (N := N) (rank := rank) (by omega) hr hb
 have hgb : ∀ i,i < r.People.length → getI b (i : Int) = some (Asg b (i : Int)) := fun i hi => getI_of (-1) (by omega) (by omega)
 unfold crew_Blocks
 rw [h1,Option.bind_some]
 simp only [sumK,bne_self_eq_false,cond_false]
 have c1 : crew_every_int_s3 N b r = some true := by
  unfold crew_every_int_s3 slices_ContainsFunc_Lint_int_s3 slices_IndexFunc_Lint_int_s3
  refine every_mon (l := b) (by omega) (by omega) _ (fun i hi => ?_) (by unfold slices_IndexFunc_Lint_int_s3_b4; rw [ge_dec,cond_false])
  unfold slices_IndexFunc_Lint_int_s3_b4
  have hv : b[i] = Asg b (i : Int) := by unfold Asg; rw [Int.toNat_natCast,← get_getD hi]
  have hran := hb.rng (i : Int) ⟨by omega,by omega⟩
  have : crew_every_int_1_s3 b[i] r = false := by
   unfold crew_every_int_1_s3 crew_Blocks_1 crew_in
   rw [hv,W_id (by omega) (by omega),decide_eq_true (by omega),decide_eq_true (by omega)]
   rfl
  rw [lt_dec hi,cond_true,getI_nat hi,Option.bind_some,this,cond_false]
 have c2 : (((b.length : Nat) : Int) != ((r.People.length : Nat) : Int)) = false := by rw [hbl,bne_self_eq_false]
 rw [c2,cond_false,c1]
 simp only [Option.bind_some,Bool.not_true,cond_false]
 rw [d1,Option.bind_some,show isLen 12 had = some () by unfold isLen; rw [if_pos d2],Option.bind_some]
 -- who has a station that is not possible,or has too many
 have hbad : ∀ i (hi : i < r.People.length),crew_Blocks_b30 N r b (rank,0) had (i : Int) = some (if Asg b (i : Int) ≠ -1 ∧ ¬ (posB r (i : Int) (Asg b (i : Int)) ∧ ((memL r b (Asg b (i : Int))).length : Int) ≤ (sta r (Asg b (i : Int))).Places) then .ret (⟨0,0⟩,7) else .cont ((i + 1 : Nat) : Int)) := fun i hi => by
  have hiP : inP r (i : Int) := ⟨by omega,by omega⟩
  unfold crew_Blocks_b30
  rw [hbl,lt_dec hi,cond_true,hgb i hi,Option.bind_some,W_succ (by omega)]
  by_cases hn : Asg b (i : Int) = -1
  ·rw [show (Asg b (i : Int) != -1) = false by rw [hn]; rfl,cond_false,Option.bind_some,cond_false,if_neg (fun e => e.1 hn)]
  ·have hS := (hb.rng _ hiP).resolve_left hn
   rw [bne_iff_ne.2 hn,cond_true,possible_ok (by omega) hw hS hiP,Option.bind_some]
   by_cases hpo : posB r (i : Int) (Asg b (i : Int))
   ·rw [decide_eq_true hpo,Bool.not_true,cond_false,inR_ok hS.1 (by have := hS.2; omega),Option.bind_some,d3 _ hS,Option.bind_some,show getI r.Stations (Asg b (i : Int)) = some (sta r (Asg b (i : Int))) from getI_of _ hS.1 hS.2,Option.bind_some,Option.bind_some,Option.bind_some]
    by_cases hc : ((memL r b (Asg b (i : Int))).length : Int) ≤ (sta r (Asg b (i : Int))).Places
    ·rw [decide_eq_false (by omega),cond_false,if_neg (fun e => e.2 ⟨hpo,hc⟩)]
    ·rw [decide_eq_true (by omega),cond_true,if_pos ⟨hn,fun e => hc e.2⟩]
   ·rw [decide_eq_false hpo,Bool.not_false,cond_true,Option.bind_some,Option.bind_some,cond_true,if_pos ⟨hn,fun e => hpo e.1⟩]
 by_cases hF : Feas r b
 ·have hrun := runS (ρ := crew_Refusal × Int) (fun i : Nat => (i : Int)) r.People.length (fun s30 => crew_Blocks_b30 N r b (rank,0) had s30) (fun i hi => by
   rw [hbad i hi,if_neg]
   rintro ⟨e1,e2⟩
   exact e2 (hF (i : Int) ⟨by omega,by omega⟩ e1)) (by
   show crew_Blocks_b30 N r b (rank,0) had _ = _
   unfold crew_Blocks_b30
   rw [hbl,ge_dec,cond_false]) (N := N) (by omega)
  rw [show ((0 : Nat) : Int) = 0 from rfl] at hrun
  rw [hrun,Option.bind_some]
  simp only [exK]
  obtain ⟨s,g1,g2⟩ := loop_to (ρ := crew_Refusal × Int) (f := fun s35 => crew_Blocks_b35 N r b (rank,0) had s35.1 s35.2.1 s35.2.2.1 s35.2.2.2)
   (fun s => ∃ i : Nat,i ≤ r.People.length ∧ s = ((i : Int),5,0,0) ∧ ∀ p t,inP r p → p < (i : Int) → bfr r b p t → posB r p t → ¬ Wants r b p t)
   (fun s => (s.2.1 = 5 ∧ NoBlk r b) ∨ (s.2.1 = 0 ∧ ¬ NoBlk r b)) (fun s => ((r.People.length : Int) - s.1).toNat) (fun s hI => by
    obtain ⟨i,hi,rfl,hno⟩ := hI
    show (∃ s',crew_Blocks_b35 N r b (rank,0) had (i : Int) 5 0 0 = _ ∧ _) ∨ (∃ s',crew_Blocks_b35 N r b (rank,0) had (i : Int) 5 0 0 = _ ∧ _)
    by_cases hlt : i < r.People.length
    ·have hiP : inP r (i : Int) := ⟨by omega,by omega⟩
     have hnd := hr.pn _ (pf_mem hiP)
     obtain ⟨x42,k1,zz,k3⟩ := better_inv (N := N) (by omega) hw (than := Asg b (i : Int)) hiP (rY (fun (zz : Int × Int × Int) (ix_ : Int) => crew_Blocks_r42 N r (rank,0) had (i : Int) zz.1 zz.2.1 zz.2.2 ix_))
      (fun j sg => sg = .go (5,0,0) ∧ (∀ k (hk : k < (pf r (i : Int)).length),k < j → (pf r (i : Int))[k] ≠ Asg b (i : Int)) ∧ ∀ k (hk : k < (pf r (i : Int)).length),k < j → posB r (i : Int) (pf r (i : Int))[k] → ¬ Wants r b (i : Int) (pf r (i : Int))[k])
      (fun sg => ∃ zz : Int × Int × Int,(sg = .go zz ∧ zz = (5,0,0) ∧ ∀ t,bfr r b (i : Int) t → posB r (i : Int) t → ¬ Wants r b (i : Int) t) ∨ (sg = .ret zz ∧ zz.1 = 0 ∧ ∃ t,bfr r b (i : Int) t ∧ posB r (i : Int) t ∧ Wants r b (i : Int) t))
      (fun j hj sg hJ hne hpo => by
       obtain ⟨rfl,hns,hnw⟩ := hJ
       have hS := pf_ran hr hiP (List.getElem_mem hj)
       have hr42 : crew_Blocks_r42 N r (rank,0) had (i : Int) 5 0 0 (pf r (i : Int))[j] = some (cond (wantsB r b (i : Int) (pf r (i : Int))[j]) (.ret (0,(i : Int),(pf r (i : Int))[j])) (.go (5,0,0))) := by
        unfold crew_Blocks_r42
        rw [inR_ok hS.1 (by have := hS.2; omega),Option.bind_some,d3 _ hS,Option.bind_some,show getI r.Stations (pf r (i : Int))[j] = some (sta r (pf r (i : Int))[j]) from getI_of _ hS.1 hS.2,Option.bind_some,worse_ok (by omega) hw hiP hS]
        unfold wantsB
        cases decide (((memL r b (pf r (i : Int))[j]).length : Int) < (sta r (pf r (i : Int))[j]).Places) <;> cases ((memL r b (pf r (i : Int))[j]).any fun q => decide (rk r (pf r (i : Int))[j] (i : Int) < rk r (pf r (i : Int))[j] q)) <;> rfl
       have hy : rY (fun (zz : Int × Int × Int) (ix_ : Int) => crew_Blocks_r42 N r (rank,0) had (i : Int) zz.1 zz.2.1 zz.2.2 ix_) (.go (5,0,0)) (pf r (i : Int))[j] = (some (cond (wantsB r b (i : Int) (pf r (i : Int))[j]) (Rs.ret (0,(i : Int),(pf r (i : Int))[j])) (.go (5,0,0)))).map fun r => (r,r.on) := by rw [← hr42]; rfl
       rw [hy]
       cases hwb : wantsB r b (i : Int) (pf r (i : Int))[j] with
       | true =>
        refine ⟨_,false,rfl,(fun e => by cases e),fun _ => ⟨_,Or.inr ⟨rfl,rfl,(pf r (i : Int))[j],⟨List.getElem_mem hj,?_⟩,hpo,wantsB_iff.1 hwb⟩⟩⟩
        by_cases hin : Asg b (i : Int) ∈ pf r (i : Int)
        ·right
         obtain ⟨k,hk,hke⟩ := List.getElem_of_mem hin
         rw [← hke,idx_nth hnd hj,idx_nth hnd hk]
         have : ¬ k < j := fun e => hns k hk e hke
         have : k ≠ j := fun e => by subst e; exact hne hke
         omega
        ·left; exact hin
       | false =>
        refine ⟨_,true,rfl,fun _ => ⟨rfl,fun k hk hkj => ?_,fun k hk hkj hpk => ?_⟩,(fun e => by cases e)⟩
        ·by_cases h4 : k = j
         ·subst h4; exact hne
         ·exact hns k hk (by omega)
        ·by_cases h4 : k = j
         ·subst h4; intro e; rw [wantsB_iff.2 e] at hwb; cases hwb
         ·exact hnw k hk (by omega) hpk)
      (fun j hj sg hJ hne hnp => by
       obtain ⟨rfl,hns,hnw⟩ := hJ
       refine ⟨rfl,fun k hk hkj => ?_,fun k hk hkj hpk => ?_⟩
       ·by_cases h4 : k = j
        ·subst h4; exact hne
        ·exact hns k hk (by omega)
       ·by_cases h4 : k = j
        ·subst h4; exact absurd hpk hnp
        ·exact hnw k hk (by omega) hpk)
      (fun j hj sg hJ ht => by
       obtain ⟨rfl,hns,hnw⟩ := hJ
       refine ⟨_,Or.inl ⟨rfl,rfl,fun t hbf hpt => ?_⟩⟩
       obtain ⟨k,hk,rfl⟩ := List.getElem_of_mem hbf.1
       rcases hbf.2 with h4 | h4
       ·exact absurd (ht ▸ List.getElem_mem hj) h4
       ·rw [← ht,idx_nth hnd hj,idx_nth hnd hk] at h4
        exact hnw k hk (by omega) hpt)
      (fun sg hJ => by
       obtain ⟨rfl,hns,hnw⟩ := hJ
       refine ⟨_,Or.inl ⟨rfl,rfl,fun t hbf hpt => ?_⟩⟩
       obtain ⟨k,hk,rfl⟩ := List.getElem_of_mem hbf.1
       exact hnw k hk hk hpt) (.go (5,0,0)) ⟨rfl,fun k hk h0 => by omega,fun k hk h0 => by omega⟩
     have hb35 : crew_Blocks_b35 N r b (rank,0) had (i : Int) 5 0 0 = rsK x42 (fun zz42 => some (.cont (((i + 1 : Nat) : Int),zz42.1,zz42.2.1,zz42.2.2))) (fun zz42 => some (.brk ((i : Int),zz42.1,zz42.2.1,zz42.2.2))) := by
      unfold crew_Blocks_b35 crew_work_better
      dsimp only
      rw [hbl,lt_dec hlt,cond_true,hgb i hlt,Option.bind_some,Option.bind_some,k1,Option.bind_some,W_succ (by omega)]
     rw [hb35]
     rcases k3 with ⟨rfl,rfl,k4⟩ | ⟨rfl,k4,t,k5,k6,k7⟩
     ·right
      refine ⟨(((i + 1 : Nat) : Int),5,0,0),rfl,⟨i + 1,by omega,rfl,fun p t hp hpl hbf hpt => ?_⟩,by dsimp only; push_cast; omega⟩
      by_cases h4 : p = (i : Int)
      ·subst h4; exact k4 t hbf hpt
      ·exact hno p t hp (by push_cast at hpl; omega) hbf hpt
     ·left
      exact ⟨_,rfl,Or.inr ⟨k4,fun hnb => hnb (i : Int) t hiP k5 k6 k7⟩⟩
    ·left
     have hie : i = r.People.length := by omega
     subst hie
     refine ⟨((r.People.length : Int),5,0,0),?_,Or.inl ⟨rfl,fun p t hp hbf hpt => hno p t hp hp.2 hbf hpt⟩⟩
     unfold crew_Blocks_b35
     rw [hbl,ge_dec,cond_false]) N (0,5,0,0) ⟨0,Nat.zero_le _,rfl,fun p t hp h0 => by have := hp.1; omega⟩ (by dsimp only; omega)
  rw [g1,Option.bind_some]
  refine ⟨_,_,rfl,?_,?_⟩
  ·rcases g2 with ⟨e,-⟩ | ⟨e,-⟩
   ·exact Or.inl e
   ·exact Or.inr (Or.inl e)
  ·rcases g2 with ⟨e,hn⟩ | ⟨e,hn⟩
   ·exact ⟨fun _ => ⟨hb,hF,hn⟩,fun _ => e⟩
   ·exact ⟨fun e2 => by omega,fun hs => absurd hs.n hn⟩
 ·have hex : ∃ i,i < r.People.length ∧ (Asg b (i : Int) ≠ -1 ∧ ¬ (posB r (i : Int) (Asg b (i : Int)) ∧ ((memL r b (Asg b (i : Int))).length : Int) ≤ (sta r (Asg b (i : Int))).Places)) := by
   refine Classical.byContradiction fun hc => hF fun p hp hne => ?_
   refine Classical.byContradiction fun hc2 => hc ⟨p.toNat,by have := hp.1; have := hp.2; omega,?_⟩
   rw [Int.toNat_of_nonneg hp.1]
   exact ⟨hne,hc2⟩
  have hs := scanS (ρ := crew_Refusal × Int) (fun i : Nat => (i : Int)) (fun i => if Asg b (i : Int) ≠ -1 ∧ ¬ (posB r (i : Int) (Asg b (i : Int)) ∧ ((memL r b (Asg b (i : Int))).length : Int) ≤ (sta r (Asg b (i : Int))).Places) then some (⟨0,0⟩,7) else none) r.People.length (fun s30 => crew_Blocks_b30 N r b (rank,0) had s30) (fun i hi => by
   rw [hbad i hi]
   split <;> rfl) (by
   show crew_Blocks_b30 N r b (rank,0) had _ = _
   unfold crew_Blocks_b30
   rw [hbl,ge_dec,cond_false]) r.People.length 0 N (by omega) (by omega)
  have hfirst : ∀ (g : Nat → Option (crew_Refusal × Int)) (v : crew_Refusal × Int),(∀ i,g i = none ∨ g i = some v) → ∀ m i,(∃ k,i ≤ k ∧ k < i + m ∧ g k = some v) → firstG g i m = some v := by
   intro g v hg m
   induction m with
   | zero => rintro i ⟨k,h1,h2,-⟩; omega
   | succ m ih =>
    rintro i ⟨k,h1,h2,h3⟩
    unfold firstG
    rcases hg i with h4 | h4
    ·rw [h4]
     refine ih (i + 1) ⟨k,?_,by omega,h3⟩
     have : k ≠ i := fun e => by subst e; rw [h4] at h3; cases h3
     omega
    ·rw [h4]
  obtain ⟨i,hi,hbi⟩ := hex
  rw [show ((0 : Nat) : Int) = 0 from rfl,hfirst _ (⟨0,0⟩,7) (fun i => by
   split
   ·exact Or.inr rfl
   ·exact Or.inl rfl) r.People.length 0 ⟨i,Nat.zero_le _,by omega,by rw [if_pos hbi]⟩] at hs
  rw [hs,Option.bind_some]
  exact ⟨_,_,rfl,Or.inr (Or.inr rfl),(fun e => by cases e),fun hst => absurd hst.f hF⟩
end Go.Nilo
