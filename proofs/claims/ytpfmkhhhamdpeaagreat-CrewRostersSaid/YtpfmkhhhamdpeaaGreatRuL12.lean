/-
  What the plain functions compute, in plain arithmetic, part 12. Conditions: what each theorem names.
-/
import Derived.Test.YtpfmkhhhamdpeaaGreatRuL11
set_option linter.unusedSimpArgs false
set_option linter.unusedVariables false
namespace Go.Nilo
def pJ (l:List aC) (p s:Int):Bool:=l.any fun x=>x.Person == p && x.Station == s
theorem aC8 {l:List aC} {p s:Int}:pJ l p s=true ↔ Ref l p s:=by
 unfold pJ Ref
 rw [List.any_eq_true]
 constructor
 ·rintro ⟨x,h1,h2⟩
  rw [Bool.and_eq_true,beq_iff_eq,beq_iff_eq] at h2
  obtain ⟨rfl,rfl⟩:=h2
  exact h1
 ·intro h; exact ⟨_,h,by simp⟩
noncomputable def betB (r:aB) (l:List aC) (q s:Int):Bool:=@decide (Bet r l q s) (Classical.propDecidable _)
theorem aC4 {r:aB} {l:List aC} {q s:Int}:betB r l q s=true ↔ Bet r l q s:=@decide_eq_true_iff _ (Classical.propDecidable _)
theorem aFy {r:aB} {l:List aC} {q:Int} (hn:(pf r q).Nodup) {j:Nat} (hj:j < (pf r q).length):Bet r l q (pf r q)[j] ↔ ∀ i (hi:i < (pf r q).length),i < j→kF r q (pf r q)[i]→Ref l q (pf r q)[i]:=by
 unfold Bet
 constructor
 ·intro h i hi hij hpo
  refine h _ (List.getElem_mem hi) ?_ hpo
  rw [iM hn hi,iM hn hj]
  omega
 ·intro h t ht hlt hpo
  obtain ⟨i,hi,rfl⟩:=List.getElem_of_mem ht
  rw [iM hn hi,iM hn hj] at hlt
  exact h i hi (by omega) hpo
theorem aK8 {N:Nat} (hN:200≤N) {r:aB} {rank:Nat→Int} (hw:WOk r rank) {q s:Int} (hq:inP r q) (hs:s ∈ pf r q) {ahead:List aC} (hl:ahead.length≤150) :
  dC N ⟨r,rank⟩ q s (rY (fun (zz:Bool) (ix_:Int)=>eR N ahead q zz ix_)) (.go true)=some (.go (betB r ahead q s)):=by
 have hnd:=hw.ok.pn _ (kQ hq)
 obtain ⟨sg,h1,b,rfl,h2⟩:=yS (N:=N) (by omega) hw (than:=s) hq (rY (fun (zz:Bool) (ix_:Int)=>eR N ahead q zz ix_))
  (fun j sg=>(∃ b,sg=.go b∧(b=true ↔ ∀ i (hi:i < (pf r q).length),i < j→kF r q (pf r q)[i]→Ref ahead q (pf r q)[i]))∧∀ i (hi:i < (pf r q).length),i < j→(pf r q)[i] ≠ s)
  (fun sg=>∃ b,sg=.go b∧(b=true ↔ Bet r ahead q s))
  (fun i hi sg hI hne hpo=>by
   obtain ⟨⟨b,rfl,hb⟩,hns⟩:=hI
   obtain ⟨c,c1,c2⟩:=aMc (N:=N) (l:=ahead) (p:=q) (s:=(pf r q)[i]) (by omega) (by omega)
   refine ⟨.go (b && c),true,?_,fun _=>⟨⟨_,rfl,?_⟩,fun j hj hji=>?_⟩,(fun e=>by cases e)⟩
   ·show Option.map (fun r=>(r,r.on)) (eR N ahead q b (pf r q)[i])=_
    unfold eR
    rw [c1]
    cases b <;> rfl
   ·rw [Bool.and_eq_true,hb,c2]
    constructor
    ·rintro ⟨k1,k2⟩ j hj hji hpj
     by_cases h4:j=i
     ·subst h4; exact k2
     ·exact k1 j hj (by omega) hpj
    ·intro k
     exact ⟨fun j hj hji hpj=>k j hj (by omega) hpj,k i hi (by omega) hpo⟩
   ·by_cases h4:j=i
    ·subst h4; exact hne
    ·exact hns j hj (by omega))
  (fun i hi sg hI hne hnp=>by
   obtain ⟨⟨b,rfl,hb⟩,hns⟩:=hI
   refine ⟨⟨b,rfl,?_⟩,fun j hj hji=>?_⟩
   ·rw [hb]
    constructor
    ·intro k j hj hji hpj
     by_cases h4:j=i
     ·subst h4; exact absurd hpj hnp
     ·exact k j hj (by omega) hpj
    ·exact fun k j hj hji hpj=>k j hj (by omega) hpj
   ·by_cases h4:j=i
    ·subst h4; exact hne
    ·exact hns j hj (by omega))
  (fun i hi sg hI ht=>by
   obtain ⟨⟨b,rfl,hb⟩,hns⟩:=hI
   exact ⟨b,rfl,by rw [hb,← ht]; exact (aFy hnd hi).symm⟩)
  (fun sg hI=>by
   obtain ⟨j,hj,hje⟩:=List.getElem_of_mem hs
   exact absurd hje (hI.2 j hj hj)) (.go true) ⟨⟨true,rfl,fun _ i hi h0=>by omega,fun _=>rfl⟩,fun i hi hi0=>by omega⟩
 rw [h1]
 have:b=betB r ahead q s:=by rw [Bool.eq_iff_iff,h2,aC4]
 rw [this]
noncomputable def okQ (r:aB) (ahead:List aC) (x:aC) (q:Int):Bool:=decide (kF r q x.Station) && decide (rk r x.Station q < rk r x.Station x.Person) && betB r ahead q x.Station
noncomputable def cnt (r:aB) (ahead:List aC) (x:aC) (k:Nat):Nat:=(((ppl r).take k).filter (okQ r ahead x)).length
noncomputable def hldB (r:aB) (ahead:List aC) (x:aC):Bool:=!decide (kF r x.Person x.Station) || decide ((sta r x.Station).Places≤(cnt r ahead x r.People.length:Int))
theorem aF5 {r:aB} {ahead:List aC} {x:aC} {i:Nat} (hi:i < r.People.length):cnt r ahead x (i + 1)=cnt r ahead x i + cond (okQ r ahead x (i:Int)) 1 0:=by
 have hl:i < (ppl r).length:=by simpa [ppl] using hi
 have:(ppl r)[i]=(i:Int):=by simp [ppl]
 unfold cnt
 rw [List.take_succ_eq_append_getElem hl,List.filter_append,List.length_append,this,List.filter_cons]
 cases okQ r ahead x (i:Int) <;> rfl
theorem aKw {r:aB} {ahead:List aC} {x:aC} {i:Nat}:cnt r ahead x i≤i:=by
 have:=List.length_filter_le (okQ r ahead x) ((ppl r).take i)
 rw [List.length_take] at this
 unfold cnt
 omega
theorem aJ4 {N:Nat} (hN:200≤N) {r:aB} {rank:Nat→Int} (hw:WOk r rank) {x:aC} {ahead:List aC} (hl:ahead.length≤150) (hp:inP r x.Person) (hs:inS r x.Station):nG N ⟨r,rank⟩ x ahead=some (hldB r ahead x):=by
 have hp2:=hw.ok.p2
 have hs2:=hw.ok.s2
 have hrun:=vS (ρ:=Bool) (fun i:Nat=>(((cnt r ahead x i:Nat):Int),(i:Int))) r.People.length (fun s8=>fG N ⟨r,rank⟩ x ahead s8.1 s8.2) (fun i hi=>by
  have hiP:inP r (i:Int):=⟨by omega,by omega⟩
  have hle:=aKw (r:=r) (ahead:=ahead) (x:=x) (i:=i)
  show fG N ⟨r,rank⟩ x ahead ((cnt r ahead x i:Nat):Int) (i:Int)=_
  unfold fG eQ
  dsimp only
  rw [cM hi,cond_true,tW (by omega) hw hs hiP,Option.bind_some,cI (by omega),cI (by omega),aF5 hi]
  unfold okQ
  by_cases h1:kF r (i:Int) x.Station
  ·rw [decide_eq_true h1,Bool.not_true,cond_false,pW hs.1 (by have:=hs.2; omega),pW hiP.1 (by omega),pW hp.1 (by have:=hp.2; omega),Option.bind_some,Option.bind_some,Option.bind_some,Option.bind_some]
   simp only [hw.get hs hp,hw.get hs hiP,Option.bind_some]
   by_cases h2:rk r x.Station x.Person≤rk r x.Station (i:Int)
   ·rw [decide_eq_true h2,cond_true,decide_eq_false (show ¬ rk r x.Station (i:Int) < rk r x.Station x.Person by omega)]
    rfl
   ·rw [decide_eq_false h2,cond_false,decide_eq_true (show rk r x.Station (i:Int) < rk r x.Station x.Person by omega)]
    unfold fK
    rw [Option.bind_some,aK8 hN hw hiP h1.2 hl,Option.bind_some]
    cases betB r ahead (i:Int) x.Station <;> rfl
  ·rw [decide_eq_false h1,Bool.not_false,cond_true,Option.bind_some,cond_true]
   rfl) (by
  show fG N ⟨r,rank⟩ x ahead _ (r.People.length:Int)=_
  unfold fG
  dsimp only
  rw [cJ,cond_false]) (N:=N) (by omega)
 have h0:cnt r ahead x 0=0:=by unfold cnt; rfl
 unfold nG hldB
 rw [tW (by omega) hw hs hp,Option.bind_some]
 simp only [h0] at hrun
 show cond _ _ (Option.bind (aS (fun s8=>fG N ⟨r,rank⟩ x ahead s8.1 s8.2) N (((0:Nat):Int),((0:Nat):Int))) _)=_
 rw [hrun,Option.bind_some]
 simp only [exK]
 have hget:aU r.Stations x.Station=some (sta r x.Station):=hQ _ hs.1 hs.2
 rw [hget,Option.bind_some]
 cases decide (kF r x.Person x.Station) <;> rfl
def rF (x:aC):aP:=⟨x.Person,x.Station⟩
theorem gRF {l:List aC} {i:Nat} (hi:i < l.length):aU (l.map rF) (i:Int)=some (rF l[i]):=by
 rw [bS (by rw [List.length_map]; exact hi),List.getElem_map]
def opn (r:aB) (ahead:List aC) (q:Int) (k:Nat):Nat:=(((pf r q).take k).filter fun t=>decide (kF r q t) && !pJ ahead q t).length
theorem aLg {r:aB} {ahead:List aC} {q:Int} (hn:(pf r q).Nodup) {j:Nat} (hj:j < (pf r q).length):(((opn r ahead q j:Nat):Int) == 0)=betB r ahead q (pf r q)[j]:=by
 rw [Bool.eq_iff_iff,beq_iff_eq,aC4,aFy hn hj]
 unfold opn
 constructor
 ·intro h i hi hij hpo
  have h1:((pf r q).take j).filter (fun t=>decide (kF r q t) && !pJ ahead q t)=[]:=List.eq_nil_of_length_eq_zero (by omega)
  rw [List.filter_eq_nil_iff] at h1
  have h2:=h1 (pf r q)[i] (List.mem_iff_getElem.2 ⟨i,by rw [List.length_take]; omega,by rw [List.getElem_take]⟩)
  rw [decide_eq_true hpo,Bool.true_and] at h2
  rw [← aC8]
  simpa using h2
 ·intro h
  have h1:((pf r q).take j).filter (fun t=>decide (kF r q t) && !pJ ahead q t)=[]:=by
   rw [List.filter_eq_nil_iff]
   intro t ht hh
   obtain ⟨i,hi,he⟩:=List.getElem_of_mem ht
   rw [List.length_take] at hi
   rw [List.getElem_take] at he
   rw [Bool.and_eq_true,decide_eq_true_eq] at hh
   have h3:=h i (by omega) (by omega) (by rw [he]; exact hh.1)
   rw [he,← aC8] at h3
   rw [h3] at hh
   exact absurd hh.2 (by decide)
  rw [h1]
  rfl
theorem met_r {N:Nat} (hN:200≤N) {r:aB} {l:List aC} (hl:l.length≤144) {i:Nat} (hi:i < l.length) {q:Int} (hq:inP r q) {k:Nat} (hk:k < (pf r q).length) {m:Bool} :
  aS (fun s44=>iB N (rR r) (l.map rF) (i:Int) q (k:Int) s44.1 s44.2) N (m,((0:Nat):Int))=some (.go ((m || pJ (l.take i) q (pf r q)[k]),(i:Int))):=by
 have hrun:=vS (ρ:=bK (Int × Int) (bK (Int × Int) (bK Int (Bool × Int)))) (fun j:Nat=>((m || pJ (l.take j) q (pf r q)[k]),(j:Int))) i (fun s44=>iB N (rR r) (l.map rF) (i:Int) q (k:Int) s44.1 s44.2) (fun j hj=>by
  show iB N (rR r) (l.map rF) (i:Int) q (k:Int) (m || pJ (l.take j) q (pf r q)[k]) (j:Int)=_
  unfold iB
  rw [cM hj,cond_true,gRF (by omega),rpp hq,Option.bind_some,cI (by omega)]
  have ht:pJ (l.take (j + 1)) q (pf r q)[k]=(pJ (l.take j) q (pf r q)[k] || (l[j].Person == q && l[j].Station == (pf r q)[k])):=by
   unfold pJ
   exact wV (by omega)
  rw [ht,← Bool.or_assoc]
  cases m || pJ (l.take j) q (pf r q)[k] with
  | true=>rfl
  | false=>
   rw [Option.bind_some,Option.bind_some,bS hk]
   show Option.bind (Option.bind (cond (l[j].Person == q) (some (l[j].Station == (pf r q)[k])) (some false)) _) _=_
   cases l[j].Person == q <;> rfl) (by
  show iB N (rR r) (l.map rF) (i:Int) q (k:Int) _ (i:Int)=_
  unfold iB
  rw [cJ,cond_false]) (N:=N) (by omega)
 have h0:(m || pJ (l.take 0) q (pf r q)[k])=m:=by rw [List.take_zero]; unfold pJ; rw [List.any_nil,Bool.or_false]
 simp only [h0] at hrun
 exact hrun
theorem aOb {N:Nat} (hN:200≤N) {r:aB} (hr:gY r) {l:List aC} (hl:l.length≤144) {i:Nat} (hi:i < l.length) {x:aC} {q:Int} (hq:inP r q) {j:Nat} (hj:j < (pf r q).length) (hx:(pf r q)[j]=x.Station) :
  aS (fun s36=>iF N (rR r) (l.map rF) (i:Int) (rF x) q s36.1 s36.2) N (0,0)=some (.go (((opn r (l.take i) q j:Nat):Int),(j:Int))):=by
 have hnd:=hr.pn _ (kQ hq)
 have hpl:=hr.pf_len (kQ hq)
 have hpc:dB N (pf r q) (rF x).Station=some (j:Int):=by
  show dB N (pf r q) x.Station=_
  rw [aDk (by omega) (by omega),← hx,iM hnd hj]
 have hle:∀ k,opn r (l.take i) q k≤k:=fun k=>by
  have:=List.length_filter_le (fun t=>decide (kF r q t) && !pJ (l.take i) q t) ((pf r q).take k)
  rw [List.length_take] at this
  unfold opn
  omega
 have hrun:=vS (ρ:=bK (Int × Int) (bK Int (Bool × Int))) (fun k:Nat=>(((opn r (l.take i) q k:Nat):Int),(k:Int))) j (fun s36=>iF N (rR r) (l.map rF) (i:Int) (rF x) q s36.1 s36.2) (fun k hk=>by
  show iF N (rR r) (l.map rF) (i:Int) (rF x) q ((opn r (l.take i) q k:Nat):Int) (k:Int)=_
  have hkl:k < (pf r q).length:=by omega
  have hS:=pZ hr hq (List.getElem_mem hkl)
  have:=hle k
  unfold iF nF
  rw [rpp hq,Option.bind_some,hpc,Option.bind_some,cM hk,cond_true,Option.bind_some,bS hkl,Option.bind_some,aEf (by omega) hr hS hq,Option.bind_some,show (0:Int)=((0:Nat):Int) from rfl,met_r hN hl hi hq hkl,Option.bind_some,cI (by omega),cI (by omega)]
  have ho:opn r (l.take i) q (k + 1)=opn r (l.take i) q k + cond (!(!decide (kF r q (pf r q)[k]) || pJ (l.take i) q (pf r q)[k])) 1 0:=by
   unfold opn
   rw [List.take_succ_eq_append_getElem hkl,List.filter_append,List.length_append,List.filter_cons]
   cases decide (kF r q (pf r q)[k]) <;> cases pJ (l.take i) q (pf r q)[k] <;> rfl
  rw [ho]
  show cond (!(!decide (kF r q (pf r q)[k]) || pJ (l.take i) q (pf r q)[k])) _ _=_
  cases !(!decide (kF r q (pf r q)[k]) || pJ (l.take i) q (pf r q)[k]) <;> rfl) (by
  show iF N (rR r) (l.map rF) (i:Int) (rF x) q _ (j:Int)=_
  unfold iF
  rw [rpp hq,Option.bind_some,hpc,Option.bind_some,cJ,cond_false]) (N:=N) (by omega)
 exact hrun
theorem aJ7 {N:Nat} (hN:200≤N) {r:aB} (hr:gY r) {l:List aC} (hl:l.length≤144) {i:Nat} (hi:i < l.length) (hp:inP r l[i].Person) (hs:inS r l[i].Station) :
  fH N (rR r) (l.map rF) (i:Int)=some (cond (hldB r (l.take i) l[i]) (.cont ((i + 1:Nat):Int)) (.ret (false,0))):=by
 have hp2:=hr.p2
 have hrun:=vS (ρ:=bK Int (Bool × Int)) (fun q:Nat=>(((cnt r (l.take i) l[i] q:Nat):Int),(q:Int))) r.People.length (fun s25=>iC N (rR r) (l.map rF) (i:Int) (rF l[i]) (rF l[i]) s25.1 s25.2) (fun q hq=>by
  have hqP:inP r (q:Int):=⟨by omega,by omega⟩
  have hle:=aKw (r:=r) (ahead:=l.take i) (x:=l[i]) (i:=q)
  show iC N (rR r) (l.map rF) (i:Int) (rF l[i]) (rF l[i]) ((cnt r (l.take i) l[i] q:Nat):Int) (q:Int)=_
  unfold iC lC
  show cond (decide ((q:Int) < ((r.People.length:Nat):Int))) (Option.bind (eF N (rR r) (q:Int) l[i].Station) fun r_2=>Option.bind (cond (!r_2) (some true) (Option.bind (aU (rR r).Stations l[i].Station) fun e_4=>Option.bind (dB N e_4.Order (q:Int)) fun r_3=>Option.bind (aU (rR r).Stations l[i].Station) fun e_5=>Option.bind (dB N e_5.Order l[i].Person) fun r_4=>some (decide (r_4≤r_3)))) _) _=_
  rw [cM hq,cond_true,aEf (by omega) hr hs hqP,Option.bind_some,rst hs,Option.bind_some,aI7 hr (by omega) hs,Option.bind_some,Option.bind_some,aI7 hr (by omega) hs,Option.bind_some,cI (by omega),cI (by omega),aF5 hq]
  unfold okQ
  by_cases h1:kF r (q:Int) l[i].Station
  ·rw [decide_eq_true h1,Bool.not_true,cond_false,Option.bind_some]
   by_cases h2:rk r l[i].Station l[i].Person≤rk r l[i].Station (q:Int)
   ·rw [decide_eq_true h2,cond_true,decide_eq_false (show ¬ rk r l[i].Station (q:Int) < rk r l[i].Station l[i].Person by omega)]
    rfl
   ·rw [decide_eq_false h2,cond_false,decide_eq_true (show rk r l[i].Station (q:Int) < rk r l[i].Station l[i].Person by omega)]
    obtain ⟨j,hj,hx⟩:=List.getElem_of_mem h1.2
    rw [aOb hN hr hl hi hqP hj hx,Option.bind_some]
    show cond (((opn r (l.take i) (q:Int) j:Nat):Int) == 0) _ _=_
    rw [aLg (hr.pn _ (kQ hqP)) hj,hx]
    cases betB r (l.take i) (q:Int) l[i].Station <;> rfl
  ·rw [decide_eq_false h1,Bool.not_false,cond_true,Option.bind_some,cond_true]
   rfl) (by
  show iC N (rR r) (l.map rF) (i:Int) (rF l[i]) (rF l[i]) _ (r.People.length:Int)=_
  unfold iC
  show cond (decide (((r.People.length:Nat):Int) < ((r.People.length:Nat):Int))) _ _=_
  rw [cJ,cond_false]) (N:=N) (by omega)
 have h0:cnt r (l.take i) l[i] 0=0:=by unfold cnt; rfl
 simp only [h0] at hrun
 unfold fH nH
 show cond (decide ((i:Int) < (((l.map rF).length:Nat):Int))) _ _=_
 rw [List.length_map,cM hi,cond_true,gRF hi,Option.bind_some,Option.bind_some]
 show Option.bind (eF N (rR r) l[i].Person l[i].Station) (fun r_1=>cond (!r_1) _ (Option.bind (aS (fun s25=>iC N (rR r) (l.map rF) (i:Int) (rF l[i]) (rF l[i]) s25.1 s25.2) N (((0:Nat):Int),((0:Nat):Int))) fun x25=>exK x25 (fun s25=>Option.bind (aU (rR r).Stations l[i].Station) _) some))=_
 rw [aEf (by omega) hr hs hp,Option.bind_some,hrun,Option.bind_some,cI (by omega)]
 simp only [exK]
 rw [rst hs,Option.bind_some]
 unfold hldB
 cases decide (kF r l[i].Person l[i].Station) with
 | false=>rfl
 | true=>
  show cond (decide (((cnt r (l.take i) l[i] r.People.length:Nat):Int) < (sta r l[i].Station).Places)) _ _=_
  by_cases h:(sta r l[i].Station).Places≤((cnt r (l.take i) l[i] r.People.length:Nat):Int)
  ·rw [decide_eq_false (by omega),decide_eq_true h]; rfl
  ·rw [decide_eq_true (by omega),decide_eq_false h]; rfl
def okF (r:aB) (x:aC):Bool:=inB x.Person 0 ((r.People.length:Int) - 1) && inB x.Station 0 ((r.Stations.length:Int) - 1)
theorem zZ {r:aB} {x:aC}:okF r x=true ↔ inP r x.Person∧inS r x.Station:=by
 unfold okF inB
 simp only [Bool.and_eq_true,decide_eq_true_eq]
 omega
noncomputable def hres (r:aB) (l:List aC):Bool × Int :=
 cond (decide (144 < l.length)) (false,3) (cond (l.all (okF r)) (match eX (fun i=>cond (hldB r (l.take i) (l.getD i ⟨0,0⟩)) none (some (false,(0:Int)))) 0 l.length with | some x=>x | none=>(true,0)) (false,2))
theorem aMg {N:Nat} (hN:200≤N) {r:aB} (hr:gY r) {l:List aC} (hl:l.length≤150):mS N r l=some (hres r l):=by
 obtain ⟨rank,h1,h2⟩:=xV (N:=N) (by omega) hr
 have hw:WOk r rank:=⟨hr,h2⟩
 have hp2:=hr.p2
 have hs2:=hr.s2
 unfold mS hres
 rw [h1,Option.bind_some]
 simp only [aB0,bne_self_eq_false,cond_false]
 have c1:eZ N l r=some (l.all (okF r)):=by
  unfold eZ cE cL
  refine uP (f:=fun x=>dX x r) (fun x=>?_) (by omega) (by omega) _ fun x=>rfl
  unfold dX qH aE okF inB
  rw [zK (by omega) (by omega),zK (by omega) (by omega)]
 by_cases h144:144 < l.length
 ·rw [show decide (144 < ((l.length:Nat):Int))=true by rw [decide_eq_true_eq]; omega,decide_eq_true h144]; rfl
 ·rw [show decide (144 < ((l.length:Nat):Int))=false by rw [decide_eq_false_iff_not]; omega,decide_eq_false h144,cond_false,cond_false,c1,Option.bind_some]
  cases hok:l.all (okF r) with
  | false=>rfl
  | true=>
   rw [Bool.not_true,cond_false,cond_true]
   have hrun:=rW (ρ:=Bool × Int) (fun i:Nat=>(i:Int)) (fun i=>cond (hldB r (l.take i) (l.getD i ⟨0,0⟩)) none (some (false,(0:Int)))) l.length (fun s28=>jH N r l (rank,0) s28) (fun i hi=>by
    show jH N r l (rank,0) (i:Int)=_
    unfold jH
    obtain ⟨a1,b1⟩:=zZ.1 (List.all_eq_true.1 hok _ (List.getElem_mem hi))
    have hsub:yP l 0 (i:Int)=some (l.take i):=by
     unfold yP
     rw [if_pos ⟨by omega,by omega,by omega⟩]
     simp
    rw [cM hi,cond_true,bS hi,Option.bind_some,hsub,Option.bind_some,aJ4 hN hw (by rw [List.length_take]; omega) a1 b1,Option.bind_some,cI (by omega),dP (d:=⟨0,0⟩) hi]
    cases hldB r (l.take i) (l.getD i ⟨0,0⟩) <;> rfl) (by
    show jH N r l (rank,0) _=_
    unfold jH
    rw [cJ,cond_false]) l.length 0 N (by omega) (by omega)
   show Option.bind (aS (fun s28=>jH N r l (rank,0) s28) N ((0:Nat):Int)) _=_
   rw [hrun,Option.bind_some]
   cases eX (fun i=>cond (hldB r (l.take i) (l.getD i ⟨0,0⟩)) none (some (false,(0:Int)))) 0 l.length <;> rfl
theorem aH2 {N:Nat} (hN:200≤N) {r:aB} (hm:Sml r) (hr:gY r) {l:List aC} (hl:l.length≤150):lG N (rR r) (l.map rF)=some (hres r l):=by
 have hp2:=hr.p2
 have hs2:=hr.s2
 have hsl:(rR r).Stations.length=r.Stations.length:=List.length_map ..
 unfold lG hres
 rw [tY (by omega) hm,zM.2 hr,Option.bind_some,bne_self_eq_false,cond_false,List.length_map]
 by_cases h144:144 < l.length
 ·rw [show decide (144 < ((l.length:Nat):Int))=true by rw [decide_eq_true_eq]; omega,decide_eq_true h144]; rfl
 ·rw [show decide (144 < ((l.length:Nat):Int))=false by rw [decide_eq_false_iff_not]; omega,decide_eq_false h144,cond_false,cond_false]
  have l1:=rW (ρ:=Bool × Int) (fun i:Nat=>(i:Int)) (fun j=>cond (okF r (l.getD j ⟨0,0⟩)) none (some (false,(2:Int)))) l.length (fun s11=>iH N (rR r) (l.map rF) s11) (fun i hi=>by
   show iH N (rR r) (l.map rF) (i:Int)=_
   unfold iH cB
   rw [List.length_map,cM hi,cond_true,gRF hi,Option.bind_some,Option.bind_some,hsl,cI (by omega)]
   show Option.bind (cond (decide (l[i].Person < 0) || decide (W (((r.People.length:Nat):Int) - 1) < l[i].Person)) (some true) (some (decide (l[i].Station < 0) || decide (W (((r.Stations.length:Nat):Int) - 1) < l[i].Station)))) _=_
   rw [zK (by omega) (by omega),zK (by omega) (by omega),dP (d:=⟨0,0⟩) hi]
   cases hk:okF r (l.getD i ⟨0,0⟩) with
   | true=>
    obtain ⟨a1,a2⟩:=zZ.1 hk
    rw [decide_eq_false (by omega),decide_eq_false (by omega),decide_eq_false (by omega),decide_eq_false (by omega)]
    rfl
   | false=>
    have hno:¬ (inP r (l.getD i ⟨0,0⟩).Person∧inS r (l.getD i ⟨0,0⟩).Station):=fun h=>by rw [zZ.2 h] at hk; cases hk
    by_cases a1:inP r (l.getD i ⟨0,0⟩).Person
    ·have a2:(decide ((l.getD i ⟨0,0⟩).Station < 0) || decide (((r.Stations.length:Nat):Int) - 1 < (l.getD i ⟨0,0⟩).Station))=true:=by
      rw [Bool.or_eq_true,decide_eq_true_eq,decide_eq_true_eq]
      have:¬ inS r (l.getD i ⟨0,0⟩).Station:=fun h=>hno ⟨a1,h⟩
      unfold inS at this
      omega
     rw [decide_eq_false (show ¬ (l.getD i ⟨0,0⟩).Person < 0 by omega),decide_eq_false (show ¬ ((r.People.length:Nat):Int) - 1 < (l.getD i ⟨0,0⟩).Person by omega),a2]
     rfl
    ·have a2:(decide ((l.getD i ⟨0,0⟩).Person < 0) || decide (((r.People.length:Nat):Int) - 1 < (l.getD i ⟨0,0⟩).Person))=true:=by
      rw [Bool.or_eq_true,decide_eq_true_eq,decide_eq_true_eq]
      unfold inP at a1
      omega
     rw [a2]
     rfl) (by
   show iH N (rR r) (l.map rF) (l.length:Int)=_
   unfold iH
   rw [List.length_map,cJ,cond_false]) l.length 0 N (by omega) (by omega)
  show Option.bind (aS (fun s11=>iH N (rR r) (l.map rF) s11) N ((0:Nat):Int)) (fun x11=>exK x11 (fun s11=>Option.bind (aS (fun s14=>fH N (rR r) (l.map rF) s14) N ((0:Nat):Int)) _) some)=_
  rw [l1,pH (p:=okF r) (d:=⟨0,0⟩) l.length 0 (by omega),List.drop_zero,Option.bind_some]
  cases hok:l.all (okF r) with
  | false=>rfl
  | true=>
   have l2:=rW (ρ:=Bool × Int) (fun i:Nat=>(i:Int)) (fun i=>cond (hldB r (l.take i) (l.getD i ⟨0,0⟩)) none (some (false,(0:Int)))) l.length (fun s14=>fH N (rR r) (l.map rF) s14) (fun i hi=>by
    obtain ⟨a1,b1⟩:=zZ.1 (List.all_eq_true.1 hok _ (List.getElem_mem hi))
    show fH N (rR r) (l.map rF) (i:Int)=_
    rw [aJ7 hN hr (by omega) hi a1 b1,dP (d:=⟨0,0⟩) hi]
    cases hldB r (l.take i) (l.getD i ⟨0,0⟩) <;> rfl) (by
    show fH N (rR r) (l.map rF) (l.length:Int)=_
    unfold fH
    rw [List.length_map,cJ,cond_false]) l.length 0 N (by omega) (by omega)
   show Option.bind (aS (fun s14=>fH N (rR r) (l.map rF) s14) N ((0:Nat):Int)) _=_
   rw [l2,Option.bind_some,cond_true]
   cases eX (fun i=>cond (hldB r (l.take i) (l.getD i ⟨0,0⟩)) none (some (false,(0:Int)))) 0 l.length <;> rfl
end Go.Nilo
