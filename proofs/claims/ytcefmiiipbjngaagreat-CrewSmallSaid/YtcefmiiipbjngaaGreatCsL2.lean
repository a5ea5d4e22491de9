/-
  What the plain functions compute, in plain arithmetic, part 2. Conditions: what each theorem names.
-/
import Derived.Test.YtcefmiiipbjngaaGreatCsL1
set_option linter.unusedSimpArgs false
set_option linter.unusedVariables false
namespace Go.Nilo
theorem aRz {α:Type} {l:List α} {i:Int} {e:α} (h:aQ l i=some e):e ∈ l:=by
 unfold aQ at h
 split at h
 ·exact List.mem_of_getElem? h
 ·cases h
theorem aGo {N:Nat} {α:Type} {l:List α} {ok:α→Bool} (g:α→Option Bool) (hg:∀ x ∈ l,g x=some (!ok x)) (hl:l.length < N) (hl':l.length≤1000000) (b:Int→Option (bC Int Int))
  (hb:∀ x,b x=cond (decide (x < ((l.length:Nat):Int))) (Option.bind (aQ l x) λe=>Option.bind (g e) λr=>cond r (some (.ret x)) (some (.cont (W (x + 1))))) (some (.brk x))) :
  (Option.bind (Option.bind (Option.bind (aS b N 0) λx4=>exK x4 (λ_=>some (-1)) some) λr=>some (decide (0≤r))) λr=>some (!r))=some (l.all ok):=by
 refine rU (f:=λx=>!ok x) (λ_=>rfl) hl hl' b λx=>?_
 rw [hb]
 cases hx:aQ l x with
 | none=>rfl
 | some e=>
  simp only [Option.bind_some]
  rw [hg e (aRz hx),Option.bind_some]
theorem aHj {N:Nat} {l:List Int} {v:Int} (hl:l.length≤1000000) (hN:l.length < N):eH N l v=some (sQ l v):=by
 unfold eH sQ
 have hf:(λe=>v == e)=λe:Int=>e == v:=funext λe=>Bool.beq_comm
 rw [hf]
 have:=aFh (λe=>e == v) l hl (λs4=>yU N l v s4) (λx=>rfl) l.length 0 N (by omega) hN (λj h hj=>by omega)
 rw [show ((0:Nat):Int)=0 from rfl] at this
 rcases this with ⟨h1,h2⟩ | ⟨h1,h2⟩
 ·rw [if_pos h1,h2]; rfl
 ·rw [if_neg (by omega),h2]; rfl
def rng (n:Nat) (l:List Int):Bool:=l.all λx=>inB x 0 ((n:Int) - 1)
def lst (n:Nat) (l:List Int):Int:=cond (rng n l) (if l.Nodup then 0 else 2) 1
theorem aD8 {l:List Int} {i:Nat} (hi:i < l.length):(l.take (i + 1)).Nodup ↔ (l.take i).Nodup∧l[i] ∉ l.take i:=by
 rw [List.take_succ_eq_append_getElem hi,List.nodup_append]
 constructor
 ·rintro ⟨h1,-,h2⟩
  exact ⟨h1,λh=>h2 _ h _ (List.mem_singleton.2 rfl) rfl⟩
 ·rintro ⟨h1,h2⟩
  refine ⟨h1,List.nodup_cons.2 ⟨List.not_mem_nil,List.nodup_nil⟩,λa ha b hb=>?_⟩
  rw [List.mem_singleton.1 hb]
  rintro rfl
  exact h2 ha
theorem aTo {l:List Int} {i:Nat} (hi:i < l.length):sQ l l[i] < (i:Int) ↔ l[i] ∈ l.take i:=by
 obtain ⟨j,h1,h2,h3⟩:=aC8 (List.getElem_mem hi)
 constructor
 ·intro h
  refine List.mem_iff_getElem.2 ⟨j,by rw [List.length_take]; omega,?_⟩
  rw [List.getElem_take]
  exact h3
 ·intro h
  obtain ⟨k,hk,he⟩:=List.getElem_of_mem h
  rw [List.length_take] at hk
  rw [List.getElem_take] at he
  have hfi:l.findIdx (λe=>l[i] == e)≤k:=by
   apply Nat.le_of_not_lt
   intro hc
   have:=List.not_of_lt_findIdx hc
   rw [he] at this
   simp at this
  unfold sQ
  rw [if_pos (by omega)]
  omega
theorem aIr {ρ:Type} {l:List Int} {v:ρ}:∀ m i,i + m=l.length→(l.take i).Nodup→eM (λj=>if l.getD j 0 ∈ l.take j then some v else none) i m=if l.Nodup then none else some v
 | 0,i,hi,hn=>by
  rw [List.take_of_length_le (by omega)] at hn
  rw [if_pos hn]
  rfl
 | m + 1,i,hi,hn=>by
  have hlt:i < l.length:=by omega
  unfold eM
  by_cases h:l.getD i 0 ∈ l.take i
  ·rw [if_pos h,if_neg]
   intro hl
   rw [← cP hlt] at h
   have hs:(l.take (i + 1)).Nodup:=hl.sublist (List.take_sublist _ _)
   exact ((aD8 hlt).1 hs).2 h
  ·rw [if_neg h]
   rw [← cP hlt] at h
   exact aIr m (i + 1) (by omega) ((aD8 hlt).2 ⟨hn,h⟩)
theorem aP6 {N:Nat} {l:List Int} (hl:l.length≤1000) (hN:l.length < N):wD N l=some (decide l.Nodup):=by
 unfold wD
 have hs:=tP (ρ:=Bool) (λi:Nat=>(i:Int)) (λj=>if l.getD j 0 ∈ l.take j then some false else none) l.length (λs4=>jF N l s4) (λi hi=>by
  show jF N l (i:Int)=_
  unfold jF
  have hsub:yE l 0 (i:Int)=some (l.take i):=by
   unfold yE
   rw [if_pos ⟨by omega,by omega,by omega⟩]
   simp
  rw [bW hi,cond_true,bF hi,Option.bind_some,hsub,Option.bind_some,aCt (by rw [List.length_take]; omega) (by rw [List.length_take]; omega),Option.bind_some,cP (d:=(0:Int)) hi]
  by_cases h:l.getD i 0 ∈ l.take i
  ·rw [decide_eq_true h,cond_true,if_pos h]
  ·rw [decide_eq_false h,cond_false,if_neg h,bP (by omega)]) (by
  show jF N l _=_
  unfold jF
  rw [bU,cond_false]) l.length 0 N (by omega) hN
 rw [show (0:Int)=((0:Nat):Int) from rfl,hs,aIr l.length 0 (by omega) (by simp),Option.bind_some]
 by_cases h:l.Nodup
 ·rw [if_pos h,decide_eq_true h]; rfl
 ·rw [if_neg h,decide_eq_false h]; rfl
theorem aNu {N:Nat} {l:List Int} {n:Nat} (hn:n≤1000) (hl:l.length≤1000) (hN:l.length < N):tB N l (n:Int)=some (lst n l):=by
 unfold tB
 have hs:=tP (ρ:=Int) (λi:Nat=>(((if (l.take i).Nodup then 0 else 2:Int)),(i:Int))) (λj=>cond (inB (l.getD j 0) 0 ((n:Int) - 1)) none (some 1)) l.length (λs5=>jN N l (n:Int) s5.1 s5.2) (λi hi=>by
  show jN N l (n:Int) (if (l.take i).Nodup then 0 else 2) (i:Int)=_
  unfold jN rI aK
  rw [bW hi,cond_true,bF hi,Option.bind_some,Option.bind_some,fB (by omega) (by omega),aHj (by omega) hN,Option.bind_some,cP (d:=(0:Int)) hi]
  unfold inB
  by_cases h1:l.getD i 0 < 0
  ·rw [decide_eq_true h1,decide_eq_false (show ¬ 0≤l.getD i 0 by omega)]; rfl
  ·by_cases h2:(n:Int) - 1 < l.getD i 0
   ·rw [decide_eq_false h1,decide_eq_true h2,decide_eq_false (show ¬ l.getD i 0≤(n:Int) - 1 by omega),Bool.and_false]; rfl
   ·rw [decide_eq_false h1,decide_eq_false h2,decide_eq_true (show 0≤l.getD i 0 by omega),decide_eq_true (show l.getD i 0≤(n:Int) - 1 by omega),bP (by omega)]
    have hb:=aTo hi
    have ht:=aD8 hi
    rw [cP (d:=(0:Int)) hi] at hb ht
    by_cases h3:l.getD i 0 ∈ l.take i
    ·rw [decide_eq_true (hb.2 h3),if_neg (show ¬ (l.take (i + 1)).Nodup from λhh=>(ht.1 hh).2 h3)]; rfl
    ·rw [decide_eq_false (λhh=>h3 (hb.1 hh))]
     by_cases h4:(l.take i).Nodup
     ·rw [if_pos h4,if_pos (ht.2 ⟨h4,h3⟩)]; rfl
     ·rw [if_neg h4,if_neg (λhh=>h4 (ht.1 hh).1)]; rfl) (by
  show jN N l (n:Int) _ (l.length:Int)=_
  unfold jN
  rw [bU,cond_false]) l.length 0 N (by omega) hN
 have h0:(if (l.take 0).Nodup then 0 else 2:Int)=0:=by simp
 simp only [h0] at hs
 show Option.bind (aS (λs5=>jN N l (n:Int) s5.1 s5.2) N (0,((0:Nat):Int))) _=_
 rw [hs,oG (p:=λx=>inB x 0 ((n:Int) - 1)) (d:=0) l.length 0 (by omega),List.drop_zero,Option.bind_some]
 unfold lst rng
 cases l.all λx=>inB x 0 ((n:Int) - 1)
 ·rfl
 ·rw [List.take_length]; rfl
def rS (x:aD):bL:=⟨x.Places,x.Order⟩
def rR (r:aB):bR:=⟨r.People,r.Stations.map rS⟩
def aGk (n:Nat) (x:aD):Bool:=inB x.Places 1 12 && rng n x.Order
def chk (r:aB):Int :=
 cond ((!inB (r.People.length:Int) 1 12) || (!inB (r.Stations.length:Int) 1 12)) 3
  (cond (r.People.all (rng r.Stations.length) && r.Stations.all (aGk r.People.length))
   (cond ((r.People.all λl=>decide l.Nodup) && r.Stations.all λx=>decide x.Order.Nodup) 0 10) 120)
structure Sml (r:aB):Prop where
 p:r.People.length≤15
 s:r.Stations.length≤15
 pl:∀ l ∈ r.People,l.length≤15
 sl:∀ x ∈ r.Stations,x.Order.length≤15
theorem aNt {N:Nat} (hN:40≤N) {r:aB} (h:Sml r):nK N r=some (chk r):=by
 have hp:=h.p
 have hs:=h.s
 have c1:oB N r.People r=some (r.People.all (rng r.Stations.length)):=by
  unfold oB gJ iS
  refine aGo (λe=>lP N e r) (λl hl=>?_) (by omega) (by omega) _ λx=>rfl
  have hlen:=h.pl l hl
  have e:pV N l r=some (rng r.Stations.length l):=by
   unfold pV iB jW
   refine rU (f:=λx=>kO x r) (λx=>?_) (by omega) (by omega) _ λx=>rfl
   unfold kO sS aR inB
   rw [fB (by omega) (by omega)]
  unfold lP xT
  show Option.bind (Option.bind (pV N l r) _) _=_
  rw [e]
  rfl
 have c2:fU N r.Stations r=some (r.Stations.all (aGk r.People.length)):=by
  unfold fU dC dI
  refine aGo (λe=>eX N e r) (λl hl=>?_) (by omega) (by omega) _ λx=>rfl
  have hlen:=h.sl l hl
  have e:lV N l.Order r=some (rng r.People.length l.Order):=by
   unfold lV fY iF
   refine rU (f:=λx=>gU x r) (λx=>?_) (by omega) (by omega) _ λx=>rfl
   unfold gU sN aR inB
   rw [fB (by omega) (by omega)]
  unfold eX xS
  show Option.bind (Option.bind (cond (inB l.Places 1 12) (Option.bind (lV N l.Order r) _) _) _) _=_
  rw [e]
  unfold aGk
  cases inB l.Places 1 12 <;> rfl
 have c3:kP N r.People=some (r.People.all λl=>decide l.Nodup):=by
  unfold kP fG gP
  refine aGo (λe=>lM N e) (λl hl=>?_) (by omega) (by omega) _ λx=>rfl
  have hlen:=h.pl l hl
  unfold lM
  rw [aP6 (by omega) (by omega)]
  rfl
 have c4:eJ N r.Stations=some (r.Stations.all λx=>decide x.Order.Nodup):=by
  unfold eJ cW dF
  refine aGo (λe=>fE N e) (λl hl=>?_) (by omega) (by omega) _ λx=>rfl
  have hlen:=h.sl l hl
  unfold fE yC
  rw [aP6 (by omega) (by omega)]
  rfl
 unfold nK
 rw [c1,c2,c3,c4]
 unfold chk
 show cond ((!inB (r.People.length:Int) 1 12) || (!inB (r.Stations.length:Int) 1 12)) _ _=_
 cases (!inB (r.People.length:Int) 1 12) || (!inB (r.Stations.length:Int) 1 12)
 ·cases r.People.all (rng r.Stations.length)
  ·rfl
  ·cases r.Stations.all (aGk r.People.length)
   ·rfl
   ·cases r.People.all λl=>decide l.Nodup
    ·rfl
    ·cases r.Stations.all λx=>decide x.Order.Nodup <;> rfl
 ·rfl
theorem aB8 {α:Type} {l:List α} {f:α→Bool} {i:Nat} (hi:i < l.length):(l.take (i + 1)).any f=((l.take i).any f || f l[i]):=by
 rw [List.take_succ_eq_append_getElem hi,List.any_append]
 simp
theorem aNk {n:Nat} {l:List Int}:(lst n l == 1) = !rng n l:=by
 unfold lst
 cases rng n l
 ·rfl
 ·by_cases h:l.Nodup
  ·rw [cond_true,if_pos h]; rfl
  ·rw [cond_true,if_neg h]; rfl
theorem zX {N:Nat} (hN:40≤N) {r:aB} (h:Sml r):qK N (rR r)=some (chk r):=by
 have hp:=h.p
 have hs:=h.s
 have hsl:(rR r).Stations.length=r.Stations.length:=List.length_map ..
 have l8:=tP (ρ:=Int) (λi:Nat=>((r.People.take i).any λl=>lst r.Stations.length l == 2,(i:Int))) (λj=>cond (rng r.Stations.length (r.People.getD j [])) none (some 120)) r.People.length (λs8=>kZ N (rR r) s8.1 s8.2) (λi hi=>by
  show kZ N (rR r) ((r.People.take i).any λl=>lst r.Stations.length l == 2) (i:Int)=_
  unfold kZ
  have hl:=h.pl _ (List.getElem_mem hi)
  rw [hsl]
  show cond (decide ((i:Int) < ((r.People.length:Nat):Int))) (Option.bind (aQ r.People (i:Int)) _) _=_
  rw [bW hi,cond_true,bF hi,Option.bind_some,aNu (by omega) (by omega) (by omega),Option.bind_some,aNk,aB8 hi,bP (by omega),cP (d:=[]) hi]
  cases rng r.Stations.length (r.People.getD i []) <;> rfl) (by
  show kZ N (rR r) _ (r.People.length:Int)=_
  unfold kZ
  show cond (decide (((r.People.length:Nat):Int) < ((r.People.length:Nat):Int))) _ _=_
  rw [bU,cond_false]) r.People.length 0 N (by omega) (by omega)
 have l11:∀ t:Bool,aS (λs11=>iA N (rR r) s11.1 s11.2) N (t,((0:Nat):Int))=_:=λt=>by
  have:=tP (ρ:=Int) (λi:Nat=>(t || (r.Stations.take i).any λx=>lst r.People.length x.Order == 2,(i:Int))) (λj=>cond (aGk r.People.length (r.Stations.getD j ⟨0,[]⟩)) none (some 120)) r.Stations.length (λs11=>iA N (rR r) s11.1 s11.2) (λi hi=>by
   show iA N (rR r) (t || (r.Stations.take i).any λx=>lst r.People.length x.Order == 2) (i:Int)=_
   unfold iA aK
   have hl:=h.sl _ (List.getElem_mem hi)
   rw [hsl,bF (l:=(rR r).Stations) (i:=i) (by omega),show (rR r).Stations[i]'(by omega)=rS r.Stations[i] from List.getElem_map ..]
   show cond (decide ((i:Int) < ((r.Stations.length:Nat):Int))) (Option.bind (tB N r.Stations[i].Order (r.People.length:Int)) λr_0=>Option.bind (cond (r_0 == 1) (some true) (some (decide (r.Stations[i].Places < 1) || decide (12 < r.Stations[i].Places)))) _) _=_
   rw [bW hi,cond_true,aNu (by omega) (by omega) (by omega),Option.bind_some,aNk,aB8 hi,bP (by omega),cP (d:=⟨0,[]⟩) hi]
   unfold aGk inB
   cases rng r.People.length (r.Stations.getD i ⟨0,[]⟩).Order
   ·rw [Bool.and_false]; rfl
   ·by_cases h1:(r.Stations.getD i ⟨0,[]⟩).Places < 1
    ·rw [decide_eq_true h1,decide_eq_false (show ¬ 1≤(r.Stations.getD i ⟨0,[]⟩).Places by omega)]; rfl
    ·by_cases h2:12 < (r.Stations.getD i ⟨0,[]⟩).Places
     ·rw [decide_eq_false h1,decide_eq_true h2,decide_eq_false (show ¬ (r.Stations.getD i ⟨0,[]⟩).Places≤12 by omega),Bool.and_false]; rfl
     ·rw [decide_eq_false h1,decide_eq_false h2,decide_eq_true (show 1≤(r.Stations.getD i ⟨0,[]⟩).Places by omega),decide_eq_true (show (r.Stations.getD i ⟨0,[]⟩).Places≤12 by omega),← Bool.or_assoc]; rfl) (by
   show iA N (rR r) _ (r.Stations.length:Int)=_
   unfold iA
   rw [hsl,bU,cond_false]) r.Stations.length 0 N (by omega) (by omega)
  simp only [List.take_zero,List.any_nil,Bool.or_false] at this
  exact this
 unfold qK chk
 rw [hsl]
 show cond ((((decide (((r.People.length:Nat):Int) < 1)) || (decide (12 < ((r.People.length:Nat):Int)))) || (decide (((r.Stations.length:Nat):Int) < 1))) || (decide (12 < ((r.Stations.length:Nat):Int)))) _ (Option.bind (aS (λs8=>kZ N (rR r) s8.1 s8.2) N (((r.People.take 0).any λl=>lst r.Stations.length l == 2),((0:Nat):Int))) λx8=>exK x8 (λs8=>Option.bind (aS (λs11=>iA N (rR r) s11.1 s11.2) N (s8.1,((0:Nat):Int))) _) some)=_
 have hg:((((decide (((r.People.length:Nat):Int) < 1)) || (decide (12 < ((r.People.length:Nat):Int)))) || (decide (((r.Stations.length:Nat):Int) < 1))) || (decide (12 < ((r.Stations.length:Nat):Int))))=((!inB (r.People.length:Int) 1 12) || (!inB (r.Stations.length:Int) 1 12)):=by
  unfold inB
  rw [Bool.eq_iff_iff]
  simp only [Bool.or_eq_true,decide_eq_true_eq,Bool.not_eq_true',Bool.and_eq_false_iff,decide_eq_false_iff_not]
  omega
 rw [hg,l8,oG r.People.length 0 (by omega),List.drop_zero,Option.bind_some]
 simp only [l11,oG r.Stations.length 0 (Nat.zero_add _),List.drop_zero]
 cases (!inB (r.People.length:Int) 1 12) || (!inB (r.Stations.length:Int) 1 12) with
 | true=>rfl
 | false=>
  cases hA:r.People.all (rng r.Stations.length) with
  | false=>rfl
  | true=>
   cases hB:r.Stations.all (aGk r.People.length) with
   | false=>rfl
   | true=>
    have e1:∀ {l:List Int} {n:Nat},rng n l=true→(lst n l == 2) = !decide l.Nodup:=fun {l n} hr=>by
     unfold lst
     rw [hr,cond_true]
     by_cases hh:l.Nodup
     ·rw [if_pos hh,decide_eq_true hh]; rfl
     ·rw [if_neg hh,decide_eq_false hh]; rfl
    have e2:(r.People.any λl=>lst r.Stations.length l == 2) = !(r.People.all λl=>decide l.Nodup):=by
     rw [Bool.eq_iff_iff,List.any_eq_true,Bool.not_eq_true',List.all_eq_false]
     constructor
     ·rintro ⟨l,hl,hh⟩
      rw [e1 (List.all_eq_true.1 hA l hl)] at hh
      exact ⟨l,hl,by simpa using hh⟩
     ·rintro ⟨l,hl,hh⟩
      exact ⟨l,hl,by rw [e1 (List.all_eq_true.1 hA l hl)]; simpa using hh⟩
    have e3:(r.Stations.any λx=>lst r.People.length x.Order == 2) = !(r.Stations.all λx=>decide x.Order.Nodup):=by
     have hr:∀ x ∈ r.Stations,rng r.People.length x.Order=true:=λx hx=>by
      have:=List.all_eq_true.1 hB x hx
      unfold aGk at this
      exact (Bool.and_eq_true_iff.1 this).2
     rw [Bool.eq_iff_iff,List.any_eq_true,Bool.not_eq_true',List.all_eq_false]
     constructor
     ·rintro ⟨l,hl,hh⟩
      rw [e1 (hr l hl)] at hh
      exact ⟨l,hl,by simpa using hh⟩
     ·rintro ⟨l,hl,hh⟩
      exact ⟨l,hl,by rw [e1 (hr l hl)]; simpa using hh⟩
    simp only [cond_false,cond_true,Bool.and_self]
    show exK (Ex.go (((r.People.take r.People.length).any λl=>lst r.Stations.length l == 2),(r.People.length:Int))) _ _=_
    rw [List.take_length,e2]
    show cond ((!(r.People.all λl=>decide l.Nodup)) || (r.Stations.take r.Stations.length).any λx=>lst r.People.length x.Order == 2) (some 10) (some 0)=_
    rw [List.take_length,e3]
    cases r.People.all λl=>decide l.Nodup
    ·rfl
    ·cases r.Stations.all λx=>decide x.Order.Nodup <;> rfl
theorem aDr {r:aB}:chk r=0 ↔ iX r:=by
 have hrng:∀ {n:Nat} {l:List Int},rng n l=true ↔ ∀ x ∈ l,0≤x∧x < (n:Int):=fun {n l}=>by
  unfold rng inB
  rw [List.all_eq_true]
  refine forall₂_congr λx _=>?_
  rw [Bool.and_eq_true,decide_eq_true_eq,decide_eq_true_eq]
  omega
 unfold chk
 constructor
 ·intro h
  cases h1:(!inB (r.People.length:Int) 1 12) || (!inB (r.Stations.length:Int) 1 12) with
  | true=>rw [h1] at h; cases h
  | false=>
   rw [h1,cond_false] at h
   cases h2:r.People.all (rng r.Stations.length) && r.Stations.all (aGk r.People.length) with
   | false=>rw [h2] at h; cases h
   | true=>
    rw [h2,cond_true] at h
    cases h3:(r.People.all λl=>decide l.Nodup) && r.Stations.all λx=>decide x.Order.Nodup with
    | false=>rw [h3] at h; cases h
    | true=>
     unfold inB at h1
     simp only [Bool.or_eq_false_iff,Bool.not_eq_false',Bool.and_eq_true,decide_eq_true_eq] at h1
     rw [Bool.and_eq_true,List.all_eq_true,List.all_eq_true] at h2 h3
     have hst:∀ x ∈ r.Stations,(1≤x.Places∧x.Places≤12)∧∀ p ∈ x.Order,0≤p∧p < np r:=λx hx=>by
      have:=h2.2 x hx
      unfold aGk at this
      rw [Bool.and_eq_true,hrng] at this
      unfold inB at this
      rw [Bool.and_eq_true,decide_eq_true_eq,decide_eq_true_eq] at this
      exact this
     exact ⟨by omega,by omega,by omega,by omega,λl hl=>of_decide_eq_true (h3.1 l hl),λl hl=>hrng.1 (h2.1 l hl),λx hx=>(hst x hx).1,λx hx=>of_decide_eq_true (h3.2 x hx),λx hx=>(hst x hx).2⟩
 ·rintro ⟨p1,p2,s1,s2,pn,pr,sp,sn,sr⟩
  have h1:((!inB (r.People.length:Int) 1 12) || (!inB (r.Stations.length:Int) 1 12))=false:=by
   unfold inB
   rw [decide_eq_true (by omega),decide_eq_true (by omega),decide_eq_true (by omega),decide_eq_true (by omega)]
   rfl
  have h2:(r.People.all (rng r.Stations.length) && r.Stations.all (aGk r.People.length))=true:=by
   rw [Bool.and_eq_true,List.all_eq_true,List.all_eq_true]
   refine ⟨λl hl=>hrng.2 (pr l hl),λx hx=>?_⟩
   unfold aGk
   rw [Bool.and_eq_true]
   refine ⟨?_,hrng.2 (sr x hx)⟩
   unfold inB
   rw [decide_eq_true (sp x hx).1,decide_eq_true (sp x hx).2]
   rfl
  have h3:((r.People.all λl=>decide l.Nodup) && r.Stations.all λx=>decide x.Order.Nodup)=true:=by
   rw [Bool.and_eq_true,List.all_eq_true,List.all_eq_true]
   exact ⟨λl hl=>decide_eq_true (pn l hl),λx hx=>decide_eq_true (sn x hx)⟩
  rw [h1,h2,h3]
  rfl
end Go.Nilo
namespace Go.Nilo
theorem aSh {σ ρ:Type} (st:Nat→σ) (g:Nat→Option σ) (n:Nat) (b:σ→Option (bC σ ρ))
  (hb:∀ (i:Nat),i < n→b (st i)=some (match g i with | some r=>.brk r | none=>.cont (st (i + 1)))) (hend:b (st n)=some (.brk (st n))) :
  ∀ (m i N:Nat),i + m=n→m < N→aS b N (st i)=some (.go (match eM g i m with | some r=>r | none=>st n))
 | m,i,0,_,h=>by omega
 | 0,i,N + 1,hi,_=>by
  obtain rfl:i=n:=by omega
  unfold aS
  rw [hend]
  rfl
 | m + 1,i,N + 1,hi,hN=>by
  unfold aS eM
  rw [hb i (by omega)]
  cases hf:g i with
  | some r=>rfl
  | none=>exact aSh st g n b hb hend m (i + 1) N (by omega) (by omega)
theorem aD2 {α β:Type} {g:Nat→Option α} {f:α→β}:∀ m i,eM (λj=>(g j).map f) i m=(eM g i m).map f
 | 0,_=>rfl
 | m + 1,i=>by
  unfold eM
  cases g i with
  | some x=>rfl
  | none=>exact aD2 m (i + 1)
theorem aJf {ρ:Type} {P:Nat→Bool} {v:ρ}:∀ m i,(eM (λj=>cond (P j) (some v) none) i m=some v∧∃ j,i≤j∧j < i + m∧P j=true) ∨ (eM (λj=>cond (P j) (some v) none) i m=none∧∀ j,i≤j→j < i + m→P j=false)
 | 0,i=>.inr ⟨rfl,λj h1 h2=>by omega⟩
 | m + 1,i=>by
  unfold eM
  cases hp:P i with
  | true=>exact .inl ⟨rfl,i,Nat.le_refl _,by omega,hp⟩
  | false=>
   rcases aJf (P:=P) (v:=v) m (i + 1) with ⟨h1,j,h2,h3,h4⟩ | ⟨h1,h2⟩
   ·exact .inl ⟨h1,j,by omega,by omega,h4⟩
   ·refine .inr ⟨h1,λj h3 h4=>?_⟩
    by_cases h:j=i
    ·rw [h]; exact hp
    ·exact h2 j (by omega) (by omega)
theorem aP7 {σ ρ:Type} (st:Nat→σ) (l:List Int) (stop hit:Int→Bool) (v:Int→ρ) (b:σ→Option (bC σ ρ))
  (hb:∀ i (hi:i < l.length),b (st i)=some (cond (stop l[i]) (.brk (st i)) (cond (hit l[i]) (.ret (v l[i])) (.cont (st (i + 1)))))) (hend:b (st l.length)=some (.brk (st l.length))) :
  ∀ (m i N:Nat),i + m=l.length→m < N→∃ k,aS b N (st i)=some (match ((l.drop i).takeWhile λx=>!stop x).find? hit with | some x=>.out (v x) | none=>.go (st k))
 | m,i,0,_,h=>by omega
 | 0,i,N + 1,hi,_=>by
  obtain rfl:i=l.length:=by omega
  refine ⟨l.length,?_⟩
  unfold aS
  rw [hend,List.drop_length]
  rfl
 | m + 1,i,N + 1,hi,hN=>by
  have hil:i < l.length:=by omega
  unfold aS
  rw [hb i hil,List.drop_eq_getElem_cons hil,List.takeWhile_cons]
  cases hs:stop l[i] with
  | true=>exact ⟨i,rfl⟩
  | false=>
   cases hh:hit l[i] with
   | true=>
    refine ⟨0,?_⟩
    rw [show (!false)=true from rfl,if_pos rfl,List.find?_cons,hh]
    rfl
   | false=>
    obtain ⟨k,hk⟩:=aP7 st l stop hit v b hb hend m (i + 1) N (by omega) (by omega)
    refine ⟨k,?_⟩
    rw [show (!false)=true from rfl,if_pos rfl,List.find?_cons,hh]
    exact hk
theorem rst {r:aB} {s:Int} (hs:inS r s):aQ (rR r).Stations s=some (rS (sta r s)):=by
 obtain ⟨n,rfl⟩:=Int.eq_ofNat_of_zero_le hs.1
 have hn:n < r.Stations.length:=by have:=hs.2; omega
 rw [bF (l:=(rR r).Stations) (i:=n) (by show n < (r.Stations.map rS).length; rw [List.length_map]; exact hn),show (rR r).Stations[n]'(by show n < (r.Stations.map rS).length; rw [List.length_map]; exact hn)=rS r.Stations[n] from List.getElem_map ..]
 unfold sta
 rw [Int.toNat_natCast,← cP hn]
theorem rpp {r:aB} {p:Int} (hp:inP r p):aQ (rR r).People p=some (pf r p):=jB [] hp.1 hp.2
theorem aSv {l:List Int} {v:Int}:(sQ l v != -1)=decide (v ∈ l):=by
 by_cases h:v ∈ l
 ·rw [decide_eq_true h,bne_iff_ne]; exact aGq.2 h
 ·rw [decide_eq_false h,aHb h]; rfl
theorem aI8 {N:Nat} (hN:40≤N) {r:aB} (hr:iX r) {s p:Int} (hs:inS r s) (hp:inP r p):gG N (rR r) p s=some (decide (mX r p s)):=by
 have h1:=hr.pf_len (nM hp)
 have h2:=hr.or_len (aGr hs)
 unfold gG
 rw [rpp hp,Option.bind_some,aHj (by omega) (by omega),Option.bind_some,rst hs,Option.bind_some,aHj (l:=(rS (sta r s)).Order) (by show (sta r s).Order.length≤_; omega) (by show (sta r s).Order.length < _; omega),Option.bind_some,aSv,aSv]
 by_cases h3:s ∈ pf r p
 ·rw [decide_eq_true h3,cond_true,Option.bind_some]
  congr 1
  exact decide_eq_decide.2 ⟨λh=>⟨h,h3⟩,λh=>h.1⟩
 ·rw [decide_eq_false h3,cond_false,Option.bind_some]
  congr 1
  symm
  exact decide_eq_false λh=>h3 h.2
theorem aLz {N:Nat} (hN:40≤N) {r:aB} (hr:iX r) {b:List Int} (hb:b.length=r.People.length) {s:Int}:uT N b s=some ((oK r b s).length:Int):=by
 have hp:=hr.p2
 have hpl:(ppl r).length=r.People.length:=by simp [ppl]
 have hrun:=rK (ρ:=Int) (λi:Nat=>(((((ppl r).take i).filter λp=>Asg b p == s).length:Int),(i:Int))) b.length (λs5=>lG N b s s5.1 s5.2) (λi hi=>by
  show lG N b s ((((ppl r).take i).filter λp=>Asg b p == s).length:Int) (i:Int)=_
  unfold lG sP
  have hle:=List.length_filter_le (λp=>Asg b p == s) ((ppl r).take i)
  rw [List.length_take] at hle
  have he:aQ b (i:Int)=some (Asg b (i:Int)):=jB (-1) (by omega) (by omega)
  rw [bW hi,cond_true,he,Option.bind_some,aHv (by omega),bP (by omega),bP (by omega)]
  by_cases h:Asg b (i:Int)=s
  ·rw [beq_iff_eq.2 h,if_pos h,List.length_append]; rfl
  ·rw [beq_eq_false_iff_ne.2 h,if_neg h,List.append_nil]; rfl) (by
  show lG N b s _ (b.length:Int)=_
  unfold lG
  rw [bU,cond_false]) (N:=N) (by omega)
 unfold uT
 show Option.bind (aS (λs5=>lG N b s s5.1 s5.2) N (((((ppl r).take 0).filter λp=>Asg b p == s).length:Int),((0:Nat):Int))) _=_
 rw [hrun,Option.bind_some]
 show some ((((ppl r).take b.length).filter λp=>Asg b p == s).length:Int)=_
 rw [List.take_of_length_le (by omega)]
 rfl
theorem aOd {N:Nat} {r:aB} (hr:iX r) (hN:40≤N) {s q:Int} (hs:inS r s):eH N (rS (sta r s)).Order q=some (rk r s q):=by
 have h2:=hr.or_len (aGr hs)
 exact aHj (l:=(sta r s).Order) (by omega) (by omega)
theorem aTh {N:Nat} (hN:40≤N) {r:aB} (hr:iX r) {b:List Int} (hb:b.length=r.People.length) {p s:Int} (hs:inS r s):zR N (rR r) b p s=some (aCr r b p s):=by
 have hp2:=hr.p2
 have hl:=tP (ρ:=Bool) (λi:Nat=>(i:Int)) (λj=>cond (decide (Asg b (j:Int)=s∧rk r s p < rk r s (j:Int))) (some true) none) b.length (λs7=>lJ N (rR r) b p s s7) (λi hi=>by
  show lJ N (rR r) b p s (i:Int)=_
  unfold lJ
  have he:aQ b (i:Int)=some (Asg b (i:Int)):=jB (-1) (by omega) (by omega)
  rw [bW hi,cond_true,he,Option.bind_some,rst hs,Option.bind_some,aOd hr hN hs,Option.bind_some,Option.bind_some,aOd hr hN hs,Option.bind_some,bP (by omega)]
  by_cases h1:Asg b (i:Int)=s
  ·rw [beq_iff_eq.2 h1,cond_true,Option.bind_some]
   by_cases h2:rk r s p < rk r s (i:Int)
   ·rw [decide_eq_true h2,decide_eq_true ⟨h1,h2⟩]; rfl
   ·rw [decide_eq_false h2,decide_eq_false (p:=Asg b (i:Int)=s∧rk r s p < rk r s (i:Int)) λh=>h2 h.2]; rfl
  ·rw [beq_eq_false_iff_ne.2 h1,decide_eq_false (p:=Asg b (i:Int)=s∧rk r s p < rk r s (i:Int)) λh=>h1 h.1]; rfl) (by
  show lJ N (rR r) b p s (b.length:Int)=_
  unfold lJ
  rw [bU,cond_false]) b.length 0 N (by omega) (by omega)
 unfold zR
 rw [aLz hN hr hb,Option.bind_some,rst hs,Option.bind_some]
 unfold aCr
 show cond (decide (((oK r b s).length:Int) < (sta r s).Places)) _ (Option.bind (aS (λs7=>lJ N (rR r) b p s s7) N ((0:Nat):Int)) _)=_
 rw [hl]
 cases decide (((oK r b s).length:Int) < (sta r s).Places) with
 | true=>rfl
 | false=>
  rcases aJf (P:=λj=>decide (Asg b (j:Int)=s∧rk r s p < rk r s (j:Int))) (v:=true) b.length 0 with ⟨h1,j,h2,h3,h4⟩ | ⟨h1,h2⟩
  ·rw [h1]
   have h4:=of_decide_eq_true h4
   have:((oK r b s).any λq=>decide (rk r s p < rk r s q))=true:=List.any_eq_true.2 ⟨(j:Int),vD.2 ⟨⟨by omega,by omega⟩,h4.1⟩,decide_eq_true h4.2⟩
   rw [this]
   rfl
  ·rw [h1]
   have:((oK r b s).any λq=>decide (rk r s p < rk r s q))=false:=List.any_eq_false.2 λq hq=>by
    have hq:=vD.1 hq
    obtain ⟨j,rfl⟩:=Int.eq_ofNat_of_zero_le hq.1.1
    have h3:=of_decide_eq_false (h2 j (Nat.zero_le _) (by have:=hq.1.2; omega))
    simp only [decide_eq_true_eq]
    exact λh=>h3 ⟨hq.2,h⟩
   rw [this]
   rfl
def aJn (r:aB) (b:List Int) (i:Nat):Bool:=decide (Asg b (i:Int) ≠ -1∧¬ (mX r (i:Int) (Asg b (i:Int))∧((oK r b (Asg b (i:Int))).length:Int)≤(sta r (Asg b (i:Int))).Places))
def aKy (r:aB) (b:List Int) (p s:Int):Bool:=decide (mX r p s) && aCr r b p s
def fnd (r:aB) (b:List Int) (p:Int) (i:Nat):Option Int:=(((pf r p).drop i).takeWhile λx=>!(x == Asg b p)).find? (aKy r b p)
def aMd (r:aB) (b:List Int) (i:Nat):Option (aA × Int):=cond (aJn r b i) (some (⟨0,0⟩,7)) none
def aH4 (r:aB) (b:List Int) (i:Nat):Option (aA × Int):=(fnd r b (i:Int) 0).map λs=>(⟨(i:Int),s⟩,0)
def bres (r:aB) (b:List Int):aA × Int :=
 match eM (aMd r b) 0 r.People.length with
 | some x=>x
 | none=>match eM (aH4 r b) 0 r.People.length with
  | some x=>x
  | none=>(⟨0,0⟩,5)
theorem aKq {N:Nat} (hN:40≤N) {ς:Type} {r:aB} {rank:Nat→Int} (h:WOk r rank) {b:List Int} {p:Int} (hp:inP r p) (g:ς→Int→Option (Rs ς)) (v:Int→ς) (z:ς)
  (hg:∀ s,s ∈ pf r p→mX r p s→g z s=some (cond (aCr r b p s) (.ret (v s)) (.go z))) :
  fA N ⟨r,rank⟩ p (Asg b p) (rY g) (.go z)=some (match fnd r b p 0 with | some s=>.ret (v s) | none=>.go z):=by
 have hf:∀ i (hi:i < (pf r p).length),fnd r b p i=cond ((pf r p)[i] == Asg b p) none (cond (aKy r b p (pf r p)[i]) (some (pf r p)[i]) (fnd r b p (i + 1))):=λi hi=>by
  unfold fnd
  rw [List.drop_eq_getElem_cons hi,List.takeWhile_cons]
  cases (pf r p)[i] == Asg b p with
  | true=>rfl
  | false=>
   rw [show (!false)=true from rfl,if_pos rfl,List.find?_cons]
   cases aKy r b p (pf r p)[i] <;> rfl
 obtain ⟨x,h1,h2⟩:=aD0 hN h (than:=Asg b p) hp (rY g) (λi sg=>sg=.go z∧fnd r b p 0=fnd r b p i) (λsg=>sg=match fnd r b p 0 with | some s=>.ret (v s) | none=>.go z)
  (λi hi sg hI hne hpo=>by
   obtain ⟨rfl,hI⟩:=hI
   have:=hg _ (List.getElem_mem hi) hpo
   rw [hf i hi,beq_eq_false_iff_ne.2 hne,cond_false] at hI
   unfold aKy at hI
   rw [decide_eq_true hpo,Bool.true_and] at hI
   refine ⟨_,_,by show (g z (pf r p)[i]).map _=_; rw [this]; rfl,λhb=>?_,λhb=>?_⟩
   ·cases hw:aCr r b p (pf r p)[i] with
    | true=>rw [hw] at hb; cases hb
    | false=>rw [hw] at hI; exact ⟨rfl,hI⟩
   ·cases hw:aCr r b p (pf r p)[i] with
    | true=>rw [hw,cond_true] at hI; rw [hI]; rfl
    | false=>rw [hw] at hb; cases hb)
  (λi hi sg hI hne hpo=>by
   obtain ⟨rfl,hI⟩:=hI
   rw [hf i hi,beq_eq_false_iff_ne.2 hne,cond_false] at hI
   unfold aKy at hI
   rw [decide_eq_false hpo,Bool.false_and] at hI
   exact ⟨rfl,hI⟩)
  (λi hi sg hI he=>by
   obtain ⟨rfl,hI⟩:=hI
   rw [hf i hi,beq_iff_eq.2 he,cond_true] at hI
   rw [hI])
  (λsg hI=>by
   obtain ⟨rfl,hI⟩:=hI
   have:fnd r b p (pf r p).length=none:=by unfold fnd; rw [List.drop_length]; rfl
   rw [hI,this]) (.go z) ⟨rfl,rfl⟩
 rw [h1,h2]
theorem aQz {N:Nat} (hN:60≤N) {r:aB} (hr:iX r) {b:List Int} (hb:AOk r b):oR N r b=some (bres r b):=by
 obtain ⟨rank,h1,h2⟩:=aCx (N:=N) (by omega) hr
 have hw:WOk r rank:=⟨hr,h2⟩
 have hp2:=hr.p2
 have hs2:=hr.s2
 have hbl:=hb.len
 obtain ⟨had,d1,d2,d3⟩:=aTj (N:=N) (rank:=rank) (by omega) hr hb
 have hgb:∀ i,i < r.People.length→aQ b (i:Int)=some (Asg b (i:Int)):=λi hi=>jB (-1) (by omega) (by omega)
 unfold oR
 rw [h1,Option.bind_some]
 simp only [aGl,bne_self_eq_false,cond_false]
 have c1:lQ N b r=some true:=by
  unfold lQ fW iC
  refine wE (l:=b) (by omega) (by omega) _ (λi hi=>?_) (by unfold jR; rw [bU,cond_false])
  unfold jR
  have hv:b[i]=Asg b (i:Int):=by unfold Asg; rw [Int.toNat_natCast,← cP hi]
  have hran:=hb.rng (i:Int) ⟨by omega,by omega⟩
  have:gS b[i] r=false:=by
   unfold gS tU aR
   rw [hv,fB (by omega) (by omega),decide_eq_true (by omega),decide_eq_true (by omega)]
   rfl
  rw [bW hi,cond_true,bF hi,Option.bind_some,this,cond_false]
 have c2:(((b.length:Nat):Int) != ((r.People.length:Nat):Int))=false:=by rw [hbl,bne_self_eq_false]
 rw [c2,cond_false,c1]
 simp only [Option.bind_some,Bool.not_true,cond_false]
 rw [d1,Option.bind_some,show aEq 12 had=some () by unfold aEq; rw [if_pos d2],Option.bind_some]
 have l1:=tP (ρ:=aA × Int) (λi:Nat=>(i:Int)) (aMd r b) r.People.length (λs14=>mB N r b (rank,0) had s14) (λi hi=>by
  have hiP:inP r (i:Int):=⟨by omega,by omega⟩
  show mB N r b (rank,0) had (i:Int)=_
  unfold mB aMd
  rw [hbl,bW hi,cond_true,hgb i hi,Option.bind_some,bP (by omega)]
  by_cases hn:Asg b (i:Int) = -1
  ·rw [show (Asg b (i:Int) != -1)=false by rw [hn]; rfl,cond_false,Option.bind_some,cond_false,show aJn r b i=false from decide_eq_false λe=>e.1 hn]; rfl
  ·have hS:=(hb.rng _ hiP).resolve_left hn
   rw [bne_iff_ne.2 hn,cond_true,zJ (by omega) hw hS hiP,Option.bind_some]
   by_cases hpo:mX r (i:Int) (Asg b (i:Int))
   ·rw [decide_eq_true hpo,Bool.not_true,cond_false,vB hS.1 (by have:=hS.2; omega),Option.bind_some,d3 _ hS,Option.bind_some,show aQ r.Stations (Asg b (i:Int))=some (sta r (Asg b (i:Int))) from jB _ hS.1 hS.2,Option.bind_some,Option.bind_some,Option.bind_some]
    by_cases hc:((oK r b (Asg b (i:Int))).length:Int)≤(sta r (Asg b (i:Int))).Places
    ·rw [decide_eq_false (show ¬ (sta r (Asg b (i:Int))).Places < _ by omega),cond_false,show aJn r b i=false from decide_eq_false λe=>e.2 ⟨hpo,hc⟩]; rfl
    ·rw [decide_eq_true (show (sta r (Asg b (i:Int))).Places < ((oK r b (Asg b (i:Int))).length:Int) by omega),cond_true,show aJn r b i=true from decide_eq_true ⟨hn,λe=>hc e.2⟩]; rfl
   ·rw [decide_eq_false hpo,Bool.not_false,cond_true,Option.bind_some,Option.bind_some,cond_true,show aJn r b i=true from decide_eq_true ⟨hn,λe=>hpo e.1⟩]; rfl) (by
  show mB N r b (rank,0) had (r.People.length:Int)=_
  unfold mB
  rw [hbl,bU,cond_false]) r.People.length 0 N (by omega) (by omega)
 have l2:=aSh (ρ:=aA × Int) (λi:Nat=>((i:Int),(5:Int),(0:Int),(0:Int))) (λi=>(aH4 r b i).map λx=>((i:Int),x.2,x.1.Person,x.1.Station)) r.People.length (λs19=>mG N r b (rank,0) had s19.1 s19.2.1 s19.2.2.1 s19.2.2.2) (λi hi=>by
  have hiP:inP r (i:Int):=⟨by omega,by omega⟩
  show mG N r b (rank,0) had (i:Int) 5 0 0=_
  unfold mG iN
  rw [hbl,bW hi,cond_true,hgb i hi,Option.bind_some,Option.bind_some,aKq (N:=N) (by omega) hw (b:=b) hiP _ (λs=>(0,(i:Int),s)) (5,0,0) (λs hs hpo=>by
   have hS:=uZ hr hiP hs
   show oF N r (rank,0) had (i:Int) 5 0 0 s=_
   unfold oF
   rw [vB hS.1 (by have:=hS.2; omega),Option.bind_some,d3 _ hS,Option.bind_some,show aQ r.Stations s=some (sta r s) from jB _ hS.1 hS.2,Option.bind_some]
   unfold aCr
   cases decide (((oK r b s).length:Int) < (sta r s).Places)
   ·simp only [Bool.not_false,cond_true,Option.bind_some]
    rw [aQ7 (by omega) hw hiP hS]
    cases ((oK r b s).any λq=>decide (rk r s (i:Int) < rk r s q)) <;> rfl
   ·rfl),Option.bind_some,bP (by omega)]
  unfold aH4
  cases fnd r b (i:Int) 0 <;> rfl) (by
  show mG N r b (rank,0) had (r.People.length:Int) 5 0 0=_
  unfold mG
  rw [hbl,bU,cond_false]) r.People.length 0 N (by omega) (by omega)
 show Option.bind (aS (λs14=>mB N r b (rank,0) had s14) N ((0:Nat):Int)) (λx14=>exK x14 (λs14=>Option.bind (aS (λs19=>mG N r b (rank,0) had s19.1 s19.2.1 s19.2.2.1 s19.2.2.2) N (((0:Nat):Int),5,0,0)) _) some)=_
 rw [l1,l2,Option.bind_some,Option.bind_some]
 unfold bres
 cases eM (aMd r b) 0 r.People.length with
 | some x=>rfl
 | none=>
  have hk:∀ m i,eM (λi=>(aH4 r b i).map λx=>((i:Int),x.2,x.1.Person,x.1.Station)) i m=none∧eM (aH4 r b) i m=none ∨ ∃ k x,eM (λi=>(aH4 r b i).map λx=>((i:Int),x.2,x.1.Person,x.1.Station)) i m=some (k,x.2,x.1.Person,x.1.Station)∧eM (aH4 r b) i m=some x:=by
   intro m
   induction m with
   | zero=>intro i; exact .inl ⟨rfl,rfl⟩
   | succ m ih=>
    intro i
    unfold eM
    cases aH4 r b i with
    | none=>exact ih (i + 1)
    | some x=>exact .inr ⟨_,x,rfl,rfl⟩
  rcases hk r.People.length 0 with ⟨e1,e2⟩ | ⟨k,x,e1,e2⟩
  ·rw [e1,e2]; rfl
  ·rw [e1,e2]; rfl
def rB (x:aA × Int):aW × Int:=(⟨x.1.Person,x.1.Station⟩,x.2)
theorem aQ3 {N:Nat} (hN:60≤N) {r:aB} (hm:Sml r) (hr:iX r) {b:List Int} (hb:AOk r b):oP N (rR r) b=some (rB (bres r b)):=by
 have hp2:=hr.p2
 have hs2:=hr.s2
 have hbl:=hb.len
 have hsl:(rR r).Stations.length=r.Stations.length:=List.length_map ..
 have hgb:∀ i,i < r.People.length→aQ b (i:Int)=some (Asg b (i:Int)):=λi hi=>jB (-1) (by omega) (by omega)
 unfold oP
 rw [zX (by omega) hm,aDr.2 hr,Option.bind_some,bne_self_eq_false,cond_false]
 have c2:(((b.length:Nat):Int) != (((rR r).People.length:Nat):Int))=false:=by rw [show (rR r).People.length=b.length from hbl.symm,bne_self_eq_false]
 rw [c2,cond_false]
 have l0:=rK (ρ:=aW × Int) (λi:Nat=>(i:Int)) r.People.length (λs11=>gM N (rR r) b s11) (λi hi=>by
  show gM N (rR r) b (i:Int)=_
  unfold gM aK
  have hran:=hb.rng (i:Int) ⟨by omega,by omega⟩
  rw [hbl,bW hi,cond_true,hgb i hi,Option.bind_some,hsl,fB (by omega) (by omega),decide_eq_false (show ¬ Asg b (i:Int) < -1 by omega),decide_eq_false (show ¬ ((r.Stations.length:Nat):Int) - 1 < Asg b (i:Int) by omega),bP (by omega)]
  rfl) (by
  show gM N (rR r) b (r.People.length:Int)=_
  unfold gM
  rw [hbl,bU,cond_false]) (N:=N) (by omega)
 have l1:=tP (ρ:=aW × Int) (λi:Nat=>(i:Int)) (λi=>(aMd r b i).map rB) r.People.length (λs14=>iQ N (rR r) b s14) (λi hi=>by
  have hiP:inP r (i:Int):=⟨by omega,by omega⟩
  show iQ N (rR r) b (i:Int)=_
  unfold iQ aMd
  rw [hbl,bW hi,cond_true,hgb i hi,Option.bind_some,bP (by omega)]
  by_cases hn:Asg b (i:Int) = -1
  ·rw [show (Asg b (i:Int) != -1)=false by rw [hn]; rfl,cond_false,Option.bind_some,cond_false,show aJn r b i=false from decide_eq_false λe=>e.1 hn]; rfl
  ·have hS:=(hb.rng _ hiP).resolve_left hn
   rw [bne_iff_ne.2 hn,cond_true,aI8 (by omega) hr hS hiP,Option.bind_some]
   by_cases hpo:mX r (i:Int) (Asg b (i:Int))
   ·rw [decide_eq_true hpo,Bool.not_true,cond_false,aLz (by omega) hr hbl,Option.bind_some,rst hS,Option.bind_some,Option.bind_some,Option.bind_some]
    show cond (decide ((sta r (Asg b (i:Int))).Places < _)) _ _=_
    by_cases hc:((oK r b (Asg b (i:Int))).length:Int)≤(sta r (Asg b (i:Int))).Places
    ·rw [decide_eq_false (show ¬ (sta r (Asg b (i:Int))).Places < ((oK r b (Asg b (i:Int))).length:Int) by omega),cond_false,show aJn r b i=false from decide_eq_false λe=>e.2 ⟨hpo,hc⟩]; rfl
    ·rw [decide_eq_true (show (sta r (Asg b (i:Int))).Places < ((oK r b (Asg b (i:Int))).length:Int) by omega),cond_true,show aJn r b i=true from decide_eq_true ⟨hn,λe=>hc e.2⟩]; rfl
   ·rw [decide_eq_false hpo,Bool.not_false,cond_true,Option.bind_some,Option.bind_some,cond_true,show aJn r b i=true from decide_eq_true ⟨hn,λe=>hpo e.1⟩]; rfl) (by
  show iQ N (rR r) b (r.People.length:Int)=_
  unfold iQ
  rw [hbl,bU,cond_false]) r.People.length 0 N (by omega) (by omega)
 have l2:=tP (ρ:=aW × Int) (λi:Nat=>(i:Int)) (λi=>(aH4 r b i).map rB) r.People.length (λs17=>iO N (rR r) b s17) (λi hi=>by
  have hiP:inP r (i:Int):=⟨by omega,by omega⟩
  have hpl:=hr.pf_len (nM hiP)
  show iO N (rR r) b (i:Int)=_
  unfold iO
  obtain ⟨k,hk⟩:=aP7 (ρ:=bC Int (aW × Int)) (λj:Nat=>(j:Int)) (pf r (i:Int)) (λx=>x == Asg b (i:Int)) (aKy r b (i:Int)) (λs=>.ret (⟨(i:Int),s⟩,0)) (λs24=>kF N (rR r) b (i:Int) s24) (λj hj=>by
   show kF N (rR r) b (i:Int) (j:Int)=_
   unfold kF
   have hS:=uZ hr hiP (List.getElem_mem hj)
   rw [rpp hiP,Option.bind_some,Option.bind_some,bW hj,cond_true,bF hj,Option.bind_some,hgb i hi,Option.bind_some,aI8 (by omega) hr hS hiP,Option.bind_some,aTh (by omega) hr hbl hS,bP (by omega)]
   unfold aKy
   cases (pf r (i:Int))[j] == Asg b (i:Int) with
   | true=>rfl
   | false=>cases decide (mX r (i:Int) (pf r (i:Int))[j]) with
    | false=>rfl
    | true=>cases aCr r b (i:Int) (pf r (i:Int))[j] <;> rfl) (by
   show kF N (rR r) b (i:Int) ((pf r (i:Int)).length:Int)=_
   unfold kF
   rw [rpp hiP,Option.bind_some,bU,cond_false]) (pf r (i:Int)).length 0 N (by omega) (by omega)
  rw [hbl,bW hi,cond_true,show (0:Int)=((0:Nat):Int) from rfl,hk,Option.bind_some,bP (by omega)]
  unfold aH4 fnd
  cases (((pf r (i:Int)).drop 0).takeWhile λx=>!(x == Asg b (i:Int))).find? (aKy r b (i:Int)) <;> rfl) (by
  show iO N (rR r) b (r.People.length:Int)=_
  unfold iO
  rw [hbl,bU,cond_false]) r.People.length 0 N (by omega) (by omega)
 show Option.bind (aS (λs11=>gM N (rR r) b s11) N ((0:Nat):Int)) (λx11=>exK x11 (λs11=>Option.bind (aS (λs14=>iQ N (rR r) b s14) N ((0:Nat):Int)) λx14=>exK x14 (λs14=>Option.bind (aS (λs17=>iO N (rR r) b s17) N ((0:Nat):Int)) λx17=>exK x17 _ some) some) some)=_
 rw [l0,l1,l2,aD2,aD2]
 unfold bres
 cases eM (aMd r b) 0 r.People.length with
 | some x=>rfl
 | none=>cases eM (aH4 r b) 0 r.People.length <;> rfl
end Go.Nilo
namespace Go.Nilo
def uY (l:List aA) (p s:Int):Bool:=l.any λx=>x.Person == p && x.Station == s
theorem aH3 {l:List aA} {p s:Int}:uY l p s=true ↔ Ref l p s:=by
 unfold uY Ref
 rw [List.any_eq_true]
 constructor
 ·rintro ⟨x,h1,h2⟩
  rw [Bool.and_eq_true,beq_iff_eq,beq_iff_eq] at h2
  obtain ⟨rfl,rfl⟩:=h2
  exact h1
 ·intro h; exact ⟨_,h,by simp⟩
noncomputable def betB (r:aB) (l:List aA) (q s:Int):Bool:=@decide (Bet r l q s) (Classical.propDecidable _)
theorem aG0 {r:aB} {l:List aA} {q s:Int}:betB r l q s=true ↔ Bet r l q s:=@decide_eq_true_iff _ (Classical.propDecidable _)
theorem aJ8 {r:aB} {l:List aA} {q:Int} (hn:(pf r q).Nodup) {j:Nat} (hj:j < (pf r q).length):Bet r l q (pf r q)[j] ↔ ∀ i (hi:i < (pf r q).length),i < j→mX r q (pf r q)[i]→Ref l q (pf r q)[i]:=by
 unfold Bet
 constructor
 ·intro h i hi hij hpo
  refine h _ (List.getElem_mem hi) ?_ hpo
  rw [jU hn hi,jU hn hj]
  omega
 ·intro h t ht hlt hpo
  obtain ⟨i,hi,rfl⟩:=List.getElem_of_mem ht
  rw [jU hn hi,jU hn hj] at hlt
  exact h i hi (by omega) hpo
theorem aP9 {N:Nat} (hN:200≤N) {r:aB} {rank:Nat→Int} (hw:WOk r rank) {q s:Int} (hq:inP r q) (hs:s ∈ pf r q) {ahead:List aA} (hl:ahead.length≤150) :
  fA N ⟨r,rank⟩ q s (rY (λ(zz:Bool) (ix_:Int)=>fK N ahead q zz ix_)) (.go true)=some (.go (betB r ahead q s)):=by
 have hnd:=hw.ok.pn _ (nM hq)
 obtain ⟨sg,h1,b,rfl,h2⟩:=aD0 (N:=N) (by omega) hw (than:=s) hq (rY (λ(zz:Bool) (ix_:Int)=>fK N ahead q zz ix_))
  (λj sg=>(∃ b,sg=.go b∧(b=true ↔ ∀ i (hi:i < (pf r q).length),i < j→mX r q (pf r q)[i]→Ref ahead q (pf r q)[i]))∧∀ i (hi:i < (pf r q).length),i < j→(pf r q)[i] ≠ s)
  (λsg=>∃ b,sg=.go b∧(b=true ↔ Bet r ahead q s))
  (λi hi sg hI hne hpo=>by
   obtain ⟨⟨b,rfl,hb⟩,hns⟩:=hI
   obtain ⟨c,c1,c2⟩:=aRn (N:=N) (l:=ahead) (p:=q) (s:=(pf r q)[i]) (by omega) (by omega)
   refine ⟨.go (b && c),true,?_,λ_=>⟨⟨_,rfl,?_⟩,λj hj hji=>?_⟩,(λe=>by cases e)⟩
   ·show Option.map (λr=>(r,r.on)) (fK N ahead q b (pf r q)[i])=_
    unfold fK
    rw [c1]
    cases b <;> rfl
   ·rw [Bool.and_eq_true,hb,c2]
    constructor
    ·rintro ⟨k1,k2⟩ j hj hji hpj
     by_cases h4:j=i
     ·subst h4; exact k2
     ·exact k1 j hj (by omega) hpj
    ·intro k
     exact ⟨λj hj hji hpj=>k j hj (by omega) hpj,k i hi (by omega) hpo⟩
   ·by_cases h4:j=i
    ·subst h4; exact hne
    ·exact hns j hj (by omega))
  (λi hi sg hI hne hnp=>by
   obtain ⟨⟨b,rfl,hb⟩,hns⟩:=hI
   refine ⟨⟨b,rfl,?_⟩,λj hj hji=>?_⟩
   ·rw [hb]
    constructor
    ·intro k j hj hji hpj
     by_cases h4:j=i
     ·subst h4; exact absurd hpj hnp
     ·exact k j hj (by omega) hpj
    ·exact λk j hj hji hpj=>k j hj (by omega) hpj
   ·by_cases h4:j=i
    ·subst h4; exact hne
    ·exact hns j hj (by omega))
  (λi hi sg hI ht=>by
   obtain ⟨⟨b,rfl,hb⟩,hns⟩:=hI
   exact ⟨b,rfl,by rw [hb,← ht]; exact (aJ8 hnd hi).symm⟩)
  (λsg hI=>by
   obtain ⟨j,hj,hje⟩:=List.getElem_of_mem hs
   exact absurd hje (hI.2 j hj hj)) (.go true) ⟨⟨true,rfl,λ_ i hi h0=>by omega,λ_=>rfl⟩,λi hi hi0=>by omega⟩
 rw [h1]
 have:b=betB r ahead q s:=by rw [Bool.eq_iff_iff,h2,aG0]
 rw [this]
noncomputable def okQ (r:aB) (ahead:List aA) (x:aA) (q:Int):Bool:=decide (mX r q x.Station) && decide (rk r x.Station q < rk r x.Station x.Person) && betB r ahead q x.Station
noncomputable def cnt (r:aB) (ahead:List aA) (x:aA) (k:Nat):Nat:=(((ppl r).take k).filter (okQ r ahead x)).length
noncomputable def hldB (r:aB) (ahead:List aA) (x:aA):Bool:=!decide (mX r x.Person x.Station) || decide ((sta r x.Station).Places≤(cnt r ahead x r.People.length:Int))
theorem aLm {r:aB} {ahead:List aA} {x:aA} {i:Nat} (hi:i < r.People.length):cnt r ahead x (i + 1)=cnt r ahead x i + cond (okQ r ahead x (i:Int)) 1 0:=by
 have hl:i < (ppl r).length:=by simpa [ppl] using hi
 have:(ppl r)[i]=(i:Int):=by simp [ppl]
 unfold cnt
 rw [List.take_succ_eq_append_getElem hl,List.filter_append,List.length_append,this,List.filter_cons]
 cases okQ r ahead x (i:Int) <;> rfl
theorem cnt_le {r:aB} {ahead:List aA} {x:aA} {i:Nat}:cnt r ahead x i≤i:=by
 have:=List.length_filter_le (okQ r ahead x) ((ppl r).take i)
 rw [List.length_take] at this
 unfold cnt
 omega
theorem aQq {N:Nat} (hN:200≤N) {r:aB} {rank:Nat→Int} (hw:WOk r rank) {x:aA} {ahead:List aA} (hl:ahead.length≤150) (hp:inP r x.Person) (hs:inS r x.Station):tZ N ⟨r,rank⟩ x ahead=some (hldB r ahead x):=by
 have hp2:=hw.ok.p2
 have hs2:=hw.ok.s2
 have hrun:=rK (ρ:=Bool) (λi:Nat=>(((cnt r ahead x i:Nat):Int),(i:Int))) r.People.length (λs8=>iI N ⟨r,rank⟩ x ahead s8.1 s8.2) (λi hi=>by
  have hiP:inP r (i:Int):=⟨by omega,by omega⟩
  have hle:=cnt_le (r:=r) (ahead:=ahead) (x:=x) (i:=i)
  show iI N ⟨r,rank⟩ x ahead ((cnt r ahead x i:Nat):Int) (i:Int)=_
  unfold iI fM
  dsimp only
  rw [bW hi,cond_true,zJ (by omega) hw hs hiP,Option.bind_some,bP (by omega),bP (by omega),aLm hi]
  unfold okQ
  by_cases h1:mX r (i:Int) x.Station
  ·rw [decide_eq_true h1,Bool.not_true,cond_false,vB hs.1 (by have:=hs.2; omega),vB hiP.1 (by omega),vB hp.1 (by have:=hp.2; omega),Option.bind_some,Option.bind_some,Option.bind_some,Option.bind_some]
   simp only [hw.get hs hp,hw.get hs hiP,Option.bind_some]
   by_cases h2:rk r x.Station x.Person≤rk r x.Station (i:Int)
   ·rw [decide_eq_true h2,cond_true,decide_eq_false (show ¬ rk r x.Station (i:Int) < rk r x.Station x.Person by omega)]
    rfl
   ·rw [decide_eq_false h2,cond_false,decide_eq_true (show rk r x.Station (i:Int) < rk r x.Station x.Person by omega)]
    unfold iN
    rw [Option.bind_some,aP9 hN hw hiP h1.2 hl,Option.bind_some]
    cases betB r ahead (i:Int) x.Station <;> rfl
  ·rw [decide_eq_false h1,Bool.not_false,cond_true,Option.bind_some,cond_true]
   rfl) (by
  show iI N ⟨r,rank⟩ x ahead _ (r.People.length:Int)=_
  unfold iI
  dsimp only
  rw [bU,cond_false]) (N:=N) (by omega)
 have h0:cnt r ahead x 0=0:=by unfold cnt; rfl
 unfold tZ hldB
 rw [zJ (by omega) hw hs hp,Option.bind_some]
 simp only [h0] at hrun
 show cond _ _ (Option.bind (aS (λs8=>iI N ⟨r,rank⟩ x ahead s8.1 s8.2) N (((0:Nat):Int),((0:Nat):Int))) _)=_
 rw [hrun,Option.bind_some]
 simp only [exK]
 have hget:aQ r.Stations x.Station=some (sta r x.Station):=jB _ hs.1 hs.2
 rw [hget,Option.bind_some]
 cases decide (mX r x.Person x.Station) <;> rfl
def rF (x:aA):aW:=⟨x.Person,x.Station⟩
theorem gRF {l:List aA} {i:Nat} (hi:i < l.length):aQ (l.map rF) (i:Int)=some (rF l[i]):=by
 rw [bF (by rw [List.length_map]; exact hi),List.getElem_map]
def opn (r:aB) (ahead:List aA) (q:Int) (k:Nat):Nat:=(((pf r q).take k).filter λt=>decide (mX r q t) && !uY ahead q t).length
theorem aQa {r:aB} {ahead:List aA} {q:Int} (hn:(pf r q).Nodup) {j:Nat} (hj:j < (pf r q).length):(((opn r ahead q j:Nat):Int) == 0)=betB r ahead q (pf r q)[j]:=by
 rw [Bool.eq_iff_iff,beq_iff_eq,aG0,aJ8 hn hj]
 unfold opn
 constructor
 ·intro h i hi hij hpo
  have h1:((pf r q).take j).filter (λt=>decide (mX r q t) && !uY ahead q t)=[]:=List.eq_nil_of_length_eq_zero (by omega)
  rw [List.filter_eq_nil_iff] at h1
  have h2:=h1 (pf r q)[i] (List.mem_iff_getElem.2 ⟨i,by rw [List.length_take]; omega,by rw [List.getElem_take]⟩)
  rw [decide_eq_true hpo,Bool.true_and] at h2
  rw [← aH3]
  simpa using h2
 ·intro h
  have h1:((pf r q).take j).filter (λt=>decide (mX r q t) && !uY ahead q t)=[]:=by
   rw [List.filter_eq_nil_iff]
   intro t ht hh
   obtain ⟨i,hi,he⟩:=List.getElem_of_mem ht
   rw [List.length_take] at hi
   rw [List.getElem_take] at he
   rw [Bool.and_eq_true,decide_eq_true_eq] at hh
   have h3:=h i (by omega) (by omega) (by rw [he]; exact hh.1)
   rw [he,← aH3] at h3
   rw [h3] at hh
   exact absurd hh.2 (by decide)
  rw [h1]
  rfl
theorem met_r {N:Nat} (hN:200≤N) {r:aB} {l:List aA} (hl:l.length≤144) {i:Nat} (hi:i < l.length) {q:Int} (hq:inP r q) {k:Nat} (hk:k < (pf r q).length) {m:Bool} :
  aS (λs44=>jO N (rR r) (l.map rF) (i:Int) q (k:Int) s44.1 s44.2) N (m,((0:Nat):Int))=some (.go ((m || uY (l.take i) q (pf r q)[k]),(i:Int))):=by
 have hrun:=rK (ρ:=bC (Int × Int) (bC (Int × Int) (bC Int (Bool × Int)))) (λj:Nat=>((m || uY (l.take j) q (pf r q)[k]),(j:Int))) i (λs44=>jO N (rR r) (l.map rF) (i:Int) q (k:Int) s44.1 s44.2) (λj hj=>by
  show jO N (rR r) (l.map rF) (i:Int) q (k:Int) (m || uY (l.take j) q (pf r q)[k]) (j:Int)=_
  unfold jO
  rw [bW hj,cond_true,gRF (by omega),rpp hq,Option.bind_some,bP (by omega)]
  have ht:uY (l.take (j + 1)) q (pf r q)[k]=(uY (l.take j) q (pf r q)[k] || (l[j].Person == q && l[j].Station == (pf r q)[k])):=by
   unfold uY
   exact aB8 (by omega)
  rw [ht,← Bool.or_assoc]
  cases m || uY (l.take j) q (pf r q)[k] with
  | true=>rfl
  | false=>
   rw [Option.bind_some,Option.bind_some,bF hk]
   show Option.bind (Option.bind (cond (l[j].Person == q) (some (l[j].Station == (pf r q)[k])) (some false)) _) _=_
   cases l[j].Person == q <;> rfl) (by
  show jO N (rR r) (l.map rF) (i:Int) q (k:Int) _ (i:Int)=_
  unfold jO
  rw [bU,cond_false]) (N:=N) (by omega)
 have h0:(m || uY (l.take 0) q (pf r q)[k])=m:=by rw [List.take_zero]; unfold uY; rw [List.any_nil,Bool.or_false]
 simp only [h0] at hrun
 exact hrun
theorem aTl {N:Nat} (hN:200≤N) {r:aB} (hr:iX r) {l:List aA} (hl:l.length≤144) {i:Nat} (hi:i < l.length) {x:aA} {q:Int} (hq:inP r q) {j:Nat} (hj:j < (pf r q).length) (hx:(pf r q)[j]=x.Station) :
  aS (λs36=>jM N (rR r) (l.map rF) (i:Int) (rF x) q s36.1 s36.2) N (0,0)=some (.go (((opn r (l.take i) q j:Nat):Int),(j:Int))):=by
 have hnd:=hr.pn _ (nM hq)
 have hpl:=hr.pf_len (nM hq)
 have hpc:eH N (pf r q) (rF x).Station=some (j:Int):=by
  show eH N (pf r q) x.Station=_
  rw [aHj (by omega) (by omega),← hx,jU hnd hj]
 have hle:∀ k,opn r (l.take i) q k≤k:=λk=>by
  have:=List.length_filter_le (λt=>decide (mX r q t) && !uY (l.take i) q t) ((pf r q).take k)
  rw [List.length_take] at this
  unfold opn
  omega
 have hrun:=rK (ρ:=bC (Int × Int) (bC Int (Bool × Int))) (λk:Nat=>(((opn r (l.take i) q k:Nat):Int),(k:Int))) j (λs36=>jM N (rR r) (l.map rF) (i:Int) (rF x) q s36.1 s36.2) (λk hk=>by
  show jM N (rR r) (l.map rF) (i:Int) (rF x) q ((opn r (l.take i) q k:Nat):Int) (k:Int)=_
  have hkl:k < (pf r q).length:=by omega
  have hS:=uZ hr hq (List.getElem_mem hkl)
  have:=hle k
  unfold jM rM
  rw [rpp hq,Option.bind_some,hpc,Option.bind_some,bW hk,cond_true,Option.bind_some,bF hkl,Option.bind_some,aI8 (by omega) hr hS hq,Option.bind_some,show (0:Int)=((0:Nat):Int) from rfl,met_r hN hl hi hq hkl,Option.bind_some,bP (by omega),bP (by omega)]
  have ho:opn r (l.take i) q (k + 1)=opn r (l.take i) q k + cond (!(!decide (mX r q (pf r q)[k]) || uY (l.take i) q (pf r q)[k])) 1 0:=by
   unfold opn
   rw [List.take_succ_eq_append_getElem hkl,List.filter_append,List.length_append,List.filter_cons]
   cases decide (mX r q (pf r q)[k]) <;> cases uY (l.take i) q (pf r q)[k] <;> rfl
  rw [ho]
  show cond (!(!decide (mX r q (pf r q)[k]) || uY (l.take i) q (pf r q)[k])) _ _=_
  cases !(!decide (mX r q (pf r q)[k]) || uY (l.take i) q (pf r q)[k]) <;> rfl) (by
  show jM N (rR r) (l.map rF) (i:Int) (rF x) q _ (j:Int)=_
  unfold jM
  rw [rpp hq,Option.bind_some,hpc,Option.bind_some,bU,cond_false]) (N:=N) (by omega)
 exact hrun
theorem aO8 {N:Nat} (hN:200≤N) {r:aB} (hr:iX r) {l:List aA} (hl:l.length≤144) {i:Nat} (hi:i < l.length) (hp:inP r l[i].Person) (hs:inS r l[i].Station) :
  gI N (rR r) (l.map rF) (i:Int)=some (cond (hldB r (l.take i) l[i]) (.cont ((i + 1:Nat):Int)) (.ret (false,0))):=by
 have hp2:=hr.p2
 have hrun:=rK (ρ:=bC Int (Bool × Int)) (λq:Nat=>(((cnt r (l.take i) l[i] q:Nat):Int),(q:Int))) r.People.length (λs25=>jQ N (rR r) (l.map rF) (i:Int) (rF l[i]) (rF l[i]) s25.1 s25.2) (λq hq=>by
  have hqP:inP r (q:Int):=⟨by omega,by omega⟩
  have hle:=cnt_le (r:=r) (ahead:=l.take i) (x:=l[i]) (i:=q)
  show jQ N (rR r) (l.map rF) (i:Int) (rF l[i]) (rF l[i]) ((cnt r (l.take i) l[i] q:Nat):Int) (q:Int)=_
  unfold jQ nX
  show cond (decide ((q:Int) < ((r.People.length:Nat):Int))) (Option.bind (gG N (rR r) (q:Int) l[i].Station) λr_2=>Option.bind (cond (!r_2) (some true) (Option.bind (aQ (rR r).Stations l[i].Station) λe_4=>Option.bind (eH N e_4.Order (q:Int)) λr_3=>Option.bind (aQ (rR r).Stations l[i].Station) λe_5=>Option.bind (eH N e_5.Order l[i].Person) λr_4=>some (decide (r_4≤r_3)))) _) _=_
  rw [bW hq,cond_true,aI8 (by omega) hr hs hqP,Option.bind_some,rst hs,Option.bind_some,aOd hr (by omega) hs,Option.bind_some,Option.bind_some,aOd hr (by omega) hs,Option.bind_some,bP (by omega),bP (by omega),aLm hq]
  unfold okQ
  by_cases h1:mX r (q:Int) l[i].Station
  ·rw [decide_eq_true h1,Bool.not_true,cond_false,Option.bind_some]
   by_cases h2:rk r l[i].Station l[i].Person≤rk r l[i].Station (q:Int)
   ·rw [decide_eq_true h2,cond_true,decide_eq_false (show ¬ rk r l[i].Station (q:Int) < rk r l[i].Station l[i].Person by omega)]
    rfl
   ·rw [decide_eq_false h2,cond_false,decide_eq_true (show rk r l[i].Station (q:Int) < rk r l[i].Station l[i].Person by omega)]
    obtain ⟨j,hj,hx⟩:=List.getElem_of_mem h1.2
    rw [aTl hN hr hl hi hqP hj hx,Option.bind_some]
    show cond (((opn r (l.take i) (q:Int) j:Nat):Int) == 0) _ _=_
    rw [aQa (hr.pn _ (nM hqP)) hj,hx]
    cases betB r (l.take i) (q:Int) l[i].Station <;> rfl
  ·rw [decide_eq_false h1,Bool.not_false,cond_true,Option.bind_some,cond_true]
   rfl) (by
  show jQ N (rR r) (l.map rF) (i:Int) (rF l[i]) (rF l[i]) _ (r.People.length:Int)=_
  unfold jQ
  show cond (decide (((r.People.length:Nat):Int) < ((r.People.length:Nat):Int))) _ _=_
  rw [bU,cond_false]) (N:=N) (by omega)
 have h0:cnt r (l.take i) l[i] 0=0:=by unfold cnt; rfl
 simp only [h0] at hrun
 unfold gI rH
 show cond (decide ((i:Int) < (((l.map rF).length:Nat):Int))) _ _=_
 rw [List.length_map,bW hi,cond_true,gRF hi,Option.bind_some,Option.bind_some]
 show Option.bind (gG N (rR r) l[i].Person l[i].Station) (λr_1=>cond (!r_1) _ (Option.bind (aS (λs25=>jQ N (rR r) (l.map rF) (i:Int) (rF l[i]) (rF l[i]) s25.1 s25.2) N (((0:Nat):Int),((0:Nat):Int))) λx25=>exK x25 (λs25=>Option.bind (aQ (rR r).Stations l[i].Station) _) some))=_
 rw [aI8 (by omega) hr hs hp,Option.bind_some,hrun,Option.bind_some,bP (by omega)]
 simp only [exK]
 rw [rst hs,Option.bind_some]
 unfold hldB
 cases decide (mX r l[i].Person l[i].Station) with
 | false=>rfl
 | true=>
  show cond (decide (((cnt r (l.take i) l[i] r.People.length:Nat):Int) < (sta r l[i].Station).Places)) _ _=_
  by_cases h:(sta r l[i].Station).Places≤((cnt r (l.take i) l[i] r.People.length:Nat):Int)
  ·rw [decide_eq_false (by omega),decide_eq_true h]; rfl
  ·rw [decide_eq_true (by omega),decide_eq_false h]; rfl
def okFr (r:aB) (x:aA):Bool:=inB x.Person 0 ((r.People.length:Int) - 1) && inB x.Station 0 ((r.Stations.length:Int) - 1)
theorem aEr {r:aB} {x:aA}:okFr r x=true ↔ inP r x.Person∧inS r x.Station:=by
 unfold okFr inB
 simp only [Bool.and_eq_true,decide_eq_true_eq]
 omega
noncomputable def hres (r:aB) (l:List aA):Bool × Int :=
 cond (decide (144 < l.length)) (false,3) (cond (l.all (okFr r)) (match eM (λi=>cond (hldB r (l.take i) (l.getD i ⟨0,0⟩)) none (some (false,(0:Int)))) 0 l.length with | some x=>x | none=>(true,0)) (false,2))
theorem aRw {N:Nat} (hN:200≤N) {r:aB} (hr:iX r) {l:List aA} (hl:l.length≤150):sJ N r l=some (hres r l):=by
 obtain ⟨rank,h1,h2⟩:=aCx (N:=N) (by omega) hr
 have hw:WOk r rank:=⟨hr,h2⟩
 have hp2:=hr.p2
 have hs2:=hr.s2
 unfold sJ hres
 rw [h1,Option.bind_some]
 simp only [aGl,bne_self_eq_false,cond_false]
 have c1:lS N l r=some (l.all (okFr r)):=by
  unfold lS dU dZ
  refine rU (f:=λx=>gQ x r) (λx=>?_) (by omega) (by omega) _ λx=>rfl
  unfold gQ xW aR okFr inB
  rw [fB (by omega) (by omega),fB (by omega) (by omega)]
 by_cases h144:144 < l.length
 ·rw [show decide (144 < ((l.length:Nat):Int))=true by rw [decide_eq_true_eq]; omega,decide_eq_true h144]; rfl
 ·rw [show decide (144 < ((l.length:Nat):Int))=false by rw [decide_eq_false_iff_not]; omega,decide_eq_false h144,cond_false,cond_false,c1,Option.bind_some]
  cases hok:l.all (okFr r) with
  | false=>rfl
  | true=>
   rw [Bool.not_true,cond_false,cond_true]
   have hrun:=tP (ρ:=Bool × Int) (λi:Nat=>(i:Int)) (λi=>cond (hldB r (l.take i) (l.getD i ⟨0,0⟩)) none (some (false,(0:Int)))) l.length (λs28=>nJ N r l (rank,0) s28) (λi hi=>by
    show nJ N r l (rank,0) (i:Int)=_
    unfold nJ
    obtain ⟨a1,b1⟩:=aEr.1 (List.all_eq_true.1 hok _ (List.getElem_mem hi))
    have hsub:yE l 0 (i:Int)=some (l.take i):=by
     unfold yE
     rw [if_pos ⟨by omega,by omega,by omega⟩]
     simp
    rw [bW hi,cond_true,bF hi,Option.bind_some,hsub,Option.bind_some,aQq hN hw (by rw [List.length_take]; omega) a1 b1,Option.bind_some,bP (by omega),cP (d:=⟨0,0⟩) hi]
    cases hldB r (l.take i) (l.getD i ⟨0,0⟩) <;> rfl) (by
    show nJ N r l (rank,0) _=_
    unfold nJ
    rw [bU,cond_false]) l.length 0 N (by omega) (by omega)
   show Option.bind (aS (λs28=>nJ N r l (rank,0) s28) N ((0:Nat):Int)) _=_
   rw [hrun,Option.bind_some]
   cases eM (λi=>cond (hldB r (l.take i) (l.getD i ⟨0,0⟩)) none (some (false,(0:Int)))) 0 l.length <;> rfl
theorem aNn {N:Nat} (hN:200≤N) {r:aB} (hm:Sml r) (hr:iX r) {l:List aA} (hl:l.length≤150):qL N (rR r) (l.map rF)=some (hres r l):=by
 have hp2:=hr.p2
 have hs2:=hr.s2
 have hsl:(rR r).Stations.length=r.Stations.length:=List.length_map ..
 unfold qL hres
 rw [zX (by omega) hm,aDr.2 hr,Option.bind_some,bne_self_eq_false,cond_false,List.length_map]
 by_cases h144:144 < l.length
 ·rw [show decide (144 < ((l.length:Nat):Int))=true by rw [decide_eq_true_eq]; omega,decide_eq_true h144]; rfl
 ·rw [show decide (144 < ((l.length:Nat):Int))=false by rw [decide_eq_false_iff_not]; omega,decide_eq_false h144,cond_false,cond_false]
  have l1:=tP (ρ:=Bool × Int) (λi:Nat=>(i:Int)) (λj=>cond (okFr r (l.getD j ⟨0,0⟩)) none (some (false,(2:Int)))) l.length (λs11=>jK N (rR r) (l.map rF) s11) (λi hi=>by
   show jK N (rR r) (l.map rF) (i:Int)=_
   unfold jK aK
   rw [List.length_map,bW hi,cond_true,gRF hi,Option.bind_some,Option.bind_some,hsl,bP (by omega)]
   show Option.bind (cond (decide (l[i].Person < 0) || decide (W (((r.People.length:Nat):Int) - 1) < l[i].Person)) (some true) (some (decide (l[i].Station < 0) || decide (W (((r.Stations.length:Nat):Int) - 1) < l[i].Station)))) _=_
   rw [fB (by omega) (by omega),fB (by omega) (by omega),cP (d:=⟨0,0⟩) hi]
   cases hk:okFr r (l.getD i ⟨0,0⟩) with
   | true=>
    obtain ⟨a1,a2⟩:=aEr.1 hk
    rw [decide_eq_false (by omega),decide_eq_false (by omega),decide_eq_false (by omega),decide_eq_false (by omega)]
    rfl
   | false=>
    have hno:¬ (inP r (l.getD i ⟨0,0⟩).Person∧inS r (l.getD i ⟨0,0⟩).Station):=λh=>by rw [aEr.2 h] at hk; cases hk
    by_cases a1:inP r (l.getD i ⟨0,0⟩).Person
    ·have a2:(decide ((l.getD i ⟨0,0⟩).Station < 0) || decide (((r.Stations.length:Nat):Int) - 1 < (l.getD i ⟨0,0⟩).Station))=true:=by
      rw [Bool.or_eq_true,decide_eq_true_eq,decide_eq_true_eq]
      have:¬ inS r (l.getD i ⟨0,0⟩).Station:=λh=>hno ⟨a1,h⟩
      unfold inS at this
      omega
     rw [decide_eq_false (show ¬ (l.getD i ⟨0,0⟩).Person < 0 by omega),decide_eq_false (show ¬ ((r.People.length:Nat):Int) - 1 < (l.getD i ⟨0,0⟩).Person by omega),a2]
     rfl
    ·have a2:(decide ((l.getD i ⟨0,0⟩).Person < 0) || decide (((r.People.length:Nat):Int) - 1 < (l.getD i ⟨0,0⟩).Person))=true:=by
      rw [Bool.or_eq_true,decide_eq_true_eq,decide_eq_true_eq]
      unfold inP at a1
      omega
     rw [a2]
     rfl) (by
   show jK N (rR r) (l.map rF) (l.length:Int)=_
   unfold jK
   rw [List.length_map,bU,cond_false]) l.length 0 N (by omega) (by omega)
  show Option.bind (aS (λs11=>jK N (rR r) (l.map rF) s11) N ((0:Nat):Int)) (λx11=>exK x11 (λs11=>Option.bind (aS (λs14=>gI N (rR r) (l.map rF) s14) N ((0:Nat):Int)) _) some)=_
  rw [l1,oG (p:=okFr r) (d:=⟨0,0⟩) l.length 0 (by omega),List.drop_zero,Option.bind_some]
  cases hok:l.all (okFr r) with
  | false=>rfl
  | true=>
   have l2:=tP (ρ:=Bool × Int) (λi:Nat=>(i:Int)) (λi=>cond (hldB r (l.take i) (l.getD i ⟨0,0⟩)) none (some (false,(0:Int)))) l.length (λs14=>gI N (rR r) (l.map rF) s14) (λi hi=>by
    obtain ⟨a1,b1⟩:=aEr.1 (List.all_eq_true.1 hok _ (List.getElem_mem hi))
    show gI N (rR r) (l.map rF) (i:Int)=_
    rw [aO8 hN hr (by omega) hi a1 b1,cP (d:=⟨0,0⟩) hi]
    cases hldB r (l.take i) (l.getD i ⟨0,0⟩) <;> rfl) (by
    show gI N (rR r) (l.map rF) (l.length:Int)=_
    unfold gI
    rw [List.length_map,bU,cond_false]) l.length 0 N (by omega) (by omega)
   show Option.bind (aS (λs14=>gI N (rR r) (l.map rF) s14) N ((0:Nat):Int)) _=_
   rw [l2,Option.bind_some,cond_true]
   cases eM (λi=>cond (hldB r (l.take i) (l.getD i ⟨0,0⟩)) none (some (false,(0:Int)))) 0 l.length <;> rfl
end Go.Nilo
namespace Go.Nilo
theorem aG4 {r:aB} (hr:iX r) {l:List aA} {asg:List Int} {ks:List (List Int)} (h:SI r (λ_=>True) l asg ks) {b:List Int} (hb:aMh r b) {p:Int} (hp:inP r p) (hne:Asg b p ≠ -1):Asg asg p ≠ -1∧sQ (pf r p) (Asg asg p)≤sQ (pf r p) (Asg b p):=by
 have hpo:=(hb.f p hp hne).1
 have hno:¬ Ref l p (Asg b p):=λhR=>by
  obtain ⟨k,hk,he⟩:=List.getElem_of_mem hR
  have:=aDl hr h.just h.refp hb (k + 1) k (by omega) hk
  rw [he] at this
  exact this rfl
 by_cases ha:Asg asg p = -1
 ·exact absurd (h.free p hp trivial ha _ hpo.2 hpo) hno
 ·refine ⟨ha,?_⟩
  rcases Int.lt_or_le (sQ (pf r p) (Asg b p)) (sQ (pf r p) (Asg asg p)) with h1 | h1
  ·exact absurd ((h.good p hp ha).2.2 _ hpo.2 h1 hpo) hno
  ·exact h1
theorem aJk {r:aB} (hr:iX r) {a b:List Int} {l l':List aA} (ha:yG r a l) (hb:yG r b l'):a=b:=by
 have sa:=aCj hr ha
 have sb:=aCj hr hb
 obtain ⟨ks,ha⟩:=ha
 obtain ⟨ks',hb⟩:=hb
 have hp:∀ p,inP r p→Asg a p=Asg b p:=λp hp=>by
  by_cases h1:Asg a p = -1
  ·by_cases h2:Asg b p = -1
   ·rw [h1,h2]
   ·exact absurd h1 (aG4 hr ha sb hp h2).1
  ·have h2:=aG4 hr hb sa hp h1
   have h3:=aG4 hr ha sb hp h2.1
   have:=(sa.f p hp h1).1.2
   exact aGu this (by omega)
 refine List.ext_getElem (by rw [ha.al,hb.al]) λi h1 h2=>?_
 have:=hp (i:Int) ⟨by omega,by have:=ha.al; omega⟩
 unfold Asg at this
 rw [Int.toNat_natCast] at this
 rw [cP (d:=(-1:Int)) h1,cP (d:=(-1:Int)) h2,this]
abbrev Nx (nx:List Int) (p:Int):Int:=nx.getD p.toNat 0
structure RI (r:aB) (l:List aA) (a nx:List Int) (ks:List (List Int)):Prop where
 si:SI r (λq=>Asg a q ≠ -1) l a ks
 nl:nx.length=r.People.length
 n0:∀ p,inP r p→0≤Nx nx p∧Nx nx p≤((pf r p).length:Int)
 tri:∀ p,inP r p→∀ t ∈ pf r p,sQ (pf r p) t < Nx nx p→mX r p t→Ref l p t ∨ Asg a p=t
 asked:∀ p,inP r p→∀ t,Ref l p t→sQ (pf r p) t < Nx nx p
 has:∀ p,inP r p→Asg a p ≠ -1→sQ (pf r p) (Asg a p) < Nx nx p
theorem aMb {nx:List Int} {p x v:Int} (h0:0≤p) (h1:p < (nx.length:Int)) (hx:0≤x):Nx (nx.set p.toNat v) x=if x=p then v else Nx nx x:=by
 unfold Nx
 rw [aE2 (by omega)]
 by_cases h:x=p
 ·rw [if_pos h,if_pos (by omega)]
 ·rw [if_neg h,if_neg (by omega)]
theorem RI.skip {r:aB} {l:List aA} {a nx:List Int} {ks:List (List Int)} (h:RI r l a nx ks) {p:Int} {j:Nat} (hr:iX r) (hp:inP r p) (hj:j < (pf r p).length) (hn:Nx nx p=(j:Int)) (hno:¬ mX r p (pf r p)[j]):RI r l a (nx.set p.toNat ((j + 1:Nat):Int)) ks:=by
 have hnd:=hr.pn _ (nM hp)
 have eN:∀ x,0≤x→Nx (nx.set p.toNat ((j + 1:Nat):Int)) x=if x=p then ((j + 1:Nat):Int) else Nx nx x:=λx hx=>aMb hp.1 (by rw [h.nl]; exact hp.2) hx
 refine ⟨h.si,by rw [List.length_set]; exact h.nl,λq hq=>?_,λq hq t ht hlt hpo=>?_,λq hq t hR=>?_,λq hq hne=>?_⟩
 ·rw [eN q hq.1]
  split
  ·rename_i e; subst e; omega
  ·exact h.n0 q hq
 ·rw [eN q hq.1] at hlt
  by_cases e:q=p
  ·subst e
   rw [if_pos rfl] at hlt
   obtain ⟨i,hi,rfl⟩:=List.getElem_of_mem ht
   rw [jU hnd hi] at hlt
   by_cases e2:i=j
   ·subst e2; exact absurd hpo hno
   ·exact h.tri q hq _ ht (by rw [jU hnd hi,hn]; omega) hpo
  ·rw [if_neg e] at hlt; exact h.tri q hq t ht hlt hpo
 ·rw [eN q hq.1]
  have:=h.asked q hq t hR
  split
  ·rename_i e; subst e; omega
  ·exact this
 ·rw [eN q hq.1]
  have:=h.has q hq hne
  split
  ·rename_i e; subst e; omega
  ·exact this
theorem RI.ready {r:aB} {l:List aA} {a nx:List Int} {ks:List (List Int)} (h:RI r l a nx ks) {p:Int} {j:Nat} (hr:iX r) (hp:inP r p) (hj:j < (pf r p).length) (hn:Nx nx p=(j:Int)) (ha:Asg a p = -1):¬ Ref l p (pf r p)[j]∧Bet r l p (pf r p)[j]:=by
 have hnd:=hr.pn _ (nM hp)
 refine ⟨λhR=>?_,λt ht hlt hpo=>?_⟩
 ·have:=h.asked p hp _ hR
  rw [jU hnd hj] at this
  omega
 ·rw [jU hnd hj] at hlt
  rcases h.tri p hp t ht (by omega) hpo with h1 | h1
  ·exact h1
  ·have:=(uZ hr hp ht).1; omega
theorem RI.take {r:aB} {l:List aA} {a nx:List Int} {ks:List (List Int)} (h:RI r l a nx ks) {p:Int} {j:Nat} (hr:iX r) (hp:inP r p) (hj:j < (pf r p).length) (hn:Nx nx p=(j:Int)) (ha:Asg a p = -1) (hpo:mX r p (pf r p)[j])
  (hc:(((Ks ks (pf r p)[j]++[p]).length:Nat):Int)≤(sta r (pf r p)[j]).Places):RI r l (a.set p.toNat (pf r p)[j]) (nx.set p.toNat ((j + 1:Nat):Int)) (ks.set (pf r p)[j].toNat (Ks ks (pf r p)[j]++[p])):=by
 have hnd:=hr.pn _ (nM hp)
 have hs:=uZ hr hp (List.getElem_mem hj)
 obtain ⟨hR,hB⟩:=h.ready hr hp hj hn ha
 have eN:∀ x,0≤x→Nx (nx.set p.toNat ((j + 1:Nat):Int)) x=if x=p then ((j + 1:Nat):Int) else Nx nx x:=λx hx=>aMb hp.1 (by rw [h.nl]; exact hp.2) hx
 have eA:∀ x,0≤x→Asg (a.set p.toNat (pf r p)[j]) x=if x=p then (pf r p)[j] else Asg a x:=λx hx=>aA9 hp.1 (by rw [h.si.al]; exact hp.2) hx
 refine ⟨(h.si.take hp hs ha hpo hR hB hc).congr λq hq=>?_,by rw [List.length_set]; exact h.nl,λq hq=>?_,λq hq t ht hlt hpt=>?_,λq hq t hR=>?_,λq hq hne=>?_⟩
 ·rw [eA q hq.1]
  by_cases e:q=p
  ·rw [if_pos e]; exact ⟨λ_=>by have:=hs.1; omega,λ_=>.inr e⟩
  ·rw [if_neg e]; exact ⟨λk=>k.resolve_right e,.inl⟩
 ·rw [eN q hq.1]
  split
  ·rename_i e; subst e; omega
  ·exact h.n0 q hq
 ·rw [eN q hq.1] at hlt
  rw [eA q hq.1]
  by_cases e:q=p
  ·subst e
   rw [if_pos rfl] at hlt ⊢
   obtain ⟨i,hi,rfl⟩:=List.getElem_of_mem ht
   rw [jU hnd hi] at hlt
   by_cases e2:i=j
   ·subst e2; exact .inr rfl
   ·rcases h.tri q hq _ ht (by rw [jU hnd hi,hn]; omega) hpt with k | k
    ·exact .inl k
    ·have:=(uZ hr hp ht).1; omega
  ·rw [if_neg e] at hlt ⊢; exact h.tri q hq t ht hlt hpt
 ·rw [eN q hq.1]
  have:=h.asked q hq t hR
  split
  ·rename_i e; subst e; omega
  ·exact this
 ·rw [eA q hq.1] at hne ⊢
  rw [eN q hq.1]
  by_cases e:q=p
  ·subst e; rw [if_pos rfl,if_pos rfl,jU hnd hj]; omega
  ·rw [if_neg e] at hne ⊢; rw [if_neg e]; exact h.has q hq hne
theorem RI.over {r:aB} {l:List aA} {a nx:List Int} {ks:List (List Int)} (h:RI r l a nx ks) {p:Int} {j:Nat} (hr:iX r) (hp:inP r p) (hj:j < (pf r p).length) (hn:Nx nx p=(j:Int)) (ha:Asg a p = -1) (hpo:mX r p (pf r p)[j])
  (hc:(sta r (pf r p)[j]).Places < (((Ks ks (pf r p)[j]++[p]).length:Nat):Int)) {q:Int} (hq:q ∈ Ks ks (pf r p)[j]++[p]) (hm:∀ o ∈ Ks ks (pf r p)[j]++[p],rk r (pf r p)[j] o≤rk r (pf r p)[j] q) :
  inP r q∧RI r (l++[⟨q,(pf r p)[j]⟩]) ((a.set p.toNat (pf r p)[j]).set q.toNat (-1)) (nx.set p.toNat ((j + 1:Nat):Int)) (ks.set (pf r p)[j].toNat ((Ks ks (pf r p)[j]++[p]).erase q)):=by
 have hnd:=hr.pn _ (nM hp)
 have hs:=uZ hr hp (List.getElem_mem hj)
 obtain ⟨hR,hB⟩:=h.ready hr hp hj hn ha
 obtain ⟨hqp,hSI,hq2⟩:=h.si.over hp hs ha hpo hR hB hc hq hm
 have eN:∀ x,0≤x→Nx (nx.set p.toNat ((j + 1:Nat):Int)) x=if x=p then ((j + 1:Nat):Int) else Nx nx x:=λx hx=>aMb hp.1 (by rw [h.nl]; exact hp.2) hx
 have eA:∀ x,0≤x→Asg ((a.set p.toNat (pf r p)[j]).set q.toNat (-1)) x=if x=q then -1 else if x=p then (pf r p)[j] else Asg a x:=λx hx=>by
  rw [aA9 hqp.1 (by rw [List.length_set,h.si.al]; exact hqp.2) hx,aA9 hp.1 (by rw [h.si.al]; exact hp.2) hx]
 have hqs:q ≠ p→Asg a q=(pf r p)[j]:=λhne=>by
  rcases List.mem_append.1 hq with k | k
  ·exact (h.si.mem _ q hs hqp).1 k
  ·exact absurd (List.mem_singleton.1 k) hne
 have href:∀ {x t:Int},Ref (l++[⟨q,(pf r p)[j]⟩]) x t ↔ Ref l x t ∨ (x=q∧t=(pf r p)[j]):=fun {x t}=>by
  unfold Ref
  rw [List.mem_append,List.mem_singleton]
  constructor
  ·rintro (k | k)
   ·exact .inl k
   ·injection k with k1 k2; exact .inr ⟨k1,k2⟩
  ·rintro (k | ⟨rfl,rfl⟩)
   ·exact .inl k
   ·exact .inr rfl
 have hge:∀ x,inP r x→Nx nx x≤Nx (nx.set p.toNat ((j + 1:Nat):Int)) x:=λx hx=>by
  rw [eN x hx.1]
  split
  ·rename_i e; subst e; omega
  ·exact Int.le_refl _
 refine ⟨hqp,hSI.congr λx hx=>?_,by rw [List.length_set]; exact h.nl,λx hx=>?_,λx hx t ht hlt hpt=>?_,λx hx t hR=>?_,λx hx hne=>?_⟩
 ·rw [eA x hx.1]
  by_cases e:x=q
  ·rw [if_pos e]; exact ⟨λk=>absurd e k.2,λk=>absurd rfl k⟩
  ·rw [if_neg e]
   by_cases e2:x=p
   ·rw [if_pos e2]; exact ⟨λ_=>by have:=hs.1; omega,λ_=>⟨.inr e2,e⟩⟩
   ·rw [if_neg e2]; exact ⟨λk=>k.1.resolve_right e2,λk=>⟨.inl k,e⟩⟩
 ·rw [eN x hx.1]
  split
  ·rename_i e; subst e; omega
  ·exact h.n0 x hx
 ·rw [href,eA x hx.1]
  have old:sQ (pf r x) t < Nx nx x→(Ref l x t ∨ (x=q∧t=(pf r p)[j])) ∨ (if x=q then -1 else if x=p then (pf r p)[j] else Asg a x)=t:=λhl=>by
   rcases h.tri x hx t ht hl hpt with k | k
   ·exact .inl (.inl k)
   ·by_cases e:x=q
    ·by_cases e2:q=p
     ·rw [e,e2,ha] at k
      have:=(uZ hr hx ht).1
      omega
     ·rw [e,hqs e2] at k
      exact .inl (.inr ⟨e,k.symm⟩)
    ·by_cases e2:x=p
     ·rw [e2,ha] at k
      have:=(uZ hr hx ht).1
      omega
     ·right; rw [if_neg e,if_neg e2]; exact k
  rw [eN x hx.1] at hlt
  by_cases e:x=p
  ·rw [if_pos e] at hlt
   subst e
   obtain ⟨i,hi,rfl⟩:=List.getElem_of_mem ht
   rw [jU hnd hi] at hlt
   by_cases e2:i=j
   ·subst e2
    by_cases e3:x=q
    ·exact .inl (.inr ⟨e3,rfl⟩)
    ·right; rw [if_neg e3,if_pos rfl]
   ·exact old (by rw [jU hnd hi,hn]; omega)
  ·rw [if_neg e] at hlt; exact old hlt
 ·rcases href.1 hR with k | ⟨rfl,rfl⟩
  ·have:=h.asked x hx t k
   have:=hge x hx
   omega
  ·by_cases e:x=p
   ·subst e
    rw [eN x hx.1,if_pos rfl,jU hnd hj]
    omega
   ·have k1:=hqs e
    have k2:=h.has x hx (by rw [k1]; have:=hs.1; omega)
    rw [k1] at k2
    have:=hge x hx
    omega
 ·rw [eA x hx.1] at hne ⊢
  by_cases e:x=q
  ·rw [if_pos e] at hne; exact absurd rfl hne
  ·rw [if_neg e] at hne ⊢
   by_cases e2:x=p
   ·subst e2; rw [if_pos rfl,eN x hx.1,if_pos rfl,jU hnd hj]; omega
   ·rw [if_neg e2] at hne ⊢
    have:=h.has x hx hne
    have:=hge x hx
    omega
theorem RI.settled {r:aB} {l:List aA} {a nx:List Int} {ks:List (List Int)} (h:RI r l a nx ks) (hr:iX r) (hi:∀ p,inP r p→Asg a p ≠ -1 ∨ Nx nx p=((pf r p).length:Int)):yG r a l:=by
 refine ⟨ks,h.si.al,h.si.kl,h.si.mem,h.si.kr,h.si.kn,h.si.cap,h.si.asr,h.si.good,λp hp _ ha t ht hpo=>?_,λp hp hn=>absurd trivial hn,h.si.refp,h.si.refn,h.si.just⟩
 rcases hi p hp with k | k
 ·exact absurd ha k
 ·obtain ⟨i,hi',rfl⟩:=List.getElem_of_mem ht
  rcases h.tri p hp _ ht (by rw [jU (hr.pn _ (nM hp)) hi',k]; omega) hpo with k2 | k2
  ·exact k2
  ·have:=(uZ hr hp ht).1; omega
theorem aKe:∀ (l:List Int) (i:Nat),i < l.length→(l.set i (l.getD i 0 + 1)).sum=l.sum + 1
 | [],i,h=>by simp at h
 | x::l,0,_=>by simp; omega
 | x::l,i + 1,h=>by
  have:=aKe l i (by simpa using h)
  simp only [List.set_cons_succ,List.sum_cons,List.getD_cons_succ]
  omega
theorem aQr {B:Int}:∀ {l:List Int},(∀ x ∈ l,x≤B)→l.sum≤B * (l.length:Int)
 | [],_=>by simp
 | x::l,h=>by
  have h1:=h x List.mem_cons_self
  have h2:=aQr (l:=l) λy hy=>h y (List.mem_cons_of_mem _ hy)
  rw [List.sum_cons,List.length_cons]
  push_cast
  rw [Int.mul_add]
  omega
theorem RI.sum {r:aB} (hr:iX r) {l:List aA} {a nx:List Int} {ks:List (List Int)} (h:RI r l a nx ks):nx.sum≤144:=by
 have h1:=aQr (B:=12) (l:=nx) λx hx=>by
  obtain ⟨i,hi,rfl⟩:=List.getElem_of_mem hx
  have hiP:inP r (i:Int):=⟨by omega,by have:=h.nl; omega⟩
  have h2:=(h.n0 (i:Int) hiP).2
  unfold Nx at h2
  rw [Int.toNat_natCast,← cP hi] at h2
  have:=hr.pf_len (nM hiP)
  omega
 have:=h.nl
 have:=hr.p2
 omega
end Go.Nilo
namespace Go.Nilo
theorem aFy {r:aB} {l:List aA} {a nx:List Int} {ks:List (List Int)} (h:RI r l a nx ks) {p s:Int} (hp:inP r p) (hs:inS r s) (ha:Asg a p = -1) {q:Int} (hq:inP r q):q ∈ Ks ks s++[p] ↔ Asg (a.set p.toNat s) q=s:=by
 rw [aA9 hp.1 (by rw [h.si.al]; exact hp.2) hq.1,List.mem_append,List.mem_singleton,h.si.mem s q hs hq]
 by_cases e:q=p
 ·rw [if_pos e]; exact ⟨λ_=>rfl,λ_=>.inr e⟩
 ·rw [if_neg e]; exact ⟨λk=>k.resolve_right e,.inl⟩
theorem aLj {r:aB} {l:List aA} {a nx:List Int} {ks:List (List Int)} (h:RI r l a nx ks) {p s:Int} (hp:inP r p) (hs:inS r s) (ha:Asg a p = -1):(oK r (a.set p.toNat s) s).length=(Ks ks s++[p]).length:=by
 have hin:∀ q ∈ Ks ks s++[p],inP r q:=λq hq=>by
  rcases List.mem_append.1 hq with k | k
  ·exact h.si.kr s hs q k
  ·rw [List.mem_singleton.1 k]; exact hp
 have hnd:(Ks ks s++[p]).Nodup:=by
  rw [List.nodup_append]
  exact ⟨h.si.kn s hs,by simp,λx hx y hy e=>h.si.room hp hs ha (by rw [List.mem_singleton.1 hy] at e; exact e ▸ hx)⟩
 have h1:=vF (aH1 r (a.set p.toNat s) s) (l':=Ks ks s++[p]) λq hq=>by
  obtain ⟨k1,k2⟩:=vD.1 hq
  exact (aFy h hp hs ha k1).2 k2
 have h2:=vF hnd (l':=oK r (a.set p.toNat s) s) λq hq=>vD.2 ⟨hin q hq,(aFy h hp hs ha (hin q hq)).1 hq⟩
 omega
def idle (r:aB) (a nx:List Int) (p:Int):Prop:=Asg a p ≠ -1 ∨ Nx nx p=((pf r p).length:Int)
theorem aPy {N:Nat} (hN:40≤N) {r:aB} (hr:iX r) {l:List aA} {a nx:List Int} {ks:List (List Int)} (h:RI r l a nx ks) {p:Nat} (hp:p < r.People.length) (again:Bool) :
  (idle r a nx (p:Int)∧fI N (rR r) a nx again (p:Int)=some (.cont (a,nx,again,((p + 1:Nat):Int)))) ∨
  ∃ l' a' nx' ks',fI N (rR r) a nx again (p:Int)=some (.cont (a',nx',true,((p + 1:Nat):Int)))∧RI r l' a' nx' ks'∧nx'.sum=nx.sum + 1:=by
 have hpP:inP r (p:Int):=⟨by omega,by omega⟩
 have hp2:=hr.p2
 have hal:=h.si.al
 have hnl:=h.nl
 have hpl:=hr.pf_len (nM hpP)
 have ga:aQ a (p:Int)=some (Asg a (p:Int)):=jB (-1) (by omega) (by omega)
 have gn:aQ nx (p:Int)=some (Nx nx (p:Int)):=jB 0 (by omega) (by omega)
 unfold fI kK
 show (_∧cond (decide ((p:Int) < ((r.People.length:Nat):Int))) _ _=_) ∨ ∃ l' a' nx' ks',cond (decide ((p:Int) < ((r.People.length:Nat):Int))) _ _=_∧_
 rw [bW hp,cond_true,ga,gn,rpp hpP,bP (by omega)]
 simp only [Option.bind_some]
 by_cases h1:Asg a (p:Int) = -1
 ·rw [show (Asg a (p:Int) != -1)=false by rw [h1]; rfl,cond_false,Option.bind_some]
  by_cases h2:Nx nx (p:Int)=((pf r (p:Int)).length:Int)
  ·left
   rw [h2,beq_self_eq_true,cond_true]
   exact ⟨.inr h2,rfl⟩
  ·right
   have h3:=h.n0 _ hpP
   obtain ⟨j,hj0⟩:=Int.eq_ofNat_of_zero_le h3.1
   have hj:j < (pf r (p:Int)).length:=by omega
   have hS:=uZ hr hpP (List.getElem_mem hj)
   have hsum:(nx.set (p:Int).toNat ((j + 1:Nat):Int)).sum=nx.sum + 1:=by
    have hs:=aKe nx p (by omega)
    unfold Nx at hj0
    rw [Int.toNat_natCast] at hj0
    rw [hj0] at hs
    rw [Int.toNat_natCast,← hs]
    rfl
   rw [beq_eq_false_iff_ne.2 h2,cond_false,hj0,bF hj,Option.bind_some,aI8 hN hr hS hpP,Option.bind_some,bP (by omega)]
   by_cases h4:mX r (p:Int) (pf r (p:Int))[j]
   ·rw [decide_eq_true h4,Bool.not_true,cond_false,aLz hN hr (by rw [List.length_set]; exact hal),Option.bind_some,rst hS,Option.bind_some,aLj h hpP hS h1]
    show ∃ l' a' nx' ks',cond (decide (((((Ks ks (pf r (p:Int))[j]++[(p:Int)]).length:Nat)):Int)≤(sta r (pf r (p:Int))[j]).Places)) _ _=_∧_
    by_cases hc:((((Ks ks (pf r (p:Int))[j]++[(p:Int)]).length:Nat)):Int)≤(sta r (pf r (p:Int))[j]).Places
    ·rw [decide_eq_true hc,cond_true]
     exact ⟨_,_,_,_,rfl,h.take hr hpP hj hj0 h1 h4 hc,hsum⟩
    ·rw [decide_eq_false hc,cond_false]
     generalize hse:(pf r (p:Int))[j]=s at *
     obtain ⟨s38,g1,g2,g3,g4⟩:=tY (ρ:=bC ((List Int) × (List Int) × Bool × Int) (bC ((List Int) × (List Int) × Bool) ((List Int) × Int))) (λs38=>kT N (rR r) a (p:Int) s s38.1 s38.2) (λi s38=>s38.2=(i:Int)∧s38.1 ∈ Ks ks s++[(p:Int)]∧∀ o ∈ Ks ks s++[(p:Int)],o < (i:Int)→rk r s o≤rk r s s38.1) r.People.length (λi s38 hi hJ=>by
      obtain ⟨q,y⟩:=s38
      obtain ⟨rfl,k1,k2⟩:=hJ
      dsimp only at k1 k2
      have hiP:inP r (i:Int):=⟨by omega,by omega⟩
      have gq:aQ (a.set (p:Int).toNat s) (i:Int)=some (Asg (a.set (p:Int).toNat s) (i:Int)):=jB (-1) (by omega) (by rw [List.length_set]; omega)
      have hb:kT N (rR r) a (p:Int) s q (i:Int)=some (.cont (if (i:Int) ∈ Ks ks s++[(p:Int)]∧rk r s q < rk r s (i:Int) then (i:Int) else q,((i + 1:Nat):Int))):=by
       unfold kT pZ
       show cond (decide ((i:Int) < ((r.People.length:Nat):Int))) _ _=_
       rw [bW hi,cond_true,gq,Option.bind_some,rst hS,Option.bind_some,aOd hr hN hS,Option.bind_some,Option.bind_some,aOd hr hN hS,Option.bind_some,bP (by omega)]
       have hmm:=aFy h hpP hS h1 hiP
       by_cases h5:(i:Int) ∈ Ks ks s++[(p:Int)]
       ·rw [beq_iff_eq.2 (hmm.1 h5),cond_true,Option.bind_some]
        by_cases h6:rk r s q < rk r s (i:Int)
        ·rw [decide_eq_true h6,cond_true,if_pos ⟨h5,h6⟩]
        ·rw [decide_eq_false h6,cond_false,if_neg (λe=>h6 e.2)]
       ·rw [beq_eq_false_iff_ne.2 (λe=>h5 (hmm.2 e)),cond_false,Option.bind_some,cond_false,if_neg (λe=>h5 e.1)]
      refine ⟨_,hb,rfl,?_,λo ho hlt=>?_⟩
      ·dsimp only; split
       ·rename_i h5; exact h5.1
       ·exact k1
      ·dsimp only
       by_cases h5:o=(i:Int)
       ·subst h5
        split
        ·exact Int.le_refl _
        ·rename_i h6
         have:¬ rk r s q < rk r s (i:Int):=λe=>h6 ⟨ho,e⟩
         omega
       ·have:=k2 o ho (by push_cast at hlt; omega)
        split
        ·rename_i h6; omega
        ·exact this) (λs38 hJ=>by
      show kT N (rR r) a (p:Int) s s38.1 s38.2=_
      unfold kT
      rw [hJ.1]
      show cond (decide (((r.People.length:Nat):Int) < ((r.People.length:Nat):Int))) _ _=_
      rw [bU,cond_false,← hJ.1]) r.People.length 0 ((p:Int),0) N (by omega) (by omega) ⟨rfl,List.mem_append_right _ (List.mem_singleton.2 rfl),λo ho hlt=>by
       rcases List.mem_append.1 ho with h5 | h5
       ·have:=(h.si.kr s hS o h5).1; omega
       ·rw [List.mem_singleton.1 h5] at hlt; omega⟩
     have hmax:∀ o ∈ Ks ks s++[(p:Int)],rk r s o≤rk r s s38.1:=λo ho=>g4 o ho (by
      rcases List.mem_append.1 ho with h5 | h5
      ·exact (h.si.kr s hS o h5).2
      ·rw [List.mem_singleton.1 h5]; exact hpP.2)
     have hov:=h.over hr hpP hj hj0 h1 (by rw [hse]; exact h4) (by rw [hse]; omega) (q:=s38.1) (by rw [hse]; exact g3) (by rw [hse]; exact hmax)
     rw [hse] at hov
     obtain ⟨hqP,hRI⟩:=hov
     have gw:aQ (a.set (p:Int).toNat s) s38.1=some (Asg (a.set (p:Int).toNat s) s38.1):=jB (-1) hqP.1 (by rw [List.length_set,hal]; exact hqP.2)
     rw [g1,Option.bind_some]
     simp only [exK]
     rw [gw,Option.bind_some]
     exact ⟨_,_,_,_,rfl,hRI,hsum⟩
   ·rw [decide_eq_false h4,Bool.not_false,cond_true]
    exact ⟨_,_,_,_,rfl,h.skip hr hpP hj hj0 h4,hsum⟩
 ·left
  rw [bne_iff_ne.2 h1,cond_true,Option.bind_some,cond_true]
  exact ⟨.inl h1,rfl⟩
def RId (r:aB) (a nx:List Int):Prop:=∃ l ks,RI r l a nx ks
theorem aP3 {N:Nat} (hN:40≤N) {r:aB} (hr:iX r) {a nx:List Int} (h:RId r a nx) :
  ∃ s:List Int × List Int × Bool × Int,aS (λs21=>fI N (rR r) s21.1 s21.2.1 s21.2.2.1 s21.2.2.2) N (a,nx,false,0)=some (.go s)∧RId r s.1 s.2.1 ∧
   ((s.2.2.1=false∧s.2.1=nx∧∀ p,inP r p→idle r s.1 s.2.1 p) ∨ (s.2.2.1=true∧nx.sum < s.2.1.sum)):=by
 have hp2:=hr.p2
 obtain ⟨s,g1,g2,g3,g4⟩:=tY (ρ:=bC ((List Int) × (List Int) × Bool) ((List Int) × Int)) (λs21=>fI N (rR r) s21.1 s21.2.1 s21.2.2.1 s21.2.2.2)
  (λi s=>s.2.2.2=(i:Int)∧RId r s.1 s.2.1∧((s.2.2.1=false∧s.2.1=nx∧∀ p,inP r p→p < (i:Int)→idle r s.1 s.2.1 p) ∨ (s.2.2.1=true∧nx.sum < s.2.1.sum))) r.People.length (λi s hi hI=>by
  obtain ⟨a1,n1,ag,y⟩:=s
  obtain ⟨rfl,⟨l,ks,hR⟩,hI⟩:=hI
  dsimp only at hR hI
  show ∃ s',fI N (rR r) a1 n1 ag (i:Int)=_∧_
  rcases aPy hN hr hR hi ag with ⟨k1,k2⟩ | ⟨l',a',n',ks',k1,k2,k3⟩
  ·refine ⟨_,k2,rfl,⟨l,ks,hR⟩,?_⟩
   rcases hI with ⟨e1,e2,e3⟩ | e
   ·refine .inl ⟨e1,e2,λp hp hlt=>?_⟩
    by_cases h4:p=(i:Int)
    ·subst h4; exact k1
    ·exact e3 p hp (by push_cast at hlt; omega)
   ·exact .inr e
  ·refine ⟨_,k1,rfl,⟨l',ks',k2⟩,.inr ⟨rfl,?_⟩⟩
   dsimp only
   rcases hI with ⟨-,e2,-⟩ | ⟨-,e⟩
   ·rw [k3,e2]; omega
   ·rw [k3]; omega) (λs hI=>by
  show fI N (rR r) s.1 s.2.1 s.2.2.1 s.2.2.2=_
  unfold fI
  rw [hI.1]
  show cond (decide (((r.People.length:Nat):Int) < ((r.People.length:Nat):Int))) _ _=_
  rw [bU,cond_false,← hI.1]) r.People.length 0 (a,nx,false,0) N (by omega) (by omega) ⟨rfl,h,.inl ⟨rfl,rfl,λp hp hlt=>by have:=hp.1; omega⟩⟩
 refine ⟨s,g1,g3,?_⟩
 rcases g4 with ⟨e1,e2,e3⟩ | e
 ·exact .inl ⟨e1,e2,λp hp=>e3 p hp hp.2⟩
 ·exact .inr e
theorem aQ5:∀ {l:List Int},(∀ x ∈ l,0≤x)→0≤l.sum
 | [],_=>by simp
 | x::l,h=>by
  have h1:=h x List.mem_cons_self
  have h2:=aQ5 (l:=l) λy hy=>h y (List.mem_cons_of_mem _ hy)
  rw [List.sum_cons]
  omega
theorem aR4 {N:Nat} (hN:200≤N) {r:aB} (hr:iX r) {a nx:List Int} (h:RId r a nx) :
  ∃ s:List Int × List Int × Bool,aS (λs13=>iP N (rR r) s13.1 s13.2.1 s13.2.2) N (a,nx,true)=some (.go s)∧∃ l,yG r s.1 l:=by
 have hsum:∀ {a nx},RId r a nx→0≤nx.sum∧nx.sum≤144:=fun {a nx} h=>by
  obtain ⟨l,ks,h⟩:=h
  refine ⟨aQ5 λx hx=>?_,h.sum hr⟩
  obtain ⟨i,hi,rfl⟩:=List.getElem_of_mem hx
  have h2:=(h.n0 (i:Int) ⟨by omega,by have:=h.nl; omega⟩).1
  unfold Nx at h2
  rw [Int.toNat_natCast,← cP hi] at h2
  exact h2
 obtain ⟨s,g1,g2⟩:=loop_to (ρ:=List Int × Int) (f:=λs13:List Int × List Int × Bool=>iP N (rR r) s13.1 s13.2.1 s13.2.2)
  (λs=>RId r s.1 s.2.1∧(s.2.2=false→∀ p,inP r p→idle r s.1 s.2.1 p)) (λs=>∃ l,yG r s.1 l) (λs=>cond s.2.2 (1 + (144 - s.2.1.sum).toNat) 0) (λs hI=>by
  obtain ⟨a1,n1,ag⟩:=s
  obtain ⟨hR,hI⟩:=hI
  dsimp only at hR hI
  show (∃ s',iP N (rR r) a1 n1 ag=_∧_) ∨ (∃ s',iP N (rR r) a1 n1 ag=_∧_)
  unfold iP
  cases ag with
  | false=>
   left
   obtain ⟨l,ks,hR⟩:=hR
   exact ⟨_,rfl,l,hR.settled hr (hI rfl)⟩
  | true=>
   right
   obtain ⟨s,g1,g2,g3⟩:=aP3 (N:=N) (by omega) hr hR
   rw [cond_true,g1,Option.bind_some]
   simp only [exK]
   refine ⟨_,rfl,⟨g2,λe=>?_⟩,?_⟩
   ·rcases g3 with ⟨-,-,k⟩ | ⟨k,-⟩
    ·exact k
    ·dsimp only at e; rw [k] at e; cases e
   ·have b1:=hsum hR
    have b2:=hsum g2
    dsimp only
    rw [cond_true]
    rcases g3 with ⟨k,-⟩ | ⟨k,k2⟩
    ·rw [k,cond_false]; omega
    ·rw [k,cond_true]; omega) N (a,nx,true) ⟨h,λe=>by cases e⟩ (by have:=hsum h; dsimp only; rw [cond_true]; omega)
 exact ⟨s,g1,g2⟩
theorem aP4 {N:Nat} (hN:200≤N) {r:aB} (hm:Sml r) (hr:iX r):∃ b l,qW N (rR r)=some (b,0)∧yG r b l:=by
 have hp2:=hr.p2
 have eA:∀ p,Asg (List.replicate r.People.length (-1)) p = -1:=λp=>by
  unfold Asg
  simp only [List.getD,List.getElem?_replicate]
  split <;> rfl
 have eN:∀ p,Nx (List.replicate r.People.length 0) p=0:=λp=>by
  unfold Nx
  simp only [List.getD,List.getElem?_replicate]
  split <;> rfl
 have hR0:RId r (List.replicate r.People.length (-1)) (List.replicate r.People.length 0):=by
  refine ⟨[],_,(aLi hr).congr λp hp=>?_,by simp,λp hp=>?_,λp hp t ht hlt hpo=>?_,λp hp t hRf=>?_,λp hp hne=>absurd (eA p) hne⟩
  ·rw [eA]; have:=hp.1; exact ⟨λk=>by omega,λk=>absurd rfl k⟩
  ·rw [eN]; omega
  ·rw [eN] at hlt
   obtain ⟨i,hi,rfl⟩:=List.getElem_of_mem ht
   rw [jU (hr.pn _ (nM hp)) hi] at hlt
   omega
  ·exact absurd hRf List.not_mem_nil
 obtain ⟨s,g1,l,g2⟩:=aR4 hN hr hR0
 have l10:=rK (ρ:=List Int × Int) (λi:Nat=>(List.replicate i (-1:Int)++List.replicate (r.People.length - i) 0,(i:Int))) r.People.length (λs10=>iM N (rR r) s10.1 s10.2) (λi hi=>by
  show iM N (rR r) (List.replicate i (-1:Int)++List.replicate (r.People.length - i) 0) (i:Int)=_
  unfold iM
  show cond (decide ((i:Int) < ((r.People.length:Nat):Int))) _ _=_
  have e1:List.replicate (r.People.length - i) (0:Int)=0::List.replicate (r.People.length - (i + 1)) 0:=by
   rw [show r.People.length - i=(r.People.length - (i + 1)) + 1 by omega,List.replicate_succ]
  have hs:=aN5 (List.replicate i (-1:Int)) (List.replicate (r.People.length - (i + 1)) 0) 0 (-1)
  rw [List.length_replicate] at hs
  rw [bW hi,cond_true,e1,bF (by rw [List.length_append,List.length_replicate,List.length_cons]; omega),Option.bind_some,bP (by omega),Int.toNat_natCast,hs,List.replicate_succ',List.append_assoc]
  rfl) (by
  show iM N (rR r) _ (r.People.length:Int)=_
  unfold iM
  show cond (decide (((r.People.length:Nat):Int) < ((r.People.length:Nat):Int))) _ _=_
  rw [bU,cond_false]) (N:=N) (by omega)
 refine ⟨s.1,l,?_,g2⟩
 unfold qW
 rw [zX (by omega) hm,aDr.2 hr,Option.bind_some,bne_self_eq_false,cond_false]
 show Option.bind (inM ((r.People.length:Nat):Int)) (λun=>Option.bind (inM ((r.People.length:Nat):Int)) λun_1=>Option.bind (aS (λs10=>iM N (rR r) s10.1 s10.2) N (List.replicate (((r.People.length:Nat):Int)).toNat (0:Int),((0:Nat):Int))) λx10=>exK x10 (λs10=>Option.bind (aS (λs13=>iP N (rR r) s13.1 s13.2.1 s13.2.2) N (s10.1,List.replicate (((r.People.length:Nat):Int)).toNat (0:Int),true)) _) some)=_
 rw [aPt (by omega),Option.bind_some,Option.bind_some,Int.toNat_natCast]
 have e0:(List.replicate r.People.length (0:Int),((0:Nat):Int))=(List.replicate 0 (-1:Int)++List.replicate (r.People.length - 0) 0,((0:Nat):Int)):=rfl
 rw [e0,l10,Option.bind_some]
 simp only [exK]
 rw [Nat.sub_self,List.replicate_zero,List.append_nil,g1,Option.bind_some]
end Go.Nilo
namespace Go.Nilo
theorem aKi {N:Nat} {l:List (List Int)} (hl:l.length≤15) (hN:40≤N) (h:∀ x ∈ l,x.length≤15):oJ N l=some l:=by
 have hrun:=rK (ρ:=List (List Int)) (λi:Nat=>(l.take i,(i:Int))) l.length (λs5=>eW N l s5.1 s5.2) (λi hi=>by
  show eW N l (l.take i) (i:Int)=_
  unfold eW gO
  have h1:=h _ (List.getElem_mem hi)
  rw [bW hi,cond_true,bF hi,Option.bind_some,fQ (by omega),Option.bind_some,Option.bind_some,List.take_append_getElem hi,fQ (by rw [List.length_take]; omega),Option.bind_some,bP (by omega)]) (by
  show eW N l _ (l.length:Int)=_
  unfold eW
  rw [bU,cond_false]) (N:=N) (by omega)
 unfold oJ
 show Option.bind (aS (λs5=>eW N l s5.1 s5.2) N (l.take 0,((0:Nat):Int))) _=_
 rw [hrun,Option.bind_some]
 simp only [exK]
 rw [List.take_length]
theorem aPh {N:Nat} (hN:40≤N) {r:aB} (h:Sml r):pQ N r=some r:=by
 have hs:=h.s
 have hrun:=rK (ρ:=aB) (λi:Nat=>((i:Int),r.Stations.take i)) r.Stations.length (λs5=>gT N r s5.1 s5.2) (λi hi=>by
  show gT N r (i:Int) (r.Stations.take i)=_
  unfold gT gO
  have h1:=h.sl _ (List.getElem_mem hi)
  rw [bW hi,cond_true,bF hi,Option.bind_some,fQ (by omega),Option.bind_some,Option.bind_some,show (⟨r.Stations[i].Places,r.Stations[i].Order⟩:aD)=r.Stations[i] from rfl,List.take_append_getElem hi,fQ (by rw [List.length_take]; omega),Option.bind_some,bP (by omega)]) (by
  show gT N r (r.Stations.length:Int) _=_
  unfold gT
  rw [bU,cond_false]) (N:=N) (by omega)
 unfold pQ
 rw [aKi h.p hN h.pl,Option.bind_some]
 show Option.bind (aS (λs5=>gT N r s5.1 s5.2) N (((0:Nat):Int),r.Stations.take 0)) _=_
 rw [hrun,Option.bind_some]
 simp only [exK]
 rw [List.take_length]
theorem aI9 {N:Nat} (hN:40≤N) {r:aB} (h:Sml r):iD N r=some (rR r):=by
 have hs:=h.s
 have hrun:=rK (ρ:=bR) (λi:Nat=>((i:Int),(r.Stations.take i).map rS)) r.Stations.length (λs5=>mD N r s5.1 s5.2) (λi hi=>by
  show mD N r (i:Int) ((r.Stations.take i).map rS)=_
  unfold mD gO
  have h1:=h.sl _ (List.getElem_mem hi)
  rw [bW hi,cond_true,bF hi,Option.bind_some,fQ (by omega),Option.bind_some,Option.bind_some,show [(⟨r.Stations[i].Places,r.Stations[i].Order⟩:bL)]=[r.Stations[i]].map rS from rfl,← List.map_append,List.take_append_getElem hi,fQ (by rw [List.length_map,List.length_take]; omega),Option.bind_some,bP (by omega)]) (by
  show mD N r (r.Stations.length:Int) _=_
  unfold mD
  rw [bU,cond_false]) (N:=N) (by omega)
 unfold iD
 rw [aKi h.p hN h.pl,Option.bind_some]
 show Option.bind (aS (λs5=>mD N r s5.1 s5.2) N (((0:Nat):Int),(r.Stations.take 0).map rS)) _=_
 rw [hrun,Option.bind_some]
 simp only [exK]
 rw [List.take_length]
 rfl
theorem aF9 {N:Nat} {l:List aA} (hl:l.length≤150) (hN:200≤N):pY N l=some (l.map rF):=by
 have hrun:=rK (ρ:=List aW) (λi:Nat=>((l.take i).map rF,(i:Int))) l.length (λs5=>jD N l s5.1 s5.2) (λi hi=>by
  show jD N l ((l.take i).map rF) (i:Int)=_
  unfold jD
  rw [bW hi,cond_true,bF hi,Option.bind_some,show [(⟨l[i].Person,l[i].Station⟩:aW)]=[l[i]].map rF from rfl,← List.map_append,List.take_append_getElem hi,fQ (by rw [List.length_map,List.length_take]; omega),Option.bind_some,bP (by omega)]) (by
  show jD N l _ (l.length:Int)=_
  unfold jD
  rw [bU,cond_false]) (N:=N) (by omega)
 unfold pY
 show Option.bind (aS (λs5=>jD N l s5.1 s5.2) N ((l.take 0).map rF,((0:Nat):Int))) _=_
 rw [hrun,Option.bind_some]
 simp only [exK]
 rw [List.take_length]
theorem same_int {N:Nat} {l:List Int} (hl:l.length≤1000) (hN:l.length < N):dW N l l=some true:=by
 unfold dW
 rw [bne_self_eq_false,cond_false,vE l (by omega) (λs7=>fD N l l s7) (λi hi=>by
  unfold fD
  simp only [bW hi,cond_true,bF hi,Option.bind_some,bne_self_eq_false,cond_false]
  rw [bP (by omega)]) (by
  unfold fD
  rw [bU]; rfl) hN]
 rfl
theorem aQo {N:Nat} {l:List aA} (hl:l.length≤1000) (hN:l.length < N):kC N l l=some true:=by
 unfold kC
 rw [bne_self_eq_false,cond_false,vE l (by omega) (λs7=>hO N l l s7) (λi hi=>by
  unfold hO
  simp only [bW hi,cond_true,bF hi,Option.bind_some,beq_self_eq_true,Bool.and_self,Bool.not_true,cond_false]
  rw [bP (by omega)]) (by
  unfold hO
  rw [bU]; rfl) hN]
 rfl
theorem aR0 {N:Nat} (hN:40≤N) {r:aB} (h:Sml r):yS N r r=some true:=by
 have hp:=h.p
 have hs:=h.s
 have e1:sC N r.People r.People=some true:=by
  unfold sC
  rw [bne_self_eq_false,cond_false,vE r.People (by omega) (λs7=>lD N r.People r.People s7) (λi hi=>by
   have h1:=h.pl _ (List.getElem_mem hi)
   unfold lD
   simp only [bW hi,cond_true,bF hi,Option.bind_some]
   rw [same_int (by omega) (by omega),Option.bind_some,bP (by omega)]
   rfl) (by
   unfold lD
   rw [bU]; rfl) (by omega)]
  rfl
 unfold yS
 rw [e1,Option.bind_some,bne_self_eq_false]
 rw [vE r.Stations (by omega) (λs7=>wO N r r s7) (λi hi=>by
  have h1:=h.sl _ (List.getElem_mem hi)
  unfold wO
  simp only [bW hi,cond_true,bF hi,Option.bind_some,bne_self_eq_false,cond_false]
  rw [same_int (by omega) (by omega),Option.bind_some,bP (by omega)]
  rfl) (by
  unfold wO
  rw [bU]; rfl) (by omega)]
 rfl
theorem aGa {ρ:Type} {g:Nat→Option ρ}:∀ m i,(∀ j,i≤j→j < i + m→g j=none)→eM g i m=none
 | 0,_,_=>rfl
 | m + 1,i,h=>by
  unfold eM
  rw [h i (Nat.le_refl _) (by omega)]
  exact aGa m (i + 1) λj h1 h2=>h j (by omega) (by omega)
theorem aJ6 {r:aB} (hr:iX r) {b:List Int} {l:List aA} {ks:List (List Int)} (h:SI r (λ_=>True) l b ks):hres r l=(true,0):=by
 have hl:=h.len hr
 unfold hres
 rw [decide_eq_false (by omega),cond_false,List.all_eq_true.2 λx hx=>aEr.2 ⟨(h.refp x hx).1,(h.refp x hx).2.1⟩,cond_true,aGa l.length 0 λi _ hi=>by
  have hi:i < l.length:=by omega
  rw [← cP hi]
  have:hldB r (l.take i) l[i]=true:=by
   obtain ⟨qs,q1,q2,q3⟩:=h.just i hi
   have hle:=vF q1 (l':=((ppl r).take r.People.length).filter (okQ r (l.take i) l[i])) λq hq=>by
    obtain ⟨k1,k2,k3,k4⟩:=q3 q hq
    rw [List.take_of_length_le (l:=ppl r) (by simp [ppl]),List.mem_filter,aM5]
    refine ⟨k1,?_⟩
    unfold okQ
    rw [decide_eq_true k2,decide_eq_true k3,aG0.2 k4]
    rfl
   unfold hldB cnt
   rw [decide_eq_true (p:=(sta r l[i].Station).Places≤_) (by omega),Bool.or_true]
  rw [this,cond_true]]
theorem aQx {l:List Int} (hn:l.Nodup) {v t:Int} (h:t ∈ l.takeWhile λx=>!(x == v)):t ∈ l∧(v ∈ l→sQ l t < sQ l v):=by
 have hpre:=List.takeWhile_prefix (l:=l) λx=>!(x == v)
 refine ⟨hpre.subset h,λhv=>?_⟩
 obtain ⟨i,hi,rfl⟩:=List.getElem_of_mem h
 obtain ⟨j,hj,hje⟩:=List.getElem_of_mem hv
 have hil:i < l.length:=Nat.lt_of_lt_of_le hi hpre.length_le
 rw [hpre.getElem hi,jU hn hil,← hje,jU hn hj]
 have:¬ j < (l.takeWhile λx=>!(x == v)).length:=λhc=>by
  have hm:=List.getElem_mem hc
  have:=List.all_eq_true.1 (List.all_takeWhile (l:=l) (p:=λx=>!(x == v))) _ hm
  rw [hpre.getElem hc,hje,beq_self_eq_true] at this
  cases this
 omega
theorem aRl {N:Nat} (hN:200≤N) {r:aB} (hm:Sml r) (hr:iX r) {b:List Int} {l:List aA} {ks:List (List Int)} (h:SI r (λ_=>True) l b ks):uO N r b l=some true:=by
 have hl:=h.len hr
 have hal:=h.al
 have hp2:=hr.p2
 have l8:=rK (ρ:=Bool) (λi:Nat=>(i:Int)) l.length (λs8=>oT N l s8) (λi hi=>by
  show oT N l (i:Int)=_
  have l50:=rK (ρ:=bC Int Bool) (λj:Nat=>(j:Int)) i (λs50=>nC N l (i:Int) l[i] s50) (λj hj=>by
   show nC N l (i:Int) l[i] (j:Int)=_
   unfold nC
   have:(l[j].Person == l[i].Person && l[j].Station == l[i].Station)=false:=by
    rw [Bool.eq_false_iff]
    intro hc
    rw [Bool.and_eq_true,beq_iff_eq,beq_iff_eq] at hc
    have he:l[j]=l[i]:=by
     rcases hx:l[j] with ⟨a1,a2⟩
     rcases hy:l[i] with ⟨b1,b2⟩
     rw [hx,hy] at hc
     obtain ⟨rfl,rfl⟩:=hc
     rfl
    have:=(List.getElem_inj h.refn (h₀:=by omega) (h₁:=hi)).1 he
    omega
   rw [bW hj,cond_true,bF (by omega),Option.bind_some,this,cond_false,bP (by omega)]) (by
   show nC N l (i:Int) l[i] (i:Int)=_
   unfold nC
   rw [bU,cond_false]) (N:=N) (by omega)
  unfold oT
  rw [bW hi,cond_true,bF hi,Option.bind_some]
  show Option.bind (aS (λs50=>nC N l (i:Int) l[i] s50) N ((0:Nat):Int)) _=_
  rw [l50,Option.bind_some,bP (by omega)]
  rfl) (by
  show oT N l (l.length:Int)=_
  unfold oT
  rw [bU,cond_false]) (N:=N) (by omega)
 have l11:=rK (ρ:=Bool) (λi:Nat=>(i:Int)) r.People.length (λs11=>nF N r b l s11) (λp hp=>by
  have hpP:inP r (p:Int):=⟨by omega,by omega⟩
  have hnd:=hr.pn _ (nM hpP)
  have hpl:=hr.pf_len (nM hpP)
  have gp:aQ r.People (p:Int)=some (pf r (p:Int)):=jB [] hpP.1 hpP.2
  have gb:aQ b (p:Int)=some (Asg b (p:Int)):=jB (-1) (by omega) (by omega)
  show nF N r b l (p:Int)=_
  obtain ⟨k,hk⟩:=aP7 (ρ:=bC Int Bool) (λj:Nat=>(j:Int)) (pf r (p:Int)) (λx=>x == Asg b (p:Int)) (λs=>!(!decide ((p:Int) ∈ (sta r s).Order) || uY l (p:Int) s)) (λ_=>.ret false) (λs19=>nG N r b l (p:Int) (pf r (p:Int)) s19) (λj hj=>by
   show nG N r b l (p:Int) (pf r (p:Int)) (j:Int)=_
   have hS:=uZ hr hpP (List.getElem_mem hj)
   have hol:=hr.or_len (aGr hS)
   have gs:aQ r.Stations (pf r (p:Int))[j]=some (sta r (pf r (p:Int))[j]):=jB _ hS.1 hS.2
   have l29:=rK (ρ:=bC Int (bC Int Bool)) (λi:Nat=>(((sta r (pf r (p:Int))[j]).Order.take i).any λx=>x == (p:Int),(i:Int))) (sta r (pf r (p:Int))[j]).Order.length (λs29=>nB N (p:Int) (sta r (pf r (p:Int))[j]) s29.1 s29.2) (λi hi=>by
    show nB N (p:Int) (sta r (pf r (p:Int))[j]) (((sta r (pf r (p:Int))[j]).Order.take i).any λx=>x == (p:Int)) (i:Int)=_
    unfold nB
    rw [bW hi,cond_true,bF hi,Option.bind_some,aB8 hi,bP (by omega)]) (by
    show nB N (p:Int) (sta r (pf r (p:Int))[j]) _ ((sta r (pf r (p:Int))[j]).Order.length:Int)=_
    unfold nB
    rw [bU,cond_false]) (N:=N) (by omega)
   have l33:∀ m:Bool,aS (λs33=>lI N l (p:Int) (pf r (p:Int))[j] s33.1 s33.2) N (m,((0:Nat):Int))=some (.go ((m || uY l (p:Int) (pf r (p:Int))[j]),(l.length:Int))):=λm=>by
    have:=rK (ρ:=bC Int (bC Int Bool)) (λi:Nat=>((m || uY (l.take i) (p:Int) (pf r (p:Int))[j]),(i:Int))) l.length (λs33=>lI N l (p:Int) (pf r (p:Int))[j] s33.1 s33.2) (λi hi=>by
     show lI N l (p:Int) (pf r (p:Int))[j] (m || uY (l.take i) (p:Int) (pf r (p:Int))[j]) (i:Int)=_
     unfold lI
     have ht:uY (l.take (i + 1)) (p:Int) (pf r (p:Int))[j]=(uY (l.take i) (p:Int) (pf r (p:Int))[j] || (l[i].Person == (p:Int) && l[i].Station == (pf r (p:Int))[j])):=by
      unfold uY
      exact aB8 hi
     rw [bW hi,cond_true,bF hi,Option.bind_some,ht,← Bool.or_assoc,bP (by omega)]) (by
     show lI N l (p:Int) (pf r (p:Int))[j] _ (l.length:Int)=_
     unfold lI
     rw [bU,cond_false]) (N:=N) (by omega)
    have h0:(m || uY (l.take 0) (p:Int) (pf r (p:Int))[j])=m:=by rw [List.take_zero]; unfold uY; rw [List.any_nil,Bool.or_false]
    simp only [h0,List.take_length] at this
    exact this
   have hany:(((sta r (pf r (p:Int))[j]).Order.take (sta r (pf r (p:Int))[j]).Order.length).any λx=>x == (p:Int))=decide ((p:Int) ∈ (sta r (pf r (p:Int))[j]).Order):=by
    rw [List.take_length,Bool.eq_iff_iff,List.any_eq_true,decide_eq_true_eq]
    constructor
    ·rintro ⟨x,h1,h2⟩; have e:=beq_iff_eq.1 h2; rw [e] at h1; exact h1
    ·intro h1; exact ⟨_,h1,beq_self_eq_true _⟩
   unfold nG
   rw [bW hj,cond_true,bF hj,Option.bind_some,gb,Option.bind_some,gs,Option.bind_some]
   show cond _ _ (Option.bind (aS (λs29=>nB N (p:Int) (sta r (pf r (p:Int))[j]) s29.1 s29.2) N (((sta r (pf r (p:Int))[j]).Order.take 0).any λx=>x == (p:Int),((0:Nat):Int))) _)=_
   rw [l29,Option.bind_some,aJ0]
   show cond _ _ (Option.bind (aS (λs33=>lI N l (p:Int) (pf r (p:Int))[j] s33.1 s33.2) N (!(((sta r (pf r (p:Int))[j]).Order.take (sta r (pf r (p:Int))[j]).Order.length).any λx=>x == (p:Int)),((0:Nat):Int))) _)=_
   rw [hany,l33,Option.bind_some,aJ0,bP (by omega)]
   dsimp only
   cases (pf r (p:Int))[j] == Asg b (p:Int) with
   | true=>rfl
   | false=>cases !(!decide ((p:Int) ∈ (sta r (pf r (p:Int))[j]).Order) || uY l (p:Int) (pf r (p:Int))[j]) <;> rfl) (by
   show nG N r b l (p:Int) (pf r (p:Int)) ((pf r (p:Int)).length:Int)=_
   unfold nG
   rw [bU,cond_false]) (pf r (p:Int)).length 0 N (by omega) (by omega)
  have hno:(((pf r (p:Int)).drop 0).takeWhile λx=>!(x == Asg b (p:Int))).find? (λs=>!(!decide ((p:Int) ∈ (sta r s).Order) || uY l (p:Int) s))=none:=by
   rw [List.find?_eq_none]
   intro t ht
   rw [List.drop_zero] at ht
   obtain ⟨t1,t2⟩:=aQx hnd ht
   by_cases ho:(p:Int) ∈ (sta r t).Order
   ·have hR:Ref l (p:Int) t:=by
     by_cases ha:Asg b (p:Int) = -1
     ·exact h.free _ hpP trivial ha t t1 ⟨ho,t1⟩
     ·obtain ⟨g1,g2,g3⟩:=h.good _ hpP ha
      exact g3 t t1 (t2 g1.2) ⟨ho,t1⟩
    rw [aH3.2 hR]
    simp
   ·rw [decide_eq_false ho]
    simp
  rw [hno] at hk
  unfold nF
  rw [bW hp,cond_true,gp,Option.bind_some]
  show Option.bind (aS (λs19=>nG N r b l (p:Int) (pf r (p:Int)) s19) N ((0:Nat):Int)) _=_
  rw [hk,Option.bind_some,bP (by omega)]
  rfl) (by
  show nF N r b l (r.People.length:Int)=_
  unfold nF
  rw [bU,cond_false]) (N:=N) (by omega)
 unfold uO
 rw [aI9 (by omega) hm,Option.bind_some,aF9 (by omega) hN,Option.bind_some,aNn hN hm hr (by omega),Option.bind_some,aJ6 hr h,hal,bne_self_eq_false,bne_self_eq_false]
 show Option.bind (aS (λs8=>oT N l s8) N ((0:Nat):Int)) (λx8=>exK x8 (λs8=>Option.bind (aS (λs11=>nF N r b l s11) N ((0:Nat):Int)) _) some)=_
 rw [l8,l11]
 rfl
end Go.Nilo
namespace Go.Nilo
theorem aEb {N:Nat} (hN:40≤N) {r:aB} (h:Sml r) (hc:chk r ≠ 0):oQ N r=some (.inl (chk r)):=by
 unfold oQ
 rw [aNt hN h,Option.bind_some,bne_iff_ne.2 hc,cond_true]
theorem aL5 {N:Nat} (hN:200≤N) {r:aB} (h:Sml r) {b:List Int} (hb:b.length≤20):∃ x,oR N r b=some x∧oP N (rR r) b=some (rB x):=by
 by_cases hc:chk r=0
 ·have hr:=aDr.1 hc
  have hp2:=hr.p2
  have hs2:=hr.s2
  by_cases hok:AOk r b
  ·exact ⟨_,aQz (by omega) hr hok,aQ3 (by omega) h hr hok⟩
  ·refine ⟨(⟨0,0⟩,2),?_,?_⟩
   ·obtain ⟨rank,h1,h2⟩:=aCx (N:=N) (by omega) hr
    unfold oR
    rw [h1,Option.bind_some]
    simp only [aGl,bne_self_eq_false,cond_false]
    have c1:lQ N b r=some (b.all λx=>inB x (-1) ((r.Stations.length:Int) - 1)):=by
     unfold lQ fW iC
     refine rU (f:=λx=>gS x r) (λx=>?_) (by omega) (by omega) _ λx=>rfl
     unfold gS tU aR inB
     rw [fB (by omega) (by omega)]
    rw [c1]
    by_cases hl:b.length=r.People.length
    ·rw [hl,bne_self_eq_false]
     cases ha:b.all λx=>inB x (-1) ((r.Stations.length:Int) - 1) with
     | false=>rfl
     | true=>
      refine absurd ⟨hl,λp hp=>?_⟩ hok
      have:=List.all_eq_true.1 ha _ (aJ5 (-1) hp.1 (by rw [hl]; exact hp.2))
      unfold inB at this
      rw [Bool.and_eq_true,decide_eq_true_eq,decide_eq_true_eq] at this
      show Asg b p = -1 ∨ inS r (Asg b p)
      unfold Asg inS
      omega
    ·rw [show (((b.length:Nat):Int) != ((r.People.length:Nat):Int))=true from bne_iff_ne.2 (by omega)]
     rfl
   ·have hsl:(rR r).Stations.length=r.Stations.length:=List.length_map ..
    unfold oP
    rw [zX (by omega) h,hc,Option.bind_some,bne_self_eq_false,cond_false]
    by_cases hl:b.length=r.People.length
    ·rw [show (((b.length:Nat):Int) != (((rR r).People.length:Nat):Int))=false by rw [show (rR r).People.length=b.length from hl.symm,bne_self_eq_false],cond_false]
     rw [aRm (ρ:=aW × Int) (N:=N) (l:=b) (bad:=λe=>aK e (-1) (W ((((rR r).Stations.length:Nat):Int) - 1))) (ok:=λx=>inB x (-1) ((r.Stations.length:Int) - 1)) (v:=(⟨0,0⟩,2)) (λx=>by
      unfold aK inB
      rw [hsl,fB (by omega) (by omega),Bool.eq_iff_iff]
      simp only [Bool.or_eq_true,decide_eq_true_eq,Bool.not_eq_true',Bool.and_eq_false_iff,decide_eq_false_iff_not]
      omega) (by omega) (by omega) (λs11=>gM N (rR r) b s11) λx=>rfl,Option.bind_some]
     cases ha:b.all λx=>inB x (-1) ((r.Stations.length:Int) - 1) with
     | false=>rfl
     | true=>
      refine absurd ⟨hl,λp hp=>?_⟩ hok
      have:=List.all_eq_true.1 ha _ (aJ5 (-1) hp.1 (by rw [hl]; exact hp.2))
      unfold inB at this
      rw [Bool.and_eq_true,decide_eq_true_eq,decide_eq_true_eq] at this
      show Asg b p = -1 ∨ inS r (Asg b p)
      unfold Asg inS
      omega
    ·rw [show (((b.length:Nat):Int) != (((rR r).People.length:Nat):Int))=true from bne_iff_ne.2 (by show ((b.length:Nat):Int) ≠ ((r.People.length:Nat):Int); omega)]
     rfl
 ·refine ⟨(⟨0,0⟩,chk r),?_,?_⟩
  ·unfold oR
   rw [aEb (by omega) h hc,Option.bind_some]
   show cond (chk r != 0) _ _=_
   rw [bne_iff_ne.2 hc,cond_true]
  ·unfold oP
   rw [zX (by omega) h,Option.bind_some,bne_iff_ne.2 hc,cond_true]
   rfl
theorem aOv {N:Nat} (hN:200≤N) {r:aB} (h:Sml r) {l:List aA} (hl:l.length≤150):∃ x,sJ N r l=some x∧qL N (rR r) (l.map rF)=some x:=by
 by_cases hc:chk r=0
 ·exact ⟨_,aRw hN (aDr.1 hc) hl,aNn hN h (aDr.1 hc) hl⟩
 ·refine ⟨(false,chk r),?_,?_⟩
  ·unfold sJ
   rw [aEb (by omega) h hc,Option.bind_some]
   show cond (chk r != 0) _ _=_
   rw [bne_iff_ne.2 hc,cond_true]
  ·unfold qL
   rw [zX (by omega) h,Option.bind_some,bne_iff_ne.2 hc,cond_true]
theorem aIl {r:aB} {b:List Int} {l:List aA} (h:Sml r) (hb:b.length≤20) (hl:l.length≤150) : 
  (Option.bind (pQ 5000 r) λr_1=>
 Option.bind (gO 5000 b) λr_2=>
 Option.bind (nO 5000 l) λr_3=>
 Option.bind (nK 5000 r_1) λr_4=>
 Option.bind (iD 5000 r) λr_5=>
 Option.bind (qK 5000 r_5) λr_6=>
 cond (r_4 != r_6)
 (some false)
 (Option.bind (oR 5000 r_1 r_2) λr_7=>
 Option.bind (iD 5000 r) λr_8=>
 Option.bind (oP 5000 r_8 b) λr_9=>
 cond ((!(r_7.1.Person == r_9.1.Person && r_7.1.Station == r_9.1.Station)) || (r_7.2 != r_9.2))
 (some false)
 (Option.bind (sJ 5000 r_1 r_3) λr_10=>
 Option.bind (iD 5000 r) λr_11=>
 Option.bind (pY 5000 l) λr_12=>
 Option.bind (qL 5000 r_11 r_12) λr_13=>
 cond ((r_10.1 != r_13.1) || (r_10.2 != r_13.2))
 (some false)
 (Option.bind (qN 5000 r_1) λr_14=>
 Option.bind (iD 5000 r) λr_15=>
 Option.bind (qW 5000 r_15) λr_16=>
 Option.bind (dW 5000 r_14.1 r_16.1) λr_17=>
 cond ((!r_17) || (r_14.2 != r_16.2))
 (some false)
 (Option.bind (oU 5000 r_1) λr_18=>
 Option.bind (cond ((r_18.2 != r_16.2) || ((r_18.2 != 0) && (decide (0 < ((r_18.1.length:Nat):Int))))) (some true) (Option.bind (cond (r_18.2 == 0) (Option.bind (uO 5000 r r_16.1 r_18.1) λr_19=>
 some (!r_19)) (some false)) λt_1=>
 some t_1)) λt_2=>
 cond t_2
 (some false)
 (Option.bind (yS 5000 r_1 r) λr_20=>
 Option.bind (cond r_20 (Option.bind (dW 5000 r_2 b) λr_21=>
 some r_21) (some false)) λt_3=>
 Option.bind (cond t_3 (Option.bind (kC 5000 r_3 l) λr_22=>
 some r_22) (some false)) λt_4=>
 Option.bind (cond t_4 (Option.bind (gC 5000) λr_23=>
 some r_23) (some false)) λt_5=>
 some t_5))))))=some true:=by
 obtain ⟨x,x1,x2⟩:=aL5 (N:=5000) (by omega) h hb
 obtain ⟨y,y1,y2⟩:=aOv (N:=5000) (by omega) h hl
 unfold gO nO
 rw [aPh (by omega) h,Option.bind_some,fQ (by omega),fQ (by omega),Option.bind_some,Option.bind_some,Option.bind_some,Option.bind_some,aNt (by omega) h,Option.bind_some,aI9 (by omega) h]
 simp only [Option.bind_some]
 rw [zX (by omega) h,Option.bind_some,bne_self_eq_false,cond_false,x1,Option.bind_some,x2,Option.bind_some]
 rw [show ((!(x.1.Person == (rB x).1.Person && x.1.Station == (rB x).1.Station)) || (x.2 != (rB x).2))=false by
  show ((!(x.1.Person == x.1.Person && x.1.Station == x.1.Station)) || (x.2 != x.2))=false
  rw [beq_self_eq_true,beq_self_eq_true,bne_self_eq_false]; rfl,cond_false,y1,Option.bind_some,aF9 hl (by omega),Option.bind_some,y2,Option.bind_some,bne_self_eq_false,bne_self_eq_false,Bool.or_false,cond_false]
 have data:∃ (a:List Int) (e:Int) (z:List aA),a.length≤100∧qN 5000 r=some (a,e)∧qW 5000 (rR r)=some (a,e)∧oU 5000 r=some (z,e)∧(e=0→uO 5000 r a z=some true)∧(e ≠ 0→z.length=0):=by
  by_cases hc:chk r=0
  ·have hr:=aDr.1 hc
   obtain ⟨asg,z,w1,w2,w3⟩:=aOf (N:=5000) (by omega) (λk h1 h2=>aOu h1 h2) hr
   obtain ⟨a2,z2,v1,v2⟩:=aP4 (N:=5000) (by omega) h hr
   have he:=aJk hr w3 v2
   subst he
   obtain ⟨ks,hS⟩:=w3
   have hp2:=hr.p2
   exact ⟨asg,0,z,by rw [hS.al]; omega,w1,v1,w2,λ_=>aRl (by omega) h hr hS,λk=>absurd rfl k⟩
  ·have hb:=aEb (N:=5000) (by omega) h hc
   refine ⟨[],chk r,[],by simp,?_,?_,?_,λk=>absurd k hc,λ_=>rfl⟩
   ·unfold qN
    rw [hb,Option.bind_some]
    show cond (chk r != 0) _ _=_
    rw [bne_iff_ne.2 hc,cond_true]
   ·unfold qW
    rw [zX (by omega) h,Option.bind_some,bne_iff_ne.2 hc,cond_true]
   ·unfold oU
    rw [hb,Option.bind_some]
    show cond (chk r != 0) _ _=_
    rw [bne_iff_ne.2 hc,cond_true]
 obtain ⟨a,e,z,hl2,w1,w2,w3,w4,w5⟩:=data
 rw [w1,Option.bind_some,w2,Option.bind_some,same_int (l:=a) (by omega) (by omega),Option.bind_some,bne_self_eq_false,Bool.not_true,Bool.or_false,cond_false,w3,Option.bind_some,bne_self_eq_false,Bool.false_or,aR0 (by omega) h,same_int (l:=b) (by omega) (by omega),aQo (by omega) (by omega),oY]
 by_cases he:e=0
 ·rw [he]
  show Option.bind (Option.bind (Option.bind (uO 5000 r a z) _) _) _=_
  rw [w4 he]; rfl
 ·show Option.bind (cond ((e != 0) && (decide (0 < ((z.length:Nat):Int)))) _ (Option.bind (cond (e == 0) _ _) _)) _=_
  rw [w5 he,bne_iff_ne.2 he,beq_eq_false_iff_ne.2 he]; rfl
theorem xK (r:aB) (b:List Int) (l:List aA):lT 5000 r b l=some true:=by
 unfold lT
 by_cases h1:r.People.length≤15∧r.Stations.length≤15∧b.length≤20∧l.length≤150
 ·obtain ⟨p1,s1,b1,l1⟩:=h1
  rw [decide_eq_false (p:=15 < ((r.People.length:Nat):Int)) (by omega),decide_eq_false (p:=15 < ((r.Stations.length:Nat):Int)) (by omega),decide_eq_false (p:=20 < ((b.length:Nat):Int)) (by omega),decide_eq_false (p:=150 < ((l.length:Nat):Int)) (by omega)]
  have l7:=tP (ρ:=Bool) (λi:Nat=>(i:Int)) (λj=>cond (decide ((r.People.getD j []).length≤15)) none (some true)) r.People.length (λs7=>gB 5000 r s7) (λi hi=>by
   show gB 5000 r (i:Int)=_
   unfold gB
   rw [bW hi,cond_true,bF hi,Option.bind_some,oY,bP (by omega),cP (d:=[]) hi]
   by_cases hh:(r.People.getD i []).length≤15
   ·rw [decide_eq_false (p:=15 < _) (by omega),decide_eq_true hh]; rfl
   ·rw [decide_eq_true (p:=15 < _) (by omega),decide_eq_false hh]; rfl) (by
   show gB 5000 r (r.People.length:Int)=_
   unfold gB
   rw [bU,cond_false]) r.People.length 0 5000 (by omega) (by omega)
  have l10:=tP (ρ:=Bool) (λi:Nat=>(i:Int)) (λj=>cond (decide ((r.Stations.getD j ⟨0,[]⟩).Order.length≤15)) none (some true)) r.Stations.length (λs10=>fN 5000 r s10) (λi hi=>by
   show fN 5000 r (i:Int)=_
   unfold fN
   rw [bW hi,cond_true,bF hi,Option.bind_some,oY,bP (by omega),cP (d:=⟨0,[]⟩) hi]
   by_cases hh:(r.Stations.getD i ⟨0,[]⟩).Order.length≤15
   ·rw [decide_eq_false (p:=15 < _) (by omega),decide_eq_true hh]; rfl
   ·rw [decide_eq_true (p:=15 < _) (by omega),decide_eq_false hh]; rfl) (by
   show fN 5000 r (r.Stations.length:Int)=_
   unfold fN
   rw [bU,cond_false]) r.Stations.length 0 5000 (by omega) (by omega)
  show Option.bind (aS (λs7=>gB 5000 r s7) 5000 ((0:Nat):Int)) (λx7=>exK x7 (λs7=>Option.bind (aS (λs10=>fN 5000 r s10) 5000 ((0:Nat):Int)) λx10=>exK x10 _ some) some)=_
  rw [l7,l10,oG (p:=λx:List Int=>decide (x.length≤15)) (d:=[]) r.People.length 0 (by omega),oG (p:=λx:aD=>decide (x.Order.length≤15)) (d:=⟨0,[]⟩) r.Stations.length 0 (by omega),List.drop_zero,List.drop_zero]
  cases hA:r.People.all λx=>decide (x.length≤15) with
  | false=>rfl
  | true=>
   cases hB:r.Stations.all λx=>decide (x.Order.length≤15) with
   | false=>rfl
   | true=>exact aIl ⟨p1,s1,λx hx=>of_decide_eq_true (List.all_eq_true.1 hA x hx),λx hx=>of_decide_eq_true (List.all_eq_true.1 hB x hx)⟩ b1 l1
 ·have:((((decide (15 < ((r.People.length:Nat):Int))) || (decide (15 < ((r.Stations.length:Nat):Int)))) || (decide (20 < ((b.length:Nat):Int)))) || (decide (150 < ((l.length:Nat):Int))))=true:=by
   simp only [Bool.or_eq_true,decide_eq_true_eq]
   omega
  rw [this,cond_true,oY]
  rfl
end Go.Nilo
