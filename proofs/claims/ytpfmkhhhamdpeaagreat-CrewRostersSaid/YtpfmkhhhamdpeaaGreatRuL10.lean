/-
  What the plain functions compute, in plain arithmetic, part 10. Conditions: what each theorem names.
-/
import Derived.Test.YtpfmkhhhamdpeaaGreatRuL9
set_option linter.unusedSimpArgs false
set_option linter.unusedVariables false
namespace Go.Nilo
theorem aL8 {α:Type} {l:List α} {i:Int} {e:α} (h:aU l i=some e):e ∈ l:=by
 unfold aU at h
 split at h
 ·exact List.mem_of_getElem? h
 ·cases h
theorem aCj {N:Nat} {α:Type} {l:List α} {ok:α→Bool} (g:α→Option Bool) (hg:∀ x ∈ l,g x=some (!ok x)) (hl:l.length < N) (hl':l.length≤1000000) (b:Int→Option (bK Int Int))
  (hb:∀ x,b x=cond (decide (x < ((l.length:Nat):Int))) (Option.bind (aU l x) fun e=>Option.bind (g e) fun r=>cond r (some (.ret x)) (some (.cont (W (x + 1))))) (some (.brk x))) :
  (Option.bind (Option.bind (Option.bind (aS b N 0) fun x4=>exK x4 (fun _=>some (-1)) some) fun r=>some (decide (0≤r))) fun r=>some (!r))=some (l.all ok):=by
 refine uP (f:=fun x=>!ok x) (fun _=>rfl) hl hl' b fun x=>?_
 rw [hb]
 cases hx:aU l x with
 | none=>rfl
 | some e=>
  simp only [Option.bind_some]
  rw [hg e (aL8 hx),Option.bind_some]
theorem aDk {N:Nat} {l:List Int} {v:Int} (hl:l.length≤1000000) (hN:l.length < N):dB N l v=some (oE l v):=by
 unfold dB oE
 have hf:(fun e=>v == e)=fun e:Int=>e == v:=funext fun e=>Bool.beq_comm
 rw [hf]
 have:=aAy (fun e=>e == v) l hl (fun s4=>tH N l v s4) (fun x=>rfl) l.length 0 N (by omega) hN (fun j h hj=>by omega)
 rw [show ((0:Nat):Int)=0 from rfl] at this
 rcases this with ⟨h1,h2⟩ | ⟨h1,h2⟩
 ·rw [if_pos h1,h2]; rfl
 ·rw [if_neg (by omega),h2]; rfl
def rng (n:Nat) (l:List Int):Bool:=l.all fun x=>inB x 0 ((n:Int) - 1)
def lst (n:Nat) (l:List Int):Int:=cond (rng n l) (if l.Nodup then 0 else 2) 1
theorem yN {l:List Int} {i:Nat} (hi:i < l.length):(l.take (i + 1)).Nodup ↔ (l.take i).Nodup∧l[i] ∉ l.take i:=by
 rw [List.take_succ_eq_append_getElem hi,List.nodup_append]
 constructor
 ·rintro ⟨h1,-,h2⟩
  exact ⟨h1,fun h=>h2 _ h _ (List.mem_singleton.2 rfl) rfl⟩
 ·rintro ⟨h1,h2⟩
  refine ⟨h1,List.nodup_cons.2 ⟨List.not_mem_nil,List.nodup_nil⟩,fun a ha b hb=>?_⟩
  rw [List.mem_singleton.1 hb]
  rintro rfl
  exact h2 ha
theorem aN8 {l:List Int} {i:Nat} (hi:i < l.length):oE l l[i] < (i:Int) ↔ l[i] ∈ l.take i:=by
 obtain ⟨j,h1,h2,h3⟩:=xX (List.getElem_mem hi)
 constructor
 ·intro h
  refine List.mem_iff_getElem.2 ⟨j,by rw [List.length_take]; omega,?_⟩
  rw [List.getElem_take]
  exact h3
 ·intro h
  obtain ⟨k,hk,he⟩:=List.getElem_of_mem h
  rw [List.length_take] at hk
  rw [List.getElem_take] at he
  have hfi:l.findIdx (fun e=>l[i] == e)≤k:=by
   apply Nat.le_of_not_lt
   intro hc
   have:=List.not_of_lt_findIdx hc
   rw [he] at this
   simp at this
  unfold oE
  rw [if_pos (by omega)]
  omega
theorem aEh {ρ:Type} {l:List Int} {v:ρ}:∀ m i,i + m=l.length→(l.take i).Nodup→eX (fun j=>if l.getD j 0 ∈ l.take j then some v else none) i m=if l.Nodup then none else some v
 | 0,i,hi,hn=>by
  rw [List.take_of_length_le (by omega)] at hn
  rw [if_pos hn]
  rfl
 | m + 1,i,hi,hn=>by
  have hlt:i < l.length:=by omega
  unfold eX
  by_cases h:l.getD i 0 ∈ l.take i
  ·rw [if_pos h,if_neg]
   intro hl
   rw [← dP hlt] at h
   have hs:(l.take (i + 1)).Nodup:=hl.sublist (List.take_sublist _ _)
   exact ((yN hlt).1 hs).2 h
  ·rw [if_neg h]
   rw [← dP hlt] at h
   exact aEh m (i + 1) (by omega) ((yN hlt).2 ⟨hn,h⟩)
theorem aJp {N:Nat} {l:List Int} (hl:l.length≤1000) (hN:l.length < N):pI N l=some (decide l.Nodup):=by
 unfold pI
 have hs:=rW (ρ:=Bool) (fun i:Nat=>(i:Int)) (fun j=>if l.getD j 0 ∈ l.take j then some false else none) l.length (fun s4=>gM N l s4) (fun i hi=>by
  show gM N l (i:Int)=_
  unfold gM
  have hsub:yP l 0 (i:Int)=some (l.take i):=by
   unfold yP
   rw [if_pos ⟨by omega,by omega,by omega⟩]
   simp
  rw [cM hi,cond_true,bS hi,Option.bind_some,hsub,Option.bind_some,wX (by rw [List.length_take]; omega) (by rw [List.length_take]; omega),Option.bind_some,dP (d:=(0:Int)) hi]
  by_cases h:l.getD i 0 ∈ l.take i
  ·rw [decide_eq_true h,cond_true,if_pos h]
  ·rw [decide_eq_false h,cond_false,if_neg h,cI (by omega)]) (by
  show gM N l _=_
  unfold gM
  rw [cJ,cond_false]) l.length 0 N (by omega) hN
 rw [show (0:Int)=((0:Nat):Int) from rfl,hs,aEh l.length 0 (by omega) (by simp),Option.bind_some]
 by_cases h:l.Nodup
 ·rw [if_pos h,decide_eq_true h]; rfl
 ·rw [if_neg h,decide_eq_false h]; rfl
theorem aHw {N:Nat} {l:List Int} {n:Nat} (hn:n≤1000) (hl:l.length≤1000) (hN:l.length < N):mU N l (n:Int)=some (lst n l):=by
 unfold mU
 have hs:=rW (ρ:=Int) (fun i:Nat=>(((if (l.take i).Nodup then 0 else 2:Int)),(i:Int))) (fun j=>cond (inB (l.getD j 0) 0 ((n:Int) - 1)) none (some 1)) l.length (fun s5=>iG N l (n:Int) s5.1 s5.2) (fun i hi=>by
  show iG N l (n:Int) (if (l.take i).Nodup then 0 else 2) (i:Int)=_
  unfold iG nE cB
  rw [cM hi,cond_true,bS hi,Option.bind_some,Option.bind_some,zK (by omega) (by omega),aDk (by omega) hN,Option.bind_some,dP (d:=(0:Int)) hi]
  unfold inB
  by_cases h1:l.getD i 0 < 0
  ·rw [decide_eq_true h1,decide_eq_false (show ¬ 0≤l.getD i 0 by omega)]; rfl
  ·by_cases h2:(n:Int) - 1 < l.getD i 0
   ·rw [decide_eq_false h1,decide_eq_true h2,decide_eq_false (show ¬ l.getD i 0≤(n:Int) - 1 by omega),Bool.and_false]; rfl
   ·rw [decide_eq_false h1,decide_eq_false h2,decide_eq_true (show 0≤l.getD i 0 by omega),decide_eq_true (show l.getD i 0≤(n:Int) - 1 by omega),cI (by omega)]
    have hb:=aN8 hi
    have ht:=yN hi
    rw [dP (d:=(0:Int)) hi] at hb ht
    by_cases h3:l.getD i 0 ∈ l.take i
    ·rw [decide_eq_true (hb.2 h3),if_neg (show ¬ (l.take (i + 1)).Nodup from fun hh=>(ht.1 hh).2 h3)]; rfl
    ·rw [decide_eq_false (fun hh=>h3 (hb.1 hh))]
     by_cases h4:(l.take i).Nodup
     ·rw [if_pos h4,if_pos (ht.2 ⟨h4,h3⟩)]; rfl
     ·rw [if_neg h4,if_neg (fun hh=>h4 (ht.1 hh).1)]; rfl) (by
  show iG N l (n:Int) _ (l.length:Int)=_
  unfold iG
  rw [cJ,cond_false]) l.length 0 N (by omega) hN
 have h0:(if (l.take 0).Nodup then 0 else 2:Int)=0:=by simp
 simp only [h0] at hs
 show Option.bind (aS (fun s5=>iG N l (n:Int) s5.1 s5.2) N (0,((0:Nat):Int))) _=_
 rw [hs,pH (p:=fun x=>inB x 0 ((n:Int) - 1)) (d:=0) l.length 0 (by omega),List.drop_zero,Option.bind_some]
 unfold lst rng
 cases l.all fun x=>inB x 0 ((n:Int) - 1)
 ·rfl
 ·rw [List.take_length]; rfl
def rS (x:aG):aY:=⟨x.Places,x.Order⟩
def rR (r:aB):bE:=⟨r.People,r.Stations.map rS⟩
def aB8 (n:Nat) (x:aG):Bool:=inB x.Places 1 12 && rng n x.Order
def chk (r:aB):Int :=
 cond ((!inB (r.People.length:Int) 1 12) || (!inB (r.Stations.length:Int) 1 12)) 3
  (cond (r.People.all (rng r.Stations.length) && r.Stations.all (aB8 r.People.length))
   (cond ((r.People.all fun l=>decide l.Nodup) && r.Stations.all fun x=>decide x.Order.Nodup) 0 10) 120)
structure Sml (r:aB):Prop where
 p:r.People.length≤15
 s:r.Stations.length≤15
 pl:∀ l ∈ r.People,l.length≤15
 sl:∀ x ∈ r.Stations,x.Order.length≤15
theorem aIn {N:Nat} (hN:40≤N) {r:aB} (h:Sml r):nD N r=some (chk r):=by
 have hp:=h.p
 have hs:=h.s
 have c1:jT N r.People r=some (r.People.all (rng r.Stations.length)):=by
  unfold jT dR eW
  refine aCj (fun e=>hO N e r) (fun l hl=>?_) (by omega) (by omega) _ fun x=>rfl
  have hlen:=h.pl l hl
  have e:kO N l r=some (rng r.Stations.length l):=by
   unfold kO eD fQ
   refine uP (f:=fun x=>gT x r) (fun x=>?_) (by omega) (by omega) _ fun x=>rfl
   unfold gT mD aE inB
   rw [zK (by omega) (by omega)]
  unfold hO qC
  show Option.bind (Option.bind (kO N l r) _) _=_
  rw [e]
  rfl
 have c2:dN N r.Stations r=some (r.Stations.all (aB8 r.People.length)):=by
  unfold dN bU cA
  refine aCj (fun e=>cY N e r) (fun l hl=>?_) (by omega) (by omega) _ fun x=>rfl
  have hlen:=h.sl l hl
  have e:hY N l.Order r=some (rng r.People.length l.Order):=by
   unfold hY dH eE
   refine uP (f:=fun x=>eS x r) (fun x=>?_) (by omega) (by omega) _ fun x=>rfl
   unfold eS mM aE inB
   rw [zK (by omega) (by omega)]
  unfold cY qD
  show Option.bind (Option.bind (cond (inB l.Places 1 12) (Option.bind (hY N l.Order r) _) _) _) _=_
  rw [e]
  unfold aB8
  cases inB l.Places 1 12 <;> rfl
 have c3:gO N r.People=some (r.People.all fun l=>decide l.Nodup):=by
  unfold gO cW dO
  refine aCj (fun e=>gS N e) (fun l hl=>?_) (by omega) (by omega) _ fun x=>rfl
  have hlen:=h.pl l hl
  unfold gS
  rw [aJp (by omega) (by omega)]
  rfl
 have c4:cV N r.Stations=some (r.Stations.all fun x=>decide x.Order.Nodup):=by
  unfold cV bO bT
  refine aCj (fun e=>cZ N e) (fun l hl=>?_) (by omega) (by omega) _ fun x=>rfl
  have hlen:=h.sl l hl
  unfold cZ qG
  rw [aJp (by omega) (by omega)]
  rfl
 unfold nD
 rw [c1,c2,c3,c4]
 unfold chk
 show cond ((!inB (r.People.length:Int) 1 12) || (!inB (r.Stations.length:Int) 1 12)) _ _=_
 cases (!inB (r.People.length:Int) 1 12) || (!inB (r.Stations.length:Int) 1 12)
 ·cases r.People.all (rng r.Stations.length)
  ·rfl
  ·cases r.Stations.all (aB8 r.People.length)
   ·rfl
   ·cases r.People.all fun l=>decide l.Nodup
    ·rfl
    ·cases r.Stations.all fun x=>decide x.Order.Nodup <;> rfl
 ·rfl
theorem wV {α:Type} {l:List α} {f:α→Bool} {i:Nat} (hi:i < l.length):(l.take (i + 1)).any f=((l.take i).any f || f l[i]):=by
 rw [List.take_succ_eq_append_getElem hi,List.any_append]
 simp
theorem aH0 {n:Nat} {l:List Int}:(lst n l == 1) = !rng n l:=by
 unfold lst
 cases rng n l
 ·rfl
 ·by_cases h:l.Nodup
  ·rw [cond_true,if_pos h]; rfl
  ·rw [cond_true,if_neg h]; rfl
theorem tY {N:Nat} (hN:40≤N) {r:aB} (h:Sml r):lF N (rR r)=some (chk r):=by
 have hp:=h.p
 have hs:=h.s
 have hsl:(rR r).Stations.length=r.Stations.length:=List.length_map ..
 have l8:=rW (ρ:=Int) (fun i:Nat=>((r.People.take i).any fun l=>lst r.Stations.length l == 2,(i:Int))) (fun j=>cond (rng r.Stations.length (r.People.getD j [])) none (some 120)) r.People.length (fun s8=>jI N (rR r) s8.1 s8.2) (fun i hi=>by
  show jI N (rR r) ((r.People.take i).any fun l=>lst r.Stations.length l == 2) (i:Int)=_
  unfold jI
  have hl:=h.pl _ (List.getElem_mem hi)
  rw [hsl]
  show cond (decide ((i:Int) < ((r.People.length:Nat):Int))) (Option.bind (aU r.People (i:Int)) _) _=_
  rw [cM hi,cond_true,bS hi,Option.bind_some,aHw (by omega) (by omega) (by omega),Option.bind_some,aH0,wV hi,cI (by omega),dP (d:=[]) hi]
  cases rng r.Stations.length (r.People.getD i []) <;> rfl) (by
  show jI N (rR r) _ (r.People.length:Int)=_
  unfold jI
  show cond (decide (((r.People.length:Nat):Int) < ((r.People.length:Nat):Int))) _ _=_
  rw [cJ,cond_false]) r.People.length 0 N (by omega) (by omega)
 have l11:∀ t:Bool,aS (fun s11=>gH N (rR r) s11.1 s11.2) N (t,((0:Nat):Int))=_:=fun t=>by
  have:=rW (ρ:=Int) (fun i:Nat=>(t || (r.Stations.take i).any fun x=>lst r.People.length x.Order == 2,(i:Int))) (fun j=>cond (aB8 r.People.length (r.Stations.getD j ⟨0,[]⟩)) none (some 120)) r.Stations.length (fun s11=>gH N (rR r) s11.1 s11.2) (fun i hi=>by
   show gH N (rR r) (t || (r.Stations.take i).any fun x=>lst r.People.length x.Order == 2) (i:Int)=_
   unfold gH cB
   have hl:=h.sl _ (List.getElem_mem hi)
   rw [hsl,bS (l:=(rR r).Stations) (i:=i) (by omega),show (rR r).Stations[i]'(by omega)=rS r.Stations[i] from List.getElem_map ..]
   show cond (decide ((i:Int) < ((r.Stations.length:Nat):Int))) (Option.bind (mU N r.Stations[i].Order (r.People.length:Int)) fun r_0=>Option.bind (cond (r_0 == 1) (some true) (some (decide (r.Stations[i].Places < 1) || decide (12 < r.Stations[i].Places)))) _) _=_
   rw [cM hi,cond_true,aHw (by omega) (by omega) (by omega),Option.bind_some,aH0,wV hi,cI (by omega),dP (d:=⟨0,[]⟩) hi]
   unfold aB8 inB
   cases rng r.People.length (r.Stations.getD i ⟨0,[]⟩).Order
   ·rw [Bool.and_false]; rfl
   ·by_cases h1:(r.Stations.getD i ⟨0,[]⟩).Places < 1
    ·rw [decide_eq_true h1,decide_eq_false (show ¬ 1≤(r.Stations.getD i ⟨0,[]⟩).Places by omega)]; rfl
    ·by_cases h2:12 < (r.Stations.getD i ⟨0,[]⟩).Places
     ·rw [decide_eq_false h1,decide_eq_true h2,decide_eq_false (show ¬ (r.Stations.getD i ⟨0,[]⟩).Places≤12 by omega),Bool.and_false]; rfl
     ·rw [decide_eq_false h1,decide_eq_false h2,decide_eq_true (show 1≤(r.Stations.getD i ⟨0,[]⟩).Places by omega),decide_eq_true (show (r.Stations.getD i ⟨0,[]⟩).Places≤12 by omega),← Bool.or_assoc]; rfl) (by
   show gH N (rR r) _ (r.Stations.length:Int)=_
   unfold gH
   rw [hsl,cJ,cond_false]) r.Stations.length 0 N (by omega) (by omega)
  simp only [List.take_zero,List.any_nil,Bool.or_false] at this
  exact this
 unfold lF chk
 rw [hsl]
 show cond ((((decide (((r.People.length:Nat):Int) < 1)) || (decide (12 < ((r.People.length:Nat):Int)))) || (decide (((r.Stations.length:Nat):Int) < 1))) || (decide (12 < ((r.Stations.length:Nat):Int)))) _ (Option.bind (aS (fun s8=>jI N (rR r) s8.1 s8.2) N (((r.People.take 0).any fun l=>lst r.Stations.length l == 2),((0:Nat):Int))) fun x8=>exK x8 (fun s8=>Option.bind (aS (fun s11=>gH N (rR r) s11.1 s11.2) N (s8.1,((0:Nat):Int))) _) some)=_
 have hg:((((decide (((r.People.length:Nat):Int) < 1)) || (decide (12 < ((r.People.length:Nat):Int)))) || (decide (((r.Stations.length:Nat):Int) < 1))) || (decide (12 < ((r.Stations.length:Nat):Int))))=((!inB (r.People.length:Int) 1 12) || (!inB (r.Stations.length:Int) 1 12)):=by
  unfold inB
  rw [Bool.eq_iff_iff]
  simp only [Bool.or_eq_true,decide_eq_true_eq,Bool.not_eq_true',Bool.and_eq_false_iff,decide_eq_false_iff_not]
  omega
 rw [hg,l8,pH r.People.length 0 (by omega),List.drop_zero,Option.bind_some]
 simp only [l11,pH r.Stations.length 0 (Nat.zero_add _),List.drop_zero]
 cases (!inB (r.People.length:Int) 1 12) || (!inB (r.Stations.length:Int) 1 12) with
 | true=>rfl
 | false=>
  cases hA:r.People.all (rng r.Stations.length) with
  | false=>rfl
  | true=>
   cases hB:r.Stations.all (aB8 r.People.length) with
   | false=>rfl
   | true=>
    have e1:∀ {l:List Int} {n:Nat},rng n l=true→(lst n l == 2) = !decide l.Nodup:=fun {l n} hr=>by
     unfold lst
     rw [hr,cond_true]
     by_cases hh:l.Nodup
     ·rw [if_pos hh,decide_eq_true hh]; rfl
     ·rw [if_neg hh,decide_eq_false hh]; rfl
    have e2:(r.People.any fun l=>lst r.Stations.length l == 2) = !(r.People.all fun l=>decide l.Nodup):=by
     rw [Bool.eq_iff_iff,List.any_eq_true,Bool.not_eq_true',List.all_eq_false]
     constructor
     ·rintro ⟨l,hl,hh⟩
      rw [e1 (List.all_eq_true.1 hA l hl)] at hh
      exact ⟨l,hl,by simpa using hh⟩
     ·rintro ⟨l,hl,hh⟩
      exact ⟨l,hl,by rw [e1 (List.all_eq_true.1 hA l hl)]; simpa using hh⟩
    have e3:(r.Stations.any fun x=>lst r.People.length x.Order == 2) = !(r.Stations.all fun x=>decide x.Order.Nodup):=by
     have hr:∀ x ∈ r.Stations,rng r.People.length x.Order=true:=fun x hx=>by
      have:=List.all_eq_true.1 hB x hx
      unfold aB8 at this
      exact (Bool.and_eq_true_iff.1 this).2
     rw [Bool.eq_iff_iff,List.any_eq_true,Bool.not_eq_true',List.all_eq_false]
     constructor
     ·rintro ⟨l,hl,hh⟩
      rw [e1 (hr l hl)] at hh
      exact ⟨l,hl,by simpa using hh⟩
     ·rintro ⟨l,hl,hh⟩
      exact ⟨l,hl,by rw [e1 (hr l hl)]; simpa using hh⟩
    simp only [cond_false,cond_true,Bool.and_self]
    show exK (Ex.go (((r.People.take r.People.length).any fun l=>lst r.Stations.length l == 2),(r.People.length:Int))) _ _=_
    rw [List.take_length,e2]
    show cond ((!(r.People.all fun l=>decide l.Nodup)) || (r.Stations.take r.Stations.length).any fun x=>lst r.People.length x.Order == 2) (some 10) (some 0)=_
    rw [List.take_length,e3]
    cases r.People.all fun l=>decide l.Nodup
    ·rfl
    ·cases r.Stations.all fun x=>decide x.Order.Nodup <;> rfl
theorem zM {r:aB}:chk r=0 ↔ gY r:=by
 have hrng:∀ {n:Nat} {l:List Int},rng n l=true ↔ ∀ x ∈ l,0≤x∧x < (n:Int):=fun {n l}=>by
  unfold rng inB
  rw [List.all_eq_true]
  refine forall₂_congr fun x _=>?_
  rw [Bool.and_eq_true,decide_eq_true_eq,decide_eq_true_eq]
  omega
 unfold chk
 constructor
 ·intro h
  cases h1:(!inB (r.People.length:Int) 1 12) || (!inB (r.Stations.length:Int) 1 12) with
  | true=>rw [h1] at h; cases h
  | false=>
   rw [h1,cond_false] at h
   cases h2:r.People.all (rng r.Stations.length) && r.Stations.all (aB8 r.People.length) with
   | false=>rw [h2] at h; cases h
   | true=>
    rw [h2,cond_true] at h
    cases h3:(r.People.all fun l=>decide l.Nodup) && r.Stations.all fun x=>decide x.Order.Nodup with
    | false=>rw [h3] at h; cases h
    | true=>
     unfold inB at h1
     simp only [Bool.or_eq_false_iff,Bool.not_eq_false',Bool.and_eq_true,decide_eq_true_eq] at h1
     rw [Bool.and_eq_true,List.all_eq_true,List.all_eq_true] at h2 h3
     have hst:∀ x ∈ r.Stations,(1≤x.Places∧x.Places≤12)∧∀ p ∈ x.Order,0≤p∧p < np r:=fun x hx=>by
      have:=h2.2 x hx
      unfold aB8 at this
      rw [Bool.and_eq_true,hrng] at this
      unfold inB at this
      rw [Bool.and_eq_true,decide_eq_true_eq,decide_eq_true_eq] at this
      exact this
     exact ⟨by omega,by omega,by omega,by omega,fun l hl=>of_decide_eq_true (h3.1 l hl),fun l hl=>hrng.1 (h2.1 l hl),fun x hx=>(hst x hx).1,fun x hx=>of_decide_eq_true (h3.2 x hx),fun x hx=>(hst x hx).2⟩
 ·rintro ⟨p1,p2,s1,s2,pn,pr,sp,sn,sr⟩
  have h1:((!inB (r.People.length:Int) 1 12) || (!inB (r.Stations.length:Int) 1 12))=false:=by
   unfold inB
   rw [decide_eq_true (by omega),decide_eq_true (by omega),decide_eq_true (by omega),decide_eq_true (by omega)]
   rfl
  have h2:(r.People.all (rng r.Stations.length) && r.Stations.all (aB8 r.People.length))=true:=by
   rw [Bool.and_eq_true,List.all_eq_true,List.all_eq_true]
   refine ⟨fun l hl=>hrng.2 (pr l hl),fun x hx=>?_⟩
   unfold aB8
   rw [Bool.and_eq_true]
   refine ⟨?_,hrng.2 (sr x hx)⟩
   unfold inB
   rw [decide_eq_true (sp x hx).1,decide_eq_true (sp x hx).2]
   rfl
  have h3:((r.People.all fun l=>decide l.Nodup) && r.Stations.all fun x=>decide x.Order.Nodup)=true:=by
   rw [Bool.and_eq_true,List.all_eq_true,List.all_eq_true]
   exact ⟨fun l hl=>decide_eq_true (pn l hl),fun x hx=>decide_eq_true (sn x hx)⟩
  rw [h1,h2,h3]
  rfl
end Go.Nilo
