/-
  Groups of entries as one entry; tables: own slices whose elements own a block each. Conditions: what each theorem names.
-/
import Derived.Test.YtcefmiiipbjngaaGreatNl27
set_option linter.unusedSimpArgs false
set_option linter.unusedVariables false
namespace Go.Nilo
theorem Ctx.sub {G:cJ} {L L':List Ent} {w:World} (h:Ctx G L w) (hs:L'.Sublist L):Ctx G L' w :=
  ⟨h.os, h.tape, h.output, h.sz, h.pers, λe he=>h.sat e (hs.subset he), λe he=>h.fresh e (hs.subset he), h.sep.sublist hs⟩
theorem aDz {β:Type}:∀ {rs:List β} {i:Nat} {r:β}, rs[i]?=some r→rs.Perm (r :: rs.eraseIdx i)
  | [], _, _, h=>by simp at h
  | a :: rs, 0, r, h=>by
    have e:a=r:=by simpa using h
    subst e; exact List.Perm.refl _
  | a :: rs, i + 1, r, h=>by
    have h':rs[i]?=some r:=by simpa using h
    exact ((aDz h').cons a).trans (List.Perm.swap r a _)
def aQt (es:List Ent):Prop:=es.Pairwise λe e'=>∀ b, e.own b→¬ e'.own b
def aQc (es:List Ent):Ent:=.grp (λb=>∃ e ∈ es, e.own b) (λw=>(∀ e ∈ es, e.sat w)∧aQt es)
theorem aJq {es:List Ent} {w:World}:(aQc es).sat w ↔ (∀ e ∈ es, e.sat w)∧aQt es:=by
  constructor
  · intro h; exact h.1
  · intro h
    refine ⟨h, ?_, ?_⟩
    · rintro b ⟨e, he, hb⟩; exact Ent.lt (h.1 e he) hb
    · intro w' hw'
      exact ⟨λe he=>Ent.stay (h.1 e he) λb hb=>hw' b ⟨e, he, hb⟩, h.2⟩
theorem yF {G:cJ} {es L:List Ent} {w:World}:Ctx G (aQc es :: L) w ↔ Ctx G (es++L) w:=by
  constructor
  · intro h
    obtain ⟨hs1, hs2⟩:=List.pairwise_cons.1 h.sep
    have hg:=aJq.1 (h.sat _ List.mem_cons_self)
    refine ⟨h.os, h.tape, h.output, h.sz, h.pers, ?_, ?_, ?_⟩
    · intro e he
      rcases List.mem_append.1 he with he | he
      · exact hg.1 e he
      · exact h.sat e (List.mem_cons_of_mem _ he)
    · intro e he b hb
      rcases List.mem_append.1 he with he | he
      · exact h.fresh _ List.mem_cons_self b ⟨e, he, hb⟩
      · exact h.fresh e (List.mem_cons_of_mem _ he) b hb
    · exact List.pairwise_append.2 ⟨hg.2, hs2, λe he e' he' b hb=>hs1 e' he' b ⟨e, he, hb⟩⟩
  · intro h
    obtain ⟨p1, p2, p3⟩:=List.pairwise_append.1 h.sep
    refine ⟨h.os, h.tape, h.output, h.sz, h.pers, ?_, ?_, List.pairwise_cons.2 ⟨?_, p2⟩⟩
    · intro e he
      rcases List.mem_cons.1 he with rfl | he
      · exact aJq.2 ⟨λe he=>h.sat e (List.mem_append_left _ he), p1⟩
      · exact h.sat e (List.mem_append_right _ he)
    · intro e he b hb
      rcases List.mem_cons.1 he with rfl | he
      · obtain ⟨e', he', hb'⟩:=hb
        exact h.fresh e' (List.mem_append_left _ he') b hb'
      · exact h.fresh e (List.mem_append_right _ he) b hb
    · rintro e he b ⟨e', he', hb'⟩
      exact p3 e' he' e he b hb'
theorem wJ {G:cJ} {es L:List Ent} {w:World} (M:List Ent):Ctx G (M++aQc es :: L) w ↔ Ctx G (M++(es++L)) w:=by
  constructor
  · intro h
    have h1:Ctx G (aQc es :: (M++L)) w:=h.perm List.perm_middle
    have h2:=yF.1 h1
    refine h2.perm ?_
    rw [← List.append_assoc, ← List.append_assoc]
    exact List.perm_append_comm.append_right L
  · intro h
    have h2:Ctx G (es++(M++L)) w:=by
      refine h.perm ?_
      rw [← List.append_assoc, ← List.append_assoc]
      exact List.perm_append_comm.append_right L
    exact (yF.2 h2).perm List.perm_middle.symm
abbrev H2:=Option Addr × Nat
abbrev Hds:=Nat→H2
abbrev aAf:=Nat × Hds
structure Kd (α:Type) where
  val:H2→α→List Value
  ent:H2→α→Ent
  fz:H2→α→cJ→Prop
@[reducible] def Kd.v {α:Type} (K:Kd α) (r:H2 × α):List Value:=K.val r.1 r.2
@[reducible] def Kd.e {α:Type} (K:Kd α) (r:H2 × α):Ent:=K.ent r.1 r.2
def aO {α:Type} (hs:Hds):List α→List (H2 × α)
  | []=>[]
  | x :: xs=>(hs 0, x) :: aO (λj=>hs (j + 1)) xs
def bX {α:Type} (K:Kd α) (rs:List (H2 × α)):Ent:=aQc (rs.map K.e)
def aLc (hs:Hds) (i:Nat) (h:H2):Hds:=λj=>if j=i then h else hs j
theorem eF {α:Type}:∀ (hs:Hds) (xss:List α), (aO hs xss).length=xss.length
  | _, []=>rfl
  | hs, _ :: xss=>by simp [aO, eF _ xss]
theorem qG {α:Type}:∀ {hs:Hds} {xss:List α} {i:Nat} {x:α}, xss[i]?=some x→(aO hs xss)[i]?=some (hs i, x)
  | _, [], _, _, h=>by simp at h
  | hs, a :: xss, 0, x, h=>by
    have e:a=x:=by simpa using h
    subst e; rfl
  | hs, a :: xss, i + 1, x, h=>by
    have:=qG (hs:=λj=>hs (j + 1)) (xss:=xss) (i:=i) (x:=x) (by simpa using h)
    simpa [aO] using this
theorem kD {α:Type} {hs:Hds} {xss:List α} {i:Int} {x:α} (h:aQ xss i=some x):aQ (aO hs xss) i=some (hs i.toNat, x):=by
  obtain ⟨h0, h1⟩:=dQ h
  have h2:=qG (hs:=hs) h1
  unfold aQ
  simp [h0, h2]
theorem aEw {α:Type}:∀ (hs:Hds) (xss:List α) (i:Nat) (h:H2) (x:α), (aO hs xss).set i (h, x)=aO (aLc hs i h) (xss.set i x)
  | _, [], _, _, _=>rfl
  | hs, a :: xss, 0, h, x=>by
    simp [aO, aLc]
  | hs, a :: xss, i + 1, h, x=>by
    have:=aEw (λj=>hs (j + 1)) xss i h x
    simp only [aO, List.set_cons_succ, this]
    congr 1
    congr 1
    funext j
    simp [aLc]
theorem aC1 {α:Type} (hs:Hds) (xss:List α) (i:Nat) (x:α):(aO hs xss).set i (hs i, x)=aO hs (xss.set i x):=by
  rw [aEw]
  congr 1
  funext j
  simp only [aLc]
  split
  · rename_i e; rw [e]
  · rfl
theorem aKn {α:Type}:∀ (hs hs2:Hds) (xs ys:List α), aO hs xs++aO hs2 ys=aO (λj=>if j < xs.length then hs j else hs2 (j - xs.length)) (xs++ys)
  | hs, hs2, [], ys=>by simp [aO]
  | hs, hs2, a :: xs, ys=>by
    have:=aKn (λj=>hs (j + 1)) hs2 xs ys
    simp only [aO, List.cons_append, this, List.length_cons]
    congr 1
    congr 1
    funext j
    by_cases h:j < xs.length
    · simp [h]
    · have:¬ j + 1 < xs.length + 1:=by omega
      simp [h]
theorem aGt {α:Type}:∀ rs:List (H2 × α), ∃ hs, aO hs (rs.map Prod.snd)=rs
  | []=>⟨λ_=>(none, 0), rfl⟩
  | (h, x) :: rs=>by
    obtain ⟨hs, e⟩:=aGt rs
    exact ⟨λj=>match j with | 0=>h | j + 1=>hs j, by simp only [List.map_cons, aO]; rw [e]⟩
theorem aLf {α:Type} (x:α):∀ n:Nat, List.replicate n ((none, 0), x)=aO (λ_=>(none, 0)) (List.replicate n x)
  | 0=>rfl
  | n + 1=>by simp only [List.replicate_succ, aO, aLf x n]
section tables
variable {α:Type} {K:Kd α} {G:cJ} {L:List Ent} {w:World} {hs hs2:Hds} {xs ys:List α} {p:Option Addr} {c eT sz:Nat}
theorem tabS {i:Int} {x:α} (h:pD L (bX K (aO hs xs))) (hx:aQ xs i=some x):pD L (K.ent (hs i.toNat) x):=λG w hc=>
  (aJq.1 (h G w hc)).1 _ (List.mem_map_of_mem (f:=K.e) (List.mem_of_getElem? (qG (hs:=hs) (dQ hx).2)))
theorem aQy {rs:List (H2 × α)} {i:Nat} {r:H2 × α} (hc:Ctx G (bX K rs :: L) w) (h:rs[i]?=some r):Ctx G (K.e r :: bX K (rs.eraseIdx i) :: L) w:=by
  have h1:=yF.1 hc
  have h2:(rs.map K.e++L).Perm ([K.e r]++((rs.eraseIdx i).map K.e++L)):=((aDz h).map K.e).append_right L
  exact (wJ [K.e r]).2 (h1.perm h2)
theorem aMs {rs:List (H2 × α)} {i:Nat} {r:H2 × α} (hi:i < rs.length) (hc:Ctx G (K.e r :: bX K (rs.eraseIdx i) :: L) w):Ctx G (bX K (rs.set i r) :: L) w:=by
  have h1:=(wJ [K.e r]).1 hc
  have h2:((rs.set i r).map K.e++L).Perm ([K.e r]++((rs.eraseIdx i).map K.e++L)):=by
    have:=((aDz (rs:=rs.set i r) (i:=i) (r:=r) (by simp [hi])).map K.e).append_right L
    rwa [List.eraseIdx_set_eq] at this
  exact yF.2 (h1.perm h2.symm)
theorem aEv {i:Int} {x:α} (hc:Ctx G (bX K (aO hs xs) :: L) w) (hx:aQ xs i=some x):Ctx G (K.ent (hs i.toNat) x :: bX K ((aO hs xs).eraseIdx i.toNat) :: L) w :=
  aQy hc (qG (hs:=hs) (dQ hx).2)
theorem aTr {i:Int} {h':H2} {x y:α} (hx:aQ xs i=some x) (hc:Ctx G (K.ent h' y :: bX K ((aO hs xs).eraseIdx i.toNat) :: L) w) :
    Ctx G (bX K (aO (aLc hs i.toNat h') (xs.set i.toNat y)) :: L) w:=by
  have hi:i.toNat < (aO hs xs).length:=(List.getElem?_eq_some_iff.1 (qG (hs:=hs) (dQ hx).2)).1
  have h:=aMs (r:=(h', y)) hi hc
  rwa [aEw] at h
theorem aJd {i:Int} {h':H2} {x y:α} (hx:aQ xs i=some x) (hc:Ctx G (K.ent h' y :: .row p c (((aO hs xs).set i.toNat (h', y)).map K.v) eT sz :: bX K ((aO hs xs).eraseIdx i.toNat) :: L) w) :
    ∃ hs':Hds, Ctx G (.row p c ((aO hs' (xs.set i.toNat y)).map K.v) eT sz :: bX K (aO hs' (xs.set i.toNat y)) :: L) w:=by
  refine ⟨aLc hs i.toNat h', ?_⟩
  rw [aEw] at hc
  have h0:Ctx G (.row p c ((aO (aLc hs i.toNat h') (xs.set i.toNat y)).map K.v) eT sz :: K.ent h' y :: bX K ((aO hs xs).eraseIdx i.toNat) :: L) w:=hc.perm (.swap _ _ _)
  have h1:Ctx G (K.ent h' y :: bX K ((aO hs xs).eraseIdx i.toNat) :: (.row p c ((aO (aLc hs i.toNat h') (xs.set i.toNat y)).map K.v) eT sz :: L)) w :=
    h0.perm ((List.Perm.swap _ _ _).trans ((List.Perm.swap _ _ _).cons _))
  exact (aTr hx h1).perm (.swap _ _ _)
theorem aH0 {i:Int} {x y:α} (hx:aQ xs i=some x) (hv:K.val (hs i.toNat) x=K.val (hs i.toNat) y)
    (hc:Ctx G (K.ent (hs i.toNat) y :: .row p c ((aO hs xs).map K.v) eT sz :: bX K ((aO hs xs).eraseIdx i.toNat) :: L) w) :
    Ctx G (.row p c ((aO hs (xs.set i.toNat y)).map K.v) eT sz :: bX K (aO hs (xs.set i.toNat y)) :: L) w:=by
  have e1:(aO hs xs).map K.v=(aO hs (xs.set i.toNat y)).map K.v:=by
    rw [← aC1, List.map_set]
    refine (List.ext_getElem? λj=>?_)
    by_cases hj:j=i.toNat
    · subst hj
      have:=qG (hs:=hs) (dQ hx).2
      rw [List.getElem?_set_self (by simpa using (List.getElem?_eq_some_iff.1 this).1), List.getElem?_map, this]
      simp [hv]
    · rw [List.getElem?_set_ne (Ne.symm hj)]
  rw [e1] at hc
  have h1:Ctx G (K.ent (hs i.toNat) y :: bX K ((aO hs xs).eraseIdx i.toNat) :: (.row p c ((aO hs (xs.set i.toNat y)).map K.v) eT sz :: L)) w:=hc.perm ((List.Perm.swap _ _ _).cons _)
  have hi:i.toNat < (aO hs xs).length:=(List.getElem?_eq_some_iff.1 (qG (hs:=hs) (dQ hx).2)).1
  have h2:=aMs (r:=(hs i.toNat, y)) hi h1
  rw [aC1] at h2
  exact h2.perm (.swap _ _ _)
theorem aQu {i:Int} {x y:α} (hx:aQ xs i=some x) (he:K.ent (hs i.toNat) x=K.ent (hs i.toNat) y)
    (hc:Ctx G (.row p c (((aO hs xs).set i.toNat (hs i.toNat, y)).map K.v) eT sz :: bX K (aO hs xs) :: L) w) :
    Ctx G (.row p c ((aO hs (xs.set i.toNat y)).map K.v) eT sz :: bX K (aO hs (xs.set i.toNat y)) :: L) w:=by
  have e1:(aO hs xs).map K.e=(aO hs (xs.set i.toNat y)).map K.e:=by
    rw [← aC1, List.map_set]
    refine (List.ext_getElem? λj=>?_)
    by_cases hj:j=i.toNat
    · subst hj
      have:=qG (hs:=hs) (dQ hx).2
      rw [List.getElem?_set_self (by simpa using (List.getElem?_eq_some_iff.1 this).1), List.getElem?_map, this]
      exact congrArg some he
    · rw [List.getElem?_set_ne (Ne.symm hj)]
  rw [aC1] at hc
  have h1:=(wJ (es:=(aO hs xs).map K.e) [.row p c ((aO hs (xs.set i.toNat y)).map K.v) eT sz]).1 hc
  rw [e1] at h1
  exact (wJ (es:=(aO hs (xs.set i.toNat y)).map K.e) [.row p c ((aO hs (xs.set i.toNat y)).map K.v) eT sz]).2 h1
theorem aQd (hc:Ctx G (.row p c ((aO hs xs++aO hs2 ys).map K.v) eT sz :: bX K (aO hs xs) :: bX K (aO hs2 ys) :: L) w) :
    ∃ hs':Hds, Ctx G (.row p c ((aO hs' (xs++ys)).map K.v) eT sz :: bX K (aO hs' (xs++ys)) :: L) w:=by
  have e:=aKn hs hs2 xs ys
  refine ⟨λj=>if j < xs.length then hs j else hs2 (j - xs.length), ?_⟩
  rw [← e]
  have h1:=(wJ [.row p c ((aO hs xs++aO hs2 ys).map K.v) eT sz, bX K (aO hs xs)]).1 hc
  have h2:=(wJ (es:=(aO hs xs).map K.e) [.row p c ((aO hs xs++aO hs2 ys).map K.v) eT sz]).1 h1
  refine (wJ (es:=(aO hs xs++aO hs2 ys).map K.e) [.row p c ((aO hs xs++aO hs2 ys).map K.v) eT sz]).2 ?_
  rw [List.map_append (f:=K.e), List.append_assoc]
  exact h2
theorem aMi (rs:List (H2 × α)) (hc:Ctx G (.row p c (rs.map K.v) eT sz :: (rs.map K.e++L)) w) :
    ∃ hs':Hds, Ctx G (.row p c ((aO hs' (rs.map Prod.snd)).map K.v) eT sz :: bX K (aO hs' (rs.map Prod.snd)) :: L) w:=by
  obtain ⟨hs', e⟩:=aGt rs
  refine ⟨hs', ?_⟩
  rw [e]
  exact (wJ [.row p c (rs.map K.v) eT sz]).2 hc
theorem aA6 (rs:List (H2 × α)) (hc:Ctx G (.row p c ((aO hs xs++rs).map K.v) eT sz :: bX K (aO hs xs) :: (rs.map K.e++L)) w) :
    ∃ hs':Hds, Ctx G (.row p c ((aO hs' (xs++rs.map Prod.snd)).map K.v) eT sz :: bX K (aO hs' (xs++rs.map Prod.snd)) :: L) w:=by
  obtain ⟨hs2, e⟩:=aGt rs
  refine aQd (hs:=hs) (hs2:=hs2) ?_
  rw [e]
  exact (wJ [.row p c ((aO hs xs++rs).map K.v) eT sz, bX K (aO hs xs)]).2 hc
theorem aEk (hc:Ctx G L w):Ctx G (bX K (aO hs ([]:List α)) :: L) w:=yF.2 hc
theorem aKc {x:α} (h0:∀ L, Ctx G L w→Ctx G (K.ent (none, 0) x :: L) w) (n:Nat) (hc:Ctx G (.row p c ((List.replicate n ((none, 0), x)).map K.v) eT sz :: L) w) :
    ∃ hs':Hds, Ctx G (.row p c ((aO hs' (List.replicate n x)).map K.v) eT sz :: bX K (aO hs' (List.replicate n x)) :: L) w:=by
  refine ⟨λ_=>(none, 0), ?_⟩
  rw [← aLf]
  refine (wJ [.row p c ((List.replicate n ((none, 0), x)).map K.v) eT sz]).2 ?_
  have:∀ m, Ctx G ((List.replicate m ((none, 0), x)).map K.e++(.row p c ((List.replicate n ((none, 0), x)).map K.v) eT sz :: L)) w:=by
    intro m
    induction m with
    | zero=>exact hc
    | succ m ih=>rw [List.replicate_succ]; exact h0 _ ih
  refine (this n).perm ?_
  exact List.perm_middle
structure aDy (K:Kd α):Prop where
  mono:∀ {h x G G'}, cJ.le G G'→K.fz h x G→K.fz h x G'
  lend:∀ {h x G L w}, Ctx G (K.ent h x :: L) w→∃ G', G.le G'∧K.fz h x G'∧Ctx G' L w∧∀ Lx w', Ctx G' Lx w'→Ctx G (K.ent h x :: Lx) w'
def RdT (K:Kd α) (G:cJ) (sz:Nat) (p:Option Addr) (cap:Nat) (xs:List α):Prop:=aDy K∧∃ hs:Hds, Rd G sz p cap ((aO hs xs).map K.v)∧∀ i x, xs[i]?=some x→K.fz (hs i) x G
theorem RdT.mono {G G':cJ} (h:RdT K G sz p c xs) (hle:G.le G'):RdT K G' sz p c xs:=by
  obtain ⟨hk, hs, h1, h2⟩:=h
  exact ⟨hk, hs, h1.mono hle, λi x hx=>hk.mono hle (h2 i x hx)⟩
theorem RdT.nil (hk:aDy K) {G:cJ} (sz:Nat) (p:Option Addr) {cap:Nat} (h:cap≤maxLen:=by decide):RdT K G sz p cap []:=⟨hk, λ_=>(none, 0), Rd.nil sz p h, λi x hx=>by simp at hx⟩
theorem RdT.mk' (hk:aDy K) {rs:List (H2 × α)} (h:Rd G sz p c (rs.map K.v)) (hz:∀ r ∈ rs, K.fz r.1 r.2 G):RdT K G sz p c (rs.map Prod.snd):=by
  obtain ⟨hs, e⟩:=aGt rs
  refine ⟨hk, hs, by rw [e]; exact h, λi x hx=>?_⟩
  have h1:=qG (hs:=hs) hx
  rw [e] at h1
  exact hz _ (List.mem_of_getElem? h1)
theorem RdT.atm (h:RdT K G sz p c xs) {i:Int} {x:α} (hx:aQ xs i=some x):∃ b o hd, At p xs.length sz i b o∧PC G b o (K.val hd x)∧K.fz hd x G:=by
  obtain ⟨-, hs, h1, h2⟩:=h
  obtain ⟨b, o, h3, h4⟩:=h1.atm (enc:=K.v) (kD (hs:=hs) hx)
  rw [eF] at h3
  exact ⟨b, o, hs i.toNat, h3, h4, h2 _ _ (dQ hx).2⟩
theorem RdT.cap (h:RdT K G sz p c xs):xs.length≤c:=by
  obtain ⟨-, hs, h1, -⟩:=h
  have:=h1.1
  simpa [eF] using this
theorem aHe (hk:aDy K):∀ {rs:List (H2 × α)} {G:cJ} {L:List Ent}, Ctx G (rs.map K.e++L) w→∃ G', G.le G'∧(∀ r ∈ rs, K.fz r.1 r.2 G')∧Ctx G' L w∧∀ Lx w', Ctx G' Lx w'→Ctx G (rs.map K.e++Lx) w'
  | [], G, L, h=>⟨G, cJ.le_refl G, by simp, h, λ_ _ h=>h⟩
  | r :: rs, G, L, h=>by
    obtain ⟨G1, l1, f1, c1, b1⟩:=hk.lend (h:=r.1) (x:=r.2) h
    obtain ⟨G2, l2, f2, c2, b2⟩:=aHe hk c1
    refine ⟨G2, cJ.le_trans l1 l2, ?_, c2, λLx w' h'=>b1 _ _ (b2 _ _ h')⟩
    intro r' hr'
    rcases List.mem_cons.1 hr' with rfl | hr'
    · exact hk.mono l2 f1
    · exact f2 r' hr'
theorem lE (hk:aDy K) {L1 L2:List Ent} (hc:Ctx G L w) (hp:uG L (.row p c ((aO hs xs).map K.v) eT sz) L1) (hq:uG L1 (bX K (aO hs xs)) L2) :
    ∃ G', G.le G'∧RdT K G' sz p c xs∧Ctx G' L2 w∧∀ Lx w', Ctx G' Lx w'→Ctx G (.row p c ((aO hs xs).map K.v) eT sz :: bX K (aO hs xs) :: Lx) w':=by
  have h1:Ctx G (.row p c ((aO hs xs).map K.v) eT sz :: bX K (aO hs xs) :: L2) w:=(hc.pick hp).perm (hq.perm.cons _)
  obtain ⟨G1, l1, r1, c1, b1⟩:=lend h1 k0
  obtain ⟨G2, l2, f2, c2, b2⟩:=aHe hk (yF.1 c1)
  refine ⟨G2, cJ.le_trans l1 l2, ⟨hk, hs, r1.mono l2, λi x hx=>f2 (hs i, x) (List.mem_of_getElem? (qG (hs:=hs) hx))⟩, c2, λLx w' h'=>?_⟩
  have h3:=b1 _ _ (yF.2 (b2 _ _ h'))
  exact h3
end tables
def kL {β:Type} (enc:β→List Value) (T sz:Nat):Kd (List β) :=
  ⟨λh xs=>[.slice h.1 xs.length h.2], λh xs=>.row h.1 h.2 (xs.map enc) T sz, λh xs G=>Rd G sz h.1 h.2 (xs.map enc)⟩
theorem aQk {β:Type} (enc:β→List Value) (T sz:Nat):aDy (kL enc T sz) :=
  ⟨λhle h=>Rd.mono h hle, λhc=>by
    obtain ⟨G', h1, h2, h3, h4⟩:=Go.Nilo.lend hc k0
    exact ⟨G', h1, h2, h3, λLx w' h'=>h4 Lx w' h'⟩⟩
def Kd.comp {α β:Type} (K:Kd β) (f:α→β) (v:H2→α→List Value):Kd α:=⟨v, λh x=>K.ent h (f x), λh x=>K.fz h (f x)⟩
theorem aDy.comp {α β:Type} {K:Kd β} (hk:aDy K) (f:α→β) (v:H2→α→List Value):aDy (K.comp f v):=⟨λhle h=>hk.mono hle h, λhc=>hk.lend hc⟩
def kM {ν:Type} (enc:ν→Value):Kd (Option (List (Int × ν))) :=
  ⟨λh m=>match m with | none=>[.map none] | some _=>[.map (some h.2)],
   λh m=>match m with | none=>.row none 0 [] 0 0 | some m=>.gm h.2 (ALq enc m), λ_ _ _=>False⟩
theorem aTi {ν:Type} (enc:ν→Value):∀ r, ((kM enc).v r).length=1∧sG ((kM enc).v r)=true
  | (_, none)=>⟨rfl, rfl⟩
  | (_, some _)=>⟨rfl, rfl⟩
def getM {α:Type} (xs:List (Option α)) (i:Int):Option α:=Option.bind (aQ xs i) id
theorem aA4 {α:Type} {xs:List (Option α)} {i:Int} {m:α} (h:getM xs i=some m):aQ xs i=some (some m):=by
  obtain ⟨x, h1, h2⟩:=Option.bind_eq_some_iff.1 h
  rw [h1, show x=some m from h2]
theorem aC2 {α:Type} {xs:List (Option α)} {i:Int} {v:Option α} {m:α} (h:aQ xs i=some v) (hm:v=some m):getM xs i=some m:=by
  subst hm
  simp [getM, h]
theorem aSi {ν:Type} {enc:ν→Value} {L:List Ent} {hs:Hds} {xs:List (Option (List (Int × ν)))} {i:Int} {m:List (Int × ν)} (h:pD L (bX (kM enc) (aO hs xs))) (hx:getM xs i=some m):pD L (.gm (hs i.toNat).2 (ALq enc m)):=tabS h (aA4 hx)
theorem aPf {β:Type} {enc:β→List Value} {T sz:Nat} {G:cJ} {L:List Ent} {w:World} {p:Option Addr} {c:Nat} {xs:List β} {j:Int} {x:β} (hc:Ctx G L w) (hs:pD L (.row p c (xs.map enc) T sz)) (hj:aQ xs j=some x) :
    ∃ g, p=some ⟨g, 0, none⟩∧At p xs.length sz j g (j.toNat * sz)∧(xs.map enc)[j.toNat]?=some (enc x):=by
  obtain ⟨g, hg, h1, h2⟩:=gW hc hs hj
  exact ⟨g, hg, hg ▸ h1, h2⟩
def noH (_:Nat):Hds:=λ_=>(none, 0)
theorem gV {G:cJ} {L L1 L2:List Ent} {w:World} {r t:Ent} (h:Ctx G (r :: t :: L2) w) (hp:uG L r L1) (hq:uG L1 t L2):Ctx G L w :=
  (h.perm (hq.perm.symm.cons r)).unpick hp
theorem aKf {y z M:Int} {n m:Nat} {u v:Unit} (hy:inR y n=some u) (hz:inR z m=some v) (hM:M=(m:Int)):inR (y * M + z) (n * m)=some ():=by
  subst hM
  obtain ⟨h1, h2⟩:=cG hy
  obtain ⟨h3, h4⟩:=cG hz
  unfold inR
  rw [if_pos]
  have h5:y + 1≤(n:Int):=by omega
  have h6:(y + 1) * (m:Int)≤(n:Int) * m:=Int.mul_le_mul_of_nonneg_right h5 (by omega)
  have h7:0≤y * (m:Int):=Int.mul_nonneg h1 (by omega)
  rw [Int.add_mul, Int.one_mul] at h6
  refine ⟨by omega, ?_⟩
  push_cast
  omega
theorem xA {y z M:Int} {n m:Nat} {u v:Unit} (o:Nat) (hy:inR y n=some u) (hz:inR z m=some v) (hM:M=(m:Int)):o + y.toNat * m + z.toNat * 1=o + (y * M + z).toNat * 1:=by
  subst hM
  obtain ⟨h1, -⟩:=cG hy
  obtain ⟨h3, -⟩:=cG hz
  have h7:0≤y * (m:Int):=Int.mul_nonneg h1 (by omega)
  have e:(y * (m:Int) + z).toNat=y.toNat * m + z.toNat:=by
    obtain ⟨a, rfl⟩:=Int.eq_ofNat_of_zero_le h1
    obtain ⟨b, rfl⟩:=Int.eq_ofNat_of_zero_le h3
    have:((a:Int) * (m:Int) + (b:Int))=((a * m + b:Nat):Int):=by push_cast; rfl
    rw [this, Int.toNat_natCast, Int.toNat_natCast, Int.toNat_natCast]
  rw [e]; omega
theorem Pu.cast {P:Program} {o:Oper} {F:List (Nat × Value)} {v v':Value} (h:Pu P o F v) (e:v=v'):Pu P o F v':=e ▸ h
theorem aNr {G:cJ} {b T:Nat} {cs:List Value} (h:G.blk b=some (.cells cs.toArray T (0, 0))):PC G b 0 cs:=⟨_, _, _, h, λj u hu=>by simpa using hu⟩
theorem yW {α:Type} {G:cJ} {L:List Ent} {b o k n sz j:Nat} {i:Int} {enc:α→List Value} {f:Nat→α} {pre post:List Value} {u:Value} {un:Unit} (h:PC G b o (pre++(arr n enc f++post))) (hz:∀ x, (enc x).length=sz) (ho:pre.length=k) (hi:inR i n=some un) (hu:(enc (f i.toNat))[j]?=some u) :
    yQ G L ⟨b, o + k + i.toNat * sz + j, none⟩ u:=by
  obtain ⟨h0, h1⟩:=cG hi
  have hj:j < sz:=by rw [← hz (f i.toNat)]; exact (List.getElem?_eq_some_iff.1 hu).1
  have hin:i.toNat < n:=by omega
  have h2:(pre++(arr n enc f++post))[k + i.toNat * sz + j]?=some u:=by
    rw [List.getElem?_append_right (by omega), List.getElem?_append_left (by
      rw [xZ hz]
      have:(i.toNat + 1) * sz≤n * sz:=Nat.mul_le_mul_right _ (by omega)
      rw [Nat.succ_mul] at this
      omega)]
    have:k + i.toNat * sz + j - pre.length=i.toNat * sz + j:=by omega
    rw [this, aN0 hz f hj n hin]
    exact hu
  have:=aV (L:=L) h h2
  rwa [show o + (k + i.toNat * sz + j)=o + k + i.toNat * sz + j by omega] at this
section arrays
variable {α:Type} {K:Kd α} {G:cJ} {L L':List Ent} {w:World} {hs:Hds} {xs:List α} {sz n:Nat}
def aEq {α:Type} (n:Nat) (xs:List α):Option Unit:=if xs.length=n then some () else none
theorem aL9 {u:Unit} (h:aEq n xs=some u):xs.length=n:=by
  unfold aEq at h
  split at h
  · assumption
  · cases h
theorem aJp {g cap T:Nat} {rows:List (List Value)} (he:pD L (Ent.row (some ⟨g, 0, none⟩) cap rows T sz)):∀ j u, rows.flatten[j]?=some u→yQ G L ⟨g, 0 + j, none⟩ u:=λj u hu w hc=>by
  obtain ⟨hl, hown⟩:=he _ _ hc
  have:=hown.cells (g:=g) rfl j u hu
  rwa [Addr.add_lit] at this
theorem aB7 {u:Unit} (hz:∀ r, (K.v r).length=sz∧sG (K.v r)=true) (h:aEq n xs=some u):((aO hs xs).map K.v).flatten.length=n * sz:=by
  rw [aLr (λr=>(hz r).1), eF, aL9 h]
theorem aKz (hz:∀ r, (K.v r).length=sz∧sG (K.v r)=true):sG ((aO hs xs).map K.v).flatten=true:=by
  simp only [sG, List.all_eq_true]
  exact aKw hz _
theorem aN9 {i:Int} {j:Nat} {x:α} {u:Value} (hz:∀ r, (K.v r).length=sz∧sG (K.v r)=true) (hx:aQ xs i=some x) (hu:(K.val (hs i.toNat) x)[j]?=some u) :
    ((aO hs xs).map K.v).flatten[i.toNat * sz + j]?=some u :=
  wX hu _ _ (aCi hz _) (by rw [List.getElem?_map, qG (hs:=hs) (dQ hx).2]; rfl)
theorem aDw {i:Int} {x:α} {u:Value} (hz:∀ r, (K.v r).length=sz∧sG (K.v r)=true) (hx:aQ xs i=some x) (hu:(K.val (hs i.toNat) x)[0]?=some u) :
    ((aO hs xs).map K.v).flatten[0 + i.toNat * sz]?=some u:=by
  rw [Nat.zero_add]
  exact aN9 hz hx hu
theorem aRg {b T:Nat} {rows:List (List Value)} (hr:∀ r ∈ rows, r.length=sz) (hn:rows.length≤1000000) (hc:Ctx G (.box b rows.flatten T :: L) w):Ctx G (.row (some ⟨b, 0, none⟩) rows.length rows T sz :: L) w:=by
  have hg:w.heap[b]?=some (.cells rows.flatten.toArray T (0, 0)):=hc.sat _ List.mem_cons_self
  have hfl:rows.flatten.length=rows.length * sz:=eI rows hr
  refine hc.upd rfl rfl rfl (Nat.le_refl _) (λ_ _ _=>rfl) ⟨hr, hfl, .inr ⟨b, _, _, rfl, Nat.zero_le _, hg, Nat.le_refl _, by simp only [maxLen]; omega, by simpa using hfl, ?_⟩⟩ (λc hcq=>.inl (by simpa [Ent.own] using hcq))
  rw [← hfl]
  show List.take rows.flatten.length rows.flatten=_
  exact List.take_length
theorem aR5 {b T n:Nat} {x:α} {cs:List Value} (h0:∀ L, Ctx G L w→Ctx G (K.ent (none, 0) x :: L) w) (hz:∀ r, (K.v r).length=sz∧sG (K.v r)=true) (hn:Nat.ble n 1000000=true)
    (hcs:cs=((List.replicate n ((none, 0), x)).map K.v).flatten) (hc:Ctx G (.box b cs T :: L) w) :
    ∃ hs':Hds, Ctx G (.row (some ⟨b, 0, none⟩) n ((aO hs' (List.replicate n x)).map K.v) T sz :: bX K (aO hs' (List.replicate n x)) :: L) w:=by
  subst hcs
  have hn':n≤1000000:=Nat.le_of_ble_eq_true hn
  have h1:=aRg (sz:=sz) (aCi hz _) (by simpa using hn') hc
  simp only [List.length_map, List.length_replicate] at h1
  exact aKc h0 n h1
theorem lendI (hk:aDy K) (hc:Ctx G L w) (hp:uG L (bX K (aO hs xs)) L') :
    ∃ G', G.le G'∧(∀ i x, aQ xs i=some x→K.fz (hs i.toNat) x G')∧Ctx G' L' w∧∀ Lx w', Ctx G' Lx w'→Ctx G (bX K (aO hs xs) :: Lx) w':=by
  obtain ⟨G2, l2, f2, c2, b2⟩:=aHe hk (yF.1 (hc.pick hp))
  exact ⟨G2, l2, λi x hx=>f2 (hs i.toNat, x) (List.mem_of_getElem? (qG (hs:=hs) (dQ hx).2)), c2, λLx w' h'=>yF.2 (b2 _ _ h')⟩
end arrays
section stores
variable {P:Program} {ops:Array Oper} {Q:Exit→Act→World→Prop} {rest:List Oper} {a:Act} {w:World} {N:Fm} {F:List (Nat × Value)} {G:cJ} {L L':List Ent}
  {ty:TypeId} {pos:String} {aft:Array Edge} {gd:Option (Nat × Bool)} {x y:Operand} {T:TypeId}
theorem aR6 {b T0 n:Nat} {cs vs:List Value} {u:Value} (hf:Has N a F) (hc:Ctx G L w) (hg:vJ ops F ⟨none, .store T x y, ty, pos, aft, gd⟩=some true) (hx:ev F x=some (.pointer (some ⟨b, 0, none⟩))) (hy:ev F y=some u)
    (hv:u.cells=vs.toArray) (hs:(P.info? T).map (·.size)=some n) (hl:vs.length=n) (h1:sG vs=true) (hl2:cs.length=n) (hu:Upd L (.box b cs T0) (.box b vs T0) L')
    (k:∀ w, Ctx G L' w→wpList P ops Q rest a w):wpList P ops Q (⟨none, .store T x y, ty, pos, aft, gd⟩ :: rest) a w :=
  stSt (cs:=cs) (vs:=vs) hf hc hg hx hy hv (by rw [hs, hl]) h1 (by simp [hl, hl2]) (by rw [splW (by rw [hl, hl2])]; exact hu) k
end stores
section outer
open Go.RowKit
variable {ς:Type}
def aTm {ς:Type} (id jx:Nat) (G:cJ) (S:ς→List Ent→Prop) (Lx:List Ent) (o:Rs ς):Exit→Act→World→Prop
  | .normal, _, w=>∃ s L, o=.go s∧S s L∧Ctx G (L++Lx) w
  | .exit i, _, w=>(i=id∧∃ s L, o=.brk s∧S s L∧Ctx G (L++Lx) w) ∨ (i=jx∧∃ s L, o=.ret s∧S s L∧Ctx G (L++Lx) w)
  | _, _, _=>False
def recX {ς:Type} (rec:LoopState→Option Code→Loop) (l D id jx:Nat) (S:ς→List Ent→Prop):Rs ς→List Ent→Prop
  | .go s, L=>∃ M, S s M∧L=.raw l (.loop (rec .ready none)) :: .raw D (.deferred (some [])) :: M
  | .brk s, L=>∃ M, S s M∧L=.raw l (.loop (rec .done (some (.exit id)))) :: .raw D (.deferred (some [])) :: M
  | .ret s, L=>∃ M, S s M∧L=.raw l (.loop (rec .done (some (.exit jx)))) :: .raw D (.deferred (some [])) :: M
theorem aR2 {ς α:Type} {P:Program} {Q:Exit→Act→World→Prop} {id:Nat} {g:Operand} {ps:Array Tmp} {assign body:Code} {a:Act} {w:World} {n:Nat} {ds:List Deferred} {F:List (Nat × Value)} {G:cJ} {gf:Nat} {caps:List Value}
    {encs:α→List Value} {C C2 L0 Lf:List Ent} (jx:Nat) (hjx:jx ≠ id) (S:ς→List Ent→Prop) (bodyF:ς→α→Option (Rs ς)) (s0:ς) (sF:Rs ς)
    (hf:Has ⟨n, ds⟩ a F) (hc:Ctx G (C++(L0++Lf)) w) (hg:ev F g=some (.func (.func gf) #[] caps.toArray)) (hen:En P gf) (hps:∀ x, (encs x).length=ps.size) (hpn:ps.toList.all (λp=>Nat.blt p n)=true)
    (hS:S s0 L0)
    (hit:∀ (l m:Nat) (J:Rs ς→List Ent→Prop) (L Lx:List Ent) (w:World), aE0 P G l encs J (rY bodyF)→J (.go s0) L→Ctx G (C++(L++Lx)) w →
      Calls P gf (.func (.yield l) #[] #[] :: caps).toArray w λe w'=>(∃ v, e=.returned v)∧∃ L', J sF L'∧Ctx G (C2++(L'++Lx)) w')
    (hround:∀ (l m:Nat) (s:ς) (x:α) (o:Rs ς) (L Lr Lb:List Ent) (a:Act) (w:World) (K:Act→World→Prop), S s L→bodyF s x=some o→Has ⟨n, []⟩ a (aJr ps.toList (encs x) F)→Ctx G (L++Lr) w →
      (∀ a w L1, Ctx G (L1++Lr) w→(∀ w', Ctx G (L1++Lb) w'→body.wpIn (Fence.wide.inRound l) m P (aTm id jx G S Lb o) a w')→K a w) →
      assign.wpIn (Fence.wide.inRound l) m P (Exit.then K λ_ _ _=>False) a w)
    (hdone:∀ (D:Nat) (s:ς) (L:List Ent) (a:Act) (w:World), (sF=.go s ∨ sF=.brk s)→S s L→Has ⟨n, xN D :: ds⟩ a F→Ctx G (.raw D (.deferred (some [])) :: (C2++(L++Lf))) w→Q .normal a w)
    (hret:∀ (D:Nat) (s:ς) (L:List Ent) (a:Act) (w:World), sF=.ret s→S s L→Has ⟨n, xN D :: ds⟩ a F→Ctx G (.raw D (.deferred (some [])) :: (C2++(L++Lf))) w→Q (.exit jx) a w) :
    (Code.block id (Code.rangeFunc g ps assign body)).wp P Q a w:=by
  refine wp_block ((wpIn_wide (n:=1)).1 (wpIn_rangeFunc ?_))
  intro fn _
  obtain ⟨rec, hrec⟩:∃ rec:LoopState→Option Code→Loop, rec=λst pe=>{ state:=st, pending:=pe, fn, tmps:=a.tmps, params:=ps, assign, body, defers:=w.heap.size }:=⟨_, rfl⟩
  have hc0:Ctx G (.raw (w.heap.size + 1) (.loop (rec .ready none)) :: .raw w.heap.size (.deferred (some [])) :: (C++(L0++Lf))) ((w.alloc (.deferred (some []))).alloc (.loop (rec .ready none))):=by
    have h1:=hc.newRaw (.deferred (some []))
    have h2:=h1.newRaw (.loop (rec .ready none))
    rwa [World.size_alloc] at h2
  obtain ⟨W1, hW1⟩:∃ W1, (w.alloc (.deferred (some []))).alloc (.loop (rec .ready none))=W1:=⟨_, rfl⟩
  rw [hW1] at hc0
  have hpush:∀ (C:List Ent) (x y:Ent) (M:List Ent), (x :: y :: (C++(M++Lf))).Perm (C++((x :: y :: M)++Lf)):=λC x y M=>by
    have:(C++((x :: y :: M)++Lf))=C++([x, y]++(M++Lf)):=rfl
    rw [this]
    exact (List.perm_append_comm_assoc [x, y] C (M++Lf))
  have heval:a.eval g=.func (.func gf) #[] caps.toArray:=hf.ev hg
  refine ⟨w.heap.size + 1, [xN w.heap.size], W1, { target:=.fn (.func gf) caps.toArray, args:=#[.func (.yield (w.heap.size + 1)) #[] #[]] }, W1, gf,
    #[.func (.yield (w.heap.size + 1)) #[] #[]]++caps.toArray, W1, ?_, ?_, λ_ _=>trivial, ?_, by simp [Fence.wide], ?_⟩
  · rw [← hW1, hrec]
    exact run_enterLoop_outer _ _ _ _ _
  · simp only [resolve, heval]
    simp [go_sem]
  · have:=hen (#[.func (.yield (w.heap.size + 1)) #[] #[]]++caps.toArray)
    simp only [invoke, this]
  · have hcall:=hit (w.heap.size + 1) 0 (recX rec (w.heap.size + 1) w.heap.size id jx S) _ Lf _ ?_ ⟨L0, hS, rfl⟩ (hc0.perm (hpush C _ _ L0))
    · have hargs:(#[.func (.yield (w.heap.size + 1)) #[] #[]]++caps.toArray:Array Value)=(.func (.yield (w.heap.size + 1)) #[] #[] :: caps).toArray:=by simp
      rw [hargs]
      refine (callsIn_wide.2 hcall).mono ?_
      rintro e w3 ⟨⟨v, rfl⟩, L', hJ, hc3⟩
      have fin:∀ (st:LoopState) (pe:Option Code) (M:List Ent), st ≠ .busy→Ctx G (C2++((.raw (w.heap.size + 1) (.loop (rec st pe)) :: .raw w.heap.size (.deferred (some [])) :: M)++Lf)) w3 →
          ∃ w4, (Instr.endLoop (w.heap.size + 1)).run P w3=.ok pe w4∧Ctx G (.raw w.heap.size (.deferred (some [])) :: (C2++(M++Lf))) w4:=λst pe M hst hcM=>by
        have hcM':=hcM.perm (hpush C2 _ _ M).symm
        obtain ⟨hb, hcu⟩:=hcM'.rawUpd (o':=.loop { rec st pe with state:=.exhausted }) List.mem_cons_self .here
        have hst':(rec st pe).state=st:=by rw [hrec]
        have hpe:(rec st pe).pending=pe:=by rw [hrec]
        have:=run_endLoop (P:=P) hb (by rw [hst']; exact hst)
        exact ⟨_, this.trans (congrArg (λq=>Result.ok q _) hpe), hcu.tail⟩
      have hfm:Has ⟨n, xN w.heap.size :: ds⟩ { a with defers:=[xN w.heap.size]++a.defers } F:=⟨hf.size, by simp [hf.defers], hf.get⟩
      cases sF with
      | go s=>
        obtain ⟨M, hSM, rfl⟩:=hJ
        obtain ⟨w4, hr, hc4⟩:=fin .ready none M (by simp) hc3
        exact ⟨none, w4, hr, hdone _ s M _ _ (.inl rfl) hSM hfm hc4⟩
      | brk s=>
        obtain ⟨M, hSM, rfl⟩:=hJ
        obtain ⟨w4, hr, hc4⟩:=fin .done _ M (by simp) hc3
        exact ⟨_, w4, hr, wpIn_exit (cX (hdone _ s M _ _ (.inr rfl) hSM hfm hc4))⟩
      | ret s=>
        obtain ⟨M, hSM, rfl⟩:=hJ
        obtain ⟨w4, hr, hc4⟩:=fin .done _ M (by simp) hc3
        exact ⟨_, w4, hr, wpIn_exit (aLb (by simpa using hjx) (hret _ s M _ _ rfl hSM hfm hc4))⟩
    · -- a round
      intro m s x r L Lx W hJ hy hcW
      cases s with
      | brk s=>cases hy
      | ret s=>cases hy
      | go s=>
        obtain ⟨M, hSM, rfl⟩:=hJ
        simp only [rY, Option.map_eq_some_iff] at hy
        obtain ⟨o, hbo, rfl⟩:=hy
        have hlW:W.heap[w.heap.size + 1]?=some (.loop (rec .ready none)):=hcW.sat (.raw (w.heap.size + 1) (.loop (rec .ready none))) (by simp)
        have hyr:=run_yield (P:=P) (args:=(encs x).toArray) hlW (by rw [hrec]; simpa using hps x)
        refine ⟨_, _, _, _, hyr, roundIn_of_wpIn trivial ?_⟩
        have hhas:=aFr ps.toList (encs x) (F:=F) (n:=n) (λp hp=>by
          have:=List.all_eq_true.1 hpn p hp
          simpa [Nat.blt_eq] using this) (a:={ a with defers:=[] }) ⟨hf.size, rfl, hf.get⟩
        have hmid:∀ (A B:Ent) (M:List Ent), (A :: B :: M++Lx).Perm (M++A :: B :: Lx):=λA B M=>by
          have h1:(M++A :: B :: Lx)=M++([A, B]++Lx):=rfl
          have h2:(A :: B :: M++Lx)=[A, B]++(M++Lx):=rfl
          rw [h1, h2]
          exact (List.perm_append_comm_assoc [A, B] M Lx)
        have htm:(ps.zip (encs x).toArray).foldl (λt p=>t.setIfInBounds p.1 p.2) (rec .ready none).tmps=(ps.toList.zip (encs x)).foldl (λt p=>t.setIfInBounds p.1 p.2) a.tmps:=by
          rw [hrec, ← Array.foldl_toList]
          simp
        have hgo:=hround (w.heap.size + 1) m s x o M (.raw (w.heap.size + 1) (.loop (rec .ready none)) :: .raw w.heap.size (.deferred (some [])) :: Lx) (.raw (w.heap.size + 1) (.loop { rec .ready none with state:=.busy }) :: .raw w.heap.size (.deferred (some [])) :: Lx) _ W
          (λa₁ w₁=>∃ w₂, (Instr.beginRound (w.heap.size + 1)).run P w₁=.ok () w₂∧body.wpIn (Fence.wide.inRound (w.heap.size + 1)) m P (roundPost P (w.heap.size + 1) (λe w'=>e=.returned (.bool o.on)∧∃ L', recX rec (w.heap.size + 1) w.heap.size id jx S o L'∧Ctx G (L'++Lx) w')) a₁ w₂) hSM hbo hhas (hcW.perm (hmid _ _ M)) ?_
        · have hfin:({ tmps:=(ps.zip (encs x).toArray).foldl (λt p=>t.setIfInBounds p.1 p.2) (rec .ready none).tmps, defers:=[] }:Act)={ tmps:=(ps.toList.zip (encs x)).foldl (λt p=>t.setIfInBounds p.1 p.2) a.tmps, defers:=[] }:=by rw [htm]
          simp only [hrec] at hfin hgo ⊢
          rw [hfin]
          exact hgo
        · intro a1 w1 L1 hc1 hb
          obtain ⟨hb1, hcu⟩:=(hc1.perm List.perm_middle).rawUpd (o':=.loop { rec .ready none with state:=.busy }) List.mem_cons_self .here
          have hst:(rec .ready none).state=.ready:=by rw [hrec]
          refine ⟨_, run_beginRound hb1 hst, wpIn_mono (hb _ (hcu.perm List.perm_middle.symm)) ?_⟩
          have fin:∀ (jump:Option Code) (w3:World) (M:List Ent), Ctx G (M++.raw (w.heap.size + 1) (.loop { rec .ready none with state:=.busy }) :: .raw w.heap.size (.deferred (some [])) :: Lx) w3 →
              ∃ w4, (Instr.endRound (w.heap.size + 1) jump).run P w3=.ok (.bool jump.isNone) w4∧Ctx G ((.raw (w.heap.size + 1) (.loop (rec (if jump.isNone then .ready else .done) jump)) :: .raw w.heap.size (.deferred (some [])) :: M)++Lx) w4:=λjump w3 M hc3=>by
            obtain ⟨hb3, hcu3⟩:=(hc3.perm List.perm_middle).rawUpd (o':=.loop (rec (if jump.isNone then .ready else .done) jump)) List.mem_cons_self .here
            have:=run_endRound (P:=P) jump hb3
            refine ⟨w3.putObj (w.heap.size + 1) (.loop (rec (if jump.isNone then .ready else .done) jump)), ?_, ?_⟩
            · rw [this]; simp only [hrec]
            · exact hcu3.perm ((List.perm_middle.symm).trans (hmid _ _ M).symm)
          rintro e a3 w3 hp
          cases e with
          | normal=>
            obtain ⟨s', M', rfl, hS', hc3⟩:=hp
            obtain ⟨w4, hr, hc4⟩:=fin none w3 M' hc3
            exact ⟨_, w4, hr, rfl, _, ⟨M', hS', rfl⟩, hc4⟩
          | exit i=>
            rcases hp with ⟨rfl, s', M', rfl, hS', hc3⟩ | ⟨rfl, s', M', rfl, hS', hc3⟩
            · obtain ⟨w4, hr, hc4⟩:=fin (some (.exit i)) w3 M' hc3
              exact ⟨_, w4, hr, rfl, _, ⟨M', hS', rfl⟩, hc4⟩
            · obtain ⟨w4, hr, hc4⟩:=fin (some (.exit i)) w3 M' hc3
              exact ⟨_, w4, hr, rfl, _, ⟨M', hS', rfl⟩, hc4⟩
          | ret=>exact hp.elim
          | goto t=>exact hp.elim
          | panic ch=>exact hp.elim
          | outgrown=>exact hp.elim

end outer
end Go.Nilo
