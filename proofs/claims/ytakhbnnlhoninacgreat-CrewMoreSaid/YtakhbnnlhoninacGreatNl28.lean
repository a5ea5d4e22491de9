/-
  Groups of entries as one entry; tables: own slices whose elements own a block each. Conditions: what each theorem names.
-/
import Derived.Test.YtakhbnnlhoninacGreatNl27
set_option linter.unusedSimpArgs false
set_option linter.unusedVariables false
namespace Go.Nilo
theorem Ctx.sub {G:aO} {L L':List Ent} {w:World} (h:Ctx G L w) (hs:L'.Sublist L):Ctx G L' w :=
  ⟨h.os, h.tape, h.output, h.sz, h.pers, fun e he=>h.sat e (hs.subset he), fun e he=>h.fresh e (hs.subset he), h.sep.sublist hs⟩
theorem vW {β:Type}:∀ {rs:List β} {i:Nat} {r:β}, rs[i]?=some r→rs.Perm (r :: rs.eraseIdx i)
  | [], _, _, h=>by simp at h
  | a :: rs, 0, r, h=>by
    have e:a=r:=by simpa using h
    subst e; exact List.Perm.refl _
  | a :: rs, i + 1, r, h=>by
    have h':rs[i]?=some r:=by simpa using h
    exact ((vW h').cons a).trans (List.Perm.swap r a _)
def aGl (es:List Ent):Prop:=es.Pairwise fun e e'=>∀ b, e.own b→¬ e'.own b
def aHn (es:List Ent):Ent:=.grp (fun b=>∃ e ∈ es, e.own b) (fun w=>(∀ e ∈ es, e.sat w)∧aGl es)
theorem aCf {es:List Ent} {w:World}:(aHn es).sat w ↔ (∀ e ∈ es, e.sat w)∧aGl es:=by
  constructor
  · intro h; exact h.1
  · intro h
    refine ⟨h, ?_, ?_⟩
    · rintro b ⟨e, he, hb⟩; exact Ent.lt (h.1 e he) hb
    · intro w' hw'
      exact ⟨fun e he=>Ent.stay (h.1 e he) fun b hb=>hw' b ⟨e, he, hb⟩, h.2⟩
theorem pN {G:aO} {es L:List Ent} {w:World}:Ctx G (aHn es :: L) w ↔ Ctx G (es++L) w:=by
  constructor
  · intro h
    obtain ⟨hs1, hs2⟩:=List.pairwise_cons.1 h.sep
    have hg:=aCf.1 (h.sat _ List.mem_cons_self)
    refine ⟨h.os, h.tape, h.output, h.sz, h.pers, ?_, ?_, ?_⟩
    · intro e he
      rcases List.mem_append.1 he with he | he
      · exact hg.1 e he
      · exact h.sat e (List.mem_cons_of_mem _ he)
    · intro e he b hb
      rcases List.mem_append.1 he with he | he
      · exact h.fresh _ List.mem_cons_self b ⟨e, he, hb⟩
      · exact h.fresh e (List.mem_cons_of_mem _ he) b hb
    · exact List.pairwise_append.2 ⟨hg.2, hs2, fun e he e' he' b hb=>hs1 e' he' b ⟨e, he, hb⟩⟩
  · intro h
    obtain ⟨p1, p2, p3⟩:=List.pairwise_append.1 h.sep
    refine ⟨h.os, h.tape, h.output, h.sz, h.pers, ?_, ?_, List.pairwise_cons.2 ⟨?_, p2⟩⟩
    · intro e he
      rcases List.mem_cons.1 he with rfl | he
      · exact aCf.2 ⟨fun e he=>h.sat e (List.mem_append_left _ he), p1⟩
      · exact h.sat e (List.mem_append_right _ he)
    · intro e he b hb
      rcases List.mem_cons.1 he with rfl | he
      · obtain ⟨e', he', hb'⟩:=hb
        exact h.fresh e' (List.mem_append_left _ he') b hb'
      · exact h.fresh e (List.mem_append_right _ he) b hb
    · rintro e he b ⟨e', he', hb'⟩
      exact p3 e' he' e he b hb'
theorem oB {G:aO} {es L:List Ent} {w:World} (M:List Ent):Ctx G (M++aHn es :: L) w ↔ Ctx G (M++(es++L)) w:=by
  constructor
  · intro h
    have h1:Ctx G (aHn es :: (M++L)) w:=h.perm List.perm_middle
    have h2:=pN.1 h1
    refine h2.perm ?_
    rw [← List.append_assoc, ← List.append_assoc]
    exact List.perm_append_comm.append_right L
  · intro h
    have h2:Ctx G (es++(M++L)) w:=by
      refine h.perm ?_
      rw [← List.append_assoc, ← List.append_assoc]
      exact List.perm_append_comm.append_right L
    exact (pN.2 h2).perm List.perm_middle.symm
abbrev H2:=Option Addr × Nat
abbrev Hds:=Nat→H2
abbrev rM:=Nat × Hds
structure Kd (α:Type) where
  val:H2→α→List Value
  ent:H2→α→Ent
  fz:H2→α→aO→Prop
@[reducible] def Kd.v {α:Type} (K:Kd α) (r:H2 × α):List Value:=K.val r.1 r.2
@[reducible] def Kd.e {α:Type} (K:Kd α) (r:H2 × α):Ent:=K.ent r.1 r.2
def aF {α:Type} (hs:Hds):List α→List (H2 × α)
  | []=>[]
  | x :: xs=>(hs 0, x) :: aF (fun j=>hs (j + 1)) xs
def aQ {α:Type} (K:Kd α) (rs:List (H2 × α)):Ent:=aHn (rs.map K.e)
def aDo (hs:Hds) (i:Nat) (h:H2):Hds:=fun j=>if j=i then h else hs j
theorem bY {α:Type}:∀ (hs:Hds) (xss:List α), (aF hs xss).length=xss.length
  | _, []=>rfl
  | hs, _ :: xss=>by simp [aF, bY _ xss]
theorem jJ {α:Type}:∀ {hs:Hds} {xss:List α} {i:Nat} {x:α}, xss[i]?=some x→(aF hs xss)[i]?=some (hs i, x)
  | _, [], _, _, h=>by simp at h
  | hs, a :: xss, 0, x, h=>by
    have e:a=x:=by simpa using h
    subst e; rfl
  | hs, a :: xss, i + 1, x, h=>by
    have:=jJ (hs:=fun j=>hs (j + 1)) (xss:=xss) (i:=i) (x:=x) (by simpa using h)
    simpa [aF] using this
theorem dE {α:Type} {hs:Hds} {xss:List α} {i:Int} {x:α} (h:bH xss i=some x):bH (aF hs xss) i=some (hs i.toNat, x):=by
  obtain ⟨h0, h1⟩:=fM h
  have h2:=jJ (hs:=hs) h1
  unfold bH
  simp [h0, h2]
theorem wG {α:Type}:∀ (hs:Hds) (xss:List α) (i:Nat) (h:H2) (x:α), (aF hs xss).set i (h, x)=aF (aDo hs i h) (xss.set i x)
  | _, [], _, _, _=>rfl
  | hs, a :: xss, 0, h, x=>by
    simp [aF, aDo]
  | hs, a :: xss, i + 1, h, x=>by
    have:=wG (fun j=>hs (j + 1)) xss i h x
    simp only [aF, List.set_cons_succ, this]
    congr 1
    congr 1
    funext j
    simp [aDo]
theorem uX {α:Type} (hs:Hds) (xss:List α) (i:Nat) (x:α):(aF hs xss).set i (hs i, x)=aF hs (xss.set i x):=by
  rw [wG]
  congr 1
  funext j
  simp only [aDo]
  split
  · rename_i e; rw [e]
  · rfl
theorem aCy {α:Type}:∀ (hs hs2:Hds) (xs ys:List α), aF hs xs++aF hs2 ys=aF (fun j=>if j < xs.length then hs j else hs2 (j - xs.length)) (xs++ys)
  | hs, hs2, [], ys=>by simp [aF]
  | hs, hs2, a :: xs, ys=>by
    have:=aCy (fun j=>hs (j + 1)) hs2 xs ys
    simp only [aF, List.cons_append, this, List.length_cons]
    congr 1
    congr 1
    funext j
    by_cases h:j < xs.length
    · simp [h]
    · have:¬ j + 1 < xs.length + 1:=by omega
      simp [h]
theorem aCb {α:Type}:∀ rs:List (H2 × α), ∃ hs, aF hs (rs.map Prod.snd)=rs
  | []=>⟨fun _=>(none, 0), rfl⟩
  | (h, x) :: rs=>by
    obtain ⟨hs, e⟩:=aCb rs
    exact ⟨fun j=>match j with | 0=>h | j + 1=>hs j, by simp only [List.map_cons, aF]; rw [e]⟩
theorem aDp {α:Type} (x:α):∀ n:Nat, List.replicate n ((none, 0), x)=aF (fun _=>(none, 0)) (List.replicate n x)
  | 0=>rfl
  | n + 1=>by simp only [List.replicate_succ, aF, aDp x n]
section tables
variable {α:Type} {K:Kd α} {G:aO} {L:List Ent} {w:World} {hs hs2:Hds} {xs ys:List α} {p:Option Addr} {c eT sz:Nat}
theorem tabS {i:Int} {x:α} (h:gH L (aQ K (aF hs xs))) (hx:bH xs i=some x):gH L (K.ent (hs i.toNat) x):=fun G w hc=>
  (aCf.1 (h G w hc)).1 _ (List.mem_map_of_mem (f:=K.e) (List.mem_of_getElem? (jJ (hs:=hs) (fM hx).2)))
theorem aHb {rs:List (H2 × α)} {i:Nat} {r:H2 × α} (hc:Ctx G (aQ K rs :: L) w) (h:rs[i]?=some r):Ctx G (K.e r :: aQ K (rs.eraseIdx i) :: L) w:=by
  have h1:=pN.1 hc
  have h2:(rs.map K.e++L).Perm ([K.e r]++((rs.eraseIdx i).map K.e++L)):=((vW h).map K.e).append_right L
  exact (oB [K.e r]).2 (h1.perm h2)
theorem aFv {rs:List (H2 × α)} {i:Nat} {r:H2 × α} (hi:i < rs.length) (hc:Ctx G (K.e r :: aQ K (rs.eraseIdx i) :: L) w):Ctx G (aQ K (rs.set i r) :: L) w:=by
  have h1:=(oB [K.e r]).1 hc
  have h2:((rs.set i r).map K.e++L).Perm ([K.e r]++((rs.eraseIdx i).map K.e++L)):=by
    have:=((vW (rs:=rs.set i r) (i:=i) (r:=r) (by simp [hi])).map K.e).append_right L
    rwa [List.eraseIdx_set_eq] at this
  exact pN.2 (h1.perm h2.symm)
theorem vC {i:Int} {x:α} (hc:Ctx G (aQ K (aF hs xs) :: L) w) (hx:bH xs i=some x):Ctx G (K.ent (hs i.toNat) x :: aQ K ((aF hs xs).eraseIdx i.toNat) :: L) w :=
  aHb hc (jJ (hs:=hs) (fM hx).2)
theorem aKr {i:Int} {h':H2} {x y:α} (hx:bH xs i=some x) (hc:Ctx G (K.ent h' y :: aQ K ((aF hs xs).eraseIdx i.toNat) :: L) w) :
    Ctx G (aQ K (aF (aDo hs i.toNat h') (xs.set i.toNat y)) :: L) w:=by
  have hi:i.toNat < (aF hs xs).length:=(List.getElem?_eq_some_iff.1 (jJ (hs:=hs) (fM hx).2)).1
  have h:=aFv (r:=(h', y)) hi hc
  rwa [wG] at h
theorem vI {i:Int} {h':H2} {x y:α} (hx:bH xs i=some x) (hc:Ctx G (K.ent h' y :: .row p c (((aF hs xs).set i.toNat (h', y)).map K.v) eT sz :: aQ K ((aF hs xs).eraseIdx i.toNat) :: L) w) :
    ∃ hs':Hds, Ctx G (.row p c ((aF hs' (xs.set i.toNat y)).map K.v) eT sz :: aQ K (aF hs' (xs.set i.toNat y)) :: L) w:=by
  refine ⟨aDo hs i.toNat h', ?_⟩
  rw [wG] at hc
  have h0:Ctx G (.row p c ((aF (aDo hs i.toNat h') (xs.set i.toNat y)).map K.v) eT sz :: K.ent h' y :: aQ K ((aF hs xs).eraseIdx i.toNat) :: L) w:=hc.perm (.swap _ _ _)
  have h1:Ctx G (K.ent h' y :: aQ K ((aF hs xs).eraseIdx i.toNat) :: (.row p c ((aF (aDo hs i.toNat h') (xs.set i.toNat y)).map K.v) eT sz :: L)) w :=
    h0.perm ((List.Perm.swap _ _ _).trans ((List.Perm.swap _ _ _).cons _))
  exact (aKr hx h1).perm (.swap _ _ _)
theorem aDj {i:Int} {x y:α} (hx:bH xs i=some x) (hv:K.val (hs i.toNat) x=K.val (hs i.toNat) y)
    (hc:Ctx G (K.ent (hs i.toNat) y :: .row p c ((aF hs xs).map K.v) eT sz :: aQ K ((aF hs xs).eraseIdx i.toNat) :: L) w) :
    Ctx G (.row p c ((aF hs (xs.set i.toNat y)).map K.v) eT sz :: aQ K (aF hs (xs.set i.toNat y)) :: L) w:=by
  have e1:(aF hs xs).map K.v=(aF hs (xs.set i.toNat y)).map K.v:=by
    rw [← uX, List.map_set]
    refine (List.ext_getElem? fun j=>?_)
    by_cases hj:j=i.toNat
    · subst hj
      have:=jJ (hs:=hs) (fM hx).2
      rw [List.getElem?_set_self (by simpa using (List.getElem?_eq_some_iff.1 this).1), List.getElem?_map, this]
      simp [hv]
    · rw [List.getElem?_set_ne (Ne.symm hj)]
  rw [e1] at hc
  have h1:Ctx G (K.ent (hs i.toNat) y :: aQ K ((aF hs xs).eraseIdx i.toNat) :: (.row p c ((aF hs (xs.set i.toNat y)).map K.v) eT sz :: L)) w:=hc.perm ((List.Perm.swap _ _ _).cons _)
  have hi:i.toNat < (aF hs xs).length:=(List.getElem?_eq_some_iff.1 (jJ (hs:=hs) (fM hx).2)).1
  have h2:=aFv (r:=(hs i.toNat, y)) hi h1
  rw [uX] at h2
  exact h2.perm (.swap _ _ _)
theorem aHu {i:Int} {x y:α} (hx:bH xs i=some x) (he:K.ent (hs i.toNat) x=K.ent (hs i.toNat) y)
    (hc:Ctx G (.row p c (((aF hs xs).set i.toNat (hs i.toNat, y)).map K.v) eT sz :: aQ K (aF hs xs) :: L) w) :
    Ctx G (.row p c ((aF hs (xs.set i.toNat y)).map K.v) eT sz :: aQ K (aF hs (xs.set i.toNat y)) :: L) w:=by
  have e1:(aF hs xs).map K.e=(aF hs (xs.set i.toNat y)).map K.e:=by
    rw [← uX, List.map_set]
    refine (List.ext_getElem? fun j=>?_)
    by_cases hj:j=i.toNat
    · subst hj
      have:=jJ (hs:=hs) (fM hx).2
      rw [List.getElem?_set_self (by simpa using (List.getElem?_eq_some_iff.1 this).1), List.getElem?_map, this]
      exact congrArg some he
    · rw [List.getElem?_set_ne (Ne.symm hj)]
  rw [uX] at hc
  have h1:=(oB (es:=(aF hs xs).map K.e) [.row p c ((aF hs (xs.set i.toNat y)).map K.v) eT sz]).1 hc
  rw [e1] at h1
  exact (oB (es:=(aF hs (xs.set i.toNat y)).map K.e) [.row p c ((aF hs (xs.set i.toNat y)).map K.v) eT sz]).2 h1
theorem aH8 (hc:Ctx G (.row p c ((aF hs xs++aF hs2 ys).map K.v) eT sz :: aQ K (aF hs xs) :: aQ K (aF hs2 ys) :: L) w) :
    ∃ hs':Hds, Ctx G (.row p c ((aF hs' (xs++ys)).map K.v) eT sz :: aQ K (aF hs' (xs++ys)) :: L) w:=by
  have e:=aCy hs hs2 xs ys
  refine ⟨fun j=>if j < xs.length then hs j else hs2 (j - xs.length), ?_⟩
  rw [← e]
  have h1:=(oB [.row p c ((aF hs xs++aF hs2 ys).map K.v) eT sz, aQ K (aF hs xs)]).1 hc
  have h2:=(oB (es:=(aF hs xs).map K.e) [.row p c ((aF hs xs++aF hs2 ys).map K.v) eT sz]).1 h1
  refine (oB (es:=(aF hs xs++aF hs2 ys).map K.e) [.row p c ((aF hs xs++aF hs2 ys).map K.v) eT sz]).2 ?_
  rw [List.map_append (f:=K.e), List.append_assoc]
  exact h2
theorem aH1 (rs:List (H2 × α)) (hc:Ctx G (.row p c (rs.map K.v) eT sz :: (rs.map K.e++L)) w) :
    ∃ hs':Hds, Ctx G (.row p c ((aF hs' (rs.map Prod.snd)).map K.v) eT sz :: aQ K (aF hs' (rs.map Prod.snd)) :: L) w:=by
  obtain ⟨hs', e⟩:=aCb rs
  refine ⟨hs', ?_⟩
  rw [e]
  exact (oB [.row p c (rs.map K.v) eT sz]).2 hc
theorem nW (rs:List (H2 × α)) (hc:Ctx G (.row p c ((aF hs xs++rs).map K.v) eT sz :: aQ K (aF hs xs) :: (rs.map K.e++L)) w) :
    ∃ hs':Hds, Ctx G (.row p c ((aF hs' (xs++rs.map Prod.snd)).map K.v) eT sz :: aQ K (aF hs' (xs++rs.map Prod.snd)) :: L) w:=by
  obtain ⟨hs2, e⟩:=aCb rs
  refine aH8 (hs:=hs) (hs2:=hs2) ?_
  rw [e]
  exact (oB [.row p c ((aF hs xs++rs).map K.v) eT sz, aQ K (aF hs xs)]).2 hc
theorem zH (hc:Ctx G L w):Ctx G (aQ K (aF hs ([]:List α)) :: L) w:=pN.2 hc
theorem aDb {x:α} (h0:∀ L, Ctx G L w→Ctx G (K.ent (none, 0) x :: L) w) (n:Nat) (hc:Ctx G (.row p c ((List.replicate n ((none, 0), x)).map K.v) eT sz :: L) w) :
    ∃ hs':Hds, Ctx G (.row p c ((aF hs' (List.replicate n x)).map K.v) eT sz :: aQ K (aF hs' (List.replicate n x)) :: L) w:=by
  refine ⟨fun _=>(none, 0), ?_⟩
  rw [← aDp]
  refine (oB [.row p c ((List.replicate n ((none, 0), x)).map K.v) eT sz]).2 ?_
  have:∀ m, Ctx G ((List.replicate m ((none, 0), x)).map K.e++(.row p c ((List.replicate n ((none, 0), x)).map K.v) eT sz :: L)) w:=by
    intro m
    induction m with
    | zero=>exact hc
    | succ m ih=>rw [List.replicate_succ]; exact h0 _ ih
  refine (this n).perm ?_
  exact List.perm_middle
structure yX (K:Kd α):Prop where
  mono:∀ {h x G G'}, aO.le G G'→K.fz h x G→K.fz h x G'
  lend:∀ {h x G L w}, Ctx G (K.ent h x :: L) w→∃ G', G.le G'∧K.fz h x G'∧Ctx G' L w∧∀ Lx w', Ctx G' Lx w'→Ctx G (K.ent h x :: Lx) w'
def RdT (K:Kd α) (G:aO) (sz:Nat) (p:Option Addr) (cap:Nat) (xs:List α):Prop:=yX K∧∃ hs:Hds, Rd G sz p cap ((aF hs xs).map K.v)∧∀ i x, xs[i]?=some x→K.fz (hs i) x G
theorem RdT.mono {G G':aO} (h:RdT K G sz p c xs) (hle:G.le G'):RdT K G' sz p c xs:=by
  obtain ⟨hk, hs, h1, h2⟩:=h
  exact ⟨hk, hs, h1.mono hle, fun i x hx=>hk.mono hle (h2 i x hx)⟩
theorem RdT.nil (hk:yX K) {G:aO} (sz:Nat) (p:Option Addr) {cap:Nat} (h:cap≤maxLen:=by decide):RdT K G sz p cap []:=⟨hk, fun _=>(none, 0), Rd.nil sz p h, fun i x hx=>by simp at hx⟩
theorem RdT.atm (h:RdT K G sz p c xs) {i:Int} {x:α} (hx:bH xs i=some x):∃ b o hd, At p xs.length sz i b o∧PC G b o (K.val hd x)∧K.fz hd x G:=by
  obtain ⟨-, hs, h1, h2⟩:=h
  obtain ⟨b, o, h3, h4⟩:=h1.atm (enc:=K.v) (dE (hs:=hs) hx)
  rw [bY] at h3
  exact ⟨b, o, hs i.toNat, h3, h4, h2 _ _ (fM hx).2⟩
theorem RdT.cap (h:RdT K G sz p c xs):xs.length≤c:=by
  obtain ⟨-, hs, h1, -⟩:=h
  have:=h1.1
  simpa [bY] using this
theorem aA6 (hk:yX K):∀ {rs:List (H2 × α)} {G:aO} {L:List Ent}, Ctx G (rs.map K.e++L) w→∃ G', G.le G'∧(∀ r ∈ rs, K.fz r.1 r.2 G')∧Ctx G' L w∧∀ Lx w', Ctx G' Lx w'→Ctx G (rs.map K.e++Lx) w'
  | [], G, L, h=>⟨G, aO.le_refl G, by simp, h, fun _ _ h=>h⟩
  | r :: rs, G, L, h=>by
    obtain ⟨G1, l1, f1, c1, b1⟩:=hk.lend (h:=r.1) (x:=r.2) h
    obtain ⟨G2, l2, f2, c2, b2⟩:=aA6 hk c1
    refine ⟨G2, aO.le_trans l1 l2, ?_, c2, fun Lx w' h'=>b1 _ _ (b2 _ _ h')⟩
    intro r' hr'
    rcases List.mem_cons.1 hr' with rfl | hr'
    · exact hk.mono l2 f1
    · exact f2 r' hr'
theorem jA (hk:yX K) {L1 L2:List Ent} (hc:Ctx G L w) (hp:jX L (.row p c ((aF hs xs).map K.v) eT sz) L1) (hq:jX L1 (aQ K (aF hs xs)) L2) :
    ∃ G', G.le G'∧RdT K G' sz p c xs∧Ctx G' L2 w∧∀ Lx w', Ctx G' Lx w'→Ctx G (.row p c ((aF hs xs).map K.v) eT sz :: aQ K (aF hs xs) :: Lx) w':=by
  have h1:Ctx G (.row p c ((aF hs xs).map K.v) eT sz :: aQ K (aF hs xs) :: L2) w:=(hc.pick hp).perm (hq.perm.cons _)
  obtain ⟨G1, l1, r1, c1, b1⟩:=lend h1 k0
  obtain ⟨G2, l2, f2, c2, b2⟩:=aA6 hk (pN.1 c1)
  refine ⟨G2, aO.le_trans l1 l2, ⟨hk, hs, r1.mono l2, fun i x hx=>f2 (hs i, x) (List.mem_of_getElem? (jJ (hs:=hs) hx))⟩, c2, fun Lx w' h'=>?_⟩
  have h3:=b1 _ _ (pN.2 (b2 _ _ h'))
  exact h3
end tables
def kL {β:Type} (enc:β→List Value) (T sz:Nat):Kd (List β) :=
  ⟨fun h xs=>[.slice h.1 xs.length h.2], fun h xs=>.row h.1 h.2 (xs.map enc) T sz, fun h xs G=>Rd G sz h.1 h.2 (xs.map enc)⟩
theorem aJu {β:Type} (enc:β→List Value) (T sz:Nat):yX (kL enc T sz) :=
  ⟨fun hle h=>Rd.mono h hle, fun hc=>by
    obtain ⟨G', h1, h2, h3, h4⟩:=Go.Nilo.lend hc k0
    exact ⟨G', h1, h2, h3, fun Lx w' h'=>h4 Lx w' h'⟩⟩
def Kd.comp {α β:Type} (K:Kd β) (f:α→β) (v:H2→α→List Value):Kd α:=⟨v, fun h x=>K.ent h (f x), fun h x=>K.fz h (f x)⟩
theorem yX.comp {α β:Type} {K:Kd β} (hk:yX K) (f:α→β) (v:H2→α→List Value):yX (K.comp f v):=⟨fun hle h=>hk.mono hle h, fun hc=>hk.lend hc⟩
def kM {ν:Type} (enc:ν→Value):Kd (Option (List (Int × ν))) :=
  ⟨fun h m=>match m with | none=>[.map none] | some _=>[.map (some h.2)],
   fun h m=>match m with | none=>.row none 0 [] 0 0 | some m=>.gm h.2 (ALq enc m), fun _ _ _=>False⟩
theorem aKv {ν:Type} (enc:ν→Value):∀ r, ((kM enc).v r).length=1∧mB ((kM enc).v r)=true
  | (_, none)=>⟨rfl, rfl⟩
  | (_, some _)=>⟨rfl, rfl⟩
def getM {α:Type} (xs:List (Option α)) (i:Int):Option α:=Option.bind (bH xs i) id
theorem sH {α:Type} {xs:List (Option α)} {i:Int} {m:α} (h:getM xs i=some m):bH xs i=some (some m):=by
  obtain ⟨x, h1, h2⟩:=Option.bind_eq_some_iff.1 h
  rw [h1, show x=some m from h2]
theorem sP {α:Type} {xs:List (Option α)} {i:Int} {v:Option α} {m:α} (h:bH xs i=some v) (hm:v=some m):getM xs i=some m:=by
  subst hm
  simp [getM, h]
theorem aH2 {ν:Type} {enc:ν→Value} {L:List Ent} {hs:Hds} {xs:List (Option (List (Int × ν)))} {i:Int} {m:List (Int × ν)} (h:gH L (aQ (kM enc) (aF hs xs))) (hx:getM xs i=some m):gH L (.gm (hs i.toNat).2 (ALq enc m)):=tabS h (sH hx)
def noH (_:Nat):Hds:=fun _=>(none, 0)
theorem mI {G:aO} {L L1 L2:List Ent} {w:World} {r t:Ent} (h:Ctx G (r :: t :: L2) w) (hp:jX L r L1) (hq:jX L1 t L2):Ctx G L w :=
  (h.perm (hq.perm.symm.cons r)).unpick hp
theorem aCz {y z M:Int} {n m:Nat} {u v:Unit} (hy:inR y n=some u) (hz:inR z m=some v) (hM:M=(m:Int)):inR (y * M + z) (n * m)=some ():=by
  subst hM
  obtain ⟨h1, h2⟩:=aZ hy
  obtain ⟨h3, h4⟩:=aZ hz
  unfold inR
  rw [if_pos]
  have h5:y + 1≤(n:Int):=by omega
  have h6:(y + 1) * (m:Int)≤(n:Int) * m:=Int.mul_le_mul_of_nonneg_right h5 (by omega)
  have h7:0≤y * (m:Int):=Int.mul_nonneg h1 (by omega)
  rw [Int.add_mul, Int.one_mul] at h6
  refine ⟨by omega, ?_⟩
  push_cast
  omega
theorem oO {y z M:Int} {n m:Nat} {u v:Unit} (o:Nat) (hy:inR y n=some u) (hz:inR z m=some v) (hM:M=(m:Int)):o + y.toNat * m + z.toNat * 1=o + (y * M + z).toNat * 1:=by
  subst hM
  obtain ⟨h1, -⟩:=aZ hy
  obtain ⟨h3, -⟩:=aZ hz
  have h7:0≤y * (m:Int):=Int.mul_nonneg h1 (by omega)
  have e:(y * (m:Int) + z).toNat=y.toNat * m + z.toNat:=by
    obtain ⟨a, rfl⟩:=Int.eq_ofNat_of_zero_le h1
    obtain ⟨b, rfl⟩:=Int.eq_ofNat_of_zero_le h3
    have:((a:Int) * (m:Int) + (b:Int))=((a * m + b:Nat):Int):=by push_cast; rfl
    rw [this, Int.toNat_natCast, Int.toNat_natCast, Int.toNat_natCast]
  rw [e]; omega
theorem Pu.cast {P:Program} {o:Oper} {F:List (Nat × Value)} {v v':Value} (h:Pu P o F v) (e:v=v'):Pu P o F v':=e ▸ h
theorem aG8 {G:aO} {b T:Nat} {cs:List Value} (h:G.blk b=some (.cells cs.toArray T (0, 0))):PC G b 0 cs:=⟨_, _, _, h, fun j u hu=>by simpa using hu⟩
theorem qU {α:Type} {G:aO} {L:List Ent} {b o k n sz j:Nat} {i:Int} {enc:α→List Value} {f:Nat→α} {pre post:List Value} {u:Value} {un:Unit} (h:PC G b o (pre++(arr n enc f++post))) (hz:∀ x, (enc x).length=sz) (ho:pre.length=k) (hi:inR i n=some un) (hu:(enc (f i.toNat))[j]?=some u) :
    qW G L ⟨b, o + k + i.toNat * sz + j, none⟩ u:=by
  obtain ⟨h0, h1⟩:=aZ hi
  have hj:j < sz:=by rw [← hz (f i.toNat)]; exact (List.getElem?_eq_some_iff.1 hu).1
  have hin:i.toNat < n:=by omega
  have h2:(pre++(arr n enc f++post))[k + i.toNat * sz + j]?=some u:=by
    rw [List.getElem?_append_right (by omega), List.getElem?_append_left (by
      rw [pY hz]
      have:(i.toNat + 1) * sz≤n * sz:=Nat.mul_le_mul_right _ (by omega)
      rw [Nat.succ_mul] at this
      omega)]
    have:k + i.toNat * sz + j - pre.length=i.toNat * sz + j:=by omega
    rw [this, aE0 hz f hj n hin]
    exact hu
  have:=bL (L:=L) h h2
  rwa [show o + (k + i.toNat * sz + j)=o + k + i.toNat * sz + j by omega] at this
section arrays
variable {α:Type} {K:Kd α} {G:aO} {L L':List Ent} {w:World} {hs:Hds} {xs:List α} {sz n:Nat}
def aAt {α:Type} (n:Nat) (xs:List α):Option Unit:=if xs.length=n then some () else none
theorem aD9 {u:Unit} (h:aAt n xs=some u):xs.length=n:=by
  unfold aAt at h
  split at h
  · assumption
  · cases h
theorem wQ {g cap T:Nat} {rows:List (List Value)} (he:gH L (Ent.row (some ⟨g, 0, none⟩) cap rows T sz)):∀ j u, rows.flatten[j]?=some u→qW G L ⟨g, 0 + j, none⟩ u:=fun j u hu w hc=>by
  obtain ⟨hl, hown⟩:=he _ _ hc
  have:=hown.cells (g:=g) rfl j u hu
  rwa [Addr.add_lit] at this
theorem mF {u:Unit} (hz:∀ r, (K.v r).length=sz∧mB (K.v r)=true) (h:aAt n xs=some u):((aF hs xs).map K.v).flatten.length=n * sz:=by
  rw [wI (fun r=>(hz r).1), bY, aD9 h]
theorem xM (hz:∀ r, (K.v r).length=sz∧mB (K.v r)=true):mB ((aF hs xs).map K.v).flatten=true:=by
  simp only [mB, List.all_eq_true]
  exact qN hz _
theorem aF3 {i:Int} {j:Nat} {x:α} {u:Value} (hz:∀ r, (K.v r).length=sz∧mB (K.v r)=true) (hx:bH xs i=some x) (hu:(K.val (hs i.toNat) x)[j]?=some u) :
    ((aF hs xs).map K.v).flatten[i.toNat * sz + j]?=some u :=
  oQ hu _ _ (lG hz _) (by rw [List.getElem?_map, jJ (hs:=hs) (fM hx).2]; rfl)
theorem sO {i:Int} {x:α} {u:Value} (hz:∀ r, (K.v r).length=sz∧mB (K.v r)=true) (hx:bH xs i=some x) (hu:(K.val (hs i.toNat) x)[0]?=some u) :
    ((aF hs xs).map K.v).flatten[0 + i.toNat * sz]?=some u:=by
  rw [Nat.zero_add]
  exact aF3 hz hx hu
theorem aI3 {b T:Nat} {rows:List (List Value)} (hr:∀ r ∈ rows, r.length=sz) (hn:rows.length≤1000000) (hc:Ctx G (.box b rows.flatten T :: L) w):Ctx G (.row (some ⟨b, 0, none⟩) rows.length rows T sz :: L) w:=by
  have hg:w.heap[b]?=some (.cells rows.flatten.toArray T (0, 0)):=hc.sat _ List.mem_cons_self
  have hfl:rows.flatten.length=rows.length * sz:=cI rows hr
  refine hc.upd rfl rfl rfl (Nat.le_refl _) (fun _ _ _=>rfl) ⟨hr, hfl, .inr ⟨b, _, _, rfl, Nat.zero_le _, hg, Nat.le_refl _, by simp only [maxLen]; omega, by simpa using hfl, ?_⟩⟩ (fun c hcq=>.inl (by simpa [Ent.own] using hcq))
  rw [← hfl]
  show List.take rows.flatten.length rows.flatten=_
  exact List.take_length
theorem aE7 {b T n:Nat} {x:α} {cs:List Value} (h0:∀ L, Ctx G L w→Ctx G (K.ent (none, 0) x :: L) w) (hz:∀ r, (K.v r).length=sz∧mB (K.v r)=true) (hn:Nat.ble n 1000000=true)
    (hcs:cs=((List.replicate n ((none, 0), x)).map K.v).flatten) (hc:Ctx G (.box b cs T :: L) w) :
    ∃ hs':Hds, Ctx G (.row (some ⟨b, 0, none⟩) n ((aF hs' (List.replicate n x)).map K.v) T sz :: aQ K (aF hs' (List.replicate n x)) :: L) w:=by
  subst hcs
  have hn':n≤1000000:=Nat.le_of_ble_eq_true hn
  have h1:=aI3 (sz:=sz) (lG hz _) (by simpa using hn') hc
  simp only [List.length_map, List.length_replicate] at h1
  exact aDb h0 n h1
theorem aKb (hk:yX K) (hc:Ctx G L w) (hp:jX L (aQ K (aF hs xs)) L') :
    ∃ G', G.le G'∧(∀ i x, bH xs i=some x→K.fz (hs i.toNat) x G')∧Ctx G' L' w∧∀ Lx w', Ctx G' Lx w'→Ctx G (aQ K (aF hs xs) :: Lx) w':=by
  obtain ⟨G2, l2, f2, c2, b2⟩:=aA6 hk (pN.1 (hc.pick hp))
  exact ⟨G2, l2, fun i x hx=>f2 (hs i.toNat, x) (List.mem_of_getElem? (jJ (hs:=hs) (fM hx).2)), c2, fun Lx w' h'=>pN.2 (b2 _ _ h')⟩
end arrays
section stores
variable {P:Program} {ops:Array Oper} {Q:Exit→Act→World→Prop} {rest:List Oper} {a:Act} {w:World} {N:Fm} {F:List (Nat × Value)} {G:aO} {L L':List Ent}
  {ty:TypeId} {pos:String} {aft:Array Edge} {gd:Option (Nat × Bool)} {x y:Operand} {T:TypeId}
theorem aFs {b T0 n:Nat} {cs vs:List Value} {u:Value} (hf:Has N a F) (hc:Ctx G L w) (hg:nL ops F ⟨none, .store T x y, ty, pos, aft, gd⟩=some true) (hx:ev F x=some (.pointer (some ⟨b, 0, none⟩))) (hy:ev F y=some u)
    (hv:u.cells=vs.toArray) (hs:(P.info? T).map (·.size)=some n) (hl:vs.length=n) (h1:mB vs=true) (hl2:cs.length=n) (hu:Upd L (.box b cs T0) (.box b vs T0) L')
    (k:∀ w, Ctx G L' w→wpList P ops Q rest a w):wpList P ops Q (⟨none, .store T x y, ty, pos, aft, gd⟩ :: rest) a w :=
  stSt (cs:=cs) (vs:=vs) hf hc hg hx hy hv (by rw [hs, hl]) h1 (by simp [hl, hl2]) (by rw [splW (by rw [hl, hl2])]; exact hu) k
end stores
section outer
open Go.RowKit
variable {ς:Type}
def aKn {ς:Type} (id jx:Nat) (G:aO) (S:ς→List Ent→Prop) (Lx:List Ent) (o:Rs ς):Exit→Act→World→Prop
  | .normal, _, w=>∃ s L, o=.go s∧S s L∧Ctx G (L++Lx) w
  | .exit i, _, w=>(i=id∧∃ s L, o=.brk s∧S s L∧Ctx G (L++Lx) w) ∨ (i=jx∧∃ s L, o=.ret s∧S s L∧Ctx G (L++Lx) w)
  | _, _, _=>False
def recX {ς:Type} (rec:LoopState→Option Code→Loop) (l D id jx:Nat) (S:ς→List Ent→Prop):Rs ς→List Ent→Prop
  | .go s, L=>∃ M, S s M∧L=.raw l (.loop (rec .ready none)) :: .raw D (.deferred (some [])) :: M
  | .brk s, L=>∃ M, S s M∧L=.raw l (.loop (rec .done (some (.exit id)))) :: .raw D (.deferred (some [])) :: M
  | .ret s, L=>∃ M, S s M∧L=.raw l (.loop (rec .done (some (.exit jx)))) :: .raw D (.deferred (some [])) :: M
theorem aI8 {ς α:Type} {P:Program} {Q:Exit→Act→World→Prop} {id:Nat} {g:Operand} {ps:Array Tmp} {assign body:Code} {a:Act} {w:World} {n:Nat} {ds:List Deferred} {F:List (Nat × Value)} {G:aO} {gf:Nat} {caps:List Value}
    {encs:α→List Value} {C C2 L0 Lf:List Ent} (jx:Nat) (hjx:jx ≠ id) (S:ς→List Ent→Prop) (bodyF:ς→α→Option (Rs ς)) (s0:ς) (sF:Rs ς)
    (hf:Has ⟨n, ds⟩ a F) (hc:Ctx G (C++(L0++Lf)) w) (hg:ev F g=some (.func (.func gf) #[] caps.toArray)) (hen:En P gf) (hps:∀ x, (encs x).length=ps.size) (hpn:ps.toList.all (fun p=>Nat.blt p n)=true)
    (hS:S s0 L0)
    (hit:∀ (l m:Nat) (J:Rs ς→List Ent→Prop) (L Lx:List Ent) (w:World), xJ P G l encs J (rY bodyF)→J (.go s0) L→Ctx G (C++(L++Lx)) w →
      Calls P gf (.func (.yield l) #[] #[] :: caps).toArray w fun e w'=>(∃ v, e=.returned v)∧∃ L', J sF L'∧Ctx G (C2++(L'++Lx)) w')
    (hround:∀ (l m:Nat) (s:ς) (x:α) (o:Rs ς) (L Lr Lb:List Ent) (a:Act) (w:World) (K:Act→World→Prop), S s L→bodyF s x=some o→Has ⟨n, []⟩ a (aCs ps.toList (encs x) F)→Ctx G (L++Lr) w →
      (∀ a w L1, Ctx G (L1++Lr) w→(∀ w', Ctx G (L1++Lb) w'→body.wpIn (Fence.wide.inRound l) m P (aKn id jx G S Lb o) a w')→K a w) →
      assign.wpIn (Fence.wide.inRound l) m P (Exit.then K fun _ _ _=>False) a w)
    (hdone:∀ (D:Nat) (s:ς) (L:List Ent) (a:Act) (w:World), (sF=.go s ∨ sF=.brk s)→S s L→Has ⟨n, pD D :: ds⟩ a F→Ctx G (.raw D (.deferred (some [])) :: (C2++(L++Lf))) w→Q .normal a w)
    (hret:∀ (D:Nat) (s:ς) (L:List Ent) (a:Act) (w:World), sF=.ret s→S s L→Has ⟨n, pD D :: ds⟩ a F→Ctx G (.raw D (.deferred (some [])) :: (C2++(L++Lf))) w→Q (.exit jx) a w) :
    (Code.block id (Code.rangeFunc g ps assign body)).wp P Q a w:=by
  refine wp_block ((wpIn_wide (n:=1)).1 (wpIn_rangeFunc ?_))
  intro fn _
  obtain ⟨rec, hrec⟩:∃ rec:LoopState→Option Code→Loop, rec=fun st pe=>{ state:=st, pending:=pe, fn, tmps:=a.tmps, params:=ps, assign, body, defers:=w.heap.size }:=⟨_, rfl⟩
  have hc0:Ctx G (.raw (w.heap.size + 1) (.loop (rec .ready none)) :: .raw w.heap.size (.deferred (some [])) :: (C++(L0++Lf))) ((w.alloc (.deferred (some []))).alloc (.loop (rec .ready none))):=by
    have h1:=hc.newRaw (.deferred (some []))
    have h2:=h1.newRaw (.loop (rec .ready none))
    rwa [World.size_alloc] at h2
  obtain ⟨W1, hW1⟩:∃ W1, (w.alloc (.deferred (some []))).alloc (.loop (rec .ready none))=W1:=⟨_, rfl⟩
  rw [hW1] at hc0
  have hpush:∀ (C:List Ent) (x y:Ent) (M:List Ent), (x :: y :: (C++(M++Lf))).Perm (C++((x :: y :: M)++Lf)):=fun C x y M=>by
    have:(C++((x :: y :: M)++Lf))=C++([x, y]++(M++Lf)):=rfl
    rw [this]
    exact (List.perm_append_comm_assoc [x, y] C (M++Lf))
  have heval:a.eval g=.func (.func gf) #[] caps.toArray:=hf.ev hg
  refine ⟨w.heap.size + 1, [pD w.heap.size], W1, { target:=.fn (.func gf) caps.toArray, args:=#[.func (.yield (w.heap.size + 1)) #[] #[]] }, W1, gf,
    #[.func (.yield (w.heap.size + 1)) #[] #[]]++caps.toArray, W1, ?_, ?_, fun _ _=>trivial, ?_, by simp [Fence.wide], ?_⟩
  · rw [← hW1, hrec]
    exact run_enterLoop_outer _ _ _ _ _
  · simp only [resolve, heval]
    simp [go_sem]
  · have:=hen (#[.func (.yield (w.heap.size + 1)) #[] #[]]++caps.toArray)
    simp only [invoke, this]
  · have hcall:=hit (w.heap.size + 1) 0 (recX rec (w.heap.size + 1) w.heap.size id jx S) _ Lf _ ?_ ⟨L0, hS, rfl⟩ (hc0.perm (hpush C _ _ L0))
    · have hargs:(#[.func (.yield (w.heap.size + 1)) #[] #[]]++caps.toArray:Array Value)=(.func (.yield (w.heap.size + 1)) #[] #[] :: caps).toArray:=by simp
      rw [hargs]
      refine (callsIn_wide.2 hcall).mono ?_
      rintro e w3 ⟨⟨v, rfl⟩, L', hJ, hc3⟩
      have fin:∀ (st:LoopState) (pe:Option Code) (M:List Ent), st ≠ .busy→Ctx G (C2++((.raw (w.heap.size + 1) (.loop (rec st pe)) :: .raw w.heap.size (.deferred (some [])) :: M)++Lf)) w3 →
          ∃ w4, (Instr.endLoop (w.heap.size + 1)).run P w3=.ok pe w4∧Ctx G (.raw w.heap.size (.deferred (some [])) :: (C2++(M++Lf))) w4:=fun st pe M hst hcM=>by
        have hcM':=hcM.perm (hpush C2 _ _ M).symm
        obtain ⟨hb, hcu⟩:=hcM'.rawUpd (o':=.loop { rec st pe with state:=.exhausted }) List.mem_cons_self .here
        have hst':(rec st pe).state=st:=by rw [hrec]
        have hpe:(rec st pe).pending=pe:=by rw [hrec]
        have:=run_endLoop (P:=P) hb (by rw [hst']; exact hst)
        exact ⟨_, this.trans (congrArg (fun q=>Result.ok q _) hpe), hcu.tail⟩
      have hfm:Has ⟨n, pD w.heap.size :: ds⟩ { a with defers:=[pD w.heap.size]++a.defers } F:=⟨hf.size, by simp [hf.defers], hf.get⟩
      cases sF with
      | go s=>
        obtain ⟨M, hSM, rfl⟩:=hJ
        obtain ⟨w4, hr, hc4⟩:=fin .ready none M (by simp) hc3
        exact ⟨none, w4, hr, hdone _ s M _ _ (.inl rfl) hSM hfm hc4⟩
      | brk s=>
        obtain ⟨M, hSM, rfl⟩:=hJ
        obtain ⟨w4, hr, hc4⟩:=fin .done _ M (by simp) hc3
        exact ⟨_, w4, hr, wpIn_exit (eV (hdone _ s M _ _ (.inr rfl) hSM hfm hc4))⟩
      | ret s=>
        obtain ⟨M, hSM, rfl⟩:=hJ
        obtain ⟨w4, hr, hc4⟩:=fin .done _ M (by simp) hc3
        exact ⟨_, w4, hr, wpIn_exit (aHp (by simpa using hjx) (hret _ s M _ _ rfl hSM hfm hc4))⟩
    · -- a round
      intro m s x r L Lx W hJ hy hcW
      cases s with
      | brk s=>cases hy
      | ret s=>cases hy
      | go s=>
        obtain ⟨M, hSM, rfl⟩:=hJ
        simp only [rY, Option.map_eq_some_iff] at hy
        obtain ⟨o, hbo, rfl⟩:=hy
        have hlW:W.heap[w.heap.size + 1]?=some (.loop (rec .ready none)):=hcW.sat (.raw (w.heap.size + 1) (.loop (rec .ready none))) (by simp)
        have hyr:=run_yield (P:=P) (args:=(encs x).toArray) hlW (by rw [hrec]; simpa using hps x)
        refine ⟨_, _, _, _, hyr, roundIn_of_wpIn trivial ?_⟩
        have hhas:=xS ps.toList (encs x) (F:=F) (n:=n) (fun p hp=>by
          have:=List.all_eq_true.1 hpn p hp
          simpa [Nat.blt_eq] using this) (a:={ a with defers:=[] }) ⟨hf.size, rfl, hf.get⟩
        have hmid:∀ (A B:Ent) (M:List Ent), (A :: B :: M++Lx).Perm (M++A :: B :: Lx):=fun A B M=>by
          have h1:(M++A :: B :: Lx)=M++([A, B]++Lx):=rfl
          have h2:(A :: B :: M++Lx)=[A, B]++(M++Lx):=rfl
          rw [h1, h2]
          exact (List.perm_append_comm_assoc [A, B] M Lx)
        have htm:(ps.zip (encs x).toArray).foldl (fun t p=>t.setIfInBounds p.1 p.2) (rec .ready none).tmps=(ps.toList.zip (encs x)).foldl (fun t p=>t.setIfInBounds p.1 p.2) a.tmps:=by
          rw [hrec, ← Array.foldl_toList]
          simp
        have hgo:=hround (w.heap.size + 1) m s x o M (.raw (w.heap.size + 1) (.loop (rec .ready none)) :: .raw w.heap.size (.deferred (some [])) :: Lx) (.raw (w.heap.size + 1) (.loop { rec .ready none with state:=.busy }) :: .raw w.heap.size (.deferred (some [])) :: Lx) _ W
          (fun a₁ w₁=>∃ w₂, (Instr.beginRound (w.heap.size + 1)).run P w₁=.ok () w₂∧body.wpIn (Fence.wide.inRound (w.heap.size + 1)) m P (roundPost P (w.heap.size + 1) (fun e w'=>e=.returned (.bool o.on)∧∃ L', recX rec (w.heap.size + 1) w.heap.size id jx S o L'∧Ctx G (L'++Lx) w')) a₁ w₂) hSM hbo hhas (hcW.perm (hmid _ _ M)) ?_
        · have hfin:({ tmps:=(ps.zip (encs x).toArray).foldl (fun t p=>t.setIfInBounds p.1 p.2) (rec .ready none).tmps, defers:=[] }:Act)={ tmps:=(ps.toList.zip (encs x)).foldl (fun t p=>t.setIfInBounds p.1 p.2) a.tmps, defers:=[] }:=by rw [htm]
          simp only [hrec] at hfin hgo ⊢
          rw [hfin]
          exact hgo
        · intro a1 w1 L1 hc1 hb
          obtain ⟨hb1, hcu⟩:=(hc1.perm List.perm_middle).rawUpd (o':=.loop { rec .ready none with state:=.busy }) List.mem_cons_self .here
          have hst:(rec .ready none).state=.ready:=by rw [hrec]
          refine ⟨_, run_beginRound hb1 hst, wpIn_mono (hb _ (hcu.perm List.perm_middle.symm)) ?_⟩
          have fin:∀ (jump:Option Code) (w3:World) (M:List Ent), Ctx G (M++.raw (w.heap.size + 1) (.loop { rec .ready none with state:=.busy }) :: .raw w.heap.size (.deferred (some [])) :: Lx) w3 →
              ∃ w4, (Instr.endRound (w.heap.size + 1) jump).run P w3=.ok (.bool jump.isNone) w4∧Ctx G ((.raw (w.heap.size + 1) (.loop (rec (if jump.isNone then .ready else .done) jump)) :: .raw w.heap.size (.deferred (some [])) :: M)++Lx) w4:=fun jump w3 M hc3=>by
            obtain ⟨hb3, hcu3⟩:=(hc3.perm List.perm_middle).rawUpd (o':=.loop (rec (if jump.isNone then .ready else .done) jump)) List.mem_cons_self .here
            have:=run_endRound (P:=P) jump hb3
            refine ⟨w3.putObj (w.heap.size + 1) (.loop (rec (if jump.isNone then .ready else .done) jump)), ?_, ?_⟩
            · rw [this]; simp only [hrec]
            · exact hcu3.perm ((List.perm_middle.symm).trans (hmid _ _ M).symm)
          rintro e a3 w3 hp
          cases e with
          | normal=>
            obtain ⟨s', M', rfl, hS', hc3⟩:=hp
            obtain ⟨w4, hr, hc4⟩:=fin none w3 M' hc3
            exact ⟨_, w4, hr, rfl, _, ⟨M', hS', rfl⟩, hc4⟩
          | exit i=>
            rcases hp with ⟨rfl, s', M', rfl, hS', hc3⟩ | ⟨rfl, s', M', rfl, hS', hc3⟩
            · obtain ⟨w4, hr, hc4⟩:=fin (some (.exit i)) w3 M' hc3
              exact ⟨_, w4, hr, rfl, _, ⟨M', hS', rfl⟩, hc4⟩
            · obtain ⟨w4, hr, hc4⟩:=fin (some (.exit i)) w3 M' hc3
              exact ⟨_, w4, hr, rfl, _, ⟨M', hS', rfl⟩, hc4⟩
          | ret=>exact hp.elim
          | goto t=>exact hp.elim
          | panic ch=>exact hp.elim
          | outgrown=>exact hp.elim

end outer
end Go.Nilo
