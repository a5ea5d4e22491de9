/-
  Groups of entries as one entry; tables: own slices whose elements own a block each. Conditions: what each theorem names.
-/
import Derived.Test.YtbkcdekgmilmcaaGreatNl27
set_option linter.unusedSimpArgs false
set_option linter.unusedVariables false
namespace Go.Nilo
theorem Ctx.sub {G:aT} {L L':List Ent} {w:World} (h:Ctx G L w) (hs:L'.Sublist L):Ctx G L' w :=
  ⟨h.os, h.tape, h.output, h.sz, h.pers, fun e he=>h.sat e (hs.subset he), fun e he=>h.fresh e (hs.subset he), h.sep.sublist hs⟩
theorem aAz {β:Type}:∀ {rs:List β} {i:Nat} {r:β}, rs[i]?=some r→rs.Perm (r :: rs.eraseIdx i)
  | [], _, _, h=>by simp at h
  | a :: rs, 0, r, h=>by
    have e:a=r:=by simpa using h
    subst e; exact List.Perm.refl _
  | a :: rs, i + 1, r, h=>by
    have h':rs[i]?=some r:=by simpa using h
    exact ((aAz h').cons a).trans (List.Perm.swap r a _)
def aIx (es:List Ent):Prop:=es.Pairwise fun e e'=>∀ b, e.own b→¬ e'.own b
def aGt (es:List Ent):Ent:=.grp (fun b=>∃ e ∈ es, e.own b) (fun w=>(∀ e ∈ es, e.sat w)∧aIx es)
theorem zY {es:List Ent} {w:World}:(aGt es).sat w ↔ (∀ e ∈ es, e.sat w)∧aIx es:=by
  constructor
  · intro h; exact h.1
  · intro h
    refine ⟨h, ?_, ?_⟩
    · rintro b ⟨e, he, hb⟩; exact Ent.lt (h.1 e he) hb
    · intro w' hw'
      exact ⟨fun e he=>Ent.stay (h.1 e he) fun b hb=>hw' b ⟨e, he, hb⟩, h.2⟩
theorem nI {G:aT} {es L:List Ent} {w:World}:Ctx G (aGt es :: L) w ↔ Ctx G (es++L) w:=by
  constructor
  · intro h
    obtain ⟨hs1, hs2⟩:=List.pairwise_cons.1 h.sep
    have hg:=zY.1 (h.sat _ List.mem_cons_self)
    refine ⟨h.os, h.tape, h.output, h.sz, h.pers, ?_, ?_, ?_⟩
    · intro e he
      rcases List.mem_append.1 he with he | he
      · exact hg.1 e he
      · exact h.sat e (List.mem_cons_of_mem _ he)
    · intro e he b hb
      rcases List.mem_append.1 he with he | he
      · exact h.fresh _ List.mem_cons_self b ⟨e, he, hb⟩
      · exact h.fresh e (List.mem_cons_of_mem _ he) b hb
    · exact List.pairwise_append.2 ⟨hg.2, hs2, fun e he e' he' b hb=>hs1 e' he' b ⟨e, he, hb⟩⟩
  · intro h
    obtain ⟨p1, p2, p3⟩:=List.pairwise_append.1 h.sep
    refine ⟨h.os, h.tape, h.output, h.sz, h.pers, ?_, ?_, List.pairwise_cons.2 ⟨?_, p2⟩⟩
    · intro e he
      rcases List.mem_cons.1 he with rfl | he
      · exact zY.2 ⟨fun e he=>h.sat e (List.mem_append_left _ he), p1⟩
      · exact h.sat e (List.mem_append_right _ he)
    · intro e he b hb
      rcases List.mem_cons.1 he with rfl | he
      · obtain ⟨e', he', hb'⟩:=hb
        exact h.fresh e' (List.mem_append_left _ he') b hb'
      · exact h.fresh e (List.mem_append_right _ he) b hb
    · rintro e he b ⟨e', he', hb'⟩
      exact p3 e' he' e he b hb'
theorem uZ {G:aT} {es L:List Ent} {w:World} (M:List Ent):Ctx G (M++aGt es :: L) w ↔ Ctx G (M++(es++L)) w:=by
  constructor
  · intro h
    have h1:Ctx G (aGt es :: (M++L)) w:=h.perm List.perm_middle
    have h2:=nI.1 h1
    refine h2.perm ?_
    rw [← List.append_assoc, ← List.append_assoc]
    exact List.perm_append_comm.append_right L
  · intro h
    have h2:Ctx G (es++(M++L)) w:=by
      refine h.perm ?_
      rw [← List.append_assoc, ← List.append_assoc]
      exact List.perm_append_comm.append_right L
    exact (nI.2 h2).perm List.perm_middle.symm
abbrev H2:=Option Addr × Nat
abbrev Hds:=Nat→H2
abbrev aCq:=Nat × Hds
structure Kd (α:Type) where
  val:H2→α→List Value
  ent:H2→α→Ent
  fz:H2→α→aT→Prop
@[reducible] def Kd.v {α:Type} (K:Kd α) (r:H2 × α):List Value:=K.val r.1 r.2
@[reducible] def Kd.e {α:Type} (K:Kd α) (r:H2 × α):Ent:=K.ent r.1 r.2
def aU {α:Type} (hs:Hds):List α→List (H2 × α)
  | []=>[]
  | x :: xs=>(hs 0, x) :: aU (fun j=>hs (j + 1)) xs
def cK {α:Type} (K:Kd α) (rs:List (H2 × α)):Ent:=aGt (rs.map K.e)
def aHm (hs:Hds) (i:Nat) (h:H2):Hds:=fun j=>if j=i then h else hs j
theorem jJ {α:Type}:∀ (hs:Hds) (xss:List α), (aU hs xss).length=xss.length
  | _, []=>rfl
  | hs, _ :: xss=>by simp [aU, jJ _ xss]
theorem qW {α:Type}:∀ {hs:Hds} {xss:List α} {i:Nat} {x:α}, xss[i]?=some x→(aU hs xss)[i]?=some (hs i, x)
  | _, [], _, _, h=>by simp at h
  | hs, a :: xss, 0, x, h=>by
    have e:a=x:=by simpa using h
    subst e; rfl
  | hs, a :: xss, i + 1, x, h=>by
    have:=qW (hs:=fun j=>hs (j + 1)) (xss:=xss) (i:=i) (x:=x) (by simpa using h)
    simpa [aU] using this
theorem oF {α:Type} {hs:Hds} {xss:List α} {i:Int} {x:α} (h:bE xss i=some x):bE (aU hs xss) i=some (hs i.toNat, x):=by
  obtain ⟨h0, h1⟩:=mA h
  have h2:=qW (hs:=hs) h1
  unfold bE
  simp [h0, h2]
theorem aBz {α:Type}:∀ (hs:Hds) (xss:List α) (i:Nat) (h:H2) (x:α), (aU hs xss).set i (h, x)=aU (aHm hs i h) (xss.set i x)
  | _, [], _, _, _=>rfl
  | hs, a :: xss, 0, h, x=>by
    simp [aU, aHm]
  | hs, a :: xss, i + 1, h, x=>by
    have:=aBz (fun j=>hs (j + 1)) xss i h x
    simp only [aU, List.set_cons_succ, this]
    congr 1
    congr 1
    funext j
    simp [aHm]
theorem aF3 {α:Type} (hs:Hds) (xss:List α) (i:Nat) (x:α):(aU hs xss).set i (hs i, x)=aU hs (xss.set i x):=by
  rw [aBz]
  congr 1
  funext j
  simp only [aHm]
  split
  · rename_i e; rw [e]
  · rfl
theorem aHv {α:Type}:∀ (hs hs2:Hds) (xs ys:List α), aU hs xs++aU hs2 ys=aU (fun j=>if j < xs.length then hs j else hs2 (j - xs.length)) (xs++ys)
  | hs, hs2, [], ys=>by simp [aU]
  | hs, hs2, a :: xs, ys=>by
    have:=aHv (fun j=>hs (j + 1)) hs2 xs ys
    simp only [aU, List.cons_append, this, List.length_cons]
    congr 1
    congr 1
    funext j
    by_cases h:j < xs.length
    · simp [h]
    · have:¬ j + 1 < xs.length + 1:=by omega
      simp [h]
theorem aGx {α:Type}:∀ rs:List (H2 × α), ∃ hs, aU hs (rs.map Prod.snd)=rs
  | []=>⟨fun _=>(none, 0), rfl⟩
  | (h, x) :: rs=>by
    obtain ⟨hs, e⟩:=aGx rs
    exact ⟨fun j=>match j with | 0=>h | j + 1=>hs j, by simp only [List.map_cons, aU]; rw [e]⟩
theorem aHk {α:Type} (x:α):∀ n:Nat, List.replicate n ((none, 0), x)=aU (fun _=>(none, 0)) (List.replicate n x)
  | 0=>rfl
  | n + 1=>by simp only [List.replicate_succ, aU, aHk x n]
section tables
variable {α:Type} {K:Kd α} {G:aT} {L:List Ent} {w:World} {hs hs2:Hds} {xs ys:List α} {p:Option Addr} {c eT sz:Nat}
theorem tabS {i:Int} {x:α} (h:lW L (cK K (aU hs xs))) (hx:bE xs i=some x):lW L (K.ent (hs i.toNat) x):=fun G w hc=>
  (zY.1 (h G w hc)).1 _ (List.mem_map_of_mem (f:=K.e) (List.mem_of_getElem? (qW (hs:=hs) (mA hx).2)))
theorem aNo {rs:List (H2 × α)} {i:Nat} {r:H2 × α} (hc:Ctx G (cK K rs :: L) w) (h:rs[i]?=some r):Ctx G (K.e r :: cK K (rs.eraseIdx i) :: L) w:=by
  have h1:=nI.1 hc
  have h2:(rs.map K.e++L).Perm ([K.e r]++((rs.eraseIdx i).map K.e++L)):=((aAz h).map K.e).append_right L
  exact (uZ [K.e r]).2 (h1.perm h2)
theorem aKx {rs:List (H2 × α)} {i:Nat} {r:H2 × α} (hi:i < rs.length) (hc:Ctx G (K.e r :: cK K (rs.eraseIdx i) :: L) w):Ctx G (cK K (rs.set i r) :: L) w:=by
  have h1:=(uZ [K.e r]).1 hc
  have h2:((rs.set i r).map K.e++L).Perm ([K.e r]++((rs.eraseIdx i).map K.e++L)):=by
    have:=((aAz (rs:=rs.set i r) (i:=i) (r:=r) (by simp [hi])).map K.e).append_right L
    rwa [List.eraseIdx_set_eq] at this
  exact nI.2 (h1.perm h2.symm)
theorem aDt {i:Int} {x:α} (hc:Ctx G (cK K (aU hs xs) :: L) w) (hx:bE xs i=some x):Ctx G (K.ent (hs i.toNat) x :: cK K ((aU hs xs).eraseIdx i.toNat) :: L) w :=
  aNo hc (qW (hs:=hs) (mA hx).2)
theorem aRk {i:Int} {h':H2} {x y:α} (hx:bE xs i=some x) (hc:Ctx G (K.ent h' y :: cK K ((aU hs xs).eraseIdx i.toNat) :: L) w) :
    Ctx G (cK K (aU (aHm hs i.toNat h') (xs.set i.toNat y)) :: L) w:=by
  have hi:i.toNat < (aU hs xs).length:=(List.getElem?_eq_some_iff.1 (qW (hs:=hs) (mA hx).2)).1
  have h:=aKx (r:=(h', y)) hi hc
  rwa [aBz] at h
theorem aFq {i:Int} {h':H2} {x y:α} (hx:bE xs i=some x) (hc:Ctx G (K.ent h' y :: .row p c (((aU hs xs).set i.toNat (h', y)).map K.v) eT sz :: cK K ((aU hs xs).eraseIdx i.toNat) :: L) w) :
    ∃ hs':Hds, Ctx G (.row p c ((aU hs' (xs.set i.toNat y)).map K.v) eT sz :: cK K (aU hs' (xs.set i.toNat y)) :: L) w:=by
  refine ⟨aHm hs i.toNat h', ?_⟩
  rw [aBz] at hc
  have h0:Ctx G (.row p c ((aU (aHm hs i.toNat h') (xs.set i.toNat y)).map K.v) eT sz :: K.ent h' y :: cK K ((aU hs xs).eraseIdx i.toNat) :: L) w:=hc.perm (.swap _ _ _)
  have h1:Ctx G (K.ent h' y :: cK K ((aU hs xs).eraseIdx i.toNat) :: (.row p c ((aU (aHm hs i.toNat h') (xs.set i.toNat y)).map K.v) eT sz :: L)) w :=
    h0.perm ((List.Perm.swap _ _ _).trans ((List.Perm.swap _ _ _).cons _))
  exact (aRk hx h1).perm (.swap _ _ _)
theorem aH4 {i:Int} {x y:α} (hx:bE xs i=some x) (hv:K.val (hs i.toNat) x=K.val (hs i.toNat) y)
    (hc:Ctx G (K.ent (hs i.toNat) y :: .row p c ((aU hs xs).map K.v) eT sz :: cK K ((aU hs xs).eraseIdx i.toNat) :: L) w) :
    Ctx G (.row p c ((aU hs (xs.set i.toNat y)).map K.v) eT sz :: cK K (aU hs (xs.set i.toNat y)) :: L) w:=by
  have e1:(aU hs xs).map K.v=(aU hs (xs.set i.toNat y)).map K.v:=by
    rw [← aF3, List.map_set]
    refine (List.ext_getElem? fun j=>?_)
    by_cases hj:j=i.toNat
    · subst hj
      have:=qW (hs:=hs) (mA hx).2
      rw [List.getElem?_set_self (by simpa using (List.getElem?_eq_some_iff.1 this).1), List.getElem?_map, this]
      simp [hv]
    · rw [List.getElem?_set_ne (Ne.symm hj)]
  rw [e1] at hc
  have h1:Ctx G (K.ent (hs i.toNat) y :: cK K ((aU hs xs).eraseIdx i.toNat) :: (.row p c ((aU hs (xs.set i.toNat y)).map K.v) eT sz :: L)) w:=hc.perm ((List.Perm.swap _ _ _).cons _)
  have hi:i.toNat < (aU hs xs).length:=(List.getElem?_eq_some_iff.1 (qW (hs:=hs) (mA hx).2)).1
  have h2:=aKx (r:=(hs i.toNat, y)) hi h1
  rw [aF3] at h2
  exact h2.perm (.swap _ _ _)
theorem aNc (hc:Ctx G (.row p c ((aU hs xs++aU hs2 ys).map K.v) eT sz :: cK K (aU hs xs) :: cK K (aU hs2 ys) :: L) w) :
    ∃ hs':Hds, Ctx G (.row p c ((aU hs' (xs++ys)).map K.v) eT sz :: cK K (aU hs' (xs++ys)) :: L) w:=by
  have e:=aHv hs hs2 xs ys
  refine ⟨fun j=>if j < xs.length then hs j else hs2 (j - xs.length), ?_⟩
  rw [← e]
  have h1:=(uZ [.row p c ((aU hs xs++aU hs2 ys).map K.v) eT sz, cK K (aU hs xs)]).1 hc
  have h2:=(uZ (es:=(aU hs xs).map K.e) [.row p c ((aU hs xs++aU hs2 ys).map K.v) eT sz]).1 h1
  refine (uZ (es:=(aU hs xs++aU hs2 ys).map K.e) [.row p c ((aU hs xs++aU hs2 ys).map K.v) eT sz]).2 ?_
  rw [List.map_append (f:=K.e), List.append_assoc]
  exact h2
theorem aJd (rs:List (H2 × α)) (hc:Ctx G (.row p c (rs.map K.v) eT sz :: (rs.map K.e++L)) w) :
    ∃ hs':Hds, Ctx G (.row p c ((aU hs' (rs.map Prod.snd)).map K.v) eT sz :: cK K (aU hs' (rs.map Prod.snd)) :: L) w:=by
  obtain ⟨hs', e⟩:=aGx rs
  refine ⟨hs', ?_⟩
  rw [e]
  exact (uZ [.row p c (rs.map K.v) eT sz]).2 hc
theorem aCj (rs:List (H2 × α)) (hc:Ctx G (.row p c ((aU hs xs++rs).map K.v) eT sz :: cK K (aU hs xs) :: (rs.map K.e++L)) w) :
    ∃ hs':Hds, Ctx G (.row p c ((aU hs' (xs++rs.map Prod.snd)).map K.v) eT sz :: cK K (aU hs' (xs++rs.map Prod.snd)) :: L) w:=by
  obtain ⟨hs2, e⟩:=aGx rs
  refine aNc (hs:=hs) (hs2:=hs2) ?_
  rw [e]
  exact (uZ [.row p c ((aU hs xs++rs).map K.v) eT sz, cK K (aU hs xs)]).2 hc
theorem aG7 (hc:Ctx G L w):Ctx G (cK K (aU hs ([]:List α)) :: L) w:=nI.2 hc
theorem aL1 {x:α} (h0:∀ L, Ctx G L w→Ctx G (K.ent (none, 0) x :: L) w) (n:Nat) (hc:Ctx G (.row p c ((List.replicate n ((none, 0), x)).map K.v) eT sz :: L) w) :
    ∃ hs':Hds, Ctx G (.row p c ((aU hs' (List.replicate n x)).map K.v) eT sz :: cK K (aU hs' (List.replicate n x)) :: L) w:=by
  refine ⟨fun _=>(none, 0), ?_⟩
  rw [← aHk]
  refine (uZ [.row p c ((List.replicate n ((none, 0), x)).map K.v) eT sz]).2 ?_
  have:∀ m, Ctx G ((List.replicate m ((none, 0), x)).map K.e++(.row p c ((List.replicate n ((none, 0), x)).map K.v) eT sz :: L)) w:=by
    intro m
    induction m with
    | zero=>exact hc
    | succ m ih=>rw [List.replicate_succ]; exact h0 _ ih
  refine (this n).perm ?_
  exact List.perm_middle
structure aAh (K:Kd α):Prop where
  mono:∀ {h x G G'}, aT.le G G'→K.fz h x G→K.fz h x G'
  lend:∀ {h x G L w}, Ctx G (K.ent h x :: L) w→∃ G', G.le G'∧K.fz h x G'∧Ctx G' L w∧∀ Lx w', Ctx G' Lx w'→Ctx G (K.ent h x :: Lx) w'
def RdT (K:Kd α) (G:aT) (sz:Nat) (p:Option Addr) (cap:Nat) (xs:List α):Prop:=aAh K∧∃ hs:Hds, Rd G sz p cap ((aU hs xs).map K.v)∧∀ i x, xs[i]?=some x→K.fz (hs i) x G
theorem RdT.mono {G G':aT} (h:RdT K G sz p c xs) (hle:G.le G'):RdT K G' sz p c xs:=by
  obtain ⟨hk, hs, h1, h2⟩:=h
  exact ⟨hk, hs, h1.mono hle, fun i x hx=>hk.mono hle (h2 i x hx)⟩
theorem RdT.nil (hk:aAh K) {G:aT} (sz:Nat) (p:Option Addr) {cap:Nat} (h:cap≤maxLen:=by decide):RdT K G sz p cap []:=⟨hk, fun _=>(none, 0), Rd.nil sz p h, fun i x hx=>by simp at hx⟩
theorem RdT.atm (h:RdT K G sz p c xs) {i:Int} {x:α} (hx:bE xs i=some x):∃ b o hd, At p xs.length sz i b o∧PC G b o (K.val hd x)∧K.fz hd x G:=by
  obtain ⟨-, hs, h1, h2⟩:=h
  obtain ⟨b, o, h3, h4⟩:=h1.atm (enc:=K.v) (oF (hs:=hs) hx)
  rw [jJ] at h3
  exact ⟨b, o, hs i.toNat, h3, h4, h2 _ _ (mA hx).2⟩
theorem RdT.cap (h:RdT K G sz p c xs):xs.length≤c:=by
  obtain ⟨-, hs, h1, -⟩:=h
  have:=h1.1
  simpa [jJ] using this
theorem aE4 (hk:aAh K):∀ {rs:List (H2 × α)} {G:aT} {L:List Ent}, Ctx G (rs.map K.e++L) w→∃ G', G.le G'∧(∀ r ∈ rs, K.fz r.1 r.2 G')∧Ctx G' L w∧∀ Lx w', Ctx G' Lx w'→Ctx G (rs.map K.e++Lx) w'
  | [], G, L, h=>⟨G, aT.le_refl G, by simp, h, fun _ _ h=>h⟩
  | r :: rs, G, L, h=>by
    obtain ⟨G1, l1, f1, c1, b1⟩:=hk.lend (h:=r.1) (x:=r.2) h
    obtain ⟨G2, l2, f2, c2, b2⟩:=aE4 hk c1
    refine ⟨G2, aT.le_trans l1 l2, ?_, c2, fun Lx w' h'=>b1 _ _ (b2 _ _ h')⟩
    intro r' hr'
    rcases List.mem_cons.1 hr' with rfl | hr'
    · exact hk.mono l2 f1
    · exact f2 r' hr'
theorem zH (hk:aAh K) {L1 L2:List Ent} (hc:Ctx G L w) (hp:rQ L (.row p c ((aU hs xs).map K.v) eT sz) L1) (hq:rQ L1 (cK K (aU hs xs)) L2) :
    ∃ G', G.le G'∧RdT K G' sz p c xs∧Ctx G' L2 w∧∀ Lx w', Ctx G' Lx w'→Ctx G (.row p c ((aU hs xs).map K.v) eT sz :: cK K (aU hs xs) :: Lx) w':=by
  have h1:Ctx G (.row p c ((aU hs xs).map K.v) eT sz :: cK K (aU hs xs) :: L2) w:=(hc.pick hp).perm (hq.perm.cons _)
  obtain ⟨G1, l1, r1, c1, b1⟩:=lend h1 k0
  obtain ⟨G2, l2, f2, c2, b2⟩:=aE4 hk (nI.1 c1)
  refine ⟨G2, aT.le_trans l1 l2, ⟨hk, hs, r1.mono l2, fun i x hx=>f2 (hs i, x) (List.mem_of_getElem? (qW (hs:=hs) hx))⟩, c2, fun Lx w' h'=>?_⟩
  have h3:=b1 _ _ (nI.2 (b2 _ _ h'))
  exact h3
end tables
def kL {β:Type} (enc:β→List Value) (T sz:Nat):Kd (List β) :=
  ⟨fun h xs=>[.slice h.1 xs.length h.2], fun h xs=>.row h.1 h.2 (xs.map enc) T sz, fun h xs G=>Rd G sz h.1 h.2 (xs.map enc)⟩
theorem aKu {β:Type} (enc:β→List Value) (T sz:Nat):aAh (kL enc T sz) :=
  ⟨fun hle h=>Rd.mono h hle, fun hc=>by
    obtain ⟨G', h1, h2, h3, h4⟩:=Go.Nilo.lend hc k0
    exact ⟨G', h1, h2, h3, fun Lx w' h'=>h4 Lx w' h'⟩⟩
def Kd.comp {α β:Type} (K:Kd β) (f:α→β) (v:H2→α→List Value):Kd α:=⟨v, fun h x=>K.ent h (f x), fun h x=>K.fz h (f x)⟩
theorem aAh.comp {α β:Type} {K:Kd β} (hk:aAh K) (f:α→β) (v:H2→α→List Value):aAh (K.comp f v):=⟨fun hle h=>hk.mono hle h, fun hc=>hk.lend hc⟩
def kM {ν:Type} (enc:ν→Value):Kd (Option (List (Int × ν))) :=
  ⟨fun h m=>match m with | none=>[.map none] | some _=>[.map (some h.2)],
   fun h m=>match m with | none=>.row none 0 [] 0 0 | some m=>.gm h.2 (ALq enc m), fun _ _ _=>False⟩
theorem aQv {ν:Type} (enc:ν→Value):∀ r, ((kM enc).v r).length=1∧oQ ((kM enc).v r)=true
  | (_, none)=>⟨rfl, rfl⟩
  | (_, some _)=>⟨rfl, rfl⟩
def getM {α:Type} (xs:List (Option α)) (i:Int):Option α:=Option.bind (bE xs i) id
theorem vZ {α:Type} {xs:List (Option α)} {i:Int} {m:α} (h:getM xs i=some m):bE xs i=some (some m):=by
  obtain ⟨x, h1, h2⟩:=Option.bind_eq_some_iff.1 h
  rw [h1, show x=some m from h2]
theorem zO {α:Type} {xs:List (Option α)} {i:Int} {v:Option α} {m:α} (h:bE xs i=some v) (hm:v=some m):getM xs i=some m:=by
  subst hm
  simp [getM, h]
theorem aO6 {ν:Type} {enc:ν→Value} {L:List Ent} {hs:Hds} {xs:List (Option (List (Int × ν)))} {i:Int} {m:List (Int × ν)} (h:lW L (cK (kM enc) (aU hs xs))) (hx:getM xs i=some m):lW L (.gm (hs i.toNat).2 (ALq enc m)):=tabS h (vZ hx)
def noH (_:Nat):Hds:=fun _=>(none, 0)
theorem inR2 {y z M:Int} {n m:Nat} {u v:Unit} (hy:inR y n=some u) (hz:inR z m=some v) (hM:M=(m:Int)):inR (y * M + z) (n * m)=some ():=by
  subst hM
  obtain ⟨h1, h2⟩:=cF hy
  obtain ⟨h3, h4⟩:=cF hz
  unfold inR
  rw [if_pos]
  have h5:y + 1≤(n:Int):=by omega
  have h6:(y + 1) * (m:Int)≤(n:Int) * m:=Int.mul_le_mul_of_nonneg_right h5 (by omega)
  have h7:0≤y * (m:Int):=Int.mul_nonneg h1 (by omega)
  rw [Int.add_mul, Int.one_mul] at h6
  refine ⟨by omega, ?_⟩
  push_cast
  omega
theorem aBk {y z M:Int} {n m:Nat} {u v:Unit} (o:Nat) (hy:inR y n=some u) (hz:inR z m=some v) (hM:M=(m:Int)):o + y.toNat * m + z.toNat * 1=o + (y * M + z).toNat * 1:=by
  subst hM
  obtain ⟨h1, -⟩:=cF hy
  obtain ⟨h3, -⟩:=cF hz
  have h7:0≤y * (m:Int):=Int.mul_nonneg h1 (by omega)
  have e:(y * (m:Int) + z).toNat=y.toNat * m + z.toNat:=by
    obtain ⟨a, rfl⟩:=Int.eq_ofNat_of_zero_le h1
    obtain ⟨b, rfl⟩:=Int.eq_ofNat_of_zero_le h3
    have:((a:Int) * (m:Int) + (b:Int))=((a * m + b:Nat):Int):=by push_cast; rfl
    rw [this, Int.toNat_natCast, Int.toNat_natCast, Int.toNat_natCast]
  rw [e]; omega
theorem Pu.cast {P:Program} {o:Oper} {F:List (Nat × Value)} {v v':Value} (h:Pu P o F v) (e:v=v'):Pu P o F v':=e ▸ h
theorem pc_of {G:aT} {b T:Nat} {cs:List Value} (h:G.blk b=some (.cells cs.toArray T (0, 0))):PC G b 0 cs:=⟨_, _, _, h, fun j u hu=>by simpa using hu⟩
theorem aEl {α:Type} {G:aT} {L:List Ent} {b o k n sz j:Nat} {i:Int} {enc:α→List Value} {f:Nat→α} {pre post:List Value} {u:Value} {un:Unit} (h:PC G b o (pre++(arr n enc f++post))) (hz:∀ x, (enc x).length=sz) (ho:pre.length=k) (hi:inR i n=some un) (hu:(enc (f i.toNat))[j]?=some u) :
    tC G L ⟨b, o + k + i.toNat * sz + j, none⟩ u:=by
  obtain ⟨h0, h1⟩:=cF hi
  have hj:j < sz:=by rw [← hz (f i.toNat)]; exact (List.getElem?_eq_some_iff.1 hu).1
  have hin:i.toNat < n:=by omega
  have h2:(pre++(arr n enc f++post))[k + i.toNat * sz + j]?=some u:=by
    rw [List.getElem?_append_right (by omega), List.getElem?_append_left (by
      rw [qT hz]
      have:(i.toNat + 1) * sz≤n * sz:=Nat.mul_le_mul_right _ (by omega)
      rw [Nat.succ_mul] at this
      omega)]
    have:k + i.toNat * sz + j - pre.length=i.toNat * sz + j:=by omega
    rw [this, aGf hz f hj n hin]
    exact hu
  have:=dI (L:=L) h h2
  rwa [show o + (k + i.toNat * sz + j)=o + k + i.toNat * sz + j by omega] at this
section arrays
variable {α:Type} {K:Kd α} {G:aT} {L L':List Ent} {w:World} {hs:Hds} {xs:List α} {sz n:Nat}
theorem lendI (hk:aAh K) (hc:Ctx G L w) (hp:rQ L (cK K (aU hs xs)) L') :
    ∃ G', G.le G'∧(∀ i x, bE xs i=some x→K.fz (hs i.toNat) x G')∧Ctx G' L' w∧∀ Lx w', Ctx G' Lx w'→Ctx G (cK K (aU hs xs) :: Lx) w':=by
  obtain ⟨G2, l2, f2, c2, b2⟩:=aE4 hk (nI.1 (hc.pick hp))
  exact ⟨G2, l2, fun i x hx=>f2 (hs i.toNat, x) (List.mem_of_getElem? (qW (hs:=hs) (mA hx).2)), c2, fun Lx w' h'=>nI.2 (b2 _ _ h')⟩
end arrays
section stores
variable {P:Program} {ops:Array Oper} {Q:Exit→Act→World→Prop} {rest:List Oper} {a:Act} {w:World} {N:Fm} {F:List (Nat × Value)} {G:aT} {L L':List Ent}
  {ty:TypeId} {pos:String} {aft:Array Edge} {gd:Option (Nat × Bool)} {x y:Operand} {T:TypeId}
end stores
section outer
open Go.RowKit
variable {ς:Type}
end outer
end Go.Nilo
