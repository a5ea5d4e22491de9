/-
  Groups of entries as one entry; tables: own slices whose elements own a block each. Conditions: what each theorem names.
-/
import Derived.Test.YtakhbnnlhoninaeGreatNl27
set_option linter.unusedSimpArgs false
set_option linter.unusedVariables false
namespace Go.Nilo
theorem Ctx.sub {G : Pers} {L L' : List Ent} {w : World} (h : Ctx G L w) (hs : L'.Sublist L) : Ctx G L' w :=
  ⟨h.os, h.tape, h.output, h.sz, h.pers, fun e he => h.sat e (hs.subset he), fun e he => h.fresh e (hs.subset he), h.sep.sublist hs⟩
theorem erase_perm {β : Type} : ∀ {rs : List β} {i : Nat} {r : β}, rs[i]? = some r → rs.Perm (r :: rs.eraseIdx i)
  | [], _, _, h => by simp at h
  | a :: rs, 0, r, h => by
    have e : a = r := by simpa using h
    subst e; exact List.Perm.refl _
  | a :: rs, i + 1, r, h => by
    have h' : rs[i]? = some r := by simpa using h
    exact ((erase_perm h').cons a).trans (List.Perm.swap r a _)
def apartE (es : List Ent) : Prop := es.Pairwise fun e e' => ∀ b, e.own b → ¬ e'.own b
def grpE (es : List Ent) : Ent := .grp (fun b => ∃ e ∈ es, e.own b) (fun w => (∀ e ∈ es, e.sat w) ∧ apartE es)
theorem grp_sat {es : List Ent} {w : World} : (grpE es).sat w ↔ (∀ e ∈ es, e.sat w) ∧ apartE es := by
  constructor
  · intro h; exact h.1
  · intro h
    refine ⟨h, ?_, ?_⟩
    · rintro b ⟨e, he, hb⟩; exact Ent.lt (h.1 e he) hb
    · intro w' hw'
      exact ⟨fun e he => Ent.stay (h.1 e he) fun b hb => hw' b ⟨e, he, hb⟩, h.2⟩
theorem grp_iff {G : Pers} {es L : List Ent} {w : World} : Ctx G (grpE es :: L) w ↔ Ctx G (es ++ L) w := by
  constructor
  · intro h
    obtain ⟨hs1, hs2⟩ := List.pairwise_cons.1 h.sep
    have hg := grp_sat.1 (h.sat _ List.mem_cons_self)
    refine ⟨h.os, h.tape, h.output, h.sz, h.pers, ?_, ?_, ?_⟩
    · intro e he
      rcases List.mem_append.1 he with he | he
      · exact hg.1 e he
      · exact h.sat e (List.mem_cons_of_mem _ he)
    · intro e he b hb
      rcases List.mem_append.1 he with he | he
      · exact h.fresh _ List.mem_cons_self b ⟨e, he, hb⟩
      · exact h.fresh e (List.mem_cons_of_mem _ he) b hb
    · exact List.pairwise_append.2 ⟨hg.2, hs2, fun e he e' he' b hb => hs1 e' he' b ⟨e, he, hb⟩⟩
  · intro h
    obtain ⟨p1, p2, p3⟩ := List.pairwise_append.1 h.sep
    refine ⟨h.os, h.tape, h.output, h.sz, h.pers, ?_, ?_, List.pairwise_cons.2 ⟨?_, p2⟩⟩
    · intro e he
      rcases List.mem_cons.1 he with rfl | he
      · exact grp_sat.2 ⟨fun e he => h.sat e (List.mem_append_left _ he), p1⟩
      · exact h.sat e (List.mem_append_right _ he)
    · intro e he b hb
      rcases List.mem_cons.1 he with rfl | he
      · obtain ⟨e', he', hb'⟩ := hb
        exact h.fresh e' (List.mem_append_left _ he') b hb'
      · exact h.fresh e (List.mem_append_right _ he) b hb
    · rintro e he b ⟨e', he', hb'⟩
      exact p3 e' he' e he b hb'
theorem grp_mid {G : Pers} {es L : List Ent} {w : World} (M : List Ent) : Ctx G (M ++ grpE es :: L) w ↔ Ctx G (M ++ (es ++ L)) w := by
  constructor
  · intro h
    have h1 : Ctx G (grpE es :: (M ++ L)) w := h.perm List.perm_middle
    have h2 := grp_iff.1 h1
    refine h2.perm ?_
    rw [← List.append_assoc, ← List.append_assoc]
    exact List.perm_append_comm.append_right L
  · intro h
    have h2 : Ctx G (es ++ (M ++ L)) w := by
      refine h.perm ?_
      rw [← List.append_assoc, ← List.append_assoc]
      exact List.perm_append_comm.append_right L
    exact (grp_iff.2 h2).perm List.perm_middle.symm
abbrev H2 := Option Addr × Nat
abbrev Hds := Nat → H2
abbrev TabH := Nat × Hds
structure Kd (α : Type) where
  val : H2 → α → List Value
  ent : H2 → α → Ent
  fz : H2 → α → Pers → Prop
@[reducible] def Kd.v {α : Type} (K : Kd α) (r : H2 × α) : List Value := K.val r.1 r.2
@[reducible] def Kd.e {α : Type} (K : Kd α) (r : H2 × α) : Ent := K.ent r.1 r.2
def tabR {α : Type} (hs : Hds) : List α → List (H2 × α)
  | [] => []
  | x :: xs => (hs 0, x) :: tabR (fun j => hs (j + 1)) xs
def tabI {α : Type} (K : Kd α) (rs : List (H2 × α)) : Ent := grpE (rs.map K.e)
def updH (hs : Hds) (i : Nat) (h : H2) : Hds := fun j => if j = i then h else hs j
theorem tabR_len {α : Type} : ∀ (hs : Hds) (xss : List α), (tabR hs xss).length = xss.length
  | _, [] => rfl
  | hs, _ :: xss => by simp [tabR, tabR_len _ xss]
theorem tabR_get {α : Type} : ∀ {hs : Hds} {xss : List α} {i : Nat} {x : α}, xss[i]? = some x → (tabR hs xss)[i]? = some (hs i, x)
  | _, [], _, _, h => by simp at h
  | hs, a :: xss, 0, x, h => by
    have e : a = x := by simpa using h
    subst e; rfl
  | hs, a :: xss, i + 1, x, h => by
    have := tabR_get (hs := fun j => hs (j + 1)) (xss := xss) (i := i) (x := x) (by simpa using h)
    simpa [tabR] using this
theorem tabR_getI {α : Type} {hs : Hds} {xss : List α} {i : Int} {x : α} (h : getI xss i = some x) : getI (tabR hs xss) i = some (hs i.toNat, x) := by
  obtain ⟨h0, h1⟩ := getI_spec h
  have h2 := tabR_get (hs := hs) h1
  unfold getI
  simp [h0, h2]
theorem tabR_set {α : Type} : ∀ (hs : Hds) (xss : List α) (i : Nat) (h : H2) (x : α), (tabR hs xss).set i (h, x) = tabR (updH hs i h) (xss.set i x)
  | _, [], _, _, _ => rfl
  | hs, a :: xss, 0, h, x => by
    simp [tabR, updH]
  | hs, a :: xss, i + 1, h, x => by
    have := tabR_set (fun j => hs (j + 1)) xss i h x
    simp only [tabR, List.set_cons_succ, this]
    congr 1
    congr 1
    funext j
    simp [updH]
theorem tabR_same {α : Type} (hs : Hds) (xss : List α) (i : Nat) (x : α) : (tabR hs xss).set i (hs i, x) = tabR hs (xss.set i x) := by
  rw [tabR_set]
  congr 1
  funext j
  simp only [updH]
  split
  · rename_i e; rw [e]
  · rfl
theorem tabR_of {α : Type} : ∀ rs : List (H2 × α), ∃ hs, tabR hs (rs.map Prod.snd) = rs
  | [] => ⟨fun _ => (none, 0), rfl⟩
  | (h, x) :: rs => by
    obtain ⟨hs, e⟩ := tabR_of rs
    exact ⟨fun j => match j with | 0 => h | j + 1 => hs j, by simp only [List.map_cons, tabR]; rw [e]⟩
theorem tabR_new {α : Type} (x : α) : ∀ n : Nat, List.replicate n ((none, 0), x) = tabR (fun _ => (none, 0)) (List.replicate n x)
  | 0 => rfl
  | n + 1 => by simp only [List.replicate_succ, tabR, tabR_new x n]
section tables
variable {α : Type} {K : Kd α} {G : Pers} {L : List Ent} {w : World} {hs hs2 : Hds} {xs ys : List α} {p : Option Addr} {c eT sz : Nat}
theorem tabS {i : Int} {x : α} (h : Sees L (tabI K (tabR hs xs))) (hx : getI xs i = some x) : Sees L (K.ent (hs i.toNat) x) := fun G w hc =>
  (grp_sat.1 (h G w hc)).1 _ (List.mem_map_of_mem (f := K.e) (List.mem_of_getElem? (tabR_get (hs := hs) (getI_spec hx).2)))
theorem tab_take {rs : List (H2 × α)} {i : Nat} {r : H2 × α} (hc : Ctx G (tabI K rs :: L) w) (h : rs[i]? = some r) : Ctx G (K.e r :: tabI K (rs.eraseIdx i) :: L) w := by
  have h1 := grp_iff.1 hc
  have h2 : (rs.map K.e ++ L).Perm ([K.e r] ++ ((rs.eraseIdx i).map K.e ++ L)) := ((erase_perm h).map K.e).append_right L
  exact (grp_mid [K.e r]).2 (h1.perm h2)
theorem tab_put {rs : List (H2 × α)} {i : Nat} {r : H2 × α} (hi : i < rs.length) (hc : Ctx G (K.e r :: tabI K (rs.eraseIdx i) :: L) w) : Ctx G (tabI K (rs.set i r) :: L) w := by
  have h1 := (grp_mid [K.e r]).1 hc
  have h2 : ((rs.set i r).map K.e ++ L).Perm ([K.e r] ++ ((rs.eraseIdx i).map K.e ++ L)) := by
    have := ((erase_perm (rs := rs.set i r) (i := i) (r := r) (by simp [hi])).map K.e).append_right L
    rwa [List.eraseIdx_set_eq] at this
  exact grp_iff.2 (h1.perm h2.symm)
theorem tab_out {i : Int} {x : α} (hc : Ctx G (tabI K (tabR hs xs) :: L) w) (hx : getI xs i = some x) : Ctx G (K.ent (hs i.toNat) x :: tabI K ((tabR hs xs).eraseIdx i.toNat) :: L) w :=
  tab_take hc (tabR_get (hs := hs) (getI_spec hx).2)
theorem tab_in {i : Int} {h' : H2} {x y : α} (hx : getI xs i = some x) (hc : Ctx G (K.ent h' y :: tabI K ((tabR hs xs).eraseIdx i.toNat) :: L) w) :
    Ctx G (tabI K (tabR (updH hs i.toNat h') (xs.set i.toNat y)) :: L) w := by
  have hi : i.toNat < (tabR hs xs).length := (List.getElem?_eq_some_iff.1 (tabR_get (hs := hs) (getI_spec hx).2)).1
  have h := tab_put (r := (h', y)) hi hc
  rwa [tabR_set] at h
theorem tab_store {i : Int} {h' : H2} {x y : α} (hx : getI xs i = some x) (hc : Ctx G (K.ent h' y :: .row p c (((tabR hs xs).set i.toNat (h', y)).map K.v) eT sz :: tabI K ((tabR hs xs).eraseIdx i.toNat) :: L) w) :
    ∃ hs' : Hds, Ctx G (.row p c ((tabR hs' (xs.set i.toNat y)).map K.v) eT sz :: tabI K (tabR hs' (xs.set i.toNat y)) :: L) w := by
  refine ⟨updH hs i.toNat h', ?_⟩
  rw [tabR_set] at hc
  have h0 : Ctx G (.row p c ((tabR (updH hs i.toNat h') (xs.set i.toNat y)).map K.v) eT sz :: K.ent h' y :: tabI K ((tabR hs xs).eraseIdx i.toNat) :: L) w := hc.perm (.swap _ _ _)
  have h1 : Ctx G (K.ent h' y :: tabI K ((tabR hs xs).eraseIdx i.toNat) :: (.row p c ((tabR (updH hs i.toNat h') (xs.set i.toNat y)).map K.v) eT sz :: L)) w :=
    h0.perm ((List.Perm.swap _ _ _).trans ((List.Perm.swap _ _ _).cons _))
  exact (tab_in hx h1).perm (.swap _ _ _)
theorem tab_same {i : Int} {x y : α} (hx : getI xs i = some x) (hv : K.val (hs i.toNat) x = K.val (hs i.toNat) y)
    (hc : Ctx G (K.ent (hs i.toNat) y :: .row p c ((tabR hs xs).map K.v) eT sz :: tabI K ((tabR hs xs).eraseIdx i.toNat) :: L) w) :
    Ctx G (.row p c ((tabR hs (xs.set i.toNat y)).map K.v) eT sz :: tabI K (tabR hs (xs.set i.toNat y)) :: L) w := by
  have e1 : (tabR hs xs).map K.v = (tabR hs (xs.set i.toNat y)).map K.v := by
    rw [← tabR_same, List.map_set]
    refine (List.ext_getElem? fun j => ?_)
    by_cases hj : j = i.toNat
    · subst hj
      have := tabR_get (hs := hs) (getI_spec hx).2
      rw [List.getElem?_set_self (by simpa using (List.getElem?_eq_some_iff.1 this).1), List.getElem?_map, this]
      simp [hv]
    · rw [List.getElem?_set_ne (Ne.symm hj)]
  rw [e1] at hc
  have h1 : Ctx G (K.ent (hs i.toNat) y :: tabI K ((tabR hs xs).eraseIdx i.toNat) :: (.row p c ((tabR hs (xs.set i.toNat y)).map K.v) eT sz :: L)) w := hc.perm ((List.Perm.swap _ _ _).cons _)
  have hi : i.toNat < (tabR hs xs).length := (List.getElem?_eq_some_iff.1 (tabR_get (hs := hs) (getI_spec hx).2)).1
  have h2 := tab_put (r := (hs i.toNat, y)) hi h1
  rw [tabR_same] at h2
  exact h2.perm (.swap _ _ _)
theorem tab_mk (rs : List (H2 × α)) (hc : Ctx G (.row p c (rs.map K.v) eT sz :: (rs.map K.e ++ L)) w) :
    ∃ hs' : Hds, Ctx G (.row p c ((tabR hs' (rs.map Prod.snd)).map K.v) eT sz :: tabI K (tabR hs' (rs.map Prod.snd)) :: L) w := by
  obtain ⟨hs', e⟩ := tabR_of rs
  refine ⟨hs', ?_⟩
  rw [e]
  exact (grp_mid [.row p c (rs.map K.v) eT sz]).2 hc
theorem tab_make {x : α} (h0 : ∀ L, Ctx G L w → Ctx G (K.ent (none, 0) x :: L) w) (n : Nat) (hc : Ctx G (.row p c ((List.replicate n ((none, 0), x)).map K.v) eT sz :: L) w) :
    ∃ hs' : Hds, Ctx G (.row p c ((tabR hs' (List.replicate n x)).map K.v) eT sz :: tabI K (tabR hs' (List.replicate n x)) :: L) w := by
  refine ⟨fun _ => (none, 0), ?_⟩
  rw [← tabR_new]
  refine (grp_mid [.row p c ((List.replicate n ((none, 0), x)).map K.v) eT sz]).2 ?_
  have : ∀ m, Ctx G ((List.replicate m ((none, 0), x)).map K.e ++ (.row p c ((List.replicate n ((none, 0), x)).map K.v) eT sz :: L)) w := by
    intro m
    induction m with
    | zero => exact hc
    | succ m ih => rw [List.replicate_succ]; exact h0 _ ih
  refine (this n).perm ?_
  exact List.perm_middle
structure KdOk (K : Kd α) : Prop where
  mono : ∀ {h x G G'}, Pers.le G G' → K.fz h x G → K.fz h x G'
  lend : ∀ {h x G L w}, Ctx G (K.ent h x :: L) w → ∃ G', G.le G' ∧ K.fz h x G' ∧ Ctx G' L w ∧ ∀ Lx w', Ctx G' Lx w' → Ctx G (K.ent h x :: Lx) w'
def RdT (K : Kd α) (G : Pers) (sz : Nat) (p : Option Addr) (cap : Nat) (xs : List α) : Prop := KdOk K ∧ ∃ hs : Hds, Rd G sz p cap ((tabR hs xs).map K.v) ∧ ∀ i x, xs[i]? = some x → K.fz (hs i) x G
theorem RdT.mono {G G' : Pers} (h : RdT K G sz p c xs) (hle : G.le G') : RdT K G' sz p c xs := by
  obtain ⟨hk, hs, h1, h2⟩ := h
  exact ⟨hk, hs, h1.mono hle, fun i x hx => hk.mono hle (h2 i x hx)⟩
theorem RdT.nil (hk : KdOk K) {G : Pers} (sz : Nat) (p : Option Addr) {cap : Nat} (h : cap ≤ maxLen := by decide) : RdT K G sz p cap [] := ⟨hk, fun _ => (none, 0), Rd.nil sz p h, fun i x hx => by simp at hx⟩
theorem RdT.atm (h : RdT K G sz p c xs) {i : Int} {x : α} (hx : getI xs i = some x) : ∃ b o hd, At p xs.length sz i b o ∧ PC G b o (K.val hd x) ∧ K.fz hd x G := by
  obtain ⟨-, hs, h1, h2⟩ := h
  obtain ⟨b, o, h3, h4⟩ := h1.atm (enc := K.v) (tabR_getI (hs := hs) hx)
  rw [tabR_len] at h3
  exact ⟨b, o, hs i.toNat, h3, h4, h2 _ _ (getI_spec hx).2⟩
theorem RdT.cap (h : RdT K G sz p c xs) : xs.length ≤ c := by
  obtain ⟨-, hs, h1, -⟩ := h
  have := h1.1
  simpa [tabR_len] using this
theorem lend_all (hk : KdOk K) : ∀ {rs : List (H2 × α)} {G : Pers} {L : List Ent}, Ctx G (rs.map K.e ++ L) w → ∃ G', G.le G' ∧ (∀ r ∈ rs, K.fz r.1 r.2 G') ∧ Ctx G' L w ∧ ∀ Lx w', Ctx G' Lx w' → Ctx G (rs.map K.e ++ Lx) w'
  | [], G, L, h => ⟨G, Pers.le_refl G, by simp, h, fun _ _ h => h⟩
  | r :: rs, G, L, h => by
    obtain ⟨G1, l1, f1, c1, b1⟩ := hk.lend (h := r.1) (x := r.2) h
    obtain ⟨G2, l2, f2, c2, b2⟩ := lend_all hk c1
    refine ⟨G2, Pers.le_trans l1 l2, ?_, c2, fun Lx w' h' => b1 _ _ (b2 _ _ h')⟩
    intro r' hr'
    rcases List.mem_cons.1 hr' with rfl | hr'
    · exact hk.mono l2 f1
    · exact f2 r' hr'
theorem lendT (hk : KdOk K) {L1 L2 : List Ent} (hc : Ctx G L w) (hp : Pick L (.row p c ((tabR hs xs).map K.v) eT sz) L1) (hq : Pick L1 (tabI K (tabR hs xs)) L2) :
    ∃ G', G.le G' ∧ RdT K G' sz p c xs ∧ Ctx G' L2 w ∧ ∀ Lx w', Ctx G' Lx w' → Ctx G (.row p c ((tabR hs xs).map K.v) eT sz :: tabI K (tabR hs xs) :: Lx) w' := by
  have h1 : Ctx G (.row p c ((tabR hs xs).map K.v) eT sz :: tabI K (tabR hs xs) :: L2) w := (hc.pick hp).perm (hq.perm.cons _)
  obtain ⟨G1, l1, r1, c1, b1⟩ := lend h1 k0
  obtain ⟨G2, l2, f2, c2, b2⟩ := lend_all hk (grp_iff.1 c1)
  refine ⟨G2, Pers.le_trans l1 l2, ⟨hk, hs, r1.mono l2, fun i x hx => f2 (hs i, x) (List.mem_of_getElem? (tabR_get (hs := hs) hx))⟩, c2, fun Lx w' h' => ?_⟩
  have h3 := b1 _ _ (grp_iff.2 (b2 _ _ h'))
  exact h3
end tables
def kL {β : Type} (enc : β → List Value) (T sz : Nat) : Kd (List β) :=
  ⟨fun h xs => [.slice h.1 xs.length h.2], fun h xs => .row h.1 h.2 (xs.map enc) T sz, fun h xs G => Rd G sz h.1 h.2 (xs.map enc)⟩
theorem kL_ok {β : Type} (enc : β → List Value) (T sz : Nat) : KdOk (kL enc T sz) :=
  ⟨fun hle h => Rd.mono h hle, fun hc => by
    obtain ⟨G', h1, h2, h3, h4⟩ := Go.Nilo.lend hc k0
    exact ⟨G', h1, h2, h3, fun Lx w' h' => h4 Lx w' h'⟩⟩
def Kd.comp {α β : Type} (K : Kd β) (f : α → β) (v : H2 → α → List Value) : Kd α := ⟨v, fun h x => K.ent h (f x), fun h x => K.fz h (f x)⟩
theorem KdOk.comp {α β : Type} {K : Kd β} (hk : KdOk K) (f : α → β) (v : H2 → α → List Value) : KdOk (K.comp f v) := ⟨fun hle h => hk.mono hle h, fun hc => hk.lend hc⟩
def kM {ν : Type} (enc : ν → Value) : Kd (Option (List (Int × ν))) :=
  ⟨fun h m => match m with | none => [.map none] | some _ => [.map (some h.2)],
   fun h m => match m with | none => .row none 0 [] 0 0 | some m => .gm h.2 (ALq enc m), fun _ _ _ => False⟩
theorem one_kM {ν : Type} (enc : ν → Value) : ∀ r, ((kM enc).v r).length = 1 ∧ ones ((kM enc).v r) = true
  | (_, none) => ⟨rfl, rfl⟩
  | (_, some _) => ⟨rfl, rfl⟩
def getM {α : Type} (xs : List (Option α)) (i : Int) : Option α := Option.bind (getI xs i) id
theorem getM_getI {α : Type} {xs : List (Option α)} {i : Int} {m : α} (h : getM xs i = some m) : getI xs i = some (some m) := by
  obtain ⟨x, h1, h2⟩ := Option.bind_eq_some_iff.1 h
  rw [h1, show x = some m from h2]
theorem getM_of {α : Type} {xs : List (Option α)} {i : Int} {v : Option α} {m : α} (h : getI xs i = some v) (hm : v = some m) : getM xs i = some m := by
  subst hm
  simp [getM, h]
theorem tabSm {ν : Type} {enc : ν → Value} {L : List Ent} {hs : Hds} {xs : List (Option (List (Int × ν)))} {i : Int} {m : List (Int × ν)} (h : Sees L (tabI (kM enc) (tabR hs xs))) (hx : getM xs i = some m) : Sees L (.gm (hs i.toNat).2 (ALq enc m)) := tabS h (getM_getI hx)
theorem inR2 {y z M : Int} {n m : Nat} {u v : Unit} (hy : inR y n = some u) (hz : inR z m = some v) (hM : M = (m : Int)) : inR (y * M + z) (n * m) = some () := by
  subst hM
  obtain ⟨h1, h2⟩ := inR_spec hy
  obtain ⟨h3, h4⟩ := inR_spec hz
  unfold inR
  rw [if_pos]
  have h5 : y + 1 ≤ (n : Int) := by omega
  have h6 : (y + 1) * (m : Int) ≤ (n : Int) * m := Int.mul_le_mul_of_nonneg_right h5 (by omega)
  have h7 : 0 ≤ y * (m : Int) := Int.mul_nonneg h1 (by omega)
  rw [Int.add_mul, Int.one_mul] at h6
  refine ⟨by omega, ?_⟩
  push_cast
  omega
theorem flat_off {y z M : Int} {n m : Nat} {u v : Unit} (o : Nat) (hy : inR y n = some u) (hz : inR z m = some v) (hM : M = (m : Int)) : o + y.toNat * m + z.toNat * 1 = o + (y * M + z).toNat * 1 := by
  subst hM
  obtain ⟨h1, -⟩ := inR_spec hy
  obtain ⟨h3, -⟩ := inR_spec hz
  have h7 : 0 ≤ y * (m : Int) := Int.mul_nonneg h1 (by omega)
  have e : (y * (m : Int) + z).toNat = y.toNat * m + z.toNat := by
    obtain ⟨a, rfl⟩ := Int.eq_ofNat_of_zero_le h1
    obtain ⟨b, rfl⟩ := Int.eq_ofNat_of_zero_le h3
    have : ((a : Int) * (m : Int) + (b : Int)) = ((a * m + b : Nat) : Int) := by push_cast; rfl
    rw [this, Int.toNat_natCast, Int.toNat_natCast, Int.toNat_natCast]
  rw [e]; omega
theorem Pu.cast {P : Program} {o : Oper} {F : List (Nat × Value)} {v v' : Value} (h : Pu P o F v) (e : v = v') : Pu P o F v' := e ▸ h
theorem pc_of {G : Pers} {b T : Nat} {cs : List Value} (h : G.blk b = some (.cells cs.toArray T (0, 0))) : PC G b 0 cs := ⟨_, _, _, h, fun j u hu => by simpa using hu⟩
theorem cell_pca {α : Type} {G : Pers} {L : List Ent} {b o k n sz j : Nat} {i : Int} {enc : α → List Value} {f : Nat → α} {pre post : List Value} {u : Value} {un : Unit} (h : PC G b o (pre ++ (arr n enc f ++ post))) (hz : ∀ x, (enc x).length = sz) (ho : pre.length = k) (hi : inR i n = some un) (hu : (enc (f i.toNat))[j]? = some u) :
    CellIn G L ⟨b, o + k + i.toNat * sz + j, none⟩ u := by
  obtain ⟨h0, h1⟩ := inR_spec hi
  have hj : j < sz := by rw [← hz (f i.toNat)]; exact (List.getElem?_eq_some_iff.1 hu).1
  have hin : i.toNat < n := by omega
  have h2 : (pre ++ (arr n enc f ++ post))[k + i.toNat * sz + j]? = some u := by
    rw [List.getElem?_append_right (by omega), List.getElem?_append_left (by
      rw [arr_len hz]
      have : (i.toNat + 1) * sz ≤ n * sz := Nat.mul_le_mul_right _ (by omega)
      rw [Nat.succ_mul] at this
      omega)]
    have : k + i.toNat * sz + j - pre.length = i.toNat * sz + j := by omega
    rw [this, arr_get hz f hj n hin]
    exact hu
  have := cell_pc (L := L) h h2
  rwa [show o + (k + i.toNat * sz + j) = o + k + i.toNat * sz + j by omega] at this
section arrays
variable {α : Type} {K : Kd α} {G : Pers} {L L' : List Ent} {w : World} {hs : Hds} {xs : List α} {sz n : Nat}
end arrays
section stores
variable {P : Program} {ops : Array Oper} {Q : Exit → Act → World → Prop} {rest : List Oper} {a : Act} {w : World} {N : Fm} {F : List (Nat × Value)} {G : Pers} {L L' : List Ent}
  {ty : TypeId} {pos : String} {aft : Array Edge} {gd : Option (Nat × Bool)} {x y : Operand} {T : TypeId}
end stores
section outer
open Go.RowKit
variable {ς : Type}
end outer
end Go.Nilo
