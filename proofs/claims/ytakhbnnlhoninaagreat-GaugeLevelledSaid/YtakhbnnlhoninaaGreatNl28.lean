/-
  Groups of entries as one entry; tables: own slices whose elements own a block each. Conditions: what each theorem names.
-/
import Derived.Test.YtakhbnnlhoninaaGreatNl27
set_option linter.unusedSimpArgs false
set_option linter.unusedVariables false
namespace Go.Nilo
theorem Ctx.sub {G : Pers} {L L' : List Ent} {w : World} (h : Ctx G L w) (hs : L'.Sublist L) : Ctx G L' w :=
 ⟨h.os,h.tape,h.output,h.sz,h.pers,fun e he => h.sat e (hs.subset he),fun e he => h.fresh e (hs.subset he),h.sep.sublist hs⟩
def apartE (es : List Ent) : Prop := es.Pairwise fun e e' => ∀ b,e.own b → ¬ e'.own b
def grpE (es : List Ent) : Ent := .grp (fun b => ∃ e ∈ es,e.own b) (fun w => (∀ e ∈ es,e.sat w) ∧ apartE es)
theorem grp_sat {es : List Ent} {w : World} : (grpE es).sat w ↔ (∀ e ∈ es,e.sat w) ∧ apartE es := by
 constructor
 ·intro h; exact h.1
 ·intro h
  refine ⟨h,?_,?_⟩
  ·rintro b ⟨e,he,hb⟩; exact Ent.lt (h.1 e he) hb
  ·intro w' hw'
   exact ⟨fun e he => Ent.stay (h.1 e he) fun b hb => hw' b ⟨e,he,hb⟩,h.2⟩
theorem grp_iff {G : Pers} {es L : List Ent} {w : World} : Ctx G (grpE es::L) w ↔ Ctx G (es ++ L) w := by
 constructor
 ·intro h
  obtain ⟨hs1,hs2⟩ := List.pairwise_cons.1 h.sep
  have hg := grp_sat.1 (h.sat _ List.mem_cons_self)
  refine ⟨h.os,h.tape,h.output,h.sz,h.pers,?_,?_,?_⟩
  ·intro e he
   rcases List.mem_append.1 he with he | he
   ·exact hg.1 e he
   ·exact h.sat e (List.mem_cons_of_mem _ he)
  ·intro e he b hb
   rcases List.mem_append.1 he with he | he
   ·exact h.fresh _ List.mem_cons_self b ⟨e,he,hb⟩
   ·exact h.fresh e (List.mem_cons_of_mem _ he) b hb
  ·exact List.pairwise_append.2 ⟨hg.2,hs2,fun e he e' he' b hb => hs1 e' he' b ⟨e,he,hb⟩⟩
 ·intro h
  obtain ⟨p1,p2,p3⟩ := List.pairwise_append.1 h.sep
  refine ⟨h.os,h.tape,h.output,h.sz,h.pers,?_,?_,List.pairwise_cons.2 ⟨?_,p2⟩⟩
  ·intro e he
   rcases List.mem_cons.1 he with rfl | he
   ·exact grp_sat.2 ⟨fun e he => h.sat e (List.mem_append_left _ he),p1⟩
   ·exact h.sat e (List.mem_append_right _ he)
  ·intro e he b hb
   rcases List.mem_cons.1 he with rfl | he
   ·obtain ⟨e',he',hb'⟩ := hb
    exact h.fresh e' (List.mem_append_left _ he') b hb'
   ·exact h.fresh e (List.mem_append_right _ he) b hb
  ·rintro e he b ⟨e',he',hb'⟩
   exact p3 e' he' e he b hb'
theorem grp_mid {G : Pers} {es L : List Ent} {w : World} (M : List Ent) : Ctx G (M ++ grpE es::L) w ↔ Ctx G (M ++ (es ++ L)) w := by
 constructor
 ·intro h
  have h1 : Ctx G (grpE es::(M ++ L)) w := h.perm List.perm_middle
  have h2 := grp_iff.1 h1
  refine h2.perm ?_
  rw [← List.append_assoc,← List.append_assoc]
  exact List.perm_append_comm.append_right L
 ·intro h
  have h2 : Ctx G (es ++ (M ++ L)) w := by
   refine h.perm ?_
   rw [← List.append_assoc,← List.append_assoc]
   exact List.perm_append_comm.append_right L
  exact (grp_iff.2 h2).perm List.perm_middle.symm
abbrev H2 := Option Addr × Nat
abbrev Hds := Nat → H2
abbrev TabH := Nat × Hds
structure Kd (α : Type) where
 val : H2 → α → List Value
 ent : H2 → α → Ent
 fz : H2 → α → Pers → Prop
@[reducible] def Kd.v {α : Type} (K : Kd α) (r : H2 × α) : List Value := K.val r.1 r.2
@[reducible] def Kd.e {α : Type} (K : Kd α) (r : H2 × α) : Ent := K.ent r.1 r.2
def tabR {α : Type} (hs : Hds) : List α → List (H2 × α)
 | [] => []
 | x::xs => (hs 0,x)::tabR (fun j => hs (j + 1)) xs
def tabI {α : Type} (K : Kd α) (rs : List (H2 × α)) : Ent := grpE (rs.map K.e)
theorem tabR_len {α : Type} : ∀ (hs : Hds) (xss : List α),(tabR hs xss).length = xss.length
 | _,[] => rfl
 | hs,_::xss => by simp [tabR,tabR_len _ xss]
theorem tabR_get {α : Type} : ∀ {hs : Hds} {xss : List α} {i : Nat} {x : α},xss[i]? = some x → (tabR hs xss)[i]? = some (hs i,x)
 | _,[],_,_,h => by simp at h
 | hs,a::xss,0,x,h => by
  have e : a = x := by simpa using h
  subst e; rfl
 | hs,a::xss,i + 1,x,h => by
  have := tabR_get (hs := fun j => hs (j + 1)) (xss := xss) (i := i) (x := x) (by simpa using h)
  simpa [tabR] using this
theorem tabR_getI {α : Type} {hs : Hds} {xss : List α} {i : Int} {x : α} (h : getI xss i = some x) : getI (tabR hs xss) i = some (hs i.toNat,x) := by
 obtain ⟨h0,h1⟩ := getI_spec h
 have h2 := tabR_get (hs := hs) h1
 unfold getI
 simp [h0,h2]
theorem tabR_of {α : Type} : ∀ rs : List (H2 × α),∃ hs,tabR hs (rs.map Prod.snd) = rs
 | [] => ⟨fun _ => (none,0),rfl⟩
 | (h,x)::rs => by
  obtain ⟨hs,e⟩ := tabR_of rs
  exact ⟨fun j => match j with | 0 => h | j + 1 => hs j,by simp only [List.map_cons,tabR]; rw [e]⟩
section tables
variable {α : Type} {K : Kd α} {G : Pers} {L : List Ent} {w : World} {hs hs2 : Hds} {xs ys : List α} {p : Option Addr} {c eT sz : Nat}
theorem tab_mk (rs : List (H2 × α)) (hc : Ctx G (.row p c (rs.map K.v) eT sz::(rs.map K.e ++ L)) w) :
  ∃ hs' : Hds,Ctx G (.row p c ((tabR hs' (rs.map Prod.snd)).map K.v) eT sz::tabI K (tabR hs' (rs.map Prod.snd))::L) w := by
 obtain ⟨hs',e⟩ := tabR_of rs
 refine ⟨hs',?_⟩
 rw [e]
 exact (grp_mid [.row p c (rs.map K.v) eT sz]).2 hc
structure KdOk (K : Kd α) : Prop where
 mono : ∀ {h x G G'},Pers.le G G' → K.fz h x G → K.fz h x G'
 lend : ∀ {h x G L w},Ctx G (K.ent h x::L) w → ∃ G',G.le G' ∧ K.fz h x G' ∧ Ctx G' L w ∧ ∀ Lx w',Ctx G' Lx w' → Ctx G (K.ent h x::Lx) w'
def RdT (K : Kd α) (G : Pers) (sz : Nat) (p : Option Addr) (cap : Nat) (xs : List α) : Prop := KdOk K ∧ ∃ hs : Hds,Rd G sz p cap ((tabR hs xs).map K.v) ∧ ∀ i x,xs[i]? = some x → K.fz (hs i) x G
theorem RdT.mono {G G' : Pers} (h : RdT K G sz p c xs) (hle : G.le G') : RdT K G' sz p c xs := by
 obtain ⟨hk,hs,h1,h2⟩ := h
 exact ⟨hk,hs,h1.mono hle,fun i x hx => hk.mono hle (h2 i x hx)⟩
theorem RdT.nil (hk : KdOk K) {G : Pers} (sz : Nat) (p : Option Addr) {cap : Nat} (h : cap ≤ maxLen := by decide) : RdT K G sz p cap [] := ⟨hk,fun _ => (none,0),Rd.nil sz p h,fun i x hx => by simp at hx⟩
theorem RdT.atm (h : RdT K G sz p c xs) {i : Int} {x : α} (hx : getI xs i = some x) : ∃ b o hd,At p xs.length sz i b o ∧ PC G b o (K.val hd x) ∧ K.fz hd x G := by
 obtain ⟨-,hs,h1,h2⟩ := h
 obtain ⟨b,o,h3,h4⟩ := h1.atm (enc := K.v) (tabR_getI (hs := hs) hx)
 rw [tabR_len] at h3
 exact ⟨b,o,hs i.toNat,h3,h4,h2 _ _ (getI_spec hx).2⟩
theorem RdT.cap (h : RdT K G sz p c xs) : xs.length ≤ c := by
 obtain ⟨-,hs,h1,-⟩ := h
 have := h1.1
 simpa [tabR_len] using this
theorem lend_all (hk : KdOk K) : ∀ {rs : List (H2 × α)} {G : Pers} {L : List Ent},Ctx G (rs.map K.e ++ L) w → ∃ G',G.le G' ∧ (∀ r ∈ rs,K.fz r.1 r.2 G') ∧ Ctx G' L w ∧ ∀ Lx w',Ctx G' Lx w' → Ctx G (rs.map K.e ++ Lx) w'
 | [],G,L,h => ⟨G,Pers.le_refl G,by simp,h,fun _ _ h => h⟩
 | r::rs,G,L,h => by
  obtain ⟨G1,l1,f1,c1,b1⟩ := hk.lend (h := r.1) (x := r.2) h
  obtain ⟨G2,l2,f2,c2,b2⟩ := lend_all hk c1
  refine ⟨G2,Pers.le_trans l1 l2,?_,c2,fun Lx w' h' => b1 _ _ (b2 _ _ h')⟩
  intro r' hr'
  rcases List.mem_cons.1 hr' with rfl | hr'
  ·exact hk.mono l2 f1
  ·exact f2 r' hr'
end tables
def kL {β : Type} (enc : β → List Value) (T sz : Nat) : Kd (List β) :=
 ⟨fun h xs => [.slice h.1 xs.length h.2],fun h xs => .row h.1 h.2 (xs.map enc) T sz,fun h xs G => Rd G sz h.1 h.2 (xs.map enc)⟩
theorem kL_ok {β : Type} (enc : β → List Value) (T sz : Nat) : KdOk (kL enc T sz) :=
 ⟨fun hle h => Rd.mono h hle,fun hc => by
  obtain ⟨G',h1,h2,h3,h4⟩ := Go.Nilo.lend hc k0
  exact ⟨G',h1,h2,h3,fun Lx w' h' => h4 Lx w' h'⟩⟩
def Kd.comp {α β : Type} (K : Kd β) (f : α → β) (v : H2 → α → List Value) : Kd α := ⟨v,fun h x => K.ent h (f x),fun h x => K.fz h (f x)⟩
theorem KdOk.comp {α β : Type} {K : Kd β} (hk : KdOk K) (f : α → β) (v : H2 → α → List Value) : KdOk (K.comp f v) := ⟨fun hle h => hk.mono hle h,fun hc => hk.lend hc⟩
theorem inR2 {y z M : Int} {n m : Nat} {u v : Unit} (hy : inR y n = some u) (hz : inR z m = some v) (hM : M = (m : Int)) : inR (y * M + z) (n * m) = some () := by
 subst hM
 obtain ⟨h1,h2⟩ := inR_spec hy
 obtain ⟨h3,h4⟩ := inR_spec hz
 unfold inR
 rw [if_pos]
 have h5 : y + 1 ≤ (n : Int) := by omega
 have h6 : (y + 1) * (m : Int) ≤ (n : Int) * m := Int.mul_le_mul_of_nonneg_right h5 (by omega)
 have h7 : 0 ≤ y * (m : Int) := Int.mul_nonneg h1 (by omega)
 rw [Int.add_mul,Int.one_mul] at h6
 refine ⟨by omega,?_⟩
 push_cast
 omega
theorem flat_off {y z M : Int} {n m : Nat} {u v : Unit} (o : Nat) (hy : inR y n = some u) (hz : inR z m = some v) (hM : M = (m : Int)) : o + y.toNat * m + z.toNat * 1 = o + (y * M + z).toNat * 1 := by
 subst hM
 obtain ⟨h1,-⟩ := inR_spec hy
 obtain ⟨h3,-⟩ := inR_spec hz
 have h7 : 0 ≤ y * (m : Int) := Int.mul_nonneg h1 (by omega)
 have e : (y * (m : Int) + z).toNat = y.toNat * m + z.toNat := by
  obtain ⟨a,rfl⟩ := Int.eq_ofNat_of_zero_le h1
  obtain ⟨b,rfl⟩ := Int.eq_ofNat_of_zero_le h3
  have : ((a : Int) * (m : Int) + (b : Int)) = ((a * m + b : Nat) : Int) := by push_cast; rfl
  rw [this,Int.toNat_natCast,Int.toNat_natCast,Int.toNat_natCast]
 rw [e]; omega
theorem Pu.cast {P : Program} {o : Oper} {F : List (Nat × Value)} {v v' : Value} (h : Pu P o F v) (e : v = v') : Pu P o F v' := e ▸ h
section arrays
variable {α : Type} {K : Kd α} {G : Pers} {L L' : List Ent} {w : World} {hs : Hds} {xs : List α} {sz n : Nat}
theorem lendI (hk : KdOk K) (hc : Ctx G L w) (hp : Pick L (tabI K (tabR hs xs)) L') :
  ∃ G',G.le G' ∧ (∀ i x,getI xs i = some x → K.fz (hs i.toNat) x G') ∧ Ctx G' L' w ∧ ∀ Lx w',Ctx G' Lx w' → Ctx G (tabI K (tabR hs xs)::Lx) w' := by
 obtain ⟨G2,l2,f2,c2,b2⟩ := lend_all hk (grp_iff.1 (hc.pick hp))
 exact ⟨G2,l2,fun i x hx => f2 (hs i.toNat,x) (List.mem_of_getElem? (tabR_get (hs := hs) (getI_spec hx).2)),c2,fun Lx w' h' => grp_iff.2 (b2 _ _ h')⟩
end arrays
section stores
variable {P : Program} {ops : Array Oper} {Q : Exit → Act → World → Prop} {rest : List Oper} {a : Act} {w : World} {N : Fm} {F : List (Nat × Value)} {G : Pers} {L L' : List Ent}
 {ty : TypeId} {pos : String} {aft : Array Edge} {gd : Option (Nat × Bool)} {x y : Operand} {T : TypeId}
end stores
section outer
open Go.RowKit
variable {ς : Type}
end outer
end Go.Nilo
