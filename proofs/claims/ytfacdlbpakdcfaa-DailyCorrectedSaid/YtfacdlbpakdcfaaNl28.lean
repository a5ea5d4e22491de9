/-
  Groups of entries as one entry; tables: own slices whose elements own a block each. Conditions: what each theorem names.
-/
import Derived.Test.YtfacdlbpakdcfaaNl27
set_option linter.unusedSimpArgs false
set_option linter.unusedVariables false
namespace Go.Nilo
theorem Ctx.sub {G : Pers} {L L' : List Ent} {w : World} (h : Ctx G L w) (hs : L'.Sublist L) : Ctx G L' w :=
 ⟨h.os,h.tape,h.output,h.sz,h.pers,fun e he => h.sat e (hs.subset he),fun e he => h.fresh e (hs.subset he),h.sep.sublist hs⟩
abbrev H2 := Option Addr × Nat
abbrev Hds := Nat → H2
abbrev TabH := Nat × Hds
structure Kd (α : Type) where
 val : H2 → α → List Value
 ent : H2 → α → Ent
 fz : H2 → α → Pers → Prop
@[reducible] def Kd.v {α : Type} (K : Kd α) (r : H2 × α) : List Value := K.val r.1 r.2
@[reducible] def Kd.e {α : Type} (K : Kd α) (r : H2 × α) : Ent := K.ent r.1 r.2
def tabR {α : Type} (hs : Hds) : List α → List (H2 × α)
 | [] => []
 | x::xs => (hs 0,x)::tabR (fun j => hs (j + 1)) xs
theorem tabR_len {α : Type} : ∀ (hs : Hds) (xss : List α),(tabR hs xss).length = xss.length
 | _,[] => rfl
 | hs,_::xss => by simp [tabR,tabR_len _ xss]
theorem tabR_get {α : Type} : ∀ {hs : Hds} {xss : List α} {i : Nat} {x : α},xss[i]? = some x → (tabR hs xss)[i]? = some (hs i,x)
 | _,[],_,_,h => by simp at h
 | hs,a::xss,0,x,h => by
  have e : a = x := by simpa using h
  subst e; rfl
 | hs,a::xss,i + 1,x,h => by
  have := tabR_get (hs := fun j => hs (j + 1)) (xss := xss) (i := i) (x := x) (by simpa using h)
  simpa [tabR] using this
theorem tabR_getI {α : Type} {hs : Hds} {xss : List α} {i : Int} {x : α} (h : getI xss i = some x) : getI (tabR hs xss) i = some (hs i.toNat,x) := by
 obtain ⟨h0,h1⟩ := getI_spec h
 have h2 := tabR_get (hs := hs) h1
 unfold getI
 simp [h0,h2]
section tables
variable {α : Type} {K : Kd α} {G : Pers} {L : List Ent} {w : World} {hs hs2 : Hds} {xs ys : List α} {p : Option Addr} {c eT sz : Nat}
structure KdOk (K : Kd α) : Prop where
 mono : ∀ {h x G G'},Pers.le G G' → K.fz h x G → K.fz h x G'
 lend : ∀ {h x G L w},Ctx G (K.ent h x::L) w → ∃ G',G.le G' ∧ K.fz h x G' ∧ Ctx G' L w ∧ ∀ Lx w',Ctx G' Lx w' → Ctx G (K.ent h x::Lx) w'
def RdT (K : Kd α) (G : Pers) (sz : Nat) (p : Option Addr) (cap : Nat) (xs : List α) : Prop := KdOk K ∧ ∃ hs : Hds,Rd G sz p cap ((tabR hs xs).map K.v) ∧ ∀ i x,xs[i]? = some x → K.fz (hs i) x G
theorem RdT.mono {G G' : Pers} (h : RdT K G sz p c xs) (hle : G.le G') : RdT K G' sz p c xs := by
 obtain ⟨hk,hs,h1,h2⟩ := h
 exact ⟨hk,hs,h1.mono hle,fun i x hx => hk.mono hle (h2 i x hx)⟩
theorem RdT.nil (hk : KdOk K) {G : Pers} (sz : Nat) (p : Option Addr) {cap : Nat} (h : cap ≤ maxLen := by decide) : RdT K G sz p cap [] := ⟨hk,fun _ => (none,0),Rd.nil sz p h,fun i x hx => by simp at hx⟩
theorem RdT.atm (h : RdT K G sz p c xs) {i : Int} {x : α} (hx : getI xs i = some x) : ∃ b o hd,At p xs.length sz i b o ∧ PC G b o (K.val hd x) ∧ K.fz hd x G := by
 obtain ⟨-,hs,h1,h2⟩ := h
 obtain ⟨b,o,h3,h4⟩ := h1.atm (enc := K.v) (tabR_getI (hs := hs) hx)
 rw [tabR_len] at h3
 exact ⟨b,o,hs i.toNat,h3,h4,h2 _ _ (getI_spec hx).2⟩
theorem RdT.cap (h : RdT K G sz p c xs) : xs.length ≤ c := by
 obtain ⟨-,hs,h1,-⟩ := h
 have := h1.1
 simpa [tabR_len] using this
end tables
section arrays
variable {α : Type} {K : Kd α} {G : Pers} {L L' : List Ent} {w : World} {hs : Hds} {xs : List α} {sz n : Nat}
end arrays
section stores
variable {P : Program} {ops : Array Oper} {Q : Exit → Act → World → Prop} {rest : List Oper} {a : Act} {w : World} {N : Fm} {F : List (Nat × Value)} {G : Pers} {L L' : List Ent}
 {ty : TypeId} {pos : String} {aft : Array Edge} {gd : Option (Nat × Bool)} {x y : Operand} {T : TypeId}
end stores
section outer
open Go.RowKit
variable {ς : Type}
end outer
end Go.Nilo
