/-
  Groups of entries as one entry; tables: own slices whose elements own a block each. Conditions: what each theorem names.
-/
import Derived.Test.YtkcmofifepmkdaaGreatNl27
set_option linter.unusedSimpArgs false
set_option linter.unusedVariables false
namespace Go.Nilo
theorem Ctx.sub {G:bA} {L L':List Ent} {w:World} (h:Ctx G L w) (hs:L'.Sublist L):Ctx G L' w :=
 ⟨h.os,h.tape,h.output,h.sz,h.pers,fun e he=>h.sat e (hs.subset he),fun e he=>h.fresh e (hs.subset he),h.sep.sublist hs⟩
abbrev H2:=Option Addr × Nat
abbrev Hds:=Nat→H2
abbrev TabH:=Nat × Hds
structure Kd (α:Type) where
 val:H2→α→List Value
 ent:H2→α→Ent
 fz:H2→α→bA→Prop
@[reducible] def Kd.v {α:Type} (K:Kd α) (r:H2 × α):List Value:=K.val r.1 r.2
@[reducible] def Kd.e {α:Type} (K:Kd α) (r:H2 × α):Ent:=K.ent r.1 r.2
def aIr {α:Type} (hs:Hds):List α→List (H2 × α)
 | []=>[]
 | x::xs=>(hs 0,x)::aIr (fun j=>hs (j + 1)) xs
theorem aDo {α:Type}:∀ (hs:Hds) (xss:List α),(aIr hs xss).length=xss.length
 | _,[]=>rfl
 | hs,_::xss=>by simp [aIr,aDo _ xss]
theorem aHt {α:Type}:∀ {hs:Hds} {xss:List α} {i:Nat} {x:α},xss[i]?=some x→(aIr hs xss)[i]?=some (hs i,x)
 | _,[],_,_,h=>by simp at h
 | hs,a::xss,0,x,h=>by
  have e:a=x:=by simpa using h
  subst e; rfl
 | hs,a::xss,i + 1,x,h=>by
  have:=aHt (hs:=fun j=>hs (j + 1)) (xss:=xss) (i:=i) (x:=x) (by simpa using h)
  simpa [aIr] using this
theorem aJ6 {α:Type} {hs:Hds} {xss:List α} {i:Int} {x:α} (h:cM xss i=some x):cM (aIr hs xss) i=some (hs i.toNat,x):=by
 obtain ⟨h0,h1⟩:=kS h
 have h2:=aHt (hs:=hs) h1
 unfold cM
 simp [h0,h2]
section tables
variable {α:Type} {K:Kd α} {G:bA} {L:List Ent} {w:World} {hs hs2:Hds} {xs ys:List α} {p:Option Addr} {c eT sz:Nat}
structure KdOk (K:Kd α):Prop where
 mono:∀ {h x G G'},bA.le G G'→K.fz h x G→K.fz h x G'
 lend:∀ {h x G L w},Ctx G (K.ent h x::L) w→∃ G',G.le G'∧K.fz h x G'∧Ctx G' L w∧∀ Lx w',Ctx G' Lx w'→Ctx G (K.ent h x::Lx) w'
def RdT (K:Kd α) (G:bA) (sz:Nat) (p:Option Addr) (cap:Nat) (xs:List α):Prop:=KdOk K∧∃ hs:Hds,Rd G sz p cap ((aIr hs xs).map K.v)∧∀ i x,xs[i]?=some x→K.fz (hs i) x G
theorem RdT.mono {G G':bA} (h:RdT K G sz p c xs) (hle:G.le G'):RdT K G' sz p c xs:=by
 obtain ⟨hk,hs,h1,h2⟩:=h
 exact ⟨hk,hs,h1.mono hle,fun i x hx=>hk.mono hle (h2 i x hx)⟩
theorem RdT.nil (hk:KdOk K) {G:bA} (sz:Nat) (p:Option Addr) {cap:Nat} (h:cap≤maxLen:=by decide):RdT K G sz p cap []:=⟨hk,fun _=>(none,0),Rd.nil sz p h,fun i x hx=>by simp at hx⟩
theorem RdT.atm (h:RdT K G sz p c xs) {i:Int} {x:α} (hx:cM xs i=some x):∃ b o hd,At p xs.length sz i b o∧PC G b o (K.val hd x)∧K.fz hd x G:=by
 obtain ⟨-,hs,h1,h2⟩:=h
 obtain ⟨b,o,h3,h4⟩:=h1.atm (enc:=K.v) (aJ6 (hs:=hs) hx)
 rw [aDo] at h3
 exact ⟨b,o,hs i.toNat,h3,h4,h2 _ _ (kS hx).2⟩
theorem RdT.cap (h:RdT K G sz p c xs):xs.length≤c:=by
 obtain ⟨-,hs,h1,-⟩:=h
 have:=h1.1
 simpa [aDo] using this
end tables
theorem yZ {y z M:Int} {n m:Nat} {u v:Unit} (hy:inR y n=some u) (hz:inR z m=some v) (hM:M=(m:Int)):inR (y * M + z) (n * m)=some ():=by
 subst hM
 obtain ⟨h1,h2⟩:=bF hy
 obtain ⟨h3,h4⟩:=bF hz
 unfold inR
 rw [if_pos]
 have h5:y + 1≤(n:Int):=by omega
 have h6:(y + 1) * (m:Int)≤(n:Int) * m:=Int.mul_le_mul_of_nonneg_right h5 (by omega)
 have h7:0≤y * (m:Int):=Int.mul_nonneg h1 (by omega)
 rw [Int.add_mul,Int.one_mul] at h6
 refine ⟨by omega,?_⟩
 push_cast
 omega
theorem mA {y z M:Int} {n m:Nat} {u v:Unit} (o:Nat) (hy:inR y n=some u) (hz:inR z m=some v) (hM:M=(m:Int)):o + y.toNat * m + z.toNat * 1=o + (y * M + z).toNat * 1:=by
 subst hM
 obtain ⟨h1,-⟩:=bF hy
 obtain ⟨h3,-⟩:=bF hz
 have h7:0≤y * (m:Int):=Int.mul_nonneg h1 (by omega)
 have e:(y * (m:Int) + z).toNat=y.toNat * m + z.toNat:=by
  obtain ⟨a,rfl⟩:=Int.eq_ofNat_of_zero_le h1
  obtain ⟨b,rfl⟩:=Int.eq_ofNat_of_zero_le h3
  have:((a:Int) * (m:Int) + (b:Int))=((a * m + b:Nat):Int):=by push_cast; rfl
  rw [this,Int.toNat_natCast,Int.toNat_natCast,Int.toNat_natCast]
 rw [e]; omega
theorem Pu.cast {P:Program} {o:Oper} {F:List (Nat × Value)} {v v':Value} (h:Pu P o F v) (e:v=v'):Pu P o F v':=e ▸ h
section arrays
variable {α:Type} {K:Kd α} {G:bA} {L L':List Ent} {w:World} {hs:Hds} {xs:List α} {sz n:Nat}
end arrays
section stores
variable {P:Program} {ops:Array Oper} {Q:Exit→Act→World→Prop} {rest:List Oper} {a:Act} {w:World} {N:Fm} {F:List (Nat × Value)} {G:bA} {L L':List Ent}
 {ty:TypeId} {pos:String} {aft:Array Edge} {gd:Option (Nat × Bool)} {x y:Operand} {T:TypeId}
end stores
section outer
open Go.RowKit
variable {ς:Type}
end outer
end Go.Nilo
