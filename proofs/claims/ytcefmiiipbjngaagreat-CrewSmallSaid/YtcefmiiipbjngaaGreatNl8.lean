/-
  Loops and their pure forms; equality of structs. Conditions: what each theorem names.
-/
import Derived.Test.YtcefmiiipbjngaaGreatNl7
import Derived.Scope
import Derived.Laws.StructEq
set_option linter.unusedSimpArgs false
set_option linter.unusedVariables false
namespace Go.Nilo

section places
variable {L:List Ent} {e e' x0 x1 x2 x3 x4 x5 x6 x7 x8 x9 x10 x11 x12 x13 x14 x15 x16 x17 x18 x19 x20 x21 x22 x23 x24 x25 x26 x27 x28 x29 x30 x31 x32 x33 x34 x35 x36 x37 x38 x39 x40:Ent}
theorem pD.t (h:pD L e):pD (x0::L) e:=λG w hc=>h G w hc.tail
theorem m0:pD (e::L) e:=pD.of (List.Mem.head _)
theorem u0:Upd (e::L) e e' (e'::L):=.here
theorem k0:uG (e::L) e (L):=.here
theorem m1:pD (x0::e::L) e:=m0.t
theorem u1:Upd (x0::e::L) e e' (x0::e'::L):=.there u0
theorem k1:uG (x0::e::L) e (x0::L):=.there k0
theorem m2:pD (x0::x1::e::L) e:=m1.t
theorem u2:Upd (x0::x1::e::L) e e' (x0::x1::e'::L):=.there u1
theorem k2:uG (x0::x1::e::L) e (x0::x1::L):=.there k1
theorem m3:pD (x0::x1::x2::e::L) e:=m2.t
theorem u3:Upd (x0::x1::x2::e::L) e e' (x0::x1::x2::e'::L):=.there u2
theorem k3:uG (x0::x1::x2::e::L) e (x0::x1::x2::L):=.there k2
theorem m4:pD (x0::x1::x2::x3::e::L) e:=m3.t
theorem u4:Upd (x0::x1::x2::x3::e::L) e e' (x0::x1::x2::x3::e'::L):=.there u3
theorem k4:uG (x0::x1::x2::x3::e::L) e (x0::x1::x2::x3::L):=.there k3
theorem m5:pD (x0::x1::x2::x3::x4::e::L) e:=m4.t
theorem u5:Upd (x0::x1::x2::x3::x4::e::L) e e' (x0::x1::x2::x3::x4::e'::L):=.there u4
theorem k5:uG (x0::x1::x2::x3::x4::e::L) e (x0::x1::x2::x3::x4::L):=.there k4
theorem m6:pD (x0::x1::x2::x3::x4::x5::e::L) e:=m5.t
theorem u6:Upd (x0::x1::x2::x3::x4::x5::e::L) e e' (x0::x1::x2::x3::x4::x5::e'::L):=.there u5
theorem k6:uG (x0::x1::x2::x3::x4::x5::e::L) e (x0::x1::x2::x3::x4::x5::L):=.there k5
theorem m7:pD (x0::x1::x2::x3::x4::x5::x6::e::L) e:=m6.t
theorem u7:Upd (x0::x1::x2::x3::x4::x5::x6::e::L) e e' (x0::x1::x2::x3::x4::x5::x6::e'::L):=.there u6
theorem k7:uG (x0::x1::x2::x3::x4::x5::x6::e::L) e (x0::x1::x2::x3::x4::x5::x6::L):=.there k6
theorem m8:pD (x0::x1::x2::x3::x4::x5::x6::x7::e::L) e:=m7.t
theorem u8:Upd (x0::x1::x2::x3::x4::x5::x6::x7::e::L) e e' (x0::x1::x2::x3::x4::x5::x6::x7::e'::L):=.there u7
theorem k8:uG (x0::x1::x2::x3::x4::x5::x6::x7::e::L) e (x0::x1::x2::x3::x4::x5::x6::x7::L):=.there k7
theorem m9:pD (x0::x1::x2::x3::x4::x5::x6::x7::x8::e::L) e:=m8.t
theorem u9:Upd (x0::x1::x2::x3::x4::x5::x6::x7::x8::e::L) e e' (x0::x1::x2::x3::x4::x5::x6::x7::x8::e'::L):=.there u8
theorem k9:uG (x0::x1::x2::x3::x4::x5::x6::x7::x8::e::L) e (x0::x1::x2::x3::x4::x5::x6::x7::x8::L):=.there k8
theorem m10:pD (x0::x1::x2::x3::x4::x5::x6::x7::x8::x9::e::L) e:=m9.t
theorem u10:Upd (x0::x1::x2::x3::x4::x5::x6::x7::x8::x9::e::L) e e' (x0::x1::x2::x3::x4::x5::x6::x7::x8::x9::e'::L):=.there u9
theorem k10:uG (x0::x1::x2::x3::x4::x5::x6::x7::x8::x9::e::L) e (x0::x1::x2::x3::x4::x5::x6::x7::x8::x9::L):=.there k9
theorem m11:pD (x0::x1::x2::x3::x4::x5::x6::x7::x8::x9::x10::e::L) e:=m10.t
theorem u11:Upd (x0::x1::x2::x3::x4::x5::x6::x7::x8::x9::x10::e::L) e e' (x0::x1::x2::x3::x4::x5::x6::x7::x8::x9::x10::e'::L):=.there u10
theorem k11:uG (x0::x1::x2::x3::x4::x5::x6::x7::x8::x9::x10::e::L) e (x0::x1::x2::x3::x4::x5::x6::x7::x8::x9::x10::L):=.there k10
theorem m12:pD (x0::x1::x2::x3::x4::x5::x6::x7::x8::x9::x10::x11::e::L) e:=m11.t
theorem u12:Upd (x0::x1::x2::x3::x4::x5::x6::x7::x8::x9::x10::x11::e::L) e e' (x0::x1::x2::x3::x4::x5::x6::x7::x8::x9::x10::x11::e'::L):=.there u11
theorem k12:uG (x0::x1::x2::x3::x4::x5::x6::x7::x8::x9::x10::x11::e::L) e (x0::x1::x2::x3::x4::x5::x6::x7::x8::x9::x10::x11::L):=.there k11
theorem m13:pD (x0::x1::x2::x3::x4::x5::x6::x7::x8::x9::x10::x11::x12::e::L) e:=m12.t
theorem u13:Upd (x0::x1::x2::x3::x4::x5::x6::x7::x8::x9::x10::x11::x12::e::L) e e' (x0::x1::x2::x3::x4::x5::x6::x7::x8::x9::x10::x11::x12::e'::L):=.there u12
theorem k13:uG (x0::x1::x2::x3::x4::x5::x6::x7::x8::x9::x10::x11::x12::e::L) e (x0::x1::x2::x3::x4::x5::x6::x7::x8::x9::x10::x11::x12::L):=.there k12
theorem u14:Upd (x0::x1::x2::x3::x4::x5::x6::x7::x8::x9::x10::x11::x12::x13::e::L) e e' (x0::x1::x2::x3::x4::x5::x6::x7::x8::x9::x10::x11::x12::x13::e'::L):=.there u13
theorem k14:uG (x0::x1::x2::x3::x4::x5::x6::x7::x8::x9::x10::x11::x12::x13::e::L) e (x0::x1::x2::x3::x4::x5::x6::x7::x8::x9::x10::x11::x12::x13::L):=.there k13
theorem u15:Upd (x0::x1::x2::x3::x4::x5::x6::x7::x8::x9::x10::x11::x12::x13::x14::e::L) e e' (x0::x1::x2::x3::x4::x5::x6::x7::x8::x9::x10::x11::x12::x13::x14::e'::L):=.there u14
theorem k15:uG (x0::x1::x2::x3::x4::x5::x6::x7::x8::x9::x10::x11::x12::x13::x14::e::L) e (x0::x1::x2::x3::x4::x5::x6::x7::x8::x9::x10::x11::x12::x13::x14::L):=.there k14
theorem u16:Upd (x0::x1::x2::x3::x4::x5::x6::x7::x8::x9::x10::x11::x12::x13::x14::x15::e::L) e e' (x0::x1::x2::x3::x4::x5::x6::x7::x8::x9::x10::x11::x12::x13::x14::x15::e'::L):=.there u15
theorem u17:Upd (x0::x1::x2::x3::x4::x5::x6::x7::x8::x9::x10::x11::x12::x13::x14::x15::x16::e::L) e e' (x0::x1::x2::x3::x4::x5::x6::x7::x8::x9::x10::x11::x12::x13::x14::x15::x16::e'::L):=.there u16
theorem u18:Upd (x0::x1::x2::x3::x4::x5::x6::x7::x8::x9::x10::x11::x12::x13::x14::x15::x16::x17::e::L) e e' (x0::x1::x2::x3::x4::x5::x6::x7::x8::x9::x10::x11::x12::x13::x14::x15::x16::x17::e'::L):=.there u17
theorem u19:Upd (x0::x1::x2::x3::x4::x5::x6::x7::x8::x9::x10::x11::x12::x13::x14::x15::x16::x17::x18::e::L) e e' (x0::x1::x2::x3::x4::x5::x6::x7::x8::x9::x10::x11::x12::x13::x14::x15::x16::x17::x18::e'::L):=.there u18
theorem u20:Upd (x0::x1::x2::x3::x4::x5::x6::x7::x8::x9::x10::x11::x12::x13::x14::x15::x16::x17::x18::x19::e::L) e e' (x0::x1::x2::x3::x4::x5::x6::x7::x8::x9::x10::x11::x12::x13::x14::x15::x16::x17::x18::x19::e'::L):=.there u19
theorem u21:Upd (x0::x1::x2::x3::x4::x5::x6::x7::x8::x9::x10::x11::x12::x13::x14::x15::x16::x17::x18::x19::x20::e::L) e e' (x0::x1::x2::x3::x4::x5::x6::x7::x8::x9::x10::x11::x12::x13::x14::x15::x16::x17::x18::x19::x20::e'::L):=.there u20
theorem u22:Upd (x0::x1::x2::x3::x4::x5::x6::x7::x8::x9::x10::x11::x12::x13::x14::x15::x16::x17::x18::x19::x20::x21::e::L) e e' (x0::x1::x2::x3::x4::x5::x6::x7::x8::x9::x10::x11::x12::x13::x14::x15::x16::x17::x18::x19::x20::x21::e'::L):=.there u21
theorem u23:Upd (x0::x1::x2::x3::x4::x5::x6::x7::x8::x9::x10::x11::x12::x13::x14::x15::x16::x17::x18::x19::x20::x21::x22::e::L) e e' (x0::x1::x2::x3::x4::x5::x6::x7::x8::x9::x10::x11::x12::x13::x14::x15::x16::x17::x18::x19::x20::x21::x22::e'::L):=.there u22
theorem u24:Upd (x0::x1::x2::x3::x4::x5::x6::x7::x8::x9::x10::x11::x12::x13::x14::x15::x16::x17::x18::x19::x20::x21::x22::x23::e::L) e e' (x0::x1::x2::x3::x4::x5::x6::x7::x8::x9::x10::x11::x12::x13::x14::x15::x16::x17::x18::x19::x20::x21::x22::x23::e'::L):=.there u23
theorem u25:Upd (x0::x1::x2::x3::x4::x5::x6::x7::x8::x9::x10::x11::x12::x13::x14::x15::x16::x17::x18::x19::x20::x21::x22::x23::x24::e::L) e e' (x0::x1::x2::x3::x4::x5::x6::x7::x8::x9::x10::x11::x12::x13::x14::x15::x16::x17::x18::x19::x20::x21::x22::x23::x24::e'::L):=.there u24
theorem u26:Upd (x0::x1::x2::x3::x4::x5::x6::x7::x8::x9::x10::x11::x12::x13::x14::x15::x16::x17::x18::x19::x20::x21::x22::x23::x24::x25::e::L) e e' (x0::x1::x2::x3::x4::x5::x6::x7::x8::x9::x10::x11::x12::x13::x14::x15::x16::x17::x18::x19::x20::x21::x22::x23::x24::x25::e'::L):=.there u25
theorem u27:Upd (x0::x1::x2::x3::x4::x5::x6::x7::x8::x9::x10::x11::x12::x13::x14::x15::x16::x17::x18::x19::x20::x21::x22::x23::x24::x25::x26::e::L) e e' (x0::x1::x2::x3::x4::x5::x6::x7::x8::x9::x10::x11::x12::x13::x14::x15::x16::x17::x18::x19::x20::x21::x22::x23::x24::x25::x26::e'::L):=.there u26
theorem u28:Upd (x0::x1::x2::x3::x4::x5::x6::x7::x8::x9::x10::x11::x12::x13::x14::x15::x16::x17::x18::x19::x20::x21::x22::x23::x24::x25::x26::x27::e::L) e e' (x0::x1::x2::x3::x4::x5::x6::x7::x8::x9::x10::x11::x12::x13::x14::x15::x16::x17::x18::x19::x20::x21::x22::x23::x24::x25::x26::x27::e'::L):=.there u27
theorem u29:Upd (x0::x1::x2::x3::x4::x5::x6::x7::x8::x9::x10::x11::x12::x13::x14::x15::x16::x17::x18::x19::x20::x21::x22::x23::x24::x25::x26::x27::x28::e::L) e e' (x0::x1::x2::x3::x4::x5::x6::x7::x8::x9::x10::x11::x12::x13::x14::x15::x16::x17::x18::x19::x20::x21::x22::x23::x24::x25::x26::x27::x28::e'::L):=.there u28
theorem u30:Upd (x0::x1::x2::x3::x4::x5::x6::x7::x8::x9::x10::x11::x12::x13::x14::x15::x16::x17::x18::x19::x20::x21::x22::x23::x24::x25::x26::x27::x28::x29::e::L) e e' (x0::x1::x2::x3::x4::x5::x6::x7::x8::x9::x10::x11::x12::x13::x14::x15::x16::x17::x18::x19::x20::x21::x22::x23::x24::x25::x26::x27::x28::x29::e'::L):=.there u29
theorem u31:Upd (x0::x1::x2::x3::x4::x5::x6::x7::x8::x9::x10::x11::x12::x13::x14::x15::x16::x17::x18::x19::x20::x21::x22::x23::x24::x25::x26::x27::x28::x29::x30::e::L) e e' (x0::x1::x2::x3::x4::x5::x6::x7::x8::x9::x10::x11::x12::x13::x14::x15::x16::x17::x18::x19::x20::x21::x22::x23::x24::x25::x26::x27::x28::x29::x30::e'::L):=.there u30
theorem u32:Upd (x0::x1::x2::x3::x4::x5::x6::x7::x8::x9::x10::x11::x12::x13::x14::x15::x16::x17::x18::x19::x20::x21::x22::x23::x24::x25::x26::x27::x28::x29::x30::x31::e::L) e e' (x0::x1::x2::x3::x4::x5::x6::x7::x8::x9::x10::x11::x12::x13::x14::x15::x16::x17::x18::x19::x20::x21::x22::x23::x24::x25::x26::x27::x28::x29::x30::x31::e'::L):=.there u31
end places

abbrev W (n:Int):Int:=IntKind.wrap .i64 n

@[reducible] def aF (x:Int):List Value:=[.int .i64 x]
theorem bQ:∀ x,(aF x).length=1∧sG (aF x)=true:=λ_=>⟨rfl,rfl⟩
def aQ {α:Type} (xs:List α) (i:Int):Option α:=if 0≤i then xs[i.toNat]? else none
theorem dQ {α:Type} {xs:List α} {i:Int} {x:α} (h:aQ xs i=some x):0≤i∧xs[i.toNat]?=some x:=by
 unfold aQ at h
 split at h
 ·exact ⟨‹_›,h⟩
 ·cases h

def nz (n:Int):Option Unit:=if n=0 then none else some ()
theorem aEd {n:Int} {u:Unit} (h:nz n=some u):¬ n=0:=by
 unfold nz at h
 split at h
 ·cases h
 ·assumption
def room (n:Nat):Option Unit:=if n≤1000000 then some () else none
theorem cZ {n:Nat} {u:Unit} (h:room n=some u):n≤1000000:=by
 unfold room at h
 split at h
 ·assumption
 ·cases h

theorem cU {α β:Type} {m:Option α} {f:α→Option β} {r:β} (h:Option.bind m f=some r):∃ x,m=some x∧f x=some r:=Option.bind_eq_some_iff.1 h
theorem cO {α:Type} {b:Bool} {A B r:α} (hb:b=true) (h:cond b A B=r):A=r:=by subst hb; exact h
theorem eG {α:Type} {b:Bool} {A B r:α} (hb:b=false) (h:cond b A B=r):B=r:=by subst hb; exact h

inductive bC (σ ρ:Type) where
 | cont (s:σ)
 | brk (s:σ)
 | ret (r:ρ)
inductive Ex (σ ρ:Type) where
 | go (s:σ)
 | out (r:ρ)

def aS {σ ρ:Type} (body:σ→Option (bC σ ρ)):Nat→σ→Option (Ex σ ρ)
 | 0,_=>none
 | n + 1,s=>
  match body s with
  | none=>none
  | some (.cont s')=>aS body n s'
  | some (.brk s')=>some (.go s')
  | some (.ret r)=>some (.out r)

def exK {σ ρ τ:Type} (x:Ex σ ρ) (f:σ→Option τ) (g:ρ→Option τ):Option τ :=
 match x with
 | .go s=>f s
 | .out r=>g r
theorem bI {σ ρ τ:Type} {s:σ} {f:σ→Option τ} {g:ρ→Option τ} {r:τ} (h:exK (.go s) f g=some r):f s=some r:=h

def Fin {σ ρ:Type} (x:Ex σ ρ):bC σ ρ→Prop
 | .cont _=>True
 | .brk s=>x=.go s
 | .ret r=>x=.out r

theorem cE {P:Program} {c:Code} {Q:Exit→Act→World→Prop} {σ ρ:Type} {body:σ→Option (bC σ ρ)} {S:σ→Act→World→Prop} {x:Ex σ ρ}
  (hb:∀ s st a w (K:Act→World→Prop),S s a w→body s=some st→Fin x st→(∀ s' a w,st=.cont s'→S s' a w→K a w)→c.wp P (Exit.then K Q) a w) :
  ∀ (n:Nat) (s:σ) (a:Act) (w:World),S s a w→aS body n s=some x→Code.rounds P c Q n a w
 | 0,_,_,_,_,h=>by simp [aS] at h
 | n + 1,s,a,w,hS,h=>by
  rw [rounds_succ]
  unfold aS at h
  cases hs:body s with
  | none=>simp [hs] at h
  | some st=>
   rw [hs] at h
   refine hb s st a w _ hS hs ?_ ?_
   ·cases st with
    | cont s'=>trivial
    | brk s'=>exact (Option.some.inj h).symm
    | ret r=>exact (Option.some.inj h).symm
   ·intro s' a' w' he hS'
    subst he
    exact cE hb n s' a' w' hS' h

theorem sR {P:Program} {c:Code} {Q:Exit→Act→World→Prop} {a:Act} {w:World} (h:∀ K:Act→World→Prop,(∀ a w,Q .normal a w→K a w)→c.wp P (Exit.then K Q) a w):c.wp P Q a w:=by
 refine wp_mono (h (Q .normal) λ_ _ h=>h) λe a w he=>?_
 cases e <;> exact he

theorem Rd.nil {G:cJ} (sz:Nat) (p:Option Addr) {cap:Nat} (h:cap≤maxLen:=by decide):Rd G sz p cap []:=⟨Nat.zero_le _,h,by simp,.inl rfl⟩

theorem Rd.atm {α:Type} {enc:α→List Value} {G:cJ} {sz cap:Nat} {p:Option Addr} {xs:List α} {i:Int} {x:α} (h:Rd G sz p cap (xs.map enc)) (hx:aQ xs i=some x):∃ b o,At p xs.length sz i b o∧PC G b o (enc x):=by
 obtain ⟨h0,hx⟩:=dQ hx
 have:=h.at h0 (r:=enc x) (by simp [hx])
 simpa using this

theorem gW {α:Type} {enc:α→List Value} {G:cJ} {L:List Ent} {w:World} {p:Option Addr} {cap T sz:Nat} {xs:List α} {i:Int} {x:α} (hc:Ctx G L w) (he:pD L (Ent.row p cap (xs.map enc) T sz)) (hx:aQ xs i=some x) :
  ∃ g,p=some ⟨g,0,none⟩∧At (some ⟨g,0,none⟩) xs.length sz i g (i.toNat * sz)∧(xs.map enc)[i.toNat]?=some (enc x):=by
 obtain ⟨h0,hx⟩:=dQ hx
 have hr:(xs.map enc)[i.toNat]?=some (enc x):=by simp [hx]
 obtain ⟨g,h1,h2⟩:=aTn hc he h0 hr
 subst h1
 exact ⟨g,rfl,by simpa using h2,hr⟩
theorem cK {α:Type} {enc:α→List Value} {G:cJ} {L:List Ent} {w:World} {g:Nat} {cap T sz:Nat} {xs:List α} {i:Int} {x:α} (hc:Ctx G L w) (he:pD L (Ent.row (some ⟨g,0,none⟩) cap (xs.map enc) T sz)) (hx:aQ xs i=some x) :
  At (some ⟨g,0,none⟩) xs.length sz i g (i.toNat * sz)∧(xs.map enc)[i.toNat]?=some (enc x):=by
 obtain ⟨g',h1,h2,h3⟩:=gW hc he hx
 simp only [Option.some.injEq,Addr.mk.injEq,and_true] at h1
 subst h1
 exact ⟨h2,h3⟩

theorem aPe {G:cJ} {L:List Ent} {g cap T sz i n o':Nat} {rows:List (List Value)} {r vs:List Value} (he:pD L (Ent.row (some ⟨g,0,none⟩) cap rows T sz)) (hr:rows[i]?=some r) (ho:(r.drop o').take n=vs) :
  ∀ j u,vs[j]?=some u→yQ G L ⟨g,i * sz + o' + j,none⟩ u:=λj u hu=>by
 subst ho
 rw [List.getElem?_take] at hu
 split at hu
 ·rw [List.getElem?_drop] at hu
  rw [Nat.add_assoc]
  exact cA he hr hu
 ·cases hu

theorem Ctx.unpick {G:cJ} {L L':List Ent} {w:World} {e:Ent} (h:Ctx G (e::L') w) (hp:uG L e L'):Ctx G L w:=h.perm hp.perm.symm
theorem lend {G:cJ} {L L':List Ent} {w:World} {p:Option Addr} {cap T sz:Nat} {rows:List (List Value)} (hc:Ctx G L w) (hp:uG L (.row p cap rows T sz) L') :
  ∃ G',G.le G'∧Rd G' sz p cap rows∧Ctx G' L' w∧∀ (Lx:List Ent) (w':World),Ctx G' Lx w'→Ctx G (.row p cap rows T sz::Lx) w':=by
 have h:=hc.pick hp
 obtain ⟨hl,hown⟩:=h.sat _ List.mem_cons_self
 obtain ⟨hs1,hs2⟩:=List.pairwise_cons.1 h.sep
 rcases hown.2 with ⟨hv,h0⟩ | ⟨g,cap',cur,hv,-,hg,hnc,hcm,hcs,htake⟩
 ·simp only [Value.slice.injEq] at hv
  obtain ⟨rfl,-,rfl⟩:=hv
  have hr:rows=[]:=List.eq_nil_of_length_eq_zero h0
  subst hr
  refine ⟨G,cJ.le_refl G,⟨Nat.le_refl _,Nat.zero_le _,by simp,.inl rfl⟩,h.tail,λLx w' h'=>h'.nilRow T sz⟩
 ·simp only [Value.slice.injEq] at hv
  obtain ⟨rfl,-,rfl⟩:=hv
  have hfr:G.blk g=none:=h.fresh _ List.mem_cons_self g rfl
  refine ⟨{ G with blk:=λb=>if b=g then some (.cells cur T (0,0)) else G.blk b },⟨λb o hb=>?_,rfl,rfl,rfl,rfl⟩,?_,?_,?_⟩
  ·have:b ≠ g:=λe=>by subst e; rw [hfr] at hb; cases hb
   simp [this,hb]
  ·refine ⟨hnc,hcm,hl,.inr ⟨g,0,rfl,cur,T,(0,0),by simp,?_⟩⟩
   intro i r hr j u hu
   have h1:=wX hu rows i hl hr
   have h2:cur.toList[i * sz + j]?=some u:=by
    rw [← htake,List.getElem?_take] at h1
    split at h1
    ·exact h1
    ·cases h1
   simpa using h2
  ·refine ⟨h.os,h.tape,h.output,h.sz,?_,λe he=>h.sat e (List.mem_cons_of_mem _ he),?_,hs2⟩
   ·intro b o hb
    simp only at hb
    split at hb
    ·rename_i e; subst e; simp only [Option.some.injEq] at hb; subst hb; exact hg
    ·exact h.pers b o hb
   ·intro e he b hb
    have hne:b ≠ g:=λe'=>hs1 e he g rfl (e' ▸ hb)
    simp [hne,h.fresh e (List.mem_cons_of_mem _ he) b hb]
  ·intro Lx w' h'
   have hb:w'.heap[g]?=some (.cells cur T (0,0)):=h'.pers g _ (by simp)
   refine ⟨h'.os,h'.tape,h'.output,h'.sz,?_,?_,?_,List.pairwise_cons.2 ⟨λe he b hb1 hb2=>?_,h'.sep⟩⟩
   ·intro b o hbo
    have:b ≠ g:=λe=>by subst e; rw [hfr] at hbo; cases hbo
    exact h'.pers b o (by simp [this,hbo])
   ·intro e he
    rcases List.mem_cons.1 he with rfl | he
    ·exact ⟨hl,hown.1,.inr ⟨g,_,cur,rfl,Nat.zero_le _,hb,hnc,hcm,hcs,htake⟩⟩
    ·exact h'.sat e he
   ·intro e he b hbe
    rcases List.mem_cons.1 he with rfl | he
    ·simp only [Ent.own,Option.map_some,Option.some.injEq] at hbe; subst hbe; exact hfr
    ·have:=h'.fresh e he b hbe
     simp only at this
     split at this
     ·cases this
     ·exact this
   ·simp only [Ent.own,Option.map_some,Option.some.injEq] at hb1
    subst hb1
    have:=h'.fresh e he _ hb2
    simp at this

theorem SlT.of {P:Program} {T e sz by':Nat} {z:Value} (h:P.underlying T=some (.slice e)) (hi:(P.info? e).map (λi=>(i.zero,i.size,i.bytes,z.cells.size))=some (some z,sz,by',sz)) (hs:0 < sz):SlT P T e sz by' z:=by
 refine ⟨h,?_⟩
 cases hx:P.info? e with
 | none=>simp [hx] at hi
 | some i=>
  simp only [hx,Option.map_some,Option.some.injEq,Prod.mk.injEq] at hi
  exact ⟨i,rfl,hi.1,hi.2.1,hi.2.2.1,hi.2.2.2,hs⟩

section quiet
variable {P:Program} {ops:Array Oper} {Q:Act→Prop} {a:Act} {C:World→Prop}

theorem aJt {l:List Oper} {Q Q':Act→Prop} (hq:∀ a,Q a→Q' a):∀ {a:Act},wpQuiet P ops C Q l a→wpQuiet P ops C Q' l a:=by
 induction l with
 | nil=>intro a h; exact hq _ h
 | cons o l ih=>
  intro a h
  unfold wpQuiet at h ⊢
  split
  ·rename_i hw
   rw [if_pos hw] at h
   obtain ⟨v,h1,h2⟩:=h
   exact ⟨v,h1,ih h2⟩
  ·rename_i hw
   rw [if_neg hw] at h
   exact ih h
theorem aHr {l m:List Oper}:∀ {a:Act},wpQuiet P ops C (wpQuiet P ops C Q m) l a→wpQuiet P ops C Q (l++m) a:=by
 induction l with
 | nil=>intro a h; exact h
 | cons o l ih=>
  intro a h
  rw [List.cons_append]
  unfold wpQuiet at h ⊢
  split
  ·rename_i hw
   rw [if_pos hw] at h
   obtain ⟨v,h1,h2⟩:=h
   exact ⟨v,h1,ih h2⟩
  ·rename_i hw
   rw [if_neg hw] at h
   exact ih h
theorem aB5 {l:List Oper} (n:Nat) (J:Act→Prop) (h1:wpQuiet P ops C J (l.take n) a) (h2:∀ a,J a→wpQuiet P ops C Q (l.drop n) a):wpQuiet P ops C Q l a:=by
 have:=aHr (P:=P) (ops:=ops) (C:=C) (Q:=Q) (m:=l.drop n) (aJt h2 h1)
 rwa [List.take_append_drop] at this
theorem sZ (h:Q a):wpQuiet P ops C Q [] a:=h
end quiet

section pure
variable {P:Program} {F:List (Nat × Value)} {ty:TypeId} {pos:String} {aft:Array Edge} {gd:Option (Nat × Bool)} {d:Option Tmp} {x y z t:Operand} {k:IntKind} {m n o q:Int} {ats:Array TypeId}
end pure
theorem pEqA {P:Program} {F:List (Nat × Value)} {d:Option Nat} {T T' ty:TypeId} {pos:String} {aft:Array Edge} {gd:Option (Nat × Bool)} {x y:Operand} {u v:Array Value} {b:Bool} (hm:P.eqGuardType P.depth T=false) (hx:ev F x=some (.agg u)) (hy:ev F y=some (.agg v)) (h:∀ w,(Op.equalIn 10000 T (.agg u) (.agg v)).run P w=.ok b w):Pu P ⟨d,.binOp .eql T x y T',ty,pos,aft,gd⟩ F (.bool b):=λN a w hf=>by
 simp only [execOp,hf.ev hx,hf.ev hy,Sem.run_bind,run_eqGuard_agg w _ _ _ _ _ _ hm,Result.andThen_ok,run_eql_struct,h,Sem.run_map,Sem.run_pure]
theorem aMc {P:Program} {F:List (Nat × Value)} {d:Option Nat} {T T' ty:TypeId} {pos:String} {aft:Array Edge} {gd:Option (Nat × Bool)} {x y:Operand} {u v:Array Value} {b:Bool} (hm:P.eqGuardType P.depth T=false) (hx:ev F x=some (.agg u)) (hy:ev F y=some (.agg v)) (h:∀ w,(Op.equalIn 10000 T (.agg u) (.agg v)).run P w=.ok b w):Pu P ⟨d,.binOp .neq T x y T',ty,pos,aft,gd⟩ F (.bool (!b)):=λN a w hf=>by
 simp only [execOp,hf.ev hx,hf.ev hy,Sem.run_bind,run_eqGuard_agg w _ _ _ _ _ _ hm,Result.andThen_ok,run_neq_struct,h,Sem.run_map,Sem.run_pure]
theorem aP {K:Act→World→Prop} {Q:Exit→Act→World→Prop} {i:Nat} {a:Act} {w:World} (h:Q (.exit i) a w):Exit.then K Q (.exit i) a w:=h
theorem aL {K:Act→World→Prop} {Q:Exit→Act→World→Prop} {a:Act} {w:World} (h:Q .ret a w):Exit.then K Q .ret a w:=h
theorem eS {K:Act→World→Prop} {Q:Exit→Act→World→Prop} {a:Act} {w:World} (h:K a w):Exit.then K Q .normal a w:=h
theorem aEn {Q:Exit→Act→World→Prop} {a:Act} {w:World} (h:Q .ret a w):Exit.noGoto Q .ret a w:=h
theorem bG {i:Nat} {Q:Exit→Act→World→Prop} {a:Act} {w:World} (h:Q .ret a w):Exit.inBlock i Q .ret a w:=h
end Go.Nilo
