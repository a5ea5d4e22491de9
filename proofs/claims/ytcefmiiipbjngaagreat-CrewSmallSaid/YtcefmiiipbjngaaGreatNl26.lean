/-
  Slices of slices that stay as they are: each element is a slice that nothing writes. Conditions: what each theorem names.
-/
import Derived.Test.YtcefmiiipbjngaaGreatNl25
set_option linter.unusedSimpArgs false
set_option linter.unusedVariables false
namespace Go.Nilo
theorem Ctx.down {G G':cJ} {L:List Ent} {w:World} (h:Ctx G' L w) (hle:G.le G'):Ctx G L w:=by
 obtain ⟨h1,h2,h3,h4,h5⟩:=hle
 refine ⟨h.os.trans h2,h.tape.trans h3,h.output.trans h4,h5 ▸ h.sz,λb o hb=>h.pers b o (h1 b o hb),h.sat,λe he b hb=>?_,h.sep⟩
 have:=h.fresh e he b hb
 cases hg:G.blk b with
 | none=>rfl
 | some o=>rw [h1 b o hg] at this; cases this
abbrev Hd:=Option Addr × Nat × Nat
def aGm {α:Type} (G:cJ) (sz:Nat) (enc:α→List Value):List (List Value)→List (List α)→Prop
 | [],[]=>True
 | r::rs,xs::xss=>(∃ q c,r=[.slice q xs.length c]∧Rd G sz q c (xs.map enc))∧aGm G sz enc rs xss
 | _,_=>False
theorem aGm.len {α:Type} {G:cJ} {sz:Nat} {enc:α→List Value}:∀ {rs:List (List Value)} {xss:List (List α)},aGm G sz enc rs xss→rs.length=xss.length
 | [],[],_=>rfl
 | r::rs,xs::xss,h=>by simp [aGm.len h.2]
 | [],_::_,h=>h.elim
 | _::_,[],h=>h.elim
theorem aGm.at {α:Type} {G:cJ} {sz:Nat} {enc:α→List Value}:∀ {rs:List (List Value)} {xss:List (List α)} {i:Nat} {xs:List α},aGm G sz enc rs xss→xss[i]?=some xs→∃ q c,rs[i]?=some [.slice q xs.length c]∧Rd G sz q c (xs.map enc)
 | r::rs,xs::xss,0,ys,h,hx=>by
  obtain ⟨⟨q,c,h1,h2⟩,-⟩:=h
  have e:xs=ys:=by simpa using hx
  subst e
  exact ⟨q,c,by simp [h1],h2⟩
 | r::rs,xs::xss,i + 1,ys,h,hx=>by
  obtain ⟨q,c,h1,h2⟩:=aGm.at h.2 (i:=i) (by simpa using hx)
  exact ⟨q,c,by simpa using h1,h2⟩
 | [],[],_,_,_,hx=>by simp at hx
 | [],_::_,_,_,h,_=>h.elim
 | _::_,[],_,_,h,_=>h.elim
theorem aGm.mono {α:Type} {G G':cJ} {sz:Nat} {enc:α→List Value} (hle:G.le G'):∀ {rs:List (List Value)} {xss:List (List α)},aGm G sz enc rs xss→aGm G' sz enc rs xss
 | [],[],_=>trivial
 | r::rs,xs::xss,h=>⟨by obtain ⟨q,c,h1,h2⟩:=h.1; exact ⟨q,c,h1,h2.mono hle⟩,aGm.mono hle h.2⟩
 | [],_::_,h=>h.elim
 | _::_,[],h=>h.elim
def Rd2 {α:Type} (G:cJ) (sz:Nat) (enc:α→List Value) (p:Option Addr) (cap:Nat) (xss:List (List α)):Prop:=∃ rows,Rd G 1 p cap rows∧aGm G sz enc rows xss
theorem Rd2.mono {α:Type} {G G':cJ} {sz cap:Nat} {enc:α→List Value} {p:Option Addr} {xss:List (List α)} (h:Rd2 G sz enc p cap xss) (hle:G.le G'):Rd2 G' sz enc p cap xss:=by
 obtain ⟨rows,h1,h2⟩:=h
 exact ⟨rows,h1.mono hle,h2.mono hle⟩
theorem Rd2.atm {α:Type} {G:cJ} {sz cap:Nat} {enc:α→List Value} {p:Option Addr} {xss:List (List α)} {i:Int} {xs:List α} (h:Rd2 G sz enc p cap xss) (hx:aQ xss i=some xs) :
  ∃ b o q c,At p xss.length 1 i b o∧PC G b o [.slice q xs.length c]∧Rd G sz q c (xs.map enc):=by
 obtain ⟨rows,h1,h2⟩:=h
 obtain ⟨h0,hx'⟩:=dQ hx
 obtain ⟨q,c,h3,h4⟩:=h2.at hx'
 obtain ⟨b,o,h5,h6⟩:=h1.at h0 h3
 rw [h2.len] at h5
 exact ⟨b,o,q,c,h5,h6,h4⟩
end Go.Nilo
