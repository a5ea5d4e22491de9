/-
  Several steps at once: operations that are passed by, operations that compute, in code that is quiet, too. Conditions: what each theorem names.
-/
import Derived.Test.YtcefmiiipbjngaaGreatNl34
set_option linter.unusedSimpArgs false
set_option linter.unusedVariables false
namespace Go.Nilo
open Go.Proofs
def sks (ops:Array Oper) (m:Nat):Nat→List (Nat × Value)→List Oper→Option (List (Nat × Value) × List Oper)
  | 0, F, l=>some (F, l)
  | _ + 1, _, []=>none
  | n + 1, F, o :: l=>match vJ ops F o with
    | some false=>match o.dst with
      | some d=>match Nat.blt d m with
        | true=>sks ops m n ((d, undef) :: F) l
        | false=>none
      | none=>none
    | _=>none
section sk_
variable {P:Program} {ops:Array Oper} {N:Fm} {F':List (Nat × Value)} {l':List Oper}
theorem sk_ {Q:Exit→Act→World→Prop}:∀ (n:Nat) {F:List (Nat × Value)} {l:List Oper} {a:Act} {w:World}, Has N a F→sks ops N.n n F l=some (F', l')→(∀ a, Has N a F'→wpList P ops Q l' a w)→wpList P ops Q l a w
  | 0, F, l, a, w, hf, h, k=>by
    simp only [sks, Option.some.injEq, Prod.mk.injEq] at h
    obtain ⟨rfl, rfl⟩:=h
    exact k a hf
  | n + 1, F, [], a, w, hf, h, k=>nomatch h
  | n + 1, F, o :: l, a, w, hf, h, k=>by
    unfold sks at h
    split at h
    · rename_i hg
      split at h
      · rename_i d hd
        split at h
        · rename_i hN
          exact stS hf hg hd hN λa hf=>sk_ n hf h k
        · cases h
      · cases h
    · cases h
theorem qk_ {G:cJ} {L:List Ent} {Q:Act→Prop}:∀ (n:Nat) {F:List (Nat × Value)} {l:List Oper} {a:Act}, Has N a F→sks ops N.n n F l=some (F', l')→(∀ a, Has N a F'→wpQuiet P ops (Ctx G L) Q l' a)→wpQuiet P ops (Ctx G L) Q l a
  | 0, F, l, a, hf, h, k=>by
    simp only [sks, Option.some.injEq, Prod.mk.injEq] at h
    obtain ⟨rfl, rfl⟩:=h
    exact k a hf
  | n + 1, F, [], a, hf, h, k=>nomatch h
  | n + 1, F, o :: l, a, hf, h, k=>by
    unfold sks at h
    split at h
    · rename_i hg
      split at h
      · rename_i d hd
        split at h
        · rename_i hN
          exact qS hf hg hd hN λa hf=>qk_ n hf h k
        · cases h
      · cases h
    · cases h
theorem qp_ {G:cJ} {L:List Ent} {Q:Act→Prop}:∀ (n:Nat) {F:List (Nat × Value)} {l:List Oper} {a:Act}, Has N a F→exs ops N.n n F l=some (F', l')→(∀ a, Has N a F'→wpQuiet P ops (Ctx G L) Q l' a)→wpQuiet P ops (Ctx G L) Q l a
  | 0, F, l, a, hf, h, k=>by
    simp only [exs, Option.some.injEq, Prod.mk.injEq] at h
    obtain ⟨rfl, rfl⟩:=h
    exact k a hf
  | n + 1, F, [], a, hf, h, k=>nomatch h
  | n + 1, F, o :: l, a, hf, h, k=>by
    unfold exs at h
    split at h
    · rename_i hg
      split at h
      · rename_i d hd
        split at h
        · rename_i hN
          split at h
          · rename_i v hv
            exact qE hf hg hd hN (Pu.ev (aPw hv)) λa hf=>qp_ n hf h k
          · cases h
        · cases h
      · cases h
    · rename_i hg
      split at h
      · rename_i d hd
        split at h
        · rename_i hN
          exact qS hf hg hd hN λa hf=>qp_ n hf h k
        · cases h
      · cases h
    · cases h
theorem qV {G:cJ} {L:List Ent} {Q:Act→Prop} {o:Oper} {rest:List Oper} {a:Act} {F:List (Nat × Value)} {d:Nat} {v:Value} (hf:Has N a F) (h:pre ops N.n F o=some d) (e:Ev P o N F G L v) (k:∀ a, Has N a ((d, v) :: F)→wpQuiet P ops (Ctx G L) Q rest a):wpQuiet P ops (Ctx G L) Q (o :: rest) a :=
  let ⟨h1, h2, h3⟩:=aFf h
  qE hf h1 h2 h3 e k
theorem qU {G:cJ} {L:List Ent} {Q:Act→Prop} {o:Oper} {rest:List Oper} {a:Act} {F:List (Nat × Value)} {d:Nat} {v:Value} (hf:Has N a F) (h:pre ops N.n F o=some d) (e:Pu P o F v) (k:∀ a, Has N a ((d, v) :: F)→wpQuiet P ops (Ctx G L) Q rest a):wpQuiet P ops (Ctx G L) Q (o :: rest) a :=
  qV hf h (Pu.ev e) k
end sk_
theorem cB {σ ρ:Type} {x:Ex σ ρ} {s s':bC σ ρ} (h:some s=some s') (f:Fin x s'):Fin x s:=by
  cases h
  exact f
theorem finQ {σ ρ:Type} {x:Ex σ ρ} {s s':bC σ ρ} (h:s=s') (f:Fin x s'):Fin x s:=by
  cases h
  exact f
@[reducible] def f0 (d:Nat) (v:Value):Fa:=⟨none, none, d, v⟩
@[reducible] def f1 (q d:Nat) (v:Value):Fa:=⟨some q, none, d, v⟩
@[reducible] def Cl (P:Program) (G:cJ) (f:Nat) (vs:Array Value) (w:World) (v:Value) (L:List Ent):Prop:=Calls P f vs w λe w=>e=.returned v∧Ctx G L w
@[reducible] def sa (b:Nat):Option Addr:=some ⟨b, 0, none⟩
theorem aH {α β:Type} {x:Option α} {f:α→Option β} {r:β} {C:Prop} (h:Option.bind x f=some r) (k:∀ y, x=some y→f y=some r→C):C:=by
  cases x with
  | none=>cases h
  | some y=>exact k y rfl h
/-- the functions that can be entered -/
def enB (P:Program) (f:Nat):Bool:=match P.funcs[f]? with
  | some fn => !(fn.name == "runtime.NumGoroutine") && !fn.body.isNone
  | none=>false
theorem enAll {P:Program} {M n:Nat} (h:((List.range n).all λf=>!Nat.testBit M f || enB P f)=true) (f:Nat) (hn:Nat.blt f n=true) (hf:Nat.testBit M f=true):En P f:=by
  have h1:=List.all_eq_true.1 h f (List.mem_range.2 (by rw [Nat.blt_eq] at hn; exact hn))
  rw [hf, Bool.not_true, Bool.false_or] at h1
  unfold enB at h1
  split at h1
  · rename_i fn hfn
    simp only [Bool.and_eq_true, Bool.not_eq_true'] at h1
    exact En.of hfn h1.1 h1.2
  · cases h1
/-- A row of a table is taken out, by its place. -/
theorem aHf {α:Type} {K:Kd α} {G:cJ} {L:List Ent} {w:World} {hs:Hds} {xs:List α} {i:Int} {x:α} {g T sz:Nat} {rows:List (List Value)} (hc:Ctx G (bX K (aO hs xs) :: L) w) (hx:aQ xs i=some x)
    (hK:K.ent (hs i.toNat) x=.row (hs i.toNat).1 (hs i.toNat).2 rows T sz) (hg:(hs i.toNat).1=some ⟨g, 0, none⟩) :
    Ctx G (.row (some ⟨g, 0, none⟩) (hs i.toNat).2 rows T sz :: bX K ((aO hs xs).eraseIdx i.toNat) :: L) w:=by
  have h:=aEv hc hx
  rw [hK, hg] at h
  exact h
/-- It was changed where it lies, and is put back. -/
theorem aGz {α:Type} {K:Kd α} {G:cJ} {L:List Ent} {w:World} {hs:Hds} {xs:List α} {i:Int} {x y:α} {p:Option Addr} {c eT g T sz sz':Nat} {rows:List (List Value)} (hx:aQ xs i=some x) (hg:(hs i.toNat).1=some ⟨g, 0, none⟩)
    (hK:K.ent (hs i.toNat) y=.row (hs i.toNat).1 (hs i.toNat).2 rows T sz) (hv:K.val (hs i.toNat) x=K.val (hs i.toNat) y)
    (hc:Ctx G (.row (some ⟨g, 0, none⟩) (hs i.toNat).2 rows T sz :: .row p c ((aO hs xs).map K.v) eT sz' :: bX K ((aO hs xs).eraseIdx i.toNat) :: L) w) :
    Ctx G (.row p c ((aO hs (xs.set i.toNat y)).map K.v) eT sz' :: bX K (aO hs (xs.set i.toNat y)) :: L) w:=by
  rw [← hg, ← hK] at hc
  exact aH0 hx hv hc
end Go.Nilo
