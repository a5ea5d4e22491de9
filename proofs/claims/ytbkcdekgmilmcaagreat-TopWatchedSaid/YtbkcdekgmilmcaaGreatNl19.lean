/-
  Marks as a list: ranges over a function within loops. Conditions: what each theorem names.
-/
import Derived.Test.YtbkcdekgmilmcaaGreatNl18
set_option linter.unusedSimpArgs false
set_option linter.unusedVariables false
namespace Go.Nilo
def tE (Ds:List Nat):List Deferred:=Ds.map aA2
def aAc (Ds:List Nat):List Ent:=Ds.map fun D=>.raw D (.deferred (some []))
theorem vJ {G:aT} {w:World} {e:Ent} {C L T:List Ent} (hc:Ctx G (e::(C++(L++T))) w):Ctx G (C++(L++(e::T))) w :=
 hc.perm (by
  have h1:(C++(L++(e::T)))=(C++L)++e::T:=by simp
  have h2:(C++(L++T))=(C++L)++T:=by simp
  rw [h1,h2]
  exact List.perm_middle.symm)
theorem markZ {n:Nat} {a:Act} {F:List (Nat × Value)} (h:Has ⟨n,[]⟩ a F):Has ⟨n,tE []⟩ a F:=h
theorem aJ2 {e e':Ent} {M:List Ent}:∀ own:List Ent,Upd (own++e::M) e e' (own++e'::M)
 | []=>.here
 | _::own=>.there (aJ2 own)
theorem aAr {P:Program} {fn:Func} {R:Ending→World→Prop} {tmps:Array Value} {G:aT} {Lf:List Ent} (own:List Ent):∀ (Ds:List Nat) {w:World},
  Ctx G (own++(aAc Ds++Lf)) w→(∀ w,Ctx G (own++Lf) w→Lv P fn R tmps [] w)→Lv P fn R tmps (tE Ds) w
 | [],w,hc,h=>h w hc
 | D::Ds,w,hc,h=>by
  refine outMc (D:=D) (ds:=tE Ds) hc (List.mem_append.2 (.inr List.mem_cons_self)) (aJ2 own) fun w' hc'=>aAr own Ds ?_ h
  exact (hc'.perm List.perm_middle).tail
end Go.Nilo
