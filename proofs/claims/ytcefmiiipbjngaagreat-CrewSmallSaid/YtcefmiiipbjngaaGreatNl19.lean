/-
  Marks as a list: ranges over a function within loops. Conditions: what each theorem names.
-/
import Derived.Test.YtcefmiiipbjngaaGreatNl18
set_option linter.unusedSimpArgs false
set_option linter.unusedVariables false
namespace Go.Nilo
def zU (Ds:List Nat):List Deferred:=Ds.map xN
def aDg (Ds:List Nat):List Ent:=Ds.map λD=>.raw D (.deferred (some []))
theorem aFi {G:cJ} {w:World} {e:Ent} {C L T:List Ent} (hc:Ctx G (e::(C++(L++T))) w):Ctx G (C++(L++(e::T))) w :=
 hc.perm (by
  have h1:(C++(L++(e::T)))=(C++L)++e::T:=by simp
  have h2:(C++(L++T))=(C++L)++T:=by simp
  rw [h1,h2]
  exact List.perm_middle.symm)
theorem aSt {n:Nat} {a:Act} {F:List (Nat × Value)} (h:Has ⟨n,[]⟩ a F):Has ⟨n,zU []⟩ a F:=h
theorem aNo {e e':Ent} {M:List Ent}:∀ own:List Ent,Upd (own++e::M) e e' (own++e'::M)
 | []=>.here
 | _::own=>.there (aNo own)
theorem aLa {P:Program} {fn:Func} {R:Ending→World→Prop} {tmps:Array Value} {G:cJ} {Lf:List Ent} (own:List Ent):∀ (Ds:List Nat) {w:World},
  Ctx G (own++(aDg Ds++Lf)) w→(∀ w,Ctx G (own++Lf) w→Lv P fn R tmps [] w)→Lv P fn R tmps (zU Ds) w
 | [],w,hc,h=>h w hc
 | D::Ds,w,hc,h=>by
  refine outMc (D:=D) (ds:=zU Ds) hc (List.mem_append.2 (.inr List.mem_cons_self)) (aNo own) λw' hc'=>aLa own Ds ?_ h
  exact (hc'.perm List.perm_middle).tail
end Go.Nilo
