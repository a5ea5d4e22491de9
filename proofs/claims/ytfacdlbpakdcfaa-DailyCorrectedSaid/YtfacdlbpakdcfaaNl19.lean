/-
  Marks as a list: ranges over a function within loops. Conditions: what each theorem names.
-/
import Derived.Test.YtfacdlbpakdcfaaNl18
set_option linter.unusedSimpArgs false
set_option linter.unusedVariables false
namespace Go.Nilo
def markL (Ds : List Nat) : List Deferred := Ds.map markOf
def raws (Ds : List Nat) : List Ent := Ds.map fun D => .raw D (.deferred (some []))
theorem rawsIn {G : Pers} {w : World} {e : Ent} {C L T : List Ent} (hc : Ctx G (e::(C ++ (L ++ T))) w) : Ctx G (C ++ (L ++ (e::T))) w :=
 hc.perm (by
  have h1 : (C ++ (L ++ (e::T))) = (C ++ L) ++ e::T := by simp
  have h2 : (C ++ (L ++ T)) = (C ++ L) ++ T := by simp
  rw [h1,h2]
  exact List.perm_middle.symm)
theorem upd_app {e e' : Ent} {M : List Ent} : ∀ own : List Ent,Upd (own ++ e::M) e e' (own ++ e'::M)
 | [] => .here
 | _::own => .there (upd_app own)
theorem outML {P : Program} {fn : Func} {R : Ending → World → Prop} {tmps : Array Value} {G : Pers} {Lf : List Ent} (own : List Ent) : ∀ (Ds : List Nat) {w : World},
  Ctx G (own ++ (raws Ds ++ Lf)) w → (∀ w,Ctx G (own ++ Lf) w → Lv P fn R tmps [] w) → Lv P fn R tmps (markL Ds) w
 | [],w,hc,h => h w hc
 | D::Ds,w,hc,h => by
  refine outMc (D := D) (ds := markL Ds) hc (List.mem_append.2 (.inr List.mem_cons_self)) (upd_app own) fun w' hc' => outML own Ds ?_ h
  exact (hc'.perm List.perm_middle).tail
end Go.Nilo
