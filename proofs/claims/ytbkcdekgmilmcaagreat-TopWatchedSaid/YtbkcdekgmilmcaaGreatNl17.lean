/-
  Slices that stay where they are, with other elements. Conditions: what each theorem names.
-/
import Derived.Test.YtbkcdekgmilmcaaGreatNl16
set_option linter.unusedSimpArgs false
set_option linter.unusedVariables false
namespace Go.Nilo
def pN {α:Type} (xs ys:List α):Option Unit:=if xs.length=ys.length then some () else none
theorem rI {α β:Type} {xs ys:List α} {f:Unit→Option β} {r:β} (h:Option.bind (pN xs ys) f=some r):∃ u,xs.length=ys.length∧f u=some r:=by
 unfold pN at h
 by_cases hl:xs.length=ys.length
 ·rw [if_pos hl] at h
  exact ⟨(),hl,h⟩
 ·rw [if_neg hl] at h
  simp at h
end Go.Nilo
