/-
  Parts of lists that are taken out or put in, as slices.Delete and slices.Insert do it; rows of the call's own as cells. Conditions: what each theorem names.
-/
import Derived.Test.YtfacdlbpakdcfaaNl15
import Derived.Deep.RegionLaw
import Derived.Lib.SliceRun
import Derived.WalkKit
import Derived.Laws.IdiomCopy
import Derived.Shelf.RegionOpenPlain
import Derived.Below
import Derived.Laws.Externs
import Derived.Lib.Overlaps
import Derived.Lib.JoinLaws
import Derived.Shelf.Spec.SlicesInsert
import Derived.Lib.AppendZerosOnto
set_option linter.unusedSimpArgs false
set_option linter.unusedVariables false
namespace Go.Nilo
theorem row_cells {G : Pers} {L : List Ent} {w : World} {p : Option Addr} {cap T sz : Nat} {rows : List (List Value)} (hc : Ctx G (.row p cap rows T sz::L) w) :
  (p = none ∧ rows = [] ∧ cap = 0) ∨ ∃ g cur,p = some ⟨g,0,none⟩ ∧ w.heap[g]? = some (.cells cur T (0,0)) ∧ cur.size = cap * sz ∧ rows.length ≤ cap ∧ cap ≤ maxLen ∧ cur.toList.take (rows.length * sz) = rows.flatten := by
 obtain ⟨hrl,hl,h⟩ := hc.sat _ List.mem_cons_self
 rcases h with ⟨hv,h0⟩ | ⟨g,cap',cur,hv,-,hg,hn,hm,hs,ht⟩
 ·simp only [Value.slice.injEq] at hv
  exact .inl ⟨hv.1,List.eq_nil_of_length_eq_zero h0,hv.2.2⟩
 ·simp only [Value.slice.injEq] at hv
  obtain ⟨rfl,-,rfl⟩ := hv
  exact .inr ⟨g,cur,rfl,hg,hs,hn,hm,ht⟩
theorem maxLen_le {n : Nat} (h : n ≤ maxLen) : n ≤ 9223372036854775807 := by
 unfold maxLen at h
 omega
end Go.Nilo
