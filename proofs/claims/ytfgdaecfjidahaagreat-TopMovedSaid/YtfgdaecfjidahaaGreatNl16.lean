/-
  Parts of lists that are taken out or put in, as slices.Delete and slices.Insert do it; rows of the call's own as cells. Conditions: what each theorem names.
-/
import Derived.Test.YtfgdaecfjidahaaGreatNl15
import Derived.Deep.RegionLaw
import Derived.Lib.SliceRun
import Derived.WalkKit
import Derived.Laws.IdiomCopy
import Derived.Shelf.RegionOpenPlain
import Derived.Below
import Derived.Laws.Externs
import Derived.Lib.Overlaps
import Derived.Lib.JoinLaws
import Derived.Shelf.Spec.SlicesInsert
import Derived.Lib.AppendZerosOnto
set_option linter.unusedSimpArgs false
set_option linter.unusedVariables false
namespace Go.Nilo
def aIu (cur:Array Value) (o:Nat):List Value→Array Value
 | []=>cur
 | v::r=>aIu (cur.setIfInBounds o v) (o + 1) r
theorem wM (g:Nat):∀ (vs:List Value) (o:Nat) (w:World) (cur:Array Value) (T:TypeId) (fr:Nat × Nat),w.heap[g]?=some (.cells cur T fr) →
  (w.setCells g o vs).heap[g]?=some (.cells (aIu cur o vs) T fr)∧(∀ b,b ≠ g→(w.setCells g o vs).heap[b]?=w.heap[b]?)∧(w.setCells g o vs).heap.size=w.heap.size∧(w.setCells g o vs).os=w.os∧(w.setCells g o vs).tape=w.tape∧(w.setCells g o vs).output=w.output
 | [],_,_,_,_,_,h=>⟨h,fun _ _=>rfl,rfl,rfl,rfl,rfl⟩
 | v::r,o,w,cur,T,fr,h=>by
  have h1:(w.setCell ⟨g,o,none⟩ v).heap[g]?=some (.cells (cur.setIfInBounds o v) T fr):=by
   show (w.heap.modify g _)[g]?=_
   rw [Array.getElem?_modify,if_pos rfl,h]
   rfl
  obtain ⟨a1,a2,a3,a4,a5,a6⟩:=wM g r (o + 1) (w.setCell ⟨g,o,none⟩ v) _ T fr h1
  refine ⟨a1,fun b hb=>(a2 b hb).trans ?_,a3.trans ?_,a4,a5,a6⟩
  ·show (w.heap.modify g _)[b]?=_
   rw [Array.getElem?_modify,if_neg (fun e=>hb e.symm)]
  ·show (w.heap.modify g _).size=_
   simp

theorem aCl {P:Program} (w:World) (t e ty:TypeId) (z:Value) (ht:P.underlying t=some (.slice e)) (hv:∀ w,(zeroValue e).run P w=.ok z w) (h1:∀ n,∀ v ∈ (Builtin.zeroCells z.cells n).toList,v.oneCell'=true) (b o n c:Nat) (hn:0 < n)
  (hc:∀ j,j < n * z.cells.size→(w.cell? ⟨b,o + j,none⟩).isSome=true) (hf:∀ j,j < n * z.cells.size→w.frozen? ⟨b,o + j,none⟩=false) :
  (Builtin.clear_ #[t] ty #[.slice (some ⟨b,o,none⟩) n c]).run P w=.ok (.tuple #[]) (w.setCells b o (Builtin.zeroCells z.cells n).toList):=by
 have hl:(Builtin.zeroCells z.cells n).toList.length=n * z.cells.size:=by rw [Array.length_toList,size_zeroCells]
 have hst:=run_storeCells_cells (P:=P) b o (Builtin.zeroCells z.cells n).toList 0 w (by rw [hl]; simpa using hc) (by rw [hl]; simpa using hf) (h1 n)
 simp only [Nat.add_zero] at hst
 obtain ⟨m,rfl⟩:∃ m,n=m + 1:=⟨n - 1,by omega⟩
 simp [Builtin.clear_,run_underlying ht,hv,hst]
end Go.Nilo
