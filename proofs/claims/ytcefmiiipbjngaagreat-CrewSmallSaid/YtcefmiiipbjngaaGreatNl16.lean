/-
  Parts of lists that are taken out or put in, as slices.Delete and slices.Insert do it; rows of the call's own as cells. Conditions: what each theorem names.
-/
import Derived.Test.YtcefmiiipbjngaaGreatNl15
import Derived.Deep.RegionLaw
import Derived.Lib.SliceRun
import Derived.WalkKit
import Derived.Laws.IdiomCopy
import Derived.Shelf.RegionOpenPlain
import Derived.Below
import Derived.Laws.Externs
import Derived.Lib.Overlaps
import Derived.Lib.JoinLaws
import Derived.Shelf.Spec.SlicesInsert
import Derived.Lib.AppendZerosOnto
set_option linter.unusedSimpArgs false
set_option linter.unusedVariables false
namespace Go.Nilo
def aJo (cur:Array Value) (o:Nat):List Value→Array Value
 | []=>cur
 | v::r=>aJo (cur.setIfInBounds o v) (o + 1) r
theorem aIs:∀ (vs:List Value) (cur:Array Value) (o:Nat),(aJo cur o vs).size=cur.size
 | [],_,_=>rfl
 | v::r,cur,o=>by
  unfold aJo
  rw [aIs r]
  simp
theorem aEt:∀ (vs:List Value) (cur:Array Value) (o k:Nat),(k < o ∨ o + vs.length≤k)→(aJo cur o vs)[k]?=cur[k]?
 | [],_,_,_,_=>rfl
 | v::r,cur,o,k,h=>by
  unfold aJo
  simp only [List.length_cons] at h
  rw [aEt r _ (o + 1) k (by omega),Array.getElem?_setIfInBounds,if_neg (by omega)]
theorem aNy:∀ (vs:List Value) (cur:Array Value) (o k:Nat),k < vs.length→o + vs.length≤cur.size→(aJo cur o vs)[o + k]?=vs[k]?
 | [],_,_,k,h,_=>by simp at h
 | v::r,cur,o,0,_,h2=>by
  unfold aJo
  simp only [List.length_cons] at h2
  rw [aEt r _ (o + 1) (o + 0) (by omega),Array.getElem?_setIfInBounds,if_pos (by omega),if_pos (by omega)]
  rfl
 | v::r,cur,o,k + 1,h1,h2=>by
  unfold aJo
  simp only [List.length_cons] at h1 h2
  have:=aNy r (cur.setIfInBounds o v) (o + 1) k (by omega) (by simp; omega)
  rw [show o + (k + 1)=o + 1 + k by omega,this]
  rfl
theorem aDh (g:Nat):∀ (vs:List Value) (o:Nat) (w:World) (cur:Array Value) (T:TypeId) (fr:Nat × Nat),w.heap[g]?=some (.cells cur T fr) →
  (w.setCells g o vs).heap[g]?=some (.cells (aJo cur o vs) T fr)∧(∀ b,b ≠ g→(w.setCells g o vs).heap[b]?=w.heap[b]?)∧(w.setCells g o vs).heap.size=w.heap.size∧(w.setCells g o vs).os=w.os∧(w.setCells g o vs).tape=w.tape∧(w.setCells g o vs).output=w.output
 | [],_,_,_,_,_,h=>⟨h,λ_ _=>rfl,rfl,rfl,rfl,rfl⟩
 | v::r,o,w,cur,T,fr,h=>by
  have h1:(w.setCell ⟨g,o,none⟩ v).heap[g]?=some (.cells (cur.setIfInBounds o v) T fr):=by
   show (w.heap.modify g _)[g]?=_
   rw [Array.getElem?_modify,if_pos rfl,h]
   rfl
  obtain ⟨a1,a2,a3,a4,a5,a6⟩:=aDh g r (o + 1) (w.setCell ⟨g,o,none⟩ v) _ T fr h1
  refine ⟨a1,λb hb=>(a2 b hb).trans ?_,a3.trans ?_,a4,a5,a6⟩
  ·show (w.heap.modify g _)[b]?=_
   rw [Array.getElem?_modify,if_neg (λe=>hb e.symm)]
  ·show (w.heap.modify g _).size=_
   simp

theorem aFm {G:cJ} {L:List Ent} {w:World} {p:Option Addr} {cap T sz:Nat} {rows:List (List Value)} (hc:Ctx G (.row p cap rows T sz::L) w) :
  (p=none∧rows=[]∧cap=0) ∨ ∃ g cur,p=some ⟨g,0,none⟩∧w.heap[g]?=some (.cells cur T (0,0))∧cur.size=cap * sz∧rows.length≤cap∧cap≤maxLen∧cur.toList.take (rows.length * sz)=rows.flatten:=by
 obtain ⟨hrl,hl,h⟩:=hc.sat _ List.mem_cons_self
 rcases h with ⟨hv,h0⟩ | ⟨g,cap',cur,hv,-,hg,hn,hm,hs,ht⟩
 ·simp only [Value.slice.injEq] at hv
  exact .inl ⟨hv.1,List.eq_nil_of_length_eq_zero h0,hv.2.2⟩
 ·simp only [Value.slice.injEq] at hv
  obtain ⟨rfl,-,rfl⟩:=hv
  exact .inr ⟨g,cur,rfl,hg,hs,hn,hm,ht⟩
theorem aOp {G:cJ} {L:List Ent} {w w':World} {g cap T sz:Nat} {rows rows':List (List Value)} {cur':Array Value} (hc:Ctx G (.row (some ⟨g,0,none⟩) cap rows T sz::L) w)
  (h1:w'.os=w.os) (h2:w'.tape=w.tape) (h3:w'.output=w.output) (h4:w'.heap.size=w.heap.size) (hb:∀ b,b ≠ g→w'.heap[b]?=w.heap[b]?) (hg:w'.heap[g]?=some (.cells cur' T (0,0)))
  (hs:cur'.size=cap * sz) (hn:rows'.length≤cap) (hm:cap≤maxLen) (hr:∀ r ∈ rows',r.length=sz) (ht:cur'.toList.take (rows'.length * sz)=rows'.flatten):Ctx G (.row (some ⟨g,0,none⟩) cap rows' T sz::L) w':=by
 refine hc.upd h1 h2 h3 (by omega) (λb _ hne=>hb b (λe=>hne (by simp [Ent.own,e]))) ⟨hr,eI rows' hr,.inr ⟨g,cap,cur',rfl,Nat.zero_le _,hg,hn,hm,hs,ht⟩⟩ (λb hbf=>.inl hbf)
theorem aC5 {sz:Nat}:∀ (rows:List (List Value)) (i:Nat),(∀ r ∈ rows,r.length=sz)→(rows.take i).flatten=rows.flatten.take (i * sz)
 | [],i,_=>by simp
 | r::rows,0,_=>by simp
 | r::rows,i + 1,h=>by
  have hr:r.length=sz:=h r List.mem_cons_self
  rw [List.take_succ_cons,List.flatten_cons,List.flatten_cons,aC5 rows i (λx hx=>h x (List.mem_cons_of_mem _ hx)),Nat.succ_mul,Nat.add_comm (i * sz),← hr,List.take_length_add_append]
theorem aFo {sz:Nat}:∀ (rows:List (List Value)) (i:Nat),(∀ r ∈ rows,r.length=sz)→(rows.drop i).flatten=rows.flatten.drop (i * sz)
 | [],i,_=>by simp
 | r::rows,0,_=>by simp
 | r::rows,i + 1,h=>by
  have hr:r.length=sz:=h r List.mem_cons_self
  rw [List.drop_succ_cons,List.flatten_cons,aFo rows i (λx hx=>h x (List.mem_cons_of_mem _ hx)),Nat.succ_mul,Nat.add_comm (i * sz),← hr,List.drop_length_add_append]
theorem aIn {P:Program} (w:World) (dT sT ty elem:TypeId) (b o dLen dCap:Nat) (a:Addr) (sLen sCap k:Nat) (cs:List Value)
  (hu:P.underlying dT=some (.slice elem)) (hs:(P.info? elem).map (·.size)=some k) (hn:cs.length=Nat.min sLen dLen * k)
  (hsrc:∀ j v,cs[j]?=some v→w.cell? (a.add j)=some v) (hc:∀ j,j < cs.length→(w.cell? ⟨b,o + j,none⟩).isSome=true) (hf:∀ j,j < cs.length→w.frozen? ⟨b,o + j,none⟩=false) (h1:∀ v ∈ cs,v.oneCell'=true) :
  (Builtin.copy_ #[dT,sT] ty #[.slice (some ⟨b,o,none⟩) dLen dCap,.slice (some a) sLen sCap]).run P w=.ok (goInt (Nat.min sLen dLen)) (w.setCells b o cs):=by
 have hl:=run_loadCells_list (P:=P) w a cs hsrc
 have hst:=run_storeCells_cells (P:=P) b o cs 0 w (by simpa using hc) (by simpa using hf) h1
 cases hq:P.info? elem with
 | none=>simp [hq] at hs
 | some i=>
  have hi:i.size=k:=by simpa [hq] using hs
  simp [Builtin.copy_,run_underlying hu,Builtin.lenOf,Builtin.firstCells,sizeOf,typeInfo,hq,hi,← hn,hl,hst]

theorem aO1 {n:Nat} (h:n≤maxLen):n≤9223372036854775807:=by
 unfold maxLen at h
 omega
theorem aLr {sz:Nat} {α:Type} {enc:α→List Value} (hen:∀ x,(enc x).length=sz) (s:List α):(s.map enc).flatten.length=s.length * sz:=by
 rw [eI (s.map enc) (λr hr=>by obtain ⟨x,-,rfl⟩:=List.mem_map.1 hr; exact hen x),List.length_map]
theorem aKw {sz:Nat} {α:Type} {enc:α→List Value} (hen:∀ x,(enc x).length=sz∧sG (enc x)=true) (s:List α):∀ u ∈ (s.map enc).flatten,u.oneCell'=true:=by
 intro u hu
 obtain ⟨r,hr,hu⟩:=List.mem_flatten.1 hu
 obtain ⟨x,-,rfl⟩:=List.mem_map.1 hr
 have:=(hen x).2
 simp only [sG,List.all_eq_true] at this
 exact this u hu
theorem aCi {sz:Nat} {α:Type} {enc:α→List Value} (hen:∀ x,(enc x).length=sz∧sG (enc x)=true) (s:List α):∀ r ∈ s.map enc,r.length=sz:=by
 intro r hr
 obtain ⟨x,-,rfl⟩:=List.mem_map.1 hr
 exact (hen x).1

end Go.Nilo
