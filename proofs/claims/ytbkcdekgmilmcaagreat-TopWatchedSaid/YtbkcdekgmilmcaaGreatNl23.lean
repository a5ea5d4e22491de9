/-
  Keys that are structs: what a program has to show of them. Conditions: what each theorem names.
-/
import Derived.Test.YtbkcdekgmilmcaaGreatNl22
import Derived.WideKeyRuns
set_option linter.unusedSimpArgs false
set_option linter.unusedVariables false
namespace Go.Nilo
variable {P:Program} {K:TypeId} {κ:Type} {kv:κ→Value}
theorem aAo (inj:∀ a b,kv a=kv b→a=b) (eq:κ→κ→Bool) (heq:∀ a b,eq a b=true ↔ a=b) (hrun:∀ a b w,(Op.equal K (kv a) (kv b)).run P w=.ok (eq a b) w) (k:κ) (w:World) :
  ∀ (es:List MapEntry) (i:Nat),(∀ e ∈ es,∃ k,e.key=kv k)→∃ r,(Instr.findAsking K (kv k) es i).run P w=.ok r w∧(r=none∧(∀ e ∈ es,e.key ≠ kv k) ∨ ∃ j e,es[j]?=some e∧e.key=kv k∧r=some (i + j,e.val))
 | [],i,_=>⟨none,by simp [Instr.findAsking],.inl ⟨rfl,fun _ h=>(nomatch h)⟩⟩
 | e::es,i,h=>by
  obtain ⟨k',hk'⟩:=h e List.mem_cons_self
  by_cases hk:k=k'
  ·subst hk
   refine ⟨some (i,e.val),?_,.inr ⟨0,e,rfl,hk',rfl⟩⟩
   simp [Instr.findAsking,hk',hrun,(heq k k).2 rfl]
  ·have hne:eq k k'=false:=by
    cases hq:eq k k' with
    | false=>rfl
    | true=>exact absurd ((heq _ _).1 hq) hk
   obtain ⟨r,hr,hc⟩:=aAo inj eq heq hrun k w es (i + 1) (fun x hx=>h x (List.mem_cons_of_mem _ hx))
   refine ⟨r,by simp [Instr.findAsking,hk',hrun,hne,hr],?_⟩
   rcases hc with ⟨rfl,hn⟩ | ⟨j,x,hx,hkx,rfl⟩
   ·refine .inl ⟨rfl,fun x hx=>?_⟩
    rcases List.mem_cons.1 hx with rfl | hx
    ·rw [hk']
     exact fun hq=>hk (inj _ _ hq).symm
    ·exact hn x hx
   ·exact .inr ⟨j + 1,x,by simpa using hx,hkx,by rw [show i + (j + 1)=i + 1 + j by omega]⟩
theorem aLw {e:Bool} {n:Nat} {t:TypeId} {T k:IntKind} (hT:P.underlying t=some (.int T)) (x:Int) (w:World):(Instr.checkKey e (n + 1) t (.int k x)).run P w=.ok () w:=by
 rw [Instr.checkKey]
 simp [run_underlying hT]
theorem aOp (hwide:(match P.underlying K with | some (.array _ _) | some (.struct _)=>true | _=>false)=true) (inj:∀ a b,kv a=kv b→a=b) (eq:κ→κ→Bool) (heq:∀ a b,eq a b=true ↔ a=b)
  (hrun:∀ a b w,(Op.equal K (kv a) (kv b)).run P w=.ok (eq a b) w) (chk:∀ e k w,(Instr.checkKey e 10000 K (kv k)).run P w=.ok () w) (same:∀ k,Instr.sameBits 10000 (kv k) (kv k)=true):aLc P K kv :=
 ⟨inj,chk,same,fun k es w h=>by
  obtain ⟨r,hr,hc⟩:=aAo inj eq heq hrun k w es 0 h
  refine ⟨r,?_,?_⟩
  ·rw [run_findKey_eq w hwide]
   exact hr
  ·simpa using hc⟩
end Go.Nilo
