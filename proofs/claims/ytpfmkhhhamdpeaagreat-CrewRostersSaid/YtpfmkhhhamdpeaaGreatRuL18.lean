/-
  What the plain functions compute, in plain arithmetic, part 18. Conditions: what each theorem names.
-/
import Derived.Test.YtpfmkhhhamdpeaaGreatRuL17
set_option linter.unusedSimpArgs false
set_option linter.unusedVariables false
namespace Go.Nilo
open Go.ChangeShapes Go.WideShapes Go.Deep
theorem aFu {α H:Type} {K:Kd α} (hk:yE K) {ec:TypeId × Value→H} {P:Program} {w:World} {base:Nat} {spare:Nat→Bool} {held:Bool} {t e sz fuel:Nat} {cs:List Value} {x:DataW H × List MemPlace} (hen:∀ h z,(K.val h z).length=sz) (hs:0 < sz)
  (ht:P.underlying t=some (.slice e)) (hC:P.cellsOf e=sz) (hel:∀ n cs' y,DataW.trod ec P w base spare held n e cs'=some y→∃ h z,cs'=K.val h z∧K.fz h z (vR w)) (h:DataW.trod ec P w base spare held fuel t cs=some x) :
  ∃ (a:Option Addr) (cap:Nat) (l:List α),cs=[.slice a l.length cap]∧RdT K (vR w) sz a cap l:=by
 obtain ⟨a,cap,l,he,hr⟩:=xB (α:={r:H2 × α // K.fz r.1 r.2 (vR w)}) (fun z=>K.val z.1.1 z.1.2) (fun z=>hen _ _) hs ht hC (fun n cs' y hy=>by
  obtain ⟨h,z,e1,e2⟩:=hel n cs' y hy
  exact ⟨⟨(h,z),e2⟩,e1⟩) h
 have hm:l.map (fun z=>K.val z.1.1 z.1.2)=(l.map Subtype.val).map K.v:=by rw [List.map_map]; rfl
 rw [hm] at hr
 refine ⟨a,cap,(l.map Subtype.val).map Prod.snd,by rw [List.length_map,List.length_map]; exact he,RdT.mk' hk hr fun r hr'=>?_⟩
 obtain ⟨z,-,rfl⟩:=List.mem_map.1 hr'
 exact z.2
end Go.Nilo
