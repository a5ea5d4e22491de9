/-
  What the plain functions compute, in plain arithmetic, part 8. Conditions: what each theorem names.
-/
import Derived.Test.YtpfmkhhhamdpeaaGreatRuL7
set_option linter.unusedSimpArgs false
set_option linter.unusedVariables false
namespace Go.Nilo
theorem aMc {N:Nat} {l:List aC} {p s:Int} (hl:l.length≤1000) (hN:l.length < N):∃ b,cD N l ⟨p,s⟩=some b∧(b=true ↔ Ref l p s):=by
 unfold cD cX
 have hany:l.any (fun x=>p == x.Person && s == x.Station)=true ↔ Ref l p s:=by
  rw [List.any_eq_true]
  unfold Ref
  constructor
  ·rintro ⟨x,h1,h2⟩
   rw [Bool.and_eq_true,beq_iff_eq,beq_iff_eq] at h2
   obtain ⟨rfl,rfl⟩:=h2
   exact h1
  ·intro h; exact ⟨_,h,by simp⟩
 rcases xT (fun x:aC=>p == x.Person && s == x.Station) l (by omega) (fun s4=>dZ N l ⟨p,s⟩ s4) (fun x=>rfl) l.length 0 N (by omega) hN with ⟨k,h1,h2,h3⟩ | ⟨h1,h2⟩
 ·rw [show ((0:Nat):Int)=0 from rfl] at h1
  rw [List.drop_zero] at h3
  refine ⟨true,?_,by simp only [true_iff]; exact hany.1 h3⟩
  rw [h1]
  simp [exK,h2]
 ·rw [show ((0:Nat):Int)=0 from rfl] at h1
  rw [List.drop_zero] at h2
  refine ⟨false,by rw [h1]; rfl,?_⟩
  rw [← hany,h2]
end Go.Nilo
