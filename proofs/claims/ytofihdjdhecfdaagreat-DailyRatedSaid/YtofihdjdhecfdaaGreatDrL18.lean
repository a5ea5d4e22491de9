/-
  What the plain functions compute, in plain arithmetic, part 18. Conditions: what each theorem names.
-/
import Derived.Test.YtofihdjdhecfdaaGreatDrL17
set_option linter.unusedSimpArgs false
set_option linter.unusedVariables false
namespace Go.Nilo.Dl
theorem aJ5:aEi [10,14,12,20]=some [10,12,14,20]:=by
 unfold aEi
 rw [if_pos (by decide)]
 simp [List.mergeSort]
theorem aE6:lW 700 [10,14,12,20]=some [⟨10,1⟩,⟨14,1⟩,⟨12,1⟩,⟨20,1⟩]:=by rfl
theorem aE4:lU 700 [⟨10,1⟩,⟨14,1⟩,⟨12,1⟩,⟨20,1⟩]=some ([10,12,12,20],2,0):=by
 unfold lU
 have h1:gX 700 [⟨10,1⟩,⟨14,1⟩,⟨12,1⟩,⟨20,1⟩]=some 0:=by decide +kernel
 have h2:bE (fun s9=>oG 700 [⟨10,1⟩,⟨14,1⟩,⟨12,1⟩,⟨20,1⟩] s9.1 s9.2) 700 (([]:List Int),0)=some (.go ([10,14,12,20],4)):=by rfl
 rw [h1,Option.bind_some,h2,Option.bind_some]
 rw [show ((0:Int) != 0)=false from rfl,cond_false]
 simp only [exK,jD,aJ5,Option.bind_some]
 decide +kernel
theorem awake_true:mQ 700=some true:=by
 unfold mQ
 have h3:lE 700 58=some ⟨10,5,[⟨true,⟨20,30⟩⟩,⟨false,⟨0,0⟩⟩,⟨false,⟨0,0⟩⟩,⟨true,⟨58,90⟩⟩]⟩:=rfl
 rw [aE6]
 simp only [Option.bind_some]
 rw [aE4]
 decide +kernel
end Go.Nilo.Dl
