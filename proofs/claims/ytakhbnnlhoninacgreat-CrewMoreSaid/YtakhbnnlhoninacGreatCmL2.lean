/-
  What the plain functions compute, in plain arithmetic, part 2. Conditions: what each theorem names.
-/
import Derived.Test.YtakhbnnlhoninacGreatCmL1
set_option linter.unusedSimpArgs false
set_option linter.unusedVariables false
namespace Go.Nilo
theorem aI5:aDl [0,0,5]=some [0,0,5]:=by
 unfold aDl
 rw [if_pos (by decide)]
 simp [List.mergeSort]
theorem aGc:iJ 700 ⟨50,100,250,3000,[⟨0,10,⟨80,90⟩⟩,⟨5,5,⟨160,180⟩⟩]⟩=some [0,5]:=by
 unfold iJ
 have h2:bE (fun s5=>lL 700 ⟨50,100,250,3000,[⟨0,10,⟨80,90⟩⟩,⟨5,5,⟨160,180⟩⟩]⟩ s5.1 s5.2) 700 (([0]:List Int),0)=some (.go ([0,0,5],2)):=by rfl
 rw [h2,Option.bind_some]
 have h3:hQ 700 [0,0,5]=some [0,0,5]:=by rfl
 simp only [exK,h3,Option.bind_some,iM,aI5]
 decide +kernel
theorem aGi:oM 700 ⟨50,100,250,3000,[⟨0,10,⟨80,90⟩⟩,⟨5,5,⟨160,180⟩⟩]⟩=some (5,-1,0):=by
 unfold oM
 have h1:iF 700 ⟨50,100,250,3000,[⟨0,10,⟨80,90⟩⟩,⟨5,5,⟨160,180⟩⟩]⟩=some 0:=by decide +kernel
 rw [h1,Option.bind_some]
 rw [show ((0:Int) != 0)=false from rfl,cond_false,aGc,Option.bind_some]
 decide +kernel
theorem aD7:oR 700=some true:=by
 unfold oR
 have h3:nX 700=some ⟨50,100,250,3000,[⟨0,10,⟨80,90⟩⟩,⟨5,5,⟨160,180⟩⟩]⟩:=by rfl
 simp only [h3,Option.bind_some,aGi]
 decide +kernel
end Go.Nilo
