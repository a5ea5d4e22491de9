/-
  What the plain functions compute, in plain arithmetic, part 2. Conditions: what each theorem names.
-/
import Derived.Test.YtpfmkhhhamdpeaaGreatRuL1
set_option linter.unusedSimpArgs false
set_option linter.unusedVariables false
namespace Go.Nilo
theorem aMe:aFp [0,0,5]=some [0,0,5]:=by
 unfold aFp
 rw [if_pos (by decide)]
 simp [List.mergeSort]
theorem aIv:lH 700 ⟨50,100,250,3000,[⟨0,10,⟨80,90⟩⟩,⟨5,5,⟨160,180⟩⟩]⟩=some [0,5]:=by
 unfold lH
 have h2:aS (fun s5=>nV 700 ⟨50,100,250,3000,[⟨0,10,⟨80,90⟩⟩,⟨5,5,⟨160,180⟩⟩]⟩ s5.1 s5.2) 700 (([0]:List Int),0)=some (.go ([0,0,5],2)):=by rfl
 rw [h2,Option.bind_some]
 have h3:kS 700 [0,0,5]=some [0,0,5]:=by rfl
 simp only [exK,h3,Option.bind_some,lE,aMe]
 decide +kernel
theorem aIy:rN 700 ⟨50,100,250,3000,[⟨0,10,⟨80,90⟩⟩,⟨5,5,⟨160,180⟩⟩]⟩=some (5,-1,0):=by
 unfold rN
 have h1:lA 700 ⟨50,100,250,3000,[⟨0,10,⟨80,90⟩⟩,⟨5,5,⟨160,180⟩⟩]⟩=some 0:=by decide +kernel
 rw [h1,Option.bind_some]
 rw [show ((0:Int) != 0)=false from rfl,cond_false,aIv,Option.bind_some]
 decide +kernel
theorem vV:lK 700=some true:=by
 unfold lK
 have h3:qW 700=some ⟨50,100,250,3000,[⟨0,10,⟨80,90⟩⟩,⟨5,5,⟨160,180⟩⟩]⟩:=by rfl
 simp only [h3,Option.bind_some,aIy]
 decide +kernel
end Go.Nilo
