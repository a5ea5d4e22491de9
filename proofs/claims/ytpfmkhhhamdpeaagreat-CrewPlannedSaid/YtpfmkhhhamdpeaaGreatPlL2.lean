/-
  What the plain functions compute, in plain arithmetic, part 2. Conditions: what each theorem names.
-/
import Derived.Test.YtpfmkhhhamdpeaaGreatPlL1
set_option linter.unusedSimpArgs false
set_option linter.unusedVariables false
namespace Go.Nilo
theorem sort_ex : sortO [0,0,5] = some [0,0,5] := by
 unfold sortO
 rw [if_pos (by decide)]
 simp [List.mergeSort]
theorem starts_ex : crew_Cable_starts 700 ⟨50,100,250,3000,[⟨0,10,⟨80,90⟩⟩,⟨5,5,⟨160,180⟩⟩]⟩ = some [0,5] := by
 unfold crew_Cable_starts
 have h2 : loopO (fun s5 => crew_Cable_starts_b5 700 ⟨50,100,250,3000,[⟨0,10,⟨80,90⟩⟩,⟨5,5,⟨160,180⟩⟩]⟩ s5.1 s5.2) 700 (([0] : List Int),0) = some (.go ([0,0,5],2)) := by rfl
 rw [h2,Option.bind_some]
 have h3 : slices_Clone_Lint_int 700 [0,0,5] = some [0,0,5] := by rfl
 simp only [exK,h3,Option.bind_some,slices_Sort_Lint_int,sort_ex]
 decide +kernel
theorem beyond_ex : crew_Beyond 700 ⟨50,100,250,3000,[⟨0,10,⟨80,90⟩⟩,⟨5,5,⟨160,180⟩⟩]⟩ = some (5,-1,0) := by
 unfold crew_Beyond
 have h1 : crew_CheckCable 700 ⟨50,100,250,3000,[⟨0,10,⟨80,90⟩⟩,⟨5,5,⟨160,180⟩⟩]⟩ = some 0 := by decide +kernel
 rw [h1,Option.bind_some]
 rw [show ((0 : Int) != 0) = false from rfl,cond_false,starts_ex,Option.bind_some]
 decide +kernel
theorem awake_true : law11_awake 700 = some true := by
 unfold law11_awake
 have h3 : law11_Wire 700 = some ⟨50,100,250,3000,[⟨0,10,⟨80,90⟩⟩,⟨5,5,⟨160,180⟩⟩]⟩ := by rfl
 simp only [h3,Option.bind_some,beyond_ex]
 decide +kernel
end Go.Nilo
