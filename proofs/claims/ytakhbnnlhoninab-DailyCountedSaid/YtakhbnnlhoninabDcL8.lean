/-
  What the plain functions compute, in plain arithmetic, part 8. Conditions: what each theorem names.
-/
import Derived.Test.YtakhbnnlhoninabDcL7
set_option linter.unusedSimpArgs false
set_option linter.unusedVariables false
namespace Go.Nilo
theorem sort_ex : sortO [10,14,12,20] = some [10,12,14,20] := by
 unfold sortO
 rw [if_pos (by decide)]
 simp [List.mergeSort]
theorem counter_ex : law07_Counter 100 [10,14,12,20] = some [⟨10,1⟩,⟨14,1⟩,⟨12,1⟩,⟨20,1⟩] := by rfl
theorem correct_ex : daily_Correct 100 [⟨10,1⟩,⟨14,1⟩,⟨12,1⟩,⟨20,1⟩] = some ([10,12,12,20],2,0) := by
 unfold daily_Correct
 have h1 : daily_CheckReadings 100 [⟨10,1⟩,⟨14,1⟩,⟨12,1⟩,⟨20,1⟩] = some 0 := by decide +kernel
 have h2 : loopO (fun s9 => daily_Correct_b9 100 [⟨10,1⟩,⟨14,1⟩,⟨12,1⟩,⟨20,1⟩] s9.1 s9.2) 100 (([] : List Int),0) = some (.go ([10,14,12,20],4)) := by rfl
 rw [h1,Option.bind_some,h2,Option.bind_some]
 rw [show ((0 : Int) != 0) = false from rfl,cond_false]
 simp only [exK,slices_Sort_Lint_int,sort_ex,Option.bind_some]
 decide +kernel
theorem awake_true : law07_awake 100 = some true := by
 unfold law07_awake
 have h3 : law07_Four 100 58 = some ⟨10,5,[⟨true,⟨20,30⟩⟩,⟨false,⟨0,0⟩⟩,⟨false,⟨0,0⟩⟩,⟨true,⟨58,90⟩⟩]⟩ := rfl
 rw [counter_ex]
 simp only [Option.bind_some]
 rw [correct_ex]
 decide +kernel
end Go.Nilo
