/-
  What the plain functions compute, in plain arithmetic, part 13. Conditions: what each theorem names.
-/
import Derived.Test.YtakhbnnlhoninadSsL12
set_option linter.unusedSimpArgs false
set_option linter.unusedVariables false
namespace Go.Nilo
def three : shift_Record := ⟨[⟨0,0⟩,⟨10,100⟩,⟨20,400⟩],[⟨1,13,⟨90,130⟩⟩,⟨5,10,⟨95,100⟩⟩,⟨9,15,⟨70,160⟩⟩]⟩
def P3 : List api_Span := [⟨2,4⟩,⟨0,0⟩,⟨3,8⟩]
theorem check3 : checkF three = 0 := by decide +kernel
theorem passes3 : passes three = P3 := by kernel_rfl
theorem ok3 : P3.all spanOk = true := by decide +kernel
theorem course3 : courseF P3 = [2,0,3] := by kernel_rfl
theorem least3 : leastF P3 = 5 := by kernel_rfl
theorem can3 : canF P3 6 = [⟨2,3⟩,⟨0,0⟩,⟨3,4⟩] := by kernel_rfl
theorem bet3 : betF three 6 3 13 = (⟨100,190⟩,0) := by kernel_rfl
theorem zs3 : zsum P3 [⟨0,false⟩,⟨1,true⟩,⟨2,false⟩] 3 = 5 := by kernel_rfl
theorem same_span {N : Nat} {l : List api_Span} (hl : l.length ≤ 1000) (hN : l.length < N) : kit_Same_api_Span N l l = some true := by
 unfold kit_Same_api_Span
 rw [bne_self_eq_false,cond_false,sameLoop l (by omega) _ (fun i hi => by
  show kit_Same_api_Span_b7 N l l (i : Int) = _
  unfold kit_Same_api_Span_b7
  rw [lt_dec hi,cond_true,getI_d s00 hi,Option.bind_some,Option.bind_some,beq_self_eq_true,beq_self_eq_true,W_succ (by omega)]
  rfl) (by
  show kit_Same_api_Span_b7 N l l _ = _
  unfold kit_Same_api_Span_b7
  rw [ge_dec,cond_false]) hN]
 rfl
theorem same_int {N : Nat} {l : List Int} (hl : l.length ≤ 1000) (hN : l.length < N) : kit_Same_int N l l = some true := by
 unfold kit_Same_int
 rw [bne_self_eq_false,cond_false,sameLoop l (by omega) _ (fun i hi => by
  show kit_Same_int_b7 N l l (i : Int) = _
  unfold kit_Same_int_b7
  rw [lt_dec hi,cond_true,getI_d 0 hi,Option.bind_some,Option.bind_some,bne_self_eq_false,cond_false,W_succ (by omega)]) (by
  show kit_Same_int_b7 N l l _ = _
  unfold kit_Same_int_b7
  rw [ge_dec,cond_false]) hN]
 rfl
theorem mean3a : mean three.Rating (13 - 8) = ⟨50,1⟩ := by kernel_rfl
theorem mean3b : mean three.Rating (25 - 6) = ⟨370,1⟩ := by kernel_rfl
theorem rise3a : rising three.Rating (10 - 0) 4 25 = ⟨110,1⟩ := by kernel_rfl
theorem rise3b : rising three.Rating (10 - 0) (-50) 25 = ⟨0,1⟩ := by kernel_rfl
theorem rec3 : RecOk three := check_iff.1 check3
theorem awake_true {N : Nat} (hN : 700 ≤ N) : law05_awake N = some true := by
 have hr := rec3
 have hok : (passes three).all spanOk = true := by rw [passes3]; exact ok3
 unfold law05_awake
 rw [show law05_Three N = some three from rfl,Option.bind_some,Means_ok hN hr.rt (by decide) (by decide),Option.bind_some,Means_ok hN hr.rt (by decide) (by decide),Option.bind_some,Rising_ok hN hr.rt (by decide) (by decide) (by decide) (by decide),Option.bind_some,Rising_ok hN hr.rt (by decide) (by decide) (by decide) (by decide),Option.bind_some,mean3a,mean3b,rise3a,rise3b]
 show Option.bind (shift_Passes N three) _ = _
 have hT : TOk (passes three).length [(⟨0,false⟩ : shift_Turn),⟨1,true⟩,⟨2,false⟩] := by
  rw [passes3]
  refine ⟨by decide,fun t ht => ?_,fun i hi => ?_⟩
  ·simp only [List.mem_cons,List.not_mem_nil,or_false] at ht
   rcases ht with rfl | rfl | rfl <;> exact ⟨by decide,by decide⟩
  ·have hi' : i + 1 < 3 := hi
   rcases (show i = 0 ∨ i = 1 by omega) with rfl | rfl <;> exact ⟨by decide,by decide⟩
 rw [Passes_ok hN hr hok,Option.bind_some,Least_spec hN hr hok,Option.bind_some,Proves_ok hN hr hok hT (by decide),Option.bind_some,Can_ok hN hr hok (by decide),Option.bind_some,Between_ok hN hr hok (by decide) (by decide) (by decide),Option.bind_some,bet3,passes3,course3,least3,can3]
 rw [show zsum P3 [(⟨0,false⟩ : shift_Turn),⟨1,true⟩,⟨2,false⟩] [(⟨0,false⟩ : shift_Turn),⟨1,true⟩,⟨2,false⟩].length = 5 from zs3]
 show Option.bind (kit_Same_api_Span N P3 P3) _ = _
 rw [same_span (by decide) (by have : P3.length = 3 := rfl; omega),Option.bind_some]
 show Option.bind (kit_Same_int N [2,0,3] [2,0,3]) _ = _
 rw [same_int (by decide) (by have : [(2 : Int),0,3].length = 3 := rfl; omega),Option.bind_some]
 show Option.bind (kit_Same_api_Span N [⟨2,3⟩,⟨0,0⟩,⟨3,4⟩] [⟨2,3⟩,⟨0,0⟩,⟨3,4⟩]) _ = _
 rw [same_span (by decide) (by have : [(⟨2,3⟩ : api_Span),⟨0,0⟩,⟨3,4⟩].length = 3 := rfl; omega),Option.bind_some]
 rfl
end Go.Nilo
