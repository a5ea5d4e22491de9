/-
  DailyVolumes returns true for all its arguments. Conditions: none.
-/
import Derived.Test.YtbcaeppbfioogaaRows
import Derived.WalkKit
import Derived.ProofKit
import Derived.OpenShut
import Derived.ShutString
import Derived.ChangeOld
import Derived.Below
import Derived.Test.YtbcaeppbfioogaaVoL8
namespace Go.Proofs.Ytbcaeppbfioogaa.dailyVolumes
open Go.ChangeShapes Go.WideShapes Go.ChangeAt Go.RowKit
set_option linter.unusedVariables false

theorem own : ownKnob Try.prog.godebug = none := by kernel_rfl
theorem laidOut : laidOutB Try.prog = true := by kernel_rfl

theorem cells3 : Try.prog.cellsOf 3 = 1 := by kernel_rfl
theorem cells4 : Try.prog.cellsOf 4 = 1 := by kernel_rfl
theorem cells22 : Try.prog.cellsOf 22 = 1 := by kernel_rfl
theorem cells24 : Try.prog.cellsOf 24 = 3 := by kernel_rfl
theorem cells25 : Try.prog.cellsOf 25 = 1 := by kernel_rfl
theorem cells30 : Try.prog.cellsOf 30 = 2 := by kernel_rfl
theorem cells56 : Try.prog.cellsOf 56 = 3 := by kernel_rfl

section
variable {H : Type} {ec : TypeId × Value → H} {w : World} {base : Nat} {spare : Nat → Bool} {held : Bool}
theorem cel3 {n : Nat} {cs : List Value} {y : DataW H × List MemPlace} (h : DataW.trod ec Try.prog w base spare held n 3 cs = some y) : ∃ z : Int, cs = Go.Nilo.encI_i64 z := by
  obtain ⟨z, rfl, -⟩ := DataW.trod_int Try.underlying3 h
  exact ⟨z, rfl⟩
theorem cel4 {n : Nat} {cs : List Value} {y : DataW H × List MemPlace} (h : DataW.trod ec Try.prog w base spare held n 4 cs = some y) : ∃ z : Bool, cs = Go.Nilo.encB z := by
  obtain ⟨z, rfl, -⟩ := DataW.trod_bool Try.underlying4 h
  exact ⟨z, rfl⟩
theorem cel30 {n : Nat} {cs : List Value} {y : DataW H × List MemPlace} (h : DataW.trod ec Try.prog w base spare held n 30 cs = some y) : ∃ z : Go.Nilo.api_Span, cs = Go.Nilo.enc_api_Span z := by
  obtain ⟨xs, n', -, -, hl, hlen, hf⟩ := DataW.trod_struct Try.underlying30 h
  rw [cells30] at hl
  obtain ⟨c0, c1, rfl⟩ := Go.Nilo.list2 hl
  obtain ⟨y0, y1, rfl⟩ := Go.Nilo.list2 (show xs.length = 2 from hlen)
  have h0 : DataW.trod ec Try.prog w base spare held n' 3 (List.take (Try.prog.cellsOf 3) (List.drop 0 [c0, c1])) = some y0 := hf 0 _ rfl
  rw [cells3] at h0
  obtain ⟨z0, e0⟩ := cel3 h0
  have h1 : DataW.trod ec Try.prog w base spare held n' 3 (List.take (Try.prog.cellsOf 3) (List.drop 1 [c0, c1])) = some y1 := hf 1 _ rfl
  rw [cells3] at h1
  obtain ⟨z1, e1⟩ := cel3 h1
  have e0 : [c0] = _ := e0
  have e1 : [c1] = _ := e1
  refine ⟨⟨z0, z1⟩, ?_⟩
  show [c0] ++ [c1] = _
  rw [e0, e1]
  rfl
theorem cel56 {n : Nat} {cs : List Value} {y : DataW H × List MemPlace} (h : DataW.trod ec Try.prog w base spare held n 56 cs = some y) : ∃ z : Go.Nilo.daily_Value, cs = Go.Nilo.enc_daily_Value z := by
  obtain ⟨xs, n', -, -, hl, hlen, hf⟩ := DataW.trod_struct Try.underlying56 h
  rw [cells56] at hl
  obtain ⟨c0, c1, c2, rfl⟩ := Go.Nilo.list3 hl
  obtain ⟨y0, y1, rfl⟩ := Go.Nilo.list2 (show xs.length = 2 from hlen)
  have h0 : DataW.trod ec Try.prog w base spare held n' 4 (List.take (Try.prog.cellsOf 4) (List.drop 0 [c0, c1, c2])) = some y0 := hf 0 _ rfl
  rw [cells4] at h0
  obtain ⟨z0, e0⟩ := cel4 h0
  have h1 : DataW.trod ec Try.prog w base spare held n' 30 (List.take (Try.prog.cellsOf 30) (List.drop 1 [c0, c1, c2])) = some y1 := hf 1 _ rfl
  rw [cells30] at h1
  obtain ⟨z1, e1⟩ := cel30 h1
  have e0 : [c0] = _ := e0
  have e1 : [c1, c2] = _ := e1
  refine ⟨⟨z0, z1⟩, ?_⟩
  show [c0] ++ [c1, c2] = _
  rw [e0, e1]
  rfl
end

open Go.Nilo (ctx_start) in
set_option maxRecDepth 100000 in
theorem lifted (os : Os) (started : os.Started) (H : Type) (enc : TypeId × Value → H) :
    ReturnsInHanded {} Try.checked os 3 .any (Rows.dailyVolumesSpec.pre6 enc Try.prog Try.f3 Rows.dailyVolumesRow.domain false) (Rows.dailyVolumesSpec.post enc Try.prog Try.f3 false true false false) := by
  refine returnsInHanded_of_change (C := Try.checked) own started (by kernel_rfl) Try.func3
    (ChangeSpec.witness6 (enc := enc) (C := Try.checked) false ⟨#[], #[.agg #[.int .i64 0, .int .i64 0, .slice none 0 0], .int .i64 0, .int .i64 0, .slice none 0 0], []⟩ 8 (by kernel_rfl) (by kernel_rfl) (by kernel_rfl) (by kernel_rfl)) ?_
  intro W base args ds gs before hval0 hW hcnd _
  have hval : ∀ (j : Nat) t v, Try.f3.params[j]? = some t → args[j]? = some v → Value.okWide Try.prog W .any base t v := hval0
  have hW' := hW
  obtain ⟨p, q, hA0, hV, rfl, hfz, hnd⟩ := hW
  have hA : DataW.TrodAll enc Try.prog W 0 (fun _ => true) true Try.f3.params.toList args.toList ds p := hA0
  rw [Try.params3] at hA hval
  obtain ⟨v0, vs0, d0, ds0, p0, q0, hargs, rfl, rfl, h0, r0'⟩ := trodAll_cons hA
  obtain ⟨v1, vs1, d1, ds1, p1, q1, rfl, rfl, rfl, h1, r1'⟩ := trodAll_cons r0'
  obtain ⟨v2, vs2, d2, ds2, p2, q2, rfl, rfl, rfl, h2, r2'⟩ := trodAll_cons r1'
  obtain ⟨v3, vs3, d3, ds3, p3, q3, rfl, rfl, rfl, h3, r3'⟩ := trodAll_cons r2'
  obtain ⟨rfl, rfl, rfl⟩ := trodAll_nil r3'
  obtain rfl : args = #[v0, v1, v2, v3] := by cases args; simp_all
  obtain ⟨rfl, rfl⟩ := trodVars_none hV
  have k0 := h0
  have lt0 : ∀ x ∈ p0, x.block < W.heap.size := by obtain ⟨m, hm⟩ := k0; exact DataW.trod_lt m _ _ _ hm
  obtain ⟨arr0, rfl, hsz0⟩ := okWide_struct Try.underlying24 (hval 0 24 v0 rfl rfl)
  rw [cells24] at hsz0
  obtain ⟨c1, c2, c3, rfl⟩ := Go.Nilo.arr3 hsz0
  obtain ⟨fu0, hfu0⟩ := h0
  replace hfu0 : DataW.trod enc Try.prog W 0 (fun _ => true) true fu0 24 [c1, c2, c3] = some (d0, p0) := hfu0
  obtain ⟨xs4, n5, -, -, -, hlen7, hf6⟩ := DataW.trod_struct Try.underlying24 hfu0
  obtain ⟨y8, y9, y10, rfl⟩ := Go.Nilo.list3 (show xs4.length = 3 from hlen7)
  have h11 : DataW.trod enc Try.prog W 0 (fun _ => true) true n5 3 (List.take (Try.prog.cellsOf 3) (List.drop 0 [c1, c2, c3])) = some y8 := hf6 0 _ rfl
  rw [cells3] at h11
  replace h11 : DataW.trod enc Try.prog W 0 (fun _ => true) true n5 3 [c1] = some y8 := h11
  have h12 : DataW.trod enc Try.prog W 0 (fun _ => true) true n5 3 (List.take (Try.prog.cellsOf 3) (List.drop 1 [c1, c2, c3])) = some y9 := hf6 1 _ rfl
  rw [cells3] at h12
  replace h12 : DataW.trod enc Try.prog W 0 (fun _ => true) true n5 3 [c2] = some y9 := h12
  have h13 : DataW.trod enc Try.prog W 0 (fun _ => true) true n5 22 (List.take (Try.prog.cellsOf 22) (List.drop 2 [c1, c2, c3])) = some y10 := hf6 2 _ rfl
  rw [cells22] at h13
  replace h13 : DataW.trod enc Try.prog W 0 (fun _ => true) true n5 22 [c3] = some y10 := h13
  obtain ⟨z14, he⟩ := cel3 h11
  obtain rfl : c1 = .int .i64 z14 := (List.cons.inj he).1
  obtain ⟨z15, he⟩ := cel3 h12
  obtain rfl : c2 = .int .i64 z15 := (List.cons.inj he).1
  obtain ⟨a16, c17, l18, he, r19⟩ := Go.Nilo.rd_slice Go.Nilo.enc_daily_Value (fun _ => rfl) (by decide) Try.underlying22 cells56 (fun _ _ _ h => cel56 h) h13
  obtain rfl : c3 = .slice a16 l18.length c17 := (List.cons.inj he).1
  have k1 := h1
  have lt1 : ∀ x ∈ p1, x.block < W.heap.size := by obtain ⟨m, hm⟩ := k1; exact DataW.trod_lt m _ _ _ hm
  obtain ⟨z20, rfl, -, -, -⟩ := open_int Try.underlying3 (hval 1 3 v1 rfl rfl) h1
  have k2 := h2
  have lt2 : ∀ x ∈ p2, x.block < W.heap.size := by obtain ⟨m, hm⟩ := k2; exact DataW.trod_lt m _ _ _ hm
  obtain ⟨z21, rfl, -, -, -⟩ := open_int Try.underlying3 (hval 2 3 v2 rfl rfl) h2
  have k3 := h3
  have lt3 : ∀ x ∈ p3, x.block < W.heap.size := by obtain ⟨m, hm⟩ := k3; exact DataW.trod_lt m _ _ _ hm
  obtain ⟨a22, len23, c24, rfl⟩ := okWide_slice Try.underlying25 (hval 3 25 v3 rfl rfl)
  obtain ⟨fu3, hfu3⟩ := h3
  obtain ⟨_, _, l25, he, r26⟩ := Go.Nilo.rd_slice Go.Nilo.enc_api_Span (fun _ => rfl) (by decide) Try.underlying25 cells30 (fun _ _ _ h => cel30 h) hfu3
  simp [Value.cells] at he
  obtain ⟨rfl, rfl, rfl⟩ := he
  clear hA0 hval0
  refine (Go.Nilo.law07_DailyVolumes_ok (N := 100) (⟨z14, z15, l18⟩ : Go.Nilo.daily_Record) z20 z21 l25 r19 r26 (ctx_start W) (Go.Nilo.volumes_law (⟨z14, z15, l18⟩ : Go.Nilo.daily_Record) z20 z21 l25)).mono fun e W' ⟨he, hcx⟩ => ?_
  have bel := hcx.behind
  subst he
  exact ⟨_, rfl, _, _, _, [], _, [], hW', trodAll_mk1 (shut_bool Try.underlying4 _), (trodAll_cons_mk (Below.trod laidOut (by kernel_rfl) (of_decide_eq_true (by kernel_rfl)) k0 bel lt0) (trodAll_cons_mk (Below.trod laidOut (by kernel_rfl) (of_decide_eq_true (by kernel_rfl)) k1 bel lt1) (trodAll_cons_mk (Below.trod laidOut (by kernel_rfl) (of_decide_eq_true (by kernel_rfl)) k2 bel lt2) (trodAll_cons_mk (Below.trod laidOut (by kernel_rfl) (of_decide_eq_true (by kernel_rfl)) k3 bel lt3) trodAll_mk0)))), rfl, bel.frame _, fun h => by cases h⟩

theorem over : Rows.dailyVolumesRow.holds Try.pinned (OpenSpec.ofChange Rows.dailyVolumesSpec) :=
  OpenClaim.holds_of_wide 3 Try.f3 rfl rfl rfl rfl rfl rfl rfl ⟨rfl, rfl, rfl, rfl, rfl⟩ rfl rfl rfl rfl rfl (by kernel_rfl) Try.func3 (by kernel_rfl)
    (of_decide_eq_true (by kernel_rfl)) (by unfold Func.isWrapper; first | (rw [if_pos (by decide +kernel)]; kernel_rfl) | (rw [if_neg (by decide +kernel)]; exact ⟨rfl, rfl⟩))
    (fun os started H enc _ => lifted os started H enc)

/-- The statement. -/
theorem proved : Rows.DailyVolumesSaid := over
#print axioms proved
end Go.Proofs.Ytbcaeppbfioogaa.dailyVolumes
