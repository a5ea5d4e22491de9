/-
  CrewRounds returns true for all its arguments. Conditions: none.
-/
import Derived.Test.YtpfmkhhhamdpeaaGreatRows
import Derived.WalkKit
import Derived.ProofKit
import Derived.OpenShut
import Derived.ShutString
import Derived.ChangeOld
import Derived.Below
import Derived.Test.YtpfmkhhhamdpeaaGreatRoL7
namespace Go.Proofs.YtpfmkhhhamdpeaaGreat.crewRounds
open Go.ChangeShapes Go.WideShapes Go.ChangeAt Go.RowKit
set_option linter.unusedVariables false

theorem own : ownKnob Tryz.prog.godebug = none := by kernel_rfl
theorem laidOut : laidOutB Tryz.prog = true := by kernel_rfl

theorem cells3 : Tryz.prog.cellsOf 3 = 1 := by kernel_rfl
theorem cells22 : Tryz.prog.cellsOf 22 = 1 := by kernel_rfl
theorem cells24 : Tryz.prog.cellsOf 24 = 3 := by kernel_rfl
theorem cells25 : Tryz.prog.cellsOf 25 = 1 := by kernel_rfl
theorem cells29 : Tryz.prog.cellsOf 29 = 2 := by kernel_rfl
theorem cells31 : Tryz.prog.cellsOf 31 = 6 := by kernel_rfl

section
variable {H : Type} {ec : TypeId × Value → H} {w : World} {base : Nat} {spare : Nat → Bool} {held : Bool}
theorem cel3 {n : Nat} {cs : List Value} {y : DataW H × List MemPlace} (h : DataW.trod ec Tryz.prog w base spare held n 3 cs = some y) : ∃ z : Int, cs = Go.Nilo.encI_i64 z := by
  obtain ⟨z, rfl, -⟩ := DataW.trod_int Tryz.underlying3 h
  exact ⟨z, rfl⟩
theorem cel29 {n : Nat} {cs : List Value} {y : DataW H × List MemPlace} (h : DataW.trod ec Tryz.prog w base spare held n 29 cs = some y) : ∃ z : Go.Nilo.api_Span, cs = Go.Nilo.enc_api_Span z := by
  obtain ⟨xs, n', -, -, hl, hlen, hf⟩ := DataW.trod_struct Tryz.underlying29 h
  rw [cells29] at hl
  obtain ⟨c0, c1, rfl⟩ := Go.Nilo.list2 hl
  obtain ⟨y0, y1, rfl⟩ := Go.Nilo.list2 (show xs.length = 2 from hlen)
  have h0 : DataW.trod ec Tryz.prog w base spare held n' 3 (List.take (Tryz.prog.cellsOf 3) (List.drop 0 [c0, c1])) = some y0 := hf 0 _ rfl
  rw [cells3] at h0
  obtain ⟨z0, e0⟩ := cel3 h0
  have h1 : DataW.trod ec Tryz.prog w base spare held n' 3 (List.take (Tryz.prog.cellsOf 3) (List.drop 1 [c0, c1])) = some y1 := hf 1 _ rfl
  rw [cells3] at h1
  obtain ⟨z1, e1⟩ := cel3 h1
  have e0 : [c0] = _ := e0
  have e1 : [c1] = _ := e1
  refine ⟨⟨z0, z1⟩, ?_⟩
  show [c0] ++ [c1] = _
  rw [e0, e1]
  rfl
theorem cel31 {n : Nat} {cs : List Value} {y : DataW H × List MemPlace} (h : DataW.trod ec Tryz.prog w base spare held n 31 cs = some y) : ∃ z : Go.Nilo.crew_Visit, cs = Go.Nilo.enc_crew_Visit z := by
  obtain ⟨xs, n', -, -, hl, hlen, hf⟩ := DataW.trod_struct Tryz.underlying31 h
  rw [cells31] at hl
  obtain ⟨c0, c1, c2, c3, c4, c5, rfl⟩ := Go.Nilo.list6 hl
  obtain ⟨y0, y1, y2, y3, rfl⟩ := Go.Nilo.list4 (show xs.length = 4 from hlen)
  have h0 : DataW.trod ec Tryz.prog w base spare held n' 29 (List.take (Tryz.prog.cellsOf 29) (List.drop 0 [c0, c1, c2, c3, c4, c5])) = some y0 := hf 0 _ rfl
  rw [cells29] at h0
  obtain ⟨z0, e0⟩ := cel29 h0
  have h1 : DataW.trod ec Tryz.prog w base spare held n' 29 (List.take (Tryz.prog.cellsOf 29) (List.drop 2 [c0, c1, c2, c3, c4, c5])) = some y1 := hf 1 _ rfl
  rw [cells29] at h1
  obtain ⟨z1, e1⟩ := cel29 h1
  have h2 : DataW.trod ec Tryz.prog w base spare held n' 3 (List.take (Tryz.prog.cellsOf 3) (List.drop 4 [c0, c1, c2, c3, c4, c5])) = some y2 := hf 2 _ rfl
  rw [cells3] at h2
  obtain ⟨z2, e2⟩ := cel3 h2
  have h3 : DataW.trod ec Tryz.prog w base spare held n' 3 (List.take (Tryz.prog.cellsOf 3) (List.drop 5 [c0, c1, c2, c3, c4, c5])) = some y3 := hf 3 _ rfl
  rw [cells3] at h3
  obtain ⟨z3, e3⟩ := cel3 h3
  have e0 : [c0, c1] = _ := e0
  have e1 : [c2, c3] = _ := e1
  have e2 : [c4] = _ := e2
  have e3 : [c5] = _ := e3
  refine ⟨⟨z0, z1, z2, z3⟩, ?_⟩
  show [c0, c1] ++ [c2, c3] ++ [c4] ++ [c5] = _
  rw [e0, e1, e2, e3]
  rfl
end

open Go.Nilo (ctx_start) in
set_option maxRecDepth 100000 in
theorem lifted (os : Os) (started : os.Started) (H : Type) (enc : TypeId × Value → H) :
    ReturnsInHanded {} Tryz.checked os 3 .any (Rows.crewRoundsSpec.pre6 enc Tryz.prog Tryz.f3 Rows.crewRoundsRow.domain false) (Rows.crewRoundsSpec.post enc Tryz.prog Tryz.f3 false true false false) := by
  refine returnsInHanded_of_change (C := Tryz.checked) own started (by kernel_rfl) Tryz.func3
    (ChangeSpec.witness6 (enc := enc) (C := Tryz.checked) false ⟨#[], #[.int .i64 0, .slice none 0 0, .agg #[.int .i64 0, .int .i64 0, .int .i64 0], .slice none 0 0], []⟩ 8 (by kernel_rfl) (by kernel_rfl) (by kernel_rfl) (by kernel_rfl)) ?_
  intro W base args ds gs before hval0 hW hcnd _
  have hval : ∀ (j : Nat) t v, Tryz.f3.params[j]? = some t → args[j]? = some v → Value.okWide Tryz.prog W .any base t v := hval0
  have hW' := hW
  obtain ⟨p, q, hA0, hV, rfl, hfz, hnd⟩ := hW
  have hA : DataW.TrodAll enc Tryz.prog W 0 (fun _ => true) true Tryz.f3.params.toList args.toList ds p := hA0
  rw [Tryz.params3] at hA hval
  obtain ⟨v0, vs0, d0, ds0, p0, q0, hargs, rfl, rfl, h0, r0'⟩ := trodAll_cons hA
  obtain ⟨v1, vs1, d1, ds1, p1, q1, rfl, rfl, rfl, h1, r1'⟩ := trodAll_cons r0'
  obtain ⟨v2, vs2, d2, ds2, p2, q2, rfl, rfl, rfl, h2, r2'⟩ := trodAll_cons r1'
  obtain ⟨v3, vs3, d3, ds3, p3, q3, rfl, rfl, rfl, h3, r3'⟩ := trodAll_cons r2'
  obtain ⟨rfl, rfl, rfl⟩ := trodAll_nil r3'
  obtain rfl : args = #[v0, v1, v2, v3] := by cases args; simp_all
  obtain ⟨rfl, rfl⟩ := trodVars_none hV
  have k0 := h0
  have lt0 : ∀ x ∈ p0, x.block < W.heap.size := by obtain ⟨m, hm⟩ := k0; exact DataW.trod_lt m _ _ _ hm
  obtain ⟨z1, rfl, -, -, -⟩ := open_int Tryz.underlying3 (hval 0 3 v0 rfl rfl) h0
  have k1 := h1
  have lt1 : ∀ x ∈ p1, x.block < W.heap.size := by obtain ⟨m, hm⟩ := k1; exact DataW.trod_lt m _ _ _ hm
  obtain ⟨a2, len3, c4, rfl⟩ := okWide_slice Tryz.underlying22 (hval 1 22 v1 rfl rfl)
  obtain ⟨fu1, hfu1⟩ := h1
  obtain ⟨_, _, l5, he, r6⟩ := Go.Nilo.rd_slice Go.Nilo.enc_crew_Visit (fun _ => rfl) (by decide) Tryz.underlying22 cells31 (fun _ _ _ h => cel31 h) hfu1
  simp [Value.cells] at he
  obtain ⟨rfl, rfl, rfl⟩ := he
  have k2 := h2
  have lt2 : ∀ x ∈ p2, x.block < W.heap.size := by obtain ⟨m, hm⟩ := k2; exact DataW.trod_lt m _ _ _ hm
  obtain ⟨arr2, rfl, hsz2⟩ := okWide_struct Tryz.underlying24 (hval 2 24 v2 rfl rfl)
  rw [cells24] at hsz2
  obtain ⟨c7, c8, c9, rfl⟩ := Go.Nilo.arr3 hsz2
  obtain ⟨fu2, hfu2⟩ := h2
  replace hfu2 : DataW.trod enc Tryz.prog W 0 (fun _ => true) true fu2 24 [c7, c8, c9] = some (d2, p2) := hfu2
  obtain ⟨xs10, n11, -, -, -, hlen13, hf12⟩ := DataW.trod_struct Tryz.underlying24 hfu2
  obtain ⟨y14, y15, y16, rfl⟩ := Go.Nilo.list3 (show xs10.length = 3 from hlen13)
  have h17 : DataW.trod enc Tryz.prog W 0 (fun _ => true) true n11 3 (List.take (Tryz.prog.cellsOf 3) (List.drop 0 [c7, c8, c9])) = some y14 := hf12 0 _ rfl
  rw [cells3] at h17
  replace h17 : DataW.trod enc Tryz.prog W 0 (fun _ => true) true n11 3 [c7] = some y14 := h17
  have h18 : DataW.trod enc Tryz.prog W 0 (fun _ => true) true n11 3 (List.take (Tryz.prog.cellsOf 3) (List.drop 1 [c7, c8, c9])) = some y15 := hf12 1 _ rfl
  rw [cells3] at h18
  replace h18 : DataW.trod enc Tryz.prog W 0 (fun _ => true) true n11 3 [c8] = some y15 := h18
  have h19 : DataW.trod enc Tryz.prog W 0 (fun _ => true) true n11 3 (List.take (Tryz.prog.cellsOf 3) (List.drop 2 [c7, c8, c9])) = some y16 := hf12 2 _ rfl
  rw [cells3] at h19
  replace h19 : DataW.trod enc Tryz.prog W 0 (fun _ => true) true n11 3 [c9] = some y16 := h19
  obtain ⟨z20, he⟩ := cel3 h17
  obtain rfl : c7 = .int .i64 z20 := (List.cons.inj he).1
  obtain ⟨z21, he⟩ := cel3 h18
  obtain rfl : c8 = .int .i64 z21 := (List.cons.inj he).1
  obtain ⟨z22, he⟩ := cel3 h19
  obtain rfl : c9 = .int .i64 z22 := (List.cons.inj he).1
  have k3 := h3
  have lt3 : ∀ x ∈ p3, x.block < W.heap.size := by obtain ⟨m, hm⟩ := k3; exact DataW.trod_lt m _ _ _ hm
  obtain ⟨a23, len24, c25, rfl⟩ := okWide_slice Tryz.underlying25 (hval 3 25 v3 rfl rfl)
  obtain ⟨fu3, hfu3⟩ := h3
  obtain ⟨_, _, l26, he, r27⟩ := Go.Nilo.rd_slice Go.Nilo.encI_i64 (fun _ => rfl) (by decide) Tryz.underlying25 cells3 (fun _ _ _ h => cel3 h) hfu3
  simp [Value.cells] at he
  obtain ⟨rfl, rfl, rfl⟩ := he
  clear hA0 hval0
  refine (Go.Nilo.law11_CrewRounds_ok (N := 700) z1 l5 (⟨z20, z21, z22⟩ : Go.Nilo.crew_Pay) l26 r6 r27 (ctx_start W) (Go.Nilo.crewrounds_law z1 l5 (⟨z20, z21, z22⟩ : Go.Nilo.crew_Pay) l26)).mono fun e W' ⟨he, hcx⟩ => ?_
  have bel := hcx.behind
  subst he
  exact ⟨_, rfl, _, _, _, [], _, [], hW', trodAll_mk1 (shut_bool Tryz.underlying4 _), (trodAll_cons_mk (Below.trod laidOut (by kernel_rfl) (of_decide_eq_true (by kernel_rfl)) k0 bel lt0) (trodAll_cons_mk (Below.trod laidOut (by kernel_rfl) (of_decide_eq_true (by kernel_rfl)) k1 bel lt1) (trodAll_cons_mk (Below.trod laidOut (by kernel_rfl) (of_decide_eq_true (by kernel_rfl)) k2 bel lt2) (trodAll_cons_mk (Below.trod laidOut (by kernel_rfl) (of_decide_eq_true (by kernel_rfl)) k3 bel lt3) trodAll_mk0)))), rfl, bel.frame _, fun h => by cases h⟩

theorem over : Rows.crewRoundsRow.holds Tryz.pinned (OpenSpec.ofChange Rows.crewRoundsSpec) :=
  OpenClaim.holds_of_wide 3 Tryz.f3 rfl rfl rfl rfl rfl rfl rfl ⟨rfl, rfl, rfl, rfl, rfl⟩ rfl rfl rfl rfl rfl (by kernel_rfl) Tryz.func3 (by kernel_rfl)
    (of_decide_eq_true (by kernel_rfl)) (by unfold Func.isWrapper; first | (rw [if_pos (by decide +kernel)]; kernel_rfl) | (rw [if_neg (by decide +kernel)]; exact ⟨rfl, rfl⟩))
    (fun os started H enc _ => lifted os started H enc)

/-- The statement. -/
theorem proved : Rows.CrewRoundsSaid := over
#print axioms proved
end Go.Proofs.YtpfmkhhhamdpeaaGreat.crewRounds
