/-
  CrewCables returns true for all its arguments. Conditions: none.
-/
import Derived.Test.YtpfmkhhhamdpeaaGreatRows
import Derived.WalkKit
import Derived.ProofKit
import Derived.OpenShut
import Derived.ShutString
import Derived.ChangeOld
import Derived.Below
import Derived.Test.YtpfmkhhhamdpeaaGreatCaL8
namespace Go.Proofs.YtpfmkhhhamdpeaaGreat.crewCables
open Go.ChangeShapes Go.WideShapes Go.ChangeAt Go.RowKit
set_option linter.unusedVariables false

theorem own : ownKnob Tryz.prog.godebug = none := by kernel_rfl
theorem laidOut : laidOutB Tryz.prog = true := by kernel_rfl

theorem cells3 : Tryz.prog.cellsOf 3 = 1 := by kernel_rfl
theorem cells29 : Tryz.prog.cellsOf 29 = 2 := by kernel_rfl
theorem cells52 : Tryz.prog.cellsOf 52 = 1 := by kernel_rfl
theorem cells54 : Tryz.prog.cellsOf 54 = 5 := by kernel_rfl
theorem cells72 : Tryz.prog.cellsOf 72 = 4 := by kernel_rfl

section
variable {H : Type} {ec : TypeId × Value → H} {w : World} {base : Nat} {spare : Nat → Bool} {held : Bool}
theorem cel3 {n : Nat} {cs : List Value} {y : DataW H × List MemPlace} (h : DataW.trod ec Tryz.prog w base spare held n 3 cs = some y) : ∃ z : Int, cs = Go.Nilo.encI_i64 z := by
  obtain ⟨z, rfl, -⟩ := DataW.trod_int Tryz.underlying3 h
  exact ⟨z, rfl⟩
theorem cel29 {n : Nat} {cs : List Value} {y : DataW H × List MemPlace} (h : DataW.trod ec Tryz.prog w base spare held n 29 cs = some y) : ∃ z : Go.Nilo.api_Span, cs = Go.Nilo.enc_api_Span z := by
  obtain ⟨xs, n', -, -, hl, hlen, hf⟩ := DataW.trod_struct Tryz.underlying29 h
  rw [cells29] at hl
  obtain ⟨c0, c1, rfl⟩ := Go.Nilo.list2 hl
  obtain ⟨y0, y1, rfl⟩ := Go.Nilo.list2 (show xs.length = 2 from hlen)
  have h0 : DataW.trod ec Tryz.prog w base spare held n' 3 (List.take (Tryz.prog.cellsOf 3) (List.drop 0 [c0, c1])) = some y0 := hf 0 _ rfl
  rw [cells3] at h0
  obtain ⟨z0, e0⟩ := cel3 h0
  have h1 : DataW.trod ec Tryz.prog w base spare held n' 3 (List.take (Tryz.prog.cellsOf 3) (List.drop 1 [c0, c1])) = some y1 := hf 1 _ rfl
  rw [cells3] at h1
  obtain ⟨z1, e1⟩ := cel3 h1
  have e0 : [c0] = _ := e0
  have e1 : [c1] = _ := e1
  refine ⟨⟨z0, z1⟩, ?_⟩
  show [c0] ++ [c1] = _
  rw [e0, e1]
  rfl
theorem cel72 {n : Nat} {cs : List Value} {y : DataW H × List MemPlace} (h : DataW.trod ec Tryz.prog w base spare held n 72 cs = some y) : ∃ z : Go.Nilo.crew_Ride, cs = Go.Nilo.enc_crew_Ride z := by
  obtain ⟨xs, n', -, -, hl, hlen, hf⟩ := DataW.trod_struct Tryz.underlying72 h
  rw [cells72] at hl
  obtain ⟨c0, c1, c2, c3, rfl⟩ := Go.Nilo.list4 hl
  obtain ⟨y0, y1, y2, rfl⟩ := Go.Nilo.list3 (show xs.length = 3 from hlen)
  have h0 : DataW.trod ec Tryz.prog w base spare held n' 3 (List.take (Tryz.prog.cellsOf 3) (List.drop 0 [c0, c1, c2, c3])) = some y0 := hf 0 _ rfl
  rw [cells3] at h0
  obtain ⟨z0, e0⟩ := cel3 h0
  have h1 : DataW.trod ec Tryz.prog w base spare held n' 3 (List.take (Tryz.prog.cellsOf 3) (List.drop 1 [c0, c1, c2, c3])) = some y1 := hf 1 _ rfl
  rw [cells3] at h1
  obtain ⟨z1, e1⟩ := cel3 h1
  have h2 : DataW.trod ec Tryz.prog w base spare held n' 29 (List.take (Tryz.prog.cellsOf 29) (List.drop 2 [c0, c1, c2, c3])) = some y2 := hf 2 _ rfl
  rw [cells29] at h2
  obtain ⟨z2, e2⟩ := cel29 h2
  have e0 : [c0] = _ := e0
  have e1 : [c1] = _ := e1
  have e2 : [c2, c3] = _ := e2
  refine ⟨⟨z0, z1, z2⟩, ?_⟩
  show [c0] ++ [c1] ++ [c2, c3] = _
  rw [e0, e1, e2]
  rfl
end

open Go.Nilo (ctx_start) in
set_option maxRecDepth 100000 in
theorem lifted (os : Os) (started : os.Started) (H : Type) (enc : TypeId × Value → H) :
    ReturnsInHanded {} Tryz.checked os 4 .any (Rows.crewCablesSpec.pre6 enc Tryz.prog Tryz.f4 Rows.crewCablesRow.domain false) (Rows.crewCablesSpec.post enc Tryz.prog Tryz.f4 false true false false) := by
  refine returnsInHanded_of_change (C := Tryz.checked) own started (by kernel_rfl) Tryz.func4
    (ChangeSpec.witness6 (enc := enc) (C := Tryz.checked) false ⟨#[], #[.agg #[.int .i64 0, .int .i64 0, .int .i64 0, .int .i64 0, .slice none 0 0], .int .i64 0], []⟩ 8 (by kernel_rfl) (by kernel_rfl) (by kernel_rfl) (by kernel_rfl)) ?_
  intro W base args ds gs before hval0 hW hcnd _
  have hval : ∀ (j : Nat) t v, Tryz.f4.params[j]? = some t → args[j]? = some v → Value.okWide Tryz.prog W .any base t v := hval0
  have hW' := hW
  obtain ⟨p, q, hA0, hV, rfl, hfz, hnd⟩ := hW
  have hA : DataW.TrodAll enc Tryz.prog W 0 (fun _ => true) true Tryz.f4.params.toList args.toList ds p := hA0
  rw [Tryz.params4] at hA hval
  obtain ⟨v0, vs0, d0, ds0, p0, q0, hargs, rfl, rfl, h0, r0'⟩ := trodAll_cons hA
  obtain ⟨v1, vs1, d1, ds1, p1, q1, rfl, rfl, rfl, h1, r1'⟩ := trodAll_cons r0'
  obtain ⟨rfl, rfl, rfl⟩ := trodAll_nil r1'
  obtain rfl : args = #[v0, v1] := by cases args; simp_all
  obtain ⟨rfl, rfl⟩ := trodVars_none hV
  have k0 := h0
  have lt0 : ∀ x ∈ p0, x.block < W.heap.size := by obtain ⟨m, hm⟩ := k0; exact DataW.trod_lt m _ _ _ hm
  obtain ⟨arr0, rfl, hsz0⟩ := okWide_struct Tryz.underlying54 (hval 0 54 v0 rfl rfl)
  rw [cells54] at hsz0
  obtain ⟨c1, c2, c3, c4, c5, rfl⟩ := Go.Nilo.arr5 hsz0
  obtain ⟨fu0, hfu0⟩ := h0
  replace hfu0 : DataW.trod enc Tryz.prog W 0 (fun _ => true) true fu0 54 [c1, c2, c3, c4, c5] = some (d0, p0) := hfu0
  obtain ⟨xs6, n7, -, -, -, hlen9, hf8⟩ := DataW.trod_struct Tryz.underlying54 hfu0
  obtain ⟨y10, y11, y12, y13, y14, rfl⟩ := Go.Nilo.list5 (show xs6.length = 5 from hlen9)
  have h15 : DataW.trod enc Tryz.prog W 0 (fun _ => true) true n7 3 (List.take (Tryz.prog.cellsOf 3) (List.drop 0 [c1, c2, c3, c4, c5])) = some y10 := hf8 0 _ rfl
  rw [cells3] at h15
  replace h15 : DataW.trod enc Tryz.prog W 0 (fun _ => true) true n7 3 [c1] = some y10 := h15
  have h16 : DataW.trod enc Tryz.prog W 0 (fun _ => true) true n7 3 (List.take (Tryz.prog.cellsOf 3) (List.drop 1 [c1, c2, c3, c4, c5])) = some y11 := hf8 1 _ rfl
  rw [cells3] at h16
  replace h16 : DataW.trod enc Tryz.prog W 0 (fun _ => true) true n7 3 [c2] = some y11 := h16
  have h17 : DataW.trod enc Tryz.prog W 0 (fun _ => true) true n7 3 (List.take (Tryz.prog.cellsOf 3) (List.drop 2 [c1, c2, c3, c4, c5])) = some y12 := hf8 2 _ rfl
  rw [cells3] at h17
  replace h17 : DataW.trod enc Tryz.prog W 0 (fun _ => true) true n7 3 [c3] = some y12 := h17
  have h18 : DataW.trod enc Tryz.prog W 0 (fun _ => true) true n7 3 (List.take (Tryz.prog.cellsOf 3) (List.drop 3 [c1, c2, c3, c4, c5])) = some y13 := hf8 3 _ rfl
  rw [cells3] at h18
  replace h18 : DataW.trod enc Tryz.prog W 0 (fun _ => true) true n7 3 [c4] = some y13 := h18
  have h19 : DataW.trod enc Tryz.prog W 0 (fun _ => true) true n7 52 (List.take (Tryz.prog.cellsOf 52) (List.drop 4 [c1, c2, c3, c4, c5])) = some y14 := hf8 4 _ rfl
  rw [cells52] at h19
  replace h19 : DataW.trod enc Tryz.prog W 0 (fun _ => true) true n7 52 [c5] = some y14 := h19
  obtain ⟨z20, he⟩ := cel3 h15
  obtain rfl : c1 = .int .i64 z20 := (List.cons.inj he).1
  obtain ⟨z21, he⟩ := cel3 h16
  obtain rfl : c2 = .int .i64 z21 := (List.cons.inj he).1
  obtain ⟨z22, he⟩ := cel3 h17
  obtain rfl : c3 = .int .i64 z22 := (List.cons.inj he).1
  obtain ⟨z23, he⟩ := cel3 h18
  obtain rfl : c4 = .int .i64 z23 := (List.cons.inj he).1
  obtain ⟨a24, c25, l26, he, r27⟩ := Go.Nilo.rd_slice Go.Nilo.enc_crew_Ride (fun _ => rfl) (by decide) Tryz.underlying52 cells72 (fun _ _ _ h => cel72 h) h19
  obtain rfl : c5 = .slice a24 l26.length c25 := (List.cons.inj he).1
  have k1 := h1
  have lt1 : ∀ x ∈ p1, x.block < W.heap.size := by obtain ⟨m, hm⟩ := k1; exact DataW.trod_lt m _ _ _ hm
  obtain ⟨z28, rfl, -, -, -⟩ := open_int Tryz.underlying3 (hval 1 3 v1 rfl rfl) h1
  clear hA0 hval0
  refine (Go.Nilo.law11_CrewCables_ok (N := 700) (⟨z20, z21, z22, z23, l26⟩ : Go.Nilo.crew_Cable) z28 r27 (ctx_start W) (Go.Nilo.crewcables_law (⟨z20, z21, z22, z23, l26⟩ : Go.Nilo.crew_Cable) z28)).mono fun e W' ⟨he, hcx⟩ => ?_
  have bel := hcx.behind
  subst he
  exact ⟨_, rfl, _, _, _, [], _, [], hW', trodAll_mk1 (shut_bool Tryz.underlying4 _), (trodAll_cons_mk (Below.trod laidOut (by kernel_rfl) (of_decide_eq_true (by kernel_rfl)) k0 bel lt0) (trodAll_cons_mk (Below.trod laidOut (by kernel_rfl) (of_decide_eq_true (by kernel_rfl)) k1 bel lt1) trodAll_mk0)), rfl, bel.frame _, fun h => by cases h⟩

theorem over : Rows.crewCablesRow.holds Tryz.pinned (OpenSpec.ofChange Rows.crewCablesSpec) :=
  OpenClaim.holds_of_wide 4 Tryz.f4 rfl rfl rfl rfl rfl rfl rfl ⟨rfl, rfl, rfl, rfl, rfl⟩ rfl rfl rfl rfl rfl (by kernel_rfl) Tryz.func4 (by kernel_rfl)
    (of_decide_eq_true (by kernel_rfl)) (by unfold Func.isWrapper; first | (rw [if_pos (by decide +kernel)]; kernel_rfl) | (rw [if_neg (by decide +kernel)]; exact ⟨rfl, rfl⟩))
    (fun os started H enc _ => lifted os started H enc)

/-- The statement. -/
theorem proved : Rows.CrewCablesSaid := over
#print axioms proved
end Go.Proofs.YtpfmkhhhamdpeaaGreat.crewCables
