/-
  CrewRosters returns true for all its arguments. Conditions: none.
-/
import Derived.Test.YtpfmkhhhamdpeaaGreatRows
import Derived.WalkKit
import Derived.ProofKit
import Derived.OpenShut
import Derived.ShutString
import Derived.ChangeOld
import Derived.Below
import Derived.Test.YtpfmkhhhamdpeaaGreatRuL18
namespace Go.Proofs.YtpfmkhhhamdpeaaGreat.crewRosters
open Go.ChangeShapes Go.WideShapes Go.ChangeAt Go.RowKit
set_option linter.unusedVariables false

theorem own : ownKnob Tryz.prog.godebug = none := by kernel_rfl
theorem laidOut : laidOutB Tryz.prog = true := by kernel_rfl

theorem cells3 : Tryz.prog.cellsOf 3 = 1 := by kernel_rfl
theorem cells25 : Tryz.prog.cellsOf 25 = 1 := by kernel_rfl
theorem cells75 : Tryz.prog.cellsOf 75 = 1 := by kernel_rfl
theorem cells76 : Tryz.prog.cellsOf 76 = 1 := by kernel_rfl
theorem cells78 : Tryz.prog.cellsOf 78 = 2 := by kernel_rfl
theorem cells86 : Tryz.prog.cellsOf 86 = 2 := by kernel_rfl
theorem cells99 : Tryz.prog.cellsOf 99 = 1 := by kernel_rfl
theorem cells101 : Tryz.prog.cellsOf 101 = 2 := by kernel_rfl

section
variable {H : Type} {ec : TypeId × Value → H} {w : World} {base : Nat} {spare : Nat → Bool} {held : Bool}
theorem cel3 {n : Nat} {cs : List Value} {y : DataW H × List MemPlace} (h : DataW.trod ec Tryz.prog w base spare held n 3 cs = some y) : ∃ z : Int, cs = Go.Nilo.aD z := by
  obtain ⟨z, rfl, -⟩ := DataW.trod_int Tryz.underlying3 h
  exact ⟨z, rfl⟩
theorem cel86 {n : Nat} {cs : List Value} {y : DataW H × List MemPlace} (h : DataW.trod ec Tryz.prog w base spare held n 86 cs = some y) : ∃ z : Go.Nilo.aC, cs = Go.Nilo.aF z := by
  obtain ⟨xs, n', -, -, hl, hlen, hf⟩ := DataW.trod_struct Tryz.underlying86 h
  rw [cells86] at hl
  obtain ⟨c0, c1, rfl⟩ := Go.Nilo.aD4 hl
  obtain ⟨y0, y1, rfl⟩ := Go.Nilo.aD4 (show xs.length = 2 from hlen)
  have h0 : DataW.trod ec Tryz.prog w base spare held n' 3 (List.take (Tryz.prog.cellsOf 3) (List.drop 0 [c0, c1])) = some y0 := hf 0 _ rfl
  rw [cells3] at h0
  obtain ⟨z0, e0⟩ := cel3 h0
  have h1 : DataW.trod ec Tryz.prog w base spare held n' 3 (List.take (Tryz.prog.cellsOf 3) (List.drop 1 [c0, c1])) = some y1 := hf 1 _ rfl
  rw [cells3] at h1
  obtain ⟨z1, e1⟩ := cel3 h1
  have e0 : [c0] = _ := e0
  have e1 : [c1] = _ := e1
  refine ⟨⟨z0, z1⟩, ?_⟩
  show [c0] ++ [c1] = _
  rw [e0, e1]
  rfl
theorem tel25 {n : Nat} {cs : List Value} {y : DataW H × List MemPlace} (h : DataW.trod ec Tryz.prog w base spare held n 25 cs = some y) : ∃ hh z, cs = Go.Nilo.aM.val hh z ∧ Go.Nilo.aM.fz hh z (Go.Nilo.vR w) := by
  obtain ⟨a, c, l, rfl, r⟩ := Go.Nilo.xB Go.Nilo.aD (fun _ => rfl) (by decide) Tryz.underlying25 cells3 (fun _ _ _ h => cel3 h) h
  exact ⟨(a, c), l, rfl, r⟩
theorem tel101 {n : Nat} {cs : List Value} {y : DataW H × List MemPlace} (h : DataW.trod ec Tryz.prog w base spare held n 101 cs = some y) : ∃ hh z, cs = Go.Nilo.bA.val hh z ∧ Go.Nilo.bA.fz hh z (Go.Nilo.vR w) := by
  obtain ⟨xs, n', -, -, hl, hlen, hf⟩ := DataW.trod_struct Tryz.underlying101 h
  rw [cells101] at hl
  obtain ⟨c0, c1, rfl⟩ := Go.Nilo.aD4 hl
  obtain ⟨y0, y1, rfl⟩ := Go.Nilo.aD4 (show xs.length = 2 from hlen)
  have h0 : DataW.trod ec Tryz.prog w base spare held n' 3 (List.take (Tryz.prog.cellsOf 3) (List.drop 0 [c0, c1])) = some y0 := hf 0 _ rfl
  rw [cells3] at h0
  obtain ⟨z0, e0⟩ := cel3 h0
  have h1 : DataW.trod ec Tryz.prog w base spare held n' 25 (List.take (Tryz.prog.cellsOf 25) (List.drop 1 [c0, c1])) = some y1 := hf 1 _ rfl
  rw [cells25] at h1
  obtain ⟨a, c, l, e1, r⟩ := Go.Nilo.xB Go.Nilo.aD (fun _ => rfl) (by decide) Tryz.underlying25 cells3 (fun _ _ _ h => cel3 h) h1
  have e0 : [c0] = _ := e0
  have e1 : [c1] = _ := e1
  refine ⟨(a, c), ⟨z0, l⟩, ?_, r⟩
  show [c0] ++ [c1] = _
  rw [e0, e1]
  rfl
end

open Go.Nilo (aD3) in
set_option maxRecDepth 100000 in
theorem lifted (os : Os) (started : os.Started) (H : Type) (enc : TypeId × Value → H) :
    ReturnsInHanded {} Tryz.checked os 9 .any (Rows.crewRostersSpec.pre6 enc Tryz.prog Tryz.f9 Rows.crewRostersRow.domain false) (Rows.crewRostersSpec.post enc Tryz.prog Tryz.f9 false true false false) := by
  refine returnsInHanded_of_change (C := Tryz.checked) own started (by kernel_rfl) Tryz.func9
    (ChangeSpec.witness6 (enc := enc) (C := Tryz.checked) false ⟨#[], #[.agg #[.slice none 0 0, .slice none 0 0], .slice none 0 0, .slice none 0 0], []⟩ 8 (by kernel_rfl) (by kernel_rfl) (by kernel_rfl) (by kernel_rfl)) ?_
  intro W base args ds gs aJu hval0 hW hcnd _
  have hval : ∀ (j : Nat) t v, Tryz.f9.params[j]? = some t → args[j]? = some v → Value.okWide Tryz.prog W .any base t v := hval0
  have hW' := hW
  obtain ⟨p, q, hA0, hV, rfl, hfz, hnd⟩ := hW
  have hA : DataW.TrodAll enc Tryz.prog W 0 (fun _ => true) true Tryz.f9.params.toList args.toList ds p := hA0
  rw [Tryz.params9] at hA hval
  obtain ⟨v0, vs0, d0, ds0, p0, q0, hargs, rfl, rfl, h0, r0'⟩ := trodAll_cons hA
  obtain ⟨v1, vs1, d1, ds1, p1, q1, rfl, rfl, rfl, h1, r1'⟩ := trodAll_cons r0'
  obtain ⟨v2, vs2, d2, ds2, p2, q2, rfl, rfl, rfl, h2, r2'⟩ := trodAll_cons r1'
  obtain ⟨rfl, rfl, rfl⟩ := trodAll_nil r2'
  obtain rfl : args = #[v0, v1, v2] := by cases args; simp_all
  obtain ⟨rfl, rfl⟩ := trodVars_none hV
  have k0 := h0
  have lt0 : ∀ x ∈ p0, x.block < W.heap.size := by obtain ⟨m, hm⟩ := k0; exact DataW.trod_lt m _ _ _ hm
  obtain ⟨arr0, rfl, hsz0⟩ := okWide_struct Tryz.underlying78 (hval 0 78 v0 rfl rfl)
  rw [cells78] at hsz0
  obtain ⟨c1, c2, rfl⟩ := Go.Nilo.arr2 hsz0
  obtain ⟨fu0, hfu0⟩ := h0
  replace hfu0 : DataW.trod enc Tryz.prog W 0 (fun _ => true) true fu0 78 [c1, c2] = some (d0, p0) := hfu0
  obtain ⟨xs3, n4, -, -, -, hlen6, hf5⟩ := DataW.trod_struct Tryz.underlying78 hfu0
  obtain ⟨y7, y8, rfl⟩ := Go.Nilo.aD4 (show xs3.length = 2 from hlen6)
  have h9 : DataW.trod enc Tryz.prog W 0 (fun _ => true) true n4 75 (List.take (Tryz.prog.cellsOf 75) (List.drop 0 [c1, c2])) = some y7 := hf5 0 _ rfl
  rw [cells75] at h9
  replace h9 : DataW.trod enc Tryz.prog W 0 (fun _ => true) true n4 75 [c1] = some y7 := h9
  have h10 : DataW.trod enc Tryz.prog W 0 (fun _ => true) true n4 76 (List.take (Tryz.prog.cellsOf 76) (List.drop 1 [c1, c2])) = some y8 := hf5 1 _ rfl
  rw [cells76] at h10
  replace h10 : DataW.trod enc Tryz.prog W 0 (fun _ => true) true n4 76 [c2] = some y8 := h10
  obtain ⟨a11, c12, l13, he, r14⟩ := Go.Nilo.aFu Go.Nilo.oC (fun _ _ => rfl) (by decide) Tryz.underlying75 cells25 (fun _ _ _ h => tel25 h) h9
  obtain rfl : c1 = .slice a11 l13.length c12 := (List.cons.inj he).1
  obtain ⟨a15, c16, l17, he, r18⟩ := Go.Nilo.aFu Go.Nilo.rJ (fun _ _ => rfl) (by decide) Tryz.underlying76 cells101 (fun _ _ _ h => tel101 h) h10
  obtain rfl : c2 = .slice a15 l17.length c16 := (List.cons.inj he).1
  have k1 := h1
  have lt1 : ∀ x ∈ p1, x.block < W.heap.size := by obtain ⟨m, hm⟩ := k1; exact DataW.trod_lt m _ _ _ hm
  obtain ⟨a19, len20, c21, rfl⟩ := okWide_slice Tryz.underlying25 (hval 1 25 v1 rfl rfl)
  obtain ⟨fu1, hfu1⟩ := h1
  obtain ⟨_, _, l22, he, r23⟩ := Go.Nilo.xB Go.Nilo.aD (fun _ => rfl) (by decide) Tryz.underlying25 cells3 (fun _ _ _ h => cel3 h) hfu1
  simp [Value.cells] at he
  obtain ⟨rfl, rfl, rfl⟩ := he
  have k2 := h2
  have lt2 : ∀ x ∈ p2, x.block < W.heap.size := by obtain ⟨m, hm⟩ := k2; exact DataW.trod_lt m _ _ _ hm
  obtain ⟨a24, len25, c26, rfl⟩ := okWide_slice Tryz.underlying99 (hval 2 99 v2 rfl rfl)
  obtain ⟨fu2, hfu2⟩ := h2
  obtain ⟨_, _, l27, he, r28⟩ := Go.Nilo.xB Go.Nilo.aF (fun _ => rfl) (by decide) Tryz.underlying99 cells86 (fun _ _ _ h => cel86 h) hfu2
  simp [Value.cells] at he
  obtain ⟨rfl, rfl, rfl⟩ := he
  clear hA0 hval0
  refine (Go.Nilo.wT (N := 700) (⟨l13, l17⟩ : Go.Nilo.aB) l22 l27 r14 r18 r23 r28 (aD3 W) (Go.Nilo.aB9 (⟨l13, l17⟩ : Go.Nilo.aB) l22 l27)).mono fun e W' ⟨he, hcx⟩ => ?_
  have bel := hcx.behind
  subst he
  exact ⟨_, rfl, _, _, _, [], _, [], hW', trodAll_mk1 (shut_bool Tryz.underlying4 _), (trodAll_cons_mk (Below.trod laidOut (by kernel_rfl) (of_decide_eq_true (by kernel_rfl)) k0 bel lt0) (trodAll_cons_mk (Below.trod laidOut (by kernel_rfl) (of_decide_eq_true (by kernel_rfl)) k1 bel lt1) (trodAll_cons_mk (Below.trod laidOut (by kernel_rfl) (of_decide_eq_true (by kernel_rfl)) k2 bel lt2) trodAll_mk0))), rfl, bel.frame _, fun h => by cases h⟩

theorem over : Rows.crewRostersRow.holds Tryz.pinned (OpenSpec.ofChange Rows.crewRostersSpec) :=
  OpenClaim.holds_of_wide 9 Tryz.f9 rfl rfl rfl rfl rfl rfl rfl ⟨rfl, rfl, rfl, rfl, rfl⟩ rfl rfl rfl rfl rfl (by kernel_rfl) Tryz.func9 (by kernel_rfl)
    (of_decide_eq_true (by kernel_rfl)) (by unfold Func.isWrapper; first | (rw [if_pos (by decide +kernel)]; kernel_rfl) | (rw [if_neg (by decide +kernel)]; exact ⟨rfl, rfl⟩))
    (fun os started H enc _ => lifted os started H enc)

/-- The statement. -/
theorem proved : Rows.CrewRostersSaid := over
#print axioms proved
end Go.Proofs.YtpfmkhhhamdpeaaGreat.crewRosters
