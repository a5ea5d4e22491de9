/-
 What functions of the Go text compute, as plain functions, and that they do, part 1 of 3. Conditions: what each theorem names.
-/
import Derived.Test.YtakhbnnlhoninabNl29
import Derived.Test.YtakhbnnlhoninabProg
set_option linter.unusedVariables false
set_option linter.unusedSimpArgs false
set_option maxRecDepth 100000
set_option maxHeartbeats 4000000
namespace Go.Nilo
open Go.Proofs


structure kit_Stream where
 bytes : List Int
 used : Int
 mix : Int

structure daily_Reading where
 Value : Int
 Weight : Int
@[reducible] def enc_daily_Reading (x : daily_Reading) : List Value := [i6 x.Value,i6 x.Weight]
theorem one_enc_daily_Reading : ∀ x,(enc_daily_Reading x).length = 2 ∧ ones (enc_daily_Reading x) = true := fun _ => ⟨rfl,rfl⟩

structure daily_place where
 reading : Int
 value : Int
@[reducible] def enc_daily_place (x : daily_place) : List Value := [i6 x.reading,i6 x.value]
theorem one_enc_daily_place : ∀ x,(enc_daily_place x).length = 2 ∧ ones (enc_daily_place x) = true := fun _ => ⟨rfl,rfl⟩

structure daily_kink where
 value : Int
 reading : Int
 weight : Int
@[reducible] def enc_daily_kink (x : daily_kink) : List Value := [i6 x.value,i6 x.reading,i6 x.weight]
theorem one_enc_daily_kink : ∀ x,(enc_daily_kink x).length = 3 ∧ ones (enc_daily_kink x) = true := fun _ => ⟨rfl,rfl⟩

structure daily_Fall where
 A : Int
 B : Int
 Weight : Int
@[reducible] def enc_daily_Fall (x : daily_Fall) : List Value := [i6 x.A,i6 x.B,i6 x.Weight]
theorem one_enc_daily_Fall : ∀ x,(enc_daily_Fall x).length = 3 ∧ ones (enc_daily_Fall x) = true := fun _ => ⟨rfl,rfl⟩

structure api_Span where
 Lo : Int
 Hi : Int
@[reducible] def enc_api_Span (x : api_Span) : List Value := [i6 x.Lo,i6 x.Hi]
theorem one_enc_api_Span : ∀ x,(enc_api_Span x).length = 2 ∧ ones (enc_api_Span x) = true := fun _ => ⟨rfl,rfl⟩

structure daily_Value where
 Known : Bool
 Flow : api_Span
@[reducible] def enc_daily_Value (x : daily_Value) : List Value := [.bool x.Known,i6 x.Flow.Lo,i6 x.Flow.Hi]
theorem one_enc_daily_Value : ∀ x,(enc_daily_Value x).length = 3 ∧ ones (enc_daily_Value x) = true := fun _ => ⟨rfl,rfl⟩

structure daily_Record where
 Rise : Int
 Fall : Int
 Days : List daily_Value

structure daily_work where
 Record : daily_Record
 spans : List api_Span

theorem bt_46 : builtInfo Try.prog 46 = some ([.slice none 0 0,i6 0,i6 0],[(0,1),(1,1),(2,1)]) := by kernel_rfl

theorem en_5 : En Try.prog 5 := En.of Try.func5 (by kernel_rfl) (by kernel_rfl)

theorem fa_46_0 : ∀ (q : Addr) (w : World),(Instr.fieldAt 46 (.pointer (some q)) 0).run Try.prog w = .ok (.pointer (some (q.add 0))) w := fun _ _ => by kernel_rfl

theorem sc_22 : ScT Try.prog 22 := ⟨⟨_,Try.underlying22,trivial⟩,by kernel_rfl⟩

theorem fa_46_1 : ∀ (q : Addr) (w : World),(Instr.fieldAt 46 (.pointer (some q)) 1).run Try.prog w = .ok (.pointer (some (q.add 1))) w := fun _ _ => by kernel_rfl

theorem sc_3 : ScT Try.prog 3 := ⟨⟨_,Try.underlying3,trivial⟩,by kernel_rfl⟩

theorem sz_5 : (Try.prog.info? 5).map (·.size) = some 1 := by kernel_rfl

theorem sc_5 : ScT Try.prog 5 := ⟨⟨_,Try.underlying5,trivial⟩,by kernel_rfl⟩

theorem follows_mx : Try.prog.follows .mixedOrders = true := by kernel_rfl

theorem fa_46_2 : ∀ (q : Addr) (w : World),(Instr.fieldAt 46 (.pointer (some q)) 2).run Try.prog w = .ok (.pointer (some (q.add 2))) w := fun _ _ => by kernel_rfl

theorem sz_3 : (Try.prog.info? 3).map (·.size) = some 1 := by kernel_rfl

theorem en_13 : En Try.prog 13 := En.of Try.func13 (by kernel_rfl) (by kernel_rfl)

theorem en_14 : En Try.prog 14 := En.of Try.func14 (by kernel_rfl) (by kernel_rfl)

theorem bt_33 : builtInfo Try.prog 33 = some ([i6 0,i6 0],[(0,1),(1,1)]) := by kernel_rfl

theorem zr_33 : (Try.prog.info? 33).map (·.zero) = some (some (.agg #[i6 0,i6 0])) := by kernel_rfl

theorem sz_33 : (Try.prog.info? 33).map (·.size) = some 2 := by kernel_rfl

theorem fa_33_0 : ∀ (q : Addr) (w : World),(Instr.fieldAt 33 (.pointer (some q)) 0).run Try.prog w = .ok (.pointer (some (q.add 0))) w := fun _ _ => by kernel_rfl

theorem ag_33 : AggT Try.prog 33 2 := ⟨⟨_,Try.underlying33,trivial⟩,by kernel_rfl⟩

theorem sl_23 : SlT Try.prog 23 33 2 16 (.agg #[i6 0,i6 0]) := SlT.of Try.underlying23 (by kernel_rfl) (by decide)

theorem en_4 : En Try.prog 4 := En.of Try.func4 (by kernel_rfl) (by kernel_rfl)

theorem en_30 : En Try.prog 30 := En.of Try.func30 (by kernel_rfl) (by kernel_rfl)

theorem sc_82 : ScT Try.prog 82 := ⟨⟨_,Try.underlying82,trivial⟩,by kernel_rfl⟩

theorem fa_33_1 : ∀ (q : Addr) (w : World),(Instr.fieldAt 33 (.pointer (some q)) 1).run Try.prog w = .ok (.pointer (some (q.add 1))) w := fun _ _ => by kernel_rfl

theorem en_32 : En Try.prog 32 := En.of Try.func32 (by kernel_rfl) (by kernel_rfl)

theorem en_50 : En Try.prog 50 := En.of Try.func50 (by kernel_rfl) (by kernel_rfl)

theorem en_72 : En Try.prog 72 := En.of Try.func72 (by kernel_rfl) (by kernel_rfl)

theorem en_49 : En Try.prog 49 := En.of Try.func49 (by kernel_rfl) (by kernel_rfl)

theorem en_31 : En Try.prog 31 := En.of Try.func31 (by kernel_rfl) (by kernel_rfl)

theorem en_15 : En Try.prog 15 := En.of Try.func15 (by kernel_rfl) (by kernel_rfl)

theorem sl_27 : SlT Try.prog 27 3 1 8 (i6 0) := SlT.of Try.underlying27 (by kernel_rfl) (by decide)

theorem en_16 : En Try.prog 16 := En.of Try.func16 (by kernel_rfl) (by kernel_rfl)

theorem en_17 : En Try.prog 17 := En.of Try.func17 (by kernel_rfl) (by kernel_rfl)

@[reducible] def kv_53 (k : Int × Int) : Value := .agg #[i6 k.1,i6 k.2]

set_option maxRecDepth 100000 in
theorem kt_53 : KeyT Try.prog 53 kv_53 :=
 keyT_mk (by kernel_rfl) (fun a b h => by
   simp only [kv_53,Value.agg.injEq,Array.mk.injEq,List.cons.injEq,Value.int.injEq,Value.bool.injEq,true_and,and_true] at h
   grind) (fun a b => decide (a = b)) (fun a b => by simp)
  (fun a b w => by
   show (Op.equalIn 10000 53 _ _).run Try.prog w = _
   rw [run_equalIn_agg w 9999 53 _ _ (by kernel_rfl) (by kernel_rfl)]
   simp [Op.eqFields,part,go_sem]
   repeat' split
   all_goals (refine congrArg (fun q => Result.ok q w) ?_; symm; simp_all [Prod.ext_iff]))
  (fun e k w => by rw [Instr.checkKey]; simp [run_underlying Try.underlying53,part,go_sem,chkI_run (n := 9998) Try.underlying3]) (fun k => by simp [Instr.sameBits])

theorem bt_53 : builtInfo Try.prog 53 = some ([i6 0,i6 0],[(0,1),(1,1)]) := by kernel_rfl

theorem zr_53 : (Try.prog.info? 53).map (·.zero) = some (some (.agg #[i6 0,i6 0])) := by kernel_rfl

theorem sz_53 : (Try.prog.info? 53).map (·.size) = some 2 := by kernel_rfl

theorem en_18 : En Try.prog 18 := En.of Try.func18 (by kernel_rfl) (by kernel_rfl)

theorem zr_3 : (Try.prog.info? 3).map (·.zero) = some (some (i6 0)) := by kernel_rfl

theorem ag_53 : AggT Try.prog 53 2 := ⟨⟨_,Try.underlying53,trivial⟩,by kernel_rfl⟩

theorem fa_53_1 : ∀ (q : Addr) (w : World),(Instr.fieldAt 53 (.pointer (some q)) 1).run Try.prog w = .ok (.pointer (some (q.add 1))) w := fun _ _ => by kernel_rfl

theorem ge_53 : Try.prog.eqGuardType Try.prog.depth 53 = false := by kernel_rfl

theorem eqs_53 (x0 : Int) (x1 : Int) (y0 : Int) (y1 : Int) (w : World) : (Op.equalIn 10000 53 (.agg #[i6 x0,i6 x1]) (.agg #[i6 y0,i6 y1])).run Try.prog w = .ok (x0 == y0 && x1 == y1) w := by
 rw [run_equalIn_agg w 9999 53 _ _ (by kernel_rfl) (by kernel_rfl)]
 simp [Op.eqFields,part,go_sem]
 repeat' split
 all_goals simp_all

theorem fa_53_0 : ∀ (q : Addr) (w : World),(Instr.fieldAt 53 (.pointer (some q)) 0).run Try.prog w = .ok (.pointer (some (q.add 0))) w := fun _ _ => by kernel_rfl

theorem en_6 : En Try.prog 6 := En.of Try.func6 (by kernel_rfl) (by kernel_rfl)

theorem en_7 : En Try.prog 7 := En.of Try.func7 (by kernel_rfl) (by kernel_rfl)

theorem zr_54 : (Try.prog.info? 54).map (·.zero) = some (some (.agg (catc [] 30 encI_i64 (fun _ => 0) []).toArray)) := by kernel_rfl

theorem bt_88 : builtInfo Try.prog 88 = some ([i6 0,i6 0,i6 0],[(0,1),(1,1),(2,1)]) := by kernel_rfl

theorem sl_86 : SlT Try.prog 86 88 3 24 (.agg #[i6 0,i6 0,i6 0]) := SlT.of Try.underlying86 (by kernel_rfl) (by decide)

theorem sz_88 : (Try.prog.info? 88).map (·.size) = some 3 := by kernel_rfl

theorem ag_88 : AggT Try.prog 88 3 := ⟨⟨_,Try.underlying88,trivial⟩,by kernel_rfl⟩

theorem fa_88_0 : ∀ (q : Addr) (w : World),(Instr.fieldAt 88 (.pointer (some q)) 0).run Try.prog w = .ok (.pointer (some (q.add 0))) w := fun _ _ => by kernel_rfl

theorem en_63 : En Try.prog 63 := En.of Try.func63 (by kernel_rfl) (by kernel_rfl)

theorem en_37 : En Try.prog 37 := En.of Try.func37 (by kernel_rfl) (by kernel_rfl)

theorem en_36 : En Try.prog 36 := En.of Try.func36 (by kernel_rfl) (by kernel_rfl)

theorem en_78 : En Try.prog 78 := En.of Try.func78 (by kernel_rfl) (by kernel_rfl)

theorem en_62 : En Try.prog 62 := En.of Try.func62 (by kernel_rfl) (by kernel_rfl)

theorem en_35 : En Try.prog 35 := En.of Try.func35 (by kernel_rfl) (by kernel_rfl)

theorem fa_88_2 : ∀ (q : Addr) (w : World),(Instr.fieldAt 88 (.pointer (some q)) 2).run Try.prog w = .ok (.pointer (some (q.add 2))) w := fun _ _ => by kernel_rfl

theorem fa_88_1 : ∀ (q : Addr) (w : World),(Instr.fieldAt 88 (.pointer (some q)) 1).run Try.prog w = .ok (.pointer (some (q.add 1))) w := fun _ _ => by kernel_rfl

@[reducible] def encA_54 (x : Nat → Int) : List Value := catc [] 30 encI_i64 x []
theorem one_encA_54 : ∀ x,(encA_54 x).length = 30 ∧ ones (encA_54 x) = true := fun x => ⟨(catc_one one_encI_i64 30 x).1.trans (by decide),(catc_one one_encI_i64 30 x).2⟩

theorem ag_54 : AggT Try.prog 54 30 := ⟨⟨_,Try.underlying54,trivial⟩,by kernel_rfl⟩

theorem sz_54 : (Try.prog.info? 54).map (·.size) = some 30 := by kernel_rfl

theorem en_19 : En Try.prog 19 := En.of Try.func19 (by kernel_rfl) (by kernel_rfl)

theorem bt_58 : builtInfo Try.prog 58 = some ([i6 0,i6 0,i6 0],[(0,1),(1,1),(2,1)]) := by kernel_rfl

theorem sl_34 : SlT Try.prog 34 58 3 24 (.agg #[i6 0,i6 0,i6 0]) := SlT.of Try.underlying34 (by kernel_rfl) (by decide)

theorem en_8 : En Try.prog 8 := En.of Try.func8 (by kernel_rfl) (by kernel_rfl)

theorem sz_58 : (Try.prog.info? 58).map (·.size) = some 3 := by kernel_rfl

theorem ag_58 : AggT Try.prog 58 3 := ⟨⟨_,Try.underlying58,trivial⟩,by kernel_rfl⟩

theorem zr_58 : (Try.prog.info? 58).map (·.zero) = some (some (.agg #[i6 0,i6 0,i6 0])) := by kernel_rfl

theorem fa_58_0 : ∀ (q : Addr) (w : World),(Instr.fieldAt 58 (.pointer (some q)) 0).run Try.prog w = .ok (.pointer (some (q.add 0))) w := fun _ _ => by kernel_rfl

theorem fa_58_1 : ∀ (q : Addr) (w : World),(Instr.fieldAt 58 (.pointer (some q)) 1).run Try.prog w = .ok (.pointer (some (q.add 1))) w := fun _ _ => by kernel_rfl

theorem fa_58_2 : ∀ (q : Addr) (w : World),(Instr.fieldAt 58 (.pointer (some q)) 2).run Try.prog w = .ok (.pointer (some (q.add 2))) w := fun _ _ => by kernel_rfl

theorem en_20 : En Try.prog 20 := En.of Try.func20 (by kernel_rfl) (by kernel_rfl)

theorem en_9 : En Try.prog 9 := En.of Try.func9 (by kernel_rfl) (by kernel_rfl)

theorem en_10 : En Try.prog 10 := En.of Try.func10 (by kernel_rfl) (by kernel_rfl)

theorem en_11 : En Try.prog 11 := En.of Try.func11 (by kernel_rfl) (by kernel_rfl)

theorem zr_65 : (Try.prog.info? 65).map (·.zero) = some (some (.agg #[i6 0,i6 0,.slice none 0 0])) := by kernel_rfl

theorem zr_97 : (Try.prog.info? 97).map (·.zero) = some (some (.agg #[.bool false,i6 0,i6 0])) := by kernel_rfl

theorem zr_68 : (Try.prog.info? 68).map (·.zero) = some (some (.agg #[i6 0,i6 0])) := by kernel_rfl

theorem bt_68 : builtInfo Try.prog 68 = some ([i6 0,i6 0],[(0,1),(1,1)]) := by kernel_rfl

theorem sz_68 : (Try.prog.info? 68).map (·.size) = some 2 := by kernel_rfl

theorem ag_68 : AggT Try.prog 68 2 := ⟨⟨_,Try.underlying68,trivial⟩,by kernel_rfl⟩

theorem en_27 : En Try.prog 27 := En.of Try.func27 (by kernel_rfl) (by kernel_rfl)

theorem bt_97 : builtInfo Try.prog 97 = some ([.bool false,i6 0,i6 0],[(0,1),(1,2)]) := by kernel_rfl

theorem sz_97 : (Try.prog.info? 97).map (·.size) = some 3 := by kernel_rfl

theorem ag_97 : AggT Try.prog 97 3 := ⟨⟨_,Try.underlying97,trivial⟩,by kernel_rfl⟩

theorem en_39 : En Try.prog 39 := En.of Try.func39 (by kernel_rfl) (by kernel_rfl)

theorem sl_63 : SlT Try.prog 63 97 3 24 (.agg #[.bool false,i6 0,i6 0]) := SlT.of Try.underlying63 (by kernel_rfl) (by decide)

theorem bt_65 : builtInfo Try.prog 65 = some ([i6 0,i6 0,.slice none 0 0],[(0,1),(1,1),(2,1)]) := by kernel_rfl

theorem sz_65 : (Try.prog.info? 65).map (·.size) = some 3 := by kernel_rfl

theorem ag_65 : AggT Try.prog 65 3 := ⟨⟨_,Try.underlying65,trivial⟩,by kernel_rfl⟩

theorem en_22 : En Try.prog 22 := En.of Try.func22 (by kernel_rfl) (by kernel_rfl)

theorem fa_65_2 : ∀ (q : Addr) (w : World),(Instr.fieldAt 65 (.pointer (some q)) 2).run Try.prog w = .ok (.pointer (some (q.add 2))) w := fun _ _ => by kernel_rfl

theorem sc_63 : ScT Try.prog 63 := ⟨⟨_,Try.underlying63,trivial⟩,by kernel_rfl⟩

theorem fa_65_0 : ∀ (q : Addr) (w : World),(Instr.fieldAt 65 (.pointer (some q)) 0).run Try.prog w = .ok (.pointer (some (q.add 0))) w := fun _ _ => by kernel_rfl

theorem en_65 : En Try.prog 65 := En.of Try.func65 (by kernel_rfl) (by kernel_rfl)

theorem fa_65_1 : ∀ (q : Addr) (w : World),(Instr.fieldAt 65 (.pointer (some q)) 1).run Try.prog w = .ok (.pointer (some (q.add 1))) w := fun _ _ => by kernel_rfl

theorem sc_130 : ScT Try.prog 130 := ⟨⟨_,Try.underlying130,trivial⟩,by kernel_rfl⟩

theorem fa_97_0 : ∀ (q : Addr) (w : World),(Instr.fieldAt 97 (.pointer (some q)) 0).run Try.prog w = .ok (.pointer (some (q.add 0))) w := fun _ _ => by kernel_rfl

theorem sc_4 : ScT Try.prog 4 := ⟨⟨_,Try.underlying4,trivial⟩,by kernel_rfl⟩

theorem fa_97_1 : ∀ (q : Addr) (w : World),(Instr.fieldAt 97 (.pointer (some q)) 1).run Try.prog w = .ok (.pointer (some (q.add 1))) w := fun _ _ => by kernel_rfl

theorem fa_68_0 : ∀ (q : Addr) (w : World),(Instr.fieldAt 68 (.pointer (some q)) 0).run Try.prog w = .ok (.pointer (some (q.add 0))) w := fun _ _ => by kernel_rfl

theorem fa_68_1 : ∀ (q : Addr) (w : World),(Instr.fieldAt 68 (.pointer (some q)) 1).run Try.prog w = .ok (.pointer (some (q.add 1))) w := fun _ _ => by kernel_rfl

theorem en_47 : En Try.prog 47 := En.of Try.func47 (by kernel_rfl) (by kernel_rfl)

theorem en_67 : En Try.prog 67 := En.of Try.func67 (by kernel_rfl) (by kernel_rfl)

theorem en_84 : En Try.prog 84 := En.of Try.func84 (by kernel_rfl) (by kernel_rfl)

theorem en_89 : En Try.prog 89 := En.of Try.func89 (by kernel_rfl) (by kernel_rfl)

theorem en_83 : En Try.prog 83 := En.of Try.func83 (by kernel_rfl) (by kernel_rfl)

theorem en_66 : En Try.prog 66 := En.of Try.func66 (by kernel_rfl) (by kernel_rfl)

theorem en_40 : En Try.prog 40 := En.of Try.func40 (by kernel_rfl) (by kernel_rfl)

theorem bt_95 : builtInfo Try.prog 95 = some ([i6 0,i6 0,.slice none 0 0,.slice none 0 0],[(0,3),(3,1)]) := by kernel_rfl

theorem zr_91 : (Try.prog.info? 91).map (·.zero) = some (some (.pointer none)) := by kernel_rfl

theorem sz_91 : (Try.prog.info? 91).map (·.size) = some 1 := by kernel_rfl

theorem sc_91 : ScT Try.prog 91 := ⟨⟨_,Try.underlying91,trivial⟩,by kernel_rfl⟩

theorem fa_95_1 : ∀ (q : Addr) (w : World),(Instr.fieldAt 95 (.pointer (some q)) 1).run Try.prog w = .ok (.pointer (some (q.add 3))) w := fun _ _ => by kernel_rfl

theorem sc_60 : ScT Try.prog 60 := ⟨⟨_,Try.underlying60,trivial⟩,by kernel_rfl⟩

theorem en_45 : En Try.prog 45 := En.of Try.func45 (by kernel_rfl) (by kernel_rfl)

theorem sl_60 : SlT Try.prog 60 68 2 16 (.agg #[i6 0,i6 0]) := SlT.of Try.underlying60 (by kernel_rfl) (by decide)

theorem sz_60 : (Try.prog.info? 60).map (·.size) = some 1 := by kernel_rfl

theorem zr_141 : (Try.prog.info? 141).map (·.zero) = some (some (.nilFunc)) := by kernel_rfl

theorem sz_141 : (Try.prog.info? 141).map (·.size) = some 1 := by kernel_rfl

theorem en_81 : En Try.prog 81 := En.of Try.func81 (by kernel_rfl) (by kernel_rfl)

theorem fa_95_0 : ∀ (q : Addr) (w : World),(Instr.fieldAt 95 (.pointer (some q)) 0).run Try.prog w = .ok (.pointer (some (q.add 0))) w := fun _ _ => by kernel_rfl

theorem sc_141 : ScT Try.prog 141 := ⟨⟨_,Try.underlying141,trivial⟩,by kernel_rfl⟩

theorem en_80 : En Try.prog 80 := En.of Try.func80 (by kernel_rfl) (by kernel_rfl)

theorem sc_110 : ScT Try.prog 110 := ⟨⟨_,Try.underlying110,trivial⟩,by kernel_rfl⟩

theorem en_82 : En Try.prog 82 := En.of Try.func82 (by kernel_rfl) (by kernel_rfl)

theorem en_71 : En Try.prog 71 := En.of Try.func71 (by kernel_rfl) (by kernel_rfl)

theorem en_85 : En Try.prog 85 := En.of Try.func85 (by kernel_rfl) (by kernel_rfl)

theorem en_70 : En Try.prog 70 := En.of Try.func70 (by kernel_rfl) (by kernel_rfl)

theorem en_46 : En Try.prog 46 := En.of Try.func46 (by kernel_rfl) (by kernel_rfl)

theorem en_88 : En Try.prog 88 := En.of Try.func88 (by kernel_rfl) (by kernel_rfl)

theorem en_64 : En Try.prog 64 := En.of Try.func64 (by kernel_rfl) (by kernel_rfl)

theorem en_38 : En Try.prog 38 := En.of Try.func38 (by kernel_rfl) (by kernel_rfl)

theorem en_21 : En Try.prog 21 := En.of Try.func21 (by kernel_rfl) (by kernel_rfl)

theorem zr_103 : (Try.prog.info? 103).map (·.zero) = some (some (.agg #[.nilFunc,.nilFunc])) := by kernel_rfl

theorem bt_102 : builtInfo Try.prog 102 = some ([.nilFunc],[(0,1)]) := by kernel_rfl

theorem sz_103 : (Try.prog.info? 103).map (·.size) = some 2 := by kernel_rfl

theorem ag_103 : AggT Try.prog 103 2 := ⟨⟨_,Try.underlying103,trivial⟩,by kernel_rfl⟩

theorem en_41 : En Try.prog 41 := En.of Try.func41 (by kernel_rfl) (by kernel_rfl)

theorem sz_102 : (Try.prog.info? 102).map (·.size) = some 1 := by kernel_rfl

theorem ag_102 : AggT Try.prog 102 1 := ⟨⟨_,Try.underlying102,trivial⟩,by kernel_rfl⟩

theorem fa_102_0 : ∀ (q : Addr) (w : World),(Instr.fieldAt 102 (.pointer (some q)) 0).run Try.prog w = .ok (.pointer (some (q.add 0))) w := fun _ _ => by kernel_rfl

theorem sc_100 : ScT Try.prog 100 := ⟨⟨_,Try.underlying100,trivial⟩,by kernel_rfl⟩

theorem en_68 : En Try.prog 68 := En.of Try.func68 (by kernel_rfl) (by kernel_rfl)

theorem en_43 : En Try.prog 43 := En.of Try.func43 (by kernel_rfl) (by kernel_rfl)

theorem en_42 : En Try.prog 42 := En.of Try.func42 (by kernel_rfl) (by kernel_rfl)

theorem en_69 : En Try.prog 69 := En.of Try.func69 (by kernel_rfl) (by kernel_rfl)

theorem en_23 : En Try.prog 23 := En.of Try.func23 (by kernel_rfl) (by kernel_rfl)

theorem en_44 : En Try.prog 44 := En.of Try.func44 (by kernel_rfl) (by kernel_rfl)

theorem en_24 : En Try.prog 24 := En.of Try.func24 (by kernel_rfl) (by kernel_rfl)

theorem en_25 : En Try.prog 25 := En.of Try.func25 (by kernel_rfl) (by kernel_rfl)

theorem ge_68 : Try.prog.eqGuardType Try.prog.depth 68 = false := by kernel_rfl

theorem eqs_68 (x0 : Int) (x1 : Int) (y0 : Int) (y1 : Int) (w : World) : (Op.equalIn 10000 68 (.agg #[i6 x0,i6 x1]) (.agg #[i6 y0,i6 y1])).run Try.prog w = .ok (x0 == y0 && x1 == y1) w := by
 rw [run_equalIn_agg w 9999 68 _ _ (by kernel_rfl) (by kernel_rfl)]
 simp [Op.eqFields,part,go_sem]
 repeat' split
 all_goals simp_all

theorem en_26 : En Try.prog 26 := En.of Try.func26 (by kernel_rfl) (by kernel_rfl)

theorem en_48 : En Try.prog 48 := En.of Try.func48 (by kernel_rfl) (by kernel_rfl)

theorem en_28 : En Try.prog 28 := En.of Try.func28 (by kernel_rfl) (by kernel_rfl)

theorem en_29 : En Try.prog 29 := En.of Try.func29 (by kernel_rfl) (by kernel_rfl)

theorem en_12 : En Try.prog 12 := En.of Try.func12 (by kernel_rfl) (by kernel_rfl)

def kit_New (N : Nat) (bytes : List Int) : Option (Int × Int) :=
 some (0,0)
theorem kit_New_ok {N : Nat} {G : Pers} {Lf : List Ent} {w : World} (bytes : List Int) {bytes_p : Option Addr} {bytes_c : Nat} (h_bytes : Rd G 1 bytes_p bytes_c (bytes.map encI_u8)) (hc : Ctx G (Lf) w) {res : Int × Int} (hF : kit_New N bytes = some res) : Calls Try.prog 5 #[.slice bytes_p bytes.length bytes_c] w (fun e w => ∃ (b'1 : Nat),e = .returned (pq b'1) ∧ Ctx G (.box b'1 [.slice bytes_p bytes.length bytes_c,i6 res.1,i6 res.2] 46::Lf) w) := by
 unfold kit_New at hF
 refine fnIn Try.func5 rfl Try.ntmps5 rfl fun a hf => zS fun K h => sp 1 hf rfl fun a hf => zT h ?_
 refine zS fun K h => sp 1 hf rfl fun a hf => zP hf rfl (pBuildS (cells := [.slice bytes_p bytes.length bytes_c,i6 0,i6 0]) bt_46 rfl rfl) fun a hf => zB hf hc rfl fun b_1 a w hf hc => sp 1 hf rfl fun a hf => zT h ?_
 refine wp_ret ?_
 obtain rfl := sj hF
 exact zO1 Try.results5 hf rfl ⟨b_1,rfl,hc⟩

def kit_Stream_Next_j9 (N : Nat) (s_ : kit_Stream) (n : Int) (b_2 : Int) (b_3 : Int) : Option (Int × Int × Int) :=
 Option.bind (nz n) fun un_1 =>
 some (b_3.tmod n,W (s_.used + 1),(W ((W ((W (5 * s_.mix)) + b_2)) + 1)).tmod 251)
def kit_Stream_Next_j6 (N : Nat) (s_ : kit_Stream) (n : Int) (b_2 : Int) : Option (Int × Int × Int) :=
 cond (decide (256 < n))
 (kit_Stream_Next_j9 N s_ n b_2 (W ((W (256 * b_2)) + ((W ((W ((W (5 * s_.mix)) + b_2)) + 1)).tmod 251))))
 (kit_Stream_Next_j9 N s_ n b_2 b_2)
def kit_Stream_Next (N : Nat) (s_ : kit_Stream) (n : Int) : Option (Int × Int × Int) :=
 cond ((decide (n < 2)) || (((s_.bytes.length : Nat) : Int) == 0))
 (some (0,s_.used,s_.mix))
 (Option.bind (nz ((s_.bytes.length : Nat) : Int)) fun un =>
 Option.bind (getI s_.bytes (s_.used.tmod ((s_.bytes.length : Nat) : Int))) fun e_1 =>
 cond (decide (((s_.bytes.length : Nat) : Int) ≤ s_.used))
 (Option.bind (nz ((s_.bytes.length : Nat) : Int)) fun un_2 =>
 kit_Stream_Next_j6 N s_ n (W ((W (e_1)) + (W ((W (11 * s_.mix)) + (W (s_.used.tdiv ((s_.bytes.length : Nat) : Int))))))))
 (kit_Stream_Next_j6 N s_ n (W (e_1))))
theorem kit_Stream_Next_ok {N : Nat} {G : Pers} {Lf : List Ent} {w : World} (s_ : kit_Stream) (n : Int) {b_ : Nat} {s__bytes_p : Option Addr} {s__bytes_c : Nat} (h_s__bytes : Rd G 1 s__bytes_p s__bytes_c (s_.bytes.map encI_u8)) (hc : Ctx G (.box b_ [.slice s__bytes_p s_.bytes.length s__bytes_c,i6 s_.used,i6 s_.mix] 46::Lf) w) {res : Int × Int × Int} (hF : kit_Stream_Next N s_ n = some res) : Calls Try.prog 13 #[pq b_,i6 n] w (fun e w => e = .returned (i6 res.1) ∧ Ctx G (.box b_ [.slice s__bytes_p s_.bytes.length s__bytes_c,i6 res.2.1,i6 res.2.2] 46::Lf) w) := by
 unfold kit_Stream_Next at hF
 refine fnIn Try.func13 rfl Try.ntmps13 rfl fun a hf => zS fun K h => sp 1 hf rfl fun a hf => zT h ?_
 refine wp_seq_k fun K2 h2 => zS fun K h => sp 3 hf rfl fun a hf => stCc 7 (fun a => Has 92 a [(0,pq b_),(1,i6 n),(6,i6 n),(7,.bool (decide (n < 2))),(8,.bool (decide (n < 2))),(15,.bool ((decide (n < 2)) || (((s_.bytes.length : Nat) : Int) == 0)))]) hc ?_ ?_
 ·cases hb : (decide (n < 2))
  ·rw [hb] at hf
   refine sp 2 hf rfl fun a hf => zP hf rfl (pFA fa_46_0 rfl) fun a hf => zL hf hc sc_22 m0 rfl fun a w hf hc => zP hf rfl (pLenS Try.underlying22 rfl) fun a hf => sp 2 hf rfl fun a hf => cNil ⟨hf.kp rfl,hc⟩
  ·rw [hb] at hf
   refine stS hf rfl rfl rfl fun a hf => stS hf rfl rfl rfl fun a hf => stS hf rfl rfl rfl fun a hf => stS hf rfl rfl rfl fun a hf => stS hf rfl rfl rfl fun a hf => stS hf rfl rfl rfl fun a hf => sp 1 hf rfl fun a hf => cNil ⟨hf.kp rfl,hc⟩
 intro a w ⟨hf,hc⟩
 refine zT h ?_
 refine zI hf rfl hF ?_ ?_ <;> clear hF <;> intro hF
 ·refine zS fun K h => sp 1 hf rfl fun a hf => zT h ?_
  refine wp_ret ?_
  refine xThenR ?_
  obtain rfl := sj hF
  exact zO1 Try.results13 hf rfl ⟨rfl,hc⟩
 ·refine wp_skip ?_
  refine h2 _ _ ?_
  refine wp_seq_k fun K5 h5 => ?_
  obtain ⟨un,hun,hF⟩ := bnd_some hF
  obtain ⟨e_1,he_1,hF⟩ := bnd_some hF
  obtain ⟨b_1,o,qa,qp⟩ := h_s__bytes.atm he_1
  refine cQ hc follows_mx (by kernel_rfl) ?_
  refine qE hf rfl rfl rfl (Pu.ev (pM rfl)) fun a hf => qE hf rfl rfl rfl (Pu.ev (pNC rfl)) fun a hf => qE hf rfl rfl rfl (Pu.ev (pFA fa_46_0 rfl)) fun a hf => qE hf rfl rfl rfl (eLd1 sc_22 rfl (cell_box m0 rfl)) fun a hf => qE hf rfl rfl rfl (Pu.ev (pM rfl)) fun a hf => qE hf rfl rfl rfl (Pu.ev (pNC rfl)) fun a hf => qE hf rfl rfl rfl (Pu.ev (pFA fa_46_1 rfl)) fun a hf => qE hf rfl rfl rfl (eLd1 sc_3 rfl (cell_box m0 rfl)) fun a hf => qE hf rfl rfl rfl (Pu.ev (pM rfl)) fun a hf => qE hf rfl rfl rfl (Pu.ev (pNC rfl)) fun a hf => qE hf rfl rfl rfl (Pu.ev (pFA fa_46_0 rfl)) fun a hf => qE hf rfl rfl rfl (eLd1 sc_22 rfl (cell_box m0 rfl)) fun a hf => qE hf rfl rfl rfl (Pu.ev (pLenS Try.underlying22 rfl)) fun a hf => ?_
  refine qE hf rfl rfl rfl (Pu.ev (pRem rfl rfl (nz_spec hun))) fun a hf => qE hf rfl rfl rfl (Pu.ev (pIA Try.underlying22 sz_5 rfl rfl qa)) fun a hf => qE hf rfl rfl rfl (eLd1 sc_5 rfl (cell_pc (j := 0) qp rfl)) fun a hf => qE hf rfl rfl rfl (Pu.ev (pCv Try.underlying5 Try.underlying3 rfl)) fun a hf => qE hf rfl rfl rfl (Pu.ev (pA rfl)) fun a hf => ?_
  intro w hc
  refine h5 _ _ ?_
  refine wp_seq_k fun K6 h6 => ?_
  have hj6 : ∀ (b_2 : Int) a w,Has 92 a [(0,pq b_),(1,i6 n),(5,i6 b_2)] → Ctx G (.box b_ [.slice s__bytes_p s_.bytes.length s__bytes_c,i6 s_.used,i6 s_.mix] 46::Lf) w → kit_Stream_Next_j6 N s_ n b_2 = some res → K6 a w := by
   repeat (clear hF)
   repeat (clear hc)
   repeat (clear hf)
   intro b_2 a w hf hc hF
   unfold kit_Stream_Next_j6 at hF
   refine h6 _ _ ?_
   refine zS fun K h => sp 3 hf rfl fun a hf => zP hf rfl (pFA fa_46_2 rfl) fun a hf => zL hf hc sc_3 m0 rfl fun a w hf hc => sp 4 hf rfl fun a hf => zP hf rfl (pRem rfl rfl (by decide)) fun a hf => sp 1 hf rfl fun a hf => zP hf rfl (pFA fa_46_2 rfl) fun a hf => zW hf hc sz_3 u0 rfl fun w hc => zT h ?_
   refine zS fun K h => sp 2 hf rfl fun a hf => zP hf rfl (pFA fa_46_1 rfl) fun a hf => zL hf hc sc_3 m0 rfl fun a w hf hc => sp 2 hf rfl fun a hf => zP hf rfl (pFA fa_46_1 rfl) fun a hf => zW hf hc sz_3 u0 rfl fun w hc => zT h ?_
   refine wp_seq_k fun K9 h9 => ?_
   have hj9 : ∀ (b_3 : Int) a w,Has 92 a [(1,i6 n),(5,i6 b_3)] → Ctx G (.box b_ [.slice s__bytes_p s_.bytes.length s__bytes_c,i6 (W (s_.used + 1)),i6 ((W ((W ((W (5 * s_.mix)) + b_2)) + 1)).tmod 251)] 46::Lf) w → kit_Stream_Next_j9 N s_ n b_2 b_3 = some res → K9 a w := by
    repeat (clear hF)
    repeat (clear hc)
    repeat (clear hf)
    intro b_3 a w hf hc hF
    unfold kit_Stream_Next_j9 at hF
    refine h9 _ _ ?_
    refine zS fun K h => sp 2 hf rfl fun a hf => ?_
    obtain ⟨un_1,hun_1,hF⟩ := bnd_some hF
    refine zP hf rfl (pRem rfl rfl (nz_spec hun_1)) fun a hf => sp 1 hf rfl fun a hf => zT h ?_
    refine wp_ret ?_
    obtain rfl := sj hF
    exact zO1 Try.results13 hf rfl ⟨rfl,hc⟩
   refine zS fun K h => sp 2 hf rfl fun a hf => zT h ?_
   refine zI hf rfl hF ?_ ?_ <;> clear hF <;> intro hF
   ·refine cReg ?_
    refine sp 4 hf rfl fun a hf => zP hf rfl (pFA fa_46_2 rfl) fun a hf => zL hf hc sc_3 m0 rfl fun a w hf hc => sp 2 hf rfl fun a hf => cNil ?_
    exact hj9 (W ((W (256 * b_2)) + ((W ((W ((W (5 * s_.mix)) + b_2)) + 1)).tmod 251))) _ _  (hf.kp rfl) hc hF
   ·refine wp_skip ?_
    exact hj9 b_2 _ _  (hf.kp rfl) hc hF
  refine wp_seq_k fun K12 h12 => cQ hc follows_mx (by kernel_rfl) ?_
  refine qE hf rfl rfl rfl (Pu.ev (pM rfl)) fun a hf => qE hf rfl rfl rfl (Pu.ev (pNC rfl)) fun a hf => qE hf rfl rfl rfl (Pu.ev (pFA fa_46_1 rfl)) fun a hf => qE hf rfl rfl rfl (eLd1 sc_3 rfl (cell_box m0 rfl)) fun a hf => qE hf rfl rfl rfl (Pu.ev (pM rfl)) fun a hf => qE hf rfl rfl rfl (Pu.ev (pNC rfl)) fun a hf => qE hf rfl rfl rfl (Pu.ev (pFA fa_46_0 rfl)) fun a hf => qE hf rfl rfl rfl (eLd1 sc_22 rfl (cell_box m0 rfl)) fun a hf => qE hf rfl rfl rfl (Pu.ev (pLenS Try.underlying22 rfl)) fun a hf => qE hf rfl rfl rfl (Pu.ev (pGe rfl rfl)) fun a hf => ?_
  intro w hc
  refine h12 _ _ ?_
  refine zI hf rfl hF ?_ ?_ <;> clear hF <;> intro hF
  ·obtain ⟨un_2,hun_2,hF⟩ := bnd_some hF
   refine cQ hc follows_mx (by kernel_rfl) ?_
   refine qE hf rfl rfl rfl (Pu.ev (pM rfl)) fun a hf => qE hf rfl rfl rfl (Pu.ev (pM rfl)) fun a hf => qE hf rfl rfl rfl (Pu.ev (pNC rfl)) fun a hf => qE hf rfl rfl rfl (Pu.ev (pFA fa_46_2 rfl)) fun a hf => qE hf rfl rfl rfl (eLd1 sc_3 rfl (cell_box m0 rfl)) fun a hf => qE hf rfl rfl rfl (Pu.ev (pMul rfl rfl)) fun a hf => qE hf rfl rfl rfl (Pu.ev (pM rfl)) fun a hf => qE hf rfl rfl rfl (Pu.ev (pNC rfl)) fun a hf => qE hf rfl rfl rfl (Pu.ev (pFA fa_46_1 rfl)) fun a hf => qE hf rfl rfl rfl (eLd1 sc_3 rfl (cell_box m0 rfl)) fun a hf => qE hf rfl rfl rfl (Pu.ev (pM rfl)) fun a hf => qE hf rfl rfl rfl (Pu.ev (pNC rfl)) fun a hf => qE hf rfl rfl rfl (Pu.ev (pFA fa_46_0 rfl)) fun a hf => ?_
   refine qE hf rfl rfl rfl (eLd1 sc_22 rfl (cell_box m0 rfl)) fun a hf => qE hf rfl rfl rfl (Pu.ev (pLenS Try.underlying22 rfl)) fun a hf => qE hf rfl rfl rfl (Pu.ev (pQuo rfl rfl (nz_spec hun_2))) fun a hf => qE hf rfl rfl rfl (Pu.ev (pAdd rfl rfl)) fun a hf => qE hf rfl rfl rfl (Pu.ev (pAdd rfl rfl)) fun a hf => qE hf rfl rfl rfl (Pu.ev (pA rfl)) fun a hf => ?_
   intro w hc
   exact hj6 (W ((W (e_1)) + (W ((W (11 * s_.mix)) + (W (s_.used.tdiv ((s_.bytes.length : Nat) : Int))))))) _ _  (hf.kp rfl) hc hF
  ·refine wp_skip ?_
   exact hj6 (W (e_1)) _ _  (hf.kp rfl) hc hF

def kit_Stream_Within (N : Nat) (s_ : kit_Stream) (lo : Int) (hi_ : Int) : Option (Int × Int × Int) :=
 Option.bind (kit_Stream_Next N s_ (W ((W (hi_ - lo)) + 1))) fun r =>
 some (W (lo + r.1),r.2.1,r.2.2)
theorem kit_Stream_Within_ok {N : Nat} {G : Pers} {Lf : List Ent} {w : World} (s_ : kit_Stream) (lo : Int) (hi_ : Int) {b_ : Nat} {s__bytes_p : Option Addr} {s__bytes_c : Nat} (h_s__bytes : Rd G 1 s__bytes_p s__bytes_c (s_.bytes.map encI_u8)) (hc : Ctx G (.box b_ [.slice s__bytes_p s_.bytes.length s__bytes_c,i6 s_.used,i6 s_.mix] 46::Lf) w) {res : Int × Int × Int} (hF : kit_Stream_Within N s_ lo hi_ = some res) : Calls Try.prog 14 #[pq b_,i6 lo,i6 hi_] w (fun e w => e = .returned (i6 res.1) ∧ Ctx G (.box b_ [.slice s__bytes_p s_.bytes.length s__bytes_c,i6 res.2.1,i6 res.2.2] 46::Lf) w) := by
 unfold kit_Stream_Within at hF
 refine fnIn Try.func14 rfl Try.ntmps14 rfl fun a hf => zS fun K h => sp 1 hf rfl fun a hf => zT h ?_
 refine zS fun K h => sp 6 hf rfl fun a hf => ?_
 obtain ⟨r,hr,hF⟩ := bnd_some hF
 refine zC hf en_13 rfl (kit_Stream_Next_ok s_ (W ((W (hi_ - lo)) + 1)) h_s__bytes (hc.pick k0) hr) ?_
 rintro _ w ⟨rfl,hc⟩
 refine ⟨_,rfl,fun a hf => ?_⟩
 refine sp 2 hf rfl fun a hf => zT h ?_
 refine wp_ret ?_
 obtain rfl := sj hF
 exact zO1 Try.results14 hf rfl ⟨rfl,hc⟩

def law07_Counted_j13 (N : Nat) (out : List daily_Reading) (at_ : Int) (x : Int) (r_2 : Int × Int × Int) (r_3 : Int × Int × Int) (b__2 : Int) (b__3 : Int) (x_1 : Int) : Option (Step ((List daily_Reading) × Int × Int × Int × Int) ((List daily_Reading) × Int × Int)) :=
 Option.bind (room ((out ++ [(⟨x_1,r_3.1⟩ : daily_Reading)])).length) fun un =>
 some (.cont ((out ++ [(⟨x_1,r_3.1⟩ : daily_Reading)]),W (at_ + r_2.1),W (x + 1),b__2,b__3))
def law07_Counted_b6 (N : Nat) (s_ : kit_Stream) (r_1 : Int × Int × Int) (out : List daily_Reading) (at_ : Int) (x : Int) (b__0 : Int) (b__1 : Int) : Option (Step ((List daily_Reading) × Int × Int × Int × Int) ((List daily_Reading) × Int × Int)) :=
 cond (decide (x < r_1.1))
 (Option.bind (kit_Stream_Next N (⟨s_.bytes,b__0,b__1⟩ : kit_Stream) 20) fun r_2 =>
 Option.bind (kit_Stream_Within N (⟨s_.bytes,r_2.2.1,r_2.2.2⟩ : kit_Stream) 1 9) fun r_3 =>
 Option.bind (kit_Stream_Next N (⟨s_.bytes,r_3.2.1,r_3.2.2⟩ : kit_Stream) 3) fun r_4 =>
 cond (r_4.1 == 0)
 (Option.bind (kit_Stream_Within N (⟨s_.bytes,r_4.2.1,r_4.2.2⟩ : kit_Stream) (-40) 40) fun r_5 =>
 law07_Counted_j13 N out at_ x r_2 r_3 r_5.2.1 r_5.2.2 (max 0 (W ((W (at_ + r_2.1)) + r_5.1))))
 (law07_Counted_j13 N out at_ x r_2 r_3 r_4.2.1 r_4.2.2 (W (at_ + r_2.1))))
 (some (.brk (out,at_,x,b__0,b__1)))
def law07_Counted (N : Nat) (s_ : kit_Stream) (most : Int) : Option ((List daily_Reading) × Int × Int) :=
 Option.bind (kit_Stream_Next N s_ 50) fun r =>
 Option.bind (kit_Stream_Within N (⟨s_.bytes,r.2.1,r.2.2⟩ : kit_Stream) 1 most) fun r_1 =>
 Option.bind (loopO (fun s6 => law07_Counted_b6 N s_ r_1 s6.1 s6.2.1 s6.2.2.1 s6.2.2.2.1 s6.2.2.2.2) N (([] : List daily_Reading),r.1,0,r_1.2.1,r_1.2.2)) fun x6 =>
 exK x6 (fun s6 => some (s6.1,s6.2.2.2.1,s6.2.2.2.2)) some
theorem law07_Counted_ok {N : Nat} {G : Pers} {Lf : List Ent} {w : World} (s_ : kit_Stream) (most : Int) {b_ : Nat} {s__bytes_p : Option Addr} {s__bytes_c : Nat} (h_s__bytes : Rd G 1 s__bytes_p s__bytes_c (s_.bytes.map encI_u8)) (hc : Ctx G (.box b_ [.slice s__bytes_p s_.bytes.length s__bytes_c,i6 s_.used,i6 s_.mix] 46::Lf) w) {res : (List daily_Reading) × Int × Int} (hF : law07_Counted N s_ most = some res) : Calls Try.prog 4 #[pq b_,i6 most] w (fun e w => ∃ (p'1 : Option Addr) (c'1 : Nat),e = .returned (.slice p'1 res.1.length c'1) ∧ Ctx G (.row p'1 c'1 (res.1.map enc_daily_Reading) 33 2::.box b_ [.slice s__bytes_p s_.bytes.length s__bytes_c,i6 res.2.1,i6 res.2.2] 46::Lf) w) := by
 unfold law07_Counted at hF
 refine fnIn Try.func4 rfl Try.ntmps4 rfl fun a hf => zS fun K h => sp 1 hf rfl fun a hf => zT h ?_
 refine zS fun K h => sp 1 hf rfl fun a hf => zT h ?_
 refine zS fun K h => sp 1 hf rfl fun a hf => ?_
 obtain ⟨r,hr,hF⟩ := bnd_some hF
 refine zC hf en_13 rfl (kit_Stream_Next_ok s_ 50 h_s__bytes (hc.pick k0) hr) ?_
 rintro _ w ⟨rfl,hc⟩
 refine ⟨_,rfl,fun a hf => ?_⟩
 refine sp 1 hf rfl fun a hf => zT h ?_
 refine wp_seq_k fun K4 h4 => zS fun K h => sp 2 hf rfl fun a hf => ?_
 obtain ⟨r_1,hr_1,hF⟩ := bnd_some hF
 refine zC hf en_14 rfl (kit_Stream_Within_ok (⟨s_.bytes,r.2.1,r.2.2⟩ : kit_Stream) 1 most h_s__bytes (hc.pick k0) hr_1) ?_
 rintro _ w ⟨rfl,hc⟩
 refine ⟨_,rfl,fun a hf => ?_⟩
 refine sp 1 hf rfl fun a hf => zT h ?_
 refine wp_block ?_
 obtain ⟨x6,hx6,hF⟩ := bnd_some hF
 let S6 : ((List daily_Reading) × Int × Int × Int × Int) → Act → World → Prop := (fun (zz : (List daily_Reading) × Int × Int × Int × Int) a w => ∃ (p_1 : Option Addr) (c_1 : Nat),Has 38 a [(0,pq b_),(5,.slice p_1 zz.1.length c_1),(6,i6 zz.2.1),(12,i6 r_1.1),(13,i6 zz.2.2.1)] ∧ Ctx G (.row p_1 c_1 (zz.1.map enc_daily_Reading) 33 2::.box b_ [.slice s__bytes_p s_.bytes.length s__bytes_c,i6 zz.2.2.2.1,i6 zz.2.2.2.2] 46::Lf) w)
 have hr6 : ∀ (zz : (List daily_Reading) × Int × Int × Int × Int) a w,x6 = .go zz → S6 zz a w → K4 a w := by
  rintro ⟨out,at_,x,b__0,b__1⟩ a w rfl ⟨p_1,c_1,hf,hc⟩
  replace hF := exK_go hF
  refine h4 _ _ ?_
  refine zS fun K h => sp 2 hf rfl fun a hf => zT h ?_
  refine wp_ret ?_
  obtain rfl := sj hF
  exact zO1 Try.results4 hf rfl ⟨p_1,c_1,rfl,hc⟩
 have ho6 : ∀ r,x6 = .out r → r = res := by
  rintro r rfl
  exact sj hF
 replace hc := hc.nilRow 33 2
 refine cLoop N (loopW (S := S6) (x := x6) ?_ N (([] : List daily_Reading),r.1,0,r_1.2.1,r_1.2.2) _ _ ⟨none,0,hf.kp rfl,hc⟩ hx6)
 clear hF hf hc
 rintro ⟨out,at_,x,b__0,b__1⟩ st6 a w KB6 ⟨p_1,c_1,hf,hc⟩ hF hfin6 hK6
 unfold law07_Counted_b6 at hF
 refine zS fun K h => sp 1 hf rfl fun a hf => zT h ?_
 refine wp_seq_k fun K9 h9 => zI hf rfl hF ?_ ?_ <;> clear hF <;> intro hF
 ·refine wp_skip ?_
  refine h9 _ _ ?_
  refine wp_seq_k fun K10 h10 => wp_block ?_
  refine zS fun K h => sp 2 hf rfl fun a hf => ?_
  obtain ⟨r_2,hr_2,hF⟩ := bnd_some hF
  refine zC hf en_13 rfl (kit_Stream_Next_ok (⟨s_.bytes,b__0,b__1⟩ : kit_Stream) 20 h_s__bytes (hc.pick k1) hr_2) ?_
  rintro _ w ⟨rfl,hc⟩
  refine ⟨_,rfl,fun a hf => ?_⟩
  refine sp 2 hf rfl fun a hf => zT h ?_
  refine zS fun K h => sp 2 hf rfl fun a hf => ?_
  obtain ⟨r_3,hr_3,hF⟩ := bnd_some hF
  refine zC hf en_14 rfl (kit_Stream_Within_ok (⟨s_.bytes,r_2.2.1,r_2.2.2⟩ : kit_Stream) 1 9 h_s__bytes (hc.pick k0) hr_3) ?_
  rintro _ w ⟨rfl,hc⟩
  refine ⟨_,rfl,fun a hf => ?_⟩
  refine zP hf rfl (pBuildS (cells := [i6 (W (at_ + r_2.1)),i6 r_3.1]) bt_33 rfl rfl) fun a hf => zA hf hc zr_33 rfl fun b_1 a w hf hc => zW hf hc sz_33 u0 rfl fun w hc => zT h ?_
  refine wp_seq_k fun K13 h13 => ?_
  have hj13 : ∀ (b__2 : Int) (b__3 : Int) (x_1 : Int) a w,Has 38 a [(0,pq b_),(5,.slice p_1 out.length c_1),(6,i6 (W (at_ + r_2.1))),(7,pq b_1),(12,i6 r_1.1),(13,i6 x)] → Ctx G (.box b_ [.slice s__bytes_p s_.bytes.length s__bytes_c,i6 b__2,i6 b__3] 46::.box b_1 [i6 x_1,i6 r_3.1] 33::.row p_1 c_1 (out.map enc_daily_Reading) 33 2::Lf) w → law07_Counted_j13 N out at_ x r_2 r_3 b__2 b__3 x_1 = some st6 → K13 a w := by
   repeat (clear hF)
   repeat (clear hc)
   repeat (clear hf)
   intro b__2 b__3 x_1 a w hf hc hF
   unfold law07_Counted_j13 at hF
   refine h13 _ _ ?_
   refine cReg ?_
   refine sp 1 hf rfl fun a hf => zN hf hc ag_33 m1 rfl fun a w hf hc => stBS (rows := ([(⟨x_1,r_3.1⟩ : daily_Reading)] : List daily_Reading).map enc_daily_Reading) (vs := [(0,.agg #[i6 x_1,i6 r_3.1])]) hf hc rfl rfl sl_23 rfl ⟨rfl,rfl,rfl,trivial⟩ rfl rfl fun b_2 a w hf hc => ?_
   obtain ⟨un,hun,hF⟩ := bnd_some hF
   refine stApm (xs := out) (ys := ([(⟨x_1,r_3.1⟩ : daily_Reading)] : List daily_Reading)) hf hc rfl rfl sl_23 rfl rfl rfl rfl rfl one_enc_daily_Reading (src_row hc m0) (fun _ _ => u3) (by simpa using room_spec hun) fun p_2 c_2 a w hf hc => sp 1 hf rfl fun a hf => cNil ?_
   refine h10 _ _ ?_
   refine cReg ?_
   refine sp 2 hf rfl fun a hf => cNil ?_
   replace hc := (((hc.drop k2).drop k0).pick k0).pick k1
   exact hK6 ((out ++ [(⟨x_1,r_3.1⟩ : daily_Reading)]),W (at_ + r_2.1),W (x + 1),b__2,b__3) _ _ (sj hF).symm ⟨p_2,c_2,hf.kp rfl,hc⟩
  refine zS fun K h => sp 1 hf rfl fun a hf => ?_
  obtain ⟨r_4,hr_4,hF⟩ := bnd_some hF
  refine zC hf en_13 rfl (kit_Stream_Next_ok (⟨s_.bytes,r_3.2.1,r_3.2.2⟩ : kit_Stream) 3 h_s__bytes (hc.pick k1) hr_4) ?_
  rintro _ w ⟨rfl,hc⟩
  refine ⟨_,rfl,fun a hf => ?_⟩
  refine sp 1 hf rfl fun a hf => zT h ?_
  refine zI hf rfl hF ?_ ?_ <;> clear hF <;> intro hF
  ·refine cReg ?_
   refine sp 2 hf rfl fun a hf => ?_
   obtain ⟨r_5,hr_5,hF⟩ := bnd_some hF
   refine zC hf en_14 rfl (kit_Stream_Within_ok (⟨s_.bytes,r_4.2.1,r_4.2.2⟩ : kit_Stream) (-40) 40 h_s__bytes (hc.pick k0) hr_5) ?_
   rintro _ w ⟨rfl,hc⟩
   refine ⟨_,rfl,fun a hf => ?_⟩
   refine sp 1 hf rfl fun a hf => zP hf rfl (pMax2 rfl rfl) fun a hf => zP hf rfl (pFA fa_33_0 rfl) fun a hf => zW hf hc sz_3 u1 rfl fun w hc => cNil ?_
   exact hj13 r_5.2.1 r_5.2.2 (max 0 (W ((W (at_ + r_2.1)) + r_5.1))) _ _  (hf.kp rfl) hc hF
  ·refine wp_skip ?_
   exact hj13 r_4.2.1 r_4.2.2 (W (at_ + r_2.1)) _ _  (hf.kp rfl) hc hF
 ·refine wp_exit ?_
  refine xThen ?_
  refine xThen ?_
  have he := sj hF
  rw [← he] at hfin6
  refine cHit ?_
  exact hr6 _ _ _ hfin6 ⟨p_1,c_1,hf.kp rfl,hc⟩

def daily_in (n : Int) (least : Int) (greatest : Int) : Bool :=
 ((decide (least ≤ n)) && (decide (n ≤ greatest)))
theorem daily_in_ok {G : Pers} {Lf : List Ent} {w : World} (n : Int) (least : Int) (greatest : Int)   (hc : Ctx G (Lf) w) {res : Bool} (hF : daily_in n least greatest = res) : Calls Try.prog 30 #[i6 n,i6 least,i6 greatest] w (fun e w => e = .returned (.bool res) ∧ Ctx G (Lf) w) := by
 unfold daily_in at hF
 refine fnIn Try.func30 rfl Try.ntmps30 rfl fun a hf => zS fun K h => sp 1 hf rfl fun a hf => zT h ?_
 refine zS fun K h => sp 4 hf rfl fun a hf => stCc 4 (fun a => Has 15 a [(0,i6 n),(1,i6 least),(2,i6 greatest),(6,.bool false),(7,i6 n),(8,i6 least),(9,.bool (decide (least ≤ n))),(10,.bool (decide (least ≤ n))),(14,.bool ((decide (least ≤ n)) && (decide (n ≤ greatest))))]) hc ?_ ?_
 ·cases hb : (decide (least ≤ n))
  ·rw [hb] at hf
   refine stS hf rfl rfl rfl fun a hf => stS hf rfl rfl rfl fun a hf => stS hf rfl rfl rfl fun a hf => sp 1 hf rfl fun a hf => cNil ⟨hf.kp rfl,hc⟩
  ·rw [hb] at hf
   refine sp 4 hf rfl fun a hf => cNil ⟨hf.kp rfl,hc⟩
 intro a w ⟨hf,hc⟩
 refine sp 1 hf rfl fun a hf => zT h ?_
 refine wp_ret ?_
 obtain rfl := hF
 exact zO1 Try.results30 hf rfl ⟨rfl,hc⟩

def daily_CheckReadings_1 (x : daily_Reading) : Bool :=
 ((daily_in x.Value 0 1000000) && (daily_in x.Weight 1 100))
theorem daily_CheckReadings_1_ok {G : Pers} {Lf : List Ent} {w : World} (x : daily_Reading)   (hc : Ctx G (Lf) w) {res : Bool} (hF : daily_CheckReadings_1 x = res) : Calls Try.prog 32 #[.agg #[i6 x.Value,i6 x.Weight]] w (fun e w => e = .returned (.bool res) ∧ Ctx G (Lf) w) := by
 unfold daily_CheckReadings_1 at hF
 refine fnIn Try.func32 rfl Try.ntmps32 rfl fun a hf => zS fun K h => zB hf hc rfl fun b_1 a w hf hc => sp 1 hf rfl fun a hf => zT h ?_
 refine zS fun K h => zP hf rfl (pFA fa_33_0 rfl) fun a hf => zL hf hc sc_3 m0 rfl fun a w hf hc => zQ (v := .bool (daily_in x.Value 0 1000000)) hf hc en_30 rfl (fun w hc => daily_in_ok x.Value 0 1000000 hc rfl) fun a w hf hc => sp 1 hf rfl fun a hf => stCc 4 (fun a => Has 11 a [(1,pq b_1),(2,.bool false),(3,pq b_1),(4,i6 x.Value),(5,.bool (daily_in x.Value 0 1000000)),(6,.bool (daily_in x.Value 0 1000000)),(10,.bool ((daily_in x.Value 0 1000000) && (daily_in x.Weight 1 100)))]) hc ?_ ?_
 ·cases hb : (daily_in x.Value 0 1000000)
  ·rw [hb] at hf
   refine stS hf rfl rfl rfl fun a hf => stS hf rfl rfl rfl fun a hf => stS hf rfl rfl rfl fun a hf => sp 1 hf rfl fun a hf => cNil ⟨hf.kp rfl,hc⟩
  ·rw [hb] at hf
   refine zP hf rfl (pFA fa_33_1 rfl) fun a hf => zL hf hc sc_3 m0 rfl fun a w hf hc => zQ (v := .bool (daily_in x.Weight 1 100)) hf hc en_30 rfl (fun w hc => daily_in_ok x.Weight 1 100 hc rfl) fun a w hf hc => sp 1 hf rfl fun a hf => cNil ⟨hf.kp rfl,hc⟩
 intro a w ⟨hf,hc⟩
 refine sp 1 hf rfl fun a hf => zT h ?_
 refine wp_ret ?_
 obtain rfl := hF
 replace hc := hc.drop k0
 exact zO1 Try.results32 hf rfl ⟨rfl,hc⟩

def daily_every_daily_Reading_1 (x : daily_Reading) : Bool :=
 (!(daily_CheckReadings_1 x))
theorem daily_every_daily_Reading_1_ok {G : Pers} {Lf : List Ent} {w : World} (x : daily_Reading) {b_ : Nat}  (hc : Ctx G (.box b_ [.func (.func 32) #[] #[]] 82::Lf) w) {res : Bool} (hF : daily_every_daily_Reading_1 x = res) : Calls Try.prog 50 #[.agg #[i6 x.Value,i6 x.Weight],pq b_] w (fun e w => e = .returned (.bool res) ∧ Ctx G (.box b_ [.func (.func 32) #[] #[]] 82::Lf) w) := by
 unfold daily_every_daily_Reading_1 at hF
 refine fnIn Try.func50 rfl Try.ntmps50 rfl fun a hf => zS fun K h => zB hf hc rfl fun b_1 a w hf hc => sp 1 hf rfl fun a hf => zT h ?_
 refine zS fun K h => zL hf hc sc_82 m1 rfl fun a w hf hc => zN hf hc ag_33 m0 rfl fun a w hf hc => zQ (v := .bool (daily_CheckReadings_1 x)) hf hc en_32 rfl (fun w hc => daily_CheckReadings_1_ok x hc rfl) fun a w hf hc => sp 2 hf rfl fun a hf => zT h ?_
 refine wp_ret ?_
 obtain rfl := hF
 replace hc := hc.drop k0
 exact zO1 Try.results50 hf rfl ⟨rfl,hc⟩

def slices_IndexFunc_Ldaily_Reading_daily_Reading_b4 (N : Nat) (s_ : List daily_Reading) (x : Int) : Option (Step (Int) (Int)) :=
 cond (decide (x < ((s_.length : Nat) : Int)))
 (Option.bind (getI s_ x) fun e_1 =>
 cond (daily_every_daily_Reading_1 e_1)
 (some (.ret x))
 (some (.cont (W (x + 1)))))
 (some (.brk x))
def slices_IndexFunc_Ldaily_Reading_daily_Reading (N : Nat) (s_ : List daily_Reading) : Option (Int) :=
 Option.bind (loopO (fun s4 => slices_IndexFunc_Ldaily_Reading_daily_Reading_b4 N s_ s4) N 0) fun x4 =>
 exK x4 (fun s4 => some (-1)) some
theorem slices_IndexFunc_Ldaily_Reading_daily_Reading_ok {N : Nat} {G : Pers} {Lf : List Ent} {w : World} (s_ : List daily_Reading) {s__p : Option Addr} {s__c : Nat} {b_ : Nat} (h_s_ : Rd G 2 s__p s__c (s_.map enc_daily_Reading)) (hc : Ctx G (.box b_ [.func (.func 32) #[] #[]] 82::Lf) w) {res : Int} (hF : slices_IndexFunc_Ldaily_Reading_daily_Reading N s_ = some res) : Calls Try.prog 72 #[.slice s__p s_.length s__c,.func (.func 50) #[] #[pq b_]] w (fun e w => e = .returned (i6 res) ∧ Ctx G (.box b_ [.func (.func 32) #[] #[]] 82::Lf) w) := by
 unfold slices_IndexFunc_Ldaily_Reading_daily_Reading at hF
 refine fnIn Try.func72 rfl Try.ntmps72 rfl fun a hf => zS fun K h => sp 1 hf rfl fun a hf => zT h ?_
 refine wp_seq_k fun K2 h2 => zS fun K h => sp 1 hf rfl fun a hf => zP hf rfl (pLenS Try.underlying23 rfl) fun a hf => sp 1 hf rfl fun a hf => zT h ?_
 refine wp_block ?_
 obtain ⟨x4,hx4,hF⟩ := bnd_some hF
 let S4 : Int → Act → World → Prop := (fun (zz : Int) a w => Has 19 a [(0,.slice s__p s_.length s__c),(1,.func (.func 50) #[] #[pq b_]),(7,i6 ((s_.length : Nat) : Int)),(8,i6 zz)] ∧ Ctx G (.box b_ [.func (.func 32) #[] #[]] 82::Lf) w)
 have hr4 : ∀ (zz : Int) a w,x4 = .go zz → S4 zz a w → K2 a w := by
  rintro x a w rfl ⟨hf,hc⟩
  replace hF := exK_go hF
  refine h2 _ _ ?_
  refine zS fun K h => sp 1 hf rfl fun a hf => zT h ?_
  refine wp_ret ?_
  obtain rfl := sj hF
  exact zO1 Try.results72 hf rfl ⟨rfl,hc⟩
 have ho4 : ∀ r,x4 = .out r → r = res := by
  rintro r rfl
  exact sj hF
 refine cLoop N (loopW (S := S4) (x := x4) ?_ N 0 _ _ ⟨hf.kp rfl,hc⟩ hx4)
 clear hF hf hc
 rintro x st4 a w KB4 ⟨hf,hc⟩ hF hfin4 hK4
 unfold slices_IndexFunc_Ldaily_Reading_daily_Reading_b4 at hF
 refine zS fun K h => sp 1 hf rfl fun a hf => zT h ?_
 refine wp_seq_k fun K7 h7 => zI hf rfl hF ?_ ?_ <;> clear hF <;> intro hF
 ·refine wp_skip ?_
  refine h7 _ _ ?_
  refine wp_seq_k fun K8 h8 => wp_block ?_
  refine zS fun K h => sp 2 hf rfl fun a hf => zT h ?_
  refine zS fun K h => sp 3 hf rfl fun a hf => ?_
  obtain ⟨e_1,he_1,hF⟩ := bnd_some hF
  obtain ⟨b_1,o,qa,qp⟩ := h_s_.atm he_1
  refine zP hf rfl (pIA Try.underlying23 sz_33 rfl rfl qa) fun a hf => zE hf hc rfl (eLdN (vs := [i6 e_1.Value,i6 e_1.Weight]) ag_33 rfl rfl (cells_pc qp (n := 2) (o' := 0) rfl)) fun a w hf hc => zQ (v := .bool (daily_every_daily_Reading_1 e_1)) hf hc en_50 rfl (fun w hc => (daily_every_daily_Reading_1_ok e_1 (hc.pick k0) rfl).mono fun e w h => ⟨h.1,(h.2.unpick k0)⟩) fun a w hf hc => zT h ?_
  refine zI hf rfl hF ?_ ?_ <;> clear hF <;> intro hF
  ·refine zS fun K h => sp 2 hf rfl fun a hf => zT h ?_
   refine wp_ret ?_
   refine xBlkR ?_
   refine xThenR ?_
   refine xThenR ?_
   have he := sj hF
   rw [← he] at hfin4
   replace hF := ho4 _ hfin4
   refine xBlkR ?_
   refine xThenR ?_
   obtain rfl := hF
   exact zO1 Try.results72 hf rfl ⟨rfl,hc⟩
  ·refine wp_skip ?_
   refine h8 _ _ ?_
   refine cReg ?_
   refine sp 2 hf rfl fun a hf => cNil ?_
   exact hK4 (W (x + 1)) _ _ (sj hF).symm ⟨hf.kp rfl,hc⟩
 ·refine wp_exit ?_
  refine xThen ?_
  refine xThen ?_
  have he := sj hF
  rw [← he] at hfin4
  refine cHit ?_
  exact hr4 _ _ _ hfin4 ⟨hf.kp rfl,hc⟩

def slices_ContainsFunc_Ldaily_Reading_daily_Reading (N : Nat) (s_ : List daily_Reading) : Option (Bool) :=
 Option.bind (slices_IndexFunc_Ldaily_Reading_daily_Reading N s_) fun r =>
 some (decide (0 ≤ r))
theorem slices_ContainsFunc_Ldaily_Reading_daily_Reading_ok {N : Nat} {G : Pers} {Lf : List Ent} {w : World} (s_ : List daily_Reading) {s__p : Option Addr} {s__c : Nat} {b_ : Nat} (h_s_ : Rd G 2 s__p s__c (s_.map enc_daily_Reading)) (hc : Ctx G (.box b_ [.func (.func 32) #[] #[]] 82::Lf) w) {res : Bool} (hF : slices_ContainsFunc_Ldaily_Reading_daily_Reading N s_ = some res) : Calls Try.prog 49 #[.slice s__p s_.length s__c,.func (.func 50) #[] #[pq b_]] w (fun e w => e = .returned (.bool res) ∧ Ctx G (.box b_ [.func (.func 32) #[] #[]] 82::Lf) w) := by
 unfold slices_ContainsFunc_Ldaily_Reading_daily_Reading at hF
 refine fnIn Try.func49 rfl Try.ntmps49 rfl fun a hf => zS fun K h => sp 1 hf rfl fun a hf => zT h ?_
 refine zS fun K h => sp 2 hf rfl fun a hf => ?_
 obtain ⟨r,hr,hF⟩ := bnd_some hF
 refine zQ (v := i6 r) hf hc en_72 rfl (fun w hc => (slices_IndexFunc_Ldaily_Reading_daily_Reading_ok s_ h_s_ (hc.pick k0) hr).mono fun e w h => ⟨h.1,(h.2.unpick k0)⟩) fun a w hf hc => sp 2 hf rfl fun a hf => zT h ?_
 refine wp_ret ?_
 obtain rfl := sj hF
 exact zO1 Try.results49 hf rfl ⟨rfl,hc⟩

def daily_every_daily_Reading (N : Nat) (l : List daily_Reading) : Option (Bool) :=
 Option.bind (slices_ContainsFunc_Ldaily_Reading_daily_Reading N l) fun r =>
 some (!r)
theorem daily_every_daily_Reading_ok {N : Nat} {G : Pers} {Lf : List Ent} {w : World} (l : List daily_Reading) {l_p : Option Addr} {l_c : Nat} (h_l : Rd G 2 l_p l_c (l.map enc_daily_Reading)) (hc : Ctx G (Lf) w) {res : Bool} (hF : daily_every_daily_Reading N l = some res) : Calls Try.prog 31 #[.slice l_p l.length l_c,.func (.func 32) #[] #[]] w (fun e w => e = .returned (.bool res) ∧ Ctx G (Lf) w) := by
 unfold daily_every_daily_Reading at hF
 refine fnIn Try.func31 rfl Try.ntmps31 rfl fun a hf => zS fun K h => zB hf hc rfl fun b_1 a w hf hc => sp 1 hf rfl fun a hf => zT h ?_
 refine zS fun K h => sp 1 hf rfl fun a hf => zP hf rfl (pMF (us := [pq b_1]) rfl rfl) fun a hf => ?_
 obtain ⟨r,hr,hF⟩ := bnd_some hF
 refine zQ (v := .bool r) hf hc en_49 rfl (fun w hc => (slices_ContainsFunc_Ldaily_Reading_daily_Reading_ok l h_l (hc.pick k0) hr).mono fun e w h => ⟨h.1,(h.2.unpick k0)⟩) fun a w hf hc => sp 2 hf rfl fun a hf => zT h ?_
 refine wp_ret ?_
 obtain rfl := sj hF
 replace hc := hc.drop k0
 exact zO1 Try.results31 hf rfl ⟨rfl,hc⟩

def daily_CheckReadings (N : Nat) (l : List daily_Reading) : Option (Int) :=
 cond (!(daily_in ((l.length : Nat) : Int) 1 30))
 (some 3)
 (Option.bind (daily_every_daily_Reading N l) fun r =>
 cond (!r)
 (some 80)
 (some 0))
theorem daily_CheckReadings_ok {N : Nat} {G : Pers} {Lf : List Ent} {w : World} (l : List daily_Reading) {l_p : Option Addr} {l_c : Nat} (h_l : Rd G 2 l_p l_c (l.map enc_daily_Reading)) (hc : Ctx G (Lf) w) {res : Int} (hF : daily_CheckReadings N l = some res) : Calls Try.prog 15 #[.slice l_p l.length l_c] w (fun e w => e = .returned (i6 res) ∧ Ctx G (Lf) w) := by
 unfold daily_CheckReadings at hF
 refine fnIn Try.func15 rfl Try.ntmps15 rfl fun a hf => zS fun K h => sp 1 hf rfl fun a hf => zT h ?_
 refine wp_seq_k fun K2 h2 => wp_block ?_
 refine zS fun K h => sp 1 hf rfl fun a hf => zP hf rfl (pLenS Try.underlying23 rfl) fun a hf => zQ (v := .bool (daily_in ((l.length : Nat) : Int) 1 30)) hf hc en_30 rfl (fun w hc => daily_in_ok ((l.length : Nat) : Int) 1 30 hc rfl) fun a w hf hc => sp 2 hf rfl fun a hf => zT h ?_
 refine zI hf rfl hF ?_ ?_ <;> clear hF <;> intro hF
 ·refine zS fun K h => sp 1 hf rfl fun a hf => zT h ?_
  refine wp_ret ?_
  refine xBlkR ?_
  refine xThenR ?_
  obtain rfl := sj hF
  exact zO1 Try.results15 hf rfl ⟨rfl,hc⟩
 ·refine zS fun K h => sp 1 hf rfl fun a hf => ?_
  obtain ⟨r,hr,hF⟩ := bnd_some hF
  refine zQ (v := .bool r) hf hc en_31 rfl (fun w hc => daily_every_daily_Reading_ok l h_l hc hr) fun a w hf hc => sp 2 hf rfl fun a hf => zT h ?_
  refine zI hf rfl hF ?_ ?_ <;> clear hF <;> intro hF
  ·refine zS fun K h => sp 1 hf rfl fun a hf => zT h ?_
   refine wp_ret ?_
   refine xBlkR ?_
   refine xThenR ?_
   obtain rfl := sj hF
   exact zO1 Try.results15 hf rfl ⟨rfl,hc⟩
  ·refine wp_skip ?_
   refine h2 _ _ ?_
   refine zS fun K h => sp 1 hf rfl fun a hf => zT h ?_
   refine wp_ret ?_
   obtain rfl := sj hF
   exact zO1 Try.results15 hf rfl ⟨rfl,hc⟩

def slices_Sort_Lint_int (N : Nat) (x : List Int) : Option ((List Int)) :=
 sortO x
/-! ### Walks of the library -/
end Go.Nilo
namespace Go.Proofs
open Go.Shelf
def Try.lays189_ren : Go.Shelf.Ren := ⟨fun | 189 => 16 | 125 => 34 | 257 => 33 | 128 => 60 | 129 => 61 | 294 => 51 | 295 => 52 | 296 => 53 | 297 => 54 | 298 => 55 | 299 => 56 | 216 => 57 | 300 => 58 | 301 => 59 | 328 => 73 | 329 => 74 | 330 => 75 | 331 => 76 | 332 => 77 | 215 => 63 | 343 => 86 | n => n,fun | 28 => 27 | 3 => 3 | 46 => 85 | 0 => 0 | 51 => 122 | 53 => 124 | 4 => 4 | 183 => 114 | 182 => 113 | 131 => 119 | 5 => 5 | 9 => 9 | 218 => 132 | 222 => 136 | 228 => 146 | 229 => 147 | n => n,fun | n => n⟩
theorem Try.lays189 : Go.Proofs.Lays.n189 Try.prog Try.lays189_ren := {
 mixed := by kernel_rfl
 f125 := Try.func34.trans (congrArg some (by kernel_rfl))
 f128 := Try.func60.trans (congrArg some (by kernel_rfl))
 f129 := Try.func61.trans (congrArg some (by kernel_rfl))
 f189 := Try.func16.trans (congrArg some (by kernel_rfl))
 f215 := Try.func63.trans (congrArg some (by kernel_rfl))
 f216 := Try.func57.trans (congrArg some (by kernel_rfl))
 f257 := Try.func33.trans (congrArg some (by kernel_rfl))
 f294 := Try.func51.trans (congrArg some (by kernel_rfl))
 f295 := Try.func52.trans (congrArg some (by kernel_rfl))
 f296 := Try.func53.trans (congrArg some (by kernel_rfl))
 f297 := Try.func54.trans (congrArg some (by kernel_rfl))
 f298 := Try.func55.trans (congrArg some (by kernel_rfl))
 f299 := Try.func56.trans (congrArg some (by kernel_rfl))
 f300 := Try.func58.trans (congrArg some (by kernel_rfl))
 f301 := Try.func59.trans (congrArg some (by kernel_rfl))
 f328 := Try.func73.trans (congrArg some (by kernel_rfl))
 f329 := Try.func74.trans (congrArg some (by kernel_rfl))
 f330 := Try.func75.trans (congrArg some (by kernel_rfl))
 f331 := Try.func76.trans (congrArg some (by kernel_rfl))
 f332 := Try.func77.trans (congrArg some (by kernel_rfl))
 f343 := Try.func86.trans (congrArg some (by kernel_rfl))
 t0 := Try.underlying0
 a0 := Try.isAgg0
 z0 := Try.sizeOf0
 v0 := Try.zeroValue0
 t3 := Try.underlying3
 a3 := Try.isAgg3
 z3 := Try.sizeOf3
 v3 := Try.zeroValue3
 t4 := Try.underlying4
 a4 := Try.isAgg4
 z4 := Try.sizeOf4
 v4 := Try.zeroValue4
 t5 := Try.underlying5
 a5 := Try.isAgg5
 z5 := Try.sizeOf5
 v5 := Try.zeroValue5
 t9 := Try.underlying9
 a9 := Try.isAgg9
 z9 := Try.sizeOf9
 v9 := Try.zeroValue9
 t28 := Try.underlying27
 a28 := Try.isAgg27
 z28 := Try.sizeOf27
 v28 := Try.zeroValue27
 t46 := Try.underlying85
 a46 := Try.isAgg85
 z46 := Try.sizeOf85
 v46 := Try.zeroValue85
 t51 := Try.underlying122
 a51 := Try.isAgg122
 z51 := Try.sizeOf122
 v51 := Try.zeroValue122
 t53 := Try.underlying124
 a53 := Try.isAgg124
 z53 := Try.sizeOf124
 v53 := Try.zeroValue124
 t131 := Try.underlying119
 a131 := Try.isAgg119
 z131 := Try.sizeOf119
 v131 := Try.zeroValue119
 t182 := Try.underlying113
 a182 := Try.isAgg113
 z182 := Try.sizeOf113
 v182 := Try.zeroValue113
 t183 := Try.underlying114
 a183 := Try.isAgg114
 z183 := Try.sizeOf114
 v183 := Try.zeroValue114
 t218 := Try.underlying132
 a218 := Try.isAgg132
 z218 := Try.sizeOf132
 v218 := Try.zeroValue132
 t222 := Try.underlying136
 a222 := Try.isAgg136
 z222 := Try.sizeOf136
 v222 := Try.zeroValue136
 t228 := Try.underlying146
 a228 := Try.isAgg146
 z228 := Try.sizeOf146
 v228 := Try.zeroValue146
 t229 := Try.underlying147
 a229 := Try.isAgg147
 z229 := Try.sizeOf147
 v229 := Try.zeroValue147 }
def Try.lays20_ren : Go.Shelf.Ren := ⟨fun | 20 => 17 | n => n,fun | 22 => 27 | 3 => 3 | 4 => 4 | 0 => 0 | n => n,fun | n => n⟩
theorem Try.lays20 : Go.Proofs.Lays2.n20 Try.prog Try.lays20_ren := {
 mixed := by kernel_rfl
 f20 := Try.func17.trans (congrArg some (by kernel_rfl))
 t0 := Try.underlying0
 a0 := Try.isAgg0
 z0 := Try.sizeOf0
 v0 := Try.zeroValue0
 t3 := Try.underlying3
 a3 := Try.isAgg3
 z3 := Try.sizeOf3
 v3 := Try.zeroValue3
 t4 := Try.underlying4
 a4 := Try.isAgg4
 z4 := Try.sizeOf4
 v4 := Try.zeroValue4
 t22 := Try.underlying27
 a22 := Try.isAgg27
 z22 := Try.sizeOf27
 v22 := Try.zeroValue27
 i3 := by kernel_rfl }
end Go.Proofs
namespace Go.Nilo
open Go.Proofs

theorem slices_Sort_Lint_int_ok {N : Nat} {G : Pers} {Lf : List Ent} {w : World} (x : List Int) {x_p : Option Addr} {x_c : Nat}  (hc : Ctx G (.row x_p x_c (x.map encI_i64) 3 1::Lf) w) {res : (List Int)} (hF : slices_Sort_Lint_int N x = some res) : Calls Try.prog 16 #[.slice x_p x.length x_c] w (fun e w => e = .returned (.tuple #[]) ∧ res.length = x.length ∧ Ctx G (.row x_p x_c (res.map encI_i64) 3 1::Lf) w) := by
 unfold slices_Sort_Lint_int at hF
 exact sort_ctx (fun w => sort_nil Go.Proofs.Try.lays189 w) (fun b o c zs w h1 h2 h3 => Go.Proofs.Any.slices_Sort_int Go.Proofs.Try.lays189 b o c zs w h1 h2 h3) hc hF

def slices_Compact_Lint_int (N : Nat) (s_ : List Int) : Option ((List Int)) :=
 compO s_
/-! ### Walks of the library -/

theorem slices_Compact_Lint_int_ok {N : Nat} {G : Pers} {Lf : List Ent} {w : World} (s_ : List Int) {s__p : Option Addr} {s__c : Nat}  (hc : Ctx G (.row s__p s__c (s_.map encI_i64) 3 1::Lf) w) {res : (List Int)} (hF : slices_Compact_Lint_int N s_ = some res) : Calls Try.prog 17 #[.slice s__p s_.length s__c] w (fun e w => ∃ (p'1 : Option Addr) (c'1 : Nat),e = .returned (.slice p'1 res.length c'1) ∧ Ctx G (.row p'1 c'1 (res.map encI_i64) 3 1::Lf) w) := by
 unfold slices_Compact_Lint_int at hF
 exact compact_ctx (fun a c w => Go.Proofs.Any.slices_Compact_int_empty Go.Proofs.Try.lays20 a c w) (fun b o c zs w h1 h2 h3 => Go.Proofs.Any.slices_Compact_int Go.Proofs.Try.lays20 b o c zs w h1 h2 h3) hc hF

def daily_Reading_costs (x : daily_Reading) (n : Int) : Int :=
 W (x.Weight * (max (W (n - x.Value)) (W (x.Value - n))))
theorem daily_Reading_costs_ok {G : Pers} {Lf : List Ent} {w : World} (x : daily_Reading) (n : Int)   (hc : Ctx G (Lf) w) {res : Int} (hF : daily_Reading_costs x n = res) : Calls Try.prog 18 #[.agg #[i6 x.Value,i6 x.Weight],i6 n] w (fun e w => e = .returned (i6 res) ∧ Ctx G (Lf) w) := by
 unfold daily_Reading_costs at hF
 refine fnIn Try.func18 rfl Try.ntmps18 rfl fun a hf => zS fun K h => zB hf hc rfl fun b_1 a w hf hc => sp 1 hf rfl fun a hf => zT h ?_
 refine zS fun K h => zP hf rfl (pFA fa_33_1 rfl) fun a hf => zL hf hc sc_3 m0 rfl fun a w hf hc => sp 1 hf rfl fun a hf => zP hf rfl (pFA fa_33_0 rfl) fun a hf => zL hf hc sc_3 m0 rfl fun a w hf hc => sp 1 hf rfl fun a hf => zP hf rfl (pFA fa_33_0 rfl) fun a hf => zL hf hc sc_3 m0 rfl fun a w hf hc => sp 2 hf rfl fun a hf => zP hf rfl (pMax2 rfl rfl) fun a hf => sp 2 hf rfl fun a hf => zT h ?_
 refine wp_ret ?_
 obtain rfl := hF
 replace hc := hc.drop k0
 exact zO1 Try.results18 hf rfl ⟨rfl,hc⟩

def daily_Correct_b19 (N : Nat) (l : List daily_Reading) (r_2 : (List Int)) (mp : Int × Int → Option daily_place) (out : List Int) (x_1 : Int) (x_2 : Int) : Option (Step ((List Int) × Int × Int) ((List Int) × Int × Int)) :=
 cond (!(x_1 == ((l.length : Nat) : Int) && x_2 == x_2))
 (Option.bind (getI r_2 (((mp (x_1,x_2)).getD (⟨0,0⟩ : daily_place)).value)) fun e_1 =>
 Option.bind (room ((out ++ [e_1])).length) fun un =>
 some (.cont ((out ++ [e_1]),W ((((mp (x_1,x_2)).getD (⟨0,0⟩ : daily_place)).reading) + 1),((mp (x_1,x_2)).getD (⟨0,0⟩ : daily_place)).value)))
 (some (.brk (out,x_1,x_2)))
def daily_Correct_j34 (N : Nat) (k : Int) (mp_4 : Int × Int → Option daily_place) (mp_5 : Int × Int → Option Int) : Option (Step (Int × (Int × Int → Option daily_place) × (Int × Int → Option Int)) (Step (Int × (Int × Int → Option daily_place) × (Int × Int → Option Int)) ((List Int) × Int × Int))) :=
 some (.cont (W (k - 1),mp_4,mp_5))
def daily_Correct_b31 (N : Nat) (l : List daily_Reading) (r_2 : (List Int)) (i_1 : Int) (k : Int) (mp_2 : Int × Int → Option daily_place) (mp_3 : Int × Int → Option Int) : Option (Step (Int × (Int × Int → Option daily_place) × (Int × Int → Option Int)) (Step (Int × (Int × Int → Option daily_place) × (Int × Int → Option Int)) ((List Int) × Int × Int))) :=
 cond (decide (0 ≤ k))
 (Option.bind (getI l i_1) fun e_2 =>
 Option.bind (getI r_2 k) fun e_3 =>
 cond (((W (k + 1)) == ((r_2.length : Nat) : Int)) || (decide ((W ((daily_Reading_costs e_2 e_3) + ((mp_3 (W (i_1 + 1),k)).getD 0))) ≤ ((mp_3 (i_1,W (k + 1))).getD 0))))
 (daily_Correct_j34 N k (setG mp_2 (i_1,k) (⟨i_1,k⟩ : daily_place)) (setG mp_3 (i_1,k) (W ((daily_Reading_costs e_2 e_3) + ((mp_3 (W (i_1 + 1),k)).getD 0)))))
 (daily_Correct_j34 N k (setG mp_2 (i_1,k) ((mp_2 (i_1,W (k + 1))).getD (⟨0,0⟩ : daily_place))) (setG (setG mp_3 (i_1,k) ((mp_3 (i_1,k)).getD 0)) (i_1,k) ((mp_3 (i_1,W (k + 1))).getD 0))))
 (some (.brk (k,mp_2,mp_3)))
def daily_Correct_b15 (N : Nat) (l : List daily_Reading) (r_2 : (List Int)) (i_1 : Int) (mp : Int × Int → Option daily_place) (mp_1 : Int × Int → Option Int) : Option (Step (Int × (Int × Int → Option daily_place) × (Int × Int → Option Int)) ((List Int) × Int × Int)) :=
 cond (decide (0 ≤ i_1))
 (Option.bind (loopO (fun s31 => daily_Correct_b31 N l r_2 i_1 s31.1 s31.2.1 s31.2.2) N (W (((r_2.length : Nat) : Int) - 1),mp,mp_1)) fun x31 =>
 exK x31 (fun s31 => some (.cont (W (i_1 - 1),s31.2.1,s31.2.2))) some)
 (some (.brk (i_1,mp,mp_1)))
def daily_Correct_b9 (N : Nat) (l : List daily_Reading) (values : List Int) (x : Int) : Option (Step ((List Int) × Int) ((List Int) × Int × Int)) :=
 cond (decide (x < ((l.length : Nat) : Int)))
 (Option.bind (getI l x) fun e_4 =>
 Option.bind (room ((values ++ [e_4.Value])).length) fun un_1 =>
 some (.cont ((values ++ [e_4.Value]),W (x + 1))))
 (some (.brk (values,x)))
def daily_Correct (N : Nat) (l : List daily_Reading) : Option ((List Int) × Int × Int) :=
 Option.bind (daily_CheckReadings N l) fun r =>
 cond (r != 0)
 (some (([] : List Int),0,r))
 (Option.bind (loopO (fun s9 => daily_Correct_b9 N l s9.1 s9.2) N (([] : List Int),0)) fun x9 =>
 exK x9 (fun s9 => Option.bind (slices_Sort_Lint_int N s9.1) fun r_1 =>
 Option.bind (slices_Compact_Lint_int N r_1) fun r_2 =>
 Option.bind (loopO (fun s15 => daily_Correct_b15 N l r_2 s15.1 s15.2.1 s15.2.2) N (W (((l.length : Nat) : Int) - 1),(fun _ => none : Int × Int → Option daily_place),(fun _ => none : Int × Int → Option Int))) fun x15 =>
 exK x15 (fun s15 => Option.bind (loopO (fun s19 => daily_Correct_b19 N l r_2 s15.2.1 s19.1 s19.2.1 s19.2.2) N (([] : List Int),0,0)) fun x19 =>
 exK x19 (fun s19 => some (s19.1,((s15.2.2 (0,0)).getD 0),0)) some) some) some)
theorem daily_Correct_ok {N : Nat} {G : Pers} {Lf : List Ent} {w : World} (l : List daily_Reading) {l_p : Option Addr} {l_c : Nat} (h_l : Rd G 2 l_p l_c (l.map enc_daily_Reading)) (hc : Ctx G (Lf) w) {res : (List Int) × Int × Int} (hF : daily_Correct N l = some res) : Calls Try.prog 6 #[.slice l_p l.length l_c] w (fun e w => ∃ (p'1 : Option Addr) (c'1 : Nat),e = .returned (.tuple #[.slice p'1 res.1.length c'1,i6 res.2.1,i6 res.2.2]) ∧ Ctx G (.row p'1 c'1 (res.1.map encI_i64) 3 1::Lf) w) := by
 unfold daily_Correct at hF
 refine fnIn Try.func6 rfl Try.ntmps6 rfl fun a hf => zS fun K h => sp 3 hf rfl fun a hf => zT h ?_
 refine wp_seq_k fun K2 h2 => zS fun K h => sp 1 hf rfl fun a hf => ?_
 obtain ⟨r,hr,hF⟩ := bnd_some hF
 refine zQ (v := i6 r) hf hc en_15 rfl (fun w hc => daily_CheckReadings_ok l h_l hc hr) fun a w hf hc => sp 1 hf rfl fun a hf => zT h ?_
 refine zS fun K h => sp 2 hf rfl fun a hf => zT h ?_
 refine zI hf rfl hF ?_ ?_ <;> clear hF <;> intro hF
 ·refine zS fun K h => sp 4 hf rfl fun a hf => zT h ?_
  refine wp_ret ?_
  refine xThenR ?_
  obtain rfl := sj hF
  replace hc := hc.nilRow 3 1
  exact zO3 Try.results6 hf rfl rfl rfl ⟨none,0,rfl,hc⟩
 ·refine wp_skip ?_
  refine h2 _ _ ?_
  refine zS fun K h => sp 1 hf rfl fun a hf => zT h ?_
  refine wp_seq_k fun K7 h7 => zS fun K h => sp 1 hf rfl fun a hf => zP hf rfl (pLenS Try.underlying23 rfl) fun a hf => sp 1 hf rfl fun a hf => zT h ?_
  refine wp_block ?_
  obtain ⟨x9,hx9,hF⟩ := bnd_some hF
  let S9 : ((List Int) × Int) → Act → World → Prop := (fun (zz : (List Int) × Int) a w => ∃ (p_1 : Option Addr) (c_1 : Nat),Has 135 a [(0,.slice l_p l.length l_c),(6,.slice p_1 zz.1.length c_1),(23,.slice l_p l.length l_c),(24,i6 ((l.length : Nat) : Int)),(25,i6 zz.2)] ∧ Ctx G (.row p_1 c_1 (zz.1.map encI_i64) 3 1::Lf) w)
  have hr9 : ∀ (zz : (List Int) × Int) a w,x9 = .go zz → S9 zz a w → K7 a w := by
   rintro ⟨values,x⟩ a w rfl ⟨p_1,c_1,hf,hc⟩
   replace hF := exK_go hF
   refine h7 _ _ ?_
   refine zS fun K h => sp 1 hf rfl fun a hf => ?_
   obtain ⟨r_1,hr_1,hF⟩ := bnd_some hF
   refine zC hf en_16 rfl (slices_Sort_Lint_int_ok values (hc.pick k0) hr_1) ?_
   rintro _ w ⟨rfl,hl,hc⟩
   refine ⟨_,rfl,fun a hf => ?_⟩
   try rw [← hl] at hf
   try rw [← hl] at hc
   refine zT h ?_
   refine zS fun K h => sp 1 hf rfl fun a hf => ?_
   obtain ⟨r_2,hr_2,hF⟩ := bnd_some hF
   refine zC hf en_17 rfl (slices_Compact_Lint_int_ok r_1 (hc.pick k0) hr_2) ?_
   rintro _ w ⟨p_2,c_2,rfl,hc⟩
   refine ⟨_,rfl,fun a hf => ?_⟩
   refine sp 1 hf rfl fun a hf => zT h ?_
   refine zS fun K h => stGM (kv := kv_53) hf hc rfl rfl fun mb a w hf hc => ?_
   replace hc : Ctx _ (.gm mb (KQ kv_53 (fun j => ((fun _ => none : Int × Int → Option Int) j).map (Value.int .i64)) none)::_) w := hc
   refine stGM (kv := kv_53) hf hc rfl rfl fun mb_1 a w hf hc => ?_
   replace hc : Ctx _ (.gm mb_1 (KQ kv_53 (fun j => ((fun _ => none : Int × Int → Option daily_place) j).map (fun x : daily_place => .agg #[i6 x.reading,i6 x.value])) none)::_) w := hc
   refine sp 2 hf rfl fun a hf => zT h ?_
   refine wp_seq_k fun K13 h13 => zS fun K h => sp 1 hf rfl fun a hf => zP hf rfl (pLenS Try.underlying23 rfl) fun a hf => sp 2 hf rfl fun a hf => zT h ?_
   refine wp_block ?_
   obtain ⟨x15,hx15,hF⟩ := bnd_some hF
   let S15 : (Int × (Int × Int → Option daily_place) × (Int × Int → Option Int)) → Act → World → Prop := (fun (zz : Int × (Int × Int → Option daily_place) × (Int × Int → Option Int)) a w => ∃ (p_3 : Option Addr) (c_3 : Nat),Has 135 a [(0,.slice l_p l.length l_c),(6,.slice p_3 r_2.length c_3),(9,.map (some mb)),(10,.map (some mb_1)),(11,i6 zz.1)] ∧ Ctx G (.gm mb_1 (KQ kv_53 (fun j => (zz.2.1 j).map (fun x : daily_place => .agg #[i6 x.reading,i6 x.value])) none)::.gm mb (KQ kv_53 (fun j => (zz.2.2 j).map (Value.int .i64)) none)::.row p_3 c_3 (r_2.map encI_i64) 3 1::Lf) w)
   have hr15 : ∀ (zz : Int × (Int × Int → Option daily_place) × (Int × Int → Option Int)) a w,x15 = .go zz → S15 zz a w → K13 a w := by
    rintro ⟨i_1,mp,mp_1⟩ a w rfl ⟨p_3,c_3,hf,hc⟩
    replace hF := exK_go hF
    refine h13 _ _ ?_
    refine zS fun K h => sp 1 hf rfl fun a hf => zT h ?_
    refine zS fun K h => zP hf rfl (pBuildS (cells := [i6 0,i6 0]) bt_53 rfl rfl) fun a hf => zA hf hc zr_53 rfl fun b_1 a w hf hc => zW hf hc sz_53 u0 rfl fun w hc => zT h ?_
    refine wp_seq_k fun K18 h18 => wp_block ?_
    obtain ⟨x19,hx19,hF⟩ := bnd_some hF
    let S19 : ((List Int) × Int × Int) → Act → World → Prop := (fun (zz : (List Int) × Int × Int) a w => ∃ (p_4 : Option Addr) (c_4 : Nat) (p_5 : Option Addr) (c_5 : Nat),Has 135 a [(0,.slice l_p l.length l_c),(6,.slice p_4 r_2.length c_4),(9,.map (some mb)),(10,.map (some mb_1)),(16,.slice p_5 zz.1.length c_5),(17,pq b_1)] ∧ Ctx G (.row p_5 c_5 (zz.1.map encI_i64) 3 1::.box b_1 [i6 zz.2.1,i6 zz.2.2] 53::.gm mb_1 (KQ kv_53 (fun j => (mp j).map (fun x : daily_place => .agg #[i6 x.reading,i6 x.value])) none)::.gm mb (KQ kv_53 (fun j => (mp_1 j).map (Value.int .i64)) none)::.row p_4 c_4 (r_2.map encI_i64) 3 1::Lf) w)
    have hr19 : ∀ (zz : (List Int) × Int × Int) a w,x19 = .go zz → S19 zz a w → K18 a w := by
     rintro ⟨out,x_1,x_2⟩ a w rfl ⟨p_4,c_4,p_5,c_5,hf,hc⟩
     replace hF := exK_go hF
     refine h18 _ _ ?_
     refine wp_seq_k fun K20 h20 => cQ hc follows_mx (by kernel_rfl) ?_
     refine qE hf rfl rfl rfl (Pu.ev (pM rfl)) fun a hf => qE hf rfl rfl rfl (Pu.ev (pM rfl)) fun a hf => qE hf rfl rfl rfl (Pu.ev (pBuildS (cells := [i6 0,i6 0]) bt_53 rfl rfl)) fun a hf => qE hf rfl rfl rfl (gLk (kv := kv_53) (enc := (Value.int .i64)) (z0 := 0) (m := mp_1) (k := (0,0)) m3 Try.underlying50 kt_53 zr_3 rfl rfl) fun a hf => qE hf rfl rfl rfl (Pu.ev (pA rfl)) fun a hf => qE hf rfl rfl rfl (Pu.ev (pA rfl)) fun a hf => qE hf rfl rfl rfl (Pu.ev (pA rfl)) fun a hf => ?_
     intro w hc
     refine h20 _ _ ?_
     refine wp_ret ?_
     obtain rfl := sj hF
     replace hc := (((hc.drop k4).drop k3).drop k2).drop k1
     exact zO3 Try.results6 hf rfl rfl rfl ⟨p_5,c_5,rfl,hc⟩
    have ho19 : ∀ r,x19 = .out r → r = res := by
     rintro r rfl
     exact sj hF
    replace hc := hc.nilRow 3 1
    refine cLoop N (loopW (S := S19) (x := x19) ?_ N (([] : List Int),0,0) _ _ ⟨p_3,c_3,none,0,hf.kp rfl,hc⟩ hx19)
    clear hF hf hc
    rintro ⟨out,x_1,x_2⟩ st19 a w KB19 ⟨p_4,c_4,p_5,c_5,hf,hc⟩ hF hfin19 hK19
    unfold daily_Correct_b19 at hF
    refine wp_seq_k fun K21 h21 => zS fun K h => zN hf hc ag_53 m1 rfl fun a w hf hc => sp 1 hf rfl fun a hf => zP hf rfl (pLenS Try.underlying23 rfl) fun a hf => zP hf rfl (pFA fa_53_1 rfl) fun a hf => zL hf hc sc_3 m1 rfl fun a w hf hc => zP hf rfl (pBuildS (cells := [i6 ((l.length : Nat) : Int),i6 x_2]) bt_53 rfl rfl) fun a hf => zP hf rfl (pNeA ge_53 rfl rfl (eqs_53 _ _ _ _)) fun a hf => zT h ?_
    refine zI hf rfl hF ?_ ?_ <;> clear hF <;> intro hF
    ·refine wp_skip ?_
     refine h21 _ _ ?_
     refine wp_thenK fun K23 h23 => wp_block ?_
     refine zS fun K h => sp 1 hf rfl fun a hf => zN hf hc ag_53 m1 rfl fun a w hf hc => zE hf hc rfl (gLk (kv := kv_53) (enc := (fun x : daily_place => .agg #[i6 x.reading,i6 x.value])) (z0 := (⟨0,0⟩ : daily_place)) (m := mp) (k := (x_1,x_2)) m2 Try.underlying51 kt_53 zr_53 rfl rfl) fun a w hf hc => zW hf hc sz_53 u1 rfl fun w hc => zT h ?_
     refine zS fun K h => sp 2 hf rfl fun a hf => zP hf rfl (pFA fa_53_1 rfl) fun a hf => zL hf hc sc_3 m1 rfl fun a w hf hc => ?_
     obtain ⟨e_1,he_1,hF⟩ := bnd_some hF
     obtain ⟨g,rfl,qa,qr⟩ := row_atm hc m4 he_1
     refine zP hf rfl (pIA Try.underlying27 sz_3 rfl rfl qa) fun a hf => zE hf hc rfl (eLd1 sc_3 rfl (cell_row (sz := 1) (i := (((mp (x_1,x_2)).getD (⟨0,0⟩ : daily_place)).value).toNat) (j := 0) m4 qr rfl)) fun a w hf hc => stBS (rows := ([e_1] : List Int).map encI_i64) (vs := [(0,i6 e_1)]) hf hc rfl rfl sl_27 rfl ⟨rfl,rfl,rfl,trivial⟩ rfl rfl fun b_2 a w hf hc => ?_
     obtain ⟨un,hun,hF⟩ := bnd_some hF
     refine stApm (xs := out) (ys := ([e_1] : List Int)) hf hc rfl rfl sl_27 rfl rfl rfl rfl rfl one_encI_i64 (src_row hc m0) (fun _ _ => u1) (by simpa using room_spec hun) fun p_6 c_6 a w hf hc => sp 1 hf rfl fun a hf => zT h ?_
     refine cReg ?_
     refine zP hf rfl (pFA fa_53_0 rfl) fun a hf => zL hf hc sc_3 m2 rfl fun a w hf hc => sp 1 hf rfl fun a hf => zP hf rfl (pFA fa_53_0 rfl) fun a hf => zW hf hc sz_3 u2 rfl fun w hc => cNil ?_
     refine h23 _ _ ?_
     replace hc := hc.drop k0
     exact hK19 ((out ++ [e_1]),W ((((mp (x_1,x_2)).getD (⟨0,0⟩ : daily_place)).reading) + 1),((mp (x_1,x_2)).getD (⟨0,0⟩ : daily_place)).value) _ _ (sj hF).symm ⟨(some ⟨g,0,none⟩),c_4,p_6,c_6,hf.kp rfl,hc⟩
    ·refine wp_exit ?_
     refine xThen ?_
     refine xThen ?_
     have he := sj hF
     rw [← he] at hfin19
     refine cHit ?_
     exact hr19 _ _ _ hfin19 ⟨p_4,c_4,p_5,c_5,hf.kp rfl,hc⟩
   have ho15 : ∀ r,x15 = .out r → r = res := by
    rintro r rfl
    exact sj hF
   refine cLoop N (loopW (S := S15) (x := x15) ?_ N (W (((l.length : Nat) : Int) - 1),(fun _ => none : Int × Int → Option daily_place),(fun _ => none : Int × Int → Option Int)) _ _ ⟨p_2,c_2,hf.kp rfl,hc⟩ hx15)
   clear hF hf hc
   rintro ⟨i_1,mp,mp_1⟩ st15 a w KB15 ⟨p_3,c_3,hf,hc⟩ hF hfin15 hK15
   unfold daily_Correct_b15 at hF
   refine wp_seq_k fun K26 h26 => zS fun K h => sp 2 hf rfl fun a hf => zT h ?_
   refine zI hf rfl hF ?_ ?_ <;> clear hF <;> intro hF
   ·refine wp_skip ?_
    refine h26 _ _ ?_
    refine wp_seq_k fun K28 h28 => wp_block ?_
    refine zS fun K h => sp 1 hf rfl fun a hf => zP hf rfl (pLenS Try.underlying27 rfl) fun a hf => sp 2 hf rfl fun a hf => zT h ?_
    refine wp_thenK fun K30 h30 => wp_block ?_
    obtain ⟨x31,hx31,hF⟩ := bnd_some hF
    let S31 : (Int × (Int × Int → Option daily_place) × (Int × Int → Option Int)) → Act → World → Prop := (fun (zz : Int × (Int × Int → Option daily_place) × (Int × Int → Option Int)) a w => ∃ (p_7 : Option Addr) (c_7 : Nat),Has 135 a [(0,.slice l_p l.length l_c),(6,.slice p_7 r_2.length c_7),(9,.map (some mb)),(10,.map (some mb_1)),(11,i6 i_1),(12,i6 zz.1)] ∧ Ctx G (.gm mb_1 (KQ kv_53 (fun j => (zz.2.1 j).map (fun x : daily_place => .agg #[i6 x.reading,i6 x.value])) none)::.gm mb (KQ kv_53 (fun j => (zz.2.2 j).map (Value.int .i64)) none)::.row p_7 c_7 (r_2.map encI_i64) 3 1::Lf) w)
    have hr31 : ∀ (zz : Int × (Int × Int → Option daily_place) × (Int × Int → Option Int)) a w,x31 = .go zz → S31 zz a w → K30 a w := by
     rintro ⟨k,mp_2,mp_3⟩ a w rfl ⟨p_7,c_7,hf,hc⟩
     replace hF := exK_go hF
     refine h30 _ _ ?_
     refine h28 _ _ ?_
     refine cReg ?_
     refine sp 3 hf rfl fun a hf => cNil ?_
     exact hK15 (W (i_1 - 1),mp_2,mp_3) _ _ (sj hF).symm ⟨p_7,c_7,hf.kp rfl,hc⟩
    have ho31 : ∀ r,x31 = .out r → r = st15 := by
     rintro r rfl
     exact sj hF
    refine cLoop N (loopW (S := S31) (x := x31) ?_ N (W (((r_2.length : Nat) : Int) - 1),mp,mp_1) _ _ ⟨p_3,c_3,hf.kp rfl,hc⟩ hx31)
    clear hF hf hc
    rintro ⟨k,mp_2,mp_3⟩ st31 a w KB31 ⟨p_7,c_7,hf,hc⟩ hF hfin31 hK31
    unfold daily_Correct_b31 at hF
    refine wp_seq_k fun K32 h32 => zS fun K h => sp 2 hf rfl fun a hf => zT h ?_
    refine zI hf rfl hF ?_ ?_ <;> clear hF <;> intro hF
    ·refine wp_skip ?_
     refine h32 _ _ ?_
     refine wp_seq_k fun K34 h34 => ?_
     have hj34 : ∀ (mp_4 : Int × Int → Option daily_place) (mp_5 : Int × Int → Option Int) (p_8 : Option Addr) (c_8 : Nat) a w,Has 135 a [(0,.slice l_p l.length l_c),(6,.slice p_8 r_2.length c_8),(9,.map (some mb)),(10,.map (some mb_1)),(11,i6 i_1),(12,i6 k)] → Ctx G (.gm mb_1 (KQ kv_53 (fun j => (mp_4 j).map (fun x : daily_place => .agg #[i6 x.reading,i6 x.value])) none)::.gm mb (KQ kv_53 (fun j => (mp_5 j).map (Value.int .i64)) none)::.row p_8 c_8 (r_2.map encI_i64) 3 1::Lf) w → daily_Correct_j34 N k mp_4 mp_5 = some st31 → K34 a w := by
      repeat (clear hF)
      repeat (clear hc)
      repeat (clear hf)
      intro mp_4 mp_5 p_8 c_8 a w hf hc hF
      unfold daily_Correct_j34 at hF
      refine h34 _ _ ?_
      refine cReg ?_
      refine sp 3 hf rfl fun a hf => cNil ?_
      exact hK31 (W (k - 1),mp_4,mp_5) _ _ (sj hF).symm ⟨p_8,c_8,hf.kp rfl,hc⟩
     refine wp_block ?_
     refine zS fun K h => sp 2 hf rfl fun a hf => zP hf rfl (pBuildS (cells := [i6 i_1,i6 k]) bt_53 rfl rfl) fun a hf => sp 3 hf rfl fun a hf => zP hf rfl (pBuildS (cells := [i6 i_1,i6 (W (k + 1))]) bt_53 rfl rfl) fun a hf => zA hf hc zr_53 rfl fun b_3 a w hf hc => zA hf hc zr_53 rfl fun b_4 a w hf hc => zW hf hc sz_53 u1 rfl fun w hc => zW hf hc sz_53 u0 rfl fun w hc => zT h ?_
     refine wp_seq_k fun K36 h36 => ?_
     obtain ⟨e_2,he_2,hF⟩ := bnd_some hF
     obtain ⟨b_5,o,qa_1,qp⟩ := h_l.atm he_2
     obtain ⟨e_3,he_3,hF⟩ := bnd_some hF
     obtain ⟨g_1,rfl,qa_2,qr_1⟩ := row_atm hc m4 he_3
     refine cQ hc follows_mx (by kernel_rfl) ?_
     refine qE hf rfl rfl rfl (Pu.ev (pM rfl)) fun a hf => qE hf rfl rfl rfl (Pu.ev (pM rfl)) fun a hf => qE hf rfl rfl rfl (Pu.ev (pIA Try.underlying23 sz_33 rfl rfl qa_1)) fun a hf => qE hf rfl rfl rfl (eLdN (vs := [i6 e_2.Value,i6 e_2.Weight]) ag_33 rfl rfl (cells_pc qp (n := 2) (o' := 0) rfl)) fun a hf => qE hf rfl rfl rfl (Pu.ev (pM rfl)) fun a hf => qE hf rfl rfl rfl (Pu.ev (pM rfl)) fun a hf => qE hf rfl rfl rfl (Pu.ev (pIA Try.underlying27 sz_3 rfl rfl qa_2)) fun a hf => qE hf rfl rfl rfl (eLd1 sc_3 rfl (cell_row (sz := 1) (i := k.toNat) (j := 0) m4 qr_1 rfl)) fun a hf => qE hf rfl rfl rfl (eC (v := i6 (daily_Reading_costs e_2 e_3)) (vs := [.agg #[i6 e_2.Value,i6 e_2.Weight],i6 e_3]) (caps := []) en_18 rfl rfl rfl rfl (fun w hc => daily_Reading_costs_ok e_2 e_3 hc rfl)) fun a hf => qE hf rfl rfl rfl (Pu.ev (pM rfl)) fun a hf => qE hf rfl rfl rfl (Pu.ev (pM rfl)) fun a hf => qE hf rfl rfl rfl (Pu.ev (pAdd rfl rfl)) fun a hf => qE hf rfl rfl rfl (Pu.ev (pM rfl)) fun a hf => ?_
     refine qE hf rfl rfl rfl (Pu.ev (pBuildS (cells := [i6 (W (i_1 + 1)),i6 k]) bt_53 rfl rfl)) fun a hf => qE hf rfl rfl rfl (gLk (kv := kv_53) (enc := (Value.int .i64)) (z0 := 0) (m := mp_3) (k := (W (i_1 + 1),k)) m3 Try.underlying50 kt_53 zr_3 rfl rfl) fun a hf => qE hf rfl rfl rfl (Pu.ev (pAdd rfl rfl)) fun a hf => qE hf rfl rfl rfl (Pu.ev (pA rfl)) fun a hf => ?_
     intro w hc
     refine h36 _ _ ?_
     refine zS fun K h => sp 3 hf rfl fun a hf => zP hf rfl (pLenS Try.underlying27 rfl) fun a hf => sp 2 hf rfl fun a hf => stCc 6 (fun a => Has 135 a [(0,.slice l_p l.length l_c),(6,.slice (some ⟨g_1,0,none⟩) r_2.length c_7),(9,.map (some mb)),(10,.map (some mb_1)),(11,i6 i_1),(12,i6 k),(13,pq b_3),(14,pq b_4),(15,i6 (W ((daily_Reading_costs e_2 e_3) + ((mp_3 (W (i_1 + 1),k)).getD 0)))),(78,i6 k),(79,i6 (W (k + 1))),(80,.slice (some ⟨g_1,0,none⟩) r_2.length c_7),(81,i6 ((r_2.length : Nat) : Int)),(82,.bool ((W (k + 1)) == ((r_2.length : Nat) : Int))),(83,.bool ((W (k + 1)) == ((r_2.length : Nat) : Int))),(89,.bool (((W (k + 1)) == ((r_2.length : Nat) : Int)) || (decide ((W ((daily_Reading_costs e_2 e_3) + ((mp_3 (W (i_1 + 1),k)).getD 0))) ≤ ((mp_3 (i_1,W (k + 1))).getD 0)))))]) hc ?_ ?_
     ·cases hb : ((W (k + 1)) == ((r_2.length : Nat) : Int))
      ·rw [hb] at hf
       refine sp 2 hf rfl fun a hf => zN hf hc ag_53 m0 rfl fun a w hf hc => zE hf hc rfl (gLk (kv := kv_53) (enc := (Value.int .i64)) (z0 := 0) (m := mp_3) (k := (i_1,W (k + 1))) m3 Try.underlying50 kt_53 zr_3 rfl rfl) fun a w hf hc => sp 2 hf rfl fun a hf => cNil ⟨hf.kp rfl,hc⟩
      ·rw [hb] at hf
       refine stS hf rfl rfl rfl fun a hf => stS hf rfl rfl rfl fun a hf => stS hf rfl rfl rfl fun a hf => stS hf rfl rfl rfl fun a hf => stS hf rfl rfl rfl fun a hf => sp 1 hf rfl fun a hf => cNil ⟨hf.kp rfl,hc⟩
     intro a w ⟨hf,hc⟩
     refine zT h ?_
     refine zI hf rfl hF ?_ ?_ <;> clear hF <;> intro hF
     ·refine regionE (fun θ => [⟨none,none,0,.slice l_p l.length l_c⟩,⟨none,none,6,.slice (some ⟨g_1,0,none⟩) r_2.length c_7⟩,⟨none,none,9,.map (some mb)⟩,⟨none,none,10,.map (some mb_1)⟩,⟨none,none,11,i6 i_1⟩,⟨none,none,12,i6 k⟩,⟨none,none,13,pq b_3⟩,⟨none,none,15,i6 (W ((daily_Reading_costs e_2 e_3) + ((mp_3 (W (i_1 + 1),k)).getD 0)))⟩,⟨some 0,none,90,.map (some mb)⟩,⟨some 1,none,91,.agg #[i6 i_1,i6 k]⟩,⟨some 2,none,92,.map (some mb_1)⟩,⟨some 3,none,93,.agg #[i6 i_1,i6 k]⟩,⟨some 4,none,94,i6 (W ((daily_Reading_costs e_2 e_3) + ((mp_3 (W (i_1 + 1),k)).getD 0)))⟩,⟨some 5,none,95,.agg #[i6 i_1,i6 k]⟩]) (fun E θ => .box b_4 [i6 i_1,i6 (W (k + 1))] 53::.box b_3 [i6 i_1,i6 k] 53::(bif E 7 then .gm mb_1 (KQ kv_53 (fun j => ((setG mp_2 (i_1,k) (⟨i_1,k⟩ : daily_place)) j).map (fun x : daily_place => .agg #[i6 x.reading,i6 x.value])) none) else .gm mb_1 (KQ kv_53 (fun j => (mp_2 j).map (fun x : daily_place => .agg #[i6 x.reading,i6 x.value])) none))::(bif E 6 then .gm mb (KQ kv_53 (fun j => ((setG mp_3 (i_1,k) (W ((daily_Reading_costs e_2 e_3) + ((mp_3 (W (i_1 + 1),k)).getD 0)))) j).map (Value.int .i64)) none) else .gm mb (KQ kv_53 (fun j => (mp_3 j).map (Value.int .i64)) none))::.row (some ⟨g_1,0,none⟩) c_7 (r_2.map encI_i64) 3 1::Lf) [] (fun a w => Has 135 a [(0,.slice l_p l.length l_c),(6,.slice (some ⟨g_1,0,none⟩) r_2.length c_7),(9,.map (some mb)),(10,.map (some mb_1)),(11,i6 i_1),(12,i6 k)] ∧ Ctx G (.box b_4 [i6 i_1,i6 (W (k + 1))] 53::.box b_3 [i6 i_1,i6 k] 53::.gm mb_1 (KQ kv_53 (fun j => ((setG mp_2 (i_1,k) (⟨i_1,k⟩ : daily_place)) j).map (fun x : daily_place => .agg #[i6 x.reading,i6 x.value])) none)::.gm mb (KQ kv_53 (fun j => ((setG mp_3 (i_1,k) (W ((daily_Reading_costs e_2 e_3) + ((mp_3 (W (i_1 + 1),k)).getD 0)))) j).map (Value.int .i64)) none)::.row (some ⟨g_1,0,none⟩) c_7 (r_2.map encI_i64) 3 1::Lf) w) follows_mx (by kernel_rfl) (by kernel_rfl) (HasE.of hf ⟨rfl,rfl,rfl,rfl,rfl,rfl,rfl,rfl,trivial,trivial,trivial,trivial,trivial,trivial,trivial⟩) hc ⟨?_,?_,?_,?_,?_,?_,?_,?_,trivial⟩ ?_ ?_
      ·intro E θ a w hD hi hp he hc
       have hf := he.h0.mT he 2 rfl
       refine sp 1 hf rfl fun a hf => zD θ he hi hf 8 rfl rfl rfl hc
      ·intro E θ a w hD hi hp he hc
       have hf := he.h0.mT he 6 rfl
       refine zN hf hc ag_53 m1 rfl fun a w hf hc => zD θ he hi hf 9 rfl rfl rfl hc
      ·intro E θ a w hD hi hp he hc
       have hf := he.h0.mT he 3 rfl
       refine sp 1 hf rfl fun a hf => zD θ he hi hf 10 rfl rfl rfl hc
      ·intro E θ a w hD hi hp he hc
       have hf := he.h0.mT he 6 rfl
       refine zN hf hc ag_53 m1 rfl fun a w hf hc => zD θ he hi hf 11 rfl rfl rfl hc
      ·intro E θ a w hD hi hp he hc
       have hf := he.h0.mT he 7 rfl
       refine sp 1 hf rfl fun a hf => zD θ he hi hf 12 rfl rfl rfl hc
      ·intro E θ a w hD hi hp he hc
       have hf := he.h0.mT he 6 rfl
       refine zN hf hc ag_53 m1 rfl fun a w hf hc => zD θ he hi hf 13 rfl rfl rfl hc
      ·intro E θ a w hD hi hp he hc
       have e0 := hp.o 0 rfl
       have e1 := hp.o 1 rfl
       have e4 := hp.o 4 rfl
       try dsimp only at hc
       rw [hi] at hc
       have hf := ((he.h0.mP he 8 rfl e0).mP he 9 rfl e1).mP he 12 rfl e4
       refine stGU (kv := kv_53) (enc := (Value.int .i64)) (m := mp_3) (k := (i_1,k)) (v := W ((daily_Reading_costs e_2 e_3) + ((mp_3 (W (i_1 + 1),k)).getD 0))) hf hc rfl Try.underlying50 kt_53 rfl rfl rfl u3 fun w hc => zG θ he hi hf rfl ?_
       try dsimp only
       rw [updE_self E 6]
       exact hc
      ·intro E θ a w hD hi hp he hc
       have e2 := hp.o 2 rfl
       have e3 := hp.o 3 rfl
       have e5 := hp.o 5 rfl
       try dsimp only at hc
       rw [hi] at hc
       have hf := ((he.h0.mP he 10 rfl e2).mP he 11 rfl e3).mP he 13 rfl e5
       refine stGU (kv := kv_53) (enc := (fun x : daily_place => .agg #[i6 x.reading,i6 x.value])) (m := mp_2) (k := (i_1,k)) (v := (⟨i_1,k⟩ : daily_place)) hf hc rfl Try.underlying51 kt_53 rfl rfl rfl u2 fun w hc => zG θ he hi hf rfl ?_
       try dsimp only
       rw [updE_self E 7]
       exact hc
      ·intro E θ a w hall he hc
       have hf := he.h0
       have e6 := hall 6 rfl
       have e7 := hall 7 rfl
       replace hf := hf.more he 5 rfl (onT)
       replace hf := hf.more he 4 rfl (onT)
       replace hf := hf.more he 3 rfl (onT)
       replace hf := hf.more he 2 rfl (onT)
       replace hf := hf.more he 1 rfl (onT)
       replace hf := hf.more he 0 rfl (onT)
       try dsimp only at hc
       rw [e6,e7] at hc
       exact ⟨hf.kp rfl,hc⟩
      rintro a w ⟨hf,hc⟩
      replace hc := (hc.drop k1).drop k0
      exact hj34 (setG mp_2 (i_1,k) (⟨i_1,k⟩ : daily_place)) (setG mp_3 (i_1,k) (W ((daily_Reading_costs e_2 e_3) + ((mp_3 (W (i_1 + 1),k)).getD 0)))) (some ⟨g_1,0,none⟩) c_7 _ _  (hf.kp rfl) hc hF
     ·refine regionE (fun θ => [⟨none,none,0,.slice l_p l.length l_c⟩,⟨none,none,6,.slice (some ⟨g_1,0,none⟩) r_2.length c_7⟩,⟨none,none,9,.map (some mb)⟩,⟨none,none,10,.map (some mb_1)⟩,⟨none,none,11,i6 i_1⟩,⟨none,none,12,i6 k⟩,⟨none,none,13,pq b_3⟩,⟨none,none,14,pq b_4⟩,⟨some 0,none,96,.map (some mb)⟩,⟨some 1,none,97,.agg #[i6 i_1,i6 k]⟩,⟨some 2,none,98,.map (some mb_1)⟩,⟨some 3,none,99,.agg #[i6 i_1,i6 k]⟩,⟨some 4,none,100,.map (some mb)⟩,⟨some 5,none,101,.agg #[i6 i_1,i6 (W (k + 1))]⟩,⟨some 7,none,103,.map (some mb_1)⟩,⟨some 8,none,104,.agg #[i6 i_1,i6 (W (k + 1))]⟩,⟨some 9,none,105,.agg #[i6 (((mp_2 (i_1,W (k + 1))).getD (⟨0,0⟩ : daily_place)).reading),i6 (((mp_2 (i_1,W (k + 1))).getD (⟨0,0⟩ : daily_place)).value)]⟩,⟨some 10,none,106,.tuple #[i6 ((mp_3 (i_1,k)).getD 0),i6 (((θ 80).c : Nat) : Int)]⟩,⟨some 11,none,107,i6 (((θ 80).c : Nat) : Int)⟩,⟨some 6,none,102,i6 ((mp_3 (i_1,W (k + 1))).getD 0)⟩]) (fun E θ => .box b_4 [i6 i_1,i6 (W (k + 1))] 53::.box b_3 [i6 i_1,i6 k] 53::(bif E 13 then .gm mb_1 (KQ kv_53 (fun j => ((setG mp_2 (i_1,k) ((mp_2 (i_1,W (k + 1))).getD (⟨0,0⟩ : daily_place))) j).map (fun x : daily_place => .agg #[i6 x.reading,i6 x.value])) none) else .gm mb_1 (KQ kv_53 (fun j => (mp_2 j).map (fun x : daily_place => .agg #[i6 x.reading,i6 x.value])) none))::(bif E 12 then .gm mb (KQ kv_53 (fun j => ((setG (setG mp_3 (i_1,k) ((mp_3 (i_1,k)).getD 0)) (i_1,k) ((mp_3 (i_1,W (k + 1))).getD 0)) j).map (Value.int .i64)) none) else bif E 10 then .gm mb (KQ kv_53 (fun j => ((setG mp_3 (i_1,k) ((mp_3 (i_1,k)).getD 0)) j).map (Value.int .i64)) (some ((θ 80).c,(i_1,k)))) else .gm mb (KQ kv_53 (fun j => (mp_3 j).map (Value.int .i64)) none))::.row (some ⟨g_1,0,none⟩) c_7 (r_2.map encI_i64) 3 1::Lf) [(12,6),(13,9),(12,10),(11,10)] (fun a w => Has 135 a [(0,.slice l_p l.length l_c),(6,.slice (some ⟨g_1,0,none⟩) r_2.length c_7),(9,.map (some mb)),(10,.map (some mb_1)),(11,i6 i_1),(12,i6 k)] ∧ Ctx G (.box b_4 [i6 i_1,i6 (W (k + 1))] 53::.box b_3 [i6 i_1,i6 k] 53::.gm mb_1 (KQ kv_53 (fun j => ((setG mp_2 (i_1,k) ((mp_2 (i_1,W (k + 1))).getD (⟨0,0⟩ : daily_place))) j).map (fun x : daily_place => .agg #[i6 x.reading,i6 x.value])) none)::.gm mb (KQ kv_53 (fun j => ((setG (setG mp_3 (i_1,k) ((mp_3 (i_1,k)).getD 0)) (i_1,k) ((mp_3 (i_1,W (k + 1))).getD 0)) j).map (Value.int .i64)) none)::.row (some ⟨g_1,0,none⟩) c_7 (r_2.map encI_i64) 3 1::Lf) w) follows_mx (by kernel_rfl) (by kernel_rfl) (HasE.of hf ⟨rfl,rfl,rfl,rfl,rfl,rfl,rfl,rfl,trivial,trivial,trivial,trivial,trivial,trivial,trivial,trivial,trivial,trivial,trivial,trivial,trivial⟩) hc ⟨?_,?_,?_,?_,?_,?_,?_,?_,?_,?_,?_,?_,?_,?_,trivial⟩ ?_ ?_
      ·intro E θ a w hD hi hp he hc
       have hf := he.h0.mT he 2 rfl
       refine sp 1 hf rfl fun a hf => zD θ he hi hf 8 rfl rfl rfl hc
      ·intro E θ a w hD hi hp he hc
       have hf := he.h0.mT he 6 rfl
       refine zN hf hc ag_53 m1 rfl fun a w hf hc => zD θ he hi hf 9 rfl rfl rfl hc
      ·intro E θ a w hD hi hp he hc
       have hf := he.h0.mT he 3 rfl
       refine sp 1 hf rfl fun a hf => zD θ he hi hf 10 rfl rfl rfl hc
      ·intro E θ a w hD hi hp he hc
       have hf := he.h0.mT he 6 rfl
       refine zN hf hc ag_53 m1 rfl fun a w hf hc => zD θ he hi hf 11 rfl rfl rfl hc
      ·intro E θ a w hD hi hp he hc
       have hf := he.h0.mT he 2 rfl
       refine sp 1 hf rfl fun a hf => zD θ he hi hf 12 rfl rfl rfl hc
      ·intro E θ a w hD hi hp he hc
       have hf := he.h0.mT he 7 rfl
       refine zN hf hc ag_53 m0 rfl fun a w hf hc => zD θ he hi hf 13 rfl rfl rfl hc
      ·intro E θ a w hD hi hp he hc
       have e4 := hp.o 4 rfl
       have e5 := hp.o 5 rfl
       have e12 := hD.f 0 rfl hi
       rcases boolEq (E 10) with e10 | e10
       ·try dsimp only at hc
        rw [e10,e12] at hc
        have hf := (he.h0.mP he 12 rfl e4).mP he 13 rfl e5
        refine zE hf hc rfl (gLk (kv := kv_53) (enc := (Value.int .i64)) (z0 := 0) (m := (setG mp_3 (i_1,k) ((mp_3 (i_1,k)).getD 0))) (k := (i_1,W (k + 1))) m3 Try.underlying50 kt_53 zr_3 rfl rfl) fun a w hf hc => ?_
        replace hf := castV (v' := i6 ((mp_3 (i_1,W (k + 1))).getD 0)) (by simp only [setG_getD]) hf
        refine zD θ he hi hf 19 rfl rfl rfl ?_
        try dsimp only
        rw [updE_tru 6 e10,updE_fls 6 e12 rfl]
        exact hc
       ·try dsimp only at hc
        rw [e10,e12] at hc
        have hf := (he.h0.mP he 12 rfl e4).mP he 13 rfl e5
        refine zE hf hc rfl (gLk (kv := kv_53) (enc := (Value.int .i64)) (z0 := 0) (m := mp_3) (k := (i_1,W (k + 1))) m3 Try.underlying50 kt_53 zr_3 rfl rfl) fun a w hf hc => zD θ he hi hf 19 rfl rfl rfl ?_
        try dsimp only
        rw [updE_fls 6 e10 rfl,updE_fls 6 e12 rfl]
        exact hc
      ·intro E θ a w hD hi hp he hc
       have hf := he.h0.mT he 3 rfl
       refine sp 1 hf rfl fun a hf => zD θ he hi hf 14 rfl rfl rfl hc
      ·intro E θ a w hD hi hp he hc
       have hf := he.h0.mT he 7 rfl
       refine zN hf hc ag_53 m0 rfl fun a w hf hc => zD θ he hi hf 15 rfl rfl rfl hc
      ·intro E θ a w hD hi hp he hc
       have e7 := hp.o 7 rfl
       have e8 := hp.o 8 rfl
       have e13 := hD.f 1 rfl hi
       try dsimp only at hc
       rw [e13] at hc
       have hf := (he.h0.mP he 14 rfl e7).mP he 15 rfl e8
       refine zE hf hc rfl (gLk (kv := kv_53) (enc := (fun x : daily_place => .agg #[i6 x.reading,i6 x.value])) (z0 := (⟨0,0⟩ : daily_place)) (m := mp_2) (k := (i_1,W (k + 1))) m2 Try.underlying51 kt_53 zr_53 rfl rfl) fun a w hf hc => zD θ he hi hf 16 rfl rfl rfl ?_
       try dsimp only
       rw [updE_fls 9 e13 rfl]
       exact hc
      ·intro E θ a w hD hi hp he hc
       have e0 := hp.o 0 rfl
       have e1 := hp.o 1 rfl
       have e12 := hD.f 2 rfl hi
       have e11 := hD.f 3 rfl hi
       try dsimp only at hc
       rw [hi,e12] at hc
       have hf := (he.h0.mP he 8 rfl e0).mP he 9 rfl e1
       refine stGE (kv := kv_53) (enc := (Value.int .i64)) (z0 := 0) (m := mp_3) (k := (i_1,k)) hf hc rfl rfl Try.underlying50 kt_53 zr_3 rfl rfl (fun _ => u3) fun stp a w hf hc => cNil ?_
       refine xThenN ?_
       intro ds u hau
       refine ⟨(setT θ 80 ⟨0,none,stp,(fun _ => (none,0))⟩),he.put hi hau hf rfl [11] ⟨⟨e11,rfl⟩,trivial⟩ ⟨qq,qq,qq,qq,qq,qq,qq,qq,qq,qq,qq,qq,qq,qq,qq,qq,qq,qq,trivial,qq,trivial⟩,?_⟩
       try dsimp only
       rw [updE_self E 10,updE_fls 10 e12 rfl]
       exact hc
      ·intro E θ a w hD hi hp he hc
       have e10 := hp.o 10 rfl
       have hf := he.h0.mP he 17 rfl e10
       refine sp 1 hf rfl fun a hf => zD θ he hi hf 18 rfl rfl rfl hc
      ·intro E θ a w hD hi hp he hc
       have e0 := hp.o 0 rfl
       have e11 := hp.o 11 rfl
       have e6 := hp.o 6 rfl
       have e10 := hp.o 10 rfl
       try dsimp only at hc
       rw [e10,hi] at hc
       have hf := ((he.h0.mP he 8 rfl e0).mP he 18 rfl e11).mP he 19 rfl e6
       refine stGS kt_53.inj (enc := (Value.int .i64)) (m := (setG mp_3 (i_1,k) ((mp_3 (i_1,k)).getD 0))) (k := (i_1,k)) (v := ((mp_3 (i_1,W (k + 1))).getD 0)) hf hc rfl rfl rfl rfl u3 fun w hc => zG θ he hi hf rfl ?_
       try dsimp only
       rw [updE_tru 12 e10,updE_self E 12]
       exact hc
      ·intro E θ a w hD hi hp he hc
       have e2 := hp.o 2 rfl
       have e3 := hp.o 3 rfl
       have e9 := hp.o 9 rfl
       try dsimp only at hc
       rw [hi] at hc
       have hf := ((he.h0.mP he 10 rfl e2).mP he 11 rfl e3).mP he 16 rfl e9
       refine stGU (kv := kv_53) (enc := (fun x : daily_place => .agg #[i6 x.reading,i6 x.value])) (m := mp_2) (k := (i_1,k)) (v := ((mp_2 (i_1,W (k + 1))).getD (⟨0,0⟩ : daily_place))) hf hc rfl Try.underlying51 kt_53 rfl rfl rfl u2 fun w hc => zG θ he hi hf rfl ?_
       try dsimp only
       rw [updE_self E 13]
       exact hc
      ·intro E θ a w hall he hc
       have hf := he.h0
       have e10 := hall 10 rfl
       have e12 := hall 12 rfl
       have e13 := hall 13 rfl
       replace hf := hf.more he 5 rfl (onT)
       replace hf := hf.more he 4 rfl (onT)
       replace hf := hf.more he 3 rfl (onT)
       replace hf := hf.more he 2 rfl (onT)
       replace hf := hf.more he 1 rfl (onT)
       replace hf := hf.more he 0 rfl (onT)
       try dsimp only at hc
       rw [e10,e12,e13] at hc
       exact ⟨hf.kp rfl,hc⟩
      rintro a w ⟨hf,hc⟩
      replace hc := (hc.drop k1).drop k0
      exact hj34 (setG mp_2 (i_1,k) ((mp_2 (i_1,W (k + 1))).getD (⟨0,0⟩ : daily_place))) (setG (setG mp_3 (i_1,k) ((mp_3 (i_1,k)).getD 0)) (i_1,k) ((mp_3 (i_1,W (k + 1))).getD 0)) (some ⟨g_1,0,none⟩) c_7 _ _  (hf.kp rfl) hc hF
    ·refine wp_exit ?_
     refine xThen ?_
     refine xThen ?_
     have he := sj hF
     rw [← he] at hfin31
     refine cHit ?_
     exact hr31 _ _ _ hfin31 ⟨p_7,c_7,hf.kp rfl,hc⟩
   ·refine wp_exit ?_
    refine xThen ?_
    refine xThen ?_
    have he := sj hF
    rw [← he] at hfin15
    refine cHit ?_
    exact hr15 _ _ _ hfin15 ⟨p_3,c_3,hf.kp rfl,hc⟩
  have ho9 : ∀ r,x9 = .out r → r = res := by
   rintro r rfl
   exact sj hF
  replace hc := hc.nilRow 3 1
  refine cLoop N (loopW (S := S9) (x := x9) ?_ N (([] : List Int),0) _ _ ⟨none,0,hf.kp rfl,hc⟩ hx9)
  clear hF hf hc
  rintro ⟨values,x⟩ st9 a w KB9 ⟨p_1,c_1,hf,hc⟩ hF hfin9 hK9
  unfold daily_Correct_b9 at hF
  refine zS fun K h => sp 1 hf rfl fun a hf => zT h ?_
  refine wp_seq_k fun K39 h39 => zI hf rfl hF ?_ ?_ <;> clear hF <;> intro hF
  ·refine wp_skip ?_
   refine h39 _ _ ?_
   refine wp_seq_k fun K40 h40 => wp_block ?_
   refine zS fun K h => ?_
   obtain ⟨e_4,he_4,hF⟩ := bnd_some hF
   obtain ⟨b_6,o_1,qa_3,qp_1⟩ := h_l.atm he_4
   refine zP hf rfl (pIA Try.underlying23 sz_33 rfl rfl qa_3) fun a hf => zE hf hc rfl (eLdN (vs := [i6 e_4.Value,i6 e_4.Weight]) ag_33 rfl rfl (cells_pc qp_1 (n := 2) (o' := 0) rfl)) fun a w hf hc => zA hf hc zr_33 rfl fun b_7 a w hf hc => zW hf hc sz_33 u0 rfl fun w hc => zT h ?_
   refine cReg ?_
   refine sp 1 hf rfl fun a hf => zP hf rfl (pFA fa_33_0 rfl) fun a hf => zL hf hc sc_3 m0 rfl fun a w hf hc => stBS (rows := ([e_4.Value] : List Int).map encI_i64) (vs := [(0,i6 e_4.Value)]) hf hc rfl rfl sl_27 rfl ⟨rfl,rfl,rfl,trivial⟩ rfl rfl fun b_8 a w hf hc => ?_
   obtain ⟨un_1,hun_1,hF⟩ := bnd_some hF
   refine stApm (xs := values) (ys := ([e_4.Value] : List Int)) hf hc rfl rfl sl_27 rfl rfl rfl rfl rfl one_encI_i64 (src_row hc m0) (fun _ _ => u2) (by simpa using room_spec hun_1) fun p_9 c_9 a w hf hc => sp 1 hf rfl fun a hf => cNil ?_
   refine h40 _ _ ?_
   refine cReg ?_
   refine sp 2 hf rfl fun a hf => cNil ?_
   replace hc := (hc.drop k1).drop k0
   exact hK9 ((values ++ [e_4.Value]),W (x + 1)) _ _ (sj hF).symm ⟨p_9,c_9,hf.kp rfl,hc⟩
  ·refine wp_exit ?_
   refine xThen ?_
   refine xThen ?_
   have he := sj hF
   rw [← he] at hfin9
   refine cHit ?_
   exact hr9 _ _ _ hfin9 ⟨p_1,c_1,hf.kp rfl,hc⟩

def kit_Copy_daily_Reading (N : Nat) (l : List daily_Reading) : Option ((List daily_Reading)) :=
 Option.bind (room (l).length) fun un =>
 some l
theorem kit_Copy_daily_Reading_ok {N : Nat} {G : Pers} {Lf : List Ent} {w : World} (l : List daily_Reading) {l_p : Option Addr} {l_c : Nat} (h_l : Rd G 2 l_p l_c (l.map enc_daily_Reading)) (hc : Ctx G (Lf) w) {res : (List daily_Reading)} (hF : kit_Copy_daily_Reading N l = some res) : Calls Try.prog 7 #[.slice l_p l.length l_c] w (fun e w => ∃ (p'1 : Option Addr) (c'1 : Nat),e = .returned (.slice p'1 res.length c'1) ∧ Ctx G (.row p'1 c'1 (res.map enc_daily_Reading) 33 2::Lf) w) := by
 unfold kit_Copy_daily_Reading at hF
 refine fnIn Try.func7 rfl Try.ntmps7 rfl fun a hf => zS fun K h => sp 1 hf rfl fun a hf => zT h ?_
 refine zS fun K h => sp 1 hf rfl fun a hf => zT h ?_
 refine zS fun K h => sp 2 hf rfl fun a hf => ?_
 replace hc := hc.nilRow 33 2
 obtain ⟨un,hun,hF⟩ := bnd_some hF
 refine stApm (xs := ([] : List daily_Reading)) (ys := l) hf hc rfl rfl sl_23 rfl rfl rfl rfl rfl one_enc_daily_Reading (src_rd hc h_l) (fun _ _ => u0) (by simpa using room_spec hun) fun p_1 c_1 a w hf hc => sp 1 hf rfl fun a hf => zT h ?_
 refine wp_ret ?_
 obtain rfl := sj hF
 exact zO1 Try.results7 hf rfl ⟨p_1,c_1,rfl,hc⟩

def cmp_isNaN_int (x : Int) : Bool :=
 (x != x)
theorem cmp_isNaN_int_ok {G : Pers} {Lf : List Ent} {w : World} (x : Int)   (hc : Ctx G (Lf) w) {res : Bool} (hF : cmp_isNaN_int x = res) : Calls Try.prog 63 #[i6 x] w (fun e w => e = .returned (.bool res) ∧ Ctx G (Lf) w) := by
 unfold cmp_isNaN_int at hF
 refine fnIn Try.func63 rfl Try.ntmps63 rfl fun a hf => zS fun K h => sp 1 hf rfl fun a hf => zT h ?_
 refine zS fun K h => sp 4 hf rfl fun a hf => zT h ?_
 refine wp_ret ?_
 obtain rfl := hF
 exact zO1 Try.results63 hf rfl ⟨rfl,hc⟩

def cmp_Compare_int (x : Int) (y : Int) : Int :=
 cond (cmp_isNaN_int x)
 (cond (cmp_isNaN_int y)
 (0)
 ((-1)))
 (cond (cmp_isNaN_int y)
 (1)
 (cond (decide (x < y))
 ((-1))
 (cond (decide (y < x))
 (1)
 (0))))
theorem cmp_Compare_int_ok {G : Pers} {Lf : List Ent} {w : World} (x : Int) (y : Int)   (hc : Ctx G (Lf) w) {res : Int} (hF : cmp_Compare_int x y = res) : Calls Try.prog 37 #[i6 x,i6 y] w (fun e w => e = .returned (i6 res) ∧ Ctx G (Lf) w) := by
 unfold cmp_Compare_int at hF
 refine fnIn Try.func37 rfl Try.ntmps37 rfl fun a hf => zS fun K h => sp 1 hf rfl fun a hf => zT h ?_
 refine zS fun K h => sp 1 hf rfl fun a hf => zQ (v := .bool (cmp_isNaN_int x)) hf hc en_63 rfl (fun w hc => cmp_isNaN_int_ok x hc rfl) fun a w hf hc => sp 1 hf rfl fun a hf => zT h ?_
 refine zS fun K h => sp 1 hf rfl fun a hf => zQ (v := .bool (cmp_isNaN_int y)) hf hc en_63 rfl (fun w hc => cmp_isNaN_int_ok y hc rfl) fun a w hf hc => sp 1 hf rfl fun a hf => zT h ?_
 refine wp_seq_k fun K4 h4 => zS fun K h => sp 1 hf rfl fun a hf => zT h ?_
 refine zI hf rfl hF ?_ ?_ <;> clear hF <;> intro hF
 ·refine wp_seq_k fun K6 h6 => zS fun K h => sp 1 hf rfl fun a hf => zT h ?_
  refine zI hf rfl hF ?_ ?_ <;> clear hF <;> intro hF
  ·refine zS fun K h => sp 1 hf rfl fun a hf => zT h ?_
   refine wp_ret ?_
   refine xThenR ?_
   refine xThenR ?_
   obtain rfl := hF
   exact zO1 Try.results37 hf rfl ⟨rfl,hc⟩
  ·refine wp_skip ?_
   refine h6 _ _ ?_
   refine zS fun K h => sp 1 hf rfl fun a hf => zT h ?_
   refine wp_ret ?_
   refine xThenR ?_
   obtain rfl := hF
   exact zO1 Try.results37 hf rfl ⟨rfl,hc⟩
 ·refine wp_skip ?_
  refine h4 _ _ ?_
  refine wp_seq_k fun K10 h10 => zS fun K h => sp 1 hf rfl fun a hf => zT h ?_
  refine zI hf rfl hF ?_ ?_ <;> clear hF <;> intro hF
  ·refine zS fun K h => sp 1 hf rfl fun a hf => zT h ?_
   refine wp_ret ?_
   refine xThenR ?_
   obtain rfl := hF
   exact zO1 Try.results37 hf rfl ⟨rfl,hc⟩
  ·refine wp_skip ?_
   refine h10 _ _ ?_
   refine wp_seq_k fun K13 h13 => zS fun K h => sp 3 hf rfl fun a hf => zT h ?_
   refine zI hf rfl hF ?_ ?_ <;> clear hF <;> intro hF
   ·refine zS fun K h => sp 1 hf rfl fun a hf => zT h ?_
    refine wp_ret ?_
    refine xThenR ?_
    obtain rfl := hF
    exact zO1 Try.results37 hf rfl ⟨rfl,hc⟩
   ·refine wp_skip ?_
    refine h13 _ _ ?_
    refine wp_seq_k fun K16 h16 => zS fun K h => sp 3 hf rfl fun a hf => zT h ?_
    refine zI hf rfl hF ?_ ?_ <;> clear hF <;> intro hF
    ·refine zS fun K h => sp 1 hf rfl fun a hf => zT h ?_
     refine wp_ret ?_
     refine xThenR ?_
     obtain rfl := hF
     exact zO1 Try.results37 hf rfl ⟨rfl,hc⟩
    ·refine wp_skip ?_
     refine h16 _ _ ?_
     refine zS fun K h => sp 1 hf rfl fun a hf => zT h ?_
     refine wp_ret ?_
     obtain rfl := hF
     exact zO1 Try.results37 hf rfl ⟨rfl,hc⟩

def daily_nets_1 (a_ : daily_kink) (b_ : daily_kink) : Int :=
 (cmp_Compare_int b_.value a_.value)
theorem daily_nets_1_ok {G : Pers} {Lf : List Ent} {w : World} (a_ : daily_kink) (b_ : daily_kink)   (hc : Ctx G (Lf) w) {res : Int} (hF : daily_nets_1 a_ b_ = res) : Calls Try.prog 36 #[.agg #[i6 a_.value,i6 a_.reading,i6 a_.weight],.agg #[i6 b_.value,i6 b_.reading,i6 b_.weight]] w (fun e w => e = .returned (i6 res) ∧ Ctx G (Lf) w) := by
 unfold daily_nets_1 at hF
 refine fnIn Try.func36 rfl Try.ntmps36 rfl fun a hf => zS fun K h => zB hf hc rfl fun b_1 a w hf hc => zB hf hc rfl fun b_2 a w hf hc => sp 1 hf rfl fun a hf => zT h ?_
 refine zS fun K h => zP hf rfl (pFA fa_88_0 rfl) fun a hf => zL hf hc sc_3 m0 rfl fun a w hf hc => zP hf rfl (pFA fa_88_0 rfl) fun a hf => zL hf hc sc_3 m1 rfl fun a w hf hc => zQ (v := i6 (cmp_Compare_int b_.value a_.value)) hf hc en_37 rfl (fun w hc => cmp_Compare_int_ok b_.value a_.value hc rfl) fun a w hf hc => sp 1 hf rfl fun a hf => zT h ?_
 refine wp_ret ?_
 obtain rfl := hF
 replace hc := (hc.drop k1).drop k0
 exact zO1 Try.results36 hf rfl ⟨rfl,hc⟩

def slices_insertionSortCmpFunc_daily_kink_b9 (N : Nat) (a_ : Int) (data_1 : List daily_kink) (j_1 : Int) : Option (Step ((List daily_kink) × Int) (Step ((List daily_kink) × Int) ((List daily_kink)))) :=
 Option.bind (cond (decide (a_ < j_1)) (Option.bind (getI data_1 j_1) fun e_1 =>
 Option.bind (getI data_1 (W (j_1 - 1))) fun e_2 =>
 some (decide ((daily_nets_1 e_1 e_2) < 0))) (some false)) fun t_1 =>
 cond t_1
 (Option.bind (getI data_1 (W (j_1 - 1))) fun e_3 =>
 Option.bind (getI data_1 j_1) fun e_4 =>
 Option.bind (getI data_1 j_1) fun e_5 =>
 Option.bind (getI data_1 (W (j_1 - 1))) fun e_6 =>
 some (.cont (((data_1.set j_1.toNat e_3).set (W (j_1 - 1)).toNat e_4),W (j_1 - 1))))
 (some (.brk (data_1,j_1)))
def slices_insertionSortCmpFunc_daily_kink_b3 (N : Nat) (a_ : Int) (b_ : Int) (data_0 : List daily_kink) (i_1 : Int) : Option (Step ((List daily_kink) × Int) ((List daily_kink))) :=
 cond (decide (i_1 < b_))
 (Option.bind (loopO (fun s9 => slices_insertionSortCmpFunc_daily_kink_b9 N a_ s9.1 s9.2) N (data_0,i_1)) fun x9 =>
 exK x9 (fun s9 => some (.cont (s9.1,W (i_1 + 1)))) some)
 (some (.brk (data_0,i_1)))
def slices_insertionSortCmpFunc_daily_kink (N : Nat) (data : List daily_kink) (a_ : Int) (b_ : Int) : Option ((List daily_kink)) :=
 Option.bind (loopO (fun s3 => slices_insertionSortCmpFunc_daily_kink_b3 N a_ b_ s3.1 s3.2) N (data,W (a_ + 1))) fun x3 =>
 exK x3 (fun s3 => Option.bind (sameL s3.1 data) fun _ =>
 some s3.1) some
theorem slices_insertionSortCmpFunc_daily_kink_ok {N : Nat} {G : Pers} {Lf : List Ent} {w : World} (data : List daily_kink) (a_ : Int) (b_ : Int) {data_p : Option Addr} {data_c : Nat}  (hc : Ctx G (.row data_p data_c (data.map enc_daily_kink) 88 3::Lf) w) {res : (List daily_kink)} (hF : slices_insertionSortCmpFunc_daily_kink N data a_ b_ = some res) : Calls Try.prog 78 #[.slice data_p data.length data_c,i6 a_,i6 b_,.func (.func 36) #[] #[]] w (fun e w => e = .returned (.tuple #[]) ∧ res.length = data.length ∧ Ctx G (.row data_p data_c (res.map enc_daily_kink) 88 3::Lf) w) := by
 unfold slices_insertionSortCmpFunc_daily_kink at hF
 refine fnIn Try.func78 rfl Try.ntmps78 rfl fun a hf => zS fun K h => sp 3 hf rfl fun a hf => zT h ?_
 refine wp_thenK fun K2 h2 => wp_block ?_
 obtain ⟨x3,hx3,hF⟩ := bnd_some hF
 let S3 : ((List daily_kink) × Int) → Act → World → Prop := (fun (zz : (List daily_kink) × Int) a w => Has 53 a [(0,.slice data_p zz.1.length data_c),(1,i6 a_),(2,i6 b_),(3,.func (.func 36) #[] #[]),(8,i6 zz.2)] ∧ Ctx G (.row data_p data_c (zz.1.map enc_daily_kink) 88 3::Lf) w)
 have hr3 : ∀ (zz : (List daily_kink) × Int) a w,x3 = .go zz → S3 zz a w → K2 a w := by
  rintro ⟨data_0,i_1⟩ a w rfl ⟨hf,hc⟩
  replace hF := exK_go hF
  refine h2 _ _ ?_
  obtain ⟨_,hl0,hF⟩ := same_len hF
  obtain rfl := sj hF
  exact fnOut0 (by simp) rfl Try.results78 hf ⟨rfl,hl0,hc⟩
 have ho3 : ∀ r,x3 = .out r → r = res := by
  rintro r rfl
  exact sj hF
 refine cLoop N (loopW (S := S3) (x := x3) ?_ N (data,W (a_ + 1)) _ _ ⟨hf.kp rfl,hc⟩ hx3)
 clear hF hf hc
 rintro ⟨data_0,i_1⟩ st3 a w KB3 ⟨hf,hc⟩ hF hfin3 hK3
 unfold slices_insertionSortCmpFunc_daily_kink_b3 at hF
 refine wp_seq_k fun K4 h4 => zS fun K h => sp 3 hf rfl fun a hf => zT h ?_
 refine zI hf rfl hF ?_ ?_ <;> clear hF <;> intro hF
 ·refine wp_skip ?_
  refine h4 _ _ ?_
  refine wp_seq_k fun K6 h6 => wp_block ?_
  refine zS fun K h => sp 2 hf rfl fun a hf => zT h ?_
  refine wp_thenK fun K8 h8 => wp_block ?_
  obtain ⟨x9,hx9,hF⟩ := bnd_some hF
  let S9 : ((List daily_kink) × Int) → Act → World → Prop := (fun (zz : (List daily_kink) × Int) a w => Has 53 a [(0,.slice data_p zz.1.length data_c),(1,i6 a_),(2,i6 b_),(3,.func (.func 36) #[] #[]),(8,i6 i_1),(9,i6 zz.2)] ∧ Ctx G (.row data_p data_c (zz.1.map enc_daily_kink) 88 3::Lf) w)
  have hr9 : ∀ (zz : (List daily_kink) × Int) a w,x9 = .go zz → S9 zz a w → K8 a w := by
   rintro ⟨data_1,j_1⟩ a w rfl ⟨hf,hc⟩
   replace hF := exK_go hF
   refine h8 _ _ ?_
   refine h6 _ _ ?_
   refine cReg ?_
   refine sp 3 hf rfl fun a hf => cNil ?_
   exact hK3 (data_1,W (i_1 + 1)) _ _ (sj hF).symm ⟨hf.kp rfl,hc⟩
  have ho9 : ∀ r,x9 = .out r → r = st3 := by
   rintro r rfl
   exact sj hF
  refine cLoop N (loopW (S := S9) (x := x9) ?_ N (data_0,i_1) _ _ ⟨hf.kp rfl,hc⟩ hx9)
  clear hF hf hc
  rintro ⟨data_1,j_1⟩ st9 a w KB9 ⟨hf,hc⟩ hF hfin9 hK9
  unfold slices_insertionSortCmpFunc_daily_kink_b9 at hF
  refine wp_seq_k fun K10 h10 => wp_seq_k fun K11 h11 => ?_
  obtain ⟨t_1,ht_1,hF⟩ := bnd_some hF
  refine cQ hc follows_mx (by kernel_rfl) ?_
  refine qE hf rfl rfl rfl (Pu.ev (pM rfl)) fun a hf => qE hf rfl rfl rfl (Pu.ev (pM rfl)) fun a hf => qE hf rfl rfl rfl (Pu.ev (pGt rfl rfl)) fun a hf => qE hf rfl rfl rfl (Pu.ev (pM rfl)) fun a hf => qCut 13 (fun a => Has 53 a [(0,.slice data_p data_1.length data_c),(1,i6 a_),(2,i6 b_),(3,.func (.func 36) #[] #[]),(8,i6 i_1),(9,i6 j_1),(18,i6 j_1),(19,i6 a_),(20,.bool (decide (a_ < j_1))),(21,.bool (decide (a_ < j_1))),(34,.bool t_1)]) ?_ ?_
  ·cases hb : (decide (a_ < j_1))
   ·rw [hb] at hf
    have hF := condF hb ht_1
    obtain rfl := sj hF
    refine qS hf rfl rfl rfl fun a hf => qS hf rfl rfl rfl fun a hf => qS hf rfl rfl rfl fun a hf => qS hf rfl rfl rfl fun a hf => qS hf rfl rfl rfl fun a hf => qS hf rfl rfl rfl fun a hf => qS hf rfl rfl rfl fun a hf => qS hf rfl rfl rfl fun a hf => qS hf rfl rfl rfl fun a hf => qS hf rfl rfl rfl fun a hf => qS hf rfl rfl rfl fun a hf => qS hf rfl rfl rfl fun a hf => qE hf rfl rfl rfl (Pu.ev (pPf rfl rfl)) fun a hf => ?_
    exact qNil (hf.kp rfl)
   ·rw [hb] at hf
    have hF := condT hb ht_1
    obtain ⟨e_1,he_1,hF⟩ := bnd_some hF
    obtain ⟨g,rfl,qa,qr⟩ := row_atm hc m0 he_1
    obtain ⟨e_2,he_2,hF⟩ := bnd_some hF
    obtain ⟨qa_1,qr_1⟩ := row_atk hc m0 he_2
    refine qE hf rfl rfl rfl (Pu.ev (pM rfl)) fun a hf => qE hf rfl rfl rfl (Pu.ev (pM rfl)) fun a hf => qE hf rfl rfl rfl (Pu.ev (pM rfl)) fun a hf => qE hf rfl rfl rfl (Pu.ev (pIA Try.underlying86 sz_88 rfl rfl qa)) fun a hf => qE hf rfl rfl rfl (eLdN (vs := [i6 e_1.value,i6 e_1.reading,i6 e_1.weight]) ag_88 rfl rfl (cells_rw (sz := 3) (i := j_1.toNat) m0 qr (n := 3) (o' := 0) rfl)) fun a hf => qE hf rfl rfl rfl (Pu.ev (pM rfl)) fun a hf => qE hf rfl rfl rfl (Pu.ev (pM rfl)) fun a hf => qE hf rfl rfl rfl (Pu.ev (pSub rfl rfl)) fun a hf => qE hf rfl rfl rfl (Pu.ev (pIA Try.underlying86 sz_88 rfl rfl qa_1)) fun a hf => qE hf rfl rfl rfl (eLdN (vs := [i6 e_2.value,i6 e_2.reading,i6 e_2.weight]) ag_88 rfl rfl (cells_rw (sz := 3) (i := (W (j_1 - 1)).toNat) m0 qr_1 (n := 3) (o' := 0) rfl)) fun a hf => qE hf rfl rfl rfl (eC (v := i6 (daily_nets_1 e_1 e_2)) (vs := [.agg #[i6 e_1.value,i6 e_1.reading,i6 e_1.weight],.agg #[i6 e_2.value,i6 e_2.reading,i6 e_2.weight]]) (caps := []) en_36 rfl rfl rfl rfl (fun w hc => daily_nets_1_ok e_1 e_2 hc rfl)) fun a hf => qE hf rfl rfl rfl (Pu.ev (pLt rfl rfl)) fun a hf => qE hf rfl rfl rfl (Pu.ev (pPt rfl rfl)) fun a hf => ?_
    obtain rfl := sj hF
    exact qNil (hf.kp rfl)
  intro a hf
  intro w hc
  refine h11 _ _ ?_
  refine zI hf rfl hF ?_ ?_ <;> clear hF <;> intro hF
  ·refine wp_skip ?_
   refine h10 _ _ ?_
   refine wp_seq_k fun K12 h12 => wp_block ?_
   obtain ⟨e_3,he_3,hF⟩ := bnd_some hF
   obtain ⟨g_1,rfl,qa_2,qr_2⟩ := row_atm hc m0 he_3
   obtain ⟨e_4,he_4,hF⟩ := bnd_some hF
   obtain ⟨qa_3,qr_3⟩ := row_atk hc m0 he_4
   obtain ⟨e_5,he_5,hF⟩ := bnd_some hF
   obtain ⟨qa_4,qr_4⟩ := row_atk hc m0 he_5
   obtain ⟨e_6,he_6,hF⟩ := bnd_some hF
   obtain ⟨qa_5,qr_5⟩ := row_atk hc m0 he_6
   refine regionE (fun θ => [⟨none,none,0,.slice (some ⟨g_1,0,none⟩) data_1.length data_c⟩,⟨none,none,1,i6 a_⟩,⟨none,none,2,i6 b_⟩,⟨none,none,3,.func (.func 36) #[] #[]⟩,⟨none,none,8,i6 i_1⟩,⟨none,none,9,i6 j_1⟩,⟨some 0,none,37,.slice (some ⟨g_1,0,none⟩) data_1.length data_c⟩,⟨some 1,none,38,i6 j_1⟩,⟨some 2,none,39,.slice (some ⟨g_1,0,none⟩) data_1.length data_c⟩,⟨some 3,none,40,i6 j_1⟩,⟨some 4,none,41,i6 (W (j_1 - 1))⟩,⟨some 5,none,42,.slice (some ⟨g_1,0,none⟩) data_1.length data_c⟩,⟨some 6,none,43,i6 j_1⟩,⟨some 7,none,44,i6 (W (j_1 - 1))⟩,⟨some 8,none,45,.pointer (some ⟨g_1,(W (j_1 - 1)).toNat * 3,none⟩)⟩,⟨some 9,none,46,.agg #[i6 e_3.value,i6 e_3.reading,i6 e_3.weight]⟩,⟨some 10,none,47,.slice (some ⟨g_1,0,none⟩) data_1.length data_c⟩,⟨some 11,none,48,i6 j_1⟩,⟨some 12,none,49,.pointer (some ⟨g_1,j_1.toNat * 3,none⟩)⟩,⟨some 13,none,50,.agg #[i6 e_4.value,i6 e_4.reading,i6 e_4.weight]⟩,⟨some 14,none,51,.pointer (some ⟨g_1,j_1.toNat * 3,none⟩)⟩,⟨some 16,none,52,.pointer (some ⟨g_1,(W (j_1 - 1)).toNat * 3,none⟩)⟩]) (fun E θ => (bif E 17 then .row (some ⟨g_1,0,none⟩) data_c (((data_1.set j_1.toNat e_3).set (W (j_1 - 1)).toNat e_4).map enc_daily_kink) 88 3 else bif E 15 then .row (some ⟨g_1,0,none⟩) data_c ((data_1.set j_1.toNat e_3).map enc_daily_kink) 88 3 else .row (some ⟨g_1,0,none⟩) data_c (data_1.map enc_daily_kink) 88 3)::Lf) [(15,8),(17,8),(15,9),(17,9),(13,12),(15,13),(17,12),(17,13),(15,14),(17,14),(17,15),(17,16)] (fun a w => Has 53 a [(0,.slice (some ⟨g_1,0,none⟩) data_1.length data_c),(1,i6 a_),(2,i6 b_),(3,.func (.func 36) #[] #[]),(8,i6 i_1),(9,i6 j_1)] ∧ Ctx G (.row (some ⟨g_1,0,none⟩) data_c (((data_1.set j_1.toNat e_3).set (W (j_1 - 1)).toNat e_4).map enc_daily_kink) 88 3::Lf) w) follows_mx (by kernel_rfl) (by kernel_rfl) (HasE.of hf ⟨rfl,rfl,rfl,rfl,rfl,rfl,trivial,trivial,trivial,trivial,trivial,trivial,trivial,trivial,trivial,trivial,trivial,trivial,trivial,trivial,trivial,trivial,trivial⟩) hc ⟨?_,?_,?_,?_,?_,?_,?_,?_,?_,?_,?_,?_,?_,?_,?_,?_,?_,?_,trivial⟩ ?_ ?_
   ·intro E θ a w hD hi hp he hc
    have hf := he.h0.mT he 0 rfl
    refine sp 1 hf rfl fun a hf => zD θ he hi hf 6 rfl rfl rfl hc
   ·intro E θ a w hD hi hp he hc
    have hf := he.h0.mT he 5 rfl
    refine sp 1 hf rfl fun a hf => zD θ he hi hf 7 rfl rfl rfl hc
   ·intro E θ a w hD hi hp he hc
    have hf := he.h0.mT he 0 rfl
    refine sp 1 hf rfl fun a hf => zD θ he hi hf 8 rfl rfl rfl hc
   ·intro E θ a w hD hi hp he hc
    have hf := he.h0.mT he 5 rfl
    refine sp 1 hf rfl fun a hf => zD θ he hi hf 9 rfl rfl rfl hc
   ·intro E θ a w hD hi hp he hc
    have e3 := hp.o 3 rfl
    have hf := he.h0.mP he 9 rfl e3
    refine sp 1 hf rfl fun a hf => zD θ he hi hf 10 rfl rfl rfl hc
   ·intro E θ a w hD hi hp he hc
    have hf := he.h0.mT he 0 rfl
    refine sp 1 hf rfl fun a hf => zD θ he hi hf 11 rfl rfl rfl hc
   ·intro E θ a w hD hi hp he hc
    have hf := he.h0.mT he 5 rfl
    refine sp 1 hf rfl fun a hf => zD θ he hi hf 12 rfl rfl rfl hc
   ·intro E θ a w hD hi hp he hc
    have e6 := hp.o 6 rfl
    have hf := he.h0.mP he 12 rfl e6
    refine sp 1 hf rfl fun a hf => zD θ he hi hf 13 rfl rfl rfl hc
   ·intro E θ a w hD hi hp he hc
    have e5 := hp.o 5 rfl
    have e7 := hp.o 7 rfl
    have e15 := hD.f 0 rfl hi
    have e17 := hD.f 1 rfl hi
    try dsimp only at hc
    rw [e15,e17] at hc
    have hf := (he.h0.mP he 11 rfl e5).mP he 13 rfl e7
    refine zP hf rfl (pIA Try.underlying86 sz_88 rfl rfl qa_2) fun a hf => zD θ he hi hf 14 rfl rfl rfl ?_
    try dsimp only
    rw [updE_fls 8 e15 rfl,updE_fls 8 e17 rfl]
    exact hc
   ·intro E θ a w hD hi hp he hc
    have e8 := hp.o 8 rfl
    have e15 := hD.f 2 rfl hi
    have e17 := hD.f 3 rfl hi
    try dsimp only at hc
    rw [e15,e17] at hc
    have hf := he.h0.mP he 14 rfl e8
    refine zE hf hc rfl (eLdN (vs := [i6 e_3.value,i6 e_3.reading,i6 e_3.weight]) ag_88 rfl rfl (cells_rw (sz := 3) (i := (W (j_1 - 1)).toNat) m0 qr_2 (n := 3) (o' := 0) rfl)) fun a w hf hc => zD θ he hi hf 15 rfl rfl rfl ?_
    try dsimp only
    rw [updE_fls 9 e15 rfl,updE_fls 9 e17 rfl]
    exact hc
   ·intro E θ a w hD hi hp he hc
    have hf := he.h0.mT he 0 rfl
    refine sp 1 hf rfl fun a hf => zD θ he hi hf 16 rfl rfl rfl hc
   ·intro E θ a w hD hi hp he hc
    have hf := he.h0.mT he 5 rfl
    refine sp 1 hf rfl fun a hf => zD θ he hi hf 17 rfl rfl rfl hc
   ·intro E θ a w hD hi hp he hc
    have e10 := hp.o 10 rfl
    have e11 := hp.o 11 rfl
    have e13 := hD.f 4 rfl hi
    have e15 := hD.f 5 rfl e13
    have e17 := hD.f 6 rfl hi
    try dsimp only at hc
    rw [e15,e17] at hc
    have hf := (he.h0.mP he 16 rfl e10).mP he 17 rfl e11
    refine zP hf rfl (pIA Try.underlying86 sz_88 rfl rfl qa_3) fun a hf => zD θ he hi hf 18 rfl rfl rfl ?_
    try dsimp only
    rw [updE_fls 12 e15 rfl,updE_fls 12 e17 rfl]
    exact hc
   ·intro E θ a w hD hi hp he hc
    have e12 := hp.o 12 rfl
    have e15 := hD.f 5 rfl hi
    have e17 := hD.f 7 rfl hi
    try dsimp only at hc
    rw [e15,e17] at hc
    have hf := he.h0.mP he 18 rfl e12
    refine zE hf hc rfl (eLdN (vs := [i6 e_4.value,i6 e_4.reading,i6 e_4.weight]) ag_88 rfl rfl (cells_rw (sz := 3) (i := j_1.toNat) m0 qr_3 (n := 3) (o' := 0) rfl)) fun a w hf hc => zD θ he hi hf 19 rfl rfl rfl ?_
    try dsimp only
    rw [updE_fls 13 e15 rfl,updE_fls 13 e17 rfl]
    exact hc
   ·intro E θ a w hD hi hp he hc
    have e0 := hp.o 0 rfl
    have e1 := hp.o 1 rfl
    have e15 := hD.f 8 rfl hi
    have e17 := hD.f 9 rfl hi
    try dsimp only at hc
    rw [e15,e17] at hc
    have hf := (he.h0.mP he 6 rfl e0).mP he 7 rfl e1
    refine zP hf rfl (pIA Try.underlying86 sz_88 rfl rfl qa_4) fun a hf => zD θ he hi hf 20 rfl rfl rfl ?_
    try dsimp only
    rw [updE_fls 14 e15 rfl,updE_fls 14 e17 rfl]
    exact hc
   ·intro E θ a w hD hi hp he hc
    have e9 := hp.o 9 rfl
    have e14 := hp.o 14 rfl
    have e17 := hD.f 10 rfl hi
    try dsimp only at hc
    rw [hi,e17] at hc
    have hf := (he.h0.mP he 15 rfl e9).mP he 20 rfl e14
    refine stRw (sz := 3) (vs := [i6 e_3.value,i6 e_3.reading,i6 e_3.weight]) (o' := 0) (z := e_3) (xs := data_1) hf hc rfl rfl rfl rfl sz_88 rfl (fun x => (one_enc_daily_kink x).1) (getI_lt he_5) (fun _ _ => rfl) rfl u0 fun w hc => zG θ he hi hf rfl ?_
    try dsimp only
    rw [updE_self E 15,updE_fls 15 e17 rfl]
    exact hc
   ·intro E θ a w hD hi hp he hc
    have e2 := hp.o 2 rfl
    have e4 := hp.o 4 rfl
    have e15 := hp.o 15 rfl
    have e17 := hD.f 11 rfl hi
    try dsimp only at hc
    rw [e15,e17] at hc
    have hf := (he.h0.mP he 8 rfl e2).mP he 10 rfl e4
    refine zP hf rfl (pIA Try.underlying86 sz_88 rfl rfl qa_5) fun a hf => zD θ he hi hf 21 rfl rfl rfl ?_
    try dsimp only
    rw [updE_tru 16 e15,updE_fls 16 e17 rfl]
    exact hc
   ·intro E θ a w hD hi hp he hc
    have e13 := hp.o 13 rfl
    have e16 := hp.o 16 rfl
    have e15 := hp.o 15 rfl
    try dsimp only at hc
    rw [e15,hi] at hc
    have hf := (he.h0.mP he 19 rfl e13).mP he 21 rfl e16
    refine stRw (sz := 3) (vs := [i6 e_4.value,i6 e_4.reading,i6 e_4.weight]) (o' := 0) (z := e_4) (xs := (data_1.set j_1.toNat e_3)) hf hc rfl rfl rfl rfl sz_88 rfl (fun x => (one_enc_daily_kink x).1) (by simpa using getI_lt he_6) (fun _ _ => rfl) rfl u0 fun w hc => zG θ he hi hf rfl ?_
    try dsimp only
    rw [updE_tru 17 e15,updE_self E 17]
    exact hc
   ·intro E θ a w hall he hc
    have hf := he.h0
    have e15 := hall 15 rfl
    have e17 := hall 17 rfl
    replace hf := hf.more he 5 rfl (onT)
    replace hf := hf.more he 4 rfl (onT)
    replace hf := hf.more he 3 rfl (onT)
    replace hf := hf.more he 2 rfl (onT)
    replace hf := hf.more he 1 rfl (onT)
    replace hf := hf.more he 0 rfl (onT)
    try dsimp only at hc
    rw [e15,e17] at hc
    exact ⟨hf.kp rfl,hc⟩
   rintro a w ⟨hf,hc⟩
   refine h12 _ _ ?_
   refine cReg ?_
   refine sp 3 hf rfl fun a hf => cNil ?_
   replace hf := hf.castAt 0 (v' := .slice (some ⟨g_1,0,none⟩) (((data_1.set j_1.toNat e_3).set (W (j_1 - 1)).toNat e_4).length) data_c) rfl (congrArg (fun k => Value.slice (some ⟨g_1,0,none⟩) k data_c) (by simp))
   exact hK9 (((data_1.set j_1.toNat e_3).set (W (j_1 - 1)).toNat e_4),W (j_1 - 1)) _ _ (sj hF).symm ⟨hf.kp rfl,hc⟩
  ·refine wp_exit ?_
   refine xThen ?_
   refine xThen ?_
   have he := sj hF
   rw [← he] at hfin9
   refine cHit ?_
   exact hr9 _ _ _ hfin9 ⟨hf.kp rfl,hc⟩
 ·refine wp_exit ?_
  refine xThen ?_
  refine xThen ?_
  have he := sj hF
  rw [← he] at hfin3
  refine cHit ?_
  exact hr3 _ _ _ hfin3 ⟨hf.kp rfl,hc⟩

def slices_stableCmpFunc_daily_kink_b13 (N : Nat) (n : Int) (blockSize : Int) : Option (Step (Unit) (Step (Int) ((List daily_kink)))) :=
 cond (decide ((W (2 * blockSize)) ≤ n))
 (none)
 (some (.brk ()))
def slices_stableCmpFunc_daily_kink_b7 (N : Nat) (n : Int) (blockSize : Int) : Option (Step (Int) ((List daily_kink))) :=
 cond (decide (blockSize < n))
 (Option.bind (loopO (fun (_ : Unit) => slices_stableCmpFunc_daily_kink_b13 N n blockSize) N ()) fun x13 =>
 exK x13 (fun (_ : Unit) => cond (decide ((W (0 + blockSize)) < n))
 (none)
 (some (.cont (W (blockSize * 2))))) some)
 (some (.brk blockSize))
def slices_stableCmpFunc_daily_kink_b4 (N : Nat) (n : Int) (data_0 : List daily_kink) (a_1 : Int) (b_1 : Int) : Option (Step ((List daily_kink) × Int × Int) ((List daily_kink))) :=
 cond (decide (b_1 ≤ n))
 (Option.bind (slices_insertionSortCmpFunc_daily_kink N data_0 a_1 b_1) fun r_1 =>
 some (.cont (r_1,b_1,W (b_1 + 20))))
 (some (.brk (data_0,a_1,b_1)))
def slices_stableCmpFunc_daily_kink (N : Nat) (data : List daily_kink) (n : Int) : Option ((List daily_kink)) :=
 Option.bind (loopO (fun s4 => slices_stableCmpFunc_daily_kink_b4 N n s4.1 s4.2.1 s4.2.2) N (data,0,20)) fun x4 =>
 exK x4 (fun s4 => Option.bind (slices_insertionSortCmpFunc_daily_kink N s4.1 s4.2.1 n) fun r =>
 Option.bind (loopO (fun s7 => slices_stableCmpFunc_daily_kink_b7 N n s7) N 20) fun x7 =>
 exK x7 (fun s7 => Option.bind (sameL r data) fun _ =>
 some r) some) some
theorem slices_stableCmpFunc_daily_kink_ok {N : Nat} {G : Pers} {Lf : List Ent} {w : World} (data : List daily_kink) (n : Int) {data_p : Option Addr} {data_c : Nat}  (hc : Ctx G (.row data_p data_c (data.map enc_daily_kink) 88 3::Lf) w) {res : (List daily_kink)} (hF : slices_stableCmpFunc_daily_kink N data n = some res) : Calls Try.prog 62 #[.slice data_p data.length data_c,i6 n,.func (.func 36) #[] #[]] w (fun e w => e = .returned (.tuple #[]) ∧ res.length = data.length ∧ Ctx G (.row data_p data_c (res.map enc_daily_kink) 88 3::Lf) w) := by
 unfold slices_stableCmpFunc_daily_kink at hF
 refine fnIn Try.func62 rfl Try.ntmps62 rfl fun a hf => zS fun K h => sp 1 hf rfl fun a hf => zT h ?_
 refine zS fun K h => sp 3 hf rfl fun a hf => zT h ?_
 refine wp_seq_k fun K3 h3 => wp_block ?_
 obtain ⟨x4,hx4,hF⟩ := bnd_some hF
 let S4 : ((List daily_kink) × Int × Int) → Act → World → Prop := (fun (zz : (List daily_kink) × Int × Int) a w => Has 63 a [(0,.slice data_p zz.1.length data_c),(1,i6 n),(2,.func (.func 36) #[] #[]),(6,i6 20),(7,i6 zz.2.1),(8,i6 zz.2.2)] ∧ Ctx G (.row data_p data_c (zz.1.map enc_daily_kink) 88 3::Lf) w)
 have hr4 : ∀ (zz : (List daily_kink) × Int × Int) a w,x4 = .go zz → S4 zz a w → K3 a w := by
  rintro ⟨data_0,a_1,b_1⟩ a w rfl ⟨hf,hc⟩
  replace hF := exK_go hF
  refine h3 _ _ ?_
  refine zS fun K h => sp 4 hf rfl fun a hf => ?_
  obtain ⟨r,hr,hF⟩ := bnd_some hF
  refine zC hf en_78 rfl (slices_insertionSortCmpFunc_daily_kink_ok data_0 a_1 n (hc.pick k0) hr) ?_
  rintro _ w ⟨rfl,hl,hc⟩
  refine ⟨_,rfl,fun a hf => ?_⟩
  try rw [← hl] at hf
  try rw [← hl] at hc
  refine zT h ?_
  refine wp_thenK fun K6 h6 => wp_block ?_
  obtain ⟨x7,hx7,hF⟩ := bnd_some hF
  let S7 : Int → Act → World → Prop := (fun (zz : Int) a w => Has 63 a [(0,.slice data_p r.length data_c),(1,i6 n),(2,.func (.func 36) #[] #[]),(6,i6 zz)] ∧ Ctx G (.row data_p data_c (r.map enc_daily_kink) 88 3::Lf) w)
  have hr7 : ∀ (zz : Int) a w,x7 = .go zz → S7 zz a w → K6 a w := by
   rintro blockSize a w rfl ⟨hf,hc⟩
   replace hF := exK_go hF
   refine h6 _ _ ?_
   obtain ⟨_,hl0,hF⟩ := same_len hF
   obtain rfl := sj hF
   exact fnOut0 (by simp) rfl Try.results62 hf ⟨rfl,hl0,hc⟩
  have ho7 : ∀ r,x7 = .out r → r = res := by
   rintro r rfl
   exact sj hF
  refine cLoop N (loopW (S := S7) (x := x7) ?_ N 20 _ _ ⟨hf.kp rfl,hc⟩ hx7)
  clear hF hf hc
  rintro blockSize st7 a w KB7 ⟨hf,hc⟩ hF hfin7 hK7
  unfold slices_stableCmpFunc_daily_kink_b7 at hF
  refine wp_seq_k fun K8 h8 => zS fun K h => sp 3 hf rfl fun a hf => zT h ?_
  refine zI hf rfl hF ?_ ?_ <;> clear hF <;> intro hF
  ·refine wp_skip ?_
   refine h8 _ _ ?_
   refine wp_thenK fun K10 h10 => wp_block ?_
   refine zS fun K h => sp 4 hf rfl fun a hf => zT h ?_
   refine wp_seq_k fun K12 h12 => wp_block ?_
   obtain ⟨x13,hx13,hF⟩ := bnd_some hF
   let S13 : Unit → Act → World → Prop := (fun (zz : Unit) a w => Has 63 a [(0,.slice data_p r.length data_c),(1,i6 n),(2,.func (.func 36) #[] #[]),(6,i6 blockSize),(7,i6 0),(8,i6 (W (2 * blockSize)))] ∧ Ctx G (.row data_p data_c (r.map enc_daily_kink) 88 3::Lf) w)
   have hr13 : ∀ (zz : Unit) a w,x13 = .go zz → S13 zz a w → K12 a w := by
    rintro ⟨⟩ a w rfl ⟨hf,hc⟩
    replace hF := exK_go hF
    refine h12 _ _ ?_
    refine wp_seq_k fun K14 h14 => zS fun K h => sp 4 hf rfl fun a hf => zT h ?_
    refine zS fun K h => sp 3 hf rfl fun a hf => zT h ?_
    refine zI hf rfl hF ?_ ?_ <;> clear hF <;> intro hF
    ·exact noneO hF
    ·refine wp_skip ?_
     refine h14 _ _ ?_
     refine cReg ?_
     refine sp 3 hf rfl fun a hf => cNil ?_
     refine h10 _ _ ?_
     exact hK7 (W (blockSize * 2)) _ _ (sj hF).symm ⟨hf.kp rfl,hc⟩
   have ho13 : ∀ r,x13 = .out r → r = st7 := by
    rintro r rfl
    exact sj hF
   refine cLoop N (loopW (S := S13) (x := x13) ?_ N () _ _ ⟨hf.kp rfl,hc⟩ hx13)
   clear hF hf hc
   rintro ⟨⟩ st13 a w KB13 ⟨hf,hc⟩ hF hfin13 hK13
   unfold slices_stableCmpFunc_daily_kink_b13 at hF
   refine wp_seq_k fun K17 h17 => zS fun K h => sp 3 hf rfl fun a hf => zT h ?_
   refine zI hf rfl hF ?_ ?_ <;> clear hF <;> intro hF
   ·refine wp_skip ?_
    refine h17 _ _ ?_
    refine wp_thenK fun K19 h19 => wp_block ?_
    refine wp_seq_k fun K20 h20 => noneO hF
   ·refine wp_exit ?_
    refine xThen ?_
    refine xThen ?_
    have he := sj hF
    rw [← he] at hfin13
    refine cHit ?_
    exact hr13 _ _ _ hfin13 ⟨hf.kp rfl,hc⟩
  ·refine wp_exit ?_
   refine xThen ?_
   refine xThen ?_
   have he := sj hF
   rw [← he] at hfin7
   refine cHit ?_
   exact hr7 _ _ _ hfin7 ⟨hf.kp rfl,hc⟩
 have ho4 : ∀ r,x4 = .out r → r = res := by
  rintro r rfl
  exact sj hF
 refine cLoop N (loopW (S := S4) (x := x4) ?_ N (data,0,20) _ _ ⟨hf.kp rfl,hc⟩ hx4)
 clear hF hf hc
 rintro ⟨data_0,a_1,b_1⟩ st4 a w KB4 ⟨hf,hc⟩ hF hfin4 hK4
 unfold slices_stableCmpFunc_daily_kink_b4 at hF
 refine wp_seq_k fun K21 h21 => zS fun K h => sp 3 hf rfl fun a hf => zT h ?_
 refine zI hf rfl hF ?_ ?_ <;> clear hF <;> intro hF
 ·refine wp_skip ?_
  refine h21 _ _ ?_
  refine wp_thenK fun K23 h23 => wp_block ?_
  refine zS fun K h => sp 4 hf rfl fun a hf => ?_
  obtain ⟨r_1,hr_1,hF⟩ := bnd_some hF
  refine zC hf en_78 rfl (slices_insertionSortCmpFunc_daily_kink_ok data_0 a_1 b_1 (hc.pick k0) hr_1) ?_
  rintro _ w ⟨rfl,hl_1,hc⟩
  refine ⟨_,rfl,fun a hf => ?_⟩
  try rw [← hl_1] at hf
  try rw [← hl_1] at hc
  refine zT h ?_
  refine zS fun K h => sp 2 hf rfl fun a hf => zT h ?_
  refine cReg ?_
  refine sp 4 hf rfl fun a hf => cNil ?_
  refine h23 _ _ ?_
  exact hK4 (r_1,b_1,W (b_1 + 20)) _ _ (sj hF).symm ⟨hf.kp rfl,hc⟩
 ·refine wp_exit ?_
  refine xThen ?_
  refine xThen ?_
  have he := sj hF
  rw [← he] at hfin4
  refine cHit ?_
  exact hr4 _ _ _ hfin4 ⟨hf.kp rfl,hc⟩

def slices_SortStableFunc_Ldaily_kink_daily_kink (N : Nat) (x : List daily_kink) : Option ((List daily_kink)) :=
 Option.bind (slices_stableCmpFunc_daily_kink N x ((x.length : Nat) : Int)) fun r =>
 Option.bind (sameL r x) fun _ =>
 some r
theorem slices_SortStableFunc_Ldaily_kink_daily_kink_ok {N : Nat} {G : Pers} {Lf : List Ent} {w : World} (x : List daily_kink) {x_p : Option Addr} {x_c : Nat}  (hc : Ctx G (.row x_p x_c (x.map enc_daily_kink) 88 3::Lf) w) {res : (List daily_kink)} (hF : slices_SortStableFunc_Ldaily_kink_daily_kink N x = some res) : Calls Try.prog 35 #[.slice x_p x.length x_c,.func (.func 36) #[] #[]] w (fun e w => e = .returned (.tuple #[]) ∧ res.length = x.length ∧ Ctx G (.row x_p x_c (res.map enc_daily_kink) 88 3::Lf) w) := by
 unfold slices_SortStableFunc_Ldaily_kink_daily_kink at hF
 refine fnIn Try.func35 rfl Try.ntmps35 rfl fun a hf => cReg ?_
 refine sp 2 hf rfl fun a hf => zP hf rfl (pLenS Try.underlying86 rfl) fun a hf => sp 1 hf rfl fun a hf => ?_
 obtain ⟨r,hr,hF⟩ := bnd_some hF
 refine zC hf en_62 rfl (slices_stableCmpFunc_daily_kink_ok x ((x.length : Nat) : Int) (hc.pick k0) hr) ?_
 rintro _ w ⟨rfl,hl,hc⟩
 refine ⟨_,rfl,fun a hf => ?_⟩
 try rw [← hl] at hf
 try rw [← hl] at hc
 refine cNil ?_
 obtain ⟨_,hl0,hF⟩ := same_len hF
 obtain rfl := sj hF
 exact fnOut0 (by simp) rfl Try.results35 hf ⟨rfl,hl0,hc⟩

def daily_nets_j10 (N : Nat) (x : Int) (kinks_1 : List daily_kink) (x_2 : Nat → Int) : Option (Step ((List daily_kink) × Int × (Nat → Int)) ((Nat → Int))) :=
 some (.cont (kinks_1,W (x + 1),x_2))
def daily_nets_b16 (N : Nat) (x : Int) (e_1 : daily_Reading) (kinks_2 : List daily_kink) (pushed : Int) (x_3 : Nat → Int) : Option (Step ((List daily_kink) × Int × (Nat → Int)) (Step ((List daily_kink) × Int × (Nat → Int)) ((Nat → Int)))) :=
 Option.bind (cond (decide (pushed < e_1.Weight)) (Option.bind (getI kinks_2 0) fun e_2 =>
 some (decide (e_1.Value < e_2.value))) (some false)) fun t_1 =>
 cond t_1
 (Option.bind (getI kinks_2 0) fun e_3 =>
 Option.bind (getI kinks_2 0) fun e_4 =>
 Option.bind (inR e_4.reading 30) fun un_2 =>
 Option.bind (inR e_4.reading 30) fun un_3 =>
 Option.bind (inR x 30) fun un_4 =>
 Option.bind (inR x 30) fun un_5 =>
 Option.bind (getI kinks_2 0) fun e_5 =>
 Option.bind (getI kinks_2 0) fun e_6 =>
 Option.bind (getI (kinks_2.set (0 : Int).toNat (⟨e_6.value,e_6.reading,W (e_5.weight - (min (W (e_1.Weight - pushed)) e_3.weight))⟩ : daily_kink)) 0) fun e_7 =>
 cond (e_7.weight == 0)
 (none)
 (some (.cont ((kinks_2.set (0 : Int).toNat (⟨e_6.value,e_6.reading,W (e_5.weight - (min (W (e_1.Weight - pushed)) e_3.weight))⟩ : daily_kink)),W (pushed + (min (W (e_1.Weight - pushed)) e_3.weight)),(setF (setF x_3 e_4.reading.toNat (W ((x_3 e_4.reading.toNat) + (min (W (e_1.Weight - pushed)) e_3.weight)))) x.toNat (W (((setF x_3 e_4.reading.toNat (W ((x_3 e_4.reading.toNat) + (min (W (e_1.Weight - pushed)) e_3.weight)))) x.toNat) - (min (W (e_1.Weight - pushed)) e_3.weight))))))))
 (some (.brk (kinks_2,pushed,x_3)))
def daily_nets_b6 (N : Nat) (l : List daily_Reading) (kinks : List daily_kink) (x : Int) (x_1 : Nat → Int) : Option (Step ((List daily_kink) × Int × (Nat → Int)) ((Nat → Int))) :=
 cond (decide (x < ((l.length : Nat) : Int)))
 (Option.bind (getI l x) fun e_1 =>
 Option.bind (room ((kinks ++ [(⟨e_1.Value,x,e_1.Weight⟩ : daily_kink)])).length) fun un =>
 Option.bind (slices_SortStableFunc_Ldaily_kink_daily_kink N (kinks ++ [(⟨e_1.Value,x,e_1.Weight⟩ : daily_kink)])) fun r =>
 Option.bind (loopO (fun s16 => daily_nets_b16 N x e_1 s16.1 s16.2.1 s16.2.2) N (r,0,x_1)) fun x16 =>
 exK x16 (fun s16 => cond (decide (0 < s16.2.1))
 (Option.bind (room ((s16.1 ++ [(⟨e_1.Value,x,s16.2.1⟩ : daily_kink)])).length) fun un_1 =>
 daily_nets_j10 N x (s16.1 ++ [(⟨e_1.Value,x,s16.2.1⟩ : daily_kink)]) s16.2.2)
 (daily_nets_j10 N x s16.1 s16.2.2)) some)
 (some (.brk (kinks,x,x_1)))
def daily_nets (N : Nat) (l : List daily_Reading) : Option ((Nat → Int)) :=
 Option.bind (loopO (fun s6 => daily_nets_b6 N l s6.1 s6.2.1 s6.2.2) N (([] : List daily_kink),0,(fun _ => 0))) fun x6 =>
 exK x6 (fun s6 => some s6.2.2) some
theorem daily_nets_ok {N : Nat} {G : Pers} {Lf : List Ent} {w : World} (l : List daily_Reading) {l_p : Option Addr} {l_c : Nat} (h_l : Rd G 2 l_p l_c (l.map enc_daily_Reading)) (hc : Ctx G (Lf) w) {res : (Nat → Int)} (hF : daily_nets N l = some res) : Calls Try.prog 19 #[.slice l_p l.length l_c] w (fun e w => e = .returned (.agg (catc [] 30 encI_i64 res []).toArray) ∧ Ctx G (Lf) w) := by
 unfold daily_nets at hF
 refine fnIn Try.func19 rfl Try.ntmps19 rfl fun a hf => zS fun K h => stAl (cs := (catc [] 30 encI_i64 (fun _ => 0) [])) hf hc rfl rfl zr_54 rfl fun b_1 a w hf hc => zT h ?_
 refine zS fun K h => stAl (cs := (catc [] 30 encI_i64 (fun _ => 0) [])) hf hc rfl rfl zr_54 rfl fun b_2 a w hf hc => zT h ?_
 refine zS fun K h => sp 1 hf rfl fun a hf => zT h ?_
 refine wp_seq_k fun K4 h4 => zS fun K h => sp 1 hf rfl fun a hf => zP hf rfl (pLenS Try.underlying23 rfl) fun a hf => sp 1 hf rfl fun a hf => zT h ?_
 refine wp_block ?_
 obtain ⟨x6,hx6,hF⟩ := bnd_some hF
 let S6 : ((List daily_kink) × Int × (Nat → Int)) → Act → World → Prop := (fun (zz : (List daily_kink) × Int × (Nat → Int)) a w => ∃ (p_1 : Option Addr) (c_1 : Nat),Has 94 a [(2,pq b_1),(3,pq b_2),(4,.slice p_1 zz.1.length c_1),(9,.slice l_p l.length l_c),(10,i6 ((l.length : Nat) : Int)),(11,i6 zz.2.1)] ∧ Ctx G (.row p_1 c_1 (zz.1.map enc_daily_kink) 88 3::.box b_2 (catc [] 30 encI_i64 zz.2.2 []) 54::.box b_1 (catc [] 30 encI_i64 (fun _ => 0) []) 54::Lf) w)
 have hr6 : ∀ (zz : (List daily_kink) × Int × (Nat → Int)) a w,x6 = .go zz → S6 zz a w → K4 a w := by
  rintro ⟨kinks,x,x_1⟩ a w rfl ⟨p_1,c_1,hf,hc⟩
  replace hF := exK_go hF
  refine h4 _ _ ?_
  refine zS fun K h => zE hf hc rfl (eLdN (vs := (catc [] 30 encI_i64 x_1 [])) ag_54 rfl (one_encA_54 _).1 (cells_box (n := 30) m1 (takeW (one_encA_54 _).1))) fun a w hf hc => stStA (enc := encA_54) (f := (fun _ => 0)) (z := x_1) hf hc rfl rfl rfl one_encA_54 sz_54 u2 fun w hc => zT h ?_
  refine wp_ret ?_
  obtain rfl := sj hF
  replace hc := (hc.drop k1).drop k0
  exact fnOut1 (by simp) rfl Try.results19 hf hc (rv_cellN (vs := (catc [] 30 encI_i64 x_1 [])) ag_54 rfl (one_encA_54 _).1 (cells_box (n := 30) m0 (takeW (one_encA_54 _).1))) ⟨rfl,(hc.drop k0)⟩
 have ho6 : ∀ r,x6 = .out r → r = res := by
  rintro r rfl
  exact sj hF
 replace hc := hc.nilRow 88 3
 refine cLoop N (loopW (S := S6) (x := x6) ?_ N (([] : List daily_kink),0,(fun _ => 0)) _ _ ⟨none,0,hf.kp rfl,hc⟩ hx6)
 clear hF hf hc
 rintro ⟨kinks,x,x_1⟩ st6 a w KB6 ⟨p_1,c_1,hf,hc⟩ hF hfin6 hK6
 unfold daily_nets_b6 at hF
 refine zS fun K h => sp 1 hf rfl fun a hf => zT h ?_
 refine wp_seq_k fun K9 h9 => zI hf rfl hF ?_ ?_ <;> clear hF <;> intro hF
 ·refine wp_skip ?_
  refine h9 _ _ ?_
  refine wp_seq_k fun K10 h10 => ?_
  have hj10 : ∀ (kinks_1 : List daily_kink) (x_2 : Nat → Int) (p_2 : Option Addr) (c_2 : Nat) a w,Has 94 a [(2,pq b_1),(3,pq b_2),(4,.slice p_2 kinks_1.length c_2),(9,.slice l_p l.length l_c),(10,i6 ((l.length : Nat) : Int)),(11,i6 x)] → Ctx G (.row p_2 c_2 (kinks_1.map enc_daily_kink) 88 3::.box b_2 (catc [] 30 encI_i64 x_2 []) 54::.box b_1 (catc [] 30 encI_i64 (fun _ => 0) []) 54::Lf) w → daily_nets_j10 N x kinks_1 x_2 = some st6 → K10 a w := by
   repeat (clear hF)
   repeat (clear hc)
   repeat (clear hf)
   intro kinks_1 x_2 p_2 c_2 a w hf hc hF
   unfold daily_nets_j10 at hF
   refine h10 _ _ ?_
   refine cReg ?_
   refine sp 2 hf rfl fun a hf => cNil ?_
   exact hK6 (kinks_1,W (x + 1),x_2) _ _ (sj hF).symm ⟨p_2,c_2,hf.kp rfl,hc⟩
  refine wp_block ?_
  refine zS fun K h => sp 1 hf rfl fun a hf => ?_
  obtain ⟨e_1,he_1,hF⟩ := bnd_some hF
  obtain ⟨b_3,o,qa,qp⟩ := h_l.atm he_1
  refine zP hf rfl (pIA Try.underlying23 sz_33 rfl rfl qa) fun a hf => zE hf hc rfl (eLdN (vs := [i6 e_1.Value,i6 e_1.Weight]) ag_33 rfl rfl (cells_pc qp (n := 2) (o' := 0) rfl)) fun a w hf hc => zA hf hc zr_33 rfl fun b_4 a w hf hc => sp 1 hf rfl fun a hf => zW hf hc sz_33 u0 rfl fun w hc => zT h ?_
  refine zS fun K h => sp 1 hf rfl fun a hf => zP hf rfl (pFA fa_33_0 rfl) fun a hf => zL hf hc sc_3 m0 rfl fun a w hf hc => sp 1 hf rfl fun a hf => zP hf rfl (pFA fa_33_1 rfl) fun a hf => zL hf hc sc_3 m0 rfl fun a w hf hc => zP hf rfl (pBuildS (cells := [i6 e_1.Value,i6 x,i6 e_1.Weight]) bt_88 rfl rfl) fun a hf => stBS (rows := ([(⟨e_1.Value,x,e_1.Weight⟩ : daily_kink)] : List daily_kink).map enc_daily_kink) (vs := [(0,.agg #[i6 e_1.Value,i6 x,i6 e_1.Weight])]) hf hc rfl rfl sl_86 rfl ⟨rfl,rfl,rfl,trivial⟩ rfl rfl fun b_5 a w hf hc => ?_
  obtain ⟨un,hun,hF⟩ := bnd_some hF
  refine stApm (xs := kinks) (ys := ([(⟨e_1.Value,x,e_1.Weight⟩ : daily_kink)] : List daily_kink)) hf hc rfl rfl sl_86 rfl rfl rfl rfl rfl one_enc_daily_kink (src_row hc m0) (fun _ _ => u2) (by simpa using room_spec hun) fun p_3 c_3 a w hf hc => sp 1 hf rfl fun a hf => zT h ?_
  refine zS fun K h => sp 1 hf rfl fun a hf => ?_
  obtain ⟨r,hr,hF⟩ := bnd_some hF
  refine zC hf en_35 rfl (slices_SortStableFunc_Ldaily_kink_daily_kink_ok (kinks ++ [(⟨e_1.Value,x,e_1.Weight⟩ : daily_kink)]) (hc.pick k2) hr) ?_
  rintro _ w ⟨rfl,hl,hc⟩
  refine ⟨_,rfl,fun a hf => ?_⟩
  try rw [← hl] at hf
  try rw [← hl] at hc
  refine zT h ?_
  refine zS fun K h => sp 1 hf rfl fun a hf => zT h ?_
  refine wp_seq_k fun K15 h15 => wp_block ?_
  obtain ⟨x16,hx16,hF⟩ := bnd_some hF
  let S16 : ((List daily_kink) × Int × (Nat → Int)) → Act → World → Prop := (fun (zz : (List daily_kink) × Int × (Nat → Int)) a w => ∃ (p_4 : Option Addr) (c_4 : Nat),Has 94 a [(2,pq b_1),(3,pq b_2),(4,.slice p_4 zz.1.length c_4),(5,i6 x),(6,pq b_4),(7,i6 zz.2.1),(9,.slice l_p l.length l_c),(10,i6 ((l.length : Nat) : Int)),(11,i6 x)] ∧ Ctx G (.row p_4 c_4 (zz.1.map enc_daily_kink) 88 3::.box b_4 [i6 e_1.Value,i6 e_1.Weight] 33::.box b_2 (catc [] 30 encI_i64 zz.2.2 []) 54::.box b_1 (catc [] 30 encI_i64 (fun _ => 0) []) 54::Lf) w)
  have hr16 : ∀ (zz : (List daily_kink) × Int × (Nat → Int)) a w,x16 = .go zz → S16 zz a w → K15 a w := by
   rintro ⟨kinks_2,pushed,x_3⟩ a w rfl ⟨p_4,c_4,hf,hc⟩
   replace hF := exK_go hF
   refine h15 _ _ ?_
   refine zS fun K h => sp 2 hf rfl fun a hf => zT h ?_
   refine zI hf rfl hF ?_ ?_ <;> clear hF <;> intro hF
   ·refine cReg ?_
    refine sp 1 hf rfl fun a hf => zP hf rfl (pFA fa_33_0 rfl) fun a hf => zL hf hc sc_3 m1 rfl fun a w hf hc => sp 2 hf rfl fun a hf => zP hf rfl (pBuildS (cells := [i6 e_1.Value,i6 x,i6 pushed]) bt_88 rfl rfl) fun a hf => stBS (rows := ([(⟨e_1.Value,x,pushed⟩ : daily_kink)] : List daily_kink).map enc_daily_kink) (vs := [(0,.agg #[i6 e_1.Value,i6 x,i6 pushed])]) hf hc rfl rfl sl_86 rfl ⟨rfl,rfl,rfl,trivial⟩ rfl rfl fun b_6 a w hf hc => ?_
    obtain ⟨un_1,hun_1,hF⟩ := bnd_some hF
    refine stApm (xs := kinks_2) (ys := ([(⟨e_1.Value,x,pushed⟩ : daily_kink)] : List daily_kink)) hf hc rfl rfl sl_86 rfl rfl rfl rfl rfl one_enc_daily_kink (src_row hc m0) (fun _ _ => u1) (by simpa using room_spec hun_1) fun p_5 c_5 a w hf hc => sp 1 hf rfl fun a hf => cNil ?_
    replace hc := (hc.drop k2).drop k0
    exact hj10 (kinks_2 ++ [(⟨e_1.Value,x,pushed⟩ : daily_kink)]) x_3 p_5 c_5 _ _  (hf.kp rfl) hc hF
   ·refine wp_skip ?_
    replace hc := hc.drop k1
    exact hj10 kinks_2 x_3 p_4 c_4 _ _  (hf.kp rfl) hc hF
  have ho16 : ∀ r,x16 = .out r → r = st6 := by
   rintro r rfl
   exact sj hF
  replace hc := hc.drop k1
  refine cLoop N (loopW (S := S16) (x := x16) ?_ N (r,0,x_1) _ _ ⟨p_3,c_3,hf.kp rfl,hc⟩ hx16)
  clear hF hf hc
  rintro ⟨kinks_2,pushed,x_3⟩ st16 a w KB16 ⟨p_4,c_4,hf,hc⟩ hF hfin16 hK16
  unfold daily_nets_b16 at hF
  refine wp_seq_k fun K18 h18 => wp_seq_k fun K19 h19 => ?_
  obtain ⟨t_1,ht_1,hF⟩ := bnd_some hF
  refine cQ hc follows_mx (by kernel_rfl) ?_
  refine qE hf rfl rfl rfl (Pu.ev (pM rfl)) fun a hf => qE hf rfl rfl rfl (Pu.ev (pFA fa_33_1 rfl)) fun a hf => qE hf rfl rfl rfl (eLd1 sc_3 rfl (cell_box m1 rfl)) fun a hf => qE hf rfl rfl rfl (Pu.ev (pLt rfl rfl)) fun a hf => qE hf rfl rfl rfl (Pu.ev (pM rfl)) fun a hf => qCut 8 (fun a => Has 94 a [(2,pq b_1),(3,pq b_2),(4,.slice p_4 kinks_2.length c_4),(5,i6 x),(6,pq b_4),(7,i6 pushed),(9,.slice l_p l.length l_c),(10,i6 ((l.length : Nat) : Int)),(11,i6 x),(27,i6 pushed),(28,.pointer (some ⟨b_4,1,none⟩)),(29,i6 e_1.Weight),(30,.bool (decide (pushed < e_1.Weight))),(31,.bool (decide (pushed < e_1.Weight))),(39,.bool t_1)]) ?_ ?_
  ·cases hb : (decide (pushed < e_1.Weight))
   ·rw [hb] at hf
    have hF := condF hb ht_1
    obtain rfl := sj hF
    refine qS hf rfl rfl rfl fun a hf => qS hf rfl rfl rfl fun a hf => qS hf rfl rfl rfl fun a hf => qS hf rfl rfl rfl fun a hf => qS hf rfl rfl rfl fun a hf => qS hf rfl rfl rfl fun a hf => qS hf rfl rfl rfl fun a hf => qE hf rfl rfl rfl (Pu.ev (pPf rfl rfl)) fun a hf => qNil (hf.kp rfl)
   ·rw [hb] at hf
    have hF := condT hb ht_1
    obtain ⟨e_2,he_2,hF⟩ := bnd_some hF
    obtain ⟨g,rfl,qa_1,qr⟩ := row_atm hc m0 he_2
    refine qE hf rfl rfl rfl (Pu.ev (pM rfl)) fun a hf => qE hf rfl rfl rfl (Pu.ev (pIA Try.underlying86 sz_88 rfl rfl qa_1)) fun a hf => qE hf rfl rfl rfl (Pu.ev (pFA fa_88_0 rfl)) fun a hf => qE hf rfl rfl rfl (eLd1 sc_3 rfl (cell_row (sz := 3) (i := (0 : Int).toNat) (j := 0) m0 qr rfl)) fun a hf => qE hf rfl rfl rfl (Pu.ev (pFA fa_33_0 rfl)) fun a hf => qE hf rfl rfl rfl (eLd1 sc_3 rfl (cell_box m1 rfl)) fun a hf => qE hf rfl rfl rfl (Pu.ev (pGt rfl rfl)) fun a hf => qE hf rfl rfl rfl (Pu.ev (pPt rfl rfl)) fun a hf => ?_
    obtain rfl := sj hF
    exact qNil (hf.kp rfl)
  intro a hf
  intro w hc
  refine h19 _ _ ?_
  refine zI hf rfl hF ?_ ?_ <;> clear hF <;> intro hF
  ·refine wp_skip ?_
   refine h18 _ _ ?_
   refine wp_thenK fun K20 h20 => wp_block ?_
   refine wp_seq_k fun K21 h21 => ?_
   obtain ⟨e_3,he_3,hF⟩ := bnd_some hF
   obtain ⟨g_1,rfl,qa_2,qr_1⟩ := row_atm hc m0 he_3
   refine cQ hc follows_mx (by kernel_rfl) ?_
   refine qE hf rfl rfl rfl (Pu.ev (pFA fa_33_1 rfl)) fun a hf => qE hf rfl rfl rfl (eLd1 sc_3 rfl (cell_box m1 rfl)) fun a hf => qE hf rfl rfl rfl (Pu.ev (pM rfl)) fun a hf => qE hf rfl rfl rfl (Pu.ev (pSub rfl rfl)) fun a hf => qE hf rfl rfl rfl (Pu.ev (pM rfl)) fun a hf => qE hf rfl rfl rfl (Pu.ev (pIA Try.underlying86 sz_88 rfl rfl qa_2)) fun a hf => qE hf rfl rfl rfl (Pu.ev (pFA fa_88_2 rfl)) fun a hf => qE hf rfl rfl rfl (eLd1 sc_3 rfl (cell_row (sz := 3) (i := (0 : Int).toNat) (j := 2) m0 qr_1 rfl)) fun a hf => qE hf rfl rfl rfl (Pu.ev (pMin2 rfl rfl)) fun a hf => qE hf rfl rfl rfl (Pu.ev (pA rfl)) fun a hf => ?_
   intro w hc
   refine h21 _ _ ?_
   refine zS fun K h => sp 1 hf rfl fun a hf => ?_
   obtain ⟨e_4,he_4,hF⟩ := bnd_some hF
   obtain ⟨qa_3,qr_2⟩ := row_atk hc m0 he_4
   refine zP hf rfl (pIA Try.underlying86 sz_88 rfl rfl qa_3) fun a hf => zP hf rfl (pFA fa_88_1 rfl) fun a hf => zE hf hc rfl (eLd1 sc_3 rfl (cell_row (sz := 3) (i := (0 : Int).toNat) (j := 1) m0 qr_2 rfl)) fun a w hf hc => ?_
   obtain ⟨un_2,hun_2,hF⟩ := bnd_some hF
   refine zP hf rfl (pIAA Try.underlying54 sz_3 rfl rfl (inR_spec hun_2).1 (inR_spec hun_2).2) fun a hf => zE hf hc rfl (eLd1 sc_3 rfl (cell_arr (j := 0) m2 (fun x => (one_encI_i64 x).1) rfl hun_2 rfl)) fun a w hf hc => sp 2 hf rfl fun a hf => ?_
   obtain ⟨un_3,hun_3,hF⟩ := bnd_some hF
   refine zP hf rfl (pIAA Try.underlying54 sz_3 rfl rfl (inR_spec hun_3).1 (inR_spec hun_3).2) fun a hf => stAr (vs := [i6 (W ((x_3 e_4.reading.toNat) + (min (W (e_1.Weight - pushed)) e_3.weight)))]) (o' := 0) (z := W ((x_3 e_4.reading.toNat) + (min (W (e_1.Weight - pushed)) e_3.weight))) hf hc rfl rfl rfl rfl sz_3 rfl (fun x => (one_encI_i64 x).1) rfl hun_3 rfl rfl u2 fun w hc => zT h ?_
   refine zS fun K h => sp 1 hf rfl fun a hf => ?_
   obtain ⟨un_4,hun_4,hF⟩ := bnd_some hF
   refine zP hf rfl (pIAA Try.underlying54 sz_3 rfl rfl (inR_spec hun_4).1 (inR_spec hun_4).2) fun a hf => zE hf hc rfl (eLd1 sc_3 rfl (cell_arr (j := 0) m2 (fun x => (one_encI_i64 x).1) rfl hun_4 rfl)) fun a w hf hc => sp 2 hf rfl fun a hf => ?_
   obtain ⟨un_5,hun_5,hF⟩ := bnd_some hF
   refine zP hf rfl (pIAA Try.underlying54 sz_3 rfl rfl (inR_spec hun_5).1 (inR_spec hun_5).2) fun a hf => stAr (vs := [i6 (W (((setF x_3 e_4.reading.toNat (W ((x_3 e_4.reading.toNat) + (min (W (e_1.Weight - pushed)) e_3.weight)))) x.toNat) - (min (W (e_1.Weight - pushed)) e_3.weight)))]) (o' := 0) (z := W (((setF x_3 e_4.reading.toNat (W ((x_3 e_4.reading.toNat) + (min (W (e_1.Weight - pushed)) e_3.weight)))) x.toNat) - (min (W (e_1.Weight - pushed)) e_3.weight))) hf hc rfl rfl rfl rfl sz_3 rfl (fun x => (one_encI_i64 x).1) rfl hun_5 rfl rfl u2 fun w hc => zT h ?_
   refine zS fun K h => sp 4 hf rfl fun a hf => zT h ?_
   refine zS fun K h => sp 1 hf rfl fun a hf => ?_
   obtain ⟨e_5,he_5,hF⟩ := bnd_some hF
   obtain ⟨qa_4,qr_3⟩ := row_atk hc m0 he_5
   refine zP hf rfl (pIA Try.underlying86 sz_88 rfl rfl qa_4) fun a hf => zP hf rfl (pFA fa_88_2 rfl) fun a hf => zE hf hc rfl (eLd1 sc_3 rfl (cell_row (sz := 3) (i := (0 : Int).toNat) (j := 2) m0 qr_3 rfl)) fun a w hf hc => sp 2 hf rfl fun a hf => ?_
   obtain ⟨e_6,he_6,hF⟩ := bnd_some hF
   obtain ⟨qa_5,qr_4⟩ := row_atk hc m0 he_6
   refine zP hf rfl (pIA Try.underlying86 sz_88 rfl rfl qa_5) fun a hf => zP hf rfl (pFA fa_88_2 rfl) fun a hf => stRw (sz := 3) (vs := [i6 (W (e_5.weight - (min (W (e_1.Weight - pushed)) e_3.weight)))]) (o' := 2) (z := (⟨e_6.value,e_6.reading,W (e_5.weight - (min (W (e_1.Weight - pushed)) e_3.weight))⟩ : daily_kink)) (xs := kinks_2) hf hc rfl rfl rfl rfl sz_3 rfl (fun x => (one_enc_daily_kink x).1) (getI_lt he_6) (fun e' he' => by cases (he'.symm.trans (getI_spec he_6).2); rfl) rfl u0 fun w hc => zT h ?_
   refine zS fun K h => sp 1 hf rfl fun a hf => ?_
   obtain ⟨e_7,he_7,hF⟩ := bnd_some hF
   obtain ⟨qa_6,qr_5⟩ := row_atk hc m0 he_7
   refine zP hf rfl (pIA Try.underlying86 sz_88 rfl rfl (At.len qa_6 (by simp only [List.length_set]))) fun a hf => zP hf rfl (pFA fa_88_2 rfl) fun a hf => zE hf hc rfl (eLd1 sc_3 rfl (cell_row (sz := 3) (i := (0 : Int).toNat) (j := 2) m0 qr_5 rfl)) fun a w hf hc => sp 1 hf rfl fun a hf => zT h ?_
   refine zI hf rfl hF ?_ ?_ <;> clear hF <;> intro hF
   ·exact noneO hF
   ·refine wp_skip ?_
    refine h20 _ _ ?_
    replace hf := hf.castAt 4 (v' := .slice (some ⟨g_1,0,none⟩) ((kinks_2.set (0 : Int).toNat (⟨e_6.value,e_6.reading,W (e_5.weight - (min (W (e_1.Weight - pushed)) e_3.weight))⟩ : daily_kink)).length) c_4) rfl (congrArg (fun k => Value.slice (some ⟨g_1,0,none⟩) k c_4) (by simp))
    exact hK16 ((kinks_2.set (0 : Int).toNat (⟨e_6.value,e_6.reading,W (e_5.weight - (min (W (e_1.Weight - pushed)) e_3.weight))⟩ : daily_kink)),W (pushed + (min (W (e_1.Weight - pushed)) e_3.weight)),(setF (setF x_3 e_4.reading.toNat (W ((x_3 e_4.reading.toNat) + (min (W (e_1.Weight - pushed)) e_3.weight)))) x.toNat (W (((setF x_3 e_4.reading.toNat (W ((x_3 e_4.reading.toNat) + (min (W (e_1.Weight - pushed)) e_3.weight)))) x.toNat) - (min (W (e_1.Weight - pushed)) e_3.weight))))) _ _ (sj hF).symm ⟨(some ⟨g_1,0,none⟩),c_4,hf.kp rfl,hc⟩
  ·refine wp_exit ?_
   refine xThen ?_
   refine xThen ?_
   have he := sj hF
   rw [← he] at hfin16
   refine cHit ?_
   exact hr16 _ _ _ hfin16 ⟨p_4,c_4,hf.kp rfl,hc⟩
 ·refine wp_exit ?_
  refine xThen ?_
  refine xThen ?_
  have he := sj hF
  rw [← he] at hfin6
  refine cHit ?_
  exact hr6 _ _ _ hfin6 ⟨p_1,c_1,hf.kp rfl,hc⟩

def daily_Falls_j23 (N : Nat) (a_1 : Int) (out_2 : List daily_Fall) (x_3 : Nat → Int) (mp_3 : Int → Option Int) : Option (Step ((List daily_Fall) × Int × (Nat → Int) × (Int → Option Int)) (Step ((List daily_Fall) × Int × (Nat → Int) × (Int → Option Int)) ((List daily_Fall) × Int))) :=
 some (.cont (out_2,W (a_1 + 1),x_3,mp_3))
def daily_Falls_b20 (N : Nat) (x : Int) (out_1 : List daily_Fall) (a_1 : Int) (x_2 : Nat → Int) (mp_2 : Int → Option Int) : Option (Step ((List daily_Fall) × Int × (Nat → Int) × (Int → Option Int)) (Step ((List daily_Fall) × Int × (Nat → Int) × (Int → Option Int)) ((List daily_Fall) × Int))) :=
 Option.bind (cond (decide (a_1 < x)) (Option.bind (inR x 30) fun un =>
 some (decide ((x_2 x.toNat) < 0))) (some false)) fun t_1 =>
 cond t_1
 (Option.bind (inR x 30) fun un_1 =>
 cond ((min ((mp_2 a_1).getD 0) (W (0 - (x_2 x.toNat)))) == 0)
 (daily_Falls_j23 N a_1 out_1 x_2 mp_2)
 (Option.bind (room ((out_1 ++ [(⟨a_1,x,min ((mp_2 a_1).getD 0) (W (0 - (x_2 x.toNat)))⟩ : daily_Fall)])).length) fun un_2 =>
 Option.bind (inR x 30) fun un_3 =>
 Option.bind (inR x 30) fun un_4 =>
 cond ((((setM mp_2 a_1 (W (((mp_2 a_1).getD 0) - (min ((mp_2 a_1).getD 0) (W (0 - (x_2 x.toNat))))))) a_1).getD 0) == 0)
 (none)
 (daily_Falls_j23 N a_1 (out_1 ++ [(⟨a_1,x,min ((mp_2 a_1).getD 0) (W (0 - (x_2 x.toNat)))⟩ : daily_Fall)]) (setF x_2 x.toNat (W ((x_2 x.toNat) + (min ((mp_2 a_1).getD 0) (W (0 - (x_2 x.toNat))))))) (setM mp_2 a_1 (W (((mp_2 a_1).getD 0) - (min ((mp_2 a_1).getD 0) (W (0 - (x_2 x.toNat))))))))))
 (some (.brk (out_1,a_1,x_2,mp_2)))
def daily_Falls_j17 (N : Nat) (out : List daily_Fall) (x : Int) (x_1 : Nat → Int) (mp_1 : Int → Option Int) : Option (Step ((List daily_Fall) × Int × (Nat → Int) × (Int → Option Int)) ((List daily_Fall) × Int)) :=
 Option.bind (loopO (fun s20 => daily_Falls_b20 N x s20.1 s20.2.1 s20.2.2.1 s20.2.2.2) N (out,0,x_1,mp_1)) fun x20 =>
 exK x20 (fun s20 => some (.cont (s20.1,W (x + 1),s20.2.2.1,s20.2.2.2))) some
def daily_Falls_b11 (N : Nat) (l : List daily_Reading) (out : List daily_Fall) (x : Int) (x_1 : Nat → Int) (mp : Int → Option Int) : Option (Step ((List daily_Fall) × Int × (Nat → Int) × (Int → Option Int)) ((List daily_Fall) × Int)) :=
 cond (decide (x < ((l.length : Nat) : Int)))
 (Option.bind (inR x 30) fun un_5 =>
 cond (decide (0 < (x_1 x.toNat)))
 (Option.bind (inR x 30) fun un_6 =>
 daily_Falls_j17 N out x x_1 (setM mp x (x_1 x.toNat)))
 (daily_Falls_j17 N out x x_1 mp))
 (some (.brk (out,x,x_1,mp)))
def daily_Falls (N : Nat) (l : List daily_Reading) : Option ((List daily_Fall) × Int) :=
 Option.bind (daily_CheckReadings N l) fun r =>
 cond (r != 0)
 (some (([] : List daily_Fall),r))
 (Option.bind (daily_nets N l) fun r_1 =>
 Option.bind (loopO (fun s11 => daily_Falls_b11 N l s11.1 s11.2.1 s11.2.2.1 s11.2.2.2) N (([] : List daily_Fall),0,r_1,(fun _ => none : Int → Option Int))) fun x11 =>
 exK x11 (fun s11 => some (s11.1,0)) some)
theorem daily_Falls_ok {N : Nat} {G : Pers} {Lf : List Ent} {w : World} (l : List daily_Reading) {l_p : Option Addr} {l_c : Nat} (h_l : Rd G 2 l_p l_c (l.map enc_daily_Reading)) (hc : Ctx G (Lf) w) {res : (List daily_Fall) × Int} (hF : daily_Falls N l = some res) : Calls Try.prog 8 #[.slice l_p l.length l_c] w (fun e w => ∃ (p'1 : Option Addr) (c'1 : Nat),e = .returned (.tuple #[.slice p'1 res.1.length c'1,i6 res.2]) ∧ Ctx G (.row p'1 c'1 (res.1.map enc_daily_Fall) 58 3::Lf) w) := by
 unfold daily_Falls at hF
 refine fnIn Try.func8 rfl Try.ntmps8 rfl fun a hf => zS fun K h => sp 2 hf rfl fun a hf => zT h ?_
 refine wp_seq_k fun K2 h2 => zS fun K h => sp 1 hf rfl fun a hf => ?_
 obtain ⟨r,hr,hF⟩ := bnd_some hF
 refine zQ (v := i6 r) hf hc en_15 rfl (fun w hc => daily_CheckReadings_ok l h_l hc hr) fun a w hf hc => sp 1 hf rfl fun a hf => zT h ?_
 refine zS fun K h => sp 2 hf rfl fun a hf => zT h ?_
 refine zI hf rfl hF ?_ ?_ <;> clear hF <;> intro hF
 ·refine zS fun K h => sp 3 hf rfl fun a hf => zT h ?_
  refine wp_ret ?_
  refine xThenR ?_
  obtain rfl := sj hF
  replace hc := hc.nilRow 58 3
  exact zO2 Try.results8 hf rfl rfl ⟨none,0,rfl,hc⟩
 ·refine wp_skip ?_
  refine h2 _ _ ?_
  refine zS fun K h => sp 1 hf rfl fun a hf => ?_
  obtain ⟨r_1,hr_1,hF⟩ := bnd_some hF
  refine zQ (v := .agg (catc [] 30 encI_i64 r_1 []).toArray) hf hc en_19 rfl (fun w hc => daily_nets_ok l h_l hc hr_1) fun a w hf hc => stAl (cs := (catc [] 30 encI_i64 (fun _ => 0) [])) hf hc rfl rfl zr_54 rfl fun b_1 a w hf hc => stStA (enc := encA_54) (f := (fun _ => 0)) (z := r_1) hf hc rfl rfl rfl one_encA_54 sz_54 u0 fun w hc => zT h ?_
  refine zS fun K h => stMM hf hc rfl rfl fun mb a w hf hc => ?_
  replace hc : Ctx _ (.im mb (fun j => ((fun _ => none : Int → Option Int) j).map (Value.int .i64)) none::_) w := hc
  refine sp 1 hf rfl fun a hf => zT h ?_
  refine zS fun K h => sp 1 hf rfl fun a hf => zT h ?_
  refine wp_seq_k fun K9 h9 => zS fun K h => sp 1 hf rfl fun a hf => zP hf rfl (pLenS Try.underlying23 rfl) fun a hf => sp 1 hf rfl fun a hf => zT h ?_
  refine wp_block ?_
  obtain ⟨x11,hx11,hF⟩ := bnd_some hF
  let S11 : ((List daily_Fall) × Int × (Nat → Int) × (Int → Option Int)) → Act → World → Prop := (fun (zz : (List daily_Fall) × Int × (Nat → Int) × (Int → Option Int)) a w => ∃ (p_1 : Option Addr) (c_1 : Nat),Has 80 a [(5,pq b_1),(6,.map (some mb)),(7,.slice p_1 zz.1.length c_1),(20,i6 ((l.length : Nat) : Int)),(21,i6 zz.2.1)] ∧ Ctx G (.row p_1 c_1 (zz.1.map enc_daily_Fall) 58 3::.im mb (fun j => (zz.2.2.2 j).map (Value.int .i64)) none::.box b_1 (catc [] 30 encI_i64 zz.2.2.1 []) 54::Lf) w)
  have hr11 : ∀ (zz : (List daily_Fall) × Int × (Nat → Int) × (Int → Option Int)) a w,x11 = .go zz → S11 zz a w → K9 a w := by
   rintro ⟨out,x,x_1,mp⟩ a w rfl ⟨p_1,c_1,hf,hc⟩
   replace hF := exK_go hF
   refine h9 _ _ ?_
   refine zS fun K h => sp 3 hf rfl fun a hf => zT h ?_
   refine wp_ret ?_
   obtain rfl := sj hF
   replace hc := (hc.drop k2).drop k1
   exact zO2 Try.results8 hf rfl rfl ⟨p_1,c_1,rfl,hc⟩
  have ho11 : ∀ r,x11 = .out r → r = res := by
   rintro r rfl
   exact sj hF
  replace hc := hc.nilRow 58 3
  refine cLoop N (loopW (S := S11) (x := x11) ?_ N (([] : List daily_Fall),0,r_1,(fun _ => none : Int → Option Int)) _ _ ⟨none,0,hf.kp rfl,hc⟩ hx11)
  clear hF hf hc
  rintro ⟨out,x,x_1,mp⟩ st11 a w KB11 ⟨p_1,c_1,hf,hc⟩ hF hfin11 hK11
  unfold daily_Falls_b11 at hF
  refine zS fun K h => sp 1 hf rfl fun a hf => zT h ?_
  refine wp_seq_k fun K14 h14 => zI hf rfl hF ?_ ?_ <;> clear hF <;> intro hF
  ·refine wp_skip ?_
   refine h14 _ _ ?_
   refine wp_seq_k fun K15 h15 => wp_block ?_
   refine zS fun K h => sp 2 hf rfl fun a hf => zT h ?_
   refine wp_seq_k fun K17 h17 => ?_
   have hj17 : ∀ (mp_1 : Int → Option Int) a w,Has 80 a [(5,pq b_1),(6,.map (some mb)),(7,.slice p_1 out.length c_1),(8,i6 x),(20,i6 ((l.length : Nat) : Int)),(21,i6 x)] → Ctx G (.row p_1 c_1 (out.map enc_daily_Fall) 58 3::.im mb (fun j => (mp_1 j).map (Value.int .i64)) none::.box b_1 (catc [] 30 encI_i64 x_1 []) 54::Lf) w → daily_Falls_j17 N out x x_1 mp_1 = some st11 → K17 a w := by
    repeat (clear hF)
    repeat (clear hc)
    repeat (clear hf)
    intro mp_1 a w hf hc hF
    unfold daily_Falls_j17 at hF
    refine h17 _ _ ?_
    refine zS fun K h => sp 1 hf rfl fun a hf => zT h ?_
    refine wp_thenK fun K19 h19 => wp_block ?_
    obtain ⟨x20,hx20,hF⟩ := bnd_some hF
    let S20 : ((List daily_Fall) × Int × (Nat → Int) × (Int → Option Int)) → Act → World → Prop := (fun (zz : (List daily_Fall) × Int × (Nat → Int) × (Int → Option Int)) a w => ∃ (p_2 : Option Addr) (c_2 : Nat),Has 80 a [(5,pq b_1),(6,.map (some mb)),(7,.slice p_2 zz.1.length c_2),(8,i6 x),(9,i6 zz.2.1),(20,i6 ((l.length : Nat) : Int)),(21,i6 x)] ∧ Ctx G (.row p_2 c_2 (zz.1.map enc_daily_Fall) 58 3::.im mb (fun j => (zz.2.2.2 j).map (Value.int .i64)) none::.box b_1 (catc [] 30 encI_i64 zz.2.2.1 []) 54::Lf) w)
    have hr20 : ∀ (zz : (List daily_Fall) × Int × (Nat → Int) × (Int → Option Int)) a w,x20 = .go zz → S20 zz a w → K19 a w := by
     rintro ⟨out_1,a_1,x_2,mp_2⟩ a w rfl ⟨p_2,c_2,hf,hc⟩
     replace hF := exK_go hF
     refine h19 _ _ ?_
     refine h15 _ _ ?_
     refine cReg ?_
     refine sp 2 hf rfl fun a hf => cNil ?_
     exact hK11 (out_1,W (x + 1),x_2,mp_2) _ _ (sj hF).symm ⟨p_2,c_2,hf.kp rfl,hc⟩
    have ho20 : ∀ r,x20 = .out r → r = st11 := by
     rintro r rfl
     exact sj hF
    refine cLoop N (loopW (S := S20) (x := x20) ?_ N (out,0,x_1,mp_1) _ _ ⟨p_1,c_1,hf.kp rfl,hc⟩ hx20)
    clear hF hf hc
    rintro ⟨out_1,a_1,x_2,mp_2⟩ st20 a w KB20 ⟨p_2,c_2,hf,hc⟩ hF hfin20 hK20
    unfold daily_Falls_b20 at hF
    refine wp_seq_k fun K21 h21 => zS fun K h => sp 4 hf rfl fun a hf => ?_
    obtain ⟨t_1,ht_1,hF⟩ := bnd_some hF
    refine stCc 5 (fun a => Has 80 a [(5,pq b_1),(6,.map (some mb)),(7,.slice p_2 out_1.length c_2),(8,i6 x),(9,i6 a_1),(20,i6 ((l.length : Nat) : Int)),(21,i6 x),(33,i6 a_1),(34,i6 x),(35,.bool (decide (a_1 < x))),(36,.bool (decide (a_1 < x))),(41,.bool t_1)]) hc ?_ ?_
    ·cases hb : (decide (a_1 < x))
     ·rw [hb] at hf
      have hF := condF hb ht_1
      obtain rfl := sj hF
      refine stS hf rfl rfl rfl fun a hf => stS hf rfl rfl rfl fun a hf => stS hf rfl rfl rfl fun a hf => stS hf rfl rfl rfl fun a hf => sp 1 hf rfl fun a hf => cNil ⟨hf.kp rfl,hc⟩
     ·rw [hb] at hf
      have hF := condT hb ht_1
      refine sp 1 hf rfl fun a hf => ?_
      obtain ⟨un,hun,hF⟩ := bnd_some hF
      refine zP hf rfl (pIAA Try.underlying54 sz_3 rfl rfl (inR_spec hun).1 (inR_spec hun).2) fun a hf => zE hf hc rfl (eLd1 sc_3 rfl (cell_arr (j := 0) m2 (fun x => (one_encI_i64 x).1) rfl hun rfl)) fun a w hf hc => sp 2 hf rfl fun a hf => ?_
      obtain rfl := sj hF
      exact cNil ⟨hf.kp rfl,hc⟩
    intro a w ⟨hf,hc⟩
    refine zT h ?_
    refine zI hf rfl hF ?_ ?_ <;> clear hF <;> intro hF
    ·refine wp_skip ?_
     refine h21 _ _ ?_
     refine wp_seq_k fun K23 h23 => ?_
     have hj23 : ∀ (out_2 : List daily_Fall) (x_3 : Nat → Int) (mp_3 : Int → Option Int) (p_3 : Option Addr) (c_3 : Nat) a w,Has 80 a [(5,pq b_1),(6,.map (some mb)),(7,.slice p_3 out_2.length c_3),(8,i6 x),(9,i6 a_1),(20,i6 ((l.length : Nat) : Int)),(21,i6 x)] → Ctx G (.row p_3 c_3 (out_2.map enc_daily_Fall) 58 3::.im mb (fun j => (mp_3 j).map (Value.int .i64)) none::.box b_1 (catc [] 30 encI_i64 x_3 []) 54::Lf) w → daily_Falls_j23 N a_1 out_2 x_3 mp_3 = some st20 → K23 a w := by
      repeat (clear hF)
      repeat (clear hc)
      repeat (clear hf)
      intro out_2 x_3 mp_3 p_3 c_3 a w hf hc hF
      unfold daily_Falls_j23 at hF
      refine h23 _ _ ?_
      refine cReg ?_
      refine sp 3 hf rfl fun a hf => cNil ?_
      exact hK20 (out_2,W (a_1 + 1),x_3,mp_3) _ _ (sj hF).symm ⟨p_3,c_3,hf.kp rfl,hc⟩
     refine wp_block ?_
     refine wp_seq_k fun K24 h24 => ?_
     obtain ⟨un_1,hun_1,hF⟩ := bnd_some hF
     refine cQ hc follows_mx (by kernel_rfl) ?_
     refine qE hf rfl rfl rfl (Pu.ev (pM rfl)) fun a hf => qE hf rfl rfl rfl (Pu.ev (pM rfl)) fun a hf => qE hf rfl rfl rfl (eLk (enc := (Value.int .i64)) (z0 := 0) (m := mp_2) m1 Try.underlying56 Try.underlying3 zr_3 rfl rfl) fun a hf => qE hf rfl rfl rfl (Pu.ev (pM rfl)) fun a hf => qE hf rfl rfl rfl (Pu.ev (pIAA Try.underlying54 sz_3 rfl rfl (inR_spec hun_1).1 (inR_spec hun_1).2)) fun a hf => qE hf rfl rfl rfl (eLd1 sc_3 rfl (cell_arr (j := 0) m2 (fun x => (one_encI_i64 x).1) rfl hun_1 rfl)) fun a hf => qE hf rfl rfl rfl (Pu.ev (pNeg rfl)) fun a hf => qE hf rfl rfl rfl (Pu.ev (pMin2 rfl rfl)) fun a hf => qE hf rfl rfl rfl (Pu.ev (pA rfl)) fun a hf => ?_
     intro w hc
     refine h24 _ _ ?_
     refine wp_seq_k fun K25 h25 => zS fun K h => sp 2 hf rfl fun a hf => zT h ?_
     refine zI hf rfl hF ?_ ?_ <;> clear hF <;> intro hF
     ·refine wp_exit ?_
      refine xThen ?_
      refine cHit ?_
      exact hj23 out_1 x_2 mp_2 p_2 c_2 _ _  (hf.kp rfl) hc hF
     ·refine wp_skip ?_
      refine h25 _ _ ?_
      refine zS fun K h => sp 4 hf rfl fun a hf => zP hf rfl (pBuildS (cells := [i6 a_1,i6 x,i6 (min ((mp_2 a_1).getD 0) (W (0 - (x_2 x.toNat))))]) bt_58 rfl rfl) fun a hf => stBS (rows := ([(⟨a_1,x,min ((mp_2 a_1).getD 0) (W (0 - (x_2 x.toNat)))⟩ : daily_Fall)] : List daily_Fall).map enc_daily_Fall) (vs := [(0,.agg #[i6 a_1,i6 x,i6 (min ((mp_2 a_1).getD 0) (W (0 - (x_2 x.toNat))))])]) hf hc rfl rfl sl_34 rfl ⟨rfl,rfl,rfl,trivial⟩ rfl rfl fun b_2 a w hf hc => ?_
      obtain ⟨un_2,hun_2,hF⟩ := bnd_some hF
      refine stApm (xs := out_1) (ys := ([(⟨a_1,x,min ((mp_2 a_1).getD 0) (W (0 - (x_2 x.toNat)))⟩ : daily_Fall)] : List daily_Fall)) hf hc rfl rfl sl_34 rfl rfl rfl rfl rfl one_enc_daily_Fall (src_row hc m0) (fun _ _ => u1) (by simpa using room_spec hun_2) fun p_4 c_4 a w hf hc => sp 1 hf rfl fun a hf => zT h ?_
      refine zS fun K h => sp 1 hf rfl fun a hf => ?_
      obtain ⟨un_3,hun_3,hF⟩ := bnd_some hF
      refine zP hf rfl (pIAA Try.underlying54 sz_3 rfl rfl (inR_spec hun_3).1 (inR_spec hun_3).2) fun a hf => zE hf hc rfl (eLd1 sc_3 rfl (cell_arr (j := 0) m3 (fun x => (one_encI_i64 x).1) rfl hun_3 rfl)) fun a w hf hc => sp 2 hf rfl fun a hf => ?_
      obtain ⟨un_4,hun_4,hF⟩ := bnd_some hF
      refine zP hf rfl (pIAA Try.underlying54 sz_3 rfl rfl (inR_spec hun_4).1 (inR_spec hun_4).2) fun a hf => stAr (vs := [i6 (W ((x_2 x.toNat) + (min ((mp_2 a_1).getD 0) (W (0 - (x_2 x.toNat))))))]) (o' := 0) (z := W ((x_2 x.toNat) + (min ((mp_2 a_1).getD 0) (W (0 - (x_2 x.toNat)))))) hf hc rfl rfl rfl rfl sz_3 rfl (fun x => (one_encI_i64 x).1) rfl hun_4 rfl rfl u3 fun w hc => zT h ?_
      refine zS fun K h => sp 2 hf rfl fun a hf => zE hf hc rfl (eLk (enc := (Value.int .i64)) (z0 := 0) (m := mp_2) m2 Try.underlying56 Try.underlying3 zr_3 rfl rfl) fun a w hf hc => sp 2 hf rfl fun a hf => stMU (enc := (Value.int .i64)) (m := mp_2) (v := W (((mp_2 a_1).getD 0) - (min ((mp_2 a_1).getD 0) (W (0 - (x_2 x.toNat)))))) hf hc rfl Try.underlying56 Try.underlying3 rfl rfl rfl u2 fun w hc => zT h ?_
      refine zS fun K h => sp 2 hf rfl fun a hf => zE hf hc rfl (eLk (enc := (Value.int .i64)) (z0 := 0) (m := (setM mp_2 a_1 (W (((mp_2 a_1).getD 0) - (min ((mp_2 a_1).getD 0) (W (0 - (x_2 x.toNat)))))))) m2 Try.underlying56 Try.underlying3 zr_3 rfl rfl) fun a w hf hc => sp 1 hf rfl fun a hf => zT h ?_
      refine zI hf rfl hF ?_ ?_ <;> clear hF <;> intro hF
      ·exact noneO hF
      ·refine wp_skip ?_
       replace hc := hc.drop k0
       exact hj23 (out_1 ++ [(⟨a_1,x,min ((mp_2 a_1).getD 0) (W (0 - (x_2 x.toNat)))⟩ : daily_Fall)]) (setF x_2 x.toNat (W ((x_2 x.toNat) + (min ((mp_2 a_1).getD 0) (W (0 - (x_2 x.toNat))))))) (setM mp_2 a_1 (W (((mp_2 a_1).getD 0) - (min ((mp_2 a_1).getD 0) (W (0 - (x_2 x.toNat))))))) p_4 c_4 _ _  (hf.kp rfl) hc hF
    ·refine wp_exit ?_
     refine xThen ?_
     refine xThen ?_
     have he := sj hF
     rw [← he] at hfin20
     refine cHit ?_
     exact hr20 _ _ _ hfin20 ⟨p_2,c_2,hf.kp rfl,hc⟩
   refine zS fun K h => sp 1 hf rfl fun a hf => ?_
   obtain ⟨un_5,hun_5,hF⟩ := bnd_some hF
   refine zP hf rfl (pIAA Try.underlying54 sz_3 rfl rfl (inR_spec hun_5).1 (inR_spec hun_5).2) fun a hf => zE hf hc rfl (eLd1 sc_3 rfl (cell_arr (j := 0) m2 (fun x => (one_encI_i64 x).1) rfl hun_5 rfl)) fun a w hf hc => sp 1 hf rfl fun a hf => zT h ?_
   refine zI hf rfl hF ?_ ?_ <;> clear hF <;> intro hF
   ·refine cReg ?_
    refine sp 3 hf rfl fun a hf => ?_
    obtain ⟨un_6,hun_6,hF⟩ := bnd_some hF
    refine zP hf rfl (pIAA Try.underlying54 sz_3 rfl rfl (inR_spec hun_6).1 (inR_spec hun_6).2) fun a hf => zE hf hc rfl (eLd1 sc_3 rfl (cell_arr (j := 0) m2 (fun x => (one_encI_i64 x).1) rfl hun_6 rfl)) fun a w hf hc => stMU (enc := (Value.int .i64)) (m := mp) (v := (x_1 x.toNat)) hf hc rfl Try.underlying56 Try.underlying3 rfl rfl rfl u1 fun w hc => cNil ?_
    exact hj17 (setM mp x (x_1 x.toNat)) _ _  (hf.kp rfl) hc hF
   ·refine wp_skip ?_
    exact hj17 mp _ _  (hf.kp rfl) hc hF
  ·refine wp_exit ?_
   refine xThen ?_
   refine xThen ?_
   have he := sj hF
   rw [← he] at hfin11
   refine cHit ?_
   exact hr11 _ _ _ hfin11 ⟨p_1,c_1,hf.kp rfl,hc⟩

def daily_Fall_wrong_j3 (N : Nat) (e_1 : Int) : Option (Int) :=
 some e_1
def daily_Fall_wrong_j5 (N : Nat)  : Option (Int) :=
 daily_Fall_wrong_j3 N 4
def daily_Fall_wrong_j7 (N : Nat)  : Option (Int) :=
 daily_Fall_wrong_j3 N 9
def daily_Fall_wrong_j9 (N : Nat)  : Option (Int) :=
 daily_Fall_wrong_j3 N 2
def daily_Fall_wrong (N : Nat) (f_ : daily_Fall) (readings : Int) : Option (Int) :=
 cond (!(daily_in f_.A 0 (W (readings - 1))))
 (daily_Fall_wrong_j9 N)
 (cond (!(daily_in f_.B 0 (W (readings - 1))))
 (daily_Fall_wrong_j9 N)
 (cond (decide (f_.B ≤ f_.A))
 (daily_Fall_wrong_j7 N)
 (cond (!(daily_in f_.Weight 1 100))
 (daily_Fall_wrong_j5 N)
 (daily_Fall_wrong_j3 N 0))))
theorem daily_Fall_wrong_ok {N : Nat} {G : Pers} {Lf : List Ent} {w : World} (f_ : daily_Fall) (readings : Int)   (hc : Ctx G (Lf) w) {res : Int} (hF : daily_Fall_wrong N f_ readings = some res) : Calls Try.prog 20 #[.agg #[i6 f_.A,i6 f_.B,i6 f_.Weight],i6 readings] w (fun e w => e = .returned (i6 res) ∧ Ctx G (Lf) w) := by
 unfold daily_Fall_wrong at hF
 refine fnIn Try.func20 rfl Try.ntmps20 rfl fun a hf => zS fun K h => zB hf hc rfl fun b_1 a w hf hc => sp 1 hf rfl fun a hf => zT h ?_
 refine zS fun K h => sp 1 hf rfl fun a hf => zT h ?_
 refine wp_seq_k fun K3 h3 => ?_
 have hj3 : ∀ (e_1 : Int) a w,Has 32 a [(5,i6 e_1)] → Ctx G (Lf) w → daily_Fall_wrong_j3 N e_1 = some res → K3 a w := by
  repeat (clear hF)
  repeat (clear hc)
  repeat (clear hf)
  intro e_1 a w hf hc hF
  unfold daily_Fall_wrong_j3 at hF
  refine h3 _ _ ?_
  refine zS fun K h => sp 2 hf rfl fun a hf => zT h ?_
  refine wp_ret ?_
  obtain rfl := sj hF
  exact zO1 Try.results20 hf rfl ⟨rfl,hc⟩
 refine wp_block ?_
 refine wp_seq_k fun K5 h5 => ?_
 have hj5 : ∀ a w,Has 32 a [] → Ctx G (Lf) w → daily_Fall_wrong_j5 N = some res → K5 a w := by
  repeat (clear hF)
  repeat (clear hc)
  repeat (clear hf)
  intro a w hf hc hF
  unfold daily_Fall_wrong_j5 at hF
  refine h5 _ _ ?_
  refine zS fun K h => sp 1 hf rfl fun a hf => zT h ?_
  refine wp_exit ?_
  refine cHit ?_
  exact hj3 4 _ _  (hf.kp rfl) hc hF
 refine wp_block ?_
 refine wp_seq_k fun K7 h7 => ?_
 have hj7 : ∀ a w,Has 32 a [] → Ctx G (Lf) w → daily_Fall_wrong_j7 N = some res → K7 a w := by
  repeat (clear hF)
  repeat (clear hc)
  repeat (clear hf)
  intro a w hf hc hF
  unfold daily_Fall_wrong_j7 at hF
  refine h7 _ _ ?_
  refine zS fun K h => sp 1 hf rfl fun a hf => zT h ?_
  refine wp_exit ?_
  refine cMiss rfl ?_
  refine xThen ?_
  refine cHit ?_
  exact hj3 9 _ _  (hf.kp rfl) hc hF
 refine wp_block ?_
 refine wp_seq_k fun K9 h9 => ?_
 have hj9 : ∀ a w,Has 32 a [] → Ctx G (Lf) w → daily_Fall_wrong_j9 N = some res → K9 a w := by
  repeat (clear hF)
  repeat (clear hc)
  repeat (clear hf)
  intro a w hf hc hF
  unfold daily_Fall_wrong_j9 at hF
  refine h9 _ _ ?_
  refine zS fun K h => sp 1 hf rfl fun a hf => zT h ?_
  refine wp_exit ?_
  refine cMiss rfl ?_
  refine xThen ?_
  refine cMiss rfl ?_
  refine xThen ?_
  refine cHit ?_
  exact hj3 2 _ _  (hf.kp rfl) hc hF
 refine wp_block ?_
 refine wp_thenK fun K11 h11 => wp_block ?_
 refine wp_seq_k fun K12 h12 => wp_seq_k fun K13 h13 => zS fun K h => zP hf rfl (pFA fa_58_0 rfl) fun a hf => zL hf hc sc_3 m0 rfl fun a w hf hc => sp 2 hf rfl fun a hf => zQ (v := .bool (daily_in f_.A 0 (W (readings - 1)))) hf hc en_30 rfl (fun w hc => daily_in_ok f_.A 0 (W (readings - 1)) hc rfl) fun a w hf hc => sp 2 hf rfl fun a hf => zT h ?_
 refine zI hf rfl hF ?_ ?_ <;> clear hF <;> intro hF
 ·refine wp_exit ?_
  refine xThen ?_
  refine xThen ?_
  refine cHit ?_
  refine h11 _ _ ?_
  replace hc := hc.drop k0
  exact hj9  _ _  (hf.keep trivial) hc hF
 ·refine wp_skip ?_
  refine h13 _ _ ?_
  refine wp_seq_k fun K15 h15 => zS fun K h => zP hf rfl (pFA fa_58_1 rfl) fun a hf => zL hf hc sc_3 m0 rfl fun a w hf hc => sp 2 hf rfl fun a hf => zQ (v := .bool (daily_in f_.B 0 (W (readings - 1)))) hf hc en_30 rfl (fun w hc => daily_in_ok f_.B 0 (W (readings - 1)) hc rfl) fun a w hf hc => sp 2 hf rfl fun a hf => zT h ?_
  refine zI hf rfl hF ?_ ?_ <;> clear hF <;> intro hF
  ·refine wp_exit ?_
   refine xThen ?_
   refine xThen ?_
   refine cMiss rfl ?_
   refine xThen ?_
   refine cHit ?_
   replace hc := hc.drop k0
   exact hj9  _ _  (hf.keep trivial) hc hF
  ·refine wp_skip ?_
   refine h15 _ _ ?_
   refine wp_seq_k fun K17 h17 => zS fun K h => zP hf rfl (pFA fa_58_0 rfl) fun a hf => zL hf hc sc_3 m0 rfl fun a w hf hc => zP hf rfl (pFA fa_58_1 rfl) fun a hf => zL hf hc sc_3 m0 rfl fun a w hf hc => sp 2 hf rfl fun a hf => zT h ?_
   refine zI hf rfl hF ?_ ?_ <;> clear hF <;> intro hF
   ·refine wp_exit ?_
    refine xThen ?_
    refine xThen ?_
    refine cMiss rfl ?_
    refine xThen ?_
    refine cMiss rfl ?_
    refine xThen ?_
    refine cHit ?_
    replace hc := hc.drop k0
    exact hj7  _ _  (hf.keep trivial) hc hF
   ·refine wp_skip ?_
    refine h17 _ _ ?_
    refine zS fun K h => zP hf rfl (pFA fa_58_2 rfl) fun a hf => zL hf hc sc_3 m0 rfl fun a w hf hc => zQ (v := .bool (daily_in f_.Weight 1 100)) hf hc en_30 rfl (fun w hc => daily_in_ok f_.Weight 1 100 hc rfl) fun a w hf hc => sp 2 hf rfl fun a hf => zT h ?_
    refine zI hf rfl hF ?_ ?_ <;> clear hF <;> intro hF
    ·refine wp_exit ?_
     refine xThen ?_
     refine cMiss rfl ?_
     refine xThen ?_
     refine cMiss rfl ?_
     refine xThen ?_
     refine cMiss rfl ?_
     refine xThen ?_
     refine cHit ?_
     replace hc := hc.drop k0
     exact hj5  _ _  (hf.keep trivial) hc hF
    ·refine wp_skip ?_
     refine h12 _ _ ?_
     refine wp_exit ?_
     refine cMiss rfl ?_
     refine xThen ?_
     refine cMiss rfl ?_
     refine xThen ?_
     refine cMiss rfl ?_
     refine xThen ?_
     refine cMiss rfl ?_
     refine xThen ?_
     refine cHit ?_
     replace hc := hc.drop k0
     exact hj3 0 _ _  (hf.kp rfl) hc hF

def daily_Proves_b14 (N : Nat) (l : List daily_Reading) (x_1 : Nat → Int) (x_2 : Int) : Option (Step (Int) (Int × Int)) :=
 cond (decide (x_2 < ((l.length : Nat) : Int)))
 (Option.bind (getI l x_2) fun e_2 =>
 Option.bind (inR x_2 30) fun un =>
 cond (decide (e_2.Weight < (x_1 x_2.toNat)))
 (some (.ret (0,11)))
 (some (.cont (W (x_2 + 1)))))
 (some (.brk x_2))
def daily_Proves_b11 (N : Nat) (l : List daily_Reading) (falls : List daily_Fall) (out : Int) (x : Int) (x_1 : Nat → Int) : Option (Step (Int × Int × (Nat → Int)) (Int × Int)) :=
 cond (decide (x < ((falls.length : Nat) : Int)))
 (Option.bind (getI falls x) fun e_3 =>
 Option.bind (daily_Fall_wrong N e_3 ((l.length : Nat) : Int)) fun r_1 =>
 cond (r_1 != 0)
 (some (.ret (0,r_1)))
 (Option.bind (inR e_3.A 30) fun un_1 =>
 Option.bind (inR e_3.A 30) fun un_2 =>
 Option.bind (inR e_3.B 30) fun un_3 =>
 Option.bind (inR e_3.B 30) fun un_4 =>
 Option.bind (getI l e_3.A) fun e_4 =>
 Option.bind (getI l e_3.B) fun e_5 =>
 some (.cont (W (out + (W (e_3.Weight * (W (e_4.Value - e_5.Value))))),W (x + 1),(setF (setF x_1 e_3.A.toNat (W ((x_1 e_3.A.toNat) + e_3.Weight))) e_3.B.toNat (W (((setF x_1 e_3.A.toNat (W ((x_1 e_3.A.toNat) + e_3.Weight))) e_3.B.toNat) + e_3.Weight)))))))
 (some (.brk (out,x,x_1)))
def daily_Proves_j3 (N : Nat) (l : List daily_Reading) (falls : List daily_Fall) (e_1 : Int) : Option (Int × Int) :=
 cond (e_1 != 0)
 (some (0,e_1))
 (Option.bind (loopO (fun s11 => daily_Proves_b11 N l falls s11.1 s11.2.1 s11.2.2) N (0,0,(fun _ => 0))) fun x11 =>
 exK x11 (fun s11 => Option.bind (loopO (fun s14 => daily_Proves_b14 N l s11.2.2 s14) N 0) fun x14 =>
 exK x14 (fun s14 => some (s11.1,0)) some) some)
def daily_Proves (N : Nat) (l : List daily_Reading) (falls : List daily_Fall) : Option (Int × Int) :=
 Option.bind (daily_CheckReadings N l) fun r =>
 cond ((r == 0) && (decide (900 < ((falls.length : Nat) : Int))))
 (daily_Proves_j3 N l falls 3)
 (daily_Proves_j3 N l falls r)
theorem daily_Proves_ok {N : Nat} {G : Pers} {Lf : List Ent} {w : World} (l : List daily_Reading) (falls : List daily_Fall) {l_p : Option Addr} {l_c : Nat} {falls_p : Option Addr} {falls_c : Nat} (h_l : Rd G 2 l_p l_c (l.map enc_daily_Reading)) (h_falls : Rd G 3 falls_p falls_c (falls.map enc_daily_Fall)) (hc : Ctx G (Lf) w) {res : Int × Int} (hF : daily_Proves N l falls = some res) : Calls Try.prog 9 #[.slice l_p l.length l_c,.slice falls_p falls.length falls_c] w (fun e w => e = .returned (.tuple #[i6 res.1,i6 res.2]) ∧ Ctx G (Lf) w) := by
 unfold daily_Proves at hF
 refine fnIn Try.func9 rfl Try.ntmps9 rfl fun a hf => zS fun K h => sp 2 hf rfl fun a hf => zT h ?_
 refine zS fun K h => sp 1 hf rfl fun a hf => ?_
 obtain ⟨r,hr,hF⟩ := bnd_some hF
 refine zQ (v := i6 r) hf hc en_15 rfl (fun w hc => daily_CheckReadings_ok l h_l hc hr) fun a w hf hc => sp 1 hf rfl fun a hf => zT h ?_
 refine wp_seq_k fun K3 h3 => ?_
 have hj3 : ∀ (e_1 : Int) a w,Has 89 a [(0,.slice l_p l.length l_c),(1,.slice falls_p falls.length falls_c),(6,i6 e_1)] → Ctx G (Lf) w → daily_Proves_j3 N l falls e_1 = some res → K3 a w := by
  repeat (clear hF)
  repeat (clear hc)
  repeat (clear hf)
  intro e_1 a w hf hc hF
  unfold daily_Proves_j3 at hF
  refine h3 _ _ ?_
  refine wp_seq_k fun K4 h4 => zS fun K h => sp 2 hf rfl fun a hf => zT h ?_
  refine zI hf rfl hF ?_ ?_ <;> clear hF <;> intro hF
  ·refine zS fun K h => sp 3 hf rfl fun a hf => zT h ?_
   refine wp_ret ?_
   refine xThenR ?_
   obtain rfl := sj hF
   exact zO2 Try.results9 hf rfl rfl ⟨rfl,hc⟩
  ·refine wp_skip ?_
   refine h4 _ _ ?_
   refine zS fun K h => sp 1 hf rfl fun a hf => zT h ?_
   refine zS fun K h => stAl (cs := (catc [] 30 encI_i64 (fun _ => 0) [])) hf hc rfl rfl zr_54 rfl fun b_1 a w hf hc => zT h ?_
   refine wp_seq_k fun K9 h9 => zS fun K h => sp 1 hf rfl fun a hf => zP hf rfl (pLenS Try.underlying34 rfl) fun a hf => sp 1 hf rfl fun a hf => zT h ?_
   refine wp_block ?_
   obtain ⟨x11,hx11,hF⟩ := bnd_some hF
   let S11 : (Int × Int × (Nat → Int)) → Act → World → Prop := (fun (zz : Int × Int × (Nat → Int)) a w => Has 89 a [(0,.slice l_p l.length l_c),(7,i6 zz.1),(8,pq b_1),(26,.slice falls_p falls.length falls_c),(27,i6 ((falls.length : Nat) : Int)),(28,i6 zz.2.1)] ∧ Ctx G (.box b_1 (catc [] 30 encI_i64 zz.2.2 []) 54::Lf) w)
   have hr11 : ∀ (zz : Int × Int × (Nat → Int)) a w,x11 = .go zz → S11 zz a w → K9 a w := by
    rintro ⟨out,x,x_1⟩ a w rfl ⟨hf,hc⟩
    replace hF := exK_go hF
    refine h9 _ _ ?_
    refine wp_seq_k fun K12 h12 => zS fun K h => sp 1 hf rfl fun a hf => zP hf rfl (pLenS Try.underlying23 rfl) fun a hf => sp 1 hf rfl fun a hf => zT h ?_
    refine wp_block ?_
    obtain ⟨x14,hx14,hF⟩ := bnd_some hF
    let S14 : Int → Act → World → Prop := (fun (zz : Int) a w => Has 89 a [(7,i6 out),(8,pq b_1),(74,.slice l_p l.length l_c),(75,i6 ((l.length : Nat) : Int)),(76,i6 zz)] ∧ Ctx G (.box b_1 (catc [] 30 encI_i64 x_1 []) 54::Lf) w)
    have hr14 : ∀ (zz : Int) a w,x14 = .go zz → S14 zz a w → K12 a w := by
     rintro x_2 a w rfl ⟨hf,hc⟩
     replace hF := exK_go hF
     refine h12 _ _ ?_
     refine zS fun K h => sp 3 hf rfl fun a hf => zT h ?_
     refine wp_ret ?_
     obtain rfl := sj hF
     replace hc := hc.drop k0
     exact zO2 Try.results9 hf rfl rfl ⟨rfl,hc⟩
    have ho14 : ∀ r,x14 = .out r → r = res := by
     rintro r rfl
     exact sj hF
    refine cLoop N (loopW (S := S14) (x := x14) ?_ N 0 _ _ ⟨hf.kp rfl,hc⟩ hx14)
    clear hF hf hc
    rintro x_2 st14 a w KB14 ⟨hf,hc⟩ hF hfin14 hK14
    unfold daily_Proves_b14 at hF
    refine zS fun K h => sp 1 hf rfl fun a hf => zT h ?_
    refine wp_seq_k fun K17 h17 => zI hf rfl hF ?_ ?_ <;> clear hF <;> intro hF
    ·refine wp_skip ?_
     refine h17 _ _ ?_
     refine wp_seq_k fun K18 h18 => wp_block ?_
     refine zS fun K h => sp 1 hf rfl fun a hf => ?_
     obtain ⟨e_2,he_2,hF⟩ := bnd_some hF
     obtain ⟨b_2,o,qa,qp⟩ := h_l.atm he_2
     refine zP hf rfl (pIA Try.underlying23 sz_33 rfl rfl qa) fun a hf => zE hf hc rfl (eLdN (vs := [i6 e_2.Value,i6 e_2.Weight]) ag_33 rfl rfl (cells_pc qp (n := 2) (o' := 0) rfl)) fun a w hf hc => zA hf hc zr_33 rfl fun b_3 a w hf hc => sp 1 hf rfl fun a hf => zW hf hc sz_33 u0 rfl fun w hc => zT h ?_
     refine wp_seq_k fun K20 h20 => ?_
     obtain ⟨un,hun,hF⟩ := bnd_some hF
     refine cQ hc follows_mx (by kernel_rfl) ?_
     refine qE hf rfl rfl rfl (Pu.ev (pM rfl)) fun a hf => qE hf rfl rfl rfl (Pu.ev (pIAA Try.underlying54 sz_3 rfl rfl (inR_spec hun).1 (inR_spec hun).2)) fun a hf => qE hf rfl rfl rfl (eLd1 sc_3 rfl (cell_arr (j := 0) m1 (fun x => (one_encI_i64 x).1) rfl hun rfl)) fun a hf => qE hf rfl rfl rfl (Pu.ev (pFA fa_33_1 rfl)) fun a hf => qE hf rfl rfl rfl (eLd1 sc_3 rfl (cell_box m0 rfl)) fun a hf => qE hf rfl rfl rfl (Pu.ev (pGt rfl rfl)) fun a hf => ?_
     intro w hc
     refine h20 _ _ ?_
     refine zI hf rfl hF ?_ ?_ <;> clear hF <;> intro hF
     ·refine zS fun K h => sp 2 hf rfl fun a hf => zT h ?_
      refine wp_ret ?_
      refine xBlkR ?_
      refine xThenR ?_
      refine xThenR ?_
      have he := sj hF
      rw [← he] at hfin14
      replace hF := ho14 _ hfin14
      refine xBlkR ?_
      refine xThenR ?_
      obtain rfl := hF
      replace hc := (hc.drop k1).drop k0
      exact zO2 Try.results9 hf rfl rfl ⟨rfl,hc⟩
     ·refine wp_skip ?_
      refine h18 _ _ ?_
      refine cReg ?_
      refine sp 2 hf rfl fun a hf => cNil ?_
      replace hc := hc.drop k0
      exact hK14 (W (x_2 + 1)) _ _ (sj hF).symm ⟨hf.kp rfl,hc⟩
    ·refine wp_exit ?_
     refine xThen ?_
     refine xThen ?_
     have he := sj hF
     rw [← he] at hfin14
     refine cHit ?_
     exact hr14 _ _ _ hfin14 ⟨hf.kp rfl,hc⟩
   have ho11 : ∀ r,x11 = .out r → r = res := by
    rintro r rfl
    exact sj hF
   refine cLoop N (loopW (S := S11) (x := x11) ?_ N (0,0,(fun _ => 0)) _ _ ⟨hf.kp rfl,hc⟩ hx11)
   clear hF hf hc
   rintro ⟨out,x,x_1⟩ st11 a w KB11 ⟨hf,hc⟩ hF hfin11 hK11
   unfold daily_Proves_b11 at hF
   refine zS fun K h => sp 1 hf rfl fun a hf => zT h ?_
   refine wp_seq_k fun K23 h23 => zI hf rfl hF ?_ ?_ <;> clear hF <;> intro hF
   ·refine wp_skip ?_
    refine h23 _ _ ?_
    refine wp_seq_k fun K24 h24 => wp_block ?_
    refine zS fun K h => ?_
    obtain ⟨e_3,he_3,hF⟩ := bnd_some hF
    obtain ⟨b_4,o_1,qa_1,qp_1⟩ := h_falls.atm he_3
    refine zP hf rfl (pIA Try.underlying34 sz_58 rfl rfl qa_1) fun a hf => zE hf hc rfl (eLdN (vs := [i6 e_3.A,i6 e_3.B,i6 e_3.Weight]) ag_58 rfl rfl (cells_pc qp_1 (n := 3) (o' := 0) rfl)) fun a w hf hc => zA hf hc zr_58 rfl fun b_5 a w hf hc => zW hf hc sz_58 u0 rfl fun w hc => zT h ?_
    refine wp_seq_k fun K26 h26 => zS fun K h => zN hf hc ag_58 m0 rfl fun a w hf hc => sp 1 hf rfl fun a hf => zP hf rfl (pLenS Try.underlying23 rfl) fun a hf => ?_
    obtain ⟨r_1,hr_1,hF⟩ := bnd_some hF
    refine zQ (v := i6 r_1) hf hc en_20 rfl (fun w hc => daily_Fall_wrong_ok e_3 ((l.length : Nat) : Int) hc hr_1) fun a w hf hc => sp 1 hf rfl fun a hf => zT h ?_
    refine zS fun K h => sp 2 hf rfl fun a hf => zT h ?_
    refine zI hf rfl hF ?_ ?_ <;> clear hF <;> intro hF
    ·refine zS fun K h => sp 3 hf rfl fun a hf => zT h ?_
     refine wp_ret ?_
     refine xThenR ?_
     refine xBlkR ?_
     refine xThenR ?_
     refine xThenR ?_
     have he := sj hF
     rw [← he] at hfin11
     replace hF := ho11 _ hfin11
     refine xBlkR ?_
     refine xThenR ?_
     obtain rfl := hF
     replace hc := (hc.drop k1).drop k0
     exact zO2 Try.results9 hf rfl rfl ⟨rfl,hc⟩
    ·refine wp_skip ?_
     refine h26 _ _ ?_
     refine wp_seq_k fun K30 h30 => ?_
     obtain ⟨un_1,hun_1,hF⟩ := bnd_some hF
     obtain ⟨un_2,hun_2,hF⟩ := bnd_some hF
     refine regionE (fun θ => [⟨none,none,0,.slice l_p l.length l_c⟩,⟨none,none,7,i6 out⟩,⟨none,none,8,pq b_1⟩,⟨none,none,10,pq b_5⟩,⟨none,none,26,.slice falls_p falls.length falls_c⟩,⟨none,none,27,i6 ((falls.length : Nat) : Int)⟩,⟨none,none,28,i6 x⟩,⟨some 0,none,39,pq b_5⟩,⟨some 1,none,40,i6 e_3.A⟩,⟨some 2,none,41,.pointer (some ⟨b_1,0 + e_3.A.toNat * 1,none⟩)⟩,⟨some 3,none,42,i6 (x_1 e_3.A.toNat)⟩,⟨some 4,none,43,.pointer (some ⟨b_5,2,none⟩)⟩,⟨some 5,none,44,i6 e_3.Weight⟩,⟨some 6,none,45,i6 (W ((x_1 e_3.A.toNat) + e_3.Weight))⟩,⟨some 7,none,46,.pointer (some ⟨b_1,0 + e_3.A.toNat * 1,none⟩)⟩]) (fun E θ => .box b_5 [i6 e_3.A,i6 e_3.B,i6 e_3.Weight] 58::(bif E 8 then .box b_1 (catc [] 30 encI_i64 (setF x_1 e_3.A.toNat (W ((x_1 e_3.A.toNat) + e_3.Weight))) []) 54 else .box b_1 (catc [] 30 encI_i64 x_1 []) 54)::Lf) [(8,3)] (fun a w => Has 89 a [(0,.slice l_p l.length l_c),(7,i6 out),(8,pq b_1),(10,pq b_5),(26,.slice falls_p falls.length falls_c),(27,i6 ((falls.length : Nat) : Int)),(28,i6 x)] ∧ Ctx G (.box b_5 [i6 e_3.A,i6 e_3.B,i6 e_3.Weight] 58::.box b_1 (catc [] 30 encI_i64 (setF x_1 e_3.A.toNat (W ((x_1 e_3.A.toNat) + e_3.Weight))) []) 54::Lf) w) follows_mx (by kernel_rfl) (by kernel_rfl) (HasE.of hf ⟨rfl,rfl,rfl,rfl,rfl,rfl,rfl,trivial,trivial,trivial,trivial,trivial,trivial,trivial,trivial,trivial⟩) hc ⟨?_,?_,?_,?_,?_,?_,?_,?_,?_,trivial⟩ ?_ ?_
     ·intro E θ a w hD hi hp he hc
      have hf := he.h0.mT he 3 rfl
      refine zP hf rfl (pFA fa_58_0 rfl) fun a hf => zD θ he hi hf 7 rfl rfl rfl hc
     ·intro E θ a w hD hi hp he hc
      have e0 := hp.o 0 rfl
      have hf := he.h0.mP he 7 rfl e0
      refine zL hf hc sc_3 m0 rfl fun a w hf hc => zD θ he hi hf 8 rfl rfl rfl hc
     ·intro E θ a w hD hi hp he hc
      have e1 := hp.o 1 rfl
      have hf := (he.h0.mT he 2 rfl).mP he 8 rfl e1
      refine zP hf rfl (pIAA Try.underlying54 sz_3 rfl rfl (inR_spec hun_1).1 (inR_spec hun_1).2) fun a hf => zD θ he hi hf 9 rfl rfl rfl hc
     ·intro E θ a w hD hi hp he hc
      have e2 := hp.o 2 rfl
      have e8 := hD.f 0 rfl hi
      try dsimp only at hc
      rw [e8] at hc
      have hf := he.h0.mP he 9 rfl e2
      refine zE hf hc rfl (eLd1 sc_3 rfl (cell_arr (j := 0) m1 (fun x => (one_encI_i64 x).1) rfl hun_1 rfl)) fun a w hf hc => zD θ he hi hf 10 rfl rfl rfl ?_
      try dsimp only
      rw [updE_fls 3 e8 rfl]
      exact hc
     ·intro E θ a w hD hi hp he hc
      have hf := he.h0.mT he 3 rfl
      refine zP hf rfl (pFA fa_58_2 rfl) fun a hf => zD θ he hi hf 11 rfl rfl rfl hc
     ·intro E θ a w hD hi hp he hc
      have e4 := hp.o 4 rfl
      have hf := he.h0.mP he 11 rfl e4
      refine zL hf hc sc_3 m0 rfl fun a w hf hc => zD θ he hi hf 12 rfl rfl rfl hc
     ·intro E θ a w hD hi hp he hc
      have e3 := hp.o 3 rfl
      have e5 := hp.o 5 rfl
      have hf := (he.h0.mP he 10 rfl e3).mP he 12 rfl e5
      refine sp 1 hf rfl fun a hf => zD θ he hi hf 13 rfl rfl rfl hc
     ·intro E θ a w hD hi hp he hc
      have e1 := hp.o 1 rfl
      have hf := (he.h0.mT he 2 rfl).mP he 8 rfl e1
      refine zP hf rfl (pIAA Try.underlying54 sz_3 rfl rfl (inR_spec hun_2).1 (inR_spec hun_2).2) fun a hf => zD θ he hi hf 14 rfl rfl rfl hc
     ·intro E θ a w hD hi hp he hc
      have e6 := hp.o 6 rfl
      have e7 := hp.o 7 rfl
      try dsimp only at hc
      rw [hi] at hc
      have hf := (he.h0.mP he 13 rfl e6).mP he 14 rfl e7
      refine stAr (vs := [i6 (W ((x_1 e_3.A.toNat) + e_3.Weight))]) (o' := 0) (z := W ((x_1 e_3.A.toNat) + e_3.Weight)) hf hc rfl rfl rfl rfl sz_3 rfl (fun x => (one_encI_i64 x).1) rfl hun_2 rfl rfl u1 fun w hc => zG θ he hi hf rfl ?_
      try dsimp only
      rw [updE_self E 8]
      exact hc
     ·intro E θ a w hall he hc
      have hf := he.h0
      have e8 := hall 8 rfl
      replace hf := hf.more he 6 rfl (onT)
      replace hf := hf.more he 5 rfl (onT)
      replace hf := hf.more he 4 rfl (onT)
      replace hf := hf.more he 3 rfl (onT)
      replace hf := hf.more he 2 rfl (onT)
      replace hf := hf.more he 1 rfl (onT)
      replace hf := hf.more he 0 rfl (onT)
      try dsimp only at hc
      rw [e8] at hc
      exact ⟨hf.kp rfl,hc⟩
     rintro a w ⟨hf,hc⟩
     refine h30 _ _ ?_
     refine wp_seq_k fun K31 h31 => ?_
     obtain ⟨un_3,hun_3,hF⟩ := bnd_some hF
     obtain ⟨un_4,hun_4,hF⟩ := bnd_some hF
     refine regionE (fun θ => [⟨none,none,0,.slice l_p l.length l_c⟩,⟨none,none,7,i6 out⟩,⟨none,none,8,pq b_1⟩,⟨none,none,10,pq b_5⟩,⟨none,none,26,.slice falls_p falls.length falls_c⟩,⟨none,none,27,i6 ((falls.length : Nat) : Int)⟩,⟨none,none,28,i6 x⟩,⟨some 0,none,47,.pointer (some ⟨b_5,1,none⟩)⟩,⟨some 1,none,48,i6 e_3.B⟩,⟨some 2,none,49,.pointer (some ⟨b_1,0 + e_3.B.toNat * 1,none⟩)⟩,⟨some 3,none,50,i6 ((setF x_1 e_3.A.toNat (W ((x_1 e_3.A.toNat) + e_3.Weight))) e_3.B.toNat)⟩,⟨some 4,none,51,.pointer (some ⟨b_5,2,none⟩)⟩,⟨some 5,none,52,i6 e_3.Weight⟩,⟨some 6,none,53,i6 (W (((setF x_1 e_3.A.toNat (W ((x_1 e_3.A.toNat) + e_3.Weight))) e_3.B.toNat) + e_3.Weight))⟩,⟨some 7,none,54,.pointer (some ⟨b_1,0 + e_3.B.toNat * 1,none⟩)⟩]) (fun E θ => .box b_5 [i6 e_3.A,i6 e_3.B,i6 e_3.Weight] 58::(bif E 8 then .box b_1 (catc [] 30 encI_i64 (setF (setF x_1 e_3.A.toNat (W ((x_1 e_3.A.toNat) + e_3.Weight))) e_3.B.toNat (W (((setF x_1 e_3.A.toNat (W ((x_1 e_3.A.toNat) + e_3.Weight))) e_3.B.toNat) + e_3.Weight))) []) 54 else .box b_1 (catc [] 30 encI_i64 (setF x_1 e_3.A.toNat (W ((x_1 e_3.A.toNat) + e_3.Weight))) []) 54)::Lf) [(8,3)] (fun a w => Has 89 a [(0,.slice l_p l.length l_c),(7,i6 out),(8,pq b_1),(10,pq b_5),(26,.slice falls_p falls.length falls_c),(27,i6 ((falls.length : Nat) : Int)),(28,i6 x)] ∧ Ctx G (.box b_5 [i6 e_3.A,i6 e_3.B,i6 e_3.Weight] 58::.box b_1 (catc [] 30 encI_i64 (setF (setF x_1 e_3.A.toNat (W ((x_1 e_3.A.toNat) + e_3.Weight))) e_3.B.toNat (W (((setF x_1 e_3.A.toNat (W ((x_1 e_3.A.toNat) + e_3.Weight))) e_3.B.toNat) + e_3.Weight))) []) 54::Lf) w) follows_mx (by kernel_rfl) (by kernel_rfl) (HasE.of hf ⟨rfl,rfl,rfl,rfl,rfl,rfl,rfl,trivial,trivial,trivial,trivial,trivial,trivial,trivial,trivial,trivial⟩) hc ⟨?_,?_,?_,?_,?_,?_,?_,?_,?_,trivial⟩ ?_ ?_
     ·intro E θ a w hD hi hp he hc
      have hf := he.h0.mT he 3 rfl
      refine zP hf rfl (pFA fa_58_1 rfl) fun a hf => zD θ he hi hf 7 rfl rfl rfl hc
     ·intro E θ a w hD hi hp he hc
      have e0 := hp.o 0 rfl
      have hf := he.h0.mP he 7 rfl e0
      refine zL hf hc sc_3 m0 rfl fun a w hf hc => zD θ he hi hf 8 rfl rfl rfl hc
     ·intro E θ a w hD hi hp he hc
      have e1 := hp.o 1 rfl
      have hf := (he.h0.mT he 2 rfl).mP he 8 rfl e1
      refine zP hf rfl (pIAA Try.underlying54 sz_3 rfl rfl (inR_spec hun_3).1 (inR_spec hun_3).2) fun a hf => zD θ he hi hf 9 rfl rfl rfl hc
     ·intro E θ a w hD hi hp he hc
      have e2 := hp.o 2 rfl
      have e8 := hD.f 0 rfl hi
      try dsimp only at hc
      rw [e8] at hc
      have hf := he.h0.mP he 9 rfl e2
      refine zE hf hc rfl (eLd1 sc_3 rfl (cell_arr (j := 0) m1 (fun x => (one_encI_i64 x).1) rfl hun_3 rfl)) fun a w hf hc => zD θ he hi hf 10 rfl rfl rfl ?_
      try dsimp only
      rw [updE_fls 3 e8 rfl]
      exact hc
     ·intro E θ a w hD hi hp he hc
      have hf := he.h0.mT he 3 rfl
      refine zP hf rfl (pFA fa_58_2 rfl) fun a hf => zD θ he hi hf 11 rfl rfl rfl hc
     ·intro E θ a w hD hi hp he hc
      have e4 := hp.o 4 rfl
      have hf := he.h0.mP he 11 rfl e4
      refine zL hf hc sc_3 m0 rfl fun a w hf hc => zD θ he hi hf 12 rfl rfl rfl hc
     ·intro E θ a w hD hi hp he hc
      have e3 := hp.o 3 rfl
      have e5 := hp.o 5 rfl
      have hf := (he.h0.mP he 10 rfl e3).mP he 12 rfl e5
      refine sp 1 hf rfl fun a hf => zD θ he hi hf 13 rfl rfl rfl hc
     ·intro E θ a w hD hi hp he hc
      have e1 := hp.o 1 rfl
      have hf := (he.h0.mT he 2 rfl).mP he 8 rfl e1
      refine zP hf rfl (pIAA Try.underlying54 sz_3 rfl rfl (inR_spec hun_4).1 (inR_spec hun_4).2) fun a hf => zD θ he hi hf 14 rfl rfl rfl hc
     ·intro E θ a w hD hi hp he hc
      have e6 := hp.o 6 rfl
      have e7 := hp.o 7 rfl
      try dsimp only at hc
      rw [hi] at hc
      have hf := (he.h0.mP he 13 rfl e6).mP he 14 rfl e7
      refine stAr (vs := [i6 (W (((setF x_1 e_3.A.toNat (W ((x_1 e_3.A.toNat) + e_3.Weight))) e_3.B.toNat) + e_3.Weight))]) (o' := 0) (z := W (((setF x_1 e_3.A.toNat (W ((x_1 e_3.A.toNat) + e_3.Weight))) e_3.B.toNat) + e_3.Weight)) hf hc rfl rfl rfl rfl sz_3 rfl (fun x => (one_encI_i64 x).1) rfl hun_4 rfl rfl u1 fun w hc => zG θ he hi hf rfl ?_
      try dsimp only
      rw [updE_self E 8]
      exact hc
     ·intro E θ a w hall he hc
      have hf := he.h0
      have e8 := hall 8 rfl
      replace hf := hf.more he 6 rfl (onT)
      replace hf := hf.more he 5 rfl (onT)
      replace hf := hf.more he 4 rfl (onT)
      replace hf := hf.more he 3 rfl (onT)
      replace hf := hf.more he 2 rfl (onT)
      replace hf := hf.more he 1 rfl (onT)
      replace hf := hf.more he 0 rfl (onT)
      try dsimp only at hc
      rw [e8] at hc
      exact ⟨hf.kp rfl,hc⟩
     rintro a w ⟨hf,hc⟩
     refine h31 _ _ ?_
     obtain ⟨e_4,he_4,hF⟩ := bnd_some hF
     obtain ⟨b_6,o_2,qa_2,qp_2⟩ := h_l.atm he_4
     obtain ⟨e_5,he_5,hF⟩ := bnd_some hF
     obtain ⟨b_7,o_3,qa_3,qp_3⟩ := h_l.atm he_5
     refine cQ hc follows_mx (by kernel_rfl) ?_
     refine qE hf rfl rfl rfl (Pu.ev (pM rfl)) fun a hf => qE hf rfl rfl rfl (Pu.ev (pFA fa_58_2 rfl)) fun a hf => qE hf rfl rfl rfl (eLd1 sc_3 rfl (cell_box m0 rfl)) fun a hf => qE hf rfl rfl rfl (Pu.ev (pM rfl)) fun a hf => qE hf rfl rfl rfl (Pu.ev (pFA fa_58_0 rfl)) fun a hf => qE hf rfl rfl rfl (eLd1 sc_3 rfl (cell_box m0 rfl)) fun a hf => qE hf rfl rfl rfl (Pu.ev (pIA Try.underlying23 sz_33 rfl rfl qa_2)) fun a hf => qE hf rfl rfl rfl (Pu.ev (pFA fa_33_0 rfl)) fun a hf => qE hf rfl rfl rfl (eLd1 sc_3 rfl (cell_pc (j := 0) qp_2 rfl)) fun a hf => qE hf rfl rfl rfl (Pu.ev (pM rfl)) fun a hf => qE hf rfl rfl rfl (Pu.ev (pFA fa_58_1 rfl)) fun a hf => qE hf rfl rfl rfl (eLd1 sc_3 rfl (cell_box m0 rfl)) fun a hf => qE hf rfl rfl rfl (Pu.ev (pIA Try.underlying23 sz_33 rfl rfl qa_3)) fun a hf => ?_
     refine qE hf rfl rfl rfl (Pu.ev (pFA fa_33_0 rfl)) fun a hf => qE hf rfl rfl rfl (eLd1 sc_3 rfl (cell_pc (j := 0) qp_3 rfl)) fun a hf => qE hf rfl rfl rfl (Pu.ev (pSub rfl rfl)) fun a hf => qE hf rfl rfl rfl (Pu.ev (pMul rfl rfl)) fun a hf => qE hf rfl rfl rfl (Pu.ev (pAdd rfl rfl)) fun a hf => qE hf rfl rfl rfl (Pu.ev (pA rfl)) fun a hf => ?_
     intro w hc
     refine h24 _ _ ?_
     refine cReg ?_
     refine sp 2 hf rfl fun a hf => cNil ?_
     replace hc := hc.drop k0
     exact hK11 (W (out + (W (e_3.Weight * (W (e_4.Value - e_5.Value))))),W (x + 1),(setF (setF x_1 e_3.A.toNat (W ((x_1 e_3.A.toNat) + e_3.Weight))) e_3.B.toNat (W (((setF x_1 e_3.A.toNat (W ((x_1 e_3.A.toNat) + e_3.Weight))) e_3.B.toNat) + e_3.Weight)))) _ _ (sj hF).symm ⟨hf.kp rfl,hc⟩
   ·refine wp_exit ?_
    refine xThen ?_
    refine xThen ?_
    have he := sj hF
    rw [← he] at hfin11
    refine cHit ?_
    exact hr11 _ _ _ hfin11 ⟨hf.kp rfl,hc⟩
 refine zS fun K h => sp 3 hf rfl fun a hf => stCc 4 (fun a => Has 89 a [(0,.slice l_p l.length l_c),(1,.slice falls_p falls.length falls_c),(6,i6 r),(16,i6 r),(17,.bool (r == 0)),(18,.bool (r == 0)),(22,.bool ((r == 0) && (decide (900 < ((falls.length : Nat) : Int)))))]) hc ?_ ?_
 ·cases hb : (r == 0)
  ·rw [hb] at hf
   refine stS hf rfl rfl rfl fun a hf => stS hf rfl rfl rfl fun a hf => stS hf rfl rfl rfl fun a hf => sp 1 hf rfl fun a hf => cNil ⟨hf.kp rfl,hc⟩
  ·rw [hb] at hf
   refine sp 1 hf rfl fun a hf => zP hf rfl (pLenS Try.underlying34 rfl) fun a hf => sp 2 hf rfl fun a hf => cNil ⟨hf.kp rfl,hc⟩
 intro a w ⟨hf,hc⟩
 refine zT h ?_
 refine zI hf rfl hF ?_ ?_ <;> clear hF <;> intro hF
 ·refine cReg ?_
  refine sp 1 hf rfl fun a hf => cNil ?_
  exact hj3 3 _ _  (hf.kp rfl) hc hF
 ·refine wp_skip ?_
  exact hj3 r _ _  (hf.kp rfl) hc hF

def kit_Same_int_b7 (N : Nat) (a_ : List Int) (b_ : List Int) (i_1 : Int) : Option (Step (Int) (Bool)) :=
 cond (decide (i_1 < ((a_.length : Nat) : Int)))
 (Option.bind (getI a_ i_1) fun e_1 =>
 Option.bind (getI b_ i_1) fun e_2 =>
 cond (e_1 != e_2)
 (some (.ret false))
 (some (.cont (W (i_1 + 1)))))
 (some (.brk i_1))
def kit_Same_int (N : Nat) (a_ : List Int) (b_ : List Int) : Option (Bool) :=
 cond (((a_.length : Nat) : Int) != ((b_.length : Nat) : Int))
 (some false)
 (Option.bind (loopO (fun s7 => kit_Same_int_b7 N a_ b_ s7) N 0) fun x7 =>
 exK x7 (fun s7 => some true) some)
theorem kit_Same_int_ok {N : Nat} {G : Pers} {Lf : List Ent} {w : World} (a_ : List Int) (b_ : List Int) {a__p : Option Addr} {a__c : Nat} {b__p : Option Addr} {b__c : Nat} (h_a_ : Rd G 1 a__p a__c (a_.map encI_i64)) (h_b_ : Rd G 1 b__p b__c (b_.map encI_i64)) (hc : Ctx G (Lf) w) {res : Bool} (hF : kit_Same_int N a_ b_ = some res) : Calls Try.prog 10 #[.slice a__p a_.length a__c,.slice b__p b_.length b__c] w (fun e w => e = .returned (.bool res) ∧ Ctx G (Lf) w) := by
 unfold kit_Same_int at hF
 refine fnIn Try.func10 rfl Try.ntmps10 rfl fun a hf => zS fun K h => sp 1 hf rfl fun a hf => zT h ?_
 refine wp_seq_k fun K2 h2 => zS fun K h => sp 1 hf rfl fun a hf => zP hf rfl (pLenS Try.underlying27 rfl) fun a hf => sp 1 hf rfl fun a hf => zP hf rfl (pLenS Try.underlying27 rfl) fun a hf => sp 1 hf rfl fun a hf => zT h ?_
 refine zI hf rfl hF ?_ ?_ <;> clear hF <;> intro hF
 ·refine zS fun K h => sp 1 hf rfl fun a hf => zT h ?_
  refine wp_ret ?_
  refine xThenR ?_
  obtain rfl := sj hF
  exact zO1 Try.results10 hf rfl ⟨rfl,hc⟩
 ·refine wp_skip ?_
  refine h2 _ _ ?_
  refine wp_seq_k fun K5 h5 => zS fun K h => sp 1 hf rfl fun a hf => zT h ?_
  refine wp_block ?_
  obtain ⟨x7,hx7,hF⟩ := bnd_some hF
  let S7 : Int → Act → World → Prop := (fun (zz : Int) a w => Has 26 a [(0,.slice a__p a_.length a__c),(1,.slice b__p b_.length b__c),(5,i6 zz)] ∧ Ctx G (Lf) w)
  have hr7 : ∀ (zz : Int) a w,x7 = .go zz → S7 zz a w → K5 a w := by
   rintro i_1 a w rfl ⟨hf,hc⟩
   replace hF := exK_go hF
   refine h5 _ _ ?_
   refine zS fun K h => sp 1 hf rfl fun a hf => zT h ?_
   refine wp_ret ?_
   obtain rfl := sj hF
   exact zO1 Try.results10 hf rfl ⟨rfl,hc⟩
  have ho7 : ∀ r,x7 = .out r → r = res := by
   rintro r rfl
   exact sj hF
  refine cLoop N (loopW (S := S7) (x := x7) ?_ N 0 _ _ ⟨hf.kp rfl,hc⟩ hx7)
  clear hF hf hc
  rintro i_1 st7 a w KB7 ⟨hf,hc⟩ hF hfin7 hK7
  unfold kit_Same_int_b7 at hF
  refine wp_seq_k fun K9 h9 => zS fun K h => sp 2 hf rfl fun a hf => zP hf rfl (pLenS Try.underlying27 rfl) fun a hf => sp 1 hf rfl fun a hf => zT h ?_
  refine zI hf rfl hF ?_ ?_ <;> clear hF <;> intro hF
  ·refine wp_skip ?_
   refine h9 _ _ ?_
   refine wp_seq_k fun K11 h11 => wp_block ?_
   refine wp_seq_k fun K12 h12 => ?_
   obtain ⟨e_1,he_1,hF⟩ := bnd_some hF
   obtain ⟨b_1,o,qa,qp⟩ := h_a_.atm he_1
   obtain ⟨e_2,he_2,hF⟩ := bnd_some hF
   obtain ⟨b_2,o_1,qa_1,qp_1⟩ := h_b_.atm he_2
   refine cQ hc follows_mx (by kernel_rfl) ?_
   refine qE hf rfl rfl rfl (Pu.ev (pM rfl)) fun a hf => qE hf rfl rfl rfl (Pu.ev (pM rfl)) fun a hf => qE hf rfl rfl rfl (Pu.ev (pIA Try.underlying27 sz_3 rfl rfl qa)) fun a hf => qE hf rfl rfl rfl (eLd1 sc_3 rfl (cell_pc (j := 0) qp rfl)) fun a hf => qE hf rfl rfl rfl (Pu.ev (pM rfl)) fun a hf => qE hf rfl rfl rfl (Pu.ev (pM rfl)) fun a hf => qE hf rfl rfl rfl (Pu.ev (pIA Try.underlying27 sz_3 rfl rfl qa_1)) fun a hf => qE hf rfl rfl rfl (eLd1 sc_3 rfl (cell_pc (j := 0) qp_1 rfl)) fun a hf => qE hf rfl rfl rfl (Pu.ev (pNe rfl rfl)) fun a hf => ?_
   intro w hc
   refine h12 _ _ ?_
   refine zI hf rfl hF ?_ ?_ <;> clear hF <;> intro hF
   ·refine zS fun K h => sp 1 hf rfl fun a hf => zT h ?_
    refine wp_ret ?_
    refine xBlkR ?_
    refine xThenR ?_
    refine xThenR ?_
    have he := sj hF
    rw [← he] at hfin7
    replace hF := ho7 _ hfin7
    refine xBlkR ?_
    refine xThenR ?_
    obtain rfl := hF
    exact zO1 Try.results10 hf rfl ⟨rfl,hc⟩
   ·refine wp_skip ?_
    refine h11 _ _ ?_
    refine cReg ?_
    refine sp 3 hf rfl fun a hf => cNil ?_
    exact hK7 (W (i_1 + 1)) _ _ (sj hF).symm ⟨hf.kp rfl,hc⟩
  ·refine wp_exit ?_
   refine xThen ?_
   refine xThen ?_
   have he := sj hF
   rw [← he] at hfin7
   refine cHit ?_
   exact hr7 _ _ _ hfin7 ⟨hf.kp rfl,hc⟩

def slices_Delete_Ldaily_Reading_daily_Reading (N : Nat) (s_ : List daily_Reading) (i_ : Int) (j_ : Int) : Option ((List daily_Reading)) :=
 delO s_ i_ j_
/-! ### Walks of the library -/
section
open Go.RowKit Go.Lib
theorem iX11 : (Try.prog.info? 33).map (fun i => (i.zero,i.size,i.bytes)) = some (some (Value.agg #[i6 0,i6 0]),2,16) := by kernel_rfl
theorem zvX11 : ∀ w : World,(zeroValue 33).run Try.prog w = .ok (Value.agg #[i6 0,i6 0]) w := fun w => by
 obtain ⟨i0,hi0,hz0,hz1,hz2⟩ := info_parts iX11
 simp [zeroValue,typeInfo,hi0,hz0]
set_option maxHeartbeats 4000000 in
set_option maxRecDepth 1000000 in
theorem same_walk11 (p : Option Addr) (n cap i : Nat) (w : World) (hi : i ≤ n) (hc : n ≤ cap) (hm : cap ≤ 9223372036854775807) (hp : p = none → cap = 0) :
  Calls Try.prog 11 #[.slice p n cap,i6 i,i6 i] w fun e w' => e = .returned (.slice p n cap) ∧ w' = w := by
 have hic : i ≤ cap := by omega
 go_enter Try.func11,Try.ntmps11
 go_wp2
 all_goals (go_ret; exact ⟨rfl,rfl⟩)
set_option maxHeartbeats 4000000 in
set_option maxRecDepth 1000000 in
theorem del_walk11 (g n cap i j : Nat) (cur : Array Value) (w : World) (hg : w.heap[g]? = some (.cells cur 33 (0,0))) (hcs : cur.size = cap * 2) (hn : n ≤ cap) (hm : cap ≤ 9223372036854775807) (hij : i < j) (hj : j ≤ n)
  (news : List Value) (hnews : news = (cur.toList.take (n * 2)).drop (j * 2)) (h1 : ∀ u ∈ news,u.oneCell' = true) :
  Calls Try.prog 11 #[.slice (some ⟨g,0,none⟩) n cap,i6 i,i6 j] w fun e w' => e = .returned (.slice (some ⟨g,0,none⟩) (n - (j - i)) cap) ∧
   w' = (w.drew.setCells g (0 + i * 2) news).setCells g ((i + (n - j)) * 2) (Builtin.zeroCells (Value.agg #[i6 0,i6 0]).cells (n - (i + (n - j)))).toList := by
 obtain ⟨i0,hi0,hz0,hz1,hz2⟩ := info_parts iX11
 have hlen : news.length = (n - j) * 2 := by rw [hnews]; simp; omega
 obtain ⟨A,hA,hsrc⟩ : ∃ A : Addr,(if cap = j then some (⟨g,0,none⟩ : Addr) else some ⟨g,j * 2,none⟩) = some A ∧ Hid (∀ t u,news[t]? = some u → w.drew.cell? (A.add t) = some u) := by
  by_cases h : cap = j
  ·refine ⟨⟨g,0,none⟩,by simp [h],fun t u hu => ?_⟩
   have h0 : news.length = 0 := by rw [hlen]; omega
   rw [List.length_eq_zero_iff.1 h0] at hu
   simp at hu
  ·refine ⟨⟨g,j * 2,none⟩,by simp [h],fun t u hu => ?_⟩
   have ht : t < (n - j) * 2 := by
    have := (List.getElem?_eq_some_iff.1 hu).1
    rwa [hlen] at this
   rw [hnews,List.getElem?_drop,List.getElem?_take,if_pos (by omega)] at hu
   rw [Addr.add_lit]
   show w.cell? _ = _
   simp only [World.cell?,hg]
   simpa using hu
 have s1 : Hid (news.length = (n - j) * 2) := hlen
 have s2 : Hid (∀ u ∈ news,u.oneCell' = true) := h1
 have s3 : Hid (∀ t,t < news.length → (w.drew.cell? ⟨g,0 + i * 2 + t,none⟩).isSome = true ∧ w.drew.frozen? ⟨g,0 + i * 2 + t,none⟩ = false) := by
  intro t ht
  rw [hlen] at ht
  refine ⟨?_,?_⟩
  ·show (w.cell? _).isSome = true
   simp only [World.cell?,hg]
   rw [Array.getElem?_eq_getElem (by omega)]
   rfl
  ·show w.frozen? _ = false
   simp [World.frozen?,hg]
 obtain ⟨W1,hW1⟩ : ∃ W1,W1 = w.drew.setCells g (0 + i * 2) news := ⟨_,rfl⟩
 have hh := Go.Nilo.heap_setCells g news (0 + i * 2) w.drew cur 33 (0,0) hg
 have hg1 : W1.heap[g]? = some (.cells (Go.Nilo.putA cur (0 + i * 2) news) 33 (0,0)) := by rw [hW1]; exact hh.1
 have hsz : (Go.Nilo.putA cur (0 + i * 2) news).size = cap * 2 := by rw [Go.Nilo.putA_size,hcs]
 have hcl : ∀ ty,(Builtin.clear_ #[23] ty #[.slice (some ⟨g,(i + (n - j)) * 2,none⟩) (n - (i + (n - j))) (cap - (i + (n - j)))]).run Try.prog W1 = .ok (.tuple #[]) (W1.setCells g ((i + (n - j)) * 2) (Builtin.zeroCells (Value.agg #[i6 0,i6 0]).cells (n - (i + (n - j)))).toList) :=
  fun ty => Go.Nilo.run_clear_rows W1 23 33 ty _ Try.underlying23 zvX11 (fun n v hv => by
    simp only [Builtin.zeroCells,Array.toList_map,List.mem_map] at hv
    obtain ⟨k,-,rfl⟩ := hv
    have : ∀ m,m < 2 → ((Value.agg #[i6 0,i6 0]).cells[m]!).oneCell' = true := by decide
    exact this _ (Nat.mod_lt _ (by decide))) g ((i + (n - j)) * 2) _ _ (by omega) (fun t ht => by
    have ht' : t < (n - (i + (n - j))) * 2 := ht
    simp only [World.cell?,hg1]
    rw [Array.getElem?_eq_getElem (by omega)]
    rfl) (fun t ht => by simp [World.frozen?,hg1])
 have hW : Hid (W1 = w.drew.setCells g (0 + i * 2) news) := hW1
 have hic : i ≤ cap := by omega
 have hjc : j ≤ cap := by omega
 rw [← hW1]
 clear hW1 hg1 hsz hh hg hcs hnews hlen
 go_enter Try.func11,Try.ntmps11
 go_wp2_with fail
 go_region_law (refine step_append_room rfl (.tmp 22) (.tmp 25) 23 rfl 33 i0 2 Try.underlying23 hi0 hz1 g 0 i cap (by simp [Act.eval,Act.put]) A (n - j) (cap - j) news (by simp [Act.eval,Act.put]) s1.out hsrc.out s2.out (by omega) s3.out ?_; rw [← hW.out])
 go_wp2
 go_ret
 exact ⟨by rw [show n - (j - i) = i + (n - j) by omega]; rfl,rfl⟩
end

theorem slices_Delete_Ldaily_Reading_daily_Reading_ok {N : Nat} {G : Pers} {Lf : List Ent} {w : World} (s_ : List daily_Reading) (i_ : Int) (j_ : Int) {s__p : Option Addr} {s__c : Nat}  (hc : Ctx G (.row s__p s__c (s_.map enc_daily_Reading) 33 2::Lf) w) {res : (List daily_Reading)} (hF : slices_Delete_Ldaily_Reading_daily_Reading N s_ i_ j_ = some res) : Calls Try.prog 11 #[.slice s__p s_.length s__c,i6 i_,i6 j_] w (fun e w => ∃ (p'1 : Option Addr) (c'1 : Nat),e = .returned (.slice p'1 res.length c'1) ∧ Ctx G (.row p'1 c'1 (res.map enc_daily_Reading) 33 2::Lf) w) := by
 unfold slices_Delete_Ldaily_Reading_daily_Reading at hF
 exact delete_ctx (zs := fun k => (Builtin.zeroCells (Value.agg #[i6 0,i6 0]).cells k).toList) one_enc_daily_Reading (fun p n cap i w h1 h2 h3 h4 => same_walk11 p n cap i w h1 h2 h3 h4) (fun g n cap i j cur w h1 h2 h3 h4 h5 h6 news h7 h8 => del_walk11 g n cap i j cur w h1 h2 h3 h4 h5 h6 news h7 h8) hc hF

def law07_span (N : Nat) (lo : Int) (hi_ : Int) : Option (api_Span) :=
 some (⟨lo,hi_⟩ : api_Span)
theorem law07_span_ok {N : Nat} {G : Pers} {Lf : List Ent} {w : World} (lo : Int) (hi_ : Int)   (hc : Ctx G (Lf) w) {res : api_Span} (hF : law07_span N lo hi_ = some res) : Calls Try.prog 27 #[i6 lo,i6 hi_] w (fun e w => e = .returned (.agg #[i6 res.Lo,i6 res.Hi]) ∧ Ctx G (Lf) w) := by
 unfold law07_span at hF
 refine fnIn Try.func27 rfl Try.ntmps27 rfl fun a hf => zS fun K h => zA hf hc zr_68 rfl fun b_1 a w hf hc => zT h ?_
 refine zS fun K h => sp 2 hf rfl fun a hf => zP hf rfl (pBuildS (cells := [i6 lo,i6 hi_]) bt_68 rfl rfl) fun a hf => zW hf hc sz_68 u0 rfl fun w hc => zT h ?_
 refine wp_ret ?_
 obtain rfl := sj hF
 exact fnOut1 (by simp) rfl Try.results27 hf hc (rv_cellN (vs := [i6 lo,i6 hi_]) ag_68 rfl rfl (cells_box (n := 2) m0 rfl)) ⟨rfl,(hc.drop k0)⟩

def law07_known (N : Nat) (lo : Int) (hi_ : Int) : Option (daily_Value) :=
 Option.bind (law07_span N lo hi_) fun r =>
 some (⟨true,r⟩ : daily_Value)
theorem law07_known_ok {N : Nat} {G : Pers} {Lf : List Ent} {w : World} (lo : Int) (hi_ : Int)   (hc : Ctx G (Lf) w) {res : daily_Value} (hF : law07_known N lo hi_ = some res) : Calls Try.prog 39 #[i6 lo,i6 hi_] w (fun e w => e = .returned (.agg #[.bool res.Known,i6 res.Flow.Lo,i6 res.Flow.Hi]) ∧ Ctx G (Lf) w) := by
 unfold law07_known at hF
 refine fnIn Try.func39 rfl Try.ntmps39 rfl fun a hf => zS fun K h => zA hf hc zr_97 rfl fun b_1 a w hf hc => zT h ?_
 refine zS fun K h => sp 2 hf rfl fun a hf => ?_
 obtain ⟨r,hr,hF⟩ := bnd_some hF
 refine zQ (v := .agg #[i6 r.Lo,i6 r.Hi]) hf hc en_27 rfl (fun w hc => law07_span_ok lo hi_ hc hr) fun a w hf hc => zP hf rfl (pBuildS (cells := [.bool true,i6 r.Lo,i6 r.Hi]) bt_97 rfl rfl) fun a hf => zW hf hc sz_97 u0 rfl fun w hc => zT h ?_
 refine wp_ret ?_
 obtain rfl := sj hF
 exact fnOut1 (by simp) rfl Try.results39 hf hc (rv_cellN (vs := [.bool true,i6 r.Lo,i6 r.Hi]) ag_97 rfl rfl (cells_box (n := 3) m0 rfl)) ⟨rfl,(hc.drop k0)⟩

def law07_Four (N : Nat) (least : Int) : Option (daily_Record) :=
 Option.bind (law07_known N 20 30) fun r =>
 Option.bind (law07_known N least 90) fun r_1 =>
 some (⟨10,5,([r,(⟨false,(⟨0,0⟩ : api_Span)⟩ : daily_Value),(⟨false,(⟨0,0⟩ : api_Span)⟩ : daily_Value),r_1] : List daily_Value)⟩ : daily_Record)
theorem law07_Four_ok {N : Nat} {G : Pers} {Lf : List Ent} {w : World} (least : Int)   (hc : Ctx G (Lf) w) {res : daily_Record} (hF : law07_Four N least = some res) : Calls Try.prog 22 #[i6 least] w (fun e w => ∃ (p'1 : Option Addr) (c'1 : Nat),e = .returned (.agg #[i6 res.Rise,i6 res.Fall,.slice p'1 res.Days.length c'1]) ∧ Ctx G (.row p'1 c'1 (res.Days.map enc_daily_Value) 97 3::Lf) w) := by
 unfold law07_Four at hF
 refine fnIn Try.func22 rfl Try.ntmps22 rfl fun a hf => zS fun K h => zA hf hc zr_65 rfl fun b_1 a w hf hc => zT h ?_
 refine zS fun K h => ?_
 obtain ⟨r,hr,hF⟩ := bnd_some hF
 refine zQ (v := .agg #[.bool r.Known,i6 r.Flow.Lo,i6 r.Flow.Hi]) hf hc en_39 rfl (fun w hc => law07_known_ok 20 30 hc hr) fun a w hf hc => zP hf rfl (pBuildS (cells := [.bool false,i6 0,i6 0]) bt_97 rfl rfl) fun a hf => zP hf rfl (pBuildS (cells := [.bool false,i6 0,i6 0]) bt_97 rfl rfl) fun a hf => sp 1 hf rfl fun a hf => ?_
 obtain ⟨r_1,hr_1,hF⟩ := bnd_some hF
 refine zQ (v := .agg #[.bool r_1.Known,i6 r_1.Flow.Lo,i6 r_1.Flow.Hi]) hf hc en_39 rfl (fun w hc => law07_known_ok least 90 hc hr_1) fun a w hf hc => stBS (rows := ([r,(⟨false,(⟨0,0⟩ : api_Span)⟩ : daily_Value),(⟨false,(⟨0,0⟩ : api_Span)⟩ : daily_Value),r_1] : List daily_Value).map enc_daily_Value) (vs := [(0,.agg #[.bool r.Known,i6 r.Flow.Lo,i6 r.Flow.Hi]),(1,.agg #[.bool false,i6 0,i6 0]),(2,.agg #[.bool false,i6 0,i6 0]),(3,.agg #[.bool r_1.Known,i6 r_1.Flow.Lo,i6 r_1.Flow.Hi])]) hf hc rfl rfl sl_63 rfl ⟨rfl,rfl,rfl,rfl,rfl,rfl,rfl,rfl,rfl,rfl,rfl,rfl,trivial⟩ rfl rfl fun b_2 a w hf hc => zP hf rfl (pBuildS (cells := [i6 10,i6 5,.slice (some ⟨b_2,0,none⟩) 4 4]) bt_65 rfl rfl) fun a hf => zW hf hc sz_65 u1 rfl fun w hc => zT h ?_
 refine wp_ret ?_
 obtain rfl := sj hF
 exact fnOut1 (by simp) rfl Try.results22 hf hc (rv_cellN (vs := [i6 10,i6 5,.slice (some ⟨b_2,0,none⟩) 4 4]) ag_65 rfl rfl (cells_box (n := 3) m1 rfl)) ⟨(some ⟨b_2,0,none⟩),4,rfl,(hc.drop k1)⟩

def daily_flow (n : Int) : Bool :=
 (daily_in n 0 1000000000)
theorem daily_flow_ok {G : Pers} {Lf : List Ent} {w : World} (n : Int)   (hc : Ctx G (Lf) w) {res : Bool} (hF : daily_flow n = res) : Calls Try.prog 65 #[i6 n] w (fun e w => e = .returned (.bool res) ∧ Ctx G (Lf) w) := by
 unfold daily_flow at hF
 refine fnIn Try.func65 rfl Try.ntmps65 rfl fun a hf => zS fun K h => sp 1 hf rfl fun a hf => zT h ?_
 refine zS fun K h => sp 1 hf rfl fun a hf => zQ (v := .bool (daily_in n 0 1000000000)) hf hc en_30 rfl (fun w hc => daily_in_ok n 0 1000000000 hc rfl) fun a w hf hc => sp 1 hf rfl fun a hf => zT h ?_
 refine wp_ret ?_
 obtain rfl := hF
 exact zO1 Try.results65 hf rfl ⟨rfl,hc⟩

def daily_flows (s_ : api_Span) : Bool :=
 ((daily_in s_.Lo 0 s_.Hi) && (daily_flow s_.Hi))
theorem daily_flows_ok {G : Pers} {Lf : List Ent} {w : World} (s_ : api_Span)   (hc : Ctx G (Lf) w) {res : Bool} (hF : daily_flows s_ = res) : Calls Try.prog 47 #[.agg #[i6 s_.Lo,i6 s_.Hi]] w (fun e w => e = .returned (.bool res) ∧ Ctx G (Lf) w) := by
 unfold daily_flows at hF
 refine fnIn Try.func47 rfl Try.ntmps47 rfl fun a hf => zS fun K h => zB hf hc rfl fun b_1 a w hf hc => sp 1 hf rfl fun a hf => zT h ?_
 refine zS fun K h => zP hf rfl (pFA fa_68_0 rfl) fun a hf => zL hf hc sc_3 m0 rfl fun a w hf hc => zP hf rfl (pFA fa_68_1 rfl) fun a hf => zL hf hc sc_3 m0 rfl fun a w hf hc => zQ (v := .bool (daily_in s_.Lo 0 s_.Hi)) hf hc en_30 rfl (fun w hc => daily_in_ok s_.Lo 0 s_.Hi hc rfl) fun a w hf hc => sp 1 hf rfl fun a hf => stCc 4 (fun a => Has 13 a [(1,pq b_1),(2,.bool false),(3,pq b_1),(4,i6 s_.Lo),(5,.pointer (some ⟨b_1,1,none⟩)),(6,i6 s_.Hi),(7,.bool (daily_in s_.Lo 0 s_.Hi)),(8,.bool (daily_in s_.Lo 0 s_.Hi)),(12,.bool ((daily_in s_.Lo 0 s_.Hi) && (daily_flow s_.Hi)))]) hc ?_ ?_
 ·cases hb : (daily_in s_.Lo 0 s_.Hi)
  ·rw [hb] at hf
   refine stS hf rfl rfl rfl fun a hf => stS hf rfl rfl rfl fun a hf => stS hf rfl rfl rfl fun a hf => sp 1 hf rfl fun a hf => cNil ⟨hf.kp rfl,hc⟩
  ·rw [hb] at hf
   refine zP hf rfl (pFA fa_68_1 rfl) fun a hf => zL hf hc sc_3 m0 rfl fun a w hf hc => zQ (v := .bool (daily_flow s_.Hi)) hf hc en_65 rfl (fun w hc => daily_flow_ok s_.Hi hc rfl) fun a w hf hc => sp 1 hf rfl fun a hf => cNil ⟨hf.kp rfl,hc⟩
 intro a w ⟨hf,hc⟩
 refine sp 1 hf rfl fun a hf => zT h ?_
 refine wp_ret ?_
 obtain rfl := hF
 replace hc := hc.drop k0
 exact zO1 Try.results47 hf rfl ⟨rfl,hc⟩

def daily_Check_1 (v : daily_Value) : Bool :=
 ((!v.Known) || (daily_flows v.Flow))
theorem daily_Check_1_ok {G : Pers} {Lf : List Ent} {w : World} (v : daily_Value)   (hc : Ctx G (Lf) w) {res : Bool} (hF : daily_Check_1 v = res) : Calls Try.prog 67 #[.agg #[.bool v.Known,i6 v.Flow.Lo,i6 v.Flow.Hi]] w (fun e w => e = .returned (.bool res) ∧ Ctx G (Lf) w) := by
 unfold daily_Check_1 at hF
 refine fnIn Try.func67 rfl Try.ntmps67 rfl fun a hf => zS fun K h => zB hf hc rfl fun b_1 a w hf hc => sp 1 hf rfl fun a hf => zT h ?_
 refine zS fun K h => zP hf rfl (pFA fa_97_0 rfl) fun a hf => zL hf hc sc_4 m0 rfl fun a w hf hc => sp 2 hf rfl fun a hf => stCc 4 (fun a => Has 11 a [(1,pq b_1),(2,.bool false),(3,pq b_1),(4,.bool v.Known),(5,.bool (!v.Known)),(6,.bool (!v.Known)),(10,.bool ((!v.Known) || (daily_flows v.Flow)))]) hc ?_ ?_
 ·cases hb : (!v.Known)
  ·rw [hb] at hf
   refine zP hf rfl (pFA fa_97_1 rfl) fun a hf => zN hf hc ag_68 m0 rfl fun a w hf hc => zQ (v := .bool (daily_flows v.Flow)) hf hc en_47 rfl (fun w hc => daily_flows_ok v.Flow hc rfl) fun a w hf hc => sp 1 hf rfl fun a hf => cNil ⟨hf.kp rfl,hc⟩
  ·rw [hb] at hf
   refine stS hf rfl rfl rfl fun a hf => stS hf rfl rfl rfl fun a hf => stS hf rfl rfl rfl fun a hf => sp 1 hf rfl fun a hf => cNil ⟨hf.kp rfl,hc⟩
 intro a w ⟨hf,hc⟩
 refine sp 1 hf rfl fun a hf => zT h ?_
 refine wp_ret ?_
 obtain rfl := hF
 replace hc := hc.drop k0
 exact zO1 Try.results67 hf rfl ⟨rfl,hc⟩

def daily_every_daily_Value_1 (x : daily_Value) : Bool :=
 (!(daily_Check_1 (⟨x.Known,x.Flow⟩ : daily_Value)))
theorem daily_every_daily_Value_1_ok {G : Pers} {Lf : List Ent} {w : World} (x : daily_Value) {b_ : Nat}  (hc : Ctx G (.box b_ [.func (.func 67) #[] #[]] 130::Lf) w) {res : Bool} (hF : daily_every_daily_Value_1 x = res) : Calls Try.prog 84 #[.agg #[.bool x.Known,i6 x.Flow.Lo,i6 x.Flow.Hi],pq b_] w (fun e w => e = .returned (.bool res) ∧ Ctx G (.box b_ [.func (.func 67) #[] #[]] 130::Lf) w) := by
 unfold daily_every_daily_Value_1 at hF
 refine fnIn Try.func84 rfl Try.ntmps84 rfl fun a hf => zS fun K h => zB hf hc rfl fun b_1 a w hf hc => sp 1 hf rfl fun a hf => zT h ?_
 refine zS fun K h => zL hf hc sc_130 m1 rfl fun a w hf hc => zN hf hc ag_97 m0 rfl fun a w hf hc => zQ (v := .bool (daily_Check_1 (⟨x.Known,x.Flow⟩ : daily_Value))) hf hc en_67 rfl (fun w hc => daily_Check_1_ok (⟨x.Known,x.Flow⟩ : daily_Value) hc rfl) fun a w hf hc => sp 2 hf rfl fun a hf => zT h ?_
 refine wp_ret ?_
 obtain rfl := hF
 replace hc := hc.drop k0
 exact zO1 Try.results84 hf rfl ⟨rfl,hc⟩

def slices_IndexFunc_Ldaily_Value_daily_Value_b4 (N : Nat) (s_ : List daily_Value) (x : Int) : Option (Step (Int) (Int)) :=
 cond (decide (x < ((s_.length : Nat) : Int)))
 (Option.bind (getI s_ x) fun e_1 =>
 cond (daily_every_daily_Value_1 e_1)
 (some (.ret x))
 (some (.cont (W (x + 1)))))
 (some (.brk x))
def slices_IndexFunc_Ldaily_Value_daily_Value (N : Nat) (s_ : List daily_Value) : Option (Int) :=
 Option.bind (loopO (fun s4 => slices_IndexFunc_Ldaily_Value_daily_Value_b4 N s_ s4) N 0) fun x4 =>
 exK x4 (fun s4 => some (-1)) some
theorem slices_IndexFunc_Ldaily_Value_daily_Value_ok {N : Nat} {G : Pers} {Lf : List Ent} {w : World} (s_ : List daily_Value) {s__p : Option Addr} {s__c : Nat} {b_ : Nat} (h_s_ : Rd G 3 s__p s__c (s_.map enc_daily_Value)) (hc : Ctx G (.box b_ [.func (.func 67) #[] #[]] 130::Lf) w) {res : Int} (hF : slices_IndexFunc_Ldaily_Value_daily_Value N s_ = some res) : Calls Try.prog 89 #[.slice s__p s_.length s__c,.func (.func 84) #[] #[pq b_]] w (fun e w => e = .returned (i6 res) ∧ Ctx G (.box b_ [.func (.func 67) #[] #[]] 130::Lf) w) := by
 unfold slices_IndexFunc_Ldaily_Value_daily_Value at hF
 refine fnIn Try.func89 rfl Try.ntmps89 rfl fun a hf => zS fun K h => sp 1 hf rfl fun a hf => zT h ?_
 refine wp_seq_k fun K2 h2 => zS fun K h => sp 1 hf rfl fun a hf => zP hf rfl (pLenS Try.underlying63 rfl) fun a hf => sp 1 hf rfl fun a hf => zT h ?_
 refine wp_block ?_
 obtain ⟨x4,hx4,hF⟩ := bnd_some hF
 let S4 : Int → Act → World → Prop := (fun (zz : Int) a w => Has 19 a [(0,.slice s__p s_.length s__c),(1,.func (.func 84) #[] #[pq b_]),(7,i6 ((s_.length : Nat) : Int)),(8,i6 zz)] ∧ Ctx G (.box b_ [.func (.func 67) #[] #[]] 130::Lf) w)
 have hr4 : ∀ (zz : Int) a w,x4 = .go zz → S4 zz a w → K2 a w := by
  rintro x a w rfl ⟨hf,hc⟩
  replace hF := exK_go hF
  refine h2 _ _ ?_
  refine zS fun K h => sp 1 hf rfl fun a hf => zT h ?_
  refine wp_ret ?_
  obtain rfl := sj hF
  exact zO1 Try.results89 hf rfl ⟨rfl,hc⟩
 have ho4 : ∀ r,x4 = .out r → r = res := by
  rintro r rfl
  exact sj hF
 refine cLoop N (loopW (S := S4) (x := x4) ?_ N 0 _ _ ⟨hf.kp rfl,hc⟩ hx4)
 clear hF hf hc
 rintro x st4 a w KB4 ⟨hf,hc⟩ hF hfin4 hK4
 unfold slices_IndexFunc_Ldaily_Value_daily_Value_b4 at hF
 refine zS fun K h => sp 1 hf rfl fun a hf => zT h ?_
 refine wp_seq_k fun K7 h7 => zI hf rfl hF ?_ ?_ <;> clear hF <;> intro hF
 ·refine wp_skip ?_
  refine h7 _ _ ?_
  refine wp_seq_k fun K8 h8 => wp_block ?_
  refine zS fun K h => sp 2 hf rfl fun a hf => zT h ?_
  refine zS fun K h => sp 3 hf rfl fun a hf => ?_
  obtain ⟨e_1,he_1,hF⟩ := bnd_some hF
  obtain ⟨b_1,o,qa,qp⟩ := h_s_.atm he_1
  refine zP hf rfl (pIA Try.underlying63 sz_97 rfl rfl qa) fun a hf => zE hf hc rfl (eLdN (vs := [.bool e_1.Known,i6 e_1.Flow.Lo,i6 e_1.Flow.Hi]) ag_97 rfl rfl (cells_pc qp (n := 3) (o' := 0) rfl)) fun a w hf hc => zQ (v := .bool (daily_every_daily_Value_1 e_1)) hf hc en_84 rfl (fun w hc => (daily_every_daily_Value_1_ok e_1 (hc.pick k0) rfl).mono fun e w h => ⟨h.1,(h.2.unpick k0)⟩) fun a w hf hc => zT h ?_
  refine zI hf rfl hF ?_ ?_ <;> clear hF <;> intro hF
  ·refine zS fun K h => sp 2 hf rfl fun a hf => zT h ?_
   refine wp_ret ?_
   refine xBlkR ?_
   refine xThenR ?_
   refine xThenR ?_
   have he := sj hF
   rw [← he] at hfin4
   replace hF := ho4 _ hfin4
   refine xBlkR ?_
   refine xThenR ?_
   obtain rfl := hF
   exact zO1 Try.results89 hf rfl ⟨rfl,hc⟩
  ·refine wp_skip ?_
   refine h8 _ _ ?_
   refine cReg ?_
   refine sp 2 hf rfl fun a hf => cNil ?_
   exact hK4 (W (x + 1)) _ _ (sj hF).symm ⟨hf.kp rfl,hc⟩
 ·refine wp_exit ?_
  refine xThen ?_
  refine xThen ?_
  have he := sj hF
  rw [← he] at hfin4
  refine cHit ?_
  exact hr4 _ _ _ hfin4 ⟨hf.kp rfl,hc⟩

def slices_ContainsFunc_Ldaily_Value_daily_Value (N : Nat) (s_ : List daily_Value) : Option (Bool) :=
 Option.bind (slices_IndexFunc_Ldaily_Value_daily_Value N s_) fun r =>
 some (decide (0 ≤ r))
theorem slices_ContainsFunc_Ldaily_Value_daily_Value_ok {N : Nat} {G : Pers} {Lf : List Ent} {w : World} (s_ : List daily_Value) {s__p : Option Addr} {s__c : Nat} {b_ : Nat} (h_s_ : Rd G 3 s__p s__c (s_.map enc_daily_Value)) (hc : Ctx G (.box b_ [.func (.func 67) #[] #[]] 130::Lf) w) {res : Bool} (hF : slices_ContainsFunc_Ldaily_Value_daily_Value N s_ = some res) : Calls Try.prog 83 #[.slice s__p s_.length s__c,.func (.func 84) #[] #[pq b_]] w (fun e w => e = .returned (.bool res) ∧ Ctx G (.box b_ [.func (.func 67) #[] #[]] 130::Lf) w) := by
 unfold slices_ContainsFunc_Ldaily_Value_daily_Value at hF
 refine fnIn Try.func83 rfl Try.ntmps83 rfl fun a hf => zS fun K h => sp 1 hf rfl fun a hf => zT h ?_
 refine zS fun K h => sp 2 hf rfl fun a hf => ?_
 obtain ⟨r,hr,hF⟩ := bnd_some hF
 refine zQ (v := i6 r) hf hc en_89 rfl (fun w hc => (slices_IndexFunc_Ldaily_Value_daily_Value_ok s_ h_s_ (hc.pick k0) hr).mono fun e w h => ⟨h.1,(h.2.unpick k0)⟩) fun a w hf hc => sp 2 hf rfl fun a hf => zT h ?_
 refine wp_ret ?_
 obtain rfl := sj hF
 exact zO1 Try.results83 hf rfl ⟨rfl,hc⟩

def daily_every_daily_Value (N : Nat) (l : List daily_Value) : Option (Bool) :=
 Option.bind (slices_ContainsFunc_Ldaily_Value_daily_Value N l) fun r =>
 some (!r)
theorem daily_every_daily_Value_ok {N : Nat} {G : Pers} {Lf : List Ent} {w : World} (l : List daily_Value) {l_p : Option Addr} {l_c : Nat} (h_l : Rd G 3 l_p l_c (l.map enc_daily_Value)) (hc : Ctx G (Lf) w) {res : Bool} (hF : daily_every_daily_Value N l = some res) : Calls Try.prog 66 #[.slice l_p l.length l_c,.func (.func 67) #[] #[]] w (fun e w => e = .returned (.bool res) ∧ Ctx G (Lf) w) := by
 unfold daily_every_daily_Value at hF
 refine fnIn Try.func66 rfl Try.ntmps66 rfl fun a hf => zS fun K h => zB hf hc rfl fun b_1 a w hf hc => sp 1 hf rfl fun a hf => zT h ?_
 refine zS fun K h => sp 1 hf rfl fun a hf => zP hf rfl (pMF (us := [pq b_1]) rfl rfl) fun a hf => ?_
 obtain ⟨r,hr,hF⟩ := bnd_some hF
 refine zQ (v := .bool r) hf hc en_83 rfl (fun w hc => (slices_ContainsFunc_Ldaily_Value_daily_Value_ok l h_l (hc.pick k0) hr).mono fun e w h => ⟨h.1,(h.2.unpick k0)⟩) fun a w hf hc => sp 2 hf rfl fun a hf => zT h ?_
 refine wp_ret ?_
 obtain rfl := sj hF
 replace hc := hc.drop k0
 exact zO1 Try.results66 hf rfl ⟨rfl,hc⟩

def daily_Check (N : Nat) (r : daily_Record) : Option (Int) :=
 cond (!(daily_in ((r.Days.length : Nat) : Int) 1 60))
 (some 3)
 (Option.bind (cond ((!(daily_flow r.Rise)) || (!(daily_flow r.Fall))) (some true) (Option.bind (daily_every_daily_Value N r.Days) fun r_0 =>
 some (!r_0))) fun t_1 =>
 cond t_1
 (some 80)
 (some 0))
theorem daily_Check_ok {N : Nat} {G : Pers} {Lf : List Ent} {w : World} (r : daily_Record) {r_Days_p : Option Addr} {r_Days_c : Nat} (h_r_Days : Rd G 3 r_Days_p r_Days_c (r.Days.map enc_daily_Value)) (hc : Ctx G (Lf) w) {res : Int} (hF : daily_Check N r = some res) : Calls Try.prog 40 #[.agg #[i6 r.Rise,i6 r.Fall,.slice r_Days_p r.Days.length r_Days_c]] w (fun e w => e = .returned (i6 res) ∧ Ctx G (Lf) w) := by
 unfold daily_Check at hF
 refine fnIn Try.func40 rfl Try.ntmps40 rfl fun a hf => zS fun K h => zB hf hc rfl fun b_1 a w hf hc => sp 1 hf rfl fun a hf => zT h ?_
 refine wp_seq_k fun K2 h2 => wp_block ?_
 refine zS fun K h => zP hf rfl (pFA fa_65_2 rfl) fun a hf => zL hf hc sc_63 m0 rfl fun a w hf hc => zP hf rfl (pLenS Try.underlying63 rfl) fun a hf => zQ (v := .bool (daily_in ((r.Days.length : Nat) : Int) 1 60)) hf hc en_30 rfl (fun w hc => daily_in_ok ((r.Days.length : Nat) : Int) 1 60 hc rfl) fun a w hf hc => sp 2 hf rfl fun a hf => zT h ?_
 refine zI hf rfl hF ?_ ?_ <;> clear hF <;> intro hF
 ·refine zS fun K h => sp 1 hf rfl fun a hf => zT h ?_
  refine wp_ret ?_
  refine xBlkR ?_
  refine xThenR ?_
  obtain rfl := sj hF
  replace hc := hc.drop k0
  exact zO1 Try.results40 hf rfl ⟨rfl,hc⟩
 ·refine zS fun K h => zP hf rfl (pFA fa_65_0 rfl) fun a hf => zL hf hc sc_3 m0 rfl fun a w hf hc => zQ (v := .bool (daily_flow r.Rise)) hf hc en_65 rfl (fun w hc => daily_flow_ok r.Rise hc rfl) fun a w hf hc => sp 2 hf rfl fun a hf => stCc 5 (fun a => Has 26 a [(1,pq b_1),(10,pq b_1),(11,i6 r.Rise),(12,.bool (daily_flow r.Rise)),(13,.bool (!(daily_flow r.Rise))),(14,.bool (!(daily_flow r.Rise))),(19,.bool ((!(daily_flow r.Rise)) || (!(daily_flow r.Fall))))]) hc ?_ ?_
  ·cases hb : (!(daily_flow r.Rise))
   ·rw [hb] at hf
    refine zP hf rfl (pFA fa_65_1 rfl) fun a hf => zL hf hc sc_3 m0 rfl fun a w hf hc => zQ (v := .bool (daily_flow r.Fall)) hf hc en_65 rfl (fun w hc => daily_flow_ok r.Fall hc rfl) fun a w hf hc => sp 2 hf rfl fun a hf => cNil ⟨hf.kp rfl,hc⟩
   ·rw [hb] at hf
    refine stS hf rfl rfl rfl fun a hf => stS hf rfl rfl rfl fun a hf => stS hf rfl rfl rfl fun a hf => stS hf rfl rfl rfl fun a hf => sp 1 hf rfl fun a hf => cNil ⟨hf.kp rfl,hc⟩
  intro a w ⟨hf,hc⟩
  refine sp 1 hf rfl fun a hf => ?_
  obtain ⟨t_1,ht_1,hF⟩ := bnd_some hF
  refine stCc 5 (fun a => Has 26 a [(1,pq b_1),(10,pq b_1),(11,i6 r.Rise),(12,.bool (daily_flow r.Rise)),(13,.bool (!(daily_flow r.Rise))),(14,.bool (!(daily_flow r.Rise))),(19,.bool ((!(daily_flow r.Rise)) || (!(daily_flow r.Fall)))),(20,.bool ((!(daily_flow r.Rise)) || (!(daily_flow r.Fall)))),(25,.bool t_1)]) hc ?_ ?_
  ·cases hb : ((!(daily_flow r.Rise)) || (!(daily_flow r.Fall)))
   ·rw [hb] at hf
    have hF := condF hb ht_1
    refine zP hf rfl (pFA fa_65_2 rfl) fun a hf => zL hf hc sc_63 m0 rfl fun a w hf hc => ?_
    obtain ⟨r_0,hr_0,hF⟩ := bnd_some hF
    refine zQ (v := .bool r_0) hf hc en_66 rfl (fun w hc => daily_every_daily_Value_ok r.Days h_r_Days hc hr_0) fun a w hf hc => sp 2 hf rfl fun a hf => ?_
    obtain rfl := sj hF
    exact cNil ⟨hf.kp rfl,hc⟩
   ·rw [hb] at hf
    have hF := condT hb ht_1
    obtain rfl := sj hF
    refine stS hf rfl rfl rfl fun a hf => stS hf rfl rfl rfl fun a hf => stS hf rfl rfl rfl fun a hf => stS hf rfl rfl rfl fun a hf => sp 1 hf rfl fun a hf => cNil ⟨hf.kp rfl,hc⟩
  intro a w ⟨hf,hc⟩
  refine sp 1 hf rfl fun a hf => zT h ?_
  refine zI hf rfl hF ?_ ?_ <;> clear hF <;> intro hF
  ·refine zS fun K h => sp 1 hf rfl fun a hf => zT h ?_
   refine wp_ret ?_
   refine xBlkR ?_
   refine xThenR ?_
   obtain rfl := sj hF
   replace hc := hc.drop k0
   exact zO1 Try.results40 hf rfl ⟨rfl,hc⟩
  ·refine wp_skip ?_
   refine h2 _ _ ?_
   refine zS fun K h => sp 1 hf rfl fun a hf => zT h ?_
   refine wp_ret ?_
   obtain rfl := sj hF
   replace hc := hc.drop k0
   exact zO1 Try.results40 hf rfl ⟨rfl,hc⟩

def daily_Value_span (N : Nat) (v : daily_Value) : Option (api_Span) :=
 cond v.Known
 (some v.Flow)
 (some (⟨0,1000000000⟩ : api_Span))
theorem daily_Value_span_ok {N : Nat} {G : Pers} {Lf : List Ent} {w : World} (v : daily_Value)   (hc : Ctx G (Lf) w) {res : api_Span} (hF : daily_Value_span N v = some res) : Calls Try.prog 45 #[.agg #[.bool v.Known,i6 v.Flow.Lo,i6 v.Flow.Hi]] w (fun e w => e = .returned (.agg #[i6 res.Lo,i6 res.Hi]) ∧ Ctx G (Lf) w) := by
 unfold daily_Value_span at hF
 refine fnIn Try.func45 rfl Try.ntmps45 rfl fun a hf => zS fun K h => zB hf hc rfl fun b_1 a w hf hc => zA hf hc zr_68 rfl fun b_2 a w hf hc => zT h ?_
 refine wp_seq_k fun K2 h2 => zS fun K h => zP hf rfl (pFA fa_97_0 rfl) fun a hf => zL hf hc sc_4 m1 rfl fun a w hf hc => zT h ?_
 refine zI hf rfl hF ?_ ?_ <;> clear hF <;> intro hF
 ·refine zS fun K h => zP hf rfl (pFA fa_97_1 rfl) fun a hf => zN hf hc ag_68 m1 rfl fun a w hf hc => zW hf hc sz_68 u0 rfl fun w hc => zT h ?_
  refine wp_ret ?_
  refine xThenR ?_
  obtain rfl := sj hF
  replace hc := hc.drop k1
  exact fnOut1 (by simp) rfl Try.results45 hf hc (rv_cellN (vs := [i6 v.Flow.Lo,i6 v.Flow.Hi]) ag_68 rfl rfl (cells_box (n := 2) m0 rfl)) ⟨rfl,(hc.drop k0)⟩
 ·refine wp_skip ?_
  refine h2 _ _ ?_
  refine zS fun K h => zP hf rfl (pBuildS (cells := [i6 0,i6 1000000000]) bt_68 rfl rfl) fun a hf => zW hf hc sz_68 u0 rfl fun w hc => zT h ?_
  refine wp_ret ?_
  obtain rfl := sj hF
  replace hc := hc.drop k1
  exact fnOut1 (by simp) rfl Try.results45 hf hc (rv_cellN (vs := [i6 0,i6 1000000000]) ag_68 rfl rfl (cells_box (n := 2) m0 rfl)) ⟨rfl,(hc.drop k0)⟩

def daily_work_pairs (N : Nat) (w_ : daily_work) (back : Bool) : Option (Bool) :=
 some back
theorem daily_work_pairs_ok {N : Nat} {G : Pers} {Lf : List Ent} {w : World} (w_ : daily_work) (back : Bool) {b_ : Nat} {w__Record_Days_p : Option Addr} {w__Record_Days_c : Nat} {w__spans_p : Option Addr} {w__spans_c : Nat} (h_w__Record_Days : Rd G 3 w__Record_Days_p w__Record_Days_c (w_.Record.Days.map enc_daily_Value)) (h_w__spans : Rd G 2 w__spans_p w__spans_c (w_.spans.map enc_api_Span)) (hc : Ctx G (.box b_ [i6 w_.Record.Rise,i6 w_.Record.Fall,.slice w__Record_Days_p w_.Record.Days.length w__Record_Days_c,.slice w__spans_p w_.spans.length w__spans_c] 95::Lf) w) {res : Bool} (hF : daily_work_pairs N w_ back = some res) : Calls Try.prog 81 #[pq b_,.bool back] w (fun e w => ∃ (b'1 : Nat) (b'2 : Nat),e = .returned (.func (.func 88) #[] #[pq b'1,pq b'2]) ∧ Ctx G (.box b'1 [pq b_] 91::.box b'2 [.bool res] 4::.box b_ [i6 w_.Record.Rise,i6 w_.Record.Fall,.slice w__Record_Days_p w_.Record.Days.length w__Record_Days_c,.slice w__spans_p w_.spans.length w__spans_c] 95::Lf) w) := by
 unfold daily_work_pairs at hF
 refine fnIn Try.func81 rfl Try.ntmps81 rfl fun a hf => zS fun K h => zB hf hc rfl fun b_1 a w hf hc => zB hf hc rfl fun b_2 a w hf hc => sp 1 hf rfl fun a hf => zT h ?_
 refine zS fun K h => zP hf rfl (pMF (us := [pq b_1,pq b_2]) rfl rfl) fun a hf => sp 1 hf rfl fun a hf => zT h ?_
 refine wp_ret ?_
 obtain rfl := sj hF
 replace hc := (hc.pick k0).pick k1
 exact zO1 Try.results81 hf rfl ⟨b_1,b_2,rfl,hc⟩

def daily_work_pairs_1_j9 (N : Nat) {σ : Type} (y : σ → (Int × Int) → Option (σ × Bool)) (x_0 : Int) (a_1 : Int) (b_1 : Int) (sg_1 : σ) : Option (Step (Int × σ) (σ)) :=
 Option.bind (y sg_1 (a_1,b_1)) fun ry =>
 cond (!ry.2)
 (some (.ret ry.1))
 (some (.cont (W (x_0 + 1),ry.1)))
def daily_work_pairs_1_b3 (N : Nat) {σ : Type} (x_2 : List daily_Value) (x_3 : Bool) (y : σ → (Int × Int) → Option (σ × Bool)) (x_0 : Int) (sg : σ) : Option (Step (Int × σ) (σ)) :=
 cond (decide (x_0 < (W (((x_2.length : Nat) : Int) - 1))))
 (cond x_3
 (daily_work_pairs_1_j9 N y x_0 (W ((W (((x_2.length : Nat) : Int) - 1)) - x_0)) (W ((W (((x_2.length : Nat) : Int) - 2)) - x_0)) sg)
 (daily_work_pairs_1_j9 N y x_0 x_0 (W (x_0 + 1)) sg))
 (some (.brk (x_0,sg)))
def daily_work_pairs_1 (N : Nat) {σ : Type} (x : Int) (x_1 : Int) (x_2 : List daily_Value) (x_3 : Bool) (y : σ → (Int × Int) → Option (σ × Bool)) (sg0 : σ) : Option (σ) :=
 Option.bind (loopO (fun s3 => daily_work_pairs_1_b3 N x_2 x_3 y s3.1 s3.2) N (0,sg0)) fun x3 =>
 exK x3 (fun s3 => some s3.2) some
theorem daily_work_pairs_1_ok {N : Nat} {G : Pers} {Lf : List Ent} {w : World} {σ : Type} (x : Int) (x_1 : Int) (x_2 : List daily_Value) (x_3 : Bool) {b_ : Nat} {b__1 : Nat} {x_2_p : Option Addr} {x_2_c : Nat} {x_o_p : Option Addr} {x_o_n : Nat} {x_o_c : Nat} {b__2 : Nat} (h_x_2 : Rd G 3 x_2_p x_2_c (x_2.map enc_daily_Value)) (J : σ → List Ent → Prop) (y : σ → (Int × Int) → Option (σ × Bool)) {l : Nat} (hy : YieldsTo Try.prog G l (fun x : (Int × Int) => [i6 x.1,i6 x.2]) J y) (sg0 : σ) {Ls0 : List Ent} (hJ0 : J sg0 Ls0) (hJe : ∀ (o : σ) (L : List Ent),J o L → ∃ A B,L = A ++ (.box b__1 [i6 x,i6 x_1,.slice x_2_p x_2.length x_2_c,.slice x_o_p x_o_n x_o_c] 95::B)) (hc : Ctx G (.box b_ [pq b__1] 91::.box b__2 [.bool x_3] 4::(Ls0 ++ Lf)) w) {res : σ} (hF : daily_work_pairs_1 N x x_1 x_2 x_3 y sg0 = some res) : Calls Try.prog 88 #[.func (.yield l) #[] #[],pq b_,pq b__2] w (fun e w => (∃ v,e = .returned v) ∧ ∃ L,J res L ∧ Ctx G (.box b_ [pq b__1] 91::.box b__2 [.bool x_3] 4::(L ++ Lf)) w) := by
 unfold daily_work_pairs_1 at hF
 refine fnIn Try.func88 rfl Try.ntmps88 rfl fun a hf => wp_seq_k fun K1 h1 => ?_
 obtain ⟨As,Bs,hsh_⟩ := hJe _ _ hJ0
 rw [hsh_] at hc hJ0
 replace hc : Ctx G (.box b_ [pq b__1] 91::.box b__2 [.bool x_3] 4::((As ++ (.box b__1 [i6 x,i6 x_1,.slice x_2_p x_2.length x_2_c,.slice x_o_p x_o_n x_o_c] 95::Bs)) ++ Lf)) w := hc
 replace hc : Ctx G (.box b__1 [i6 x,i6 x_1,.slice x_2_p x_2.length x_2_c,.slice x_o_p x_o_n x_o_c] 95::.box b_ [pq b__1] 91::.box b__2 [.bool x_3] 4::((As ++ Bs) ++ Lf)) w := shOut [.box b_ [pq b__1] 91,.box b__2 [.bool x_3] 4] hc
 refine cReg ?_
 refine zL hf hc sc_91 m1 rfl fun a w hf hc => sp 1 hf rfl fun a hf => zP hf rfl (pFA fa_95_0 rfl) fun a hf => zP hf rfl (pFA fa_65_2 rfl) fun a hf => zL hf hc sc_63 m0 rfl fun a w hf hc => zP hf rfl (pLenS Try.underlying63 rfl) fun a hf => sp 2 hf rfl fun a hf => cNil ?_
 replace hc : Ctx G (.box b_ [pq b__1] 91::.box b__2 [.bool x_3] 4::((As ++ (.box b__1 [i6 x,i6 x_1,.slice x_2_p x_2.length x_2_c,.slice x_o_p x_o_n x_o_c] 95::Bs)) ++ Lf)) w := shIn [.box b_ [pq b__1] 91,.box b__2 [.bool x_3] 4] hc
 refine h1 _ _ ?_
 refine wp_thenK fun K2 h2 => wp_block ?_
 obtain ⟨x3,hx3,hF⟩ := bnd_some hF
 let S3 : (Int × σ) → Act → World → Prop := (fun (zz : Int × σ) a w => ∃ (Ls : List Ent),J zz.2 Ls ∧ Has 45 a [(0,.func (.yield l) #[] #[]),(1,pq b_),(2,pq b__2),(13,i6 (W (((x_2.length : Nat) : Int) - 1))),(14,i6 zz.1)] ∧ Ctx G (.box b_ [pq b__1] 91::.box b__2 [.bool x_3] 4::(Ls ++ Lf)) w)
 have hr3 : ∀ (zz : Int × σ) a w,x3 = .go zz → S3 zz a w → K2 a w := by
  rintro ⟨x_0,sg⟩ a w rfl ⟨Ls,hJ,hf,hc⟩
  replace hF := exK_go hF
  refine h2 _ _ ?_
  obtain rfl := sj hF
  exact fnOut0 (by simp) rfl Try.results88 hf ⟨⟨_,rfl⟩,Ls,hJ,hc⟩
 have ho3 : ∀ r,x3 = .out r → r = res := by
  rintro r rfl
  exact sj hF
 refine cLoop N (loopW (S := S3) (x := x3) ?_ N (0,sg0) _ _ ⟨(As ++ (.box b__1 [i6 x,i6 x_1,.slice x_2_p x_2.length x_2_c,.slice x_o_p x_o_n x_o_c] 95::Bs)),hJ0,hf.kp rfl,hc⟩ hx3)
 clear hF hf hc
 rintro ⟨x_0,sg⟩ st3 a w KB3 ⟨Ls,hJ,hf,hc⟩ hF hfin3 hK3
 unfold daily_work_pairs_1_b3 at hF
 refine zS fun K h => sp 1 hf rfl fun a hf => zT h ?_
 refine wp_seq_k fun K5 h5 => zI hf rfl hF ?_ ?_ <;> clear hF <;> intro hF
 ·refine wp_skip ?_
  refine h5 _ _ ?_
  refine wp_seq_k fun K6 h6 => wp_block ?_
  refine zS fun K h => sp 2 hf rfl fun a hf => zT h ?_
  refine zS fun K h => sp 5 hf rfl fun a hf => zT h ?_
  refine wp_seq_k fun K9 h9 => ?_
  have hj9 : ∀ (a_1 : Int) (b_1 : Int) (sg_1 : σ) (Ls_1 : List Ent) a w,J sg_1 Ls_1 → Has 45 a [(0,.func (.yield l) #[] #[]),(1,pq b_),(2,pq b__2),(5,i6 a_1),(6,i6 b_1),(13,i6 (W (((x_2.length : Nat) : Int) - 1))),(14,i6 x_0)] → Ctx G (.box b_ [pq b__1] 91::.box b__2 [.bool x_3] 4::(Ls_1 ++ Lf)) w → daily_work_pairs_1_j9 N y x_0 a_1 b_1 sg_1 = some st3 → K9 a w := by
   repeat (clear hF)
   repeat (clear hc)
   repeat (clear hf)
   intro a_1 b_1 sg_1 Ls_1 a w hJ_1 hf hc hF
   unfold daily_work_pairs_1_j9 at hF
   refine h9 _ _ ?_
   refine wp_seq_k fun K10 h10 => ?_
   obtain ⟨ry,hry,hF⟩ := bnd_some hF
   refine yReg 3 (fun a w => Has 45 a [(0,.func (.yield l) #[] #[]),(1,pq b_),(2,pq b__2),(5,i6 a_1),(6,i6 b_1),(13,i6 (W (((x_2.length : Nat) : Int) - 1))),(14,i6 x_0),(39,.func (.yield l) #[] #[]),(40,i6 a_1),(41,i6 b_1)] ∧ Ctx G (.box b_ [pq b__1] 91::.box b__2 [.bool x_3] 4::(Ls_1 ++ Lf)) w) (fun _ _ h => by obtain ⟨⟨_,h⟩,_⟩ := h; cases h) ?_ ?_
   ·refine sp 3 hf rfl fun a hf => cNil ⟨hf.kp rfl,hc⟩
   rintro a w ⟨hf,hc⟩
   refine stY (own := [.box b_ [pq b__1] 91,.box b__2 [.bool x_3] 4]) (v := (a_1,b_1)) hy hJ_1 hry hf hc rfl rfl rfl rfl rfl rfl fun a w Ls_2 hJ_2 hf hc => ?_
   replace hc : Ctx G (.box b_ [pq b__1] 91::.box b__2 [.bool x_3] 4::(Ls_2 ++ Lf)) w := hc
   refine yRest (fun _ _ h => by obtain ⟨⟨_,h⟩,_⟩ := h; cases h) ?_
   refine sp 1 hf rfl fun a hf => cNil ?_
   refine h10 _ _ ?_
   refine zI hf rfl hF ?_ ?_ <;> clear hF <;> intro hF
   ·refine wp_ret ?_
    refine xBlkR ?_
    refine xThenR ?_
    refine xThenR ?_
    have he := sj hF
    rw [← he] at hfin3
    replace hF := ho3 _ hfin3
    refine xBlkR ?_
    refine xThenR ?_
    obtain rfl := hF
    exact fnOut0 (by simp) rfl Try.results88 hf ⟨⟨_,rfl⟩,Ls_2,hJ_2,hc⟩
   ·refine wp_skip ?_
    refine h6 _ _ ?_
    refine cReg ?_
    refine sp 2 hf rfl fun a hf => cNil ?_
    exact hK3 (W (x_0 + 1),ry.1) _ _ (sj hF).symm ⟨Ls_2,hJ_2,hf.kp rfl,hc⟩
  refine zS fun K h => zL hf hc sc_4 m1 rfl fun a w hf hc => zT h ?_
  refine zI hf rfl hF ?_ ?_ <;> clear hF <;> intro hF
  ·obtain ⟨As_1,Bs_1,hsh_⟩ := hJe _ _ hJ
   rw [hsh_] at hc hJ
   replace hc : Ctx G (.box b_ [pq b__1] 91::.box b__2 [.bool x_3] 4::((As_1 ++ (.box b__1 [i6 x,i6 x_1,.slice x_2_p x_2.length x_2_c,.slice x_o_p x_o_n x_o_c] 95::Bs_1)) ++ Lf)) w := hc
   replace hc : Ctx G (.box b__1 [i6 x,i6 x_1,.slice x_2_p x_2.length x_2_c,.slice x_o_p x_o_n x_o_c] 95::.box b_ [pq b__1] 91::.box b__2 [.bool x_3] 4::((As_1 ++ Bs_1) ++ Lf)) w := shOut [.box b_ [pq b__1] 91,.box b__2 [.bool x_3] 4] hc
   refine cQ hc follows_mx (by kernel_rfl) ?_
   refine qE hf rfl rfl rfl (eLd1 sc_91 rfl (cell_box m1 rfl)) fun a hf => qE hf rfl rfl rfl (Pu.ev (pNC rfl)) fun a hf => qE hf rfl rfl rfl (Pu.ev (pFA fa_95_0 rfl)) fun a hf => qE hf rfl rfl rfl (Pu.ev (pFA fa_65_2 rfl)) fun a hf => qE hf rfl rfl rfl (eLd1 sc_63 rfl (cell_box m0 rfl)) fun a hf => qE hf rfl rfl rfl (Pu.ev (pLenS Try.underlying63 rfl)) fun a hf => qE hf rfl rfl rfl (Pu.ev (pSub rfl rfl)) fun a hf => qE hf rfl rfl rfl (Pu.ev (pM rfl)) fun a hf => qE hf rfl rfl rfl (Pu.ev (pSub rfl rfl)) fun a hf => qE hf rfl rfl rfl (eLd1 sc_91 rfl (cell_box m1 rfl)) fun a hf => qE hf rfl rfl rfl (Pu.ev (pNC rfl)) fun a hf => qE hf rfl rfl rfl (Pu.ev (pFA fa_95_0 rfl)) fun a hf => qE hf rfl rfl rfl (Pu.ev (pFA fa_65_2 rfl)) fun a hf => ?_
   refine qE hf rfl rfl rfl (eLd1 sc_63 rfl (cell_box m0 rfl)) fun a hf => qE hf rfl rfl rfl (Pu.ev (pLenS Try.underlying63 rfl)) fun a hf => qE hf rfl rfl rfl (Pu.ev (pSub rfl rfl)) fun a hf => qE hf rfl rfl rfl (Pu.ev (pM rfl)) fun a hf => qE hf rfl rfl rfl (Pu.ev (pSub rfl rfl)) fun a hf => qE hf rfl rfl rfl (Pu.ev (pA rfl)) fun a hf => qE hf rfl rfl rfl (Pu.ev (pA rfl)) fun a hf => ?_
   intro w hc
   replace hc : Ctx G (.box b_ [pq b__1] 91::.box b__2 [.bool x_3] 4::((As_1 ++ (.box b__1 [i6 x,i6 x_1,.slice x_2_p x_2.length x_2_c,.slice x_o_p x_o_n x_o_c] 95::Bs_1)) ++ Lf)) w := shIn [.box b_ [pq b__1] 91,.box b__2 [.bool x_3] 4] hc
   exact hj9 (W ((W (((x_2.length : Nat) : Int) - 1)) - x_0)) (W ((W (((x_2.length : Nat) : Int) - 2)) - x_0)) sg (As_1 ++ (.box b__1 [i6 x,i6 x_1,.slice x_2_p x_2.length x_2_c,.slice x_o_p x_o_n x_o_c] 95::Bs_1)) _ _ hJ (hf.kp rfl) hc hF
  ·refine wp_skip ?_
   exact hj9 x_0 (W (x_0 + 1)) sg Ls _ _ hJ (hf.kp rfl) hc hF
 ·refine wp_exit ?_
  refine xThen ?_
  refine xThen ?_
  have he := sj hF
  rw [← he] at hfin3
  refine cHit ?_
  exact hr3 _ _ _ hfin3 ⟨Ls,hJ,hf.kp rfl,hc⟩

def daily_opened_1 (N : Nat) (i_ : Int) (low : Int) (high : Int) (x : Int) (x_1 : Int) (x_2 : List daily_Value) (x_3 : List api_Span) : Option ((List api_Span)) :=
 Option.bind (getI x_3 i_) fun e_1 =>
 Option.bind (sameL ((x_3.set i_.toNat (⟨max e_1.Lo low,e_1.Hi⟩ : api_Span)).set i_.toNat (⟨max e_1.Lo low,min e_1.Hi high⟩ : api_Span)) x_3) fun _ =>
 some ((x_3.set i_.toNat (⟨max e_1.Lo low,e_1.Hi⟩ : api_Span)).set i_.toNat (⟨max e_1.Lo low,min e_1.Hi high⟩ : api_Span))
theorem daily_opened_1_ok {N : Nat} {G : Pers} {Lf : List Ent} {w : World} (i_ : Int) (low : Int) (high : Int) (x : Int) (x_1 : Int) (x_2 : List daily_Value) (x_3 : List api_Span) {b_ : Nat} {b__1 : Nat} {x_2_p : Option Addr} {x_2_c : Nat} {x_3_p : Option Addr} {x_3_c : Nat} (h_x_2 : Rd G 3 x_2_p x_2_c (x_2.map enc_daily_Value)) (hc : Ctx G (.box b_ [pq b__1] 91::.box b__1 [i6 x,i6 x_1,.slice x_2_p x_2.length x_2_c,.slice x_3_p x_3.length x_3_c] 95::.row x_3_p x_3_c (x_3.map enc_api_Span) 68 2::Lf) w) {res : (List api_Span)} (hF : daily_opened_1 N i_ low high x x_1 x_2 x_3 = some res) : Calls Try.prog 80 #[i6 i_,i6 low,i6 high,pq b_] w (fun e w => e = .returned (.tuple #[]) ∧ res.length = x_3.length ∧ Ctx G (.box b_ [pq b__1] 91::.box b__1 [i6 x,i6 x_1,.slice x_2_p x_2.length x_2_c,.slice x_3_p x_3.length x_3_c] 95::.row x_3_p x_3_c (res.map enc_api_Span) 68 2::Lf) w) := by
 unfold daily_opened_1 at hF
 refine fnIn Try.func80 rfl Try.ntmps80 rfl fun a hf => zS fun K h => zL hf hc sc_91 m0 rfl fun a w hf hc => sp 1 hf rfl fun a hf => zP hf rfl (pFA fa_95_1 rfl) fun a hf => zL hf hc sc_60 m1 rfl fun a w hf hc => sp 1 hf rfl fun a hf => ?_
 obtain ⟨e_1,he_1,hF⟩ := bnd_some hF
 obtain ⟨g,rfl,qa,qr⟩ := row_atm hc m2 he_1
 refine zP hf rfl (pIA Try.underlying60 sz_68 rfl rfl qa) fun a hf => sp 1 hf rfl fun a hf => zT h ?_
 refine regionE (fun θ => [⟨none,none,1,i6 low⟩,⟨none,none,2,i6 high⟩,⟨none,none,7,.pointer (some ⟨g,i_.toNat * 2,none⟩)⟩,⟨some 0,none,14,.pointer (some ⟨g,i_.toNat * 2,none⟩)⟩,⟨some 1,none,15,.pointer (some ⟨g,i_.toNat * 2,none⟩)⟩,⟨some 2,none,16,.pointer (some ⟨g,i_.toNat * 2,none⟩)⟩,⟨some 3,none,17,.pointer (some ⟨g,i_.toNat * 2,none⟩)⟩,⟨some 4,none,18,.pointer (some ⟨g,i_.toNat * 2 + 0,none⟩)⟩,⟨some 5,none,19,i6 e_1.Lo⟩,⟨some 6,none,20,i6 low⟩,⟨some 7,none,21,i6 (max e_1.Lo low)⟩,⟨some 8,none,22,.pointer (some ⟨g,i_.toNat * 2,none⟩)⟩,⟨some 9,none,23,.pointer (some ⟨g,i_.toNat * 2,none⟩)⟩,⟨some 10,none,24,.pointer (some ⟨g,i_.toNat * 2 + 1,none⟩)⟩,⟨some 11,none,25,i6 e_1.Hi⟩,⟨some 12,none,26,i6 high⟩,⟨some 13,none,27,i6 (min e_1.Hi high)⟩,⟨some 14,none,28,.pointer (some ⟨g,i_.toNat * 2,none⟩)⟩,⟨some 15,none,29,.pointer (some ⟨g,i_.toNat * 2 + 0,none⟩)⟩,⟨some 17,none,30,.pointer (some ⟨g,i_.toNat * 2,none⟩)⟩,⟨some 18,none,31,.pointer (some ⟨g,i_.toNat * 2 + 1,none⟩)⟩]) (fun E θ => .box b_ [pq b__1] 91::.box b__1 [i6 x,i6 x_1,.slice x_2_p x_2.length x_2_c,.slice (some ⟨g,0,none⟩) x_3.length x_3_c] 95::(bif E 19 then .row (some ⟨g,0,none⟩) x_3_c (((x_3.set i_.toNat (⟨max e_1.Lo low,e_1.Hi⟩ : api_Span)).set i_.toNat (⟨max e_1.Lo low,min e_1.Hi high⟩ : api_Span)).map enc_api_Span) 68 2 else bif E 16 then .row (some ⟨g,0,none⟩) x_3_c ((x_3.set i_.toNat (⟨max e_1.Lo low,e_1.Hi⟩ : api_Span)).map enc_api_Span) 68 2 else .row (some ⟨g,0,none⟩) x_3_c (x_3.map enc_api_Span) 68 2)::Lf) [(16,5),(19,5),(16,11),(19,11),(19,16)] (fun a w => Has 32 a [] ∧ Ctx G (.box b_ [pq b__1] 91::.box b__1 [i6 x,i6 x_1,.slice x_2_p x_2.length x_2_c,.slice (some ⟨g,0,none⟩) x_3.length x_3_c] 95::.row (some ⟨g,0,none⟩) x_3_c (((x_3.set i_.toNat (⟨max e_1.Lo low,e_1.Hi⟩ : api_Span)).set i_.toNat (⟨max e_1.Lo low,min e_1.Hi high⟩ : api_Span)).map enc_api_Span) 68 2::Lf) w) follows_mx (by kernel_rfl) (by kernel_rfl) (HasE.of hf ⟨rfl,rfl,rfl,trivial,trivial,trivial,trivial,trivial,trivial,trivial,trivial,trivial,trivial,trivial,trivial,trivial,trivial,trivial,trivial,trivial,trivial,trivial⟩) hc ⟨?_,?_,?_,?_,?_,?_,?_,?_,?_,?_,?_,?_,?_,?_,?_,?_,?_,?_,?_,?_,trivial⟩ ?_ ?_
 ·intro E θ a w hD hi hp he hc
  have hf := he.h0.mT he 2 rfl
  refine sp 1 hf rfl fun a hf => zD θ he hi hf 3 rfl rfl rfl hc
 ·intro E θ a w hD hi hp he hc
  have hf := he.h0.mT he 2 rfl
  refine sp 1 hf rfl fun a hf => zD θ he hi hf 4 rfl rfl rfl hc
 ·intro E θ a w hD hi hp he hc
  have hf := he.h0.mT he 2 rfl
  refine sp 1 hf rfl fun a hf => zD θ he hi hf 5 rfl rfl rfl hc
 ·intro E θ a w hD hi hp he hc
  have e2 := hp.o 2 rfl
  have hf := he.h0.mP he 5 rfl e2
  refine sp 1 hf rfl fun a hf => zD θ he hi hf 6 rfl rfl rfl hc
 ·intro E θ a w hD hi hp he hc
  have e3 := hp.o 3 rfl
  have hf := he.h0.mP he 6 rfl e3
  refine zP hf rfl (pFA fa_68_0 rfl) fun a hf => zD θ he hi hf 7 rfl rfl rfl hc
 ·intro E θ a w hD hi hp he hc
  have e4 := hp.o 4 rfl
  have e16 := hD.f 0 rfl hi
  have e19 := hD.f 1 rfl hi
  try dsimp only at hc
  rw [e16,e19] at hc
  have hf := he.h0.mP he 7 rfl e4
  refine zE hf hc rfl (eLd1 sc_3 rfl (cell_row (sz := 2) (i := i_.toNat) (j := 0) m2 qr rfl)) fun a w hf hc => zD θ he hi hf 8 rfl rfl rfl ?_
  try dsimp only
  rw [updE_fls 5 e16 rfl,updE_fls 5 e19 rfl]
  exact hc
 ·intro E θ a w hD hi hp he hc
  have hf := he.h0.mT he 0 rfl
  refine sp 1 hf rfl fun a hf => zD θ he hi hf 9 rfl rfl rfl hc
 ·intro E θ a w hD hi hp he hc
  have e5 := hp.o 5 rfl
  have e6 := hp.o 6 rfl
  have hf := (he.h0.mP he 8 rfl e5).mP he 9 rfl e6
  refine zP hf rfl (pMax2 rfl rfl) fun a hf => zD θ he hi hf 10 rfl rfl rfl hc
 ·intro E θ a w hD hi hp he hc
  have hf := he.h0.mT he 2 rfl
  refine sp 1 hf rfl fun a hf => zD θ he hi hf 11 rfl rfl rfl hc
 ·intro E θ a w hD hi hp he hc
  have e8 := hp.o 8 rfl
  have hf := he.h0.mP he 11 rfl e8
  refine sp 1 hf rfl fun a hf => zD θ he hi hf 12 rfl rfl rfl hc
 ·intro E θ a w hD hi hp he hc
  have e9 := hp.o 9 rfl
  have hf := he.h0.mP he 12 rfl e9
  refine zP hf rfl (pFA fa_68_1 rfl) fun a hf => zD θ he hi hf 13 rfl rfl rfl hc
 ·intro E θ a w hD hi hp he hc
  have e10 := hp.o 10 rfl
  have e16 := hD.f 2 rfl hi
  have e19 := hD.f 3 rfl hi
  try dsimp only at hc
  rw [e16,e19] at hc
  have hf := he.h0.mP he 13 rfl e10
  refine zE hf hc rfl (eLd1 sc_3 rfl (cell_row (sz := 2) (i := i_.toNat) (j := 1) m2 qr rfl)) fun a w hf hc => zD θ he hi hf 14 rfl rfl rfl ?_
  try dsimp only
  rw [updE_fls 11 e16 rfl,updE_fls 11 e19 rfl]
  exact hc
 ·intro E θ a w hD hi hp he hc
  have hf := he.h0.mT he 1 rfl
  refine sp 1 hf rfl fun a hf => zD θ he hi hf 15 rfl rfl rfl hc
 ·intro E θ a w hD hi hp he hc
  have e11 := hp.o 11 rfl
  have e12 := hp.o 12 rfl
  have hf := (he.h0.mP he 14 rfl e11).mP he 15 rfl e12
  refine zP hf rfl (pMin2 rfl rfl) fun a hf => zD θ he hi hf 16 rfl rfl rfl hc
 ·intro E θ a w hD hi hp he hc
  have e0 := hp.o 0 rfl
  have hf := he.h0.mP he 3 rfl e0
  refine sp 1 hf rfl fun a hf => zD θ he hi hf 17 rfl rfl rfl hc
 ·intro E θ a w hD hi hp he hc
  have e14 := hp.o 14 rfl
  have hf := he.h0.mP he 17 rfl e14
  refine zP hf rfl (pFA fa_68_0 rfl) fun a hf => zD θ he hi hf 18 rfl rfl rfl hc
 ·intro E θ a w hD hi hp he hc
  have e7 := hp.o 7 rfl
  have e15 := hp.o 15 rfl
  have e19 := hD.f 4 rfl hi
  try dsimp only at hc
  rw [hi,e19] at hc
  have hf := (he.h0.mP he 10 rfl e7).mP he 18 rfl e15
  refine stRw (sz := 2) (vs := [i6 (max e_1.Lo low)]) (o' := 0) (z := (⟨max e_1.Lo low,e_1.Hi⟩ : api_Span)) (xs := x_3) hf hc rfl rfl rfl rfl sz_3 rfl (fun x => (one_enc_api_Span x).1) (getI_lt he_1) (fun e' he' => by cases (he'.symm.trans (getI_spec he_1).2); rfl) rfl u2 fun w hc => zG θ he hi hf rfl ?_
  try dsimp only
  rw [updE_self E 16,updE_fls 16 e19 rfl]
  exact hc
 ·intro E θ a w hD hi hp he hc
  have e1 := hp.o 1 rfl
  have hf := he.h0.mP he 4 rfl e1
  refine sp 1 hf rfl fun a hf => zD θ he hi hf 19 rfl rfl rfl hc
 ·intro E θ a w hD hi hp he hc
  have e17 := hp.o 17 rfl
  have hf := he.h0.mP he 19 rfl e17
  refine zP hf rfl (pFA fa_68_1 rfl) fun a hf => zD θ he hi hf 20 rfl rfl rfl hc
 ·intro E θ a w hD hi hp he hc
  have e13 := hp.o 13 rfl
  have e18 := hp.o 18 rfl
  have e16 := hp.o 16 rfl
  try dsimp only at hc
  rw [e16,hi] at hc
  have hf := (he.h0.mP he 16 rfl e13).mP he 20 rfl e18
  refine stRw (sz := 2) (vs := [i6 (min e_1.Hi high)]) (o' := 1) (z := (⟨max e_1.Lo low,min e_1.Hi high⟩ : api_Span)) (xs := (x_3.set i_.toNat (⟨max e_1.Lo low,e_1.Hi⟩ : api_Span))) hf hc rfl rfl rfl rfl sz_3 rfl (fun x => (one_enc_api_Span x).1) (by simpa using getI_lt he_1) (fun e' he' => by rw [List.getElem?_set_self (by simpa using getI_lt he_1)] at he'; cases he'; rfl) rfl u2 fun w hc => ?_
  refine zG θ he hi hf rfl ?_
  try dsimp only
  rw [updE_tru 19 e16,updE_self E 19]
  exact hc
 ·intro E θ a w hall he hc
  have hf := he.h0
  have e16 := hall 16 rfl
  have e19 := hall 19 rfl
  try dsimp only at hc
  rw [e16,e19] at hc
  exact ⟨hf.keep trivial,hc⟩
 rintro a w ⟨hf,hc⟩
 obtain ⟨_,hl0,hF⟩ := same_len hF
 obtain rfl := sj hF
 exact fnOut0 (by simp) rfl Try.results80 hf ⟨(by first | rfl | simp only [List.length_set]),hl0,hc⟩

def daily_opened_2 (s_ : api_Span) : Bool :=
 (decide (s_.Lo ≤ s_.Hi))
theorem daily_opened_2_ok {G : Pers} {Lf : List Ent} {w : World} (s_ : api_Span)   (hc : Ctx G (Lf) w) {res : Bool} (hF : daily_opened_2 s_ = res) : Calls Try.prog 82 #[.agg #[i6 s_.Lo,i6 s_.Hi]] w (fun e w => e = .returned (.bool res) ∧ Ctx G (Lf) w) := by
 unfold daily_opened_2 at hF
 refine fnIn Try.func82 rfl Try.ntmps82 rfl fun a hf => zS fun K h => zB hf hc rfl fun b_1 a w hf hc => sp 1 hf rfl fun a hf => zT h ?_
 refine zS fun K h => zP hf rfl (pFA fa_68_0 rfl) fun a hf => zL hf hc sc_3 m0 rfl fun a w hf hc => zP hf rfl (pFA fa_68_1 rfl) fun a hf => zL hf hc sc_3 m0 rfl fun a w hf hc => sp 2 hf rfl fun a hf => zT h ?_
 refine wp_ret ?_
 obtain rfl := hF
 replace hc := hc.drop k0
 exact zO1 Try.results82 hf rfl ⟨rfl,hc⟩

def daily_every_api_Span_1 (x : api_Span) : Bool :=
 (!(daily_opened_2 (⟨x.Lo,x.Hi⟩ : api_Span)))
theorem daily_every_api_Span_1_ok {G : Pers} {Lf : List Ent} {w : World} (x : api_Span) {b_ : Nat}  (hc : Ctx G (.box b_ [.func (.func 82) #[] #[]] 110::Lf) w) {res : Bool} (hF : daily_every_api_Span_1 x = res) : Calls Try.prog 71 #[.agg #[i6 x.Lo,i6 x.Hi],pq b_] w (fun e w => e = .returned (.bool res) ∧ Ctx G (.box b_ [.func (.func 82) #[] #[]] 110::Lf) w) := by
 unfold daily_every_api_Span_1 at hF
 refine fnIn Try.func71 rfl Try.ntmps71 rfl fun a hf => zS fun K h => zB hf hc rfl fun b_1 a w hf hc => sp 1 hf rfl fun a hf => zT h ?_
 refine zS fun K h => zL hf hc sc_110 m1 rfl fun a w hf hc => zN hf hc ag_68 m0 rfl fun a w hf hc => zQ (v := .bool (daily_opened_2 (⟨x.Lo,x.Hi⟩ : api_Span))) hf hc en_82 rfl (fun w hc => daily_opened_2_ok (⟨x.Lo,x.Hi⟩ : api_Span) hc rfl) fun a w hf hc => sp 2 hf rfl fun a hf => zT h ?_
 refine wp_ret ?_
 obtain rfl := hF
 replace hc := hc.drop k0
 exact zO1 Try.results71 hf rfl ⟨rfl,hc⟩

def slices_IndexFunc_Lapi_Span_api_Span_b4 (N : Nat) (s_ : List api_Span) (x : Int) : Option (Step (Int) (Int)) :=
 cond (decide (x < ((s_.length : Nat) : Int)))
 (Option.bind (getI s_ x) fun e_1 =>
 cond (daily_every_api_Span_1 e_1)
 (some (.ret x))
 (some (.cont (W (x + 1)))))
 (some (.brk x))
def slices_IndexFunc_Lapi_Span_api_Span (N : Nat) (s_ : List api_Span) : Option (Int) :=
 Option.bind (loopO (fun s4 => slices_IndexFunc_Lapi_Span_api_Span_b4 N s_ s4) N 0) fun x4 =>
 exK x4 (fun s4 => some (-1)) some
theorem slices_IndexFunc_Lapi_Span_api_Span_ok {N : Nat} {G : Pers} {Lf : List Ent} {w : World} (s_ : List api_Span) {s__p : Option Addr} {s__c : Nat} {b_ : Nat} (h_s_ : Rd G 2 s__p s__c (s_.map enc_api_Span)) (hc : Ctx G (.box b_ [.func (.func 82) #[] #[]] 110::Lf) w) {res : Int} (hF : slices_IndexFunc_Lapi_Span_api_Span N s_ = some res) : Calls Try.prog 85 #[.slice s__p s_.length s__c,.func (.func 71) #[] #[pq b_]] w (fun e w => e = .returned (i6 res) ∧ Ctx G (.box b_ [.func (.func 82) #[] #[]] 110::Lf) w) := by
 unfold slices_IndexFunc_Lapi_Span_api_Span at hF
 refine fnIn Try.func85 rfl Try.ntmps85 rfl fun a hf => zS fun K h => sp 1 hf rfl fun a hf => zT h ?_
 refine wp_seq_k fun K2 h2 => zS fun K h => sp 1 hf rfl fun a hf => zP hf rfl (pLenS Try.underlying60 rfl) fun a hf => sp 1 hf rfl fun a hf => zT h ?_
 refine wp_block ?_
 obtain ⟨x4,hx4,hF⟩ := bnd_some hF
 let S4 : Int → Act → World → Prop := (fun (zz : Int) a w => Has 19 a [(0,.slice s__p s_.length s__c),(1,.func (.func 71) #[] #[pq b_]),(7,i6 ((s_.length : Nat) : Int)),(8,i6 zz)] ∧ Ctx G (.box b_ [.func (.func 82) #[] #[]] 110::Lf) w)
 have hr4 : ∀ (zz : Int) a w,x4 = .go zz → S4 zz a w → K2 a w := by
  rintro x a w rfl ⟨hf,hc⟩
  replace hF := exK_go hF
  refine h2 _ _ ?_
  refine zS fun K h => sp 1 hf rfl fun a hf => zT h ?_
  refine wp_ret ?_
  obtain rfl := sj hF
  exact zO1 Try.results85 hf rfl ⟨rfl,hc⟩
 have ho4 : ∀ r,x4 = .out r → r = res := by
  rintro r rfl
  exact sj hF
 refine cLoop N (loopW (S := S4) (x := x4) ?_ N 0 _ _ ⟨hf.kp rfl,hc⟩ hx4)
 clear hF hf hc
 rintro x st4 a w KB4 ⟨hf,hc⟩ hF hfin4 hK4
 unfold slices_IndexFunc_Lapi_Span_api_Span_b4 at hF
 refine zS fun K h => sp 1 hf rfl fun a hf => zT h ?_
 refine wp_seq_k fun K7 h7 => zI hf rfl hF ?_ ?_ <;> clear hF <;> intro hF
 ·refine wp_skip ?_
  refine h7 _ _ ?_
  refine wp_seq_k fun K8 h8 => wp_block ?_
  refine zS fun K h => sp 2 hf rfl fun a hf => zT h ?_
  refine zS fun K h => sp 3 hf rfl fun a hf => ?_
  obtain ⟨e_1,he_1,hF⟩ := bnd_some hF
  obtain ⟨b_1,o,qa,qp⟩ := h_s_.atm he_1
  refine zP hf rfl (pIA Try.underlying60 sz_68 rfl rfl qa) fun a hf => zE hf hc rfl (eLdN (vs := [i6 e_1.Lo,i6 e_1.Hi]) ag_68 rfl rfl (cells_pc qp (n := 2) (o' := 0) rfl)) fun a w hf hc => zQ (v := .bool (daily_every_api_Span_1 e_1)) hf hc en_71 rfl (fun w hc => (daily_every_api_Span_1_ok e_1 (hc.pick k0) rfl).mono fun e w h => ⟨h.1,(h.2.unpick k0)⟩) fun a w hf hc => zT h ?_
  refine zI hf rfl hF ?_ ?_ <;> clear hF <;> intro hF
  ·refine zS fun K h => sp 2 hf rfl fun a hf => zT h ?_
   refine wp_ret ?_
   refine xBlkR ?_
   refine xThenR ?_
   refine xThenR ?_
   have he := sj hF
   rw [← he] at hfin4
   replace hF := ho4 _ hfin4
   refine xBlkR ?_
   refine xThenR ?_
   obtain rfl := hF
   exact zO1 Try.results85 hf rfl ⟨rfl,hc⟩
  ·refine wp_skip ?_
   refine h8 _ _ ?_
   refine cReg ?_
   refine sp 2 hf rfl fun a hf => cNil ?_
   exact hK4 (W (x + 1)) _ _ (sj hF).symm ⟨hf.kp rfl,hc⟩
 ·refine wp_exit ?_
  refine xThen ?_
  refine xThen ?_
  have he := sj hF
  rw [← he] at hfin4
  refine cHit ?_
  exact hr4 _ _ _ hfin4 ⟨hf.kp rfl,hc⟩

def slices_ContainsFunc_Lapi_Span_api_Span (N : Nat) (s_ : List api_Span) : Option (Bool) :=
 Option.bind (slices_IndexFunc_Lapi_Span_api_Span N s_) fun r =>
 some (decide (0 ≤ r))
theorem slices_ContainsFunc_Lapi_Span_api_Span_ok {N : Nat} {G : Pers} {Lf : List Ent} {w : World} (s_ : List api_Span) {s__p : Option Addr} {s__c : Nat} {b_ : Nat} (h_s_ : Rd G 2 s__p s__c (s_.map enc_api_Span)) (hc : Ctx G (.box b_ [.func (.func 82) #[] #[]] 110::Lf) w) {res : Bool} (hF : slices_ContainsFunc_Lapi_Span_api_Span N s_ = some res) : Calls Try.prog 70 #[.slice s__p s_.length s__c,.func (.func 71) #[] #[pq b_]] w (fun e w => e = .returned (.bool res) ∧ Ctx G (.box b_ [.func (.func 82) #[] #[]] 110::Lf) w) := by
 unfold slices_ContainsFunc_Lapi_Span_api_Span at hF
 refine fnIn Try.func70 rfl Try.ntmps70 rfl fun a hf => zS fun K h => sp 1 hf rfl fun a hf => zT h ?_
 refine zS fun K h => sp 2 hf rfl fun a hf => ?_
 obtain ⟨r,hr,hF⟩ := bnd_some hF
 refine zQ (v := i6 r) hf hc en_85 rfl (fun w hc => (slices_IndexFunc_Lapi_Span_api_Span_ok s_ h_s_ (hc.pick k0) hr).mono fun e w h => ⟨h.1,(h.2.unpick k0)⟩) fun a w hf hc => sp 2 hf rfl fun a hf => zT h ?_
 refine wp_ret ?_
 obtain rfl := sj hF
 exact zO1 Try.results70 hf rfl ⟨rfl,hc⟩

def daily_every_api_Span (N : Nat) (l : List api_Span) : Option (Bool) :=
 Option.bind (slices_ContainsFunc_Lapi_Span_api_Span N l) fun r =>
 some (!r)
theorem daily_every_api_Span_ok {N : Nat} {G : Pers} {Lf : List Ent} {w : World} (l : List api_Span) {l_p : Option Addr} {l_c : Nat} (h_l : Rd G 2 l_p l_c (l.map enc_api_Span)) (hc : Ctx G (Lf) w) {res : Bool} (hF : daily_every_api_Span N l = some res) : Calls Try.prog 46 #[.slice l_p l.length l_c,.func (.func 82) #[] #[]] w (fun e w => e = .returned (.bool res) ∧ Ctx G (Lf) w) := by
 unfold daily_every_api_Span at hF
 refine fnIn Try.func46 rfl Try.ntmps46 rfl fun a hf => zS fun K h => zB hf hc rfl fun b_1 a w hf hc => sp 1 hf rfl fun a hf => zT h ?_
 refine zS fun K h => sp 1 hf rfl fun a hf => zP hf rfl (pMF (us := [pq b_1]) rfl rfl) fun a hf => ?_
 obtain ⟨r,hr,hF⟩ := bnd_some hF
 refine zQ (v := .bool r) hf hc en_70 rfl (fun w hc => (slices_ContainsFunc_Lapi_Span_api_Span_ok l h_l (hc.pick k0) hr).mono fun e w h => ⟨h.1,(h.2.unpick k0)⟩) fun a w hf hc => sp 2 hf rfl fun a hf => zT h ?_
 refine wp_ret ?_
 obtain rfl := sj hF
 replace hc := hc.drop k0
 exact zO1 Try.results46 hf rfl ⟨rfl,hc⟩

end Go.Nilo
