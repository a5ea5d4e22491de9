/-
 What functions of the Go text compute, as plain functions, and that they do, part 1 of 3. Conditions: what each theorem names.
-/
import Derived.Test.YtfacdlbpakdcfaaNl32
import Derived.Test.YtfacdlbpakdcfaaProg
set_option linter.unusedVariables false
set_option linter.unusedSimpArgs false
set_option maxRecDepth 100000
set_option maxHeartbeats 4000000
namespace Go.Nilo
open Go.Proofs


structure kit_Stream where
 bytes : List Int
 used : Int
 mix : Int

structure daily_Reading where
 Value : Int
 Weight : Int
@[reducible] def enc_daily_Reading (x : daily_Reading) : List Value := [i6 x.Value,i6 x.Weight]
theorem one_enc_daily_Reading : ∀ x,(enc_daily_Reading x).length = 2 ∧ ones (enc_daily_Reading x) = true := fun _ => ⟨rfl,rfl⟩

structure daily_place where
 reading : Int
 value : Int
@[reducible] def enc_daily_place (x : daily_place) : List Value := [i6 x.reading,i6 x.value]
theorem one_enc_daily_place : ∀ x,(enc_daily_place x).length = 2 ∧ ones (enc_daily_place x) = true := fun _ => ⟨rfl,rfl⟩

structure daily_kink where
 value : Int
 reading : Int
 weight : Int
@[reducible] def enc_daily_kink (x : daily_kink) : List Value := [i6 x.value,i6 x.reading,i6 x.weight]
theorem one_enc_daily_kink : ∀ x,(enc_daily_kink x).length = 3 ∧ ones (enc_daily_kink x) = true := fun _ => ⟨rfl,rfl⟩

structure daily_Fall where
 A : Int
 B : Int
 Weight : Int
@[reducible] def enc_daily_Fall (x : daily_Fall) : List Value := [i6 x.A,i6 x.B,i6 x.Weight]
theorem one_enc_daily_Fall : ∀ x,(enc_daily_Fall x).length = 3 ∧ ones (enc_daily_Fall x) = true := fun _ => ⟨rfl,rfl⟩

structure api_Span where
 Lo : Int
 Hi : Int
@[reducible] def enc_api_Span (x : api_Span) : List Value := [i6 x.Lo,i6 x.Hi]
theorem one_enc_api_Span : ∀ x,(enc_api_Span x).length = 2 ∧ ones (enc_api_Span x) = true := fun _ => ⟨rfl,rfl⟩

structure daily_Value where
 Known : Bool
 Flow : api_Span
@[reducible] def enc_daily_Value (x : daily_Value) : List Value := [.bool x.Known,i6 x.Flow.Lo,i6 x.Flow.Hi]
theorem one_enc_daily_Value : ∀ x,(enc_daily_Value x).length = 3 ∧ ones (enc_daily_Value x) = true := fun _ => ⟨rfl,rfl⟩

structure daily_Record where
 Rise : Int
 Fall : Int
 Days : List daily_Value

structure daily_work where
 Record : daily_Record
 spans : List api_Span

theorem bt_47 : builtInfo Try.prog 47 = some ([.slice none 0 0,i6 0,i6 0],[(0,1),(1,1),(2,1)]) := by kernel_rfl

theorem en_5 : En Try.prog 5 := En.of Try.func5 (by kernel_rfl) (by kernel_rfl)

theorem fa_47_0 : ∀ (q : Addr) (w : World),(Instr.fieldAt 47 (.pointer (some q)) 0).run Try.prog w = .ok (.pointer (some (q.add 0))) w := fun _ _ => by kernel_rfl

theorem sc_22 : ScT Try.prog 22 := ⟨⟨_,Try.underlying22,trivial⟩,by kernel_rfl⟩

theorem fa_47_1 : ∀ (q : Addr) (w : World),(Instr.fieldAt 47 (.pointer (some q)) 1).run Try.prog w = .ok (.pointer (some (q.add 1))) w := fun _ _ => by kernel_rfl

theorem sc_3 : ScT Try.prog 3 := ⟨⟨_,Try.underlying3,trivial⟩,by kernel_rfl⟩

theorem sz_5 : (Try.prog.info? 5).map (·.size) = some 1 := by kernel_rfl

theorem sc_5 : ScT Try.prog 5 := ⟨⟨_,Try.underlying5,trivial⟩,by kernel_rfl⟩

theorem follows_mx : Try.prog.follows .mixedOrders = true := by kernel_rfl

theorem fa_47_2 : ∀ (q : Addr) (w : World),(Instr.fieldAt 47 (.pointer (some q)) 2).run Try.prog w = .ok (.pointer (some (q.add 2))) w := fun _ _ => by kernel_rfl

theorem sz_3 : (Try.prog.info? 3).map (·.size) = some 1 := by kernel_rfl

theorem en_11 : En Try.prog 11 := En.of Try.func11 (by kernel_rfl) (by kernel_rfl)

theorem en_12 : En Try.prog 12 := En.of Try.func12 (by kernel_rfl) (by kernel_rfl)

theorem bt_39 : builtInfo Try.prog 39 = some ([i6 0,i6 0],[(0,1),(1,1)]) := by kernel_rfl

theorem zr_39 : (Try.prog.info? 39).map (·.zero) = some (some (.agg #[i6 0,i6 0])) := by kernel_rfl

theorem sz_39 : (Try.prog.info? 39).map (·.size) = some 2 := by kernel_rfl

theorem fa_39_0 : ∀ (q : Addr) (w : World),(Instr.fieldAt 39 (.pointer (some q)) 0).run Try.prog w = .ok (.pointer (some (q.add 0))) w := fun _ _ => by kernel_rfl

theorem ag_39 : AggT Try.prog 39 2 := ⟨⟨_,Try.underlying39,trivial⟩,by kernel_rfl⟩

theorem sl_23 : SlT Try.prog 23 39 2 16 (.agg #[i6 0,i6 0]) := SlT.of Try.underlying23 (by kernel_rfl) (by decide)

theorem en_4 : En Try.prog 4 := En.of Try.func4 (by kernel_rfl) (by kernel_rfl)

theorem en_20 : En Try.prog 20 := En.of Try.func20 (by kernel_rfl) (by kernel_rfl)

theorem sc_85 : ScT Try.prog 85 := ⟨⟨_,Try.underlying85,trivial⟩,by kernel_rfl⟩

theorem fa_39_1 : ∀ (q : Addr) (w : World),(Instr.fieldAt 39 (.pointer (some q)) 1).run Try.prog w = .ok (.pointer (some (q.add 1))) w := fun _ _ => by kernel_rfl

theorem en_35 : En Try.prog 35 := En.of Try.func35 (by kernel_rfl) (by kernel_rfl)

theorem en_56 : En Try.prog 56 := En.of Try.func56 (by kernel_rfl) (by kernel_rfl)

theorem en_77 : En Try.prog 77 := En.of Try.func77 (by kernel_rfl) (by kernel_rfl)

theorem en_55 : En Try.prog 55 := En.of Try.func55 (by kernel_rfl) (by kernel_rfl)

theorem en_34 : En Try.prog 34 := En.of Try.func34 (by kernel_rfl) (by kernel_rfl)

theorem en_14 : En Try.prog 14 := En.of Try.func14 (by kernel_rfl) (by kernel_rfl)

theorem sl_27 : SlT Try.prog 27 3 1 8 (i6 0) := SlT.of Try.underlying27 (by kernel_rfl) (by decide)

theorem en_15 : En Try.prog 15 := En.of Try.func15 (by kernel_rfl) (by kernel_rfl)

theorem en_16 : En Try.prog 16 := En.of Try.func16 (by kernel_rfl) (by kernel_rfl)

@[reducible] def kv_54 (k : Int × Int) : Value := .agg #[i6 k.1,i6 k.2]

set_option maxRecDepth 100000 in
theorem kt_54 : KeyT Try.prog 54 kv_54 :=
 keyT_mk (by kernel_rfl) (fun a b h => by
   simp only [kv_54,Value.agg.injEq,Array.mk.injEq,List.cons.injEq,Value.int.injEq,Value.bool.injEq,true_and,and_true] at h
   grind) (fun a b => decide (a = b)) (fun a b => by simp)
  (fun a b w => by
   show (Op.equalIn 10000 54 _ _).run Try.prog w = _
   rw [run_equalIn_agg w 9999 54 _ _ (by kernel_rfl) (by kernel_rfl)]
   simp [Op.eqFields,part,go_sem]
   repeat' split
   all_goals (refine congrArg (fun q => Result.ok q w) ?_; symm; simp_all [Prod.ext_iff]))
  (fun e k w => by rw [Instr.checkKey]; simp [run_underlying Try.underlying54,part,go_sem,chkI_run (n := 9998) Try.underlying3]) (fun k => by simp [Instr.sameBits])

theorem bt_54 : builtInfo Try.prog 54 = some ([i6 0,i6 0],[(0,1),(1,1)]) := by kernel_rfl

theorem zr_54 : (Try.prog.info? 54).map (·.zero) = some (some (.agg #[i6 0,i6 0])) := by kernel_rfl

theorem sz_54 : (Try.prog.info? 54).map (·.size) = some 2 := by kernel_rfl

theorem en_17 : En Try.prog 17 := En.of Try.func17 (by kernel_rfl) (by kernel_rfl)

theorem zr_3 : (Try.prog.info? 3).map (·.zero) = some (some (i6 0)) := by kernel_rfl

theorem ag_54 : AggT Try.prog 54 2 := ⟨⟨_,Try.underlying54,trivial⟩,by kernel_rfl⟩

theorem fa_54_1 : ∀ (q : Addr) (w : World),(Instr.fieldAt 54 (.pointer (some q)) 1).run Try.prog w = .ok (.pointer (some (q.add 1))) w := fun _ _ => by kernel_rfl

theorem ge_54 : Try.prog.eqGuardType Try.prog.depth 54 = false := by kernel_rfl

theorem eqs_54 (x0 : Int) (x1 : Int) (y0 : Int) (y1 : Int) (w : World) : (Op.equalIn 10000 54 (.agg #[i6 x0,i6 x1]) (.agg #[i6 y0,i6 y1])).run Try.prog w = .ok (x0 == y0 && x1 == y1) w := by
 rw [run_equalIn_agg w 9999 54 _ _ (by kernel_rfl) (by kernel_rfl)]
 simp [Op.eqFields,part,go_sem]
 repeat' split
 all_goals simp_all

theorem fa_54_0 : ∀ (q : Addr) (w : World),(Instr.fieldAt 54 (.pointer (some q)) 0).run Try.prog w = .ok (.pointer (some (q.add 0))) w := fun _ _ => by kernel_rfl

theorem en_6 : En Try.prog 6 := En.of Try.func6 (by kernel_rfl) (by kernel_rfl)

theorem sc_57 : ScT Try.prog 57 := ⟨⟨_,Try.underlying57,trivial⟩,by kernel_rfl⟩

theorem en_19 : En Try.prog 19 := En.of Try.func19 (by kernel_rfl) (by kernel_rfl)

theorem en_39 : En Try.prog 39 := En.of Try.func39 (by kernel_rfl) (by kernel_rfl)

theorem en_67 : En Try.prog 67 := En.of Try.func67 (by kernel_rfl) (by kernel_rfl)

theorem en_38 : En Try.prog 38 := En.of Try.func38 (by kernel_rfl) (by kernel_rfl)

theorem en_18 : En Try.prog 18 := En.of Try.func18 (by kernel_rfl) (by kernel_rfl)

theorem en_43 : En Try.prog 43 := En.of Try.func43 (by kernel_rfl) (by kernel_rfl)

theorem en_23 : En Try.prog 23 := En.of Try.func23 (by kernel_rfl) (by kernel_rfl)

theorem en_10 : En Try.prog 10 := En.of Try.func10 (by kernel_rfl) (by kernel_rfl)

theorem en_7 : En Try.prog 7 := En.of Try.func7 (by kernel_rfl) (by kernel_rfl)

theorem zr_58 : (Try.prog.info? 58).map (·.zero) = some (some (.agg (catc [] 30 encI_i64 (fun _ => 0) []).toArray)) := by kernel_rfl

theorem bt_91 : builtInfo Try.prog 91 = some ([i6 0,i6 0,i6 0],[(0,1),(1,1),(2,1)]) := by kernel_rfl

theorem sl_89 : SlT Try.prog 89 91 3 24 (.agg #[i6 0,i6 0,i6 0]) := SlT.of Try.underlying89 (by kernel_rfl) (by decide)

theorem sz_91 : (Try.prog.info? 91).map (·.size) = some 3 := by kernel_rfl

theorem ag_91 : AggT Try.prog 91 3 := ⟨⟨_,Try.underlying91,trivial⟩,by kernel_rfl⟩

theorem fa_91_0 : ∀ (q : Addr) (w : World),(Instr.fieldAt 91 (.pointer (some q)) 0).run Try.prog w = .ok (.pointer (some (q.add 0))) w := fun _ _ => by kernel_rfl

theorem en_42 : En Try.prog 42 := En.of Try.func42 (by kernel_rfl) (by kernel_rfl)

theorem en_41 : En Try.prog 41 := En.of Try.func41 (by kernel_rfl) (by kernel_rfl)

theorem en_83 : En Try.prog 83 := En.of Try.func83 (by kernel_rfl) (by kernel_rfl)

theorem en_95 : En Try.prog 95 := En.of Try.func95 (by kernel_rfl) (by kernel_rfl)

theorem en_92 : En Try.prog 92 := En.of Try.func92 (by kernel_rfl) (by kernel_rfl)

theorem en_84 : En Try.prog 84 := En.of Try.func84 (by kernel_rfl) (by kernel_rfl)

theorem en_68 : En Try.prog 68 := En.of Try.func68 (by kernel_rfl) (by kernel_rfl)

theorem en_40 : En Try.prog 40 := En.of Try.func40 (by kernel_rfl) (by kernel_rfl)

theorem fa_91_2 : ∀ (q : Addr) (w : World),(Instr.fieldAt 91 (.pointer (some q)) 2).run Try.prog w = .ok (.pointer (some (q.add 2))) w := fun _ _ => by kernel_rfl

theorem fa_91_1 : ∀ (q : Addr) (w : World),(Instr.fieldAt 91 (.pointer (some q)) 1).run Try.prog w = .ok (.pointer (some (q.add 1))) w := fun _ _ => by kernel_rfl

@[reducible] def encA_58 (x : Nat → Int) : List Value := catc [] 30 encI_i64 x []
theorem one_encA_58 : ∀ x,(encA_58 x).length = 30 ∧ ones (encA_58 x) = true := fun x => ⟨(catc_one one_encI_i64 30 x).1.trans (by decide),(catc_one one_encI_i64 30 x).2⟩

theorem ag_58 : AggT Try.prog 58 30 := ⟨⟨_,Try.underlying58,trivial⟩,by kernel_rfl⟩

theorem sz_58 : (Try.prog.info? 58).map (·.size) = some 30 := by kernel_rfl

theorem en_21 : En Try.prog 21 := En.of Try.func21 (by kernel_rfl) (by kernel_rfl)

theorem bt_43 : builtInfo Try.prog 43 = some ([i6 0,i6 0,i6 0],[(0,1),(1,1),(2,1)]) := by kernel_rfl

theorem sl_33 : SlT Try.prog 33 43 3 24 (.agg #[i6 0,i6 0,i6 0]) := SlT.of Try.underlying33 (by kernel_rfl) (by decide)

theorem en_8 : En Try.prog 8 := En.of Try.func8 (by kernel_rfl) (by kernel_rfl)

theorem sz_43 : (Try.prog.info? 43).map (·.size) = some 3 := by kernel_rfl

theorem ag_43 : AggT Try.prog 43 3 := ⟨⟨_,Try.underlying43,trivial⟩,by kernel_rfl⟩

theorem zr_43 : (Try.prog.info? 43).map (·.zero) = some (some (.agg #[i6 0,i6 0,i6 0])) := by kernel_rfl

theorem fa_43_0 : ∀ (q : Addr) (w : World),(Instr.fieldAt 43 (.pointer (some q)) 0).run Try.prog w = .ok (.pointer (some (q.add 0))) w := fun _ _ => by kernel_rfl

theorem fa_43_1 : ∀ (q : Addr) (w : World),(Instr.fieldAt 43 (.pointer (some q)) 1).run Try.prog w = .ok (.pointer (some (q.add 1))) w := fun _ _ => by kernel_rfl

theorem fa_43_2 : ∀ (q : Addr) (w : World),(Instr.fieldAt 43 (.pointer (some q)) 2).run Try.prog w = .ok (.pointer (some (q.add 2))) w := fun _ _ => by kernel_rfl

theorem en_22 : En Try.prog 22 := En.of Try.func22 (by kernel_rfl) (by kernel_rfl)

theorem en_9 : En Try.prog 9 := En.of Try.func9 (by kernel_rfl) (by kernel_rfl)

theorem zr_68 : (Try.prog.info? 68).map (·.zero) = some (some (.agg #[i6 0,i6 0,.slice none 0 0])) := by kernel_rfl

theorem zr_100 : (Try.prog.info? 100).map (·.zero) = some (some (.agg #[.bool false,i6 0,i6 0])) := by kernel_rfl

theorem zr_71 : (Try.prog.info? 71).map (·.zero) = some (some (.agg #[i6 0,i6 0])) := by kernel_rfl

theorem bt_71 : builtInfo Try.prog 71 = some ([i6 0,i6 0],[(0,1),(1,1)]) := by kernel_rfl

theorem sz_71 : (Try.prog.info? 71).map (·.size) = some 2 := by kernel_rfl

theorem ag_71 : AggT Try.prog 71 2 := ⟨⟨_,Try.underlying71,trivial⟩,by kernel_rfl⟩

theorem en_30 : En Try.prog 30 := En.of Try.func30 (by kernel_rfl) (by kernel_rfl)

theorem bt_100 : builtInfo Try.prog 100 = some ([.bool false,i6 0,i6 0],[(0,1),(1,2)]) := by kernel_rfl

theorem sz_100 : (Try.prog.info? 100).map (·.size) = some 3 := by kernel_rfl

theorem ag_100 : AggT Try.prog 100 3 := ⟨⟨_,Try.underlying100,trivial⟩,by kernel_rfl⟩

theorem en_45 : En Try.prog 45 := En.of Try.func45 (by kernel_rfl) (by kernel_rfl)

theorem sl_66 : SlT Try.prog 66 100 3 24 (.agg #[.bool false,i6 0,i6 0]) := SlT.of Try.underlying66 (by kernel_rfl) (by decide)

theorem bt_68 : builtInfo Try.prog 68 = some ([i6 0,i6 0,.slice none 0 0],[(0,1),(1,1),(2,1)]) := by kernel_rfl

theorem sz_68 : (Try.prog.info? 68).map (·.size) = some 3 := by kernel_rfl

theorem ag_68 : AggT Try.prog 68 3 := ⟨⟨_,Try.underlying68,trivial⟩,by kernel_rfl⟩

theorem en_25 : En Try.prog 25 := En.of Try.func25 (by kernel_rfl) (by kernel_rfl)

theorem fa_68_2 : ∀ (q : Addr) (w : World),(Instr.fieldAt 68 (.pointer (some q)) 2).run Try.prog w = .ok (.pointer (some (q.add 2))) w := fun _ _ => by kernel_rfl

theorem sc_66 : ScT Try.prog 66 := ⟨⟨_,Try.underlying66,trivial⟩,by kernel_rfl⟩

theorem fa_68_0 : ∀ (q : Addr) (w : World),(Instr.fieldAt 68 (.pointer (some q)) 0).run Try.prog w = .ok (.pointer (some (q.add 0))) w := fun _ _ => by kernel_rfl

theorem en_70 : En Try.prog 70 := En.of Try.func70 (by kernel_rfl) (by kernel_rfl)

theorem fa_68_1 : ∀ (q : Addr) (w : World),(Instr.fieldAt 68 (.pointer (some q)) 1).run Try.prog w = .ok (.pointer (some (q.add 1))) w := fun _ _ => by kernel_rfl

theorem sc_132 : ScT Try.prog 132 := ⟨⟨_,Try.underlying132,trivial⟩,by kernel_rfl⟩

theorem fa_100_0 : ∀ (q : Addr) (w : World),(Instr.fieldAt 100 (.pointer (some q)) 0).run Try.prog w = .ok (.pointer (some (q.add 0))) w := fun _ _ => by kernel_rfl

theorem sc_4 : ScT Try.prog 4 := ⟨⟨_,Try.underlying4,trivial⟩,by kernel_rfl⟩

theorem fa_100_1 : ∀ (q : Addr) (w : World),(Instr.fieldAt 100 (.pointer (some q)) 1).run Try.prog w = .ok (.pointer (some (q.add 1))) w := fun _ _ => by kernel_rfl

theorem fa_71_0 : ∀ (q : Addr) (w : World),(Instr.fieldAt 71 (.pointer (some q)) 0).run Try.prog w = .ok (.pointer (some (q.add 0))) w := fun _ _ => by kernel_rfl

theorem fa_71_1 : ∀ (q : Addr) (w : World),(Instr.fieldAt 71 (.pointer (some q)) 1).run Try.prog w = .ok (.pointer (some (q.add 1))) w := fun _ _ => by kernel_rfl

theorem en_53 : En Try.prog 53 := En.of Try.func53 (by kernel_rfl) (by kernel_rfl)

theorem en_72 : En Try.prog 72 := En.of Try.func72 (by kernel_rfl) (by kernel_rfl)

theorem en_89 : En Try.prog 89 := En.of Try.func89 (by kernel_rfl) (by kernel_rfl)

theorem en_94 : En Try.prog 94 := En.of Try.func94 (by kernel_rfl) (by kernel_rfl)

theorem en_88 : En Try.prog 88 := En.of Try.func88 (by kernel_rfl) (by kernel_rfl)

theorem en_71 : En Try.prog 71 := En.of Try.func71 (by kernel_rfl) (by kernel_rfl)

theorem en_46 : En Try.prog 46 := En.of Try.func46 (by kernel_rfl) (by kernel_rfl)

theorem bt_98 : builtInfo Try.prog 98 = some ([i6 0,i6 0,.slice none 0 0,.slice none 0 0],[(0,3),(3,1)]) := by kernel_rfl

theorem zr_94 : (Try.prog.info? 94).map (·.zero) = some (some (.pointer none)) := by kernel_rfl

theorem sz_94 : (Try.prog.info? 94).map (·.size) = some 1 := by kernel_rfl

theorem sc_94 : ScT Try.prog 94 := ⟨⟨_,Try.underlying94,trivial⟩,by kernel_rfl⟩

theorem fa_98_1 : ∀ (q : Addr) (w : World),(Instr.fieldAt 98 (.pointer (some q)) 1).run Try.prog w = .ok (.pointer (some (q.add 3))) w := fun _ _ => by kernel_rfl

theorem sc_63 : ScT Try.prog 63 := ⟨⟨_,Try.underlying63,trivial⟩,by kernel_rfl⟩

theorem en_51 : En Try.prog 51 := En.of Try.func51 (by kernel_rfl) (by kernel_rfl)

theorem sl_63 : SlT Try.prog 63 71 2 16 (.agg #[i6 0,i6 0]) := SlT.of Try.underlying63 (by kernel_rfl) (by decide)

theorem sz_63 : (Try.prog.info? 63).map (·.size) = some 1 := by kernel_rfl

theorem zr_143 : (Try.prog.info? 143).map (·.zero) = some (some (.nilFunc)) := by kernel_rfl

theorem sz_143 : (Try.prog.info? 143).map (·.size) = some 1 := by kernel_rfl

theorem en_86 : En Try.prog 86 := En.of Try.func86 (by kernel_rfl) (by kernel_rfl)

theorem fa_98_0 : ∀ (q : Addr) (w : World),(Instr.fieldAt 98 (.pointer (some q)) 0).run Try.prog w = .ok (.pointer (some (q.add 0))) w := fun _ _ => by kernel_rfl

theorem sc_143 : ScT Try.prog 143 := ⟨⟨_,Try.underlying143,trivial⟩,by kernel_rfl⟩

theorem en_85 : En Try.prog 85 := En.of Try.func85 (by kernel_rfl) (by kernel_rfl)

theorem sc_113 : ScT Try.prog 113 := ⟨⟨_,Try.underlying113,trivial⟩,by kernel_rfl⟩

theorem en_87 : En Try.prog 87 := En.of Try.func87 (by kernel_rfl) (by kernel_rfl)

theorem en_76 : En Try.prog 76 := En.of Try.func76 (by kernel_rfl) (by kernel_rfl)

theorem en_90 : En Try.prog 90 := En.of Try.func90 (by kernel_rfl) (by kernel_rfl)

theorem en_75 : En Try.prog 75 := En.of Try.func75 (by kernel_rfl) (by kernel_rfl)

theorem en_52 : En Try.prog 52 := En.of Try.func52 (by kernel_rfl) (by kernel_rfl)

theorem en_93 : En Try.prog 93 := En.of Try.func93 (by kernel_rfl) (by kernel_rfl)

theorem en_69 : En Try.prog 69 := En.of Try.func69 (by kernel_rfl) (by kernel_rfl)

theorem en_44 : En Try.prog 44 := En.of Try.func44 (by kernel_rfl) (by kernel_rfl)

theorem en_24 : En Try.prog 24 := En.of Try.func24 (by kernel_rfl) (by kernel_rfl)

theorem zr_106 : (Try.prog.info? 106).map (·.zero) = some (some (.agg #[.nilFunc,.nilFunc])) := by kernel_rfl

theorem bt_105 : builtInfo Try.prog 105 = some ([.nilFunc],[(0,1)]) := by kernel_rfl

theorem sz_106 : (Try.prog.info? 106).map (·.size) = some 2 := by kernel_rfl

theorem ag_106 : AggT Try.prog 106 2 := ⟨⟨_,Try.underlying106,trivial⟩,by kernel_rfl⟩

theorem en_47 : En Try.prog 47 := En.of Try.func47 (by kernel_rfl) (by kernel_rfl)

theorem sz_105 : (Try.prog.info? 105).map (·.size) = some 1 := by kernel_rfl

theorem ag_105 : AggT Try.prog 105 1 := ⟨⟨_,Try.underlying105,trivial⟩,by kernel_rfl⟩

theorem fa_105_0 : ∀ (q : Addr) (w : World),(Instr.fieldAt 105 (.pointer (some q)) 0).run Try.prog w = .ok (.pointer (some (q.add 0))) w := fun _ _ => by kernel_rfl

theorem sc_103 : ScT Try.prog 103 := ⟨⟨_,Try.underlying103,trivial⟩,by kernel_rfl⟩

theorem en_73 : En Try.prog 73 := En.of Try.func73 (by kernel_rfl) (by kernel_rfl)

theorem en_49 : En Try.prog 49 := En.of Try.func49 (by kernel_rfl) (by kernel_rfl)

theorem en_48 : En Try.prog 48 := En.of Try.func48 (by kernel_rfl) (by kernel_rfl)

theorem en_74 : En Try.prog 74 := En.of Try.func74 (by kernel_rfl) (by kernel_rfl)

theorem en_26 : En Try.prog 26 := En.of Try.func26 (by kernel_rfl) (by kernel_rfl)

theorem en_50 : En Try.prog 50 := En.of Try.func50 (by kernel_rfl) (by kernel_rfl)

theorem en_27 : En Try.prog 27 := En.of Try.func27 (by kernel_rfl) (by kernel_rfl)

theorem en_28 : En Try.prog 28 := En.of Try.func28 (by kernel_rfl) (by kernel_rfl)

theorem ge_71 : Try.prog.eqGuardType Try.prog.depth 71 = false := by kernel_rfl

theorem eqs_71 (x0 : Int) (x1 : Int) (y0 : Int) (y1 : Int) (w : World) : (Op.equalIn 10000 71 (.agg #[i6 x0,i6 x1]) (.agg #[i6 y0,i6 y1])).run Try.prog w = .ok (x0 == y0 && x1 == y1) w := by
 rw [run_equalIn_agg w 9999 71 _ _ (by kernel_rfl) (by kernel_rfl)]
 simp [Op.eqFields,part,go_sem]
 repeat' split
 all_goals simp_all

theorem en_29 : En Try.prog 29 := En.of Try.func29 (by kernel_rfl) (by kernel_rfl)

theorem en_31 : En Try.prog 31 := En.of Try.func31 (by kernel_rfl) (by kernel_rfl)

theorem en_54 : En Try.prog 54 := En.of Try.func54 (by kernel_rfl) (by kernel_rfl)

theorem en_32 : En Try.prog 32 := En.of Try.func32 (by kernel_rfl) (by kernel_rfl)

theorem en_33 : En Try.prog 33 := En.of Try.func33 (by kernel_rfl) (by kernel_rfl)

theorem en_13 : En Try.prog 13 := En.of Try.func13 (by kernel_rfl) (by kernel_rfl)

def kit_New (N : Nat) (bytes : List Int) : Option (Int × Int) :=
 some (0,0)
theorem kit_New_ok {N : Nat} {G : Pers} {Lf : List Ent} {w : World} (bytes : List Int) {bytes_p : Option Addr} {bytes_c : Nat} (h_bytes : Rd G 1 bytes_p bytes_c (bytes.map encI_u8)) (hc : Ctx G (Lf) w) {res : Int × Int} (hF : kit_New N bytes = some res) : Calls Try.prog 5 #[.slice bytes_p bytes.length bytes_c] w (fun e w => ∃ (b'1 : Nat),e = .returned (pq b'1) ∧ Ctx G (.box b'1 [.slice bytes_p bytes.length bytes_c,i6 res.1,i6 res.2] 47::Lf) w) := by
 unfold kit_New at hF
 refine fnIn Try.func5 rfl Try.ntmps5 rfl fun a hf => zS fun K h => sp 1 hf rfl fun a hf => zT h ?_
 refine zS fun K h => sp 1 hf rfl fun a hf => zP hf rfl (pBuildS (cells := [.slice bytes_p bytes.length bytes_c,i6 0,i6 0]) bt_47 rfl rfl) fun a hf => zB hf hc rfl fun b_1 a w hf hc => sp 1 hf rfl fun a hf => zT h ?_
 refine wp_ret ?_
 obtain rfl := sj hF
 exact zO1 Try.results5 hf rfl ⟨b_1,rfl,hc⟩

def kit_Stream_Next_j9 (N : Nat) (s_ : kit_Stream) (n : Int) (b_2 : Int) (b_3 : Int) : Option (Int × Int × Int) :=
 Option.bind (nz n) fun un_1 =>
 some (b_3.tmod n,W (s_.used + 1),(W ((W ((W (5 * s_.mix)) + b_2)) + 1)).tmod 251)
def kit_Stream_Next_j6 (N : Nat) (s_ : kit_Stream) (n : Int) (b_2 : Int) : Option (Int × Int × Int) :=
 cond (decide (256 < n))
 (kit_Stream_Next_j9 N s_ n b_2 (W ((W (256 * b_2)) + ((W ((W ((W (5 * s_.mix)) + b_2)) + 1)).tmod 251))))
 (kit_Stream_Next_j9 N s_ n b_2 b_2)
def kit_Stream_Next (N : Nat) (s_ : kit_Stream) (n : Int) : Option (Int × Int × Int) :=
 cond ((decide (n < 2)) || (((s_.bytes.length : Nat) : Int) == 0))
 (some (0,s_.used,s_.mix))
 (Option.bind (nz ((s_.bytes.length : Nat) : Int)) fun un =>
 Option.bind (getI s_.bytes (s_.used.tmod ((s_.bytes.length : Nat) : Int))) fun e_1 =>
 cond (decide (((s_.bytes.length : Nat) : Int) ≤ s_.used))
 (Option.bind (nz ((s_.bytes.length : Nat) : Int)) fun un_2 =>
 kit_Stream_Next_j6 N s_ n (W ((W (e_1)) + (W ((W (11 * s_.mix)) + (W (s_.used.tdiv ((s_.bytes.length : Nat) : Int))))))))
 (kit_Stream_Next_j6 N s_ n (W (e_1))))
theorem kit_Stream_Next_ok {N : Nat} {G : Pers} {Lf : List Ent} {w : World} (s_ : kit_Stream) (n : Int) {b_ : Nat} {s__bytes_p : Option Addr} {s__bytes_c : Nat} (h_s__bytes : Rd G 1 s__bytes_p s__bytes_c (s_.bytes.map encI_u8)) (hc : Ctx G (.box b_ [.slice s__bytes_p s_.bytes.length s__bytes_c,i6 s_.used,i6 s_.mix] 47::Lf) w) {res : Int × Int × Int} (hF : kit_Stream_Next N s_ n = some res) : Calls Try.prog 11 #[pq b_,i6 n] w (fun e w => e = .returned (i6 res.1) ∧ Ctx G (.box b_ [.slice s__bytes_p s_.bytes.length s__bytes_c,i6 res.2.1,i6 res.2.2] 47::Lf) w) := by
 unfold kit_Stream_Next at hF
 refine fnIn Try.func11 rfl Try.ntmps11 rfl fun a hf => zS fun K h => sp 1 hf rfl fun a hf => zT h ?_
 refine wp_seq_k fun K2 h2 => zS fun K h => sp 3 hf rfl fun a hf => stCc 7 (fun a => Has 92 a [(0,pq b_),(1,i6 n),(6,i6 n),(7,.bool (decide (n < 2))),(8,.bool (decide (n < 2))),(15,.bool ((decide (n < 2)) || (((s_.bytes.length : Nat) : Int) == 0)))]) hc ?_ ?_
 ·cases hb : (decide (n < 2))
  ·rw [hb] at hf
   refine sp 2 hf rfl fun a hf => zP hf rfl (pFA fa_47_0 rfl) fun a hf => zL hf hc sc_22 m0 rfl fun a w hf hc => zP hf rfl (pLenS Try.underlying22 rfl) fun a hf => sp 2 hf rfl fun a hf => cNil ⟨hf.kp rfl,hc⟩
  ·rw [hb] at hf
   refine stS hf rfl rfl rfl fun a hf => stS hf rfl rfl rfl fun a hf => stS hf rfl rfl rfl fun a hf => stS hf rfl rfl rfl fun a hf => stS hf rfl rfl rfl fun a hf => stS hf rfl rfl rfl fun a hf => sp 1 hf rfl fun a hf => cNil ⟨hf.kp rfl,hc⟩
 intro a w ⟨hf,hc⟩
 refine zT h ?_
 refine zI hf rfl hF ?_ ?_ <;> clear hF <;> intro hF
 ·refine zS fun K h => sp 1 hf rfl fun a hf => zT h ?_
  refine wp_ret ?_
  refine xThenR ?_
  obtain rfl := sj hF
  exact zO1 Try.results11 hf rfl ⟨rfl,hc⟩
 ·refine wp_skip ?_
  refine h2 _ _ ?_
  refine wp_seq_k fun K5 h5 => ?_
  obtain ⟨un,hun,hF⟩ := bnd_some hF
  obtain ⟨e_1,he_1,hF⟩ := bnd_some hF
  obtain ⟨b_1,o,qa,qp⟩ := h_s__bytes.atm he_1
  refine cQ hc follows_mx (by kernel_rfl) ?_
  refine qE hf rfl rfl rfl (Pu.ev (pM rfl)) fun a hf => qE hf rfl rfl rfl (Pu.ev (pNC rfl)) fun a hf => qE hf rfl rfl rfl (Pu.ev (pFA fa_47_0 rfl)) fun a hf => qE hf rfl rfl rfl (eLd1 sc_22 rfl (cell_box m0 rfl)) fun a hf => qE hf rfl rfl rfl (Pu.ev (pM rfl)) fun a hf => qE hf rfl rfl rfl (Pu.ev (pNC rfl)) fun a hf => qE hf rfl rfl rfl (Pu.ev (pFA fa_47_1 rfl)) fun a hf => qE hf rfl rfl rfl (eLd1 sc_3 rfl (cell_box m0 rfl)) fun a hf => qE hf rfl rfl rfl (Pu.ev (pM rfl)) fun a hf => qE hf rfl rfl rfl (Pu.ev (pNC rfl)) fun a hf => qE hf rfl rfl rfl (Pu.ev (pFA fa_47_0 rfl)) fun a hf => qE hf rfl rfl rfl (eLd1 sc_22 rfl (cell_box m0 rfl)) fun a hf => qE hf rfl rfl rfl (Pu.ev (pLenS Try.underlying22 rfl)) fun a hf => ?_
  refine qE hf rfl rfl rfl (Pu.ev (pRem rfl rfl (nz_spec hun))) fun a hf => qE hf rfl rfl rfl (Pu.ev (pIA Try.underlying22 sz_5 rfl rfl qa)) fun a hf => qE hf rfl rfl rfl (eLd1 sc_5 rfl (cell_pc (j := 0) qp rfl)) fun a hf => qE hf rfl rfl rfl (Pu.ev (pCv Try.underlying5 Try.underlying3 rfl)) fun a hf => qE hf rfl rfl rfl (Pu.ev (pA rfl)) fun a hf => ?_
  intro w hc
  refine h5 _ _ ?_
  refine wp_seq_k fun K6 h6 => ?_
  have hj6 : ∀ (b_2 : Int) a w,Has 92 a [(0,pq b_),(1,i6 n),(5,i6 b_2)] → Ctx G (.box b_ [.slice s__bytes_p s_.bytes.length s__bytes_c,i6 s_.used,i6 s_.mix] 47::Lf) w → kit_Stream_Next_j6 N s_ n b_2 = some res → K6 a w := by
   repeat (clear hF)
   repeat (clear hc)
   repeat (clear hf)
   intro b_2 a w hf hc hF
   unfold kit_Stream_Next_j6 at hF
   refine h6 _ _ ?_
   refine zS fun K h => sp 3 hf rfl fun a hf => zP hf rfl (pFA fa_47_2 rfl) fun a hf => zL hf hc sc_3 m0 rfl fun a w hf hc => sp 4 hf rfl fun a hf => zP hf rfl (pRem rfl rfl (by decide)) fun a hf => sp 1 hf rfl fun a hf => zP hf rfl (pFA fa_47_2 rfl) fun a hf => zW hf hc sz_3 u0 rfl fun w hc => zT h ?_
   refine zS fun K h => sp 2 hf rfl fun a hf => zP hf rfl (pFA fa_47_1 rfl) fun a hf => zL hf hc sc_3 m0 rfl fun a w hf hc => sp 2 hf rfl fun a hf => zP hf rfl (pFA fa_47_1 rfl) fun a hf => zW hf hc sz_3 u0 rfl fun w hc => zT h ?_
   refine wp_seq_k fun K9 h9 => ?_
   have hj9 : ∀ (b_3 : Int) a w,Has 92 a [(1,i6 n),(5,i6 b_3)] → Ctx G (.box b_ [.slice s__bytes_p s_.bytes.length s__bytes_c,i6 (W (s_.used + 1)),i6 ((W ((W ((W (5 * s_.mix)) + b_2)) + 1)).tmod 251)] 47::Lf) w → kit_Stream_Next_j9 N s_ n b_2 b_3 = some res → K9 a w := by
    repeat (clear hF)
    repeat (clear hc)
    repeat (clear hf)
    intro b_3 a w hf hc hF
    unfold kit_Stream_Next_j9 at hF
    refine h9 _ _ ?_
    refine zS fun K h => sp 2 hf rfl fun a hf => ?_
    obtain ⟨un_1,hun_1,hF⟩ := bnd_some hF
    refine zP hf rfl (pRem rfl rfl (nz_spec hun_1)) fun a hf => sp 1 hf rfl fun a hf => zT h ?_
    refine wp_ret ?_
    obtain rfl := sj hF
    exact zO1 Try.results11 hf rfl ⟨rfl,hc⟩
   refine zS fun K h => sp 2 hf rfl fun a hf => zT h ?_
   refine zI hf rfl hF ?_ ?_ <;> clear hF <;> intro hF
   ·refine cReg ?_
    refine sp 4 hf rfl fun a hf => zP hf rfl (pFA fa_47_2 rfl) fun a hf => zL hf hc sc_3 m0 rfl fun a w hf hc => sp 2 hf rfl fun a hf => cNil ?_
    exact hj9 (W ((W (256 * b_2)) + ((W ((W ((W (5 * s_.mix)) + b_2)) + 1)).tmod 251))) _ _  (hf.kp rfl) hc hF
   ·refine wp_skip ?_
    exact hj9 b_2 _ _  (hf.kp rfl) hc hF
  refine wp_seq_k fun K12 h12 => cQ hc follows_mx (by kernel_rfl) ?_
  refine qE hf rfl rfl rfl (Pu.ev (pM rfl)) fun a hf => qE hf rfl rfl rfl (Pu.ev (pNC rfl)) fun a hf => qE hf rfl rfl rfl (Pu.ev (pFA fa_47_1 rfl)) fun a hf => qE hf rfl rfl rfl (eLd1 sc_3 rfl (cell_box m0 rfl)) fun a hf => qE hf rfl rfl rfl (Pu.ev (pM rfl)) fun a hf => qE hf rfl rfl rfl (Pu.ev (pNC rfl)) fun a hf => qE hf rfl rfl rfl (Pu.ev (pFA fa_47_0 rfl)) fun a hf => qE hf rfl rfl rfl (eLd1 sc_22 rfl (cell_box m0 rfl)) fun a hf => qE hf rfl rfl rfl (Pu.ev (pLenS Try.underlying22 rfl)) fun a hf => qE hf rfl rfl rfl (Pu.ev (pGe rfl rfl)) fun a hf => ?_
  intro w hc
  refine h12 _ _ ?_
  refine zI hf rfl hF ?_ ?_ <;> clear hF <;> intro hF
  ·obtain ⟨un_2,hun_2,hF⟩ := bnd_some hF
   refine cQ hc follows_mx (by kernel_rfl) ?_
   refine qE hf rfl rfl rfl (Pu.ev (pM rfl)) fun a hf => qE hf rfl rfl rfl (Pu.ev (pM rfl)) fun a hf => qE hf rfl rfl rfl (Pu.ev (pNC rfl)) fun a hf => qE hf rfl rfl rfl (Pu.ev (pFA fa_47_2 rfl)) fun a hf => qE hf rfl rfl rfl (eLd1 sc_3 rfl (cell_box m0 rfl)) fun a hf => qE hf rfl rfl rfl (Pu.ev (pMul rfl rfl)) fun a hf => qE hf rfl rfl rfl (Pu.ev (pM rfl)) fun a hf => qE hf rfl rfl rfl (Pu.ev (pNC rfl)) fun a hf => qE hf rfl rfl rfl (Pu.ev (pFA fa_47_1 rfl)) fun a hf => qE hf rfl rfl rfl (eLd1 sc_3 rfl (cell_box m0 rfl)) fun a hf => qE hf rfl rfl rfl (Pu.ev (pM rfl)) fun a hf => qE hf rfl rfl rfl (Pu.ev (pNC rfl)) fun a hf => qE hf rfl rfl rfl (Pu.ev (pFA fa_47_0 rfl)) fun a hf => ?_
   refine qE hf rfl rfl rfl (eLd1 sc_22 rfl (cell_box m0 rfl)) fun a hf => qE hf rfl rfl rfl (Pu.ev (pLenS Try.underlying22 rfl)) fun a hf => qE hf rfl rfl rfl (Pu.ev (pQuo rfl rfl (nz_spec hun_2))) fun a hf => qE hf rfl rfl rfl (Pu.ev (pAdd rfl rfl)) fun a hf => qE hf rfl rfl rfl (Pu.ev (pAdd rfl rfl)) fun a hf => qE hf rfl rfl rfl (Pu.ev (pA rfl)) fun a hf => ?_
   intro w hc
   exact hj6 (W ((W (e_1)) + (W ((W (11 * s_.mix)) + (W (s_.used.tdiv ((s_.bytes.length : Nat) : Int))))))) _ _  (hf.kp rfl) hc hF
  ·refine wp_skip ?_
   exact hj6 (W (e_1)) _ _  (hf.kp rfl) hc hF

def kit_Stream_Within (N : Nat) (s_ : kit_Stream) (lo : Int) (hi_ : Int) : Option (Int × Int × Int) :=
 Option.bind (kit_Stream_Next N s_ (W ((W (hi_ - lo)) + 1))) fun r =>
 some (W (lo + r.1),r.2.1,r.2.2)
theorem kit_Stream_Within_ok {N : Nat} {G : Pers} {Lf : List Ent} {w : World} (s_ : kit_Stream) (lo : Int) (hi_ : Int) {b_ : Nat} {s__bytes_p : Option Addr} {s__bytes_c : Nat} (h_s__bytes : Rd G 1 s__bytes_p s__bytes_c (s_.bytes.map encI_u8)) (hc : Ctx G (.box b_ [.slice s__bytes_p s_.bytes.length s__bytes_c,i6 s_.used,i6 s_.mix] 47::Lf) w) {res : Int × Int × Int} (hF : kit_Stream_Within N s_ lo hi_ = some res) : Calls Try.prog 12 #[pq b_,i6 lo,i6 hi_] w (fun e w => e = .returned (i6 res.1) ∧ Ctx G (.box b_ [.slice s__bytes_p s_.bytes.length s__bytes_c,i6 res.2.1,i6 res.2.2] 47::Lf) w) := by
 unfold kit_Stream_Within at hF
 refine fnIn Try.func12 rfl Try.ntmps12 rfl fun a hf => zS fun K h => sp 1 hf rfl fun a hf => zT h ?_
 refine zS fun K h => sp 6 hf rfl fun a hf => ?_
 obtain ⟨r,hr,hF⟩ := bnd_some hF
 refine zC hf en_11 rfl (kit_Stream_Next_ok s_ (W ((W (hi_ - lo)) + 1)) h_s__bytes (hc.pick k0) hr) ?_
 rintro _ w ⟨rfl,hc⟩
 refine ⟨_,rfl,fun a hf => ?_⟩
 refine sp 2 hf rfl fun a hf => zT h ?_
 refine wp_ret ?_
 obtain rfl := sj hF
 exact zO1 Try.results12 hf rfl ⟨rfl,hc⟩

def law07_Counted_j13 (N : Nat) (out : List daily_Reading) (at_ : Int) (x : Int) (r_2 : Int × Int × Int) (r_3 : Int × Int × Int) (b__2 : Int) (b__3 : Int) (x_1 : Int) : Option (Step ((List daily_Reading) × Int × Int × Int × Int) ((List daily_Reading) × Int × Int)) :=
 Option.bind (room ((out ++ [(⟨x_1,r_3.1⟩ : daily_Reading)])).length) fun un =>
 some (.cont ((out ++ [(⟨x_1,r_3.1⟩ : daily_Reading)]),W (at_ + r_2.1),W (x + 1),b__2,b__3))
def law07_Counted_b6 (N : Nat) (s_ : kit_Stream) (r_1 : Int × Int × Int) (out : List daily_Reading) (at_ : Int) (x : Int) (b__0 : Int) (b__1 : Int) : Option (Step ((List daily_Reading) × Int × Int × Int × Int) ((List daily_Reading) × Int × Int)) :=
 cond (decide (x < r_1.1))
 (Option.bind (kit_Stream_Next N (⟨s_.bytes,b__0,b__1⟩ : kit_Stream) 20) fun r_2 =>
 Option.bind (kit_Stream_Within N (⟨s_.bytes,r_2.2.1,r_2.2.2⟩ : kit_Stream) 1 9) fun r_3 =>
 Option.bind (kit_Stream_Next N (⟨s_.bytes,r_3.2.1,r_3.2.2⟩ : kit_Stream) 3) fun r_4 =>
 cond (r_4.1 == 0)
 (Option.bind (kit_Stream_Within N (⟨s_.bytes,r_4.2.1,r_4.2.2⟩ : kit_Stream) (-40) 40) fun r_5 =>
 law07_Counted_j13 N out at_ x r_2 r_3 r_5.2.1 r_5.2.2 (max 0 (W ((W (at_ + r_2.1)) + r_5.1))))
 (law07_Counted_j13 N out at_ x r_2 r_3 r_4.2.1 r_4.2.2 (W (at_ + r_2.1))))
 (some (.brk (out,at_,x,b__0,b__1)))
def law07_Counted (N : Nat) (s_ : kit_Stream) (most : Int) : Option ((List daily_Reading) × Int × Int) :=
 Option.bind (kit_Stream_Next N s_ 50) fun r =>
 Option.bind (kit_Stream_Within N (⟨s_.bytes,r.2.1,r.2.2⟩ : kit_Stream) 1 most) fun r_1 =>
 Option.bind (loopO (fun s6 => law07_Counted_b6 N s_ r_1 s6.1 s6.2.1 s6.2.2.1 s6.2.2.2.1 s6.2.2.2.2) N (([] : List daily_Reading),r.1,0,r_1.2.1,r_1.2.2)) fun x6 =>
 exK x6 (fun s6 => some (s6.1,s6.2.2.2.1,s6.2.2.2.2)) some
theorem law07_Counted_ok {N : Nat} {G : Pers} {Lf : List Ent} {w : World} (s_ : kit_Stream) (most : Int) {b_ : Nat} {s__bytes_p : Option Addr} {s__bytes_c : Nat} (h_s__bytes : Rd G 1 s__bytes_p s__bytes_c (s_.bytes.map encI_u8)) (hc : Ctx G (.box b_ [.slice s__bytes_p s_.bytes.length s__bytes_c,i6 s_.used,i6 s_.mix] 47::Lf) w) {res : (List daily_Reading) × Int × Int} (hF : law07_Counted N s_ most = some res) : Calls Try.prog 4 #[pq b_,i6 most] w (fun e w => ∃ (p'1 : Option Addr) (c'1 : Nat),e = .returned (.slice p'1 res.1.length c'1) ∧ Ctx G (.row p'1 c'1 (res.1.map enc_daily_Reading) 39 2::.box b_ [.slice s__bytes_p s_.bytes.length s__bytes_c,i6 res.2.1,i6 res.2.2] 47::Lf) w) := by
 unfold law07_Counted at hF
 refine fnIn Try.func4 rfl Try.ntmps4 rfl fun a hf => zS fun K h => sp 1 hf rfl fun a hf => zT h ?_
 refine zS fun K h => sp 1 hf rfl fun a hf => zT h ?_
 refine zS fun K h => sp 1 hf rfl fun a hf => ?_
 obtain ⟨r,hr,hF⟩ := bnd_some hF
 refine zC hf en_11 rfl (kit_Stream_Next_ok s_ 50 h_s__bytes (hc.pick k0) hr) ?_
 rintro _ w ⟨rfl,hc⟩
 refine ⟨_,rfl,fun a hf => ?_⟩
 refine sp 1 hf rfl fun a hf => zT h ?_
 refine wp_seq_k fun K4 h4 => zS fun K h => sp 2 hf rfl fun a hf => ?_
 obtain ⟨r_1,hr_1,hF⟩ := bnd_some hF
 refine zC hf en_12 rfl (kit_Stream_Within_ok (⟨s_.bytes,r.2.1,r.2.2⟩ : kit_Stream) 1 most h_s__bytes (hc.pick k0) hr_1) ?_
 rintro _ w ⟨rfl,hc⟩
 refine ⟨_,rfl,fun a hf => ?_⟩
 refine sp 1 hf rfl fun a hf => zT h ?_
 refine wp_block ?_
 obtain ⟨x6,hx6,hF⟩ := bnd_some hF
 let S6 : ((List daily_Reading) × Int × Int × Int × Int) → Act → World → Prop := (fun (zz : (List daily_Reading) × Int × Int × Int × Int) a w => ∃ (p_1 : Option Addr) (c_1 : Nat),Has 38 a [(0,pq b_),(5,.slice p_1 zz.1.length c_1),(6,i6 zz.2.1),(12,i6 r_1.1),(13,i6 zz.2.2.1)] ∧ Ctx G (.row p_1 c_1 (zz.1.map enc_daily_Reading) 39 2::.box b_ [.slice s__bytes_p s_.bytes.length s__bytes_c,i6 zz.2.2.2.1,i6 zz.2.2.2.2] 47::Lf) w)
 have hr6 : ∀ (zz : (List daily_Reading) × Int × Int × Int × Int) a w,x6 = .go zz → S6 zz a w → K4 a w := by
  rintro ⟨out,at_,x,b__0,b__1⟩ a w rfl ⟨p_1,c_1,hf,hc⟩
  replace hF := exK_go hF
  refine h4 _ _ ?_
  refine zS fun K h => sp 2 hf rfl fun a hf => zT h ?_
  refine wp_ret ?_
  obtain rfl := sj hF
  exact zO1 Try.results4 hf rfl ⟨p_1,c_1,rfl,hc⟩
 have ho6 : ∀ r,x6 = .out r → r = res := by
  rintro r rfl
  exact sj hF
 replace hc := hc.nilRow 39 2
 refine cLoop N (loopW (S := S6) (x := x6) ?_ N (([] : List daily_Reading),r.1,0,r_1.2.1,r_1.2.2) _ _ ⟨none,0,hf.kp rfl,hc⟩ hx6)
 clear hF hf hc
 rintro ⟨out,at_,x,b__0,b__1⟩ st6 a w KB6 ⟨p_1,c_1,hf,hc⟩ hF hfin6 hK6
 unfold law07_Counted_b6 at hF
 refine zS fun K h => sp 1 hf rfl fun a hf => zT h ?_
 refine wp_seq_k fun K9 h9 => zI hf rfl hF ?_ ?_ <;> clear hF <;> intro hF
 ·refine wp_skip ?_
  refine h9 _ _ ?_
  refine wp_seq_k fun K10 h10 => wp_block ?_
  refine zS fun K h => sp 2 hf rfl fun a hf => ?_
  obtain ⟨r_2,hr_2,hF⟩ := bnd_some hF
  refine zC hf en_11 rfl (kit_Stream_Next_ok (⟨s_.bytes,b__0,b__1⟩ : kit_Stream) 20 h_s__bytes (hc.pick k1) hr_2) ?_
  rintro _ w ⟨rfl,hc⟩
  refine ⟨_,rfl,fun a hf => ?_⟩
  refine sp 2 hf rfl fun a hf => zT h ?_
  refine zS fun K h => sp 2 hf rfl fun a hf => ?_
  obtain ⟨r_3,hr_3,hF⟩ := bnd_some hF
  refine zC hf en_12 rfl (kit_Stream_Within_ok (⟨s_.bytes,r_2.2.1,r_2.2.2⟩ : kit_Stream) 1 9 h_s__bytes (hc.pick k0) hr_3) ?_
  rintro _ w ⟨rfl,hc⟩
  refine ⟨_,rfl,fun a hf => ?_⟩
  refine zP hf rfl (pBuildS (cells := [i6 (W (at_ + r_2.1)),i6 r_3.1]) bt_39 rfl rfl) fun a hf => zA hf hc zr_39 rfl fun b_1 a w hf hc => zW hf hc sz_39 u0 rfl fun w hc => zT h ?_
  refine wp_seq_k fun K13 h13 => ?_
  have hj13 : ∀ (b__2 : Int) (b__3 : Int) (x_1 : Int) a w,Has 38 a [(0,pq b_),(5,.slice p_1 out.length c_1),(6,i6 (W (at_ + r_2.1))),(7,pq b_1),(12,i6 r_1.1),(13,i6 x)] → Ctx G (.box b_ [.slice s__bytes_p s_.bytes.length s__bytes_c,i6 b__2,i6 b__3] 47::.box b_1 [i6 x_1,i6 r_3.1] 39::.row p_1 c_1 (out.map enc_daily_Reading) 39 2::Lf) w → law07_Counted_j13 N out at_ x r_2 r_3 b__2 b__3 x_1 = some st6 → K13 a w := by
   repeat (clear hF)
   repeat (clear hc)
   repeat (clear hf)
   intro b__2 b__3 x_1 a w hf hc hF
   unfold law07_Counted_j13 at hF
   refine h13 _ _ ?_
   refine cReg ?_
   refine sp 1 hf rfl fun a hf => zN hf hc ag_39 m1 rfl fun a w hf hc => stBS (rows := ([(⟨x_1,r_3.1⟩ : daily_Reading)] : List daily_Reading).map enc_daily_Reading) (vs := [(0,.agg #[i6 x_1,i6 r_3.1])]) hf hc rfl rfl sl_23 rfl ⟨rfl,rfl,rfl,trivial⟩ rfl rfl fun b_2 a w hf hc => ?_
   obtain ⟨un,hun,hF⟩ := bnd_some hF
   refine stApm (xs := out) (ys := ([(⟨x_1,r_3.1⟩ : daily_Reading)] : List daily_Reading)) hf hc rfl rfl sl_23 rfl rfl rfl rfl rfl one_enc_daily_Reading (src_row hc m0) (fun _ _ => u3) (by simpa using room_spec hun) fun p_2 c_2 a w hf hc => sp 1 hf rfl fun a hf => cNil ?_
   refine h10 _ _ ?_
   refine cReg ?_
   refine sp 2 hf rfl fun a hf => cNil ?_
   replace hc := (((hc.drop k2).drop k0).pick k0).pick k1
   exact hK6 ((out ++ [(⟨x_1,r_3.1⟩ : daily_Reading)]),W (at_ + r_2.1),W (x + 1),b__2,b__3) _ _ (sj hF).symm ⟨p_2,c_2,hf.kp rfl,hc⟩
  refine zS fun K h => sp 1 hf rfl fun a hf => ?_
  obtain ⟨r_4,hr_4,hF⟩ := bnd_some hF
  refine zC hf en_11 rfl (kit_Stream_Next_ok (⟨s_.bytes,r_3.2.1,r_3.2.2⟩ : kit_Stream) 3 h_s__bytes (hc.pick k1) hr_4) ?_
  rintro _ w ⟨rfl,hc⟩
  refine ⟨_,rfl,fun a hf => ?_⟩
  refine sp 1 hf rfl fun a hf => zT h ?_
  refine zI hf rfl hF ?_ ?_ <;> clear hF <;> intro hF
  ·refine cReg ?_
   refine sp 2 hf rfl fun a hf => ?_
   obtain ⟨r_5,hr_5,hF⟩ := bnd_some hF
   refine zC hf en_12 rfl (kit_Stream_Within_ok (⟨s_.bytes,r_4.2.1,r_4.2.2⟩ : kit_Stream) (-40) 40 h_s__bytes (hc.pick k0) hr_5) ?_
   rintro _ w ⟨rfl,hc⟩
   refine ⟨_,rfl,fun a hf => ?_⟩
   refine sp 1 hf rfl fun a hf => zP hf rfl (pMax2 rfl rfl) fun a hf => zP hf rfl (pFA fa_39_0 rfl) fun a hf => zW hf hc sz_3 u1 rfl fun w hc => cNil ?_
   exact hj13 r_5.2.1 r_5.2.2 (max 0 (W ((W (at_ + r_2.1)) + r_5.1))) _ _  (hf.kp rfl) hc hF
  ·refine wp_skip ?_
   exact hj13 r_4.2.1 r_4.2.2 (W (at_ + r_2.1)) _ _  (hf.kp rfl) hc hF
 ·refine wp_exit ?_
  refine xThen ?_
  refine xThen ?_
  have he := sj hF
  rw [← he] at hfin6
  refine cHit ?_
  exact hr6 _ _ _ hfin6 ⟨p_1,c_1,hf.kp rfl,hc⟩

def daily_in (n : Int) (least : Int) (greatest : Int) : Bool :=
 ((decide (least ≤ n)) && (decide (n ≤ greatest)))
theorem daily_in_ok {G : Pers} {Lf : List Ent} {w : World} (n : Int) (least : Int) (greatest : Int)   (hc : Ctx G (Lf) w) {res : Bool} (hF : daily_in n least greatest = res) : Calls Try.prog 20 #[i6 n,i6 least,i6 greatest] w (fun e w => e = .returned (.bool res) ∧ Ctx G (Lf) w) := by
 unfold daily_in at hF
 refine fnIn Try.func20 rfl Try.ntmps20 rfl fun a hf => zS fun K h => sp 1 hf rfl fun a hf => zT h ?_
 refine zS fun K h => sp 4 hf rfl fun a hf => stCc 4 (fun a => Has 15 a [(0,i6 n),(1,i6 least),(2,i6 greatest),(6,.bool false),(7,i6 n),(8,i6 least),(9,.bool (decide (least ≤ n))),(10,.bool (decide (least ≤ n))),(14,.bool ((decide (least ≤ n)) && (decide (n ≤ greatest))))]) hc ?_ ?_
 ·cases hb : (decide (least ≤ n))
  ·rw [hb] at hf
   refine stS hf rfl rfl rfl fun a hf => stS hf rfl rfl rfl fun a hf => stS hf rfl rfl rfl fun a hf => sp 1 hf rfl fun a hf => cNil ⟨hf.kp rfl,hc⟩
  ·rw [hb] at hf
   refine sp 4 hf rfl fun a hf => cNil ⟨hf.kp rfl,hc⟩
 intro a w ⟨hf,hc⟩
 refine sp 1 hf rfl fun a hf => zT h ?_
 refine wp_ret ?_
 obtain rfl := hF
 exact zO1 Try.results20 hf rfl ⟨rfl,hc⟩

def daily_CheckReadings_1 (x : daily_Reading) : Bool :=
 ((daily_in x.Value 0 1000000) && (daily_in x.Weight 1 100))
theorem daily_CheckReadings_1_ok {G : Pers} {Lf : List Ent} {w : World} (x : daily_Reading)   (hc : Ctx G (Lf) w) {res : Bool} (hF : daily_CheckReadings_1 x = res) : Calls Try.prog 35 #[.agg #[i6 x.Value,i6 x.Weight]] w (fun e w => e = .returned (.bool res) ∧ Ctx G (Lf) w) := by
 unfold daily_CheckReadings_1 at hF
 refine fnIn Try.func35 rfl Try.ntmps35 rfl fun a hf => zS fun K h => zB hf hc rfl fun b_1 a w hf hc => sp 1 hf rfl fun a hf => zT h ?_
 refine zS fun K h => zP hf rfl (pFA fa_39_0 rfl) fun a hf => zL hf hc sc_3 m0 rfl fun a w hf hc => zQ (v := .bool (daily_in x.Value 0 1000000)) hf hc en_20 rfl (fun w hc => daily_in_ok x.Value 0 1000000 hc rfl) fun a w hf hc => sp 1 hf rfl fun a hf => stCc 4 (fun a => Has 11 a [(1,pq b_1),(2,.bool false),(3,pq b_1),(4,i6 x.Value),(5,.bool (daily_in x.Value 0 1000000)),(6,.bool (daily_in x.Value 0 1000000)),(10,.bool ((daily_in x.Value 0 1000000) && (daily_in x.Weight 1 100)))]) hc ?_ ?_
 ·cases hb : (daily_in x.Value 0 1000000)
  ·rw [hb] at hf
   refine stS hf rfl rfl rfl fun a hf => stS hf rfl rfl rfl fun a hf => stS hf rfl rfl rfl fun a hf => sp 1 hf rfl fun a hf => cNil ⟨hf.kp rfl,hc⟩
  ·rw [hb] at hf
   refine zP hf rfl (pFA fa_39_1 rfl) fun a hf => zL hf hc sc_3 m0 rfl fun a w hf hc => zQ (v := .bool (daily_in x.Weight 1 100)) hf hc en_20 rfl (fun w hc => daily_in_ok x.Weight 1 100 hc rfl) fun a w hf hc => sp 1 hf rfl fun a hf => cNil ⟨hf.kp rfl,hc⟩
 intro a w ⟨hf,hc⟩
 refine sp 1 hf rfl fun a hf => zT h ?_
 refine wp_ret ?_
 obtain rfl := hF
 replace hc := hc.drop k0
 exact zO1 Try.results35 hf rfl ⟨rfl,hc⟩

def daily_every_daily_Reading_1 (x : daily_Reading) : Bool :=
 (!(daily_CheckReadings_1 x))
theorem daily_every_daily_Reading_1_ok {G : Pers} {Lf : List Ent} {w : World} (x : daily_Reading) {b_ : Nat}  (hc : Ctx G (.box b_ [.func (.func 35) #[] #[]] 85::Lf) w) {res : Bool} (hF : daily_every_daily_Reading_1 x = res) : Calls Try.prog 56 #[.agg #[i6 x.Value,i6 x.Weight],pq b_] w (fun e w => e = .returned (.bool res) ∧ Ctx G (.box b_ [.func (.func 35) #[] #[]] 85::Lf) w) := by
 unfold daily_every_daily_Reading_1 at hF
 refine fnIn Try.func56 rfl Try.ntmps56 rfl fun a hf => zS fun K h => zB hf hc rfl fun b_1 a w hf hc => sp 1 hf rfl fun a hf => zT h ?_
 refine zS fun K h => zL hf hc sc_85 m1 rfl fun a w hf hc => zN hf hc ag_39 m0 rfl fun a w hf hc => zQ (v := .bool (daily_CheckReadings_1 x)) hf hc en_35 rfl (fun w hc => daily_CheckReadings_1_ok x hc rfl) fun a w hf hc => sp 2 hf rfl fun a hf => zT h ?_
 refine wp_ret ?_
 obtain rfl := hF
 replace hc := hc.drop k0
 exact zO1 Try.results56 hf rfl ⟨rfl,hc⟩

def slices_IndexFunc_Ldaily_Reading_daily_Reading_b4 (N : Nat) (s_ : List daily_Reading) (x : Int) : Option (Step (Int) (Int)) :=
 cond (decide (x < ((s_.length : Nat) : Int)))
 (Option.bind (getI s_ x) fun e_1 =>
 cond (daily_every_daily_Reading_1 e_1)
 (some (.ret x))
 (some (.cont (W (x + 1)))))
 (some (.brk x))
def slices_IndexFunc_Ldaily_Reading_daily_Reading (N : Nat) (s_ : List daily_Reading) : Option (Int) :=
 Option.bind (loopO (fun s4 => slices_IndexFunc_Ldaily_Reading_daily_Reading_b4 N s_ s4) N 0) fun x4 =>
 exK x4 (fun s4 => some (-1)) some
theorem slices_IndexFunc_Ldaily_Reading_daily_Reading_ok {N : Nat} {G : Pers} {Lf : List Ent} {w : World} (s_ : List daily_Reading) {s__p : Option Addr} {s__c : Nat} {b_ : Nat} (h_s_ : Rd G 2 s__p s__c (s_.map enc_daily_Reading)) (hc : Ctx G (.box b_ [.func (.func 35) #[] #[]] 85::Lf) w) {res : Int} (hF : slices_IndexFunc_Ldaily_Reading_daily_Reading N s_ = some res) : Calls Try.prog 77 #[.slice s__p s_.length s__c,.func (.func 56) #[] #[pq b_]] w (fun e w => e = .returned (i6 res) ∧ Ctx G (.box b_ [.func (.func 35) #[] #[]] 85::Lf) w) := by
 unfold slices_IndexFunc_Ldaily_Reading_daily_Reading at hF
 refine fnIn Try.func77 rfl Try.ntmps77 rfl fun a hf => zS fun K h => sp 1 hf rfl fun a hf => zT h ?_
 refine wp_seq_k fun K2 h2 => zS fun K h => sp 1 hf rfl fun a hf => zP hf rfl (pLenS Try.underlying23 rfl) fun a hf => sp 1 hf rfl fun a hf => zT h ?_
 refine wp_block ?_
 obtain ⟨x4,hx4,hF⟩ := bnd_some hF
 let S4 : Int → Act → World → Prop := (fun (zz : Int) a w => Has 19 a [(0,.slice s__p s_.length s__c),(1,.func (.func 56) #[] #[pq b_]),(7,i6 ((s_.length : Nat) : Int)),(8,i6 zz)] ∧ Ctx G (.box b_ [.func (.func 35) #[] #[]] 85::Lf) w)
 have hr4 : ∀ (zz : Int) a w,x4 = .go zz → S4 zz a w → K2 a w := by
  rintro x a w rfl ⟨hf,hc⟩
  replace hF := exK_go hF
  refine h2 _ _ ?_
  refine zS fun K h => sp 1 hf rfl fun a hf => zT h ?_
  refine wp_ret ?_
  obtain rfl := sj hF
  exact zO1 Try.results77 hf rfl ⟨rfl,hc⟩
 have ho4 : ∀ r,x4 = .out r → r = res := by
  rintro r rfl
  exact sj hF
 refine cLoop N (loopW (S := S4) (x := x4) ?_ N 0 _ _ ⟨hf.kp rfl,hc⟩ hx4)
 clear hF hf hc
 rintro x st4 a w KB4 ⟨hf,hc⟩ hF hfin4 hK4
 unfold slices_IndexFunc_Ldaily_Reading_daily_Reading_b4 at hF
 refine zS fun K h => sp 1 hf rfl fun a hf => zT h ?_
 refine wp_seq_k fun K7 h7 => zI hf rfl hF ?_ ?_ <;> clear hF <;> intro hF
 ·refine wp_skip ?_
  refine h7 _ _ ?_
  refine wp_seq_k fun K8 h8 => wp_block ?_
  refine zS fun K h => sp 2 hf rfl fun a hf => zT h ?_
  refine zS fun K h => sp 3 hf rfl fun a hf => ?_
  obtain ⟨e_1,he_1,hF⟩ := bnd_some hF
  obtain ⟨b_1,o,qa,qp⟩ := h_s_.atm he_1
  refine zP hf rfl (pIA Try.underlying23 sz_39 rfl rfl qa) fun a hf => zE hf hc rfl (eLdN (vs := [i6 e_1.Value,i6 e_1.Weight]) ag_39 rfl rfl (cells_pc qp (n := 2) (o' := 0) rfl)) fun a w hf hc => zQ (v := .bool (daily_every_daily_Reading_1 e_1)) hf hc en_56 rfl (fun w hc => (daily_every_daily_Reading_1_ok e_1 (hc.pick k0) rfl).mono fun e w h => ⟨h.1,(h.2.unpick k0)⟩) fun a w hf hc => zT h ?_
  refine zI hf rfl hF ?_ ?_ <;> clear hF <;> intro hF
  ·refine zS fun K h => sp 2 hf rfl fun a hf => zT h ?_
   refine wp_ret ?_
   refine xBlkR ?_
   refine xThenR ?_
   refine xThenR ?_
   have he := sj hF
   rw [← he] at hfin4
   replace hF := ho4 _ hfin4
   refine xBlkR ?_
   refine xThenR ?_
   obtain rfl := hF
   exact zO1 Try.results77 hf rfl ⟨rfl,hc⟩
  ·refine wp_skip ?_
   refine h8 _ _ ?_
   refine cReg ?_
   refine sp 2 hf rfl fun a hf => cNil ?_
   exact hK4 (W (x + 1)) _ _ (sj hF).symm ⟨hf.kp rfl,hc⟩
 ·refine wp_exit ?_
  refine xThen ?_
  refine xThen ?_
  have he := sj hF
  rw [← he] at hfin4
  refine cHit ?_
  exact hr4 _ _ _ hfin4 ⟨hf.kp rfl,hc⟩

def slices_ContainsFunc_Ldaily_Reading_daily_Reading (N : Nat) (s_ : List daily_Reading) : Option (Bool) :=
 Option.bind (slices_IndexFunc_Ldaily_Reading_daily_Reading N s_) fun r =>
 some (decide (0 ≤ r))
theorem slices_ContainsFunc_Ldaily_Reading_daily_Reading_ok {N : Nat} {G : Pers} {Lf : List Ent} {w : World} (s_ : List daily_Reading) {s__p : Option Addr} {s__c : Nat} {b_ : Nat} (h_s_ : Rd G 2 s__p s__c (s_.map enc_daily_Reading)) (hc : Ctx G (.box b_ [.func (.func 35) #[] #[]] 85::Lf) w) {res : Bool} (hF : slices_ContainsFunc_Ldaily_Reading_daily_Reading N s_ = some res) : Calls Try.prog 55 #[.slice s__p s_.length s__c,.func (.func 56) #[] #[pq b_]] w (fun e w => e = .returned (.bool res) ∧ Ctx G (.box b_ [.func (.func 35) #[] #[]] 85::Lf) w) := by
 unfold slices_ContainsFunc_Ldaily_Reading_daily_Reading at hF
 refine fnIn Try.func55 rfl Try.ntmps55 rfl fun a hf => zS fun K h => sp 1 hf rfl fun a hf => zT h ?_
 refine zS fun K h => sp 2 hf rfl fun a hf => ?_
 obtain ⟨r,hr,hF⟩ := bnd_some hF
 refine zQ (v := i6 r) hf hc en_77 rfl (fun w hc => (slices_IndexFunc_Ldaily_Reading_daily_Reading_ok s_ h_s_ (hc.pick k0) hr).mono fun e w h => ⟨h.1,(h.2.unpick k0)⟩) fun a w hf hc => sp 2 hf rfl fun a hf => zT h ?_
 refine wp_ret ?_
 obtain rfl := sj hF
 exact zO1 Try.results55 hf rfl ⟨rfl,hc⟩

def daily_every_daily_Reading (N : Nat) (l : List daily_Reading) : Option (Bool) :=
 Option.bind (slices_ContainsFunc_Ldaily_Reading_daily_Reading N l) fun r =>
 some (!r)
theorem daily_every_daily_Reading_ok {N : Nat} {G : Pers} {Lf : List Ent} {w : World} (l : List daily_Reading) {l_p : Option Addr} {l_c : Nat} (h_l : Rd G 2 l_p l_c (l.map enc_daily_Reading)) (hc : Ctx G (Lf) w) {res : Bool} (hF : daily_every_daily_Reading N l = some res) : Calls Try.prog 34 #[.slice l_p l.length l_c,.func (.func 35) #[] #[]] w (fun e w => e = .returned (.bool res) ∧ Ctx G (Lf) w) := by
 unfold daily_every_daily_Reading at hF
 refine fnIn Try.func34 rfl Try.ntmps34 rfl fun a hf => zS fun K h => zB hf hc rfl fun b_1 a w hf hc => sp 1 hf rfl fun a hf => zT h ?_
 refine zS fun K h => sp 1 hf rfl fun a hf => zP hf rfl (pMF (us := [pq b_1]) rfl rfl) fun a hf => ?_
 obtain ⟨r,hr,hF⟩ := bnd_some hF
 refine zQ (v := .bool r) hf hc en_55 rfl (fun w hc => (slices_ContainsFunc_Ldaily_Reading_daily_Reading_ok l h_l (hc.pick k0) hr).mono fun e w h => ⟨h.1,(h.2.unpick k0)⟩) fun a w hf hc => sp 2 hf rfl fun a hf => zT h ?_
 refine wp_ret ?_
 obtain rfl := sj hF
 replace hc := hc.drop k0
 exact zO1 Try.results34 hf rfl ⟨rfl,hc⟩

def daily_CheckReadings (N : Nat) (l : List daily_Reading) : Option (Int) :=
 cond (!(daily_in ((l.length : Nat) : Int) 1 30))
 (some 3)
 (Option.bind (daily_every_daily_Reading N l) fun r =>
 cond (!r)
 (some 80)
 (some 0))
theorem daily_CheckReadings_ok {N : Nat} {G : Pers} {Lf : List Ent} {w : World} (l : List daily_Reading) {l_p : Option Addr} {l_c : Nat} (h_l : Rd G 2 l_p l_c (l.map enc_daily_Reading)) (hc : Ctx G (Lf) w) {res : Int} (hF : daily_CheckReadings N l = some res) : Calls Try.prog 14 #[.slice l_p l.length l_c] w (fun e w => e = .returned (i6 res) ∧ Ctx G (Lf) w) := by
 unfold daily_CheckReadings at hF
 refine fnIn Try.func14 rfl Try.ntmps14 rfl fun a hf => zS fun K h => sp 1 hf rfl fun a hf => zT h ?_
 refine wp_seq_k fun K2 h2 => wp_block ?_
 refine zS fun K h => sp 1 hf rfl fun a hf => zP hf rfl (pLenS Try.underlying23 rfl) fun a hf => zQ (v := .bool (daily_in ((l.length : Nat) : Int) 1 30)) hf hc en_20 rfl (fun w hc => daily_in_ok ((l.length : Nat) : Int) 1 30 hc rfl) fun a w hf hc => sp 2 hf rfl fun a hf => zT h ?_
 refine zI hf rfl hF ?_ ?_ <;> clear hF <;> intro hF
 ·refine zS fun K h => sp 1 hf rfl fun a hf => zT h ?_
  refine wp_ret ?_
  refine xBlkR ?_
  refine xThenR ?_
  obtain rfl := sj hF
  exact zO1 Try.results14 hf rfl ⟨rfl,hc⟩
 ·refine zS fun K h => sp 1 hf rfl fun a hf => ?_
  obtain ⟨r,hr,hF⟩ := bnd_some hF
  refine zQ (v := .bool r) hf hc en_34 rfl (fun w hc => daily_every_daily_Reading_ok l h_l hc hr) fun a w hf hc => sp 2 hf rfl fun a hf => zT h ?_
  refine zI hf rfl hF ?_ ?_ <;> clear hF <;> intro hF
  ·refine zS fun K h => sp 1 hf rfl fun a hf => zT h ?_
   refine wp_ret ?_
   refine xBlkR ?_
   refine xThenR ?_
   obtain rfl := sj hF
   exact zO1 Try.results14 hf rfl ⟨rfl,hc⟩
  ·refine wp_skip ?_
   refine h2 _ _ ?_
   refine zS fun K h => sp 1 hf rfl fun a hf => zT h ?_
   refine wp_ret ?_
   obtain rfl := sj hF
   exact zO1 Try.results14 hf rfl ⟨rfl,hc⟩

def slices_Sort_Lint_int (N : Nat) (x : List Int) : Option ((List Int)) :=
 sortO x
/-! ### Walks of the library -/
end Go.Nilo
namespace Go.Proofs
open Go.Shelf
def Try.lays189_ren : Go.Shelf.Ren := ⟨fun | 189 => 15 | 125 => 37 | 257 => 36 | 128 => 65 | 129 => 66 | 294 => 57 | 295 => 58 | 296 => 59 | 297 => 60 | 298 => 61 | 299 => 62 | 216 => 23 | 300 => 63 | 301 => 64 | 328 => 78 | 329 => 79 | 330 => 80 | 331 => 81 | 332 => 82 | 215 => 43 | 343 => 91 | n => n,fun | 28 => 27 | 3 => 3 | 46 => 88 | 0 => 0 | 51 => 124 | 53 => 126 | 4 => 4 | 183 => 117 | 182 => 116 | 131 => 121 | 5 => 5 | 9 => 9 | 218 => 134 | 222 => 138 | 228 => 148 | 229 => 149 | n => n,fun | n => n⟩
theorem Try.lays189 : Go.Proofs.Lays.n189 Try.prog Try.lays189_ren := {
 mixed := by kernel_rfl
 f125 := Try.func37.trans (congrArg some (by kernel_rfl))
 f128 := Try.func65.trans (congrArg some (by kernel_rfl))
 f129 := Try.func66.trans (congrArg some (by kernel_rfl))
 f189 := Try.func15.trans (congrArg some (by kernel_rfl))
 f215 := Try.func43.trans (congrArg some (by kernel_rfl))
 f216 := Try.func23.trans (congrArg some (by kernel_rfl))
 f257 := Try.func36.trans (congrArg some (by kernel_rfl))
 f294 := Try.func57.trans (congrArg some (by kernel_rfl))
 f295 := Try.func58.trans (congrArg some (by kernel_rfl))
 f296 := Try.func59.trans (congrArg some (by kernel_rfl))
 f297 := Try.func60.trans (congrArg some (by kernel_rfl))
 f298 := Try.func61.trans (congrArg some (by kernel_rfl))
 f299 := Try.func62.trans (congrArg some (by kernel_rfl))
 f300 := Try.func63.trans (congrArg some (by kernel_rfl))
 f301 := Try.func64.trans (congrArg some (by kernel_rfl))
 f328 := Try.func78.trans (congrArg some (by kernel_rfl))
 f329 := Try.func79.trans (congrArg some (by kernel_rfl))
 f330 := Try.func80.trans (congrArg some (by kernel_rfl))
 f331 := Try.func81.trans (congrArg some (by kernel_rfl))
 f332 := Try.func82.trans (congrArg some (by kernel_rfl))
 f343 := Try.func91.trans (congrArg some (by kernel_rfl))
 t0 := Try.underlying0
 a0 := Try.isAgg0
 z0 := Try.sizeOf0
 v0 := Try.zeroValue0
 t3 := Try.underlying3
 a3 := Try.isAgg3
 z3 := Try.sizeOf3
 v3 := Try.zeroValue3
 t4 := Try.underlying4
 a4 := Try.isAgg4
 z4 := Try.sizeOf4
 v4 := Try.zeroValue4
 t5 := Try.underlying5
 a5 := Try.isAgg5
 z5 := Try.sizeOf5
 v5 := Try.zeroValue5
 t9 := Try.underlying9
 a9 := Try.isAgg9
 z9 := Try.sizeOf9
 v9 := Try.zeroValue9
 t28 := Try.underlying27
 a28 := Try.isAgg27
 z28 := Try.sizeOf27
 v28 := Try.zeroValue27
 t46 := Try.underlying88
 a46 := Try.isAgg88
 z46 := Try.sizeOf88
 v46 := Try.zeroValue88
 t51 := Try.underlying124
 a51 := Try.isAgg124
 z51 := Try.sizeOf124
 v51 := Try.zeroValue124
 t53 := Try.underlying126
 a53 := Try.isAgg126
 z53 := Try.sizeOf126
 v53 := Try.zeroValue126
 t131 := Try.underlying121
 a131 := Try.isAgg121
 z131 := Try.sizeOf121
 v131 := Try.zeroValue121
 t182 := Try.underlying116
 a182 := Try.isAgg116
 z182 := Try.sizeOf116
 v182 := Try.zeroValue116
 t183 := Try.underlying117
 a183 := Try.isAgg117
 z183 := Try.sizeOf117
 v183 := Try.zeroValue117
 t218 := Try.underlying134
 a218 := Try.isAgg134
 z218 := Try.sizeOf134
 v218 := Try.zeroValue134
 t222 := Try.underlying138
 a222 := Try.isAgg138
 z222 := Try.sizeOf138
 v222 := Try.zeroValue138
 t228 := Try.underlying148
 a228 := Try.isAgg148
 z228 := Try.sizeOf148
 v228 := Try.zeroValue148
 t229 := Try.underlying149
 a229 := Try.isAgg149
 z229 := Try.sizeOf149
 v229 := Try.zeroValue149 }
def Try.lays20_ren : Go.Shelf.Ren := ⟨fun | 20 => 16 | n => n,fun | 22 => 27 | 3 => 3 | 4 => 4 | 0 => 0 | n => n,fun | n => n⟩
theorem Try.lays20 : Go.Proofs.Lays2.n20 Try.prog Try.lays20_ren := {
 mixed := by kernel_rfl
 f20 := Try.func16.trans (congrArg some (by kernel_rfl))
 t0 := Try.underlying0
 a0 := Try.isAgg0
 z0 := Try.sizeOf0
 v0 := Try.zeroValue0
 t3 := Try.underlying3
 a3 := Try.isAgg3
 z3 := Try.sizeOf3
 v3 := Try.zeroValue3
 t4 := Try.underlying4
 a4 := Try.isAgg4
 z4 := Try.sizeOf4
 v4 := Try.zeroValue4
 t22 := Try.underlying27
 a22 := Try.isAgg27
 z22 := Try.sizeOf27
 v22 := Try.zeroValue27
 i3 := by kernel_rfl }
end Go.Proofs
namespace Go.Nilo
open Go.Proofs

theorem slices_Sort_Lint_int_ok {N : Nat} {G : Pers} {Lf : List Ent} {w : World} (x : List Int) {x_p : Option Addr} {x_c : Nat}  (hc : Ctx G (.row x_p x_c (x.map encI_i64) 3 1::Lf) w) {res : (List Int)} (hF : slices_Sort_Lint_int N x = some res) : Calls Try.prog 15 #[.slice x_p x.length x_c] w (fun e w => e = .returned (.tuple #[]) ∧ res.length = x.length ∧ Ctx G (.row x_p x_c (res.map encI_i64) 3 1::Lf) w) := by
 unfold slices_Sort_Lint_int at hF
 exact sort_ctx (fun w => sort_nil Go.Proofs.Try.lays189 w) (fun b o c zs w h1 h2 h3 => Go.Proofs.Any.slices_Sort_int Go.Proofs.Try.lays189 b o c zs w h1 h2 h3) hc hF

def slices_Compact_Lint_int (N : Nat) (s_ : List Int) : Option ((List Int)) :=
 compO s_
/-! ### Walks of the library -/

theorem slices_Compact_Lint_int_ok {N : Nat} {G : Pers} {Lf : List Ent} {w : World} (s_ : List Int) {s__p : Option Addr} {s__c : Nat}  (hc : Ctx G (.row s__p s__c (s_.map encI_i64) 3 1::Lf) w) {res : (List Int)} (hF : slices_Compact_Lint_int N s_ = some res) : Calls Try.prog 16 #[.slice s__p s_.length s__c] w (fun e w => ∃ (p'1 : Option Addr) (c'1 : Nat),e = .returned (.slice p'1 res.length c'1) ∧ Ctx G (.row p'1 c'1 (res.map encI_i64) 3 1::Lf) w) := by
 unfold slices_Compact_Lint_int at hF
 exact compact_ctx (fun a c w => Go.Proofs.Any.slices_Compact_int_empty Go.Proofs.Try.lays20 a c w) (fun b o c zs w h1 h2 h3 => Go.Proofs.Any.slices_Compact_int Go.Proofs.Try.lays20 b o c zs w h1 h2 h3) hc hF

def daily_Reading_costs (x : daily_Reading) (n : Int) : Int :=
 W (x.Weight * (max (W (n - x.Value)) (W (x.Value - n))))
theorem daily_Reading_costs_ok {G : Pers} {Lf : List Ent} {w : World} (x : daily_Reading) (n : Int)   (hc : Ctx G (Lf) w) {res : Int} (hF : daily_Reading_costs x n = res) : Calls Try.prog 17 #[.agg #[i6 x.Value,i6 x.Weight],i6 n] w (fun e w => e = .returned (i6 res) ∧ Ctx G (Lf) w) := by
 unfold daily_Reading_costs at hF
 refine fnIn Try.func17 rfl Try.ntmps17 rfl fun a hf => zS fun K h => zB hf hc rfl fun b_1 a w hf hc => sp 1 hf rfl fun a hf => zT h ?_
 refine zS fun K h => zP hf rfl (pFA fa_39_1 rfl) fun a hf => zL hf hc sc_3 m0 rfl fun a w hf hc => sp 1 hf rfl fun a hf => zP hf rfl (pFA fa_39_0 rfl) fun a hf => zL hf hc sc_3 m0 rfl fun a w hf hc => sp 1 hf rfl fun a hf => zP hf rfl (pFA fa_39_0 rfl) fun a hf => zL hf hc sc_3 m0 rfl fun a w hf hc => sp 2 hf rfl fun a hf => zP hf rfl (pMax2 rfl rfl) fun a hf => sp 2 hf rfl fun a hf => zT h ?_
 refine wp_ret ?_
 obtain rfl := hF
 replace hc := hc.drop k0
 exact zO1 Try.results17 hf rfl ⟨rfl,hc⟩

def daily_Correct_b19 (N : Nat) (l : List daily_Reading) (r_2 : (List Int)) (mp : Int × Int → Option daily_place) (out : List Int) (x_1 : Int) (x_2 : Int) : Option (Step ((List Int) × Int × Int) ((List Int) × Int × Int)) :=
 cond (!(x_1 == ((l.length : Nat) : Int) && x_2 == x_2))
 (Option.bind (getI r_2 (((mp (x_1,x_2)).getD (⟨0,0⟩ : daily_place)).value)) fun e_1 =>
 Option.bind (room ((out ++ [e_1])).length) fun un =>
 some (.cont ((out ++ [e_1]),W ((((mp (x_1,x_2)).getD (⟨0,0⟩ : daily_place)).reading) + 1),((mp (x_1,x_2)).getD (⟨0,0⟩ : daily_place)).value)))
 (some (.brk (out,x_1,x_2)))
def daily_Correct_j34 (N : Nat) (k : Int) (mp_4 : Int × Int → Option daily_place) (mp_5 : Int × Int → Option Int) : Option (Step (Int × (Int × Int → Option daily_place) × (Int × Int → Option Int)) (Step (Int × (Int × Int → Option daily_place) × (Int × Int → Option Int)) ((List Int) × Int × Int))) :=
 some (.cont (W (k - 1),mp_4,mp_5))
def daily_Correct_b31 (N : Nat) (l : List daily_Reading) (r_2 : (List Int)) (i_1 : Int) (k : Int) (mp_2 : Int × Int → Option daily_place) (mp_3 : Int × Int → Option Int) : Option (Step (Int × (Int × Int → Option daily_place) × (Int × Int → Option Int)) (Step (Int × (Int × Int → Option daily_place) × (Int × Int → Option Int)) ((List Int) × Int × Int))) :=
 cond (decide (0 ≤ k))
 (Option.bind (getI l i_1) fun e_2 =>
 Option.bind (getI r_2 k) fun e_3 =>
 cond (((W (k + 1)) == ((r_2.length : Nat) : Int)) || (decide ((W ((daily_Reading_costs e_2 e_3) + ((mp_3 (W (i_1 + 1),k)).getD 0))) ≤ ((mp_3 (i_1,W (k + 1))).getD 0))))
 (daily_Correct_j34 N k (setG mp_2 (i_1,k) (⟨i_1,k⟩ : daily_place)) (setG mp_3 (i_1,k) (W ((daily_Reading_costs e_2 e_3) + ((mp_3 (W (i_1 + 1),k)).getD 0)))))
 (daily_Correct_j34 N k (setG mp_2 (i_1,k) ((mp_2 (i_1,W (k + 1))).getD (⟨0,0⟩ : daily_place))) (setG (setG mp_3 (i_1,k) ((mp_3 (i_1,k)).getD 0)) (i_1,k) ((mp_3 (i_1,W (k + 1))).getD 0))))
 (some (.brk (k,mp_2,mp_3)))
def daily_Correct_b15 (N : Nat) (l : List daily_Reading) (r_2 : (List Int)) (i_1 : Int) (mp : Int × Int → Option daily_place) (mp_1 : Int × Int → Option Int) : Option (Step (Int × (Int × Int → Option daily_place) × (Int × Int → Option Int)) ((List Int) × Int × Int)) :=
 cond (decide (0 ≤ i_1))
 (Option.bind (loopO (fun s31 => daily_Correct_b31 N l r_2 i_1 s31.1 s31.2.1 s31.2.2) N (W (((r_2.length : Nat) : Int) - 1),mp,mp_1)) fun x31 =>
 exK x31 (fun s31 => some (.cont (W (i_1 - 1),s31.2.1,s31.2.2))) some)
 (some (.brk (i_1,mp,mp_1)))
def daily_Correct_b9 (N : Nat) (l : List daily_Reading) (values : List Int) (x : Int) : Option (Step ((List Int) × Int) ((List Int) × Int × Int)) :=
 cond (decide (x < ((l.length : Nat) : Int)))
 (Option.bind (getI l x) fun e_4 =>
 Option.bind (room ((values ++ [e_4.Value])).length) fun un_1 =>
 some (.cont ((values ++ [e_4.Value]),W (x + 1))))
 (some (.brk (values,x)))
def daily_Correct (N : Nat) (l : List daily_Reading) : Option ((List Int) × Int × Int) :=
 Option.bind (daily_CheckReadings N l) fun r =>
 cond (r != 0)
 (some (([] : List Int),0,r))
 (Option.bind (loopO (fun s9 => daily_Correct_b9 N l s9.1 s9.2) N (([] : List Int),0)) fun x9 =>
 exK x9 (fun s9 => Option.bind (slices_Sort_Lint_int N s9.1) fun r_1 =>
 Option.bind (slices_Compact_Lint_int N r_1) fun r_2 =>
 Option.bind (loopO (fun s15 => daily_Correct_b15 N l r_2 s15.1 s15.2.1 s15.2.2) N (W (((l.length : Nat) : Int) - 1),(fun _ => none : Int × Int → Option daily_place),(fun _ => none : Int × Int → Option Int))) fun x15 =>
 exK x15 (fun s15 => Option.bind (loopO (fun s19 => daily_Correct_b19 N l r_2 s15.2.1 s19.1 s19.2.1 s19.2.2) N (([] : List Int),0,0)) fun x19 =>
 exK x19 (fun s19 => some (s19.1,((s15.2.2 (0,0)).getD 0),0)) some) some) some)
theorem daily_Correct_ok {N : Nat} {G : Pers} {Lf : List Ent} {w : World} (l : List daily_Reading) {l_p : Option Addr} {l_c : Nat} (h_l : Rd G 2 l_p l_c (l.map enc_daily_Reading)) (hc : Ctx G (Lf) w) {res : (List Int) × Int × Int} (hF : daily_Correct N l = some res) : Calls Try.prog 6 #[.slice l_p l.length l_c] w (fun e w => ∃ (p'1 : Option Addr) (c'1 : Nat),e = .returned (.tuple #[.slice p'1 res.1.length c'1,i6 res.2.1,i6 res.2.2]) ∧ Ctx G (.row p'1 c'1 (res.1.map encI_i64) 3 1::Lf) w) := by
 unfold daily_Correct at hF
 refine fnIn Try.func6 rfl Try.ntmps6 rfl fun a hf => zS fun K h => sp 3 hf rfl fun a hf => zT h ?_
 refine wp_seq_k fun K2 h2 => zS fun K h => sp 1 hf rfl fun a hf => ?_
 obtain ⟨r,hr,hF⟩ := bnd_some hF
 refine zQ (v := i6 r) hf hc en_14 rfl (fun w hc => daily_CheckReadings_ok l h_l hc hr) fun a w hf hc => sp 1 hf rfl fun a hf => zT h ?_
 refine zS fun K h => sp 2 hf rfl fun a hf => zT h ?_
 refine zI hf rfl hF ?_ ?_ <;> clear hF <;> intro hF
 ·refine zS fun K h => sp 4 hf rfl fun a hf => zT h ?_
  refine wp_ret ?_
  refine xThenR ?_
  obtain rfl := sj hF
  replace hc := hc.nilRow 3 1
  exact zO3 Try.results6 hf rfl rfl rfl ⟨none,0,rfl,hc⟩
 ·refine wp_skip ?_
  refine h2 _ _ ?_
  refine zS fun K h => sp 1 hf rfl fun a hf => zT h ?_
  refine wp_seq_k fun K7 h7 => zS fun K h => sp 1 hf rfl fun a hf => zP hf rfl (pLenS Try.underlying23 rfl) fun a hf => sp 1 hf rfl fun a hf => zT h ?_
  refine wp_block ?_
  obtain ⟨x9,hx9,hF⟩ := bnd_some hF
  let S9 : ((List Int) × Int) → Act → World → Prop := (fun (zz : (List Int) × Int) a w => ∃ (p_1 : Option Addr) (c_1 : Nat),Has 135 a [(0,.slice l_p l.length l_c),(6,.slice p_1 zz.1.length c_1),(23,.slice l_p l.length l_c),(24,i6 ((l.length : Nat) : Int)),(25,i6 zz.2)] ∧ Ctx G (.row p_1 c_1 (zz.1.map encI_i64) 3 1::Lf) w)
  have hr9 : ∀ (zz : (List Int) × Int) a w,x9 = .go zz → S9 zz a w → K7 a w := by
   rintro ⟨values,x⟩ a w rfl ⟨p_1,c_1,hf,hc⟩
   replace hF := exK_go hF
   refine h7 _ _ ?_
   refine zS fun K h => sp 1 hf rfl fun a hf => ?_
   obtain ⟨r_1,hr_1,hF⟩ := bnd_some hF
   refine zC hf en_15 rfl (slices_Sort_Lint_int_ok values (hc.pick k0) hr_1) ?_
   rintro _ w ⟨rfl,hl,hc⟩
   refine ⟨_,rfl,fun a hf => ?_⟩
   try rw [← hl] at hf
   try rw [← hl] at hc
   refine zT h ?_
   refine zS fun K h => sp 1 hf rfl fun a hf => ?_
   obtain ⟨r_2,hr_2,hF⟩ := bnd_some hF
   refine zC hf en_16 rfl (slices_Compact_Lint_int_ok r_1 (hc.pick k0) hr_2) ?_
   rintro _ w ⟨p_2,c_2,rfl,hc⟩
   refine ⟨_,rfl,fun a hf => ?_⟩
   refine sp 1 hf rfl fun a hf => zT h ?_
   refine zS fun K h => stGM (kv := kv_54) hf hc rfl rfl fun mb a w hf hc => ?_
   replace hc : Ctx _ (.gm mb (KQ kv_54 (fun j => ((fun _ => none : Int × Int → Option Int) j).map (Value.int .i64)) none)::_) w := hc
   refine stGM (kv := kv_54) hf hc rfl rfl fun mb_1 a w hf hc => ?_
   replace hc : Ctx _ (.gm mb_1 (KQ kv_54 (fun j => ((fun _ => none : Int × Int → Option daily_place) j).map (fun x : daily_place => .agg #[i6 x.reading,i6 x.value])) none)::_) w := hc
   refine sp 2 hf rfl fun a hf => zT h ?_
   refine wp_seq_k fun K13 h13 => zS fun K h => sp 1 hf rfl fun a hf => zP hf rfl (pLenS Try.underlying23 rfl) fun a hf => sp 2 hf rfl fun a hf => zT h ?_
   refine wp_block ?_
   obtain ⟨x15,hx15,hF⟩ := bnd_some hF
   let S15 : (Int × (Int × Int → Option daily_place) × (Int × Int → Option Int)) → Act → World → Prop := (fun (zz : Int × (Int × Int → Option daily_place) × (Int × Int → Option Int)) a w => ∃ (p_3 : Option Addr) (c_3 : Nat),Has 135 a [(0,.slice l_p l.length l_c),(6,.slice p_3 r_2.length c_3),(9,.map (some mb)),(10,.map (some mb_1)),(11,i6 zz.1)] ∧ Ctx G (.gm mb_1 (KQ kv_54 (fun j => (zz.2.1 j).map (fun x : daily_place => .agg #[i6 x.reading,i6 x.value])) none)::.gm mb (KQ kv_54 (fun j => (zz.2.2 j).map (Value.int .i64)) none)::.row p_3 c_3 (r_2.map encI_i64) 3 1::Lf) w)
   have hr15 : ∀ (zz : Int × (Int × Int → Option daily_place) × (Int × Int → Option Int)) a w,x15 = .go zz → S15 zz a w → K13 a w := by
    rintro ⟨i_1,mp,mp_1⟩ a w rfl ⟨p_3,c_3,hf,hc⟩
    replace hF := exK_go hF
    refine h13 _ _ ?_
    refine zS fun K h => sp 1 hf rfl fun a hf => zT h ?_
    refine zS fun K h => zP hf rfl (pBuildS (cells := [i6 0,i6 0]) bt_54 rfl rfl) fun a hf => zA hf hc zr_54 rfl fun b_1 a w hf hc => zW hf hc sz_54 u0 rfl fun w hc => zT h ?_
    refine wp_seq_k fun K18 h18 => wp_block ?_
    obtain ⟨x19,hx19,hF⟩ := bnd_some hF
    let S19 : ((List Int) × Int × Int) → Act → World → Prop := (fun (zz : (List Int) × Int × Int) a w => ∃ (p_4 : Option Addr) (c_4 : Nat) (p_5 : Option Addr) (c_5 : Nat),Has 135 a [(0,.slice l_p l.length l_c),(6,.slice p_4 r_2.length c_4),(9,.map (some mb)),(10,.map (some mb_1)),(16,.slice p_5 zz.1.length c_5),(17,pq b_1)] ∧ Ctx G (.row p_5 c_5 (zz.1.map encI_i64) 3 1::.box b_1 [i6 zz.2.1,i6 zz.2.2] 54::.gm mb_1 (KQ kv_54 (fun j => (mp j).map (fun x : daily_place => .agg #[i6 x.reading,i6 x.value])) none)::.gm mb (KQ kv_54 (fun j => (mp_1 j).map (Value.int .i64)) none)::.row p_4 c_4 (r_2.map encI_i64) 3 1::Lf) w)
    have hr19 : ∀ (zz : (List Int) × Int × Int) a w,x19 = .go zz → S19 zz a w → K18 a w := by
     rintro ⟨out,x_1,x_2⟩ a w rfl ⟨p_4,c_4,p_5,c_5,hf,hc⟩
     replace hF := exK_go hF
     refine h18 _ _ ?_
     refine wp_seq_k fun K20 h20 => cQ hc follows_mx (by kernel_rfl) ?_
     refine qE hf rfl rfl rfl (Pu.ev (pM rfl)) fun a hf => qE hf rfl rfl rfl (Pu.ev (pM rfl)) fun a hf => qE hf rfl rfl rfl (Pu.ev (pBuildS (cells := [i6 0,i6 0]) bt_54 rfl rfl)) fun a hf => qE hf rfl rfl rfl (gLk (kv := kv_54) (enc := (Value.int .i64)) (z0 := 0) (m := mp_1) (k := (0,0)) m3 Try.underlying51 kt_54 zr_3 rfl rfl) fun a hf => qE hf rfl rfl rfl (Pu.ev (pA rfl)) fun a hf => qE hf rfl rfl rfl (Pu.ev (pA rfl)) fun a hf => qE hf rfl rfl rfl (Pu.ev (pA rfl)) fun a hf => ?_
     intro w hc
     refine h20 _ _ ?_
     refine wp_ret ?_
     obtain rfl := sj hF
     replace hc := (((hc.drop k4).drop k3).drop k2).drop k1
     exact zO3 Try.results6 hf rfl rfl rfl ⟨p_5,c_5,rfl,hc⟩
    have ho19 : ∀ r,x19 = .out r → r = res := by
     rintro r rfl
     exact sj hF
    replace hc := hc.nilRow 3 1
    refine cLoop N (loopW (S := S19) (x := x19) ?_ N (([] : List Int),0,0) _ _ ⟨p_3,c_3,none,0,hf.kp rfl,hc⟩ hx19)
    clear hF hf hc
    rintro ⟨out,x_1,x_2⟩ st19 a w KB19 ⟨p_4,c_4,p_5,c_5,hf,hc⟩ hF hfin19 hK19
    unfold daily_Correct_b19 at hF
    refine wp_seq_k fun K21 h21 => zS fun K h => zN hf hc ag_54 m1 rfl fun a w hf hc => sp 1 hf rfl fun a hf => zP hf rfl (pLenS Try.underlying23 rfl) fun a hf => zP hf rfl (pFA fa_54_1 rfl) fun a hf => zL hf hc sc_3 m1 rfl fun a w hf hc => zP hf rfl (pBuildS (cells := [i6 ((l.length : Nat) : Int),i6 x_2]) bt_54 rfl rfl) fun a hf => zP hf rfl (pNeA ge_54 rfl rfl (eqs_54 _ _ _ _)) fun a hf => zT h ?_
    refine zI hf rfl hF ?_ ?_ <;> clear hF <;> intro hF
    ·refine wp_skip ?_
     refine h21 _ _ ?_
     refine wp_thenK fun K23 h23 => wp_block ?_
     refine zS fun K h => sp 1 hf rfl fun a hf => zN hf hc ag_54 m1 rfl fun a w hf hc => zE hf hc rfl (gLk (kv := kv_54) (enc := (fun x : daily_place => .agg #[i6 x.reading,i6 x.value])) (z0 := (⟨0,0⟩ : daily_place)) (m := mp) (k := (x_1,x_2)) m2 Try.underlying52 kt_54 zr_54 rfl rfl) fun a w hf hc => zW hf hc sz_54 u1 rfl fun w hc => zT h ?_
     refine zS fun K h => sp 2 hf rfl fun a hf => zP hf rfl (pFA fa_54_1 rfl) fun a hf => zL hf hc sc_3 m1 rfl fun a w hf hc => ?_
     obtain ⟨e_1,he_1,hF⟩ := bnd_some hF
     obtain ⟨g,rfl,qa,qr⟩ := row_atm hc m4 he_1
     refine zP hf rfl (pIA Try.underlying27 sz_3 rfl rfl qa) fun a hf => zE hf hc rfl (eLd1 sc_3 rfl (cell_row (sz := 1) (i := (((mp (x_1,x_2)).getD (⟨0,0⟩ : daily_place)).value).toNat) (j := 0) m4 qr rfl)) fun a w hf hc => stBS (rows := ([e_1] : List Int).map encI_i64) (vs := [(0,i6 e_1)]) hf hc rfl rfl sl_27 rfl ⟨rfl,rfl,rfl,trivial⟩ rfl rfl fun b_2 a w hf hc => ?_
     obtain ⟨un,hun,hF⟩ := bnd_some hF
     refine stApm (xs := out) (ys := ([e_1] : List Int)) hf hc rfl rfl sl_27 rfl rfl rfl rfl rfl one_encI_i64 (src_row hc m0) (fun _ _ => u1) (by simpa using room_spec hun) fun p_6 c_6 a w hf hc => sp 1 hf rfl fun a hf => zT h ?_
     refine cReg ?_
     refine zP hf rfl (pFA fa_54_0 rfl) fun a hf => zL hf hc sc_3 m2 rfl fun a w hf hc => sp 1 hf rfl fun a hf => zP hf rfl (pFA fa_54_0 rfl) fun a hf => zW hf hc sz_3 u2 rfl fun w hc => cNil ?_
     refine h23 _ _ ?_
     replace hc := hc.drop k0
     exact hK19 ((out ++ [e_1]),W ((((mp (x_1,x_2)).getD (⟨0,0⟩ : daily_place)).reading) + 1),((mp (x_1,x_2)).getD (⟨0,0⟩ : daily_place)).value) _ _ (sj hF).symm ⟨(some ⟨g,0,none⟩),c_4,p_6,c_6,hf.kp rfl,hc⟩
    ·refine wp_exit ?_
     refine xThen ?_
     refine xThen ?_
     have he := sj hF
     rw [← he] at hfin19
     refine cHit ?_
     exact hr19 _ _ _ hfin19 ⟨p_4,c_4,p_5,c_5,hf.kp rfl,hc⟩
   have ho15 : ∀ r,x15 = .out r → r = res := by
    rintro r rfl
    exact sj hF
   refine cLoop N (loopW (S := S15) (x := x15) ?_ N (W (((l.length : Nat) : Int) - 1),(fun _ => none : Int × Int → Option daily_place),(fun _ => none : Int × Int → Option Int)) _ _ ⟨p_2,c_2,hf.kp rfl,hc⟩ hx15)
   clear hF hf hc
   rintro ⟨i_1,mp,mp_1⟩ st15 a w KB15 ⟨p_3,c_3,hf,hc⟩ hF hfin15 hK15
   unfold daily_Correct_b15 at hF
   refine wp_seq_k fun K26 h26 => zS fun K h => sp 2 hf rfl fun a hf => zT h ?_
   refine zI hf rfl hF ?_ ?_ <;> clear hF <;> intro hF
   ·refine wp_skip ?_
    refine h26 _ _ ?_
    refine wp_seq_k fun K28 h28 => wp_block ?_
    refine zS fun K h => sp 1 hf rfl fun a hf => zP hf rfl (pLenS Try.underlying27 rfl) fun a hf => sp 2 hf rfl fun a hf => zT h ?_
    refine wp_thenK fun K30 h30 => wp_block ?_
    obtain ⟨x31,hx31,hF⟩ := bnd_some hF
    let S31 : (Int × (Int × Int → Option daily_place) × (Int × Int → Option Int)) → Act → World → Prop := (fun (zz : Int × (Int × Int → Option daily_place) × (Int × Int → Option Int)) a w => ∃ (p_7 : Option Addr) (c_7 : Nat),Has 135 a [(0,.slice l_p l.length l_c),(6,.slice p_7 r_2.length c_7),(9,.map (some mb)),(10,.map (some mb_1)),(11,i6 i_1),(12,i6 zz.1)] ∧ Ctx G (.gm mb_1 (KQ kv_54 (fun j => (zz.2.1 j).map (fun x : daily_place => .agg #[i6 x.reading,i6 x.value])) none)::.gm mb (KQ kv_54 (fun j => (zz.2.2 j).map (Value.int .i64)) none)::.row p_7 c_7 (r_2.map encI_i64) 3 1::Lf) w)
    have hr31 : ∀ (zz : Int × (Int × Int → Option daily_place) × (Int × Int → Option Int)) a w,x31 = .go zz → S31 zz a w → K30 a w := by
     rintro ⟨k,mp_2,mp_3⟩ a w rfl ⟨p_7,c_7,hf,hc⟩
     replace hF := exK_go hF
     refine h30 _ _ ?_
     refine h28 _ _ ?_
     refine cReg ?_
     refine sp 3 hf rfl fun a hf => cNil ?_
     exact hK15 (W (i_1 - 1),mp_2,mp_3) _ _ (sj hF).symm ⟨p_7,c_7,hf.kp rfl,hc⟩
    have ho31 : ∀ r,x31 = .out r → r = st15 := by
     rintro r rfl
     exact sj hF
    refine cLoop N (loopW (S := S31) (x := x31) ?_ N (W (((r_2.length : Nat) : Int) - 1),mp,mp_1) _ _ ⟨p_3,c_3,hf.kp rfl,hc⟩ hx31)
    clear hF hf hc
    rintro ⟨k,mp_2,mp_3⟩ st31 a w KB31 ⟨p_7,c_7,hf,hc⟩ hF hfin31 hK31
    unfold daily_Correct_b31 at hF
    refine wp_seq_k fun K32 h32 => zS fun K h => sp 2 hf rfl fun a hf => zT h ?_
    refine zI hf rfl hF ?_ ?_ <;> clear hF <;> intro hF
    ·refine wp_skip ?_
     refine h32 _ _ ?_
     refine wp_seq_k fun K34 h34 => ?_
     have hj34 : ∀ (mp_4 : Int × Int → Option daily_place) (mp_5 : Int × Int → Option Int) (p_8 : Option Addr) (c_8 : Nat) a w,Has 135 a [(0,.slice l_p l.length l_c),(6,.slice p_8 r_2.length c_8),(9,.map (some mb)),(10,.map (some mb_1)),(11,i6 i_1),(12,i6 k)] → Ctx G (.gm mb_1 (KQ kv_54 (fun j => (mp_4 j).map (fun x : daily_place => .agg #[i6 x.reading,i6 x.value])) none)::.gm mb (KQ kv_54 (fun j => (mp_5 j).map (Value.int .i64)) none)::.row p_8 c_8 (r_2.map encI_i64) 3 1::Lf) w → daily_Correct_j34 N k mp_4 mp_5 = some st31 → K34 a w := by
      repeat (clear hF)
      repeat (clear hc)
      repeat (clear hf)
      intro mp_4 mp_5 p_8 c_8 a w hf hc hF
      unfold daily_Correct_j34 at hF
      refine h34 _ _ ?_
      refine cReg ?_
      refine sp 3 hf rfl fun a hf => cNil ?_
      exact hK31 (W (k - 1),mp_4,mp_5) _ _ (sj hF).symm ⟨p_8,c_8,hf.kp rfl,hc⟩
     refine wp_block ?_
     refine zS fun K h => sp 2 hf rfl fun a hf => zP hf rfl (pBuildS (cells := [i6 i_1,i6 k]) bt_54 rfl rfl) fun a hf => sp 3 hf rfl fun a hf => zP hf rfl (pBuildS (cells := [i6 i_1,i6 (W (k + 1))]) bt_54 rfl rfl) fun a hf => zA hf hc zr_54 rfl fun b_3 a w hf hc => zA hf hc zr_54 rfl fun b_4 a w hf hc => zW hf hc sz_54 u1 rfl fun w hc => zW hf hc sz_54 u0 rfl fun w hc => zT h ?_
     refine wp_seq_k fun K36 h36 => ?_
     obtain ⟨e_2,he_2,hF⟩ := bnd_some hF
     obtain ⟨b_5,o,qa_1,qp⟩ := h_l.atm he_2
     obtain ⟨e_3,he_3,hF⟩ := bnd_some hF
     obtain ⟨g_1,rfl,qa_2,qr_1⟩ := row_atm hc m4 he_3
     refine cQ hc follows_mx (by kernel_rfl) ?_
     refine qE hf rfl rfl rfl (Pu.ev (pM rfl)) fun a hf => qE hf rfl rfl rfl (Pu.ev (pM rfl)) fun a hf => qE hf rfl rfl rfl (Pu.ev (pIA Try.underlying23 sz_39 rfl rfl qa_1)) fun a hf => qE hf rfl rfl rfl (eLdN (vs := [i6 e_2.Value,i6 e_2.Weight]) ag_39 rfl rfl (cells_pc qp (n := 2) (o' := 0) rfl)) fun a hf => qE hf rfl rfl rfl (Pu.ev (pM rfl)) fun a hf => qE hf rfl rfl rfl (Pu.ev (pM rfl)) fun a hf => qE hf rfl rfl rfl (Pu.ev (pIA Try.underlying27 sz_3 rfl rfl qa_2)) fun a hf => qE hf rfl rfl rfl (eLd1 sc_3 rfl (cell_row (sz := 1) (i := k.toNat) (j := 0) m4 qr_1 rfl)) fun a hf => qE hf rfl rfl rfl (eC (v := i6 (daily_Reading_costs e_2 e_3)) (vs := [.agg #[i6 e_2.Value,i6 e_2.Weight],i6 e_3]) (caps := []) en_17 rfl rfl rfl rfl (fun w hc => daily_Reading_costs_ok e_2 e_3 hc rfl)) fun a hf => qE hf rfl rfl rfl (Pu.ev (pM rfl)) fun a hf => qE hf rfl rfl rfl (Pu.ev (pM rfl)) fun a hf => qE hf rfl rfl rfl (Pu.ev (pAdd rfl rfl)) fun a hf => qE hf rfl rfl rfl (Pu.ev (pM rfl)) fun a hf => ?_
     refine qE hf rfl rfl rfl (Pu.ev (pBuildS (cells := [i6 (W (i_1 + 1)),i6 k]) bt_54 rfl rfl)) fun a hf => qE hf rfl rfl rfl (gLk (kv := kv_54) (enc := (Value.int .i64)) (z0 := 0) (m := mp_3) (k := (W (i_1 + 1),k)) m3 Try.underlying51 kt_54 zr_3 rfl rfl) fun a hf => qE hf rfl rfl rfl (Pu.ev (pAdd rfl rfl)) fun a hf => qE hf rfl rfl rfl (Pu.ev (pA rfl)) fun a hf => ?_
     intro w hc
     refine h36 _ _ ?_
     refine zS fun K h => sp 3 hf rfl fun a hf => zP hf rfl (pLenS Try.underlying27 rfl) fun a hf => sp 2 hf rfl fun a hf => stCc 6 (fun a => Has 135 a [(0,.slice l_p l.length l_c),(6,.slice (some ⟨g_1,0,none⟩) r_2.length c_7),(9,.map (some mb)),(10,.map (some mb_1)),(11,i6 i_1),(12,i6 k),(13,pq b_3),(14,pq b_4),(15,i6 (W ((daily_Reading_costs e_2 e_3) + ((mp_3 (W (i_1 + 1),k)).getD 0)))),(78,i6 k),(79,i6 (W (k + 1))),(80,.slice (some ⟨g_1,0,none⟩) r_2.length c_7),(81,i6 ((r_2.length : Nat) : Int)),(82,.bool ((W (k + 1)) == ((r_2.length : Nat) : Int))),(83,.bool ((W (k + 1)) == ((r_2.length : Nat) : Int))),(89,.bool (((W (k + 1)) == ((r_2.length : Nat) : Int)) || (decide ((W ((daily_Reading_costs e_2 e_3) + ((mp_3 (W (i_1 + 1),k)).getD 0))) ≤ ((mp_3 (i_1,W (k + 1))).getD 0)))))]) hc ?_ ?_
     ·cases hb : ((W (k + 1)) == ((r_2.length : Nat) : Int))
      ·rw [hb] at hf
       refine sp 2 hf rfl fun a hf => zN hf hc ag_54 m0 rfl fun a w hf hc => zE hf hc rfl (gLk (kv := kv_54) (enc := (Value.int .i64)) (z0 := 0) (m := mp_3) (k := (i_1,W (k + 1))) m3 Try.underlying51 kt_54 zr_3 rfl rfl) fun a w hf hc => sp 2 hf rfl fun a hf => cNil ⟨hf.kp rfl,hc⟩
      ·rw [hb] at hf
       refine stS hf rfl rfl rfl fun a hf => stS hf rfl rfl rfl fun a hf => stS hf rfl rfl rfl fun a hf => stS hf rfl rfl rfl fun a hf => stS hf rfl rfl rfl fun a hf => sp 1 hf rfl fun a hf => cNil ⟨hf.kp rfl,hc⟩
     intro a w ⟨hf,hc⟩
     refine zT h ?_
     refine zI hf rfl hF ?_ ?_ <;> clear hF <;> intro hF
     ·refine regionE (fun θ => [⟨none,none,0,.slice l_p l.length l_c⟩,⟨none,none,6,.slice (some ⟨g_1,0,none⟩) r_2.length c_7⟩,⟨none,none,9,.map (some mb)⟩,⟨none,none,10,.map (some mb_1)⟩,⟨none,none,11,i6 i_1⟩,⟨none,none,12,i6 k⟩,⟨none,none,13,pq b_3⟩,⟨none,none,15,i6 (W ((daily_Reading_costs e_2 e_3) + ((mp_3 (W (i_1 + 1),k)).getD 0)))⟩,⟨some 0,none,90,.map (some mb)⟩,⟨some 1,none,91,.agg #[i6 i_1,i6 k]⟩,⟨some 2,none,92,.map (some mb_1)⟩,⟨some 3,none,93,.agg #[i6 i_1,i6 k]⟩,⟨some 4,none,94,i6 (W ((daily_Reading_costs e_2 e_3) + ((mp_3 (W (i_1 + 1),k)).getD 0)))⟩,⟨some 5,none,95,.agg #[i6 i_1,i6 k]⟩]) (fun E θ => .box b_4 [i6 i_1,i6 (W (k + 1))] 54::.box b_3 [i6 i_1,i6 k] 54::(bif E 7 then .gm mb_1 (KQ kv_54 (fun j => ((setG mp_2 (i_1,k) (⟨i_1,k⟩ : daily_place)) j).map (fun x : daily_place => .agg #[i6 x.reading,i6 x.value])) none) else .gm mb_1 (KQ kv_54 (fun j => (mp_2 j).map (fun x : daily_place => .agg #[i6 x.reading,i6 x.value])) none))::(bif E 6 then .gm mb (KQ kv_54 (fun j => ((setG mp_3 (i_1,k) (W ((daily_Reading_costs e_2 e_3) + ((mp_3 (W (i_1 + 1),k)).getD 0)))) j).map (Value.int .i64)) none) else .gm mb (KQ kv_54 (fun j => (mp_3 j).map (Value.int .i64)) none))::.row (some ⟨g_1,0,none⟩) c_7 (r_2.map encI_i64) 3 1::Lf) [] (fun a w => Has 135 a [(0,.slice l_p l.length l_c),(6,.slice (some ⟨g_1,0,none⟩) r_2.length c_7),(9,.map (some mb)),(10,.map (some mb_1)),(11,i6 i_1),(12,i6 k)] ∧ Ctx G (.box b_4 [i6 i_1,i6 (W (k + 1))] 54::.box b_3 [i6 i_1,i6 k] 54::.gm mb_1 (KQ kv_54 (fun j => ((setG mp_2 (i_1,k) (⟨i_1,k⟩ : daily_place)) j).map (fun x : daily_place => .agg #[i6 x.reading,i6 x.value])) none)::.gm mb (KQ kv_54 (fun j => ((setG mp_3 (i_1,k) (W ((daily_Reading_costs e_2 e_3) + ((mp_3 (W (i_1 + 1),k)).getD 0)))) j).map (Value.int .i64)) none)::.row (some ⟨g_1,0,none⟩) c_7 (r_2.map encI_i64) 3 1::Lf) w) follows_mx (by kernel_rfl) (by kernel_rfl) (HasE.of hf ⟨rfl,rfl,rfl,rfl,rfl,rfl,rfl,rfl,trivial,trivial,trivial,trivial,trivial,trivial,trivial⟩) hc ⟨?_,?_,?_,?_,?_,?_,?_,?_,trivial⟩ ?_ ?_
      ·intro E θ a w hD hi hp he hc
       have hf := he.h0.mT he 2 rfl
       refine sp 1 hf rfl fun a hf => zD θ he hi hf 8 rfl rfl rfl hc
      ·intro E θ a w hD hi hp he hc
       have hf := he.h0.mT he 6 rfl
       refine zN hf hc ag_54 m1 rfl fun a w hf hc => zD θ he hi hf 9 rfl rfl rfl hc
      ·intro E θ a w hD hi hp he hc
       have hf := he.h0.mT he 3 rfl
       refine sp 1 hf rfl fun a hf => zD θ he hi hf 10 rfl rfl rfl hc
      ·intro E θ a w hD hi hp he hc
       have hf := he.h0.mT he 6 rfl
       refine zN hf hc ag_54 m1 rfl fun a w hf hc => zD θ he hi hf 11 rfl rfl rfl hc
      ·intro E θ a w hD hi hp he hc
       have hf := he.h0.mT he 7 rfl
       refine sp 1 hf rfl fun a hf => zD θ he hi hf 12 rfl rfl rfl hc
      ·intro E θ a w hD hi hp he hc
       have hf := he.h0.mT he 6 rfl
       refine zN hf hc ag_54 m1 rfl fun a w hf hc => zD θ he hi hf 13 rfl rfl rfl hc
      ·intro E θ a w hD hi hp he hc
       have e0 := hp.o 0 rfl
       have e1 := hp.o 1 rfl
       have e4 := hp.o 4 rfl
       try dsimp only at hc
       rw [hi] at hc
       have hf := ((he.h0.mP he 8 rfl e0).mP he 9 rfl e1).mP he 12 rfl e4
       refine stGU (kv := kv_54) (enc := (Value.int .i64)) (m := mp_3) (k := (i_1,k)) (v := W ((daily_Reading_costs e_2 e_3) + ((mp_3 (W (i_1 + 1),k)).getD 0))) hf hc rfl Try.underlying51 kt_54 rfl rfl rfl u3 fun w hc => zG θ he hi hf rfl ?_
       try dsimp only
       rw [updE_self E 6]
       exact hc
      ·intro E θ a w hD hi hp he hc
       have e2 := hp.o 2 rfl
       have e3 := hp.o 3 rfl
       have e5 := hp.o 5 rfl
       try dsimp only at hc
       rw [hi] at hc
       have hf := ((he.h0.mP he 10 rfl e2).mP he 11 rfl e3).mP he 13 rfl e5
       refine stGU (kv := kv_54) (enc := (fun x : daily_place => .agg #[i6 x.reading,i6 x.value])) (m := mp_2) (k := (i_1,k)) (v := (⟨i_1,k⟩ : daily_place)) hf hc rfl Try.underlying52 kt_54 rfl rfl rfl u2 fun w hc => zG θ he hi hf rfl ?_
       try dsimp only
       rw [updE_self E 7]
       exact hc
      ·intro E θ a w hall he hc
       have hf := he.h0
       have e6 := hall 6 rfl
       have e7 := hall 7 rfl
       replace hf := hf.more he 5 rfl (onT)
       replace hf := hf.more he 4 rfl (onT)
       replace hf := hf.more he 3 rfl (onT)
       replace hf := hf.more he 2 rfl (onT)
       replace hf := hf.more he 1 rfl (onT)
       replace hf := hf.more he 0 rfl (onT)
       try dsimp only at hc
       rw [e6,e7] at hc
       exact ⟨hf.kp rfl,hc⟩
      rintro a w ⟨hf,hc⟩
      replace hc := (hc.drop k1).drop k0
      exact hj34 (setG mp_2 (i_1,k) (⟨i_1,k⟩ : daily_place)) (setG mp_3 (i_1,k) (W ((daily_Reading_costs e_2 e_3) + ((mp_3 (W (i_1 + 1),k)).getD 0)))) (some ⟨g_1,0,none⟩) c_7 _ _  (hf.kp rfl) hc hF
     ·refine regionE (fun θ => [⟨none,none,0,.slice l_p l.length l_c⟩,⟨none,none,6,.slice (some ⟨g_1,0,none⟩) r_2.length c_7⟩,⟨none,none,9,.map (some mb)⟩,⟨none,none,10,.map (some mb_1)⟩,⟨none,none,11,i6 i_1⟩,⟨none,none,12,i6 k⟩,⟨none,none,13,pq b_3⟩,⟨none,none,14,pq b_4⟩,⟨some 0,none,96,.map (some mb)⟩,⟨some 1,none,97,.agg #[i6 i_1,i6 k]⟩,⟨some 2,none,98,.map (some mb_1)⟩,⟨some 3,none,99,.agg #[i6 i_1,i6 k]⟩,⟨some 4,none,100,.map (some mb)⟩,⟨some 5,none,101,.agg #[i6 i_1,i6 (W (k + 1))]⟩,⟨some 7,none,103,.map (some mb_1)⟩,⟨some 8,none,104,.agg #[i6 i_1,i6 (W (k + 1))]⟩,⟨some 9,none,105,.agg #[i6 (((mp_2 (i_1,W (k + 1))).getD (⟨0,0⟩ : daily_place)).reading),i6 (((mp_2 (i_1,W (k + 1))).getD (⟨0,0⟩ : daily_place)).value)]⟩,⟨some 10,none,106,.tuple #[i6 ((mp_3 (i_1,k)).getD 0),i6 (((θ 80).c : Nat) : Int)]⟩,⟨some 11,none,107,i6 (((θ 80).c : Nat) : Int)⟩,⟨some 6,none,102,i6 ((mp_3 (i_1,W (k + 1))).getD 0)⟩]) (fun E θ => .box b_4 [i6 i_1,i6 (W (k + 1))] 54::.box b_3 [i6 i_1,i6 k] 54::(bif E 13 then .gm mb_1 (KQ kv_54 (fun j => ((setG mp_2 (i_1,k) ((mp_2 (i_1,W (k + 1))).getD (⟨0,0⟩ : daily_place))) j).map (fun x : daily_place => .agg #[i6 x.reading,i6 x.value])) none) else .gm mb_1 (KQ kv_54 (fun j => (mp_2 j).map (fun x : daily_place => .agg #[i6 x.reading,i6 x.value])) none))::(bif E 12 then .gm mb (KQ kv_54 (fun j => ((setG (setG mp_3 (i_1,k) ((mp_3 (i_1,k)).getD 0)) (i_1,k) ((mp_3 (i_1,W (k + 1))).getD 0)) j).map (Value.int .i64)) none) else bif E 10 then .gm mb (KQ kv_54 (fun j => ((setG mp_3 (i_1,k) ((mp_3 (i_1,k)).getD 0)) j).map (Value.int .i64)) (some ((θ 80).c,(i_1,k)))) else .gm mb (KQ kv_54 (fun j => (mp_3 j).map (Value.int .i64)) none))::.row (some ⟨g_1,0,none⟩) c_7 (r_2.map encI_i64) 3 1::Lf) [(12,6),(13,9),(12,10),(11,10)] (fun a w => Has 135 a [(0,.slice l_p l.length l_c),(6,.slice (some ⟨g_1,0,none⟩) r_2.length c_7),(9,.map (some mb)),(10,.map (some mb_1)),(11,i6 i_1),(12,i6 k)] ∧ Ctx G (.box b_4 [i6 i_1,i6 (W (k + 1))] 54::.box b_3 [i6 i_1,i6 k] 54::.gm mb_1 (KQ kv_54 (fun j => ((setG mp_2 (i_1,k) ((mp_2 (i_1,W (k + 1))).getD (⟨0,0⟩ : daily_place))) j).map (fun x : daily_place => .agg #[i6 x.reading,i6 x.value])) none)::.gm mb (KQ kv_54 (fun j => ((setG (setG mp_3 (i_1,k) ((mp_3 (i_1,k)).getD 0)) (i_1,k) ((mp_3 (i_1,W (k + 1))).getD 0)) j).map (Value.int .i64)) none)::.row (some ⟨g_1,0,none⟩) c_7 (r_2.map encI_i64) 3 1::Lf) w) follows_mx (by kernel_rfl) (by kernel_rfl) (HasE.of hf ⟨rfl,rfl,rfl,rfl,rfl,rfl,rfl,rfl,trivial,trivial,trivial,trivial,trivial,trivial,trivial,trivial,trivial,trivial,trivial,trivial,trivial⟩) hc ⟨?_,?_,?_,?_,?_,?_,?_,?_,?_,?_,?_,?_,?_,?_,trivial⟩ ?_ ?_
      ·intro E θ a w hD hi hp he hc
       have hf := he.h0.mT he 2 rfl
       refine sp 1 hf rfl fun a hf => zD θ he hi hf 8 rfl rfl rfl hc
      ·intro E θ a w hD hi hp he hc
       have hf := he.h0.mT he 6 rfl
       refine zN hf hc ag_54 m1 rfl fun a w hf hc => zD θ he hi hf 9 rfl rfl rfl hc
      ·intro E θ a w hD hi hp he hc
       have hf := he.h0.mT he 3 rfl
       refine sp 1 hf rfl fun a hf => zD θ he hi hf 10 rfl rfl rfl hc
      ·intro E θ a w hD hi hp he hc
       have hf := he.h0.mT he 6 rfl
       refine zN hf hc ag_54 m1 rfl fun a w hf hc => zD θ he hi hf 11 rfl rfl rfl hc
      ·intro E θ a w hD hi hp he hc
       have hf := he.h0.mT he 2 rfl
       refine sp 1 hf rfl fun a hf => zD θ he hi hf 12 rfl rfl rfl hc
      ·intro E θ a w hD hi hp he hc
       have hf := he.h0.mT he 7 rfl
       refine zN hf hc ag_54 m0 rfl fun a w hf hc => zD θ he hi hf 13 rfl rfl rfl hc
      ·intro E θ a w hD hi hp he hc
       have e4 := hp.o 4 rfl
       have e5 := hp.o 5 rfl
       have e12 := hD.f 0 rfl hi
       rcases boolEq (E 10) with e10 | e10
       ·try dsimp only at hc
        rw [e10,e12] at hc
        have hf := (he.h0.mP he 12 rfl e4).mP he 13 rfl e5
        refine zE hf hc rfl (gLk (kv := kv_54) (enc := (Value.int .i64)) (z0 := 0) (m := (setG mp_3 (i_1,k) ((mp_3 (i_1,k)).getD 0))) (k := (i_1,W (k + 1))) m3 Try.underlying51 kt_54 zr_3 rfl rfl) fun a w hf hc => ?_
        replace hf := castV (v' := i6 ((mp_3 (i_1,W (k + 1))).getD 0)) (by simp only [setG_getD]) hf
        refine zD θ he hi hf 19 rfl rfl rfl ?_
        try dsimp only
        rw [updE_tru 6 e10,updE_fls 6 e12 rfl]
        exact hc
       ·try dsimp only at hc
        rw [e10,e12] at hc
        have hf := (he.h0.mP he 12 rfl e4).mP he 13 rfl e5
        refine zE hf hc rfl (gLk (kv := kv_54) (enc := (Value.int .i64)) (z0 := 0) (m := mp_3) (k := (i_1,W (k + 1))) m3 Try.underlying51 kt_54 zr_3 rfl rfl) fun a w hf hc => zD θ he hi hf 19 rfl rfl rfl ?_
        try dsimp only
        rw [updE_fls 6 e10 rfl,updE_fls 6 e12 rfl]
        exact hc
      ·intro E θ a w hD hi hp he hc
       have hf := he.h0.mT he 3 rfl
       refine sp 1 hf rfl fun a hf => zD θ he hi hf 14 rfl rfl rfl hc
      ·intro E θ a w hD hi hp he hc
       have hf := he.h0.mT he 7 rfl
       refine zN hf hc ag_54 m0 rfl fun a w hf hc => zD θ he hi hf 15 rfl rfl rfl hc
      ·intro E θ a w hD hi hp he hc
       have e7 := hp.o 7 rfl
       have e8 := hp.o 8 rfl
       have e13 := hD.f 1 rfl hi
       try dsimp only at hc
       rw [e13] at hc
       have hf := (he.h0.mP he 14 rfl e7).mP he 15 rfl e8
       refine zE hf hc rfl (gLk (kv := kv_54) (enc := (fun x : daily_place => .agg #[i6 x.reading,i6 x.value])) (z0 := (⟨0,0⟩ : daily_place)) (m := mp_2) (k := (i_1,W (k + 1))) m2 Try.underlying52 kt_54 zr_54 rfl rfl) fun a w hf hc => zD θ he hi hf 16 rfl rfl rfl ?_
       try dsimp only
       rw [updE_fls 9 e13 rfl]
       exact hc
      ·intro E θ a w hD hi hp he hc
       have e0 := hp.o 0 rfl
       have e1 := hp.o 1 rfl
       have e12 := hD.f 2 rfl hi
       have e11 := hD.f 3 rfl hi
       try dsimp only at hc
       rw [hi,e12] at hc
       have hf := (he.h0.mP he 8 rfl e0).mP he 9 rfl e1
       refine stGE (kv := kv_54) (enc := (Value.int .i64)) (z0 := 0) (m := mp_3) (k := (i_1,k)) hf hc rfl rfl Try.underlying51 kt_54 zr_3 rfl rfl (fun _ => u3) fun stp a w hf hc => cNil ?_
       refine xThenN ?_
       intro ds u hau
       refine ⟨(setT θ 80 ⟨0,none,stp,(fun _ => (none,0))⟩),he.put hi hau hf rfl [11] ⟨⟨e11,rfl⟩,trivial⟩ ⟨qq,qq,qq,qq,qq,qq,qq,qq,qq,qq,qq,qq,qq,qq,qq,qq,qq,qq,trivial,qq,trivial⟩,?_⟩
       try dsimp only
       rw [updE_self E 10,updE_fls 10 e12 rfl]
       exact hc
      ·intro E θ a w hD hi hp he hc
       have e10 := hp.o 10 rfl
       have hf := he.h0.mP he 17 rfl e10
       refine sp 1 hf rfl fun a hf => zD θ he hi hf 18 rfl rfl rfl hc
      ·intro E θ a w hD hi hp he hc
       have e0 := hp.o 0 rfl
       have e11 := hp.o 11 rfl
       have e6 := hp.o 6 rfl
       have e10 := hp.o 10 rfl
       try dsimp only at hc
       rw [e10,hi] at hc
       have hf := ((he.h0.mP he 8 rfl e0).mP he 18 rfl e11).mP he 19 rfl e6
       refine stGS kt_54.inj (enc := (Value.int .i64)) (m := (setG mp_3 (i_1,k) ((mp_3 (i_1,k)).getD 0))) (k := (i_1,k)) (v := ((mp_3 (i_1,W (k + 1))).getD 0)) hf hc rfl rfl rfl rfl u3 fun w hc => zG θ he hi hf rfl ?_
       try dsimp only
       rw [updE_tru 12 e10,updE_self E 12]
       exact hc
      ·intro E θ a w hD hi hp he hc
       have e2 := hp.o 2 rfl
       have e3 := hp.o 3 rfl
       have e9 := hp.o 9 rfl
       try dsimp only at hc
       rw [hi] at hc
       have hf := ((he.h0.mP he 10 rfl e2).mP he 11 rfl e3).mP he 16 rfl e9
       refine stGU (kv := kv_54) (enc := (fun x : daily_place => .agg #[i6 x.reading,i6 x.value])) (m := mp_2) (k := (i_1,k)) (v := ((mp_2 (i_1,W (k + 1))).getD (⟨0,0⟩ : daily_place))) hf hc rfl Try.underlying52 kt_54 rfl rfl rfl u2 fun w hc => zG θ he hi hf rfl ?_
       try dsimp only
       rw [updE_self E 13]
       exact hc
      ·intro E θ a w hall he hc
       have hf := he.h0
       have e10 := hall 10 rfl
       have e12 := hall 12 rfl
       have e13 := hall 13 rfl
       replace hf := hf.more he 5 rfl (onT)
       replace hf := hf.more he 4 rfl (onT)
       replace hf := hf.more he 3 rfl (onT)
       replace hf := hf.more he 2 rfl (onT)
       replace hf := hf.more he 1 rfl (onT)
       replace hf := hf.more he 0 rfl (onT)
       try dsimp only at hc
       rw [e10,e12,e13] at hc
       exact ⟨hf.kp rfl,hc⟩
      rintro a w ⟨hf,hc⟩
      replace hc := (hc.drop k1).drop k0
      exact hj34 (setG mp_2 (i_1,k) ((mp_2 (i_1,W (k + 1))).getD (⟨0,0⟩ : daily_place))) (setG (setG mp_3 (i_1,k) ((mp_3 (i_1,k)).getD 0)) (i_1,k) ((mp_3 (i_1,W (k + 1))).getD 0)) (some ⟨g_1,0,none⟩) c_7 _ _  (hf.kp rfl) hc hF
    ·refine wp_exit ?_
     refine xThen ?_
     refine xThen ?_
     have he := sj hF
     rw [← he] at hfin31
     refine cHit ?_
     exact hr31 _ _ _ hfin31 ⟨p_7,c_7,hf.kp rfl,hc⟩
   ·refine wp_exit ?_
    refine xThen ?_
    refine xThen ?_
    have he := sj hF
    rw [← he] at hfin15
    refine cHit ?_
    exact hr15 _ _ _ hfin15 ⟨p_3,c_3,hf.kp rfl,hc⟩
  have ho9 : ∀ r,x9 = .out r → r = res := by
   rintro r rfl
   exact sj hF
  replace hc := hc.nilRow 3 1
  refine cLoop N (loopW (S := S9) (x := x9) ?_ N (([] : List Int),0) _ _ ⟨none,0,hf.kp rfl,hc⟩ hx9)
  clear hF hf hc
  rintro ⟨values,x⟩ st9 a w KB9 ⟨p_1,c_1,hf,hc⟩ hF hfin9 hK9
  unfold daily_Correct_b9 at hF
  refine zS fun K h => sp 1 hf rfl fun a hf => zT h ?_
  refine wp_seq_k fun K39 h39 => zI hf rfl hF ?_ ?_ <;> clear hF <;> intro hF
  ·refine wp_skip ?_
   refine h39 _ _ ?_
   refine wp_seq_k fun K40 h40 => wp_block ?_
   refine zS fun K h => ?_
   obtain ⟨e_4,he_4,hF⟩ := bnd_some hF
   obtain ⟨b_6,o_1,qa_3,qp_1⟩ := h_l.atm he_4
   refine zP hf rfl (pIA Try.underlying23 sz_39 rfl rfl qa_3) fun a hf => zE hf hc rfl (eLdN (vs := [i6 e_4.Value,i6 e_4.Weight]) ag_39 rfl rfl (cells_pc qp_1 (n := 2) (o' := 0) rfl)) fun a w hf hc => zA hf hc zr_39 rfl fun b_7 a w hf hc => zW hf hc sz_39 u0 rfl fun w hc => zT h ?_
   refine cReg ?_
   refine sp 1 hf rfl fun a hf => zP hf rfl (pFA fa_39_0 rfl) fun a hf => zL hf hc sc_3 m0 rfl fun a w hf hc => stBS (rows := ([e_4.Value] : List Int).map encI_i64) (vs := [(0,i6 e_4.Value)]) hf hc rfl rfl sl_27 rfl ⟨rfl,rfl,rfl,trivial⟩ rfl rfl fun b_8 a w hf hc => ?_
   obtain ⟨un_1,hun_1,hF⟩ := bnd_some hF
   refine stApm (xs := values) (ys := ([e_4.Value] : List Int)) hf hc rfl rfl sl_27 rfl rfl rfl rfl rfl one_encI_i64 (src_row hc m0) (fun _ _ => u2) (by simpa using room_spec hun_1) fun p_9 c_9 a w hf hc => sp 1 hf rfl fun a hf => cNil ?_
   refine h40 _ _ ?_
   refine cReg ?_
   refine sp 2 hf rfl fun a hf => cNil ?_
   replace hc := (hc.drop k1).drop k0
   exact hK9 ((values ++ [e_4.Value]),W (x + 1)) _ _ (sj hF).symm ⟨p_9,c_9,hf.kp rfl,hc⟩
  ·refine wp_exit ?_
   refine xThen ?_
   refine xThen ?_
   have he := sj hF
   rw [← he] at hfin9
   refine cHit ?_
   exact hr9 _ _ _ hfin9 ⟨p_1,c_1,hf.kp rfl,hc⟩

def daily_Cost_1 (n : Int) : Bool :=
 (daily_in n 0 1000000)
theorem daily_Cost_1_ok {G : Pers} {Lf : List Ent} {w : World} (n : Int)   (hc : Ctx G (Lf) w) {res : Bool} (hF : daily_Cost_1 n = res) : Calls Try.prog 19 #[i6 n] w (fun e w => e = .returned (.bool res) ∧ Ctx G (Lf) w) := by
 unfold daily_Cost_1 at hF
 refine fnIn Try.func19 rfl Try.ntmps19 rfl fun a hf => zS fun K h => sp 1 hf rfl fun a hf => zT h ?_
 refine zS fun K h => sp 1 hf rfl fun a hf => zQ (v := .bool (daily_in n 0 1000000)) hf hc en_20 rfl (fun w hc => daily_in_ok n 0 1000000 hc rfl) fun a w hf hc => sp 1 hf rfl fun a hf => zT h ?_
 refine wp_ret ?_
 obtain rfl := hF
 exact zO1 Try.results19 hf rfl ⟨rfl,hc⟩

def daily_every_int_1 (x : Int) : Bool :=
 (!(daily_Cost_1 x))
theorem daily_every_int_1_ok {G : Pers} {Lf : List Ent} {w : World} (x : Int) {b_ : Nat}  (hc : Ctx G (.box b_ [.func (.func 19) #[] #[]] 57::Lf) w) {res : Bool} (hF : daily_every_int_1 x = res) : Calls Try.prog 39 #[i6 x,pq b_] w (fun e w => e = .returned (.bool res) ∧ Ctx G (.box b_ [.func (.func 19) #[] #[]] 57::Lf) w) := by
 unfold daily_every_int_1 at hF
 refine fnIn Try.func39 rfl Try.ntmps39 rfl fun a hf => zS fun K h => sp 1 hf rfl fun a hf => zT h ?_
 refine zS fun K h => zL hf hc sc_57 m0 rfl fun a w hf hc => sp 1 hf rfl fun a hf => zQ (v := .bool (daily_Cost_1 x)) hf hc en_19 rfl (fun w hc => daily_Cost_1_ok x hc rfl) fun a w hf hc => sp 2 hf rfl fun a hf => zT h ?_
 refine wp_ret ?_
 obtain rfl := hF
 exact zO1 Try.results39 hf rfl ⟨rfl,hc⟩

def slices_IndexFunc_Lint_int_b4 (N : Nat) (s_ : List Int) (x : Int) : Option (Step (Int) (Int)) :=
 cond (decide (x < ((s_.length : Nat) : Int)))
 (Option.bind (getI s_ x) fun e_1 =>
 cond (daily_every_int_1 e_1)
 (some (.ret x))
 (some (.cont (W (x + 1)))))
 (some (.brk x))
def slices_IndexFunc_Lint_int (N : Nat) (s_ : List Int) : Option (Int) :=
 Option.bind (loopO (fun s4 => slices_IndexFunc_Lint_int_b4 N s_ s4) N 0) fun x4 =>
 exK x4 (fun s4 => some (-1)) some
theorem slices_IndexFunc_Lint_int_ok {N : Nat} {G : Pers} {Lf : List Ent} {w : World} (s_ : List Int) {s__p : Option Addr} {s__c : Nat} {b_ : Nat} (h_s_ : Rd G 1 s__p s__c (s_.map encI_i64)) (hc : Ctx G (.box b_ [.func (.func 19) #[] #[]] 57::Lf) w) {res : Int} (hF : slices_IndexFunc_Lint_int N s_ = some res) : Calls Try.prog 67 #[.slice s__p s_.length s__c,.func (.func 39) #[] #[pq b_]] w (fun e w => e = .returned (i6 res) ∧ Ctx G (.box b_ [.func (.func 19) #[] #[]] 57::Lf) w) := by
 unfold slices_IndexFunc_Lint_int at hF
 refine fnIn Try.func67 rfl Try.ntmps67 rfl fun a hf => zS fun K h => sp 1 hf rfl fun a hf => zT h ?_
 refine wp_seq_k fun K2 h2 => zS fun K h => sp 1 hf rfl fun a hf => zP hf rfl (pLenS Try.underlying27 rfl) fun a hf => sp 1 hf rfl fun a hf => zT h ?_
 refine wp_block ?_
 obtain ⟨x4,hx4,hF⟩ := bnd_some hF
 let S4 : Int → Act → World → Prop := (fun (zz : Int) a w => Has 19 a [(0,.slice s__p s_.length s__c),(1,.func (.func 39) #[] #[pq b_]),(7,i6 ((s_.length : Nat) : Int)),(8,i6 zz)] ∧ Ctx G (.box b_ [.func (.func 19) #[] #[]] 57::Lf) w)
 have hr4 : ∀ (zz : Int) a w,x4 = .go zz → S4 zz a w → K2 a w := by
  rintro x a w rfl ⟨hf,hc⟩
  replace hF := exK_go hF
  refine h2 _ _ ?_
  refine zS fun K h => sp 1 hf rfl fun a hf => zT h ?_
  refine wp_ret ?_
  obtain rfl := sj hF
  exact zO1 Try.results67 hf rfl ⟨rfl,hc⟩
 have ho4 : ∀ r,x4 = .out r → r = res := by
  rintro r rfl
  exact sj hF
 refine cLoop N (loopW (S := S4) (x := x4) ?_ N 0 _ _ ⟨hf.kp rfl,hc⟩ hx4)
 clear hF hf hc
 rintro x st4 a w KB4 ⟨hf,hc⟩ hF hfin4 hK4
 unfold slices_IndexFunc_Lint_int_b4 at hF
 refine zS fun K h => sp 1 hf rfl fun a hf => zT h ?_
 refine wp_seq_k fun K7 h7 => zI hf rfl hF ?_ ?_ <;> clear hF <;> intro hF
 ·refine wp_skip ?_
  refine h7 _ _ ?_
  refine wp_seq_k fun K8 h8 => wp_block ?_
  refine zS fun K h => sp 2 hf rfl fun a hf => zT h ?_
  refine zS fun K h => sp 3 hf rfl fun a hf => ?_
  obtain ⟨e_1,he_1,hF⟩ := bnd_some hF
  obtain ⟨b_1,o,qa,qp⟩ := h_s_.atm he_1
  refine zP hf rfl (pIA Try.underlying27 sz_3 rfl rfl qa) fun a hf => zE hf hc rfl (eLd1 sc_3 rfl (cell_pc (j := 0) qp rfl)) fun a w hf hc => zQ (v := .bool (daily_every_int_1 e_1)) hf hc en_39 rfl (fun w hc => (daily_every_int_1_ok e_1 (hc.pick k0) rfl).mono fun e w h => ⟨h.1,(h.2.unpick k0)⟩) fun a w hf hc => zT h ?_
  refine zI hf rfl hF ?_ ?_ <;> clear hF <;> intro hF
  ·refine zS fun K h => sp 2 hf rfl fun a hf => zT h ?_
   refine wp_ret ?_
   refine xBlkR ?_
   refine xThenR ?_
   refine xThenR ?_
   have he := sj hF
   rw [← he] at hfin4
   replace hF := ho4 _ hfin4
   refine xBlkR ?_
   refine xThenR ?_
   obtain rfl := hF
   exact zO1 Try.results67 hf rfl ⟨rfl,hc⟩
  ·refine wp_skip ?_
   refine h8 _ _ ?_
   refine cReg ?_
   refine sp 2 hf rfl fun a hf => cNil ?_
   exact hK4 (W (x + 1)) _ _ (sj hF).symm ⟨hf.kp rfl,hc⟩
 ·refine wp_exit ?_
  refine xThen ?_
  refine xThen ?_
  have he := sj hF
  rw [← he] at hfin4
  refine cHit ?_
  exact hr4 _ _ _ hfin4 ⟨hf.kp rfl,hc⟩

def slices_ContainsFunc_Lint_int (N : Nat) (s_ : List Int) : Option (Bool) :=
 Option.bind (slices_IndexFunc_Lint_int N s_) fun r =>
 some (decide (0 ≤ r))
theorem slices_ContainsFunc_Lint_int_ok {N : Nat} {G : Pers} {Lf : List Ent} {w : World} (s_ : List Int) {s__p : Option Addr} {s__c : Nat} {b_ : Nat} (h_s_ : Rd G 1 s__p s__c (s_.map encI_i64)) (hc : Ctx G (.box b_ [.func (.func 19) #[] #[]] 57::Lf) w) {res : Bool} (hF : slices_ContainsFunc_Lint_int N s_ = some res) : Calls Try.prog 38 #[.slice s__p s_.length s__c,.func (.func 39) #[] #[pq b_]] w (fun e w => e = .returned (.bool res) ∧ Ctx G (.box b_ [.func (.func 19) #[] #[]] 57::Lf) w) := by
 unfold slices_ContainsFunc_Lint_int at hF
 refine fnIn Try.func38 rfl Try.ntmps38 rfl fun a hf => zS fun K h => sp 1 hf rfl fun a hf => zT h ?_
 refine zS fun K h => sp 2 hf rfl fun a hf => ?_
 obtain ⟨r,hr,hF⟩ := bnd_some hF
 refine zQ (v := i6 r) hf hc en_67 rfl (fun w hc => (slices_IndexFunc_Lint_int_ok s_ h_s_ (hc.pick k0) hr).mono fun e w h => ⟨h.1,(h.2.unpick k0)⟩) fun a w hf hc => sp 2 hf rfl fun a hf => zT h ?_
 refine wp_ret ?_
 obtain rfl := sj hF
 exact zO1 Try.results38 hf rfl ⟨rfl,hc⟩

def daily_every_int (N : Nat) (l : List Int) : Option (Bool) :=
 Option.bind (slices_ContainsFunc_Lint_int N l) fun r =>
 some (!r)
theorem daily_every_int_ok {N : Nat} {G : Pers} {Lf : List Ent} {w : World} (l : List Int) {l_p : Option Addr} {l_c : Nat} (h_l : Rd G 1 l_p l_c (l.map encI_i64)) (hc : Ctx G (Lf) w) {res : Bool} (hF : daily_every_int N l = some res) : Calls Try.prog 18 #[.slice l_p l.length l_c,.func (.func 19) #[] #[]] w (fun e w => e = .returned (.bool res) ∧ Ctx G (Lf) w) := by
 unfold daily_every_int at hF
 refine fnIn Try.func18 rfl Try.ntmps18 rfl fun a hf => zS fun K h => zB hf hc rfl fun b_1 a w hf hc => sp 1 hf rfl fun a hf => zT h ?_
 refine zS fun K h => sp 1 hf rfl fun a hf => zP hf rfl (pMF (us := [pq b_1]) rfl rfl) fun a hf => ?_
 obtain ⟨r,hr,hF⟩ := bnd_some hF
 refine zQ (v := .bool r) hf hc en_38 rfl (fun w hc => (slices_ContainsFunc_Lint_int_ok l h_l (hc.pick k0) hr).mono fun e w h => ⟨h.1,(h.2.unpick k0)⟩) fun a w hf hc => sp 2 hf rfl fun a hf => zT h ?_
 refine wp_ret ?_
 obtain rfl := sj hF
 replace hc := hc.drop k0
 exact zO1 Try.results18 hf rfl ⟨rfl,hc⟩

def cmp_isNaN_int (x : Int) : Bool :=
 (x != x)
theorem cmp_isNaN_int_ok {G : Pers} {Lf : List Ent} {w : World} (x : Int)   (hc : Ctx G (Lf) w) {res : Bool} (hF : cmp_isNaN_int x = res) : Calls Try.prog 43 #[i6 x] w (fun e w => e = .returned (.bool res) ∧ Ctx G (Lf) w) := by
 unfold cmp_isNaN_int at hF
 refine fnIn Try.func43 rfl Try.ntmps43 rfl fun a hf => zS fun K h => sp 1 hf rfl fun a hf => zT h ?_
 refine zS fun K h => sp 4 hf rfl fun a hf => zT h ?_
 refine wp_ret ?_
 obtain rfl := hF
 exact zO1 Try.results43 hf rfl ⟨rfl,hc⟩

def cmp_Less_int (x : Int) (y : Int) : Bool :=
 (((cmp_isNaN_int x) && (!(cmp_isNaN_int y))) || (decide (x < y)))
theorem cmp_Less_int_ok {G : Pers} {Lf : List Ent} {w : World} (x : Int) (y : Int)   (hc : Ctx G (Lf) w) {res : Bool} (hF : cmp_Less_int x y = res) : Calls Try.prog 23 #[i6 x,i6 y] w (fun e w => e = .returned (.bool res) ∧ Ctx G (Lf) w) := by
 unfold cmp_Less_int at hF
 refine fnIn Try.func23 rfl Try.ntmps23 rfl fun a hf => zS fun K h => sp 1 hf rfl fun a hf => zT h ?_
 refine zS fun K h => sp 1 hf rfl fun a hf => zQ (v := .bool (cmp_isNaN_int x)) hf hc en_43 rfl (fun w hc => cmp_isNaN_int_ok x hc rfl) fun a w hf hc => sp 1 hf rfl fun a hf => stCc 4 (fun a => Has 17 a [(0,i6 x),(1,i6 y),(4,.bool false),(5,i6 x),(6,.bool (cmp_isNaN_int x)),(7,.bool (cmp_isNaN_int x)),(11,.bool ((cmp_isNaN_int x) && (!(cmp_isNaN_int y))))]) hc ?_ ?_
 ·cases hb : (cmp_isNaN_int x)
  ·rw [hb] at hf
   refine stS hf rfl rfl rfl fun a hf => stS hf rfl rfl rfl fun a hf => stS hf rfl rfl rfl fun a hf => sp 1 hf rfl fun a hf => cNil ⟨hf.kp rfl,hc⟩
  ·rw [hb] at hf
   refine sp 1 hf rfl fun a hf => zQ (v := .bool (cmp_isNaN_int y)) hf hc en_43 rfl (fun w hc => cmp_isNaN_int_ok y hc rfl) fun a w hf hc => sp 2 hf rfl fun a hf => cNil ⟨hf.kp rfl,hc⟩
 intro a w ⟨hf,hc⟩
 refine sp 1 hf rfl fun a hf => stCc 4 (fun a => Has 17 a [(0,i6 x),(1,i6 y),(4,.bool false),(5,i6 x),(6,.bool (cmp_isNaN_int x)),(7,.bool (cmp_isNaN_int x)),(11,.bool ((cmp_isNaN_int x) && (!(cmp_isNaN_int y)))),(12,.bool ((cmp_isNaN_int x) && (!(cmp_isNaN_int y)))),(16,.bool (((cmp_isNaN_int x) && (!(cmp_isNaN_int y))) || (decide (x < y))))]) hc ?_ ?_
 ·cases hb : ((cmp_isNaN_int x) && (!(cmp_isNaN_int y)))
  ·rw [hb] at hf
   refine sp 4 hf rfl fun a hf => cNil ⟨hf.kp rfl,hc⟩
  ·rw [hb] at hf
   refine stS hf rfl rfl rfl fun a hf => stS hf rfl rfl rfl fun a hf => stS hf rfl rfl rfl fun a hf => sp 1 hf rfl fun a hf => cNil ⟨hf.kp rfl,hc⟩
 intro a w ⟨hf,hc⟩
 refine sp 1 hf rfl fun a hf => zT h ?_
 refine wp_ret ?_
 obtain rfl := hF
 exact zO1 Try.results23 hf rfl ⟨rfl,hc⟩

def slices_IsSorted_Lint_int_b4 (N : Nat) (x : List Int) (i_1 : Int) : Option (Step (Int) (Bool)) :=
 cond (decide (0 < i_1))
 (Option.bind (getI x i_1) fun e_1 =>
 Option.bind (getI x (W (i_1 - 1))) fun e_2 =>
 cond (cmp_Less_int e_1 e_2)
 (some (.ret false))
 (some (.cont (W (i_1 - 1)))))
 (some (.brk i_1))
def slices_IsSorted_Lint_int (N : Nat) (x : List Int) : Option (Bool) :=
 Option.bind (loopO (fun s4 => slices_IsSorted_Lint_int_b4 N x s4) N (W (((x.length : Nat) : Int) - 1))) fun x4 =>
 exK x4 (fun s4 => some true) some
theorem slices_IsSorted_Lint_int_ok {N : Nat} {G : Pers} {Lf : List Ent} {w : World} (x : List Int) {x_p : Option Addr} {x_c : Nat} (h_x : Rd G 1 x_p x_c (x.map encI_i64)) (hc : Ctx G (Lf) w) {res : Bool} (hF : slices_IsSorted_Lint_int N x = some res) : Calls Try.prog 10 #[.slice x_p x.length x_c] w (fun e w => e = .returned (.bool res) ∧ Ctx G (Lf) w) := by
 unfold slices_IsSorted_Lint_int at hF
 refine fnIn Try.func10 rfl Try.ntmps10 rfl fun a hf => zS fun K h => sp 1 hf rfl fun a hf => zT h ?_
 refine wp_seq_k fun K2 h2 => zS fun K h => sp 1 hf rfl fun a hf => zP hf rfl (pLenS Try.underlying27 rfl) fun a hf => sp 2 hf rfl fun a hf => zT h ?_
 refine wp_block ?_
 obtain ⟨x4,hx4,hF⟩ := bnd_some hF
 let S4 : Int → Act → World → Prop := (fun (zz : Int) a w => Has 21 a [(0,.slice x_p x.length x_c),(3,i6 zz)] ∧ Ctx G (Lf) w)
 have hr4 : ∀ (zz : Int) a w,x4 = .go zz → S4 zz a w → K2 a w := by
  rintro i_1 a w rfl ⟨hf,hc⟩
  replace hF := exK_go hF
  refine h2 _ _ ?_
  refine zS fun K h => sp 1 hf rfl fun a hf => zT h ?_
  refine wp_ret ?_
  obtain rfl := sj hF
  exact zO1 Try.results10 hf rfl ⟨rfl,hc⟩
 have ho4 : ∀ r,x4 = .out r → r = res := by
  rintro r rfl
  exact sj hF
 refine cLoop N (loopW (S := S4) (x := x4) ?_ N (W (((x.length : Nat) : Int) - 1)) _ _ ⟨hf.kp rfl,hc⟩ hx4)
 clear hF hf hc
 rintro i_1 st4 a w KB4 ⟨hf,hc⟩ hF hfin4 hK4
 unfold slices_IsSorted_Lint_int_b4 at hF
 refine wp_seq_k fun K6 h6 => zS fun K h => sp 2 hf rfl fun a hf => zT h ?_
 refine zI hf rfl hF ?_ ?_ <;> clear hF <;> intro hF
 ·refine wp_skip ?_
  refine h6 _ _ ?_
  refine wp_seq_k fun K8 h8 => wp_block ?_
  refine wp_seq_k fun K9 h9 => ?_
  obtain ⟨e_1,he_1,hF⟩ := bnd_some hF
  obtain ⟨b_1,o,qa,qp⟩ := h_x.atm he_1
  obtain ⟨e_2,he_2,hF⟩ := bnd_some hF
  obtain ⟨b_2,o_1,qa_1,qp_1⟩ := h_x.atm he_2
  refine cQ hc follows_mx (by kernel_rfl) ?_
  refine qE hf rfl rfl rfl (Pu.ev (pM rfl)) fun a hf => qE hf rfl rfl rfl (Pu.ev (pM rfl)) fun a hf => qE hf rfl rfl rfl (Pu.ev (pIA Try.underlying27 sz_3 rfl rfl qa)) fun a hf => qE hf rfl rfl rfl (eLd1 sc_3 rfl (cell_pc (j := 0) qp rfl)) fun a hf => qE hf rfl rfl rfl (Pu.ev (pM rfl)) fun a hf => qE hf rfl rfl rfl (Pu.ev (pM rfl)) fun a hf => qE hf rfl rfl rfl (Pu.ev (pSub rfl rfl)) fun a hf => qE hf rfl rfl rfl (Pu.ev (pIA Try.underlying27 sz_3 rfl rfl qa_1)) fun a hf => qE hf rfl rfl rfl (eLd1 sc_3 rfl (cell_pc (j := 0) qp_1 rfl)) fun a hf => qE hf rfl rfl rfl (eC (v := .bool (cmp_Less_int e_1 e_2)) (vs := [i6 e_1,i6 e_2]) (caps := []) en_23 rfl rfl rfl rfl (fun w hc => cmp_Less_int_ok e_1 e_2 hc rfl)) fun a hf => ?_
  intro w hc
  refine h9 _ _ ?_
  refine zI hf rfl hF ?_ ?_ <;> clear hF <;> intro hF
  ·refine zS fun K h => sp 1 hf rfl fun a hf => zT h ?_
   refine wp_ret ?_
   refine xBlkR ?_
   refine xThenR ?_
   refine xThenR ?_
   have he := sj hF
   rw [← he] at hfin4
   replace hF := ho4 _ hfin4
   refine xBlkR ?_
   refine xThenR ?_
   obtain rfl := hF
   exact zO1 Try.results10 hf rfl ⟨rfl,hc⟩
  ·refine wp_skip ?_
   refine h8 _ _ ?_
   refine cReg ?_
   refine sp 3 hf rfl fun a hf => cNil ?_
   exact hK4 (W (i_1 - 1)) _ _ (sj hF).symm ⟨hf.kp rfl,hc⟩
 ·refine wp_exit ?_
  refine xThen ?_
  refine xThen ?_
  have he := sj hF
  rw [← he] at hfin4
  refine cHit ?_
  exact hr4 _ _ _ hfin4 ⟨hf.kp rfl,hc⟩

def daily_Cost_b15 (N : Nat) (l : List daily_Reading) (correction : List Int) (out : Int) (x : Int) : Option (Step (Int × Int) (Int × Int)) :=
 cond (decide (x < ((l.length : Nat) : Int)))
 (Option.bind (getI l x) fun e_1 =>
 Option.bind (getI correction x) fun e_2 =>
 some (.cont (W (out + (daily_Reading_costs e_1 e_2)),W (x + 1))))
 (some (.brk (out,x)))
def daily_Cost (N : Nat) (l : List daily_Reading) (correction : List Int) : Option (Int × Int) :=
 Option.bind (daily_CheckReadings N l) fun r =>
 cond (r != 0)
 (some (0,r))
 (cond (((correction.length : Nat) : Int) != ((l.length : Nat) : Int))
 (some (0,2))
 (Option.bind (daily_every_int N correction) fun r_1 =>
 cond (!r_1)
 (some (0,4))
 (Option.bind (slices_IsSorted_Lint_int N correction) fun r_2 =>
 cond (!r_2)
 (some (0,9))
 (Option.bind (loopO (fun s15 => daily_Cost_b15 N l correction s15.1 s15.2) N (0,0)) fun x15 =>
 exK x15 (fun s15 => some (s15.1,0)) some))))
theorem daily_Cost_ok {N : Nat} {G : Pers} {Lf : List Ent} {w : World} (l : List daily_Reading) (correction : List Int) {l_p : Option Addr} {l_c : Nat} {correction_p : Option Addr} {correction_c : Nat} (h_l : Rd G 2 l_p l_c (l.map enc_daily_Reading)) (h_correction : Rd G 1 correction_p correction_c (correction.map encI_i64)) (hc : Ctx G (Lf) w) {res : Int × Int} (hF : daily_Cost N l correction = some res) : Calls Try.prog 7 #[.slice l_p l.length l_c,.slice correction_p correction.length correction_c] w (fun e w => e = .returned (.tuple #[i6 res.1,i6 res.2]) ∧ Ctx G (Lf) w) := by
 unfold daily_Cost at hF
 refine fnIn Try.func7 rfl Try.ntmps7 rfl fun a hf => zS fun K h => sp 2 hf rfl fun a hf => zT h ?_
 refine zS fun K h => sp 1 hf rfl fun a hf => ?_
 obtain ⟨r,hr,hF⟩ := bnd_some hF
 refine zQ (v := i6 r) hf hc en_14 rfl (fun w hc => daily_CheckReadings_ok l h_l hc hr) fun a w hf hc => sp 1 hf rfl fun a hf => zT h ?_
 refine wp_seq_k fun K3 h3 => wp_block ?_
 refine zS fun K h => sp 3 hf rfl fun a hf => zT h ?_
 refine zI hf rfl hF ?_ ?_ <;> clear hF <;> intro hF
 ·refine zS fun K h => sp 3 hf rfl fun a hf => zT h ?_
  refine wp_ret ?_
  refine xBlkR ?_
  refine xThenR ?_
  obtain rfl := sj hF
  exact zO2 Try.results7 hf rfl rfl ⟨rfl,hc⟩
 ·refine zS fun K h => sp 1 hf rfl fun a hf => zP hf rfl (pLenS Try.underlying27 rfl) fun a hf => sp 1 hf rfl fun a hf => zP hf rfl (pLenS Try.underlying23 rfl) fun a hf => sp 2 hf rfl fun a hf => zT h ?_
  refine zI hf rfl hF ?_ ?_ <;> clear hF <;> intro hF
  ·refine zS fun K h => sp 2 hf rfl fun a hf => zT h ?_
   refine wp_ret ?_
   refine xBlkR ?_
   refine xThenR ?_
   obtain rfl := sj hF
   exact zO2 Try.results7 hf rfl rfl ⟨rfl,hc⟩
  ·refine zS fun K h => sp 1 hf rfl fun a hf => ?_
   obtain ⟨r_1,hr_1,hF⟩ := bnd_some hF
   refine zQ (v := .bool r_1) hf hc en_18 rfl (fun w hc => daily_every_int_ok correction h_correction hc hr_1) fun a w hf hc => sp 2 hf rfl fun a hf => zT h ?_
   refine zI hf rfl hF ?_ ?_ <;> clear hF <;> intro hF
   ·refine zS fun K h => sp 2 hf rfl fun a hf => zT h ?_
    refine wp_ret ?_
    refine xBlkR ?_
    refine xThenR ?_
    obtain rfl := sj hF
    exact zO2 Try.results7 hf rfl rfl ⟨rfl,hc⟩
   ·refine zS fun K h => sp 1 hf rfl fun a hf => ?_
    obtain ⟨r_2,hr_2,hF⟩ := bnd_some hF
    refine zQ (v := .bool r_2) hf hc en_10 rfl (fun w hc => slices_IsSorted_Lint_int_ok correction h_correction hc hr_2) fun a w hf hc => sp 2 hf rfl fun a hf => zT h ?_
    refine zI hf rfl hF ?_ ?_ <;> clear hF <;> intro hF
    ·refine zS fun K h => sp 2 hf rfl fun a hf => zT h ?_
     refine wp_ret ?_
     refine xBlkR ?_
     refine xThenR ?_
     obtain rfl := sj hF
     exact zO2 Try.results7 hf rfl rfl ⟨rfl,hc⟩
    ·refine wp_skip ?_
     refine h3 _ _ ?_
     refine zS fun K h => sp 1 hf rfl fun a hf => zT h ?_
     refine wp_seq_k fun K13 h13 => zS fun K h => sp 1 hf rfl fun a hf => zP hf rfl (pLenS Try.underlying23 rfl) fun a hf => sp 1 hf rfl fun a hf => zT h ?_
     refine wp_block ?_
     obtain ⟨x15,hx15,hF⟩ := bnd_some hF
     let S15 : (Int × Int) → Act → World → Prop := (fun (zz : Int × Int) a w => Has 47 a [(1,.slice correction_p correction.length correction_c),(7,i6 zz.1),(30,.slice l_p l.length l_c),(31,i6 ((l.length : Nat) : Int)),(32,i6 zz.2)] ∧ Ctx G (Lf) w)
     have hr15 : ∀ (zz : Int × Int) a w,x15 = .go zz → S15 zz a w → K13 a w := by
      rintro ⟨out,x⟩ a w rfl ⟨hf,hc⟩
      replace hF := exK_go hF
      refine h13 _ _ ?_
      refine zS fun K h => sp 3 hf rfl fun a hf => zT h ?_
      refine wp_ret ?_
      obtain rfl := sj hF
      exact zO2 Try.results7 hf rfl rfl ⟨rfl,hc⟩
     have ho15 : ∀ r,x15 = .out r → r = res := by
      rintro r rfl
      exact sj hF
     refine cLoop N (loopW (S := S15) (x := x15) ?_ N (0,0) _ _ ⟨hf.kp rfl,hc⟩ hx15)
     clear hF hf hc
     rintro ⟨out,x⟩ st15 a w KB15 ⟨hf,hc⟩ hF hfin15 hK15
     unfold daily_Cost_b15 at hF
     refine zS fun K h => sp 1 hf rfl fun a hf => zT h ?_
     refine wp_seq_k fun K18 h18 => zI hf rfl hF ?_ ?_ <;> clear hF <;> intro hF
     ·refine wp_skip ?_
      refine h18 _ _ ?_
      refine wp_seq_k fun K19 h19 => wp_block ?_
      refine zS fun K h => sp 1 hf rfl fun a hf => ?_
      obtain ⟨e_1,he_1,hF⟩ := bnd_some hF
      obtain ⟨b_1,o,qa,qp⟩ := h_l.atm he_1
      refine zP hf rfl (pIA Try.underlying23 sz_39 rfl rfl qa) fun a hf => zE hf hc rfl (eLdN (vs := [i6 e_1.Value,i6 e_1.Weight]) ag_39 rfl rfl (cells_pc qp (n := 2) (o' := 0) rfl)) fun a w hf hc => zA hf hc zr_39 rfl fun b_2 a w hf hc => sp 1 hf rfl fun a hf => zW hf hc sz_39 u0 rfl fun w hc => zT h ?_
      obtain ⟨e_2,he_2,hF⟩ := bnd_some hF
      obtain ⟨b_3,o_1,qa_1,qp_1⟩ := h_correction.atm he_2
      refine cQ hc follows_mx (by kernel_rfl) ?_
      refine qE hf rfl rfl rfl (Pu.ev (pM rfl)) fun a hf => qE hf rfl rfl rfl (eLdN (vs := [i6 e_1.Value,i6 e_1.Weight]) ag_39 rfl rfl (cells_box (n := 2) m0 rfl)) fun a hf => qE hf rfl rfl rfl (Pu.ev (pM rfl)) fun a hf => qE hf rfl rfl rfl (Pu.ev (pM rfl)) fun a hf => qE hf rfl rfl rfl (Pu.ev (pIA Try.underlying27 sz_3 rfl rfl qa_1)) fun a hf => qE hf rfl rfl rfl (eLd1 sc_3 rfl (cell_pc (j := 0) qp_1 rfl)) fun a hf => qE hf rfl rfl rfl (eC (v := i6 (daily_Reading_costs e_1 e_2)) (vs := [.agg #[i6 e_1.Value,i6 e_1.Weight],i6 e_2]) (caps := []) en_17 rfl rfl rfl rfl (fun w hc => daily_Reading_costs_ok e_1 e_2 hc rfl)) fun a hf => qE hf rfl rfl rfl (Pu.ev (pAdd rfl rfl)) fun a hf => qE hf rfl rfl rfl (Pu.ev (pA rfl)) fun a hf => ?_
      intro w hc
      refine h19 _ _ ?_
      refine cReg ?_
      refine sp 2 hf rfl fun a hf => cNil ?_
      replace hc := hc.drop k0
      exact hK15 (W (out + (daily_Reading_costs e_1 e_2)),W (x + 1)) _ _ (sj hF).symm ⟨hf.kp rfl,hc⟩
     ·refine wp_exit ?_
      refine xThen ?_
      refine xThen ?_
      have he := sj hF
      rw [← he] at hfin15
      refine cHit ?_
      exact hr15 _ _ _ hfin15 ⟨hf.kp rfl,hc⟩

def cmp_Compare_int (x : Int) (y : Int) : Int :=
 cond (cmp_isNaN_int x)
 (cond (cmp_isNaN_int y)
 (0)
 ((-1)))
 (cond (cmp_isNaN_int y)
 (1)
 (cond (decide (x < y))
 ((-1))
 (cond (decide (y < x))
 (1)
 (0))))
theorem cmp_Compare_int_ok {G : Pers} {Lf : List Ent} {w : World} (x : Int) (y : Int)   (hc : Ctx G (Lf) w) {res : Int} (hF : cmp_Compare_int x y = res) : Calls Try.prog 42 #[i6 x,i6 y] w (fun e w => e = .returned (i6 res) ∧ Ctx G (Lf) w) := by
 unfold cmp_Compare_int at hF
 refine fnIn Try.func42 rfl Try.ntmps42 rfl fun a hf => zS fun K h => sp 1 hf rfl fun a hf => zT h ?_
 refine zS fun K h => sp 1 hf rfl fun a hf => zQ (v := .bool (cmp_isNaN_int x)) hf hc en_43 rfl (fun w hc => cmp_isNaN_int_ok x hc rfl) fun a w hf hc => sp 1 hf rfl fun a hf => zT h ?_
 refine zS fun K h => sp 1 hf rfl fun a hf => zQ (v := .bool (cmp_isNaN_int y)) hf hc en_43 rfl (fun w hc => cmp_isNaN_int_ok y hc rfl) fun a w hf hc => sp 1 hf rfl fun a hf => zT h ?_
 refine wp_seq_k fun K4 h4 => zS fun K h => sp 1 hf rfl fun a hf => zT h ?_
 refine zI hf rfl hF ?_ ?_ <;> clear hF <;> intro hF
 ·refine wp_seq_k fun K6 h6 => zS fun K h => sp 1 hf rfl fun a hf => zT h ?_
  refine zI hf rfl hF ?_ ?_ <;> clear hF <;> intro hF
  ·refine zS fun K h => sp 1 hf rfl fun a hf => zT h ?_
   refine wp_ret ?_
   refine xThenR ?_
   refine xThenR ?_
   obtain rfl := hF
   exact zO1 Try.results42 hf rfl ⟨rfl,hc⟩
  ·refine wp_skip ?_
   refine h6 _ _ ?_
   refine zS fun K h => sp 1 hf rfl fun a hf => zT h ?_
   refine wp_ret ?_
   refine xThenR ?_
   obtain rfl := hF
   exact zO1 Try.results42 hf rfl ⟨rfl,hc⟩
 ·refine wp_skip ?_
  refine h4 _ _ ?_
  refine wp_seq_k fun K10 h10 => zS fun K h => sp 1 hf rfl fun a hf => zT h ?_
  refine zI hf rfl hF ?_ ?_ <;> clear hF <;> intro hF
  ·refine zS fun K h => sp 1 hf rfl fun a hf => zT h ?_
   refine wp_ret ?_
   refine xThenR ?_
   obtain rfl := hF
   exact zO1 Try.results42 hf rfl ⟨rfl,hc⟩
  ·refine wp_skip ?_
   refine h10 _ _ ?_
   refine wp_seq_k fun K13 h13 => zS fun K h => sp 3 hf rfl fun a hf => zT h ?_
   refine zI hf rfl hF ?_ ?_ <;> clear hF <;> intro hF
   ·refine zS fun K h => sp 1 hf rfl fun a hf => zT h ?_
    refine wp_ret ?_
    refine xThenR ?_
    obtain rfl := hF
    exact zO1 Try.results42 hf rfl ⟨rfl,hc⟩
   ·refine wp_skip ?_
    refine h13 _ _ ?_
    refine wp_seq_k fun K16 h16 => zS fun K h => sp 3 hf rfl fun a hf => zT h ?_
    refine zI hf rfl hF ?_ ?_ <;> clear hF <;> intro hF
    ·refine zS fun K h => sp 1 hf rfl fun a hf => zT h ?_
     refine wp_ret ?_
     refine xThenR ?_
     obtain rfl := hF
     exact zO1 Try.results42 hf rfl ⟨rfl,hc⟩
    ·refine wp_skip ?_
     refine h16 _ _ ?_
     refine zS fun K h => sp 1 hf rfl fun a hf => zT h ?_
     refine wp_ret ?_
     obtain rfl := hF
     exact zO1 Try.results42 hf rfl ⟨rfl,hc⟩

def daily_nets_1 (a_ : daily_kink) (b_ : daily_kink) : Int :=
 (cmp_Compare_int b_.value a_.value)
theorem daily_nets_1_ok {G : Pers} {Lf : List Ent} {w : World} (a_ : daily_kink) (b_ : daily_kink)   (hc : Ctx G (Lf) w) {res : Int} (hF : daily_nets_1 a_ b_ = res) : Calls Try.prog 41 #[.agg #[i6 a_.value,i6 a_.reading,i6 a_.weight],.agg #[i6 b_.value,i6 b_.reading,i6 b_.weight]] w (fun e w => e = .returned (i6 res) ∧ Ctx G (Lf) w) := by
 unfold daily_nets_1 at hF
 refine fnIn Try.func41 rfl Try.ntmps41 rfl fun a hf => zS fun K h => zB hf hc rfl fun b_1 a w hf hc => zB hf hc rfl fun b_2 a w hf hc => sp 1 hf rfl fun a hf => zT h ?_
 refine zS fun K h => zP hf rfl (pFA fa_91_0 rfl) fun a hf => zL hf hc sc_3 m0 rfl fun a w hf hc => zP hf rfl (pFA fa_91_0 rfl) fun a hf => zL hf hc sc_3 m1 rfl fun a w hf hc => zQ (v := i6 (cmp_Compare_int b_.value a_.value)) hf hc en_42 rfl (fun w hc => cmp_Compare_int_ok b_.value a_.value hc rfl) fun a w hf hc => sp 1 hf rfl fun a hf => zT h ?_
 refine wp_ret ?_
 obtain rfl := hF
 replace hc := (hc.drop k1).drop k0
 exact zO1 Try.results41 hf rfl ⟨rfl,hc⟩

def slices_insertionSortCmpFunc_daily_kink_b9 (N : Nat) (a_ : Int) (data_1 : List daily_kink) (j_1 : Int) : Option (Step ((List daily_kink) × Int) (Step ((List daily_kink) × Int) ((List daily_kink)))) :=
 Option.bind (cond (decide (a_ < j_1)) (Option.bind (getI data_1 j_1) fun e_1 =>
 Option.bind (getI data_1 (W (j_1 - 1))) fun e_2 =>
 some (decide ((daily_nets_1 e_1 e_2) < 0))) (some false)) fun t_1 =>
 cond t_1
 (Option.bind (getI data_1 (W (j_1 - 1))) fun e_3 =>
 Option.bind (getI data_1 j_1) fun e_4 =>
 Option.bind (getI data_1 j_1) fun e_5 =>
 Option.bind (getI data_1 (W (j_1 - 1))) fun e_6 =>
 some (.cont (((data_1.set j_1.toNat e_3).set (W (j_1 - 1)).toNat e_4),W (j_1 - 1))))
 (some (.brk (data_1,j_1)))
def slices_insertionSortCmpFunc_daily_kink_b3 (N : Nat) (a_ : Int) (b_ : Int) (data_0 : List daily_kink) (i_1 : Int) : Option (Step ((List daily_kink) × Int) ((List daily_kink))) :=
 cond (decide (i_1 < b_))
 (Option.bind (loopO (fun s9 => slices_insertionSortCmpFunc_daily_kink_b9 N a_ s9.1 s9.2) N (data_0,i_1)) fun x9 =>
 exK x9 (fun s9 => some (.cont (s9.1,W (i_1 + 1)))) some)
 (some (.brk (data_0,i_1)))
def slices_insertionSortCmpFunc_daily_kink (N : Nat) (data : List daily_kink) (a_ : Int) (b_ : Int) : Option ((List daily_kink)) :=
 Option.bind (loopO (fun s3 => slices_insertionSortCmpFunc_daily_kink_b3 N a_ b_ s3.1 s3.2) N (data,W (a_ + 1))) fun x3 =>
 exK x3 (fun s3 => Option.bind (sameL s3.1 data) fun _ =>
 some s3.1) some
theorem slices_insertionSortCmpFunc_daily_kink_ok {N : Nat} {G : Pers} {Lf : List Ent} {w : World} (data : List daily_kink) (a_ : Int) (b_ : Int) {data_p : Option Addr} {data_c : Nat}  (hc : Ctx G (.rowo data_p data_c (data.map enc_daily_kink) 91 3::Lf) w) {res : (List daily_kink)} (hF : slices_insertionSortCmpFunc_daily_kink N data a_ b_ = some res) : Calls Try.prog 83 #[.slice data_p data.length data_c,i6 a_,i6 b_,.func (.func 41) #[] #[]] w (fun e w => e = .returned (.tuple #[]) ∧ res.length = data.length ∧ Ctx G (.rowo data_p data_c (res.map enc_daily_kink) 91 3::Lf) w) := by
 unfold slices_insertionSortCmpFunc_daily_kink at hF
 refine fnIn Try.func83 rfl Try.ntmps83 rfl fun a hf => zS fun K h => sp 3 hf rfl fun a hf => zT h ?_
 refine wp_thenK fun K2 h2 => wp_block ?_
 obtain ⟨x3,hx3,hF⟩ := bnd_some hF
 let S3 : ((List daily_kink) × Int) → Act → World → Prop := (fun (zz : (List daily_kink) × Int) a w => Has 53 a [(0,.slice data_p zz.1.length data_c),(1,i6 a_),(2,i6 b_),(3,.func (.func 41) #[] #[]),(8,i6 zz.2)] ∧ Ctx G (.rowo data_p data_c (zz.1.map enc_daily_kink) 91 3::Lf) w)
 have hr3 : ∀ (zz : (List daily_kink) × Int) a w,x3 = .go zz → S3 zz a w → K2 a w := by
  rintro ⟨data_0,i_1⟩ a w rfl ⟨hf,hc⟩
  replace hF := exK_go hF
  refine h2 _ _ ?_
  obtain ⟨_,hl0,hF⟩ := same_len hF
  obtain rfl := sj hF
  exact fnOut0 (by simp) rfl Try.results83 hf ⟨rfl,hl0,hc⟩
 have ho3 : ∀ r,x3 = .out r → r = res := by
  rintro r rfl
  exact sj hF
 refine cLoop N (loopW (S := S3) (x := x3) ?_ N (data,W (a_ + 1)) _ _ ⟨hf.kp rfl,hc⟩ hx3)
 clear hF hf hc
 rintro ⟨data_0,i_1⟩ st3 a w KB3 ⟨hf,hc⟩ hF hfin3 hK3
 unfold slices_insertionSortCmpFunc_daily_kink_b3 at hF
 refine wp_seq_k fun K4 h4 => zS fun K h => sp 3 hf rfl fun a hf => zT h ?_
 refine zI hf rfl hF ?_ ?_ <;> clear hF <;> intro hF
 ·refine wp_skip ?_
  refine h4 _ _ ?_
  refine wp_seq_k fun K6 h6 => wp_block ?_
  refine zS fun K h => sp 2 hf rfl fun a hf => zT h ?_
  refine wp_thenK fun K8 h8 => wp_block ?_
  obtain ⟨x9,hx9,hF⟩ := bnd_some hF
  let S9 : ((List daily_kink) × Int) → Act → World → Prop := (fun (zz : (List daily_kink) × Int) a w => Has 53 a [(0,.slice data_p zz.1.length data_c),(1,i6 a_),(2,i6 b_),(3,.func (.func 41) #[] #[]),(8,i6 i_1),(9,i6 zz.2)] ∧ Ctx G (.rowo data_p data_c (zz.1.map enc_daily_kink) 91 3::Lf) w)
  have hr9 : ∀ (zz : (List daily_kink) × Int) a w,x9 = .go zz → S9 zz a w → K8 a w := by
   rintro ⟨data_1,j_1⟩ a w rfl ⟨hf,hc⟩
   replace hF := exK_go hF
   refine h8 _ _ ?_
   refine h6 _ _ ?_
   refine cReg ?_
   refine sp 3 hf rfl fun a hf => cNil ?_
   exact hK3 (data_1,W (i_1 + 1)) _ _ (sj hF).symm ⟨hf.kp rfl,hc⟩
  have ho9 : ∀ r,x9 = .out r → r = st3 := by
   rintro r rfl
   exact sj hF
  refine cLoop N (loopW (S := S9) (x := x9) ?_ N (data_0,i_1) _ _ ⟨hf.kp rfl,hc⟩ hx9)
  clear hF hf hc
  rintro ⟨data_1,j_1⟩ st9 a w KB9 ⟨hf,hc⟩ hF hfin9 hK9
  unfold slices_insertionSortCmpFunc_daily_kink_b9 at hF
  refine wp_seq_k fun K10 h10 => wp_seq_k fun K11 h11 => ?_
  obtain ⟨t_1,ht_1,hF⟩ := bnd_some hF
  refine cQ hc follows_mx (by kernel_rfl) ?_
  refine qE hf rfl rfl rfl (Pu.ev (pM rfl)) fun a hf => qE hf rfl rfl rfl (Pu.ev (pM rfl)) fun a hf => qE hf rfl rfl rfl (Pu.ev (pGt rfl rfl)) fun a hf => qE hf rfl rfl rfl (Pu.ev (pM rfl)) fun a hf => qCut 13 (fun a => Has 53 a [(0,.slice data_p data_1.length data_c),(1,i6 a_),(2,i6 b_),(3,.func (.func 41) #[] #[]),(8,i6 i_1),(9,i6 j_1),(18,i6 j_1),(19,i6 a_),(20,.bool (decide (a_ < j_1))),(21,.bool (decide (a_ < j_1))),(34,.bool t_1)]) ?_ ?_
  ·cases hb : (decide (a_ < j_1))
   ·rw [hb] at hf
    have hF := condF hb ht_1
    obtain rfl := sj hF
    refine qS hf rfl rfl rfl fun a hf => qS hf rfl rfl rfl fun a hf => qS hf rfl rfl rfl fun a hf => qS hf rfl rfl rfl fun a hf => qS hf rfl rfl rfl fun a hf => qS hf rfl rfl rfl fun a hf => qS hf rfl rfl rfl fun a hf => qS hf rfl rfl rfl fun a hf => qS hf rfl rfl rfl fun a hf => qS hf rfl rfl rfl fun a hf => qS hf rfl rfl rfl fun a hf => qS hf rfl rfl rfl fun a hf => qE hf rfl rfl rfl (Pu.ev (pPf rfl rfl)) fun a hf => ?_
    exact qNil (hf.kp rfl)
   ·rw [hb] at hf
    have hF := condT hb ht_1
    obtain ⟨e_1,he_1,hF⟩ := bnd_some hF
    obtain ⟨g,og,rfl,qa,qr⟩ := row_atmO hc m0 he_1
    obtain ⟨e_2,he_2,hF⟩ := bnd_some hF
    obtain ⟨qa_1,qr_1⟩ := row_atkO hc m0 he_2
    refine qE hf rfl rfl rfl (Pu.ev (pM rfl)) fun a hf => qE hf rfl rfl rfl (Pu.ev (pM rfl)) fun a hf => qE hf rfl rfl rfl (Pu.ev (pM rfl)) fun a hf => qE hf rfl rfl rfl (Pu.ev (pIA Try.underlying89 sz_91 rfl rfl qa)) fun a hf => qE hf rfl rfl rfl (eLdN (vs := [i6 e_1.value,i6 e_1.reading,i6 e_1.weight]) ag_91 rfl rfl (cells_rwO (sz := 3) (i := j_1.toNat) m0 qr (n := 3) (o' := 0) rfl)) fun a hf => qE hf rfl rfl rfl (Pu.ev (pM rfl)) fun a hf => qE hf rfl rfl rfl (Pu.ev (pM rfl)) fun a hf => qE hf rfl rfl rfl (Pu.ev (pSub rfl rfl)) fun a hf => qE hf rfl rfl rfl (Pu.ev (pIA Try.underlying89 sz_91 rfl rfl qa_1)) fun a hf => qE hf rfl rfl rfl (eLdN (vs := [i6 e_2.value,i6 e_2.reading,i6 e_2.weight]) ag_91 rfl rfl (cells_rwO (sz := 3) (i := (W (j_1 - 1)).toNat) m0 qr_1 (n := 3) (o' := 0) rfl)) fun a hf => qE hf rfl rfl rfl (eC (v := i6 (daily_nets_1 e_1 e_2)) (vs := [.agg #[i6 e_1.value,i6 e_1.reading,i6 e_1.weight],.agg #[i6 e_2.value,i6 e_2.reading,i6 e_2.weight]]) (caps := []) en_41 rfl rfl rfl rfl (fun w hc => daily_nets_1_ok e_1 e_2 hc rfl)) fun a hf => qE hf rfl rfl rfl (Pu.ev (pLt rfl rfl)) fun a hf => qE hf rfl rfl rfl (Pu.ev (pPt rfl rfl)) fun a hf => ?_
    obtain rfl := sj hF
    exact qNil (hf.kp rfl)
  intro a hf
  intro w hc
  refine h11 _ _ ?_
  refine zI hf rfl hF ?_ ?_ <;> clear hF <;> intro hF
  ·refine wp_skip ?_
   refine h10 _ _ ?_
   refine wp_seq_k fun K12 h12 => wp_block ?_
   obtain ⟨e_3,he_3,hF⟩ := bnd_some hF
   obtain ⟨g_1,og_1,rfl,qa_2,qr_2⟩ := row_atmO hc m0 he_3
   obtain ⟨e_4,he_4,hF⟩ := bnd_some hF
   obtain ⟨qa_3,qr_3⟩ := row_atkO hc m0 he_4
   obtain ⟨e_5,he_5,hF⟩ := bnd_some hF
   obtain ⟨qa_4,qr_4⟩ := row_atkO hc m0 he_5
   obtain ⟨e_6,he_6,hF⟩ := bnd_some hF
   obtain ⟨qa_5,qr_5⟩ := row_atkO hc m0 he_6
   refine regionE (fun θ => [⟨none,none,0,.slice (some ⟨g_1,og_1,none⟩) data_1.length data_c⟩,⟨none,none,1,i6 a_⟩,⟨none,none,2,i6 b_⟩,⟨none,none,3,.func (.func 41) #[] #[]⟩,⟨none,none,8,i6 i_1⟩,⟨none,none,9,i6 j_1⟩,⟨some 0,none,37,.slice (some ⟨g_1,og_1,none⟩) data_1.length data_c⟩,⟨some 1,none,38,i6 j_1⟩,⟨some 2,none,39,.slice (some ⟨g_1,og_1,none⟩) data_1.length data_c⟩,⟨some 3,none,40,i6 j_1⟩,⟨some 4,none,41,i6 (W (j_1 - 1))⟩,⟨some 5,none,42,.slice (some ⟨g_1,og_1,none⟩) data_1.length data_c⟩,⟨some 6,none,43,i6 j_1⟩,⟨some 7,none,44,i6 (W (j_1 - 1))⟩,⟨some 8,none,45,.pointer (some ⟨g_1,og_1 + (W (j_1 - 1)).toNat * 3,none⟩)⟩,⟨some 9,none,46,.agg #[i6 e_3.value,i6 e_3.reading,i6 e_3.weight]⟩,⟨some 10,none,47,.slice (some ⟨g_1,og_1,none⟩) data_1.length data_c⟩,⟨some 11,none,48,i6 j_1⟩,⟨some 12,none,49,.pointer (some ⟨g_1,og_1 + j_1.toNat * 3,none⟩)⟩,⟨some 13,none,50,.agg #[i6 e_4.value,i6 e_4.reading,i6 e_4.weight]⟩,⟨some 14,none,51,.pointer (some ⟨g_1,og_1 + j_1.toNat * 3,none⟩)⟩,⟨some 16,none,52,.pointer (some ⟨g_1,og_1 + (W (j_1 - 1)).toNat * 3,none⟩)⟩]) (fun E θ => (bif E 17 then .rowo (some ⟨g_1,og_1,none⟩) data_c (((data_1.set j_1.toNat e_3).set (W (j_1 - 1)).toNat e_4).map enc_daily_kink) 91 3 else bif E 15 then .rowo (some ⟨g_1,og_1,none⟩) data_c ((data_1.set j_1.toNat e_3).map enc_daily_kink) 91 3 else .rowo (some ⟨g_1,og_1,none⟩) data_c (data_1.map enc_daily_kink) 91 3)::Lf) [(15,8),(17,8),(15,9),(17,9),(13,12),(15,13),(17,12),(17,13),(15,14),(17,14),(17,15),(17,16)] (fun a w => Has 53 a [(0,.slice (some ⟨g_1,og_1,none⟩) data_1.length data_c),(1,i6 a_),(2,i6 b_),(3,.func (.func 41) #[] #[]),(8,i6 i_1),(9,i6 j_1)] ∧ Ctx G (.rowo (some ⟨g_1,og_1,none⟩) data_c (((data_1.set j_1.toNat e_3).set (W (j_1 - 1)).toNat e_4).map enc_daily_kink) 91 3::Lf) w) follows_mx (by kernel_rfl) (by kernel_rfl) (HasE.of hf ⟨rfl,rfl,rfl,rfl,rfl,rfl,trivial,trivial,trivial,trivial,trivial,trivial,trivial,trivial,trivial,trivial,trivial,trivial,trivial,trivial,trivial,trivial,trivial⟩) hc ⟨?_,?_,?_,?_,?_,?_,?_,?_,?_,?_,?_,?_,?_,?_,?_,?_,?_,?_,trivial⟩ ?_ ?_
   ·intro E θ a w hD hi hp he hc
    have hf := he.h0.mT he 0 rfl
    refine sp 1 hf rfl fun a hf => zD θ he hi hf 6 rfl rfl rfl hc
   ·intro E θ a w hD hi hp he hc
    have hf := he.h0.mT he 5 rfl
    refine sp 1 hf rfl fun a hf => zD θ he hi hf 7 rfl rfl rfl hc
   ·intro E θ a w hD hi hp he hc
    have hf := he.h0.mT he 0 rfl
    refine sp 1 hf rfl fun a hf => zD θ he hi hf 8 rfl rfl rfl hc
   ·intro E θ a w hD hi hp he hc
    have hf := he.h0.mT he 5 rfl
    refine sp 1 hf rfl fun a hf => zD θ he hi hf 9 rfl rfl rfl hc
   ·intro E θ a w hD hi hp he hc
    have e3 := hp.o 3 rfl
    have hf := he.h0.mP he 9 rfl e3
    refine sp 1 hf rfl fun a hf => zD θ he hi hf 10 rfl rfl rfl hc
   ·intro E θ a w hD hi hp he hc
    have hf := he.h0.mT he 0 rfl
    refine sp 1 hf rfl fun a hf => zD θ he hi hf 11 rfl rfl rfl hc
   ·intro E θ a w hD hi hp he hc
    have hf := he.h0.mT he 5 rfl
    refine sp 1 hf rfl fun a hf => zD θ he hi hf 12 rfl rfl rfl hc
   ·intro E θ a w hD hi hp he hc
    have e6 := hp.o 6 rfl
    have hf := he.h0.mP he 12 rfl e6
    refine sp 1 hf rfl fun a hf => zD θ he hi hf 13 rfl rfl rfl hc
   ·intro E θ a w hD hi hp he hc
    have e5 := hp.o 5 rfl
    have e7 := hp.o 7 rfl
    have e15 := hD.f 0 rfl hi
    have e17 := hD.f 1 rfl hi
    try dsimp only at hc
    rw [e15,e17] at hc
    have hf := (he.h0.mP he 11 rfl e5).mP he 13 rfl e7
    refine zP hf rfl (pIA Try.underlying89 sz_91 rfl rfl qa_2) fun a hf => zD θ he hi hf 14 rfl rfl rfl ?_
    try dsimp only
    rw [updE_fls 8 e15 rfl,updE_fls 8 e17 rfl]
    exact hc
   ·intro E θ a w hD hi hp he hc
    have e8 := hp.o 8 rfl
    have e15 := hD.f 2 rfl hi
    have e17 := hD.f 3 rfl hi
    try dsimp only at hc
    rw [e15,e17] at hc
    have hf := he.h0.mP he 14 rfl e8
    refine zE hf hc rfl (eLdN (vs := [i6 e_3.value,i6 e_3.reading,i6 e_3.weight]) ag_91 rfl rfl (cells_rwO (sz := 3) (i := (W (j_1 - 1)).toNat) m0 qr_2 (n := 3) (o' := 0) rfl)) fun a w hf hc => zD θ he hi hf 15 rfl rfl rfl ?_
    try dsimp only
    rw [updE_fls 9 e15 rfl,updE_fls 9 e17 rfl]
    exact hc
   ·intro E θ a w hD hi hp he hc
    have hf := he.h0.mT he 0 rfl
    refine sp 1 hf rfl fun a hf => zD θ he hi hf 16 rfl rfl rfl hc
   ·intro E θ a w hD hi hp he hc
    have hf := he.h0.mT he 5 rfl
    refine sp 1 hf rfl fun a hf => zD θ he hi hf 17 rfl rfl rfl hc
   ·intro E θ a w hD hi hp he hc
    have e10 := hp.o 10 rfl
    have e11 := hp.o 11 rfl
    have e13 := hD.f 4 rfl hi
    have e15 := hD.f 5 rfl e13
    have e17 := hD.f 6 rfl hi
    try dsimp only at hc
    rw [e15,e17] at hc
    have hf := (he.h0.mP he 16 rfl e10).mP he 17 rfl e11
    refine zP hf rfl (pIA Try.underlying89 sz_91 rfl rfl qa_3) fun a hf => zD θ he hi hf 18 rfl rfl rfl ?_
    try dsimp only
    rw [updE_fls 12 e15 rfl,updE_fls 12 e17 rfl]
    exact hc
   ·intro E θ a w hD hi hp he hc
    have e12 := hp.o 12 rfl
    have e15 := hD.f 5 rfl hi
    have e17 := hD.f 7 rfl hi
    try dsimp only at hc
    rw [e15,e17] at hc
    have hf := he.h0.mP he 18 rfl e12
    refine zE hf hc rfl (eLdN (vs := [i6 e_4.value,i6 e_4.reading,i6 e_4.weight]) ag_91 rfl rfl (cells_rwO (sz := 3) (i := j_1.toNat) m0 qr_3 (n := 3) (o' := 0) rfl)) fun a w hf hc => zD θ he hi hf 19 rfl rfl rfl ?_
    try dsimp only
    rw [updE_fls 13 e15 rfl,updE_fls 13 e17 rfl]
    exact hc
   ·intro E θ a w hD hi hp he hc
    have e0 := hp.o 0 rfl
    have e1 := hp.o 1 rfl
    have e15 := hD.f 8 rfl hi
    have e17 := hD.f 9 rfl hi
    try dsimp only at hc
    rw [e15,e17] at hc
    have hf := (he.h0.mP he 6 rfl e0).mP he 7 rfl e1
    refine zP hf rfl (pIA Try.underlying89 sz_91 rfl rfl qa_4) fun a hf => zD θ he hi hf 20 rfl rfl rfl ?_
    try dsimp only
    rw [updE_fls 14 e15 rfl,updE_fls 14 e17 rfl]
    exact hc
   ·intro E θ a w hD hi hp he hc
    have e9 := hp.o 9 rfl
    have e14 := hp.o 14 rfl
    have e17 := hD.f 10 rfl hi
    try dsimp only at hc
    rw [hi,e17] at hc
    have hf := (he.h0.mP he 15 rfl e9).mP he 20 rfl e14
    refine stRwO (sz := 3) (vs := [i6 e_3.value,i6 e_3.reading,i6 e_3.weight]) (o' := 0) (z := e_3) (xs := data_1) hf hc rfl rfl rfl rfl sz_91 rfl (fun x => (one_enc_daily_kink x).1) (getI_lt he_5) (fun _ _ => rfl) rfl u0 fun w hc => zG θ he hi hf rfl ?_
    try dsimp only
    rw [updE_self E 15,updE_fls 15 e17 rfl]
    exact hc
   ·intro E θ a w hD hi hp he hc
    have e2 := hp.o 2 rfl
    have e4 := hp.o 4 rfl
    have e15 := hp.o 15 rfl
    have e17 := hD.f 11 rfl hi
    try dsimp only at hc
    rw [e15,e17] at hc
    have hf := (he.h0.mP he 8 rfl e2).mP he 10 rfl e4
    refine zP hf rfl (pIA Try.underlying89 sz_91 rfl rfl qa_5) fun a hf => zD θ he hi hf 21 rfl rfl rfl ?_
    try dsimp only
    rw [updE_tru 16 e15,updE_fls 16 e17 rfl]
    exact hc
   ·intro E θ a w hD hi hp he hc
    have e13 := hp.o 13 rfl
    have e16 := hp.o 16 rfl
    have e15 := hp.o 15 rfl
    try dsimp only at hc
    rw [e15,hi] at hc
    have hf := (he.h0.mP he 19 rfl e13).mP he 21 rfl e16
    refine stRwO (sz := 3) (vs := [i6 e_4.value,i6 e_4.reading,i6 e_4.weight]) (o' := 0) (z := e_4) (xs := (data_1.set j_1.toNat e_3)) hf hc rfl rfl rfl rfl sz_91 rfl (fun x => (one_enc_daily_kink x).1) (by simpa using getI_lt he_6) (fun _ _ => rfl) rfl u0 fun w hc => zG θ he hi hf rfl ?_
    try dsimp only
    rw [updE_tru 17 e15,updE_self E 17]
    exact hc
   ·intro E θ a w hall he hc
    have hf := he.h0
    have e15 := hall 15 rfl
    have e17 := hall 17 rfl
    replace hf := hf.more he 5 rfl (onT)
    replace hf := hf.more he 4 rfl (onT)
    replace hf := hf.more he 3 rfl (onT)
    replace hf := hf.more he 2 rfl (onT)
    replace hf := hf.more he 1 rfl (onT)
    replace hf := hf.more he 0 rfl (onT)
    try dsimp only at hc
    rw [e15,e17] at hc
    exact ⟨hf.kp rfl,hc⟩
   rintro a w ⟨hf,hc⟩
   refine h12 _ _ ?_
   refine cReg ?_
   refine sp 3 hf rfl fun a hf => cNil ?_
   replace hf := hf.castAt 0 (v' := .slice (some ⟨g_1,og_1,none⟩) (((data_1.set j_1.toNat e_3).set (W (j_1 - 1)).toNat e_4).length) data_c) rfl (congrArg (fun k => Value.slice (some ⟨g_1,og_1,none⟩) k data_c) (by simp))
   exact hK9 (((data_1.set j_1.toNat e_3).set (W (j_1 - 1)).toNat e_4),W (j_1 - 1)) _ _ (sj hF).symm ⟨hf.kp rfl,hc⟩
  ·refine wp_exit ?_
   refine xThen ?_
   refine xThen ?_
   have he := sj hF
   rw [← he] at hfin9
   refine cHit ?_
   exact hr9 _ _ _ hfin9 ⟨hf.kp rfl,hc⟩
 ·refine wp_exit ?_
  refine xThen ?_
  refine xThen ?_
  have he := sj hF
  rw [← he] at hfin3
  refine cHit ?_
  exact hr3 _ _ _ hfin3 ⟨hf.kp rfl,hc⟩

def slices_swapRangeCmpFunc_daily_kink_b3 (N : Nat) (a_ : Int) (b_ : Int) (n : Int) (data_0 : List daily_kink) (i_1 : Int) : Option (Step ((List daily_kink) × Int) ((List daily_kink))) :=
 cond (decide (i_1 < n))
 (Option.bind (getI data_0 (W (b_ + i_1))) fun e_1 =>
 Option.bind (getI data_0 (W (a_ + i_1))) fun e_2 =>
 Option.bind (getI data_0 (W (a_ + i_1))) fun e_3 =>
 Option.bind (getI data_0 (W (b_ + i_1))) fun e_4 =>
 some (.cont (((data_0.set (W (a_ + i_1)).toNat e_1).set (W (b_ + i_1)).toNat e_2),W (i_1 + 1))))
 (some (.brk (data_0,i_1)))
def slices_swapRangeCmpFunc_daily_kink (N : Nat) (data : List daily_kink) (a_ : Int) (b_ : Int) (n : Int) : Option ((List daily_kink)) :=
 Option.bind (loopO (fun s3 => slices_swapRangeCmpFunc_daily_kink_b3 N a_ b_ n s3.1 s3.2) N (data,0)) fun x3 =>
 exK x3 (fun s3 => Option.bind (sameL s3.1 data) fun _ =>
 some s3.1) some
theorem slices_swapRangeCmpFunc_daily_kink_ok {N : Nat} {G : Pers} {Lf : List Ent} {w : World} (data : List daily_kink) (a_ : Int) (b_ : Int) (n : Int) {data_p : Option Addr} {data_c : Nat}  (hc : Ctx G (.rowo data_p data_c (data.map enc_daily_kink) 91 3::Lf) w) {res : (List daily_kink)} (hF : slices_swapRangeCmpFunc_daily_kink N data a_ b_ n = some res) : Calls Try.prog 95 #[.slice data_p data.length data_c,i6 a_,i6 b_,i6 n,.func (.func 41) #[] #[]] w (fun e w => e = .returned (.tuple #[]) ∧ res.length = data.length ∧ Ctx G (.rowo data_p data_c (res.map enc_daily_kink) 91 3::Lf) w) := by
 unfold slices_swapRangeCmpFunc_daily_kink at hF
 refine fnIn Try.func95 rfl Try.ntmps95 rfl fun a hf => zS fun K h => sp 1 hf rfl fun a hf => zT h ?_
 refine wp_thenK fun K2 h2 => wp_block ?_
 obtain ⟨x3,hx3,hF⟩ := bnd_some hF
 let S3 : ((List daily_kink) × Int) → Act → World → Prop := (fun (zz : (List daily_kink) × Int) a w => Has 38 a [(0,.slice data_p zz.1.length data_c),(1,i6 a_),(2,i6 b_),(3,i6 n),(10,i6 zz.2)] ∧ Ctx G (.rowo data_p data_c (zz.1.map enc_daily_kink) 91 3::Lf) w)
 have hr3 : ∀ (zz : (List daily_kink) × Int) a w,x3 = .go zz → S3 zz a w → K2 a w := by
  rintro ⟨data_0,i_1⟩ a w rfl ⟨hf,hc⟩
  replace hF := exK_go hF
  refine h2 _ _ ?_
  obtain ⟨_,hl0,hF⟩ := same_len hF
  obtain rfl := sj hF
  exact fnOut0 (by simp) rfl Try.results95 hf ⟨rfl,hl0,hc⟩
 have ho3 : ∀ r,x3 = .out r → r = res := by
  rintro r rfl
  exact sj hF
 refine cLoop N (loopW (S := S3) (x := x3) ?_ N (data,0) _ _ ⟨hf.kp rfl,hc⟩ hx3)
 clear hF hf hc
 rintro ⟨data_0,i_1⟩ st3 a w KB3 ⟨hf,hc⟩ hF hfin3 hK3
 unfold slices_swapRangeCmpFunc_daily_kink_b3 at hF
 refine wp_seq_k fun K4 h4 => zS fun K h => sp 3 hf rfl fun a hf => zT h ?_
 refine zI hf rfl hF ?_ ?_ <;> clear hF <;> intro hF
 ·refine wp_skip ?_
  refine h4 _ _ ?_
  refine wp_seq_k fun K6 h6 => wp_block ?_
  obtain ⟨e_1,he_1,hF⟩ := bnd_some hF
  obtain ⟨g,og,rfl,qa,qr⟩ := row_atmO hc m0 he_1
  obtain ⟨e_2,he_2,hF⟩ := bnd_some hF
  obtain ⟨qa_1,qr_1⟩ := row_atkO hc m0 he_2
  obtain ⟨e_3,he_3,hF⟩ := bnd_some hF
  obtain ⟨qa_2,qr_2⟩ := row_atkO hc m0 he_3
  obtain ⟨e_4,he_4,hF⟩ := bnd_some hF
  obtain ⟨qa_3,qr_3⟩ := row_atkO hc m0 he_4
  refine regionE (fun θ => [⟨none,none,0,.slice (some ⟨g,og,none⟩) data_0.length data_c⟩,⟨none,none,1,i6 a_⟩,⟨none,none,2,i6 b_⟩,⟨none,none,3,i6 n⟩,⟨none,none,10,i6 i_1⟩,⟨some 0,none,16,.slice (some ⟨g,og,none⟩) data_0.length data_c⟩,⟨some 1,none,17,i6 a_⟩,⟨some 2,none,18,i6 i_1⟩,⟨some 3,none,19,i6 (W (a_ + i_1))⟩,⟨some 4,none,20,.slice (some ⟨g,og,none⟩) data_0.length data_c⟩,⟨some 5,none,21,i6 b_⟩,⟨some 6,none,22,i6 i_1⟩,⟨some 7,none,23,i6 (W (b_ + i_1))⟩,⟨some 8,none,24,.slice (some ⟨g,og,none⟩) data_0.length data_c⟩,⟨some 9,none,25,i6 b_⟩,⟨some 10,none,26,i6 i_1⟩,⟨some 11,none,27,i6 (W (b_ + i_1))⟩,⟨some 12,none,28,.pointer (some ⟨g,og + (W (b_ + i_1)).toNat * 3,none⟩)⟩,⟨some 13,none,29,.agg #[i6 e_1.value,i6 e_1.reading,i6 e_1.weight]⟩,⟨some 14,none,30,.slice (some ⟨g,og,none⟩) data_0.length data_c⟩,⟨some 15,none,31,i6 a_⟩,⟨some 16,none,32,i6 i_1⟩,⟨some 17,none,33,i6 (W (a_ + i_1))⟩,⟨some 18,none,34,.pointer (some ⟨g,og + (W (a_ + i_1)).toNat * 3,none⟩)⟩,⟨some 19,none,35,.agg #[i6 e_2.value,i6 e_2.reading,i6 e_2.weight]⟩,⟨some 20,none,36,.pointer (some ⟨g,og + (W (a_ + i_1)).toNat * 3,none⟩)⟩,⟨some 22,none,37,.pointer (some ⟨g,og + (W (b_ + i_1)).toNat * 3,none⟩)⟩]) (fun E θ => (bif E 23 then .rowo (some ⟨g,og,none⟩) data_c (((data_0.set (W (a_ + i_1)).toNat e_1).set (W (b_ + i_1)).toNat e_2).map enc_daily_kink) 91 3 else bif E 21 then .rowo (some ⟨g,og,none⟩) data_c ((data_0.set (W (a_ + i_1)).toNat e_1).map enc_daily_kink) 91 3 else .rowo (some ⟨g,og,none⟩) data_c (data_0.map enc_daily_kink) 91 3)::Lf) [(21,12),(23,12),(21,13),(23,13),(19,18),(21,19),(23,18),(23,19),(21,20),(23,20),(23,21),(23,22)] (fun a w => Has 38 a [(0,.slice (some ⟨g,og,none⟩) data_0.length data_c),(1,i6 a_),(2,i6 b_),(3,i6 n),(10,i6 i_1)] ∧ Ctx G (.rowo (some ⟨g,og,none⟩) data_c (((data_0.set (W (a_ + i_1)).toNat e_1).set (W (b_ + i_1)).toNat e_2).map enc_daily_kink) 91 3::Lf) w) follows_mx (by kernel_rfl) (by kernel_rfl) (HasE.of hf ⟨rfl,rfl,rfl,rfl,rfl,trivial,trivial,trivial,trivial,trivial,trivial,trivial,trivial,trivial,trivial,trivial,trivial,trivial,trivial,trivial,trivial,trivial,trivial,trivial,trivial,trivial,trivial,trivial⟩) hc ⟨?_,?_,?_,?_,?_,?_,?_,?_,?_,?_,?_,?_,?_,?_,?_,?_,?_,?_,?_,?_,?_,?_,?_,?_,trivial⟩ ?_ ?_
  ·intro E θ a w hD hi hp he hc
   have hf := he.h0.mT he 0 rfl
   refine sp 1 hf rfl fun a hf => zD θ he hi hf 5 rfl rfl rfl hc
  ·intro E θ a w hD hi hp he hc
   have hf := he.h0.mT he 1 rfl
   refine sp 1 hf rfl fun a hf => zD θ he hi hf 6 rfl rfl rfl hc
  ·intro E θ a w hD hi hp he hc
   have hf := he.h0.mT he 4 rfl
   refine sp 1 hf rfl fun a hf => zD θ he hi hf 7 rfl rfl rfl hc
  ·intro E θ a w hD hi hp he hc
   have e1 := hp.o 1 rfl
   have e2 := hp.o 2 rfl
   have hf := (he.h0.mP he 6 rfl e1).mP he 7 rfl e2
   refine sp 1 hf rfl fun a hf => zD θ he hi hf 8 rfl rfl rfl hc
  ·intro E θ a w hD hi hp he hc
   have hf := he.h0.mT he 0 rfl
   refine sp 1 hf rfl fun a hf => zD θ he hi hf 9 rfl rfl rfl hc
  ·intro E θ a w hD hi hp he hc
   have hf := he.h0.mT he 2 rfl
   refine sp 1 hf rfl fun a hf => zD θ he hi hf 10 rfl rfl rfl hc
  ·intro E θ a w hD hi hp he hc
   have hf := he.h0.mT he 4 rfl
   refine sp 1 hf rfl fun a hf => zD θ he hi hf 11 rfl rfl rfl hc
  ·intro E θ a w hD hi hp he hc
   have e5 := hp.o 5 rfl
   have e6 := hp.o 6 rfl
   have hf := (he.h0.mP he 10 rfl e5).mP he 11 rfl e6
   refine sp 1 hf rfl fun a hf => zD θ he hi hf 12 rfl rfl rfl hc
  ·intro E θ a w hD hi hp he hc
   have hf := he.h0.mT he 0 rfl
   refine sp 1 hf rfl fun a hf => zD θ he hi hf 13 rfl rfl rfl hc
  ·intro E θ a w hD hi hp he hc
   have hf := he.h0.mT he 2 rfl
   refine sp 1 hf rfl fun a hf => zD θ he hi hf 14 rfl rfl rfl hc
  ·intro E θ a w hD hi hp he hc
   have hf := he.h0.mT he 4 rfl
   refine sp 1 hf rfl fun a hf => zD θ he hi hf 15 rfl rfl rfl hc
  ·intro E θ a w hD hi hp he hc
   have e9 := hp.o 9 rfl
   have e10 := hp.o 10 rfl
   have hf := (he.h0.mP he 14 rfl e9).mP he 15 rfl e10
   refine sp 1 hf rfl fun a hf => zD θ he hi hf 16 rfl rfl rfl hc
  ·intro E θ a w hD hi hp he hc
   have e8 := hp.o 8 rfl
   have e11 := hp.o 11 rfl
   have e21 := hD.f 0 rfl hi
   have e23 := hD.f 1 rfl hi
   try dsimp only at hc
   rw [e21,e23] at hc
   have hf := (he.h0.mP he 13 rfl e8).mP he 16 rfl e11
   refine zP hf rfl (pIA Try.underlying89 sz_91 rfl rfl qa) fun a hf => zD θ he hi hf 17 rfl rfl rfl ?_
   try dsimp only
   rw [updE_fls 12 e21 rfl,updE_fls 12 e23 rfl]
   exact hc
  ·intro E θ a w hD hi hp he hc
   have e12 := hp.o 12 rfl
   have e21 := hD.f 2 rfl hi
   have e23 := hD.f 3 rfl hi
   try dsimp only at hc
   rw [e21,e23] at hc
   have hf := he.h0.mP he 17 rfl e12
   refine zE hf hc rfl (eLdN (vs := [i6 e_1.value,i6 e_1.reading,i6 e_1.weight]) ag_91 rfl rfl (cells_rwO (sz := 3) (i := (W (b_ + i_1)).toNat) m0 qr (n := 3) (o' := 0) rfl)) fun a w hf hc => zD θ he hi hf 18 rfl rfl rfl ?_
   try dsimp only
   rw [updE_fls 13 e21 rfl,updE_fls 13 e23 rfl]
   exact hc
  ·intro E θ a w hD hi hp he hc
   have hf := he.h0.mT he 0 rfl
   refine sp 1 hf rfl fun a hf => zD θ he hi hf 19 rfl rfl rfl hc
  ·intro E θ a w hD hi hp he hc
   have hf := he.h0.mT he 1 rfl
   refine sp 1 hf rfl fun a hf => zD θ he hi hf 20 rfl rfl rfl hc
  ·intro E θ a w hD hi hp he hc
   have hf := he.h0.mT he 4 rfl
   refine sp 1 hf rfl fun a hf => zD θ he hi hf 21 rfl rfl rfl hc
  ·intro E θ a w hD hi hp he hc
   have e15 := hp.o 15 rfl
   have e16 := hp.o 16 rfl
   have hf := (he.h0.mP he 20 rfl e15).mP he 21 rfl e16
   refine sp 1 hf rfl fun a hf => zD θ he hi hf 22 rfl rfl rfl hc
  ·intro E θ a w hD hi hp he hc
   have e14 := hp.o 14 rfl
   have e17 := hp.o 17 rfl
   have e19 := hD.f 4 rfl hi
   have e21 := hD.f 5 rfl e19
   have e23 := hD.f 6 rfl hi
   try dsimp only at hc
   rw [e21,e23] at hc
   have hf := (he.h0.mP he 19 rfl e14).mP he 22 rfl e17
   refine zP hf rfl (pIA Try.underlying89 sz_91 rfl rfl qa_1) fun a hf => zD θ he hi hf 23 rfl rfl rfl ?_
   try dsimp only
   rw [updE_fls 18 e21 rfl,updE_fls 18 e23 rfl]
   exact hc
  ·intro E θ a w hD hi hp he hc
   have e18 := hp.o 18 rfl
   have e21 := hD.f 5 rfl hi
   have e23 := hD.f 7 rfl hi
   try dsimp only at hc
   rw [e21,e23] at hc
   have hf := he.h0.mP he 23 rfl e18
   refine zE hf hc rfl (eLdN (vs := [i6 e_2.value,i6 e_2.reading,i6 e_2.weight]) ag_91 rfl rfl (cells_rwO (sz := 3) (i := (W (a_ + i_1)).toNat) m0 qr_1 (n := 3) (o' := 0) rfl)) fun a w hf hc => zD θ he hi hf 24 rfl rfl rfl ?_
   try dsimp only
   rw [updE_fls 19 e21 rfl,updE_fls 19 e23 rfl]
   exact hc
  ·intro E θ a w hD hi hp he hc
   have e0 := hp.o 0 rfl
   have e3 := hp.o 3 rfl
   have e21 := hD.f 8 rfl hi
   have e23 := hD.f 9 rfl hi
   try dsimp only at hc
   rw [e21,e23] at hc
   have hf := (he.h0.mP he 5 rfl e0).mP he 8 rfl e3
   refine zP hf rfl (pIA Try.underlying89 sz_91 rfl rfl qa_2) fun a hf => zD θ he hi hf 25 rfl rfl rfl ?_
   try dsimp only
   rw [updE_fls 20 e21 rfl,updE_fls 20 e23 rfl]
   exact hc
  ·intro E θ a w hD hi hp he hc
   have e13 := hp.o 13 rfl
   have e20 := hp.o 20 rfl
   have e23 := hD.f 10 rfl hi
   try dsimp only at hc
   rw [hi,e23] at hc
   have hf := (he.h0.mP he 18 rfl e13).mP he 25 rfl e20
   refine stRwO (sz := 3) (vs := [i6 e_1.value,i6 e_1.reading,i6 e_1.weight]) (o' := 0) (z := e_1) (xs := data_0) hf hc rfl rfl rfl rfl sz_91 rfl (fun x => (one_enc_daily_kink x).1) (getI_lt he_3) (fun _ _ => rfl) rfl u0 fun w hc => zG θ he hi hf rfl ?_
   try dsimp only
   rw [updE_self E 21,updE_fls 21 e23 rfl]
   exact hc
  ·intro E θ a w hD hi hp he hc
   have e4 := hp.o 4 rfl
   have e7 := hp.o 7 rfl
   have e21 := hp.o 21 rfl
   have e23 := hD.f 11 rfl hi
   try dsimp only at hc
   rw [e21,e23] at hc
   have hf := (he.h0.mP he 9 rfl e4).mP he 12 rfl e7
   refine zP hf rfl (pIA Try.underlying89 sz_91 rfl rfl qa_3) fun a hf => zD θ he hi hf 26 rfl rfl rfl ?_
   try dsimp only
   rw [updE_tru 22 e21,updE_fls 22 e23 rfl]
   exact hc
  ·intro E θ a w hD hi hp he hc
   have e19 := hp.o 19 rfl
   have e22 := hp.o 22 rfl
   have e21 := hp.o 21 rfl
   try dsimp only at hc
   rw [e21,hi] at hc
   have hf := (he.h0.mP he 24 rfl e19).mP he 26 rfl e22
   refine stRwO (sz := 3) (vs := [i6 e_2.value,i6 e_2.reading,i6 e_2.weight]) (o' := 0) (z := e_2) (xs := (data_0.set (W (a_ + i_1)).toNat e_1)) hf hc rfl rfl rfl rfl sz_91 rfl (fun x => (one_enc_daily_kink x).1) (by simpa using getI_lt he_4) (fun _ _ => rfl) rfl u0 fun w hc => zG θ he hi hf rfl ?_
   try dsimp only
   rw [updE_tru 23 e21,updE_self E 23]
   exact hc
  ·intro E θ a w hall he hc
   have hf := he.h0
   have e21 := hall 21 rfl
   have e23 := hall 23 rfl
   replace hf := hf.more he 4 rfl (onT)
   replace hf := hf.more he 3 rfl (onT)
   replace hf := hf.more he 2 rfl (onT)
   replace hf := hf.more he 1 rfl (onT)
   replace hf := hf.more he 0 rfl (onT)
   try dsimp only at hc
   rw [e21,e23] at hc
   exact ⟨hf.kp rfl,hc⟩
  rintro a w ⟨hf,hc⟩
  refine h6 _ _ ?_
  refine cReg ?_
  refine sp 3 hf rfl fun a hf => cNil ?_
  replace hf := hf.castAt 0 (v' := .slice (some ⟨g,og,none⟩) (((data_0.set (W (a_ + i_1)).toNat e_1).set (W (b_ + i_1)).toNat e_2).length) data_c) rfl (congrArg (fun k => Value.slice (some ⟨g,og,none⟩) k data_c) (by simp))
  exact hK3 (((data_0.set (W (a_ + i_1)).toNat e_1).set (W (b_ + i_1)).toNat e_2),W (i_1 + 1)) _ _ (sj hF).symm ⟨hf.kp rfl,hc⟩
 ·refine wp_exit ?_
  refine xThen ?_
  refine xThen ?_
  have he := sj hF
  rw [← he] at hfin3
  refine cHit ?_
  exact hr3 _ _ _ hfin3 ⟨hf.kp rfl,hc⟩

def slices_rotateCmpFunc_daily_kink_b4 (N : Nat) (m : Int) (data_0 : List daily_kink) (i_1 : Int) (j_1 : Int) : Option (Step ((List daily_kink) × Int × Int) ((List daily_kink))) :=
 cond (i_1 != j_1)
 (cond (decide (j_1 < i_1))
 (Option.bind (slices_swapRangeCmpFunc_daily_kink N data_0 (W (m - i_1)) m j_1) fun r_1 =>
 some (.cont (r_1,W (i_1 - j_1),j_1)))
 (Option.bind (slices_swapRangeCmpFunc_daily_kink N data_0 (W (m - i_1)) (W ((W (m + j_1)) - i_1)) i_1) fun r_2 =>
 some (.cont (r_2,i_1,W (j_1 - i_1)))))
 (some (.brk (data_0,i_1,j_1)))
def slices_rotateCmpFunc_daily_kink (N : Nat) (data : List daily_kink) (a_ : Int) (m : Int) (b_ : Int) : Option ((List daily_kink)) :=
 Option.bind (loopO (fun s4 => slices_rotateCmpFunc_daily_kink_b4 N m s4.1 s4.2.1 s4.2.2) N (data,W (m - a_),W (b_ - m))) fun x4 =>
 exK x4 (fun s4 => Option.bind (slices_swapRangeCmpFunc_daily_kink N s4.1 (W (m - s4.2.1)) m s4.2.1) fun r =>
 Option.bind (sameL r data) fun _ =>
 some r) some
theorem slices_rotateCmpFunc_daily_kink_ok {N : Nat} {G : Pers} {Lf : List Ent} {w : World} (data : List daily_kink) (a_ : Int) (m : Int) (b_ : Int) {data_p : Option Addr} {data_c : Nat}  (hc : Ctx G (.rowo data_p data_c (data.map enc_daily_kink) 91 3::Lf) w) {res : (List daily_kink)} (hF : slices_rotateCmpFunc_daily_kink N data a_ m b_ = some res) : Calls Try.prog 92 #[.slice data_p data.length data_c,i6 a_,i6 m,i6 b_,.func (.func 41) #[] #[]] w (fun e w => e = .returned (.tuple #[]) ∧ res.length = data.length ∧ Ctx G (.rowo data_p data_c (res.map enc_daily_kink) 91 3::Lf) w) := by
 unfold slices_rotateCmpFunc_daily_kink at hF
 refine fnIn Try.func92 rfl Try.ntmps92 rfl fun a hf => zS fun K h => sp 4 hf rfl fun a hf => zT h ?_
 refine zS fun K h => sp 4 hf rfl fun a hf => zT h ?_
 refine wp_seq_k fun K3 h3 => wp_block ?_
 obtain ⟨x4,hx4,hF⟩ := bnd_some hF
 let S4 : ((List daily_kink) × Int × Int) → Act → World → Prop := (fun (zz : (List daily_kink) × Int × Int) a w => Has 58 a [(0,.slice data_p zz.1.length data_c),(2,i6 m),(4,.func (.func 41) #[] #[]),(10,i6 zz.2.1),(11,i6 zz.2.2)] ∧ Ctx G (.rowo data_p data_c (zz.1.map enc_daily_kink) 91 3::Lf) w)
 have hr4 : ∀ (zz : (List daily_kink) × Int × Int) a w,x4 = .go zz → S4 zz a w → K3 a w := by
  rintro ⟨data_0,i_1,j_1⟩ a w rfl ⟨hf,hc⟩
  replace hF := exK_go hF
  refine h3 _ _ ?_
  refine cReg ?_
  refine sp 7 hf rfl fun a hf => ?_
  obtain ⟨r,hr,hF⟩ := bnd_some hF
  refine zC hf en_95 rfl (slices_swapRangeCmpFunc_daily_kink_ok data_0 (W (m - i_1)) m i_1 (hc.pick k0) hr) ?_
  rintro _ w ⟨rfl,hl,hc⟩
  refine ⟨_,rfl,fun a hf => ?_⟩
  try rw [← hl] at hf
  try rw [← hl] at hc
  refine cNil ?_
  obtain ⟨_,hl0,hF⟩ := same_len hF
  obtain rfl := sj hF
  exact fnOut0 (by simp) rfl Try.results92 hf ⟨rfl,hl0,hc⟩
 have ho4 : ∀ r,x4 = .out r → r = res := by
  rintro r rfl
  exact sj hF
 refine cLoop N (loopW (S := S4) (x := x4) ?_ N (data,W (m - a_),W (b_ - m)) _ _ ⟨hf.kp rfl,hc⟩ hx4)
 clear hF hf hc
 rintro ⟨data_0,i_1,j_1⟩ st4 a w KB4 ⟨hf,hc⟩ hF hfin4 hK4
 unfold slices_rotateCmpFunc_daily_kink_b4 at hF
 refine wp_seq_k fun K5 h5 => zS fun K h => sp 3 hf rfl fun a hf => zT h ?_
 refine zI hf rfl hF ?_ ?_ <;> clear hF <;> intro hF
 ·refine wp_skip ?_
  refine h5 _ _ ?_
  refine wp_thenK fun K7 h7 => wp_block ?_
  refine zS fun K h => sp 3 hf rfl fun a hf => zT h ?_
  refine zI hf rfl hF ?_ ?_ <;> clear hF <;> intro hF
  ·refine zS fun K h => sp 7 hf rfl fun a hf => ?_
   obtain ⟨r_1,hr_1,hF⟩ := bnd_some hF
   refine zC hf en_95 rfl (slices_swapRangeCmpFunc_daily_kink_ok data_0 (W (m - i_1)) m j_1 (hc.pick k0) hr_1) ?_
   rintro _ w ⟨rfl,hl_1,hc⟩
   refine ⟨_,rfl,fun a hf => ?_⟩
   try rw [← hl_1] at hf
   try rw [← hl_1] at hc
   refine zT h ?_
   refine cReg ?_
   refine sp 4 hf rfl fun a hf => cNil ?_
   refine h7 _ _ ?_
   exact hK4 (r_1,W (i_1 - j_1),j_1) _ _ (sj hF).symm ⟨hf.kp rfl,hc⟩
  ·refine zS fun K h => sp 11 hf rfl fun a hf => ?_
   obtain ⟨r_2,hr_2,hF⟩ := bnd_some hF
   refine zC hf en_95 rfl (slices_swapRangeCmpFunc_daily_kink_ok data_0 (W (m - i_1)) (W ((W (m + j_1)) - i_1)) i_1 (hc.pick k0) hr_2) ?_
   rintro _ w ⟨rfl,hl_2,hc⟩
   refine ⟨_,rfl,fun a hf => ?_⟩
   try rw [← hl_2] at hf
   try rw [← hl_2] at hc
   refine zT h ?_
   refine cReg ?_
   refine sp 4 hf rfl fun a hf => cNil ?_
   refine h7 _ _ ?_
   exact hK4 (r_2,i_1,W (j_1 - i_1)) _ _ (sj hF).symm ⟨hf.kp rfl,hc⟩
 ·refine wp_exit ?_
  refine xThen ?_
  refine xThen ?_
  have he := sj hF
  rw [← he] at hfin4
  refine cHit ?_
  exact hr4 _ _ _ hfin4 ⟨hf.kp rfl,hc⟩

def slices_symMergeCmpFunc_daily_kink_b9 (N : Nat) (i_1 : Int) (data_0 : List daily_kink) (k : Int) : Option (Step ((List daily_kink) × Int) ((List daily_kink))) :=
 cond (decide (k < (W (i_1 - 1))))
 (Option.bind (getI data_0 (W (k + 1))) fun e_1 =>
 Option.bind (getI data_0 k) fun e_2 =>
 Option.bind (getI data_0 k) fun e_3 =>
 Option.bind (getI data_0 (W (k + 1))) fun e_4 =>
 some (.cont (((data_0.set k.toNat e_1).set (W (k + 1)).toNat e_2),W (k + 1))))
 (some (.brk (data_0,k)))
def slices_symMergeCmpFunc_daily_kink_b6 (N : Nat) (data : List daily_kink) (a_ : Int) (i_1 : Int) (j_1 : Int) : Option (Step (Int × Int) ((List daily_kink))) :=
 cond (decide (i_1 < j_1))
 (Option.bind (getI data (W (((IntKind.u64.wrap (W (i_1 + j_1))) / 2)))) fun e_5 =>
 Option.bind (getI data a_) fun e_6 =>
 cond (decide ((daily_nets_1 e_5 e_6) < 0))
 (some (.cont (W ((W (((IntKind.u64.wrap (W (i_1 + j_1))) / 2))) + 1),j_1)))
 (some (.cont (i_1,W (((IntKind.u64.wrap (W (i_1 + j_1))) / 2))))))
 (some (.brk (i_1,j_1)))
def slices_symMergeCmpFunc_daily_kink_b26 (N : Nat) (i_2 : Int) (data_1 : List daily_kink) (k_1 : Int) : Option (Step ((List daily_kink) × Int) ((List daily_kink))) :=
 cond (decide (i_2 < k_1))
 (Option.bind (getI data_1 (W (k_1 - 1))) fun e_7 =>
 Option.bind (getI data_1 k_1) fun e_8 =>
 Option.bind (getI data_1 k_1) fun e_9 =>
 Option.bind (getI data_1 (W (k_1 - 1))) fun e_10 =>
 some (.cont (((data_1.set k_1.toNat e_7).set (W (k_1 - 1)).toNat e_8),W (k_1 - 1))))
 (some (.brk (data_1,k_1)))
def slices_symMergeCmpFunc_daily_kink_b23 (N : Nat) (data : List daily_kink) (m : Int) (i_2 : Int) (j_2 : Int) : Option (Step (Int × Int) ((List daily_kink))) :=
 cond (decide (i_2 < j_2))
 (Option.bind (getI data m) fun e_11 =>
 Option.bind (getI data (W (((IntKind.u64.wrap (W (i_2 + j_2))) / 2)))) fun e_12 =>
 cond (!(decide ((daily_nets_1 e_11 e_12) < 0)))
 (some (.cont (W ((W (((IntKind.u64.wrap (W (i_2 + j_2))) / 2))) + 1),j_2)))
 (some (.cont (i_2,W (((IntKind.u64.wrap (W (i_2 + j_2))) / 2))))))
 (some (.brk (i_2,j_2)))
def slices_symMergeCmpFunc_daily_kink_j44 (N : Nat) (rec_ : (List daily_kink) → Int → Int → Int → Option ((List daily_kink))) (data : List daily_kink) (a_ : Int) (m : Int) (b_ : Int) (start_1 : Int) (data_3 : List daily_kink) : Option ((List daily_kink)) :=
 cond ((decide ((W (((IntKind.u64.wrap (W (a_ + b_))) / 2))) < (W ((W ((W (((IntKind.u64.wrap (W (a_ + b_))) / 2))) + m)) - start_1)))) && (decide ((W ((W ((W (((IntKind.u64.wrap (W (a_ + b_))) / 2))) + m)) - start_1)) < b_)))
 (Option.bind (rec_ data_3 (W (((IntKind.u64.wrap (W (a_ + b_))) / 2))) (W ((W ((W (((IntKind.u64.wrap (W (a_ + b_))) / 2))) + m)) - start_1)) b_) fun r_2 =>
 Option.bind (sameL r_2 data) fun _ =>
 some r_2)
 (Option.bind (sameL data_3 data) fun _ =>
 some data_3)
def slices_symMergeCmpFunc_daily_kink_j43 (N : Nat) (rec_ : (List daily_kink) → Int → Int → Int → Option ((List daily_kink))) (data : List daily_kink) (a_ : Int) (m : Int) (b_ : Int) (start_1 : Int) (data_2 : List daily_kink) : Option ((List daily_kink)) :=
 cond ((decide (a_ < start_1)) && (decide (start_1 < (W (((IntKind.u64.wrap (W (a_ + b_))) / 2))))))
 (Option.bind (rec_ data_2 a_ start_1 (W (((IntKind.u64.wrap (W (a_ + b_))) / 2)))) fun r_3 =>
 slices_symMergeCmpFunc_daily_kink_j44 N rec_ data a_ m b_ start_1 r_3)
 (slices_symMergeCmpFunc_daily_kink_j44 N rec_ data a_ m b_ start_1 data_2)
def slices_symMergeCmpFunc_daily_kink_b41 (N : Nat) (data : List daily_kink) (a_ : Int) (m : Int) (b_ : Int) (start_1 : Int) (r_1 : Int) : Option (Step (Int × Int) ((List daily_kink))) :=
 cond (decide (start_1 < r_1))
 (Option.bind (getI data (W ((W ((W ((W (((IntKind.u64.wrap (W (a_ + b_))) / 2))) + m)) - 1)) - (W (((IntKind.u64.wrap (W (start_1 + r_1))) / 2)))))) fun e_13 =>
 Option.bind (getI data (W (((IntKind.u64.wrap (W (start_1 + r_1))) / 2)))) fun e_14 =>
 cond (!(decide ((daily_nets_1 e_13 e_14) < 0)))
 (some (.cont (W ((W (((IntKind.u64.wrap (W (start_1 + r_1))) / 2))) + 1),r_1)))
 (some (.cont (start_1,W (((IntKind.u64.wrap (W (start_1 + r_1))) / 2))))))
 (some (.brk (start_1,r_1)))
def slices_symMergeCmpFunc_daily_kink_j38 (N : Nat) (rec_ : (List daily_kink) → Int → Int → Int → Option ((List daily_kink))) (data : List daily_kink) (a_ : Int) (m : Int) (b_ : Int) (start : Int) (r : Int) : Option ((List daily_kink)) :=
 Option.bind (loopO (fun s41 => slices_symMergeCmpFunc_daily_kink_b41 N data a_ m b_ s41.1 s41.2) N (start,r)) fun x41 =>
 exK x41 (fun s41 => cond ((decide (s41.1 < m)) && (decide (m < (W ((W ((W (((IntKind.u64.wrap (W (a_ + b_))) / 2))) + m)) - s41.1)))))
 (Option.bind (slices_rotateCmpFunc_daily_kink N data s41.1 m (W ((W ((W (((IntKind.u64.wrap (W (a_ + b_))) / 2))) + m)) - s41.1))) fun r_4 =>
 slices_symMergeCmpFunc_daily_kink_j43 N rec_ data a_ m b_ s41.1 r_4)
 (slices_symMergeCmpFunc_daily_kink_j43 N rec_ data a_ m b_ s41.1 data)) some
def slices_symMergeCmpFunc_daily_kink : Nat → (List daily_kink) → Int → Int → Int → Option ((List daily_kink))
| 0,_,_,_,_ => none
| N + 1,data,a_,m,b_ =>
 cond ((W (m - a_)) == 1)
 (Option.bind (loopO (fun s6 => slices_symMergeCmpFunc_daily_kink_b6 N data a_ s6.1 s6.2) N (m,b_)) fun x6 =>
 exK x6 (fun s6 => Option.bind (loopO (fun s9 => slices_symMergeCmpFunc_daily_kink_b9 N s6.1 s9.1 s9.2) N (data,a_)) fun x9 =>
 exK x9 (fun s9 => Option.bind (sameL s9.1 data) fun _ =>
 some s9.1) some) some)
 (cond ((W (b_ - m)) == 1)
 (Option.bind (loopO (fun s23 => slices_symMergeCmpFunc_daily_kink_b23 N data m s23.1 s23.2) N (a_,m)) fun x23 =>
 exK x23 (fun s23 => Option.bind (loopO (fun s26 => slices_symMergeCmpFunc_daily_kink_b26 N s23.1 s26.1 s26.2) N (data,m)) fun x26 =>
 exK x26 (fun s26 => Option.bind (sameL s26.1 data) fun _ =>
 some s26.1) some) some)
 (cond (decide ((W (((IntKind.u64.wrap (W (a_ + b_))) / 2))) < m))
 (slices_symMergeCmpFunc_daily_kink_j38 N (slices_symMergeCmpFunc_daily_kink N) data a_ m b_ (W ((W ((W (((IntKind.u64.wrap (W (a_ + b_))) / 2))) + m)) - b_)) (W (((IntKind.u64.wrap (W (a_ + b_))) / 2))))
 (slices_symMergeCmpFunc_daily_kink_j38 N (slices_symMergeCmpFunc_daily_kink N) data a_ m b_ a_ m)))
theorem slices_symMergeCmpFunc_daily_kink_ok {N : Nat} : ∀ {G : Pers} {Lf : List Ent} {w : World} (data : List daily_kink) (a_ : Int) (m : Int) (b_ : Int) {data_p : Option Addr} {data_c : Nat}  (hc : Ctx G (.rowo data_p data_c (data.map enc_daily_kink) 91 3::Lf) w) {res : (List daily_kink)} (hF : slices_symMergeCmpFunc_daily_kink N data a_ m b_ = some res),Calls Try.prog 84 #[.slice data_p data.length data_c,i6 a_,i6 m,i6 b_,.func (.func 41) #[] #[]] w (fun e w => e = .returned (.tuple #[]) ∧ res.length = data.length ∧ Ctx G (.rowo data_p data_c (res.map enc_daily_kink) 91 3::Lf) w) := by
 induction N with
 | zero =>
  intro G Lf w data a_ m b_ data_p data_c hc res hF
  exact noneO hF
 | succ N ih =>
 intro G Lf w data a_ m b_ data_p data_c hc res hF
 rw [slices_symMergeCmpFunc_daily_kink] at hF
 refine fnIn Try.func84 rfl Try.ntmps84 rfl fun a hf => wp_seq_k fun K1 h1 => zS fun K h => sp 4 hf rfl fun a hf => zT h ?_
 refine zI hf rfl hF ?_ ?_ <;> clear hF <;> intro hF
 ·refine zS fun K h => sp 2 hf rfl fun a hf => zT h ?_
  refine zS fun K h => sp 2 hf rfl fun a hf => zT h ?_
  refine wp_seq_k fun K5 h5 => wp_block ?_
  obtain ⟨x6,hx6,hF⟩ := bnd_some hF
  let S6 : (Int × Int) → Act → World → Prop := (fun (zz : Int × Int) a w => Has 220 a [(0,.slice data_p data.length data_c),(1,i6 a_),(4,.func (.func 41) #[] #[]),(10,i6 zz.1),(11,i6 zz.2)] ∧ Ctx G (.rowo data_p data_c (data.map enc_daily_kink) 91 3::Lf) w)
  have hr6 : ∀ (zz : Int × Int) a w,x6 = .go zz → S6 zz a w → K5 a w := by
   rintro ⟨i_1,j_1⟩ a w rfl ⟨hf,hc⟩
   replace hF := exK_go hF
   refine h5 _ _ ?_
   refine wp_seq_k fun K7 h7 => zS fun K h => sp 2 hf rfl fun a hf => zT h ?_
   refine wp_block ?_
   obtain ⟨x9,hx9,hF⟩ := bnd_some hF
   let S9 : ((List daily_kink) × Int) → Act → World → Prop := (fun (zz : (List daily_kink) × Int) a w => Has 220 a [(0,.slice data_p zz.1.length data_c),(10,i6 i_1),(13,i6 zz.2)] ∧ Ctx G (.rowo data_p data_c (zz.1.map enc_daily_kink) 91 3::Lf) w)
   have hr9 : ∀ (zz : (List daily_kink) × Int) a w,x9 = .go zz → S9 zz a w → K7 a w := by
    rintro ⟨data_0,k⟩ a w rfl ⟨hf,hc⟩
    replace hF := exK_go hF
    refine h7 _ _ ?_
    refine wp_ret ?_
    refine xThenR ?_
    obtain ⟨_,hl0,hF⟩ := same_len hF
    obtain rfl := sj hF
    exact fnOut0 (by simp) rfl Try.results84 hf ⟨rfl,hl0,hc⟩
   have ho9 : ∀ r,x9 = .out r → r = res := by
    rintro r rfl
    exact sj hF
   refine cLoop N (loopW (S := S9) (x := x9) ?_ N (data,a_) _ _ ⟨hf.kp rfl,hc⟩ hx9)
   clear hF hf hc
   rintro ⟨data_0,k⟩ st9 a w KB9 ⟨hf,hc⟩ hF hfin9 hK9
   unfold slices_symMergeCmpFunc_daily_kink_b9 at hF
   refine wp_seq_k fun K10 h10 => zS fun K h => sp 4 hf rfl fun a hf => zT h ?_
   refine zI hf rfl hF ?_ ?_ <;> clear hF <;> intro hF
   ·refine wp_skip ?_
    refine h10 _ _ ?_
    refine wp_seq_k fun K12 h12 => wp_block ?_
    obtain ⟨e_1,he_1,hF⟩ := bnd_some hF
    obtain ⟨g,og,rfl,qa,qr⟩ := row_atmO hc m0 he_1
    obtain ⟨e_2,he_2,hF⟩ := bnd_some hF
    obtain ⟨qa_1,qr_1⟩ := row_atkO hc m0 he_2
    obtain ⟨e_3,he_3,hF⟩ := bnd_some hF
    obtain ⟨qa_2,qr_2⟩ := row_atkO hc m0 he_3
    obtain ⟨e_4,he_4,hF⟩ := bnd_some hF
    obtain ⟨qa_3,qr_3⟩ := row_atkO hc m0 he_4
    refine regionE (fun θ => [⟨none,none,0,.slice (some ⟨g,og,none⟩) data_0.length data_c⟩,⟨none,none,10,i6 i_1⟩,⟨none,none,13,i6 k⟩,⟨some 0,none,61,.slice (some ⟨g,og,none⟩) data_0.length data_c⟩,⟨some 1,none,62,i6 k⟩,⟨some 2,none,63,.slice (some ⟨g,og,none⟩) data_0.length data_c⟩,⟨some 3,none,64,i6 k⟩,⟨some 4,none,65,i6 (W (k + 1))⟩,⟨some 5,none,66,.slice (some ⟨g,og,none⟩) data_0.length data_c⟩,⟨some 6,none,67,i6 k⟩,⟨some 7,none,68,i6 (W (k + 1))⟩,⟨some 8,none,69,.pointer (some ⟨g,og + (W (k + 1)).toNat * 3,none⟩)⟩,⟨some 9,none,70,.agg #[i6 e_1.value,i6 e_1.reading,i6 e_1.weight]⟩,⟨some 10,none,71,.slice (some ⟨g,og,none⟩) data_0.length data_c⟩,⟨some 11,none,72,i6 k⟩,⟨some 12,none,73,.pointer (some ⟨g,og + k.toNat * 3,none⟩)⟩,⟨some 13,none,74,.agg #[i6 e_2.value,i6 e_2.reading,i6 e_2.weight]⟩,⟨some 14,none,75,.pointer (some ⟨g,og + k.toNat * 3,none⟩)⟩,⟨some 16,none,76,.pointer (some ⟨g,og + (W (k + 1)).toNat * 3,none⟩)⟩]) (fun E θ => (bif E 17 then .rowo (some ⟨g,og,none⟩) data_c (((data_0.set k.toNat e_1).set (W (k + 1)).toNat e_2).map enc_daily_kink) 91 3 else bif E 15 then .rowo (some ⟨g,og,none⟩) data_c ((data_0.set k.toNat e_1).map enc_daily_kink) 91 3 else .rowo (some ⟨g,og,none⟩) data_c (data_0.map enc_daily_kink) 91 3)::Lf) [(15,8),(17,8),(15,9),(17,9),(13,12),(15,13),(17,12),(17,13),(15,14),(17,14),(17,15),(17,16)] (fun a w => Has 220 a [(0,.slice (some ⟨g,og,none⟩) data_0.length data_c),(10,i6 i_1),(13,i6 k)] ∧ Ctx G (.rowo (some ⟨g,og,none⟩) data_c (((data_0.set k.toNat e_1).set (W (k + 1)).toNat e_2).map enc_daily_kink) 91 3::Lf) w) follows_mx (by kernel_rfl) (by kernel_rfl) (HasE.of hf ⟨rfl,rfl,rfl,trivial,trivial,trivial,trivial,trivial,trivial,trivial,trivial,trivial,trivial,trivial,trivial,trivial,trivial,trivial,trivial,trivial⟩) hc ⟨?_,?_,?_,?_,?_,?_,?_,?_,?_,?_,?_,?_,?_,?_,?_,?_,?_,?_,trivial⟩ ?_ ?_
    ·intro E θ a w hD hi hp he hc
     have hf := he.h0.mT he 0 rfl
     refine sp 1 hf rfl fun a hf => zD θ he hi hf 3 rfl rfl rfl hc
    ·intro E θ a w hD hi hp he hc
     have hf := he.h0.mT he 2 rfl
     refine sp 1 hf rfl fun a hf => zD θ he hi hf 4 rfl rfl rfl hc
    ·intro E θ a w hD hi hp he hc
     have hf := he.h0.mT he 0 rfl
     refine sp 1 hf rfl fun a hf => zD θ he hi hf 5 rfl rfl rfl hc
    ·intro E θ a w hD hi hp he hc
     have hf := he.h0.mT he 2 rfl
     refine sp 1 hf rfl fun a hf => zD θ he hi hf 6 rfl rfl rfl hc
    ·intro E θ a w hD hi hp he hc
     have e3 := hp.o 3 rfl
     have hf := he.h0.mP he 6 rfl e3
     refine sp 1 hf rfl fun a hf => zD θ he hi hf 7 rfl rfl rfl hc
    ·intro E θ a w hD hi hp he hc
     have hf := he.h0.mT he 0 rfl
     refine sp 1 hf rfl fun a hf => zD θ he hi hf 8 rfl rfl rfl hc
    ·intro E θ a w hD hi hp he hc
     have hf := he.h0.mT he 2 rfl
     refine sp 1 hf rfl fun a hf => zD θ he hi hf 9 rfl rfl rfl hc
    ·intro E θ a w hD hi hp he hc
     have e6 := hp.o 6 rfl
     have hf := he.h0.mP he 9 rfl e6
     refine sp 1 hf rfl fun a hf => zD θ he hi hf 10 rfl rfl rfl hc
    ·intro E θ a w hD hi hp he hc
     have e5 := hp.o 5 rfl
     have e7 := hp.o 7 rfl
     have e15 := hD.f 0 rfl hi
     have e17 := hD.f 1 rfl hi
     try dsimp only at hc
     rw [e15,e17] at hc
     have hf := (he.h0.mP he 8 rfl e5).mP he 10 rfl e7
     refine zP hf rfl (pIA Try.underlying89 sz_91 rfl rfl qa) fun a hf => zD θ he hi hf 11 rfl rfl rfl ?_
     try dsimp only
     rw [updE_fls 8 e15 rfl,updE_fls 8 e17 rfl]
     exact hc
    ·intro E θ a w hD hi hp he hc
     have e8 := hp.o 8 rfl
     have e15 := hD.f 2 rfl hi
     have e17 := hD.f 3 rfl hi
     try dsimp only at hc
     rw [e15,e17] at hc
     have hf := he.h0.mP he 11 rfl e8
     refine zE hf hc rfl (eLdN (vs := [i6 e_1.value,i6 e_1.reading,i6 e_1.weight]) ag_91 rfl rfl (cells_rwO (sz := 3) (i := (W (k + 1)).toNat) m0 qr (n := 3) (o' := 0) rfl)) fun a w hf hc => zD θ he hi hf 12 rfl rfl rfl ?_
     try dsimp only
     rw [updE_fls 9 e15 rfl,updE_fls 9 e17 rfl]
     exact hc
    ·intro E θ a w hD hi hp he hc
     have hf := he.h0.mT he 0 rfl
     refine sp 1 hf rfl fun a hf => zD θ he hi hf 13 rfl rfl rfl hc
    ·intro E θ a w hD hi hp he hc
     have hf := he.h0.mT he 2 rfl
     refine sp 1 hf rfl fun a hf => zD θ he hi hf 14 rfl rfl rfl hc
    ·intro E θ a w hD hi hp he hc
     have e10 := hp.o 10 rfl
     have e11 := hp.o 11 rfl
     have e13 := hD.f 4 rfl hi
     have e15 := hD.f 5 rfl e13
     have e17 := hD.f 6 rfl hi
     try dsimp only at hc
     rw [e15,e17] at hc
     have hf := (he.h0.mP he 13 rfl e10).mP he 14 rfl e11
     refine zP hf rfl (pIA Try.underlying89 sz_91 rfl rfl qa_1) fun a hf => zD θ he hi hf 15 rfl rfl rfl ?_
     try dsimp only
     rw [updE_fls 12 e15 rfl,updE_fls 12 e17 rfl]
     exact hc
    ·intro E θ a w hD hi hp he hc
     have e12 := hp.o 12 rfl
     have e15 := hD.f 5 rfl hi
     have e17 := hD.f 7 rfl hi
     try dsimp only at hc
     rw [e15,e17] at hc
     have hf := he.h0.mP he 15 rfl e12
     refine zE hf hc rfl (eLdN (vs := [i6 e_2.value,i6 e_2.reading,i6 e_2.weight]) ag_91 rfl rfl (cells_rwO (sz := 3) (i := k.toNat) m0 qr_1 (n := 3) (o' := 0) rfl)) fun a w hf hc => zD θ he hi hf 16 rfl rfl rfl ?_
     try dsimp only
     rw [updE_fls 13 e15 rfl,updE_fls 13 e17 rfl]
     exact hc
    ·intro E θ a w hD hi hp he hc
     have e0 := hp.o 0 rfl
     have e1 := hp.o 1 rfl
     have e15 := hD.f 8 rfl hi
     have e17 := hD.f 9 rfl hi
     try dsimp only at hc
     rw [e15,e17] at hc
     have hf := (he.h0.mP he 3 rfl e0).mP he 4 rfl e1
     refine zP hf rfl (pIA Try.underlying89 sz_91 rfl rfl qa_2) fun a hf => zD θ he hi hf 17 rfl rfl rfl ?_
     try dsimp only
     rw [updE_fls 14 e15 rfl,updE_fls 14 e17 rfl]
     exact hc
    ·intro E θ a w hD hi hp he hc
     have e9 := hp.o 9 rfl
     have e14 := hp.o 14 rfl
     have e17 := hD.f 10 rfl hi
     try dsimp only at hc
     rw [hi,e17] at hc
     have hf := (he.h0.mP he 12 rfl e9).mP he 17 rfl e14
     refine stRwO (sz := 3) (vs := [i6 e_1.value,i6 e_1.reading,i6 e_1.weight]) (o' := 0) (z := e_1) (xs := data_0) hf hc rfl rfl rfl rfl sz_91 rfl (fun x => (one_enc_daily_kink x).1) (getI_lt he_3) (fun _ _ => rfl) rfl u0 fun w hc => zG θ he hi hf rfl ?_
     try dsimp only
     rw [updE_self E 15,updE_fls 15 e17 rfl]
     exact hc
    ·intro E θ a w hD hi hp he hc
     have e2 := hp.o 2 rfl
     have e4 := hp.o 4 rfl
     have e15 := hp.o 15 rfl
     have e17 := hD.f 11 rfl hi
     try dsimp only at hc
     rw [e15,e17] at hc
     have hf := (he.h0.mP he 5 rfl e2).mP he 7 rfl e4
     refine zP hf rfl (pIA Try.underlying89 sz_91 rfl rfl qa_3) fun a hf => zD θ he hi hf 18 rfl rfl rfl ?_
     try dsimp only
     rw [updE_tru 16 e15,updE_fls 16 e17 rfl]
     exact hc
    ·intro E θ a w hD hi hp he hc
     have e13 := hp.o 13 rfl
     have e16 := hp.o 16 rfl
     have e15 := hp.o 15 rfl
     try dsimp only at hc
     rw [e15,hi] at hc
     have hf := (he.h0.mP he 16 rfl e13).mP he 18 rfl e16
     refine stRwO (sz := 3) (vs := [i6 e_2.value,i6 e_2.reading,i6 e_2.weight]) (o' := 0) (z := e_2) (xs := (data_0.set k.toNat e_1)) hf hc rfl rfl rfl rfl sz_91 rfl (fun x => (one_enc_daily_kink x).1) (by simpa using getI_lt he_4) (fun _ _ => rfl) rfl u0 fun w hc => zG θ he hi hf rfl ?_
     try dsimp only
     rw [updE_tru 17 e15,updE_self E 17]
     exact hc
    ·intro E θ a w hall he hc
     have hf := he.h0
     have e15 := hall 15 rfl
     have e17 := hall 17 rfl
     replace hf := hf.more he 2 rfl (onT)
     replace hf := hf.more he 1 rfl (onT)
     replace hf := hf.more he 0 rfl (onT)
     try dsimp only at hc
     rw [e15,e17] at hc
     exact ⟨hf.kp rfl,hc⟩
    rintro a w ⟨hf,hc⟩
    refine h12 _ _ ?_
    refine cReg ?_
    refine sp 3 hf rfl fun a hf => cNil ?_
    replace hf := hf.castAt 0 (v' := .slice (some ⟨g,og,none⟩) (((data_0.set k.toNat e_1).set (W (k + 1)).toNat e_2).length) data_c) rfl (congrArg (fun k => Value.slice (some ⟨g,og,none⟩) k data_c) (by simp))
    exact hK9 (((data_0.set k.toNat e_1).set (W (k + 1)).toNat e_2),W (k + 1)) _ _ (sj hF).symm ⟨hf.kp rfl,hc⟩
   ·refine wp_exit ?_
    refine xThen ?_
    refine xThen ?_
    have he := sj hF
    rw [← he] at hfin9
    refine cHit ?_
    exact hr9 _ _ _ hfin9 ⟨hf.kp rfl,hc⟩
  have ho6 : ∀ r,x6 = .out r → r = res := by
   rintro r rfl
   exact sj hF
  refine cLoop N (loopW (S := S6) (x := x6) ?_ N (m,b_) _ _ ⟨hf.kp rfl,hc⟩ hx6)
  clear hF hf hc
  rintro ⟨i_1,j_1⟩ st6 a w KB6 ⟨hf,hc⟩ hF hfin6 hK6
  unfold slices_symMergeCmpFunc_daily_kink_b6 at hF
  refine wp_seq_k fun K13 h13 => zS fun K h => sp 3 hf rfl fun a hf => zT h ?_
  refine zI hf rfl hF ?_ ?_ <;> clear hF <;> intro hF
  ·refine wp_skip ?_
   refine h13 _ _ ?_
   refine wp_thenK fun K15 h15 => wp_block ?_
   refine zS fun K h => sp 3 hf rfl fun a hf => zP hf rfl (pCv Try.underlying3 Try.underlying88 rfl) fun a hf => zP hf rfl (pShr1 rfl rfl) fun a hf => zP hf rfl (pCv Try.underlying88 Try.underlying3 rfl) fun a hf => sp 1 hf rfl fun a hf => zT h ?_
   refine wp_seq_k fun K17 h17 => ?_
   obtain ⟨e_5,he_5,hF⟩ := bnd_some hF
   obtain ⟨g_1,og_1,rfl,qa_4,qr_4⟩ := row_atmO hc m0 he_5
   obtain ⟨e_6,he_6,hF⟩ := bnd_some hF
   obtain ⟨qa_5,qr_5⟩ := row_atkO hc m0 he_6
   refine cQ hc follows_mx (by kernel_rfl) ?_
   refine qE hf rfl rfl rfl (Pu.ev (pM rfl)) fun a hf => qE hf rfl rfl rfl (Pu.ev (pM rfl)) fun a hf => qE hf rfl rfl rfl (Pu.ev (pM rfl)) fun a hf => qE hf rfl rfl rfl (Pu.ev (pIA Try.underlying89 sz_91 rfl rfl qa_4)) fun a hf => qE hf rfl rfl rfl (eLdN (vs := [i6 e_5.value,i6 e_5.reading,i6 e_5.weight]) ag_91 rfl rfl (cells_rwO (sz := 3) (i := (W (((IntKind.u64.wrap (W (i_1 + j_1))) / 2))).toNat) m0 qr_4 (n := 3) (o' := 0) rfl)) fun a hf => qE hf rfl rfl rfl (Pu.ev (pM rfl)) fun a hf => qE hf rfl rfl rfl (Pu.ev (pM rfl)) fun a hf => qE hf rfl rfl rfl (Pu.ev (pIA Try.underlying89 sz_91 rfl rfl qa_5)) fun a hf => qE hf rfl rfl rfl (eLdN (vs := [i6 e_6.value,i6 e_6.reading,i6 e_6.weight]) ag_91 rfl rfl (cells_rwO (sz := 3) (i := a_.toNat) m0 qr_5 (n := 3) (o' := 0) rfl)) fun a hf => qE hf rfl rfl rfl (eC (v := i6 (daily_nets_1 e_5 e_6)) (vs := [.agg #[i6 e_5.value,i6 e_5.reading,i6 e_5.weight],.agg #[i6 e_6.value,i6 e_6.reading,i6 e_6.weight]]) (caps := []) en_41 rfl rfl rfl rfl (fun w hc => daily_nets_1_ok e_5 e_6 hc rfl)) fun a hf => qE hf rfl rfl rfl (Pu.ev (pLt rfl rfl)) fun a hf => ?_
   intro w hc
   refine h17 _ _ ?_
   refine zI hf rfl hF ?_ ?_ <;> clear hF <;> intro hF
   ·refine cReg ?_
    refine sp 3 hf rfl fun a hf => cNil ?_
    refine h15 _ _ ?_
    exact hK6 (W ((W (((IntKind.u64.wrap (W (i_1 + j_1))) / 2))) + 1),j_1) _ _ (sj hF).symm ⟨hf.kp rfl,hc⟩
   ·refine cReg ?_
    refine sp 2 hf rfl fun a hf => cNil ?_
    refine h15 _ _ ?_
    exact hK6 (i_1,W (((IntKind.u64.wrap (W (i_1 + j_1))) / 2))) _ _ (sj hF).symm ⟨hf.kp rfl,hc⟩
  ·refine wp_exit ?_
   refine xThen ?_
   refine xThen ?_
   have he := sj hF
   rw [← he] at hfin6
   refine cHit ?_
   exact hr6 _ _ _ hfin6 ⟨hf.kp rfl,hc⟩
 ·refine wp_skip ?_
  refine h1 _ _ ?_
  refine wp_seq_k fun K18 h18 => zS fun K h => sp 4 hf rfl fun a hf => zT h ?_
  refine zI hf rfl hF ?_ ?_ <;> clear hF <;> intro hF
  ·refine zS fun K h => sp 2 hf rfl fun a hf => zT h ?_
   refine zS fun K h => sp 2 hf rfl fun a hf => zT h ?_
   refine wp_seq_k fun K22 h22 => wp_block ?_
   obtain ⟨x23,hx23,hF⟩ := bnd_some hF
   let S23 : (Int × Int) → Act → World → Prop := (fun (zz : Int × Int) a w => Has 220 a [(0,.slice data_p data.length data_c),(2,i6 m),(4,.func (.func 41) #[] #[]),(14,i6 zz.1),(15,i6 zz.2)] ∧ Ctx G (.rowo data_p data_c (data.map enc_daily_kink) 91 3::Lf) w)
   have hr23 : ∀ (zz : Int × Int) a w,x23 = .go zz → S23 zz a w → K22 a w := by
    rintro ⟨i_2,j_2⟩ a w rfl ⟨hf,hc⟩
    replace hF := exK_go hF
    refine h22 _ _ ?_
    refine wp_seq_k fun K24 h24 => zS fun K h => sp 2 hf rfl fun a hf => zT h ?_
    refine wp_block ?_
    obtain ⟨x26,hx26,hF⟩ := bnd_some hF
    let S26 : ((List daily_kink) × Int) → Act → World → Prop := (fun (zz : (List daily_kink) × Int) a w => Has 220 a [(0,.slice data_p zz.1.length data_c),(14,i6 i_2),(17,i6 zz.2)] ∧ Ctx G (.rowo data_p data_c (zz.1.map enc_daily_kink) 91 3::Lf) w)
    have hr26 : ∀ (zz : (List daily_kink) × Int) a w,x26 = .go zz → S26 zz a w → K24 a w := by
     rintro ⟨data_1,k_1⟩ a w rfl ⟨hf,hc⟩
     replace hF := exK_go hF
     refine h24 _ _ ?_
     refine wp_ret ?_
     refine xThenR ?_
     obtain ⟨_,hl0,hF⟩ := same_len hF
     obtain rfl := sj hF
     exact fnOut0 (by simp) rfl Try.results84 hf ⟨rfl,hl0,hc⟩
    have ho26 : ∀ r,x26 = .out r → r = res := by
     rintro r rfl
     exact sj hF
    refine cLoop N (loopW (S := S26) (x := x26) ?_ N (data,m) _ _ ⟨hf.kp rfl,hc⟩ hx26)
    clear hF hf hc
    rintro ⟨data_1,k_1⟩ st26 a w KB26 ⟨hf,hc⟩ hF hfin26 hK26
    unfold slices_symMergeCmpFunc_daily_kink_b26 at hF
    refine wp_seq_k fun K27 h27 => zS fun K h => sp 3 hf rfl fun a hf => zT h ?_
    refine zI hf rfl hF ?_ ?_ <;> clear hF <;> intro hF
    ·refine wp_skip ?_
     refine h27 _ _ ?_
     refine wp_seq_k fun K29 h29 => wp_block ?_
     obtain ⟨e_7,he_7,hF⟩ := bnd_some hF
     obtain ⟨g_2,og_2,rfl,qa_6,qr_6⟩ := row_atmO hc m0 he_7
     obtain ⟨e_8,he_8,hF⟩ := bnd_some hF
     obtain ⟨qa_7,qr_7⟩ := row_atkO hc m0 he_8
     obtain ⟨e_9,he_9,hF⟩ := bnd_some hF
     obtain ⟨qa_8,qr_8⟩ := row_atkO hc m0 he_9
     obtain ⟨e_10,he_10,hF⟩ := bnd_some hF
     obtain ⟨qa_9,qr_9⟩ := row_atkO hc m0 he_10
     refine regionE (fun θ => [⟨none,none,0,.slice (some ⟨g_2,og_2,none⟩) data_1.length data_c⟩,⟨none,none,14,i6 i_2⟩,⟨none,none,17,i6 k_1⟩,⟨some 0,none,113,.slice (some ⟨g_2,og_2,none⟩) data_1.length data_c⟩,⟨some 1,none,114,i6 k_1⟩,⟨some 2,none,115,.slice (some ⟨g_2,og_2,none⟩) data_1.length data_c⟩,⟨some 3,none,116,i6 k_1⟩,⟨some 4,none,117,i6 (W (k_1 - 1))⟩,⟨some 5,none,118,.slice (some ⟨g_2,og_2,none⟩) data_1.length data_c⟩,⟨some 6,none,119,i6 k_1⟩,⟨some 7,none,120,i6 (W (k_1 - 1))⟩,⟨some 8,none,121,.pointer (some ⟨g_2,og_2 + (W (k_1 - 1)).toNat * 3,none⟩)⟩,⟨some 9,none,122,.agg #[i6 e_7.value,i6 e_7.reading,i6 e_7.weight]⟩,⟨some 10,none,123,.slice (some ⟨g_2,og_2,none⟩) data_1.length data_c⟩,⟨some 11,none,124,i6 k_1⟩,⟨some 12,none,125,.pointer (some ⟨g_2,og_2 + k_1.toNat * 3,none⟩)⟩,⟨some 13,none,126,.agg #[i6 e_8.value,i6 e_8.reading,i6 e_8.weight]⟩,⟨some 14,none,127,.pointer (some ⟨g_2,og_2 + k_1.toNat * 3,none⟩)⟩,⟨some 16,none,128,.pointer (some ⟨g_2,og_2 + (W (k_1 - 1)).toNat * 3,none⟩)⟩]) (fun E θ => (bif E 17 then .rowo (some ⟨g_2,og_2,none⟩) data_c (((data_1.set k_1.toNat e_7).set (W (k_1 - 1)).toNat e_8).map enc_daily_kink) 91 3 else bif E 15 then .rowo (some ⟨g_2,og_2,none⟩) data_c ((data_1.set k_1.toNat e_7).map enc_daily_kink) 91 3 else .rowo (some ⟨g_2,og_2,none⟩) data_c (data_1.map enc_daily_kink) 91 3)::Lf) [(15,8),(17,8),(15,9),(17,9),(13,12),(15,13),(17,12),(17,13),(15,14),(17,14),(17,15),(17,16)] (fun a w => Has 220 a [(0,.slice (some ⟨g_2,og_2,none⟩) data_1.length data_c),(14,i6 i_2),(17,i6 k_1)] ∧ Ctx G (.rowo (some ⟨g_2,og_2,none⟩) data_c (((data_1.set k_1.toNat e_7).set (W (k_1 - 1)).toNat e_8).map enc_daily_kink) 91 3::Lf) w) follows_mx (by kernel_rfl) (by kernel_rfl) (HasE.of hf ⟨rfl,rfl,rfl,trivial,trivial,trivial,trivial,trivial,trivial,trivial,trivial,trivial,trivial,trivial,trivial,trivial,trivial,trivial,trivial,trivial⟩) hc ⟨?_,?_,?_,?_,?_,?_,?_,?_,?_,?_,?_,?_,?_,?_,?_,?_,?_,?_,trivial⟩ ?_ ?_
     ·intro E θ a w hD hi hp he hc
      have hf := he.h0.mT he 0 rfl
      refine sp 1 hf rfl fun a hf => zD θ he hi hf 3 rfl rfl rfl hc
     ·intro E θ a w hD hi hp he hc
      have hf := he.h0.mT he 2 rfl
      refine sp 1 hf rfl fun a hf => zD θ he hi hf 4 rfl rfl rfl hc
     ·intro E θ a w hD hi hp he hc
      have hf := he.h0.mT he 0 rfl
      refine sp 1 hf rfl fun a hf => zD θ he hi hf 5 rfl rfl rfl hc
     ·intro E θ a w hD hi hp he hc
      have hf := he.h0.mT he 2 rfl
      refine sp 1 hf rfl fun a hf => zD θ he hi hf 6 rfl rfl rfl hc
     ·intro E θ a w hD hi hp he hc
      have e3 := hp.o 3 rfl
      have hf := he.h0.mP he 6 rfl e3
      refine sp 1 hf rfl fun a hf => zD θ he hi hf 7 rfl rfl rfl hc
     ·intro E θ a w hD hi hp he hc
      have hf := he.h0.mT he 0 rfl
      refine sp 1 hf rfl fun a hf => zD θ he hi hf 8 rfl rfl rfl hc
     ·intro E θ a w hD hi hp he hc
      have hf := he.h0.mT he 2 rfl
      refine sp 1 hf rfl fun a hf => zD θ he hi hf 9 rfl rfl rfl hc
     ·intro E θ a w hD hi hp he hc
      have e6 := hp.o 6 rfl
      have hf := he.h0.mP he 9 rfl e6
      refine sp 1 hf rfl fun a hf => zD θ he hi hf 10 rfl rfl rfl hc
     ·intro E θ a w hD hi hp he hc
      have e5 := hp.o 5 rfl
      have e7 := hp.o 7 rfl
      have e15 := hD.f 0 rfl hi
      have e17 := hD.f 1 rfl hi
      try dsimp only at hc
      rw [e15,e17] at hc
      have hf := (he.h0.mP he 8 rfl e5).mP he 10 rfl e7
      refine zP hf rfl (pIA Try.underlying89 sz_91 rfl rfl qa_6) fun a hf => zD θ he hi hf 11 rfl rfl rfl ?_
      try dsimp only
      rw [updE_fls 8 e15 rfl,updE_fls 8 e17 rfl]
      exact hc
     ·intro E θ a w hD hi hp he hc
      have e8 := hp.o 8 rfl
      have e15 := hD.f 2 rfl hi
      have e17 := hD.f 3 rfl hi
      try dsimp only at hc
      rw [e15,e17] at hc
      have hf := he.h0.mP he 11 rfl e8
      refine zE hf hc rfl (eLdN (vs := [i6 e_7.value,i6 e_7.reading,i6 e_7.weight]) ag_91 rfl rfl (cells_rwO (sz := 3) (i := (W (k_1 - 1)).toNat) m0 qr_6 (n := 3) (o' := 0) rfl)) fun a w hf hc => zD θ he hi hf 12 rfl rfl rfl ?_
      try dsimp only
      rw [updE_fls 9 e15 rfl,updE_fls 9 e17 rfl]
      exact hc
     ·intro E θ a w hD hi hp he hc
      have hf := he.h0.mT he 0 rfl
      refine sp 1 hf rfl fun a hf => zD θ he hi hf 13 rfl rfl rfl hc
     ·intro E θ a w hD hi hp he hc
      have hf := he.h0.mT he 2 rfl
      refine sp 1 hf rfl fun a hf => zD θ he hi hf 14 rfl rfl rfl hc
     ·intro E θ a w hD hi hp he hc
      have e10 := hp.o 10 rfl
      have e11 := hp.o 11 rfl
      have e13 := hD.f 4 rfl hi
      have e15 := hD.f 5 rfl e13
      have e17 := hD.f 6 rfl hi
      try dsimp only at hc
      rw [e15,e17] at hc
      have hf := (he.h0.mP he 13 rfl e10).mP he 14 rfl e11
      refine zP hf rfl (pIA Try.underlying89 sz_91 rfl rfl qa_7) fun a hf => zD θ he hi hf 15 rfl rfl rfl ?_
      try dsimp only
      rw [updE_fls 12 e15 rfl,updE_fls 12 e17 rfl]
      exact hc
     ·intro E θ a w hD hi hp he hc
      have e12 := hp.o 12 rfl
      have e15 := hD.f 5 rfl hi
      have e17 := hD.f 7 rfl hi
      try dsimp only at hc
      rw [e15,e17] at hc
      have hf := he.h0.mP he 15 rfl e12
      refine zE hf hc rfl (eLdN (vs := [i6 e_8.value,i6 e_8.reading,i6 e_8.weight]) ag_91 rfl rfl (cells_rwO (sz := 3) (i := k_1.toNat) m0 qr_7 (n := 3) (o' := 0) rfl)) fun a w hf hc => zD θ he hi hf 16 rfl rfl rfl ?_
      try dsimp only
      rw [updE_fls 13 e15 rfl,updE_fls 13 e17 rfl]
      exact hc
     ·intro E θ a w hD hi hp he hc
      have e0 := hp.o 0 rfl
      have e1 := hp.o 1 rfl
      have e15 := hD.f 8 rfl hi
      have e17 := hD.f 9 rfl hi
      try dsimp only at hc
      rw [e15,e17] at hc
      have hf := (he.h0.mP he 3 rfl e0).mP he 4 rfl e1
      refine zP hf rfl (pIA Try.underlying89 sz_91 rfl rfl qa_8) fun a hf => zD θ he hi hf 17 rfl rfl rfl ?_
      try dsimp only
      rw [updE_fls 14 e15 rfl,updE_fls 14 e17 rfl]
      exact hc
     ·intro E θ a w hD hi hp he hc
      have e9 := hp.o 9 rfl
      have e14 := hp.o 14 rfl
      have e17 := hD.f 10 rfl hi
      try dsimp only at hc
      rw [hi,e17] at hc
      have hf := (he.h0.mP he 12 rfl e9).mP he 17 rfl e14
      refine stRwO (sz := 3) (vs := [i6 e_7.value,i6 e_7.reading,i6 e_7.weight]) (o' := 0) (z := e_7) (xs := data_1) hf hc rfl rfl rfl rfl sz_91 rfl (fun x => (one_enc_daily_kink x).1) (getI_lt he_9) (fun _ _ => rfl) rfl u0 fun w hc => zG θ he hi hf rfl ?_
      try dsimp only
      rw [updE_self E 15,updE_fls 15 e17 rfl]
      exact hc
     ·intro E θ a w hD hi hp he hc
      have e2 := hp.o 2 rfl
      have e4 := hp.o 4 rfl
      have e15 := hp.o 15 rfl
      have e17 := hD.f 11 rfl hi
      try dsimp only at hc
      rw [e15,e17] at hc
      have hf := (he.h0.mP he 5 rfl e2).mP he 7 rfl e4
      refine zP hf rfl (pIA Try.underlying89 sz_91 rfl rfl qa_9) fun a hf => zD θ he hi hf 18 rfl rfl rfl ?_
      try dsimp only
      rw [updE_tru 16 e15,updE_fls 16 e17 rfl]
      exact hc
     ·intro E θ a w hD hi hp he hc
      have e13 := hp.o 13 rfl
      have e16 := hp.o 16 rfl
      have e15 := hp.o 15 rfl
      try dsimp only at hc
      rw [e15,hi] at hc
      have hf := (he.h0.mP he 16 rfl e13).mP he 18 rfl e16
      refine stRwO (sz := 3) (vs := [i6 e_8.value,i6 e_8.reading,i6 e_8.weight]) (o' := 0) (z := e_8) (xs := (data_1.set k_1.toNat e_7)) hf hc rfl rfl rfl rfl sz_91 rfl (fun x => (one_enc_daily_kink x).1) (by simpa using getI_lt he_10) (fun _ _ => rfl) rfl u0 fun w hc => zG θ he hi hf rfl ?_
      try dsimp only
      rw [updE_tru 17 e15,updE_self E 17]
      exact hc
     ·intro E θ a w hall he hc
      have hf := he.h0
      have e15 := hall 15 rfl
      have e17 := hall 17 rfl
      replace hf := hf.more he 2 rfl (onT)
      replace hf := hf.more he 1 rfl (onT)
      replace hf := hf.more he 0 rfl (onT)
      try dsimp only at hc
      rw [e15,e17] at hc
      exact ⟨hf.kp rfl,hc⟩
     rintro a w ⟨hf,hc⟩
     refine h29 _ _ ?_
     refine cReg ?_
     refine sp 3 hf rfl fun a hf => cNil ?_
     replace hf := hf.castAt 0 (v' := .slice (some ⟨g_2,og_2,none⟩) (((data_1.set k_1.toNat e_7).set (W (k_1 - 1)).toNat e_8).length) data_c) rfl (congrArg (fun k => Value.slice (some ⟨g_2,og_2,none⟩) k data_c) (by simp))
     exact hK26 (((data_1.set k_1.toNat e_7).set (W (k_1 - 1)).toNat e_8),W (k_1 - 1)) _ _ (sj hF).symm ⟨hf.kp rfl,hc⟩
    ·refine wp_exit ?_
     refine xThen ?_
     refine xThen ?_
     have he := sj hF
     rw [← he] at hfin26
     refine cHit ?_
     exact hr26 _ _ _ hfin26 ⟨hf.kp rfl,hc⟩
   have ho23 : ∀ r,x23 = .out r → r = res := by
    rintro r rfl
    exact sj hF
   refine cLoop N (loopW (S := S23) (x := x23) ?_ N (a_,m) _ _ ⟨hf.kp rfl,hc⟩ hx23)
   clear hF hf hc
   rintro ⟨i_2,j_2⟩ st23 a w KB23 ⟨hf,hc⟩ hF hfin23 hK23
   unfold slices_symMergeCmpFunc_daily_kink_b23 at hF
   refine wp_seq_k fun K30 h30 => zS fun K h => sp 3 hf rfl fun a hf => zT h ?_
   refine zI hf rfl hF ?_ ?_ <;> clear hF <;> intro hF
   ·refine wp_skip ?_
    refine h30 _ _ ?_
    refine wp_thenK fun K32 h32 => wp_block ?_
    refine zS fun K h => sp 3 hf rfl fun a hf => zP hf rfl (pCv Try.underlying3 Try.underlying88 rfl) fun a hf => zP hf rfl (pShr1 rfl rfl) fun a hf => zP hf rfl (pCv Try.underlying88 Try.underlying3 rfl) fun a hf => sp 1 hf rfl fun a hf => zT h ?_
    refine wp_seq_k fun K34 h34 => ?_
    obtain ⟨e_11,he_11,hF⟩ := bnd_some hF
    obtain ⟨g_3,og_3,rfl,qa_10,qr_10⟩ := row_atmO hc m0 he_11
    obtain ⟨e_12,he_12,hF⟩ := bnd_some hF
    obtain ⟨qa_11,qr_11⟩ := row_atkO hc m0 he_12
    refine cQ hc follows_mx (by kernel_rfl) ?_
    refine qE hf rfl rfl rfl (Pu.ev (pM rfl)) fun a hf => qE hf rfl rfl rfl (Pu.ev (pM rfl)) fun a hf => qE hf rfl rfl rfl (Pu.ev (pM rfl)) fun a hf => qE hf rfl rfl rfl (Pu.ev (pIA Try.underlying89 sz_91 rfl rfl qa_10)) fun a hf => qE hf rfl rfl rfl (eLdN (vs := [i6 e_11.value,i6 e_11.reading,i6 e_11.weight]) ag_91 rfl rfl (cells_rwO (sz := 3) (i := m.toNat) m0 qr_10 (n := 3) (o' := 0) rfl)) fun a hf => qE hf rfl rfl rfl (Pu.ev (pM rfl)) fun a hf => qE hf rfl rfl rfl (Pu.ev (pM rfl)) fun a hf => qE hf rfl rfl rfl (Pu.ev (pIA Try.underlying89 sz_91 rfl rfl qa_11)) fun a hf => qE hf rfl rfl rfl (eLdN (vs := [i6 e_12.value,i6 e_12.reading,i6 e_12.weight]) ag_91 rfl rfl (cells_rwO (sz := 3) (i := (W (((IntKind.u64.wrap (W (i_2 + j_2))) / 2))).toNat) m0 qr_11 (n := 3) (o' := 0) rfl)) fun a hf => qE hf rfl rfl rfl (eC (v := i6 (daily_nets_1 e_11 e_12)) (vs := [.agg #[i6 e_11.value,i6 e_11.reading,i6 e_11.weight],.agg #[i6 e_12.value,i6 e_12.reading,i6 e_12.weight]]) (caps := []) en_41 rfl rfl rfl rfl (fun w hc => daily_nets_1_ok e_11 e_12 hc rfl)) fun a hf => qE hf rfl rfl rfl (Pu.ev (pLt rfl rfl)) fun a hf => qE hf rfl rfl rfl (Pu.ev (pNot rfl)) fun a hf => ?_
    intro w hc
    refine h34 _ _ ?_
    refine zI hf rfl hF ?_ ?_ <;> clear hF <;> intro hF
    ·refine cReg ?_
     refine sp 3 hf rfl fun a hf => cNil ?_
     refine h32 _ _ ?_
     exact hK23 (W ((W (((IntKind.u64.wrap (W (i_2 + j_2))) / 2))) + 1),j_2) _ _ (sj hF).symm ⟨hf.kp rfl,hc⟩
    ·refine cReg ?_
     refine sp 2 hf rfl fun a hf => cNil ?_
     refine h32 _ _ ?_
     exact hK23 (i_2,W (((IntKind.u64.wrap (W (i_2 + j_2))) / 2))) _ _ (sj hF).symm ⟨hf.kp rfl,hc⟩
   ·refine wp_exit ?_
    refine xThen ?_
    refine xThen ?_
    have he := sj hF
    rw [← he] at hfin23
    refine cHit ?_
    exact hr23 _ _ _ hfin23 ⟨hf.kp rfl,hc⟩
  ·refine wp_skip ?_
   refine h18 _ _ ?_
   refine zS fun K h => sp 3 hf rfl fun a hf => zP hf rfl (pCv Try.underlying3 Try.underlying88 rfl) fun a hf => zP hf rfl (pShr1 rfl rfl) fun a hf => zP hf rfl (pCv Try.underlying88 Try.underlying3 rfl) fun a hf => sp 1 hf rfl fun a hf => zT h ?_
   refine zS fun K h => sp 4 hf rfl fun a hf => zT h ?_
   refine zS fun K h => sp 2 hf rfl fun a hf => zT h ?_
   refine wp_seq_k fun K38 h38 => ?_
   have hj38 : ∀ (start : Int) (r : Int) a w,Has 220 a [(0,.slice data_p data.length data_c),(1,i6 a_),(2,i6 m),(3,i6 b_),(4,.func (.func 41) #[] #[]),(18,i6 (W (((IntKind.u64.wrap (W (a_ + b_))) / 2)))),(19,i6 (W ((W (((IntKind.u64.wrap (W (a_ + b_))) / 2))) + m))),(20,i6 start),(21,i6 r)] → Ctx G (.rowo data_p data_c (data.map enc_daily_kink) 91 3::Lf) w → slices_symMergeCmpFunc_daily_kink_j38 N (slices_symMergeCmpFunc_daily_kink N) data a_ m b_ start r = some res → K38 a w := by
    repeat (clear hF)
    repeat (clear hc)
    repeat (clear hf)
    intro start r a w hf hc hF
    unfold slices_symMergeCmpFunc_daily_kink_j38 at hF
    refine h38 _ _ ?_
    refine zS fun K h => sp 3 hf rfl fun a hf => zT h ?_
    refine wp_seq_k fun K40 h40 => wp_block ?_
    obtain ⟨x41,hx41,hF⟩ := bnd_some hF
    let S41 : (Int × Int) → Act → World → Prop := (fun (zz : Int × Int) a w => Has 220 a [(0,.slice data_p data.length data_c),(1,i6 a_),(2,i6 m),(3,i6 b_),(4,.func (.func 41) #[] #[]),(18,i6 (W (((IntKind.u64.wrap (W (a_ + b_))) / 2)))),(19,i6 (W ((W (((IntKind.u64.wrap (W (a_ + b_))) / 2))) + m))),(20,i6 zz.1),(21,i6 zz.2),(22,i6 (W ((W ((W (((IntKind.u64.wrap (W (a_ + b_))) / 2))) + m)) - 1)))] ∧ Ctx G (.rowo data_p data_c (data.map enc_daily_kink) 91 3::Lf) w)
    have hr41 : ∀ (zz : Int × Int) a w,x41 = .go zz → S41 zz a w → K40 a w := by
     rintro ⟨start_1,r_1⟩ a w rfl ⟨hf,hc⟩
     replace hF := exK_go hF
     refine h40 _ _ ?_
     refine zS fun K h => sp 4 hf rfl fun a hf => zT h ?_
     refine wp_seq_k fun K43 h43 => ?_
     have hj43 : ∀ (data_2 : List daily_kink) a w,Has 220 a [(0,.slice data_p data_2.length data_c),(1,i6 a_),(3,i6 b_),(4,.func (.func 41) #[] #[]),(18,i6 (W (((IntKind.u64.wrap (W (a_ + b_))) / 2)))),(20,i6 start_1),(24,i6 (W ((W ((W (((IntKind.u64.wrap (W (a_ + b_))) / 2))) + m)) - start_1)))] → Ctx G (.rowo data_p data_c (data_2.map enc_daily_kink) 91 3::Lf) w → slices_symMergeCmpFunc_daily_kink_j43 N (slices_symMergeCmpFunc_daily_kink N) data a_ m b_ start_1 data_2 = some res → K43 a w := by
      repeat (clear hF)
      repeat (clear hc)
      repeat (clear hf)
      intro data_2 a w hf hc hF
      unfold slices_symMergeCmpFunc_daily_kink_j43 at hF
      refine h43 _ _ ?_
      refine wp_seq_k fun K44 h44 => ?_
      have hj44 : ∀ (data_3 : List daily_kink) a w,Has 220 a [(0,.slice data_p data_3.length data_c),(3,i6 b_),(4,.func (.func 41) #[] #[]),(18,i6 (W (((IntKind.u64.wrap (W (a_ + b_))) / 2)))),(24,i6 (W ((W ((W (((IntKind.u64.wrap (W (a_ + b_))) / 2))) + m)) - start_1)))] → Ctx G (.rowo data_p data_c (data_3.map enc_daily_kink) 91 3::Lf) w → slices_symMergeCmpFunc_daily_kink_j44 N (slices_symMergeCmpFunc_daily_kink N) data a_ m b_ start_1 data_3 = some res → K44 a w := by
       repeat (clear hF)
       repeat (clear hc)
       repeat (clear hf)
       intro data_3 a w hf hc hF
       unfold slices_symMergeCmpFunc_daily_kink_j44 at hF
       refine h44 _ _ ?_
       refine zS fun K h => sp 4 hf rfl fun a hf => stCc 4 (fun a => Has 220 a [(0,.slice data_p data_3.length data_c),(3,i6 b_),(4,.func (.func 41) #[] #[]),(18,i6 (W (((IntKind.u64.wrap (W (a_ + b_))) / 2)))),(24,i6 (W ((W ((W (((IntKind.u64.wrap (W (a_ + b_))) / 2))) + m)) - start_1))),(206,i6 (W (((IntKind.u64.wrap (W (a_ + b_))) / 2)))),(207,i6 (W ((W ((W (((IntKind.u64.wrap (W (a_ + b_))) / 2))) + m)) - start_1))),(208,.bool (decide ((W (((IntKind.u64.wrap (W (a_ + b_))) / 2))) < (W ((W ((W (((IntKind.u64.wrap (W (a_ + b_))) / 2))) + m)) - start_1))))),(209,.bool (decide ((W (((IntKind.u64.wrap (W (a_ + b_))) / 2))) < (W ((W ((W (((IntKind.u64.wrap (W (a_ + b_))) / 2))) + m)) - start_1))))),(213,.bool ((decide ((W (((IntKind.u64.wrap (W (a_ + b_))) / 2))) < (W ((W ((W (((IntKind.u64.wrap (W (a_ + b_))) / 2))) + m)) - start_1)))) && (decide ((W ((W ((W (((IntKind.u64.wrap (W (a_ + b_))) / 2))) + m)) - start_1)) < b_))))]) hc ?_ ?_
       ·cases hb : (decide ((W (((IntKind.u64.wrap (W (a_ + b_))) / 2))) < (W ((W ((W (((IntKind.u64.wrap (W (a_ + b_))) / 2))) + m)) - start_1))))
        ·rw [hb] at hf
         refine stS hf rfl rfl rfl fun a hf => stS hf rfl rfl rfl fun a hf => stS hf rfl rfl rfl fun a hf => sp 1 hf rfl fun a hf => cNil ⟨hf.kp rfl,hc⟩
        ·rw [hb] at hf
         refine sp 4 hf rfl fun a hf => cNil ⟨hf.kp rfl,hc⟩
       intro a w ⟨hf,hc⟩
       refine zT h ?_
       refine zI hf rfl hF ?_ ?_ <;> clear hF <;> intro hF
       ·refine cReg ?_
        refine sp 5 hf rfl fun a hf => ?_
        obtain ⟨r_2,hr_2,hF⟩ := bnd_some hF
        refine zC hf en_84 rfl (ih data_3 (W (((IntKind.u64.wrap (W (a_ + b_))) / 2))) (W ((W ((W (((IntKind.u64.wrap (W (a_ + b_))) / 2))) + m)) - start_1)) b_ (hc.pick k0) hr_2) ?_
        rintro _ w ⟨rfl,hl,hc⟩
        refine ⟨_,rfl,fun a hf => ?_⟩
        try rw [← hl] at hf
        try rw [← hl] at hc
        refine cNil ?_
        obtain ⟨_,hl0,hF⟩ := same_len hF
        obtain rfl := sj hF
        exact fnOut0 (by simp) rfl Try.results84 hf ⟨rfl,hl0,hc⟩
       ·refine wp_skip ?_
        obtain ⟨_,hl0,hF⟩ := same_len hF
        obtain rfl := sj hF
        exact fnOut0 (by simp) rfl Try.results84 hf ⟨rfl,hl0,hc⟩
      refine zS fun K h => sp 4 hf rfl fun a hf => stCc 4 (fun a => Has 220 a [(0,.slice data_p data_2.length data_c),(1,i6 a_),(3,i6 b_),(4,.func (.func 41) #[] #[]),(18,i6 (W (((IntKind.u64.wrap (W (a_ + b_))) / 2)))),(20,i6 start_1),(24,i6 (W ((W ((W (((IntKind.u64.wrap (W (a_ + b_))) / 2))) + m)) - start_1))),(192,i6 a_),(193,i6 start_1),(194,.bool (decide (a_ < start_1))),(195,.bool (decide (a_ < start_1))),(199,.bool ((decide (a_ < start_1)) && (decide (start_1 < (W (((IntKind.u64.wrap (W (a_ + b_))) / 2)))))))]) hc ?_ ?_
      ·cases hb : (decide (a_ < start_1))
       ·rw [hb] at hf
        refine stS hf rfl rfl rfl fun a hf => stS hf rfl rfl rfl fun a hf => stS hf rfl rfl rfl fun a hf => sp 1 hf rfl fun a hf => cNil ⟨hf.kp rfl,hc⟩
       ·rw [hb] at hf
        refine sp 4 hf rfl fun a hf => cNil ⟨hf.kp rfl,hc⟩
      intro a w ⟨hf,hc⟩
      refine zT h ?_
      refine zI hf rfl hF ?_ ?_ <;> clear hF <;> intro hF
      ·refine cReg ?_
       refine sp 5 hf rfl fun a hf => ?_
       obtain ⟨r_3,hr_3,hF⟩ := bnd_some hF
       refine zC hf en_84 rfl (ih data_2 a_ start_1 (W (((IntKind.u64.wrap (W (a_ + b_))) / 2))) (hc.pick k0) hr_3) ?_
       rintro _ w ⟨rfl,hl_1,hc⟩
       refine ⟨_,rfl,fun a hf => ?_⟩
       try rw [← hl_1] at hf
       try rw [← hl_1] at hc
       refine cNil ?_
       exact hj44 r_3 _ _  (hf.kp rfl) hc hF
      ·refine wp_skip ?_
       exact hj44 data_2 _ _  (hf.kp rfl) hc hF
     refine zS fun K h => sp 4 hf rfl fun a hf => stCc 4 (fun a => Has 220 a [(0,.slice data_p data.length data_c),(1,i6 a_),(2,i6 m),(3,i6 b_),(4,.func (.func 41) #[] #[]),(18,i6 (W (((IntKind.u64.wrap (W (a_ + b_))) / 2)))),(20,i6 start_1),(24,i6 (W ((W ((W (((IntKind.u64.wrap (W (a_ + b_))) / 2))) + m)) - start_1))),(178,i6 start_1),(179,i6 m),(180,.bool (decide (start_1 < m))),(181,.bool (decide (start_1 < m))),(185,.bool ((decide (start_1 < m)) && (decide (m < (W ((W ((W (((IntKind.u64.wrap (W (a_ + b_))) / 2))) + m)) - start_1))))))]) hc ?_ ?_
     ·cases hb : (decide (start_1 < m))
      ·rw [hb] at hf
       refine stS hf rfl rfl rfl fun a hf => stS hf rfl rfl rfl fun a hf => stS hf rfl rfl rfl fun a hf => sp 1 hf rfl fun a hf => cNil ⟨hf.kp rfl,hc⟩
      ·rw [hb] at hf
       refine sp 4 hf rfl fun a hf => cNil ⟨hf.kp rfl,hc⟩
     intro a w ⟨hf,hc⟩
     refine zT h ?_
     refine zI hf rfl hF ?_ ?_ <;> clear hF <;> intro hF
     ·refine cReg ?_
      refine sp 5 hf rfl fun a hf => ?_
      obtain ⟨r_4,hr_4,hF⟩ := bnd_some hF
      refine zC hf en_92 rfl (slices_rotateCmpFunc_daily_kink_ok data start_1 m (W ((W ((W (((IntKind.u64.wrap (W (a_ + b_))) / 2))) + m)) - start_1)) (hc.pick k0) hr_4) ?_
      rintro _ w ⟨rfl,hl_2,hc⟩
      refine ⟨_,rfl,fun a hf => ?_⟩
      try rw [← hl_2] at hf
      try rw [← hl_2] at hc
      refine cNil ?_
      exact hj43 r_4 _ _  (hf.kp rfl) hc hF
     ·refine wp_skip ?_
      exact hj43 data _ _  (hf.kp rfl) hc hF
    have ho41 : ∀ r,x41 = .out r → r = res := by
     rintro r rfl
     exact sj hF
    refine cLoop N (loopW (S := S41) (x := x41) ?_ N (start,r) _ _ ⟨hf.kp rfl,hc⟩ hx41)
    clear hF hf hc
    rintro ⟨start_1,r_1⟩ st41 a w KB41 ⟨hf,hc⟩ hF hfin41 hK41
    unfold slices_symMergeCmpFunc_daily_kink_b41 at hF
    refine wp_seq_k fun K48 h48 => zS fun K h => sp 3 hf rfl fun a hf => zT h ?_
    refine zI hf rfl hF ?_ ?_ <;> clear hF <;> intro hF
    ·refine wp_skip ?_
     refine h48 _ _ ?_
     refine wp_thenK fun K50 h50 => wp_block ?_
     refine zS fun K h => sp 3 hf rfl fun a hf => zP hf rfl (pCv Try.underlying3 Try.underlying88 rfl) fun a hf => zP hf rfl (pShr1 rfl rfl) fun a hf => zP hf rfl (pCv Try.underlying88 Try.underlying3 rfl) fun a hf => sp 1 hf rfl fun a hf => zT h ?_
     refine wp_seq_k fun K52 h52 => ?_
     obtain ⟨e_13,he_13,hF⟩ := bnd_some hF
     obtain ⟨g_4,og_4,rfl,qa_12,qr_12⟩ := row_atmO hc m0 he_13
     obtain ⟨e_14,he_14,hF⟩ := bnd_some hF
     obtain ⟨qa_13,qr_13⟩ := row_atkO hc m0 he_14
     refine cQ hc follows_mx (by kernel_rfl) ?_
     refine qE hf rfl rfl rfl (Pu.ev (pM rfl)) fun a hf => qE hf rfl rfl rfl (Pu.ev (pM rfl)) fun a hf => qE hf rfl rfl rfl (Pu.ev (pM rfl)) fun a hf => qE hf rfl rfl rfl (Pu.ev (pM rfl)) fun a hf => qE hf rfl rfl rfl (Pu.ev (pSub rfl rfl)) fun a hf => qE hf rfl rfl rfl (Pu.ev (pIA Try.underlying89 sz_91 rfl rfl qa_12)) fun a hf => qE hf rfl rfl rfl (eLdN (vs := [i6 e_13.value,i6 e_13.reading,i6 e_13.weight]) ag_91 rfl rfl (cells_rwO (sz := 3) (i := (W ((W ((W ((W (((IntKind.u64.wrap (W (a_ + b_))) / 2))) + m)) - 1)) - (W (((IntKind.u64.wrap (W (start_1 + r_1))) / 2))))).toNat) m0 qr_12 (n := 3) (o' := 0) rfl)) fun a hf => qE hf rfl rfl rfl (Pu.ev (pM rfl)) fun a hf => qE hf rfl rfl rfl (Pu.ev (pM rfl)) fun a hf => qE hf rfl rfl rfl (Pu.ev (pIA Try.underlying89 sz_91 rfl rfl qa_13)) fun a hf => qE hf rfl rfl rfl (eLdN (vs := [i6 e_14.value,i6 e_14.reading,i6 e_14.weight]) ag_91 rfl rfl (cells_rwO (sz := 3) (i := (W (((IntKind.u64.wrap (W (start_1 + r_1))) / 2))).toNat) m0 qr_13 (n := 3) (o' := 0) rfl)) fun a hf => qE hf rfl rfl rfl (eC (v := i6 (daily_nets_1 e_13 e_14)) (vs := [.agg #[i6 e_13.value,i6 e_13.reading,i6 e_13.weight],.agg #[i6 e_14.value,i6 e_14.reading,i6 e_14.weight]]) (caps := []) en_41 rfl rfl rfl rfl (fun w hc => daily_nets_1_ok e_13 e_14 hc rfl)) fun a hf => qE hf rfl rfl rfl (Pu.ev (pLt rfl rfl)) fun a hf => ?_
     refine qE hf rfl rfl rfl (Pu.ev (pNot rfl)) fun a hf => ?_
     intro w hc
     refine h52 _ _ ?_
     refine zI hf rfl hF ?_ ?_ <;> clear hF <;> intro hF
     ·refine cReg ?_
      refine sp 3 hf rfl fun a hf => cNil ?_
      refine h50 _ _ ?_
      exact hK41 (W ((W (((IntKind.u64.wrap (W (start_1 + r_1))) / 2))) + 1),r_1) _ _ (sj hF).symm ⟨hf.kp rfl,hc⟩
     ·refine cReg ?_
      refine sp 2 hf rfl fun a hf => cNil ?_
      refine h50 _ _ ?_
      exact hK41 (start_1,W (((IntKind.u64.wrap (W (start_1 + r_1))) / 2))) _ _ (sj hF).symm ⟨hf.kp rfl,hc⟩
    ·refine wp_exit ?_
     refine xThen ?_
     refine xThen ?_
     have he := sj hF
     rw [← he] at hfin41
     refine cHit ?_
     exact hr41 _ _ _ hfin41 ⟨hf.kp rfl,hc⟩
   refine zS fun K h => sp 3 hf rfl fun a hf => zT h ?_
   refine zI hf rfl hF ?_ ?_ <;> clear hF <;> intro hF
   ·refine zS fun K h => sp 4 hf rfl fun a hf => zT h ?_
    refine cReg ?_
    refine sp 2 hf rfl fun a hf => cNil ?_
    exact hj38 (W ((W ((W (((IntKind.u64.wrap (W (a_ + b_))) / 2))) + m)) - b_)) (W (((IntKind.u64.wrap (W (a_ + b_))) / 2))) _ _  (hf.kp rfl) hc hF
   ·refine zS fun K h => sp 2 hf rfl fun a hf => zT h ?_
    refine cReg ?_
    refine sp 2 hf rfl fun a hf => cNil ?_
    exact hj38 a_ m _ _  (hf.kp rfl) hc hF

def slices_stableCmpFunc_daily_kink_j14 (N : Nat) (blockSize : Int) (data_3 : List daily_kink) : Option (Step ((List daily_kink) × Int) ((List daily_kink))) :=
 some (.cont (data_3,W (blockSize * 2)))
def slices_stableCmpFunc_daily_kink_b13 (N : Nat) (n : Int) (blockSize : Int) (data_2 : List daily_kink) (a_2 : Int) (b_2 : Int) : Option (Step ((List daily_kink) × Int × Int) (Step ((List daily_kink) × Int) ((List daily_kink)))) :=
 cond (decide (b_2 ≤ n))
 (Option.bind (slices_symMergeCmpFunc_daily_kink N data_2 a_2 (W (a_2 + blockSize)) b_2) fun r_2 =>
 some (.cont (r_2,b_2,W (b_2 + (W (2 * blockSize))))))
 (some (.brk (data_2,a_2,b_2)))
def slices_stableCmpFunc_daily_kink_b7 (N : Nat) (n : Int) (data_1 : List daily_kink) (blockSize : Int) : Option (Step ((List daily_kink) × Int) ((List daily_kink))) :=
 cond (decide (blockSize < n))
 (Option.bind (loopO (fun s13 => slices_stableCmpFunc_daily_kink_b13 N n blockSize s13.1 s13.2.1 s13.2.2) N (data_1,0,W (2 * blockSize))) fun x13 =>
 exK x13 (fun s13 => cond (decide ((W (s13.2.1 + blockSize)) < n))
 (Option.bind (slices_symMergeCmpFunc_daily_kink N s13.1 s13.2.1 (W (s13.2.1 + blockSize)) n) fun r_1 =>
 slices_stableCmpFunc_daily_kink_j14 N blockSize r_1)
 (slices_stableCmpFunc_daily_kink_j14 N blockSize s13.1)) some)
 (some (.brk (data_1,blockSize)))
def slices_stableCmpFunc_daily_kink_b4 (N : Nat) (n : Int) (data_0 : List daily_kink) (a_1 : Int) (b_1 : Int) : Option (Step ((List daily_kink) × Int × Int) ((List daily_kink))) :=
 cond (decide (b_1 ≤ n))
 (Option.bind (slices_insertionSortCmpFunc_daily_kink N data_0 a_1 b_1) fun r_3 =>
 some (.cont (r_3,b_1,W (b_1 + 20))))
 (some (.brk (data_0,a_1,b_1)))
def slices_stableCmpFunc_daily_kink (N : Nat) (data : List daily_kink) (n : Int) : Option ((List daily_kink)) :=
 Option.bind (loopO (fun s4 => slices_stableCmpFunc_daily_kink_b4 N n s4.1 s4.2.1 s4.2.2) N (data,0,20)) fun x4 =>
 exK x4 (fun s4 => Option.bind (slices_insertionSortCmpFunc_daily_kink N s4.1 s4.2.1 n) fun r =>
 Option.bind (loopO (fun s7 => slices_stableCmpFunc_daily_kink_b7 N n s7.1 s7.2) N (r,20)) fun x7 =>
 exK x7 (fun s7 => Option.bind (sameL s7.1 data) fun _ =>
 some s7.1) some) some
theorem slices_stableCmpFunc_daily_kink_ok {N : Nat} {G : Pers} {Lf : List Ent} {w : World} (data : List daily_kink) (n : Int) {data_p : Option Addr} {data_c : Nat}  (hc : Ctx G (.rowo data_p data_c (data.map enc_daily_kink) 91 3::Lf) w) {res : (List daily_kink)} (hF : slices_stableCmpFunc_daily_kink N data n = some res) : Calls Try.prog 68 #[.slice data_p data.length data_c,i6 n,.func (.func 41) #[] #[]] w (fun e w => e = .returned (.tuple #[]) ∧ res.length = data.length ∧ Ctx G (.rowo data_p data_c (res.map enc_daily_kink) 91 3::Lf) w) := by
 unfold slices_stableCmpFunc_daily_kink at hF
 refine fnIn Try.func68 rfl Try.ntmps68 rfl fun a hf => zS fun K h => sp 1 hf rfl fun a hf => zT h ?_
 refine zS fun K h => sp 3 hf rfl fun a hf => zT h ?_
 refine wp_seq_k fun K3 h3 => wp_block ?_
 obtain ⟨x4,hx4,hF⟩ := bnd_some hF
 let S4 : ((List daily_kink) × Int × Int) → Act → World → Prop := (fun (zz : (List daily_kink) × Int × Int) a w => Has 63 a [(0,.slice data_p zz.1.length data_c),(1,i6 n),(2,.func (.func 41) #[] #[]),(6,i6 20),(7,i6 zz.2.1),(8,i6 zz.2.2)] ∧ Ctx G (.rowo data_p data_c (zz.1.map enc_daily_kink) 91 3::Lf) w)
 have hr4 : ∀ (zz : (List daily_kink) × Int × Int) a w,x4 = .go zz → S4 zz a w → K3 a w := by
  rintro ⟨data_0,a_1,b_1⟩ a w rfl ⟨hf,hc⟩
  replace hF := exK_go hF
  refine h3 _ _ ?_
  refine zS fun K h => sp 4 hf rfl fun a hf => ?_
  obtain ⟨r,hr,hF⟩ := bnd_some hF
  refine zC hf en_83 rfl (slices_insertionSortCmpFunc_daily_kink_ok data_0 a_1 n (hc.pick k0) hr) ?_
  rintro _ w ⟨rfl,hl,hc⟩
  refine ⟨_,rfl,fun a hf => ?_⟩
  try rw [← hl] at hf
  try rw [← hl] at hc
  refine zT h ?_
  refine wp_thenK fun K6 h6 => wp_block ?_
  obtain ⟨x7,hx7,hF⟩ := bnd_some hF
  let S7 : ((List daily_kink) × Int) → Act → World → Prop := (fun (zz : (List daily_kink) × Int) a w => Has 63 a [(0,.slice data_p zz.1.length data_c),(1,i6 n),(2,.func (.func 41) #[] #[]),(6,i6 zz.2)] ∧ Ctx G (.rowo data_p data_c (zz.1.map enc_daily_kink) 91 3::Lf) w)
  have hr7 : ∀ (zz : (List daily_kink) × Int) a w,x7 = .go zz → S7 zz a w → K6 a w := by
   rintro ⟨data_1,blockSize⟩ a w rfl ⟨hf,hc⟩
   replace hF := exK_go hF
   refine h6 _ _ ?_
   obtain ⟨_,hl0,hF⟩ := same_len hF
   obtain rfl := sj hF
   exact fnOut0 (by simp) rfl Try.results68 hf ⟨rfl,hl0,hc⟩
  have ho7 : ∀ r,x7 = .out r → r = res := by
   rintro r rfl
   exact sj hF
  refine cLoop N (loopW (S := S7) (x := x7) ?_ N (r,20) _ _ ⟨hf.kp rfl,hc⟩ hx7)
  clear hF hf hc
  rintro ⟨data_1,blockSize⟩ st7 a w KB7 ⟨hf,hc⟩ hF hfin7 hK7
  unfold slices_stableCmpFunc_daily_kink_b7 at hF
  refine wp_seq_k fun K8 h8 => zS fun K h => sp 3 hf rfl fun a hf => zT h ?_
  refine zI hf rfl hF ?_ ?_ <;> clear hF <;> intro hF
  ·refine wp_skip ?_
   refine h8 _ _ ?_
   refine wp_thenK fun K10 h10 => wp_block ?_
   refine zS fun K h => sp 4 hf rfl fun a hf => zT h ?_
   refine wp_seq_k fun K12 h12 => wp_block ?_
   obtain ⟨x13,hx13,hF⟩ := bnd_some hF
   let S13 : ((List daily_kink) × Int × Int) → Act → World → Prop := (fun (zz : (List daily_kink) × Int × Int) a w => Has 63 a [(0,.slice data_p zz.1.length data_c),(1,i6 n),(2,.func (.func 41) #[] #[]),(6,i6 blockSize),(7,i6 zz.2.1),(8,i6 zz.2.2)] ∧ Ctx G (.rowo data_p data_c (zz.1.map enc_daily_kink) 91 3::Lf) w)
   have hr13 : ∀ (zz : (List daily_kink) × Int × Int) a w,x13 = .go zz → S13 zz a w → K12 a w := by
    rintro ⟨data_2,a_2,b_2⟩ a w rfl ⟨hf,hc⟩
    replace hF := exK_go hF
    refine h12 _ _ ?_
    refine wp_seq_k fun K14 h14 => ?_
    have hj14 : ∀ (data_3 : List daily_kink) a w,Has 63 a [(0,.slice data_p data_3.length data_c),(1,i6 n),(2,.func (.func 41) #[] #[]),(6,i6 blockSize)] → Ctx G (.rowo data_p data_c (data_3.map enc_daily_kink) 91 3::Lf) w → slices_stableCmpFunc_daily_kink_j14 N blockSize data_3 = some st7 → K14 a w := by
     repeat (clear hF)
     repeat (clear hc)
     repeat (clear hf)
     intro data_3 a w hf hc hF
     unfold slices_stableCmpFunc_daily_kink_j14 at hF
     refine h14 _ _ ?_
     refine cReg ?_
     refine sp 3 hf rfl fun a hf => cNil ?_
     refine h10 _ _ ?_
     exact hK7 (data_3,W (blockSize * 2)) _ _ (sj hF).symm ⟨hf.kp rfl,hc⟩
    refine zS fun K h => sp 4 hf rfl fun a hf => zT h ?_
    refine zS fun K h => sp 3 hf rfl fun a hf => zT h ?_
    refine zI hf rfl hF ?_ ?_ <;> clear hF <;> intro hF
    ·refine cReg ?_
     refine sp 5 hf rfl fun a hf => ?_
     obtain ⟨r_1,hr_1,hF⟩ := bnd_some hF
     refine zC hf en_84 rfl (slices_symMergeCmpFunc_daily_kink_ok data_2 a_2 (W (a_2 + blockSize)) n (hc.pick k0) hr_1) ?_
     rintro _ w ⟨rfl,hl_1,hc⟩
     refine ⟨_,rfl,fun a hf => ?_⟩
     try rw [← hl_1] at hf
     try rw [← hl_1] at hc
     refine cNil ?_
     exact hj14 r_1 _ _  (hf.kp rfl) hc hF
    ·refine wp_skip ?_
     exact hj14 data_2 _ _  (hf.kp rfl) hc hF
   have ho13 : ∀ r,x13 = .out r → r = st7 := by
    rintro r rfl
    exact sj hF
   refine cLoop N (loopW (S := S13) (x := x13) ?_ N (data_1,0,W (2 * blockSize)) _ _ ⟨hf.kp rfl,hc⟩ hx13)
   clear hF hf hc
   rintro ⟨data_2,a_2,b_2⟩ st13 a w KB13 ⟨hf,hc⟩ hF hfin13 hK13
   unfold slices_stableCmpFunc_daily_kink_b13 at hF
   refine wp_seq_k fun K17 h17 => zS fun K h => sp 3 hf rfl fun a hf => zT h ?_
   refine zI hf rfl hF ?_ ?_ <;> clear hF <;> intro hF
   ·refine wp_skip ?_
    refine h17 _ _ ?_
    refine wp_thenK fun K19 h19 => wp_block ?_
    refine zS fun K h => sp 7 hf rfl fun a hf => ?_
    obtain ⟨r_2,hr_2,hF⟩ := bnd_some hF
    refine zC hf en_84 rfl (slices_symMergeCmpFunc_daily_kink_ok data_2 a_2 (W (a_2 + blockSize)) b_2 (hc.pick k0) hr_2) ?_
    rintro _ w ⟨rfl,hl_2,hc⟩
    refine ⟨_,rfl,fun a hf => ?_⟩
    try rw [← hl_2] at hf
    try rw [← hl_2] at hc
    refine zT h ?_
    refine zS fun K h => sp 2 hf rfl fun a hf => zT h ?_
    refine cReg ?_
    refine sp 5 hf rfl fun a hf => cNil ?_
    refine h19 _ _ ?_
    exact hK13 (r_2,b_2,W (b_2 + (W (2 * blockSize)))) _ _ (sj hF).symm ⟨hf.kp rfl,hc⟩
   ·refine wp_exit ?_
    refine xThen ?_
    refine xThen ?_
    have he := sj hF
    rw [← he] at hfin13
    refine cHit ?_
    exact hr13 _ _ _ hfin13 ⟨hf.kp rfl,hc⟩
  ·refine wp_exit ?_
   refine xThen ?_
   refine xThen ?_
   have he := sj hF
   rw [← he] at hfin7
   refine cHit ?_
   exact hr7 _ _ _ hfin7 ⟨hf.kp rfl,hc⟩
 have ho4 : ∀ r,x4 = .out r → r = res := by
  rintro r rfl
  exact sj hF
 refine cLoop N (loopW (S := S4) (x := x4) ?_ N (data,0,20) _ _ ⟨hf.kp rfl,hc⟩ hx4)
 clear hF hf hc
 rintro ⟨data_0,a_1,b_1⟩ st4 a w KB4 ⟨hf,hc⟩ hF hfin4 hK4
 unfold slices_stableCmpFunc_daily_kink_b4 at hF
 refine wp_seq_k fun K22 h22 => zS fun K h => sp 3 hf rfl fun a hf => zT h ?_
 refine zI hf rfl hF ?_ ?_ <;> clear hF <;> intro hF
 ·refine wp_skip ?_
  refine h22 _ _ ?_
  refine wp_thenK fun K24 h24 => wp_block ?_
  refine zS fun K h => sp 4 hf rfl fun a hf => ?_
  obtain ⟨r_3,hr_3,hF⟩ := bnd_some hF
  refine zC hf en_83 rfl (slices_insertionSortCmpFunc_daily_kink_ok data_0 a_1 b_1 (hc.pick k0) hr_3) ?_
  rintro _ w ⟨rfl,hl_3,hc⟩
  refine ⟨_,rfl,fun a hf => ?_⟩
  try rw [← hl_3] at hf
  try rw [← hl_3] at hc
  refine zT h ?_
  refine zS fun K h => sp 2 hf rfl fun a hf => zT h ?_
  refine cReg ?_
  refine sp 4 hf rfl fun a hf => cNil ?_
  refine h24 _ _ ?_
  exact hK4 (r_3,b_1,W (b_1 + 20)) _ _ (sj hF).symm ⟨hf.kp rfl,hc⟩
 ·refine wp_exit ?_
  refine xThen ?_
  refine xThen ?_
  have he := sj hF
  rw [← he] at hfin4
  refine cHit ?_
  exact hr4 _ _ _ hfin4 ⟨hf.kp rfl,hc⟩

def slices_SortStableFunc_Ldaily_kink_daily_kink (N : Nat) (x : List daily_kink) : Option ((List daily_kink)) :=
 Option.bind (slices_stableCmpFunc_daily_kink N x ((x.length : Nat) : Int)) fun r =>
 Option.bind (sameL r x) fun _ =>
 some r
theorem slices_SortStableFunc_Ldaily_kink_daily_kink_ok {N : Nat} {G : Pers} {Lf : List Ent} {w : World} (x : List daily_kink) {x_p : Option Addr} {x_c : Nat}  (hc : Ctx G (.rowo x_p x_c (x.map enc_daily_kink) 91 3::Lf) w) {res : (List daily_kink)} (hF : slices_SortStableFunc_Ldaily_kink_daily_kink N x = some res) : Calls Try.prog 40 #[.slice x_p x.length x_c,.func (.func 41) #[] #[]] w (fun e w => e = .returned (.tuple #[]) ∧ res.length = x.length ∧ Ctx G (.rowo x_p x_c (res.map enc_daily_kink) 91 3::Lf) w) := by
 unfold slices_SortStableFunc_Ldaily_kink_daily_kink at hF
 refine fnIn Try.func40 rfl Try.ntmps40 rfl fun a hf => cReg ?_
 refine sp 2 hf rfl fun a hf => zP hf rfl (pLenS Try.underlying89 rfl) fun a hf => sp 1 hf rfl fun a hf => ?_
 obtain ⟨r,hr,hF⟩ := bnd_some hF
 refine zC hf en_68 rfl (slices_stableCmpFunc_daily_kink_ok x ((x.length : Nat) : Int) (hc.pick k0) hr) ?_
 rintro _ w ⟨rfl,hl,hc⟩
 refine ⟨_,rfl,fun a hf => ?_⟩
 try rw [← hl] at hf
 try rw [← hl] at hc
 refine cNil ?_
 obtain ⟨_,hl0,hF⟩ := same_len hF
 obtain rfl := sj hF
 exact fnOut0 (by simp) rfl Try.results40 hf ⟨rfl,hl0,hc⟩

def daily_nets_j10 (N : Nat) (x : Int) (kinks_1 : List daily_kink) (x_2 : Nat → Int) : Option (Step ((List daily_kink) × Int × (Nat → Int)) ((Nat → Int))) :=
 some (.cont (kinks_1,W (x + 1),x_2))
def daily_nets_b16 (N : Nat) (x : Int) (e_1 : daily_Reading) (kinks_2 : List daily_kink) (pushed : Int) (x_3 : Nat → Int) : Option (Step ((List daily_kink) × Int × (Nat → Int)) (Step ((List daily_kink) × Int × (Nat → Int)) ((Nat → Int)))) :=
 Option.bind (cond (decide (pushed < e_1.Weight)) (Option.bind (getI kinks_2 0) fun e_2 =>
 some (decide (e_1.Value < e_2.value))) (some false)) fun t_1 =>
 cond t_1
 (Option.bind (getI kinks_2 0) fun e_3 =>
 Option.bind (getI kinks_2 0) fun e_4 =>
 Option.bind (inR e_4.reading 30) fun un_2 =>
 Option.bind (inR e_4.reading 30) fun un_3 =>
 Option.bind (inR x 30) fun un_4 =>
 Option.bind (inR x 30) fun un_5 =>
 Option.bind (getI kinks_2 0) fun e_5 =>
 Option.bind (getI kinks_2 0) fun e_6 =>
 Option.bind (getI (kinks_2.set (0 : Int).toNat (⟨e_6.value,e_6.reading,W (e_5.weight - (min (W (e_1.Weight - pushed)) e_3.weight))⟩ : daily_kink)) 0) fun e_7 =>
 cond (e_7.weight == 0)
 (Option.bind (subO (kinks_2.set (0 : Int).toNat (⟨e_6.value,e_6.reading,W (e_5.weight - (min (W (e_1.Weight - pushed)) e_3.weight))⟩ : daily_kink)) 1 ((kinks_2.length : Nat) : Int)) fun sub =>
 some (.cont (sub,W (pushed + (min (W (e_1.Weight - pushed)) e_3.weight)),(setF (setF x_3 e_4.reading.toNat (W ((x_3 e_4.reading.toNat) + (min (W (e_1.Weight - pushed)) e_3.weight)))) x.toNat (W (((setF x_3 e_4.reading.toNat (W ((x_3 e_4.reading.toNat) + (min (W (e_1.Weight - pushed)) e_3.weight)))) x.toNat) - (min (W (e_1.Weight - pushed)) e_3.weight)))))))
 (some (.cont ((kinks_2.set (0 : Int).toNat (⟨e_6.value,e_6.reading,W (e_5.weight - (min (W (e_1.Weight - pushed)) e_3.weight))⟩ : daily_kink)),W (pushed + (min (W (e_1.Weight - pushed)) e_3.weight)),(setF (setF x_3 e_4.reading.toNat (W ((x_3 e_4.reading.toNat) + (min (W (e_1.Weight - pushed)) e_3.weight)))) x.toNat (W (((setF x_3 e_4.reading.toNat (W ((x_3 e_4.reading.toNat) + (min (W (e_1.Weight - pushed)) e_3.weight)))) x.toNat) - (min (W (e_1.Weight - pushed)) e_3.weight))))))))
 (some (.brk (kinks_2,pushed,x_3)))
def daily_nets_b6 (N : Nat) (l : List daily_Reading) (kinks : List daily_kink) (x : Int) (x_1 : Nat → Int) : Option (Step ((List daily_kink) × Int × (Nat → Int)) ((Nat → Int))) :=
 cond (decide (x < ((l.length : Nat) : Int)))
 (Option.bind (getI l x) fun e_1 =>
 Option.bind (room ((kinks ++ [(⟨e_1.Value,x,e_1.Weight⟩ : daily_kink)])).length) fun un =>
 Option.bind (slices_SortStableFunc_Ldaily_kink_daily_kink N (kinks ++ [(⟨e_1.Value,x,e_1.Weight⟩ : daily_kink)])) fun r =>
 Option.bind (loopO (fun s16 => daily_nets_b16 N x e_1 s16.1 s16.2.1 s16.2.2) N (r,0,x_1)) fun x16 =>
 exK x16 (fun s16 => cond (decide (0 < s16.2.1))
 (Option.bind (room ((s16.1 ++ [(⟨e_1.Value,x,s16.2.1⟩ : daily_kink)])).length) fun un_1 =>
 daily_nets_j10 N x (s16.1 ++ [(⟨e_1.Value,x,s16.2.1⟩ : daily_kink)]) s16.2.2)
 (daily_nets_j10 N x s16.1 s16.2.2)) some)
 (some (.brk (kinks,x,x_1)))
def daily_nets (N : Nat) (l : List daily_Reading) : Option ((Nat → Int)) :=
 Option.bind (loopO (fun s6 => daily_nets_b6 N l s6.1 s6.2.1 s6.2.2) N (([] : List daily_kink),0,(fun _ => 0))) fun x6 =>
 exK x6 (fun s6 => some s6.2.2) some
theorem daily_nets_ok {N : Nat} {G : Pers} {Lf : List Ent} {w : World} (l : List daily_Reading) {l_p : Option Addr} {l_c : Nat} (h_l : Rd G 2 l_p l_c (l.map enc_daily_Reading)) (hc : Ctx G (Lf) w) {res : (Nat → Int)} (hF : daily_nets N l = some res) : Calls Try.prog 21 #[.slice l_p l.length l_c] w (fun e w => e = .returned (.agg (catc [] 30 encI_i64 res []).toArray) ∧ Ctx G (Lf) w) := by
 unfold daily_nets at hF
 refine fnIn Try.func21 rfl Try.ntmps21 rfl fun a hf => zS fun K h => stAl (cs := (catc [] 30 encI_i64 (fun _ => 0) [])) hf hc rfl rfl zr_58 rfl fun b_1 a w hf hc => zT h ?_
 refine zS fun K h => stAl (cs := (catc [] 30 encI_i64 (fun _ => 0) [])) hf hc rfl rfl zr_58 rfl fun b_2 a w hf hc => zT h ?_
 refine zS fun K h => sp 1 hf rfl fun a hf => zT h ?_
 refine wp_seq_k fun K4 h4 => zS fun K h => sp 1 hf rfl fun a hf => zP hf rfl (pLenS Try.underlying23 rfl) fun a hf => sp 1 hf rfl fun a hf => zT h ?_
 refine wp_block ?_
 obtain ⟨x6,hx6,hF⟩ := bnd_some hF
 let S6 : ((List daily_kink) × Int × (Nat → Int)) → Act → World → Prop := (fun (zz : (List daily_kink) × Int × (Nat → Int)) a w => ∃ (p_1 : Option Addr) (c_1 : Nat),Has 94 a [(2,pq b_1),(3,pq b_2),(4,.slice p_1 zz.1.length c_1),(9,.slice l_p l.length l_c),(10,i6 ((l.length : Nat) : Int)),(11,i6 zz.2.1)] ∧ Ctx G (.rowo p_1 c_1 (zz.1.map enc_daily_kink) 91 3::.box b_2 (catc [] 30 encI_i64 zz.2.2 []) 58::.box b_1 (catc [] 30 encI_i64 (fun _ => 0) []) 58::Lf) w)
 have hr6 : ∀ (zz : (List daily_kink) × Int × (Nat → Int)) a w,x6 = .go zz → S6 zz a w → K4 a w := by
  rintro ⟨kinks,x,x_1⟩ a w rfl ⟨p_1,c_1,hf,hc⟩
  replace hF := exK_go hF
  refine h4 _ _ ?_
  refine zS fun K h => zE hf hc rfl (eLdN (vs := (catc [] 30 encI_i64 x_1 [])) ag_58 rfl (one_encA_58 _).1 (cells_box (n := 30) m1 (takeW (one_encA_58 _).1))) fun a w hf hc => stStA (enc := encA_58) (f := (fun _ => 0)) (z := x_1) hf hc rfl rfl rfl one_encA_58 sz_58 u2 fun w hc => zT h ?_
  refine wp_ret ?_
  obtain rfl := sj hF
  replace hc := (hc.drop k1).drop k0
  exact fnOut1 (by simp) rfl Try.results21 hf hc (rv_cellN (vs := (catc [] 30 encI_i64 x_1 [])) ag_58 rfl (one_encA_58 _).1 (cells_box (n := 30) m0 (takeW (one_encA_58 _).1))) ⟨rfl,(hc.drop k0)⟩
 have ho6 : ∀ r,x6 = .out r → r = res := by
  rintro r rfl
  exact sj hF
 replace hc := hc.nilRowO 91 3
 refine cLoop N (loopW (S := S6) (x := x6) ?_ N (([] : List daily_kink),0,(fun _ => 0)) _ _ ⟨none,0,hf.kp rfl,hc⟩ hx6)
 clear hF hf hc
 rintro ⟨kinks,x,x_1⟩ st6 a w KB6 ⟨p_1,c_1,hf,hc⟩ hF hfin6 hK6
 unfold daily_nets_b6 at hF
 refine zS fun K h => sp 1 hf rfl fun a hf => zT h ?_
 refine wp_seq_k fun K9 h9 => zI hf rfl hF ?_ ?_ <;> clear hF <;> intro hF
 ·refine wp_skip ?_
  refine h9 _ _ ?_
  refine wp_seq_k fun K10 h10 => ?_
  have hj10 : ∀ (kinks_1 : List daily_kink) (x_2 : Nat → Int) (p_2 : Option Addr) (c_2 : Nat) a w,Has 94 a [(2,pq b_1),(3,pq b_2),(4,.slice p_2 kinks_1.length c_2),(9,.slice l_p l.length l_c),(10,i6 ((l.length : Nat) : Int)),(11,i6 x)] → Ctx G (.rowo p_2 c_2 (kinks_1.map enc_daily_kink) 91 3::.box b_2 (catc [] 30 encI_i64 x_2 []) 58::.box b_1 (catc [] 30 encI_i64 (fun _ => 0) []) 58::Lf) w → daily_nets_j10 N x kinks_1 x_2 = some st6 → K10 a w := by
   repeat (clear hF)
   repeat (clear hc)
   repeat (clear hf)
   intro kinks_1 x_2 p_2 c_2 a w hf hc hF
   unfold daily_nets_j10 at hF
   refine h10 _ _ ?_
   refine cReg ?_
   refine sp 2 hf rfl fun a hf => cNil ?_
   exact hK6 (kinks_1,W (x + 1),x_2) _ _ (sj hF).symm ⟨p_2,c_2,hf.kp rfl,hc⟩
  refine wp_block ?_
  refine zS fun K h => sp 1 hf rfl fun a hf => ?_
  obtain ⟨e_1,he_1,hF⟩ := bnd_some hF
  obtain ⟨b_3,o,qa,qp⟩ := h_l.atm he_1
  refine zP hf rfl (pIA Try.underlying23 sz_39 rfl rfl qa) fun a hf => zE hf hc rfl (eLdN (vs := [i6 e_1.Value,i6 e_1.Weight]) ag_39 rfl rfl (cells_pc qp (n := 2) (o' := 0) rfl)) fun a w hf hc => zA hf hc zr_39 rfl fun b_4 a w hf hc => sp 1 hf rfl fun a hf => zW hf hc sz_39 u0 rfl fun w hc => zT h ?_
  refine zS fun K h => sp 1 hf rfl fun a hf => zP hf rfl (pFA fa_39_0 rfl) fun a hf => zL hf hc sc_3 m0 rfl fun a w hf hc => sp 1 hf rfl fun a hf => zP hf rfl (pFA fa_39_1 rfl) fun a hf => zL hf hc sc_3 m0 rfl fun a w hf hc => zP hf rfl (pBuildS (cells := [i6 e_1.Value,i6 x,i6 e_1.Weight]) bt_91 rfl rfl) fun a hf => stBSO (rows := ([(⟨e_1.Value,x,e_1.Weight⟩ : daily_kink)] : List daily_kink).map enc_daily_kink) (vs := [(0,.agg #[i6 e_1.Value,i6 x,i6 e_1.Weight])]) hf hc rfl rfl sl_89 rfl ⟨rfl,rfl,rfl,trivial⟩ rfl rfl fun b_5 a w hf hc => ?_
  obtain ⟨un,hun,hF⟩ := bnd_some hF
  refine stApmO (xs := kinks) (ys := ([(⟨e_1.Value,x,e_1.Weight⟩ : daily_kink)] : List daily_kink)) hf hc rfl rfl sl_89 rfl rfl rfl rfl rfl one_enc_daily_kink (src_rowO hc m0) (fun _ _ => u2) (by simpa using room_spec hun) fun p_3 c_3 a w hf hc => sp 1 hf rfl fun a hf => zT h ?_
  refine zS fun K h => sp 1 hf rfl fun a hf => ?_
  obtain ⟨r,hr,hF⟩ := bnd_some hF
  refine zC hf en_40 rfl (slices_SortStableFunc_Ldaily_kink_daily_kink_ok (kinks ++ [(⟨e_1.Value,x,e_1.Weight⟩ : daily_kink)]) (hc.pick k2) hr) ?_
  rintro _ w ⟨rfl,hl,hc⟩
  refine ⟨_,rfl,fun a hf => ?_⟩
  try rw [← hl] at hf
  try rw [← hl] at hc
  refine zT h ?_
  refine zS fun K h => sp 1 hf rfl fun a hf => zT h ?_
  refine wp_seq_k fun K15 h15 => wp_block ?_
  obtain ⟨x16,hx16,hF⟩ := bnd_some hF
  let S16 : ((List daily_kink) × Int × (Nat → Int)) → Act → World → Prop := (fun (zz : (List daily_kink) × Int × (Nat → Int)) a w => ∃ (p_4 : Option Addr) (c_4 : Nat),Has 94 a [(2,pq b_1),(3,pq b_2),(4,.slice p_4 zz.1.length c_4),(5,i6 x),(6,pq b_4),(7,i6 zz.2.1),(9,.slice l_p l.length l_c),(10,i6 ((l.length : Nat) : Int)),(11,i6 x)] ∧ Ctx G (.rowo p_4 c_4 (zz.1.map enc_daily_kink) 91 3::.box b_4 [i6 e_1.Value,i6 e_1.Weight] 39::.box b_2 (catc [] 30 encI_i64 zz.2.2 []) 58::.box b_1 (catc [] 30 encI_i64 (fun _ => 0) []) 58::Lf) w)
  have hr16 : ∀ (zz : (List daily_kink) × Int × (Nat → Int)) a w,x16 = .go zz → S16 zz a w → K15 a w := by
   rintro ⟨kinks_2,pushed,x_3⟩ a w rfl ⟨p_4,c_4,hf,hc⟩
   replace hF := exK_go hF
   refine h15 _ _ ?_
   refine zS fun K h => sp 2 hf rfl fun a hf => zT h ?_
   refine zI hf rfl hF ?_ ?_ <;> clear hF <;> intro hF
   ·refine cReg ?_
    refine sp 1 hf rfl fun a hf => zP hf rfl (pFA fa_39_0 rfl) fun a hf => zL hf hc sc_3 m1 rfl fun a w hf hc => sp 2 hf rfl fun a hf => zP hf rfl (pBuildS (cells := [i6 e_1.Value,i6 x,i6 pushed]) bt_91 rfl rfl) fun a hf => stBSO (rows := ([(⟨e_1.Value,x,pushed⟩ : daily_kink)] : List daily_kink).map enc_daily_kink) (vs := [(0,.agg #[i6 e_1.Value,i6 x,i6 pushed])]) hf hc rfl rfl sl_89 rfl ⟨rfl,rfl,rfl,trivial⟩ rfl rfl fun b_6 a w hf hc => ?_
    obtain ⟨un_1,hun_1,hF⟩ := bnd_some hF
    refine stApmO (xs := kinks_2) (ys := ([(⟨e_1.Value,x,pushed⟩ : daily_kink)] : List daily_kink)) hf hc rfl rfl sl_89 rfl rfl rfl rfl rfl one_enc_daily_kink (src_rowO hc m0) (fun _ _ => u1) (by simpa using room_spec hun_1) fun p_5 c_5 a w hf hc => sp 1 hf rfl fun a hf => cNil ?_
    replace hc := (hc.drop k2).drop k0
    exact hj10 (kinks_2 ++ [(⟨e_1.Value,x,pushed⟩ : daily_kink)]) x_3 p_5 c_5 _ _  (hf.kp rfl) hc hF
   ·refine wp_skip ?_
    replace hc := hc.drop k1
    exact hj10 kinks_2 x_3 p_4 c_4 _ _  (hf.kp rfl) hc hF
  have ho16 : ∀ r,x16 = .out r → r = st6 := by
   rintro r rfl
   exact sj hF
  replace hc := hc.drop k1
  refine cLoop N (loopW (S := S16) (x := x16) ?_ N (r,0,x_1) _ _ ⟨p_3,c_3,hf.kp rfl,hc⟩ hx16)
  clear hF hf hc
  rintro ⟨kinks_2,pushed,x_3⟩ st16 a w KB16 ⟨p_4,c_4,hf,hc⟩ hF hfin16 hK16
  unfold daily_nets_b16 at hF
  refine wp_seq_k fun K18 h18 => wp_seq_k fun K19 h19 => ?_
  obtain ⟨t_1,ht_1,hF⟩ := bnd_some hF
  refine cQ hc follows_mx (by kernel_rfl) ?_
  refine qE hf rfl rfl rfl (Pu.ev (pM rfl)) fun a hf => qE hf rfl rfl rfl (Pu.ev (pFA fa_39_1 rfl)) fun a hf => qE hf rfl rfl rfl (eLd1 sc_3 rfl (cell_box m1 rfl)) fun a hf => qE hf rfl rfl rfl (Pu.ev (pLt rfl rfl)) fun a hf => qE hf rfl rfl rfl (Pu.ev (pM rfl)) fun a hf => qCut 8 (fun a => Has 94 a [(2,pq b_1),(3,pq b_2),(4,.slice p_4 kinks_2.length c_4),(5,i6 x),(6,pq b_4),(7,i6 pushed),(9,.slice l_p l.length l_c),(10,i6 ((l.length : Nat) : Int)),(11,i6 x),(27,i6 pushed),(28,.pointer (some ⟨b_4,1,none⟩)),(29,i6 e_1.Weight),(30,.bool (decide (pushed < e_1.Weight))),(31,.bool (decide (pushed < e_1.Weight))),(39,.bool t_1)]) ?_ ?_
  ·cases hb : (decide (pushed < e_1.Weight))
   ·rw [hb] at hf
    have hF := condF hb ht_1
    obtain rfl := sj hF
    refine qS hf rfl rfl rfl fun a hf => qS hf rfl rfl rfl fun a hf => qS hf rfl rfl rfl fun a hf => qS hf rfl rfl rfl fun a hf => qS hf rfl rfl rfl fun a hf => qS hf rfl rfl rfl fun a hf => qS hf rfl rfl rfl fun a hf => qE hf rfl rfl rfl (Pu.ev (pPf rfl rfl)) fun a hf => qNil (hf.kp rfl)
   ·rw [hb] at hf
    have hF := condT hb ht_1
    obtain ⟨e_2,he_2,hF⟩ := bnd_some hF
    obtain ⟨g,og,rfl,qa_1,qr⟩ := row_atmO hc m0 he_2
    refine qE hf rfl rfl rfl (Pu.ev (pM rfl)) fun a hf => qE hf rfl rfl rfl (Pu.ev (pIA Try.underlying89 sz_91 rfl rfl qa_1)) fun a hf => qE hf rfl rfl rfl (Pu.ev (pFA fa_91_0 rfl)) fun a hf => qE hf rfl rfl rfl (eLd1 sc_3 rfl (cell_rowO (sz := 3) (i := (0 : Int).toNat) (j := 0) m0 qr rfl)) fun a hf => qE hf rfl rfl rfl (Pu.ev (pFA fa_39_0 rfl)) fun a hf => qE hf rfl rfl rfl (eLd1 sc_3 rfl (cell_box m1 rfl)) fun a hf => qE hf rfl rfl rfl (Pu.ev (pGt rfl rfl)) fun a hf => qE hf rfl rfl rfl (Pu.ev (pPt rfl rfl)) fun a hf => ?_
    obtain rfl := sj hF
    exact qNil (hf.kp rfl)
  intro a hf
  intro w hc
  refine h19 _ _ ?_
  refine zI hf rfl hF ?_ ?_ <;> clear hF <;> intro hF
  ·refine wp_skip ?_
   refine h18 _ _ ?_
   refine wp_thenK fun K20 h20 => wp_block ?_
   refine wp_seq_k fun K21 h21 => ?_
   obtain ⟨e_3,he_3,hF⟩ := bnd_some hF
   obtain ⟨g_1,og_1,rfl,qa_2,qr_1⟩ := row_atmO hc m0 he_3
   refine cQ hc follows_mx (by kernel_rfl) ?_
   refine qE hf rfl rfl rfl (Pu.ev (pFA fa_39_1 rfl)) fun a hf => qE hf rfl rfl rfl (eLd1 sc_3 rfl (cell_box m1 rfl)) fun a hf => qE hf rfl rfl rfl (Pu.ev (pM rfl)) fun a hf => qE hf rfl rfl rfl (Pu.ev (pSub rfl rfl)) fun a hf => qE hf rfl rfl rfl (Pu.ev (pM rfl)) fun a hf => qE hf rfl rfl rfl (Pu.ev (pIA Try.underlying89 sz_91 rfl rfl qa_2)) fun a hf => qE hf rfl rfl rfl (Pu.ev (pFA fa_91_2 rfl)) fun a hf => qE hf rfl rfl rfl (eLd1 sc_3 rfl (cell_rowO (sz := 3) (i := (0 : Int).toNat) (j := 2) m0 qr_1 rfl)) fun a hf => qE hf rfl rfl rfl (Pu.ev (pMin2 rfl rfl)) fun a hf => qE hf rfl rfl rfl (Pu.ev (pA rfl)) fun a hf => ?_
   intro w hc
   refine h21 _ _ ?_
   refine zS fun K h => sp 1 hf rfl fun a hf => ?_
   obtain ⟨e_4,he_4,hF⟩ := bnd_some hF
   obtain ⟨qa_3,qr_2⟩ := row_atkO hc m0 he_4
   refine zP hf rfl (pIA Try.underlying89 sz_91 rfl rfl qa_3) fun a hf => zP hf rfl (pFA fa_91_1 rfl) fun a hf => zE hf hc rfl (eLd1 sc_3 rfl (cell_rowO (sz := 3) (i := (0 : Int).toNat) (j := 1) m0 qr_2 rfl)) fun a w hf hc => ?_
   obtain ⟨un_2,hun_2,hF⟩ := bnd_some hF
   refine zP hf rfl (pIAA Try.underlying58 sz_3 rfl rfl (inR_spec hun_2).1 (inR_spec hun_2).2) fun a hf => zE hf hc rfl (eLd1 sc_3 rfl (cell_arr (j := 0) m2 (fun x => (one_encI_i64 x).1) rfl hun_2 rfl)) fun a w hf hc => sp 2 hf rfl fun a hf => ?_
   obtain ⟨un_3,hun_3,hF⟩ := bnd_some hF
   refine zP hf rfl (pIAA Try.underlying58 sz_3 rfl rfl (inR_spec hun_3).1 (inR_spec hun_3).2) fun a hf => stAr (vs := [i6 (W ((x_3 e_4.reading.toNat) + (min (W (e_1.Weight - pushed)) e_3.weight)))]) (o' := 0) (z := W ((x_3 e_4.reading.toNat) + (min (W (e_1.Weight - pushed)) e_3.weight))) hf hc rfl rfl rfl rfl sz_3 rfl (fun x => (one_encI_i64 x).1) rfl hun_3 rfl rfl u2 fun w hc => zT h ?_
   refine zS fun K h => sp 1 hf rfl fun a hf => ?_
   obtain ⟨un_4,hun_4,hF⟩ := bnd_some hF
   refine zP hf rfl (pIAA Try.underlying58 sz_3 rfl rfl (inR_spec hun_4).1 (inR_spec hun_4).2) fun a hf => zE hf hc rfl (eLd1 sc_3 rfl (cell_arr (j := 0) m2 (fun x => (one_encI_i64 x).1) rfl hun_4 rfl)) fun a w hf hc => sp 2 hf rfl fun a hf => ?_
   obtain ⟨un_5,hun_5,hF⟩ := bnd_some hF
   refine zP hf rfl (pIAA Try.underlying58 sz_3 rfl rfl (inR_spec hun_5).1 (inR_spec hun_5).2) fun a hf => stAr (vs := [i6 (W (((setF x_3 e_4.reading.toNat (W ((x_3 e_4.reading.toNat) + (min (W (e_1.Weight - pushed)) e_3.weight)))) x.toNat) - (min (W (e_1.Weight - pushed)) e_3.weight)))]) (o' := 0) (z := W (((setF x_3 e_4.reading.toNat (W ((x_3 e_4.reading.toNat) + (min (W (e_1.Weight - pushed)) e_3.weight)))) x.toNat) - (min (W (e_1.Weight - pushed)) e_3.weight))) hf hc rfl rfl rfl rfl sz_3 rfl (fun x => (one_encI_i64 x).1) rfl hun_5 rfl rfl u2 fun w hc => zT h ?_
   refine zS fun K h => sp 4 hf rfl fun a hf => zT h ?_
   refine zS fun K h => sp 1 hf rfl fun a hf => ?_
   obtain ⟨e_5,he_5,hF⟩ := bnd_some hF
   obtain ⟨qa_4,qr_3⟩ := row_atkO hc m0 he_5
   refine zP hf rfl (pIA Try.underlying89 sz_91 rfl rfl qa_4) fun a hf => zP hf rfl (pFA fa_91_2 rfl) fun a hf => zE hf hc rfl (eLd1 sc_3 rfl (cell_rowO (sz := 3) (i := (0 : Int).toNat) (j := 2) m0 qr_3 rfl)) fun a w hf hc => sp 2 hf rfl fun a hf => ?_
   obtain ⟨e_6,he_6,hF⟩ := bnd_some hF
   obtain ⟨qa_5,qr_4⟩ := row_atkO hc m0 he_6
   refine zP hf rfl (pIA Try.underlying89 sz_91 rfl rfl qa_5) fun a hf => zP hf rfl (pFA fa_91_2 rfl) fun a hf => stRwO (sz := 3) (vs := [i6 (W (e_5.weight - (min (W (e_1.Weight - pushed)) e_3.weight)))]) (o' := 2) (z := (⟨e_6.value,e_6.reading,W (e_5.weight - (min (W (e_1.Weight - pushed)) e_3.weight))⟩ : daily_kink)) (xs := kinks_2) hf hc rfl rfl rfl rfl sz_3 rfl (fun x => (one_enc_daily_kink x).1) (getI_lt he_6) (fun e' he' => by cases (he'.symm.trans (getI_spec he_6).2); rfl) rfl u0 fun w hc => zT h ?_
   refine zS fun K h => sp 1 hf rfl fun a hf => ?_
   obtain ⟨e_7,he_7,hF⟩ := bnd_some hF
   obtain ⟨qa_6,qr_5⟩ := row_atkO hc m0 he_7
   refine zP hf rfl (pIA Try.underlying89 sz_91 rfl rfl (At.len qa_6 (by simp only [List.length_set]))) fun a hf => zP hf rfl (pFA fa_91_2 rfl) fun a hf => zE hf hc rfl (eLd1 sc_3 rfl (cell_rowO (sz := 3) (i := (0 : Int).toNat) (j := 2) m0 qr_5 rfl)) fun a w hf hc => sp 1 hf rfl fun a hf => zT h ?_
   refine zI hf rfl hF ?_ ?_ <;> clear hF <;> intro hF
   ·refine cReg ?_
    refine sp 1 hf rfl fun a hf => ?_
    obtain ⟨sub,hsub,hF⟩ := bnd_some hF
    refine stSlO (enc := enc_daily_kink) (xs := (kinks_2.set (0 : Int).toNat (⟨e_6.value,e_6.reading,W (e_5.weight - (min (W (e_1.Weight - pushed)) e_3.weight))⟩ : daily_kink))) (v := sub) (fun x => (one_enc_daily_kink x).1) hf hc rfl rfl Try.underlying89 sz_91 rfl (by simp) rfl hsub (fun _ _ => u0) fun p_6 c_6 a w hf hc => sp 1 hf rfl fun a hf => cNil ?_
    refine h20 _ _ ?_
    exact hK16 (sub,W (pushed + (min (W (e_1.Weight - pushed)) e_3.weight)),(setF (setF x_3 e_4.reading.toNat (W ((x_3 e_4.reading.toNat) + (min (W (e_1.Weight - pushed)) e_3.weight)))) x.toNat (W (((setF x_3 e_4.reading.toNat (W ((x_3 e_4.reading.toNat) + (min (W (e_1.Weight - pushed)) e_3.weight)))) x.toNat) - (min (W (e_1.Weight - pushed)) e_3.weight))))) _ _ (sj hF).symm ⟨p_6,c_6,hf.kp rfl,hc⟩
   ·refine wp_skip ?_
    refine h20 _ _ ?_
    replace hf := hf.castAt 4 (v' := .slice (some ⟨g_1,og_1,none⟩) ((kinks_2.set (0 : Int).toNat (⟨e_6.value,e_6.reading,W (e_5.weight - (min (W (e_1.Weight - pushed)) e_3.weight))⟩ : daily_kink)).length) c_4) rfl (congrArg (fun k => Value.slice (some ⟨g_1,og_1,none⟩) k c_4) (by simp))
    exact hK16 ((kinks_2.set (0 : Int).toNat (⟨e_6.value,e_6.reading,W (e_5.weight - (min (W (e_1.Weight - pushed)) e_3.weight))⟩ : daily_kink)),W (pushed + (min (W (e_1.Weight - pushed)) e_3.weight)),(setF (setF x_3 e_4.reading.toNat (W ((x_3 e_4.reading.toNat) + (min (W (e_1.Weight - pushed)) e_3.weight)))) x.toNat (W (((setF x_3 e_4.reading.toNat (W ((x_3 e_4.reading.toNat) + (min (W (e_1.Weight - pushed)) e_3.weight)))) x.toNat) - (min (W (e_1.Weight - pushed)) e_3.weight))))) _ _ (sj hF).symm ⟨(some ⟨g_1,og_1,none⟩),c_4,hf.kp rfl,hc⟩
  ·refine wp_exit ?_
   refine xThen ?_
   refine xThen ?_
   have he := sj hF
   rw [← he] at hfin16
   refine cHit ?_
   exact hr16 _ _ _ hfin16 ⟨p_4,c_4,hf.kp rfl,hc⟩
 ·refine wp_exit ?_
  refine xThen ?_
  refine xThen ?_
  have he := sj hF
  rw [← he] at hfin6
  refine cHit ?_
  exact hr6 _ _ _ hfin6 ⟨p_1,c_1,hf.kp rfl,hc⟩

def daily_Falls_j23 (N : Nat) (a_1 : Int) (out_2 : List daily_Fall) (x_3 : Nat → Int) (mp_3 : Int → Option Int) : Option (Step ((List daily_Fall) × Int × (Nat → Int) × (Int → Option Int)) (Step ((List daily_Fall) × Int × (Nat → Int) × (Int → Option Int)) ((List daily_Fall) × Int))) :=
 some (.cont (out_2,W (a_1 + 1),x_3,mp_3))
def daily_Falls_b20 (N : Nat) (x : Int) (out_1 : List daily_Fall) (a_1 : Int) (x_2 : Nat → Int) (mp_2 : Int → Option Int) : Option (Step ((List daily_Fall) × Int × (Nat → Int) × (Int → Option Int)) (Step ((List daily_Fall) × Int × (Nat → Int) × (Int → Option Int)) ((List daily_Fall) × Int))) :=
 Option.bind (cond (decide (a_1 < x)) (Option.bind (inR x 30) fun un =>
 some (decide ((x_2 x.toNat) < 0))) (some false)) fun t_1 =>
 cond t_1
 (Option.bind (inR x 30) fun un_1 =>
 cond ((min ((mp_2 a_1).getD 0) (W (0 - (x_2 x.toNat)))) == 0)
 (daily_Falls_j23 N a_1 out_1 x_2 mp_2)
 (Option.bind (room ((out_1 ++ [(⟨a_1,x,min ((mp_2 a_1).getD 0) (W (0 - (x_2 x.toNat)))⟩ : daily_Fall)])).length) fun un_2 =>
 Option.bind (inR x 30) fun un_3 =>
 Option.bind (inR x 30) fun un_4 =>
 cond ((((setM mp_2 a_1 (W (((mp_2 a_1).getD 0) - (min ((mp_2 a_1).getD 0) (W (0 - (x_2 x.toNat))))))) a_1).getD 0) == 0)
 (daily_Falls_j23 N a_1 (out_1 ++ [(⟨a_1,x,min ((mp_2 a_1).getD 0) (W (0 - (x_2 x.toNat)))⟩ : daily_Fall)]) (setF x_2 x.toNat (W ((x_2 x.toNat) + (min ((mp_2 a_1).getD 0) (W (0 - (x_2 x.toNat))))))) (delM (setM mp_2 a_1 (W (((mp_2 a_1).getD 0) - (min ((mp_2 a_1).getD 0) (W (0 - (x_2 x.toNat))))))) a_1))
 (daily_Falls_j23 N a_1 (out_1 ++ [(⟨a_1,x,min ((mp_2 a_1).getD 0) (W (0 - (x_2 x.toNat)))⟩ : daily_Fall)]) (setF x_2 x.toNat (W ((x_2 x.toNat) + (min ((mp_2 a_1).getD 0) (W (0 - (x_2 x.toNat))))))) (setM mp_2 a_1 (W (((mp_2 a_1).getD 0) - (min ((mp_2 a_1).getD 0) (W (0 - (x_2 x.toNat))))))))))
 (some (.brk (out_1,a_1,x_2,mp_2)))
def daily_Falls_j17 (N : Nat) (out : List daily_Fall) (x : Int) (x_1 : Nat → Int) (mp_1 : Int → Option Int) : Option (Step ((List daily_Fall) × Int × (Nat → Int) × (Int → Option Int)) ((List daily_Fall) × Int)) :=
 Option.bind (loopO (fun s20 => daily_Falls_b20 N x s20.1 s20.2.1 s20.2.2.1 s20.2.2.2) N (out,0,x_1,mp_1)) fun x20 =>
 exK x20 (fun s20 => some (.cont (s20.1,W (x + 1),s20.2.2.1,s20.2.2.2))) some
def daily_Falls_b11 (N : Nat) (l : List daily_Reading) (out : List daily_Fall) (x : Int) (x_1 : Nat → Int) (mp : Int → Option Int) : Option (Step ((List daily_Fall) × Int × (Nat → Int) × (Int → Option Int)) ((List daily_Fall) × Int)) :=
 cond (decide (x < ((l.length : Nat) : Int)))
 (Option.bind (inR x 30) fun un_5 =>
 cond (decide (0 < (x_1 x.toNat)))
 (Option.bind (inR x 30) fun un_6 =>
 daily_Falls_j17 N out x x_1 (setM mp x (x_1 x.toNat)))
 (daily_Falls_j17 N out x x_1 mp))
 (some (.brk (out,x,x_1,mp)))
def daily_Falls (N : Nat) (l : List daily_Reading) : Option ((List daily_Fall) × Int) :=
 Option.bind (daily_CheckReadings N l) fun r =>
 cond (r != 0)
 (some (([] : List daily_Fall),r))
 (Option.bind (daily_nets N l) fun r_1 =>
 Option.bind (loopO (fun s11 => daily_Falls_b11 N l s11.1 s11.2.1 s11.2.2.1 s11.2.2.2) N (([] : List daily_Fall),0,r_1,(fun _ => none : Int → Option Int))) fun x11 =>
 exK x11 (fun s11 => some (s11.1,0)) some)
theorem daily_Falls_ok {N : Nat} {G : Pers} {Lf : List Ent} {w : World} (l : List daily_Reading) {l_p : Option Addr} {l_c : Nat} (h_l : Rd G 2 l_p l_c (l.map enc_daily_Reading)) (hc : Ctx G (Lf) w) {res : (List daily_Fall) × Int} (hF : daily_Falls N l = some res) : Calls Try.prog 8 #[.slice l_p l.length l_c] w (fun e w => ∃ (p'1 : Option Addr) (c'1 : Nat),e = .returned (.tuple #[.slice p'1 res.1.length c'1,i6 res.2]) ∧ Ctx G (.row p'1 c'1 (res.1.map enc_daily_Fall) 43 3::Lf) w) := by
 unfold daily_Falls at hF
 refine fnIn Try.func8 rfl Try.ntmps8 rfl fun a hf => zS fun K h => sp 2 hf rfl fun a hf => zT h ?_
 refine wp_seq_k fun K2 h2 => zS fun K h => sp 1 hf rfl fun a hf => ?_
 obtain ⟨r,hr,hF⟩ := bnd_some hF
 refine zQ (v := i6 r) hf hc en_14 rfl (fun w hc => daily_CheckReadings_ok l h_l hc hr) fun a w hf hc => sp 1 hf rfl fun a hf => zT h ?_
 refine zS fun K h => sp 2 hf rfl fun a hf => zT h ?_
 refine zI hf rfl hF ?_ ?_ <;> clear hF <;> intro hF
 ·refine zS fun K h => sp 3 hf rfl fun a hf => zT h ?_
  refine wp_ret ?_
  refine xThenR ?_
  obtain rfl := sj hF
  replace hc := hc.nilRow 43 3
  exact zO2 Try.results8 hf rfl rfl ⟨none,0,rfl,hc⟩
 ·refine wp_skip ?_
  refine h2 _ _ ?_
  refine zS fun K h => sp 1 hf rfl fun a hf => ?_
  obtain ⟨r_1,hr_1,hF⟩ := bnd_some hF
  refine zQ (v := .agg (catc [] 30 encI_i64 r_1 []).toArray) hf hc en_21 rfl (fun w hc => daily_nets_ok l h_l hc hr_1) fun a w hf hc => stAl (cs := (catc [] 30 encI_i64 (fun _ => 0) [])) hf hc rfl rfl zr_58 rfl fun b_1 a w hf hc => stStA (enc := encA_58) (f := (fun _ => 0)) (z := r_1) hf hc rfl rfl rfl one_encA_58 sz_58 u0 fun w hc => zT h ?_
  refine zS fun K h => stMM hf hc rfl rfl fun mb a w hf hc => ?_
  replace hc : Ctx _ (.im mb (fun j => ((fun _ => none : Int → Option Int) j).map (Value.int .i64)) none::_) w := hc
  refine sp 1 hf rfl fun a hf => zT h ?_
  refine zS fun K h => sp 1 hf rfl fun a hf => zT h ?_
  refine wp_seq_k fun K9 h9 => zS fun K h => sp 1 hf rfl fun a hf => zP hf rfl (pLenS Try.underlying23 rfl) fun a hf => sp 1 hf rfl fun a hf => zT h ?_
  refine wp_block ?_
  obtain ⟨x11,hx11,hF⟩ := bnd_some hF
  let S11 : ((List daily_Fall) × Int × (Nat → Int) × (Int → Option Int)) → Act → World → Prop := (fun (zz : (List daily_Fall) × Int × (Nat → Int) × (Int → Option Int)) a w => ∃ (p_1 : Option Addr) (c_1 : Nat),Has 80 a [(5,pq b_1),(6,.map (some mb)),(7,.slice p_1 zz.1.length c_1),(20,i6 ((l.length : Nat) : Int)),(21,i6 zz.2.1)] ∧ Ctx G (.row p_1 c_1 (zz.1.map enc_daily_Fall) 43 3::.im mb (fun j => (zz.2.2.2 j).map (Value.int .i64)) none::.box b_1 (catc [] 30 encI_i64 zz.2.2.1 []) 58::Lf) w)
  have hr11 : ∀ (zz : (List daily_Fall) × Int × (Nat → Int) × (Int → Option Int)) a w,x11 = .go zz → S11 zz a w → K9 a w := by
   rintro ⟨out,x,x_1,mp⟩ a w rfl ⟨p_1,c_1,hf,hc⟩
   replace hF := exK_go hF
   refine h9 _ _ ?_
   refine zS fun K h => sp 3 hf rfl fun a hf => zT h ?_
   refine wp_ret ?_
   obtain rfl := sj hF
   replace hc := (hc.drop k2).drop k1
   exact zO2 Try.results8 hf rfl rfl ⟨p_1,c_1,rfl,hc⟩
  have ho11 : ∀ r,x11 = .out r → r = res := by
   rintro r rfl
   exact sj hF
  replace hc := hc.nilRow 43 3
  refine cLoop N (loopW (S := S11) (x := x11) ?_ N (([] : List daily_Fall),0,r_1,(fun _ => none : Int → Option Int)) _ _ ⟨none,0,hf.kp rfl,hc⟩ hx11)
  clear hF hf hc
  rintro ⟨out,x,x_1,mp⟩ st11 a w KB11 ⟨p_1,c_1,hf,hc⟩ hF hfin11 hK11
  unfold daily_Falls_b11 at hF
  refine zS fun K h => sp 1 hf rfl fun a hf => zT h ?_
  refine wp_seq_k fun K14 h14 => zI hf rfl hF ?_ ?_ <;> clear hF <;> intro hF
  ·refine wp_skip ?_
   refine h14 _ _ ?_
   refine wp_seq_k fun K15 h15 => wp_block ?_
   refine zS fun K h => sp 2 hf rfl fun a hf => zT h ?_
   refine wp_seq_k fun K17 h17 => ?_
   have hj17 : ∀ (mp_1 : Int → Option Int) a w,Has 80 a [(5,pq b_1),(6,.map (some mb)),(7,.slice p_1 out.length c_1),(8,i6 x),(20,i6 ((l.length : Nat) : Int)),(21,i6 x)] → Ctx G (.row p_1 c_1 (out.map enc_daily_Fall) 43 3::.im mb (fun j => (mp_1 j).map (Value.int .i64)) none::.box b_1 (catc [] 30 encI_i64 x_1 []) 58::Lf) w → daily_Falls_j17 N out x x_1 mp_1 = some st11 → K17 a w := by
    repeat (clear hF)
    repeat (clear hc)
    repeat (clear hf)
    intro mp_1 a w hf hc hF
    unfold daily_Falls_j17 at hF
    refine h17 _ _ ?_
    refine zS fun K h => sp 1 hf rfl fun a hf => zT h ?_
    refine wp_thenK fun K19 h19 => wp_block ?_
    obtain ⟨x20,hx20,hF⟩ := bnd_some hF
    let S20 : ((List daily_Fall) × Int × (Nat → Int) × (Int → Option Int)) → Act → World → Prop := (fun (zz : (List daily_Fall) × Int × (Nat → Int) × (Int → Option Int)) a w => ∃ (p_2 : Option Addr) (c_2 : Nat),Has 80 a [(5,pq b_1),(6,.map (some mb)),(7,.slice p_2 zz.1.length c_2),(8,i6 x),(9,i6 zz.2.1),(20,i6 ((l.length : Nat) : Int)),(21,i6 x)] ∧ Ctx G (.row p_2 c_2 (zz.1.map enc_daily_Fall) 43 3::.im mb (fun j => (zz.2.2.2 j).map (Value.int .i64)) none::.box b_1 (catc [] 30 encI_i64 zz.2.2.1 []) 58::Lf) w)
    have hr20 : ∀ (zz : (List daily_Fall) × Int × (Nat → Int) × (Int → Option Int)) a w,x20 = .go zz → S20 zz a w → K19 a w := by
     rintro ⟨out_1,a_1,x_2,mp_2⟩ a w rfl ⟨p_2,c_2,hf,hc⟩
     replace hF := exK_go hF
     refine h19 _ _ ?_
     refine h15 _ _ ?_
     refine cReg ?_
     refine sp 2 hf rfl fun a hf => cNil ?_
     exact hK11 (out_1,W (x + 1),x_2,mp_2) _ _ (sj hF).symm ⟨p_2,c_2,hf.kp rfl,hc⟩
    have ho20 : ∀ r,x20 = .out r → r = st11 := by
     rintro r rfl
     exact sj hF
    refine cLoop N (loopW (S := S20) (x := x20) ?_ N (out,0,x_1,mp_1) _ _ ⟨p_1,c_1,hf.kp rfl,hc⟩ hx20)
    clear hF hf hc
    rintro ⟨out_1,a_1,x_2,mp_2⟩ st20 a w KB20 ⟨p_2,c_2,hf,hc⟩ hF hfin20 hK20
    unfold daily_Falls_b20 at hF
    refine wp_seq_k fun K21 h21 => zS fun K h => sp 4 hf rfl fun a hf => ?_
    obtain ⟨t_1,ht_1,hF⟩ := bnd_some hF
    refine stCc 5 (fun a => Has 80 a [(5,pq b_1),(6,.map (some mb)),(7,.slice p_2 out_1.length c_2),(8,i6 x),(9,i6 a_1),(20,i6 ((l.length : Nat) : Int)),(21,i6 x),(33,i6 a_1),(34,i6 x),(35,.bool (decide (a_1 < x))),(36,.bool (decide (a_1 < x))),(41,.bool t_1)]) hc ?_ ?_
    ·cases hb : (decide (a_1 < x))
     ·rw [hb] at hf
      have hF := condF hb ht_1
      obtain rfl := sj hF
      refine stS hf rfl rfl rfl fun a hf => stS hf rfl rfl rfl fun a hf => stS hf rfl rfl rfl fun a hf => stS hf rfl rfl rfl fun a hf => sp 1 hf rfl fun a hf => cNil ⟨hf.kp rfl,hc⟩
     ·rw [hb] at hf
      have hF := condT hb ht_1
      refine sp 1 hf rfl fun a hf => ?_
      obtain ⟨un,hun,hF⟩ := bnd_some hF
      refine zP hf rfl (pIAA Try.underlying58 sz_3 rfl rfl (inR_spec hun).1 (inR_spec hun).2) fun a hf => zE hf hc rfl (eLd1 sc_3 rfl (cell_arr (j := 0) m2 (fun x => (one_encI_i64 x).1) rfl hun rfl)) fun a w hf hc => sp 2 hf rfl fun a hf => ?_
      obtain rfl := sj hF
      exact cNil ⟨hf.kp rfl,hc⟩
    intro a w ⟨hf,hc⟩
    refine zT h ?_
    refine zI hf rfl hF ?_ ?_ <;> clear hF <;> intro hF
    ·refine wp_skip ?_
     refine h21 _ _ ?_
     refine wp_seq_k fun K23 h23 => ?_
     have hj23 : ∀ (out_2 : List daily_Fall) (x_3 : Nat → Int) (mp_3 : Int → Option Int) (p_3 : Option Addr) (c_3 : Nat) a w,Has 80 a [(5,pq b_1),(6,.map (some mb)),(7,.slice p_3 out_2.length c_3),(8,i6 x),(9,i6 a_1),(20,i6 ((l.length : Nat) : Int)),(21,i6 x)] → Ctx G (.row p_3 c_3 (out_2.map enc_daily_Fall) 43 3::.im mb (fun j => (mp_3 j).map (Value.int .i64)) none::.box b_1 (catc [] 30 encI_i64 x_3 []) 58::Lf) w → daily_Falls_j23 N a_1 out_2 x_3 mp_3 = some st20 → K23 a w := by
      repeat (clear hF)
      repeat (clear hc)
      repeat (clear hf)
      intro out_2 x_3 mp_3 p_3 c_3 a w hf hc hF
      unfold daily_Falls_j23 at hF
      refine h23 _ _ ?_
      refine cReg ?_
      refine sp 3 hf rfl fun a hf => cNil ?_
      exact hK20 (out_2,W (a_1 + 1),x_3,mp_3) _ _ (sj hF).symm ⟨p_3,c_3,hf.kp rfl,hc⟩
     refine wp_block ?_
     refine wp_seq_k fun K24 h24 => ?_
     obtain ⟨un_1,hun_1,hF⟩ := bnd_some hF
     refine cQ hc follows_mx (by kernel_rfl) ?_
     refine qE hf rfl rfl rfl (Pu.ev (pM rfl)) fun a hf => qE hf rfl rfl rfl (Pu.ev (pM rfl)) fun a hf => qE hf rfl rfl rfl (eLk (enc := (Value.int .i64)) (z0 := 0) (m := mp_2) m1 Try.underlying60 Try.underlying3 zr_3 rfl rfl) fun a hf => qE hf rfl rfl rfl (Pu.ev (pM rfl)) fun a hf => qE hf rfl rfl rfl (Pu.ev (pIAA Try.underlying58 sz_3 rfl rfl (inR_spec hun_1).1 (inR_spec hun_1).2)) fun a hf => qE hf rfl rfl rfl (eLd1 sc_3 rfl (cell_arr (j := 0) m2 (fun x => (one_encI_i64 x).1) rfl hun_1 rfl)) fun a hf => qE hf rfl rfl rfl (Pu.ev (pNeg rfl)) fun a hf => qE hf rfl rfl rfl (Pu.ev (pMin2 rfl rfl)) fun a hf => qE hf rfl rfl rfl (Pu.ev (pA rfl)) fun a hf => ?_
     intro w hc
     refine h24 _ _ ?_
     refine wp_seq_k fun K25 h25 => zS fun K h => sp 2 hf rfl fun a hf => zT h ?_
     refine zI hf rfl hF ?_ ?_ <;> clear hF <;> intro hF
     ·refine wp_exit ?_
      refine xThen ?_
      refine cHit ?_
      exact hj23 out_1 x_2 mp_2 p_2 c_2 _ _  (hf.kp rfl) hc hF
     ·refine wp_skip ?_
      refine h25 _ _ ?_
      refine zS fun K h => sp 4 hf rfl fun a hf => zP hf rfl (pBuildS (cells := [i6 a_1,i6 x,i6 (min ((mp_2 a_1).getD 0) (W (0 - (x_2 x.toNat))))]) bt_43 rfl rfl) fun a hf => stBS (rows := ([(⟨a_1,x,min ((mp_2 a_1).getD 0) (W (0 - (x_2 x.toNat)))⟩ : daily_Fall)] : List daily_Fall).map enc_daily_Fall) (vs := [(0,.agg #[i6 a_1,i6 x,i6 (min ((mp_2 a_1).getD 0) (W (0 - (x_2 x.toNat))))])]) hf hc rfl rfl sl_33 rfl ⟨rfl,rfl,rfl,trivial⟩ rfl rfl fun b_2 a w hf hc => ?_
      obtain ⟨un_2,hun_2,hF⟩ := bnd_some hF
      refine stApm (xs := out_1) (ys := ([(⟨a_1,x,min ((mp_2 a_1).getD 0) (W (0 - (x_2 x.toNat)))⟩ : daily_Fall)] : List daily_Fall)) hf hc rfl rfl sl_33 rfl rfl rfl rfl rfl one_enc_daily_Fall (src_row hc m0) (fun _ _ => u1) (by simpa using room_spec hun_2) fun p_4 c_4 a w hf hc => sp 1 hf rfl fun a hf => zT h ?_
      refine zS fun K h => sp 1 hf rfl fun a hf => ?_
      obtain ⟨un_3,hun_3,hF⟩ := bnd_some hF
      refine zP hf rfl (pIAA Try.underlying58 sz_3 rfl rfl (inR_spec hun_3).1 (inR_spec hun_3).2) fun a hf => zE hf hc rfl (eLd1 sc_3 rfl (cell_arr (j := 0) m3 (fun x => (one_encI_i64 x).1) rfl hun_3 rfl)) fun a w hf hc => sp 2 hf rfl fun a hf => ?_
      obtain ⟨un_4,hun_4,hF⟩ := bnd_some hF
      refine zP hf rfl (pIAA Try.underlying58 sz_3 rfl rfl (inR_spec hun_4).1 (inR_spec hun_4).2) fun a hf => stAr (vs := [i6 (W ((x_2 x.toNat) + (min ((mp_2 a_1).getD 0) (W (0 - (x_2 x.toNat))))))]) (o' := 0) (z := W ((x_2 x.toNat) + (min ((mp_2 a_1).getD 0) (W (0 - (x_2 x.toNat)))))) hf hc rfl rfl rfl rfl sz_3 rfl (fun x => (one_encI_i64 x).1) rfl hun_4 rfl rfl u3 fun w hc => zT h ?_
      refine zS fun K h => sp 2 hf rfl fun a hf => zE hf hc rfl (eLk (enc := (Value.int .i64)) (z0 := 0) (m := mp_2) m2 Try.underlying60 Try.underlying3 zr_3 rfl rfl) fun a w hf hc => sp 2 hf rfl fun a hf => stMU (enc := (Value.int .i64)) (m := mp_2) (v := W (((mp_2 a_1).getD 0) - (min ((mp_2 a_1).getD 0) (W (0 - (x_2 x.toNat)))))) hf hc rfl Try.underlying60 Try.underlying3 rfl rfl rfl u2 fun w hc => zT h ?_
      refine zS fun K h => sp 2 hf rfl fun a hf => zE hf hc rfl (eLk (enc := (Value.int .i64)) (z0 := 0) (m := (setM mp_2 a_1 (W (((mp_2 a_1).getD 0) - (min ((mp_2 a_1).getD 0) (W (0 - (x_2 x.toNat)))))))) m2 Try.underlying60 Try.underlying3 zr_3 rfl rfl) fun a w hf hc => sp 1 hf rfl fun a hf => zT h ?_
      refine zI hf rfl hF ?_ ?_ <;> clear hF <;> intro hF
      ·refine cReg ?_
       refine sp 2 hf rfl fun a hf => stMDel (enc := (Value.int .i64)) (m := (setM mp_2 a_1 (W (((mp_2 a_1).getD 0) - (min ((mp_2 a_1).getD 0) (W (0 - (x_2 x.toNat)))))))) (k := a_1) hf hc rfl rfl Try.underlying60 Try.underlying3 rfl rfl u2 fun w hc => cNil ?_
       replace hc := hc.drop k0
       exact hj23 (out_1 ++ [(⟨a_1,x,min ((mp_2 a_1).getD 0) (W (0 - (x_2 x.toNat)))⟩ : daily_Fall)]) (setF x_2 x.toNat (W ((x_2 x.toNat) + (min ((mp_2 a_1).getD 0) (W (0 - (x_2 x.toNat))))))) (delM (setM mp_2 a_1 (W (((mp_2 a_1).getD 0) - (min ((mp_2 a_1).getD 0) (W (0 - (x_2 x.toNat))))))) a_1) p_4 c_4 _ _  (hf.kp rfl) hc hF
      ·refine wp_skip ?_
       replace hc := hc.drop k0
       exact hj23 (out_1 ++ [(⟨a_1,x,min ((mp_2 a_1).getD 0) (W (0 - (x_2 x.toNat)))⟩ : daily_Fall)]) (setF x_2 x.toNat (W ((x_2 x.toNat) + (min ((mp_2 a_1).getD 0) (W (0 - (x_2 x.toNat))))))) (setM mp_2 a_1 (W (((mp_2 a_1).getD 0) - (min ((mp_2 a_1).getD 0) (W (0 - (x_2 x.toNat))))))) p_4 c_4 _ _  (hf.kp rfl) hc hF
    ·refine wp_exit ?_
     refine xThen ?_
     refine xThen ?_
     have he := sj hF
     rw [← he] at hfin20
     refine cHit ?_
     exact hr20 _ _ _ hfin20 ⟨p_2,c_2,hf.kp rfl,hc⟩
   refine zS fun K h => sp 1 hf rfl fun a hf => ?_
   obtain ⟨un_5,hun_5,hF⟩ := bnd_some hF
   refine zP hf rfl (pIAA Try.underlying58 sz_3 rfl rfl (inR_spec hun_5).1 (inR_spec hun_5).2) fun a hf => zE hf hc rfl (eLd1 sc_3 rfl (cell_arr (j := 0) m2 (fun x => (one_encI_i64 x).1) rfl hun_5 rfl)) fun a w hf hc => sp 1 hf rfl fun a hf => zT h ?_
   refine zI hf rfl hF ?_ ?_ <;> clear hF <;> intro hF
   ·refine cReg ?_
    refine sp 3 hf rfl fun a hf => ?_
    obtain ⟨un_6,hun_6,hF⟩ := bnd_some hF
    refine zP hf rfl (pIAA Try.underlying58 sz_3 rfl rfl (inR_spec hun_6).1 (inR_spec hun_6).2) fun a hf => zE hf hc rfl (eLd1 sc_3 rfl (cell_arr (j := 0) m2 (fun x => (one_encI_i64 x).1) rfl hun_6 rfl)) fun a w hf hc => stMU (enc := (Value.int .i64)) (m := mp) (v := (x_1 x.toNat)) hf hc rfl Try.underlying60 Try.underlying3 rfl rfl rfl u1 fun w hc => cNil ?_
    exact hj17 (setM mp x (x_1 x.toNat)) _ _  (hf.kp rfl) hc hF
   ·refine wp_skip ?_
    exact hj17 mp _ _  (hf.kp rfl) hc hF
  ·refine wp_exit ?_
   refine xThen ?_
   refine xThen ?_
   have he := sj hF
   rw [← he] at hfin11
   refine cHit ?_
   exact hr11 _ _ _ hfin11 ⟨p_1,c_1,hf.kp rfl,hc⟩

def daily_Fall_wrong_j3 (N : Nat) (e_1 : Int) : Option (Int) :=
 some e_1
def daily_Fall_wrong_j5 (N : Nat)  : Option (Int) :=
 daily_Fall_wrong_j3 N 4
def daily_Fall_wrong_j7 (N : Nat)  : Option (Int) :=
 daily_Fall_wrong_j3 N 9
def daily_Fall_wrong_j9 (N : Nat)  : Option (Int) :=
 daily_Fall_wrong_j3 N 2
def daily_Fall_wrong (N : Nat) (f_ : daily_Fall) (readings : Int) : Option (Int) :=
 cond (!(daily_in f_.A 0 (W (readings - 1))))
 (daily_Fall_wrong_j9 N)
 (cond (!(daily_in f_.B 0 (W (readings - 1))))
 (daily_Fall_wrong_j9 N)
 (cond (decide (f_.B ≤ f_.A))
 (daily_Fall_wrong_j7 N)
 (cond (!(daily_in f_.Weight 1 100))
 (daily_Fall_wrong_j5 N)
 (daily_Fall_wrong_j3 N 0))))
theorem daily_Fall_wrong_ok {N : Nat} {G : Pers} {Lf : List Ent} {w : World} (f_ : daily_Fall) (readings : Int)   (hc : Ctx G (Lf) w) {res : Int} (hF : daily_Fall_wrong N f_ readings = some res) : Calls Try.prog 22 #[.agg #[i6 f_.A,i6 f_.B,i6 f_.Weight],i6 readings] w (fun e w => e = .returned (i6 res) ∧ Ctx G (Lf) w) := by
 unfold daily_Fall_wrong at hF
 refine fnIn Try.func22 rfl Try.ntmps22 rfl fun a hf => zS fun K h => zB hf hc rfl fun b_1 a w hf hc => sp 1 hf rfl fun a hf => zT h ?_
 refine zS fun K h => sp 1 hf rfl fun a hf => zT h ?_
 refine wp_seq_k fun K3 h3 => ?_
 have hj3 : ∀ (e_1 : Int) a w,Has 32 a [(5,i6 e_1)] → Ctx G (Lf) w → daily_Fall_wrong_j3 N e_1 = some res → K3 a w := by
  repeat (clear hF)
  repeat (clear hc)
  repeat (clear hf)
  intro e_1 a w hf hc hF
  unfold daily_Fall_wrong_j3 at hF
  refine h3 _ _ ?_
  refine zS fun K h => sp 2 hf rfl fun a hf => zT h ?_
  refine wp_ret ?_
  obtain rfl := sj hF
  exact zO1 Try.results22 hf rfl ⟨rfl,hc⟩
 refine wp_block ?_
 refine wp_seq_k fun K5 h5 => ?_
 have hj5 : ∀ a w,Has 32 a [] → Ctx G (Lf) w → daily_Fall_wrong_j5 N = some res → K5 a w := by
  repeat (clear hF)
  repeat (clear hc)
  repeat (clear hf)
  intro a w hf hc hF
  unfold daily_Fall_wrong_j5 at hF
  refine h5 _ _ ?_
  refine zS fun K h => sp 1 hf rfl fun a hf => zT h ?_
  refine wp_exit ?_
  refine cHit ?_
  exact hj3 4 _ _  (hf.kp rfl) hc hF
 refine wp_block ?_
 refine wp_seq_k fun K7 h7 => ?_
 have hj7 : ∀ a w,Has 32 a [] → Ctx G (Lf) w → daily_Fall_wrong_j7 N = some res → K7 a w := by
  repeat (clear hF)
  repeat (clear hc)
  repeat (clear hf)
  intro a w hf hc hF
  unfold daily_Fall_wrong_j7 at hF
  refine h7 _ _ ?_
  refine zS fun K h => sp 1 hf rfl fun a hf => zT h ?_
  refine wp_exit ?_
  refine cMiss rfl ?_
  refine xThen ?_
  refine cHit ?_
  exact hj3 9 _ _  (hf.kp rfl) hc hF
 refine wp_block ?_
 refine wp_seq_k fun K9 h9 => ?_
 have hj9 : ∀ a w,Has 32 a [] → Ctx G (Lf) w → daily_Fall_wrong_j9 N = some res → K9 a w := by
  repeat (clear hF)
  repeat (clear hc)
  repeat (clear hf)
  intro a w hf hc hF
  unfold daily_Fall_wrong_j9 at hF
  refine h9 _ _ ?_
  refine zS fun K h => sp 1 hf rfl fun a hf => zT h ?_
  refine wp_exit ?_
  refine cMiss rfl ?_
  refine xThen ?_
  refine cMiss rfl ?_
  refine xThen ?_
  refine cHit ?_
  exact hj3 2 _ _  (hf.kp rfl) hc hF
 refine wp_block ?_
 refine wp_thenK fun K11 h11 => wp_block ?_
 refine wp_seq_k fun K12 h12 => wp_seq_k fun K13 h13 => zS fun K h => zP hf rfl (pFA fa_43_0 rfl) fun a hf => zL hf hc sc_3 m0 rfl fun a w hf hc => sp 2 hf rfl fun a hf => zQ (v := .bool (daily_in f_.A 0 (W (readings - 1)))) hf hc en_20 rfl (fun w hc => daily_in_ok f_.A 0 (W (readings - 1)) hc rfl) fun a w hf hc => sp 2 hf rfl fun a hf => zT h ?_
 refine zI hf rfl hF ?_ ?_ <;> clear hF <;> intro hF
 ·refine wp_exit ?_
  refine xThen ?_
  refine xThen ?_
  refine cHit ?_
  refine h11 _ _ ?_
  replace hc := hc.drop k0
  exact hj9  _ _  (hf.keep trivial) hc hF
 ·refine wp_skip ?_
  refine h13 _ _ ?_
  refine wp_seq_k fun K15 h15 => zS fun K h => zP hf rfl (pFA fa_43_1 rfl) fun a hf => zL hf hc sc_3 m0 rfl fun a w hf hc => sp 2 hf rfl fun a hf => zQ (v := .bool (daily_in f_.B 0 (W (readings - 1)))) hf hc en_20 rfl (fun w hc => daily_in_ok f_.B 0 (W (readings - 1)) hc rfl) fun a w hf hc => sp 2 hf rfl fun a hf => zT h ?_
  refine zI hf rfl hF ?_ ?_ <;> clear hF <;> intro hF
  ·refine wp_exit ?_
   refine xThen ?_
   refine xThen ?_
   refine cMiss rfl ?_
   refine xThen ?_
   refine cHit ?_
   replace hc := hc.drop k0
   exact hj9  _ _  (hf.keep trivial) hc hF
  ·refine wp_skip ?_
   refine h15 _ _ ?_
   refine wp_seq_k fun K17 h17 => zS fun K h => zP hf rfl (pFA fa_43_0 rfl) fun a hf => zL hf hc sc_3 m0 rfl fun a w hf hc => zP hf rfl (pFA fa_43_1 rfl) fun a hf => zL hf hc sc_3 m0 rfl fun a w hf hc => sp 2 hf rfl fun a hf => zT h ?_
   refine zI hf rfl hF ?_ ?_ <;> clear hF <;> intro hF
   ·refine wp_exit ?_
    refine xThen ?_
    refine xThen ?_
    refine cMiss rfl ?_
    refine xThen ?_
    refine cMiss rfl ?_
    refine xThen ?_
    refine cHit ?_
    replace hc := hc.drop k0
    exact hj7  _ _  (hf.keep trivial) hc hF
   ·refine wp_skip ?_
    refine h17 _ _ ?_
    refine zS fun K h => zP hf rfl (pFA fa_43_2 rfl) fun a hf => zL hf hc sc_3 m0 rfl fun a w hf hc => zQ (v := .bool (daily_in f_.Weight 1 100)) hf hc en_20 rfl (fun w hc => daily_in_ok f_.Weight 1 100 hc rfl) fun a w hf hc => sp 2 hf rfl fun a hf => zT h ?_
    refine zI hf rfl hF ?_ ?_ <;> clear hF <;> intro hF
    ·refine wp_exit ?_
     refine xThen ?_
     refine cMiss rfl ?_
     refine xThen ?_
     refine cMiss rfl ?_
     refine xThen ?_
     refine cMiss rfl ?_
     refine xThen ?_
     refine cHit ?_
     replace hc := hc.drop k0
     exact hj5  _ _  (hf.keep trivial) hc hF
    ·refine wp_skip ?_
     refine h12 _ _ ?_
     refine wp_exit ?_
     refine cMiss rfl ?_
     refine xThen ?_
     refine cMiss rfl ?_
     refine xThen ?_
     refine cMiss rfl ?_
     refine xThen ?_
     refine cMiss rfl ?_
     refine xThen ?_
     refine cHit ?_
     replace hc := hc.drop k0
     exact hj3 0 _ _  (hf.kp rfl) hc hF

end Go.Nilo
