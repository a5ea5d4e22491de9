/-
 What functions of the Go text compute, as plain functions, and that they do, part 1 of 4. Conditions: what each theorem names.
-/
import Derived.Test.YtepopogbmjfpeaaNl27
import Derived.Test.YtepopogbmjfpeaaProg
set_option linter.unusedVariables false
set_option linter.unusedSimpArgs false
set_option maxRecDepth 100000
set_option maxHeartbeats 4000000
namespace Go.Nilo
open Go.Proofs


structure shift_Mark where
 Stage : Int
 Flow : Int
@[reducible] def enc_shift_Mark (x : shift_Mark) : List Value := [.int .i64 x.Stage,.int .i64 x.Flow]
theorem one_enc_shift_Mark : ∀ x,(enc_shift_Mark x).length = 2 ∧ ones (enc_shift_Mark x) = true := fun _ => ⟨rfl,rfl⟩

structure api_Span where
 Lo : Int
 Hi : Int
@[reducible] def enc_api_Span (x : api_Span) : List Value := [.int .i64 x.Lo,.int .i64 x.Hi]
theorem one_enc_api_Span : ∀ x,(enc_api_Span x).length = 2 ∧ ones (enc_api_Span x) = true := fun _ => ⟨rfl,rfl⟩

structure shift_Gauging where
 Day : Int
 Stage : Int
 Flow : api_Span
@[reducible] def enc_shift_Gauging (x : shift_Gauging) : List Value := [.int .i64 x.Day,.int .i64 x.Stage,.int .i64 x.Flow.Lo,.int .i64 x.Flow.Hi]
theorem one_enc_shift_Gauging : ∀ x,(enc_shift_Gauging x).length = 4 ∧ ones (enc_shift_Gauging x) = true := fun _ => ⟨rfl,rfl⟩

structure shift_Record where
 Rating : List shift_Mark
 Gaugings : List shift_Gauging

structure ref05_Mark where
 Stage : Int
 Flow : Int
@[reducible] def enc_ref05_Mark (x : ref05_Mark) : List Value := [.int .i64 x.Stage,.int .i64 x.Flow]
theorem one_enc_ref05_Mark : ∀ x,(enc_ref05_Mark x).length = 2 ∧ ones (enc_ref05_Mark x) = true := fun _ => ⟨rfl,rfl⟩

structure ref05_Gauging where
 Day : Int
 Stage : Int
 Flow : api_Span
@[reducible] def enc_ref05_Gauging (x : ref05_Gauging) : List Value := [.int .i64 x.Day,.int .i64 x.Stage,.int .i64 x.Flow.Lo,.int .i64 x.Flow.Hi]
theorem one_enc_ref05_Gauging : ∀ x,(enc_ref05_Gauging x).length = 4 ∧ ones (enc_ref05_Gauging x) = true := fun _ => ⟨rfl,rfl⟩

structure ref05_Record where
 Rating : List ref05_Mark
 Gaugings : List ref05_Gauging

structure api_Ratio where
 N : Int
 D : Int
@[reducible] def enc_api_Ratio (x : api_Ratio) : List Value := [.int .i64 x.N,.int .i64 x.D]
theorem one_enc_api_Ratio : ∀ x,(enc_api_Ratio x).length = 2 ∧ ones (enc_api_Ratio x) = true := fun _ => ⟨rfl,rfl⟩

structure shift_book where
 Record : shift_Record
 passes : List api_Span

structure shift_Turn where
 Gauging : Int
 Up : Bool
@[reducible] def enc_shift_Turn (x : shift_Turn) : List Value := [.int .i64 x.Gauging,.bool x.Up]
theorem one_enc_shift_Turn : ∀ x,(enc_shift_Turn x).length = 2 ∧ ones (enc_shift_Turn x) = true := fun _ => ⟨rfl,rfl⟩

theorem fa_25_0 : ∀ (q : Addr) (w : World),(Instr.fieldAt 25 (.pointer (some q)) 0).run Try.prog w = .ok (.pointer (some (q.add 0))) w := fun _ _ => by kernel_rfl

theorem sc_22 : ScT Try.prog 22 := ⟨⟨_,Try.underlying22,trivial⟩,by kernel_rfl⟩

theorem fa_25_1 : ∀ (q : Addr) (w : World),(Instr.fieldAt 25 (.pointer (some q)) 1).run Try.prog w = .ok (.pointer (some (q.add 1))) w := fun _ _ => by kernel_rfl

theorem sc_23 : ScT Try.prog 23 := ⟨⟨_,Try.underlying23,trivial⟩,by kernel_rfl⟩

theorem ag_25 : AggT Try.prog 25 2 := ⟨⟨_,Try.underlying25,trivial⟩,by kernel_rfl⟩

theorem zr_34 : (Try.prog.info? 34).map (·.zero) = some (some (.agg #[.slice none 0 0,.slice none 0 0])) := by kernel_rfl

theorem sz_77 : (Try.prog.info? 77).map (·.size) = some 2 := by kernel_rfl

theorem ag_77 : AggT Try.prog 77 2 := ⟨⟨_,Try.underlying77,trivial⟩,by kernel_rfl⟩

theorem zr_77 : (Try.prog.info? 77).map (·.zero) = some (some (.agg #[.int .i64 0,.int .i64 0])) := by kernel_rfl

theorem sl_31 : SlT Try.prog 31 134 2 16 (.agg #[.int .i64 0,.int .i64 0]) := SlT.of Try.underlying31 (by kernel_rfl) (by decide)

theorem en_19 : En Try.prog 19 := En.of Try.func19 (by kernel_rfl) (by kernel_rfl)

theorem bt_34 : builtInfo Try.prog 34 = some ([.slice none 0 0,.slice none 0 0],[(0,1),(1,1)]) := by kernel_rfl

theorem sz_34 : (Try.prog.info? 34).map (·.size) = some 2 := by kernel_rfl

theorem sz_71 : (Try.prog.info? 71).map (·.size) = some 4 := by kernel_rfl

theorem ag_71 : AggT Try.prog 71 4 := ⟨⟨_,Try.underlying71,trivial⟩,by kernel_rfl⟩

theorem zr_71 : (Try.prog.info? 71).map (·.zero) = some (some (.agg #[.int .i64 0,.int .i64 0,.int .i64 0,.int .i64 0])) := by kernel_rfl

theorem fa_34_1 : ∀ (q : Addr) (w : World),(Instr.fieldAt 34 (.pointer (some q)) 1).run Try.prog w = .ok (.pointer (some (q.add 1))) w := fun _ _ => by kernel_rfl

theorem sc_32 : ScT Try.prog 32 := ⟨⟨_,Try.underlying32,trivial⟩,by kernel_rfl⟩

theorem sl_32 : SlT Try.prog 32 129 4 32 (.agg #[.int .i64 0,.int .i64 0,.int .i64 0,.int .i64 0]) := SlT.of Try.underlying32 (by kernel_rfl) (by decide)

theorem sz_32 : (Try.prog.info? 32).map (·.size) = some 1 := by kernel_rfl

theorem ag_34 : AggT Try.prog 34 2 := ⟨⟨_,Try.underlying34,trivial⟩,by kernel_rfl⟩

theorem en_16 : En Try.prog 16 := En.of Try.func16 (by kernel_rfl) (by kernel_rfl)

theorem fa_34_0 : ∀ (q : Addr) (w : World),(Instr.fieldAt 34 (.pointer (some q)) 0).run Try.prog w = .ok (.pointer (some (q.add 0))) w := fun _ _ => by kernel_rfl

theorem sc_31 : ScT Try.prog 31 := ⟨⟨_,Try.underlying31,trivial⟩,by kernel_rfl⟩

theorem sz_134 : (Try.prog.info? 134).map (·.size) = some 2 := by kernel_rfl

theorem fa_134_0 : ∀ (q : Addr) (w : World),(Instr.fieldAt 134 (.pointer (some q)) 0).run Try.prog w = .ok (.pointer (some (q.add 0))) w := fun _ _ => by kernel_rfl

theorem sc_3 : ScT Try.prog 3 := ⟨⟨_,Try.underlying3,trivial⟩,by kernel_rfl⟩

theorem en_66 : En Try.prog 66 := En.of Try.func66 (by kernel_rfl) (by kernel_rfl)

theorem fa_134_1 : ∀ (q : Addr) (w : World),(Instr.fieldAt 134 (.pointer (some q)) 1).run Try.prog w = .ok (.pointer (some (q.add 1))) w := fun _ _ => by kernel_rfl

theorem en_65 : En Try.prog 65 := En.of Try.func65 (by kernel_rfl) (by kernel_rfl)

theorem sz_129 : (Try.prog.info? 129).map (·.size) = some 4 := by kernel_rfl

theorem ag_129 : AggT Try.prog 129 4 := ⟨⟨_,Try.underlying129,trivial⟩,by kernel_rfl⟩

theorem zr_129 : (Try.prog.info? 129).map (·.zero) = some (some (.agg #[.int .i64 0,.int .i64 0,.int .i64 0,.int .i64 0])) := by kernel_rfl

theorem fa_129_0 : ∀ (q : Addr) (w : World),(Instr.fieldAt 129 (.pointer (some q)) 0).run Try.prog w = .ok (.pointer (some (q.add 0))) w := fun _ _ => by kernel_rfl

theorem fa_129_1 : ∀ (q : Addr) (w : World),(Instr.fieldAt 129 (.pointer (some q)) 1).run Try.prog w = .ok (.pointer (some (q.add 1))) w := fun _ _ => by kernel_rfl

theorem fa_129_2 : ∀ (q : Addr) (w : World),(Instr.fieldAt 129 (.pointer (some q)) 2).run Try.prog w = .ok (.pointer (some (q.add 2))) w := fun _ _ => by kernel_rfl

theorem fa_50_0 : ∀ (q : Addr) (w : World),(Instr.fieldAt 50 (.pointer (some q)) 0).run Try.prog w = .ok (.pointer (some (q.add 0))) w := fun _ _ => by kernel_rfl

theorem fa_50_1 : ∀ (q : Addr) (w : World),(Instr.fieldAt 50 (.pointer (some q)) 1).run Try.prog w = .ok (.pointer (some (q.add 1))) w := fun _ _ => by kernel_rfl

theorem follows_mx : Try.prog.follows .mixedOrders = true := by kernel_rfl

theorem en_67 : En Try.prog 67 := En.of Try.func67 (by kernel_rfl) (by kernel_rfl)

theorem en_15 : En Try.prog 15 := En.of Try.func15 (by kernel_rfl) (by kernel_rfl)

theorem zr_37 : (Try.prog.info? 37).map (·.zero) = some (some (.agg #[.int .i64 0,.int .i64 0])) := by kernel_rfl

theorem bt_37 : builtInfo Try.prog 37 = some ([.int .i64 0,.int .i64 0],[(0,1),(1,1)]) := by kernel_rfl

theorem sz_37 : (Try.prog.info? 37).map (·.size) = some 2 := by kernel_rfl

theorem ag_134 : AggT Try.prog 134 2 := ⟨⟨_,Try.underlying134,trivial⟩,by kernel_rfl⟩

theorem zr_134 : (Try.prog.info? 134).map (·.zero) = some (some (.agg #[.int .i64 0,.int .i64 0])) := by kernel_rfl

theorem ag_37 : AggT Try.prog 37 2 := ⟨⟨_,Try.underlying37,trivial⟩,by kernel_rfl⟩

theorem en_72 : En Try.prog 72 := En.of Try.func72 (by kernel_rfl) (by kernel_rfl)

theorem en_70 : En Try.prog 70 := En.of Try.func70 (by kernel_rfl) (by kernel_rfl)

theorem fa_37_0 : ∀ (q : Addr) (w : World),(Instr.fieldAt 37 (.pointer (some q)) 0).run Try.prog w = .ok (.pointer (some (q.add 0))) w := fun _ _ => by kernel_rfl

theorem fa_37_1 : ∀ (q : Addr) (w : World),(Instr.fieldAt 37 (.pointer (some q)) 1).run Try.prog w = .ok (.pointer (some (q.add 1))) w := fun _ _ => by kernel_rfl

theorem sl_61 : SlT Try.prog 61 3 1 8 (.int .i64 0) := SlT.of Try.underlying61 (by kernel_rfl) (by decide)

theorem sz_3 : (Try.prog.info? 3).map (·.size) = some 1 := by kernel_rfl

theorem bt_50 : builtInfo Try.prog 50 = some ([.int .i64 0,.int .i64 0],[(0,1),(1,1)]) := by kernel_rfl

theorem sl_44 : SlT Try.prog 44 50 2 16 (.agg #[.int .i64 0,.int .i64 0]) := SlT.of Try.underlying44 (by kernel_rfl) (by decide)

theorem en_23 : En Try.prog 23 := En.of Try.func23 (by kernel_rfl) (by kernel_rfl)

theorem sz_50 : (Try.prog.info? 50).map (·.size) = some 2 := by kernel_rfl

theorem ag_50 : AggT Try.prog 50 2 := ⟨⟨_,Try.underlying50,trivial⟩,by kernel_rfl⟩

theorem zr_50 : (Try.prog.info? 50).map (·.zero) = some (some (.agg #[.int .i64 0,.int .i64 0])) := by kernel_rfl

theorem en_26 : En Try.prog 26 := En.of Try.func26 (by kernel_rfl) (by kernel_rfl)

theorem zr_25 : (Try.prog.info? 25).map (·.zero) = some (some (.agg #[.slice none 0 0,.slice none 0 0])) := by kernel_rfl

theorem bt_77 : builtInfo Try.prog 77 = some ([.int .i64 0,.int .i64 0],[(0,1),(1,1)]) := by kernel_rfl

theorem sl_22 : SlT Try.prog 22 77 2 16 (.agg #[.int .i64 0,.int .i64 0]) := SlT.of Try.underlying22 (by kernel_rfl) (by decide)

theorem en_47 : En Try.prog 47 := En.of Try.func47 (by kernel_rfl) (by kernel_rfl)

theorem bt_71 : builtInfo Try.prog 71 = some ([.int .i64 0,.int .i64 0,.int .i64 0,.int .i64 0],[(0,1),(1,1),(2,2)]) := by kernel_rfl

theorem sl_23 : SlT Try.prog 23 71 4 32 (.agg #[.int .i64 0,.int .i64 0,.int .i64 0,.int .i64 0]) := SlT.of Try.underlying23 (by kernel_rfl) (by decide)

theorem bt_25 : builtInfo Try.prog 25 = some ([.slice none 0 0,.slice none 0 0],[(0,1),(1,1)]) := by kernel_rfl

theorem sz_25 : (Try.prog.info? 25).map (·.size) = some 2 := by kernel_rfl

theorem en_55 : En Try.prog 55 := En.of Try.func55 (by kernel_rfl) (by kernel_rfl)

theorem en_59 : En Try.prog 59 := En.of Try.func59 (by kernel_rfl) (by kernel_rfl)

theorem sc_191 : ScT Try.prog 191 := ⟨⟨_,Try.underlying191,trivial⟩,by kernel_rfl⟩

theorem fa_77_0 : ∀ (q : Addr) (w : World),(Instr.fieldAt 77 (.pointer (some q)) 0).run Try.prog w = .ok (.pointer (some (q.add 0))) w := fun _ _ => by kernel_rfl

theorem en_62 : En Try.prog 62 := En.of Try.func62 (by kernel_rfl) (by kernel_rfl)

theorem fa_77_1 : ∀ (q : Addr) (w : World),(Instr.fieldAt 77 (.pointer (some q)) 1).run Try.prog w = .ok (.pointer (some (q.add 1))) w := fun _ _ => by kernel_rfl

theorem en_63 : En Try.prog 63 := En.of Try.func63 (by kernel_rfl) (by kernel_rfl)

theorem en_101 : En Try.prog 101 := En.of Try.func101 (by kernel_rfl) (by kernel_rfl)

theorem en_134 : En Try.prog 134 := En.of Try.func134 (by kernel_rfl) (by kernel_rfl)

theorem en_105 : En Try.prog 105 := En.of Try.func105 (by kernel_rfl) (by kernel_rfl)

theorem en_133 : En Try.prog 133 := En.of Try.func133 (by kernel_rfl) (by kernel_rfl)

theorem en_100 : En Try.prog 100 := En.of Try.func100 (by kernel_rfl) (by kernel_rfl)

theorem en_58 : En Try.prog 58 := En.of Try.func58 (by kernel_rfl) (by kernel_rfl)

theorem en_64 : En Try.prog 64 := En.of Try.func64 (by kernel_rfl) (by kernel_rfl)

theorem en_68 : En Try.prog 68 := En.of Try.func68 (by kernel_rfl) (by kernel_rfl)

theorem en_106 : En Try.prog 106 := En.of Try.func106 (by kernel_rfl) (by kernel_rfl)

theorem en_71 : En Try.prog 71 := En.of Try.func71 (by kernel_rfl) (by kernel_rfl)

theorem en_104 : En Try.prog 104 := En.of Try.func104 (by kernel_rfl) (by kernel_rfl)

theorem en_69 : En Try.prog 69 := En.of Try.func69 (by kernel_rfl) (by kernel_rfl)

theorem en_17 : En Try.prog 17 := En.of Try.func17 (by kernel_rfl) (by kernel_rfl)

theorem en_20 : En Try.prog 20 := En.of Try.func20 (by kernel_rfl) (by kernel_rfl)

theorem ge_37 : Try.prog.eqGuardType Try.prog.depth 37 = false := by kernel_rfl

theorem eqs_37 (x0 : Int) (x1 : Int) (y0 : Int) (y1 : Int) (w : World) : (Op.equalIn 10000 37 (.agg #[.int .i64 x0,.int .i64 x1]) (.agg #[.int .i64 y0,.int .i64 y1])).run Try.prog w = .ok (x0 == y0 && x1 == y1) w := by
 rw [run_equalIn_agg w 9999 37 _ _ (by kernel_rfl) (by kernel_rfl)]
 simp [Op.eqFields,part,go_sem]
 repeat' split
 all_goals simp_all

theorem sc_126 : ScT Try.prog 126 := ⟨⟨_,Try.underlying126,trivial⟩,by kernel_rfl⟩

theorem fa_71_0 : ∀ (q : Addr) (w : World),(Instr.fieldAt 71 (.pointer (some q)) 0).run Try.prog w = .ok (.pointer (some (q.add 0))) w := fun _ _ => by kernel_rfl

theorem fa_71_1 : ∀ (q : Addr) (w : World),(Instr.fieldAt 71 (.pointer (some q)) 1).run Try.prog w = .ok (.pointer (some (q.add 1))) w := fun _ _ => by kernel_rfl

theorem fa_71_2 : ∀ (q : Addr) (w : World),(Instr.fieldAt 71 (.pointer (some q)) 2).run Try.prog w = .ok (.pointer (some (q.add 2))) w := fun _ _ => by kernel_rfl

theorem en_61 : En Try.prog 61 := En.of Try.func61 (by kernel_rfl) (by kernel_rfl)

theorem en_103 : En Try.prog 103 := En.of Try.func103 (by kernel_rfl) (by kernel_rfl)

theorem en_135 : En Try.prog 135 := En.of Try.func135 (by kernel_rfl) (by kernel_rfl)

theorem en_102 : En Try.prog 102 := En.of Try.func102 (by kernel_rfl) (by kernel_rfl)

theorem en_60 : En Try.prog 60 := En.of Try.func60 (by kernel_rfl) (by kernel_rfl)

theorem en_14 : En Try.prog 14 := En.of Try.func14 (by kernel_rfl) (by kernel_rfl)

theorem bt_140 : builtInfo Try.prog 140 = some ([.slice none 0 0,.slice none 0 0,.slice none 0 0],[(0,2),(2,1)]) := by kernel_rfl

theorem zr_194 : (Try.prog.info? 194).map (·.zero) = some (some (.nilFunc)) := by kernel_rfl

theorem sz_194 : (Try.prog.info? 194).map (·.size) = some 1 := by kernel_rfl

theorem en_82 : En Try.prog 82 := En.of Try.func82 (by kernel_rfl) (by kernel_rfl)

theorem sc_194 : ScT Try.prog 194 := ⟨⟨_,Try.underlying194,trivial⟩,by kernel_rfl⟩

theorem fa_140_0 : ∀ (q : Addr) (w : World),(Instr.fieldAt 140 (.pointer (some q)) 0).run Try.prog w = .ok (.pointer (some (q.add 0))) w := fun _ _ => by kernel_rfl

theorem en_107 : En Try.prog 107 := En.of Try.func107 (by kernel_rfl) (by kernel_rfl)

theorem fa_140_1 : ∀ (q : Addr) (w : World),(Instr.fieldAt 140 (.pointer (some q)) 1).run Try.prog w = .ok (.pointer (some (q.add 2))) w := fun _ _ => by kernel_rfl

theorem sc_44 : ScT Try.prog 44 := ⟨⟨_,Try.underlying44,trivial⟩,by kernel_rfl⟩

theorem sz_44 : (Try.prog.info? 44).map (·.size) = some 1 := by kernel_rfl

theorem en_113 : En Try.prog 113 := En.of Try.func113 (by kernel_rfl) (by kernel_rfl)

theorem en_73 : En Try.prog 73 := En.of Try.func73 (by kernel_rfl) (by kernel_rfl)

theorem en_22 : En Try.prog 22 := En.of Try.func22 (by kernel_rfl) (by kernel_rfl)

theorem en_79 : En Try.prog 79 := En.of Try.func79 (by kernel_rfl) (by kernel_rfl)

theorem en_43 : En Try.prog 43 := En.of Try.func43 (by kernel_rfl) (by kernel_rfl)

theorem zr_155 : (Try.prog.info? 155).map (·.zero) = some (some (.agg (catc [] 601 encI_i64 (fun _ => 0) []).toArray)) := by kernel_rfl

theorem en_136 : En Try.prog 136 := En.of Try.func136 (by kernel_rfl) (by kernel_rfl)

@[reducible] def encA_155 (x : Nat → Int) : List Value := catc [] 601 encI_i64 x []
theorem one_encA_155 : ∀ x,(encA_155 x).length = 601 ∧ ones (encA_155 x) = true := fun x => ⟨(catc_one one_encI_i64 601 x).1.trans (by decide),(catc_one one_encI_i64 601 x).2⟩

theorem ag_155 : AggT Try.prog 155 601 := ⟨⟨_,Try.underlying155,trivial⟩,by kernel_rfl⟩

theorem sl_152 : SlT Try.prog 152 155 601 4808 (.agg (catc [] 601 encI_i64 (fun _ => 0) []).toArray) := SlT.of Try.underlying152 (by kernel_rfl) (by decide)

theorem sc_211 : ScT Try.prog 211 := ⟨⟨_,Try.underlying211,trivial⟩,by kernel_rfl⟩

theorem sz_155 : (Try.prog.info? 155).map (·.size) = some 601 := by kernel_rfl

theorem zr_3 : (Try.prog.info? 3).map (·.zero) = some (some (.int .i64 0)) := by kernel_rfl

theorem en_137 : En Try.prog 137 := En.of Try.func137 (by kernel_rfl) (by kernel_rfl)

theorem en_108 : En Try.prog 108 := En.of Try.func108 (by kernel_rfl) (by kernel_rfl)

theorem en_112 : En Try.prog 112 := En.of Try.func112 (by kernel_rfl) (by kernel_rfl)

theorem en_80 : En Try.prog 80 := En.of Try.func80 (by kernel_rfl) (by kernel_rfl)

theorem en_81 : En Try.prog 81 := En.of Try.func81 (by kernel_rfl) (by kernel_rfl)

theorem zr_61 : (Try.prog.info? 61).map (·.zero) = some (some (.slice none 0 0)) := by kernel_rfl

theorem sc_61 : ScT Try.prog 61 := ⟨⟨_,Try.underlying61,trivial⟩,by kernel_rfl⟩

theorem sz_61 : (Try.prog.info? 61).map (·.size) = some 1 := by kernel_rfl

theorem en_114 : En Try.prog 114 := En.of Try.func114 (by kernel_rfl) (by kernel_rfl)

theorem en_83 : En Try.prog 83 := En.of Try.func83 (by kernel_rfl) (by kernel_rfl)

theorem en_33 : En Try.prog 33 := En.of Try.func33 (by kernel_rfl) (by kernel_rfl)

theorem bt_91 : builtInfo Try.prog 91 = some ([.int .i64 0,.bool false],[(0,1),(1,1)]) := by kernel_rfl

theorem sl_87 : SlT Try.prog 87 91 2 16 (.agg #[.int .i64 0,.bool false]) := SlT.of Try.underlying87 (by kernel_rfl) (by decide)

theorem sz_91 : (Try.prog.info? 91).map (·.size) = some 2 := by kernel_rfl

theorem ag_91 : AggT Try.prog 91 2 := ⟨⟨_,Try.underlying91,trivial⟩,by kernel_rfl⟩

theorem sc_165 : ScT Try.prog 165 := ⟨⟨_,Try.underlying165,trivial⟩,by kernel_rfl⟩

theorem fa_91_0 : ∀ (q : Addr) (w : World),(Instr.fieldAt 91 (.pointer (some q)) 0).run Try.prog w = .ok (.pointer (some (q.add 0))) w := fun _ _ => by kernel_rfl

theorem en_90 : En Try.prog 90 := En.of Try.func90 (by kernel_rfl) (by kernel_rfl)

theorem en_118 : En Try.prog 118 := En.of Try.func118 (by kernel_rfl) (by kernel_rfl)

theorem en_142 : En Try.prog 142 := En.of Try.func142 (by kernel_rfl) (by kernel_rfl)

theorem en_117 : En Try.prog 117 := En.of Try.func117 (by kernel_rfl) (by kernel_rfl)

theorem en_89 : En Try.prog 89 := En.of Try.func89 (by kernel_rfl) (by kernel_rfl)

theorem zr_91 : (Try.prog.info? 91).map (·.zero) = some (some (.agg #[.int .i64 0,.bool false])) := by kernel_rfl

theorem fa_91_1 : ∀ (q : Addr) (w : World),(Instr.fieldAt 91 (.pointer (some q)) 1).run Try.prog w = .ok (.pointer (some (q.add 1))) w := fun _ _ => by kernel_rfl

theorem sc_4 : ScT Try.prog 4 := ⟨⟨_,Try.underlying4,trivial⟩,by kernel_rfl⟩

theorem zr_168 : (Try.prog.info? 168).map (·.zero) = some (some (.agg #[.nilFunc])) := by kernel_rfl

theorem bt_168 : builtInfo Try.prog 168 = some ([.nilFunc],[(0,1)]) := by kernel_rfl

theorem sz_168 : (Try.prog.info? 168).map (·.size) = some 1 := by kernel_rfl

theorem ag_168 : AggT Try.prog 168 1 := ⟨⟨_,Try.underlying168,trivial⟩,by kernel_rfl⟩

theorem en_91 : En Try.prog 91 := En.of Try.func91 (by kernel_rfl) (by kernel_rfl)

theorem sc_166 : ScT Try.prog 166 := ⟨⟨_,Try.underlying166,trivial⟩,by kernel_rfl⟩

theorem en_119 : En Try.prog 119 := En.of Try.func119 (by kernel_rfl) (by kernel_rfl)

theorem en_120 : En Try.prog 120 := En.of Try.func120 (by kernel_rfl) (by kernel_rfl)

theorem en_46 : En Try.prog 46 := En.of Try.func46 (by kernel_rfl) (by kernel_rfl)

theorem zr_152 : (Try.prog.info? 152).map (·.zero) = some (some (.slice none 0 0)) := by kernel_rfl

theorem sz_152 : (Try.prog.info? 152).map (·.size) = some 1 := by kernel_rfl

theorem sc_152 : ScT Try.prog 152 := ⟨⟨_,Try.underlying152,trivial⟩,by kernel_rfl⟩

theorem en_76 : En Try.prog 76 := En.of Try.func76 (by kernel_rfl) (by kernel_rfl)

theorem en_27 : En Try.prog 27 := En.of Try.func27 (by kernel_rfl) (by kernel_rfl)

theorem en_78 : En Try.prog 78 := En.of Try.func78 (by kernel_rfl) (by kernel_rfl)

theorem en_29 : En Try.prog 29 := En.of Try.func29 (by kernel_rfl) (by kernel_rfl)

theorem ge_50 : Try.prog.eqGuardType Try.prog.depth 50 = false := by kernel_rfl

theorem eqs_50 (x0 : Int) (x1 : Int) (y0 : Int) (y1 : Int) (w : World) : (Op.equalIn 10000 50 (.agg #[.int .i64 x0,.int .i64 x1]) (.agg #[.int .i64 y0,.int .i64 y1])).run Try.prog w = .ok (x0 == y0 && x1 == y1) w := by
 rw [run_equalIn_agg w 9999 50 _ _ (by kernel_rfl) (by kernel_rfl)]
 simp [Op.eqFields,part,go_sem]
 repeat' split
 all_goals simp_all

theorem en_24 : En Try.prog 24 := En.of Try.func24 (by kernel_rfl) (by kernel_rfl)

theorem en_56 : En Try.prog 56 := En.of Try.func56 (by kernel_rfl) (by kernel_rfl)

theorem en_12 : En Try.prog 12 := En.of Try.func12 (by kernel_rfl) (by kernel_rfl)

theorem en_40 : En Try.prog 40 := En.of Try.func40 (by kernel_rfl) (by kernel_rfl)

theorem en_57 : En Try.prog 57 := En.of Try.func57 (by kernel_rfl) (by kernel_rfl)

theorem en_13 : En Try.prog 13 := En.of Try.func13 (by kernel_rfl) (by kernel_rfl)

theorem sl_195 : SlT Try.prog 195 61 1 24 (.slice none 0 0) := SlT.of Try.underlying195 (by kernel_rfl) (by decide)

theorem en_138 : En Try.prog 138 := En.of Try.func138 (by kernel_rfl) (by kernel_rfl)

theorem en_109 : En Try.prog 109 := En.of Try.func109 (by kernel_rfl) (by kernel_rfl)

theorem en_77 : En Try.prog 77 := En.of Try.func77 (by kernel_rfl) (by kernel_rfl)

theorem en_28 : En Try.prog 28 := En.of Try.func28 (by kernel_rfl) (by kernel_rfl)

theorem en_30 : En Try.prog 30 := En.of Try.func30 (by kernel_rfl) (by kernel_rfl)

theorem ge_77 : Try.prog.eqGuardType Try.prog.depth 77 = false := by kernel_rfl

theorem eqs_77 (x0 : Int) (x1 : Int) (y0 : Int) (y1 : Int) (w : World) : (Op.equalIn 10000 77 (.agg #[.int .i64 x0,.int .i64 x1]) (.agg #[.int .i64 y0,.int .i64 y1])).run Try.prog w = .ok (x0 == y0 && x1 == y1) w := by
 rw [run_equalIn_agg w 9999 77 _ _ (by kernel_rfl) (by kernel_rfl)]
 simp [Op.eqFields,part,go_sem]
 repeat' split
 all_goals simp_all

theorem en_74 : En Try.prog 74 := En.of Try.func74 (by kernel_rfl) (by kernel_rfl)

theorem ge_71 : Try.prog.eqGuardType Try.prog.depth 71 = false := by kernel_rfl

theorem eqs_71 (x0 : Int) (x1 : Int) (x2 : Int) (x3 : Int) (y0 : Int) (y1 : Int) (y2 : Int) (y3 : Int) (w : World) : (Op.equalIn 10000 71 (.agg #[.int .i64 x0,.int .i64 x1,.int .i64 x2,.int .i64 x3]) (.agg #[.int .i64 y0,.int .i64 y1,.int .i64 y2,.int .i64 y3])).run Try.prog w = .ok (x0 == y0 && x1 == y1 && x2 == y2 && x3 == y3) w := by
 rw [run_equalIn_agg w 9999 71 _ _ (by kernel_rfl) (by kernel_rfl)]
 simp [Op.eqFields,part,go_sem]
 repeat' split
 all_goals simp_all

theorem en_75 : En Try.prog 75 := En.of Try.func75 (by kernel_rfl) (by kernel_rfl)

theorem en_25 : En Try.prog 25 := En.of Try.func25 (by kernel_rfl) (by kernel_rfl)

def law05_marks_b5 (N : Nat) (l : List shift_Mark) (out : List ref05_Mark) (x : Int) : Option (Step ((List ref05_Mark) × Int) ((List ref05_Mark))) :=
 cond (decide (x < ((l.length : Nat) : Int)))
 (Option.bind (getI l x) fun e_1 =>
 Option.bind (room ((out ++ [(⟨e_1.Stage,e_1.Flow⟩ : ref05_Mark)])).length) fun un =>
 some (.cont ((out ++ [(⟨e_1.Stage,e_1.Flow⟩ : ref05_Mark)]),W (x + 1))))
 (some (.brk (out,x)))
def law05_marks (N : Nat) (l : List shift_Mark) : Option ((List ref05_Mark)) :=
 Option.bind (loopO (fun s5 => law05_marks_b5 N l s5.1 s5.2) N (([] : List ref05_Mark),0)) fun x5 =>
 exK x5 (fun s5 => some s5.1) some
theorem law05_marks_ok {N : Nat} {G : Pers} {Lf : List Ent} {w : World} (l : List shift_Mark) {l_p : Option Addr} {l_c : Nat} (h_l : Rd G 2 l_p l_c (l.map enc_shift_Mark)) (hc : Ctx G (Lf) w) {res : (List ref05_Mark)} (hF : law05_marks N l = some res) : Calls Try.prog 19 #[.slice l_p l.length l_c] w (fun e w => ∃ (p'1 : Option Addr) (c'1 : Nat),e = .returned (.slice p'1 res.length c'1) ∧ Ctx G (.row p'1 c'1 (res.map enc_ref05_Mark) 134 2::Lf) w) := by
 unfold law05_marks at hF
 refine fnIn (args := [.slice l_p l.length l_c]) Try.func19 rfl Try.ntmps19 rfl fun a hf => wp_seq_k fun K1 h1 => cReg ?_
 refine stP hf rfl rfl rfl (pA rfl) fun a hf => cNil ?_
 refine h1 _ _ ?_
 refine wp_seq_k fun K2 h2 => cReg ?_
 refine stP hf rfl rfl rfl (pA rfl) fun a hf => cNil ?_
 refine h2 _ _ ?_
 refine wp_seq_k fun K3 h3 => wp_seq_k fun K4 h4 => cReg ?_
 refine stP hf rfl rfl rfl (pM rfl) fun a hf => stP hf rfl rfl rfl (pLenS Try.underlying22 rfl) fun a hf => stP hf rfl rfl rfl (pM rfl) fun a hf => cNil ?_
 refine h4 _ _ ?_
 refine wp_block ?_
 obtain ⟨x5,hx5,hF⟩ := bnd_some hF
 let S5 : ((List ref05_Mark) × Int) → Act → World → Prop := (fun (zz : (List ref05_Mark) × Int) a w => ∃ (p_1 : Option Addr) (c_1 : Nat),Has 18 a [(3,.slice p_1 zz.1.length c_1),(6,.slice l_p l.length l_c),(7,.int .i64 ((l.length : Nat) : Int)),(8,.int .i64 zz.2)] ∧ Ctx G (.row p_1 c_1 (zz.1.map enc_ref05_Mark) 134 2::Lf) w)
 have hr5 : ∀ (zz : (List ref05_Mark) × Int) a w,x5 = .go zz → S5 zz a w → K3 a w := by
  rintro ⟨out,x⟩ a w rfl ⟨p_1,c_1,hf,hc⟩
  replace hF := exK_go hF
  refine h3 _ _ ?_
  refine wp_seq_k fun K6 h6 => cReg ?_
  refine stP hf rfl rfl rfl (pM rfl) fun a hf => stP hf rfl rfl rfl (pA rfl) fun a hf => cNil ?_
  refine h6 _ _ ?_
  refine wp_ret ?_
  obtain rfl := Option.some.inj hF
  exact fnOut1 (by simp) rfl Try.results19 hf hc (show look _ 2 = _ from rfl) ⟨p_1,c_1,rfl,hc⟩
 have ho5 : ∀ r,x5 = .out r → r = res := by
  rintro r rfl
  exact Option.some.inj hF
 replace hc := hc.nilRow 134 2
 refine cLoop N (loopW (S := S5) (x := x5) ?_ N (([] : List ref05_Mark),0) _ _ ⟨none,0,hf.keep ⟨rfl,rfl,rfl,rfl,trivial⟩,hc⟩ hx5)
 clear hF hf hc
 rintro ⟨out,x⟩ st5 a w KB5 ⟨p_1,c_1,hf,hc⟩ hF hfin5 hK5
 unfold law05_marks_b5 at hF
 refine wp_seq_k fun K7 h7 => cReg ?_
 refine stP hf rfl rfl rfl (pLt rfl rfl) fun a hf => cNil ?_
 refine h7 _ _ ?_
 refine wp_seq_k fun K8 h8 => cCond (b := (decide (x < ((l.length : Nat) : Int)))) hf rfl (fun hb => ?_) (fun hb => ?_)
 ·replace hF := condT hb hF
  clear hb
  refine wp_skip ?_
  refine h8 _ _ ?_
  refine wp_seq_k fun K9 h9 => wp_block ?_
  refine wp_seq_k fun K10 h10 => cReg ?_
  obtain ⟨e_1,he_1,hF⟩ := bnd_some hF
  obtain ⟨b_1,o,qa,qp⟩ := h_l.atm he_1
  refine stP hf rfl rfl rfl (pIA Try.underlying22 sz_77 rfl rfl qa) fun a hf => stE hf hc rfl rfl rfl (eLdN (vs := [.int .i64 e_1.Stage,.int .i64 e_1.Flow]) ag_77 rfl rfl (cells_pc qp (n := 2) (o' := 0) rfl)) fun a w hf hc => stAl (cs := [.int .i64 0,.int .i64 0]) hf hc rfl rfl zr_77 rfl fun b_2 a w hf hc => stSt (vs := [.int .i64 e_1.Stage,.int .i64 e_1.Flow]) hf hc rfl rfl rfl rfl sz_77 rfl rfl u0 fun w hc => cNil ?_
  refine h10 _ _ ?_
  refine cReg ?_
  refine stP hf rfl rfl rfl (pM rfl) fun a hf => stE hf hc rfl rfl rfl (eLdN (vs := [.int .i64 e_1.Stage,.int .i64 e_1.Flow]) ag_77 rfl rfl (cells_box (n := 2) m0 rfl)) fun a w hf hc => stBS (rows := ([(⟨e_1.Stage,e_1.Flow⟩ : ref05_Mark)] : List ref05_Mark).map enc_ref05_Mark) (vs := [(0,.agg #[.int .i64 e_1.Stage,.int .i64 e_1.Flow])]) hf hc rfl rfl sl_31 rfl ⟨rfl,rfl,rfl,trivial⟩ rfl rfl fun b_3 a w hf hc => ?_
  obtain ⟨un,hun,hF⟩ := bnd_some hF
  refine stApm (xs := out) (ys := ([(⟨e_1.Stage,e_1.Flow⟩ : ref05_Mark)] : List ref05_Mark)) hf hc rfl rfl sl_31 rfl rfl rfl rfl rfl one_enc_ref05_Mark (src_row hc m0) (fun _ _ => u2) (by simpa using room_spec hun) fun p_2 c_2 a w hf hc => stP hf rfl rfl rfl (pA rfl) fun a hf => cNil ?_
  refine h9 _ _ ?_
  refine cReg ?_
  refine stP hf rfl rfl rfl (pAdd rfl rfl) fun a hf => stP hf rfl rfl rfl (pM rfl) fun a hf => cNil ?_
  replace hc := hc.drop k1
  replace hc := hc.drop k0
  exact hK5 ((out ++ [(⟨e_1.Stage,e_1.Flow⟩ : ref05_Mark)]),W (x + 1)) _ _ (Option.some.inj hF).symm ⟨p_2,c_2,hf.keep ⟨rfl,rfl,rfl,rfl,trivial⟩,hc⟩
 ·replace hF := condF hb hF
  clear hb
  refine wp_exit ?_
  refine xThen ?_
  refine xThen ?_
  have he := Option.some.inj hF
  rw [← he] at hfin5
  refine cHit ?_
  exact hr5 _ _ _ hfin5 ⟨p_1,c_1,hf.keep ⟨rfl,rfl,rfl,rfl,trivial⟩,hc⟩

def law05_Record_b5 (N : Nat) (r : shift_Record) (x : Int) (x_1 : List ref05_Gauging) : Option (Step (Int × (List ref05_Gauging)) (ref05_Record)) :=
 cond (decide (x < ((r.Gaugings.length : Nat) : Int)))
 (Option.bind (getI r.Gaugings x) fun e_1 =>
 Option.bind (room ((x_1 ++ [(⟨e_1.Day,e_1.Stage,e_1.Flow⟩ : ref05_Gauging)])).length) fun un =>
 some (.cont (W (x + 1),(x_1 ++ [(⟨e_1.Day,e_1.Stage,e_1.Flow⟩ : ref05_Gauging)]))))
 (some (.brk (x,x_1)))
def law05_Record (N : Nat) (r : shift_Record) : Option (ref05_Record) :=
 Option.bind (law05_marks N r.Rating) fun r_0 =>
 Option.bind (loopO (fun s5 => law05_Record_b5 N r s5.1 s5.2) N (0,([] : List ref05_Gauging))) fun x5 =>
 exK x5 (fun s5 => some (⟨r_0,s5.2⟩ : ref05_Record)) some
theorem law05_Record_ok {N : Nat} {G : Pers} {Lf : List Ent} {w : World} (r : shift_Record) {r_Rating_p : Option Addr} {r_Rating_c : Nat} {r_Gaugings_p : Option Addr} {r_Gaugings_c : Nat} (h_r_Rating : Rd G 2 r_Rating_p r_Rating_c (r.Rating.map enc_shift_Mark)) (h_r_Gaugings : Rd G 4 r_Gaugings_p r_Gaugings_c (r.Gaugings.map enc_shift_Gauging)) (hc : Ctx G (Lf) w) {res : ref05_Record} (hF : law05_Record N r = some res) : Calls Try.prog 16 #[.agg #[.slice r_Rating_p r.Rating.length r_Rating_c,.slice r_Gaugings_p r.Gaugings.length r_Gaugings_c]] w (fun e w => ∃ (p'1 : Option Addr) (c'1 : Nat) (p'2 : Option Addr) (c'2 : Nat),e = .returned (.agg #[.slice p'1 res.Rating.length c'1,.slice p'2 res.Gaugings.length c'2]) ∧ Ctx G (.row p'1 c'1 (res.Rating.map enc_ref05_Mark) 134 2::.row p'2 c'2 (res.Gaugings.map enc_ref05_Gauging) 129 4::Lf) w) := by
 unfold law05_Record at hF
 refine fnIn (args := [.agg #[.slice r_Rating_p r.Rating.length r_Rating_c,.slice r_Gaugings_p r.Gaugings.length r_Gaugings_c]]) Try.func16 rfl Try.ntmps16 rfl fun a hf => wp_seq_k fun K1 h1 => cReg ?_
 refine stBx (cs := [.slice r_Rating_p r.Rating.length r_Rating_c,.slice r_Gaugings_p r.Gaugings.length r_Gaugings_c]) hf hc rfl rfl rfl rfl fun b_1 a w hf hc => stAl (cs := [.slice none 0 0,.slice none 0 0]) hf hc rfl rfl zr_34 rfl fun b_2 a w hf hc => cNil ?_
 refine h1 _ _ ?_
 refine wp_seq_k fun K2 h2 => cReg ?_
 refine stP hf rfl rfl rfl (pFA fa_25_0 rfl) fun a hf => stE hf hc rfl rfl rfl (eLd1 sc_22 rfl (cell_box m1 rfl)) fun a w hf hc => ?_
 obtain ⟨r_0,hr_0,hF⟩ := bnd_some hF
 refine stC (vs := [.slice r_Rating_p r.Rating.length r_Rating_c]) (caps := []) hf rfl rfl rfl en_19 rfl rfl rfl rfl (law05_marks_ok r.Rating h_r_Rating hc hr_0) ?_
 rintro _ w ⟨p_1,c_1,rfl,hc⟩
 refine ⟨_,rfl,fun a hf => ?_⟩
 refine stP hf rfl rfl rfl (pBuildS (cells := [.slice p_1 r_0.length c_1,.slice none 0 0]) bt_34 rfl rfl) fun a hf => stAl (cs := [.slice none 0 0,.slice none 0 0]) hf hc rfl rfl zr_34 rfl fun b_3 a w hf hc => stSt (vs := [.slice p_1 r_0.length c_1,.slice none 0 0]) hf hc rfl rfl rfl rfl sz_34 rfl rfl u0 fun w hc => cNil ?_
 refine h2 _ _ ?_
 refine wp_seq_k fun K3 h3 => wp_seq_k fun K4 h4 => cReg ?_
 refine stP hf rfl rfl rfl (pFA fa_25_1 rfl) fun a hf => stE hf hc rfl rfl rfl (eLd1 sc_23 rfl (cell_box m3 rfl)) fun a w hf hc => stP hf rfl rfl rfl (pLenS Try.underlying23 rfl) fun a hf => stP hf rfl rfl rfl (pM rfl) fun a hf => cNil ?_
 refine h4 _ _ ?_
 refine wp_block ?_
 obtain ⟨x5,hx5,hF⟩ := bnd_some hF
 let S5 : (Int × (List ref05_Gauging)) → Act → World → Prop := (fun (zz : Int × (List ref05_Gauging)) a w => ∃ (p_2 : Option Addr) (c_2 : Nat),Has 25 a [(2,.pointer (some ⟨b_2,0,none⟩)),(3,.pointer (some ⟨b_3,0,none⟩)),(11,.slice r_Gaugings_p r.Gaugings.length r_Gaugings_c),(12,.int .i64 ((r.Gaugings.length : Nat) : Int)),(13,.int .i64 zz.1)] ∧ Ctx G (.row p_2 c_2 (zz.2.map enc_ref05_Gauging) 129 4::.box b_3 [.slice p_1 r_0.length c_1,.slice p_2 zz.2.length c_2] 34::.row p_1 c_1 (r_0.map enc_ref05_Mark) 134 2::.box b_2 [.slice none 0 0,.slice none 0 0] 34::Lf) w)
 have hr5 : ∀ (zz : Int × (List ref05_Gauging)) a w,x5 = .go zz → S5 zz a w → K3 a w := by
  rintro ⟨x,x_1⟩ a w rfl ⟨p_2,c_2,hf,hc⟩
  replace hF := exK_go hF
  refine h3 _ _ ?_
  refine wp_seq_k fun K6 h6 => cReg ?_
  refine stE hf hc rfl rfl rfl (eLdN (vs := [.slice p_1 r_0.length c_1,.slice p_2 x_1.length c_2]) ag_34 rfl rfl (cells_box (n := 2) m1 rfl)) fun a w hf hc => stSt (vs := [.slice p_1 r_0.length c_1,.slice p_2 x_1.length c_2]) hf hc rfl rfl rfl rfl sz_34 rfl rfl u3 fun w hc => cNil ?_
  refine h6 _ _ ?_
  refine wp_ret ?_
  obtain rfl := Option.some.inj hF
  replace hc := hc.drop k1
  replace hc := hc.pick k0
  replace hc := hc.pick k1
  exact fnOut1 (by simp) rfl Try.results16 hf hc (rv_cellN (vs := [.slice p_1 r_0.length c_1,.slice p_2 x_1.length c_2]) ag_34 rfl rfl (cells_box (n := 2) m2 rfl)) ⟨p_1,c_1,p_2,c_2,rfl,(hc.drop k2)⟩
 have ho5 : ∀ r,x5 = .out r → r = res := by
  rintro r rfl
  exact Option.some.inj hF
 replace hc := hc.nilRow 129 4
 replace hc := hc.drop k4
 refine cLoop N (loopW (S := S5) (x := x5) ?_ N (0,([] : List ref05_Gauging)) _ _ ⟨none,0,hf.keep ⟨rfl,rfl,rfl,rfl,rfl,trivial⟩,hc⟩ hx5)
 clear hF hf hc
 rintro ⟨x,x_1⟩ st5 a w KB5 ⟨p_2,c_2,hf,hc⟩ hF hfin5 hK5
 unfold law05_Record_b5 at hF
 refine wp_seq_k fun K7 h7 => cReg ?_
 refine stP hf rfl rfl rfl (pLt rfl rfl) fun a hf => cNil ?_
 refine h7 _ _ ?_
 refine wp_seq_k fun K8 h8 => cCond (b := (decide (x < ((r.Gaugings.length : Nat) : Int)))) hf rfl (fun hb => ?_) (fun hb => ?_)
 ·replace hF := condT hb hF
  clear hb
  refine wp_skip ?_
  refine h8 _ _ ?_
  refine wp_seq_k fun K9 h9 => wp_block ?_
  refine wp_seq_k fun K10 h10 => cReg ?_
  obtain ⟨e_1,he_1,hF⟩ := bnd_some hF
  obtain ⟨b_4,o,qa,qp⟩ := h_r_Gaugings.atm he_1
  refine stP hf rfl rfl rfl (pIA Try.underlying23 sz_71 rfl rfl qa) fun a hf => stE hf hc rfl rfl rfl (eLdN (vs := [.int .i64 e_1.Day,.int .i64 e_1.Stage,.int .i64 e_1.Flow.Lo,.int .i64 e_1.Flow.Hi]) ag_71 rfl rfl (cells_pc qp (n := 4) (o' := 0) rfl)) fun a w hf hc => stAl (cs := [.int .i64 0,.int .i64 0,.int .i64 0,.int .i64 0]) hf hc rfl rfl zr_71 rfl fun b_5 a w hf hc => stSt (vs := [.int .i64 e_1.Day,.int .i64 e_1.Stage,.int .i64 e_1.Flow.Lo,.int .i64 e_1.Flow.Hi]) hf hc rfl rfl rfl rfl sz_71 rfl rfl u0 fun w hc => cNil ?_
  refine h10 _ _ ?_
  refine cReg ?_
  refine stP hf rfl rfl rfl (pFA fa_34_1 rfl) fun a hf => stE hf hc rfl rfl rfl (eLd1 sc_32 rfl (cell_box m2 rfl)) fun a w hf hc => stE hf hc rfl rfl rfl (eLdN (vs := [.int .i64 e_1.Day,.int .i64 e_1.Stage,.int .i64 e_1.Flow.Lo,.int .i64 e_1.Flow.Hi]) ag_71 rfl rfl (cells_box (n := 4) m0 rfl)) fun a w hf hc => stBS (rows := ([(⟨e_1.Day,e_1.Stage,e_1.Flow⟩ : ref05_Gauging)] : List ref05_Gauging).map enc_ref05_Gauging) (vs := [(0,.agg #[.int .i64 e_1.Day,.int .i64 e_1.Stage,.int .i64 e_1.Flow.Lo,.int .i64 e_1.Flow.Hi])]) hf hc rfl rfl sl_32 rfl ⟨rfl,rfl,rfl,trivial⟩ rfl rfl fun b_6 a w hf hc => ?_
  obtain ⟨un,hun,hF⟩ := bnd_some hF
  refine stApm (xs := x_1) (ys := ([(⟨e_1.Day,e_1.Stage,e_1.Flow⟩ : ref05_Gauging)] : List ref05_Gauging)) hf hc rfl rfl sl_32 rfl rfl rfl rfl rfl one_enc_ref05_Gauging (src_row hc m0) (fun _ _ => u2) (by simpa using room_spec hun) fun p_3 c_3 a w hf hc => stP hf rfl rfl rfl (pFA fa_34_1 rfl) fun a hf => stSt (vs := [.slice p_3 ((x_1 ++ [(⟨e_1.Day,e_1.Stage,e_1.Flow⟩ : ref05_Gauging)]).length) c_3]) hf hc rfl rfl rfl rfl sz_32 rfl rfl u3 fun w hc => cNil ?_
  refine h9 _ _ ?_
  refine cReg ?_
  refine stP hf rfl rfl rfl (pAdd rfl rfl) fun a hf => stP hf rfl rfl rfl (pM rfl) fun a hf => cNil ?_
  replace hc := hc.drop k1
  replace hc := hc.drop k0
  exact hK5 (W (x + 1),(x_1 ++ [(⟨e_1.Day,e_1.Stage,e_1.Flow⟩ : ref05_Gauging)])) _ _ (Option.some.inj hF).symm ⟨p_3,c_3,hf.keep ⟨rfl,rfl,rfl,rfl,rfl,trivial⟩,hc⟩
 ·replace hF := condF hb hF
  clear hb
  refine wp_exit ?_
  refine xThen ?_
  refine xThen ?_
  have he := Option.some.inj hF
  rw [← he] at hfin5
  refine cHit ?_
  exact hr5 _ _ _ hfin5 ⟨p_2,c_2,hf.keep ⟨rfl,rfl,rfl,rfl,rfl,trivial⟩,hc⟩

def ref05_outside (n : Int) (a_ : Int) (b_ : Int) : Bool :=
 ((decide (n < a_)) || (decide (b_ < n)))
theorem ref05_outside_ok {G : Pers} {Lf : List Ent} {w : World} (n : Int) (a_ : Int) (b_ : Int)   (hc : Ctx G (Lf) w) {res : Bool} (hF : ref05_outside n a_ b_ = res) : Calls Try.prog 66 #[.int .i64 n,.int .i64 a_,.int .i64 b_] w (fun e w => e = .returned (.bool res) ∧ Ctx G (Lf) w) := by
 unfold ref05_outside at hF
 refine fnIn (args := [.int .i64 n,.int .i64 a_,.int .i64 b_]) Try.func66 rfl Try.ntmps66 rfl fun a hf => wp_seq_k fun K1 h1 => cReg ?_
 refine stP hf rfl rfl rfl (pA rfl) fun a hf => cNil ?_
 refine h1 _ _ ?_
 refine wp_seq_k fun K2 h2 => cReg ?_
 refine stP hf rfl rfl rfl (pM rfl) fun a hf => stP hf rfl rfl rfl (pM rfl) fun a hf => stP hf rfl rfl rfl (pLt rfl rfl) fun a hf => stP hf rfl rfl rfl (pM rfl) fun a hf => stCut 4 (fun a w => Has 15 a [(0,.int .i64 n),(1,.int .i64 a_),(2,.int .i64 b_),(6,.bool false),(7,.int .i64 n),(8,.int .i64 a_),(9,.bool (decide (n < a_))),(10,.bool (decide (n < a_))),(14,.bool ((decide (n < a_)) || (decide (b_ < n))))] ∧ Ctx G (Lf) w) ?_ ?_
 ·cases hb : (decide (n < a_))
  ·rw [hb] at hf
   refine stP hf rfl rfl rfl (pM rfl) fun a hf => stP hf rfl rfl rfl (pM rfl) fun a hf => stP hf rfl rfl rfl (pGt rfl rfl) fun a hf => stP hf rfl rfl rfl (pPf rfl rfl) fun a hf => cNil ⟨hf.keep ⟨rfl,rfl,rfl,rfl,rfl,rfl,rfl,rfl,rfl,trivial⟩,hc⟩
  ·rw [hb] at hf
   refine stS hf rfl rfl rfl fun a hf => stS hf rfl rfl rfl fun a hf => stS hf rfl rfl rfl fun a hf => stP hf rfl rfl rfl (pPt rfl rfl) fun a hf => cNil ⟨hf.keep ⟨rfl,rfl,rfl,rfl,rfl,rfl,rfl,rfl,rfl,trivial⟩,hc⟩
 intro a w ⟨hf,hc⟩
 refine stP hf rfl rfl rfl (pA rfl) fun a hf => cNil ?_
 refine h2 _ _ ?_
 refine wp_ret ?_
 obtain rfl := hF
 exact fnOut1 (by simp) rfl Try.results66 hf hc (show look _ 6 = _ from rfl) ⟨rfl,hc⟩

def ref05_marks_b7 (N : Nat) (l : List ref05_Mark) (i_1 : Int) : Option (Step (Int) (Int)) :=
 cond (decide (i_1 < ((l.length : Nat) : Int)))
 (Option.bind (getI l i_1) fun e_1 =>
 Option.bind (cond (ref05_outside e_1.Stage (-2000) 2000) (some true) (Option.bind (getI l i_1) fun e_2 =>
 some (ref05_outside e_2.Flow 0 1000000000))) fun t_1 =>
 cond t_1
 (some (.ret 60))
 (some (.cont (W (i_1 + 1)))))
 (some (.brk i_1))
def ref05_marks (N : Nat) (l : List ref05_Mark) : Option (Int) :=
 cond ((decide (((l.length : Nat) : Int) < 2)) || (decide (12 < ((l.length : Nat) : Int))))
 (some 3)
 (Option.bind (loopO (fun s7 => ref05_marks_b7 N l s7) N 0) fun x7 =>
 exK x7 (fun s7 => some 0) some)
theorem ref05_marks_ok {N : Nat} {G : Pers} {Lf : List Ent} {w : World} (l : List ref05_Mark) {l_p : Option Addr} {l_c : Nat} (h_l : Rd G 2 l_p l_c (l.map enc_ref05_Mark)) (hc : Ctx G (Lf) w) {res : Int} (hF : ref05_marks N l = some res) : Calls Try.prog 65 #[.slice l_p l.length l_c] w (fun e w => e = .returned (.int .i64 res) ∧ Ctx G (Lf) w) := by
 unfold ref05_marks at hF
 refine fnIn (args := [.slice l_p l.length l_c]) Try.func65 rfl Try.ntmps65 rfl fun a hf => wp_seq_k fun K1 h1 => cReg ?_
 refine stP hf rfl rfl rfl (pA rfl) fun a hf => cNil ?_
 refine h1 _ _ ?_
 refine wp_seq_k fun K2 h2 => wp_seq_k fun K3 h3 => cReg ?_
 refine stP hf rfl rfl rfl (pM rfl) fun a hf => stP hf rfl rfl rfl (pLenS Try.underlying31 rfl) fun a hf => stP hf rfl rfl rfl (pLt rfl rfl) fun a hf => stP hf rfl rfl rfl (pM rfl) fun a hf => stCut 4 (fun a w => Has 32 a [(0,.slice l_p l.length l_c),(4,.slice l_p l.length l_c),(5,.int .i64 ((l.length : Nat) : Int)),(6,.bool (decide (((l.length : Nat) : Int) < 2))),(7,.bool (decide (((l.length : Nat) : Int) < 2))),(11,.bool ((decide (((l.length : Nat) : Int) < 2)) || (decide (12 < ((l.length : Nat) : Int)))))] ∧ Ctx G (Lf) w) ?_ ?_
 ·cases hb : (decide (((l.length : Nat) : Int) < 2))
  ·rw [hb] at hf
   refine stP hf rfl rfl rfl (pM rfl) fun a hf => stP hf rfl rfl rfl (pLenS Try.underlying31 rfl) fun a hf => stP hf rfl rfl rfl (pGt rfl rfl) fun a hf => stP hf rfl rfl rfl (pPf rfl rfl) fun a hf => cNil ⟨hf.keep ⟨rfl,rfl,rfl,rfl,rfl,rfl,trivial⟩,hc⟩
  ·rw [hb] at hf
   refine stS hf rfl rfl rfl fun a hf => stS hf rfl rfl rfl fun a hf => stS hf rfl rfl rfl fun a hf => stP hf rfl rfl rfl (pPt rfl rfl) fun a hf => cNil ⟨hf.keep ⟨rfl,rfl,rfl,rfl,rfl,rfl,trivial⟩,hc⟩
 intro a w ⟨hf,hc⟩
 refine cNil ?_
 refine h3 _ _ ?_
 refine cCond (b := ((decide (((l.length : Nat) : Int) < 2)) || (decide (12 < ((l.length : Nat) : Int))))) hf rfl (fun hb => ?_) (fun hb => ?_)
 ·replace hF := condT hb hF
  clear hb
  refine wp_seq_k fun K4 h4 => cReg ?_
  refine stP hf rfl rfl rfl (pA rfl) fun a hf => cNil ?_
  refine h4 _ _ ?_
  refine wp_ret ?_
  refine xThenR ?_
  obtain rfl := Option.some.inj hF
  exact fnOut1 (by simp) rfl Try.results65 hf hc (show look _ 2 = _ from rfl) ⟨rfl,hc⟩
 ·replace hF := condF hb hF
  clear hb
  refine wp_skip ?_
  refine h2 _ _ ?_
  refine wp_seq_k fun K5 h5 => wp_seq_k fun K6 h6 => cReg ?_
  refine stP hf rfl rfl rfl (pA rfl) fun a hf => cNil ?_
  refine h6 _ _ ?_
  refine wp_block ?_
  obtain ⟨x7,hx7,hF⟩ := bnd_some hF
  let S7 : Int → Act → World → Prop := (fun (zz : Int) a w => Has 32 a [(0,.slice l_p l.length l_c),(3,.int .i64 zz)] ∧ Ctx G (Lf) w)
  have hr7 : ∀ (zz : Int) a w,x7 = .go zz → S7 zz a w → K5 a w := by
   rintro i_1 a w rfl ⟨hf,hc⟩
   replace hF := exK_go hF
   refine h5 _ _ ?_
   refine wp_seq_k fun K8 h8 => cReg ?_
   refine stP hf rfl rfl rfl (pA rfl) fun a hf => cNil ?_
   refine h8 _ _ ?_
   refine wp_ret ?_
   obtain rfl := Option.some.inj hF
   exact fnOut1 (by simp) rfl Try.results65 hf hc (show look _ 2 = _ from rfl) ⟨rfl,hc⟩
  have ho7 : ∀ r,x7 = .out r → r = res := by
   rintro r rfl
   exact Option.some.inj hF
  refine cLoop N (loopW (S := S7) (x := x7) ?_ N 0 _ _ ⟨hf.keep ⟨rfl,rfl,trivial⟩,hc⟩ hx7)
  clear hF hf hc
  rintro i_1 st7 a w KB7 ⟨hf,hc⟩ hF hfin7 hK7
  unfold ref05_marks_b7 at hF
  refine wp_seq_k fun K9 h9 => wp_seq_k fun K10 h10 => cReg ?_
  refine stP hf rfl rfl rfl (pM rfl) fun a hf => stP hf rfl rfl rfl (pM rfl) fun a hf => stP hf rfl rfl rfl (pLenS Try.underlying31 rfl) fun a hf => stP hf rfl rfl rfl (pLt rfl rfl) fun a hf => cNil ?_
  refine h10 _ _ ?_
  refine cCond (b := (decide (i_1 < ((l.length : Nat) : Int)))) hf rfl (fun hb => ?_) (fun hb => ?_)
  ·replace hF := condT hb hF
   clear hb
   refine wp_skip ?_
   refine h9 _ _ ?_
   refine wp_seq_k fun K11 h11 => wp_block ?_
   refine wp_seq_k fun K12 h12 => cReg ?_
   refine stP hf rfl rfl rfl (pM rfl) fun a hf => stP hf rfl rfl rfl (pM rfl) fun a hf => ?_
   obtain ⟨e_1,he_1,hF⟩ := bnd_some hF
   obtain ⟨b_1,o,qa,qp⟩ := h_l.atm he_1
   refine stP hf rfl rfl rfl (pIA Try.underlying31 sz_134 rfl rfl qa) fun a hf => stP hf rfl rfl rfl (pFA fa_134_0 rfl) fun a hf => stE hf hc rfl rfl rfl (eLd1 sc_3 rfl (cell_pc (j := 0) qp rfl)) fun a w hf hc => stE hf hc rfl rfl rfl (eC (v := .bool (ref05_outside e_1.Stage (-2000) 2000)) (vs := [.int .i64 e_1.Stage,.int .i64 (-2000),.int .i64 2000]) (caps := []) en_66 rfl rfl rfl rfl (fun w hc => ref05_outside_ok e_1.Stage (-2000) 2000 hc rfl)) fun a w hf hc => stP hf rfl rfl rfl (pM rfl) fun a hf => ?_
   obtain ⟨t_1,ht_1,hF⟩ := bnd_some hF
   refine stCut 7 (fun a w => Has 32 a [(0,.slice l_p l.length l_c),(3,.int .i64 i_1),(18,.slice l_p l.length l_c),(19,.int .i64 i_1),(20,.pointer (some ⟨b_1,o,none⟩)),(21,.pointer (some ⟨b_1,o + 0,none⟩)),(22,.int .i64 e_1.Stage),(23,.bool (ref05_outside e_1.Stage (-2000) 2000)),(24,.bool (ref05_outside e_1.Stage (-2000) 2000)),(31,.bool t_1)] ∧ Ctx G (Lf) w) ?_ ?_
   ·cases hb : (ref05_outside e_1.Stage (-2000) 2000)
    ·rw [hb] at hf
     have hF := condF hb ht_1
     refine stP hf rfl rfl rfl (pM rfl) fun a hf => stP hf rfl rfl rfl (pM rfl) fun a hf => ?_
     obtain ⟨e_2,he_2,hF⟩ := bnd_some hF
     obtain ⟨b_2,o_1,qa_1,qp_1⟩ := h_l.atm he_2
     refine stP hf rfl rfl rfl (pIA Try.underlying31 sz_134 rfl rfl qa_1) fun a hf => stP hf rfl rfl rfl (pFA fa_134_1 rfl) fun a hf => stE hf hc rfl rfl rfl (eLd1 sc_3 rfl (cell_pc (j := 1) qp_1 rfl)) fun a w hf hc => stE hf hc rfl rfl rfl (eC (v := .bool (ref05_outside e_2.Flow 0 1000000000)) (vs := [.int .i64 e_2.Flow,.int .i64 0,.int .i64 1000000000]) (caps := []) en_66 rfl rfl rfl rfl (fun w hc => ref05_outside_ok e_2.Flow 0 1000000000 hc rfl)) fun a w hf hc => stP hf rfl rfl rfl (pPf rfl rfl) fun a hf => ?_
     obtain rfl := Option.some.inj hF
     exact cNil ⟨hf.keep ⟨rfl,rfl,rfl,rfl,rfl,rfl,rfl,rfl,rfl,rfl,trivial⟩,hc⟩
    ·rw [hb] at hf
     have hF := condT hb ht_1
     obtain rfl := Option.some.inj hF
     refine stS hf rfl rfl rfl fun a hf => stS hf rfl rfl rfl fun a hf => stS hf rfl rfl rfl fun a hf => stS hf rfl rfl rfl fun a hf => stS hf rfl rfl rfl fun a hf => stS hf rfl rfl rfl fun a hf => stP hf rfl rfl rfl (pPt rfl rfl) fun a hf => cNil ⟨hf.keep ⟨rfl,rfl,rfl,rfl,rfl,rfl,rfl,rfl,rfl,rfl,trivial⟩,hc⟩
   intro a w ⟨hf,hc⟩
   refine cNil ?_
   refine h12 _ _ ?_
   refine cCond (b := t_1) hf rfl (fun hb => ?_) (fun hb => ?_)
   ·replace hF := condT hb hF
    clear hb
    refine wp_seq_k fun K13 h13 => cReg ?_
    refine stP hf rfl rfl rfl (pA rfl) fun a hf => cNil ?_
    refine h13 _ _ ?_
    refine wp_ret ?_
    refine xBlkR ?_
    refine xThenR ?_
    refine xThenR ?_
    have he := Option.some.inj hF
    rw [← he] at hfin7
    replace hF := ho7 _ hfin7
    refine xBlkR ?_
    refine xThenR ?_
    obtain rfl := hF
    exact fnOut1 (by simp) rfl Try.results65 hf hc (show look _ 2 = _ from rfl) ⟨rfl,hc⟩
   ·replace hF := condF hb hF
    clear hb
    refine wp_skip ?_
    refine h11 _ _ ?_
    refine cReg ?_
    refine stP hf rfl rfl rfl (pM rfl) fun a hf => stP hf rfl rfl rfl (pAdd rfl rfl) fun a hf => stP hf rfl rfl rfl (pA rfl) fun a hf => cNil ?_
    exact hK7 (W (i_1 + 1)) _ _ (Option.some.inj hF).symm ⟨hf.keep ⟨rfl,rfl,trivial⟩,hc⟩
  ·replace hF := condF hb hF
   clear hb
   refine wp_exit ?_
   refine xThen ?_
   refine xThen ?_
   have he := Option.some.inj hF
   rw [← he] at hfin7
   refine cHit ?_
   exact hr7 _ _ _ hfin7 ⟨hf.keep ⟨rfl,rfl,trivial⟩,hc⟩

def ref05_mixed_b4 (N : Nat) (l : List ref05_Mark) (i_1 : Int) : Option (Step (Int) (Bool)) :=
 cond (decide (i_1 < ((l.length : Nat) : Int)))
 (Option.bind (getI l i_1) fun e_1 =>
 Option.bind (getI l (W (i_1 - 1))) fun e_2 =>
 Option.bind (cond (decide (e_1.Stage ≤ e_2.Stage)) (some true) (Option.bind (getI l i_1) fun e_3 =>
 Option.bind (getI l (W (i_1 - 1))) fun e_4 =>
 some (decide (e_3.Flow ≤ e_4.Flow)))) fun t_1 =>
 cond t_1
 (some (.ret true))
 (some (.cont (W (i_1 + 1)))))
 (some (.brk i_1))
def ref05_mixed (N : Nat) (l : List ref05_Mark) : Option (Bool) :=
 Option.bind (loopO (fun s4 => ref05_mixed_b4 N l s4) N 1) fun x4 =>
 exK x4 (fun s4 => some false) some
theorem ref05_mixed_ok {N : Nat} {G : Pers} {Lf : List Ent} {w : World} (l : List ref05_Mark) {l_p : Option Addr} {l_c : Nat} (h_l : Rd G 2 l_p l_c (l.map enc_ref05_Mark)) (hc : Ctx G (Lf) w) {res : Bool} (hF : ref05_mixed N l = some res) : Calls Try.prog 67 #[.slice l_p l.length l_c] w (fun e w => e = .returned (.bool res) ∧ Ctx G (Lf) w) := by
 unfold ref05_mixed at hF
 refine fnIn (args := [.slice l_p l.length l_c]) Try.func67 rfl Try.ntmps67 rfl fun a hf => wp_seq_k fun K1 h1 => cReg ?_
 refine stP hf rfl rfl rfl (pA rfl) fun a hf => cNil ?_
 refine h1 _ _ ?_
 refine wp_seq_k fun K2 h2 => wp_seq_k fun K3 h3 => cReg ?_
 refine stP hf rfl rfl rfl (pA rfl) fun a hf => cNil ?_
 refine h3 _ _ ?_
 refine wp_block ?_
 obtain ⟨x4,hx4,hF⟩ := bnd_some hF
 let S4 : Int → Act → World → Prop := (fun (zz : Int) a w => Has 36 a [(0,.slice l_p l.length l_c),(3,.int .i64 zz)] ∧ Ctx G (Lf) w)
 have hr4 : ∀ (zz : Int) a w,x4 = .go zz → S4 zz a w → K2 a w := by
  rintro i_1 a w rfl ⟨hf,hc⟩
  replace hF := exK_go hF
  refine h2 _ _ ?_
  refine wp_seq_k fun K5 h5 => cReg ?_
  refine stP hf rfl rfl rfl (pA rfl) fun a hf => cNil ?_
  refine h5 _ _ ?_
  refine wp_ret ?_
  obtain rfl := Option.some.inj hF
  exact fnOut1 (by simp) rfl Try.results67 hf hc (show look _ 2 = _ from rfl) ⟨rfl,hc⟩
 have ho4 : ∀ r,x4 = .out r → r = res := by
  rintro r rfl
  exact Option.some.inj hF
 refine cLoop N (loopW (S := S4) (x := x4) ?_ N 1 _ _ ⟨hf.keep ⟨rfl,rfl,trivial⟩,hc⟩ hx4)
 clear hF hf hc
 rintro i_1 st4 a w KB4 ⟨hf,hc⟩ hF hfin4 hK4
 unfold ref05_mixed_b4 at hF
 refine wp_seq_k fun K6 h6 => wp_seq_k fun K7 h7 => cReg ?_
 refine stP hf rfl rfl rfl (pM rfl) fun a hf => stP hf rfl rfl rfl (pM rfl) fun a hf => stP hf rfl rfl rfl (pLenS Try.underlying31 rfl) fun a hf => stP hf rfl rfl rfl (pLt rfl rfl) fun a hf => cNil ?_
 refine h7 _ _ ?_
 refine cCond (b := (decide (i_1 < ((l.length : Nat) : Int)))) hf rfl (fun hb => ?_) (fun hb => ?_)
 ·replace hF := condT hb hF
  clear hb
  refine wp_skip ?_
  refine h6 _ _ ?_
  refine wp_seq_k fun K8 h8 => wp_block ?_
  refine wp_seq_k fun K9 h9 => ?_
  obtain ⟨e_1,he_1,hF⟩ := bnd_some hF
  obtain ⟨b_1,o,qa,qp⟩ := h_l.atm he_1
  obtain ⟨e_2,he_2,hF⟩ := bnd_some hF
  obtain ⟨b_2,o_1,qa_1,qp_1⟩ := h_l.atm he_2
  obtain ⟨t_1,ht_1,hF⟩ := bnd_some hF
  refine cQ hc follows_mx (by kernel_rfl) ?_
  refine qE hf rfl rfl rfl (Pu.ev (pM rfl)) fun a hf => qE hf rfl rfl rfl (Pu.ev (pM rfl)) fun a hf => qE hf rfl rfl rfl (Pu.ev (pIA Try.underlying31 sz_134 rfl rfl qa)) fun a hf => qE hf rfl rfl rfl (Pu.ev (pFA fa_134_0 rfl)) fun a hf => qE hf rfl rfl rfl (eLd1 sc_3 rfl (cell_pc (j := 0) qp rfl)) fun a hf => qE hf rfl rfl rfl (Pu.ev (pM rfl)) fun a hf => qE hf rfl rfl rfl (Pu.ev (pM rfl)) fun a hf => qE hf rfl rfl rfl (Pu.ev (pSub rfl rfl)) fun a hf => qE hf rfl rfl rfl (Pu.ev (pIA Try.underlying31 sz_134 rfl rfl qa_1)) fun a hf => qE hf rfl rfl rfl (Pu.ev (pFA fa_134_0 rfl)) fun a hf => qE hf rfl rfl rfl (eLd1 sc_3 rfl (cell_pc (j := 0) qp_1 rfl)) fun a hf => qE hf rfl rfl rfl (Pu.ev (pLe rfl rfl)) fun a hf => qE hf rfl rfl rfl (Pu.ev (pM rfl)) fun a hf => ?_
  refine qCut 13 (fun a => Has 36 a [(0,.slice l_p l.length l_c),(3,.int .i64 i_1),(10,.slice l_p l.length l_c),(11,.int .i64 i_1),(12,.pointer (some ⟨b_1,o,none⟩)),(13,.pointer (some ⟨b_1,o + 0,none⟩)),(14,.int .i64 e_1.Stage),(15,.slice l_p l.length l_c),(16,.int .i64 i_1),(17,.int .i64 (W (i_1 - 1))),(18,.pointer (some ⟨b_2,o_1,none⟩)),(19,.pointer (some ⟨b_2,o_1 + 0,none⟩)),(20,.int .i64 e_2.Stage),(21,.bool (decide (e_1.Stage ≤ e_2.Stage))),(22,.bool (decide (e_1.Stage ≤ e_2.Stage))),(35,.bool t_1)]) ?_ ?_
  ·cases hb : (decide (e_1.Stage ≤ e_2.Stage))
   ·rw [hb] at hf
    have hF := condF hb ht_1
    obtain ⟨e_3,he_3,hF⟩ := bnd_some hF
    obtain ⟨b_3,o_2,qa_2,qp_2⟩ := h_l.atm he_3
    obtain ⟨e_4,he_4,hF⟩ := bnd_some hF
    obtain ⟨b_4,o_3,qa_3,qp_3⟩ := h_l.atm he_4
    refine qE hf rfl rfl rfl (Pu.ev (pM rfl)) fun a hf => qE hf rfl rfl rfl (Pu.ev (pM rfl)) fun a hf => qE hf rfl rfl rfl (Pu.ev (pIA Try.underlying31 sz_134 rfl rfl qa_2)) fun a hf => qE hf rfl rfl rfl (Pu.ev (pFA fa_134_1 rfl)) fun a hf => qE hf rfl rfl rfl (eLd1 sc_3 rfl (cell_pc (j := 1) qp_2 rfl)) fun a hf => qE hf rfl rfl rfl (Pu.ev (pM rfl)) fun a hf => qE hf rfl rfl rfl (Pu.ev (pM rfl)) fun a hf => qE hf rfl rfl rfl (Pu.ev (pSub rfl rfl)) fun a hf => qE hf rfl rfl rfl (Pu.ev (pIA Try.underlying31 sz_134 rfl rfl qa_3)) fun a hf => qE hf rfl rfl rfl (Pu.ev (pFA fa_134_1 rfl)) fun a hf => qE hf rfl rfl rfl (eLd1 sc_3 rfl (cell_pc (j := 1) qp_3 rfl)) fun a hf => qE hf rfl rfl rfl (Pu.ev (pLe rfl rfl)) fun a hf => qE hf rfl rfl rfl (Pu.ev (pPf rfl rfl)) fun a hf => ?_
    obtain rfl := Option.some.inj hF
    exact qNil (hf.keep ⟨rfl,rfl,rfl,rfl,rfl,rfl,rfl,rfl,rfl,rfl,rfl,rfl,rfl,rfl,rfl,rfl,trivial⟩)
   ·rw [hb] at hf
    have hF := condT hb ht_1
    obtain rfl := Option.some.inj hF
    refine qS hf rfl rfl rfl fun a hf => qS hf rfl rfl rfl fun a hf => qS hf rfl rfl rfl fun a hf => qS hf rfl rfl rfl fun a hf => qS hf rfl rfl rfl fun a hf => qS hf rfl rfl rfl fun a hf => qS hf rfl rfl rfl fun a hf => qS hf rfl rfl rfl fun a hf => qS hf rfl rfl rfl fun a hf => qS hf rfl rfl rfl fun a hf => qS hf rfl rfl rfl fun a hf => qS hf rfl rfl rfl fun a hf => qE hf rfl rfl rfl (Pu.ev (pPt rfl rfl)) fun a hf => ?_
    exact qNil (hf.keep ⟨rfl,rfl,rfl,rfl,rfl,rfl,rfl,rfl,rfl,rfl,rfl,rfl,rfl,rfl,rfl,rfl,trivial⟩)
  intro a hf
  intro w hc
  refine h9 _ _ ?_
  refine cCond (b := t_1) hf rfl (fun hb => ?_) (fun hb => ?_)
  ·replace hF := condT hb hF
   clear hb
   refine wp_seq_k fun K10 h10 => cReg ?_
   refine stP hf rfl rfl rfl (pA rfl) fun a hf => cNil ?_
   refine h10 _ _ ?_
   refine wp_ret ?_
   refine xBlkR ?_
   refine xThenR ?_
   refine xThenR ?_
   have he := Option.some.inj hF
   rw [← he] at hfin4
   replace hF := ho4 _ hfin4
   refine xBlkR ?_
   refine xThenR ?_
   obtain rfl := hF
   exact fnOut1 (by simp) rfl Try.results67 hf hc (show look _ 2 = _ from rfl) ⟨rfl,hc⟩
  ·replace hF := condF hb hF
   clear hb
   refine wp_skip ?_
   refine h8 _ _ ?_
   refine cReg ?_
   refine stP hf rfl rfl rfl (pM rfl) fun a hf => stP hf rfl rfl rfl (pAdd rfl rfl) fun a hf => stP hf rfl rfl rfl (pA rfl) fun a hf => cNil ?_
   exact hK4 (W (i_1 + 1)) _ _ (Option.some.inj hF).symm ⟨hf.keep ⟨rfl,rfl,trivial⟩,hc⟩
 ·replace hF := condF hb hF
  clear hb
  refine wp_exit ?_
  refine xThen ?_
  refine xThen ?_
  have he := Option.some.inj hF
  rw [← he] at hfin4
  refine cHit ?_
  exact hr4 _ _ _ hfin4 ⟨hf.keep ⟨rfl,rfl,trivial⟩,hc⟩

def ref05_Check_b17 (N : Nat) (r : ref05_Record) (i_2 : Int) : Option (Step (Int) (Int)) :=
 cond (decide (i_2 < ((r.Gaugings.length : Nat) : Int)))
 (Option.bind (getI r.Gaugings i_2) fun e_1 =>
 Option.bind (getI r.Gaugings (W (i_2 - 1))) fun e_2 =>
 cond (decide (e_1.Day ≤ e_2.Day))
 (some (.ret 9))
 (some (.cont (W (i_2 + 1)))))
 (some (.brk i_2))
def ref05_Check_b11 (N : Nat) (r : ref05_Record) (i_1 : Int) : Option (Step (Int) (Int)) :=
 cond (decide (i_1 < ((r.Gaugings.length : Nat) : Int)))
 (Option.bind (getI r.Gaugings i_1) fun e_3 =>
 cond (((((ref05_outside e_3.Day 0 40000) || (ref05_outside e_3.Stage (-2000) 2000)) || (decide (e_3.Flow.Lo < 0))) || (decide (1000000000 < e_3.Flow.Hi))) || (decide (e_3.Flow.Hi < e_3.Flow.Lo)))
 (some (.ret 60))
 (some (.cont (W (i_1 + 1)))))
 (some (.brk i_1))
def ref05_Check (N : Nat) (r : ref05_Record) : Option (Int) :=
 cond ((((decide (((r.Rating.length : Nat) : Int) < 2)) || (decide (12 < ((r.Rating.length : Nat) : Int)))) || (decide (((r.Gaugings.length : Nat) : Int) < 1))) || (decide (30 < ((r.Gaugings.length : Nat) : Int))))
 (some 3)
 (Option.bind (ref05_marks N r.Rating) fun r_0 =>
 cond (r_0 != 0)
 (some r_0)
 (Option.bind (loopO (fun s11 => ref05_Check_b11 N r s11) N 0) fun x11 =>
 exK x11 (fun s11 => Option.bind (ref05_mixed N r.Rating) fun r_1 =>
 cond r_1
 (some 9)
 (Option.bind (loopO (fun s17 => ref05_Check_b17 N r s17) N 1) fun x17 =>
 exK x17 (fun s17 => some 0) some)) some))
theorem ref05_Check_ok {N : Nat} {G : Pers} {Lf : List Ent} {w : World} (r : ref05_Record) {r_Rating_p : Option Addr} {r_Rating_c : Nat} {r_Gaugings_p : Option Addr} {r_Gaugings_c : Nat} (h_r_Rating : Rd G 2 r_Rating_p r_Rating_c (r.Rating.map enc_ref05_Mark)) (h_r_Gaugings : Rd G 4 r_Gaugings_p r_Gaugings_c (r.Gaugings.map enc_ref05_Gauging)) (hc : Ctx G (Lf) w) {res : Int} (hF : ref05_Check N r = some res) : Calls Try.prog 15 #[.agg #[.slice r_Rating_p r.Rating.length r_Rating_c,.slice r_Gaugings_p r.Gaugings.length r_Gaugings_c]] w (fun e w => e = .returned (.int .i64 res) ∧ Ctx G (Lf) w) := by
 unfold ref05_Check at hF
 refine fnIn (args := [.agg #[.slice r_Rating_p r.Rating.length r_Rating_c,.slice r_Gaugings_p r.Gaugings.length r_Gaugings_c]]) Try.func15 rfl Try.ntmps15 rfl fun a hf => wp_seq_k fun K1 h1 => cReg ?_
 refine stBx (cs := [.slice r_Rating_p r.Rating.length r_Rating_c,.slice r_Gaugings_p r.Gaugings.length r_Gaugings_c]) hf hc rfl rfl rfl rfl fun b_1 a w hf hc => stP hf rfl rfl rfl (pA rfl) fun a hf => cNil ?_
 refine h1 _ _ ?_
 refine wp_seq_k fun K2 h2 => wp_seq_k fun K3 h3 => cReg ?_
 refine stP hf rfl rfl rfl (pFA fa_34_0 rfl) fun a hf => stE hf hc rfl rfl rfl (eLd1 sc_31 rfl (cell_box m0 rfl)) fun a w hf hc => stP hf rfl rfl rfl (pLenS Try.underlying31 rfl) fun a hf => stP hf rfl rfl rfl (pLt rfl rfl) fun a hf => stP hf rfl rfl rfl (pM rfl) fun a hf => stCut 5 (fun a w => Has 100 a [(1,.pointer (some ⟨b_1,0,none⟩)),(7,.pointer (some ⟨b_1,0,none⟩)),(8,.slice r_Rating_p r.Rating.length r_Rating_c),(9,.int .i64 ((r.Rating.length : Nat) : Int)),(10,.bool (decide (((r.Rating.length : Nat) : Int) < 2))),(11,.bool (decide (((r.Rating.length : Nat) : Int) < 2))),(16,.bool ((decide (((r.Rating.length : Nat) : Int) < 2)) || (decide (12 < ((r.Rating.length : Nat) : Int)))))] ∧ Ctx G (.box b_1 [.slice r_Rating_p r.Rating.length r_Rating_c,.slice r_Gaugings_p r.Gaugings.length r_Gaugings_c] 34::Lf) w) ?_ ?_
 ·cases hb : (decide (((r.Rating.length : Nat) : Int) < 2))
  ·rw [hb] at hf
   refine stP hf rfl rfl rfl (pFA fa_34_0 rfl) fun a hf => stE hf hc rfl rfl rfl (eLd1 sc_31 rfl (cell_box m0 rfl)) fun a w hf hc => stP hf rfl rfl rfl (pLenS Try.underlying31 rfl) fun a hf => stP hf rfl rfl rfl (pGt rfl rfl) fun a hf => stP hf rfl rfl rfl (pPf rfl rfl) fun a hf => cNil ⟨hf.keep ⟨rfl,rfl,rfl,rfl,rfl,rfl,rfl,trivial⟩,hc⟩
  ·rw [hb] at hf
   refine stS hf rfl rfl rfl fun a hf => stS hf rfl rfl rfl fun a hf => stS hf rfl rfl rfl fun a hf => stS hf rfl rfl rfl fun a hf => stP hf rfl rfl rfl (pPt rfl rfl) fun a hf => cNil ⟨hf.keep ⟨rfl,rfl,rfl,rfl,rfl,rfl,rfl,trivial⟩,hc⟩
 intro a w ⟨hf,hc⟩
 refine stP hf rfl rfl rfl (pM rfl) fun a hf => stCut 5 (fun a w => Has 100 a [(1,.pointer (some ⟨b_1,0,none⟩)),(7,.pointer (some ⟨b_1,0,none⟩)),(8,.slice r_Rating_p r.Rating.length r_Rating_c),(9,.int .i64 ((r.Rating.length : Nat) : Int)),(10,.bool (decide (((r.Rating.length : Nat) : Int) < 2))),(11,.bool (decide (((r.Rating.length : Nat) : Int) < 2))),(16,.bool ((decide (((r.Rating.length : Nat) : Int) < 2)) || (decide (12 < ((r.Rating.length : Nat) : Int))))),(17,.bool ((decide (((r.Rating.length : Nat) : Int) < 2)) || (decide (12 < ((r.Rating.length : Nat) : Int))))),(22,.bool (((decide (((r.Rating.length : Nat) : Int) < 2)) || (decide (12 < ((r.Rating.length : Nat) : Int)))) || (decide (((r.Gaugings.length : Nat) : Int) < 1))))] ∧ Ctx G (.box b_1 [.slice r_Rating_p r.Rating.length r_Rating_c,.slice r_Gaugings_p r.Gaugings.length r_Gaugings_c] 34::Lf) w) ?_ ?_
 ·cases hb : ((decide (((r.Rating.length : Nat) : Int) < 2)) || (decide (12 < ((r.Rating.length : Nat) : Int))))
  ·rw [hb] at hf
   refine stP hf rfl rfl rfl (pFA fa_34_1 rfl) fun a hf => stE hf hc rfl rfl rfl (eLd1 sc_32 rfl (cell_box m0 rfl)) fun a w hf hc => stP hf rfl rfl rfl (pLenS Try.underlying32 rfl) fun a hf => stP hf rfl rfl rfl (pLt rfl rfl) fun a hf => stP hf rfl rfl rfl (pPf rfl rfl) fun a hf => cNil ⟨hf.keep ⟨rfl,rfl,rfl,rfl,rfl,rfl,rfl,rfl,rfl,trivial⟩,hc⟩
  ·rw [hb] at hf
   refine stS hf rfl rfl rfl fun a hf => stS hf rfl rfl rfl fun a hf => stS hf rfl rfl rfl fun a hf => stS hf rfl rfl rfl fun a hf => stP hf rfl rfl rfl (pPt rfl rfl) fun a hf => cNil ⟨hf.keep ⟨rfl,rfl,rfl,rfl,rfl,rfl,rfl,rfl,rfl,trivial⟩,hc⟩
 intro a w ⟨hf,hc⟩
 refine stP hf rfl rfl rfl (pM rfl) fun a hf => stCut 5 (fun a w => Has 100 a [(1,.pointer (some ⟨b_1,0,none⟩)),(7,.pointer (some ⟨b_1,0,none⟩)),(8,.slice r_Rating_p r.Rating.length r_Rating_c),(9,.int .i64 ((r.Rating.length : Nat) : Int)),(10,.bool (decide (((r.Rating.length : Nat) : Int) < 2))),(11,.bool (decide (((r.Rating.length : Nat) : Int) < 2))),(16,.bool ((decide (((r.Rating.length : Nat) : Int) < 2)) || (decide (12 < ((r.Rating.length : Nat) : Int))))),(17,.bool ((decide (((r.Rating.length : Nat) : Int) < 2)) || (decide (12 < ((r.Rating.length : Nat) : Int))))),(22,.bool (((decide (((r.Rating.length : Nat) : Int) < 2)) || (decide (12 < ((r.Rating.length : Nat) : Int)))) || (decide (((r.Gaugings.length : Nat) : Int) < 1)))),(23,.bool (((decide (((r.Rating.length : Nat) : Int) < 2)) || (decide (12 < ((r.Rating.length : Nat) : Int)))) || (decide (((r.Gaugings.length : Nat) : Int) < 1)))),(28,.bool ((((decide (((r.Rating.length : Nat) : Int) < 2)) || (decide (12 < ((r.Rating.length : Nat) : Int)))) || (decide (((r.Gaugings.length : Nat) : Int) < 1))) || (decide (30 < ((r.Gaugings.length : Nat) : Int)))))] ∧ Ctx G (.box b_1 [.slice r_Rating_p r.Rating.length r_Rating_c,.slice r_Gaugings_p r.Gaugings.length r_Gaugings_c] 34::Lf) w) ?_ ?_
 ·cases hb : (((decide (((r.Rating.length : Nat) : Int) < 2)) || (decide (12 < ((r.Rating.length : Nat) : Int)))) || (decide (((r.Gaugings.length : Nat) : Int) < 1)))
  ·rw [hb] at hf
   refine stP hf rfl rfl rfl (pFA fa_34_1 rfl) fun a hf => stE hf hc rfl rfl rfl (eLd1 sc_32 rfl (cell_box m0 rfl)) fun a w hf hc => stP hf rfl rfl rfl (pLenS Try.underlying32 rfl) fun a hf => stP hf rfl rfl rfl (pGt rfl rfl) fun a hf => stP hf rfl rfl rfl (pPf rfl rfl) fun a hf => cNil ⟨hf.keep ⟨rfl,rfl,rfl,rfl,rfl,rfl,rfl,rfl,rfl,rfl,rfl,trivial⟩,hc⟩
  ·rw [hb] at hf
   refine stS hf rfl rfl rfl fun a hf => stS hf rfl rfl rfl fun a hf => stS hf rfl rfl rfl fun a hf => stS hf rfl rfl rfl fun a hf => stP hf rfl rfl rfl (pPt rfl rfl) fun a hf => cNil ⟨hf.keep ⟨rfl,rfl,rfl,rfl,rfl,rfl,rfl,rfl,rfl,rfl,rfl,trivial⟩,hc⟩
 intro a w ⟨hf,hc⟩
 refine cNil ?_
 refine h3 _ _ ?_
 refine cCond (b := ((((decide (((r.Rating.length : Nat) : Int) < 2)) || (decide (12 < ((r.Rating.length : Nat) : Int)))) || (decide (((r.Gaugings.length : Nat) : Int) < 1))) || (decide (30 < ((r.Gaugings.length : Nat) : Int))))) hf rfl (fun hb => ?_) (fun hb => ?_)
 ·replace hF := condT hb hF
  clear hb
  refine wp_seq_k fun K4 h4 => cReg ?_
  refine stP hf rfl rfl rfl (pA rfl) fun a hf => cNil ?_
  refine h4 _ _ ?_
  refine wp_ret ?_
  refine xThenR ?_
  obtain rfl := Option.some.inj hF
  replace hc := hc.drop k0
  exact fnOut1 (by simp) rfl Try.results15 hf hc (show look _ 2 = _ from rfl) ⟨rfl,hc⟩
 ·replace hF := condF hb hF
  clear hb
  refine wp_skip ?_
  refine h2 _ _ ?_
  refine wp_seq_k fun K5 h5 => wp_seq_k fun K6 h6 => cReg ?_
  refine stP hf rfl rfl rfl (pFA fa_34_0 rfl) fun a hf => stE hf hc rfl rfl rfl (eLd1 sc_31 rfl (cell_box m0 rfl)) fun a w hf hc => ?_
  obtain ⟨r_0,hr_0,hF⟩ := bnd_some hF
  refine stE hf hc rfl rfl rfl (eC (v := .int .i64 r_0) (vs := [.slice r_Rating_p r.Rating.length r_Rating_c]) (caps := []) en_65 rfl rfl rfl rfl (fun w hc => ref05_marks_ok r.Rating h_r_Rating hc hr_0)) fun a w hf hc => stP hf rfl rfl rfl (pA rfl) fun a hf => cNil ?_
  refine h6 _ _ ?_
  refine wp_seq_k fun K7 h7 => cReg ?_
  refine stP hf rfl rfl rfl (pM rfl) fun a hf => stP hf rfl rfl rfl (pNe rfl rfl) fun a hf => cNil ?_
  refine h7 _ _ ?_
  refine cCond (b := (r_0 != 0)) hf rfl (fun hb => ?_) (fun hb => ?_)
  ·replace hF := condT hb hF
   clear hb
   refine wp_seq_k fun K8 h8 => cReg ?_
   refine stP hf rfl rfl rfl (pM rfl) fun a hf => stP hf rfl rfl rfl (pA rfl) fun a hf => cNil ?_
   refine h8 _ _ ?_
   refine wp_ret ?_
   refine xThenR ?_
   obtain rfl := Option.some.inj hF
   replace hc := hc.drop k0
   exact fnOut1 (by simp) rfl Try.results15 hf hc (show look _ 2 = _ from rfl) ⟨rfl,hc⟩
  ·replace hF := condF hb hF
   clear hb
   refine wp_skip ?_
   refine h5 _ _ ?_
   refine wp_seq_k fun K9 h9 => wp_seq_k fun K10 h10 => cReg ?_
   refine stP hf rfl rfl rfl (pA rfl) fun a hf => cNil ?_
   refine h10 _ _ ?_
   refine wp_block ?_
   obtain ⟨x11,hx11,hF⟩ := bnd_some hF
   let S11 : Int → Act → World → Prop := (fun (zz : Int) a w => Has 100 a [(1,.pointer (some ⟨b_1,0,none⟩)),(4,.int .i64 zz)] ∧ Ctx G (.box b_1 [.slice r_Rating_p r.Rating.length r_Rating_c,.slice r_Gaugings_p r.Gaugings.length r_Gaugings_c] 34::Lf) w)
   have hr11 : ∀ (zz : Int) a w,x11 = .go zz → S11 zz a w → K9 a w := by
    rintro i_1 a w rfl ⟨hf,hc⟩
    replace hF := exK_go hF
    refine h9 _ _ ?_
    refine wp_seq_k fun K12 h12 => wp_seq_k fun K13 h13 => cReg ?_
    refine stP hf rfl rfl rfl (pFA fa_34_0 rfl) fun a hf => stE hf hc rfl rfl rfl (eLd1 sc_31 rfl (cell_box m0 rfl)) fun a w hf hc => ?_
    obtain ⟨r_1,hr_1,hF⟩ := bnd_some hF
    refine stE hf hc rfl rfl rfl (eC (v := .bool r_1) (vs := [.slice r_Rating_p r.Rating.length r_Rating_c]) (caps := []) en_67 rfl rfl rfl rfl (fun w hc => ref05_mixed_ok r.Rating h_r_Rating hc hr_1)) fun a w hf hc => cNil ?_
    refine h13 _ _ ?_
    refine cCond (b := r_1) hf rfl (fun hb => ?_) (fun hb => ?_)
    ·replace hF := condT hb hF
     clear hb
     refine wp_seq_k fun K14 h14 => cReg ?_
     refine stP hf rfl rfl rfl (pA rfl) fun a hf => cNil ?_
     refine h14 _ _ ?_
     refine wp_ret ?_
     refine xThenR ?_
     obtain rfl := Option.some.inj hF
     replace hc := hc.drop k0
     exact fnOut1 (by simp) rfl Try.results15 hf hc (show look _ 2 = _ from rfl) ⟨rfl,hc⟩
    ·replace hF := condF hb hF
     clear hb
     refine wp_skip ?_
     refine h12 _ _ ?_
     refine wp_seq_k fun K15 h15 => wp_seq_k fun K16 h16 => cReg ?_
     refine stP hf rfl rfl rfl (pA rfl) fun a hf => cNil ?_
     refine h16 _ _ ?_
     refine wp_block ?_
     obtain ⟨x17,hx17,hF⟩ := bnd_some hF
     let S17 : Int → Act → World → Prop := (fun (zz : Int) a w => Has 100 a [(1,.pointer (some ⟨b_1,0,none⟩)),(6,.int .i64 zz)] ∧ Ctx G (.box b_1 [.slice r_Rating_p r.Rating.length r_Rating_c,.slice r_Gaugings_p r.Gaugings.length r_Gaugings_c] 34::Lf) w)
     have hr17 : ∀ (zz : Int) a w,x17 = .go zz → S17 zz a w → K15 a w := by
      rintro i_2 a w rfl ⟨hf,hc⟩
      replace hF := exK_go hF
      refine h15 _ _ ?_
      refine wp_seq_k fun K18 h18 => cReg ?_
      refine stP hf rfl rfl rfl (pA rfl) fun a hf => cNil ?_
      refine h18 _ _ ?_
      refine wp_ret ?_
      obtain rfl := Option.some.inj hF
      replace hc := hc.drop k0
      exact fnOut1 (by simp) rfl Try.results15 hf hc (show look _ 2 = _ from rfl) ⟨rfl,hc⟩
     have ho17 : ∀ r,x17 = .out r → r = res := by
      rintro r rfl
      exact Option.some.inj hF
     refine cLoop N (loopW (S := S17) (x := x17) ?_ N 1 _ _ ⟨hf.keep ⟨rfl,rfl,trivial⟩,hc⟩ hx17)
     clear hF hf hc
     rintro i_2 st17 a w KB17 ⟨hf,hc⟩ hF hfin17 hK17
     unfold ref05_Check_b17 at hF
     refine wp_seq_k fun K19 h19 => wp_seq_k fun K20 h20 => cReg ?_
     refine stP hf rfl rfl rfl (pM rfl) fun a hf => stP hf rfl rfl rfl (pFA fa_34_1 rfl) fun a hf => stE hf hc rfl rfl rfl (eLd1 sc_32 rfl (cell_box m0 rfl)) fun a w hf hc => stP hf rfl rfl rfl (pLenS Try.underlying32 rfl) fun a hf => stP hf rfl rfl rfl (pLt rfl rfl) fun a hf => cNil ?_
     refine h20 _ _ ?_
     refine cCond (b := (decide (i_2 < ((r.Gaugings.length : Nat) : Int)))) hf rfl (fun hb => ?_) (fun hb => ?_)
     ·replace hF := condT hb hF
      clear hb
      refine wp_skip ?_
      refine h19 _ _ ?_
      refine wp_seq_k fun K21 h21 => wp_block ?_
      refine wp_seq_k fun K22 h22 => ?_
      obtain ⟨e_1,he_1,hF⟩ := bnd_some hF
      obtain ⟨b_2,o,qa,qp⟩ := h_r_Gaugings.atm he_1
      obtain ⟨e_2,he_2,hF⟩ := bnd_some hF
      obtain ⟨b_3,o_1,qa_1,qp_1⟩ := h_r_Gaugings.atm he_2
      refine cQ hc follows_mx (by kernel_rfl) ?_
      refine qE hf rfl rfl rfl (Pu.ev (pFA fa_34_1 rfl)) fun a hf => qE hf rfl rfl rfl (eLd1 sc_32 rfl (cell_box m0 rfl)) fun a hf => qE hf rfl rfl rfl (Pu.ev (pM rfl)) fun a hf => qE hf rfl rfl rfl (Pu.ev (pIA Try.underlying32 sz_129 rfl rfl qa)) fun a hf => qE hf rfl rfl rfl (Pu.ev (pFA fa_129_0 rfl)) fun a hf => qE hf rfl rfl rfl (eLd1 sc_3 rfl (cell_pc (j := 0) qp rfl)) fun a hf => qE hf rfl rfl rfl (Pu.ev (pFA fa_34_1 rfl)) fun a hf => qE hf rfl rfl rfl (eLd1 sc_32 rfl (cell_box m0 rfl)) fun a hf => qE hf rfl rfl rfl (Pu.ev (pM rfl)) fun a hf => qE hf rfl rfl rfl (Pu.ev (pSub rfl rfl)) fun a hf => qE hf rfl rfl rfl (Pu.ev (pIA Try.underlying32 sz_129 rfl rfl qa_1)) fun a hf => qE hf rfl rfl rfl (Pu.ev (pFA fa_129_0 rfl)) fun a hf => qE hf rfl rfl rfl (eLd1 sc_3 rfl (cell_pc (j := 0) qp_1 rfl)) fun a hf => ?_
      refine qE hf rfl rfl rfl (Pu.ev (pLe rfl rfl)) fun a hf => ?_
      intro w hc
      refine h22 _ _ ?_
      refine cCond (b := (decide (e_1.Day ≤ e_2.Day))) hf rfl (fun hb => ?_) (fun hb => ?_)
      ·replace hF := condT hb hF
       clear hb
       refine wp_seq_k fun K23 h23 => cReg ?_
       refine stP hf rfl rfl rfl (pA rfl) fun a hf => cNil ?_
       refine h23 _ _ ?_
       refine wp_ret ?_
       refine xBlkR ?_
       refine xThenR ?_
       refine xThenR ?_
       have he := Option.some.inj hF
       rw [← he] at hfin17
       replace hF := ho17 _ hfin17
       refine xBlkR ?_
       refine xThenR ?_
       obtain rfl := hF
       replace hc := hc.drop k0
       exact fnOut1 (by simp) rfl Try.results15 hf hc (show look _ 2 = _ from rfl) ⟨rfl,hc⟩
      ·replace hF := condF hb hF
       clear hb
       refine wp_skip ?_
       refine h21 _ _ ?_
       refine cReg ?_
       refine stP hf rfl rfl rfl (pM rfl) fun a hf => stP hf rfl rfl rfl (pAdd rfl rfl) fun a hf => stP hf rfl rfl rfl (pA rfl) fun a hf => cNil ?_
       exact hK17 (W (i_2 + 1)) _ _ (Option.some.inj hF).symm ⟨hf.keep ⟨rfl,rfl,trivial⟩,hc⟩
     ·replace hF := condF hb hF
      clear hb
      refine wp_exit ?_
      refine xThen ?_
      refine xThen ?_
      have he := Option.some.inj hF
      rw [← he] at hfin17
      refine cHit ?_
      exact hr17 _ _ _ hfin17 ⟨hf.keep ⟨rfl,rfl,trivial⟩,hc⟩
   have ho11 : ∀ r,x11 = .out r → r = res := by
    rintro r rfl
    exact Option.some.inj hF
   refine cLoop N (loopW (S := S11) (x := x11) ?_ N 0 _ _ ⟨hf.keep ⟨rfl,rfl,trivial⟩,hc⟩ hx11)
   clear hF hf hc
   rintro i_1 st11 a w KB11 ⟨hf,hc⟩ hF hfin11 hK11
   unfold ref05_Check_b11 at hF
   refine wp_seq_k fun K24 h24 => wp_seq_k fun K25 h25 => cReg ?_
   refine stP hf rfl rfl rfl (pM rfl) fun a hf => stP hf rfl rfl rfl (pFA fa_34_1 rfl) fun a hf => stE hf hc rfl rfl rfl (eLd1 sc_32 rfl (cell_box m0 rfl)) fun a w hf hc => stP hf rfl rfl rfl (pLenS Try.underlying32 rfl) fun a hf => stP hf rfl rfl rfl (pLt rfl rfl) fun a hf => cNil ?_
   refine h25 _ _ ?_
   refine cCond (b := (decide (i_1 < ((r.Gaugings.length : Nat) : Int)))) hf rfl (fun hb => ?_) (fun hb => ?_)
   ·replace hF := condT hb hF
    clear hb
    refine wp_skip ?_
    refine h24 _ _ ?_
    refine wp_seq_k fun K26 h26 => wp_block ?_
    refine wp_seq_k fun K27 h27 => cReg ?_
    refine stP hf rfl rfl rfl (pFA fa_34_1 rfl) fun a hf => stE hf hc rfl rfl rfl (eLd1 sc_32 rfl (cell_box m0 rfl)) fun a w hf hc => stP hf rfl rfl rfl (pM rfl) fun a hf => ?_
    obtain ⟨e_3,he_3,hF⟩ := bnd_some hF
    obtain ⟨b_4,o_2,qa_2,qp_2⟩ := h_r_Gaugings.atm he_3
    refine stP hf rfl rfl rfl (pIA Try.underlying32 sz_129 rfl rfl qa_2) fun a hf => stE hf hc rfl rfl rfl (eLdN (vs := [.int .i64 e_3.Day,.int .i64 e_3.Stage,.int .i64 e_3.Flow.Lo,.int .i64 e_3.Flow.Hi]) ag_129 rfl rfl (cells_pc qp_2 (n := 4) (o' := 0) rfl)) fun a w hf hc => stAl (cs := [.int .i64 0,.int .i64 0,.int .i64 0,.int .i64 0]) hf hc rfl rfl zr_129 rfl fun b_5 a w hf hc => stSt (vs := [.int .i64 e_3.Day,.int .i64 e_3.Stage,.int .i64 e_3.Flow.Lo,.int .i64 e_3.Flow.Hi]) hf hc rfl rfl rfl rfl sz_129 rfl rfl u0 fun w hc => cNil ?_
    refine h27 _ _ ?_
    refine wp_seq_k fun K28 h28 => cReg ?_
    refine stP hf rfl rfl rfl (pFA fa_129_0 rfl) fun a hf => stE hf hc rfl rfl rfl (eLd1 sc_3 rfl (cell_box m0 rfl)) fun a w hf hc => stE hf hc rfl rfl rfl (eC (v := .bool (ref05_outside e_3.Day 0 40000)) (vs := [.int .i64 e_3.Day,.int .i64 0,.int .i64 40000]) (caps := []) en_66 rfl rfl rfl rfl (fun w hc => ref05_outside_ok e_3.Day 0 40000 hc rfl)) fun a w hf hc => stP hf rfl rfl rfl (pM rfl) fun a hf => stCut 4 (fun a w => Has 100 a [(1,.pointer (some ⟨b_1,0,none⟩)),(4,.int .i64 i_1),(5,.pointer (some ⟨b_5,0,none⟩)),(47,.pointer (some ⟨b_5,0,none⟩)),(48,.int .i64 e_3.Day),(49,.bool (ref05_outside e_3.Day 0 40000)),(50,.bool (ref05_outside e_3.Day 0 40000)),(54,.bool ((ref05_outside e_3.Day 0 40000) || (ref05_outside e_3.Stage (-2000) 2000)))] ∧ Ctx G (.box b_5 [.int .i64 e_3.Day,.int .i64 e_3.Stage,.int .i64 e_3.Flow.Lo,.int .i64 e_3.Flow.Hi] 129::.box b_1 [.slice r_Rating_p r.Rating.length r_Rating_c,.slice r_Gaugings_p r.Gaugings.length r_Gaugings_c] 34::Lf) w) ?_ ?_
    ·cases hb : (ref05_outside e_3.Day 0 40000)
     ·rw [hb] at hf
      refine stP hf rfl rfl rfl (pFA fa_129_1 rfl) fun a hf => stE hf hc rfl rfl rfl (eLd1 sc_3 rfl (cell_box m0 rfl)) fun a w hf hc => stE hf hc rfl rfl rfl (eC (v := .bool (ref05_outside e_3.Stage (-2000) 2000)) (vs := [.int .i64 e_3.Stage,.int .i64 (-2000),.int .i64 2000]) (caps := []) en_66 rfl rfl rfl rfl (fun w hc => ref05_outside_ok e_3.Stage (-2000) 2000 hc rfl)) fun a w hf hc => stP hf rfl rfl rfl (pPf rfl rfl) fun a hf => cNil ⟨hf.keep ⟨rfl,rfl,rfl,rfl,rfl,rfl,rfl,rfl,trivial⟩,hc⟩
     ·rw [hb] at hf
      refine stS hf rfl rfl rfl fun a hf => stS hf rfl rfl rfl fun a hf => stS hf rfl rfl rfl fun a hf => stP hf rfl rfl rfl (pPt rfl rfl) fun a hf => cNil ⟨hf.keep ⟨rfl,rfl,rfl,rfl,rfl,rfl,rfl,rfl,trivial⟩,hc⟩
    intro a w ⟨hf,hc⟩
    refine stP hf rfl rfl rfl (pM rfl) fun a hf => stCut 5 (fun a w => Has 100 a [(1,.pointer (some ⟨b_1,0,none⟩)),(4,.int .i64 i_1),(5,.pointer (some ⟨b_5,0,none⟩)),(47,.pointer (some ⟨b_5,0,none⟩)),(48,.int .i64 e_3.Day),(49,.bool (ref05_outside e_3.Day 0 40000)),(50,.bool (ref05_outside e_3.Day 0 40000)),(54,.bool ((ref05_outside e_3.Day 0 40000) || (ref05_outside e_3.Stage (-2000) 2000))),(55,.bool ((ref05_outside e_3.Day 0 40000) || (ref05_outside e_3.Stage (-2000) 2000))),(60,.bool (((ref05_outside e_3.Day 0 40000) || (ref05_outside e_3.Stage (-2000) 2000)) || (decide (e_3.Flow.Lo < 0))))] ∧ Ctx G (.box b_5 [.int .i64 e_3.Day,.int .i64 e_3.Stage,.int .i64 e_3.Flow.Lo,.int .i64 e_3.Flow.Hi] 129::.box b_1 [.slice r_Rating_p r.Rating.length r_Rating_c,.slice r_Gaugings_p r.Gaugings.length r_Gaugings_c] 34::Lf) w) ?_ ?_
    ·cases hb : ((ref05_outside e_3.Day 0 40000) || (ref05_outside e_3.Stage (-2000) 2000))
     ·rw [hb] at hf
      refine stP hf rfl rfl rfl (pFA fa_129_2 rfl) fun a hf => stP hf rfl rfl rfl (pFA fa_50_0 rfl) fun a hf => stE hf hc rfl rfl rfl (eLd1 sc_3 rfl (cell_box m0 rfl)) fun a w hf hc => stP hf rfl rfl rfl (pLt rfl rfl) fun a hf => stP hf rfl rfl rfl (pPf rfl rfl) fun a hf => cNil ⟨hf.keep ⟨rfl,rfl,rfl,rfl,rfl,rfl,rfl,rfl,rfl,rfl,trivial⟩,hc⟩
     ·rw [hb] at hf
      refine stS hf rfl rfl rfl fun a hf => stS hf rfl rfl rfl fun a hf => stS hf rfl rfl rfl fun a hf => stS hf rfl rfl rfl fun a hf => stP hf rfl rfl rfl (pPt rfl rfl) fun a hf => cNil ⟨hf.keep ⟨rfl,rfl,rfl,rfl,rfl,rfl,rfl,rfl,rfl,rfl,trivial⟩,hc⟩
    intro a w ⟨hf,hc⟩
    refine stP hf rfl rfl rfl (pM rfl) fun a hf => stCut 5 (fun a w => Has 100 a [(1,.pointer (some ⟨b_1,0,none⟩)),(4,.int .i64 i_1),(5,.pointer (some ⟨b_5,0,none⟩)),(47,.pointer (some ⟨b_5,0,none⟩)),(48,.int .i64 e_3.Day),(49,.bool (ref05_outside e_3.Day 0 40000)),(50,.bool (ref05_outside e_3.Day 0 40000)),(54,.bool ((ref05_outside e_3.Day 0 40000) || (ref05_outside e_3.Stage (-2000) 2000))),(55,.bool ((ref05_outside e_3.Day 0 40000) || (ref05_outside e_3.Stage (-2000) 2000))),(60,.bool (((ref05_outside e_3.Day 0 40000) || (ref05_outside e_3.Stage (-2000) 2000)) || (decide (e_3.Flow.Lo < 0)))),(61,.bool (((ref05_outside e_3.Day 0 40000) || (ref05_outside e_3.Stage (-2000) 2000)) || (decide (e_3.Flow.Lo < 0)))),(66,.bool ((((ref05_outside e_3.Day 0 40000) || (ref05_outside e_3.Stage (-2000) 2000)) || (decide (e_3.Flow.Lo < 0))) || (decide (1000000000 < e_3.Flow.Hi))))] ∧ Ctx G (.box b_5 [.int .i64 e_3.Day,.int .i64 e_3.Stage,.int .i64 e_3.Flow.Lo,.int .i64 e_3.Flow.Hi] 129::.box b_1 [.slice r_Rating_p r.Rating.length r_Rating_c,.slice r_Gaugings_p r.Gaugings.length r_Gaugings_c] 34::Lf) w) ?_ ?_
    ·cases hb : (((ref05_outside e_3.Day 0 40000) || (ref05_outside e_3.Stage (-2000) 2000)) || (decide (e_3.Flow.Lo < 0)))
     ·rw [hb] at hf
      refine stP hf rfl rfl rfl (pFA fa_129_2 rfl) fun a hf => stP hf rfl rfl rfl (pFA fa_50_1 rfl) fun a hf => stE hf hc rfl rfl rfl (eLd1 sc_3 rfl (cell_box m0 rfl)) fun a w hf hc => stP hf rfl rfl rfl (pGt rfl rfl) fun a hf => stP hf rfl rfl rfl (pPf rfl rfl) fun a hf => cNil ⟨hf.keep ⟨rfl,rfl,rfl,rfl,rfl,rfl,rfl,rfl,rfl,rfl,rfl,rfl,trivial⟩,hc⟩
     ·rw [hb] at hf
      refine stS hf rfl rfl rfl fun a hf => stS hf rfl rfl rfl fun a hf => stS hf rfl rfl rfl fun a hf => stS hf rfl rfl rfl fun a hf => stP hf rfl rfl rfl (pPt rfl rfl) fun a hf => cNil ⟨hf.keep ⟨rfl,rfl,rfl,rfl,rfl,rfl,rfl,rfl,rfl,rfl,rfl,rfl,trivial⟩,hc⟩
    intro a w ⟨hf,hc⟩
    refine stP hf rfl rfl rfl (pM rfl) fun a hf => stCut 8 (fun a w => Has 100 a [(1,.pointer (some ⟨b_1,0,none⟩)),(4,.int .i64 i_1),(5,.pointer (some ⟨b_5,0,none⟩)),(47,.pointer (some ⟨b_5,0,none⟩)),(48,.int .i64 e_3.Day),(49,.bool (ref05_outside e_3.Day 0 40000)),(50,.bool (ref05_outside e_3.Day 0 40000)),(54,.bool ((ref05_outside e_3.Day 0 40000) || (ref05_outside e_3.Stage (-2000) 2000))),(55,.bool ((ref05_outside e_3.Day 0 40000) || (ref05_outside e_3.Stage (-2000) 2000))),(60,.bool (((ref05_outside e_3.Day 0 40000) || (ref05_outside e_3.Stage (-2000) 2000)) || (decide (e_3.Flow.Lo < 0)))),(61,.bool (((ref05_outside e_3.Day 0 40000) || (ref05_outside e_3.Stage (-2000) 2000)) || (decide (e_3.Flow.Lo < 0)))),(66,.bool ((((ref05_outside e_3.Day 0 40000) || (ref05_outside e_3.Stage (-2000) 2000)) || (decide (e_3.Flow.Lo < 0))) || (decide (1000000000 < e_3.Flow.Hi)))),(67,.bool ((((ref05_outside e_3.Day 0 40000) || (ref05_outside e_3.Stage (-2000) 2000)) || (decide (e_3.Flow.Lo < 0))) || (decide (1000000000 < e_3.Flow.Hi)))),(75,.bool (((((ref05_outside e_3.Day 0 40000) || (ref05_outside e_3.Stage (-2000) 2000)) || (decide (e_3.Flow.Lo < 0))) || (decide (1000000000 < e_3.Flow.Hi))) || (decide (e_3.Flow.Hi < e_3.Flow.Lo))))] ∧ Ctx G (.box b_5 [.int .i64 e_3.Day,.int .i64 e_3.Stage,.int .i64 e_3.Flow.Lo,.int .i64 e_3.Flow.Hi] 129::.box b_1 [.slice r_Rating_p r.Rating.length r_Rating_c,.slice r_Gaugings_p r.Gaugings.length r_Gaugings_c] 34::Lf) w) ?_ ?_
    ·cases hb : ((((ref05_outside e_3.Day 0 40000) || (ref05_outside e_3.Stage (-2000) 2000)) || (decide (e_3.Flow.Lo < 0))) || (decide (1000000000 < e_3.Flow.Hi)))
     ·rw [hb] at hf
      refine stP hf rfl rfl rfl (pFA fa_129_2 rfl) fun a hf => stP hf rfl rfl rfl (pFA fa_50_0 rfl) fun a hf => stE hf hc rfl rfl rfl (eLd1 sc_3 rfl (cell_box m0 rfl)) fun a w hf hc => stP hf rfl rfl rfl (pFA fa_129_2 rfl) fun a hf => stP hf rfl rfl rfl (pFA fa_50_1 rfl) fun a hf => stE hf hc rfl rfl rfl (eLd1 sc_3 rfl (cell_box m0 rfl)) fun a w hf hc => stP hf rfl rfl rfl (pGt rfl rfl) fun a hf => stP hf rfl rfl rfl (pPf rfl rfl) fun a hf => cNil ⟨hf.keep ⟨rfl,rfl,rfl,rfl,rfl,rfl,rfl,rfl,rfl,rfl,rfl,rfl,rfl,rfl,trivial⟩,hc⟩
     ·rw [hb] at hf
      refine stS hf rfl rfl rfl fun a hf => stS hf rfl rfl rfl fun a hf => stS hf rfl rfl rfl fun a hf => stS hf rfl rfl rfl fun a hf => stS hf rfl rfl rfl fun a hf => stS hf rfl rfl rfl fun a hf => stS hf rfl rfl rfl fun a hf => stP hf rfl rfl rfl (pPt rfl rfl) fun a hf => cNil ⟨hf.keep ⟨rfl,rfl,rfl,rfl,rfl,rfl,rfl,rfl,rfl,rfl,rfl,rfl,rfl,rfl,trivial⟩,hc⟩
    intro a w ⟨hf,hc⟩
    refine cNil ?_
    refine h28 _ _ ?_
    refine cCond (b := (((((ref05_outside e_3.Day 0 40000) || (ref05_outside e_3.Stage (-2000) 2000)) || (decide (e_3.Flow.Lo < 0))) || (decide (1000000000 < e_3.Flow.Hi))) || (decide (e_3.Flow.Hi < e_3.Flow.Lo)))) hf rfl (fun hb => ?_) (fun hb => ?_)
    ·replace hF := condT hb hF
     clear hb
     refine wp_seq_k fun K29 h29 => cReg ?_
     refine stP hf rfl rfl rfl (pA rfl) fun a hf => cNil ?_
     refine h29 _ _ ?_
     refine wp_ret ?_
     refine xBlkR ?_
     refine xThenR ?_
     refine xThenR ?_
     have he := Option.some.inj hF
     rw [← he] at hfin11
     replace hF := ho11 _ hfin11
     refine xBlkR ?_
     refine xThenR ?_
     obtain rfl := hF
     replace hc := hc.drop k1
     replace hc := hc.drop k0
     exact fnOut1 (by simp) rfl Try.results15 hf hc (show look _ 2 = _ from rfl) ⟨rfl,hc⟩
    ·replace hF := condF hb hF
     clear hb
     refine wp_skip ?_
     refine h26 _ _ ?_
     refine cReg ?_
     refine stP hf rfl rfl rfl (pM rfl) fun a hf => stP hf rfl rfl rfl (pAdd rfl rfl) fun a hf => stP hf rfl rfl rfl (pA rfl) fun a hf => cNil ?_
     replace hc := hc.drop k0
     exact hK11 (W (i_1 + 1)) _ _ (Option.some.inj hF).symm ⟨hf.keep ⟨rfl,rfl,trivial⟩,hc⟩
   ·replace hF := condF hb hF
    clear hb
    refine wp_exit ?_
    refine xThen ?_
    refine xThen ?_
    have he := Option.some.inj hF
    rw [← he] at hfin11
    refine cHit ?_
    exact hr11 _ _ _ hfin11 ⟨hf.keep ⟨rfl,rfl,trivial⟩,hc⟩

def ref05_lowest_b4 (N : Nat) (a_1 : Int) (b_2 : Int) : Option (Step (Int × Int) (api_Ratio)) :=
 cond (decide (0 < b_2))
 (Option.bind (nz b_2) fun un_2 =>
 some (.cont (b_2,a_1.tmod b_2)))
 (some (.brk (a_1,b_2)))
def ref05_lowest (N : Nat) (n : Int) (d : Int) : Option (api_Ratio) :=
 Option.bind (loopO (fun s4 => ref05_lowest_b4 N s4.1 s4.2) N (n,d)) fun x4 =>
 exK x4 (fun s4 => Option.bind (nz s4.1) fun un =>
 Option.bind (nz s4.1) fun un_1 =>
 some (⟨W (n.tdiv s4.1),W (d.tdiv s4.1)⟩ : api_Ratio)) some
theorem ref05_lowest_ok {N : Nat} {G : Pers} {Lf : List Ent} {w : World} (n : Int) (d : Int)   (hc : Ctx G (Lf) w) {res : api_Ratio} (hF : ref05_lowest N n d = some res) : Calls Try.prog 72 #[.int .i64 n,.int .i64 d] w (fun e w => e = .returned (.agg #[.int .i64 res.N,.int .i64 res.D]) ∧ Ctx G (Lf) w) := by
 unfold ref05_lowest at hF
 refine fnIn (args := [.int .i64 n,.int .i64 d]) Try.func72 rfl Try.ntmps72 rfl fun a hf => wp_seq_k fun K1 h1 => cReg ?_
 refine stAl (cs := [.int .i64 0,.int .i64 0]) hf hc rfl rfl zr_37 rfl fun b_1 a w hf hc => cNil ?_
 refine h1 _ _ ?_
 refine wp_seq_k fun K2 h2 => cReg ?_
 refine stP hf rfl rfl rfl (pM rfl) fun a hf => stP hf rfl rfl rfl (pM rfl) fun a hf => stP hf rfl rfl rfl (pA rfl) fun a hf => stP hf rfl rfl rfl (pA rfl) fun a hf => cNil ?_
 refine h2 _ _ ?_
 refine wp_seq_k fun K3 h3 => wp_block ?_
 obtain ⟨x4,hx4,hF⟩ := bnd_some hF
 let S4 : (Int × Int) → Act → World → Prop := (fun (zz : Int × Int) a w => Has 22 a [(0,.int .i64 n),(1,.int .i64 d),(4,.pointer (some ⟨b_1,0,none⟩)),(5,.int .i64 zz.1),(6,.int .i64 zz.2)] ∧ Ctx G (.box b_1 [.int .i64 0,.int .i64 0] 37::Lf) w)
 have hr4 : ∀ (zz : Int × Int) a w,x4 = .go zz → S4 zz a w → K3 a w := by
  rintro ⟨a_1,b_2⟩ a w rfl ⟨hf,hc⟩
  replace hF := exK_go hF
  refine h3 _ _ ?_
  refine wp_seq_k fun K5 h5 => ?_
  obtain ⟨un,hun,hF⟩ := bnd_some hF
  obtain ⟨un_1,hun_1,hF⟩ := bnd_some hF
  refine regionE (fun θ => [⟨none,none,0,.int .i64 n⟩,⟨none,none,1,.int .i64 d⟩,⟨none,none,4,.pointer (some ⟨b_1,0,none⟩)⟩,⟨none,none,5,.int .i64 a_1⟩,⟨some 0,none,15,.int .i64 n⟩,⟨some 1,none,16,.int .i64 a_1⟩,⟨some 2,none,17,.int .i64 (W (n.tdiv a_1))⟩,⟨some 3,none,18,.int .i64 d⟩,⟨some 4,none,19,.int .i64 a_1⟩,⟨some 5,none,20,.int .i64 (W (d.tdiv a_1))⟩,⟨some 6,none,21,.agg #[.int .i64 (W (n.tdiv a_1)),.int .i64 (W (d.tdiv a_1))]⟩]) (fun E θ => (bif E 7 then .box b_1 [.int .i64 (W (n.tdiv a_1)),.int .i64 (W (d.tdiv a_1))] 37 else .box b_1 [.int .i64 0,.int .i64 0] 37)::Lf) [] (fun a w => Has 22 a [(4,.pointer (some ⟨b_1,0,none⟩))] ∧ Ctx G (.box b_1 [.int .i64 (W (n.tdiv a_1)),.int .i64 (W (d.tdiv a_1))] 37::Lf) w) follows_mx (by kernel_rfl) (by kernel_rfl) (HasE.of hf ⟨rfl,rfl,rfl,rfl,trivial,trivial,trivial,trivial,trivial,trivial,trivial,trivial⟩) hc ⟨?_,?_,?_,?_,?_,?_,?_,?_,trivial⟩ ?_ ?_
  ·intro E θ a w hD hi hp he hc
   have hf := he.h0
   replace hf := hf.more he 0 rfl onT
   refine stP hf rfl rfl rfl (pM rfl) fun a hf => cNil ?_
   refine xThenN ?_
   intro ds u hau
   refine ⟨θ,he.put0 hi hau hf rfl 4 rfl rfl,?_⟩
   exact hc
  ·intro E θ a w hD hi hp he hc
   have hf := he.h0
   replace hf := hf.more he 3 rfl onT
   refine stP hf rfl rfl rfl (pM rfl) fun a hf => cNil ?_
   refine xThenN ?_
   intro ds u hau
   refine ⟨θ,he.put0 hi hau hf rfl 5 rfl rfl,?_⟩
   exact hc
  ·intro E θ a w hD hi hp he hc
   have e0 := hp.of (k := 0) rfl
   have e1 := hp.of (k := 1) rfl
   have hf := he.h0
   replace hf := hf.more he 4 rfl (onP e0)
   replace hf := hf.more he 5 rfl (onP e1)
   refine stP hf rfl rfl rfl (pQuo rfl rfl (nz_spec hun)) fun a hf => cNil ?_
   refine xThenN ?_
   intro ds u hau
   refine ⟨θ,he.put0 hi hau hf rfl 6 rfl rfl,?_⟩
   exact hc
  ·intro E θ a w hD hi hp he hc
   have hf := he.h0
   replace hf := hf.more he 1 rfl onT
   refine stP hf rfl rfl rfl (pM rfl) fun a hf => cNil ?_
   refine xThenN ?_
   intro ds u hau
   refine ⟨θ,he.put0 hi hau hf rfl 7 rfl rfl,?_⟩
   exact hc
  ·intro E θ a w hD hi hp he hc
   have hf := he.h0
   replace hf := hf.more he 3 rfl onT
   refine stP hf rfl rfl rfl (pM rfl) fun a hf => cNil ?_
   refine xThenN ?_
   intro ds u hau
   refine ⟨θ,he.put0 hi hau hf rfl 8 rfl rfl,?_⟩
   exact hc
  ·intro E θ a w hD hi hp he hc
   have e3 := hp.of (k := 3) rfl
   have e4 := hp.of (k := 4) rfl
   have hf := he.h0
   replace hf := hf.more he 7 rfl (onP e3)
   replace hf := hf.more he 8 rfl (onP e4)
   refine stP hf rfl rfl rfl (pQuo rfl rfl (nz_spec hun_1)) fun a hf => cNil ?_
   refine xThenN ?_
   intro ds u hau
   refine ⟨θ,he.put0 hi hau hf rfl 9 rfl rfl,?_⟩
   exact hc
  ·intro E θ a w hD hi hp he hc
   have e2 := hp.of (k := 2) rfl
   have e5 := hp.of (k := 5) rfl
   have hf := he.h0
   replace hf := hf.more he 6 rfl (onP e2)
   replace hf := hf.more he 9 rfl (onP e5)
   refine stP hf rfl rfl rfl (pBuildS (cells := [.int .i64 (W (n.tdiv a_1)),.int .i64 (W (d.tdiv a_1))]) bt_37 rfl rfl) fun a hf => cNil ?_
   refine xThenN ?_
   intro ds u hau
   refine ⟨θ,he.put0 hi hau hf rfl 10 rfl rfl,?_⟩
   exact hc
  ·intro E θ a w hD hi hp he hc
   have e6 := hp.of (k := 6) rfl
   try dsimp only at hc
   rw [hi] at hc
   have hf := he.h0
   replace hf := hf.more he 2 rfl onT
   replace hf := hf.more he 10 rfl (onP e6)
   refine stSt (vs := [.int .i64 (W (n.tdiv a_1)),.int .i64 (W (d.tdiv a_1))]) hf hc rfl rfl rfl rfl sz_37 rfl rfl u0 fun w hc => cNil ?_
   refine xThenN ?_
   intro ds u hau
   refine ⟨θ,he.stay0 hi hau hf rfl,?_⟩
   try dsimp only
   rw [updE_self E 7]
   exact hc
  ·intro E θ a w hall he hc
   have hf := he.h0
   have e7 := hall 7 rfl
   replace hf := hf.more he 2 rfl (onT)
   try dsimp only at hc
   rw [e7] at hc
   exact ⟨hf.keep ⟨rfl,trivial⟩,hc⟩
  rintro a w ⟨hf,hc⟩
  refine h5 _ _ ?_
  refine wp_ret ?_
  obtain rfl := Option.some.inj hF
  exact fnOut1 (by simp) rfl Try.results72 hf hc (rv_cellN (vs := [.int .i64 (W (n.tdiv a_1)),.int .i64 (W (d.tdiv a_1))]) ag_37 rfl rfl (cells_box (n := 2) m0 rfl)) ⟨rfl,(hc.drop k0)⟩
 have ho4 : ∀ r,x4 = .out r → r = res := by
  rintro r rfl
  exact Option.some.inj hF
 refine cLoop N (loopW (S := S4) (x := x4) ?_ N (n,d) _ _ ⟨hf.keep ⟨rfl,rfl,rfl,rfl,rfl,trivial⟩,hc⟩ hx4)
 clear hF hf hc
 rintro ⟨a_1,b_2⟩ st4 a w KB4 ⟨hf,hc⟩ hF hfin4 hK4
 unfold ref05_lowest_b4 at hF
 refine wp_seq_k fun K6 h6 => wp_seq_k fun K7 h7 => cReg ?_
 refine stP hf rfl rfl rfl (pM rfl) fun a hf => stP hf rfl rfl rfl (pGt rfl rfl) fun a hf => cNil ?_
 refine h7 _ _ ?_
 refine cCond (b := (decide (0 < b_2))) hf rfl (fun hb => ?_) (fun hb => ?_)
 ·replace hF := condT hb hF
  clear hb
  refine wp_skip ?_
  refine h6 _ _ ?_
  refine wp_thenK fun K8 h8 => wp_block ?_
  obtain ⟨un_2,hun_2,hF⟩ := bnd_some hF
  refine cQ hc follows_mx (by kernel_rfl) ?_
  refine qE hf rfl rfl rfl (Pu.ev (pM rfl)) fun a hf => qE hf rfl rfl rfl (Pu.ev (pM rfl)) fun a hf => qE hf rfl rfl rfl (Pu.ev (pM rfl)) fun a hf => qE hf rfl rfl rfl (Pu.ev (pRem rfl rfl (nz_spec hun_2))) fun a hf => qE hf rfl rfl rfl (Pu.ev (pA rfl)) fun a hf => qE hf rfl rfl rfl (Pu.ev (pA rfl)) fun a hf => ?_
  intro w hc
  refine h8 _ _ ?_
  exact hK4 (b_2,a_1.tmod b_2) _ _ (Option.some.inj hF).symm ⟨hf.keep ⟨rfl,rfl,rfl,rfl,rfl,trivial⟩,hc⟩
 ·replace hF := condF hb hF
  clear hb
  refine wp_exit ?_
  refine xThen ?_
  refine xThen ?_
  have he := Option.some.inj hF
  rw [← he] at hfin4
  refine cHit ?_
  exact hr4 _ _ _ hfin4 ⟨hf.keep ⟨rfl,rfl,rfl,rfl,rfl,trivial⟩,hc⟩

def ref05_flow_j8 (N : Nat) (i_1 : Int) : Option (Step (Int) (api_Ratio)) :=
 some (.cont (W (i_1 + 1)))
def ref05_flow_b4 (N : Nat) (l : List ref05_Mark) (stage : Int) (i_1 : Int) : Option (Step (Int) (api_Ratio)) :=
 cond (decide (i_1 < ((l.length : Nat) : Int)))
 (Option.bind (getI l i_1) fun e_2 =>
 cond (decide (e_2.Stage < stage))
 (ref05_flow_j8 N i_1)
 (Option.bind (cond (i_1 == 0) (some true) (Option.bind (getI l i_1) fun e_3 =>
 some (e_3.Stage == stage))) fun t_1 =>
 cond t_1
 (Option.bind (getI l i_1) fun e_4 =>
 some (.ret (⟨e_4.Flow,1⟩ : api_Ratio)))
 (Option.bind (getI l (W (i_1 - 1))) fun e_5 =>
 Option.bind (getI l i_1) fun e_6 =>
 Option.bind (ref05_lowest N (W ((W (e_5.Flow * (W (e_6.Stage - stage)))) + (W (e_6.Flow * (W (stage - e_5.Stage)))))) (W (e_6.Stage - e_5.Stage))) fun r =>
 some (.ret r))))
 (some (.brk i_1))
def ref05_flow (N : Nat) (l : List ref05_Mark) (stage : Int) : Option (api_Ratio) :=
 Option.bind (loopO (fun s4 => ref05_flow_b4 N l stage s4) N 0) fun x4 =>
 exK x4 (fun s4 => Option.bind (getI l (W (((l.length : Nat) : Int) - 1))) fun e_1 =>
 some (⟨e_1.Flow,1⟩ : api_Ratio)) some
theorem ref05_flow_ok {N : Nat} {G : Pers} {Lf : List Ent} {w : World} (l : List ref05_Mark) (stage : Int) {l_p : Option Addr} {l_c : Nat} (h_l : Rd G 2 l_p l_c (l.map enc_ref05_Mark)) (hc : Ctx G (Lf) w) {res : api_Ratio} (hF : ref05_flow N l stage = some res) : Calls Try.prog 70 #[.slice l_p l.length l_c,.int .i64 stage] w (fun e w => e = .returned (.agg #[.int .i64 res.N,.int .i64 res.D]) ∧ Ctx G (Lf) w) := by
 unfold ref05_flow at hF
 refine fnIn (args := [.slice l_p l.length l_c,.int .i64 stage]) Try.func70 rfl Try.ntmps70 rfl fun a hf => wp_seq_k fun K1 h1 => cReg ?_
 refine stAl (cs := [.int .i64 0,.int .i64 0]) hf hc rfl rfl zr_37 rfl fun b_1 a w hf hc => cNil ?_
 refine h1 _ _ ?_
 refine wp_seq_k fun K2 h2 => wp_seq_k fun K3 h3 => cReg ?_
 refine stP hf rfl rfl rfl (pA rfl) fun a hf => cNil ?_
 refine h3 _ _ ?_
 refine wp_block ?_
 obtain ⟨x4,hx4,hF⟩ := bnd_some hF
 let S4 : Int → Act → World → Prop := (fun (zz : Int) a w => Has 76 a [(0,.slice l_p l.length l_c),(1,.int .i64 stage),(4,.pointer (some ⟨b_1,0,none⟩)),(5,.int .i64 zz)] ∧ Ctx G (.box b_1 [.int .i64 0,.int .i64 0] 37::Lf) w)
 have hr4 : ∀ (zz : Int) a w,x4 = .go zz → S4 zz a w → K2 a w := by
  rintro i_1 a w rfl ⟨hf,hc⟩
  replace hF := exK_go hF
  refine h2 _ _ ?_
  refine wp_seq_k fun K5 h5 => cReg ?_
  refine stP hf rfl rfl rfl (pM rfl) fun a hf => stP hf rfl rfl rfl (pM rfl) fun a hf => stP hf rfl rfl rfl (pLenS Try.underlying31 rfl) fun a hf => stP hf rfl rfl rfl (pSub rfl rfl) fun a hf => ?_
  obtain ⟨e_1,he_1,hF⟩ := bnd_some hF
  obtain ⟨b_2,o,qa,qp⟩ := h_l.atm he_1
  refine stP hf rfl rfl rfl (pIA Try.underlying31 sz_134 rfl rfl qa) fun a hf => stP hf rfl rfl rfl (pFA fa_134_1 rfl) fun a hf => stE hf hc rfl rfl rfl (eLd1 sc_3 rfl (cell_pc (j := 1) qp rfl)) fun a w hf hc => stP hf rfl rfl rfl (pBuildS (cells := [.int .i64 e_1.Flow,.int .i64 1]) bt_37 rfl rfl) fun a hf => stSt (vs := [.int .i64 e_1.Flow,.int .i64 1]) hf hc rfl rfl rfl rfl sz_37 rfl rfl u0 fun w hc => cNil ?_
  refine h5 _ _ ?_
  refine wp_ret ?_
  obtain rfl := Option.some.inj hF
  exact fnOut1 (by simp) rfl Try.results70 hf hc (rv_cellN (vs := [.int .i64 e_1.Flow,.int .i64 1]) ag_37 rfl rfl (cells_box (n := 2) m0 rfl)) ⟨rfl,(hc.drop k0)⟩
 have ho4 : ∀ r,x4 = .out r → r = res := by
  rintro r rfl
  exact Option.some.inj hF
 refine cLoop N (loopW (S := S4) (x := x4) ?_ N 0 _ _ ⟨hf.keep ⟨rfl,rfl,rfl,rfl,trivial⟩,hc⟩ hx4)
 clear hF hf hc
 rintro i_1 st4 a w KB4 ⟨hf,hc⟩ hF hfin4 hK4
 unfold ref05_flow_b4 at hF
 refine wp_seq_k fun K6 h6 => wp_seq_k fun K7 h7 => cReg ?_
 refine stP hf rfl rfl rfl (pM rfl) fun a hf => stP hf rfl rfl rfl (pM rfl) fun a hf => stP hf rfl rfl rfl (pLenS Try.underlying31 rfl) fun a hf => stP hf rfl rfl rfl (pLt rfl rfl) fun a hf => cNil ?_
 refine h7 _ _ ?_
 refine cCond (b := (decide (i_1 < ((l.length : Nat) : Int)))) hf rfl (fun hb => ?_) (fun hb => ?_)
 ·replace hF := condT hb hF
  clear hb
  refine wp_skip ?_
  refine h6 _ _ ?_
  refine wp_seq_k fun K8 h8 => ?_
  have hj8 : ∀ a w,Has 76 a [(0,.slice l_p l.length l_c),(1,.int .i64 stage),(4,.pointer (some ⟨b_1,0,none⟩)),(5,.int .i64 i_1)] → Ctx G (.box b_1 [.int .i64 0,.int .i64 0] 37::Lf) w → ref05_flow_j8 N i_1 = some st4 → K8 a w := by
   repeat (clear hF)
   repeat (clear hc)
   repeat (clear hf)
   intro a w hf hc hF
   unfold ref05_flow_j8 at hF
   refine h8 _ _ ?_
   refine cReg ?_
   refine stP hf rfl rfl rfl (pM rfl) fun a hf => stP hf rfl rfl rfl (pAdd rfl rfl) fun a hf => stP hf rfl rfl rfl (pA rfl) fun a hf => cNil ?_
   exact hK4 (W (i_1 + 1)) _ _ (Option.some.inj hF).symm ⟨hf.keep ⟨rfl,rfl,rfl,rfl,trivial⟩,hc⟩
  refine wp_block ?_
  refine wp_seq_k fun K9 h9 => wp_seq_k fun K10 h10 => cReg ?_
  refine stP hf rfl rfl rfl (pM rfl) fun a hf => stP hf rfl rfl rfl (pM rfl) fun a hf => ?_
  obtain ⟨e_2,he_2,hF⟩ := bnd_some hF
  obtain ⟨b_3,o_1,qa_1,qp_1⟩ := h_l.atm he_2
  refine stP hf rfl rfl rfl (pIA Try.underlying31 sz_134 rfl rfl qa_1) fun a hf => stP hf rfl rfl rfl (pFA fa_134_0 rfl) fun a hf => stE hf hc rfl rfl rfl (eLd1 sc_3 rfl (cell_pc (j := 0) qp_1 rfl)) fun a w hf hc => stP hf rfl rfl rfl (pM rfl) fun a hf => stP hf rfl rfl rfl (pLt rfl rfl) fun a hf => cNil ?_
  refine h10 _ _ ?_
  refine cCond (b := (decide (e_2.Stage < stage))) hf rfl (fun hb => ?_) (fun hb => ?_)
  ·replace hF := condT hb hF
   clear hb
   refine wp_exit ?_
   refine xThen ?_
   refine cHit ?_
   exact hj8  _ _  (hf.keep ⟨rfl,rfl,rfl,rfl,trivial⟩) hc hF
  ·replace hF := condF hb hF
   clear hb
   refine wp_skip ?_
   refine h9 _ _ ?_
   refine wp_seq_k fun K11 h11 => wp_seq_k fun K12 h12 => cReg ?_
   refine stP hf rfl rfl rfl (pM rfl) fun a hf => stP hf rfl rfl rfl (pEq rfl rfl) fun a hf => stP hf rfl rfl rfl (pM rfl) fun a hf => ?_
   obtain ⟨t_1,ht_1,hF⟩ := bnd_some hF
   refine stCut 8 (fun a w => Has 76 a [(0,.slice l_p l.length l_c),(1,.int .i64 stage),(4,.pointer (some ⟨b_1,0,none⟩)),(5,.int .i64 i_1),(21,.int .i64 i_1),(22,.bool (i_1 == 0)),(23,.bool (i_1 == 0)),(31,.bool t_1)] ∧ Ctx G (.box b_1 [.int .i64 0,.int .i64 0] 37::Lf) w) ?_ ?_
   ·cases hb : (i_1 == 0)
    ·rw [hb] at hf
     have hF := condF hb ht_1
     refine stP hf rfl rfl rfl (pM rfl) fun a hf => stP hf rfl rfl rfl (pM rfl) fun a hf => ?_
     obtain ⟨e_3,he_3,hF⟩ := bnd_some hF
     obtain ⟨b_4,o_2,qa_2,qp_2⟩ := h_l.atm he_3
     refine stP hf rfl rfl rfl (pIA Try.underlying31 sz_134 rfl rfl qa_2) fun a hf => stP hf rfl rfl rfl (pFA fa_134_0 rfl) fun a hf => stE hf hc rfl rfl rfl (eLd1 sc_3 rfl (cell_pc (j := 0) qp_2 rfl)) fun a w hf hc => stP hf rfl rfl rfl (pM rfl) fun a hf => stP hf rfl rfl rfl (pEq rfl rfl) fun a hf => stP hf rfl rfl rfl (pPf rfl rfl) fun a hf => ?_
     obtain rfl := Option.some.inj hF
     exact cNil ⟨hf.keep ⟨rfl,rfl,rfl,rfl,rfl,rfl,rfl,rfl,trivial⟩,hc⟩
    ·rw [hb] at hf
     have hF := condT hb ht_1
     obtain rfl := Option.some.inj hF
     refine stS hf rfl rfl rfl fun a hf => stS hf rfl rfl rfl fun a hf => stS hf rfl rfl rfl fun a hf => stS hf rfl rfl rfl fun a hf => stS hf rfl rfl rfl fun a hf => stS hf rfl rfl rfl fun a hf => stS hf rfl rfl rfl fun a hf => stP hf rfl rfl rfl (pPt rfl rfl) fun a hf => cNil ⟨hf.keep ⟨rfl,rfl,rfl,rfl,rfl,rfl,rfl,rfl,trivial⟩,hc⟩
   intro a w ⟨hf,hc⟩
   refine cNil ?_
   refine h12 _ _ ?_
   refine cCond (b := t_1) hf rfl (fun hb => ?_) (fun hb => ?_)
   ·replace hF := condT hb hF
    clear hb
    refine wp_seq_k fun K13 h13 => cReg ?_
    refine stP hf rfl rfl rfl (pM rfl) fun a hf => stP hf rfl rfl rfl (pM rfl) fun a hf => ?_
    obtain ⟨e_4,he_4,hF⟩ := bnd_some hF
    obtain ⟨b_5,o_3,qa_3,qp_3⟩ := h_l.atm he_4
    refine stP hf rfl rfl rfl (pIA Try.underlying31 sz_134 rfl rfl qa_3) fun a hf => stP hf rfl rfl rfl (pFA fa_134_1 rfl) fun a hf => stE hf hc rfl rfl rfl (eLd1 sc_3 rfl (cell_pc (j := 1) qp_3 rfl)) fun a w hf hc => stP hf rfl rfl rfl (pBuildS (cells := [.int .i64 e_4.Flow,.int .i64 1]) bt_37 rfl rfl) fun a hf => stSt (vs := [.int .i64 e_4.Flow,.int .i64 1]) hf hc rfl rfl rfl rfl sz_37 rfl rfl u0 fun w hc => cNil ?_
    refine h13 _ _ ?_
    refine wp_ret ?_
    refine xThenR ?_
    refine xBlkR ?_
    refine xThenR ?_
    refine xThenR ?_
    have he := Option.some.inj hF
    rw [← he] at hfin4
    replace hF := ho4 _ hfin4
    refine xBlkR ?_
    refine xThenR ?_
    obtain rfl := hF
    exact fnOut1 (by simp) rfl Try.results70 hf hc (rv_cellN (vs := [.int .i64 e_4.Flow,.int .i64 1]) ag_37 rfl rfl (cells_box (n := 2) m0 rfl)) ⟨rfl,(hc.drop k0)⟩
   ·replace hF := condF hb hF
    clear hb
    refine wp_skip ?_
    refine h11 _ _ ?_
    refine wp_seq_k fun K14 h14 => ?_
    obtain ⟨e_5,he_5,hF⟩ := bnd_some hF
    obtain ⟨b_6,o_4,qa_4,qp_4⟩ := h_l.atm he_5
    obtain ⟨e_6,he_6,hF⟩ := bnd_some hF
    obtain ⟨b_7,o_5,qa_5,qp_5⟩ := h_l.atm he_6
    replace hc := hc.nilRow 0 0
    replace hc := hc.nilRow 0 0
    refine regionE (fun θ => [⟨none,none,0,.slice l_p l.length l_c⟩,⟨none,none,1,.int .i64 stage⟩,⟨none,none,4,.pointer (some ⟨b_1,0,none⟩)⟩,⟨none,none,5,.int .i64 i_1⟩,⟨some 0,none,38,.slice l_p l.length l_c⟩,⟨some 1,none,39,.int .i64 i_1⟩,⟨some 2,none,40,.int .i64 (W (i_1 - 1))⟩,⟨some 3,none,41,.pointer (some ⟨b_6,o_4,none⟩)⟩,⟨some 4,none,42,.agg #[.int .i64 e_5.Stage,.int .i64 e_5.Flow]⟩,⟨some 5,none,43,.slice l_p l.length l_c⟩,⟨some 6,none,44,.int .i64 i_1⟩,⟨some 7,none,45,.pointer (some ⟨b_7,o_5,none⟩)⟩,⟨some 8,none,46,.agg #[.int .i64 e_6.Stage,.int .i64 e_6.Flow]⟩,⟨some 9,none,6,.pointer (some ⟨(θ 72).b,0,none⟩)⟩,⟨some 10,none,7,.pointer (some ⟨(θ 80).b,0,none⟩)⟩]) (fun E θ => (bif E 12 then .box (θ 80).b [.int .i64 e_6.Stage,.int .i64 e_6.Flow] 134 else bif E 10 then .box (θ 80).b [.int .i64 0,.int .i64 0] 134 else .row none 0 [] 0 0)::(bif E 11 then .box (θ 72).b [.int .i64 e_5.Stage,.int .i64 e_5.Flow] 134 else bif E 9 then .box (θ 72).b [.int .i64 0,.int .i64 0] 134 else .row none 0 [] 0 0)::.box b_1 [.int .i64 0,.int .i64 0] 37::Lf) [(11,9),(12,10)] (fun a w => ∃ (b_10 : Nat) (b_11 : Nat),Has 76 a [(1,.int .i64 stage),(4,.pointer (some ⟨b_1,0,none⟩)),(6,.pointer (some ⟨b_10,0,none⟩)),(7,.pointer (some ⟨b_11,0,none⟩))] ∧ Ctx G (.box b_11 [.int .i64 e_6.Stage,.int .i64 e_6.Flow] 134::.box b_10 [.int .i64 e_5.Stage,.int .i64 e_5.Flow] 134::.box b_1 [.int .i64 0,.int .i64 0] 37::Lf) w) follows_mx (by kernel_rfl) (by kernel_rfl) (HasE.of hf ⟨rfl,rfl,rfl,rfl,trivial,trivial,trivial,trivial,trivial,trivial,trivial,trivial,trivial,trivial,trivial,trivial⟩) hc ⟨?_,?_,?_,?_,?_,?_,?_,?_,?_,?_,?_,?_,?_,trivial⟩ ?_ ?_
    ·intro E θ a w hD hi hp he hc
     have hf := he.h0
     replace hf := hf.more he 0 rfl onT
     refine stP hf rfl rfl rfl (pM rfl) fun a hf => cNil ?_
     refine xThenN ?_
     intro ds u hau
     refine ⟨θ,he.put0 hi hau hf rfl 4 rfl rfl,?_⟩
     exact hc
    ·intro E θ a w hD hi hp he hc
     have hf := he.h0
     replace hf := hf.more he 3 rfl onT
     refine stP hf rfl rfl rfl (pM rfl) fun a hf => cNil ?_
     refine xThenN ?_
     intro ds u hau
     refine ⟨θ,he.put0 hi hau hf rfl 5 rfl rfl,?_⟩
     exact hc
    ·intro E θ a w hD hi hp he hc
     have e1 := hp.of (k := 1) rfl
     have hf := he.h0
     replace hf := hf.more he 5 rfl (onP e1)
     refine stP hf rfl rfl rfl (pSub rfl rfl) fun a hf => cNil ?_
     refine xThenN ?_
     intro ds u hau
     refine ⟨θ,he.put0 hi hau hf rfl 6 rfl rfl,?_⟩
     exact hc
    ·intro E θ a w hD hi hp he hc
     have e0 := hp.of (k := 0) rfl
     have e2 := hp.of (k := 2) rfl
     have hf := he.h0
     replace hf := hf.more he 4 rfl (onP e0)
     replace hf := hf.more he 6 rfl (onP e2)
     refine stP hf rfl rfl rfl (pIA Try.underlying31 sz_134 rfl rfl qa_4) fun a hf => cNil ?_
     refine xThenN ?_
     intro ds u hau
     refine ⟨θ,he.put0 hi hau hf rfl 7 rfl rfl,?_⟩
     exact hc
    ·intro E θ a w hD hi hp he hc
     have e3 := hp.of (k := 3) rfl
     have hf := he.h0
     replace hf := hf.more he 7 rfl (onP e3)
     refine stE hf hc rfl rfl rfl (eLdN (vs := [.int .i64 e_5.Stage,.int .i64 e_5.Flow]) ag_134 rfl rfl (cells_pc qp_4 (n := 2) (o' := 0) rfl)) fun a w hf hc => cNil ?_
     refine xThenN ?_
     intro ds u hau
     refine ⟨θ,he.put0 hi hau hf rfl 8 rfl rfl,?_⟩
     exact hc
    ·intro E θ a w hD hi hp he hc
     have hf := he.h0
     replace hf := hf.more he 0 rfl onT
     refine stP hf rfl rfl rfl (pM rfl) fun a hf => cNil ?_
     refine xThenN ?_
     intro ds u hau
     refine ⟨θ,he.put0 hi hau hf rfl 9 rfl rfl,?_⟩
     exact hc
    ·intro E θ a w hD hi hp he hc
     have hf := he.h0
     replace hf := hf.more he 3 rfl onT
     refine stP hf rfl rfl rfl (pM rfl) fun a hf => cNil ?_
     refine xThenN ?_
     intro ds u hau
     refine ⟨θ,he.put0 hi hau hf rfl 10 rfl rfl,?_⟩
     exact hc
    ·intro E θ a w hD hi hp he hc
     have e5 := hp.of (k := 5) rfl
     have e6 := hp.of (k := 6) rfl
     have hf := he.h0
     replace hf := hf.more he 9 rfl (onP e5)
     replace hf := hf.more he 10 rfl (onP e6)
     refine stP hf rfl rfl rfl (pIA Try.underlying31 sz_134 rfl rfl qa_5) fun a hf => cNil ?_
     refine xThenN ?_
     intro ds u hau
     refine ⟨θ,he.put0 hi hau hf rfl 11 rfl rfl,?_⟩
     exact hc
    ·intro E θ a w hD hi hp he hc
     have e7 := hp.of (k := 7) rfl
     have hf := he.h0
     replace hf := hf.more he 11 rfl (onP e7)
     refine stE hf hc rfl rfl rfl (eLdN (vs := [.int .i64 e_6.Stage,.int .i64 e_6.Flow]) ag_134 rfl rfl (cells_pc qp_5 (n := 2) (o' := 0) rfl)) fun a w hf hc => cNil ?_
     refine xThenN ?_
     intro ds u hau
     refine ⟨θ,he.put0 hi hau hf rfl 12 rfl rfl,?_⟩
     exact hc
    ·intro E θ a w hD hi hp he hc
     have e11 := hD.f 0 rfl hi
     try dsimp only at hc
     rw [hi,e11] at hc
     have hf := he.h0
     refine stAl (cs := [.int .i64 0,.int .i64 0]) hf hc rfl rfl zr_134 rfl fun b_8 a w hf hc => cNil ?_
     refine xThenN ?_
     intro ds u hau
     replace hc := hc.drop k2
     replace hc := hc.pick k0
     replace hc := hc.pick k1
     refine ⟨(setT θ 72 ⟨b_8,none,0⟩),he.put hi hau hf rfl [] trivial ⟨qq,qq,qq,qq,qq,qq,qq,qq,qq,qq,qq,qq,qq,qq,qq,trivial⟩,?_⟩
     try dsimp only
     rw [updE_self E 9,updE_fls 9 e11 rfl]
     exact hc
    ·intro E θ a w hD hi hp he hc
     have e12 := hD.f 1 rfl hi
     try dsimp only at hc
     rw [hi,e12] at hc
     have hf := he.h0
     refine stAl (cs := [.int .i64 0,.int .i64 0]) hf hc rfl rfl zr_134 rfl fun b_9 a w hf hc => cNil ?_
     refine xThenN ?_
     intro ds u hau
     replace hc := hc.drop k1
     refine ⟨(setT θ 80 ⟨b_9,none,0⟩),he.put hi hau hf rfl [] trivial ⟨qq,qq,qq,qq,qq,qq,qq,qq,qq,qq,qq,qq,qq,qq,qq,trivial⟩,?_⟩
     try dsimp only
     rw [updE_self E 10,updE_fls 10 e12 rfl]
     exact hc
    ·intro E θ a w hD hi hp he hc
     have e4 := hp.of (k := 4) rfl
     have e9 := hp.of (k := 9) rfl
     try dsimp only at hc
     rw [e9,hi] at hc
     have hf := he.h0
     replace hf := hf.more he 8 rfl (onP e4)
     replace hf := hf.more he 13 rfl (onP e9)
     refine stSt (vs := [.int .i64 e_5.Stage,.int .i64 e_5.Flow]) hf hc rfl rfl rfl rfl sz_134 rfl rfl u1 fun w hc => cNil ?_
     refine xThenN ?_
     intro ds u hau
     refine ⟨θ,he.stay0 hi hau hf rfl,?_⟩
     try dsimp only
     rw [updE_tru 11 e9,updE_self E 11]
     exact hc
    ·intro E θ a w hD hi hp he hc
     have e8 := hp.of (k := 8) rfl
     have e10 := hp.of (k := 10) rfl
     try dsimp only at hc
     rw [e10,hi] at hc
     have hf := he.h0
     replace hf := hf.more he 12 rfl (onP e8)
     replace hf := hf.more he 14 rfl (onP e10)
     refine stSt (vs := [.int .i64 e_6.Stage,.int .i64 e_6.Flow]) hf hc rfl rfl rfl rfl sz_134 rfl rfl u0 fun w hc => cNil ?_
     refine xThenN ?_
     intro ds u hau
     refine ⟨θ,he.stay0 hi hau hf rfl,?_⟩
     try dsimp only
     rw [updE_tru 12 e10,updE_self E 12]
     exact hc
    ·intro E θ a w hall he hc
     have hf := he.h0
     have e9 := hall 9 rfl
     have e10 := hall 10 rfl
     have e11 := hall 11 rfl
     have e12 := hall 12 rfl
     replace hf := hf.more he 14 rfl (onP e10)
     replace hf := hf.more he 13 rfl (onP e9)
     replace hf := hf.more he 2 rfl (onT)
     replace hf := hf.more he 1 rfl (onT)
     try dsimp only at hc
     rw [e9,e10,e11,e12] at hc
     exact ⟨(θ 72).b,(θ 80).b,hf.keep ⟨rfl,rfl,rfl,rfl,trivial⟩,hc⟩
    rintro a w ⟨b_10,b_11,hf,hc⟩
    refine h14 _ _ ?_
    refine wp_seq_k fun K15 h15 => cReg ?_
    refine stP hf rfl rfl rfl (pFA fa_134_1 rfl) fun a hf => stE hf hc rfl rfl rfl (eLd1 sc_3 rfl (cell_box m1 rfl)) fun a w hf hc => stP hf rfl rfl rfl (pFA fa_134_0 rfl) fun a hf => stE hf hc rfl rfl rfl (eLd1 sc_3 rfl (cell_box m0 rfl)) fun a w hf hc => stP hf rfl rfl rfl (pM rfl) fun a hf => stP hf rfl rfl rfl (pSub rfl rfl) fun a hf => stP hf rfl rfl rfl (pMul rfl rfl) fun a hf => stP hf rfl rfl rfl (pFA fa_134_1 rfl) fun a hf => stE hf hc rfl rfl rfl (eLd1 sc_3 rfl (cell_box m0 rfl)) fun a w hf hc => stP hf rfl rfl rfl (pM rfl) fun a hf => stP hf rfl rfl rfl (pFA fa_134_0 rfl) fun a hf => stE hf hc rfl rfl rfl (eLd1 sc_3 rfl (cell_box m1 rfl)) fun a w hf hc => stP hf rfl rfl rfl (pSub rfl rfl) fun a hf => ?_
    refine stP hf rfl rfl rfl (pMul rfl rfl) fun a hf => stP hf rfl rfl rfl (pAdd rfl rfl) fun a hf => stP hf rfl rfl rfl (pFA fa_134_0 rfl) fun a hf => stE hf hc rfl rfl rfl (eLd1 sc_3 rfl (cell_box m0 rfl)) fun a w hf hc => stP hf rfl rfl rfl (pFA fa_134_0 rfl) fun a hf => stE hf hc rfl rfl rfl (eLd1 sc_3 rfl (cell_box m1 rfl)) fun a w hf hc => stP hf rfl rfl rfl (pSub rfl rfl) fun a hf => ?_
    obtain ⟨r,hr,hF⟩ := bnd_some hF
    refine stE hf hc rfl rfl rfl (eC (v := .agg #[.int .i64 r.N,.int .i64 r.D]) (vs := [.int .i64 (W ((W (e_5.Flow * (W (e_6.Stage - stage)))) + (W (e_6.Flow * (W (stage - e_5.Stage)))))),.int .i64 (W (e_6.Stage - e_5.Stage))]) (caps := []) en_72 rfl rfl rfl rfl (fun w hc => ref05_lowest_ok (W ((W (e_5.Flow * (W (e_6.Stage - stage)))) + (W (e_6.Flow * (W (stage - e_5.Stage)))))) (W (e_6.Stage - e_5.Stage)) hc hr)) fun a w hf hc => stSt (vs := [.int .i64 r.N,.int .i64 r.D]) hf hc rfl rfl rfl rfl sz_37 rfl rfl u2 fun w hc => cNil ?_
    refine h15 _ _ ?_
    refine wp_ret ?_
    refine xBlkR ?_
    refine xThenR ?_
    refine xThenR ?_
    have he := Option.some.inj hF
    rw [← he] at hfin4
    replace hF := ho4 _ hfin4
    refine xBlkR ?_
    refine xThenR ?_
    obtain rfl := hF
    replace hc := hc.drop k1
    replace hc := hc.drop k0
    exact fnOut1 (by simp) rfl Try.results70 hf hc (rv_cellN (vs := [.int .i64 r.N,.int .i64 r.D]) ag_37 rfl rfl (cells_box (n := 2) m0 rfl)) ⟨rfl,(hc.drop k0)⟩
 ·replace hF := condF hb hF
  clear hb
  refine wp_exit ?_
  refine xThen ?_
  refine xThen ?_
  have he := Option.some.inj hF
  rw [← he] at hfin4
  refine cHit ?_
  exact hr4 _ _ _ hfin4 ⟨hf.keep ⟨rfl,rfl,rfl,rfl,trivial⟩,hc⟩

def ref05_Passes_j24 (N : Nat) (shift : Int) (l_1 : List Int) : Option (Step ((List Int) × Int) (Step ((List api_Span) × Int) ((List api_Span) × Int))) :=
 some (.cont (l_1,W (shift + 1)))
def ref05_Passes_b18 (N : Nat) (r : ref05_Record) (e_1 : ref05_Gauging) (l : List Int) (shift : Int) : Option (Step ((List Int) × Int) (Step ((List api_Span) × Int) ((List api_Span) × Int))) :=
 cond (decide (shift ≤ 300))
 (Option.bind (ref05_flow N r.Rating (W (e_1.Stage - shift))) fun r_1 =>
 cond ((decide ((W (e_1.Flow.Lo * r_1.D)) ≤ r_1.N)) && (decide (r_1.N ≤ (W (e_1.Flow.Hi * r_1.D)))))
 (Option.bind (room ((l ++ [shift])).length) fun un_1 =>
 ref05_Passes_j24 N shift (l ++ [shift]))
 (ref05_Passes_j24 N shift l))
 (some (.brk (l,shift)))
def ref05_Passes_b9 (N : Nat) (r : ref05_Record) (out : List api_Span) (i_1 : Int) : Option (Step ((List api_Span) × Int) ((List api_Span) × Int)) :=
 cond (decide (i_1 < ((r.Gaugings.length : Nat) : Int)))
 (Option.bind (getI r.Gaugings i_1) fun e_1 =>
 Option.bind (loopO (fun s18 => ref05_Passes_b18 N r e_1 s18.1 s18.2) N (([] : List Int),(-300))) fun x18 =>
 exK x18 (fun s18 => cond (((s18.1.length : Nat) : Int) == 0)
 (some (.ret (([] : List api_Span),6)))
 (Option.bind (getI s18.1 0) fun e_2 =>
 Option.bind (getI s18.1 (W (((s18.1.length : Nat) : Int) - 1))) fun e_3 =>
 Option.bind (room ((out ++ [(⟨e_2,e_3⟩ : api_Span)])).length) fun un =>
 some (.cont ((out ++ [(⟨e_2,e_3⟩ : api_Span)]),W (i_1 + 1))))) some)
 (some (.brk (out,i_1)))
def ref05_Passes (N : Nat) (r : ref05_Record) : Option ((List api_Span) × Int) :=
 Option.bind (ref05_Check N r) fun r_0 =>
 cond (r_0 != 0)
 (some (([] : List api_Span),r_0))
 (Option.bind (loopO (fun s9 => ref05_Passes_b9 N r s9.1 s9.2) N (([] : List api_Span),0)) fun x9 =>
 exK x9 (fun s9 => some (s9.1,0)) some)
theorem ref05_Passes_ok {N : Nat} {G : Pers} {Lf : List Ent} {w : World} (r : ref05_Record) {r_Rating_p : Option Addr} {r_Rating_c : Nat} {r_Gaugings_p : Option Addr} {r_Gaugings_c : Nat} (h_r_Rating : Rd G 2 r_Rating_p r_Rating_c (r.Rating.map enc_ref05_Mark)) (h_r_Gaugings : Rd G 4 r_Gaugings_p r_Gaugings_c (r.Gaugings.map enc_ref05_Gauging)) (hc : Ctx G (Lf) w) {res : (List api_Span) × Int} (hF : ref05_Passes N r = some res) : Calls Try.prog 23 #[.agg #[.slice r_Rating_p r.Rating.length r_Rating_c,.slice r_Gaugings_p r.Gaugings.length r_Gaugings_c]] w (fun e w => ∃ (p'1 : Option Addr) (c'1 : Nat),e = .returned (.tuple #[.slice p'1 res.1.length c'1,.int .i64 res.2]) ∧ Ctx G (.row p'1 c'1 (res.1.map enc_api_Span) 50 2::Lf) w) := by
 unfold ref05_Passes at hF
 refine fnIn (args := [.agg #[.slice r_Rating_p r.Rating.length r_Rating_c,.slice r_Gaugings_p r.Gaugings.length r_Gaugings_c]]) Try.func23 rfl Try.ntmps23 rfl fun a hf => wp_seq_k fun K1 h1 => cReg ?_
 refine stBx (cs := [.slice r_Rating_p r.Rating.length r_Rating_c,.slice r_Gaugings_p r.Gaugings.length r_Gaugings_c]) hf hc rfl rfl rfl rfl fun b_1 a w hf hc => stP hf rfl rfl rfl (pA rfl) fun a hf => stP hf rfl rfl rfl (pA rfl) fun a hf => cNil ?_
 refine h1 _ _ ?_
 refine wp_seq_k fun K2 h2 => wp_seq_k fun K3 h3 => cReg ?_
 refine stE hf hc rfl rfl rfl (eLdN (vs := [.slice r_Rating_p r.Rating.length r_Rating_c,.slice r_Gaugings_p r.Gaugings.length r_Gaugings_c]) ag_34 rfl rfl (cells_box (n := 2) m0 rfl)) fun a w hf hc => ?_
 obtain ⟨r_0,hr_0,hF⟩ := bnd_some hF
 refine stE hf hc rfl rfl rfl (eC (v := .int .i64 r_0) (vs := [.agg #[.slice r_Rating_p r.Rating.length r_Rating_c,.slice r_Gaugings_p r.Gaugings.length r_Gaugings_c]]) (caps := []) en_15 rfl rfl rfl rfl (fun w hc => ref05_Check_ok r h_r_Rating h_r_Gaugings hc hr_0)) fun a w hf hc => stP hf rfl rfl rfl (pA rfl) fun a hf => cNil ?_
 refine h3 _ _ ?_
 refine wp_seq_k fun K4 h4 => cReg ?_
 refine stP hf rfl rfl rfl (pM rfl) fun a hf => stP hf rfl rfl rfl (pNe rfl rfl) fun a hf => cNil ?_
 refine h4 _ _ ?_
 refine cCond (b := (r_0 != 0)) hf rfl (fun hb => ?_) (fun hb => ?_)
 ·replace hF := condT hb hF
  clear hb
  refine wp_seq_k fun K5 h5 => cReg ?_
  refine stP hf rfl rfl rfl (pM rfl) fun a hf => stP hf rfl rfl rfl (pA rfl) fun a hf => stP hf rfl rfl rfl (pA rfl) fun a hf => cNil ?_
  refine h5 _ _ ?_
  refine wp_ret ?_
  refine xThenR ?_
  obtain rfl := Option.some.inj hF
  replace hc := hc.nilRow 50 2
  replace hc := hc.drop k1
  exact fnOut2 (by simp) rfl Try.results23 hf hc (show look _ 2 = _ from rfl) (show look _ 3 = _ from rfl) ⟨none,0,rfl,hc⟩
 ·replace hF := condF hb hF
  clear hb
  refine wp_skip ?_
  refine h2 _ _ ?_
  refine wp_seq_k fun K6 h6 => cReg ?_
  refine stP hf rfl rfl rfl (pA rfl) fun a hf => cNil ?_
  refine h6 _ _ ?_
  refine wp_seq_k fun K7 h7 => wp_seq_k fun K8 h8 => cReg ?_
  refine stP hf rfl rfl rfl (pA rfl) fun a hf => cNil ?_
  refine h8 _ _ ?_
  refine wp_block ?_
  obtain ⟨x9,hx9,hF⟩ := bnd_some hF
  let S9 : ((List api_Span) × Int) → Act → World → Prop := (fun (zz : (List api_Span) × Int) a w => ∃ (p_1 : Option Addr) (c_1 : Nat),Has 80 a [(1,.pointer (some ⟨b_1,0,none⟩)),(5,.slice p_1 zz.1.length c_1),(6,.int .i64 zz.2)] ∧ Ctx G (.row p_1 c_1 (zz.1.map enc_api_Span) 50 2::.box b_1 [.slice r_Rating_p r.Rating.length r_Rating_c,.slice r_Gaugings_p r.Gaugings.length r_Gaugings_c] 34::Lf) w)
  have hr9 : ∀ (zz : (List api_Span) × Int) a w,x9 = .go zz → S9 zz a w → K7 a w := by
   rintro ⟨out,i_1⟩ a w rfl ⟨p_1,c_1,hf,hc⟩
   replace hF := exK_go hF
   refine h7 _ _ ?_
   refine wp_seq_k fun K10 h10 => cReg ?_
   refine stP hf rfl rfl rfl (pM rfl) fun a hf => stP hf rfl rfl rfl (pA rfl) fun a hf => stP hf rfl rfl rfl (pA rfl) fun a hf => cNil ?_
   refine h10 _ _ ?_
   refine wp_ret ?_
   obtain rfl := Option.some.inj hF
   replace hc := hc.drop k1
   exact fnOut2 (by simp) rfl Try.results23 hf hc (show look _ 2 = _ from rfl) (show look _ 3 = _ from rfl) ⟨p_1,c_1,rfl,hc⟩
  have ho9 : ∀ r,x9 = .out r → r = res := by
   rintro r rfl
   exact Option.some.inj hF
  replace hc := hc.nilRow 50 2
  refine cLoop N (loopW (S := S9) (x := x9) ?_ N (([] : List api_Span),0) _ _ ⟨none,0,hf.keep ⟨rfl,rfl,rfl,trivial⟩,hc⟩ hx9)
  clear hF hf hc
  rintro ⟨out,i_1⟩ st9 a w KB9 ⟨p_1,c_1,hf,hc⟩ hF hfin9 hK9
  unfold ref05_Passes_b9 at hF
  refine wp_seq_k fun K11 h11 => wp_seq_k fun K12 h12 => cReg ?_
  refine stP hf rfl rfl rfl (pM rfl) fun a hf => stP hf rfl rfl rfl (pFA fa_34_1 rfl) fun a hf => stE hf hc rfl rfl rfl (eLd1 sc_32 rfl (cell_box m1 rfl)) fun a w hf hc => stP hf rfl rfl rfl (pLenS Try.underlying32 rfl) fun a hf => stP hf rfl rfl rfl (pLt rfl rfl) fun a hf => cNil ?_
  refine h12 _ _ ?_
  refine cCond (b := (decide (i_1 < ((r.Gaugings.length : Nat) : Int)))) hf rfl (fun hb => ?_) (fun hb => ?_)
  ·replace hF := condT hb hF
   clear hb
   refine wp_skip ?_
   refine h11 _ _ ?_
   refine wp_seq_k fun K13 h13 => wp_block ?_
   refine wp_seq_k fun K14 h14 => cReg ?_
   refine stP hf rfl rfl rfl (pFA fa_34_1 rfl) fun a hf => stE hf hc rfl rfl rfl (eLd1 sc_32 rfl (cell_box m1 rfl)) fun a w hf hc => stP hf rfl rfl rfl (pM rfl) fun a hf => ?_
   obtain ⟨e_1,he_1,hF⟩ := bnd_some hF
   obtain ⟨b_2,o,qa,qp⟩ := h_r_Gaugings.atm he_1
   refine stP hf rfl rfl rfl (pIA Try.underlying32 sz_129 rfl rfl qa) fun a hf => stE hf hc rfl rfl rfl (eLdN (vs := [.int .i64 e_1.Day,.int .i64 e_1.Stage,.int .i64 e_1.Flow.Lo,.int .i64 e_1.Flow.Hi]) ag_129 rfl rfl (cells_pc qp (n := 4) (o' := 0) rfl)) fun a w hf hc => stAl (cs := [.int .i64 0,.int .i64 0,.int .i64 0,.int .i64 0]) hf hc rfl rfl zr_129 rfl fun b_3 a w hf hc => stSt (vs := [.int .i64 e_1.Day,.int .i64 e_1.Stage,.int .i64 e_1.Flow.Lo,.int .i64 e_1.Flow.Hi]) hf hc rfl rfl rfl rfl sz_129 rfl rfl u0 fun w hc => cNil ?_
   refine h14 _ _ ?_
   refine wp_seq_k fun K15 h15 => cReg ?_
   refine stP hf rfl rfl rfl (pA rfl) fun a hf => cNil ?_
   refine h15 _ _ ?_
   refine wp_seq_k fun K16 h16 => wp_seq_k fun K17 h17 => cReg ?_
   refine stP hf rfl rfl rfl (pA rfl) fun a hf => cNil ?_
   refine h17 _ _ ?_
   refine wp_block ?_
   obtain ⟨x18,hx18,hF⟩ := bnd_some hF
   let S18 : ((List Int) × Int) → Act → World → Prop := (fun (zz : (List Int) × Int) a w => ∃ (p_2 : Option Addr) (c_2 : Nat),Has 80 a [(1,.pointer (some ⟨b_1,0,none⟩)),(5,.slice p_1 out.length c_1),(6,.int .i64 i_1),(7,.pointer (some ⟨b_3,0,none⟩)),(8,.slice p_2 zz.1.length c_2),(9,.int .i64 zz.2)] ∧ Ctx G (.row p_2 c_2 (zz.1.map encI_i64) 3 1::.box b_3 [.int .i64 e_1.Day,.int .i64 e_1.Stage,.int .i64 e_1.Flow.Lo,.int .i64 e_1.Flow.Hi] 129::.row p_1 c_1 (out.map enc_api_Span) 50 2::.box b_1 [.slice r_Rating_p r.Rating.length r_Rating_c,.slice r_Gaugings_p r.Gaugings.length r_Gaugings_c] 34::Lf) w)
   have hr18 : ∀ (zz : (List Int) × Int) a w,x18 = .go zz → S18 zz a w → K16 a w := by
    rintro ⟨l,shift⟩ a w rfl ⟨p_2,c_2,hf,hc⟩
    replace hF := exK_go hF
    refine h16 _ _ ?_
    refine wp_seq_k fun K19 h19 => wp_seq_k fun K20 h20 => cReg ?_
    refine stP hf rfl rfl rfl (pM rfl) fun a hf => stP hf rfl rfl rfl (pLenS Try.underlying61 rfl) fun a hf => stP hf rfl rfl rfl (pEq rfl rfl) fun a hf => cNil ?_
    refine h20 _ _ ?_
    refine cCond (b := (((l.length : Nat) : Int) == 0)) hf rfl (fun hb => ?_) (fun hb => ?_)
    ·replace hF := condT hb hF
     clear hb
     refine wp_seq_k fun K21 h21 => cReg ?_
     refine stP hf rfl rfl rfl (pA rfl) fun a hf => stP hf rfl rfl rfl (pA rfl) fun a hf => cNil ?_
     refine h21 _ _ ?_
     refine wp_ret ?_
     refine xThenR ?_
     refine xBlkR ?_
     refine xThenR ?_
     refine xThenR ?_
     have he := Option.some.inj hF
     rw [← he] at hfin9
     replace hF := ho9 _ hfin9
     refine xBlkR ?_
     refine xThenR ?_
     obtain rfl := hF
     replace hc := hc.nilRow 50 2
     replace hc := hc.drop k4
     replace hc := hc.drop k3
     replace hc := hc.drop k2
     replace hc := hc.drop k1
     exact fnOut2 (by simp) rfl Try.results23 hf hc (show look _ 2 = _ from rfl) (show look _ 3 = _ from rfl) ⟨none,0,rfl,hc⟩
    ·replace hF := condF hb hF
     clear hb
     refine wp_skip ?_
     refine h19 _ _ ?_
     obtain ⟨e_2,he_2,hF⟩ := bnd_some hF
     obtain ⟨g,rfl,qa_1,qr⟩ := row_atm hc m0 he_2
     obtain ⟨e_3,he_3,hF⟩ := bnd_some hF
     obtain ⟨qa_2,qr_1⟩ := row_atk hc m0 he_3
     obtain ⟨un,hun,hF⟩ := bnd_some hF
     replace hc := hc.nilRow 0 0
     refine regionE (fun θ => [⟨none,none,1,.pointer (some ⟨b_1,0,none⟩)⟩,⟨none,some 13,5,.slice p_1 out.length c_1⟩,⟨none,none,6,.int .i64 i_1⟩,⟨none,none,8,.slice (some ⟨g,0,none⟩) l.length c_2⟩,⟨some 0,none,66,.slice p_1 out.length c_1⟩,⟨some 1,none,67,.slice (some ⟨g,0,none⟩) l.length c_2⟩,⟨some 2,none,68,.pointer (some ⟨g,(0 : Int).toNat * 1,none⟩)⟩,⟨some 3,none,69,.int .i64 e_2⟩,⟨some 4,none,70,.slice (some ⟨g,0,none⟩) l.length c_2⟩,⟨some 5,none,71,.slice (some ⟨g,0,none⟩) l.length c_2⟩,⟨some 6,none,72,.int .i64 ((l.length : Nat) : Int)⟩,⟨some 7,none,73,.int .i64 (W (((l.length : Nat) : Int) - 1))⟩,⟨some 8,none,74,.pointer (some ⟨g,(W (((l.length : Nat) : Int) - 1)).toNat * 1,none⟩)⟩,⟨some 9,none,75,.int .i64 e_3⟩,⟨some 10,none,76,.agg #[.int .i64 e_2,.int .i64 e_3]⟩,⟨some 11,none,77,.slice (some ⟨(θ 88).b,0,none⟩) 1 1⟩,⟨some 12,none,78,.slice ((θ 96).p) ((out ++ [(⟨e_2,e_3⟩ : api_Span)]).length) ((θ 96).c)⟩,⟨some 13,none,5,.slice ((θ 96).p) ((out ++ [(⟨e_2,e_3⟩ : api_Span)]).length) ((θ 96).c)⟩]) (fun E θ => (bif E 11 then .row (some ⟨(θ 88).b,0,none⟩) 1 (([(⟨e_2,e_3⟩ : api_Span)] : List api_Span).map enc_api_Span) 50 2 else .row none 0 [] 0 0)::.row (some ⟨g,0,none⟩) c_2 (l.map encI_i64) 3 1::.box b_3 [.int .i64 e_1.Day,.int .i64 e_1.Stage,.int .i64 e_1.Flow.Lo,.int .i64 e_1.Flow.Hi] 129::(bif E 12 then .row ((θ 96).p) ((θ 96).c) ((out ++ [(⟨e_2,e_3⟩ : api_Span)]).map enc_api_Span) 50 2 else .row p_1 c_1 (out.map enc_api_Span) 50 2)::.box b_1 [.slice r_Rating_p r.Rating.length r_Rating_c,.slice r_Gaugings_p r.Gaugings.length r_Gaugings_c] 34::Lf) [(13,0),(13,12)] (fun a w => ∃ (p_4 : Option Addr) (c_4 : Nat) (b_5 : Nat),Has 80 a [(1,.pointer (some ⟨b_1,0,none⟩)),(6,.int .i64 i_1),(5,.slice p_4 ((out ++ [(⟨e_2,e_3⟩ : api_Span)]).length) c_4)] ∧ Ctx G (.row (some ⟨b_5,0,none⟩) 1 (([(⟨e_2,e_3⟩ : api_Span)] : List api_Span).map enc_api_Span) 50 2::.row (some ⟨g,0,none⟩) c_2 (l.map encI_i64) 3 1::.box b_3 [.int .i64 e_1.Day,.int .i64 e_1.Stage,.int .i64 e_1.Flow.Lo,.int .i64 e_1.Flow.Hi] 129::.row p_4 c_4 ((out ++ [(⟨e_2,e_3⟩ : api_Span)]).map enc_api_Span) 50 2::.box b_1 [.slice r_Rating_p r.Rating.length r_Rating_c,.slice r_Gaugings_p r.Gaugings.length r_Gaugings_c] 34::Lf) w) follows_mx (by kernel_rfl) (by kernel_rfl) (HasE.of hf ⟨rfl,rfl,rfl,rfl,trivial,trivial,trivial,trivial,trivial,trivial,trivial,trivial,trivial,trivial,trivial,trivial,trivial,trivial,trivial⟩) hc ⟨?_,?_,?_,?_,?_,?_,?_,?_,?_,?_,?_,?_,?_,?_,trivial⟩ ?_ ?_
     ·intro E θ a w hD hi hp he hc
      have e13 := hD.f 0 rfl hi
      have hf := he.h0
      replace hf := hf.more he 1 rfl (onN e13)
      refine stP hf rfl rfl rfl (pM rfl) fun a hf => cNil ?_
      refine xThenN ?_
      intro ds u hau
      refine ⟨θ,he.put0 hi hau hf rfl 4 rfl rfl,?_⟩
      exact hc
     ·intro E θ a w hD hi hp he hc
      have hf := he.h0
      replace hf := hf.more he 3 rfl onT
      refine stP hf rfl rfl rfl (pM rfl) fun a hf => cNil ?_
      refine xThenN ?_
      intro ds u hau
      refine ⟨θ,he.put0 hi hau hf rfl 5 rfl rfl,?_⟩
      exact hc
     ·intro E θ a w hD hi hp he hc
      have e1 := hp.of (k := 1) rfl
      have hf := he.h0
      replace hf := hf.more he 5 rfl (onP e1)
      refine stP hf rfl rfl rfl (pIA Try.underlying61 sz_3 rfl rfl qa_1) fun a hf => cNil ?_
      refine xThenN ?_
      intro ds u hau
      refine ⟨θ,he.put0 hi hau hf rfl 6 rfl rfl,?_⟩
      exact hc
     ·intro E θ a w hD hi hp he hc
      have e2 := hp.of (k := 2) rfl
      have hf := he.h0
      replace hf := hf.more he 6 rfl (onP e2)
      refine stE hf hc rfl rfl rfl (eLd1 sc_3 rfl (cell_row (sz := 1) (i := (0 : Int).toNat) (j := 0) m1 qr rfl)) fun a w hf hc => cNil ?_
      refine xThenN ?_
      intro ds u hau
      refine ⟨θ,he.put0 hi hau hf rfl 7 rfl rfl,?_⟩
      exact hc
     ·intro E θ a w hD hi hp he hc
      have hf := he.h0
      replace hf := hf.more he 3 rfl onT
      refine stP hf rfl rfl rfl (pM rfl) fun a hf => cNil ?_
      refine xThenN ?_
      intro ds u hau
      refine ⟨θ,he.put0 hi hau hf rfl 8 rfl rfl,?_⟩
      exact hc
     ·intro E θ a w hD hi hp he hc
      have hf := he.h0
      replace hf := hf.more he 3 rfl onT
      refine stP hf rfl rfl rfl (pM rfl) fun a hf => cNil ?_
      refine xThenN ?_
      intro ds u hau
      refine ⟨θ,he.put0 hi hau hf rfl 9 rfl rfl,?_⟩
      exact hc
     ·intro E θ a w hD hi hp he hc
      have e5 := hp.of (k := 5) rfl
      have hf := he.h0
      replace hf := hf.more he 9 rfl (onP e5)
      refine stP hf rfl rfl rfl (pLenS Try.underlying61 rfl) fun a hf => cNil ?_
      refine xThenN ?_
      intro ds u hau
      refine ⟨θ,he.put0 hi hau hf rfl 10 rfl rfl,?_⟩
      exact hc
     ·intro E θ a w hD hi hp he hc
      have e6 := hp.of (k := 6) rfl
      have hf := he.h0
      replace hf := hf.more he 10 rfl (onP e6)
      refine stP hf rfl rfl rfl (pSub rfl rfl) fun a hf => cNil ?_
      refine xThenN ?_
      intro ds u hau
      refine ⟨θ,he.put0 hi hau hf rfl 11 rfl rfl,?_⟩
      exact hc
     ·intro E θ a w hD hi hp he hc
      have e4 := hp.of (k := 4) rfl
      have e7 := hp.of (k := 7) rfl
      have hf := he.h0
      replace hf := hf.more he 8 rfl (onP e4)
      replace hf := hf.more he 11 rfl (onP e7)
      refine stP hf rfl rfl rfl (pIA Try.underlying61 sz_3 rfl rfl qa_2) fun a hf => cNil ?_
      refine xThenN ?_
      intro ds u hau
      refine ⟨θ,he.put0 hi hau hf rfl 12 rfl rfl,?_⟩
      exact hc
     ·intro E θ a w hD hi hp he hc
      have e8 := hp.of (k := 8) rfl
      have hf := he.h0
      replace hf := hf.more he 12 rfl (onP e8)
      refine stE hf hc rfl rfl rfl (eLd1 sc_3 rfl (cell_row (sz := 1) (i := (W (((l.length : Nat) : Int) - 1)).toNat) (j := 0) m1 qr_1 rfl)) fun a w hf hc => cNil ?_
      refine xThenN ?_
      intro ds u hau
      refine ⟨θ,he.put0 hi hau hf rfl 13 rfl rfl,?_⟩
      exact hc
     ·intro E θ a w hD hi hp he hc
      have e3 := hp.of (k := 3) rfl
      have e9 := hp.of (k := 9) rfl
      have hf := he.h0
      replace hf := hf.more he 7 rfl (onP e3)
      replace hf := hf.more he 13 rfl (onP e9)
      refine stP hf rfl rfl rfl (pBuildS (cells := [.int .i64 e_2,.int .i64 e_3]) bt_50 rfl rfl) fun a hf => cNil ?_
      refine xThenN ?_
      intro ds u hau
      refine ⟨θ,he.put0 hi hau hf rfl 14 rfl rfl,?_⟩
      exact hc
     ·intro E θ a w hD hi hp he hc
      have e10 := hp.of (k := 10) rfl
      try dsimp only at hc
      rw [hi] at hc
      have hf := he.h0
      replace hf := hf.more he 14 rfl (onP e10)
      refine stBS (rows := ([(⟨e_2,e_3⟩ : api_Span)] : List api_Span).map enc_api_Span) (vs := [(0,.agg #[.int .i64 e_2,.int .i64 e_3])]) hf hc rfl rfl sl_44 rfl ⟨rfl,rfl,rfl,trivial⟩ rfl rfl fun b_4 a w hf hc => cNil ?_
      refine xThenN ?_
      intro ds u hau
      replace hc := hc.drop k1
      refine ⟨(setT θ 88 ⟨b_4,none,0⟩),he.put hi hau hf rfl [] trivial ⟨qq,qq,qq,qq,qq,qq,qq,qq,qq,qq,qq,qq,qq,qq,qq,qq,qq,qq,trivial⟩,?_⟩
      try dsimp only
      rw [updE_self E 11]
      exact hc
     ·intro E θ a w hD hi hp he hc
      have e0 := hp.of (k := 0) rfl
      have e11 := hp.of (k := 11) rfl
      have e13 := hD.f 1 rfl hi
      try dsimp only at hc
      rw [e11,hi] at hc
      have hf := he.h0
      replace hf := hf.more he 4 rfl (onP e0)
      replace hf := hf.more he 15 rfl (onP e11)
      refine stApm (xs := out) (ys := ([(⟨e_2,e_3⟩ : api_Span)] : List api_Span)) hf hc rfl rfl sl_44 rfl rfl rfl rfl rfl one_enc_api_Span (src_row hc m0) (fun _ _ => u3) (by simpa using room_spec hun) fun p_3 c_3 a w hf hc => cNil ?_
      refine xThenN ?_
      intro ds u hau
      refine ⟨(setT θ 96 ⟨0,p_3,c_3⟩),he.put hi hau hf rfl [13] ⟨⟨e13,rfl⟩,trivial⟩ ⟨qq,qq,qq,qq,qq,qq,qq,qq,qq,qq,qq,qq,qq,qq,qq,qq,qq,trivial,trivial⟩,?_⟩
      try dsimp only
      rw [updE_tru 12 e11,updE_self E 12]
      exact hc
     ·intro E θ a w hD hi hp he hc
      have e12 := hp.of (k := 12) rfl
      have hf := he.h0
      replace hf := hf.more he 16 rfl (onP e12)
      refine stP hf rfl rfl rfl (pA rfl) fun a hf => cNil ?_
      refine xThenN ?_
      intro ds u hau
      refine ⟨θ,he.put0 hi hau hf rfl 17 rfl rfl,?_⟩
      exact hc
     ·intro E θ a w hall he hc
      have hf := he.h0
      have e11 := hall 11 rfl
      have e12 := hall 12 rfl
      have e13 := hall 13 rfl
      replace hf := hf.more he 17 rfl (onP e13)
      replace hf := hf.more he 2 rfl (onT)
      replace hf := hf.more he 0 rfl (onT)
      try dsimp only at hc
      rw [e11,e12] at hc
      exact ⟨(θ 96).p,(θ 96).c,(θ 88).b,hf.keep ⟨rfl,rfl,rfl,trivial⟩,hc⟩
     rintro a w ⟨p_4,c_4,b_5,hf,hc⟩
     refine h13 _ _ ?_
     refine cReg ?_
     refine stP hf rfl rfl rfl (pM rfl) fun a hf => stP hf rfl rfl rfl (pAdd rfl rfl) fun a hf => stP hf rfl rfl rfl (pA rfl) fun a hf => cNil ?_
     replace hc := hc.drop k2
     replace hc := hc.drop k1
     replace hc := hc.drop k0
     exact hK9 ((out ++ [(⟨e_2,e_3⟩ : api_Span)]),W (i_1 + 1)) _ _ (Option.some.inj hF).symm ⟨p_4,c_4,hf.keep ⟨rfl,rfl,rfl,trivial⟩,hc⟩
   have ho18 : ∀ r,x18 = .out r → r = st9 := by
    rintro r rfl
    exact Option.some.inj hF
   replace hc := hc.nilRow 3 1
   refine cLoop N (loopW (S := S18) (x := x18) ?_ N (([] : List Int),(-300)) _ _ ⟨none,0,hf.keep ⟨rfl,rfl,rfl,rfl,rfl,rfl,trivial⟩,hc⟩ hx18)
   clear hF hf hc
   rintro ⟨l,shift⟩ st18 a w KB18 ⟨p_2,c_2,hf,hc⟩ hF hfin18 hK18
   unfold ref05_Passes_b18 at hF
   refine wp_seq_k fun K22 h22 => wp_seq_k fun K23 h23 => cReg ?_
   refine stP hf rfl rfl rfl (pM rfl) fun a hf => stP hf rfl rfl rfl (pLe rfl rfl) fun a hf => cNil ?_
   refine h23 _ _ ?_
   refine cCond (b := (decide (shift ≤ 300))) hf rfl (fun hb => ?_) (fun hb => ?_)
   ·replace hF := condT hb hF
    clear hb
    refine wp_skip ?_
    refine h22 _ _ ?_
    refine wp_seq_k fun K24 h24 => ?_
    have hj24 : ∀ (l_1 : List Int) (p_5 : Option Addr) (c_5 : Nat) a w,Has 80 a [(1,.pointer (some ⟨b_1,0,none⟩)),(5,.slice p_1 out.length c_1),(6,.int .i64 i_1),(7,.pointer (some ⟨b_3,0,none⟩)),(8,.slice p_5 l_1.length c_5),(9,.int .i64 shift)] → Ctx G (.row p_5 c_5 (l_1.map encI_i64) 3 1::.box b_3 [.int .i64 e_1.Day,.int .i64 e_1.Stage,.int .i64 e_1.Flow.Lo,.int .i64 e_1.Flow.Hi] 129::.row p_1 c_1 (out.map enc_api_Span) 50 2::.box b_1 [.slice r_Rating_p r.Rating.length r_Rating_c,.slice r_Gaugings_p r.Gaugings.length r_Gaugings_c] 34::Lf) w → ref05_Passes_j24 N shift l_1 = some st18 → K24 a w := by
     repeat (clear hF)
     repeat (clear hc)
     repeat (clear hf)
     intro l_1 p_5 c_5 a w hf hc hF
     unfold ref05_Passes_j24 at hF
     refine h24 _ _ ?_
     refine cReg ?_
     refine stP hf rfl rfl rfl (pM rfl) fun a hf => stP hf rfl rfl rfl (pAdd rfl rfl) fun a hf => stP hf rfl rfl rfl (pA rfl) fun a hf => cNil ?_
     exact hK18 (l_1,W (shift + 1)) _ _ (Option.some.inj hF).symm ⟨p_5,c_5,hf.keep ⟨rfl,rfl,rfl,rfl,rfl,rfl,trivial⟩,hc⟩
    refine wp_block ?_
    refine wp_seq_k fun K25 h25 => cReg ?_
    refine stP hf rfl rfl rfl (pFA fa_34_0 rfl) fun a hf => stE hf hc rfl rfl rfl (eLd1 sc_31 rfl (cell_box m3 rfl)) fun a w hf hc => stP hf rfl rfl rfl (pFA fa_129_1 rfl) fun a hf => stE hf hc rfl rfl rfl (eLd1 sc_3 rfl (cell_box m1 rfl)) fun a w hf hc => stP hf rfl rfl rfl (pM rfl) fun a hf => stP hf rfl rfl rfl (pSub rfl rfl) fun a hf => ?_
    obtain ⟨r_1,hr_1,hF⟩ := bnd_some hF
    refine stE hf hc rfl rfl rfl (eC (v := .agg #[.int .i64 r_1.N,.int .i64 r_1.D]) (vs := [.slice r_Rating_p r.Rating.length r_Rating_c,.int .i64 (W (e_1.Stage - shift))]) (caps := []) en_70 rfl rfl rfl rfl (fun w hc => ref05_flow_ok r.Rating (W (e_1.Stage - shift)) h_r_Rating hc hr_1)) fun a w hf hc => stAl (cs := [.int .i64 0,.int .i64 0]) hf hc rfl rfl zr_37 rfl fun b_6 a w hf hc => stSt (vs := [.int .i64 r_1.N,.int .i64 r_1.D]) hf hc rfl rfl rfl rfl sz_37 rfl rfl u0 fun w hc => cNil ?_
    refine h25 _ _ ?_
    refine wp_seq_k fun K26 h26 => cReg ?_
    refine stP hf rfl rfl rfl (pFA fa_37_0 rfl) fun a hf => stE hf hc rfl rfl rfl (eLd1 sc_3 rfl (cell_box m0 rfl)) fun a w hf hc => stP hf rfl rfl rfl (pFA fa_129_2 rfl) fun a hf => stP hf rfl rfl rfl (pFA fa_50_0 rfl) fun a hf => stE hf hc rfl rfl rfl (eLd1 sc_3 rfl (cell_box m2 rfl)) fun a w hf hc => stP hf rfl rfl rfl (pFA fa_37_1 rfl) fun a hf => stE hf hc rfl rfl rfl (eLd1 sc_3 rfl (cell_box m0 rfl)) fun a w hf hc => stP hf rfl rfl rfl (pMul rfl rfl) fun a hf => stP hf rfl rfl rfl (pGe rfl rfl) fun a hf => stP hf rfl rfl rfl (pM rfl) fun a hf => stCut 10 (fun a w => Has 80 a [(1,.pointer (some ⟨b_1,0,none⟩)),(5,.slice p_1 out.length c_1),(6,.int .i64 i_1),(7,.pointer (some ⟨b_3,0,none⟩)),(8,.slice p_2 l.length c_2),(9,.int .i64 shift),(10,.pointer (some ⟨b_6,0,none⟩)),(39,.pointer (some ⟨b_6,0,none⟩)),(40,.int .i64 r_1.N),(41,.pointer (some ⟨b_3,2,none⟩)),(42,.pointer (some ⟨b_3,2,none⟩)),(43,.int .i64 e_1.Flow.Lo),(44,.pointer (some ⟨b_6,1,none⟩)),(45,.int .i64 r_1.D),(46,.int .i64 (W (e_1.Flow.Lo * r_1.D))),(47,.bool (decide ((W (e_1.Flow.Lo * r_1.D)) ≤ r_1.N))),(48,.bool (decide ((W (e_1.Flow.Lo * r_1.D)) ≤ r_1.N))),(58,.bool ((decide ((W (e_1.Flow.Lo * r_1.D)) ≤ r_1.N)) && (decide (r_1.N ≤ (W (e_1.Flow.Hi * r_1.D))))))] ∧ Ctx G (.box b_6 [.int .i64 r_1.N,.int .i64 r_1.D] 37::.row p_2 c_2 (l.map encI_i64) 3 1::.box b_3 [.int .i64 e_1.Day,.int .i64 e_1.Stage,.int .i64 e_1.Flow.Lo,.int .i64 e_1.Flow.Hi] 129::.row p_1 c_1 (out.map enc_api_Span) 50 2::.box b_1 [.slice r_Rating_p r.Rating.length r_Rating_c,.slice r_Gaugings_p r.Gaugings.length r_Gaugings_c] 34::Lf) w) ?_ ?_
    ·cases hb : (decide ((W (e_1.Flow.Lo * r_1.D)) ≤ r_1.N))
     ·rw [hb] at hf
      refine stS hf rfl rfl rfl fun a hf => stS hf rfl rfl rfl fun a hf => stS hf rfl rfl rfl fun a hf => stS hf rfl rfl rfl fun a hf => stS hf rfl rfl rfl fun a hf => stS hf rfl rfl rfl fun a hf => stS hf rfl rfl rfl fun a hf => stS hf rfl rfl rfl fun a hf => stS hf rfl rfl rfl fun a hf => stP hf rfl rfl rfl (pPf rfl rfl) fun a hf => cNil ⟨hf.keep ⟨rfl,rfl,rfl,rfl,rfl,rfl,rfl,rfl,rfl,rfl,rfl,rfl,rfl,rfl,rfl,rfl,rfl,rfl,trivial⟩,hc⟩
     ·rw [hb] at hf
      refine stP hf rfl rfl rfl (pFA fa_37_0 rfl) fun a hf => stE hf hc rfl rfl rfl (eLd1 sc_3 rfl (cell_box m0 rfl)) fun a w hf hc => stP hf rfl rfl rfl (pFA fa_129_2 rfl) fun a hf => stP hf rfl rfl rfl (pFA fa_50_1 rfl) fun a hf => stE hf hc rfl rfl rfl (eLd1 sc_3 rfl (cell_box m2 rfl)) fun a w hf hc => stP hf rfl rfl rfl (pFA fa_37_1 rfl) fun a hf => stE hf hc rfl rfl rfl (eLd1 sc_3 rfl (cell_box m0 rfl)) fun a w hf hc => stP hf rfl rfl rfl (pMul rfl rfl) fun a hf => stP hf rfl rfl rfl (pLe rfl rfl) fun a hf => stP hf rfl rfl rfl (pPt rfl rfl) fun a hf => cNil ⟨hf.keep ⟨rfl,rfl,rfl,rfl,rfl,rfl,rfl,rfl,rfl,rfl,rfl,rfl,rfl,rfl,rfl,rfl,rfl,rfl,trivial⟩,hc⟩
    intro a w ⟨hf,hc⟩
    refine cNil ?_
    refine h26 _ _ ?_
    refine cCond (b := ((decide ((W (e_1.Flow.Lo * r_1.D)) ≤ r_1.N)) && (decide (r_1.N ≤ (W (e_1.Flow.Hi * r_1.D)))))) hf rfl (fun hb => ?_) (fun hb => ?_)
    ·replace hF := condT hb hF
     clear hb
     refine cReg ?_
     refine stP hf rfl rfl rfl (pM rfl) fun a hf => stP hf rfl rfl rfl (pM rfl) fun a hf => stBS (rows := ([shift] : List Int).map encI_i64) (vs := [(0,.int .i64 shift)]) hf hc rfl rfl sl_61 rfl ⟨rfl,rfl,rfl,trivial⟩ rfl rfl fun b_7 a w hf hc => ?_
     obtain ⟨un_1,hun_1,hF⟩ := bnd_some hF
     refine stApm (xs := l) (ys := ([shift] : List Int)) hf hc rfl rfl sl_61 rfl rfl rfl rfl rfl one_encI_i64 (src_row hc m0) (fun _ _ => u2) (by simpa using room_spec hun_1) fun p_6 c_6 a w hf hc => stP hf rfl rfl rfl (pA rfl) fun a hf => cNil ?_
     replace hc := hc.drop k1
     replace hc := hc.drop k0
     exact hj24 (l ++ [shift]) p_6 c_6 _ _  (hf.keep ⟨rfl,rfl,rfl,rfl,rfl,rfl,trivial⟩) hc hF
    ·replace hF := condF hb hF
     clear hb
     refine wp_skip ?_
     replace hc := hc.drop k0
     exact hj24 l p_2 c_2 _ _  (hf.keep ⟨rfl,rfl,rfl,rfl,rfl,rfl,trivial⟩) hc hF
   ·replace hF := condF hb hF
    clear hb
    refine wp_exit ?_
    refine xThen ?_
    refine xThen ?_
    have he := Option.some.inj hF
    rw [← he] at hfin18
    refine cHit ?_
    exact hr18 _ _ _ hfin18 ⟨p_2,c_2,hf.keep ⟨rfl,rfl,rfl,rfl,rfl,rfl,trivial⟩,hc⟩
  ·replace hF := condF hb hF
   clear hb
   refine wp_exit ?_
   refine xThen ?_
   refine xThen ?_
   have he := Option.some.inj hF
   rw [← he] at hfin9
   refine cHit ?_
   exact hr9 _ _ _ hfin9 ⟨p_1,c_1,hf.keep ⟨rfl,rfl,rfl,trivial⟩,hc⟩

def law05_wide_b6 (N : Nat) (r_1 : (List api_Span) × Int) (sum : Int) (x : Int) : Option (Step (Int × Int) (Bool)) :=
 cond (decide (x < ((r_1.1.length : Nat) : Int)))
 (Option.bind (getI r_1.1 x) fun e_1 =>
 some (.cont (W (sum + (W (e_1.Hi - e_1.Lo))),W (x + 1))))
 (some (.brk (sum,x)))
def law05_wide (N : Nat) (r : shift_Record) : Option (Bool) :=
 Option.bind (law05_Record N r) fun r_0 =>
 Option.bind (ref05_Passes N r_0) fun r_1 =>
 Option.bind (loopO (fun s6 => law05_wide_b6 N r_1 s6.1 s6.2) N (0,0)) fun x6 =>
 exK x6 (fun s6 => some ((r_1.2 == 0) && (decide (1500 < s6.1)))) some
theorem law05_wide_ok {N : Nat} {G : Pers} {Lf : List Ent} {w : World} (r : shift_Record) {r_Rating_p : Option Addr} {r_Rating_c : Nat} {r_Gaugings_p : Option Addr} {r_Gaugings_c : Nat} (h_r_Rating : Rd G 2 r_Rating_p r_Rating_c (r.Rating.map enc_shift_Mark)) (h_r_Gaugings : Rd G 4 r_Gaugings_p r_Gaugings_c (r.Gaugings.map enc_shift_Gauging)) (hc : Ctx G (Lf) w) {res : Bool} (hF : law05_wide N r = some res) : Calls Try.prog 26 #[.agg #[.slice r_Rating_p r.Rating.length r_Rating_c,.slice r_Gaugings_p r.Gaugings.length r_Gaugings_c]] w (fun e w => e = .returned (.bool res) ∧ Ctx G (Lf) w) := by
 unfold law05_wide at hF
 refine fnIn (args := [.agg #[.slice r_Rating_p r.Rating.length r_Rating_c,.slice r_Gaugings_p r.Gaugings.length r_Gaugings_c]]) Try.func26 rfl Try.ntmps26 rfl fun a hf => wp_seq_k fun K1 h1 => cReg ?_
 refine stBx (cs := [.slice r_Rating_p r.Rating.length r_Rating_c,.slice r_Gaugings_p r.Gaugings.length r_Gaugings_c]) hf hc rfl rfl rfl rfl fun b_1 a w hf hc => stP hf rfl rfl rfl (pA rfl) fun a hf => cNil ?_
 refine h1 _ _ ?_
 refine wp_seq_k fun K2 h2 => cReg ?_
 refine stE hf hc rfl rfl rfl (eLdN (vs := [.slice r_Rating_p r.Rating.length r_Rating_c,.slice r_Gaugings_p r.Gaugings.length r_Gaugings_c]) ag_25 rfl rfl (cells_box (n := 2) m0 rfl)) fun a w hf hc => ?_
 obtain ⟨r_0,hr_0,hF⟩ := bnd_some hF
 refine stC (vs := [.agg #[.slice r_Rating_p r.Rating.length r_Rating_c,.slice r_Gaugings_p r.Gaugings.length r_Gaugings_c]]) (caps := []) hf rfl rfl rfl en_16 rfl rfl rfl rfl (law05_Record_ok r h_r_Rating h_r_Gaugings hc hr_0) ?_
 rintro _ w ⟨p_1,c_1,p_2,c_2,rfl,hc⟩
 refine ⟨_,rfl,fun a hf => ?_⟩
 obtain ⟨r_1,hr_1,hF⟩ := bnd_some hF
 obtain ⟨G1,hle1,hrd1,hc,hth1⟩ := lend hc k0
 obtain ⟨G2,hle2,hrd2,hc,hth2⟩ := lend hc k0
 refine stC (vs := [.agg #[.slice p_1 r_0.Rating.length c_1,.slice p_2 r_0.Gaugings.length c_2]]) (caps := []) hf rfl rfl rfl en_23 rfl rfl rfl rfl (ref05_Passes_ok r_0 (hrd1.mono hle2) hrd2 hc hr_1) ?_
 rintro _ w ⟨p_3,c_3,rfl,hc⟩
 refine ⟨_,rfl,fun a hf => ?_⟩
 replace hc := hth2 _ _ hc
 replace hc := hth1 _ _ hc
 refine stP hf rfl rfl rfl (pM rfl) fun a hf => stP hf rfl rfl rfl (pX rfl rfl) fun a hf => stP hf rfl rfl rfl (pX rfl rfl) fun a hf => stP hf rfl rfl rfl (pA rfl) fun a hf => stP hf rfl rfl rfl (pA rfl) fun a hf => cNil ?_
 refine h2 _ _ ?_
 refine wp_seq_k fun K3 h3 => cReg ?_
 refine stP hf rfl rfl rfl (pA rfl) fun a hf => cNil ?_
 refine h3 _ _ ?_
 refine wp_seq_k fun K4 h4 => wp_seq_k fun K5 h5 => cReg ?_
 refine stP hf rfl rfl rfl (pM rfl) fun a hf => stP hf rfl rfl rfl (pLenS Try.underlying44 rfl) fun a hf => stP hf rfl rfl rfl (pM rfl) fun a hf => cNil ?_
 refine h5 _ _ ?_
 refine wp_block ?_
 obtain ⟨x6,hx6,hF⟩ := bnd_some hF
 let S6 : (Int × Int) → Act → World → Prop := (fun (zz : Int × Int) a w => ∃ (p_4 : Option Addr) (c_4 : Nat),Has 34 a [(4,.int .i64 r_1.2),(5,.int .i64 zz.1),(14,.slice p_4 r_1.1.length c_4),(15,.int .i64 ((r_1.1.length : Nat) : Int)),(16,.int .i64 zz.2)] ∧ Ctx G (.row p_4 c_4 (r_1.1.map enc_api_Span) 50 2::Lf) w)
 have hr6 : ∀ (zz : Int × Int) a w,x6 = .go zz → S6 zz a w → K4 a w := by
  rintro ⟨sum,x⟩ a w rfl ⟨p_4,c_4,hf,hc⟩
  replace hF := exK_go hF
  refine h4 _ _ ?_
  refine wp_seq_k fun K7 h7 => cReg ?_
  refine stP hf rfl rfl rfl (pM rfl) fun a hf => stP hf rfl rfl rfl (pEq rfl rfl) fun a hf => stP hf rfl rfl rfl (pM rfl) fun a hf => stCut 3 (fun a w => Has 34 a [(4,.int .i64 r_1.2),(5,.int .i64 sum),(28,.int .i64 r_1.2),(29,.bool (r_1.2 == 0)),(30,.bool (r_1.2 == 0)),(33,.bool ((r_1.2 == 0) && (decide (1500 < sum))))] ∧ Ctx G (.row p_4 c_4 (r_1.1.map enc_api_Span) 50 2::Lf) w) ?_ ?_
  ·cases hb : (r_1.2 == 0)
   ·rw [hb] at hf
    refine stS hf rfl rfl rfl fun a hf => stS hf rfl rfl rfl fun a hf => stP hf rfl rfl rfl (pPf rfl rfl) fun a hf => cNil ⟨hf.keep ⟨rfl,rfl,rfl,rfl,rfl,rfl,trivial⟩,hc⟩
   ·rw [hb] at hf
    refine stP hf rfl rfl rfl (pM rfl) fun a hf => stP hf rfl rfl rfl (pGt rfl rfl) fun a hf => stP hf rfl rfl rfl (pPt rfl rfl) fun a hf => cNil ⟨hf.keep ⟨rfl,rfl,rfl,rfl,rfl,rfl,trivial⟩,hc⟩
  intro a w ⟨hf,hc⟩
  refine stP hf rfl rfl rfl (pA rfl) fun a hf => cNil ?_
  refine h7 _ _ ?_
  refine wp_ret ?_
  obtain rfl := Option.some.inj hF
  replace hc := hc.drop k0
  exact fnOut1 (by simp) rfl Try.results26 hf hc (show look _ 2 = _ from rfl) ⟨rfl,hc⟩
 have ho6 : ∀ r,x6 = .out r → r = res := by
  rintro r rfl
  exact Option.some.inj hF
 replace hc := hc.drop k3
 replace hc := hc.drop k1
 replace hc := hc.drop k0
 refine cLoop N (loopW (S := S6) (x := x6) ?_ N (0,0) _ _ ⟨p_3,c_3,hf.keep ⟨rfl,rfl,rfl,rfl,rfl,trivial⟩,hc⟩ hx6)
 clear hF hf hc
 rintro ⟨sum,x⟩ st6 a w KB6 ⟨p_4,c_4,hf,hc⟩ hF hfin6 hK6
 unfold law05_wide_b6 at hF
 refine wp_seq_k fun K8 h8 => cReg ?_
 refine stP hf rfl rfl rfl (pLt rfl rfl) fun a hf => cNil ?_
 refine h8 _ _ ?_
 refine wp_seq_k fun K9 h9 => cCond (b := (decide (x < ((r_1.1.length : Nat) : Int)))) hf rfl (fun hb => ?_) (fun hb => ?_)
 ·replace hF := condT hb hF
  clear hb
  refine wp_skip ?_
  refine h9 _ _ ?_
  refine wp_seq_k fun K10 h10 => wp_block ?_
  refine wp_seq_k fun K11 h11 => cReg ?_
  obtain ⟨e_1,he_1,hF⟩ := bnd_some hF
  obtain ⟨g,rfl,qa,qr⟩ := row_atm hc m0 he_1
  refine stP hf rfl rfl rfl (pIA Try.underlying44 sz_50 rfl rfl qa) fun a hf => stE hf hc rfl rfl rfl (eLdN (vs := [.int .i64 e_1.Lo,.int .i64 e_1.Hi]) ag_50 rfl rfl (cells_rw (sz := 2) (i := x.toNat) m0 qr (n := 2) (o' := 0) rfl)) fun a w hf hc => stAl (cs := [.int .i64 0,.int .i64 0]) hf hc rfl rfl zr_50 rfl fun b_2 a w hf hc => stSt (vs := [.int .i64 e_1.Lo,.int .i64 e_1.Hi]) hf hc rfl rfl rfl rfl sz_50 rfl rfl u0 fun w hc => cNil ?_
  refine h11 _ _ ?_
  refine cReg ?_
  refine stP hf rfl rfl rfl (pM rfl) fun a hf => stP hf rfl rfl rfl (pFA fa_50_1 rfl) fun a hf => stE hf hc rfl rfl rfl (eLd1 sc_3 rfl (cell_box m0 rfl)) fun a w hf hc => stP hf rfl rfl rfl (pFA fa_50_0 rfl) fun a hf => stE hf hc rfl rfl rfl (eLd1 sc_3 rfl (cell_box m0 rfl)) fun a w hf hc => stP hf rfl rfl rfl (pSub rfl rfl) fun a hf => stP hf rfl rfl rfl (pAdd rfl rfl) fun a hf => stP hf rfl rfl rfl (pA rfl) fun a hf => cNil ?_
  refine h10 _ _ ?_
  refine cReg ?_
  refine stP hf rfl rfl rfl (pAdd rfl rfl) fun a hf => stP hf rfl rfl rfl (pM rfl) fun a hf => cNil ?_
  replace hc := hc.drop k0
  exact hK6 (W (sum + (W (e_1.Hi - e_1.Lo))),W (x + 1)) _ _ (Option.some.inj hF).symm ⟨(some ⟨g,0,none⟩),c_4,hf.keep ⟨rfl,rfl,rfl,rfl,rfl,trivial⟩,hc⟩
 ·replace hF := condF hb hF
  clear hb
  refine wp_exit ?_
  refine xThen ?_
  refine xThen ?_
  have he := Option.some.inj hF
  rw [← he] at hfin6
  refine cHit ?_
  exact hr6 _ _ _ hfin6 ⟨p_4,c_4,hf.keep ⟨rfl,rfl,rfl,rfl,rfl,trivial⟩,hc⟩

def law05_span (N : Nat) (lo : Int) (hi_ : Int) : Option (api_Span) :=
 some (⟨lo,hi_⟩ : api_Span)
theorem law05_span_ok {N : Nat} {G : Pers} {Lf : List Ent} {w : World} (lo : Int) (hi_ : Int)   (hc : Ctx G (Lf) w) {res : api_Span} (hF : law05_span N lo hi_ = some res) : Calls Try.prog 47 #[.int .i64 lo,.int .i64 hi_] w (fun e w => e = .returned (.agg #[.int .i64 res.Lo,.int .i64 res.Hi]) ∧ Ctx G (Lf) w) := by
 unfold law05_span at hF
 refine fnIn (args := [.int .i64 lo,.int .i64 hi_]) Try.func47 rfl Try.ntmps47 rfl fun a hf => wp_seq_k fun K1 h1 => cReg ?_
 refine stAl (cs := [.int .i64 0,.int .i64 0]) hf hc rfl rfl zr_50 rfl fun b_1 a w hf hc => cNil ?_
 refine h1 _ _ ?_
 refine wp_seq_k fun K2 h2 => cReg ?_
 refine stP hf rfl rfl rfl (pM rfl) fun a hf => stP hf rfl rfl rfl (pM rfl) fun a hf => stP hf rfl rfl rfl (pBuildS (cells := [.int .i64 lo,.int .i64 hi_]) bt_50 rfl rfl) fun a hf => stSt (vs := [.int .i64 lo,.int .i64 hi_]) hf hc rfl rfl rfl rfl sz_50 rfl rfl u0 fun w hc => cNil ?_
 refine h2 _ _ ?_
 refine wp_ret ?_
 obtain rfl := Option.some.inj hF
 exact fnOut1 (by simp) rfl Try.results47 hf hc (rv_cellN (vs := [.int .i64 lo,.int .i64 hi_]) ag_50 rfl rfl (cells_box (n := 2) m0 rfl)) ⟨rfl,(hc.drop k0)⟩

def law05_Three (N : Nat)  : Option (shift_Record) :=
 Option.bind (law05_span N 90 130) fun r =>
 Option.bind (law05_span N 95 100) fun r_1 =>
 Option.bind (law05_span N 70 160) fun r_2 =>
 some (⟨([(⟨0,0⟩ : shift_Mark),(⟨10,100⟩ : shift_Mark),(⟨20,400⟩ : shift_Mark)] : List shift_Mark),([(⟨1,13,r⟩ : shift_Gauging),(⟨5,10,r_1⟩ : shift_Gauging),(⟨9,15,r_2⟩ : shift_Gauging)] : List shift_Gauging)⟩ : shift_Record)
theorem law05_Three_ok {N : Nat} {G : Pers} {Lf : List Ent} {w : World}    (hc : Ctx G (Lf) w) {res : shift_Record} (hF : law05_Three N = some res) : Calls Try.prog 55 #[] w (fun e w => ∃ (p'1 : Option Addr) (c'1 : Nat) (p'2 : Option Addr) (c'2 : Nat),e = .returned (.agg #[.slice p'1 res.Rating.length c'1,.slice p'2 res.Gaugings.length c'2]) ∧ Ctx G (.row p'1 c'1 (res.Rating.map enc_shift_Mark) 77 2::.row p'2 c'2 (res.Gaugings.map enc_shift_Gauging) 71 4::Lf) w) := by
 unfold law05_Three at hF
 refine fnIn (args := []) Try.func55 rfl Try.ntmps55 rfl fun a hf => wp_seq_k fun K1 h1 => cReg ?_
 refine stAl (cs := [.slice none 0 0,.slice none 0 0]) hf hc rfl rfl zr_25 rfl fun b_1 a w hf hc => cNil ?_
 refine h1 _ _ ?_
 refine wp_seq_k fun K2 h2 => cReg ?_
 refine stP hf rfl rfl rfl (pBuildS (cells := [.int .i64 0,.int .i64 0]) bt_77 rfl rfl) fun a hf => stP hf rfl rfl rfl (pBuildS (cells := [.int .i64 10,.int .i64 100]) bt_77 rfl rfl) fun a hf => stP hf rfl rfl rfl (pBuildS (cells := [.int .i64 20,.int .i64 400]) bt_77 rfl rfl) fun a hf => stBS (rows := ([(⟨0,0⟩ : shift_Mark),(⟨10,100⟩ : shift_Mark),(⟨20,400⟩ : shift_Mark)] : List shift_Mark).map enc_shift_Mark) (vs := [(0,.agg #[.int .i64 0,.int .i64 0]),(1,.agg #[.int .i64 10,.int .i64 100]),(2,.agg #[.int .i64 20,.int .i64 400])]) hf hc rfl rfl sl_22 rfl ⟨rfl,rfl,rfl,rfl,rfl,rfl,rfl,rfl,rfl,trivial⟩ rfl rfl fun b_2 a w hf hc => ?_
 obtain ⟨r,hr,hF⟩ := bnd_some hF
 refine stE hf hc rfl rfl rfl (eC (v := .agg #[.int .i64 r.Lo,.int .i64 r.Hi]) (vs := [.int .i64 90,.int .i64 130]) (caps := []) en_47 rfl rfl rfl rfl (fun w hc => law05_span_ok 90 130 hc hr)) fun a w hf hc => stP hf rfl rfl rfl (pBuildS (cells := [.int .i64 1,.int .i64 13,.int .i64 r.Lo,.int .i64 r.Hi]) bt_71 rfl rfl) fun a hf => ?_
 obtain ⟨r_1,hr_1,hF⟩ := bnd_some hF
 refine stE hf hc rfl rfl rfl (eC (v := .agg #[.int .i64 r_1.Lo,.int .i64 r_1.Hi]) (vs := [.int .i64 95,.int .i64 100]) (caps := []) en_47 rfl rfl rfl rfl (fun w hc => law05_span_ok 95 100 hc hr_1)) fun a w hf hc => stP hf rfl rfl rfl (pBuildS (cells := [.int .i64 5,.int .i64 10,.int .i64 r_1.Lo,.int .i64 r_1.Hi]) bt_71 rfl rfl) fun a hf => ?_
 obtain ⟨r_2,hr_2,hF⟩ := bnd_some hF
 refine stE hf hc rfl rfl rfl (eC (v := .agg #[.int .i64 r_2.Lo,.int .i64 r_2.Hi]) (vs := [.int .i64 70,.int .i64 160]) (caps := []) en_47 rfl rfl rfl rfl (fun w hc => law05_span_ok 70 160 hc hr_2)) fun a w hf hc => stP hf rfl rfl rfl (pBuildS (cells := [.int .i64 9,.int .i64 15,.int .i64 r_2.Lo,.int .i64 r_2.Hi]) bt_71 rfl rfl) fun a hf => stBS (rows := ([(⟨1,13,r⟩ : shift_Gauging),(⟨5,10,r_1⟩ : shift_Gauging),(⟨9,15,r_2⟩ : shift_Gauging)] : List shift_Gauging).map enc_shift_Gauging) (vs := [(0,.agg #[.int .i64 1,.int .i64 13,.int .i64 r.Lo,.int .i64 r.Hi]),(1,.agg #[.int .i64 5,.int .i64 10,.int .i64 r_1.Lo,.int .i64 r_1.Hi]),(2,.agg #[.int .i64 9,.int .i64 15,.int .i64 r_2.Lo,.int .i64 r_2.Hi])]) hf hc rfl rfl sl_23 rfl ⟨rfl,rfl,rfl,rfl,rfl,rfl,rfl,rfl,rfl,trivial⟩ rfl rfl fun b_3 a w hf hc => stP hf rfl rfl rfl (pBuildS (cells := [.slice (some ⟨b_2,0,none⟩) 3 3,.slice (some ⟨b_3,0,none⟩) 3 3]) bt_25 rfl rfl) fun a hf => stSt (vs := [.slice (some ⟨b_2,0,none⟩) 3 3,.slice (some ⟨b_3,0,none⟩) 3 3]) hf hc rfl rfl rfl rfl sz_25 rfl rfl u2 fun w hc => cNil ?_
 refine h2 _ _ ?_
 refine wp_ret ?_
 obtain rfl := Option.some.inj hF
 replace hc := hc.pick k0
 replace hc := hc.pick k1
 exact fnOut1 (by simp) rfl Try.results55 hf hc (rv_cellN (vs := [.slice (some ⟨b_2,0,none⟩) 3 3,.slice (some ⟨b_3,0,none⟩) 3 3]) ag_25 rfl rfl (cells_box (n := 2) m2 rfl)) ⟨(some ⟨b_2,0,none⟩),3,(some ⟨b_3,0,none⟩),3,rfl,(hc.drop k2)⟩

def shift_in (n : Int) (least : Int) (greatest : Int) : Bool :=
 ((decide (least ≤ n)) && (decide (n ≤ greatest)))
theorem shift_in_ok {G : Pers} {Lf : List Ent} {w : World} (n : Int) (least : Int) (greatest : Int)   (hc : Ctx G (Lf) w) {res : Bool} (hF : shift_in n least greatest = res) : Calls Try.prog 59 #[.int .i64 n,.int .i64 least,.int .i64 greatest] w (fun e w => e = .returned (.bool res) ∧ Ctx G (Lf) w) := by
 unfold shift_in at hF
 refine fnIn (args := [.int .i64 n,.int .i64 least,.int .i64 greatest]) Try.func59 rfl Try.ntmps59 rfl fun a hf => wp_seq_k fun K1 h1 => cReg ?_
 refine stP hf rfl rfl rfl (pA rfl) fun a hf => cNil ?_
 refine h1 _ _ ?_
 refine wp_seq_k fun K2 h2 => cReg ?_
 refine stP hf rfl rfl rfl (pM rfl) fun a hf => stP hf rfl rfl rfl (pM rfl) fun a hf => stP hf rfl rfl rfl (pGe rfl rfl) fun a hf => stP hf rfl rfl rfl (pM rfl) fun a hf => stCut 4 (fun a w => Has 15 a [(0,.int .i64 n),(1,.int .i64 least),(2,.int .i64 greatest),(6,.bool false),(7,.int .i64 n),(8,.int .i64 least),(9,.bool (decide (least ≤ n))),(10,.bool (decide (least ≤ n))),(14,.bool ((decide (least ≤ n)) && (decide (n ≤ greatest))))] ∧ Ctx G (Lf) w) ?_ ?_
 ·cases hb : (decide (least ≤ n))
  ·rw [hb] at hf
   refine stS hf rfl rfl rfl fun a hf => stS hf rfl rfl rfl fun a hf => stS hf rfl rfl rfl fun a hf => stP hf rfl rfl rfl (pPf rfl rfl) fun a hf => cNil ⟨hf.keep ⟨rfl,rfl,rfl,rfl,rfl,rfl,rfl,rfl,rfl,trivial⟩,hc⟩
  ·rw [hb] at hf
   refine stP hf rfl rfl rfl (pM rfl) fun a hf => stP hf rfl rfl rfl (pM rfl) fun a hf => stP hf rfl rfl rfl (pLe rfl rfl) fun a hf => stP hf rfl rfl rfl (pPt rfl rfl) fun a hf => cNil ⟨hf.keep ⟨rfl,rfl,rfl,rfl,rfl,rfl,rfl,rfl,rfl,trivial⟩,hc⟩
 intro a w ⟨hf,hc⟩
 refine stP hf rfl rfl rfl (pA rfl) fun a hf => cNil ?_
 refine h2 _ _ ?_
 refine wp_ret ?_
 obtain rfl := hF
 exact fnOut1 (by simp) rfl Try.results59 hf hc (show look _ 6 = _ from rfl) ⟨rfl,hc⟩

def shift_stage (n : Int) : Bool :=
 (shift_in n (-2000) 2000)
theorem shift_stage_ok {G : Pers} {Lf : List Ent} {w : World} (n : Int)   (hc : Ctx G (Lf) w) {res : Bool} (hF : shift_stage n = res) : Calls Try.prog 62 #[.int .i64 n] w (fun e w => e = .returned (.bool res) ∧ Ctx G (Lf) w) := by
 unfold shift_stage at hF
 refine fnIn (args := [.int .i64 n]) Try.func62 rfl Try.ntmps62 rfl fun a hf => wp_seq_k fun K1 h1 => cReg ?_
 refine stP hf rfl rfl rfl (pA rfl) fun a hf => cNil ?_
 refine h1 _ _ ?_
 refine wp_seq_k fun K2 h2 => cReg ?_
 refine stP hf rfl rfl rfl (pM rfl) fun a hf => stE hf hc rfl rfl rfl (eC (v := .bool (shift_in n (-2000) 2000)) (vs := [.int .i64 n,.int .i64 (-2000),.int .i64 2000]) (caps := []) en_59 rfl rfl rfl rfl (fun w hc => shift_in_ok n (-2000) 2000 hc rfl)) fun a w hf hc => stP hf rfl rfl rfl (pA rfl) fun a hf => cNil ?_
 refine h2 _ _ ?_
 refine wp_ret ?_
 obtain rfl := hF
 exact fnOut1 (by simp) rfl Try.results62 hf hc (show look _ 2 = _ from rfl) ⟨rfl,hc⟩

def shift_flow (n : Int) : Bool :=
 (shift_in n 0 1000000000)
theorem shift_flow_ok {G : Pers} {Lf : List Ent} {w : World} (n : Int)   (hc : Ctx G (Lf) w) {res : Bool} (hF : shift_flow n = res) : Calls Try.prog 63 #[.int .i64 n] w (fun e w => e = .returned (.bool res) ∧ Ctx G (Lf) w) := by
 unfold shift_flow at hF
 refine fnIn (args := [.int .i64 n]) Try.func63 rfl Try.ntmps63 rfl fun a hf => wp_seq_k fun K1 h1 => cReg ?_
 refine stP hf rfl rfl rfl (pA rfl) fun a hf => cNil ?_
 refine h1 _ _ ?_
 refine wp_seq_k fun K2 h2 => cReg ?_
 refine stP hf rfl rfl rfl (pM rfl) fun a hf => stE hf hc rfl rfl rfl (eC (v := .bool (shift_in n 0 1000000000)) (vs := [.int .i64 n,.int .i64 0,.int .i64 1000000000]) (caps := []) en_59 rfl rfl rfl rfl (fun w hc => shift_in_ok n 0 1000000000 hc rfl)) fun a w hf hc => stP hf rfl rfl rfl (pA rfl) fun a hf => cNil ?_
 refine h2 _ _ ?_
 refine wp_ret ?_
 obtain rfl := hF
 exact fnOut1 (by simp) rfl Try.results63 hf hc (show look _ 2 = _ from rfl) ⟨rfl,hc⟩

def shift_rated_1 (m : shift_Mark) : Bool :=
 ((shift_stage m.Stage) && (shift_flow m.Flow))
theorem shift_rated_1_ok {G : Pers} {Lf : List Ent} {w : World} (m : shift_Mark)   (hc : Ctx G (Lf) w) {res : Bool} (hF : shift_rated_1 m = res) : Calls Try.prog 101 #[.agg #[.int .i64 m.Stage,.int .i64 m.Flow]] w (fun e w => e = .returned (.bool res) ∧ Ctx G (Lf) w) := by
 unfold shift_rated_1 at hF
 refine fnIn (args := [.agg #[.int .i64 m.Stage,.int .i64 m.Flow]]) Try.func101 rfl Try.ntmps101 rfl fun a hf => wp_seq_k fun K1 h1 => cReg ?_
 refine stBx (cs := [.int .i64 m.Stage,.int .i64 m.Flow]) hf hc rfl rfl rfl rfl fun b_1 a w hf hc => stP hf rfl rfl rfl (pA rfl) fun a hf => cNil ?_
 refine h1 _ _ ?_
 refine wp_seq_k fun K2 h2 => cReg ?_
 refine stP hf rfl rfl rfl (pFA fa_77_0 rfl) fun a hf => stE hf hc rfl rfl rfl (eLd1 sc_3 rfl (cell_box m0 rfl)) fun a w hf hc => stE hf hc rfl rfl rfl (eC (v := .bool (shift_stage m.Stage)) (vs := [.int .i64 m.Stage]) (caps := []) en_62 rfl rfl rfl rfl (fun w hc => shift_stage_ok m.Stage hc rfl)) fun a w hf hc => stP hf rfl rfl rfl (pM rfl) fun a hf => stCut 4 (fun a w => Has 11 a [(1,.pointer (some ⟨b_1,0,none⟩)),(2,.bool false),(3,.pointer (some ⟨b_1,0,none⟩)),(4,.int .i64 m.Stage),(5,.bool (shift_stage m.Stage)),(6,.bool (shift_stage m.Stage)),(10,.bool ((shift_stage m.Stage) && (shift_flow m.Flow)))] ∧ Ctx G (.box b_1 [.int .i64 m.Stage,.int .i64 m.Flow] 77::Lf) w) ?_ ?_
 ·cases hb : (shift_stage m.Stage)
  ·rw [hb] at hf
   refine stS hf rfl rfl rfl fun a hf => stS hf rfl rfl rfl fun a hf => stS hf rfl rfl rfl fun a hf => stP hf rfl rfl rfl (pPf rfl rfl) fun a hf => cNil ⟨hf.keep ⟨rfl,rfl,rfl,rfl,rfl,rfl,rfl,trivial⟩,hc⟩
  ·rw [hb] at hf
   refine stP hf rfl rfl rfl (pFA fa_77_1 rfl) fun a hf => stE hf hc rfl rfl rfl (eLd1 sc_3 rfl (cell_box m0 rfl)) fun a w hf hc => stE hf hc rfl rfl rfl (eC (v := .bool (shift_flow m.Flow)) (vs := [.int .i64 m.Flow]) (caps := []) en_63 rfl rfl rfl rfl (fun w hc => shift_flow_ok m.Flow hc rfl)) fun a w hf hc => stP hf rfl rfl rfl (pPt rfl rfl) fun a hf => cNil ⟨hf.keep ⟨rfl,rfl,rfl,rfl,rfl,rfl,rfl,trivial⟩,hc⟩
 intro a w ⟨hf,hc⟩
 refine stP hf rfl rfl rfl (pA rfl) fun a hf => cNil ?_
 refine h2 _ _ ?_
 refine wp_ret ?_
 obtain rfl := hF
 replace hc := hc.drop k0
 exact fnOut1 (by simp) rfl Try.results101 hf hc (show look _ 2 = _ from rfl) ⟨rfl,hc⟩

def shift_every_shift_Mark_1 (x : shift_Mark) : Bool :=
 (!(shift_rated_1 x))
theorem shift_every_shift_Mark_1_ok {G : Pers} {Lf : List Ent} {w : World} (x : shift_Mark) {b_ : Nat}  (hc : Ctx G (.box b_ [.func (.func 101) #[] #[]] 191::Lf) w) {res : Bool} (hF : shift_every_shift_Mark_1 x = res) : Calls Try.prog 134 #[.agg #[.int .i64 x.Stage,.int .i64 x.Flow],.pointer (some ⟨b_,0,none⟩)] w (fun e w => e = .returned (.bool res) ∧ Ctx G (.box b_ [.func (.func 101) #[] #[]] 191::Lf) w) := by
 unfold shift_every_shift_Mark_1 at hF
 refine fnIn (args := [.agg #[.int .i64 x.Stage,.int .i64 x.Flow],.pointer (some ⟨b_,0,none⟩)]) Try.func134 rfl Try.ntmps134 rfl fun a hf => wp_seq_k fun K1 h1 => cReg ?_
 refine stBx (cs := [.int .i64 x.Stage,.int .i64 x.Flow]) hf hc rfl rfl rfl rfl fun b_1 a w hf hc => stP hf rfl rfl rfl (pA rfl) fun a hf => cNil ?_
 refine h1 _ _ ?_
 refine wp_seq_k fun K2 h2 => cReg ?_
 refine stE hf hc rfl rfl rfl (eLd1 sc_191 rfl (cell_box m1 rfl)) fun a w hf hc => stE hf hc rfl rfl rfl (eLdN (vs := [.int .i64 x.Stage,.int .i64 x.Flow]) ag_77 rfl rfl (cells_box (n := 2) m0 rfl)) fun a w hf hc => stE hf hc rfl rfl rfl (eC (v := .bool (shift_rated_1 x)) (vs := [.agg #[.int .i64 x.Stage,.int .i64 x.Flow]]) (caps := []) en_101 rfl rfl rfl rfl (fun w hc => shift_rated_1_ok x hc rfl)) fun a w hf hc => stP hf rfl rfl rfl (pNot rfl) fun a hf => stP hf rfl rfl rfl (pA rfl) fun a hf => cNil ?_
 refine h2 _ _ ?_
 refine wp_ret ?_
 obtain rfl := hF
 replace hc := hc.drop k0
 exact fnOut1 (by simp) rfl Try.results134 hf hc (show look _ 3 = _ from rfl) ⟨rfl,hc⟩

def slices_IndexFunc_Lshift_Mark_shift_Mark_b4 (N : Nat) (s_ : List shift_Mark) (x : Int) : Option (Step (Int) (Int)) :=
 cond (decide (x < ((s_.length : Nat) : Int)))
 (Option.bind (getI s_ x) fun e_1 =>
 cond (shift_every_shift_Mark_1 e_1)
 (some (.ret x))
 (some (.cont (W (x + 1)))))
 (some (.brk x))
def slices_IndexFunc_Lshift_Mark_shift_Mark (N : Nat) (s_ : List shift_Mark) : Option (Int) :=
 Option.bind (loopO (fun s4 => slices_IndexFunc_Lshift_Mark_shift_Mark_b4 N s_ s4) N 0) fun x4 =>
 exK x4 (fun s4 => some (-1)) some
theorem slices_IndexFunc_Lshift_Mark_shift_Mark_ok {N : Nat} {G : Pers} {Lf : List Ent} {w : World} (s_ : List shift_Mark) {s__p : Option Addr} {s__c : Nat} {b_ : Nat} (h_s_ : Rd G 2 s__p s__c (s_.map enc_shift_Mark)) (hc : Ctx G (.box b_ [.func (.func 101) #[] #[]] 191::Lf) w) {res : Int} (hF : slices_IndexFunc_Lshift_Mark_shift_Mark N s_ = some res) : Calls Try.prog 105 #[.slice s__p s_.length s__c,.func (.func 134) #[] #[.pointer (some ⟨b_,0,none⟩)]] w (fun e w => e = .returned (.int .i64 res) ∧ Ctx G (.box b_ [.func (.func 101) #[] #[]] 191::Lf) w) := by
 unfold slices_IndexFunc_Lshift_Mark_shift_Mark at hF
 refine fnIn (args := [.slice s__p s_.length s__c,.func (.func 134) #[] #[.pointer (some ⟨b_,0,none⟩)]]) Try.func105 rfl Try.ntmps105 rfl fun a hf => wp_seq_k fun K1 h1 => cReg ?_
 refine stP hf rfl rfl rfl (pA rfl) fun a hf => cNil ?_
 refine h1 _ _ ?_
 refine wp_seq_k fun K2 h2 => wp_seq_k fun K3 h3 => cReg ?_
 refine stP hf rfl rfl rfl (pM rfl) fun a hf => stP hf rfl rfl rfl (pLenS Try.underlying22 rfl) fun a hf => stP hf rfl rfl rfl (pM rfl) fun a hf => cNil ?_
 refine h3 _ _ ?_
 refine wp_block ?_
 obtain ⟨x4,hx4,hF⟩ := bnd_some hF
 let S4 : Int → Act → World → Prop := (fun (zz : Int) a w => Has 19 a [(0,.slice s__p s_.length s__c),(1,.func (.func 134) #[] #[.pointer (some ⟨b_,0,none⟩)]),(7,.int .i64 ((s_.length : Nat) : Int)),(8,.int .i64 zz)] ∧ Ctx G (.box b_ [.func (.func 101) #[] #[]] 191::Lf) w)
 have hr4 : ∀ (zz : Int) a w,x4 = .go zz → S4 zz a w → K2 a w := by
  rintro x a w rfl ⟨hf,hc⟩
  replace hF := exK_go hF
  refine h2 _ _ ?_
  refine wp_seq_k fun K5 h5 => cReg ?_
  refine stP hf rfl rfl rfl (pA rfl) fun a hf => cNil ?_
  refine h5 _ _ ?_
  refine wp_ret ?_
  obtain rfl := Option.some.inj hF
  exact fnOut1 (by simp) rfl Try.results105 hf hc (show look _ 4 = _ from rfl) ⟨rfl,hc⟩
 have ho4 : ∀ r,x4 = .out r → r = res := by
  rintro r rfl
  exact Option.some.inj hF
 refine cLoop N (loopW (S := S4) (x := x4) ?_ N 0 _ _ ⟨hf.keep ⟨rfl,rfl,rfl,rfl,trivial⟩,hc⟩ hx4)
 clear hF hf hc
 rintro x st4 a w KB4 ⟨hf,hc⟩ hF hfin4 hK4
 unfold slices_IndexFunc_Lshift_Mark_shift_Mark_b4 at hF
 refine wp_seq_k fun K6 h6 => cReg ?_
 refine stP hf rfl rfl rfl (pLt rfl rfl) fun a hf => cNil ?_
 refine h6 _ _ ?_
 refine wp_seq_k fun K7 h7 => cCond (b := (decide (x < ((s_.length : Nat) : Int)))) hf rfl (fun hb => ?_) (fun hb => ?_)
 ·replace hF := condT hb hF
  clear hb
  refine wp_skip ?_
  refine h7 _ _ ?_
  refine wp_seq_k fun K8 h8 => wp_block ?_
  refine wp_seq_k fun K9 h9 => cReg ?_
  refine stP hf rfl rfl rfl (pM rfl) fun a hf => stP hf rfl rfl rfl (pA rfl) fun a hf => cNil ?_
  refine h9 _ _ ?_
  refine wp_seq_k fun K10 h10 => cReg ?_
  refine stP hf rfl rfl rfl (pM rfl) fun a hf => stP hf rfl rfl rfl (pM rfl) fun a hf => stP hf rfl rfl rfl (pM rfl) fun a hf => ?_
  obtain ⟨e_1,he_1,hF⟩ := bnd_some hF
  obtain ⟨b_1,o,qa,qp⟩ := h_s_.atm he_1
  refine stP hf rfl rfl rfl (pIA Try.underlying22 sz_77 rfl rfl qa) fun a hf => stE hf hc rfl rfl rfl (eLdN (vs := [.int .i64 e_1.Stage,.int .i64 e_1.Flow]) ag_77 rfl rfl (cells_pc qp (n := 2) (o' := 0) rfl)) fun a w hf hc => stE hf hc rfl rfl rfl (eC (v := .bool (shift_every_shift_Mark_1 e_1)) (vs := [.agg #[.int .i64 e_1.Stage,.int .i64 e_1.Flow]]) (caps := [.pointer (some ⟨b_,0,none⟩)]) en_134 rfl rfl rfl rfl (fun w hc => (shift_every_shift_Mark_1_ok e_1 (hc.pick k0) rfl).mono fun e w h => ⟨h.1,(h.2.unpick k0)⟩)) fun a w hf hc => cNil ?_
  refine h10 _ _ ?_
  refine cCond (b := (shift_every_shift_Mark_1 e_1)) hf rfl (fun hb => ?_) (fun hb => ?_)
  ·replace hF := condT hb hF
   clear hb
   refine wp_seq_k fun K11 h11 => cReg ?_
   refine stP hf rfl rfl rfl (pM rfl) fun a hf => stP hf rfl rfl rfl (pA rfl) fun a hf => cNil ?_
   refine h11 _ _ ?_
   refine wp_ret ?_
   refine xBlkR ?_
   refine xThenR ?_
   refine xThenR ?_
   have he := Option.some.inj hF
   rw [← he] at hfin4
   replace hF := ho4 _ hfin4
   refine xBlkR ?_
   refine xThenR ?_
   obtain rfl := hF
   exact fnOut1 (by simp) rfl Try.results105 hf hc (show look _ 4 = _ from rfl) ⟨rfl,hc⟩
  ·replace hF := condF hb hF
   clear hb
   refine wp_skip ?_
   refine h8 _ _ ?_
   refine cReg ?_
   refine stP hf rfl rfl rfl (pAdd rfl rfl) fun a hf => stP hf rfl rfl rfl (pM rfl) fun a hf => cNil ?_
   exact hK4 (W (x + 1)) _ _ (Option.some.inj hF).symm ⟨hf.keep ⟨rfl,rfl,rfl,rfl,trivial⟩,hc⟩
 ·replace hF := condF hb hF
  clear hb
  refine wp_exit ?_
  refine xThen ?_
  refine xThen ?_
  have he := Option.some.inj hF
  rw [← he] at hfin4
  refine cHit ?_
  exact hr4 _ _ _ hfin4 ⟨hf.keep ⟨rfl,rfl,rfl,rfl,trivial⟩,hc⟩

def slices_ContainsFunc_Lshift_Mark_shift_Mark (N : Nat) (s_ : List shift_Mark) : Option (Bool) :=
 Option.bind (slices_IndexFunc_Lshift_Mark_shift_Mark N s_) fun r =>
 some (decide (0 ≤ r))
theorem slices_ContainsFunc_Lshift_Mark_shift_Mark_ok {N : Nat} {G : Pers} {Lf : List Ent} {w : World} (s_ : List shift_Mark) {s__p : Option Addr} {s__c : Nat} {b_ : Nat} (h_s_ : Rd G 2 s__p s__c (s_.map enc_shift_Mark)) (hc : Ctx G (.box b_ [.func (.func 101) #[] #[]] 191::Lf) w) {res : Bool} (hF : slices_ContainsFunc_Lshift_Mark_shift_Mark N s_ = some res) : Calls Try.prog 133 #[.slice s__p s_.length s__c,.func (.func 134) #[] #[.pointer (some ⟨b_,0,none⟩)]] w (fun e w => e = .returned (.bool res) ∧ Ctx G (.box b_ [.func (.func 101) #[] #[]] 191::Lf) w) := by
 unfold slices_ContainsFunc_Lshift_Mark_shift_Mark at hF
 refine fnIn (args := [.slice s__p s_.length s__c,.func (.func 134) #[] #[.pointer (some ⟨b_,0,none⟩)]]) Try.func133 rfl Try.ntmps133 rfl fun a hf => wp_seq_k fun K1 h1 => cReg ?_
 refine stP hf rfl rfl rfl (pA rfl) fun a hf => cNil ?_
 refine h1 _ _ ?_
 refine wp_seq_k fun K2 h2 => cReg ?_
 refine stP hf rfl rfl rfl (pM rfl) fun a hf => stP hf rfl rfl rfl (pM rfl) fun a hf => ?_
 obtain ⟨r,hr,hF⟩ := bnd_some hF
 refine stE hf hc rfl rfl rfl (eC (v := .int .i64 r) (vs := [.slice s__p s_.length s__c,.func (.func 134) #[] #[.pointer (some ⟨b_,0,none⟩)]]) (caps := []) en_105 rfl rfl rfl rfl (fun w hc => (slices_IndexFunc_Lshift_Mark_shift_Mark_ok s_ h_s_ (hc.pick k0) hr).mono fun e w h => ⟨h.1,(h.2.unpick k0)⟩)) fun a w hf hc => stP hf rfl rfl rfl (pGe rfl rfl) fun a hf => stP hf rfl rfl rfl (pA rfl) fun a hf => cNil ?_
 refine h2 _ _ ?_
 refine wp_ret ?_
 obtain rfl := Option.some.inj hF
 exact fnOut1 (by simp) rfl Try.results133 hf hc (show look _ 4 = _ from rfl) ⟨rfl,hc⟩

def shift_every_shift_Mark (N : Nat) (l : List shift_Mark) : Option (Bool) :=
 Option.bind (slices_ContainsFunc_Lshift_Mark_shift_Mark N l) fun r =>
 some (!r)
theorem shift_every_shift_Mark_ok {N : Nat} {G : Pers} {Lf : List Ent} {w : World} (l : List shift_Mark) {l_p : Option Addr} {l_c : Nat} (h_l : Rd G 2 l_p l_c (l.map enc_shift_Mark)) (hc : Ctx G (Lf) w) {res : Bool} (hF : shift_every_shift_Mark N l = some res) : Calls Try.prog 100 #[.slice l_p l.length l_c,.func (.func 101) #[] #[]] w (fun e w => e = .returned (.bool res) ∧ Ctx G (Lf) w) := by
 unfold shift_every_shift_Mark at hF
 refine fnIn (args := [.slice l_p l.length l_c,.func (.func 101) #[] #[]]) Try.func100 rfl Try.ntmps100 rfl fun a hf => wp_seq_k fun K1 h1 => cReg ?_
 refine stBx (cs := [.func (.func 101) #[] #[]]) hf hc rfl rfl rfl rfl fun b_1 a w hf hc => stP hf rfl rfl rfl (pA rfl) fun a hf => cNil ?_
 refine h1 _ _ ?_
 refine wp_seq_k fun K2 h2 => cReg ?_
 refine stP hf rfl rfl rfl (pM rfl) fun a hf => stP hf rfl rfl rfl (pMF (us := [.pointer (some ⟨b_1,0,none⟩)]) rfl rfl) fun a hf => ?_
 obtain ⟨r,hr,hF⟩ := bnd_some hF
 refine stE hf hc rfl rfl rfl (eC (v := .bool r) (vs := [.slice l_p l.length l_c,.func (.func 134) #[] #[.pointer (some ⟨b_1,0,none⟩)]]) (caps := []) en_133 rfl rfl rfl rfl (fun w hc => (slices_ContainsFunc_Lshift_Mark_shift_Mark_ok l h_l (hc.pick k0) hr).mono fun e w h => ⟨h.1,(h.2.unpick k0)⟩)) fun a w hf hc => stP hf rfl rfl rfl (pNot rfl) fun a hf => stP hf rfl rfl rfl (pA rfl) fun a hf => cNil ?_
 refine h2 _ _ ?_
 refine wp_ret ?_
 obtain rfl := Option.some.inj hF
 replace hc := hc.drop k0
 exact fnOut1 (by simp) rfl Try.results100 hf hc (show look _ 4 = _ from rfl) ⟨rfl,hc⟩

def shift_rated (N : Nat) (l : List shift_Mark) : Option (Int) :=
 cond (!(shift_in ((l.length : Nat) : Int) 2 12))
 (some 3)
 (Option.bind (shift_every_shift_Mark N l) fun r =>
 cond (!r)
 (some 60)
 (some 0))
theorem shift_rated_ok {N : Nat} {G : Pers} {Lf : List Ent} {w : World} (l : List shift_Mark) {l_p : Option Addr} {l_c : Nat} (h_l : Rd G 2 l_p l_c (l.map enc_shift_Mark)) (hc : Ctx G (Lf) w) {res : Int} (hF : shift_rated N l = some res) : Calls Try.prog 58 #[.slice l_p l.length l_c] w (fun e w => e = .returned (.int .i64 res) ∧ Ctx G (Lf) w) := by
 unfold shift_rated at hF
 refine fnIn (args := [.slice l_p l.length l_c]) Try.func58 rfl Try.ntmps58 rfl fun a hf => wp_seq_k fun K1 h1 => cReg ?_
 refine stP hf rfl rfl rfl (pA rfl) fun a hf => cNil ?_
 refine h1 _ _ ?_
 refine wp_seq_k fun K2 h2 => wp_block ?_
 refine wp_seq_k fun K3 h3 => cReg ?_
 refine stP hf rfl rfl rfl (pM rfl) fun a hf => stP hf rfl rfl rfl (pLenS Try.underlying22 rfl) fun a hf => stE hf hc rfl rfl rfl (eC (v := .bool (shift_in ((l.length : Nat) : Int) 2 12)) (vs := [.int .i64 ((l.length : Nat) : Int),.int .i64 2,.int .i64 12]) (caps := []) en_59 rfl rfl rfl rfl (fun w hc => shift_in_ok ((l.length : Nat) : Int) 2 12 hc rfl)) fun a w hf hc => stP hf rfl rfl rfl (pNot rfl) fun a hf => stP hf rfl rfl rfl (pA rfl) fun a hf => cNil ?_
 refine h3 _ _ ?_
 refine cCond (b := (!(shift_in ((l.length : Nat) : Int) 2 12))) hf rfl (fun hb => ?_) (fun hb => ?_)
 ·replace hF := condT hb hF
  clear hb
  refine wp_seq_k fun K4 h4 => cReg ?_
  refine stP hf rfl rfl rfl (pA rfl) fun a hf => cNil ?_
  refine h4 _ _ ?_
  refine wp_ret ?_
  refine xBlkR ?_
  refine xThenR ?_
  obtain rfl := Option.some.inj hF
  exact fnOut1 (by simp) rfl Try.results58 hf hc (show look _ 2 = _ from rfl) ⟨rfl,hc⟩
 ·replace hF := condF hb hF
  clear hb
  refine wp_seq_k fun K5 h5 => cReg ?_
  refine stP hf rfl rfl rfl (pM rfl) fun a hf => ?_
  obtain ⟨r,hr,hF⟩ := bnd_some hF
  refine stE hf hc rfl rfl rfl (eC (v := .bool r) (vs := [.slice l_p l.length l_c,.func (.func 101) #[] #[]]) (caps := []) en_100 rfl rfl rfl rfl (fun w hc => shift_every_shift_Mark_ok l h_l hc hr)) fun a w hf hc => stP hf rfl rfl rfl (pNot rfl) fun a hf => stP hf rfl rfl rfl (pA rfl) fun a hf => cNil ?_
  refine h5 _ _ ?_
  refine cCond (b := (!r)) hf rfl (fun hb => ?_) (fun hb => ?_)
  ·replace hF := condT hb hF
   clear hb
   refine wp_seq_k fun K6 h6 => cReg ?_
   refine stP hf rfl rfl rfl (pA rfl) fun a hf => cNil ?_
   refine h6 _ _ ?_
   refine wp_ret ?_
   refine xBlkR ?_
   refine xThenR ?_
   obtain rfl := Option.some.inj hF
   exact fnOut1 (by simp) rfl Try.results58 hf hc (show look _ 2 = _ from rfl) ⟨rfl,hc⟩
  ·replace hF := condF hb hF
   clear hb
   refine wp_skip ?_
   refine h2 _ _ ?_
   refine wp_seq_k fun K7 h7 => cReg ?_
   refine stP hf rfl rfl rfl (pA rfl) fun a hf => cNil ?_
   refine h7 _ _ ?_
   refine wp_ret ?_
   obtain rfl := Option.some.inj hF
   exact fnOut1 (by simp) rfl Try.results58 hf hc (show look _ 2 = _ from rfl) ⟨rfl,hc⟩

def shift_rises_b4 (N : Nat) (l : List shift_Mark) (sub : List shift_Mark) (x : Int) : Option (Step (Int) (Bool)) :=
 cond (decide (x < ((sub.length : Nat) : Int)))
 (Option.bind (getI l (W (x + 1))) fun e_1 =>
 Option.bind (getI l x) fun e_2 =>
 Option.bind (cond (decide (e_1.Stage ≤ e_2.Stage)) (some true) (Option.bind (getI l (W (x + 1))) fun e_3 =>
 Option.bind (getI l x) fun e_4 =>
 some (decide (e_3.Flow ≤ e_4.Flow)))) fun t_1 =>
 cond t_1
 (some (.ret false))
 (some (.cont (W (x + 1)))))
 (some (.brk x))
def shift_rises (N : Nat) (l : List shift_Mark) : Option (Bool) :=
 Option.bind (subO l 1 ((l.length : Nat) : Int)) fun sub =>
 Option.bind (loopO (fun s4 => shift_rises_b4 N l sub s4) N 0) fun x4 =>
 exK x4 (fun s4 => some true) some
theorem shift_rises_ok {N : Nat} {G : Pers} {Lf : List Ent} {w : World} (l : List shift_Mark) {l_p : Option Addr} {l_c : Nat} (h_l : Rd G 2 l_p l_c (l.map enc_shift_Mark)) (hc : Ctx G (Lf) w) {res : Bool} (hF : shift_rises N l = some res) : Calls Try.prog 64 #[.slice l_p l.length l_c] w (fun e w => e = .returned (.bool res) ∧ Ctx G (Lf) w) := by
 unfold shift_rises at hF
 refine fnIn (args := [.slice l_p l.length l_c]) Try.func64 rfl Try.ntmps64 rfl fun a hf => wp_seq_k fun K1 h1 => cReg ?_
 refine stP hf rfl rfl rfl (pA rfl) fun a hf => cNil ?_
 refine h1 _ _ ?_
 refine wp_seq_k fun K2 h2 => wp_seq_k fun K3 h3 => cReg ?_
 refine stP hf rfl rfl rfl (pM rfl) fun a hf => ?_
 obtain ⟨sub,hsub,hF⟩ := bnd_some hF
 have qs := Rd.sub h_l hsub
 refine stP hf rfl rfl rfl (pSl Try.underlying22 sz_77 rfl rfl (by simpa using h_l.1) rfl rfl hsub) fun a hf => stP hf rfl rfl rfl (pLenS Try.underlying22 rfl) fun a hf => stP hf rfl rfl rfl (pM rfl) fun a hf => cNil ?_
 refine h3 _ _ ?_
 refine wp_block ?_
 obtain ⟨x4,hx4,hF⟩ := bnd_some hF
 let S4 : Int → Act → World → Prop := (fun (zz : Int) a w => Has 37 a [(0,.slice l_p l.length l_c),(6,.int .i64 ((sub.length : Nat) : Int)),(7,.int .i64 zz)] ∧ Ctx G (Lf) w)
 have hr4 : ∀ (zz : Int) a w,x4 = .go zz → S4 zz a w → K2 a w := by
  rintro x a w rfl ⟨hf,hc⟩
  replace hF := exK_go hF
  refine h2 _ _ ?_
  refine wp_seq_k fun K5 h5 => cReg ?_
  refine stP hf rfl rfl rfl (pA rfl) fun a hf => cNil ?_
  refine h5 _ _ ?_
  refine wp_ret ?_
  obtain rfl := Option.some.inj hF
  exact fnOut1 (by simp) rfl Try.results64 hf hc (show look _ 2 = _ from rfl) ⟨rfl,hc⟩
 have ho4 : ∀ r,x4 = .out r → r = res := by
  rintro r rfl
  exact Option.some.inj hF
 refine cLoop N (loopW (S := S4) (x := x4) ?_ N 0 _ _ ⟨hf.keep ⟨rfl,rfl,rfl,trivial⟩,hc⟩ hx4)
 clear hF hf hc
 rintro x st4 a w KB4 ⟨hf,hc⟩ hF hfin4 hK4
 unfold shift_rises_b4 at hF
 refine wp_seq_k fun K6 h6 => cReg ?_
 refine stP hf rfl rfl rfl (pLt rfl rfl) fun a hf => cNil ?_
 refine h6 _ _ ?_
 refine wp_seq_k fun K7 h7 => cCond (b := (decide (x < ((sub.length : Nat) : Int)))) hf rfl (fun hb => ?_) (fun hb => ?_)
 ·replace hF := condT hb hF
  clear hb
  refine wp_skip ?_
  refine h7 _ _ ?_
  refine wp_seq_k fun K8 h8 => wp_block ?_
  refine wp_seq_k fun K9 h9 => cReg ?_
  refine stP hf rfl rfl rfl (pM rfl) fun a hf => stP hf rfl rfl rfl (pA rfl) fun a hf => cNil ?_
  refine h9 _ _ ?_
  refine wp_seq_k fun K10 h10 => ?_
  obtain ⟨e_1,he_1,hF⟩ := bnd_some hF
  obtain ⟨b_1,o,qa,qp⟩ := h_l.atm he_1
  obtain ⟨e_2,he_2,hF⟩ := bnd_some hF
  obtain ⟨b_2,o_1,qa_1,qp_1⟩ := h_l.atm he_2
  obtain ⟨t_1,ht_1,hF⟩ := bnd_some hF
  refine cQ hc follows_mx (by kernel_rfl) ?_
  refine qE hf rfl rfl rfl (Pu.ev (pM rfl)) fun a hf => qE hf rfl rfl rfl (Pu.ev (pM rfl)) fun a hf => qE hf rfl rfl rfl (Pu.ev (pAdd rfl rfl)) fun a hf => qE hf rfl rfl rfl (Pu.ev (pIA Try.underlying22 sz_77 rfl rfl qa)) fun a hf => qE hf rfl rfl rfl (Pu.ev (pFA fa_77_0 rfl)) fun a hf => qE hf rfl rfl rfl (eLd1 sc_3 rfl (cell_pc (j := 0) qp rfl)) fun a hf => qE hf rfl rfl rfl (Pu.ev (pM rfl)) fun a hf => qE hf rfl rfl rfl (Pu.ev (pM rfl)) fun a hf => qE hf rfl rfl rfl (Pu.ev (pIA Try.underlying22 sz_77 rfl rfl qa_1)) fun a hf => qE hf rfl rfl rfl (Pu.ev (pFA fa_77_0 rfl)) fun a hf => qE hf rfl rfl rfl (eLd1 sc_3 rfl (cell_pc (j := 0) qp_1 rfl)) fun a hf => qE hf rfl rfl rfl (Pu.ev (pLe rfl rfl)) fun a hf => qE hf rfl rfl rfl (Pu.ev (pM rfl)) fun a hf => ?_
  refine qCut 13 (fun a => Has 37 a [(0,.slice l_p l.length l_c),(6,.int .i64 ((sub.length : Nat) : Int)),(7,.int .i64 x),(3,.int .i64 x),(10,.slice l_p l.length l_c),(11,.int .i64 x),(12,.int .i64 (W (x + 1))),(13,.pointer (some ⟨b_1,o,none⟩)),(14,.pointer (some ⟨b_1,o + 0,none⟩)),(15,.int .i64 e_1.Stage),(16,.slice l_p l.length l_c),(17,.int .i64 x),(18,.pointer (some ⟨b_2,o_1,none⟩)),(19,.pointer (some ⟨b_2,o_1 + 0,none⟩)),(20,.int .i64 e_2.Stage),(21,.bool (decide (e_1.Stage ≤ e_2.Stage))),(22,.bool (decide (e_1.Stage ≤ e_2.Stage))),(35,.bool t_1)]) ?_ ?_
  ·cases hb : (decide (e_1.Stage ≤ e_2.Stage))
   ·rw [hb] at hf
    have hF := condF hb ht_1
    obtain ⟨e_3,he_3,hF⟩ := bnd_some hF
    obtain ⟨b_3,o_2,qa_2,qp_2⟩ := h_l.atm he_3
    obtain ⟨e_4,he_4,hF⟩ := bnd_some hF
    obtain ⟨b_4,o_3,qa_3,qp_3⟩ := h_l.atm he_4
    refine qE hf rfl rfl rfl (Pu.ev (pM rfl)) fun a hf => qE hf rfl rfl rfl (Pu.ev (pM rfl)) fun a hf => qE hf rfl rfl rfl (Pu.ev (pAdd rfl rfl)) fun a hf => qE hf rfl rfl rfl (Pu.ev (pIA Try.underlying22 sz_77 rfl rfl qa_2)) fun a hf => qE hf rfl rfl rfl (Pu.ev (pFA fa_77_1 rfl)) fun a hf => qE hf rfl rfl rfl (eLd1 sc_3 rfl (cell_pc (j := 1) qp_2 rfl)) fun a hf => qE hf rfl rfl rfl (Pu.ev (pM rfl)) fun a hf => qE hf rfl rfl rfl (Pu.ev (pM rfl)) fun a hf => qE hf rfl rfl rfl (Pu.ev (pIA Try.underlying22 sz_77 rfl rfl qa_3)) fun a hf => qE hf rfl rfl rfl (Pu.ev (pFA fa_77_1 rfl)) fun a hf => qE hf rfl rfl rfl (eLd1 sc_3 rfl (cell_pc (j := 1) qp_3 rfl)) fun a hf => qE hf rfl rfl rfl (Pu.ev (pLe rfl rfl)) fun a hf => qE hf rfl rfl rfl (Pu.ev (pPf rfl rfl)) fun a hf => ?_
    obtain rfl := Option.some.inj hF
    exact qNil (hf.keep ⟨rfl,rfl,rfl,rfl,rfl,rfl,rfl,rfl,rfl,rfl,rfl,rfl,rfl,rfl,rfl,rfl,rfl,rfl,trivial⟩)
   ·rw [hb] at hf
    have hF := condT hb ht_1
    obtain rfl := Option.some.inj hF
    refine qS hf rfl rfl rfl fun a hf => qS hf rfl rfl rfl fun a hf => qS hf rfl rfl rfl fun a hf => qS hf rfl rfl rfl fun a hf => qS hf rfl rfl rfl fun a hf => qS hf rfl rfl rfl fun a hf => qS hf rfl rfl rfl fun a hf => qS hf rfl rfl rfl fun a hf => qS hf rfl rfl rfl fun a hf => qS hf rfl rfl rfl fun a hf => qS hf rfl rfl rfl fun a hf => qS hf rfl rfl rfl fun a hf => qE hf rfl rfl rfl (Pu.ev (pPt rfl rfl)) fun a hf => ?_
    exact qNil (hf.keep ⟨rfl,rfl,rfl,rfl,rfl,rfl,rfl,rfl,rfl,rfl,rfl,rfl,rfl,rfl,rfl,rfl,rfl,rfl,trivial⟩)
  intro a hf
  intro w hc
  refine h10 _ _ ?_
  refine cCond (b := t_1) hf rfl (fun hb => ?_) (fun hb => ?_)
  ·replace hF := condT hb hF
   clear hb
   refine wp_seq_k fun K11 h11 => cReg ?_
   refine stP hf rfl rfl rfl (pA rfl) fun a hf => cNil ?_
   refine h11 _ _ ?_
   refine wp_ret ?_
   refine xBlkR ?_
   refine xThenR ?_
   refine xThenR ?_
   have he := Option.some.inj hF
   rw [← he] at hfin4
   replace hF := ho4 _ hfin4
   refine xBlkR ?_
   refine xThenR ?_
   obtain rfl := hF
   exact fnOut1 (by simp) rfl Try.results64 hf hc (show look _ 2 = _ from rfl) ⟨rfl,hc⟩
  ·replace hF := condF hb hF
   clear hb
   refine wp_skip ?_
   refine h8 _ _ ?_
   refine cReg ?_
   refine stP hf rfl rfl rfl (pAdd rfl rfl) fun a hf => stP hf rfl rfl rfl (pM rfl) fun a hf => cNil ?_
   exact hK4 (W (x + 1)) _ _ (Option.some.inj hF).symm ⟨hf.keep ⟨rfl,rfl,rfl,trivial⟩,hc⟩
 ·replace hF := condF hb hF
  clear hb
  refine wp_exit ?_
  refine xThen ?_
  refine xThen ?_
  have he := Option.some.inj hF
  rw [← he] at hfin4
  refine cHit ?_
  exact hr4 _ _ _ hfin4 ⟨hf.keep ⟨rfl,rfl,rfl,trivial⟩,hc⟩

def shift_asked (N : Nat) (l : List shift_Mark) (at_ : Int) (shift : Int) : Option (Int) :=
 Option.bind (shift_rated N l) fun r =>
 cond (r != 0)
 (some r)
 (Option.bind (shift_rises N l) fun r_1 =>
 cond (!r_1)
 (some 9)
 (cond ((!(shift_stage at_)) || (!(shift_in shift (-300) 300)))
 (some 4)
 (some 0)))
theorem shift_asked_ok {N : Nat} {G : Pers} {Lf : List Ent} {w : World} (l : List shift_Mark) (at_ : Int) (shift : Int) {l_p : Option Addr} {l_c : Nat} (h_l : Rd G 2 l_p l_c (l.map enc_shift_Mark)) (hc : Ctx G (Lf) w) {res : Int} (hF : shift_asked N l at_ shift = some res) : Calls Try.prog 68 #[.slice l_p l.length l_c,.int .i64 at_,.int .i64 shift] w (fun e w => e = .returned (.int .i64 res) ∧ Ctx G (Lf) w) := by
 unfold shift_asked at hF
 refine fnIn (args := [.slice l_p l.length l_c,.int .i64 at_,.int .i64 shift]) Try.func68 rfl Try.ntmps68 rfl fun a hf => wp_seq_k fun K1 h1 => cReg ?_
 refine stP hf rfl rfl rfl (pA rfl) fun a hf => cNil ?_
 refine h1 _ _ ?_
 refine wp_seq_k fun K2 h2 => cReg ?_
 refine stP hf rfl rfl rfl (pM rfl) fun a hf => ?_
 obtain ⟨r,hr,hF⟩ := bnd_some hF
 refine stE hf hc rfl rfl rfl (eC (v := .int .i64 r) (vs := [.slice l_p l.length l_c]) (caps := []) en_58 rfl rfl rfl rfl (fun w hc => shift_rated_ok l h_l hc hr)) fun a w hf hc => stP hf rfl rfl rfl (pA rfl) fun a hf => cNil ?_
 refine h2 _ _ ?_
 refine wp_seq_k fun K3 h3 => wp_block ?_
 refine wp_seq_k fun K4 h4 => cReg ?_
 refine stP hf rfl rfl rfl (pM rfl) fun a hf => stP hf rfl rfl rfl (pNe rfl rfl) fun a hf => stP hf rfl rfl rfl (pA rfl) fun a hf => cNil ?_
 refine h4 _ _ ?_
 refine cCond (b := (r != 0)) hf rfl (fun hb => ?_) (fun hb => ?_)
 ·replace hF := condT hb hF
  clear hb
  refine wp_seq_k fun K5 h5 => cReg ?_
  refine stP hf rfl rfl rfl (pM rfl) fun a hf => stP hf rfl rfl rfl (pA rfl) fun a hf => cNil ?_
  refine h5 _ _ ?_
  refine wp_ret ?_
  refine xBlkR ?_
  refine xThenR ?_
  obtain rfl := Option.some.inj hF
  exact fnOut1 (by simp) rfl Try.results68 hf hc (show look _ 6 = _ from rfl) ⟨rfl,hc⟩
 ·replace hF := condF hb hF
  clear hb
  refine wp_seq_k fun K6 h6 => cReg ?_
  refine stP hf rfl rfl rfl (pM rfl) fun a hf => ?_
  obtain ⟨r_1,hr_1,hF⟩ := bnd_some hF
  refine stE hf hc rfl rfl rfl (eC (v := .bool r_1) (vs := [.slice l_p l.length l_c]) (caps := []) en_64 rfl rfl rfl rfl (fun w hc => shift_rises_ok l h_l hc hr_1)) fun a w hf hc => stP hf rfl rfl rfl (pNot rfl) fun a hf => stP hf rfl rfl rfl (pA rfl) fun a hf => cNil ?_
  refine h6 _ _ ?_
  refine cCond (b := (!r_1)) hf rfl (fun hb => ?_) (fun hb => ?_)
  ·replace hF := condT hb hF
   clear hb
   refine wp_seq_k fun K7 h7 => cReg ?_
   refine stP hf rfl rfl rfl (pA rfl) fun a hf => cNil ?_
   refine h7 _ _ ?_
   refine wp_ret ?_
   refine xBlkR ?_
   refine xThenR ?_
   obtain rfl := Option.some.inj hF
   exact fnOut1 (by simp) rfl Try.results68 hf hc (show look _ 6 = _ from rfl) ⟨rfl,hc⟩
  ·replace hF := condF hb hF
   clear hb
   refine wp_seq_k fun K8 h8 => cReg ?_
   refine stP hf rfl rfl rfl (pM rfl) fun a hf => stE hf hc rfl rfl rfl (eC (v := .bool (shift_stage at_)) (vs := [.int .i64 at_]) (caps := []) en_62 rfl rfl rfl rfl (fun w hc => shift_stage_ok at_ hc rfl)) fun a w hf hc => stP hf rfl rfl rfl (pNot rfl) fun a hf => stP hf rfl rfl rfl (pM rfl) fun a hf => stCut 4 (fun a w => Has 27 a [(1,.int .i64 at_),(2,.int .i64 shift),(19,.int .i64 at_),(20,.bool (shift_stage at_)),(21,.bool (!(shift_stage at_))),(22,.bool (!(shift_stage at_))),(26,.bool ((!(shift_stage at_)) || (!(shift_in shift (-300) 300))))] ∧ Ctx G (Lf) w) ?_ ?_
   ·cases hb : (!(shift_stage at_))
    ·rw [hb] at hf
     refine stP hf rfl rfl rfl (pM rfl) fun a hf => stE hf hc rfl rfl rfl (eC (v := .bool (shift_in shift (-300) 300)) (vs := [.int .i64 shift,.int .i64 (-300),.int .i64 300]) (caps := []) en_59 rfl rfl rfl rfl (fun w hc => shift_in_ok shift (-300) 300 hc rfl)) fun a w hf hc => stP hf rfl rfl rfl (pNot rfl) fun a hf => stP hf rfl rfl rfl (pPf rfl rfl) fun a hf => cNil ⟨hf.keep ⟨rfl,rfl,rfl,rfl,rfl,rfl,rfl,trivial⟩,hc⟩
    ·rw [hb] at hf
     refine stS hf rfl rfl rfl fun a hf => stS hf rfl rfl rfl fun a hf => stS hf rfl rfl rfl fun a hf => stP hf rfl rfl rfl (pPt rfl rfl) fun a hf => cNil ⟨hf.keep ⟨rfl,rfl,rfl,rfl,rfl,rfl,rfl,trivial⟩,hc⟩
   intro a w ⟨hf,hc⟩
   refine stP hf rfl rfl rfl (pA rfl) fun a hf => cNil ?_
   refine h8 _ _ ?_
   refine cCond (b := ((!(shift_stage at_)) || (!(shift_in shift (-300) 300)))) hf rfl (fun hb => ?_) (fun hb => ?_)
   ·replace hF := condT hb hF
    clear hb
    refine wp_seq_k fun K9 h9 => cReg ?_
    refine stP hf rfl rfl rfl (pA rfl) fun a hf => cNil ?_
    refine h9 _ _ ?_
    refine wp_ret ?_
    refine xBlkR ?_
    refine xThenR ?_
    obtain rfl := Option.some.inj hF
    exact fnOut1 (by simp) rfl Try.results68 hf hc (show look _ 6 = _ from rfl) ⟨rfl,hc⟩
   ·replace hF := condF hb hF
    clear hb
    refine wp_skip ?_
    refine h3 _ _ ?_
    refine wp_seq_k fun K10 h10 => cReg ?_
    refine stP hf rfl rfl rfl (pA rfl) fun a hf => cNil ?_
    refine h10 _ _ ?_
    refine wp_ret ?_
    obtain rfl := Option.some.inj hF
    exact fnOut1 (by simp) rfl Try.results68 hf hc (show look _ 6 = _ from rfl) ⟨rfl,hc⟩

def shift_means_2 (m : shift_Mark) (x : Int) : Bool :=
 (decide (x < m.Stage))
theorem shift_means_2_ok {G : Pers} {Lf : List Ent} {w : World} (m : shift_Mark) (x : Int) {b_ : Nat}  (hc : Ctx G (.box b_ [.int .i64 x] 3::Lf) w) {res : Bool} (hF : shift_means_2 m x = res) : Calls Try.prog 106 #[.agg #[.int .i64 m.Stage,.int .i64 m.Flow],.pointer (some ⟨b_,0,none⟩)] w (fun e w => e = .returned (.bool res) ∧ Ctx G (.box b_ [.int .i64 x] 3::Lf) w) := by
 unfold shift_means_2 at hF
 refine fnIn (args := [.agg #[.int .i64 m.Stage,.int .i64 m.Flow],.pointer (some ⟨b_,0,none⟩)]) Try.func106 rfl Try.ntmps106 rfl fun a hf => wp_seq_k fun K1 h1 => cReg ?_
 refine stBx (cs := [.int .i64 m.Stage,.int .i64 m.Flow]) hf hc rfl rfl rfl rfl fun b_1 a w hf hc => stP hf rfl rfl rfl (pA rfl) fun a hf => cNil ?_
 refine h1 _ _ ?_
 refine wp_seq_k fun K2 h2 => cReg ?_
 refine stP hf rfl rfl rfl (pFA fa_77_0 rfl) fun a hf => stE hf hc rfl rfl rfl (eLd1 sc_3 rfl (cell_box m0 rfl)) fun a w hf hc => stE hf hc rfl rfl rfl (eLd1 sc_3 rfl (cell_box m1 rfl)) fun a w hf hc => stP hf rfl rfl rfl (pGt rfl rfl) fun a hf => stP hf rfl rfl rfl (pA rfl) fun a hf => cNil ?_
 refine h2 _ _ ?_
 refine wp_ret ?_
 obtain rfl := hF
 replace hc := hc.drop k0
 exact fnOut1 (by simp) rfl Try.results106 hf hc (show look _ 3 = _ from rfl) ⟨rfl,hc⟩

def slices_IndexFunc_Lshift_Mark_shift_Mark_s2_b4 (N : Nat) (s_ : List shift_Mark) (f_ : Int) (x : Int) : Option (Step (Int) (Int)) :=
 cond (decide (x < ((s_.length : Nat) : Int)))
 (Option.bind (getI s_ x) fun e_1 =>
 cond (shift_means_2 e_1 f_)
 (some (.ret x))
 (some (.cont (W (x + 1)))))
 (some (.brk x))
def slices_IndexFunc_Lshift_Mark_shift_Mark_s2 (N : Nat) (s_ : List shift_Mark) (f_ : Int) : Option (Int) :=
 Option.bind (loopO (fun s4 => slices_IndexFunc_Lshift_Mark_shift_Mark_s2_b4 N s_ f_ s4) N 0) fun x4 =>
 exK x4 (fun s4 => some (-1)) some
theorem slices_IndexFunc_Lshift_Mark_shift_Mark_s2_ok {N : Nat} {G : Pers} {Lf : List Ent} {w : World} (s_ : List shift_Mark) (f_ : Int) {s__p : Option Addr} {s__c : Nat} {b_ : Nat} (h_s_ : Rd G 2 s__p s__c (s_.map enc_shift_Mark)) (hc : Ctx G (.box b_ [.int .i64 f_] 3::Lf) w) {res : Int} (hF : slices_IndexFunc_Lshift_Mark_shift_Mark_s2 N s_ f_ = some res) : Calls Try.prog 105 #[.slice s__p s_.length s__c,.func (.func 106) #[] #[.pointer (some ⟨b_,0,none⟩)]] w (fun e w => e = .returned (.int .i64 res) ∧ Ctx G (.box b_ [.int .i64 f_] 3::Lf) w) := by
 unfold slices_IndexFunc_Lshift_Mark_shift_Mark_s2 at hF
 refine fnIn (args := [.slice s__p s_.length s__c,.func (.func 106) #[] #[.pointer (some ⟨b_,0,none⟩)]]) Try.func105 rfl Try.ntmps105 rfl fun a hf => wp_seq_k fun K1 h1 => cReg ?_
 refine stP hf rfl rfl rfl (pA rfl) fun a hf => cNil ?_
 refine h1 _ _ ?_
 refine wp_seq_k fun K2 h2 => wp_seq_k fun K3 h3 => cReg ?_
 refine stP hf rfl rfl rfl (pM rfl) fun a hf => stP hf rfl rfl rfl (pLenS Try.underlying22 rfl) fun a hf => stP hf rfl rfl rfl (pM rfl) fun a hf => cNil ?_
 refine h3 _ _ ?_
 refine wp_block ?_
 obtain ⟨x4,hx4,hF⟩ := bnd_some hF
 let S4 : Int → Act → World → Prop := (fun (zz : Int) a w => Has 19 a [(0,.slice s__p s_.length s__c),(1,.func (.func 106) #[] #[.pointer (some ⟨b_,0,none⟩)]),(7,.int .i64 ((s_.length : Nat) : Int)),(8,.int .i64 zz)] ∧ Ctx G (.box b_ [.int .i64 f_] 3::Lf) w)
 have hr4 : ∀ (zz : Int) a w,x4 = .go zz → S4 zz a w → K2 a w := by
  rintro x a w rfl ⟨hf,hc⟩
  replace hF := exK_go hF
  refine h2 _ _ ?_
  refine wp_seq_k fun K5 h5 => cReg ?_
  refine stP hf rfl rfl rfl (pA rfl) fun a hf => cNil ?_
  refine h5 _ _ ?_
  refine wp_ret ?_
  obtain rfl := Option.some.inj hF
  exact fnOut1 (by simp) rfl Try.results105 hf hc (show look _ 4 = _ from rfl) ⟨rfl,hc⟩
 have ho4 : ∀ r,x4 = .out r → r = res := by
  rintro r rfl
  exact Option.some.inj hF
 refine cLoop N (loopW (S := S4) (x := x4) ?_ N 0 _ _ ⟨hf.keep ⟨rfl,rfl,rfl,rfl,trivial⟩,hc⟩ hx4)
 clear hF hf hc
 rintro x st4 a w KB4 ⟨hf,hc⟩ hF hfin4 hK4
 unfold slices_IndexFunc_Lshift_Mark_shift_Mark_s2_b4 at hF
 refine wp_seq_k fun K6 h6 => cReg ?_
 refine stP hf rfl rfl rfl (pLt rfl rfl) fun a hf => cNil ?_
 refine h6 _ _ ?_
 refine wp_seq_k fun K7 h7 => cCond (b := (decide (x < ((s_.length : Nat) : Int)))) hf rfl (fun hb => ?_) (fun hb => ?_)
 ·replace hF := condT hb hF
  clear hb
  refine wp_skip ?_
  refine h7 _ _ ?_
  refine wp_seq_k fun K8 h8 => wp_block ?_
  refine wp_seq_k fun K9 h9 => cReg ?_
  refine stP hf rfl rfl rfl (pM rfl) fun a hf => stP hf rfl rfl rfl (pA rfl) fun a hf => cNil ?_
  refine h9 _ _ ?_
  refine wp_seq_k fun K10 h10 => cReg ?_
  refine stP hf rfl rfl rfl (pM rfl) fun a hf => stP hf rfl rfl rfl (pM rfl) fun a hf => stP hf rfl rfl rfl (pM rfl) fun a hf => ?_
  obtain ⟨e_1,he_1,hF⟩ := bnd_some hF
  obtain ⟨b_1,o,qa,qp⟩ := h_s_.atm he_1
  refine stP hf rfl rfl rfl (pIA Try.underlying22 sz_77 rfl rfl qa) fun a hf => stE hf hc rfl rfl rfl (eLdN (vs := [.int .i64 e_1.Stage,.int .i64 e_1.Flow]) ag_77 rfl rfl (cells_pc qp (n := 2) (o' := 0) rfl)) fun a w hf hc => stE hf hc rfl rfl rfl (eC (v := .bool (shift_means_2 e_1 f_)) (vs := [.agg #[.int .i64 e_1.Stage,.int .i64 e_1.Flow]]) (caps := [.pointer (some ⟨b_,0,none⟩)]) en_106 rfl rfl rfl rfl (fun w hc => (shift_means_2_ok e_1 f_ (hc.pick k0) rfl).mono fun e w h => ⟨h.1,(h.2.unpick k0)⟩)) fun a w hf hc => cNil ?_
  refine h10 _ _ ?_
  refine cCond (b := (shift_means_2 e_1 f_)) hf rfl (fun hb => ?_) (fun hb => ?_)
  ·replace hF := condT hb hF
   clear hb
   refine wp_seq_k fun K11 h11 => cReg ?_
   refine stP hf rfl rfl rfl (pM rfl) fun a hf => stP hf rfl rfl rfl (pA rfl) fun a hf => cNil ?_
   refine h11 _ _ ?_
   refine wp_ret ?_
   refine xBlkR ?_
   refine xThenR ?_
   refine xThenR ?_
   have he := Option.some.inj hF
   rw [← he] at hfin4
   replace hF := ho4 _ hfin4
   refine xBlkR ?_
   refine xThenR ?_
   obtain rfl := hF
   exact fnOut1 (by simp) rfl Try.results105 hf hc (show look _ 4 = _ from rfl) ⟨rfl,hc⟩
  ·replace hF := condF hb hF
   clear hb
   refine wp_skip ?_
   refine h8 _ _ ?_
   refine cReg ?_
   refine stP hf rfl rfl rfl (pAdd rfl rfl) fun a hf => stP hf rfl rfl rfl (pM rfl) fun a hf => cNil ?_
   exact hK4 (W (x + 1)) _ _ (Option.some.inj hF).symm ⟨hf.keep ⟨rfl,rfl,rfl,rfl,trivial⟩,hc⟩
 ·replace hF := condF hb hF
  clear hb
  refine wp_exit ?_
  refine xThen ?_
  refine xThen ?_
  have he := Option.some.inj hF
  rw [← he] at hfin4
  refine cHit ?_
  exact hr4 _ _ _ hfin4 ⟨hf.keep ⟨rfl,rfl,rfl,rfl,trivial⟩,hc⟩

def shift_ratio_b4 (N : Nat) (a_1 : Int) (b_2 : Int) : Option (Step (Int × Int) (api_Ratio)) :=
 cond (b_2 != 0)
 (Option.bind (nz b_2) fun un_2 =>
 some (.cont (b_2,a_1.tmod b_2)))
 (some (.brk (a_1,b_2)))
def shift_ratio (N : Nat) (n : Int) (d : Int) : Option (api_Ratio) :=
 Option.bind (loopO (fun s4 => shift_ratio_b4 N s4.1 s4.2) N (max n (W (0 - n)),d)) fun x4 =>
 exK x4 (fun s4 => Option.bind (nz s4.1) fun un =>
 Option.bind (nz s4.1) fun un_1 =>
 some (⟨W (n.tdiv s4.1),W (d.tdiv s4.1)⟩ : api_Ratio)) some
theorem shift_ratio_ok {N : Nat} {G : Pers} {Lf : List Ent} {w : World} (n : Int) (d : Int)   (hc : Ctx G (Lf) w) {res : api_Ratio} (hF : shift_ratio N n d = some res) : Calls Try.prog 71 #[.int .i64 n,.int .i64 d] w (fun e w => e = .returned (.agg #[.int .i64 res.N,.int .i64 res.D]) ∧ Ctx G (Lf) w) := by
 unfold shift_ratio at hF
 refine fnIn (args := [.int .i64 n,.int .i64 d]) Try.func71 rfl Try.ntmps71 rfl fun a hf => wp_seq_k fun K1 h1 => cReg ?_
 refine stAl (cs := [.int .i64 0,.int .i64 0]) hf hc rfl rfl zr_37 rfl fun b_1 a w hf hc => cNil ?_
 refine h1 _ _ ?_
 refine wp_seq_k fun K2 h2 => cReg ?_
 refine stP hf rfl rfl rfl (pM rfl) fun a hf => stP hf rfl rfl rfl (pM rfl) fun a hf => stP hf rfl rfl rfl (pNeg rfl) fun a hf => stP hf rfl rfl rfl (pMax2 rfl rfl) fun a hf => stP hf rfl rfl rfl (pM rfl) fun a hf => stP hf rfl rfl rfl (pA rfl) fun a hf => stP hf rfl rfl rfl (pA rfl) fun a hf => cNil ?_
 refine h2 _ _ ?_
 refine wp_seq_k fun K3 h3 => wp_block ?_
 obtain ⟨x4,hx4,hF⟩ := bnd_some hF
 let S4 : (Int × Int) → Act → World → Prop := (fun (zz : Int × Int) a w => Has 25 a [(0,.int .i64 n),(1,.int .i64 d),(4,.pointer (some ⟨b_1,0,none⟩)),(5,.int .i64 zz.1),(6,.int .i64 zz.2)] ∧ Ctx G (.box b_1 [.int .i64 0,.int .i64 0] 37::Lf) w)
 have hr4 : ∀ (zz : Int × Int) a w,x4 = .go zz → S4 zz a w → K3 a w := by
  rintro ⟨a_1,b_2⟩ a w rfl ⟨hf,hc⟩
  replace hF := exK_go hF
  refine h3 _ _ ?_
  refine wp_seq_k fun K5 h5 => ?_
  obtain ⟨un,hun,hF⟩ := bnd_some hF
  obtain ⟨un_1,hun_1,hF⟩ := bnd_some hF
  refine regionE (fun θ => [⟨none,none,0,.int .i64 n⟩,⟨none,none,1,.int .i64 d⟩,⟨none,none,4,.pointer (some ⟨b_1,0,none⟩)⟩,⟨none,none,5,.int .i64 a_1⟩,⟨some 0,none,18,.int .i64 n⟩,⟨some 1,none,19,.int .i64 a_1⟩,⟨some 2,none,20,.int .i64 (W (n.tdiv a_1))⟩,⟨some 3,none,21,.int .i64 d⟩,⟨some 4,none,22,.int .i64 a_1⟩,⟨some 5,none,23,.int .i64 (W (d.tdiv a_1))⟩,⟨some 6,none,24,.agg #[.int .i64 (W (n.tdiv a_1)),.int .i64 (W (d.tdiv a_1))]⟩]) (fun E θ => (bif E 7 then .box b_1 [.int .i64 (W (n.tdiv a_1)),.int .i64 (W (d.tdiv a_1))] 37 else .box b_1 [.int .i64 0,.int .i64 0] 37)::Lf) [] (fun a w => Has 25 a [(4,.pointer (some ⟨b_1,0,none⟩))] ∧ Ctx G (.box b_1 [.int .i64 (W (n.tdiv a_1)),.int .i64 (W (d.tdiv a_1))] 37::Lf) w) follows_mx (by kernel_rfl) (by kernel_rfl) (HasE.of hf ⟨rfl,rfl,rfl,rfl,trivial,trivial,trivial,trivial,trivial,trivial,trivial,trivial⟩) hc ⟨?_,?_,?_,?_,?_,?_,?_,?_,trivial⟩ ?_ ?_
  ·intro E θ a w hD hi hp he hc
   have hf := he.h0
   replace hf := hf.more he 0 rfl onT
   refine stP hf rfl rfl rfl (pM rfl) fun a hf => cNil ?_
   refine xThenN ?_
   intro ds u hau
   refine ⟨θ,he.put0 hi hau hf rfl 4 rfl rfl,?_⟩
   exact hc
  ·intro E θ a w hD hi hp he hc
   have hf := he.h0
   replace hf := hf.more he 3 rfl onT
   refine stP hf rfl rfl rfl (pM rfl) fun a hf => cNil ?_
   refine xThenN ?_
   intro ds u hau
   refine ⟨θ,he.put0 hi hau hf rfl 5 rfl rfl,?_⟩
   exact hc
  ·intro E θ a w hD hi hp he hc
   have e0 := hp.of (k := 0) rfl
   have e1 := hp.of (k := 1) rfl
   have hf := he.h0
   replace hf := hf.more he 4 rfl (onP e0)
   replace hf := hf.more he 5 rfl (onP e1)
   refine stP hf rfl rfl rfl (pQuo rfl rfl (nz_spec hun)) fun a hf => cNil ?_
   refine xThenN ?_
   intro ds u hau
   refine ⟨θ,he.put0 hi hau hf rfl 6 rfl rfl,?_⟩
   exact hc
  ·intro E θ a w hD hi hp he hc
   have hf := he.h0
   replace hf := hf.more he 1 rfl onT
   refine stP hf rfl rfl rfl (pM rfl) fun a hf => cNil ?_
   refine xThenN ?_
   intro ds u hau
   refine ⟨θ,he.put0 hi hau hf rfl 7 rfl rfl,?_⟩
   exact hc
  ·intro E θ a w hD hi hp he hc
   have hf := he.h0
   replace hf := hf.more he 3 rfl onT
   refine stP hf rfl rfl rfl (pM rfl) fun a hf => cNil ?_
   refine xThenN ?_
   intro ds u hau
   refine ⟨θ,he.put0 hi hau hf rfl 8 rfl rfl,?_⟩
   exact hc
  ·intro E θ a w hD hi hp he hc
   have e3 := hp.of (k := 3) rfl
   have e4 := hp.of (k := 4) rfl
   have hf := he.h0
   replace hf := hf.more he 7 rfl (onP e3)
   replace hf := hf.more he 8 rfl (onP e4)
   refine stP hf rfl rfl rfl (pQuo rfl rfl (nz_spec hun_1)) fun a hf => cNil ?_
   refine xThenN ?_
   intro ds u hau
   refine ⟨θ,he.put0 hi hau hf rfl 9 rfl rfl,?_⟩
   exact hc
  ·intro E θ a w hD hi hp he hc
   have e2 := hp.of (k := 2) rfl
   have e5 := hp.of (k := 5) rfl
   have hf := he.h0
   replace hf := hf.more he 6 rfl (onP e2)
   replace hf := hf.more he 9 rfl (onP e5)
   refine stP hf rfl rfl rfl (pBuildS (cells := [.int .i64 (W (n.tdiv a_1)),.int .i64 (W (d.tdiv a_1))]) bt_37 rfl rfl) fun a hf => cNil ?_
   refine xThenN ?_
   intro ds u hau
   refine ⟨θ,he.put0 hi hau hf rfl 10 rfl rfl,?_⟩
   exact hc
  ·intro E θ a w hD hi hp he hc
   have e6 := hp.of (k := 6) rfl
   try dsimp only at hc
   rw [hi] at hc
   have hf := he.h0
   replace hf := hf.more he 2 rfl onT
   replace hf := hf.more he 10 rfl (onP e6)
   refine stSt (vs := [.int .i64 (W (n.tdiv a_1)),.int .i64 (W (d.tdiv a_1))]) hf hc rfl rfl rfl rfl sz_37 rfl rfl u0 fun w hc => cNil ?_
   refine xThenN ?_
   intro ds u hau
   refine ⟨θ,he.stay0 hi hau hf rfl,?_⟩
   try dsimp only
   rw [updE_self E 7]
   exact hc
  ·intro E θ a w hall he hc
   have hf := he.h0
   have e7 := hall 7 rfl
   replace hf := hf.more he 2 rfl (onT)
   try dsimp only at hc
   rw [e7] at hc
   exact ⟨hf.keep ⟨rfl,trivial⟩,hc⟩
  rintro a w ⟨hf,hc⟩
  refine h5 _ _ ?_
  refine wp_ret ?_
  obtain rfl := Option.some.inj hF
  exact fnOut1 (by simp) rfl Try.results71 hf hc (rv_cellN (vs := [.int .i64 (W (n.tdiv a_1)),.int .i64 (W (d.tdiv a_1))]) ag_37 rfl rfl (cells_box (n := 2) m0 rfl)) ⟨rfl,(hc.drop k0)⟩
 have ho4 : ∀ r,x4 = .out r → r = res := by
  rintro r rfl
  exact Option.some.inj hF
 refine cLoop N (loopW (S := S4) (x := x4) ?_ N (max n (W (0 - n)),d) _ _ ⟨hf.keep ⟨rfl,rfl,rfl,rfl,rfl,trivial⟩,hc⟩ hx4)
 clear hF hf hc
 rintro ⟨a_1,b_2⟩ st4 a w KB4 ⟨hf,hc⟩ hF hfin4 hK4
 unfold shift_ratio_b4 at hF
 refine wp_seq_k fun K6 h6 => wp_seq_k fun K7 h7 => cReg ?_
 refine stP hf rfl rfl rfl (pM rfl) fun a hf => stP hf rfl rfl rfl (pNe rfl rfl) fun a hf => cNil ?_
 refine h7 _ _ ?_
 refine cCond (b := (b_2 != 0)) hf rfl (fun hb => ?_) (fun hb => ?_)
 ·replace hF := condT hb hF
  clear hb
  refine wp_skip ?_
  refine h6 _ _ ?_
  refine wp_thenK fun K8 h8 => wp_block ?_
  obtain ⟨un_2,hun_2,hF⟩ := bnd_some hF
  refine cQ hc follows_mx (by kernel_rfl) ?_
  refine qE hf rfl rfl rfl (Pu.ev (pM rfl)) fun a hf => qE hf rfl rfl rfl (Pu.ev (pM rfl)) fun a hf => qE hf rfl rfl rfl (Pu.ev (pM rfl)) fun a hf => qE hf rfl rfl rfl (Pu.ev (pRem rfl rfl (nz_spec hun_2))) fun a hf => qE hf rfl rfl rfl (Pu.ev (pA rfl)) fun a hf => qE hf rfl rfl rfl (Pu.ev (pA rfl)) fun a hf => ?_
  intro w hc
  refine h8 _ _ ?_
  exact hK4 (b_2,a_1.tmod b_2) _ _ (Option.some.inj hF).symm ⟨hf.keep ⟨rfl,rfl,rfl,rfl,rfl,trivial⟩,hc⟩
 ·replace hF := condF hb hF
  clear hb
  refine wp_exit ?_
  refine xThen ?_
  refine xThen ?_
  have he := Option.some.inj hF
  rw [← he] at hfin4
  refine cHit ?_
  exact hr4 _ _ _ hfin4 ⟨hf.keep ⟨rfl,rfl,rfl,rfl,rfl,trivial⟩,hc⟩

def shift_means_1 (N : Nat) (a_ : shift_Mark) (b_ : shift_Mark) (x : Int) : Option (api_Ratio) :=
 Option.bind (shift_ratio N (W ((W (a_.Flow * (W (b_.Stage - a_.Stage)))) + (W ((W (b_.Flow - a_.Flow)) * (W (x - a_.Stage)))))) (W (b_.Stage - a_.Stage))) fun r =>
 some r
theorem shift_means_1_ok {N : Nat} {G : Pers} {Lf : List Ent} {w : World} (a_ : shift_Mark) (b_ : shift_Mark) (x : Int) {b__1 : Nat}  (hc : Ctx G (.box b__1 [.int .i64 x] 3::Lf) w) {res : api_Ratio} (hF : shift_means_1 N a_ b_ x = some res) : Calls Try.prog 104 #[.agg #[.int .i64 a_.Stage,.int .i64 a_.Flow],.agg #[.int .i64 b_.Stage,.int .i64 b_.Flow],.pointer (some ⟨b__1,0,none⟩)] w (fun e w => e = .returned (.agg #[.int .i64 res.N,.int .i64 res.D]) ∧ Ctx G (.box b__1 [.int .i64 x] 3::Lf) w) := by
 unfold shift_means_1 at hF
 refine fnIn (args := [.agg #[.int .i64 a_.Stage,.int .i64 a_.Flow],.agg #[.int .i64 b_.Stage,.int .i64 b_.Flow],.pointer (some ⟨b__1,0,none⟩)]) Try.func104 rfl Try.ntmps104 rfl fun a hf => wp_seq_k fun K1 h1 => cReg ?_
 refine stBx (cs := [.int .i64 a_.Stage,.int .i64 a_.Flow]) hf hc rfl rfl rfl rfl fun b_1 a w hf hc => stBx (cs := [.int .i64 b_.Stage,.int .i64 b_.Flow]) hf hc rfl rfl rfl rfl fun b_2 a w hf hc => stAl (cs := [.int .i64 0,.int .i64 0]) hf hc rfl rfl zr_37 rfl fun b_3 a w hf hc => cNil ?_
 refine h1 _ _ ?_
 refine wp_seq_k fun K2 h2 => cReg ?_
 refine stP hf rfl rfl rfl (pFA fa_77_0 rfl) fun a hf => stE hf hc rfl rfl rfl (eLd1 sc_3 rfl (cell_box m1 rfl)) fun a w hf hc => stP hf rfl rfl rfl (pFA fa_77_0 rfl) fun a hf => stE hf hc rfl rfl rfl (eLd1 sc_3 rfl (cell_box m2 rfl)) fun a w hf hc => stP hf rfl rfl rfl (pSub rfl rfl) fun a hf => stP hf rfl rfl rfl (pA rfl) fun a hf => cNil ?_
 refine h2 _ _ ?_
 refine wp_seq_k fun K3 h3 => cReg ?_
 refine stP hf rfl rfl rfl (pFA fa_77_1 rfl) fun a hf => stE hf hc rfl rfl rfl (eLd1 sc_3 rfl (cell_box m2 rfl)) fun a w hf hc => stP hf rfl rfl rfl (pM rfl) fun a hf => stP hf rfl rfl rfl (pMul rfl rfl) fun a hf => stP hf rfl rfl rfl (pFA fa_77_1 rfl) fun a hf => stE hf hc rfl rfl rfl (eLd1 sc_3 rfl (cell_box m1 rfl)) fun a w hf hc => stP hf rfl rfl rfl (pFA fa_77_1 rfl) fun a hf => stE hf hc rfl rfl rfl (eLd1 sc_3 rfl (cell_box m2 rfl)) fun a w hf hc => stP hf rfl rfl rfl (pSub rfl rfl) fun a hf => stE hf hc rfl rfl rfl (eLd1 sc_3 rfl (cell_box m3 rfl)) fun a w hf hc => stP hf rfl rfl rfl (pFA fa_77_0 rfl) fun a hf => stE hf hc rfl rfl rfl (eLd1 sc_3 rfl (cell_box m2 rfl)) fun a w hf hc => stP hf rfl rfl rfl (pSub rfl rfl) fun a hf => ?_
 refine stP hf rfl rfl rfl (pMul rfl rfl) fun a hf => stP hf rfl rfl rfl (pAdd rfl rfl) fun a hf => stP hf rfl rfl rfl (pM rfl) fun a hf => ?_
 obtain ⟨r,hr,hF⟩ := bnd_some hF
 refine stE hf hc rfl rfl rfl (eC (v := .agg #[.int .i64 r.N,.int .i64 r.D]) (vs := [.int .i64 (W ((W (a_.Flow * (W (b_.Stage - a_.Stage)))) + (W ((W (b_.Flow - a_.Flow)) * (W (x - a_.Stage)))))),.int .i64 (W (b_.Stage - a_.Stage))]) (caps := []) en_71 rfl rfl rfl rfl (fun w hc => shift_ratio_ok (W ((W (a_.Flow * (W (b_.Stage - a_.Stage)))) + (W ((W (b_.Flow - a_.Flow)) * (W (x - a_.Stage)))))) (W (b_.Stage - a_.Stage)) hc hr)) fun a w hf hc => stSt (vs := [.int .i64 r.N,.int .i64 r.D]) hf hc rfl rfl rfl rfl sz_37 rfl rfl u0 fun w hc => cNil ?_
 refine h3 _ _ ?_
 refine wp_ret ?_
 obtain rfl := Option.some.inj hF
 replace hc := hc.drop k2
 replace hc := hc.drop k1
 replace hc := hc.pick k0
 replace hc := hc.pick k1
 exact fnOut1 (by simp) rfl Try.results104 hf hc (rv_cellN (vs := [.int .i64 r.N,.int .i64 r.D]) ag_37 rfl rfl (cells_box (n := 2) m1 rfl)) ⟨rfl,(hc.drop k1)⟩

def shift_means (N : Nat) (l : List shift_Mark) (at_ : Int) : Option (api_Ratio) :=
 Option.bind (getI l (W (((l.length : Nat) : Int) - 1))) fun e_1 =>
 Option.bind (getI l 0) fun e_2 =>
 cond (decide (at_ ≤ e_2.Stage))
 (Option.bind (getI l 0) fun e_3 =>
 some (⟨e_3.Flow,1⟩ : api_Ratio))
 (cond (decide (e_1.Stage ≤ at_))
 (some (⟨e_1.Flow,1⟩ : api_Ratio))
 (Option.bind (slices_IndexFunc_Lshift_Mark_shift_Mark_s2 N l at_) fun r =>
 Option.bind (getI l (W (r - 1))) fun e_4 =>
 Option.bind (getI l r) fun e_5 =>
 Option.bind (shift_means_1 N e_4 e_5 at_) fun r_1 =>
 some r_1))
theorem shift_means_ok {N : Nat} {G : Pers} {Lf : List Ent} {w : World} (l : List shift_Mark) (at_ : Int) {l_p : Option Addr} {l_c : Nat} (h_l : Rd G 2 l_p l_c (l.map enc_shift_Mark)) (hc : Ctx G (Lf) w) {res : api_Ratio} (hF : shift_means N l at_ = some res) : Calls Try.prog 69 #[.slice l_p l.length l_c,.int .i64 at_] w (fun e w => e = .returned (.agg #[.int .i64 res.N,.int .i64 res.D]) ∧ Ctx G (Lf) w) := by
 unfold shift_means at hF
 refine fnIn (args := [.slice l_p l.length l_c,.int .i64 at_]) Try.func69 rfl Try.ntmps69 rfl fun a hf => wp_seq_k fun K1 h1 => cReg ?_
 refine stBx (cs := [.int .i64 at_]) hf hc rfl rfl rfl rfl fun b_1 a w hf hc => stAl (cs := [.int .i64 0,.int .i64 0]) hf hc rfl rfl zr_37 rfl fun b_2 a w hf hc => cNil ?_
 refine h1 _ _ ?_
 refine wp_seq_k fun K2 h2 => cReg ?_
 refine stP hf rfl rfl rfl (pM rfl) fun a hf => stP hf rfl rfl rfl (pM rfl) fun a hf => stP hf rfl rfl rfl (pLenS Try.underlying22 rfl) fun a hf => stP hf rfl rfl rfl (pSub rfl rfl) fun a hf => ?_
 obtain ⟨e_1,he_1,hF⟩ := bnd_some hF
 obtain ⟨b_3,o,qa,qp⟩ := h_l.atm he_1
 refine stP hf rfl rfl rfl (pIA Try.underlying22 sz_77 rfl rfl qa) fun a hf => stE hf hc rfl rfl rfl (eLdN (vs := [.int .i64 e_1.Stage,.int .i64 e_1.Flow]) ag_77 rfl rfl (cells_pc qp (n := 2) (o' := 0) rfl)) fun a w hf hc => stAl (cs := [.int .i64 0,.int .i64 0]) hf hc rfl rfl zr_77 rfl fun b_4 a w hf hc => stSt (vs := [.int .i64 e_1.Stage,.int .i64 e_1.Flow]) hf hc rfl rfl rfl rfl sz_77 rfl rfl u0 fun w hc => cNil ?_
 refine h2 _ _ ?_
 refine wp_seq_k fun K3 h3 => wp_block ?_
 refine wp_seq_k fun K4 h4 => ?_
 obtain ⟨e_2,he_2,hF⟩ := bnd_some hF
 obtain ⟨b_5,o_1,qa_1,qp_1⟩ := h_l.atm he_2
 refine cQ hc follows_mx (by kernel_rfl) ?_
 refine qE hf rfl rfl rfl (eLd1 sc_3 rfl (cell_box m2 rfl)) fun a hf => qE hf rfl rfl rfl (Pu.ev (pM rfl)) fun a hf => qE hf rfl rfl rfl (Pu.ev (pIA Try.underlying22 sz_77 rfl rfl qa_1)) fun a hf => qE hf rfl rfl rfl (Pu.ev (pFA fa_77_0 rfl)) fun a hf => qE hf rfl rfl rfl (eLd1 sc_3 rfl (cell_pc (j := 0) qp_1 rfl)) fun a hf => qE hf rfl rfl rfl (Pu.ev (pLe rfl rfl)) fun a hf => qE hf rfl rfl rfl (Pu.ev (pA rfl)) fun a hf => ?_
 intro w hc
 refine h4 _ _ ?_
 refine cCond (b := (decide (at_ ≤ e_2.Stage))) hf rfl (fun hb => ?_) (fun hb => ?_)
 ·replace hF := condT hb hF
  clear hb
  refine wp_seq_k fun K5 h5 => cReg ?_
  refine stP hf rfl rfl rfl (pM rfl) fun a hf => ?_
  obtain ⟨e_3,he_3,hF⟩ := bnd_some hF
  obtain ⟨b_6,o_2,qa_2,qp_2⟩ := h_l.atm he_3
  refine stP hf rfl rfl rfl (pIA Try.underlying22 sz_77 rfl rfl qa_2) fun a hf => stP hf rfl rfl rfl (pFA fa_77_1 rfl) fun a hf => stE hf hc rfl rfl rfl (eLd1 sc_3 rfl (cell_pc (j := 1) qp_2 rfl)) fun a w hf hc => stP hf rfl rfl rfl (pBuildS (cells := [.int .i64 e_3.Flow,.int .i64 1]) bt_37 rfl rfl) fun a hf => stSt (vs := [.int .i64 e_3.Flow,.int .i64 1]) hf hc rfl rfl rfl rfl sz_37 rfl rfl u1 fun w hc => cNil ?_
  refine h5 _ _ ?_
  refine wp_ret ?_
  refine xBlkR ?_
  refine xThenR ?_
  obtain rfl := Option.some.inj hF
  replace hc := hc.drop k2
  replace hc := hc.drop k0
  exact fnOut1 (by simp) rfl Try.results69 hf hc (rv_cellN (vs := [.int .i64 e_3.Flow,.int .i64 1]) ag_37 rfl rfl (cells_box (n := 2) m0 rfl)) ⟨rfl,(hc.drop k0)⟩
 ·replace hF := condF hb hF
  clear hb
  refine wp_seq_k fun K6 h6 => cReg ?_
  refine stE hf hc rfl rfl rfl (eLd1 sc_3 rfl (cell_box m2 rfl)) fun a w hf hc => stP hf rfl rfl rfl (pFA fa_77_0 rfl) fun a hf => stE hf hc rfl rfl rfl (eLd1 sc_3 rfl (cell_box m0 rfl)) fun a w hf hc => stP hf rfl rfl rfl (pGe rfl rfl) fun a hf => stP hf rfl rfl rfl (pA rfl) fun a hf => cNil ?_
  refine h6 _ _ ?_
  refine cCond (b := (decide (e_1.Stage ≤ at_))) hf rfl (fun hb => ?_) (fun hb => ?_)
  ·replace hF := condT hb hF
   clear hb
   refine wp_seq_k fun K7 h7 => cReg ?_
   refine stP hf rfl rfl rfl (pFA fa_77_1 rfl) fun a hf => stE hf hc rfl rfl rfl (eLd1 sc_3 rfl (cell_box m0 rfl)) fun a w hf hc => stP hf rfl rfl rfl (pBuildS (cells := [.int .i64 e_1.Flow,.int .i64 1]) bt_37 rfl rfl) fun a hf => stSt (vs := [.int .i64 e_1.Flow,.int .i64 1]) hf hc rfl rfl rfl rfl sz_37 rfl rfl u1 fun w hc => cNil ?_
   refine h7 _ _ ?_
   refine wp_ret ?_
   refine xBlkR ?_
   refine xThenR ?_
   obtain rfl := Option.some.inj hF
   replace hc := hc.drop k2
   replace hc := hc.drop k0
   exact fnOut1 (by simp) rfl Try.results69 hf hc (rv_cellN (vs := [.int .i64 e_1.Flow,.int .i64 1]) ag_37 rfl rfl (cells_box (n := 2) m0 rfl)) ⟨rfl,(hc.drop k0)⟩
  ·replace hF := condF hb hF
   clear hb
   refine wp_skip ?_
   refine h3 _ _ ?_
   refine wp_seq_k fun K8 h8 => cReg ?_
   refine stP hf rfl rfl rfl (pMF (us := [.pointer (some ⟨b_1,0,none⟩)]) rfl rfl) fun a hf => stP hf rfl rfl rfl (pA rfl) fun a hf => cNil ?_
   refine h8 _ _ ?_
   refine wp_seq_k fun K9 h9 => cReg ?_
   refine stP hf rfl rfl rfl (pM rfl) fun a hf => stP hf rfl rfl rfl (pMF (us := [.pointer (some ⟨b_1,0,none⟩)]) rfl rfl) fun a hf => ?_
   obtain ⟨r,hr,hF⟩ := bnd_some hF
   refine stE hf hc rfl rfl rfl (eC (v := .int .i64 r) (vs := [.slice l_p l.length l_c,.func (.func 106) #[] #[.pointer (some ⟨b_1,0,none⟩)]]) (caps := []) en_105 rfl rfl rfl rfl (fun w hc => (slices_IndexFunc_Lshift_Mark_shift_Mark_s2_ok l at_ h_l (hc.pick k2) hr).mono fun e w h => ⟨h.1,(h.2.unpick k2)⟩)) fun a w hf hc => stP hf rfl rfl rfl (pA rfl) fun a hf => cNil ?_
   refine h9 _ _ ?_
   refine wp_seq_k fun K10 h10 => ?_
   obtain ⟨e_4,he_4,hF⟩ := bnd_some hF
   obtain ⟨b_7,o_3,qa_3,qp_3⟩ := h_l.atm he_4
   obtain ⟨e_5,he_5,hF⟩ := bnd_some hF
   obtain ⟨b_8,o_4,qa_4,qp_4⟩ := h_l.atm he_5
   obtain ⟨r_1,hr_1,hF⟩ := bnd_some hF
   refine regionE (fun θ => [⟨none,none,0,.slice l_p l.length l_c⟩,⟨none,none,4,.pointer (some ⟨b_2,0,none⟩)⟩,⟨none,none,6,.func (.func 104) #[] #[.pointer (some ⟨b_1,0,none⟩)]⟩,⟨none,none,7,.int .i64 r⟩,⟨some 0,none,38,.func (.func 104) #[] #[.pointer (some ⟨b_1,0,none⟩)]⟩,⟨some 1,none,39,.slice l_p l.length l_c⟩,⟨some 2,none,40,.int .i64 r⟩,⟨some 3,none,41,.int .i64 (W (r - 1))⟩,⟨some 4,none,42,.pointer (some ⟨b_7,o_3,none⟩)⟩,⟨some 5,none,43,.agg #[.int .i64 e_4.Stage,.int .i64 e_4.Flow]⟩,⟨some 6,none,44,.slice l_p l.length l_c⟩,⟨some 7,none,45,.int .i64 r⟩,⟨some 8,none,46,.pointer (some ⟨b_8,o_4,none⟩)⟩,⟨some 9,none,47,.agg #[.int .i64 e_5.Stage,.int .i64 e_5.Flow]⟩,⟨some 10,none,48,.agg #[.int .i64 r_1.N,.int .i64 r_1.D]⟩]) (fun E θ => .box b_4 [.int .i64 e_1.Stage,.int .i64 e_1.Flow] 77::(bif E 11 then .box b_2 [.int .i64 r_1.N,.int .i64 r_1.D] 37 else .box b_2 [.int .i64 0,.int .i64 0] 37)::.box b_1 [.int .i64 at_] 3::Lf) [] (fun a w => Has 49 a [(4,.pointer (some ⟨b_2,0,none⟩))] ∧ Ctx G (.box b_4 [.int .i64 e_1.Stage,.int .i64 e_1.Flow] 77::.box b_2 [.int .i64 r_1.N,.int .i64 r_1.D] 37::.box b_1 [.int .i64 at_] 3::Lf) w) follows_mx (by kernel_rfl) (by kernel_rfl) (HasE.of hf ⟨rfl,rfl,rfl,rfl,trivial,trivial,trivial,trivial,trivial,trivial,trivial,trivial,trivial,trivial,trivial,trivial⟩) hc ⟨?_,?_,?_,?_,?_,?_,?_,?_,?_,?_,?_,?_,trivial⟩ ?_ ?_
   ·intro E θ a w hD hi hp he hc
    have hf := he.h0
    replace hf := hf.more he 2 rfl onT
    refine stP hf rfl rfl rfl (pM rfl) fun a hf => cNil ?_
    refine xThenN ?_
    intro ds u hau
    refine ⟨θ,he.put0 hi hau hf rfl 4 rfl rfl,?_⟩
    exact hc
   ·intro E θ a w hD hi hp he hc
    have hf := he.h0
    replace hf := hf.more he 0 rfl onT
    refine stP hf rfl rfl rfl (pM rfl) fun a hf => cNil ?_
    refine xThenN ?_
    intro ds u hau
    refine ⟨θ,he.put0 hi hau hf rfl 5 rfl rfl,?_⟩
    exact hc
   ·intro E θ a w hD hi hp he hc
    have hf := he.h0
    replace hf := hf.more he 3 rfl onT
    refine stP hf rfl rfl rfl (pM rfl) fun a hf => cNil ?_
    refine xThenN ?_
    intro ds u hau
    refine ⟨θ,he.put0 hi hau hf rfl 6 rfl rfl,?_⟩
    exact hc
   ·intro E θ a w hD hi hp he hc
    have e2 := hp.of (k := 2) rfl
    have hf := he.h0
    replace hf := hf.more he 6 rfl (onP e2)
    refine stP hf rfl rfl rfl (pSub rfl rfl) fun a hf => cNil ?_
    refine xThenN ?_
    intro ds u hau
    refine ⟨θ,he.put0 hi hau hf rfl 7 rfl rfl,?_⟩
    exact hc
   ·intro E θ a w hD hi hp he hc
    have e1 := hp.of (k := 1) rfl
    have e3 := hp.of (k := 3) rfl
    have hf := he.h0
    replace hf := hf.more he 5 rfl (onP e1)
    replace hf := hf.more he 7 rfl (onP e3)
    refine stP hf rfl rfl rfl (pIA Try.underlying22 sz_77 rfl rfl qa_3) fun a hf => cNil ?_
    refine xThenN ?_
    intro ds u hau
    refine ⟨θ,he.put0 hi hau hf rfl 8 rfl rfl,?_⟩
    exact hc
   ·intro E θ a w hD hi hp he hc
    have e4 := hp.of (k := 4) rfl
    have hf := he.h0
    replace hf := hf.more he 8 rfl (onP e4)
    refine stE hf hc rfl rfl rfl (eLdN (vs := [.int .i64 e_4.Stage,.int .i64 e_4.Flow]) ag_77 rfl rfl (cells_pc qp_3 (n := 2) (o' := 0) rfl)) fun a w hf hc => cNil ?_
    refine xThenN ?_
    intro ds u hau
    refine ⟨θ,he.put0 hi hau hf rfl 9 rfl rfl,?_⟩
    exact hc
   ·intro E θ a w hD hi hp he hc
    have hf := he.h0
    replace hf := hf.more he 0 rfl onT
    refine stP hf rfl rfl rfl (pM rfl) fun a hf => cNil ?_
    refine xThenN ?_
    intro ds u hau
    refine ⟨θ,he.put0 hi hau hf rfl 10 rfl rfl,?_⟩
    exact hc
   ·intro E θ a w hD hi hp he hc
    have hf := he.h0
    replace hf := hf.more he 3 rfl onT
    refine stP hf rfl rfl rfl (pM rfl) fun a hf => cNil ?_
    refine xThenN ?_
    intro ds u hau
    refine ⟨θ,he.put0 hi hau hf rfl 11 rfl rfl,?_⟩
    exact hc
   ·intro E θ a w hD hi hp he hc
    have e6 := hp.of (k := 6) rfl
    have e7 := hp.of (k := 7) rfl
    have hf := he.h0
    replace hf := hf.more he 10 rfl (onP e6)
    replace hf := hf.more he 11 rfl (onP e7)
    refine stP hf rfl rfl rfl (pIA Try.underlying22 sz_77 rfl rfl qa_4) fun a hf => cNil ?_
    refine xThenN ?_
    intro ds u hau
    refine ⟨θ,he.put0 hi hau hf rfl 12 rfl rfl,?_⟩
    exact hc
   ·intro E θ a w hD hi hp he hc
    have e8 := hp.of (k := 8) rfl
    have hf := he.h0
    replace hf := hf.more he 12 rfl (onP e8)
    refine stE hf hc rfl rfl rfl (eLdN (vs := [.int .i64 e_5.Stage,.int .i64 e_5.Flow]) ag_77 rfl rfl (cells_pc qp_4 (n := 2) (o' := 0) rfl)) fun a w hf hc => cNil ?_
    refine xThenN ?_
    intro ds u hau
    refine ⟨θ,he.put0 hi hau hf rfl 13 rfl rfl,?_⟩
    exact hc
   ·intro E θ a w hD hi hp he hc
    have e0 := hp.of (k := 0) rfl
    have e5 := hp.of (k := 5) rfl
    have e9 := hp.of (k := 9) rfl
    have hf := he.h0
    replace hf := hf.more he 4 rfl (onP e0)
    replace hf := hf.more he 9 rfl (onP e5)
    replace hf := hf.more he 13 rfl (onP e9)
    refine stE hf hc rfl rfl rfl (eC (v := .agg #[.int .i64 r_1.N,.int .i64 r_1.D]) (vs := [.agg #[.int .i64 e_4.Stage,.int .i64 e_4.Flow],.agg #[.int .i64 e_5.Stage,.int .i64 e_5.Flow]]) (caps := [.pointer (some ⟨b_1,0,none⟩)]) en_104 rfl rfl rfl rfl (fun w hc => (shift_means_1_ok e_4 e_5 at_ (hc.pick k2) hr_1).mono fun e w h => ⟨h.1,(h.2.unpick k2)⟩)) fun a w hf hc => cNil ?_
    refine xThenN ?_
    intro ds u hau
    refine ⟨θ,he.put0 hi hau hf rfl 14 rfl rfl,?_⟩
    exact hc
   ·intro E θ a w hD hi hp he hc
    have e10 := hp.of (k := 10) rfl
    try dsimp only at hc
    rw [hi] at hc
    have hf := he.h0
    replace hf := hf.more he 1 rfl onT
    replace hf := hf.more he 14 rfl (onP e10)
    refine stSt (vs := [.int .i64 r_1.N,.int .i64 r_1.D]) hf hc rfl rfl rfl rfl sz_37 rfl rfl u1 fun w hc => cNil ?_
    refine xThenN ?_
    intro ds u hau
    refine ⟨θ,he.stay0 hi hau hf rfl,?_⟩
    try dsimp only
    rw [updE_self E 11]
    exact hc
   ·intro E θ a w hall he hc
    have hf := he.h0
    have e11 := hall 11 rfl
    replace hf := hf.more he 1 rfl (onT)
    try dsimp only at hc
    rw [e11] at hc
    exact ⟨hf.keep ⟨rfl,trivial⟩,hc⟩
   rintro a w ⟨hf,hc⟩
   refine h10 _ _ ?_
   refine wp_ret ?_
   obtain rfl := Option.some.inj hF
   replace hc := hc.drop k2
   replace hc := hc.drop k0
   exact fnOut1 (by simp) rfl Try.results69 hf hc (rv_cellN (vs := [.int .i64 r_1.N,.int .i64 r_1.D]) ag_37 rfl rfl (cells_box (n := 2) m0 rfl)) ⟨rfl,(hc.drop k0)⟩

def shift_Means (N : Nat) (rating : List shift_Mark) (stage : Int) (shift : Int) : Option (api_Ratio × Int) :=
 Option.bind (shift_asked N rating stage shift) fun r =>
 cond (r != 0)
 (some ((⟨0,0⟩ : api_Ratio),r))
 (Option.bind (shift_means N rating (W (stage - shift))) fun r_1 =>
 some (r_1,0))
theorem shift_Means_ok {N : Nat} {G : Pers} {Lf : List Ent} {w : World} (rating : List shift_Mark) (stage : Int) (shift : Int) {rating_p : Option Addr} {rating_c : Nat} (h_rating : Rd G 2 rating_p rating_c (rating.map enc_shift_Mark)) (hc : Ctx G (Lf) w) {res : api_Ratio × Int} (hF : shift_Means N rating stage shift = some res) : Calls Try.prog 17 #[.slice rating_p rating.length rating_c,.int .i64 stage,.int .i64 shift] w (fun e w => e = .returned (.tuple #[.agg #[.int .i64 res.1.N,.int .i64 res.1.D],.int .i64 res.2]) ∧ Ctx G (Lf) w) := by
 unfold shift_Means at hF
 refine fnIn (args := [.slice rating_p rating.length rating_c,.int .i64 stage,.int .i64 shift]) Try.func17 rfl Try.ntmps17 rfl fun a hf => wp_seq_k fun K1 h1 => cReg ?_
 refine stAl (cs := [.int .i64 0,.int .i64 0]) hf hc rfl rfl zr_37 rfl fun b_1 a w hf hc => stP hf rfl rfl rfl (pA rfl) fun a hf => cNil ?_
 refine h1 _ _ ?_
 refine wp_seq_k fun K2 h2 => wp_seq_k fun K3 h3 => cReg ?_
 refine stP hf rfl rfl rfl (pM rfl) fun a hf => stP hf rfl rfl rfl (pM rfl) fun a hf => stP hf rfl rfl rfl (pM rfl) fun a hf => ?_
 obtain ⟨r,hr,hF⟩ := bnd_some hF
 refine stE hf hc rfl rfl rfl (eC (v := .int .i64 r) (vs := [.slice rating_p rating.length rating_c,.int .i64 stage,.int .i64 shift]) (caps := []) en_68 rfl rfl rfl rfl (fun w hc => shift_asked_ok rating stage shift h_rating hc hr)) fun a w hf hc => stP hf rfl rfl rfl (pA rfl) fun a hf => cNil ?_
 refine h3 _ _ ?_
 refine wp_seq_k fun K4 h4 => cReg ?_
 refine stP hf rfl rfl rfl (pM rfl) fun a hf => stP hf rfl rfl rfl (pNe rfl rfl) fun a hf => cNil ?_
 refine h4 _ _ ?_
 refine cCond (b := (r != 0)) hf rfl (fun hb => ?_) (fun hb => ?_)
 ·replace hF := condT hb hF
  clear hb
  refine wp_seq_k fun K5 h5 => cReg ?_
  refine stP hf rfl rfl rfl (pBuildS (cells := [.int .i64 0,.int .i64 0]) bt_37 rfl rfl) fun a hf => stP hf rfl rfl rfl (pM rfl) fun a hf => stSt (vs := [.int .i64 0,.int .i64 0]) hf hc rfl rfl rfl rfl sz_37 rfl rfl u0 fun w hc => stP hf rfl rfl rfl (pA rfl) fun a hf => cNil ?_
  refine h5 _ _ ?_
  refine wp_ret ?_
  refine xThenR ?_
  obtain rfl := Option.some.inj hF
  exact fnOut2 (by simp) rfl Try.results17 hf hc (rv_cellN (vs := [.int .i64 0,.int .i64 0]) ag_37 rfl rfl (cells_box (n := 2) m0 rfl)) (show look _ 7 = _ from rfl) ⟨rfl,(hc.drop k0)⟩
 ·replace hF := condF hb hF
  clear hb
  refine wp_skip ?_
  refine h2 _ _ ?_
  refine wp_seq_k fun K6 h6 => cReg ?_
  refine stP hf rfl rfl rfl (pM rfl) fun a hf => stP hf rfl rfl rfl (pM rfl) fun a hf => stP hf rfl rfl rfl (pM rfl) fun a hf => stP hf rfl rfl rfl (pSub rfl rfl) fun a hf => ?_
  obtain ⟨r_1,hr_1,hF⟩ := bnd_some hF
  refine stE hf hc rfl rfl rfl (eC (v := .agg #[.int .i64 r_1.N,.int .i64 r_1.D]) (vs := [.slice rating_p rating.length rating_c,.int .i64 (W (stage - shift))]) (caps := []) en_69 rfl rfl rfl rfl (fun w hc => shift_means_ok rating (W (stage - shift)) h_rating hc hr_1)) fun a w hf hc => stSt (vs := [.int .i64 r_1.N,.int .i64 r_1.D]) hf hc rfl rfl rfl rfl sz_37 rfl rfl u0 fun w hc => stP hf rfl rfl rfl (pA rfl) fun a hf => cNil ?_
  refine h6 _ _ ?_
  refine wp_ret ?_
  obtain rfl := Option.some.inj hF
  exact fnOut2 (by simp) rfl Try.results17 hf hc (rv_cellN (vs := [.int .i64 r_1.N,.int .i64 r_1.D]) ag_37 rfl rfl (cells_box (n := 2) m0 rfl)) (show look _ 7 = _ from rfl) ⟨rfl,(hc.drop k0)⟩

def shift_Rising_j3 (N : Nat) (rating : List shift_Mark) (stage : Int) (shift : Int) (rise : Int) (per : Int) (e_1 : Int) : Option (api_Ratio × Int) :=
 cond (e_1 != 0)
 (some ((⟨0,0⟩ : api_Ratio),e_1))
 (Option.bind (shift_means N rating (W (stage - shift))) fun r_1 =>
 Option.bind (shift_ratio N (W (r_1.N * (max 0 (W (1000 + (W (rise * per))))))) (W (1000 * r_1.D))) fun r_2 =>
 some (r_2,0))
def shift_Rising (N : Nat) (rating : List shift_Mark) (stage : Int) (shift : Int) (rise : Int) (per : Int) : Option (api_Ratio × Int) :=
 Option.bind (shift_asked N rating stage shift) fun r =>
 cond ((r == 0) && ((!(shift_in rise (-1000) 1000)) || (!(shift_in per 0 1000))))
 (shift_Rising_j3 N rating stage shift rise per 4)
 (shift_Rising_j3 N rating stage shift rise per r)
theorem shift_Rising_ok {N : Nat} {G : Pers} {Lf : List Ent} {w : World} (rating : List shift_Mark) (stage : Int) (shift : Int) (rise : Int) (per : Int) {rating_p : Option Addr} {rating_c : Nat} (h_rating : Rd G 2 rating_p rating_c (rating.map enc_shift_Mark)) (hc : Ctx G (Lf) w) {res : api_Ratio × Int} (hF : shift_Rising N rating stage shift rise per = some res) : Calls Try.prog 20 #[.slice rating_p rating.length rating_c,.int .i64 stage,.int .i64 shift,.int .i64 rise,.int .i64 per] w (fun e w => e = .returned (.tuple #[.agg #[.int .i64 res.1.N,.int .i64 res.1.D],.int .i64 res.2]) ∧ Ctx G (Lf) w) := by
 unfold shift_Rising at hF
 refine fnIn (args := [.slice rating_p rating.length rating_c,.int .i64 stage,.int .i64 shift,.int .i64 rise,.int .i64 per]) Try.func20 rfl Try.ntmps20 rfl fun a hf => wp_seq_k fun K1 h1 => cReg ?_
 refine stAl (cs := [.int .i64 0,.int .i64 0]) hf hc rfl rfl zr_37 rfl fun b_1 a w hf hc => stP hf rfl rfl rfl (pA rfl) fun a hf => cNil ?_
 refine h1 _ _ ?_
 refine wp_seq_k fun K2 h2 => cReg ?_
 refine stP hf rfl rfl rfl (pM rfl) fun a hf => stP hf rfl rfl rfl (pM rfl) fun a hf => stP hf rfl rfl rfl (pM rfl) fun a hf => ?_
 obtain ⟨r,hr,hF⟩ := bnd_some hF
 refine stE hf hc rfl rfl rfl (eC (v := .int .i64 r) (vs := [.slice rating_p rating.length rating_c,.int .i64 stage,.int .i64 shift]) (caps := []) en_68 rfl rfl rfl rfl (fun w hc => shift_asked_ok rating stage shift h_rating hc hr)) fun a w hf hc => stP hf rfl rfl rfl (pA rfl) fun a hf => cNil ?_
 refine h2 _ _ ?_
 refine wp_seq_k fun K3 h3 => ?_
 have hj3 : ∀ (e_1 : Int) a w,Has 51 a [(0,.slice rating_p rating.length rating_c),(1,.int .i64 stage),(2,.int .i64 shift),(3,.int .i64 rise),(4,.int .i64 per),(10,.pointer (some ⟨b_1,0,none⟩)),(12,.int .i64 e_1)] → Ctx G (.box b_1 [.int .i64 0,.int .i64 0] 37::Lf) w → shift_Rising_j3 N rating stage shift rise per e_1 = some res → K3 a w := by
  repeat (clear hF)
  repeat (clear hc)
  repeat (clear hf)
  intro e_1 a w hf hc hF
  unfold shift_Rising_j3 at hF
  refine h3 _ _ ?_
  refine wp_seq_k fun K4 h4 => wp_seq_k fun K5 h5 => cReg ?_
  refine stP hf rfl rfl rfl (pM rfl) fun a hf => stP hf rfl rfl rfl (pNe rfl rfl) fun a hf => cNil ?_
  refine h5 _ _ ?_
  refine cCond (b := (e_1 != 0)) hf rfl (fun hb => ?_) (fun hb => ?_)
  ·replace hF := condT hb hF
   clear hb
   refine wp_seq_k fun K6 h6 => cReg ?_
   refine stP hf rfl rfl rfl (pBuildS (cells := [.int .i64 0,.int .i64 0]) bt_37 rfl rfl) fun a hf => stP hf rfl rfl rfl (pM rfl) fun a hf => stSt (vs := [.int .i64 0,.int .i64 0]) hf hc rfl rfl rfl rfl sz_37 rfl rfl u0 fun w hc => stP hf rfl rfl rfl (pA rfl) fun a hf => cNil ?_
   refine h6 _ _ ?_
   refine wp_ret ?_
   refine xThenR ?_
   obtain rfl := Option.some.inj hF
   exact fnOut2 (by simp) rfl Try.results20 hf hc (rv_cellN (vs := [.int .i64 0,.int .i64 0]) ag_37 rfl rfl (cells_box (n := 2) m0 rfl)) (show look _ 11 = _ from rfl) ⟨rfl,(hc.drop k0)⟩
  ·replace hF := condF hb hF
   clear hb
   refine wp_skip ?_
   refine h4 _ _ ?_
   refine wp_seq_k fun K7 h7 => cReg ?_
   refine stP hf rfl rfl rfl (pM rfl) fun a hf => stP hf rfl rfl rfl (pM rfl) fun a hf => stP hf rfl rfl rfl (pM rfl) fun a hf => stP hf rfl rfl rfl (pSub rfl rfl) fun a hf => ?_
   obtain ⟨r_1,hr_1,hF⟩ := bnd_some hF
   refine stE hf hc rfl rfl rfl (eC (v := .agg #[.int .i64 r_1.N,.int .i64 r_1.D]) (vs := [.slice rating_p rating.length rating_c,.int .i64 (W (stage - shift))]) (caps := []) en_69 rfl rfl rfl rfl (fun w hc => shift_means_ok rating (W (stage - shift)) h_rating hc hr_1)) fun a w hf hc => stAl (cs := [.int .i64 0,.int .i64 0]) hf hc rfl rfl zr_37 rfl fun b_2 a w hf hc => stSt (vs := [.int .i64 r_1.N,.int .i64 r_1.D]) hf hc rfl rfl rfl rfl sz_37 rfl rfl u0 fun w hc => cNil ?_
   refine h7 _ _ ?_
   refine wp_seq_k fun K8 h8 => cReg ?_
   refine stP hf rfl rfl rfl (pFA fa_37_0 rfl) fun a hf => stE hf hc rfl rfl rfl (eLd1 sc_3 rfl (cell_box m0 rfl)) fun a w hf hc => stP hf rfl rfl rfl (pM rfl) fun a hf => stP hf rfl rfl rfl (pM rfl) fun a hf => stP hf rfl rfl rfl (pMul rfl rfl) fun a hf => stP hf rfl rfl rfl (pAdd rfl rfl) fun a hf => stP hf rfl rfl rfl (pMax2 rfl rfl) fun a hf => stP hf rfl rfl rfl (pMul rfl rfl) fun a hf => stP hf rfl rfl rfl (pFA fa_37_1 rfl) fun a hf => stE hf hc rfl rfl rfl (eLd1 sc_3 rfl (cell_box m0 rfl)) fun a w hf hc => stP hf rfl rfl rfl (pMul rfl rfl) fun a hf => ?_
   obtain ⟨r_2,hr_2,hF⟩ := bnd_some hF
   refine stE hf hc rfl rfl rfl (eC (v := .agg #[.int .i64 r_2.N,.int .i64 r_2.D]) (vs := [.int .i64 (W (r_1.N * (max 0 (W (1000 + (W (rise * per))))))),.int .i64 (W (1000 * r_1.D))]) (caps := []) en_71 rfl rfl rfl rfl (fun w hc => shift_ratio_ok (W (r_1.N * (max 0 (W (1000 + (W (rise * per))))))) (W (1000 * r_1.D)) hc hr_2)) fun a w hf hc => stSt (vs := [.int .i64 r_2.N,.int .i64 r_2.D]) hf hc rfl rfl rfl rfl sz_37 rfl rfl u1 fun w hc => stP hf rfl rfl rfl (pA rfl) fun a hf => cNil ?_
   refine h8 _ _ ?_
   refine wp_ret ?_
   obtain rfl := Option.some.inj hF
   replace hc := hc.drop k0
   exact fnOut2 (by simp) rfl Try.results20 hf hc (rv_cellN (vs := [.int .i64 r_2.N,.int .i64 r_2.D]) ag_37 rfl rfl (cells_box (n := 2) m0 rfl)) (show look _ 11 = _ from rfl) ⟨rfl,(hc.drop k0)⟩
 refine wp_seq_k fun K9 h9 => cReg ?_
 refine stP hf rfl rfl rfl (pM rfl) fun a hf => stP hf rfl rfl rfl (pEq rfl rfl) fun a hf => stP hf rfl rfl rfl (pM rfl) fun a hf => stCut 9 (fun a w => Has 51 a [(0,.slice rating_p rating.length rating_c),(1,.int .i64 stage),(2,.int .i64 shift),(3,.int .i64 rise),(4,.int .i64 per),(10,.pointer (some ⟨b_1,0,none⟩)),(12,.int .i64 r),(18,.int .i64 r),(19,.bool (r == 0)),(20,.bool (r == 0)),(29,.bool ((r == 0) && ((!(shift_in rise (-1000) 1000)) || (!(shift_in per 0 1000)))))] ∧ Ctx G (.box b_1 [.int .i64 0,.int .i64 0] 37::Lf) w) ?_ ?_
 ·cases hb : (r == 0)
  ·rw [hb] at hf
   refine stS hf rfl rfl rfl fun a hf => stS hf rfl rfl rfl fun a hf => stS hf rfl rfl rfl fun a hf => stS hf rfl rfl rfl fun a hf => stS hf rfl rfl rfl fun a hf => stS hf rfl rfl rfl fun a hf => stS hf rfl rfl rfl fun a hf => stS hf rfl rfl rfl fun a hf => stP hf rfl rfl rfl (pPf rfl rfl) fun a hf => cNil ⟨hf.keep ⟨rfl,rfl,rfl,rfl,rfl,rfl,rfl,rfl,rfl,rfl,rfl,trivial⟩,hc⟩
  ·rw [hb] at hf
   refine stP hf rfl rfl rfl (pM rfl) fun a hf => stE hf hc rfl rfl rfl (eC (v := .bool (shift_in rise (-1000) 1000)) (vs := [.int .i64 rise,.int .i64 (-1000),.int .i64 1000]) (caps := []) en_59 rfl rfl rfl rfl (fun w hc => shift_in_ok rise (-1000) 1000 hc rfl)) fun a w hf hc => stP hf rfl rfl rfl (pNot rfl) fun a hf => stP hf rfl rfl rfl (pM rfl) fun a hf => stCut 4 (fun a w => Has 51 a [(0,.slice rating_p rating.length rating_c),(1,.int .i64 stage),(2,.int .i64 shift),(3,.int .i64 rise),(4,.int .i64 per),(10,.pointer (some ⟨b_1,0,none⟩)),(12,.int .i64 r),(18,.int .i64 r),(19,.bool true),(20,.bool true),(21,.int .i64 rise),(22,.bool (shift_in rise (-1000) 1000)),(23,.bool (!(shift_in rise (-1000) 1000))),(24,.bool (!(shift_in rise (-1000) 1000))),(28,.bool ((!(shift_in rise (-1000) 1000)) || (!(shift_in per 0 1000))))] ∧ Ctx G (.box b_1 [.int .i64 0,.int .i64 0] 37::Lf) w) ?_ ?_
   ·cases hb : (!(shift_in rise (-1000) 1000))
    ·rw [hb] at hf
     refine stP hf rfl rfl rfl (pM rfl) fun a hf => stE hf hc rfl rfl rfl (eC (v := .bool (shift_in per 0 1000)) (vs := [.int .i64 per,.int .i64 0,.int .i64 1000]) (caps := []) en_59 rfl rfl rfl rfl (fun w hc => shift_in_ok per 0 1000 hc rfl)) fun a w hf hc => stP hf rfl rfl rfl (pNot rfl) fun a hf => stP hf rfl rfl rfl (pPf rfl rfl) fun a hf => cNil ⟨hf.keep ⟨rfl,rfl,rfl,rfl,rfl,rfl,rfl,rfl,rfl,rfl,rfl,rfl,rfl,rfl,rfl,trivial⟩,hc⟩
    ·rw [hb] at hf
     refine stS hf rfl rfl rfl fun a hf => stS hf rfl rfl rfl fun a hf => stS hf rfl rfl rfl fun a hf => stP hf rfl rfl rfl (pPt rfl rfl) fun a hf => cNil ⟨hf.keep ⟨rfl,rfl,rfl,rfl,rfl,rfl,rfl,rfl,rfl,rfl,rfl,rfl,rfl,rfl,rfl,trivial⟩,hc⟩
   intro a w ⟨hf,hc⟩
   refine stP hf rfl rfl rfl (pPt rfl rfl) fun a hf => cNil ⟨hf.keep ⟨rfl,rfl,rfl,rfl,rfl,rfl,rfl,rfl,rfl,rfl,rfl,trivial⟩,hc⟩
 intro a w ⟨hf,hc⟩
 refine cNil ?_
 refine h9 _ _ ?_
 refine cCond (b := ((r == 0) && ((!(shift_in rise (-1000) 1000)) || (!(shift_in per 0 1000))))) hf rfl (fun hb => ?_) (fun hb => ?_)
 ·replace hF := condT hb hF
  clear hb
  refine cReg ?_
  refine stP hf rfl rfl rfl (pA rfl) fun a hf => cNil ?_
  exact hj3 4 _ _  (hf.keep ⟨rfl,rfl,rfl,rfl,rfl,rfl,rfl,trivial⟩) hc hF
 ·replace hF := condF hb hF
  clear hb
  refine wp_skip ?_
  exact hj3 r _ _  (hf.keep ⟨rfl,rfl,rfl,rfl,rfl,rfl,rfl,trivial⟩) hc hF

def shift_Check_1 (g : shift_Gauging) : Bool :=
 ((((shift_in g.Day 0 40000) && (shift_stage g.Stage)) && (shift_in g.Flow.Lo 0 g.Flow.Hi)) && (shift_flow g.Flow.Hi))
theorem shift_Check_1_ok {G : Pers} {Lf : List Ent} {w : World} (g : shift_Gauging)   (hc : Ctx G (Lf) w) {res : Bool} (hF : shift_Check_1 g = res) : Calls Try.prog 61 #[.agg #[.int .i64 g.Day,.int .i64 g.Stage,.int .i64 g.Flow.Lo,.int .i64 g.Flow.Hi]] w (fun e w => e = .returned (.bool res) ∧ Ctx G (Lf) w) := by
 unfold shift_Check_1 at hF
 refine fnIn (args := [.agg #[.int .i64 g.Day,.int .i64 g.Stage,.int .i64 g.Flow.Lo,.int .i64 g.Flow.Hi]]) Try.func61 rfl Try.ntmps61 rfl fun a hf => wp_seq_k fun K1 h1 => cReg ?_
 refine stBx (cs := [.int .i64 g.Day,.int .i64 g.Stage,.int .i64 g.Flow.Lo,.int .i64 g.Flow.Hi]) hf hc rfl rfl rfl rfl fun b_1 a w hf hc => stP hf rfl rfl rfl (pA rfl) fun a hf => cNil ?_
 refine h1 _ _ ?_
 refine wp_seq_k fun K2 h2 => cReg ?_
 refine stP hf rfl rfl rfl (pFA fa_71_0 rfl) fun a hf => stE hf hc rfl rfl rfl (eLd1 sc_3 rfl (cell_box m0 rfl)) fun a w hf hc => stE hf hc rfl rfl rfl (eC (v := .bool (shift_in g.Day 0 40000)) (vs := [.int .i64 g.Day,.int .i64 0,.int .i64 40000]) (caps := []) en_59 rfl rfl rfl rfl (fun w hc => shift_in_ok g.Day 0 40000 hc rfl)) fun a w hf hc => stP hf rfl rfl rfl (pM rfl) fun a hf => stCut 4 (fun a w => Has 26 a [(1,.pointer (some ⟨b_1,0,none⟩)),(2,.bool false),(3,.pointer (some ⟨b_1,0,none⟩)),(4,.int .i64 g.Day),(5,.bool (shift_in g.Day 0 40000)),(6,.bool (shift_in g.Day 0 40000)),(10,.bool ((shift_in g.Day 0 40000) && (shift_stage g.Stage)))] ∧ Ctx G (.box b_1 [.int .i64 g.Day,.int .i64 g.Stage,.int .i64 g.Flow.Lo,.int .i64 g.Flow.Hi] 71::Lf) w) ?_ ?_
 ·cases hb : (shift_in g.Day 0 40000)
  ·rw [hb] at hf
   refine stS hf rfl rfl rfl fun a hf => stS hf rfl rfl rfl fun a hf => stS hf rfl rfl rfl fun a hf => stP hf rfl rfl rfl (pPf rfl rfl) fun a hf => cNil ⟨hf.keep ⟨rfl,rfl,rfl,rfl,rfl,rfl,rfl,trivial⟩,hc⟩
  ·rw [hb] at hf
   refine stP hf rfl rfl rfl (pFA fa_71_1 rfl) fun a hf => stE hf hc rfl rfl rfl (eLd1 sc_3 rfl (cell_box m0 rfl)) fun a w hf hc => stE hf hc rfl rfl rfl (eC (v := .bool (shift_stage g.Stage)) (vs := [.int .i64 g.Stage]) (caps := []) en_62 rfl rfl rfl rfl (fun w hc => shift_stage_ok g.Stage hc rfl)) fun a w hf hc => stP hf rfl rfl rfl (pPt rfl rfl) fun a hf => cNil ⟨hf.keep ⟨rfl,rfl,rfl,rfl,rfl,rfl,rfl,trivial⟩,hc⟩
 intro a w ⟨hf,hc⟩
 refine stP hf rfl rfl rfl (pM rfl) fun a hf => stCut 8 (fun a w => Has 26 a [(1,.pointer (some ⟨b_1,0,none⟩)),(2,.bool false),(3,.pointer (some ⟨b_1,0,none⟩)),(4,.int .i64 g.Day),(5,.bool (shift_in g.Day 0 40000)),(6,.bool (shift_in g.Day 0 40000)),(10,.bool ((shift_in g.Day 0 40000) && (shift_stage g.Stage))),(11,.bool ((shift_in g.Day 0 40000) && (shift_stage g.Stage))),(19,.bool (((shift_in g.Day 0 40000) && (shift_stage g.Stage)) && (shift_in g.Flow.Lo 0 g.Flow.Hi)))] ∧ Ctx G (.box b_1 [.int .i64 g.Day,.int .i64 g.Stage,.int .i64 g.Flow.Lo,.int .i64 g.Flow.Hi] 71::Lf) w) ?_ ?_
 ·cases hb : ((shift_in g.Day 0 40000) && (shift_stage g.Stage))
  ·rw [hb] at hf
   refine stS hf rfl rfl rfl fun a hf => stS hf rfl rfl rfl fun a hf => stS hf rfl rfl rfl fun a hf => stS hf rfl rfl rfl fun a hf => stS hf rfl rfl rfl fun a hf => stS hf rfl rfl rfl fun a hf => stS hf rfl rfl rfl fun a hf => stP hf rfl rfl rfl (pPf rfl rfl) fun a hf => cNil ⟨hf.keep ⟨rfl,rfl,rfl,rfl,rfl,rfl,rfl,rfl,rfl,trivial⟩,hc⟩
  ·rw [hb] at hf
   refine stP hf rfl rfl rfl (pFA fa_71_2 rfl) fun a hf => stP hf rfl rfl rfl (pFA fa_50_0 rfl) fun a hf => stE hf hc rfl rfl rfl (eLd1 sc_3 rfl (cell_box m0 rfl)) fun a w hf hc => stP hf rfl rfl rfl (pFA fa_71_2 rfl) fun a hf => stP hf rfl rfl rfl (pFA fa_50_1 rfl) fun a hf => stE hf hc rfl rfl rfl (eLd1 sc_3 rfl (cell_box m0 rfl)) fun a w hf hc => stE hf hc rfl rfl rfl (eC (v := .bool (shift_in g.Flow.Lo 0 g.Flow.Hi)) (vs := [.int .i64 g.Flow.Lo,.int .i64 0,.int .i64 g.Flow.Hi]) (caps := []) en_59 rfl rfl rfl rfl (fun w hc => shift_in_ok g.Flow.Lo 0 g.Flow.Hi hc rfl)) fun a w hf hc => stP hf rfl rfl rfl (pPt rfl rfl) fun a hf => cNil ⟨hf.keep ⟨rfl,rfl,rfl,rfl,rfl,rfl,rfl,rfl,rfl,trivial⟩,hc⟩
 intro a w ⟨hf,hc⟩
 refine stP hf rfl rfl rfl (pM rfl) fun a hf => stCut 5 (fun a w => Has 26 a [(1,.pointer (some ⟨b_1,0,none⟩)),(2,.bool false),(3,.pointer (some ⟨b_1,0,none⟩)),(4,.int .i64 g.Day),(5,.bool (shift_in g.Day 0 40000)),(6,.bool (shift_in g.Day 0 40000)),(10,.bool ((shift_in g.Day 0 40000) && (shift_stage g.Stage))),(11,.bool ((shift_in g.Day 0 40000) && (shift_stage g.Stage))),(19,.bool (((shift_in g.Day 0 40000) && (shift_stage g.Stage)) && (shift_in g.Flow.Lo 0 g.Flow.Hi))),(20,.bool (((shift_in g.Day 0 40000) && (shift_stage g.Stage)) && (shift_in g.Flow.Lo 0 g.Flow.Hi))),(25,.bool ((((shift_in g.Day 0 40000) && (shift_stage g.Stage)) && (shift_in g.Flow.Lo 0 g.Flow.Hi)) && (shift_flow g.Flow.Hi)))] ∧ Ctx G (.box b_1 [.int .i64 g.Day,.int .i64 g.Stage,.int .i64 g.Flow.Lo,.int .i64 g.Flow.Hi] 71::Lf) w) ?_ ?_
 ·cases hb : (((shift_in g.Day 0 40000) && (shift_stage g.Stage)) && (shift_in g.Flow.Lo 0 g.Flow.Hi))
  ·rw [hb] at hf
   refine stS hf rfl rfl rfl fun a hf => stS hf rfl rfl rfl fun a hf => stS hf rfl rfl rfl fun a hf => stS hf rfl rfl rfl fun a hf => stP hf rfl rfl rfl (pPf rfl rfl) fun a hf => cNil ⟨hf.keep ⟨rfl,rfl,rfl,rfl,rfl,rfl,rfl,rfl,rfl,rfl,rfl,trivial⟩,hc⟩
  ·rw [hb] at hf
   refine stP hf rfl rfl rfl (pFA fa_71_2 rfl) fun a hf => stP hf rfl rfl rfl (pFA fa_50_1 rfl) fun a hf => stE hf hc rfl rfl rfl (eLd1 sc_3 rfl (cell_box m0 rfl)) fun a w hf hc => stE hf hc rfl rfl rfl (eC (v := .bool (shift_flow g.Flow.Hi)) (vs := [.int .i64 g.Flow.Hi]) (caps := []) en_63 rfl rfl rfl rfl (fun w hc => shift_flow_ok g.Flow.Hi hc rfl)) fun a w hf hc => stP hf rfl rfl rfl (pPt rfl rfl) fun a hf => cNil ⟨hf.keep ⟨rfl,rfl,rfl,rfl,rfl,rfl,rfl,rfl,rfl,rfl,rfl,trivial⟩,hc⟩
 intro a w ⟨hf,hc⟩
 refine stP hf rfl rfl rfl (pA rfl) fun a hf => cNil ?_
 refine h2 _ _ ?_
 refine wp_ret ?_
 obtain rfl := hF
 replace hc := hc.drop k0
 exact fnOut1 (by simp) rfl Try.results61 hf hc (show look _ 2 = _ from rfl) ⟨rfl,hc⟩

def shift_every_shift_Gauging_1 (x : shift_Gauging) : Bool :=
 (!(shift_Check_1 (⟨x.Day,x.Stage,x.Flow⟩ : shift_Gauging)))
theorem shift_every_shift_Gauging_1_ok {G : Pers} {Lf : List Ent} {w : World} (x : shift_Gauging) {b_ : Nat}  (hc : Ctx G (.box b_ [.func (.func 61) #[] #[]] 126::Lf) w) {res : Bool} (hF : shift_every_shift_Gauging_1 x = res) : Calls Try.prog 103 #[.agg #[.int .i64 x.Day,.int .i64 x.Stage,.int .i64 x.Flow.Lo,.int .i64 x.Flow.Hi],.pointer (some ⟨b_,0,none⟩)] w (fun e w => e = .returned (.bool res) ∧ Ctx G (.box b_ [.func (.func 61) #[] #[]] 126::Lf) w) := by
 unfold shift_every_shift_Gauging_1 at hF
 refine fnIn (args := [.agg #[.int .i64 x.Day,.int .i64 x.Stage,.int .i64 x.Flow.Lo,.int .i64 x.Flow.Hi],.pointer (some ⟨b_,0,none⟩)]) Try.func103 rfl Try.ntmps103 rfl fun a hf => wp_seq_k fun K1 h1 => cReg ?_
 refine stBx (cs := [.int .i64 x.Day,.int .i64 x.Stage,.int .i64 x.Flow.Lo,.int .i64 x.Flow.Hi]) hf hc rfl rfl rfl rfl fun b_1 a w hf hc => stP hf rfl rfl rfl (pA rfl) fun a hf => cNil ?_
 refine h1 _ _ ?_
 refine wp_seq_k fun K2 h2 => cReg ?_
 refine stE hf hc rfl rfl rfl (eLd1 sc_126 rfl (cell_box m1 rfl)) fun a w hf hc => stE hf hc rfl rfl rfl (eLdN (vs := [.int .i64 x.Day,.int .i64 x.Stage,.int .i64 x.Flow.Lo,.int .i64 x.Flow.Hi]) ag_71 rfl rfl (cells_box (n := 4) m0 rfl)) fun a w hf hc => stE hf hc rfl rfl rfl (eC (v := .bool (shift_Check_1 (⟨x.Day,x.Stage,x.Flow⟩ : shift_Gauging))) (vs := [.agg #[.int .i64 x.Day,.int .i64 x.Stage,.int .i64 x.Flow.Lo,.int .i64 x.Flow.Hi]]) (caps := []) en_61 rfl rfl rfl rfl (fun w hc => shift_Check_1_ok (⟨x.Day,x.Stage,x.Flow⟩ : shift_Gauging) hc rfl)) fun a w hf hc => stP hf rfl rfl rfl (pNot rfl) fun a hf => stP hf rfl rfl rfl (pA rfl) fun a hf => cNil ?_
 refine h2 _ _ ?_
 refine wp_ret ?_
 obtain rfl := hF
 replace hc := hc.drop k0
 exact fnOut1 (by simp) rfl Try.results103 hf hc (show look _ 3 = _ from rfl) ⟨rfl,hc⟩

def slices_IndexFunc_Lshift_Gauging_shift_Gauging_b4 (N : Nat) (s_ : List shift_Gauging) (x : Int) : Option (Step (Int) (Int)) :=
 cond (decide (x < ((s_.length : Nat) : Int)))
 (Option.bind (getI s_ x) fun e_1 =>
 cond (shift_every_shift_Gauging_1 e_1)
 (some (.ret x))
 (some (.cont (W (x + 1)))))
 (some (.brk x))
def slices_IndexFunc_Lshift_Gauging_shift_Gauging (N : Nat) (s_ : List shift_Gauging) : Option (Int) :=
 Option.bind (loopO (fun s4 => slices_IndexFunc_Lshift_Gauging_shift_Gauging_b4 N s_ s4) N 0) fun x4 =>
 exK x4 (fun s4 => some (-1)) some
theorem slices_IndexFunc_Lshift_Gauging_shift_Gauging_ok {N : Nat} {G : Pers} {Lf : List Ent} {w : World} (s_ : List shift_Gauging) {s__p : Option Addr} {s__c : Nat} {b_ : Nat} (h_s_ : Rd G 4 s__p s__c (s_.map enc_shift_Gauging)) (hc : Ctx G (.box b_ [.func (.func 61) #[] #[]] 126::Lf) w) {res : Int} (hF : slices_IndexFunc_Lshift_Gauging_shift_Gauging N s_ = some res) : Calls Try.prog 135 #[.slice s__p s_.length s__c,.func (.func 103) #[] #[.pointer (some ⟨b_,0,none⟩)]] w (fun e w => e = .returned (.int .i64 res) ∧ Ctx G (.box b_ [.func (.func 61) #[] #[]] 126::Lf) w) := by
 unfold slices_IndexFunc_Lshift_Gauging_shift_Gauging at hF
 refine fnIn (args := [.slice s__p s_.length s__c,.func (.func 103) #[] #[.pointer (some ⟨b_,0,none⟩)]]) Try.func135 rfl Try.ntmps135 rfl fun a hf => wp_seq_k fun K1 h1 => cReg ?_
 refine stP hf rfl rfl rfl (pA rfl) fun a hf => cNil ?_
 refine h1 _ _ ?_
 refine wp_seq_k fun K2 h2 => wp_seq_k fun K3 h3 => cReg ?_
 refine stP hf rfl rfl rfl (pM rfl) fun a hf => stP hf rfl rfl rfl (pLenS Try.underlying23 rfl) fun a hf => stP hf rfl rfl rfl (pM rfl) fun a hf => cNil ?_
 refine h3 _ _ ?_
 refine wp_block ?_
 obtain ⟨x4,hx4,hF⟩ := bnd_some hF
 let S4 : Int → Act → World → Prop := (fun (zz : Int) a w => Has 19 a [(0,.slice s__p s_.length s__c),(1,.func (.func 103) #[] #[.pointer (some ⟨b_,0,none⟩)]),(7,.int .i64 ((s_.length : Nat) : Int)),(8,.int .i64 zz)] ∧ Ctx G (.box b_ [.func (.func 61) #[] #[]] 126::Lf) w)
 have hr4 : ∀ (zz : Int) a w,x4 = .go zz → S4 zz a w → K2 a w := by
  rintro x a w rfl ⟨hf,hc⟩
  replace hF := exK_go hF
  refine h2 _ _ ?_
  refine wp_seq_k fun K5 h5 => cReg ?_
  refine stP hf rfl rfl rfl (pA rfl) fun a hf => cNil ?_
  refine h5 _ _ ?_
  refine wp_ret ?_
  obtain rfl := Option.some.inj hF
  exact fnOut1 (by simp) rfl Try.results135 hf hc (show look _ 4 = _ from rfl) ⟨rfl,hc⟩
 have ho4 : ∀ r,x4 = .out r → r = res := by
  rintro r rfl
  exact Option.some.inj hF
 refine cLoop N (loopW (S := S4) (x := x4) ?_ N 0 _ _ ⟨hf.keep ⟨rfl,rfl,rfl,rfl,trivial⟩,hc⟩ hx4)
 clear hF hf hc
 rintro x st4 a w KB4 ⟨hf,hc⟩ hF hfin4 hK4
 unfold slices_IndexFunc_Lshift_Gauging_shift_Gauging_b4 at hF
 refine wp_seq_k fun K6 h6 => cReg ?_
 refine stP hf rfl rfl rfl (pLt rfl rfl) fun a hf => cNil ?_
 refine h6 _ _ ?_
 refine wp_seq_k fun K7 h7 => cCond (b := (decide (x < ((s_.length : Nat) : Int)))) hf rfl (fun hb => ?_) (fun hb => ?_)
 ·replace hF := condT hb hF
  clear hb
  refine wp_skip ?_
  refine h7 _ _ ?_
  refine wp_seq_k fun K8 h8 => wp_block ?_
  refine wp_seq_k fun K9 h9 => cReg ?_
  refine stP hf rfl rfl rfl (pM rfl) fun a hf => stP hf rfl rfl rfl (pA rfl) fun a hf => cNil ?_
  refine h9 _ _ ?_
  refine wp_seq_k fun K10 h10 => cReg ?_
  refine stP hf rfl rfl rfl (pM rfl) fun a hf => stP hf rfl rfl rfl (pM rfl) fun a hf => stP hf rfl rfl rfl (pM rfl) fun a hf => ?_
  obtain ⟨e_1,he_1,hF⟩ := bnd_some hF
  obtain ⟨b_1,o,qa,qp⟩ := h_s_.atm he_1
  refine stP hf rfl rfl rfl (pIA Try.underlying23 sz_71 rfl rfl qa) fun a hf => stE hf hc rfl rfl rfl (eLdN (vs := [.int .i64 e_1.Day,.int .i64 e_1.Stage,.int .i64 e_1.Flow.Lo,.int .i64 e_1.Flow.Hi]) ag_71 rfl rfl (cells_pc qp (n := 4) (o' := 0) rfl)) fun a w hf hc => stE hf hc rfl rfl rfl (eC (v := .bool (shift_every_shift_Gauging_1 e_1)) (vs := [.agg #[.int .i64 e_1.Day,.int .i64 e_1.Stage,.int .i64 e_1.Flow.Lo,.int .i64 e_1.Flow.Hi]]) (caps := [.pointer (some ⟨b_,0,none⟩)]) en_103 rfl rfl rfl rfl (fun w hc => (shift_every_shift_Gauging_1_ok e_1 (hc.pick k0) rfl).mono fun e w h => ⟨h.1,(h.2.unpick k0)⟩)) fun a w hf hc => cNil ?_
  refine h10 _ _ ?_
  refine cCond (b := (shift_every_shift_Gauging_1 e_1)) hf rfl (fun hb => ?_) (fun hb => ?_)
  ·replace hF := condT hb hF
   clear hb
   refine wp_seq_k fun K11 h11 => cReg ?_
   refine stP hf rfl rfl rfl (pM rfl) fun a hf => stP hf rfl rfl rfl (pA rfl) fun a hf => cNil ?_
   refine h11 _ _ ?_
   refine wp_ret ?_
   refine xBlkR ?_
   refine xThenR ?_
   refine xThenR ?_
   have he := Option.some.inj hF
   rw [← he] at hfin4
   replace hF := ho4 _ hfin4
   refine xBlkR ?_
   refine xThenR ?_
   obtain rfl := hF
   exact fnOut1 (by simp) rfl Try.results135 hf hc (show look _ 4 = _ from rfl) ⟨rfl,hc⟩
  ·replace hF := condF hb hF
   clear hb
   refine wp_skip ?_
   refine h8 _ _ ?_
   refine cReg ?_
   refine stP hf rfl rfl rfl (pAdd rfl rfl) fun a hf => stP hf rfl rfl rfl (pM rfl) fun a hf => cNil ?_
   exact hK4 (W (x + 1)) _ _ (Option.some.inj hF).symm ⟨hf.keep ⟨rfl,rfl,rfl,rfl,trivial⟩,hc⟩
 ·replace hF := condF hb hF
  clear hb
  refine wp_exit ?_
  refine xThen ?_
  refine xThen ?_
  have he := Option.some.inj hF
  rw [← he] at hfin4
  refine cHit ?_
  exact hr4 _ _ _ hfin4 ⟨hf.keep ⟨rfl,rfl,rfl,rfl,trivial⟩,hc⟩

def slices_ContainsFunc_Lshift_Gauging_shift_Gauging (N : Nat) (s_ : List shift_Gauging) : Option (Bool) :=
 Option.bind (slices_IndexFunc_Lshift_Gauging_shift_Gauging N s_) fun r =>
 some (decide (0 ≤ r))
theorem slices_ContainsFunc_Lshift_Gauging_shift_Gauging_ok {N : Nat} {G : Pers} {Lf : List Ent} {w : World} (s_ : List shift_Gauging) {s__p : Option Addr} {s__c : Nat} {b_ : Nat} (h_s_ : Rd G 4 s__p s__c (s_.map enc_shift_Gauging)) (hc : Ctx G (.box b_ [.func (.func 61) #[] #[]] 126::Lf) w) {res : Bool} (hF : slices_ContainsFunc_Lshift_Gauging_shift_Gauging N s_ = some res) : Calls Try.prog 102 #[.slice s__p s_.length s__c,.func (.func 103) #[] #[.pointer (some ⟨b_,0,none⟩)]] w (fun e w => e = .returned (.bool res) ∧ Ctx G (.box b_ [.func (.func 61) #[] #[]] 126::Lf) w) := by
 unfold slices_ContainsFunc_Lshift_Gauging_shift_Gauging at hF
 refine fnIn (args := [.slice s__p s_.length s__c,.func (.func 103) #[] #[.pointer (some ⟨b_,0,none⟩)]]) Try.func102 rfl Try.ntmps102 rfl fun a hf => wp_seq_k fun K1 h1 => cReg ?_
 refine stP hf rfl rfl rfl (pA rfl) fun a hf => cNil ?_
 refine h1 _ _ ?_
 refine wp_seq_k fun K2 h2 => cReg ?_
 refine stP hf rfl rfl rfl (pM rfl) fun a hf => stP hf rfl rfl rfl (pM rfl) fun a hf => ?_
 obtain ⟨r,hr,hF⟩ := bnd_some hF
 refine stE hf hc rfl rfl rfl (eC (v := .int .i64 r) (vs := [.slice s__p s_.length s__c,.func (.func 103) #[] #[.pointer (some ⟨b_,0,none⟩)]]) (caps := []) en_135 rfl rfl rfl rfl (fun w hc => (slices_IndexFunc_Lshift_Gauging_shift_Gauging_ok s_ h_s_ (hc.pick k0) hr).mono fun e w h => ⟨h.1,(h.2.unpick k0)⟩)) fun a w hf hc => stP hf rfl rfl rfl (pGe rfl rfl) fun a hf => stP hf rfl rfl rfl (pA rfl) fun a hf => cNil ?_
 refine h2 _ _ ?_
 refine wp_ret ?_
 obtain rfl := Option.some.inj hF
 exact fnOut1 (by simp) rfl Try.results102 hf hc (show look _ 4 = _ from rfl) ⟨rfl,hc⟩

def shift_every_shift_Gauging (N : Nat) (l : List shift_Gauging) : Option (Bool) :=
 Option.bind (slices_ContainsFunc_Lshift_Gauging_shift_Gauging N l) fun r =>
 some (!r)
theorem shift_every_shift_Gauging_ok {N : Nat} {G : Pers} {Lf : List Ent} {w : World} (l : List shift_Gauging) {l_p : Option Addr} {l_c : Nat} (h_l : Rd G 4 l_p l_c (l.map enc_shift_Gauging)) (hc : Ctx G (Lf) w) {res : Bool} (hF : shift_every_shift_Gauging N l = some res) : Calls Try.prog 60 #[.slice l_p l.length l_c,.func (.func 61) #[] #[]] w (fun e w => e = .returned (.bool res) ∧ Ctx G (Lf) w) := by
 unfold shift_every_shift_Gauging at hF
 refine fnIn (args := [.slice l_p l.length l_c,.func (.func 61) #[] #[]]) Try.func60 rfl Try.ntmps60 rfl fun a hf => wp_seq_k fun K1 h1 => cReg ?_
 refine stBx (cs := [.func (.func 61) #[] #[]]) hf hc rfl rfl rfl rfl fun b_1 a w hf hc => stP hf rfl rfl rfl (pA rfl) fun a hf => cNil ?_
 refine h1 _ _ ?_
 refine wp_seq_k fun K2 h2 => cReg ?_
 refine stP hf rfl rfl rfl (pM rfl) fun a hf => stP hf rfl rfl rfl (pMF (us := [.pointer (some ⟨b_1,0,none⟩)]) rfl rfl) fun a hf => ?_
 obtain ⟨r,hr,hF⟩ := bnd_some hF
 refine stE hf hc rfl rfl rfl (eC (v := .bool r) (vs := [.slice l_p l.length l_c,.func (.func 103) #[] #[.pointer (some ⟨b_1,0,none⟩)]]) (caps := []) en_102 rfl rfl rfl rfl (fun w hc => (slices_ContainsFunc_Lshift_Gauging_shift_Gauging_ok l h_l (hc.pick k0) hr).mono fun e w h => ⟨h.1,(h.2.unpick k0)⟩)) fun a w hf hc => stP hf rfl rfl rfl (pNot rfl) fun a hf => stP hf rfl rfl rfl (pA rfl) fun a hf => cNil ?_
 refine h2 _ _ ?_
 refine wp_ret ?_
 obtain rfl := Option.some.inj hF
 replace hc := hc.drop k0
 exact fnOut1 (by simp) rfl Try.results60 hf hc (show look _ 4 = _ from rfl) ⟨rfl,hc⟩

end Go.Nilo
