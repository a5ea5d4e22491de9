/-
 What functions of the Go text compute, as plain functions, and that they do, part 1 of 3. Conditions: what each theorem names.
-/
import Derived.Test.YtakhbnnlhoninadNl30
import Derived.Test.YtakhbnnlhoninadProg
set_option linter.unusedVariables false
set_option linter.unusedSimpArgs false
set_option maxRecDepth 100000
set_option maxHeartbeats 4000000
namespace Go.Nilo
open Go.Proofs


structure kit_Stream where
 bytes : List Int
 used : Int
 mix : Int

structure shift_Mark where
 Stage : Int
 Flow : Int
@[reducible] def enc_shift_Mark (x : shift_Mark) : List Value := [i6 x.Stage,i6 x.Flow]
theorem one_enc_shift_Mark : ∀ x,(enc_shift_Mark x).length = 2 ∧ ones (enc_shift_Mark x) = true := fun _ => ⟨rfl,rfl⟩

structure level_Line where
 From : Int
 To : Int
 Day : Int
 Rise : Int
 Error : Int
@[reducible] def enc_level_Line (x : level_Line) : List Value := [i6 x.From,i6 x.To,i6 x.Day,i6 x.Rise,i6 x.Error]
theorem one_enc_level_Line : ∀ x,(enc_level_Line x).length = 5 ∧ ones (enc_level_Line x) = true := fun _ => ⟨rfl,rfl⟩

structure level_Net where
 Marks : Int
 Lines : List level_Line

structure level_Leg where
 Line : Int
 Back : Bool
@[reducible] def enc_level_Leg (x : level_Leg) : List Value := [i6 x.Line,.bool x.Back]
theorem one_enc_level_Leg : ∀ x,(enc_level_Leg x).length = 2 ∧ ones (enc_level_Leg x) = true := fun _ => ⟨rfl,rfl⟩

structure level_survey where
 Net : level_Net
 can : Nat → Int
 by_ : Nat → level_Leg

structure api_Span where
 Lo : Int
 Hi : Int
@[reducible] def enc_api_Span (x : api_Span) : List Value := [i6 x.Lo,i6 x.Hi]
theorem one_enc_api_Span : ∀ x,(enc_api_Span x).length = 2 ∧ ones (enc_api_Span x) = true := fun _ => ⟨rfl,rfl⟩

structure api_Ratio where
 N : Int
 D : Int
@[reducible] def enc_api_Ratio (x : api_Ratio) : List Value := [i6 x.N,i6 x.D]
theorem one_enc_api_Ratio : ∀ x,(enc_api_Ratio x).length = 2 ∧ ones (enc_api_Ratio x) = true := fun _ => ⟨rfl,rfl⟩

structure shift_Gauging where
 Day : Int
 Stage : Int
 Flow : api_Span
@[reducible] def enc_shift_Gauging (x : shift_Gauging) : List Value := [i6 x.Day,i6 x.Stage,i6 x.Flow.Lo,i6 x.Flow.Hi]
theorem one_enc_shift_Gauging : ∀ x,(enc_shift_Gauging x).length = 4 ∧ ones (enc_shift_Gauging x) = true := fun _ => ⟨rfl,rfl⟩

structure shift_Record where
 Rating : List shift_Mark
 Gaugings : List shift_Gauging

structure shift_book where
 Record : shift_Record
 passes : List api_Span

structure shift_Turn where
 Gauging : Int
 Up : Bool
@[reducible] def enc_shift_Turn (x : shift_Turn) : List Value := [i6 x.Gauging,.bool x.Up]
theorem one_enc_shift_Turn : ∀ x,(enc_shift_Turn x).length = 2 ∧ ones (enc_shift_Turn x) = true := fun _ => ⟨rfl,rfl⟩

theorem bt_59 : builtInfo Try.prog 59 = some ([.slice none 0 0,i6 0,i6 0],[(0,1),(1,1),(2,1)]) := by kernel_rfl

theorem en_4 : En Try.prog 4 := En.of Try.func4 (by kernel_rfl) (by kernel_rfl)

theorem fa_59_0 : ∀ (q : Addr) (w : World),(Instr.fieldAt 59 (.pointer (some q)) 0).run Try.prog w = .ok (.pointer (some (q.add 0))) w := fun _ _ => by kernel_rfl

theorem sc_22 : ScT Try.prog 22 := ⟨⟨_,Try.underlying22,trivial⟩,by kernel_rfl⟩

theorem fa_59_1 : ∀ (q : Addr) (w : World),(Instr.fieldAt 59 (.pointer (some q)) 1).run Try.prog w = .ok (.pointer (some (q.add 1))) w := fun _ _ => by kernel_rfl

theorem sc_3 : ScT Try.prog 3 := ⟨⟨_,Try.underlying3,trivial⟩,by kernel_rfl⟩

theorem sz_5 : (Try.prog.info? 5).map (·.size) = some 1 := by kernel_rfl

theorem sc_5 : ScT Try.prog 5 := ⟨⟨_,Try.underlying5,trivial⟩,by kernel_rfl⟩

theorem follows_mx : Try.prog.follows .mixedOrders = true := by kernel_rfl

theorem fa_59_2 : ∀ (q : Addr) (w : World),(Instr.fieldAt 59 (.pointer (some q)) 2).run Try.prog w = .ok (.pointer (some (q.add 2))) w := fun _ _ => by kernel_rfl

theorem sz_3 : (Try.prog.info? 3).map (·.size) = some 1 := by kernel_rfl

theorem en_8 : En Try.prog 8 := En.of Try.func8 (by kernel_rfl) (by kernel_rfl)

theorem en_9 : En Try.prog 9 := En.of Try.func9 (by kernel_rfl) (by kernel_rfl)

theorem bt_61 : builtInfo Try.prog 61 = some ([i6 0,i6 0],[(0,1),(1,1)]) := by kernel_rfl

theorem sl_25 : SlT Try.prog 25 61 2 16 (.agg #[i6 0,i6 0]) := SlT.of Try.underlying25 (by kernel_rfl) (by decide)

theorem en_5 : En Try.prog 5 := En.of Try.func5 (by kernel_rfl) (by kernel_rfl)

theorem bt_29 : builtInfo Try.prog 29 = some ([.slice none 0 0,.slice none 0 0],[(0,1),(1,1)]) := by kernel_rfl

theorem zr_29 : (Try.prog.info? 29).map (·.zero) = some (some (.agg #[.slice none 0 0,.slice none 0 0])) := by kernel_rfl

theorem sz_29 : (Try.prog.info? 29).map (·.size) = some 2 := by kernel_rfl

theorem sl_30 : SlT Try.prog 30 3 1 8 (i6 0) := SlT.of Try.underlying30 (by kernel_rfl) (by decide)

theorem zr_32 : (Try.prog.info? 32).map (·.zero) = some (some (.agg #[i6 0,i6 0,i6 0,i6 0,i6 0])) := by kernel_rfl

theorem bt_32 : builtInfo Try.prog 32 = some ([i6 0,i6 0,i6 0,i6 0,i6 0],[(0,1),(1,1),(2,1),(3,1),(4,1)]) := by kernel_rfl

theorem sz_32 : (Try.prog.info? 32).map (·.size) = some 5 := by kernel_rfl

theorem fa_32_4 : ∀ (q : Addr) (w : World),(Instr.fieldAt 32 (.pointer (some q)) 4).run Try.prog w = .ok (.pointer (some (q.add 4))) w := fun _ _ => by kernel_rfl

theorem fa_32_3 : ∀ (q : Addr) (w : World),(Instr.fieldAt 32 (.pointer (some q)) 3).run Try.prog w = .ok (.pointer (some (q.add 3))) w := fun _ _ => by kernel_rfl

theorem ag_32 : AggT Try.prog 32 5 := ⟨⟨_,Try.underlying32,trivial⟩,by kernel_rfl⟩

theorem en_6 : En Try.prog 6 := En.of Try.func6 (by kernel_rfl) (by kernel_rfl)

theorem sl_34 : SlT Try.prog 34 32 5 40 (.agg #[i6 0,i6 0,i6 0,i6 0,i6 0]) := SlT.of Try.underlying34 (by kernel_rfl) (by decide)

theorem bt_36 : builtInfo Try.prog 36 = some ([i6 0,.slice none 0 0],[(0,1),(1,1)]) := by kernel_rfl

theorem zr_36 : (Try.prog.info? 36).map (·.zero) = some (some (.agg #[i6 0,.slice none 0 0])) := by kernel_rfl

theorem sz_36 : (Try.prog.info? 36).map (·.size) = some 2 := by kernel_rfl

theorem ag_36 : AggT Try.prog 36 2 := ⟨⟨_,Try.underlying36,trivial⟩,by kernel_rfl⟩

theorem zr_38 : (Try.prog.info? 38).map (·.zero) = some (some (.agg #[i6 0,i6 0])) := by kernel_rfl

theorem zr_105 : (Try.prog.info? 105).map (·.zero) = some (some (.nilFunc)) := by kernel_rfl

theorem sz_105 : (Try.prog.info? 105).map (·.size) = some 1 := by kernel_rfl

theorem fa_36_0 : ∀ (q : Addr) (w : World),(Instr.fieldAt 36 (.pointer (some q)) 0).run Try.prog w = .ok (.pointer (some (q.add 0))) w := fun _ _ => by kernel_rfl

theorem en_31 : En Try.prog 31 := En.of Try.func31 (by kernel_rfl) (by kernel_rfl)

theorem fa_36_1 : ∀ (q : Addr) (w : World),(Instr.fieldAt 36 (.pointer (some q)) 1).run Try.prog w = .ok (.pointer (some (q.add 1))) w := fun _ _ => by kernel_rfl

theorem sc_34 : ScT Try.prog 34 := ⟨⟨_,Try.underlying34,trivial⟩,by kernel_rfl⟩

theorem sc_129 : ScT Try.prog 129 := ⟨⟨_,Try.underlying129,trivial⟩,by kernel_rfl⟩

theorem sc_105 : ScT Try.prog 105 := ⟨⟨_,Try.underlying105,trivial⟩,by kernel_rfl⟩

theorem fa_32_0 : ∀ (q : Addr) (w : World),(Instr.fieldAt 32 (.pointer (some q)) 0).run Try.prog w = .ok (.pointer (some (q.add 0))) w := fun _ _ => by kernel_rfl

theorem en_54 : En Try.prog 54 := En.of Try.func54 (by kernel_rfl) (by kernel_rfl)

theorem fa_32_1 : ∀ (q : Addr) (w : World),(Instr.fieldAt 32 (.pointer (some q)) 1).run Try.prog w = .ok (.pointer (some (q.add 1))) w := fun _ _ => by kernel_rfl

theorem fa_32_2 : ∀ (q : Addr) (w : World),(Instr.fieldAt 32 (.pointer (some q)) 2).run Try.prog w = .ok (.pointer (some (q.add 2))) w := fun _ _ => by kernel_rfl

theorem en_56 : En Try.prog 56 := En.of Try.func56 (by kernel_rfl) (by kernel_rfl)

theorem en_73 : En Try.prog 73 := En.of Try.func73 (by kernel_rfl) (by kernel_rfl)

theorem en_84 : En Try.prog 84 := En.of Try.func84 (by kernel_rfl) (by kernel_rfl)

theorem en_72 : En Try.prog 72 := En.of Try.func72 (by kernel_rfl) (by kernel_rfl)

theorem en_55 : En Try.prog 55 := En.of Try.func55 (by kernel_rfl) (by kernel_rfl)

theorem en_30 : En Try.prog 30 := En.of Try.func30 (by kernel_rfl) (by kernel_rfl)

theorem bt_73 : builtInfo Try.prog 73 = some ((catc [i6 0,.slice none 0 0] 169 encI_i64 (fun _ => 0) (catc [] 169 enc_level_Leg (fun _ => (⟨0,false⟩ : level_Leg)) [])),[(0,2),(2,169),(171,338)]) := by kernel_rfl

theorem fa_73_1 : ∀ (q : Addr) (w : World),(Instr.fieldAt 73 (.pointer (some q)) 1).run Try.prog w = .ok (.pointer (some (q.add 2))) w := fun _ _ => by kernel_rfl

theorem sz_65 : (Try.prog.info? 65).map (·.size) = some 13 := by kernel_rfl

theorem sc_62 : ScT Try.prog 62 := ⟨⟨_,Try.underlying62,trivial⟩,by kernel_rfl⟩

theorem fa_73_2 : ∀ (q : Addr) (w : World),(Instr.fieldAt 73 (.pointer (some q)) 2).run Try.prog w = .ok (.pointer (some (q.add 171))) w := fun _ _ => by kernel_rfl

theorem sz_70 : (Try.prog.info? 70).map (·.size) = some 26 := by kernel_rfl

theorem zr_152 : (Try.prog.info? 152).map (·.zero) = some (some (.pointer none)) := by kernel_rfl

theorem zr_153 : (Try.prog.info? 153).map (·.zero) = some (some (.pointer none)) := by kernel_rfl

theorem sz_152 : (Try.prog.info? 152).map (·.size) = some 1 := by kernel_rfl

theorem sz_153 : (Try.prog.info? 153).map (·.size) = some 1 := by kernel_rfl

theorem fa_73_0 : ∀ (q : Addr) (w : World),(Instr.fieldAt 73 (.pointer (some q)) 0).run Try.prog w = .ok (.pointer (some (q.add 0))) w := fun _ _ => by kernel_rfl

theorem zr_3 : (Try.prog.info? 3).map (·.zero) = some (some (i6 0)) := by kernel_rfl

theorem sc_152 : ScT Try.prog 152 := ⟨⟨_,Try.underlying152,trivial⟩,by kernel_rfl⟩

theorem en_75 : En Try.prog 75 := En.of Try.func75 (by kernel_rfl) (by kernel_rfl)

theorem bt_69 : builtInfo Try.prog 69 = some ([i6 0,.bool false],[(0,1),(1,1)]) := by kernel_rfl

theorem sl_146 : SlT Try.prog 146 69 2 16 (.agg #[i6 0,.bool false]) := SlT.of Try.underlying146 (by kernel_rfl) (by decide)

theorem sz_69 : (Try.prog.info? 69).map (·.size) = some 2 := by kernel_rfl

theorem ag_69 : AggT Try.prog 69 2 := ⟨⟨_,Try.underlying69,trivial⟩,by kernel_rfl⟩

theorem zr_69 : (Try.prog.info? 69).map (·.zero) = some (some (.agg #[i6 0,.bool false])) := by kernel_rfl

theorem fa_69_1 : ∀ (q : Addr) (w : World),(Instr.fieldAt 69 (.pointer (some q)) 1).run Try.prog w = .ok (.pointer (some (q.add 1))) w := fun _ _ => by kernel_rfl

theorem sc_4 : ScT Try.prog 4 := ⟨⟨_,Try.underlying4,trivial⟩,by kernel_rfl⟩

theorem zr_149 : (Try.prog.info? 149).map (·.zero) = some (some (.agg #[.nilFunc])) := by kernel_rfl

theorem bt_149 : builtInfo Try.prog 149 = some ([.nilFunc],[(0,1)]) := by kernel_rfl

theorem sz_149 : (Try.prog.info? 149).map (·.size) = some 1 := by kernel_rfl

theorem ag_149 : AggT Try.prog 149 1 := ⟨⟨_,Try.underlying149,trivial⟩,by kernel_rfl⟩

theorem en_88 : En Try.prog 88 := En.of Try.func88 (by kernel_rfl) (by kernel_rfl)

theorem sc_147 : ScT Try.prog 147 := ⟨⟨_,Try.underlying147,trivial⟩,by kernel_rfl⟩

theorem fa_69_0 : ∀ (q : Addr) (w : World),(Instr.fieldAt 69 (.pointer (some q)) 0).run Try.prog w = .ok (.pointer (some (q.add 0))) w := fun _ _ => by kernel_rfl

theorem en_91 : En Try.prog 91 := En.of Try.func91 (by kernel_rfl) (by kernel_rfl)

theorem en_92 : En Try.prog 92 := En.of Try.func92 (by kernel_rfl) (by kernel_rfl)

theorem en_87 : En Try.prog 87 := En.of Try.func87 (by kernel_rfl) (by kernel_rfl)

theorem en_76 : En Try.prog 76 := En.of Try.func76 (by kernel_rfl) (by kernel_rfl)

theorem en_90 : En Try.prog 90 := En.of Try.func90 (by kernel_rfl) (by kernel_rfl)

theorem en_77 : En Try.prog 77 := En.of Try.func77 (by kernel_rfl) (by kernel_rfl)

theorem sc_153 : ScT Try.prog 153 := ⟨⟨_,Try.underlying153,trivial⟩,by kernel_rfl⟩

theorem en_86 : En Try.prog 86 := En.of Try.func86 (by kernel_rfl) (by kernel_rfl)

theorem en_85 : En Try.prog 85 := En.of Try.func85 (by kernel_rfl) (by kernel_rfl)

theorem en_74 : En Try.prog 74 := En.of Try.func74 (by kernel_rfl) (by kernel_rfl)

theorem en_57 : En Try.prog 57 := En.of Try.func57 (by kernel_rfl) (by kernel_rfl)

theorem zr_4 : (Try.prog.info? 4).map (·.zero) = some (some (.bool false)) := by kernel_rfl

theorem sz_4 : (Try.prog.info? 4).map (·.size) = some 1 := by kernel_rfl

theorem en_58 : En Try.prog 58 := En.of Try.func58 (by kernel_rfl) (by kernel_rfl)

theorem en_32 : En Try.prog 32 := En.of Try.func32 (by kernel_rfl) (by kernel_rfl)

theorem en_15 : En Try.prog 15 := En.of Try.func15 (by kernel_rfl) (by kernel_rfl)

theorem bt_38 : builtInfo Try.prog 38 = some ([i6 0,i6 0],[(0,1),(1,1)]) := by kernel_rfl

theorem sz_38 : (Try.prog.info? 38).map (·.size) = some 2 := by kernel_rfl

theorem ag_38 : AggT Try.prog 38 2 := ⟨⟨_,Try.underlying38,trivial⟩,by kernel_rfl⟩

theorem en_7 : En Try.prog 7 := En.of Try.func7 (by kernel_rfl) (by kernel_rfl)

theorem fa_38_0 : ∀ (q : Addr) (w : World),(Instr.fieldAt 38 (.pointer (some q)) 0).run Try.prog w = .ok (.pointer (some (q.add 0))) w := fun _ _ => by kernel_rfl

theorem fa_38_1 : ∀ (q : Addr) (w : World),(Instr.fieldAt 38 (.pointer (some q)) 1).run Try.prog w = .ok (.pointer (some (q.add 1))) w := fun _ _ => by kernel_rfl

theorem fa_29_0 : ∀ (q : Addr) (w : World),(Instr.fieldAt 29 (.pointer (some q)) 0).run Try.prog w = .ok (.pointer (some (q.add 0))) w := fun _ _ => by kernel_rfl

theorem sc_25 : ScT Try.prog 25 := ⟨⟨_,Try.underlying25,trivial⟩,by kernel_rfl⟩

theorem zr_45 : (Try.prog.info? 45).map (·.zero) = some (some (.agg #[i6 0,i6 0])) := by kernel_rfl

theorem en_36 : En Try.prog 36 := En.of Try.func36 (by kernel_rfl) (by kernel_rfl)

theorem sz_61 : (Try.prog.info? 61).map (·.size) = some 2 := by kernel_rfl

theorem ag_61 : AggT Try.prog 61 2 := ⟨⟨_,Try.underlying61,trivial⟩,by kernel_rfl⟩

theorem sc_109 : ScT Try.prog 109 := ⟨⟨_,Try.underlying109,trivial⟩,by kernel_rfl⟩

theorem fa_61_0 : ∀ (q : Addr) (w : World),(Instr.fieldAt 61 (.pointer (some q)) 0).run Try.prog w = .ok (.pointer (some (q.add 0))) w := fun _ _ => by kernel_rfl

theorem en_35 : En Try.prog 35 := En.of Try.func35 (by kernel_rfl) (by kernel_rfl)

theorem fa_61_1 : ∀ (q : Addr) (w : World),(Instr.fieldAt 61 (.pointer (some q)) 1).run Try.prog w = .ok (.pointer (some (q.add 1))) w := fun _ _ => by kernel_rfl

theorem en_61 : En Try.prog 61 := En.of Try.func61 (by kernel_rfl) (by kernel_rfl)

theorem en_60 : En Try.prog 60 := En.of Try.func60 (by kernel_rfl) (by kernel_rfl)

theorem en_79 : En Try.prog 79 := En.of Try.func79 (by kernel_rfl) (by kernel_rfl)

theorem en_39 : En Try.prog 39 := En.of Try.func39 (by kernel_rfl) (by kernel_rfl)

theorem en_78 : En Try.prog 78 := En.of Try.func78 (by kernel_rfl) (by kernel_rfl)

theorem en_59 : En Try.prog 59 := En.of Try.func59 (by kernel_rfl) (by kernel_rfl)

theorem en_33 : En Try.prog 33 := En.of Try.func33 (by kernel_rfl) (by kernel_rfl)

theorem en_34 : En Try.prog 34 := En.of Try.func34 (by kernel_rfl) (by kernel_rfl)

theorem en_16 : En Try.prog 16 := En.of Try.func16 (by kernel_rfl) (by kernel_rfl)

theorem bt_45 : builtInfo Try.prog 45 = some ([i6 0,i6 0],[(0,1),(1,1)]) := by kernel_rfl

theorem sz_45 : (Try.prog.info? 45).map (·.size) = some 2 := by kernel_rfl

theorem zr_61 : (Try.prog.info? 61).map (·.zero) = some (some (.agg #[i6 0,i6 0])) := by kernel_rfl

theorem en_40 : En Try.prog 40 := En.of Try.func40 (by kernel_rfl) (by kernel_rfl)

theorem ag_45 : AggT Try.prog 45 2 := ⟨⟨_,Try.underlying45,trivial⟩,by kernel_rfl⟩

theorem en_38 : En Try.prog 38 := En.of Try.func38 (by kernel_rfl) (by kernel_rfl)

theorem en_37 : En Try.prog 37 := En.of Try.func37 (by kernel_rfl) (by kernel_rfl)

theorem en_17 : En Try.prog 17 := En.of Try.func17 (by kernel_rfl) (by kernel_rfl)

theorem en_10 : En Try.prog 10 := En.of Try.func10 (by kernel_rfl) (by kernel_rfl)

theorem ge_45 : Try.prog.eqGuardType Try.prog.depth 45 = false := by kernel_rfl

theorem eqs_45 (x0 : Int) (x1 : Int) (y0 : Int) (y1 : Int) (w : World) : (Op.equalIn 10000 45 (.agg #[i6 x0,i6 x1]) (.agg #[i6 y0,i6 y1])).run Try.prog w = .ok (x0 == y0 && x1 == y1) w := by
 rw [run_equalIn_agg w 9999 45 _ _ (by kernel_rfl) (by kernel_rfl)]
 simp [Op.eqFields,part,go_sem]
 repeat' split
 all_goals simp_all

theorem fa_45_1 : ∀ (q : Addr) (w : World),(Instr.fieldAt 45 (.pointer (some q)) 1).run Try.prog w = .ok (.pointer (some (q.add 1))) w := fun _ _ => by kernel_rfl

theorem fa_29_1 : ∀ (q : Addr) (w : World),(Instr.fieldAt 29 (.pointer (some q)) 1).run Try.prog w = .ok (.pointer (some (q.add 1))) w := fun _ _ => by kernel_rfl

theorem sc_27 : ScT Try.prog 27 := ⟨⟨_,Try.underlying27,trivial⟩,by kernel_rfl⟩

theorem fa_45_0 : ∀ (q : Addr) (w : World),(Instr.fieldAt 45 (.pointer (some q)) 0).run Try.prog w = .ok (.pointer (some (q.add 0))) w := fun _ _ => by kernel_rfl

theorem en_11 : En Try.prog 11 := En.of Try.func11 (by kernel_rfl) (by kernel_rfl)

theorem bt_50 : builtInfo Try.prog 50 = some ([i6 0,i6 0,i6 0,i6 0],[(0,1),(1,1),(2,2)]) := by kernel_rfl

theorem sl_27 : SlT Try.prog 27 50 4 32 (.agg #[i6 0,i6 0,i6 0,i6 0]) := SlT.of Try.underlying27 (by kernel_rfl) (by decide)

theorem sz_27 : (Try.prog.info? 27).map (·.size) = some 1 := by kernel_rfl

theorem ag_29 : AggT Try.prog 29 2 := ⟨⟨_,Try.underlying29,trivial⟩,by kernel_rfl⟩

theorem sz_50 : (Try.prog.info? 50).map (·.size) = some 4 := by kernel_rfl

theorem ag_50 : AggT Try.prog 50 4 := ⟨⟨_,Try.underlying50,trivial⟩,by kernel_rfl⟩

theorem sc_132 : ScT Try.prog 132 := ⟨⟨_,Try.underlying132,trivial⟩,by kernel_rfl⟩

theorem fa_50_0 : ∀ (q : Addr) (w : World),(Instr.fieldAt 50 (.pointer (some q)) 0).run Try.prog w = .ok (.pointer (some (q.add 0))) w := fun _ _ => by kernel_rfl

theorem fa_50_1 : ∀ (q : Addr) (w : World),(Instr.fieldAt 50 (.pointer (some q)) 1).run Try.prog w = .ok (.pointer (some (q.add 1))) w := fun _ _ => by kernel_rfl

theorem fa_50_2 : ∀ (q : Addr) (w : World),(Instr.fieldAt 50 (.pointer (some q)) 2).run Try.prog w = .ok (.pointer (some (q.add 2))) w := fun _ _ => by kernel_rfl

theorem en_63 : En Try.prog 63 := En.of Try.func63 (by kernel_rfl) (by kernel_rfl)

theorem en_81 : En Try.prog 81 := En.of Try.func81 (by kernel_rfl) (by kernel_rfl)

theorem en_89 : En Try.prog 89 := En.of Try.func89 (by kernel_rfl) (by kernel_rfl)

theorem en_80 : En Try.prog 80 := En.of Try.func80 (by kernel_rfl) (by kernel_rfl)

theorem en_62 : En Try.prog 62 := En.of Try.func62 (by kernel_rfl) (by kernel_rfl)

theorem zr_50 : (Try.prog.info? 50).map (·.zero) = some (some (.agg #[i6 0,i6 0,i6 0,i6 0])) := by kernel_rfl

theorem en_41 : En Try.prog 41 := En.of Try.func41 (by kernel_rfl) (by kernel_rfl)

theorem bt_80 : builtInfo Try.prog 80 = some ([.slice none 0 0,.slice none 0 0,.slice none 0 0],[(0,2),(2,1)]) := by kernel_rfl

theorem zr_111 : (Try.prog.info? 111).map (·.zero) = some (some (.nilFunc)) := by kernel_rfl

theorem sz_111 : (Try.prog.info? 111).map (·.size) = some 1 := by kernel_rfl

theorem en_21 : En Try.prog 21 := En.of Try.func21 (by kernel_rfl) (by kernel_rfl)

theorem sc_111 : ScT Try.prog 111 := ⟨⟨_,Try.underlying111,trivial⟩,by kernel_rfl⟩

theorem fa_80_0 : ∀ (q : Addr) (w : World),(Instr.fieldAt 80 (.pointer (some q)) 0).run Try.prog w = .ok (.pointer (some (q.add 0))) w := fun _ _ => by kernel_rfl

theorem en_42 : En Try.prog 42 := En.of Try.func42 (by kernel_rfl) (by kernel_rfl)

theorem fa_80_1 : ∀ (q : Addr) (w : World),(Instr.fieldAt 80 (.pointer (some q)) 1).run Try.prog w = .ok (.pointer (some (q.add 2))) w := fun _ _ => by kernel_rfl

theorem sc_51 : ScT Try.prog 51 := ⟨⟨_,Try.underlying51,trivial⟩,by kernel_rfl⟩

theorem sl_51 : SlT Try.prog 51 38 2 16 (.agg #[i6 0,i6 0]) := SlT.of Try.underlying51 (by kernel_rfl) (by decide)

theorem sz_51 : (Try.prog.info? 51).map (·.size) = some 1 := by kernel_rfl

theorem en_47 : En Try.prog 47 := En.of Try.func47 (by kernel_rfl) (by kernel_rfl)

theorem en_18 : En Try.prog 18 := En.of Try.func18 (by kernel_rfl) (by kernel_rfl)

theorem en_12 : En Try.prog 12 := En.of Try.func12 (by kernel_rfl) (by kernel_rfl)

theorem en_43 : En Try.prog 43 := En.of Try.func43 (by kernel_rfl) (by kernel_rfl)

theorem en_44 : En Try.prog 44 := En.of Try.func44 (by kernel_rfl) (by kernel_rfl)

theorem zr_85 : (Try.prog.info? 85).map (·.zero) = some (some (.agg (catc [] 601 encI_i64 (fun _ => 0) []).toArray)) := by kernel_rfl

theorem en_64 : En Try.prog 64 := En.of Try.func64 (by kernel_rfl) (by kernel_rfl)

@[reducible] def encA_85 (x : Nat → Int) : List Value := catc [] 601 encI_i64 x []
theorem one_encA_85 : ∀ x,(encA_85 x).length = 601 ∧ ones (encA_85 x) = true := fun x => ⟨(catc_one one_encI_i64 601 x).1.trans (by decide),(catc_one one_encI_i64 601 x).2⟩

theorem ag_85 : AggT Try.prog 85 601 := ⟨⟨_,Try.underlying85,trivial⟩,by kernel_rfl⟩

theorem sl_81 : SlT Try.prog 81 85 601 4808 (.agg (catc [] 601 encI_i64 (fun _ => 0) []).toArray) := SlT.of Try.underlying81 (by kernel_rfl) (by decide)

theorem sc_133 : ScT Try.prog 133 := ⟨⟨_,Try.underlying133,trivial⟩,by kernel_rfl⟩

theorem sz_85 : (Try.prog.info? 85).map (·.size) = some 601 := by kernel_rfl

theorem en_65 : En Try.prog 65 := En.of Try.func65 (by kernel_rfl) (by kernel_rfl)

theorem en_45 : En Try.prog 45 := En.of Try.func45 (by kernel_rfl) (by kernel_rfl)

theorem en_46 : En Try.prog 46 := En.of Try.func46 (by kernel_rfl) (by kernel_rfl)

theorem en_19 : En Try.prog 19 := En.of Try.func19 (by kernel_rfl) (by kernel_rfl)

theorem en_20 : En Try.prog 20 := En.of Try.func20 (by kernel_rfl) (by kernel_rfl)

theorem zr_30 : (Try.prog.info? 30).map (·.zero) = some (some (.slice none 0 0)) := by kernel_rfl

theorem sc_30 : ScT Try.prog 30 := ⟨⟨_,Try.underlying30,trivial⟩,by kernel_rfl⟩

theorem en_48 : En Try.prog 48 := En.of Try.func48 (by kernel_rfl) (by kernel_rfl)

theorem en_22 : En Try.prog 22 := En.of Try.func22 (by kernel_rfl) (by kernel_rfl)

theorem sz_30 : (Try.prog.info? 30).map (·.size) = some 1 := by kernel_rfl

theorem en_13 : En Try.prog 13 := En.of Try.func13 (by kernel_rfl) (by kernel_rfl)

theorem en_23 : En Try.prog 23 := En.of Try.func23 (by kernel_rfl) (by kernel_rfl)

theorem en_24 : En Try.prog 24 := En.of Try.func24 (by kernel_rfl) (by kernel_rfl)

theorem bt_94 : builtInfo Try.prog 94 = some ([i6 0,.bool false],[(0,1),(1,1)]) := by kernel_rfl

theorem sl_95 : SlT Try.prog 95 94 2 16 (.agg #[i6 0,.bool false]) := SlT.of Try.underlying95 (by kernel_rfl) (by decide)

theorem sz_94 : (Try.prog.info? 94).map (·.size) = some 2 := by kernel_rfl

theorem ag_94 : AggT Try.prog 94 2 := ⟨⟨_,Try.underlying94,trivial⟩,by kernel_rfl⟩

theorem sc_118 : ScT Try.prog 118 := ⟨⟨_,Try.underlying118,trivial⟩,by kernel_rfl⟩

theorem fa_94_0 : ∀ (q : Addr) (w : World),(Instr.fieldAt 94 (.pointer (some q)) 0).run Try.prog w = .ok (.pointer (some (q.add 0))) w := fun _ _ => by kernel_rfl

theorem en_50 : En Try.prog 50 := En.of Try.func50 (by kernel_rfl) (by kernel_rfl)

theorem en_67 : En Try.prog 67 := En.of Try.func67 (by kernel_rfl) (by kernel_rfl)

theorem en_82 : En Try.prog 82 := En.of Try.func82 (by kernel_rfl) (by kernel_rfl)

theorem en_66 : En Try.prog 66 := En.of Try.func66 (by kernel_rfl) (by kernel_rfl)

theorem en_49 : En Try.prog 49 := En.of Try.func49 (by kernel_rfl) (by kernel_rfl)

theorem zr_94 : (Try.prog.info? 94).map (·.zero) = some (some (.agg #[i6 0,.bool false])) := by kernel_rfl

theorem fa_94_1 : ∀ (q : Addr) (w : World),(Instr.fieldAt 94 (.pointer (some q)) 1).run Try.prog w = .ok (.pointer (some (q.add 1))) w := fun _ _ => by kernel_rfl

theorem zr_121 : (Try.prog.info? 121).map (·.zero) = some (some (.agg #[.nilFunc])) := by kernel_rfl

theorem bt_121 : builtInfo Try.prog 121 = some ([.nilFunc],[(0,1)]) := by kernel_rfl

theorem sz_121 : (Try.prog.info? 121).map (·.size) = some 1 := by kernel_rfl

theorem ag_121 : AggT Try.prog 121 1 := ⟨⟨_,Try.underlying121,trivial⟩,by kernel_rfl⟩

theorem en_51 : En Try.prog 51 := En.of Try.func51 (by kernel_rfl) (by kernel_rfl)

theorem sc_119 : ScT Try.prog 119 := ⟨⟨_,Try.underlying119,trivial⟩,by kernel_rfl⟩

theorem en_68 : En Try.prog 68 := En.of Try.func68 (by kernel_rfl) (by kernel_rfl)

theorem en_69 : En Try.prog 69 := En.of Try.func69 (by kernel_rfl) (by kernel_rfl)

theorem en_25 : En Try.prog 25 := En.of Try.func25 (by kernel_rfl) (by kernel_rfl)

theorem zr_81 : (Try.prog.info? 81).map (·.zero) = some (some (.slice none 0 0)) := by kernel_rfl

theorem sz_81 : (Try.prog.info? 81).map (·.size) = some 1 := by kernel_rfl

theorem sc_81 : ScT Try.prog 81 := ⟨⟨_,Try.underlying81,trivial⟩,by kernel_rfl⟩

theorem en_52 : En Try.prog 52 := En.of Try.func52 (by kernel_rfl) (by kernel_rfl)

theorem en_26 : En Try.prog 26 := En.of Try.func26 (by kernel_rfl) (by kernel_rfl)

theorem en_53 : En Try.prog 53 := En.of Try.func53 (by kernel_rfl) (by kernel_rfl)

theorem en_27 : En Try.prog 27 := En.of Try.func27 (by kernel_rfl) (by kernel_rfl)

theorem ge_38 : Try.prog.eqGuardType Try.prog.depth 38 = false := by kernel_rfl

theorem eqs_38 (x0 : Int) (x1 : Int) (y0 : Int) (y1 : Int) (w : World) : (Op.equalIn 10000 38 (.agg #[i6 x0,i6 x1]) (.agg #[i6 y0,i6 y1])).run Try.prog w = .ok (x0 == y0 && x1 == y1) w := by
 rw [run_equalIn_agg w 9999 38 _ _ (by kernel_rfl) (by kernel_rfl)]
 simp [Op.eqFields,part,go_sem]
 repeat' split
 all_goals simp_all

theorem en_28 : En Try.prog 28 := En.of Try.func28 (by kernel_rfl) (by kernel_rfl)

theorem en_29 : En Try.prog 29 := En.of Try.func29 (by kernel_rfl) (by kernel_rfl)

theorem en_14 : En Try.prog 14 := En.of Try.func14 (by kernel_rfl) (by kernel_rfl)

def kit_New (N : Nat) (bytes : List Int) : Option (Int × Int) :=
 some (0,0)
theorem kit_New_ok {N : Nat} {G : Pers} {Lf : List Ent} {w : World} (bytes : List Int) {bytes_p : Option Addr} {bytes_c : Nat} (h_bytes : Rd G 1 bytes_p bytes_c (bytes.map encI_u8)) (hc : Ctx G (Lf) w) {res : Int × Int} (hF : kit_New N bytes = some res) : Calls Try.prog 4 #[.slice bytes_p bytes.length bytes_c] w (fun e w => ∃ (b'1 : Nat),e = .returned (pq b'1) ∧ Ctx G (.box b'1 [.slice bytes_p bytes.length bytes_c,i6 res.1,i6 res.2] 59::Lf) w) := by
 unfold kit_New at hF
 refine fnIn Try.func4 rfl Try.ntmps4 rfl fun a hf => zS fun K h => sp 1 hf rfl fun a hf => zT h ?_
 refine zS fun K h => sp 1 hf rfl fun a hf => zP hf rfl (pBuildS (cells := [.slice bytes_p bytes.length bytes_c,i6 0,i6 0]) bt_59 rfl rfl) fun a hf => zB hf hc rfl fun b_1 a w hf hc => sp 1 hf rfl fun a hf => zT h ?_
 refine wp_ret ?_
 obtain rfl := sj hF
 exact zO1 Try.results4 hf rfl ⟨b_1,rfl,hc⟩

def kit_Stream_Next_j9 (N : Nat) (s_ : kit_Stream) (n : Int) (b_2 : Int) (b_3 : Int) : Option (Int × Int × Int) :=
 Option.bind (nz n) fun un_1 =>
 some (b_3.tmod n,W (s_.used + 1),(W ((W ((W (5 * s_.mix)) + b_2)) + 1)).tmod 251)
def kit_Stream_Next_j6 (N : Nat) (s_ : kit_Stream) (n : Int) (b_2 : Int) : Option (Int × Int × Int) :=
 cond (decide (256 < n))
 (kit_Stream_Next_j9 N s_ n b_2 (W ((W (256 * b_2)) + ((W ((W ((W (5 * s_.mix)) + b_2)) + 1)).tmod 251))))
 (kit_Stream_Next_j9 N s_ n b_2 b_2)
def kit_Stream_Next (N : Nat) (s_ : kit_Stream) (n : Int) : Option (Int × Int × Int) :=
 cond ((decide (n < 2)) || (((s_.bytes.length : Nat) : Int) == 0))
 (some (0,s_.used,s_.mix))
 (Option.bind (nz ((s_.bytes.length : Nat) : Int)) fun un =>
 Option.bind (getI s_.bytes (s_.used.tmod ((s_.bytes.length : Nat) : Int))) fun e_1 =>
 cond (decide (((s_.bytes.length : Nat) : Int) ≤ s_.used))
 (Option.bind (nz ((s_.bytes.length : Nat) : Int)) fun un_2 =>
 kit_Stream_Next_j6 N s_ n (W ((W (e_1)) + (W ((W (11 * s_.mix)) + (W (s_.used.tdiv ((s_.bytes.length : Nat) : Int))))))))
 (kit_Stream_Next_j6 N s_ n (W (e_1))))
theorem kit_Stream_Next_ok {N : Nat} {G : Pers} {Lf : List Ent} {w : World} (s_ : kit_Stream) (n : Int) {b_ : Nat} {s__bytes_p : Option Addr} {s__bytes_c : Nat} (h_s__bytes : Rd G 1 s__bytes_p s__bytes_c (s_.bytes.map encI_u8)) (hc : Ctx G (.box b_ [.slice s__bytes_p s_.bytes.length s__bytes_c,i6 s_.used,i6 s_.mix] 59::Lf) w) {res : Int × Int × Int} (hF : kit_Stream_Next N s_ n = some res) : Calls Try.prog 8 #[pq b_,i6 n] w (fun e w => e = .returned (i6 res.1) ∧ Ctx G (.box b_ [.slice s__bytes_p s_.bytes.length s__bytes_c,i6 res.2.1,i6 res.2.2] 59::Lf) w) := by
 unfold kit_Stream_Next at hF
 refine fnIn Try.func8 rfl Try.ntmps8 rfl fun a hf => zS fun K h => sp 1 hf rfl fun a hf => zT h ?_
 refine wp_seq_k fun K2 h2 => zS fun K h => sp 3 hf rfl fun a hf => stCc 7 (fun a => Has 92 a [(0,pq b_),(1,i6 n),(6,i6 n),(7,.bool (decide (n < 2))),(8,.bool (decide (n < 2))),(15,.bool ((decide (n < 2)) || (((s_.bytes.length : Nat) : Int) == 0)))]) hc ?_ ?_
 ·cases hb : (decide (n < 2))
  ·rw [hb] at hf
   refine sp 2 hf rfl fun a hf => zP hf rfl (pFA fa_59_0 rfl) fun a hf => zL hf hc sc_22 m0 rfl fun a w hf hc => zP hf rfl (pLenS Try.underlying22 rfl) fun a hf => sp 2 hf rfl fun a hf => cNil ⟨hf.kp rfl,hc⟩
  ·rw [hb] at hf
   refine stS hf rfl rfl rfl fun a hf => stS hf rfl rfl rfl fun a hf => stS hf rfl rfl rfl fun a hf => stS hf rfl rfl rfl fun a hf => stS hf rfl rfl rfl fun a hf => stS hf rfl rfl rfl fun a hf => sp 1 hf rfl fun a hf => cNil ⟨hf.kp rfl,hc⟩
 intro a w ⟨hf,hc⟩
 refine zT h ?_
 refine zI hf rfl hF ?_ ?_ <;> clear hF <;> intro hF
 ·refine zS fun K h => sp 1 hf rfl fun a hf => zT h ?_
  refine wp_ret ?_
  refine xThenR ?_
  obtain rfl := sj hF
  exact zO1 Try.results8 hf rfl ⟨rfl,hc⟩
 ·refine wp_skip ?_
  refine h2 _ _ ?_
  refine wp_seq_k fun K5 h5 => ?_
  obtain ⟨un,hun,hF⟩ := bnd_some hF
  obtain ⟨e_1,he_1,hF⟩ := bnd_some hF
  obtain ⟨b_1,o,qa,qp⟩ := h_s__bytes.atm he_1
  refine cQ hc follows_mx (by kernel_rfl) ?_
  refine qE hf rfl rfl rfl (Pu.ev (pM rfl)) fun a hf => qE hf rfl rfl rfl (Pu.ev (pNC rfl)) fun a hf => qE hf rfl rfl rfl (Pu.ev (pFA fa_59_0 rfl)) fun a hf => qE hf rfl rfl rfl (eLd1 sc_22 rfl (cell_box m0 rfl)) fun a hf => qE hf rfl rfl rfl (Pu.ev (pM rfl)) fun a hf => qE hf rfl rfl rfl (Pu.ev (pNC rfl)) fun a hf => qE hf rfl rfl rfl (Pu.ev (pFA fa_59_1 rfl)) fun a hf => qE hf rfl rfl rfl (eLd1 sc_3 rfl (cell_box m0 rfl)) fun a hf => qE hf rfl rfl rfl (Pu.ev (pM rfl)) fun a hf => qE hf rfl rfl rfl (Pu.ev (pNC rfl)) fun a hf => qE hf rfl rfl rfl (Pu.ev (pFA fa_59_0 rfl)) fun a hf => qE hf rfl rfl rfl (eLd1 sc_22 rfl (cell_box m0 rfl)) fun a hf => qE hf rfl rfl rfl (Pu.ev (pLenS Try.underlying22 rfl)) fun a hf => ?_
  refine qE hf rfl rfl rfl (Pu.ev (pRem rfl rfl (nz_spec hun))) fun a hf => qE hf rfl rfl rfl (Pu.ev (pIA Try.underlying22 sz_5 rfl rfl qa)) fun a hf => qE hf rfl rfl rfl (eLd1 sc_5 rfl (cell_pc (j := 0) qp rfl)) fun a hf => qE hf rfl rfl rfl (Pu.ev (pCv Try.underlying5 Try.underlying3 rfl)) fun a hf => qE hf rfl rfl rfl (Pu.ev (pA rfl)) fun a hf => ?_
  intro w hc
  refine h5 _ _ ?_
  refine wp_seq_k fun K6 h6 => ?_
  have hj6 : ∀ (b_2 : Int) a w,Has 92 a [(0,pq b_),(1,i6 n),(5,i6 b_2)] → Ctx G (.box b_ [.slice s__bytes_p s_.bytes.length s__bytes_c,i6 s_.used,i6 s_.mix] 59::Lf) w → kit_Stream_Next_j6 N s_ n b_2 = some res → K6 a w := by
   repeat (clear hF)
   repeat (clear hc)
   repeat (clear hf)
   intro b_2 a w hf hc hF
   unfold kit_Stream_Next_j6 at hF
   refine h6 _ _ ?_
   refine zS fun K h => sp 3 hf rfl fun a hf => zP hf rfl (pFA fa_59_2 rfl) fun a hf => zL hf hc sc_3 m0 rfl fun a w hf hc => sp 4 hf rfl fun a hf => zP hf rfl (pRem rfl rfl (by decide)) fun a hf => sp 1 hf rfl fun a hf => zP hf rfl (pFA fa_59_2 rfl) fun a hf => zW hf hc sz_3 u0 rfl fun w hc => zT h ?_
   refine zS fun K h => sp 2 hf rfl fun a hf => zP hf rfl (pFA fa_59_1 rfl) fun a hf => zL hf hc sc_3 m0 rfl fun a w hf hc => sp 2 hf rfl fun a hf => zP hf rfl (pFA fa_59_1 rfl) fun a hf => zW hf hc sz_3 u0 rfl fun w hc => zT h ?_
   refine wp_seq_k fun K9 h9 => ?_
   have hj9 : ∀ (b_3 : Int) a w,Has 92 a [(1,i6 n),(5,i6 b_3)] → Ctx G (.box b_ [.slice s__bytes_p s_.bytes.length s__bytes_c,i6 (W (s_.used + 1)),i6 ((W ((W ((W (5 * s_.mix)) + b_2)) + 1)).tmod 251)] 59::Lf) w → kit_Stream_Next_j9 N s_ n b_2 b_3 = some res → K9 a w := by
    repeat (clear hF)
    repeat (clear hc)
    repeat (clear hf)
    intro b_3 a w hf hc hF
    unfold kit_Stream_Next_j9 at hF
    refine h9 _ _ ?_
    refine zS fun K h => sp 2 hf rfl fun a hf => ?_
    obtain ⟨un_1,hun_1,hF⟩ := bnd_some hF
    refine zP hf rfl (pRem rfl rfl (nz_spec hun_1)) fun a hf => sp 1 hf rfl fun a hf => zT h ?_
    refine wp_ret ?_
    obtain rfl := sj hF
    exact zO1 Try.results8 hf rfl ⟨rfl,hc⟩
   refine zS fun K h => sp 2 hf rfl fun a hf => zT h ?_
   refine zI hf rfl hF ?_ ?_ <;> clear hF <;> intro hF
   ·refine cReg ?_
    refine sp 4 hf rfl fun a hf => zP hf rfl (pFA fa_59_2 rfl) fun a hf => zL hf hc sc_3 m0 rfl fun a w hf hc => sp 2 hf rfl fun a hf => cNil ?_
    exact hj9 (W ((W (256 * b_2)) + ((W ((W ((W (5 * s_.mix)) + b_2)) + 1)).tmod 251))) _ _  (hf.kp rfl) hc hF
   ·refine wp_skip ?_
    exact hj9 b_2 _ _  (hf.kp rfl) hc hF
  refine wp_seq_k fun K12 h12 => cQ hc follows_mx (by kernel_rfl) ?_
  refine qE hf rfl rfl rfl (Pu.ev (pM rfl)) fun a hf => qE hf rfl rfl rfl (Pu.ev (pNC rfl)) fun a hf => qE hf rfl rfl rfl (Pu.ev (pFA fa_59_1 rfl)) fun a hf => qE hf rfl rfl rfl (eLd1 sc_3 rfl (cell_box m0 rfl)) fun a hf => qE hf rfl rfl rfl (Pu.ev (pM rfl)) fun a hf => qE hf rfl rfl rfl (Pu.ev (pNC rfl)) fun a hf => qE hf rfl rfl rfl (Pu.ev (pFA fa_59_0 rfl)) fun a hf => qE hf rfl rfl rfl (eLd1 sc_22 rfl (cell_box m0 rfl)) fun a hf => qE hf rfl rfl rfl (Pu.ev (pLenS Try.underlying22 rfl)) fun a hf => qE hf rfl rfl rfl (Pu.ev (pGe rfl rfl)) fun a hf => ?_
  intro w hc
  refine h12 _ _ ?_
  refine zI hf rfl hF ?_ ?_ <;> clear hF <;> intro hF
  ·obtain ⟨un_2,hun_2,hF⟩ := bnd_some hF
   refine cQ hc follows_mx (by kernel_rfl) ?_
   refine qE hf rfl rfl rfl (Pu.ev (pM rfl)) fun a hf => qE hf rfl rfl rfl (Pu.ev (pM rfl)) fun a hf => qE hf rfl rfl rfl (Pu.ev (pNC rfl)) fun a hf => qE hf rfl rfl rfl (Pu.ev (pFA fa_59_2 rfl)) fun a hf => qE hf rfl rfl rfl (eLd1 sc_3 rfl (cell_box m0 rfl)) fun a hf => qE hf rfl rfl rfl (Pu.ev (pMul rfl rfl)) fun a hf => qE hf rfl rfl rfl (Pu.ev (pM rfl)) fun a hf => qE hf rfl rfl rfl (Pu.ev (pNC rfl)) fun a hf => qE hf rfl rfl rfl (Pu.ev (pFA fa_59_1 rfl)) fun a hf => qE hf rfl rfl rfl (eLd1 sc_3 rfl (cell_box m0 rfl)) fun a hf => qE hf rfl rfl rfl (Pu.ev (pM rfl)) fun a hf => qE hf rfl rfl rfl (Pu.ev (pNC rfl)) fun a hf => qE hf rfl rfl rfl (Pu.ev (pFA fa_59_0 rfl)) fun a hf => ?_
   refine qE hf rfl rfl rfl (eLd1 sc_22 rfl (cell_box m0 rfl)) fun a hf => qE hf rfl rfl rfl (Pu.ev (pLenS Try.underlying22 rfl)) fun a hf => qE hf rfl rfl rfl (Pu.ev (pQuo rfl rfl (nz_spec hun_2))) fun a hf => qE hf rfl rfl rfl (Pu.ev (pAdd rfl rfl)) fun a hf => qE hf rfl rfl rfl (Pu.ev (pAdd rfl rfl)) fun a hf => qE hf rfl rfl rfl (Pu.ev (pA rfl)) fun a hf => ?_
   intro w hc
   exact hj6 (W ((W (e_1)) + (W ((W (11 * s_.mix)) + (W (s_.used.tdiv ((s_.bytes.length : Nat) : Int))))))) _ _  (hf.kp rfl) hc hF
  ·refine wp_skip ?_
   exact hj6 (W (e_1)) _ _  (hf.kp rfl) hc hF

def kit_Stream_Within (N : Nat) (s_ : kit_Stream) (lo : Int) (hi_ : Int) : Option (Int × Int × Int) :=
 Option.bind (kit_Stream_Next N s_ (W ((W (hi_ - lo)) + 1))) fun r =>
 some (W (lo + r.1),r.2.1,r.2.2)
theorem kit_Stream_Within_ok {N : Nat} {G : Pers} {Lf : List Ent} {w : World} (s_ : kit_Stream) (lo : Int) (hi_ : Int) {b_ : Nat} {s__bytes_p : Option Addr} {s__bytes_c : Nat} (h_s__bytes : Rd G 1 s__bytes_p s__bytes_c (s_.bytes.map encI_u8)) (hc : Ctx G (.box b_ [.slice s__bytes_p s_.bytes.length s__bytes_c,i6 s_.used,i6 s_.mix] 59::Lf) w) {res : Int × Int × Int} (hF : kit_Stream_Within N s_ lo hi_ = some res) : Calls Try.prog 9 #[pq b_,i6 lo,i6 hi_] w (fun e w => e = .returned (i6 res.1) ∧ Ctx G (.box b_ [.slice s__bytes_p s_.bytes.length s__bytes_c,i6 res.2.1,i6 res.2.2] 59::Lf) w) := by
 unfold kit_Stream_Within at hF
 refine fnIn Try.func9 rfl Try.ntmps9 rfl fun a hf => zS fun K h => sp 1 hf rfl fun a hf => zT h ?_
 refine zS fun K h => sp 6 hf rfl fun a hf => ?_
 obtain ⟨r,hr,hF⟩ := bnd_some hF
 refine zC hf en_8 rfl (kit_Stream_Next_ok s_ (W ((W (hi_ - lo)) + 1)) h_s__bytes (hc.pick k0) hr) ?_
 rintro _ w ⟨rfl,hc⟩
 refine ⟨_,rfl,fun a hf => ?_⟩
 refine sp 2 hf rfl fun a hf => zT h ?_
 refine wp_ret ?_
 obtain rfl := sj hF
 exact zO1 Try.results9 hf rfl ⟨rfl,hc⟩

def law05_Rated_b6 (N : Nat) (s_ : kit_Stream) (r_2 : Int × Int × Int) (out : List shift_Mark) (stage : Int) (flow : Int) (x : Int) (b__0 : Int) (b__1 : Int) : Option (Step ((List shift_Mark) × Int × Int × Int × Int × Int) ((List shift_Mark) × Int × Int)) :=
 cond (decide (x < r_2.1))
 (Option.bind (room ((out ++ [(⟨stage,flow⟩ : shift_Mark)])).length) fun un =>
 Option.bind (kit_Stream_Within N (⟨s_.bytes,b__0,b__1⟩ : kit_Stream) 1 30) fun r_3 =>
 Option.bind (kit_Stream_Within N (⟨s_.bytes,r_3.2.1,r_3.2.2⟩ : kit_Stream) 1 400) fun r_4 =>
 some (.cont ((out ++ [(⟨stage,flow⟩ : shift_Mark)]),W (stage + r_3.1),W (flow + r_4.1),W (x + 1),r_4.2.1,r_4.2.2)))
 (some (.brk (out,stage,flow,x,b__0,b__1)))
def law05_Rated (N : Nat) (s_ : kit_Stream) : Option ((List shift_Mark) × Int × Int) :=
 Option.bind (kit_Stream_Within N s_ (-20) 20) fun r =>
 Option.bind (kit_Stream_Next N (⟨s_.bytes,r.2.1,r.2.2⟩ : kit_Stream) 50) fun r_1 =>
 Option.bind (kit_Stream_Within N (⟨s_.bytes,r_1.2.1,r_1.2.2⟩ : kit_Stream) 2 7) fun r_2 =>
 Option.bind (loopO (fun s6 => law05_Rated_b6 N s_ r_2 s6.1 s6.2.1 s6.2.2.1 s6.2.2.2.1 s6.2.2.2.2.1 s6.2.2.2.2.2) N (([] : List shift_Mark),r.1,r_1.1,0,r_2.2.1,r_2.2.2)) fun x6 =>
 exK x6 (fun s6 => some (s6.1,s6.2.2.2.2.1,s6.2.2.2.2.2)) some
theorem law05_Rated_ok {N : Nat} {G : Pers} {Lf : List Ent} {w : World} (s_ : kit_Stream) {b_ : Nat} {s__bytes_p : Option Addr} {s__bytes_c : Nat} (h_s__bytes : Rd G 1 s__bytes_p s__bytes_c (s_.bytes.map encI_u8)) (hc : Ctx G (.box b_ [.slice s__bytes_p s_.bytes.length s__bytes_c,i6 s_.used,i6 s_.mix] 59::Lf) w) {res : (List shift_Mark) × Int × Int} (hF : law05_Rated N s_ = some res) : Calls Try.prog 5 #[pq b_] w (fun e w => ∃ (p'1 : Option Addr) (c'1 : Nat),e = .returned (.slice p'1 res.1.length c'1) ∧ Ctx G (.row p'1 c'1 (res.1.map enc_shift_Mark) 61 2::.box b_ [.slice s__bytes_p s_.bytes.length s__bytes_c,i6 res.2.1,i6 res.2.2] 59::Lf) w) := by
 unfold law05_Rated at hF
 refine fnIn Try.func5 rfl Try.ntmps5 rfl fun a hf => zS fun K h => sp 1 hf rfl fun a hf => zT h ?_
 refine zS fun K h => sp 1 hf rfl fun a hf => zT h ?_
 refine zS fun K h => sp 1 hf rfl fun a hf => ?_
 obtain ⟨r,hr,hF⟩ := bnd_some hF
 refine zC hf en_9 rfl (kit_Stream_Within_ok s_ (-20) 20 h_s__bytes (hc.pick k0) hr) ?_
 rintro _ w ⟨rfl,hc⟩
 refine ⟨_,rfl,fun a hf => ?_⟩
 refine sp 1 hf rfl fun a hf => ?_
 obtain ⟨r_1,hr_1,hF⟩ := bnd_some hF
 refine zC hf en_8 rfl (kit_Stream_Next_ok (⟨s_.bytes,r.2.1,r.2.2⟩ : kit_Stream) 50 h_s__bytes (hc.pick k0) hr_1) ?_
 rintro _ w ⟨rfl,hc⟩
 refine ⟨_,rfl,fun a hf => ?_⟩
 refine sp 2 hf rfl fun a hf => zT h ?_
 refine wp_seq_k fun K4 h4 => zS fun K h => sp 1 hf rfl fun a hf => ?_
 obtain ⟨r_2,hr_2,hF⟩ := bnd_some hF
 refine zC hf en_9 rfl (kit_Stream_Within_ok (⟨s_.bytes,r_1.2.1,r_1.2.2⟩ : kit_Stream) 2 7 h_s__bytes (hc.pick k0) hr_2) ?_
 rintro _ w ⟨rfl,hc⟩
 refine ⟨_,rfl,fun a hf => ?_⟩
 refine sp 1 hf rfl fun a hf => zT h ?_
 refine wp_block ?_
 obtain ⟨x6,hx6,hF⟩ := bnd_some hF
 let S6 : ((List shift_Mark) × Int × Int × Int × Int × Int) → Act → World → Prop := (fun (zz : (List shift_Mark) × Int × Int × Int × Int × Int) a w => ∃ (p_1 : Option Addr) (c_1 : Nat),Has 30 a [(0,pq b_),(3,.slice p_1 zz.1.length c_1),(4,i6 zz.2.1),(5,i6 zz.2.2.1),(11,i6 r_2.1),(12,i6 zz.2.2.2.1)] ∧ Ctx G (.row p_1 c_1 (zz.1.map enc_shift_Mark) 61 2::.box b_ [.slice s__bytes_p s_.bytes.length s__bytes_c,i6 zz.2.2.2.2.1,i6 zz.2.2.2.2.2] 59::Lf) w)
 have hr6 : ∀ (zz : (List shift_Mark) × Int × Int × Int × Int × Int) a w,x6 = .go zz → S6 zz a w → K4 a w := by
  rintro ⟨out,stage,flow,x,b__0,b__1⟩ a w rfl ⟨p_1,c_1,hf,hc⟩
  replace hF := exK_go hF
  refine h4 _ _ ?_
  refine zS fun K h => sp 2 hf rfl fun a hf => zT h ?_
  refine wp_ret ?_
  obtain rfl := sj hF
  exact zO1 Try.results5 hf rfl ⟨p_1,c_1,rfl,hc⟩
 have ho6 : ∀ r,x6 = .out r → r = res := by
  rintro r rfl
  exact sj hF
 replace hc := hc.nilRow 61 2
 refine cLoop N (loopW (S := S6) (x := x6) ?_ N (([] : List shift_Mark),r.1,r_1.1,0,r_2.2.1,r_2.2.2) _ _ ⟨none,0,hf.kp rfl,hc⟩ hx6)
 clear hF hf hc
 rintro ⟨out,stage,flow,x,b__0,b__1⟩ st6 a w KB6 ⟨p_1,c_1,hf,hc⟩ hF hfin6 hK6
 unfold law05_Rated_b6 at hF
 refine zS fun K h => sp 1 hf rfl fun a hf => zT h ?_
 refine wp_seq_k fun K9 h9 => zI hf rfl hF ?_ ?_ <;> clear hF <;> intro hF
 ·refine wp_skip ?_
  refine h9 _ _ ?_
  refine wp_seq_k fun K10 h10 => wp_block ?_
  refine zS fun K h => sp 3 hf rfl fun a hf => zP hf rfl (pBuildS (cells := [i6 stage,i6 flow]) bt_61 rfl rfl) fun a hf => stBS (rows := ([(⟨stage,flow⟩ : shift_Mark)] : List shift_Mark).map enc_shift_Mark) (vs := [(0,.agg #[i6 stage,i6 flow])]) hf hc rfl rfl sl_25 rfl ⟨rfl,rfl,rfl,trivial⟩ rfl rfl fun b_1 a w hf hc => ?_
  obtain ⟨un,hun,hF⟩ := bnd_some hF
  refine stApm (xs := out) (ys := ([(⟨stage,flow⟩ : shift_Mark)] : List shift_Mark)) hf hc rfl rfl sl_25 rfl rfl rfl rfl rfl one_enc_shift_Mark (src_row hc m0) (fun _ _ => u1) (by simpa using room_spec hun) fun p_2 c_2 a w hf hc => sp 1 hf rfl fun a hf => zT h ?_
  refine cReg ?_
  refine sp 2 hf rfl fun a hf => ?_
  obtain ⟨r_3,hr_3,hF⟩ := bnd_some hF
  refine zC hf en_9 rfl (kit_Stream_Within_ok (⟨s_.bytes,b__0,b__1⟩ : kit_Stream) 1 30 h_s__bytes (hc.pick k2) hr_3) ?_
  rintro _ w ⟨rfl,hc⟩
  refine ⟨_,rfl,fun a hf => ?_⟩
  refine sp 3 hf rfl fun a hf => ?_
  obtain ⟨r_4,hr_4,hF⟩ := bnd_some hF
  refine zC hf en_9 rfl (kit_Stream_Within_ok (⟨s_.bytes,r_3.2.1,r_3.2.2⟩ : kit_Stream) 1 400 h_s__bytes (hc.pick k0) hr_4) ?_
  rintro _ w ⟨rfl,hc⟩
  refine ⟨_,rfl,fun a hf => ?_⟩
  refine sp 3 hf rfl fun a hf => cNil ?_
  refine h10 _ _ ?_
  refine cReg ?_
  refine sp 2 hf rfl fun a hf => cNil ?_
  replace hc := ((hc.drop k1).pick k0).pick k1
  exact hK6 ((out ++ [(⟨stage,flow⟩ : shift_Mark)]),W (stage + r_3.1),W (flow + r_4.1),W (x + 1),r_4.2.1,r_4.2.2) _ _ (sj hF).symm ⟨p_2,c_2,hf.kp rfl,hc⟩
 ·refine wp_exit ?_
  refine xThen ?_
  refine xThen ?_
  have he := sj hF
  rw [← he] at hfin6
  refine cHit ?_
  exact hr6 _ _ _ hfin6 ⟨p_1,c_1,hf.kp rfl,hc⟩

def law01_Levelled (N : Nat) (s_ : kit_Stream) (heights : List Int) (a_ : Int) (b__1 : Int) (day : Int) : Option (level_Line × Int × Int) :=
 Option.bind (kit_Stream_Next N s_ 9) fun r =>
 Option.bind (getI heights b__1) fun e_1 =>
 Option.bind (getI heights a_) fun e_2 =>
 Option.bind (kit_Stream_Within N (⟨s_.bytes,r.2.1,r.2.2⟩ : kit_Stream) (W (0 - r.1)) r.1) fun r_1 =>
 some ((⟨a_,b__1,day,W ((W (e_1 - e_2)) + r_1.1),r.1⟩ : level_Line),r_1.2.1,r_1.2.2)
theorem law01_Levelled_ok {N : Nat} {G : Pers} {Lf : List Ent} {w : World} (s_ : kit_Stream) (heights : List Int) (a_ : Int) (b__1 : Int) (day : Int) {b_ : Nat} {s__bytes_p : Option Addr} {s__bytes_c : Nat} {heights_p : Option Addr} {heights_c : Nat} (h_s__bytes : Rd G 1 s__bytes_p s__bytes_c (s_.bytes.map encI_u8)) (h_heights : Rd G 1 heights_p heights_c (heights.map encI_i64)) (hc : Ctx G (.box b_ [.slice s__bytes_p s_.bytes.length s__bytes_c,i6 s_.used,i6 s_.mix] 59::Lf) w) {res : level_Line × Int × Int} (hF : law01_Levelled N s_ heights a_ b__1 day = some res) : Calls Try.prog 6 #[pq b_,.slice heights_p heights.length heights_c,i6 a_,i6 b__1,i6 day] w (fun e w => e = .returned (.agg #[i6 res.1.From,i6 res.1.To,i6 res.1.Day,i6 res.1.Rise,i6 res.1.Error]) ∧ Ctx G (.box b_ [.slice s__bytes_p s_.bytes.length s__bytes_c,i6 res.2.1,i6 res.2.2] 59::Lf) w) := by
 unfold law01_Levelled at hF
 refine fnIn Try.func6 rfl Try.ntmps6 rfl fun a hf => zS fun K h => zA hf hc zr_32 rfl fun b_1 a w hf hc => zT h ?_
 refine zS fun K h => sp 4 hf rfl fun a hf => ?_
 obtain ⟨r,hr,hF⟩ := bnd_some hF
 refine zC hf en_8 rfl (kit_Stream_Next_ok s_ 9 h_s__bytes (hc.pick k1) hr) ?_
 rintro _ w ⟨rfl,hc⟩
 refine ⟨_,rfl,fun a hf => ?_⟩
 refine zP hf rfl (pBuildS (cells := [i6 a_,i6 b__1,i6 day,i6 0,i6 r.1]) bt_32 rfl rfl) fun a hf => zA hf hc zr_32 rfl fun b_2 a w hf hc => zW hf hc sz_32 u0 rfl fun w hc => zT h ?_
 refine wp_seq_k fun K3 h3 => ?_
 obtain ⟨e_1,he_1,hF⟩ := bnd_some hF
 obtain ⟨b_3,o,qa,qp⟩ := h_heights.atm he_1
 obtain ⟨e_2,he_2,hF⟩ := bnd_some hF
 obtain ⟨b_4,o_1,qa_1,qp_1⟩ := h_heights.atm he_2
 obtain ⟨r_1,hr_1,hF⟩ := bnd_some hF
 refine regionE (fun θ => [⟨none,none,0,pq b_⟩,⟨none,none,1,.slice heights_p heights.length heights_c⟩,⟨none,none,2,i6 a_⟩,⟨none,none,3,i6 b__1⟩,⟨none,none,10,pq b_1⟩,⟨none,none,11,pq b_2⟩,⟨some 0,none,18,.slice heights_p heights.length heights_c⟩,⟨some 1,none,19,i6 b__1⟩,⟨some 2,none,20,.pointer (some ⟨b_3,o,none⟩)⟩,⟨some 3,none,21,i6 e_1⟩,⟨some 4,none,22,.slice heights_p heights.length heights_c⟩,⟨some 5,none,23,i6 a_⟩,⟨some 6,none,24,.pointer (some ⟨b_4,o_1,none⟩)⟩,⟨some 7,none,25,i6 e_2⟩,⟨some 8,none,26,i6 (W (e_1 - e_2))⟩,⟨some 9,none,27,pq b_⟩,⟨some 10,none,28,.pointer (some ⟨b_2,4,none⟩)⟩,⟨some 11,none,29,i6 r.1⟩,⟨some 12,none,30,i6 (W (0 - r.1))⟩,⟨some 13,none,31,.pointer (some ⟨b_2,4,none⟩)⟩,⟨some 14,none,32,i6 r.1⟩,⟨some 15,none,33,i6 r_1.1⟩,⟨some 16,none,34,i6 (W ((W (e_1 - e_2)) + r_1.1))⟩,⟨some 17,none,35,.pointer (some ⟨b_2,3,none⟩)⟩]) (fun E θ => (bif E 18 then .box b_2 [i6 a_,i6 b__1,i6 day,i6 (W ((W (e_1 - e_2)) + r_1.1)),i6 r.1] 32 else .box b_2 [i6 a_,i6 b__1,i6 day,i6 0,i6 r.1] 32)::(bif E 15 then .box b_ [.slice s__bytes_p s_.bytes.length s__bytes_c,i6 r_1.2.1,i6 r_1.2.2] 59 else .box b_ [.slice s__bytes_p s_.bytes.length s__bytes_c,i6 r.2.1,i6 r.2.2] 59)::.box b_1 [i6 0,i6 0,i6 0,i6 0,i6 0] 32::Lf) [(18,11),(18,14)] (fun a w => Has 37 a [(10,pq b_1),(11,pq b_2)] ∧ Ctx G (.box b_2 [i6 a_,i6 b__1,i6 day,i6 (W ((W (e_1 - e_2)) + r_1.1)),i6 r.1] 32::.box b_ [.slice s__bytes_p s_.bytes.length s__bytes_c,i6 r_1.2.1,i6 r_1.2.2] 59::.box b_1 [i6 0,i6 0,i6 0,i6 0,i6 0] 32::Lf) w) follows_mx (by kernel_rfl) (by kernel_rfl) (HasE.of hf ⟨rfl,rfl,rfl,rfl,rfl,rfl,trivial,trivial,trivial,trivial,trivial,trivial,trivial,trivial,trivial,trivial,trivial,trivial,trivial,trivial,trivial,trivial,trivial,trivial,trivial⟩) hc ⟨?_,?_,?_,?_,?_,?_,?_,?_,?_,?_,?_,?_,?_,?_,?_,?_,?_,?_,?_,trivial⟩ ?_ ?_
 ·intro E θ a w hD hi hp he hc
  have hf := he.h0.mT he 1 rfl
  refine sp 1 hf rfl fun a hf => zD θ he hi hf 6 rfl rfl rfl hc
 ·intro E θ a w hD hi hp he hc
  have hf := he.h0.mT he 3 rfl
  refine sp 1 hf rfl fun a hf => zD θ he hi hf 7 rfl rfl rfl hc
 ·intro E θ a w hD hi hp he hc
  have e0 := hp.o 0 rfl
  have e1 := hp.o 1 rfl
  have hf := (he.h0.mP he 6 rfl e0).mP he 7 rfl e1
  refine zP hf rfl (pIA Try.underlying30 sz_3 rfl rfl qa) fun a hf => zD θ he hi hf 8 rfl rfl rfl hc
 ·intro E θ a w hD hi hp he hc
  have e2 := hp.o 2 rfl
  have hf := he.h0.mP he 8 rfl e2
  refine zE hf hc rfl (eLd1 sc_3 rfl (cell_pc (j := 0) qp rfl)) fun a w hf hc => zD θ he hi hf 9 rfl rfl rfl hc
 ·intro E θ a w hD hi hp he hc
  have hf := he.h0.mT he 1 rfl
  refine sp 1 hf rfl fun a hf => zD θ he hi hf 10 rfl rfl rfl hc
 ·intro E θ a w hD hi hp he hc
  have hf := he.h0.mT he 2 rfl
  refine sp 1 hf rfl fun a hf => zD θ he hi hf 11 rfl rfl rfl hc
 ·intro E θ a w hD hi hp he hc
  have e4 := hp.o 4 rfl
  have e5 := hp.o 5 rfl
  have hf := (he.h0.mP he 10 rfl e4).mP he 11 rfl e5
  refine zP hf rfl (pIA Try.underlying30 sz_3 rfl rfl qa_1) fun a hf => zD θ he hi hf 12 rfl rfl rfl hc
 ·intro E θ a w hD hi hp he hc
  have e6 := hp.o 6 rfl
  have hf := he.h0.mP he 12 rfl e6
  refine zE hf hc rfl (eLd1 sc_3 rfl (cell_pc (j := 0) qp_1 rfl)) fun a w hf hc => zD θ he hi hf 13 rfl rfl rfl hc
 ·intro E θ a w hD hi hp he hc
  have e3 := hp.o 3 rfl
  have e7 := hp.o 7 rfl
  have hf := (he.h0.mP he 9 rfl e3).mP he 13 rfl e7
  refine sp 1 hf rfl fun a hf => zD θ he hi hf 14 rfl rfl rfl hc
 ·intro E θ a w hD hi hp he hc
  have hf := he.h0.mT he 0 rfl
  refine sp 1 hf rfl fun a hf => zD θ he hi hf 15 rfl rfl rfl hc
 ·intro E θ a w hD hi hp he hc
  have hf := he.h0.mT he 5 rfl
  refine zP hf rfl (pFA fa_32_4 rfl) fun a hf => zD θ he hi hf 16 rfl rfl rfl hc
 ·intro E θ a w hD hi hp he hc
  have e10 := hp.o 10 rfl
  have e18 := hD.f 0 rfl hi
  try dsimp only at hc
  rw [e18] at hc
  have hf := he.h0.mP he 16 rfl e10
  refine zL hf hc sc_3 m0 rfl fun a w hf hc => zD θ he hi hf 17 rfl rfl rfl ?_
  try dsimp only
  rw [updE_fls 11 e18 rfl]
  exact hc
 ·intro E θ a w hD hi hp he hc
  have e11 := hp.o 11 rfl
  have hf := he.h0.mP he 17 rfl e11
  refine sp 1 hf rfl fun a hf => zD θ he hi hf 18 rfl rfl rfl hc
 ·intro E θ a w hD hi hp he hc
  have hf := he.h0.mT he 5 rfl
  refine zP hf rfl (pFA fa_32_4 rfl) fun a hf => zD θ he hi hf 19 rfl rfl rfl hc
 ·intro E θ a w hD hi hp he hc
  have e13 := hp.o 13 rfl
  have e18 := hD.f 1 rfl hi
  try dsimp only at hc
  rw [e18] at hc
  have hf := he.h0.mP he 19 rfl e13
  refine zL hf hc sc_3 m0 rfl fun a w hf hc => zD θ he hi hf 20 rfl rfl rfl ?_
  try dsimp only
  rw [updE_fls 14 e18 rfl]
  exact hc
 ·intro E θ a w hD hi hp he hc
  have e9 := hp.o 9 rfl
  have e12 := hp.o 12 rfl
  have e14 := hp.o 14 rfl
  try dsimp only at hc
  rw [hi] at hc
  have hf := ((he.h0.mP he 15 rfl e9).mP he 18 rfl e12).mP he 20 rfl e14
  refine zC hf en_9 rfl (kit_Stream_Within_ok (⟨s_.bytes,r.2.1,r.2.2⟩ : kit_Stream) (W (0 - r.1)) r.1 h_s__bytes (hc.pick k1) hr_1) ?_
  rintro _ w ⟨rfl,hc⟩
  refine ⟨_,rfl,fun a hf => ?_⟩
  refine cNil ?_
  refine xThenN ?_
  intro ds u hau
  replace hc := (hc.pick k0).pick k1
  refine ⟨θ,he.put0 hi hau hf rfl 21 rfl rfl,?_⟩
  try dsimp only
  rw [updE_self E 15]
  exact hc
 ·intro E θ a w hD hi hp he hc
  have e8 := hp.o 8 rfl
  have e15 := hp.o 15 rfl
  have hf := (he.h0.mP he 14 rfl e8).mP he 21 rfl e15
  refine sp 1 hf rfl fun a hf => zD θ he hi hf 22 rfl rfl rfl hc
 ·intro E θ a w hD hi hp he hc
  have hf := he.h0.mT he 5 rfl
  refine zP hf rfl (pFA fa_32_3 rfl) fun a hf => zD θ he hi hf 23 rfl rfl rfl hc
 ·intro E θ a w hD hi hp he hc
  have e16 := hp.o 16 rfl
  have e17 := hp.o 17 rfl
  try dsimp only at hc
  rw [hi] at hc
  have hf := (he.h0.mP he 22 rfl e16).mP he 23 rfl e17
  refine zW hf hc sz_3 u0 rfl fun w hc => zG θ he hi hf rfl ?_
  try dsimp only
  rw [updE_self E 18]
  exact hc
 ·intro E θ a w hall he hc
  have hf := he.h0
  have e15 := hall 15 rfl
  have e18 := hall 18 rfl
  replace hf := hf.more he 5 rfl (onT)
  replace hf := hf.more he 4 rfl (onT)
  try dsimp only at hc
  rw [e15,e18] at hc
  exact ⟨hf.kp rfl,hc⟩
 rintro a w ⟨hf,hc⟩
 refine h3 _ _ ?_
 refine zS fun K h => zN hf hc ag_32 m0 rfl fun a w hf hc => zW hf hc sz_32 u2 rfl fun w hc => zT h ?_
 refine wp_ret ?_
 obtain rfl := sj hF
 replace hc := hc.drop k0
 exact fnOut1 (by simp) rfl Try.results6 hf hc (rv_cellN (vs := [i6 a_,i6 b__1,i6 day,i6 (W ((W (e_1 - e_2)) + r_1.1)),i6 r.1]) ag_32 rfl rfl (cells_box (n := 5) m1 rfl)) ⟨rfl,(hc.drop k1)⟩

def level_in (n : Int) (least : Int) (greatest : Int) : Bool :=
 ((decide (least ≤ n)) && (decide (n ≤ greatest)))
theorem level_in_ok {G : Pers} {Lf : List Ent} {w : World} (n : Int) (least : Int) (greatest : Int)   (hc : Ctx G (Lf) w) {res : Bool} (hF : level_in n least greatest = res) : Calls Try.prog 31 #[i6 n,i6 least,i6 greatest] w (fun e w => e = .returned (.bool res) ∧ Ctx G (Lf) w) := by
 unfold level_in at hF
 refine fnIn Try.func31 rfl Try.ntmps31 rfl fun a hf => zS fun K h => sp 1 hf rfl fun a hf => zT h ?_
 refine zS fun K h => sp 4 hf rfl fun a hf => stCc 4 (fun a => Has 15 a [(0,i6 n),(1,i6 least),(2,i6 greatest),(6,.bool false),(7,i6 n),(8,i6 least),(9,.bool (decide (least ≤ n))),(10,.bool (decide (least ≤ n))),(14,.bool ((decide (least ≤ n)) && (decide (n ≤ greatest))))]) hc ?_ ?_
 ·cases hb : (decide (least ≤ n))
  ·rw [hb] at hf
   refine stS hf rfl rfl rfl fun a hf => stS hf rfl rfl rfl fun a hf => stS hf rfl rfl rfl fun a hf => sp 1 hf rfl fun a hf => cNil ⟨hf.kp rfl,hc⟩
  ·rw [hb] at hf
   refine sp 4 hf rfl fun a hf => cNil ⟨hf.kp rfl,hc⟩
 intro a w ⟨hf,hc⟩
 refine sp 1 hf rfl fun a hf => zT h ?_
 refine wp_ret ?_
 obtain rfl := hF
 exact zO1 Try.results31 hf rfl ⟨rfl,hc⟩

def level_Check_1 (i_ : Int) (x : level_Net) : Bool :=
 (level_in i_ 0 (W (x.Marks - 1)))
theorem level_Check_1_ok {G : Pers} {Lf : List Ent} {w : World} (i_ : Int) (x : level_Net) {b_ : Nat} {x_Lines_p : Option Addr} {x_Lines_c : Nat} (h_x_Lines : Rd G 5 x_Lines_p x_Lines_c (x.Lines.map enc_level_Line)) (hc : Ctx G (.box b_ [i6 x.Marks,.slice x_Lines_p x.Lines.length x_Lines_c] 36::Lf) w) {res : Bool} (hF : level_Check_1 i_ x = res) : Calls Try.prog 54 #[i6 i_,pq b_] w (fun e w => e = .returned (.bool res) ∧ Ctx G (.box b_ [i6 x.Marks,.slice x_Lines_p x.Lines.length x_Lines_c] 36::Lf) w) := by
 unfold level_Check_1 at hF
 refine fnIn Try.func54 rfl Try.ntmps54 rfl fun a hf => zS fun K h => sp 1 hf rfl fun a hf => zT h ?_
 refine zS fun K h => sp 1 hf rfl fun a hf => zP hf rfl (pFA fa_36_0 rfl) fun a hf => zL hf hc sc_3 m0 rfl fun a w hf hc => sp 1 hf rfl fun a hf => zQ (v := .bool (level_in i_ 0 (W (x.Marks - 1)))) hf hc en_31 rfl (fun w hc => level_in_ok i_ 0 (W (x.Marks - 1)) hc rfl) fun a w hf hc => sp 1 hf rfl fun a hf => zT h ?_
 refine wp_ret ?_
 obtain rfl := hF
 exact zO1 Try.results54 hf rfl ⟨rfl,hc⟩

def level_Check_2 (l : level_Line) (x : level_Net) : Bool :=
 ((((((level_Check_1 l.From x) && (level_Check_1 l.To x)) && (l.From != l.To)) && (level_in l.Day 0 40000)) && (level_in l.Rise (-1000000) 1000000)) && (level_in l.Error 0 10000))
theorem level_Check_2_ok {G : Pers} {Lf : List Ent} {w : World} (l : level_Line) (x : level_Net) {b_ : Nat} {b__1 : Nat} {x_Lines_p : Option Addr} {x_Lines_c : Nat} (h_x_Lines : Rd G 5 x_Lines_p x_Lines_c (x.Lines.map enc_level_Line)) (hc : Ctx G (.box b_ [.func (.func 54) #[] #[pq b__1]] 105::.box b__1 [i6 x.Marks,.slice x_Lines_p x.Lines.length x_Lines_c] 36::Lf) w) {res : Bool} (hF : level_Check_2 l x = res) : Calls Try.prog 56 #[.agg #[i6 l.From,i6 l.To,i6 l.Day,i6 l.Rise,i6 l.Error],pq b_] w (fun e w => e = .returned (.bool res) ∧ Ctx G (.box b_ [.func (.func 54) #[] #[pq b__1]] 105::.box b__1 [i6 x.Marks,.slice x_Lines_p x.Lines.length x_Lines_c] 36::Lf) w) := by
 unfold level_Check_2 at hF
 refine fnIn Try.func56 rfl Try.ntmps56 rfl fun a hf => zS fun K h => zB hf hc rfl fun b_1 a w hf hc => sp 1 hf rfl fun a hf => zT h ?_
 refine zS fun K h => zL hf hc sc_105 m1 rfl fun a w hf hc => zP hf rfl (pFA fa_32_0 rfl) fun a hf => zL hf hc sc_3 m0 rfl fun a w hf hc => zQ (v := .bool (level_Check_1 l.From x)) hf hc en_54 rfl (fun w hc => (level_Check_1_ok l.From x h_x_Lines (hc.pick k2) rfl).mono fun e w h => ⟨h.1,(h.2.unpick k2)⟩) fun a w hf hc => sp 1 hf rfl fun a hf => stCc 5 (fun a => Has 36 a [(1,pq b_),(2,pq b_1),(3,.bool false),(4,.func (.func 54) #[] #[pq b__1]),(5,pq b_1),(6,i6 l.From),(7,.bool (level_Check_1 l.From x)),(8,.bool (level_Check_1 l.From x)),(13,.bool ((level_Check_1 l.From x) && (level_Check_1 l.To x)))]) hc ?_ ?_
 ·cases hb : (level_Check_1 l.From x)
  ·rw [hb] at hf
   refine stS hf rfl rfl rfl fun a hf => stS hf rfl rfl rfl fun a hf => stS hf rfl rfl rfl fun a hf => stS hf rfl rfl rfl fun a hf => sp 1 hf rfl fun a hf => cNil ⟨hf.kp rfl,hc⟩
  ·rw [hb] at hf
   refine zL hf hc sc_105 m1 rfl fun a w hf hc => zP hf rfl (pFA fa_32_1 rfl) fun a hf => zL hf hc sc_3 m0 rfl fun a w hf hc => zQ (v := .bool (level_Check_1 l.To x)) hf hc en_54 rfl (fun w hc => (level_Check_1_ok l.To x h_x_Lines (hc.pick k2) rfl).mono fun e w h => ⟨h.1,(h.2.unpick k2)⟩) fun a w hf hc => sp 1 hf rfl fun a hf => cNil ⟨hf.kp rfl,hc⟩
 intro a w ⟨hf,hc⟩
 refine sp 1 hf rfl fun a hf => stCc 6 (fun a => Has 36 a [(1,pq b_),(2,pq b_1),(3,.bool false),(4,.func (.func 54) #[] #[pq b__1]),(5,pq b_1),(6,i6 l.From),(7,.bool (level_Check_1 l.From x)),(8,.bool (level_Check_1 l.From x)),(13,.bool ((level_Check_1 l.From x) && (level_Check_1 l.To x))),(14,.bool ((level_Check_1 l.From x) && (level_Check_1 l.To x))),(20,.bool (((level_Check_1 l.From x) && (level_Check_1 l.To x)) && (l.From != l.To)))]) hc ?_ ?_
 ·cases hb : ((level_Check_1 l.From x) && (level_Check_1 l.To x))
  ·rw [hb] at hf
   refine stS hf rfl rfl rfl fun a hf => stS hf rfl rfl rfl fun a hf => stS hf rfl rfl rfl fun a hf => stS hf rfl rfl rfl fun a hf => stS hf rfl rfl rfl fun a hf => sp 1 hf rfl fun a hf => cNil ⟨hf.kp rfl,hc⟩
  ·rw [hb] at hf
   refine zP hf rfl (pFA fa_32_0 rfl) fun a hf => zL hf hc sc_3 m0 rfl fun a w hf hc => zP hf rfl (pFA fa_32_1 rfl) fun a hf => zL hf hc sc_3 m0 rfl fun a w hf hc => sp 2 hf rfl fun a hf => cNil ⟨hf.kp rfl,hc⟩
 intro a w ⟨hf,hc⟩
 refine sp 1 hf rfl fun a hf => stCc 4 (fun a => Has 36 a [(1,pq b_),(2,pq b_1),(3,.bool false),(4,.func (.func 54) #[] #[pq b__1]),(5,pq b_1),(6,i6 l.From),(7,.bool (level_Check_1 l.From x)),(8,.bool (level_Check_1 l.From x)),(13,.bool ((level_Check_1 l.From x) && (level_Check_1 l.To x))),(14,.bool ((level_Check_1 l.From x) && (level_Check_1 l.To x))),(20,.bool (((level_Check_1 l.From x) && (level_Check_1 l.To x)) && (l.From != l.To))),(21,.bool (((level_Check_1 l.From x) && (level_Check_1 l.To x)) && (l.From != l.To))),(25,.bool ((((level_Check_1 l.From x) && (level_Check_1 l.To x)) && (l.From != l.To)) && (level_in l.Day 0 40000)))]) hc ?_ ?_
 ·cases hb : (((level_Check_1 l.From x) && (level_Check_1 l.To x)) && (l.From != l.To))
  ·rw [hb] at hf
   refine stS hf rfl rfl rfl fun a hf => stS hf rfl rfl rfl fun a hf => stS hf rfl rfl rfl fun a hf => sp 1 hf rfl fun a hf => cNil ⟨hf.kp rfl,hc⟩
  ·rw [hb] at hf
   refine zP hf rfl (pFA fa_32_2 rfl) fun a hf => zL hf hc sc_3 m0 rfl fun a w hf hc => zQ (v := .bool (level_in l.Day 0 40000)) hf hc en_31 rfl (fun w hc => level_in_ok l.Day 0 40000 hc rfl) fun a w hf hc => sp 1 hf rfl fun a hf => cNil ⟨hf.kp rfl,hc⟩
 intro a w ⟨hf,hc⟩
 refine sp 1 hf rfl fun a hf => stCc 4 (fun a => Has 36 a [(1,pq b_),(2,pq b_1),(3,.bool false),(4,.func (.func 54) #[] #[pq b__1]),(5,pq b_1),(6,i6 l.From),(7,.bool (level_Check_1 l.From x)),(8,.bool (level_Check_1 l.From x)),(13,.bool ((level_Check_1 l.From x) && (level_Check_1 l.To x))),(14,.bool ((level_Check_1 l.From x) && (level_Check_1 l.To x))),(20,.bool (((level_Check_1 l.From x) && (level_Check_1 l.To x)) && (l.From != l.To))),(21,.bool (((level_Check_1 l.From x) && (level_Check_1 l.To x)) && (l.From != l.To))),(25,.bool ((((level_Check_1 l.From x) && (level_Check_1 l.To x)) && (l.From != l.To)) && (level_in l.Day 0 40000))),(26,.bool ((((level_Check_1 l.From x) && (level_Check_1 l.To x)) && (l.From != l.To)) && (level_in l.Day 0 40000))),(30,.bool (((((level_Check_1 l.From x) && (level_Check_1 l.To x)) && (l.From != l.To)) && (level_in l.Day 0 40000)) && (level_in l.Rise (-1000000) 1000000)))]) hc ?_ ?_
 ·cases hb : ((((level_Check_1 l.From x) && (level_Check_1 l.To x)) && (l.From != l.To)) && (level_in l.Day 0 40000))
  ·rw [hb] at hf
   refine stS hf rfl rfl rfl fun a hf => stS hf rfl rfl rfl fun a hf => stS hf rfl rfl rfl fun a hf => sp 1 hf rfl fun a hf => cNil ⟨hf.kp rfl,hc⟩
  ·rw [hb] at hf
   refine zP hf rfl (pFA fa_32_3 rfl) fun a hf => zL hf hc sc_3 m0 rfl fun a w hf hc => zQ (v := .bool (level_in l.Rise (-1000000) 1000000)) hf hc en_31 rfl (fun w hc => level_in_ok l.Rise (-1000000) 1000000 hc rfl) fun a w hf hc => sp 1 hf rfl fun a hf => cNil ⟨hf.kp rfl,hc⟩
 intro a w ⟨hf,hc⟩
 refine sp 1 hf rfl fun a hf => stCc 4 (fun a => Has 36 a [(1,pq b_),(2,pq b_1),(3,.bool false),(4,.func (.func 54) #[] #[pq b__1]),(5,pq b_1),(6,i6 l.From),(7,.bool (level_Check_1 l.From x)),(8,.bool (level_Check_1 l.From x)),(13,.bool ((level_Check_1 l.From x) && (level_Check_1 l.To x))),(14,.bool ((level_Check_1 l.From x) && (level_Check_1 l.To x))),(20,.bool (((level_Check_1 l.From x) && (level_Check_1 l.To x)) && (l.From != l.To))),(21,.bool (((level_Check_1 l.From x) && (level_Check_1 l.To x)) && (l.From != l.To))),(25,.bool ((((level_Check_1 l.From x) && (level_Check_1 l.To x)) && (l.From != l.To)) && (level_in l.Day 0 40000))),(26,.bool ((((level_Check_1 l.From x) && (level_Check_1 l.To x)) && (l.From != l.To)) && (level_in l.Day 0 40000))),(30,.bool (((((level_Check_1 l.From x) && (level_Check_1 l.To x)) && (l.From != l.To)) && (level_in l.Day 0 40000)) && (level_in l.Rise (-1000000) 1000000))),(31,.bool (((((level_Check_1 l.From x) && (level_Check_1 l.To x)) && (l.From != l.To)) && (level_in l.Day 0 40000)) && (level_in l.Rise (-1000000) 1000000))),(35,.bool ((((((level_Check_1 l.From x) && (level_Check_1 l.To x)) && (l.From != l.To)) && (level_in l.Day 0 40000)) && (level_in l.Rise (-1000000) 1000000)) && (level_in l.Error 0 10000)))]) hc ?_ ?_
 ·cases hb : (((((level_Check_1 l.From x) && (level_Check_1 l.To x)) && (l.From != l.To)) && (level_in l.Day 0 40000)) && (level_in l.Rise (-1000000) 1000000))
  ·rw [hb] at hf
   refine stS hf rfl rfl rfl fun a hf => stS hf rfl rfl rfl fun a hf => stS hf rfl rfl rfl fun a hf => sp 1 hf rfl fun a hf => cNil ⟨hf.kp rfl,hc⟩
  ·rw [hb] at hf
   refine zP hf rfl (pFA fa_32_4 rfl) fun a hf => zL hf hc sc_3 m0 rfl fun a w hf hc => zQ (v := .bool (level_in l.Error 0 10000)) hf hc en_31 rfl (fun w hc => level_in_ok l.Error 0 10000 hc rfl) fun a w hf hc => sp 1 hf rfl fun a hf => cNil ⟨hf.kp rfl,hc⟩
 intro a w ⟨hf,hc⟩
 refine sp 1 hf rfl fun a hf => zT h ?_
 refine wp_ret ?_
 obtain rfl := hF
 replace hc := hc.drop k0
 exact zO1 Try.results56 hf rfl ⟨rfl,hc⟩

def level_every_level_Line_1 (x : level_Line) (x_1 : level_Net) : Bool :=
 (!(level_Check_2 x x_1))
theorem level_every_level_Line_1_ok {G : Pers} {Lf : List Ent} {w : World} (x : level_Line) (x_1 : level_Net) {b_ : Nat} {b__1 : Nat} {b__2 : Nat} {x_1_Lines_p : Option Addr} {x_1_Lines_c : Nat} (h_x_1_Lines : Rd G 5 x_1_Lines_p x_1_Lines_c (x_1.Lines.map enc_level_Line)) (hc : Ctx G (.box b_ [.func (.func 56) #[] #[pq b__1]] 129::.box b__1 [.func (.func 54) #[] #[pq b__2]] 105::.box b__2 [i6 x_1.Marks,.slice x_1_Lines_p x_1.Lines.length x_1_Lines_c] 36::Lf) w) {res : Bool} (hF : level_every_level_Line_1 x x_1 = res) : Calls Try.prog 73 #[.agg #[i6 x.From,i6 x.To,i6 x.Day,i6 x.Rise,i6 x.Error],pq b_] w (fun e w => e = .returned (.bool res) ∧ Ctx G (.box b_ [.func (.func 56) #[] #[pq b__1]] 129::.box b__1 [.func (.func 54) #[] #[pq b__2]] 105::.box b__2 [i6 x_1.Marks,.slice x_1_Lines_p x_1.Lines.length x_1_Lines_c] 36::Lf) w) := by
 unfold level_every_level_Line_1 at hF
 refine fnIn Try.func73 rfl Try.ntmps73 rfl fun a hf => zS fun K h => zB hf hc rfl fun b_1 a w hf hc => sp 1 hf rfl fun a hf => zT h ?_
 refine zS fun K h => zL hf hc sc_129 m1 rfl fun a w hf hc => zN hf hc ag_32 m0 rfl fun a w hf hc => zQ (v := .bool (level_Check_2 x x_1)) hf hc en_56 rfl (fun w hc => (level_Check_2_ok x x_1 h_x_1_Lines ((hc.pick k3).pick k3) rfl).mono fun e w h => ⟨h.1,((h.2.unpick k3).unpick k3)⟩) fun a w hf hc => sp 2 hf rfl fun a hf => zT h ?_
 refine wp_ret ?_
 obtain rfl := hF
 replace hc := hc.drop k0
 exact zO1 Try.results73 hf rfl ⟨rfl,hc⟩

def slices_IndexFunc_Llevel_Line_level_Line_b4 (N : Nat) (s_ : List level_Line) (f_ : level_Net) (x : Int) : Option (Step (Int) (Int)) :=
 cond (decide (x < ((s_.length : Nat) : Int)))
 (Option.bind (getI s_ x) fun e_1 =>
 cond (level_every_level_Line_1 e_1 f_)
 (some (.ret x))
 (some (.cont (W (x + 1)))))
 (some (.brk x))
def slices_IndexFunc_Llevel_Line_level_Line (N : Nat) (s_ : List level_Line) (f_ : level_Net) : Option (Int) :=
 Option.bind (loopO (fun s4 => slices_IndexFunc_Llevel_Line_level_Line_b4 N s_ f_ s4) N 0) fun x4 =>
 exK x4 (fun s4 => some (-1)) some
theorem slices_IndexFunc_Llevel_Line_level_Line_ok {N : Nat} {G : Pers} {Lf : List Ent} {w : World} (s_ : List level_Line) (f_ : level_Net) {s__p : Option Addr} {s__c : Nat} {b_ : Nat} {b__1 : Nat} {b__2 : Nat} {f__Lines_p : Option Addr} {f__Lines_c : Nat} (h_s_ : Rd G 5 s__p s__c (s_.map enc_level_Line)) (h_f__Lines : Rd G 5 f__Lines_p f__Lines_c (f_.Lines.map enc_level_Line)) (hc : Ctx G (.box b_ [.func (.func 56) #[] #[pq b__1]] 129::.box b__1 [.func (.func 54) #[] #[pq b__2]] 105::.box b__2 [i6 f_.Marks,.slice f__Lines_p f_.Lines.length f__Lines_c] 36::Lf) w) {res : Int} (hF : slices_IndexFunc_Llevel_Line_level_Line N s_ f_ = some res) : Calls Try.prog 84 #[.slice s__p s_.length s__c,.func (.func 73) #[] #[pq b_]] w (fun e w => e = .returned (i6 res) ∧ Ctx G (.box b_ [.func (.func 56) #[] #[pq b__1]] 129::.box b__1 [.func (.func 54) #[] #[pq b__2]] 105::.box b__2 [i6 f_.Marks,.slice f__Lines_p f_.Lines.length f__Lines_c] 36::Lf) w) := by
 unfold slices_IndexFunc_Llevel_Line_level_Line at hF
 refine fnIn Try.func84 rfl Try.ntmps84 rfl fun a hf => zS fun K h => sp 1 hf rfl fun a hf => zT h ?_
 refine wp_seq_k fun K2 h2 => zS fun K h => sp 1 hf rfl fun a hf => zP hf rfl (pLenS Try.underlying34 rfl) fun a hf => sp 1 hf rfl fun a hf => zT h ?_
 refine wp_block ?_
 obtain ⟨x4,hx4,hF⟩ := bnd_some hF
 let S4 : Int → Act → World → Prop := (fun (zz : Int) a w => Has 19 a [(0,.slice s__p s_.length s__c),(1,.func (.func 73) #[] #[pq b_]),(7,i6 ((s_.length : Nat) : Int)),(8,i6 zz)] ∧ Ctx G (.box b_ [.func (.func 56) #[] #[pq b__1]] 129::.box b__1 [.func (.func 54) #[] #[pq b__2]] 105::.box b__2 [i6 f_.Marks,.slice f__Lines_p f_.Lines.length f__Lines_c] 36::Lf) w)
 have hr4 : ∀ (zz : Int) a w,x4 = .go zz → S4 zz a w → K2 a w := by
  rintro x a w rfl ⟨hf,hc⟩
  replace hF := exK_go hF
  refine h2 _ _ ?_
  refine zS fun K h => sp 1 hf rfl fun a hf => zT h ?_
  refine wp_ret ?_
  obtain rfl := sj hF
  exact zO1 Try.results84 hf rfl ⟨rfl,hc⟩
 have ho4 : ∀ r,x4 = .out r → r = res := by
  rintro r rfl
  exact sj hF
 refine cLoop N (loopW (S := S4) (x := x4) ?_ N 0 _ _ ⟨hf.kp rfl,hc⟩ hx4)
 clear hF hf hc
 rintro x st4 a w KB4 ⟨hf,hc⟩ hF hfin4 hK4
 unfold slices_IndexFunc_Llevel_Line_level_Line_b4 at hF
 refine zS fun K h => sp 1 hf rfl fun a hf => zT h ?_
 refine wp_seq_k fun K7 h7 => zI hf rfl hF ?_ ?_ <;> clear hF <;> intro hF
 ·refine wp_skip ?_
  refine h7 _ _ ?_
  refine wp_seq_k fun K8 h8 => wp_block ?_
  refine zS fun K h => sp 2 hf rfl fun a hf => zT h ?_
  refine zS fun K h => sp 3 hf rfl fun a hf => ?_
  obtain ⟨e_1,he_1,hF⟩ := bnd_some hF
  obtain ⟨b_1,o,qa,qp⟩ := h_s_.atm he_1
  refine zP hf rfl (pIA Try.underlying34 sz_32 rfl rfl qa) fun a hf => zE hf hc rfl (eLdN (vs := [i6 e_1.From,i6 e_1.To,i6 e_1.Day,i6 e_1.Rise,i6 e_1.Error]) ag_32 rfl rfl (cells_pc qp (n := 5) (o' := 0) rfl)) fun a w hf hc => zQ (v := .bool (level_every_level_Line_1 e_1 f_)) hf hc en_73 rfl (fun w hc => (level_every_level_Line_1_ok e_1 f_ h_f__Lines (((hc.pick k2).pick k2).pick k2) rfl).mono fun e w h => ⟨h.1,(((h.2.unpick k2).unpick k2).unpick k2)⟩) fun a w hf hc => zT h ?_
  refine zI hf rfl hF ?_ ?_ <;> clear hF <;> intro hF
  ·refine zS fun K h => sp 2 hf rfl fun a hf => zT h ?_
   refine wp_ret ?_
   refine xBlkR ?_
   refine xThenR ?_
   refine xThenR ?_
   have he := sj hF
   rw [← he] at hfin4
   replace hF := ho4 _ hfin4
   refine xBlkR ?_
   refine xThenR ?_
   obtain rfl := hF
   exact zO1 Try.results84 hf rfl ⟨rfl,hc⟩
  ·refine wp_skip ?_
   refine h8 _ _ ?_
   refine cReg ?_
   refine sp 2 hf rfl fun a hf => cNil ?_
   exact hK4 (W (x + 1)) _ _ (sj hF).symm ⟨hf.kp rfl,hc⟩
 ·refine wp_exit ?_
  refine xThen ?_
  refine xThen ?_
  have he := sj hF
  rw [← he] at hfin4
  refine cHit ?_
  exact hr4 _ _ _ hfin4 ⟨hf.kp rfl,hc⟩

def slices_ContainsFunc_Llevel_Line_level_Line (N : Nat) (s_ : List level_Line) (f_ : level_Net) : Option (Bool) :=
 Option.bind (slices_IndexFunc_Llevel_Line_level_Line N s_ f_) fun r =>
 some (decide (0 ≤ r))
theorem slices_ContainsFunc_Llevel_Line_level_Line_ok {N : Nat} {G : Pers} {Lf : List Ent} {w : World} (s_ : List level_Line) (f_ : level_Net) {s__p : Option Addr} {s__c : Nat} {b_ : Nat} {b__1 : Nat} {b__2 : Nat} {f__Lines_p : Option Addr} {f__Lines_c : Nat} (h_s_ : Rd G 5 s__p s__c (s_.map enc_level_Line)) (h_f__Lines : Rd G 5 f__Lines_p f__Lines_c (f_.Lines.map enc_level_Line)) (hc : Ctx G (.box b_ [.func (.func 56) #[] #[pq b__1]] 129::.box b__1 [.func (.func 54) #[] #[pq b__2]] 105::.box b__2 [i6 f_.Marks,.slice f__Lines_p f_.Lines.length f__Lines_c] 36::Lf) w) {res : Bool} (hF : slices_ContainsFunc_Llevel_Line_level_Line N s_ f_ = some res) : Calls Try.prog 72 #[.slice s__p s_.length s__c,.func (.func 73) #[] #[pq b_]] w (fun e w => e = .returned (.bool res) ∧ Ctx G (.box b_ [.func (.func 56) #[] #[pq b__1]] 129::.box b__1 [.func (.func 54) #[] #[pq b__2]] 105::.box b__2 [i6 f_.Marks,.slice f__Lines_p f_.Lines.length f__Lines_c] 36::Lf) w) := by
 unfold slices_ContainsFunc_Llevel_Line_level_Line at hF
 refine fnIn Try.func72 rfl Try.ntmps72 rfl fun a hf => zS fun K h => sp 1 hf rfl fun a hf => zT h ?_
 refine zS fun K h => sp 2 hf rfl fun a hf => ?_
 obtain ⟨r,hr,hF⟩ := bnd_some hF
 refine zQ (v := i6 r) hf hc en_84 rfl (fun w hc => (slices_IndexFunc_Llevel_Line_level_Line_ok s_ f_ h_s_ h_f__Lines (((hc.pick k2).pick k2).pick k2) hr).mono fun e w h => ⟨h.1,(((h.2.unpick k2).unpick k2).unpick k2)⟩) fun a w hf hc => sp 2 hf rfl fun a hf => zT h ?_
 refine wp_ret ?_
 obtain rfl := sj hF
 exact zO1 Try.results72 hf rfl ⟨rfl,hc⟩

def level_every_level_Line (N : Nat) (l : List level_Line) (so : level_Net) : Option (Bool) :=
 Option.bind (slices_ContainsFunc_Llevel_Line_level_Line N l so) fun r =>
 some (!r)
theorem level_every_level_Line_ok {N : Nat} {G : Pers} {Lf : List Ent} {w : World} (l : List level_Line) (so : level_Net) {l_p : Option Addr} {l_c : Nat} {b_ : Nat} {b__1 : Nat} {so_Lines_p : Option Addr} {so_Lines_c : Nat} (h_l : Rd G 5 l_p l_c (l.map enc_level_Line)) (h_so_Lines : Rd G 5 so_Lines_p so_Lines_c (so.Lines.map enc_level_Line)) (hc : Ctx G (.box b_ [.func (.func 54) #[] #[pq b__1]] 105::.box b__1 [i6 so.Marks,.slice so_Lines_p so.Lines.length so_Lines_c] 36::Lf) w) {res : Bool} (hF : level_every_level_Line N l so = some res) : Calls Try.prog 55 #[.slice l_p l.length l_c,.func (.func 56) #[] #[pq b_]] w (fun e w => e = .returned (.bool res) ∧ Ctx G (.box b_ [.func (.func 54) #[] #[pq b__1]] 105::.box b__1 [i6 so.Marks,.slice so_Lines_p so.Lines.length so_Lines_c] 36::Lf) w) := by
 unfold level_every_level_Line at hF
 refine fnIn Try.func55 rfl Try.ntmps55 rfl fun a hf => zS fun K h => zB hf hc rfl fun b_1 a w hf hc => sp 1 hf rfl fun a hf => zT h ?_
 refine zS fun K h => sp 1 hf rfl fun a hf => zP hf rfl (pMF (us := [pq b_1]) rfl rfl) fun a hf => ?_
 obtain ⟨r,hr,hF⟩ := bnd_some hF
 refine zQ (v := .bool r) hf hc en_72 rfl (fun w hc => (slices_ContainsFunc_Llevel_Line_level_Line_ok l so h_l h_so_Lines (((hc.pick k2).pick k2).pick k2) hr).mono fun e w h => ⟨h.1,(((h.2.unpick k2).unpick k2).unpick k2)⟩) fun a w hf hc => sp 2 hf rfl fun a hf => zT h ?_
 refine wp_ret ?_
 obtain rfl := sj hF
 replace hc := hc.drop k0
 exact zO1 Try.results55 hf rfl ⟨rfl,hc⟩

def level_Check (N : Nat) (n : level_Net) : Option (Int) :=
 cond ((!(level_in n.Marks 1 12)) || (decide (30 < ((n.Lines.length : Nat) : Int))))
 (some 3)
 (Option.bind (level_every_level_Line N n.Lines n) fun r =>
 cond (!r)
 (some 20)
 (some 0))
theorem level_Check_ok {N : Nat} {G : Pers} {Lf : List Ent} {w : World} (n : level_Net) {n_Lines_p : Option Addr} {n_Lines_c : Nat} (h_n_Lines : Rd G 5 n_Lines_p n_Lines_c (n.Lines.map enc_level_Line)) (hc : Ctx G (Lf) w) {res : Int} (hF : level_Check N n = some res) : Calls Try.prog 30 #[.agg #[i6 n.Marks,.slice n_Lines_p n.Lines.length n_Lines_c]] w (fun e w => e = .returned (i6 res) ∧ Ctx G (Lf) w) := by
 unfold level_Check at hF
 refine fnIn Try.func30 rfl Try.ntmps30 rfl fun a hf => zS fun K h => zB hf hc rfl fun b_1 a w hf hc => sp 1 hf rfl fun a hf => zT h ?_
 refine zS fun K h => zP hf rfl (pMF (us := [pq b_1]) rfl rfl) fun a hf => zA hf hc zr_105 rfl fun b_2 a w hf hc => zW hf hc sz_105 u0 rfl fun w hc => zT h ?_
 refine wp_seq_k fun K3 h3 => wp_block ?_
 refine zS fun K h => zP hf rfl (pFA fa_36_0 rfl) fun a hf => zL hf hc sc_3 m1 rfl fun a w hf hc => zQ (v := .bool (level_in n.Marks 1 12)) hf hc en_31 rfl (fun w hc => level_in_ok n.Marks 1 12 hc rfl) fun a w hf hc => sp 2 hf rfl fun a hf => stCc 5 (fun a => Has 22 a [(1,pq b_1),(3,pq b_2),(6,pq b_1),(7,i6 n.Marks),(8,.bool (level_in n.Marks 1 12)),(9,.bool (!(level_in n.Marks 1 12))),(10,.bool (!(level_in n.Marks 1 12))),(15,.bool ((!(level_in n.Marks 1 12)) || (decide (30 < ((n.Lines.length : Nat) : Int)))))]) hc ?_ ?_
 ·cases hb : (!(level_in n.Marks 1 12))
  ·rw [hb] at hf
   refine zP hf rfl (pFA fa_36_1 rfl) fun a hf => zL hf hc sc_34 m1 rfl fun a w hf hc => zP hf rfl (pLenS Try.underlying34 rfl) fun a hf => sp 2 hf rfl fun a hf => cNil ⟨hf.kp rfl,hc⟩
  ·rw [hb] at hf
   refine stS hf rfl rfl rfl fun a hf => stS hf rfl rfl rfl fun a hf => stS hf rfl rfl rfl fun a hf => stS hf rfl rfl rfl fun a hf => sp 1 hf rfl fun a hf => cNil ⟨hf.kp rfl,hc⟩
 intro a w ⟨hf,hc⟩
 refine sp 1 hf rfl fun a hf => zT h ?_
 refine zI hf rfl hF ?_ ?_ <;> clear hF <;> intro hF
 ·refine zS fun K h => sp 1 hf rfl fun a hf => zT h ?_
  refine wp_ret ?_
  refine xBlkR ?_
  refine xThenR ?_
  obtain rfl := sj hF
  replace hc := (hc.drop k1).drop k0
  exact zO1 Try.results30 hf rfl ⟨rfl,hc⟩
 ·refine zS fun K h => zP hf rfl (pFA fa_36_1 rfl) fun a hf => zL hf hc sc_34 m1 rfl fun a w hf hc => zP hf rfl (pMF (us := [pq b_2]) rfl rfl) fun a hf => ?_
  obtain ⟨r,hr,hF⟩ := bnd_some hF
  refine zQ (v := .bool r) hf hc en_55 rfl (fun w hc => (level_every_level_Line_ok n.Lines n h_n_Lines h_n_Lines ((hc.pick k1).pick k1) hr).mono fun e w h => ⟨h.1,((h.2.unpick k1).unpick k1)⟩) fun a w hf hc => sp 2 hf rfl fun a hf => zT h ?_
  refine zI hf rfl hF ?_ ?_ <;> clear hF <;> intro hF
  ·refine zS fun K h => sp 1 hf rfl fun a hf => zT h ?_
   refine wp_ret ?_
   refine xBlkR ?_
   refine xThenR ?_
   obtain rfl := sj hF
   replace hc := (hc.drop k1).drop k0
   exact zO1 Try.results30 hf rfl ⟨rfl,hc⟩
  ·refine wp_skip ?_
   refine h3 _ _ ?_
   refine zS fun K h => sp 1 hf rfl fun a hf => zT h ?_
   refine wp_ret ?_
   obtain rfl := sj hF
   replace hc := (hc.drop k1).drop k0
   exact zO1 Try.results30 hf rfl ⟨rfl,hc⟩

def level_survey_legs (N : Nat) (w_ : level_survey) (mark : Int) : Option (Int) :=
 some mark
theorem level_survey_legs_ok {N : Nat} {G : Pers} {Lf : List Ent} {w : World} (w_ : level_survey) (mark : Int) {b_ : Nat} {w__Net_Lines_p : Option Addr} {w__Net_Lines_c : Nat} (h_w__Net_Lines : Rd G 5 w__Net_Lines_p w__Net_Lines_c (w_.Net.Lines.map enc_level_Line)) (hc : Ctx G (.box b_ (catc [i6 w_.Net.Marks,.slice w__Net_Lines_p w_.Net.Lines.length w__Net_Lines_c] 169 encI_i64 w_.can (catc [] 169 enc_level_Leg w_.by_ [])) 73::Lf) w) {res : Int} (hF : level_survey_legs N w_ mark = some res) : Calls Try.prog 75 #[pq b_,i6 mark] w (fun e w => ∃ (b'1 : Nat) (b'2 : Nat),e = .returned (.func (.func 86) #[] #[pq b'1,pq b'2]) ∧ Ctx G (.box b'1 [pq b_] 62::.box b'2 [i6 res] 3::.box b_ (catc [i6 w_.Net.Marks,.slice w__Net_Lines_p w_.Net.Lines.length w__Net_Lines_c] 169 encI_i64 w_.can (catc [] 169 enc_level_Leg w_.by_ [])) 73::Lf) w) := by
 unfold level_survey_legs at hF
 refine fnIn Try.func75 rfl Try.ntmps75 rfl fun a hf => zS fun K h => zB hf hc rfl fun b_1 a w hf hc => zB hf hc rfl fun b_2 a w hf hc => sp 1 hf rfl fun a hf => zT h ?_
 refine zS fun K h => zP hf rfl (pMF (us := [pq b_1,pq b_2]) rfl rfl) fun a hf => sp 1 hf rfl fun a hf => zT h ?_
 refine wp_ret ?_
 obtain rfl := sj hF
 replace hc := (hc.pick k0).pick k1
 exact zO1 Try.results75 hf rfl ⟨b_1,b_2,rfl,hc⟩

def level_starts (back : Bool) : Bool :=
 cond back
 (true)
 (false)
theorem level_starts_ok {G : Pers} {Lf : List Ent} {w : World} (back : Bool)   (hc : Ctx G (Lf) w) {res : Bool} (hF : level_starts back = res) : Calls Try.prog 88 #[.bool back] w (fun e w => e = .returned (.agg #[(bif res then .func (.func 91) #[] #[] else .func (.func 92) #[] #[])]) ∧ Ctx G (Lf) w) := by
 unfold level_starts at hF
 refine fnIn Try.func88 rfl Try.ntmps88 rfl fun a hf => zS fun K h => zA hf hc zr_149 rfl fun b_1 a w hf hc => zT h ?_
 refine wp_seq_k fun K2 h2 => zS fun K h => sp 1 hf rfl fun a hf => zT h ?_
 refine zI hf rfl hF ?_ ?_ <;> clear hF <;> intro hF
 ·refine zS fun K h => zP hf rfl (pBuildS (cells := [.func (.func 91) #[] #[]]) bt_149 rfl rfl) fun a hf => zW hf hc sz_149 u0 rfl fun w hc => zT h ?_
  refine wp_ret ?_
  refine xThenR ?_
  obtain rfl := hF
  exact fnOut1 (by simp) rfl Try.results88 hf hc (rv_cellN (vs := [.func (.func 91) #[] #[]]) ag_149 rfl rfl (cells_box (n := 1) m0 rfl)) ⟨rfl,(hc.drop k0)⟩
 ·refine wp_skip ?_
  refine h2 _ _ ?_
  refine zS fun K h => zP hf rfl (pBuildS (cells := [.func (.func 92) #[] #[]]) bt_149 rfl rfl) fun a hf => zW hf hc sz_149 u0 rfl fun w hc => zT h ?_
  refine wp_ret ?_
  obtain rfl := hF
  exact fnOut1 (by simp) rfl Try.results88 hf hc (rv_cellN (vs := [.func (.func 92) #[] #[]]) ag_149 rfl rfl (cells_box (n := 1) m0 rfl)) ⟨rfl,(hc.drop k0)⟩

def level_starts_1 (l : level_Line) : Int :=
 l.To
theorem level_starts_1_ok {G : Pers} {Lf : List Ent} {w : World} (l : level_Line)   (hc : Ctx G (Lf) w) {res : Int} (hF : level_starts_1 l = res) : Calls Try.prog 91 #[.agg #[i6 l.From,i6 l.To,i6 l.Day,i6 l.Rise,i6 l.Error]] w (fun e w => e = .returned (i6 res) ∧ Ctx G (Lf) w) := by
 unfold level_starts_1 at hF
 refine fnIn Try.func91 rfl Try.ntmps91 rfl fun a hf => zS fun K h => zB hf hc rfl fun b_1 a w hf hc => sp 1 hf rfl fun a hf => zT h ?_
 refine zS fun K h => zP hf rfl (pFA fa_32_1 rfl) fun a hf => zL hf hc sc_3 m0 rfl fun a w hf hc => sp 1 hf rfl fun a hf => zT h ?_
 refine wp_ret ?_
 obtain rfl := hF
 replace hc := hc.drop k0
 exact zO1 Try.results91 hf rfl ⟨rfl,hc⟩

def level_starts_2 (l : level_Line) : Int :=
 l.From
theorem level_starts_2_ok {G : Pers} {Lf : List Ent} {w : World} (l : level_Line)   (hc : Ctx G (Lf) w) {res : Int} (hF : level_starts_2 l = res) : Calls Try.prog 92 #[.agg #[i6 l.From,i6 l.To,i6 l.Day,i6 l.Rise,i6 l.Error]] w (fun e w => e = .returned (i6 res) ∧ Ctx G (Lf) w) := by
 unfold level_starts_2 at hF
 refine fnIn Try.func92 rfl Try.ntmps92 rfl fun a hf => zS fun K h => zB hf hc rfl fun b_1 a w hf hc => sp 1 hf rfl fun a hf => zT h ?_
 refine zS fun K h => zP hf rfl (pFA fa_32_0 rfl) fun a hf => zL hf hc sc_3 m0 rfl fun a w hf hc => sp 1 hf rfl fun a hf => zT h ?_
 refine wp_ret ?_
 obtain rfl := hF
 replace hc := hc.drop k0
 exact zO1 Try.results92 hf rfl ⟨rfl,hc⟩

def level_survey_start (N : Nat) (w_ : Int) (w__1 : List level_Line) (g : level_Leg) : Option (Int) :=
 Option.bind (getI w__1 g.Line) fun e_1 =>
 some (bif (level_starts g.Back) then (level_starts_1 e_1) else (level_starts_2 e_1))
theorem level_survey_start_ok {N : Nat} {G : Pers} {Lf : List Ent} {w : World} (w_ : Int) (w__1 : List level_Line) (g : level_Leg) {b_ : Nat} {w__1_p : Option Addr} {w__1_c : Nat} {xa : Nat → Int} {xa_1 : Nat → level_Leg} (h_w__1 : Rd G 5 w__1_p w__1_c (w__1.map enc_level_Line)) (hc : Ctx G (.box b_ (catc [i6 w_,.slice w__1_p w__1.length w__1_c] 169 encI_i64 xa (catc [] 169 enc_level_Leg xa_1 [])) 73::Lf) w) {res : Int} (hF : level_survey_start N w_ w__1 g = some res) : Calls Try.prog 87 #[pq b_,.agg #[i6 g.Line,.bool g.Back]] w (fun e w => e = .returned (i6 res) ∧ Ctx G (.box b_ (catc [i6 w_,.slice w__1_p w__1.length w__1_c] 169 encI_i64 xa (catc [] 169 enc_level_Leg xa_1 [])) 73::Lf) w) := by
 unfold level_survey_start at hF
 refine fnIn Try.func87 rfl Try.ntmps87 rfl fun a hf => zS fun K h => zB hf hc rfl fun b_1 a w hf hc => sp 1 hf rfl fun a hf => zT h ?_
 refine wp_seq_k fun K2 h2 => ?_
 obtain ⟨e_1,he_1,hF⟩ := bnd_some hF
 obtain ⟨b_2,o,qa,qp⟩ := h_w__1.atm he_1
 refine cQ hc follows_mx (by kernel_rfl) ?_
 refine qE hf rfl rfl rfl (Pu.ev (pFA fa_69_1 rfl)) fun a hf => qE hf rfl rfl rfl (eLd1 sc_4 rfl (cell_box m0 rfl)) fun a hf => qE hf rfl rfl rfl (eC (v := .agg #[(bif (level_starts g.Back) then .func (.func 91) #[] #[] else .func (.func 92) #[] #[])]) (vs := [.bool g.Back]) (caps := []) en_88 rfl rfl rfl rfl (fun w hc => level_starts_ok g.Back hc rfl)) fun a hf => qE hf rfl rfl rfl (Pu.ev (pField1 Try.underlying149 rfl sc_147 rfl rfl)) fun a hf => qE hf rfl rfl rfl (Pu.ev (pM rfl)) fun a hf => qE hf rfl rfl rfl (Pu.ev (pNC rfl)) fun a hf => qE hf rfl rfl rfl (Pu.ev (pFA fa_73_0 rfl)) fun a hf => qE hf rfl rfl rfl (Pu.ev (pFA fa_36_1 rfl)) fun a hf => qE hf rfl rfl rfl (eLd1 sc_34 rfl (cell_box m1 rfl)) fun a hf => qE hf rfl rfl rfl (Pu.ev (pFA fa_69_0 rfl)) fun a hf => qE hf rfl rfl rfl (eLd1 sc_3 rfl (cell_box m0 rfl)) fun a hf => qE hf rfl rfl rfl (Pu.ev (pIA Try.underlying34 sz_32 rfl rfl qa)) fun a hf => qE hf rfl rfl rfl (eLdN (vs := [i6 e_1.From,i6 e_1.To,i6 e_1.Day,i6 e_1.Rise,i6 e_1.Error]) ag_32 rfl rfl (cells_pc qp (n := 5) (o' := 0) rfl)) fun a hf => ?_
 refine qE hf rfl rfl rfl (eCsel (c := (level_starts g.Back)) (v := i6 (bif (level_starts g.Back) then (level_starts_1 e_1) else (level_starts_2 e_1))) (v1 := i6 (level_starts_1 e_1)) (v2 := i6 (level_starts_2 e_1)) (vs := [.agg #[i6 e_1.From,i6 e_1.To,i6 e_1.Day,i6 e_1.Rise,i6 e_1.Error]]) en_91 en_92 rfl rfl rfl rfl (fun hb => congrArg (Value.int .i64) (bifT hb)) (fun hb => congrArg (Value.int .i64) (bifF hb)) (fun w hc => level_starts_1_ok e_1 hc rfl) (fun w hc => level_starts_2_ok e_1 hc rfl)) fun a hf => qE hf rfl rfl rfl (Pu.ev (pA rfl)) fun a hf => ?_
 intro w hc
 refine h2 _ _ ?_
 refine wp_ret ?_
 obtain rfl := sj hF
 replace hc := hc.drop k0
 exact zO1 Try.results87 hf rfl ⟨rfl,hc⟩

def level_survey_legs_1_j13 (N : Nat) {σ : Type} (x_3 : Int) (sg_2 : σ) : Option (Step (Int × σ) (Step (Int × σ) (σ))) :=
 some (.cont (W (x_3 + 1),sg_2))
def level_survey_legs_1_b10 (N : Nat) {σ : Type} (x : Int) (x_1 : List level_Line) (x_2 : Int) (y : σ → level_Leg → Option (σ × Bool)) (x_0 : Int) (x_3 : Int) (sg_1 : σ) : Option (Step (Int × σ) (Step (Int × σ) (σ))) :=
 cond (decide (x_3 < (2 : Int)))
 (Option.bind (getI ([(⟨x_0,false⟩ : level_Leg),(⟨x_0,true⟩ : level_Leg)] : List level_Leg) x_3) fun e_1 =>
 Option.bind (level_survey_start N x x_1 e_1) fun r =>
 cond (r == x_2)
 (Option.bind (y sg_1 e_1) fun ry =>
 cond (!ry.2)
 (some (.ret (.ret ry.1)))
 (level_survey_legs_1_j13 N x_3 ry.1))
 (level_survey_legs_1_j13 N x_3 sg_1))
 (some (.brk (x_3,sg_1)))
def level_survey_legs_1_b3 (N : Nat) {σ : Type} (x : Int) (x_1 : List level_Line) (x_2 : Int) (y : σ → level_Leg → Option (σ × Bool)) (x_0 : Int) (sg : σ) : Option (Step (Int × σ) (σ)) :=
 cond (decide (x_0 < ((x_1.length : Nat) : Int)))
 (Option.bind (loopO (fun s10 => level_survey_legs_1_b10 N x x_1 x_2 y x_0 s10.1 s10.2) N (0,sg)) fun x10 =>
 exK x10 (fun s10 => some (.cont (W (x_0 + 1),s10.2))) some)
 (some (.brk (x_0,sg)))
def level_survey_legs_1 (N : Nat) {σ : Type} (x : Int) (x_1 : List level_Line) (x_2 : Int) (y : σ → level_Leg → Option (σ × Bool)) (sg0 : σ) : Option (σ) :=
 Option.bind (loopO (fun s3 => level_survey_legs_1_b3 N x x_1 x_2 y s3.1 s3.2) N (0,sg0)) fun x3 =>
 exK x3 (fun s3 => some s3.2) some
theorem level_survey_legs_1_ok {N : Nat} {G : Pers} {Lf : List Ent} {w : World} {σ : Type} (x : Int) (x_1 : List level_Line) (x_2 : Int) {b_ : Nat} {b__1 : Nat} {x_1_p : Option Addr} {x_1_c : Nat} {b__2 : Nat} (h_x_1 : Rd G 5 x_1_p x_1_c (x_1.map enc_level_Line)) (J : σ → List Ent → Prop) (y : σ → level_Leg → Option (σ × Bool)) {l : Nat} (hy : YieldsTo Try.prog G l (fun x : level_Leg => [.agg #[i6 x.Line,.bool x.Back]]) J y) (sg0 : σ) {Ls0 : List Ent} (hJ0 : J sg0 Ls0) (hJe : ∀ (o : σ) (L : List Ent),J o L → ∃ A B,∃ xx : (Nat → Int) × (Nat → level_Leg),L = A ++ (.box b__1 (catc [i6 x,.slice x_1_p x_1.length x_1_c] 169 encI_i64 xx.1 (catc [] 169 enc_level_Leg xx.2 [])) 73::B)) (hc : Ctx G (.box b_ [pq b__1] 62::.box b__2 [i6 x_2] 3::(Ls0 ++ Lf)) w) {res : σ} (hF : level_survey_legs_1 N x x_1 x_2 y sg0 = some res) : Calls Try.prog 86 #[.func (.yield l) #[] #[],pq b_,pq b__2] w (fun e w => (∃ v,e = .returned v) ∧ ∃ L,J res L ∧ Ctx G (.box b_ [pq b__1] 62::.box b__2 [i6 x_2] 3::(L ++ Lf)) w) := by
 unfold level_survey_legs_1 at hF
 refine fnIn Try.func86 rfl Try.ntmps86 rfl fun a hf => wp_seq_k fun K1 h1 => ?_
 obtain ⟨As,Bs,⟨xa,xa_1⟩,hsh_⟩ := hJe _ _ hJ0
 dsimp only at hsh_
 rw [hsh_] at hc hJ0
 replace hc : Ctx G (.box b_ [pq b__1] 62::.box b__2 [i6 x_2] 3::((As ++ (.box b__1 (catc [i6 x,.slice x_1_p x_1.length x_1_c] 169 encI_i64 xa (catc [] 169 enc_level_Leg xa_1 [])) 73::Bs)) ++ Lf)) w := hc
 replace hc : Ctx G (.box b__1 (catc [i6 x,.slice x_1_p x_1.length x_1_c] 169 encI_i64 xa (catc [] 169 enc_level_Leg xa_1 [])) 73::.box b_ [pq b__1] 62::.box b__2 [i6 x_2] 3::((As ++ Bs) ++ Lf)) w := shOut [.box b_ [pq b__1] 62,.box b__2 [i6 x_2] 3] hc
 refine cReg ?_
 refine zL hf hc sc_62 m1 rfl fun a w hf hc => sp 1 hf rfl fun a hf => zP hf rfl (pFA fa_73_0 rfl) fun a hf => zP hf rfl (pFA fa_36_1 rfl) fun a hf => zL hf hc sc_34 m0 rfl fun a w hf hc => zP hf rfl (pLenS Try.underlying34 rfl) fun a hf => sp 1 hf rfl fun a hf => cNil ?_
 replace hc : Ctx G (.box b_ [pq b__1] 62::.box b__2 [i6 x_2] 3::((As ++ (.box b__1 (catc [i6 x,.slice x_1_p x_1.length x_1_c] 169 encI_i64 xa (catc [] 169 enc_level_Leg xa_1 [])) 73::Bs)) ++ Lf)) w := shIn [.box b_ [pq b__1] 62,.box b__2 [i6 x_2] 3] hc
 refine h1 _ _ ?_
 refine wp_thenK fun K2 h2 => wp_block ?_
 obtain ⟨x3,hx3,hF⟩ := bnd_some hF
 let S3 : (Int × σ) → Act → World → Prop := (fun (zz : Int × σ) a w => ∃ (Ls : List Ent),J zz.2 Ls ∧ Has 39 a [(0,.func (.yield l) #[] #[]),(1,pq b_),(2,pq b__2),(12,i6 ((x_1.length : Nat) : Int)),(13,i6 zz.1)] ∧ Ctx G (.box b_ [pq b__1] 62::.box b__2 [i6 x_2] 3::(Ls ++ Lf)) w)
 have hr3 : ∀ (zz : Int × σ) a w,x3 = .go zz → S3 zz a w → K2 a w := by
  rintro ⟨x_0,sg⟩ a w rfl ⟨Ls,hJ,hf,hc⟩
  replace hF := exK_go hF
  refine h2 _ _ ?_
  obtain rfl := sj hF
  exact fnOut0 (by simp) rfl Try.results86 hf ⟨⟨_,rfl⟩,Ls,hJ,hc⟩
 have ho3 : ∀ r,x3 = .out r → r = res := by
  rintro r rfl
  exact sj hF
 refine cLoop N (loopW (S := S3) (x := x3) ?_ N (0,sg0) _ _ ⟨(As ++ (.box b__1 (catc [i6 x,.slice x_1_p x_1.length x_1_c] 169 encI_i64 xa (catc [] 169 enc_level_Leg xa_1 [])) 73::Bs)),hJ0,hf.kp rfl,hc⟩ hx3)
 clear hF hf hc
 rintro ⟨x_0,sg⟩ st3 a w KB3 ⟨Ls,hJ,hf,hc⟩ hF hfin3 hK3
 unfold level_survey_legs_1_b3 at hF
 refine zS fun K h => sp 1 hf rfl fun a hf => zT h ?_
 refine wp_seq_k fun K5 h5 => zI hf rfl hF ?_ ?_ <;> clear hF <;> intro hF
 ·refine wp_skip ?_
  refine h5 _ _ ?_
  refine wp_seq_k fun K6 h6 => wp_block ?_
  refine zS fun K h => sp 2 hf rfl fun a hf => zT h ?_
  refine zS fun K h => sp 1 hf rfl fun a hf => zP hf rfl (pBuildS (cells := [i6 x_0,.bool false]) bt_69 rfl rfl) fun a hf => sp 1 hf rfl fun a hf => zP hf rfl (pBuildS (cells := [i6 x_0,.bool true]) bt_69 rfl rfl) fun a hf => stBS (rows := ([(⟨x_0,false⟩ : level_Leg),(⟨x_0,true⟩ : level_Leg)] : List level_Leg).map enc_level_Leg) (vs := [(0,.agg #[i6 x_0,.bool false]),(1,.agg #[i6 x_0,.bool true])]) hf hc rfl rfl sl_146 rfl ⟨rfl,rfl,rfl,rfl,rfl,rfl,trivial⟩ rfl rfl fun b_1 a w hf hc => zP hf rfl (pLenS Try.underlying146 rfl) fun a hf => sp 1 hf rfl fun a hf => zT h ?_
  refine wp_thenK fun K9 h9 => wp_block ?_
  obtain ⟨x10,hx10,hF⟩ := bnd_some hF
  let S10 : (Int × σ) → Act → World → Prop := (fun (zz : Int × σ) a w => ∃ (Ls_1 : List Ent),J zz.2 Ls_1 ∧ Has 39 a [(0,.func (.yield l) #[] #[]),(1,pq b_),(2,pq b__2),(12,i6 ((x_1.length : Nat) : Int)),(13,i6 x_0),(20,.slice (some ⟨b_1,0,none⟩) 2 2),(21,i6 (2 : Int)),(22,i6 zz.1)] ∧ Ctx G (.row (some ⟨b_1,0,none⟩) 2 (([(⟨x_0,false⟩ : level_Leg),(⟨x_0,true⟩ : level_Leg)] : List level_Leg).map enc_level_Leg) 69 2::.box b_ [pq b__1] 62::.box b__2 [i6 x_2] 3::(Ls_1 ++ Lf)) w)
  have hr10 : ∀ (zz : Int × σ) a w,x10 = .go zz → S10 zz a w → K9 a w := by
   rintro ⟨x_3,sg_1⟩ a w rfl ⟨Ls_1,hJ_1,hf,hc⟩
   replace hF := exK_go hF
   refine h9 _ _ ?_
   refine h6 _ _ ?_
   refine cReg ?_
   refine sp 2 hf rfl fun a hf => cNil ?_
   replace hc := hc.drop k0
   exact hK3 (W (x_0 + 1),sg_1) _ _ (sj hF).symm ⟨Ls_1,hJ_1,hf.kp rfl,hc⟩
  have ho10 : ∀ r,x10 = .out r → r = st3 := by
   rintro r rfl
   exact sj hF
  refine cLoop N (loopW (S := S10) (x := x10) ?_ N (0,sg) _ _ ⟨Ls,hJ,hf.kp rfl,hc⟩ hx10)
  clear hF hf hc
  rintro ⟨x_3,sg_1⟩ st10 a w KB10 ⟨Ls_1,hJ_1,hf,hc⟩ hF hfin10 hK10
  unfold level_survey_legs_1_b10 at hF
  refine zS fun K h => sp 1 hf rfl fun a hf => zT h ?_
  refine wp_seq_k fun K12 h12 => zI hf rfl hF ?_ ?_ <;> clear hF <;> intro hF
  ·refine wp_skip ?_
   refine h12 _ _ ?_
   refine wp_seq_k fun K13 h13 => ?_
   have hj13 : ∀ (sg_2 : σ) (Ls_2 : List Ent) a w,J sg_2 Ls_2 → Has 39 a [(0,.func (.yield l) #[] #[]),(1,pq b_),(2,pq b__2),(12,i6 ((x_1.length : Nat) : Int)),(13,i6 x_0),(20,.slice (some ⟨b_1,0,none⟩) 2 2),(21,i6 (2 : Int)),(22,i6 x_3)] → Ctx G (.row (some ⟨b_1,0,none⟩) 2 (([(⟨x_0,false⟩ : level_Leg),(⟨x_0,true⟩ : level_Leg)] : List level_Leg).map enc_level_Leg) 69 2::.box b_ [pq b__1] 62::.box b__2 [i6 x_2] 3::(Ls_2 ++ Lf)) w → level_survey_legs_1_j13 N x_3 sg_2 = some st10 → K13 a w := by
    repeat (clear hF)
    repeat (clear hc)
    repeat (clear hf)
    intro sg_2 Ls_2 a w hJ_2 hf hc hF
    unfold level_survey_legs_1_j13 at hF
    refine h13 _ _ ?_
    refine cReg ?_
    refine sp 2 hf rfl fun a hf => cNil ?_
    exact hK10 (W (x_3 + 1),sg_2) _ _ (sj hF).symm ⟨Ls_2,hJ_2,hf.kp rfl,hc⟩
   refine wp_block ?_
   refine zS fun K h => ?_
   obtain ⟨e_1,he_1,hF⟩ := bnd_some hF
   obtain ⟨qa,qr⟩ := row_atk hc m0 he_1
   refine zP hf rfl (pIA Try.underlying146 sz_69 rfl rfl qa) fun a hf => zE hf hc rfl (eLdN (vs := [i6 e_1.Line,.bool e_1.Back]) ag_69 rfl rfl (cells_rw (sz := 2) (i := x_3.toNat) m0 qr (n := 2) (o' := 0) rfl)) fun a w hf hc => zA hf hc zr_69 rfl fun b_2 a w hf hc => zW hf hc sz_69 u0 rfl fun w hc => zT h ?_
   refine wp_seq_k fun K15 h15 => ?_
   obtain ⟨As_1,Bs_1,⟨xa_2,xa_3⟩,hsh_⟩ := hJe _ _ hJ_1
   dsimp only at hsh_
   rw [hsh_] at hc hJ_1
   replace hc : Ctx G (.box b_2 [i6 e_1.Line,.bool e_1.Back] 69::.row (some ⟨b_1,0,none⟩) 2 (([(⟨x_0,false⟩ : level_Leg),(⟨x_0,true⟩ : level_Leg)] : List level_Leg).map enc_level_Leg) 69 2::.box b_ [pq b__1] 62::.box b__2 [i6 x_2] 3::((As_1 ++ (.box b__1 (catc [i6 x,.slice x_1_p x_1.length x_1_c] 169 encI_i64 xa_2 (catc [] 169 enc_level_Leg xa_3 [])) 73::Bs_1)) ++ Lf)) w := hc
   replace hc : Ctx G (.box b__1 (catc [i6 x,.slice x_1_p x_1.length x_1_c] 169 encI_i64 xa_2 (catc [] 169 enc_level_Leg xa_3 [])) 73::.box b_2 [i6 e_1.Line,.bool e_1.Back] 69::.row (some ⟨b_1,0,none⟩) 2 (([(⟨x_0,false⟩ : level_Leg),(⟨x_0,true⟩ : level_Leg)] : List level_Leg).map enc_level_Leg) 69 2::.box b_ [pq b__1] 62::.box b__2 [i6 x_2] 3::((As_1 ++ Bs_1) ++ Lf)) w := shOut [.box b_2 [i6 e_1.Line,.bool e_1.Back] 69,.row (some ⟨b_1,0,none⟩) 2 (([(⟨x_0,false⟩ : level_Leg),(⟨x_0,true⟩ : level_Leg)] : List level_Leg).map enc_level_Leg) 69 2,.box b_ [pq b__1] 62,.box b__2 [i6 x_2] 3] hc
   obtain ⟨r,hr,hF⟩ := bnd_some hF
   rcases boolEq (r == x_2) with hb1 | hb1
   ·replace hF := condT hb1 hF
    obtain ⟨ry,hry,hF⟩ := bnd_some hF
    refine regionM [⟨none,none,0,.func (.yield l) #[] #[]⟩,⟨none,none,1,pq b_⟩,⟨none,none,2,pq b__2⟩,⟨none,none,6,pq b_2⟩,⟨none,none,12,i6 ((x_1.length : Nat) : Int)⟩,⟨none,none,13,i6 x_0⟩,⟨none,none,20,.slice (some ⟨b_1,0,none⟩) 2 2⟩,⟨none,none,21,i6 (2 : Int)⟩,⟨none,none,22,i6 x_3⟩,⟨some 0,none,26,pq b__1⟩,⟨some 1,none,27,.agg #[i6 e_1.Line,.bool e_1.Back]⟩,⟨some 2,none,28,i6 r⟩,⟨some 3,none,29,i6 x_2⟩,⟨some 4,none,30,.bool true⟩,⟨some 5,none,31,.bool true⟩,⟨some 6,none,32,.func (.yield l) #[] #[]⟩,⟨some 7,none,33,.agg #[i6 e_1.Line,.bool e_1.Back]⟩,⟨some 8,none,34,.bool ry.2⟩,⟨some 9,none,35,.bool (!ry.2)⟩,⟨some 10,none,36,.bool (!ry.2)⟩] (fun E w => cond (E 8) (∃ Ls_3,J ry.1 Ls_3 ∧ Ctx G (.box b_2 [i6 e_1.Line,.bool e_1.Back] 69::.row (some ⟨b_1,0,none⟩) 2 (([(⟨x_0,false⟩ : level_Leg),(⟨x_0,true⟩ : level_Leg)] : List level_Leg).map enc_level_Leg) 69 2::.box b_ [pq b__1] 62::.box b__2 [i6 x_2] 3::(Ls_3 ++ Lf)) w) (Ctx G (.box b__1 (catc [i6 x,.slice x_1_p x_1.length x_1_c] 169 encI_i64 xa_2 (catc [] 169 enc_level_Leg xa_3 [])) 73::.box b_2 [i6 e_1.Line,.bool e_1.Back] 69::.row (some ⟨b_1,0,none⟩) 2 (([(⟨x_0,false⟩ : level_Leg),(⟨x_0,true⟩ : level_Leg)] : List level_Leg).map enc_level_Leg) 69 2::.box b_ [pq b__1] 62::.box b__2 [i6 x_2] 3::((As_1 ++ Bs_1) ++ Lf)) w)) [(2,0),(5,2),(8,5),(2,1),(4,3),(5,4),(8,6),(8,7),(9,8)] (fun a w => ∃ Ls_3,J ry.1 Ls_3 ∧ Has 39 a [(0,.func (.yield l) #[] #[]),(1,pq b_),(2,pq b__2),(12,i6 ((x_1.length : Nat) : Int)),(13,i6 x_0),(20,.slice (some ⟨b_1,0,none⟩) 2 2),(21,i6 (2 : Int)),(22,i6 x_3),(32,.func (.yield l) #[] #[]),(33,.agg #[i6 e_1.Line,.bool e_1.Back]),(34,.bool ry.2),(35,.bool (!ry.2)),(36,.bool (!ry.2))] ∧ Ctx G (.box b_2 [i6 e_1.Line,.bool e_1.Back] 69::.row (some ⟨b_1,0,none⟩) 2 (([(⟨x_0,false⟩ : level_Leg),(⟨x_0,true⟩ : level_Leg)] : List level_Leg).map enc_level_Leg) 69 2::.box b_ [pq b__1] 62::.box b__2 [i6 x_2] 3::(Ls_3 ++ Lf)) w) follows_mx (by kernel_rfl) (by kernel_rfl) (HasE.of hf ⟨rfl,rfl,rfl,rfl,rfl,rfl,rfl,rfl,rfl,trivial,trivial,trivial,trivial,trivial,trivial,trivial,trivial,trivial,trivial,trivial,trivial⟩) (condMF rfl hc.drew) ⟨?_,?_,?_,?_,?_,?_,?_,?_,?_,?_,?_,trivial⟩ ?_ ?_
    ·intro E a w hD hi hp he hc K hK
     have e2 := hD.f 0 rfl hi
     have e5 := hD.f 1 rfl e2
     have e8 := hD.f 2 rfl e5
     replace hc := condPF e8 hc
     have hf := he.h0.mT he 1 rfl
     refine plainM (fun _ _ h => by obtain ⟨⟨_,h⟩,_⟩ := h; cases h) ?_
     refine zL hf hc sc_62 m3 rfl fun a w hf hc => cNil ?_
     refine xThenN ?_
     refine hK _ _ fun ds u hau => ⟨he.put0 hi hau hf rfl 9 rfl rfl,condMF (updE_fls 0 e8 rfl) hc⟩
    ·intro E a w hD hi hp he hc K hK
     have e2 := hD.f 3 rfl hi
     have e5 := hD.f 1 rfl e2
     have e8 := hD.f 2 rfl e5
     replace hc := condPF e8 hc
     have hf := he.h0.mT he 3 rfl
     refine plainM (fun _ _ h => by obtain ⟨⟨_,h⟩,_⟩ := h; cases h) ?_
     refine zN hf hc ag_69 m1 rfl fun a w hf hc => cNil ?_
     refine xThenN ?_
     refine hK _ _ fun ds u hau => ⟨he.put0 hi hau hf rfl 10 rfl rfl,condMF (updE_fls 1 e8 rfl) hc⟩
    ·intro E a w hD hi hp he hc K hK
     have e0 := hp.o 0 rfl
     have e1 := hp.o 1 rfl
     have e5 := hD.f 1 rfl hi
     have e8 := hD.f 2 rfl e5
     replace hc := condPF e8 hc
     have hf := (he.h0.mP he 9 rfl e0).mP he 10 rfl e1
     refine plainM (fun _ _ h => by obtain ⟨⟨_,h⟩,_⟩ := h; cases h) ?_
     refine zQ (v := i6 r) hf hc en_87 rfl (fun w hc => (level_survey_start_ok x x_1 e_1 h_x_1 (hc.pick k0) hr).mono fun e w h => ⟨h.1,(h.2.unpick k0)⟩) fun a w hf hc => cNil ?_
     refine xThenN ?_
     refine hK _ _ fun ds u hau => ⟨he.put0 hi hau hf rfl 11 rfl rfl,condMF (updE_fls 2 e8 rfl) hc⟩
    ·intro E a w hD hi hp he hc K hK
     have e4 := hD.f 4 rfl hi
     have e5 := hD.f 5 rfl e4
     have e8 := hD.f 2 rfl e5
     replace hc := condPF e8 hc
     have hf := he.h0.mT he 2 rfl
     refine plainM (fun _ _ h => by obtain ⟨⟨_,h⟩,_⟩ := h; cases h) ?_
     refine zL hf hc sc_3 m4 rfl fun a w hf hc => cNil ?_
     refine xThenN ?_
     refine hK _ _ fun ds u hau => ⟨he.put0 hi hau hf rfl 12 rfl rfl,condMF (updE_fls 3 e8 rfl) hc⟩
    ·intro E a w hD hi hp he hc K hK
     have e2 := hp.o 2 rfl
     have e3 := hp.o 3 rfl
     have e5 := hD.f 5 rfl hi
     have e8 := hD.f 2 rfl e5
     replace hc := condPF e8 hc
     have hf := (he.h0.mP he 11 rfl e2).mP he 12 rfl e3
     refine plainM (fun _ _ h => by obtain ⟨⟨_,h⟩,_⟩ := h; cases h) ?_
     refine sp 1 hf rfl fun a hf => ?_
     replace hf := castB hb1 hf
     refine cNil ?_
     refine xThenN ?_
     refine hK _ _ fun ds u hau => ⟨he.put0 hi hau hf rfl 13 rfl rfl,condMF (updE_fls 4 e8 rfl) hc⟩
    ·intro E a w hD hi hp he hc K hK
     have e4 := hp.o 4 rfl
     have e8 := hD.f 2 rfl hi
     replace hc := condPF e8 hc
     have hf := he.h0.mP he 13 rfl e4
     refine plainM (fun _ _ h => by obtain ⟨⟨_,h⟩,_⟩ := h; cases h) ?_
     refine sp 1 hf rfl fun a hf => cNil ?_
     refine xThenN ?_
     refine hK _ _ fun ds u hau => ⟨he.put0 hi hau hf rfl 14 rfl rfl,condMF (updE_fls 5 e8 rfl) hc⟩
    ·intro E a w hD hi hp he hc K hK
     have e5 := hp.o 5 rfl
     have e8 := hD.f 6 rfl hi
     replace hc := condPF e8 hc
     have hf := (he.h0.mT he 0 rfl).mP he 14 rfl e5
     refine plainM (fun _ _ h => by obtain ⟨⟨_,h⟩,_⟩ := h; cases h) ?_
     refine sp 1 hf rfl fun a hf => cNil ?_
     refine xThenN ?_
     refine hK _ _ fun ds u hau => ⟨he.put0 hi hau hf rfl 15 rfl rfl,condMF (updE_fls 6 e8 rfl) hc⟩
    ·intro E a w hD hi hp he hc K hK
     have e5 := hp.o 5 rfl
     have e8 := hD.f 7 rfl hi
     replace hc := condPF e8 hc
     have hf := (he.h0.mT he 3 rfl).mP he 14 rfl e5
     refine plainM (fun _ _ h => by obtain ⟨⟨_,h⟩,_⟩ := h; cases h) ?_
     refine zN hf hc ag_69 m1 rfl fun a w hf hc => cNil ?_
     refine xThenN ?_
     refine hK _ _ fun ds u hau => ⟨he.put0 hi hau hf rfl 16 rfl rfl,condMF (updE_fls 7 e8 rfl) hc⟩
    ·intro E a w hD hi hp he hc K hK
     have e5 := hp.o 5 rfl
     have e6 := hp.o 6 rfl
     have e7 := hp.o 7 rfl
     replace hc := condPF hi hc
     have hf := ((he.h0.mP he 14 rfl e5).mP he 15 rfl e6).mP he 16 rfl e7
     replace hc : Ctx G (.box b_2 [i6 e_1.Line,.bool e_1.Back] 69::.row (some ⟨b_1,0,none⟩) 2 (([(⟨x_0,false⟩ : level_Leg),(⟨x_0,true⟩ : level_Leg)] : List level_Leg).map enc_level_Leg) 69 2::.box b_ [pq b__1] 62::.box b__2 [i6 x_2] 3::((As_1 ++ (.box b__1 (catc [i6 x,.slice x_1_p x_1.length x_1_c] 169 encI_i64 xa_2 (catc [] 169 enc_level_Leg xa_3 [])) 73::Bs_1)) ++ Lf)) w := shIn [.box b_2 [i6 e_1.Line,.bool e_1.Back] 69,.row (some ⟨b_1,0,none⟩) 2 (([(⟨x_0,false⟩ : level_Leg),(⟨x_0,true⟩ : level_Leg)] : List level_Leg).map enc_level_Leg) 69 2,.box b_ [pq b__1] 62,.box b__2 [i6 x_2] 3] hc
     refine stY (own := [.box b_2 [i6 e_1.Line,.bool e_1.Back] 69,.row (some ⟨b_1,0,none⟩) 2 (([(⟨x_0,false⟩ : level_Leg),(⟨x_0,true⟩ : level_Leg)] : List level_Leg).map enc_level_Leg) 69 2,.box b_ [pq b__1] 62,.box b__2 [i6 x_2] 3]) (v := e_1) hy hJ_1 hry hf hc rfl rfl rfl rfl rfl rfl fun a w Ls_3 hJ_3 hf hc => cNilIn ?_
     refine xThenN ?_
     refine hK _ _ fun ds u hau => ⟨he.put0 hi hau hf rfl 17 rfl rfl,condMT (updE_self E 8) ⟨Ls_3,hJ_3,hc⟩⟩
    ·intro E a w hD hi hp he hc K hK
     have e5 := hp.o 5 rfl
     have e8 := hp.o 8 rfl
     obtain ⟨Ls_3,hJ_3,hc⟩ := condPT e8 hc
     have hf := (he.h0.mP he 14 rfl e5).mP he 17 rfl e8
     refine plainM (fun _ _ h => by obtain ⟨⟨_,h⟩,_⟩ := h; cases h) ?_
     refine sp 1 hf rfl fun a hf => cNil ?_
     refine xThenN ?_
     refine hK _ _ fun ds u hau => ⟨he.put0 hi hau hf rfl 18 rfl rfl,condMT (updE_tru 9 e8) ⟨Ls_3,hJ_3,hc⟩⟩
    ·intro E a w hD hi hp he hc K hK
     have e5 := hp.o 5 rfl
     have e9 := hp.o 9 rfl
     have e8 := hD.t 8 rfl e9
     obtain ⟨Ls_3,hJ_3,hc⟩ := condPT e8 hc
     have hf := (he.h0.mP he 14 rfl e5).mP he 18 rfl e9
     refine plainM (fun _ _ h => by obtain ⟨⟨_,h⟩,_⟩ := h; cases h) ?_
     refine sp 1 hf rfl fun a hf => cNil ?_
     refine xThenN ?_
     refine hK _ _ fun ds u hau => ⟨he.put0 hi hau hf rfl 19 rfl rfl,condMT (updE_tru 10 e8) ⟨Ls_3,hJ_3,hc⟩⟩
    ·intro E a w hall he hc
     obtain ⟨Ls_3,hJ_3,hc⟩ := condPT (hall 8 rfl) hc
     have hf := he.h0
     replace hf := hf.more he 19 rfl (onP (hall 10 rfl))
     replace hf := hf.more he 18 rfl (onP (hall 9 rfl))
     replace hf := hf.more he 17 rfl (onP (hall 8 rfl))
     replace hf := hf.more he 16 rfl (onP (hall 7 rfl))
     replace hf := hf.more he 15 rfl (onP (hall 6 rfl))
     replace hf := hf.more he 8 rfl onT
     replace hf := hf.more he 7 rfl onT
     replace hf := hf.more he 6 rfl onT
     replace hf := hf.more he 5 rfl onT
     replace hf := hf.more he 4 rfl onT
     replace hf := hf.more he 2 rfl onT
     replace hf := hf.more he 1 rfl onT
     replace hf := hf.more he 0 rfl onT
     exact ⟨Ls_3,hJ_3,hf.kp rfl,hc⟩
    rintro a w ⟨Ls_3,hJ_3,hf,hc⟩
    refine h15 _ _ ?_
    refine zI hf rfl hF ?_ ?_ <;> clear hF <;> intro hF
    ·refine wp_ret ?_
     refine xBlkR ?_
     refine xThenR ?_
     refine xThenR ?_
     have he := sj hF
     rw [← he] at hfin10
     replace hF := ho10 _ hfin10
     refine xBlkR ?_
     refine xThenR ?_
     refine xBlkR ?_
     refine xThenR ?_
     refine xThenR ?_
     have he := hF
     rw [← he] at hfin3
     replace hF := ho3 _ hfin3
     refine xBlkR ?_
     refine xThenR ?_
     obtain rfl := hF
     replace hc := (hc.drop k1).drop k0
     exact fnOut0 (by simp) rfl Try.results86 hf ⟨⟨_,rfl⟩,Ls_3,hJ_3,hc⟩
    ·refine wp_skip ?_
     replace hc := hc.drop k0
     exact hj13 ry.1 Ls_3 _ _ hJ_3 (hf.kp rfl) hc hF
   ·replace hF := condF hb1 hF
    refine cQ hc follows_mx (by kernel_rfl) ?_
    refine qE hf rfl rfl rfl (eLd1 sc_62 rfl (cell_box m3 rfl)) fun a hf => qE hf rfl rfl rfl (eLdN (vs := [i6 e_1.Line,.bool e_1.Back]) ag_69 rfl rfl (cells_box (n := 2) m1 rfl)) fun a hf => qE hf rfl rfl rfl (eC (v := i6 r) (vs := [pq b__1,.agg #[i6 e_1.Line,.bool e_1.Back]]) (caps := []) en_87 rfl rfl rfl rfl (fun w hc => (level_survey_start_ok x x_1 e_1 h_x_1 (hc.pick k0) hr).mono fun e w h => ⟨h.1,(h.2.unpick k0)⟩)) fun a hf => qE hf rfl rfl rfl (eLd1 sc_3 rfl (cell_box m4 rfl)) fun a hf => qE hf rfl rfl rfl (Pu.ev (pEq rfl rfl)) fun a hf => ?_
    replace hf := castB hb1 hf
    refine qE hf rfl rfl rfl (Pu.ev (pM rfl)) fun a hf => qS hf rfl rfl rfl fun a hf => qS hf rfl rfl rfl fun a hf => qS hf rfl rfl rfl fun a hf => qS hf rfl rfl rfl fun a hf => qE hf rfl rfl rfl (Pu.ev (pPf rfl rfl)) fun a hf => ?_
    intro w hc
    replace hc : Ctx G (.box b_2 [i6 e_1.Line,.bool e_1.Back] 69::.row (some ⟨b_1,0,none⟩) 2 (([(⟨x_0,false⟩ : level_Leg),(⟨x_0,true⟩ : level_Leg)] : List level_Leg).map enc_level_Leg) 69 2::.box b_ [pq b__1] 62::.box b__2 [i6 x_2] 3::((As_1 ++ (.box b__1 (catc [i6 x,.slice x_1_p x_1.length x_1_c] 169 encI_i64 xa_2 (catc [] 169 enc_level_Leg xa_3 [])) 73::Bs_1)) ++ Lf)) w := shIn [.box b_2 [i6 e_1.Line,.bool e_1.Back] 69,.row (some ⟨b_1,0,none⟩) 2 (([(⟨x_0,false⟩ : level_Leg),(⟨x_0,true⟩ : level_Leg)] : List level_Leg).map enc_level_Leg) 69 2,.box b_ [pq b__1] 62,.box b__2 [i6 x_2] 3] hc
    refine h15 _ _ ?_
    refine cCondF hf rfl ?_
    refine wp_skip ?_
    replace hc := hc.drop k0
    exact hj13 sg_1 (As_1 ++ (.box b__1 (catc [i6 x,.slice x_1_p x_1.length x_1_c] 169 encI_i64 xa_2 (catc [] 169 enc_level_Leg xa_3 [])) 73::Bs_1)) _ _ hJ_1 (hf.kp rfl) hc hF
  ·refine wp_exit ?_
   refine xThen ?_
   refine xThen ?_
   have he := sj hF
   rw [← he] at hfin10
   refine cHit ?_
   exact hr10 _ _ _ hfin10 ⟨Ls_1,hJ_1,hf.kp rfl,hc⟩
 ·refine wp_exit ?_
  refine xThen ?_
  refine xThen ?_
  have he := sj hF
  rw [← he] at hfin3
  refine cHit ?_
  exact hr3 _ _ _ hfin3 ⟨Ls,hJ,hf.kp rfl,hc⟩

def level_survey_rise (N : Nat) (w_ : level_survey) (g : level_Leg) : Option (Int) :=
 Option.bind (getI w_.Net.Lines g.Line) fun e_1 =>
 cond g.Back
 (some (W (e_1.Error - e_1.Rise)))
 (some (W (e_1.Error + e_1.Rise)))
theorem level_survey_rise_ok {N : Nat} {G : Pers} {Lf : List Ent} {w : World} (w_ : level_survey) (g : level_Leg) {b_ : Nat} {w__Net_Lines_p : Option Addr} {w__Net_Lines_c : Nat} (h_w__Net_Lines : Rd G 5 w__Net_Lines_p w__Net_Lines_c (w_.Net.Lines.map enc_level_Line)) (hc : Ctx G (.box b_ (catc [i6 w_.Net.Marks,.slice w__Net_Lines_p w_.Net.Lines.length w__Net_Lines_c] 169 encI_i64 w_.can (catc [] 169 enc_level_Leg w_.by_ [])) 73::Lf) w) {res : Int} (hF : level_survey_rise N w_ g = some res) : Calls Try.prog 76 #[pq b_,.agg #[i6 g.Line,.bool g.Back]] w (fun e w => e = .returned (i6 res) ∧ Ctx G (.box b_ (catc [i6 w_.Net.Marks,.slice w__Net_Lines_p w_.Net.Lines.length w__Net_Lines_c] 169 encI_i64 w_.can (catc [] 169 enc_level_Leg w_.by_ [])) 73::Lf) w) := by
 unfold level_survey_rise at hF
 refine fnIn Try.func76 rfl Try.ntmps76 rfl fun a hf => zS fun K h => zB hf hc rfl fun b_1 a w hf hc => sp 1 hf rfl fun a hf => zT h ?_
 refine wp_seq_k fun K2 h2 => ?_
 obtain ⟨e_1,he_1,hF⟩ := bnd_some hF
 obtain ⟨b_2,o,qa,qp⟩ := h_w__Net_Lines.atm he_1
 replace hc := hc.nilRow 0 0
 refine regionE (fun θ => [⟨none,none,0,pq b_⟩,⟨none,none,3,pq b_1⟩,⟨some 0,none,6,pq b_⟩,⟨some 1,none,7,pq b_⟩,⟨some 2,none,8,pq b_⟩,⟨some 3,none,9,.pointer (some ⟨b_,1,none⟩)⟩,⟨some 4,none,10,.slice w__Net_Lines_p w_.Net.Lines.length w__Net_Lines_c⟩,⟨some 5,none,11,pq b_1⟩,⟨some 6,none,12,i6 g.Line⟩,⟨some 7,none,13,.pointer (some ⟨b_2,o,none⟩)⟩,⟨some 8,none,14,.agg #[i6 e_1.From,i6 e_1.To,i6 e_1.Day,i6 e_1.Rise,i6 e_1.Error]⟩,⟨some 9,none,5,.pointer (some ⟨(θ 72).b,0,none⟩)⟩]) (fun E θ => (bif E 10 then .box (θ 72).b [i6 e_1.From,i6 e_1.To,i6 e_1.Day,i6 e_1.Rise,i6 e_1.Error] 32 else bif E 9 then .box (θ 72).b [i6 0,i6 0,i6 0,i6 0,i6 0] 32 else .row none 0 [] 0 0)::.box b_1 [i6 g.Line,.bool g.Back] 69::.box b_ (catc [i6 w_.Net.Marks,.slice w__Net_Lines_p w_.Net.Lines.length w__Net_Lines_c] 169 encI_i64 w_.can (catc [] 169 enc_level_Leg w_.by_ [])) 73::Lf) [(10,9)] (fun a w => ∃ (b_4 : Nat),Has 27 a [(3,pq b_1),(5,pq b_4)] ∧ Ctx G (.box b_4 [i6 e_1.From,i6 e_1.To,i6 e_1.Day,i6 e_1.Rise,i6 e_1.Error] 32::.box b_1 [i6 g.Line,.bool g.Back] 69::.box b_ (catc [i6 w_.Net.Marks,.slice w__Net_Lines_p w_.Net.Lines.length w__Net_Lines_c] 169 encI_i64 w_.can (catc [] 169 enc_level_Leg w_.by_ [])) 73::Lf) w) follows_mx (by kernel_rfl) (by kernel_rfl) (HasE.of hf ⟨rfl,rfl,trivial,trivial,trivial,trivial,trivial,trivial,trivial,trivial,trivial,trivial,trivial⟩) hc ⟨?_,?_,?_,?_,?_,?_,?_,?_,?_,?_,?_,trivial⟩ ?_ ?_
 ·intro E θ a w hD hi hp he hc
  have hf := he.h0.mT he 0 rfl
  refine sp 1 hf rfl fun a hf => zD θ he hi hf 2 rfl rfl rfl hc
 ·intro E θ a w hD hi hp he hc
  have e0 := hp.o 0 rfl
  have hf := he.h0.mP he 2 rfl e0
  refine sp 1 hf rfl fun a hf => zD θ he hi hf 3 rfl rfl rfl hc
 ·intro E θ a w hD hi hp he hc
  have e1 := hp.o 1 rfl
  have hf := he.h0.mP he 3 rfl e1
  refine zP hf rfl (pFA fa_73_0 rfl) fun a hf => zD θ he hi hf 4 rfl rfl rfl hc
 ·intro E θ a w hD hi hp he hc
  have e2 := hp.o 2 rfl
  have hf := he.h0.mP he 4 rfl e2
  refine zP hf rfl (pFA fa_36_1 rfl) fun a hf => zD θ he hi hf 5 rfl rfl rfl hc
 ·intro E θ a w hD hi hp he hc
  have e3 := hp.o 3 rfl
  have hf := he.h0.mP he 5 rfl e3
  refine zL hf hc sc_34 m2 rfl fun a w hf hc => zD θ he hi hf 6 rfl rfl rfl hc
 ·intro E θ a w hD hi hp he hc
  have hf := he.h0.mT he 1 rfl
  refine zP hf rfl (pFA fa_69_0 rfl) fun a hf => zD θ he hi hf 7 rfl rfl rfl hc
 ·intro E θ a w hD hi hp he hc
  have e5 := hp.o 5 rfl
  have hf := he.h0.mP he 7 rfl e5
  refine zL hf hc sc_3 m1 rfl fun a w hf hc => zD θ he hi hf 8 rfl rfl rfl hc
 ·intro E θ a w hD hi hp he hc
  have e4 := hp.o 4 rfl
  have e6 := hp.o 6 rfl
  have hf := (he.h0.mP he 6 rfl e4).mP he 8 rfl e6
  refine zP hf rfl (pIA Try.underlying34 sz_32 rfl rfl qa) fun a hf => zD θ he hi hf 9 rfl rfl rfl hc
 ·intro E θ a w hD hi hp he hc
  have e7 := hp.o 7 rfl
  have hf := he.h0.mP he 9 rfl e7
  refine zE hf hc rfl (eLdN (vs := [i6 e_1.From,i6 e_1.To,i6 e_1.Day,i6 e_1.Rise,i6 e_1.Error]) ag_32 rfl rfl (cells_pc qp (n := 5) (o' := 0) rfl)) fun a w hf hc => zD θ he hi hf 10 rfl rfl rfl hc
 ·intro E θ a w hD hi hp he hc
  have e10 := hD.f 0 rfl hi
  try dsimp only at hc
  rw [hi,e10] at hc
  have hf := he.h0
  refine zA hf hc zr_32 rfl fun b_3 a w hf hc => cNil ?_
  refine xThenN ?_
  intro ds u hau
  replace hc := hc.drop k1
  refine ⟨(setT θ 72 ⟨b_3,none,0,(fun _ => (none,0))⟩),he.put hi hau hf rfl [] trivial ⟨qq,qq,qq,qq,qq,qq,qq,qq,qq,qq,qq,qq,trivial⟩,?_⟩
  try dsimp only
  rw [updE_self E 9,updE_fls 9 e10 rfl]
  exact hc
 ·intro E θ a w hD hi hp he hc
  have e8 := hp.o 8 rfl
  have e9 := hp.o 9 rfl
  try dsimp only at hc
  rw [e9,hi] at hc
  have hf := (he.h0.mP he 10 rfl e8).mP he 11 rfl e9
  refine zW hf hc sz_32 u0 rfl fun w hc => zG θ he hi hf rfl ?_
  try dsimp only
  rw [updE_tru 10 e9,updE_self E 10]
  exact hc
 ·intro E θ a w hall he hc
  have hf := he.h0
  have e9 := hall 9 rfl
  have e10 := hall 10 rfl
  replace hf := hf.more he 11 rfl (onP e9)
  replace hf := hf.more he 1 rfl (onT)
  try dsimp only at hc
  rw [e9,e10] at hc
  exact ⟨(θ 72).b,hf.kp rfl,hc⟩
 rintro a w ⟨b_4,hf,hc⟩
 refine h2 _ _ ?_
 refine wp_seq_k fun K3 h3 => zS fun K h => zP hf rfl (pFA fa_69_1 rfl) fun a hf => zL hf hc sc_4 m1 rfl fun a w hf hc => zT h ?_
 refine zI hf rfl hF ?_ ?_ <;> clear hF <;> intro hF
 ·refine zS fun K h => zP hf rfl (pFA fa_32_4 rfl) fun a hf => zL hf hc sc_3 m0 rfl fun a w hf hc => zP hf rfl (pFA fa_32_3 rfl) fun a hf => zL hf hc sc_3 m0 rfl fun a w hf hc => sp 2 hf rfl fun a hf => zT h ?_
  refine wp_ret ?_
  refine xThenR ?_
  obtain rfl := sj hF
  replace hc := (hc.drop k1).drop k0
  exact zO1 Try.results76 hf rfl ⟨rfl,hc⟩
 ·refine wp_skip ?_
  refine h3 _ _ ?_
  refine zS fun K h => zP hf rfl (pFA fa_32_4 rfl) fun a hf => zL hf hc sc_3 m0 rfl fun a w hf hc => zP hf rfl (pFA fa_32_3 rfl) fun a hf => zL hf hc sc_3 m0 rfl fun a w hf hc => sp 2 hf rfl fun a hf => zT h ?_
  refine wp_ret ?_
  obtain rfl := sj hF
  replace hc := (hc.drop k1).drop k0
  exact zO1 Try.results76 hf rfl ⟨rfl,hc⟩

def level_sum_b5 (N : Nat) (l : List Int) (out : Int) (x : Int) : Option (Step (Int × Int) (Int)) :=
 cond (decide (x < ((l.length : Nat) : Int)))
 (Option.bind (getI l x) fun e_1 =>
 some (.cont (W (out + e_1),W (x + 1))))
 (some (.brk (out,x)))
def level_sum (N : Nat) (l : List Int) : Option (Int) :=
 Option.bind (loopO (fun s5 => level_sum_b5 N l s5.1 s5.2) N (0,0)) fun x5 =>
 exK x5 (fun s5 => some s5.1) some
theorem level_sum_ok {N : Nat} {G : Pers} {Lf : List Ent} {w : World} (l : List Int) {l_p : Option Addr} {l_c : Nat} (h_l : Rd G 1 l_p l_c (l.map encI_i64)) (hc : Ctx G (Lf) w) {res : Int} (hF : level_sum N l = some res) : Calls Try.prog 90 #[.slice l_p l.length l_c] w (fun e w => e = .returned (i6 res) ∧ Ctx G (Lf) w) := by
 unfold level_sum at hF
 refine fnIn Try.func90 rfl Try.ntmps90 rfl fun a hf => zS fun K h => sp 1 hf rfl fun a hf => zT h ?_
 refine zS fun K h => sp 1 hf rfl fun a hf => zT h ?_
 refine wp_seq_k fun K3 h3 => zS fun K h => sp 1 hf rfl fun a hf => zP hf rfl (pLenS Try.underlying30 rfl) fun a hf => sp 1 hf rfl fun a hf => zT h ?_
 refine wp_block ?_
 obtain ⟨x5,hx5,hF⟩ := bnd_some hF
 let S5 : (Int × Int) → Act → World → Prop := (fun (zz : Int × Int) a w => Has 17 a [(3,i6 zz.1),(6,.slice l_p l.length l_c),(7,i6 ((l.length : Nat) : Int)),(8,i6 zz.2)] ∧ Ctx G (Lf) w)
 have hr5 : ∀ (zz : Int × Int) a w,x5 = .go zz → S5 zz a w → K3 a w := by
  rintro ⟨out,x⟩ a w rfl ⟨hf,hc⟩
  replace hF := exK_go hF
  refine h3 _ _ ?_
  refine zS fun K h => sp 2 hf rfl fun a hf => zT h ?_
  refine wp_ret ?_
  obtain rfl := sj hF
  exact zO1 Try.results90 hf rfl ⟨rfl,hc⟩
 have ho5 : ∀ r,x5 = .out r → r = res := by
  rintro r rfl
  exact sj hF
 refine cLoop N (loopW (S := S5) (x := x5) ?_ N (0,0) _ _ ⟨hf.kp rfl,hc⟩ hx5)
 clear hF hf hc
 rintro ⟨out,x⟩ st5 a w KB5 ⟨hf,hc⟩ hF hfin5 hK5
 unfold level_sum_b5 at hF
 refine zS fun K h => sp 1 hf rfl fun a hf => zT h ?_
 refine wp_seq_k fun K8 h8 => zI hf rfl hF ?_ ?_ <;> clear hF <;> intro hF
 ·refine wp_skip ?_
  refine h8 _ _ ?_
  refine wp_seq_k fun K9 h9 => wp_block ?_
  refine zS fun K h => ?_
  obtain ⟨e_1,he_1,hF⟩ := bnd_some hF
  obtain ⟨b_1,o,qa,qp⟩ := h_l.atm he_1
  refine zP hf rfl (pIA Try.underlying30 sz_3 rfl rfl qa) fun a hf => zE hf hc rfl (eLd1 sc_3 rfl (cell_pc (j := 0) qp rfl)) fun a w hf hc => sp 1 hf rfl fun a hf => zT h ?_
  refine cReg ?_
  refine sp 4 hf rfl fun a hf => cNil ?_
  refine h9 _ _ ?_
  refine cReg ?_
  refine sp 2 hf rfl fun a hf => cNil ?_
  exact hK5 (W (out + e_1),W (x + 1)) _ _ (sj hF).symm ⟨hf.kp rfl,hc⟩
 ·refine wp_exit ?_
  refine xThen ?_
  refine xThen ?_
  have he := sj hF
  rw [← he] at hfin5
  refine cHit ?_
  exact hr5 _ _ _ hfin5 ⟨hf.kp rfl,hc⟩

def level_survey_goal (N : Nat) (w_ : level_survey) (g : level_Leg) : Option (Int) :=
 Option.bind (getI w_.Net.Lines g.Line) fun e_1 =>
 some (bif (level_starts (!g.Back)) then (level_starts_1 e_1) else (level_starts_2 e_1))
theorem level_survey_goal_ok {N : Nat} {G : Pers} {Lf : List Ent} {w : World} (w_ : level_survey) (g : level_Leg) {b_ : Nat} {w__Net_Lines_p : Option Addr} {w__Net_Lines_c : Nat} (h_w__Net_Lines : Rd G 5 w__Net_Lines_p w__Net_Lines_c (w_.Net.Lines.map enc_level_Line)) (hc : Ctx G (.box b_ (catc [i6 w_.Net.Marks,.slice w__Net_Lines_p w_.Net.Lines.length w__Net_Lines_c] 169 encI_i64 w_.can (catc [] 169 enc_level_Leg w_.by_ [])) 73::Lf) w) {res : Int} (hF : level_survey_goal N w_ g = some res) : Calls Try.prog 77 #[pq b_,.agg #[i6 g.Line,.bool g.Back]] w (fun e w => e = .returned (i6 res) ∧ Ctx G (.box b_ (catc [i6 w_.Net.Marks,.slice w__Net_Lines_p w_.Net.Lines.length w__Net_Lines_c] 169 encI_i64 w_.can (catc [] 169 enc_level_Leg w_.by_ [])) 73::Lf) w) := by
 unfold level_survey_goal at hF
 refine fnIn Try.func77 rfl Try.ntmps77 rfl fun a hf => zS fun K h => zB hf hc rfl fun b_1 a w hf hc => sp 1 hf rfl fun a hf => zT h ?_
 refine wp_seq_k fun K2 h2 => ?_
 obtain ⟨e_1,he_1,hF⟩ := bnd_some hF
 obtain ⟨b_2,o,qa,qp⟩ := h_w__Net_Lines.atm he_1
 refine cQ hc follows_mx (by kernel_rfl) ?_
 refine qE hf rfl rfl rfl (Pu.ev (pFA fa_69_1 rfl)) fun a hf => qE hf rfl rfl rfl (eLd1 sc_4 rfl (cell_box m0 rfl)) fun a hf => qE hf rfl rfl rfl (Pu.ev (pNot rfl)) fun a hf => qE hf rfl rfl rfl (eC (v := .agg #[(bif (level_starts (!g.Back)) then .func (.func 91) #[] #[] else .func (.func 92) #[] #[])]) (vs := [.bool (!g.Back)]) (caps := []) en_88 rfl rfl rfl rfl (fun w hc => level_starts_ok (!g.Back) hc rfl)) fun a hf => qE hf rfl rfl rfl (Pu.ev (pField1 Try.underlying149 rfl sc_147 rfl rfl)) fun a hf => qE hf rfl rfl rfl (Pu.ev (pM rfl)) fun a hf => qE hf rfl rfl rfl (Pu.ev (pNC rfl)) fun a hf => qE hf rfl rfl rfl (Pu.ev (pFA fa_73_0 rfl)) fun a hf => qE hf rfl rfl rfl (Pu.ev (pFA fa_36_1 rfl)) fun a hf => qE hf rfl rfl rfl (eLd1 sc_34 rfl (cell_box m1 rfl)) fun a hf => qE hf rfl rfl rfl (Pu.ev (pFA fa_69_0 rfl)) fun a hf => qE hf rfl rfl rfl (eLd1 sc_3 rfl (cell_box m0 rfl)) fun a hf => qE hf rfl rfl rfl (Pu.ev (pIA Try.underlying34 sz_32 rfl rfl qa)) fun a hf => ?_
 refine qE hf rfl rfl rfl (eLdN (vs := [i6 e_1.From,i6 e_1.To,i6 e_1.Day,i6 e_1.Rise,i6 e_1.Error]) ag_32 rfl rfl (cells_pc qp (n := 5) (o' := 0) rfl)) fun a hf => qE hf rfl rfl rfl (eCsel (c := (level_starts (!g.Back))) (v := i6 (bif (level_starts (!g.Back)) then (level_starts_1 e_1) else (level_starts_2 e_1))) (v1 := i6 (level_starts_1 e_1)) (v2 := i6 (level_starts_2 e_1)) (vs := [.agg #[i6 e_1.From,i6 e_1.To,i6 e_1.Day,i6 e_1.Rise,i6 e_1.Error]]) en_91 en_92 rfl rfl rfl rfl (fun hb => congrArg (Value.int .i64) (bifT hb)) (fun hb => congrArg (Value.int .i64) (bifF hb)) (fun w hc => level_starts_1_ok e_1 hc rfl) (fun w hc => level_starts_2_ok e_1 hc rfl)) fun a hf => qE hf rfl rfl rfl (Pu.ev (pA rfl)) fun a hf => ?_
 intro w hc
 refine h2 _ _ ?_
 refine wp_ret ?_
 obtain rfl := sj hF
 replace hc := hc.drop k0
 exact zO1 Try.results77 hf rfl ⟨rfl,hc⟩

def level_survey_fill_j14 (N : Nat) (x_1 : Int) (b__4 : Nat → Int) (b__5 : Nat → level_Leg) : Option (Step (Int × (Nat → Int) × (Nat → level_Leg)) (Step (Int × (Nat → Int) × (Nat → level_Leg)) ((Nat → Int) × (Nat → level_Leg)))) :=
 some (.cont (W (x_1 + 1),b__4,b__5))
def level_survey_fill_r19 (N : Nat) (w_ : level_survey) (from_ : Int) (x_1 : Int) (b__6 : Nat → Int) (b__7 : Nat → level_Leg) (xv : level_Leg) : Option (Rs ((Nat → Int) × (Nat → level_Leg))) :=
 Option.bind (inR x_1 13) fun un_3 =>
 Option.bind (level_survey_rise N (⟨w_.Net,b__6,b__7⟩ : level_survey) xv) fun r_1 =>
 Option.bind (level_sum N ([(b__6 (from_ * 13 + x_1).toNat),r_1] : List Int)) fun r_2 =>
 Option.bind (level_survey_goal N (⟨w_.Net,b__6,b__7⟩ : level_survey) xv) fun r_3 =>
 Option.bind (inR r_3 13) fun un_4 =>
 cond (decide (r_2 < (b__6 (from_ * 13 + r_3).toNat)))
 (Option.bind (level_survey_goal N (⟨w_.Net,b__6,b__7⟩ : level_survey) xv) fun r_4 =>
 Option.bind (level_survey_goal N (⟨w_.Net,b__6,b__7⟩ : level_survey) xv) fun r_5 =>
 Option.bind (inR r_4 13) fun un_5 =>
 Option.bind (inR r_5 13) fun un_6 =>
 some (.go ((setF b__6 (from_ * 13 + r_4).toNat r_2),(setF b__7 (from_ * 13 + r_5).toNat xv))))
 (some (.go (b__6,b__7)))
def level_survey_fill_b11 (N : Nat) (w_ : level_survey) (from_ : Int) (x_1 : Int) (b__2 : Nat → Int) (b__3 : Nat → level_Leg) : Option (Step (Int × (Nat → Int) × (Nat → level_Leg)) (Step (Int × (Nat → Int) × (Nat → level_Leg)) ((Nat → Int) × (Nat → level_Leg)))) :=
 cond (decide (x_1 < w_.Net.Marks))
 (Option.bind (inR x_1 13) fun un_2 =>
 cond ((b__2 (from_ * 13 + x_1).toNat) == 1099511627776)
 (level_survey_fill_j14 N x_1 b__2 b__3)
 (Option.bind (level_survey_legs N (⟨w_.Net,b__2,b__3⟩ : level_survey) x_1) fun r =>
 Option.bind (level_survey_legs_1 N w_.Net.Marks w_.Net.Lines r (rY (fun (zz : (Nat → Int) × (Nat → level_Leg)) (ix_ : level_Leg) => level_survey_fill_r19 N w_ from_ x_1 zz.1 zz.2 ix_)) (.go (b__2,b__3))) fun x19 =>
 rsK x19 (fun zz19 => level_survey_fill_j14 N x_1 zz19.1 zz19.2) (fun zz19 => none)))
 (some (.brk (x_1,b__2,b__3)))
def level_survey_fill_b5 (N : Nat) (w_ : level_survey) (from_ : Int) (x : Int) (b__0 : Nat → Int) (b__1 : Nat → level_Leg) : Option (Step (Int × (Nat → Int) × (Nat → level_Leg)) ((Nat → Int) × (Nat → level_Leg))) :=
 cond (decide (x < w_.Net.Marks))
 (Option.bind (loopO (fun s11 => level_survey_fill_b11 N w_ from_ s11.1 s11.2.1 s11.2.2) N (0,b__0,b__1)) fun x11 =>
 exK x11 (fun s11 => some (.cont (W (x + 1),s11.2.1,s11.2.2))) some)
 (some (.brk (x,b__0,b__1)))
def level_survey_fill (N : Nat) (w_ : level_survey) (from_ : Int) : Option ((Nat → Int) × (Nat → level_Leg)) :=
 Option.bind (inR from_ 13) fun un =>
 Option.bind (inR from_ 13) fun un_1 =>
 Option.bind (loopO (fun s5 => level_survey_fill_b5 N w_ from_ s5.1 s5.2.1 s5.2.2) N (0,w_.can,w_.by_)) fun x5 =>
 exK x5 (fun s5 => some (s5.2.1,s5.2.2)) some
theorem level_survey_fill_ok {N : Nat} {G : Pers} {Lf : List Ent} {w : World} (w_ : level_survey) (from_ : Int) {b_ : Nat} {w__Net_Lines_p : Option Addr} {w__Net_Lines_c : Nat} (h_w__Net_Lines : Rd G 5 w__Net_Lines_p w__Net_Lines_c (w_.Net.Lines.map enc_level_Line)) (hc : Ctx G (.box b_ (catc [i6 w_.Net.Marks,.slice w__Net_Lines_p w_.Net.Lines.length w__Net_Lines_c] 169 encI_i64 w_.can (catc [] 169 enc_level_Leg w_.by_ [])) 73::Lf) w) {res : (Nat → Int) × (Nat → level_Leg)} (hF : level_survey_fill N w_ from_ = some res) : Calls Try.prog 85 #[pq b_,i6 from_] w (fun e w => e = .returned (.tuple #[]) ∧ Ctx G (.box b_ (catc [i6 w_.Net.Marks,.slice w__Net_Lines_p w_.Net.Lines.length w__Net_Lines_c] 169 encI_i64 res.1 (catc [] 169 enc_level_Leg res.2 [])) 73::Lf) w) := by
 unfold level_survey_fill at hF
 refine fnInM Try.func85 rfl Try.ntmps85 rfl fun a hf => zS fun K h => zB hf hc rfl fun b_1 a w hf hc => zT h ?_
 refine wp_seq_k fun K2 h2 => ?_
 obtain ⟨un,hun,hF⟩ := bnd_some hF
 obtain ⟨un_1,hun_1,hF⟩ := bnd_some hF
 replace hc := hc.nilRow 0 0
 replace hc := hc.nilRow 0 0
 refine regionE (fun θ => [⟨none,none,1,i6 from_⟩,⟨none,none,2,pq b_1⟩,⟨some 0,none,9,pq b_⟩,⟨some 1,none,10,i6 from_⟩,⟨some 2,none,11,pq b_⟩,⟨some 3,none,12,.pointer (some ⟨b_,2,none⟩)⟩,⟨some 4,none,13,.pointer (some ⟨b_,2 + from_.toNat * 13,none⟩)⟩,⟨some 5,none,14,pq b_⟩,⟨some 6,none,15,i6 from_⟩,⟨some 7,none,16,pq b_⟩,⟨some 8,none,17,.pointer (some ⟨b_,171,none⟩)⟩,⟨some 9,none,18,.pointer (some ⟨b_,171 + from_.toNat * 26,none⟩)⟩,⟨some 10,none,4,.pointer (some ⟨(θ 80).b,0,none⟩)⟩,⟨some 11,none,5,.pointer (some ⟨(θ 88).b,0,none⟩)⟩]) (fun E θ => (bif E 13 then .box (θ 88).b [.pointer (some ⟨b_,171 + from_.toNat * 26,none⟩)] 153 else bif E 11 then .box (θ 88).b [.pointer none] 153 else .row none 0 [] 0 0)::(bif E 12 then .box (θ 80).b [.pointer (some ⟨b_,2 + from_.toNat * 13,none⟩)] 152 else bif E 10 then .box (θ 80).b [.pointer none] 152 else .row none 0 [] 0 0)::.box b_1 [pq b_] 62::.box b_ (catc [i6 w_.Net.Marks,.slice w__Net_Lines_p w_.Net.Lines.length w__Net_Lines_c] 169 encI_i64 w_.can (catc [] 169 enc_level_Leg w_.by_ [])) 73::Lf) [(12,10),(13,11)] (fun a w => ∃ (b_4 : Nat) (b_5 : Nat),Has 79 a [(2,pq b_1),(4,pq b_4),(5,pq b_5)] ∧ Ctx G (.box b_5 [.pointer (some ⟨b_,171 + from_.toNat * 26,none⟩)] 153::.box b_4 [.pointer (some ⟨b_,2 + from_.toNat * 13,none⟩)] 152::.box b_1 [pq b_] 62::.box b_ (catc [i6 w_.Net.Marks,.slice w__Net_Lines_p w_.Net.Lines.length w__Net_Lines_c] 169 encI_i64 w_.can (catc [] 169 enc_level_Leg w_.by_ [])) 73::Lf) w) follows_mx (by kernel_rfl) (by kernel_rfl) (HasE.of hf ⟨rfl,rfl,trivial,trivial,trivial,trivial,trivial,trivial,trivial,trivial,trivial,trivial,trivial,trivial,trivial⟩) hc ⟨?_,?_,?_,?_,?_,?_,?_,?_,?_,?_,?_,?_,?_,?_,trivial⟩ ?_ ?_
 ·intro E θ a w hD hi hp he hc
  have hf := he.h0.mT he 1 rfl
  refine zL hf hc sc_62 m2 rfl fun a w hf hc => zD θ he hi hf 2 rfl rfl rfl hc
 ·intro E θ a w hD hi hp he hc
  have hf := he.h0.mT he 0 rfl
  refine sp 1 hf rfl fun a hf => zD θ he hi hf 3 rfl rfl rfl hc
 ·intro E θ a w hD hi hp he hc
  have e0 := hp.o 0 rfl
  have hf := he.h0.mP he 2 rfl e0
  refine sp 1 hf rfl fun a hf => zD θ he hi hf 4 rfl rfl rfl hc
 ·intro E θ a w hD hi hp he hc
  have e2 := hp.o 2 rfl
  have hf := he.h0.mP he 4 rfl e2
  refine zP hf rfl (pFA fa_73_1 rfl) fun a hf => zD θ he hi hf 5 rfl rfl rfl hc
 ·intro E θ a w hD hi hp he hc
  have e1 := hp.o 1 rfl
  have e3 := hp.o 3 rfl
  have hf := (he.h0.mP he 3 rfl e1).mP he 5 rfl e3
  refine zP hf rfl (pIAA Try.underlying67 sz_65 rfl rfl (inR_spec hun).1 (inR_spec hun).2) fun a hf => zD θ he hi hf 6 rfl rfl rfl hc
 ·intro E θ a w hD hi hp he hc
  have hf := he.h0.mT he 1 rfl
  refine zL hf hc sc_62 m2 rfl fun a w hf hc => zD θ he hi hf 7 rfl rfl rfl hc
 ·intro E θ a w hD hi hp he hc
  have hf := he.h0.mT he 0 rfl
  refine sp 1 hf rfl fun a hf => zD θ he hi hf 8 rfl rfl rfl hc
 ·intro E θ a w hD hi hp he hc
  have e5 := hp.o 5 rfl
  have hf := he.h0.mP he 7 rfl e5
  refine sp 1 hf rfl fun a hf => zD θ he hi hf 9 rfl rfl rfl hc
 ·intro E θ a w hD hi hp he hc
  have e7 := hp.o 7 rfl
  have hf := he.h0.mP he 9 rfl e7
  refine zP hf rfl (pFA fa_73_2 rfl) fun a hf => zD θ he hi hf 10 rfl rfl rfl hc
 ·intro E θ a w hD hi hp he hc
  have e6 := hp.o 6 rfl
  have e8 := hp.o 8 rfl
  have hf := (he.h0.mP he 8 rfl e6).mP he 10 rfl e8
  refine zP hf rfl (pIAA Try.underlying71 sz_70 rfl rfl (inR_spec hun_1).1 (inR_spec hun_1).2) fun a hf => zD θ he hi hf 11 rfl rfl rfl hc
 ·intro E θ a w hD hi hp he hc
  have e12 := hD.f 0 rfl hi
  try dsimp only at hc
  rw [hi,e12] at hc
  have hf := he.h0
  refine zA hf hc zr_152 rfl fun b_2 a w hf hc => cNil ?_
  refine xThenN ?_
  intro ds u hau
  replace hc := ((hc.drop k2).pick k0).pick k1
  refine ⟨(setT θ 80 ⟨b_2,none,0,(fun _ => (none,0))⟩),he.put hi hau hf rfl [] trivial ⟨qq,qq,qq,qq,qq,qq,qq,qq,qq,qq,qq,qq,qq,qq,trivial⟩,?_⟩
  try dsimp only
  rw [updE_self E 10,updE_fls 10 e12 rfl]
  exact hc
 ·intro E θ a w hD hi hp he hc
  have e13 := hD.f 1 rfl hi
  try dsimp only at hc
  rw [hi,e13] at hc
  have hf := he.h0
  refine zA hf hc zr_153 rfl fun b_3 a w hf hc => cNil ?_
  refine xThenN ?_
  intro ds u hau
  replace hc := hc.drop k1
  refine ⟨(setT θ 88 ⟨b_3,none,0,(fun _ => (none,0))⟩),he.put hi hau hf rfl [] trivial ⟨qq,qq,qq,qq,qq,qq,qq,qq,qq,qq,qq,qq,qq,qq,trivial⟩,?_⟩
  try dsimp only
  rw [updE_self E 11,updE_fls 11 e13 rfl]
  exact hc
 ·intro E θ a w hD hi hp he hc
  have e4 := hp.o 4 rfl
  have e10 := hp.o 10 rfl
  try dsimp only at hc
  rw [e10,hi] at hc
  have hf := (he.h0.mP he 6 rfl e4).mP he 12 rfl e10
  refine zW hf hc sz_152 u1 rfl fun w hc => zG θ he hi hf rfl ?_
  try dsimp only
  rw [updE_tru 12 e10,updE_self E 12]
  exact hc
 ·intro E θ a w hD hi hp he hc
  have e9 := hp.o 9 rfl
  have e11 := hp.o 11 rfl
  try dsimp only at hc
  rw [e11,hi] at hc
  have hf := (he.h0.mP he 11 rfl e9).mP he 13 rfl e11
  refine zW hf hc sz_153 u0 rfl fun w hc => zG θ he hi hf rfl ?_
  try dsimp only
  rw [updE_tru 13 e11,updE_self E 13]
  exact hc
 ·intro E θ a w hall he hc
  have hf := he.h0
  have e10 := hall 10 rfl
  have e11 := hall 11 rfl
  have e12 := hall 12 rfl
  have e13 := hall 13 rfl
  replace hf := hf.more he 13 rfl (onP e11)
  replace hf := hf.more he 12 rfl (onP e10)
  replace hf := hf.more he 1 rfl (onT)
  try dsimp only at hc
  rw [e10,e11,e12,e13] at hc
  exact ⟨(θ 80).b,(θ 88).b,hf.kp rfl,hc⟩
 rintro a w ⟨b_4,b_5,hf,hc⟩
 refine h2 _ _ ?_
 refine zS fun K h => zL hf hc sc_62 m2 rfl fun a w hf hc => sp 1 hf rfl fun a hf => zP hf rfl (pFA fa_73_0 rfl) fun a hf => zP hf rfl (pFA fa_36_0 rfl) fun a hf => zL hf hc sc_3 m3 rfl fun a w hf hc => sp 1 hf rfl fun a hf => zT h ?_
 refine wp_thenK fun K4 h4 => wp_block ?_
 obtain ⟨x5,hx5,hF⟩ := bnd_some hF
 let S5 : (Int × (Nat → Int) × (Nat → level_Leg)) → Act → World → Prop := (fun (zz : Int × (Nat → Int) × (Nat → level_Leg)) a w => ∃ (Ds : List Nat),Has ⟨79,markL Ds⟩ a [(2,pq b_1),(4,pq b_4),(5,pq b_5),(23,i6 w_.Net.Marks),(24,i6 zz.1)] ∧ Ctx G (.box b_5 [.pointer (some ⟨b_,171 + from_.toNat * 26,none⟩)] 153::.box b_4 [.pointer (some ⟨b_,2 + from_.toNat * 13,none⟩)] 152::.box b_1 [pq b_] 62::.box b_ (catc [i6 w_.Net.Marks,.slice w__Net_Lines_p w_.Net.Lines.length w__Net_Lines_c] 169 encI_i64 zz.2.1 (catc [] 169 enc_level_Leg zz.2.2 [])) 73::(raws Ds ++ Lf)) w)
 have hr5 : ∀ (zz : Int × (Nat → Int) × (Nat → level_Leg)) a w,x5 = .go zz → S5 zz a w → K4 a w := by
  rintro ⟨x,b__0,b__1⟩ a w rfl ⟨Ds,hf,hc⟩
  replace hF := exK_go hF
  refine h4 _ _ ?_
  obtain rfl := sj hF
  replace hc := ((hc.drop k2).drop k1).drop k0
  refine outM hf ?_
  refine outML [.box b_ (catc [i6 w_.Net.Marks,.slice w__Net_Lines_p w_.Net.Lines.length w__Net_Lines_c] 169 encI_i64 b__0 (catc [] 169 enc_level_Leg b__1 [])) 73] Ds hc fun w hc => ?_
  replace hc : Ctx G (.box b_ (catc [i6 w_.Net.Marks,.slice w__Net_Lines_p w_.Net.Lines.length w__Net_Lines_c] 169 encI_i64 b__0 (catc [] 169 enc_level_Leg b__1 [])) 73::Lf) w := hc
  exact outM0 Try.results85 ⟨rfl,hc⟩
 have ho5 : ∀ r,x5 = .out r → r = res := by
  rintro r rfl
  exact sj hF
 replace hf := markZ hf
 replace hc : Ctx G (.box b_5 [.pointer (some ⟨b_,171 + from_.toNat * 26,none⟩)] 153::.box b_4 [.pointer (some ⟨b_,2 + from_.toNat * 13,none⟩)] 152::.box b_1 [pq b_] 62::.box b_ (catc [i6 w_.Net.Marks,.slice w__Net_Lines_p w_.Net.Lines.length w__Net_Lines_c] 169 encI_i64 w_.can (catc [] 169 enc_level_Leg w_.by_ [])) 73::(raws [] ++ Lf)) w := hc
 refine cLoop N (loopW (S := S5) (x := x5) ?_ N (0,w_.can,w_.by_) _ _ ⟨[],hf.kp rfl,hc⟩ hx5)
 clear hF hf hc
 rintro ⟨x,b__0,b__1⟩ st5 a w KB5 ⟨Ds,hf,hc⟩ hF hfin5 hK5
 unfold level_survey_fill_b5 at hF
 refine zS fun K h => sp 1 hf rfl fun a hf => zT h ?_
 refine wp_seq_k fun K7 h7 => zI hf rfl hF ?_ ?_ <;> clear hF <;> intro hF
 ·refine wp_skip ?_
  refine h7 _ _ ?_
  refine wp_seq_k fun K8 h8 => wp_block ?_
  refine zS fun K h => zL hf hc sc_62 m2 rfl fun a w hf hc => sp 1 hf rfl fun a hf => zP hf rfl (pFA fa_73_0 rfl) fun a hf => zP hf rfl (pFA fa_36_0 rfl) fun a hf => zL hf hc sc_3 m3 rfl fun a w hf hc => sp 1 hf rfl fun a hf => zT h ?_
  refine wp_thenK fun K10 h10 => wp_block ?_
  obtain ⟨x11,hx11,hF⟩ := bnd_some hF
  let S11 : (Int × (Nat → Int) × (Nat → level_Leg)) → Act → World → Prop := (fun (zz : Int × (Nat → Int) × (Nat → level_Leg)) a w => ∃ (Ds_1 : List Nat),Has ⟨79,markL Ds_1⟩ a [(2,pq b_1),(4,pq b_4),(5,pq b_5),(23,i6 w_.Net.Marks),(24,i6 x),(30,i6 w_.Net.Marks),(31,i6 zz.1)] ∧ Ctx G (.box b_5 [.pointer (some ⟨b_,171 + from_.toNat * 26,none⟩)] 153::.box b_4 [.pointer (some ⟨b_,2 + from_.toNat * 13,none⟩)] 152::.box b_1 [pq b_] 62::.box b_ (catc [i6 w_.Net.Marks,.slice w__Net_Lines_p w_.Net.Lines.length w__Net_Lines_c] 169 encI_i64 zz.2.1 (catc [] 169 enc_level_Leg zz.2.2 [])) 73::(raws Ds_1 ++ Lf)) w)
  have hr11 : ∀ (zz : Int × (Nat → Int) × (Nat → level_Leg)) a w,x11 = .go zz → S11 zz a w → K10 a w := by
   rintro ⟨x_1,b__2,b__3⟩ a w rfl ⟨Ds_1,hf,hc⟩
   replace hF := exK_go hF
   refine h10 _ _ ?_
   refine h8 _ _ ?_
   refine cReg ?_
   refine sp 2 hf rfl fun a hf => cNil ?_
   exact hK5 (W (x + 1),b__2,b__3) _ _ (sj hF).symm ⟨Ds_1,hf.kp rfl,hc⟩
  have ho11 : ∀ r,x11 = .out r → r = st5 := by
   rintro r rfl
   exact sj hF
  refine cLoop N (loopW (S := S11) (x := x11) ?_ N (0,b__0,b__1) _ _ ⟨Ds,hf.kp rfl,hc⟩ hx11)
  clear hF hf hc
  rintro ⟨x_1,b__2,b__3⟩ st11 a w KB11 ⟨Ds_1,hf,hc⟩ hF hfin11 hK11
  unfold level_survey_fill_b11 at hF
  refine zS fun K h => sp 1 hf rfl fun a hf => zT h ?_
  refine wp_seq_k fun K13 h13 => zI hf rfl hF ?_ ?_ <;> clear hF <;> intro hF
  ·refine wp_skip ?_
   refine h13 _ _ ?_
   refine wp_seq_k fun K14 h14 => ?_
   have hj14 : ∀ (b__4 : Nat → Int) (b__5 : Nat → level_Leg) (Ds_2 : List Nat) a w,Has ⟨79,markL Ds_2⟩ a [(2,pq b_1),(4,pq b_4),(5,pq b_5),(23,i6 w_.Net.Marks),(24,i6 x),(30,i6 w_.Net.Marks),(31,i6 x_1)] → Ctx G (.box b_5 [.pointer (some ⟨b_,171 + from_.toNat * 26,none⟩)] 153::.box b_4 [.pointer (some ⟨b_,2 + from_.toNat * 13,none⟩)] 152::.box b_1 [pq b_] 62::.box b_ (catc [i6 w_.Net.Marks,.slice w__Net_Lines_p w_.Net.Lines.length w__Net_Lines_c] 169 encI_i64 b__4 (catc [] 169 enc_level_Leg b__5 [])) 73::(raws Ds_2 ++ Lf)) w → level_survey_fill_j14 N x_1 b__4 b__5 = some st11 → K14 a w := by
    repeat (clear hF)
    repeat (clear hc)
    repeat (clear hf)
    intro b__4 b__5 Ds_2 a w hf hc hF
    unfold level_survey_fill_j14 at hF
    refine h14 _ _ ?_
    refine cReg ?_
    refine sp 2 hf rfl fun a hf => cNil ?_
    exact hK11 (W (x_1 + 1),b__4,b__5) _ _ (sj hF).symm ⟨Ds_2,hf.kp rfl,hc⟩
   refine wp_block ?_
   refine zS fun K h => sp 1 hf rfl fun a hf => zA hf hc zr_3 rfl fun b_6 a w hf hc => zW hf hc sz_3 u0 rfl fun w hc => zT h ?_
   refine wp_seq_k fun K16 h16 => wp_seq_k fun K17 h17 => ?_
   obtain ⟨un_2,hun_2,hF⟩ := bnd_some hF
   refine cQ hc follows_mx (by kernel_rfl) ?_
   refine qE hf rfl rfl rfl (eLd1 sc_152 rfl (cell_box m2 rfl)) fun a hf => qE hf rfl rfl rfl (eLd1 sc_3 rfl (cell_box m0 rfl)) fun a hf => qE hf rfl rfl rfl (Pu.ev (pNC rfl)) fun a hf => qE hf rfl rfl rfl (Pu.ev (Pu.cast (pIAA Try.underlying65 sz_3 rfl rfl (inR_spec hun_2).1 (inR_spec hun_2).2) (congrArg (fun k => Value.pointer (some ⟨b_,k,none⟩)) (flat_off (M := 13) (2) hun hun_2 rfl)))) fun a hf => qE hf rfl rfl rfl (eLd1 sc_3 rfl (cell_arr (j := 0) m4 (fun x => (one_encI_i64 x).1) rfl (inR2 hun hun_2 rfl) rfl)) fun a hf => qE hf rfl rfl rfl (Pu.ev (pEq rfl rfl)) fun a hf => ?_
   intro w hc
   refine h17 _ _ ?_
   refine zI hf rfl hF ?_ ?_ <;> clear hF <;> intro hF
   ·refine wp_exit ?_
    refine xThen ?_
    refine cHit ?_
    replace hc := hc.drop k0
    exact hj14 b__2 b__3 Ds_1 _ _  (hf.kp rfl) hc hF
   ·refine wp_skip ?_
    refine h16 _ _ ?_
    refine zS fun K h => zL hf hc sc_62 m3 rfl fun a w hf hc => zL hf hc sc_3 m0 rfl fun a w hf hc => ?_
    obtain ⟨r,hr,hF⟩ := bnd_some hF
    refine zC hf en_75 rfl (level_survey_legs_ok (⟨w_.Net,b__2,b__3⟩ : level_survey) x_1 h_w__Net_Lines (hc.pick k4) hr) ?_
    rintro _ w ⟨b_7,b_8,rfl,hc⟩
    refine ⟨_,rfl,fun a hf => ?_⟩
    refine zT h ?_
    obtain ⟨x19,hx19,hF⟩ := bnd_some hF
    refine cRangeV (C := [.box b_7 [pq b_] 62,.box b_8 [i6 r] 3]) (C2 := [.box b_7 [pq b_] 62,.box b_8 [i6 r] 3]) (L0 := [.box b_ (catc [i6 w_.Net.Marks,.slice w__Net_Lines_p w_.Net.Lines.length w__Net_Lines_c] 169 encI_i64 b__2 (catc [] 169 enc_level_Leg b__3 [])) 73,.box b_6 [i6 x_1] 3,.box b_5 [.pointer (some ⟨b_,171 + from_.toNat * 26,none⟩)] 153,.box b_4 [.pointer (some ⟨b_,2 + from_.toNat * 13,none⟩)] 152,.box b_1 [pq b_] 62]) (Lf := (raws Ds_1 ++ Lf)) (encs := fun x : level_Leg => [.agg #[i6 x.Line,.bool x.Back]]) (fun (zz : (Nat → Int) × (Nat → level_Leg)) L => L = [.box b_ (catc [i6 w_.Net.Marks,.slice w__Net_Lines_p w_.Net.Lines.length w__Net_Lines_c] 169 encI_i64 zz.1 (catc [] 169 enc_level_Leg zz.2 [])) 73,.box b_6 [i6 x_1] 3,.box b_5 [.pointer (some ⟨b_,171 + from_.toNat * 26,none⟩)] 153,.box b_4 [.pointer (some ⟨b_,2 + from_.toNat * 13,none⟩)] 152,.box b_1 [pq b_] 62]) (fun (zz : (Nat → Int) × (Nat → level_Leg)) (ix_ : level_Leg) => level_survey_fill_r19 N w_ from_ x_1 zz.1 zz.2 ix_) (b__2,b__3) x19 hf hc rfl en_86 (fun _ => rfl) rfl rfl ?_ ?_ ?_ ?_
    ·intro lq mq J L Lx w hy hQ hJ hc
     have hje_ : ∀ (zz : (Nat → Int) × (Nat → level_Leg)) (M : List Ent),(fun (zz : (Nat → Int) × (Nat → level_Leg)) L => L = [.box b_ (catc [i6 w_.Net.Marks,.slice w__Net_Lines_p w_.Net.Lines.length w__Net_Lines_c] 169 encI_i64 zz.1 (catc [] 169 enc_level_Leg zz.2 [])) 73,.box b_6 [i6 x_1] 3,.box b_5 [.pointer (some ⟨b_,171 + from_.toNat * 26,none⟩)] 153,.box b_4 [.pointer (some ⟨b_,2 + from_.toNat * 13,none⟩)] 152,.box b_1 [pq b_] 62]) zz M → ∃ A B,∃ xx : (Nat → Int) × (Nat → level_Leg),M = A ++ (.box b_ (catc [i6 w_.Net.Marks,.slice w__Net_Lines_p w_.Net.Lines.length w__Net_Lines_c] 169 encI_i64 xx.1 (catc [] 169 enc_level_Leg xx.2 [])) 73::B) := by
      rintro ⟨b__6,b__7⟩ _ ⟨rfl⟩
      exact ⟨[],_,(b__6,b__7),rfl⟩
     exact level_survey_legs_1_ok w_.Net.Marks w_.Net.Lines r h_w__Net_Lines J _ hy _ hJ (hQ _ (fun xx : (Nat → Int) × (Nat → level_Leg) => .box b_ (catc [i6 w_.Net.Marks,.slice w__Net_Lines_p w_.Net.Lines.length w__Net_Lines_c] 169 encI_i64 xx.1 (catc [] 169 enc_level_Leg xx.2 [])) 73) hje_) hc hx19
    ·clear hF hf hc
     rintro lq mq ⟨b__6,b__7⟩ xv oq _ Lr Lb a w hK0 rfl hF hf hc hK
     replace hf : Has 79 a [(2,pq b_1),(4,pq b_4),(5,pq b_5),(6,pq b_6),(23,i6 w_.Net.Marks),(24,i6 x),(30,i6 w_.Net.Marks),(31,i6 x_1),(43,.agg #[i6 xv.Line,.bool xv.Back])] := hf.kp rfl
     replace hc : Ctx G (.box b_ (catc [i6 w_.Net.Marks,.slice w__Net_Lines_p w_.Net.Lines.length w__Net_Lines_c] 169 encI_i64 b__6 (catc [] 169 enc_level_Leg b__7 [])) 73::.box b_6 [i6 x_1] 3::.box b_5 [.pointer (some ⟨b_,171 + from_.toNat * 26,none⟩)] 153::.box b_4 [.pointer (some ⟨b_,2 + from_.toNat * 13,none⟩)] 152::.box b_1 [pq b_] 62::Lr) w := hc
     replace hF : level_survey_fill_r19 N w_ from_ x_1 b__6 b__7 xv = some oq := hF
     unfold level_survey_fill_r19 at hF
     refine rReg (fun _ _ h => h) rfl ?_
     refine zA hf hc zr_69 rfl fun b_9 a w hf hc => zW hf hc sz_69 u0 rfl fun w hc => cNil ?_
     refine hK _ _ [.box b_9 [i6 xv.Line,.bool xv.Back] 69,.box b_ (catc [i6 w_.Net.Marks,.slice w__Net_Lines_p w_.Net.Lines.length w__Net_Lines_c] 169 encI_i64 b__6 (catc [] 169 enc_level_Leg b__7 [])) 73,.box b_6 [i6 x_1] 3,.box b_5 [.pointer (some ⟨b_,171 + from_.toNat * 26,none⟩)] 153,.box b_4 [.pointer (some ⟨b_,2 + from_.toNat * 13,none⟩)] 152,.box b_1 [pq b_] 62] hc fun w hc => ?_
     replace hc : Ctx G (.box b_9 [i6 xv.Line,.bool xv.Back] 69::.box b_ (catc [i6 w_.Net.Marks,.slice w__Net_Lines_p w_.Net.Lines.length w__Net_Lines_c] 169 encI_i64 b__6 (catc [] 169 enc_level_Leg b__7 [])) 73::.box b_6 [i6 x_1] 3::.box b_5 [.pointer (some ⟨b_,171 + from_.toNat * 26,none⟩)] 153::.box b_4 [.pointer (some ⟨b_,2 + from_.toNat * 13,none⟩)] 152::.box b_1 [pq b_] 62::Lb) w := hc
     refine rThenK fun K20 h20 => rBlock ?_
     refine rSeq fun K21 h21 => ?_
     obtain ⟨un_3,hun_3,hF⟩ := bnd_some hF
     obtain ⟨r_1,hr_1,hF⟩ := bnd_some hF
     obtain ⟨r_2,hr_2,hF⟩ := bnd_some hF
     replace hc := hc.nilRow 0 0
     refine rRegE (fun _ _ h => h) rfl (fun θ => [⟨none,none,2,pq b_1⟩,⟨none,none,4,pq b_4⟩,⟨none,none,5,pq b_5⟩,⟨none,none,6,pq b_6⟩,⟨none,none,7,pq b_9⟩,⟨none,none,23,i6 w_.Net.Marks⟩,⟨none,none,24,i6 x⟩,⟨none,none,30,i6 w_.Net.Marks⟩,⟨none,none,31,i6 x_1⟩,⟨some 0,none,44,.pointer (some ⟨b_,2 + from_.toNat * 13,none⟩)⟩,⟨some 1,none,45,i6 x_1⟩,⟨some 2,none,46,.pointer (some ⟨b_,2 + from_.toNat * 13,none⟩)⟩,⟨some 3,none,47,.pointer (some ⟨b_,2 + (from_ * 13 + x_1).toNat * 1,none⟩)⟩,⟨some 4,none,48,i6 (b__6 (from_ * 13 + x_1).toNat)⟩,⟨some 5,none,49,pq b_⟩,⟨some 6,none,50,.agg #[i6 xv.Line,.bool xv.Back]⟩,⟨some 7,none,51,i6 r_1⟩,⟨some 8,none,52,.slice (some ⟨(θ 64).b,0,none⟩) 2 2⟩,⟨some 9,none,53,i6 r_2⟩,⟨some 10,none,8,i6 r_2⟩]) (fun E θ => (bif E 8 then .row (some ⟨(θ 64).b,0,none⟩) 2 (([(b__6 (from_ * 13 + x_1).toNat),r_1] : List Int).map encI_i64) 3 1 else .row none 0 [] 0 0)::.box b_9 [i6 xv.Line,.bool xv.Back] 69::.box b_ (catc [i6 w_.Net.Marks,.slice w__Net_Lines_p w_.Net.Lines.length w__Net_Lines_c] 169 encI_i64 b__6 (catc [] 169 enc_level_Leg b__7 [])) 73::.box b_6 [i6 x_1] 3::.box b_5 [.pointer (some ⟨b_,171 + from_.toNat * 26,none⟩)] 153::.box b_4 [.pointer (some ⟨b_,2 + from_.toNat * 13,none⟩)] 152::.box b_1 [pq b_] 62::Lb) [] (fun a w => ∃ (b_11 : Nat),Has 79 a [(2,pq b_1),(4,pq b_4),(5,pq b_5),(6,pq b_6),(7,pq b_9),(23,i6 w_.Net.Marks),(24,i6 x),(30,i6 w_.Net.Marks),(31,i6 x_1),(8,i6 r_2)] ∧ Ctx G (.row (some ⟨b_11,0,none⟩) 2 (([(b__6 (from_ * 13 + x_1).toNat),r_1] : List Int).map encI_i64) 3 1::.box b_9 [i6 xv.Line,.bool xv.Back] 69::.box b_ (catc [i6 w_.Net.Marks,.slice w__Net_Lines_p w_.Net.Lines.length w__Net_Lines_c] 169 encI_i64 b__6 (catc [] 169 enc_level_Leg b__7 [])) 73::.box b_6 [i6 x_1] 3::.box b_5 [.pointer (some ⟨b_,171 + from_.toNat * 26,none⟩)] 153::.box b_4 [.pointer (some ⟨b_,2 + from_.toNat * 13,none⟩)] 152::.box b_1 [pq b_] 62::Lb) w) follows_mx (by kernel_rfl) (by kernel_rfl) (HasE.of hf ⟨rfl,rfl,rfl,rfl,rfl,rfl,rfl,rfl,rfl,trivial,trivial,trivial,trivial,trivial,trivial,trivial,trivial,trivial,trivial,trivial,trivial⟩) hc ⟨?_,?_,?_,?_,?_,?_,?_,?_,?_,?_,?_,trivial⟩ ?_ ?_
     ·intro E θ a w hD hi hp he hc
      have hf := he.h0.mT he 1 rfl
      refine zL hf hc sc_152 m5 rfl fun a w hf hc => zD θ he hi hf 9 rfl rfl rfl hc
     ·intro E θ a w hD hi hp he hc
      have hf := he.h0.mT he 3 rfl
      refine zL hf hc sc_3 m3 rfl fun a w hf hc => zD θ he hi hf 10 rfl rfl rfl hc
     ·intro E θ a w hD hi hp he hc
      have e0 := hp.o 0 rfl
      have hf := he.h0.mP he 9 rfl e0
      refine sp 1 hf rfl fun a hf => zD θ he hi hf 11 rfl rfl rfl hc
     ·intro E θ a w hD hi hp he hc
      have e1 := hp.o 1 rfl
      have e2 := hp.o 2 rfl
      have hf := (he.h0.mP he 10 rfl e1).mP he 11 rfl e2
      refine zP hf rfl (Pu.cast (pIAA Try.underlying65 sz_3 rfl rfl (inR_spec hun_3).1 (inR_spec hun_3).2) (congrArg (fun k => Value.pointer (some ⟨b_,k,none⟩)) (flat_off (M := 13) (2) hun hun_3 rfl))) fun a hf => zD θ he hi hf 12 rfl rfl rfl hc
     ·intro E θ a w hD hi hp he hc
      have e3 := hp.o 3 rfl
      have hf := he.h0.mP he 12 rfl e3
      refine zE hf hc rfl (eLd1 sc_3 rfl (cell_arr (j := 0) m2 (fun x => (one_encI_i64 x).1) rfl (inR2 hun hun_3 rfl) rfl)) fun a w hf hc => zD θ he hi hf 13 rfl rfl rfl hc
     ·intro E θ a w hD hi hp he hc
      have hf := he.h0.mT he 0 rfl
      refine zL hf hc sc_62 m6 rfl fun a w hf hc => zD θ he hi hf 14 rfl rfl rfl hc
     ·intro E θ a w hD hi hp he hc
      have hf := he.h0.mT he 4 rfl
      refine zN hf hc ag_69 m1 rfl fun a w hf hc => zD θ he hi hf 15 rfl rfl rfl hc
     ·intro E θ a w hD hi hp he hc
      have e5 := hp.o 5 rfl
      have e6 := hp.o 6 rfl
      have hf := (he.h0.mP he 14 rfl e5).mP he 15 rfl e6
      refine zQ (v := i6 r_1) hf hc en_76 rfl (fun w hc => (level_survey_rise_ok (⟨w_.Net,b__6,b__7⟩ : level_survey) xv h_w__Net_Lines (hc.pick k2) hr_1).mono fun e w h => ⟨h.1,(h.2.unpick k2)⟩) fun a w hf hc => zD θ he hi hf 16 rfl rfl rfl hc
     ·intro E θ a w hD hi hp he hc
      have e4 := hp.o 4 rfl
      have e7 := hp.o 7 rfl
      try dsimp only at hc
      rw [hi] at hc
      have hf := (he.h0.mP he 13 rfl e4).mP he 16 rfl e7
      refine stBS (rows := ([(b__6 (from_ * 13 + x_1).toNat),r_1] : List Int).map encI_i64) (vs := [(0,i6 (b__6 (from_ * 13 + x_1).toNat)),(1,i6 r_1)]) hf hc rfl rfl sl_30 rfl ⟨rfl,rfl,rfl,rfl,rfl,rfl,trivial⟩ rfl rfl fun b_10 a w hf hc => cNil ?_
      refine xThenN ?_
      intro ds u hau
      replace hc := hc.drop k1
      refine ⟨(setT θ 64 ⟨b_10,none,0,(fun _ => (none,0))⟩),he.put hi hau hf rfl [] trivial ⟨qq,qq,qq,qq,qq,qq,qq,qq,qq,qq,qq,qq,qq,qq,qq,qq,qq,qq,qq,qq,trivial⟩,?_⟩
      try dsimp only
      rw [updE_self E 8]
      exact hc
     ·intro E θ a w hD hi hp he hc
      have e8 := hp.o 8 rfl
      try dsimp only at hc
      rw [e8] at hc
      have hf := he.h0.mP he 17 rfl e8
      refine zQ (v := i6 r_2) hf hc en_90 rfl (fun w hc => by obtain ⟨G1,hle1,hrd1,hc,hth1⟩ := lend hc k0; exact (level_sum_ok ([(b__6 (from_ * 13 + x_1).toNat),r_1] : List Int) hrd1 hc hr_2).mono fun e w h => ⟨h.1,((hth1 _ _ h.2).unpick k0)⟩) fun a w hf hc => zD θ he hi hf 18 rfl rfl rfl ?_
      try dsimp only
      rw [updE_tru 9 e8]
      exact hc
     ·intro E θ a w hD hi hp he hc
      have e9 := hp.o 9 rfl
      have hf := he.h0.mP he 18 rfl e9
      refine sp 1 hf rfl fun a hf => zD θ he hi hf 19 rfl rfl rfl hc
     ·intro E θ a w hall he hc
      have hf := he.h0
      have e8 := hall 8 rfl
      have e10 := hall 10 rfl
      replace hf := hf.more he 19 rfl (onP e10)
      replace hf := hf.more he 8 rfl (onT)
      replace hf := hf.more he 7 rfl (onT)
      replace hf := hf.more he 6 rfl (onT)
      replace hf := hf.more he 5 rfl (onT)
      replace hf := hf.more he 4 rfl (onT)
      replace hf := hf.more he 3 rfl (onT)
      replace hf := hf.more he 2 rfl (onT)
      replace hf := hf.more he 1 rfl (onT)
      replace hf := hf.more he 0 rfl (onT)
      try dsimp only at hc
      rw [e8] at hc
      exact ⟨(θ 64).b,hf.kp rfl,hc⟩
     rintro a w ⟨b_11,hf,hc⟩
     refine h21 _ _ ?_
     refine rSeq fun K22 h22 => ?_
     obtain ⟨r_3,hr_3,hF⟩ := bnd_some hF
     obtain ⟨un_4,hun_4,hF⟩ := bnd_some hF
     refine rRegE (fun _ _ h => h) rfl (fun θ => [⟨none,none,2,pq b_1⟩,⟨none,none,4,pq b_4⟩,⟨none,none,5,pq b_5⟩,⟨none,none,6,pq b_6⟩,⟨none,none,7,pq b_9⟩,⟨none,none,8,i6 r_2⟩,⟨none,none,23,i6 w_.Net.Marks⟩,⟨none,none,24,i6 x⟩,⟨none,none,30,i6 w_.Net.Marks⟩,⟨none,none,31,i6 x_1⟩,⟨some 0,none,54,i6 r_2⟩,⟨some 1,none,55,.pointer (some ⟨b_,2 + from_.toNat * 13,none⟩)⟩,⟨some 2,none,56,pq b_⟩,⟨some 3,none,57,.agg #[i6 xv.Line,.bool xv.Back]⟩,⟨some 4,none,58,i6 r_3⟩,⟨some 5,none,59,.pointer (some ⟨b_,2 + from_.toNat * 13,none⟩)⟩,⟨some 6,none,60,.pointer (some ⟨b_,2 + (from_ * 13 + r_3).toNat * 1,none⟩)⟩,⟨some 7,none,61,i6 (b__6 (from_ * 13 + r_3).toNat)⟩,⟨some 8,none,62,.bool (decide (r_2 < (b__6 (from_ * 13 + r_3).toNat)))⟩]) (fun E θ => .row (some ⟨b_11,0,none⟩) 2 (([(b__6 (from_ * 13 + x_1).toNat),r_1] : List Int).map encI_i64) 3 1::.box b_9 [i6 xv.Line,.bool xv.Back] 69::.box b_ (catc [i6 w_.Net.Marks,.slice w__Net_Lines_p w_.Net.Lines.length w__Net_Lines_c] 169 encI_i64 b__6 (catc [] 169 enc_level_Leg b__7 [])) 73::.box b_6 [i6 x_1] 3::.box b_5 [.pointer (some ⟨b_,171 + from_.toNat * 26,none⟩)] 153::.box b_4 [.pointer (some ⟨b_,2 + from_.toNat * 13,none⟩)] 152::.box b_1 [pq b_] 62::Lb) [] (fun a w => Has 79 a [(2,pq b_1),(4,pq b_4),(5,pq b_5),(6,pq b_6),(7,pq b_9),(8,i6 r_2),(23,i6 w_.Net.Marks),(24,i6 x),(30,i6 w_.Net.Marks),(31,i6 x_1),(62,.bool (decide (r_2 < (b__6 (from_ * 13 + r_3).toNat))))] ∧ Ctx G (.row (some ⟨b_11,0,none⟩) 2 (([(b__6 (from_ * 13 + x_1).toNat),r_1] : List Int).map encI_i64) 3 1::.box b_9 [i6 xv.Line,.bool xv.Back] 69::.box b_ (catc [i6 w_.Net.Marks,.slice w__Net_Lines_p w_.Net.Lines.length w__Net_Lines_c] 169 encI_i64 b__6 (catc [] 169 enc_level_Leg b__7 [])) 73::.box b_6 [i6 x_1] 3::.box b_5 [.pointer (some ⟨b_,171 + from_.toNat * 26,none⟩)] 153::.box b_4 [.pointer (some ⟨b_,2 + from_.toNat * 13,none⟩)] 152::.box b_1 [pq b_] 62::Lb) w) follows_mx (by kernel_rfl) (by kernel_rfl) (HasE.of hf ⟨rfl,rfl,rfl,rfl,rfl,rfl,rfl,rfl,rfl,rfl,trivial,trivial,trivial,trivial,trivial,trivial,trivial,trivial,trivial,trivial⟩) hc ⟨?_,?_,?_,?_,?_,?_,?_,?_,?_,trivial⟩ ?_ ?_
     ·intro E θ a w hD hi hp he hc
      have hf := he.h0.mT he 5 rfl
      refine sp 1 hf rfl fun a hf => zD θ he hi hf 10 rfl rfl rfl hc
     ·intro E θ a w hD hi hp he hc
      have hf := he.h0.mT he 1 rfl
      refine zL hf hc sc_152 m5 rfl fun a w hf hc => zD θ he hi hf 11 rfl rfl rfl hc
     ·intro E θ a w hD hi hp he hc
      have hf := he.h0.mT he 0 rfl
      refine zL hf hc sc_62 m6 rfl fun a w hf hc => zD θ he hi hf 12 rfl rfl rfl hc
     ·intro E θ a w hD hi hp he hc
      have hf := he.h0.mT he 4 rfl
      refine zN hf hc ag_69 m1 rfl fun a w hf hc => zD θ he hi hf 13 rfl rfl rfl hc
     ·intro E θ a w hD hi hp he hc
      have e2 := hp.o 2 rfl
      have e3 := hp.o 3 rfl
      have hf := (he.h0.mP he 12 rfl e2).mP he 13 rfl e3
      refine zQ (v := i6 r_3) hf hc en_77 rfl (fun w hc => (level_survey_goal_ok (⟨w_.Net,b__6,b__7⟩ : level_survey) xv h_w__Net_Lines (hc.pick k2) hr_3).mono fun e w h => ⟨h.1,(h.2.unpick k2)⟩) fun a w hf hc => zD θ he hi hf 14 rfl rfl rfl hc
     ·intro E θ a w hD hi hp he hc
      have e1 := hp.o 1 rfl
      have hf := he.h0.mP he 11 rfl e1
      refine sp 1 hf rfl fun a hf => zD θ he hi hf 15 rfl rfl rfl hc
     ·intro E θ a w hD hi hp he hc
      have e4 := hp.o 4 rfl
      have e5 := hp.o 5 rfl
      have hf := (he.h0.mP he 14 rfl e4).mP he 15 rfl e5
      refine zP hf rfl (Pu.cast (pIAA Try.underlying65 sz_3 rfl rfl (inR_spec hun_4).1 (inR_spec hun_4).2) (congrArg (fun k => Value.pointer (some ⟨b_,k,none⟩)) (flat_off (M := 13) (2) hun hun_4 rfl))) fun a hf => zD θ he hi hf 16 rfl rfl rfl hc
     ·intro E θ a w hD hi hp he hc
      have e6 := hp.o 6 rfl
      have hf := he.h0.mP he 16 rfl e6
      refine zE hf hc rfl (eLd1 sc_3 rfl (cell_arr (j := 0) m2 (fun x => (one_encI_i64 x).1) rfl (inR2 hun hun_4 rfl) rfl)) fun a w hf hc => zD θ he hi hf 17 rfl rfl rfl hc
     ·intro E θ a w hD hi hp he hc
      have e0 := hp.o 0 rfl
      have e7 := hp.o 7 rfl
      have hf := (he.h0.mP he 10 rfl e0).mP he 17 rfl e7
      refine sp 1 hf rfl fun a hf => zD θ he hi hf 18 rfl rfl rfl hc
     ·intro E θ a w hall he hc
      have hf := he.h0
      have e8 := hall 8 rfl
      replace hf := hf.more he 18 rfl (onP e8)
      replace hf := hf.more he 9 rfl (onT)
      replace hf := hf.more he 8 rfl (onT)
      replace hf := hf.more he 7 rfl (onT)
      replace hf := hf.more he 6 rfl (onT)
      replace hf := hf.more he 5 rfl (onT)
      replace hf := hf.more he 4 rfl (onT)
      replace hf := hf.more he 3 rfl (onT)
      replace hf := hf.more he 2 rfl (onT)
      replace hf := hf.more he 1 rfl (onT)
      replace hf := hf.more he 0 rfl (onT)
      exact ⟨hf.kp rfl,hc⟩
     rintro a w ⟨hf,hc⟩
     refine h22 _ _ ?_
     refine rCond (b := (decide (r_2 < (b__6 (from_ * 13 + r_3).toNat)))) hf rfl (fun hb => ?_) (fun hb => ?_)
     ·replace hF := condT hb hF
      clear hb
      obtain ⟨r_4,hr_4,hF⟩ := bnd_some hF
      obtain ⟨r_5,hr_5,hF⟩ := bnd_some hF
      obtain ⟨un_5,hun_5,hF⟩ := bnd_some hF
      obtain ⟨un_6,hun_6,hF⟩ := bnd_some hF
      refine rRegE (fun _ _ h => h) rfl (fun θ => [⟨none,none,2,pq b_1⟩,⟨none,none,4,pq b_4⟩,⟨none,none,5,pq b_5⟩,⟨none,none,6,pq b_6⟩,⟨none,none,7,pq b_9⟩,⟨none,none,8,i6 r_2⟩,⟨none,none,23,i6 w_.Net.Marks⟩,⟨none,none,24,i6 x⟩,⟨none,none,30,i6 w_.Net.Marks⟩,⟨none,none,31,i6 x_1⟩,⟨some 0,none,63,.pointer (some ⟨b_,2 + from_.toNat * 13,none⟩)⟩,⟨some 1,none,64,pq b_⟩,⟨some 2,none,65,.agg #[i6 xv.Line,.bool xv.Back]⟩,⟨some 3,none,66,i6 r_4⟩,⟨some 4,none,67,.pointer (some ⟨b_,171 + from_.toNat * 26,none⟩)⟩,⟨some 5,none,68,pq b_⟩,⟨some 6,none,69,.agg #[i6 xv.Line,.bool xv.Back]⟩,⟨some 7,none,70,i6 r_5⟩,⟨some 8,none,71,i6 r_2⟩,⟨some 9,none,72,.agg #[i6 xv.Line,.bool xv.Back]⟩,⟨some 10,none,73,.pointer (some ⟨b_,2 + from_.toNat * 13,none⟩)⟩,⟨some 11,none,74,.pointer (some ⟨b_,2 + (from_ * 13 + r_4).toNat * 1,none⟩)⟩,⟨some 13,none,75,.pointer (some ⟨b_,171 + from_.toNat * 26,none⟩)⟩,⟨some 14,none,76,.pointer (some ⟨b_,171 + (from_ * 13 + r_5).toNat * 2,none⟩)⟩]) (fun E θ => .row (some ⟨b_11,0,none⟩) 2 (([(b__6 (from_ * 13 + x_1).toNat),r_1] : List Int).map encI_i64) 3 1::.box b_9 [i6 xv.Line,.bool xv.Back] 69::(bif E 15 then .box b_ (catc [i6 w_.Net.Marks,.slice w__Net_Lines_p w_.Net.Lines.length w__Net_Lines_c] 169 encI_i64 (setF b__6 (from_ * 13 + r_4).toNat r_2) (catc [] 169 enc_level_Leg (setF b__7 (from_ * 13 + r_5).toNat xv) [])) 73 else bif E 12 then .box b_ (catc [i6 w_.Net.Marks,.slice w__Net_Lines_p w_.Net.Lines.length w__Net_Lines_c] 169 encI_i64 (setF b__6 (from_ * 13 + r_4).toNat r_2) (catc [] 169 enc_level_Leg b__7 [])) 73 else .box b_ (catc [i6 w_.Net.Marks,.slice w__Net_Lines_p w_.Net.Lines.length w__Net_Lines_c] 169 encI_i64 b__6 (catc [] 169 enc_level_Leg b__7 [])) 73)::.box b_6 [i6 x_1] 3::.box b_5 [.pointer (some ⟨b_,171 + from_.toNat * 26,none⟩)] 153::.box b_4 [.pointer (some ⟨b_,2 + from_.toNat * 13,none⟩)] 152::.box b_1 [pq b_] 62::Lb) [(12,3),(15,3),(12,7),(15,7),(15,12)] (fun a w => Has 79 a [(2,pq b_1),(4,pq b_4),(5,pq b_5),(6,pq b_6),(23,i6 w_.Net.Marks),(24,i6 x),(30,i6 w_.Net.Marks),(31,i6 x_1)] ∧ Ctx G (.row (some ⟨b_11,0,none⟩) 2 (([(b__6 (from_ * 13 + x_1).toNat),r_1] : List Int).map encI_i64) 3 1::.box b_9 [i6 xv.Line,.bool xv.Back] 69::.box b_ (catc [i6 w_.Net.Marks,.slice w__Net_Lines_p w_.Net.Lines.length w__Net_Lines_c] 169 encI_i64 (setF b__6 (from_ * 13 + r_4).toNat r_2) (catc [] 169 enc_level_Leg (setF b__7 (from_ * 13 + r_5).toNat xv) [])) 73::.box b_6 [i6 x_1] 3::.box b_5 [.pointer (some ⟨b_,171 + from_.toNat * 26,none⟩)] 153::.box b_4 [.pointer (some ⟨b_,2 + from_.toNat * 13,none⟩)] 152::.box b_1 [pq b_] 62::Lb) w) follows_mx (by kernel_rfl) (by kernel_rfl) (HasE.of hf ⟨rfl,rfl,rfl,rfl,rfl,rfl,rfl,rfl,rfl,rfl,trivial,trivial,trivial,trivial,trivial,trivial,trivial,trivial,trivial,trivial,trivial,trivial,trivial,trivial,trivial⟩) hc ⟨?_,?_,?_,?_,?_,?_,?_,?_,?_,?_,?_,?_,?_,?_,?_,?_,trivial⟩ ?_ ?_
      ·intro E θ a w hD hi hp he hc
       have hf := he.h0.mT he 1 rfl
       refine zL hf hc sc_152 m5 rfl fun a w hf hc => zD θ he hi hf 10 rfl rfl rfl hc
      ·intro E θ a w hD hi hp he hc
       have hf := he.h0.mT he 0 rfl
       refine zL hf hc sc_62 m6 rfl fun a w hf hc => zD θ he hi hf 11 rfl rfl rfl hc
      ·intro E θ a w hD hi hp he hc
       have hf := he.h0.mT he 4 rfl
       refine zN hf hc ag_69 m1 rfl fun a w hf hc => zD θ he hi hf 12 rfl rfl rfl hc
      ·intro E θ a w hD hi hp he hc
       have e1 := hp.o 1 rfl
       have e2 := hp.o 2 rfl
       have e12 := hD.f 0 rfl hi
       have e15 := hD.f 1 rfl hi
       try dsimp only at hc
       rw [e12,e15] at hc
       have hf := (he.h0.mP he 11 rfl e1).mP he 12 rfl e2
       refine zQ (v := i6 r_4) hf hc en_77 rfl (fun w hc => (level_survey_goal_ok (⟨w_.Net,b__6,b__7⟩ : level_survey) xv h_w__Net_Lines (hc.pick k2) hr_4).mono fun e w h => ⟨h.1,(h.2.unpick k2)⟩) fun a w hf hc => zD θ he hi hf 13 rfl rfl rfl ?_
       try dsimp only
       rw [updE_fls 3 e12 rfl,updE_fls 3 e15 rfl]
       exact hc
      ·intro E θ a w hD hi hp he hc
       have hf := he.h0.mT he 2 rfl
       refine zL hf hc sc_153 m4 rfl fun a w hf hc => zD θ he hi hf 14 rfl rfl rfl hc
      ·intro E θ a w hD hi hp he hc
       have hf := he.h0.mT he 0 rfl
       refine zL hf hc sc_62 m6 rfl fun a w hf hc => zD θ he hi hf 15 rfl rfl rfl hc
      ·intro E θ a w hD hi hp he hc
       have hf := he.h0.mT he 4 rfl
       refine zN hf hc ag_69 m1 rfl fun a w hf hc => zD θ he hi hf 16 rfl rfl rfl hc
      ·intro E θ a w hD hi hp he hc
       have e5 := hp.o 5 rfl
       have e6 := hp.o 6 rfl
       have e12 := hD.f 2 rfl hi
       have e15 := hD.f 3 rfl hi
       try dsimp only at hc
       rw [e12,e15] at hc
       have hf := (he.h0.mP he 15 rfl e5).mP he 16 rfl e6
       refine zQ (v := i6 r_5) hf hc en_77 rfl (fun w hc => (level_survey_goal_ok (⟨w_.Net,b__6,b__7⟩ : level_survey) xv h_w__Net_Lines (hc.pick k2) hr_5).mono fun e w h => ⟨h.1,(h.2.unpick k2)⟩) fun a w hf hc => zD θ he hi hf 17 rfl rfl rfl ?_
       try dsimp only
       rw [updE_fls 7 e12 rfl,updE_fls 7 e15 rfl]
       exact hc
      ·intro E θ a w hD hi hp he hc
       have hf := he.h0.mT he 5 rfl
       refine sp 1 hf rfl fun a hf => zD θ he hi hf 18 rfl rfl rfl hc
      ·intro E θ a w hD hi hp he hc
       have hf := he.h0.mT he 4 rfl
       refine zN hf hc ag_69 m1 rfl fun a w hf hc => zD θ he hi hf 19 rfl rfl rfl hc
      ·intro E θ a w hD hi hp he hc
       have e0 := hp.o 0 rfl
       have hf := he.h0.mP he 10 rfl e0
       refine sp 1 hf rfl fun a hf => zD θ he hi hf 20 rfl rfl rfl hc
      ·intro E θ a w hD hi hp he hc
       have e3 := hp.o 3 rfl
       have e10 := hp.o 10 rfl
       have hf := (he.h0.mP he 13 rfl e3).mP he 20 rfl e10
       refine zP hf rfl (Pu.cast (pIAA Try.underlying65 sz_3 rfl rfl (inR_spec hun_5).1 (inR_spec hun_5).2) (congrArg (fun k => Value.pointer (some ⟨b_,k,none⟩)) (flat_off (M := 13) (2) hun hun_5 rfl))) fun a hf => zD θ he hi hf 21 rfl rfl rfl hc
      ·intro E θ a w hD hi hp he hc
       have e8 := hp.o 8 rfl
       have e11 := hp.o 11 rfl
       have e15 := hD.f 4 rfl hi
       try dsimp only at hc
       rw [hi,e15] at hc
       have hf := (he.h0.mP he 18 rfl e8).mP he 21 rfl e11
       refine stAr (vs := [i6 r_2]) (o' := 0) (z := r_2) hf hc rfl rfl rfl rfl sz_3 rfl (fun x => (one_encI_i64 x).1) rfl (inR2 hun hun_5 rfl) rfl rfl u2 fun w hc => zG θ he hi hf rfl ?_
       try dsimp only
       rw [updE_self E 12,updE_fls 12 e15 rfl]
       exact hc
      ·intro E θ a w hD hi hp he hc
       have e4 := hp.o 4 rfl
       have hf := he.h0.mP he 14 rfl e4
       refine sp 1 hf rfl fun a hf => zD θ he hi hf 22 rfl rfl rfl hc
      ·intro E θ a w hD hi hp he hc
       have e7 := hp.o 7 rfl
       have e13 := hp.o 13 rfl
       have hf := (he.h0.mP he 17 rfl e7).mP he 22 rfl e13
       refine zP hf rfl (Pu.cast (pIAA Try.underlying70 sz_69 rfl rfl (inR_spec hun_6).1 (inR_spec hun_6).2) (congrArg (fun k => Value.pointer (some ⟨b_,k,none⟩)) (flat_offN (m := 13) (sz := 2) (M := 13) (q := 26) (171) hun_1 hun_6 rfl rfl))) fun a hf => zD θ he hi hf 23 rfl rfl rfl hc
      ·intro E θ a w hD hi hp he hc
       have e9 := hp.o 9 rfl
       have e14 := hp.o 14 rfl
       have e12 := hp.o 12 rfl
       try dsimp only at hc
       rw [e12,hi] at hc
       have hf := (he.h0.mP he 19 rfl e9).mP he 23 rfl e14
       refine stAr2 (vs := [i6 xv.Line,.bool xv.Back]) (o' := 0) (z := xv) hf hc rfl rfl rfl rfl sz_69 rfl (fun x => (one_enc_level_Leg x).1) (fun x => (one_encI_i64 x).1) rfl (inR2 hun_1 hun_6 rfl) rfl rfl u2 fun w hc => zG θ he hi hf rfl ?_
       try dsimp only
       rw [updE_tru 15 e12,updE_self E 15]
       exact hc
      ·intro E θ a w hall he hc
       have hf := he.h0
       have e12 := hall 12 rfl
       have e15 := hall 15 rfl
       replace hf := hf.more he 9 rfl (onT)
       replace hf := hf.more he 8 rfl (onT)
       replace hf := hf.more he 7 rfl (onT)
       replace hf := hf.more he 6 rfl (onT)
       replace hf := hf.more he 3 rfl (onT)
       replace hf := hf.more he 2 rfl (onT)
       replace hf := hf.more he 1 rfl (onT)
       replace hf := hf.more he 0 rfl (onT)
       try dsimp only at hc
       rw [e12,e15] at hc
       exact ⟨hf.kp rfl,hc⟩
      rintro a w ⟨hf,hc⟩
      refine h20 _ _ ?_
      replace hc := (hc.drop k1).drop k0
      exact ⟨((setF b__6 (from_ * 13 + r_4).toNat r_2),(setF b__7 (from_ * 13 + r_5).toNat xv)),_,(sj hF).symm,rfl,hc⟩
     ·replace hF := condF hb hF
      clear hb
      refine rSkip ?_
      refine h20 _ _ ?_
      replace hc := (hc.drop k1).drop k0
      exact ⟨(b__6,b__7),_,(sj hF).symm,rfl,hc⟩
    ·rintro D_1 ⟨b__6,b__7⟩ _ a w hsF rfl hf hc
     replace hf : Has ⟨79,markL (D_1::Ds_1)⟩ a [(2,pq b_1),(4,pq b_4),(5,pq b_5),(6,pq b_6),(23,i6 w_.Net.Marks),(24,i6 x),(30,i6 w_.Net.Marks),(31,i6 x_1)] := hf.kp rfl
     replace hc : Ctx G (.box b_7 [pq b_] 62::.box b_8 [i6 r] 3::.box b_ (catc [i6 w_.Net.Marks,.slice w__Net_Lines_p w_.Net.Lines.length w__Net_Lines_c] 169 encI_i64 b__6 (catc [] 169 enc_level_Leg b__7 [])) 73::.box b_6 [i6 x_1] 3::.box b_5 [.pointer (some ⟨b_,171 + from_.toNat * 26,none⟩)] 153::.box b_4 [.pointer (some ⟨b_,2 + from_.toNat * 13,none⟩)] 152::.box b_1 [pq b_] 62::(raws (D_1::Ds_1) ++ Lf)) w := rawsIn (C := [.box b_7 [pq b_] 62,.box b_8 [i6 r] 3]) (L := [.box b_ (catc [i6 w_.Net.Marks,.slice w__Net_Lines_p w_.Net.Lines.length w__Net_Lines_c] 169 encI_i64 b__6 (catc [] 169 enc_level_Leg b__7 [])) 73,.box b_6 [i6 x_1] 3,.box b_5 [.pointer (some ⟨b_,171 + from_.toNat * 26,none⟩)] 153,.box b_4 [.pointer (some ⟨b_,2 + from_.toNat * 13,none⟩)] 152,.box b_1 [pq b_] 62]) hc
     replace hF : (level_survey_fill_j14 N x_1 b__6 b__7) = some st11 := by rcases hsF with rfl | rfl <;> exact hF
     replace hc := ((((((hc.drop k3).drop k1).drop k0).pick k0).pick k3).pick k3).pick k3
     exact hj14 b__6 b__7 (D_1::Ds_1) _ _  (hf.kp rfl) hc hF
    ·rintro D_1 ⟨b__6,b__7⟩ _ a w hsF rfl hf hc
     replace hf : Has ⟨79,markL (D_1::Ds_1)⟩ a [(2,pq b_1),(4,pq b_4),(5,pq b_5),(6,pq b_6),(23,i6 w_.Net.Marks),(24,i6 x),(30,i6 w_.Net.Marks),(31,i6 x_1)] := hf.kp rfl
     replace hc : Ctx G (.box b_7 [pq b_] 62::.box b_8 [i6 r] 3::.box b_ (catc [i6 w_.Net.Marks,.slice w__Net_Lines_p w_.Net.Lines.length w__Net_Lines_c] 169 encI_i64 b__6 (catc [] 169 enc_level_Leg b__7 [])) 73::.box b_6 [i6 x_1] 3::.box b_5 [.pointer (some ⟨b_,171 + from_.toNat * 26,none⟩)] 153::.box b_4 [.pointer (some ⟨b_,2 + from_.toNat * 13,none⟩)] 152::.box b_1 [pq b_] 62::(raws (D_1::Ds_1) ++ Lf)) w := rawsIn (C := [.box b_7 [pq b_] 62,.box b_8 [i6 r] 3]) (L := [.box b_ (catc [i6 w_.Net.Marks,.slice w__Net_Lines_p w_.Net.Lines.length w__Net_Lines_c] 169 encI_i64 b__6 (catc [] 169 enc_level_Leg b__7 [])) 73,.box b_6 [i6 x_1] 3,.box b_5 [.pointer (some ⟨b_,171 + from_.toNat * 26,none⟩)] 153,.box b_4 [.pointer (some ⟨b_,2 + from_.toNat * 13,none⟩)] 152,.box b_1 [pq b_] 62]) hc
     replace hF : (none) = some st11 := by subst hsF; exact hF
     cases hF
  ·refine wp_exit ?_
   refine xThen ?_
   refine xThen ?_
   have he := sj hF
   rw [← he] at hfin11
   refine cHit ?_
   exact hr11 _ _ _ hfin11 ⟨Ds_1,hf.kp rfl,hc⟩
 ·refine wp_exit ?_
  refine xThen ?_
  refine xThen ?_
  have he := sj hF
  rw [← he] at hfin5
  refine cHit ?_
  exact hr5 _ _ _ hfin5 ⟨Ds,hf.kp rfl,hc⟩

def level_worked_b8 (N : Nat) (n : level_Net) (x_2 : Int) (x_3 : Nat → Int) (x_4 : Nat → level_Leg) : Option (Step (Int × (Nat → Int) × (Nat → level_Leg)) (Int × (Nat → Int) × (Nat → level_Leg))) :=
 cond (decide (x_2 < n.Marks))
 (Option.bind (level_survey_fill N (⟨n,x_3,x_4⟩ : level_survey) x_2) fun r =>
 some (.cont (W (x_2 + 1),r.1,r.2)))
 (some (.brk (x_2,x_3,x_4)))
def level_worked_b20 (N : Nat) (n : level_Net) (x : Int) (x_5 : Int) (x_6 : Nat → Int) : Option (Step (Int × (Nat → Int)) (Step (Int × (Nat → Int)) (Int × (Nat → Int) × (Nat → level_Leg)))) :=
 cond (decide (x_5 < n.Marks))
 (Option.bind (inR x 13) fun un_2 =>
 Option.bind (inR x_5 13) fun un_3 =>
 some (.cont (W (x_5 + 1),(setF x_6 (x * 13 + x_5).toNat 1099511627776))))
 (some (.brk (x_5,x_6)))
def level_worked_b5 (N : Nat) (n : level_Net) (x : Int) (x_1 : Nat → Int) : Option (Step (Int × (Nat → Int)) (Int × (Nat → Int) × (Nat → level_Leg))) :=
 cond (decide (x < n.Marks))
 (Option.bind (loopO (fun s20 => level_worked_b20 N n x s20.1 s20.2) N (0,x_1)) fun x20 =>
 exK x20 (fun s20 => Option.bind (inR x 13) fun un =>
 Option.bind (inR x 13) fun un_1 =>
 some (.cont (W (x + 1),(setF s20.2 (x * 13 + x).toNat 0)))) some)
 (some (.brk (x,x_1)))
def level_worked (N : Nat) (n : level_Net) : Option (Int × (Nat → Int) × (Nat → level_Leg)) :=
 Option.bind (loopO (fun s5 => level_worked_b5 N n s5.1 s5.2) N (0,(fun _ => 0))) fun x5 =>
 exK x5 (fun s5 => Option.bind (loopO (fun s8 => level_worked_b8 N n s8.1 s8.2.1 s8.2.2) N (0,s5.2,(fun _ => (⟨0,false⟩ : level_Leg)))) fun x8 =>
 exK x8 (fun s8 => some (n.Marks,s8.2.1,s8.2.2)) some) some
theorem level_worked_ok {N : Nat} {G : Pers} {Lf : List Ent} {w : World} (n : level_Net) {n_Lines_p : Option Addr} {n_Lines_c : Nat} (h_n_Lines : Rd G 5 n_Lines_p n_Lines_c (n.Lines.map enc_level_Line)) (hc : Ctx G (Lf) w) {res : Int × (Nat → Int) × (Nat → level_Leg)} (hF : level_worked N n = some res) : Calls Try.prog 74 #[.agg #[i6 n.Marks,.slice n_Lines_p n.Lines.length n_Lines_c]] w (fun e w => ∃ (b'1 : Nat),e = .returned (pq b'1) ∧ Ctx G (.box b'1 (catc [i6 res.1,.slice n_Lines_p n.Lines.length n_Lines_c] 169 encI_i64 res.2.1 (catc [] 169 enc_level_Leg res.2.2 [])) 73::Lf) w) := by
 unfold level_worked at hF
 refine fnIn Try.func74 rfl Try.ntmps74 rfl fun a hf => zS fun K h => zB hf hc rfl fun b_1 a w hf hc => sp 1 hf rfl fun a hf => zT h ?_
 refine zS fun K h => zN hf hc ag_36 m0 rfl fun a w hf hc => zP hf rfl (pBuildS (cells := (catc [i6 n.Marks,.slice n_Lines_p n.Lines.length n_Lines_c] 169 encI_i64 (fun _ => 0) (catc [] 169 enc_level_Leg (fun _ => (⟨0,false⟩ : level_Leg)) []))) bt_73 rfl rfl) fun a hf => stBx (cs := (catc [i6 n.Marks,.slice n_Lines_p n.Lines.length n_Lines_c] 169 encI_i64 (fun _ => 0) (catc [] 169 enc_level_Leg (fun _ => (⟨0,false⟩ : level_Leg)) []))) hf hc rfl rfl rfl rfl fun b_2 a w hf hc => sp 1 hf rfl fun a hf => zT h ?_
 refine wp_seq_k fun K3 h3 => zS fun K h => zP hf rfl (pFA fa_36_0 rfl) fun a hf => zL hf hc sc_3 m1 rfl fun a w hf hc => sp 1 hf rfl fun a hf => zT h ?_
 refine wp_block ?_
 obtain ⟨x5,hx5,hF⟩ := bnd_some hF
 let S5 : (Int × (Nat → Int)) → Act → World → Prop := (fun (zz : Int × (Nat → Int)) a w => Has 46 a [(1,pq b_1),(3,pq b_2),(11,i6 n.Marks),(12,i6 zz.1)] ∧ Ctx G (.box b_2 (catc [i6 n.Marks,.slice n_Lines_p n.Lines.length n_Lines_c] 169 encI_i64 zz.2 (catc [] 169 enc_level_Leg (fun _ => (⟨0,false⟩ : level_Leg)) [])) 73::.box b_1 [i6 n.Marks,.slice n_Lines_p n.Lines.length n_Lines_c] 36::Lf) w)
 have hr5 : ∀ (zz : Int × (Nat → Int)) a w,x5 = .go zz → S5 zz a w → K3 a w := by
  rintro ⟨x,x_1⟩ a w rfl ⟨hf,hc⟩
  replace hF := exK_go hF
  refine h3 _ _ ?_
  refine wp_seq_k fun K6 h6 => zS fun K h => zP hf rfl (pFA fa_36_0 rfl) fun a hf => zL hf hc sc_3 m1 rfl fun a w hf hc => sp 1 hf rfl fun a hf => zT h ?_
  refine wp_block ?_
  obtain ⟨x8,hx8,hF⟩ := bnd_some hF
  let S8 : (Int × (Nat → Int) × (Nat → level_Leg)) → Act → World → Prop := (fun (zz : Int × (Nat → Int) × (Nat → level_Leg)) a w => Has 46 a [(3,pq b_2),(37,i6 n.Marks),(38,i6 zz.1)] ∧ Ctx G (.box b_2 (catc [i6 n.Marks,.slice n_Lines_p n.Lines.length n_Lines_c] 169 encI_i64 zz.2.1 (catc [] 169 enc_level_Leg zz.2.2 [])) 73::Lf) w)
  have hr8 : ∀ (zz : Int × (Nat → Int) × (Nat → level_Leg)) a w,x8 = .go zz → S8 zz a w → K6 a w := by
   rintro ⟨x_2,x_3,x_4⟩ a w rfl ⟨hf,hc⟩
   replace hF := exK_go hF
   refine h6 _ _ ?_
   refine zS fun K h => sp 2 hf rfl fun a hf => zT h ?_
   refine wp_ret ?_
   obtain rfl := sj hF
   exact zO1 Try.results74 hf rfl ⟨b_2,rfl,hc⟩
  have ho8 : ∀ r,x8 = .out r → r = res := by
   rintro r rfl
   exact sj hF
  replace hc := hc.drop k1
  refine cLoop N (loopW (S := S8) (x := x8) ?_ N (0,x_1,(fun _ => (⟨0,false⟩ : level_Leg))) _ _ ⟨hf.kp rfl,hc⟩ hx8)
  clear hF hf hc
  rintro ⟨x_2,x_3,x_4⟩ st8 a w KB8 ⟨hf,hc⟩ hF hfin8 hK8
  unfold level_worked_b8 at hF
  refine zS fun K h => sp 1 hf rfl fun a hf => zT h ?_
  refine wp_seq_k fun K11 h11 => zI hf rfl hF ?_ ?_ <;> clear hF <;> intro hF
  ·refine wp_skip ?_
   refine h11 _ _ ?_
   refine wp_seq_k fun K12 h12 => wp_block ?_
   refine zS fun K h => sp 2 hf rfl fun a hf => zT h ?_
   refine cReg ?_
   refine sp 2 hf rfl fun a hf => ?_
   obtain ⟨r,hr,hF⟩ := bnd_some hF
   refine zC hf en_85 rfl (level_survey_fill_ok (⟨n,x_3,x_4⟩ : level_survey) x_2 h_n_Lines (hc.pick k0) hr) ?_
   rintro _ w ⟨rfl,hc⟩
   refine ⟨_,rfl,fun a hf => ?_⟩
   refine cNil ?_
   refine h12 _ _ ?_
   refine cReg ?_
   refine sp 2 hf rfl fun a hf => cNil ?_
   exact hK8 (W (x_2 + 1),r.1,r.2) _ _ (sj hF).symm ⟨hf.kp rfl,hc⟩
  ·refine wp_exit ?_
   refine xThen ?_
   refine xThen ?_
   have he := sj hF
   rw [← he] at hfin8
   refine cHit ?_
   exact hr8 _ _ _ hfin8 ⟨hf.kp rfl,hc⟩
 have ho5 : ∀ r,x5 = .out r → r = res := by
  rintro r rfl
  exact sj hF
 refine cLoop N (loopW (S := S5) (x := x5) ?_ N (0,(fun _ => 0)) _ _ ⟨hf.kp rfl,hc⟩ hx5)
 clear hF hf hc
 rintro ⟨x,x_1⟩ st5 a w KB5 ⟨hf,hc⟩ hF hfin5 hK5
 unfold level_worked_b5 at hF
 refine zS fun K h => sp 1 hf rfl fun a hf => zT h ?_
 refine wp_seq_k fun K15 h15 => zI hf rfl hF ?_ ?_ <;> clear hF <;> intro hF
 ·refine wp_skip ?_
  refine h15 _ _ ?_
  refine wp_seq_k fun K16 h16 => wp_block ?_
  refine zS fun K h => sp 2 hf rfl fun a hf => zT h ?_
  refine wp_seq_k fun K18 h18 => zS fun K h => zP hf rfl (pFA fa_36_0 rfl) fun a hf => zL hf hc sc_3 m1 rfl fun a w hf hc => sp 1 hf rfl fun a hf => zT h ?_
  refine wp_block ?_
  obtain ⟨x20,hx20,hF⟩ := bnd_some hF
  let S20 : (Int × (Nat → Int)) → Act → World → Prop := (fun (zz : Int × (Nat → Int)) a w => Has 46 a [(1,pq b_1),(3,pq b_2),(4,i6 x),(11,i6 n.Marks),(12,i6 x),(16,i6 n.Marks),(17,i6 zz.1)] ∧ Ctx G (.box b_2 (catc [i6 n.Marks,.slice n_Lines_p n.Lines.length n_Lines_c] 169 encI_i64 zz.2 (catc [] 169 enc_level_Leg (fun _ => (⟨0,false⟩ : level_Leg)) [])) 73::.box b_1 [i6 n.Marks,.slice n_Lines_p n.Lines.length n_Lines_c] 36::Lf) w)
  have hr20 : ∀ (zz : Int × (Nat → Int)) a w,x20 = .go zz → S20 zz a w → K18 a w := by
   rintro ⟨x_5,x_6⟩ a w rfl ⟨hf,hc⟩
   replace hF := exK_go hF
   refine h18 _ _ ?_
   refine cReg ?_
   refine sp 4 hf rfl fun a hf => zP hf rfl (pFA fa_73_1 rfl) fun a hf => ?_
   obtain ⟨un,hun,hF⟩ := bnd_some hF
   refine zP hf rfl (pIAA Try.underlying67 sz_65 rfl rfl (inR_spec hun).1 (inR_spec hun).2) fun a hf => ?_
   obtain ⟨un_1,hun_1,hF⟩ := bnd_some hF
   refine zP hf rfl (Pu.cast (pIAA Try.underlying65 sz_3 rfl rfl (inR_spec hun_1).1 (inR_spec hun_1).2) (congrArg (fun k => Value.pointer (some ⟨b_2,k,none⟩)) (flat_off (M := 13) (2) hun hun_1 rfl))) fun a hf => stAr (vs := [i6 0]) (o' := 0) (z := 0) hf hc rfl rfl rfl rfl sz_3 rfl (fun x => (one_encI_i64 x).1) rfl (inR2 hun hun_1 rfl) rfl rfl u0 fun w hc => cNil ?_
   refine h16 _ _ ?_
   refine cReg ?_
   refine sp 2 hf rfl fun a hf => cNil ?_
   exact hK5 (W (x + 1),(setF x_6 (x * 13 + x).toNat 0)) _ _ (sj hF).symm ⟨hf.kp rfl,hc⟩
  have ho20 : ∀ r,x20 = .out r → r = st5 := by
   rintro r rfl
   exact sj hF
  refine cLoop N (loopW (S := S20) (x := x20) ?_ N (0,x_1) _ _ ⟨hf.kp rfl,hc⟩ hx20)
  clear hF hf hc
  rintro ⟨x_5,x_6⟩ st20 a w KB20 ⟨hf,hc⟩ hF hfin20 hK20
  unfold level_worked_b20 at hF
  refine zS fun K h => sp 1 hf rfl fun a hf => zT h ?_
  refine wp_seq_k fun K22 h22 => zI hf rfl hF ?_ ?_ <;> clear hF <;> intro hF
  ·refine wp_skip ?_
   refine h22 _ _ ?_
   refine wp_seq_k fun K23 h23 => wp_block ?_
   refine zS fun K h => sp 2 hf rfl fun a hf => zT h ?_
   refine cReg ?_
   refine sp 4 hf rfl fun a hf => zP hf rfl (pFA fa_73_1 rfl) fun a hf => ?_
   obtain ⟨un_2,hun_2,hF⟩ := bnd_some hF
   refine zP hf rfl (pIAA Try.underlying67 sz_65 rfl rfl (inR_spec hun_2).1 (inR_spec hun_2).2) fun a hf => ?_
   obtain ⟨un_3,hun_3,hF⟩ := bnd_some hF
   refine zP hf rfl (Pu.cast (pIAA Try.underlying65 sz_3 rfl rfl (inR_spec hun_3).1 (inR_spec hun_3).2) (congrArg (fun k => Value.pointer (some ⟨b_2,k,none⟩)) (flat_off (M := 13) (2) hun_2 hun_3 rfl))) fun a hf => stAr (vs := [i6 1099511627776]) (o' := 0) (z := 1099511627776) hf hc rfl rfl rfl rfl sz_3 rfl (fun x => (one_encI_i64 x).1) rfl (inR2 hun_2 hun_3 rfl) rfl rfl u0 fun w hc => cNil ?_
   refine h23 _ _ ?_
   refine cReg ?_
   refine sp 2 hf rfl fun a hf => cNil ?_
   exact hK20 (W (x_5 + 1),(setF x_6 (x * 13 + x_5).toNat 1099511627776)) _ _ (sj hF).symm ⟨hf.kp rfl,hc⟩
  ·refine wp_exit ?_
   refine xThen ?_
   refine xThen ?_
   have he := sj hF
   rw [← he] at hfin20
   refine cHit ?_
   exact hr20 _ _ _ hfin20 ⟨hf.kp rfl,hc⟩
 ·refine wp_exit ?_
  refine xThen ?_
  refine xThen ?_
  have he := sj hF
  rw [← he] at hfin5
  refine cHit ?_
  exact hr5 _ _ _ hfin5 ⟨hf.kp rfl,hc⟩

def level_opened (N : Nat) (n : level_Net) : Option ((Int) ⊕ (Int × (Nat → Int) × (Nat → level_Leg) × Int)) :=
 Option.bind (level_Check N n) fun r =>
 cond (r != 0)
 (some (.inl r))
 (Option.bind (level_worked N n) fun r_1 =>
 some (.inr (r_1.1,r_1.2.1,r_1.2.2,0)))
theorem level_opened_ok {N : Nat} {G : Pers} {Lf : List Ent} {w : World} (n : level_Net) {n_Lines_p : Option Addr} {n_Lines_c : Nat} (h_n_Lines : Rd G 5 n_Lines_p n_Lines_c (n.Lines.map enc_level_Line)) (hc : Ctx G (Lf) w) {res : (Int) ⊕ (Int × (Nat → Int) × (Nat → level_Leg) × Int)} (hF : level_opened N n = some res) : Calls Try.prog 57 #[.agg #[i6 n.Marks,.slice n_Lines_p n.Lines.length n_Lines_c]] w (fun e w => sumK (fun rr => e = .returned (.tuple #[.pointer none,i6 rr]) ∧ Ctx G (Lf) w) (fun rr => ∃ (b'1 : Nat),e = .returned (.tuple #[pq b'1,i6 rr.2.2.2]) ∧ Ctx G (.box b'1 (catc [i6 rr.1,.slice n_Lines_p n.Lines.length n_Lines_c] 169 encI_i64 rr.2.1 (catc [] 169 enc_level_Leg rr.2.2.1 [])) 73::Lf) w) res) := by
 unfold level_opened at hF
 refine fnIn Try.func57 rfl Try.ntmps57 rfl fun a hf => zS fun K h => zB hf hc rfl fun b_1 a w hf hc => sp 2 hf rfl fun a hf => zT h ?_
 refine wp_seq_k fun K2 h2 => zS fun K h => zN hf hc ag_36 m0 rfl fun a w hf hc => ?_
 obtain ⟨r,hr,hF⟩ := bnd_some hF
 refine zQ (v := i6 r) hf hc en_30 rfl (fun w hc => level_Check_ok n h_n_Lines hc hr) fun a w hf hc => sp 1 hf rfl fun a hf => zT h ?_
 refine zS fun K h => sp 2 hf rfl fun a hf => zT h ?_
 refine zI hf rfl hF ?_ ?_ <;> clear hF <;> intro hF
 ·refine zS fun K h => sp 3 hf rfl fun a hf => zT h ?_
  refine wp_ret ?_
  refine xThenR ?_
  obtain rfl := sj hF
  replace hc := hc.drop k0
  exact zO2 Try.results57 hf rfl rfl ⟨rfl,hc⟩
 ·refine wp_skip ?_
  refine h2 _ _ ?_
  refine zS fun K h => zN hf hc ag_36 m0 rfl fun a w hf hc => ?_
  obtain ⟨r_1,hr_1,hF⟩ := bnd_some hF
  refine zC hf en_74 rfl (level_worked_ok n h_n_Lines hc hr_1) ?_
  rintro _ w ⟨b_2,rfl,hc⟩
  refine ⟨_,rfl,fun a hf => ?_⟩
  refine sp 2 hf rfl fun a hf => zT h ?_
  refine wp_ret ?_
  obtain rfl := sj hF
  replace hc := hc.drop k1
  exact zO2 Try.results57 hf rfl rfl ⟨b_2,rfl,hc⟩

def level_survey_open_b16 (N : Nat) (w_ : level_survey) (x : Int) (xv : level_Leg) (x_3 : Int) : Option (Step (Int) (Rs (Bool))) :=
 cond (decide (x_3 < w_.Net.Marks))
 (Option.bind (Option.bind (inR x_3 13) fun un =>
 Option.bind (inR x 13) fun un_1 =>
 cond (decide ((w_.can (x_3 * 13 + x).toNat) < 1099511627776))
 (Option.bind (level_survey_rise N w_ xv) fun r_1 =>
 Option.bind (level_survey_goal N w_ xv) fun r_2 =>
 Option.bind (inR r_2 13) fun un_2 =>
 some (decide ((W ((w_.can (x_3 * 13 + x).toNat) + r_1)) < (w_.can (x_3 * 13 + r_2).toNat))))
 (some false)) fun rg =>
 cond rg
 (some (.ret (.ret true)))
 (some (.cont (W (x_3 + 1)))))
 (some (.brk x_3))
def level_survey_open_r12 (N : Nat) (w_ : level_survey) (x : Int) (x_2 : Bool) (xv : level_Leg) : Option (Rs (Bool)) :=
 Option.bind (loopO (fun s16 => level_survey_open_b16 N w_ x xv s16) N 0) fun x16 =>
 exK x16 (fun s16 => some (.go x_2)) some
def level_survey_open_b4 (N : Nat) (w_ : level_survey) (x : Int) (x_1 : Bool) : Option (Step (Int × Bool) (Bool)) :=
 cond (decide (x < w_.Net.Marks))
 (Option.bind (level_survey_legs N w_ x) fun r =>
 Option.bind (level_survey_legs_1 N w_.Net.Marks w_.Net.Lines r (rY (fun (zz : Bool) (ix_ : level_Leg) => level_survey_open_r12 N w_ x zz ix_)) (.go x_1)) fun x12 =>
 rsK x12 (fun zz12 => Option.bind (inR x 13) fun un_3 =>
 Option.bind (inR x 13) fun un_4 =>
 cond (decide ((w_.can (x * 13 + x).toNat) < 0))
 (some (.ret true))
 (some (.cont (W (x + 1),zz12)))) (fun zz12 => none))
 (some (.brk (x,x_1)))
def level_survey_open (N : Nat) (w_ : level_survey) : Option (Bool) :=
 Option.bind (loopO (fun s4 => level_survey_open_b4 N w_ s4.1 s4.2) N (0,false)) fun x4 =>
 exK x4 (fun s4 => some false) some
theorem level_survey_open_ok {N : Nat} {G : Pers} {Lf : List Ent} {w : World} (w_ : level_survey) {b_ : Nat} {w__Net_Lines_p : Option Addr} {w__Net_Lines_c : Nat} (h_w__Net_Lines : Rd G 5 w__Net_Lines_p w__Net_Lines_c (w_.Net.Lines.map enc_level_Line)) (hc : Ctx G (.box b_ (catc [i6 w_.Net.Marks,.slice w__Net_Lines_p w_.Net.Lines.length w__Net_Lines_c] 169 encI_i64 w_.can (catc [] 169 enc_level_Leg w_.by_ [])) 73::Lf) w) {res : Bool} (hF : level_survey_open N w_ = some res) : Calls Try.prog 58 #[pq b_] w (fun e w => e = .returned (.bool res) ∧ Ctx G (.box b_ (catc [i6 w_.Net.Marks,.slice w__Net_Lines_p w_.Net.Lines.length w__Net_Lines_c] 169 encI_i64 w_.can (catc [] 169 enc_level_Leg w_.by_ [])) 73::Lf) w) := by
 unfold level_survey_open at hF
 refine fnInM Try.func58 rfl Try.ntmps58 rfl fun a hf => zS fun K h => zB hf hc rfl fun b_1 a w hf hc => zA hf hc zr_4 rfl fun b_2 a w hf hc => zT h ?_
 refine wp_seq_k fun K2 h2 => zS fun K h => zL hf hc sc_62 m1 rfl fun a w hf hc => sp 1 hf rfl fun a hf => zP hf rfl (pFA fa_73_0 rfl) fun a hf => zP hf rfl (pFA fa_36_0 rfl) fun a hf => zL hf hc sc_3 m2 rfl fun a w hf hc => sp 1 hf rfl fun a hf => zT h ?_
 refine wp_block ?_
 obtain ⟨x4,hx4,hF⟩ := bnd_some hF
 let S4 : (Int × Bool) → Act → World → Prop := (fun (zz : Int × Bool) a w => ∃ (Ds : List Nat),Has ⟨71,markL Ds⟩ a [(1,pq b_1),(2,pq b_2),(10,i6 w_.Net.Marks),(11,i6 zz.1)] ∧ Ctx G (.box b_2 [.bool zz.2] 4::.box b_1 [pq b_] 62::.box b_ (catc [i6 w_.Net.Marks,.slice w__Net_Lines_p w_.Net.Lines.length w__Net_Lines_c] 169 encI_i64 w_.can (catc [] 169 enc_level_Leg w_.by_ [])) 73::(raws Ds ++ Lf)) w)
 have hr4 : ∀ (zz : Int × Bool) a w,x4 = .go zz → S4 zz a w → K2 a w := by
  rintro ⟨x,x_1⟩ a w rfl ⟨Ds,hf,hc⟩
  replace hF := exK_go hF
  refine h2 _ _ ?_
  refine zS fun K h => zW hf hc sz_4 u0 rfl fun w hc => zT h ?_
  refine wp_ret ?_
  obtain rfl := sj hF
  replace hc := ((hc.drop k1).pick k0).pick k1
  refine outM hf ?_
  refine outML [.box b_ (catc [i6 w_.Net.Marks,.slice w__Net_Lines_p w_.Net.Lines.length w__Net_Lines_c] 169 encI_i64 w_.can (catc [] 169 enc_level_Leg w_.by_ [])) 73,.box b_2 [.bool false] 4] Ds hc fun w hc => ?_
  replace hc : Ctx G (.box b_ (catc [i6 w_.Net.Marks,.slice w__Net_Lines_p w_.Net.Lines.length w__Net_Lines_c] 169 encI_i64 w_.can (catc [] 169 enc_level_Leg w_.by_ [])) 73::.box b_2 [.bool false] 4::Lf) w := hc
  exact outM1 Try.results58 hf hc (rv_cell1 sc_4 rfl (cell_box m1 rfl)) ⟨rfl,(hc.drop k1)⟩
 have ho4 : ∀ r,x4 = .out r → r = res := by
  rintro r rfl
  exact sj hF
 replace hf := markZ hf
 replace hc : Ctx G (.box b_2 [.bool false] 4::.box b_1 [pq b_] 62::.box b_ (catc [i6 w_.Net.Marks,.slice w__Net_Lines_p w_.Net.Lines.length w__Net_Lines_c] 169 encI_i64 w_.can (catc [] 169 enc_level_Leg w_.by_ [])) 73::(raws [] ++ Lf)) w := hc
 refine cLoop N (loopW (S := S4) (x := x4) ?_ N (0,false) _ _ ⟨[],hf.kp rfl,hc⟩ hx4)
 clear hF hf hc
 rintro ⟨x,x_1⟩ st4 a w KB4 ⟨Ds,hf,hc⟩ hF hfin4 hK4
 unfold level_survey_open_b4 at hF
 refine zS fun K h => sp 1 hf rfl fun a hf => zT h ?_
 refine wp_seq_k fun K7 h7 => zI hf rfl hF ?_ ?_ <;> clear hF <;> intro hF
 ·refine wp_skip ?_
  refine h7 _ _ ?_
  refine wp_seq_k fun K8 h8 => wp_block ?_
  refine zS fun K h => sp 1 hf rfl fun a hf => zA hf hc zr_3 rfl fun b_3 a w hf hc => zW hf hc sz_3 u0 rfl fun w hc => zT h ?_
  refine wp_seq_k fun K10 h10 => zS fun K h => zL hf hc sc_62 m2 rfl fun a w hf hc => zL hf hc sc_3 m0 rfl fun a w hf hc => ?_
  obtain ⟨r,hr,hF⟩ := bnd_some hF
  refine zC hf en_75 rfl (level_survey_legs_ok w_ x h_w__Net_Lines (hc.pick k3) hr) ?_
  rintro _ w ⟨b_4,b_5,rfl,hc⟩
  refine ⟨_,rfl,fun a hf => ?_⟩
  refine zT h ?_
  obtain ⟨x12,hx12,hF⟩ := bnd_some hF
  refine cRangeV (C := [.box b_4 [pq b_] 62,.box b_5 [i6 r] 3]) (C2 := [.box b_4 [pq b_] 62,.box b_5 [i6 r] 3]) (L0 := [.box b_ (catc [i6 w_.Net.Marks,.slice w__Net_Lines_p w_.Net.Lines.length w__Net_Lines_c] 169 encI_i64 w_.can (catc [] 169 enc_level_Leg w_.by_ [])) 73,.box b_3 [i6 x] 3,.box b_2 [.bool x_1] 4,.box b_1 [pq b_] 62]) (Lf := (raws Ds ++ Lf)) (encs := fun x : level_Leg => [.agg #[i6 x.Line,.bool x.Back]]) (fun (zz : Bool) L => L = [.box b_ (catc [i6 w_.Net.Marks,.slice w__Net_Lines_p w_.Net.Lines.length w__Net_Lines_c] 169 encI_i64 w_.can (catc [] 169 enc_level_Leg w_.by_ [])) 73,.box b_3 [i6 x] 3,.box b_2 [.bool zz] 4,.box b_1 [pq b_] 62]) (fun (zz : Bool) (ix_ : level_Leg) => level_survey_open_r12 N w_ x zz ix_) x_1 x12 hf hc rfl en_86 (fun _ => rfl) rfl rfl ?_ ?_ ?_ ?_
  ·intro lq mq J L Lx w hy hQ hJ hc
   have hje_ : ∀ (zz : Bool) (M : List Ent),(fun (zz : Bool) L => L = [.box b_ (catc [i6 w_.Net.Marks,.slice w__Net_Lines_p w_.Net.Lines.length w__Net_Lines_c] 169 encI_i64 w_.can (catc [] 169 enc_level_Leg w_.by_ [])) 73,.box b_3 [i6 x] 3,.box b_2 [.bool zz] 4,.box b_1 [pq b_] 62]) zz M → ∃ A B,∃ xx : (Nat → Int) × (Nat → level_Leg),M = A ++ (.box b_ (catc [i6 w_.Net.Marks,.slice w__Net_Lines_p w_.Net.Lines.length w__Net_Lines_c] 169 encI_i64 xx.1 (catc [] 169 enc_level_Leg xx.2 [])) 73::B) := by
    rintro x_2 _ ⟨rfl⟩
    exact ⟨[],_,(w_.can,w_.by_),rfl⟩
   exact level_survey_legs_1_ok w_.Net.Marks w_.Net.Lines r h_w__Net_Lines J _ hy _ hJ (hQ _ (fun xx : (Nat → Int) × (Nat → level_Leg) => .box b_ (catc [i6 w_.Net.Marks,.slice w__Net_Lines_p w_.Net.Lines.length w__Net_Lines_c] 169 encI_i64 xx.1 (catc [] 169 enc_level_Leg xx.2 [])) 73) hje_) hc hx12
  ·clear hF hf hc
   rintro lq mq x_2 xv oq _ Lr Lb a w hK0 rfl hF hf hc hK
   replace hf : Has 71 a [(1,pq b_1),(2,pq b_2),(3,pq b_3),(10,i6 w_.Net.Marks),(11,i6 x),(17,.agg #[i6 xv.Line,.bool xv.Back])] := hf.kp rfl
   replace hc : Ctx G (.box b_ (catc [i6 w_.Net.Marks,.slice w__Net_Lines_p w_.Net.Lines.length w__Net_Lines_c] 169 encI_i64 w_.can (catc [] 169 enc_level_Leg w_.by_ [])) 73::.box b_3 [i6 x] 3::.box b_2 [.bool x_2] 4::.box b_1 [pq b_] 62::Lr) w := hc
   replace hF : level_survey_open_r12 N w_ x x_2 xv = some oq := hF
   unfold level_survey_open_r12 at hF
   refine rReg (fun _ _ h => h) rfl ?_
   refine zA hf hc zr_69 rfl fun b_6 a w hf hc => zW hf hc sz_69 u0 rfl fun w hc => cNil ?_
   refine hK _ _ [.box b_6 [i6 xv.Line,.bool xv.Back] 69,.box b_ (catc [i6 w_.Net.Marks,.slice w__Net_Lines_p w_.Net.Lines.length w__Net_Lines_c] 169 encI_i64 w_.can (catc [] 169 enc_level_Leg w_.by_ [])) 73,.box b_3 [i6 x] 3,.box b_2 [.bool x_2] 4,.box b_1 [pq b_] 62] hc fun w hc => ?_
   replace hc : Ctx G (.box b_6 [i6 xv.Line,.bool xv.Back] 69::.box b_ (catc [i6 w_.Net.Marks,.slice w__Net_Lines_p w_.Net.Lines.length w__Net_Lines_c] 169 encI_i64 w_.can (catc [] 169 enc_level_Leg w_.by_ [])) 73::.box b_3 [i6 x] 3::.box b_2 [.bool x_2] 4::.box b_1 [pq b_] 62::Lb) w := hc
   refine rThenK fun K13 h13 => rBlock ?_
   refine rSeq fun K14 h14 => rReg (fun _ _ h => h) rfl ?_
   refine zL hf hc sc_62 m4 rfl fun a w hf hc => sp 1 hf rfl fun a hf => zP hf rfl (pFA fa_73_0 rfl) fun a hf => zP hf rfl (pFA fa_36_0 rfl) fun a hf => zL hf hc sc_3 m1 rfl fun a w hf hc => sp 1 hf rfl fun a hf => cNil ?_
   refine h14 _ _ ?_
   refine rThenK fun K15 h15 => rBlock ?_
   obtain ⟨x16,hx16,hF⟩ := bnd_some hF
   let S16 : Int → Act → World → Prop := (fun (zz : Int) a w => Has 71 a [(1,pq b_1),(2,pq b_2),(3,pq b_3),(4,pq b_6),(10,i6 w_.Net.Marks),(11,i6 x),(22,i6 w_.Net.Marks),(23,i6 zz)] ∧ Ctx G (.box b_6 [i6 xv.Line,.bool xv.Back] 69::.box b_ (catc [i6 w_.Net.Marks,.slice w__Net_Lines_p w_.Net.Lines.length w__Net_Lines_c] 169 encI_i64 w_.can (catc [] 169 enc_level_Leg w_.by_ [])) 73::.box b_3 [i6 x] 3::.box b_2 [.bool x_2] 4::.box b_1 [pq b_] 62::Lb) w)
   have hr16 : ∀ (zz : Int) a w,x16 = .go zz → S16 zz a w → K15 a w := by
    rintro x_3 a w rfl ⟨hf,hc⟩
    replace hF := exK_go hF
    refine h15 _ _ ?_
    refine h13 _ _ ?_
    replace hc := hc.drop k0
    exact ⟨x_2,_,(sj hF).symm,rfl,hc⟩
   have ho16 : ∀ r,x16 = .out r → r = oq := by
    rintro r rfl
    exact sj hF
   refine rLoop N (loopR (S := S16) (x := x16) ?_ N 0 _ _ ⟨hf.kp rfl,hc⟩ hx16)
   clear hF hf hc
   rintro x_3 st16 a w KB16 ⟨hf,hc⟩ hF hfin16 hK16
   unfold level_survey_open_b16 at hF
   refine rSeq fun K17 h17 => rReg (fun _ _ h => h) rfl ?_
   refine sp 1 hf rfl fun a hf => cNil ?_
   refine h17 _ _ ?_
   refine rSeq fun K18 h18 => rCond (b := (decide (x_3 < w_.Net.Marks))) hf rfl (fun hb => ?_) (fun hb => ?_)
   ·replace hF := condT hb hF
    clear hb
    refine rSkip ?_
    refine h18 _ _ ?_
    refine rSeq fun K19 h19 => rBlock ?_
    refine rSeq fun K20 h20 => rReg (fun _ _ h => h) rfl ?_
    refine sp 2 hf rfl fun a hf => cNil ?_
    refine h20 _ _ ?_
    refine rSeq fun K21 h21 => ?_
    obtain ⟨rg,hrg,hF⟩ := bnd_some hF
    refine rCut (fun a w => Has 71 a [(1,pq b_1),(2,pq b_2),(3,pq b_3),(4,pq b_6),(10,i6 w_.Net.Marks),(11,i6 x),(22,i6 w_.Net.Marks),(23,i6 x_3),(59,.bool rg)] ∧ Ctx G (.box b_6 [i6 xv.Line,.bool xv.Back] 69::.box b_ (catc [i6 w_.Net.Marks,.slice w__Net_Lines_p w_.Net.Lines.length w__Net_Lines_c] 169 encI_i64 w_.can (catc [] 169 enc_level_Leg w_.by_ [])) 73::.box b_3 [i6 x] 3::.box b_2 [.bool x_2] 4::.box b_1 [pq b_] 62::Lb) w) ?_ ?_
    ·clear hF
     have hF := hrg
     clear hrg
     obtain ⟨un,hun,hF⟩ := bnd_some hF
     obtain ⟨un_1,hun_1,hF⟩ := bnd_some hF
     cases hb : (decide ((w_.can (x_3 * 13 + x).toNat) < 1099511627776))
     ·replace hF := condF hb hF
      try rw [hb] at hf
      try rw [hb] at hc
      have hb6 := hb
      clear hb
      refine rRegE (fun _ _ h => h) rfl (fun θ => (⟨none,none,1,pq b_1⟩::⟨none,none,2,pq b_2⟩::⟨none,none,3,pq b_3⟩::⟨none,none,4,pq b_6⟩::⟨none,none,5,i6 x_3⟩::⟨none,none,10,i6 w_.Net.Marks⟩::⟨none,none,11,i6 x⟩::⟨none,none,22,i6 w_.Net.Marks⟩::⟨none,none,23,i6 x_3⟩::⟨some 0,none,26,pq b_⟩::⟨some 1,none,27,i6 x_3⟩::⟨some 2,none,28,i6 x⟩::⟨some 3,none,29,pq b_⟩::⟨some 4,none,30,.pointer (some ⟨b_,2,none⟩)⟩::⟨some 5,none,31,.pointer (some ⟨b_,2 + x_3.toNat * 13,none⟩)⟩::⟨some 6,none,32,.pointer (some ⟨b_,2 + (x_3 * 13 + x).toNat * 1,none⟩)⟩::⟨some 7,none,33,i6 (w_.can (x_3 * 13 + x).toNat)⟩::⟨some 8,none,34,.bool false⟩::⟨some 9,none,35,.bool false⟩::⟨some 10,none,36,undef⟩::⟨some 11,none,37,undef⟩::⟨some 12,none,38,undef⟩::⟨some 13,none,39,undef⟩::⟨some 14,none,40,undef⟩::⟨some 15,none,41,undef⟩::⟨some 16,none,42,undef⟩::⟨some 17,none,43,undef⟩::⟨some 18,none,44,undef⟩::⟨some 19,none,45,undef⟩::⟨some 20,none,46,undef⟩::⟨some 21,none,47,undef⟩::⟨some 22,none,48,undef⟩::⟨some 23,none,49,undef⟩::⟨some 24,none,50,undef⟩::⟨some 25,none,51,undef⟩::⟨some 26,none,52,undef⟩::⟨some 27,none,53,undef⟩::⟨some 28,none,54,undef⟩::⟨some 29,none,55,undef⟩::⟨some 30,none,56,undef⟩::⟨some 31,none,57,undef⟩::⟨some 32,none,58,undef⟩::⟨some 33,none,59,.bool false⟩::[])) (fun E θ => .box b_6 [i6 xv.Line,.bool xv.Back] 69::.box b_ (catc [i6 w_.Net.Marks,.slice w__Net_Lines_p w_.Net.Lines.length w__Net_Lines_c] 169 encI_i64 w_.can (catc [] 169 enc_level_Leg w_.by_ [])) 73::.box b_3 [i6 x] 3::.box b_2 [.bool x_2] 4::.box b_1 [pq b_] 62::Lb) [] (fun a w => Has 71 a ((1,pq b_1)::(2,pq b_2)::(3,pq b_3)::(4,pq b_6)::(10,i6 w_.Net.Marks)::(11,i6 x)::(22,i6 w_.Net.Marks)::(23,i6 x_3)::(36,undef)::(37,undef)::(38,undef)::(39,undef)::(40,undef)::(41,undef)::(42,undef)::(43,undef)::(44,undef)::(45,undef)::(46,undef)::(47,undef)::(48,undef)::(49,undef)::(50,undef)::(51,undef)::(52,undef)::(53,undef)::(54,undef)::(55,undef)::(56,undef)::(57,undef)::(58,undef)::(59,.bool false)::[]) ∧ Ctx G (.box b_6 [i6 xv.Line,.bool xv.Back] 69::.box b_ (catc [i6 w_.Net.Marks,.slice w__Net_Lines_p w_.Net.Lines.length w__Net_Lines_c] 169 encI_i64 w_.can (catc [] 169 enc_level_Leg w_.by_ [])) 73::.box b_3 [i6 x] 3::.box b_2 [.bool x_2] 4::.box b_1 [pq b_] 62::Lb) w) follows_mx (by kernel_rfl) (by kernel_rfl) (HasE.of hf ⟨rfl,rfl,rfl,rfl,rfl,rfl,rfl,rfl,rfl,trivial,trivial,trivial,trivial,trivial,trivial,trivial,trivial,trivial,trivial,trivial,trivial,trivial,trivial,trivial,trivial,trivial,trivial,trivial,trivial,trivial,trivial,trivial,trivial,trivial,trivial,trivial,trivial,trivial,trivial,trivial,trivial,trivial,trivial,trivial⟩) hc ⟨?_,?_,?_,?_,?_,?_,?_,?_,?_,?_,?_,?_,?_,?_,?_,?_,?_,?_,?_,?_,?_,?_,?_,?_,?_,?_,?_,?_,?_,?_,?_,?_,?_,?_,trivial⟩ ?_ ?_
      ·intro E θ a w hD hi hp he hc
       have hf := he.h0.mT he 0 rfl
       refine zL hf hc sc_62 m4 rfl fun a w hf hc => zD θ he hi hf 9 rfl rfl rfl hc
      ·intro E θ a w hD hi hp he hc
       have hf := he.h0.mT he 4 rfl
       refine sp 1 hf rfl fun a hf => zD θ he hi hf 10 rfl rfl rfl hc
      ·intro E θ a w hD hi hp he hc
       have hf := he.h0.mT he 2 rfl
       refine zL hf hc sc_3 m2 rfl fun a w hf hc => zD θ he hi hf 11 rfl rfl rfl hc
      ·intro E θ a w hD hi hp he hc
       have e0 := hp.o 0 rfl
       have hf := he.h0.mP he 9 rfl e0
       refine sp 1 hf rfl fun a hf => zD θ he hi hf 12 rfl rfl rfl hc
      ·intro E θ a w hD hi hp he hc
       have e3 := hp.o 3 rfl
       have hf := he.h0.mP he 12 rfl e3
       refine zP hf rfl (pFA fa_73_1 rfl) fun a hf => zD θ he hi hf 13 rfl rfl rfl hc
      ·intro E θ a w hD hi hp he hc
       have e1 := hp.o 1 rfl
       have e4 := hp.o 4 rfl
       have hf := (he.h0.mP he 10 rfl e1).mP he 13 rfl e4
       refine zP hf rfl (pIAA Try.underlying67 sz_65 rfl rfl (inR_spec hun).1 (inR_spec hun).2) fun a hf => zD θ he hi hf 14 rfl rfl rfl hc
      ·intro E θ a w hD hi hp he hc
       have e2 := hp.o 2 rfl
       have e5 := hp.o 5 rfl
       have hf := (he.h0.mP he 11 rfl e2).mP he 14 rfl e5
       refine zP hf rfl (Pu.cast (pIAA Try.underlying65 sz_3 rfl rfl (inR_spec hun_1).1 (inR_spec hun_1).2) (congrArg (fun k => Value.pointer (some ⟨b_,k,none⟩)) (flat_off (M := 13) (2) hun hun_1 rfl))) fun a hf => zD θ he hi hf 15 rfl rfl rfl hc
      ·intro E θ a w hD hi hp he hc
       have e6 := hp.o 6 rfl
       have hf := he.h0.mP he 15 rfl e6
       refine zE hf hc rfl (eLd1 sc_3 rfl (cell_arr (j := 0) m1 (fun x => (one_encI_i64 x).1) rfl (inR2 hun hun_1 rfl) rfl)) fun a w hf hc => zD θ he hi hf 16 rfl rfl rfl hc
      ·intro E θ a w hD hi hp he hc
       have e7 := hp.o 7 rfl
       have hf := he.h0.mP he 16 rfl e7
       refine sp 1 hf rfl fun a hf => ?_
       rw [hb6] at hf
       exact zD θ he hi hf 17 rfl rfl rfl hc
      ·intro E θ a w hD hi hp he hc
       have e8 := hp.o 8 rfl
       have hf := he.h0.mP he 17 rfl e8
       refine sp 1 hf rfl fun a hf => zD θ he hi hf 18 rfl rfl rfl hc
      ·intro E θ a w hD hi hp he hc
       have e9 := hp.o 9 rfl
       have hf := (he.h0.mT he 0 rfl).mP he 18 rfl e9
       refine stS hf rfl rfl rfl fun a hf => zD θ he hi hf 19 rfl rfl rfl hc
      ·intro E θ a w hD hi hp he hc
       have e9 := hp.o 9 rfl
       have hf := (he.h0.mT he 4 rfl).mP he 18 rfl e9
       refine stS hf rfl rfl rfl fun a hf => zD θ he hi hf 20 rfl rfl rfl hc
      ·intro E θ a w hD hi hp he hc
       have e9 := hp.o 9 rfl
       have hf := (he.h0.mT he 2 rfl).mP he 18 rfl e9
       refine stS hf rfl rfl rfl fun a hf => zD θ he hi hf 21 rfl rfl rfl hc
      ·intro E θ a w hD hi hp he hc
       have e9 := hp.o 9 rfl
       have e10 := hp.o 10 rfl
       have hf := (he.h0.mP he 18 rfl e9).mP he 19 rfl e10
       refine stS hf rfl rfl rfl fun a hf => zD θ he hi hf 22 rfl rfl rfl hc
      ·intro E θ a w hD hi hp he hc
       have e9 := hp.o 9 rfl
       have e13 := hp.o 13 rfl
       have hf := (he.h0.mP he 18 rfl e9).mP he 22 rfl e13
       refine stS hf rfl rfl rfl fun a hf => zD θ he hi hf 23 rfl rfl rfl hc
      ·intro E θ a w hD hi hp he hc
       have e9 := hp.o 9 rfl
       have e11 := hp.o 11 rfl
       have e14 := hp.o 14 rfl
       have hf := ((he.h0.mP he 18 rfl e9).mP he 20 rfl e11).mP he 23 rfl e14
       refine stS hf rfl rfl rfl fun a hf => zD θ he hi hf 24 rfl rfl rfl hc
      ·intro E θ a w hD hi hp he hc
       have e9 := hp.o 9 rfl
       have e12 := hp.o 12 rfl
       have e15 := hp.o 15 rfl
       have hf := ((he.h0.mP he 18 rfl e9).mP he 21 rfl e12).mP he 24 rfl e15
       refine stS hf rfl rfl rfl fun a hf => zD θ he hi hf 25 rfl rfl rfl hc
      ·intro E θ a w hD hi hp he hc
       have e9 := hp.o 9 rfl
       have e16 := hp.o 16 rfl
       have hf := (he.h0.mP he 18 rfl e9).mP he 25 rfl e16
       refine stS hf rfl rfl rfl fun a hf => zD θ he hi hf 26 rfl rfl rfl hc
      ·intro E θ a w hD hi hp he hc
       have e9 := hp.o 9 rfl
       have hf := (he.h0.mT he 0 rfl).mP he 18 rfl e9
       refine stS hf rfl rfl rfl fun a hf => zD θ he hi hf 27 rfl rfl rfl hc
      ·intro E θ a w hD hi hp he hc
       have e9 := hp.o 9 rfl
       have hf := (he.h0.mT he 3 rfl).mP he 18 rfl e9
       refine stS hf rfl rfl rfl fun a hf => zD θ he hi hf 28 rfl rfl rfl hc
      ·intro E θ a w hD hi hp he hc
       have e9 := hp.o 9 rfl
       have e18 := hp.o 18 rfl
       have e19 := hp.o 19 rfl
       have hf := ((he.h0.mP he 18 rfl e9).mP he 27 rfl e18).mP he 28 rfl e19
       refine stS hf rfl rfl rfl fun a hf => zD θ he hi hf 29 rfl rfl rfl hc
      ·intro E θ a w hD hi hp he hc
       have e9 := hp.o 9 rfl
       have e17 := hp.o 17 rfl
       have e20 := hp.o 20 rfl
       have hf := ((he.h0.mP he 18 rfl e9).mP he 26 rfl e17).mP he 29 rfl e20
       refine stS hf rfl rfl rfl fun a hf => zD θ he hi hf 30 rfl rfl rfl hc
      ·intro E θ a w hD hi hp he hc
       have e9 := hp.o 9 rfl
       have hf := (he.h0.mT he 0 rfl).mP he 18 rfl e9
       refine stS hf rfl rfl rfl fun a hf => zD θ he hi hf 31 rfl rfl rfl hc
      ·intro E θ a w hD hi hp he hc
       have e9 := hp.o 9 rfl
       have hf := (he.h0.mT he 4 rfl).mP he 18 rfl e9
       refine stS hf rfl rfl rfl fun a hf => zD θ he hi hf 32 rfl rfl rfl hc
      ·intro E θ a w hD hi hp he hc
       have e9 := hp.o 9 rfl
       have hf := (he.h0.mT he 0 rfl).mP he 18 rfl e9
       refine stS hf rfl rfl rfl fun a hf => zD θ he hi hf 33 rfl rfl rfl hc
      ·intro E θ a w hD hi hp he hc
       have e9 := hp.o 9 rfl
       have hf := (he.h0.mT he 3 rfl).mP he 18 rfl e9
       refine stS hf rfl rfl rfl fun a hf => zD θ he hi hf 34 rfl rfl rfl hc
      ·intro E θ a w hD hi hp he hc
       have e9 := hp.o 9 rfl
       have e24 := hp.o 24 rfl
       have e25 := hp.o 25 rfl
       have hf := ((he.h0.mP he 18 rfl e9).mP he 33 rfl e24).mP he 34 rfl e25
       refine stS hf rfl rfl rfl fun a hf => zD θ he hi hf 35 rfl rfl rfl hc
      ·intro E θ a w hD hi hp he hc
       have e9 := hp.o 9 rfl
       have e22 := hp.o 22 rfl
       have hf := (he.h0.mP he 18 rfl e9).mP he 31 rfl e22
       refine stS hf rfl rfl rfl fun a hf => zD θ he hi hf 36 rfl rfl rfl hc
      ·intro E θ a w hD hi hp he hc
       have e9 := hp.o 9 rfl
       have e27 := hp.o 27 rfl
       have hf := (he.h0.mP he 18 rfl e9).mP he 36 rfl e27
       refine stS hf rfl rfl rfl fun a hf => zD θ he hi hf 37 rfl rfl rfl hc
      ·intro E θ a w hD hi hp he hc
       have e9 := hp.o 9 rfl
       have e23 := hp.o 23 rfl
       have e28 := hp.o 28 rfl
       have hf := ((he.h0.mP he 18 rfl e9).mP he 32 rfl e23).mP he 37 rfl e28
       refine stS hf rfl rfl rfl fun a hf => zD θ he hi hf 38 rfl rfl rfl hc
      ·intro E θ a w hD hi hp he hc
       have e9 := hp.o 9 rfl
       have e26 := hp.o 26 rfl
       have e29 := hp.o 29 rfl
       have hf := ((he.h0.mP he 18 rfl e9).mP he 35 rfl e26).mP he 38 rfl e29
       refine stS hf rfl rfl rfl fun a hf => zD θ he hi hf 39 rfl rfl rfl hc
      ·intro E θ a w hD hi hp he hc
       have e9 := hp.o 9 rfl
       have e30 := hp.o 30 rfl
       have hf := (he.h0.mP he 18 rfl e9).mP he 39 rfl e30
       refine stS hf rfl rfl rfl fun a hf => zD θ he hi hf 40 rfl rfl rfl hc
      ·intro E θ a w hD hi hp he hc
       have e9 := hp.o 9 rfl
       have e21 := hp.o 21 rfl
       have e31 := hp.o 31 rfl
       have hf := ((he.h0.mP he 18 rfl e9).mP he 30 rfl e21).mP he 40 rfl e31
       refine stS hf rfl rfl rfl fun a hf => zD θ he hi hf 41 rfl rfl rfl hc
      ·intro E θ a w hD hi hp he hc
       have e9 := hp.o 9 rfl
       have e32 := hp.o 32 rfl
       have hf := (he.h0.mP he 18 rfl e9).mP he 41 rfl e32
       refine sp 1 hf rfl fun a hf => zD θ he hi hf 42 rfl rfl rfl hc
      ·intro E θ a w hall he hc
       have hf := he.h0
       have e10 := hall 10 rfl
       have e11 := hall 11 rfl
       have e12 := hall 12 rfl
       have e13 := hall 13 rfl
       have e14 := hall 14 rfl
       have e15 := hall 15 rfl
       have e16 := hall 16 rfl
       have e17 := hall 17 rfl
       have e18 := hall 18 rfl
       have e19 := hall 19 rfl
       have e20 := hall 20 rfl
       have e21 := hall 21 rfl
       have e22 := hall 22 rfl
       have e23 := hall 23 rfl
       have e24 := hall 24 rfl
       have e25 := hall 25 rfl
       have e26 := hall 26 rfl
       have e27 := hall 27 rfl
       have e28 := hall 28 rfl
       have e29 := hall 29 rfl
       have e30 := hall 30 rfl
       have e31 := hall 31 rfl
       have e32 := hall 32 rfl
       have e33 := hall 33 rfl
       replace hf := hf.more he 42 rfl (onP e33)
       replace hf := hf.more he 41 rfl (onP e32)
       replace hf := hf.more he 40 rfl (onP e31)
       replace hf := hf.more he 39 rfl (onP e30)
       replace hf := hf.more he 38 rfl (onP e29)
       replace hf := hf.more he 37 rfl (onP e28)
       replace hf := hf.more he 36 rfl (onP e27)
       replace hf := hf.more he 35 rfl (onP e26)
       replace hf := hf.more he 34 rfl (onP e25)
       replace hf := hf.more he 33 rfl (onP e24)
       replace hf := hf.more he 32 rfl (onP e23)
       replace hf := hf.more he 31 rfl (onP e22)
       replace hf := hf.more he 30 rfl (onP e21)
       replace hf := hf.more he 29 rfl (onP e20)
       replace hf := hf.more he 28 rfl (onP e19)
       replace hf := hf.more he 27 rfl (onP e18)
       replace hf := hf.more he 26 rfl (onP e17)
       replace hf := hf.more he 25 rfl (onP e16)
       replace hf := hf.more he 24 rfl (onP e15)
       replace hf := hf.more he 23 rfl (onP e14)
       replace hf := hf.more he 22 rfl (onP e13)
       replace hf := hf.more he 21 rfl (onP e12)
       replace hf := hf.more he 20 rfl (onP e11)
       replace hf := hf.more he 19 rfl (onP e10)
       replace hf := hf.more he 8 rfl (onT)
       replace hf := hf.more he 7 rfl (onT)
       replace hf := hf.more he 6 rfl (onT)
       replace hf := hf.more he 5 rfl (onT)
       replace hf := hf.more he 3 rfl (onT)
       replace hf := hf.more he 2 rfl (onT)
       replace hf := hf.more he 1 rfl (onT)
       replace hf := hf.more he 0 rfl (onT)
       exact ⟨hf.kp rfl,hc⟩
      rintro a w ⟨hf,hc⟩
      refine xThenN ?_
      obtain rfl := sj hF
      exact ⟨hf.kp rfl,hc⟩
     ·replace hF := condT hb hF
      try rw [hb] at hf
      try rw [hb] at hc
      have hb6 := hb
      clear hb
      obtain ⟨r_1,hr_1,hF⟩ := bnd_some hF
      obtain ⟨r_2,hr_2,hF⟩ := bnd_some hF
      obtain ⟨un_2,hun_2,hF⟩ := bnd_some hF
      refine rRegE (fun _ _ h => h) rfl (fun θ => (⟨none,none,1,pq b_1⟩::⟨none,none,2,pq b_2⟩::⟨none,none,3,pq b_3⟩::⟨none,none,4,pq b_6⟩::⟨none,none,5,i6 x_3⟩::⟨none,none,10,i6 w_.Net.Marks⟩::⟨none,none,11,i6 x⟩::⟨none,none,22,i6 w_.Net.Marks⟩::⟨none,none,23,i6 x_3⟩::⟨some 0,none,26,pq b_⟩::⟨some 1,none,27,i6 x_3⟩::⟨some 2,none,28,i6 x⟩::⟨some 3,none,29,pq b_⟩::⟨some 4,none,30,.pointer (some ⟨b_,2,none⟩)⟩::⟨some 5,none,31,.pointer (some ⟨b_,2 + x_3.toNat * 13,none⟩)⟩::⟨some 6,none,32,.pointer (some ⟨b_,2 + (x_3 * 13 + x).toNat * 1,none⟩)⟩::⟨some 7,none,33,i6 (w_.can (x_3 * 13 + x).toNat)⟩::⟨some 8,none,34,.bool true⟩::⟨some 9,none,35,.bool true⟩::⟨some 10,none,36,pq b_⟩::⟨some 11,none,37,i6 x_3⟩::⟨some 12,none,38,i6 x⟩::⟨some 13,none,39,pq b_⟩::⟨some 14,none,40,.pointer (some ⟨b_,2,none⟩)⟩::⟨some 15,none,41,.pointer (some ⟨b_,2 + x_3.toNat * 13,none⟩)⟩::⟨some 16,none,42,.pointer (some ⟨b_,2 + (x_3 * 13 + x).toNat * 1,none⟩)⟩::⟨some 17,none,43,i6 (w_.can (x_3 * 13 + x).toNat)⟩::⟨some 18,none,44,pq b_⟩::⟨some 19,none,45,.agg #[i6 xv.Line,.bool xv.Back]⟩::⟨some 20,none,46,i6 r_1⟩::⟨some 21,none,47,i6 (W ((w_.can (x_3 * 13 + x).toNat) + r_1))⟩::⟨some 22,none,48,pq b_⟩::⟨some 23,none,49,i6 x_3⟩::⟨some 24,none,50,pq b_⟩::⟨some 25,none,51,.agg #[i6 xv.Line,.bool xv.Back]⟩::⟨some 26,none,52,i6 r_2⟩::⟨some 27,none,53,pq b_⟩::⟨some 28,none,54,.pointer (some ⟨b_,2,none⟩)⟩::⟨some 29,none,55,.pointer (some ⟨b_,2 + x_3.toNat * 13,none⟩)⟩::⟨some 30,none,56,.pointer (some ⟨b_,2 + (x_3 * 13 + r_2).toNat * 1,none⟩)⟩::⟨some 31,none,57,i6 (w_.can (x_3 * 13 + r_2).toNat)⟩::⟨some 32,none,58,.bool (decide ((W ((w_.can (x_3 * 13 + x).toNat) + r_1)) < (w_.can (x_3 * 13 + r_2).toNat)))⟩::⟨some 33,none,59,.bool (decide ((W ((w_.can (x_3 * 13 + x).toNat) + r_1)) < (w_.can (x_3 * 13 + r_2).toNat)))⟩::[])) (fun E θ => .box b_6 [i6 xv.Line,.bool xv.Back] 69::.box b_ (catc [i6 w_.Net.Marks,.slice w__Net_Lines_p w_.Net.Lines.length w__Net_Lines_c] 169 encI_i64 w_.can (catc [] 169 enc_level_Leg w_.by_ [])) 73::.box b_3 [i6 x] 3::.box b_2 [.bool x_2] 4::.box b_1 [pq b_] 62::Lb) [] (fun a w => Has 71 a ((1,pq b_1)::(2,pq b_2)::(3,pq b_3)::(4,pq b_6)::(10,i6 w_.Net.Marks)::(11,i6 x)::(22,i6 w_.Net.Marks)::(23,i6 x_3)::(36,pq b_)::(37,i6 x_3)::(38,i6 x)::(39,pq b_)::(40,.pointer (some ⟨b_,2,none⟩))::(41,.pointer (some ⟨b_,2 + x_3.toNat * 13,none⟩))::(42,.pointer (some ⟨b_,2 + (x_3 * 13 + x).toNat * 1,none⟩))::(43,i6 (w_.can (x_3 * 13 + x).toNat))::(44,pq b_)::(45,.agg #[i6 xv.Line,.bool xv.Back])::(46,i6 r_1)::(47,i6 (W ((w_.can (x_3 * 13 + x).toNat) + r_1)))::(48,pq b_)::(49,i6 x_3)::(50,pq b_)::(51,.agg #[i6 xv.Line,.bool xv.Back])::(52,i6 r_2)::(53,pq b_)::(54,.pointer (some ⟨b_,2,none⟩))::(55,.pointer (some ⟨b_,2 + x_3.toNat * 13,none⟩))::(56,.pointer (some ⟨b_,2 + (x_3 * 13 + r_2).toNat * 1,none⟩))::(57,i6 (w_.can (x_3 * 13 + r_2).toNat))::(58,.bool (decide ((W ((w_.can (x_3 * 13 + x).toNat) + r_1)) < (w_.can (x_3 * 13 + r_2).toNat))))::(59,.bool (decide ((W ((w_.can (x_3 * 13 + x).toNat) + r_1)) < (w_.can (x_3 * 13 + r_2).toNat))))::[]) ∧ Ctx G (.box b_6 [i6 xv.Line,.bool xv.Back] 69::.box b_ (catc [i6 w_.Net.Marks,.slice w__Net_Lines_p w_.Net.Lines.length w__Net_Lines_c] 169 encI_i64 w_.can (catc [] 169 enc_level_Leg w_.by_ [])) 73::.box b_3 [i6 x] 3::.box b_2 [.bool x_2] 4::.box b_1 [pq b_] 62::Lb) w) follows_mx (by kernel_rfl) (by kernel_rfl) (HasE.of hf ⟨rfl,rfl,rfl,rfl,rfl,rfl,rfl,rfl,rfl,trivial,trivial,trivial,trivial,trivial,trivial,trivial,trivial,trivial,trivial,trivial,trivial,trivial,trivial,trivial,trivial,trivial,trivial,trivial,trivial,trivial,trivial,trivial,trivial,trivial,trivial,trivial,trivial,trivial,trivial,trivial,trivial,trivial,trivial,trivial⟩) hc ⟨?_,?_,?_,?_,?_,?_,?_,?_,?_,?_,?_,?_,?_,?_,?_,?_,?_,?_,?_,?_,?_,?_,?_,?_,?_,?_,?_,?_,?_,?_,?_,?_,?_,?_,trivial⟩ ?_ ?_
      ·intro E θ a w hD hi hp he hc
       have hf := he.h0.mT he 0 rfl
       refine zL hf hc sc_62 m4 rfl fun a w hf hc => zD θ he hi hf 9 rfl rfl rfl hc
      ·intro E θ a w hD hi hp he hc
       have hf := he.h0.mT he 4 rfl
       refine sp 1 hf rfl fun a hf => zD θ he hi hf 10 rfl rfl rfl hc
      ·intro E θ a w hD hi hp he hc
       have hf := he.h0.mT he 2 rfl
       refine zL hf hc sc_3 m2 rfl fun a w hf hc => zD θ he hi hf 11 rfl rfl rfl hc
      ·intro E θ a w hD hi hp he hc
       have e0 := hp.o 0 rfl
       have hf := he.h0.mP he 9 rfl e0
       refine sp 1 hf rfl fun a hf => zD θ he hi hf 12 rfl rfl rfl hc
      ·intro E θ a w hD hi hp he hc
       have e3 := hp.o 3 rfl
       have hf := he.h0.mP he 12 rfl e3
       refine zP hf rfl (pFA fa_73_1 rfl) fun a hf => zD θ he hi hf 13 rfl rfl rfl hc
      ·intro E θ a w hD hi hp he hc
       have e1 := hp.o 1 rfl
       have e4 := hp.o 4 rfl
       have hf := (he.h0.mP he 10 rfl e1).mP he 13 rfl e4
       refine zP hf rfl (pIAA Try.underlying67 sz_65 rfl rfl (inR_spec hun).1 (inR_spec hun).2) fun a hf => zD θ he hi hf 14 rfl rfl rfl hc
      ·intro E θ a w hD hi hp he hc
       have e2 := hp.o 2 rfl
       have e5 := hp.o 5 rfl
       have hf := (he.h0.mP he 11 rfl e2).mP he 14 rfl e5
       refine zP hf rfl (Pu.cast (pIAA Try.underlying65 sz_3 rfl rfl (inR_spec hun_1).1 (inR_spec hun_1).2) (congrArg (fun k => Value.pointer (some ⟨b_,k,none⟩)) (flat_off (M := 13) (2) hun hun_1 rfl))) fun a hf => zD θ he hi hf 15 rfl rfl rfl hc
      ·intro E θ a w hD hi hp he hc
       have e6 := hp.o 6 rfl
       have hf := he.h0.mP he 15 rfl e6
       refine zE hf hc rfl (eLd1 sc_3 rfl (cell_arr (j := 0) m1 (fun x => (one_encI_i64 x).1) rfl (inR2 hun hun_1 rfl) rfl)) fun a w hf hc => zD θ he hi hf 16 rfl rfl rfl hc
      ·intro E θ a w hD hi hp he hc
       have e7 := hp.o 7 rfl
       have hf := he.h0.mP he 16 rfl e7
       refine sp 1 hf rfl fun a hf => ?_
       rw [hb6] at hf
       exact zD θ he hi hf 17 rfl rfl rfl hc
      ·intro E θ a w hD hi hp he hc
       have e8 := hp.o 8 rfl
       have hf := he.h0.mP he 17 rfl e8
       refine sp 1 hf rfl fun a hf => zD θ he hi hf 18 rfl rfl rfl hc
      ·intro E θ a w hD hi hp he hc
       have e9 := hp.o 9 rfl
       have hf := (he.h0.mT he 0 rfl).mP he 18 rfl e9
       refine zL hf hc sc_62 m4 rfl fun a w hf hc => zD θ he hi hf 19 rfl rfl rfl hc
      ·intro E θ a w hD hi hp he hc
       have e9 := hp.o 9 rfl
       have hf := (he.h0.mT he 4 rfl).mP he 18 rfl e9
       refine sp 1 hf rfl fun a hf => zD θ he hi hf 20 rfl rfl rfl hc
      ·intro E θ a w hD hi hp he hc
       have e9 := hp.o 9 rfl
       have hf := (he.h0.mT he 2 rfl).mP he 18 rfl e9
       refine zL hf hc sc_3 m2 rfl fun a w hf hc => zD θ he hi hf 21 rfl rfl rfl hc
      ·intro E θ a w hD hi hp he hc
       have e9 := hp.o 9 rfl
       have e10 := hp.o 10 rfl
       have hf := (he.h0.mP he 18 rfl e9).mP he 19 rfl e10
       refine sp 1 hf rfl fun a hf => zD θ he hi hf 22 rfl rfl rfl hc
      ·intro E θ a w hD hi hp he hc
       have e9 := hp.o 9 rfl
       have e13 := hp.o 13 rfl
       have hf := (he.h0.mP he 18 rfl e9).mP he 22 rfl e13
       refine zP hf rfl (pFA fa_73_1 rfl) fun a hf => zD θ he hi hf 23 rfl rfl rfl hc
      ·intro E θ a w hD hi hp he hc
       have e9 := hp.o 9 rfl
       have e11 := hp.o 11 rfl
       have e14 := hp.o 14 rfl
       have hf := ((he.h0.mP he 18 rfl e9).mP he 20 rfl e11).mP he 23 rfl e14
       refine zP hf rfl (pIAA Try.underlying67 sz_65 rfl rfl (inR_spec hun).1 (inR_spec hun).2) fun a hf => zD θ he hi hf 24 rfl rfl rfl hc
      ·intro E θ a w hD hi hp he hc
       have e9 := hp.o 9 rfl
       have e12 := hp.o 12 rfl
       have e15 := hp.o 15 rfl
       have hf := ((he.h0.mP he 18 rfl e9).mP he 21 rfl e12).mP he 24 rfl e15
       refine zP hf rfl (Pu.cast (pIAA Try.underlying65 sz_3 rfl rfl (inR_spec hun_1).1 (inR_spec hun_1).2) (congrArg (fun k => Value.pointer (some ⟨b_,k,none⟩)) (flat_off (M := 13) (2) hun hun_1 rfl))) fun a hf => zD θ he hi hf 25 rfl rfl rfl hc
      ·intro E θ a w hD hi hp he hc
       have e9 := hp.o 9 rfl
       have e16 := hp.o 16 rfl
       have hf := (he.h0.mP he 18 rfl e9).mP he 25 rfl e16
       refine zE hf hc rfl (eLd1 sc_3 rfl (cell_arr (j := 0) m1 (fun x => (one_encI_i64 x).1) rfl (inR2 hun hun_1 rfl) rfl)) fun a w hf hc => zD θ he hi hf 26 rfl rfl rfl hc
      ·intro E θ a w hD hi hp he hc
       have e9 := hp.o 9 rfl
       have hf := (he.h0.mT he 0 rfl).mP he 18 rfl e9
       refine zL hf hc sc_62 m4 rfl fun a w hf hc => zD θ he hi hf 27 rfl rfl rfl hc
      ·intro E θ a w hD hi hp he hc
       have e9 := hp.o 9 rfl
       have hf := (he.h0.mT he 3 rfl).mP he 18 rfl e9
       refine zN hf hc ag_69 m0 rfl fun a w hf hc => zD θ he hi hf 28 rfl rfl rfl hc
      ·intro E θ a w hD hi hp he hc
       have e9 := hp.o 9 rfl
       have e18 := hp.o 18 rfl
       have e19 := hp.o 19 rfl
       have hf := ((he.h0.mP he 18 rfl e9).mP he 27 rfl e18).mP he 28 rfl e19
       refine zQ (v := i6 r_1) hf hc en_76 rfl (fun w hc => (level_survey_rise_ok w_ xv h_w__Net_Lines (hc.pick k1) hr_1).mono fun e w h => ⟨h.1,(h.2.unpick k1)⟩) fun a w hf hc => zD θ he hi hf 29 rfl rfl rfl hc
      ·intro E θ a w hD hi hp he hc
       have e9 := hp.o 9 rfl
       have e17 := hp.o 17 rfl
       have e20 := hp.o 20 rfl
       have hf := ((he.h0.mP he 18 rfl e9).mP he 26 rfl e17).mP he 29 rfl e20
       refine sp 1 hf rfl fun a hf => zD θ he hi hf 30 rfl rfl rfl hc
      ·intro E θ a w hD hi hp he hc
       have e9 := hp.o 9 rfl
       have hf := (he.h0.mT he 0 rfl).mP he 18 rfl e9
       refine zL hf hc sc_62 m4 rfl fun a w hf hc => zD θ he hi hf 31 rfl rfl rfl hc
      ·intro E θ a w hD hi hp he hc
       have e9 := hp.o 9 rfl
       have hf := (he.h0.mT he 4 rfl).mP he 18 rfl e9
       refine sp 1 hf rfl fun a hf => zD θ he hi hf 32 rfl rfl rfl hc
      ·intro E θ a w hD hi hp he hc
       have e9 := hp.o 9 rfl
       have hf := (he.h0.mT he 0 rfl).mP he 18 rfl e9
       refine zL hf hc sc_62 m4 rfl fun a w hf hc => zD θ he hi hf 33 rfl rfl rfl hc
      ·intro E θ a w hD hi hp he hc
       have e9 := hp.o 9 rfl
       have hf := (he.h0.mT he 3 rfl).mP he 18 rfl e9
       refine zN hf hc ag_69 m0 rfl fun a w hf hc => zD θ he hi hf 34 rfl rfl rfl hc
      ·intro E θ a w hD hi hp he hc
       have e9 := hp.o 9 rfl
       have e24 := hp.o 24 rfl
       have e25 := hp.o 25 rfl
       have hf := ((he.h0.mP he 18 rfl e9).mP he 33 rfl e24).mP he 34 rfl e25
       refine zQ (v := i6 r_2) hf hc en_77 rfl (fun w hc => (level_survey_goal_ok w_ xv h_w__Net_Lines (hc.pick k1) hr_2).mono fun e w h => ⟨h.1,(h.2.unpick k1)⟩) fun a w hf hc => zD θ he hi hf 35 rfl rfl rfl hc
      ·intro E θ a w hD hi hp he hc
       have e9 := hp.o 9 rfl
       have e22 := hp.o 22 rfl
       have hf := (he.h0.mP he 18 rfl e9).mP he 31 rfl e22
       refine sp 1 hf rfl fun a hf => zD θ he hi hf 36 rfl rfl rfl hc
      ·intro E θ a w hD hi hp he hc
       have e9 := hp.o 9 rfl
       have e27 := hp.o 27 rfl
       have hf := (he.h0.mP he 18 rfl e9).mP he 36 rfl e27
       refine zP hf rfl (pFA fa_73_1 rfl) fun a hf => zD θ he hi hf 37 rfl rfl rfl hc
      ·intro E θ a w hD hi hp he hc
       have e9 := hp.o 9 rfl
       have e23 := hp.o 23 rfl
       have e28 := hp.o 28 rfl
       have hf := ((he.h0.mP he 18 rfl e9).mP he 32 rfl e23).mP he 37 rfl e28
       refine zP hf rfl (pIAA Try.underlying67 sz_65 rfl rfl (inR_spec hun).1 (inR_spec hun).2) fun a hf => zD θ he hi hf 38 rfl rfl rfl hc
      ·intro E θ a w hD hi hp he hc
       have e9 := hp.o 9 rfl
       have e26 := hp.o 26 rfl
       have e29 := hp.o 29 rfl
       have hf := ((he.h0.mP he 18 rfl e9).mP he 35 rfl e26).mP he 38 rfl e29
       refine zP hf rfl (Pu.cast (pIAA Try.underlying65 sz_3 rfl rfl (inR_spec hun_2).1 (inR_spec hun_2).2) (congrArg (fun k => Value.pointer (some ⟨b_,k,none⟩)) (flat_off (M := 13) (2) hun hun_2 rfl))) fun a hf => zD θ he hi hf 39 rfl rfl rfl hc
      ·intro E θ a w hD hi hp he hc
       have e9 := hp.o 9 rfl
       have e30 := hp.o 30 rfl
       have hf := (he.h0.mP he 18 rfl e9).mP he 39 rfl e30
       refine zE hf hc rfl (eLd1 sc_3 rfl (cell_arr (j := 0) m1 (fun x => (one_encI_i64 x).1) rfl (inR2 hun hun_2 rfl) rfl)) fun a w hf hc => zD θ he hi hf 40 rfl rfl rfl hc
      ·intro E θ a w hD hi hp he hc
       have e9 := hp.o 9 rfl
       have e21 := hp.o 21 rfl
       have e31 := hp.o 31 rfl
       have hf := ((he.h0.mP he 18 rfl e9).mP he 30 rfl e21).mP he 40 rfl e31
       refine sp 1 hf rfl fun a hf => zD θ he hi hf 41 rfl rfl rfl hc
      ·intro E θ a w hD hi hp he hc
       have e9 := hp.o 9 rfl
       have e32 := hp.o 32 rfl
       have hf := (he.h0.mP he 18 rfl e9).mP he 41 rfl e32
       refine sp 1 hf rfl fun a hf => zD θ he hi hf 42 rfl rfl rfl hc
      ·intro E θ a w hall he hc
       have hf := he.h0
       have e10 := hall 10 rfl
       have e11 := hall 11 rfl
       have e12 := hall 12 rfl
       have e13 := hall 13 rfl
       have e14 := hall 14 rfl
       have e15 := hall 15 rfl
       have e16 := hall 16 rfl
       have e17 := hall 17 rfl
       have e18 := hall 18 rfl
       have e19 := hall 19 rfl
       have e20 := hall 20 rfl
       have e21 := hall 21 rfl
       have e22 := hall 22 rfl
       have e23 := hall 23 rfl
       have e24 := hall 24 rfl
       have e25 := hall 25 rfl
       have e26 := hall 26 rfl
       have e27 := hall 27 rfl
       have e28 := hall 28 rfl
       have e29 := hall 29 rfl
       have e30 := hall 30 rfl
       have e31 := hall 31 rfl
       have e32 := hall 32 rfl
       have e33 := hall 33 rfl
       replace hf := hf.more he 42 rfl (onP e33)
       replace hf := hf.more he 41 rfl (onP e32)
       replace hf := hf.more he 40 rfl (onP e31)
       replace hf := hf.more he 39 rfl (onP e30)
       replace hf := hf.more he 38 rfl (onP e29)
       replace hf := hf.more he 37 rfl (onP e28)
       replace hf := hf.more he 36 rfl (onP e27)
       replace hf := hf.more he 35 rfl (onP e26)
       replace hf := hf.more he 34 rfl (onP e25)
       replace hf := hf.more he 33 rfl (onP e24)
       replace hf := hf.more he 32 rfl (onP e23)
       replace hf := hf.more he 31 rfl (onP e22)
       replace hf := hf.more he 30 rfl (onP e21)
       replace hf := hf.more he 29 rfl (onP e20)
       replace hf := hf.more he 28 rfl (onP e19)
       replace hf := hf.more he 27 rfl (onP e18)
       replace hf := hf.more he 26 rfl (onP e17)
       replace hf := hf.more he 25 rfl (onP e16)
       replace hf := hf.more he 24 rfl (onP e15)
       replace hf := hf.more he 23 rfl (onP e14)
       replace hf := hf.more he 22 rfl (onP e13)
       replace hf := hf.more he 21 rfl (onP e12)
       replace hf := hf.more he 20 rfl (onP e11)
       replace hf := hf.more he 19 rfl (onP e10)
       replace hf := hf.more he 8 rfl (onT)
       replace hf := hf.more he 7 rfl (onT)
       replace hf := hf.more he 6 rfl (onT)
       replace hf := hf.more he 5 rfl (onT)
       replace hf := hf.more he 3 rfl (onT)
       replace hf := hf.more he 2 rfl (onT)
       replace hf := hf.more he 1 rfl (onT)
       replace hf := hf.more he 0 rfl (onT)
       exact ⟨hf.kp rfl,hc⟩
      rintro a w ⟨hf,hc⟩
      refine xThenN ?_
      obtain rfl := sj hF
      exact ⟨hf.kp rfl,hc⟩
    rintro a w ⟨hf,hc⟩
    refine h21 _ _ ?_
    refine rCond (b := rg) hf rfl (fun hb => ?_) (fun hb => ?_)
    ·replace hF := condT hb hF
     clear hb
     refine rSeq fun K22 h22 => rReg (fun _ _ h => h) rfl ?_
     refine zW hf hc sz_4 u3 rfl fun w hc => cNil ?_
     refine h22 _ _ ?_
     refine rRet ?_
     refine xBlkR ?_
     refine xThenR ?_
     refine xThenR ?_
     have he := sj hF
     rw [← he] at hfin16
     replace hF := ho16 _ hfin16
     refine xBlkR ?_
     refine xThenR ?_
     refine xBlkR ?_
     refine xThenR ?_
     replace hc := hc.drop k0
     exact ⟨true,_,hF.symm,rfl,hc⟩
    ·replace hF := condF hb hF
     clear hb
     refine rSkip ?_
     refine h19 _ _ ?_
     refine rReg (fun _ _ h => h) rfl ?_
     refine sp 2 hf rfl fun a hf => cNil ?_
     exact hK16 (W (x_3 + 1)) _ _ (sj hF).symm ⟨hf.kp rfl,hc⟩
   ·replace hF := condF hb hF
    clear hb
    refine rExit ?_
    refine xThen ?_
    refine xThen ?_
    have he := sj hF
    rw [← he] at hfin16
    refine cHit ?_
    exact hr16 _ _ _ hfin16 ⟨hf.kp rfl,hc⟩
  ·rintro D_1 x_2 _ a w hsF rfl hf hc
   replace hf : Has ⟨71,markL (D_1::Ds)⟩ a [(1,pq b_1),(2,pq b_2),(3,pq b_3),(10,i6 w_.Net.Marks),(11,i6 x)] := hf.kp rfl
   replace hc : Ctx G (.box b_4 [pq b_] 62::.box b_5 [i6 r] 3::.box b_ (catc [i6 w_.Net.Marks,.slice w__Net_Lines_p w_.Net.Lines.length w__Net_Lines_c] 169 encI_i64 w_.can (catc [] 169 enc_level_Leg w_.by_ [])) 73::.box b_3 [i6 x] 3::.box b_2 [.bool x_2] 4::.box b_1 [pq b_] 62::(raws (D_1::Ds) ++ Lf)) w := rawsIn (C := [.box b_4 [pq b_] 62,.box b_5 [i6 r] 3]) (L := [.box b_ (catc [i6 w_.Net.Marks,.slice w__Net_Lines_p w_.Net.Lines.length w__Net_Lines_c] 169 encI_i64 w_.can (catc [] 169 enc_level_Leg w_.by_ [])) 73,.box b_3 [i6 x] 3,.box b_2 [.bool x_2] 4,.box b_1 [pq b_] 62]) hc
   replace hF : (Option.bind (inR x 13) fun un_3 => Option.bind (inR x 13) fun un_4 => cond (decide ((w_.can (x * 13 + x).toNat) < 0)) (some (.ret true)) (some (.cont (W (x + 1),x_2)))) = some st4 := by rcases hsF with rfl | rfl <;> exact hF
   refine h10 _ _ ?_
   refine wp_seq_k fun K23 h23 => ?_
   obtain ⟨un_3,hun_3,hF⟩ := bnd_some hF
   obtain ⟨un_4,hun_4,hF⟩ := bnd_some hF
   refine cQ hc follows_mx (by kernel_rfl) ?_
   refine qE hf rfl rfl rfl (eLd1 sc_62 rfl (cell_box m5 rfl)) fun a hf => qE hf rfl rfl rfl (eLd1 sc_3 rfl (cell_box m3 rfl)) fun a hf => qE hf rfl rfl rfl (eLd1 sc_3 rfl (cell_box m3 rfl)) fun a hf => qE hf rfl rfl rfl (Pu.ev (pNC rfl)) fun a hf => qE hf rfl rfl rfl (Pu.ev (pFA fa_73_1 rfl)) fun a hf => qE hf rfl rfl rfl (Pu.ev (pIAA Try.underlying67 sz_65 rfl rfl (inR_spec hun_3).1 (inR_spec hun_3).2)) fun a hf => qE hf rfl rfl rfl (Pu.ev (Pu.cast (pIAA Try.underlying65 sz_3 rfl rfl (inR_spec hun_4).1 (inR_spec hun_4).2) (congrArg (fun k => Value.pointer (some ⟨b_,k,none⟩)) (flat_off (M := 13) (2) hun_3 hun_4 rfl)))) fun a hf => qE hf rfl rfl rfl (eLd1 sc_3 rfl (cell_arr (j := 0) m2 (fun x => (one_encI_i64 x).1) rfl (inR2 hun_3 hun_4 rfl) rfl)) fun a hf => qE hf rfl rfl rfl (Pu.ev (pLt rfl rfl)) fun a hf => ?_
   intro w hc
   refine h23 _ _ ?_
   refine zI hf rfl hF ?_ ?_ <;> clear hF <;> intro hF
   ·refine zS fun K h => zW hf hc sz_4 u4 rfl fun w hc => zT h ?_
    refine wp_ret ?_
    refine xBlkR ?_
    refine xThenR ?_
    refine xThenR ?_
    have he := sj hF
    rw [← he] at hfin4
    replace hF := ho4 _ hfin4
    refine xBlkR ?_
    refine xThenR ?_
    obtain rfl := hF
    replace hc := (((hc.drop k5).drop k3).drop k1).drop k0
    refine outM hf ?_
    refine outML [.box b_ (catc [i6 w_.Net.Marks,.slice w__Net_Lines_p w_.Net.Lines.length w__Net_Lines_c] 169 encI_i64 w_.can (catc [] 169 enc_level_Leg w_.by_ [])) 73,.box b_2 [.bool true] 4] (D_1::Ds) hc fun w hc => ?_
    replace hc : Ctx G (.box b_ (catc [i6 w_.Net.Marks,.slice w__Net_Lines_p w_.Net.Lines.length w__Net_Lines_c] 169 encI_i64 w_.can (catc [] 169 enc_level_Leg w_.by_ [])) 73::.box b_2 [.bool true] 4::Lf) w := hc
    exact outM1 Try.results58 hf hc (rv_cell1 sc_4 rfl (cell_box m1 rfl)) ⟨rfl,(hc.drop k1)⟩
   ·refine wp_skip ?_
    refine h8 _ _ ?_
    refine cReg ?_
    refine sp 2 hf rfl fun a hf => cNil ?_
    replace hc := (((((hc.drop k3).drop k1).drop k0).pick k0).pick k2).pick k2
    exact hK4 (W (x + 1),x_2) _ _ (sj hF).symm ⟨(D_1::Ds),hf.kp rfl,hc⟩
  ·rintro D_1 x_2 _ a w hsF rfl hf hc
   replace hf : Has ⟨71,markL (D_1::Ds)⟩ a [(1,pq b_1),(2,pq b_2),(3,pq b_3),(10,i6 w_.Net.Marks),(11,i6 x)] := hf.kp rfl
   replace hc : Ctx G (.box b_4 [pq b_] 62::.box b_5 [i6 r] 3::.box b_ (catc [i6 w_.Net.Marks,.slice w__Net_Lines_p w_.Net.Lines.length w__Net_Lines_c] 169 encI_i64 w_.can (catc [] 169 enc_level_Leg w_.by_ [])) 73::.box b_3 [i6 x] 3::.box b_2 [.bool x_2] 4::.box b_1 [pq b_] 62::(raws (D_1::Ds) ++ Lf)) w := rawsIn (C := [.box b_4 [pq b_] 62,.box b_5 [i6 r] 3]) (L := [.box b_ (catc [i6 w_.Net.Marks,.slice w__Net_Lines_p w_.Net.Lines.length w__Net_Lines_c] 169 encI_i64 w_.can (catc [] 169 enc_level_Leg w_.by_ [])) 73,.box b_3 [i6 x] 3,.box b_2 [.bool x_2] 4,.box b_1 [pq b_] 62]) hc
   replace hF : (none) = some st4 := by subst hsF; exact hF
   cases hF
 ·refine wp_exit ?_
  refine xThen ?_
  refine xThen ?_
  have he := sj hF
  rw [← he] at hfin4
  refine cHit ?_
  exact hr4 _ _ _ hfin4 ⟨Ds,hf.kp rfl,hc⟩

def level_agreed_j5 (N : Nat) (r_1 : Int × (Nat → Int) × (Nat → level_Leg) × Int) (e_1 : Int) : Option (Int × (Nat → Int) × (Nat → level_Leg) × Int) :=
 some (r_1.1,r_1.2.1,r_1.2.2.1,e_1)
def level_agreed (N : Nat) (n : level_Net) : Option (Int × (Nat → Int) × (Nat → level_Leg) × Int) :=
 Option.bind (level_opened N n) (sumK (fun r => none)
 (fun r_1 => Option.bind (cond (r_1.2.2.2 == 0) (Option.bind (level_survey_open N (⟨(⟨r_1.1,n.Lines⟩ : level_Net),r_1.2.1,r_1.2.2.1⟩ : level_survey)) fun r_2 =>
 some r_2) (some false)) fun t_1 =>
 cond t_1
 (level_agreed_j5 N r_1 7)
 (level_agreed_j5 N r_1 r_1.2.2.2)))
theorem level_agreed_ok {N : Nat} {G : Pers} {Lf : List Ent} {w : World} (n : level_Net) {n_Lines_p : Option Addr} {n_Lines_c : Nat} (h_n_Lines : Rd G 5 n_Lines_p n_Lines_c (n.Lines.map enc_level_Line)) (hc : Ctx G (Lf) w) {res : Int × (Nat → Int) × (Nat → level_Leg) × Int} (hF : level_agreed N n = some res) : Calls Try.prog 32 #[.agg #[i6 n.Marks,.slice n_Lines_p n.Lines.length n_Lines_c]] w (fun e w => ∃ (b'1 : Nat),e = .returned (.tuple #[pq b'1,i6 res.2.2.2]) ∧ Ctx G (.box b'1 (catc [i6 res.1,.slice n_Lines_p n.Lines.length n_Lines_c] 169 encI_i64 res.2.1 (catc [] 169 enc_level_Leg res.2.2.1 [])) 73::Lf) w) := by
 unfold level_agreed at hF
 refine fnIn Try.func32 rfl Try.ntmps32 rfl fun a hf => zS fun K h => zB hf hc rfl fun b_1 a w hf hc => sp 2 hf rfl fun a hf => zT h ?_
 refine zS fun K h => zN hf hc ag_36 m0 rfl fun a w hf hc => ?_
 obtain ⟨r,hr,hF⟩ := bnd_some hF
 cases r with
 | inl r =>
  replace hF := sumKl hF
  refine zC hf en_57 rfl (level_opened_ok n h_n_Lines hc hr) ?_
  rintro _ w ⟨rfl,hc⟩
  refine ⟨_,rfl,fun a hf => ?_⟩
  refine sp 5 hf rfl fun a hf => zT h ?_
  refine wp_seq_k fun K3 h3 => wp_seq_k fun K4 h4 => noneO hF
 | inr r_1 =>
  replace hF := sumKr hF
  have hr_1 := hr
  refine zC hf en_57 rfl (level_opened_ok n h_n_Lines hc hr_1) ?_
  rintro _ w ⟨b_2,rfl,hc⟩
  refine ⟨_,rfl,fun a hf => ?_⟩
  refine sp 5 hf rfl fun a hf => zT h ?_
  refine wp_seq_k fun K5 h5 => ?_
  have hj5 : ∀ (e_1 : Int) a w,Has 19 a [(4,pq b_2),(5,i6 e_1)] → Ctx G (.box b_2 (catc [i6 r_1.1,.slice n_Lines_p n.Lines.length n_Lines_c] 169 encI_i64 r_1.2.1 (catc [] 169 enc_level_Leg r_1.2.2.1 [])) 73::Lf) w → level_agreed_j5 N r_1 e_1 = some res → K5 a w := by
   repeat (clear hF)
   repeat (clear hc)
   repeat (clear hf)
   intro e_1 a w hf hc hF
   unfold level_agreed_j5 at hF
   refine h5 _ _ ?_
   refine zS fun K h => sp 4 hf rfl fun a hf => zT h ?_
   refine wp_ret ?_
   obtain rfl := sj hF
   exact zO2 Try.results32 hf rfl rfl ⟨b_2,rfl,hc⟩
  refine zS fun K h => sp 3 hf rfl fun a hf => ?_
  obtain ⟨t_1,ht_1,hF⟩ := bnd_some hF
  refine stCc 3 (fun a => Has 19 a [(4,pq b_2),(5,i6 r_1.2.2.2),(11,i6 r_1.2.2.2),(12,.bool (r_1.2.2.2 == 0)),(13,.bool (r_1.2.2.2 == 0)),(16,.bool t_1)]) hc ?_ ?_
  ·cases hb : (r_1.2.2.2 == 0)
   ·rw [hb] at hf
    have hF := condF hb ht_1
    obtain rfl := sj hF
    refine stS hf rfl rfl rfl fun a hf => stS hf rfl rfl rfl fun a hf => sp 1 hf rfl fun a hf => cNil ⟨hf.kp rfl,hc⟩
   ·rw [hb] at hf
    have hF := condT hb ht_1
    refine sp 1 hf rfl fun a hf => ?_
    obtain ⟨r_2,hr_2,hF⟩ := bnd_some hF
    refine zQ (v := .bool r_2) hf hc en_58 rfl (fun w hc => (level_survey_open_ok (⟨(⟨r_1.1,n.Lines⟩ : level_Net),r_1.2.1,r_1.2.2.1⟩ : level_survey) h_n_Lines (hc.pick k0) hr_2).mono fun e w h => ⟨h.1,(h.2.unpick k0)⟩) fun a w hf hc => sp 1 hf rfl fun a hf => ?_
    obtain rfl := sj hF
    exact cNil ⟨hf.kp rfl,hc⟩
  intro a w ⟨hf,hc⟩
  refine zT h ?_
  refine zI hf rfl hF ?_ ?_ <;> clear hF <;> intro hF
  ·refine cReg ?_
   refine sp 1 hf rfl fun a hf => cNil ?_
   replace hc := hc.drop k1
   exact hj5 7 _ _  (hf.kp rfl) hc hF
  ·refine wp_skip ?_
   replace hc := hc.drop k1
   exact hj5 r_1.2.2.2 _ _  (hf.kp rfl) hc hF

def level_asked_j10 (N : Nat) (r_1 : Int × (Nat → Int) × (Nat → level_Leg) × Int) (e_1 : Int) : Option ((Int) ⊕ (Int × (Nat → Int) × (Nat → level_Leg) × Int)) :=
 some (.inr (r_1.1,r_1.2.1,r_1.2.2.1,e_1))
def level_asked (N : Nat) (n : level_Net) (from_ : Int) (to_ : Int) (same : Bool) : Option ((Int) ⊕ (Int × (Nat → Int) × (Nat → level_Leg) × Int)) :=
 Option.bind (level_Check N n) fun r =>
 cond (r != 0)
 (some (.inl r))
 (cond (((!(level_in from_ 0 (W (n.Marks - 1)))) || (!(level_in to_ 0 (W (n.Marks - 1))))) || ((!same) && (from_ == to_)))
 (some (.inl 2))
 (Option.bind (level_agreed N n) fun r_1 =>
 Option.bind (cond (r_1.2.2.2 == 0) (Option.bind (inR from_ 13) fun un =>
 Option.bind (inR to_ 13) fun un_1 =>
 some ((r_1.2.1 (from_ * 13 + to_).toNat) == 1099511627776)) (some false)) fun t_1 =>
 cond t_1
 (level_asked_j10 N r_1 5)
 (level_asked_j10 N r_1 r_1.2.2.2)))
theorem level_asked_ok {N : Nat} {G : Pers} {Lf : List Ent} {w : World} (n : level_Net) (from_ : Int) (to_ : Int) (same : Bool) {n_Lines_p : Option Addr} {n_Lines_c : Nat} (h_n_Lines : Rd G 5 n_Lines_p n_Lines_c (n.Lines.map enc_level_Line)) (hc : Ctx G (Lf) w) {res : (Int) ⊕ (Int × (Nat → Int) × (Nat → level_Leg) × Int)} (hF : level_asked N n from_ to_ same = some res) : Calls Try.prog 15 #[.agg #[i6 n.Marks,.slice n_Lines_p n.Lines.length n_Lines_c],i6 from_,i6 to_,.bool same] w (fun e w => sumK (fun rr => e = .returned (.tuple #[.pointer none,i6 rr]) ∧ Ctx G (Lf) w) (fun rr => ∃ (b'1 : Nat),e = .returned (.tuple #[pq b'1,i6 rr.2.2.2]) ∧ Ctx G (.box b'1 (catc [i6 rr.1,.slice n_Lines_p n.Lines.length n_Lines_c] 169 encI_i64 rr.2.1 (catc [] 169 enc_level_Leg rr.2.2.1 [])) 73::Lf) w) res) := by
 unfold level_asked at hF
 refine fnIn Try.func15 rfl Try.ntmps15 rfl fun a hf => zS fun K h => zB hf hc rfl fun b_1 a w hf hc => sp 2 hf rfl fun a hf => zT h ?_
 refine wp_seq_k fun K2 h2 => zS fun K h => zN hf hc ag_36 m0 rfl fun a w hf hc => ?_
 obtain ⟨r,hr,hF⟩ := bnd_some hF
 refine zQ (v := i6 r) hf hc en_30 rfl (fun w hc => level_Check_ok n h_n_Lines hc hr) fun a w hf hc => sp 1 hf rfl fun a hf => zT h ?_
 refine zS fun K h => sp 2 hf rfl fun a hf => zT h ?_
 refine zI hf rfl hF ?_ ?_ <;> clear hF <;> intro hF
 ·refine zS fun K h => sp 3 hf rfl fun a hf => zT h ?_
  refine wp_ret ?_
  refine xThenR ?_
  obtain rfl := sj hF
  replace hc := hc.drop k0
  exact zO2 Try.results15 hf rfl rfl ⟨rfl,hc⟩
 ·refine wp_skip ?_
  refine h2 _ _ ?_
  refine wp_seq_k fun K6 h6 => zS fun K h => sp 1 hf rfl fun a hf => zP hf rfl (pFA fa_36_0 rfl) fun a hf => zL hf hc sc_3 m0 rfl fun a w hf hc => sp 1 hf rfl fun a hf => zQ (v := .bool (level_in from_ 0 (W (n.Marks - 1)))) hf hc en_31 rfl (fun w hc => level_in_ok from_ 0 (W (n.Marks - 1)) hc rfl) fun a w hf hc => sp 2 hf rfl fun a hf => stCc 7 (fun a => Has 61 a [(1,i6 from_),(2,i6 to_),(3,.bool same),(4,pq b_1),(18,i6 from_),(19,pq b_1),(20,i6 n.Marks),(21,i6 (W (n.Marks - 1))),(22,.bool (level_in from_ 0 (W (n.Marks - 1)))),(23,.bool (!(level_in from_ 0 (W (n.Marks - 1))))),(24,.bool (!(level_in from_ 0 (W (n.Marks - 1))))),(31,.bool ((!(level_in from_ 0 (W (n.Marks - 1)))) || (!(level_in to_ 0 (W (n.Marks - 1))))))]) hc ?_ ?_
  ·cases hb : (!(level_in from_ 0 (W (n.Marks - 1))))
   ·rw [hb] at hf
    refine sp 1 hf rfl fun a hf => zP hf rfl (pFA fa_36_0 rfl) fun a hf => zL hf hc sc_3 m0 rfl fun a w hf hc => sp 1 hf rfl fun a hf => zQ (v := .bool (level_in to_ 0 (W (n.Marks - 1)))) hf hc en_31 rfl (fun w hc => level_in_ok to_ 0 (W (n.Marks - 1)) hc rfl) fun a w hf hc => sp 2 hf rfl fun a hf => cNil ⟨hf.kp rfl,hc⟩
   ·rw [hb] at hf
    refine stS hf rfl rfl rfl fun a hf => stS hf rfl rfl rfl fun a hf => stS hf rfl rfl rfl fun a hf => stS hf rfl rfl rfl fun a hf => stS hf rfl rfl rfl fun a hf => stS hf rfl rfl rfl fun a hf => sp 1 hf rfl fun a hf => cNil ⟨hf.kp rfl,hc⟩
  intro a w ⟨hf,hc⟩
  refine sp 1 hf rfl fun a hf => stCc 8 (fun a => Has 61 a [(1,i6 from_),(2,i6 to_),(3,.bool same),(4,pq b_1),(18,i6 from_),(19,pq b_1),(20,i6 n.Marks),(21,i6 (W (n.Marks - 1))),(22,.bool (level_in from_ 0 (W (n.Marks - 1)))),(23,.bool (!(level_in from_ 0 (W (n.Marks - 1))))),(24,.bool (!(level_in from_ 0 (W (n.Marks - 1))))),(31,.bool ((!(level_in from_ 0 (W (n.Marks - 1)))) || (!(level_in to_ 0 (W (n.Marks - 1)))))),(32,.bool ((!(level_in from_ 0 (W (n.Marks - 1)))) || (!(level_in to_ 0 (W (n.Marks - 1)))))),(40,.bool (((!(level_in from_ 0 (W (n.Marks - 1)))) || (!(level_in to_ 0 (W (n.Marks - 1))))) || ((!same) && (from_ == to_))))]) hc ?_ ?_
  ·cases hb : ((!(level_in from_ 0 (W (n.Marks - 1)))) || (!(level_in to_ 0 (W (n.Marks - 1)))))
   ·rw [hb] at hf
    refine sp 3 hf rfl fun a hf => stCc 4 (fun a => Has 61 a [(1,i6 from_),(2,i6 to_),(3,.bool same),(4,pq b_1),(18,i6 from_),(19,pq b_1),(20,i6 n.Marks),(21,i6 (W (n.Marks - 1))),(22,.bool (level_in from_ 0 (W (n.Marks - 1)))),(23,.bool (!(level_in from_ 0 (W (n.Marks - 1))))),(24,.bool (!(level_in from_ 0 (W (n.Marks - 1))))),(31,.bool false),(32,.bool false),(33,.bool same),(34,.bool (!same)),(35,.bool (!same)),(39,.bool ((!same) && (from_ == to_)))]) hc ?_ ?_
    ·cases hb : (!same)
     ·rw [hb] at hf
      refine stS hf rfl rfl rfl fun a hf => stS hf rfl rfl rfl fun a hf => stS hf rfl rfl rfl fun a hf => sp 1 hf rfl fun a hf => cNil ⟨hf.kp rfl,hc⟩
     ·rw [hb] at hf
      refine sp 4 hf rfl fun a hf => cNil ⟨hf.kp rfl,hc⟩
    intro a w ⟨hf,hc⟩
    refine sp 1 hf rfl fun a hf => cNil ⟨hf.kp rfl,hc⟩
   ·rw [hb] at hf
    refine stS hf rfl rfl rfl fun a hf => stS hf rfl rfl rfl fun a hf => stS hf rfl rfl rfl fun a hf => stS hf rfl rfl rfl fun a hf => stS hf rfl rfl rfl fun a hf => stS hf rfl rfl rfl fun a hf => stS hf rfl rfl rfl fun a hf => sp 1 hf rfl fun a hf => cNil ⟨hf.kp rfl,hc⟩
  intro a w ⟨hf,hc⟩
  refine zT h ?_
  refine zI hf rfl hF ?_ ?_ <;> clear hF <;> intro hF
  ·refine zS fun K h => sp 2 hf rfl fun a hf => zT h ?_
   refine wp_ret ?_
   refine xThenR ?_
   obtain rfl := sj hF
   replace hc := hc.drop k0
   exact zO2 Try.results15 hf rfl rfl ⟨rfl,hc⟩
  ·refine wp_skip ?_
   refine h6 _ _ ?_
   refine zS fun K h => zN hf hc ag_36 m0 rfl fun a w hf hc => ?_
   obtain ⟨r_1,hr_1,hF⟩ := bnd_some hF
   refine zC hf en_32 rfl (level_agreed_ok n h_n_Lines hc hr_1) ?_
   rintro _ w ⟨b_2,rfl,hc⟩
   refine ⟨_,rfl,fun a hf => ?_⟩
   refine sp 5 hf rfl fun a hf => zT h ?_
   refine wp_seq_k fun K10 h10 => ?_
   have hj10 : ∀ (e_1 : Int) a w,Has 61 a [(11,pq b_2),(12,i6 e_1)] → Ctx G (.box b_2 (catc [i6 r_1.1,.slice n_Lines_p n.Lines.length n_Lines_c] 169 encI_i64 r_1.2.1 (catc [] 169 enc_level_Leg r_1.2.2.1 [])) 73::Lf) w → level_asked_j10 N r_1 e_1 = some res → K10 a w := by
    repeat (clear hF)
    repeat (clear hc)
    repeat (clear hf)
    intro e_1 a w hf hc hF
    unfold level_asked_j10 at hF
    refine h10 _ _ ?_
    refine zS fun K h => sp 4 hf rfl fun a hf => zT h ?_
    refine wp_ret ?_
    obtain rfl := sj hF
    exact zO2 Try.results15 hf rfl rfl ⟨b_2,rfl,hc⟩
   refine zS fun K h => sp 3 hf rfl fun a hf => ?_
   obtain ⟨t_1,ht_1,hF⟩ := bnd_some hF
   refine stCc 10 (fun a => Has 61 a [(1,i6 from_),(2,i6 to_),(11,pq b_2),(12,i6 r_1.2.2.2),(46,i6 r_1.2.2.2),(47,.bool (r_1.2.2.2 == 0)),(48,.bool (r_1.2.2.2 == 0)),(58,.bool t_1)]) hc ?_ ?_
   ·cases hb : (r_1.2.2.2 == 0)
    ·rw [hb] at hf
     have hF := condF hb ht_1
     obtain rfl := sj hF
     refine stS hf rfl rfl rfl fun a hf => stS hf rfl rfl rfl fun a hf => stS hf rfl rfl rfl fun a hf => stS hf rfl rfl rfl fun a hf => stS hf rfl rfl rfl fun a hf => stS hf rfl rfl rfl fun a hf => stS hf rfl rfl rfl fun a hf => stS hf rfl rfl rfl fun a hf => stS hf rfl rfl rfl fun a hf => sp 1 hf rfl fun a hf => cNil ⟨hf.kp rfl,hc⟩
    ·rw [hb] at hf
     have hF := condT hb ht_1
     refine sp 4 hf rfl fun a hf => zP hf rfl (pFA fa_73_1 rfl) fun a hf => ?_
     obtain ⟨un,hun,hF⟩ := bnd_some hF
     refine zP hf rfl (pIAA Try.underlying67 sz_65 rfl rfl (inR_spec hun).1 (inR_spec hun).2) fun a hf => ?_
     obtain ⟨un_1,hun_1,hF⟩ := bnd_some hF
     refine zP hf rfl (Pu.cast (pIAA Try.underlying65 sz_3 rfl rfl (inR_spec hun_1).1 (inR_spec hun_1).2) (congrArg (fun k => Value.pointer (some ⟨b_2,k,none⟩)) (flat_off (M := 13) (2) hun hun_1 rfl))) fun a hf => zE hf hc rfl (eLd1 sc_3 rfl (cell_arr (j := 0) m0 (fun x => (one_encI_i64 x).1) rfl (inR2 hun hun_1 rfl) rfl)) fun a w hf hc => sp 2 hf rfl fun a hf => ?_
     obtain rfl := sj hF
     exact cNil ⟨hf.kp rfl,hc⟩
   intro a w ⟨hf,hc⟩
   refine zT h ?_
   refine zI hf rfl hF ?_ ?_ <;> clear hF <;> intro hF
   ·refine cReg ?_
    refine sp 1 hf rfl fun a hf => cNil ?_
    replace hc := hc.drop k1
    exact hj10 5 _ _  (hf.kp rfl) hc hF
   ·refine wp_skip ?_
    replace hc := hc.drop k1
    exact hj10 r_1.2.2.2 _ _  (hf.kp rfl) hc hF

def level_Between (N : Nat) (n : level_Net) (from_ : Int) (to_ : Int) : Option (api_Span × Int) :=
 Option.bind (level_asked N n from_ to_ true) (sumK (fun r => cond (r != 0)
 (some ((⟨0,0⟩ : api_Span),r))
 (none))
 (fun r_1 => cond (r_1.2.2.2 != 0)
 (some ((⟨0,0⟩ : api_Span),r_1.2.2.2))
 (Option.bind (inR to_ 13) fun un =>
 Option.bind (inR from_ 13) fun un_1 =>
 Option.bind (inR from_ 13) fun un_2 =>
 Option.bind (inR to_ 13) fun un_3 =>
 some ((⟨W (0 - (r_1.2.1 (to_ * 13 + from_).toNat)),(r_1.2.1 (from_ * 13 + to_).toNat)⟩ : api_Span),0))))
theorem level_Between_ok {N : Nat} {G : Pers} {Lf : List Ent} {w : World} (n : level_Net) (from_ : Int) (to_ : Int) {n_Lines_p : Option Addr} {n_Lines_c : Nat} (h_n_Lines : Rd G 5 n_Lines_p n_Lines_c (n.Lines.map enc_level_Line)) (hc : Ctx G (Lf) w) {res : api_Span × Int} (hF : level_Between N n from_ to_ = some res) : Calls Try.prog 7 #[.agg #[i6 n.Marks,.slice n_Lines_p n.Lines.length n_Lines_c],i6 from_,i6 to_] w (fun e w => e = .returned (.tuple #[.agg #[i6 res.1.Lo,i6 res.1.Hi],i6 res.2]) ∧ Ctx G (Lf) w) := by
 unfold level_Between at hF
 refine fnIn Try.func7 rfl Try.ntmps7 rfl fun a hf => zS fun K h => zB hf hc rfl fun b_1 a w hf hc => zA hf hc zr_38 rfl fun b_2 a w hf hc => sp 1 hf rfl fun a hf => zT h ?_
 refine zS fun K h => zN hf hc ag_36 m1 rfl fun a w hf hc => sp 2 hf rfl fun a hf => ?_
 obtain ⟨r,hr,hF⟩ := bnd_some hF
 cases r with
 | inl r =>
  replace hF := sumKl hF
  refine zC hf en_15 rfl (level_asked_ok n from_ to_ true h_n_Lines hc hr) ?_
  rintro _ w ⟨rfl,hc⟩
  refine ⟨_,rfl,fun a hf => ?_⟩
  refine sp 5 hf rfl fun a hf => zT h ?_
  refine wp_seq_k fun K3 h3 => zS fun K h => sp 2 hf rfl fun a hf => zT h ?_
  refine zI hf rfl hF ?_ ?_ <;> clear hF <;> intro hF
  ·refine zS fun K h => zP hf rfl (pBuildS (cells := [i6 0,i6 0]) bt_38 rfl rfl) fun a hf => sp 1 hf rfl fun a hf => zW hf hc sz_38 u0 rfl fun w hc => sp 1 hf rfl fun a hf => zT h ?_
   refine wp_ret ?_
   refine xThenR ?_
   obtain rfl := sj hF
   replace hc := hc.drop k1
   exact fnOut2 (by simp) rfl Try.results7 hf hc (rv_cellN (vs := [i6 0,i6 0]) ag_38 rfl rfl (cells_box (n := 2) m0 rfl)) (show look _ 7 = _ from rfl) ⟨rfl,(hc.drop k0)⟩
  ·refine wp_skip ?_
   refine h3 _ _ ?_
   refine wp_seq_k fun K6 h6 => noneO hF
 | inr r_1 =>
  replace hF := sumKr hF
  have hr_1 := hr
  refine zC hf en_15 rfl (level_asked_ok n from_ to_ true h_n_Lines hc hr_1) ?_
  rintro _ w ⟨b_3,rfl,hc⟩
  refine ⟨_,rfl,fun a hf => ?_⟩
  refine sp 5 hf rfl fun a hf => zT h ?_
  refine wp_seq_k fun K7 h7 => zS fun K h => sp 2 hf rfl fun a hf => zT h ?_
  refine zI hf rfl hF ?_ ?_ <;> clear hF <;> intro hF
  ·refine zS fun K h => zP hf rfl (pBuildS (cells := [i6 0,i6 0]) bt_38 rfl rfl) fun a hf => sp 1 hf rfl fun a hf => zW hf hc sz_38 u1 rfl fun w hc => sp 1 hf rfl fun a hf => zT h ?_
   refine wp_ret ?_
   refine xThenR ?_
   obtain rfl := sj hF
   replace hc := (hc.drop k2).drop k0
   exact fnOut2 (by simp) rfl Try.results7 hf hc (rv_cellN (vs := [i6 0,i6 0]) ag_38 rfl rfl (cells_box (n := 2) m0 rfl)) (show look _ 7 = _ from rfl) ⟨rfl,(hc.drop k0)⟩
  ·refine wp_skip ?_
   refine h7 _ _ ?_
   refine wp_seq_k fun K10 h10 => ?_
   obtain ⟨un,hun,hF⟩ := bnd_some hF
   obtain ⟨un_1,hun_1,hF⟩ := bnd_some hF
   obtain ⟨un_2,hun_2,hF⟩ := bnd_some hF
   obtain ⟨un_3,hun_3,hF⟩ := bnd_some hF
   refine regionE (fun θ => [⟨none,none,1,i6 from_⟩,⟨none,none,2,i6 to_⟩,⟨none,none,6,pq b_2⟩,⟨none,some 19,7,i6 0⟩,⟨none,none,8,pq b_3⟩,⟨some 0,none,21,pq b_3⟩,⟨some 1,none,22,i6 to_⟩,⟨some 2,none,23,i6 from_⟩,⟨some 3,none,24,pq b_3⟩,⟨some 4,none,25,.pointer (some ⟨b_3,2,none⟩)⟩,⟨some 5,none,26,.pointer (some ⟨b_3,2 + to_.toNat * 13,none⟩)⟩,⟨some 6,none,27,.pointer (some ⟨b_3,2 + (to_ * 13 + from_).toNat * 1,none⟩)⟩,⟨some 7,none,28,i6 (r_1.2.1 (to_ * 13 + from_).toNat)⟩,⟨some 8,none,29,i6 (W (0 - (r_1.2.1 (to_ * 13 + from_).toNat)))⟩,⟨some 9,none,30,pq b_3⟩,⟨some 10,none,31,i6 from_⟩,⟨some 11,none,32,i6 to_⟩,⟨some 12,none,33,pq b_3⟩,⟨some 13,none,34,.pointer (some ⟨b_3,2,none⟩)⟩,⟨some 14,none,35,.pointer (some ⟨b_3,2 + from_.toNat * 13,none⟩)⟩,⟨some 15,none,36,.pointer (some ⟨b_3,2 + (from_ * 13 + to_).toNat * 1,none⟩)⟩,⟨some 16,none,37,i6 (r_1.2.1 (from_ * 13 + to_).toNat)⟩,⟨some 17,none,38,.agg #[i6 (W (0 - (r_1.2.1 (to_ * 13 + from_).toNat))),i6 (r_1.2.1 (from_ * 13 + to_).toNat)]⟩,⟨some 19,none,7,i6 0⟩]) (fun E θ => .box b_3 (catc [i6 r_1.1,.slice n_Lines_p n.Lines.length n_Lines_c] 169 encI_i64 r_1.2.1 (catc [] 169 enc_level_Leg r_1.2.2.1 [])) 73::(bif E 18 then .box b_2 [i6 (W (0 - (r_1.2.1 (to_ * 13 + from_).toNat))),i6 (r_1.2.1 (from_ * 13 + to_).toNat)] 38 else .box b_2 [i6 0,i6 0] 38)::.box b_1 [i6 n.Marks,.slice n_Lines_p n.Lines.length n_Lines_c] 36::Lf) [] (fun a w => Has 39 a [(6,pq b_2),(7,i6 0)] ∧ Ctx G (.box b_3 (catc [i6 r_1.1,.slice n_Lines_p n.Lines.length n_Lines_c] 169 encI_i64 r_1.2.1 (catc [] 169 enc_level_Leg r_1.2.2.1 [])) 73::.box b_2 [i6 (W (0 - (r_1.2.1 (to_ * 13 + from_).toNat))),i6 (r_1.2.1 (from_ * 13 + to_).toNat)] 38::.box b_1 [i6 n.Marks,.slice n_Lines_p n.Lines.length n_Lines_c] 36::Lf) w) follows_mx (by kernel_rfl) (by kernel_rfl) (HasE.of hf ⟨rfl,rfl,rfl,rfl,rfl,trivial,trivial,trivial,trivial,trivial,trivial,trivial,trivial,trivial,trivial,trivial,trivial,trivial,trivial,trivial,trivial,trivial,trivial,trivial,trivial⟩) hc ⟨?_,?_,?_,?_,?_,?_,?_,?_,?_,?_,?_,?_,?_,?_,?_,?_,?_,?_,?_,?_,trivial⟩ ?_ ?_
   ·intro E θ a w hD hi hp he hc
    have hf := he.h0.mT he 4 rfl
    refine sp 1 hf rfl fun a hf => zD θ he hi hf 5 rfl rfl rfl hc
   ·intro E θ a w hD hi hp he hc
    have hf := he.h0.mT he 1 rfl
    refine sp 1 hf rfl fun a hf => zD θ he hi hf 6 rfl rfl rfl hc
   ·intro E θ a w hD hi hp he hc
    have hf := he.h0.mT he 0 rfl
    refine sp 1 hf rfl fun a hf => zD θ he hi hf 7 rfl rfl rfl hc
   ·intro E θ a w hD hi hp he hc
    have e0 := hp.o 0 rfl
    have hf := he.h0.mP he 5 rfl e0
    refine sp 1 hf rfl fun a hf => zD θ he hi hf 8 rfl rfl rfl hc
   ·intro E θ a w hD hi hp he hc
    have e3 := hp.o 3 rfl
    have hf := he.h0.mP he 8 rfl e3
    refine zP hf rfl (pFA fa_73_1 rfl) fun a hf => zD θ he hi hf 9 rfl rfl rfl hc
   ·intro E θ a w hD hi hp he hc
    have e1 := hp.o 1 rfl
    have e4 := hp.o 4 rfl
    have hf := (he.h0.mP he 6 rfl e1).mP he 9 rfl e4
    refine zP hf rfl (pIAA Try.underlying67 sz_65 rfl rfl (inR_spec hun).1 (inR_spec hun).2) fun a hf => zD θ he hi hf 10 rfl rfl rfl hc
   ·intro E θ a w hD hi hp he hc
    have e2 := hp.o 2 rfl
    have e5 := hp.o 5 rfl
    have hf := (he.h0.mP he 7 rfl e2).mP he 10 rfl e5
    refine zP hf rfl (Pu.cast (pIAA Try.underlying65 sz_3 rfl rfl (inR_spec hun_1).1 (inR_spec hun_1).2) (congrArg (fun k => Value.pointer (some ⟨b_3,k,none⟩)) (flat_off (M := 13) (2) hun hun_1 rfl))) fun a hf => zD θ he hi hf 11 rfl rfl rfl hc
   ·intro E θ a w hD hi hp he hc
    have e6 := hp.o 6 rfl
    have hf := he.h0.mP he 11 rfl e6
    refine zE hf hc rfl (eLd1 sc_3 rfl (cell_arr (j := 0) m0 (fun x => (one_encI_i64 x).1) rfl (inR2 hun hun_1 rfl) rfl)) fun a w hf hc => zD θ he hi hf 12 rfl rfl rfl hc
   ·intro E θ a w hD hi hp he hc
    have e7 := hp.o 7 rfl
    have hf := he.h0.mP he 12 rfl e7
    refine sp 1 hf rfl fun a hf => zD θ he hi hf 13 rfl rfl rfl hc
   ·intro E θ a w hD hi hp he hc
    have hf := he.h0.mT he 4 rfl
    refine sp 1 hf rfl fun a hf => zD θ he hi hf 14 rfl rfl rfl hc
   ·intro E θ a w hD hi hp he hc
    have hf := he.h0.mT he 0 rfl
    refine sp 1 hf rfl fun a hf => zD θ he hi hf 15 rfl rfl rfl hc
   ·intro E θ a w hD hi hp he hc
    have hf := he.h0.mT he 1 rfl
    refine sp 1 hf rfl fun a hf => zD θ he hi hf 16 rfl rfl rfl hc
   ·intro E θ a w hD hi hp he hc
    have e9 := hp.o 9 rfl
    have hf := he.h0.mP he 14 rfl e9
    refine sp 1 hf rfl fun a hf => zD θ he hi hf 17 rfl rfl rfl hc
   ·intro E θ a w hD hi hp he hc
    have e12 := hp.o 12 rfl
    have hf := he.h0.mP he 17 rfl e12
    refine zP hf rfl (pFA fa_73_1 rfl) fun a hf => zD θ he hi hf 18 rfl rfl rfl hc
   ·intro E θ a w hD hi hp he hc
    have e10 := hp.o 10 rfl
    have e13 := hp.o 13 rfl
    have hf := (he.h0.mP he 15 rfl e10).mP he 18 rfl e13
    refine zP hf rfl (pIAA Try.underlying67 sz_65 rfl rfl (inR_spec hun_2).1 (inR_spec hun_2).2) fun a hf => zD θ he hi hf 19 rfl rfl rfl hc
   ·intro E θ a w hD hi hp he hc
    have e11 := hp.o 11 rfl
    have e14 := hp.o 14 rfl
    have hf := (he.h0.mP he 16 rfl e11).mP he 19 rfl e14
    refine zP hf rfl (Pu.cast (pIAA Try.underlying65 sz_3 rfl rfl (inR_spec hun_3).1 (inR_spec hun_3).2) (congrArg (fun k => Value.pointer (some ⟨b_3,k,none⟩)) (flat_off (M := 13) (2) hun_2 hun_3 rfl))) fun a hf => zD θ he hi hf 20 rfl rfl rfl hc
   ·intro E θ a w hD hi hp he hc
    have e15 := hp.o 15 rfl
    have hf := he.h0.mP he 20 rfl e15
    refine zE hf hc rfl (eLd1 sc_3 rfl (cell_arr (j := 0) m0 (fun x => (one_encI_i64 x).1) rfl (inR2 hun_2 hun_3 rfl) rfl)) fun a w hf hc => zD θ he hi hf 21 rfl rfl rfl hc
   ·intro E θ a w hD hi hp he hc
    have e8 := hp.o 8 rfl
    have e16 := hp.o 16 rfl
    have hf := (he.h0.mP he 13 rfl e8).mP he 21 rfl e16
    refine zP hf rfl (pBuildS (cells := [i6 (W (0 - (r_1.2.1 (to_ * 13 + from_).toNat))),i6 (r_1.2.1 (from_ * 13 + to_).toNat)]) bt_38 rfl rfl) fun a hf => zD θ he hi hf 22 rfl rfl rfl hc
   ·intro E θ a w hD hi hp he hc
    have e17 := hp.o 17 rfl
    try dsimp only at hc
    rw [hi] at hc
    have hf := (he.h0.mT he 2 rfl).mP he 22 rfl e17
    refine zW hf hc sz_38 u1 rfl fun w hc => zG θ he hi hf rfl ?_
    try dsimp only
    rw [updE_self E 18]
    exact hc
   ·intro E θ a w hD hi hp he hc
    have hf := he.h0
    refine sp 1 hf rfl fun a hf => zD θ he hi hf 23 rfl rfl rfl hc
   ·intro E θ a w hall he hc
    have hf := he.h0
    have e18 := hall 18 rfl
    have e19 := hall 19 rfl
    replace hf := hf.more he 23 rfl (onP e19)
    replace hf := hf.more he 2 rfl (onT)
    try dsimp only at hc
    rw [e18] at hc
    exact ⟨hf.kp rfl,hc⟩
   rintro a w ⟨hf,hc⟩
   refine h10 _ _ ?_
   refine wp_ret ?_
   obtain rfl := sj hF
   replace hc := (hc.drop k2).drop k0
   exact fnOut2 (by simp) rfl Try.results7 hf hc (rv_cellN (vs := [i6 (W (0 - (r_1.2.1 (to_ * 13 + from_).toNat))),i6 (r_1.2.1 (from_ * 13 + to_).toNat)]) ag_38 rfl rfl (cells_box (n := 2) m0 rfl)) (show look _ 7 = _ from rfl) ⟨rfl,(hc.drop k0)⟩

def shift_in (n : Int) (least : Int) (greatest : Int) : Bool :=
 ((decide (least ≤ n)) && (decide (n ≤ greatest)))
theorem shift_in_ok {G : Pers} {Lf : List Ent} {w : World} (n : Int) (least : Int) (greatest : Int)   (hc : Ctx G (Lf) w) {res : Bool} (hF : shift_in n least greatest = res) : Calls Try.prog 36 #[i6 n,i6 least,i6 greatest] w (fun e w => e = .returned (.bool res) ∧ Ctx G (Lf) w) := by
 unfold shift_in at hF
 refine fnIn Try.func36 rfl Try.ntmps36 rfl fun a hf => zS fun K h => sp 1 hf rfl fun a hf => zT h ?_
 refine zS fun K h => sp 4 hf rfl fun a hf => stCc 4 (fun a => Has 15 a [(0,i6 n),(1,i6 least),(2,i6 greatest),(6,.bool false),(7,i6 n),(8,i6 least),(9,.bool (decide (least ≤ n))),(10,.bool (decide (least ≤ n))),(14,.bool ((decide (least ≤ n)) && (decide (n ≤ greatest))))]) hc ?_ ?_
 ·cases hb : (decide (least ≤ n))
  ·rw [hb] at hf
   refine stS hf rfl rfl rfl fun a hf => stS hf rfl rfl rfl fun a hf => stS hf rfl rfl rfl fun a hf => sp 1 hf rfl fun a hf => cNil ⟨hf.kp rfl,hc⟩
  ·rw [hb] at hf
   refine sp 4 hf rfl fun a hf => cNil ⟨hf.kp rfl,hc⟩
 intro a w ⟨hf,hc⟩
 refine sp 1 hf rfl fun a hf => zT h ?_
 refine wp_ret ?_
 obtain rfl := hF
 exact zO1 Try.results36 hf rfl ⟨rfl,hc⟩

def shift_stage (n : Int) : Bool :=
 (shift_in n (-2000) 2000)
theorem shift_stage_ok {G : Pers} {Lf : List Ent} {w : World} (n : Int)   (hc : Ctx G (Lf) w) {res : Bool} (hF : shift_stage n = res) : Calls Try.prog 35 #[i6 n] w (fun e w => e = .returned (.bool res) ∧ Ctx G (Lf) w) := by
 unfold shift_stage at hF
 refine fnIn Try.func35 rfl Try.ntmps35 rfl fun a hf => zS fun K h => sp 1 hf rfl fun a hf => zT h ?_
 refine zS fun K h => sp 1 hf rfl fun a hf => zQ (v := .bool (shift_in n (-2000) 2000)) hf hc en_36 rfl (fun w hc => shift_in_ok n (-2000) 2000 hc rfl) fun a w hf hc => sp 1 hf rfl fun a hf => zT h ?_
 refine wp_ret ?_
 obtain rfl := hF
 exact zO1 Try.results35 hf rfl ⟨rfl,hc⟩

def shift_flow (n : Int) : Bool :=
 (shift_in n 0 1000000000)
theorem shift_flow_ok {G : Pers} {Lf : List Ent} {w : World} (n : Int)   (hc : Ctx G (Lf) w) {res : Bool} (hF : shift_flow n = res) : Calls Try.prog 61 #[i6 n] w (fun e w => e = .returned (.bool res) ∧ Ctx G (Lf) w) := by
 unfold shift_flow at hF
 refine fnIn Try.func61 rfl Try.ntmps61 rfl fun a hf => zS fun K h => sp 1 hf rfl fun a hf => zT h ?_
 refine zS fun K h => sp 1 hf rfl fun a hf => zQ (v := .bool (shift_in n 0 1000000000)) hf hc en_36 rfl (fun w hc => shift_in_ok n 0 1000000000 hc rfl) fun a w hf hc => sp 1 hf rfl fun a hf => zT h ?_
 refine wp_ret ?_
 obtain rfl := hF
 exact zO1 Try.results61 hf rfl ⟨rfl,hc⟩

def shift_rated_1 (m : shift_Mark) : Bool :=
 ((shift_stage m.Stage) && (shift_flow m.Flow))
theorem shift_rated_1_ok {G : Pers} {Lf : List Ent} {w : World} (m : shift_Mark)   (hc : Ctx G (Lf) w) {res : Bool} (hF : shift_rated_1 m = res) : Calls Try.prog 60 #[.agg #[i6 m.Stage,i6 m.Flow]] w (fun e w => e = .returned (.bool res) ∧ Ctx G (Lf) w) := by
 unfold shift_rated_1 at hF
 refine fnIn Try.func60 rfl Try.ntmps60 rfl fun a hf => zS fun K h => zB hf hc rfl fun b_1 a w hf hc => sp 1 hf rfl fun a hf => zT h ?_
 refine zS fun K h => zP hf rfl (pFA fa_61_0 rfl) fun a hf => zL hf hc sc_3 m0 rfl fun a w hf hc => zQ (v := .bool (shift_stage m.Stage)) hf hc en_35 rfl (fun w hc => shift_stage_ok m.Stage hc rfl) fun a w hf hc => sp 1 hf rfl fun a hf => stCc 4 (fun a => Has 11 a [(1,pq b_1),(2,.bool false),(3,pq b_1),(4,i6 m.Stage),(5,.bool (shift_stage m.Stage)),(6,.bool (shift_stage m.Stage)),(10,.bool ((shift_stage m.Stage) && (shift_flow m.Flow)))]) hc ?_ ?_
 ·cases hb : (shift_stage m.Stage)
  ·rw [hb] at hf
   refine stS hf rfl rfl rfl fun a hf => stS hf rfl rfl rfl fun a hf => stS hf rfl rfl rfl fun a hf => sp 1 hf rfl fun a hf => cNil ⟨hf.kp rfl,hc⟩
  ·rw [hb] at hf
   refine zP hf rfl (pFA fa_61_1 rfl) fun a hf => zL hf hc sc_3 m0 rfl fun a w hf hc => zQ (v := .bool (shift_flow m.Flow)) hf hc en_61 rfl (fun w hc => shift_flow_ok m.Flow hc rfl) fun a w hf hc => sp 1 hf rfl fun a hf => cNil ⟨hf.kp rfl,hc⟩
 intro a w ⟨hf,hc⟩
 refine sp 1 hf rfl fun a hf => zT h ?_
 refine wp_ret ?_
 obtain rfl := hF
 replace hc := hc.drop k0
 exact zO1 Try.results60 hf rfl ⟨rfl,hc⟩

def shift_every_shift_Mark_1 (x : shift_Mark) : Bool :=
 (!(shift_rated_1 (⟨x.Stage,x.Flow⟩ : shift_Mark)))
theorem shift_every_shift_Mark_1_ok {G : Pers} {Lf : List Ent} {w : World} (x : shift_Mark) {b_ : Nat}  (hc : Ctx G (.box b_ [.func (.func 60) #[] #[]] 109::Lf) w) {res : Bool} (hF : shift_every_shift_Mark_1 x = res) : Calls Try.prog 79 #[.agg #[i6 x.Stage,i6 x.Flow],pq b_] w (fun e w => e = .returned (.bool res) ∧ Ctx G (.box b_ [.func (.func 60) #[] #[]] 109::Lf) w) := by
 unfold shift_every_shift_Mark_1 at hF
 refine fnIn Try.func79 rfl Try.ntmps79 rfl fun a hf => zS fun K h => zB hf hc rfl fun b_1 a w hf hc => sp 1 hf rfl fun a hf => zT h ?_
 refine zS fun K h => zL hf hc sc_109 m1 rfl fun a w hf hc => zN hf hc ag_61 m0 rfl fun a w hf hc => zQ (v := .bool (shift_rated_1 (⟨x.Stage,x.Flow⟩ : shift_Mark))) hf hc en_60 rfl (fun w hc => shift_rated_1_ok (⟨x.Stage,x.Flow⟩ : shift_Mark) hc rfl) fun a w hf hc => sp 2 hf rfl fun a hf => zT h ?_
 refine wp_ret ?_
 obtain rfl := hF
 replace hc := hc.drop k0
 exact zO1 Try.results79 hf rfl ⟨rfl,hc⟩

def slices_IndexFunc_Lshift_Mark_shift_Mark_b4 (N : Nat) (s_ : List shift_Mark) (x : Int) : Option (Step (Int) (Int)) :=
 cond (decide (x < ((s_.length : Nat) : Int)))
 (Option.bind (getI s_ x) fun e_1 =>
 cond (shift_every_shift_Mark_1 e_1)
 (some (.ret x))
 (some (.cont (W (x + 1)))))
 (some (.brk x))
def slices_IndexFunc_Lshift_Mark_shift_Mark (N : Nat) (s_ : List shift_Mark) : Option (Int) :=
 Option.bind (loopO (fun s4 => slices_IndexFunc_Lshift_Mark_shift_Mark_b4 N s_ s4) N 0) fun x4 =>
 exK x4 (fun s4 => some (-1)) some
theorem slices_IndexFunc_Lshift_Mark_shift_Mark_ok {N : Nat} {G : Pers} {Lf : List Ent} {w : World} (s_ : List shift_Mark) {s__p : Option Addr} {s__c : Nat} {b_ : Nat} (h_s_ : Rd G 2 s__p s__c (s_.map enc_shift_Mark)) (hc : Ctx G (.box b_ [.func (.func 60) #[] #[]] 109::Lf) w) {res : Int} (hF : slices_IndexFunc_Lshift_Mark_shift_Mark N s_ = some res) : Calls Try.prog 39 #[.slice s__p s_.length s__c,.func (.func 79) #[] #[pq b_]] w (fun e w => e = .returned (i6 res) ∧ Ctx G (.box b_ [.func (.func 60) #[] #[]] 109::Lf) w) := by
 unfold slices_IndexFunc_Lshift_Mark_shift_Mark at hF
 refine fnIn Try.func39 rfl Try.ntmps39 rfl fun a hf => zS fun K h => sp 1 hf rfl fun a hf => zT h ?_
 refine wp_seq_k fun K2 h2 => zS fun K h => sp 1 hf rfl fun a hf => zP hf rfl (pLenS Try.underlying25 rfl) fun a hf => sp 1 hf rfl fun a hf => zT h ?_
 refine wp_block ?_
 obtain ⟨x4,hx4,hF⟩ := bnd_some hF
 let S4 : Int → Act → World → Prop := (fun (zz : Int) a w => Has 19 a [(0,.slice s__p s_.length s__c),(1,.func (.func 79) #[] #[pq b_]),(7,i6 ((s_.length : Nat) : Int)),(8,i6 zz)] ∧ Ctx G (.box b_ [.func (.func 60) #[] #[]] 109::Lf) w)
 have hr4 : ∀ (zz : Int) a w,x4 = .go zz → S4 zz a w → K2 a w := by
  rintro x a w rfl ⟨hf,hc⟩
  replace hF := exK_go hF
  refine h2 _ _ ?_
  refine zS fun K h => sp 1 hf rfl fun a hf => zT h ?_
  refine wp_ret ?_
  obtain rfl := sj hF
  exact zO1 Try.results39 hf rfl ⟨rfl,hc⟩
 have ho4 : ∀ r,x4 = .out r → r = res := by
  rintro r rfl
  exact sj hF
 refine cLoop N (loopW (S := S4) (x := x4) ?_ N 0 _ _ ⟨hf.kp rfl,hc⟩ hx4)
 clear hF hf hc
 rintro x st4 a w KB4 ⟨hf,hc⟩ hF hfin4 hK4
 unfold slices_IndexFunc_Lshift_Mark_shift_Mark_b4 at hF
 refine zS fun K h => sp 1 hf rfl fun a hf => zT h ?_
 refine wp_seq_k fun K7 h7 => zI hf rfl hF ?_ ?_ <;> clear hF <;> intro hF
 ·refine wp_skip ?_
  refine h7 _ _ ?_
  refine wp_seq_k fun K8 h8 => wp_block ?_
  refine zS fun K h => sp 2 hf rfl fun a hf => zT h ?_
  refine zS fun K h => sp 3 hf rfl fun a hf => ?_
  obtain ⟨e_1,he_1,hF⟩ := bnd_some hF
  obtain ⟨b_1,o,qa,qp⟩ := h_s_.atm he_1
  refine zP hf rfl (pIA Try.underlying25 sz_61 rfl rfl qa) fun a hf => zE hf hc rfl (eLdN (vs := [i6 e_1.Stage,i6 e_1.Flow]) ag_61 rfl rfl (cells_pc qp (n := 2) (o' := 0) rfl)) fun a w hf hc => zQ (v := .bool (shift_every_shift_Mark_1 e_1)) hf hc en_79 rfl (fun w hc => (shift_every_shift_Mark_1_ok e_1 (hc.pick k0) rfl).mono fun e w h => ⟨h.1,(h.2.unpick k0)⟩) fun a w hf hc => zT h ?_
  refine zI hf rfl hF ?_ ?_ <;> clear hF <;> intro hF
  ·refine zS fun K h => sp 2 hf rfl fun a hf => zT h ?_
   refine wp_ret ?_
   refine xBlkR ?_
   refine xThenR ?_
   refine xThenR ?_
   have he := sj hF
   rw [← he] at hfin4
   replace hF := ho4 _ hfin4
   refine xBlkR ?_
   refine xThenR ?_
   obtain rfl := hF
   exact zO1 Try.results39 hf rfl ⟨rfl,hc⟩
  ·refine wp_skip ?_
   refine h8 _ _ ?_
   refine cReg ?_
   refine sp 2 hf rfl fun a hf => cNil ?_
   exact hK4 (W (x + 1)) _ _ (sj hF).symm ⟨hf.kp rfl,hc⟩
 ·refine wp_exit ?_
  refine xThen ?_
  refine xThen ?_
  have he := sj hF
  rw [← he] at hfin4
  refine cHit ?_
  exact hr4 _ _ _ hfin4 ⟨hf.kp rfl,hc⟩

def slices_ContainsFunc_Lshift_Mark_shift_Mark (N : Nat) (s_ : List shift_Mark) : Option (Bool) :=
 Option.bind (slices_IndexFunc_Lshift_Mark_shift_Mark N s_) fun r =>
 some (decide (0 ≤ r))
theorem slices_ContainsFunc_Lshift_Mark_shift_Mark_ok {N : Nat} {G : Pers} {Lf : List Ent} {w : World} (s_ : List shift_Mark) {s__p : Option Addr} {s__c : Nat} {b_ : Nat} (h_s_ : Rd G 2 s__p s__c (s_.map enc_shift_Mark)) (hc : Ctx G (.box b_ [.func (.func 60) #[] #[]] 109::Lf) w) {res : Bool} (hF : slices_ContainsFunc_Lshift_Mark_shift_Mark N s_ = some res) : Calls Try.prog 78 #[.slice s__p s_.length s__c,.func (.func 79) #[] #[pq b_]] w (fun e w => e = .returned (.bool res) ∧ Ctx G (.box b_ [.func (.func 60) #[] #[]] 109::Lf) w) := by
 unfold slices_ContainsFunc_Lshift_Mark_shift_Mark at hF
 refine fnIn Try.func78 rfl Try.ntmps78 rfl fun a hf => zS fun K h => sp 1 hf rfl fun a hf => zT h ?_
 refine zS fun K h => sp 2 hf rfl fun a hf => ?_
 obtain ⟨r,hr,hF⟩ := bnd_some hF
 refine zQ (v := i6 r) hf hc en_39 rfl (fun w hc => (slices_IndexFunc_Lshift_Mark_shift_Mark_ok s_ h_s_ (hc.pick k0) hr).mono fun e w h => ⟨h.1,(h.2.unpick k0)⟩) fun a w hf hc => sp 2 hf rfl fun a hf => zT h ?_
 refine wp_ret ?_
 obtain rfl := sj hF
 exact zO1 Try.results78 hf rfl ⟨rfl,hc⟩

def shift_every_shift_Mark (N : Nat) (l : List shift_Mark) : Option (Bool) :=
 Option.bind (slices_ContainsFunc_Lshift_Mark_shift_Mark N l) fun r =>
 some (!r)
theorem shift_every_shift_Mark_ok {N : Nat} {G : Pers} {Lf : List Ent} {w : World} (l : List shift_Mark) {l_p : Option Addr} {l_c : Nat} (h_l : Rd G 2 l_p l_c (l.map enc_shift_Mark)) (hc : Ctx G (Lf) w) {res : Bool} (hF : shift_every_shift_Mark N l = some res) : Calls Try.prog 59 #[.slice l_p l.length l_c,.func (.func 60) #[] #[]] w (fun e w => e = .returned (.bool res) ∧ Ctx G (Lf) w) := by
 unfold shift_every_shift_Mark at hF
 refine fnIn Try.func59 rfl Try.ntmps59 rfl fun a hf => zS fun K h => zB hf hc rfl fun b_1 a w hf hc => sp 1 hf rfl fun a hf => zT h ?_
 refine zS fun K h => sp 1 hf rfl fun a hf => zP hf rfl (pMF (us := [pq b_1]) rfl rfl) fun a hf => ?_
 obtain ⟨r,hr,hF⟩ := bnd_some hF
 refine zQ (v := .bool r) hf hc en_78 rfl (fun w hc => (slices_ContainsFunc_Lshift_Mark_shift_Mark_ok l h_l (hc.pick k0) hr).mono fun e w h => ⟨h.1,(h.2.unpick k0)⟩) fun a w hf hc => sp 2 hf rfl fun a hf => zT h ?_
 refine wp_ret ?_
 obtain rfl := sj hF
 replace hc := hc.drop k0
 exact zO1 Try.results59 hf rfl ⟨rfl,hc⟩

def shift_rated (N : Nat) (l : List shift_Mark) : Option (Int) :=
 cond (!(shift_in ((l.length : Nat) : Int) 2 12))
 (some 3)
 (Option.bind (shift_every_shift_Mark N l) fun r =>
 cond (!r)
 (some 60)
 (some 0))
theorem shift_rated_ok {N : Nat} {G : Pers} {Lf : List Ent} {w : World} (l : List shift_Mark) {l_p : Option Addr} {l_c : Nat} (h_l : Rd G 2 l_p l_c (l.map enc_shift_Mark)) (hc : Ctx G (Lf) w) {res : Int} (hF : shift_rated N l = some res) : Calls Try.prog 33 #[.slice l_p l.length l_c] w (fun e w => e = .returned (i6 res) ∧ Ctx G (Lf) w) := by
 unfold shift_rated at hF
 refine fnIn Try.func33 rfl Try.ntmps33 rfl fun a hf => zS fun K h => sp 1 hf rfl fun a hf => zT h ?_
 refine wp_seq_k fun K2 h2 => wp_block ?_
 refine zS fun K h => sp 1 hf rfl fun a hf => zP hf rfl (pLenS Try.underlying25 rfl) fun a hf => zQ (v := .bool (shift_in ((l.length : Nat) : Int) 2 12)) hf hc en_36 rfl (fun w hc => shift_in_ok ((l.length : Nat) : Int) 2 12 hc rfl) fun a w hf hc => sp 2 hf rfl fun a hf => zT h ?_
 refine zI hf rfl hF ?_ ?_ <;> clear hF <;> intro hF
 ·refine zS fun K h => sp 1 hf rfl fun a hf => zT h ?_
  refine wp_ret ?_
  refine xBlkR ?_
  refine xThenR ?_
  obtain rfl := sj hF
  exact zO1 Try.results33 hf rfl ⟨rfl,hc⟩
 ·refine zS fun K h => sp 1 hf rfl fun a hf => ?_
  obtain ⟨r,hr,hF⟩ := bnd_some hF
  refine zQ (v := .bool r) hf hc en_59 rfl (fun w hc => shift_every_shift_Mark_ok l h_l hc hr) fun a w hf hc => sp 2 hf rfl fun a hf => zT h ?_
  refine zI hf rfl hF ?_ ?_ <;> clear hF <;> intro hF
  ·refine zS fun K h => sp 1 hf rfl fun a hf => zT h ?_
   refine wp_ret ?_
   refine xBlkR ?_
   refine xThenR ?_
   obtain rfl := sj hF
   exact zO1 Try.results33 hf rfl ⟨rfl,hc⟩
  ·refine wp_skip ?_
   refine h2 _ _ ?_
   refine zS fun K h => sp 1 hf rfl fun a hf => zT h ?_
   refine wp_ret ?_
   obtain rfl := sj hF
   exact zO1 Try.results33 hf rfl ⟨rfl,hc⟩

def shift_rises_b4 (N : Nat) (l : List shift_Mark) (sub : List shift_Mark) (x : Int) : Option (Step (Int) (Bool)) :=
 cond (decide (x < ((sub.length : Nat) : Int)))
 (Option.bind (getI l (W (x + 1))) fun e_1 =>
 Option.bind (getI l x) fun e_2 =>
 Option.bind (cond (decide (e_1.Stage ≤ e_2.Stage)) (some true) (Option.bind (getI l (W (x + 1))) fun e_3 =>
 Option.bind (getI l x) fun e_4 =>
 some (decide (e_3.Flow ≤ e_4.Flow)))) fun t_1 =>
 cond t_1
 (some (.ret false))
 (some (.cont (W (x + 1)))))
 (some (.brk x))
def shift_rises (N : Nat) (l : List shift_Mark) : Option (Bool) :=
 Option.bind (subO l 1 ((l.length : Nat) : Int)) fun sub =>
 Option.bind (loopO (fun s4 => shift_rises_b4 N l sub s4) N 0) fun x4 =>
 exK x4 (fun s4 => some true) some
theorem shift_rises_ok {N : Nat} {G : Pers} {Lf : List Ent} {w : World} (l : List shift_Mark) {l_p : Option Addr} {l_c : Nat} (h_l : Rd G 2 l_p l_c (l.map enc_shift_Mark)) (hc : Ctx G (Lf) w) {res : Bool} (hF : shift_rises N l = some res) : Calls Try.prog 34 #[.slice l_p l.length l_c] w (fun e w => e = .returned (.bool res) ∧ Ctx G (Lf) w) := by
 unfold shift_rises at hF
 refine fnIn Try.func34 rfl Try.ntmps34 rfl fun a hf => zS fun K h => sp 1 hf rfl fun a hf => zT h ?_
 refine wp_seq_k fun K2 h2 => zS fun K h => sp 1 hf rfl fun a hf => ?_
 obtain ⟨sub,hsub,hF⟩ := bnd_some hF
 have qs := Rd.sub h_l hsub
 refine zP hf rfl (pSl Try.underlying25 sz_61 rfl rfl (by simpa using h_l.1) rfl rfl hsub) fun a hf => zP hf rfl (pLenS Try.underlying25 rfl) fun a hf => sp 1 hf rfl fun a hf => zT h ?_
 refine wp_block ?_
 obtain ⟨x4,hx4,hF⟩ := bnd_some hF
 let S4 : Int → Act → World → Prop := (fun (zz : Int) a w => Has 37 a [(0,.slice l_p l.length l_c),(6,i6 ((sub.length : Nat) : Int)),(7,i6 zz)] ∧ Ctx G (Lf) w)
 have hr4 : ∀ (zz : Int) a w,x4 = .go zz → S4 zz a w → K2 a w := by
  rintro x a w rfl ⟨hf,hc⟩
  replace hF := exK_go hF
  refine h2 _ _ ?_
  refine zS fun K h => sp 1 hf rfl fun a hf => zT h ?_
  refine wp_ret ?_
  obtain rfl := sj hF
  exact zO1 Try.results34 hf rfl ⟨rfl,hc⟩
 have ho4 : ∀ r,x4 = .out r → r = res := by
  rintro r rfl
  exact sj hF
 refine cLoop N (loopW (S := S4) (x := x4) ?_ N 0 _ _ ⟨hf.kp rfl,hc⟩ hx4)
 clear hF hf hc
 rintro x st4 a w KB4 ⟨hf,hc⟩ hF hfin4 hK4
 unfold shift_rises_b4 at hF
 refine zS fun K h => sp 1 hf rfl fun a hf => zT h ?_
 refine wp_seq_k fun K7 h7 => zI hf rfl hF ?_ ?_ <;> clear hF <;> intro hF
 ·refine wp_skip ?_
  refine h7 _ _ ?_
  refine wp_seq_k fun K8 h8 => wp_block ?_
  refine zS fun K h => sp 2 hf rfl fun a hf => zT h ?_
  refine wp_seq_k fun K10 h10 => ?_
  obtain ⟨e_1,he_1,hF⟩ := bnd_some hF
  obtain ⟨b_1,o,qa,qp⟩ := h_l.atm he_1
  obtain ⟨e_2,he_2,hF⟩ := bnd_some hF
  obtain ⟨b_2,o_1,qa_1,qp_1⟩ := h_l.atm he_2
  obtain ⟨t_1,ht_1,hF⟩ := bnd_some hF
  refine cQ hc follows_mx (by kernel_rfl) ?_
  refine qE hf rfl rfl rfl (Pu.ev (pM rfl)) fun a hf => qE hf rfl rfl rfl (Pu.ev (pM rfl)) fun a hf => qE hf rfl rfl rfl (Pu.ev (pAdd rfl rfl)) fun a hf => qE hf rfl rfl rfl (Pu.ev (pIA Try.underlying25 sz_61 rfl rfl qa)) fun a hf => qE hf rfl rfl rfl (Pu.ev (pFA fa_61_0 rfl)) fun a hf => qE hf rfl rfl rfl (eLd1 sc_3 rfl (cell_pc (j := 0) qp rfl)) fun a hf => qE hf rfl rfl rfl (Pu.ev (pM rfl)) fun a hf => qE hf rfl rfl rfl (Pu.ev (pM rfl)) fun a hf => qE hf rfl rfl rfl (Pu.ev (pIA Try.underlying25 sz_61 rfl rfl qa_1)) fun a hf => qE hf rfl rfl rfl (Pu.ev (pFA fa_61_0 rfl)) fun a hf => qE hf rfl rfl rfl (eLd1 sc_3 rfl (cell_pc (j := 0) qp_1 rfl)) fun a hf => qE hf rfl rfl rfl (Pu.ev (pLe rfl rfl)) fun a hf => qE hf rfl rfl rfl (Pu.ev (pM rfl)) fun a hf => ?_
  refine qCut 13 (fun a => Has 37 a [(0,.slice l_p l.length l_c),(6,i6 ((sub.length : Nat) : Int)),(7,i6 x),(3,i6 x),(10,.slice l_p l.length l_c),(11,i6 x),(12,i6 (W (x + 1))),(13,.pointer (some ⟨b_1,o,none⟩)),(14,.pointer (some ⟨b_1,o + 0,none⟩)),(15,i6 e_1.Stage),(16,.slice l_p l.length l_c),(17,i6 x),(18,.pointer (some ⟨b_2,o_1,none⟩)),(19,.pointer (some ⟨b_2,o_1 + 0,none⟩)),(20,i6 e_2.Stage),(21,.bool (decide (e_1.Stage ≤ e_2.Stage))),(22,.bool (decide (e_1.Stage ≤ e_2.Stage))),(35,.bool t_1)]) ?_ ?_
  ·cases hb : (decide (e_1.Stage ≤ e_2.Stage))
   ·rw [hb] at hf
    have hF := condF hb ht_1
    obtain ⟨e_3,he_3,hF⟩ := bnd_some hF
    obtain ⟨b_3,o_2,qa_2,qp_2⟩ := h_l.atm he_3
    obtain ⟨e_4,he_4,hF⟩ := bnd_some hF
    obtain ⟨b_4,o_3,qa_3,qp_3⟩ := h_l.atm he_4
    refine qE hf rfl rfl rfl (Pu.ev (pM rfl)) fun a hf => qE hf rfl rfl rfl (Pu.ev (pM rfl)) fun a hf => qE hf rfl rfl rfl (Pu.ev (pAdd rfl rfl)) fun a hf => qE hf rfl rfl rfl (Pu.ev (pIA Try.underlying25 sz_61 rfl rfl qa_2)) fun a hf => qE hf rfl rfl rfl (Pu.ev (pFA fa_61_1 rfl)) fun a hf => qE hf rfl rfl rfl (eLd1 sc_3 rfl (cell_pc (j := 1) qp_2 rfl)) fun a hf => qE hf rfl rfl rfl (Pu.ev (pM rfl)) fun a hf => qE hf rfl rfl rfl (Pu.ev (pM rfl)) fun a hf => qE hf rfl rfl rfl (Pu.ev (pIA Try.underlying25 sz_61 rfl rfl qa_3)) fun a hf => qE hf rfl rfl rfl (Pu.ev (pFA fa_61_1 rfl)) fun a hf => qE hf rfl rfl rfl (eLd1 sc_3 rfl (cell_pc (j := 1) qp_3 rfl)) fun a hf => qE hf rfl rfl rfl (Pu.ev (pLe rfl rfl)) fun a hf => qE hf rfl rfl rfl (Pu.ev (pPf rfl rfl)) fun a hf => ?_
    obtain rfl := sj hF
    exact qNil (hf.kp rfl)
   ·rw [hb] at hf
    have hF := condT hb ht_1
    obtain rfl := sj hF
    refine qS hf rfl rfl rfl fun a hf => qS hf rfl rfl rfl fun a hf => qS hf rfl rfl rfl fun a hf => qS hf rfl rfl rfl fun a hf => qS hf rfl rfl rfl fun a hf => qS hf rfl rfl rfl fun a hf => qS hf rfl rfl rfl fun a hf => qS hf rfl rfl rfl fun a hf => qS hf rfl rfl rfl fun a hf => qS hf rfl rfl rfl fun a hf => qS hf rfl rfl rfl fun a hf => qS hf rfl rfl rfl fun a hf => qE hf rfl rfl rfl (Pu.ev (pPt rfl rfl)) fun a hf => ?_
    exact qNil (hf.kp rfl)
  intro a hf
  intro w hc
  refine h10 _ _ ?_
  refine zI hf rfl hF ?_ ?_ <;> clear hF <;> intro hF
  ·refine zS fun K h => sp 1 hf rfl fun a hf => zT h ?_
   refine wp_ret ?_
   refine xBlkR ?_
   refine xThenR ?_
   refine xThenR ?_
   have he := sj hF
   rw [← he] at hfin4
   replace hF := ho4 _ hfin4
   refine xBlkR ?_
   refine xThenR ?_
   obtain rfl := hF
   exact zO1 Try.results34 hf rfl ⟨rfl,hc⟩
  ·refine wp_skip ?_
   refine h8 _ _ ?_
   refine cReg ?_
   refine sp 2 hf rfl fun a hf => cNil ?_
   exact hK4 (W (x + 1)) _ _ (sj hF).symm ⟨hf.kp rfl,hc⟩
 ·refine wp_exit ?_
  refine xThen ?_
  refine xThen ?_
  have he := sj hF
  rw [← he] at hfin4
  refine cHit ?_
  exact hr4 _ _ _ hfin4 ⟨hf.kp rfl,hc⟩

end Go.Nilo
