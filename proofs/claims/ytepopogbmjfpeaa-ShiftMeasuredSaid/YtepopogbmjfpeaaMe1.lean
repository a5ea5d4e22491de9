/-
 What functions of the Go text compute, as plain functions, and that they do, part 1 of 5. Conditions: what each theorem names.
-/
import Derived.Test.YtepopogbmjfpeaaNl20
import Derived.Test.YtepopogbmjfpeaaProg
set_option linter.unusedVariables false
set_option linter.unusedSimpArgs false
set_option maxRecDepth 100000
set_option maxHeartbeats 4000000
namespace Go.Nilo
open Go.Proofs


structure kit_Stream where
 bytes : List Int
 used : Int
 mix : Int

structure law03_River where
 Left : Int
 Right : Int
 At : List Int
 Depth : List Int
 Speeds : List Int

structure api_Span where
 Lo : Int
 Hi : Int
@[reducible] def enc_api_Span (x : api_Span) : List Value := [.int .i64 x.Lo,.int .i64 x.Hi]
theorem one_enc_api_Span : ∀ x,(enc_api_Span x).length = 2 ∧ ones (enc_api_Span x) = true := fun _ => ⟨rfl,rfl⟩

structure gauge_Vertical where
 At : Int
 Depth : api_Span
 Speed : api_Span
@[reducible] def enc_gauge_Vertical (x : gauge_Vertical) : List Value := [.int .i64 x.At,.int .i64 x.Depth.Lo,.int .i64 x.Depth.Hi,.int .i64 x.Speed.Lo,.int .i64 x.Speed.Hi]
theorem one_enc_gauge_Vertical : ∀ x,(enc_gauge_Vertical x).length = 5 ∧ ones (enc_gauge_Vertical x) = true := fun _ => ⟨rfl,rfl⟩

structure gauge_Gauging where
 Left : Int
 Right : Int
 Verticals : List gauge_Vertical

structure shift_Mark where
 Stage : Int
 Flow : Int
@[reducible] def enc_shift_Mark (x : shift_Mark) : List Value := [.int .i64 x.Stage,.int .i64 x.Flow]
theorem one_enc_shift_Mark : ∀ x,(enc_shift_Mark x).length = 2 ∧ ones (enc_shift_Mark x) = true := fun _ => ⟨rfl,rfl⟩

structure shift_Gauging where
 Day : Int
 Stage : Int
 Flow : api_Span
@[reducible] def enc_shift_Gauging (x : shift_Gauging) : List Value := [.int .i64 x.Day,.int .i64 x.Stage,.int .i64 x.Flow.Lo,.int .i64 x.Flow.Hi]
theorem one_enc_shift_Gauging : ∀ x,(enc_shift_Gauging x).length = 4 ∧ ones (enc_shift_Gauging x) = true := fun _ => ⟨rfl,rfl⟩

structure shift_Record where
 Rating : List shift_Mark
 Gaugings : List shift_Gauging

structure shift_book where
 Record : shift_Record
 passes : List api_Span

structure api_Ratio where
 N : Int
 D : Int
@[reducible] def enc_api_Ratio (x : api_Ratio) : List Value := [.int .i64 x.N,.int .i64 x.D]
theorem one_enc_api_Ratio : ∀ x,(enc_api_Ratio x).length = 2 ∧ ones (enc_api_Ratio x) = true := fun _ => ⟨rfl,rfl⟩

structure shift_Turn where
 Gauging : Int
 Up : Bool
@[reducible] def enc_shift_Turn (x : shift_Turn) : List Value := [.int .i64 x.Gauging,.bool x.Up]
theorem one_enc_shift_Turn : ∀ x,(enc_shift_Turn x).length = 2 ∧ ones (enc_shift_Turn x) = true := fun _ => ⟨rfl,rfl⟩

theorem bt_151 : builtInfo Try.prog 151 = some ([.slice none 0 0,.int .i64 0,.int .i64 0],[(0,1),(1,1),(2,1)]) := by kernel_rfl

theorem en_32 : En Try.prog 32 := En.of Try.func32 (by kernel_rfl) (by kernel_rfl)

theorem zr_98 : (Try.prog.info? 98).map (·.zero) = some (some (.agg #[.int .i64 0,.int .i64 0,.slice none 0 0,.slice none 0 0,.slice none 0 0])) := by kernel_rfl

theorem fa_151_0 : ∀ (q : Addr) (w : World),(Instr.fieldAt 151 (.pointer (some q)) 0).run Try.prog w = .ok (.pointer (some (q.add 0))) w := fun _ _ => by kernel_rfl

theorem sc_60 : ScT Try.prog 60 := ⟨⟨_,Try.underlying60,trivial⟩,by kernel_rfl⟩

theorem fa_151_1 : ∀ (q : Addr) (w : World),(Instr.fieldAt 151 (.pointer (some q)) 1).run Try.prog w = .ok (.pointer (some (q.add 1))) w := fun _ _ => by kernel_rfl

theorem sc_3 : ScT Try.prog 3 := ⟨⟨_,Try.underlying3,trivial⟩,by kernel_rfl⟩

theorem sz_5 : (Try.prog.info? 5).map (·.size) = some 1 := by kernel_rfl

theorem sc_5 : ScT Try.prog 5 := ⟨⟨_,Try.underlying5,trivial⟩,by kernel_rfl⟩

theorem follows_mx : Try.prog.follows .mixedOrders = true := by kernel_rfl

theorem fa_151_2 : ∀ (q : Addr) (w : World),(Instr.fieldAt 151 (.pointer (some q)) 2).run Try.prog w = .ok (.pointer (some (q.add 2))) w := fun _ _ => by kernel_rfl

theorem sz_3 : (Try.prog.info? 3).map (·.size) = some 1 := by kernel_rfl

theorem en_38 : En Try.prog 38 := En.of Try.func38 (by kernel_rfl) (by kernel_rfl)

theorem bt_98 : builtInfo Try.prog 98 = some ([.int .i64 0,.int .i64 0,.slice none 0 0,.slice none 0 0,.slice none 0 0],[(0,1),(1,1),(2,1),(3,1),(4,1)]) := by kernel_rfl

theorem sz_98 : (Try.prog.info? 98).map (·.size) = some 5 := by kernel_rfl

theorem fa_98_0 : ∀ (q : Addr) (w : World),(Instr.fieldAt 98 (.pointer (some q)) 0).run Try.prog w = .ok (.pointer (some (q.add 0))) w := fun _ _ => by kernel_rfl

theorem en_41 : En Try.prog 41 := En.of Try.func41 (by kernel_rfl) (by kernel_rfl)

theorem fa_98_2 : ∀ (q : Addr) (w : World),(Instr.fieldAt 98 (.pointer (some q)) 2).run Try.prog w = .ok (.pointer (some (q.add 2))) w := fun _ _ => by kernel_rfl

theorem sc_61 : ScT Try.prog 61 := ⟨⟨_,Try.underlying61,trivial⟩,by kernel_rfl⟩

theorem sl_61 : SlT Try.prog 61 3 1 8 (.int .i64 0) := SlT.of Try.underlying61 (by kernel_rfl) (by decide)

theorem fa_98_3 : ∀ (q : Addr) (w : World),(Instr.fieldAt 98 (.pointer (some q)) 3).run Try.prog w = .ok (.pointer (some (q.add 3))) w := fun _ _ => by kernel_rfl

theorem fa_98_4 : ∀ (q : Addr) (w : World),(Instr.fieldAt 98 (.pointer (some q)) 4).run Try.prog w = .ok (.pointer (some (q.add 4))) w := fun _ _ => by kernel_rfl

theorem sz_61 : (Try.prog.info? 61).map (·.size) = some 1 := by kernel_rfl

theorem fa_98_1 : ∀ (q : Addr) (w : World),(Instr.fieldAt 98 (.pointer (some q)) 1).run Try.prog w = .ok (.pointer (some (q.add 1))) w := fun _ _ => by kernel_rfl

theorem ag_98 : AggT Try.prog 98 5 := ⟨⟨_,Try.underlying98,trivial⟩,by kernel_rfl⟩

theorem en_48 : En Try.prog 48 := En.of Try.func48 (by kernel_rfl) (by kernel_rfl)

theorem zr_102 : (Try.prog.info? 102).map (·.zero) = some (some (.agg #[.int .i64 0,.int .i64 0,.slice none 0 0])) := by kernel_rfl

theorem bt_102 : builtInfo Try.prog 102 = some ([.int .i64 0,.int .i64 0,.slice none 0 0],[(0,1),(1,1),(2,1)]) := by kernel_rfl

theorem sz_102 : (Try.prog.info? 102).map (·.size) = some 3 := by kernel_rfl

theorem fa_102_2 : ∀ (q : Addr) (w : World),(Instr.fieldAt 102 (.pointer (some q)) 2).run Try.prog w = .ok (.pointer (some (q.add 2))) w := fun _ _ => by kernel_rfl

theorem sc_100 : ScT Try.prog 100 := ⟨⟨_,Try.underlying100,trivial⟩,by kernel_rfl⟩

theorem zr_50 : (Try.prog.info? 50).map (·.zero) = some (some (.agg #[.int .i64 0,.int .i64 0])) := by kernel_rfl

theorem bt_50 : builtInfo Try.prog 50 = some ([.int .i64 0,.int .i64 0],[(0,1),(1,1)]) := by kernel_rfl

theorem sz_50 : (Try.prog.info? 50).map (·.size) = some 2 := by kernel_rfl

theorem ag_50 : AggT Try.prog 50 2 := ⟨⟨_,Try.underlying50,trivial⟩,by kernel_rfl⟩

theorem en_92 : En Try.prog 92 := En.of Try.func92 (by kernel_rfl) (by kernel_rfl)

theorem bt_107 : builtInfo Try.prog 107 = some ([.int .i64 0,.int .i64 0,.int .i64 0,.int .i64 0,.int .i64 0],[(0,1),(1,2),(3,2)]) := by kernel_rfl

theorem sl_100 : SlT Try.prog 100 107 5 40 (.agg #[.int .i64 0,.int .i64 0,.int .i64 0,.int .i64 0,.int .i64 0]) := SlT.of Try.underlying100 (by kernel_rfl) (by decide)

theorem sz_100 : (Try.prog.info? 100).map (·.size) = some 1 := by kernel_rfl

theorem ag_102 : AggT Try.prog 102 3 := ⟨⟨_,Try.underlying102,trivial⟩,by kernel_rfl⟩

theorem en_49 : En Try.prog 49 := En.of Try.func49 (by kernel_rfl) (by kernel_rfl)

theorem en_93 : En Try.prog 93 := En.of Try.func93 (by kernel_rfl) (by kernel_rfl)

theorem en_50 : En Try.prog 50 := En.of Try.func50 (by kernel_rfl) (by kernel_rfl)

theorem sz_107 : (Try.prog.info? 107).map (·.size) = some 5 := by kernel_rfl

theorem fa_107_1 : ∀ (q : Addr) (w : World),(Instr.fieldAt 107 (.pointer (some q)) 1).run Try.prog w = .ok (.pointer (some (q.add 1))) w := fun _ _ => by kernel_rfl

theorem fa_50_0 : ∀ (q : Addr) (w : World),(Instr.fieldAt 50 (.pointer (some q)) 0).run Try.prog w = .ok (.pointer (some (q.add 0))) w := fun _ _ => by kernel_rfl

theorem fa_50_1 : ∀ (q : Addr) (w : World),(Instr.fieldAt 50 (.pointer (some q)) 1).run Try.prog w = .ok (.pointer (some (q.add 1))) w := fun _ _ => by kernel_rfl

theorem en_47 : En Try.prog 47 := En.of Try.func47 (by kernel_rfl) (by kernel_rfl)

theorem zr_3 : (Try.prog.info? 3).map (·.zero) = some (some (.int .i64 0)) := by kernel_rfl

theorem zr_28 : (Try.prog.info? 28).map (·.zero) = some (some (.int .i64 0)) := by kernel_rfl

theorem en_96 : En Try.prog 96 := En.of Try.func96 (by kernel_rfl) (by kernel_rfl)

theorem fa_102_0 : ∀ (q : Addr) (w : World),(Instr.fieldAt 102 (.pointer (some q)) 0).run Try.prog w = .ok (.pointer (some (q.add 0))) w := fun _ _ => by kernel_rfl

theorem fa_102_1 : ∀ (q : Addr) (w : World),(Instr.fieldAt 102 (.pointer (some q)) 1).run Try.prog w = .ok (.pointer (some (q.add 1))) w := fun _ _ => by kernel_rfl

theorem en_121 : En Try.prog 121 := En.of Try.func121 (by kernel_rfl) (by kernel_rfl)

theorem ag_107 : AggT Try.prog 107 5 := ⟨⟨_,Try.underlying107,trivial⟩,by kernel_rfl⟩

theorem sc_203 : ScT Try.prog 203 := ⟨⟨_,Try.underlying203,trivial⟩,by kernel_rfl⟩

theorem fa_107_0 : ∀ (q : Addr) (w : World),(Instr.fieldAt 107 (.pointer (some q)) 0).run Try.prog w = .ok (.pointer (some (q.add 0))) w := fun _ _ => by kernel_rfl

theorem en_124 : En Try.prog 124 := En.of Try.func124 (by kernel_rfl) (by kernel_rfl)

theorem fa_107_2 : ∀ (q : Addr) (w : World),(Instr.fieldAt 107 (.pointer (some q)) 2).run Try.prog w = .ok (.pointer (some (q.add 3))) w := fun _ _ => by kernel_rfl

theorem en_123 : En Try.prog 123 := En.of Try.func123 (by kernel_rfl) (by kernel_rfl)

theorem en_144 : En Try.prog 144 := En.of Try.func144 (by kernel_rfl) (by kernel_rfl)

theorem en_150 : En Try.prog 150 := En.of Try.func150 (by kernel_rfl) (by kernel_rfl)

theorem en_143 : En Try.prog 143 := En.of Try.func143 (by kernel_rfl) (by kernel_rfl)

theorem en_122 : En Try.prog 122 := En.of Try.func122 (by kernel_rfl) (by kernel_rfl)

theorem en_126 : En Try.prog 126 := En.of Try.func126 (by kernel_rfl) (by kernel_rfl)

theorem en_125 : En Try.prog 125 := En.of Try.func125 (by kernel_rfl) (by kernel_rfl)

theorem en_94 : En Try.prog 94 := En.of Try.func94 (by kernel_rfl) (by kernel_rfl)

theorem sz_28 : (Try.prog.info? 28).map (·.size) = some 1 := by kernel_rfl

theorem en_95 : En Try.prog 95 := En.of Try.func95 (by kernel_rfl) (by kernel_rfl)

theorem zr_107 : (Try.prog.info? 107).map (·.zero) = some (some (.agg #[.int .i64 0,.int .i64 0,.int .i64 0,.int .i64 0,.int .i64 0])) := by kernel_rfl

theorem sc_28 : ScT Try.prog 28 := ⟨⟨_,Try.underlying28,trivial⟩,by kernel_rfl⟩

theorem en_127 : En Try.prog 127 := En.of Try.func127 (by kernel_rfl) (by kernel_rfl)

theorem en_51 : En Try.prog 51 := En.of Try.func51 (by kernel_rfl) (by kernel_rfl)

theorem zr_44 : (Try.prog.info? 44).map (·.zero) = some (some (.slice none 0 0)) := by kernel_rfl

theorem sc_44 : ScT Try.prog 44 := ⟨⟨_,Try.underlying44,trivial⟩,by kernel_rfl⟩

theorem en_129 : En Try.prog 129 := En.of Try.func129 (by kernel_rfl) (by kernel_rfl)

theorem sl_44 : SlT Try.prog 44 50 2 16 (.agg #[.int .i64 0,.int .i64 0]) := SlT.of Try.underlying44 (by kernel_rfl) (by decide)

theorem en_128 : En Try.prog 128 := En.of Try.func128 (by kernel_rfl) (by kernel_rfl)

theorem sz_44 : (Try.prog.info? 44).map (·.size) = some 1 := by kernel_rfl

theorem en_97 : En Try.prog 97 := En.of Try.func97 (by kernel_rfl) (by kernel_rfl)

theorem en_98 : En Try.prog 98 := En.of Try.func98 (by kernel_rfl) (by kernel_rfl)

theorem en_52 : En Try.prog 52 := En.of Try.func52 (by kernel_rfl) (by kernel_rfl)

theorem bt_77 : builtInfo Try.prog 77 = some ([.int .i64 0,.int .i64 0],[(0,1),(1,1)]) := by kernel_rfl

theorem sl_22 : SlT Try.prog 22 77 2 16 (.agg #[.int .i64 0,.int .i64 0]) := SlT.of Try.underlying22 (by kernel_rfl) (by decide)

theorem en_39 : En Try.prog 39 := En.of Try.func39 (by kernel_rfl) (by kernel_rfl)

theorem bt_71 : builtInfo Try.prog 71 = some ([.int .i64 0,.int .i64 0,.int .i64 0,.int .i64 0],[(0,1),(1,1),(2,2)]) := by kernel_rfl

theorem sl_23 : SlT Try.prog 23 71 4 32 (.agg #[.int .i64 0,.int .i64 0,.int .i64 0,.int .i64 0]) := SlT.of Try.underlying23 (by kernel_rfl) (by decide)

theorem bt_25 : builtInfo Try.prog 25 = some ([.slice none 0 0,.slice none 0 0],[(0,1),(1,1)]) := by kernel_rfl

theorem ag_25 : AggT Try.prog 25 2 := ⟨⟨_,Try.underlying25,trivial⟩,by kernel_rfl⟩

theorem fa_25_0 : ∀ (q : Addr) (w : World),(Instr.fieldAt 25 (.pointer (some q)) 0).run Try.prog w = .ok (.pointer (some (q.add 0))) w := fun _ _ => by kernel_rfl

theorem sc_22 : ScT Try.prog 22 := ⟨⟨_,Try.underlying22,trivial⟩,by kernel_rfl⟩

theorem en_59 : En Try.prog 59 := En.of Try.func59 (by kernel_rfl) (by kernel_rfl)

theorem sz_77 : (Try.prog.info? 77).map (·.size) = some 2 := by kernel_rfl

theorem ag_77 : AggT Try.prog 77 2 := ⟨⟨_,Try.underlying77,trivial⟩,by kernel_rfl⟩

theorem sc_191 : ScT Try.prog 191 := ⟨⟨_,Try.underlying191,trivial⟩,by kernel_rfl⟩

theorem fa_77_0 : ∀ (q : Addr) (w : World),(Instr.fieldAt 77 (.pointer (some q)) 0).run Try.prog w = .ok (.pointer (some (q.add 0))) w := fun _ _ => by kernel_rfl

theorem en_62 : En Try.prog 62 := En.of Try.func62 (by kernel_rfl) (by kernel_rfl)

theorem fa_77_1 : ∀ (q : Addr) (w : World),(Instr.fieldAt 77 (.pointer (some q)) 1).run Try.prog w = .ok (.pointer (some (q.add 1))) w := fun _ _ => by kernel_rfl

theorem en_63 : En Try.prog 63 := En.of Try.func63 (by kernel_rfl) (by kernel_rfl)

theorem en_101 : En Try.prog 101 := En.of Try.func101 (by kernel_rfl) (by kernel_rfl)

theorem en_134 : En Try.prog 134 := En.of Try.func134 (by kernel_rfl) (by kernel_rfl)

theorem en_105 : En Try.prog 105 := En.of Try.func105 (by kernel_rfl) (by kernel_rfl)

theorem en_133 : En Try.prog 133 := En.of Try.func133 (by kernel_rfl) (by kernel_rfl)

theorem en_100 : En Try.prog 100 := En.of Try.func100 (by kernel_rfl) (by kernel_rfl)

theorem en_58 : En Try.prog 58 := En.of Try.func58 (by kernel_rfl) (by kernel_rfl)

theorem fa_25_1 : ∀ (q : Addr) (w : World),(Instr.fieldAt 25 (.pointer (some q)) 1).run Try.prog w = .ok (.pointer (some (q.add 1))) w := fun _ _ => by kernel_rfl

theorem sc_23 : ScT Try.prog 23 := ⟨⟨_,Try.underlying23,trivial⟩,by kernel_rfl⟩

theorem sz_71 : (Try.prog.info? 71).map (·.size) = some 4 := by kernel_rfl

theorem ag_71 : AggT Try.prog 71 4 := ⟨⟨_,Try.underlying71,trivial⟩,by kernel_rfl⟩

theorem sc_126 : ScT Try.prog 126 := ⟨⟨_,Try.underlying126,trivial⟩,by kernel_rfl⟩

theorem fa_71_0 : ∀ (q : Addr) (w : World),(Instr.fieldAt 71 (.pointer (some q)) 0).run Try.prog w = .ok (.pointer (some (q.add 0))) w := fun _ _ => by kernel_rfl

theorem fa_71_1 : ∀ (q : Addr) (w : World),(Instr.fieldAt 71 (.pointer (some q)) 1).run Try.prog w = .ok (.pointer (some (q.add 1))) w := fun _ _ => by kernel_rfl

theorem fa_71_2 : ∀ (q : Addr) (w : World),(Instr.fieldAt 71 (.pointer (some q)) 2).run Try.prog w = .ok (.pointer (some (q.add 2))) w := fun _ _ => by kernel_rfl

theorem en_61 : En Try.prog 61 := En.of Try.func61 (by kernel_rfl) (by kernel_rfl)

theorem en_103 : En Try.prog 103 := En.of Try.func103 (by kernel_rfl) (by kernel_rfl)

theorem en_135 : En Try.prog 135 := En.of Try.func135 (by kernel_rfl) (by kernel_rfl)

theorem en_102 : En Try.prog 102 := En.of Try.func102 (by kernel_rfl) (by kernel_rfl)

theorem en_60 : En Try.prog 60 := En.of Try.func60 (by kernel_rfl) (by kernel_rfl)

theorem en_64 : En Try.prog 64 := En.of Try.func64 (by kernel_rfl) (by kernel_rfl)

theorem zr_71 : (Try.prog.info? 71).map (·.zero) = some (some (.agg #[.int .i64 0,.int .i64 0,.int .i64 0,.int .i64 0])) := by kernel_rfl

theorem en_14 : En Try.prog 14 := En.of Try.func14 (by kernel_rfl) (by kernel_rfl)

theorem bt_140 : builtInfo Try.prog 140 = some ([.slice none 0 0,.slice none 0 0,.slice none 0 0],[(0,2),(2,1)]) := by kernel_rfl

theorem zr_194 : (Try.prog.info? 194).map (·.zero) = some (some (.nilFunc)) := by kernel_rfl

theorem sz_194 : (Try.prog.info? 194).map (·.size) = some 1 := by kernel_rfl

theorem en_82 : En Try.prog 82 := En.of Try.func82 (by kernel_rfl) (by kernel_rfl)

theorem sc_194 : ScT Try.prog 194 := ⟨⟨_,Try.underlying194,trivial⟩,by kernel_rfl⟩

theorem fa_140_0 : ∀ (q : Addr) (w : World),(Instr.fieldAt 140 (.pointer (some q)) 0).run Try.prog w = .ok (.pointer (some (q.add 0))) w := fun _ _ => by kernel_rfl

theorem zr_37 : (Try.prog.info? 37).map (·.zero) = some (some (.agg #[.int .i64 0,.int .i64 0])) := by kernel_rfl

theorem zr_77 : (Try.prog.info? 77).map (·.zero) = some (some (.agg #[.int .i64 0,.int .i64 0])) := by kernel_rfl

theorem bt_37 : builtInfo Try.prog 37 = some ([.int .i64 0,.int .i64 0],[(0,1),(1,1)]) := by kernel_rfl

theorem sz_37 : (Try.prog.info? 37).map (·.size) = some 2 := by kernel_rfl

theorem en_106 : En Try.prog 106 := En.of Try.func106 (by kernel_rfl) (by kernel_rfl)

theorem ag_37 : AggT Try.prog 37 2 := ⟨⟨_,Try.underlying37,trivial⟩,by kernel_rfl⟩

theorem en_71 : En Try.prog 71 := En.of Try.func71 (by kernel_rfl) (by kernel_rfl)

theorem en_104 : En Try.prog 104 := En.of Try.func104 (by kernel_rfl) (by kernel_rfl)

theorem en_69 : En Try.prog 69 := En.of Try.func69 (by kernel_rfl) (by kernel_rfl)

theorem fa_37_0 : ∀ (q : Addr) (w : World),(Instr.fieldAt 37 (.pointer (some q)) 0).run Try.prog w = .ok (.pointer (some (q.add 0))) w := fun _ _ => by kernel_rfl

theorem fa_37_1 : ∀ (q : Addr) (w : World),(Instr.fieldAt 37 (.pointer (some q)) 1).run Try.prog w = .ok (.pointer (some (q.add 1))) w := fun _ _ => by kernel_rfl

theorem en_107 : En Try.prog 107 := En.of Try.func107 (by kernel_rfl) (by kernel_rfl)

theorem fa_140_1 : ∀ (q : Addr) (w : World),(Instr.fieldAt 140 (.pointer (some q)) 1).run Try.prog w = .ok (.pointer (some (q.add 2))) w := fun _ _ => by kernel_rfl

theorem en_113 : En Try.prog 113 := En.of Try.func113 (by kernel_rfl) (by kernel_rfl)

theorem en_73 : En Try.prog 73 := En.of Try.func73 (by kernel_rfl) (by kernel_rfl)

theorem en_22 : En Try.prog 22 := En.of Try.func22 (by kernel_rfl) (by kernel_rfl)

theorem zr_25 : (Try.prog.info? 25).map (·.zero) = some (some (.agg #[.slice none 0 0,.slice none 0 0])) := by kernel_rfl

theorem sz_25 : (Try.prog.info? 25).map (·.size) = some 2 := by kernel_rfl

theorem en_55 : En Try.prog 55 := En.of Try.func55 (by kernel_rfl) (by kernel_rfl)

theorem en_68 : En Try.prog 68 := En.of Try.func68 (by kernel_rfl) (by kernel_rfl)

theorem en_17 : En Try.prog 17 := En.of Try.func17 (by kernel_rfl) (by kernel_rfl)

theorem en_20 : En Try.prog 20 := En.of Try.func20 (by kernel_rfl) (by kernel_rfl)

theorem ge_37 : Try.prog.eqGuardType Try.prog.depth 37 = false := by kernel_rfl

theorem eqs_37 (x0 : Int) (x1 : Int) (y0 : Int) (y1 : Int) (w : World) : (Op.equalIn 10000 37 (.agg #[.int .i64 x0,.int .i64 x1]) (.agg #[.int .i64 y0,.int .i64 y1])).run Try.prog w = .ok (x0 == y0 && x1 == y1) w := by
 rw [run_equalIn_agg w 9999 37 _ _ (by kernel_rfl) (by kernel_rfl)]
 simp [Op.eqFields,part,go_sem]
 repeat' split
 all_goals simp_all

theorem en_79 : En Try.prog 79 := En.of Try.func79 (by kernel_rfl) (by kernel_rfl)

theorem en_43 : En Try.prog 43 := En.of Try.func43 (by kernel_rfl) (by kernel_rfl)

theorem zr_155 : (Try.prog.info? 155).map (·.zero) = some (some (.agg (catc [] 601 encI_i64 (fun _ => 0) []).toArray)) := by kernel_rfl

theorem en_136 : En Try.prog 136 := En.of Try.func136 (by kernel_rfl) (by kernel_rfl)

@[reducible] def encA_155 (x : Nat → Int) : List Value := catc [] 601 encI_i64 x []
theorem one_encA_155 : ∀ x,(encA_155 x).length = 601 ∧ ones (encA_155 x) = true := fun x => ⟨(catc_one one_encI_i64 601 x).1.trans (by decide),(catc_one one_encI_i64 601 x).2⟩

theorem ag_155 : AggT Try.prog 155 601 := ⟨⟨_,Try.underlying155,trivial⟩,by kernel_rfl⟩

theorem sl_152 : SlT Try.prog 152 155 601 4808 (.agg (catc [] 601 encI_i64 (fun _ => 0) []).toArray) := SlT.of Try.underlying152 (by kernel_rfl) (by decide)

theorem sc_211 : ScT Try.prog 211 := ⟨⟨_,Try.underlying211,trivial⟩,by kernel_rfl⟩

theorem sz_155 : (Try.prog.info? 155).map (·.size) = some 601 := by kernel_rfl

theorem en_137 : En Try.prog 137 := En.of Try.func137 (by kernel_rfl) (by kernel_rfl)

theorem en_108 : En Try.prog 108 := En.of Try.func108 (by kernel_rfl) (by kernel_rfl)

theorem en_112 : En Try.prog 112 := En.of Try.func112 (by kernel_rfl) (by kernel_rfl)

theorem en_80 : En Try.prog 80 := En.of Try.func80 (by kernel_rfl) (by kernel_rfl)

theorem en_81 : En Try.prog 81 := En.of Try.func81 (by kernel_rfl) (by kernel_rfl)

theorem zr_61 : (Try.prog.info? 61).map (·.zero) = some (some (.slice none 0 0)) := by kernel_rfl

theorem en_114 : En Try.prog 114 := En.of Try.func114 (by kernel_rfl) (by kernel_rfl)

theorem en_83 : En Try.prog 83 := En.of Try.func83 (by kernel_rfl) (by kernel_rfl)

theorem en_33 : En Try.prog 33 := En.of Try.func33 (by kernel_rfl) (by kernel_rfl)

theorem bt_91 : builtInfo Try.prog 91 = some ([.int .i64 0,.bool false],[(0,1),(1,1)]) := by kernel_rfl

theorem sl_87 : SlT Try.prog 87 91 2 16 (.agg #[.int .i64 0,.bool false]) := SlT.of Try.underlying87 (by kernel_rfl) (by decide)

theorem sz_91 : (Try.prog.info? 91).map (·.size) = some 2 := by kernel_rfl

theorem ag_91 : AggT Try.prog 91 2 := ⟨⟨_,Try.underlying91,trivial⟩,by kernel_rfl⟩

theorem sc_165 : ScT Try.prog 165 := ⟨⟨_,Try.underlying165,trivial⟩,by kernel_rfl⟩

theorem fa_91_0 : ∀ (q : Addr) (w : World),(Instr.fieldAt 91 (.pointer (some q)) 0).run Try.prog w = .ok (.pointer (some (q.add 0))) w := fun _ _ => by kernel_rfl

theorem en_90 : En Try.prog 90 := En.of Try.func90 (by kernel_rfl) (by kernel_rfl)

theorem en_118 : En Try.prog 118 := En.of Try.func118 (by kernel_rfl) (by kernel_rfl)

theorem en_142 : En Try.prog 142 := En.of Try.func142 (by kernel_rfl) (by kernel_rfl)

theorem en_117 : En Try.prog 117 := En.of Try.func117 (by kernel_rfl) (by kernel_rfl)

theorem en_89 : En Try.prog 89 := En.of Try.func89 (by kernel_rfl) (by kernel_rfl)

theorem zr_91 : (Try.prog.info? 91).map (·.zero) = some (some (.agg #[.int .i64 0,.bool false])) := by kernel_rfl

theorem fa_91_1 : ∀ (q : Addr) (w : World),(Instr.fieldAt 91 (.pointer (some q)) 1).run Try.prog w = .ok (.pointer (some (q.add 1))) w := fun _ _ => by kernel_rfl

theorem sc_4 : ScT Try.prog 4 := ⟨⟨_,Try.underlying4,trivial⟩,by kernel_rfl⟩

theorem zr_168 : (Try.prog.info? 168).map (·.zero) = some (some (.agg #[.nilFunc])) := by kernel_rfl

theorem bt_168 : builtInfo Try.prog 168 = some ([.nilFunc],[(0,1)]) := by kernel_rfl

theorem sz_168 : (Try.prog.info? 168).map (·.size) = some 1 := by kernel_rfl

theorem ag_168 : AggT Try.prog 168 1 := ⟨⟨_,Try.underlying168,trivial⟩,by kernel_rfl⟩

theorem en_91 : En Try.prog 91 := En.of Try.func91 (by kernel_rfl) (by kernel_rfl)

theorem sc_166 : ScT Try.prog 166 := ⟨⟨_,Try.underlying166,trivial⟩,by kernel_rfl⟩

theorem en_119 : En Try.prog 119 := En.of Try.func119 (by kernel_rfl) (by kernel_rfl)

theorem en_120 : En Try.prog 120 := En.of Try.func120 (by kernel_rfl) (by kernel_rfl)

theorem en_46 : En Try.prog 46 := En.of Try.func46 (by kernel_rfl) (by kernel_rfl)

theorem zr_152 : (Try.prog.info? 152).map (·.zero) = some (some (.slice none 0 0)) := by kernel_rfl

theorem sz_152 : (Try.prog.info? 152).map (·.size) = some 1 := by kernel_rfl

theorem sc_152 : ScT Try.prog 152 := ⟨⟨_,Try.underlying152,trivial⟩,by kernel_rfl⟩

theorem en_76 : En Try.prog 76 := En.of Try.func76 (by kernel_rfl) (by kernel_rfl)

theorem en_27 : En Try.prog 27 := En.of Try.func27 (by kernel_rfl) (by kernel_rfl)

theorem en_78 : En Try.prog 78 := En.of Try.func78 (by kernel_rfl) (by kernel_rfl)

theorem en_29 : En Try.prog 29 := En.of Try.func29 (by kernel_rfl) (by kernel_rfl)

theorem ge_50 : Try.prog.eqGuardType Try.prog.depth 50 = false := by kernel_rfl

theorem eqs_50 (x0 : Int) (x1 : Int) (y0 : Int) (y1 : Int) (w : World) : (Op.equalIn 10000 50 (.agg #[.int .i64 x0,.int .i64 x1]) (.agg #[.int .i64 y0,.int .i64 y1])).run Try.prog w = .ok (x0 == y0 && x1 == y1) w := by
 rw [run_equalIn_agg w 9999 50 _ _ (by kernel_rfl) (by kernel_rfl)]
 simp [Op.eqFields,part,go_sem]
 repeat' split
 all_goals simp_all

theorem en_24 : En Try.prog 24 := En.of Try.func24 (by kernel_rfl) (by kernel_rfl)

theorem en_56 : En Try.prog 56 := En.of Try.func56 (by kernel_rfl) (by kernel_rfl)

theorem en_12 : En Try.prog 12 := En.of Try.func12 (by kernel_rfl) (by kernel_rfl)

def kit_New (N : Nat) (bytes : List Int) : Option (Int × Int) :=
 some (0,0)
theorem kit_New_ok {N : Nat} {G : Pers} {Lf : List Ent} {w : World} (bytes : List Int) {bytes_p : Option Addr} {bytes_c : Nat} (h_bytes : Rd G 1 bytes_p bytes_c (bytes.map encI_u8)) (hc : Ctx G (Lf) w) {res : Int × Int} (hF : kit_New N bytes = some res) : Calls Try.prog 32 #[.slice bytes_p bytes.length bytes_c] w (fun e w => ∃ (b'1 : Nat),e = .returned (.pointer (some ⟨b'1,0,none⟩)) ∧ Ctx G (.box b'1 [.slice bytes_p bytes.length bytes_c,.int .i64 res.1,.int .i64 res.2] 151::Lf) w) := by
 unfold kit_New at hF
 refine fnIn (args := [.slice bytes_p bytes.length bytes_c]) Try.func32 rfl Try.ntmps32 rfl fun a hf => wp_seq_k fun K1 h1 => cReg ?_
 refine stP hf rfl rfl rfl (pA rfl) fun a hf => cNil ?_
 refine h1 _ _ ?_
 refine wp_seq_k fun K2 h2 => cReg ?_
 refine stP hf rfl rfl rfl (pM rfl) fun a hf => stP hf rfl rfl rfl (pBuildS (cells := [.slice bytes_p bytes.length bytes_c,.int .i64 0,.int .i64 0]) bt_151 rfl rfl) fun a hf => stBx (cs := [.slice bytes_p bytes.length bytes_c,.int .i64 0,.int .i64 0]) hf hc rfl rfl rfl rfl fun b_1 a w hf hc => stP hf rfl rfl rfl (pA rfl) fun a hf => cNil ?_
 refine h2 _ _ ?_
 refine wp_ret ?_
 obtain rfl := Option.some.inj hF
 exact fnOut1 (by simp) rfl Try.results32 hf hc (show look _ 2 = _ from rfl) ⟨b_1,rfl,hc⟩

def kit_Stream_Next_j9 (N : Nat) (s_ : kit_Stream) (n : Int) (b_2 : Int) (b_3 : Int) : Option (Int × Int × Int) :=
 Option.bind (nz n) fun un_1 =>
 some (b_3.tmod n,W (s_.used + 1),(W ((W ((W (5 * s_.mix)) + b_2)) + 1)).tmod 251)
def kit_Stream_Next_j6 (N : Nat) (s_ : kit_Stream) (n : Int) (b_2 : Int) : Option (Int × Int × Int) :=
 cond (decide (256 < n))
 (kit_Stream_Next_j9 N s_ n b_2 (W ((W (256 * b_2)) + ((W ((W ((W (5 * s_.mix)) + b_2)) + 1)).tmod 251))))
 (kit_Stream_Next_j9 N s_ n b_2 b_2)
def kit_Stream_Next (N : Nat) (s_ : kit_Stream) (n : Int) : Option (Int × Int × Int) :=
 cond ((decide (n < 2)) || (((s_.bytes.length : Nat) : Int) == 0))
 (some (0,s_.used,s_.mix))
 (Option.bind (nz ((s_.bytes.length : Nat) : Int)) fun un =>
 Option.bind (getI s_.bytes (s_.used.tmod ((s_.bytes.length : Nat) : Int))) fun e_1 =>
 cond (decide (((s_.bytes.length : Nat) : Int) ≤ s_.used))
 (Option.bind (nz ((s_.bytes.length : Nat) : Int)) fun un_2 =>
 kit_Stream_Next_j6 N s_ n (W ((W (e_1)) + (W ((W (11 * s_.mix)) + (W (s_.used.tdiv ((s_.bytes.length : Nat) : Int))))))))
 (kit_Stream_Next_j6 N s_ n (W (e_1))))
theorem kit_Stream_Next_ok {N : Nat} {G : Pers} {Lf : List Ent} {w : World} (s_ : kit_Stream) (n : Int) {b_ : Nat} {s__bytes_p : Option Addr} {s__bytes_c : Nat} (h_s__bytes : Rd G 1 s__bytes_p s__bytes_c (s_.bytes.map encI_u8)) (hc : Ctx G (.box b_ [.slice s__bytes_p s_.bytes.length s__bytes_c,.int .i64 s_.used,.int .i64 s_.mix] 151::Lf) w) {res : Int × Int × Int} (hF : kit_Stream_Next N s_ n = some res) : Calls Try.prog 38 #[.pointer (some ⟨b_,0,none⟩),.int .i64 n] w (fun e w => e = .returned (.int .i64 res.1) ∧ Ctx G (.box b_ [.slice s__bytes_p s_.bytes.length s__bytes_c,.int .i64 res.2.1,.int .i64 res.2.2] 151::Lf) w) := by
 unfold kit_Stream_Next at hF
 refine fnIn (args := [.pointer (some ⟨b_,0,none⟩),.int .i64 n]) Try.func38 rfl Try.ntmps38 rfl fun a hf => wp_seq_k fun K1 h1 => cReg ?_
 refine stP hf rfl rfl rfl (pA rfl) fun a hf => cNil ?_
 refine h1 _ _ ?_
 refine wp_seq_k fun K2 h2 => wp_seq_k fun K3 h3 => cReg ?_
 refine stP hf rfl rfl rfl (pM rfl) fun a hf => stP hf rfl rfl rfl (pLt rfl rfl) fun a hf => stP hf rfl rfl rfl (pM rfl) fun a hf => stCut 7 (fun a w => Has 92 a [(0,.pointer (some ⟨b_,0,none⟩)),(1,.int .i64 n),(6,.int .i64 n),(7,.bool (decide (n < 2))),(8,.bool (decide (n < 2))),(15,.bool ((decide (n < 2)) || (((s_.bytes.length : Nat) : Int) == 0)))] ∧ Ctx G (.box b_ [.slice s__bytes_p s_.bytes.length s__bytes_c,.int .i64 s_.used,.int .i64 s_.mix] 151::Lf) w) ?_ ?_
 ·cases hb : (decide (n < 2))
  ·rw [hb] at hf
   refine stP hf rfl rfl rfl (pM rfl) fun a hf => stP hf rfl rfl rfl (pNC rfl) fun a hf => stP hf rfl rfl rfl (pFA fa_151_0 rfl) fun a hf => stE hf hc rfl rfl rfl (eLd1 sc_60 rfl (cell_box m0 rfl)) fun a w hf hc => stP hf rfl rfl rfl (pLenS Try.underlying60 rfl) fun a hf => stP hf rfl rfl rfl (pEq rfl rfl) fun a hf => stP hf rfl rfl rfl (pPf rfl rfl) fun a hf => cNil ⟨hf.keep ⟨rfl,rfl,rfl,rfl,rfl,rfl,trivial⟩,hc⟩
  ·rw [hb] at hf
   refine stS hf rfl rfl rfl fun a hf => stS hf rfl rfl rfl fun a hf => stS hf rfl rfl rfl fun a hf => stS hf rfl rfl rfl fun a hf => stS hf rfl rfl rfl fun a hf => stS hf rfl rfl rfl fun a hf => stP hf rfl rfl rfl (pPt rfl rfl) fun a hf => cNil ⟨hf.keep ⟨rfl,rfl,rfl,rfl,rfl,rfl,trivial⟩,hc⟩
 intro a w ⟨hf,hc⟩
 refine cNil ?_
 refine h3 _ _ ?_
 refine cCond (b := ((decide (n < 2)) || (((s_.bytes.length : Nat) : Int) == 0))) hf rfl (fun hb => ?_) (fun hb => ?_)
 ·replace hF := condT hb hF
  clear hb
  refine wp_seq_k fun K4 h4 => cReg ?_
  refine stP hf rfl rfl rfl (pA rfl) fun a hf => cNil ?_
  refine h4 _ _ ?_
  refine wp_ret ?_
  refine xThenR ?_
  obtain rfl := Option.some.inj hF
  exact fnOut1 (by simp) rfl Try.results38 hf hc (show look _ 4 = _ from rfl) ⟨rfl,hc⟩
 ·replace hF := condF hb hF
  clear hb
  refine wp_skip ?_
  refine h2 _ _ ?_
  refine wp_seq_k fun K5 h5 => ?_
  obtain ⟨un,hun,hF⟩ := bnd_some hF
  obtain ⟨e_1,he_1,hF⟩ := bnd_some hF
  obtain ⟨b_1,o,qa,qp⟩ := h_s__bytes.atm he_1
  refine cQ hc follows_mx (by kernel_rfl) ?_
  refine qE hf rfl rfl rfl (Pu.ev (pM rfl)) fun a hf => qE hf rfl rfl rfl (Pu.ev (pNC rfl)) fun a hf => qE hf rfl rfl rfl (Pu.ev (pFA fa_151_0 rfl)) fun a hf => qE hf rfl rfl rfl (eLd1 sc_60 rfl (cell_box m0 rfl)) fun a hf => qE hf rfl rfl rfl (Pu.ev (pM rfl)) fun a hf => qE hf rfl rfl rfl (Pu.ev (pNC rfl)) fun a hf => qE hf rfl rfl rfl (Pu.ev (pFA fa_151_1 rfl)) fun a hf => qE hf rfl rfl rfl (eLd1 sc_3 rfl (cell_box m0 rfl)) fun a hf => qE hf rfl rfl rfl (Pu.ev (pM rfl)) fun a hf => qE hf rfl rfl rfl (Pu.ev (pNC rfl)) fun a hf => qE hf rfl rfl rfl (Pu.ev (pFA fa_151_0 rfl)) fun a hf => qE hf rfl rfl rfl (eLd1 sc_60 rfl (cell_box m0 rfl)) fun a hf => qE hf rfl rfl rfl (Pu.ev (pLenS Try.underlying60 rfl)) fun a hf => ?_
  refine qE hf rfl rfl rfl (Pu.ev (pRem rfl rfl (nz_spec hun))) fun a hf => qE hf rfl rfl rfl (Pu.ev (pIA Try.underlying60 sz_5 rfl rfl qa)) fun a hf => qE hf rfl rfl rfl (eLd1 sc_5 rfl (cell_pc (j := 0) qp rfl)) fun a hf => qE hf rfl rfl rfl (Pu.ev (pCv Try.underlying5 Try.underlying3 rfl)) fun a hf => qE hf rfl rfl rfl (Pu.ev (pA rfl)) fun a hf => ?_
  intro w hc
  refine h5 _ _ ?_
  refine wp_seq_k fun K6 h6 => ?_
  have hj6 : ∀ (b_2 : Int) a w,Has 92 a [(0,.pointer (some ⟨b_,0,none⟩)),(1,.int .i64 n),(5,.int .i64 b_2)] → Ctx G (.box b_ [.slice s__bytes_p s_.bytes.length s__bytes_c,.int .i64 s_.used,.int .i64 s_.mix] 151::Lf) w → kit_Stream_Next_j6 N s_ n b_2 = some res → K6 a w := by
   repeat (clear hF)
   repeat (clear hc)
   repeat (clear hf)
   intro b_2 a w hf hc hF
   unfold kit_Stream_Next_j6 at hF
   refine h6 _ _ ?_
   refine wp_seq_k fun K7 h7 => cReg ?_
   refine stP hf rfl rfl rfl (pM rfl) fun a hf => stP hf rfl rfl rfl (pM rfl) fun a hf => stP hf rfl rfl rfl (pNC rfl) fun a hf => stP hf rfl rfl rfl (pFA fa_151_2 rfl) fun a hf => stE hf hc rfl rfl rfl (eLd1 sc_3 rfl (cell_box m0 rfl)) fun a w hf hc => stP hf rfl rfl rfl (pMul rfl rfl) fun a hf => stP hf rfl rfl rfl (pM rfl) fun a hf => stP hf rfl rfl rfl (pAdd rfl rfl) fun a hf => stP hf rfl rfl rfl (pAdd rfl rfl) fun a hf => stP hf rfl rfl rfl (pRem rfl rfl (by decide)) fun a hf => stP hf rfl rfl rfl (pNC rfl) fun a hf => stP hf rfl rfl rfl (pFA fa_151_2 rfl) fun a hf => stSt (vs := [.int .i64 ((W ((W ((W (5 * s_.mix)) + b_2)) + 1)).tmod 251)]) hf hc rfl rfl rfl rfl sz_3 rfl rfl u0 fun w hc => ?_
   refine cNil ?_
   refine h7 _ _ ?_
   refine wp_seq_k fun K8 h8 => cReg ?_
   refine stP hf rfl rfl rfl (pM rfl) fun a hf => stP hf rfl rfl rfl (pNC rfl) fun a hf => stP hf rfl rfl rfl (pFA fa_151_1 rfl) fun a hf => stE hf hc rfl rfl rfl (eLd1 sc_3 rfl (cell_box m0 rfl)) fun a w hf hc => stP hf rfl rfl rfl (pAdd rfl rfl) fun a hf => stP hf rfl rfl rfl (pNC rfl) fun a hf => stP hf rfl rfl rfl (pFA fa_151_1 rfl) fun a hf => stSt (vs := [.int .i64 (W (s_.used + 1))]) hf hc rfl rfl rfl rfl sz_3 rfl rfl u0 fun w hc => cNil ?_
   refine h8 _ _ ?_
   refine wp_seq_k fun K9 h9 => ?_
   have hj9 : ∀ (b_3 : Int) a w,Has 92 a [(1,.int .i64 n),(5,.int .i64 b_3)] → Ctx G (.box b_ [.slice s__bytes_p s_.bytes.length s__bytes_c,.int .i64 (W (s_.used + 1)),.int .i64 ((W ((W ((W (5 * s_.mix)) + b_2)) + 1)).tmod 251)] 151::Lf) w → kit_Stream_Next_j9 N s_ n b_2 b_3 = some res → K9 a w := by
    repeat (clear hF)
    repeat (clear hc)
    repeat (clear hf)
    intro b_3 a w hf hc hF
    unfold kit_Stream_Next_j9 at hF
    refine h9 _ _ ?_
    refine wp_seq_k fun K10 h10 => cReg ?_
    refine stP hf rfl rfl rfl (pM rfl) fun a hf => stP hf rfl rfl rfl (pM rfl) fun a hf => ?_
    obtain ⟨un_1,hun_1,hF⟩ := bnd_some hF
    refine stP hf rfl rfl rfl (pRem rfl rfl (nz_spec hun_1)) fun a hf => stP hf rfl rfl rfl (pA rfl) fun a hf => cNil ?_
    refine h10 _ _ ?_
    refine wp_ret ?_
    obtain rfl := Option.some.inj hF
    exact fnOut1 (by simp) rfl Try.results38 hf hc (show look _ 4 = _ from rfl) ⟨rfl,hc⟩
   refine wp_seq_k fun K11 h11 => cReg ?_
   refine stP hf rfl rfl rfl (pM rfl) fun a hf => stP hf rfl rfl rfl (pGt rfl rfl) fun a hf => cNil ?_
   refine h11 _ _ ?_
   refine cCond (b := (decide (256 < n))) hf rfl (fun hb => ?_) (fun hb => ?_)
   ·replace hF := condT hb hF
    clear hb
    refine cReg ?_
    refine stP hf rfl rfl rfl (pM rfl) fun a hf => stP hf rfl rfl rfl (pMul rfl rfl) fun a hf => stP hf rfl rfl rfl (pM rfl) fun a hf => stP hf rfl rfl rfl (pNC rfl) fun a hf => stP hf rfl rfl rfl (pFA fa_151_2 rfl) fun a hf => stE hf hc rfl rfl rfl (eLd1 sc_3 rfl (cell_box m0 rfl)) fun a w hf hc => stP hf rfl rfl rfl (pAdd rfl rfl) fun a hf => stP hf rfl rfl rfl (pA rfl) fun a hf => cNil ?_
    exact hj9 (W ((W (256 * b_2)) + ((W ((W ((W (5 * s_.mix)) + b_2)) + 1)).tmod 251))) _ _  (hf.keep ⟨rfl,rfl,trivial⟩) hc hF
   ·replace hF := condF hb hF
    clear hb
    refine wp_skip ?_
    exact hj9 b_2 _ _  (hf.keep ⟨rfl,rfl,trivial⟩) hc hF
  refine wp_seq_k fun K12 h12 => cQ hc follows_mx (by kernel_rfl) ?_
  refine qE hf rfl rfl rfl (Pu.ev (pM rfl)) fun a hf => qE hf rfl rfl rfl (Pu.ev (pNC rfl)) fun a hf => qE hf rfl rfl rfl (Pu.ev (pFA fa_151_1 rfl)) fun a hf => qE hf rfl rfl rfl (eLd1 sc_3 rfl (cell_box m0 rfl)) fun a hf => qE hf rfl rfl rfl (Pu.ev (pM rfl)) fun a hf => qE hf rfl rfl rfl (Pu.ev (pNC rfl)) fun a hf => qE hf rfl rfl rfl (Pu.ev (pFA fa_151_0 rfl)) fun a hf => qE hf rfl rfl rfl (eLd1 sc_60 rfl (cell_box m0 rfl)) fun a hf => qE hf rfl rfl rfl (Pu.ev (pLenS Try.underlying60 rfl)) fun a hf => qE hf rfl rfl rfl (Pu.ev (pGe rfl rfl)) fun a hf => ?_
  intro w hc
  refine h12 _ _ ?_
  refine cCond (b := (decide (((s_.bytes.length : Nat) : Int) ≤ s_.used))) hf rfl (fun hb => ?_) (fun hb => ?_)
  ·replace hF := condT hb hF
   clear hb
   obtain ⟨un_2,hun_2,hF⟩ := bnd_some hF
   refine cQ hc follows_mx (by kernel_rfl) ?_
   refine qE hf rfl rfl rfl (Pu.ev (pM rfl)) fun a hf => qE hf rfl rfl rfl (Pu.ev (pM rfl)) fun a hf => qE hf rfl rfl rfl (Pu.ev (pNC rfl)) fun a hf => qE hf rfl rfl rfl (Pu.ev (pFA fa_151_2 rfl)) fun a hf => qE hf rfl rfl rfl (eLd1 sc_3 rfl (cell_box m0 rfl)) fun a hf => qE hf rfl rfl rfl (Pu.ev (pMul rfl rfl)) fun a hf => qE hf rfl rfl rfl (Pu.ev (pM rfl)) fun a hf => qE hf rfl rfl rfl (Pu.ev (pNC rfl)) fun a hf => qE hf rfl rfl rfl (Pu.ev (pFA fa_151_1 rfl)) fun a hf => qE hf rfl rfl rfl (eLd1 sc_3 rfl (cell_box m0 rfl)) fun a hf => qE hf rfl rfl rfl (Pu.ev (pM rfl)) fun a hf => qE hf rfl rfl rfl (Pu.ev (pNC rfl)) fun a hf => qE hf rfl rfl rfl (Pu.ev (pFA fa_151_0 rfl)) fun a hf => ?_
   refine qE hf rfl rfl rfl (eLd1 sc_60 rfl (cell_box m0 rfl)) fun a hf => qE hf rfl rfl rfl (Pu.ev (pLenS Try.underlying60 rfl)) fun a hf => qE hf rfl rfl rfl (Pu.ev (pQuo rfl rfl (nz_spec hun_2))) fun a hf => qE hf rfl rfl rfl (Pu.ev (pAdd rfl rfl)) fun a hf => qE hf rfl rfl rfl (Pu.ev (pAdd rfl rfl)) fun a hf => qE hf rfl rfl rfl (Pu.ev (pA rfl)) fun a hf => ?_
   intro w hc
   exact hj6 (W ((W (e_1)) + (W ((W (11 * s_.mix)) + (W (s_.used.tdiv ((s_.bytes.length : Nat) : Int))))))) _ _  (hf.keep ⟨rfl,rfl,rfl,trivial⟩) hc hF
  ·replace hF := condF hb hF
   clear hb
   refine wp_skip ?_
   exact hj6 (W (e_1)) _ _  (hf.keep ⟨rfl,rfl,rfl,trivial⟩) hc hF

def kit_Stream_Within (N : Nat) (s_ : kit_Stream) (lo : Int) (hi_ : Int) : Option (Int × Int × Int) :=
 Option.bind (kit_Stream_Next N s_ (W ((W (hi_ - lo)) + 1))) fun r =>
 some (W (lo + r.1),r.2.1,r.2.2)
theorem kit_Stream_Within_ok {N : Nat} {G : Pers} {Lf : List Ent} {w : World} (s_ : kit_Stream) (lo : Int) (hi_ : Int) {b_ : Nat} {s__bytes_p : Option Addr} {s__bytes_c : Nat} (h_s__bytes : Rd G 1 s__bytes_p s__bytes_c (s_.bytes.map encI_u8)) (hc : Ctx G (.box b_ [.slice s__bytes_p s_.bytes.length s__bytes_c,.int .i64 s_.used,.int .i64 s_.mix] 151::Lf) w) {res : Int × Int × Int} (hF : kit_Stream_Within N s_ lo hi_ = some res) : Calls Try.prog 41 #[.pointer (some ⟨b_,0,none⟩),.int .i64 lo,.int .i64 hi_] w (fun e w => e = .returned (.int .i64 res.1) ∧ Ctx G (.box b_ [.slice s__bytes_p s_.bytes.length s__bytes_c,.int .i64 res.2.1,.int .i64 res.2.2] 151::Lf) w) := by
 unfold kit_Stream_Within at hF
 refine fnIn (args := [.pointer (some ⟨b_,0,none⟩),.int .i64 lo,.int .i64 hi_]) Try.func41 rfl Try.ntmps41 rfl fun a hf => wp_seq_k fun K1 h1 => cReg ?_
 refine stP hf rfl rfl rfl (pA rfl) fun a hf => cNil ?_
 refine h1 _ _ ?_
 refine wp_seq_k fun K2 h2 => cReg ?_
 refine stP hf rfl rfl rfl (pM rfl) fun a hf => stP hf rfl rfl rfl (pM rfl) fun a hf => stP hf rfl rfl rfl (pM rfl) fun a hf => stP hf rfl rfl rfl (pM rfl) fun a hf => stP hf rfl rfl rfl (pSub rfl rfl) fun a hf => stP hf rfl rfl rfl (pAdd rfl rfl) fun a hf => ?_
 obtain ⟨r,hr,hF⟩ := bnd_some hF
 refine stC (vs := [.pointer (some ⟨b_,0,none⟩),.int .i64 (W ((W (hi_ - lo)) + 1))]) (caps := []) hf rfl rfl rfl en_38 rfl rfl rfl rfl (kit_Stream_Next_ok s_ (W ((W (hi_ - lo)) + 1)) h_s__bytes (hc.pick k0) hr) ?_
 rintro _ w ⟨rfl,hc⟩
 refine ⟨_,rfl,fun a hf => ?_⟩
 refine stP hf rfl rfl rfl (pAdd rfl rfl) fun a hf => stP hf rfl rfl rfl (pA rfl) fun a hf => cNil ?_
 refine h2 _ _ ?_
 refine wp_ret ?_
 obtain rfl := Option.some.inj hF
 exact fnOut1 (by simp) rfl Try.results41 hf hc (show look _ 6 = _ from rfl) ⟨rfl,hc⟩

def law03_Section_b6 (N : Nat) (s_ : kit_Stream) (r_1 : Int × Int × Int) (at_ : Int) (x : Int) (b__0 : Int) (b__1 : Int) (x_1 : List Int) (x_2 : List Int) (x_3 : List Int) : Option (Step (Int × Int × Int × Int × (List Int) × (List Int) × (List Int)) (law03_River × Int × Int)) :=
 cond (decide (x < r_1.1))
 (Option.bind (kit_Stream_Within N (⟨s_.bytes,b__0,b__1⟩ : kit_Stream) 1 90) fun r_3 =>
 Option.bind (room ((x_1 ++ [W (at_ + r_3.1)])).length) fun un =>
 Option.bind (kit_Stream_Next N (⟨s_.bytes,r_3.2.1,r_3.2.2⟩ : kit_Stream) 300) fun r_4 =>
 Option.bind (room ((x_2 ++ [r_4.1])).length) fun un_1 =>
 Option.bind (kit_Stream_Within N (⟨s_.bytes,r_4.2.1,r_4.2.2⟩ : kit_Stream) (-40) 400) fun r_5 =>
 Option.bind (room ((x_3 ++ [r_5.1])).length) fun un_2 =>
 some (.cont (W (at_ + r_3.1),W (x + 1),r_5.2.1,r_5.2.2,(x_1 ++ [W (at_ + r_3.1)]),(x_2 ++ [r_4.1]),(x_3 ++ [r_5.1]))))
 (some (.brk (at_,x,b__0,b__1,x_1,x_2,x_3)))
def law03_Section (N : Nat) (s_ : kit_Stream) (most : Int) : Option (law03_River × Int × Int) :=
 Option.bind (kit_Stream_Next N s_ 50) fun r =>
 Option.bind (kit_Stream_Within N (⟨s_.bytes,r.2.1,r.2.2⟩ : kit_Stream) 1 most) fun r_1 =>
 Option.bind (loopO (fun s6 => law03_Section_b6 N s_ r_1 s6.1 s6.2.1 s6.2.2.1 s6.2.2.2.1 s6.2.2.2.2.1 s6.2.2.2.2.2.1 s6.2.2.2.2.2.2) N (r.1,0,r_1.2.1,r_1.2.2,([] : List Int),([] : List Int),([] : List Int))) fun x6 =>
 exK x6 (fun s6 => Option.bind (kit_Stream_Within N (⟨s_.bytes,s6.2.2.1,s6.2.2.2.1⟩ : kit_Stream) 1 90) fun r_2 =>
 some ((⟨r.1,W (s6.1 + r_2.1),s6.2.2.2.2.1,s6.2.2.2.2.2.1,s6.2.2.2.2.2.2⟩ : law03_River),r_2.2.1,r_2.2.2)) some
theorem law03_Section_ok {N : Nat} {G : Pers} {Lf : List Ent} {w : World} (s_ : kit_Stream) (most : Int) {b_ : Nat} {s__bytes_p : Option Addr} {s__bytes_c : Nat} (h_s__bytes : Rd G 1 s__bytes_p s__bytes_c (s_.bytes.map encI_u8)) (hc : Ctx G (.box b_ [.slice s__bytes_p s_.bytes.length s__bytes_c,.int .i64 s_.used,.int .i64 s_.mix] 151::Lf) w) {res : law03_River × Int × Int} (hF : law03_Section N s_ most = some res) : Calls Try.prog 48 #[.pointer (some ⟨b_,0,none⟩),.int .i64 most] w (fun e w => ∃ (p'1 : Option Addr) (c'1 : Nat) (p'2 : Option Addr) (c'2 : Nat) (p'3 : Option Addr) (c'3 : Nat),e = .returned (.agg #[.int .i64 res.1.Left,.int .i64 res.1.Right,.slice p'1 res.1.At.length c'1,.slice p'2 res.1.Depth.length c'2,.slice p'3 res.1.Speeds.length c'3]) ∧ Ctx G (.row p'1 c'1 (res.1.At.map encI_i64) 3 1::.row p'2 c'2 (res.1.Depth.map encI_i64) 3 1::.row p'3 c'3 (res.1.Speeds.map encI_i64) 3 1::.box b_ [.slice s__bytes_p s_.bytes.length s__bytes_c,.int .i64 res.2.1,.int .i64 res.2.2] 151::Lf) w) := by
 unfold law03_Section at hF
 refine fnIn (args := [.pointer (some ⟨b_,0,none⟩),.int .i64 most]) Try.func48 rfl Try.ntmps48 rfl fun a hf => wp_seq_k fun K1 h1 => cReg ?_
 refine stAl (cs := [.int .i64 0,.int .i64 0,.slice none 0 0,.slice none 0 0,.slice none 0 0]) hf hc rfl rfl zr_98 rfl fun b_1 a w hf hc => cNil ?_
 refine h1 _ _ ?_
 refine wp_seq_k fun K2 h2 => cReg ?_
 refine stP hf rfl rfl rfl (pM rfl) fun a hf => ?_
 obtain ⟨r,hr,hF⟩ := bnd_some hF
 refine stC (vs := [.pointer (some ⟨b_,0,none⟩),.int .i64 50]) (caps := []) hf rfl rfl rfl en_38 rfl rfl rfl rfl (kit_Stream_Next_ok s_ 50 h_s__bytes (hc.pick k1) hr) ?_
 rintro _ w ⟨rfl,hc⟩
 refine ⟨_,rfl,fun a hf => ?_⟩
 refine stP hf rfl rfl rfl (pBuildS (cells := [.int .i64 r.1,.int .i64 0,.slice none 0 0,.slice none 0 0,.slice none 0 0]) bt_98 rfl rfl) fun a hf => stAl (cs := [.int .i64 0,.int .i64 0,.slice none 0 0,.slice none 0 0,.slice none 0 0]) hf hc rfl rfl zr_98 rfl fun b_2 a w hf hc => stSt (vs := [.int .i64 r.1,.int .i64 0,.slice none 0 0,.slice none 0 0,.slice none 0 0]) hf hc rfl rfl rfl rfl sz_98 rfl rfl u0 fun w hc => cNil ?_
 refine h2 _ _ ?_
 refine wp_seq_k fun K3 h3 => cReg ?_
 refine stP hf rfl rfl rfl (pFA fa_98_0 rfl) fun a hf => stE hf hc rfl rfl rfl (eLd1 sc_3 rfl (cell_box m0 rfl)) fun a w hf hc => stP hf rfl rfl rfl (pA rfl) fun a hf => cNil ?_
 refine h3 _ _ ?_
 refine wp_seq_k fun K4 h4 => wp_seq_k fun K5 h5 => cReg ?_
 refine stP hf rfl rfl rfl (pM rfl) fun a hf => stP hf rfl rfl rfl (pM rfl) fun a hf => ?_
 obtain ⟨r_1,hr_1,hF⟩ := bnd_some hF
 refine stC (vs := [.pointer (some ⟨b_,0,none⟩),.int .i64 1,.int .i64 most]) (caps := []) hf rfl rfl rfl en_41 rfl rfl rfl rfl (kit_Stream_Within_ok (⟨s_.bytes,r.2.1,r.2.2⟩ : kit_Stream) 1 most h_s__bytes (hc.pick k1) hr_1) ?_
 rintro _ w ⟨rfl,hc⟩
 refine ⟨_,rfl,fun a hf => ?_⟩
 refine stP hf rfl rfl rfl (pM rfl) fun a hf => cNil ?_
 refine h5 _ _ ?_
 refine wp_block ?_
 obtain ⟨x6,hx6,hF⟩ := bnd_some hF
 let S6 : (Int × Int × Int × Int × (List Int) × (List Int) × (List Int)) → Act → World → Prop := (fun (zz : Int × Int × Int × Int × (List Int) × (List Int) × (List Int)) a w => ∃ (p_1 : Option Addr) (c_1 : Nat) (p_2 : Option Addr) (c_2 : Nat) (p_3 : Option Addr) (c_3 : Nat),Has 48 a [(0,.pointer (some ⟨b_,0,none⟩)),(4,.pointer (some ⟨b_1,0,none⟩)),(5,.pointer (some ⟨b_2,0,none⟩)),(6,.int .i64 zz.1),(14,.int .i64 r_1.1),(15,.int .i64 zz.2.1)] ∧ Ctx G (.row p_3 c_3 (zz.2.2.2.2.2.2.map encI_i64) 3 1::.row p_2 c_2 (zz.2.2.2.2.2.1.map encI_i64) 3 1::.row p_1 c_1 (zz.2.2.2.2.1.map encI_i64) 3 1::.box b_ [.slice s__bytes_p s_.bytes.length s__bytes_c,.int .i64 zz.2.2.1,.int .i64 zz.2.2.2.1] 151::.box b_2 [.int .i64 r.1,.int .i64 0,.slice p_1 zz.2.2.2.2.1.length c_1,.slice p_2 zz.2.2.2.2.2.1.length c_2,.slice p_3 zz.2.2.2.2.2.2.length c_3] 98::.box b_1 [.int .i64 0,.int .i64 0,.slice none 0 0,.slice none 0 0,.slice none 0 0] 98::Lf) w)
 have hr6 : ∀ (zz : Int × Int × Int × Int × (List Int) × (List Int) × (List Int)) a w,x6 = .go zz → S6 zz a w → K4 a w := by
  rintro ⟨at_,x,b__0,b__1,x_1,x_2,x_3⟩ a w rfl ⟨p_1,c_1,p_2,c_2,p_3,c_3,hf,hc⟩
  replace hF := exK_go hF
  refine h4 _ _ ?_
  refine wp_seq_k fun K7 h7 => cReg ?_
  refine stP hf rfl rfl rfl (pM rfl) fun a hf => stP hf rfl rfl rfl (pM rfl) fun a hf => ?_
  obtain ⟨r_2,hr_2,hF⟩ := bnd_some hF
  refine stC (vs := [.pointer (some ⟨b_,0,none⟩),.int .i64 1,.int .i64 90]) (caps := []) hf rfl rfl rfl en_41 rfl rfl rfl rfl (kit_Stream_Within_ok (⟨s_.bytes,b__0,b__1⟩ : kit_Stream) 1 90 h_s__bytes (hc.pick k3) hr_2) ?_
  rintro _ w ⟨rfl,hc⟩
  refine ⟨_,rfl,fun a hf => ?_⟩
  refine stP hf rfl rfl rfl (pAdd rfl rfl) fun a hf => stP hf rfl rfl rfl (pFA fa_98_1 rfl) fun a hf => stSt (vs := [.int .i64 (W (at_ + r_2.1))]) hf hc rfl rfl rfl rfl sz_3 rfl rfl u4 fun w hc => cNil ?_
  refine h7 _ _ ?_
  refine wp_seq_k fun K8 h8 => cReg ?_
  refine stE hf hc rfl rfl rfl (eLdN (vs := [.int .i64 r.1,.int .i64 (W (at_ + r_2.1)),.slice p_1 x_1.length c_1,.slice p_2 x_2.length c_2,.slice p_3 x_3.length c_3]) ag_98 rfl rfl (cells_box (n := 5) m4 rfl)) fun a w hf hc => stSt (vs := [.int .i64 r.1,.int .i64 (W (at_ + r_2.1)),.slice p_1 x_1.length c_1,.slice p_2 x_2.length c_2,.slice p_3 x_3.length c_3]) hf hc rfl rfl rfl rfl sz_98 rfl rfl u5 fun w hc => cNil ?_
  refine h8 _ _ ?_
  refine wp_ret ?_
  obtain rfl := Option.some.inj hF
  replace hc := hc.drop k4
  replace hc := hc.pick k0
  replace hc := hc.pick k1
  replace hc := hc.pick k2
  replace hc := hc.pick k3
  exact fnOut1 (by simp) rfl Try.results48 hf hc (rv_cellN (vs := [.int .i64 r.1,.int .i64 (W (at_ + r_2.1)),.slice p_1 x_1.length c_1,.slice p_2 x_2.length c_2,.slice p_3 x_3.length c_3]) ag_98 rfl rfl (cells_box (n := 5) m4 rfl)) ⟨p_1,c_1,p_2,c_2,p_3,c_3,rfl,(hc.drop k4)⟩
 have ho6 : ∀ r,x6 = .out r → r = res := by
  rintro r rfl
  exact Option.some.inj hF
 replace hc := hc.nilRow 3 1
 replace hc := hc.nilRow 3 1
 replace hc := hc.nilRow 3 1
 refine cLoop N (loopW (S := S6) (x := x6) ?_ N (r.1,0,r_1.2.1,r_1.2.2,([] : List Int),([] : List Int),([] : List Int)) _ _ ⟨none,0,none,0,none,0,hf.keep ⟨rfl,rfl,rfl,rfl,rfl,rfl,trivial⟩,hc⟩ hx6)
 clear hF hf hc
 rintro ⟨at_,x,b__0,b__1,x_1,x_2,x_3⟩ st6 a w KB6 ⟨p_1,c_1,p_2,c_2,p_3,c_3,hf,hc⟩ hF hfin6 hK6
 unfold law03_Section_b6 at hF
 refine wp_seq_k fun K9 h9 => cReg ?_
 refine stP hf rfl rfl rfl (pLt rfl rfl) fun a hf => cNil ?_
 refine h9 _ _ ?_
 refine wp_seq_k fun K10 h10 => cCond (b := (decide (x < r_1.1))) hf rfl (fun hb => ?_) (fun hb => ?_)
 ·replace hF := condT hb hF
  clear hb
  refine wp_skip ?_
  refine h10 _ _ ?_
  refine wp_seq_k fun K11 h11 => wp_block ?_
  refine wp_seq_k fun K12 h12 => cReg ?_
  refine stP hf rfl rfl rfl (pM rfl) fun a hf => stP hf rfl rfl rfl (pM rfl) fun a hf => ?_
  obtain ⟨r_3,hr_3,hF⟩ := bnd_some hF
  refine stC (vs := [.pointer (some ⟨b_,0,none⟩),.int .i64 1,.int .i64 90]) (caps := []) hf rfl rfl rfl en_41 rfl rfl rfl rfl (kit_Stream_Within_ok (⟨s_.bytes,b__0,b__1⟩ : kit_Stream) 1 90 h_s__bytes (hc.pick k3) hr_3) ?_
  rintro _ w ⟨rfl,hc⟩
  refine ⟨_,rfl,fun a hf => ?_⟩
  refine stP hf rfl rfl rfl (pAdd rfl rfl) fun a hf => stP hf rfl rfl rfl (pA rfl) fun a hf => cNil ?_
  refine h12 _ _ ?_
  obtain ⟨un,hun,hF⟩ := bnd_some hF
  obtain ⟨r_4,hr_4,hF⟩ := bnd_some hF
  obtain ⟨un_1,hun_1,hF⟩ := bnd_some hF
  obtain ⟨r_5,hr_5,hF⟩ := bnd_some hF
  obtain ⟨un_2,hun_2,hF⟩ := bnd_some hF
  replace hc := hc.nilRow 0 0
  replace hc := hc.nilRow 0 0
  replace hc := hc.nilRow 0 0
  refine regionE (fun θ => [⟨none,none,0,.pointer (some ⟨b_,0,none⟩)⟩,⟨none,none,4,.pointer (some ⟨b_1,0,none⟩)⟩,⟨none,none,5,.pointer (some ⟨b_2,0,none⟩)⟩,⟨none,none,6,.int .i64 (W (at_ + r_3.1))⟩,⟨none,none,14,.int .i64 r_1.1⟩,⟨none,none,15,.int .i64 x⟩,⟨some 0,none,21,.pointer (some ⟨b_2,2,none⟩)⟩,⟨some 1,none,22,.slice p_1 x_1.length c_1⟩,⟨some 2,none,23,.int .i64 (W (at_ + r_3.1))⟩,⟨some 3,none,24,.slice (some ⟨(θ 24).b,0,none⟩) 1 1⟩,⟨some 4,none,25,.slice ((θ 32).p) ((x_1 ++ [W (at_ + r_3.1)]).length) ((θ 32).c)⟩,⟨some 5,none,26,.pointer (some ⟨b_2,3,none⟩)⟩,⟨some 6,none,27,.slice p_2 x_2.length c_2⟩,⟨some 7,none,28,.pointer (some ⟨b_,0,none⟩)⟩,⟨some 8,none,29,.int .i64 r_4.1⟩,⟨some 9,none,30,.slice (some ⟨(θ 72).b,0,none⟩) 1 1⟩,⟨some 10,none,31,.slice ((θ 80).p) ((x_2 ++ [r_4.1]).length) ((θ 80).c)⟩,⟨some 11,none,32,.pointer (some ⟨b_2,4,none⟩)⟩,⟨some 12,none,33,.slice p_3 x_3.length c_3⟩,⟨some 13,none,34,.pointer (some ⟨b_,0,none⟩)⟩,⟨some 14,none,35,.int .i64 r_5.1⟩,⟨some 15,none,36,.slice (some ⟨(θ 120).b,0,none⟩) 1 1⟩,⟨some 16,none,37,.slice ((θ 128).p) ((x_3 ++ [r_5.1]).length) ((θ 128).c)⟩,⟨some 17,none,38,.pointer (some ⟨b_2,2,none⟩)⟩,⟨some 19,none,39,.pointer (some ⟨b_2,3,none⟩)⟩,⟨some 21,none,40,.pointer (some ⟨b_2,4,none⟩)⟩]) (fun E θ => (bif E 15 then .row (some ⟨(θ 120).b,0,none⟩) 1 (([r_5.1] : List Int).map encI_i64) 3 1 else .row none 0 [] 0 0)::(bif E 9 then .row (some ⟨(θ 72).b,0,none⟩) 1 (([r_4.1] : List Int).map encI_i64) 3 1 else .row none 0 [] 0 0)::(bif E 3 then .row (some ⟨(θ 24).b,0,none⟩) 1 (([W (at_ + r_3.1)] : List Int).map encI_i64) 3 1 else .row none 0 [] 0 0)::(bif E 14 then .box b_ [.slice s__bytes_p s_.bytes.length s__bytes_c,.int .i64 r_5.2.1,.int .i64 r_5.2.2] 151 else bif E 8 then .box b_ [.slice s__bytes_p s_.bytes.length s__bytes_c,.int .i64 r_4.2.1,.int .i64 r_4.2.2] 151 else .box b_ [.slice s__bytes_p s_.bytes.length s__bytes_c,.int .i64 r_3.2.1,.int .i64 r_3.2.2] 151)::(bif E 16 then .row ((θ 128).p) ((θ 128).c) ((x_3 ++ [r_5.1]).map encI_i64) 3 1 else .row p_3 c_3 (x_3.map encI_i64) 3 1)::(bif E 10 then .row ((θ 80).p) ((θ 80).c) ((x_2 ++ [r_4.1]).map encI_i64) 3 1 else .row p_2 c_2 (x_2.map encI_i64) 3 1)::(bif E 4 then .row ((θ 32).p) ((θ 32).c) ((x_1 ++ [W (at_ + r_3.1)]).map encI_i64) 3 1 else .row p_1 c_1 (x_1.map encI_i64) 3 1)::(bif E 22 then .box b_2 [.int .i64 r.1,.int .i64 0,.slice ((θ 32).p) ((x_1 ++ [W (at_ + r_3.1)]).length) ((θ 32).c),.slice ((θ 80).p) ((x_2 ++ [r_4.1]).length) ((θ 80).c),.slice ((θ 128).p) ((x_3 ++ [r_5.1]).length) ((θ 128).c)] 98 else bif E 20 then .box b_2 [.int .i64 r.1,.int .i64 0,.slice ((θ 32).p) ((x_1 ++ [W (at_ + r_3.1)]).length) ((θ 32).c),.slice ((θ 80).p) ((x_2 ++ [r_4.1]).length) ((θ 80).c),.slice p_3 x_3.length c_3] 98 else bif E 18 then .box b_2 [.int .i64 r.1,.int .i64 0,.slice ((θ 32).p) ((x_1 ++ [W (at_ + r_3.1)]).length) ((θ 32).c),.slice p_2 x_2.length c_2,.slice p_3 x_3.length c_3] 98 else .box b_2 [.int .i64 r.1,.int .i64 0,.slice p_1 x_1.length c_1,.slice p_2 x_2.length c_2,.slice p_3 x_3.length c_3] 98)::.box b_1 [.int .i64 0,.int .i64 0,.slice none 0 0,.slice none 0 0,.slice none 0 0] 98::Lf) [(10,8),(18,1),(20,1),(22,1),(18,4),(20,4),(22,4),(18,6),(20,6),(22,6),(14,10),(20,10),(22,10),(18,12),(20,12),(22,12),(22,16),(20,18),(22,18),(22,20)] (fun a w => ∃ (b_6 : Nat) (b_7 : Nat) (b_8 : Nat) (p_7 : Option Addr) (c_7 : Nat) (p_8 : Option Addr) (c_8 : Nat) (p_9 : Option Addr) (c_9 : Nat),Has 48 a [(0,.pointer (some ⟨b_,0,none⟩)),(4,.pointer (some ⟨b_1,0,none⟩)),(5,.pointer (some ⟨b_2,0,none⟩)),(6,.int .i64 (W (at_ + r_3.1))),(14,.int .i64 r_1.1),(15,.int .i64 x)] ∧ Ctx G (.row (some ⟨b_6,0,none⟩) 1 (([r_5.1] : List Int).map encI_i64) 3 1::.row (some ⟨b_7,0,none⟩) 1 (([r_4.1] : List Int).map encI_i64) 3 1::.row (some ⟨b_8,0,none⟩) 1 (([W (at_ + r_3.1)] : List Int).map encI_i64) 3 1::.box b_ [.slice s__bytes_p s_.bytes.length s__bytes_c,.int .i64 r_5.2.1,.int .i64 r_5.2.2] 151::.row p_7 c_7 ((x_3 ++ [r_5.1]).map encI_i64) 3 1::.row p_8 c_8 ((x_2 ++ [r_4.1]).map encI_i64) 3 1::.row p_9 c_9 ((x_1 ++ [W (at_ + r_3.1)]).map encI_i64) 3 1::.box b_2 [.int .i64 r.1,.int .i64 0,.slice p_9 ((x_1 ++ [W (at_ + r_3.1)]).length) c_9,.slice p_8 ((x_2 ++ [r_4.1]).length) c_8,.slice p_7 ((x_3 ++ [r_5.1]).length) c_7] 98::.box b_1 [.int .i64 0,.int .i64 0,.slice none 0 0,.slice none 0 0,.slice none 0 0] 98::Lf) w) follows_mx (by kernel_rfl) (by kernel_rfl) (HasE.of hf ⟨rfl,rfl,rfl,rfl,rfl,rfl,trivial,trivial,trivial,trivial,trivial,trivial,trivial,trivial,trivial,trivial,trivial,trivial,trivial,trivial,trivial,trivial,trivial,trivial,trivial,trivial,trivial⟩) hc ⟨?_,?_,?_,?_,?_,?_,?_,?_,?_,?_,?_,?_,?_,?_,?_,?_,?_,?_,?_,?_,?_,?_,?_,trivial⟩ ?_ ?_
  ·intro E θ a w hD hi hp he hc
   have hf := he.h0
   replace hf := hf.more he 2 rfl onT
   refine stP hf rfl rfl rfl (pFA fa_98_2 rfl) fun a hf => cNil ?_
   refine xThenN ?_
   intro ds u hau
   refine ⟨θ,he.put0 hi hau hf rfl 6 rfl rfl,?_⟩
   exact hc
  ·intro E θ a w hD hi hp he hc
   have e0 := hp.of (k := 0) rfl
   have e18 := hD.f 1 rfl hi
   have e20 := hD.f 2 rfl hi
   have e22 := hD.f 3 rfl hi
   try dsimp only at hc
   rw [e18,e20,e22] at hc
   have hf := he.h0
   replace hf := hf.more he 6 rfl (onP e0)
   refine stE hf hc rfl rfl rfl (eLd1 sc_61 rfl (cell_box m7 rfl)) fun a w hf hc => cNil ?_
   refine xThenN ?_
   intro ds u hau
   refine ⟨θ,he.put0 hi hau hf rfl 7 rfl rfl,?_⟩
   try dsimp only
   rw [updE_fls 1 e18 rfl,updE_fls 1 e20 rfl,updE_fls 1 e22 rfl]
   exact hc
  ·intro E θ a w hD hi hp he hc
   have hf := he.h0
   replace hf := hf.more he 3 rfl onT
   refine stP hf rfl rfl rfl (pM rfl) fun a hf => cNil ?_
   refine xThenN ?_
   intro ds u hau
   refine ⟨θ,he.put0 hi hau hf rfl 8 rfl rfl,?_⟩
   exact hc
  ·intro E θ a w hD hi hp he hc
   have e2 := hp.of (k := 2) rfl
   try dsimp only at hc
   rw [hi] at hc
   have hf := he.h0
   replace hf := hf.more he 8 rfl (onP e2)
   refine stBS (rows := ([W (at_ + r_3.1)] : List Int).map encI_i64) (vs := [(0,.int .i64 (W (at_ + r_3.1)))]) hf hc rfl rfl sl_61 rfl ⟨rfl,rfl,rfl,trivial⟩ rfl rfl fun b_3 a w hf hc => cNil ?_
   refine xThenN ?_
   intro ds u hau
   replace hc := hc.drop k3
   replace hc := hc.pick k0
   replace hc := hc.pick k2
   replace hc := hc.pick k2
   refine ⟨(setT θ 24 ⟨b_3,none,0⟩),he.put hi hau hf rfl [] trivial ⟨qq,qq,qq,qq,qq,qq,qq,qq,qq,qq,qq,qq,qq,qq,qq,qq,qq,qq,qq,qq,qq,qq,qq,qq,qq,qq,trivial⟩,?_⟩
   try dsimp only
   rw [updE_self E 3]
   exact hc
  ·intro E θ a w hD hi hp he hc
   have e1 := hp.of (k := 1) rfl
   have e3 := hp.of (k := 3) rfl
   have e18 := hD.f 4 rfl hi
   have e20 := hD.f 5 rfl hi
   have e22 := hD.f 6 rfl hi
   try dsimp only at hc
   rw [e3,hi,e18,e20,e22] at hc
   have hf := he.h0
   replace hf := hf.more he 7 rfl (onP e1)
   replace hf := hf.more he 9 rfl (onP e3)
   refine stApm (xs := x_1) (ys := ([W (at_ + r_3.1)] : List Int)) hf hc rfl rfl sl_61 rfl rfl rfl rfl rfl one_encI_i64 (src_row hc m2) (fun _ _ => u6) (by simpa using room_spec hun) fun p_4 c_4 a w hf hc => cNil ?_
   refine xThenN ?_
   intro ds u hau
   refine ⟨(setT θ 32 ⟨0,p_4,c_4⟩),he.put hi hau hf rfl [] trivial ⟨qq,qq,qq,qq,qq,qq,qq,qq,qq,qq,qq,qq,qq,qq,qq,qq,qq,qq,qq,qq,qq,qq,qq,qq,qq,qq,trivial⟩,?_⟩
   try dsimp only
   rw [updE_tru 4 e3,updE_self E 4,updE_fls 4 e18 rfl,updE_fls 4 e20 rfl,updE_fls 4 e22 rfl]
   exact hc
  ·intro E θ a w hD hi hp he hc
   have hf := he.h0
   replace hf := hf.more he 2 rfl onT
   refine stP hf rfl rfl rfl (pFA fa_98_3 rfl) fun a hf => cNil ?_
   refine xThenN ?_
   intro ds u hau
   refine ⟨θ,he.put0 hi hau hf rfl 11 rfl rfl,?_⟩
   exact hc
  ·intro E θ a w hD hi hp he hc
   have e5 := hp.of (k := 5) rfl
   have e18 := hD.f 7 rfl hi
   have e20 := hD.f 8 rfl hi
   have e22 := hD.f 9 rfl hi
   try dsimp only at hc
   rw [e18,e20,e22] at hc
   have hf := he.h0
   replace hf := hf.more he 11 rfl (onP e5)
   refine stE hf hc rfl rfl rfl (eLd1 sc_61 rfl (cell_box m7 rfl)) fun a w hf hc => cNil ?_
   refine xThenN ?_
   intro ds u hau
   refine ⟨θ,he.put0 hi hau hf rfl 12 rfl rfl,?_⟩
   try dsimp only
   rw [updE_fls 6 e18 rfl,updE_fls 6 e20 rfl,updE_fls 6 e22 rfl]
   exact hc
  ·intro E θ a w hD hi hp he hc
   have hf := he.h0
   replace hf := hf.more he 0 rfl onT
   refine stP hf rfl rfl rfl (pM rfl) fun a hf => cNil ?_
   refine xThenN ?_
   intro ds u hau
   refine ⟨θ,he.put0 hi hau hf rfl 13 rfl rfl,?_⟩
   exact hc
  ·intro E θ a w hD hi hp he hc
   have e7 := hp.of (k := 7) rfl
   have e10 := hD.f 0 rfl hi
   have e14 := hD.f 10 rfl e10
   try dsimp only at hc
   rw [hi,e14] at hc
   have hf := he.h0
   replace hf := hf.more he 13 rfl (onP e7)
   refine stC (vs := [.pointer (some ⟨b_,0,none⟩),.int .i64 300]) (caps := []) hf rfl rfl rfl en_38 rfl rfl rfl rfl (kit_Stream_Next_ok (⟨s_.bytes,r_3.2.1,r_3.2.2⟩ : kit_Stream) 300 h_s__bytes (hc.pick k3) hr_4) ?_
   rintro _ w ⟨rfl,hc⟩
   refine ⟨_,rfl,fun a hf => ?_⟩
   refine cNil ?_
   refine xThenN ?_
   intro ds u hau
   replace hc := hc.pick k0
   replace hc := hc.pick k3
   replace hc := hc.pick k3
   replace hc := hc.pick k3
   refine ⟨θ,he.put0 hi hau hf rfl 14 rfl rfl,?_⟩
   try dsimp only
   rw [updE_self E 8,updE_fls 8 e14 rfl]
   exact hc
  ·intro E θ a w hD hi hp he hc
   have e8 := hp.of (k := 8) rfl
   try dsimp only at hc
   rw [hi] at hc
   have hf := he.h0
   replace hf := hf.more he 14 rfl (onP e8)
   refine stBS (rows := ([r_4.1] : List Int).map encI_i64) (vs := [(0,.int .i64 r_4.1)]) hf hc rfl rfl sl_61 rfl ⟨rfl,rfl,rfl,trivial⟩ rfl rfl fun b_4 a w hf hc => cNil ?_
   refine xThenN ?_
   intro ds u hau
   replace hc := hc.drop k2
   replace hc := hc.pick k0
   replace hc := hc.pick k1
   refine ⟨(setT θ 72 ⟨b_4,none,0⟩),he.put hi hau hf rfl [] trivial ⟨qq,qq,qq,qq,qq,qq,qq,qq,qq,qq,qq,qq,qq,qq,qq,qq,qq,qq,qq,qq,qq,qq,qq,qq,qq,qq,trivial⟩,?_⟩
   try dsimp only
   rw [updE_self E 9]
   exact hc
  ·intro E θ a w hD hi hp he hc
   have e6 := hp.of (k := 6) rfl
   have e9 := hp.of (k := 9) rfl
   have e20 := hD.f 11 rfl hi
   have e22 := hD.f 12 rfl hi
   try dsimp only at hc
   rw [e9,hi,e20,e22] at hc
   have hf := he.h0
   replace hf := hf.more he 12 rfl (onP e6)
   replace hf := hf.more he 15 rfl (onP e9)
   refine stApm (xs := x_2) (ys := ([r_4.1] : List Int)) hf hc rfl rfl sl_61 rfl rfl rfl rfl rfl one_encI_i64 (src_row hc m1) (fun _ _ => u5) (by simpa using room_spec hun_1) fun p_5 c_5 a w hf hc => cNil ?_
   refine xThenN ?_
   intro ds u hau
   refine ⟨(setT θ 80 ⟨0,p_5,c_5⟩),he.put hi hau hf rfl [] trivial ⟨qq,qq,qq,qq,qq,qq,qq,qq,qq,qq,qq,qq,qq,qq,qq,qq,qq,qq,qq,qq,qq,qq,qq,qq,qq,qq,trivial⟩,?_⟩
   try dsimp only
   rw [updE_tru 10 e9,updE_self E 10,updE_fls 10 e20 rfl,updE_fls 10 e22 rfl]
   exact hc
  ·intro E θ a w hD hi hp he hc
   have hf := he.h0
   replace hf := hf.more he 2 rfl onT
   refine stP hf rfl rfl rfl (pFA fa_98_4 rfl) fun a hf => cNil ?_
   refine xThenN ?_
   intro ds u hau
   refine ⟨θ,he.put0 hi hau hf rfl 17 rfl rfl,?_⟩
   exact hc
  ·intro E θ a w hD hi hp he hc
   have e11 := hp.of (k := 11) rfl
   have e18 := hD.f 13 rfl hi
   have e20 := hD.f 14 rfl hi
   have e22 := hD.f 15 rfl hi
   try dsimp only at hc
   rw [e18,e20,e22] at hc
   have hf := he.h0
   replace hf := hf.more he 17 rfl (onP e11)
   refine stE hf hc rfl rfl rfl (eLd1 sc_61 rfl (cell_box m7 rfl)) fun a w hf hc => cNil ?_
   refine xThenN ?_
   intro ds u hau
   refine ⟨θ,he.put0 hi hau hf rfl 18 rfl rfl,?_⟩
   try dsimp only
   rw [updE_fls 12 e18 rfl,updE_fls 12 e20 rfl,updE_fls 12 e22 rfl]
   exact hc
  ·intro E θ a w hD hi hp he hc
   have hf := he.h0
   replace hf := hf.more he 0 rfl onT
   refine stP hf rfl rfl rfl (pM rfl) fun a hf => cNil ?_
   refine xThenN ?_
   intro ds u hau
   refine ⟨θ,he.put0 hi hau hf rfl 19 rfl rfl,?_⟩
   exact hc
  ·intro E θ a w hD hi hp he hc
   have e13 := hp.of (k := 13) rfl
   have e10 := hp.of (k := 10) rfl
   have e8 := hD.t 0 rfl e10
   try dsimp only at hc
   rw [e8,hi] at hc
   have hf := he.h0
   replace hf := hf.more he 19 rfl (onP e13)
   refine stC (vs := [.pointer (some ⟨b_,0,none⟩),.int .i64 (-40),.int .i64 400]) (caps := []) hf rfl rfl rfl en_41 rfl rfl rfl rfl (kit_Stream_Within_ok (⟨s_.bytes,r_4.2.1,r_4.2.2⟩ : kit_Stream) (-40) 400 h_s__bytes (hc.pick k3) hr_5) ?_
   rintro _ w ⟨rfl,hc⟩
   refine ⟨_,rfl,fun a hf => ?_⟩
   refine cNil ?_
   refine xThenN ?_
   intro ds u hau
   replace hc := hc.pick k0
   replace hc := hc.pick k3
   replace hc := hc.pick k3
   replace hc := hc.pick k3
   refine ⟨θ,he.put0 hi hau hf rfl 20 rfl rfl,?_⟩
   try dsimp only
   rw [updE_tru 14 e8,updE_self E 14]
   exact hc
  ·intro E θ a w hD hi hp he hc
   have e14 := hp.of (k := 14) rfl
   try dsimp only at hc
   rw [hi] at hc
   have hf := he.h0
   replace hf := hf.more he 20 rfl (onP e14)
   refine stBS (rows := ([r_5.1] : List Int).map encI_i64) (vs := [(0,.int .i64 r_5.1)]) hf hc rfl rfl sl_61 rfl ⟨rfl,rfl,rfl,trivial⟩ rfl rfl fun b_5 a w hf hc => cNil ?_
   refine xThenN ?_
   intro ds u hau
   replace hc := hc.drop k1
   refine ⟨(setT θ 120 ⟨b_5,none,0⟩),he.put hi hau hf rfl [] trivial ⟨qq,qq,qq,qq,qq,qq,qq,qq,qq,qq,qq,qq,qq,qq,qq,qq,qq,qq,qq,qq,qq,qq,qq,qq,qq,qq,trivial⟩,?_⟩
   try dsimp only
   rw [updE_self E 15]
   exact hc
  ·intro E θ a w hD hi hp he hc
   have e12 := hp.of (k := 12) rfl
   have e15 := hp.of (k := 15) rfl
   have e22 := hD.f 16 rfl hi
   try dsimp only at hc
   rw [e15,hi,e22] at hc
   have hf := he.h0
   replace hf := hf.more he 18 rfl (onP e12)
   replace hf := hf.more he 21 rfl (onP e15)
   refine stApm (xs := x_3) (ys := ([r_5.1] : List Int)) hf hc rfl rfl sl_61 rfl rfl rfl rfl rfl one_encI_i64 (src_row hc m0) (fun _ _ => u4) (by simpa using room_spec hun_2) fun p_6 c_6 a w hf hc => cNil ?_
   refine xThenN ?_
   intro ds u hau
   refine ⟨(setT θ 128 ⟨0,p_6,c_6⟩),he.put hi hau hf rfl [] trivial ⟨qq,qq,qq,qq,qq,qq,qq,qq,qq,qq,qq,qq,qq,qq,qq,qq,qq,qq,qq,qq,qq,qq,qq,qq,qq,qq,trivial⟩,?_⟩
   try dsimp only
   rw [updE_tru 16 e15,updE_self E 16,updE_fls 16 e22 rfl]
   exact hc
  ·intro E θ a w hD hi hp he hc
   have hf := he.h0
   replace hf := hf.more he 2 rfl onT
   refine stP hf rfl rfl rfl (pFA fa_98_2 rfl) fun a hf => cNil ?_
   refine xThenN ?_
   intro ds u hau
   refine ⟨θ,he.put0 hi hau hf rfl 23 rfl rfl,?_⟩
   exact hc
  ·intro E θ a w hD hi hp he hc
   have e4 := hp.of (k := 4) rfl
   have e17 := hp.of (k := 17) rfl
   have e20 := hD.f 17 rfl hi
   have e22 := hD.f 18 rfl hi
   try dsimp only at hc
   rw [hi,e20,e22] at hc
   have hf := he.h0
   replace hf := hf.more he 10 rfl (onP e4)
   replace hf := hf.more he 23 rfl (onP e17)
   refine stSt (vs := [.slice ((θ 32).p) ((x_1 ++ [W (at_ + r_3.1)]).length) ((θ 32).c)]) hf hc rfl rfl rfl rfl sz_61 rfl rfl u7 fun w hc => cNil ?_
   refine xThenN ?_
   intro ds u hau
   refine ⟨θ,he.stay0 hi hau hf rfl,?_⟩
   try dsimp only
   rw [updE_self E 18,updE_fls 18 e20 rfl,updE_fls 18 e22 rfl]
   exact hc
  ·intro E θ a w hD hi hp he hc
   have hf := he.h0
   replace hf := hf.more he 2 rfl onT
   refine stP hf rfl rfl rfl (pFA fa_98_3 rfl) fun a hf => cNil ?_
   refine xThenN ?_
   intro ds u hau
   refine ⟨θ,he.put0 hi hau hf rfl 24 rfl rfl,?_⟩
   exact hc
  ·intro E θ a w hD hi hp he hc
   have e10 := hp.of (k := 10) rfl
   have e19 := hp.of (k := 19) rfl
   have e18 := hp.of (k := 18) rfl
   have e22 := hD.f 19 rfl hi
   try dsimp only at hc
   rw [e18,hi,e22] at hc
   have hf := he.h0
   replace hf := hf.more he 16 rfl (onP e10)
   replace hf := hf.more he 24 rfl (onP e19)
   refine stSt (vs := [.slice ((θ 80).p) ((x_2 ++ [r_4.1]).length) ((θ 80).c)]) hf hc rfl rfl rfl rfl sz_61 rfl rfl u7 fun w hc => cNil ?_
   refine xThenN ?_
   intro ds u hau
   refine ⟨θ,he.stay0 hi hau hf rfl,?_⟩
   try dsimp only
   rw [updE_tru 20 e18,updE_self E 20,updE_fls 20 e22 rfl]
   exact hc
  ·intro E θ a w hD hi hp he hc
   have hf := he.h0
   replace hf := hf.more he 2 rfl onT
   refine stP hf rfl rfl rfl (pFA fa_98_4 rfl) fun a hf => cNil ?_
   refine xThenN ?_
   intro ds u hau
   refine ⟨θ,he.put0 hi hau hf rfl 25 rfl rfl,?_⟩
   exact hc
  ·intro E θ a w hD hi hp he hc
   have e16 := hp.of (k := 16) rfl
   have e21 := hp.of (k := 21) rfl
   have e18 := hp.of (k := 18) rfl
   have e20 := hp.of (k := 20) rfl
   try dsimp only at hc
   rw [e18,e20,hi] at hc
   have hf := he.h0
   replace hf := hf.more he 22 rfl (onP e16)
   replace hf := hf.more he 25 rfl (onP e21)
   refine stSt (vs := [.slice ((θ 128).p) ((x_3 ++ [r_5.1]).length) ((θ 128).c)]) hf hc rfl rfl rfl rfl sz_61 rfl rfl u7 fun w hc => cNil ?_
   refine xThenN ?_
   intro ds u hau
   refine ⟨θ,he.stay0 hi hau hf rfl,?_⟩
   try dsimp only
   rw [updE_tru 22 e18,updE_tru 22 e20,updE_self E 22]
   exact hc
  ·intro E θ a w hall he hc
   have hf := he.h0
   have e3 := hall 3 rfl
   have e4 := hall 4 rfl
   have e8 := hall 8 rfl
   have e9 := hall 9 rfl
   have e10 := hall 10 rfl
   have e14 := hall 14 rfl
   have e15 := hall 15 rfl
   have e16 := hall 16 rfl
   have e18 := hall 18 rfl
   have e20 := hall 20 rfl
   have e22 := hall 22 rfl
   replace hf := hf.more he 5 rfl (onT)
   replace hf := hf.more he 4 rfl (onT)
   replace hf := hf.more he 3 rfl (onT)
   replace hf := hf.more he 2 rfl (onT)
   replace hf := hf.more he 1 rfl (onT)
   replace hf := hf.more he 0 rfl (onT)
   try dsimp only at hc
   rw [e3,e4,e8,e9,e10,e14,e15,e16,e18,e20,e22] at hc
   exact ⟨(θ 120).b,(θ 72).b,(θ 24).b,(θ 128).p,(θ 128).c,(θ 80).p,(θ 80).c,(θ 32).p,(θ 32).c,hf.keep ⟨rfl,rfl,rfl,rfl,rfl,rfl,trivial⟩,hc⟩
  rintro a w ⟨b_6,b_7,b_8,p_7,c_7,p_8,c_8,p_9,c_9,hf,hc⟩
  refine h11 _ _ ?_
  refine cReg ?_
  refine stP hf rfl rfl rfl (pAdd rfl rfl) fun a hf => stP hf rfl rfl rfl (pM rfl) fun a hf => cNil ?_
  replace hc := hc.drop k2
  replace hc := hc.drop k1
  replace hc := hc.drop k0
  replace hc := hc.pick k0
  replace hc := hc.pick k3
  replace hc := hc.pick k3
  replace hc := hc.pick k3
  exact hK6 (W (at_ + r_3.1),W (x + 1),r_5.2.1,r_5.2.2,(x_1 ++ [W (at_ + r_3.1)]),(x_2 ++ [r_4.1]),(x_3 ++ [r_5.1])) _ _ (Option.some.inj hF).symm ⟨p_9,c_9,p_8,c_8,p_7,c_7,hf.keep ⟨rfl,rfl,rfl,rfl,rfl,rfl,trivial⟩,hc⟩
 ·replace hF := condF hb hF
  clear hb
  refine wp_exit ?_
  refine xThen ?_
  refine xThen ?_
  have he := Option.some.inj hF
  rw [← he] at hfin6
  refine cHit ?_
  exact hr6 _ _ _ hfin6 ⟨p_1,c_1,p_2,c_2,p_3,c_3,hf.keep ⟨rfl,rfl,rfl,rfl,rfl,rfl,trivial⟩,hc⟩

def law03_Around (N : Nat) (s_ : kit_Stream) (n : Int) (least : Int) (greatest : Int) (error : Int) : Option (api_Span × Int × Int) :=
 Option.bind (kit_Stream_Next N s_ (W (error + 1))) fun r =>
 Option.bind (kit_Stream_Next N (⟨s_.bytes,r.2.1,r.2.2⟩ : kit_Stream) (W (error + 1))) fun r_1 =>
 some ((⟨max least (W (n - r.1)),min greatest (W (n + r_1.1))⟩ : api_Span),r_1.2.1,r_1.2.2)
theorem law03_Around_ok {N : Nat} {G : Pers} {Lf : List Ent} {w : World} (s_ : kit_Stream) (n : Int) (least : Int) (greatest : Int) (error : Int) {b_ : Nat} {s__bytes_p : Option Addr} {s__bytes_c : Nat} (h_s__bytes : Rd G 1 s__bytes_p s__bytes_c (s_.bytes.map encI_u8)) (hc : Ctx G (.box b_ [.slice s__bytes_p s_.bytes.length s__bytes_c,.int .i64 s_.used,.int .i64 s_.mix] 151::Lf) w) {res : api_Span × Int × Int} (hF : law03_Around N s_ n least greatest error = some res) : Calls Try.prog 92 #[.pointer (some ⟨b_,0,none⟩),.int .i64 n,.int .i64 least,.int .i64 greatest,.int .i64 error] w (fun e w => e = .returned (.agg #[.int .i64 res.1.Lo,.int .i64 res.1.Hi]) ∧ Ctx G (.box b_ [.slice s__bytes_p s_.bytes.length s__bytes_c,.int .i64 res.2.1,.int .i64 res.2.2] 151::Lf) w) := by
 unfold law03_Around at hF
 refine fnIn (args := [.pointer (some ⟨b_,0,none⟩),.int .i64 n,.int .i64 least,.int .i64 greatest,.int .i64 error]) Try.func92 rfl Try.ntmps92 rfl fun a hf => wp_seq_k fun K1 h1 => cReg ?_
 refine stAl (cs := [.int .i64 0,.int .i64 0]) hf hc rfl rfl zr_50 rfl fun b_1 a w hf hc => cNil ?_
 refine h1 _ _ ?_
 refine wp_seq_k fun K2 h2 => cReg ?_
 refine stP hf rfl rfl rfl (pM rfl) fun a hf => stP hf rfl rfl rfl (pM rfl) fun a hf => stP hf rfl rfl rfl (pM rfl) fun a hf => stP hf rfl rfl rfl (pM rfl) fun a hf => stP hf rfl rfl rfl (pAdd rfl rfl) fun a hf => ?_
 obtain ⟨r,hr,hF⟩ := bnd_some hF
 refine stC (vs := [.pointer (some ⟨b_,0,none⟩),.int .i64 (W (error + 1))]) (caps := []) hf rfl rfl rfl en_38 rfl rfl rfl rfl (kit_Stream_Next_ok s_ (W (error + 1)) h_s__bytes (hc.pick k1) hr) ?_
 rintro _ w ⟨rfl,hc⟩
 refine ⟨_,rfl,fun a hf => ?_⟩
 refine stP hf rfl rfl rfl (pSub rfl rfl) fun a hf => stP hf rfl rfl rfl (pMax2 rfl rfl) fun a hf => stP hf rfl rfl rfl (pM rfl) fun a hf => stP hf rfl rfl rfl (pM rfl) fun a hf => stP hf rfl rfl rfl (pM rfl) fun a hf => stP hf rfl rfl rfl (pM rfl) fun a hf => stP hf rfl rfl rfl (pAdd rfl rfl) fun a hf => ?_
 obtain ⟨r_1,hr_1,hF⟩ := bnd_some hF
 refine stC (vs := [.pointer (some ⟨b_,0,none⟩),.int .i64 (W (error + 1))]) (caps := []) hf rfl rfl rfl en_38 rfl rfl rfl rfl (kit_Stream_Next_ok (⟨s_.bytes,r.2.1,r.2.2⟩ : kit_Stream) (W (error + 1)) h_s__bytes (hc.pick k0) hr_1) ?_
 rintro _ w ⟨rfl,hc⟩
 refine ⟨_,rfl,fun a hf => ?_⟩
 refine stP hf rfl rfl rfl (pAdd rfl rfl) fun a hf => stP hf rfl rfl rfl (pMin2 rfl rfl) fun a hf => stP hf rfl rfl rfl (pBuildS (cells := [.int .i64 (max least (W (n - r.1))),.int .i64 (min greatest (W (n + r_1.1)))]) bt_50 rfl rfl) fun a hf => stSt (vs := [.int .i64 (max least (W (n - r.1))),.int .i64 (min greatest (W (n + r_1.1)))]) hf hc rfl rfl rfl rfl sz_50 rfl rfl u1 fun w hc => cNil ?_
 refine h2 _ _ ?_
 refine wp_ret ?_
 obtain rfl := Option.some.inj hF
 exact fnOut1 (by simp) rfl Try.results92 hf hc (rv_cellN (vs := [.int .i64 (max least (W (n - r.1))),.int .i64 (min greatest (W (n + r_1.1)))]) ag_50 rfl rfl (cells_box (n := 2) m1 rfl)) ⟨rfl,(hc.drop k1)⟩

def law03_Gauged_b5 (N : Nat) (s_ : kit_Stream) (r : law03_River) (x : Int) (b__0 : Int) (b__1 : Int) (x_1 : List gauge_Vertical) : Option (Step (Int × Int × Int × (List gauge_Vertical)) (gauge_Gauging × Int × Int)) :=
 cond (decide (x < ((r.At.length : Nat) : Int)))
 (Option.bind (getI r.At x) fun e_1 =>
 Option.bind (getI r.Depth x) fun e_2 =>
 Option.bind (law03_Around N (⟨s_.bytes,b__0,b__1⟩ : kit_Stream) e_2 0 2000 9) fun r_0 =>
 Option.bind (getI r.Speeds x) fun e_3 =>
 Option.bind (law03_Around N (⟨s_.bytes,r_0.2.1,r_0.2.2⟩ : kit_Stream) e_3 (-5000) 5000 20) fun r_1 =>
 Option.bind (room ((x_1 ++ [(⟨e_1,r_0.1,r_1.1⟩ : gauge_Vertical)])).length) fun un =>
 some (.cont (W (x + 1),r_1.2.1,r_1.2.2,(x_1 ++ [(⟨e_1,r_0.1,r_1.1⟩ : gauge_Vertical)]))))
 (some (.brk (x,b__0,b__1,x_1)))
def law03_Gauged (N : Nat) (s_ : kit_Stream) (r : law03_River) : Option (gauge_Gauging × Int × Int) :=
 Option.bind (loopO (fun s5 => law03_Gauged_b5 N s_ r s5.1 s5.2.1 s5.2.2.1 s5.2.2.2) N (0,s_.used,s_.mix,([] : List gauge_Vertical))) fun x5 =>
 exK x5 (fun s5 => some ((⟨r.Left,r.Right,s5.2.2.2⟩ : gauge_Gauging),s5.2.1,s5.2.2.1)) some
theorem law03_Gauged_ok {N : Nat} {G : Pers} {Lf : List Ent} {w : World} (s_ : kit_Stream) (r : law03_River) {b_ : Nat} {s__bytes_p : Option Addr} {s__bytes_c : Nat} {r_At_p : Option Addr} {r_At_c : Nat} {r_Depth_p : Option Addr} {r_Depth_c : Nat} {r_Speeds_p : Option Addr} {r_Speeds_c : Nat} (h_s__bytes : Rd G 1 s__bytes_p s__bytes_c (s_.bytes.map encI_u8)) (h_r_At : Rd G 1 r_At_p r_At_c (r.At.map encI_i64)) (h_r_Depth : Rd G 1 r_Depth_p r_Depth_c (r.Depth.map encI_i64)) (h_r_Speeds : Rd G 1 r_Speeds_p r_Speeds_c (r.Speeds.map encI_i64)) (hc : Ctx G (.box b_ [.slice s__bytes_p s_.bytes.length s__bytes_c,.int .i64 s_.used,.int .i64 s_.mix] 151::Lf) w) {res : gauge_Gauging × Int × Int} (hF : law03_Gauged N s_ r = some res) : Calls Try.prog 49 #[.pointer (some ⟨b_,0,none⟩),.agg #[.int .i64 r.Left,.int .i64 r.Right,.slice r_At_p r.At.length r_At_c,.slice r_Depth_p r.Depth.length r_Depth_c,.slice r_Speeds_p r.Speeds.length r_Speeds_c]] w (fun e w => ∃ (p'1 : Option Addr) (c'1 : Nat),e = .returned (.agg #[.int .i64 res.1.Left,.int .i64 res.1.Right,.slice p'1 res.1.Verticals.length c'1]) ∧ Ctx G (.row p'1 c'1 (res.1.Verticals.map enc_gauge_Vertical) 107 5::.box b_ [.slice s__bytes_p s_.bytes.length s__bytes_c,.int .i64 res.2.1,.int .i64 res.2.2] 151::Lf) w) := by
 unfold law03_Gauged at hF
 refine fnIn (args := [.pointer (some ⟨b_,0,none⟩),.agg #[.int .i64 r.Left,.int .i64 r.Right,.slice r_At_p r.At.length r_At_c,.slice r_Depth_p r.Depth.length r_Depth_c,.slice r_Speeds_p r.Speeds.length r_Speeds_c]]) Try.func49 rfl Try.ntmps49 rfl fun a hf => wp_seq_k fun K1 h1 => cReg ?_
 refine stBx (cs := [.int .i64 r.Left,.int .i64 r.Right,.slice r_At_p r.At.length r_At_c,.slice r_Depth_p r.Depth.length r_Depth_c,.slice r_Speeds_p r.Speeds.length r_Speeds_c]) hf hc rfl rfl rfl rfl fun b_1 a w hf hc => stAl (cs := [.int .i64 0,.int .i64 0,.slice none 0 0]) hf hc rfl rfl zr_102 rfl fun b_2 a w hf hc => cNil ?_
 refine h1 _ _ ?_
 refine wp_seq_k fun K2 h2 => cReg ?_
 refine stP hf rfl rfl rfl (pFA fa_98_0 rfl) fun a hf => stE hf hc rfl rfl rfl (eLd1 sc_3 rfl (cell_box m1 rfl)) fun a w hf hc => stP hf rfl rfl rfl (pFA fa_98_1 rfl) fun a hf => stE hf hc rfl rfl rfl (eLd1 sc_3 rfl (cell_box m1 rfl)) fun a w hf hc => stP hf rfl rfl rfl (pBuildS (cells := [.int .i64 r.Left,.int .i64 r.Right,.slice none 0 0]) bt_102 rfl rfl) fun a hf => stAl (cs := [.int .i64 0,.int .i64 0,.slice none 0 0]) hf hc rfl rfl zr_102 rfl fun b_3 a w hf hc => stSt (vs := [.int .i64 r.Left,.int .i64 r.Right,.slice none 0 0]) hf hc rfl rfl rfl rfl sz_102 rfl rfl u0 fun w hc => cNil ?_
 refine h2 _ _ ?_
 refine wp_seq_k fun K3 h3 => wp_seq_k fun K4 h4 => cReg ?_
 refine stP hf rfl rfl rfl (pFA fa_98_2 rfl) fun a hf => stE hf hc rfl rfl rfl (eLd1 sc_61 rfl (cell_box m2 rfl)) fun a w hf hc => stP hf rfl rfl rfl (pLenS Try.underlying61 rfl) fun a hf => stP hf rfl rfl rfl (pM rfl) fun a hf => cNil ?_
 refine h4 _ _ ?_
 refine wp_block ?_
 obtain ⟨x5,hx5,hF⟩ := bnd_some hF
 let S5 : (Int × Int × Int × (List gauge_Vertical)) → Act → World → Prop := (fun (zz : Int × Int × Int × (List gauge_Vertical)) a w => ∃ (p_1 : Option Addr) (c_1 : Nat),Has 44 a [(0,.pointer (some ⟨b_,0,none⟩)),(3,.pointer (some ⟨b_1,0,none⟩)),(4,.pointer (some ⟨b_2,0,none⟩)),(5,.pointer (some ⟨b_3,0,none⟩)),(14,.slice r_At_p r.At.length r_At_c),(15,.int .i64 ((r.At.length : Nat) : Int)),(16,.int .i64 zz.1)] ∧ Ctx G (.row p_1 c_1 (zz.2.2.2.map enc_gauge_Vertical) 107 5::.box b_3 [.int .i64 r.Left,.int .i64 r.Right,.slice p_1 zz.2.2.2.length c_1] 102::.box b_2 [.int .i64 0,.int .i64 0,.slice none 0 0] 102::.box b_1 [.int .i64 r.Left,.int .i64 r.Right,.slice r_At_p r.At.length r_At_c,.slice r_Depth_p r.Depth.length r_Depth_c,.slice r_Speeds_p r.Speeds.length r_Speeds_c] 98::.box b_ [.slice s__bytes_p s_.bytes.length s__bytes_c,.int .i64 zz.2.1,.int .i64 zz.2.2.1] 151::Lf) w)
 have hr5 : ∀ (zz : Int × Int × Int × (List gauge_Vertical)) a w,x5 = .go zz → S5 zz a w → K3 a w := by
  rintro ⟨x,b__0,b__1,x_1⟩ a w rfl ⟨p_1,c_1,hf,hc⟩
  replace hF := exK_go hF
  refine h3 _ _ ?_
  refine wp_seq_k fun K6 h6 => cReg ?_
  refine stE hf hc rfl rfl rfl (eLdN (vs := [.int .i64 r.Left,.int .i64 r.Right,.slice p_1 x_1.length c_1]) ag_102 rfl rfl (cells_box (n := 3) m1 rfl)) fun a w hf hc => stSt (vs := [.int .i64 r.Left,.int .i64 r.Right,.slice p_1 x_1.length c_1]) hf hc rfl rfl rfl rfl sz_102 rfl rfl u2 fun w hc => cNil ?_
  refine h6 _ _ ?_
  refine wp_ret ?_
  obtain rfl := Option.some.inj hF
  replace hc := hc.drop k3
  replace hc := hc.drop k1
  replace hc := hc.pick k1
  replace hc := hc.pick k2
  replace hc := hc.pick k2
  exact fnOut1 (by simp) rfl Try.results49 hf hc (rv_cellN (vs := [.int .i64 r.Left,.int .i64 r.Right,.slice p_1 x_1.length c_1]) ag_102 rfl rfl (cells_box (n := 3) m2 rfl)) ⟨p_1,c_1,rfl,(hc.drop k2)⟩
 have ho5 : ∀ r,x5 = .out r → r = res := by
  rintro r rfl
  exact Option.some.inj hF
 replace hc := hc.nilRow 107 5
 refine cLoop N (loopW (S := S5) (x := x5) ?_ N (0,s_.used,s_.mix,([] : List gauge_Vertical)) _ _ ⟨none,0,hf.keep ⟨rfl,rfl,rfl,rfl,rfl,rfl,rfl,trivial⟩,hc⟩ hx5)
 clear hF hf hc
 rintro ⟨x,b__0,b__1,x_1⟩ st5 a w KB5 ⟨p_1,c_1,hf,hc⟩ hF hfin5 hK5
 unfold law03_Gauged_b5 at hF
 refine wp_seq_k fun K7 h7 => cReg ?_
 refine stP hf rfl rfl rfl (pLt rfl rfl) fun a hf => cNil ?_
 refine h7 _ _ ?_
 refine wp_seq_k fun K8 h8 => cCond (b := (decide (x < ((r.At.length : Nat) : Int)))) hf rfl (fun hb => ?_) (fun hb => ?_)
 ·replace hF := condT hb hF
  clear hb
  refine wp_skip ?_
  refine h8 _ _ ?_
  refine wp_seq_k fun K9 h9 => wp_block ?_
  refine wp_seq_k fun K10 h10 => cReg ?_
  refine stP hf rfl rfl rfl (pM rfl) fun a hf => ?_
  obtain ⟨e_1,he_1,hF⟩ := bnd_some hF
  obtain ⟨b_4,o,qa,qp⟩ := h_r_At.atm he_1
  refine stP hf rfl rfl rfl (pIA Try.underlying61 sz_3 rfl rfl qa) fun a hf => stE hf hc rfl rfl rfl (eLd1 sc_3 rfl (cell_pc (j := 0) qp rfl)) fun a w hf hc => stP hf rfl rfl rfl (pA rfl) fun a hf => stP hf rfl rfl rfl (pA rfl) fun a hf => cNil ?_
  refine h10 _ _ ?_
  obtain ⟨e_2,he_2,hF⟩ := bnd_some hF
  obtain ⟨b_5,o_1,qa_1,qp_1⟩ := h_r_Depth.atm he_2
  obtain ⟨r_0,hr_0,hF⟩ := bnd_some hF
  obtain ⟨e_3,he_3,hF⟩ := bnd_some hF
  obtain ⟨b_6,o_2,qa_2,qp_2⟩ := h_r_Speeds.atm he_3
  obtain ⟨r_1,hr_1,hF⟩ := bnd_some hF
  obtain ⟨un,hun,hF⟩ := bnd_some hF
  replace hc := hc.nilRow 0 0
  refine regionE (fun θ => (⟨none,none,0,.pointer (some ⟨b_,0,none⟩)⟩::⟨none,none,3,.pointer (some ⟨b_1,0,none⟩)⟩::⟨none,none,4,.pointer (some ⟨b_2,0,none⟩)⟩::⟨none,none,5,.pointer (some ⟨b_3,0,none⟩)⟩::⟨none,none,6,.int .i64 x⟩::⟨none,none,7,.int .i64 e_1⟩::⟨none,none,14,.slice r_At_p r.At.length r_At_c⟩::⟨none,none,15,.int .i64 ((r.At.length : Nat) : Int)⟩::⟨none,none,16,.int .i64 x⟩::⟨some 0,none,21,.pointer (some ⟨b_3,2,none⟩)⟩::⟨some 1,none,22,.slice p_1 x_1.length c_1⟩::⟨some 2,none,23,.int .i64 e_1⟩::⟨some 3,none,24,.pointer (some ⟨b_,0,none⟩)⟩::⟨some 4,none,25,.pointer (some ⟨b_1,3,none⟩)⟩::⟨some 5,none,26,.slice r_Depth_p r.Depth.length r_Depth_c⟩::⟨some 6,none,27,.int .i64 x⟩::⟨some 7,none,28,.pointer (some ⟨b_5,o_1,none⟩)⟩::⟨some 8,none,29,.int .i64 e_2⟩::⟨some 9,none,30,.agg #[.int .i64 r_0.1.Lo,.int .i64 r_0.1.Hi]⟩::⟨some 10,none,31,.pointer (some ⟨b_,0,none⟩)⟩::⟨some 11,none,32,.pointer (some ⟨b_1,4,none⟩)⟩::⟨some 12,none,33,.slice r_Speeds_p r.Speeds.length r_Speeds_c⟩::⟨some 13,none,34,.int .i64 x⟩::⟨some 14,none,35,.pointer (some ⟨b_6,o_2,none⟩)⟩::⟨some 15,none,36,.int .i64 e_3⟩::⟨some 16,none,37,.agg #[.int .i64 r_1.1.Lo,.int .i64 r_1.1.Hi]⟩::⟨some 17,none,38,.agg #[.int .i64 e_1,.int .i64 r_0.1.Lo,.int .i64 r_0.1.Hi,.int .i64 r_1.1.Lo,.int .i64 r_1.1.Hi]⟩::⟨some 18,none,39,.slice (some ⟨(θ 144).b,0,none⟩) 1 1⟩::⟨some 19,none,40,.slice ((θ 152).p) ((x_1 ++ [(⟨e_1,r_0.1,r_1.1⟩ : gauge_Vertical)]).length) ((θ 152).c)⟩::⟨some 20,none,41,.pointer (some ⟨b_3,2,none⟩)⟩::[])) (fun E θ => (bif E 18 then .row (some ⟨(θ 144).b,0,none⟩) 1 (([(⟨e_1,r_0.1,r_1.1⟩ : gauge_Vertical)] : List gauge_Vertical).map enc_gauge_Vertical) 107 5 else .row none 0 [] 0 0)::(bif E 19 then .row ((θ 152).p) ((θ 152).c) ((x_1 ++ [(⟨e_1,r_0.1,r_1.1⟩ : gauge_Vertical)]).map enc_gauge_Vertical) 107 5 else .row p_1 c_1 (x_1.map enc_gauge_Vertical) 107 5)::(bif E 21 then .box b_3 [.int .i64 r.Left,.int .i64 r.Right,.slice ((θ 152).p) ((x_1 ++ [(⟨e_1,r_0.1,r_1.1⟩ : gauge_Vertical)]).length) ((θ 152).c)] 102 else .box b_3 [.int .i64 r.Left,.int .i64 r.Right,.slice p_1 x_1.length c_1] 102)::.box b_2 [.int .i64 0,.int .i64 0,.slice none 0 0] 102::.box b_1 [.int .i64 r.Left,.int .i64 r.Right,.slice r_At_p r.At.length r_At_c,.slice r_Depth_p r.Depth.length r_Depth_c,.slice r_Speeds_p r.Speeds.length r_Speeds_c] 98::(bif E 16 then .box b_ [.slice s__bytes_p s_.bytes.length s__bytes_c,.int .i64 r_1.2.1,.int .i64 r_1.2.2] 151 else bif E 9 then .box b_ [.slice s__bytes_p s_.bytes.length s__bytes_c,.int .i64 r_0.2.1,.int .i64 r_0.2.2] 151 else .box b_ [.slice s__bytes_p s_.bytes.length s__bytes_c,.int .i64 b__0,.int .i64 b__1] 151)::Lf) [(21,1),(16,9),(21,19)] (fun a w => ∃ (b_8 : Nat) (p_3 : Option Addr) (c_3 : Nat),Has 44 a [(0,.pointer (some ⟨b_,0,none⟩)),(3,.pointer (some ⟨b_1,0,none⟩)),(4,.pointer (some ⟨b_2,0,none⟩)),(5,.pointer (some ⟨b_3,0,none⟩)),(14,.slice r_At_p r.At.length r_At_c),(15,.int .i64 ((r.At.length : Nat) : Int)),(16,.int .i64 x)] ∧ Ctx G (.row (some ⟨b_8,0,none⟩) 1 (([(⟨e_1,r_0.1,r_1.1⟩ : gauge_Vertical)] : List gauge_Vertical).map enc_gauge_Vertical) 107 5::.row p_3 c_3 ((x_1 ++ [(⟨e_1,r_0.1,r_1.1⟩ : gauge_Vertical)]).map enc_gauge_Vertical) 107 5::.box b_3 [.int .i64 r.Left,.int .i64 r.Right,.slice p_3 ((x_1 ++ [(⟨e_1,r_0.1,r_1.1⟩ : gauge_Vertical)]).length) c_3] 102::.box b_2 [.int .i64 0,.int .i64 0,.slice none 0 0] 102::.box b_1 [.int .i64 r.Left,.int .i64 r.Right,.slice r_At_p r.At.length r_At_c,.slice r_Depth_p r.Depth.length r_Depth_c,.slice r_Speeds_p r.Speeds.length r_Speeds_c] 98::.box b_ [.slice s__bytes_p s_.bytes.length s__bytes_c,.int .i64 r_1.2.1,.int .i64 r_1.2.2] 151::Lf) w) follows_mx (by kernel_rfl) (by kernel_rfl) (HasE.of hf ⟨rfl,rfl,rfl,rfl,rfl,rfl,rfl,rfl,rfl,trivial,trivial,trivial,trivial,trivial,trivial,trivial,trivial,trivial,trivial,trivial,trivial,trivial,trivial,trivial,trivial,trivial,trivial,trivial,trivial,trivial,trivial⟩) hc ⟨?_,?_,?_,?_,?_,?_,?_,?_,?_,?_,?_,?_,?_,?_,?_,?_,?_,?_,?_,?_,?_,?_,trivial⟩ ?_ ?_
  ·intro E θ a w hD hi hp he hc
   have hf := he.h0
   replace hf := hf.more he 3 rfl onT
   refine stP hf rfl rfl rfl (pFA fa_102_2 rfl) fun a hf => cNil ?_
   refine xThenN ?_
   intro ds u hau
   refine ⟨θ,he.put0 hi hau hf rfl 9 rfl rfl,?_⟩
   exact hc
  ·intro E θ a w hD hi hp he hc
   have e0 := hp.of (k := 0) rfl
   have e21 := hD.f 0 rfl hi
   try dsimp only at hc
   rw [e21] at hc
   have hf := he.h0
   replace hf := hf.more he 9 rfl (onP e0)
   refine stE hf hc rfl rfl rfl (eLd1 sc_100 rfl (cell_box m2 rfl)) fun a w hf hc => cNil ?_
   refine xThenN ?_
   intro ds u hau
   refine ⟨θ,he.put0 hi hau hf rfl 10 rfl rfl,?_⟩
   try dsimp only
   rw [updE_fls 1 e21 rfl]
   exact hc
  ·intro E θ a w hD hi hp he hc
   have hf := he.h0
   replace hf := hf.more he 5 rfl onT
   refine stP hf rfl rfl rfl (pM rfl) fun a hf => cNil ?_
   refine xThenN ?_
   intro ds u hau
   refine ⟨θ,he.put0 hi hau hf rfl 11 rfl rfl,?_⟩
   exact hc
  ·intro E θ a w hD hi hp he hc
   have hf := he.h0
   replace hf := hf.more he 0 rfl onT
   refine stP hf rfl rfl rfl (pM rfl) fun a hf => cNil ?_
   refine xThenN ?_
   intro ds u hau
   refine ⟨θ,he.put0 hi hau hf rfl 12 rfl rfl,?_⟩
   exact hc
  ·intro E θ a w hD hi hp he hc
   have hf := he.h0
   replace hf := hf.more he 1 rfl onT
   refine stP hf rfl rfl rfl (pFA fa_98_3 rfl) fun a hf => cNil ?_
   refine xThenN ?_
   intro ds u hau
   refine ⟨θ,he.put0 hi hau hf rfl 13 rfl rfl,?_⟩
   exact hc
  ·intro E θ a w hD hi hp he hc
   have e4 := hp.of (k := 4) rfl
   have hf := he.h0
   replace hf := hf.more he 13 rfl (onP e4)
   refine stE hf hc rfl rfl rfl (eLd1 sc_61 rfl (cell_box m4 rfl)) fun a w hf hc => cNil ?_
   refine xThenN ?_
   intro ds u hau
   refine ⟨θ,he.put0 hi hau hf rfl 14 rfl rfl,?_⟩
   exact hc
  ·intro E θ a w hD hi hp he hc
   have hf := he.h0
   replace hf := hf.more he 4 rfl onT
   refine stP hf rfl rfl rfl (pM rfl) fun a hf => cNil ?_
   refine xThenN ?_
   intro ds u hau
   refine ⟨θ,he.put0 hi hau hf rfl 15 rfl rfl,?_⟩
   exact hc
  ·intro E θ a w hD hi hp he hc
   have e5 := hp.of (k := 5) rfl
   have e6 := hp.of (k := 6) rfl
   have hf := he.h0
   replace hf := hf.more he 14 rfl (onP e5)
   replace hf := hf.more he 15 rfl (onP e6)
   refine stP hf rfl rfl rfl (pIA Try.underlying61 sz_3 rfl rfl qa_1) fun a hf => cNil ?_
   refine xThenN ?_
   intro ds u hau
   refine ⟨θ,he.put0 hi hau hf rfl 16 rfl rfl,?_⟩
   exact hc
  ·intro E θ a w hD hi hp he hc
   have e7 := hp.of (k := 7) rfl
   have hf := he.h0
   replace hf := hf.more he 16 rfl (onP e7)
   refine stE hf hc rfl rfl rfl (eLd1 sc_3 rfl (cell_pc (j := 0) qp_1 rfl)) fun a w hf hc => cNil ?_
   refine xThenN ?_
   intro ds u hau
   refine ⟨θ,he.put0 hi hau hf rfl 17 rfl rfl,?_⟩
   exact hc
  ·intro E θ a w hD hi hp he hc
   have e3 := hp.of (k := 3) rfl
   have e8 := hp.of (k := 8) rfl
   have e16 := hD.f 1 rfl hi
   try dsimp only at hc
   rw [hi,e16] at hc
   have hf := he.h0
   replace hf := hf.more he 12 rfl (onP e3)
   replace hf := hf.more he 17 rfl (onP e8)
   refine stC (vs := [.pointer (some ⟨b_,0,none⟩),.int .i64 e_2,.int .i64 0,.int .i64 2000,.int .i64 9]) (caps := []) hf rfl rfl rfl en_92 rfl rfl rfl rfl (law03_Around_ok (⟨s_.bytes,b__0,b__1⟩ : kit_Stream) e_2 0 2000 9 h_s__bytes (hc.pick k5) hr_0) ?_
   rintro _ w ⟨rfl,hc⟩
   refine ⟨_,rfl,fun a hf => ?_⟩
   refine cNil ?_
   refine xThenN ?_
   intro ds u hau
   replace hc := hc.pick k0
   replace hc := hc.pick k5
   replace hc := hc.pick k5
   replace hc := hc.pick k5
   replace hc := hc.pick k5
   replace hc := hc.pick k5
   refine ⟨θ,he.put0 hi hau hf rfl 18 rfl rfl,?_⟩
   try dsimp only
   rw [updE_self E 9,updE_fls 9 e16 rfl]
   exact hc
  ·intro E θ a w hD hi hp he hc
   have hf := he.h0
   replace hf := hf.more he 0 rfl onT
   refine stP hf rfl rfl rfl (pM rfl) fun a hf => cNil ?_
   refine xThenN ?_
   intro ds u hau
   refine ⟨θ,he.put0 hi hau hf rfl 19 rfl rfl,?_⟩
   exact hc
  ·intro E θ a w hD hi hp he hc
   have hf := he.h0
   replace hf := hf.more he 1 rfl onT
   refine stP hf rfl rfl rfl (pFA fa_98_4 rfl) fun a hf => cNil ?_
   refine xThenN ?_
   intro ds u hau
   refine ⟨θ,he.put0 hi hau hf rfl 20 rfl rfl,?_⟩
   exact hc
  ·intro E θ a w hD hi hp he hc
   have e11 := hp.of (k := 11) rfl
   have hf := he.h0
   replace hf := hf.more he 20 rfl (onP e11)
   refine stE hf hc rfl rfl rfl (eLd1 sc_61 rfl (cell_box m4 rfl)) fun a w hf hc => cNil ?_
   refine xThenN ?_
   intro ds u hau
   refine ⟨θ,he.put0 hi hau hf rfl 21 rfl rfl,?_⟩
   exact hc
  ·intro E θ a w hD hi hp he hc
   have hf := he.h0
   replace hf := hf.more he 4 rfl onT
   refine stP hf rfl rfl rfl (pM rfl) fun a hf => cNil ?_
   refine xThenN ?_
   intro ds u hau
   refine ⟨θ,he.put0 hi hau hf rfl 22 rfl rfl,?_⟩
   exact hc
  ·intro E θ a w hD hi hp he hc
   have e12 := hp.of (k := 12) rfl
   have e13 := hp.of (k := 13) rfl
   have hf := he.h0
   replace hf := hf.more he 21 rfl (onP e12)
   replace hf := hf.more he 22 rfl (onP e13)
   refine stP hf rfl rfl rfl (pIA Try.underlying61 sz_3 rfl rfl qa_2) fun a hf => cNil ?_
   refine xThenN ?_
   intro ds u hau
   refine ⟨θ,he.put0 hi hau hf rfl 23 rfl rfl,?_⟩
   exact hc
  ·intro E θ a w hD hi hp he hc
   have e14 := hp.of (k := 14) rfl
   have hf := he.h0
   replace hf := hf.more he 23 rfl (onP e14)
   refine stE hf hc rfl rfl rfl (eLd1 sc_3 rfl (cell_pc (j := 0) qp_2 rfl)) fun a w hf hc => cNil ?_
   refine xThenN ?_
   intro ds u hau
   refine ⟨θ,he.put0 hi hau hf rfl 24 rfl rfl,?_⟩
   exact hc
  ·intro E θ a w hD hi hp he hc
   have e10 := hp.of (k := 10) rfl
   have e15 := hp.of (k := 15) rfl
   have e9 := hp.of (k := 9) rfl
   try dsimp only at hc
   rw [e9,hi] at hc
   have hf := he.h0
   replace hf := hf.more he 19 rfl (onP e10)
   replace hf := hf.more he 24 rfl (onP e15)
   refine stC (vs := [.pointer (some ⟨b_,0,none⟩),.int .i64 e_3,.int .i64 (-5000),.int .i64 5000,.int .i64 20]) (caps := []) hf rfl rfl rfl en_92 rfl rfl rfl rfl (law03_Around_ok (⟨s_.bytes,r_0.2.1,r_0.2.2⟩ : kit_Stream) e_3 (-5000) 5000 20 h_s__bytes (hc.pick k5) hr_1) ?_
   rintro _ w ⟨rfl,hc⟩
   refine ⟨_,rfl,fun a hf => ?_⟩
   refine cNil ?_
   refine xThenN ?_
   intro ds u hau
   replace hc := hc.pick k0
   replace hc := hc.pick k5
   replace hc := hc.pick k5
   replace hc := hc.pick k5
   replace hc := hc.pick k5
   replace hc := hc.pick k5
   refine ⟨θ,he.put0 hi hau hf rfl 25 rfl rfl,?_⟩
   try dsimp only
   rw [updE_tru 16 e9,updE_self E 16]
   exact hc
  ·intro E θ a w hD hi hp he hc
   have e2 := hp.of (k := 2) rfl
   have e9 := hp.of (k := 9) rfl
   have e16 := hp.of (k := 16) rfl
   have hf := he.h0
   replace hf := hf.more he 11 rfl (onP e2)
   replace hf := hf.more he 18 rfl (onP e9)
   replace hf := hf.more he 25 rfl (onP e16)
   refine stP hf rfl rfl rfl (pBuildS (cells := [.int .i64 e_1,.int .i64 r_0.1.Lo,.int .i64 r_0.1.Hi,.int .i64 r_1.1.Lo,.int .i64 r_1.1.Hi]) bt_107 rfl rfl) fun a hf => cNil ?_
   refine xThenN ?_
   intro ds u hau
   refine ⟨θ,he.put0 hi hau hf rfl 26 rfl rfl,?_⟩
   exact hc
  ·intro E θ a w hD hi hp he hc
   have e17 := hp.of (k := 17) rfl
   try dsimp only at hc
   rw [hi] at hc
   have hf := he.h0
   replace hf := hf.more he 26 rfl (onP e17)
   refine stBS (rows := ([(⟨e_1,r_0.1,r_1.1⟩ : gauge_Vertical)] : List gauge_Vertical).map enc_gauge_Vertical) (vs := [(0,.agg #[.int .i64 e_1,.int .i64 r_0.1.Lo,.int .i64 r_0.1.Hi,.int .i64 r_1.1.Lo,.int .i64 r_1.1.Hi])]) hf hc rfl rfl sl_100 rfl ⟨rfl,rfl,rfl,trivial⟩ rfl rfl fun b_7 a w hf hc => cNil ?_
   refine xThenN ?_
   intro ds u hau
   replace hc := hc.drop k1
   refine ⟨(setT θ 144 ⟨b_7,none,0⟩),he.put hi hau hf rfl [] trivial ⟨qq,qq,qq,qq,qq,qq,qq,qq,qq,qq,qq,qq,qq,qq,qq,qq,qq,qq,qq,qq,qq,qq,qq,qq,qq,qq,qq,qq,qq,qq,trivial⟩,?_⟩
   try dsimp only
   rw [updE_self E 18]
   exact hc
  ·intro E θ a w hD hi hp he hc
   have e1 := hp.of (k := 1) rfl
   have e18 := hp.of (k := 18) rfl
   have e21 := hD.f 2 rfl hi
   try dsimp only at hc
   rw [e18,hi,e21] at hc
   have hf := he.h0
   replace hf := hf.more he 10 rfl (onP e1)
   replace hf := hf.more he 27 rfl (onP e18)
   refine stApm (xs := x_1) (ys := ([(⟨e_1,r_0.1,r_1.1⟩ : gauge_Vertical)] : List gauge_Vertical)) hf hc rfl rfl sl_100 rfl rfl rfl rfl rfl one_enc_gauge_Vertical (src_row hc m0) (fun _ _ => u1) (by simpa using room_spec hun) fun p_2 c_2 a w hf hc => cNil ?_
   refine xThenN ?_
   intro ds u hau
   refine ⟨(setT θ 152 ⟨0,p_2,c_2⟩),he.put hi hau hf rfl [] trivial ⟨qq,qq,qq,qq,qq,qq,qq,qq,qq,qq,qq,qq,qq,qq,qq,qq,qq,qq,qq,qq,qq,qq,qq,qq,qq,qq,qq,qq,qq,qq,trivial⟩,?_⟩
   try dsimp only
   rw [updE_tru 19 e18,updE_self E 19,updE_fls 19 e21 rfl]
   exact hc
  ·intro E θ a w hD hi hp he hc
   have hf := he.h0
   replace hf := hf.more he 3 rfl onT
   refine stP hf rfl rfl rfl (pFA fa_102_2 rfl) fun a hf => cNil ?_
   refine xThenN ?_
   intro ds u hau
   refine ⟨θ,he.put0 hi hau hf rfl 29 rfl rfl,?_⟩
   exact hc
  ·intro E θ a w hD hi hp he hc
   have e19 := hp.of (k := 19) rfl
   have e20 := hp.of (k := 20) rfl
   try dsimp only at hc
   rw [hi] at hc
   have hf := he.h0
   replace hf := hf.more he 28 rfl (onP e19)
   replace hf := hf.more he 29 rfl (onP e20)
   refine stSt (vs := [.slice ((θ 152).p) ((x_1 ++ [(⟨e_1,r_0.1,r_1.1⟩ : gauge_Vertical)]).length) ((θ 152).c)]) hf hc rfl rfl rfl rfl sz_100 rfl rfl u2 fun w hc => cNil ?_
   refine xThenN ?_
   intro ds u hau
   refine ⟨θ,he.stay0 hi hau hf rfl,?_⟩
   try dsimp only
   rw [updE_self E 21]
   exact hc
  ·intro E θ a w hall he hc
   have hf := he.h0
   have e9 := hall 9 rfl
   have e16 := hall 16 rfl
   have e18 := hall 18 rfl
   have e19 := hall 19 rfl
   have e21 := hall 21 rfl
   replace hf := hf.more he 8 rfl (onT)
   replace hf := hf.more he 7 rfl (onT)
   replace hf := hf.more he 6 rfl (onT)
   replace hf := hf.more he 3 rfl (onT)
   replace hf := hf.more he 2 rfl (onT)
   replace hf := hf.more he 1 rfl (onT)
   replace hf := hf.more he 0 rfl (onT)
   try dsimp only at hc
   rw [e9,e16,e18,e19,e21] at hc
   exact ⟨(θ 144).b,(θ 152).p,(θ 152).c,hf.keep ⟨rfl,rfl,rfl,rfl,rfl,rfl,rfl,trivial⟩,hc⟩
  rintro a w ⟨b_8,p_3,c_3,hf,hc⟩
  refine h9 _ _ ?_
  refine cReg ?_
  refine stP hf rfl rfl rfl (pAdd rfl rfl) fun a hf => stP hf rfl rfl rfl (pM rfl) fun a hf => cNil ?_
  replace hc := hc.drop k0
  exact hK5 (W (x + 1),r_1.2.1,r_1.2.2,(x_1 ++ [(⟨e_1,r_0.1,r_1.1⟩ : gauge_Vertical)])) _ _ (Option.some.inj hF).symm ⟨p_3,c_3,hf.keep ⟨rfl,rfl,rfl,rfl,rfl,rfl,rfl,trivial⟩,hc⟩
 ·replace hF := condF hb hF
  clear hb
  refine wp_exit ?_
  refine xThen ?_
  refine xThen ?_
  have he := Option.some.inj hF
  rw [← he] at hfin5
  refine cHit ?_
  exact hr5 _ _ _ hfin5 ⟨p_1,c_1,hf.keep ⟨rfl,rfl,rfl,rfl,rfl,rfl,rfl,trivial⟩,hc⟩

def kit_Copy_gauge_Vertical (N : Nat) (l : List gauge_Vertical) : Option ((List gauge_Vertical)) :=
 Option.bind (room (l).length) fun un =>
 some l
theorem kit_Copy_gauge_Vertical_ok {N : Nat} {G : Pers} {Lf : List Ent} {w : World} (l : List gauge_Vertical) {l_p : Option Addr} {l_c : Nat} (h_l : Rd G 5 l_p l_c (l.map enc_gauge_Vertical)) (hc : Ctx G (Lf) w) {res : (List gauge_Vertical)} (hF : kit_Copy_gauge_Vertical N l = some res) : Calls Try.prog 93 #[.slice l_p l.length l_c] w (fun e w => ∃ (p'1 : Option Addr) (c'1 : Nat),e = .returned (.slice p'1 res.length c'1) ∧ Ctx G (.row p'1 c'1 (res.map enc_gauge_Vertical) 107 5::Lf) w) := by
 unfold kit_Copy_gauge_Vertical at hF
 refine fnIn (args := [.slice l_p l.length l_c]) Try.func93 rfl Try.ntmps93 rfl fun a hf => wp_seq_k fun K1 h1 => cReg ?_
 refine stP hf rfl rfl rfl (pA rfl) fun a hf => cNil ?_
 refine h1 _ _ ?_
 refine wp_seq_k fun K2 h2 => cReg ?_
 refine stP hf rfl rfl rfl (pA rfl) fun a hf => cNil ?_
 refine h2 _ _ ?_
 refine wp_seq_k fun K3 h3 => cReg ?_
 refine stP hf rfl rfl rfl (pM rfl) fun a hf => stP hf rfl rfl rfl (pM rfl) fun a hf => ?_
 replace hc := hc.nilRow 107 5
 obtain ⟨un,hun,hF⟩ := bnd_some hF
 refine stApm (xs := ([] : List gauge_Vertical)) (ys := l) hf hc rfl rfl sl_100 rfl rfl rfl rfl rfl one_enc_gauge_Vertical (src_rd hc h_l) (fun _ _ => u0) (by simpa using room_spec hun) fun p_1 c_1 a w hf hc => stP hf rfl rfl rfl (pA rfl) fun a hf => cNil ?_
 refine h3 _ _ ?_
 refine wp_ret ?_
 obtain rfl := Option.some.inj hF
 exact fnOut1 (by simp) rfl Try.results93 hf hc (show look _ 2 = _ from rfl) ⟨p_1,c_1,rfl,hc⟩

def law03_CopyGauging (N : Nat) (g : gauge_Gauging) : Option (gauge_Gauging) :=
 Option.bind (kit_Copy_gauge_Vertical N g.Verticals) fun r =>
 some (⟨g.Left,g.Right,r⟩ : gauge_Gauging)
theorem law03_CopyGauging_ok {N : Nat} {G : Pers} {Lf : List Ent} {w : World} (g : gauge_Gauging) {g_Verticals_p : Option Addr} {g_Verticals_c : Nat} (h_g_Verticals : Rd G 5 g_Verticals_p g_Verticals_c (g.Verticals.map enc_gauge_Vertical)) (hc : Ctx G (Lf) w) {res : gauge_Gauging} (hF : law03_CopyGauging N g = some res) : Calls Try.prog 50 #[.agg #[.int .i64 g.Left,.int .i64 g.Right,.slice g_Verticals_p g.Verticals.length g_Verticals_c]] w (fun e w => ∃ (p'1 : Option Addr) (c'1 : Nat),e = .returned (.agg #[.int .i64 res.Left,.int .i64 res.Right,.slice p'1 res.Verticals.length c'1]) ∧ Ctx G (.row p'1 c'1 (res.Verticals.map enc_gauge_Vertical) 107 5::Lf) w) := by
 unfold law03_CopyGauging at hF
 refine fnIn (args := [.agg #[.int .i64 g.Left,.int .i64 g.Right,.slice g_Verticals_p g.Verticals.length g_Verticals_c]]) Try.func50 rfl Try.ntmps50 rfl fun a hf => wp_seq_k fun K1 h1 => cReg ?_
 refine stBx (cs := [.int .i64 g.Left,.int .i64 g.Right,.slice g_Verticals_p g.Verticals.length g_Verticals_c]) hf hc rfl rfl rfl rfl fun b_1 a w hf hc => stAl (cs := [.int .i64 0,.int .i64 0,.slice none 0 0]) hf hc rfl rfl zr_102 rfl fun b_2 a w hf hc => cNil ?_
 refine h1 _ _ ?_
 refine wp_seq_k fun K2 h2 => cReg ?_
 refine stP hf rfl rfl rfl (pFA fa_102_2 rfl) fun a hf => stE hf hc rfl rfl rfl (eLd1 sc_100 rfl (cell_box m1 rfl)) fun a w hf hc => ?_
 obtain ⟨r,hr,hF⟩ := bnd_some hF
 refine stC (vs := [.slice g_Verticals_p g.Verticals.length g_Verticals_c]) (caps := []) hf rfl rfl rfl en_93 rfl rfl rfl rfl (kit_Copy_gauge_Vertical_ok g.Verticals h_g_Verticals hc hr) ?_
 rintro _ w ⟨p_1,c_1,rfl,hc⟩
 refine ⟨_,rfl,fun a hf => ?_⟩
 refine stP hf rfl rfl rfl (pFA fa_102_2 rfl) fun a hf => stSt (vs := [.slice p_1 r.length c_1]) hf hc rfl rfl rfl rfl sz_100 rfl rfl u2 fun w hc => cNil ?_
 refine h2 _ _ ?_
 refine wp_seq_k fun K3 h3 => cReg ?_
 refine stE hf hc rfl rfl rfl (eLdN (vs := [.int .i64 g.Left,.int .i64 g.Right,.slice p_1 r.length c_1]) ag_102 rfl rfl (cells_box (n := 3) m2 rfl)) fun a w hf hc => stSt (vs := [.int .i64 g.Left,.int .i64 g.Right,.slice p_1 r.length c_1]) hf hc rfl rfl rfl rfl sz_102 rfl rfl u1 fun w hc => cNil ?_
 refine h3 _ _ ?_
 refine wp_ret ?_
 obtain rfl := Option.some.inj hF
 replace hc := hc.drop k2
 exact fnOut1 (by simp) rfl Try.results50 hf hc (rv_cellN (vs := [.int .i64 g.Left,.int .i64 g.Right,.slice p_1 r.length c_1]) ag_102 rfl rfl (cells_box (n := 3) m1 rfl)) ⟨p_1,c_1,rfl,(hc.drop k1)⟩

def law05_span (N : Nat) (lo : Int) (hi_ : Int) : Option (api_Span) :=
 some (⟨lo,hi_⟩ : api_Span)
theorem law05_span_ok {N : Nat} {G : Pers} {Lf : List Ent} {w : World} (lo : Int) (hi_ : Int)   (hc : Ctx G (Lf) w) {res : api_Span} (hF : law05_span N lo hi_ = some res) : Calls Try.prog 47 #[.int .i64 lo,.int .i64 hi_] w (fun e w => e = .returned (.agg #[.int .i64 res.Lo,.int .i64 res.Hi]) ∧ Ctx G (Lf) w) := by
 unfold law05_span at hF
 refine fnIn (args := [.int .i64 lo,.int .i64 hi_]) Try.func47 rfl Try.ntmps47 rfl fun a hf => wp_seq_k fun K1 h1 => cReg ?_
 refine stAl (cs := [.int .i64 0,.int .i64 0]) hf hc rfl rfl zr_50 rfl fun b_1 a w hf hc => cNil ?_
 refine h1 _ _ ?_
 refine wp_seq_k fun K2 h2 => cReg ?_
 refine stP hf rfl rfl rfl (pM rfl) fun a hf => stP hf rfl rfl rfl (pM rfl) fun a hf => stP hf rfl rfl rfl (pBuildS (cells := [.int .i64 lo,.int .i64 hi_]) bt_50 rfl rfl) fun a hf => stSt (vs := [.int .i64 lo,.int .i64 hi_]) hf hc rfl rfl rfl rfl sz_50 rfl rfl u0 fun w hc => cNil ?_
 refine h2 _ _ ?_
 refine wp_ret ?_
 obtain rfl := Option.some.inj hF
 exact fnOut1 (by simp) rfl Try.results47 hf hc (rv_cellN (vs := [.int .i64 lo,.int .i64 hi_]) ag_50 rfl rfl (cells_box (n := 2) m0 rfl)) ⟨rfl,(hc.drop k0)⟩

def gauge_in (n : Int) (least : Int) (greatest : Int) : Bool :=
 ((decide (least ≤ n)) && (decide (n ≤ greatest)))
theorem gauge_in_ok {G : Pers} {Lf : List Ent} {w : World} (n : Int) (least : Int) (greatest : Int)   (hc : Ctx G (Lf) w) {res : Bool} (hF : gauge_in n least greatest = res) : Calls Try.prog 96 #[.int .i64 n,.int .i64 least,.int .i64 greatest] w (fun e w => e = .returned (.bool res) ∧ Ctx G (Lf) w) := by
 unfold gauge_in at hF
 refine fnIn (args := [.int .i64 n,.int .i64 least,.int .i64 greatest]) Try.func96 rfl Try.ntmps96 rfl fun a hf => wp_seq_k fun K1 h1 => cReg ?_
 refine stP hf rfl rfl rfl (pA rfl) fun a hf => cNil ?_
 refine h1 _ _ ?_
 refine wp_seq_k fun K2 h2 => cReg ?_
 refine stP hf rfl rfl rfl (pM rfl) fun a hf => stP hf rfl rfl rfl (pM rfl) fun a hf => stP hf rfl rfl rfl (pGe rfl rfl) fun a hf => stP hf rfl rfl rfl (pM rfl) fun a hf => stCut 4 (fun a w => Has 15 a [(0,.int .i64 n),(1,.int .i64 least),(2,.int .i64 greatest),(6,.bool false),(7,.int .i64 n),(8,.int .i64 least),(9,.bool (decide (least ≤ n))),(10,.bool (decide (least ≤ n))),(14,.bool ((decide (least ≤ n)) && (decide (n ≤ greatest))))] ∧ Ctx G (Lf) w) ?_ ?_
 ·cases hb : (decide (least ≤ n))
  ·rw [hb] at hf
   refine stS hf rfl rfl rfl fun a hf => stS hf rfl rfl rfl fun a hf => stS hf rfl rfl rfl fun a hf => stP hf rfl rfl rfl (pPf rfl rfl) fun a hf => cNil ⟨hf.keep ⟨rfl,rfl,rfl,rfl,rfl,rfl,rfl,rfl,rfl,trivial⟩,hc⟩
  ·rw [hb] at hf
   refine stP hf rfl rfl rfl (pM rfl) fun a hf => stP hf rfl rfl rfl (pM rfl) fun a hf => stP hf rfl rfl rfl (pLe rfl rfl) fun a hf => stP hf rfl rfl rfl (pPt rfl rfl) fun a hf => cNil ⟨hf.keep ⟨rfl,rfl,rfl,rfl,rfl,rfl,rfl,rfl,rfl,trivial⟩,hc⟩
 intro a w ⟨hf,hc⟩
 refine stP hf rfl rfl rfl (pA rfl) fun a hf => cNil ?_
 refine h2 _ _ ?_
 refine wp_ret ?_
 obtain rfl := hF
 exact fnOut1 (by simp) rfl Try.results96 hf hc (show look _ 6 = _ from rfl) ⟨rfl,hc⟩

def gauge_shore (left : Int) (right : Int) : Bool :=
 ((gauge_in right 1 10000) && (gauge_in left 0 (W (right - 1))))
theorem gauge_shore_ok {G : Pers} {Lf : List Ent} {w : World} (left : Int) (right : Int)   (hc : Ctx G (Lf) w) {res : Bool} (hF : gauge_shore left right = res) : Calls Try.prog 121 #[.int .i64 left,.int .i64 right] w (fun e w => e = .returned (.bool res) ∧ Ctx G (Lf) w) := by
 unfold gauge_shore at hF
 refine fnIn (args := [.int .i64 left,.int .i64 right]) Try.func121 rfl Try.ntmps121 rfl fun a hf => wp_seq_k fun K1 h1 => cReg ?_
 refine stP hf rfl rfl rfl (pA rfl) fun a hf => cNil ?_
 refine h1 _ _ ?_
 refine wp_seq_k fun K2 h2 => cReg ?_
 refine stP hf rfl rfl rfl (pM rfl) fun a hf => stE hf hc rfl rfl rfl (eC (v := .bool (gauge_in right 1 10000)) (vs := [.int .i64 right,.int .i64 1,.int .i64 10000]) (caps := []) en_96 rfl rfl rfl rfl (fun w hc => gauge_in_ok right 1 10000 hc rfl)) fun a w hf hc => stP hf rfl rfl rfl (pM rfl) fun a hf => stCut 5 (fun a w => Has 13 a [(0,.int .i64 left),(1,.int .i64 right),(4,.bool false),(5,.int .i64 right),(6,.bool (gauge_in right 1 10000)),(7,.bool (gauge_in right 1 10000)),(12,.bool ((gauge_in right 1 10000) && (gauge_in left 0 (W (right - 1)))))] ∧ Ctx G (Lf) w) ?_ ?_
 ·cases hb : (gauge_in right 1 10000)
  ·rw [hb] at hf
   refine stS hf rfl rfl rfl fun a hf => stS hf rfl rfl rfl fun a hf => stS hf rfl rfl rfl fun a hf => stS hf rfl rfl rfl fun a hf => stP hf rfl rfl rfl (pPf rfl rfl) fun a hf => cNil ⟨hf.keep ⟨rfl,rfl,rfl,rfl,rfl,rfl,rfl,trivial⟩,hc⟩
  ·rw [hb] at hf
   refine stP hf rfl rfl rfl (pM rfl) fun a hf => stP hf rfl rfl rfl (pM rfl) fun a hf => stP hf rfl rfl rfl (pSub rfl rfl) fun a hf => stE hf hc rfl rfl rfl (eC (v := .bool (gauge_in left 0 (W (right - 1)))) (vs := [.int .i64 left,.int .i64 0,.int .i64 (W (right - 1))]) (caps := []) en_96 rfl rfl rfl rfl (fun w hc => gauge_in_ok left 0 (W (right - 1)) hc rfl)) fun a w hf hc => stP hf rfl rfl rfl (pPt rfl rfl) fun a hf => cNil ⟨hf.keep ⟨rfl,rfl,rfl,rfl,rfl,rfl,rfl,trivial⟩,hc⟩
 intro a w ⟨hf,hc⟩
 refine stP hf rfl rfl rfl (pA rfl) fun a hf => cNil ?_
 refine h2 _ _ ?_
 refine wp_ret ?_
 obtain rfl := hF
 exact fnOut1 (by simp) rfl Try.results121 hf hc (show look _ 4 = _ from rfl) ⟨rfl,hc⟩

def gauge_right (s_ : api_Span) (least : Int) (greatest : Int) : Bool :=
 ((gauge_in s_.Lo least s_.Hi) && (decide (s_.Hi ≤ greatest)))
theorem gauge_right_ok {G : Pers} {Lf : List Ent} {w : World} (s_ : api_Span) (least : Int) (greatest : Int)   (hc : Ctx G (Lf) w) {res : Bool} (hF : gauge_right s_ least greatest = res) : Calls Try.prog 124 #[.agg #[.int .i64 s_.Lo,.int .i64 s_.Hi],.int .i64 least,.int .i64 greatest] w (fun e w => e = .returned (.bool res) ∧ Ctx G (Lf) w) := by
 unfold gauge_right at hF
 refine fnIn (args := [.agg #[.int .i64 s_.Lo,.int .i64 s_.Hi],.int .i64 least,.int .i64 greatest]) Try.func124 rfl Try.ntmps124 rfl fun a hf => wp_seq_k fun K1 h1 => cReg ?_
 refine stBx (cs := [.int .i64 s_.Lo,.int .i64 s_.Hi]) hf hc rfl rfl rfl rfl fun b_1 a w hf hc => stP hf rfl rfl rfl (pA rfl) fun a hf => cNil ?_
 refine h1 _ _ ?_
 refine wp_seq_k fun K2 h2 => cReg ?_
 refine stP hf rfl rfl rfl (pFA fa_50_0 rfl) fun a hf => stE hf hc rfl rfl rfl (eLd1 sc_3 rfl (cell_box m0 rfl)) fun a w hf hc => stP hf rfl rfl rfl (pM rfl) fun a hf => stP hf rfl rfl rfl (pFA fa_50_1 rfl) fun a hf => stE hf hc rfl rfl rfl (eLd1 sc_3 rfl (cell_box m0 rfl)) fun a w hf hc => stE hf hc rfl rfl rfl (eC (v := .bool (gauge_in s_.Lo least s_.Hi)) (vs := [.int .i64 s_.Lo,.int .i64 least,.int .i64 s_.Hi]) (caps := []) en_96 rfl rfl rfl rfl (fun w hc => gauge_in_ok s_.Lo least s_.Hi hc rfl)) fun a w hf hc => stP hf rfl rfl rfl (pM rfl) fun a hf => stCut 5 (fun a w => Has 19 a [(1,.int .i64 least),(2,.int .i64 greatest),(3,.pointer (some ⟨b_1,0,none⟩)),(6,.bool false),(7,.pointer (some ⟨b_1,0,none⟩)),(8,.int .i64 s_.Lo),(9,.int .i64 least),(10,.pointer (some ⟨b_1,1,none⟩)),(11,.int .i64 s_.Hi),(12,.bool (gauge_in s_.Lo least s_.Hi)),(13,.bool (gauge_in s_.Lo least s_.Hi)),(18,.bool ((gauge_in s_.Lo least s_.Hi) && (decide (s_.Hi ≤ greatest))))] ∧ Ctx G (.box b_1 [.int .i64 s_.Lo,.int .i64 s_.Hi] 50::Lf) w) ?_ ?_
 ·cases hb : (gauge_in s_.Lo least s_.Hi)
  ·rw [hb] at hf
   refine stS hf rfl rfl rfl fun a hf => stS hf rfl rfl rfl fun a hf => stS hf rfl rfl rfl fun a hf => stS hf rfl rfl rfl fun a hf => stP hf rfl rfl rfl (pPf rfl rfl) fun a hf => cNil ⟨hf.keep ⟨rfl,rfl,rfl,rfl,rfl,rfl,rfl,rfl,rfl,rfl,rfl,rfl,trivial⟩,hc⟩
  ·rw [hb] at hf
   refine stP hf rfl rfl rfl (pFA fa_50_1 rfl) fun a hf => stE hf hc rfl rfl rfl (eLd1 sc_3 rfl (cell_box m0 rfl)) fun a w hf hc => stP hf rfl rfl rfl (pM rfl) fun a hf => stP hf rfl rfl rfl (pLe rfl rfl) fun a hf => stP hf rfl rfl rfl (pPt rfl rfl) fun a hf => cNil ⟨hf.keep ⟨rfl,rfl,rfl,rfl,rfl,rfl,rfl,rfl,rfl,rfl,rfl,rfl,trivial⟩,hc⟩
 intro a w ⟨hf,hc⟩
 refine stP hf rfl rfl rfl (pA rfl) fun a hf => cNil ?_
 refine h2 _ _ ?_
 refine wp_ret ?_
 obtain rfl := hF
 replace hc := hc.drop k0
 exact fnOut1 (by simp) rfl Try.results124 hf hc (show look _ 6 = _ from rfl) ⟨rfl,hc⟩

def gauge_Check_1 (v : gauge_Vertical) (x : gauge_Gauging) : Bool :=
 (((gauge_in v.At (W (x.Left + 1)) (W (x.Right - 1))) && (gauge_right v.Depth 0 2000)) && (gauge_right v.Speed (-5000) 5000))
theorem gauge_Check_1_ok {G : Pers} {Lf : List Ent} {w : World} (v : gauge_Vertical) (x : gauge_Gauging) {b_ : Nat} {x_Verticals_p : Option Addr} {x_Verticals_c : Nat} (h_x_Verticals : Rd G 5 x_Verticals_p x_Verticals_c (x.Verticals.map enc_gauge_Vertical)) (hc : Ctx G (.box b_ [.int .i64 x.Left,.int .i64 x.Right,.slice x_Verticals_p x.Verticals.length x_Verticals_c] 102::Lf) w) {res : Bool} (hF : gauge_Check_1 v x = res) : Calls Try.prog 123 #[.agg #[.int .i64 v.At,.int .i64 v.Depth.Lo,.int .i64 v.Depth.Hi,.int .i64 v.Speed.Lo,.int .i64 v.Speed.Hi],.pointer (some ⟨b_,0,none⟩)] w (fun e w => e = .returned (.bool res) ∧ Ctx G (.box b_ [.int .i64 x.Left,.int .i64 x.Right,.slice x_Verticals_p x.Verticals.length x_Verticals_c] 102::Lf) w) := by
 unfold gauge_Check_1 at hF
 refine fnIn (args := [.agg #[.int .i64 v.At,.int .i64 v.Depth.Lo,.int .i64 v.Depth.Hi,.int .i64 v.Speed.Lo,.int .i64 v.Speed.Hi],.pointer (some ⟨b_,0,none⟩)]) Try.func123 rfl Try.ntmps123 rfl fun a hf => wp_seq_k fun K1 h1 => cReg ?_
 refine stBx (cs := [.int .i64 v.At,.int .i64 v.Depth.Lo,.int .i64 v.Depth.Hi,.int .i64 v.Speed.Lo,.int .i64 v.Speed.Hi]) hf hc rfl rfl rfl rfl fun b_1 a w hf hc => stP hf rfl rfl rfl (pA rfl) fun a hf => cNil ?_
 refine h1 _ _ ?_
 refine wp_seq_k fun K2 h2 => cReg ?_
 refine stP hf rfl rfl rfl (pFA fa_107_0 rfl) fun a hf => stE hf hc rfl rfl rfl (eLd1 sc_3 rfl (cell_box m0 rfl)) fun a w hf hc => stP hf rfl rfl rfl (pFA fa_102_0 rfl) fun a hf => stE hf hc rfl rfl rfl (eLd1 sc_3 rfl (cell_box m1 rfl)) fun a w hf hc => stP hf rfl rfl rfl (pAdd rfl rfl) fun a hf => stP hf rfl rfl rfl (pFA fa_102_1 rfl) fun a hf => stE hf hc rfl rfl rfl (eLd1 sc_3 rfl (cell_box m1 rfl)) fun a w hf hc => stP hf rfl rfl rfl (pSub rfl rfl) fun a hf => stE hf hc rfl rfl rfl (eC (v := .bool (gauge_in v.At (W (x.Left + 1)) (W (x.Right - 1)))) (vs := [.int .i64 v.At,.int .i64 (W (x.Left + 1)),.int .i64 (W (x.Right - 1))]) (caps := []) en_96 rfl rfl rfl rfl (fun w hc => gauge_in_ok v.At (W (x.Left + 1)) (W (x.Right - 1)) hc rfl)) fun a w hf hc => stP hf rfl rfl rfl (pM rfl) fun a hf => stCut 4 (fun a w => Has 23 a [(1,.pointer (some ⟨b_,0,none⟩)),(2,.pointer (some ⟨b_1,0,none⟩)),(3,.bool false),(4,.pointer (some ⟨b_1,0,none⟩)),(5,.int .i64 v.At),(6,.pointer (some ⟨b_,0,none⟩)),(7,.int .i64 x.Left),(8,.int .i64 (W (x.Left + 1))),(9,.pointer (some ⟨b_,1,none⟩)),(10,.int .i64 x.Right),(11,.int .i64 (W (x.Right - 1))),(12,.bool (gauge_in v.At (W (x.Left + 1)) (W (x.Right - 1)))),(13,.bool (gauge_in v.At (W (x.Left + 1)) (W (x.Right - 1)))),(17,.bool ((gauge_in v.At (W (x.Left + 1)) (W (x.Right - 1))) && (gauge_right v.Depth 0 2000)))] ∧ Ctx G (.box b_1 [.int .i64 v.At,.int .i64 v.Depth.Lo,.int .i64 v.Depth.Hi,.int .i64 v.Speed.Lo,.int .i64 v.Speed.Hi] 107::.box b_ [.int .i64 x.Left,.int .i64 x.Right,.slice x_Verticals_p x.Verticals.length x_Verticals_c] 102::Lf) w) ?_ ?_
 ·cases hb : (gauge_in v.At (W (x.Left + 1)) (W (x.Right - 1)))
  ·rw [hb] at hf
   refine stS hf rfl rfl rfl fun a hf => stS hf rfl rfl rfl fun a hf => stS hf rfl rfl rfl fun a hf => stP hf rfl rfl rfl (pPf rfl rfl) fun a hf => cNil ⟨hf.keep ⟨rfl,rfl,rfl,rfl,rfl,rfl,rfl,rfl,rfl,rfl,rfl,rfl,rfl,rfl,trivial⟩,hc⟩
  ·rw [hb] at hf
   refine stP hf rfl rfl rfl (pFA fa_107_1 rfl) fun a hf => stE hf hc rfl rfl rfl (eLdN (vs := [.int .i64 v.Depth.Lo,.int .i64 v.Depth.Hi]) ag_50 rfl rfl (cells_box (n := 2) m0 rfl)) fun a w hf hc => stE hf hc rfl rfl rfl (eC (v := .bool (gauge_right v.Depth 0 2000)) (vs := [.agg #[.int .i64 v.Depth.Lo,.int .i64 v.Depth.Hi],.int .i64 0,.int .i64 2000]) (caps := []) en_124 rfl rfl rfl rfl (fun w hc => gauge_right_ok v.Depth 0 2000 hc rfl)) fun a w hf hc => stP hf rfl rfl rfl (pPt rfl rfl) fun a hf => cNil ⟨hf.keep ⟨rfl,rfl,rfl,rfl,rfl,rfl,rfl,rfl,rfl,rfl,rfl,rfl,rfl,rfl,trivial⟩,hc⟩
 intro a w ⟨hf,hc⟩
 refine stP hf rfl rfl rfl (pM rfl) fun a hf => stCut 4 (fun a w => Has 23 a [(1,.pointer (some ⟨b_,0,none⟩)),(2,.pointer (some ⟨b_1,0,none⟩)),(3,.bool false),(4,.pointer (some ⟨b_1,0,none⟩)),(5,.int .i64 v.At),(6,.pointer (some ⟨b_,0,none⟩)),(7,.int .i64 x.Left),(8,.int .i64 (W (x.Left + 1))),(9,.pointer (some ⟨b_,1,none⟩)),(10,.int .i64 x.Right),(11,.int .i64 (W (x.Right - 1))),(12,.bool (gauge_in v.At (W (x.Left + 1)) (W (x.Right - 1)))),(13,.bool (gauge_in v.At (W (x.Left + 1)) (W (x.Right - 1)))),(17,.bool ((gauge_in v.At (W (x.Left + 1)) (W (x.Right - 1))) && (gauge_right v.Depth 0 2000))),(18,.bool ((gauge_in v.At (W (x.Left + 1)) (W (x.Right - 1))) && (gauge_right v.Depth 0 2000))),(22,.bool (((gauge_in v.At (W (x.Left + 1)) (W (x.Right - 1))) && (gauge_right v.Depth 0 2000)) && (gauge_right v.Speed (-5000) 5000)))] ∧ Ctx G (.box b_1 [.int .i64 v.At,.int .i64 v.Depth.Lo,.int .i64 v.Depth.Hi,.int .i64 v.Speed.Lo,.int .i64 v.Speed.Hi] 107::.box b_ [.int .i64 x.Left,.int .i64 x.Right,.slice x_Verticals_p x.Verticals.length x_Verticals_c] 102::Lf) w) ?_ ?_
 ·cases hb : ((gauge_in v.At (W (x.Left + 1)) (W (x.Right - 1))) && (gauge_right v.Depth 0 2000))
  ·rw [hb] at hf
   refine stS hf rfl rfl rfl fun a hf => stS hf rfl rfl rfl fun a hf => stS hf rfl rfl rfl fun a hf => stP hf rfl rfl rfl (pPf rfl rfl) fun a hf => cNil ⟨hf.keep ⟨rfl,rfl,rfl,rfl,rfl,rfl,rfl,rfl,rfl,rfl,rfl,rfl,rfl,rfl,rfl,rfl,trivial⟩,hc⟩
  ·rw [hb] at hf
   refine stP hf rfl rfl rfl (pFA fa_107_2 rfl) fun a hf => stE hf hc rfl rfl rfl (eLdN (vs := [.int .i64 v.Speed.Lo,.int .i64 v.Speed.Hi]) ag_50 rfl rfl (cells_box (n := 2) m0 rfl)) fun a w hf hc => stE hf hc rfl rfl rfl (eC (v := .bool (gauge_right v.Speed (-5000) 5000)) (vs := [.agg #[.int .i64 v.Speed.Lo,.int .i64 v.Speed.Hi],.int .i64 (-5000),.int .i64 5000]) (caps := []) en_124 rfl rfl rfl rfl (fun w hc => gauge_right_ok v.Speed (-5000) 5000 hc rfl)) fun a w hf hc => stP hf rfl rfl rfl (pPt rfl rfl) fun a hf => cNil ⟨hf.keep ⟨rfl,rfl,rfl,rfl,rfl,rfl,rfl,rfl,rfl,rfl,rfl,rfl,rfl,rfl,rfl,rfl,trivial⟩,hc⟩
 intro a w ⟨hf,hc⟩
 refine stP hf rfl rfl rfl (pA rfl) fun a hf => cNil ?_
 refine h2 _ _ ?_
 refine wp_ret ?_
 obtain rfl := hF
 replace hc := hc.drop k0
 exact fnOut1 (by simp) rfl Try.results123 hf hc (show look _ 3 = _ from rfl) ⟨rfl,hc⟩

def gauge_every_gauge_Vertical_1 (x : gauge_Vertical) (x_1 : gauge_Gauging) : Bool :=
 (!(gauge_Check_1 x x_1))
theorem gauge_every_gauge_Vertical_1_ok {G : Pers} {Lf : List Ent} {w : World} (x : gauge_Vertical) (x_1 : gauge_Gauging) {b_ : Nat} {b__1 : Nat} {x_1_Verticals_p : Option Addr} {x_1_Verticals_c : Nat} (h_x_1_Verticals : Rd G 5 x_1_Verticals_p x_1_Verticals_c (x_1.Verticals.map enc_gauge_Vertical)) (hc : Ctx G (.box b_ [.func (.func 123) #[] #[.pointer (some ⟨b__1,0,none⟩)]] 203::.box b__1 [.int .i64 x_1.Left,.int .i64 x_1.Right,.slice x_1_Verticals_p x_1.Verticals.length x_1_Verticals_c] 102::Lf) w) {res : Bool} (hF : gauge_every_gauge_Vertical_1 x x_1 = res) : Calls Try.prog 144 #[.agg #[.int .i64 x.At,.int .i64 x.Depth.Lo,.int .i64 x.Depth.Hi,.int .i64 x.Speed.Lo,.int .i64 x.Speed.Hi],.pointer (some ⟨b_,0,none⟩)] w (fun e w => e = .returned (.bool res) ∧ Ctx G (.box b_ [.func (.func 123) #[] #[.pointer (some ⟨b__1,0,none⟩)]] 203::.box b__1 [.int .i64 x_1.Left,.int .i64 x_1.Right,.slice x_1_Verticals_p x_1.Verticals.length x_1_Verticals_c] 102::Lf) w) := by
 unfold gauge_every_gauge_Vertical_1 at hF
 refine fnIn (args := [.agg #[.int .i64 x.At,.int .i64 x.Depth.Lo,.int .i64 x.Depth.Hi,.int .i64 x.Speed.Lo,.int .i64 x.Speed.Hi],.pointer (some ⟨b_,0,none⟩)]) Try.func144 rfl Try.ntmps144 rfl fun a hf => wp_seq_k fun K1 h1 => cReg ?_
 refine stBx (cs := [.int .i64 x.At,.int .i64 x.Depth.Lo,.int .i64 x.Depth.Hi,.int .i64 x.Speed.Lo,.int .i64 x.Speed.Hi]) hf hc rfl rfl rfl rfl fun b_1 a w hf hc => stP hf rfl rfl rfl (pA rfl) fun a hf => cNil ?_
 refine h1 _ _ ?_
 refine wp_seq_k fun K2 h2 => cReg ?_
 refine stE hf hc rfl rfl rfl (eLd1 sc_203 rfl (cell_box m1 rfl)) fun a w hf hc => stE hf hc rfl rfl rfl (eLdN (vs := [.int .i64 x.At,.int .i64 x.Depth.Lo,.int .i64 x.Depth.Hi,.int .i64 x.Speed.Lo,.int .i64 x.Speed.Hi]) ag_107 rfl rfl (cells_box (n := 5) m0 rfl)) fun a w hf hc => stE hf hc rfl rfl rfl (eC (v := .bool (gauge_Check_1 x x_1)) (vs := [.agg #[.int .i64 x.At,.int .i64 x.Depth.Lo,.int .i64 x.Depth.Hi,.int .i64 x.Speed.Lo,.int .i64 x.Speed.Hi]]) (caps := [.pointer (some ⟨b__1,0,none⟩)]) en_123 rfl rfl rfl rfl (fun w hc => (gauge_Check_1_ok x x_1 h_x_1_Verticals (hc.pick k2) rfl).mono fun e w h => ⟨h.1,(h.2.unpick k2)⟩)) fun a w hf hc => stP hf rfl rfl rfl (pNot rfl) fun a hf => stP hf rfl rfl rfl (pA rfl) fun a hf => cNil ?_
 refine h2 _ _ ?_
 refine wp_ret ?_
 obtain rfl := hF
 replace hc := hc.drop k0
 exact fnOut1 (by simp) rfl Try.results144 hf hc (show look _ 3 = _ from rfl) ⟨rfl,hc⟩

def slices_IndexFunc_Lgauge_Vertical_gauge_Vertical_b4 (N : Nat) (s_ : List gauge_Vertical) (f_ : gauge_Gauging) (x : Int) : Option (Step (Int) (Int)) :=
 cond (decide (x < ((s_.length : Nat) : Int)))
 (Option.bind (getI s_ x) fun e_1 =>
 cond (gauge_every_gauge_Vertical_1 e_1 f_)
 (some (.ret x))
 (some (.cont (W (x + 1)))))
 (some (.brk x))
def slices_IndexFunc_Lgauge_Vertical_gauge_Vertical (N : Nat) (s_ : List gauge_Vertical) (f_ : gauge_Gauging) : Option (Int) :=
 Option.bind (loopO (fun s4 => slices_IndexFunc_Lgauge_Vertical_gauge_Vertical_b4 N s_ f_ s4) N 0) fun x4 =>
 exK x4 (fun s4 => some (-1)) some
theorem slices_IndexFunc_Lgauge_Vertical_gauge_Vertical_ok {N : Nat} {G : Pers} {Lf : List Ent} {w : World} (s_ : List gauge_Vertical) (f_ : gauge_Gauging) {s__p : Option Addr} {s__c : Nat} {b_ : Nat} {b__1 : Nat} {f__Verticals_p : Option Addr} {f__Verticals_c : Nat} (h_s_ : Rd G 5 s__p s__c (s_.map enc_gauge_Vertical)) (h_f__Verticals : Rd G 5 f__Verticals_p f__Verticals_c (f_.Verticals.map enc_gauge_Vertical)) (hc : Ctx G (.box b_ [.func (.func 123) #[] #[.pointer (some ⟨b__1,0,none⟩)]] 203::.box b__1 [.int .i64 f_.Left,.int .i64 f_.Right,.slice f__Verticals_p f_.Verticals.length f__Verticals_c] 102::Lf) w) {res : Int} (hF : slices_IndexFunc_Lgauge_Vertical_gauge_Vertical N s_ f_ = some res) : Calls Try.prog 150 #[.slice s__p s_.length s__c,.func (.func 144) #[] #[.pointer (some ⟨b_,0,none⟩)]] w (fun e w => e = .returned (.int .i64 res) ∧ Ctx G (.box b_ [.func (.func 123) #[] #[.pointer (some ⟨b__1,0,none⟩)]] 203::.box b__1 [.int .i64 f_.Left,.int .i64 f_.Right,.slice f__Verticals_p f_.Verticals.length f__Verticals_c] 102::Lf) w) := by
 unfold slices_IndexFunc_Lgauge_Vertical_gauge_Vertical at hF
 refine fnIn (args := [.slice s__p s_.length s__c,.func (.func 144) #[] #[.pointer (some ⟨b_,0,none⟩)]]) Try.func150 rfl Try.ntmps150 rfl fun a hf => wp_seq_k fun K1 h1 => cReg ?_
 refine stP hf rfl rfl rfl (pA rfl) fun a hf => cNil ?_
 refine h1 _ _ ?_
 refine wp_seq_k fun K2 h2 => wp_seq_k fun K3 h3 => cReg ?_
 refine stP hf rfl rfl rfl (pM rfl) fun a hf => stP hf rfl rfl rfl (pLenS Try.underlying100 rfl) fun a hf => stP hf rfl rfl rfl (pM rfl) fun a hf => cNil ?_
 refine h3 _ _ ?_
 refine wp_block ?_
 obtain ⟨x4,hx4,hF⟩ := bnd_some hF
 let S4 : Int → Act → World → Prop := (fun (zz : Int) a w => Has 19 a [(0,.slice s__p s_.length s__c),(1,.func (.func 144) #[] #[.pointer (some ⟨b_,0,none⟩)]),(7,.int .i64 ((s_.length : Nat) : Int)),(8,.int .i64 zz)] ∧ Ctx G (.box b_ [.func (.func 123) #[] #[.pointer (some ⟨b__1,0,none⟩)]] 203::.box b__1 [.int .i64 f_.Left,.int .i64 f_.Right,.slice f__Verticals_p f_.Verticals.length f__Verticals_c] 102::Lf) w)
 have hr4 : ∀ (zz : Int) a w,x4 = .go zz → S4 zz a w → K2 a w := by
  rintro x a w rfl ⟨hf,hc⟩
  replace hF := exK_go hF
  refine h2 _ _ ?_
  refine wp_seq_k fun K5 h5 => cReg ?_
  refine stP hf rfl rfl rfl (pA rfl) fun a hf => cNil ?_
  refine h5 _ _ ?_
  refine wp_ret ?_
  obtain rfl := Option.some.inj hF
  exact fnOut1 (by simp) rfl Try.results150 hf hc (show look _ 4 = _ from rfl) ⟨rfl,hc⟩
 have ho4 : ∀ r,x4 = .out r → r = res := by
  rintro r rfl
  exact Option.some.inj hF
 refine cLoop N (loopW (S := S4) (x := x4) ?_ N 0 _ _ ⟨hf.keep ⟨rfl,rfl,rfl,rfl,trivial⟩,hc⟩ hx4)
 clear hF hf hc
 rintro x st4 a w KB4 ⟨hf,hc⟩ hF hfin4 hK4
 unfold slices_IndexFunc_Lgauge_Vertical_gauge_Vertical_b4 at hF
 refine wp_seq_k fun K6 h6 => cReg ?_
 refine stP hf rfl rfl rfl (pLt rfl rfl) fun a hf => cNil ?_
 refine h6 _ _ ?_
 refine wp_seq_k fun K7 h7 => cCond (b := (decide (x < ((s_.length : Nat) : Int)))) hf rfl (fun hb => ?_) (fun hb => ?_)
 ·replace hF := condT hb hF
  clear hb
  refine wp_skip ?_
  refine h7 _ _ ?_
  refine wp_seq_k fun K8 h8 => wp_block ?_
  refine wp_seq_k fun K9 h9 => cReg ?_
  refine stP hf rfl rfl rfl (pM rfl) fun a hf => stP hf rfl rfl rfl (pA rfl) fun a hf => cNil ?_
  refine h9 _ _ ?_
  refine wp_seq_k fun K10 h10 => cReg ?_
  refine stP hf rfl rfl rfl (pM rfl) fun a hf => stP hf rfl rfl rfl (pM rfl) fun a hf => stP hf rfl rfl rfl (pM rfl) fun a hf => ?_
  obtain ⟨e_1,he_1,hF⟩ := bnd_some hF
  obtain ⟨b_1,o,qa,qp⟩ := h_s_.atm he_1
  refine stP hf rfl rfl rfl (pIA Try.underlying100 sz_107 rfl rfl qa) fun a hf => stE hf hc rfl rfl rfl (eLdN (vs := [.int .i64 e_1.At,.int .i64 e_1.Depth.Lo,.int .i64 e_1.Depth.Hi,.int .i64 e_1.Speed.Lo,.int .i64 e_1.Speed.Hi]) ag_107 rfl rfl (cells_pc qp (n := 5) (o' := 0) rfl)) fun a w hf hc => stE hf hc rfl rfl rfl (eC (v := .bool (gauge_every_gauge_Vertical_1 e_1 f_)) (vs := [.agg #[.int .i64 e_1.At,.int .i64 e_1.Depth.Lo,.int .i64 e_1.Depth.Hi,.int .i64 e_1.Speed.Lo,.int .i64 e_1.Speed.Hi]]) (caps := [.pointer (some ⟨b_,0,none⟩)]) en_144 rfl rfl rfl rfl (fun w hc => (gauge_every_gauge_Vertical_1_ok e_1 f_ h_f__Verticals ((hc.pick k1).pick k1) rfl).mono fun e w h => ⟨h.1,((h.2.unpick k1).unpick k1)⟩)) fun a w hf hc => cNil ?_
  refine h10 _ _ ?_
  refine cCond (b := (gauge_every_gauge_Vertical_1 e_1 f_)) hf rfl (fun hb => ?_) (fun hb => ?_)
  ·replace hF := condT hb hF
   clear hb
   refine wp_seq_k fun K11 h11 => cReg ?_
   refine stP hf rfl rfl rfl (pM rfl) fun a hf => stP hf rfl rfl rfl (pA rfl) fun a hf => cNil ?_
   refine h11 _ _ ?_
   refine wp_ret ?_
   refine xBlkR ?_
   refine xThenR ?_
   refine xThenR ?_
   have he := Option.some.inj hF
   rw [← he] at hfin4
   replace hF := ho4 _ hfin4
   refine xBlkR ?_
   refine xThenR ?_
   obtain rfl := hF
   exact fnOut1 (by simp) rfl Try.results150 hf hc (show look _ 4 = _ from rfl) ⟨rfl,hc⟩
  ·replace hF := condF hb hF
   clear hb
   refine wp_skip ?_
   refine h8 _ _ ?_
   refine cReg ?_
   refine stP hf rfl rfl rfl (pAdd rfl rfl) fun a hf => stP hf rfl rfl rfl (pM rfl) fun a hf => cNil ?_
   exact hK4 (W (x + 1)) _ _ (Option.some.inj hF).symm ⟨hf.keep ⟨rfl,rfl,rfl,rfl,trivial⟩,hc⟩
 ·replace hF := condF hb hF
  clear hb
  refine wp_exit ?_
  refine xThen ?_
  refine xThen ?_
  have he := Option.some.inj hF
  rw [← he] at hfin4
  refine cHit ?_
  exact hr4 _ _ _ hfin4 ⟨hf.keep ⟨rfl,rfl,rfl,rfl,trivial⟩,hc⟩

def slices_ContainsFunc_Lgauge_Vertical_gauge_Vertical (N : Nat) (s_ : List gauge_Vertical) (f_ : gauge_Gauging) : Option (Bool) :=
 Option.bind (slices_IndexFunc_Lgauge_Vertical_gauge_Vertical N s_ f_) fun r =>
 some (decide (0 ≤ r))
theorem slices_ContainsFunc_Lgauge_Vertical_gauge_Vertical_ok {N : Nat} {G : Pers} {Lf : List Ent} {w : World} (s_ : List gauge_Vertical) (f_ : gauge_Gauging) {s__p : Option Addr} {s__c : Nat} {b_ : Nat} {b__1 : Nat} {f__Verticals_p : Option Addr} {f__Verticals_c : Nat} (h_s_ : Rd G 5 s__p s__c (s_.map enc_gauge_Vertical)) (h_f__Verticals : Rd G 5 f__Verticals_p f__Verticals_c (f_.Verticals.map enc_gauge_Vertical)) (hc : Ctx G (.box b_ [.func (.func 123) #[] #[.pointer (some ⟨b__1,0,none⟩)]] 203::.box b__1 [.int .i64 f_.Left,.int .i64 f_.Right,.slice f__Verticals_p f_.Verticals.length f__Verticals_c] 102::Lf) w) {res : Bool} (hF : slices_ContainsFunc_Lgauge_Vertical_gauge_Vertical N s_ f_ = some res) : Calls Try.prog 143 #[.slice s__p s_.length s__c,.func (.func 144) #[] #[.pointer (some ⟨b_,0,none⟩)]] w (fun e w => e = .returned (.bool res) ∧ Ctx G (.box b_ [.func (.func 123) #[] #[.pointer (some ⟨b__1,0,none⟩)]] 203::.box b__1 [.int .i64 f_.Left,.int .i64 f_.Right,.slice f__Verticals_p f_.Verticals.length f__Verticals_c] 102::Lf) w) := by
 unfold slices_ContainsFunc_Lgauge_Vertical_gauge_Vertical at hF
 refine fnIn (args := [.slice s__p s_.length s__c,.func (.func 144) #[] #[.pointer (some ⟨b_,0,none⟩)]]) Try.func143 rfl Try.ntmps143 rfl fun a hf => wp_seq_k fun K1 h1 => cReg ?_
 refine stP hf rfl rfl rfl (pA rfl) fun a hf => cNil ?_
 refine h1 _ _ ?_
 refine wp_seq_k fun K2 h2 => cReg ?_
 refine stP hf rfl rfl rfl (pM rfl) fun a hf => stP hf rfl rfl rfl (pM rfl) fun a hf => ?_
 obtain ⟨r,hr,hF⟩ := bnd_some hF
 refine stE hf hc rfl rfl rfl (eC (v := .int .i64 r) (vs := [.slice s__p s_.length s__c,.func (.func 144) #[] #[.pointer (some ⟨b_,0,none⟩)]]) (caps := []) en_150 rfl rfl rfl rfl (fun w hc => (slices_IndexFunc_Lgauge_Vertical_gauge_Vertical_ok s_ f_ h_s_ h_f__Verticals ((hc.pick k1).pick k1) hr).mono fun e w h => ⟨h.1,((h.2.unpick k1).unpick k1)⟩)) fun a w hf hc => stP hf rfl rfl rfl (pGe rfl rfl) fun a hf => stP hf rfl rfl rfl (pA rfl) fun a hf => cNil ?_
 refine h2 _ _ ?_
 refine wp_ret ?_
 obtain rfl := Option.some.inj hF
 exact fnOut1 (by simp) rfl Try.results143 hf hc (show look _ 4 = _ from rfl) ⟨rfl,hc⟩

def gauge_every_gauge_Vertical (N : Nat) (l : List gauge_Vertical) (so : gauge_Gauging) : Option (Bool) :=
 Option.bind (slices_ContainsFunc_Lgauge_Vertical_gauge_Vertical N l so) fun r =>
 some (!r)
theorem gauge_every_gauge_Vertical_ok {N : Nat} {G : Pers} {Lf : List Ent} {w : World} (l : List gauge_Vertical) (so : gauge_Gauging) {l_p : Option Addr} {l_c : Nat} {b_ : Nat} {so_Verticals_p : Option Addr} {so_Verticals_c : Nat} (h_l : Rd G 5 l_p l_c (l.map enc_gauge_Vertical)) (h_so_Verticals : Rd G 5 so_Verticals_p so_Verticals_c (so.Verticals.map enc_gauge_Vertical)) (hc : Ctx G (.box b_ [.int .i64 so.Left,.int .i64 so.Right,.slice so_Verticals_p so.Verticals.length so_Verticals_c] 102::Lf) w) {res : Bool} (hF : gauge_every_gauge_Vertical N l so = some res) : Calls Try.prog 122 #[.slice l_p l.length l_c,.func (.func 123) #[] #[.pointer (some ⟨b_,0,none⟩)]] w (fun e w => e = .returned (.bool res) ∧ Ctx G (.box b_ [.int .i64 so.Left,.int .i64 so.Right,.slice so_Verticals_p so.Verticals.length so_Verticals_c] 102::Lf) w) := by
 unfold gauge_every_gauge_Vertical at hF
 refine fnIn (args := [.slice l_p l.length l_c,.func (.func 123) #[] #[.pointer (some ⟨b_,0,none⟩)]]) Try.func122 rfl Try.ntmps122 rfl fun a hf => wp_seq_k fun K1 h1 => cReg ?_
 refine stBx (cs := [.func (.func 123) #[] #[.pointer (some ⟨b_,0,none⟩)]]) hf hc rfl rfl rfl rfl fun b_1 a w hf hc => stP hf rfl rfl rfl (pA rfl) fun a hf => cNil ?_
 refine h1 _ _ ?_
 refine wp_seq_k fun K2 h2 => cReg ?_
 refine stP hf rfl rfl rfl (pM rfl) fun a hf => stP hf rfl rfl rfl (pMF (us := [.pointer (some ⟨b_1,0,none⟩)]) rfl rfl) fun a hf => ?_
 obtain ⟨r,hr,hF⟩ := bnd_some hF
 refine stE hf hc rfl rfl rfl (eC (v := .bool r) (vs := [.slice l_p l.length l_c,.func (.func 144) #[] #[.pointer (some ⟨b_1,0,none⟩)]]) (caps := []) en_143 rfl rfl rfl rfl (fun w hc => (slices_ContainsFunc_Lgauge_Vertical_gauge_Vertical_ok l so h_l h_so_Verticals ((hc.pick k1).pick k1) hr).mono fun e w h => ⟨h.1,((h.2.unpick k1).unpick k1)⟩)) fun a w hf hc => stP hf rfl rfl rfl (pNot rfl) fun a hf => stP hf rfl rfl rfl (pA rfl) fun a hf => cNil ?_
 refine h2 _ _ ?_
 refine wp_ret ?_
 obtain rfl := Option.some.inj hF
 replace hc := hc.drop k0
 exact fnOut1 (by simp) rfl Try.results122 hf hc (show look _ 4 = _ from rfl) ⟨rfl,hc⟩

def gauge_Check_2 (N : Nat) (i_ : Int) (x : gauge_Gauging) : Option (Int) :=
 Option.bind (getI x.Verticals i_) fun e_1 =>
 some e_1.At
theorem gauge_Check_2_ok {N : Nat} {G : Pers} {Lf : List Ent} {w : World} (i_ : Int) (x : gauge_Gauging) {b_ : Nat} {x_Verticals_p : Option Addr} {x_Verticals_c : Nat} (h_x_Verticals : Rd G 5 x_Verticals_p x_Verticals_c (x.Verticals.map enc_gauge_Vertical)) (hc : Ctx G (.box b_ [.int .i64 x.Left,.int .i64 x.Right,.slice x_Verticals_p x.Verticals.length x_Verticals_c] 102::Lf) w) {res : Int} (hF : gauge_Check_2 N i_ x = some res) : Calls Try.prog 126 #[.int .i64 i_,.pointer (some ⟨b_,0,none⟩)] w (fun e w => e = .returned (.int .i64 res) ∧ Ctx G (.box b_ [.int .i64 x.Left,.int .i64 x.Right,.slice x_Verticals_p x.Verticals.length x_Verticals_c] 102::Lf) w) := by
 unfold gauge_Check_2 at hF
 refine fnIn (args := [.int .i64 i_,.pointer (some ⟨b_,0,none⟩)]) Try.func126 rfl Try.ntmps126 rfl fun a hf => wp_seq_k fun K1 h1 => cReg ?_
 refine stP hf rfl rfl rfl (pA rfl) fun a hf => cNil ?_
 refine h1 _ _ ?_
 refine wp_seq_k fun K2 h2 => cReg ?_
 refine stP hf rfl rfl rfl (pFA fa_102_2 rfl) fun a hf => stE hf hc rfl rfl rfl (eLd1 sc_100 rfl (cell_box m0 rfl)) fun a w hf hc => stP hf rfl rfl rfl (pM rfl) fun a hf => ?_
 obtain ⟨e_1,he_1,hF⟩ := bnd_some hF
 obtain ⟨b_1,o,qa,qp⟩ := h_x_Verticals.atm he_1
 refine stP hf rfl rfl rfl (pIA Try.underlying100 sz_107 rfl rfl qa) fun a hf => stP hf rfl rfl rfl (pFA fa_107_0 rfl) fun a hf => stE hf hc rfl rfl rfl (eLd1 sc_3 rfl (cell_pc (j := 0) qp rfl)) fun a w hf hc => stP hf rfl rfl rfl (pA rfl) fun a hf => cNil ?_
 refine h2 _ _ ?_
 refine wp_ret ?_
 obtain rfl := Option.some.inj hF
 exact fnOut1 (by simp) rfl Try.results126 hf hc (show look _ 3 = _ from rfl) ⟨rfl,hc⟩

def gauge_rising_b4 (N : Nat) (many : Int) (at_ : gauge_Gauging) (i_1 : Int) : Option (Step (Int) (Bool)) :=
 cond (decide (i_1 < many))
 (Option.bind (gauge_Check_2 N i_1 at_) fun r =>
 Option.bind (gauge_Check_2 N (W (i_1 - 1)) at_) fun r_1 =>
 cond (decide (r ≤ r_1))
 (some (.ret false))
 (some (.cont (W (i_1 + 1)))))
 (some (.brk i_1))
def gauge_rising (N : Nat) (many : Int) (at_ : gauge_Gauging) : Option (Bool) :=
 Option.bind (loopO (fun s4 => gauge_rising_b4 N many at_ s4) N 1) fun x4 =>
 exK x4 (fun s4 => some true) some
theorem gauge_rising_ok {N : Nat} {G : Pers} {Lf : List Ent} {w : World} (many : Int) (at_ : gauge_Gauging) {b_ : Nat} {at__Verticals_p : Option Addr} {at__Verticals_c : Nat} (h_at__Verticals : Rd G 5 at__Verticals_p at__Verticals_c (at_.Verticals.map enc_gauge_Vertical)) (hc : Ctx G (.box b_ [.int .i64 at_.Left,.int .i64 at_.Right,.slice at__Verticals_p at_.Verticals.length at__Verticals_c] 102::Lf) w) {res : Bool} (hF : gauge_rising N many at_ = some res) : Calls Try.prog 125 #[.int .i64 many,.func (.func 126) #[] #[.pointer (some ⟨b_,0,none⟩)]] w (fun e w => e = .returned (.bool res) ∧ Ctx G (.box b_ [.int .i64 at_.Left,.int .i64 at_.Right,.slice at__Verticals_p at_.Verticals.length at__Verticals_c] 102::Lf) w) := by
 unfold gauge_rising at hF
 refine fnIn (args := [.int .i64 many,.func (.func 126) #[] #[.pointer (some ⟨b_,0,none⟩)]]) Try.func125 rfl Try.ntmps125 rfl fun a hf => wp_seq_k fun K1 h1 => cReg ?_
 refine stP hf rfl rfl rfl (pA rfl) fun a hf => cNil ?_
 refine h1 _ _ ?_
 refine wp_seq_k fun K2 h2 => wp_seq_k fun K3 h3 => cReg ?_
 refine stP hf rfl rfl rfl (pA rfl) fun a hf => cNil ?_
 refine h3 _ _ ?_
 refine wp_block ?_
 obtain ⟨x4,hx4,hF⟩ := bnd_some hF
 let S4 : Int → Act → World → Prop := (fun (zz : Int) a w => Has 19 a [(0,.int .i64 many),(1,.func (.func 126) #[] #[.pointer (some ⟨b_,0,none⟩)]),(5,.int .i64 zz)] ∧ Ctx G (.box b_ [.int .i64 at_.Left,.int .i64 at_.Right,.slice at__Verticals_p at_.Verticals.length at__Verticals_c] 102::Lf) w)
 have hr4 : ∀ (zz : Int) a w,x4 = .go zz → S4 zz a w → K2 a w := by
  rintro i_1 a w rfl ⟨hf,hc⟩
  replace hF := exK_go hF
  refine h2 _ _ ?_
  refine wp_seq_k fun K5 h5 => cReg ?_
  refine stP hf rfl rfl rfl (pA rfl) fun a hf => cNil ?_
  refine h5 _ _ ?_
  refine wp_ret ?_
  obtain rfl := Option.some.inj hF
  exact fnOut1 (by simp) rfl Try.results125 hf hc (show look _ 4 = _ from rfl) ⟨rfl,hc⟩
 have ho4 : ∀ r,x4 = .out r → r = res := by
  rintro r rfl
  exact Option.some.inj hF
 refine cLoop N (loopW (S := S4) (x := x4) ?_ N 1 _ _ ⟨hf.keep ⟨rfl,rfl,rfl,trivial⟩,hc⟩ hx4)
 clear hF hf hc
 rintro i_1 st4 a w KB4 ⟨hf,hc⟩ hF hfin4 hK4
 unfold gauge_rising_b4 at hF
 refine wp_seq_k fun K6 h6 => wp_seq_k fun K7 h7 => cReg ?_
 refine stP hf rfl rfl rfl (pM rfl) fun a hf => stP hf rfl rfl rfl (pM rfl) fun a hf => stP hf rfl rfl rfl (pLt rfl rfl) fun a hf => cNil ?_
 refine h7 _ _ ?_
 refine cCond (b := (decide (i_1 < many))) hf rfl (fun hb => ?_) (fun hb => ?_)
 ·replace hF := condT hb hF
  clear hb
  refine wp_skip ?_
  refine h6 _ _ ?_
  refine wp_seq_k fun K8 h8 => wp_block ?_
  refine wp_seq_k fun K9 h9 => cReg ?_
  refine stP hf rfl rfl rfl (pM rfl) fun a hf => stP hf rfl rfl rfl (pM rfl) fun a hf => ?_
  obtain ⟨r,hr,hF⟩ := bnd_some hF
  refine stE hf hc rfl rfl rfl (eC (v := .int .i64 r) (vs := [.int .i64 i_1]) (caps := [.pointer (some ⟨b_,0,none⟩)]) en_126 rfl rfl rfl rfl (fun w hc => (gauge_Check_2_ok i_1 at_ h_at__Verticals (hc.pick k0) hr).mono fun e w h => ⟨h.1,(h.2.unpick k0)⟩)) fun a w hf hc => stP hf rfl rfl rfl (pM rfl) fun a hf => stP hf rfl rfl rfl (pM rfl) fun a hf => stP hf rfl rfl rfl (pSub rfl rfl) fun a hf => ?_
  obtain ⟨r_1,hr_1,hF⟩ := bnd_some hF
  refine stE hf hc rfl rfl rfl (eC (v := .int .i64 r_1) (vs := [.int .i64 (W (i_1 - 1))]) (caps := [.pointer (some ⟨b_,0,none⟩)]) en_126 rfl rfl rfl rfl (fun w hc => (gauge_Check_2_ok (W (i_1 - 1)) at_ h_at__Verticals (hc.pick k0) hr_1).mono fun e w h => ⟨h.1,(h.2.unpick k0)⟩)) fun a w hf hc => stP hf rfl rfl rfl (pLe rfl rfl) fun a hf => cNil ?_
  refine h9 _ _ ?_
  refine cCond (b := (decide (r ≤ r_1))) hf rfl (fun hb => ?_) (fun hb => ?_)
  ·replace hF := condT hb hF
   clear hb
   refine wp_seq_k fun K10 h10 => cReg ?_
   refine stP hf rfl rfl rfl (pA rfl) fun a hf => cNil ?_
   refine h10 _ _ ?_
   refine wp_ret ?_
   refine xBlkR ?_
   refine xThenR ?_
   refine xThenR ?_
   have he := Option.some.inj hF
   rw [← he] at hfin4
   replace hF := ho4 _ hfin4
   refine xBlkR ?_
   refine xThenR ?_
   obtain rfl := hF
   exact fnOut1 (by simp) rfl Try.results125 hf hc (show look _ 4 = _ from rfl) ⟨rfl,hc⟩
  ·replace hF := condF hb hF
   clear hb
   refine wp_skip ?_
   refine h8 _ _ ?_
   refine cReg ?_
   refine stP hf rfl rfl rfl (pM rfl) fun a hf => stP hf rfl rfl rfl (pAdd rfl rfl) fun a hf => stP hf rfl rfl rfl (pA rfl) fun a hf => cNil ?_
   exact hK4 (W (i_1 + 1)) _ _ (Option.some.inj hF).symm ⟨hf.keep ⟨rfl,rfl,rfl,trivial⟩,hc⟩
 ·replace hF := condF hb hF
  clear hb
  refine wp_exit ?_
  refine xThen ?_
  refine xThen ?_
  have he := Option.some.inj hF
  rw [← he] at hfin4
  refine cHit ?_
  exact hr4 _ _ _ hfin4 ⟨hf.keep ⟨rfl,rfl,rfl,trivial⟩,hc⟩

def gauge_Check (N : Nat) (g : gauge_Gauging) : Option (Int) :=
 cond (!(gauge_in ((g.Verticals.length : Nat) : Int) 1 30))
 (some 3)
 (Option.bind (cond (!(gauge_shore g.Left g.Right)) (some true) (Option.bind (gauge_every_gauge_Vertical N g.Verticals g) fun r =>
 some (!r))) fun t_1 =>
 cond t_1
 (some 40)
 (Option.bind (gauge_rising N ((g.Verticals.length : Nat) : Int) g) fun r_1 =>
 cond (!r_1)
 (some 9)
 (some 0)))
theorem gauge_Check_ok {N : Nat} {G : Pers} {Lf : List Ent} {w : World} (g : gauge_Gauging) {g_Verticals_p : Option Addr} {g_Verticals_c : Nat} (h_g_Verticals : Rd G 5 g_Verticals_p g_Verticals_c (g.Verticals.map enc_gauge_Vertical)) (hc : Ctx G (Lf) w) {res : Int} (hF : gauge_Check N g = some res) : Calls Try.prog 94 #[.agg #[.int .i64 g.Left,.int .i64 g.Right,.slice g_Verticals_p g.Verticals.length g_Verticals_c]] w (fun e w => e = .returned (.int .i64 res) ∧ Ctx G (Lf) w) := by
 unfold gauge_Check at hF
 refine fnIn (args := [.agg #[.int .i64 g.Left,.int .i64 g.Right,.slice g_Verticals_p g.Verticals.length g_Verticals_c]]) Try.func94 rfl Try.ntmps94 rfl fun a hf => wp_seq_k fun K1 h1 => cReg ?_
 refine stBx (cs := [.int .i64 g.Left,.int .i64 g.Right,.slice g_Verticals_p g.Verticals.length g_Verticals_c]) hf hc rfl rfl rfl rfl fun b_1 a w hf hc => stP hf rfl rfl rfl (pA rfl) fun a hf => cNil ?_
 refine h1 _ _ ?_
 refine wp_seq_k fun K2 h2 => wp_block ?_
 refine wp_seq_k fun K3 h3 => cReg ?_
 refine stP hf rfl rfl rfl (pFA fa_102_2 rfl) fun a hf => stE hf hc rfl rfl rfl (eLd1 sc_100 rfl (cell_box m0 rfl)) fun a w hf hc => stP hf rfl rfl rfl (pLenS Try.underlying100 rfl) fun a hf => stE hf hc rfl rfl rfl (eC (v := .bool (gauge_in ((g.Verticals.length : Nat) : Int) 1 30)) (vs := [.int .i64 ((g.Verticals.length : Nat) : Int),.int .i64 1,.int .i64 30]) (caps := []) en_96 rfl rfl rfl rfl (fun w hc => gauge_in_ok ((g.Verticals.length : Nat) : Int) 1 30 hc rfl)) fun a w hf hc => stP hf rfl rfl rfl (pNot rfl) fun a hf => stP hf rfl rfl rfl (pA rfl) fun a hf => cNil ?_
 refine h3 _ _ ?_
 refine cCond (b := (!(gauge_in ((g.Verticals.length : Nat) : Int) 1 30))) hf rfl (fun hb => ?_) (fun hb => ?_)
 ·replace hF := condT hb hF
  clear hb
  refine wp_seq_k fun K4 h4 => cReg ?_
  refine stP hf rfl rfl rfl (pA rfl) fun a hf => cNil ?_
  refine h4 _ _ ?_
  refine wp_ret ?_
  refine xBlkR ?_
  refine xThenR ?_
  obtain rfl := Option.some.inj hF
  replace hc := hc.drop k0
  exact fnOut1 (by simp) rfl Try.results94 hf hc (show look _ 2 = _ from rfl) ⟨rfl,hc⟩
 ·replace hF := condF hb hF
  clear hb
  refine wp_seq_k fun K5 h5 => cReg ?_
  refine stP hf rfl rfl rfl (pFA fa_102_0 rfl) fun a hf => stE hf hc rfl rfl rfl (eLd1 sc_3 rfl (cell_box m0 rfl)) fun a w hf hc => stP hf rfl rfl rfl (pFA fa_102_1 rfl) fun a hf => stE hf hc rfl rfl rfl (eLd1 sc_3 rfl (cell_box m0 rfl)) fun a w hf hc => stE hf hc rfl rfl rfl (eC (v := .bool (gauge_shore g.Left g.Right)) (vs := [.int .i64 g.Left,.int .i64 g.Right]) (caps := []) en_121 rfl rfl rfl rfl (fun w hc => gauge_shore_ok g.Left g.Right hc rfl)) fun a w hf hc => stP hf rfl rfl rfl (pNot rfl) fun a hf => stP hf rfl rfl rfl (pM rfl) fun a hf => ?_
  obtain ⟨t_1,ht_1,hF⟩ := bnd_some hF
  refine stCut 6 (fun a w => Has 30 a [(1,.pointer (some ⟨b_1,0,none⟩)),(10,.pointer (some ⟨b_1,0,none⟩)),(11,.int .i64 g.Left),(12,.pointer (some ⟨b_1,1,none⟩)),(13,.int .i64 g.Right),(14,.bool (gauge_shore g.Left g.Right)),(15,.bool (!(gauge_shore g.Left g.Right))),(16,.bool (!(gauge_shore g.Left g.Right))),(22,.bool t_1)] ∧ Ctx G (.box b_1 [.int .i64 g.Left,.int .i64 g.Right,.slice g_Verticals_p g.Verticals.length g_Verticals_c] 102::Lf) w) ?_ ?_
  ·cases hb : (!(gauge_shore g.Left g.Right))
   ·rw [hb] at hf
    have hF := condF hb ht_1
    refine stP hf rfl rfl rfl (pFA fa_102_2 rfl) fun a hf => stE hf hc rfl rfl rfl (eLd1 sc_100 rfl (cell_box m0 rfl)) fun a w hf hc => stP hf rfl rfl rfl (pMF (us := [.pointer (some ⟨b_1,0,none⟩)]) rfl rfl) fun a hf => ?_
    obtain ⟨r,hr,hF⟩ := bnd_some hF
    refine stE hf hc rfl rfl rfl (eC (v := .bool r) (vs := [.slice g_Verticals_p g.Verticals.length g_Verticals_c,.func (.func 123) #[] #[.pointer (some ⟨b_1,0,none⟩)]]) (caps := []) en_122 rfl rfl rfl rfl (fun w hc => (gauge_every_gauge_Vertical_ok g.Verticals g h_g_Verticals h_g_Verticals (hc.pick k0) hr).mono fun e w h => ⟨h.1,(h.2.unpick k0)⟩)) fun a w hf hc => stP hf rfl rfl rfl (pNot rfl) fun a hf => stP hf rfl rfl rfl (pPf rfl rfl) fun a hf => ?_
    obtain rfl := Option.some.inj hF
    exact cNil ⟨hf.keep ⟨rfl,rfl,rfl,rfl,rfl,rfl,rfl,rfl,rfl,trivial⟩,hc⟩
   ·rw [hb] at hf
    have hF := condT hb ht_1
    obtain rfl := Option.some.inj hF
    refine stS hf rfl rfl rfl fun a hf => stS hf rfl rfl rfl fun a hf => stS hf rfl rfl rfl fun a hf => stS hf rfl rfl rfl fun a hf => stS hf rfl rfl rfl fun a hf => stP hf rfl rfl rfl (pPt rfl rfl) fun a hf => cNil ⟨hf.keep ⟨rfl,rfl,rfl,rfl,rfl,rfl,rfl,rfl,rfl,trivial⟩,hc⟩
  intro a w ⟨hf,hc⟩
  refine stP hf rfl rfl rfl (pA rfl) fun a hf => cNil ?_
  refine h5 _ _ ?_
  refine cCond (b := t_1) hf rfl (fun hb => ?_) (fun hb => ?_)
  ·replace hF := condT hb hF
   clear hb
   refine wp_seq_k fun K6 h6 => cReg ?_
   refine stP hf rfl rfl rfl (pA rfl) fun a hf => cNil ?_
   refine h6 _ _ ?_
   refine wp_ret ?_
   refine xBlkR ?_
   refine xThenR ?_
   obtain rfl := Option.some.inj hF
   replace hc := hc.drop k0
   exact fnOut1 (by simp) rfl Try.results94 hf hc (show look _ 2 = _ from rfl) ⟨rfl,hc⟩
  ·replace hF := condF hb hF
   clear hb
   refine wp_seq_k fun K7 h7 => cReg ?_
   refine stP hf rfl rfl rfl (pFA fa_102_2 rfl) fun a hf => stE hf hc rfl rfl rfl (eLd1 sc_100 rfl (cell_box m0 rfl)) fun a w hf hc => stP hf rfl rfl rfl (pLenS Try.underlying100 rfl) fun a hf => stP hf rfl rfl rfl (pMF (us := [.pointer (some ⟨b_1,0,none⟩)]) rfl rfl) fun a hf => ?_
   obtain ⟨r_1,hr_1,hF⟩ := bnd_some hF
   refine stE hf hc rfl rfl rfl (eC (v := .bool r_1) (vs := [.int .i64 ((g.Verticals.length : Nat) : Int),.func (.func 126) #[] #[.pointer (some ⟨b_1,0,none⟩)]]) (caps := []) en_125 rfl rfl rfl rfl (fun w hc => (gauge_rising_ok ((g.Verticals.length : Nat) : Int) g h_g_Verticals (hc.pick k0) hr_1).mono fun e w h => ⟨h.1,(h.2.unpick k0)⟩)) fun a w hf hc => stP hf rfl rfl rfl (pNot rfl) fun a hf => stP hf rfl rfl rfl (pA rfl) fun a hf => cNil ?_
   refine h7 _ _ ?_
   refine cCond (b := (!r_1)) hf rfl (fun hb => ?_) (fun hb => ?_)
   ·replace hF := condT hb hF
    clear hb
    refine wp_seq_k fun K8 h8 => cReg ?_
    refine stP hf rfl rfl rfl (pA rfl) fun a hf => cNil ?_
    refine h8 _ _ ?_
    refine wp_ret ?_
    refine xBlkR ?_
    refine xThenR ?_
    obtain rfl := Option.some.inj hF
    replace hc := hc.drop k0
    exact fnOut1 (by simp) rfl Try.results94 hf hc (show look _ 2 = _ from rfl) ⟨rfl,hc⟩
   ·replace hF := condF hb hF
    clear hb
    refine wp_skip ?_
    refine h2 _ _ ?_
    refine wp_seq_k fun K9 h9 => cReg ?_
    refine stP hf rfl rfl rfl (pA rfl) fun a hf => cNil ?_
    refine h9 _ _ ?_
    refine wp_ret ?_
    obtain rfl := Option.some.inj hF
    replace hc := hc.drop k0
    exact fnOut1 (by simp) rfl Try.results94 hf hc (show look _ 2 = _ from rfl) ⟨rfl,hc⟩

def gauge_Gauging_widths (N : Nat) (g : gauge_Gauging) : Option (Int × Int) :=
 some (g.Left,g.Right)
theorem gauge_Gauging_widths_ok {N : Nat} {G : Pers} {Lf : List Ent} {w : World} (g : gauge_Gauging) {g_Verticals_p : Option Addr} {g_Verticals_c : Nat} (h_g_Verticals : Rd G 5 g_Verticals_p g_Verticals_c (g.Verticals.map enc_gauge_Vertical)) (hc : Ctx G (Lf) w) {res : Int × Int} (hF : gauge_Gauging_widths N g = some res) : Calls Try.prog 95 #[.agg #[.int .i64 g.Left,.int .i64 g.Right,.slice g_Verticals_p g.Verticals.length g_Verticals_c]] w (fun e w => ∃ (b'1 : Nat),e = .returned (.func (.func 127) #[] #[.pointer (some ⟨b'1,0,none⟩)]) ∧ Ctx G (.box b'1 [.int .i64 res.1,.int .i64 res.2,.slice g_Verticals_p g.Verticals.length g_Verticals_c] 102::Lf) w) := by
 unfold gauge_Gauging_widths at hF
 refine fnIn (args := [.agg #[.int .i64 g.Left,.int .i64 g.Right,.slice g_Verticals_p g.Verticals.length g_Verticals_c]]) Try.func95 rfl Try.ntmps95 rfl fun a hf => wp_seq_k fun K1 h1 => cReg ?_
 refine stBx (cs := [.int .i64 g.Left,.int .i64 g.Right,.slice g_Verticals_p g.Verticals.length g_Verticals_c]) hf hc rfl rfl rfl rfl fun b_1 a w hf hc => stP hf rfl rfl rfl (pA rfl) fun a hf => cNil ?_
 refine h1 _ _ ?_
 refine wp_seq_k fun K2 h2 => cReg ?_
 refine stP hf rfl rfl rfl (pMF (us := [.pointer (some ⟨b_1,0,none⟩)]) rfl rfl) fun a hf => stP hf rfl rfl rfl (pA rfl) fun a hf => cNil ?_
 refine h2 _ _ ?_
 refine wp_ret ?_
 obtain rfl := Option.some.inj hF
 exact fnOut1 (by simp) rfl Try.results95 hf hc (show look _ 2 = _ from rfl) ⟨b_1,rfl,hc⟩

def gauge_Gauging_widths_1_j10 (N : Nat) {σ : Type} (y : σ → (gauge_Vertical × Int) → Option (σ × Bool)) (x_0 : Int) (sg : σ) (e_1 : gauge_Vertical) (from_ : Int) (to_ : Int) : Option (Step (Int × σ) (σ)) :=
 Option.bind (y sg (e_1,W (to_ - from_))) fun ry =>
 cond (!ry.2)
 (some (.ret ry.1))
 (some (.cont (W (x_0 + 1),ry.1)))
def gauge_Gauging_widths_1_j9 (N : Nat) {σ : Type} (x : gauge_Gauging) (y : σ → (gauge_Vertical × Int) → Option (σ × Bool)) (x_0 : Int) (sg : σ) (e_1 : gauge_Vertical) (from_ : Int) : Option (Step (Int × σ) (σ)) :=
 cond (decide ((W (x_0 + 1)) < ((x.Verticals.length : Nat) : Int)))
 (Option.bind (getI x.Verticals (W (x_0 + 1))) fun e_2 =>
 gauge_Gauging_widths_1_j10 N y x_0 sg e_1 from_ e_2.At)
 (gauge_Gauging_widths_1_j10 N y x_0 sg e_1 from_ x.Right)
def gauge_Gauging_widths_1_b3 (N : Nat) {σ : Type} (x : gauge_Gauging) (y : σ → (gauge_Vertical × Int) → Option (σ × Bool)) (x_0 : Int) (sg : σ) : Option (Step (Int × σ) (σ)) :=
 cond (decide (x_0 < ((x.Verticals.length : Nat) : Int)))
 (Option.bind (getI x.Verticals x_0) fun e_1 =>
 cond (decide (0 < x_0))
 (Option.bind (getI x.Verticals (W (x_0 - 1))) fun e_3 =>
 gauge_Gauging_widths_1_j9 N x y x_0 sg e_1 e_3.At)
 (gauge_Gauging_widths_1_j9 N x y x_0 sg e_1 x.Left))
 (some (.brk (x_0,sg)))
def gauge_Gauging_widths_1 (N : Nat) {σ : Type} (x : gauge_Gauging) (y : σ → (gauge_Vertical × Int) → Option (σ × Bool)) (sg0 : σ) : Option (σ) :=
 Option.bind (loopO (fun s3 => gauge_Gauging_widths_1_b3 N x y s3.1 s3.2) N (0,sg0)) fun x3 =>
 exK x3 (fun s3 => some s3.2) some
theorem gauge_Gauging_widths_1_ok {N : Nat} {G : Pers} {Lf : List Ent} {w : World} {σ : Type} (x : gauge_Gauging) {b_ : Nat} {x_Verticals_p : Option Addr} {x_Verticals_c : Nat} (h_x_Verticals : Rd G 5 x_Verticals_p x_Verticals_c (x.Verticals.map enc_gauge_Vertical)) (J : σ → List Ent → Prop) (y : σ → (gauge_Vertical × Int) → Option (σ × Bool)) {l : Nat} (hy : YieldsTo Try.prog G l (fun x : (gauge_Vertical × Int) => [.agg #[.int .i64 x.1.At,.int .i64 x.1.Depth.Lo,.int .i64 x.1.Depth.Hi,.int .i64 x.1.Speed.Lo,.int .i64 x.1.Speed.Hi],.int .i64 x.2]) J y) (sg0 : σ) {Ls0 : List Ent} (hJ0 : J sg0 Ls0) (hc : Ctx G (.box b_ [.int .i64 x.Left,.int .i64 x.Right,.slice x_Verticals_p x.Verticals.length x_Verticals_c] 102::(Ls0 ++ Lf)) w) {res : σ} (hF : gauge_Gauging_widths_1 N x y sg0 = some res) : Calls Try.prog 127 #[.func (.yield l) #[] #[],.pointer (some ⟨b_,0,none⟩)] w (fun e w => (∃ v,e = .returned v) ∧ ∃ L,J res L ∧ Ctx G (.box b_ [.int .i64 x.Left,.int .i64 x.Right,.slice x_Verticals_p x.Verticals.length x_Verticals_c] 102::(L ++ Lf)) w) := by
 unfold gauge_Gauging_widths_1 at hF
 refine fnIn (args := [.func (.yield l) #[] #[],.pointer (some ⟨b_,0,none⟩)]) Try.func127 rfl Try.ntmps127 rfl fun a hf => wp_seq_k fun K1 h1 => cReg ?_
 refine stP hf rfl rfl rfl (pFA fa_102_2 rfl) fun a hf => stE hf hc rfl rfl rfl (eLd1 sc_100 rfl (cell_box m0 rfl)) fun a w hf hc => stP hf rfl rfl rfl (pLenS Try.underlying100 rfl) fun a hf => stP hf rfl rfl rfl (pM rfl) fun a hf => cNil ?_
 refine h1 _ _ ?_
 refine wp_thenK fun K2 h2 => wp_block ?_
 obtain ⟨x3,hx3,hF⟩ := bnd_some hF
 let S3 : (Int × σ) → Act → World → Prop := (fun (zz : Int × σ) a w => ∃ (Ls : List Ent),J zz.2 Ls ∧ Has 49 a [(0,.func (.yield l) #[] #[]),(1,.pointer (some ⟨b_,0,none⟩)),(8,.slice x_Verticals_p x.Verticals.length x_Verticals_c),(9,.int .i64 ((x.Verticals.length : Nat) : Int)),(10,.int .i64 zz.1)] ∧ Ctx G (.box b_ [.int .i64 x.Left,.int .i64 x.Right,.slice x_Verticals_p x.Verticals.length x_Verticals_c] 102::(Ls ++ Lf)) w)
 have hr3 : ∀ (zz : Int × σ) a w,x3 = .go zz → S3 zz a w → K2 a w := by
  rintro ⟨x_0,sg⟩ a w rfl ⟨Ls,hJ,hf,hc⟩
  replace hF := exK_go hF
  refine h2 _ _ ?_
  obtain rfl := Option.some.inj hF
  exact fnOut0 (by simp) rfl Try.results127 hf ⟨⟨_,rfl⟩,Ls,hJ,hc⟩
 have ho3 : ∀ r,x3 = .out r → r = res := by
  rintro r rfl
  exact Option.some.inj hF
 refine cLoop N (loopW (S := S3) (x := x3) ?_ N (0,sg0) _ _ ⟨Ls0,hJ0,hf.keep ⟨rfl,rfl,rfl,rfl,rfl,trivial⟩,hc⟩ hx3)
 clear hF hf hc
 rintro ⟨x_0,sg⟩ st3 a w KB3 ⟨Ls,hJ,hf,hc⟩ hF hfin3 hK3
 unfold gauge_Gauging_widths_1_b3 at hF
 refine wp_seq_k fun K4 h4 => cReg ?_
 refine stP hf rfl rfl rfl (pLt rfl rfl) fun a hf => cNil ?_
 refine h4 _ _ ?_
 refine wp_seq_k fun K5 h5 => cCond (b := (decide (x_0 < ((x.Verticals.length : Nat) : Int)))) hf rfl (fun hb => ?_) (fun hb => ?_)
 ·replace hF := condT hb hF
  clear hb
  refine wp_skip ?_
  refine h5 _ _ ?_
  refine wp_seq_k fun K6 h6 => wp_block ?_
  refine wp_seq_k fun K7 h7 => cReg ?_
  refine stP hf rfl rfl rfl (pM rfl) fun a hf => ?_
  obtain ⟨e_1,he_1,hF⟩ := bnd_some hF
  obtain ⟨b_1,o,qa,qp⟩ := h_x_Verticals.atm he_1
  refine stP hf rfl rfl rfl (pIA Try.underlying100 sz_107 rfl rfl qa) fun a hf => stE hf hc rfl rfl rfl (eLdN (vs := [.int .i64 e_1.At,.int .i64 e_1.Depth.Lo,.int .i64 e_1.Depth.Hi,.int .i64 e_1.Speed.Lo,.int .i64 e_1.Speed.Hi]) ag_107 rfl rfl (cells_pc qp (n := 5) (o' := 0) rfl)) fun a w hf hc => stAl (cs := [.int .i64 0,.int .i64 0,.int .i64 0,.int .i64 0,.int .i64 0]) hf hc rfl rfl zr_107 rfl fun b_2 a w hf hc => stP hf rfl rfl rfl (pA rfl) fun a hf => stSt (vs := [.int .i64 e_1.At,.int .i64 e_1.Depth.Lo,.int .i64 e_1.Depth.Hi,.int .i64 e_1.Speed.Lo,.int .i64 e_1.Speed.Hi]) hf hc rfl rfl rfl rfl sz_107 rfl rfl u0 fun w hc => cNil ?_
  refine h7 _ _ ?_
  refine wp_seq_k fun K8 h8 => cQ hc follows_mx (by kernel_rfl) ?_
  refine qE hf rfl rfl rfl (Pu.ev (pFA fa_102_0 rfl)) fun a hf => qE hf rfl rfl rfl (eLd1 sc_3 rfl (cell_box m1 rfl)) fun a hf => qE hf rfl rfl rfl (Pu.ev (pFA fa_102_1 rfl)) fun a hf => qE hf rfl rfl rfl (eLd1 sc_3 rfl (cell_box m1 rfl)) fun a hf => qE hf rfl rfl rfl (Pu.ev (pA rfl)) fun a hf => qE hf rfl rfl rfl (Pu.ev (pA rfl)) fun a hf => ?_
  intro w hc
  refine h8 _ _ ?_
  refine wp_seq_k fun K9 h9 => ?_
  have hj9 : ∀ (from_ : Int) a w,Has 49 a [(0,.func (.yield l) #[] #[]),(1,.pointer (some ⟨b_,0,none⟩)),(3,.int .i64 x_0),(4,.pointer (some ⟨b_2,0,none⟩)),(5,.int .i64 from_),(6,.int .i64 x.Right),(8,.slice x_Verticals_p x.Verticals.length x_Verticals_c),(9,.int .i64 ((x.Verticals.length : Nat) : Int)),(10,.int .i64 x_0)] → Ctx G (.box b_2 [.int .i64 e_1.At,.int .i64 e_1.Depth.Lo,.int .i64 e_1.Depth.Hi,.int .i64 e_1.Speed.Lo,.int .i64 e_1.Speed.Hi] 107::.box b_ [.int .i64 x.Left,.int .i64 x.Right,.slice x_Verticals_p x.Verticals.length x_Verticals_c] 102::(Ls ++ Lf)) w → gauge_Gauging_widths_1_j9 N x y x_0 sg e_1 from_ = some st3 → K9 a w := by
   repeat (clear hF)
   repeat (clear hc)
   repeat (clear hf)
   intro from_ a w hf hc hF
   unfold gauge_Gauging_widths_1_j9 at hF
   refine h9 _ _ ?_
   refine wp_seq_k fun K10 h10 => ?_
   have hj10 : ∀ (to_ : Int) a w,Has 49 a [(0,.func (.yield l) #[] #[]),(1,.pointer (some ⟨b_,0,none⟩)),(4,.pointer (some ⟨b_2,0,none⟩)),(5,.int .i64 from_),(6,.int .i64 to_),(8,.slice x_Verticals_p x.Verticals.length x_Verticals_c),(9,.int .i64 ((x.Verticals.length : Nat) : Int)),(10,.int .i64 x_0)] → Ctx G (.box b_2 [.int .i64 e_1.At,.int .i64 e_1.Depth.Lo,.int .i64 e_1.Depth.Hi,.int .i64 e_1.Speed.Lo,.int .i64 e_1.Speed.Hi] 107::.box b_ [.int .i64 x.Left,.int .i64 x.Right,.slice x_Verticals_p x.Verticals.length x_Verticals_c] 102::(Ls ++ Lf)) w → gauge_Gauging_widths_1_j10 N y x_0 sg e_1 from_ to_ = some st3 → K10 a w := by
    repeat (clear hF)
    repeat (clear hc)
    repeat (clear hf)
    intro to_ a w hf hc hF
    unfold gauge_Gauging_widths_1_j10 at hF
    refine h10 _ _ ?_
    refine wp_seq_k fun K11 h11 => ?_
    obtain ⟨ry,hry,hF⟩ := bnd_some hF
    refine yReg 5 (fun a w => Has 49 a [(0,.func (.yield l) #[] #[]),(1,.pointer (some ⟨b_,0,none⟩)),(4,.pointer (some ⟨b_2,0,none⟩)),(5,.int .i64 from_),(6,.int .i64 to_),(8,.slice x_Verticals_p x.Verticals.length x_Verticals_c),(9,.int .i64 ((x.Verticals.length : Nat) : Int)),(10,.int .i64 x_0),(41,.func (.yield l) #[] #[]),(42,.agg #[.int .i64 e_1.At,.int .i64 e_1.Depth.Lo,.int .i64 e_1.Depth.Hi,.int .i64 e_1.Speed.Lo,.int .i64 e_1.Speed.Hi]),(43,.int .i64 to_),(44,.int .i64 from_),(45,.int .i64 (W (to_ - from_)))] ∧ Ctx G (.box b_2 [.int .i64 e_1.At,.int .i64 e_1.Depth.Lo,.int .i64 e_1.Depth.Hi,.int .i64 e_1.Speed.Lo,.int .i64 e_1.Speed.Hi] 107::.box b_ [.int .i64 x.Left,.int .i64 x.Right,.slice x_Verticals_p x.Verticals.length x_Verticals_c] 102::(Ls ++ Lf)) w) (fun _ _ h => by obtain ⟨⟨_,h⟩,_⟩ := h; cases h) ?_ ?_
    ·refine stP hf rfl rfl rfl (pM rfl) fun a hf => stE hf hc rfl rfl rfl (eLdN (vs := [.int .i64 e_1.At,.int .i64 e_1.Depth.Lo,.int .i64 e_1.Depth.Hi,.int .i64 e_1.Speed.Lo,.int .i64 e_1.Speed.Hi]) ag_107 rfl rfl (cells_box (n := 5) m0 rfl)) fun a w hf hc => stP hf rfl rfl rfl (pM rfl) fun a hf => stP hf rfl rfl rfl (pM rfl) fun a hf => stP hf rfl rfl rfl (pSub rfl rfl) fun a hf => cNil ⟨hf.keep ⟨rfl,rfl,rfl,rfl,rfl,rfl,rfl,rfl,rfl,rfl,rfl,rfl,rfl,trivial⟩,hc⟩
    rintro a w ⟨hf,hc⟩
    refine stY (own := [.box b_2 [.int .i64 e_1.At,.int .i64 e_1.Depth.Lo,.int .i64 e_1.Depth.Hi,.int .i64 e_1.Speed.Lo,.int .i64 e_1.Speed.Hi] 107,.box b_ [.int .i64 x.Left,.int .i64 x.Right,.slice x_Verticals_p x.Verticals.length x_Verticals_c] 102]) (v := (e_1,W (to_ - from_))) hy hJ hry hf hc rfl rfl rfl rfl rfl fun a w Ls_1 hJ_1 hf hc => ?_
    replace hc : Ctx G (.box b_2 [.int .i64 e_1.At,.int .i64 e_1.Depth.Lo,.int .i64 e_1.Depth.Hi,.int .i64 e_1.Speed.Lo,.int .i64 e_1.Speed.Hi] 107::.box b_ [.int .i64 x.Left,.int .i64 x.Right,.slice x_Verticals_p x.Verticals.length x_Verticals_c] 102::(Ls_1 ++ Lf)) w := hc
    refine yRest (fun _ _ h => by obtain ⟨⟨_,h⟩,_⟩ := h; cases h) ?_
    refine stP hf rfl rfl rfl (pNot rfl) fun a hf => cNil ?_
    refine h11 _ _ ?_
    refine cCond (b := (!ry.2)) hf rfl (fun hb => ?_) (fun hb => ?_)
    ·replace hF := condT hb hF
     clear hb
     refine wp_ret ?_
     refine xBlkR ?_
     refine xThenR ?_
     refine xThenR ?_
     have he := Option.some.inj hF
     rw [← he] at hfin3
     replace hF := ho3 _ hfin3
     refine xBlkR ?_
     refine xThenR ?_
     obtain rfl := hF
     replace hc := hc.drop k0
     exact fnOut0 (by simp) rfl Try.results127 hf ⟨⟨_,rfl⟩,Ls_1,hJ_1,hc⟩
    ·replace hF := condF hb hF
     clear hb
     refine wp_skip ?_
     refine h6 _ _ ?_
     refine cReg ?_
     refine stP hf rfl rfl rfl (pAdd rfl rfl) fun a hf => stP hf rfl rfl rfl (pM rfl) fun a hf => cNil ?_
     replace hc := hc.drop k0
     exact hK3 (W (x_0 + 1),ry.1) _ _ (Option.some.inj hF).symm ⟨Ls_1,hJ_1,hf.keep ⟨rfl,rfl,rfl,rfl,rfl,trivial⟩,hc⟩
   refine wp_seq_k fun K12 h12 => cReg ?_
   refine stP hf rfl rfl rfl (pM rfl) fun a hf => stP hf rfl rfl rfl (pAdd rfl rfl) fun a hf => stP hf rfl rfl rfl (pFA fa_102_2 rfl) fun a hf => stE hf hc rfl rfl rfl (eLd1 sc_100 rfl (cell_box m1 rfl)) fun a w hf hc => stP hf rfl rfl rfl (pLenS Try.underlying100 rfl) fun a hf => stP hf rfl rfl rfl (pLt rfl rfl) fun a hf => cNil ?_
   refine h12 _ _ ?_
   refine cCond (b := (decide ((W (x_0 + 1)) < ((x.Verticals.length : Nat) : Int)))) hf rfl (fun hb => ?_) (fun hb => ?_)
   ·replace hF := condT hb hF
    clear hb
    refine cReg ?_
    refine stP hf rfl rfl rfl (pFA fa_102_2 rfl) fun a hf => stE hf hc rfl rfl rfl (eLd1 sc_100 rfl (cell_box m1 rfl)) fun a w hf hc => stP hf rfl rfl rfl (pM rfl) fun a hf => stP hf rfl rfl rfl (pAdd rfl rfl) fun a hf => ?_
    obtain ⟨e_2,he_2,hF⟩ := bnd_some hF
    obtain ⟨b_3,o_1,qa_1,qp_1⟩ := h_x_Verticals.atm he_2
    refine stP hf rfl rfl rfl (pIA Try.underlying100 sz_107 rfl rfl qa_1) fun a hf => stP hf rfl rfl rfl (pFA fa_107_0 rfl) fun a hf => stE hf hc rfl rfl rfl (eLd1 sc_3 rfl (cell_pc (j := 0) qp_1 rfl)) fun a w hf hc => stP hf rfl rfl rfl (pA rfl) fun a hf => cNil ?_
    exact hj10 e_2.At _ _  (hf.keep ⟨rfl,rfl,rfl,rfl,rfl,rfl,rfl,rfl,trivial⟩) hc hF
   ·replace hF := condF hb hF
    clear hb
    refine wp_skip ?_
    exact hj10 x.Right _ _  (hf.keep ⟨rfl,rfl,rfl,rfl,rfl,rfl,rfl,rfl,trivial⟩) hc hF
  refine wp_seq_k fun K13 h13 => cReg ?_
  refine stP hf rfl rfl rfl (pM rfl) fun a hf => stP hf rfl rfl rfl (pGt rfl rfl) fun a hf => cNil ?_
  refine h13 _ _ ?_
  refine cCond (b := (decide (0 < x_0))) hf rfl (fun hb => ?_) (fun hb => ?_)
  ·replace hF := condT hb hF
   clear hb
   refine cReg ?_
   refine stP hf rfl rfl rfl (pFA fa_102_2 rfl) fun a hf => stE hf hc rfl rfl rfl (eLd1 sc_100 rfl (cell_box m1 rfl)) fun a w hf hc => stP hf rfl rfl rfl (pM rfl) fun a hf => stP hf rfl rfl rfl (pSub rfl rfl) fun a hf => ?_
   obtain ⟨e_3,he_3,hF⟩ := bnd_some hF
   obtain ⟨b_4,o_2,qa_2,qp_2⟩ := h_x_Verticals.atm he_3
   refine stP hf rfl rfl rfl (pIA Try.underlying100 sz_107 rfl rfl qa_2) fun a hf => stP hf rfl rfl rfl (pFA fa_107_0 rfl) fun a hf => stE hf hc rfl rfl rfl (eLd1 sc_3 rfl (cell_pc (j := 0) qp_2 rfl)) fun a w hf hc => stP hf rfl rfl rfl (pA rfl) fun a hf => cNil ?_
   exact hj9 e_3.At _ _  (hf.keep ⟨rfl,rfl,rfl,rfl,rfl,rfl,rfl,rfl,rfl,trivial⟩) hc hF
  ·replace hF := condF hb hF
   clear hb
   refine wp_skip ?_
   exact hj9 x.Left _ _  (hf.keep ⟨rfl,rfl,rfl,rfl,rfl,rfl,rfl,rfl,rfl,trivial⟩) hc hF
 ·replace hF := condF hb hF
  clear hb
  refine wp_exit ?_
  refine xThen ?_
  refine xThen ?_
  have he := Option.some.inj hF
  rw [← he] at hfin3
  refine cHit ?_
  exact hr3 _ _ _ hfin3 ⟨Ls,hJ,hf.keep ⟨rfl,rfl,rfl,rfl,rfl,trivial⟩,hc⟩

def gauge_Real_r11 (N : Nat) (depths : List Int) (speeds : List Int) (x : Int) (x_1 : Int) (x_2 : Int) (xv : gauge_Vertical) (xv_1 : Int) : Option (Rs (Int × Int × Int)) :=
 Option.bind (Option.bind (getI depths x_2) fun e_1 =>
 cond (!(gauge_in e_1 xv.Depth.Lo xv.Depth.Hi))
 (some true)
 (Option.bind (getI speeds x_2) fun e_2 =>
 some (!(gauge_in e_2 xv.Speed.Lo xv.Speed.Hi)))) fun rg =>
 cond rg
 (some (.ret (7,x_1,x_2)))
 (Option.bind (getI depths x_2) fun e_3 =>
 Option.bind (getI speeds x_2) fun e_4 =>
 some (.go (x,W (x_1 + (W ((W (xv_1 * e_3)) * e_4))),W (x_2 + 1))))
def gauge_Real (N : Nat) (g : gauge_Gauging) (depths : List Int) (speeds : List Int) : Option (Int × Int) :=
 Option.bind (gauge_Check N g) fun r =>
 cond (r != 0)
 (some (0,r))
 (cond ((((depths.length : Nat) : Int) != ((g.Verticals.length : Nat) : Int)) || (((speeds.length : Nat) : Int) != ((g.Verticals.length : Nat) : Int)))
 (some (0,2))
 (Option.bind (gauge_Gauging_widths N g) fun r_1 =>
 Option.bind (gauge_Gauging_widths_1 N (⟨r_1.1,r_1.2,g.Verticals⟩ : gauge_Gauging) (rY (fun (zz : Int × Int × Int) (ix_ : (gauge_Vertical × Int)) => gauge_Real_r11 N depths speeds zz.1 zz.2.1 zz.2.2 ix_.1 ix_.2)) (.go (0,0,0))) fun x11 =>
 rsK x11 (fun zz11 => some (zz11.2.1,0)) (fun zz11 => some (0,zz11.1))))
theorem gauge_Real_ok {N : Nat} {G : Pers} {Lf : List Ent} {w : World} (g : gauge_Gauging) (depths : List Int) (speeds : List Int) {g_Verticals_p : Option Addr} {g_Verticals_c : Nat} {depths_p : Option Addr} {depths_c : Nat} {speeds_p : Option Addr} {speeds_c : Nat} (h_g_Verticals : Rd G 5 g_Verticals_p g_Verticals_c (g.Verticals.map enc_gauge_Vertical)) (h_depths : Rd G 1 depths_p depths_c (depths.map encI_i64)) (h_speeds : Rd G 1 speeds_p speeds_c (speeds.map encI_i64)) (hc : Ctx G (Lf) w) {res : Int × Int} (hF : gauge_Real N g depths speeds = some res) : Calls Try.prog 51 #[.agg #[.int .i64 g.Left,.int .i64 g.Right,.slice g_Verticals_p g.Verticals.length g_Verticals_c],.slice depths_p depths.length depths_c,.slice speeds_p speeds.length speeds_c] w (fun e w => e = .returned (.tuple #[.int .i64 res.1,.int .i64 res.2]) ∧ Ctx G (Lf) w) := by
 unfold gauge_Real at hF
 refine fnInM (args := [.agg #[.int .i64 g.Left,.int .i64 g.Right,.slice g_Verticals_p g.Verticals.length g_Verticals_c],.slice depths_p depths.length depths_c,.slice speeds_p speeds.length speeds_c]) Try.func51 rfl Try.ntmps51 rfl fun a hf => wp_seq_k fun K1 h1 => cReg ?_
 refine stBx (cs := [.int .i64 g.Left,.int .i64 g.Right,.slice g_Verticals_p g.Verticals.length g_Verticals_c]) hf hc rfl rfl rfl rfl fun b_1 a w hf hc => stBx (cs := [.slice depths_p depths.length depths_c]) hf hc rfl rfl rfl rfl fun b_2 a w hf hc => stBx (cs := [.slice speeds_p speeds.length speeds_c]) hf hc rfl rfl rfl rfl fun b_3 a w hf hc => stAl (cs := [.int .i64 0]) hf hc rfl rfl zr_3 rfl fun b_4 a w hf hc => stAl (cs := [.int .i64 0]) hf hc rfl rfl zr_28 rfl fun b_5 a w hf hc => cNil ?_
 refine h1 _ _ ?_
 refine wp_seq_k fun K2 h2 => cReg ?_
 refine stE hf hc rfl rfl rfl (eLdN (vs := [.int .i64 g.Left,.int .i64 g.Right,.slice g_Verticals_p g.Verticals.length g_Verticals_c]) ag_102 rfl rfl (cells_box (n := 3) m4 rfl)) fun a w hf hc => ?_
 obtain ⟨r,hr,hF⟩ := bnd_some hF
 refine stE hf hc rfl rfl rfl (eC (v := .int .i64 r) (vs := [.agg #[.int .i64 g.Left,.int .i64 g.Right,.slice g_Verticals_p g.Verticals.length g_Verticals_c]]) (caps := []) en_94 rfl rfl rfl rfl (fun w hc => gauge_Check_ok g h_g_Verticals hc hr)) fun a w hf hc => stP hf rfl rfl rfl (pA rfl) fun a hf => cNil ?_
 refine h2 _ _ ?_
 refine wp_seq_k fun K3 h3 => wp_block ?_
 refine wp_seq_k fun K4 h4 => cReg ?_
 refine stP hf rfl rfl rfl (pM rfl) fun a hf => stP hf rfl rfl rfl (pNe rfl rfl) fun a hf => stP hf rfl rfl rfl (pA rfl) fun a hf => cNil ?_
 refine h4 _ _ ?_
 refine cCond (b := (r != 0)) hf rfl (fun hb => ?_) (fun hb => ?_)
 ·replace hF := condT hb hF
  clear hb
  refine wp_seq_k fun K5 h5 => cReg ?_
  refine stP hf rfl rfl rfl (pM rfl) fun a hf => stSt (vs := [.int .i64 0]) hf hc rfl rfl rfl rfl sz_3 rfl rfl u1 fun w hc => stSt (vs := [.int .i64 r]) hf hc rfl rfl rfl rfl sz_28 rfl rfl u0 fun w hc => cNil ?_
  refine h5 _ _ ?_
  refine wp_ret ?_
  refine xBlkR ?_
  refine xThenR ?_
  obtain rfl := Option.some.inj hF
  replace hc := hc.drop k4
  replace hc := hc.drop k3
  replace hc := hc.drop k2
  replace hc := hc.pick k0
  replace hc := hc.pick k1
  refine outM hf ?_
  exact outM2 Try.results51 hf hc (rv_cell1 sc_3 rfl (cell_box m0 rfl)) (rv_cell1 sc_28 rfl (cell_box m1 rfl)) ⟨rfl,((hc.drop k1).drop k0)⟩
 ·replace hF := condF hb hF
  clear hb
  refine wp_seq_k fun K6 h6 => cReg ?_
  refine stE hf hc rfl rfl rfl (eLd1 sc_61 rfl (cell_box m3 rfl)) fun a w hf hc => stP hf rfl rfl rfl (pLenS Try.underlying61 rfl) fun a hf => stP hf rfl rfl rfl (pFA fa_102_2 rfl) fun a hf => stE hf hc rfl rfl rfl (eLd1 sc_100 rfl (cell_box m4 rfl)) fun a w hf hc => stP hf rfl rfl rfl (pLenS Try.underlying100 rfl) fun a hf => stP hf rfl rfl rfl (pNe rfl rfl) fun a hf => stP hf rfl rfl rfl (pM rfl) fun a hf => stCut 7 (fun a w => Has 80 a [(3,.pointer (some ⟨b_1,0,none⟩)),(4,.pointer (some ⟨b_2,0,none⟩)),(5,.pointer (some ⟨b_3,0,none⟩)),(6,.pointer (some ⟨b_4,0,none⟩)),(7,.pointer (some ⟨b_5,0,none⟩)),(20,.slice depths_p depths.length depths_c),(21,.int .i64 ((depths.length : Nat) : Int)),(22,.pointer (some ⟨b_1,2,none⟩)),(23,.slice g_Verticals_p g.Verticals.length g_Verticals_c),(24,.int .i64 ((g.Verticals.length : Nat) : Int)),(25,.bool (((depths.length : Nat) : Int) != ((g.Verticals.length : Nat) : Int))),(26,.bool (((depths.length : Nat) : Int) != ((g.Verticals.length : Nat) : Int))),(33,.bool ((((depths.length : Nat) : Int) != ((g.Verticals.length : Nat) : Int)) || (((speeds.length : Nat) : Int) != ((g.Verticals.length : Nat) : Int))))] ∧ Ctx G (.box b_5 [.int .i64 0] 28::.box b_4 [.int .i64 0] 3::.box b_3 [.slice speeds_p speeds.length speeds_c] 61::.box b_2 [.slice depths_p depths.length depths_c] 61::.box b_1 [.int .i64 g.Left,.int .i64 g.Right,.slice g_Verticals_p g.Verticals.length g_Verticals_c] 102::Lf) w) ?_ ?_
  ·cases hb : (((depths.length : Nat) : Int) != ((g.Verticals.length : Nat) : Int))
   ·rw [hb] at hf
    refine stE hf hc rfl rfl rfl (eLd1 sc_61 rfl (cell_box m2 rfl)) fun a w hf hc => stP hf rfl rfl rfl (pLenS Try.underlying61 rfl) fun a hf => stP hf rfl rfl rfl (pFA fa_102_2 rfl) fun a hf => stE hf hc rfl rfl rfl (eLd1 sc_100 rfl (cell_box m4 rfl)) fun a w hf hc => stP hf rfl rfl rfl (pLenS Try.underlying100 rfl) fun a hf => stP hf rfl rfl rfl (pNe rfl rfl) fun a hf => stP hf rfl rfl rfl (pPf rfl rfl) fun a hf => cNil ⟨hf.keep ⟨rfl,rfl,rfl,rfl,rfl,rfl,rfl,rfl,rfl,rfl,rfl,rfl,rfl,trivial⟩,hc⟩
   ·rw [hb] at hf
    refine stS hf rfl rfl rfl fun a hf => stS hf rfl rfl rfl fun a hf => stS hf rfl rfl rfl fun a hf => stS hf rfl rfl rfl fun a hf => stS hf rfl rfl rfl fun a hf => stS hf rfl rfl rfl fun a hf => stP hf rfl rfl rfl (pPt rfl rfl) fun a hf => cNil ⟨hf.keep ⟨rfl,rfl,rfl,rfl,rfl,rfl,rfl,rfl,rfl,rfl,rfl,rfl,rfl,trivial⟩,hc⟩
  intro a w ⟨hf,hc⟩
  refine stP hf rfl rfl rfl (pA rfl) fun a hf => cNil ?_
  refine h6 _ _ ?_
  refine cCond (b := ((((depths.length : Nat) : Int) != ((g.Verticals.length : Nat) : Int)) || (((speeds.length : Nat) : Int) != ((g.Verticals.length : Nat) : Int)))) hf rfl (fun hb => ?_) (fun hb => ?_)
  ·replace hF := condT hb hF
   clear hb
   refine wp_seq_k fun K7 h7 => cReg ?_
   refine stSt (vs := [.int .i64 0]) hf hc rfl rfl rfl rfl sz_3 rfl rfl u1 fun w hc => stSt (vs := [.int .i64 2]) hf hc rfl rfl rfl rfl sz_28 rfl rfl u0 fun w hc => cNil ?_
   refine h7 _ _ ?_
   refine wp_ret ?_
   refine xBlkR ?_
   refine xThenR ?_
   obtain rfl := Option.some.inj hF
   replace hc := hc.drop k4
   replace hc := hc.drop k3
   replace hc := hc.drop k2
   replace hc := hc.pick k0
   replace hc := hc.pick k1
   refine outM hf ?_
   exact outM2 Try.results51 hf hc (rv_cell1 sc_3 rfl (cell_box m0 rfl)) (rv_cell1 sc_28 rfl (cell_box m1 rfl)) ⟨rfl,((hc.drop k1).drop k0)⟩
  ·replace hF := condF hb hF
   clear hb
   refine wp_skip ?_
   refine h3 _ _ ?_
   refine wp_seq_k fun K8 h8 => cReg ?_
   refine stAl (cs := [.int .i64 0]) hf hc rfl rfl zr_3 rfl fun b_6 a w hf hc => stAl (cs := [.int .i64 0]) hf hc rfl rfl zr_3 rfl fun b_7 a w hf hc => stSt (vs := [.int .i64 0]) hf hc rfl rfl rfl rfl sz_3 rfl rfl u1 fun w hc => stSt (vs := [.int .i64 0]) hf hc rfl rfl rfl rfl sz_3 rfl rfl u0 fun w hc => cNil ?_
   refine h8 _ _ ?_
   refine wp_seq_k fun K9 h9 => wp_seq_k fun K10 h10 => cReg ?_
   refine stE hf hc rfl rfl rfl (eLdN (vs := [.int .i64 g.Left,.int .i64 g.Right,.slice g_Verticals_p g.Verticals.length g_Verticals_c]) ag_102 rfl rfl (cells_box (n := 3) m6 rfl)) fun a w hf hc => ?_
   obtain ⟨r_1,hr_1,hF⟩ := bnd_some hF
   refine stC (vs := [.agg #[.int .i64 g.Left,.int .i64 g.Right,.slice g_Verticals_p g.Verticals.length g_Verticals_c]]) (caps := []) hf rfl rfl rfl en_95 rfl rfl rfl rfl (gauge_Gauging_widths_ok g h_g_Verticals hc hr_1) ?_
   rintro _ w ⟨b_8,rfl,hc⟩
   refine ⟨_,rfl,fun a hf => ?_⟩
   refine cNil ?_
   refine h10 _ _ ?_
   obtain ⟨x11,hx11,hF⟩ := bnd_some hF
   replace hc := hc.drop k7
   refine cRange (C := [.box b_8 [.int .i64 r_1.1,.int .i64 r_1.2,.slice g_Verticals_p g.Verticals.length g_Verticals_c] 102]) (C2 := [.box b_8 [.int .i64 r_1.1,.int .i64 r_1.2,.slice g_Verticals_p g.Verticals.length g_Verticals_c] 102]) (L0 := [.box b_7 [.int .i64 0] 3,.box b_6 [.int .i64 0] 3,.box b_5 [.int .i64 0] 28,.box b_4 [.int .i64 0] 3,.box b_3 [.slice speeds_p speeds.length speeds_c] 61,.box b_2 [.slice depths_p depths.length depths_c] 61]) (Lf := Lf) (encs := fun x : (gauge_Vertical × Int) => [.agg #[.int .i64 x.1.At,.int .i64 x.1.Depth.Lo,.int .i64 x.1.Depth.Hi,.int .i64 x.1.Speed.Lo,.int .i64 x.1.Speed.Hi],.int .i64 x.2]) (fun (zz : Int × Int × Int) L => L = [.box b_7 [.int .i64 zz.2.2] 3,.box b_6 [.int .i64 zz.2.1] 3,.box b_5 [.int .i64 zz.1] 28,.box b_4 [.int .i64 0] 3,.box b_3 [.slice speeds_p speeds.length speeds_c] 61,.box b_2 [.slice depths_p depths.length depths_c] 61]) (fun (zz : Int × Int × Int) (ix_ : (gauge_Vertical × Int)) => gauge_Real_r11 N depths speeds zz.1 zz.2.1 zz.2.2 ix_.1 ix_.2) (0,0,0) x11 hf hc rfl en_127 (fun _ => rfl) rfl rfl ?_ ?_ ?_ ?_
   ·intro lq mq J L Lx w hy hJ hc
    exact gauge_Gauging_widths_1_ok (⟨r_1.1,r_1.2,g.Verticals⟩ : gauge_Gauging) h_g_Verticals J _ hy _ hJ hc hx11
   ·clear hF hf hc
    rintro lq mq ⟨x,x_1,x_2⟩ ⟨xv,xv_1⟩ oq _ Lr Lb a w hK0 rfl hF hf hc hK
    replace hf : Has 80 a [(4,.pointer (some ⟨b_2,0,none⟩)),(5,.pointer (some ⟨b_3,0,none⟩)),(6,.pointer (some ⟨b_4,0,none⟩)),(7,.pointer (some ⟨b_5,0,none⟩)),(9,.pointer (some ⟨b_6,0,none⟩)),(10,.pointer (some ⟨b_7,0,none⟩)),(36,.agg #[.int .i64 xv.At,.int .i64 xv.Depth.Lo,.int .i64 xv.Depth.Hi,.int .i64 xv.Speed.Lo,.int .i64 xv.Speed.Hi]),(37,.int .i64 xv_1)] := hf.keep ⟨rfl,rfl,rfl,rfl,rfl,rfl,rfl,rfl,trivial⟩
    replace hc : Ctx G (.box b_7 [.int .i64 x_2] 3::.box b_6 [.int .i64 x_1] 3::.box b_5 [.int .i64 x] 28::.box b_4 [.int .i64 0] 3::.box b_3 [.slice speeds_p speeds.length speeds_c] 61::.box b_2 [.slice depths_p depths.length depths_c] 61::Lr) w := hc
    replace hF : gauge_Real_r11 N depths speeds x x_1 x_2 xv xv_1 = some oq := hF
    unfold gauge_Real_r11 at hF
    refine rSeq fun K12 h12 => rReg (fun _ _ h => h) rfl ?_
    refine stAl (cs := [.int .i64 0,.int .i64 0,.int .i64 0,.int .i64 0,.int .i64 0]) hf hc rfl rfl zr_107 rfl fun b_9 a w hf hc => stSt (vs := [.int .i64 xv.At,.int .i64 xv.Depth.Lo,.int .i64 xv.Depth.Hi,.int .i64 xv.Speed.Lo,.int .i64 xv.Speed.Hi]) hf hc rfl rfl rfl rfl sz_107 rfl rfl u0 fun w hc => cNil ?_
    refine h12 _ _ ?_
    refine rReg (fun _ _ h => h) rfl ?_
    refine stP hf rfl rfl rfl (pA rfl) fun a hf => cNil ?_
    refine hK _ _ [.box b_9 [.int .i64 xv.At,.int .i64 xv.Depth.Lo,.int .i64 xv.Depth.Hi,.int .i64 xv.Speed.Lo,.int .i64 xv.Speed.Hi] 107,.box b_7 [.int .i64 x_2] 3,.box b_6 [.int .i64 x_1] 3,.box b_5 [.int .i64 x] 28,.box b_4 [.int .i64 0] 3,.box b_3 [.slice speeds_p speeds.length speeds_c] 61,.box b_2 [.slice depths_p depths.length depths_c] 61] hc fun w hc => ?_
    replace hc : Ctx G (.box b_9 [.int .i64 xv.At,.int .i64 xv.Depth.Lo,.int .i64 xv.Depth.Hi,.int .i64 xv.Speed.Lo,.int .i64 xv.Speed.Hi] 107::.box b_7 [.int .i64 x_2] 3::.box b_6 [.int .i64 x_1] 3::.box b_5 [.int .i64 x] 28::.box b_4 [.int .i64 0] 3::.box b_3 [.slice speeds_p speeds.length speeds_c] 61::.box b_2 [.slice depths_p depths.length depths_c] 61::Lb) w := hc
    refine rThenK fun K13 h13 => rBlock ?_
    refine rSeq fun K14 h14 => rSeq fun K15 h15 => ?_
    obtain ⟨rg,hrg,hF⟩ := bnd_some hF
    refine rCut (fun a w => Has 80 a [(4,.pointer (some ⟨b_2,0,none⟩)),(5,.pointer (some ⟨b_3,0,none⟩)),(6,.pointer (some ⟨b_4,0,none⟩)),(7,.pointer (some ⟨b_5,0,none⟩)),(9,.pointer (some ⟨b_6,0,none⟩)),(10,.pointer (some ⟨b_7,0,none⟩)),(12,.int .i64 xv_1),(63,.bool rg)] ∧ Ctx G (.box b_7 [.int .i64 x_2] 3::.box b_6 [.int .i64 x_1] 3::.box b_5 [.int .i64 x] 28::.box b_4 [.int .i64 0] 3::.box b_3 [.slice speeds_p speeds.length speeds_c] 61::.box b_2 [.slice depths_p depths.length depths_c] 61::Lb) w) ?_ ?_
    ·clear hF
     have hF := hrg
     clear hrg
     obtain ⟨e_1,he_1,hF⟩ := bnd_some hF
     obtain ⟨b_10,o,qa,qp⟩ := h_depths.atm he_1
     cases hb : (!(gauge_in e_1 xv.Depth.Lo xv.Depth.Hi))
     ·replace hF := condF hb hF
      try rw [hb] at hf
      try rw [hb] at hc
      have hb1 := hb
      clear hb
      obtain ⟨e_2,he_2,hF⟩ := bnd_some hF
      obtain ⟨b_11,o_1,qa_1,qp_1⟩ := h_speeds.atm he_2
      refine rRegE (fun _ _ h => h) rfl (fun θ => (⟨none,none,4,.pointer (some ⟨b_2,0,none⟩)⟩::⟨none,none,5,.pointer (some ⟨b_3,0,none⟩)⟩::⟨none,none,6,.pointer (some ⟨b_4,0,none⟩)⟩::⟨none,none,7,.pointer (some ⟨b_5,0,none⟩)⟩::⟨none,none,9,.pointer (some ⟨b_6,0,none⟩)⟩::⟨none,none,10,.pointer (some ⟨b_7,0,none⟩)⟩::⟨none,none,11,.pointer (some ⟨b_9,0,none⟩)⟩::⟨none,none,12,.int .i64 xv_1⟩::⟨some 0,none,38,.slice depths_p depths.length depths_c⟩::⟨some 1,none,39,.int .i64 x_2⟩::⟨some 2,none,40,.pointer (some ⟨b_10,o,none⟩)⟩::⟨some 3,none,41,.int .i64 e_1⟩::⟨some 4,none,42,.pointer (some ⟨b_9,1,none⟩)⟩::⟨some 5,none,43,.pointer (some ⟨b_9,1,none⟩)⟩::⟨some 6,none,44,.int .i64 xv.Depth.Lo⟩::⟨some 7,none,45,.pointer (some ⟨b_9,1,none⟩)⟩::⟨some 8,none,46,.pointer (some ⟨b_9,2,none⟩)⟩::⟨some 9,none,47,.int .i64 xv.Depth.Hi⟩::⟨some 10,none,48,.bool (gauge_in e_1 xv.Depth.Lo xv.Depth.Hi)⟩::⟨some 11,none,49,.bool false⟩::⟨some 12,none,50,.bool false⟩::⟨some 13,none,51,.slice speeds_p speeds.length speeds_c⟩::⟨some 14,none,52,.int .i64 x_2⟩::⟨some 15,none,53,.pointer (some ⟨b_11,o_1,none⟩)⟩::⟨some 16,none,54,.int .i64 e_2⟩::⟨some 17,none,55,.pointer (some ⟨b_9,3,none⟩)⟩::⟨some 18,none,56,.pointer (some ⟨b_9,3,none⟩)⟩::⟨some 19,none,57,.int .i64 xv.Speed.Lo⟩::⟨some 20,none,58,.pointer (some ⟨b_9,3,none⟩)⟩::⟨some 21,none,59,.pointer (some ⟨b_9,4,none⟩)⟩::⟨some 22,none,60,.int .i64 xv.Speed.Hi⟩::⟨some 23,none,61,.bool (gauge_in e_2 xv.Speed.Lo xv.Speed.Hi)⟩::⟨some 24,none,62,.bool (!(gauge_in e_2 xv.Speed.Lo xv.Speed.Hi))⟩::⟨some 25,none,63,.bool (!(gauge_in e_2 xv.Speed.Lo xv.Speed.Hi))⟩::[])) (fun E θ => .box b_9 [.int .i64 xv.At,.int .i64 xv.Depth.Lo,.int .i64 xv.Depth.Hi,.int .i64 xv.Speed.Lo,.int .i64 xv.Speed.Hi] 107::.box b_7 [.int .i64 x_2] 3::.box b_6 [.int .i64 x_1] 3::.box b_5 [.int .i64 x] 28::.box b_4 [.int .i64 0] 3::.box b_3 [.slice speeds_p speeds.length speeds_c] 61::.box b_2 [.slice depths_p depths.length depths_c] 61::Lb) [] (fun a w => Has 80 a [(4,.pointer (some ⟨b_2,0,none⟩)),(5,.pointer (some ⟨b_3,0,none⟩)),(6,.pointer (some ⟨b_4,0,none⟩)),(7,.pointer (some ⟨b_5,0,none⟩)),(9,.pointer (some ⟨b_6,0,none⟩)),(10,.pointer (some ⟨b_7,0,none⟩)),(12,.int .i64 xv_1),(51,.slice speeds_p speeds.length speeds_c),(52,.int .i64 x_2),(53,.pointer (some ⟨b_11,o_1,none⟩)),(54,.int .i64 e_2),(55,.pointer (some ⟨b_9,3,none⟩)),(56,.pointer (some ⟨b_9,3,none⟩)),(57,.int .i64 xv.Speed.Lo),(58,.pointer (some ⟨b_9,3,none⟩)),(59,.pointer (some ⟨b_9,4,none⟩)),(60,.int .i64 xv.Speed.Hi),(61,.bool (gauge_in e_2 xv.Speed.Lo xv.Speed.Hi)),(62,.bool (!(gauge_in e_2 xv.Speed.Lo xv.Speed.Hi))),(63,.bool (!(gauge_in e_2 xv.Speed.Lo xv.Speed.Hi)))] ∧ Ctx G (.box b_9 [.int .i64 xv.At,.int .i64 xv.Depth.Lo,.int .i64 xv.Depth.Hi,.int .i64 xv.Speed.Lo,.int .i64 xv.Speed.Hi] 107::.box b_7 [.int .i64 x_2] 3::.box b_6 [.int .i64 x_1] 3::.box b_5 [.int .i64 x] 28::.box b_4 [.int .i64 0] 3::.box b_3 [.slice speeds_p speeds.length speeds_c] 61::.box b_2 [.slice depths_p depths.length depths_c] 61::Lb) w) follows_mx (by kernel_rfl) (by kernel_rfl) (HasE.of hf ⟨rfl,rfl,rfl,rfl,rfl,rfl,rfl,rfl,trivial,trivial,trivial,trivial,trivial,trivial,trivial,trivial,trivial,trivial,trivial,trivial,trivial,trivial,trivial,trivial,trivial,trivial,trivial,trivial,trivial,trivial,trivial,trivial,trivial,trivial,trivial⟩) hc ⟨?_,?_,?_,?_,?_,?_,?_,?_,?_,?_,?_,?_,?_,?_,?_,?_,?_,?_,?_,?_,?_,?_,?_,?_,?_,?_,trivial⟩ ?_ ?_
      ·intro E θ a w hD hi hp he hc
       have hf := he.h0
       replace hf := hf.more he 0 rfl onT
       refine stE hf hc rfl rfl rfl (eLd1 sc_61 rfl (cell_box m6 rfl)) fun a w hf hc => cNil ?_
       refine xThenN ?_
       intro ds u hau
       refine ⟨θ,he.put0 hi hau hf rfl 8 rfl rfl,?_⟩
       exact hc
      ·intro E θ a w hD hi hp he hc
       have hf := he.h0
       replace hf := hf.more he 5 rfl onT
       refine stE hf hc rfl rfl rfl (eLd1 sc_3 rfl (cell_box m1 rfl)) fun a w hf hc => cNil ?_
       refine xThenN ?_
       intro ds u hau
       refine ⟨θ,he.put0 hi hau hf rfl 9 rfl rfl,?_⟩
       exact hc
      ·intro E θ a w hD hi hp he hc
       have e0 := hp.of (k := 0) rfl
       have e1 := hp.of (k := 1) rfl
       have hf := he.h0
       replace hf := hf.more he 8 rfl (onP e0)
       replace hf := hf.more he 9 rfl (onP e1)
       refine stP hf rfl rfl rfl (pIA Try.underlying61 sz_3 rfl rfl qa) fun a hf => cNil ?_
       refine xThenN ?_
       intro ds u hau
       refine ⟨θ,he.put0 hi hau hf rfl 10 rfl rfl,?_⟩
       exact hc
      ·intro E θ a w hD hi hp he hc
       have e2 := hp.of (k := 2) rfl
       have hf := he.h0
       replace hf := hf.more he 10 rfl (onP e2)
       refine stE hf hc rfl rfl rfl (eLd1 sc_3 rfl (cell_pc (j := 0) qp rfl)) fun a w hf hc => cNil ?_
       refine xThenN ?_
       intro ds u hau
       refine ⟨θ,he.put0 hi hau hf rfl 11 rfl rfl,?_⟩
       exact hc
      ·intro E θ a w hD hi hp he hc
       have hf := he.h0
       replace hf := hf.more he 6 rfl onT
       refine stP hf rfl rfl rfl (pFA fa_107_1 rfl) fun a hf => cNil ?_
       refine xThenN ?_
       intro ds u hau
       refine ⟨θ,he.put0 hi hau hf rfl 12 rfl rfl,?_⟩
       exact hc
      ·intro E θ a w hD hi hp he hc
       have e4 := hp.of (k := 4) rfl
       have hf := he.h0
       replace hf := hf.more he 12 rfl (onP e4)
       refine stP hf rfl rfl rfl (pFA fa_50_0 rfl) fun a hf => cNil ?_
       refine xThenN ?_
       intro ds u hau
       refine ⟨θ,he.put0 hi hau hf rfl 13 rfl rfl,?_⟩
       exact hc
      ·intro E θ a w hD hi hp he hc
       have e5 := hp.of (k := 5) rfl
       have hf := he.h0
       replace hf := hf.more he 13 rfl (onP e5)
       refine stE hf hc rfl rfl rfl (eLd1 sc_3 rfl (cell_box m0 rfl)) fun a w hf hc => cNil ?_
       refine xThenN ?_
       intro ds u hau
       refine ⟨θ,he.put0 hi hau hf rfl 14 rfl rfl,?_⟩
       exact hc
      ·intro E θ a w hD hi hp he hc
       have hf := he.h0
       replace hf := hf.more he 6 rfl onT
       refine stP hf rfl rfl rfl (pFA fa_107_1 rfl) fun a hf => cNil ?_
       refine xThenN ?_
       intro ds u hau
       refine ⟨θ,he.put0 hi hau hf rfl 15 rfl rfl,?_⟩
       exact hc
      ·intro E θ a w hD hi hp he hc
       have e7 := hp.of (k := 7) rfl
       have hf := he.h0
       replace hf := hf.more he 15 rfl (onP e7)
       refine stP hf rfl rfl rfl (pFA fa_50_1 rfl) fun a hf => cNil ?_
       refine xThenN ?_
       intro ds u hau
       refine ⟨θ,he.put0 hi hau hf rfl 16 rfl rfl,?_⟩
       exact hc
      ·intro E θ a w hD hi hp he hc
       have e8 := hp.of (k := 8) rfl
       have hf := he.h0
       replace hf := hf.more he 16 rfl (onP e8)
       refine stE hf hc rfl rfl rfl (eLd1 sc_3 rfl (cell_box m0 rfl)) fun a w hf hc => cNil ?_
       refine xThenN ?_
       intro ds u hau
       refine ⟨θ,he.put0 hi hau hf rfl 17 rfl rfl,?_⟩
       exact hc
      ·intro E θ a w hD hi hp he hc
       have e3 := hp.of (k := 3) rfl
       have e6 := hp.of (k := 6) rfl
       have e9 := hp.of (k := 9) rfl
       have hf := he.h0
       replace hf := hf.more he 11 rfl (onP e3)
       replace hf := hf.more he 14 rfl (onP e6)
       replace hf := hf.more he 17 rfl (onP e9)
       refine stE hf hc rfl rfl rfl (eC (v := .bool (gauge_in e_1 xv.Depth.Lo xv.Depth.Hi)) (vs := [.int .i64 e_1,.int .i64 xv.Depth.Lo,.int .i64 xv.Depth.Hi]) (caps := []) en_96 rfl rfl rfl rfl (fun w hc => gauge_in_ok e_1 xv.Depth.Lo xv.Depth.Hi hc rfl)) fun a w hf hc => cNil ?_
       refine xThenN ?_
       intro ds u hau
       refine ⟨θ,he.put0 hi hau hf rfl 18 rfl rfl,?_⟩
       exact hc
      ·intro E θ a w hD hi hp he hc
       have e10 := hp.of (k := 10) rfl
       have hf := he.h0
       replace hf := hf.more he 18 rfl (onP e10)
       refine stP hf rfl rfl rfl (pNot rfl) fun a hf => ?_
       rw [hb1] at hf
       refine cNil ?_
       refine xThenN ?_
       intro ds u hau
       refine ⟨θ,he.put0 hi hau hf rfl 19 rfl rfl,?_⟩
       exact hc
      ·intro E θ a w hD hi hp he hc
       have e11 := hp.of (k := 11) rfl
       have hf := he.h0
       replace hf := hf.more he 19 rfl (onP e11)
       refine stP hf rfl rfl rfl (pM rfl) fun a hf => cNil ?_
       refine xThenN ?_
       intro ds u hau
       refine ⟨θ,he.put0 hi hau hf rfl 20 rfl rfl,?_⟩
       exact hc
      ·intro E θ a w hD hi hp he hc
       have e12 := hp.of (k := 12) rfl
       have hf := he.h0
       replace hf := hf.more he 1 rfl onT
       replace hf := hf.more he 20 rfl (onP e12)
       refine stE hf hc rfl rfl rfl (eLd1 sc_61 rfl (cell_box m5 rfl)) fun a w hf hc => cNil ?_
       refine xThenN ?_
       intro ds u hau
       refine ⟨θ,he.put0 hi hau hf rfl 21 rfl rfl,?_⟩
       exact hc
      ·intro E θ a w hD hi hp he hc
       have e12 := hp.of (k := 12) rfl
       have hf := he.h0
       replace hf := hf.more he 5 rfl onT
       replace hf := hf.more he 20 rfl (onP e12)
       refine stE hf hc rfl rfl rfl (eLd1 sc_3 rfl (cell_box m1 rfl)) fun a w hf hc => cNil ?_
       refine xThenN ?_
       intro ds u hau
       refine ⟨θ,he.put0 hi hau hf rfl 22 rfl rfl,?_⟩
       exact hc
      ·intro E θ a w hD hi hp he hc
       have e12 := hp.of (k := 12) rfl
       have e13 := hp.of (k := 13) rfl
       have e14 := hp.of (k := 14) rfl
       have hf := he.h0
       replace hf := hf.more he 20 rfl (onP e12)
       replace hf := hf.more he 21 rfl (onP e13)
       replace hf := hf.more he 22 rfl (onP e14)
       refine stP hf rfl rfl rfl (pIA Try.underlying61 sz_3 rfl rfl qa_1) fun a hf => cNil ?_
       refine xThenN ?_
       intro ds u hau
       refine ⟨θ,he.put0 hi hau hf rfl 23 rfl rfl,?_⟩
       exact hc
      ·intro E θ a w hD hi hp he hc
       have e12 := hp.of (k := 12) rfl
       have e15 := hp.of (k := 15) rfl
       have hf := he.h0
       replace hf := hf.more he 20 rfl (onP e12)
       replace hf := hf.more he 23 rfl (onP e15)
       refine stE hf hc rfl rfl rfl (eLd1 sc_3 rfl (cell_pc (j := 0) qp_1 rfl)) fun a w hf hc => cNil ?_
       refine xThenN ?_
       intro ds u hau
       refine ⟨θ,he.put0 hi hau hf rfl 24 rfl rfl,?_⟩
       exact hc
      ·intro E θ a w hD hi hp he hc
       have e12 := hp.of (k := 12) rfl
       have hf := he.h0
       replace hf := hf.more he 6 rfl onT
       replace hf := hf.more he 20 rfl (onP e12)
       refine stP hf rfl rfl rfl (pFA fa_107_2 rfl) fun a hf => cNil ?_
       refine xThenN ?_
       intro ds u hau
       refine ⟨θ,he.put0 hi hau hf rfl 25 rfl rfl,?_⟩
       exact hc
      ·intro E θ a w hD hi hp he hc
       have e12 := hp.of (k := 12) rfl
       have e17 := hp.of (k := 17) rfl
       have hf := he.h0
       replace hf := hf.more he 20 rfl (onP e12)
       replace hf := hf.more he 25 rfl (onP e17)
       refine stP hf rfl rfl rfl (pFA fa_50_0 rfl) fun a hf => cNil ?_
       refine xThenN ?_
       intro ds u hau
       refine ⟨θ,he.put0 hi hau hf rfl 26 rfl rfl,?_⟩
       exact hc
      ·intro E θ a w hD hi hp he hc
       have e12 := hp.of (k := 12) rfl
       have e18 := hp.of (k := 18) rfl
       have hf := he.h0
       replace hf := hf.more he 20 rfl (onP e12)
       replace hf := hf.more he 26 rfl (onP e18)
       refine stE hf hc rfl rfl rfl (eLd1 sc_3 rfl (cell_box m0 rfl)) fun a w hf hc => cNil ?_
       refine xThenN ?_
       intro ds u hau
       refine ⟨θ,he.put0 hi hau hf rfl 27 rfl rfl,?_⟩
       exact hc
      ·intro E θ a w hD hi hp he hc
       have e12 := hp.of (k := 12) rfl
       have hf := he.h0
       replace hf := hf.more he 6 rfl onT
       replace hf := hf.more he 20 rfl (onP e12)
       refine stP hf rfl rfl rfl (pFA fa_107_2 rfl) fun a hf => cNil ?_
       refine xThenN ?_
       intro ds u hau
       refine ⟨θ,he.put0 hi hau hf rfl 28 rfl rfl,?_⟩
       exact hc
      ·intro E θ a w hD hi hp he hc
       have e12 := hp.of (k := 12) rfl
       have e20 := hp.of (k := 20) rfl
       have hf := he.h0
       replace hf := hf.more he 20 rfl (onP e12)
       replace hf := hf.more he 28 rfl (onP e20)
       refine stP hf rfl rfl rfl (pFA fa_50_1 rfl) fun a hf => cNil ?_
       refine xThenN ?_
       intro ds u hau
       refine ⟨θ,he.put0 hi hau hf rfl 29 rfl rfl,?_⟩
       exact hc
      ·intro E θ a w hD hi hp he hc
       have e12 := hp.of (k := 12) rfl
       have e21 := hp.of (k := 21) rfl
       have hf := he.h0
       replace hf := hf.more he 20 rfl (onP e12)
       replace hf := hf.more he 29 rfl (onP e21)
       refine stE hf hc rfl rfl rfl (eLd1 sc_3 rfl (cell_box m0 rfl)) fun a w hf hc => cNil ?_
       refine xThenN ?_
       intro ds u hau
       refine ⟨θ,he.put0 hi hau hf rfl 30 rfl rfl,?_⟩
       exact hc
      ·intro E θ a w hD hi hp he hc
       have e12 := hp.of (k := 12) rfl
       have e16 := hp.of (k := 16) rfl
       have e19 := hp.of (k := 19) rfl
       have e22 := hp.of (k := 22) rfl
       have hf := he.h0
       replace hf := hf.more he 20 rfl (onP e12)
       replace hf := hf.more he 24 rfl (onP e16)
       replace hf := hf.more he 27 rfl (onP e19)
       replace hf := hf.more he 30 rfl (onP e22)
       refine stE hf hc rfl rfl rfl (eC (v := .bool (gauge_in e_2 xv.Speed.Lo xv.Speed.Hi)) (vs := [.int .i64 e_2,.int .i64 xv.Speed.Lo,.int .i64 xv.Speed.Hi]) (caps := []) en_96 rfl rfl rfl rfl (fun w hc => gauge_in_ok e_2 xv.Speed.Lo xv.Speed.Hi hc rfl)) fun a w hf hc => cNil ?_
       refine xThenN ?_
       intro ds u hau
       refine ⟨θ,he.put0 hi hau hf rfl 31 rfl rfl,?_⟩
       exact hc
      ·intro E θ a w hD hi hp he hc
       have e12 := hp.of (k := 12) rfl
       have e23 := hp.of (k := 23) rfl
       have hf := he.h0
       replace hf := hf.more he 20 rfl (onP e12)
       replace hf := hf.more he 31 rfl (onP e23)
       refine stP hf rfl rfl rfl (pNot rfl) fun a hf => cNil ?_
       refine xThenN ?_
       intro ds u hau
       refine ⟨θ,he.put0 hi hau hf rfl 32 rfl rfl,?_⟩
       exact hc
      ·intro E θ a w hD hi hp he hc
       have e12 := hp.of (k := 12) rfl
       have e24 := hp.of (k := 24) rfl
       have hf := he.h0
       replace hf := hf.more he 20 rfl (onP e12)
       replace hf := hf.more he 32 rfl (onP e24)
       refine stP hf rfl rfl rfl (pPf rfl rfl) fun a hf => cNil ?_
       refine xThenN ?_
       intro ds u hau
       refine ⟨θ,he.put0 hi hau hf rfl 33 rfl rfl,?_⟩
       exact hc
      ·intro E θ a w hall he hc
       have hf := he.h0
       have e13 := hall 13 rfl
       have e14 := hall 14 rfl
       have e15 := hall 15 rfl
       have e16 := hall 16 rfl
       have e17 := hall 17 rfl
       have e18 := hall 18 rfl
       have e19 := hall 19 rfl
       have e20 := hall 20 rfl
       have e21 := hall 21 rfl
       have e22 := hall 22 rfl
       have e23 := hall 23 rfl
       have e24 := hall 24 rfl
       have e25 := hall 25 rfl
       replace hf := hf.more he 33 rfl (onP e25)
       replace hf := hf.more he 32 rfl (onP e24)
       replace hf := hf.more he 31 rfl (onP e23)
       replace hf := hf.more he 30 rfl (onP e22)
       replace hf := hf.more he 29 rfl (onP e21)
       replace hf := hf.more he 28 rfl (onP e20)
       replace hf := hf.more he 27 rfl (onP e19)
       replace hf := hf.more he 26 rfl (onP e18)
       replace hf := hf.more he 25 rfl (onP e17)
       replace hf := hf.more he 24 rfl (onP e16)
       replace hf := hf.more he 23 rfl (onP e15)
       replace hf := hf.more he 22 rfl (onP e14)
       replace hf := hf.more he 21 rfl (onP e13)
       replace hf := hf.more he 7 rfl (onT)
       replace hf := hf.more he 5 rfl (onT)
       replace hf := hf.more he 4 rfl (onT)
       replace hf := hf.more he 3 rfl (onT)
       replace hf := hf.more he 2 rfl (onT)
       replace hf := hf.more he 1 rfl (onT)
       replace hf := hf.more he 0 rfl (onT)
       exact ⟨hf.keep ⟨rfl,rfl,rfl,rfl,rfl,rfl,rfl,rfl,rfl,rfl,rfl,rfl,rfl,rfl,rfl,rfl,rfl,rfl,rfl,rfl,trivial⟩,hc⟩
      rintro a w ⟨hf,hc⟩
      refine xThenN ?_
      obtain rfl := Option.some.inj hF
      replace hc := hc.drop k0
      exact ⟨hf.keep ⟨rfl,rfl,rfl,rfl,rfl,rfl,rfl,rfl,trivial⟩,hc⟩
     ·replace hF := condT hb hF
      try rw [hb] at hf
      try rw [hb] at hc
      have hb1 := hb
      clear hb
      refine rRegE (fun _ _ h => h) rfl (fun θ => (⟨none,none,4,.pointer (some ⟨b_2,0,none⟩)⟩::⟨none,none,5,.pointer (some ⟨b_3,0,none⟩)⟩::⟨none,none,6,.pointer (some ⟨b_4,0,none⟩)⟩::⟨none,none,7,.pointer (some ⟨b_5,0,none⟩)⟩::⟨none,none,9,.pointer (some ⟨b_6,0,none⟩)⟩::⟨none,none,10,.pointer (some ⟨b_7,0,none⟩)⟩::⟨none,none,11,.pointer (some ⟨b_9,0,none⟩)⟩::⟨none,none,12,.int .i64 xv_1⟩::⟨some 0,none,38,.slice depths_p depths.length depths_c⟩::⟨some 1,none,39,.int .i64 x_2⟩::⟨some 2,none,40,.pointer (some ⟨b_10,o,none⟩)⟩::⟨some 3,none,41,.int .i64 e_1⟩::⟨some 4,none,42,.pointer (some ⟨b_9,1,none⟩)⟩::⟨some 5,none,43,.pointer (some ⟨b_9,1,none⟩)⟩::⟨some 6,none,44,.int .i64 xv.Depth.Lo⟩::⟨some 7,none,45,.pointer (some ⟨b_9,1,none⟩)⟩::⟨some 8,none,46,.pointer (some ⟨b_9,2,none⟩)⟩::⟨some 9,none,47,.int .i64 xv.Depth.Hi⟩::⟨some 10,none,48,.bool (gauge_in e_1 xv.Depth.Lo xv.Depth.Hi)⟩::⟨some 11,none,49,.bool true⟩::⟨some 12,none,50,.bool true⟩::⟨some 13,none,51,undef⟩::⟨some 14,none,52,undef⟩::⟨some 15,none,53,undef⟩::⟨some 16,none,54,undef⟩::⟨some 17,none,55,undef⟩::⟨some 18,none,56,undef⟩::⟨some 19,none,57,undef⟩::⟨some 20,none,58,undef⟩::⟨some 21,none,59,undef⟩::⟨some 22,none,60,undef⟩::⟨some 23,none,61,undef⟩::⟨some 24,none,62,undef⟩::⟨some 25,none,63,.bool true⟩::[])) (fun E θ => .box b_9 [.int .i64 xv.At,.int .i64 xv.Depth.Lo,.int .i64 xv.Depth.Hi,.int .i64 xv.Speed.Lo,.int .i64 xv.Speed.Hi] 107::.box b_7 [.int .i64 x_2] 3::.box b_6 [.int .i64 x_1] 3::.box b_5 [.int .i64 x] 28::.box b_4 [.int .i64 0] 3::.box b_3 [.slice speeds_p speeds.length speeds_c] 61::.box b_2 [.slice depths_p depths.length depths_c] 61::Lb) [] (fun a w => Has 80 a [(4,.pointer (some ⟨b_2,0,none⟩)),(5,.pointer (some ⟨b_3,0,none⟩)),(6,.pointer (some ⟨b_4,0,none⟩)),(7,.pointer (some ⟨b_5,0,none⟩)),(9,.pointer (some ⟨b_6,0,none⟩)),(10,.pointer (some ⟨b_7,0,none⟩)),(12,.int .i64 xv_1),(51,undef),(52,undef),(53,undef),(54,undef),(55,undef),(56,undef),(57,undef),(58,undef),(59,undef),(60,undef),(61,undef),(62,undef),(63,.bool true)] ∧ Ctx G (.box b_9 [.int .i64 xv.At,.int .i64 xv.Depth.Lo,.int .i64 xv.Depth.Hi,.int .i64 xv.Speed.Lo,.int .i64 xv.Speed.Hi] 107::.box b_7 [.int .i64 x_2] 3::.box b_6 [.int .i64 x_1] 3::.box b_5 [.int .i64 x] 28::.box b_4 [.int .i64 0] 3::.box b_3 [.slice speeds_p speeds.length speeds_c] 61::.box b_2 [.slice depths_p depths.length depths_c] 61::Lb) w) follows_mx (by kernel_rfl) (by kernel_rfl) (HasE.of hf ⟨rfl,rfl,rfl,rfl,rfl,rfl,rfl,rfl,trivial,trivial,trivial,trivial,trivial,trivial,trivial,trivial,trivial,trivial,trivial,trivial,trivial,trivial,trivial,trivial,trivial,trivial,trivial,trivial,trivial,trivial,trivial,trivial,trivial,trivial,trivial⟩) hc ⟨?_,?_,?_,?_,?_,?_,?_,?_,?_,?_,?_,?_,?_,?_,?_,?_,?_,?_,?_,?_,?_,?_,?_,?_,?_,?_,trivial⟩ ?_ ?_
      ·intro E θ a w hD hi hp he hc
       have hf := he.h0
       replace hf := hf.more he 0 rfl onT
       refine stE hf hc rfl rfl rfl (eLd1 sc_61 rfl (cell_box m6 rfl)) fun a w hf hc => cNil ?_
       refine xThenN ?_
       intro ds u hau
       refine ⟨θ,he.put0 hi hau hf rfl 8 rfl rfl,?_⟩
       exact hc
      ·intro E θ a w hD hi hp he hc
       have hf := he.h0
       replace hf := hf.more he 5 rfl onT
       refine stE hf hc rfl rfl rfl (eLd1 sc_3 rfl (cell_box m1 rfl)) fun a w hf hc => cNil ?_
       refine xThenN ?_
       intro ds u hau
       refine ⟨θ,he.put0 hi hau hf rfl 9 rfl rfl,?_⟩
       exact hc
      ·intro E θ a w hD hi hp he hc
       have e0 := hp.of (k := 0) rfl
       have e1 := hp.of (k := 1) rfl
       have hf := he.h0
       replace hf := hf.more he 8 rfl (onP e0)
       replace hf := hf.more he 9 rfl (onP e1)
       refine stP hf rfl rfl rfl (pIA Try.underlying61 sz_3 rfl rfl qa) fun a hf => cNil ?_
       refine xThenN ?_
       intro ds u hau
       refine ⟨θ,he.put0 hi hau hf rfl 10 rfl rfl,?_⟩
       exact hc
      ·intro E θ a w hD hi hp he hc
       have e2 := hp.of (k := 2) rfl
       have hf := he.h0
       replace hf := hf.more he 10 rfl (onP e2)
       refine stE hf hc rfl rfl rfl (eLd1 sc_3 rfl (cell_pc (j := 0) qp rfl)) fun a w hf hc => cNil ?_
       refine xThenN ?_
       intro ds u hau
       refine ⟨θ,he.put0 hi hau hf rfl 11 rfl rfl,?_⟩
       exact hc
      ·intro E θ a w hD hi hp he hc
       have hf := he.h0
       replace hf := hf.more he 6 rfl onT
       refine stP hf rfl rfl rfl (pFA fa_107_1 rfl) fun a hf => cNil ?_
       refine xThenN ?_
       intro ds u hau
       refine ⟨θ,he.put0 hi hau hf rfl 12 rfl rfl,?_⟩
       exact hc
      ·intro E θ a w hD hi hp he hc
       have e4 := hp.of (k := 4) rfl
       have hf := he.h0
       replace hf := hf.more he 12 rfl (onP e4)
       refine stP hf rfl rfl rfl (pFA fa_50_0 rfl) fun a hf => cNil ?_
       refine xThenN ?_
       intro ds u hau
       refine ⟨θ,he.put0 hi hau hf rfl 13 rfl rfl,?_⟩
       exact hc
      ·intro E θ a w hD hi hp he hc
       have e5 := hp.of (k := 5) rfl
       have hf := he.h0
       replace hf := hf.more he 13 rfl (onP e5)
       refine stE hf hc rfl rfl rfl (eLd1 sc_3 rfl (cell_box m0 rfl)) fun a w hf hc => cNil ?_
       refine xThenN ?_
       intro ds u hau
       refine ⟨θ,he.put0 hi hau hf rfl 14 rfl rfl,?_⟩
       exact hc
      ·intro E θ a w hD hi hp he hc
       have hf := he.h0
       replace hf := hf.more he 6 rfl onT
       refine stP hf rfl rfl rfl (pFA fa_107_1 rfl) fun a hf => cNil ?_
       refine xThenN ?_
       intro ds u hau
       refine ⟨θ,he.put0 hi hau hf rfl 15 rfl rfl,?_⟩
       exact hc
      ·intro E θ a w hD hi hp he hc
       have e7 := hp.of (k := 7) rfl
       have hf := he.h0
       replace hf := hf.more he 15 rfl (onP e7)
       refine stP hf rfl rfl rfl (pFA fa_50_1 rfl) fun a hf => cNil ?_
       refine xThenN ?_
       intro ds u hau
       refine ⟨θ,he.put0 hi hau hf rfl 16 rfl rfl,?_⟩
       exact hc
      ·intro E θ a w hD hi hp he hc
       have e8 := hp.of (k := 8) rfl
       have hf := he.h0
       replace hf := hf.more he 16 rfl (onP e8)
       refine stE hf hc rfl rfl rfl (eLd1 sc_3 rfl (cell_box m0 rfl)) fun a w hf hc => cNil ?_
       refine xThenN ?_
       intro ds u hau
       refine ⟨θ,he.put0 hi hau hf rfl 17 rfl rfl,?_⟩
       exact hc
      ·intro E θ a w hD hi hp he hc
       have e3 := hp.of (k := 3) rfl
       have e6 := hp.of (k := 6) rfl
       have e9 := hp.of (k := 9) rfl
       have hf := he.h0
       replace hf := hf.more he 11 rfl (onP e3)
       replace hf := hf.more he 14 rfl (onP e6)
       replace hf := hf.more he 17 rfl (onP e9)
       refine stE hf hc rfl rfl rfl (eC (v := .bool (gauge_in e_1 xv.Depth.Lo xv.Depth.Hi)) (vs := [.int .i64 e_1,.int .i64 xv.Depth.Lo,.int .i64 xv.Depth.Hi]) (caps := []) en_96 rfl rfl rfl rfl (fun w hc => gauge_in_ok e_1 xv.Depth.Lo xv.Depth.Hi hc rfl)) fun a w hf hc => cNil ?_
       refine xThenN ?_
       intro ds u hau
       refine ⟨θ,he.put0 hi hau hf rfl 18 rfl rfl,?_⟩
       exact hc
      ·intro E θ a w hD hi hp he hc
       have e10 := hp.of (k := 10) rfl
       have hf := he.h0
       replace hf := hf.more he 18 rfl (onP e10)
       refine stP hf rfl rfl rfl (pNot rfl) fun a hf => ?_
       rw [hb1] at hf
       refine cNil ?_
       refine xThenN ?_
       intro ds u hau
       refine ⟨θ,he.put0 hi hau hf rfl 19 rfl rfl,?_⟩
       exact hc
      ·intro E θ a w hD hi hp he hc
       have e11 := hp.of (k := 11) rfl
       have hf := he.h0
       replace hf := hf.more he 19 rfl (onP e11)
       refine stP hf rfl rfl rfl (pM rfl) fun a hf => cNil ?_
       refine xThenN ?_
       intro ds u hau
       refine ⟨θ,he.put0 hi hau hf rfl 20 rfl rfl,?_⟩
       exact hc
      ·intro E θ a w hD hi hp he hc
       have e12 := hp.of (k := 12) rfl
       have hf := he.h0
       replace hf := hf.more he 1 rfl onT
       replace hf := hf.more he 20 rfl (onP e12)
       refine stS hf rfl rfl rfl fun a hf => cNil ?_
       refine xThenN ?_
       intro ds u hau
       refine ⟨θ,he.put0 hi hau hf rfl 21 rfl rfl,?_⟩
       exact hc
      ·intro E θ a w hD hi hp he hc
       have e12 := hp.of (k := 12) rfl
       have hf := he.h0
       replace hf := hf.more he 5 rfl onT
       replace hf := hf.more he 20 rfl (onP e12)
       refine stS hf rfl rfl rfl fun a hf => cNil ?_
       refine xThenN ?_
       intro ds u hau
       refine ⟨θ,he.put0 hi hau hf rfl 22 rfl rfl,?_⟩
       exact hc
      ·intro E θ a w hD hi hp he hc
       have e12 := hp.of (k := 12) rfl
       have e13 := hp.of (k := 13) rfl
       have e14 := hp.of (k := 14) rfl
       have hf := he.h0
       replace hf := hf.more he 20 rfl (onP e12)
       replace hf := hf.more he 21 rfl (onP e13)
       replace hf := hf.more he 22 rfl (onP e14)
       refine stS hf rfl rfl rfl fun a hf => cNil ?_
       refine xThenN ?_
       intro ds u hau
       refine ⟨θ,he.put0 hi hau hf rfl 23 rfl rfl,?_⟩
       exact hc
      ·intro E θ a w hD hi hp he hc
       have e12 := hp.of (k := 12) rfl
       have e15 := hp.of (k := 15) rfl
       have hf := he.h0
       replace hf := hf.more he 20 rfl (onP e12)
       replace hf := hf.more he 23 rfl (onP e15)
       refine stS hf rfl rfl rfl fun a hf => cNil ?_
       refine xThenN ?_
       intro ds u hau
       refine ⟨θ,he.put0 hi hau hf rfl 24 rfl rfl,?_⟩
       exact hc
      ·intro E θ a w hD hi hp he hc
       have e12 := hp.of (k := 12) rfl
       have hf := he.h0
       replace hf := hf.more he 6 rfl onT
       replace hf := hf.more he 20 rfl (onP e12)
       refine stS hf rfl rfl rfl fun a hf => cNil ?_
       refine xThenN ?_
       intro ds u hau
       refine ⟨θ,he.put0 hi hau hf rfl 25 rfl rfl,?_⟩
       exact hc
      ·intro E θ a w hD hi hp he hc
       have e12 := hp.of (k := 12) rfl
       have e17 := hp.of (k := 17) rfl
       have hf := he.h0
       replace hf := hf.more he 20 rfl (onP e12)
       replace hf := hf.more he 25 rfl (onP e17)
       refine stS hf rfl rfl rfl fun a hf => cNil ?_
       refine xThenN ?_
       intro ds u hau
       refine ⟨θ,he.put0 hi hau hf rfl 26 rfl rfl,?_⟩
       exact hc
      ·intro E θ a w hD hi hp he hc
       have e12 := hp.of (k := 12) rfl
       have e18 := hp.of (k := 18) rfl
       have hf := he.h0
       replace hf := hf.more he 20 rfl (onP e12)
       replace hf := hf.more he 26 rfl (onP e18)
       refine stS hf rfl rfl rfl fun a hf => cNil ?_
       refine xThenN ?_
       intro ds u hau
       refine ⟨θ,he.put0 hi hau hf rfl 27 rfl rfl,?_⟩
       exact hc
      ·intro E θ a w hD hi hp he hc
       have e12 := hp.of (k := 12) rfl
       have hf := he.h0
       replace hf := hf.more he 6 rfl onT
       replace hf := hf.more he 20 rfl (onP e12)
       refine stS hf rfl rfl rfl fun a hf => cNil ?_
       refine xThenN ?_
       intro ds u hau
       refine ⟨θ,he.put0 hi hau hf rfl 28 rfl rfl,?_⟩
       exact hc
      ·intro E θ a w hD hi hp he hc
       have e12 := hp.of (k := 12) rfl
       have e20 := hp.of (k := 20) rfl
       have hf := he.h0
       replace hf := hf.more he 20 rfl (onP e12)
       replace hf := hf.more he 28 rfl (onP e20)
       refine stS hf rfl rfl rfl fun a hf => cNil ?_
       refine xThenN ?_
       intro ds u hau
       refine ⟨θ,he.put0 hi hau hf rfl 29 rfl rfl,?_⟩
       exact hc
      ·intro E θ a w hD hi hp he hc
       have e12 := hp.of (k := 12) rfl
       have e21 := hp.of (k := 21) rfl
       have hf := he.h0
       replace hf := hf.more he 20 rfl (onP e12)
       replace hf := hf.more he 29 rfl (onP e21)
       refine stS hf rfl rfl rfl fun a hf => cNil ?_
       refine xThenN ?_
       intro ds u hau
       refine ⟨θ,he.put0 hi hau hf rfl 30 rfl rfl,?_⟩
       exact hc
      ·intro E θ a w hD hi hp he hc
       have e12 := hp.of (k := 12) rfl
       have e16 := hp.of (k := 16) rfl
       have e19 := hp.of (k := 19) rfl
       have e22 := hp.of (k := 22) rfl
       have hf := he.h0
       replace hf := hf.more he 20 rfl (onP e12)
       replace hf := hf.more he 24 rfl (onP e16)
       replace hf := hf.more he 27 rfl (onP e19)
       replace hf := hf.more he 30 rfl (onP e22)
       refine stS hf rfl rfl rfl fun a hf => cNil ?_
       refine xThenN ?_
       intro ds u hau
       refine ⟨θ,he.put0 hi hau hf rfl 31 rfl rfl,?_⟩
       exact hc
      ·intro E θ a w hD hi hp he hc
       have e12 := hp.of (k := 12) rfl
       have e23 := hp.of (k := 23) rfl
       have hf := he.h0
       replace hf := hf.more he 20 rfl (onP e12)
       replace hf := hf.more he 31 rfl (onP e23)
       refine stS hf rfl rfl rfl fun a hf => cNil ?_
       refine xThenN ?_
       intro ds u hau
       refine ⟨θ,he.put0 hi hau hf rfl 32 rfl rfl,?_⟩
       exact hc
      ·intro E θ a w hD hi hp he hc
       have e12 := hp.of (k := 12) rfl
       have e24 := hp.of (k := 24) rfl
       have hf := he.h0
       replace hf := hf.more he 20 rfl (onP e12)
       replace hf := hf.more he 32 rfl (onP e24)
       refine stP hf rfl rfl rfl (pPt rfl rfl) fun a hf => cNil ?_
       refine xThenN ?_
       intro ds u hau
       refine ⟨θ,he.put0 hi hau hf rfl 33 rfl rfl,?_⟩
       exact hc
      ·intro E θ a w hall he hc
       have hf := he.h0
       have e13 := hall 13 rfl
       have e14 := hall 14 rfl
       have e15 := hall 15 rfl
       have e16 := hall 16 rfl
       have e17 := hall 17 rfl
       have e18 := hall 18 rfl
       have e19 := hall 19 rfl
       have e20 := hall 20 rfl
       have e21 := hall 21 rfl
       have e22 := hall 22 rfl
       have e23 := hall 23 rfl
       have e24 := hall 24 rfl
       have e25 := hall 25 rfl
       replace hf := hf.more he 33 rfl (onP e25)
       replace hf := hf.more he 32 rfl (onP e24)
       replace hf := hf.more he 31 rfl (onP e23)
       replace hf := hf.more he 30 rfl (onP e22)
       replace hf := hf.more he 29 rfl (onP e21)
       replace hf := hf.more he 28 rfl (onP e20)
       replace hf := hf.more he 27 rfl (onP e19)
       replace hf := hf.more he 26 rfl (onP e18)
       replace hf := hf.more he 25 rfl (onP e17)
       replace hf := hf.more he 24 rfl (onP e16)
       replace hf := hf.more he 23 rfl (onP e15)
       replace hf := hf.more he 22 rfl (onP e14)
       replace hf := hf.more he 21 rfl (onP e13)
       replace hf := hf.more he 7 rfl (onT)
       replace hf := hf.more he 5 rfl (onT)
       replace hf := hf.more he 4 rfl (onT)
       replace hf := hf.more he 3 rfl (onT)
       replace hf := hf.more he 2 rfl (onT)
       replace hf := hf.more he 1 rfl (onT)
       replace hf := hf.more he 0 rfl (onT)
       exact ⟨hf.keep ⟨rfl,rfl,rfl,rfl,rfl,rfl,rfl,rfl,rfl,rfl,rfl,rfl,rfl,rfl,rfl,rfl,rfl,rfl,rfl,rfl,trivial⟩,hc⟩
      rintro a w ⟨hf,hc⟩
      refine xThenN ?_
      obtain rfl := Option.some.inj hF
      replace hc := hc.drop k0
      exact ⟨hf.keep ⟨rfl,rfl,rfl,rfl,rfl,rfl,rfl,rfl,trivial⟩,hc⟩
    rintro a w ⟨hf,hc⟩
    refine h15 _ _ ?_
    refine rCond (b := rg) hf rfl (fun hb => ?_) (fun hb => ?_)
    ·replace hF := condT hb hF
     clear hb
     refine rSeq fun K16 h16 => rReg (fun _ _ h => h) rfl ?_
     refine stSt (vs := [.int .i64 0]) hf hc rfl rfl rfl rfl sz_3 rfl rfl u3 fun w hc => stSt (vs := [.int .i64 7]) hf hc rfl rfl rfl rfl sz_28 rfl rfl u2 fun w hc => cNil ?_
     refine h16 _ _ ?_
     refine rRet ?_
     refine xThenR ?_
     refine xBlkR ?_
     refine xThenR ?_
     exact ⟨(7,x_1,x_2),_,(Option.some.inj hF).symm,rfl,hc⟩
    ·replace hF := condF hb hF
     clear hb
     refine rSkip ?_
     refine h14 _ _ ?_
     refine rSeq fun K17 h17 => ?_
     obtain ⟨e_3,he_3,hF⟩ := bnd_some hF
     obtain ⟨b_12,o_2,qa_2,qp_2⟩ := h_depths.atm he_3
     obtain ⟨e_4,he_4,hF⟩ := bnd_some hF
     obtain ⟨b_13,o_3,qa_3,qp_3⟩ := h_speeds.atm he_4
     refine rRegE (fun _ _ h => h) rfl (fun θ => [⟨none,none,4,.pointer (some ⟨b_2,0,none⟩)⟩,⟨none,none,5,.pointer (some ⟨b_3,0,none⟩)⟩,⟨none,none,6,.pointer (some ⟨b_4,0,none⟩)⟩,⟨none,none,7,.pointer (some ⟨b_5,0,none⟩)⟩,⟨none,none,9,.pointer (some ⟨b_6,0,none⟩)⟩,⟨none,none,10,.pointer (some ⟨b_7,0,none⟩)⟩,⟨none,none,12,.int .i64 xv_1⟩,⟨some 0,none,64,.int .i64 x_1⟩,⟨some 1,none,65,.int .i64 xv_1⟩,⟨some 2,none,66,.slice depths_p depths.length depths_c⟩,⟨some 3,none,67,.int .i64 x_2⟩,⟨some 4,none,68,.pointer (some ⟨b_12,o_2,none⟩)⟩,⟨some 5,none,69,.int .i64 e_3⟩,⟨some 6,none,70,.int .i64 (W (xv_1 * e_3))⟩,⟨some 7,none,71,.slice speeds_p speeds.length speeds_c⟩,⟨some 8,none,72,.int .i64 x_2⟩,⟨some 9,none,73,.pointer (some ⟨b_13,o_3,none⟩)⟩,⟨some 10,none,74,.int .i64 e_4⟩,⟨some 11,none,75,.int .i64 (W ((W (xv_1 * e_3)) * e_4))⟩,⟨some 12,none,76,.int .i64 (W (x_1 + (W ((W (xv_1 * e_3)) * e_4))))⟩]) (fun E θ => .box b_7 [.int .i64 x_2] 3::(bif E 13 then .box b_6 [.int .i64 (W (x_1 + (W ((W (xv_1 * e_3)) * e_4))))] 3 else .box b_6 [.int .i64 x_1] 3)::.box b_5 [.int .i64 x] 28::.box b_4 [.int .i64 0] 3::.box b_3 [.slice speeds_p speeds.length speeds_c] 61::.box b_2 [.slice depths_p depths.length depths_c] 61::Lb) [(13,0)] (fun a w => Has 80 a [(4,.pointer (some ⟨b_2,0,none⟩)),(5,.pointer (some ⟨b_3,0,none⟩)),(6,.pointer (some ⟨b_4,0,none⟩)),(7,.pointer (some ⟨b_5,0,none⟩)),(9,.pointer (some ⟨b_6,0,none⟩)),(10,.pointer (some ⟨b_7,0,none⟩))] ∧ Ctx G (.box b_7 [.int .i64 x_2] 3::.box b_6 [.int .i64 (W (x_1 + (W ((W (xv_1 * e_3)) * e_4))))] 3::.box b_5 [.int .i64 x] 28::.box b_4 [.int .i64 0] 3::.box b_3 [.slice speeds_p speeds.length speeds_c] 61::.box b_2 [.slice depths_p depths.length depths_c] 61::Lb) w) follows_mx (by kernel_rfl) (by kernel_rfl) (HasE.of hf ⟨rfl,rfl,rfl,rfl,rfl,rfl,rfl,trivial,trivial,trivial,trivial,trivial,trivial,trivial,trivial,trivial,trivial,trivial,trivial,trivial,trivial⟩) hc ⟨?_,?_,?_,?_,?_,?_,?_,?_,?_,?_,?_,?_,?_,?_,trivial⟩ ?_ ?_
     ·intro E θ a w hD hi hp he hc
      have e13 := hD.f 0 rfl hi
      try dsimp only at hc
      rw [e13] at hc
      have hf := he.h0
      replace hf := hf.more he 4 rfl onT
      refine stE hf hc rfl rfl rfl (eLd1 sc_3 rfl (cell_box m1 rfl)) fun a w hf hc => cNil ?_
      refine xThenN ?_
      intro ds u hau
      refine ⟨θ,he.put0 hi hau hf rfl 7 rfl rfl,?_⟩
      try dsimp only
      rw [updE_fls 0 e13 rfl]
      exact hc
     ·intro E θ a w hD hi hp he hc
      have hf := he.h0
      replace hf := hf.more he 6 rfl onT
      refine stP hf rfl rfl rfl (pM rfl) fun a hf => cNil ?_
      refine xThenN ?_
      intro ds u hau
      refine ⟨θ,he.put0 hi hau hf rfl 8 rfl rfl,?_⟩
      exact hc
     ·intro E θ a w hD hi hp he hc
      have hf := he.h0
      replace hf := hf.more he 0 rfl onT
      refine stE hf hc rfl rfl rfl (eLd1 sc_61 rfl (cell_box m5 rfl)) fun a w hf hc => cNil ?_
      refine xThenN ?_
      intro ds u hau
      refine ⟨θ,he.put0 hi hau hf rfl 9 rfl rfl,?_⟩
      exact hc
     ·intro E θ a w hD hi hp he hc
      have hf := he.h0
      replace hf := hf.more he 5 rfl onT
      refine stE hf hc rfl rfl rfl (eLd1 sc_3 rfl (cell_box m0 rfl)) fun a w hf hc => cNil ?_
      refine xThenN ?_
      intro ds u hau
      refine ⟨θ,he.put0 hi hau hf rfl 10 rfl rfl,?_⟩
      exact hc
     ·intro E θ a w hD hi hp he hc
      have e2 := hp.of (k := 2) rfl
      have e3 := hp.of (k := 3) rfl
      have hf := he.h0
      replace hf := hf.more he 9 rfl (onP e2)
      replace hf := hf.more he 10 rfl (onP e3)
      refine stP hf rfl rfl rfl (pIA Try.underlying61 sz_3 rfl rfl qa_2) fun a hf => cNil ?_
      refine xThenN ?_
      intro ds u hau
      refine ⟨θ,he.put0 hi hau hf rfl 11 rfl rfl,?_⟩
      exact hc
     ·intro E θ a w hD hi hp he hc
      have e4 := hp.of (k := 4) rfl
      have hf := he.h0
      replace hf := hf.more he 11 rfl (onP e4)
      refine stE hf hc rfl rfl rfl (eLd1 sc_3 rfl (cell_pc (j := 0) qp_2 rfl)) fun a w hf hc => cNil ?_
      refine xThenN ?_
      intro ds u hau
      refine ⟨θ,he.put0 hi hau hf rfl 12 rfl rfl,?_⟩
      exact hc
     ·intro E θ a w hD hi hp he hc
      have e1 := hp.of (k := 1) rfl
      have e5 := hp.of (k := 5) rfl
      have hf := he.h0
      replace hf := hf.more he 8 rfl (onP e1)
      replace hf := hf.more he 12 rfl (onP e5)
      refine stP hf rfl rfl rfl (pMul rfl rfl) fun a hf => cNil ?_
      refine xThenN ?_
      intro ds u hau
      refine ⟨θ,he.put0 hi hau hf rfl 13 rfl rfl,?_⟩
      exact hc
     ·intro E θ a w hD hi hp he hc
      have hf := he.h0
      replace hf := hf.more he 1 rfl onT
      refine stE hf hc rfl rfl rfl (eLd1 sc_61 rfl (cell_box m4 rfl)) fun a w hf hc => cNil ?_
      refine xThenN ?_
      intro ds u hau
      refine ⟨θ,he.put0 hi hau hf rfl 14 rfl rfl,?_⟩
      exact hc
     ·intro E θ a w hD hi hp he hc
      have hf := he.h0
      replace hf := hf.more he 5 rfl onT
      refine stE hf hc rfl rfl rfl (eLd1 sc_3 rfl (cell_box m0 rfl)) fun a w hf hc => cNil ?_
      refine xThenN ?_
      intro ds u hau
      refine ⟨θ,he.put0 hi hau hf rfl 15 rfl rfl,?_⟩
      exact hc
     ·intro E θ a w hD hi hp he hc
      have e7 := hp.of (k := 7) rfl
      have e8 := hp.of (k := 8) rfl
      have hf := he.h0
      replace hf := hf.more he 14 rfl (onP e7)
      replace hf := hf.more he 15 rfl (onP e8)
      refine stP hf rfl rfl rfl (pIA Try.underlying61 sz_3 rfl rfl qa_3) fun a hf => cNil ?_
      refine xThenN ?_
      intro ds u hau
      refine ⟨θ,he.put0 hi hau hf rfl 16 rfl rfl,?_⟩
      exact hc
     ·intro E θ a w hD hi hp he hc
      have e9 := hp.of (k := 9) rfl
      have hf := he.h0
      replace hf := hf.more he 16 rfl (onP e9)
      refine stE hf hc rfl rfl rfl (eLd1 sc_3 rfl (cell_pc (j := 0) qp_3 rfl)) fun a w hf hc => cNil ?_
      refine xThenN ?_
      intro ds u hau
      refine ⟨θ,he.put0 hi hau hf rfl 17 rfl rfl,?_⟩
      exact hc
     ·intro E θ a w hD hi hp he hc
      have e6 := hp.of (k := 6) rfl
      have e10 := hp.of (k := 10) rfl
      have hf := he.h0
      replace hf := hf.more he 13 rfl (onP e6)
      replace hf := hf.more he 17 rfl (onP e10)
      refine stP hf rfl rfl rfl (pMul rfl rfl) fun a hf => cNil ?_
      refine xThenN ?_
      intro ds u hau
      refine ⟨θ,he.put0 hi hau hf rfl 18 rfl rfl,?_⟩
      exact hc
     ·intro E θ a w hD hi hp he hc
      have e0 := hp.of (k := 0) rfl
      have e11 := hp.of (k := 11) rfl
      have hf := he.h0
      replace hf := hf.more he 7 rfl (onP e0)
      replace hf := hf.more he 18 rfl (onP e11)
      refine stP hf rfl rfl rfl (pAdd rfl rfl) fun a hf => cNil ?_
      refine xThenN ?_
      intro ds u hau
      refine ⟨θ,he.put0 hi hau hf rfl 19 rfl rfl,?_⟩
      exact hc
     ·intro E θ a w hD hi hp he hc
      have e12 := hp.of (k := 12) rfl
      try dsimp only at hc
      rw [hi] at hc
      have hf := he.h0
      replace hf := hf.more he 4 rfl onT
      replace hf := hf.more he 19 rfl (onP e12)
      refine stSt (vs := [.int .i64 (W (x_1 + (W ((W (xv_1 * e_3)) * e_4))))]) hf hc rfl rfl rfl rfl sz_3 rfl rfl u1 fun w hc => cNil ?_
      refine xThenN ?_
      intro ds u hau
      refine ⟨θ,he.stay0 hi hau hf rfl,?_⟩
      try dsimp only
      rw [updE_self E 13]
      exact hc
     ·intro E θ a w hall he hc
      have hf := he.h0
      have e13 := hall 13 rfl
      replace hf := hf.more he 5 rfl (onT)
      replace hf := hf.more he 4 rfl (onT)
      replace hf := hf.more he 3 rfl (onT)
      replace hf := hf.more he 2 rfl (onT)
      replace hf := hf.more he 1 rfl (onT)
      replace hf := hf.more he 0 rfl (onT)
      try dsimp only at hc
      rw [e13] at hc
      exact ⟨hf.keep ⟨rfl,rfl,rfl,rfl,rfl,rfl,trivial⟩,hc⟩
     rintro a w ⟨hf,hc⟩
     refine h17 _ _ ?_
     refine rReg (fun _ _ h => h) rfl ?_
     refine stE hf hc rfl rfl rfl (eLd1 sc_3 rfl (cell_box m0 rfl)) fun a w hf hc => stP hf rfl rfl rfl (pAdd rfl rfl) fun a hf => stSt (vs := [.int .i64 (W (x_2 + 1))]) hf hc rfl rfl rfl rfl sz_3 rfl rfl u0 fun w hc => cNil ?_
     refine h13 _ _ ?_
     exact ⟨(x,W (x_1 + (W ((W (xv_1 * e_3)) * e_4))),W (x_2 + 1)),_,(Option.some.inj hF).symm,rfl,hc⟩
   ·rintro D_1 ⟨x,x_1,x_2⟩ _ a w hsF rfl hf hc
    replace hf : Has ⟨80,markL (D_1::[])⟩ a [(4,.pointer (some ⟨b_2,0,none⟩)),(5,.pointer (some ⟨b_3,0,none⟩)),(6,.pointer (some ⟨b_4,0,none⟩)),(7,.pointer (some ⟨b_5,0,none⟩)),(9,.pointer (some ⟨b_6,0,none⟩)),(10,.pointer (some ⟨b_7,0,none⟩))] := hf.keep ⟨rfl,rfl,rfl,rfl,rfl,rfl,trivial⟩
    replace hc : Ctx G (.box b_8 [.int .i64 r_1.1,.int .i64 r_1.2,.slice g_Verticals_p g.Verticals.length g_Verticals_c] 102::.box b_7 [.int .i64 x_2] 3::.box b_6 [.int .i64 x_1] 3::.box b_5 [.int .i64 x] 28::.box b_4 [.int .i64 0] 3::.box b_3 [.slice speeds_p speeds.length speeds_c] 61::.box b_2 [.slice depths_p depths.length depths_c] 61::(raws (D_1::[]) ++ Lf)) w := rawsIn (C := [.box b_8 [.int .i64 r_1.1,.int .i64 r_1.2,.slice g_Verticals_p g.Verticals.length g_Verticals_c] 102]) (L := [.box b_7 [.int .i64 x_2] 3,.box b_6 [.int .i64 x_1] 3,.box b_5 [.int .i64 x] 28,.box b_4 [.int .i64 0] 3,.box b_3 [.slice speeds_p speeds.length speeds_c] 61,.box b_2 [.slice depths_p depths.length depths_c] 61]) hc
    replace hF : (some (x_1,0)) = some res := by rcases hsF with rfl | rfl <;> exact hF
    refine h9 _ _ ?_
    refine wp_seq_k fun K18 h18 => cReg ?_
    refine stE hf hc rfl rfl rfl (eLd1 sc_3 rfl (cell_box m2 rfl)) fun a w hf hc => stSt (vs := [.int .i64 x_1]) hf hc rfl rfl rfl rfl sz_3 rfl rfl u4 fun w hc => stSt (vs := [.int .i64 0]) hf hc rfl rfl rfl rfl sz_28 rfl rfl u3 fun w hc => cNil ?_
    refine h18 _ _ ?_
    refine wp_ret ?_
    obtain rfl := Option.some.inj hF
    replace hc := hc.drop k6
    replace hc := hc.drop k5
    replace hc := hc.drop k2
    replace hc := hc.drop k1
    replace hc := hc.drop k0
    replace hc := hc.pick k0
    replace hc := hc.pick k1
    refine outM hf ?_
    refine outML [.box b_4 [.int .i64 x_1] 3,.box b_5 [.int .i64 0] 28] (D_1::[]) hc fun w hc => ?_
    replace hc : Ctx G (.box b_4 [.int .i64 x_1] 3::.box b_5 [.int .i64 0] 28::Lf) w := hc
    exact outM2 Try.results51 hf hc (rv_cell1 sc_3 rfl (cell_box m0 rfl)) (rv_cell1 sc_28 rfl (cell_box m1 rfl)) ⟨rfl,((hc.drop k1).drop k0)⟩
   ·rintro D_1 ⟨x,x_1,x_2⟩ _ a w hsF rfl hf hc
    replace hf : Has ⟨80,markL (D_1::[])⟩ a [(4,.pointer (some ⟨b_2,0,none⟩)),(5,.pointer (some ⟨b_3,0,none⟩)),(6,.pointer (some ⟨b_4,0,none⟩)),(7,.pointer (some ⟨b_5,0,none⟩)),(9,.pointer (some ⟨b_6,0,none⟩)),(10,.pointer (some ⟨b_7,0,none⟩))] := hf.keep ⟨rfl,rfl,rfl,rfl,rfl,rfl,trivial⟩
    replace hc : Ctx G (.box b_8 [.int .i64 r_1.1,.int .i64 r_1.2,.slice g_Verticals_p g.Verticals.length g_Verticals_c] 102::.box b_7 [.int .i64 x_2] 3::.box b_6 [.int .i64 x_1] 3::.box b_5 [.int .i64 x] 28::.box b_4 [.int .i64 0] 3::.box b_3 [.slice speeds_p speeds.length speeds_c] 61::.box b_2 [.slice depths_p depths.length depths_c] 61::(raws (D_1::[]) ++ Lf)) w := rawsIn (C := [.box b_8 [.int .i64 r_1.1,.int .i64 r_1.2,.slice g_Verticals_p g.Verticals.length g_Verticals_c] 102]) (L := [.box b_7 [.int .i64 x_2] 3,.box b_6 [.int .i64 x_1] 3,.box b_5 [.int .i64 x] 28,.box b_4 [.int .i64 0] 3,.box b_3 [.slice speeds_p speeds.length speeds_c] 61,.box b_2 [.slice depths_p depths.length depths_c] 61]) hc
    replace hF : (some (0,x)) = some res := by subst hsF; exact hF
    refine xThenR ?_
    obtain rfl := Option.some.inj hF
    replace hc := hc.drop k6
    replace hc := hc.drop k5
    replace hc := hc.drop k2
    replace hc := hc.drop k1
    replace hc := hc.drop k0
    replace hc := hc.pick k0
    replace hc := hc.pick k1
    refine outM hf ?_
    refine outML [.box b_4 [.int .i64 0] 3,.box b_5 [.int .i64 x] 28] (D_1::[]) hc fun w hc => ?_
    replace hc : Ctx G (.box b_4 [.int .i64 0] 3::.box b_5 [.int .i64 x] 28::Lf) w := hc
    exact outM2 Try.results51 hf hc (rv_cell1 sc_3 rfl (cell_box m0 rfl)) (rv_cell1 sc_28 rfl (cell_box m1 rfl)) ⟨rfl,((hc.drop k1).drop k0)⟩

def gauge_just (N : Nat) (n : Int) : Option (api_Span) :=
 some (⟨n,n⟩ : api_Span)
theorem gauge_just_ok {N : Nat} {G : Pers} {Lf : List Ent} {w : World} (n : Int)   (hc : Ctx G (Lf) w) {res : api_Span} (hF : gauge_just N n = some res) : Calls Try.prog 129 #[.int .i64 n] w (fun e w => e = .returned (.agg #[.int .i64 res.Lo,.int .i64 res.Hi]) ∧ Ctx G (Lf) w) := by
 unfold gauge_just at hF
 refine fnIn (args := [.int .i64 n]) Try.func129 rfl Try.ntmps129 rfl fun a hf => wp_seq_k fun K1 h1 => cReg ?_
 refine stAl (cs := [.int .i64 0,.int .i64 0]) hf hc rfl rfl zr_50 rfl fun b_1 a w hf hc => cNil ?_
 refine h1 _ _ ?_
 refine wp_seq_k fun K2 h2 => cReg ?_
 refine stP hf rfl rfl rfl (pM rfl) fun a hf => stP hf rfl rfl rfl (pM rfl) fun a hf => stP hf rfl rfl rfl (pBuildS (cells := [.int .i64 n,.int .i64 n]) bt_50 rfl rfl) fun a hf => stSt (vs := [.int .i64 n,.int .i64 n]) hf hc rfl rfl rfl rfl sz_50 rfl rfl u0 fun w hc => cNil ?_
 refine h2 _ _ ?_
 refine wp_ret ?_
 obtain rfl := Option.some.inj hF
 exact fnOut1 (by simp) rfl Try.results129 hf hc (rv_cellN (vs := [.int .i64 n,.int .i64 n]) ag_50 rfl rfl (cells_box (n := 2) m0 rfl)) ⟨rfl,(hc.drop k0)⟩

def gauge_times_b5 (N : Nat) (l : List api_Span) (x : Int) (x_1 : Int) (x_2 : Int) : Option (Step (Int × Int × Int) (api_Span)) :=
 cond (decide (x < ((l.length : Nat) : Int)))
 (Option.bind (getI l x) fun e_1 =>
 some (.cont (W (x + 1),min (min (min (W (x_1 * e_1.Lo)) (W (x_1 * e_1.Hi))) (W (x_2 * e_1.Lo))) (W (x_2 * e_1.Hi)),max (max (max (W (x_1 * e_1.Lo)) (W (x_1 * e_1.Hi))) (W (x_2 * e_1.Lo))) (W (x_2 * e_1.Hi)))))
 (some (.brk (x,x_1,x_2)))
def gauge_times (N : Nat) (l : List api_Span) : Option (api_Span) :=
 Option.bind (loopO (fun s5 => gauge_times_b5 N l s5.1 s5.2.1 s5.2.2) N (0,1,1)) fun x5 =>
 exK x5 (fun s5 => some (⟨s5.2.1,s5.2.2⟩ : api_Span)) some
theorem gauge_times_ok {N : Nat} {G : Pers} {Lf : List Ent} {w : World} (l : List api_Span) {l_p : Option Addr} {l_c : Nat} (h_l : Rd G 2 l_p l_c (l.map enc_api_Span)) (hc : Ctx G (Lf) w) {res : api_Span} (hF : gauge_times N l = some res) : Calls Try.prog 128 #[.slice l_p l.length l_c] w (fun e w => e = .returned (.agg #[.int .i64 res.Lo,.int .i64 res.Hi]) ∧ Ctx G (Lf) w) := by
 unfold gauge_times at hF
 refine fnIn (args := [.slice l_p l.length l_c]) Try.func128 rfl Try.ntmps128 rfl fun a hf => wp_seq_k fun K1 h1 => cReg ?_
 refine stAl (cs := [.int .i64 0,.int .i64 0]) hf hc rfl rfl zr_50 rfl fun b_1 a w hf hc => cNil ?_
 refine h1 _ _ ?_
 refine wp_seq_k fun K2 h2 => cReg ?_
 refine stP hf rfl rfl rfl (pBuildS (cells := [.int .i64 1,.int .i64 1]) bt_50 rfl rfl) fun a hf => stAl (cs := [.int .i64 0,.int .i64 0]) hf hc rfl rfl zr_50 rfl fun b_2 a w hf hc => stSt (vs := [.int .i64 1,.int .i64 1]) hf hc rfl rfl rfl rfl sz_50 rfl rfl u0 fun w hc => cNil ?_
 refine h2 _ _ ?_
 refine wp_seq_k fun K3 h3 => wp_seq_k fun K4 h4 => cReg ?_
 refine stP hf rfl rfl rfl (pM rfl) fun a hf => stP hf rfl rfl rfl (pLenS Try.underlying44 rfl) fun a hf => stP hf rfl rfl rfl (pM rfl) fun a hf => cNil ?_
 refine h4 _ _ ?_
 refine wp_block ?_
 obtain ⟨x5,hx5,hF⟩ := bnd_some hF
 let S5 : (Int × Int × Int) → Act → World → Prop := (fun (zz : Int × Int × Int) a w => Has 50 a [(2,.pointer (some ⟨b_1,0,none⟩)),(3,.pointer (some ⟨b_2,0,none⟩)),(11,.slice l_p l.length l_c),(12,.int .i64 ((l.length : Nat) : Int)),(13,.int .i64 zz.1)] ∧ Ctx G (.box b_2 [.int .i64 zz.2.1,.int .i64 zz.2.2] 50::.box b_1 [.int .i64 0,.int .i64 0] 50::Lf) w)
 have hr5 : ∀ (zz : Int × Int × Int) a w,x5 = .go zz → S5 zz a w → K3 a w := by
  rintro ⟨x,x_1,x_2⟩ a w rfl ⟨hf,hc⟩
  replace hF := exK_go hF
  refine h3 _ _ ?_
  refine wp_seq_k fun K6 h6 => cReg ?_
  refine stE hf hc rfl rfl rfl (eLdN (vs := [.int .i64 x_1,.int .i64 x_2]) ag_50 rfl rfl (cells_box (n := 2) m0 rfl)) fun a w hf hc => stSt (vs := [.int .i64 x_1,.int .i64 x_2]) hf hc rfl rfl rfl rfl sz_50 rfl rfl u1 fun w hc => cNil ?_
  refine h6 _ _ ?_
  refine wp_ret ?_
  obtain rfl := Option.some.inj hF
  replace hc := hc.drop k0
  exact fnOut1 (by simp) rfl Try.results128 hf hc (rv_cellN (vs := [.int .i64 x_1,.int .i64 x_2]) ag_50 rfl rfl (cells_box (n := 2) m0 rfl)) ⟨rfl,(hc.drop k0)⟩
 have ho5 : ∀ r,x5 = .out r → r = res := by
  rintro r rfl
  exact Option.some.inj hF
 refine cLoop N (loopW (S := S5) (x := x5) ?_ N (0,1,1) _ _ ⟨hf.keep ⟨rfl,rfl,rfl,rfl,rfl,trivial⟩,hc⟩ hx5)
 clear hF hf hc
 rintro ⟨x,x_1,x_2⟩ st5 a w KB5 ⟨hf,hc⟩ hF hfin5 hK5
 unfold gauge_times_b5 at hF
 refine wp_seq_k fun K7 h7 => cReg ?_
 refine stP hf rfl rfl rfl (pLt rfl rfl) fun a hf => cNil ?_
 refine h7 _ _ ?_
 refine wp_seq_k fun K8 h8 => cCond (b := (decide (x < ((l.length : Nat) : Int)))) hf rfl (fun hb => ?_) (fun hb => ?_)
 ·replace hF := condT hb hF
  clear hb
  refine wp_skip ?_
  refine h8 _ _ ?_
  refine wp_seq_k fun K9 h9 => wp_block ?_
  refine wp_seq_k fun K10 h10 => cReg ?_
  obtain ⟨e_1,he_1,hF⟩ := bnd_some hF
  obtain ⟨b_3,o,qa,qp⟩ := h_l.atm he_1
  refine stP hf rfl rfl rfl (pIA Try.underlying44 sz_50 rfl rfl qa) fun a hf => stE hf hc rfl rfl rfl (eLdN (vs := [.int .i64 e_1.Lo,.int .i64 e_1.Hi]) ag_50 rfl rfl (cells_pc qp (n := 2) (o' := 0) rfl)) fun a w hf hc => stAl (cs := [.int .i64 0,.int .i64 0]) hf hc rfl rfl zr_50 rfl fun b_4 a w hf hc => stSt (vs := [.int .i64 e_1.Lo,.int .i64 e_1.Hi]) hf hc rfl rfl rfl rfl sz_50 rfl rfl u0 fun w hc => cNil ?_
  refine h10 _ _ ?_
  refine wp_seq_k fun K11 h11 => cQ hc follows_mx (by kernel_rfl) ?_
  refine qE hf rfl rfl rfl (Pu.ev (pFA fa_50_0 rfl)) fun a hf => qE hf rfl rfl rfl (eLd1 sc_3 rfl (cell_box m1 rfl)) fun a hf => qE hf rfl rfl rfl (Pu.ev (pFA fa_50_0 rfl)) fun a hf => qE hf rfl rfl rfl (eLd1 sc_3 rfl (cell_box m0 rfl)) fun a hf => qE hf rfl rfl rfl (Pu.ev (pMul rfl rfl)) fun a hf => qE hf rfl rfl rfl (Pu.ev (pFA fa_50_0 rfl)) fun a hf => qE hf rfl rfl rfl (eLd1 sc_3 rfl (cell_box m1 rfl)) fun a hf => qE hf rfl rfl rfl (Pu.ev (pFA fa_50_1 rfl)) fun a hf => qE hf rfl rfl rfl (eLd1 sc_3 rfl (cell_box m0 rfl)) fun a hf => qE hf rfl rfl rfl (Pu.ev (pMul rfl rfl)) fun a hf => qE hf rfl rfl rfl (Pu.ev (pFA fa_50_1 rfl)) fun a hf => qE hf rfl rfl rfl (eLd1 sc_3 rfl (cell_box m1 rfl)) fun a hf => qE hf rfl rfl rfl (Pu.ev (pFA fa_50_0 rfl)) fun a hf => ?_
  refine qE hf rfl rfl rfl (eLd1 sc_3 rfl (cell_box m0 rfl)) fun a hf => qE hf rfl rfl rfl (Pu.ev (pMul rfl rfl)) fun a hf => qE hf rfl rfl rfl (Pu.ev (pFA fa_50_1 rfl)) fun a hf => qE hf rfl rfl rfl (eLd1 sc_3 rfl (cell_box m1 rfl)) fun a hf => qE hf rfl rfl rfl (Pu.ev (pFA fa_50_1 rfl)) fun a hf => qE hf rfl rfl rfl (eLd1 sc_3 rfl (cell_box m0 rfl)) fun a hf => qE hf rfl rfl rfl (Pu.ev (pMul rfl rfl)) fun a hf => qE hf rfl rfl rfl (Pu.ev (pA rfl)) fun a hf => qE hf rfl rfl rfl (Pu.ev (pA rfl)) fun a hf => qE hf rfl rfl rfl (Pu.ev (pA rfl)) fun a hf => qE hf rfl rfl rfl (Pu.ev (pA rfl)) fun a hf => ?_
  intro w hc
  refine h11 _ _ ?_
  refine cReg ?_
  refine stP hf rfl rfl rfl (pM rfl) fun a hf => stP hf rfl rfl rfl (pM rfl) fun a hf => stP hf rfl rfl rfl (pM rfl) fun a hf => stP hf rfl rfl rfl (pM rfl) fun a hf => stP hf rfl rfl rfl (pMin4 rfl rfl rfl rfl) fun a hf => stP hf rfl rfl rfl (pM rfl) fun a hf => stP hf rfl rfl rfl (pM rfl) fun a hf => stP hf rfl rfl rfl (pM rfl) fun a hf => stP hf rfl rfl rfl (pM rfl) fun a hf => stP hf rfl rfl rfl (pMax4 rfl rfl rfl rfl) fun a hf => stP hf rfl rfl rfl (pBuildS (cells := [.int .i64 (min (min (min (W (x_1 * e_1.Lo)) (W (x_1 * e_1.Hi))) (W (x_2 * e_1.Lo))) (W (x_2 * e_1.Hi))),.int .i64 (max (max (max (W (x_1 * e_1.Lo)) (W (x_1 * e_1.Hi))) (W (x_2 * e_1.Lo))) (W (x_2 * e_1.Hi)))]) bt_50 rfl rfl) fun a hf => stSt (vs := [.int .i64 (min (min (min (W (x_1 * e_1.Lo)) (W (x_1 * e_1.Hi))) (W (x_2 * e_1.Lo))) (W (x_2 * e_1.Hi))),.int .i64 (max (max (max (W (x_1 * e_1.Lo)) (W (x_1 * e_1.Hi))) (W (x_2 * e_1.Lo))) (W (x_2 * e_1.Hi)))]) hf hc rfl rfl rfl rfl sz_50 rfl rfl u1 fun w hc => cNil ?_
  refine h9 _ _ ?_
  refine cReg ?_
  refine stP hf rfl rfl rfl (pAdd rfl rfl) fun a hf => stP hf rfl rfl rfl (pM rfl) fun a hf => cNil ?_
  replace hc := hc.drop k0
  exact hK5 (W (x + 1),min (min (min (W (x_1 * e_1.Lo)) (W (x_1 * e_1.Hi))) (W (x_2 * e_1.Lo))) (W (x_2 * e_1.Hi)),max (max (max (W (x_1 * e_1.Lo)) (W (x_1 * e_1.Hi))) (W (x_2 * e_1.Lo))) (W (x_2 * e_1.Hi))) _ _ (Option.some.inj hF).symm ⟨hf.keep ⟨rfl,rfl,rfl,rfl,rfl,trivial⟩,hc⟩
 ·replace hF := condF hb hF
  clear hb
  refine wp_exit ?_
  refine xThen ?_
  refine xThen ?_
  have he := Option.some.inj hF
  rw [← he] at hfin5
  refine cHit ?_
  exact hr5 _ _ _ hfin5 ⟨hf.keep ⟨rfl,rfl,rfl,rfl,rfl,trivial⟩,hc⟩

def gauge_Panels_r9 (N : Nat) (x : List api_Span) (xv : gauge_Vertical) (xv_1 : Int) : Option (Rs ((List api_Span))) :=
 Option.bind (gauge_just N xv_1) fun r_2 =>
 Option.bind (gauge_times N ([r_2,xv.Depth,xv.Speed] : List api_Span)) fun r_3 =>
 Option.bind (room ((x ++ [r_3])).length) fun un =>
 some (.go (x ++ [r_3]))
def gauge_Panels (N : Nat) (g : gauge_Gauging) : Option ((List api_Span) × Int) :=
 Option.bind (gauge_Check N g) fun r =>
 cond (r != 0)
 (some (([] : List api_Span),r))
 (Option.bind (gauge_Gauging_widths N g) fun r_1 =>
 Option.bind (gauge_Gauging_widths_1 N (⟨r_1.1,r_1.2,g.Verticals⟩ : gauge_Gauging) (rY (fun (zz : (List api_Span)) (ix_ : (gauge_Vertical × Int)) => gauge_Panels_r9 N zz ix_.1 ix_.2)) (.go ([] : List api_Span))) fun x9 =>
 rsK x9 (fun zz9 => some (zz9,0)) (fun zz9 => none))
theorem gauge_Panels_ok {N : Nat} {G : Pers} {Lf : List Ent} {w : World} (g : gauge_Gauging) {g_Verticals_p : Option Addr} {g_Verticals_c : Nat} (h_g_Verticals : Rd G 5 g_Verticals_p g_Verticals_c (g.Verticals.map enc_gauge_Vertical)) (hc : Ctx G (Lf) w) {res : (List api_Span) × Int} (hF : gauge_Panels N g = some res) : Calls Try.prog 97 #[.agg #[.int .i64 g.Left,.int .i64 g.Right,.slice g_Verticals_p g.Verticals.length g_Verticals_c]] w (fun e w => ∃ (p'1 : Option Addr) (c'1 : Nat),e = .returned (.tuple #[.slice p'1 res.1.length c'1,.int .i64 res.2]) ∧ Ctx G (.row p'1 c'1 (res.1.map enc_api_Span) 50 2::Lf) w) := by
 unfold gauge_Panels at hF
 refine fnInM (args := [.agg #[.int .i64 g.Left,.int .i64 g.Right,.slice g_Verticals_p g.Verticals.length g_Verticals_c]]) Try.func97 rfl Try.ntmps97 rfl fun a hf => wp_seq_k fun K1 h1 => cReg ?_
 refine stBx (cs := [.int .i64 g.Left,.int .i64 g.Right,.slice g_Verticals_p g.Verticals.length g_Verticals_c]) hf hc rfl rfl rfl rfl fun b_1 a w hf hc => stP hf rfl rfl rfl (pA rfl) fun a hf => stP hf rfl rfl rfl (pA rfl) fun a hf => cNil ?_
 refine h1 _ _ ?_
 refine wp_seq_k fun K2 h2 => wp_seq_k fun K3 h3 => cReg ?_
 refine stE hf hc rfl rfl rfl (eLdN (vs := [.int .i64 g.Left,.int .i64 g.Right,.slice g_Verticals_p g.Verticals.length g_Verticals_c]) ag_102 rfl rfl (cells_box (n := 3) m0 rfl)) fun a w hf hc => ?_
 obtain ⟨r,hr,hF⟩ := bnd_some hF
 refine stE hf hc rfl rfl rfl (eC (v := .int .i64 r) (vs := [.agg #[.int .i64 g.Left,.int .i64 g.Right,.slice g_Verticals_p g.Verticals.length g_Verticals_c]]) (caps := []) en_94 rfl rfl rfl rfl (fun w hc => gauge_Check_ok g h_g_Verticals hc hr)) fun a w hf hc => stP hf rfl rfl rfl (pA rfl) fun a hf => cNil ?_
 refine h3 _ _ ?_
 refine wp_seq_k fun K4 h4 => cReg ?_
 refine stP hf rfl rfl rfl (pM rfl) fun a hf => stP hf rfl rfl rfl (pNe rfl rfl) fun a hf => cNil ?_
 refine h4 _ _ ?_
 refine cCond (b := (r != 0)) hf rfl (fun hb => ?_) (fun hb => ?_)
 ·replace hF := condT hb hF
  clear hb
  refine wp_seq_k fun K5 h5 => cReg ?_
  refine stP hf rfl rfl rfl (pM rfl) fun a hf => stP hf rfl rfl rfl (pA rfl) fun a hf => stP hf rfl rfl rfl (pA rfl) fun a hf => cNil ?_
  refine h5 _ _ ?_
  refine wp_ret ?_
  refine xThenR ?_
  obtain rfl := Option.some.inj hF
  replace hc := hc.nilRow 50 2
  replace hc := hc.drop k1
  refine outM hf ?_
  exact outM2 Try.results97 hf hc (show look _ 2 = _ from rfl) (show look _ 3 = _ from rfl) ⟨none,0,rfl,hc⟩
 ·replace hF := condF hb hF
  clear hb
  refine wp_skip ?_
  refine h2 _ _ ?_
  refine wp_seq_k fun K6 h6 => cReg ?_
  refine stAl (cs := [.slice none 0 0]) hf hc rfl rfl zr_44 rfl fun b_2 a w hf hc => cNil ?_
  refine h6 _ _ ?_
  refine wp_seq_k fun K7 h7 => wp_seq_k fun K8 h8 => cReg ?_
  refine stE hf hc rfl rfl rfl (eLdN (vs := [.int .i64 g.Left,.int .i64 g.Right,.slice g_Verticals_p g.Verticals.length g_Verticals_c]) ag_102 rfl rfl (cells_box (n := 3) m1 rfl)) fun a w hf hc => ?_
  obtain ⟨r_1,hr_1,hF⟩ := bnd_some hF
  refine stC (vs := [.agg #[.int .i64 g.Left,.int .i64 g.Right,.slice g_Verticals_p g.Verticals.length g_Verticals_c]]) (caps := []) hf rfl rfl rfl en_95 rfl rfl rfl rfl (gauge_Gauging_widths_ok g h_g_Verticals hc hr_1) ?_
  rintro _ w ⟨b_3,rfl,hc⟩
  refine ⟨_,rfl,fun a hf => ?_⟩
  refine cNil ?_
  refine h8 _ _ ?_
  obtain ⟨x9,hx9,hF⟩ := bnd_some hF
  replace hc := hc.nilRow 50 2
  replace hc := hc.drop k3
  replace hc := hc.pick k0
  replace hc := hc.pick k1
  refine cRange (C := [.box b_3 [.int .i64 r_1.1,.int .i64 r_1.2,.slice g_Verticals_p g.Verticals.length g_Verticals_c] 102]) (C2 := [.box b_3 [.int .i64 r_1.1,.int .i64 r_1.2,.slice g_Verticals_p g.Verticals.length g_Verticals_c] 102]) (L0 := [.row none 0 ((([] : List api_Span)).map enc_api_Span) 50 2,.box b_2 [.slice none (([] : List api_Span)).length 0] 44]) (Lf := Lf) (encs := fun x : (gauge_Vertical × Int) => [.agg #[.int .i64 x.1.At,.int .i64 x.1.Depth.Lo,.int .i64 x.1.Depth.Hi,.int .i64 x.1.Speed.Lo,.int .i64 x.1.Speed.Hi],.int .i64 x.2]) (fun (zz : (List api_Span)) L => ∃ (p_1 : Option Addr) (c_1 : Nat),L = [.row p_1 c_1 (zz.map enc_api_Span) 50 2,.box b_2 [.slice p_1 zz.length c_1] 44]) (fun (zz : (List api_Span)) (ix_ : (gauge_Vertical × Int)) => gauge_Panels_r9 N zz ix_.1 ix_.2) ([] : List api_Span) x9 hf hc rfl en_127 (fun _ => rfl) rfl ⟨none,0,rfl⟩ ?_ ?_ ?_ ?_
  ·intro lq mq J L Lx w hy hJ hc
   exact gauge_Gauging_widths_1_ok (⟨r_1.1,r_1.2,g.Verticals⟩ : gauge_Gauging) h_g_Verticals J _ hy _ hJ hc hx9
  ·clear hF hf hc
   rintro lq mq x ⟨xv,xv_1⟩ oq _ Lr Lb a w hK0 ⟨p_1,c_1,rfl⟩ hF hf hc hK
   replace hf : Has 29 a [(5,.pointer (some ⟨b_2,0,none⟩)),(15,.agg #[.int .i64 xv.At,.int .i64 xv.Depth.Lo,.int .i64 xv.Depth.Hi,.int .i64 xv.Speed.Lo,.int .i64 xv.Speed.Hi]),(16,.int .i64 xv_1)] := hf.keep ⟨rfl,rfl,rfl,trivial⟩
   replace hc : Ctx G (.row p_1 c_1 (x.map enc_api_Span) 50 2::.box b_2 [.slice p_1 x.length c_1] 44::Lr) w := hc
   replace hF : gauge_Panels_r9 N x xv xv_1 = some oq := hF
   unfold gauge_Panels_r9 at hF
   refine rSeq fun K10 h10 => rReg (fun _ _ h => h) rfl ?_
   refine stAl (cs := [.int .i64 0,.int .i64 0,.int .i64 0,.int .i64 0,.int .i64 0]) hf hc rfl rfl zr_107 rfl fun b_4 a w hf hc => stSt (vs := [.int .i64 xv.At,.int .i64 xv.Depth.Lo,.int .i64 xv.Depth.Hi,.int .i64 xv.Speed.Lo,.int .i64 xv.Speed.Hi]) hf hc rfl rfl rfl rfl sz_107 rfl rfl u0 fun w hc => cNil ?_
   refine h10 _ _ ?_
   refine rReg (fun _ _ h => h) rfl ?_
   refine stP hf rfl rfl rfl (pA rfl) fun a hf => cNil ?_
   refine hK _ _ [.box b_4 [.int .i64 xv.At,.int .i64 xv.Depth.Lo,.int .i64 xv.Depth.Hi,.int .i64 xv.Speed.Lo,.int .i64 xv.Speed.Hi] 107,.row p_1 c_1 (x.map enc_api_Span) 50 2,.box b_2 [.slice p_1 x.length c_1] 44] hc fun w hc => ?_
   replace hc : Ctx G (.box b_4 [.int .i64 xv.At,.int .i64 xv.Depth.Lo,.int .i64 xv.Depth.Hi,.int .i64 xv.Speed.Lo,.int .i64 xv.Speed.Hi] 107::.row p_1 c_1 (x.map enc_api_Span) 50 2::.box b_2 [.slice p_1 x.length c_1] 44::Lb) w := hc
   refine rThenK fun K11 h11 => rBlock ?_
   obtain ⟨r_2,hr_2,hF⟩ := bnd_some hF
   obtain ⟨r_3,hr_3,hF⟩ := bnd_some hF
   obtain ⟨un,hun,hF⟩ := bnd_some hF
   replace hc := hc.nilRow 0 0
   replace hc := hc.nilRow 0 0
   refine rRegE (fun _ _ h => h) rfl (fun θ => [⟨none,none,5,.pointer (some ⟨b_2,0,none⟩)⟩,⟨none,none,6,.pointer (some ⟨b_4,0,none⟩)⟩,⟨none,none,7,.int .i64 xv_1⟩,⟨some 0,none,17,.slice p_1 x.length c_1⟩,⟨some 1,none,18,.int .i64 xv_1⟩,⟨some 2,none,19,.agg #[.int .i64 r_2.Lo,.int .i64 r_2.Hi]⟩,⟨some 3,none,20,.pointer (some ⟨b_4,1,none⟩)⟩,⟨some 4,none,21,.agg #[.int .i64 xv.Depth.Lo,.int .i64 xv.Depth.Hi]⟩,⟨some 5,none,22,.pointer (some ⟨b_4,3,none⟩)⟩,⟨some 6,none,23,.agg #[.int .i64 xv.Speed.Lo,.int .i64 xv.Speed.Hi]⟩,⟨some 7,none,24,.slice (some ⟨(θ 56).b,0,none⟩) 3 3⟩,⟨some 8,none,25,.agg #[.int .i64 r_3.Lo,.int .i64 r_3.Hi]⟩,⟨some 9,none,26,.slice (some ⟨(θ 72).b,0,none⟩) 1 1⟩,⟨some 10,none,27,.slice ((θ 80).p) ((x ++ [r_3]).length) ((θ 80).c)⟩]) (fun E θ => (bif E 9 then .row (some ⟨(θ 72).b,0,none⟩) 1 (([r_3] : List api_Span).map enc_api_Span) 50 2 else .row none 0 [] 0 0)::(bif E 7 then .row (some ⟨(θ 56).b,0,none⟩) 3 (([r_2,xv.Depth,xv.Speed] : List api_Span).map enc_api_Span) 50 2 else .row none 0 [] 0 0)::.box b_4 [.int .i64 xv.At,.int .i64 xv.Depth.Lo,.int .i64 xv.Depth.Hi,.int .i64 xv.Speed.Lo,.int .i64 xv.Speed.Hi] 107::(bif E 10 then .row ((θ 80).p) ((θ 80).c) ((x ++ [r_3]).map enc_api_Span) 50 2 else .row p_1 c_1 (x.map enc_api_Span) 50 2)::(bif E 11 then .box b_2 [.slice ((θ 80).p) ((x ++ [r_3]).length) ((θ 80).c)] 44 else .box b_2 [.slice p_1 x.length c_1] 44)::Lb) [(11,0),(11,10)] (fun a w => ∃ (b_7 : Nat) (b_8 : Nat) (p_3 : Option Addr) (c_3 : Nat),Has 29 a [(5,.pointer (some ⟨b_2,0,none⟩))] ∧ Ctx G (.row (some ⟨b_7,0,none⟩) 1 (([r_3] : List api_Span).map enc_api_Span) 50 2::.row (some ⟨b_8,0,none⟩) 3 (([r_2,xv.Depth,xv.Speed] : List api_Span).map enc_api_Span) 50 2::.box b_4 [.int .i64 xv.At,.int .i64 xv.Depth.Lo,.int .i64 xv.Depth.Hi,.int .i64 xv.Speed.Lo,.int .i64 xv.Speed.Hi] 107::.row p_3 c_3 ((x ++ [r_3]).map enc_api_Span) 50 2::.box b_2 [.slice p_3 ((x ++ [r_3]).length) c_3] 44::Lb) w) follows_mx (by kernel_rfl) (by kernel_rfl) (HasE.of hf ⟨rfl,rfl,rfl,trivial,trivial,trivial,trivial,trivial,trivial,trivial,trivial,trivial,trivial,trivial,trivial⟩) hc ⟨?_,?_,?_,?_,?_,?_,?_,?_,?_,?_,?_,?_,trivial⟩ ?_ ?_
   ·intro E θ a w hD hi hp he hc
    have e11 := hD.f 0 rfl hi
    try dsimp only at hc
    rw [e11] at hc
    have hf := he.h0
    replace hf := hf.more he 0 rfl onT
    refine stE hf hc rfl rfl rfl (eLd1 sc_44 rfl (cell_box m4 rfl)) fun a w hf hc => cNil ?_
    refine xThenN ?_
    intro ds u hau
    refine ⟨θ,he.put0 hi hau hf rfl 3 rfl rfl,?_⟩
    try dsimp only
    rw [updE_fls 0 e11 rfl]
    exact hc
   ·intro E θ a w hD hi hp he hc
    have hf := he.h0
    replace hf := hf.more he 2 rfl onT
    refine stP hf rfl rfl rfl (pM rfl) fun a hf => cNil ?_
    refine xThenN ?_
    intro ds u hau
    refine ⟨θ,he.put0 hi hau hf rfl 4 rfl rfl,?_⟩
    exact hc
   ·intro E θ a w hD hi hp he hc
    have e1 := hp.of (k := 1) rfl
    have hf := he.h0
    replace hf := hf.more he 4 rfl (onP e1)
    refine stE hf hc rfl rfl rfl (eC (v := .agg #[.int .i64 r_2.Lo,.int .i64 r_2.Hi]) (vs := [.int .i64 xv_1]) (caps := []) en_129 rfl rfl rfl rfl (fun w hc => gauge_just_ok xv_1 hc hr_2)) fun a w hf hc => cNil ?_
    refine xThenN ?_
    intro ds u hau
    refine ⟨θ,he.put0 hi hau hf rfl 5 rfl rfl,?_⟩
    exact hc
   ·intro E θ a w hD hi hp he hc
    have hf := he.h0
    replace hf := hf.more he 1 rfl onT
    refine stP hf rfl rfl rfl (pFA fa_107_1 rfl) fun a hf => cNil ?_
    refine xThenN ?_
    intro ds u hau
    refine ⟨θ,he.put0 hi hau hf rfl 6 rfl rfl,?_⟩
    exact hc
   ·intro E θ a w hD hi hp he hc
    have e3 := hp.of (k := 3) rfl
    have hf := he.h0
    replace hf := hf.more he 6 rfl (onP e3)
    refine stE hf hc rfl rfl rfl (eLdN (vs := [.int .i64 xv.Depth.Lo,.int .i64 xv.Depth.Hi]) ag_50 rfl rfl (cells_box (n := 2) m2 rfl)) fun a w hf hc => cNil ?_
    refine xThenN ?_
    intro ds u hau
    refine ⟨θ,he.put0 hi hau hf rfl 7 rfl rfl,?_⟩
    exact hc
   ·intro E θ a w hD hi hp he hc
    have hf := he.h0
    replace hf := hf.more he 1 rfl onT
    refine stP hf rfl rfl rfl (pFA fa_107_2 rfl) fun a hf => cNil ?_
    refine xThenN ?_
    intro ds u hau
    refine ⟨θ,he.put0 hi hau hf rfl 8 rfl rfl,?_⟩
    exact hc
   ·intro E θ a w hD hi hp he hc
    have e5 := hp.of (k := 5) rfl
    have hf := he.h0
    replace hf := hf.more he 8 rfl (onP e5)
    refine stE hf hc rfl rfl rfl (eLdN (vs := [.int .i64 xv.Speed.Lo,.int .i64 xv.Speed.Hi]) ag_50 rfl rfl (cells_box (n := 2) m2 rfl)) fun a w hf hc => cNil ?_
    refine xThenN ?_
    intro ds u hau
    refine ⟨θ,he.put0 hi hau hf rfl 9 rfl rfl,?_⟩
    exact hc
   ·intro E θ a w hD hi hp he hc
    have e2 := hp.of (k := 2) rfl
    have e4 := hp.of (k := 4) rfl
    have e6 := hp.of (k := 6) rfl
    try dsimp only at hc
    rw [hi] at hc
    have hf := he.h0
    replace hf := hf.more he 5 rfl (onP e2)
    replace hf := hf.more he 7 rfl (onP e4)
    replace hf := hf.more he 9 rfl (onP e6)
    refine stBS (rows := ([r_2,xv.Depth,xv.Speed] : List api_Span).map enc_api_Span) (vs := [(0,.agg #[.int .i64 r_2.Lo,.int .i64 r_2.Hi]),(1,.agg #[.int .i64 xv.Depth.Lo,.int .i64 xv.Depth.Hi]),(2,.agg #[.int .i64 xv.Speed.Lo,.int .i64 xv.Speed.Hi])]) hf hc rfl rfl sl_44 rfl ⟨rfl,rfl,rfl,rfl,rfl,rfl,rfl,rfl,rfl,trivial⟩ rfl rfl fun b_5 a w hf hc => cNil ?_
    refine xThenN ?_
    intro ds u hau
    replace hc := hc.drop k2
    replace hc := hc.pick k0
    replace hc := hc.pick k1
    refine ⟨(setT θ 56 ⟨b_5,none,0⟩),he.put hi hau hf rfl [] trivial ⟨qq,qq,qq,qq,qq,qq,qq,qq,qq,qq,qq,qq,qq,qq,trivial⟩,?_⟩
    try dsimp only
    rw [updE_self E 7]
    exact hc
   ·intro E θ a w hD hi hp he hc
    have e7 := hp.of (k := 7) rfl
    try dsimp only at hc
    rw [e7] at hc
    have hf := he.h0
    replace hf := hf.more he 10 rfl (onP e7)
    refine stE hf hc rfl rfl rfl (eC (v := .agg #[.int .i64 r_3.Lo,.int .i64 r_3.Hi]) (vs := [.slice (some ⟨(θ 56).b,0,none⟩) 3 3]) (caps := []) en_128 rfl rfl rfl rfl (fun w hc => by obtain ⟨G1,hle1,hrd1,hc,hth1⟩ := lend hc k1; exact (gauge_times_ok ([r_2,xv.Depth,xv.Speed] : List api_Span) hrd1 hc hr_3).mono fun e w h => ⟨h.1,((hth1 _ _ h.2).unpick k1)⟩)) fun a w hf hc => cNil ?_
    refine xThenN ?_
    intro ds u hau
    refine ⟨θ,he.put0 hi hau hf rfl 11 rfl rfl,?_⟩
    try dsimp only
    rw [updE_tru 8 e7]
    exact hc
   ·intro E θ a w hD hi hp he hc
    have e8 := hp.of (k := 8) rfl
    try dsimp only at hc
    rw [hi] at hc
    have hf := he.h0
    replace hf := hf.more he 11 rfl (onP e8)
    refine stBS (rows := ([r_3] : List api_Span).map enc_api_Span) (vs := [(0,.agg #[.int .i64 r_3.Lo,.int .i64 r_3.Hi])]) hf hc rfl rfl sl_44 rfl ⟨rfl,rfl,rfl,trivial⟩ rfl rfl fun b_6 a w hf hc => cNil ?_
    refine xThenN ?_
    intro ds u hau
    replace hc := hc.drop k1
    refine ⟨(setT θ 72 ⟨b_6,none,0⟩),he.put hi hau hf rfl [] trivial ⟨qq,qq,qq,qq,qq,qq,qq,qq,qq,qq,qq,qq,qq,qq,trivial⟩,?_⟩
    try dsimp only
    rw [updE_self E 9]
    exact hc
   ·intro E θ a w hD hi hp he hc
    have e0 := hp.of (k := 0) rfl
    have e9 := hp.of (k := 9) rfl
    have e11 := hD.f 1 rfl hi
    try dsimp only at hc
    rw [e9,hi,e11] at hc
    have hf := he.h0
    replace hf := hf.more he 3 rfl (onP e0)
    replace hf := hf.more he 12 rfl (onP e9)
    refine stApm (xs := x) (ys := ([r_3] : List api_Span)) hf hc rfl rfl sl_44 rfl rfl rfl rfl rfl one_enc_api_Span (src_row hc m0) (fun _ _ => u3) (by simpa using room_spec hun) fun p_2 c_2 a w hf hc => cNil ?_
    refine xThenN ?_
    intro ds u hau
    refine ⟨(setT θ 80 ⟨0,p_2,c_2⟩),he.put hi hau hf rfl [] trivial ⟨qq,qq,qq,qq,qq,qq,qq,qq,qq,qq,qq,qq,qq,qq,trivial⟩,?_⟩
    try dsimp only
    rw [updE_tru 10 e9,updE_self E 10,updE_fls 10 e11 rfl]
    exact hc
   ·intro E θ a w hD hi hp he hc
    have e10 := hp.of (k := 10) rfl
    try dsimp only at hc
    rw [hi] at hc
    have hf := he.h0
    replace hf := hf.more he 0 rfl onT
    replace hf := hf.more he 13 rfl (onP e10)
    refine stSt (vs := [.slice ((θ 80).p) ((x ++ [r_3]).length) ((θ 80).c)]) hf hc rfl rfl rfl rfl sz_44 rfl rfl u4 fun w hc => cNil ?_
    refine xThenN ?_
    intro ds u hau
    refine ⟨θ,he.stay0 hi hau hf rfl,?_⟩
    try dsimp only
    rw [updE_self E 11]
    exact hc
   ·intro E θ a w hall he hc
    have hf := he.h0
    have e7 := hall 7 rfl
    have e9 := hall 9 rfl
    have e10 := hall 10 rfl
    have e11 := hall 11 rfl
    replace hf := hf.more he 0 rfl (onT)
    try dsimp only at hc
    rw [e7,e9,e10,e11] at hc
    exact ⟨(θ 72).b,(θ 56).b,(θ 80).p,(θ 80).c,hf.keep ⟨rfl,trivial⟩,hc⟩
   rintro a w ⟨b_7,b_8,p_3,c_3,hf,hc⟩
   refine h11 _ _ ?_
   replace hc := hc.drop k2
   replace hc := hc.drop k1
   replace hc := hc.drop k0
   exact ⟨(x ++ [r_3]),_,(Option.some.inj hF).symm,⟨p_3,c_3,rfl⟩,hc⟩
  ·rintro D_1 x _ a w hsF ⟨p_1,c_1,rfl⟩ hf hc
   replace hf : Has ⟨29,markL (D_1::[])⟩ a [(5,.pointer (some ⟨b_2,0,none⟩))] := hf.keep ⟨rfl,trivial⟩
   replace hc : Ctx G (.box b_3 [.int .i64 r_1.1,.int .i64 r_1.2,.slice g_Verticals_p g.Verticals.length g_Verticals_c] 102::.row p_1 c_1 (x.map enc_api_Span) 50 2::.box b_2 [.slice p_1 x.length c_1] 44::(raws (D_1::[]) ++ Lf)) w := rawsIn (C := [.box b_3 [.int .i64 r_1.1,.int .i64 r_1.2,.slice g_Verticals_p g.Verticals.length g_Verticals_c] 102]) (L := [.row p_1 c_1 (x.map enc_api_Span) 50 2,.box b_2 [.slice p_1 x.length c_1] 44]) hc
   replace hF : (some (x,0)) = some res := by rcases hsF with rfl | rfl <;> exact hF
   refine h7 _ _ ?_
   refine wp_seq_k fun K12 h12 => cReg ?_
   refine stE hf hc rfl rfl rfl (eLd1 sc_44 rfl (cell_box m2 rfl)) fun a w hf hc => stP hf rfl rfl rfl (pA rfl) fun a hf => stP hf rfl rfl rfl (pA rfl) fun a hf => cNil ?_
   refine h12 _ _ ?_
   refine wp_ret ?_
   obtain rfl := Option.some.inj hF
   replace hc := hc.drop k2
   replace hc := hc.drop k0
   refine outM hf ?_
   refine outML [.row p_1 c_1 (x.map enc_api_Span) 50 2] (D_1::[]) hc fun w hc => ?_
   replace hc : Ctx G (.row p_1 c_1 (x.map enc_api_Span) 50 2::Lf) w := hc
   exact outM2 Try.results97 hf hc (show look _ 2 = _ from rfl) (show look _ 3 = _ from rfl) ⟨p_1,c_1,rfl,hc⟩
  ·rintro D_1 x _ a w hsF ⟨p_1,c_1,rfl⟩ hf hc
   replace hf : Has ⟨29,markL (D_1::[])⟩ a [(5,.pointer (some ⟨b_2,0,none⟩))] := hf.keep ⟨rfl,trivial⟩
   replace hc : Ctx G (.box b_3 [.int .i64 r_1.1,.int .i64 r_1.2,.slice g_Verticals_p g.Verticals.length g_Verticals_c] 102::.row p_1 c_1 (x.map enc_api_Span) 50 2::.box b_2 [.slice p_1 x.length c_1] 44::(raws (D_1::[]) ++ Lf)) w := rawsIn (C := [.box b_3 [.int .i64 r_1.1,.int .i64 r_1.2,.slice g_Verticals_p g.Verticals.length g_Verticals_c] 102]) (L := [.row p_1 c_1 (x.map enc_api_Span) 50 2,.box b_2 [.slice p_1 x.length c_1] 44]) hc
   replace hF : (none) = some res := by subst hsF; exact hF
   cases hF

def gauge_plus (N : Nat) (a_ : api_Span) (b_ : api_Span) : Option (api_Span) :=
 some (⟨W (a_.Lo + b_.Lo),W (a_.Hi + b_.Hi)⟩ : api_Span)
theorem gauge_plus_ok {N : Nat} {G : Pers} {Lf : List Ent} {w : World} (a_ : api_Span) (b_ : api_Span)   (hc : Ctx G (Lf) w) {res : api_Span} (hF : gauge_plus N a_ b_ = some res) : Calls Try.prog 98 #[.agg #[.int .i64 a_.Lo,.int .i64 a_.Hi],.agg #[.int .i64 b_.Lo,.int .i64 b_.Hi]] w (fun e w => e = .returned (.agg #[.int .i64 res.Lo,.int .i64 res.Hi]) ∧ Ctx G (Lf) w) := by
 unfold gauge_plus at hF
 refine fnIn (args := [.agg #[.int .i64 a_.Lo,.int .i64 a_.Hi],.agg #[.int .i64 b_.Lo,.int .i64 b_.Hi]]) Try.func98 rfl Try.ntmps98 rfl fun a hf => wp_seq_k fun K1 h1 => cReg ?_
 refine stBx (cs := [.int .i64 a_.Lo,.int .i64 a_.Hi]) hf hc rfl rfl rfl rfl fun b_1 a w hf hc => stBx (cs := [.int .i64 b_.Lo,.int .i64 b_.Hi]) hf hc rfl rfl rfl rfl fun b_2 a w hf hc => stAl (cs := [.int .i64 0,.int .i64 0]) hf hc rfl rfl zr_50 rfl fun b_3 a w hf hc => cNil ?_
 refine h1 _ _ ?_
 refine wp_seq_k fun K2 h2 => cReg ?_
 refine stP hf rfl rfl rfl (pFA fa_50_0 rfl) fun a hf => stE hf hc rfl rfl rfl (eLd1 sc_3 rfl (cell_box m2 rfl)) fun a w hf hc => stP hf rfl rfl rfl (pFA fa_50_0 rfl) fun a hf => stE hf hc rfl rfl rfl (eLd1 sc_3 rfl (cell_box m1 rfl)) fun a w hf hc => stP hf rfl rfl rfl (pAdd rfl rfl) fun a hf => stP hf rfl rfl rfl (pFA fa_50_1 rfl) fun a hf => stE hf hc rfl rfl rfl (eLd1 sc_3 rfl (cell_box m2 rfl)) fun a w hf hc => stP hf rfl rfl rfl (pFA fa_50_1 rfl) fun a hf => stE hf hc rfl rfl rfl (eLd1 sc_3 rfl (cell_box m1 rfl)) fun a w hf hc => stP hf rfl rfl rfl (pAdd rfl rfl) fun a hf => stP hf rfl rfl rfl (pBuildS (cells := [.int .i64 (W (a_.Lo + b_.Lo)),.int .i64 (W (a_.Hi + b_.Hi))]) bt_50 rfl rfl) fun a hf => stSt (vs := [.int .i64 (W (a_.Lo + b_.Lo)),.int .i64 (W (a_.Hi + b_.Hi))]) hf hc rfl rfl rfl rfl sz_50 rfl rfl u0 fun w hc => cNil ?_
 refine h2 _ _ ?_
 refine wp_ret ?_
 obtain rfl := Option.some.inj hF
 replace hc := hc.drop k2
 replace hc := hc.drop k1
 exact fnOut1 (by simp) rfl Try.results98 hf hc (rv_cellN (vs := [.int .i64 (W (a_.Lo + b_.Lo)),.int .i64 (W (a_.Hi + b_.Hi))]) ag_50 rfl rfl (cells_box (n := 2) m0 rfl)) ⟨rfl,(hc.drop k0)⟩

def gauge_Flow_b6 (N : Nat) (r : (List api_Span) × Int) (x : Int) (x_1 : Int) (x_2 : Int) : Option (Step (Int × Int × Int) (api_Span × Int)) :=
 cond (decide (x < ((r.1.length : Nat) : Int)))
 (Option.bind (getI r.1 x) fun e_1 =>
 Option.bind (gauge_plus N (⟨x_1,x_2⟩ : api_Span) e_1) fun r_1 =>
 some (.cont (W (x + 1),r_1.Lo,r_1.Hi)))
 (some (.brk (x,x_1,x_2)))
def gauge_Flow (N : Nat) (g : gauge_Gauging) : Option (api_Span × Int) :=
 Option.bind (gauge_Panels N g) fun r =>
 Option.bind (loopO (fun s6 => gauge_Flow_b6 N r s6.1 s6.2.1 s6.2.2) N (0,0,0)) fun x6 =>
 exK x6 (fun s6 => some ((⟨s6.2.1,s6.2.2⟩ : api_Span),r.2)) some
theorem gauge_Flow_ok {N : Nat} {G : Pers} {Lf : List Ent} {w : World} (g : gauge_Gauging) {g_Verticals_p : Option Addr} {g_Verticals_c : Nat} (h_g_Verticals : Rd G 5 g_Verticals_p g_Verticals_c (g.Verticals.map enc_gauge_Vertical)) (hc : Ctx G (Lf) w) {res : api_Span × Int} (hF : gauge_Flow N g = some res) : Calls Try.prog 52 #[.agg #[.int .i64 g.Left,.int .i64 g.Right,.slice g_Verticals_p g.Verticals.length g_Verticals_c]] w (fun e w => e = .returned (.tuple #[.agg #[.int .i64 res.1.Lo,.int .i64 res.1.Hi],.int .i64 res.2]) ∧ Ctx G (Lf) w) := by
 unfold gauge_Flow at hF
 refine fnIn (args := [.agg #[.int .i64 g.Left,.int .i64 g.Right,.slice g_Verticals_p g.Verticals.length g_Verticals_c]]) Try.func52 rfl Try.ntmps52 rfl fun a hf => wp_seq_k fun K1 h1 => cReg ?_
 refine stBx (cs := [.int .i64 g.Left,.int .i64 g.Right,.slice g_Verticals_p g.Verticals.length g_Verticals_c]) hf hc rfl rfl rfl rfl fun b_1 a w hf hc => stAl (cs := [.int .i64 0,.int .i64 0]) hf hc rfl rfl zr_50 rfl fun b_2 a w hf hc => stP hf rfl rfl rfl (pA rfl) fun a hf => cNil ?_
 refine h1 _ _ ?_
 refine wp_seq_k fun K2 h2 => cReg ?_
 refine stE hf hc rfl rfl rfl (eLdN (vs := [.int .i64 g.Left,.int .i64 g.Right,.slice g_Verticals_p g.Verticals.length g_Verticals_c]) ag_102 rfl rfl (cells_box (n := 3) m1 rfl)) fun a w hf hc => ?_
 obtain ⟨r,hr,hF⟩ := bnd_some hF
 refine stC (vs := [.agg #[.int .i64 g.Left,.int .i64 g.Right,.slice g_Verticals_p g.Verticals.length g_Verticals_c]]) (caps := []) hf rfl rfl rfl en_97 rfl rfl rfl rfl (gauge_Panels_ok g h_g_Verticals hc hr) ?_
 rintro _ w ⟨p_1,c_1,rfl,hc⟩
 refine ⟨_,rfl,fun a hf => ?_⟩
 refine stP hf rfl rfl rfl (pM rfl) fun a hf => stP hf rfl rfl rfl (pX rfl rfl) fun a hf => stP hf rfl rfl rfl (pX rfl rfl) fun a hf => stP hf rfl rfl rfl (pA rfl) fun a hf => stP hf rfl rfl rfl (pA rfl) fun a hf => cNil ?_
 refine h2 _ _ ?_
 refine wp_seq_k fun K3 h3 => cReg ?_
 refine stAl (cs := [.int .i64 0,.int .i64 0]) hf hc rfl rfl zr_50 rfl fun b_3 a w hf hc => cNil ?_
 refine h3 _ _ ?_
 refine wp_seq_k fun K4 h4 => wp_seq_k fun K5 h5 => cReg ?_
 refine stP hf rfl rfl rfl (pM rfl) fun a hf => stP hf rfl rfl rfl (pLenS Try.underlying44 rfl) fun a hf => stP hf rfl rfl rfl (pM rfl) fun a hf => cNil ?_
 refine h5 _ _ ?_
 refine wp_block ?_
 obtain ⟨x6,hx6,hF⟩ := bnd_some hF
 let S6 : (Int × Int × Int) → Act → World → Prop := (fun (zz : Int × Int × Int) a w => ∃ (p_2 : Option Addr) (c_2 : Nat),Has 26 a [(2,.pointer (some ⟨b_2,0,none⟩)),(5,.int .i64 r.2),(6,.pointer (some ⟨b_3,0,none⟩)),(14,.slice p_2 r.1.length c_2),(15,.int .i64 ((r.1.length : Nat) : Int)),(16,.int .i64 zz.1)] ∧ Ctx G (.box b_3 [.int .i64 zz.2.1,.int .i64 zz.2.2] 50::.row p_2 c_2 (r.1.map enc_api_Span) 50 2::.box b_2 [.int .i64 0,.int .i64 0] 50::Lf) w)
 have hr6 : ∀ (zz : Int × Int × Int) a w,x6 = .go zz → S6 zz a w → K4 a w := by
  rintro ⟨x,x_1,x_2⟩ a w rfl ⟨p_2,c_2,hf,hc⟩
  replace hF := exK_go hF
  refine h4 _ _ ?_
  refine wp_seq_k fun K7 h7 => cReg ?_
  refine stE hf hc rfl rfl rfl (eLdN (vs := [.int .i64 x_1,.int .i64 x_2]) ag_50 rfl rfl (cells_box (n := 2) m0 rfl)) fun a w hf hc => stP hf rfl rfl rfl (pM rfl) fun a hf => stSt (vs := [.int .i64 x_1,.int .i64 x_2]) hf hc rfl rfl rfl rfl sz_50 rfl rfl u2 fun w hc => stP hf rfl rfl rfl (pA rfl) fun a hf => cNil ?_
  refine h7 _ _ ?_
  refine wp_ret ?_
  obtain rfl := Option.some.inj hF
  replace hc := hc.drop k1
  replace hc := hc.drop k0
  exact fnOut2 (by simp) rfl Try.results52 hf hc (rv_cellN (vs := [.int .i64 x_1,.int .i64 x_2]) ag_50 rfl rfl (cells_box (n := 2) m0 rfl)) (show look _ 3 = _ from rfl) ⟨rfl,(hc.drop k0)⟩
 have ho6 : ∀ r,x6 = .out r → r = res := by
  rintro r rfl
  exact Option.some.inj hF
 replace hc := hc.drop k3
 refine cLoop N (loopW (S := S6) (x := x6) ?_ N (0,0,0) _ _ ⟨p_1,c_1,hf.keep ⟨rfl,rfl,rfl,rfl,rfl,rfl,trivial⟩,hc⟩ hx6)
 clear hF hf hc
 rintro ⟨x,x_1,x_2⟩ st6 a w KB6 ⟨p_2,c_2,hf,hc⟩ hF hfin6 hK6
 unfold gauge_Flow_b6 at hF
 refine wp_seq_k fun K8 h8 => cReg ?_
 refine stP hf rfl rfl rfl (pLt rfl rfl) fun a hf => cNil ?_
 refine h8 _ _ ?_
 refine wp_seq_k fun K9 h9 => cCond (b := (decide (x < ((r.1.length : Nat) : Int)))) hf rfl (fun hb => ?_) (fun hb => ?_)
 ·replace hF := condT hb hF
  clear hb
  refine wp_skip ?_
  refine h9 _ _ ?_
  refine wp_seq_k fun K10 h10 => wp_block ?_
  refine wp_seq_k fun K11 h11 => cReg ?_
  obtain ⟨e_1,he_1,hF⟩ := bnd_some hF
  obtain ⟨g_0,rfl,qa,qr⟩ := row_atm hc m1 he_1
  refine stP hf rfl rfl rfl (pIA Try.underlying44 sz_50 rfl rfl qa) fun a hf => stE hf hc rfl rfl rfl (eLdN (vs := [.int .i64 e_1.Lo,.int .i64 e_1.Hi]) ag_50 rfl rfl (cells_rw (sz := 2) (i := x.toNat) m1 qr (n := 2) (o' := 0) rfl)) fun a w hf hc => stAl (cs := [.int .i64 0,.int .i64 0]) hf hc rfl rfl zr_50 rfl fun b_4 a w hf hc => stSt (vs := [.int .i64 e_1.Lo,.int .i64 e_1.Hi]) hf hc rfl rfl rfl rfl sz_50 rfl rfl u0 fun w hc => cNil ?_
  refine h11 _ _ ?_
  refine cReg ?_
  refine stE hf hc rfl rfl rfl (eLdN (vs := [.int .i64 x_1,.int .i64 x_2]) ag_50 rfl rfl (cells_box (n := 2) m1 rfl)) fun a w hf hc => stE hf hc rfl rfl rfl (eLdN (vs := [.int .i64 e_1.Lo,.int .i64 e_1.Hi]) ag_50 rfl rfl (cells_box (n := 2) m0 rfl)) fun a w hf hc => ?_
  obtain ⟨r_1,hr_1,hF⟩ := bnd_some hF
  refine stE hf hc rfl rfl rfl (eC (v := .agg #[.int .i64 r_1.Lo,.int .i64 r_1.Hi]) (vs := [.agg #[.int .i64 x_1,.int .i64 x_2],.agg #[.int .i64 e_1.Lo,.int .i64 e_1.Hi]]) (caps := []) en_98 rfl rfl rfl rfl (fun w hc => gauge_plus_ok (⟨x_1,x_2⟩ : api_Span) e_1 hc hr_1)) fun a w hf hc => stSt (vs := [.int .i64 r_1.Lo,.int .i64 r_1.Hi]) hf hc rfl rfl rfl rfl sz_50 rfl rfl u1 fun w hc => cNil ?_
  refine h10 _ _ ?_
  refine cReg ?_
  refine stP hf rfl rfl rfl (pAdd rfl rfl) fun a hf => stP hf rfl rfl rfl (pM rfl) fun a hf => cNil ?_
  replace hc := hc.drop k0
  exact hK6 (W (x + 1),r_1.Lo,r_1.Hi) _ _ (Option.some.inj hF).symm ⟨(some ⟨g_0,0,none⟩),c_2,hf.keep ⟨rfl,rfl,rfl,rfl,rfl,rfl,trivial⟩,hc⟩
 ·replace hF := condF hb hF
  clear hb
  refine wp_exit ?_
  refine xThen ?_
  refine xThen ?_
  have he := Option.some.inj hF
  rw [← he] at hfin6
  refine cHit ?_
  exact hr6 _ _ _ hfin6 ⟨p_2,c_2,hf.keep ⟨rfl,rfl,rfl,rfl,rfl,rfl,trivial⟩,hc⟩

end Go.Nilo
