/-
 What functions of the Go text compute, as plain functions, and that they do, part 1 of 4. Conditions: what each theorem names.
-/
import Derived.Test.YtlbmcojegiabpaaNl28
import Derived.Test.YtlbmcojegiabpaaProg
set_option linter.unusedVariables false
set_option linter.unusedSimpArgs false
set_option maxRecDepth 100000
set_option maxHeartbeats 4000000
namespace Go.Nilo
open Go.Proofs


structure kit_Stream where
 bytes : List Int
 used : Int
 mix : Int

structure api_Span where
 Lo : Int
 Hi : Int
@[reducible] def enc_api_Span (x : api_Span) : List Value := [.int .i64 x.Lo,.int .i64 x.Hi]
theorem one_enc_api_Span : ∀ x,(enc_api_Span x).length = 2 ∧ ones (enc_api_Span x) = true := fun _ => ⟨rfl,rfl⟩

structure daily_Value where
 Known : Bool
 Flow : api_Span
@[reducible] def enc_daily_Value (x : daily_Value) : List Value := [.bool x.Known,.int .i64 x.Flow.Lo,.int .i64 x.Flow.Hi]
theorem one_enc_daily_Value : ∀ x,(enc_daily_Value x).length = 3 ∧ ones (enc_daily_Value x) = true := fun _ => ⟨rfl,rfl⟩

structure daily_Record where
 Rise : Int
 Fall : Int
 Days : List daily_Value

structure share_Right where
 State : Int
 Amount : Int
 Loss : Int
@[reducible] def enc_share_Right (x : share_Right) : List Value := [.int .i64 x.State,.int .i64 x.Amount,.int .i64 x.Loss]
theorem one_enc_share_Right : ∀ x,(enc_share_Right x).length = 3 ∧ ones (enc_share_Right x) = true := fun _ => ⟨rfl,rfl⟩

structure share_Compact where
 States : Int
 Rights : List share_Right

structure daily_work where
 Record : daily_Record
 spans : List api_Span

structure share_office where
 Compact : share_Compact
 got : Nat → Int

structure share_Point where
 Index : Int
 Due : Int
@[reducible] def enc_share_Point (x : share_Point) : List Value := [.int .i64 x.Index,.int .i64 x.Due]
theorem one_enc_share_Point : ∀ x,(enc_share_Point x).length = 2 ∧ ones (enc_share_Point x) = true := fun _ => ⟨rfl,rfl⟩

structure share_Year where
 Index : api_Span
 Delivered : api_Span
 Spill : Bool
@[reducible] def enc_share_Year (x : share_Year) : List Value := [.int .i64 x.Index.Lo,.int .i64 x.Index.Hi,.int .i64 x.Delivered.Lo,.int .i64 x.Delivered.Hi,.bool x.Spill]
theorem one_enc_share_Year : ∀ x,(enc_share_Year x).length = 5 ∧ ones (enc_share_Year x) = true := fun _ => ⟨rfl,rfl⟩

structure share_Border where
 Table : List share_Point
 Credit : Int

structure share_Truth where
 Index : Int
 Delivered : Int
@[reducible] def enc_share_Truth (x : share_Truth) : List Value := [.int .i64 x.Index,.int .i64 x.Delivered]
theorem one_enc_share_Truth : ∀ x,(enc_share_Truth x).length = 2 ∧ ones (enc_share_Truth x) = true := fun _ => ⟨rfl,rfl⟩

structure share_Pact where
 Least : Int
 Part : Int
 Can : List Int

structure share_quotient where
 claim : Int
 by_ : Int
@[reducible] def enc_share_quotient (x : share_quotient) : List Value := [.int .i64 x.claim,.int .i64 x.by_]
theorem one_enc_share_quotient : ∀ x,(enc_share_quotient x).length = 2 ∧ ones (enc_share_quotient x) = true := fun _ => ⟨rfl,rfl⟩

structure api_Ratio where
 N : Int
 D : Int
@[reducible] def enc_api_Ratio (x : api_Ratio) : List Value := [.int .i64 x.N,.int .i64 x.D]
theorem one_enc_api_Ratio : ∀ x,(enc_api_Ratio x).length = 2 ∧ ones (enc_api_Ratio x) = true := fun _ => ⟨rfl,rfl⟩

theorem bt_161 : builtInfo Try.prog 161 = some ([.slice none 0 0,.int .i64 0,.int .i64 0],[(0,1),(1,1),(2,1)]) := by kernel_rfl

theorem en_27 : En Try.prog 27 := En.of Try.func27 (by kernel_rfl) (by kernel_rfl)

theorem zr_127 : (Try.prog.info? 127).map (·.zero) = some (some (.agg #[.int .i64 0,.int .i64 0,.slice none 0 0])) := by kernel_rfl

theorem fa_161_0 : ∀ (q : Addr) (w : World),(Instr.fieldAt 161 (.pointer (some q)) 0).run Try.prog w = .ok (.pointer (some (q.add 0))) w := fun _ _ => by kernel_rfl

theorem sc_53 : ScT Try.prog 53 := ⟨⟨_,Try.underlying53,trivial⟩,by kernel_rfl⟩

theorem fa_161_1 : ∀ (q : Addr) (w : World),(Instr.fieldAt 161 (.pointer (some q)) 1).run Try.prog w = .ok (.pointer (some (q.add 1))) w := fun _ _ => by kernel_rfl

theorem sc_3 : ScT Try.prog 3 := ⟨⟨_,Try.underlying3,trivial⟩,by kernel_rfl⟩

theorem sz_5 : (Try.prog.info? 5).map (·.size) = some 1 := by kernel_rfl

theorem sc_5 : ScT Try.prog 5 := ⟨⟨_,Try.underlying5,trivial⟩,by kernel_rfl⟩

theorem follows_mx : Try.prog.follows .mixedOrders = true := by kernel_rfl

theorem fa_161_2 : ∀ (q : Addr) (w : World),(Instr.fieldAt 161 (.pointer (some q)) 2).run Try.prog w = .ok (.pointer (some (q.add 2))) w := fun _ _ => by kernel_rfl

theorem sz_3 : (Try.prog.info? 3).map (·.size) = some 1 := by kernel_rfl

theorem en_29 : En Try.prog 29 := En.of Try.func29 (by kernel_rfl) (by kernel_rfl)

theorem bt_127 : builtInfo Try.prog 127 = some ([.int .i64 0,.int .i64 0,.slice none 0 0],[(0,1),(1,1),(2,1)]) := by kernel_rfl

theorem sz_127 : (Try.prog.info? 127).map (·.size) = some 3 := by kernel_rfl

theorem en_28 : En Try.prog 28 := En.of Try.func28 (by kernel_rfl) (by kernel_rfl)

theorem sl_36 : SlT Try.prog 36 3 1 8 (.int .i64 0) := SlT.of Try.underlying36 (by kernel_rfl) (by decide)

theorem fa_127_2 : ∀ (q : Addr) (w : World),(Instr.fieldAt 127 (.pointer (some q)) 2).run Try.prog w = .ok (.pointer (some (q.add 2))) w := fun _ _ => by kernel_rfl

theorem sc_125 : ScT Try.prog 125 := ⟨⟨_,Try.underlying125,trivial⟩,by kernel_rfl⟩

theorem zr_133 : (Try.prog.info? 133).map (·.zero) = some (some (.agg #[.bool false,.int .i64 0,.int .i64 0])) := by kernel_rfl

theorem zr_26 : (Try.prog.info? 26).map (·.zero) = some (some (.agg #[.int .i64 0,.int .i64 0])) := by kernel_rfl

theorem bt_26 : builtInfo Try.prog 26 = some ([.int .i64 0,.int .i64 0],[(0,1),(1,1)]) := by kernel_rfl

theorem sz_26 : (Try.prog.info? 26).map (·.size) = some 2 := by kernel_rfl

theorem ag_26 : AggT Try.prog 26 2 := ⟨⟨_,Try.underlying26,trivial⟩,by kernel_rfl⟩

theorem en_134 : En Try.prog 134 := En.of Try.func134 (by kernel_rfl) (by kernel_rfl)

theorem bt_133 : builtInfo Try.prog 133 = some ([.bool false,.int .i64 0,.int .i64 0],[(0,1),(1,2)]) := by kernel_rfl

theorem sz_133 : (Try.prog.info? 133).map (·.size) = some 3 := by kernel_rfl

theorem ag_133 : AggT Try.prog 133 3 := ⟨⟨_,Try.underlying133,trivial⟩,by kernel_rfl⟩

theorem en_135 : En Try.prog 135 := En.of Try.func135 (by kernel_rfl) (by kernel_rfl)

theorem en_105 : En Try.prog 105 := En.of Try.func105 (by kernel_rfl) (by kernel_rfl)

theorem sl_125 : SlT Try.prog 125 133 3 24 (.agg #[.bool false,.int .i64 0,.int .i64 0]) := SlT.of Try.underlying125 (by kernel_rfl) (by decide)

theorem sz_125 : (Try.prog.info? 125).map (·.size) = some 1 := by kernel_rfl

theorem fa_127_1 : ∀ (q : Addr) (w : World),(Instr.fieldAt 127 (.pointer (some q)) 1).run Try.prog w = .ok (.pointer (some (q.add 1))) w := fun _ _ => by kernel_rfl

theorem fa_127_0 : ∀ (q : Addr) (w : World),(Instr.fieldAt 127 (.pointer (some q)) 0).run Try.prog w = .ok (.pointer (some (q.add 0))) w := fun _ _ => by kernel_rfl

theorem ag_127 : AggT Try.prog 127 3 := ⟨⟨_,Try.underlying127,trivial⟩,by kernel_rfl⟩

theorem en_61 : En Try.prog 61 := En.of Try.func61 (by kernel_rfl) (by kernel_rfl)

theorem zr_24 : (Try.prog.info? 24).map (·.zero) = some (some (.agg #[.int .i64 0,.slice none 0 0])) := by kernel_rfl

theorem bt_24 : builtInfo Try.prog 24 = some ([.int .i64 0,.slice none 0 0],[(0,1),(1,1)]) := by kernel_rfl

theorem sz_24 : (Try.prog.info? 24).map (·.size) = some 2 := by kernel_rfl

theorem fa_24_1 : ∀ (q : Addr) (w : World),(Instr.fieldAt 24 (.pointer (some q)) 1).run Try.prog w = .ok (.pointer (some (q.add 1))) w := fun _ _ => by kernel_rfl

theorem sc_22 : ScT Try.prog 22 := ⟨⟨_,Try.underlying22,trivial⟩,by kernel_rfl⟩

theorem fa_24_0 : ∀ (q : Addr) (w : World),(Instr.fieldAt 24 (.pointer (some q)) 0).run Try.prog w = .ok (.pointer (some (q.add 0))) w := fun _ _ => by kernel_rfl

theorem bt_51 : builtInfo Try.prog 51 = some ([.int .i64 0,.int .i64 0,.int .i64 0],[(0,1),(1,1),(2,1)]) := by kernel_rfl

theorem sl_22 : SlT Try.prog 22 51 3 24 (.agg #[.int .i64 0,.int .i64 0,.int .i64 0]) := SlT.of Try.underlying22 (by kernel_rfl) (by decide)

theorem sz_22 : (Try.prog.info? 22).map (·.size) = some 1 := by kernel_rfl

theorem ag_24 : AggT Try.prog 24 2 := ⟨⟨_,Try.underlying24,trivial⟩,by kernel_rfl⟩

theorem en_62 : En Try.prog 62 := En.of Try.func62 (by kernel_rfl) (by kernel_rfl)

theorem sz_51 : (Try.prog.info? 51).map (·.size) = some 3 := by kernel_rfl

theorem fa_51_1 : ∀ (q : Addr) (w : World),(Instr.fieldAt 51 (.pointer (some q)) 1).run Try.prog w = .ok (.pointer (some (q.add 1))) w := fun _ _ => by kernel_rfl

theorem en_106 : En Try.prog 106 := En.of Try.func106 (by kernel_rfl) (by kernel_rfl)

theorem en_63 : En Try.prog 63 := En.of Try.func63 (by kernel_rfl) (by kernel_rfl)

theorem en_60 : En Try.prog 60 := En.of Try.func60 (by kernel_rfl) (by kernel_rfl)

theorem en_108 : En Try.prog 108 := En.of Try.func108 (by kernel_rfl) (by kernel_rfl)

theorem en_136 : En Try.prog 136 := En.of Try.func136 (by kernel_rfl) (by kernel_rfl)

theorem sc_217 : ScT Try.prog 217 := ⟨⟨_,Try.underlying217,trivial⟩,by kernel_rfl⟩

theorem fa_133_0 : ∀ (q : Addr) (w : World),(Instr.fieldAt 133 (.pointer (some q)) 0).run Try.prog w = .ok (.pointer (some (q.add 0))) w := fun _ _ => by kernel_rfl

theorem sc_4 : ScT Try.prog 4 := ⟨⟨_,Try.underlying4,trivial⟩,by kernel_rfl⟩

theorem fa_133_1 : ∀ (q : Addr) (w : World),(Instr.fieldAt 133 (.pointer (some q)) 1).run Try.prog w = .ok (.pointer (some (q.add 1))) w := fun _ _ => by kernel_rfl

theorem fa_26_0 : ∀ (q : Addr) (w : World),(Instr.fieldAt 26 (.pointer (some q)) 0).run Try.prog w = .ok (.pointer (some (q.add 0))) w := fun _ _ => by kernel_rfl

theorem fa_26_1 : ∀ (q : Addr) (w : World),(Instr.fieldAt 26 (.pointer (some q)) 1).run Try.prog w = .ok (.pointer (some (q.add 1))) w := fun _ _ => by kernel_rfl

theorem en_139 : En Try.prog 139 := En.of Try.func139 (by kernel_rfl) (by kernel_rfl)

theorem en_138 : En Try.prog 138 := En.of Try.func138 (by kernel_rfl) (by kernel_rfl)

theorem en_149 : En Try.prog 149 := En.of Try.func149 (by kernel_rfl) (by kernel_rfl)

theorem en_157 : En Try.prog 157 := En.of Try.func157 (by kernel_rfl) (by kernel_rfl)

theorem en_148 : En Try.prog 148 := En.of Try.func148 (by kernel_rfl) (by kernel_rfl)

theorem en_137 : En Try.prog 137 := En.of Try.func137 (by kernel_rfl) (by kernel_rfl)

theorem en_107 : En Try.prog 107 := En.of Try.func107 (by kernel_rfl) (by kernel_rfl)

theorem bt_201 : builtInfo Try.prog 201 = some ([.int .i64 0,.int .i64 0,.slice none 0 0,.slice none 0 0],[(0,3),(3,1)]) := by kernel_rfl

theorem zr_197 : (Try.prog.info? 197).map (·.zero) = some (some (.pointer none)) := by kernel_rfl

theorem sz_197 : (Try.prog.info? 197).map (·.size) = some 1 := by kernel_rfl

theorem sc_197 : ScT Try.prog 197 := ⟨⟨_,Try.underlying197,trivial⟩,by kernel_rfl⟩

theorem fa_201_1 : ∀ (q : Addr) (w : World),(Instr.fieldAt 201 (.pointer (some q)) 1).run Try.prog w = .ok (.pointer (some (q.add 3))) w := fun _ _ => by kernel_rfl

theorem sc_41 : ScT Try.prog 41 := ⟨⟨_,Try.underlying41,trivial⟩,by kernel_rfl⟩

theorem en_150 : En Try.prog 150 := En.of Try.func150 (by kernel_rfl) (by kernel_rfl)

theorem sl_41 : SlT Try.prog 41 26 2 16 (.agg #[.int .i64 0,.int .i64 0]) := SlT.of Try.underlying41 (by kernel_rfl) (by decide)

theorem sz_41 : (Try.prog.info? 41).map (·.size) = some 1 := by kernel_rfl

theorem zr_224 : (Try.prog.info? 224).map (·.zero) = some (some (.nilFunc)) := by kernel_rfl

theorem sz_224 : (Try.prog.info? 224).map (·.size) = some 1 := by kernel_rfl

theorem en_152 : En Try.prog 152 := En.of Try.func152 (by kernel_rfl) (by kernel_rfl)

theorem fa_201_0 : ∀ (q : Addr) (w : World),(Instr.fieldAt 201 (.pointer (some q)) 0).run Try.prog w = .ok (.pointer (some (q.add 0))) w := fun _ _ => by kernel_rfl

theorem sc_224 : ScT Try.prog 224 := ⟨⟨_,Try.underlying224,trivial⟩,by kernel_rfl⟩

theorem en_151 : En Try.prog 151 := En.of Try.func151 (by kernel_rfl) (by kernel_rfl)

theorem sc_151 : ScT Try.prog 151 := ⟨⟨_,Try.underlying151,trivial⟩,by kernel_rfl⟩

theorem en_154 : En Try.prog 154 := En.of Try.func154 (by kernel_rfl) (by kernel_rfl)

theorem en_160 : En Try.prog 160 := En.of Try.func160 (by kernel_rfl) (by kernel_rfl)

theorem en_161 : En Try.prog 161 := En.of Try.func161 (by kernel_rfl) (by kernel_rfl)

theorem en_159 : En Try.prog 159 := En.of Try.func159 (by kernel_rfl) (by kernel_rfl)

theorem en_153 : En Try.prog 153 := En.of Try.func153 (by kernel_rfl) (by kernel_rfl)

theorem en_158 : En Try.prog 158 := En.of Try.func158 (by kernel_rfl) (by kernel_rfl)

theorem en_140 : En Try.prog 140 := En.of Try.func140 (by kernel_rfl) (by kernel_rfl)

theorem en_109 : En Try.prog 109 := En.of Try.func109 (by kernel_rfl) (by kernel_rfl)

theorem zr_204 : (Try.prog.info? 204).map (·.zero) = some (some (.agg #[.nilFunc,.nilFunc])) := by kernel_rfl

theorem bt_203 : builtInfo Try.prog 203 = some ([.nilFunc],[(0,1)]) := by kernel_rfl

theorem sz_204 : (Try.prog.info? 204).map (·.size) = some 2 := by kernel_rfl

theorem ag_204 : AggT Try.prog 204 2 := ⟨⟨_,Try.underlying204,trivial⟩,by kernel_rfl⟩

theorem en_110 : En Try.prog 110 := En.of Try.func110 (by kernel_rfl) (by kernel_rfl)

theorem sz_203 : (Try.prog.info? 203).map (·.size) = some 1 := by kernel_rfl

theorem ag_203 : AggT Try.prog 203 1 := ⟨⟨_,Try.underlying203,trivial⟩,by kernel_rfl⟩

theorem fa_203_0 : ∀ (q : Addr) (w : World),(Instr.fieldAt 203 (.pointer (some q)) 0).run Try.prog w = .ok (.pointer (some (q.add 0))) w := fun _ _ => by kernel_rfl

theorem sc_190 : ScT Try.prog 190 := ⟨⟨_,Try.underlying190,trivial⟩,by kernel_rfl⟩

theorem en_141 : En Try.prog 141 := En.of Try.func141 (by kernel_rfl) (by kernel_rfl)

theorem en_112 : En Try.prog 112 := En.of Try.func112 (by kernel_rfl) (by kernel_rfl)

theorem en_111 : En Try.prog 111 := En.of Try.func111 (by kernel_rfl) (by kernel_rfl)

theorem en_142 : En Try.prog 142 := En.of Try.func142 (by kernel_rfl) (by kernel_rfl)

theorem en_64 : En Try.prog 64 := En.of Try.func64 (by kernel_rfl) (by kernel_rfl)

theorem en_31 : En Try.prog 31 := En.of Try.func31 (by kernel_rfl) (by kernel_rfl)

theorem en_70 : En Try.prog 70 := En.of Try.func70 (by kernel_rfl) (by kernel_rfl)

theorem ag_51 : AggT Try.prog 51 3 := ⟨⟨_,Try.underlying51,trivial⟩,by kernel_rfl⟩

theorem sc_147 : ScT Try.prog 147 := ⟨⟨_,Try.underlying147,trivial⟩,by kernel_rfl⟩

theorem fa_51_0 : ∀ (q : Addr) (w : World),(Instr.fieldAt 51 (.pointer (some q)) 0).run Try.prog w = .ok (.pointer (some (q.add 0))) w := fun _ _ => by kernel_rfl

theorem en_73 : En Try.prog 73 := En.of Try.func73 (by kernel_rfl) (by kernel_rfl)

theorem fa_51_2 : ∀ (q : Addr) (w : World),(Instr.fieldAt 51 (.pointer (some q)) 2).run Try.prog w = .ok (.pointer (some (q.add 2))) w := fun _ _ => by kernel_rfl

theorem en_72 : En Try.prog 72 := En.of Try.func72 (by kernel_rfl) (by kernel_rfl)

theorem en_116 : En Try.prog 116 := En.of Try.func116 (by kernel_rfl) (by kernel_rfl)

theorem en_144 : En Try.prog 144 := En.of Try.func144 (by kernel_rfl) (by kernel_rfl)

theorem en_115 : En Try.prog 115 := En.of Try.func115 (by kernel_rfl) (by kernel_rfl)

theorem en_71 : En Try.prog 71 := En.of Try.func71 (by kernel_rfl) (by kernel_rfl)

theorem en_15 : En Try.prog 15 := En.of Try.func15 (by kernel_rfl) (by kernel_rfl)

theorem bt_156 : builtInfo Try.prog 156 = some ((catc [.int .i64 0,.slice none 0 0] 12 encI_i64 (fun _ => 0) []),[(0,2),(2,12)]) := by kernel_rfl

theorem zr_153 : (Try.prog.info? 153).map (·.zero) = some (some (.pointer none)) := by kernel_rfl

theorem sz_153 : (Try.prog.info? 153).map (·.size) = some 1 := by kernel_rfl

theorem sc_153 : ScT Try.prog 153 := ⟨⟨_,Try.underlying153,trivial⟩,by kernel_rfl⟩

theorem en_79 : En Try.prog 79 := En.of Try.func79 (by kernel_rfl) (by kernel_rfl)

theorem fa_156_0 : ∀ (q : Addr) (w : World),(Instr.fieldAt 156 (.pointer (some q)) 0).run Try.prog w = .ok (.pointer (some (q.add 0))) w := fun _ _ => by kernel_rfl

theorem zr_51 : (Try.prog.info? 51).map (·.zero) = some (some (.agg #[.int .i64 0,.int .i64 0,.int .i64 0])) := by kernel_rfl

theorem fa_156_1 : ∀ (q : Addr) (w : World),(Instr.fieldAt 156 (.pointer (some q)) 1).run Try.prog w = .ok (.pointer (some (q.add 2))) w := fun _ _ => by kernel_rfl

theorem en_117 : En Try.prog 117 := En.of Try.func117 (by kernel_rfl) (by kernel_rfl)

theorem en_118 : En Try.prog 118 := En.of Try.func118 (by kernel_rfl) (by kernel_rfl)

theorem en_75 : En Try.prog 75 := En.of Try.func75 (by kernel_rfl) (by kernel_rfl)

theorem en_18 : En Try.prog 18 := En.of Try.func18 (by kernel_rfl) (by kernel_rfl)

theorem en_77 : En Try.prog 77 := En.of Try.func77 (by kernel_rfl) (by kernel_rfl)

theorem en_21 : En Try.prog 21 := En.of Try.func21 (by kernel_rfl) (by kernel_rfl)

theorem en_67 : En Try.prog 67 := En.of Try.func67 (by kernel_rfl) (by kernel_rfl)

theorem zr_3 : (Try.prog.info? 3).map (·.zero) = some (some (.int .i64 0)) := by kernel_rfl

theorem zr_29 : (Try.prog.info? 29).map (·.zero) = some (some (.int .i64 0)) := by kernel_rfl

theorem sz_29 : (Try.prog.info? 29).map (·.size) = some 1 := by kernel_rfl

theorem sc_29 : ScT Try.prog 29 := ⟨⟨_,Try.underlying29,trivial⟩,by kernel_rfl⟩

theorem en_24 : En Try.prog 24 := En.of Try.func24 (by kernel_rfl) (by kernel_rfl)

theorem zr_88 : (Try.prog.info? 88).map (·.zero) = some (some (.agg #[.slice none 0 0,.int .i64 0])) := by kernel_rfl

theorem bt_116 : builtInfo Try.prog 116 = some ([.int .i64 0,.int .i64 0],[(0,1),(1,1)]) := by kernel_rfl

theorem sl_86 : SlT Try.prog 86 116 2 16 (.agg #[.int .i64 0,.int .i64 0]) := SlT.of Try.underlying86 (by kernel_rfl) (by decide)

theorem bt_88 : builtInfo Try.prog 88 = some ([.slice none 0 0,.int .i64 0],[(0,1),(1,1)]) := by kernel_rfl

theorem bt_94 : builtInfo Try.prog 94 = some ([.int .i64 0,.int .i64 0,.int .i64 0,.int .i64 0,.bool false],[(0,2),(2,2),(4,1)]) := by kernel_rfl

theorem sl_89 : SlT Try.prog 89 94 5 40 (.agg #[.int .i64 0,.int .i64 0,.int .i64 0,.int .i64 0,.bool false]) := SlT.of Try.underlying89 (by kernel_rfl) (by decide)

theorem sz_88 : (Try.prog.info? 88).map (·.size) = some 2 := by kernel_rfl

theorem ag_88 : AggT Try.prog 88 2 := ⟨⟨_,Try.underlying88,trivial⟩,by kernel_rfl⟩

theorem en_68 : En Try.prog 68 := En.of Try.func68 (by kernel_rfl) (by kernel_rfl)

theorem fa_88_0 : ∀ (q : Addr) (w : World),(Instr.fieldAt 88 (.pointer (some q)) 0).run Try.prog w = .ok (.pointer (some (q.add 0))) w := fun _ _ => by kernel_rfl

theorem sc_86 : ScT Try.prog 86 := ⟨⟨_,Try.underlying86,trivial⟩,by kernel_rfl⟩

theorem sz_116 : (Try.prog.info? 116).map (·.size) = some 2 := by kernel_rfl

theorem ag_116 : AggT Try.prog 116 2 := ⟨⟨_,Try.underlying116,trivial⟩,by kernel_rfl⟩

theorem sc_182 : ScT Try.prog 182 := ⟨⟨_,Try.underlying182,trivial⟩,by kernel_rfl⟩

theorem fa_116_0 : ∀ (q : Addr) (w : World),(Instr.fieldAt 116 (.pointer (some q)) 0).run Try.prog w = .ok (.pointer (some (q.add 0))) w := fun _ _ => by kernel_rfl

theorem fa_116_1 : ∀ (q : Addr) (w : World),(Instr.fieldAt 116 (.pointer (some q)) 1).run Try.prog w = .ok (.pointer (some (q.add 1))) w := fun _ _ => by kernel_rfl

theorem en_96 : En Try.prog 96 := En.of Try.func96 (by kernel_rfl) (by kernel_rfl)

theorem en_124 : En Try.prog 124 := En.of Try.func124 (by kernel_rfl) (by kernel_rfl)

theorem en_125 : En Try.prog 125 := En.of Try.func125 (by kernel_rfl) (by kernel_rfl)

theorem en_123 : En Try.prog 123 := En.of Try.func123 (by kernel_rfl) (by kernel_rfl)

theorem en_95 : En Try.prog 95 := En.of Try.func95 (by kernel_rfl) (by kernel_rfl)

theorem fa_88_1 : ∀ (q : Addr) (w : World),(Instr.fieldAt 88 (.pointer (some q)) 1).run Try.prog w = .ok (.pointer (some (q.add 1))) w := fun _ _ => by kernel_rfl

theorem zr_116 : (Try.prog.info? 116).map (·.zero) = some (some (.agg #[.int .i64 0,.int .i64 0])) := by kernel_rfl

theorem en_47 : En Try.prog 47 := En.of Try.func47 (by kernel_rfl) (by kernel_rfl)

theorem sz_94 : (Try.prog.info? 94).map (·.size) = some 5 := by kernel_rfl

theorem ag_94 : AggT Try.prog 94 5 := ⟨⟨_,Try.underlying94,trivial⟩,by kernel_rfl⟩

theorem sc_212 : ScT Try.prog 212 := ⟨⟨_,Try.underlying212,trivial⟩,by kernel_rfl⟩

theorem fa_94_0 : ∀ (q : Addr) (w : World),(Instr.fieldAt 94 (.pointer (some q)) 0).run Try.prog w = .ok (.pointer (some (q.add 0))) w := fun _ _ => by kernel_rfl

theorem fa_94_1 : ∀ (q : Addr) (w : World),(Instr.fieldAt 94 (.pointer (some q)) 1).run Try.prog w = .ok (.pointer (some (q.add 2))) w := fun _ _ => by kernel_rfl

theorem en_128 : En Try.prog 128 := En.of Try.func128 (by kernel_rfl) (by kernel_rfl)

theorem en_147 : En Try.prog 147 := En.of Try.func147 (by kernel_rfl) (by kernel_rfl)

theorem en_156 : En Try.prog 156 := En.of Try.func156 (by kernel_rfl) (by kernel_rfl)

theorem en_146 : En Try.prog 146 := En.of Try.func146 (by kernel_rfl) (by kernel_rfl)

theorem en_127 : En Try.prog 127 := En.of Try.func127 (by kernel_rfl) (by kernel_rfl)

theorem en_99 : En Try.prog 99 := En.of Try.func99 (by kernel_rfl) (by kernel_rfl)

theorem zr_213 : (Try.prog.info? 213).map (·.zero) = some (some (.map none)) := by kernel_rfl

theorem sz_213 : (Try.prog.info? 213).map (·.size) = some 1 := by kernel_rfl

theorem en_100 : En Try.prog 100 := En.of Try.func100 (by kernel_rfl) (by kernel_rfl)

theorem zr_192 : (Try.prog.info? 192).map (·.zero) = some (some (.agg #[.nilFunc,.nilFunc])) := by kernel_rfl

theorem bt_192 : builtInfo Try.prog 192 = some ([.nilFunc,.nilFunc],[(0,1),(1,1)]) := by kernel_rfl

theorem sz_192 : (Try.prog.info? 192).map (·.size) = some 2 := by kernel_rfl

theorem ag_192 : AggT Try.prog 192 2 := ⟨⟨_,Try.underlying192,trivial⟩,by kernel_rfl⟩

theorem en_103 : En Try.prog 103 := En.of Try.func103 (by kernel_rfl) (by kernel_rfl)

theorem en_104 : En Try.prog 104 := En.of Try.func104 (by kernel_rfl) (by kernel_rfl)

theorem zr_94 : (Try.prog.info? 94).map (·.zero) = some (some (.agg #[.int .i64 0,.int .i64 0,.int .i64 0,.int .i64 0,.bool false])) := by kernel_rfl

theorem fa_192_0 : ∀ (q : Addr) (w : World),(Instr.fieldAt 192 (.pointer (some q)) 0).run Try.prog w = .ok (.pointer (some (q.add 0))) w := fun _ _ => by kernel_rfl

theorem en_130 : En Try.prog 130 := En.of Try.func130 (by kernel_rfl) (by kernel_rfl)

theorem fa_192_1 : ∀ (q : Addr) (w : World),(Instr.fieldAt 192 (.pointer (some q)) 1).run Try.prog w = .ok (.pointer (some (q.add 1))) w := fun _ _ => by kernel_rfl

theorem en_131 : En Try.prog 131 := En.of Try.func131 (by kernel_rfl) (by kernel_rfl)

theorem bt_97 : builtInfo Try.prog 97 = some ([.int .i64 0,.int .i64 0],[(0,1),(1,1)]) := by kernel_rfl

theorem fa_94_2 : ∀ (q : Addr) (w : World),(Instr.fieldAt 94 (.pointer (some q)) 2).run Try.prog w = .ok (.pointer (some (q.add 4))) w := fun _ _ => by kernel_rfl

theorem sc_213 : ScT Try.prog 213 := ⟨⟨_,Try.underlying213,trivial⟩,by kernel_rfl⟩

theorem fa_97_0 : ∀ (q : Addr) (w : World),(Instr.fieldAt 97 (.pointer (some q)) 0).run Try.prog w = .ok (.pointer (some (q.add 0))) w := fun _ _ => by kernel_rfl

theorem en_126 : En Try.prog 126 := En.of Try.func126 (by kernel_rfl) (by kernel_rfl)

theorem en_97 : En Try.prog 97 := En.of Try.func97 (by kernel_rfl) (by kernel_rfl)

theorem fa_97_1 : ∀ (q : Addr) (w : World),(Instr.fieldAt 97 (.pointer (some q)) 1).run Try.prog w = .ok (.pointer (some (q.add 1))) w := fun _ _ => by kernel_rfl

theorem en_129 : En Try.prog 129 := En.of Try.func129 (by kernel_rfl) (by kernel_rfl)

theorem en_132 : En Try.prog 132 := En.of Try.func132 (by kernel_rfl) (by kernel_rfl)

theorem en_133 : En Try.prog 133 := En.of Try.func133 (by kernel_rfl) (by kernel_rfl)

theorem en_54 : En Try.prog 54 := En.of Try.func54 (by kernel_rfl) (by kernel_rfl)

theorem en_20 : En Try.prog 20 := En.of Try.func20 (by kernel_rfl) (by kernel_rfl)

theorem ge_26 : Try.prog.eqGuardType Try.prog.depth 26 = false := by kernel_rfl

theorem eqs_26 (x0 : Int) (x1 : Int) (y0 : Int) (y1 : Int) (w : World) : (Op.equalIn 10000 26 (.agg #[.int .i64 x0,.int .i64 x1]) (.agg #[.int .i64 y0,.int .i64 y1])).run Try.prog w = .ok (x0 == y0 && x1 == y1) w := by
 rw [run_equalIn_agg w 9999 26 _ _ (by kernel_rfl) (by kernel_rfl)]
 simp [Op.eqFields,part,go_sem]
 repeat' split
 all_goals simp_all

theorem en_23 : En Try.prog 23 := En.of Try.func23 (by kernel_rfl) (by kernel_rfl)

theorem bt_59 : builtInfo Try.prog 59 = some ([.int .i64 0,.int .i64 0,.slice none 0 0],[(0,1),(1,1),(2,1)]) := by kernel_rfl

theorem fa_59_2 : ∀ (q : Addr) (w : World),(Instr.fieldAt 59 (.pointer (some q)) 2).run Try.prog w = .ok (.pointer (some (q.add 2))) w := fun _ _ => by kernel_rfl

theorem sc_36 : ScT Try.prog 36 := ⟨⟨_,Try.underlying36,trivial⟩,by kernel_rfl⟩

theorem fa_59_0 : ∀ (q : Addr) (w : World),(Instr.fieldAt 59 (.pointer (some q)) 0).run Try.prog w = .ok (.pointer (some (q.add 0))) w := fun _ _ => by kernel_rfl

theorem fa_59_1 : ∀ (q : Addr) (w : World),(Instr.fieldAt 59 (.pointer (some q)) 1).run Try.prog w = .ok (.pointer (some (q.add 1))) w := fun _ _ => by kernel_rfl

theorem sc_146 : ScT Try.prog 146 := ⟨⟨_,Try.underlying146,trivial⟩,by kernel_rfl⟩

theorem en_120 : En Try.prog 120 := En.of Try.func120 (by kernel_rfl) (by kernel_rfl)

theorem en_145 : En Try.prog 145 := En.of Try.func145 (by kernel_rfl) (by kernel_rfl)

theorem en_119 : En Try.prog 119 := En.of Try.func119 (by kernel_rfl) (by kernel_rfl)

theorem en_80 : En Try.prog 80 := En.of Try.func80 (by kernel_rfl) (by kernel_rfl)

theorem en_30 : En Try.prog 30 := En.of Try.func30 (by kernel_rfl) (by kernel_rfl)

theorem en_121 : En Try.prog 121 := En.of Try.func121 (by kernel_rfl) (by kernel_rfl)

theorem en_81 : En Try.prog 81 := En.of Try.func81 (by kernel_rfl) (by kernel_rfl)

theorem en_82 : En Try.prog 82 := En.of Try.func82 (by kernel_rfl) (by kernel_rfl)

theorem zr_165 : (Try.prog.info? 165).map (·.zero) = some (some (.agg #[.int .i64 0,.int .i64 0])) := by kernel_rfl

theorem bt_165 : builtInfo Try.prog 165 = some ([.int .i64 0,.int .i64 0],[(0,1),(1,1)]) := by kernel_rfl

theorem sz_165 : (Try.prog.info? 165).map (·.size) = some 2 := by kernel_rfl

theorem ag_165 : AggT Try.prog 165 2 := ⟨⟨_,Try.underlying165,trivial⟩,by kernel_rfl⟩

theorem en_83 : En Try.prog 83 := En.of Try.func83 (by kernel_rfl) (by kernel_rfl)

theorem ge_165 : Try.prog.eqGuardType Try.prog.depth 165 = false := by kernel_rfl

theorem eqs_165 (x0 : Int) (x1 : Int) (y0 : Int) (y1 : Int) (w : World) : (Op.equalIn 10000 165 (.agg #[.int .i64 x0,.int .i64 x1]) (.agg #[.int .i64 y0,.int .i64 y1])).run Try.prog w = .ok (x0 == y0 && x1 == y1) w := by
 rw [run_equalIn_agg w 9999 165 _ _ (by kernel_rfl) (by kernel_rfl)]
 simp [Op.eqFields,part,go_sem]
 repeat' split
 all_goals simp_all

theorem fa_165_0 : ∀ (q : Addr) (w : World),(Instr.fieldAt 165 (.pointer (some q)) 0).run Try.prog w = .ok (.pointer (some (q.add 0))) w := fun _ _ => by kernel_rfl

theorem fa_165_1 : ∀ (q : Addr) (w : World),(Instr.fieldAt 165 (.pointer (some q)) 1).run Try.prog w = .ok (.pointer (some (q.add 1))) w := fun _ _ => by kernel_rfl

theorem en_84 : En Try.prog 84 := En.of Try.func84 (by kernel_rfl) (by kernel_rfl)

theorem en_34 : En Try.prog 34 := En.of Try.func34 (by kernel_rfl) (by kernel_rfl)

theorem zr_71 : (Try.prog.info? 71).map (·.zero) = some (some (.agg #[.int .i64 0,.int .i64 0])) := by kernel_rfl

theorem en_122 : En Try.prog 122 := En.of Try.func122 (by kernel_rfl) (by kernel_rfl)

theorem en_88 : En Try.prog 88 := En.of Try.func88 (by kernel_rfl) (by kernel_rfl)

theorem bt_71 : builtInfo Try.prog 71 = some ([.int .i64 0,.int .i64 0],[(0,1),(1,1)]) := by kernel_rfl

theorem sz_71 : (Try.prog.info? 71).map (·.size) = some 2 := by kernel_rfl

theorem sl_171 : SlT Try.prog 171 165 2 16 (.agg #[.int .i64 0,.int .i64 0]) := SlT.of Try.underlying171 (by kernel_rfl) (by decide)

theorem en_90 : En Try.prog 90 := En.of Try.func90 (by kernel_rfl) (by kernel_rfl)

theorem ag_71 : AggT Try.prog 71 2 := ⟨⟨_,Try.underlying71,trivial⟩,by kernel_rfl⟩

theorem en_91 : En Try.prog 91 := En.of Try.func91 (by kernel_rfl) (by kernel_rfl)

theorem en_39 : En Try.prog 39 := En.of Try.func39 (by kernel_rfl) (by kernel_rfl)

theorem en_37 : En Try.prog 37 := En.of Try.func37 (by kernel_rfl) (by kernel_rfl)

theorem ge_71 : Try.prog.eqGuardType Try.prog.depth 71 = false := by kernel_rfl

theorem eqs_71 (x0 : Int) (x1 : Int) (y0 : Int) (y1 : Int) (w : World) : (Op.equalIn 10000 71 (.agg #[.int .i64 x0,.int .i64 x1]) (.agg #[.int .i64 y0,.int .i64 y1])).run Try.prog w = .ok (x0 == y0 && x1 == y1) w := by
 rw [run_equalIn_agg w 9999 71 _ _ (by kernel_rfl) (by kernel_rfl)]
 simp [Op.eqFields,part,go_sem]
 repeat' split
 all_goals simp_all

theorem en_13 : En Try.prog 13 := En.of Try.func13 (by kernel_rfl) (by kernel_rfl)

def kit_New (N : Nat) (bytes : List Int) : Option (Int × Int) :=
 some (0,0)
theorem kit_New_ok {N : Nat} {G : Pers} {Lf : List Ent} {w : World} (bytes : List Int) {bytes_p : Option Addr} {bytes_c : Nat} (h_bytes : Rd G 1 bytes_p bytes_c (bytes.map encI_u8)) (hc : Ctx G (Lf) w) {res : Int × Int} (hF : kit_New N bytes = some res) : Calls Try.prog 27 #[.slice bytes_p bytes.length bytes_c] w (fun e w => ∃ (b'1 : Nat),e = .returned (.pointer (some ⟨b'1,0,none⟩)) ∧ Ctx G (.box b'1 [.slice bytes_p bytes.length bytes_c,.int .i64 res.1,.int .i64 res.2] 161::Lf) w) := by
 unfold kit_New at hF
 refine fnIn (args := [.slice bytes_p bytes.length bytes_c]) Try.func27 rfl Try.ntmps27 rfl fun a hf => wp_seq_k fun K1 h1 => cReg ?_
 refine stP hf rfl rfl rfl (pA rfl) fun a hf => cNil ?_
 refine h1 _ _ ?_
 refine wp_seq_k fun K2 h2 => cReg ?_
 refine stP hf rfl rfl rfl (pM rfl) fun a hf => stP hf rfl rfl rfl (pBuildS (cells := [.slice bytes_p bytes.length bytes_c,.int .i64 0,.int .i64 0]) bt_161 rfl rfl) fun a hf => stBx (cs := [.slice bytes_p bytes.length bytes_c,.int .i64 0,.int .i64 0]) hf hc rfl rfl rfl rfl fun b_1 a w hf hc => stP hf rfl rfl rfl (pA rfl) fun a hf => cNil ?_
 refine h2 _ _ ?_
 refine wp_ret ?_
 obtain rfl := Option.some.inj hF
 exact fnOut1 (by simp) rfl Try.results27 hf hc (show look _ 2 = _ from rfl) ⟨b_1,rfl,hc⟩

def kit_Stream_Next_j9 (N : Nat) (s_ : kit_Stream) (n : Int) (b_2 : Int) (b_3 : Int) : Option (Int × Int × Int) :=
 Option.bind (nz n) fun un_1 =>
 some (b_3.tmod n,W (s_.used + 1),(W ((W ((W (5 * s_.mix)) + b_2)) + 1)).tmod 251)
def kit_Stream_Next_j6 (N : Nat) (s_ : kit_Stream) (n : Int) (b_2 : Int) : Option (Int × Int × Int) :=
 cond (decide (256 < n))
 (kit_Stream_Next_j9 N s_ n b_2 (W ((W (256 * b_2)) + ((W ((W ((W (5 * s_.mix)) + b_2)) + 1)).tmod 251))))
 (kit_Stream_Next_j9 N s_ n b_2 b_2)
def kit_Stream_Next (N : Nat) (s_ : kit_Stream) (n : Int) : Option (Int × Int × Int) :=
 cond ((decide (n < 2)) || (((s_.bytes.length : Nat) : Int) == 0))
 (some (0,s_.used,s_.mix))
 (Option.bind (nz ((s_.bytes.length : Nat) : Int)) fun un =>
 Option.bind (getI s_.bytes (s_.used.tmod ((s_.bytes.length : Nat) : Int))) fun e_1 =>
 cond (decide (((s_.bytes.length : Nat) : Int) ≤ s_.used))
 (Option.bind (nz ((s_.bytes.length : Nat) : Int)) fun un_2 =>
 kit_Stream_Next_j6 N s_ n (W ((W (e_1)) + (W ((W (11 * s_.mix)) + (W (s_.used.tdiv ((s_.bytes.length : Nat) : Int))))))))
 (kit_Stream_Next_j6 N s_ n (W (e_1))))
theorem kit_Stream_Next_ok {N : Nat} {G : Pers} {Lf : List Ent} {w : World} (s_ : kit_Stream) (n : Int) {b_ : Nat} {s__bytes_p : Option Addr} {s__bytes_c : Nat} (h_s__bytes : Rd G 1 s__bytes_p s__bytes_c (s_.bytes.map encI_u8)) (hc : Ctx G (.box b_ [.slice s__bytes_p s_.bytes.length s__bytes_c,.int .i64 s_.used,.int .i64 s_.mix] 161::Lf) w) {res : Int × Int × Int} (hF : kit_Stream_Next N s_ n = some res) : Calls Try.prog 29 #[.pointer (some ⟨b_,0,none⟩),.int .i64 n] w (fun e w => e = .returned (.int .i64 res.1) ∧ Ctx G (.box b_ [.slice s__bytes_p s_.bytes.length s__bytes_c,.int .i64 res.2.1,.int .i64 res.2.2] 161::Lf) w) := by
 unfold kit_Stream_Next at hF
 refine fnIn (args := [.pointer (some ⟨b_,0,none⟩),.int .i64 n]) Try.func29 rfl Try.ntmps29 rfl fun a hf => wp_seq_k fun K1 h1 => cReg ?_
 refine stP hf rfl rfl rfl (pA rfl) fun a hf => cNil ?_
 refine h1 _ _ ?_
 refine wp_seq_k fun K2 h2 => wp_seq_k fun K3 h3 => cReg ?_
 refine stP hf rfl rfl rfl (pM rfl) fun a hf => stP hf rfl rfl rfl (pLt rfl rfl) fun a hf => stP hf rfl rfl rfl (pM rfl) fun a hf => stCut 7 (fun a w => Has 92 a [(0,.pointer (some ⟨b_,0,none⟩)),(1,.int .i64 n),(6,.int .i64 n),(7,.bool (decide (n < 2))),(8,.bool (decide (n < 2))),(15,.bool ((decide (n < 2)) || (((s_.bytes.length : Nat) : Int) == 0)))] ∧ Ctx G (.box b_ [.slice s__bytes_p s_.bytes.length s__bytes_c,.int .i64 s_.used,.int .i64 s_.mix] 161::Lf) w) ?_ ?_
 ·cases hb : (decide (n < 2))
  ·rw [hb] at hf
   refine stP hf rfl rfl rfl (pM rfl) fun a hf => stP hf rfl rfl rfl (pNC rfl) fun a hf => stP hf rfl rfl rfl (pFA fa_161_0 rfl) fun a hf => stE hf hc rfl rfl rfl (eLd1 sc_53 rfl (cell_box m0 rfl)) fun a w hf hc => stP hf rfl rfl rfl (pLenS Try.underlying53 rfl) fun a hf => stP hf rfl rfl rfl (pEq rfl rfl) fun a hf => stP hf rfl rfl rfl (pPf rfl rfl) fun a hf => cNil ⟨hf.keep ⟨rfl,rfl,rfl,rfl,rfl,rfl,trivial⟩,hc⟩
  ·rw [hb] at hf
   refine stS hf rfl rfl rfl fun a hf => stS hf rfl rfl rfl fun a hf => stS hf rfl rfl rfl fun a hf => stS hf rfl rfl rfl fun a hf => stS hf rfl rfl rfl fun a hf => stS hf rfl rfl rfl fun a hf => stP hf rfl rfl rfl (pPt rfl rfl) fun a hf => cNil ⟨hf.keep ⟨rfl,rfl,rfl,rfl,rfl,rfl,trivial⟩,hc⟩
 intro a w ⟨hf,hc⟩
 refine cNil ?_
 refine h3 _ _ ?_
 refine cCond (b := ((decide (n < 2)) || (((s_.bytes.length : Nat) : Int) == 0))) hf rfl (fun hb => ?_) (fun hb => ?_)
 ·replace hF := condT hb hF
  clear hb
  refine wp_seq_k fun K4 h4 => cReg ?_
  refine stP hf rfl rfl rfl (pA rfl) fun a hf => cNil ?_
  refine h4 _ _ ?_
  refine wp_ret ?_
  refine xThenR ?_
  obtain rfl := Option.some.inj hF
  exact fnOut1 (by simp) rfl Try.results29 hf hc (show look _ 4 = _ from rfl) ⟨rfl,hc⟩
 ·replace hF := condF hb hF
  clear hb
  refine wp_skip ?_
  refine h2 _ _ ?_
  refine wp_seq_k fun K5 h5 => ?_
  obtain ⟨un,hun,hF⟩ := bnd_some hF
  obtain ⟨e_1,he_1,hF⟩ := bnd_some hF
  obtain ⟨b_1,o,qa,qp⟩ := h_s__bytes.atm he_1
  refine cQ hc follows_mx (by kernel_rfl) ?_
  refine qE hf rfl rfl rfl (Pu.ev (pM rfl)) fun a hf => qE hf rfl rfl rfl (Pu.ev (pNC rfl)) fun a hf => qE hf rfl rfl rfl (Pu.ev (pFA fa_161_0 rfl)) fun a hf => qE hf rfl rfl rfl (eLd1 sc_53 rfl (cell_box m0 rfl)) fun a hf => qE hf rfl rfl rfl (Pu.ev (pM rfl)) fun a hf => qE hf rfl rfl rfl (Pu.ev (pNC rfl)) fun a hf => qE hf rfl rfl rfl (Pu.ev (pFA fa_161_1 rfl)) fun a hf => qE hf rfl rfl rfl (eLd1 sc_3 rfl (cell_box m0 rfl)) fun a hf => qE hf rfl rfl rfl (Pu.ev (pM rfl)) fun a hf => qE hf rfl rfl rfl (Pu.ev (pNC rfl)) fun a hf => qE hf rfl rfl rfl (Pu.ev (pFA fa_161_0 rfl)) fun a hf => qE hf rfl rfl rfl (eLd1 sc_53 rfl (cell_box m0 rfl)) fun a hf => qE hf rfl rfl rfl (Pu.ev (pLenS Try.underlying53 rfl)) fun a hf => ?_
  refine qE hf rfl rfl rfl (Pu.ev (pRem rfl rfl (nz_spec hun))) fun a hf => qE hf rfl rfl rfl (Pu.ev (pIA Try.underlying53 sz_5 rfl rfl qa)) fun a hf => qE hf rfl rfl rfl (eLd1 sc_5 rfl (cell_pc (j := 0) qp rfl)) fun a hf => qE hf rfl rfl rfl (Pu.ev (pCv Try.underlying5 Try.underlying3 rfl)) fun a hf => qE hf rfl rfl rfl (Pu.ev (pA rfl)) fun a hf => ?_
  intro w hc
  refine h5 _ _ ?_
  refine wp_seq_k fun K6 h6 => ?_
  have hj6 : ∀ (b_2 : Int) a w,Has 92 a [(0,.pointer (some ⟨b_,0,none⟩)),(1,.int .i64 n),(5,.int .i64 b_2)] → Ctx G (.box b_ [.slice s__bytes_p s_.bytes.length s__bytes_c,.int .i64 s_.used,.int .i64 s_.mix] 161::Lf) w → kit_Stream_Next_j6 N s_ n b_2 = some res → K6 a w := by
   repeat (clear hF)
   repeat (clear hc)
   repeat (clear hf)
   intro b_2 a w hf hc hF
   unfold kit_Stream_Next_j6 at hF
   refine h6 _ _ ?_
   refine wp_seq_k fun K7 h7 => cReg ?_
   refine stP hf rfl rfl rfl (pM rfl) fun a hf => stP hf rfl rfl rfl (pM rfl) fun a hf => stP hf rfl rfl rfl (pNC rfl) fun a hf => stP hf rfl rfl rfl (pFA fa_161_2 rfl) fun a hf => stE hf hc rfl rfl rfl (eLd1 sc_3 rfl (cell_box m0 rfl)) fun a w hf hc => stP hf rfl rfl rfl (pMul rfl rfl) fun a hf => stP hf rfl rfl rfl (pM rfl) fun a hf => stP hf rfl rfl rfl (pAdd rfl rfl) fun a hf => stP hf rfl rfl rfl (pAdd rfl rfl) fun a hf => stP hf rfl rfl rfl (pRem rfl rfl (by decide)) fun a hf => stP hf rfl rfl rfl (pNC rfl) fun a hf => stP hf rfl rfl rfl (pFA fa_161_2 rfl) fun a hf => stSt (vs := [.int .i64 ((W ((W ((W (5 * s_.mix)) + b_2)) + 1)).tmod 251)]) hf hc rfl rfl rfl rfl sz_3 rfl rfl u0 fun w hc => ?_
   refine cNil ?_
   refine h7 _ _ ?_
   refine wp_seq_k fun K8 h8 => cReg ?_
   refine stP hf rfl rfl rfl (pM rfl) fun a hf => stP hf rfl rfl rfl (pNC rfl) fun a hf => stP hf rfl rfl rfl (pFA fa_161_1 rfl) fun a hf => stE hf hc rfl rfl rfl (eLd1 sc_3 rfl (cell_box m0 rfl)) fun a w hf hc => stP hf rfl rfl rfl (pAdd rfl rfl) fun a hf => stP hf rfl rfl rfl (pNC rfl) fun a hf => stP hf rfl rfl rfl (pFA fa_161_1 rfl) fun a hf => stSt (vs := [.int .i64 (W (s_.used + 1))]) hf hc rfl rfl rfl rfl sz_3 rfl rfl u0 fun w hc => cNil ?_
   refine h8 _ _ ?_
   refine wp_seq_k fun K9 h9 => ?_
   have hj9 : ∀ (b_3 : Int) a w,Has 92 a [(1,.int .i64 n),(5,.int .i64 b_3)] → Ctx G (.box b_ [.slice s__bytes_p s_.bytes.length s__bytes_c,.int .i64 (W (s_.used + 1)),.int .i64 ((W ((W ((W (5 * s_.mix)) + b_2)) + 1)).tmod 251)] 161::Lf) w → kit_Stream_Next_j9 N s_ n b_2 b_3 = some res → K9 a w := by
    repeat (clear hF)
    repeat (clear hc)
    repeat (clear hf)
    intro b_3 a w hf hc hF
    unfold kit_Stream_Next_j9 at hF
    refine h9 _ _ ?_
    refine wp_seq_k fun K10 h10 => cReg ?_
    refine stP hf rfl rfl rfl (pM rfl) fun a hf => stP hf rfl rfl rfl (pM rfl) fun a hf => ?_
    obtain ⟨un_1,hun_1,hF⟩ := bnd_some hF
    refine stP hf rfl rfl rfl (pRem rfl rfl (nz_spec hun_1)) fun a hf => stP hf rfl rfl rfl (pA rfl) fun a hf => cNil ?_
    refine h10 _ _ ?_
    refine wp_ret ?_
    obtain rfl := Option.some.inj hF
    exact fnOut1 (by simp) rfl Try.results29 hf hc (show look _ 4 = _ from rfl) ⟨rfl,hc⟩
   refine wp_seq_k fun K11 h11 => cReg ?_
   refine stP hf rfl rfl rfl (pM rfl) fun a hf => stP hf rfl rfl rfl (pGt rfl rfl) fun a hf => cNil ?_
   refine h11 _ _ ?_
   refine cCond (b := (decide (256 < n))) hf rfl (fun hb => ?_) (fun hb => ?_)
   ·replace hF := condT hb hF
    clear hb
    refine cReg ?_
    refine stP hf rfl rfl rfl (pM rfl) fun a hf => stP hf rfl rfl rfl (pMul rfl rfl) fun a hf => stP hf rfl rfl rfl (pM rfl) fun a hf => stP hf rfl rfl rfl (pNC rfl) fun a hf => stP hf rfl rfl rfl (pFA fa_161_2 rfl) fun a hf => stE hf hc rfl rfl rfl (eLd1 sc_3 rfl (cell_box m0 rfl)) fun a w hf hc => stP hf rfl rfl rfl (pAdd rfl rfl) fun a hf => stP hf rfl rfl rfl (pA rfl) fun a hf => cNil ?_
    exact hj9 (W ((W (256 * b_2)) + ((W ((W ((W (5 * s_.mix)) + b_2)) + 1)).tmod 251))) _ _  (hf.keep ⟨rfl,rfl,trivial⟩) hc hF
   ·replace hF := condF hb hF
    clear hb
    refine wp_skip ?_
    exact hj9 b_2 _ _  (hf.keep ⟨rfl,rfl,trivial⟩) hc hF
  refine wp_seq_k fun K12 h12 => cQ hc follows_mx (by kernel_rfl) ?_
  refine qE hf rfl rfl rfl (Pu.ev (pM rfl)) fun a hf => qE hf rfl rfl rfl (Pu.ev (pNC rfl)) fun a hf => qE hf rfl rfl rfl (Pu.ev (pFA fa_161_1 rfl)) fun a hf => qE hf rfl rfl rfl (eLd1 sc_3 rfl (cell_box m0 rfl)) fun a hf => qE hf rfl rfl rfl (Pu.ev (pM rfl)) fun a hf => qE hf rfl rfl rfl (Pu.ev (pNC rfl)) fun a hf => qE hf rfl rfl rfl (Pu.ev (pFA fa_161_0 rfl)) fun a hf => qE hf rfl rfl rfl (eLd1 sc_53 rfl (cell_box m0 rfl)) fun a hf => qE hf rfl rfl rfl (Pu.ev (pLenS Try.underlying53 rfl)) fun a hf => qE hf rfl rfl rfl (Pu.ev (pGe rfl rfl)) fun a hf => ?_
  intro w hc
  refine h12 _ _ ?_
  refine cCond (b := (decide (((s_.bytes.length : Nat) : Int) ≤ s_.used))) hf rfl (fun hb => ?_) (fun hb => ?_)
  ·replace hF := condT hb hF
   clear hb
   obtain ⟨un_2,hun_2,hF⟩ := bnd_some hF
   refine cQ hc follows_mx (by kernel_rfl) ?_
   refine qE hf rfl rfl rfl (Pu.ev (pM rfl)) fun a hf => qE hf rfl rfl rfl (Pu.ev (pM rfl)) fun a hf => qE hf rfl rfl rfl (Pu.ev (pNC rfl)) fun a hf => qE hf rfl rfl rfl (Pu.ev (pFA fa_161_2 rfl)) fun a hf => qE hf rfl rfl rfl (eLd1 sc_3 rfl (cell_box m0 rfl)) fun a hf => qE hf rfl rfl rfl (Pu.ev (pMul rfl rfl)) fun a hf => qE hf rfl rfl rfl (Pu.ev (pM rfl)) fun a hf => qE hf rfl rfl rfl (Pu.ev (pNC rfl)) fun a hf => qE hf rfl rfl rfl (Pu.ev (pFA fa_161_1 rfl)) fun a hf => qE hf rfl rfl rfl (eLd1 sc_3 rfl (cell_box m0 rfl)) fun a hf => qE hf rfl rfl rfl (Pu.ev (pM rfl)) fun a hf => qE hf rfl rfl rfl (Pu.ev (pNC rfl)) fun a hf => qE hf rfl rfl rfl (Pu.ev (pFA fa_161_0 rfl)) fun a hf => ?_
   refine qE hf rfl rfl rfl (eLd1 sc_53 rfl (cell_box m0 rfl)) fun a hf => qE hf rfl rfl rfl (Pu.ev (pLenS Try.underlying53 rfl)) fun a hf => qE hf rfl rfl rfl (Pu.ev (pQuo rfl rfl (nz_spec hun_2))) fun a hf => qE hf rfl rfl rfl (Pu.ev (pAdd rfl rfl)) fun a hf => qE hf rfl rfl rfl (Pu.ev (pAdd rfl rfl)) fun a hf => qE hf rfl rfl rfl (Pu.ev (pA rfl)) fun a hf => ?_
   intro w hc
   exact hj6 (W ((W (e_1)) + (W ((W (11 * s_.mix)) + (W (s_.used.tdiv ((s_.bytes.length : Nat) : Int))))))) _ _  (hf.keep ⟨rfl,rfl,rfl,trivial⟩) hc hF
  ·replace hF := condF hb hF
   clear hb
   refine wp_skip ?_
   exact hj6 (W (e_1)) _ _  (hf.keep ⟨rfl,rfl,rfl,trivial⟩) hc hF

def kit_Stream_Within (N : Nat) (s_ : kit_Stream) (lo : Int) (hi_ : Int) : Option (Int × Int × Int) :=
 Option.bind (kit_Stream_Next N s_ (W ((W (hi_ - lo)) + 1))) fun r =>
 some (W (lo + r.1),r.2.1,r.2.2)
theorem kit_Stream_Within_ok {N : Nat} {G : Pers} {Lf : List Ent} {w : World} (s_ : kit_Stream) (lo : Int) (hi_ : Int) {b_ : Nat} {s__bytes_p : Option Addr} {s__bytes_c : Nat} (h_s__bytes : Rd G 1 s__bytes_p s__bytes_c (s_.bytes.map encI_u8)) (hc : Ctx G (.box b_ [.slice s__bytes_p s_.bytes.length s__bytes_c,.int .i64 s_.used,.int .i64 s_.mix] 161::Lf) w) {res : Int × Int × Int} (hF : kit_Stream_Within N s_ lo hi_ = some res) : Calls Try.prog 28 #[.pointer (some ⟨b_,0,none⟩),.int .i64 lo,.int .i64 hi_] w (fun e w => e = .returned (.int .i64 res.1) ∧ Ctx G (.box b_ [.slice s__bytes_p s_.bytes.length s__bytes_c,.int .i64 res.2.1,.int .i64 res.2.2] 161::Lf) w) := by
 unfold kit_Stream_Within at hF
 refine fnIn (args := [.pointer (some ⟨b_,0,none⟩),.int .i64 lo,.int .i64 hi_]) Try.func28 rfl Try.ntmps28 rfl fun a hf => wp_seq_k fun K1 h1 => cReg ?_
 refine stP hf rfl rfl rfl (pA rfl) fun a hf => cNil ?_
 refine h1 _ _ ?_
 refine wp_seq_k fun K2 h2 => cReg ?_
 refine stP hf rfl rfl rfl (pM rfl) fun a hf => stP hf rfl rfl rfl (pM rfl) fun a hf => stP hf rfl rfl rfl (pM rfl) fun a hf => stP hf rfl rfl rfl (pM rfl) fun a hf => stP hf rfl rfl rfl (pSub rfl rfl) fun a hf => stP hf rfl rfl rfl (pAdd rfl rfl) fun a hf => ?_
 obtain ⟨r,hr,hF⟩ := bnd_some hF
 refine stC (vs := [.pointer (some ⟨b_,0,none⟩),.int .i64 (W ((W (hi_ - lo)) + 1))]) (caps := []) hf rfl rfl rfl en_29 rfl rfl rfl rfl (kit_Stream_Next_ok s_ (W ((W (hi_ - lo)) + 1)) h_s__bytes (hc.pick k0) hr) ?_
 rintro _ w ⟨rfl,hc⟩
 refine ⟨_,rfl,fun a hf => ?_⟩
 refine stP hf rfl rfl rfl (pAdd rfl rfl) fun a hf => stP hf rfl rfl rfl (pA rfl) fun a hf => cNil ?_
 refine h2 _ _ ?_
 refine wp_ret ?_
 obtain rfl := Option.some.inj hF
 exact fnOut1 (by simp) rfl Try.results28 hf hc (show look _ 6 = _ from rfl) ⟨rfl,hc⟩

def law07_span (N : Nat) (lo : Int) (hi_ : Int) : Option (api_Span) :=
 some (⟨lo,hi_⟩ : api_Span)
theorem law07_span_ok {N : Nat} {G : Pers} {Lf : List Ent} {w : World} (lo : Int) (hi_ : Int)   (hc : Ctx G (Lf) w) {res : api_Span} (hF : law07_span N lo hi_ = some res) : Calls Try.prog 134 #[.int .i64 lo,.int .i64 hi_] w (fun e w => e = .returned (.agg #[.int .i64 res.Lo,.int .i64 res.Hi]) ∧ Ctx G (Lf) w) := by
 unfold law07_span at hF
 refine fnIn (args := [.int .i64 lo,.int .i64 hi_]) Try.func134 rfl Try.ntmps134 rfl fun a hf => wp_seq_k fun K1 h1 => cReg ?_
 refine stAl (cs := [.int .i64 0,.int .i64 0]) hf hc rfl rfl zr_26 rfl fun b_1 a w hf hc => cNil ?_
 refine h1 _ _ ?_
 refine wp_seq_k fun K2 h2 => cReg ?_
 refine stP hf rfl rfl rfl (pM rfl) fun a hf => stP hf rfl rfl rfl (pM rfl) fun a hf => stP hf rfl rfl rfl (pBuildS (cells := [.int .i64 lo,.int .i64 hi_]) bt_26 rfl rfl) fun a hf => stSt (vs := [.int .i64 lo,.int .i64 hi_]) hf hc rfl rfl rfl rfl sz_26 rfl rfl u0 fun w hc => cNil ?_
 refine h2 _ _ ?_
 refine wp_ret ?_
 obtain rfl := Option.some.inj hF
 exact fnOut1 (by simp) rfl Try.results134 hf hc (rv_cellN (vs := [.int .i64 lo,.int .i64 hi_]) ag_26 rfl rfl (cells_box (n := 2) m0 rfl)) ⟨rfl,(hc.drop k0)⟩

def law07_known (N : Nat) (lo : Int) (hi_ : Int) : Option (daily_Value) :=
 Option.bind (law07_span N lo hi_) fun r =>
 some (⟨true,r⟩ : daily_Value)
theorem law07_known_ok {N : Nat} {G : Pers} {Lf : List Ent} {w : World} (lo : Int) (hi_ : Int)   (hc : Ctx G (Lf) w) {res : daily_Value} (hF : law07_known N lo hi_ = some res) : Calls Try.prog 135 #[.int .i64 lo,.int .i64 hi_] w (fun e w => e = .returned (.agg #[.bool res.Known,.int .i64 res.Flow.Lo,.int .i64 res.Flow.Hi]) ∧ Ctx G (Lf) w) := by
 unfold law07_known at hF
 refine fnIn (args := [.int .i64 lo,.int .i64 hi_]) Try.func135 rfl Try.ntmps135 rfl fun a hf => wp_seq_k fun K1 h1 => cReg ?_
 refine stAl (cs := [.bool false,.int .i64 0,.int .i64 0]) hf hc rfl rfl zr_133 rfl fun b_1 a w hf hc => cNil ?_
 refine h1 _ _ ?_
 refine wp_seq_k fun K2 h2 => cReg ?_
 refine stP hf rfl rfl rfl (pM rfl) fun a hf => stP hf rfl rfl rfl (pM rfl) fun a hf => ?_
 obtain ⟨r,hr,hF⟩ := bnd_some hF
 refine stE hf hc rfl rfl rfl (eC (v := .agg #[.int .i64 r.Lo,.int .i64 r.Hi]) (vs := [.int .i64 lo,.int .i64 hi_]) (caps := []) en_134 rfl rfl rfl rfl (fun w hc => law07_span_ok lo hi_ hc hr)) fun a w hf hc => stP hf rfl rfl rfl (pBuildS (cells := [.bool true,.int .i64 r.Lo,.int .i64 r.Hi]) bt_133 rfl rfl) fun a hf => stSt (vs := [.bool true,.int .i64 r.Lo,.int .i64 r.Hi]) hf hc rfl rfl rfl rfl sz_133 rfl rfl u0 fun w hc => cNil ?_
 refine h2 _ _ ?_
 refine wp_ret ?_
 obtain rfl := Option.some.inj hF
 exact fnOut1 (by simp) rfl Try.results135 hf hc (rv_cellN (vs := [.bool true,.int .i64 r.Lo,.int .i64 r.Hi]) ag_133 rfl rfl (cells_box (n := 3) m0 rfl)) ⟨rfl,(hc.drop k0)⟩

def law07_Spanned (N : Nat) (s_ : kit_Stream) (flow : Int) : Option (daily_Value × Int × Int) :=
 Option.bind (kit_Stream_Next N s_ 3) fun r =>
 cond (r.1 == 0)
 (Option.bind (kit_Stream_Next N (⟨s_.bytes,r.2.1,r.2.2⟩ : kit_Stream) 9) fun r_1 =>
 Option.bind (kit_Stream_Within N (⟨s_.bytes,r_1.2.1,r_1.2.2⟩ : kit_Stream) (-3) 3) fun r_2 =>
 Option.bind (law07_span N r_1.1 r_2.1) fun r_3 =>
 some ((⟨false,r_3⟩ : daily_Value),r_2.2.1,r_2.2.2))
 (Option.bind (kit_Stream_Next N (⟨s_.bytes,r.2.1,r.2.2⟩ : kit_Stream) 50) fun r_4 =>
 Option.bind (kit_Stream_Next N (⟨s_.bytes,r_4.2.1,r_4.2.2⟩ : kit_Stream) 50) fun r_5 =>
 Option.bind (law07_known N (max 0 (W (flow - r_4.1))) (W (flow + r_5.1))) fun r_6 =>
 some (r_6,r_5.2.1,r_5.2.2))
theorem law07_Spanned_ok {N : Nat} {G : Pers} {Lf : List Ent} {w : World} (s_ : kit_Stream) (flow : Int) {b_ : Nat} {s__bytes_p : Option Addr} {s__bytes_c : Nat} (h_s__bytes : Rd G 1 s__bytes_p s__bytes_c (s_.bytes.map encI_u8)) (hc : Ctx G (.box b_ [.slice s__bytes_p s_.bytes.length s__bytes_c,.int .i64 s_.used,.int .i64 s_.mix] 161::Lf) w) {res : daily_Value × Int × Int} (hF : law07_Spanned N s_ flow = some res) : Calls Try.prog 105 #[.pointer (some ⟨b_,0,none⟩),.int .i64 flow] w (fun e w => e = .returned (.agg #[.bool res.1.Known,.int .i64 res.1.Flow.Lo,.int .i64 res.1.Flow.Hi]) ∧ Ctx G (.box b_ [.slice s__bytes_p s_.bytes.length s__bytes_c,.int .i64 res.2.1,.int .i64 res.2.2] 161::Lf) w) := by
 unfold law07_Spanned at hF
 refine fnIn (args := [.pointer (some ⟨b_,0,none⟩),.int .i64 flow]) Try.func105 rfl Try.ntmps105 rfl fun a hf => wp_seq_k fun K1 h1 => cReg ?_
 refine stAl (cs := [.bool false,.int .i64 0,.int .i64 0]) hf hc rfl rfl zr_133 rfl fun b_1 a w hf hc => cNil ?_
 refine h1 _ _ ?_
 refine wp_seq_k fun K2 h2 => wp_seq_k fun K3 h3 => cReg ?_
 refine stP hf rfl rfl rfl (pM rfl) fun a hf => ?_
 obtain ⟨r,hr,hF⟩ := bnd_some hF
 refine stC (vs := [.pointer (some ⟨b_,0,none⟩),.int .i64 3]) (caps := []) hf rfl rfl rfl en_29 rfl rfl rfl rfl (kit_Stream_Next_ok s_ 3 h_s__bytes (hc.pick k1) hr) ?_
 rintro _ w ⟨rfl,hc⟩
 refine ⟨_,rfl,fun a hf => ?_⟩
 refine stP hf rfl rfl rfl (pEq rfl rfl) fun a hf => cNil ?_
 refine h3 _ _ ?_
 refine cCond (b := (r.1 == 0)) hf rfl (fun hb => ?_) (fun hb => ?_)
 ·replace hF := condT hb hF
  clear hb
  refine wp_seq_k fun K4 h4 => cReg ?_
  refine stP hf rfl rfl rfl (pM rfl) fun a hf => ?_
  obtain ⟨r_1,hr_1,hF⟩ := bnd_some hF
  refine stC (vs := [.pointer (some ⟨b_,0,none⟩),.int .i64 9]) (caps := []) hf rfl rfl rfl en_29 rfl rfl rfl rfl (kit_Stream_Next_ok (⟨s_.bytes,r.2.1,r.2.2⟩ : kit_Stream) 9 h_s__bytes (hc.pick k0) hr_1) ?_
  rintro _ w ⟨rfl,hc⟩
  refine ⟨_,rfl,fun a hf => ?_⟩
  refine stP hf rfl rfl rfl (pM rfl) fun a hf => ?_
  obtain ⟨r_2,hr_2,hF⟩ := bnd_some hF
  refine stC (vs := [.pointer (some ⟨b_,0,none⟩),.int .i64 (-3),.int .i64 3]) (caps := []) hf rfl rfl rfl en_28 rfl rfl rfl rfl (kit_Stream_Within_ok (⟨s_.bytes,r_1.2.1,r_1.2.2⟩ : kit_Stream) (-3) 3 h_s__bytes (hc.pick k0) hr_2) ?_
  rintro _ w ⟨rfl,hc⟩
  refine ⟨_,rfl,fun a hf => ?_⟩
  obtain ⟨r_3,hr_3,hF⟩ := bnd_some hF
  refine stE hf hc rfl rfl rfl (eC (v := .agg #[.int .i64 r_3.Lo,.int .i64 r_3.Hi]) (vs := [.int .i64 r_1.1,.int .i64 r_2.1]) (caps := []) en_134 rfl rfl rfl rfl (fun w hc => law07_span_ok r_1.1 r_2.1 hc hr_3)) fun a w hf hc => stP hf rfl rfl rfl (pBuildS (cells := [.bool false,.int .i64 r_3.Lo,.int .i64 r_3.Hi]) bt_133 rfl rfl) fun a hf => stSt (vs := [.bool false,.int .i64 r_3.Lo,.int .i64 r_3.Hi]) hf hc rfl rfl rfl rfl sz_133 rfl rfl u1 fun w hc => cNil ?_
  refine h4 _ _ ?_
  refine wp_ret ?_
  refine xThenR ?_
  obtain rfl := Option.some.inj hF
  exact fnOut1 (by simp) rfl Try.results105 hf hc (rv_cellN (vs := [.bool false,.int .i64 r_3.Lo,.int .i64 r_3.Hi]) ag_133 rfl rfl (cells_box (n := 3) m1 rfl)) ⟨rfl,(hc.drop k1)⟩
 ·replace hF := condF hb hF
  clear hb
  refine wp_skip ?_
  refine h2 _ _ ?_
  refine wp_seq_k fun K5 h5 => cReg ?_
  refine stP hf rfl rfl rfl (pM rfl) fun a hf => stP hf rfl rfl rfl (pM rfl) fun a hf => ?_
  obtain ⟨r_4,hr_4,hF⟩ := bnd_some hF
  refine stC (vs := [.pointer (some ⟨b_,0,none⟩),.int .i64 50]) (caps := []) hf rfl rfl rfl en_29 rfl rfl rfl rfl (kit_Stream_Next_ok (⟨s_.bytes,r.2.1,r.2.2⟩ : kit_Stream) 50 h_s__bytes (hc.pick k0) hr_4) ?_
  rintro _ w ⟨rfl,hc⟩
  refine ⟨_,rfl,fun a hf => ?_⟩
  refine stP hf rfl rfl rfl (pSub rfl rfl) fun a hf => stP hf rfl rfl rfl (pMax2 rfl rfl) fun a hf => stP hf rfl rfl rfl (pM rfl) fun a hf => stP hf rfl rfl rfl (pM rfl) fun a hf => ?_
  obtain ⟨r_5,hr_5,hF⟩ := bnd_some hF
  refine stC (vs := [.pointer (some ⟨b_,0,none⟩),.int .i64 50]) (caps := []) hf rfl rfl rfl en_29 rfl rfl rfl rfl (kit_Stream_Next_ok (⟨s_.bytes,r_4.2.1,r_4.2.2⟩ : kit_Stream) 50 h_s__bytes (hc.pick k0) hr_5) ?_
  rintro _ w ⟨rfl,hc⟩
  refine ⟨_,rfl,fun a hf => ?_⟩
  refine stP hf rfl rfl rfl (pAdd rfl rfl) fun a hf => ?_
  obtain ⟨r_6,hr_6,hF⟩ := bnd_some hF
  refine stE hf hc rfl rfl rfl (eC (v := .agg #[.bool r_6.Known,.int .i64 r_6.Flow.Lo,.int .i64 r_6.Flow.Hi]) (vs := [.int .i64 (max 0 (W (flow - r_4.1))),.int .i64 (W (flow + r_5.1))]) (caps := []) en_135 rfl rfl rfl rfl (fun w hc => law07_known_ok (max 0 (W (flow - r_4.1))) (W (flow + r_5.1)) hc hr_6)) fun a w hf hc => stSt (vs := [.bool r_6.Known,.int .i64 r_6.Flow.Lo,.int .i64 r_6.Flow.Hi]) hf hc rfl rfl rfl rfl sz_133 rfl rfl u1 fun w hc => cNil ?_
  refine h5 _ _ ?_
  refine wp_ret ?_
  obtain rfl := Option.some.inj hF
  exact fnOut1 (by simp) rfl Try.results105 hf hc (rv_cellN (vs := [.bool r_6.Known,.int .i64 r_6.Flow.Lo,.int .i64 r_6.Flow.Hi]) ag_133 rfl rfl (cells_box (n := 3) m1 rfl)) ⟨rfl,(hc.drop k1)⟩

def law07_Made_b7 (N : Nat) (s_ : kit_Stream) (r : Int × Int × Int) (r_1 : Int × Int × Int) (r_3 : Int × Int × Int) (flow : Int) (truth : List Int) (x : Int) (b__0 : Int) (b__1 : Int) (x_1 : List daily_Value) : Option (Step (Int × (List Int) × Int × Int × Int × (List daily_Value)) (daily_Record × (List Int) × Int × Int)) :=
 cond (decide (x < r_3.1))
 (Option.bind (room ((truth ++ [flow])).length) fun un =>
 Option.bind (law07_Spanned N (⟨s_.bytes,b__0,b__1⟩ : kit_Stream) flow) fun r_4 =>
 Option.bind (room ((x_1 ++ [r_4.1])).length) fun un_1 =>
 Option.bind (kit_Stream_Within N (⟨s_.bytes,r_4.2.1,r_4.2.2⟩ : kit_Stream) (W (flow - r_1.1)) (W (flow + r.1))) fun r_5 =>
 some (.cont (max 0 r_5.1,(truth ++ [flow]),W (x + 1),r_5.2.1,r_5.2.2,(x_1 ++ [r_4.1]))))
 (some (.brk (flow,truth,x,b__0,b__1,x_1)))
def law07_Made (N : Nat) (s_ : kit_Stream) (most : Int) : Option (daily_Record × (List Int) × Int × Int) :=
 Option.bind (kit_Stream_Next N s_ 40) fun r =>
 Option.bind (kit_Stream_Next N (⟨s_.bytes,r.2.1,r.2.2⟩ : kit_Stream) 40) fun r_1 =>
 Option.bind (kit_Stream_Within N (⟨s_.bytes,r_1.2.1,r_1.2.2⟩ : kit_Stream) 50 400) fun r_2 =>
 Option.bind (kit_Stream_Within N (⟨s_.bytes,r_2.2.1,r_2.2.2⟩ : kit_Stream) 1 most) fun r_3 =>
 Option.bind (loopO (fun s7 => law07_Made_b7 N s_ r r_1 r_3 s7.1 s7.2.1 s7.2.2.1 s7.2.2.2.1 s7.2.2.2.2.1 s7.2.2.2.2.2) N (r_2.1,([] : List Int),0,r_3.2.1,r_3.2.2,([] : List daily_Value))) fun x7 =>
 exK x7 (fun s7 => some ((⟨r.1,r_1.1,s7.2.2.2.2.2⟩ : daily_Record),s7.2.1,s7.2.2.2.1,s7.2.2.2.2.1)) some
theorem law07_Made_ok {N : Nat} {G : Pers} {Lf : List Ent} {w : World} (s_ : kit_Stream) (most : Int) {b_ : Nat} {s__bytes_p : Option Addr} {s__bytes_c : Nat} (h_s__bytes : Rd G 1 s__bytes_p s__bytes_c (s_.bytes.map encI_u8)) (hc : Ctx G (.box b_ [.slice s__bytes_p s_.bytes.length s__bytes_c,.int .i64 s_.used,.int .i64 s_.mix] 161::Lf) w) {res : daily_Record × (List Int) × Int × Int} (hF : law07_Made N s_ most = some res) : Calls Try.prog 61 #[.pointer (some ⟨b_,0,none⟩),.int .i64 most] w (fun e w => ∃ (p'1 : Option Addr) (c'1 : Nat) (p'2 : Option Addr) (c'2 : Nat),e = .returned (.tuple #[.agg #[.int .i64 res.1.Rise,.int .i64 res.1.Fall,.slice p'1 res.1.Days.length c'1],.slice p'2 res.2.1.length c'2]) ∧ Ctx G (.row p'1 c'1 (res.1.Days.map enc_daily_Value) 133 3::.row p'2 c'2 (res.2.1.map encI_i64) 3 1::.box b_ [.slice s__bytes_p s_.bytes.length s__bytes_c,.int .i64 res.2.2.1,.int .i64 res.2.2.2] 161::Lf) w) := by
 unfold law07_Made at hF
 refine fnIn (args := [.pointer (some ⟨b_,0,none⟩),.int .i64 most]) Try.func61 rfl Try.ntmps61 rfl fun a hf => wp_seq_k fun K1 h1 => cReg ?_
 refine stAl (cs := [.int .i64 0,.int .i64 0,.slice none 0 0]) hf hc rfl rfl zr_127 rfl fun b_1 a w hf hc => stP hf rfl rfl rfl (pA rfl) fun a hf => cNil ?_
 refine h1 _ _ ?_
 refine wp_seq_k fun K2 h2 => cReg ?_
 refine stP hf rfl rfl rfl (pM rfl) fun a hf => ?_
 obtain ⟨r,hr,hF⟩ := bnd_some hF
 refine stC (vs := [.pointer (some ⟨b_,0,none⟩),.int .i64 40]) (caps := []) hf rfl rfl rfl en_29 rfl rfl rfl rfl (kit_Stream_Next_ok s_ 40 h_s__bytes (hc.pick k1) hr) ?_
 rintro _ w ⟨rfl,hc⟩
 refine ⟨_,rfl,fun a hf => ?_⟩
 refine stP hf rfl rfl rfl (pM rfl) fun a hf => ?_
 obtain ⟨r_1,hr_1,hF⟩ := bnd_some hF
 refine stC (vs := [.pointer (some ⟨b_,0,none⟩),.int .i64 40]) (caps := []) hf rfl rfl rfl en_29 rfl rfl rfl rfl (kit_Stream_Next_ok (⟨s_.bytes,r.2.1,r.2.2⟩ : kit_Stream) 40 h_s__bytes (hc.pick k0) hr_1) ?_
 rintro _ w ⟨rfl,hc⟩
 refine ⟨_,rfl,fun a hf => ?_⟩
 refine stP hf rfl rfl rfl (pBuildS (cells := [.int .i64 r.1,.int .i64 r_1.1,.slice none 0 0]) bt_127 rfl rfl) fun a hf => stAl (cs := [.int .i64 0,.int .i64 0,.slice none 0 0]) hf hc rfl rfl zr_127 rfl fun b_2 a w hf hc => stSt (vs := [.int .i64 r.1,.int .i64 r_1.1,.slice none 0 0]) hf hc rfl rfl rfl rfl sz_127 rfl rfl u0 fun w hc => cNil ?_
 refine h2 _ _ ?_
 refine wp_seq_k fun K3 h3 => cReg ?_
 refine stP hf rfl rfl rfl (pM rfl) fun a hf => ?_
 obtain ⟨r_2,hr_2,hF⟩ := bnd_some hF
 refine stC (vs := [.pointer (some ⟨b_,0,none⟩),.int .i64 50,.int .i64 400]) (caps := []) hf rfl rfl rfl en_28 rfl rfl rfl rfl (kit_Stream_Within_ok (⟨s_.bytes,r_1.2.1,r_1.2.2⟩ : kit_Stream) 50 400 h_s__bytes (hc.pick k1) hr_2) ?_
 rintro _ w ⟨rfl,hc⟩
 refine ⟨_,rfl,fun a hf => ?_⟩
 refine stP hf rfl rfl rfl (pA rfl) fun a hf => cNil ?_
 refine h3 _ _ ?_
 refine wp_seq_k fun K4 h4 => cReg ?_
 refine stP hf rfl rfl rfl (pA rfl) fun a hf => cNil ?_
 refine h4 _ _ ?_
 refine wp_seq_k fun K5 h5 => wp_seq_k fun K6 h6 => cReg ?_
 refine stP hf rfl rfl rfl (pM rfl) fun a hf => stP hf rfl rfl rfl (pM rfl) fun a hf => ?_
 obtain ⟨r_3,hr_3,hF⟩ := bnd_some hF
 refine stC (vs := [.pointer (some ⟨b_,0,none⟩),.int .i64 1,.int .i64 most]) (caps := []) hf rfl rfl rfl en_28 rfl rfl rfl rfl (kit_Stream_Within_ok (⟨s_.bytes,r_2.2.1,r_2.2.2⟩ : kit_Stream) 1 most h_s__bytes (hc.pick k0) hr_3) ?_
 rintro _ w ⟨rfl,hc⟩
 refine ⟨_,rfl,fun a hf => ?_⟩
 refine stP hf rfl rfl rfl (pM rfl) fun a hf => cNil ?_
 refine h6 _ _ ?_
 refine wp_block ?_
 obtain ⟨x7,hx7,hF⟩ := bnd_some hF
 let S7 : (Int × (List Int) × Int × Int × Int × (List daily_Value)) → Act → World → Prop := (fun (zz : Int × (List Int) × Int × Int × Int × (List daily_Value)) a w => ∃ (p_1 : Option Addr) (c_1 : Nat) (p_2 : Option Addr) (c_2 : Nat),Has 47 a [(0,.pointer (some ⟨b_,0,none⟩)),(4,.pointer (some ⟨b_1,0,none⟩)),(6,.pointer (some ⟨b_2,0,none⟩)),(7,.int .i64 zz.1),(8,.slice p_1 zz.2.1.length c_1),(18,.int .i64 r_3.1),(19,.int .i64 zz.2.2.1)] ∧ Ctx G (.row p_2 c_2 (zz.2.2.2.2.2.map enc_daily_Value) 133 3::.row p_1 c_1 (zz.2.1.map encI_i64) 3 1::.box b_ [.slice s__bytes_p s_.bytes.length s__bytes_c,.int .i64 zz.2.2.2.1,.int .i64 zz.2.2.2.2.1] 161::.box b_2 [.int .i64 r.1,.int .i64 r_1.1,.slice p_2 zz.2.2.2.2.2.length c_2] 127::.box b_1 [.int .i64 0,.int .i64 0,.slice none 0 0] 127::Lf) w)
 have hr7 : ∀ (zz : Int × (List Int) × Int × Int × Int × (List daily_Value)) a w,x7 = .go zz → S7 zz a w → K5 a w := by
  rintro ⟨flow,truth,x,b__0,b__1,x_1⟩ a w rfl ⟨p_1,c_1,p_2,c_2,hf,hc⟩
  replace hF := exK_go hF
  refine h5 _ _ ?_
  refine wp_seq_k fun K8 h8 => cReg ?_
  refine stE hf hc rfl rfl rfl (eLdN (vs := [.int .i64 r.1,.int .i64 r_1.1,.slice p_2 x_1.length c_2]) ag_127 rfl rfl (cells_box (n := 3) m3 rfl)) fun a w hf hc => stP hf rfl rfl rfl (pM rfl) fun a hf => stSt (vs := [.int .i64 r.1,.int .i64 r_1.1,.slice p_2 x_1.length c_2]) hf hc rfl rfl rfl rfl sz_127 rfl rfl u4 fun w hc => stP hf rfl rfl rfl (pA rfl) fun a hf => cNil ?_
  refine h8 _ _ ?_
  refine wp_ret ?_
  obtain rfl := Option.some.inj hF
  replace hc := hc.drop k3
  exact fnOut2 (by simp) rfl Try.results61 hf hc (rv_cellN (vs := [.int .i64 r.1,.int .i64 r_1.1,.slice p_2 x_1.length c_2]) ag_127 rfl rfl (cells_box (n := 3) m3 rfl)) (show look _ 5 = _ from rfl) ⟨p_2,c_2,p_1,c_1,rfl,(hc.drop k3)⟩
 have ho7 : ∀ r,x7 = .out r → r = res := by
  rintro r rfl
  exact Option.some.inj hF
 replace hc := hc.nilRow 3 1
 replace hc := hc.nilRow 133 3
 refine cLoop N (loopW (S := S7) (x := x7) ?_ N (r_2.1,([] : List Int),0,r_3.2.1,r_3.2.2,([] : List daily_Value)) _ _ ⟨none,0,none,0,hf.keep ⟨rfl,rfl,rfl,rfl,rfl,rfl,rfl,trivial⟩,hc⟩ hx7)
 clear hF hf hc
 rintro ⟨flow,truth,x,b__0,b__1,x_1⟩ st7 a w KB7 ⟨p_1,c_1,p_2,c_2,hf,hc⟩ hF hfin7 hK7
 unfold law07_Made_b7 at hF
 refine wp_seq_k fun K9 h9 => cReg ?_
 refine stP hf rfl rfl rfl (pLt rfl rfl) fun a hf => cNil ?_
 refine h9 _ _ ?_
 refine wp_seq_k fun K10 h10 => cCond (b := (decide (x < r_3.1))) hf rfl (fun hb => ?_) (fun hb => ?_)
 ·replace hF := condT hb hF
  clear hb
  refine wp_skip ?_
  refine h10 _ _ ?_
  refine wp_seq_k fun K11 h11 => wp_block ?_
  refine wp_seq_k fun K12 h12 => cReg ?_
  refine stP hf rfl rfl rfl (pM rfl) fun a hf => stP hf rfl rfl rfl (pM rfl) fun a hf => stBS (rows := ([flow] : List Int).map encI_i64) (vs := [(0,.int .i64 flow)]) hf hc rfl rfl sl_36 rfl ⟨rfl,rfl,rfl,trivial⟩ rfl rfl fun b_3 a w hf hc => ?_
  obtain ⟨un,hun,hF⟩ := bnd_some hF
  refine stApm (xs := truth) (ys := ([flow] : List Int)) hf hc rfl rfl sl_36 rfl rfl rfl rfl rfl one_encI_i64 (src_row hc m0) (fun _ _ => u2) (by simpa using room_spec hun) fun p_3 c_3 a w hf hc => stP hf rfl rfl rfl (pA rfl) fun a hf => cNil ?_
  refine h12 _ _ ?_
  refine wp_seq_k fun K13 h13 => ?_
  obtain ⟨r_4,hr_4,hF⟩ := bnd_some hF
  obtain ⟨un_1,hun_1,hF⟩ := bnd_some hF
  replace hc := hc.nilRow 0 0
  refine regionE (fun θ => [⟨none,none,0,.pointer (some ⟨b_,0,none⟩)⟩,⟨none,none,4,.pointer (some ⟨b_1,0,none⟩)⟩,⟨none,none,6,.pointer (some ⟨b_2,0,none⟩)⟩,⟨none,none,7,.int .i64 flow⟩,⟨none,none,8,.slice p_3 ((truth ++ [flow]).length) c_3⟩,⟨none,none,18,.int .i64 r_3.1⟩,⟨none,none,19,.int .i64 x⟩,⟨some 0,none,25,.pointer (some ⟨b_2,2,none⟩)⟩,⟨some 1,none,26,.slice p_2 x_1.length c_2⟩,⟨some 2,none,27,.pointer (some ⟨b_,0,none⟩)⟩,⟨some 3,none,28,.int .i64 flow⟩,⟨some 4,none,29,.agg #[.bool r_4.1.Known,.int .i64 r_4.1.Flow.Lo,.int .i64 r_4.1.Flow.Hi]⟩,⟨some 5,none,30,.slice (some ⟨(θ 40).b,0,none⟩) 1 1⟩,⟨some 6,none,31,.slice ((θ 48).p) ((x_1 ++ [r_4.1]).length) ((θ 48).c)⟩,⟨some 7,none,32,.pointer (some ⟨b_2,2,none⟩)⟩]) (fun E θ => (bif E 5 then .row (some ⟨(θ 40).b,0,none⟩) 1 (([r_4.1] : List daily_Value).map enc_daily_Value) 133 3 else .row none 0 [] 0 0)::.row (some ⟨b_3,0,none⟩) 1 (([flow] : List Int).map encI_i64) 3 1::(bif E 6 then .row ((θ 48).p) ((θ 48).c) ((x_1 ++ [r_4.1]).map enc_daily_Value) 133 3 else .row p_2 c_2 (x_1.map enc_daily_Value) 133 3)::.row p_3 c_3 ((truth ++ [flow]).map encI_i64) 3 1::(bif E 4 then .box b_ [.slice s__bytes_p s_.bytes.length s__bytes_c,.int .i64 r_4.2.1,.int .i64 r_4.2.2] 161 else .box b_ [.slice s__bytes_p s_.bytes.length s__bytes_c,.int .i64 b__0,.int .i64 b__1] 161)::(bif E 8 then .box b_2 [.int .i64 r.1,.int .i64 r_1.1,.slice ((θ 48).p) ((x_1 ++ [r_4.1]).length) ((θ 48).c)] 127 else .box b_2 [.int .i64 r.1,.int .i64 r_1.1,.slice p_2 x_1.length c_2] 127)::.box b_1 [.int .i64 0,.int .i64 0,.slice none 0 0] 127::Lf) [(8,1),(6,4),(8,6)] (fun a w => ∃ (b_5 : Nat) (p_5 : Option Addr) (c_5 : Nat),Has 47 a [(0,.pointer (some ⟨b_,0,none⟩)),(4,.pointer (some ⟨b_1,0,none⟩)),(6,.pointer (some ⟨b_2,0,none⟩)),(7,.int .i64 flow),(8,.slice p_3 ((truth ++ [flow]).length) c_3),(18,.int .i64 r_3.1),(19,.int .i64 x)] ∧ Ctx G (.row (some ⟨b_5,0,none⟩) 1 (([r_4.1] : List daily_Value).map enc_daily_Value) 133 3::.row (some ⟨b_3,0,none⟩) 1 (([flow] : List Int).map encI_i64) 3 1::.row p_5 c_5 ((x_1 ++ [r_4.1]).map enc_daily_Value) 133 3::.row p_3 c_3 ((truth ++ [flow]).map encI_i64) 3 1::.box b_ [.slice s__bytes_p s_.bytes.length s__bytes_c,.int .i64 r_4.2.1,.int .i64 r_4.2.2] 161::.box b_2 [.int .i64 r.1,.int .i64 r_1.1,.slice p_5 ((x_1 ++ [r_4.1]).length) c_5] 127::.box b_1 [.int .i64 0,.int .i64 0,.slice none 0 0] 127::Lf) w) follows_mx (by kernel_rfl) (by kernel_rfl) (HasE.of hf ⟨rfl,rfl,rfl,rfl,rfl,rfl,rfl,trivial,trivial,trivial,trivial,trivial,trivial,trivial,trivial,trivial⟩) hc ⟨?_,?_,?_,?_,?_,?_,?_,?_,?_,trivial⟩ ?_ ?_
  ·intro E θ a w hD hi hp he hc
   have hf := he.h0
   replace hf := hf.more he 2 rfl onT
   refine stP hf rfl rfl rfl (pFA fa_127_2 rfl) fun a hf => cNil ?_
   refine xThenN ?_
   intro ds u hau
   refine ⟨θ,he.put0 hi hau hf rfl 7 rfl rfl,?_⟩
   exact hc
  ·intro E θ a w hD hi hp he hc
   have e0 := hp.of (k := 0) rfl
   have e8 := hD.f 0 rfl hi
   try dsimp only at hc
   rw [e8] at hc
   have hf := he.h0
   replace hf := hf.more he 7 rfl (onP e0)
   refine stE hf hc rfl rfl rfl (eLd1 sc_125 rfl (cell_box m5 rfl)) fun a w hf hc => cNil ?_
   refine xThenN ?_
   intro ds u hau
   refine ⟨θ,he.put0 hi hau hf rfl 8 rfl rfl,?_⟩
   try dsimp only
   rw [updE_fls 1 e8 rfl]
   exact hc
  ·intro E θ a w hD hi hp he hc
   have hf := he.h0
   replace hf := hf.more he 0 rfl onT
   refine stP hf rfl rfl rfl (pM rfl) fun a hf => cNil ?_
   refine xThenN ?_
   intro ds u hau
   refine ⟨θ,he.put0 hi hau hf rfl 9 rfl rfl,?_⟩
   exact hc
  ·intro E θ a w hD hi hp he hc
   have hf := he.h0
   replace hf := hf.more he 3 rfl onT
   refine stP hf rfl rfl rfl (pM rfl) fun a hf => cNil ?_
   refine xThenN ?_
   intro ds u hau
   refine ⟨θ,he.put0 hi hau hf rfl 10 rfl rfl,?_⟩
   exact hc
  ·intro E θ a w hD hi hp he hc
   have e2 := hp.of (k := 2) rfl
   have e3 := hp.of (k := 3) rfl
   have e6 := hD.f 1 rfl hi
   try dsimp only at hc
   rw [e6,hi] at hc
   have hf := he.h0
   replace hf := hf.more he 9 rfl (onP e2)
   replace hf := hf.more he 10 rfl (onP e3)
   refine stC (vs := [.pointer (some ⟨b_,0,none⟩),.int .i64 flow]) (caps := []) hf rfl rfl rfl en_105 rfl rfl rfl rfl (law07_Spanned_ok (⟨s_.bytes,b__0,b__1⟩ : kit_Stream) flow h_s__bytes (hc.pick k4) hr_4) ?_
   rintro _ w ⟨rfl,hc⟩
   refine ⟨_,rfl,fun a hf => ?_⟩
   refine cNil ?_
   refine xThenN ?_
   intro ds u hau
   replace hc := hc.pick k0
   replace hc := hc.pick k4
   replace hc := hc.pick k4
   replace hc := hc.pick k4
   replace hc := hc.pick k4
   refine ⟨θ,he.put0 hi hau hf rfl 11 rfl rfl,?_⟩
   try dsimp only
   rw [updE_fls 4 e6 rfl,updE_self E 4]
   exact hc
  ·intro E θ a w hD hi hp he hc
   have e4 := hp.of (k := 4) rfl
   try dsimp only at hc
   rw [hi] at hc
   have hf := he.h0
   replace hf := hf.more he 11 rfl (onP e4)
   refine stBS (rows := ([r_4.1] : List daily_Value).map enc_daily_Value) (vs := [(0,.agg #[.bool r_4.1.Known,.int .i64 r_4.1.Flow.Lo,.int .i64 r_4.1.Flow.Hi])]) hf hc rfl rfl sl_125 rfl ⟨rfl,rfl,rfl,trivial⟩ rfl rfl fun b_4 a w hf hc => cNil ?_
   refine xThenN ?_
   intro ds u hau
   replace hc := hc.drop k1
   refine ⟨(setT θ 40 ⟨b_4,none,0,(fun _ => (none,0))⟩),he.put hi hau hf rfl [] trivial ⟨qq,qq,qq,qq,qq,qq,qq,qq,qq,qq,qq,qq,qq,qq,qq,trivial⟩,?_⟩
   try dsimp only
   rw [updE_self E 5]
   exact hc
  ·intro E θ a w hD hi hp he hc
   have e1 := hp.of (k := 1) rfl
   have e5 := hp.of (k := 5) rfl
   have e8 := hD.f 2 rfl hi
   try dsimp only at hc
   rw [e5,hi,e8] at hc
   have hf := he.h0
   replace hf := hf.more he 8 rfl (onP e1)
   replace hf := hf.more he 12 rfl (onP e5)
   refine stApm (xs := x_1) (ys := ([r_4.1] : List daily_Value)) hf hc rfl rfl sl_125 rfl rfl rfl rfl rfl one_enc_daily_Value (src_row hc m0) (fun _ _ => u2) (by simpa using room_spec hun_1) fun p_4 c_4 a w hf hc => cNil ?_
   refine xThenN ?_
   intro ds u hau
   refine ⟨(setT θ 48 ⟨0,p_4,c_4,(fun _ => (none,0))⟩),he.put hi hau hf rfl [] trivial ⟨qq,qq,qq,qq,qq,qq,qq,qq,qq,qq,qq,qq,qq,qq,qq,trivial⟩,?_⟩
   try dsimp only
   rw [updE_tru 6 e5,updE_self E 6,updE_fls 6 e8 rfl]
   exact hc
  ·intro E θ a w hD hi hp he hc
   have hf := he.h0
   replace hf := hf.more he 2 rfl onT
   refine stP hf rfl rfl rfl (pFA fa_127_2 rfl) fun a hf => cNil ?_
   refine xThenN ?_
   intro ds u hau
   refine ⟨θ,he.put0 hi hau hf rfl 14 rfl rfl,?_⟩
   exact hc
  ·intro E θ a w hD hi hp he hc
   have e6 := hp.of (k := 6) rfl
   have e7 := hp.of (k := 7) rfl
   try dsimp only at hc
   rw [hi] at hc
   have hf := he.h0
   replace hf := hf.more he 13 rfl (onP e6)
   replace hf := hf.more he 14 rfl (onP e7)
   refine stSt (vs := [.slice ((θ 48).p) ((x_1 ++ [r_4.1]).length) ((θ 48).c)]) hf hc rfl rfl rfl rfl sz_125 rfl rfl u5 fun w hc => cNil ?_
   refine xThenN ?_
   intro ds u hau
   refine ⟨θ,he.stay0 hi hau hf rfl,?_⟩
   try dsimp only
   rw [updE_self E 8]
   exact hc
  ·intro E θ a w hall he hc
   have hf := he.h0
   have e4 := hall 4 rfl
   have e5 := hall 5 rfl
   have e6 := hall 6 rfl
   have e8 := hall 8 rfl
   replace hf := hf.more he 6 rfl (onT)
   replace hf := hf.more he 5 rfl (onT)
   replace hf := hf.more he 4 rfl (onT)
   replace hf := hf.more he 3 rfl (onT)
   replace hf := hf.more he 2 rfl (onT)
   replace hf := hf.more he 1 rfl (onT)
   replace hf := hf.more he 0 rfl (onT)
   try dsimp only at hc
   rw [e4,e5,e6,e8] at hc
   exact ⟨(θ 40).b,(θ 48).p,(θ 48).c,hf.keep ⟨rfl,rfl,rfl,rfl,rfl,rfl,rfl,trivial⟩,hc⟩
  rintro a w ⟨b_5,p_5,c_5,hf,hc⟩
  refine h13 _ _ ?_
  refine cReg ?_
  refine stP hf rfl rfl rfl (pM rfl) fun a hf => stP hf rfl rfl rfl (pM rfl) fun a hf => stP hf rfl rfl rfl (pFA fa_127_1 rfl) fun a hf => stE hf hc rfl rfl rfl (eLd1 sc_3 rfl (cell_box m5 rfl)) fun a w hf hc => stP hf rfl rfl rfl (pSub rfl rfl) fun a hf => stP hf rfl rfl rfl (pM rfl) fun a hf => stP hf rfl rfl rfl (pFA fa_127_0 rfl) fun a hf => stE hf hc rfl rfl rfl (eLd1 sc_3 rfl (cell_box m5 rfl)) fun a w hf hc => stP hf rfl rfl rfl (pAdd rfl rfl) fun a hf => ?_
  obtain ⟨r_5,hr_5,hF⟩ := bnd_some hF
  refine stC (vs := [.pointer (some ⟨b_,0,none⟩),.int .i64 (W (flow - r_1.1)),.int .i64 (W (flow + r.1))]) (caps := []) hf rfl rfl rfl en_28 rfl rfl rfl rfl (kit_Stream_Within_ok (⟨s_.bytes,r_4.2.1,r_4.2.2⟩ : kit_Stream) (W (flow - r_1.1)) (W (flow + r.1)) h_s__bytes (hc.pick k4) hr_5) ?_
  rintro _ w ⟨rfl,hc⟩
  refine ⟨_,rfl,fun a hf => ?_⟩
  refine stP hf rfl rfl rfl (pMax2 rfl rfl) fun a hf => stP hf rfl rfl rfl (pA rfl) fun a hf => cNil ?_
  refine h11 _ _ ?_
  refine cReg ?_
  refine stP hf rfl rfl rfl (pAdd rfl rfl) fun a hf => stP hf rfl rfl rfl (pM rfl) fun a hf => cNil ?_
  replace hc := hc.drop k2
  replace hc := hc.drop k1
  replace hc := hc.pick k0
  replace hc := hc.pick k2
  replace hc := hc.pick k2
  exact hK7 (max 0 r_5.1,(truth ++ [flow]),W (x + 1),r_5.2.1,r_5.2.2,(x_1 ++ [r_4.1])) _ _ (Option.some.inj hF).symm ⟨p_3,c_3,p_5,c_5,hf.keep ⟨rfl,rfl,rfl,rfl,rfl,rfl,rfl,trivial⟩,hc⟩
 ·replace hF := condF hb hF
  clear hb
  refine wp_exit ?_
  refine xThen ?_
  refine xThen ?_
  have he := Option.some.inj hF
  rw [← he] at hfin7
  refine cHit ?_
  exact hr7 _ _ _ hfin7 ⟨p_1,c_1,p_2,c_2,hf.keep ⟨rfl,rfl,rfl,rfl,rfl,rfl,rfl,trivial⟩,hc⟩

def law09_Made_b5 (N : Nat) (s_ : kit_Stream) (r : Int × Int × Int) (r_1 : Int × Int × Int) (x : Int) (b__0 : Int) (b__1 : Int) (x_1 : List share_Right) : Option (Step (Int × Int × Int × (List share_Right)) (share_Compact × Int × Int)) :=
 cond (decide (x < r_1.1))
 (Option.bind (kit_Stream_Next N (⟨s_.bytes,b__0,b__1⟩ : kit_Stream) r.1) fun r_2 =>
 Option.bind (kit_Stream_Next N (⟨s_.bytes,r_2.2.1,r_2.2.2⟩ : kit_Stream) 100) fun r_3 =>
 Option.bind (kit_Stream_Next N (⟨s_.bytes,r_3.2.1,r_3.2.2⟩ : kit_Stream) 2) fun r_4 =>
 Option.bind (kit_Stream_Next N (⟨s_.bytes,r_4.2.1,r_4.2.2⟩ : kit_Stream) 400) fun r_5 =>
 Option.bind (room ((x_1 ++ [(⟨r_2.1,r_3.1,W (r_4.1 * r_5.1)⟩ : share_Right)])).length) fun un =>
 some (.cont (W (x + 1),r_5.2.1,r_5.2.2,(x_1 ++ [(⟨r_2.1,r_3.1,W (r_4.1 * r_5.1)⟩ : share_Right)]))))
 (some (.brk (x,b__0,b__1,x_1)))
def law09_Made (N : Nat) (s_ : kit_Stream) : Option (share_Compact × Int × Int) :=
 Option.bind (kit_Stream_Within N s_ 1 6) fun r =>
 Option.bind (kit_Stream_Within N (⟨s_.bytes,r.2.1,r.2.2⟩ : kit_Stream) 1 12) fun r_1 =>
 Option.bind (loopO (fun s5 => law09_Made_b5 N s_ r r_1 s5.1 s5.2.1 s5.2.2.1 s5.2.2.2) N (0,r_1.2.1,r_1.2.2,([] : List share_Right))) fun x5 =>
 exK x5 (fun s5 => some ((⟨r.1,s5.2.2.2⟩ : share_Compact),s5.2.1,s5.2.2.1)) some
theorem law09_Made_ok {N : Nat} {G : Pers} {Lf : List Ent} {w : World} (s_ : kit_Stream) {b_ : Nat} {s__bytes_p : Option Addr} {s__bytes_c : Nat} (h_s__bytes : Rd G 1 s__bytes_p s__bytes_c (s_.bytes.map encI_u8)) (hc : Ctx G (.box b_ [.slice s__bytes_p s_.bytes.length s__bytes_c,.int .i64 s_.used,.int .i64 s_.mix] 161::Lf) w) {res : share_Compact × Int × Int} (hF : law09_Made N s_ = some res) : Calls Try.prog 62 #[.pointer (some ⟨b_,0,none⟩)] w (fun e w => ∃ (p'1 : Option Addr) (c'1 : Nat),e = .returned (.agg #[.int .i64 res.1.States,.slice p'1 res.1.Rights.length c'1]) ∧ Ctx G (.row p'1 c'1 (res.1.Rights.map enc_share_Right) 51 3::.box b_ [.slice s__bytes_p s_.bytes.length s__bytes_c,.int .i64 res.2.1,.int .i64 res.2.2] 161::Lf) w) := by
 unfold law09_Made at hF
 refine fnIn (args := [.pointer (some ⟨b_,0,none⟩)]) Try.func62 rfl Try.ntmps62 rfl fun a hf => wp_seq_k fun K1 h1 => cReg ?_
 refine stAl (cs := [.int .i64 0,.slice none 0 0]) hf hc rfl rfl zr_24 rfl fun b_1 a w hf hc => cNil ?_
 refine h1 _ _ ?_
 refine wp_seq_k fun K2 h2 => cReg ?_
 refine stP hf rfl rfl rfl (pM rfl) fun a hf => ?_
 obtain ⟨r,hr,hF⟩ := bnd_some hF
 refine stC (vs := [.pointer (some ⟨b_,0,none⟩),.int .i64 1,.int .i64 6]) (caps := []) hf rfl rfl rfl en_28 rfl rfl rfl rfl (kit_Stream_Within_ok s_ 1 6 h_s__bytes (hc.pick k1) hr) ?_
 rintro _ w ⟨rfl,hc⟩
 refine ⟨_,rfl,fun a hf => ?_⟩
 refine stP hf rfl rfl rfl (pBuildS (cells := [.int .i64 r.1,.slice none 0 0]) bt_24 rfl rfl) fun a hf => stAl (cs := [.int .i64 0,.slice none 0 0]) hf hc rfl rfl zr_24 rfl fun b_2 a w hf hc => stSt (vs := [.int .i64 r.1,.slice none 0 0]) hf hc rfl rfl rfl rfl sz_24 rfl rfl u0 fun w hc => cNil ?_
 refine h2 _ _ ?_
 refine wp_seq_k fun K3 h3 => wp_seq_k fun K4 h4 => cReg ?_
 refine stP hf rfl rfl rfl (pM rfl) fun a hf => ?_
 obtain ⟨r_1,hr_1,hF⟩ := bnd_some hF
 refine stC (vs := [.pointer (some ⟨b_,0,none⟩),.int .i64 1,.int .i64 12]) (caps := []) hf rfl rfl rfl en_28 rfl rfl rfl rfl (kit_Stream_Within_ok (⟨s_.bytes,r.2.1,r.2.2⟩ : kit_Stream) 1 12 h_s__bytes (hc.pick k1) hr_1) ?_
 rintro _ w ⟨rfl,hc⟩
 refine ⟨_,rfl,fun a hf => ?_⟩
 refine stP hf rfl rfl rfl (pM rfl) fun a hf => cNil ?_
 refine h4 _ _ ?_
 refine wp_block ?_
 obtain ⟨x5,hx5,hF⟩ := bnd_some hF
 let S5 : (Int × Int × Int × (List share_Right)) → Act → World → Prop := (fun (zz : Int × Int × Int × (List share_Right)) a w => ∃ (p_1 : Option Addr) (c_1 : Nat),Has 30 a [(0,.pointer (some ⟨b_,0,none⟩)),(2,.pointer (some ⟨b_1,0,none⟩)),(3,.pointer (some ⟨b_2,0,none⟩)),(8,.int .i64 r_1.1),(9,.int .i64 zz.1)] ∧ Ctx G (.row p_1 c_1 (zz.2.2.2.map enc_share_Right) 51 3::.box b_ [.slice s__bytes_p s_.bytes.length s__bytes_c,.int .i64 zz.2.1,.int .i64 zz.2.2.1] 161::.box b_2 [.int .i64 r.1,.slice p_1 zz.2.2.2.length c_1] 24::.box b_1 [.int .i64 0,.slice none 0 0] 24::Lf) w)
 have hr5 : ∀ (zz : Int × Int × Int × (List share_Right)) a w,x5 = .go zz → S5 zz a w → K3 a w := by
  rintro ⟨x,b__0,b__1,x_1⟩ a w rfl ⟨p_1,c_1,hf,hc⟩
  replace hF := exK_go hF
  refine h3 _ _ ?_
  refine wp_seq_k fun K6 h6 => cReg ?_
  refine stE hf hc rfl rfl rfl (eLdN (vs := [.int .i64 r.1,.slice p_1 x_1.length c_1]) ag_24 rfl rfl (cells_box (n := 2) m2 rfl)) fun a w hf hc => stSt (vs := [.int .i64 r.1,.slice p_1 x_1.length c_1]) hf hc rfl rfl rfl rfl sz_24 rfl rfl u3 fun w hc => cNil ?_
  refine h6 _ _ ?_
  refine wp_ret ?_
  obtain rfl := Option.some.inj hF
  replace hc := hc.drop k2
  exact fnOut1 (by simp) rfl Try.results62 hf hc (rv_cellN (vs := [.int .i64 r.1,.slice p_1 x_1.length c_1]) ag_24 rfl rfl (cells_box (n := 2) m2 rfl)) ⟨p_1,c_1,rfl,(hc.drop k2)⟩
 have ho5 : ∀ r,x5 = .out r → r = res := by
  rintro r rfl
  exact Option.some.inj hF
 replace hc := hc.nilRow 51 3
 refine cLoop N (loopW (S := S5) (x := x5) ?_ N (0,r_1.2.1,r_1.2.2,([] : List share_Right)) _ _ ⟨none,0,hf.keep ⟨rfl,rfl,rfl,rfl,rfl,trivial⟩,hc⟩ hx5)
 clear hF hf hc
 rintro ⟨x,b__0,b__1,x_1⟩ st5 a w KB5 ⟨p_1,c_1,hf,hc⟩ hF hfin5 hK5
 unfold law09_Made_b5 at hF
 refine wp_seq_k fun K7 h7 => cReg ?_
 refine stP hf rfl rfl rfl (pLt rfl rfl) fun a hf => cNil ?_
 refine h7 _ _ ?_
 refine wp_seq_k fun K8 h8 => cCond (b := (decide (x < r_1.1))) hf rfl (fun hb => ?_) (fun hb => ?_)
 ·replace hF := condT hb hF
  clear hb
  refine wp_skip ?_
  refine h8 _ _ ?_
  refine wp_seq_k fun K9 h9 => wp_block ?_
  obtain ⟨r_2,hr_2,hF⟩ := bnd_some hF
  obtain ⟨r_3,hr_3,hF⟩ := bnd_some hF
  obtain ⟨r_4,hr_4,hF⟩ := bnd_some hF
  obtain ⟨r_5,hr_5,hF⟩ := bnd_some hF
  obtain ⟨un,hun,hF⟩ := bnd_some hF
  replace hc := hc.nilRow 0 0
  refine regionE (fun θ => [⟨none,none,0,.pointer (some ⟨b_,0,none⟩)⟩,⟨none,none,2,.pointer (some ⟨b_1,0,none⟩)⟩,⟨none,none,3,.pointer (some ⟨b_2,0,none⟩)⟩,⟨none,none,8,.int .i64 r_1.1⟩,⟨none,none,9,.int .i64 x⟩,⟨some 0,none,11,.pointer (some ⟨b_2,1,none⟩)⟩,⟨some 1,none,12,.slice p_1 x_1.length c_1⟩,⟨some 2,none,13,.pointer (some ⟨b_,0,none⟩)⟩,⟨some 3,none,14,.pointer (some ⟨b_2,0,none⟩)⟩,⟨some 4,none,15,.int .i64 r.1⟩,⟨some 5,none,16,.int .i64 r_2.1⟩,⟨some 6,none,17,.pointer (some ⟨b_,0,none⟩)⟩,⟨some 7,none,18,.int .i64 r_3.1⟩,⟨some 8,none,19,.pointer (some ⟨b_,0,none⟩)⟩,⟨some 9,none,20,.int .i64 r_4.1⟩,⟨some 10,none,21,.pointer (some ⟨b_,0,none⟩)⟩,⟨some 11,none,22,.int .i64 r_5.1⟩,⟨some 12,none,23,.int .i64 (W (r_4.1 * r_5.1))⟩,⟨some 13,none,24,.agg #[.int .i64 r_2.1,.int .i64 r_3.1,.int .i64 (W (r_4.1 * r_5.1))]⟩,⟨some 14,none,25,.slice (some ⟨(θ 112).b,0,none⟩) 1 1⟩,⟨some 15,none,26,.slice ((θ 120).p) ((x_1 ++ [(⟨r_2.1,r_3.1,W (r_4.1 * r_5.1)⟩ : share_Right)]).length) ((θ 120).c)⟩,⟨some 16,none,27,.pointer (some ⟨b_2,1,none⟩)⟩]) (fun E θ => (bif E 14 then .row (some ⟨(θ 112).b,0,none⟩) 1 (([(⟨r_2.1,r_3.1,W (r_4.1 * r_5.1)⟩ : share_Right)] : List share_Right).map enc_share_Right) 51 3 else .row none 0 [] 0 0)::(bif E 15 then .row ((θ 120).p) ((θ 120).c) ((x_1 ++ [(⟨r_2.1,r_3.1,W (r_4.1 * r_5.1)⟩ : share_Right)]).map enc_share_Right) 51 3 else .row p_1 c_1 (x_1.map enc_share_Right) 51 3)::(bif E 11 then .box b_ [.slice s__bytes_p s_.bytes.length s__bytes_c,.int .i64 r_5.2.1,.int .i64 r_5.2.2] 161 else bif E 9 then .box b_ [.slice s__bytes_p s_.bytes.length s__bytes_c,.int .i64 r_4.2.1,.int .i64 r_4.2.2] 161 else bif E 7 then .box b_ [.slice s__bytes_p s_.bytes.length s__bytes_c,.int .i64 r_3.2.1,.int .i64 r_3.2.2] 161 else bif E 5 then .box b_ [.slice s__bytes_p s_.bytes.length s__bytes_c,.int .i64 r_2.2.1,.int .i64 r_2.2.2] 161 else .box b_ [.slice s__bytes_p s_.bytes.length s__bytes_c,.int .i64 b__0,.int .i64 b__1] 161)::(bif E 17 then .box b_2 [.int .i64 r.1,.slice ((θ 120).p) ((x_1 ++ [(⟨r_2.1,r_3.1,W (r_4.1 * r_5.1)⟩ : share_Right)]).length) ((θ 120).c)] 24 else .box b_2 [.int .i64 r.1,.slice p_1 x_1.length c_1] 24)::.box b_1 [.int .i64 0,.slice none 0 0] 24::Lf) [(7,5),(9,7),(17,1),(17,4),(11,9),(15,11),(17,15)] (fun a w => ∃ (b_4 : Nat) (p_3 : Option Addr) (c_3 : Nat),Has 30 a [(0,.pointer (some ⟨b_,0,none⟩)),(2,.pointer (some ⟨b_1,0,none⟩)),(3,.pointer (some ⟨b_2,0,none⟩)),(8,.int .i64 r_1.1),(9,.int .i64 x)] ∧ Ctx G (.row (some ⟨b_4,0,none⟩) 1 (([(⟨r_2.1,r_3.1,W (r_4.1 * r_5.1)⟩ : share_Right)] : List share_Right).map enc_share_Right) 51 3::.row p_3 c_3 ((x_1 ++ [(⟨r_2.1,r_3.1,W (r_4.1 * r_5.1)⟩ : share_Right)]).map enc_share_Right) 51 3::.box b_ [.slice s__bytes_p s_.bytes.length s__bytes_c,.int .i64 r_5.2.1,.int .i64 r_5.2.2] 161::.box b_2 [.int .i64 r.1,.slice p_3 ((x_1 ++ [(⟨r_2.1,r_3.1,W (r_4.1 * r_5.1)⟩ : share_Right)]).length) c_3] 24::.box b_1 [.int .i64 0,.slice none 0 0] 24::Lf) w) follows_mx (by kernel_rfl) (by kernel_rfl) (HasE.of hf ⟨rfl,rfl,rfl,rfl,rfl,trivial,trivial,trivial,trivial,trivial,trivial,trivial,trivial,trivial,trivial,trivial,trivial,trivial,trivial,trivial,trivial,trivial,trivial⟩) hc ⟨?_,?_,?_,?_,?_,?_,?_,?_,?_,?_,?_,?_,?_,?_,?_,?_,?_,?_,trivial⟩ ?_ ?_
  ·intro E θ a w hD hi hp he hc
   have hf := he.h0
   replace hf := hf.more he 2 rfl onT
   refine stP hf rfl rfl rfl (pFA fa_24_1 rfl) fun a hf => cNil ?_
   refine xThenN ?_
   intro ds u hau
   refine ⟨θ,he.put0 hi hau hf rfl 5 rfl rfl,?_⟩
   exact hc
  ·intro E θ a w hD hi hp he hc
   have e0 := hp.of (k := 0) rfl
   have e17 := hD.f 2 rfl hi
   try dsimp only at hc
   rw [e17] at hc
   have hf := he.h0
   replace hf := hf.more he 5 rfl (onP e0)
   refine stE hf hc rfl rfl rfl (eLd1 sc_22 rfl (cell_box m3 rfl)) fun a w hf hc => cNil ?_
   refine xThenN ?_
   intro ds u hau
   refine ⟨θ,he.put0 hi hau hf rfl 6 rfl rfl,?_⟩
   try dsimp only
   rw [updE_fls 1 e17 rfl]
   exact hc
  ·intro E θ a w hD hi hp he hc
   have hf := he.h0
   replace hf := hf.more he 0 rfl onT
   refine stP hf rfl rfl rfl (pM rfl) fun a hf => cNil ?_
   refine xThenN ?_
   intro ds u hau
   refine ⟨θ,he.put0 hi hau hf rfl 7 rfl rfl,?_⟩
   exact hc
  ·intro E θ a w hD hi hp he hc
   have hf := he.h0
   replace hf := hf.more he 2 rfl onT
   refine stP hf rfl rfl rfl (pFA fa_24_0 rfl) fun a hf => cNil ?_
   refine xThenN ?_
   intro ds u hau
   refine ⟨θ,he.put0 hi hau hf rfl 8 rfl rfl,?_⟩
   exact hc
  ·intro E θ a w hD hi hp he hc
   have e3 := hp.of (k := 3) rfl
   have e17 := hD.f 3 rfl hi
   try dsimp only at hc
   rw [e17] at hc
   have hf := he.h0
   replace hf := hf.more he 8 rfl (onP e3)
   refine stE hf hc rfl rfl rfl (eLd1 sc_3 rfl (cell_box m3 rfl)) fun a w hf hc => cNil ?_
   refine xThenN ?_
   intro ds u hau
   refine ⟨θ,he.put0 hi hau hf rfl 9 rfl rfl,?_⟩
   try dsimp only
   rw [updE_fls 4 e17 rfl]
   exact hc
  ·intro E θ a w hD hi hp he hc
   have e2 := hp.of (k := 2) rfl
   have e4 := hp.of (k := 4) rfl
   have e7 := hD.f 0 rfl hi
   have e9 := hD.f 1 rfl e7
   have e11 := hD.f 4 rfl e9
   have e15 := hD.f 5 rfl e11
   try dsimp only at hc
   rw [e15,hi,e7,e9,e11] at hc
   have hf := he.h0
   replace hf := hf.more he 7 rfl (onP e2)
   replace hf := hf.more he 9 rfl (onP e4)
   refine stC (vs := [.pointer (some ⟨b_,0,none⟩),.int .i64 r.1]) (caps := []) hf rfl rfl rfl en_29 rfl rfl rfl rfl (kit_Stream_Next_ok (⟨s_.bytes,b__0,b__1⟩ : kit_Stream) r.1 h_s__bytes (hc.pick k2) hr_2) ?_
   rintro _ w ⟨rfl,hc⟩
   refine ⟨_,rfl,fun a hf => ?_⟩
   refine cNil ?_
   refine xThenN ?_
   intro ds u hau
   replace hc := hc.pick k0
   replace hc := hc.pick k2
   replace hc := hc.pick k2
   refine ⟨θ,he.put0 hi hau hf rfl 10 rfl rfl,?_⟩
   try dsimp only
   rw [updE_fls 5 e15 rfl,updE_self E 5,updE_fls 5 e7 rfl,updE_fls 5 e9 rfl,updE_fls 5 e11 rfl]
   exact hc
  ·intro E θ a w hD hi hp he hc
   have hf := he.h0
   replace hf := hf.more he 0 rfl onT
   refine stP hf rfl rfl rfl (pM rfl) fun a hf => cNil ?_
   refine xThenN ?_
   intro ds u hau
   refine ⟨θ,he.put0 hi hau hf rfl 11 rfl rfl,?_⟩
   exact hc
  ·intro E θ a w hD hi hp he hc
   have e6 := hp.of (k := 6) rfl
   have e5 := hp.of (k := 5) rfl
   have e9 := hD.f 1 rfl hi
   have e11 := hD.f 4 rfl e9
   have e15 := hD.f 5 rfl e11
   try dsimp only at hc
   rw [e15,e5,hi,e9,e11] at hc
   have hf := he.h0
   replace hf := hf.more he 11 rfl (onP e6)
   refine stC (vs := [.pointer (some ⟨b_,0,none⟩),.int .i64 100]) (caps := []) hf rfl rfl rfl en_29 rfl rfl rfl rfl (kit_Stream_Next_ok (⟨s_.bytes,r_2.2.1,r_2.2.2⟩ : kit_Stream) 100 h_s__bytes (hc.pick k2) hr_3) ?_
   rintro _ w ⟨rfl,hc⟩
   refine ⟨_,rfl,fun a hf => ?_⟩
   refine cNil ?_
   refine xThenN ?_
   intro ds u hau
   replace hc := hc.pick k0
   replace hc := hc.pick k2
   replace hc := hc.pick k2
   refine ⟨θ,he.put0 hi hau hf rfl 12 rfl rfl,?_⟩
   try dsimp only
   rw [updE_fls 7 e15 rfl,updE_tru 7 e5,updE_self E 7,updE_fls 7 e9 rfl,updE_fls 7 e11 rfl]
   exact hc
  ·intro E θ a w hD hi hp he hc
   have hf := he.h0
   replace hf := hf.more he 0 rfl onT
   refine stP hf rfl rfl rfl (pM rfl) fun a hf => cNil ?_
   refine xThenN ?_
   intro ds u hau
   refine ⟨θ,he.put0 hi hau hf rfl 13 rfl rfl,?_⟩
   exact hc
  ·intro E θ a w hD hi hp he hc
   have e8 := hp.of (k := 8) rfl
   have e7 := hp.of (k := 7) rfl
   have e5 := hD.t 0 rfl e7
   have e11 := hD.f 4 rfl hi
   have e15 := hD.f 5 rfl e11
   try dsimp only at hc
   rw [e15,e5,e7,hi,e11] at hc
   have hf := he.h0
   replace hf := hf.more he 13 rfl (onP e8)
   refine stC (vs := [.pointer (some ⟨b_,0,none⟩),.int .i64 2]) (caps := []) hf rfl rfl rfl en_29 rfl rfl rfl rfl (kit_Stream_Next_ok (⟨s_.bytes,r_3.2.1,r_3.2.2⟩ : kit_Stream) 2 h_s__bytes (hc.pick k2) hr_4) ?_
   rintro _ w ⟨rfl,hc⟩
   refine ⟨_,rfl,fun a hf => ?_⟩
   refine cNil ?_
   refine xThenN ?_
   intro ds u hau
   replace hc := hc.pick k0
   replace hc := hc.pick k2
   replace hc := hc.pick k2
   refine ⟨θ,he.put0 hi hau hf rfl 14 rfl rfl,?_⟩
   try dsimp only
   rw [updE_fls 9 e15 rfl,updE_tru 9 e5,updE_tru 9 e7,updE_self E 9,updE_fls 9 e11 rfl]
   exact hc
  ·intro E θ a w hD hi hp he hc
   have hf := he.h0
   replace hf := hf.more he 0 rfl onT
   refine stP hf rfl rfl rfl (pM rfl) fun a hf => cNil ?_
   refine xThenN ?_
   intro ds u hau
   refine ⟨θ,he.put0 hi hau hf rfl 15 rfl rfl,?_⟩
   exact hc
  ·intro E θ a w hD hi hp he hc
   have e10 := hp.of (k := 10) rfl
   have e9 := hp.of (k := 9) rfl
   have e7 := hD.t 1 rfl e9
   have e5 := hD.t 0 rfl e7
   have e15 := hD.f 5 rfl hi
   try dsimp only at hc
   rw [e15,e5,e7,e9,hi] at hc
   have hf := he.h0
   replace hf := hf.more he 15 rfl (onP e10)
   refine stC (vs := [.pointer (some ⟨b_,0,none⟩),.int .i64 400]) (caps := []) hf rfl rfl rfl en_29 rfl rfl rfl rfl (kit_Stream_Next_ok (⟨s_.bytes,r_4.2.1,r_4.2.2⟩ : kit_Stream) 400 h_s__bytes (hc.pick k2) hr_5) ?_
   rintro _ w ⟨rfl,hc⟩
   refine ⟨_,rfl,fun a hf => ?_⟩
   refine cNil ?_
   refine xThenN ?_
   intro ds u hau
   replace hc := hc.pick k0
   replace hc := hc.pick k2
   replace hc := hc.pick k2
   refine ⟨θ,he.put0 hi hau hf rfl 16 rfl rfl,?_⟩
   try dsimp only
   rw [updE_fls 11 e15 rfl,updE_tru 11 e5,updE_tru 11 e7,updE_tru 11 e9,updE_self E 11]
   exact hc
  ·intro E θ a w hD hi hp he hc
   have e9 := hp.of (k := 9) rfl
   have e11 := hp.of (k := 11) rfl
   have hf := he.h0
   replace hf := hf.more he 14 rfl (onP e9)
   replace hf := hf.more he 16 rfl (onP e11)
   refine stP hf rfl rfl rfl (pMul rfl rfl) fun a hf => cNil ?_
   refine xThenN ?_
   intro ds u hau
   refine ⟨θ,he.put0 hi hau hf rfl 17 rfl rfl,?_⟩
   exact hc
  ·intro E θ a w hD hi hp he hc
   have e5 := hp.of (k := 5) rfl
   have e7 := hp.of (k := 7) rfl
   have e12 := hp.of (k := 12) rfl
   have hf := he.h0
   replace hf := hf.more he 10 rfl (onP e5)
   replace hf := hf.more he 12 rfl (onP e7)
   replace hf := hf.more he 17 rfl (onP e12)
   refine stP hf rfl rfl rfl (pBuildS (cells := [.int .i64 r_2.1,.int .i64 r_3.1,.int .i64 (W (r_4.1 * r_5.1))]) bt_51 rfl rfl) fun a hf => cNil ?_
   refine xThenN ?_
   intro ds u hau
   refine ⟨θ,he.put0 hi hau hf rfl 18 rfl rfl,?_⟩
   exact hc
  ·intro E θ a w hD hi hp he hc
   have e13 := hp.of (k := 13) rfl
   try dsimp only at hc
   rw [hi] at hc
   have hf := he.h0
   replace hf := hf.more he 18 rfl (onP e13)
   refine stBS (rows := ([(⟨r_2.1,r_3.1,W (r_4.1 * r_5.1)⟩ : share_Right)] : List share_Right).map enc_share_Right) (vs := [(0,.agg #[.int .i64 r_2.1,.int .i64 r_3.1,.int .i64 (W (r_4.1 * r_5.1))])]) hf hc rfl rfl sl_22 rfl ⟨rfl,rfl,rfl,trivial⟩ rfl rfl fun b_3 a w hf hc => cNil ?_
   refine xThenN ?_
   intro ds u hau
   replace hc := hc.drop k1
   refine ⟨(setT θ 112 ⟨b_3,none,0,(fun _ => (none,0))⟩),he.put hi hau hf rfl [] trivial ⟨qq,qq,qq,qq,qq,qq,qq,qq,qq,qq,qq,qq,qq,qq,qq,qq,qq,qq,qq,qq,qq,qq,trivial⟩,?_⟩
   try dsimp only
   rw [updE_self E 14]
   exact hc
  ·intro E θ a w hD hi hp he hc
   have e1 := hp.of (k := 1) rfl
   have e14 := hp.of (k := 14) rfl
   have e17 := hD.f 6 rfl hi
   try dsimp only at hc
   rw [e14,hi,e17] at hc
   have hf := he.h0
   replace hf := hf.more he 6 rfl (onP e1)
   replace hf := hf.more he 19 rfl (onP e14)
   refine stApm (xs := x_1) (ys := ([(⟨r_2.1,r_3.1,W (r_4.1 * r_5.1)⟩ : share_Right)] : List share_Right)) hf hc rfl rfl sl_22 rfl rfl rfl rfl rfl one_enc_share_Right (src_row hc m0) (fun _ _ => u1) (by simpa using room_spec hun) fun p_2 c_2 a w hf hc => cNil ?_
   refine xThenN ?_
   intro ds u hau
   refine ⟨(setT θ 120 ⟨0,p_2,c_2,(fun _ => (none,0))⟩),he.put hi hau hf rfl [] trivial ⟨qq,qq,qq,qq,qq,qq,qq,qq,qq,qq,qq,qq,qq,qq,qq,qq,qq,qq,qq,qq,qq,qq,trivial⟩,?_⟩
   try dsimp only
   rw [updE_tru 15 e14,updE_self E 15,updE_fls 15 e17 rfl]
   exact hc
  ·intro E θ a w hD hi hp he hc
   have hf := he.h0
   replace hf := hf.more he 2 rfl onT
   refine stP hf rfl rfl rfl (pFA fa_24_1 rfl) fun a hf => cNil ?_
   refine xThenN ?_
   intro ds u hau
   refine ⟨θ,he.put0 hi hau hf rfl 21 rfl rfl,?_⟩
   exact hc
  ·intro E θ a w hD hi hp he hc
   have e15 := hp.of (k := 15) rfl
   have e16 := hp.of (k := 16) rfl
   try dsimp only at hc
   rw [hi] at hc
   have hf := he.h0
   replace hf := hf.more he 20 rfl (onP e15)
   replace hf := hf.more he 21 rfl (onP e16)
   refine stSt (vs := [.slice ((θ 120).p) ((x_1 ++ [(⟨r_2.1,r_3.1,W (r_4.1 * r_5.1)⟩ : share_Right)]).length) ((θ 120).c)]) hf hc rfl rfl rfl rfl sz_22 rfl rfl u3 fun w hc => cNil ?_
   refine xThenN ?_
   intro ds u hau
   refine ⟨θ,he.stay0 hi hau hf rfl,?_⟩
   try dsimp only
   rw [updE_self E 17]
   exact hc
  ·intro E θ a w hall he hc
   have hf := he.h0
   have e5 := hall 5 rfl
   have e7 := hall 7 rfl
   have e9 := hall 9 rfl
   have e11 := hall 11 rfl
   have e14 := hall 14 rfl
   have e15 := hall 15 rfl
   have e17 := hall 17 rfl
   replace hf := hf.more he 4 rfl (onT)
   replace hf := hf.more he 3 rfl (onT)
   replace hf := hf.more he 2 rfl (onT)
   replace hf := hf.more he 1 rfl (onT)
   replace hf := hf.more he 0 rfl (onT)
   try dsimp only at hc
   rw [e5,e7,e9,e11,e14,e15,e17] at hc
   exact ⟨(θ 112).b,(θ 120).p,(θ 120).c,hf.keep ⟨rfl,rfl,rfl,rfl,rfl,trivial⟩,hc⟩
  rintro a w ⟨b_4,p_3,c_3,hf,hc⟩
  refine h9 _ _ ?_
  refine cReg ?_
  refine stP hf rfl rfl rfl (pAdd rfl rfl) fun a hf => stP hf rfl rfl rfl (pM rfl) fun a hf => cNil ?_
  replace hc := hc.drop k0
  exact hK5 (W (x + 1),r_5.2.1,r_5.2.2,(x_1 ++ [(⟨r_2.1,r_3.1,W (r_4.1 * r_5.1)⟩ : share_Right)])) _ _ (Option.some.inj hF).symm ⟨p_3,c_3,hf.keep ⟨rfl,rfl,rfl,rfl,rfl,trivial⟩,hc⟩
 ·replace hF := condF hb hF
  clear hb
  refine wp_exit ?_
  refine xThen ?_
  refine xThen ?_
  have he := Option.some.inj hF
  rw [← he] at hfin5
  refine cHit ?_
  exact hr5 _ _ _ hfin5 ⟨p_1,c_1,hf.keep ⟨rfl,rfl,rfl,rfl,rfl,trivial⟩,hc⟩

def kit_Copy_daily_Value (N : Nat) (l : List daily_Value) : Option ((List daily_Value)) :=
 Option.bind (room (l).length) fun un =>
 some l
theorem kit_Copy_daily_Value_ok {N : Nat} {G : Pers} {Lf : List Ent} {w : World} (l : List daily_Value) {l_p : Option Addr} {l_c : Nat} (h_l : Rd G 3 l_p l_c (l.map enc_daily_Value)) (hc : Ctx G (Lf) w) {res : (List daily_Value)} (hF : kit_Copy_daily_Value N l = some res) : Calls Try.prog 106 #[.slice l_p l.length l_c] w (fun e w => ∃ (p'1 : Option Addr) (c'1 : Nat),e = .returned (.slice p'1 res.length c'1) ∧ Ctx G (.row p'1 c'1 (res.map enc_daily_Value) 133 3::Lf) w) := by
 unfold kit_Copy_daily_Value at hF
 refine fnIn (args := [.slice l_p l.length l_c]) Try.func106 rfl Try.ntmps106 rfl fun a hf => wp_seq_k fun K1 h1 => cReg ?_
 refine stP hf rfl rfl rfl (pA rfl) fun a hf => cNil ?_
 refine h1 _ _ ?_
 refine wp_seq_k fun K2 h2 => cReg ?_
 refine stP hf rfl rfl rfl (pA rfl) fun a hf => cNil ?_
 refine h2 _ _ ?_
 refine wp_seq_k fun K3 h3 => cReg ?_
 refine stP hf rfl rfl rfl (pM rfl) fun a hf => stP hf rfl rfl rfl (pM rfl) fun a hf => ?_
 replace hc := hc.nilRow 133 3
 obtain ⟨un,hun,hF⟩ := bnd_some hF
 refine stApm (xs := ([] : List daily_Value)) (ys := l) hf hc rfl rfl sl_125 rfl rfl rfl rfl rfl one_enc_daily_Value (src_rd hc h_l) (fun _ _ => u0) (by simpa using room_spec hun) fun p_1 c_1 a w hf hc => stP hf rfl rfl rfl (pA rfl) fun a hf => cNil ?_
 refine h3 _ _ ?_
 refine wp_ret ?_
 obtain rfl := Option.some.inj hF
 exact fnOut1 (by simp) rfl Try.results106 hf hc (show look _ 2 = _ from rfl) ⟨p_1,c_1,rfl,hc⟩

def law07_CopyRecord (N : Nat) (r : daily_Record) : Option (daily_Record) :=
 Option.bind (kit_Copy_daily_Value N r.Days) fun r_0 =>
 some (⟨r.Rise,r.Fall,r_0⟩ : daily_Record)
theorem law07_CopyRecord_ok {N : Nat} {G : Pers} {Lf : List Ent} {w : World} (r : daily_Record) {r_Days_p : Option Addr} {r_Days_c : Nat} (h_r_Days : Rd G 3 r_Days_p r_Days_c (r.Days.map enc_daily_Value)) (hc : Ctx G (Lf) w) {res : daily_Record} (hF : law07_CopyRecord N r = some res) : Calls Try.prog 63 #[.agg #[.int .i64 r.Rise,.int .i64 r.Fall,.slice r_Days_p r.Days.length r_Days_c]] w (fun e w => ∃ (p'1 : Option Addr) (c'1 : Nat),e = .returned (.agg #[.int .i64 res.Rise,.int .i64 res.Fall,.slice p'1 res.Days.length c'1]) ∧ Ctx G (.row p'1 c'1 (res.Days.map enc_daily_Value) 133 3::Lf) w) := by
 unfold law07_CopyRecord at hF
 refine fnIn (args := [.agg #[.int .i64 r.Rise,.int .i64 r.Fall,.slice r_Days_p r.Days.length r_Days_c]]) Try.func63 rfl Try.ntmps63 rfl fun a hf => wp_seq_k fun K1 h1 => cReg ?_
 refine stBx (cs := [.int .i64 r.Rise,.int .i64 r.Fall,.slice r_Days_p r.Days.length r_Days_c]) hf hc rfl rfl rfl rfl fun b_1 a w hf hc => stAl (cs := [.int .i64 0,.int .i64 0,.slice none 0 0]) hf hc rfl rfl zr_127 rfl fun b_2 a w hf hc => cNil ?_
 refine h1 _ _ ?_
 refine wp_seq_k fun K2 h2 => cReg ?_
 refine stP hf rfl rfl rfl (pFA fa_127_2 rfl) fun a hf => stE hf hc rfl rfl rfl (eLd1 sc_125 rfl (cell_box m1 rfl)) fun a w hf hc => ?_
 obtain ⟨r_0,hr_0,hF⟩ := bnd_some hF
 refine stC (vs := [.slice r_Days_p r.Days.length r_Days_c]) (caps := []) hf rfl rfl rfl en_106 rfl rfl rfl rfl (kit_Copy_daily_Value_ok r.Days h_r_Days hc hr_0) ?_
 rintro _ w ⟨p_1,c_1,rfl,hc⟩
 refine ⟨_,rfl,fun a hf => ?_⟩
 refine stP hf rfl rfl rfl (pFA fa_127_2 rfl) fun a hf => stSt (vs := [.slice p_1 r_0.length c_1]) hf hc rfl rfl rfl rfl sz_125 rfl rfl u2 fun w hc => cNil ?_
 refine h2 _ _ ?_
 refine wp_seq_k fun K3 h3 => cReg ?_
 refine stE hf hc rfl rfl rfl (eLdN (vs := [.int .i64 r.Rise,.int .i64 r.Fall,.slice p_1 r_0.length c_1]) ag_127 rfl rfl (cells_box (n := 3) m2 rfl)) fun a w hf hc => stSt (vs := [.int .i64 r.Rise,.int .i64 r.Fall,.slice p_1 r_0.length c_1]) hf hc rfl rfl rfl rfl sz_127 rfl rfl u1 fun w hc => cNil ?_
 refine h3 _ _ ?_
 refine wp_ret ?_
 obtain rfl := Option.some.inj hF
 replace hc := hc.drop k2
 exact fnOut1 (by simp) rfl Try.results63 hf hc (rv_cellN (vs := [.int .i64 r.Rise,.int .i64 r.Fall,.slice p_1 r_0.length c_1]) ag_127 rfl rfl (cells_box (n := 3) m1 rfl)) ⟨p_1,c_1,rfl,(hc.drop k1)⟩

def law09_span (N : Nat) (lo : Int) (hi_ : Int) : Option (api_Span) :=
 some (⟨lo,hi_⟩ : api_Span)
theorem law09_span_ok {N : Nat} {G : Pers} {Lf : List Ent} {w : World} (lo : Int) (hi_ : Int)   (hc : Ctx G (Lf) w) {res : api_Span} (hF : law09_span N lo hi_ = some res) : Calls Try.prog 60 #[.int .i64 lo,.int .i64 hi_] w (fun e w => e = .returned (.agg #[.int .i64 res.Lo,.int .i64 res.Hi]) ∧ Ctx G (Lf) w) := by
 unfold law09_span at hF
 refine fnIn (args := [.int .i64 lo,.int .i64 hi_]) Try.func60 rfl Try.ntmps60 rfl fun a hf => wp_seq_k fun K1 h1 => cReg ?_
 refine stAl (cs := [.int .i64 0,.int .i64 0]) hf hc rfl rfl zr_26 rfl fun b_1 a w hf hc => cNil ?_
 refine h1 _ _ ?_
 refine wp_seq_k fun K2 h2 => cReg ?_
 refine stP hf rfl rfl rfl (pM rfl) fun a hf => stP hf rfl rfl rfl (pM rfl) fun a hf => stP hf rfl rfl rfl (pBuildS (cells := [.int .i64 lo,.int .i64 hi_]) bt_26 rfl rfl) fun a hf => stSt (vs := [.int .i64 lo,.int .i64 hi_]) hf hc rfl rfl rfl rfl sz_26 rfl rfl u0 fun w hc => cNil ?_
 refine h2 _ _ ?_
 refine wp_ret ?_
 obtain rfl := Option.some.inj hF
 exact fnOut1 (by simp) rfl Try.results60 hf hc (rv_cellN (vs := [.int .i64 lo,.int .i64 hi_]) ag_26 rfl rfl (cells_box (n := 2) m0 rfl)) ⟨rfl,(hc.drop k0)⟩

def daily_in (n : Int) (least : Int) (greatest : Int) : Bool :=
 ((decide (least ≤ n)) && (decide (n ≤ greatest)))
theorem daily_in_ok {G : Pers} {Lf : List Ent} {w : World} (n : Int) (least : Int) (greatest : Int)   (hc : Ctx G (Lf) w) {res : Bool} (hF : daily_in n least greatest = res) : Calls Try.prog 108 #[.int .i64 n,.int .i64 least,.int .i64 greatest] w (fun e w => e = .returned (.bool res) ∧ Ctx G (Lf) w) := by
 unfold daily_in at hF
 refine fnIn (args := [.int .i64 n,.int .i64 least,.int .i64 greatest]) Try.func108 rfl Try.ntmps108 rfl fun a hf => wp_seq_k fun K1 h1 => cReg ?_
 refine stP hf rfl rfl rfl (pA rfl) fun a hf => cNil ?_
 refine h1 _ _ ?_
 refine wp_seq_k fun K2 h2 => cReg ?_
 refine stP hf rfl rfl rfl (pM rfl) fun a hf => stP hf rfl rfl rfl (pM rfl) fun a hf => stP hf rfl rfl rfl (pGe rfl rfl) fun a hf => stP hf rfl rfl rfl (pM rfl) fun a hf => stCut 4 (fun a w => Has 15 a [(0,.int .i64 n),(1,.int .i64 least),(2,.int .i64 greatest),(6,.bool false),(7,.int .i64 n),(8,.int .i64 least),(9,.bool (decide (least ≤ n))),(10,.bool (decide (least ≤ n))),(14,.bool ((decide (least ≤ n)) && (decide (n ≤ greatest))))] ∧ Ctx G (Lf) w) ?_ ?_
 ·cases hb : (decide (least ≤ n))
  ·rw [hb] at hf
   refine stS hf rfl rfl rfl fun a hf => stS hf rfl rfl rfl fun a hf => stS hf rfl rfl rfl fun a hf => stP hf rfl rfl rfl (pPf rfl rfl) fun a hf => cNil ⟨hf.keep ⟨rfl,rfl,rfl,rfl,rfl,rfl,rfl,rfl,rfl,trivial⟩,hc⟩
  ·rw [hb] at hf
   refine stP hf rfl rfl rfl (pM rfl) fun a hf => stP hf rfl rfl rfl (pM rfl) fun a hf => stP hf rfl rfl rfl (pLe rfl rfl) fun a hf => stP hf rfl rfl rfl (pPt rfl rfl) fun a hf => cNil ⟨hf.keep ⟨rfl,rfl,rfl,rfl,rfl,rfl,rfl,rfl,rfl,trivial⟩,hc⟩
 intro a w ⟨hf,hc⟩
 refine stP hf rfl rfl rfl (pA rfl) fun a hf => cNil ?_
 refine h2 _ _ ?_
 refine wp_ret ?_
 obtain rfl := hF
 exact fnOut1 (by simp) rfl Try.results108 hf hc (show look _ 6 = _ from rfl) ⟨rfl,hc⟩

def daily_flow (n : Int) : Bool :=
 (daily_in n 0 1000000000)
theorem daily_flow_ok {G : Pers} {Lf : List Ent} {w : World} (n : Int)   (hc : Ctx G (Lf) w) {res : Bool} (hF : daily_flow n = res) : Calls Try.prog 136 #[.int .i64 n] w (fun e w => e = .returned (.bool res) ∧ Ctx G (Lf) w) := by
 unfold daily_flow at hF
 refine fnIn (args := [.int .i64 n]) Try.func136 rfl Try.ntmps136 rfl fun a hf => wp_seq_k fun K1 h1 => cReg ?_
 refine stP hf rfl rfl rfl (pA rfl) fun a hf => cNil ?_
 refine h1 _ _ ?_
 refine wp_seq_k fun K2 h2 => cReg ?_
 refine stP hf rfl rfl rfl (pM rfl) fun a hf => stE hf hc rfl rfl rfl (eC (v := .bool (daily_in n 0 1000000000)) (vs := [.int .i64 n,.int .i64 0,.int .i64 1000000000]) (caps := []) en_108 rfl rfl rfl rfl (fun w hc => daily_in_ok n 0 1000000000 hc rfl)) fun a w hf hc => stP hf rfl rfl rfl (pA rfl) fun a hf => cNil ?_
 refine h2 _ _ ?_
 refine wp_ret ?_
 obtain rfl := hF
 exact fnOut1 (by simp) rfl Try.results136 hf hc (show look _ 2 = _ from rfl) ⟨rfl,hc⟩

def daily_flows (s_ : api_Span) : Bool :=
 ((daily_in s_.Lo 0 s_.Hi) && (daily_flow s_.Hi))
theorem daily_flows_ok {G : Pers} {Lf : List Ent} {w : World} (s_ : api_Span)   (hc : Ctx G (Lf) w) {res : Bool} (hF : daily_flows s_ = res) : Calls Try.prog 139 #[.agg #[.int .i64 s_.Lo,.int .i64 s_.Hi]] w (fun e w => e = .returned (.bool res) ∧ Ctx G (Lf) w) := by
 unfold daily_flows at hF
 refine fnIn (args := [.agg #[.int .i64 s_.Lo,.int .i64 s_.Hi]]) Try.func139 rfl Try.ntmps139 rfl fun a hf => wp_seq_k fun K1 h1 => cReg ?_
 refine stBx (cs := [.int .i64 s_.Lo,.int .i64 s_.Hi]) hf hc rfl rfl rfl rfl fun b_1 a w hf hc => stP hf rfl rfl rfl (pA rfl) fun a hf => cNil ?_
 refine h1 _ _ ?_
 refine wp_seq_k fun K2 h2 => cReg ?_
 refine stP hf rfl rfl rfl (pFA fa_26_0 rfl) fun a hf => stE hf hc rfl rfl rfl (eLd1 sc_3 rfl (cell_box m0 rfl)) fun a w hf hc => stP hf rfl rfl rfl (pFA fa_26_1 rfl) fun a hf => stE hf hc rfl rfl rfl (eLd1 sc_3 rfl (cell_box m0 rfl)) fun a w hf hc => stE hf hc rfl rfl rfl (eC (v := .bool (daily_in s_.Lo 0 s_.Hi)) (vs := [.int .i64 s_.Lo,.int .i64 0,.int .i64 s_.Hi]) (caps := []) en_108 rfl rfl rfl rfl (fun w hc => daily_in_ok s_.Lo 0 s_.Hi hc rfl)) fun a w hf hc => stP hf rfl rfl rfl (pM rfl) fun a hf => stCut 4 (fun a w => Has 13 a [(1,.pointer (some ⟨b_1,0,none⟩)),(2,.bool false),(3,.pointer (some ⟨b_1,0,none⟩)),(4,.int .i64 s_.Lo),(5,.pointer (some ⟨b_1,1,none⟩)),(6,.int .i64 s_.Hi),(7,.bool (daily_in s_.Lo 0 s_.Hi)),(8,.bool (daily_in s_.Lo 0 s_.Hi)),(12,.bool ((daily_in s_.Lo 0 s_.Hi) && (daily_flow s_.Hi)))] ∧ Ctx G (.box b_1 [.int .i64 s_.Lo,.int .i64 s_.Hi] 26::Lf) w) ?_ ?_
 ·cases hb : (daily_in s_.Lo 0 s_.Hi)
  ·rw [hb] at hf
   refine stS hf rfl rfl rfl fun a hf => stS hf rfl rfl rfl fun a hf => stS hf rfl rfl rfl fun a hf => stP hf rfl rfl rfl (pPf rfl rfl) fun a hf => cNil ⟨hf.keep ⟨rfl,rfl,rfl,rfl,rfl,rfl,rfl,rfl,rfl,trivial⟩,hc⟩
  ·rw [hb] at hf
   refine stP hf rfl rfl rfl (pFA fa_26_1 rfl) fun a hf => stE hf hc rfl rfl rfl (eLd1 sc_3 rfl (cell_box m0 rfl)) fun a w hf hc => stE hf hc rfl rfl rfl (eC (v := .bool (daily_flow s_.Hi)) (vs := [.int .i64 s_.Hi]) (caps := []) en_136 rfl rfl rfl rfl (fun w hc => daily_flow_ok s_.Hi hc rfl)) fun a w hf hc => stP hf rfl rfl rfl (pPt rfl rfl) fun a hf => cNil ⟨hf.keep ⟨rfl,rfl,rfl,rfl,rfl,rfl,rfl,rfl,rfl,trivial⟩,hc⟩
 intro a w ⟨hf,hc⟩
 refine stP hf rfl rfl rfl (pA rfl) fun a hf => cNil ?_
 refine h2 _ _ ?_
 refine wp_ret ?_
 obtain rfl := hF
 replace hc := hc.drop k0
 exact fnOut1 (by simp) rfl Try.results139 hf hc (show look _ 2 = _ from rfl) ⟨rfl,hc⟩

def daily_Check_1 (v : daily_Value) : Bool :=
 ((!v.Known) || (daily_flows v.Flow))
theorem daily_Check_1_ok {G : Pers} {Lf : List Ent} {w : World} (v : daily_Value)   (hc : Ctx G (Lf) w) {res : Bool} (hF : daily_Check_1 v = res) : Calls Try.prog 138 #[.agg #[.bool v.Known,.int .i64 v.Flow.Lo,.int .i64 v.Flow.Hi]] w (fun e w => e = .returned (.bool res) ∧ Ctx G (Lf) w) := by
 unfold daily_Check_1 at hF
 refine fnIn (args := [.agg #[.bool v.Known,.int .i64 v.Flow.Lo,.int .i64 v.Flow.Hi]]) Try.func138 rfl Try.ntmps138 rfl fun a hf => wp_seq_k fun K1 h1 => cReg ?_
 refine stBx (cs := [.bool v.Known,.int .i64 v.Flow.Lo,.int .i64 v.Flow.Hi]) hf hc rfl rfl rfl rfl fun b_1 a w hf hc => stP hf rfl rfl rfl (pA rfl) fun a hf => cNil ?_
 refine h1 _ _ ?_
 refine wp_seq_k fun K2 h2 => cReg ?_
 refine stP hf rfl rfl rfl (pFA fa_133_0 rfl) fun a hf => stE hf hc rfl rfl rfl (eLd1 sc_4 rfl (cell_box m0 rfl)) fun a w hf hc => stP hf rfl rfl rfl (pNot rfl) fun a hf => stP hf rfl rfl rfl (pM rfl) fun a hf => stCut 4 (fun a w => Has 11 a [(1,.pointer (some ⟨b_1,0,none⟩)),(2,.bool false),(3,.pointer (some ⟨b_1,0,none⟩)),(4,.bool v.Known),(5,.bool (!v.Known)),(6,.bool (!v.Known)),(10,.bool ((!v.Known) || (daily_flows v.Flow)))] ∧ Ctx G (.box b_1 [.bool v.Known,.int .i64 v.Flow.Lo,.int .i64 v.Flow.Hi] 133::Lf) w) ?_ ?_
 ·cases hb : (!v.Known)
  ·rw [hb] at hf
   refine stP hf rfl rfl rfl (pFA fa_133_1 rfl) fun a hf => stE hf hc rfl rfl rfl (eLdN (vs := [.int .i64 v.Flow.Lo,.int .i64 v.Flow.Hi]) ag_26 rfl rfl (cells_box (n := 2) m0 rfl)) fun a w hf hc => stE hf hc rfl rfl rfl (eC (v := .bool (daily_flows v.Flow)) (vs := [.agg #[.int .i64 v.Flow.Lo,.int .i64 v.Flow.Hi]]) (caps := []) en_139 rfl rfl rfl rfl (fun w hc => daily_flows_ok v.Flow hc rfl)) fun a w hf hc => stP hf rfl rfl rfl (pPf rfl rfl) fun a hf => cNil ⟨hf.keep ⟨rfl,rfl,rfl,rfl,rfl,rfl,rfl,trivial⟩,hc⟩
  ·rw [hb] at hf
   refine stS hf rfl rfl rfl fun a hf => stS hf rfl rfl rfl fun a hf => stS hf rfl rfl rfl fun a hf => stP hf rfl rfl rfl (pPt rfl rfl) fun a hf => cNil ⟨hf.keep ⟨rfl,rfl,rfl,rfl,rfl,rfl,rfl,trivial⟩,hc⟩
 intro a w ⟨hf,hc⟩
 refine stP hf rfl rfl rfl (pA rfl) fun a hf => cNil ?_
 refine h2 _ _ ?_
 refine wp_ret ?_
 obtain rfl := hF
 replace hc := hc.drop k0
 exact fnOut1 (by simp) rfl Try.results138 hf hc (show look _ 2 = _ from rfl) ⟨rfl,hc⟩

def daily_every_daily_Value_1 (x : daily_Value) : Bool :=
 (!(daily_Check_1 x))
theorem daily_every_daily_Value_1_ok {G : Pers} {Lf : List Ent} {w : World} (x : daily_Value) {b_ : Nat}  (hc : Ctx G (.box b_ [.func (.func 138) #[] #[]] 217::Lf) w) {res : Bool} (hF : daily_every_daily_Value_1 x = res) : Calls Try.prog 149 #[.agg #[.bool x.Known,.int .i64 x.Flow.Lo,.int .i64 x.Flow.Hi],.pointer (some ⟨b_,0,none⟩)] w (fun e w => e = .returned (.bool res) ∧ Ctx G (.box b_ [.func (.func 138) #[] #[]] 217::Lf) w) := by
 unfold daily_every_daily_Value_1 at hF
 refine fnIn (args := [.agg #[.bool x.Known,.int .i64 x.Flow.Lo,.int .i64 x.Flow.Hi],.pointer (some ⟨b_,0,none⟩)]) Try.func149 rfl Try.ntmps149 rfl fun a hf => wp_seq_k fun K1 h1 => cReg ?_
 refine stBx (cs := [.bool x.Known,.int .i64 x.Flow.Lo,.int .i64 x.Flow.Hi]) hf hc rfl rfl rfl rfl fun b_1 a w hf hc => stP hf rfl rfl rfl (pA rfl) fun a hf => cNil ?_
 refine h1 _ _ ?_
 refine wp_seq_k fun K2 h2 => cReg ?_
 refine stE hf hc rfl rfl rfl (eLd1 sc_217 rfl (cell_box m1 rfl)) fun a w hf hc => stE hf hc rfl rfl rfl (eLdN (vs := [.bool x.Known,.int .i64 x.Flow.Lo,.int .i64 x.Flow.Hi]) ag_133 rfl rfl (cells_box (n := 3) m0 rfl)) fun a w hf hc => stE hf hc rfl rfl rfl (eC (v := .bool (daily_Check_1 x)) (vs := [.agg #[.bool x.Known,.int .i64 x.Flow.Lo,.int .i64 x.Flow.Hi]]) (caps := []) en_138 rfl rfl rfl rfl (fun w hc => daily_Check_1_ok x hc rfl)) fun a w hf hc => stP hf rfl rfl rfl (pNot rfl) fun a hf => stP hf rfl rfl rfl (pA rfl) fun a hf => cNil ?_
 refine h2 _ _ ?_
 refine wp_ret ?_
 obtain rfl := hF
 replace hc := hc.drop k0
 exact fnOut1 (by simp) rfl Try.results149 hf hc (show look _ 3 = _ from rfl) ⟨rfl,hc⟩

def slices_IndexFunc_Ldaily_Value_daily_Value_b4 (N : Nat) (s_ : List daily_Value) (x : Int) : Option (Step (Int) (Int)) :=
 cond (decide (x < ((s_.length : Nat) : Int)))
 (Option.bind (getI s_ x) fun e_1 =>
 cond (daily_every_daily_Value_1 e_1)
 (some (.ret x))
 (some (.cont (W (x + 1)))))
 (some (.brk x))
def slices_IndexFunc_Ldaily_Value_daily_Value (N : Nat) (s_ : List daily_Value) : Option (Int) :=
 Option.bind (loopO (fun s4 => slices_IndexFunc_Ldaily_Value_daily_Value_b4 N s_ s4) N 0) fun x4 =>
 exK x4 (fun s4 => some (-1)) some
theorem slices_IndexFunc_Ldaily_Value_daily_Value_ok {N : Nat} {G : Pers} {Lf : List Ent} {w : World} (s_ : List daily_Value) {s__p : Option Addr} {s__c : Nat} {b_ : Nat} (h_s_ : Rd G 3 s__p s__c (s_.map enc_daily_Value)) (hc : Ctx G (.box b_ [.func (.func 138) #[] #[]] 217::Lf) w) {res : Int} (hF : slices_IndexFunc_Ldaily_Value_daily_Value N s_ = some res) : Calls Try.prog 157 #[.slice s__p s_.length s__c,.func (.func 149) #[] #[.pointer (some ⟨b_,0,none⟩)]] w (fun e w => e = .returned (.int .i64 res) ∧ Ctx G (.box b_ [.func (.func 138) #[] #[]] 217::Lf) w) := by
 unfold slices_IndexFunc_Ldaily_Value_daily_Value at hF
 refine fnIn (args := [.slice s__p s_.length s__c,.func (.func 149) #[] #[.pointer (some ⟨b_,0,none⟩)]]) Try.func157 rfl Try.ntmps157 rfl fun a hf => wp_seq_k fun K1 h1 => cReg ?_
 refine stP hf rfl rfl rfl (pA rfl) fun a hf => cNil ?_
 refine h1 _ _ ?_
 refine wp_seq_k fun K2 h2 => wp_seq_k fun K3 h3 => cReg ?_
 refine stP hf rfl rfl rfl (pM rfl) fun a hf => stP hf rfl rfl rfl (pLenS Try.underlying125 rfl) fun a hf => stP hf rfl rfl rfl (pM rfl) fun a hf => cNil ?_
 refine h3 _ _ ?_
 refine wp_block ?_
 obtain ⟨x4,hx4,hF⟩ := bnd_some hF
 let S4 : Int → Act → World → Prop := (fun (zz : Int) a w => Has 19 a [(0,.slice s__p s_.length s__c),(1,.func (.func 149) #[] #[.pointer (some ⟨b_,0,none⟩)]),(7,.int .i64 ((s_.length : Nat) : Int)),(8,.int .i64 zz)] ∧ Ctx G (.box b_ [.func (.func 138) #[] #[]] 217::Lf) w)
 have hr4 : ∀ (zz : Int) a w,x4 = .go zz → S4 zz a w → K2 a w := by
  rintro x a w rfl ⟨hf,hc⟩
  replace hF := exK_go hF
  refine h2 _ _ ?_
  refine wp_seq_k fun K5 h5 => cReg ?_
  refine stP hf rfl rfl rfl (pA rfl) fun a hf => cNil ?_
  refine h5 _ _ ?_
  refine wp_ret ?_
  obtain rfl := Option.some.inj hF
  exact fnOut1 (by simp) rfl Try.results157 hf hc (show look _ 4 = _ from rfl) ⟨rfl,hc⟩
 have ho4 : ∀ r,x4 = .out r → r = res := by
  rintro r rfl
  exact Option.some.inj hF
 refine cLoop N (loopW (S := S4) (x := x4) ?_ N 0 _ _ ⟨hf.keep ⟨rfl,rfl,rfl,rfl,trivial⟩,hc⟩ hx4)
 clear hF hf hc
 rintro x st4 a w KB4 ⟨hf,hc⟩ hF hfin4 hK4
 unfold slices_IndexFunc_Ldaily_Value_daily_Value_b4 at hF
 refine wp_seq_k fun K6 h6 => cReg ?_
 refine stP hf rfl rfl rfl (pLt rfl rfl) fun a hf => cNil ?_
 refine h6 _ _ ?_
 refine wp_seq_k fun K7 h7 => cCond (b := (decide (x < ((s_.length : Nat) : Int)))) hf rfl (fun hb => ?_) (fun hb => ?_)
 ·replace hF := condT hb hF
  clear hb
  refine wp_skip ?_
  refine h7 _ _ ?_
  refine wp_seq_k fun K8 h8 => wp_block ?_
  refine wp_seq_k fun K9 h9 => cReg ?_
  refine stP hf rfl rfl rfl (pM rfl) fun a hf => stP hf rfl rfl rfl (pA rfl) fun a hf => cNil ?_
  refine h9 _ _ ?_
  refine wp_seq_k fun K10 h10 => cReg ?_
  refine stP hf rfl rfl rfl (pM rfl) fun a hf => stP hf rfl rfl rfl (pM rfl) fun a hf => stP hf rfl rfl rfl (pM rfl) fun a hf => ?_
  obtain ⟨e_1,he_1,hF⟩ := bnd_some hF
  obtain ⟨b_1,o,qa,qp⟩ := h_s_.atm he_1
  refine stP hf rfl rfl rfl (pIA Try.underlying125 sz_133 rfl rfl qa) fun a hf => stE hf hc rfl rfl rfl (eLdN (vs := [.bool e_1.Known,.int .i64 e_1.Flow.Lo,.int .i64 e_1.Flow.Hi]) ag_133 rfl rfl (cells_pc qp (n := 3) (o' := 0) rfl)) fun a w hf hc => stE hf hc rfl rfl rfl (eC (v := .bool (daily_every_daily_Value_1 e_1)) (vs := [.agg #[.bool e_1.Known,.int .i64 e_1.Flow.Lo,.int .i64 e_1.Flow.Hi]]) (caps := [.pointer (some ⟨b_,0,none⟩)]) en_149 rfl rfl rfl rfl (fun w hc => (daily_every_daily_Value_1_ok e_1 (hc.pick k0) rfl).mono fun e w h => ⟨h.1,(h.2.unpick k0)⟩)) fun a w hf hc => cNil ?_
  refine h10 _ _ ?_
  refine cCond (b := (daily_every_daily_Value_1 e_1)) hf rfl (fun hb => ?_) (fun hb => ?_)
  ·replace hF := condT hb hF
   clear hb
   refine wp_seq_k fun K11 h11 => cReg ?_
   refine stP hf rfl rfl rfl (pM rfl) fun a hf => stP hf rfl rfl rfl (pA rfl) fun a hf => cNil ?_
   refine h11 _ _ ?_
   refine wp_ret ?_
   refine xBlkR ?_
   refine xThenR ?_
   refine xThenR ?_
   have he := Option.some.inj hF
   rw [← he] at hfin4
   replace hF := ho4 _ hfin4
   refine xBlkR ?_
   refine xThenR ?_
   obtain rfl := hF
   exact fnOut1 (by simp) rfl Try.results157 hf hc (show look _ 4 = _ from rfl) ⟨rfl,hc⟩
  ·replace hF := condF hb hF
   clear hb
   refine wp_skip ?_
   refine h8 _ _ ?_
   refine cReg ?_
   refine stP hf rfl rfl rfl (pAdd rfl rfl) fun a hf => stP hf rfl rfl rfl (pM rfl) fun a hf => cNil ?_
   exact hK4 (W (x + 1)) _ _ (Option.some.inj hF).symm ⟨hf.keep ⟨rfl,rfl,rfl,rfl,trivial⟩,hc⟩
 ·replace hF := condF hb hF
  clear hb
  refine wp_exit ?_
  refine xThen ?_
  refine xThen ?_
  have he := Option.some.inj hF
  rw [← he] at hfin4
  refine cHit ?_
  exact hr4 _ _ _ hfin4 ⟨hf.keep ⟨rfl,rfl,rfl,rfl,trivial⟩,hc⟩

def slices_ContainsFunc_Ldaily_Value_daily_Value (N : Nat) (s_ : List daily_Value) : Option (Bool) :=
 Option.bind (slices_IndexFunc_Ldaily_Value_daily_Value N s_) fun r =>
 some (decide (0 ≤ r))
theorem slices_ContainsFunc_Ldaily_Value_daily_Value_ok {N : Nat} {G : Pers} {Lf : List Ent} {w : World} (s_ : List daily_Value) {s__p : Option Addr} {s__c : Nat} {b_ : Nat} (h_s_ : Rd G 3 s__p s__c (s_.map enc_daily_Value)) (hc : Ctx G (.box b_ [.func (.func 138) #[] #[]] 217::Lf) w) {res : Bool} (hF : slices_ContainsFunc_Ldaily_Value_daily_Value N s_ = some res) : Calls Try.prog 148 #[.slice s__p s_.length s__c,.func (.func 149) #[] #[.pointer (some ⟨b_,0,none⟩)]] w (fun e w => e = .returned (.bool res) ∧ Ctx G (.box b_ [.func (.func 138) #[] #[]] 217::Lf) w) := by
 unfold slices_ContainsFunc_Ldaily_Value_daily_Value at hF
 refine fnIn (args := [.slice s__p s_.length s__c,.func (.func 149) #[] #[.pointer (some ⟨b_,0,none⟩)]]) Try.func148 rfl Try.ntmps148 rfl fun a hf => wp_seq_k fun K1 h1 => cReg ?_
 refine stP hf rfl rfl rfl (pA rfl) fun a hf => cNil ?_
 refine h1 _ _ ?_
 refine wp_seq_k fun K2 h2 => cReg ?_
 refine stP hf rfl rfl rfl (pM rfl) fun a hf => stP hf rfl rfl rfl (pM rfl) fun a hf => ?_
 obtain ⟨r,hr,hF⟩ := bnd_some hF
 refine stE hf hc rfl rfl rfl (eC (v := .int .i64 r) (vs := [.slice s__p s_.length s__c,.func (.func 149) #[] #[.pointer (some ⟨b_,0,none⟩)]]) (caps := []) en_157 rfl rfl rfl rfl (fun w hc => (slices_IndexFunc_Ldaily_Value_daily_Value_ok s_ h_s_ (hc.pick k0) hr).mono fun e w h => ⟨h.1,(h.2.unpick k0)⟩)) fun a w hf hc => stP hf rfl rfl rfl (pGe rfl rfl) fun a hf => stP hf rfl rfl rfl (pA rfl) fun a hf => cNil ?_
 refine h2 _ _ ?_
 refine wp_ret ?_
 obtain rfl := Option.some.inj hF
 exact fnOut1 (by simp) rfl Try.results148 hf hc (show look _ 4 = _ from rfl) ⟨rfl,hc⟩

def daily_every_daily_Value (N : Nat) (l : List daily_Value) : Option (Bool) :=
 Option.bind (slices_ContainsFunc_Ldaily_Value_daily_Value N l) fun r =>
 some (!r)
theorem daily_every_daily_Value_ok {N : Nat} {G : Pers} {Lf : List Ent} {w : World} (l : List daily_Value) {l_p : Option Addr} {l_c : Nat} (h_l : Rd G 3 l_p l_c (l.map enc_daily_Value)) (hc : Ctx G (Lf) w) {res : Bool} (hF : daily_every_daily_Value N l = some res) : Calls Try.prog 137 #[.slice l_p l.length l_c,.func (.func 138) #[] #[]] w (fun e w => e = .returned (.bool res) ∧ Ctx G (Lf) w) := by
 unfold daily_every_daily_Value at hF
 refine fnIn (args := [.slice l_p l.length l_c,.func (.func 138) #[] #[]]) Try.func137 rfl Try.ntmps137 rfl fun a hf => wp_seq_k fun K1 h1 => cReg ?_
 refine stBx (cs := [.func (.func 138) #[] #[]]) hf hc rfl rfl rfl rfl fun b_1 a w hf hc => stP hf rfl rfl rfl (pA rfl) fun a hf => cNil ?_
 refine h1 _ _ ?_
 refine wp_seq_k fun K2 h2 => cReg ?_
 refine stP hf rfl rfl rfl (pM rfl) fun a hf => stP hf rfl rfl rfl (pMF (us := [.pointer (some ⟨b_1,0,none⟩)]) rfl rfl) fun a hf => ?_
 obtain ⟨r,hr,hF⟩ := bnd_some hF
 refine stE hf hc rfl rfl rfl (eC (v := .bool r) (vs := [.slice l_p l.length l_c,.func (.func 149) #[] #[.pointer (some ⟨b_1,0,none⟩)]]) (caps := []) en_148 rfl rfl rfl rfl (fun w hc => (slices_ContainsFunc_Ldaily_Value_daily_Value_ok l h_l (hc.pick k0) hr).mono fun e w h => ⟨h.1,(h.2.unpick k0)⟩)) fun a w hf hc => stP hf rfl rfl rfl (pNot rfl) fun a hf => stP hf rfl rfl rfl (pA rfl) fun a hf => cNil ?_
 refine h2 _ _ ?_
 refine wp_ret ?_
 obtain rfl := Option.some.inj hF
 replace hc := hc.drop k0
 exact fnOut1 (by simp) rfl Try.results137 hf hc (show look _ 4 = _ from rfl) ⟨rfl,hc⟩

def daily_Check (N : Nat) (r : daily_Record) : Option (Int) :=
 cond (!(daily_in ((r.Days.length : Nat) : Int) 1 60))
 (some 3)
 (Option.bind (cond ((!(daily_flow r.Rise)) || (!(daily_flow r.Fall))) (some true) (Option.bind (daily_every_daily_Value N r.Days) fun r_0 =>
 some (!r_0))) fun t_1 =>
 cond t_1
 (some 80)
 (some 0))
theorem daily_Check_ok {N : Nat} {G : Pers} {Lf : List Ent} {w : World} (r : daily_Record) {r_Days_p : Option Addr} {r_Days_c : Nat} (h_r_Days : Rd G 3 r_Days_p r_Days_c (r.Days.map enc_daily_Value)) (hc : Ctx G (Lf) w) {res : Int} (hF : daily_Check N r = some res) : Calls Try.prog 107 #[.agg #[.int .i64 r.Rise,.int .i64 r.Fall,.slice r_Days_p r.Days.length r_Days_c]] w (fun e w => e = .returned (.int .i64 res) ∧ Ctx G (Lf) w) := by
 unfold daily_Check at hF
 refine fnIn (args := [.agg #[.int .i64 r.Rise,.int .i64 r.Fall,.slice r_Days_p r.Days.length r_Days_c]]) Try.func107 rfl Try.ntmps107 rfl fun a hf => wp_seq_k fun K1 h1 => cReg ?_
 refine stBx (cs := [.int .i64 r.Rise,.int .i64 r.Fall,.slice r_Days_p r.Days.length r_Days_c]) hf hc rfl rfl rfl rfl fun b_1 a w hf hc => stP hf rfl rfl rfl (pA rfl) fun a hf => cNil ?_
 refine h1 _ _ ?_
 refine wp_seq_k fun K2 h2 => wp_block ?_
 refine wp_seq_k fun K3 h3 => cReg ?_
 refine stP hf rfl rfl rfl (pFA fa_127_2 rfl) fun a hf => stE hf hc rfl rfl rfl (eLd1 sc_125 rfl (cell_box m0 rfl)) fun a w hf hc => stP hf rfl rfl rfl (pLenS Try.underlying125 rfl) fun a hf => stE hf hc rfl rfl rfl (eC (v := .bool (daily_in ((r.Days.length : Nat) : Int) 1 60)) (vs := [.int .i64 ((r.Days.length : Nat) : Int),.int .i64 1,.int .i64 60]) (caps := []) en_108 rfl rfl rfl rfl (fun w hc => daily_in_ok ((r.Days.length : Nat) : Int) 1 60 hc rfl)) fun a w hf hc => stP hf rfl rfl rfl (pNot rfl) fun a hf => stP hf rfl rfl rfl (pA rfl) fun a hf => cNil ?_
 refine h3 _ _ ?_
 refine cCond (b := (!(daily_in ((r.Days.length : Nat) : Int) 1 60))) hf rfl (fun hb => ?_) (fun hb => ?_)
 ·replace hF := condT hb hF
  clear hb
  refine wp_seq_k fun K4 h4 => cReg ?_
  refine stP hf rfl rfl rfl (pA rfl) fun a hf => cNil ?_
  refine h4 _ _ ?_
  refine wp_ret ?_
  refine xBlkR ?_
  refine xThenR ?_
  obtain rfl := Option.some.inj hF
  replace hc := hc.drop k0
  exact fnOut1 (by simp) rfl Try.results107 hf hc (show look _ 2 = _ from rfl) ⟨rfl,hc⟩
 ·replace hF := condF hb hF
  clear hb
  refine wp_seq_k fun K5 h5 => cReg ?_
  refine stP hf rfl rfl rfl (pFA fa_127_0 rfl) fun a hf => stE hf hc rfl rfl rfl (eLd1 sc_3 rfl (cell_box m0 rfl)) fun a w hf hc => stE hf hc rfl rfl rfl (eC (v := .bool (daily_flow r.Rise)) (vs := [.int .i64 r.Rise]) (caps := []) en_136 rfl rfl rfl rfl (fun w hc => daily_flow_ok r.Rise hc rfl)) fun a w hf hc => stP hf rfl rfl rfl (pNot rfl) fun a hf => stP hf rfl rfl rfl (pM rfl) fun a hf => stCut 5 (fun a w => Has 26 a [(1,.pointer (some ⟨b_1,0,none⟩)),(10,.pointer (some ⟨b_1,0,none⟩)),(11,.int .i64 r.Rise),(12,.bool (daily_flow r.Rise)),(13,.bool (!(daily_flow r.Rise))),(14,.bool (!(daily_flow r.Rise))),(19,.bool ((!(daily_flow r.Rise)) || (!(daily_flow r.Fall))))] ∧ Ctx G (.box b_1 [.int .i64 r.Rise,.int .i64 r.Fall,.slice r_Days_p r.Days.length r_Days_c] 127::Lf) w) ?_ ?_
  ·cases hb : (!(daily_flow r.Rise))
   ·rw [hb] at hf
    refine stP hf rfl rfl rfl (pFA fa_127_1 rfl) fun a hf => stE hf hc rfl rfl rfl (eLd1 sc_3 rfl (cell_box m0 rfl)) fun a w hf hc => stE hf hc rfl rfl rfl (eC (v := .bool (daily_flow r.Fall)) (vs := [.int .i64 r.Fall]) (caps := []) en_136 rfl rfl rfl rfl (fun w hc => daily_flow_ok r.Fall hc rfl)) fun a w hf hc => stP hf rfl rfl rfl (pNot rfl) fun a hf => stP hf rfl rfl rfl (pPf rfl rfl) fun a hf => cNil ⟨hf.keep ⟨rfl,rfl,rfl,rfl,rfl,rfl,rfl,trivial⟩,hc⟩
   ·rw [hb] at hf
    refine stS hf rfl rfl rfl fun a hf => stS hf rfl rfl rfl fun a hf => stS hf rfl rfl rfl fun a hf => stS hf rfl rfl rfl fun a hf => stP hf rfl rfl rfl (pPt rfl rfl) fun a hf => cNil ⟨hf.keep ⟨rfl,rfl,rfl,rfl,rfl,rfl,rfl,trivial⟩,hc⟩
  intro a w ⟨hf,hc⟩
  refine stP hf rfl rfl rfl (pM rfl) fun a hf => ?_
  obtain ⟨t_1,ht_1,hF⟩ := bnd_some hF
  refine stCut 5 (fun a w => Has 26 a [(1,.pointer (some ⟨b_1,0,none⟩)),(10,.pointer (some ⟨b_1,0,none⟩)),(11,.int .i64 r.Rise),(12,.bool (daily_flow r.Rise)),(13,.bool (!(daily_flow r.Rise))),(14,.bool (!(daily_flow r.Rise))),(19,.bool ((!(daily_flow r.Rise)) || (!(daily_flow r.Fall)))),(20,.bool ((!(daily_flow r.Rise)) || (!(daily_flow r.Fall)))),(25,.bool t_1)] ∧ Ctx G (.box b_1 [.int .i64 r.Rise,.int .i64 r.Fall,.slice r_Days_p r.Days.length r_Days_c] 127::Lf) w) ?_ ?_
  ·cases hb : ((!(daily_flow r.Rise)) || (!(daily_flow r.Fall)))
   ·rw [hb] at hf
    have hF := condF hb ht_1
    refine stP hf rfl rfl rfl (pFA fa_127_2 rfl) fun a hf => stE hf hc rfl rfl rfl (eLd1 sc_125 rfl (cell_box m0 rfl)) fun a w hf hc => ?_
    obtain ⟨r_0,hr_0,hF⟩ := bnd_some hF
    refine stE hf hc rfl rfl rfl (eC (v := .bool r_0) (vs := [.slice r_Days_p r.Days.length r_Days_c,.func (.func 138) #[] #[]]) (caps := []) en_137 rfl rfl rfl rfl (fun w hc => daily_every_daily_Value_ok r.Days h_r_Days hc hr_0)) fun a w hf hc => stP hf rfl rfl rfl (pNot rfl) fun a hf => stP hf rfl rfl rfl (pPf rfl rfl) fun a hf => ?_
    obtain rfl := Option.some.inj hF
    exact cNil ⟨hf.keep ⟨rfl,rfl,rfl,rfl,rfl,rfl,rfl,rfl,rfl,trivial⟩,hc⟩
   ·rw [hb] at hf
    have hF := condT hb ht_1
    obtain rfl := Option.some.inj hF
    refine stS hf rfl rfl rfl fun a hf => stS hf rfl rfl rfl fun a hf => stS hf rfl rfl rfl fun a hf => stS hf rfl rfl rfl fun a hf => stP hf rfl rfl rfl (pPt rfl rfl) fun a hf => cNil ⟨hf.keep ⟨rfl,rfl,rfl,rfl,rfl,rfl,rfl,rfl,rfl,trivial⟩,hc⟩
  intro a w ⟨hf,hc⟩
  refine stP hf rfl rfl rfl (pA rfl) fun a hf => cNil ?_
  refine h5 _ _ ?_
  refine cCond (b := t_1) hf rfl (fun hb => ?_) (fun hb => ?_)
  ·replace hF := condT hb hF
   clear hb
   refine wp_seq_k fun K6 h6 => cReg ?_
   refine stP hf rfl rfl rfl (pA rfl) fun a hf => cNil ?_
   refine h6 _ _ ?_
   refine wp_ret ?_
   refine xBlkR ?_
   refine xThenR ?_
   obtain rfl := Option.some.inj hF
   replace hc := hc.drop k0
   exact fnOut1 (by simp) rfl Try.results107 hf hc (show look _ 2 = _ from rfl) ⟨rfl,hc⟩
  ·replace hF := condF hb hF
   clear hb
   refine wp_skip ?_
   refine h2 _ _ ?_
   refine wp_seq_k fun K7 h7 => cReg ?_
   refine stP hf rfl rfl rfl (pA rfl) fun a hf => cNil ?_
   refine h7 _ _ ?_
   refine wp_ret ?_
   obtain rfl := Option.some.inj hF
   replace hc := hc.drop k0
   exact fnOut1 (by simp) rfl Try.results107 hf hc (show look _ 2 = _ from rfl) ⟨rfl,hc⟩

def daily_Value_span (N : Nat) (v : daily_Value) : Option (api_Span) :=
 cond v.Known
 (some v.Flow)
 (some (⟨0,1000000000⟩ : api_Span))
theorem daily_Value_span_ok {N : Nat} {G : Pers} {Lf : List Ent} {w : World} (v : daily_Value)   (hc : Ctx G (Lf) w) {res : api_Span} (hF : daily_Value_span N v = some res) : Calls Try.prog 150 #[.agg #[.bool v.Known,.int .i64 v.Flow.Lo,.int .i64 v.Flow.Hi]] w (fun e w => e = .returned (.agg #[.int .i64 res.Lo,.int .i64 res.Hi]) ∧ Ctx G (Lf) w) := by
 unfold daily_Value_span at hF
 refine fnIn (args := [.agg #[.bool v.Known,.int .i64 v.Flow.Lo,.int .i64 v.Flow.Hi]]) Try.func150 rfl Try.ntmps150 rfl fun a hf => wp_seq_k fun K1 h1 => cReg ?_
 refine stBx (cs := [.bool v.Known,.int .i64 v.Flow.Lo,.int .i64 v.Flow.Hi]) hf hc rfl rfl rfl rfl fun b_1 a w hf hc => stAl (cs := [.int .i64 0,.int .i64 0]) hf hc rfl rfl zr_26 rfl fun b_2 a w hf hc => cNil ?_
 refine h1 _ _ ?_
 refine wp_seq_k fun K2 h2 => wp_seq_k fun K3 h3 => cReg ?_
 refine stP hf rfl rfl rfl (pFA fa_133_0 rfl) fun a hf => stE hf hc rfl rfl rfl (eLd1 sc_4 rfl (cell_box m1 rfl)) fun a w hf hc => cNil ?_
 refine h3 _ _ ?_
 refine cCond (b := v.Known) hf rfl (fun hb => ?_) (fun hb => ?_)
 ·replace hF := condT hb hF
  clear hb
  refine wp_seq_k fun K4 h4 => cReg ?_
  refine stP hf rfl rfl rfl (pFA fa_133_1 rfl) fun a hf => stE hf hc rfl rfl rfl (eLdN (vs := [.int .i64 v.Flow.Lo,.int .i64 v.Flow.Hi]) ag_26 rfl rfl (cells_box (n := 2) m1 rfl)) fun a w hf hc => stSt (vs := [.int .i64 v.Flow.Lo,.int .i64 v.Flow.Hi]) hf hc rfl rfl rfl rfl sz_26 rfl rfl u0 fun w hc => cNil ?_
  refine h4 _ _ ?_
  refine wp_ret ?_
  refine xThenR ?_
  obtain rfl := Option.some.inj hF
  replace hc := hc.drop k1
  exact fnOut1 (by simp) rfl Try.results150 hf hc (rv_cellN (vs := [.int .i64 v.Flow.Lo,.int .i64 v.Flow.Hi]) ag_26 rfl rfl (cells_box (n := 2) m0 rfl)) ⟨rfl,(hc.drop k0)⟩
 ·replace hF := condF hb hF
  clear hb
  refine wp_skip ?_
  refine h2 _ _ ?_
  refine wp_seq_k fun K5 h5 => cReg ?_
  refine stP hf rfl rfl rfl (pBuildS (cells := [.int .i64 0,.int .i64 1000000000]) bt_26 rfl rfl) fun a hf => stSt (vs := [.int .i64 0,.int .i64 1000000000]) hf hc rfl rfl rfl rfl sz_26 rfl rfl u0 fun w hc => cNil ?_
  refine h5 _ _ ?_
  refine wp_ret ?_
  obtain rfl := Option.some.inj hF
  replace hc := hc.drop k1
  exact fnOut1 (by simp) rfl Try.results150 hf hc (rv_cellN (vs := [.int .i64 0,.int .i64 1000000000]) ag_26 rfl rfl (cells_box (n := 2) m0 rfl)) ⟨rfl,(hc.drop k0)⟩

def daily_work_pairs (N : Nat) (w_ : daily_work) (back : Bool) : Option (Bool) :=
 some back
theorem daily_work_pairs_ok {N : Nat} {G : Pers} {Lf : List Ent} {w : World} (w_ : daily_work) (back : Bool) {b_ : Nat} {w__Record_Days_p : Option Addr} {w__Record_Days_c : Nat} {w__spans_p : Option Addr} {w__spans_c : Nat} (h_w__Record_Days : Rd G 3 w__Record_Days_p w__Record_Days_c (w_.Record.Days.map enc_daily_Value)) (h_w__spans : Rd G 2 w__spans_p w__spans_c (w_.spans.map enc_api_Span)) (hc : Ctx G (.box b_ [.int .i64 w_.Record.Rise,.int .i64 w_.Record.Fall,.slice w__Record_Days_p w_.Record.Days.length w__Record_Days_c,.slice w__spans_p w_.spans.length w__spans_c] 201::Lf) w) {res : Bool} (hF : daily_work_pairs N w_ back = some res) : Calls Try.prog 152 #[.pointer (some ⟨b_,0,none⟩),.bool back] w (fun e w => ∃ (b'1 : Nat) (b'2 : Nat),e = .returned (.func (.func 158) #[] #[.pointer (some ⟨b'1,0,none⟩),.pointer (some ⟨b'2,0,none⟩)]) ∧ Ctx G (.box b'1 [.pointer (some ⟨b_,0,none⟩)] 197::.box b'2 [.bool res] 4::.box b_ [.int .i64 w_.Record.Rise,.int .i64 w_.Record.Fall,.slice w__Record_Days_p w_.Record.Days.length w__Record_Days_c,.slice w__spans_p w_.spans.length w__spans_c] 201::Lf) w) := by
 unfold daily_work_pairs at hF
 refine fnIn (args := [.pointer (some ⟨b_,0,none⟩),.bool back]) Try.func152 rfl Try.ntmps152 rfl fun a hf => wp_seq_k fun K1 h1 => cReg ?_
 refine stBx (cs := [.pointer (some ⟨b_,0,none⟩)]) hf hc rfl rfl rfl rfl fun b_1 a w hf hc => stBx (cs := [.bool back]) hf hc rfl rfl rfl rfl fun b_2 a w hf hc => stP hf rfl rfl rfl (pA rfl) fun a hf => cNil ?_
 refine h1 _ _ ?_
 refine wp_seq_k fun K2 h2 => cReg ?_
 refine stP hf rfl rfl rfl (pMF (us := [.pointer (some ⟨b_1,0,none⟩),.pointer (some ⟨b_2,0,none⟩)]) rfl rfl) fun a hf => stP hf rfl rfl rfl (pA rfl) fun a hf => cNil ?_
 refine h2 _ _ ?_
 refine wp_ret ?_
 obtain rfl := Option.some.inj hF
 replace hc := hc.pick k0
 replace hc := hc.pick k1
 exact fnOut1 (by simp) rfl Try.results152 hf hc (show look _ 4 = _ from rfl) ⟨b_1,b_2,rfl,hc⟩

def daily_work_pairs_1_j9 (N : Nat) {σ : Type} (y : σ → (Int × Int) → Option (σ × Bool)) (x_0 : Int) (a_1 : Int) (b_1 : Int) (sg_1 : σ) : Option (Step (Int × σ) (σ)) :=
 Option.bind (y sg_1 (a_1,b_1)) fun ry =>
 cond (!ry.2)
 (some (.ret ry.1))
 (some (.cont (W (x_0 + 1),ry.1)))
def daily_work_pairs_1_b3 (N : Nat) {σ : Type} (x_2 : List daily_Value) (x_3 : Bool) (y : σ → (Int × Int) → Option (σ × Bool)) (x_0 : Int) (sg : σ) : Option (Step (Int × σ) (σ)) :=
 cond (decide (x_0 < (W (((x_2.length : Nat) : Int) - 1))))
 (cond x_3
 (daily_work_pairs_1_j9 N y x_0 (W ((W (((x_2.length : Nat) : Int) - 1)) - x_0)) (W ((W (((x_2.length : Nat) : Int) - 2)) - x_0)) sg)
 (daily_work_pairs_1_j9 N y x_0 x_0 (W (x_0 + 1)) sg))
 (some (.brk (x_0,sg)))
def daily_work_pairs_1 (N : Nat) {σ : Type} (x : Int) (x_1 : Int) (x_2 : List daily_Value) (x_3 : Bool) (y : σ → (Int × Int) → Option (σ × Bool)) (sg0 : σ) : Option (σ) :=
 Option.bind (loopO (fun s3 => daily_work_pairs_1_b3 N x_2 x_3 y s3.1 s3.2) N (0,sg0)) fun x3 =>
 exK x3 (fun s3 => some s3.2) some
theorem daily_work_pairs_1_ok {N : Nat} {G : Pers} {Lf : List Ent} {w : World} {σ : Type} (x : Int) (x_1 : Int) (x_2 : List daily_Value) (x_3 : Bool) {b_ : Nat} {b__1 : Nat} {x_2_p : Option Addr} {x_2_c : Nat} {x_o_p : Option Addr} {x_o_n : Nat} {x_o_c : Nat} {b__2 : Nat} (h_x_2 : Rd G 3 x_2_p x_2_c (x_2.map enc_daily_Value)) (J : σ → List Ent → Prop) (y : σ → (Int × Int) → Option (σ × Bool)) {l : Nat} (hy : YieldsTo Try.prog G l (fun x : (Int × Int) => [.int .i64 x.1,.int .i64 x.2]) J y) (sg0 : σ) {Ls0 : List Ent} (hJ0 : J sg0 Ls0) (hJe : ∀ (o : σ) (L : List Ent),J o L → ∃ A B,L = A ++ (.box b__1 [.int .i64 x,.int .i64 x_1,.slice x_2_p x_2.length x_2_c,.slice x_o_p x_o_n x_o_c] 201::B)) (hc : Ctx G (.box b_ [.pointer (some ⟨b__1,0,none⟩)] 197::.box b__2 [.bool x_3] 4::(Ls0 ++ Lf)) w) {res : σ} (hF : daily_work_pairs_1 N x x_1 x_2 x_3 y sg0 = some res) : Calls Try.prog 158 #[.func (.yield l) #[] #[],.pointer (some ⟨b_,0,none⟩),.pointer (some ⟨b__2,0,none⟩)] w (fun e w => (∃ v,e = .returned v) ∧ ∃ L,J res L ∧ Ctx G (.box b_ [.pointer (some ⟨b__1,0,none⟩)] 197::.box b__2 [.bool x_3] 4::(L ++ Lf)) w) := by
 unfold daily_work_pairs_1 at hF
 refine fnIn (args := [.func (.yield l) #[] #[],.pointer (some ⟨b_,0,none⟩),.pointer (some ⟨b__2,0,none⟩)]) Try.func158 rfl Try.ntmps158 rfl fun a hf => wp_seq_k fun K1 h1 => ?_
 obtain ⟨As,Bs,hsh_⟩ := hJe _ _ hJ0
 rw [hsh_] at hc hJ0
 replace hc : Ctx G (.box b_ [.pointer (some ⟨b__1,0,none⟩)] 197::.box b__2 [.bool x_3] 4::((As ++ (.box b__1 [.int .i64 x,.int .i64 x_1,.slice x_2_p x_2.length x_2_c,.slice x_o_p x_o_n x_o_c] 201::Bs)) ++ Lf)) w := hc
 replace hc : Ctx G (.box b__1 [.int .i64 x,.int .i64 x_1,.slice x_2_p x_2.length x_2_c,.slice x_o_p x_o_n x_o_c] 201::.box b_ [.pointer (some ⟨b__1,0,none⟩)] 197::.box b__2 [.bool x_3] 4::((As ++ Bs) ++ Lf)) w := shOut [.box b_ [.pointer (some ⟨b__1,0,none⟩)] 197,.box b__2 [.bool x_3] 4] hc
 refine cReg ?_
 refine stE hf hc rfl rfl rfl (eLd1 sc_197 rfl (cell_box m1 rfl)) fun a w hf hc => stP hf rfl rfl rfl (pNC rfl) fun a hf => stP hf rfl rfl rfl (pFA fa_201_0 rfl) fun a hf => stP hf rfl rfl rfl (pFA fa_127_2 rfl) fun a hf => stE hf hc rfl rfl rfl (eLd1 sc_125 rfl (cell_box m0 rfl)) fun a w hf hc => stP hf rfl rfl rfl (pLenS Try.underlying125 rfl) fun a hf => stP hf rfl rfl rfl (pSub rfl rfl) fun a hf => stP hf rfl rfl rfl (pM rfl) fun a hf => cNil ?_
 replace hc : Ctx G (.box b_ [.pointer (some ⟨b__1,0,none⟩)] 197::.box b__2 [.bool x_3] 4::((As ++ (.box b__1 [.int .i64 x,.int .i64 x_1,.slice x_2_p x_2.length x_2_c,.slice x_o_p x_o_n x_o_c] 201::Bs)) ++ Lf)) w := shIn [.box b_ [.pointer (some ⟨b__1,0,none⟩)] 197,.box b__2 [.bool x_3] 4] hc
 refine h1 _ _ ?_
 refine wp_thenK fun K2 h2 => wp_block ?_
 obtain ⟨x3,hx3,hF⟩ := bnd_some hF
 let S3 : (Int × σ) → Act → World → Prop := (fun (zz : Int × σ) a w => ∃ (Ls : List Ent),J zz.2 Ls ∧ Has 45 a [(0,.func (.yield l) #[] #[]),(1,.pointer (some ⟨b_,0,none⟩)),(2,.pointer (some ⟨b__2,0,none⟩)),(13,.int .i64 (W (((x_2.length : Nat) : Int) - 1))),(14,.int .i64 zz.1)] ∧ Ctx G (.box b_ [.pointer (some ⟨b__1,0,none⟩)] 197::.box b__2 [.bool x_3] 4::(Ls ++ Lf)) w)
 have hr3 : ∀ (zz : Int × σ) a w,x3 = .go zz → S3 zz a w → K2 a w := by
  rintro ⟨x_0,sg⟩ a w rfl ⟨Ls,hJ,hf,hc⟩
  replace hF := exK_go hF
  refine h2 _ _ ?_
  obtain rfl := Option.some.inj hF
  exact fnOut0 (by simp) rfl Try.results158 hf ⟨⟨_,rfl⟩,Ls,hJ,hc⟩
 have ho3 : ∀ r,x3 = .out r → r = res := by
  rintro r rfl
  exact Option.some.inj hF
 refine cLoop N (loopW (S := S3) (x := x3) ?_ N (0,sg0) _ _ ⟨(As ++ (.box b__1 [.int .i64 x,.int .i64 x_1,.slice x_2_p x_2.length x_2_c,.slice x_o_p x_o_n x_o_c] 201::Bs)),hJ0,hf.keep ⟨rfl,rfl,rfl,rfl,rfl,trivial⟩,hc⟩ hx3)
 clear hF hf hc
 rintro ⟨x_0,sg⟩ st3 a w KB3 ⟨Ls,hJ,hf,hc⟩ hF hfin3 hK3
 unfold daily_work_pairs_1_b3 at hF
 refine wp_seq_k fun K4 h4 => cReg ?_
 refine stP hf rfl rfl rfl (pLt rfl rfl) fun a hf => cNil ?_
 refine h4 _ _ ?_
 refine wp_seq_k fun K5 h5 => cCond (b := (decide (x_0 < (W (((x_2.length : Nat) : Int) - 1))))) hf rfl (fun hb => ?_) (fun hb => ?_)
 ·replace hF := condT hb hF
  clear hb
  refine wp_skip ?_
  refine h5 _ _ ?_
  refine wp_seq_k fun K6 h6 => wp_block ?_
  refine wp_seq_k fun K7 h7 => cReg ?_
  refine stP hf rfl rfl rfl (pM rfl) fun a hf => stP hf rfl rfl rfl (pA rfl) fun a hf => cNil ?_
  refine h7 _ _ ?_
  refine wp_seq_k fun K8 h8 => cReg ?_
  refine stP hf rfl rfl rfl (pM rfl) fun a hf => stP hf rfl rfl rfl (pM rfl) fun a hf => stP hf rfl rfl rfl (pAdd rfl rfl) fun a hf => stP hf rfl rfl rfl (pA rfl) fun a hf => stP hf rfl rfl rfl (pA rfl) fun a hf => cNil ?_
  refine h8 _ _ ?_
  refine wp_seq_k fun K9 h9 => ?_
  have hj9 : ∀ (a_1 : Int) (b_1 : Int) (sg_1 : σ) (Ls_1 : List Ent) a w,J sg_1 Ls_1 → Has 45 a [(0,.func (.yield l) #[] #[]),(1,.pointer (some ⟨b_,0,none⟩)),(2,.pointer (some ⟨b__2,0,none⟩)),(5,.int .i64 a_1),(6,.int .i64 b_1),(13,.int .i64 (W (((x_2.length : Nat) : Int) - 1))),(14,.int .i64 x_0)] → Ctx G (.box b_ [.pointer (some ⟨b__1,0,none⟩)] 197::.box b__2 [.bool x_3] 4::(Ls_1 ++ Lf)) w → daily_work_pairs_1_j9 N y x_0 a_1 b_1 sg_1 = some st3 → K9 a w := by
   repeat (clear hF)
   repeat (clear hc)
   repeat (clear hf)
   intro a_1 b_1 sg_1 Ls_1 a w hJ_1 hf hc hF
   unfold daily_work_pairs_1_j9 at hF
   refine h9 _ _ ?_
   refine wp_seq_k fun K10 h10 => ?_
   obtain ⟨ry,hry,hF⟩ := bnd_some hF
   refine yReg 3 (fun a w => Has 45 a [(0,.func (.yield l) #[] #[]),(1,.pointer (some ⟨b_,0,none⟩)),(2,.pointer (some ⟨b__2,0,none⟩)),(5,.int .i64 a_1),(6,.int .i64 b_1),(13,.int .i64 (W (((x_2.length : Nat) : Int) - 1))),(14,.int .i64 x_0),(39,.func (.yield l) #[] #[]),(40,.int .i64 a_1),(41,.int .i64 b_1)] ∧ Ctx G (.box b_ [.pointer (some ⟨b__1,0,none⟩)] 197::.box b__2 [.bool x_3] 4::(Ls_1 ++ Lf)) w) (fun _ _ h => by obtain ⟨⟨_,h⟩,_⟩ := h; cases h) ?_ ?_
   ·refine stP hf rfl rfl rfl (pM rfl) fun a hf => stP hf rfl rfl rfl (pM rfl) fun a hf => stP hf rfl rfl rfl (pM rfl) fun a hf => cNil ⟨hf.keep ⟨rfl,rfl,rfl,rfl,rfl,rfl,rfl,rfl,rfl,rfl,trivial⟩,hc⟩
   rintro a w ⟨hf,hc⟩
   refine stY (own := [.box b_ [.pointer (some ⟨b__1,0,none⟩)] 197,.box b__2 [.bool x_3] 4]) (v := (a_1,b_1)) hy hJ_1 hry hf hc rfl rfl rfl rfl rfl rfl fun a w Ls_2 hJ_2 hf hc => ?_
   replace hc : Ctx G (.box b_ [.pointer (some ⟨b__1,0,none⟩)] 197::.box b__2 [.bool x_3] 4::(Ls_2 ++ Lf)) w := hc
   refine yRest (fun _ _ h => by obtain ⟨⟨_,h⟩,_⟩ := h; cases h) ?_
   refine stP hf rfl rfl rfl (pNot rfl) fun a hf => cNil ?_
   refine h10 _ _ ?_
   refine cCond (b := (!ry.2)) hf rfl (fun hb => ?_) (fun hb => ?_)
   ·replace hF := condT hb hF
    clear hb
    refine wp_ret ?_
    refine xBlkR ?_
    refine xThenR ?_
    refine xThenR ?_
    have he := Option.some.inj hF
    rw [← he] at hfin3
    replace hF := ho3 _ hfin3
    refine xBlkR ?_
    refine xThenR ?_
    obtain rfl := hF
    exact fnOut0 (by simp) rfl Try.results158 hf ⟨⟨_,rfl⟩,Ls_2,hJ_2,hc⟩
   ·replace hF := condF hb hF
    clear hb
    refine wp_skip ?_
    refine h6 _ _ ?_
    refine cReg ?_
    refine stP hf rfl rfl rfl (pAdd rfl rfl) fun a hf => stP hf rfl rfl rfl (pM rfl) fun a hf => cNil ?_
    exact hK3 (W (x_0 + 1),ry.1) _ _ (Option.some.inj hF).symm ⟨Ls_2,hJ_2,hf.keep ⟨rfl,rfl,rfl,rfl,rfl,trivial⟩,hc⟩
  refine wp_seq_k fun K11 h11 => cReg ?_
  refine stE hf hc rfl rfl rfl (eLd1 sc_4 rfl (cell_box m1 rfl)) fun a w hf hc => cNil ?_
  refine h11 _ _ ?_
  refine cCond (b := x_3) hf rfl (fun hb => ?_) (fun hb => ?_)
  ·replace hF := condT hb hF
   clear hb
   obtain ⟨As_1,Bs_1,hsh_⟩ := hJe _ _ hJ
   rw [hsh_] at hc hJ
   replace hc : Ctx G (.box b_ [.pointer (some ⟨b__1,0,none⟩)] 197::.box b__2 [.bool x_3] 4::((As_1 ++ (.box b__1 [.int .i64 x,.int .i64 x_1,.slice x_2_p x_2.length x_2_c,.slice x_o_p x_o_n x_o_c] 201::Bs_1)) ++ Lf)) w := hc
   replace hc : Ctx G (.box b__1 [.int .i64 x,.int .i64 x_1,.slice x_2_p x_2.length x_2_c,.slice x_o_p x_o_n x_o_c] 201::.box b_ [.pointer (some ⟨b__1,0,none⟩)] 197::.box b__2 [.bool x_3] 4::((As_1 ++ Bs_1) ++ Lf)) w := shOut [.box b_ [.pointer (some ⟨b__1,0,none⟩)] 197,.box b__2 [.bool x_3] 4] hc
   refine cQ hc follows_mx (by kernel_rfl) ?_
   refine qE hf rfl rfl rfl (eLd1 sc_197 rfl (cell_box m1 rfl)) fun a hf => qE hf rfl rfl rfl (Pu.ev (pNC rfl)) fun a hf => qE hf rfl rfl rfl (Pu.ev (pFA fa_201_0 rfl)) fun a hf => qE hf rfl rfl rfl (Pu.ev (pFA fa_127_2 rfl)) fun a hf => qE hf rfl rfl rfl (eLd1 sc_125 rfl (cell_box m0 rfl)) fun a hf => qE hf rfl rfl rfl (Pu.ev (pLenS Try.underlying125 rfl)) fun a hf => qE hf rfl rfl rfl (Pu.ev (pSub rfl rfl)) fun a hf => qE hf rfl rfl rfl (Pu.ev (pM rfl)) fun a hf => qE hf rfl rfl rfl (Pu.ev (pSub rfl rfl)) fun a hf => qE hf rfl rfl rfl (eLd1 sc_197 rfl (cell_box m1 rfl)) fun a hf => qE hf rfl rfl rfl (Pu.ev (pNC rfl)) fun a hf => qE hf rfl rfl rfl (Pu.ev (pFA fa_201_0 rfl)) fun a hf => qE hf rfl rfl rfl (Pu.ev (pFA fa_127_2 rfl)) fun a hf => ?_
   refine qE hf rfl rfl rfl (eLd1 sc_125 rfl (cell_box m0 rfl)) fun a hf => qE hf rfl rfl rfl (Pu.ev (pLenS Try.underlying125 rfl)) fun a hf => qE hf rfl rfl rfl (Pu.ev (pSub rfl rfl)) fun a hf => qE hf rfl rfl rfl (Pu.ev (pM rfl)) fun a hf => qE hf rfl rfl rfl (Pu.ev (pSub rfl rfl)) fun a hf => qE hf rfl rfl rfl (Pu.ev (pA rfl)) fun a hf => qE hf rfl rfl rfl (Pu.ev (pA rfl)) fun a hf => ?_
   intro w hc
   replace hc : Ctx G (.box b_ [.pointer (some ⟨b__1,0,none⟩)] 197::.box b__2 [.bool x_3] 4::((As_1 ++ (.box b__1 [.int .i64 x,.int .i64 x_1,.slice x_2_p x_2.length x_2_c,.slice x_o_p x_o_n x_o_c] 201::Bs_1)) ++ Lf)) w := shIn [.box b_ [.pointer (some ⟨b__1,0,none⟩)] 197,.box b__2 [.bool x_3] 4] hc
   exact hj9 (W ((W (((x_2.length : Nat) : Int) - 1)) - x_0)) (W ((W (((x_2.length : Nat) : Int) - 2)) - x_0)) sg (As_1 ++ (.box b__1 [.int .i64 x,.int .i64 x_1,.slice x_2_p x_2.length x_2_c,.slice x_o_p x_o_n x_o_c] 201::Bs_1)) _ _ hJ (hf.keep ⟨rfl,rfl,rfl,rfl,rfl,rfl,rfl,trivial⟩) hc hF
  ·replace hF := condF hb hF
   clear hb
   refine wp_skip ?_
   exact hj9 x_0 (W (x_0 + 1)) sg Ls _ _ hJ (hf.keep ⟨rfl,rfl,rfl,rfl,rfl,rfl,rfl,trivial⟩) hc hF
 ·replace hF := condF hb hF
  clear hb
  refine wp_exit ?_
  refine xThen ?_
  refine xThen ?_
  have he := Option.some.inj hF
  rw [← he] at hfin3
  refine cHit ?_
  exact hr3 _ _ _ hfin3 ⟨Ls,hJ,hf.keep ⟨rfl,rfl,rfl,rfl,rfl,trivial⟩,hc⟩

def daily_opened_1 (N : Nat) (i_ : Int) (low : Int) (high : Int) (x : Int) (x_1 : Int) (x_2 : List daily_Value) (x_3 : List api_Span) : Option ((List api_Span)) :=
 Option.bind (getI x_3 i_) fun e_1 =>
 Option.bind (sameL ((x_3.set i_.toNat (⟨max e_1.Lo low,e_1.Hi⟩ : api_Span)).set i_.toNat (⟨max e_1.Lo low,min e_1.Hi high⟩ : api_Span)) x_3) fun _ =>
 some ((x_3.set i_.toNat (⟨max e_1.Lo low,e_1.Hi⟩ : api_Span)).set i_.toNat (⟨max e_1.Lo low,min e_1.Hi high⟩ : api_Span))
theorem daily_opened_1_ok {N : Nat} {G : Pers} {Lf : List Ent} {w : World} (i_ : Int) (low : Int) (high : Int) (x : Int) (x_1 : Int) (x_2 : List daily_Value) (x_3 : List api_Span) {b_ : Nat} {b__1 : Nat} {x_2_p : Option Addr} {x_2_c : Nat} {x_3_p : Option Addr} {x_3_c : Nat} (h_x_2 : Rd G 3 x_2_p x_2_c (x_2.map enc_daily_Value)) (hc : Ctx G (.box b_ [.pointer (some ⟨b__1,0,none⟩)] 197::.box b__1 [.int .i64 x,.int .i64 x_1,.slice x_2_p x_2.length x_2_c,.slice x_3_p x_3.length x_3_c] 201::.row x_3_p x_3_c (x_3.map enc_api_Span) 26 2::Lf) w) {res : (List api_Span)} (hF : daily_opened_1 N i_ low high x x_1 x_2 x_3 = some res) : Calls Try.prog 151 #[.int .i64 i_,.int .i64 low,.int .i64 high,.pointer (some ⟨b_,0,none⟩)] w (fun e w => e = .returned (.tuple #[]) ∧ res.length = x_3.length ∧ Ctx G (.box b_ [.pointer (some ⟨b__1,0,none⟩)] 197::.box b__1 [.int .i64 x,.int .i64 x_1,.slice x_2_p x_2.length x_2_c,.slice x_3_p x_3.length x_3_c] 201::.row x_3_p x_3_c (res.map enc_api_Span) 26 2::Lf) w) := by
 unfold daily_opened_1 at hF
 refine fnIn (args := [.int .i64 i_,.int .i64 low,.int .i64 high,.pointer (some ⟨b_,0,none⟩)]) Try.func151 rfl Try.ntmps151 rfl fun a hf => wp_seq_k fun K1 h1 => cReg ?_
 refine stE hf hc rfl rfl rfl (eLd1 sc_197 rfl (cell_box m0 rfl)) fun a w hf hc => stP hf rfl rfl rfl (pNC rfl) fun a hf => stP hf rfl rfl rfl (pFA fa_201_1 rfl) fun a hf => stE hf hc rfl rfl rfl (eLd1 sc_41 rfl (cell_box m1 rfl)) fun a w hf hc => stP hf rfl rfl rfl (pM rfl) fun a hf => ?_
 obtain ⟨e_1,he_1,hF⟩ := bnd_some hF
 obtain ⟨g,rfl,qa,qr⟩ := row_atm hc m2 he_1
 refine stP hf rfl rfl rfl (pIA Try.underlying41 sz_26 rfl rfl qa) fun a hf => stP hf rfl rfl rfl (pA rfl) fun a hf => cNil ?_
 refine h1 _ _ ?_
 refine regionE (fun θ => [⟨none,none,1,.int .i64 low⟩,⟨none,none,2,.int .i64 high⟩,⟨none,none,7,.pointer (some ⟨g,i_.toNat * 2,none⟩)⟩,⟨some 0,none,14,.pointer (some ⟨g,i_.toNat * 2,none⟩)⟩,⟨some 1,none,15,.pointer (some ⟨g,i_.toNat * 2,none⟩)⟩,⟨some 2,none,16,.pointer (some ⟨g,i_.toNat * 2,none⟩)⟩,⟨some 3,none,17,.pointer (some ⟨g,i_.toNat * 2,none⟩)⟩,⟨some 4,none,18,.pointer (some ⟨g,i_.toNat * 2 + 0,none⟩)⟩,⟨some 5,none,19,.int .i64 e_1.Lo⟩,⟨some 6,none,20,.int .i64 low⟩,⟨some 7,none,21,.int .i64 (max e_1.Lo low)⟩,⟨some 8,none,22,.pointer (some ⟨g,i_.toNat * 2,none⟩)⟩,⟨some 9,none,23,.pointer (some ⟨g,i_.toNat * 2,none⟩)⟩,⟨some 10,none,24,.pointer (some ⟨g,i_.toNat * 2 + 1,none⟩)⟩,⟨some 11,none,25,.int .i64 e_1.Hi⟩,⟨some 12,none,26,.int .i64 high⟩,⟨some 13,none,27,.int .i64 (min e_1.Hi high)⟩,⟨some 14,none,28,.pointer (some ⟨g,i_.toNat * 2,none⟩)⟩,⟨some 15,none,29,.pointer (some ⟨g,i_.toNat * 2 + 0,none⟩)⟩,⟨some 17,none,30,.pointer (some ⟨g,i_.toNat * 2,none⟩)⟩,⟨some 18,none,31,.pointer (some ⟨g,i_.toNat * 2 + 1,none⟩)⟩]) (fun E θ => .box b_ [.pointer (some ⟨b__1,0,none⟩)] 197::.box b__1 [.int .i64 x,.int .i64 x_1,.slice x_2_p x_2.length x_2_c,.slice (some ⟨g,0,none⟩) x_3.length x_3_c] 201::(bif E 19 then .row (some ⟨g,0,none⟩) x_3_c (((x_3.set i_.toNat (⟨max e_1.Lo low,e_1.Hi⟩ : api_Span)).set i_.toNat (⟨max e_1.Lo low,min e_1.Hi high⟩ : api_Span)).map enc_api_Span) 26 2 else bif E 16 then .row (some ⟨g,0,none⟩) x_3_c ((x_3.set i_.toNat (⟨max e_1.Lo low,e_1.Hi⟩ : api_Span)).map enc_api_Span) 26 2 else .row (some ⟨g,0,none⟩) x_3_c (x_3.map enc_api_Span) 26 2)::Lf) [(16,5),(19,5),(16,11),(19,11),(19,16)] (fun a w => Has 32 a [] ∧ Ctx G (.box b_ [.pointer (some ⟨b__1,0,none⟩)] 197::.box b__1 [.int .i64 x,.int .i64 x_1,.slice x_2_p x_2.length x_2_c,.slice (some ⟨g,0,none⟩) x_3.length x_3_c] 201::.row (some ⟨g,0,none⟩) x_3_c (((x_3.set i_.toNat (⟨max e_1.Lo low,e_1.Hi⟩ : api_Span)).set i_.toNat (⟨max e_1.Lo low,min e_1.Hi high⟩ : api_Span)).map enc_api_Span) 26 2::Lf) w) follows_mx (by kernel_rfl) (by kernel_rfl) (HasE.of hf ⟨rfl,rfl,rfl,trivial,trivial,trivial,trivial,trivial,trivial,trivial,trivial,trivial,trivial,trivial,trivial,trivial,trivial,trivial,trivial,trivial,trivial,trivial⟩) hc ⟨?_,?_,?_,?_,?_,?_,?_,?_,?_,?_,?_,?_,?_,?_,?_,?_,?_,?_,?_,?_,trivial⟩ ?_ ?_
 ·intro E θ a w hD hi hp he hc
  have hf := he.h0
  replace hf := hf.more he 2 rfl onT
  refine stP hf rfl rfl rfl (pM rfl) fun a hf => cNil ?_
  refine xThenN ?_
  intro ds u hau
  refine ⟨θ,he.put0 hi hau hf rfl 3 rfl rfl,?_⟩
  exact hc
 ·intro E θ a w hD hi hp he hc
  have hf := he.h0
  replace hf := hf.more he 2 rfl onT
  refine stP hf rfl rfl rfl (pM rfl) fun a hf => cNil ?_
  refine xThenN ?_
  intro ds u hau
  refine ⟨θ,he.put0 hi hau hf rfl 4 rfl rfl,?_⟩
  exact hc
 ·intro E θ a w hD hi hp he hc
  have hf := he.h0
  replace hf := hf.more he 2 rfl onT
  refine stP hf rfl rfl rfl (pM rfl) fun a hf => cNil ?_
  refine xThenN ?_
  intro ds u hau
  refine ⟨θ,he.put0 hi hau hf rfl 5 rfl rfl,?_⟩
  exact hc
 ·intro E θ a w hD hi hp he hc
  have e2 := hp.of (k := 2) rfl
  have hf := he.h0
  replace hf := hf.more he 5 rfl (onP e2)
  refine stP hf rfl rfl rfl (pNC rfl) fun a hf => cNil ?_
  refine xThenN ?_
  intro ds u hau
  refine ⟨θ,he.put0 hi hau hf rfl 6 rfl rfl,?_⟩
  exact hc
 ·intro E θ a w hD hi hp he hc
  have e3 := hp.of (k := 3) rfl
  have hf := he.h0
  replace hf := hf.more he 6 rfl (onP e3)
  refine stP hf rfl rfl rfl (pFA fa_26_0 rfl) fun a hf => cNil ?_
  refine xThenN ?_
  intro ds u hau
  refine ⟨θ,he.put0 hi hau hf rfl 7 rfl rfl,?_⟩
  exact hc
 ·intro E θ a w hD hi hp he hc
  have e4 := hp.of (k := 4) rfl
  have e16 := hD.f 0 rfl hi
  have e19 := hD.f 1 rfl hi
  try dsimp only at hc
  rw [e16,e19] at hc
  have hf := he.h0
  replace hf := hf.more he 7 rfl (onP e4)
  refine stE hf hc rfl rfl rfl (eLd1 sc_3 rfl (cell_row (sz := 2) (i := i_.toNat) (j := 0) m2 qr rfl)) fun a w hf hc => cNil ?_
  refine xThenN ?_
  intro ds u hau
  refine ⟨θ,he.put0 hi hau hf rfl 8 rfl rfl,?_⟩
  try dsimp only
  rw [updE_fls 5 e16 rfl,updE_fls 5 e19 rfl]
  exact hc
 ·intro E θ a w hD hi hp he hc
  have hf := he.h0
  replace hf := hf.more he 0 rfl onT
  refine stP hf rfl rfl rfl (pM rfl) fun a hf => cNil ?_
  refine xThenN ?_
  intro ds u hau
  refine ⟨θ,he.put0 hi hau hf rfl 9 rfl rfl,?_⟩
  exact hc
 ·intro E θ a w hD hi hp he hc
  have e5 := hp.of (k := 5) rfl
  have e6 := hp.of (k := 6) rfl
  have hf := he.h0
  replace hf := hf.more he 8 rfl (onP e5)
  replace hf := hf.more he 9 rfl (onP e6)
  refine stP hf rfl rfl rfl (pMax2 rfl rfl) fun a hf => cNil ?_
  refine xThenN ?_
  intro ds u hau
  refine ⟨θ,he.put0 hi hau hf rfl 10 rfl rfl,?_⟩
  exact hc
 ·intro E θ a w hD hi hp he hc
  have hf := he.h0
  replace hf := hf.more he 2 rfl onT
  refine stP hf rfl rfl rfl (pM rfl) fun a hf => cNil ?_
  refine xThenN ?_
  intro ds u hau
  refine ⟨θ,he.put0 hi hau hf rfl 11 rfl rfl,?_⟩
  exact hc
 ·intro E θ a w hD hi hp he hc
  have e8 := hp.of (k := 8) rfl
  have hf := he.h0
  replace hf := hf.more he 11 rfl (onP e8)
  refine stP hf rfl rfl rfl (pNC rfl) fun a hf => cNil ?_
  refine xThenN ?_
  intro ds u hau
  refine ⟨θ,he.put0 hi hau hf rfl 12 rfl rfl,?_⟩
  exact hc
 ·intro E θ a w hD hi hp he hc
  have e9 := hp.of (k := 9) rfl
  have hf := he.h0
  replace hf := hf.more he 12 rfl (onP e9)
  refine stP hf rfl rfl rfl (pFA fa_26_1 rfl) fun a hf => cNil ?_
  refine xThenN ?_
  intro ds u hau
  refine ⟨θ,he.put0 hi hau hf rfl 13 rfl rfl,?_⟩
  exact hc
 ·intro E θ a w hD hi hp he hc
  have e10 := hp.of (k := 10) rfl
  have e16 := hD.f 2 rfl hi
  have e19 := hD.f 3 rfl hi
  try dsimp only at hc
  rw [e16,e19] at hc
  have hf := he.h0
  replace hf := hf.more he 13 rfl (onP e10)
  refine stE hf hc rfl rfl rfl (eLd1 sc_3 rfl (cell_row (sz := 2) (i := i_.toNat) (j := 1) m2 qr rfl)) fun a w hf hc => cNil ?_
  refine xThenN ?_
  intro ds u hau
  refine ⟨θ,he.put0 hi hau hf rfl 14 rfl rfl,?_⟩
  try dsimp only
  rw [updE_fls 11 e16 rfl,updE_fls 11 e19 rfl]
  exact hc
 ·intro E θ a w hD hi hp he hc
  have hf := he.h0
  replace hf := hf.more he 1 rfl onT
  refine stP hf rfl rfl rfl (pM rfl) fun a hf => cNil ?_
  refine xThenN ?_
  intro ds u hau
  refine ⟨θ,he.put0 hi hau hf rfl 15 rfl rfl,?_⟩
  exact hc
 ·intro E θ a w hD hi hp he hc
  have e11 := hp.of (k := 11) rfl
  have e12 := hp.of (k := 12) rfl
  have hf := he.h0
  replace hf := hf.more he 14 rfl (onP e11)
  replace hf := hf.more he 15 rfl (onP e12)
  refine stP hf rfl rfl rfl (pMin2 rfl rfl) fun a hf => cNil ?_
  refine xThenN ?_
  intro ds u hau
  refine ⟨θ,he.put0 hi hau hf rfl 16 rfl rfl,?_⟩
  exact hc
 ·intro E θ a w hD hi hp he hc
  have e0 := hp.of (k := 0) rfl
  have hf := he.h0
  replace hf := hf.more he 3 rfl (onP e0)
  refine stP hf rfl rfl rfl (pNC rfl) fun a hf => cNil ?_
  refine xThenN ?_
  intro ds u hau
  refine ⟨θ,he.put0 hi hau hf rfl 17 rfl rfl,?_⟩
  exact hc
 ·intro E θ a w hD hi hp he hc
  have e14 := hp.of (k := 14) rfl
  have hf := he.h0
  replace hf := hf.more he 17 rfl (onP e14)
  refine stP hf rfl rfl rfl (pFA fa_26_0 rfl) fun a hf => cNil ?_
  refine xThenN ?_
  intro ds u hau
  refine ⟨θ,he.put0 hi hau hf rfl 18 rfl rfl,?_⟩
  exact hc
 ·intro E θ a w hD hi hp he hc
  have e7 := hp.of (k := 7) rfl
  have e15 := hp.of (k := 15) rfl
  have e19 := hD.f 4 rfl hi
  try dsimp only at hc
  rw [hi,e19] at hc
  have hf := he.h0
  replace hf := hf.more he 10 rfl (onP e7)
  replace hf := hf.more he 18 rfl (onP e15)
  refine stRw (vs := [.int .i64 (max e_1.Lo low)]) (o' := 0) (z := (⟨max e_1.Lo low,e_1.Hi⟩ : api_Span)) (xs := x_3) hf hc rfl rfl rfl rfl sz_3 rfl (fun x => (one_enc_api_Span x).1) (getI_lt he_1) (fun e' he' => by cases (he'.symm.trans (getI_spec he_1).2); rfl) rfl u2 fun w hc => cNil ?_
  refine xThenN ?_
  intro ds u hau
  refine ⟨θ,he.stay0 hi hau hf rfl,?_⟩
  try dsimp only
  rw [updE_self E 16,updE_fls 16 e19 rfl]
  exact hc
 ·intro E θ a w hD hi hp he hc
  have e1 := hp.of (k := 1) rfl
  have hf := he.h0
  replace hf := hf.more he 4 rfl (onP e1)
  refine stP hf rfl rfl rfl (pNC rfl) fun a hf => cNil ?_
  refine xThenN ?_
  intro ds u hau
  refine ⟨θ,he.put0 hi hau hf rfl 19 rfl rfl,?_⟩
  exact hc
 ·intro E θ a w hD hi hp he hc
  have e17 := hp.of (k := 17) rfl
  have hf := he.h0
  replace hf := hf.more he 19 rfl (onP e17)
  refine stP hf rfl rfl rfl (pFA fa_26_1 rfl) fun a hf => cNil ?_
  refine xThenN ?_
  intro ds u hau
  refine ⟨θ,he.put0 hi hau hf rfl 20 rfl rfl,?_⟩
  exact hc
 ·intro E θ a w hD hi hp he hc
  have e13 := hp.of (k := 13) rfl
  have e18 := hp.of (k := 18) rfl
  have e16 := hp.of (k := 16) rfl
  try dsimp only at hc
  rw [e16,hi] at hc
  have hf := he.h0
  replace hf := hf.more he 16 rfl (onP e13)
  replace hf := hf.more he 20 rfl (onP e18)
  refine stRw (vs := [.int .i64 (min e_1.Hi high)]) (o' := 1) (z := (⟨max e_1.Lo low,min e_1.Hi high⟩ : api_Span)) (xs := (x_3.set i_.toNat (⟨max e_1.Lo low,e_1.Hi⟩ : api_Span))) hf hc rfl rfl rfl rfl sz_3 rfl (fun x => (one_enc_api_Span x).1) (by simpa using getI_lt he_1) (fun e' he' => by rw [List.getElem?_set_self (by simpa using getI_lt he_1)] at he'; cases he'; rfl) rfl u2 fun w hc => ?_
  refine cNil ?_
  refine xThenN ?_
  intro ds u hau
  refine ⟨θ,he.stay0 hi hau hf rfl,?_⟩
  try dsimp only
  rw [updE_tru 19 e16,updE_self E 19]
  exact hc
 ·intro E θ a w hall he hc
  have hf := he.h0
  have e16 := hall 16 rfl
  have e19 := hall 19 rfl
  try dsimp only at hc
  rw [e16,e19] at hc
  exact ⟨hf.keep trivial,hc⟩
 rintro a w ⟨hf,hc⟩
 obtain ⟨_,hl0,hF⟩ := same_len hF
 obtain rfl := Option.some.inj hF
 exact fnOut0 (by simp) rfl Try.results151 hf ⟨(by first | rfl | simp only [List.length_set]),hl0,hc⟩

def daily_opened_2 (s_ : api_Span) : Bool :=
 (decide (s_.Lo ≤ s_.Hi))
theorem daily_opened_2_ok {G : Pers} {Lf : List Ent} {w : World} (s_ : api_Span)   (hc : Ctx G (Lf) w) {res : Bool} (hF : daily_opened_2 s_ = res) : Calls Try.prog 154 #[.agg #[.int .i64 s_.Lo,.int .i64 s_.Hi]] w (fun e w => e = .returned (.bool res) ∧ Ctx G (Lf) w) := by
 unfold daily_opened_2 at hF
 refine fnIn (args := [.agg #[.int .i64 s_.Lo,.int .i64 s_.Hi]]) Try.func154 rfl Try.ntmps154 rfl fun a hf => wp_seq_k fun K1 h1 => cReg ?_
 refine stBx (cs := [.int .i64 s_.Lo,.int .i64 s_.Hi]) hf hc rfl rfl rfl rfl fun b_1 a w hf hc => stP hf rfl rfl rfl (pA rfl) fun a hf => cNil ?_
 refine h1 _ _ ?_
 refine wp_seq_k fun K2 h2 => cReg ?_
 refine stP hf rfl rfl rfl (pFA fa_26_0 rfl) fun a hf => stE hf hc rfl rfl rfl (eLd1 sc_3 rfl (cell_box m0 rfl)) fun a w hf hc => stP hf rfl rfl rfl (pFA fa_26_1 rfl) fun a hf => stE hf hc rfl rfl rfl (eLd1 sc_3 rfl (cell_box m0 rfl)) fun a w hf hc => stP hf rfl rfl rfl (pLe rfl rfl) fun a hf => stP hf rfl rfl rfl (pA rfl) fun a hf => cNil ?_
 refine h2 _ _ ?_
 refine wp_ret ?_
 obtain rfl := hF
 replace hc := hc.drop k0
 exact fnOut1 (by simp) rfl Try.results154 hf hc (show look _ 2 = _ from rfl) ⟨rfl,hc⟩

def daily_every_api_Span_1 (x : api_Span) : Bool :=
 (!(daily_opened_2 x))
theorem daily_every_api_Span_1_ok {G : Pers} {Lf : List Ent} {w : World} (x : api_Span) {b_ : Nat}  (hc : Ctx G (.box b_ [.func (.func 154) #[] #[]] 151::Lf) w) {res : Bool} (hF : daily_every_api_Span_1 x = res) : Calls Try.prog 160 #[.agg #[.int .i64 x.Lo,.int .i64 x.Hi],.pointer (some ⟨b_,0,none⟩)] w (fun e w => e = .returned (.bool res) ∧ Ctx G (.box b_ [.func (.func 154) #[] #[]] 151::Lf) w) := by
 unfold daily_every_api_Span_1 at hF
 refine fnIn (args := [.agg #[.int .i64 x.Lo,.int .i64 x.Hi],.pointer (some ⟨b_,0,none⟩)]) Try.func160 rfl Try.ntmps160 rfl fun a hf => wp_seq_k fun K1 h1 => cReg ?_
 refine stBx (cs := [.int .i64 x.Lo,.int .i64 x.Hi]) hf hc rfl rfl rfl rfl fun b_1 a w hf hc => stP hf rfl rfl rfl (pA rfl) fun a hf => cNil ?_
 refine h1 _ _ ?_
 refine wp_seq_k fun K2 h2 => cReg ?_
 refine stE hf hc rfl rfl rfl (eLd1 sc_151 rfl (cell_box m1 rfl)) fun a w hf hc => stE hf hc rfl rfl rfl (eLdN (vs := [.int .i64 x.Lo,.int .i64 x.Hi]) ag_26 rfl rfl (cells_box (n := 2) m0 rfl)) fun a w hf hc => stE hf hc rfl rfl rfl (eC (v := .bool (daily_opened_2 x)) (vs := [.agg #[.int .i64 x.Lo,.int .i64 x.Hi]]) (caps := []) en_154 rfl rfl rfl rfl (fun w hc => daily_opened_2_ok x hc rfl)) fun a w hf hc => stP hf rfl rfl rfl (pNot rfl) fun a hf => stP hf rfl rfl rfl (pA rfl) fun a hf => cNil ?_
 refine h2 _ _ ?_
 refine wp_ret ?_
 obtain rfl := hF
 replace hc := hc.drop k0
 exact fnOut1 (by simp) rfl Try.results160 hf hc (show look _ 3 = _ from rfl) ⟨rfl,hc⟩

def slices_IndexFunc_Lapi_Span_api_Span_b4 (N : Nat) (s_ : List api_Span) (x : Int) : Option (Step (Int) (Int)) :=
 cond (decide (x < ((s_.length : Nat) : Int)))
 (Option.bind (getI s_ x) fun e_1 =>
 cond (daily_every_api_Span_1 e_1)
 (some (.ret x))
 (some (.cont (W (x + 1)))))
 (some (.brk x))
def slices_IndexFunc_Lapi_Span_api_Span (N : Nat) (s_ : List api_Span) : Option (Int) :=
 Option.bind (loopO (fun s4 => slices_IndexFunc_Lapi_Span_api_Span_b4 N s_ s4) N 0) fun x4 =>
 exK x4 (fun s4 => some (-1)) some
theorem slices_IndexFunc_Lapi_Span_api_Span_ok {N : Nat} {G : Pers} {Lf : List Ent} {w : World} (s_ : List api_Span) {s__p : Option Addr} {s__c : Nat} {b_ : Nat} (h_s_ : Rd G 2 s__p s__c (s_.map enc_api_Span)) (hc : Ctx G (.box b_ [.func (.func 154) #[] #[]] 151::Lf) w) {res : Int} (hF : slices_IndexFunc_Lapi_Span_api_Span N s_ = some res) : Calls Try.prog 161 #[.slice s__p s_.length s__c,.func (.func 160) #[] #[.pointer (some ⟨b_,0,none⟩)]] w (fun e w => e = .returned (.int .i64 res) ∧ Ctx G (.box b_ [.func (.func 154) #[] #[]] 151::Lf) w) := by
 unfold slices_IndexFunc_Lapi_Span_api_Span at hF
 refine fnIn (args := [.slice s__p s_.length s__c,.func (.func 160) #[] #[.pointer (some ⟨b_,0,none⟩)]]) Try.func161 rfl Try.ntmps161 rfl fun a hf => wp_seq_k fun K1 h1 => cReg ?_
 refine stP hf rfl rfl rfl (pA rfl) fun a hf => cNil ?_
 refine h1 _ _ ?_
 refine wp_seq_k fun K2 h2 => wp_seq_k fun K3 h3 => cReg ?_
 refine stP hf rfl rfl rfl (pM rfl) fun a hf => stP hf rfl rfl rfl (pLenS Try.underlying41 rfl) fun a hf => stP hf rfl rfl rfl (pM rfl) fun a hf => cNil ?_
 refine h3 _ _ ?_
 refine wp_block ?_
 obtain ⟨x4,hx4,hF⟩ := bnd_some hF
 let S4 : Int → Act → World → Prop := (fun (zz : Int) a w => Has 19 a [(0,.slice s__p s_.length s__c),(1,.func (.func 160) #[] #[.pointer (some ⟨b_,0,none⟩)]),(7,.int .i64 ((s_.length : Nat) : Int)),(8,.int .i64 zz)] ∧ Ctx G (.box b_ [.func (.func 154) #[] #[]] 151::Lf) w)
 have hr4 : ∀ (zz : Int) a w,x4 = .go zz → S4 zz a w → K2 a w := by
  rintro x a w rfl ⟨hf,hc⟩
  replace hF := exK_go hF
  refine h2 _ _ ?_
  refine wp_seq_k fun K5 h5 => cReg ?_
  refine stP hf rfl rfl rfl (pA rfl) fun a hf => cNil ?_
  refine h5 _ _ ?_
  refine wp_ret ?_
  obtain rfl := Option.some.inj hF
  exact fnOut1 (by simp) rfl Try.results161 hf hc (show look _ 4 = _ from rfl) ⟨rfl,hc⟩
 have ho4 : ∀ r,x4 = .out r → r = res := by
  rintro r rfl
  exact Option.some.inj hF
 refine cLoop N (loopW (S := S4) (x := x4) ?_ N 0 _ _ ⟨hf.keep ⟨rfl,rfl,rfl,rfl,trivial⟩,hc⟩ hx4)
 clear hF hf hc
 rintro x st4 a w KB4 ⟨hf,hc⟩ hF hfin4 hK4
 unfold slices_IndexFunc_Lapi_Span_api_Span_b4 at hF
 refine wp_seq_k fun K6 h6 => cReg ?_
 refine stP hf rfl rfl rfl (pLt rfl rfl) fun a hf => cNil ?_
 refine h6 _ _ ?_
 refine wp_seq_k fun K7 h7 => cCond (b := (decide (x < ((s_.length : Nat) : Int)))) hf rfl (fun hb => ?_) (fun hb => ?_)
 ·replace hF := condT hb hF
  clear hb
  refine wp_skip ?_
  refine h7 _ _ ?_
  refine wp_seq_k fun K8 h8 => wp_block ?_
  refine wp_seq_k fun K9 h9 => cReg ?_
  refine stP hf rfl rfl rfl (pM rfl) fun a hf => stP hf rfl rfl rfl (pA rfl) fun a hf => cNil ?_
  refine h9 _ _ ?_
  refine wp_seq_k fun K10 h10 => cReg ?_
  refine stP hf rfl rfl rfl (pM rfl) fun a hf => stP hf rfl rfl rfl (pM rfl) fun a hf => stP hf rfl rfl rfl (pM rfl) fun a hf => ?_
  obtain ⟨e_1,he_1,hF⟩ := bnd_some hF
  obtain ⟨b_1,o,qa,qp⟩ := h_s_.atm he_1
  refine stP hf rfl rfl rfl (pIA Try.underlying41 sz_26 rfl rfl qa) fun a hf => stE hf hc rfl rfl rfl (eLdN (vs := [.int .i64 e_1.Lo,.int .i64 e_1.Hi]) ag_26 rfl rfl (cells_pc qp (n := 2) (o' := 0) rfl)) fun a w hf hc => stE hf hc rfl rfl rfl (eC (v := .bool (daily_every_api_Span_1 e_1)) (vs := [.agg #[.int .i64 e_1.Lo,.int .i64 e_1.Hi]]) (caps := [.pointer (some ⟨b_,0,none⟩)]) en_160 rfl rfl rfl rfl (fun w hc => (daily_every_api_Span_1_ok e_1 (hc.pick k0) rfl).mono fun e w h => ⟨h.1,(h.2.unpick k0)⟩)) fun a w hf hc => cNil ?_
  refine h10 _ _ ?_
  refine cCond (b := (daily_every_api_Span_1 e_1)) hf rfl (fun hb => ?_) (fun hb => ?_)
  ·replace hF := condT hb hF
   clear hb
   refine wp_seq_k fun K11 h11 => cReg ?_
   refine stP hf rfl rfl rfl (pM rfl) fun a hf => stP hf rfl rfl rfl (pA rfl) fun a hf => cNil ?_
   refine h11 _ _ ?_
   refine wp_ret ?_
   refine xBlkR ?_
   refine xThenR ?_
   refine xThenR ?_
   have he := Option.some.inj hF
   rw [← he] at hfin4
   replace hF := ho4 _ hfin4
   refine xBlkR ?_
   refine xThenR ?_
   obtain rfl := hF
   exact fnOut1 (by simp) rfl Try.results161 hf hc (show look _ 4 = _ from rfl) ⟨rfl,hc⟩
  ·replace hF := condF hb hF
   clear hb
   refine wp_skip ?_
   refine h8 _ _ ?_
   refine cReg ?_
   refine stP hf rfl rfl rfl (pAdd rfl rfl) fun a hf => stP hf rfl rfl rfl (pM rfl) fun a hf => cNil ?_
   exact hK4 (W (x + 1)) _ _ (Option.some.inj hF).symm ⟨hf.keep ⟨rfl,rfl,rfl,rfl,trivial⟩,hc⟩
 ·replace hF := condF hb hF
  clear hb
  refine wp_exit ?_
  refine xThen ?_
  refine xThen ?_
  have he := Option.some.inj hF
  rw [← he] at hfin4
  refine cHit ?_
  exact hr4 _ _ _ hfin4 ⟨hf.keep ⟨rfl,rfl,rfl,rfl,trivial⟩,hc⟩

def slices_ContainsFunc_Lapi_Span_api_Span (N : Nat) (s_ : List api_Span) : Option (Bool) :=
 Option.bind (slices_IndexFunc_Lapi_Span_api_Span N s_) fun r =>
 some (decide (0 ≤ r))
theorem slices_ContainsFunc_Lapi_Span_api_Span_ok {N : Nat} {G : Pers} {Lf : List Ent} {w : World} (s_ : List api_Span) {s__p : Option Addr} {s__c : Nat} {b_ : Nat} (h_s_ : Rd G 2 s__p s__c (s_.map enc_api_Span)) (hc : Ctx G (.box b_ [.func (.func 154) #[] #[]] 151::Lf) w) {res : Bool} (hF : slices_ContainsFunc_Lapi_Span_api_Span N s_ = some res) : Calls Try.prog 159 #[.slice s__p s_.length s__c,.func (.func 160) #[] #[.pointer (some ⟨b_,0,none⟩)]] w (fun e w => e = .returned (.bool res) ∧ Ctx G (.box b_ [.func (.func 154) #[] #[]] 151::Lf) w) := by
 unfold slices_ContainsFunc_Lapi_Span_api_Span at hF
 refine fnIn (args := [.slice s__p s_.length s__c,.func (.func 160) #[] #[.pointer (some ⟨b_,0,none⟩)]]) Try.func159 rfl Try.ntmps159 rfl fun a hf => wp_seq_k fun K1 h1 => cReg ?_
 refine stP hf rfl rfl rfl (pA rfl) fun a hf => cNil ?_
 refine h1 _ _ ?_
 refine wp_seq_k fun K2 h2 => cReg ?_
 refine stP hf rfl rfl rfl (pM rfl) fun a hf => stP hf rfl rfl rfl (pM rfl) fun a hf => ?_
 obtain ⟨r,hr,hF⟩ := bnd_some hF
 refine stE hf hc rfl rfl rfl (eC (v := .int .i64 r) (vs := [.slice s__p s_.length s__c,.func (.func 160) #[] #[.pointer (some ⟨b_,0,none⟩)]]) (caps := []) en_161 rfl rfl rfl rfl (fun w hc => (slices_IndexFunc_Lapi_Span_api_Span_ok s_ h_s_ (hc.pick k0) hr).mono fun e w h => ⟨h.1,(h.2.unpick k0)⟩)) fun a w hf hc => stP hf rfl rfl rfl (pGe rfl rfl) fun a hf => stP hf rfl rfl rfl (pA rfl) fun a hf => cNil ?_
 refine h2 _ _ ?_
 refine wp_ret ?_
 obtain rfl := Option.some.inj hF
 exact fnOut1 (by simp) rfl Try.results159 hf hc (show look _ 4 = _ from rfl) ⟨rfl,hc⟩

def daily_every_api_Span (N : Nat) (l : List api_Span) : Option (Bool) :=
 Option.bind (slices_ContainsFunc_Lapi_Span_api_Span N l) fun r =>
 some (!r)
theorem daily_every_api_Span_ok {N : Nat} {G : Pers} {Lf : List Ent} {w : World} (l : List api_Span) {l_p : Option Addr} {l_c : Nat} (h_l : Rd G 2 l_p l_c (l.map enc_api_Span)) (hc : Ctx G (Lf) w) {res : Bool} (hF : daily_every_api_Span N l = some res) : Calls Try.prog 153 #[.slice l_p l.length l_c,.func (.func 154) #[] #[]] w (fun e w => e = .returned (.bool res) ∧ Ctx G (Lf) w) := by
 unfold daily_every_api_Span at hF
 refine fnIn (args := [.slice l_p l.length l_c,.func (.func 154) #[] #[]]) Try.func153 rfl Try.ntmps153 rfl fun a hf => wp_seq_k fun K1 h1 => cReg ?_
 refine stBx (cs := [.func (.func 154) #[] #[]]) hf hc rfl rfl rfl rfl fun b_1 a w hf hc => stP hf rfl rfl rfl (pA rfl) fun a hf => cNil ?_
 refine h1 _ _ ?_
 refine wp_seq_k fun K2 h2 => cReg ?_
 refine stP hf rfl rfl rfl (pM rfl) fun a hf => stP hf rfl rfl rfl (pMF (us := [.pointer (some ⟨b_1,0,none⟩)]) rfl rfl) fun a hf => ?_
 obtain ⟨r,hr,hF⟩ := bnd_some hF
 refine stE hf hc rfl rfl rfl (eC (v := .bool r) (vs := [.slice l_p l.length l_c,.func (.func 160) #[] #[.pointer (some ⟨b_1,0,none⟩)]]) (caps := []) en_159 rfl rfl rfl rfl (fun w hc => (slices_ContainsFunc_Lapi_Span_api_Span_ok l h_l (hc.pick k0) hr).mono fun e w h => ⟨h.1,(h.2.unpick k0)⟩)) fun a w hf hc => stP hf rfl rfl rfl (pNot rfl) fun a hf => stP hf rfl rfl rfl (pA rfl) fun a hf => cNil ?_
 refine h2 _ _ ?_
 refine wp_ret ?_
 obtain rfl := Option.some.inj hF
 replace hc := hc.drop k0
 exact fnOut1 (by simp) rfl Try.results153 hf hc (show look _ 4 = _ from rfl) ⟨rfl,hc⟩

def daily_opened_r13 (N : Nat) (r : daily_Record) (x_1 : List api_Span) (x_2 : List api_Span) (xv : Int) (xv_1 : Int) : Option (Rs ((List api_Span))) :=
 Option.bind (getI x_2 xv) fun e_1 =>
 Option.bind (getI x_2 xv) fun e_2 =>
 Option.bind (daily_opened_1 N xv_1 (W (e_1.Lo - r.Fall)) (W (e_2.Hi + r.Rise)) r.Rise r.Fall r.Days x_2) fun r_2 =>
 Option.bind (sameL r_2 x_1) fun _ =>
 some (.go r_2)
def daily_opened_r18 (N : Nat) (r : daily_Record) (x_2 : List api_Span) (x_3 : List api_Span) (xv_2 : Int) (xv_3 : Int) : Option (Rs ((List api_Span))) :=
 Option.bind (getI x_3 xv_2) fun e_3 =>
 Option.bind (getI x_3 xv_2) fun e_4 =>
 Option.bind (daily_opened_1 N xv_3 (W (e_3.Lo - r.Rise)) (W (e_4.Hi + r.Fall)) r.Rise r.Fall r.Days x_3) fun r_4 =>
 Option.bind (sameL r_4 x_2) fun _ =>
 some (.go r_4)
def daily_opened_b9 (N : Nat) (r : daily_Record) (x : Int) (x_1 : List api_Span) : Option (Step (Int × (List api_Span)) ((Bool × Int) ⊕ (Int × Int × (List api_Span) × Bool × Int))) :=
 cond (decide (x < ((r.Days.length : Nat) : Int)))
 (Option.bind (getI r.Days x) fun e_5 =>
 Option.bind (daily_Value_span N e_5) fun r_6 =>
 Option.bind (room ((x_1 ++ [r_6])).length) fun un =>
 some (.cont (W (x + 1),(x_1 ++ [r_6]))))
 (some (.brk (x,x_1)))
def daily_opened (N : Nat) (r : daily_Record) : Option ((Bool × Int) ⊕ (Int × Int × (List api_Span) × Bool × Int)) :=
 Option.bind (daily_Check N r) fun r_0 =>
 cond (r_0 != 0)
 (some (.inl (false,r_0)))
 (Option.bind (loopO (fun s9 => daily_opened_b9 N r s9.1 s9.2) N (0,([] : List api_Span))) fun x9 =>
 exK x9 (fun s9 => Option.bind (daily_work_pairs N (⟨r,s9.2⟩ : daily_work) false) fun r_1 =>
 Option.bind (daily_work_pairs_1 N r.Rise r.Fall r.Days r_1 (rY (fun (zz : (List api_Span)) (ix_ : (Int × Int)) => daily_opened_r13 N r s9.2 zz ix_.1 ix_.2)) (.go s9.2)) fun x13 =>
 rsK x13 (fun zz13 => Option.bind (daily_work_pairs N (⟨r,zz13⟩ : daily_work) true) fun r_3 =>
 Option.bind (daily_work_pairs_1 N r.Rise r.Fall r.Days r_3 (rY (fun (zz : (List api_Span)) (ix_ : (Int × Int)) => daily_opened_r18 N r zz13 zz ix_.1 ix_.2)) (.go zz13)) fun x18 =>
 rsK x18 (fun zz18 => Option.bind (daily_every_api_Span N zz18) fun r_5 =>
 some (.inr (r.Rise,r.Fall,zz18,r_5,0))) (fun zz18 => none)) (fun zz13 => none)) some)
theorem daily_opened_ok {N : Nat} {G : Pers} {Lf : List Ent} {w : World} (r : daily_Record) {r_Days_p : Option Addr} {r_Days_c : Nat} (h_r_Days : Rd G 3 r_Days_p r_Days_c (r.Days.map enc_daily_Value)) (hc : Ctx G (Lf) w) {res : (Bool × Int) ⊕ (Int × Int × (List api_Span) × Bool × Int)} (hF : daily_opened N r = some res) : Calls Try.prog 140 #[.agg #[.int .i64 r.Rise,.int .i64 r.Fall,.slice r_Days_p r.Days.length r_Days_c]] w (fun e w => sumK (fun rr => e = .returned (.tuple #[.pointer none,.bool rr.1,.int .i64 rr.2]) ∧ Ctx G (Lf) w) (fun rr => ∃ (b'1 : Nat) (p'1 : Option Addr) (c'1 : Nat),e = .returned (.tuple #[.pointer (some ⟨b'1,0,none⟩),.bool rr.2.2.2.1,.int .i64 rr.2.2.2.2]) ∧ Ctx G (.row p'1 c'1 (rr.2.2.1.map enc_api_Span) 26 2::.box b'1 [.int .i64 rr.1,.int .i64 rr.2.1,.slice r_Days_p r.Days.length r_Days_c,.slice p'1 rr.2.2.1.length c'1] 201::Lf) w) res) := by
 unfold daily_opened at hF
 refine fnInM (args := [.agg #[.int .i64 r.Rise,.int .i64 r.Fall,.slice r_Days_p r.Days.length r_Days_c]]) Try.func140 rfl Try.ntmps140 rfl fun a hf => wp_seq_k fun K1 h1 => cReg ?_
 refine stBx (cs := [.int .i64 r.Rise,.int .i64 r.Fall,.slice r_Days_p r.Days.length r_Days_c]) hf hc rfl rfl rfl rfl fun b_1 a w hf hc => stP hf rfl rfl rfl (pA rfl) fun a hf => stP hf rfl rfl rfl (pA rfl) fun a hf => stP hf rfl rfl rfl (pA rfl) fun a hf => cNil ?_
 refine h1 _ _ ?_
 refine wp_seq_k fun K2 h2 => wp_seq_k fun K3 h3 => cReg ?_
 refine stE hf hc rfl rfl rfl (eLdN (vs := [.int .i64 r.Rise,.int .i64 r.Fall,.slice r_Days_p r.Days.length r_Days_c]) ag_127 rfl rfl (cells_box (n := 3) m0 rfl)) fun a w hf hc => ?_
 obtain ⟨r_0,hr_0,hF⟩ := bnd_some hF
 refine stE hf hc rfl rfl rfl (eC (v := .int .i64 r_0) (vs := [.agg #[.int .i64 r.Rise,.int .i64 r.Fall,.slice r_Days_p r.Days.length r_Days_c]]) (caps := []) en_107 rfl rfl rfl rfl (fun w hc => daily_Check_ok r h_r_Days hc hr_0)) fun a w hf hc => stP hf rfl rfl rfl (pA rfl) fun a hf => cNil ?_
 refine h3 _ _ ?_
 refine wp_seq_k fun K4 h4 => cReg ?_
 refine stP hf rfl rfl rfl (pM rfl) fun a hf => stP hf rfl rfl rfl (pNe rfl rfl) fun a hf => cNil ?_
 refine h4 _ _ ?_
 refine cCond (b := (r_0 != 0)) hf rfl (fun hb => ?_) (fun hb => ?_)
 ·replace hF := condT hb hF
  clear hb
  refine wp_seq_k fun K5 h5 => cReg ?_
  refine stP hf rfl rfl rfl (pM rfl) fun a hf => stP hf rfl rfl rfl (pA rfl) fun a hf => stP hf rfl rfl rfl (pA rfl) fun a hf => stP hf rfl rfl rfl (pA rfl) fun a hf => cNil ?_
  refine h5 _ _ ?_
  refine wp_ret ?_
  refine xThenR ?_
  obtain rfl := Option.some.inj hF
  replace hc := hc.drop k0
  refine outM hf ?_
  exact outM3 Try.results140 hf hc (show look _ 2 = _ from rfl) (show look _ 3 = _ from rfl) (show look _ 4 = _ from rfl) ⟨rfl,hc⟩
 ·replace hF := condF hb hF
  clear hb
  refine wp_skip ?_
  refine h2 _ _ ?_
  refine wp_seq_k fun K6 h6 => cReg ?_
  refine stE hf hc rfl rfl rfl (eLdN (vs := [.int .i64 r.Rise,.int .i64 r.Fall,.slice r_Days_p r.Days.length r_Days_c]) ag_127 rfl rfl (cells_box (n := 3) m0 rfl)) fun a w hf hc => stP hf rfl rfl rfl (pBuildS (cells := [.int .i64 r.Rise,.int .i64 r.Fall,.slice r_Days_p r.Days.length r_Days_c,.slice none 0 0]) bt_201 rfl rfl) fun a hf => stBx (cs := [.int .i64 r.Rise,.int .i64 r.Fall,.slice r_Days_p r.Days.length r_Days_c,.slice none 0 0]) hf hc rfl rfl rfl rfl fun b_2 a w hf hc => stAl (cs := [.pointer none]) hf hc rfl rfl zr_197 rfl fun b_3 a w hf hc => stSt (vs := [.pointer (some ⟨b_2,0,none⟩)]) hf hc rfl rfl rfl rfl sz_197 rfl rfl u0 fun w hc => cNil ?_
  refine h6 _ _ ?_
  refine wp_seq_k fun K7 h7 => wp_seq_k fun K8 h8 => cReg ?_
  refine stP hf rfl rfl rfl (pFA fa_127_2 rfl) fun a hf => stE hf hc rfl rfl rfl (eLd1 sc_125 rfl (cell_box m2 rfl)) fun a w hf hc => stP hf rfl rfl rfl (pLenS Try.underlying125 rfl) fun a hf => stP hf rfl rfl rfl (pM rfl) fun a hf => cNil ?_
  refine h8 _ _ ?_
  refine wp_block ?_
  obtain ⟨x9,hx9,hF⟩ := bnd_some hF
  let S9 : (Int × (List api_Span)) → Act → World → Prop := (fun (zz : Int × (List api_Span)) a w => ∃ (p_1 : Option Addr) (c_1 : Nat),Has 118 a [(6,.pointer (some ⟨b_3,0,none⟩)),(23,.slice r_Days_p r.Days.length r_Days_c),(24,.int .i64 ((r.Days.length : Nat) : Int)),(25,.int .i64 zz.1)] ∧ Ctx G (.row p_1 c_1 (zz.2.map enc_api_Span) 26 2::.box b_3 [.pointer (some ⟨b_2,0,none⟩)] 197::.box b_2 [.int .i64 r.Rise,.int .i64 r.Fall,.slice r_Days_p r.Days.length r_Days_c,.slice p_1 zz.2.length c_1] 201::Lf) w)
  have hr9 : ∀ (zz : Int × (List api_Span)) a w,x9 = .go zz → S9 zz a w → K7 a w := by
   rintro ⟨x,x_1⟩ a w rfl ⟨p_1,c_1,hf,hc⟩
   replace hF := exK_go hF
   refine h7 _ _ ?_
   refine wp_seq_k fun K10 h10 => cReg ?_
   refine stP hf rfl rfl rfl (pMF (us := [.pointer (some ⟨b_3,0,none⟩)]) rfl rfl) fun a hf => stAl (cs := [.nilFunc]) hf hc rfl rfl zr_224 rfl fun b_4 a w hf hc => stSt (vs := [.func (.func 151) #[] #[.pointer (some ⟨b_3,0,none⟩)]]) hf hc rfl rfl rfl rfl sz_224 rfl rfl u0 fun w hc => cNil ?_
   refine h10 _ _ ?_
   refine wp_seq_k fun K11 h11 => wp_seq_k fun K12 h12 => cReg ?_
   refine stE hf hc rfl rfl rfl (eLd1 sc_197 rfl (cell_box m2 rfl)) fun a w hf hc => ?_
   obtain ⟨r_1,hr_1,hF⟩ := bnd_some hF
   obtain ⟨G1,hle1,hrd1,hc,hth1⟩ := lend hc k1
   refine stC (vs := [.pointer (some ⟨b_2,0,none⟩),.bool false]) (caps := []) hf rfl rfl rfl en_152 rfl rfl rfl rfl (daily_work_pairs_ok (⟨r,x_1⟩ : daily_work) false (h_r_Days.mono hle1) hrd1 (hc.pick k2) hr_1) ?_
   rintro _ w ⟨b_5,b_6,rfl,hc⟩
   refine ⟨_,rfl,fun a hf => ?_⟩
   replace hc := hth1 _ _ hc
   refine cNil ?_
   refine h12 _ _ ?_
   obtain ⟨x13,hx13,hF⟩ := bnd_some hF
   replace hc := hc.pick k0
   replace hc := hc.pick k3
   replace hc := hc.pick k3
   replace hc := hc.pick k3
   refine cRangeC (C := [.box b_5 [.pointer (some ⟨b_2,0,none⟩)] 197,.box b_6 [.bool r_1] 4]) (C2 := [.box b_5 [.pointer (some ⟨b_2,0,none⟩)] 197,.box b_6 [.bool r_1] 4]) (L0 := [.box b_2 [.int .i64 r.Rise,.int .i64 r.Fall,.slice r_Days_p r.Days.length r_Days_c,.slice p_1 x_1.length c_1] 201,.row p_1 c_1 (x_1.map enc_api_Span) 26 2,.box b_4 [.func (.func 151) #[] #[.pointer (some ⟨b_3,0,none⟩)]] 224,.box b_3 [.pointer (some ⟨b_2,0,none⟩)] 197]) (Lf := Lf) (encs := fun x : (Int × Int) => [.int .i64 x.1,.int .i64 x.2]) (fun (zz : (List api_Span)) L => zz.length = x_1.length ∧ L = [.box b_2 [.int .i64 r.Rise,.int .i64 r.Fall,.slice r_Days_p r.Days.length r_Days_c,.slice p_1 zz.length c_1] 201,.row p_1 c_1 (zz.map enc_api_Span) 26 2,.box b_4 [.func (.func 151) #[] #[.pointer (some ⟨b_3,0,none⟩)]] 224,.box b_3 [.pointer (some ⟨b_2,0,none⟩)] 197]) (fun (zz : (List api_Span)) (ix_ : (Int × Int)) => daily_opened_r13 N r x_1 zz ix_.1 ix_.2) x_1 x13 hf hc rfl en_158 (fun _ => rfl) rfl ⟨rfl,rfl⟩ ?_ ?_ ?_ ?_
   ·intro lq mq J L Lx w hy hQ hJ hc
    have hje_ : ∀ (zz : (List api_Span)) (M : List Ent),(fun (zz : (List api_Span)) L => zz.length = x_1.length ∧ L = [.box b_2 [.int .i64 r.Rise,.int .i64 r.Fall,.slice r_Days_p r.Days.length r_Days_c,.slice p_1 zz.length c_1] 201,.row p_1 c_1 (zz.map enc_api_Span) 26 2,.box b_4 [.func (.func 151) #[] #[.pointer (some ⟨b_3,0,none⟩)]] 224,.box b_3 [.pointer (some ⟨b_2,0,none⟩)] 197]) zz M → ∃ A B,M = A ++ (.box b_2 [.int .i64 r.Rise,.int .i64 r.Fall,.slice r_Days_p r.Days.length r_Days_c,.slice p_1 x_1.length c_1] 201::B) := by
     rintro x_2 _ ⟨hl,rfl⟩
     try rw [show _ = _ from hl]
     exact ⟨[],_,rfl⟩
    exact daily_work_pairs_1_ok r.Rise r.Fall r.Days r_1 h_r_Days J _ hy _ hJ (hQ _ hje_) hc hx13
   ·clear hF hf hc
    rintro lq mq x_2 ⟨xv,xv_1⟩ oq _ Lr Lb a w hK0 ⟨hl,rfl⟩ hF hf hc hK
    replace hf : Has 118 a [(6,.pointer (some ⟨b_3,0,none⟩)),(9,.pointer (some ⟨b_4,0,none⟩)),(44,.int .i64 xv),(45,.int .i64 xv_1)] := hf.keep ⟨rfl,rfl,rfl,rfl,trivial⟩
    replace hc : Ctx G (.box b_2 [.int .i64 r.Rise,.int .i64 r.Fall,.slice r_Days_p r.Days.length r_Days_c,.slice p_1 x_2.length c_1] 201::.row p_1 c_1 (x_2.map enc_api_Span) 26 2::.box b_4 [.func (.func 151) #[] #[.pointer (some ⟨b_3,0,none⟩)]] 224::.box b_3 [.pointer (some ⟨b_2,0,none⟩)] 197::Lr) w := hc
    replace hF : daily_opened_r13 N r x_1 x_2 xv xv_1 = some oq := hF
    unfold daily_opened_r13 at hF
    refine rSeq fun K14 h14 => rReg (fun _ _ h => h) rfl ?_
    refine stP hf rfl rfl rfl (pA rfl) fun a hf => cNil ?_
    refine h14 _ _ ?_
    refine rReg (fun _ _ h => h) rfl ?_
    refine stP hf rfl rfl rfl (pA rfl) fun a hf => cNil ?_
    refine hK _ _ [.box b_2 [.int .i64 r.Rise,.int .i64 r.Fall,.slice r_Days_p r.Days.length r_Days_c,.slice p_1 x_2.length c_1] 201,.row p_1 c_1 (x_2.map enc_api_Span) 26 2,.box b_4 [.func (.func 151) #[] #[.pointer (some ⟨b_3,0,none⟩)]] 224,.box b_3 [.pointer (some ⟨b_2,0,none⟩)] 197] hc fun w hc => ?_
    replace hc : Ctx G (.box b_2 [.int .i64 r.Rise,.int .i64 r.Fall,.slice r_Days_p r.Days.length r_Days_c,.slice p_1 x_2.length c_1] 201::.row p_1 c_1 (x_2.map enc_api_Span) 26 2::.box b_4 [.func (.func 151) #[] #[.pointer (some ⟨b_3,0,none⟩)]] 224::.box b_3 [.pointer (some ⟨b_2,0,none⟩)] 197::Lb) w := hc
    refine rThenK fun K15 h15 => rBlock ?_
    obtain ⟨e_1,he_1,hF⟩ := bnd_some hF
    obtain ⟨g,rfl,qa,qr⟩ := row_atm hc m1 he_1
    obtain ⟨e_2,he_2,hF⟩ := bnd_some hF
    obtain ⟨qa_1,qr_1⟩ := row_atk hc m1 he_2
    obtain ⟨r_2,hr_2,hF⟩ := bnd_some hF
    refine rRegE (fun _ _ h => h) rfl (fun θ => (⟨none,none,6,.pointer (some ⟨b_3,0,none⟩)⟩::⟨none,none,9,.pointer (some ⟨b_4,0,none⟩)⟩::⟨none,none,10,.int .i64 xv⟩::⟨none,none,11,.int .i64 xv_1⟩::⟨some 0,none,46,.func (.func 151) #[] #[.pointer (some ⟨b_3,0,none⟩)]⟩::⟨some 1,none,47,.int .i64 xv_1⟩::⟨some 2,none,48,.pointer (some ⟨b_2,0,none⟩)⟩::⟨some 3,none,49,.pointer (some ⟨b_2,0,none⟩)⟩::⟨some 4,none,50,.pointer (some ⟨b_2,3,none⟩)⟩::⟨some 5,none,51,.slice (some ⟨g,0,none⟩) x_2.length c_1⟩::⟨some 6,none,52,.int .i64 xv⟩::⟨some 7,none,53,.pointer (some ⟨g,xv.toNat * 2,none⟩)⟩::⟨some 8,none,54,.pointer (some ⟨g,xv.toNat * 2 + 0,none⟩)⟩::⟨some 9,none,55,.int .i64 e_1.Lo⟩::⟨some 10,none,56,.pointer (some ⟨b_2,0,none⟩)⟩::⟨some 11,none,57,.pointer (some ⟨b_2,0,none⟩)⟩::⟨some 12,none,58,.pointer (some ⟨b_2,0,none⟩)⟩::⟨some 13,none,59,.pointer (some ⟨b_2,1,none⟩)⟩::⟨some 14,none,60,.int .i64 r.Fall⟩::⟨some 15,none,61,.int .i64 (W (e_1.Lo - r.Fall))⟩::⟨some 16,none,62,.pointer (some ⟨b_2,0,none⟩)⟩::⟨some 17,none,63,.pointer (some ⟨b_2,0,none⟩)⟩::⟨some 18,none,64,.pointer (some ⟨b_2,3,none⟩)⟩::⟨some 19,none,65,.slice (some ⟨g,0,none⟩) x_2.length c_1⟩::⟨some 20,none,66,.int .i64 xv⟩::⟨some 21,none,67,.pointer (some ⟨g,xv.toNat * 2,none⟩)⟩::⟨some 22,none,68,.pointer (some ⟨g,xv.toNat * 2 + 1,none⟩)⟩::⟨some 23,none,69,.int .i64 e_2.Hi⟩::⟨some 24,none,70,.pointer (some ⟨b_2,0,none⟩)⟩::⟨some 25,none,71,.pointer (some ⟨b_2,0,none⟩)⟩::⟨some 26,none,72,.pointer (some ⟨b_2,0,none⟩)⟩::⟨some 27,none,73,.pointer (some ⟨b_2,0,none⟩)⟩::⟨some 28,none,74,.int .i64 r.Rise⟩::⟨some 29,none,75,.int .i64 (W (e_2.Hi + r.Rise))⟩::⟨some 30,none,76,.tuple #[]⟩::[])) (fun E θ => (bif E 30 then .box b_2 [.int .i64 r.Rise,.int .i64 r.Fall,.slice r_Days_p r.Days.length r_Days_c,.slice (some ⟨g,0,none⟩) r_2.length c_1] 201 else .box b_2 [.int .i64 r.Rise,.int .i64 r.Fall,.slice r_Days_p r.Days.length r_Days_c,.slice (some ⟨g,0,none⟩) x_2.length c_1] 201)::(bif E 30 then .row (some ⟨g,0,none⟩) c_1 (r_2.map enc_api_Span) 26 2 else .row (some ⟨g,0,none⟩) c_1 (x_2.map enc_api_Span) 26 2)::.box b_4 [.func (.func 151) #[] #[.pointer (some ⟨b_3,0,none⟩)]] 224::.box b_3 [.pointer (some ⟨b_2,0,none⟩)] 197::Lb) [(7,5),(8,7),(9,8),(15,9),(30,15),(15,14),(21,19),(22,21),(23,22),(29,23),(30,29),(29,28)] (fun a w => Has 118 a [(6,.pointer (some ⟨b_3,0,none⟩)),(9,.pointer (some ⟨b_4,0,none⟩))] ∧ Ctx G (.box b_2 [.int .i64 r.Rise,.int .i64 r.Fall,.slice r_Days_p r.Days.length r_Days_c,.slice (some ⟨g,0,none⟩) r_2.length c_1] 201::.row (some ⟨g,0,none⟩) c_1 (r_2.map enc_api_Span) 26 2::.box b_4 [.func (.func 151) #[] #[.pointer (some ⟨b_3,0,none⟩)]] 224::.box b_3 [.pointer (some ⟨b_2,0,none⟩)] 197::Lb) w) follows_mx (by kernel_rfl) (by kernel_rfl) (HasE.of hf ⟨rfl,rfl,rfl,rfl,trivial,trivial,trivial,trivial,trivial,trivial,trivial,trivial,trivial,trivial,trivial,trivial,trivial,trivial,trivial,trivial,trivial,trivial,trivial,trivial,trivial,trivial,trivial,trivial,trivial,trivial,trivial,trivial,trivial,trivial,trivial,trivial⟩) hc ⟨?_,?_,?_,?_,?_,?_,?_,?_,?_,?_,?_,?_,?_,?_,?_,?_,?_,?_,?_,?_,?_,?_,?_,?_,?_,?_,?_,?_,?_,?_,?_,trivial⟩ ?_ ?_
    ·intro E θ a w hD hi hp he hc
     have hf := he.h0
     replace hf := hf.more he 1 rfl onT
     refine stE hf hc rfl rfl rfl (eLd1 sc_224 rfl (cell_box m2 rfl)) fun a w hf hc => cNil ?_
     refine xThenN ?_
     intro ds u hau
     refine ⟨θ,he.put0 hi hau hf rfl 4 rfl rfl,?_⟩
     exact hc
    ·intro E θ a w hD hi hp he hc
     have hf := he.h0
     replace hf := hf.more he 3 rfl onT
     refine stP hf rfl rfl rfl (pM rfl) fun a hf => cNil ?_
     refine xThenN ?_
     intro ds u hau
     refine ⟨θ,he.put0 hi hau hf rfl 5 rfl rfl,?_⟩
     exact hc
    ·intro E θ a w hD hi hp he hc
     have hf := he.h0
     replace hf := hf.more he 0 rfl onT
     refine stE hf hc rfl rfl rfl (eLd1 sc_197 rfl (cell_box m3 rfl)) fun a w hf hc => cNil ?_
     refine xThenN ?_
     intro ds u hau
     refine ⟨θ,he.put0 hi hau hf rfl 6 rfl rfl,?_⟩
     exact hc
    ·intro E θ a w hD hi hp he hc
     have e2 := hp.of (k := 2) rfl
     have hf := he.h0
     replace hf := hf.more he 6 rfl (onP e2)
     refine stP hf rfl rfl rfl (pNC rfl) fun a hf => cNil ?_
     refine xThenN ?_
     intro ds u hau
     refine ⟨θ,he.put0 hi hau hf rfl 7 rfl rfl,?_⟩
     exact hc
    ·intro E θ a w hD hi hp he hc
     have e3 := hp.of (k := 3) rfl
     have hf := he.h0
     replace hf := hf.more he 7 rfl (onP e3)
     refine stP hf rfl rfl rfl (pFA fa_201_1 rfl) fun a hf => cNil ?_
     refine xThenN ?_
     intro ds u hau
     refine ⟨θ,he.put0 hi hau hf rfl 8 rfl rfl,?_⟩
     exact hc
    ·intro E θ a w hD hi hp he hc
     have e4 := hp.of (k := 4) rfl
     have e7 := hD.f 0 rfl hi
     have e8 := hD.f 1 rfl e7
     have e9 := hD.f 2 rfl e8
     have e15 := hD.f 3 rfl e9
     have e30 := hD.f 4 rfl e15
     try dsimp only at hc
     rw [e30] at hc
     have hf := he.h0
     replace hf := hf.more he 8 rfl (onP e4)
     refine stE hf hc rfl rfl rfl (eLd1 sc_41 rfl (cell_box m0 rfl)) fun a w hf hc => cNil ?_
     refine xThenN ?_
     intro ds u hau
     refine ⟨θ,he.put0 hi hau hf rfl 9 rfl rfl,?_⟩
     try dsimp only
     rw [updE_fls 5 e30 rfl]
     exact hc
    ·intro E θ a w hD hi hp he hc
     have hf := he.h0
     replace hf := hf.more he 2 rfl onT
     refine stP hf rfl rfl rfl (pM rfl) fun a hf => cNil ?_
     refine xThenN ?_
     intro ds u hau
     refine ⟨θ,he.put0 hi hau hf rfl 10 rfl rfl,?_⟩
     exact hc
    ·intro E θ a w hD hi hp he hc
     have e5 := hp.of (k := 5) rfl
     have e6 := hp.of (k := 6) rfl
     have e8 := hD.f 1 rfl hi
     have e9 := hD.f 2 rfl e8
     have e15 := hD.f 3 rfl e9
     have e30 := hD.f 4 rfl e15
     try dsimp only at hc
     rw [e30] at hc
     have hf := he.h0
     replace hf := hf.more he 9 rfl (onP e5)
     replace hf := hf.more he 10 rfl (onP e6)
     refine stP hf rfl rfl rfl (pIA Try.underlying41 sz_26 rfl rfl qa) fun a hf => cNil ?_
     refine xThenN ?_
     intro ds u hau
     refine ⟨θ,he.put0 hi hau hf rfl 11 rfl rfl,?_⟩
     try dsimp only
     rw [updE_fls 7 e30 rfl]
     exact hc
    ·intro E θ a w hD hi hp he hc
     have e7 := hp.of (k := 7) rfl
     have hf := he.h0
     replace hf := hf.more he 11 rfl (onP e7)
     refine stP hf rfl rfl rfl (pFA fa_26_0 rfl) fun a hf => cNil ?_
     refine xThenN ?_
     intro ds u hau
     refine ⟨θ,he.put0 hi hau hf rfl 12 rfl rfl,?_⟩
     exact hc
    ·intro E θ a w hD hi hp he hc
     have e8 := hp.of (k := 8) rfl
     have e15 := hD.f 3 rfl hi
     have e30 := hD.f 4 rfl e15
     try dsimp only at hc
     rw [e30] at hc
     have hf := he.h0
     replace hf := hf.more he 12 rfl (onP e8)
     refine stE hf hc rfl rfl rfl (eLd1 sc_3 rfl (cell_row (sz := 2) (i := xv.toNat) (j := 0) m1 qr rfl)) fun a w hf hc => cNil ?_
     refine xThenN ?_
     intro ds u hau
     refine ⟨θ,he.put0 hi hau hf rfl 13 rfl rfl,?_⟩
     try dsimp only
     rw [updE_fls 9 e30 rfl]
     exact hc
    ·intro E θ a w hD hi hp he hc
     have hf := he.h0
     replace hf := hf.more he 0 rfl onT
     refine stE hf hc rfl rfl rfl (eLd1 sc_197 rfl (cell_box m3 rfl)) fun a w hf hc => cNil ?_
     refine xThenN ?_
     intro ds u hau
     refine ⟨θ,he.put0 hi hau hf rfl 14 rfl rfl,?_⟩
     exact hc
    ·intro E θ a w hD hi hp he hc
     have e10 := hp.of (k := 10) rfl
     have hf := he.h0
     replace hf := hf.more he 14 rfl (onP e10)
     refine stP hf rfl rfl rfl (pNC rfl) fun a hf => cNil ?_
     refine xThenN ?_
     intro ds u hau
     refine ⟨θ,he.put0 hi hau hf rfl 15 rfl rfl,?_⟩
     exact hc
    ·intro E θ a w hD hi hp he hc
     have e11 := hp.of (k := 11) rfl
     have hf := he.h0
     replace hf := hf.more he 15 rfl (onP e11)
     refine stP hf rfl rfl rfl (pFA fa_201_0 rfl) fun a hf => cNil ?_
     refine xThenN ?_
     intro ds u hau
     refine ⟨θ,he.put0 hi hau hf rfl 16 rfl rfl,?_⟩
     exact hc
    ·intro E θ a w hD hi hp he hc
     have e12 := hp.of (k := 12) rfl
     have hf := he.h0
     replace hf := hf.more he 16 rfl (onP e12)
     refine stP hf rfl rfl rfl (pFA fa_127_1 rfl) fun a hf => cNil ?_
     refine xThenN ?_
     intro ds u hau
     refine ⟨θ,he.put0 hi hau hf rfl 17 rfl rfl,?_⟩
     exact hc
    ·intro E θ a w hD hi hp he hc
     have e13 := hp.of (k := 13) rfl
     have e15 := hD.f 5 rfl hi
     have e30 := hD.f 4 rfl e15
     try dsimp only at hc
     rw [e30] at hc
     have hf := he.h0
     replace hf := hf.more he 17 rfl (onP e13)
     refine stE hf hc rfl rfl rfl (eLd1 sc_3 rfl (cell_box m0 rfl)) fun a w hf hc => cNil ?_
     refine xThenN ?_
     intro ds u hau
     refine ⟨θ,he.put0 hi hau hf rfl 18 rfl rfl,?_⟩
     try dsimp only
     rw [updE_fls 14 e30 rfl]
     exact hc
    ·intro E θ a w hD hi hp he hc
     have e9 := hp.of (k := 9) rfl
     have e14 := hp.of (k := 14) rfl
     have hf := he.h0
     replace hf := hf.more he 13 rfl (onP e9)
     replace hf := hf.more he 18 rfl (onP e14)
     refine stP hf rfl rfl rfl (pSub rfl rfl) fun a hf => cNil ?_
     refine xThenN ?_
     intro ds u hau
     refine ⟨θ,he.put0 hi hau hf rfl 19 rfl rfl,?_⟩
     exact hc
    ·intro E θ a w hD hi hp he hc
     have hf := he.h0
     replace hf := hf.more he 0 rfl onT
     refine stE hf hc rfl rfl rfl (eLd1 sc_197 rfl (cell_box m3 rfl)) fun a w hf hc => cNil ?_
     refine xThenN ?_
     intro ds u hau
     refine ⟨θ,he.put0 hi hau hf rfl 20 rfl rfl,?_⟩
     exact hc
    ·intro E θ a w hD hi hp he hc
     have e16 := hp.of (k := 16) rfl
     have hf := he.h0
     replace hf := hf.more he 20 rfl (onP e16)
     refine stP hf rfl rfl rfl (pNC rfl) fun a hf => cNil ?_
     refine xThenN ?_
     intro ds u hau
     refine ⟨θ,he.put0 hi hau hf rfl 21 rfl rfl,?_⟩
     exact hc
    ·intro E θ a w hD hi hp he hc
     have e17 := hp.of (k := 17) rfl
     have hf := he.h0
     replace hf := hf.more he 21 rfl (onP e17)
     refine stP hf rfl rfl rfl (pFA fa_201_1 rfl) fun a hf => cNil ?_
     refine xThenN ?_
     intro ds u hau
     refine ⟨θ,he.put0 hi hau hf rfl 22 rfl rfl,?_⟩
     exact hc
    ·intro E θ a w hD hi hp he hc
     have e18 := hp.of (k := 18) rfl
     have e21 := hD.f 6 rfl hi
     have e22 := hD.f 7 rfl e21
     have e23 := hD.f 8 rfl e22
     have e29 := hD.f 9 rfl e23
     have e30 := hD.f 10 rfl e29
     try dsimp only at hc
     rw [e30] at hc
     have hf := he.h0
     replace hf := hf.more he 22 rfl (onP e18)
     refine stE hf hc rfl rfl rfl (eLd1 sc_41 rfl (cell_box m0 rfl)) fun a w hf hc => cNil ?_
     refine xThenN ?_
     intro ds u hau
     refine ⟨θ,he.put0 hi hau hf rfl 23 rfl rfl,?_⟩
     try dsimp only
     rw [updE_fls 19 e30 rfl]
     exact hc
    ·intro E θ a w hD hi hp he hc
     have hf := he.h0
     replace hf := hf.more he 2 rfl onT
     refine stP hf rfl rfl rfl (pM rfl) fun a hf => cNil ?_
     refine xThenN ?_
     intro ds u hau
     refine ⟨θ,he.put0 hi hau hf rfl 24 rfl rfl,?_⟩
     exact hc
    ·intro E θ a w hD hi hp he hc
     have e19 := hp.of (k := 19) rfl
     have e20 := hp.of (k := 20) rfl
     have e22 := hD.f 7 rfl hi
     have e23 := hD.f 8 rfl e22
     have e29 := hD.f 9 rfl e23
     have e30 := hD.f 10 rfl e29
     try dsimp only at hc
     rw [e30] at hc
     have hf := he.h0
     replace hf := hf.more he 23 rfl (onP e19)
     replace hf := hf.more he 24 rfl (onP e20)
     refine stP hf rfl rfl rfl (pIA Try.underlying41 sz_26 rfl rfl qa_1) fun a hf => cNil ?_
     refine xThenN ?_
     intro ds u hau
     refine ⟨θ,he.put0 hi hau hf rfl 25 rfl rfl,?_⟩
     try dsimp only
     rw [updE_fls 21 e30 rfl]
     exact hc
    ·intro E θ a w hD hi hp he hc
     have e21 := hp.of (k := 21) rfl
     have hf := he.h0
     replace hf := hf.more he 25 rfl (onP e21)
     refine stP hf rfl rfl rfl (pFA fa_26_1 rfl) fun a hf => cNil ?_
     refine xThenN ?_
     intro ds u hau
     refine ⟨θ,he.put0 hi hau hf rfl 26 rfl rfl,?_⟩
     exact hc
    ·intro E θ a w hD hi hp he hc
     have e22 := hp.of (k := 22) rfl
     have e29 := hD.f 9 rfl hi
     have e30 := hD.f 10 rfl e29
     try dsimp only at hc
     rw [e30] at hc
     have hf := he.h0
     replace hf := hf.more he 26 rfl (onP e22)
     refine stE hf hc rfl rfl rfl (eLd1 sc_3 rfl (cell_row (sz := 2) (i := xv.toNat) (j := 1) m1 qr_1 rfl)) fun a w hf hc => cNil ?_
     refine xThenN ?_
     intro ds u hau
     refine ⟨θ,he.put0 hi hau hf rfl 27 rfl rfl,?_⟩
     try dsimp only
     rw [updE_fls 23 e30 rfl]
     exact hc
    ·intro E θ a w hD hi hp he hc
     have hf := he.h0
     replace hf := hf.more he 0 rfl onT
     refine stE hf hc rfl rfl rfl (eLd1 sc_197 rfl (cell_box m3 rfl)) fun a w hf hc => cNil ?_
     refine xThenN ?_
     intro ds u hau
     refine ⟨θ,he.put0 hi hau hf rfl 28 rfl rfl,?_⟩
     exact hc
    ·intro E θ a w hD hi hp he hc
     have e24 := hp.of (k := 24) rfl
     have hf := he.h0
     replace hf := hf.more he 28 rfl (onP e24)
     refine stP hf rfl rfl rfl (pNC rfl) fun a hf => cNil ?_
     refine xThenN ?_
     intro ds u hau
     refine ⟨θ,he.put0 hi hau hf rfl 29 rfl rfl,?_⟩
     exact hc
    ·intro E θ a w hD hi hp he hc
     have e25 := hp.of (k := 25) rfl
     have hf := he.h0
     replace hf := hf.more he 29 rfl (onP e25)
     refine stP hf rfl rfl rfl (pFA fa_201_0 rfl) fun a hf => cNil ?_
     refine xThenN ?_
     intro ds u hau
     refine ⟨θ,he.put0 hi hau hf rfl 30 rfl rfl,?_⟩
     exact hc
    ·intro E θ a w hD hi hp he hc
     have e26 := hp.of (k := 26) rfl
     have hf := he.h0
     replace hf := hf.more he 30 rfl (onP e26)
     refine stP hf rfl rfl rfl (pFA fa_127_0 rfl) fun a hf => cNil ?_
     refine xThenN ?_
     intro ds u hau
     refine ⟨θ,he.put0 hi hau hf rfl 31 rfl rfl,?_⟩
     exact hc
    ·intro E θ a w hD hi hp he hc
     have e27 := hp.of (k := 27) rfl
     have e29 := hD.f 11 rfl hi
     have e30 := hD.f 10 rfl e29
     try dsimp only at hc
     rw [e30] at hc
     have hf := he.h0
     replace hf := hf.more he 31 rfl (onP e27)
     refine stE hf hc rfl rfl rfl (eLd1 sc_3 rfl (cell_box m0 rfl)) fun a w hf hc => cNil ?_
     refine xThenN ?_
     intro ds u hau
     refine ⟨θ,he.put0 hi hau hf rfl 32 rfl rfl,?_⟩
     try dsimp only
     rw [updE_fls 28 e30 rfl]
     exact hc
    ·intro E θ a w hD hi hp he hc
     have e23 := hp.of (k := 23) rfl
     have e28 := hp.of (k := 28) rfl
     have hf := he.h0
     replace hf := hf.more he 27 rfl (onP e23)
     replace hf := hf.more he 32 rfl (onP e28)
     refine stP hf rfl rfl rfl (pAdd rfl rfl) fun a hf => cNil ?_
     refine xThenN ?_
     intro ds u hau
     refine ⟨θ,he.put0 hi hau hf rfl 33 rfl rfl,?_⟩
     exact hc
    ·intro E θ a w hD hi hp he hc
     have e0 := hp.of (k := 0) rfl
     have e1 := hp.of (k := 1) rfl
     have e15 := hp.of (k := 15) rfl
     have e29 := hp.of (k := 29) rfl
     try dsimp only at hc
     rw [hi] at hc
     have hf := he.h0
     replace hf := hf.more he 4 rfl (onP e0)
     replace hf := hf.more he 5 rfl (onP e1)
     replace hf := hf.more he 19 rfl (onP e15)
     replace hf := hf.more he 33 rfl (onP e29)
     refine stC (vs := [.int .i64 xv_1,.int .i64 (W (e_1.Lo - r.Fall)),.int .i64 (W (e_2.Hi + r.Rise))]) (caps := [.pointer (some ⟨b_3,0,none⟩)]) hf rfl rfl rfl en_151 rfl rfl rfl rfl (daily_opened_1_ok xv_1 (W (e_1.Lo - r.Fall)) (W (e_2.Hi + r.Rise)) r.Rise r.Fall r.Days x_2 h_r_Days (((hc.pick k1).pick k1).pick k3) hr_2) ?_
     rintro _ w ⟨rfl,hl_1,hc⟩
     refine ⟨_,rfl,fun a hf => ?_⟩
     try rw [← hl_1] at hf
     try rw [← hl_1] at hc
     refine cNil ?_
     refine xThenN ?_
     intro ds u hau
     replace hc := hc.pick k0
     replace hc := hc.pick k3
     replace hc := hc.pick k3
     replace hc := hc.pick k3
     refine ⟨θ,he.put0 hi hau hf rfl 34 rfl rfl,?_⟩
     try dsimp only
     rw [updE_self E 30]
     exact hc
    ·intro E θ a w hall he hc
     have hf := he.h0
     have e30 := hall 30 rfl
     replace hf := hf.more he 1 rfl (onT)
     replace hf := hf.more he 0 rfl (onT)
     try dsimp only at hc
     rw [e30] at hc
     exact ⟨hf.keep ⟨rfl,rfl,trivial⟩,hc⟩
    rintro a w ⟨hf,hc⟩
    refine h15 _ _ ?_
    obtain ⟨_,hl_2,hF⟩ := same_len hF
    exact ⟨r_2,_,(Option.some.inj hF).symm,⟨hl_2,rfl⟩,hc⟩
   ·rintro D_1 x_2 _ a w hsF ⟨hl,rfl⟩ hf hc
    replace hf : Has ⟨118,markL (D_1::[])⟩ a [(6,.pointer (some ⟨b_3,0,none⟩)),(9,.pointer (some ⟨b_4,0,none⟩))] := hf.keep ⟨rfl,rfl,trivial⟩
    replace hc : Ctx G (.box b_5 [.pointer (some ⟨b_2,0,none⟩)] 197::.box b_6 [.bool r_1] 4::.box b_2 [.int .i64 r.Rise,.int .i64 r.Fall,.slice r_Days_p r.Days.length r_Days_c,.slice p_1 x_2.length c_1] 201::.row p_1 c_1 (x_2.map enc_api_Span) 26 2::.box b_4 [.func (.func 151) #[] #[.pointer (some ⟨b_3,0,none⟩)]] 224::.box b_3 [.pointer (some ⟨b_2,0,none⟩)] 197::(raws (D_1::[]) ++ Lf)) w := rawsIn (C := [.box b_5 [.pointer (some ⟨b_2,0,none⟩)] 197,.box b_6 [.bool r_1] 4]) (L := [.box b_2 [.int .i64 r.Rise,.int .i64 r.Fall,.slice r_Days_p r.Days.length r_Days_c,.slice p_1 x_2.length c_1] 201,.row p_1 c_1 (x_2.map enc_api_Span) 26 2,.box b_4 [.func (.func 151) #[] #[.pointer (some ⟨b_3,0,none⟩)]] 224,.box b_3 [.pointer (some ⟨b_2,0,none⟩)] 197]) hc
    replace hF : (Option.bind (daily_work_pairs N (⟨r,x_2⟩ : daily_work) true) fun r_3 => Option.bind (daily_work_pairs_1 N r.Rise r.Fall r.Days r_3 (rY (fun (zz : (List api_Span)) (ix_ : (Int × Int)) => daily_opened_r18 N r x_2 zz ix_.1 ix_.2)) (.go x_2)) fun x18 => rsK x18 (fun zz18 => Option.bind (daily_every_api_Span N zz18) fun r_5 => some (.inr (r.Rise,r.Fall,zz18,r_5,0))) (fun zz18 => none)) = some res := by rcases hsF with rfl | rfl <;> exact hF
    refine h11 _ _ ?_
    refine wp_seq_k fun K16 h16 => wp_seq_k fun K17 h17 => cReg ?_
    refine stE hf hc rfl rfl rfl (eLd1 sc_197 rfl (cell_box m5 rfl)) fun a w hf hc => ?_
    obtain ⟨r_3,hr_3,hF⟩ := bnd_some hF
    obtain ⟨G1,hle1,hrd1,hc,hth1⟩ := lend hc k3
    refine stC (vs := [.pointer (some ⟨b_2,0,none⟩),.bool true]) (caps := []) hf rfl rfl rfl en_152 rfl rfl rfl rfl (daily_work_pairs_ok (⟨r,x_2⟩ : daily_work) true (h_r_Days.mono hle1) hrd1 (hc.pick k2) hr_3) ?_
    rintro _ w ⟨b_7,b_8,rfl,hc⟩
    refine ⟨_,rfl,fun a hf => ?_⟩
    replace hc := hth1 _ _ hc
    refine cNil ?_
    refine h17 _ _ ?_
    obtain ⟨x18,hx18,hF⟩ := bnd_some hF
    replace hc := hc.drop k5
    replace hc := hc.drop k4
    replace hc := hc.pick k0
    replace hc := hc.pick k3
    replace hc := hc.pick k3
    replace hc := hc.pick k3
    refine cRangeC (C := [.box b_7 [.pointer (some ⟨b_2,0,none⟩)] 197,.box b_8 [.bool r_3] 4]) (C2 := [.box b_7 [.pointer (some ⟨b_2,0,none⟩)] 197,.box b_8 [.bool r_3] 4]) (L0 := [.box b_2 [.int .i64 r.Rise,.int .i64 r.Fall,.slice r_Days_p r.Days.length r_Days_c,.slice p_1 x_2.length c_1] 201,.row p_1 c_1 (x_2.map enc_api_Span) 26 2,.box b_4 [.func (.func 151) #[] #[.pointer (some ⟨b_3,0,none⟩)]] 224,.box b_3 [.pointer (some ⟨b_2,0,none⟩)] 197]) (Lf := (raws (D_1::[]) ++ Lf)) (encs := fun x : (Int × Int) => [.int .i64 x.1,.int .i64 x.2]) (fun (zz : (List api_Span)) L => zz.length = x_2.length ∧ L = [.box b_2 [.int .i64 r.Rise,.int .i64 r.Fall,.slice r_Days_p r.Days.length r_Days_c,.slice p_1 zz.length c_1] 201,.row p_1 c_1 (zz.map enc_api_Span) 26 2,.box b_4 [.func (.func 151) #[] #[.pointer (some ⟨b_3,0,none⟩)]] 224,.box b_3 [.pointer (some ⟨b_2,0,none⟩)] 197]) (fun (zz : (List api_Span)) (ix_ : (Int × Int)) => daily_opened_r18 N r x_2 zz ix_.1 ix_.2) x_2 x18 hf hc rfl en_158 (fun _ => rfl) rfl ⟨rfl,rfl⟩ ?_ ?_ ?_ ?_
    ·intro lq mq J L Lx w hy hQ hJ hc
     have hje_ : ∀ (zz : (List api_Span)) (M : List Ent),(fun (zz : (List api_Span)) L => zz.length = x_2.length ∧ L = [.box b_2 [.int .i64 r.Rise,.int .i64 r.Fall,.slice r_Days_p r.Days.length r_Days_c,.slice p_1 zz.length c_1] 201,.row p_1 c_1 (zz.map enc_api_Span) 26 2,.box b_4 [.func (.func 151) #[] #[.pointer (some ⟨b_3,0,none⟩)]] 224,.box b_3 [.pointer (some ⟨b_2,0,none⟩)] 197]) zz M → ∃ A B,M = A ++ (.box b_2 [.int .i64 r.Rise,.int .i64 r.Fall,.slice r_Days_p r.Days.length r_Days_c,.slice p_1 x_2.length c_1] 201::B) := by
      rintro x_3 _ ⟨hl_3,rfl⟩
      try rw [show _ = _ from hl_3]
      exact ⟨[],_,rfl⟩
     exact daily_work_pairs_1_ok r.Rise r.Fall r.Days r_3 h_r_Days J _ hy _ hJ (hQ _ hje_) hc hx18
    ·clear hF hf hc
     rintro lq mq x_3 ⟨xv_2,xv_3⟩ oq _ Lr Lb a w hK0 ⟨hl_3,rfl⟩ hF hf hc hK
     replace hf : Has 118 a [(6,.pointer (some ⟨b_3,0,none⟩)),(9,.pointer (some ⟨b_4,0,none⟩)),(79,.int .i64 xv_2),(80,.int .i64 xv_3)] := hf.keep ⟨rfl,rfl,rfl,rfl,trivial⟩
     replace hc : Ctx G (.box b_2 [.int .i64 r.Rise,.int .i64 r.Fall,.slice r_Days_p r.Days.length r_Days_c,.slice p_1 x_3.length c_1] 201::.row p_1 c_1 (x_3.map enc_api_Span) 26 2::.box b_4 [.func (.func 151) #[] #[.pointer (some ⟨b_3,0,none⟩)]] 224::.box b_3 [.pointer (some ⟨b_2,0,none⟩)] 197::Lr) w := hc
     replace hF : daily_opened_r18 N r x_2 x_3 xv_2 xv_3 = some oq := hF
     unfold daily_opened_r18 at hF
     refine rSeq fun K19 h19 => rReg (fun _ _ h => h) rfl ?_
     refine stP hf rfl rfl rfl (pA rfl) fun a hf => cNil ?_
     refine h19 _ _ ?_
     refine rReg (fun _ _ h => h) rfl ?_
     refine stP hf rfl rfl rfl (pA rfl) fun a hf => cNil ?_
     refine hK _ _ [.box b_2 [.int .i64 r.Rise,.int .i64 r.Fall,.slice r_Days_p r.Days.length r_Days_c,.slice p_1 x_3.length c_1] 201,.row p_1 c_1 (x_3.map enc_api_Span) 26 2,.box b_4 [.func (.func 151) #[] #[.pointer (some ⟨b_3,0,none⟩)]] 224,.box b_3 [.pointer (some ⟨b_2,0,none⟩)] 197] hc fun w hc => ?_
     replace hc : Ctx G (.box b_2 [.int .i64 r.Rise,.int .i64 r.Fall,.slice r_Days_p r.Days.length r_Days_c,.slice p_1 x_3.length c_1] 201::.row p_1 c_1 (x_3.map enc_api_Span) 26 2::.box b_4 [.func (.func 151) #[] #[.pointer (some ⟨b_3,0,none⟩)]] 224::.box b_3 [.pointer (some ⟨b_2,0,none⟩)] 197::Lb) w := hc
     refine rThenK fun K20 h20 => rBlock ?_
     obtain ⟨e_3,he_3,hF⟩ := bnd_some hF
     obtain ⟨g_1,rfl,qa_2,qr_2⟩ := row_atm hc m1 he_3
     obtain ⟨e_4,he_4,hF⟩ := bnd_some hF
     obtain ⟨qa_3,qr_3⟩ := row_atk hc m1 he_4
     obtain ⟨r_4,hr_4,hF⟩ := bnd_some hF
     refine rRegE (fun _ _ h => h) rfl (fun θ => (⟨none,none,6,.pointer (some ⟨b_3,0,none⟩)⟩::⟨none,none,9,.pointer (some ⟨b_4,0,none⟩)⟩::⟨none,none,12,.int .i64 xv_2⟩::⟨none,none,13,.int .i64 xv_3⟩::⟨some 0,none,81,.func (.func 151) #[] #[.pointer (some ⟨b_3,0,none⟩)]⟩::⟨some 1,none,82,.int .i64 xv_3⟩::⟨some 2,none,83,.pointer (some ⟨b_2,0,none⟩)⟩::⟨some 3,none,84,.pointer (some ⟨b_2,0,none⟩)⟩::⟨some 4,none,85,.pointer (some ⟨b_2,3,none⟩)⟩::⟨some 5,none,86,.slice (some ⟨g_1,0,none⟩) x_3.length c_1⟩::⟨some 6,none,87,.int .i64 xv_2⟩::⟨some 7,none,88,.pointer (some ⟨g_1,xv_2.toNat * 2,none⟩)⟩::⟨some 8,none,89,.pointer (some ⟨g_1,xv_2.toNat * 2 + 0,none⟩)⟩::⟨some 9,none,90,.int .i64 e_3.Lo⟩::⟨some 10,none,91,.pointer (some ⟨b_2,0,none⟩)⟩::⟨some 11,none,92,.pointer (some ⟨b_2,0,none⟩)⟩::⟨some 12,none,93,.pointer (some ⟨b_2,0,none⟩)⟩::⟨some 13,none,94,.pointer (some ⟨b_2,0,none⟩)⟩::⟨some 14,none,95,.int .i64 r.Rise⟩::⟨some 15,none,96,.int .i64 (W (e_3.Lo - r.Rise))⟩::⟨some 16,none,97,.pointer (some ⟨b_2,0,none⟩)⟩::⟨some 17,none,98,.pointer (some ⟨b_2,0,none⟩)⟩::⟨some 18,none,99,.pointer (some ⟨b_2,3,none⟩)⟩::⟨some 19,none,100,.slice (some ⟨g_1,0,none⟩) x_3.length c_1⟩::⟨some 20,none,101,.int .i64 xv_2⟩::⟨some 21,none,102,.pointer (some ⟨g_1,xv_2.toNat * 2,none⟩)⟩::⟨some 22,none,103,.pointer (some ⟨g_1,xv_2.toNat * 2 + 1,none⟩)⟩::⟨some 23,none,104,.int .i64 e_4.Hi⟩::⟨some 24,none,105,.pointer (some ⟨b_2,0,none⟩)⟩::⟨some 25,none,106,.pointer (some ⟨b_2,0,none⟩)⟩::⟨some 26,none,107,.pointer (some ⟨b_2,0,none⟩)⟩::⟨some 27,none,108,.pointer (some ⟨b_2,1,none⟩)⟩::⟨some 28,none,109,.int .i64 r.Fall⟩::⟨some 29,none,110,.int .i64 (W (e_4.Hi + r.Fall))⟩::⟨some 30,none,111,.tuple #[]⟩::[])) (fun E θ => (bif E 30 then .box b_2 [.int .i64 r.Rise,.int .i64 r.Fall,.slice r_Days_p r.Days.length r_Days_c,.slice (some ⟨g_1,0,none⟩) r_4.length c_1] 201 else .box b_2 [.int .i64 r.Rise,.int .i64 r.Fall,.slice r_Days_p r.Days.length r_Days_c,.slice (some ⟨g_1,0,none⟩) x_3.length c_1] 201)::(bif E 30 then .row (some ⟨g_1,0,none⟩) c_1 (r_4.map enc_api_Span) 26 2 else .row (some ⟨g_1,0,none⟩) c_1 (x_3.map enc_api_Span) 26 2)::.box b_4 [.func (.func 151) #[] #[.pointer (some ⟨b_3,0,none⟩)]] 224::.box b_3 [.pointer (some ⟨b_2,0,none⟩)] 197::Lb) [(7,5),(8,7),(9,8),(15,9),(30,15),(15,14),(21,19),(22,21),(23,22),(29,23),(30,29),(29,28)] (fun a w => Has 118 a [(6,.pointer (some ⟨b_3,0,none⟩)),(9,.pointer (some ⟨b_4,0,none⟩))] ∧ Ctx G (.box b_2 [.int .i64 r.Rise,.int .i64 r.Fall,.slice r_Days_p r.Days.length r_Days_c,.slice (some ⟨g_1,0,none⟩) r_4.length c_1] 201::.row (some ⟨g_1,0,none⟩) c_1 (r_4.map enc_api_Span) 26 2::.box b_4 [.func (.func 151) #[] #[.pointer (some ⟨b_3,0,none⟩)]] 224::.box b_3 [.pointer (some ⟨b_2,0,none⟩)] 197::Lb) w) follows_mx (by kernel_rfl) (by kernel_rfl) (HasE.of hf ⟨rfl,rfl,rfl,rfl,trivial,trivial,trivial,trivial,trivial,trivial,trivial,trivial,trivial,trivial,trivial,trivial,trivial,trivial,trivial,trivial,trivial,trivial,trivial,trivial,trivial,trivial,trivial,trivial,trivial,trivial,trivial,trivial,trivial,trivial,trivial,trivial⟩) hc ⟨?_,?_,?_,?_,?_,?_,?_,?_,?_,?_,?_,?_,?_,?_,?_,?_,?_,?_,?_,?_,?_,?_,?_,?_,?_,?_,?_,?_,?_,?_,?_,trivial⟩ ?_ ?_
     ·intro E θ a w hD hi hp he hc
      have hf := he.h0
      replace hf := hf.more he 1 rfl onT
      refine stE hf hc rfl rfl rfl (eLd1 sc_224 rfl (cell_box m2 rfl)) fun a w hf hc => cNil ?_
      refine xThenN ?_
      intro ds u hau
      refine ⟨θ,he.put0 hi hau hf rfl 4 rfl rfl,?_⟩
      exact hc
     ·intro E θ a w hD hi hp he hc
      have hf := he.h0
      replace hf := hf.more he 3 rfl onT
      refine stP hf rfl rfl rfl (pM rfl) fun a hf => cNil ?_
      refine xThenN ?_
      intro ds u hau
      refine ⟨θ,he.put0 hi hau hf rfl 5 rfl rfl,?_⟩
      exact hc
     ·intro E θ a w hD hi hp he hc
      have hf := he.h0
      replace hf := hf.more he 0 rfl onT
      refine stE hf hc rfl rfl rfl (eLd1 sc_197 rfl (cell_box m3 rfl)) fun a w hf hc => cNil ?_
      refine xThenN ?_
      intro ds u hau
      refine ⟨θ,he.put0 hi hau hf rfl 6 rfl rfl,?_⟩
      exact hc
     ·intro E θ a w hD hi hp he hc
      have e2 := hp.of (k := 2) rfl
      have hf := he.h0
      replace hf := hf.more he 6 rfl (onP e2)
      refine stP hf rfl rfl rfl (pNC rfl) fun a hf => cNil ?_
      refine xThenN ?_
      intro ds u hau
      refine ⟨θ,he.put0 hi hau hf rfl 7 rfl rfl,?_⟩
      exact hc
     ·intro E θ a w hD hi hp he hc
      have e3 := hp.of (k := 3) rfl
      have hf := he.h0
      replace hf := hf.more he 7 rfl (onP e3)
      refine stP hf rfl rfl rfl (pFA fa_201_1 rfl) fun a hf => cNil ?_
      refine xThenN ?_
      intro ds u hau
      refine ⟨θ,he.put0 hi hau hf rfl 8 rfl rfl,?_⟩
      exact hc
     ·intro E θ a w hD hi hp he hc
      have e4 := hp.of (k := 4) rfl
      have e7 := hD.f 0 rfl hi
      have e8 := hD.f 1 rfl e7
      have e9 := hD.f 2 rfl e8
      have e15 := hD.f 3 rfl e9
      have e30 := hD.f 4 rfl e15
      try dsimp only at hc
      rw [e30] at hc
      have hf := he.h0
      replace hf := hf.more he 8 rfl (onP e4)
      refine stE hf hc rfl rfl rfl (eLd1 sc_41 rfl (cell_box m0 rfl)) fun a w hf hc => cNil ?_
      refine xThenN ?_
      intro ds u hau
      refine ⟨θ,he.put0 hi hau hf rfl 9 rfl rfl,?_⟩
      try dsimp only
      rw [updE_fls 5 e30 rfl]
      exact hc
     ·intro E θ a w hD hi hp he hc
      have hf := he.h0
      replace hf := hf.more he 2 rfl onT
      refine stP hf rfl rfl rfl (pM rfl) fun a hf => cNil ?_
      refine xThenN ?_
      intro ds u hau
      refine ⟨θ,he.put0 hi hau hf rfl 10 rfl rfl,?_⟩
      exact hc
     ·intro E θ a w hD hi hp he hc
      have e5 := hp.of (k := 5) rfl
      have e6 := hp.of (k := 6) rfl
      have e8 := hD.f 1 rfl hi
      have e9 := hD.f 2 rfl e8
      have e15 := hD.f 3 rfl e9
      have e30 := hD.f 4 rfl e15
      try dsimp only at hc
      rw [e30] at hc
      have hf := he.h0
      replace hf := hf.more he 9 rfl (onP e5)
      replace hf := hf.more he 10 rfl (onP e6)
      refine stP hf rfl rfl rfl (pIA Try.underlying41 sz_26 rfl rfl qa_2) fun a hf => cNil ?_
      refine xThenN ?_
      intro ds u hau
      refine ⟨θ,he.put0 hi hau hf rfl 11 rfl rfl,?_⟩
      try dsimp only
      rw [updE_fls 7 e30 rfl]
      exact hc
     ·intro E θ a w hD hi hp he hc
      have e7 := hp.of (k := 7) rfl
      have hf := he.h0
      replace hf := hf.more he 11 rfl (onP e7)
      refine stP hf rfl rfl rfl (pFA fa_26_0 rfl) fun a hf => cNil ?_
      refine xThenN ?_
      intro ds u hau
      refine ⟨θ,he.put0 hi hau hf rfl 12 rfl rfl,?_⟩
      exact hc
     ·intro E θ a w hD hi hp he hc
      have e8 := hp.of (k := 8) rfl
      have e15 := hD.f 3 rfl hi
      have e30 := hD.f 4 rfl e15
      try dsimp only at hc
      rw [e30] at hc
      have hf := he.h0
      replace hf := hf.more he 12 rfl (onP e8)
      refine stE hf hc rfl rfl rfl (eLd1 sc_3 rfl (cell_row (sz := 2) (i := xv_2.toNat) (j := 0) m1 qr_2 rfl)) fun a w hf hc => cNil ?_
      refine xThenN ?_
      intro ds u hau
      refine ⟨θ,he.put0 hi hau hf rfl 13 rfl rfl,?_⟩
      try dsimp only
      rw [updE_fls 9 e30 rfl]
      exact hc
     ·intro E θ a w hD hi hp he hc
      have hf := he.h0
      replace hf := hf.more he 0 rfl onT
      refine stE hf hc rfl rfl rfl (eLd1 sc_197 rfl (cell_box m3 rfl)) fun a w hf hc => cNil ?_
      refine xThenN ?_
      intro ds u hau
      refine ⟨θ,he.put0 hi hau hf rfl 14 rfl rfl,?_⟩
      exact hc
     ·intro E θ a w hD hi hp he hc
      have e10 := hp.of (k := 10) rfl
      have hf := he.h0
      replace hf := hf.more he 14 rfl (onP e10)
      refine stP hf rfl rfl rfl (pNC rfl) fun a hf => cNil ?_
      refine xThenN ?_
      intro ds u hau
      refine ⟨θ,he.put0 hi hau hf rfl 15 rfl rfl,?_⟩
      exact hc
     ·intro E θ a w hD hi hp he hc
      have e11 := hp.of (k := 11) rfl
      have hf := he.h0
      replace hf := hf.more he 15 rfl (onP e11)
      refine stP hf rfl rfl rfl (pFA fa_201_0 rfl) fun a hf => cNil ?_
      refine xThenN ?_
      intro ds u hau
      refine ⟨θ,he.put0 hi hau hf rfl 16 rfl rfl,?_⟩
      exact hc
     ·intro E θ a w hD hi hp he hc
      have e12 := hp.of (k := 12) rfl
      have hf := he.h0
      replace hf := hf.more he 16 rfl (onP e12)
      refine stP hf rfl rfl rfl (pFA fa_127_0 rfl) fun a hf => cNil ?_
      refine xThenN ?_
      intro ds u hau
      refine ⟨θ,he.put0 hi hau hf rfl 17 rfl rfl,?_⟩
      exact hc
     ·intro E θ a w hD hi hp he hc
      have e13 := hp.of (k := 13) rfl
      have e15 := hD.f 5 rfl hi
      have e30 := hD.f 4 rfl e15
      try dsimp only at hc
      rw [e30] at hc
      have hf := he.h0
      replace hf := hf.more he 17 rfl (onP e13)
      refine stE hf hc rfl rfl rfl (eLd1 sc_3 rfl (cell_box m0 rfl)) fun a w hf hc => cNil ?_
      refine xThenN ?_
      intro ds u hau
      refine ⟨θ,he.put0 hi hau hf rfl 18 rfl rfl,?_⟩
      try dsimp only
      rw [updE_fls 14 e30 rfl]
      exact hc
     ·intro E θ a w hD hi hp he hc
      have e9 := hp.of (k := 9) rfl
      have e14 := hp.of (k := 14) rfl
      have hf := he.h0
      replace hf := hf.more he 13 rfl (onP e9)
      replace hf := hf.more he 18 rfl (onP e14)
      refine stP hf rfl rfl rfl (pSub rfl rfl) fun a hf => cNil ?_
      refine xThenN ?_
      intro ds u hau
      refine ⟨θ,he.put0 hi hau hf rfl 19 rfl rfl,?_⟩
      exact hc
     ·intro E θ a w hD hi hp he hc
      have hf := he.h0
      replace hf := hf.more he 0 rfl onT
      refine stE hf hc rfl rfl rfl (eLd1 sc_197 rfl (cell_box m3 rfl)) fun a w hf hc => cNil ?_
      refine xThenN ?_
      intro ds u hau
      refine ⟨θ,he.put0 hi hau hf rfl 20 rfl rfl,?_⟩
      exact hc
     ·intro E θ a w hD hi hp he hc
      have e16 := hp.of (k := 16) rfl
      have hf := he.h0
      replace hf := hf.more he 20 rfl (onP e16)
      refine stP hf rfl rfl rfl (pNC rfl) fun a hf => cNil ?_
      refine xThenN ?_
      intro ds u hau
      refine ⟨θ,he.put0 hi hau hf rfl 21 rfl rfl,?_⟩
      exact hc
     ·intro E θ a w hD hi hp he hc
      have e17 := hp.of (k := 17) rfl
      have hf := he.h0
      replace hf := hf.more he 21 rfl (onP e17)
      refine stP hf rfl rfl rfl (pFA fa_201_1 rfl) fun a hf => cNil ?_
      refine xThenN ?_
      intro ds u hau
      refine ⟨θ,he.put0 hi hau hf rfl 22 rfl rfl,?_⟩
      exact hc
     ·intro E θ a w hD hi hp he hc
      have e18 := hp.of (k := 18) rfl
      have e21 := hD.f 6 rfl hi
      have e22 := hD.f 7 rfl e21
      have e23 := hD.f 8 rfl e22
      have e29 := hD.f 9 rfl e23
      have e30 := hD.f 10 rfl e29
      try dsimp only at hc
      rw [e30] at hc
      have hf := he.h0
      replace hf := hf.more he 22 rfl (onP e18)
      refine stE hf hc rfl rfl rfl (eLd1 sc_41 rfl (cell_box m0 rfl)) fun a w hf hc => cNil ?_
      refine xThenN ?_
      intro ds u hau
      refine ⟨θ,he.put0 hi hau hf rfl 23 rfl rfl,?_⟩
      try dsimp only
      rw [updE_fls 19 e30 rfl]
      exact hc
     ·intro E θ a w hD hi hp he hc
      have hf := he.h0
      replace hf := hf.more he 2 rfl onT
      refine stP hf rfl rfl rfl (pM rfl) fun a hf => cNil ?_
      refine xThenN ?_
      intro ds u hau
      refine ⟨θ,he.put0 hi hau hf rfl 24 rfl rfl,?_⟩
      exact hc
     ·intro E θ a w hD hi hp he hc
      have e19 := hp.of (k := 19) rfl
      have e20 := hp.of (k := 20) rfl
      have e22 := hD.f 7 rfl hi
      have e23 := hD.f 8 rfl e22
      have e29 := hD.f 9 rfl e23
      have e30 := hD.f 10 rfl e29
      try dsimp only at hc
      rw [e30] at hc
      have hf := he.h0
      replace hf := hf.more he 23 rfl (onP e19)
      replace hf := hf.more he 24 rfl (onP e20)
      refine stP hf rfl rfl rfl (pIA Try.underlying41 sz_26 rfl rfl qa_3) fun a hf => cNil ?_
      refine xThenN ?_
      intro ds u hau
      refine ⟨θ,he.put0 hi hau hf rfl 25 rfl rfl,?_⟩
      try dsimp only
      rw [updE_fls 21 e30 rfl]
      exact hc
     ·intro E θ a w hD hi hp he hc
      have e21 := hp.of (k := 21) rfl
      have hf := he.h0
      replace hf := hf.more he 25 rfl (onP e21)
      refine stP hf rfl rfl rfl (pFA fa_26_1 rfl) fun a hf => cNil ?_
      refine xThenN ?_
      intro ds u hau
      refine ⟨θ,he.put0 hi hau hf rfl 26 rfl rfl,?_⟩
      exact hc
     ·intro E θ a w hD hi hp he hc
      have e22 := hp.of (k := 22) rfl
      have e29 := hD.f 9 rfl hi
      have e30 := hD.f 10 rfl e29
      try dsimp only at hc
      rw [e30] at hc
      have hf := he.h0
      replace hf := hf.more he 26 rfl (onP e22)
      refine stE hf hc rfl rfl rfl (eLd1 sc_3 rfl (cell_row (sz := 2) (i := xv_2.toNat) (j := 1) m1 qr_3 rfl)) fun a w hf hc => cNil ?_
      refine xThenN ?_
      intro ds u hau
      refine ⟨θ,he.put0 hi hau hf rfl 27 rfl rfl,?_⟩
      try dsimp only
      rw [updE_fls 23 e30 rfl]
      exact hc
     ·intro E θ a w hD hi hp he hc
      have hf := he.h0
      replace hf := hf.more he 0 rfl onT
      refine stE hf hc rfl rfl rfl (eLd1 sc_197 rfl (cell_box m3 rfl)) fun a w hf hc => cNil ?_
      refine xThenN ?_
      intro ds u hau
      refine ⟨θ,he.put0 hi hau hf rfl 28 rfl rfl,?_⟩
      exact hc
     ·intro E θ a w hD hi hp he hc
      have e24 := hp.of (k := 24) rfl
      have hf := he.h0
      replace hf := hf.more he 28 rfl (onP e24)
      refine stP hf rfl rfl rfl (pNC rfl) fun a hf => cNil ?_
      refine xThenN ?_
      intro ds u hau
      refine ⟨θ,he.put0 hi hau hf rfl 29 rfl rfl,?_⟩
      exact hc
     ·intro E θ a w hD hi hp he hc
      have e25 := hp.of (k := 25) rfl
      have hf := he.h0
      replace hf := hf.more he 29 rfl (onP e25)
      refine stP hf rfl rfl rfl (pFA fa_201_0 rfl) fun a hf => cNil ?_
      refine xThenN ?_
      intro ds u hau
      refine ⟨θ,he.put0 hi hau hf rfl 30 rfl rfl,?_⟩
      exact hc
     ·intro E θ a w hD hi hp he hc
      have e26 := hp.of (k := 26) rfl
      have hf := he.h0
      replace hf := hf.more he 30 rfl (onP e26)
      refine stP hf rfl rfl rfl (pFA fa_127_1 rfl) fun a hf => cNil ?_
      refine xThenN ?_
      intro ds u hau
      refine ⟨θ,he.put0 hi hau hf rfl 31 rfl rfl,?_⟩
      exact hc
     ·intro E θ a w hD hi hp he hc
      have e27 := hp.of (k := 27) rfl
      have e29 := hD.f 11 rfl hi
      have e30 := hD.f 10 rfl e29
      try dsimp only at hc
      rw [e30] at hc
      have hf := he.h0
      replace hf := hf.more he 31 rfl (onP e27)
      refine stE hf hc rfl rfl rfl (eLd1 sc_3 rfl (cell_box m0 rfl)) fun a w hf hc => cNil ?_
      refine xThenN ?_
      intro ds u hau
      refine ⟨θ,he.put0 hi hau hf rfl 32 rfl rfl,?_⟩
      try dsimp only
      rw [updE_fls 28 e30 rfl]
      exact hc
     ·intro E θ a w hD hi hp he hc
      have e23 := hp.of (k := 23) rfl
      have e28 := hp.of (k := 28) rfl
      have hf := he.h0
      replace hf := hf.more he 27 rfl (onP e23)
      replace hf := hf.more he 32 rfl (onP e28)
      refine stP hf rfl rfl rfl (pAdd rfl rfl) fun a hf => cNil ?_
      refine xThenN ?_
      intro ds u hau
      refine ⟨θ,he.put0 hi hau hf rfl 33 rfl rfl,?_⟩
      exact hc
     ·intro E θ a w hD hi hp he hc
      have e0 := hp.of (k := 0) rfl
      have e1 := hp.of (k := 1) rfl
      have e15 := hp.of (k := 15) rfl
      have e29 := hp.of (k := 29) rfl
      try dsimp only at hc
      rw [hi] at hc
      have hf := he.h0
      replace hf := hf.more he 4 rfl (onP e0)
      replace hf := hf.more he 5 rfl (onP e1)
      replace hf := hf.more he 19 rfl (onP e15)
      replace hf := hf.more he 33 rfl (onP e29)
      refine stC (vs := [.int .i64 xv_3,.int .i64 (W (e_3.Lo - r.Rise)),.int .i64 (W (e_4.Hi + r.Fall))]) (caps := [.pointer (some ⟨b_3,0,none⟩)]) hf rfl rfl rfl en_151 rfl rfl rfl rfl (daily_opened_1_ok xv_3 (W (e_3.Lo - r.Rise)) (W (e_4.Hi + r.Fall)) r.Rise r.Fall r.Days x_3 h_r_Days (((hc.pick k1).pick k1).pick k3) hr_4) ?_
      rintro _ w ⟨rfl,hl_4,hc⟩
      refine ⟨_,rfl,fun a hf => ?_⟩
      try rw [← hl_4] at hf
      try rw [← hl_4] at hc
      refine cNil ?_
      refine xThenN ?_
      intro ds u hau
      replace hc := hc.pick k0
      replace hc := hc.pick k3
      replace hc := hc.pick k3
      replace hc := hc.pick k3
      refine ⟨θ,he.put0 hi hau hf rfl 34 rfl rfl,?_⟩
      try dsimp only
      rw [updE_self E 30]
      exact hc
     ·intro E θ a w hall he hc
      have hf := he.h0
      have e30 := hall 30 rfl
      replace hf := hf.more he 1 rfl (onT)
      replace hf := hf.more he 0 rfl (onT)
      try dsimp only at hc
      rw [e30] at hc
      exact ⟨hf.keep ⟨rfl,rfl,trivial⟩,hc⟩
     rintro a w ⟨hf,hc⟩
     refine h20 _ _ ?_
     obtain ⟨_,hl_5,hF⟩ := same_len hF
     exact ⟨r_4,_,(Option.some.inj hF).symm,⟨hl_5,rfl⟩,hc⟩
    ·rintro D_2 x_3 _ a w hsF ⟨hl_3,rfl⟩ hf hc
     replace hf : Has ⟨118,markL (D_2::(D_1::[]))⟩ a [(6,.pointer (some ⟨b_3,0,none⟩)),(9,.pointer (some ⟨b_4,0,none⟩))] := hf.keep ⟨rfl,rfl,trivial⟩
     replace hc : Ctx G (.box b_7 [.pointer (some ⟨b_2,0,none⟩)] 197::.box b_8 [.bool r_3] 4::.box b_2 [.int .i64 r.Rise,.int .i64 r.Fall,.slice r_Days_p r.Days.length r_Days_c,.slice p_1 x_3.length c_1] 201::.row p_1 c_1 (x_3.map enc_api_Span) 26 2::.box b_4 [.func (.func 151) #[] #[.pointer (some ⟨b_3,0,none⟩)]] 224::.box b_3 [.pointer (some ⟨b_2,0,none⟩)] 197::(raws (D_2::(D_1::[])) ++ Lf)) w := rawsIn (C := [.box b_7 [.pointer (some ⟨b_2,0,none⟩)] 197,.box b_8 [.bool r_3] 4]) (L := [.box b_2 [.int .i64 r.Rise,.int .i64 r.Fall,.slice r_Days_p r.Days.length r_Days_c,.slice p_1 x_3.length c_1] 201,.row p_1 c_1 (x_3.map enc_api_Span) 26 2,.box b_4 [.func (.func 151) #[] #[.pointer (some ⟨b_3,0,none⟩)]] 224,.box b_3 [.pointer (some ⟨b_2,0,none⟩)] 197]) hc
     replace hF : (Option.bind (daily_every_api_Span N x_3) fun r_5 => some (.inr (r.Rise,r.Fall,x_3,r_5,0))) = some res := by rcases hsF with rfl | rfl <;> exact hF
     refine h16 _ _ ?_
     refine wp_seq_k fun K21 h21 => ?_
     obtain ⟨r_5,hr_5,hF⟩ := bnd_some hF
     refine cQ hc follows_mx (by kernel_rfl) ?_
     refine qE hf rfl rfl rfl (eLd1 sc_197 rfl (cell_box m5 rfl)) fun a hf => qE hf rfl rfl rfl (eLd1 sc_197 rfl (cell_box m5 rfl)) fun a hf => qE hf rfl rfl rfl (Pu.ev (pNC rfl)) fun a hf => qE hf rfl rfl rfl (Pu.ev (pFA fa_201_1 rfl)) fun a hf => qE hf rfl rfl rfl (eLd1 sc_41 rfl (cell_box m2 rfl)) fun a hf => qE hf rfl rfl rfl (eC (v := .bool r_5) (vs := [.slice p_1 x_3.length c_1,.func (.func 154) #[] #[]]) (caps := []) en_153 rfl rfl rfl rfl (fun w hc => by obtain ⟨G1,hle1,hrd1,hc,hth1⟩ := lend hc k3; exact (daily_every_api_Span_ok x_3 hrd1 hc hr_5).mono fun e w h => ⟨h.1,((hth1 _ _ h.2).unpick k3)⟩)) fun a hf => qE hf rfl rfl rfl (Pu.ev (pA rfl)) fun a hf => qE hf rfl rfl rfl (Pu.ev (pA rfl)) fun a hf => qE hf rfl rfl rfl (Pu.ev (pA rfl)) fun a hf => ?_
     intro w hc
     refine h21 _ _ ?_
     refine wp_ret ?_
     obtain rfl := Option.some.inj hF
     replace hc := hc.drop k5
     replace hc := hc.drop k4
     replace hc := hc.drop k1
     replace hc := hc.drop k0
     replace hc := hc.pick k0
     replace hc := hc.pick k1
     refine outM hf ?_
     refine outML [.row p_1 c_1 (x_3.map enc_api_Span) 26 2,.box b_2 [.int .i64 r.Rise,.int .i64 r.Fall,.slice r_Days_p r.Days.length r_Days_c,.slice p_1 x_3.length c_1] 201] (D_2::(D_1::[])) hc fun w hc => ?_
     replace hc : Ctx G (.row p_1 c_1 (x_3.map enc_api_Span) 26 2::.box b_2 [.int .i64 r.Rise,.int .i64 r.Fall,.slice r_Days_p r.Days.length r_Days_c,.slice p_1 x_3.length c_1] 201::Lf) w := hc
     exact outM3 Try.results140 hf hc (show look _ 2 = _ from rfl) (show look _ 3 = _ from rfl) (show look _ 4 = _ from rfl) ⟨b_2,p_1,c_1,rfl,hc⟩
    ·rintro D_2 x_3 _ a w hsF ⟨hl_3,rfl⟩ hf hc
     replace hf : Has ⟨118,markL (D_2::(D_1::[]))⟩ a [(6,.pointer (some ⟨b_3,0,none⟩)),(9,.pointer (some ⟨b_4,0,none⟩))] := hf.keep ⟨rfl,rfl,trivial⟩
     replace hc : Ctx G (.box b_7 [.pointer (some ⟨b_2,0,none⟩)] 197::.box b_8 [.bool r_3] 4::.box b_2 [.int .i64 r.Rise,.int .i64 r.Fall,.slice r_Days_p r.Days.length r_Days_c,.slice p_1 x_3.length c_1] 201::.row p_1 c_1 (x_3.map enc_api_Span) 26 2::.box b_4 [.func (.func 151) #[] #[.pointer (some ⟨b_3,0,none⟩)]] 224::.box b_3 [.pointer (some ⟨b_2,0,none⟩)] 197::(raws (D_2::(D_1::[])) ++ Lf)) w := rawsIn (C := [.box b_7 [.pointer (some ⟨b_2,0,none⟩)] 197,.box b_8 [.bool r_3] 4]) (L := [.box b_2 [.int .i64 r.Rise,.int .i64 r.Fall,.slice r_Days_p r.Days.length r_Days_c,.slice p_1 x_3.length c_1] 201,.row p_1 c_1 (x_3.map enc_api_Span) 26 2,.box b_4 [.func (.func 151) #[] #[.pointer (some ⟨b_3,0,none⟩)]] 224,.box b_3 [.pointer (some ⟨b_2,0,none⟩)] 197]) hc
     replace hF : (none) = some res := by subst hsF; exact hF
     cases hF
   ·rintro D_1 x_2 _ a w hsF ⟨hl,rfl⟩ hf hc
    replace hf : Has ⟨118,markL (D_1::[])⟩ a [(6,.pointer (some ⟨b_3,0,none⟩)),(9,.pointer (some ⟨b_4,0,none⟩))] := hf.keep ⟨rfl,rfl,trivial⟩
    replace hc : Ctx G (.box b_5 [.pointer (some ⟨b_2,0,none⟩)] 197::.box b_6 [.bool r_1] 4::.box b_2 [.int .i64 r.Rise,.int .i64 r.Fall,.slice r_Days_p r.Days.length r_Days_c,.slice p_1 x_2.length c_1] 201::.row p_1 c_1 (x_2.map enc_api_Span) 26 2::.box b_4 [.func (.func 151) #[] #[.pointer (some ⟨b_3,0,none⟩)]] 224::.box b_3 [.pointer (some ⟨b_2,0,none⟩)] 197::(raws (D_1::[]) ++ Lf)) w := rawsIn (C := [.box b_5 [.pointer (some ⟨b_2,0,none⟩)] 197,.box b_6 [.bool r_1] 4]) (L := [.box b_2 [.int .i64 r.Rise,.int .i64 r.Fall,.slice r_Days_p r.Days.length r_Days_c,.slice p_1 x_2.length c_1] 201,.row p_1 c_1 (x_2.map enc_api_Span) 26 2,.box b_4 [.func (.func 151) #[] #[.pointer (some ⟨b_3,0,none⟩)]] 224,.box b_3 [.pointer (some ⟨b_2,0,none⟩)] 197]) hc
    replace hF : (none) = some res := by subst hsF; exact hF
    cases hF
  have ho9 : ∀ r,x9 = .out r → r = res := by
   rintro r rfl
   exact Option.some.inj hF
  replace hc := hc.nilRow 26 2
  replace hc := hc.drop k3
  refine cLoop N (loopW (S := S9) (x := x9) ?_ N (0,([] : List api_Span)) _ _ ⟨none,0,hf.keep ⟨rfl,rfl,rfl,rfl,trivial⟩,hc⟩ hx9)
  clear hF hf hc
  rintro ⟨x,x_1⟩ st9 a w KB9 ⟨p_1,c_1,hf,hc⟩ hF hfin9 hK9
  unfold daily_opened_b9 at hF
  refine wp_seq_k fun K22 h22 => cReg ?_
  refine stP hf rfl rfl rfl (pLt rfl rfl) fun a hf => cNil ?_
  refine h22 _ _ ?_
  refine wp_seq_k fun K23 h23 => cCond (b := (decide (x < ((r.Days.length : Nat) : Int)))) hf rfl (fun hb => ?_) (fun hb => ?_)
  ·replace hF := condT hb hF
   clear hb
   refine wp_skip ?_
   refine h23 _ _ ?_
   refine wp_seq_k fun K24 h24 => wp_block ?_
   refine wp_seq_k fun K25 h25 => cReg ?_
   obtain ⟨e_5,he_5,hF⟩ := bnd_some hF
   obtain ⟨b_9,o,qa_4,qp⟩ := h_r_Days.atm he_5
   refine stP hf rfl rfl rfl (pIA Try.underlying125 sz_133 rfl rfl qa_4) fun a hf => stE hf hc rfl rfl rfl (eLdN (vs := [.bool e_5.Known,.int .i64 e_5.Flow.Lo,.int .i64 e_5.Flow.Hi]) ag_133 rfl rfl (cells_pc qp (n := 3) (o' := 0) rfl)) fun a w hf hc => stAl (cs := [.bool false,.int .i64 0,.int .i64 0]) hf hc rfl rfl zr_133 rfl fun b_10 a w hf hc => stSt (vs := [.bool e_5.Known,.int .i64 e_5.Flow.Lo,.int .i64 e_5.Flow.Hi]) hf hc rfl rfl rfl rfl sz_133 rfl rfl u0 fun w hc => cNil ?_
   refine h25 _ _ ?_
   obtain ⟨r_6,hr_6,hF⟩ := bnd_some hF
   obtain ⟨un,hun,hF⟩ := bnd_some hF
   replace hc := hc.nilRow 0 0
   refine regionE (fun θ => [⟨none,none,6,.pointer (some ⟨b_3,0,none⟩)⟩,⟨none,none,8,.pointer (some ⟨b_10,0,none⟩)⟩,⟨none,none,23,.slice r_Days_p r.Days.length r_Days_c⟩,⟨none,none,24,.int .i64 ((r.Days.length : Nat) : Int)⟩,⟨none,none,25,.int .i64 x⟩,⟨some 0,none,29,.pointer (some ⟨b_2,0,none⟩)⟩,⟨some 1,none,30,.pointer (some ⟨b_2,0,none⟩)⟩,⟨some 2,none,31,.pointer (some ⟨b_2,0,none⟩)⟩,⟨some 3,none,32,.pointer (some ⟨b_2,3,none⟩)⟩,⟨some 4,none,33,.slice p_1 x_1.length c_1⟩,⟨some 5,none,34,.agg #[.bool e_5.Known,.int .i64 e_5.Flow.Lo,.int .i64 e_5.Flow.Hi]⟩,⟨some 6,none,35,.agg #[.int .i64 r_6.Lo,.int .i64 r_6.Hi]⟩,⟨some 7,none,36,.slice (some ⟨(θ 56).b,0,none⟩) 1 1⟩,⟨some 8,none,37,.slice ((θ 64).p) ((x_1 ++ [r_6]).length) ((θ 64).c)⟩,⟨some 9,none,38,.pointer (some ⟨b_2,0,none⟩)⟩,⟨some 10,none,39,.pointer (some ⟨b_2,3,none⟩)⟩]) (fun E θ => (bif E 7 then .row (some ⟨(θ 56).b,0,none⟩) 1 (([r_6] : List api_Span).map enc_api_Span) 26 2 else .row none 0 [] 0 0)::.box b_10 [.bool e_5.Known,.int .i64 e_5.Flow.Lo,.int .i64 e_5.Flow.Hi] 133::(bif E 8 then .row ((θ 64).p) ((θ 64).c) ((x_1 ++ [r_6]).map enc_api_Span) 26 2 else .row p_1 c_1 (x_1.map enc_api_Span) 26 2)::.box b_3 [.pointer (some ⟨b_2,0,none⟩)] 197::(bif E 11 then .box b_2 [.int .i64 r.Rise,.int .i64 r.Fall,.slice r_Days_p r.Days.length r_Days_c,.slice ((θ 64).p) ((x_1 ++ [r_6]).length) ((θ 64).c)] 201 else .box b_2 [.int .i64 r.Rise,.int .i64 r.Fall,.slice r_Days_p r.Days.length r_Days_c,.slice p_1 x_1.length c_1] 201)::Lf) [(11,4),(11,8)] (fun a w => ∃ (b_12 : Nat) (p_3 : Option Addr) (c_3 : Nat),Has 118 a [(6,.pointer (some ⟨b_3,0,none⟩)),(23,.slice r_Days_p r.Days.length r_Days_c),(24,.int .i64 ((r.Days.length : Nat) : Int)),(25,.int .i64 x)] ∧ Ctx G (.row (some ⟨b_12,0,none⟩) 1 (([r_6] : List api_Span).map enc_api_Span) 26 2::.box b_10 [.bool e_5.Known,.int .i64 e_5.Flow.Lo,.int .i64 e_5.Flow.Hi] 133::.row p_3 c_3 ((x_1 ++ [r_6]).map enc_api_Span) 26 2::.box b_3 [.pointer (some ⟨b_2,0,none⟩)] 197::.box b_2 [.int .i64 r.Rise,.int .i64 r.Fall,.slice r_Days_p r.Days.length r_Days_c,.slice p_3 ((x_1 ++ [r_6]).length) c_3] 201::Lf) w) follows_mx (by kernel_rfl) (by kernel_rfl) (HasE.of hf ⟨rfl,rfl,rfl,rfl,rfl,trivial,trivial,trivial,trivial,trivial,trivial,trivial,trivial,trivial,trivial,trivial,trivial⟩) hc ⟨?_,?_,?_,?_,?_,?_,?_,?_,?_,?_,?_,?_,trivial⟩ ?_ ?_
   ·intro E θ a w hD hi hp he hc
    have hf := he.h0
    replace hf := hf.more he 0 rfl onT
    refine stE hf hc rfl rfl rfl (eLd1 sc_197 rfl (cell_box m3 rfl)) fun a w hf hc => cNil ?_
    refine xThenN ?_
    intro ds u hau
    refine ⟨θ,he.put0 hi hau hf rfl 5 rfl rfl,?_⟩
    exact hc
   ·intro E θ a w hD hi hp he hc
    have hf := he.h0
    replace hf := hf.more he 0 rfl onT
    refine stE hf hc rfl rfl rfl (eLd1 sc_197 rfl (cell_box m3 rfl)) fun a w hf hc => cNil ?_
    refine xThenN ?_
    intro ds u hau
    refine ⟨θ,he.put0 hi hau hf rfl 6 rfl rfl,?_⟩
    exact hc
   ·intro E θ a w hD hi hp he hc
    have e1 := hp.of (k := 1) rfl
    have hf := he.h0
    replace hf := hf.more he 6 rfl (onP e1)
    refine stP hf rfl rfl rfl (pNC rfl) fun a hf => cNil ?_
    refine xThenN ?_
    intro ds u hau
    refine ⟨θ,he.put0 hi hau hf rfl 7 rfl rfl,?_⟩
    exact hc
   ·intro E θ a w hD hi hp he hc
    have e2 := hp.of (k := 2) rfl
    have hf := he.h0
    replace hf := hf.more he 7 rfl (onP e2)
    refine stP hf rfl rfl rfl (pFA fa_201_1 rfl) fun a hf => cNil ?_
    refine xThenN ?_
    intro ds u hau
    refine ⟨θ,he.put0 hi hau hf rfl 8 rfl rfl,?_⟩
    exact hc
   ·intro E θ a w hD hi hp he hc
    have e3 := hp.of (k := 3) rfl
    have e11 := hD.f 0 rfl hi
    try dsimp only at hc
    rw [e11] at hc
    have hf := he.h0
    replace hf := hf.more he 8 rfl (onP e3)
    refine stE hf hc rfl rfl rfl (eLd1 sc_41 rfl (cell_box m4 rfl)) fun a w hf hc => cNil ?_
    refine xThenN ?_
    intro ds u hau
    refine ⟨θ,he.put0 hi hau hf rfl 9 rfl rfl,?_⟩
    try dsimp only
    rw [updE_fls 4 e11 rfl]
    exact hc
   ·intro E θ a w hD hi hp he hc
    have hf := he.h0
    replace hf := hf.more he 1 rfl onT
    refine stE hf hc rfl rfl rfl (eLdN (vs := [.bool e_5.Known,.int .i64 e_5.Flow.Lo,.int .i64 e_5.Flow.Hi]) ag_133 rfl rfl (cells_box (n := 3) m1 rfl)) fun a w hf hc => cNil ?_
    refine xThenN ?_
    intro ds u hau
    refine ⟨θ,he.put0 hi hau hf rfl 10 rfl rfl,?_⟩
    exact hc
   ·intro E θ a w hD hi hp he hc
    have e5 := hp.of (k := 5) rfl
    have hf := he.h0
    replace hf := hf.more he 10 rfl (onP e5)
    refine stE hf hc rfl rfl rfl (eC (v := .agg #[.int .i64 r_6.Lo,.int .i64 r_6.Hi]) (vs := [.agg #[.bool e_5.Known,.int .i64 e_5.Flow.Lo,.int .i64 e_5.Flow.Hi]]) (caps := []) en_150 rfl rfl rfl rfl (fun w hc => daily_Value_span_ok e_5 hc hr_6)) fun a w hf hc => cNil ?_
    refine xThenN ?_
    intro ds u hau
    refine ⟨θ,he.put0 hi hau hf rfl 11 rfl rfl,?_⟩
    exact hc
   ·intro E θ a w hD hi hp he hc
    have e6 := hp.of (k := 6) rfl
    try dsimp only at hc
    rw [hi] at hc
    have hf := he.h0
    replace hf := hf.more he 11 rfl (onP e6)
    refine stBS (rows := ([r_6] : List api_Span).map enc_api_Span) (vs := [(0,.agg #[.int .i64 r_6.Lo,.int .i64 r_6.Hi])]) hf hc rfl rfl sl_41 rfl ⟨rfl,rfl,rfl,trivial⟩ rfl rfl fun b_11 a w hf hc => cNil ?_
    refine xThenN ?_
    intro ds u hau
    replace hc := hc.drop k1
    refine ⟨(setT θ 56 ⟨b_11,none,0,(fun _ => (none,0))⟩),he.put hi hau hf rfl [] trivial ⟨qq,qq,qq,qq,qq,qq,qq,qq,qq,qq,qq,qq,qq,qq,qq,qq,trivial⟩,?_⟩
    try dsimp only
    rw [updE_self E 7]
    exact hc
   ·intro E θ a w hD hi hp he hc
    have e4 := hp.of (k := 4) rfl
    have e7 := hp.of (k := 7) rfl
    have e11 := hD.f 1 rfl hi
    try dsimp only at hc
    rw [e7,hi,e11] at hc
    have hf := he.h0
    replace hf := hf.more he 9 rfl (onP e4)
    replace hf := hf.more he 12 rfl (onP e7)
    refine stApm (xs := x_1) (ys := ([r_6] : List api_Span)) hf hc rfl rfl sl_41 rfl rfl rfl rfl rfl one_enc_api_Span (src_row hc m0) (fun _ _ => u2) (by simpa using room_spec hun) fun p_2 c_2 a w hf hc => cNil ?_
    refine xThenN ?_
    intro ds u hau
    refine ⟨(setT θ 64 ⟨0,p_2,c_2,(fun _ => (none,0))⟩),he.put hi hau hf rfl [] trivial ⟨qq,qq,qq,qq,qq,qq,qq,qq,qq,qq,qq,qq,qq,qq,qq,qq,trivial⟩,?_⟩
    try dsimp only
    rw [updE_tru 8 e7,updE_self E 8,updE_fls 8 e11 rfl]
    exact hc
   ·intro E θ a w hD hi hp he hc
    have e0 := hp.of (k := 0) rfl
    have hf := he.h0
    replace hf := hf.more he 5 rfl (onP e0)
    refine stP hf rfl rfl rfl (pNC rfl) fun a hf => cNil ?_
    refine xThenN ?_
    intro ds u hau
    refine ⟨θ,he.put0 hi hau hf rfl 14 rfl rfl,?_⟩
    exact hc
   ·intro E θ a w hD hi hp he hc
    have e9 := hp.of (k := 9) rfl
    have hf := he.h0
    replace hf := hf.more he 14 rfl (onP e9)
    refine stP hf rfl rfl rfl (pFA fa_201_1 rfl) fun a hf => cNil ?_
    refine xThenN ?_
    intro ds u hau
    refine ⟨θ,he.put0 hi hau hf rfl 15 rfl rfl,?_⟩
    exact hc
   ·intro E θ a w hD hi hp he hc
    have e8 := hp.of (k := 8) rfl
    have e10 := hp.of (k := 10) rfl
    try dsimp only at hc
    rw [hi] at hc
    have hf := he.h0
    replace hf := hf.more he 13 rfl (onP e8)
    replace hf := hf.more he 15 rfl (onP e10)
    refine stSt (vs := [.slice ((θ 64).p) ((x_1 ++ [r_6]).length) ((θ 64).c)]) hf hc rfl rfl rfl rfl sz_41 rfl rfl u4 fun w hc => cNil ?_
    refine xThenN ?_
    intro ds u hau
    refine ⟨θ,he.stay0 hi hau hf rfl,?_⟩
    try dsimp only
    rw [updE_self E 11]
    exact hc
   ·intro E θ a w hall he hc
    have hf := he.h0
    have e7 := hall 7 rfl
    have e8 := hall 8 rfl
    have e11 := hall 11 rfl
    replace hf := hf.more he 4 rfl (onT)
    replace hf := hf.more he 3 rfl (onT)
    replace hf := hf.more he 2 rfl (onT)
    replace hf := hf.more he 0 rfl (onT)
    try dsimp only at hc
    rw [e7,e8,e11] at hc
    exact ⟨(θ 56).b,(θ 64).p,(θ 64).c,hf.keep ⟨rfl,rfl,rfl,rfl,trivial⟩,hc⟩
   rintro a w ⟨b_12,p_3,c_3,hf,hc⟩
   refine h24 _ _ ?_
   refine cReg ?_
   refine stP hf rfl rfl rfl (pAdd rfl rfl) fun a hf => stP hf rfl rfl rfl (pM rfl) fun a hf => cNil ?_
   replace hc := hc.drop k1
   replace hc := hc.drop k0
   exact hK9 (W (x + 1),(x_1 ++ [r_6])) _ _ (Option.some.inj hF).symm ⟨p_3,c_3,hf.keep ⟨rfl,rfl,rfl,rfl,trivial⟩,hc⟩
  ·replace hF := condF hb hF
   clear hb
   refine wp_exit ?_
   refine xThen ?_
   refine xThen ?_
   have he := Option.some.inj hF
   rw [← he] at hfin9
   refine cHit ?_
   exact hr9 _ _ _ hfin9 ⟨p_1,c_1,hf.keep ⟨rfl,rfl,rfl,rfl,trivial⟩,hc⟩

def daily_agreed_j3 (N : Nat) (e_1 : Int) : Option ((Int) ⊕ (Int × Int × (List api_Span) × Int)) :=
 some (.inl e_1)
def daily_agreed_j6 (N : Nat) (r_1 : Int × Int × (List api_Span) × Bool × Int) (e_2 : Int) : Option ((Int) ⊕ (Int × Int × (List api_Span) × Int)) :=
 some (.inr (r_1.1,r_1.2.1,r_1.2.2.1,e_2))
def daily_agreed (N : Nat) (r : daily_Record) : Option ((Int) ⊕ (Int × Int × (List api_Span) × Int)) :=
 Option.bind (daily_opened N r) (sumK (fun r_0 => cond ((r_0.2 == 0) && (!r_0.1))
 (daily_agreed_j3 N 7)
 (daily_agreed_j3 N r_0.2))
 (fun r_1 => cond ((r_1.2.2.2.2 == 0) && (!r_1.2.2.2.1))
 (daily_agreed_j6 N r_1 7)
 (daily_agreed_j6 N r_1 r_1.2.2.2.2)))
theorem daily_agreed_ok {N : Nat} {G : Pers} {Lf : List Ent} {w : World} (r : daily_Record) {r_Days_p : Option Addr} {r_Days_c : Nat} (h_r_Days : Rd G 3 r_Days_p r_Days_c (r.Days.map enc_daily_Value)) (hc : Ctx G (Lf) w) {res : (Int) ⊕ (Int × Int × (List api_Span) × Int)} (hF : daily_agreed N r = some res) : Calls Try.prog 109 #[.agg #[.int .i64 r.Rise,.int .i64 r.Fall,.slice r_Days_p r.Days.length r_Days_c]] w (fun e w => sumK (fun rr => e = .returned (.tuple #[.pointer none,.int .i64 rr]) ∧ Ctx G (Lf) w) (fun rr => ∃ (b'1 : Nat) (p'1 : Option Addr) (c'1 : Nat),e = .returned (.tuple #[.pointer (some ⟨b'1,0,none⟩),.int .i64 rr.2.2.2]) ∧ Ctx G (.row p'1 c'1 (rr.2.2.1.map enc_api_Span) 26 2::.box b'1 [.int .i64 rr.1,.int .i64 rr.2.1,.slice r_Days_p r.Days.length r_Days_c,.slice p'1 rr.2.2.1.length c'1] 201::Lf) w) res) := by
 unfold daily_agreed at hF
 refine fnIn (args := [.agg #[.int .i64 r.Rise,.int .i64 r.Fall,.slice r_Days_p r.Days.length r_Days_c]]) Try.func109 rfl Try.ntmps109 rfl fun a hf => wp_seq_k fun K1 h1 => cReg ?_
 refine stBx (cs := [.int .i64 r.Rise,.int .i64 r.Fall,.slice r_Days_p r.Days.length r_Days_c]) hf hc rfl rfl rfl rfl fun b_1 a w hf hc => stP hf rfl rfl rfl (pA rfl) fun a hf => stP hf rfl rfl rfl (pA rfl) fun a hf => cNil ?_
 refine h1 _ _ ?_
 refine wp_seq_k fun K2 h2 => cReg ?_
 refine stE hf hc rfl rfl rfl (eLdN (vs := [.int .i64 r.Rise,.int .i64 r.Fall,.slice r_Days_p r.Days.length r_Days_c]) ag_127 rfl rfl (cells_box (n := 3) m0 rfl)) fun a w hf hc => ?_
 obtain ⟨r_0,hr_0,hF⟩ := bnd_some hF
 cases r_0 with
 | inl r_0 =>
  replace hF := sumKl hF
  refine stC (vs := [.agg #[.int .i64 r.Rise,.int .i64 r.Fall,.slice r_Days_p r.Days.length r_Days_c]]) (caps := []) hf rfl rfl rfl en_140 rfl rfl rfl rfl (daily_opened_ok r h_r_Days hc hr_0) ?_
  rintro _ w ⟨rfl,hc⟩
  refine ⟨_,rfl,fun a hf => ?_⟩
  refine stP hf rfl rfl rfl (pM rfl) fun a hf => stP hf rfl rfl rfl (pX rfl rfl) fun a hf => stP hf rfl rfl rfl (pX rfl rfl) fun a hf => stP hf rfl rfl rfl (pX rfl rfl) fun a hf => stP hf rfl rfl rfl (pA rfl) fun a hf => stP hf rfl rfl rfl (pA rfl) fun a hf => stP hf rfl rfl rfl (pA rfl) fun a hf => cNil ?_
  refine h2 _ _ ?_
  refine wp_seq_k fun K3 h3 => ?_
  have hj3 : ∀ (e_1 : Int) a w,Has 21 a [(4,.pointer none),(6,.int .i64 e_1)] → Ctx G (Lf) w → daily_agreed_j3 N e_1 = some res → K3 a w := by
   repeat (clear hF)
   repeat (clear hc)
   repeat (clear hf)
   intro e_1 a w hf hc hF
   unfold daily_agreed_j3 at hF
   refine h3 _ _ ?_
   refine wp_seq_k fun K4 h4 => cReg ?_
   refine stP hf rfl rfl rfl (pM rfl) fun a hf => stP hf rfl rfl rfl (pM rfl) fun a hf => stP hf rfl rfl rfl (pA rfl) fun a hf => stP hf rfl rfl rfl (pA rfl) fun a hf => cNil ?_
   refine h4 _ _ ?_
   refine wp_ret ?_
   obtain rfl := Option.some.inj hF
   exact fnOut2 (by simp) rfl Try.results109 hf hc (show look _ 2 = _ from rfl) (show look _ 3 = _ from rfl) ⟨rfl,hc⟩
  refine wp_seq_k fun K5 h5 => cReg ?_
  refine stP hf rfl rfl rfl (pM rfl) fun a hf => stP hf rfl rfl rfl (pEq rfl rfl) fun a hf => stP hf rfl rfl rfl (pM rfl) fun a hf => stCut 3 (fun a w => Has 21 a [(4,.pointer none),(5,.bool r_0.1),(6,.int .i64 r_0.2),(13,.int .i64 r_0.2),(14,.bool (r_0.2 == 0)),(15,.bool (r_0.2 == 0)),(18,.bool ((r_0.2 == 0) && (!r_0.1)))] ∧ Ctx G (.box b_1 [.int .i64 r.Rise,.int .i64 r.Fall,.slice r_Days_p r.Days.length r_Days_c] 127::Lf) w) ?_ ?_
  ·cases hb : (r_0.2 == 0)
   ·rw [hb] at hf
    refine stS hf rfl rfl rfl fun a hf => stS hf rfl rfl rfl fun a hf => stP hf rfl rfl rfl (pPf rfl rfl) fun a hf => cNil ⟨hf.keep ⟨rfl,rfl,rfl,rfl,rfl,rfl,rfl,trivial⟩,hc⟩
   ·rw [hb] at hf
    refine stP hf rfl rfl rfl (pM rfl) fun a hf => stP hf rfl rfl rfl (pNot rfl) fun a hf => stP hf rfl rfl rfl (pPt rfl rfl) fun a hf => cNil ⟨hf.keep ⟨rfl,rfl,rfl,rfl,rfl,rfl,rfl,trivial⟩,hc⟩
  intro a w ⟨hf,hc⟩
  refine cNil ?_
  refine h5 _ _ ?_
  refine cCond (b := ((r_0.2 == 0) && (!r_0.1))) hf rfl (fun hb => ?_) (fun hb => ?_)
  ·replace hF := condT hb hF
   clear hb
   refine cReg ?_
   refine stP hf rfl rfl rfl (pA rfl) fun a hf => cNil ?_
   replace hc := hc.drop k0
   exact hj3 7 _ _  (hf.keep ⟨rfl,rfl,trivial⟩) hc hF
  ·replace hF := condF hb hF
   clear hb
   refine wp_skip ?_
   replace hc := hc.drop k0
   exact hj3 r_0.2 _ _  (hf.keep ⟨rfl,rfl,trivial⟩) hc hF
 | inr r_1 =>
  replace hF := sumKr hF
  have hr_1 := hr_0
  refine stC (vs := [.agg #[.int .i64 r.Rise,.int .i64 r.Fall,.slice r_Days_p r.Days.length r_Days_c]]) (caps := []) hf rfl rfl rfl en_140 rfl rfl rfl rfl (daily_opened_ok r h_r_Days hc hr_1) ?_
  rintro _ w ⟨b_2,p_1,c_1,rfl,hc⟩
  refine ⟨_,rfl,fun a hf => ?_⟩
  refine stP hf rfl rfl rfl (pM rfl) fun a hf => stP hf rfl rfl rfl (pX rfl rfl) fun a hf => stP hf rfl rfl rfl (pX rfl rfl) fun a hf => stP hf rfl rfl rfl (pX rfl rfl) fun a hf => stP hf rfl rfl rfl (pA rfl) fun a hf => stP hf rfl rfl rfl (pA rfl) fun a hf => stP hf rfl rfl rfl (pA rfl) fun a hf => cNil ?_
  refine h2 _ _ ?_
  refine wp_seq_k fun K6 h6 => ?_
  have hj6 : ∀ (e_2 : Int) a w,Has 21 a [(4,.pointer (some ⟨b_2,0,none⟩)),(6,.int .i64 e_2)] → Ctx G (.row p_1 c_1 (r_1.2.2.1.map enc_api_Span) 26 2::.box b_2 [.int .i64 r_1.1,.int .i64 r_1.2.1,.slice r_Days_p r.Days.length r_Days_c,.slice p_1 r_1.2.2.1.length c_1] 201::Lf) w → daily_agreed_j6 N r_1 e_2 = some res → K6 a w := by
   repeat (clear hF)
   repeat (clear hc)
   repeat (clear hf)
   intro e_2 a w hf hc hF
   unfold daily_agreed_j6 at hF
   refine h6 _ _ ?_
   refine wp_seq_k fun K7 h7 => cReg ?_
   refine stP hf rfl rfl rfl (pM rfl) fun a hf => stP hf rfl rfl rfl (pM rfl) fun a hf => stP hf rfl rfl rfl (pA rfl) fun a hf => stP hf rfl rfl rfl (pA rfl) fun a hf => cNil ?_
   refine h7 _ _ ?_
   refine wp_ret ?_
   obtain rfl := Option.some.inj hF
   exact fnOut2 (by simp) rfl Try.results109 hf hc (show look _ 2 = _ from rfl) (show look _ 3 = _ from rfl) ⟨b_2,p_1,c_1,rfl,hc⟩
  refine wp_seq_k fun K8 h8 => cReg ?_
  refine stP hf rfl rfl rfl (pM rfl) fun a hf => stP hf rfl rfl rfl (pEq rfl rfl) fun a hf => stP hf rfl rfl rfl (pM rfl) fun a hf => stCut 3 (fun a w => Has 21 a [(4,.pointer (some ⟨b_2,0,none⟩)),(5,.bool r_1.2.2.2.1),(6,.int .i64 r_1.2.2.2.2),(13,.int .i64 r_1.2.2.2.2),(14,.bool (r_1.2.2.2.2 == 0)),(15,.bool (r_1.2.2.2.2 == 0)),(18,.bool ((r_1.2.2.2.2 == 0) && (!r_1.2.2.2.1)))] ∧ Ctx G (.row p_1 c_1 (r_1.2.2.1.map enc_api_Span) 26 2::.box b_2 [.int .i64 r_1.1,.int .i64 r_1.2.1,.slice r_Days_p r.Days.length r_Days_c,.slice p_1 r_1.2.2.1.length c_1] 201::.box b_1 [.int .i64 r.Rise,.int .i64 r.Fall,.slice r_Days_p r.Days.length r_Days_c] 127::Lf) w) ?_ ?_
  ·cases hb : (r_1.2.2.2.2 == 0)
   ·rw [hb] at hf
    refine stS hf rfl rfl rfl fun a hf => stS hf rfl rfl rfl fun a hf => stP hf rfl rfl rfl (pPf rfl rfl) fun a hf => cNil ⟨hf.keep ⟨rfl,rfl,rfl,rfl,rfl,rfl,rfl,trivial⟩,hc⟩
   ·rw [hb] at hf
    refine stP hf rfl rfl rfl (pM rfl) fun a hf => stP hf rfl rfl rfl (pNot rfl) fun a hf => stP hf rfl rfl rfl (pPt rfl rfl) fun a hf => cNil ⟨hf.keep ⟨rfl,rfl,rfl,rfl,rfl,rfl,rfl,trivial⟩,hc⟩
  intro a w ⟨hf,hc⟩
  refine cNil ?_
  refine h8 _ _ ?_
  refine cCond (b := ((r_1.2.2.2.2 == 0) && (!r_1.2.2.2.1))) hf rfl (fun hb => ?_) (fun hb => ?_)
  ·replace hF := condT hb hF
   clear hb
   refine cReg ?_
   refine stP hf rfl rfl rfl (pA rfl) fun a hf => cNil ?_
   replace hc := hc.drop k2
   exact hj6 7 _ _  (hf.keep ⟨rfl,rfl,trivial⟩) hc hF
  ·replace hF := condF hb hF
   clear hb
   refine wp_skip ?_
   replace hc := hc.drop k2
   exact hj6 r_1.2.2.2.2 _ _  (hf.keep ⟨rfl,rfl,trivial⟩) hc hF

def daily_both  : Unit :=
 ()
theorem daily_both_ok {G : Pers} {Lf : List Ent} {w : World}    (hc : Ctx G (Lf) w) {res : Unit} (hF : daily_both = res) : Calls Try.prog 110 #[] w (fun e w => e = .returned (.agg #[.func (.func 141) #[] #[],.func (.func 142) #[] #[]]) ∧ Ctx G (Lf) w) := by
 unfold daily_both at hF
 refine fnIn (args := []) Try.func110 rfl Try.ntmps110 rfl fun a hf => wp_seq_k fun K1 h1 => cReg ?_
 refine stAl (cs := [.nilFunc,.nilFunc]) hf hc rfl rfl zr_204 rfl fun b_1 a w hf hc => cNil ?_
 refine h1 _ _ ?_
 refine wp_seq_k fun K2 h2 => cReg ?_
 refine stP hf rfl rfl rfl (pBuildS (cells := [.func (.func 141) #[] #[]]) bt_203 rfl rfl) fun a hf => stP hf rfl rfl rfl (pBuildS (cells := [.func (.func 142) #[] #[]]) bt_203 rfl rfl) fun a hf => stP hf rfl rfl rfl (pBuild (cells := [.func (.func 141) #[] #[],.func (.func 142) #[] #[]]) rfl (by rfl)) fun a hf => stSt (vs := [.func (.func 141) #[] #[],.func (.func 142) #[] #[]]) hf hc rfl rfl rfl rfl sz_204 rfl rfl u0 fun w hc => cNil ?_
 refine h2 _ _ ?_
 refine wp_ret ?_
 obtain rfl := hF
 exact fnOut1 (by simp) rfl Try.results110 hf hc (rv_cellN (vs := [.func (.func 141) #[] #[],.func (.func 142) #[] #[]]) ag_204 rfl rfl (cells_box (n := 2) m0 rfl)) ⟨rfl,(hc.drop k0)⟩

def daily_both_1 (s_ : api_Span) : Int :=
 s_.Lo
theorem daily_both_1_ok {G : Pers} {Lf : List Ent} {w : World} (s_ : api_Span)   (hc : Ctx G (Lf) w) {res : Int} (hF : daily_both_1 s_ = res) : Calls Try.prog 141 #[.agg #[.int .i64 s_.Lo,.int .i64 s_.Hi]] w (fun e w => e = .returned (.int .i64 res) ∧ Ctx G (Lf) w) := by
 unfold daily_both_1 at hF
 refine fnIn (args := [.agg #[.int .i64 s_.Lo,.int .i64 s_.Hi]]) Try.func141 rfl Try.ntmps141 rfl fun a hf => wp_seq_k fun K1 h1 => cReg ?_
 refine stBx (cs := [.int .i64 s_.Lo,.int .i64 s_.Hi]) hf hc rfl rfl rfl rfl fun b_1 a w hf hc => stP hf rfl rfl rfl (pA rfl) fun a hf => cNil ?_
 refine h1 _ _ ?_
 refine wp_seq_k fun K2 h2 => cReg ?_
 refine stP hf rfl rfl rfl (pFA fa_26_0 rfl) fun a hf => stE hf hc rfl rfl rfl (eLd1 sc_3 rfl (cell_box m0 rfl)) fun a w hf hc => stP hf rfl rfl rfl (pA rfl) fun a hf => cNil ?_
 refine h2 _ _ ?_
 refine wp_ret ?_
 obtain rfl := hF
 replace hc := hc.drop k0
 exact fnOut1 (by simp) rfl Try.results141 hf hc (show look _ 2 = _ from rfl) ⟨rfl,hc⟩

def daily_ends_b5 (N : Nat) (l : List api_Span) (out : List Int) (x : Int) : Option (Step ((List Int) × Int) ((List Int))) :=
 cond (decide (x < ((l.length : Nat) : Int)))
 (Option.bind (getI l x) fun e_1 =>
 Option.bind (room ((out ++ [(daily_both_1 e_1)])).length) fun un =>
 some (.cont ((out ++ [(daily_both_1 e_1)]),W (x + 1))))
 (some (.brk (out,x)))
def daily_ends (N : Nat) (l : List api_Span) : Option ((List Int)) :=
 Option.bind (loopO (fun s5 => daily_ends_b5 N l s5.1 s5.2) N (([] : List Int),0)) fun x5 =>
 exK x5 (fun s5 => some s5.1) some
theorem daily_ends_ok {N : Nat} {G : Pers} {Lf : List Ent} {w : World} (l : List api_Span) {l_p : Option Addr} {l_c : Nat} (h_l : Rd G 2 l_p l_c (l.map enc_api_Span)) (hc : Ctx G (Lf) w) {res : (List Int)} (hF : daily_ends N l = some res) : Calls Try.prog 112 #[.slice l_p l.length l_c,.agg #[.func (.func 141) #[] #[]]] w (fun e w => ∃ (p'1 : Option Addr) (c'1 : Nat),e = .returned (.slice p'1 res.length c'1) ∧ Ctx G (.row p'1 c'1 (res.map encI_i64) 3 1::Lf) w) := by
 unfold daily_ends at hF
 refine fnIn (args := [.slice l_p l.length l_c,.agg #[.func (.func 141) #[] #[]]]) Try.func112 rfl Try.ntmps112 rfl fun a hf => wp_seq_k fun K1 h1 => cReg ?_
 refine stBx (cs := [.func (.func 141) #[] #[]]) hf hc rfl rfl rfl rfl fun b_1 a w hf hc => stP hf rfl rfl rfl (pA rfl) fun a hf => cNil ?_
 refine h1 _ _ ?_
 refine wp_seq_k fun K2 h2 => cReg ?_
 refine stP hf rfl rfl rfl (pA rfl) fun a hf => cNil ?_
 refine h2 _ _ ?_
 refine wp_seq_k fun K3 h3 => wp_seq_k fun K4 h4 => cReg ?_
 refine stP hf rfl rfl rfl (pM rfl) fun a hf => stP hf rfl rfl rfl (pLenS Try.underlying41 rfl) fun a hf => stP hf rfl rfl rfl (pM rfl) fun a hf => cNil ?_
 refine h4 _ _ ?_
 refine wp_block ?_
 obtain ⟨x5,hx5,hF⟩ := bnd_some hF
 let S5 : ((List Int) × Int) → Act → World → Prop := (fun (zz : (List Int) × Int) a w => ∃ (p_1 : Option Addr) (c_1 : Nat),Has 23 a [(3,.pointer (some ⟨b_1,0,none⟩)),(5,.slice p_1 zz.1.length c_1),(8,.slice l_p l.length l_c),(9,.int .i64 ((l.length : Nat) : Int)),(10,.int .i64 zz.2)] ∧ Ctx G (.row p_1 c_1 (zz.1.map encI_i64) 3 1::.box b_1 [.func (.func 141) #[] #[]] 203::Lf) w)
 have hr5 : ∀ (zz : (List Int) × Int) a w,x5 = .go zz → S5 zz a w → K3 a w := by
  rintro ⟨out,x⟩ a w rfl ⟨p_1,c_1,hf,hc⟩
  replace hF := exK_go hF
  refine h3 _ _ ?_
  refine wp_seq_k fun K6 h6 => cReg ?_
  refine stP hf rfl rfl rfl (pM rfl) fun a hf => stP hf rfl rfl rfl (pA rfl) fun a hf => cNil ?_
  refine h6 _ _ ?_
  refine wp_ret ?_
  obtain rfl := Option.some.inj hF
  replace hc := hc.drop k1
  exact fnOut1 (by simp) rfl Try.results112 hf hc (show look _ 4 = _ from rfl) ⟨p_1,c_1,rfl,hc⟩
 have ho5 : ∀ r,x5 = .out r → r = res := by
  rintro r rfl
  exact Option.some.inj hF
 replace hc := hc.nilRow 3 1
 refine cLoop N (loopW (S := S5) (x := x5) ?_ N (([] : List Int),0) _ _ ⟨none,0,hf.keep ⟨rfl,rfl,rfl,rfl,rfl,trivial⟩,hc⟩ hx5)
 clear hF hf hc
 rintro ⟨out,x⟩ st5 a w KB5 ⟨p_1,c_1,hf,hc⟩ hF hfin5 hK5
 unfold daily_ends_b5 at hF
 refine wp_seq_k fun K7 h7 => cReg ?_
 refine stP hf rfl rfl rfl (pLt rfl rfl) fun a hf => cNil ?_
 refine h7 _ _ ?_
 refine wp_seq_k fun K8 h8 => cCond (b := (decide (x < ((l.length : Nat) : Int)))) hf rfl (fun hb => ?_) (fun hb => ?_)
 ·replace hF := condT hb hF
  clear hb
  refine wp_skip ?_
  refine h8 _ _ ?_
  refine wp_seq_k fun K9 h9 => wp_block ?_
  refine wp_seq_k fun K10 h10 => cReg ?_
  obtain ⟨e_1,he_1,hF⟩ := bnd_some hF
  obtain ⟨b_2,o,qa,qp⟩ := h_l.atm he_1
  refine stP hf rfl rfl rfl (pIA Try.underlying41 sz_26 rfl rfl qa) fun a hf => stE hf hc rfl rfl rfl (eLdN (vs := [.int .i64 e_1.Lo,.int .i64 e_1.Hi]) ag_26 rfl rfl (cells_pc qp (n := 2) (o' := 0) rfl)) fun a w hf hc => stAl (cs := [.int .i64 0,.int .i64 0]) hf hc rfl rfl zr_26 rfl fun b_3 a w hf hc => stSt (vs := [.int .i64 e_1.Lo,.int .i64 e_1.Hi]) hf hc rfl rfl rfl rfl sz_26 rfl rfl u0 fun w hc => cNil ?_
  refine h10 _ _ ?_
  refine cReg ?_
  refine stP hf rfl rfl rfl (pM rfl) fun a hf => stP hf rfl rfl rfl (pFA fa_203_0 rfl) fun a hf => stE hf hc rfl rfl rfl (eLd1 sc_190 rfl (cell_box m2 rfl)) fun a w hf hc => stE hf hc rfl rfl rfl (eLdN (vs := [.int .i64 e_1.Lo,.int .i64 e_1.Hi]) ag_26 rfl rfl (cells_box (n := 2) m0 rfl)) fun a w hf hc => stE hf hc rfl rfl rfl (eC (v := .int .i64 (daily_both_1 e_1)) (vs := [.agg #[.int .i64 e_1.Lo,.int .i64 e_1.Hi]]) (caps := []) en_141 rfl rfl rfl rfl (fun w hc => daily_both_1_ok e_1 hc rfl)) fun a w hf hc => stBS (rows := ([(daily_both_1 e_1)] : List Int).map encI_i64) (vs := [(0,.int .i64 (daily_both_1 e_1))]) hf hc rfl rfl sl_36 rfl ⟨rfl,rfl,rfl,trivial⟩ rfl rfl fun b_4 a w hf hc => ?_
  obtain ⟨un,hun,hF⟩ := bnd_some hF
  refine stApm (xs := out) (ys := ([(daily_both_1 e_1)] : List Int)) hf hc rfl rfl sl_36 rfl rfl rfl rfl rfl one_encI_i64 (src_row hc m0) (fun _ _ => u2) (by simpa using room_spec hun) fun p_2 c_2 a w hf hc => stP hf rfl rfl rfl (pA rfl) fun a hf => cNil ?_
  refine h9 _ _ ?_
  refine cReg ?_
  refine stP hf rfl rfl rfl (pAdd rfl rfl) fun a hf => stP hf rfl rfl rfl (pM rfl) fun a hf => cNil ?_
  replace hc := hc.drop k1
  replace hc := hc.drop k0
  exact hK5 ((out ++ [(daily_both_1 e_1)]),W (x + 1)) _ _ (Option.some.inj hF).symm ⟨p_2,c_2,hf.keep ⟨rfl,rfl,rfl,rfl,rfl,trivial⟩,hc⟩
 ·replace hF := condF hb hF
  clear hb
  refine wp_exit ?_
  refine xThen ?_
  refine xThen ?_
  have he := Option.some.inj hF
  rw [← he] at hfin5
  refine cHit ?_
  exact hr5 _ _ _ hfin5 ⟨p_1,c_1,hf.keep ⟨rfl,rfl,rfl,rfl,rfl,trivial⟩,hc⟩

def daily_sum_b5 (N : Nat) (l : List Int) (out : Int) (x : Int) : Option (Step (Int × Int) (Int)) :=
 cond (decide (x < ((l.length : Nat) : Int)))
 (Option.bind (getI l x) fun e_1 =>
 some (.cont (W (out + e_1),W (x + 1))))
 (some (.brk (out,x)))
def daily_sum (N : Nat) (l : List Int) : Option (Int) :=
 Option.bind (loopO (fun s5 => daily_sum_b5 N l s5.1 s5.2) N (0,0)) fun x5 =>
 exK x5 (fun s5 => some s5.1) some
theorem daily_sum_ok {N : Nat} {G : Pers} {Lf : List Ent} {w : World} (l : List Int) {l_p : Option Addr} {l_c : Nat} (h_l : Rd G 1 l_p l_c (l.map encI_i64)) (hc : Ctx G (Lf) w) {res : Int} (hF : daily_sum N l = some res) : Calls Try.prog 111 #[.slice l_p l.length l_c] w (fun e w => e = .returned (.int .i64 res) ∧ Ctx G (Lf) w) := by
 unfold daily_sum at hF
 refine fnIn (args := [.slice l_p l.length l_c]) Try.func111 rfl Try.ntmps111 rfl fun a hf => wp_seq_k fun K1 h1 => cReg ?_
 refine stP hf rfl rfl rfl (pA rfl) fun a hf => cNil ?_
 refine h1 _ _ ?_
 refine wp_seq_k fun K2 h2 => cReg ?_
 refine stP hf rfl rfl rfl (pA rfl) fun a hf => cNil ?_
 refine h2 _ _ ?_
 refine wp_seq_k fun K3 h3 => wp_seq_k fun K4 h4 => cReg ?_
 refine stP hf rfl rfl rfl (pM rfl) fun a hf => stP hf rfl rfl rfl (pLenS Try.underlying36 rfl) fun a hf => stP hf rfl rfl rfl (pM rfl) fun a hf => cNil ?_
 refine h4 _ _ ?_
 refine wp_block ?_
 obtain ⟨x5,hx5,hF⟩ := bnd_some hF
 let S5 : (Int × Int) → Act → World → Prop := (fun (zz : Int × Int) a w => Has 17 a [(3,.int .i64 zz.1),(6,.slice l_p l.length l_c),(7,.int .i64 ((l.length : Nat) : Int)),(8,.int .i64 zz.2)] ∧ Ctx G (Lf) w)
 have hr5 : ∀ (zz : Int × Int) a w,x5 = .go zz → S5 zz a w → K3 a w := by
  rintro ⟨out,x⟩ a w rfl ⟨hf,hc⟩
  replace hF := exK_go hF
  refine h3 _ _ ?_
  refine wp_seq_k fun K6 h6 => cReg ?_
  refine stP hf rfl rfl rfl (pM rfl) fun a hf => stP hf rfl rfl rfl (pA rfl) fun a hf => cNil ?_
  refine h6 _ _ ?_
  refine wp_ret ?_
  obtain rfl := Option.some.inj hF
  exact fnOut1 (by simp) rfl Try.results111 hf hc (show look _ 2 = _ from rfl) ⟨rfl,hc⟩
 have ho5 : ∀ r,x5 = .out r → r = res := by
  rintro r rfl
  exact Option.some.inj hF
 refine cLoop N (loopW (S := S5) (x := x5) ?_ N (0,0) _ _ ⟨hf.keep ⟨rfl,rfl,rfl,rfl,trivial⟩,hc⟩ hx5)
 clear hF hf hc
 rintro ⟨out,x⟩ st5 a w KB5 ⟨hf,hc⟩ hF hfin5 hK5
 unfold daily_sum_b5 at hF
 refine wp_seq_k fun K7 h7 => cReg ?_
 refine stP hf rfl rfl rfl (pLt rfl rfl) fun a hf => cNil ?_
 refine h7 _ _ ?_
 refine wp_seq_k fun K8 h8 => cCond (b := (decide (x < ((l.length : Nat) : Int)))) hf rfl (fun hb => ?_) (fun hb => ?_)
 ·replace hF := condT hb hF
  clear hb
  refine wp_skip ?_
  refine h8 _ _ ?_
  refine wp_seq_k fun K9 h9 => wp_block ?_
  refine wp_seq_k fun K10 h10 => cReg ?_
  obtain ⟨e_1,he_1,hF⟩ := bnd_some hF
  obtain ⟨b_1,o,qa,qp⟩ := h_l.atm he_1
  refine stP hf rfl rfl rfl (pIA Try.underlying36 sz_3 rfl rfl qa) fun a hf => stE hf hc rfl rfl rfl (eLd1 sc_3 rfl (cell_pc (j := 0) qp rfl)) fun a w hf hc => stP hf rfl rfl rfl (pA rfl) fun a hf => cNil ?_
  refine h10 _ _ ?_
  refine cReg ?_
  refine stP hf rfl rfl rfl (pM rfl) fun a hf => stP hf rfl rfl rfl (pM rfl) fun a hf => stP hf rfl rfl rfl (pAdd rfl rfl) fun a hf => stP hf rfl rfl rfl (pA rfl) fun a hf => cNil ?_
  refine h9 _ _ ?_
  refine cReg ?_
  refine stP hf rfl rfl rfl (pAdd rfl rfl) fun a hf => stP hf rfl rfl rfl (pM rfl) fun a hf => cNil ?_
  exact hK5 (W (out + e_1),W (x + 1)) _ _ (Option.some.inj hF).symm ⟨hf.keep ⟨rfl,rfl,rfl,rfl,trivial⟩,hc⟩
 ·replace hF := condF hb hF
  clear hb
  refine wp_exit ?_
  refine xThen ?_
  refine xThen ?_
  have he := Option.some.inj hF
  rw [← he] at hfin5
  refine cHit ?_
  exact hr5 _ _ _ hfin5 ⟨hf.keep ⟨rfl,rfl,rfl,rfl,trivial⟩,hc⟩

def daily_both_2 (s_ : api_Span) : Int :=
 s_.Hi
theorem daily_both_2_ok {G : Pers} {Lf : List Ent} {w : World} (s_ : api_Span)   (hc : Ctx G (Lf) w) {res : Int} (hF : daily_both_2 s_ = res) : Calls Try.prog 142 #[.agg #[.int .i64 s_.Lo,.int .i64 s_.Hi]] w (fun e w => e = .returned (.int .i64 res) ∧ Ctx G (Lf) w) := by
 unfold daily_both_2 at hF
 refine fnIn (args := [.agg #[.int .i64 s_.Lo,.int .i64 s_.Hi]]) Try.func142 rfl Try.ntmps142 rfl fun a hf => wp_seq_k fun K1 h1 => cReg ?_
 refine stBx (cs := [.int .i64 s_.Lo,.int .i64 s_.Hi]) hf hc rfl rfl rfl rfl fun b_1 a w hf hc => stP hf rfl rfl rfl (pA rfl) fun a hf => cNil ?_
 refine h1 _ _ ?_
 refine wp_seq_k fun K2 h2 => cReg ?_
 refine stP hf rfl rfl rfl (pFA fa_26_1 rfl) fun a hf => stE hf hc rfl rfl rfl (eLd1 sc_3 rfl (cell_box m0 rfl)) fun a w hf hc => stP hf rfl rfl rfl (pA rfl) fun a hf => cNil ?_
 refine h2 _ _ ?_
 refine wp_ret ?_
 obtain rfl := hF
 replace hc := hc.drop k0
 exact fnOut1 (by simp) rfl Try.results142 hf hc (show look _ 2 = _ from rfl) ⟨rfl,hc⟩

end Go.Nilo
