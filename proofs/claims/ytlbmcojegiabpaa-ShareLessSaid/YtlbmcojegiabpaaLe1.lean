/-
  What functions of the Go text compute, as plain functions, and that they do, part 1 of 3. Conditions: what each theorem names.
-/
import Derived.Test.YtlbmcojegiabpaaNl15
import Derived.Test.YtlbmcojegiabpaaProg
set_option linter.unusedVariables false
set_option maxRecDepth 100000
set_option maxHeartbeats 4000000
namespace Go.Nilo
open Go.Proofs


structure kit_Stream where
  bytes : List Int
  used : Int
  mix : Int

structure share_Point where
  Index : Int
  Due : Int
@[reducible] def enc_share_Point (x : share_Point) : List Value := [.int .i64 x.Index, .int .i64 x.Due]
theorem one_enc_share_Point : ∀ x, (enc_share_Point x).length = 2 ∧ ones (enc_share_Point x) = true := fun _ => ⟨rfl, rfl⟩

structure api_Span where
  Lo : Int
  Hi : Int
@[reducible] def enc_api_Span (x : api_Span) : List Value := [.int .i64 x.Lo, .int .i64 x.Hi]
theorem one_enc_api_Span : ∀ x, (enc_api_Span x).length = 2 ∧ ones (enc_api_Span x) = true := fun _ => ⟨rfl, rfl⟩

structure share_Year where
  Index : api_Span
  Delivered : api_Span
  Spill : Bool
@[reducible] def enc_share_Year (x : share_Year) : List Value := [.int .i64 x.Index.Lo, .int .i64 x.Index.Hi, .int .i64 x.Delivered.Lo, .int .i64 x.Delivered.Hi, .bool x.Spill]
theorem one_enc_share_Year : ∀ x, (enc_share_Year x).length = 5 ∧ ones (enc_share_Year x) = true := fun _ => ⟨rfl, rfl⟩

structure share_Truth where
  Index : Int
  Delivered : Int
@[reducible] def enc_share_Truth (x : share_Truth) : List Value := [.int .i64 x.Index, .int .i64 x.Delivered]
theorem one_enc_share_Truth : ∀ x, (enc_share_Truth x).length = 2 ∧ ones (enc_share_Truth x) = true := fun _ => ⟨rfl, rfl⟩

structure share_Border where
  Table : List share_Point
  Credit : Int

structure share_Right where
  State : Int
  Amount : Int
  Loss : Int
@[reducible] def enc_share_Right (x : share_Right) : List Value := [.int .i64 x.State, .int .i64 x.Amount, .int .i64 x.Loss]
theorem one_enc_share_Right : ∀ x, (enc_share_Right x).length = 3 ∧ ones (enc_share_Right x) = true := fun _ => ⟨rfl, rfl⟩

structure share_Compact where
  States : Int
  Rights : List share_Right

structure share_office where
  Compact : share_Compact
  got : Nat → Int

structure share_Pact where
  Least : Int
  Part : Int
  Can : List Int

structure share_quotient where
  claim : Int
  by_ : Int
@[reducible] def enc_share_quotient (x : share_quotient) : List Value := [.int .i64 x.claim, .int .i64 x.by_]
theorem one_enc_share_quotient : ∀ x, (enc_share_quotient x).length = 2 ∧ ones (enc_share_quotient x) = true := fun _ => ⟨rfl, rfl⟩

structure api_Ratio where
  N : Int
  D : Int
@[reducible] def enc_api_Ratio (x : api_Ratio) : List Value := [.int .i64 x.N, .int .i64 x.D]
theorem one_enc_api_Ratio : ∀ x, (enc_api_Ratio x).length = 2 ∧ ones (enc_api_Ratio x) = true := fun _ => ⟨rfl, rfl⟩

theorem bt_161 : builtInfo Try.prog 161 = some ([.slice none 0 0, .int .i64 0, .int .i64 0], [(0, 1), (1, 1), (2, 1)]) := by kernel_rfl

theorem en_27 : En Try.prog 27 := En.of Try.func27 (by kernel_rfl) (by kernel_rfl)

theorem zr_88 : (Try.prog.info? 88).map (·.zero) = some (some (.agg #[.slice none 0 0, .int .i64 0])) := by kernel_rfl

theorem zr_26 : (Try.prog.info? 26).map (·.zero) = some (some (.agg #[.int .i64 0, .int .i64 0])) := by kernel_rfl

theorem fa_161_0 : ∀ (q : Addr) (w : World), (Instr.fieldAt 161 (.pointer (some q)) 0).run Try.prog w = .ok (.pointer (some (q.add 0))) w := fun _ _ => by kernel_rfl

theorem sc_53 : ScT Try.prog 53 := ⟨⟨_, Try.underlying53, trivial⟩, by kernel_rfl⟩

theorem fa_161_1 : ∀ (q : Addr) (w : World), (Instr.fieldAt 161 (.pointer (some q)) 1).run Try.prog w = .ok (.pointer (some (q.add 1))) w := fun _ _ => by kernel_rfl

theorem sc_3 : ScT Try.prog 3 := ⟨⟨_, Try.underlying3, trivial⟩, by kernel_rfl⟩

theorem sz_5 : (Try.prog.info? 5).map (·.size) = some 1 := by kernel_rfl

theorem sc_5 : ScT Try.prog 5 := ⟨⟨_, Try.underlying5, trivial⟩, by kernel_rfl⟩

theorem follows_mx : Try.prog.follows .mixedOrders = true := by kernel_rfl

theorem fa_161_2 : ∀ (q : Addr) (w : World), (Instr.fieldAt 161 (.pointer (some q)) 2).run Try.prog w = .ok (.pointer (some (q.add 2))) w := fun _ _ => by kernel_rfl

theorem sz_3 : (Try.prog.info? 3).map (·.size) = some 1 := by kernel_rfl

theorem en_29 : En Try.prog 29 := En.of Try.func29 (by kernel_rfl) (by kernel_rfl)

theorem bt_88 : builtInfo Try.prog 88 = some ([.slice none 0 0, .int .i64 0], [(0, 1), (1, 1)]) := by kernel_rfl

theorem sz_88 : (Try.prog.info? 88).map (·.size) = some 2 := by kernel_rfl

theorem en_28 : En Try.prog 28 := En.of Try.func28 (by kernel_rfl) (by kernel_rfl)

theorem fa_88_0 : ∀ (q : Addr) (w : World), (Instr.fieldAt 88 (.pointer (some q)) 0).run Try.prog w = .ok (.pointer (some (q.add 0))) w := fun _ _ => by kernel_rfl

theorem sc_86 : ScT Try.prog 86 := ⟨⟨_, Try.underlying86, trivial⟩, by kernel_rfl⟩

theorem bt_116 : builtInfo Try.prog 116 = some ([.int .i64 0, .int .i64 0], [(0, 1), (1, 1)]) := by kernel_rfl

theorem sl_86 : SlT Try.prog 86 116 2 16 (.agg #[.int .i64 0, .int .i64 0]) := SlT.of Try.underlying86 (by kernel_rfl) (by decide)

theorem sz_86 : (Try.prog.info? 86).map (·.size) = some 1 := by kernel_rfl

theorem bt_26 : builtInfo Try.prog 26 = some ([.int .i64 0, .int .i64 0], [(0, 1), (1, 1)]) := by kernel_rfl

theorem sz_26 : (Try.prog.info? 26).map (·.size) = some 2 := by kernel_rfl

theorem ag_26 : AggT Try.prog 26 2 := ⟨⟨_, Try.underlying26, trivial⟩, by kernel_rfl⟩

theorem en_60 : En Try.prog 60 := En.of Try.func60 (by kernel_rfl) (by kernel_rfl)

theorem bt_97 : builtInfo Try.prog 97 = some ([.int .i64 0, .int .i64 0], [(0, 1), (1, 1)]) := by kernel_rfl

theorem zr_97 : (Try.prog.info? 97).map (·.zero) = some (some (.agg #[.int .i64 0, .int .i64 0])) := by kernel_rfl

theorem sz_97 : (Try.prog.info? 97).map (·.size) = some 2 := by kernel_rfl

theorem fa_97_0 : ∀ (q : Addr) (w : World), (Instr.fieldAt 97 (.pointer (some q)) 0).run Try.prog w = .ok (.pointer (some (q.add 0))) w := fun _ _ => by kernel_rfl

theorem fa_97_1 : ∀ (q : Addr) (w : World), (Instr.fieldAt 97 (.pointer (some q)) 1).run Try.prog w = .ok (.pointer (some (q.add 1))) w := fun _ _ => by kernel_rfl

theorem bt_94 : builtInfo Try.prog 94 = some ([.int .i64 0, .int .i64 0, .int .i64 0, .int .i64 0, .bool false], [(0, 2), (2, 2), (4, 1)]) := by kernel_rfl

theorem sl_89 : SlT Try.prog 89 94 5 40 (.agg #[.int .i64 0, .int .i64 0, .int .i64 0, .int .i64 0, .bool false]) := SlT.of Try.underlying89 (by kernel_rfl) (by decide)

theorem ag_97 : AggT Try.prog 97 2 := ⟨⟨_, Try.underlying97, trivial⟩, by kernel_rfl⟩

theorem sl_90 : SlT Try.prog 90 97 2 16 (.agg #[.int .i64 0, .int .i64 0]) := SlT.of Try.underlying90 (by kernel_rfl) (by decide)

theorem ag_88 : AggT Try.prog 88 2 := ⟨⟨_, Try.underlying88, trivial⟩, by kernel_rfl⟩

theorem en_59 : En Try.prog 59 := En.of Try.func59 (by kernel_rfl) (by kernel_rfl)

theorem en_70 : En Try.prog 70 := En.of Try.func70 (by kernel_rfl) (by kernel_rfl)

theorem sz_116 : (Try.prog.info? 116).map (·.size) = some 2 := by kernel_rfl

theorem ag_116 : AggT Try.prog 116 2 := ⟨⟨_, Try.underlying116, trivial⟩, by kernel_rfl⟩

theorem sc_182 : ScT Try.prog 182 := ⟨⟨_, Try.underlying182, trivial⟩, by kernel_rfl⟩

theorem fa_116_0 : ∀ (q : Addr) (w : World), (Instr.fieldAt 116 (.pointer (some q)) 0).run Try.prog w = .ok (.pointer (some (q.add 0))) w := fun _ _ => by kernel_rfl

theorem en_73 : En Try.prog 73 := En.of Try.func73 (by kernel_rfl) (by kernel_rfl)

theorem fa_116_1 : ∀ (q : Addr) (w : World), (Instr.fieldAt 116 (.pointer (some q)) 1).run Try.prog w = .ok (.pointer (some (q.add 1))) w := fun _ _ => by kernel_rfl

theorem en_96 : En Try.prog 96 := En.of Try.func96 (by kernel_rfl) (by kernel_rfl)

theorem en_124 : En Try.prog 124 := En.of Try.func124 (by kernel_rfl) (by kernel_rfl)

theorem en_125 : En Try.prog 125 := En.of Try.func125 (by kernel_rfl) (by kernel_rfl)

theorem en_123 : En Try.prog 123 := En.of Try.func123 (by kernel_rfl) (by kernel_rfl)

theorem en_95 : En Try.prog 95 := En.of Try.func95 (by kernel_rfl) (by kernel_rfl)

theorem fa_88_1 : ∀ (q : Addr) (w : World), (Instr.fieldAt 88 (.pointer (some q)) 1).run Try.prog w = .ok (.pointer (some (q.add 1))) w := fun _ _ => by kernel_rfl

theorem zr_116 : (Try.prog.info? 116).map (·.zero) = some (some (.agg #[.int .i64 0, .int .i64 0])) := by kernel_rfl

theorem en_47 : En Try.prog 47 := En.of Try.func47 (by kernel_rfl) (by kernel_rfl)

theorem fa_26_0 : ∀ (q : Addr) (w : World), (Instr.fieldAt 26 (.pointer (some q)) 0).run Try.prog w = .ok (.pointer (some (q.add 0))) w := fun _ _ => by kernel_rfl

theorem fa_26_1 : ∀ (q : Addr) (w : World), (Instr.fieldAt 26 (.pointer (some q)) 1).run Try.prog w = .ok (.pointer (some (q.add 1))) w := fun _ _ => by kernel_rfl

theorem sz_94 : (Try.prog.info? 94).map (·.size) = some 5 := by kernel_rfl

theorem ag_94 : AggT Try.prog 94 5 := ⟨⟨_, Try.underlying94, trivial⟩, by kernel_rfl⟩

theorem sc_212 : ScT Try.prog 212 := ⟨⟨_, Try.underlying212, trivial⟩, by kernel_rfl⟩

theorem fa_94_0 : ∀ (q : Addr) (w : World), (Instr.fieldAt 94 (.pointer (some q)) 0).run Try.prog w = .ok (.pointer (some (q.add 0))) w := fun _ _ => by kernel_rfl

theorem en_77 : En Try.prog 77 := En.of Try.func77 (by kernel_rfl) (by kernel_rfl)

theorem fa_94_1 : ∀ (q : Addr) (w : World), (Instr.fieldAt 94 (.pointer (some q)) 1).run Try.prog w = .ok (.pointer (some (q.add 2))) w := fun _ _ => by kernel_rfl

theorem en_128 : En Try.prog 128 := En.of Try.func128 (by kernel_rfl) (by kernel_rfl)

theorem en_147 : En Try.prog 147 := En.of Try.func147 (by kernel_rfl) (by kernel_rfl)

theorem en_156 : En Try.prog 156 := En.of Try.func156 (by kernel_rfl) (by kernel_rfl)

theorem en_146 : En Try.prog 146 := En.of Try.func146 (by kernel_rfl) (by kernel_rfl)

theorem en_127 : En Try.prog 127 := En.of Try.func127 (by kernel_rfl) (by kernel_rfl)

theorem en_99 : En Try.prog 99 := En.of Try.func99 (by kernel_rfl) (by kernel_rfl)

theorem zr_213 : (Try.prog.info? 213).map (·.zero) = some (some (.map none)) := by kernel_rfl

theorem sz_213 : (Try.prog.info? 213).map (·.size) = some 1 := by kernel_rfl

theorem en_100 : En Try.prog 100 := En.of Try.func100 (by kernel_rfl) (by kernel_rfl)

theorem zr_192 : (Try.prog.info? 192).map (·.zero) = some (some (.agg #[.nilFunc, .nilFunc])) := by kernel_rfl

theorem bt_192 : builtInfo Try.prog 192 = some ([.nilFunc, .nilFunc], [(0, 1), (1, 1)]) := by kernel_rfl

theorem sz_192 : (Try.prog.info? 192).map (·.size) = some 2 := by kernel_rfl

theorem ag_192 : AggT Try.prog 192 2 := ⟨⟨_, Try.underlying192, trivial⟩, by kernel_rfl⟩

theorem en_103 : En Try.prog 103 := En.of Try.func103 (by kernel_rfl) (by kernel_rfl)

theorem en_104 : En Try.prog 104 := En.of Try.func104 (by kernel_rfl) (by kernel_rfl)

theorem zr_94 : (Try.prog.info? 94).map (·.zero) = some (some (.agg #[.int .i64 0, .int .i64 0, .int .i64 0, .int .i64 0, .bool false])) := by kernel_rfl

theorem fa_192_0 : ∀ (q : Addr) (w : World), (Instr.fieldAt 192 (.pointer (some q)) 0).run Try.prog w = .ok (.pointer (some (q.add 0))) w := fun _ _ => by kernel_rfl

theorem sc_190 : ScT Try.prog 190 := ⟨⟨_, Try.underlying190, trivial⟩, by kernel_rfl⟩

theorem en_130 : En Try.prog 130 := En.of Try.func130 (by kernel_rfl) (by kernel_rfl)

theorem fa_192_1 : ∀ (q : Addr) (w : World), (Instr.fieldAt 192 (.pointer (some q)) 1).run Try.prog w = .ok (.pointer (some (q.add 1))) w := fun _ _ => by kernel_rfl

theorem en_131 : En Try.prog 131 := En.of Try.func131 (by kernel_rfl) (by kernel_rfl)

theorem fa_94_2 : ∀ (q : Addr) (w : World), (Instr.fieldAt 94 (.pointer (some q)) 2).run Try.prog w = .ok (.pointer (some (q.add 4))) w := fun _ _ => by kernel_rfl

theorem sc_4 : ScT Try.prog 4 := ⟨⟨_, Try.underlying4, trivial⟩, by kernel_rfl⟩

theorem sc_213 : ScT Try.prog 213 := ⟨⟨_, Try.underlying213, trivial⟩, by kernel_rfl⟩

theorem zr_3 : (Try.prog.info? 3).map (·.zero) = some (some (.int .i64 0)) := by kernel_rfl

theorem en_126 : En Try.prog 126 := En.of Try.func126 (by kernel_rfl) (by kernel_rfl)

theorem en_97 : En Try.prog 97 := En.of Try.func97 (by kernel_rfl) (by kernel_rfl)

theorem en_129 : En Try.prog 129 := En.of Try.func129 (by kernel_rfl) (by kernel_rfl)

theorem en_132 : En Try.prog 132 := En.of Try.func132 (by kernel_rfl) (by kernel_rfl)

theorem en_133 : En Try.prog 133 := En.of Try.func133 (by kernel_rfl) (by kernel_rfl)

theorem sl_41 : SlT Try.prog 41 26 2 16 (.agg #[.int .i64 0, .int .i64 0]) := SlT.of Try.underlying41 (by kernel_rfl) (by decide)

theorem en_54 : En Try.prog 54 := En.of Try.func54 (by kernel_rfl) (by kernel_rfl)

theorem en_44 : En Try.prog 44 := En.of Try.func44 (by kernel_rfl) (by kernel_rfl)

theorem en_45 : En Try.prog 45 := En.of Try.func45 (by kernel_rfl) (by kernel_rfl)

theorem sl_36 : SlT Try.prog 36 3 1 8 (.int .i64 0) := SlT.of Try.underlying36 (by kernel_rfl) (by decide)

theorem en_52 : En Try.prog 52 := En.of Try.func52 (by kernel_rfl) (by kernel_rfl)

theorem en_50 : En Try.prog 50 := En.of Try.func50 (by kernel_rfl) (by kernel_rfl)

theorem ge_26 : Try.prog.eqGuardType Try.prog.depth 26 = false := by kernel_rfl

theorem eqs_26 (x0 : Int) (x1 : Int) (y0 : Int) (y1 : Int) (w : World) : (Op.equalIn 10000 26 (.agg #[.int .i64 x0, .int .i64 x1]) (.agg #[.int .i64 y0, .int .i64 y1])).run Try.prog w = .ok (x0 == y0 && x1 == y1) w := by
  rw [run_equalIn_agg w 9999 26 _ _ (by kernel_rfl) (by kernel_rfl)]
  simp [Op.eqFields, part, go_sem]
  repeat' split
  all_goals simp_all

theorem en_23 : En Try.prog 23 := En.of Try.func23 (by kernel_rfl) (by kernel_rfl)

theorem zr_24 : (Try.prog.info? 24).map (·.zero) = some (some (.agg #[.int .i64 0, .slice none 0 0])) := by kernel_rfl

theorem bt_51 : builtInfo Try.prog 51 = some ([.int .i64 0, .int .i64 0, .int .i64 0], [(0, 1), (1, 1), (2, 1)]) := by kernel_rfl

theorem sl_22 : SlT Try.prog 22 51 3 24 (.agg #[.int .i64 0, .int .i64 0, .int .i64 0]) := SlT.of Try.underlying22 (by kernel_rfl) (by decide)

theorem bt_24 : builtInfo Try.prog 24 = some ([.int .i64 0, .slice none 0 0], [(0, 1), (1, 1)]) := by kernel_rfl

theorem sz_24 : (Try.prog.info? 24).map (·.size) = some 2 := by kernel_rfl

theorem ag_24 : AggT Try.prog 24 2 := ⟨⟨_, Try.underlying24, trivial⟩, by kernel_rfl⟩

theorem en_67 : En Try.prog 67 := En.of Try.func67 (by kernel_rfl) (by kernel_rfl)

theorem fa_24_0 : ∀ (q : Addr) (w : World), (Instr.fieldAt 24 (.pointer (some q)) 0).run Try.prog w = .ok (.pointer (some (q.add 0))) w := fun _ _ => by kernel_rfl

theorem fa_24_1 : ∀ (q : Addr) (w : World), (Instr.fieldAt 24 (.pointer (some q)) 1).run Try.prog w = .ok (.pointer (some (q.add 1))) w := fun _ _ => by kernel_rfl

theorem sc_22 : ScT Try.prog 22 := ⟨⟨_, Try.underlying22, trivial⟩, by kernel_rfl⟩

theorem sz_51 : (Try.prog.info? 51).map (·.size) = some 3 := by kernel_rfl

theorem ag_51 : AggT Try.prog 51 3 := ⟨⟨_, Try.underlying51, trivial⟩, by kernel_rfl⟩

theorem sc_147 : ScT Try.prog 147 := ⟨⟨_, Try.underlying147, trivial⟩, by kernel_rfl⟩

theorem fa_51_0 : ∀ (q : Addr) (w : World), (Instr.fieldAt 51 (.pointer (some q)) 0).run Try.prog w = .ok (.pointer (some (q.add 0))) w := fun _ _ => by kernel_rfl

theorem fa_51_1 : ∀ (q : Addr) (w : World), (Instr.fieldAt 51 (.pointer (some q)) 1).run Try.prog w = .ok (.pointer (some (q.add 1))) w := fun _ _ => by kernel_rfl

theorem fa_51_2 : ∀ (q : Addr) (w : World), (Instr.fieldAt 51 (.pointer (some q)) 2).run Try.prog w = .ok (.pointer (some (q.add 2))) w := fun _ _ => by kernel_rfl

theorem en_72 : En Try.prog 72 := En.of Try.func72 (by kernel_rfl) (by kernel_rfl)

theorem en_116 : En Try.prog 116 := En.of Try.func116 (by kernel_rfl) (by kernel_rfl)

theorem en_144 : En Try.prog 144 := En.of Try.func144 (by kernel_rfl) (by kernel_rfl)

theorem en_115 : En Try.prog 115 := En.of Try.func115 (by kernel_rfl) (by kernel_rfl)

theorem en_71 : En Try.prog 71 := En.of Try.func71 (by kernel_rfl) (by kernel_rfl)

theorem en_15 : En Try.prog 15 := En.of Try.func15 (by kernel_rfl) (by kernel_rfl)

theorem bt_156 : builtInfo Try.prog 156 = some ((catc [.int .i64 0, .slice none 0 0] 12 encI_i64 (fun _ => 0) []), [(0, 2), (2, 12)]) := by kernel_rfl

theorem zr_153 : (Try.prog.info? 153).map (·.zero) = some (some (.pointer none)) := by kernel_rfl

theorem sz_153 : (Try.prog.info? 153).map (·.size) = some 1 := by kernel_rfl

theorem sc_153 : ScT Try.prog 153 := ⟨⟨_, Try.underlying153, trivial⟩, by kernel_rfl⟩

theorem en_79 : En Try.prog 79 := En.of Try.func79 (by kernel_rfl) (by kernel_rfl)

theorem fa_156_0 : ∀ (q : Addr) (w : World), (Instr.fieldAt 156 (.pointer (some q)) 0).run Try.prog w = .ok (.pointer (some (q.add 0))) w := fun _ _ => by kernel_rfl

theorem zr_51 : (Try.prog.info? 51).map (·.zero) = some (some (.agg #[.int .i64 0, .int .i64 0, .int .i64 0])) := by kernel_rfl

theorem fa_156_1 : ∀ (q : Addr) (w : World), (Instr.fieldAt 156 (.pointer (some q)) 1).run Try.prog w = .ok (.pointer (some (q.add 2))) w := fun _ _ => by kernel_rfl

theorem en_117 : En Try.prog 117 := En.of Try.func117 (by kernel_rfl) (by kernel_rfl)

theorem en_118 : En Try.prog 118 := En.of Try.func118 (by kernel_rfl) (by kernel_rfl)

theorem en_75 : En Try.prog 75 := En.of Try.func75 (by kernel_rfl) (by kernel_rfl)

theorem en_18 : En Try.prog 18 := En.of Try.func18 (by kernel_rfl) (by kernel_rfl)

theorem en_21 : En Try.prog 21 := En.of Try.func21 (by kernel_rfl) (by kernel_rfl)

theorem zr_29 : (Try.prog.info? 29).map (·.zero) = some (some (.int .i64 0)) := by kernel_rfl

theorem sz_29 : (Try.prog.info? 29).map (·.size) = some 1 := by kernel_rfl

theorem sc_29 : ScT Try.prog 29 := ⟨⟨_, Try.underlying29, trivial⟩, by kernel_rfl⟩

theorem en_24 : En Try.prog 24 := En.of Try.func24 (by kernel_rfl) (by kernel_rfl)

theorem en_68 : En Try.prog 68 := En.of Try.func68 (by kernel_rfl) (by kernel_rfl)

theorem en_20 : En Try.prog 20 := En.of Try.func20 (by kernel_rfl) (by kernel_rfl)

theorem bt_59 : builtInfo Try.prog 59 = some ([.int .i64 0, .int .i64 0, .slice none 0 0], [(0, 1), (1, 1), (2, 1)]) := by kernel_rfl

theorem fa_59_2 : ∀ (q : Addr) (w : World), (Instr.fieldAt 59 (.pointer (some q)) 2).run Try.prog w = .ok (.pointer (some (q.add 2))) w := fun _ _ => by kernel_rfl

theorem sc_36 : ScT Try.prog 36 := ⟨⟨_, Try.underlying36, trivial⟩, by kernel_rfl⟩

theorem fa_59_0 : ∀ (q : Addr) (w : World), (Instr.fieldAt 59 (.pointer (some q)) 0).run Try.prog w = .ok (.pointer (some (q.add 0))) w := fun _ _ => by kernel_rfl

theorem fa_59_1 : ∀ (q : Addr) (w : World), (Instr.fieldAt 59 (.pointer (some q)) 1).run Try.prog w = .ok (.pointer (some (q.add 1))) w := fun _ _ => by kernel_rfl

theorem sc_146 : ScT Try.prog 146 := ⟨⟨_, Try.underlying146, trivial⟩, by kernel_rfl⟩

theorem en_120 : En Try.prog 120 := En.of Try.func120 (by kernel_rfl) (by kernel_rfl)

theorem en_145 : En Try.prog 145 := En.of Try.func145 (by kernel_rfl) (by kernel_rfl)

theorem en_119 : En Try.prog 119 := En.of Try.func119 (by kernel_rfl) (by kernel_rfl)

theorem en_80 : En Try.prog 80 := En.of Try.func80 (by kernel_rfl) (by kernel_rfl)

theorem en_30 : En Try.prog 30 := En.of Try.func30 (by kernel_rfl) (by kernel_rfl)

theorem en_121 : En Try.prog 121 := En.of Try.func121 (by kernel_rfl) (by kernel_rfl)

theorem en_81 : En Try.prog 81 := En.of Try.func81 (by kernel_rfl) (by kernel_rfl)

theorem en_82 : En Try.prog 82 := En.of Try.func82 (by kernel_rfl) (by kernel_rfl)

theorem zr_165 : (Try.prog.info? 165).map (·.zero) = some (some (.agg #[.int .i64 0, .int .i64 0])) := by kernel_rfl

theorem bt_165 : builtInfo Try.prog 165 = some ([.int .i64 0, .int .i64 0], [(0, 1), (1, 1)]) := by kernel_rfl

theorem sz_165 : (Try.prog.info? 165).map (·.size) = some 2 := by kernel_rfl

theorem ag_165 : AggT Try.prog 165 2 := ⟨⟨_, Try.underlying165, trivial⟩, by kernel_rfl⟩

theorem en_83 : En Try.prog 83 := En.of Try.func83 (by kernel_rfl) (by kernel_rfl)

theorem ge_165 : Try.prog.eqGuardType Try.prog.depth 165 = false := by kernel_rfl

theorem eqs_165 (x0 : Int) (x1 : Int) (y0 : Int) (y1 : Int) (w : World) : (Op.equalIn 10000 165 (.agg #[.int .i64 x0, .int .i64 x1]) (.agg #[.int .i64 y0, .int .i64 y1])).run Try.prog w = .ok (x0 == y0 && x1 == y1) w := by
  rw [run_equalIn_agg w 9999 165 _ _ (by kernel_rfl) (by kernel_rfl)]
  simp [Op.eqFields, part, go_sem]
  repeat' split
  all_goals simp_all

theorem fa_165_0 : ∀ (q : Addr) (w : World), (Instr.fieldAt 165 (.pointer (some q)) 0).run Try.prog w = .ok (.pointer (some (q.add 0))) w := fun _ _ => by kernel_rfl

theorem fa_165_1 : ∀ (q : Addr) (w : World), (Instr.fieldAt 165 (.pointer (some q)) 1).run Try.prog w = .ok (.pointer (some (q.add 1))) w := fun _ _ => by kernel_rfl

theorem en_84 : En Try.prog 84 := En.of Try.func84 (by kernel_rfl) (by kernel_rfl)

theorem en_34 : En Try.prog 34 := En.of Try.func34 (by kernel_rfl) (by kernel_rfl)

theorem zr_71 : (Try.prog.info? 71).map (·.zero) = some (some (.agg #[.int .i64 0, .int .i64 0])) := by kernel_rfl

theorem en_122 : En Try.prog 122 := En.of Try.func122 (by kernel_rfl) (by kernel_rfl)

theorem en_88 : En Try.prog 88 := En.of Try.func88 (by kernel_rfl) (by kernel_rfl)

theorem bt_71 : builtInfo Try.prog 71 = some ([.int .i64 0, .int .i64 0], [(0, 1), (1, 1)]) := by kernel_rfl

theorem sz_71 : (Try.prog.info? 71).map (·.size) = some 2 := by kernel_rfl

theorem sl_171 : SlT Try.prog 171 165 2 16 (.agg #[.int .i64 0, .int .i64 0]) := SlT.of Try.underlying171 (by kernel_rfl) (by decide)

theorem en_90 : En Try.prog 90 := En.of Try.func90 (by kernel_rfl) (by kernel_rfl)

theorem ag_71 : AggT Try.prog 71 2 := ⟨⟨_, Try.underlying71, trivial⟩, by kernel_rfl⟩

theorem en_91 : En Try.prog 91 := En.of Try.func91 (by kernel_rfl) (by kernel_rfl)

theorem en_39 : En Try.prog 39 := En.of Try.func39 (by kernel_rfl) (by kernel_rfl)

theorem en_37 : En Try.prog 37 := En.of Try.func37 (by kernel_rfl) (by kernel_rfl)

theorem ge_71 : Try.prog.eqGuardType Try.prog.depth 71 = false := by kernel_rfl

theorem eqs_71 (x0 : Int) (x1 : Int) (y0 : Int) (y1 : Int) (w : World) : (Op.equalIn 10000 71 (.agg #[.int .i64 x0, .int .i64 x1]) (.agg #[.int .i64 y0, .int .i64 y1])).run Try.prog w = .ok (x0 == y0 && x1 == y1) w := by
  rw [run_equalIn_agg w 9999 71 _ _ (by kernel_rfl) (by kernel_rfl)]
  simp [Op.eqFields, part, go_sem]
  repeat' split
  all_goals simp_all

theorem en_13 : En Try.prog 13 := En.of Try.func13 (by kernel_rfl) (by kernel_rfl)

def kit_New (N : Nat) (bytes : List Int) : Option (Int × Int) :=
  some (0, 0)
theorem kit_New_ok {N : Nat} {G : Pers} {Lf : List Ent} {w : World} (bytes : List Int) {bytes_p : Option Addr} {bytes_c : Nat} (h_bytes : Rd G 1 bytes_p bytes_c (bytes.map encI_u8)) (hc : Ctx G (Lf) w) {res : Int × Int} (hF : kit_New N bytes = some res) : Calls Try.prog 27 #[.slice bytes_p bytes.length bytes_c] w (fun e w => ∃ (b'1 : Nat), e = .returned (.pointer (some ⟨b'1, 0, none⟩)) ∧ Ctx G (.box b'1 [.slice bytes_p bytes.length bytes_c, .int .i64 res.1, .int .i64 res.2] 161 :: Lf) w) := by
  unfold kit_New at hF
  refine fnIn (args := [.slice bytes_p bytes.length bytes_c]) Try.func27 rfl Try.ntmps27 rfl fun a hf => ?_
  refine wp_seq_k fun K1 h1 => ?_
  refine cReg ?_
  refine stP hf rfl rfl rfl (pA rfl) fun a hf => ?_
  refine cNil ?_
  refine h1 _ _ ?_
  refine wp_seq_k fun K2 h2 => ?_
  refine cReg ?_
  refine stP hf rfl rfl rfl (pM rfl) fun a hf => ?_
  refine stP hf rfl rfl rfl (pBuildS (cells := [.slice bytes_p bytes.length bytes_c, .int .i64 0, .int .i64 0]) bt_161 rfl rfl) fun a hf => ?_
  refine stBx (cs := [.slice bytes_p bytes.length bytes_c, .int .i64 0, .int .i64 0]) hf hc rfl rfl rfl rfl fun b_1 a w hf hc => ?_
  refine stP hf rfl rfl rfl (pA rfl) fun a hf => ?_
  refine cNil ?_
  refine h2 _ _ ?_
  refine wp_ret ?_
  obtain rfl := Option.some.inj hF
  exact fnOut1 (by simp) rfl Try.results27 hf hc (show look _ 2 = _ from rfl) ⟨b_1, rfl, hc⟩

def kit_Stream_Next_j9 (N : Nat) (s_ : kit_Stream) (n : Int) (b_2 : Int) (b_3 : Int) : Option (Int × Int × Int) :=
  Option.bind (nz n) fun un_1 =>
  some (b_3.tmod n, W (s_.used + 1), (W ((W ((W (5 * s_.mix)) + b_2)) + 1)).tmod 251)
def kit_Stream_Next_j6 (N : Nat) (s_ : kit_Stream) (n : Int) (b_2 : Int) : Option (Int × Int × Int) :=
  cond (decide (256 < n))
  (kit_Stream_Next_j9 N s_ n b_2 (W ((W (256 * b_2)) + ((W ((W ((W (5 * s_.mix)) + b_2)) + 1)).tmod 251))))
  (kit_Stream_Next_j9 N s_ n b_2 b_2)
def kit_Stream_Next (N : Nat) (s_ : kit_Stream) (n : Int) : Option (Int × Int × Int) :=
  cond ((decide (n < 2)) || (((s_.bytes.length : Nat) : Int) == 0))
  (some (0, s_.used, s_.mix))
  (Option.bind (nz ((s_.bytes.length : Nat) : Int)) fun un =>
  Option.bind (getI s_.bytes (s_.used.tmod ((s_.bytes.length : Nat) : Int))) fun e_1 =>
  cond (decide (((s_.bytes.length : Nat) : Int) ≤ s_.used))
  (Option.bind (nz ((s_.bytes.length : Nat) : Int)) fun un_2 =>
  kit_Stream_Next_j6 N s_ n (W ((W (e_1)) + (W ((W (11 * s_.mix)) + (W (s_.used.tdiv ((s_.bytes.length : Nat) : Int))))))))
  (kit_Stream_Next_j6 N s_ n (W (e_1))))
theorem kit_Stream_Next_ok {N : Nat} {G : Pers} {Lf : List Ent} {w : World} (s_ : kit_Stream) (n : Int) {b_ : Nat} {s__bytes_p : Option Addr} {s__bytes_c : Nat} (h_s__bytes : Rd G 1 s__bytes_p s__bytes_c (s_.bytes.map encI_u8)) (hc : Ctx G (.box b_ [.slice s__bytes_p s_.bytes.length s__bytes_c, .int .i64 s_.used, .int .i64 s_.mix] 161 :: Lf) w) {res : Int × Int × Int} (hF : kit_Stream_Next N s_ n = some res) : Calls Try.prog 29 #[.pointer (some ⟨b_, 0, none⟩), .int .i64 n] w (fun e w => e = .returned (.int .i64 res.1) ∧ Ctx G (.box b_ [.slice s__bytes_p s_.bytes.length s__bytes_c, .int .i64 res.2.1, .int .i64 res.2.2] 161 :: Lf) w) := by
  unfold kit_Stream_Next at hF
  refine fnIn (args := [.pointer (some ⟨b_, 0, none⟩), .int .i64 n]) Try.func29 rfl Try.ntmps29 rfl fun a hf => ?_
  refine wp_seq_k fun K1 h1 => ?_
  refine cReg ?_
  refine stP hf rfl rfl rfl (pA rfl) fun a hf => ?_
  refine cNil ?_
  refine h1 _ _ ?_
  refine wp_seq_k fun K2 h2 => ?_
  refine wp_seq_k fun K3 h3 => ?_
  refine cReg ?_
  refine stP hf rfl rfl rfl (pM rfl) fun a hf => ?_
  refine stP hf rfl rfl rfl (pLt rfl rfl) fun a hf => ?_
  refine stP hf rfl rfl rfl (pM rfl) fun a hf => ?_
  refine stCut 7 (fun a w => Has 92 a [(0, .pointer (some ⟨b_, 0, none⟩)), (1, .int .i64 n), (6, .int .i64 n), (7, .bool (decide (n < 2))), (8, .bool (decide (n < 2))), (15, .bool ((decide (n < 2)) || (((s_.bytes.length : Nat) : Int) == 0)))] ∧ Ctx G (.box b_ [.slice s__bytes_p s_.bytes.length s__bytes_c, .int .i64 s_.used, .int .i64 s_.mix] 161 :: Lf) w) ?_ ?_
  · cases hb : (decide (n < 2))
    · rw [hb] at hf
      refine stP hf rfl rfl rfl (pM rfl) fun a hf => ?_
      refine stP hf rfl rfl rfl (pNC rfl) fun a hf => ?_
      refine stP hf rfl rfl rfl (pFA fa_161_0 rfl) fun a hf => ?_
      refine stE hf hc rfl rfl rfl (eLd1 sc_53 rfl (cell_box m0 rfl)) fun a w hf hc => ?_
      refine stP hf rfl rfl rfl (pLenS Try.underlying53 rfl) fun a hf => ?_
      refine stP hf rfl rfl rfl (pEq rfl rfl) fun a hf => ?_
      refine stP hf rfl rfl rfl (pPf rfl rfl) fun a hf => ?_
      exact cNil ⟨hf.keep ⟨rfl, rfl, rfl, rfl, rfl, rfl, trivial⟩, hc⟩
    · rw [hb] at hf
      refine stS hf rfl rfl rfl fun a hf => ?_
      refine stS hf rfl rfl rfl fun a hf => ?_
      refine stS hf rfl rfl rfl fun a hf => ?_
      refine stS hf rfl rfl rfl fun a hf => ?_
      refine stS hf rfl rfl rfl fun a hf => ?_
      refine stS hf rfl rfl rfl fun a hf => ?_
      refine stP hf rfl rfl rfl (pPt rfl rfl) fun a hf => ?_
      exact cNil ⟨hf.keep ⟨rfl, rfl, rfl, rfl, rfl, rfl, trivial⟩, hc⟩
  intro a w ⟨hf, hc⟩
  refine cNil ?_
  refine h3 _ _ ?_
  refine cCond (b := ((decide (n < 2)) || (((s_.bytes.length : Nat) : Int) == 0))) hf rfl (fun hb => ?_) (fun hb => ?_)
  · replace hF := condT hb hF
    clear hb
    refine wp_seq_k fun K4 h4 => ?_
    refine cReg ?_
    refine stP hf rfl rfl rfl (pA rfl) fun a hf => ?_
    refine cNil ?_
    refine h4 _ _ ?_
    refine wp_ret ?_
    refine xThenR ?_
    obtain rfl := Option.some.inj hF
    exact fnOut1 (by simp) rfl Try.results29 hf hc (show look _ 4 = _ from rfl) ⟨rfl, hc⟩
  · replace hF := condF hb hF
    clear hb
    refine wp_skip ?_
    refine h2 _ _ ?_
    refine wp_seq_k fun K5 h5 => ?_
    obtain ⟨un, hun, hF⟩ := bnd_some hF
    obtain ⟨e_1, he_1, hF⟩ := bnd_some hF
    obtain ⟨b_1, o, qa, qp⟩ := h_s__bytes.atm he_1
    refine cQ hc follows_mx (by kernel_rfl) ?_
    refine qE hf rfl rfl rfl (Pu.ev (pM rfl)) fun a hf => ?_
    refine qE hf rfl rfl rfl (Pu.ev (pNC rfl)) fun a hf => ?_
    refine qE hf rfl rfl rfl (Pu.ev (pFA fa_161_0 rfl)) fun a hf => ?_
    refine qE hf rfl rfl rfl (eLd1 sc_53 rfl (cell_box m0 rfl)) fun a hf => ?_
    refine qE hf rfl rfl rfl (Pu.ev (pM rfl)) fun a hf => ?_
    refine qE hf rfl rfl rfl (Pu.ev (pNC rfl)) fun a hf => ?_
    refine qE hf rfl rfl rfl (Pu.ev (pFA fa_161_1 rfl)) fun a hf => ?_
    refine qE hf rfl rfl rfl (eLd1 sc_3 rfl (cell_box m0 rfl)) fun a hf => ?_
    refine qE hf rfl rfl rfl (Pu.ev (pM rfl)) fun a hf => ?_
    refine qE hf rfl rfl rfl (Pu.ev (pNC rfl)) fun a hf => ?_
    refine qE hf rfl rfl rfl (Pu.ev (pFA fa_161_0 rfl)) fun a hf => ?_
    refine qE hf rfl rfl rfl (eLd1 sc_53 rfl (cell_box m0 rfl)) fun a hf => ?_
    refine qE hf rfl rfl rfl (Pu.ev (pLenS Try.underlying53 rfl)) fun a hf => ?_
    refine qE hf rfl rfl rfl (Pu.ev (pRem rfl rfl (nz_spec hun))) fun a hf => ?_
    refine qE hf rfl rfl rfl (Pu.ev (pIA Try.underlying53 sz_5 rfl rfl qa)) fun a hf => ?_
    refine qE hf rfl rfl rfl (eLd1 sc_5 rfl (cell_pc (j := 0) qp rfl)) fun a hf => ?_
    refine qE hf rfl rfl rfl (Pu.ev (pCv Try.underlying5 Try.underlying3 rfl)) fun a hf => ?_
    refine qE hf rfl rfl rfl (Pu.ev (pA rfl)) fun a hf => ?_
    intro w hc
    refine h5 _ _ ?_
    refine wp_seq_k fun K6 h6 => ?_
    have hj6 : ∀ (b_2 : Int) a w, Has 92 a [(0, .pointer (some ⟨b_, 0, none⟩)), (1, .int .i64 n), (5, .int .i64 b_2)] → Ctx G (.box b_ [.slice s__bytes_p s_.bytes.length s__bytes_c, .int .i64 s_.used, .int .i64 s_.mix] 161 :: Lf) w → kit_Stream_Next_j6 N s_ n b_2 = some res → K6 a w := by
      intro b_2 a w hf hc hF
      unfold kit_Stream_Next_j6 at hF
      refine h6 _ _ ?_
      refine wp_seq_k fun K7 h7 => ?_
      refine cReg ?_
      refine stP hf rfl rfl rfl (pM rfl) fun a hf => ?_
      refine stP hf rfl rfl rfl (pM rfl) fun a hf => ?_
      refine stP hf rfl rfl rfl (pNC rfl) fun a hf => ?_
      refine stP hf rfl rfl rfl (pFA fa_161_2 rfl) fun a hf => ?_
      refine stE hf hc rfl rfl rfl (eLd1 sc_3 rfl (cell_box m0 rfl)) fun a w hf hc => ?_
      refine stP hf rfl rfl rfl (pMul rfl rfl) fun a hf => ?_
      refine stP hf rfl rfl rfl (pM rfl) fun a hf => ?_
      refine stP hf rfl rfl rfl (pAdd rfl rfl) fun a hf => ?_
      refine stP hf rfl rfl rfl (pAdd rfl rfl) fun a hf => ?_
      refine stP hf rfl rfl rfl (pRem rfl rfl (by decide)) fun a hf => ?_
      refine stP hf rfl rfl rfl (pNC rfl) fun a hf => ?_
      refine stP hf rfl rfl rfl (pFA fa_161_2 rfl) fun a hf => ?_
      refine stSt (vs := [.int .i64 ((W ((W ((W (5 * s_.mix)) + b_2)) + 1)).tmod 251)]) hf hc rfl rfl rfl rfl sz_3 rfl rfl u0 fun w hc => ?_
      refine cNil ?_
      refine h7 _ _ ?_
      refine wp_seq_k fun K8 h8 => ?_
      refine cReg ?_
      refine stP hf rfl rfl rfl (pM rfl) fun a hf => ?_
      refine stP hf rfl rfl rfl (pNC rfl) fun a hf => ?_
      refine stP hf rfl rfl rfl (pFA fa_161_1 rfl) fun a hf => ?_
      refine stE hf hc rfl rfl rfl (eLd1 sc_3 rfl (cell_box m0 rfl)) fun a w hf hc => ?_
      refine stP hf rfl rfl rfl (pAdd rfl rfl) fun a hf => ?_
      refine stP hf rfl rfl rfl (pNC rfl) fun a hf => ?_
      refine stP hf rfl rfl rfl (pFA fa_161_1 rfl) fun a hf => ?_
      refine stSt (vs := [.int .i64 (W (s_.used + 1))]) hf hc rfl rfl rfl rfl sz_3 rfl rfl u0 fun w hc => ?_
      refine cNil ?_
      refine h8 _ _ ?_
      refine wp_seq_k fun K9 h9 => ?_
      have hj9 : ∀ (b_3 : Int) a w, Has 92 a [(1, .int .i64 n), (5, .int .i64 b_3)] → Ctx G (.box b_ [.slice s__bytes_p s_.bytes.length s__bytes_c, .int .i64 (W (s_.used + 1)), .int .i64 ((W ((W ((W (5 * s_.mix)) + b_2)) + 1)).tmod 251)] 161 :: Lf) w → kit_Stream_Next_j9 N s_ n b_2 b_3 = some res → K9 a w := by
        intro b_3 a w hf hc hF
        unfold kit_Stream_Next_j9 at hF
        refine h9 _ _ ?_
        refine wp_seq_k fun K10 h10 => ?_
        refine cReg ?_
        refine stP hf rfl rfl rfl (pM rfl) fun a hf => ?_
        refine stP hf rfl rfl rfl (pM rfl) fun a hf => ?_
        obtain ⟨un_1, hun_1, hF⟩ := bnd_some hF
        refine stP hf rfl rfl rfl (pRem rfl rfl (nz_spec hun_1)) fun a hf => ?_
        refine stP hf rfl rfl rfl (pA rfl) fun a hf => ?_
        refine cNil ?_
        refine h10 _ _ ?_
        refine wp_ret ?_
        obtain rfl := Option.some.inj hF
        exact fnOut1 (by simp) rfl Try.results29 hf hc (show look _ 4 = _ from rfl) ⟨rfl, hc⟩
      refine wp_seq_k fun K11 h11 => ?_
      refine cReg ?_
      refine stP hf rfl rfl rfl (pM rfl) fun a hf => ?_
      refine stP hf rfl rfl rfl (pGt rfl rfl) fun a hf => ?_
      refine cNil ?_
      refine h11 _ _ ?_
      refine cCond (b := (decide (256 < n))) hf rfl (fun hb => ?_) (fun hb => ?_)
      · replace hF := condT hb hF
        clear hb
        refine cReg ?_
        refine stP hf rfl rfl rfl (pM rfl) fun a hf => ?_
        refine stP hf rfl rfl rfl (pMul rfl rfl) fun a hf => ?_
        refine stP hf rfl rfl rfl (pM rfl) fun a hf => ?_
        refine stP hf rfl rfl rfl (pNC rfl) fun a hf => ?_
        refine stP hf rfl rfl rfl (pFA fa_161_2 rfl) fun a hf => ?_
        refine stE hf hc rfl rfl rfl (eLd1 sc_3 rfl (cell_box m0 rfl)) fun a w hf hc => ?_
        refine stP hf rfl rfl rfl (pAdd rfl rfl) fun a hf => ?_
        refine stP hf rfl rfl rfl (pA rfl) fun a hf => ?_
        refine cNil ?_
        exact hj9 (W ((W (256 * b_2)) + ((W ((W ((W (5 * s_.mix)) + b_2)) + 1)).tmod 251))) _ _  (hf.keep ⟨rfl, rfl, trivial⟩) hc hF
      · replace hF := condF hb hF
        clear hb
        refine wp_skip ?_
        exact hj9 b_2 _ _  (hf.keep ⟨rfl, rfl, trivial⟩) hc hF
    refine wp_seq_k fun K12 h12 => ?_
    refine cQ hc follows_mx (by kernel_rfl) ?_
    refine qE hf rfl rfl rfl (Pu.ev (pM rfl)) fun a hf => ?_
    refine qE hf rfl rfl rfl (Pu.ev (pNC rfl)) fun a hf => ?_
    refine qE hf rfl rfl rfl (Pu.ev (pFA fa_161_1 rfl)) fun a hf => ?_
    refine qE hf rfl rfl rfl (eLd1 sc_3 rfl (cell_box m0 rfl)) fun a hf => ?_
    refine qE hf rfl rfl rfl (Pu.ev (pM rfl)) fun a hf => ?_
    refine qE hf rfl rfl rfl (Pu.ev (pNC rfl)) fun a hf => ?_
    refine qE hf rfl rfl rfl (Pu.ev (pFA fa_161_0 rfl)) fun a hf => ?_
    refine qE hf rfl rfl rfl (eLd1 sc_53 rfl (cell_box m0 rfl)) fun a hf => ?_
    refine qE hf rfl rfl rfl (Pu.ev (pLenS Try.underlying53 rfl)) fun a hf => ?_
    refine qE hf rfl rfl rfl (Pu.ev (pGe rfl rfl)) fun a hf => ?_
    intro w hc
    refine h12 _ _ ?_
    refine cCond (b := (decide (((s_.bytes.length : Nat) : Int) ≤ s_.used))) hf rfl (fun hb => ?_) (fun hb => ?_)
    · replace hF := condT hb hF
      clear hb
      obtain ⟨un_2, hun_2, hF⟩ := bnd_some hF
      refine cQ hc follows_mx (by kernel_rfl) ?_
      refine qE hf rfl rfl rfl (Pu.ev (pM rfl)) fun a hf => ?_
      refine qE hf rfl rfl rfl (Pu.ev (pM rfl)) fun a hf => ?_
      refine qE hf rfl rfl rfl (Pu.ev (pNC rfl)) fun a hf => ?_
      refine qE hf rfl rfl rfl (Pu.ev (pFA fa_161_2 rfl)) fun a hf => ?_
      refine qE hf rfl rfl rfl (eLd1 sc_3 rfl (cell_box m0 rfl)) fun a hf => ?_
      refine qE hf rfl rfl rfl (Pu.ev (pMul rfl rfl)) fun a hf => ?_
      refine qE hf rfl rfl rfl (Pu.ev (pM rfl)) fun a hf => ?_
      refine qE hf rfl rfl rfl (Pu.ev (pNC rfl)) fun a hf => ?_
      refine qE hf rfl rfl rfl (Pu.ev (pFA fa_161_1 rfl)) fun a hf => ?_
      refine qE hf rfl rfl rfl (eLd1 sc_3 rfl (cell_box m0 rfl)) fun a hf => ?_
      refine qE hf rfl rfl rfl (Pu.ev (pM rfl)) fun a hf => ?_
      refine qE hf rfl rfl rfl (Pu.ev (pNC rfl)) fun a hf => ?_
      refine qE hf rfl rfl rfl (Pu.ev (pFA fa_161_0 rfl)) fun a hf => ?_
      refine qE hf rfl rfl rfl (eLd1 sc_53 rfl (cell_box m0 rfl)) fun a hf => ?_
      refine qE hf rfl rfl rfl (Pu.ev (pLenS Try.underlying53 rfl)) fun a hf => ?_
      refine qE hf rfl rfl rfl (Pu.ev (pQuo rfl rfl (nz_spec hun_2))) fun a hf => ?_
      refine qE hf rfl rfl rfl (Pu.ev (pAdd rfl rfl)) fun a hf => ?_
      refine qE hf rfl rfl rfl (Pu.ev (pAdd rfl rfl)) fun a hf => ?_
      refine qE hf rfl rfl rfl (Pu.ev (pA rfl)) fun a hf => ?_
      intro w hc
      exact hj6 (W ((W (e_1)) + (W ((W (11 * s_.mix)) + (W (s_.used.tdiv ((s_.bytes.length : Nat) : Int))))))) _ _  (hf.keep ⟨rfl, rfl, rfl, trivial⟩) hc hF
    · replace hF := condF hb hF
      clear hb
      refine wp_skip ?_
      exact hj6 (W (e_1)) _ _  (hf.keep ⟨rfl, rfl, rfl, trivial⟩) hc hF

def kit_Stream_Within (N : Nat) (s_ : kit_Stream) (lo : Int) (hi_ : Int) : Option (Int × Int × Int) :=
  Option.bind (kit_Stream_Next N s_ (W ((W (hi_ - lo)) + 1))) fun r =>
  some (W (lo + r.1), r.2.1, r.2.2)
theorem kit_Stream_Within_ok {N : Nat} {G : Pers} {Lf : List Ent} {w : World} (s_ : kit_Stream) (lo : Int) (hi_ : Int) {b_ : Nat} {s__bytes_p : Option Addr} {s__bytes_c : Nat} (h_s__bytes : Rd G 1 s__bytes_p s__bytes_c (s_.bytes.map encI_u8)) (hc : Ctx G (.box b_ [.slice s__bytes_p s_.bytes.length s__bytes_c, .int .i64 s_.used, .int .i64 s_.mix] 161 :: Lf) w) {res : Int × Int × Int} (hF : kit_Stream_Within N s_ lo hi_ = some res) : Calls Try.prog 28 #[.pointer (some ⟨b_, 0, none⟩), .int .i64 lo, .int .i64 hi_] w (fun e w => e = .returned (.int .i64 res.1) ∧ Ctx G (.box b_ [.slice s__bytes_p s_.bytes.length s__bytes_c, .int .i64 res.2.1, .int .i64 res.2.2] 161 :: Lf) w) := by
  unfold kit_Stream_Within at hF
  refine fnIn (args := [.pointer (some ⟨b_, 0, none⟩), .int .i64 lo, .int .i64 hi_]) Try.func28 rfl Try.ntmps28 rfl fun a hf => ?_
  refine wp_seq_k fun K1 h1 => ?_
  refine cReg ?_
  refine stP hf rfl rfl rfl (pA rfl) fun a hf => ?_
  refine cNil ?_
  refine h1 _ _ ?_
  refine wp_seq_k fun K2 h2 => ?_
  refine cReg ?_
  refine stP hf rfl rfl rfl (pM rfl) fun a hf => ?_
  refine stP hf rfl rfl rfl (pM rfl) fun a hf => ?_
  refine stP hf rfl rfl rfl (pM rfl) fun a hf => ?_
  refine stP hf rfl rfl rfl (pM rfl) fun a hf => ?_
  refine stP hf rfl rfl rfl (pSub rfl rfl) fun a hf => ?_
  refine stP hf rfl rfl rfl (pAdd rfl rfl) fun a hf => ?_
  obtain ⟨r, hr, hF⟩ := bnd_some hF
  refine stC (vs := [.pointer (some ⟨b_, 0, none⟩), .int .i64 (W ((W (hi_ - lo)) + 1))]) (caps := []) hf rfl rfl rfl en_29 rfl rfl rfl rfl (kit_Stream_Next_ok s_ (W ((W (hi_ - lo)) + 1)) h_s__bytes (hc.pick k0) hr) ?_
  rintro _ w ⟨rfl, hc⟩
  refine ⟨_, rfl, fun a hf => ?_⟩
  refine stP hf rfl rfl rfl (pAdd rfl rfl) fun a hf => ?_
  refine stP hf rfl rfl rfl (pA rfl) fun a hf => ?_
  refine cNil ?_
  refine h2 _ _ ?_
  refine wp_ret ?_
  obtain rfl := Option.some.inj hF
  exact fnOut1 (by simp) rfl Try.results28 hf hc (show look _ 6 = _ from rfl) ⟨rfl, hc⟩

def law09_span (N : Nat) (lo : Int) (hi_ : Int) : Option (api_Span) :=
  some (⟨lo, hi_⟩ : api_Span)
theorem law09_span_ok {N : Nat} {G : Pers} {Lf : List Ent} {w : World} (lo : Int) (hi_ : Int)   (hc : Ctx G (Lf) w) {res : api_Span} (hF : law09_span N lo hi_ = some res) : Calls Try.prog 60 #[.int .i64 lo, .int .i64 hi_] w (fun e w => e = .returned (.agg #[.int .i64 res.Lo, .int .i64 res.Hi]) ∧ Ctx G (Lf) w) := by
  unfold law09_span at hF
  refine fnIn (args := [.int .i64 lo, .int .i64 hi_]) Try.func60 rfl Try.ntmps60 rfl fun a hf => ?_
  refine wp_seq_k fun K1 h1 => ?_
  refine cReg ?_
  refine stAl (cs := [.int .i64 0, .int .i64 0]) hf hc rfl rfl zr_26 rfl fun b_1 a w hf hc => ?_
  refine cNil ?_
  refine h1 _ _ ?_
  refine wp_seq_k fun K2 h2 => ?_
  refine cReg ?_
  refine stP hf rfl rfl rfl (pM rfl) fun a hf => ?_
  refine stP hf rfl rfl rfl (pM rfl) fun a hf => ?_
  refine stP hf rfl rfl rfl (pBuildS (cells := [.int .i64 lo, .int .i64 hi_]) bt_26 rfl rfl) fun a hf => ?_
  refine stSt (vs := [.int .i64 lo, .int .i64 hi_]) hf hc rfl rfl rfl rfl sz_26 rfl rfl u0 fun w hc => ?_
  refine cNil ?_
  refine h2 _ _ ?_
  refine wp_ret ?_
  obtain rfl := Option.some.inj hF
  exact fnOut1 (by simp) rfl Try.results60 hf hc (rv_cellN (vs := [.int .i64 lo, .int .i64 hi_]) ag_26 rfl rfl (cells_box (n := 2) m0 rfl)) ⟨rfl, (hc.drop k0)⟩

def law09_Bordered_b13 (N : Nat) (s_ : kit_Stream) (r_7 : Int × Int × Int) (l : List share_Year) (truth : List share_Truth) (x_2 : Int) (b__2 : Int) (b__3 : Int) : Option (Step ((List share_Year) × (List share_Truth) × Int × Int × Int) (share_Border × api_Span × (List share_Year) × (List share_Truth) × Int × Int)) :=
  cond (decide (x_2 < r_7.1))
  (Option.bind (kit_Stream_Next N (⟨s_.bytes, b__2, b__3⟩ : kit_Stream) 200) fun r_8 =>
  Option.bind (kit_Stream_Next N (⟨s_.bytes, r_8.2.1, r_8.2.2⟩ : kit_Stream) 120) fun r_9 =>
  Option.bind (kit_Stream_Next N (⟨s_.bytes, r_9.2.1, r_9.2.2⟩ : kit_Stream) 20) fun r_10 =>
  Option.bind (kit_Stream_Next N (⟨s_.bytes, r_10.2.1, r_10.2.2⟩ : kit_Stream) 20) fun r_11 =>
  Option.bind (law09_span N (max 0 (W (r_8.1 - r_10.1))) (W (r_8.1 + r_11.1))) fun r_12 =>
  Option.bind (kit_Stream_Next N (⟨s_.bytes, r_11.2.1, r_11.2.2⟩ : kit_Stream) 9) fun r_13 =>
  Option.bind (kit_Stream_Next N (⟨s_.bytes, r_13.2.1, r_13.2.2⟩ : kit_Stream) 9) fun r_14 =>
  Option.bind (law09_span N (max 0 (W (r_9.1 - r_13.1))) (W (r_9.1 + r_14.1))) fun r_15 =>
  Option.bind (kit_Stream_Next N (⟨s_.bytes, r_14.2.1, r_14.2.2⟩ : kit_Stream) 9) fun r_16 =>
  Option.bind (room ((l ++ [(⟨r_12, r_15, (r_16.1 == 0)⟩ : share_Year)])).length) fun un =>
  Option.bind (room ((truth ++ [(⟨r_8.1, r_9.1⟩ : share_Truth)])).length) fun un_1 =>
  some (.cont ((l ++ [(⟨r_12, r_15, (r_16.1 == 0)⟩ : share_Year)]), (truth ++ [(⟨r_8.1, r_9.1⟩ : share_Truth)]), W (x_2 + 1), r_16.2.1, r_16.2.2)))
  (some (.brk (l, truth, x_2, b__2, b__3)))
def law09_Bordered_b6 (N : Nat) (s_ : kit_Stream) (r_3 : Int × Int × Int) (index : Int) (due : Int) (x : Int) (b__0 : Int) (b__1 : Int) (x_1 : List share_Point) : Option (Step (Int × Int × Int × Int × Int × (List share_Point)) (share_Border × api_Span × (List share_Year) × (List share_Truth) × Int × Int)) :=
  cond (decide (x < r_3.1))
  (Option.bind (room ((x_1 ++ [(⟨index, due⟩ : share_Point)])).length) fun un_2 =>
  Option.bind (kit_Stream_Within N (⟨s_.bytes, b__0, b__1⟩ : kit_Stream) 1 60) fun r_17 =>
  Option.bind (kit_Stream_Next N (⟨s_.bytes, r_17.2.1, r_17.2.2⟩ : kit_Stream) 50) fun r_18 =>
  some (.cont (W (index + r_17.1), W (due + r_18.1), W (x + 1), r_18.2.1, r_18.2.2, (x_1 ++ [(⟨index, due⟩ : share_Point)]))))
  (some (.brk (index, due, x, b__0, b__1, x_1)))
def law09_Bordered (N : Nat) (s_ : kit_Stream) (most : Int) : Option (share_Border × api_Span × (List share_Year) × (List share_Truth) × Int × Int) :=
  Option.bind (kit_Stream_Next N s_ 60) fun r =>
  Option.bind (kit_Stream_Next N (⟨s_.bytes, r.2.1, r.2.2⟩ : kit_Stream) 50) fun r_1 =>
  Option.bind (kit_Stream_Next N (⟨s_.bytes, r_1.2.1, r_1.2.2⟩ : kit_Stream) 20) fun r_2 =>
  Option.bind (kit_Stream_Within N (⟨s_.bytes, r_2.2.1, r_2.2.2⟩ : kit_Stream) 2 6) fun r_3 =>
  Option.bind (loopO (fun s6 => law09_Bordered_b6 N s_ r_3 s6.1 s6.2.1 s6.2.2.1 s6.2.2.2.1 s6.2.2.2.2.1 s6.2.2.2.2.2) N (r_1.1, r_2.1, 0, r_3.2.1, r_3.2.2, ([] : List share_Point))) fun x6 =>
  exK x6 (fun s6 => Option.bind (kit_Stream_Within N (⟨s_.bytes, s6.2.2.2.1, s6.2.2.2.2.1⟩ : kit_Stream) (-40) 40) fun r_4 =>
  Option.bind (kit_Stream_Next N (⟨s_.bytes, r_4.2.1, r_4.2.2⟩ : kit_Stream) 20) fun r_5 =>
  Option.bind (law09_span N r_4.1 (W (r_4.1 + r_5.1))) fun r_6 =>
  Option.bind (kit_Stream_Within N (⟨s_.bytes, r_5.2.1, r_5.2.2⟩ : kit_Stream) 1 most) fun r_7 =>
  Option.bind (loopO (fun s13 => law09_Bordered_b13 N s_ r_7 s13.1 s13.2.1 s13.2.2.1 s13.2.2.2.1 s13.2.2.2.2) N (([] : List share_Year), ([] : List share_Truth), 0, r_7.2.1, r_7.2.2)) fun x13 =>
  exK x13 (fun s13 => some ((⟨s6.2.2.2.2.2, r.1⟩ : share_Border), r_6, s13.1, s13.2.1, s13.2.2.2.1, s13.2.2.2.2)) some) some
theorem law09_Bordered_ok {N : Nat} {G : Pers} {Lf : List Ent} {w : World} (s_ : kit_Stream) (most : Int) {b_ : Nat} {s__bytes_p : Option Addr} {s__bytes_c : Nat} (h_s__bytes : Rd G 1 s__bytes_p s__bytes_c (s_.bytes.map encI_u8)) (hc : Ctx G (.box b_ [.slice s__bytes_p s_.bytes.length s__bytes_c, .int .i64 s_.used, .int .i64 s_.mix] 161 :: Lf) w) {res : share_Border × api_Span × (List share_Year) × (List share_Truth) × Int × Int} (hF : law09_Bordered N s_ most = some res) : Calls Try.prog 59 #[.pointer (some ⟨b_, 0, none⟩), .int .i64 most] w (fun e w => ∃ (p'1 : Option Addr) (c'1 : Nat) (p'2 : Option Addr) (c'2 : Nat) (p'3 : Option Addr) (c'3 : Nat), e = .returned (.tuple #[.agg #[.slice p'1 res.1.Table.length c'1, .int .i64 res.1.Credit], .agg #[.int .i64 res.2.1.Lo, .int .i64 res.2.1.Hi], .slice p'2 res.2.2.1.length c'2, .slice p'3 res.2.2.2.1.length c'3]) ∧ Ctx G (.row p'1 c'1 (res.1.Table.map enc_share_Point) 116 2 :: .row p'2 c'2 (res.2.2.1.map enc_share_Year) 94 5 :: .row p'3 c'3 (res.2.2.2.1.map enc_share_Truth) 97 2 :: .box b_ [.slice s__bytes_p s_.bytes.length s__bytes_c, .int .i64 res.2.2.2.2.1, .int .i64 res.2.2.2.2.2] 161 :: Lf) w) := by
  unfold law09_Bordered at hF
  refine fnIn (args := [.pointer (some ⟨b_, 0, none⟩), .int .i64 most]) Try.func59 rfl Try.ntmps59 rfl fun a hf => ?_
  refine wp_seq_k fun K1 h1 => ?_
  refine cReg ?_
  refine stAl (cs := [.slice none 0 0, .int .i64 0]) hf hc rfl rfl zr_88 rfl fun b_1 a w hf hc => ?_
  refine stAl (cs := [.int .i64 0, .int .i64 0]) hf hc rfl rfl zr_26 rfl fun b_2 a w hf hc => ?_
  refine stP hf rfl rfl rfl (pA rfl) fun a hf => ?_
  refine stP hf rfl rfl rfl (pA rfl) fun a hf => ?_
  refine cNil ?_
  refine h1 _ _ ?_
  refine wp_seq_k fun K2 h2 => ?_
  refine cReg ?_
  refine stP hf rfl rfl rfl (pM rfl) fun a hf => ?_
  obtain ⟨r, hr, hF⟩ := bnd_some hF
  refine stC (vs := [.pointer (some ⟨b_, 0, none⟩), .int .i64 60]) (caps := []) hf rfl rfl rfl en_29 rfl rfl rfl rfl (kit_Stream_Next_ok s_ 60 h_s__bytes (hc.pick k2) hr) ?_
  rintro _ w ⟨rfl, hc⟩
  refine ⟨_, rfl, fun a hf => ?_⟩
  refine stP hf rfl rfl rfl (pBuildS (cells := [.slice none 0 0, .int .i64 r.1]) bt_88 rfl rfl) fun a hf => ?_
  refine stAl (cs := [.slice none 0 0, .int .i64 0]) hf hc rfl rfl zr_88 rfl fun b_3 a w hf hc => ?_
  refine stSt (vs := [.slice none 0 0, .int .i64 r.1]) hf hc rfl rfl rfl rfl sz_88 rfl rfl u0 fun w hc => ?_
  refine cNil ?_
  refine h2 _ _ ?_
  refine wp_seq_k fun K3 h3 => ?_
  refine cReg ?_
  refine stP hf rfl rfl rfl (pM rfl) fun a hf => ?_
  obtain ⟨r_1, hr_1, hF⟩ := bnd_some hF
  refine stC (vs := [.pointer (some ⟨b_, 0, none⟩), .int .i64 50]) (caps := []) hf rfl rfl rfl en_29 rfl rfl rfl rfl (kit_Stream_Next_ok (⟨s_.bytes, r.2.1, r.2.2⟩ : kit_Stream) 50 h_s__bytes (hc.pick k1) hr_1) ?_
  rintro _ w ⟨rfl, hc⟩
  refine ⟨_, rfl, fun a hf => ?_⟩
  refine stP hf rfl rfl rfl (pM rfl) fun a hf => ?_
  obtain ⟨r_2, hr_2, hF⟩ := bnd_some hF
  refine stC (vs := [.pointer (some ⟨b_, 0, none⟩), .int .i64 20]) (caps := []) hf rfl rfl rfl en_29 rfl rfl rfl rfl (kit_Stream_Next_ok (⟨s_.bytes, r_1.2.1, r_1.2.2⟩ : kit_Stream) 20 h_s__bytes (hc.pick k0) hr_2) ?_
  rintro _ w ⟨rfl, hc⟩
  refine ⟨_, rfl, fun a hf => ?_⟩
  refine stP hf rfl rfl rfl (pA rfl) fun a hf => ?_
  refine stP hf rfl rfl rfl (pA rfl) fun a hf => ?_
  refine cNil ?_
  refine h3 _ _ ?_
  refine wp_seq_k fun K4 h4 => ?_
  refine wp_seq_k fun K5 h5 => ?_
  refine cReg ?_
  refine stP hf rfl rfl rfl (pM rfl) fun a hf => ?_
  obtain ⟨r_3, hr_3, hF⟩ := bnd_some hF
  refine stC (vs := [.pointer (some ⟨b_, 0, none⟩), .int .i64 2, .int .i64 6]) (caps := []) hf rfl rfl rfl en_28 rfl rfl rfl rfl (kit_Stream_Within_ok (⟨s_.bytes, r_2.2.1, r_2.2.2⟩ : kit_Stream) 2 6 h_s__bytes (hc.pick k0) hr_3) ?_
  rintro _ w ⟨rfl, hc⟩
  refine ⟨_, rfl, fun a hf => ?_⟩
  refine stP hf rfl rfl rfl (pM rfl) fun a hf => ?_
  refine cNil ?_
  refine h5 _ _ ?_
  refine wp_block ?_
  obtain ⟨x6, hx6, hF⟩ := bnd_some hF
  let S6 : (Int × Int × Int × Int × Int × (List share_Point)) → Act → World → Prop := (fun (zz : Int × Int × Int × Int × Int × (List share_Point)) a w => ∃ (p_1 : Option Addr) (c_1 : Nat), Has 102 a [(0, .pointer (some ⟨b_, 0, none⟩)), (1, .int .i64 most), (4, .pointer (some ⟨b_1, 0, none⟩)), (5, .pointer (some ⟨b_2, 0, none⟩)), (8, .pointer (some ⟨b_3, 0, none⟩)), (9, .int .i64 zz.1), (10, .int .i64 zz.2.1), (24, .int .i64 r_3.1), (25, .int .i64 zz.2.2.1)] ∧ Ctx G (.row p_1 c_1 (zz.2.2.2.2.2.map enc_share_Point) 116 2 :: .box b_ [.slice s__bytes_p s_.bytes.length s__bytes_c, .int .i64 zz.2.2.2.1, .int .i64 zz.2.2.2.2.1] 161 :: .box b_3 [.slice p_1 zz.2.2.2.2.2.length c_1, .int .i64 r.1] 88 :: .box b_2 [.int .i64 0, .int .i64 0] 26 :: .box b_1 [.slice none 0 0, .int .i64 0] 88 :: Lf) w)
  have hr6 : ∀ (zz : Int × Int × Int × Int × Int × (List share_Point)) a w, x6 = .go zz → S6 zz a w → K4 a w := by
    rintro ⟨index, due, x, b__0, b__1, x_1⟩ a w rfl ⟨p_1, c_1, hf, hc⟩
    replace hF : _ = some res := hF
    refine h4 _ _ ?_
    refine wp_seq_k fun K7 h7 => ?_
    refine cReg ?_
    refine stP hf rfl rfl rfl (pM rfl) fun a hf => ?_
    obtain ⟨r_4, hr_4, hF⟩ := bnd_some hF
    refine stC (vs := [.pointer (some ⟨b_, 0, none⟩), .int .i64 (-40), .int .i64 40]) (caps := []) hf rfl rfl rfl en_28 rfl rfl rfl rfl (kit_Stream_Within_ok (⟨s_.bytes, b__0, b__1⟩ : kit_Stream) (-40) 40 h_s__bytes (hc.pick k1) hr_4) ?_
    rintro _ w ⟨rfl, hc⟩
    refine ⟨_, rfl, fun a hf => ?_⟩
    refine stP hf rfl rfl rfl (pA rfl) fun a hf => ?_
    refine cNil ?_
    refine h7 _ _ ?_
    refine wp_seq_k fun K8 h8 => ?_
    refine cReg ?_
    refine stP hf rfl rfl rfl (pM rfl) fun a hf => ?_
    refine stP hf rfl rfl rfl (pM rfl) fun a hf => ?_
    refine stP hf rfl rfl rfl (pM rfl) fun a hf => ?_
    obtain ⟨r_5, hr_5, hF⟩ := bnd_some hF
    refine stC (vs := [.pointer (some ⟨b_, 0, none⟩), .int .i64 20]) (caps := []) hf rfl rfl rfl en_29 rfl rfl rfl rfl (kit_Stream_Next_ok (⟨s_.bytes, r_4.2.1, r_4.2.2⟩ : kit_Stream) 20 h_s__bytes (hc.pick k0) hr_5) ?_
    rintro _ w ⟨rfl, hc⟩
    refine ⟨_, rfl, fun a hf => ?_⟩
    refine stP hf rfl rfl rfl (pAdd rfl rfl) fun a hf => ?_
    obtain ⟨r_6, hr_6, hF⟩ := bnd_some hF
    refine stE hf hc rfl rfl rfl (eC (v := .agg #[.int .i64 r_6.Lo, .int .i64 r_6.Hi]) (vs := [.int .i64 r_4.1, .int .i64 (W (r_4.1 + r_5.1))]) (caps := []) en_60 rfl rfl rfl rfl (fun w hc => law09_span_ok r_4.1 (W (r_4.1 + r_5.1)) hc hr_6)) fun a w hf hc => ?_
    refine stAl (cs := [.int .i64 0, .int .i64 0]) hf hc rfl rfl zr_26 rfl fun b_4 a w hf hc => ?_
    refine stSt (vs := [.int .i64 r_6.Lo, .int .i64 r_6.Hi]) hf hc rfl rfl rfl rfl sz_26 rfl rfl u0 fun w hc => ?_
    refine cNil ?_
    refine h8 _ _ ?_
    refine wp_seq_k fun K9 h9 => ?_
    refine cReg ?_
    refine stP hf rfl rfl rfl (pA rfl) fun a hf => ?_
    refine cNil ?_
    refine h9 _ _ ?_
    refine wp_seq_k fun K10 h10 => ?_
    refine cReg ?_
    refine stP hf rfl rfl rfl (pA rfl) fun a hf => ?_
    refine cNil ?_
    refine h10 _ _ ?_
    refine wp_seq_k fun K11 h11 => ?_
    refine wp_seq_k fun K12 h12 => ?_
    refine cReg ?_
    refine stP hf rfl rfl rfl (pM rfl) fun a hf => ?_
    refine stP hf rfl rfl rfl (pM rfl) fun a hf => ?_
    obtain ⟨r_7, hr_7, hF⟩ := bnd_some hF
    refine stC (vs := [.pointer (some ⟨b_, 0, none⟩), .int .i64 1, .int .i64 most]) (caps := []) hf rfl rfl rfl en_28 rfl rfl rfl rfl (kit_Stream_Within_ok (⟨s_.bytes, r_5.2.1, r_5.2.2⟩ : kit_Stream) 1 most h_s__bytes (hc.pick k1) hr_7) ?_
    rintro _ w ⟨rfl, hc⟩
    refine ⟨_, rfl, fun a hf => ?_⟩
    refine stP hf rfl rfl rfl (pM rfl) fun a hf => ?_
    refine cNil ?_
    refine h12 _ _ ?_
    refine wp_block ?_
    obtain ⟨x13, hx13, hF⟩ := bnd_some hF
    let S13 : ((List share_Year) × (List share_Truth) × Int × Int × Int) → Act → World → Prop := (fun (zz : (List share_Year) × (List share_Truth) × Int × Int × Int) a w => ∃ (p_2 : Option Addr) (c_2 : Nat) (p_3 : Option Addr) (c_3 : Nat), Has 102 a [(0, .pointer (some ⟨b_, 0, none⟩)), (4, .pointer (some ⟨b_1, 0, none⟩)), (5, .pointer (some ⟨b_2, 0, none⟩)), (8, .pointer (some ⟨b_3, 0, none⟩)), (12, .pointer (some ⟨b_4, 0, none⟩)), (13, .slice p_2 zz.1.length c_2), (14, .slice p_3 zz.2.1.length c_3), (54, .int .i64 r_7.1), (55, .int .i64 zz.2.2.1)] ∧ Ctx G (.row p_3 c_3 (zz.2.1.map enc_share_Truth) 97 2 :: .row p_2 c_2 (zz.1.map enc_share_Year) 94 5 :: .box b_ [.slice s__bytes_p s_.bytes.length s__bytes_c, .int .i64 zz.2.2.2.1, .int .i64 zz.2.2.2.2] 161 :: .box b_4 [.int .i64 r_6.Lo, .int .i64 r_6.Hi] 26 :: .row p_1 c_1 (x_1.map enc_share_Point) 116 2 :: .box b_3 [.slice p_1 x_1.length c_1, .int .i64 r.1] 88 :: .box b_2 [.int .i64 0, .int .i64 0] 26 :: .box b_1 [.slice none 0 0, .int .i64 0] 88 :: Lf) w)
    have hr13 : ∀ (zz : (List share_Year) × (List share_Truth) × Int × Int × Int) a w, x13 = .go zz → S13 zz a w → K11 a w := by
      rintro ⟨l, truth, x_2, b__2, b__3⟩ a w rfl ⟨p_2, c_2, p_3, c_3, hf, hc⟩
      replace hF : _ = some res := hF
      refine h11 _ _ ?_
      refine wp_seq_k fun K14 h14 => ?_
      refine regionE (fun θ => [⟨none, none, 4, .pointer (some ⟨b_1, 0, none⟩)⟩, ⟨none, none, 5, .pointer (some ⟨b_2, 0, none⟩)⟩, ⟨none, none, 8, .pointer (some ⟨b_3, 0, none⟩)⟩, ⟨none, none, 12, .pointer (some ⟨b_4, 0, none⟩)⟩, ⟨none, none, 13, .slice p_2 l.length c_2⟩, ⟨none, none, 14, .slice p_3 truth.length c_3⟩, ⟨some 0, none, 98, .agg #[.slice p_1 x_1.length c_1, .int .i64 r.1]⟩, ⟨some 1, none, 99, .agg #[.int .i64 r_6.Lo, .int .i64 r_6.Hi]⟩, ⟨some 2, none, 100, .slice p_2 l.length c_2⟩, ⟨some 3, none, 101, .slice p_3 truth.length c_3⟩, ⟨some 6, none, 6, .slice p_2 l.length c_2⟩, ⟨some 7, none, 7, .slice p_3 truth.length c_3⟩]) (fun E θ => .row p_3 c_3 (truth.map enc_share_Truth) 97 2 :: .row p_2 c_2 (l.map enc_share_Year) 94 5 :: .box b_ [.slice s__bytes_p s_.bytes.length s__bytes_c, .int .i64 b__2, .int .i64 b__3] 161 :: .box b_4 [.int .i64 r_6.Lo, .int .i64 r_6.Hi] 26 :: .row p_1 c_1 (x_1.map enc_share_Point) 116 2 :: .box b_3 [.slice p_1 x_1.length c_1, .int .i64 r.1] 88 :: (bif E 5 then .box b_2 [.int .i64 r_6.Lo, .int .i64 r_6.Hi] 26 else .box b_2 [.int .i64 0, .int .i64 0] 26) :: (bif E 4 then .box b_1 [.slice p_1 x_1.length c_1, .int .i64 r.1] 88 else .box b_1 [.slice none 0 0, .int .i64 0] 88) :: Lf) [] (fun a w => Has 102 a [(4, .pointer (some ⟨b_1, 0, none⟩)), (5, .pointer (some ⟨b_2, 0, none⟩)), (6, .slice p_2 l.length c_2), (7, .slice p_3 truth.length c_3)] ∧ Ctx G (.row p_3 c_3 (truth.map enc_share_Truth) 97 2 :: .row p_2 c_2 (l.map enc_share_Year) 94 5 :: .box b_ [.slice s__bytes_p s_.bytes.length s__bytes_c, .int .i64 b__2, .int .i64 b__3] 161 :: .box b_4 [.int .i64 r_6.Lo, .int .i64 r_6.Hi] 26 :: .row p_1 c_1 (x_1.map enc_share_Point) 116 2 :: .box b_3 [.slice p_1 x_1.length c_1, .int .i64 r.1] 88 :: .box b_2 [.int .i64 r_6.Lo, .int .i64 r_6.Hi] 26 :: .box b_1 [.slice p_1 x_1.length c_1, .int .i64 r.1] 88 :: Lf) w) follows_mx (by kernel_rfl) (by kernel_rfl) (HasE.of hf ⟨rfl, rfl, rfl, rfl, rfl, rfl, trivial, trivial, trivial, trivial, trivial, trivial, trivial⟩) hc ⟨?_, ?_, ?_, ?_, ?_, ?_, ?_, ?_, trivial⟩ ?_ ?_
      · intro E θ a w hD hi hp he hc
        have hf := he.h0
        replace hf := hf.more he 2 rfl onT
        refine stE hf hc rfl rfl rfl (eLdN (vs := [.slice p_1 x_1.length c_1, .int .i64 r.1]) ag_88 rfl rfl (cells_box (n := 2) m5 rfl)) fun a w hf hc => ?_
        refine cNil ?_
        refine xThenN ?_
        intro ds u hau
        refine ⟨θ, he.put0 hi hau hf rfl 6 rfl rfl, ?_⟩
        exact hc
      · intro E θ a w hD hi hp he hc
        have hf := he.h0
        replace hf := hf.more he 3 rfl onT
        refine stE hf hc rfl rfl rfl (eLdN (vs := [.int .i64 r_6.Lo, .int .i64 r_6.Hi]) ag_26 rfl rfl (cells_box (n := 2) m3 rfl)) fun a w hf hc => ?_
        refine cNil ?_
        refine xThenN ?_
        intro ds u hau
        refine ⟨θ, he.put0 hi hau hf rfl 7 rfl rfl, ?_⟩
        exact hc
      · intro E θ a w hD hi hp he hc
        have hf := he.h0
        replace hf := hf.more he 4 rfl onT
        refine stP hf rfl rfl rfl (pM rfl) fun a hf => ?_
        refine cNil ?_
        refine xThenN ?_
        intro ds u hau
        refine ⟨θ, he.put0 hi hau hf rfl 8 rfl rfl, ?_⟩
        exact hc
      · intro E θ a w hD hi hp he hc
        have hf := he.h0
        replace hf := hf.more he 5 rfl onT
        refine stP hf rfl rfl rfl (pM rfl) fun a hf => ?_
        refine cNil ?_
        refine xThenN ?_
        intro ds u hau
        refine ⟨θ, he.put0 hi hau hf rfl 9 rfl rfl, ?_⟩
        exact hc
      · intro E θ a w hD hi hp he hc
        have e0 := hp.of (k := 0) rfl
        try dsimp only at hc
        rw [hi] at hc
        have hf := he.h0
        replace hf := hf.more he 0 rfl onT
        replace hf := hf.more he 6 rfl (onP e0)
        refine stSt (vs := [.slice p_1 x_1.length c_1, .int .i64 r.1]) hf hc rfl rfl rfl rfl sz_88 rfl rfl u7 fun w hc => ?_
        refine cNil ?_
        refine xThenN ?_
        intro ds u hau
        refine ⟨θ, he.stay0 hi hau hf rfl, ?_⟩
        try dsimp only
        rw [updE_self E 4]
        exact hc
      · intro E θ a w hD hi hp he hc
        have e1 := hp.of (k := 1) rfl
        try dsimp only at hc
        rw [hi] at hc
        have hf := he.h0
        replace hf := hf.more he 1 rfl onT
        replace hf := hf.more he 7 rfl (onP e1)
        refine stSt (vs := [.int .i64 r_6.Lo, .int .i64 r_6.Hi]) hf hc rfl rfl rfl rfl sz_26 rfl rfl u6 fun w hc => ?_
        refine cNil ?_
        refine xThenN ?_
        intro ds u hau
        refine ⟨θ, he.stay0 hi hau hf rfl, ?_⟩
        try dsimp only
        rw [updE_self E 5]
        exact hc
      · intro E θ a w hD hi hp he hc
        have e2 := hp.of (k := 2) rfl
        have hf := he.h0
        replace hf := hf.more he 8 rfl (onP e2)
        refine stP hf rfl rfl rfl (pA rfl) fun a hf => ?_
        refine cNil ?_
        refine xThenN ?_
        intro ds u hau
        refine ⟨θ, he.put0 hi hau hf rfl 10 rfl rfl, ?_⟩
        exact hc
      · intro E θ a w hD hi hp he hc
        have e3 := hp.of (k := 3) rfl
        have hf := he.h0
        replace hf := hf.more he 9 rfl (onP e3)
        refine stP hf rfl rfl rfl (pA rfl) fun a hf => ?_
        refine cNil ?_
        refine xThenN ?_
        intro ds u hau
        refine ⟨θ, he.put0 hi hau hf rfl 11 rfl rfl, ?_⟩
        exact hc
      · intro E θ a w hall he hc
        have hf := he.h0
        have e4 := hall 4 rfl
        have e5 := hall 5 rfl
        have e6 := hall 6 rfl
        have e7 := hall 7 rfl
        replace hf := hf.more he 11 rfl (onP e7)
        replace hf := hf.more he 10 rfl (onP e6)
        replace hf := hf.more he 1 rfl (onT)
        replace hf := hf.more he 0 rfl (onT)
        try dsimp only at hc
        rw [e4, e5] at hc
        exact ⟨hf.keep ⟨rfl, rfl, rfl, rfl, trivial⟩, hc⟩
      rintro a w ⟨hf, hc⟩
      refine h14 _ _ ?_
      refine wp_ret ?_
      obtain rfl := Option.some.inj hF
      replace hc := hc.drop k5
      replace hc := hc.drop k3
      replace hc := hc.pick k4
      replace hc := hc.pick k5
      replace hc := hc.pick k4
      replace hc := hc.pick k3
      replace hc := hc.pick k4
      replace hc := hc.pick k5
      exact fnOut4 (by simp) rfl Try.results59 hf hc (rv_cellN (vs := [.slice p_1 x_1.length c_1, .int .i64 r.1]) ag_88 rfl rfl (cells_box (n := 2) m4 rfl)) (rv_cellN (vs := [.int .i64 r_6.Lo, .int .i64 r_6.Hi]) ag_26 rfl rfl (cells_box (n := 2) m5 rfl)) (show look _ 6 = _ from rfl) (show look _ 7 = _ from rfl) ⟨p_1, c_1, p_2, c_2, p_3, c_3, rfl, ((hc.drop k5).drop k4)⟩
    have ho13 : ∀ r, x13 = .out r → r = res := by
      rintro r rfl
      exact Option.some.inj hF
    replace hc := hc.nilRow 94 5
    replace hc := hc.nilRow 97 2
    refine cLoop N (loopW (S := S13) (x := x13) ?_ N (([] : List share_Year), ([] : List share_Truth), 0, r_7.2.1, r_7.2.2) _ _ ⟨none, 0, none, 0, hf.keep ⟨rfl, rfl, rfl, rfl, rfl, rfl, rfl, rfl, rfl, trivial⟩, hc⟩ hx13)
    clear hF hf hc
    rintro ⟨l, truth, x_2, b__2, b__3⟩ st13 a w KB13 ⟨p_2, c_2, p_3, c_3, hf, hc⟩ hF hfin13 hK13
    unfold law09_Bordered_b13 at hF
    refine wp_seq_k fun K15 h15 => ?_
    refine cReg ?_
    refine stP hf rfl rfl rfl (pLt rfl rfl) fun a hf => ?_
    refine cNil ?_
    refine h15 _ _ ?_
    refine wp_seq_k fun K16 h16 => ?_
    refine cCond (b := (decide (x_2 < r_7.1))) hf rfl (fun hb => ?_) (fun hb => ?_)
    · replace hF := condT hb hF
      clear hb
      refine wp_skip ?_
      refine h16 _ _ ?_
      refine wp_seq_k fun K17 h17 => ?_
      refine wp_block ?_
      refine wp_seq_k fun K18 h18 => ?_
      refine cReg ?_
      refine stP hf rfl rfl rfl (pM rfl) fun a hf => ?_
      obtain ⟨r_8, hr_8, hF⟩ := bnd_some hF
      refine stC (vs := [.pointer (some ⟨b_, 0, none⟩), .int .i64 200]) (caps := []) hf rfl rfl rfl en_29 rfl rfl rfl rfl (kit_Stream_Next_ok (⟨s_.bytes, b__2, b__3⟩ : kit_Stream) 200 h_s__bytes (hc.pick k2) hr_8) ?_
      rintro _ w ⟨rfl, hc⟩
      refine ⟨_, rfl, fun a hf => ?_⟩
      refine stP hf rfl rfl rfl (pM rfl) fun a hf => ?_
      obtain ⟨r_9, hr_9, hF⟩ := bnd_some hF
      refine stC (vs := [.pointer (some ⟨b_, 0, none⟩), .int .i64 120]) (caps := []) hf rfl rfl rfl en_29 rfl rfl rfl rfl (kit_Stream_Next_ok (⟨s_.bytes, r_8.2.1, r_8.2.2⟩ : kit_Stream) 120 h_s__bytes (hc.pick k0) hr_9) ?_
      rintro _ w ⟨rfl, hc⟩
      refine ⟨_, rfl, fun a hf => ?_⟩
      refine stP hf rfl rfl rfl (pBuildS (cells := [.int .i64 r_8.1, .int .i64 r_9.1]) bt_97 rfl rfl) fun a hf => ?_
      refine stAl (cs := [.int .i64 0, .int .i64 0]) hf hc rfl rfl zr_97 rfl fun b_5 a w hf hc => ?_
      refine stSt (vs := [.int .i64 r_8.1, .int .i64 r_9.1]) hf hc rfl rfl rfl rfl sz_97 rfl rfl u0 fun w hc => ?_
      refine cNil ?_
      refine h18 _ _ ?_
      refine wp_seq_k fun K19 h19 => ?_
      obtain ⟨r_10, hr_10, hF⟩ := bnd_some hF
      obtain ⟨r_11, hr_11, hF⟩ := bnd_some hF
      obtain ⟨r_12, hr_12, hF⟩ := bnd_some hF
      obtain ⟨r_13, hr_13, hF⟩ := bnd_some hF
      obtain ⟨r_14, hr_14, hF⟩ := bnd_some hF
      obtain ⟨r_15, hr_15, hF⟩ := bnd_some hF
      obtain ⟨r_16, hr_16, hF⟩ := bnd_some hF
      obtain ⟨un, hun, hF⟩ := bnd_some hF
      replace hc := hc.nilRow 0 0
      refine regionE (fun θ => (⟨none, none, 0, .pointer (some ⟨b_, 0, none⟩)⟩ :: ⟨none, none, 4, .pointer (some ⟨b_1, 0, none⟩)⟩ :: ⟨none, none, 5, .pointer (some ⟨b_2, 0, none⟩)⟩ :: ⟨none, none, 8, .pointer (some ⟨b_3, 0, none⟩)⟩ :: ⟨none, none, 12, .pointer (some ⟨b_4, 0, none⟩)⟩ :: ⟨none, some 31, 13, .slice p_2 l.length c_2⟩ :: ⟨none, none, 14, .slice p_3 truth.length c_3⟩ :: ⟨none, none, 15, .pointer (some ⟨b_5, 0, none⟩)⟩ :: ⟨none, none, 54, .int .i64 r_7.1⟩ :: ⟨none, none, 55, .int .i64 x_2⟩ :: ⟨some 0, none, 62, .slice p_2 l.length c_2⟩ :: ⟨some 1, none, 63, .pointer (some ⟨b_5, 0, none⟩)⟩ :: ⟨some 2, none, 64, .int .i64 r_8.1⟩ :: ⟨some 3, none, 65, .pointer (some ⟨b_, 0, none⟩)⟩ :: ⟨some 4, none, 66, .int .i64 r_10.1⟩ :: ⟨some 5, none, 67, .int .i64 (W (r_8.1 - r_10.1))⟩ :: ⟨some 6, none, 68, .int .i64 (max 0 (W (r_8.1 - r_10.1)))⟩ :: ⟨some 7, none, 69, .pointer (some ⟨b_5, 0, none⟩)⟩ :: ⟨some 8, none, 70, .int .i64 r_8.1⟩ :: ⟨some 9, none, 71, .pointer (some ⟨b_, 0, none⟩)⟩ :: ⟨some 10, none, 72, .int .i64 r_11.1⟩ :: ⟨some 11, none, 73, .int .i64 (W (r_8.1 + r_11.1))⟩ :: ⟨some 12, none, 74, .agg #[.int .i64 r_12.Lo, .int .i64 r_12.Hi]⟩ :: ⟨some 13, none, 75, .pointer (some ⟨b_5, 1, none⟩)⟩ :: ⟨some 14, none, 76, .int .i64 r_9.1⟩ :: ⟨some 15, none, 77, .pointer (some ⟨b_, 0, none⟩)⟩ :: ⟨some 16, none, 78, .int .i64 r_13.1⟩ :: ⟨some 17, none, 79, .int .i64 (W (r_9.1 - r_13.1))⟩ :: ⟨some 18, none, 80, .int .i64 (max 0 (W (r_9.1 - r_13.1)))⟩ :: ⟨some 19, none, 81, .pointer (some ⟨b_5, 1, none⟩)⟩ :: ⟨some 20, none, 82, .int .i64 r_9.1⟩ :: ⟨some 21, none, 83, .pointer (some ⟨b_, 0, none⟩)⟩ :: ⟨some 22, none, 84, .int .i64 r_14.1⟩ :: ⟨some 23, none, 85, .int .i64 (W (r_9.1 + r_14.1))⟩ :: ⟨some 24, none, 86, .agg #[.int .i64 r_15.Lo, .int .i64 r_15.Hi]⟩ :: ⟨some 25, none, 87, .pointer (some ⟨b_, 0, none⟩)⟩ :: ⟨some 26, none, 88, .int .i64 r_16.1⟩ :: ⟨some 27, none, 89, .bool (r_16.1 == 0)⟩ :: ⟨some 28, none, 90, .agg #[.int .i64 r_12.Lo, .int .i64 r_12.Hi, .int .i64 r_15.Lo, .int .i64 r_15.Hi, .bool (r_16.1 == 0)]⟩ :: ⟨some 29, none, 91, .slice (some ⟨(θ 232).b, 0, none⟩) 1 1⟩ :: ⟨some 30, none, 92, .slice ((θ 240).p) ((l ++ [(⟨r_12, r_15, (r_16.1 == 0)⟩ : share_Year)]).length) ((θ 240).c)⟩ :: ⟨some 31, none, 13, .slice ((θ 240).p) ((l ++ [(⟨r_12, r_15, (r_16.1 == 0)⟩ : share_Year)]).length) ((θ 240).c)⟩ :: [])) (fun E θ => (bif E 29 then .row (some ⟨(θ 232).b, 0, none⟩) 1 (([(⟨r_12, r_15, (r_16.1 == 0)⟩ : share_Year)] : List share_Year).map enc_share_Year) 94 5 else .row none 0 [] 0 0) :: .box b_5 [.int .i64 r_8.1, .int .i64 r_9.1] 97 :: (bif E 26 then .box b_ [.slice s__bytes_p s_.bytes.length s__bytes_c, .int .i64 r_16.2.1, .int .i64 r_16.2.2] 161 else bif E 22 then .box b_ [.slice s__bytes_p s_.bytes.length s__bytes_c, .int .i64 r_14.2.1, .int .i64 r_14.2.2] 161 else bif E 16 then .box b_ [.slice s__bytes_p s_.bytes.length s__bytes_c, .int .i64 r_13.2.1, .int .i64 r_13.2.2] 161 else bif E 10 then .box b_ [.slice s__bytes_p s_.bytes.length s__bytes_c, .int .i64 r_11.2.1, .int .i64 r_11.2.2] 161 else bif E 4 then .box b_ [.slice s__bytes_p s_.bytes.length s__bytes_c, .int .i64 r_10.2.1, .int .i64 r_10.2.2] 161 else .box b_ [.slice s__bytes_p s_.bytes.length s__bytes_c, .int .i64 r_9.2.1, .int .i64 r_9.2.2] 161) :: .row p_3 c_3 (truth.map enc_share_Truth) 97 2 :: (bif E 30 then .row ((θ 240).p) ((θ 240).c) ((l ++ [(⟨r_12, r_15, (r_16.1 == 0)⟩ : share_Year)]).map enc_share_Year) 94 5 else .row p_2 c_2 (l.map enc_share_Year) 94 5) :: .box b_4 [.int .i64 r_6.Lo, .int .i64 r_6.Hi] 26 :: .row p_1 c_1 (x_1.map enc_share_Point) 116 2 :: .box b_3 [.slice p_1 x_1.length c_1, .int .i64 r.1] 88 :: .box b_2 [.int .i64 0, .int .i64 0] 26 :: .box b_1 [.slice none 0 0, .int .i64 0] 88 :: Lf) [(12, 6), (6, 5), (5, 4), (12, 10), (16, 12), (24, 18), (18, 17), (17, 16), (24, 22), (31, 0), (10, 4), (22, 16), (26, 24), (31, 30)] (fun a w => ∃ (p_5 : Option Addr) (c_5 : Nat) (b_7 : Nat), Has 102 a [(0, .pointer (some ⟨b_, 0, none⟩)), (4, .pointer (some ⟨b_1, 0, none⟩)), (5, .pointer (some ⟨b_2, 0, none⟩)), (8, .pointer (some ⟨b_3, 0, none⟩)), (12, .pointer (some ⟨b_4, 0, none⟩)), (14, .slice p_3 truth.length c_3), (15, .pointer (some ⟨b_5, 0, none⟩)), (54, .int .i64 r_7.1), (55, .int .i64 x_2), (13, .slice p_5 ((l ++ [(⟨r_12, r_15, (r_16.1 == 0)⟩ : share_Year)]).length) c_5)] ∧ Ctx G (.row (some ⟨b_7, 0, none⟩) 1 (([(⟨r_12, r_15, (r_16.1 == 0)⟩ : share_Year)] : List share_Year).map enc_share_Year) 94 5 :: .box b_5 [.int .i64 r_8.1, .int .i64 r_9.1] 97 :: .box b_ [.slice s__bytes_p s_.bytes.length s__bytes_c, .int .i64 r_16.2.1, .int .i64 r_16.2.2] 161 :: .row p_3 c_3 (truth.map enc_share_Truth) 97 2 :: .row p_5 c_5 ((l ++ [(⟨r_12, r_15, (r_16.1 == 0)⟩ : share_Year)]).map enc_share_Year) 94 5 :: .box b_4 [.int .i64 r_6.Lo, .int .i64 r_6.Hi] 26 :: .row p_1 c_1 (x_1.map enc_share_Point) 116 2 :: .box b_3 [.slice p_1 x_1.length c_1, .int .i64 r.1] 88 :: .box b_2 [.int .i64 0, .int .i64 0] 26 :: .box b_1 [.slice none 0 0, .int .i64 0] 88 :: Lf) w) follows_mx (by kernel_rfl) (by kernel_rfl) (HasE.of hf ⟨rfl, rfl, rfl, rfl, rfl, rfl, rfl, rfl, rfl, rfl, trivial, trivial, trivial, trivial, trivial, trivial, trivial, trivial, trivial, trivial, trivial, trivial, trivial, trivial, trivial, trivial, trivial, trivial, trivial, trivial, trivial, trivial, trivial, trivial, trivial, trivial, trivial, trivial, trivial, trivial, trivial, trivial, trivial⟩) hc ⟨?_, ?_, ?_, ?_, ?_, ?_, ?_, ?_, ?_, ?_, ?_, ?_, ?_, ?_, ?_, ?_, ?_, ?_, ?_, ?_, ?_, ?_, ?_, ?_, ?_, ?_, ?_, ?_, ?_, ?_, ?_, ?_, trivial⟩ ?_ ?_
      · intro E θ a w hD hi hp he hc
        have e31 := hD.f 9 rfl hi
        have hf := he.h0
        replace hf := hf.more he 5 rfl (onN e31)
        refine stP hf rfl rfl rfl (pM rfl) fun a hf => ?_
        refine cNil ?_
        refine xThenN ?_
        intro ds u hau
        refine ⟨θ, he.put0 hi hau hf rfl 10 rfl rfl, ?_⟩
        exact hc
      · intro E θ a w hD hi hp he hc
        have hf := he.h0
        replace hf := hf.more he 7 rfl onT
        refine stP hf rfl rfl rfl (pFA fa_97_0 rfl) fun a hf => ?_
        refine cNil ?_
        refine xThenN ?_
        intro ds u hau
        refine ⟨θ, he.put0 hi hau hf rfl 11 rfl rfl, ?_⟩
        exact hc
      · intro E θ a w hD hi hp he hc
        have e1 := hp.of (k := 1) rfl
        have hf := he.h0
        replace hf := hf.more he 11 rfl (onP e1)
        refine stE hf hc rfl rfl rfl (eLd1 sc_3 rfl (cell_box m1 rfl)) fun a w hf hc => ?_
        refine cNil ?_
        refine xThenN ?_
        intro ds u hau
        refine ⟨θ, he.put0 hi hau hf rfl 12 rfl rfl, ?_⟩
        exact hc
      · intro E θ a w hD hi hp he hc
        have hf := he.h0
        replace hf := hf.more he 0 rfl onT
        refine stP hf rfl rfl rfl (pM rfl) fun a hf => ?_
        refine cNil ?_
        refine xThenN ?_
        intro ds u hau
        refine ⟨θ, he.put0 hi hau hf rfl 13 rfl rfl, ?_⟩
        exact hc
      · intro E θ a w hD hi hp he hc
        have e3 := hp.of (k := 3) rfl
        have e10 := hD.f 10 rfl hi
        have e5 := hD.f 2 rfl hi
        have e6 := hD.f 1 rfl e5
        have e12 := hD.f 0 rfl e6
        have e16 := hD.f 4 rfl e12
        have e22 := hD.f 11 rfl e16
        have e17 := hD.f 7 rfl e16
        have e18 := hD.f 6 rfl e17
        have e24 := hD.f 5 rfl e18
        have e26 := hD.f 12 rfl e24
        try dsimp only at hc
        rw [hi, e10, e16, e22, e26] at hc
        have hf := he.h0
        replace hf := hf.more he 13 rfl (onP e3)
        refine stC (vs := [.pointer (some ⟨b_, 0, none⟩), .int .i64 20]) (caps := []) hf rfl rfl rfl en_29 rfl rfl rfl rfl (kit_Stream_Next_ok (⟨s_.bytes, r_9.2.1, r_9.2.2⟩ : kit_Stream) 20 h_s__bytes (hc.pick k2) hr_10) ?_
        rintro _ w ⟨rfl, hc⟩
        refine ⟨_, rfl, fun a hf => ?_⟩
        refine cNil ?_
        refine xThenN ?_
        intro ds u hau
        replace hc := hc.pick k0
        replace hc := hc.pick k2
        replace hc := hc.pick k2
        refine ⟨θ, he.put0 hi hau hf rfl 14 rfl rfl, ?_⟩
        try dsimp only
        rw [updE_self E 4, updE_fls 4 e10 rfl, updE_fls 4 e16 rfl, updE_fls 4 e22 rfl, updE_fls 4 e26 rfl]
        exact hc
      · intro E θ a w hD hi hp he hc
        have e2 := hp.of (k := 2) rfl
        have e4 := hp.of (k := 4) rfl
        have hf := he.h0
        replace hf := hf.more he 12 rfl (onP e2)
        replace hf := hf.more he 14 rfl (onP e4)
        refine stP hf rfl rfl rfl (pSub rfl rfl) fun a hf => ?_
        refine cNil ?_
        refine xThenN ?_
        intro ds u hau
        refine ⟨θ, he.put0 hi hau hf rfl 15 rfl rfl, ?_⟩
        exact hc
      · intro E θ a w hD hi hp he hc
        have e5 := hp.of (k := 5) rfl
        have hf := he.h0
        replace hf := hf.more he 15 rfl (onP e5)
        refine stP hf rfl rfl rfl (pMax2 rfl rfl) fun a hf => ?_
        refine cNil ?_
        refine xThenN ?_
        intro ds u hau
        refine ⟨θ, he.put0 hi hau hf rfl 16 rfl rfl, ?_⟩
        exact hc
      · intro E θ a w hD hi hp he hc
        have hf := he.h0
        replace hf := hf.more he 7 rfl onT
        refine stP hf rfl rfl rfl (pFA fa_97_0 rfl) fun a hf => ?_
        refine cNil ?_
        refine xThenN ?_
        intro ds u hau
        refine ⟨θ, he.put0 hi hau hf rfl 17 rfl rfl, ?_⟩
        exact hc
      · intro E θ a w hD hi hp he hc
        have e7 := hp.of (k := 7) rfl
        have hf := he.h0
        replace hf := hf.more he 17 rfl (onP e7)
        refine stE hf hc rfl rfl rfl (eLd1 sc_3 rfl (cell_box m1 rfl)) fun a w hf hc => ?_
        refine cNil ?_
        refine xThenN ?_
        intro ds u hau
        refine ⟨θ, he.put0 hi hau hf rfl 18 rfl rfl, ?_⟩
        exact hc
      · intro E θ a w hD hi hp he hc
        have hf := he.h0
        replace hf := hf.more he 0 rfl onT
        refine stP hf rfl rfl rfl (pM rfl) fun a hf => ?_
        refine cNil ?_
        refine xThenN ?_
        intro ds u hau
        refine ⟨θ, he.put0 hi hau hf rfl 19 rfl rfl, ?_⟩
        exact hc
      · intro E θ a w hD hi hp he hc
        have e9 := hp.of (k := 9) rfl
        have e4 := hp.of (k := 4) rfl
        have e12 := hD.f 3 rfl hi
        have e16 := hD.f 4 rfl e12
        have e22 := hD.f 11 rfl e16
        have e17 := hD.f 7 rfl e16
        have e18 := hD.f 6 rfl e17
        have e24 := hD.f 5 rfl e18
        have e26 := hD.f 12 rfl e24
        try dsimp only at hc
        rw [e4, hi, e16, e22, e26] at hc
        have hf := he.h0
        replace hf := hf.more he 19 rfl (onP e9)
        refine stC (vs := [.pointer (some ⟨b_, 0, none⟩), .int .i64 20]) (caps := []) hf rfl rfl rfl en_29 rfl rfl rfl rfl (kit_Stream_Next_ok (⟨s_.bytes, r_10.2.1, r_10.2.2⟩ : kit_Stream) 20 h_s__bytes (hc.pick k2) hr_11) ?_
        rintro _ w ⟨rfl, hc⟩
        refine ⟨_, rfl, fun a hf => ?_⟩
        refine cNil ?_
        refine xThenN ?_
        intro ds u hau
        replace hc := hc.pick k0
        replace hc := hc.pick k2
        replace hc := hc.pick k2
        refine ⟨θ, he.put0 hi hau hf rfl 20 rfl rfl, ?_⟩
        try dsimp only
        rw [updE_tru 10 e4, updE_self E 10, updE_fls 10 e16 rfl, updE_fls 10 e22 rfl, updE_fls 10 e26 rfl]
        exact hc
      · intro E θ a w hD hi hp he hc
        have e8 := hp.of (k := 8) rfl
        have e10 := hp.of (k := 10) rfl
        have hf := he.h0
        replace hf := hf.more he 18 rfl (onP e8)
        replace hf := hf.more he 20 rfl (onP e10)
        refine stP hf rfl rfl rfl (pAdd rfl rfl) fun a hf => ?_
        refine cNil ?_
        refine xThenN ?_
        intro ds u hau
        refine ⟨θ, he.put0 hi hau hf rfl 21 rfl rfl, ?_⟩
        exact hc
      · intro E θ a w hD hi hp he hc
        have e6 := hp.of (k := 6) rfl
        have e11 := hp.of (k := 11) rfl
        have hf := he.h0
        replace hf := hf.more he 16 rfl (onP e6)
        replace hf := hf.more he 21 rfl (onP e11)
        refine stE hf hc rfl rfl rfl (eC (v := .agg #[.int .i64 r_12.Lo, .int .i64 r_12.Hi]) (vs := [.int .i64 (max 0 (W (r_8.1 - r_10.1))), .int .i64 (W (r_8.1 + r_11.1))]) (caps := []) en_60 rfl rfl rfl rfl (fun w hc => law09_span_ok (max 0 (W (r_8.1 - r_10.1))) (W (r_8.1 + r_11.1)) hc hr_12)) fun a w hf hc => ?_
        refine cNil ?_
        refine xThenN ?_
        intro ds u hau
        refine ⟨θ, he.put0 hi hau hf rfl 22 rfl rfl, ?_⟩
        exact hc
      · intro E θ a w hD hi hp he hc
        have hf := he.h0
        replace hf := hf.more he 7 rfl onT
        refine stP hf rfl rfl rfl (pFA fa_97_1 rfl) fun a hf => ?_
        refine cNil ?_
        refine xThenN ?_
        intro ds u hau
        refine ⟨θ, he.put0 hi hau hf rfl 23 rfl rfl, ?_⟩
        exact hc
      · intro E θ a w hD hi hp he hc
        have e13 := hp.of (k := 13) rfl
        have hf := he.h0
        replace hf := hf.more he 23 rfl (onP e13)
        refine stE hf hc rfl rfl rfl (eLd1 sc_3 rfl (cell_box m1 rfl)) fun a w hf hc => ?_
        refine cNil ?_
        refine xThenN ?_
        intro ds u hau
        refine ⟨θ, he.put0 hi hau hf rfl 24 rfl rfl, ?_⟩
        exact hc
      · intro E θ a w hD hi hp he hc
        have hf := he.h0
        replace hf := hf.more he 0 rfl onT
        refine stP hf rfl rfl rfl (pM rfl) fun a hf => ?_
        refine cNil ?_
        refine xThenN ?_
        intro ds u hau
        refine ⟨θ, he.put0 hi hau hf rfl 25 rfl rfl, ?_⟩
        exact hc
      · intro E θ a w hD hi hp he hc
        have e15 := hp.of (k := 15) rfl
        have e12 := hp.of (k := 12) rfl
        have e6 := hD.t 0 rfl e12
        have e5 := hD.t 1 rfl e6
        have e4 := hD.t 2 rfl e5
        have e10 := hD.t 3 rfl e12
        have e22 := hD.f 11 rfl hi
        have e17 := hD.f 7 rfl hi
        have e18 := hD.f 6 rfl e17
        have e24 := hD.f 5 rfl e18
        have e26 := hD.f 12 rfl e24
        try dsimp only at hc
        rw [e4, e10, hi, e22, e26] at hc
        have hf := he.h0
        replace hf := hf.more he 25 rfl (onP e15)
        refine stC (vs := [.pointer (some ⟨b_, 0, none⟩), .int .i64 9]) (caps := []) hf rfl rfl rfl en_29 rfl rfl rfl rfl (kit_Stream_Next_ok (⟨s_.bytes, r_11.2.1, r_11.2.2⟩ : kit_Stream) 9 h_s__bytes (hc.pick k2) hr_13) ?_
        rintro _ w ⟨rfl, hc⟩
        refine ⟨_, rfl, fun a hf => ?_⟩
        refine cNil ?_
        refine xThenN ?_
        intro ds u hau
        replace hc := hc.pick k0
        replace hc := hc.pick k2
        replace hc := hc.pick k2
        refine ⟨θ, he.put0 hi hau hf rfl 26 rfl rfl, ?_⟩
        try dsimp only
        rw [updE_tru 16 e4, updE_tru 16 e10, updE_self E 16, updE_fls 16 e22 rfl, updE_fls 16 e26 rfl]
        exact hc
      · intro E θ a w hD hi hp he hc
        have e14 := hp.of (k := 14) rfl
        have e16 := hp.of (k := 16) rfl
        have hf := he.h0
        replace hf := hf.more he 24 rfl (onP e14)
        replace hf := hf.more he 26 rfl (onP e16)
        refine stP hf rfl rfl rfl (pSub rfl rfl) fun a hf => ?_
        refine cNil ?_
        refine xThenN ?_
        intro ds u hau
        refine ⟨θ, he.put0 hi hau hf rfl 27 rfl rfl, ?_⟩
        exact hc
      · intro E θ a w hD hi hp he hc
        have e17 := hp.of (k := 17) rfl
        have hf := he.h0
        replace hf := hf.more he 27 rfl (onP e17)
        refine stP hf rfl rfl rfl (pMax2 rfl rfl) fun a hf => ?_
        refine cNil ?_
        refine xThenN ?_
        intro ds u hau
        refine ⟨θ, he.put0 hi hau hf rfl 28 rfl rfl, ?_⟩
        exact hc
      · intro E θ a w hD hi hp he hc
        have hf := he.h0
        replace hf := hf.more he 7 rfl onT
        refine stP hf rfl rfl rfl (pFA fa_97_1 rfl) fun a hf => ?_
        refine cNil ?_
        refine xThenN ?_
        intro ds u hau
        refine ⟨θ, he.put0 hi hau hf rfl 29 rfl rfl, ?_⟩
        exact hc
      · intro E θ a w hD hi hp he hc
        have e19 := hp.of (k := 19) rfl
        have hf := he.h0
        replace hf := hf.more he 29 rfl (onP e19)
        refine stE hf hc rfl rfl rfl (eLd1 sc_3 rfl (cell_box m1 rfl)) fun a w hf hc => ?_
        refine cNil ?_
        refine xThenN ?_
        intro ds u hau
        refine ⟨θ, he.put0 hi hau hf rfl 30 rfl rfl, ?_⟩
        exact hc
      · intro E θ a w hD hi hp he hc
        have hf := he.h0
        replace hf := hf.more he 0 rfl onT
        refine stP hf rfl rfl rfl (pM rfl) fun a hf => ?_
        refine cNil ?_
        refine xThenN ?_
        intro ds u hau
        refine ⟨θ, he.put0 hi hau hf rfl 31 rfl rfl, ?_⟩
        exact hc
      · intro E θ a w hD hi hp he hc
        have e21 := hp.of (k := 21) rfl
        have e16 := hp.of (k := 16) rfl
        have e12 := hD.t 4 rfl e16
        have e6 := hD.t 0 rfl e12
        have e5 := hD.t 1 rfl e6
        have e4 := hD.t 2 rfl e5
        have e10 := hD.t 3 rfl e12
        have e24 := hD.f 8 rfl hi
        have e26 := hD.f 12 rfl e24
        try dsimp only at hc
        rw [e4, e10, e16, hi, e26] at hc
        have hf := he.h0
        replace hf := hf.more he 31 rfl (onP e21)
        refine stC (vs := [.pointer (some ⟨b_, 0, none⟩), .int .i64 9]) (caps := []) hf rfl rfl rfl en_29 rfl rfl rfl rfl (kit_Stream_Next_ok (⟨s_.bytes, r_13.2.1, r_13.2.2⟩ : kit_Stream) 9 h_s__bytes (hc.pick k2) hr_14) ?_
        rintro _ w ⟨rfl, hc⟩
        refine ⟨_, rfl, fun a hf => ?_⟩
        refine cNil ?_
        refine xThenN ?_
        intro ds u hau
        replace hc := hc.pick k0
        replace hc := hc.pick k2
        replace hc := hc.pick k2
        refine ⟨θ, he.put0 hi hau hf rfl 32 rfl rfl, ?_⟩
        try dsimp only
        rw [updE_tru 22 e4, updE_tru 22 e10, updE_tru 22 e16, updE_self E 22, updE_fls 22 e26 rfl]
        exact hc
      · intro E θ a w hD hi hp he hc
        have e20 := hp.of (k := 20) rfl
        have e22 := hp.of (k := 22) rfl
        have hf := he.h0
        replace hf := hf.more he 30 rfl (onP e20)
        replace hf := hf.more he 32 rfl (onP e22)
        refine stP hf rfl rfl rfl (pAdd rfl rfl) fun a hf => ?_
        refine cNil ?_
        refine xThenN ?_
        intro ds u hau
        refine ⟨θ, he.put0 hi hau hf rfl 33 rfl rfl, ?_⟩
        exact hc
      · intro E θ a w hD hi hp he hc
        have e18 := hp.of (k := 18) rfl
        have e23 := hp.of (k := 23) rfl
        have hf := he.h0
        replace hf := hf.more he 28 rfl (onP e18)
        replace hf := hf.more he 33 rfl (onP e23)
        refine stE hf hc rfl rfl rfl (eC (v := .agg #[.int .i64 r_15.Lo, .int .i64 r_15.Hi]) (vs := [.int .i64 (max 0 (W (r_9.1 - r_13.1))), .int .i64 (W (r_9.1 + r_14.1))]) (caps := []) en_60 rfl rfl rfl rfl (fun w hc => law09_span_ok (max 0 (W (r_9.1 - r_13.1))) (W (r_9.1 + r_14.1)) hc hr_15)) fun a w hf hc => ?_
        refine cNil ?_
        refine xThenN ?_
        intro ds u hau
        refine ⟨θ, he.put0 hi hau hf rfl 34 rfl rfl, ?_⟩
        exact hc
      · intro E θ a w hD hi hp he hc
        have hf := he.h0
        replace hf := hf.more he 0 rfl onT
        refine stP hf rfl rfl rfl (pM rfl) fun a hf => ?_
        refine cNil ?_
        refine xThenN ?_
        intro ds u hau
        refine ⟨θ, he.put0 hi hau hf rfl 35 rfl rfl, ?_⟩
        exact hc
      · intro E θ a w hD hi hp he hc
        have e25 := hp.of (k := 25) rfl
        have e24 := hp.of (k := 24) rfl
        have e18 := hD.t 5 rfl e24
        have e17 := hD.t 6 rfl e18
        have e16 := hD.t 7 rfl e17
        have e12 := hD.t 4 rfl e16
        have e6 := hD.t 0 rfl e12
        have e5 := hD.t 1 rfl e6
        have e4 := hD.t 2 rfl e5
        have e10 := hD.t 3 rfl e12
        have e22 := hD.t 8 rfl e24
        try dsimp only at hc
        rw [e4, e10, e16, e22, hi] at hc
        have hf := he.h0
        replace hf := hf.more he 35 rfl (onP e25)
        refine stC (vs := [.pointer (some ⟨b_, 0, none⟩), .int .i64 9]) (caps := []) hf rfl rfl rfl en_29 rfl rfl rfl rfl (kit_Stream_Next_ok (⟨s_.bytes, r_14.2.1, r_14.2.2⟩ : kit_Stream) 9 h_s__bytes (hc.pick k2) hr_16) ?_
        rintro _ w ⟨rfl, hc⟩
        refine ⟨_, rfl, fun a hf => ?_⟩
        refine cNil ?_
        refine xThenN ?_
        intro ds u hau
        replace hc := hc.pick k0
        replace hc := hc.pick k2
        replace hc := hc.pick k2
        refine ⟨θ, he.put0 hi hau hf rfl 36 rfl rfl, ?_⟩
        try dsimp only
        rw [updE_tru 26 e4, updE_tru 26 e10, updE_tru 26 e16, updE_tru 26 e22, updE_self E 26]
        exact hc
      · intro E θ a w hD hi hp he hc
        have e26 := hp.of (k := 26) rfl
        have hf := he.h0
        replace hf := hf.more he 36 rfl (onP e26)
        refine stP hf rfl rfl rfl (pEq rfl rfl) fun a hf => ?_
        refine cNil ?_
        refine xThenN ?_
        intro ds u hau
        refine ⟨θ, he.put0 hi hau hf rfl 37 rfl rfl, ?_⟩
        exact hc
      · intro E θ a w hD hi hp he hc
        have e12 := hp.of (k := 12) rfl
        have e24 := hp.of (k := 24) rfl
        have e27 := hp.of (k := 27) rfl
        have hf := he.h0
        replace hf := hf.more he 22 rfl (onP e12)
        replace hf := hf.more he 34 rfl (onP e24)
        replace hf := hf.more he 37 rfl (onP e27)
        refine stP hf rfl rfl rfl (pBuildS (cells := [.int .i64 r_12.Lo, .int .i64 r_12.Hi, .int .i64 r_15.Lo, .int .i64 r_15.Hi, .bool (r_16.1 == 0)]) bt_94 rfl rfl) fun a hf => ?_
        refine cNil ?_
        refine xThenN ?_
        intro ds u hau
        refine ⟨θ, he.put0 hi hau hf rfl 38 rfl rfl, ?_⟩
        exact hc
      · intro E θ a w hD hi hp he hc
        have e28 := hp.of (k := 28) rfl
        try dsimp only at hc
        rw [hi] at hc
        have hf := he.h0
        replace hf := hf.more he 38 rfl (onP e28)
        refine stBS (rows := ([(⟨r_12, r_15, (r_16.1 == 0)⟩ : share_Year)] : List share_Year).map enc_share_Year) (vs := [(0, .agg #[.int .i64 r_12.Lo, .int .i64 r_12.Hi, .int .i64 r_15.Lo, .int .i64 r_15.Hi, .bool (r_16.1 == 0)])]) hf hc rfl rfl sl_89 rfl ⟨rfl, rfl, rfl, trivial⟩ rfl rfl fun b_6 a w hf hc => ?_
        refine cNil ?_
        refine xThenN ?_
        intro ds u hau
        replace hc := hc.drop k1
        refine ⟨(setT θ 232 ⟨b_6, none, 0⟩), he.put hi hau hf rfl [] trivial ⟨qq, qq, qq, qq, qq, qq, qq, qq, qq, qq, qq, qq, qq, qq, qq, qq, qq, qq, qq, qq, qq, qq, qq, qq, qq, qq, qq, qq, qq, qq, qq, qq, qq, qq, qq, qq, qq, qq, qq, qq, qq, qq, trivial⟩, ?_⟩
        try dsimp only
        rw [updE_self E 29]
        exact hc
      · intro E θ a w hD hi hp he hc
        have e0 := hp.of (k := 0) rfl
        have e29 := hp.of (k := 29) rfl
        have e31 := hD.f 13 rfl hi
        try dsimp only at hc
        rw [e29, hi] at hc
        have hf := he.h0
        replace hf := hf.more he 10 rfl (onP e0)
        replace hf := hf.more he 39 rfl (onP e29)
        refine stApm (xs := l) (ys := ([(⟨r_12, r_15, (r_16.1 == 0)⟩ : share_Year)] : List share_Year)) hf hc rfl rfl sl_89 rfl rfl rfl rfl rfl one_enc_share_Year (src_row hc m0) (fun _ _ => u4) (by simpa using room_spec hun) fun p_4 c_4 a w hf hc => ?_
        refine cNil ?_
        refine xThenN ?_
        intro ds u hau
        refine ⟨(setT θ 240 ⟨0, p_4, c_4⟩), he.put hi hau hf rfl [31] ⟨⟨e31, rfl⟩, trivial⟩ ⟨qq, qq, qq, qq, qq, qq, qq, qq, qq, qq, qq, qq, qq, qq, qq, qq, qq, qq, qq, qq, qq, qq, qq, qq, qq, qq, qq, qq, qq, qq, qq, qq, qq, qq, qq, qq, qq, qq, qq, qq, qq, trivial, trivial⟩, ?_⟩
        try dsimp only
        rw [updE_tru 30 e29, updE_self E 30]
        exact hc
      · intro E θ a w hD hi hp he hc
        have e30 := hp.of (k := 30) rfl
        have hf := he.h0
        replace hf := hf.more he 40 rfl (onP e30)
        refine stP hf rfl rfl rfl (pA rfl) fun a hf => ?_
        refine cNil ?_
        refine xThenN ?_
        intro ds u hau
        refine ⟨θ, he.put0 hi hau hf rfl 41 rfl rfl, ?_⟩
        exact hc
      · intro E θ a w hall he hc
        have hf := he.h0
        have e4 := hall 4 rfl
        have e10 := hall 10 rfl
        have e16 := hall 16 rfl
        have e22 := hall 22 rfl
        have e26 := hall 26 rfl
        have e29 := hall 29 rfl
        have e30 := hall 30 rfl
        have e31 := hall 31 rfl
        replace hf := hf.more he 41 rfl (onP e31)
        replace hf := hf.more he 9 rfl (onT)
        replace hf := hf.more he 8 rfl (onT)
        replace hf := hf.more he 7 rfl (onT)
        replace hf := hf.more he 6 rfl (onT)
        replace hf := hf.more he 4 rfl (onT)
        replace hf := hf.more he 3 rfl (onT)
        replace hf := hf.more he 2 rfl (onT)
        replace hf := hf.more he 1 rfl (onT)
        replace hf := hf.more he 0 rfl (onT)
        try dsimp only at hc
        rw [e4, e10, e16, e22, e26, e29, e30] at hc
        exact ⟨(θ 240).p, (θ 240).c, (θ 232).b, hf.keep ⟨rfl, rfl, rfl, rfl, rfl, rfl, rfl, rfl, rfl, rfl, trivial⟩, hc⟩
      rintro a w ⟨p_5, c_5, b_7, hf, hc⟩
      refine h19 _ _ ?_
      refine cReg ?_
      refine stP hf rfl rfl rfl (pM rfl) fun a hf => ?_
      refine stE hf hc rfl rfl rfl (eLdN (vs := [.int .i64 r_8.1, .int .i64 r_9.1]) ag_97 rfl rfl (cells_box (n := 2) m1 rfl)) fun a w hf hc => ?_
      refine stBS (rows := ([(⟨r_8.1, r_9.1⟩ : share_Truth)] : List share_Truth).map enc_share_Truth) (vs := [(0, .agg #[.int .i64 r_8.1, .int .i64 r_9.1])]) hf hc rfl rfl sl_90 rfl ⟨rfl, rfl, rfl, trivial⟩ rfl rfl fun b_8 a w hf hc => ?_
      obtain ⟨un_1, hun_1, hF⟩ := bnd_some hF
      refine stApm (xs := truth) (ys := ([(⟨r_8.1, r_9.1⟩ : share_Truth)] : List share_Truth)) hf hc rfl rfl sl_90 rfl rfl rfl rfl rfl one_enc_share_Truth (src_row hc m0) (fun _ _ => u4) (by simpa using room_spec hun_1) fun p_6 c_6 a w hf hc => ?_
      refine stP hf rfl rfl rfl (pA rfl) fun a hf => ?_
      refine cNil ?_
      refine h17 _ _ ?_
      refine cReg ?_
      refine stP hf rfl rfl rfl (pAdd rfl rfl) fun a hf => ?_
      refine stP hf rfl rfl rfl (pM rfl) fun a hf => ?_
      refine cNil ?_
      replace hc := hc.drop k2
      replace hc := hc.drop k1
      replace hc := hc.drop k0
      replace hc := hc.pick k0
      replace hc := hc.pick k2
      replace hc := hc.pick k2
      exact hK13 ((l ++ [(⟨r_12, r_15, (r_16.1 == 0)⟩ : share_Year)]), (truth ++ [(⟨r_8.1, r_9.1⟩ : share_Truth)]), W (x_2 + 1), r_16.2.1, r_16.2.2) _ _ (Option.some.inj hF).symm ⟨p_5, c_5, p_6, c_6, hf.keep ⟨rfl, rfl, rfl, rfl, rfl, rfl, rfl, rfl, rfl, trivial⟩, hc⟩
    · replace hF := condF hb hF
      clear hb
      refine wp_exit ?_
      refine xThen ?_
      refine xThen ?_
      have he := Option.some.inj hF
      rw [← he] at hfin13
      refine cHit ?_
      exact hr13 _ _ _ hfin13 ⟨p_2, c_2, p_3, c_3, hf.keep ⟨rfl, rfl, rfl, rfl, rfl, rfl, rfl, rfl, rfl, trivial⟩, hc⟩
  have ho6 : ∀ r, x6 = .out r → r = res := by
    rintro r rfl
    exact Option.some.inj hF
  replace hc := hc.nilRow 116 2
  refine cLoop N (loopW (S := S6) (x := x6) ?_ N (r_1.1, r_2.1, 0, r_3.2.1, r_3.2.2, ([] : List share_Point)) _ _ ⟨none, 0, hf.keep ⟨rfl, rfl, rfl, rfl, rfl, rfl, rfl, rfl, rfl, trivial⟩, hc⟩ hx6)
  clear hF hf hc
  rintro ⟨index, due, x, b__0, b__1, x_1⟩ st6 a w KB6 ⟨p_1, c_1, hf, hc⟩ hF hfin6 hK6
  unfold law09_Bordered_b6 at hF
  refine wp_seq_k fun K20 h20 => ?_
  refine cReg ?_
  refine stP hf rfl rfl rfl (pLt rfl rfl) fun a hf => ?_
  refine cNil ?_
  refine h20 _ _ ?_
  refine wp_seq_k fun K21 h21 => ?_
  refine cCond (b := (decide (x < r_3.1))) hf rfl (fun hb => ?_) (fun hb => ?_)
  · replace hF := condT hb hF
    clear hb
    refine wp_skip ?_
    refine h21 _ _ ?_
    refine wp_seq_k fun K22 h22 => ?_
    refine wp_block ?_
    refine wp_seq_k fun K23 h23 => ?_
    refine cReg ?_
    refine stP hf rfl rfl rfl (pFA fa_88_0 rfl) fun a hf => ?_
    refine stE hf hc rfl rfl rfl (eLd1 sc_86 rfl (cell_box m2 rfl)) fun a w hf hc => ?_
    refine stP hf rfl rfl rfl (pM rfl) fun a hf => ?_
    refine stP hf rfl rfl rfl (pM rfl) fun a hf => ?_
    refine stP hf rfl rfl rfl (pBuildS (cells := [.int .i64 index, .int .i64 due]) bt_116 rfl rfl) fun a hf => ?_
    refine stBS (rows := ([(⟨index, due⟩ : share_Point)] : List share_Point).map enc_share_Point) (vs := [(0, .agg #[.int .i64 index, .int .i64 due])]) hf hc rfl rfl sl_86 rfl ⟨rfl, rfl, rfl, trivial⟩ rfl rfl fun b_9 a w hf hc => ?_
    obtain ⟨un_2, hun_2, hF⟩ := bnd_some hF
    refine stApm (xs := x_1) (ys := ([(⟨index, due⟩ : share_Point)] : List share_Point)) hf hc rfl rfl sl_86 rfl rfl rfl rfl rfl one_enc_share_Point (src_row hc m0) (fun _ _ => u1) (by simpa using room_spec hun_2) fun p_7 c_7 a w hf hc => ?_
    refine stP hf rfl rfl rfl (pFA fa_88_0 rfl) fun a hf => ?_
    refine stSt (vs := [.slice p_7 ((x_1 ++ [(⟨index, due⟩ : share_Point)]).length) c_7]) hf hc rfl rfl rfl rfl sz_86 rfl rfl u3 fun w hc => ?_
    refine cNil ?_
    refine h23 _ _ ?_
    refine cReg ?_
    refine stP hf rfl rfl rfl (pM rfl) fun a hf => ?_
    refine stP hf rfl rfl rfl (pM rfl) fun a hf => ?_
    obtain ⟨r_17, hr_17, hF⟩ := bnd_some hF
    refine stC (vs := [.pointer (some ⟨b_, 0, none⟩), .int .i64 1, .int .i64 60]) (caps := []) hf rfl rfl rfl en_28 rfl rfl rfl rfl (kit_Stream_Within_ok (⟨s_.bytes, b__0, b__1⟩ : kit_Stream) 1 60 h_s__bytes (hc.pick k2) hr_17) ?_
    rintro _ w ⟨rfl, hc⟩
    refine ⟨_, rfl, fun a hf => ?_⟩
    refine stP hf rfl rfl rfl (pAdd rfl rfl) fun a hf => ?_
    refine stP hf rfl rfl rfl (pM rfl) fun a hf => ?_
    refine stP hf rfl rfl rfl (pM rfl) fun a hf => ?_
    obtain ⟨r_18, hr_18, hF⟩ := bnd_some hF
    refine stC (vs := [.pointer (some ⟨b_, 0, none⟩), .int .i64 50]) (caps := []) hf rfl rfl rfl en_29 rfl rfl rfl rfl (kit_Stream_Next_ok (⟨s_.bytes, r_17.2.1, r_17.2.2⟩ : kit_Stream) 50 h_s__bytes (hc.pick k0) hr_18) ?_
    rintro _ w ⟨rfl, hc⟩
    refine ⟨_, rfl, fun a hf => ?_⟩
    refine stP hf rfl rfl rfl (pAdd rfl rfl) fun a hf => ?_
    refine stP hf rfl rfl rfl (pA rfl) fun a hf => ?_
    refine stP hf rfl rfl rfl (pA rfl) fun a hf => ?_
    refine cNil ?_
    refine h22 _ _ ?_
    refine cReg ?_
    refine stP hf rfl rfl rfl (pAdd rfl rfl) fun a hf => ?_
    refine stP hf rfl rfl rfl (pM rfl) fun a hf => ?_
    refine cNil ?_
    replace hc := hc.drop k1
    replace hc := hc.pick k0
    replace hc := hc.pick k1
    exact hK6 (W (index + r_17.1), W (due + r_18.1), W (x + 1), r_18.2.1, r_18.2.2, (x_1 ++ [(⟨index, due⟩ : share_Point)])) _ _ (Option.some.inj hF).symm ⟨p_7, c_7, hf.keep ⟨rfl, rfl, rfl, rfl, rfl, rfl, rfl, rfl, rfl, trivial⟩, hc⟩
  · replace hF := condF hb hF
    clear hb
    refine wp_exit ?_
    refine xThen ?_
    refine xThen ?_
    have he := Option.some.inj hF
    rw [← he] at hfin6
    refine cHit ?_
    exact hr6 _ _ _ hfin6 ⟨p_1, c_1, hf.keep ⟨rfl, rfl, rfl, rfl, rfl, rfl, rfl, rfl, rfl, trivial⟩, hc⟩

def share_in (n : Int) (least : Int) (greatest : Int) : Bool :=
  ((decide (least ≤ n)) && (decide (n ≤ greatest)))
theorem share_in_ok {G : Pers} {Lf : List Ent} {w : World} (n : Int) (least : Int) (greatest : Int)   (hc : Ctx G (Lf) w) {res : Bool} (hF : share_in n least greatest = res) : Calls Try.prog 70 #[.int .i64 n, .int .i64 least, .int .i64 greatest] w (fun e w => e = .returned (.bool res) ∧ Ctx G (Lf) w) := by
  unfold share_in at hF
  refine fnIn (args := [.int .i64 n, .int .i64 least, .int .i64 greatest]) Try.func70 rfl Try.ntmps70 rfl fun a hf => ?_
  refine wp_seq_k fun K1 h1 => ?_
  refine cReg ?_
  refine stP hf rfl rfl rfl (pA rfl) fun a hf => ?_
  refine cNil ?_
  refine h1 _ _ ?_
  refine wp_seq_k fun K2 h2 => ?_
  refine cReg ?_
  refine stP hf rfl rfl rfl (pM rfl) fun a hf => ?_
  refine stP hf rfl rfl rfl (pM rfl) fun a hf => ?_
  refine stP hf rfl rfl rfl (pGe rfl rfl) fun a hf => ?_
  refine stP hf rfl rfl rfl (pM rfl) fun a hf => ?_
  refine stCut 4 (fun a w => Has 15 a [(0, .int .i64 n), (1, .int .i64 least), (2, .int .i64 greatest), (6, .bool false), (7, .int .i64 n), (8, .int .i64 least), (9, .bool (decide (least ≤ n))), (10, .bool (decide (least ≤ n))), (14, .bool ((decide (least ≤ n)) && (decide (n ≤ greatest))))] ∧ Ctx G (Lf) w) ?_ ?_
  · cases hb : (decide (least ≤ n))
    · rw [hb] at hf
      refine stS hf rfl rfl rfl fun a hf => ?_
      refine stS hf rfl rfl rfl fun a hf => ?_
      refine stS hf rfl rfl rfl fun a hf => ?_
      refine stP hf rfl rfl rfl (pPf rfl rfl) fun a hf => ?_
      exact cNil ⟨hf.keep ⟨rfl, rfl, rfl, rfl, rfl, rfl, rfl, rfl, rfl, trivial⟩, hc⟩
    · rw [hb] at hf
      refine stP hf rfl rfl rfl (pM rfl) fun a hf => ?_
      refine stP hf rfl rfl rfl (pM rfl) fun a hf => ?_
      refine stP hf rfl rfl rfl (pLe rfl rfl) fun a hf => ?_
      refine stP hf rfl rfl rfl (pPt rfl rfl) fun a hf => ?_
      exact cNil ⟨hf.keep ⟨rfl, rfl, rfl, rfl, rfl, rfl, rfl, rfl, rfl, trivial⟩, hc⟩
  intro a w ⟨hf, hc⟩
  refine stP hf rfl rfl rfl (pA rfl) fun a hf => ?_
  refine cNil ?_
  refine h2 _ _ ?_
  refine wp_ret ?_
  obtain rfl := hF
  exact fnOut1 (by simp) rfl Try.results70 hf hc (show look _ 6 = _ from rfl) ⟨rfl, hc⟩

def share_water (n : Int) : Bool :=
  (share_in n 0 1000000000)
theorem share_water_ok {G : Pers} {Lf : List Ent} {w : World} (n : Int)   (hc : Ctx G (Lf) w) {res : Bool} (hF : share_water n = res) : Calls Try.prog 73 #[.int .i64 n] w (fun e w => e = .returned (.bool res) ∧ Ctx G (Lf) w) := by
  unfold share_water at hF
  refine fnIn (args := [.int .i64 n]) Try.func73 rfl Try.ntmps73 rfl fun a hf => ?_
  refine wp_seq_k fun K1 h1 => ?_
  refine cReg ?_
  refine stP hf rfl rfl rfl (pA rfl) fun a hf => ?_
  refine cNil ?_
  refine h1 _ _ ?_
  refine wp_seq_k fun K2 h2 => ?_
  refine cReg ?_
  refine stP hf rfl rfl rfl (pM rfl) fun a hf => ?_
  refine stE hf hc rfl rfl rfl (eC (v := .bool (share_in n 0 1000000000)) (vs := [.int .i64 n, .int .i64 0, .int .i64 1000000000]) (caps := []) en_70 rfl rfl rfl rfl (fun w hc => share_in_ok n 0 1000000000 hc rfl)) fun a w hf hc => ?_
  refine stP hf rfl rfl rfl (pA rfl) fun a hf => ?_
  refine cNil ?_
  refine h2 _ _ ?_
  refine wp_ret ?_
  obtain rfl := hF
  exact fnOut1 (by simp) rfl Try.results73 hf hc (show look _ 2 = _ from rfl) ⟨rfl, hc⟩

def share_CheckBorder_1 (p_ : share_Point) : Bool :=
  ((share_water p_.Index) && (share_water p_.Due))
theorem share_CheckBorder_1_ok {G : Pers} {Lf : List Ent} {w : World} (p_ : share_Point)   (hc : Ctx G (Lf) w) {res : Bool} (hF : share_CheckBorder_1 p_ = res) : Calls Try.prog 96 #[.agg #[.int .i64 p_.Index, .int .i64 p_.Due]] w (fun e w => e = .returned (.bool res) ∧ Ctx G (Lf) w) := by
  unfold share_CheckBorder_1 at hF
  refine fnIn (args := [.agg #[.int .i64 p_.Index, .int .i64 p_.Due]]) Try.func96 rfl Try.ntmps96 rfl fun a hf => ?_
  refine wp_seq_k fun K1 h1 => ?_
  refine cReg ?_
  refine stBx (cs := [.int .i64 p_.Index, .int .i64 p_.Due]) hf hc rfl rfl rfl rfl fun b_1 a w hf hc => ?_
  refine stP hf rfl rfl rfl (pA rfl) fun a hf => ?_
  refine cNil ?_
  refine h1 _ _ ?_
  refine wp_seq_k fun K2 h2 => ?_
  refine cReg ?_
  refine stP hf rfl rfl rfl (pFA fa_116_0 rfl) fun a hf => ?_
  refine stE hf hc rfl rfl rfl (eLd1 sc_3 rfl (cell_box m0 rfl)) fun a w hf hc => ?_
  refine stE hf hc rfl rfl rfl (eC (v := .bool (share_water p_.Index)) (vs := [.int .i64 p_.Index]) (caps := []) en_73 rfl rfl rfl rfl (fun w hc => share_water_ok p_.Index hc rfl)) fun a w hf hc => ?_
  refine stP hf rfl rfl rfl (pM rfl) fun a hf => ?_
  refine stCut 4 (fun a w => Has 11 a [(1, .pointer (some ⟨b_1, 0, none⟩)), (2, .bool false), (3, .pointer (some ⟨b_1, 0, none⟩)), (4, .int .i64 p_.Index), (5, .bool (share_water p_.Index)), (6, .bool (share_water p_.Index)), (10, .bool ((share_water p_.Index) && (share_water p_.Due)))] ∧ Ctx G (.box b_1 [.int .i64 p_.Index, .int .i64 p_.Due] 116 :: Lf) w) ?_ ?_
  · cases hb : (share_water p_.Index)
    · rw [hb] at hf
      refine stS hf rfl rfl rfl fun a hf => ?_
      refine stS hf rfl rfl rfl fun a hf => ?_
      refine stS hf rfl rfl rfl fun a hf => ?_
      refine stP hf rfl rfl rfl (pPf rfl rfl) fun a hf => ?_
      exact cNil ⟨hf.keep ⟨rfl, rfl, rfl, rfl, rfl, rfl, rfl, trivial⟩, hc⟩
    · rw [hb] at hf
      refine stP hf rfl rfl rfl (pFA fa_116_1 rfl) fun a hf => ?_
      refine stE hf hc rfl rfl rfl (eLd1 sc_3 rfl (cell_box m0 rfl)) fun a w hf hc => ?_
      refine stE hf hc rfl rfl rfl (eC (v := .bool (share_water p_.Due)) (vs := [.int .i64 p_.Due]) (caps := []) en_73 rfl rfl rfl rfl (fun w hc => share_water_ok p_.Due hc rfl)) fun a w hf hc => ?_
      refine stP hf rfl rfl rfl (pPt rfl rfl) fun a hf => ?_
      exact cNil ⟨hf.keep ⟨rfl, rfl, rfl, rfl, rfl, rfl, rfl, trivial⟩, hc⟩
  intro a w ⟨hf, hc⟩
  refine stP hf rfl rfl rfl (pA rfl) fun a hf => ?_
  refine cNil ?_
  refine h2 _ _ ?_
  refine wp_ret ?_
  obtain rfl := hF
  replace hc := hc.drop k0
  exact fnOut1 (by simp) rfl Try.results96 hf hc (show look _ 2 = _ from rfl) ⟨rfl, hc⟩

def share_every_share_Point_1 (x : share_Point) : Bool :=
  (!(share_CheckBorder_1 x))
theorem share_every_share_Point_1_ok {G : Pers} {Lf : List Ent} {w : World} (x : share_Point) {b_ : Nat}  (hc : Ctx G (.box b_ [.func (.func 96) #[] #[]] 182 :: Lf) w) {res : Bool} (hF : share_every_share_Point_1 x = res) : Calls Try.prog 124 #[.agg #[.int .i64 x.Index, .int .i64 x.Due], .pointer (some ⟨b_, 0, none⟩)] w (fun e w => e = .returned (.bool res) ∧ Ctx G (.box b_ [.func (.func 96) #[] #[]] 182 :: Lf) w) := by
  unfold share_every_share_Point_1 at hF
  refine fnIn (args := [.agg #[.int .i64 x.Index, .int .i64 x.Due], .pointer (some ⟨b_, 0, none⟩)]) Try.func124 rfl Try.ntmps124 rfl fun a hf => ?_
  refine wp_seq_k fun K1 h1 => ?_
  refine cReg ?_
  refine stBx (cs := [.int .i64 x.Index, .int .i64 x.Due]) hf hc rfl rfl rfl rfl fun b_1 a w hf hc => ?_
  refine stP hf rfl rfl rfl (pA rfl) fun a hf => ?_
  refine cNil ?_
  refine h1 _ _ ?_
  refine wp_seq_k fun K2 h2 => ?_
  refine cReg ?_
  refine stE hf hc rfl rfl rfl (eLd1 sc_182 rfl (cell_box m1 rfl)) fun a w hf hc => ?_
  refine stE hf hc rfl rfl rfl (eLdN (vs := [.int .i64 x.Index, .int .i64 x.Due]) ag_116 rfl rfl (cells_box (n := 2) m0 rfl)) fun a w hf hc => ?_
  refine stE hf hc rfl rfl rfl (eC (v := .bool (share_CheckBorder_1 x)) (vs := [.agg #[.int .i64 x.Index, .int .i64 x.Due]]) (caps := []) en_96 rfl rfl rfl rfl (fun w hc => share_CheckBorder_1_ok x hc rfl)) fun a w hf hc => ?_
  refine stP hf rfl rfl rfl (pNot rfl) fun a hf => ?_
  refine stP hf rfl rfl rfl (pA rfl) fun a hf => ?_
  refine cNil ?_
  refine h2 _ _ ?_
  refine wp_ret ?_
  obtain rfl := hF
  replace hc := hc.drop k0
  exact fnOut1 (by simp) rfl Try.results124 hf hc (show look _ 3 = _ from rfl) ⟨rfl, hc⟩

def slices_IndexFunc_Lshare_Point_share_Point_b4 (N : Nat) (s_ : List share_Point) (x : Int) : Option (Step (Int) (Int)) :=
  cond (decide (x < ((s_.length : Nat) : Int)))
  (Option.bind (getI s_ x) fun e_1 =>
  cond (share_every_share_Point_1 e_1)
  (some (.ret x))
  (some (.cont (W (x + 1)))))
  (some (.brk x))
def slices_IndexFunc_Lshare_Point_share_Point (N : Nat) (s_ : List share_Point) : Option (Int) :=
  Option.bind (loopO (fun s4 => slices_IndexFunc_Lshare_Point_share_Point_b4 N s_ s4) N 0) fun x4 =>
  exK x4 (fun s4 => some (-1)) some
theorem slices_IndexFunc_Lshare_Point_share_Point_ok {N : Nat} {G : Pers} {Lf : List Ent} {w : World} (s_ : List share_Point) {s__p : Option Addr} {s__c : Nat} {b_ : Nat} (h_s_ : Rd G 2 s__p s__c (s_.map enc_share_Point)) (hc : Ctx G (.box b_ [.func (.func 96) #[] #[]] 182 :: Lf) w) {res : Int} (hF : slices_IndexFunc_Lshare_Point_share_Point N s_ = some res) : Calls Try.prog 125 #[.slice s__p s_.length s__c, .func (.func 124) #[] #[.pointer (some ⟨b_, 0, none⟩)]] w (fun e w => e = .returned (.int .i64 res) ∧ Ctx G (.box b_ [.func (.func 96) #[] #[]] 182 :: Lf) w) := by
  unfold slices_IndexFunc_Lshare_Point_share_Point at hF
  refine fnIn (args := [.slice s__p s_.length s__c, .func (.func 124) #[] #[.pointer (some ⟨b_, 0, none⟩)]]) Try.func125 rfl Try.ntmps125 rfl fun a hf => ?_
  refine wp_seq_k fun K1 h1 => ?_
  refine cReg ?_
  refine stP hf rfl rfl rfl (pA rfl) fun a hf => ?_
  refine cNil ?_
  refine h1 _ _ ?_
  refine wp_seq_k fun K2 h2 => ?_
  refine wp_seq_k fun K3 h3 => ?_
  refine cReg ?_
  refine stP hf rfl rfl rfl (pM rfl) fun a hf => ?_
  refine stP hf rfl rfl rfl (pLenS Try.underlying86 rfl) fun a hf => ?_
  refine stP hf rfl rfl rfl (pM rfl) fun a hf => ?_
  refine cNil ?_
  refine h3 _ _ ?_
  refine wp_block ?_
  obtain ⟨x4, hx4, hF⟩ := bnd_some hF
  let S4 : Int → Act → World → Prop := (fun (zz : Int) a w => Has 19 a [(0, .slice s__p s_.length s__c), (1, .func (.func 124) #[] #[.pointer (some ⟨b_, 0, none⟩)]), (7, .int .i64 ((s_.length : Nat) : Int)), (8, .int .i64 zz)] ∧ Ctx G (.box b_ [.func (.func 96) #[] #[]] 182 :: Lf) w)
  have hr4 : ∀ (zz : Int) a w, x4 = .go zz → S4 zz a w → K2 a w := by
    rintro x a w rfl ⟨hf, hc⟩
    replace hF : _ = some res := hF
    refine h2 _ _ ?_
    refine wp_seq_k fun K5 h5 => ?_
    refine cReg ?_
    refine stP hf rfl rfl rfl (pA rfl) fun a hf => ?_
    refine cNil ?_
    refine h5 _ _ ?_
    refine wp_ret ?_
    obtain rfl := Option.some.inj hF
    exact fnOut1 (by simp) rfl Try.results125 hf hc (show look _ 4 = _ from rfl) ⟨rfl, hc⟩
  have ho4 : ∀ r, x4 = .out r → r = res := by
    rintro r rfl
    exact Option.some.inj hF
  refine cLoop N (loopW (S := S4) (x := x4) ?_ N 0 _ _ ⟨hf.keep ⟨rfl, rfl, rfl, rfl, trivial⟩, hc⟩ hx4)
  clear hF hf hc
  rintro x st4 a w KB4 ⟨hf, hc⟩ hF hfin4 hK4
  unfold slices_IndexFunc_Lshare_Point_share_Point_b4 at hF
  refine wp_seq_k fun K6 h6 => ?_
  refine cReg ?_
  refine stP hf rfl rfl rfl (pLt rfl rfl) fun a hf => ?_
  refine cNil ?_
  refine h6 _ _ ?_
  refine wp_seq_k fun K7 h7 => ?_
  refine cCond (b := (decide (x < ((s_.length : Nat) : Int)))) hf rfl (fun hb => ?_) (fun hb => ?_)
  · replace hF := condT hb hF
    clear hb
    refine wp_skip ?_
    refine h7 _ _ ?_
    refine wp_seq_k fun K8 h8 => ?_
    refine wp_block ?_
    refine wp_seq_k fun K9 h9 => ?_
    refine cReg ?_
    refine stP hf rfl rfl rfl (pM rfl) fun a hf => ?_
    refine stP hf rfl rfl rfl (pA rfl) fun a hf => ?_
    refine cNil ?_
    refine h9 _ _ ?_
    refine wp_seq_k fun K10 h10 => ?_
    refine cReg ?_
    refine stP hf rfl rfl rfl (pM rfl) fun a hf => ?_
    refine stP hf rfl rfl rfl (pM rfl) fun a hf => ?_
    refine stP hf rfl rfl rfl (pM rfl) fun a hf => ?_
    obtain ⟨e_1, he_1, hF⟩ := bnd_some hF
    obtain ⟨b_1, o, qa, qp⟩ := h_s_.atm he_1
    refine stP hf rfl rfl rfl (pIA Try.underlying86 sz_116 rfl rfl qa) fun a hf => ?_
    refine stE hf hc rfl rfl rfl (eLdN (vs := [.int .i64 e_1.Index, .int .i64 e_1.Due]) ag_116 rfl rfl (cells_pc qp (n := 2) (o' := 0) rfl)) fun a w hf hc => ?_
    refine stE hf hc rfl rfl rfl (eC (v := .bool (share_every_share_Point_1 e_1)) (vs := [.agg #[.int .i64 e_1.Index, .int .i64 e_1.Due]]) (caps := [.pointer (some ⟨b_, 0, none⟩)]) en_124 rfl rfl rfl rfl (fun w hc => (share_every_share_Point_1_ok e_1 (hc.pick k0) rfl).mono fun e w h => ⟨h.1, (h.2.unpick k0)⟩)) fun a w hf hc => ?_
    refine cNil ?_
    refine h10 _ _ ?_
    refine cCond (b := (share_every_share_Point_1 e_1)) hf rfl (fun hb => ?_) (fun hb => ?_)
    · replace hF := condT hb hF
      clear hb
      refine wp_seq_k fun K11 h11 => ?_
      refine cReg ?_
      refine stP hf rfl rfl rfl (pM rfl) fun a hf => ?_
      refine stP hf rfl rfl rfl (pA rfl) fun a hf => ?_
      refine cNil ?_
      refine h11 _ _ ?_
      refine wp_ret ?_
      refine xBlkR ?_
      refine xThenR ?_
      refine xThenR ?_
      have he := Option.some.inj hF
      rw [← he] at hfin4
      replace hF := ho4 _ hfin4
      refine xBlkR ?_
      refine xThenR ?_
      obtain rfl := hF
      exact fnOut1 (by simp) rfl Try.results125 hf hc (show look _ 4 = _ from rfl) ⟨rfl, hc⟩
    · replace hF := condF hb hF
      clear hb
      refine wp_skip ?_
      refine h8 _ _ ?_
      refine cReg ?_
      refine stP hf rfl rfl rfl (pAdd rfl rfl) fun a hf => ?_
      refine stP hf rfl rfl rfl (pM rfl) fun a hf => ?_
      refine cNil ?_
      exact hK4 (W (x + 1)) _ _ (Option.some.inj hF).symm ⟨hf.keep ⟨rfl, rfl, rfl, rfl, trivial⟩, hc⟩
  · replace hF := condF hb hF
    clear hb
    refine wp_exit ?_
    refine xThen ?_
    refine xThen ?_
    have he := Option.some.inj hF
    rw [← he] at hfin4
    refine cHit ?_
    exact hr4 _ _ _ hfin4 ⟨hf.keep ⟨rfl, rfl, rfl, rfl, trivial⟩, hc⟩

def slices_ContainsFunc_Lshare_Point_share_Point (N : Nat) (s_ : List share_Point) : Option (Bool) :=
  Option.bind (slices_IndexFunc_Lshare_Point_share_Point N s_) fun r =>
  some (decide (0 ≤ r))
theorem slices_ContainsFunc_Lshare_Point_share_Point_ok {N : Nat} {G : Pers} {Lf : List Ent} {w : World} (s_ : List share_Point) {s__p : Option Addr} {s__c : Nat} {b_ : Nat} (h_s_ : Rd G 2 s__p s__c (s_.map enc_share_Point)) (hc : Ctx G (.box b_ [.func (.func 96) #[] #[]] 182 :: Lf) w) {res : Bool} (hF : slices_ContainsFunc_Lshare_Point_share_Point N s_ = some res) : Calls Try.prog 123 #[.slice s__p s_.length s__c, .func (.func 124) #[] #[.pointer (some ⟨b_, 0, none⟩)]] w (fun e w => e = .returned (.bool res) ∧ Ctx G (.box b_ [.func (.func 96) #[] #[]] 182 :: Lf) w) := by
  unfold slices_ContainsFunc_Lshare_Point_share_Point at hF
  refine fnIn (args := [.slice s__p s_.length s__c, .func (.func 124) #[] #[.pointer (some ⟨b_, 0, none⟩)]]) Try.func123 rfl Try.ntmps123 rfl fun a hf => ?_
  refine wp_seq_k fun K1 h1 => ?_
  refine cReg ?_
  refine stP hf rfl rfl rfl (pA rfl) fun a hf => ?_
  refine cNil ?_
  refine h1 _ _ ?_
  refine wp_seq_k fun K2 h2 => ?_
  refine cReg ?_
  refine stP hf rfl rfl rfl (pM rfl) fun a hf => ?_
  refine stP hf rfl rfl rfl (pM rfl) fun a hf => ?_
  obtain ⟨r, hr, hF⟩ := bnd_some hF
  refine stE hf hc rfl rfl rfl (eC (v := .int .i64 r) (vs := [.slice s__p s_.length s__c, .func (.func 124) #[] #[.pointer (some ⟨b_, 0, none⟩)]]) (caps := []) en_125 rfl rfl rfl rfl (fun w hc => (slices_IndexFunc_Lshare_Point_share_Point_ok s_ h_s_ (hc.pick k0) hr).mono fun e w h => ⟨h.1, (h.2.unpick k0)⟩)) fun a w hf hc => ?_
  refine stP hf rfl rfl rfl (pGe rfl rfl) fun a hf => ?_
  refine stP hf rfl rfl rfl (pA rfl) fun a hf => ?_
  refine cNil ?_
  refine h2 _ _ ?_
  refine wp_ret ?_
  obtain rfl := Option.some.inj hF
  exact fnOut1 (by simp) rfl Try.results123 hf hc (show look _ 4 = _ from rfl) ⟨rfl, hc⟩

def share_every_share_Point (N : Nat) (l : List share_Point) : Option (Bool) :=
  Option.bind (slices_ContainsFunc_Lshare_Point_share_Point N l) fun r =>
  some (!r)
theorem share_every_share_Point_ok {N : Nat} {G : Pers} {Lf : List Ent} {w : World} (l : List share_Point) {l_p : Option Addr} {l_c : Nat} (h_l : Rd G 2 l_p l_c (l.map enc_share_Point)) (hc : Ctx G (Lf) w) {res : Bool} (hF : share_every_share_Point N l = some res) : Calls Try.prog 95 #[.slice l_p l.length l_c, .func (.func 96) #[] #[]] w (fun e w => e = .returned (.bool res) ∧ Ctx G (Lf) w) := by
  unfold share_every_share_Point at hF
  refine fnIn (args := [.slice l_p l.length l_c, .func (.func 96) #[] #[]]) Try.func95 rfl Try.ntmps95 rfl fun a hf => ?_
  refine wp_seq_k fun K1 h1 => ?_
  refine cReg ?_
  refine stBx (cs := [.func (.func 96) #[] #[]]) hf hc rfl rfl rfl rfl fun b_1 a w hf hc => ?_
  refine stP hf rfl rfl rfl (pA rfl) fun a hf => ?_
  refine cNil ?_
  refine h1 _ _ ?_
  refine wp_seq_k fun K2 h2 => ?_
  refine cReg ?_
  refine stP hf rfl rfl rfl (pM rfl) fun a hf => ?_
  refine stP hf rfl rfl rfl (pMF (us := [.pointer (some ⟨b_1, 0, none⟩)]) rfl rfl) fun a hf => ?_
  obtain ⟨r, hr, hF⟩ := bnd_some hF
  refine stE hf hc rfl rfl rfl (eC (v := .bool r) (vs := [.slice l_p l.length l_c, .func (.func 124) #[] #[.pointer (some ⟨b_1, 0, none⟩)]]) (caps := []) en_123 rfl rfl rfl rfl (fun w hc => (slices_ContainsFunc_Lshare_Point_share_Point_ok l h_l (hc.pick k0) hr).mono fun e w h => ⟨h.1, (h.2.unpick k0)⟩)) fun a w hf hc => ?_
  refine stP hf rfl rfl rfl (pNot rfl) fun a hf => ?_
  refine stP hf rfl rfl rfl (pA rfl) fun a hf => ?_
  refine cNil ?_
  refine h2 _ _ ?_
  refine wp_ret ?_
  obtain rfl := Option.some.inj hF
  replace hc := hc.drop k0
  exact fnOut1 (by simp) rfl Try.results95 hf hc (show look _ 4 = _ from rfl) ⟨rfl, hc⟩

def share_CheckBorder_b9 (N : Nat) (b_ : share_Border) (sub : List share_Point) (x : Int) : Option (Step (Int) (Int)) :=
  cond (decide (x < ((sub.length : Nat) : Int)))
  (Option.bind (getI b_.Table x) fun e_1 =>
  Option.bind (getI b_.Table (W (x + 1))) fun e_2 =>
  cond ((decide (e_2.Index ≤ e_1.Index)) || (decide (e_2.Due < e_1.Due)))
  (some (.ret 9))
  (some (.cont (W (x + 1)))))
  (some (.brk x))
def share_CheckBorder (N : Nat) (b_ : share_Border) : Option (Int) :=
  cond (!(share_in ((b_.Table.length : Nat) : Int) 2 12))
  (some 3)
  (Option.bind (share_every_share_Point N b_.Table) fun r =>
  cond ((!r) || (!(share_water b_.Credit)))
  (some 100)
  (Option.bind (subO b_.Table 1 ((b_.Table.length : Nat) : Int)) fun sub =>
  Option.bind (loopO (fun s9 => share_CheckBorder_b9 N b_ sub s9) N 0) fun x9 =>
  exK x9 (fun s9 => some 0) some))
theorem share_CheckBorder_ok {N : Nat} {G : Pers} {Lf : List Ent} {w : World} (b_ : share_Border) {b__Table_p : Option Addr} {b__Table_c : Nat} (h_b__Table : Rd G 2 b__Table_p b__Table_c (b_.Table.map enc_share_Point)) (hc : Ctx G (Lf) w) {res : Int} (hF : share_CheckBorder N b_ = some res) : Calls Try.prog 47 #[.agg #[.slice b__Table_p b_.Table.length b__Table_c, .int .i64 b_.Credit]] w (fun e w => e = .returned (.int .i64 res) ∧ Ctx G (Lf) w) := by
  unfold share_CheckBorder at hF
  refine fnIn (args := [.agg #[.slice b__Table_p b_.Table.length b__Table_c, .int .i64 b_.Credit]]) Try.func47 rfl Try.ntmps47 rfl fun a hf => ?_
  refine wp_seq_k fun K1 h1 => ?_
  refine cReg ?_
  refine stBx (cs := [.slice b__Table_p b_.Table.length b__Table_c, .int .i64 b_.Credit]) hf hc rfl rfl rfl rfl fun b_1 a w hf hc => ?_
  refine stP hf rfl rfl rfl (pA rfl) fun a hf => ?_
  refine cNil ?_
  refine h1 _ _ ?_
  refine wp_seq_k fun K2 h2 => ?_
  refine wp_block ?_
  refine wp_seq_k fun K3 h3 => ?_
  refine cReg ?_
  refine stP hf rfl rfl rfl (pFA fa_88_0 rfl) fun a hf => ?_
  refine stE hf hc rfl rfl rfl (eLd1 sc_86 rfl (cell_box m0 rfl)) fun a w hf hc => ?_
  refine stP hf rfl rfl rfl (pLenS Try.underlying86 rfl) fun a hf => ?_
  refine stE hf hc rfl rfl rfl (eC (v := .bool (share_in ((b_.Table.length : Nat) : Int) 2 12)) (vs := [.int .i64 ((b_.Table.length : Nat) : Int), .int .i64 2, .int .i64 12]) (caps := []) en_70 rfl rfl rfl rfl (fun w hc => share_in_ok ((b_.Table.length : Nat) : Int) 2 12 hc rfl)) fun a w hf hc => ?_
  refine stP hf rfl rfl rfl (pNot rfl) fun a hf => ?_
  refine stP hf rfl rfl rfl (pA rfl) fun a hf => ?_
  refine cNil ?_
  refine h3 _ _ ?_
  refine cCond (b := (!(share_in ((b_.Table.length : Nat) : Int) 2 12))) hf rfl (fun hb => ?_) (fun hb => ?_)
  · replace hF := condT hb hF
    clear hb
    refine wp_seq_k fun K4 h4 => ?_
    refine cReg ?_
    refine stP hf rfl rfl rfl (pA rfl) fun a hf => ?_
    refine cNil ?_
    refine h4 _ _ ?_
    refine wp_ret ?_
    refine xBlkR ?_
    refine xThenR ?_
    obtain rfl := Option.some.inj hF
    replace hc := hc.drop k0
    exact fnOut1 (by simp) rfl Try.results47 hf hc (show look _ 2 = _ from rfl) ⟨rfl, hc⟩
  · replace hF := condF hb hF
    clear hb
    refine wp_seq_k fun K5 h5 => ?_
    refine cReg ?_
    refine stP hf rfl rfl rfl (pFA fa_88_0 rfl) fun a hf => ?_
    refine stE hf hc rfl rfl rfl (eLd1 sc_86 rfl (cell_box m0 rfl)) fun a w hf hc => ?_
    obtain ⟨r, hr, hF⟩ := bnd_some hF
    refine stE hf hc rfl rfl rfl (eC (v := .bool r) (vs := [.slice b__Table_p b_.Table.length b__Table_c, .func (.func 96) #[] #[]]) (caps := []) en_95 rfl rfl rfl rfl (fun w hc => share_every_share_Point_ok b_.Table h_b__Table hc hr)) fun a w hf hc => ?_
    refine stP hf rfl rfl rfl (pNot rfl) fun a hf => ?_
    refine stP hf rfl rfl rfl (pM rfl) fun a hf => ?_
    refine stCut 5 (fun a w => Has 54 a [(1, .pointer (some ⟨b_1, 0, none⟩)), (13, .pointer (some ⟨b_1, 0, none⟩)), (14, .slice b__Table_p b_.Table.length b__Table_c), (15, .bool r), (16, .bool (!r)), (17, .bool (!r)), (22, .bool ((!r) || (!(share_water b_.Credit))))] ∧ Ctx G (.box b_1 [.slice b__Table_p b_.Table.length b__Table_c, .int .i64 b_.Credit] 88 :: Lf) w) ?_ ?_
    · cases hb : (!r)
      · rw [hb] at hf
        refine stP hf rfl rfl rfl (pFA fa_88_1 rfl) fun a hf => ?_
        refine stE hf hc rfl rfl rfl (eLd1 sc_3 rfl (cell_box m0 rfl)) fun a w hf hc => ?_
        refine stE hf hc rfl rfl rfl (eC (v := .bool (share_water b_.Credit)) (vs := [.int .i64 b_.Credit]) (caps := []) en_73 rfl rfl rfl rfl (fun w hc => share_water_ok b_.Credit hc rfl)) fun a w hf hc => ?_
        refine stP hf rfl rfl rfl (pNot rfl) fun a hf => ?_
        refine stP hf rfl rfl rfl (pPf rfl rfl) fun a hf => ?_
        exact cNil ⟨hf.keep ⟨rfl, rfl, rfl, rfl, rfl, rfl, rfl, trivial⟩, hc⟩
      · rw [hb] at hf
        refine stS hf rfl rfl rfl fun a hf => ?_
        refine stS hf rfl rfl rfl fun a hf => ?_
        refine stS hf rfl rfl rfl fun a hf => ?_
        refine stS hf rfl rfl rfl fun a hf => ?_
        refine stP hf rfl rfl rfl (pPt rfl rfl) fun a hf => ?_
        exact cNil ⟨hf.keep ⟨rfl, rfl, rfl, rfl, rfl, rfl, rfl, trivial⟩, hc⟩
    intro a w ⟨hf, hc⟩
    refine stP hf rfl rfl rfl (pA rfl) fun a hf => ?_
    refine cNil ?_
    refine h5 _ _ ?_
    refine cCond (b := ((!r) || (!(share_water b_.Credit)))) hf rfl (fun hb => ?_) (fun hb => ?_)
    · replace hF := condT hb hF
      clear hb
      refine wp_seq_k fun K6 h6 => ?_
      refine cReg ?_
      refine stP hf rfl rfl rfl (pA rfl) fun a hf => ?_
      refine cNil ?_
      refine h6 _ _ ?_
      refine wp_ret ?_
      refine xBlkR ?_
      refine xThenR ?_
      obtain rfl := Option.some.inj hF
      replace hc := hc.drop k0
      exact fnOut1 (by simp) rfl Try.results47 hf hc (show look _ 2 = _ from rfl) ⟨rfl, hc⟩
    · replace hF := condF hb hF
      clear hb
      refine wp_skip ?_
      refine h2 _ _ ?_
      refine wp_seq_k fun K7 h7 => ?_
      refine wp_seq_k fun K8 h8 => ?_
      refine cReg ?_
      refine stP hf rfl rfl rfl (pFA fa_88_0 rfl) fun a hf => ?_
      refine stE hf hc rfl rfl rfl (eLd1 sc_86 rfl (cell_box m0 rfl)) fun a w hf hc => ?_
      obtain ⟨sub, hsub, hF⟩ := bnd_some hF
      have qs := Rd.sub h_b__Table hsub
      refine stP hf rfl rfl rfl (pSl Try.underlying86 sz_116 rfl rfl (by simpa using h_b__Table.1) rfl rfl hsub) fun a hf => ?_
      refine stP hf rfl rfl rfl (pLenS Try.underlying86 rfl) fun a hf => ?_
      refine stP hf rfl rfl rfl (pM rfl) fun a hf => ?_
      refine cNil ?_
      refine h8 _ _ ?_
      refine wp_block ?_
      obtain ⟨x9, hx9, hF⟩ := bnd_some hF
      let S9 : Int → Act → World → Prop := (fun (zz : Int) a w => Has 54 a [(1, .pointer (some ⟨b_1, 0, none⟩)), (26, .int .i64 ((sub.length : Nat) : Int)), (27, .int .i64 zz)] ∧ Ctx G (.box b_1 [.slice b__Table_p b_.Table.length b__Table_c, .int .i64 b_.Credit] 88 :: Lf) w)
      have hr9 : ∀ (zz : Int) a w, x9 = .go zz → S9 zz a w → K7 a w := by
        rintro x a w rfl ⟨hf, hc⟩
        replace hF : _ = some res := hF
        refine h7 _ _ ?_
        refine wp_seq_k fun K10 h10 => ?_
        refine cReg ?_
        refine stP hf rfl rfl rfl (pA rfl) fun a hf => ?_
        refine cNil ?_
        refine h10 _ _ ?_
        refine wp_ret ?_
        obtain rfl := Option.some.inj hF
        replace hc := hc.drop k0
        exact fnOut1 (by simp) rfl Try.results47 hf hc (show look _ 2 = _ from rfl) ⟨rfl, hc⟩
      have ho9 : ∀ r, x9 = .out r → r = res := by
        rintro r rfl
        exact Option.some.inj hF
      refine cLoop N (loopW (S := S9) (x := x9) ?_ N 0 _ _ ⟨hf.keep ⟨rfl, rfl, rfl, trivial⟩, hc⟩ hx9)
      clear hF hf hc
      rintro x st9 a w KB9 ⟨hf, hc⟩ hF hfin9 hK9
      unfold share_CheckBorder_b9 at hF
      refine wp_seq_k fun K11 h11 => ?_
      refine cReg ?_
      refine stP hf rfl rfl rfl (pLt rfl rfl) fun a hf => ?_
      refine cNil ?_
      refine h11 _ _ ?_
      refine wp_seq_k fun K12 h12 => ?_
      refine cCond (b := (decide (x < ((sub.length : Nat) : Int)))) hf rfl (fun hb => ?_) (fun hb => ?_)
      · replace hF := condT hb hF
        clear hb
        refine wp_skip ?_
        refine h12 _ _ ?_
        refine wp_seq_k fun K13 h13 => ?_
        refine wp_block ?_
        refine wp_seq_k fun K14 h14 => ?_
        refine cReg ?_
        refine stP hf rfl rfl rfl (pM rfl) fun a hf => ?_
        refine stP hf rfl rfl rfl (pA rfl) fun a hf => ?_
        refine cNil ?_
        refine h14 _ _ ?_
        refine wp_seq_k fun K15 h15 => ?_
        obtain ⟨e_1, he_1, hF⟩ := bnd_some hF
        obtain ⟨b_2, o, qa, qp⟩ := h_b__Table.atm he_1
        obtain ⟨e_2, he_2, hF⟩ := bnd_some hF
        obtain ⟨b_3, o_1, qa_1, qp_1⟩ := h_b__Table.atm he_2
        replace hc := hc.nilRow 0 0
        replace hc := hc.nilRow 0 0
        refine regionE (fun θ => [⟨none, none, 1, .pointer (some ⟨b_1, 0, none⟩)⟩, ⟨none, none, 3, .int .i64 x⟩, ⟨none, none, 26, .int .i64 ((sub.length : Nat) : Int)⟩, ⟨none, none, 27, .int .i64 x⟩, ⟨some 0, none, 30, .pointer (some ⟨b_1, 0, none⟩)⟩, ⟨some 1, none, 31, .slice b__Table_p b_.Table.length b__Table_c⟩, ⟨some 2, none, 32, .int .i64 x⟩, ⟨some 3, none, 33, .pointer (some ⟨b_2, o, none⟩)⟩, ⟨some 4, none, 34, .agg #[.int .i64 e_1.Index, .int .i64 e_1.Due]⟩, ⟨some 5, none, 35, .pointer (some ⟨b_1, 0, none⟩)⟩, ⟨some 6, none, 36, .slice b__Table_p b_.Table.length b__Table_c⟩, ⟨some 7, none, 37, .int .i64 x⟩, ⟨some 8, none, 38, .int .i64 (W (x + 1))⟩, ⟨some 9, none, 39, .pointer (some ⟨b_3, o_1, none⟩)⟩, ⟨some 10, none, 40, .agg #[.int .i64 e_2.Index, .int .i64 e_2.Due]⟩, ⟨some 11, none, 4, .pointer (some ⟨(θ 88).b, 0, none⟩)⟩, ⟨some 12, none, 5, .pointer (some ⟨(θ 96).b, 0, none⟩)⟩]) (fun E θ => (bif E 14 then .box (θ 96).b [.int .i64 e_2.Index, .int .i64 e_2.Due] 116 else bif E 12 then .box (θ 96).b [.int .i64 0, .int .i64 0] 116 else .row none 0 [] 0 0) :: (bif E 13 then .box (θ 88).b [.int .i64 e_1.Index, .int .i64 e_1.Due] 116 else bif E 11 then .box (θ 88).b [.int .i64 0, .int .i64 0] 116 else .row none 0 [] 0 0) :: .box b_1 [.slice b__Table_p b_.Table.length b__Table_c, .int .i64 b_.Credit] 88 :: Lf) [(13, 11), (14, 12)] (fun a w => ∃ (b_6 : Nat) (b_7 : Nat), Has 54 a [(1, .pointer (some ⟨b_1, 0, none⟩)), (26, .int .i64 ((sub.length : Nat) : Int)), (27, .int .i64 x), (4, .pointer (some ⟨b_6, 0, none⟩)), (5, .pointer (some ⟨b_7, 0, none⟩))] ∧ Ctx G (.box b_7 [.int .i64 e_2.Index, .int .i64 e_2.Due] 116 :: .box b_6 [.int .i64 e_1.Index, .int .i64 e_1.Due] 116 :: .box b_1 [.slice b__Table_p b_.Table.length b__Table_c, .int .i64 b_.Credit] 88 :: Lf) w) follows_mx (by kernel_rfl) (by kernel_rfl) (HasE.of hf ⟨rfl, rfl, rfl, rfl, trivial, trivial, trivial, trivial, trivial, trivial, trivial, trivial, trivial, trivial, trivial, trivial, trivial, trivial⟩) hc ⟨?_, ?_, ?_, ?_, ?_, ?_, ?_, ?_, ?_, ?_, ?_, ?_, ?_, ?_, ?_, trivial⟩ ?_ ?_
        · intro E θ a w hD hi hp he hc
          have hf := he.h0
          replace hf := hf.more he 0 rfl onT
          refine stP hf rfl rfl rfl (pFA fa_88_0 rfl) fun a hf => ?_
          refine cNil ?_
          refine xThenN ?_
          intro ds u hau
          refine ⟨θ, he.put0 hi hau hf rfl 4 rfl rfl, ?_⟩
          exact hc
        · intro E θ a w hD hi hp he hc
          have e0 := hp.of (k := 0) rfl
          have hf := he.h0
          replace hf := hf.more he 4 rfl (onP e0)
          refine stE hf hc rfl rfl rfl (eLd1 sc_86 rfl (cell_box m2 rfl)) fun a w hf hc => ?_
          refine cNil ?_
          refine xThenN ?_
          intro ds u hau
          refine ⟨θ, he.put0 hi hau hf rfl 5 rfl rfl, ?_⟩
          exact hc
        · intro E θ a w hD hi hp he hc
          have hf := he.h0
          replace hf := hf.more he 1 rfl onT
          refine stP hf rfl rfl rfl (pM rfl) fun a hf => ?_
          refine cNil ?_
          refine xThenN ?_
          intro ds u hau
          refine ⟨θ, he.put0 hi hau hf rfl 6 rfl rfl, ?_⟩
          exact hc
        · intro E θ a w hD hi hp he hc
          have e1 := hp.of (k := 1) rfl
          have e2 := hp.of (k := 2) rfl
          have hf := he.h0
          replace hf := hf.more he 5 rfl (onP e1)
          replace hf := hf.more he 6 rfl (onP e2)
          refine stP hf rfl rfl rfl (pIA Try.underlying86 sz_116 rfl rfl qa) fun a hf => ?_
          refine cNil ?_
          refine xThenN ?_
          intro ds u hau
          refine ⟨θ, he.put0 hi hau hf rfl 7 rfl rfl, ?_⟩
          exact hc
        · intro E θ a w hD hi hp he hc
          have e3 := hp.of (k := 3) rfl
          have hf := he.h0
          replace hf := hf.more he 7 rfl (onP e3)
          refine stE hf hc rfl rfl rfl (eLdN (vs := [.int .i64 e_1.Index, .int .i64 e_1.Due]) ag_116 rfl rfl (cells_pc qp (n := 2) (o' := 0) rfl)) fun a w hf hc => ?_
          refine cNil ?_
          refine xThenN ?_
          intro ds u hau
          refine ⟨θ, he.put0 hi hau hf rfl 8 rfl rfl, ?_⟩
          exact hc
        · intro E θ a w hD hi hp he hc
          have hf := he.h0
          replace hf := hf.more he 0 rfl onT
          refine stP hf rfl rfl rfl (pFA fa_88_0 rfl) fun a hf => ?_
          refine cNil ?_
          refine xThenN ?_
          intro ds u hau
          refine ⟨θ, he.put0 hi hau hf rfl 9 rfl rfl, ?_⟩
          exact hc
        · intro E θ a w hD hi hp he hc
          have e5 := hp.of (k := 5) rfl
          have hf := he.h0
          replace hf := hf.more he 9 rfl (onP e5)
          refine stE hf hc rfl rfl rfl (eLd1 sc_86 rfl (cell_box m2 rfl)) fun a w hf hc => ?_
          refine cNil ?_
          refine xThenN ?_
          intro ds u hau
          refine ⟨θ, he.put0 hi hau hf rfl 10 rfl rfl, ?_⟩
          exact hc
        · intro E θ a w hD hi hp he hc
          have hf := he.h0
          replace hf := hf.more he 1 rfl onT
          refine stP hf rfl rfl rfl (pM rfl) fun a hf => ?_
          refine cNil ?_
          refine xThenN ?_
          intro ds u hau
          refine ⟨θ, he.put0 hi hau hf rfl 11 rfl rfl, ?_⟩
          exact hc
        · intro E θ a w hD hi hp he hc
          have e7 := hp.of (k := 7) rfl
          have hf := he.h0
          replace hf := hf.more he 11 rfl (onP e7)
          refine stP hf rfl rfl rfl (pAdd rfl rfl) fun a hf => ?_
          refine cNil ?_
          refine xThenN ?_
          intro ds u hau
          refine ⟨θ, he.put0 hi hau hf rfl 12 rfl rfl, ?_⟩
          exact hc
        · intro E θ a w hD hi hp he hc
          have e6 := hp.of (k := 6) rfl
          have e8 := hp.of (k := 8) rfl
          have hf := he.h0
          replace hf := hf.more he 10 rfl (onP e6)
          replace hf := hf.more he 12 rfl (onP e8)
          refine stP hf rfl rfl rfl (pIA Try.underlying86 sz_116 rfl rfl qa_1) fun a hf => ?_
          refine cNil ?_
          refine xThenN ?_
          intro ds u hau
          refine ⟨θ, he.put0 hi hau hf rfl 13 rfl rfl, ?_⟩
          exact hc
        · intro E θ a w hD hi hp he hc
          have e9 := hp.of (k := 9) rfl
          have hf := he.h0
          replace hf := hf.more he 13 rfl (onP e9)
          refine stE hf hc rfl rfl rfl (eLdN (vs := [.int .i64 e_2.Index, .int .i64 e_2.Due]) ag_116 rfl rfl (cells_pc qp_1 (n := 2) (o' := 0) rfl)) fun a w hf hc => ?_
          refine cNil ?_
          refine xThenN ?_
          intro ds u hau
          refine ⟨θ, he.put0 hi hau hf rfl 14 rfl rfl, ?_⟩
          exact hc
        · intro E θ a w hD hi hp he hc
          have e13 := hD.f 0 rfl hi
          try dsimp only at hc
          rw [hi, e13] at hc
          have hf := he.h0
          refine stAl (cs := [.int .i64 0, .int .i64 0]) hf hc rfl rfl zr_116 rfl fun b_4 a w hf hc => ?_
          refine cNil ?_
          refine xThenN ?_
          intro ds u hau
          replace hc := hc.drop k2
          replace hc := hc.pick k0
          replace hc := hc.pick k1
          refine ⟨(setT θ 88 ⟨b_4, none, 0⟩), he.put hi hau hf rfl [] trivial ⟨qq, qq, qq, qq, qq, qq, qq, qq, qq, qq, qq, qq, qq, qq, qq, qq, qq, trivial⟩, ?_⟩
          try dsimp only
          rw [updE_self E 11, updE_fls 11 e13 rfl]
          exact hc
        · intro E θ a w hD hi hp he hc
          have e14 := hD.f 1 rfl hi
          try dsimp only at hc
          rw [hi, e14] at hc
          have hf := he.h0
          refine stAl (cs := [.int .i64 0, .int .i64 0]) hf hc rfl rfl zr_116 rfl fun b_5 a w hf hc => ?_
          refine cNil ?_
          refine xThenN ?_
          intro ds u hau
          replace hc := hc.drop k1
          refine ⟨(setT θ 96 ⟨b_5, none, 0⟩), he.put hi hau hf rfl [] trivial ⟨qq, qq, qq, qq, qq, qq, qq, qq, qq, qq, qq, qq, qq, qq, qq, qq, qq, trivial⟩, ?_⟩
          try dsimp only
          rw [updE_self E 12, updE_fls 12 e14 rfl]
          exact hc
        · intro E θ a w hD hi hp he hc
          have e4 := hp.of (k := 4) rfl
          have e11 := hp.of (k := 11) rfl
          try dsimp only at hc
          rw [e11, hi] at hc
          have hf := he.h0
          replace hf := hf.more he 8 rfl (onP e4)
          replace hf := hf.more he 15 rfl (onP e11)
          refine stSt (vs := [.int .i64 e_1.Index, .int .i64 e_1.Due]) hf hc rfl rfl rfl rfl sz_116 rfl rfl u1 fun w hc => ?_
          refine cNil ?_
          refine xThenN ?_
          intro ds u hau
          refine ⟨θ, he.stay0 hi hau hf rfl, ?_⟩
          try dsimp only
          rw [updE_tru 13 e11, updE_self E 13]
          exact hc
        · intro E θ a w hD hi hp he hc
          have e10 := hp.of (k := 10) rfl
          have e12 := hp.of (k := 12) rfl
          try dsimp only at hc
          rw [e12, hi] at hc
          have hf := he.h0
          replace hf := hf.more he 14 rfl (onP e10)
          replace hf := hf.more he 16 rfl (onP e12)
          refine stSt (vs := [.int .i64 e_2.Index, .int .i64 e_2.Due]) hf hc rfl rfl rfl rfl sz_116 rfl rfl u0 fun w hc => ?_
          refine cNil ?_
          refine xThenN ?_
          intro ds u hau
          refine ⟨θ, he.stay0 hi hau hf rfl, ?_⟩
          try dsimp only
          rw [updE_tru 14 e12, updE_self E 14]
          exact hc
        · intro E θ a w hall he hc
          have hf := he.h0
          have e11 := hall 11 rfl
          have e12 := hall 12 rfl
          have e13 := hall 13 rfl
          have e14 := hall 14 rfl
          replace hf := hf.more he 16 rfl (onP e12)
          replace hf := hf.more he 15 rfl (onP e11)
          replace hf := hf.more he 3 rfl (onT)
          replace hf := hf.more he 2 rfl (onT)
          replace hf := hf.more he 0 rfl (onT)
          try dsimp only at hc
          rw [e11, e12, e13, e14] at hc
          exact ⟨(θ 88).b, (θ 96).b, hf.keep ⟨rfl, rfl, rfl, rfl, rfl, trivial⟩, hc⟩
        rintro a w ⟨b_6, b_7, hf, hc⟩
        refine h15 _ _ ?_
        refine wp_seq_k fun K16 h16 => ?_
        refine cReg ?_
        refine stP hf rfl rfl rfl (pFA fa_116_0 rfl) fun a hf => ?_
        refine stE hf hc rfl rfl rfl (eLd1 sc_3 rfl (cell_box m0 rfl)) fun a w hf hc => ?_
        refine stP hf rfl rfl rfl (pFA fa_116_0 rfl) fun a hf => ?_
        refine stE hf hc rfl rfl rfl (eLd1 sc_3 rfl (cell_box m1 rfl)) fun a w hf hc => ?_
        refine stP hf rfl rfl rfl (pLe rfl rfl) fun a hf => ?_
        refine stP hf rfl rfl rfl (pM rfl) fun a hf => ?_
        refine stCut 6 (fun a w => Has 54 a [(1, .pointer (some ⟨b_1, 0, none⟩)), (26, .int .i64 ((sub.length : Nat) : Int)), (27, .int .i64 x), (4, .pointer (some ⟨b_6, 0, none⟩)), (5, .pointer (some ⟨b_7, 0, none⟩)), (41, .pointer (some ⟨b_7, 0, none⟩)), (42, .int .i64 e_2.Index), (43, .pointer (some ⟨b_6, 0, none⟩)), (44, .int .i64 e_1.Index), (45, .bool (decide (e_2.Index ≤ e_1.Index))), (46, .bool (decide (e_2.Index ≤ e_1.Index))), (52, .bool ((decide (e_2.Index ≤ e_1.Index)) || (decide (e_2.Due < e_1.Due))))] ∧ Ctx G (.box b_7 [.int .i64 e_2.Index, .int .i64 e_2.Due] 116 :: .box b_6 [.int .i64 e_1.Index, .int .i64 e_1.Due] 116 :: .box b_1 [.slice b__Table_p b_.Table.length b__Table_c, .int .i64 b_.Credit] 88 :: Lf) w) ?_ ?_
        · cases hb : (decide (e_2.Index ≤ e_1.Index))
          · rw [hb] at hf
            refine stP hf rfl rfl rfl (pFA fa_116_1 rfl) fun a hf => ?_
            refine stE hf hc rfl rfl rfl (eLd1 sc_3 rfl (cell_box m0 rfl)) fun a w hf hc => ?_
            refine stP hf rfl rfl rfl (pFA fa_116_1 rfl) fun a hf => ?_
            refine stE hf hc rfl rfl rfl (eLd1 sc_3 rfl (cell_box m1 rfl)) fun a w hf hc => ?_
            refine stP hf rfl rfl rfl (pLt rfl rfl) fun a hf => ?_
            refine stP hf rfl rfl rfl (pPf rfl rfl) fun a hf => ?_
            exact cNil ⟨hf.keep ⟨rfl, rfl, rfl, rfl, rfl, rfl, rfl, rfl, rfl, rfl, rfl, rfl, trivial⟩, hc⟩
          · rw [hb] at hf
            refine stS hf rfl rfl rfl fun a hf => ?_
            refine stS hf rfl rfl rfl fun a hf => ?_
            refine stS hf rfl rfl rfl fun a hf => ?_
            refine stS hf rfl rfl rfl fun a hf => ?_
            refine stS hf rfl rfl rfl fun a hf => ?_
            refine stP hf rfl rfl rfl (pPt rfl rfl) fun a hf => ?_
            exact cNil ⟨hf.keep ⟨rfl, rfl, rfl, rfl, rfl, rfl, rfl, rfl, rfl, rfl, rfl, rfl, trivial⟩, hc⟩
        intro a w ⟨hf, hc⟩
        refine cNil ?_
        refine h16 _ _ ?_
        refine cCond (b := ((decide (e_2.Index ≤ e_1.Index)) || (decide (e_2.Due < e_1.Due)))) hf rfl (fun hb => ?_) (fun hb => ?_)
        · replace hF := condT hb hF
          clear hb
          refine wp_seq_k fun K17 h17 => ?_
          refine cReg ?_
          refine stP hf rfl rfl rfl (pA rfl) fun a hf => ?_
          refine cNil ?_
          refine h17 _ _ ?_
          refine wp_ret ?_
          refine xBlkR ?_
          refine xThenR ?_
          refine xThenR ?_
          have he := Option.some.inj hF
          rw [← he] at hfin9
          replace hF := ho9 _ hfin9
          refine xBlkR ?_
          refine xThenR ?_
          obtain rfl := hF
          replace hc := hc.drop k2
          replace hc := hc.drop k1
          replace hc := hc.drop k0
          exact fnOut1 (by simp) rfl Try.results47 hf hc (show look _ 2 = _ from rfl) ⟨rfl, hc⟩
        · replace hF := condF hb hF
          clear hb
          refine wp_skip ?_
          refine h13 _ _ ?_
          refine cReg ?_
          refine stP hf rfl rfl rfl (pAdd rfl rfl) fun a hf => ?_
          refine stP hf rfl rfl rfl (pM rfl) fun a hf => ?_
          refine cNil ?_
          replace hc := hc.drop k1
          replace hc := hc.drop k0
          exact hK9 (W (x + 1)) _ _ (Option.some.inj hF).symm ⟨hf.keep ⟨rfl, rfl, rfl, trivial⟩, hc⟩
      · replace hF := condF hb hF
        clear hb
        refine wp_exit ?_
        refine xThen ?_
        refine xThen ?_
        have he := Option.some.inj hF
        rw [← he] at hfin9
        refine cHit ?_
        exact hr9 _ _ _ hfin9 ⟨hf.keep ⟨rfl, rfl, rfl, trivial⟩, hc⟩

def share_waters (s_ : api_Span) : Bool :=
  ((share_in s_.Lo 0 s_.Hi) && (share_water s_.Hi))
theorem share_waters_ok {G : Pers} {Lf : List Ent} {w : World} (s_ : api_Span)   (hc : Ctx G (Lf) w) {res : Bool} (hF : share_waters s_ = res) : Calls Try.prog 77 #[.agg #[.int .i64 s_.Lo, .int .i64 s_.Hi]] w (fun e w => e = .returned (.bool res) ∧ Ctx G (Lf) w) := by
  unfold share_waters at hF
  refine fnIn (args := [.agg #[.int .i64 s_.Lo, .int .i64 s_.Hi]]) Try.func77 rfl Try.ntmps77 rfl fun a hf => ?_
  refine wp_seq_k fun K1 h1 => ?_
  refine cReg ?_
  refine stBx (cs := [.int .i64 s_.Lo, .int .i64 s_.Hi]) hf hc rfl rfl rfl rfl fun b_1 a w hf hc => ?_
  refine stP hf rfl rfl rfl (pA rfl) fun a hf => ?_
  refine cNil ?_
  refine h1 _ _ ?_
  refine wp_seq_k fun K2 h2 => ?_
  refine cReg ?_
  refine stP hf rfl rfl rfl (pFA fa_26_0 rfl) fun a hf => ?_
  refine stE hf hc rfl rfl rfl (eLd1 sc_3 rfl (cell_box m0 rfl)) fun a w hf hc => ?_
  refine stP hf rfl rfl rfl (pFA fa_26_1 rfl) fun a hf => ?_
  refine stE hf hc rfl rfl rfl (eLd1 sc_3 rfl (cell_box m0 rfl)) fun a w hf hc => ?_
  refine stE hf hc rfl rfl rfl (eC (v := .bool (share_in s_.Lo 0 s_.Hi)) (vs := [.int .i64 s_.Lo, .int .i64 0, .int .i64 s_.Hi]) (caps := []) en_70 rfl rfl rfl rfl (fun w hc => share_in_ok s_.Lo 0 s_.Hi hc rfl)) fun a w hf hc => ?_
  refine stP hf rfl rfl rfl (pM rfl) fun a hf => ?_
  refine stCut 4 (fun a w => Has 13 a [(1, .pointer (some ⟨b_1, 0, none⟩)), (2, .bool false), (3, .pointer (some ⟨b_1, 0, none⟩)), (4, .int .i64 s_.Lo), (5, .pointer (some ⟨b_1, 1, none⟩)), (6, .int .i64 s_.Hi), (7, .bool (share_in s_.Lo 0 s_.Hi)), (8, .bool (share_in s_.Lo 0 s_.Hi)), (12, .bool ((share_in s_.Lo 0 s_.Hi) && (share_water s_.Hi)))] ∧ Ctx G (.box b_1 [.int .i64 s_.Lo, .int .i64 s_.Hi] 26 :: Lf) w) ?_ ?_
  · cases hb : (share_in s_.Lo 0 s_.Hi)
    · rw [hb] at hf
      refine stS hf rfl rfl rfl fun a hf => ?_
      refine stS hf rfl rfl rfl fun a hf => ?_
      refine stS hf rfl rfl rfl fun a hf => ?_
      refine stP hf rfl rfl rfl (pPf rfl rfl) fun a hf => ?_
      exact cNil ⟨hf.keep ⟨rfl, rfl, rfl, rfl, rfl, rfl, rfl, rfl, rfl, trivial⟩, hc⟩
    · rw [hb] at hf
      refine stP hf rfl rfl rfl (pFA fa_26_1 rfl) fun a hf => ?_
      refine stE hf hc rfl rfl rfl (eLd1 sc_3 rfl (cell_box m0 rfl)) fun a w hf hc => ?_
      refine stE hf hc rfl rfl rfl (eC (v := .bool (share_water s_.Hi)) (vs := [.int .i64 s_.Hi]) (caps := []) en_73 rfl rfl rfl rfl (fun w hc => share_water_ok s_.Hi hc rfl)) fun a w hf hc => ?_
      refine stP hf rfl rfl rfl (pPt rfl rfl) fun a hf => ?_
      exact cNil ⟨hf.keep ⟨rfl, rfl, rfl, rfl, rfl, rfl, rfl, rfl, rfl, trivial⟩, hc⟩
  intro a w ⟨hf, hc⟩
  refine stP hf rfl rfl rfl (pA rfl) fun a hf => ?_
  refine cNil ?_
  refine h2 _ _ ?_
  refine wp_ret ?_
  obtain rfl := hF
  replace hc := hc.drop k0
  exact fnOut1 (by simp) rfl Try.results77 hf hc (show look _ 2 = _ from rfl) ⟨rfl, hc⟩

def share_asked_1 (y : share_Year) : Bool :=
  ((share_waters y.Index) && (share_waters y.Delivered))
theorem share_asked_1_ok {G : Pers} {Lf : List Ent} {w : World} (y : share_Year)   (hc : Ctx G (Lf) w) {res : Bool} (hF : share_asked_1 y = res) : Calls Try.prog 128 #[.agg #[.int .i64 y.Index.Lo, .int .i64 y.Index.Hi, .int .i64 y.Delivered.Lo, .int .i64 y.Delivered.Hi, .bool y.Spill]] w (fun e w => e = .returned (.bool res) ∧ Ctx G (Lf) w) := by
  unfold share_asked_1 at hF
  refine fnIn (args := [.agg #[.int .i64 y.Index.Lo, .int .i64 y.Index.Hi, .int .i64 y.Delivered.Lo, .int .i64 y.Delivered.Hi, .bool y.Spill]]) Try.func128 rfl Try.ntmps128 rfl fun a hf => ?_
  refine wp_seq_k fun K1 h1 => ?_
  refine cReg ?_
  refine stBx (cs := [.int .i64 y.Index.Lo, .int .i64 y.Index.Hi, .int .i64 y.Delivered.Lo, .int .i64 y.Delivered.Hi, .bool y.Spill]) hf hc rfl rfl rfl rfl fun b_1 a w hf hc => ?_
  refine stP hf rfl rfl rfl (pA rfl) fun a hf => ?_
  refine cNil ?_
  refine h1 _ _ ?_
  refine wp_seq_k fun K2 h2 => ?_
  refine cReg ?_
  refine stP hf rfl rfl rfl (pFA fa_94_0 rfl) fun a hf => ?_
  refine stE hf hc rfl rfl rfl (eLdN (vs := [.int .i64 y.Index.Lo, .int .i64 y.Index.Hi]) ag_26 rfl rfl (cells_box (n := 2) m0 rfl)) fun a w hf hc => ?_
  refine stE hf hc rfl rfl rfl (eC (v := .bool (share_waters y.Index)) (vs := [.agg #[.int .i64 y.Index.Lo, .int .i64 y.Index.Hi]]) (caps := []) en_77 rfl rfl rfl rfl (fun w hc => share_waters_ok y.Index hc rfl)) fun a w hf hc => ?_
  refine stP hf rfl rfl rfl (pM rfl) fun a hf => ?_
  refine stCut 4 (fun a w => Has 11 a [(1, .pointer (some ⟨b_1, 0, none⟩)), (2, .bool false), (3, .pointer (some ⟨b_1, 0, none⟩)), (4, .agg #[.int .i64 y.Index.Lo, .int .i64 y.Index.Hi]), (5, .bool (share_waters y.Index)), (6, .bool (share_waters y.Index)), (10, .bool ((share_waters y.Index) && (share_waters y.Delivered)))] ∧ Ctx G (.box b_1 [.int .i64 y.Index.Lo, .int .i64 y.Index.Hi, .int .i64 y.Delivered.Lo, .int .i64 y.Delivered.Hi, .bool y.Spill] 94 :: Lf) w) ?_ ?_
  · cases hb : (share_waters y.Index)
    · rw [hb] at hf
      refine stS hf rfl rfl rfl fun a hf => ?_
      refine stS hf rfl rfl rfl fun a hf => ?_
      refine stS hf rfl rfl rfl fun a hf => ?_
      refine stP hf rfl rfl rfl (pPf rfl rfl) fun a hf => ?_
      exact cNil ⟨hf.keep ⟨rfl, rfl, rfl, rfl, rfl, rfl, rfl, trivial⟩, hc⟩
    · rw [hb] at hf
      refine stP hf rfl rfl rfl (pFA fa_94_1 rfl) fun a hf => ?_
      refine stE hf hc rfl rfl rfl (eLdN (vs := [.int .i64 y.Delivered.Lo, .int .i64 y.Delivered.Hi]) ag_26 rfl rfl (cells_box (n := 2) m0 rfl)) fun a w hf hc => ?_
      refine stE hf hc rfl rfl rfl (eC (v := .bool (share_waters y.Delivered)) (vs := [.agg #[.int .i64 y.Delivered.Lo, .int .i64 y.Delivered.Hi]]) (caps := []) en_77 rfl rfl rfl rfl (fun w hc => share_waters_ok y.Delivered hc rfl)) fun a w hf hc => ?_
      refine stP hf rfl rfl rfl (pPt rfl rfl) fun a hf => ?_
      exact cNil ⟨hf.keep ⟨rfl, rfl, rfl, rfl, rfl, rfl, rfl, trivial⟩, hc⟩
  intro a w ⟨hf, hc⟩
  refine stP hf rfl rfl rfl (pA rfl) fun a hf => ?_
  refine cNil ?_
  refine h2 _ _ ?_
  refine wp_ret ?_
  obtain rfl := hF
  replace hc := hc.drop k0
  exact fnOut1 (by simp) rfl Try.results128 hf hc (show look _ 2 = _ from rfl) ⟨rfl, hc⟩

def share_every_share_Year_1 (x : share_Year) : Bool :=
  (!(share_asked_1 x))
theorem share_every_share_Year_1_ok {G : Pers} {Lf : List Ent} {w : World} (x : share_Year) {b_ : Nat}  (hc : Ctx G (.box b_ [.func (.func 128) #[] #[]] 212 :: Lf) w) {res : Bool} (hF : share_every_share_Year_1 x = res) : Calls Try.prog 147 #[.agg #[.int .i64 x.Index.Lo, .int .i64 x.Index.Hi, .int .i64 x.Delivered.Lo, .int .i64 x.Delivered.Hi, .bool x.Spill], .pointer (some ⟨b_, 0, none⟩)] w (fun e w => e = .returned (.bool res) ∧ Ctx G (.box b_ [.func (.func 128) #[] #[]] 212 :: Lf) w) := by
  unfold share_every_share_Year_1 at hF
  refine fnIn (args := [.agg #[.int .i64 x.Index.Lo, .int .i64 x.Index.Hi, .int .i64 x.Delivered.Lo, .int .i64 x.Delivered.Hi, .bool x.Spill], .pointer (some ⟨b_, 0, none⟩)]) Try.func147 rfl Try.ntmps147 rfl fun a hf => ?_
  refine wp_seq_k fun K1 h1 => ?_
  refine cReg ?_
  refine stBx (cs := [.int .i64 x.Index.Lo, .int .i64 x.Index.Hi, .int .i64 x.Delivered.Lo, .int .i64 x.Delivered.Hi, .bool x.Spill]) hf hc rfl rfl rfl rfl fun b_1 a w hf hc => ?_
  refine stP hf rfl rfl rfl (pA rfl) fun a hf => ?_
  refine cNil ?_
  refine h1 _ _ ?_
  refine wp_seq_k fun K2 h2 => ?_
  refine cReg ?_
  refine stE hf hc rfl rfl rfl (eLd1 sc_212 rfl (cell_box m1 rfl)) fun a w hf hc => ?_
  refine stE hf hc rfl rfl rfl (eLdN (vs := [.int .i64 x.Index.Lo, .int .i64 x.Index.Hi, .int .i64 x.Delivered.Lo, .int .i64 x.Delivered.Hi, .bool x.Spill]) ag_94 rfl rfl (cells_box (n := 5) m0 rfl)) fun a w hf hc => ?_
  refine stE hf hc rfl rfl rfl (eC (v := .bool (share_asked_1 x)) (vs := [.agg #[.int .i64 x.Index.Lo, .int .i64 x.Index.Hi, .int .i64 x.Delivered.Lo, .int .i64 x.Delivered.Hi, .bool x.Spill]]) (caps := []) en_128 rfl rfl rfl rfl (fun w hc => share_asked_1_ok x hc rfl)) fun a w hf hc => ?_
  refine stP hf rfl rfl rfl (pNot rfl) fun a hf => ?_
  refine stP hf rfl rfl rfl (pA rfl) fun a hf => ?_
  refine cNil ?_
  refine h2 _ _ ?_
  refine wp_ret ?_
  obtain rfl := hF
  replace hc := hc.drop k0
  exact fnOut1 (by simp) rfl Try.results147 hf hc (show look _ 3 = _ from rfl) ⟨rfl, hc⟩

def slices_IndexFunc_Lshare_Year_share_Year_b4 (N : Nat) (s_ : List share_Year) (x : Int) : Option (Step (Int) (Int)) :=
  cond (decide (x < ((s_.length : Nat) : Int)))
  (Option.bind (getI s_ x) fun e_1 =>
  cond (share_every_share_Year_1 e_1)
  (some (.ret x))
  (some (.cont (W (x + 1)))))
  (some (.brk x))
def slices_IndexFunc_Lshare_Year_share_Year (N : Nat) (s_ : List share_Year) : Option (Int) :=
  Option.bind (loopO (fun s4 => slices_IndexFunc_Lshare_Year_share_Year_b4 N s_ s4) N 0) fun x4 =>
  exK x4 (fun s4 => some (-1)) some
theorem slices_IndexFunc_Lshare_Year_share_Year_ok {N : Nat} {G : Pers} {Lf : List Ent} {w : World} (s_ : List share_Year) {s__p : Option Addr} {s__c : Nat} {b_ : Nat} (h_s_ : Rd G 5 s__p s__c (s_.map enc_share_Year)) (hc : Ctx G (.box b_ [.func (.func 128) #[] #[]] 212 :: Lf) w) {res : Int} (hF : slices_IndexFunc_Lshare_Year_share_Year N s_ = some res) : Calls Try.prog 156 #[.slice s__p s_.length s__c, .func (.func 147) #[] #[.pointer (some ⟨b_, 0, none⟩)]] w (fun e w => e = .returned (.int .i64 res) ∧ Ctx G (.box b_ [.func (.func 128) #[] #[]] 212 :: Lf) w) := by
  unfold slices_IndexFunc_Lshare_Year_share_Year at hF
  refine fnIn (args := [.slice s__p s_.length s__c, .func (.func 147) #[] #[.pointer (some ⟨b_, 0, none⟩)]]) Try.func156 rfl Try.ntmps156 rfl fun a hf => ?_
  refine wp_seq_k fun K1 h1 => ?_
  refine cReg ?_
  refine stP hf rfl rfl rfl (pA rfl) fun a hf => ?_
  refine cNil ?_
  refine h1 _ _ ?_
  refine wp_seq_k fun K2 h2 => ?_
  refine wp_seq_k fun K3 h3 => ?_
  refine cReg ?_
  refine stP hf rfl rfl rfl (pM rfl) fun a hf => ?_
  refine stP hf rfl rfl rfl (pLenS Try.underlying89 rfl) fun a hf => ?_
  refine stP hf rfl rfl rfl (pM rfl) fun a hf => ?_
  refine cNil ?_
  refine h3 _ _ ?_
  refine wp_block ?_
  obtain ⟨x4, hx4, hF⟩ := bnd_some hF
  let S4 : Int → Act → World → Prop := (fun (zz : Int) a w => Has 19 a [(0, .slice s__p s_.length s__c), (1, .func (.func 147) #[] #[.pointer (some ⟨b_, 0, none⟩)]), (7, .int .i64 ((s_.length : Nat) : Int)), (8, .int .i64 zz)] ∧ Ctx G (.box b_ [.func (.func 128) #[] #[]] 212 :: Lf) w)
  have hr4 : ∀ (zz : Int) a w, x4 = .go zz → S4 zz a w → K2 a w := by
    rintro x a w rfl ⟨hf, hc⟩
    replace hF : _ = some res := hF
    refine h2 _ _ ?_
    refine wp_seq_k fun K5 h5 => ?_
    refine cReg ?_
    refine stP hf rfl rfl rfl (pA rfl) fun a hf => ?_
    refine cNil ?_
    refine h5 _ _ ?_
    refine wp_ret ?_
    obtain rfl := Option.some.inj hF
    exact fnOut1 (by simp) rfl Try.results156 hf hc (show look _ 4 = _ from rfl) ⟨rfl, hc⟩
  have ho4 : ∀ r, x4 = .out r → r = res := by
    rintro r rfl
    exact Option.some.inj hF
  refine cLoop N (loopW (S := S4) (x := x4) ?_ N 0 _ _ ⟨hf.keep ⟨rfl, rfl, rfl, rfl, trivial⟩, hc⟩ hx4)
  clear hF hf hc
  rintro x st4 a w KB4 ⟨hf, hc⟩ hF hfin4 hK4
  unfold slices_IndexFunc_Lshare_Year_share_Year_b4 at hF
  refine wp_seq_k fun K6 h6 => ?_
  refine cReg ?_
  refine stP hf rfl rfl rfl (pLt rfl rfl) fun a hf => ?_
  refine cNil ?_
  refine h6 _ _ ?_
  refine wp_seq_k fun K7 h7 => ?_
  refine cCond (b := (decide (x < ((s_.length : Nat) : Int)))) hf rfl (fun hb => ?_) (fun hb => ?_)
  · replace hF := condT hb hF
    clear hb
    refine wp_skip ?_
    refine h7 _ _ ?_
    refine wp_seq_k fun K8 h8 => ?_
    refine wp_block ?_
    refine wp_seq_k fun K9 h9 => ?_
    refine cReg ?_
    refine stP hf rfl rfl rfl (pM rfl) fun a hf => ?_
    refine stP hf rfl rfl rfl (pA rfl) fun a hf => ?_
    refine cNil ?_
    refine h9 _ _ ?_
    refine wp_seq_k fun K10 h10 => ?_
    refine cReg ?_
    refine stP hf rfl rfl rfl (pM rfl) fun a hf => ?_
    refine stP hf rfl rfl rfl (pM rfl) fun a hf => ?_
    refine stP hf rfl rfl rfl (pM rfl) fun a hf => ?_
    obtain ⟨e_1, he_1, hF⟩ := bnd_some hF
    obtain ⟨b_1, o, qa, qp⟩ := h_s_.atm he_1
    refine stP hf rfl rfl rfl (pIA Try.underlying89 sz_94 rfl rfl qa) fun a hf => ?_
    refine stE hf hc rfl rfl rfl (eLdN (vs := [.int .i64 e_1.Index.Lo, .int .i64 e_1.Index.Hi, .int .i64 e_1.Delivered.Lo, .int .i64 e_1.Delivered.Hi, .bool e_1.Spill]) ag_94 rfl rfl (cells_pc qp (n := 5) (o' := 0) rfl)) fun a w hf hc => ?_
    refine stE hf hc rfl rfl rfl (eC (v := .bool (share_every_share_Year_1 e_1)) (vs := [.agg #[.int .i64 e_1.Index.Lo, .int .i64 e_1.Index.Hi, .int .i64 e_1.Delivered.Lo, .int .i64 e_1.Delivered.Hi, .bool e_1.Spill]]) (caps := [.pointer (some ⟨b_, 0, none⟩)]) en_147 rfl rfl rfl rfl (fun w hc => (share_every_share_Year_1_ok e_1 (hc.pick k0) rfl).mono fun e w h => ⟨h.1, (h.2.unpick k0)⟩)) fun a w hf hc => ?_
    refine cNil ?_
    refine h10 _ _ ?_
    refine cCond (b := (share_every_share_Year_1 e_1)) hf rfl (fun hb => ?_) (fun hb => ?_)
    · replace hF := condT hb hF
      clear hb
      refine wp_seq_k fun K11 h11 => ?_
      refine cReg ?_
      refine stP hf rfl rfl rfl (pM rfl) fun a hf => ?_
      refine stP hf rfl rfl rfl (pA rfl) fun a hf => ?_
      refine cNil ?_
      refine h11 _ _ ?_
      refine wp_ret ?_
      refine xBlkR ?_
      refine xThenR ?_
      refine xThenR ?_
      have he := Option.some.inj hF
      rw [← he] at hfin4
      replace hF := ho4 _ hfin4
      refine xBlkR ?_
      refine xThenR ?_
      obtain rfl := hF
      exact fnOut1 (by simp) rfl Try.results156 hf hc (show look _ 4 = _ from rfl) ⟨rfl, hc⟩
    · replace hF := condF hb hF
      clear hb
      refine wp_skip ?_
      refine h8 _ _ ?_
      refine cReg ?_
      refine stP hf rfl rfl rfl (pAdd rfl rfl) fun a hf => ?_
      refine stP hf rfl rfl rfl (pM rfl) fun a hf => ?_
      refine cNil ?_
      exact hK4 (W (x + 1)) _ _ (Option.some.inj hF).symm ⟨hf.keep ⟨rfl, rfl, rfl, rfl, trivial⟩, hc⟩
  · replace hF := condF hb hF
    clear hb
    refine wp_exit ?_
    refine xThen ?_
    refine xThen ?_
    have he := Option.some.inj hF
    rw [← he] at hfin4
    refine cHit ?_
    exact hr4 _ _ _ hfin4 ⟨hf.keep ⟨rfl, rfl, rfl, rfl, trivial⟩, hc⟩

def slices_ContainsFunc_Lshare_Year_share_Year (N : Nat) (s_ : List share_Year) : Option (Bool) :=
  Option.bind (slices_IndexFunc_Lshare_Year_share_Year N s_) fun r =>
  some (decide (0 ≤ r))
theorem slices_ContainsFunc_Lshare_Year_share_Year_ok {N : Nat} {G : Pers} {Lf : List Ent} {w : World} (s_ : List share_Year) {s__p : Option Addr} {s__c : Nat} {b_ : Nat} (h_s_ : Rd G 5 s__p s__c (s_.map enc_share_Year)) (hc : Ctx G (.box b_ [.func (.func 128) #[] #[]] 212 :: Lf) w) {res : Bool} (hF : slices_ContainsFunc_Lshare_Year_share_Year N s_ = some res) : Calls Try.prog 146 #[.slice s__p s_.length s__c, .func (.func 147) #[] #[.pointer (some ⟨b_, 0, none⟩)]] w (fun e w => e = .returned (.bool res) ∧ Ctx G (.box b_ [.func (.func 128) #[] #[]] 212 :: Lf) w) := by
  unfold slices_ContainsFunc_Lshare_Year_share_Year at hF
  refine fnIn (args := [.slice s__p s_.length s__c, .func (.func 147) #[] #[.pointer (some ⟨b_, 0, none⟩)]]) Try.func146 rfl Try.ntmps146 rfl fun a hf => ?_
  refine wp_seq_k fun K1 h1 => ?_
  refine cReg ?_
  refine stP hf rfl rfl rfl (pA rfl) fun a hf => ?_
  refine cNil ?_
  refine h1 _ _ ?_
  refine wp_seq_k fun K2 h2 => ?_
  refine cReg ?_
  refine stP hf rfl rfl rfl (pM rfl) fun a hf => ?_
  refine stP hf rfl rfl rfl (pM rfl) fun a hf => ?_
  obtain ⟨r, hr, hF⟩ := bnd_some hF
  refine stE hf hc rfl rfl rfl (eC (v := .int .i64 r) (vs := [.slice s__p s_.length s__c, .func (.func 147) #[] #[.pointer (some ⟨b_, 0, none⟩)]]) (caps := []) en_156 rfl rfl rfl rfl (fun w hc => (slices_IndexFunc_Lshare_Year_share_Year_ok s_ h_s_ (hc.pick k0) hr).mono fun e w h => ⟨h.1, (h.2.unpick k0)⟩)) fun a w hf hc => ?_
  refine stP hf rfl rfl rfl (pGe rfl rfl) fun a hf => ?_
  refine stP hf rfl rfl rfl (pA rfl) fun a hf => ?_
  refine cNil ?_
  refine h2 _ _ ?_
  refine wp_ret ?_
  obtain rfl := Option.some.inj hF
  exact fnOut1 (by simp) rfl Try.results146 hf hc (show look _ 4 = _ from rfl) ⟨rfl, hc⟩

def share_every_share_Year (N : Nat) (l : List share_Year) : Option (Bool) :=
  Option.bind (slices_ContainsFunc_Lshare_Year_share_Year N l) fun r =>
  some (!r)
theorem share_every_share_Year_ok {N : Nat} {G : Pers} {Lf : List Ent} {w : World} (l : List share_Year) {l_p : Option Addr} {l_c : Nat} (h_l : Rd G 5 l_p l_c (l.map enc_share_Year)) (hc : Ctx G (Lf) w) {res : Bool} (hF : share_every_share_Year N l = some res) : Calls Try.prog 127 #[.slice l_p l.length l_c, .func (.func 128) #[] #[]] w (fun e w => e = .returned (.bool res) ∧ Ctx G (Lf) w) := by
  unfold share_every_share_Year at hF
  refine fnIn (args := [.slice l_p l.length l_c, .func (.func 128) #[] #[]]) Try.func127 rfl Try.ntmps127 rfl fun a hf => ?_
  refine wp_seq_k fun K1 h1 => ?_
  refine cReg ?_
  refine stBx (cs := [.func (.func 128) #[] #[]]) hf hc rfl rfl rfl rfl fun b_1 a w hf hc => ?_
  refine stP hf rfl rfl rfl (pA rfl) fun a hf => ?_
  refine cNil ?_
  refine h1 _ _ ?_
  refine wp_seq_k fun K2 h2 => ?_
  refine cReg ?_
  refine stP hf rfl rfl rfl (pM rfl) fun a hf => ?_
  refine stP hf rfl rfl rfl (pMF (us := [.pointer (some ⟨b_1, 0, none⟩)]) rfl rfl) fun a hf => ?_
  obtain ⟨r, hr, hF⟩ := bnd_some hF
  refine stE hf hc rfl rfl rfl (eC (v := .bool r) (vs := [.slice l_p l.length l_c, .func (.func 147) #[] #[.pointer (some ⟨b_1, 0, none⟩)]]) (caps := []) en_146 rfl rfl rfl rfl (fun w hc => (slices_ContainsFunc_Lshare_Year_share_Year_ok l h_l (hc.pick k0) hr).mono fun e w h => ⟨h.1, (h.2.unpick k0)⟩)) fun a w hf hc => ?_
  refine stP hf rfl rfl rfl (pNot rfl) fun a hf => ?_
  refine stP hf rfl rfl rfl (pA rfl) fun a hf => ?_
  refine cNil ?_
  refine h2 _ _ ?_
  refine wp_ret ?_
  obtain rfl := Option.some.inj hF
  replace hc := hc.drop k0
  exact fnOut1 (by simp) rfl Try.results127 hf hc (show look _ 4 = _ from rfl) ⟨rfl, hc⟩

def share_asked (N : Nat) (b_ : share_Border) (start : api_Span) (years : List share_Year) : Option (Int) :=
  Option.bind (share_CheckBorder N b_) fun r =>
  cond (r != 0)
  (some r)
  (cond ((!(share_in start.Lo (-1000000000) start.Hi)) || (decide (1000000000 < start.Hi)))
  (some 4)
  (cond (decide (40 < ((years.length : Nat) : Int)))
  (some 3)
  (Option.bind (share_every_share_Year N years) fun r_1 =>
  cond (!r_1)
  (some 100)
  (some 0))))
theorem share_asked_ok {N : Nat} {G : Pers} {Lf : List Ent} {w : World} (b_ : share_Border) (start : api_Span) (years : List share_Year) {b__Table_p : Option Addr} {b__Table_c : Nat} {years_p : Option Addr} {years_c : Nat} (h_b__Table : Rd G 2 b__Table_p b__Table_c (b_.Table.map enc_share_Point)) (h_years : Rd G 5 years_p years_c (years.map enc_share_Year)) (hc : Ctx G (Lf) w) {res : Int} (hF : share_asked N b_ start years = some res) : Calls Try.prog 99 #[.agg #[.slice b__Table_p b_.Table.length b__Table_c, .int .i64 b_.Credit], .agg #[.int .i64 start.Lo, .int .i64 start.Hi], .slice years_p years.length years_c] w (fun e w => e = .returned (.int .i64 res) ∧ Ctx G (Lf) w) := by
  unfold share_asked at hF
  refine fnIn (args := [.agg #[.slice b__Table_p b_.Table.length b__Table_c, .int .i64 b_.Credit], .agg #[.int .i64 start.Lo, .int .i64 start.Hi], .slice years_p years.length years_c]) Try.func99 rfl Try.ntmps99 rfl fun a hf => ?_
  refine wp_seq_k fun K1 h1 => ?_
  refine cReg ?_
  refine stBx (cs := [.slice b__Table_p b_.Table.length b__Table_c, .int .i64 b_.Credit]) hf hc rfl rfl rfl rfl fun b_1 a w hf hc => ?_
  refine stBx (cs := [.int .i64 start.Lo, .int .i64 start.Hi]) hf hc rfl rfl rfl rfl fun b_2 a w hf hc => ?_
  refine stP hf rfl rfl rfl (pA rfl) fun a hf => ?_
  refine cNil ?_
  refine h1 _ _ ?_
  refine wp_seq_k fun K2 h2 => ?_
  refine cReg ?_
  refine stE hf hc rfl rfl rfl (eLdN (vs := [.slice b__Table_p b_.Table.length b__Table_c, .int .i64 b_.Credit]) ag_88 rfl rfl (cells_box (n := 2) m1 rfl)) fun a w hf hc => ?_
  obtain ⟨r, hr, hF⟩ := bnd_some hF
  refine stE hf hc rfl rfl rfl (eC (v := .int .i64 r) (vs := [.agg #[.slice b__Table_p b_.Table.length b__Table_c, .int .i64 b_.Credit]]) (caps := []) en_47 rfl rfl rfl rfl (fun w hc => share_CheckBorder_ok b_ h_b__Table hc hr)) fun a w hf hc => ?_
  refine stP hf rfl rfl rfl (pA rfl) fun a hf => ?_
  refine cNil ?_
  refine h2 _ _ ?_
  refine wp_seq_k fun K3 h3 => ?_
  refine wp_block ?_
  refine wp_seq_k fun K4 h4 => ?_
  refine cReg ?_
  refine stP hf rfl rfl rfl (pM rfl) fun a hf => ?_
  refine stP hf rfl rfl rfl (pNe rfl rfl) fun a hf => ?_
  refine stP hf rfl rfl rfl (pA rfl) fun a hf => ?_
  refine cNil ?_
  refine h4 _ _ ?_
  refine cCond (b := (r != 0)) hf rfl (fun hb => ?_) (fun hb => ?_)
  · replace hF := condT hb hF
    clear hb
    refine wp_seq_k fun K5 h5 => ?_
    refine cReg ?_
    refine stP hf rfl rfl rfl (pM rfl) fun a hf => ?_
    refine stP hf rfl rfl rfl (pA rfl) fun a hf => ?_
    refine cNil ?_
    refine h5 _ _ ?_
    refine wp_ret ?_
    refine xBlkR ?_
    refine xThenR ?_
    obtain rfl := Option.some.inj hF
    replace hc := hc.drop k1
    replace hc := hc.drop k0
    exact fnOut1 (by simp) rfl Try.results99 hf hc (show look _ 6 = _ from rfl) ⟨rfl, hc⟩
  · replace hF := condF hb hF
    clear hb
    refine wp_seq_k fun K6 h6 => ?_
    refine cReg ?_
    refine stP hf rfl rfl rfl (pFA fa_26_0 rfl) fun a hf => ?_
    refine stE hf hc rfl rfl rfl (eLd1 sc_3 rfl (cell_box m0 rfl)) fun a w hf hc => ?_
    refine stP hf rfl rfl rfl (pFA fa_26_1 rfl) fun a hf => ?_
    refine stE hf hc rfl rfl rfl (eLd1 sc_3 rfl (cell_box m0 rfl)) fun a w hf hc => ?_
    refine stE hf hc rfl rfl rfl (eC (v := .bool (share_in start.Lo (-1000000000) start.Hi)) (vs := [.int .i64 start.Lo, .int .i64 (-1000000000), .int .i64 start.Hi]) (caps := []) en_70 rfl rfl rfl rfl (fun w hc => share_in_ok start.Lo (-1000000000) start.Hi hc rfl)) fun a w hf hc => ?_
    refine stP hf rfl rfl rfl (pNot rfl) fun a hf => ?_
    refine stP hf rfl rfl rfl (pM rfl) fun a hf => ?_
    refine stCut 4 (fun a w => Has 34 a [(2, .slice years_p years.length years_c), (4, .pointer (some ⟨b_2, 0, none⟩)), (15, .pointer (some ⟨b_2, 0, none⟩)), (16, .int .i64 start.Lo), (17, .pointer (some ⟨b_2, 1, none⟩)), (18, .int .i64 start.Hi), (19, .bool (share_in start.Lo (-1000000000) start.Hi)), (20, .bool (!(share_in start.Lo (-1000000000) start.Hi))), (21, .bool (!(share_in start.Lo (-1000000000) start.Hi))), (25, .bool ((!(share_in start.Lo (-1000000000) start.Hi)) || (decide (1000000000 < start.Hi))))] ∧ Ctx G (.box b_2 [.int .i64 start.Lo, .int .i64 start.Hi] 26 :: .box b_1 [.slice b__Table_p b_.Table.length b__Table_c, .int .i64 b_.Credit] 88 :: Lf) w) ?_ ?_
    · cases hb : (!(share_in start.Lo (-1000000000) start.Hi))
      · rw [hb] at hf
        refine stP hf rfl rfl rfl (pFA fa_26_1 rfl) fun a hf => ?_
        refine stE hf hc rfl rfl rfl (eLd1 sc_3 rfl (cell_box m0 rfl)) fun a w hf hc => ?_
        refine stP hf rfl rfl rfl (pGt rfl rfl) fun a hf => ?_
        refine stP hf rfl rfl rfl (pPf rfl rfl) fun a hf => ?_
        exact cNil ⟨hf.keep ⟨rfl, rfl, rfl, rfl, rfl, rfl, rfl, rfl, rfl, rfl, trivial⟩, hc⟩
      · rw [hb] at hf
        refine stS hf rfl rfl rfl fun a hf => ?_
        refine stS hf rfl rfl rfl fun a hf => ?_
        refine stS hf rfl rfl rfl fun a hf => ?_
        refine stP hf rfl rfl rfl (pPt rfl rfl) fun a hf => ?_
        exact cNil ⟨hf.keep ⟨rfl, rfl, rfl, rfl, rfl, rfl, rfl, rfl, rfl, rfl, trivial⟩, hc⟩
    intro a w ⟨hf, hc⟩
    refine stP hf rfl rfl rfl (pA rfl) fun a hf => ?_
    refine cNil ?_
    refine h6 _ _ ?_
    refine cCond (b := ((!(share_in start.Lo (-1000000000) start.Hi)) || (decide (1000000000 < start.Hi)))) hf rfl (fun hb => ?_) (fun hb => ?_)
    · replace hF := condT hb hF
      clear hb
      refine wp_seq_k fun K7 h7 => ?_
      refine cReg ?_
      refine stP hf rfl rfl rfl (pA rfl) fun a hf => ?_
      refine cNil ?_
      refine h7 _ _ ?_
      refine wp_ret ?_
      refine xBlkR ?_
      refine xThenR ?_
      obtain rfl := Option.some.inj hF
      replace hc := hc.drop k1
      replace hc := hc.drop k0
      exact fnOut1 (by simp) rfl Try.results99 hf hc (show look _ 6 = _ from rfl) ⟨rfl, hc⟩
    · replace hF := condF hb hF
      clear hb
      refine wp_seq_k fun K8 h8 => ?_
      refine cReg ?_
      refine stP hf rfl rfl rfl (pM rfl) fun a hf => ?_
      refine stP hf rfl rfl rfl (pLenS Try.underlying89 rfl) fun a hf => ?_
      refine stP hf rfl rfl rfl (pGt rfl rfl) fun a hf => ?_
      refine stP hf rfl rfl rfl (pA rfl) fun a hf => ?_
      refine cNil ?_
      refine h8 _ _ ?_
      refine cCond (b := (decide (40 < ((years.length : Nat) : Int)))) hf rfl (fun hb => ?_) (fun hb => ?_)
      · replace hF := condT hb hF
        clear hb
        refine wp_seq_k fun K9 h9 => ?_
        refine cReg ?_
        refine stP hf rfl rfl rfl (pA rfl) fun a hf => ?_
        refine cNil ?_
        refine h9 _ _ ?_
        refine wp_ret ?_
        refine xBlkR ?_
        refine xThenR ?_
        obtain rfl := Option.some.inj hF
        replace hc := hc.drop k1
        replace hc := hc.drop k0
        exact fnOut1 (by simp) rfl Try.results99 hf hc (show look _ 6 = _ from rfl) ⟨rfl, hc⟩
      · replace hF := condF hb hF
        clear hb
        refine wp_seq_k fun K10 h10 => ?_
        refine cReg ?_
        refine stP hf rfl rfl rfl (pM rfl) fun a hf => ?_
        obtain ⟨r_1, hr_1, hF⟩ := bnd_some hF
        refine stE hf hc rfl rfl rfl (eC (v := .bool r_1) (vs := [.slice years_p years.length years_c, .func (.func 128) #[] #[]]) (caps := []) en_127 rfl rfl rfl rfl (fun w hc => share_every_share_Year_ok years h_years hc hr_1)) fun a w hf hc => ?_
        refine stP hf rfl rfl rfl (pNot rfl) fun a hf => ?_
        refine stP hf rfl rfl rfl (pA rfl) fun a hf => ?_
        refine cNil ?_
        refine h10 _ _ ?_
        refine cCond (b := (!r_1)) hf rfl (fun hb => ?_) (fun hb => ?_)
        · replace hF := condT hb hF
          clear hb
          refine wp_seq_k fun K11 h11 => ?_
          refine cReg ?_
          refine stP hf rfl rfl rfl (pA rfl) fun a hf => ?_
          refine cNil ?_
          refine h11 _ _ ?_
          refine wp_ret ?_
          refine xBlkR ?_
          refine xThenR ?_
          obtain rfl := Option.some.inj hF
          replace hc := hc.drop k1
          replace hc := hc.drop k0
          exact fnOut1 (by simp) rfl Try.results99 hf hc (show look _ 6 = _ from rfl) ⟨rfl, hc⟩
        · replace hF := condF hb hF
          clear hb
          refine wp_skip ?_
          refine h3 _ _ ?_
          refine wp_seq_k fun K12 h12 => ?_
          refine cReg ?_
          refine stP hf rfl rfl rfl (pA rfl) fun a hf => ?_
          refine cNil ?_
          refine h12 _ _ ?_
          refine wp_ret ?_
          obtain rfl := Option.some.inj hF
          replace hc := hc.drop k1
          replace hc := hc.drop k0
          exact fnOut1 (by simp) rfl Try.results99 hf hc (show look _ 6 = _ from rfl) ⟨rfl, hc⟩

def share_Border_goes (N : Nat) (b_ : share_Border) (debt : Int) : Option ((Int → Option Int) × Int × Int) :=
  some ((fun _ => none : Int → Option Int), b_.Credit, debt)
theorem share_Border_goes_ok {N : Nat} {G : Pers} {Lf : List Ent} {w : World} (b_ : share_Border) (debt : Int) {b__Table_p : Option Addr} {b__Table_c : Nat} (h_b__Table : Rd G 2 b__Table_p b__Table_c (b_.Table.map enc_share_Point)) (hc : Ctx G (Lf) w) {res : (Int → Option Int) × Int × Int} (hF : share_Border_goes N b_ debt = some res) : Calls Try.prog 100 #[.agg #[.slice b__Table_p b_.Table.length b__Table_c, .int .i64 b_.Credit], .int .i64 debt] w (fun e w => ∃ (b'1 : Nat) (b'2 : Nat) (b'3 : Nat) (b'4 : Nat), e = .returned (.func (.func 129) #[] #[.pointer (some ⟨b'1, 0, none⟩), .pointer (some ⟨b'3, 0, none⟩), .pointer (some ⟨b'4, 0, none⟩)]) ∧ Ctx G (.im b'2 (fun j => (res.1 j).map (Value.int .i64)) none :: .box b'1 [.map (some b'2)] 213 :: .box b'3 [.slice b__Table_p b_.Table.length b__Table_c, .int .i64 res.2.1] 88 :: .box b'4 [.int .i64 res.2.2] 3 :: Lf) w) := by
  unfold share_Border_goes at hF
  refine fnIn (args := [.agg #[.slice b__Table_p b_.Table.length b__Table_c, .int .i64 b_.Credit], .int .i64 debt]) Try.func100 rfl Try.ntmps100 rfl fun a hf => ?_
  refine wp_seq_k fun K1 h1 => ?_
  refine cReg ?_
  refine stBx (cs := [.slice b__Table_p b_.Table.length b__Table_c, .int .i64 b_.Credit]) hf hc rfl rfl rfl rfl fun b_1 a w hf hc => ?_
  refine stBx (cs := [.int .i64 debt]) hf hc rfl rfl rfl rfl fun b_2 a w hf hc => ?_
  refine stP hf rfl rfl rfl (pA rfl) fun a hf => ?_
  refine cNil ?_
  refine h1 _ _ ?_
  refine wp_seq_k fun K2 h2 => ?_
  refine cReg ?_
  refine stMM hf hc rfl rfl fun mb a w hf hc => ?_
  replace hc : Ctx _ (.im mb (fun j => ((fun _ => none : Int → Option Int) j).map (Value.int .i64)) none :: _) w := hc
  refine stAl (cs := [.map none]) hf hc rfl rfl zr_213 rfl fun b_3 a w hf hc => ?_
  refine stSt (vs := [.map (some mb)]) hf hc rfl rfl rfl rfl sz_213 rfl rfl u0 fun w hc => ?_
  refine cNil ?_
  refine h2 _ _ ?_
  refine wp_seq_k fun K3 h3 => ?_
  refine cReg ?_
  refine stP hf rfl rfl rfl (pMF (us := [.pointer (some ⟨b_3, 0, none⟩), .pointer (some ⟨b_1, 0, none⟩), .pointer (some ⟨b_2, 0, none⟩)]) rfl rfl) fun a hf => ?_
  refine stP hf rfl rfl rfl (pA rfl) fun a hf => ?_
  refine cNil ?_
  refine h3 _ _ ?_
  refine wp_ret ?_
  obtain rfl := Option.some.inj hF
  replace hc := hc.pick k2
  replace hc := hc.pick k3
  replace hc := hc.pick k2
  replace hc := hc.pick k3
  exact fnOut1 (by simp) rfl Try.results100 hf hc (show look _ 4 = _ from rfl) ⟨b_3, mb, b_1, b_2, rfl, hc⟩

def share_low (N : Nat)  : Option (Unit) :=
  some ()
theorem share_low_ok {N : Nat} {G : Pers} {Lf : List Ent} {w : World}    (hc : Ctx G (Lf) w) {res : Unit} (hF : share_low N = some res) : Calls Try.prog 103 #[] w (fun e w => e = .returned (.agg #[.func (.func 130) #[] #[], .func (.func 131) #[] #[]]) ∧ Ctx G (Lf) w) := by
  unfold share_low at hF
  refine fnIn (args := []) Try.func103 rfl Try.ntmps103 rfl fun a hf => ?_
  refine wp_seq_k fun K1 h1 => ?_
  refine cReg ?_
  refine stAl (cs := [.nilFunc, .nilFunc]) hf hc rfl rfl zr_192 rfl fun b_1 a w hf hc => ?_
  refine cNil ?_
  refine h1 _ _ ?_
  refine wp_seq_k fun K2 h2 => ?_
  refine cReg ?_
  refine stP hf rfl rfl rfl (pBuildS (cells := [.func (.func 130) #[] #[], .func (.func 131) #[] #[]]) bt_192 rfl rfl) fun a hf => ?_
  refine stSt (vs := [.func (.func 130) #[] #[], .func (.func 131) #[] #[]]) hf hc rfl rfl rfl rfl sz_192 rfl rfl u0 fun w hc => ?_
  refine cNil ?_
  refine h2 _ _ ?_
  refine wp_ret ?_
  obtain rfl := Option.some.inj hF
  exact fnOut1 (by simp) rfl Try.results103 hf hc (rv_cellN (vs := [.func (.func 130) #[] #[], .func (.func 131) #[] #[]]) ag_192 rfl rfl (cells_box (n := 2) m0 rfl)) ⟨rfl, (hc.drop k0)⟩

def share_high (N : Nat)  : Option (Unit) :=
  some ()
theorem share_high_ok {N : Nat} {G : Pers} {Lf : List Ent} {w : World}    (hc : Ctx G (Lf) w) {res : Unit} (hF : share_high N = some res) : Calls Try.prog 104 #[] w (fun e w => e = .returned (.agg #[.func (.func 132) #[] #[], .func (.func 133) #[] #[]]) ∧ Ctx G (Lf) w) := by
  unfold share_high at hF
  refine fnIn (args := []) Try.func104 rfl Try.ntmps104 rfl fun a hf => ?_
  refine wp_seq_k fun K1 h1 => ?_
  refine cReg ?_
  refine stAl (cs := [.nilFunc, .nilFunc]) hf hc rfl rfl zr_192 rfl fun b_1 a w hf hc => ?_
  refine cNil ?_
  refine h1 _ _ ?_
  refine wp_seq_k fun K2 h2 => ?_
  refine cReg ?_
  refine stP hf rfl rfl rfl (pBuildS (cells := [.func (.func 132) #[] #[], .func (.func 133) #[] #[]]) bt_192 rfl rfl) fun a hf => ?_
  refine stSt (vs := [.func (.func 132) #[] #[], .func (.func 133) #[] #[]]) hf hc rfl rfl rfl rfl sz_192 rfl rfl u0 fun w hc => ?_
  refine cNil ?_
  refine h2 _ _ ?_
  refine wp_ret ?_
  obtain rfl := Option.some.inj hF
  exact fnOut1 (by simp) rfl Try.results104 hf hc (rv_cellN (vs := [.func (.func 132) #[] #[], .func (.func 133) #[] #[]]) ag_192 rfl rfl (cells_box (n := 2) m0 rfl)) ⟨rfl, (hc.drop k0)⟩

def share_low_1 (s_ : api_Span) : Int :=
  s_.Lo
theorem share_low_1_ok {G : Pers} {Lf : List Ent} {w : World} (s_ : api_Span)   (hc : Ctx G (Lf) w) {res : Int} (hF : share_low_1 s_ = res) : Calls Try.prog 130 #[.agg #[.int .i64 s_.Lo, .int .i64 s_.Hi]] w (fun e w => e = .returned (.int .i64 res) ∧ Ctx G (Lf) w) := by
  unfold share_low_1 at hF
  refine fnIn (args := [.agg #[.int .i64 s_.Lo, .int .i64 s_.Hi]]) Try.func130 rfl Try.ntmps130 rfl fun a hf => ?_
  refine wp_seq_k fun K1 h1 => ?_
  refine cReg ?_
  refine stBx (cs := [.int .i64 s_.Lo, .int .i64 s_.Hi]) hf hc rfl rfl rfl rfl fun b_1 a w hf hc => ?_
  refine stP hf rfl rfl rfl (pA rfl) fun a hf => ?_
  refine cNil ?_
  refine h1 _ _ ?_
  refine wp_seq_k fun K2 h2 => ?_
  refine cReg ?_
  refine stP hf rfl rfl rfl (pFA fa_26_0 rfl) fun a hf => ?_
  refine stE hf hc rfl rfl rfl (eLd1 sc_3 rfl (cell_box m0 rfl)) fun a w hf hc => ?_
  refine stP hf rfl rfl rfl (pA rfl) fun a hf => ?_
  refine cNil ?_
  refine h2 _ _ ?_
  refine wp_ret ?_
  obtain rfl := hF
  replace hc := hc.drop k0
  exact fnOut1 (by simp) rfl Try.results130 hf hc (show look _ 2 = _ from rfl) ⟨rfl, hc⟩

def share_low_2 (s_ : api_Span) : Int :=
  s_.Hi
theorem share_low_2_ok {G : Pers} {Lf : List Ent} {w : World} (s_ : api_Span)   (hc : Ctx G (Lf) w) {res : Int} (hF : share_low_2 s_ = res) : Calls Try.prog 131 #[.agg #[.int .i64 s_.Lo, .int .i64 s_.Hi]] w (fun e w => e = .returned (.int .i64 res) ∧ Ctx G (Lf) w) := by
  unfold share_low_2 at hF
  refine fnIn (args := [.agg #[.int .i64 s_.Lo, .int .i64 s_.Hi]]) Try.func131 rfl Try.ntmps131 rfl fun a hf => ?_
  refine wp_seq_k fun K1 h1 => ?_
  refine cReg ?_
  refine stBx (cs := [.int .i64 s_.Lo, .int .i64 s_.Hi]) hf hc rfl rfl rfl rfl fun b_1 a w hf hc => ?_
  refine stP hf rfl rfl rfl (pA rfl) fun a hf => ?_
  refine cNil ?_
  refine h1 _ _ ?_
  refine wp_seq_k fun K2 h2 => ?_
  refine cReg ?_
  refine stP hf rfl rfl rfl (pFA fa_26_1 rfl) fun a hf => ?_
  refine stE hf hc rfl rfl rfl (eLd1 sc_3 rfl (cell_box m0 rfl)) fun a w hf hc => ?_
  refine stP hf rfl rfl rfl (pA rfl) fun a hf => ?_
  refine cNil ?_
  refine h2 _ _ ?_
  refine wp_ret ?_
  obtain rfl := hF
  replace hc := hc.drop k0
  exact fnOut1 (by simp) rfl Try.results131 hf hc (show look _ 2 = _ from rfl) ⟨rfl, hc⟩

def share_Border_due_1 (p_ : share_Point) (x : Int) : Bool :=
  (decide (x < p_.Index))
theorem share_Border_due_1_ok {G : Pers} {Lf : List Ent} {w : World} (p_ : share_Point) (x : Int) {b_ : Nat}  (hc : Ctx G (.box b_ [.int .i64 x] 3 :: Lf) w) {res : Bool} (hF : share_Border_due_1 p_ x = res) : Calls Try.prog 126 #[.agg #[.int .i64 p_.Index, .int .i64 p_.Due], .pointer (some ⟨b_, 0, none⟩)] w (fun e w => e = .returned (.bool res) ∧ Ctx G (.box b_ [.int .i64 x] 3 :: Lf) w) := by
  unfold share_Border_due_1 at hF
  refine fnIn (args := [.agg #[.int .i64 p_.Index, .int .i64 p_.Due], .pointer (some ⟨b_, 0, none⟩)]) Try.func126 rfl Try.ntmps126 rfl fun a hf => ?_
  refine wp_seq_k fun K1 h1 => ?_
  refine cReg ?_
  refine stBx (cs := [.int .i64 p_.Index, .int .i64 p_.Due]) hf hc rfl rfl rfl rfl fun b_1 a w hf hc => ?_
  refine stP hf rfl rfl rfl (pA rfl) fun a hf => ?_
  refine cNil ?_
  refine h1 _ _ ?_
  refine wp_seq_k fun K2 h2 => ?_
  refine cReg ?_
  refine stP hf rfl rfl rfl (pFA fa_116_0 rfl) fun a hf => ?_
  refine stE hf hc rfl rfl rfl (eLd1 sc_3 rfl (cell_box m0 rfl)) fun a w hf hc => ?_
  refine stE hf hc rfl rfl rfl (eLd1 sc_3 rfl (cell_box m1 rfl)) fun a w hf hc => ?_
  refine stP hf rfl rfl rfl (pGt rfl rfl) fun a hf => ?_
  refine stP hf rfl rfl rfl (pA rfl) fun a hf => ?_
  refine cNil ?_
  refine h2 _ _ ?_
  refine wp_ret ?_
  obtain rfl := hF
  replace hc := hc.drop k0
  exact fnOut1 (by simp) rfl Try.results126 hf hc (show look _ 3 = _ from rfl) ⟨rfl, hc⟩

def slices_IndexFunc_Lshare_Point_share_Point_s2_b4 (N : Nat) (s_ : List share_Point) (f_ : Int) (x : Int) : Option (Step (Int) (Int)) :=
  cond (decide (x < ((s_.length : Nat) : Int)))
  (Option.bind (getI s_ x) fun e_1 =>
  cond (share_Border_due_1 e_1 f_)
  (some (.ret x))
  (some (.cont (W (x + 1)))))
  (some (.brk x))
def slices_IndexFunc_Lshare_Point_share_Point_s2 (N : Nat) (s_ : List share_Point) (f_ : Int) : Option (Int) :=
  Option.bind (loopO (fun s4 => slices_IndexFunc_Lshare_Point_share_Point_s2_b4 N s_ f_ s4) N 0) fun x4 =>
  exK x4 (fun s4 => some (-1)) some
theorem slices_IndexFunc_Lshare_Point_share_Point_s2_ok {N : Nat} {G : Pers} {Lf : List Ent} {w : World} (s_ : List share_Point) (f_ : Int) {s__p : Option Addr} {s__c : Nat} {b_ : Nat} (h_s_ : Rd G 2 s__p s__c (s_.map enc_share_Point)) (hc : Ctx G (.box b_ [.int .i64 f_] 3 :: Lf) w) {res : Int} (hF : slices_IndexFunc_Lshare_Point_share_Point_s2 N s_ f_ = some res) : Calls Try.prog 125 #[.slice s__p s_.length s__c, .func (.func 126) #[] #[.pointer (some ⟨b_, 0, none⟩)]] w (fun e w => e = .returned (.int .i64 res) ∧ Ctx G (.box b_ [.int .i64 f_] 3 :: Lf) w) := by
  unfold slices_IndexFunc_Lshare_Point_share_Point_s2 at hF
  refine fnIn (args := [.slice s__p s_.length s__c, .func (.func 126) #[] #[.pointer (some ⟨b_, 0, none⟩)]]) Try.func125 rfl Try.ntmps125 rfl fun a hf => ?_
  refine wp_seq_k fun K1 h1 => ?_
  refine cReg ?_
  refine stP hf rfl rfl rfl (pA rfl) fun a hf => ?_
  refine cNil ?_
  refine h1 _ _ ?_
  refine wp_seq_k fun K2 h2 => ?_
  refine wp_seq_k fun K3 h3 => ?_
  refine cReg ?_
  refine stP hf rfl rfl rfl (pM rfl) fun a hf => ?_
  refine stP hf rfl rfl rfl (pLenS Try.underlying86 rfl) fun a hf => ?_
  refine stP hf rfl rfl rfl (pM rfl) fun a hf => ?_
  refine cNil ?_
  refine h3 _ _ ?_
  refine wp_block ?_
  obtain ⟨x4, hx4, hF⟩ := bnd_some hF
  let S4 : Int → Act → World → Prop := (fun (zz : Int) a w => Has 19 a [(0, .slice s__p s_.length s__c), (1, .func (.func 126) #[] #[.pointer (some ⟨b_, 0, none⟩)]), (7, .int .i64 ((s_.length : Nat) : Int)), (8, .int .i64 zz)] ∧ Ctx G (.box b_ [.int .i64 f_] 3 :: Lf) w)
  have hr4 : ∀ (zz : Int) a w, x4 = .go zz → S4 zz a w → K2 a w := by
    rintro x a w rfl ⟨hf, hc⟩
    replace hF : _ = some res := hF
    refine h2 _ _ ?_
    refine wp_seq_k fun K5 h5 => ?_
    refine cReg ?_
    refine stP hf rfl rfl rfl (pA rfl) fun a hf => ?_
    refine cNil ?_
    refine h5 _ _ ?_
    refine wp_ret ?_
    obtain rfl := Option.some.inj hF
    exact fnOut1 (by simp) rfl Try.results125 hf hc (show look _ 4 = _ from rfl) ⟨rfl, hc⟩
  have ho4 : ∀ r, x4 = .out r → r = res := by
    rintro r rfl
    exact Option.some.inj hF
  refine cLoop N (loopW (S := S4) (x := x4) ?_ N 0 _ _ ⟨hf.keep ⟨rfl, rfl, rfl, rfl, trivial⟩, hc⟩ hx4)
  clear hF hf hc
  rintro x st4 a w KB4 ⟨hf, hc⟩ hF hfin4 hK4
  unfold slices_IndexFunc_Lshare_Point_share_Point_s2_b4 at hF
  refine wp_seq_k fun K6 h6 => ?_
  refine cReg ?_
  refine stP hf rfl rfl rfl (pLt rfl rfl) fun a hf => ?_
  refine cNil ?_
  refine h6 _ _ ?_
  refine wp_seq_k fun K7 h7 => ?_
  refine cCond (b := (decide (x < ((s_.length : Nat) : Int)))) hf rfl (fun hb => ?_) (fun hb => ?_)
  · replace hF := condT hb hF
    clear hb
    refine wp_skip ?_
    refine h7 _ _ ?_
    refine wp_seq_k fun K8 h8 => ?_
    refine wp_block ?_
    refine wp_seq_k fun K9 h9 => ?_
    refine cReg ?_
    refine stP hf rfl rfl rfl (pM rfl) fun a hf => ?_
    refine stP hf rfl rfl rfl (pA rfl) fun a hf => ?_
    refine cNil ?_
    refine h9 _ _ ?_
    refine wp_seq_k fun K10 h10 => ?_
    refine cReg ?_
    refine stP hf rfl rfl rfl (pM rfl) fun a hf => ?_
    refine stP hf rfl rfl rfl (pM rfl) fun a hf => ?_
    refine stP hf rfl rfl rfl (pM rfl) fun a hf => ?_
    obtain ⟨e_1, he_1, hF⟩ := bnd_some hF
    obtain ⟨b_1, o, qa, qp⟩ := h_s_.atm he_1
    refine stP hf rfl rfl rfl (pIA Try.underlying86 sz_116 rfl rfl qa) fun a hf => ?_
    refine stE hf hc rfl rfl rfl (eLdN (vs := [.int .i64 e_1.Index, .int .i64 e_1.Due]) ag_116 rfl rfl (cells_pc qp (n := 2) (o' := 0) rfl)) fun a w hf hc => ?_
    refine stE hf hc rfl rfl rfl (eC (v := .bool (share_Border_due_1 e_1 f_)) (vs := [.agg #[.int .i64 e_1.Index, .int .i64 e_1.Due]]) (caps := [.pointer (some ⟨b_, 0, none⟩)]) en_126 rfl rfl rfl rfl (fun w hc => (share_Border_due_1_ok e_1 f_ (hc.pick k0) rfl).mono fun e w h => ⟨h.1, (h.2.unpick k0)⟩)) fun a w hf hc => ?_
    refine cNil ?_
    refine h10 _ _ ?_
    refine cCond (b := (share_Border_due_1 e_1 f_)) hf rfl (fun hb => ?_) (fun hb => ?_)
    · replace hF := condT hb hF
      clear hb
      refine wp_seq_k fun K11 h11 => ?_
      refine cReg ?_
      refine stP hf rfl rfl rfl (pM rfl) fun a hf => ?_
      refine stP hf rfl rfl rfl (pA rfl) fun a hf => ?_
      refine cNil ?_
      refine h11 _ _ ?_
      refine wp_ret ?_
      refine xBlkR ?_
      refine xThenR ?_
      refine xThenR ?_
      have he := Option.some.inj hF
      rw [← he] at hfin4
      replace hF := ho4 _ hfin4
      refine xBlkR ?_
      refine xThenR ?_
      obtain rfl := hF
      exact fnOut1 (by simp) rfl Try.results125 hf hc (show look _ 4 = _ from rfl) ⟨rfl, hc⟩
    · replace hF := condF hb hF
      clear hb
      refine wp_skip ?_
      refine h8 _ _ ?_
      refine cReg ?_
      refine stP hf rfl rfl rfl (pAdd rfl rfl) fun a hf => ?_
      refine stP hf rfl rfl rfl (pM rfl) fun a hf => ?_
      refine cNil ?_
      exact hK4 (W (x + 1)) _ _ (Option.some.inj hF).symm ⟨hf.keep ⟨rfl, rfl, rfl, rfl, trivial⟩, hc⟩
  · replace hF := condF hb hF
    clear hb
    refine wp_exit ?_
    refine xThen ?_
    refine xThen ?_
    have he := Option.some.inj hF
    rw [← he] at hfin4
    refine cHit ?_
    exact hr4 _ _ _ hfin4 ⟨hf.keep ⟨rfl, rfl, rfl, rfl, trivial⟩, hc⟩

def share_Border_due (N : Nat) (b_ : share_Border) (index : Int) : Option (Int) :=
  Option.bind (slices_IndexFunc_Lshare_Point_share_Point_s2 N b_.Table index) fun r =>
  cond (r == 0)
  (Option.bind (getI b_.Table 0) fun e_1 =>
  some e_1.Due)
  (cond (r == (-1))
  (Option.bind (getI b_.Table (W (((b_.Table.length : Nat) : Int) - 1))) fun e_2 =>
  some e_2.Due)
  (Option.bind (getI b_.Table (W (r - 1))) fun e_3 =>
  Option.bind (getI b_.Table r) fun e_4 =>
  Option.bind (nz (W (e_4.Index - e_3.Index))) fun un =>
  some (W (e_3.Due + (W ((W ((W (e_4.Due - e_3.Due)) * (W (index - e_3.Index)))).tdiv (W (e_4.Index - e_3.Index))))))))
theorem share_Border_due_ok {N : Nat} {G : Pers} {Lf : List Ent} {w : World} (b_ : share_Border) (index : Int) {b__Table_p : Option Addr} {b__Table_c : Nat} (h_b__Table : Rd G 2 b__Table_p b__Table_c (b_.Table.map enc_share_Point)) (hc : Ctx G (Lf) w) {res : Int} (hF : share_Border_due N b_ index = some res) : Calls Try.prog 97 #[.agg #[.slice b__Table_p b_.Table.length b__Table_c, .int .i64 b_.Credit], .int .i64 index] w (fun e w => e = .returned (.int .i64 res) ∧ Ctx G (Lf) w) := by
  unfold share_Border_due at hF
  refine fnIn (args := [.agg #[.slice b__Table_p b_.Table.length b__Table_c, .int .i64 b_.Credit], .int .i64 index]) Try.func97 rfl Try.ntmps97 rfl fun a hf => ?_
  refine wp_seq_k fun K1 h1 => ?_
  refine cReg ?_
  refine stBx (cs := [.slice b__Table_p b_.Table.length b__Table_c, .int .i64 b_.Credit]) hf hc rfl rfl rfl rfl fun b_1 a w hf hc => ?_
  refine stBx (cs := [.int .i64 index]) hf hc rfl rfl rfl rfl fun b_2 a w hf hc => ?_
  refine stP hf rfl rfl rfl (pA rfl) fun a hf => ?_
  refine cNil ?_
  refine h1 _ _ ?_
  refine wp_seq_k fun K2 h2 => ?_
  refine cReg ?_
  refine stP hf rfl rfl rfl (pFA fa_88_0 rfl) fun a hf => ?_
  refine stE hf hc rfl rfl rfl (eLd1 sc_86 rfl (cell_box m1 rfl)) fun a w hf hc => ?_
  refine stP hf rfl rfl rfl (pMF (us := [.pointer (some ⟨b_2, 0, none⟩)]) rfl rfl) fun a hf => ?_
  obtain ⟨r, hr, hF⟩ := bnd_some hF
  refine stE hf hc rfl rfl rfl (eC (v := .int .i64 r) (vs := [.slice b__Table_p b_.Table.length b__Table_c, .func (.func 126) #[] #[.pointer (some ⟨b_2, 0, none⟩)]]) (caps := []) en_125 rfl rfl rfl rfl (fun w hc => (slices_IndexFunc_Lshare_Point_share_Point_s2_ok b_.Table index h_b__Table (hc.pick k0) hr).mono fun e w h => ⟨h.1, (h.2.unpick k0)⟩)) fun a w hf hc => ?_
  refine stP hf rfl rfl rfl (pA rfl) fun a hf => ?_
  refine cNil ?_
  refine h2 _ _ ?_
  refine wp_seq_k fun K3 h3 => ?_
  refine wp_seq_k fun K4 h4 => ?_
  refine cReg ?_
  refine stP hf rfl rfl rfl (pM rfl) fun a hf => ?_
  refine cNil ?_
  refine h4 _ _ ?_
  refine wp_block ?_
  refine wp_seq_k fun K5 h5 => ?_
  refine cReg ?_
  refine stP hf rfl rfl rfl (pEq rfl rfl) fun a hf => ?_
  refine stP hf rfl rfl rfl (pA rfl) fun a hf => ?_
  refine cNil ?_
  refine h5 _ _ ?_
  refine cCond (b := (r == 0)) hf rfl (fun hb => ?_) (fun hb => ?_)
  · replace hF := condT hb hF
    clear hb
    refine wp_seq_k fun K6 h6 => ?_
    refine cReg ?_
    refine stP hf rfl rfl rfl (pFA fa_88_0 rfl) fun a hf => ?_
    refine stE hf hc rfl rfl rfl (eLd1 sc_86 rfl (cell_box m1 rfl)) fun a w hf hc => ?_
    obtain ⟨e_1, he_1, hF⟩ := bnd_some hF
    obtain ⟨b_3, o, qa, qp⟩ := h_b__Table.atm he_1
    refine stP hf rfl rfl rfl (pIA Try.underlying86 sz_116 rfl rfl qa) fun a hf => ?_
    refine stP hf rfl rfl rfl (pFA fa_116_1 rfl) fun a hf => ?_
    refine stE hf hc rfl rfl rfl (eLd1 sc_3 rfl (cell_pc (j := 1) qp rfl)) fun a w hf hc => ?_
    refine stP hf rfl rfl rfl (pA rfl) fun a hf => ?_
    refine cNil ?_
    refine h6 _ _ ?_
    refine wp_ret ?_
    refine xBlkR ?_
    refine xThenR ?_
    obtain rfl := Option.some.inj hF
    replace hc := hc.drop k1
    replace hc := hc.drop k0
    exact fnOut1 (by simp) rfl Try.results97 hf hc (show look _ 4 = _ from rfl) ⟨rfl, hc⟩
  · replace hF := condF hb hF
    clear hb
    refine wp_seq_k fun K7 h7 => ?_
    refine cReg ?_
    refine stP hf rfl rfl rfl (pEq rfl rfl) fun a hf => ?_
    refine stP hf rfl rfl rfl (pA rfl) fun a hf => ?_
    refine cNil ?_
    refine h7 _ _ ?_
    refine cCond (b := (r == (-1))) hf rfl (fun hb => ?_) (fun hb => ?_)
    · replace hF := condT hb hF
      clear hb
      refine wp_seq_k fun K8 h8 => ?_
      refine cReg ?_
      refine stP hf rfl rfl rfl (pFA fa_88_0 rfl) fun a hf => ?_
      refine stE hf hc rfl rfl rfl (eLd1 sc_86 rfl (cell_box m1 rfl)) fun a w hf hc => ?_
      refine stP hf rfl rfl rfl (pFA fa_88_0 rfl) fun a hf => ?_
      refine stE hf hc rfl rfl rfl (eLd1 sc_86 rfl (cell_box m1 rfl)) fun a w hf hc => ?_
      refine stP hf rfl rfl rfl (pLenS Try.underlying86 rfl) fun a hf => ?_
      refine stP hf rfl rfl rfl (pSub rfl rfl) fun a hf => ?_
      obtain ⟨e_2, he_2, hF⟩ := bnd_some hF
      obtain ⟨b_4, o_1, qa_1, qp_1⟩ := h_b__Table.atm he_2
      refine stP hf rfl rfl rfl (pIA Try.underlying86 sz_116 rfl rfl qa_1) fun a hf => ?_
      refine stP hf rfl rfl rfl (pFA fa_116_1 rfl) fun a hf => ?_
      refine stE hf hc rfl rfl rfl (eLd1 sc_3 rfl (cell_pc (j := 1) qp_1 rfl)) fun a w hf hc => ?_
      refine stP hf rfl rfl rfl (pA rfl) fun a hf => ?_
      refine cNil ?_
      refine h8 _ _ ?_
      refine wp_ret ?_
      refine xBlkR ?_
      refine xThenR ?_
      obtain rfl := Option.some.inj hF
      replace hc := hc.drop k1
      replace hc := hc.drop k0
      exact fnOut1 (by simp) rfl Try.results97 hf hc (show look _ 4 = _ from rfl) ⟨rfl, hc⟩
    · replace hF := condF hb hF
      clear hb
      refine wp_skip ?_
      refine h3 _ _ ?_
      refine wp_seq_k fun K9 h9 => ?_
      obtain ⟨e_3, he_3, hF⟩ := bnd_some hF
      obtain ⟨b_5, o_2, qa_2, qp_2⟩ := h_b__Table.atm he_3
      obtain ⟨e_4, he_4, hF⟩ := bnd_some hF
      obtain ⟨b_6, o_3, qa_3, qp_3⟩ := h_b__Table.atm he_4
      replace hc := hc.nilRow 0 0
      replace hc := hc.nilRow 0 0
      refine regionE (fun θ => [⟨none, none, 2, .pointer (some ⟨b_1, 0, none⟩)⟩, ⟨none, none, 3, .pointer (some ⟨b_2, 0, none⟩)⟩, ⟨none, none, 5, .int .i64 r⟩, ⟨some 0, none, 31, .pointer (some ⟨b_1, 0, none⟩)⟩, ⟨some 1, none, 32, .slice b__Table_p b_.Table.length b__Table_c⟩, ⟨some 2, none, 33, .int .i64 r⟩, ⟨some 3, none, 34, .int .i64 (W (r - 1))⟩, ⟨some 4, none, 35, .pointer (some ⟨b_5, o_2, none⟩)⟩, ⟨some 5, none, 36, .agg #[.int .i64 e_3.Index, .int .i64 e_3.Due]⟩, ⟨some 6, none, 37, .pointer (some ⟨b_1, 0, none⟩)⟩, ⟨some 7, none, 38, .slice b__Table_p b_.Table.length b__Table_c⟩, ⟨some 8, none, 39, .int .i64 r⟩, ⟨some 9, none, 40, .pointer (some ⟨b_6, o_3, none⟩)⟩, ⟨some 10, none, 41, .agg #[.int .i64 e_4.Index, .int .i64 e_4.Due]⟩, ⟨some 11, none, 6, .pointer (some ⟨(θ 88).b, 0, none⟩)⟩, ⟨some 12, none, 7, .pointer (some ⟨(θ 96).b, 0, none⟩)⟩]) (fun E θ => (bif E 14 then .box (θ 96).b [.int .i64 e_4.Index, .int .i64 e_4.Due] 116 else bif E 12 then .box (θ 96).b [.int .i64 0, .int .i64 0] 116 else .row none 0 [] 0 0) :: (bif E 13 then .box (θ 88).b [.int .i64 e_3.Index, .int .i64 e_3.Due] 116 else bif E 11 then .box (θ 88).b [.int .i64 0, .int .i64 0] 116 else .row none 0 [] 0 0) :: .box b_2 [.int .i64 index] 3 :: .box b_1 [.slice b__Table_p b_.Table.length b__Table_c, .int .i64 b_.Credit] 88 :: Lf) [(13, 11), (14, 12)] (fun a w => ∃ (b_9 : Nat) (b_10 : Nat), Has 61 a [(3, .pointer (some ⟨b_2, 0, none⟩)), (6, .pointer (some ⟨b_9, 0, none⟩)), (7, .pointer (some ⟨b_10, 0, none⟩))] ∧ Ctx G (.box b_10 [.int .i64 e_4.Index, .int .i64 e_4.Due] 116 :: .box b_9 [.int .i64 e_3.Index, .int .i64 e_3.Due] 116 :: .box b_2 [.int .i64 index] 3 :: .box b_1 [.slice b__Table_p b_.Table.length b__Table_c, .int .i64 b_.Credit] 88 :: Lf) w) follows_mx (by kernel_rfl) (by kernel_rfl) (HasE.of hf ⟨rfl, rfl, rfl, trivial, trivial, trivial, trivial, trivial, trivial, trivial, trivial, trivial, trivial, trivial, trivial, trivial, trivial⟩) hc ⟨?_, ?_, ?_, ?_, ?_, ?_, ?_, ?_, ?_, ?_, ?_, ?_, ?_, ?_, ?_, trivial⟩ ?_ ?_
      · intro E θ a w hD hi hp he hc
        have hf := he.h0
        replace hf := hf.more he 0 rfl onT
        refine stP hf rfl rfl rfl (pFA fa_88_0 rfl) fun a hf => ?_
        refine cNil ?_
        refine xThenN ?_
        intro ds u hau
        refine ⟨θ, he.put0 hi hau hf rfl 3 rfl rfl, ?_⟩
        exact hc
      · intro E θ a w hD hi hp he hc
        have e0 := hp.of (k := 0) rfl
        have hf := he.h0
        replace hf := hf.more he 3 rfl (onP e0)
        refine stE hf hc rfl rfl rfl (eLd1 sc_86 rfl (cell_box m3 rfl)) fun a w hf hc => ?_
        refine cNil ?_
        refine xThenN ?_
        intro ds u hau
        refine ⟨θ, he.put0 hi hau hf rfl 4 rfl rfl, ?_⟩
        exact hc
      · intro E θ a w hD hi hp he hc
        have hf := he.h0
        replace hf := hf.more he 2 rfl onT
        refine stP hf rfl rfl rfl (pM rfl) fun a hf => ?_
        refine cNil ?_
        refine xThenN ?_
        intro ds u hau
        refine ⟨θ, he.put0 hi hau hf rfl 5 rfl rfl, ?_⟩
        exact hc
      · intro E θ a w hD hi hp he hc
        have e2 := hp.of (k := 2) rfl
        have hf := he.h0
        replace hf := hf.more he 5 rfl (onP e2)
        refine stP hf rfl rfl rfl (pSub rfl rfl) fun a hf => ?_
        refine cNil ?_
        refine xThenN ?_
        intro ds u hau
        refine ⟨θ, he.put0 hi hau hf rfl 6 rfl rfl, ?_⟩
        exact hc
      · intro E θ a w hD hi hp he hc
        have e1 := hp.of (k := 1) rfl
        have e3 := hp.of (k := 3) rfl
        have hf := he.h0
        replace hf := hf.more he 4 rfl (onP e1)
        replace hf := hf.more he 6 rfl (onP e3)
        refine stP hf rfl rfl rfl (pIA Try.underlying86 sz_116 rfl rfl qa_2) fun a hf => ?_
        refine cNil ?_
        refine xThenN ?_
        intro ds u hau
        refine ⟨θ, he.put0 hi hau hf rfl 7 rfl rfl, ?_⟩
        exact hc
      · intro E θ a w hD hi hp he hc
        have e4 := hp.of (k := 4) rfl
        have hf := he.h0
        replace hf := hf.more he 7 rfl (onP e4)
        refine stE hf hc rfl rfl rfl (eLdN (vs := [.int .i64 e_3.Index, .int .i64 e_3.Due]) ag_116 rfl rfl (cells_pc qp_2 (n := 2) (o' := 0) rfl)) fun a w hf hc => ?_
        refine cNil ?_
        refine xThenN ?_
        intro ds u hau
        refine ⟨θ, he.put0 hi hau hf rfl 8 rfl rfl, ?_⟩
        exact hc
      · intro E θ a w hD hi hp he hc
        have hf := he.h0
        replace hf := hf.more he 0 rfl onT
        refine stP hf rfl rfl rfl (pFA fa_88_0 rfl) fun a hf => ?_
        refine cNil ?_
        refine xThenN ?_
        intro ds u hau
        refine ⟨θ, he.put0 hi hau hf rfl 9 rfl rfl, ?_⟩
        exact hc
      · intro E θ a w hD hi hp he hc
        have e6 := hp.of (k := 6) rfl
        have hf := he.h0
        replace hf := hf.more he 9 rfl (onP e6)
        refine stE hf hc rfl rfl rfl (eLd1 sc_86 rfl (cell_box m3 rfl)) fun a w hf hc => ?_
        refine cNil ?_
        refine xThenN ?_
        intro ds u hau
        refine ⟨θ, he.put0 hi hau hf rfl 10 rfl rfl, ?_⟩
        exact hc
      · intro E θ a w hD hi hp he hc
        have hf := he.h0
        replace hf := hf.more he 2 rfl onT
        refine stP hf rfl rfl rfl (pM rfl) fun a hf => ?_
        refine cNil ?_
        refine xThenN ?_
        intro ds u hau
        refine ⟨θ, he.put0 hi hau hf rfl 11 rfl rfl, ?_⟩
        exact hc
      · intro E θ a w hD hi hp he hc
        have e7 := hp.of (k := 7) rfl
        have e8 := hp.of (k := 8) rfl
        have hf := he.h0
        replace hf := hf.more he 10 rfl (onP e7)
        replace hf := hf.more he 11 rfl (onP e8)
        refine stP hf rfl rfl rfl (pIA Try.underlying86 sz_116 rfl rfl qa_3) fun a hf => ?_
        refine cNil ?_
        refine xThenN ?_
        intro ds u hau
        refine ⟨θ, he.put0 hi hau hf rfl 12 rfl rfl, ?_⟩
        exact hc
      · intro E θ a w hD hi hp he hc
        have e9 := hp.of (k := 9) rfl
        have hf := he.h0
        replace hf := hf.more he 12 rfl (onP e9)
        refine stE hf hc rfl rfl rfl (eLdN (vs := [.int .i64 e_4.Index, .int .i64 e_4.Due]) ag_116 rfl rfl (cells_pc qp_3 (n := 2) (o' := 0) rfl)) fun a w hf hc => ?_
        refine cNil ?_
        refine xThenN ?_
        intro ds u hau
        refine ⟨θ, he.put0 hi hau hf rfl 13 rfl rfl, ?_⟩
        exact hc
      · intro E θ a w hD hi hp he hc
        have e13 := hD.f 0 rfl hi
        try dsimp only at hc
        rw [hi, e13] at hc
        have hf := he.h0
        refine stAl (cs := [.int .i64 0, .int .i64 0]) hf hc rfl rfl zr_116 rfl fun b_7 a w hf hc => ?_
        refine cNil ?_
        refine xThenN ?_
        intro ds u hau
        replace hc := hc.drop k2
        replace hc := hc.pick k0
        replace hc := hc.pick k1
        refine ⟨(setT θ 88 ⟨b_7, none, 0⟩), he.put hi hau hf rfl [] trivial ⟨qq, qq, qq, qq, qq, qq, qq, qq, qq, qq, qq, qq, qq, qq, qq, qq, trivial⟩, ?_⟩
        try dsimp only
        rw [updE_self E 11, updE_fls 11 e13 rfl]
        exact hc
      · intro E θ a w hD hi hp he hc
        have e14 := hD.f 1 rfl hi
        try dsimp only at hc
        rw [hi, e14] at hc
        have hf := he.h0
        refine stAl (cs := [.int .i64 0, .int .i64 0]) hf hc rfl rfl zr_116 rfl fun b_8 a w hf hc => ?_
        refine cNil ?_
        refine xThenN ?_
        intro ds u hau
        replace hc := hc.drop k1
        refine ⟨(setT θ 96 ⟨b_8, none, 0⟩), he.put hi hau hf rfl [] trivial ⟨qq, qq, qq, qq, qq, qq, qq, qq, qq, qq, qq, qq, qq, qq, qq, qq, trivial⟩, ?_⟩
        try dsimp only
        rw [updE_self E 12, updE_fls 12 e14 rfl]
        exact hc
      · intro E θ a w hD hi hp he hc
        have e5 := hp.of (k := 5) rfl
        have e11 := hp.of (k := 11) rfl
        try dsimp only at hc
        rw [e11, hi] at hc
        have hf := he.h0
        replace hf := hf.more he 8 rfl (onP e5)
        replace hf := hf.more he 14 rfl (onP e11)
        refine stSt (vs := [.int .i64 e_3.Index, .int .i64 e_3.Due]) hf hc rfl rfl rfl rfl sz_116 rfl rfl u1 fun w hc => ?_
        refine cNil ?_
        refine xThenN ?_
        intro ds u hau
        refine ⟨θ, he.stay0 hi hau hf rfl, ?_⟩
        try dsimp only
        rw [updE_tru 13 e11, updE_self E 13]
        exact hc
      · intro E θ a w hD hi hp he hc
        have e10 := hp.of (k := 10) rfl
        have e12 := hp.of (k := 12) rfl
        try dsimp only at hc
        rw [e12, hi] at hc
        have hf := he.h0
        replace hf := hf.more he 13 rfl (onP e10)
        replace hf := hf.more he 15 rfl (onP e12)
        refine stSt (vs := [.int .i64 e_4.Index, .int .i64 e_4.Due]) hf hc rfl rfl rfl rfl sz_116 rfl rfl u0 fun w hc => ?_
        refine cNil ?_
        refine xThenN ?_
        intro ds u hau
        refine ⟨θ, he.stay0 hi hau hf rfl, ?_⟩
        try dsimp only
        rw [updE_tru 14 e12, updE_self E 14]
        exact hc
      · intro E θ a w hall he hc
        have hf := he.h0
        have e11 := hall 11 rfl
        have e12 := hall 12 rfl
        have e13 := hall 13 rfl
        have e14 := hall 14 rfl
        replace hf := hf.more he 15 rfl (onP e12)
        replace hf := hf.more he 14 rfl (onP e11)
        replace hf := hf.more he 1 rfl (onT)
        try dsimp only at hc
        rw [e11, e12, e13, e14] at hc
        exact ⟨(θ 88).b, (θ 96).b, hf.keep ⟨rfl, rfl, rfl, trivial⟩, hc⟩
      rintro a w ⟨b_9, b_10, hf, hc⟩
      refine h9 _ _ ?_
      refine wp_seq_k fun K10 h10 => ?_
      obtain ⟨un, hun, hF⟩ := bnd_some hF
      refine cQ hc follows_mx (by kernel_rfl) ?_
      refine qE hf rfl rfl rfl (Pu.ev (pFA fa_116_1 rfl)) fun a hf => ?_
      refine qE hf rfl rfl rfl (eLd1 sc_3 rfl (cell_box m1 rfl)) fun a hf => ?_
      refine qE hf rfl rfl rfl (Pu.ev (pFA fa_116_1 rfl)) fun a hf => ?_
      refine qE hf rfl rfl rfl (eLd1 sc_3 rfl (cell_box m0 rfl)) fun a hf => ?_
      refine qE hf rfl rfl rfl (Pu.ev (pFA fa_116_1 rfl)) fun a hf => ?_
      refine qE hf rfl rfl rfl (eLd1 sc_3 rfl (cell_box m1 rfl)) fun a hf => ?_
      refine qE hf rfl rfl rfl (Pu.ev (pSub rfl rfl)) fun a hf => ?_
      refine qE hf rfl rfl rfl (eLd1 sc_3 rfl (cell_box m2 rfl)) fun a hf => ?_
      refine qE hf rfl rfl rfl (Pu.ev (pFA fa_116_0 rfl)) fun a hf => ?_
      refine qE hf rfl rfl rfl (eLd1 sc_3 rfl (cell_box m1 rfl)) fun a hf => ?_
      refine qE hf rfl rfl rfl (Pu.ev (pSub rfl rfl)) fun a hf => ?_
      refine qE hf rfl rfl rfl (Pu.ev (pMul rfl rfl)) fun a hf => ?_
      refine qE hf rfl rfl rfl (Pu.ev (pFA fa_116_0 rfl)) fun a hf => ?_
      refine qE hf rfl rfl rfl (eLd1 sc_3 rfl (cell_box m0 rfl)) fun a hf => ?_
      refine qE hf rfl rfl rfl (Pu.ev (pFA fa_116_0 rfl)) fun a hf => ?_
      refine qE hf rfl rfl rfl (eLd1 sc_3 rfl (cell_box m1 rfl)) fun a hf => ?_
      refine qE hf rfl rfl rfl (Pu.ev (pSub rfl rfl)) fun a hf => ?_
      refine qE hf rfl rfl rfl (Pu.ev (pQuo rfl rfl (nz_spec hun))) fun a hf => ?_
      refine qE hf rfl rfl rfl (Pu.ev (pAdd rfl rfl)) fun a hf => ?_
      refine qE hf rfl rfl rfl (Pu.ev (pA rfl)) fun a hf => ?_
      intro w hc
      refine h10 _ _ ?_
      refine wp_ret ?_
      obtain rfl := Option.some.inj hF
      replace hc := hc.drop k3
      replace hc := hc.drop k2
      replace hc := hc.drop k1
      replace hc := hc.drop k0
      exact fnOut1 (by simp) rfl Try.results97 hf hc (show look _ 4 = _ from rfl) ⟨rfl, hc⟩

def share_Border_goes_1_j5 (N : Nat) (mp : Int → Option Int) (b__0 : Int) : Option (Int × (Int → Option Int) × Int) :=
  some (b__0, mp, b__0)
def share_Border_goes_1_j3 (N : Nat) (t_ : share_Truth) (spill : Bool) (x_1 : share_Border) (x_2 : Int) (due : Int) (mp : Int → Option Int) : Option (Int × (Int → Option Int) × Int) :=
  cond spill
  (share_Border_goes_1_j5 N mp 0)
  (share_Border_goes_1_j5 N mp (max (W (0 - x_1.Credit)) (W ((W (x_2 + due)) - t_.Delivered))))
def share_Border_goes_1 (N : Nat) (t_ : share_Truth) (spill : Bool) (x : Int → Option Int) (x_1 : share_Border) (x_2 : Int) : Option (Int × (Int → Option Int) × Int) :=
  cond (!((x t_.Index).isSome))
  (Option.bind (share_Border_due N x_1 t_.Index) fun r =>
  share_Border_goes_1_j3 N t_ spill x_1 x_2 r (setM x t_.Index r))
  (share_Border_goes_1_j3 N t_ spill x_1 x_2 ((x t_.Index).getD 0) x)
theorem share_Border_goes_1_ok {N : Nat} {G : Pers} {Lf : List Ent} {w : World} (t_ : share_Truth) (spill : Bool) (x : Int → Option Int) (x_1 : share_Border) (x_2 : Int) {b_ : Nat} {mb : Nat} {b__1 : Nat} {x_1_Table_p : Option Addr} {x_1_Table_c : Nat} {b__2 : Nat} (h_x_1_Table : Rd G 2 x_1_Table_p x_1_Table_c (x_1.Table.map enc_share_Point)) (hc : Ctx G (.box b_ [.map (some mb)] 213 :: .im mb (fun j => (x j).map (Value.int .i64)) none :: .box b__1 [.slice x_1_Table_p x_1.Table.length x_1_Table_c, .int .i64 x_1.Credit] 88 :: .box b__2 [.int .i64 x_2] 3 :: Lf) w) {res : Int × (Int → Option Int) × Int} (hF : share_Border_goes_1 N t_ spill x x_1 x_2 = some res) : Calls Try.prog 129 #[.agg #[.int .i64 t_.Index, .int .i64 t_.Delivered], .bool spill, .pointer (some ⟨b_, 0, none⟩), .pointer (some ⟨b__1, 0, none⟩), .pointer (some ⟨b__2, 0, none⟩)] w (fun e w => e = .returned (.int .i64 res.1) ∧ Ctx G (.box b_ [.map (some mb)] 213 :: .im mb (fun j => (res.2.1 j).map (Value.int .i64)) none :: .box b__1 [.slice x_1_Table_p x_1.Table.length x_1_Table_c, .int .i64 x_1.Credit] 88 :: .box b__2 [.int .i64 res.2.2] 3 :: Lf) w) := by
  unfold share_Border_goes_1 at hF
  refine fnIn (args := [.agg #[.int .i64 t_.Index, .int .i64 t_.Delivered], .bool spill, .pointer (some ⟨b_, 0, none⟩), .pointer (some ⟨b__1, 0, none⟩), .pointer (some ⟨b__2, 0, none⟩)]) Try.func129 rfl Try.ntmps129 rfl fun a hf => ?_
  refine wp_seq_k fun K1 h1 => ?_
  refine cReg ?_
  refine stBx (cs := [.int .i64 t_.Index, .int .i64 t_.Delivered]) hf hc rfl rfl rfl rfl fun b_1 a w hf hc => ?_
  refine stP hf rfl rfl rfl (pA rfl) fun a hf => ?_
  refine cNil ?_
  refine h1 _ _ ?_
  refine wp_seq_k fun K2 h2 => ?_
  refine cReg ?_
  refine stE hf hc rfl rfl rfl (eLd1 sc_213 rfl (cell_box m1 rfl)) fun a w hf hc => ?_
  refine stP hf rfl rfl rfl (pFA fa_97_0 rfl) fun a hf => ?_
  refine stE hf hc rfl rfl rfl (eLd1 sc_3 rfl (cell_box m0 rfl)) fun a w hf hc => ?_
  refine stE hf hc rfl rfl rfl (eLkOk (enc := (Value.int .i64)) (z0 := 0) (m := x) m2 Try.underlying213 Try.underlying3 zr_3 rfl rfl) fun a w hf hc => ?_
  refine stP hf rfl rfl rfl (pM rfl) fun a hf => ?_
  refine stP hf rfl rfl rfl (pX rfl rfl) fun a hf => ?_
  refine stP hf rfl rfl rfl (pX rfl rfl) fun a hf => ?_
  refine stP hf rfl rfl rfl (pA rfl) fun a hf => ?_
  refine stP hf rfl rfl rfl (pA rfl) fun a hf => ?_
  refine cNil ?_
  refine h2 _ _ ?_
  refine wp_seq_k fun K3 h3 => ?_
  have hj3 : ∀ (due : Int) (mp : Int → Option Int) a w, Has 39 a [(1, .bool spill), (3, .pointer (some ⟨b__1, 0, none⟩)), (4, .pointer (some ⟨b__2, 0, none⟩)), (5, .pointer (some ⟨b_1, 0, none⟩)), (8, .int .i64 due)] → Ctx G (.box b_1 [.int .i64 t_.Index, .int .i64 t_.Delivered] 97 :: .box b_ [.map (some mb)] 213 :: .im mb (fun j => (mp j).map (Value.int .i64)) none :: .box b__1 [.slice x_1_Table_p x_1.Table.length x_1_Table_c, .int .i64 x_1.Credit] 88 :: .box b__2 [.int .i64 x_2] 3 :: Lf) w → share_Border_goes_1_j3 N t_ spill x_1 x_2 due mp = some res → K3 a w := by
    intro due mp a w hf hc hF
    unfold share_Border_goes_1_j3 at hF
    refine h3 _ _ ?_
    refine wp_seq_k fun K4 h4 => ?_
    refine cReg ?_
    refine stP hf rfl rfl rfl (pFA fa_88_1 rfl) fun a hf => ?_
    refine stE hf hc rfl rfl rfl (eLd1 sc_3 rfl (cell_box m3 rfl)) fun a w hf hc => ?_
    refine stP hf rfl rfl rfl (pNeg rfl) fun a hf => ?_
    refine stE hf hc rfl rfl rfl (eLd1 sc_3 rfl (cell_box m4 rfl)) fun a w hf hc => ?_
    refine stP hf rfl rfl rfl (pM rfl) fun a hf => ?_
    refine stP hf rfl rfl rfl (pAdd rfl rfl) fun a hf => ?_
    refine stP hf rfl rfl rfl (pFA fa_97_1 rfl) fun a hf => ?_
    refine stE hf hc rfl rfl rfl (eLd1 sc_3 rfl (cell_box m0 rfl)) fun a w hf hc => ?_
    refine stP hf rfl rfl rfl (pSub rfl rfl) fun a hf => ?_
    refine stP hf rfl rfl rfl (pMax2 rfl rfl) fun a hf => ?_
    refine stSt (vs := [.int .i64 (max (W (0 - x_1.Credit)) (W ((W (x_2 + due)) - t_.Delivered)))]) hf hc rfl rfl rfl rfl sz_3 rfl rfl u4 fun w hc => ?_
    refine cNil ?_
    refine h4 _ _ ?_
    refine wp_seq_k fun K5 h5 => ?_
    have hj5 : ∀ (b__0 : Int) a w, Has 39 a [(4, .pointer (some ⟨b__2, 0, none⟩))] → Ctx G (.box b_ [.map (some mb)] 213 :: .im mb (fun j => (mp j).map (Value.int .i64)) none :: .box b__1 [.slice x_1_Table_p x_1.Table.length x_1_Table_c, .int .i64 x_1.Credit] 88 :: .box b__2 [.int .i64 b__0] 3 :: Lf) w → share_Border_goes_1_j5 N mp b__0 = some res → K5 a w := by
      intro b__0 a w hf hc hF
      unfold share_Border_goes_1_j5 at hF
      refine h5 _ _ ?_
      refine wp_seq_k fun K6 h6 => ?_
      refine cReg ?_
      refine stE hf hc rfl rfl rfl (eLd1 sc_3 rfl (cell_box m3 rfl)) fun a w hf hc => ?_
      refine stP hf rfl rfl rfl (pA rfl) fun a hf => ?_
      refine cNil ?_
      refine h6 _ _ ?_
      refine wp_ret ?_
      obtain rfl := Option.some.inj hF
      exact fnOut1 (by simp) rfl Try.results129 hf hc (show look _ 7 = _ from rfl) ⟨rfl, hc⟩
    refine wp_seq_k fun K7 h7 => ?_
    refine cReg ?_
    refine stP hf rfl rfl rfl (pM rfl) fun a hf => ?_
    refine cNil ?_
    refine h7 _ _ ?_
    refine cCond (b := spill) hf rfl (fun hb => ?_) (fun hb => ?_)
    · replace hF := condT hb hF
      clear hb
      refine cReg ?_
      refine stSt (vs := [.int .i64 0]) hf hc rfl rfl rfl rfl sz_3 rfl rfl u4 fun w hc => ?_
      refine cNil ?_
      replace hc := hc.drop k0
      exact hj5 0 _ _  (hf.keep ⟨rfl, trivial⟩) hc hF
    · replace hF := condF hb hF
      clear hb
      refine wp_skip ?_
      replace hc := hc.drop k0
      exact hj5 (max (W (0 - x_1.Credit)) (W ((W (x_2 + due)) - t_.Delivered))) _ _  (hf.keep ⟨rfl, trivial⟩) hc hF
  refine wp_seq_k fun K8 h8 => ?_
  refine cReg ?_
  refine stP hf rfl rfl rfl (pM rfl) fun a hf => ?_
  refine stP hf rfl rfl rfl (pNot rfl) fun a hf => ?_
  refine cNil ?_
  refine h8 _ _ ?_
  refine cCond (b := (!((x t_.Index).isSome))) hf rfl (fun hb => ?_) (fun hb => ?_)
  · replace hF := condT hb hF
    clear hb
    refine wp_seq_k fun K9 h9 => ?_
    refine cReg ?_
    refine stE hf hc rfl rfl rfl (eLdN (vs := [.slice x_1_Table_p x_1.Table.length x_1_Table_c, .int .i64 x_1.Credit]) ag_88 rfl rfl (cells_box (n := 2) m3 rfl)) fun a w hf hc => ?_
    refine stP hf rfl rfl rfl (pFA fa_97_0 rfl) fun a hf => ?_
    refine stE hf hc rfl rfl rfl (eLd1 sc_3 rfl (cell_box m0 rfl)) fun a w hf hc => ?_
    obtain ⟨r, hr, hF⟩ := bnd_some hF
    refine stE hf hc rfl rfl rfl (eC (v := .int .i64 r) (vs := [.agg #[.slice x_1_Table_p x_1.Table.length x_1_Table_c, .int .i64 x_1.Credit], .int .i64 t_.Index]) (caps := []) en_97 rfl rfl rfl rfl (fun w hc => share_Border_due_ok x_1 t_.Index h_x_1_Table hc hr)) fun a w hf hc => ?_
    refine stP hf rfl rfl rfl (pA rfl) fun a hf => ?_
    refine cNil ?_
    refine h9 _ _ ?_
    refine cReg ?_
    refine stE hf hc rfl rfl rfl (eLd1 sc_213 rfl (cell_box m1 rfl)) fun a w hf hc => ?_
    refine stP hf rfl rfl rfl (pFA fa_97_0 rfl) fun a hf => ?_
    refine stE hf hc rfl rfl rfl (eLd1 sc_3 rfl (cell_box m0 rfl)) fun a w hf hc => ?_
    refine stP hf rfl rfl rfl (pM rfl) fun a hf => ?_
    refine stMU (enc := (Value.int .i64)) (m := x) (v := r) hf hc rfl Try.underlying213 Try.underlying3 rfl rfl rfl u2 fun w hc => ?_
    refine cNil ?_
    exact hj3 r (setM x t_.Index r) _ _  (hf.keep ⟨rfl, rfl, rfl, rfl, rfl, trivial⟩) hc hF
  · replace hF := condF hb hF
    clear hb
    refine wp_skip ?_
    exact hj3 ((x t_.Index).getD 0) x _ _  (hf.keep ⟨rfl, rfl, rfl, rfl, rfl, trivial⟩) hc hF

def share_high_1 (s_ : api_Span) : Int :=
  s_.Hi
theorem share_high_1_ok {G : Pers} {Lf : List Ent} {w : World} (s_ : api_Span)   (hc : Ctx G (Lf) w) {res : Int} (hF : share_high_1 s_ = res) : Calls Try.prog 132 #[.agg #[.int .i64 s_.Lo, .int .i64 s_.Hi]] w (fun e w => e = .returned (.int .i64 res) ∧ Ctx G (Lf) w) := by
  unfold share_high_1 at hF
  refine fnIn (args := [.agg #[.int .i64 s_.Lo, .int .i64 s_.Hi]]) Try.func132 rfl Try.ntmps132 rfl fun a hf => ?_
  refine wp_seq_k fun K1 h1 => ?_
  refine cReg ?_
  refine stBx (cs := [.int .i64 s_.Lo, .int .i64 s_.Hi]) hf hc rfl rfl rfl rfl fun b_1 a w hf hc => ?_
  refine stP hf rfl rfl rfl (pA rfl) fun a hf => ?_
  refine cNil ?_
  refine h1 _ _ ?_
  refine wp_seq_k fun K2 h2 => ?_
  refine cReg ?_
  refine stP hf rfl rfl rfl (pFA fa_26_1 rfl) fun a hf => ?_
  refine stE hf hc rfl rfl rfl (eLd1 sc_3 rfl (cell_box m0 rfl)) fun a w hf hc => ?_
  refine stP hf rfl rfl rfl (pA rfl) fun a hf => ?_
  refine cNil ?_
  refine h2 _ _ ?_
  refine wp_ret ?_
  obtain rfl := hF
  replace hc := hc.drop k0
  exact fnOut1 (by simp) rfl Try.results132 hf hc (show look _ 2 = _ from rfl) ⟨rfl, hc⟩

def share_high_2 (s_ : api_Span) : Int :=
  s_.Lo
theorem share_high_2_ok {G : Pers} {Lf : List Ent} {w : World} (s_ : api_Span)   (hc : Ctx G (Lf) w) {res : Int} (hF : share_high_2 s_ = res) : Calls Try.prog 133 #[.agg #[.int .i64 s_.Lo, .int .i64 s_.Hi]] w (fun e w => e = .returned (.int .i64 res) ∧ Ctx G (Lf) w) := by
  unfold share_high_2 at hF
  refine fnIn (args := [.agg #[.int .i64 s_.Lo, .int .i64 s_.Hi]]) Try.func133 rfl Try.ntmps133 rfl fun a hf => ?_
  refine wp_seq_k fun K1 h1 => ?_
  refine cReg ?_
  refine stBx (cs := [.int .i64 s_.Lo, .int .i64 s_.Hi]) hf hc rfl rfl rfl rfl fun b_1 a w hf hc => ?_
  refine stP hf rfl rfl rfl (pA rfl) fun a hf => ?_
  refine cNil ?_
  refine h1 _ _ ?_
  refine wp_seq_k fun K2 h2 => ?_
  refine cReg ?_
  refine stP hf rfl rfl rfl (pFA fa_26_0 rfl) fun a hf => ?_
  refine stE hf hc rfl rfl rfl (eLd1 sc_3 rfl (cell_box m0 rfl)) fun a w hf hc => ?_
  refine stP hf rfl rfl rfl (pA rfl) fun a hf => ?_
  refine cNil ?_
  refine h2 _ _ ?_
  refine wp_ret ?_
  obtain rfl := hF
  replace hc := hc.drop k0
  exact fnOut1 (by simp) rfl Try.results133 hf hc (show look _ 2 = _ from rfl) ⟨rfl, hc⟩

def share_Debts_b11 (N : Nat) (b_ : share_Border) (years : List share_Year) (r_1 : (Int → Option Int) × Int × Int) (r_2 : (Int → Option Int) × Int × Int) (out : List api_Span) (x : Int) (x_1 : Int) (x_2 : Int) (mp : Int → Option Int) (mp_1 : Int → Option Int) : Option (Step ((List api_Span) × Int × Int × Int × (Int → Option Int) × (Int → Option Int)) ((List api_Span) × Int)) :=
  cond (decide (x < ((years.length : Nat) : Int)))
  (Option.bind (getI years x) fun e_1 =>
  Option.bind (share_Border_goes_1 N (⟨(share_low_1 e_1.Index), (share_low_2 e_1.Delivered)⟩ : share_Truth) e_1.Spill mp_1 (⟨b_.Table, r_1.2.1⟩ : share_Border) x_1) fun r_5 =>
  Option.bind (share_Border_goes_1 N (⟨(share_high_1 e_1.Index), (share_high_2 e_1.Delivered)⟩ : share_Truth) e_1.Spill mp (⟨b_.Table, r_2.2.1⟩ : share_Border) x_2) fun r_6 =>
  Option.bind (room ((out ++ [(⟨r_5.1, r_6.1⟩ : api_Span)])).length) fun un =>
  some (.cont ((out ++ [(⟨r_5.1, r_6.1⟩ : api_Span)]), W (x + 1), r_5.2.2, r_6.2.2, r_6.2.1, r_5.2.1)))
  (some (.brk (out, x, x_1, x_2, mp, mp_1)))
def share_Debts (N : Nat) (b_ : share_Border) (start : api_Span) (years : List share_Year) : Option ((List api_Span) × Int) :=
  Option.bind (share_asked N b_ start years) fun r =>
  cond (r != 0)
  (some (([] : List api_Span), r))
  (Option.bind (share_Border_goes N b_ start.Lo) fun r_1 =>
  Option.bind (share_Border_goes N b_ start.Hi) fun r_2 =>
  Option.bind (share_low N) fun r_3 =>
  Option.bind (share_high N) fun r_4 =>
  Option.bind (loopO (fun s11 => share_Debts_b11 N b_ years r_1 r_2 s11.1 s11.2.1 s11.2.2.1 s11.2.2.2.1 s11.2.2.2.2.1 s11.2.2.2.2.2) N (([] : List api_Span), 0, r_1.2.2, r_2.2.2, r_2.1, r_1.1)) fun x11 =>
  exK x11 (fun s11 => some (s11.1, 0)) some)
theorem share_Debts_ok {N : Nat} {G : Pers} {Lf : List Ent} {w : World} (b_ : share_Border) (start : api_Span) (years : List share_Year) {b__Table_p : Option Addr} {b__Table_c : Nat} {years_p : Option Addr} {years_c : Nat} (h_b__Table : Rd G 2 b__Table_p b__Table_c (b_.Table.map enc_share_Point)) (h_years : Rd G 5 years_p years_c (years.map enc_share_Year)) (hc : Ctx G (Lf) w) {res : (List api_Span) × Int} (hF : share_Debts N b_ start years = some res) : Calls Try.prog 54 #[.agg #[.slice b__Table_p b_.Table.length b__Table_c, .int .i64 b_.Credit], .agg #[.int .i64 start.Lo, .int .i64 start.Hi], .slice years_p years.length years_c] w (fun e w => ∃ (p'1 : Option Addr) (c'1 : Nat), e = .returned (.tuple #[.slice p'1 res.1.length c'1, .int .i64 res.2]) ∧ Ctx G (.row p'1 c'1 (res.1.map enc_api_Span) 26 2 :: Lf) w) := by
  unfold share_Debts at hF
  refine fnIn (args := [.agg #[.slice b__Table_p b_.Table.length b__Table_c, .int .i64 b_.Credit], .agg #[.int .i64 start.Lo, .int .i64 start.Hi], .slice years_p years.length years_c]) Try.func54 rfl Try.ntmps54 rfl fun a hf => ?_
  refine wp_seq_k fun K1 h1 => ?_
  refine cReg ?_
  refine stBx (cs := [.slice b__Table_p b_.Table.length b__Table_c, .int .i64 b_.Credit]) hf hc rfl rfl rfl rfl fun b_1 a w hf hc => ?_
  refine stBx (cs := [.int .i64 start.Lo, .int .i64 start.Hi]) hf hc rfl rfl rfl rfl fun b_2 a w hf hc => ?_
  refine stP hf rfl rfl rfl (pA rfl) fun a hf => ?_
  refine stP hf rfl rfl rfl (pA rfl) fun a hf => ?_
  refine cNil ?_
  refine h1 _ _ ?_
  refine wp_seq_k fun K2 h2 => ?_
  refine wp_seq_k fun K3 h3 => ?_
  refine cReg ?_
  refine stE hf hc rfl rfl rfl (eLdN (vs := [.slice b__Table_p b_.Table.length b__Table_c, .int .i64 b_.Credit]) ag_88 rfl rfl (cells_box (n := 2) m1 rfl)) fun a w hf hc => ?_
  refine stE hf hc rfl rfl rfl (eLdN (vs := [.int .i64 start.Lo, .int .i64 start.Hi]) ag_26 rfl rfl (cells_box (n := 2) m0 rfl)) fun a w hf hc => ?_
  refine stP hf rfl rfl rfl (pM rfl) fun a hf => ?_
  obtain ⟨r, hr, hF⟩ := bnd_some hF
  refine stE hf hc rfl rfl rfl (eC (v := .int .i64 r) (vs := [.agg #[.slice b__Table_p b_.Table.length b__Table_c, .int .i64 b_.Credit], .agg #[.int .i64 start.Lo, .int .i64 start.Hi], .slice years_p years.length years_c]) (caps := []) en_99 rfl rfl rfl rfl (fun w hc => share_asked_ok b_ start years h_b__Table h_years hc hr)) fun a w hf hc => ?_
  refine stP hf rfl rfl rfl (pA rfl) fun a hf => ?_
  refine cNil ?_
  refine h3 _ _ ?_
  refine wp_seq_k fun K4 h4 => ?_
  refine cReg ?_
  refine stP hf rfl rfl rfl (pM rfl) fun a hf => ?_
  refine stP hf rfl rfl rfl (pNe rfl rfl) fun a hf => ?_
  refine cNil ?_
  refine h4 _ _ ?_
  refine cCond (b := (r != 0)) hf rfl (fun hb => ?_) (fun hb => ?_)
  · replace hF := condT hb hF
    clear hb
    refine wp_seq_k fun K5 h5 => ?_
    refine cReg ?_
    refine stP hf rfl rfl rfl (pM rfl) fun a hf => ?_
    refine stP hf rfl rfl rfl (pA rfl) fun a hf => ?_
    refine stP hf rfl rfl rfl (pA rfl) fun a hf => ?_
    refine cNil ?_
    refine h5 _ _ ?_
    refine wp_ret ?_
    refine xThenR ?_
    obtain rfl := Option.some.inj hF
    replace hc := hc.nilRow 26 2
    replace hc := hc.drop k2
    replace hc := hc.drop k1
    exact fnOut2 (by simp) rfl Try.results54 hf hc (show look _ 6 = _ from rfl) (show look _ 7 = _ from rfl) ⟨none, 0, rfl, hc⟩
  · replace hF := condF hb hF
    clear hb
    refine wp_skip ?_
    refine h2 _ _ ?_
    refine wp_seq_k fun K6 h6 => ?_
    refine cReg ?_
    refine stP hf rfl rfl rfl (pA rfl) fun a hf => ?_
    refine cNil ?_
    refine h6 _ _ ?_
    refine wp_seq_k fun K7 h7 => ?_
    obtain ⟨r_1, hr_1, hF⟩ := bnd_some hF
    obtain ⟨r_2, hr_2, hF⟩ := bnd_some hF
    replace hc := hc.nilRow 0 0
    replace hc := hc.nilRow 0 0
    replace hc := hc.nilRow 0 0
    replace hc := hc.nilRow 0 0
    replace hc := hc.nilRow 0 0
    replace hc := hc.nilRow 0 0
    replace hc := hc.nilRow 0 0
    replace hc := hc.nilRow 0 0
    refine regionE (fun θ => [⟨none, none, 2, .slice years_p years.length years_c⟩, ⟨none, none, 3, .pointer (some ⟨b_1, 0, none⟩)⟩, ⟨none, none, 4, .pointer (some ⟨b_2, 0, none⟩)⟩, ⟨none, none, 9, .slice none 0 0⟩, ⟨some 0, none, 25, .agg #[.slice b__Table_p b_.Table.length b__Table_c, .int .i64 b_.Credit]⟩, ⟨some 1, none, 26, .pointer (some ⟨b_2, 0, none⟩)⟩, ⟨some 2, none, 27, .int .i64 start.Lo⟩, ⟨some 3, none, 28, .func (.func 129) #[] #[.pointer (some ⟨(θ 24).b, 0, none⟩), .pointer (some ⟨(θ 26).b, 0, none⟩), .pointer (some ⟨(θ 27).b, 0, none⟩)]⟩, ⟨some 4, none, 29, .agg #[.slice b__Table_p b_.Table.length b__Table_c, .int .i64 b_.Credit]⟩, ⟨some 5, none, 30, .pointer (some ⟨b_2, 1, none⟩)⟩, ⟨some 6, none, 31, .int .i64 start.Hi⟩, ⟨some 7, none, 32, .func (.func 129) #[] #[.pointer (some ⟨(θ 56).b, 0, none⟩), .pointer (some ⟨(θ 58).b, 0, none⟩), .pointer (some ⟨(θ 59).b, 0, none⟩)]⟩, ⟨some 8, none, 10, .func (.func 129) #[] #[.pointer (some ⟨(θ 24).b, 0, none⟩), .pointer (some ⟨(θ 26).b, 0, none⟩), .pointer (some ⟨(θ 27).b, 0, none⟩)]⟩, ⟨some 9, none, 11, .func (.func 129) #[] #[.pointer (some ⟨(θ 56).b, 0, none⟩), .pointer (some ⟨(θ 58).b, 0, none⟩), .pointer (some ⟨(θ 59).b, 0, none⟩)]⟩]) (fun E θ => (bif E 7 then .box (θ 59).b [.int .i64 r_2.2.2] 3 else .row none 0 [] 0 0) :: (bif E 7 then .box (θ 58).b [.slice b__Table_p b_.Table.length b__Table_c, .int .i64 r_2.2.1] 88 else .row none 0 [] 0 0) :: (bif E 7 then .box (θ 56).b [.map (some ((θ 57).b))] 213 else .row none 0 [] 0 0) :: (bif E 7 then .im ((θ 57).b) (fun j => (r_2.1 j).map (Value.int .i64)) none else .row none 0 [] 0 0) :: (bif E 3 then .box (θ 27).b [.int .i64 r_1.2.2] 3 else .row none 0 [] 0 0) :: (bif E 3 then .box (θ 26).b [.slice b__Table_p b_.Table.length b__Table_c, .int .i64 r_1.2.1] 88 else .row none 0 [] 0 0) :: (bif E 3 then .box (θ 24).b [.map (some ((θ 25).b))] 213 else .row none 0 [] 0 0) :: (bif E 3 then .im ((θ 25).b) (fun j => (r_1.1 j).map (Value.int .i64)) none else .row none 0 [] 0 0) :: .box b_2 [.int .i64 start.Lo, .int .i64 start.Hi] 26 :: .box b_1 [.slice b__Table_p b_.Table.length b__Table_c, .int .i64 b_.Credit] 88 :: Lf) [(8, 3), (9, 7)] (fun a w => ∃ (b_11 : Nat) (b_12 : Nat) (b_13 : Nat) (b_14 : Nat) (b_15 : Nat) (b_16 : Nat) (b_17 : Nat) (b_18 : Nat), Has 79 a [(2, .slice years_p years.length years_c), (9, .slice none 0 0), (10, .func (.func 129) #[] #[.pointer (some ⟨b_11, 0, none⟩), .pointer (some ⟨b_12, 0, none⟩), .pointer (some ⟨b_13, 0, none⟩)]), (11, .func (.func 129) #[] #[.pointer (some ⟨b_14, 0, none⟩), .pointer (some ⟨b_15, 0, none⟩), .pointer (some ⟨b_16, 0, none⟩)])] ∧ Ctx G (.box b_16 [.int .i64 r_2.2.2] 3 :: .box b_15 [.slice b__Table_p b_.Table.length b__Table_c, .int .i64 r_2.2.1] 88 :: .box b_14 [.map (some b_17)] 213 :: .im b_17 (fun j => (r_2.1 j).map (Value.int .i64)) none :: .box b_13 [.int .i64 r_1.2.2] 3 :: .box b_12 [.slice b__Table_p b_.Table.length b__Table_c, .int .i64 r_1.2.1] 88 :: .box b_11 [.map (some b_18)] 213 :: .im b_18 (fun j => (r_1.1 j).map (Value.int .i64)) none :: .box b_2 [.int .i64 start.Lo, .int .i64 start.Hi] 26 :: .box b_1 [.slice b__Table_p b_.Table.length b__Table_c, .int .i64 b_.Credit] 88 :: Lf) w) follows_mx (by kernel_rfl) (by kernel_rfl) (HasE.of hf ⟨rfl, rfl, rfl, rfl, trivial, trivial, trivial, trivial, trivial, trivial, trivial, trivial, trivial, trivial, trivial⟩) hc ⟨?_, ?_, ?_, ?_, ?_, ?_, ?_, ?_, ?_, ?_, trivial⟩ ?_ ?_
    · intro E θ a w hD hi hp he hc
      have hf := he.h0
      replace hf := hf.more he 1 rfl onT
      refine stE hf hc rfl rfl rfl (eLdN (vs := [.slice b__Table_p b_.Table.length b__Table_c, .int .i64 b_.Credit]) ag_88 rfl rfl (cells_box (n := 2) m9 rfl)) fun a w hf hc => ?_
      refine cNil ?_
      refine xThenN ?_
      intro ds u hau
      refine ⟨θ, he.put0 hi hau hf rfl 4 rfl rfl, ?_⟩
      exact hc
    · intro E θ a w hD hi hp he hc
      have hf := he.h0
      replace hf := hf.more he 2 rfl onT
      refine stP hf rfl rfl rfl (pFA fa_26_0 rfl) fun a hf => ?_
      refine cNil ?_
      refine xThenN ?_
      intro ds u hau
      refine ⟨θ, he.put0 hi hau hf rfl 5 rfl rfl, ?_⟩
      exact hc
    · intro E θ a w hD hi hp he hc
      have e1 := hp.of (k := 1) rfl
      have hf := he.h0
      replace hf := hf.more he 5 rfl (onP e1)
      refine stE hf hc rfl rfl rfl (eLd1 sc_3 rfl (cell_box m8 rfl)) fun a w hf hc => ?_
      refine cNil ?_
      refine xThenN ?_
      intro ds u hau
      refine ⟨θ, he.put0 hi hau hf rfl 6 rfl rfl, ?_⟩
      exact hc
    · intro E θ a w hD hi hp he hc
      have e0 := hp.of (k := 0) rfl
      have e2 := hp.of (k := 2) rfl
      have e8 := hD.f 0 rfl hi
      try dsimp only at hc
      rw [hi] at hc
      have hf := he.h0
      replace hf := hf.more he 4 rfl (onP e0)
      replace hf := hf.more he 6 rfl (onP e2)
      refine stC (vs := [.agg #[.slice b__Table_p b_.Table.length b__Table_c, .int .i64 b_.Credit], .int .i64 start.Lo]) (caps := []) hf rfl rfl rfl en_100 rfl rfl rfl rfl (share_Border_goes_ok b_ start.Lo h_b__Table hc hr_1) ?_
      rintro _ w ⟨b_3, b_4, b_5, b_6, rfl, hc⟩
      refine ⟨_, rfl, fun a hf => ?_⟩
      refine cNil ?_
      refine xThenN ?_
      intro ds u hau
      replace hc := hc.drop k11
      replace hc := hc.drop k10
      replace hc := hc.drop k9
      replace hc := hc.drop k8
      replace hc := hc.pick k0
      replace hc := hc.pick k1
      replace hc := hc.pick k2
      replace hc := hc.pick k3
      replace hc := hc.pick k7
      replace hc := hc.pick k7
      replace hc := hc.pick k7
      replace hc := hc.pick k7
      refine ⟨(setT (setT (setT (setT θ 24 ⟨b_3, none, 0⟩) 25 ⟨b_4, none, 0⟩) 26 ⟨b_5, none, 0⟩) 27 ⟨b_6, none, 0⟩), he.put hi hau hf rfl [8] ⟨⟨e8, rfl⟩, trivial⟩ ⟨qq, qq, qq, qq, qq, qq, qq, qq, qq, qq, qq, qq, trivial, qq, trivial⟩, ?_⟩
      try dsimp only
      rw [updE_self E 3]
      exact hc
    · intro E θ a w hD hi hp he hc
      have hf := he.h0
      replace hf := hf.more he 1 rfl onT
      refine stE hf hc rfl rfl rfl (eLdN (vs := [.slice b__Table_p b_.Table.length b__Table_c, .int .i64 b_.Credit]) ag_88 rfl rfl (cells_box (n := 2) m9 rfl)) fun a w hf hc => ?_
      refine cNil ?_
      refine xThenN ?_
      intro ds u hau
      refine ⟨θ, he.put0 hi hau hf rfl 8 rfl rfl, ?_⟩
      exact hc
    · intro E θ a w hD hi hp he hc
      have hf := he.h0
      replace hf := hf.more he 2 rfl onT
      refine stP hf rfl rfl rfl (pFA fa_26_1 rfl) fun a hf => ?_
      refine cNil ?_
      refine xThenN ?_
      intro ds u hau
      refine ⟨θ, he.put0 hi hau hf rfl 9 rfl rfl, ?_⟩
      exact hc
    · intro E θ a w hD hi hp he hc
      have e5 := hp.of (k := 5) rfl
      have hf := he.h0
      replace hf := hf.more he 9 rfl (onP e5)
      refine stE hf hc rfl rfl rfl (eLd1 sc_3 rfl (cell_box m8 rfl)) fun a w hf hc => ?_
      refine cNil ?_
      refine xThenN ?_
      intro ds u hau
      refine ⟨θ, he.put0 hi hau hf rfl 10 rfl rfl, ?_⟩
      exact hc
    · intro E θ a w hD hi hp he hc
      have e4 := hp.of (k := 4) rfl
      have e6 := hp.of (k := 6) rfl
      have e9 := hD.f 1 rfl hi
      try dsimp only at hc
      rw [hi] at hc
      have hf := he.h0
      replace hf := hf.more he 8 rfl (onP e4)
      replace hf := hf.more he 10 rfl (onP e6)
      refine stC (vs := [.agg #[.slice b__Table_p b_.Table.length b__Table_c, .int .i64 b_.Credit], .int .i64 start.Hi]) (caps := []) hf rfl rfl rfl en_100 rfl rfl rfl rfl (share_Border_goes_ok b_ start.Hi h_b__Table hc hr_2) ?_
      rintro _ w ⟨b_7, b_8, b_9, b_10, rfl, hc⟩
      refine ⟨_, rfl, fun a hf => ?_⟩
      refine cNil ?_
      refine xThenN ?_
      intro ds u hau
      replace hc := hc.drop k7
      replace hc := hc.drop k6
      replace hc := hc.drop k5
      replace hc := hc.drop k4
      replace hc := hc.pick k0
      replace hc := hc.pick k1
      replace hc := hc.pick k2
      replace hc := hc.pick k3
      refine ⟨(setT (setT (setT (setT θ 56 ⟨b_7, none, 0⟩) 57 ⟨b_8, none, 0⟩) 58 ⟨b_9, none, 0⟩) 59 ⟨b_10, none, 0⟩), he.put hi hau hf rfl [9] ⟨⟨e9, rfl⟩, trivial⟩ ⟨qq, qq, qq, qq, qq, qq, qq, qq, qq, qq, qq, qq, qq, trivial, trivial⟩, ?_⟩
      try dsimp only
      rw [updE_self E 7]
      exact hc
    · intro E θ a w hD hi hp he hc
      have e3 := hp.of (k := 3) rfl
      have hf := he.h0
      replace hf := hf.more he 7 rfl (onP e3)
      refine stP hf rfl rfl rfl (pA rfl) fun a hf => ?_
      refine cNil ?_
      refine xThenN ?_
      intro ds u hau
      refine ⟨θ, he.put0 hi hau hf rfl 12 rfl rfl, ?_⟩
      exact hc
    · intro E θ a w hD hi hp he hc
      have e7 := hp.of (k := 7) rfl
      have hf := he.h0
      replace hf := hf.more he 11 rfl (onP e7)
      refine stP hf rfl rfl rfl (pA rfl) fun a hf => ?_
      refine cNil ?_
      refine xThenN ?_
      intro ds u hau
      refine ⟨θ, he.put0 hi hau hf rfl 13 rfl rfl, ?_⟩
      exact hc
    · intro E θ a w hall he hc
      have hf := he.h0
      have e3 := hall 3 rfl
      have e7 := hall 7 rfl
      have e8 := hall 8 rfl
      have e9 := hall 9 rfl
      replace hf := hf.more he 13 rfl (onP e9)
      replace hf := hf.more he 12 rfl (onP e8)
      replace hf := hf.more he 3 rfl (onT)
      replace hf := hf.more he 0 rfl (onT)
      try dsimp only at hc
      rw [e3, e7] at hc
      exact ⟨(θ 24).b, (θ 26).b, (θ 27).b, (θ 56).b, (θ 58).b, (θ 59).b, (θ 57).b, (θ 25).b, hf.keep ⟨rfl, rfl, rfl, rfl, trivial⟩, hc⟩
    rintro a w ⟨b_11, b_12, b_13, b_14, b_15, b_16, b_17, b_18, hf, hc⟩
    refine h7 _ _ ?_
    refine wp_seq_k fun K8 h8 => ?_
    refine cReg ?_
    obtain ⟨r_3, hr_3, hF⟩ := bnd_some hF
    refine stE hf hc rfl rfl rfl (eC (v := .agg #[.func (.func 130) #[] #[], .func (.func 131) #[] #[]]) (vs := []) (caps := []) en_103 rfl rfl rfl rfl (fun w hc => share_low_ok hc hr_3)) fun a w hf hc => ?_
    obtain ⟨r_4, hr_4, hF⟩ := bnd_some hF
    refine stE hf hc rfl rfl rfl (eC (v := .agg #[.func (.func 132) #[] #[], .func (.func 133) #[] #[]]) (vs := []) (caps := []) en_104 rfl rfl rfl rfl (fun w hc => share_high_ok hc hr_4)) fun a w hf hc => ?_
    refine stAl (cs := [.nilFunc, .nilFunc]) hf hc rfl rfl zr_192 rfl fun b_19 a w hf hc => ?_
    refine stAl (cs := [.nilFunc, .nilFunc]) hf hc rfl rfl zr_192 rfl fun b_20 a w hf hc => ?_
    refine stSt (vs := [.func (.func 130) #[] #[], .func (.func 131) #[] #[]]) hf hc rfl rfl rfl rfl sz_192 rfl rfl u1 fun w hc => ?_
    refine stSt (vs := [.func (.func 132) #[] #[], .func (.func 133) #[] #[]]) hf hc rfl rfl rfl rfl sz_192 rfl rfl u0 fun w hc => ?_
    refine cNil ?_
    refine h8 _ _ ?_
    refine wp_seq_k fun K9 h9 => ?_
    refine wp_seq_k fun K10 h10 => ?_
    refine cReg ?_
    refine stP hf rfl rfl rfl (pM rfl) fun a hf => ?_
    refine stP hf rfl rfl rfl (pLenS Try.underlying89 rfl) fun a hf => ?_
    refine stP hf rfl rfl rfl (pM rfl) fun a hf => ?_
    refine cNil ?_
    refine h10 _ _ ?_
    refine wp_block ?_
    obtain ⟨x11, hx11, hF⟩ := bnd_some hF
    let S11 : ((List api_Span) × Int × Int × Int × (Int → Option Int) × (Int → Option Int)) → Act → World → Prop := (fun (zz : (List api_Span) × Int × Int × Int × (Int → Option Int) × (Int → Option Int)) a w => ∃ (p_1 : Option Addr) (c_1 : Nat), Has 79 a [(9, .slice p_1 zz.1.length c_1), (10, .func (.func 129) #[] #[.pointer (some ⟨b_11, 0, none⟩), .pointer (some ⟨b_12, 0, none⟩), .pointer (some ⟨b_13, 0, none⟩)]), (11, .func (.func 129) #[] #[.pointer (some ⟨b_14, 0, none⟩), .pointer (some ⟨b_15, 0, none⟩), .pointer (some ⟨b_16, 0, none⟩)]), (12, .pointer (some ⟨b_19, 0, none⟩)), (13, .pointer (some ⟨b_20, 0, none⟩)), (35, .slice years_p years.length years_c), (36, .int .i64 ((years.length : Nat) : Int)), (37, .int .i64 zz.2.1)] ∧ Ctx G (.row p_1 c_1 (zz.1.map enc_api_Span) 26 2 :: .box b_20 [.func (.func 132) #[] #[], .func (.func 133) #[] #[]] 192 :: .box b_19 [.func (.func 130) #[] #[], .func (.func 131) #[] #[]] 192 :: .box b_16 [.int .i64 zz.2.2.2.1] 3 :: .box b_15 [.slice b__Table_p b_.Table.length b__Table_c, .int .i64 r_2.2.1] 88 :: .box b_14 [.map (some b_17)] 213 :: .im b_17 (fun j => (zz.2.2.2.2.1 j).map (Value.int .i64)) none :: .box b_13 [.int .i64 zz.2.2.1] 3 :: .box b_12 [.slice b__Table_p b_.Table.length b__Table_c, .int .i64 r_1.2.1] 88 :: .box b_11 [.map (some b_18)] 213 :: .im b_18 (fun j => (zz.2.2.2.2.2 j).map (Value.int .i64)) none :: Lf) w)
    have hr11 : ∀ (zz : (List api_Span) × Int × Int × Int × (Int → Option Int) × (Int → Option Int)) a w, x11 = .go zz → S11 zz a w → K9 a w := by
      rintro ⟨out, x, x_1, x_2, mp, mp_1⟩ a w rfl ⟨p_1, c_1, hf, hc⟩
      replace hF : _ = some res := hF
      refine h9 _ _ ?_
      refine wp_seq_k fun K12 h12 => ?_
      refine cReg ?_
      refine stP hf rfl rfl rfl (pM rfl) fun a hf => ?_
      refine stP hf rfl rfl rfl (pA rfl) fun a hf => ?_
      refine stP hf rfl rfl rfl (pA rfl) fun a hf => ?_
      refine cNil ?_
      refine h12 _ _ ?_
      refine wp_ret ?_
      obtain rfl := Option.some.inj hF
      replace hc := hc.drop k10
      replace hc := hc.drop k9
      replace hc := hc.drop k8
      replace hc := hc.drop k7
      replace hc := hc.drop k6
      replace hc := hc.drop k5
      replace hc := hc.drop k4
      replace hc := hc.drop k3
      replace hc := hc.drop k2
      replace hc := hc.drop k1
      exact fnOut2 (by simp) rfl Try.results54 hf hc (show look _ 6 = _ from rfl) (show look _ 7 = _ from rfl) ⟨p_1, c_1, rfl, hc⟩
    have ho11 : ∀ r, x11 = .out r → r = res := by
      rintro r rfl
      exact Option.some.inj hF
    replace hc := hc.nilRow 26 2
    replace hc := hc.drop k12
    replace hc := hc.drop k11
    refine cLoop N (loopW (S := S11) (x := x11) ?_ N (([] : List api_Span), 0, r_1.2.2, r_2.2.2, r_2.1, r_1.1) _ _ ⟨none, 0, hf.keep ⟨rfl, rfl, rfl, rfl, rfl, rfl, rfl, rfl, trivial⟩, hc⟩ hx11)
    clear hF hf hc
    rintro ⟨out, x, x_1, x_2, mp, mp_1⟩ st11 a w KB11 ⟨p_1, c_1, hf, hc⟩ hF hfin11 hK11
    unfold share_Debts_b11 at hF
    refine wp_seq_k fun K13 h13 => ?_
    refine cReg ?_
    refine stP hf rfl rfl rfl (pLt rfl rfl) fun a hf => ?_
    refine cNil ?_
    refine h13 _ _ ?_
    refine wp_seq_k fun K14 h14 => ?_
    refine cCond (b := (decide (x < ((years.length : Nat) : Int)))) hf rfl (fun hb => ?_) (fun hb => ?_)
    · replace hF := condT hb hF
      clear hb
      refine wp_skip ?_
      refine h14 _ _ ?_
      refine wp_seq_k fun K15 h15 => ?_
      refine wp_block ?_
      refine wp_seq_k fun K16 h16 => ?_
      refine cReg ?_
      obtain ⟨e_1, he_1, hF⟩ := bnd_some hF
      obtain ⟨b_21, o, qa, qp⟩ := h_years.atm he_1
      refine stP hf rfl rfl rfl (pIA Try.underlying89 sz_94 rfl rfl qa) fun a hf => ?_
      refine stE hf hc rfl rfl rfl (eLdN (vs := [.int .i64 e_1.Index.Lo, .int .i64 e_1.Index.Hi, .int .i64 e_1.Delivered.Lo, .int .i64 e_1.Delivered.Hi, .bool e_1.Spill]) ag_94 rfl rfl (cells_pc qp (n := 5) (o' := 0) rfl)) fun a w hf hc => ?_
      refine stAl (cs := [.int .i64 0, .int .i64 0, .int .i64 0, .int .i64 0, .bool false]) hf hc rfl rfl zr_94 rfl fun b_22 a w hf hc => ?_
      refine stSt (vs := [.int .i64 e_1.Index.Lo, .int .i64 e_1.Index.Hi, .int .i64 e_1.Delivered.Lo, .int .i64 e_1.Delivered.Hi, .bool e_1.Spill]) hf hc rfl rfl rfl rfl sz_94 rfl rfl u0 fun w hc => ?_
      refine cNil ?_
      refine h16 _ _ ?_
      refine wp_seq_k fun K17 h17 => ?_
      obtain ⟨r_5, hr_5, hF⟩ := bnd_some hF
      refine regionE (fun θ => [⟨none, none, 9, .slice p_1 out.length c_1⟩, ⟨none, none, 10, .func (.func 129) #[] #[.pointer (some ⟨b_11, 0, none⟩), .pointer (some ⟨b_12, 0, none⟩), .pointer (some ⟨b_13, 0, none⟩)]⟩, ⟨none, none, 11, .func (.func 129) #[] #[.pointer (some ⟨b_14, 0, none⟩), .pointer (some ⟨b_15, 0, none⟩), .pointer (some ⟨b_16, 0, none⟩)]⟩, ⟨none, none, 12, .pointer (some ⟨b_19, 0, none⟩)⟩, ⟨none, none, 13, .pointer (some ⟨b_20, 0, none⟩)⟩, ⟨none, none, 15, .pointer (some ⟨b_22, 0, none⟩)⟩, ⟨none, none, 35, .slice years_p years.length years_c⟩, ⟨none, none, 36, .int .i64 ((years.length : Nat) : Int)⟩, ⟨none, none, 37, .int .i64 x⟩, ⟨some 0, none, 41, .func (.func 129) #[] #[.pointer (some ⟨b_11, 0, none⟩), .pointer (some ⟨b_12, 0, none⟩), .pointer (some ⟨b_13, 0, none⟩)]⟩, ⟨some 1, none, 42, .pointer (some ⟨b_19, 0, none⟩)⟩, ⟨some 2, none, 43, .func (.func 130) #[] #[]⟩, ⟨some 3, none, 44, .pointer (some ⟨b_22, 0, none⟩)⟩, ⟨some 4, none, 45, .agg #[.int .i64 e_1.Index.Lo, .int .i64 e_1.Index.Hi]⟩, ⟨some 5, none, 46, .int .i64 (share_low_1 e_1.Index)⟩, ⟨some 6, none, 47, .pointer (some ⟨b_19, 1, none⟩)⟩, ⟨some 7, none, 48, .func (.func 131) #[] #[]⟩, ⟨some 8, none, 49, .pointer (some ⟨b_22, 2, none⟩)⟩, ⟨some 9, none, 50, .agg #[.int .i64 e_1.Delivered.Lo, .int .i64 e_1.Delivered.Hi]⟩, ⟨some 10, none, 51, .int .i64 (share_low_2 e_1.Delivered)⟩, ⟨some 11, none, 52, .agg #[.int .i64 (share_low_1 e_1.Index), .int .i64 (share_low_2 e_1.Delivered)]⟩, ⟨some 12, none, 53, .pointer (some ⟨b_22, 4, none⟩)⟩, ⟨some 13, none, 54, .bool e_1.Spill⟩, ⟨some 14, none, 55, .int .i64 r_5.1⟩, ⟨some 15, none, 16, .int .i64 r_5.1⟩]) (fun E θ => .box b_22 [.int .i64 e_1.Index.Lo, .int .i64 e_1.Index.Hi, .int .i64 e_1.Delivered.Lo, .int .i64 e_1.Delivered.Hi, .bool e_1.Spill] 94 :: .row p_1 c_1 (out.map enc_api_Span) 26 2 :: .box b_20 [.func (.func 132) #[] #[], .func (.func 133) #[] #[]] 192 :: .box b_19 [.func (.func 130) #[] #[], .func (.func 131) #[] #[]] 192 :: .box b_16 [.int .i64 x_2] 3 :: .box b_15 [.slice b__Table_p b_.Table.length b__Table_c, .int .i64 r_2.2.1] 88 :: .box b_14 [.map (some b_17)] 213 :: .im b_17 (fun j => (mp j).map (Value.int .i64)) none :: (bif E 14 then .box b_13 [.int .i64 r_5.2.2] 3 else .box b_13 [.int .i64 x_1] 3) :: .box b_12 [.slice b__Table_p b_.Table.length b__Table_c, .int .i64 r_1.2.1] 88 :: .box b_11 [.map (some b_18)] 213 :: (bif E 14 then .im b_18 (fun j => (r_5.2.1 j).map (Value.int .i64)) none else .im b_18 (fun j => (mp_1 j).map (Value.int .i64)) none) :: Lf) [] (fun a w => Has 79 a [(9, .slice p_1 out.length c_1), (10, .func (.func 129) #[] #[.pointer (some ⟨b_11, 0, none⟩), .pointer (some ⟨b_12, 0, none⟩), .pointer (some ⟨b_13, 0, none⟩)]), (11, .func (.func 129) #[] #[.pointer (some ⟨b_14, 0, none⟩), .pointer (some ⟨b_15, 0, none⟩), .pointer (some ⟨b_16, 0, none⟩)]), (12, .pointer (some ⟨b_19, 0, none⟩)), (13, .pointer (some ⟨b_20, 0, none⟩)), (15, .pointer (some ⟨b_22, 0, none⟩)), (35, .slice years_p years.length years_c), (36, .int .i64 ((years.length : Nat) : Int)), (37, .int .i64 x), (16, .int .i64 r_5.1)] ∧ Ctx G (.box b_22 [.int .i64 e_1.Index.Lo, .int .i64 e_1.Index.Hi, .int .i64 e_1.Delivered.Lo, .int .i64 e_1.Delivered.Hi, .bool e_1.Spill] 94 :: .row p_1 c_1 (out.map enc_api_Span) 26 2 :: .box b_20 [.func (.func 132) #[] #[], .func (.func 133) #[] #[]] 192 :: .box b_19 [.func (.func 130) #[] #[], .func (.func 131) #[] #[]] 192 :: .box b_16 [.int .i64 x_2] 3 :: .box b_15 [.slice b__Table_p b_.Table.length b__Table_c, .int .i64 r_2.2.1] 88 :: .box b_14 [.map (some b_17)] 213 :: .im b_17 (fun j => (mp j).map (Value.int .i64)) none :: .box b_13 [.int .i64 r_5.2.2] 3 :: .box b_12 [.slice b__Table_p b_.Table.length b__Table_c, .int .i64 r_1.2.1] 88 :: .box b_11 [.map (some b_18)] 213 :: .im b_18 (fun j => (r_5.2.1 j).map (Value.int .i64)) none :: Lf) w) follows_mx (by kernel_rfl) (by kernel_rfl) (HasE.of hf ⟨rfl, rfl, rfl, rfl, rfl, rfl, rfl, rfl, rfl, trivial, trivial, trivial, trivial, trivial, trivial, trivial, trivial, trivial, trivial, trivial, trivial, trivial, trivial, trivial, trivial, trivial⟩) hc ⟨?_, ?_, ?_, ?_, ?_, ?_, ?_, ?_, ?_, ?_, ?_, ?_, ?_, ?_, ?_, ?_, trivial⟩ ?_ ?_
      · intro E θ a w hD hi hp he hc
        have hf := he.h0
        replace hf := hf.more he 1 rfl onT
        refine stP hf rfl rfl rfl (pM rfl) fun a hf => ?_
        refine cNil ?_
        refine xThenN ?_
        intro ds u hau
        refine ⟨θ, he.put0 hi hau hf rfl 9 rfl rfl, ?_⟩
        exact hc
      · intro E θ a w hD hi hp he hc
        have hf := he.h0
        replace hf := hf.more he 3 rfl onT
        refine stP hf rfl rfl rfl (pFA fa_192_0 rfl) fun a hf => ?_
        refine cNil ?_
        refine xThenN ?_
        intro ds u hau
        refine ⟨θ, he.put0 hi hau hf rfl 10 rfl rfl, ?_⟩
        exact hc
      · intro E θ a w hD hi hp he hc
        have e1 := hp.of (k := 1) rfl
        have hf := he.h0
        replace hf := hf.more he 10 rfl (onP e1)
        refine stE hf hc rfl rfl rfl (eLd1 sc_190 rfl (cell_box m3 rfl)) fun a w hf hc => ?_
        refine cNil ?_
        refine xThenN ?_
        intro ds u hau
        refine ⟨θ, he.put0 hi hau hf rfl 11 rfl rfl, ?_⟩
        exact hc
      · intro E θ a w hD hi hp he hc
        have hf := he.h0
        replace hf := hf.more he 5 rfl onT
        refine stP hf rfl rfl rfl (pFA fa_94_0 rfl) fun a hf => ?_
        refine cNil ?_
        refine xThenN ?_
        intro ds u hau
        refine ⟨θ, he.put0 hi hau hf rfl 12 rfl rfl, ?_⟩
        exact hc
      · intro E θ a w hD hi hp he hc
        have e3 := hp.of (k := 3) rfl
        have hf := he.h0
        replace hf := hf.more he 12 rfl (onP e3)
        refine stE hf hc rfl rfl rfl (eLdN (vs := [.int .i64 e_1.Index.Lo, .int .i64 e_1.Index.Hi]) ag_26 rfl rfl (cells_box (n := 2) m0 rfl)) fun a w hf hc => ?_
        refine cNil ?_
        refine xThenN ?_
        intro ds u hau
        refine ⟨θ, he.put0 hi hau hf rfl 13 rfl rfl, ?_⟩
        exact hc
      · intro E θ a w hD hi hp he hc
        have e2 := hp.of (k := 2) rfl
        have e4 := hp.of (k := 4) rfl
        have hf := he.h0
        replace hf := hf.more he 11 rfl (onP e2)
        replace hf := hf.more he 13 rfl (onP e4)
        refine stE hf hc rfl rfl rfl (eC (v := .int .i64 (share_low_1 e_1.Index)) (vs := [.agg #[.int .i64 e_1.Index.Lo, .int .i64 e_1.Index.Hi]]) (caps := []) en_130 rfl rfl rfl rfl (fun w hc => share_low_1_ok e_1.Index hc rfl)) fun a w hf hc => ?_
        refine cNil ?_
        refine xThenN ?_
        intro ds u hau
        refine ⟨θ, he.put0 hi hau hf rfl 14 rfl rfl, ?_⟩
        exact hc
      · intro E θ a w hD hi hp he hc
        have hf := he.h0
        replace hf := hf.more he 3 rfl onT
        refine stP hf rfl rfl rfl (pFA fa_192_1 rfl) fun a hf => ?_
        refine cNil ?_
        refine xThenN ?_
        intro ds u hau
        refine ⟨θ, he.put0 hi hau hf rfl 15 rfl rfl, ?_⟩
        exact hc
      · intro E θ a w hD hi hp he hc
        have e6 := hp.of (k := 6) rfl
        have hf := he.h0
        replace hf := hf.more he 15 rfl (onP e6)
        refine stE hf hc rfl rfl rfl (eLd1 sc_190 rfl (cell_box m3 rfl)) fun a w hf hc => ?_
        refine cNil ?_
        refine xThenN ?_
        intro ds u hau
        refine ⟨θ, he.put0 hi hau hf rfl 16 rfl rfl, ?_⟩
        exact hc
      · intro E θ a w hD hi hp he hc
        have hf := he.h0
        replace hf := hf.more he 5 rfl onT
        refine stP hf rfl rfl rfl (pFA fa_94_1 rfl) fun a hf => ?_
        refine cNil ?_
        refine xThenN ?_
        intro ds u hau
        refine ⟨θ, he.put0 hi hau hf rfl 17 rfl rfl, ?_⟩
        exact hc
      · intro E θ a w hD hi hp he hc
        have e8 := hp.of (k := 8) rfl
        have hf := he.h0
        replace hf := hf.more he 17 rfl (onP e8)
        refine stE hf hc rfl rfl rfl (eLdN (vs := [.int .i64 e_1.Delivered.Lo, .int .i64 e_1.Delivered.Hi]) ag_26 rfl rfl (cells_box (n := 2) m0 rfl)) fun a w hf hc => ?_
        refine cNil ?_
        refine xThenN ?_
        intro ds u hau
        refine ⟨θ, he.put0 hi hau hf rfl 18 rfl rfl, ?_⟩
        exact hc
      · intro E θ a w hD hi hp he hc
        have e7 := hp.of (k := 7) rfl
        have e9 := hp.of (k := 9) rfl
        have hf := he.h0
        replace hf := hf.more he 16 rfl (onP e7)
        replace hf := hf.more he 18 rfl (onP e9)
        refine stE hf hc rfl rfl rfl (eC (v := .int .i64 (share_low_2 e_1.Delivered)) (vs := [.agg #[.int .i64 e_1.Delivered.Lo, .int .i64 e_1.Delivered.Hi]]) (caps := []) en_131 rfl rfl rfl rfl (fun w hc => share_low_2_ok e_1.Delivered hc rfl)) fun a w hf hc => ?_
        refine cNil ?_
        refine xThenN ?_
        intro ds u hau
        refine ⟨θ, he.put0 hi hau hf rfl 19 rfl rfl, ?_⟩
        exact hc
      · intro E θ a w hD hi hp he hc
        have e5 := hp.of (k := 5) rfl
        have e10 := hp.of (k := 10) rfl
        have hf := he.h0
        replace hf := hf.more he 14 rfl (onP e5)
        replace hf := hf.more he 19 rfl (onP e10)
        refine stP hf rfl rfl rfl (pBuildS (cells := [.int .i64 (share_low_1 e_1.Index), .int .i64 (share_low_2 e_1.Delivered)]) bt_97 rfl rfl) fun a hf => ?_
        refine cNil ?_
        refine xThenN ?_
        intro ds u hau
        refine ⟨θ, he.put0 hi hau hf rfl 20 rfl rfl, ?_⟩
        exact hc
      · intro E θ a w hD hi hp he hc
        have hf := he.h0
        replace hf := hf.more he 5 rfl onT
        refine stP hf rfl rfl rfl (pFA fa_94_2 rfl) fun a hf => ?_
        refine cNil ?_
        refine xThenN ?_
        intro ds u hau
        refine ⟨θ, he.put0 hi hau hf rfl 21 rfl rfl, ?_⟩
        exact hc
      · intro E θ a w hD hi hp he hc
        have e12 := hp.of (k := 12) rfl
        have hf := he.h0
        replace hf := hf.more he 21 rfl (onP e12)
        refine stE hf hc rfl rfl rfl (eLd1 sc_4 rfl (cell_box m0 rfl)) fun a w hf hc => ?_
        refine cNil ?_
        refine xThenN ?_
        intro ds u hau
        refine ⟨θ, he.put0 hi hau hf rfl 22 rfl rfl, ?_⟩
        exact hc
      · intro E θ a w hD hi hp he hc
        have e0 := hp.of (k := 0) rfl
        have e11 := hp.of (k := 11) rfl
        have e13 := hp.of (k := 13) rfl
        try dsimp only at hc
        rw [hi] at hc
        have hf := he.h0
        replace hf := hf.more he 9 rfl (onP e0)
        replace hf := hf.more he 20 rfl (onP e11)
        replace hf := hf.more he 22 rfl (onP e13)
        refine stC (vs := [.agg #[.int .i64 (share_low_1 e_1.Index), .int .i64 (share_low_2 e_1.Delivered)], .bool e_1.Spill]) (caps := [.pointer (some ⟨b_11, 0, none⟩), .pointer (some ⟨b_12, 0, none⟩), .pointer (some ⟨b_13, 0, none⟩)]) hf rfl rfl rfl en_129 rfl rfl rfl rfl (share_Border_goes_1_ok (⟨(share_low_1 e_1.Index), (share_low_2 e_1.Delivered)⟩ : share_Truth) e_1.Spill mp_1 (⟨b_.Table, r_1.2.1⟩ : share_Border) x_1 h_b__Table ((((hc.pick k8).pick k9).pick k11).pick k11) hr_5) ?_
        rintro _ w ⟨rfl, hc⟩
        refine ⟨_, rfl, fun a hf => ?_⟩
        refine cNil ?_
        refine xThenN ?_
        intro ds u hau
        replace hc := hc.pick k1
        replace hc := hc.pick k1
        replace hc := hc.pick k2
        replace hc := hc.pick k3
        replace hc := hc.pick k11
        replace hc := hc.pick k11
        replace hc := hc.pick k11
        replace hc := hc.pick k11
        replace hc := hc.pick k11
        replace hc := hc.pick k11
        replace hc := hc.pick k11
        replace hc := hc.pick k11
        refine ⟨θ, he.put0 hi hau hf rfl 23 rfl rfl, ?_⟩
        try dsimp only
        rw [updE_self E 14]
        exact hc
      · intro E θ a w hD hi hp he hc
        have e14 := hp.of (k := 14) rfl
        have hf := he.h0
        replace hf := hf.more he 23 rfl (onP e14)
        refine stP hf rfl rfl rfl (pA rfl) fun a hf => ?_
        refine cNil ?_
        refine xThenN ?_
        intro ds u hau
        refine ⟨θ, he.put0 hi hau hf rfl 24 rfl rfl, ?_⟩
        exact hc
      · intro E θ a w hall he hc
        have hf := he.h0
        have e14 := hall 14 rfl
        have e15 := hall 15 rfl
        replace hf := hf.more he 24 rfl (onP e15)
        replace hf := hf.more he 8 rfl (onT)
        replace hf := hf.more he 7 rfl (onT)
        replace hf := hf.more he 6 rfl (onT)
        replace hf := hf.more he 5 rfl (onT)
        replace hf := hf.more he 4 rfl (onT)
        replace hf := hf.more he 3 rfl (onT)
        replace hf := hf.more he 2 rfl (onT)
        replace hf := hf.more he 1 rfl (onT)
        replace hf := hf.more he 0 rfl (onT)
        try dsimp only at hc
        rw [e14] at hc
        exact ⟨hf.keep ⟨rfl, rfl, rfl, rfl, rfl, rfl, rfl, rfl, rfl, rfl, trivial⟩, hc⟩
      rintro a w ⟨hf, hc⟩
      refine h17 _ _ ?_
      refine wp_seq_k fun K18 h18 => ?_
      obtain ⟨r_6, hr_6, hF⟩ := bnd_some hF
      refine regionE (fun θ => [⟨none, none, 9, .slice p_1 out.length c_1⟩, ⟨none, none, 10, .func (.func 129) #[] #[.pointer (some ⟨b_11, 0, none⟩), .pointer (some ⟨b_12, 0, none⟩), .pointer (some ⟨b_13, 0, none⟩)]⟩, ⟨none, none, 11, .func (.func 129) #[] #[.pointer (some ⟨b_14, 0, none⟩), .pointer (some ⟨b_15, 0, none⟩), .pointer (some ⟨b_16, 0, none⟩)]⟩, ⟨none, none, 12, .pointer (some ⟨b_19, 0, none⟩)⟩, ⟨none, none, 13, .pointer (some ⟨b_20, 0, none⟩)⟩, ⟨none, none, 15, .pointer (some ⟨b_22, 0, none⟩)⟩, ⟨none, none, 16, .int .i64 r_5.1⟩, ⟨none, none, 35, .slice years_p years.length years_c⟩, ⟨none, none, 36, .int .i64 ((years.length : Nat) : Int)⟩, ⟨none, none, 37, .int .i64 x⟩, ⟨some 0, none, 56, .func (.func 129) #[] #[.pointer (some ⟨b_14, 0, none⟩), .pointer (some ⟨b_15, 0, none⟩), .pointer (some ⟨b_16, 0, none⟩)]⟩, ⟨some 1, none, 57, .pointer (some ⟨b_20, 0, none⟩)⟩, ⟨some 2, none, 58, .func (.func 132) #[] #[]⟩, ⟨some 3, none, 59, .pointer (some ⟨b_22, 0, none⟩)⟩, ⟨some 4, none, 60, .agg #[.int .i64 e_1.Index.Lo, .int .i64 e_1.Index.Hi]⟩, ⟨some 5, none, 61, .int .i64 (share_high_1 e_1.Index)⟩, ⟨some 6, none, 62, .pointer (some ⟨b_20, 1, none⟩)⟩, ⟨some 7, none, 63, .func (.func 133) #[] #[]⟩, ⟨some 8, none, 64, .pointer (some ⟨b_22, 2, none⟩)⟩, ⟨some 9, none, 65, .agg #[.int .i64 e_1.Delivered.Lo, .int .i64 e_1.Delivered.Hi]⟩, ⟨some 10, none, 66, .int .i64 (share_high_2 e_1.Delivered)⟩, ⟨some 11, none, 67, .agg #[.int .i64 (share_high_1 e_1.Index), .int .i64 (share_high_2 e_1.Delivered)]⟩, ⟨some 12, none, 68, .pointer (some ⟨b_22, 4, none⟩)⟩, ⟨some 13, none, 69, .bool e_1.Spill⟩, ⟨some 14, none, 70, .int .i64 r_6.1⟩, ⟨some 15, none, 17, .int .i64 r_6.1⟩]) (fun E θ => .box b_22 [.int .i64 e_1.Index.Lo, .int .i64 e_1.Index.Hi, .int .i64 e_1.Delivered.Lo, .int .i64 e_1.Delivered.Hi, .bool e_1.Spill] 94 :: .row p_1 c_1 (out.map enc_api_Span) 26 2 :: .box b_20 [.func (.func 132) #[] #[], .func (.func 133) #[] #[]] 192 :: .box b_19 [.func (.func 130) #[] #[], .func (.func 131) #[] #[]] 192 :: (bif E 14 then .box b_16 [.int .i64 r_6.2.2] 3 else .box b_16 [.int .i64 x_2] 3) :: .box b_15 [.slice b__Table_p b_.Table.length b__Table_c, .int .i64 r_2.2.1] 88 :: .box b_14 [.map (some b_17)] 213 :: (bif E 14 then .im b_17 (fun j => (r_6.2.1 j).map (Value.int .i64)) none else .im b_17 (fun j => (mp j).map (Value.int .i64)) none) :: .box b_13 [.int .i64 r_5.2.2] 3 :: .box b_12 [.slice b__Table_p b_.Table.length b__Table_c, .int .i64 r_1.2.1] 88 :: .box b_11 [.map (some b_18)] 213 :: .im b_18 (fun j => (r_5.2.1 j).map (Value.int .i64)) none :: Lf) [] (fun a w => Has 79 a [(9, .slice p_1 out.length c_1), (10, .func (.func 129) #[] #[.pointer (some ⟨b_11, 0, none⟩), .pointer (some ⟨b_12, 0, none⟩), .pointer (some ⟨b_13, 0, none⟩)]), (11, .func (.func 129) #[] #[.pointer (some ⟨b_14, 0, none⟩), .pointer (some ⟨b_15, 0, none⟩), .pointer (some ⟨b_16, 0, none⟩)]), (12, .pointer (some ⟨b_19, 0, none⟩)), (13, .pointer (some ⟨b_20, 0, none⟩)), (16, .int .i64 r_5.1), (35, .slice years_p years.length years_c), (36, .int .i64 ((years.length : Nat) : Int)), (37, .int .i64 x), (17, .int .i64 r_6.1)] ∧ Ctx G (.box b_22 [.int .i64 e_1.Index.Lo, .int .i64 e_1.Index.Hi, .int .i64 e_1.Delivered.Lo, .int .i64 e_1.Delivered.Hi, .bool e_1.Spill] 94 :: .row p_1 c_1 (out.map enc_api_Span) 26 2 :: .box b_20 [.func (.func 132) #[] #[], .func (.func 133) #[] #[]] 192 :: .box b_19 [.func (.func 130) #[] #[], .func (.func 131) #[] #[]] 192 :: .box b_16 [.int .i64 r_6.2.2] 3 :: .box b_15 [.slice b__Table_p b_.Table.length b__Table_c, .int .i64 r_2.2.1] 88 :: .box b_14 [.map (some b_17)] 213 :: .im b_17 (fun j => (r_6.2.1 j).map (Value.int .i64)) none :: .box b_13 [.int .i64 r_5.2.2] 3 :: .box b_12 [.slice b__Table_p b_.Table.length b__Table_c, .int .i64 r_1.2.1] 88 :: .box b_11 [.map (some b_18)] 213 :: .im b_18 (fun j => (r_5.2.1 j).map (Value.int .i64)) none :: Lf) w) follows_mx (by kernel_rfl) (by kernel_rfl) (HasE.of hf ⟨rfl, rfl, rfl, rfl, rfl, rfl, rfl, rfl, rfl, rfl, trivial, trivial, trivial, trivial, trivial, trivial, trivial, trivial, trivial, trivial, trivial, trivial, trivial, trivial, trivial, trivial, trivial⟩) hc ⟨?_, ?_, ?_, ?_, ?_, ?_, ?_, ?_, ?_, ?_, ?_, ?_, ?_, ?_, ?_, ?_, trivial⟩ ?_ ?_
      · intro E θ a w hD hi hp he hc
        have hf := he.h0
        replace hf := hf.more he 2 rfl onT
        refine stP hf rfl rfl rfl (pM rfl) fun a hf => ?_
        refine cNil ?_
        refine xThenN ?_
        intro ds u hau
        refine ⟨θ, he.put0 hi hau hf rfl 10 rfl rfl, ?_⟩
        exact hc
      · intro E θ a w hD hi hp he hc
        have hf := he.h0
        replace hf := hf.more he 4 rfl onT
        refine stP hf rfl rfl rfl (pFA fa_192_0 rfl) fun a hf => ?_
        refine cNil ?_
        refine xThenN ?_
        intro ds u hau
        refine ⟨θ, he.put0 hi hau hf rfl 11 rfl rfl, ?_⟩
        exact hc
      · intro E θ a w hD hi hp he hc
        have e1 := hp.of (k := 1) rfl
        have hf := he.h0
        replace hf := hf.more he 11 rfl (onP e1)
        refine stE hf hc rfl rfl rfl (eLd1 sc_190 rfl (cell_box m2 rfl)) fun a w hf hc => ?_
        refine cNil ?_
        refine xThenN ?_
        intro ds u hau
        refine ⟨θ, he.put0 hi hau hf rfl 12 rfl rfl, ?_⟩
        exact hc
      · intro E θ a w hD hi hp he hc
        have hf := he.h0
        replace hf := hf.more he 5 rfl onT
        refine stP hf rfl rfl rfl (pFA fa_94_0 rfl) fun a hf => ?_
        refine cNil ?_
        refine xThenN ?_
        intro ds u hau
        refine ⟨θ, he.put0 hi hau hf rfl 13 rfl rfl, ?_⟩
        exact hc
      · intro E θ a w hD hi hp he hc
        have e3 := hp.of (k := 3) rfl
        have hf := he.h0
        replace hf := hf.more he 13 rfl (onP e3)
        refine stE hf hc rfl rfl rfl (eLdN (vs := [.int .i64 e_1.Index.Lo, .int .i64 e_1.Index.Hi]) ag_26 rfl rfl (cells_box (n := 2) m0 rfl)) fun a w hf hc => ?_
        refine cNil ?_
        refine xThenN ?_
        intro ds u hau
        refine ⟨θ, he.put0 hi hau hf rfl 14 rfl rfl, ?_⟩
        exact hc
      · intro E θ a w hD hi hp he hc
        have e2 := hp.of (k := 2) rfl
        have e4 := hp.of (k := 4) rfl
        have hf := he.h0
        replace hf := hf.more he 12 rfl (onP e2)
        replace hf := hf.more he 14 rfl (onP e4)
        refine stE hf hc rfl rfl rfl (eC (v := .int .i64 (share_high_1 e_1.Index)) (vs := [.agg #[.int .i64 e_1.Index.Lo, .int .i64 e_1.Index.Hi]]) (caps := []) en_132 rfl rfl rfl rfl (fun w hc => share_high_1_ok e_1.Index hc rfl)) fun a w hf hc => ?_
        refine cNil ?_
        refine xThenN ?_
        intro ds u hau
        refine ⟨θ, he.put0 hi hau hf rfl 15 rfl rfl, ?_⟩
        exact hc
      · intro E θ a w hD hi hp he hc
        have hf := he.h0
        replace hf := hf.more he 4 rfl onT
        refine stP hf rfl rfl rfl (pFA fa_192_1 rfl) fun a hf => ?_
        refine cNil ?_
        refine xThenN ?_
        intro ds u hau
        refine ⟨θ, he.put0 hi hau hf rfl 16 rfl rfl, ?_⟩
        exact hc
      · intro E θ a w hD hi hp he hc
        have e6 := hp.of (k := 6) rfl
        have hf := he.h0
        replace hf := hf.more he 16 rfl (onP e6)
        refine stE hf hc rfl rfl rfl (eLd1 sc_190 rfl (cell_box m2 rfl)) fun a w hf hc => ?_
        refine cNil ?_
        refine xThenN ?_
        intro ds u hau
        refine ⟨θ, he.put0 hi hau hf rfl 17 rfl rfl, ?_⟩
        exact hc
      · intro E θ a w hD hi hp he hc
        have hf := he.h0
        replace hf := hf.more he 5 rfl onT
        refine stP hf rfl rfl rfl (pFA fa_94_1 rfl) fun a hf => ?_
        refine cNil ?_
        refine xThenN ?_
        intro ds u hau
        refine ⟨θ, he.put0 hi hau hf rfl 18 rfl rfl, ?_⟩
        exact hc
      · intro E θ a w hD hi hp he hc
        have e8 := hp.of (k := 8) rfl
        have hf := he.h0
        replace hf := hf.more he 18 rfl (onP e8)
        refine stE hf hc rfl rfl rfl (eLdN (vs := [.int .i64 e_1.Delivered.Lo, .int .i64 e_1.Delivered.Hi]) ag_26 rfl rfl (cells_box (n := 2) m0 rfl)) fun a w hf hc => ?_
        refine cNil ?_
        refine xThenN ?_
        intro ds u hau
        refine ⟨θ, he.put0 hi hau hf rfl 19 rfl rfl, ?_⟩
        exact hc
      · intro E θ a w hD hi hp he hc
        have e7 := hp.of (k := 7) rfl
        have e9 := hp.of (k := 9) rfl
        have hf := he.h0
        replace hf := hf.more he 17 rfl (onP e7)
        replace hf := hf.more he 19 rfl (onP e9)
        refine stE hf hc rfl rfl rfl (eC (v := .int .i64 (share_high_2 e_1.Delivered)) (vs := [.agg #[.int .i64 e_1.Delivered.Lo, .int .i64 e_1.Delivered.Hi]]) (caps := []) en_133 rfl rfl rfl rfl (fun w hc => share_high_2_ok e_1.Delivered hc rfl)) fun a w hf hc => ?_
        refine cNil ?_
        refine xThenN ?_
        intro ds u hau
        refine ⟨θ, he.put0 hi hau hf rfl 20 rfl rfl, ?_⟩
        exact hc
      · intro E θ a w hD hi hp he hc
        have e5 := hp.of (k := 5) rfl
        have e10 := hp.of (k := 10) rfl
        have hf := he.h0
        replace hf := hf.more he 15 rfl (onP e5)
        replace hf := hf.more he 20 rfl (onP e10)
        refine stP hf rfl rfl rfl (pBuildS (cells := [.int .i64 (share_high_1 e_1.Index), .int .i64 (share_high_2 e_1.Delivered)]) bt_97 rfl rfl) fun a hf => ?_
        refine cNil ?_
        refine xThenN ?_
        intro ds u hau
        refine ⟨θ, he.put0 hi hau hf rfl 21 rfl rfl, ?_⟩
        exact hc
      · intro E θ a w hD hi hp he hc
        have hf := he.h0
        replace hf := hf.more he 5 rfl onT
        refine stP hf rfl rfl rfl (pFA fa_94_2 rfl) fun a hf => ?_
        refine cNil ?_
        refine xThenN ?_
        intro ds u hau
        refine ⟨θ, he.put0 hi hau hf rfl 22 rfl rfl, ?_⟩
        exact hc
      · intro E θ a w hD hi hp he hc
        have e12 := hp.of (k := 12) rfl
        have hf := he.h0
        replace hf := hf.more he 22 rfl (onP e12)
        refine stE hf hc rfl rfl rfl (eLd1 sc_4 rfl (cell_box m0 rfl)) fun a w hf hc => ?_
        refine cNil ?_
        refine xThenN ?_
        intro ds u hau
        refine ⟨θ, he.put0 hi hau hf rfl 23 rfl rfl, ?_⟩
        exact hc
      · intro E θ a w hD hi hp he hc
        have e0 := hp.of (k := 0) rfl
        have e11 := hp.of (k := 11) rfl
        have e13 := hp.of (k := 13) rfl
        try dsimp only at hc
        rw [hi] at hc
        have hf := he.h0
        replace hf := hf.more he 10 rfl (onP e0)
        replace hf := hf.more he 21 rfl (onP e11)
        replace hf := hf.more he 23 rfl (onP e13)
        refine stC (vs := [.agg #[.int .i64 (share_high_1 e_1.Index), .int .i64 (share_high_2 e_1.Delivered)], .bool e_1.Spill]) (caps := [.pointer (some ⟨b_14, 0, none⟩), .pointer (some ⟨b_15, 0, none⟩), .pointer (some ⟨b_16, 0, none⟩)]) hf rfl rfl rfl en_129 rfl rfl rfl rfl (share_Border_goes_1_ok (⟨(share_high_1 e_1.Index), (share_high_2 e_1.Delivered)⟩ : share_Truth) e_1.Spill mp (⟨b_.Table, r_2.2.1⟩ : share_Border) x_2 h_b__Table ((((hc.pick k4).pick k5).pick k7).pick k7) hr_6) ?_
        rintro _ w ⟨rfl, hc⟩
        refine ⟨_, rfl, fun a hf => ?_⟩
        refine cNil ?_
        refine xThenN ?_
        intro ds u hau
        replace hc := hc.pick k1
        replace hc := hc.pick k1
        replace hc := hc.pick k2
        replace hc := hc.pick k3
        replace hc := hc.pick k7
        replace hc := hc.pick k7
        replace hc := hc.pick k7
        replace hc := hc.pick k7
        refine ⟨θ, he.put0 hi hau hf rfl 24 rfl rfl, ?_⟩
        try dsimp only
        rw [updE_self E 14]
        exact hc
      · intro E θ a w hD hi hp he hc
        have e14 := hp.of (k := 14) rfl
        have hf := he.h0
        replace hf := hf.more he 24 rfl (onP e14)
        refine stP hf rfl rfl rfl (pA rfl) fun a hf => ?_
        refine cNil ?_
        refine xThenN ?_
        intro ds u hau
        refine ⟨θ, he.put0 hi hau hf rfl 25 rfl rfl, ?_⟩
        exact hc
      · intro E θ a w hall he hc
        have hf := he.h0
        have e14 := hall 14 rfl
        have e15 := hall 15 rfl
        replace hf := hf.more he 25 rfl (onP e15)
        replace hf := hf.more he 9 rfl (onT)
        replace hf := hf.more he 8 rfl (onT)
        replace hf := hf.more he 7 rfl (onT)
        replace hf := hf.more he 6 rfl (onT)
        replace hf := hf.more he 4 rfl (onT)
        replace hf := hf.more he 3 rfl (onT)
        replace hf := hf.more he 2 rfl (onT)
        replace hf := hf.more he 1 rfl (onT)
        replace hf := hf.more he 0 rfl (onT)
        try dsimp only at hc
        rw [e14] at hc
        exact ⟨hf.keep ⟨rfl, rfl, rfl, rfl, rfl, rfl, rfl, rfl, rfl, rfl, trivial⟩, hc⟩
      rintro a w ⟨hf, hc⟩
      refine h18 _ _ ?_
      refine cReg ?_
      refine stP hf rfl rfl rfl (pM rfl) fun a hf => ?_
      refine stP hf rfl rfl rfl (pM rfl) fun a hf => ?_
      refine stP hf rfl rfl rfl (pM rfl) fun a hf => ?_
      refine stP hf rfl rfl rfl (pBuildS (cells := [.int .i64 r_5.1, .int .i64 r_6.1]) bt_26 rfl rfl) fun a hf => ?_
      refine stBS (rows := ([(⟨r_5.1, r_6.1⟩ : api_Span)] : List api_Span).map enc_api_Span) (vs := [(0, .agg #[.int .i64 r_5.1, .int .i64 r_6.1])]) hf hc rfl rfl sl_41 rfl ⟨rfl, rfl, rfl, trivial⟩ rfl rfl fun b_23 a w hf hc => ?_
      obtain ⟨un, hun, hF⟩ := bnd_some hF
      refine stApm (xs := out) (ys := ([(⟨r_5.1, r_6.1⟩ : api_Span)] : List api_Span)) hf hc rfl rfl sl_41 rfl rfl rfl rfl rfl one_enc_api_Span (src_row hc m0) (fun _ _ => u2) (by simpa using room_spec hun) fun p_2 c_2 a w hf hc => ?_
      refine stP hf rfl rfl rfl (pA rfl) fun a hf => ?_
      refine cNil ?_
      refine h15 _ _ ?_
      refine cReg ?_
      refine stP hf rfl rfl rfl (pAdd rfl rfl) fun a hf => ?_
      refine stP hf rfl rfl rfl (pM rfl) fun a hf => ?_
      refine cNil ?_
      replace hc := hc.drop k1
      replace hc := hc.drop k0
      exact hK11 ((out ++ [(⟨r_5.1, r_6.1⟩ : api_Span)]), W (x + 1), r_5.2.2, r_6.2.2, r_6.2.1, r_5.2.1) _ _ (Option.some.inj hF).symm ⟨p_2, c_2, hf.keep ⟨rfl, rfl, rfl, rfl, rfl, rfl, rfl, rfl, trivial⟩, hc⟩
    · replace hF := condF hb hF
      clear hb
      refine wp_exit ?_
      refine xThen ?_
      refine xThen ?_
      have he := Option.some.inj hF
      rw [← he] at hfin11
      refine cHit ?_
      exact hr11 _ _ _ hfin11 ⟨p_1, c_1, hf.keep ⟨rfl, rfl, rfl, rfl, rfl, rfl, rfl, rfl, trivial⟩, hc⟩

def kit_Copy_share_Year (N : Nat) (l : List share_Year) : Option ((List share_Year)) :=
  Option.bind (room (l).length) fun un =>
  some l
theorem kit_Copy_share_Year_ok {N : Nat} {G : Pers} {Lf : List Ent} {w : World} (l : List share_Year) {l_p : Option Addr} {l_c : Nat} (h_l : Rd G 5 l_p l_c (l.map enc_share_Year)) (hc : Ctx G (Lf) w) {res : (List share_Year)} (hF : kit_Copy_share_Year N l = some res) : Calls Try.prog 44 #[.slice l_p l.length l_c] w (fun e w => ∃ (p'1 : Option Addr) (c'1 : Nat), e = .returned (.slice p'1 res.length c'1) ∧ Ctx G (.row p'1 c'1 (res.map enc_share_Year) 94 5 :: Lf) w) := by
  unfold kit_Copy_share_Year at hF
  refine fnIn (args := [.slice l_p l.length l_c]) Try.func44 rfl Try.ntmps44 rfl fun a hf => ?_
  refine wp_seq_k fun K1 h1 => ?_
  refine cReg ?_
  refine stP hf rfl rfl rfl (pA rfl) fun a hf => ?_
  refine cNil ?_
  refine h1 _ _ ?_
  refine wp_seq_k fun K2 h2 => ?_
  refine cReg ?_
  refine stP hf rfl rfl rfl (pA rfl) fun a hf => ?_
  refine cNil ?_
  refine h2 _ _ ?_
  refine wp_seq_k fun K3 h3 => ?_
  refine cReg ?_
  refine stP hf rfl rfl rfl (pM rfl) fun a hf => ?_
  refine stP hf rfl rfl rfl (pM rfl) fun a hf => ?_
  replace hc := hc.nilRow 94 5
  obtain ⟨un, hun, hF⟩ := bnd_some hF
  refine stApm (xs := ([] : List share_Year)) (ys := l) hf hc rfl rfl sl_89 rfl rfl rfl rfl rfl one_enc_share_Year (src_rd hc h_l) (fun _ _ => u0) (by simpa using room_spec hun) fun p_1 c_1 a w hf hc => ?_
  refine stP hf rfl rfl rfl (pA rfl) fun a hf => ?_
  refine cNil ?_
  refine h3 _ _ ?_
  refine wp_ret ?_
  obtain rfl := Option.some.inj hF
  exact fnOut1 (by simp) rfl Try.results44 hf hc (show look _ 2 = _ from rfl) ⟨p_1, c_1, rfl, hc⟩

def kit_Copy_share_Truth (N : Nat) (l : List share_Truth) : Option ((List share_Truth)) :=
  Option.bind (room (l).length) fun un =>
  some l
theorem kit_Copy_share_Truth_ok {N : Nat} {G : Pers} {Lf : List Ent} {w : World} (l : List share_Truth) {l_p : Option Addr} {l_c : Nat} (h_l : Rd G 2 l_p l_c (l.map enc_share_Truth)) (hc : Ctx G (Lf) w) {res : (List share_Truth)} (hF : kit_Copy_share_Truth N l = some res) : Calls Try.prog 45 #[.slice l_p l.length l_c] w (fun e w => ∃ (p'1 : Option Addr) (c'1 : Nat), e = .returned (.slice p'1 res.length c'1) ∧ Ctx G (.row p'1 c'1 (res.map enc_share_Truth) 97 2 :: Lf) w) := by
  unfold kit_Copy_share_Truth at hF
  refine fnIn (args := [.slice l_p l.length l_c]) Try.func45 rfl Try.ntmps45 rfl fun a hf => ?_
  refine wp_seq_k fun K1 h1 => ?_
  refine cReg ?_
  refine stP hf rfl rfl rfl (pA rfl) fun a hf => ?_
  refine cNil ?_
  refine h1 _ _ ?_
  refine wp_seq_k fun K2 h2 => ?_
  refine cReg ?_
  refine stP hf rfl rfl rfl (pA rfl) fun a hf => ?_
  refine cNil ?_
  refine h2 _ _ ?_
  refine wp_seq_k fun K3 h3 => ?_
  refine cReg ?_
  refine stP hf rfl rfl rfl (pM rfl) fun a hf => ?_
  refine stP hf rfl rfl rfl (pM rfl) fun a hf => ?_
  replace hc := hc.nilRow 97 2
  obtain ⟨un, hun, hF⟩ := bnd_some hF
  refine stApm (xs := ([] : List share_Truth)) (ys := l) hf hc rfl rfl sl_90 rfl rfl rfl rfl rfl one_enc_share_Truth (src_rd hc h_l) (fun _ _ => u0) (by simpa using room_spec hun) fun p_1 c_1 a w hf hc => ?_
  refine stP hf rfl rfl rfl (pA rfl) fun a hf => ?_
  refine cNil ?_
  refine h3 _ _ ?_
  refine wp_ret ?_
  obtain rfl := Option.some.inj hF
  exact fnOut1 (by simp) rfl Try.results45 hf hc (show look _ 2 = _ from rfl) ⟨p_1, c_1, rfl, hc⟩

def share_Owed_b12 (N : Nat) (b_ : share_Border) (years : List share_Year) (truth : List share_Truth) (r_1 : (Int → Option Int) × Int × Int) (out : List Int) (x : Int) (x_1 : Int) (mp : Int → Option Int) : Option (Step ((List Int) × Int × Int × (Int → Option Int)) ((List Int) × Int)) :=
  cond (decide (x < ((years.length : Nat) : Int)))
  (Option.bind (getI years x) fun e_1 =>
  Option.bind (getI truth x) fun e_2 =>
  cond ((!(share_in e_2.Index e_1.Index.Lo e_1.Index.Hi)) || (!(share_in e_2.Delivered e_1.Delivered.Lo e_1.Delivered.Hi)))
  (some (.ret (([] : List Int), 7)))
  (Option.bind (share_Border_goes_1 N e_2 e_1.Spill mp (⟨b_.Table, r_1.2.1⟩ : share_Border) x_1) fun r_2 =>
  Option.bind (room ((out ++ [r_2.1])).length) fun un =>
  some (.cont ((out ++ [r_2.1]), W (x + 1), r_2.2.2, r_2.2.1))))
  (some (.brk (out, x, x_1, mp)))
def share_Owed (N : Nat) (b_ : share_Border) (start : Int) (years : List share_Year) (truth : List share_Truth) : Option ((List Int) × Int) :=
  Option.bind (share_asked N b_ (⟨start, start⟩ : api_Span) years) fun r =>
  cond (r != 0)
  (some (([] : List Int), r))
  (cond (((truth.length : Nat) : Int) != ((years.length : Nat) : Int))
  (some (([] : List Int), 2))
  (Option.bind (share_Border_goes N b_ start) fun r_1 =>
  Option.bind (loopO (fun s12 => share_Owed_b12 N b_ years truth r_1 s12.1 s12.2.1 s12.2.2.1 s12.2.2.2) N (([] : List Int), 0, r_1.2.2, r_1.1)) fun x12 =>
  exK x12 (fun s12 => some (s12.1, 0)) some))
theorem share_Owed_ok {N : Nat} {G : Pers} {Lf : List Ent} {w : World} (b_ : share_Border) (start : Int) (years : List share_Year) (truth : List share_Truth) {b__Table_p : Option Addr} {b__Table_c : Nat} {years_p : Option Addr} {years_c : Nat} {truth_p : Option Addr} {truth_c : Nat} (h_b__Table : Rd G 2 b__Table_p b__Table_c (b_.Table.map enc_share_Point)) (h_years : Rd G 5 years_p years_c (years.map enc_share_Year)) (h_truth : Rd G 2 truth_p truth_c (truth.map enc_share_Truth)) (hc : Ctx G (Lf) w) {res : (List Int) × Int} (hF : share_Owed N b_ start years truth = some res) : Calls Try.prog 52 #[.agg #[.slice b__Table_p b_.Table.length b__Table_c, .int .i64 b_.Credit], .int .i64 start, .slice years_p years.length years_c, .slice truth_p truth.length truth_c] w (fun e w => ∃ (p'1 : Option Addr) (c'1 : Nat), e = .returned (.tuple #[.slice p'1 res.1.length c'1, .int .i64 res.2]) ∧ Ctx G (.row p'1 c'1 (res.1.map encI_i64) 3 1 :: Lf) w) := by
  unfold share_Owed at hF
  refine fnIn (args := [.agg #[.slice b__Table_p b_.Table.length b__Table_c, .int .i64 b_.Credit], .int .i64 start, .slice years_p years.length years_c, .slice truth_p truth.length truth_c]) Try.func52 rfl Try.ntmps52 rfl fun a hf => ?_
  refine wp_seq_k fun K1 h1 => ?_
  refine cReg ?_
  refine stBx (cs := [.slice b__Table_p b_.Table.length b__Table_c, .int .i64 b_.Credit]) hf hc rfl rfl rfl rfl fun b_1 a w hf hc => ?_
  refine stP hf rfl rfl rfl (pA rfl) fun a hf => ?_
  refine stP hf rfl rfl rfl (pA rfl) fun a hf => ?_
  refine cNil ?_
  refine h1 _ _ ?_
  refine wp_seq_k fun K2 h2 => ?_
  refine cReg ?_
  refine stE hf hc rfl rfl rfl (eLdN (vs := [.slice b__Table_p b_.Table.length b__Table_c, .int .i64 b_.Credit]) ag_88 rfl rfl (cells_box (n := 2) m0 rfl)) fun a w hf hc => ?_
  refine stP hf rfl rfl rfl (pM rfl) fun a hf => ?_
  refine stP hf rfl rfl rfl (pM rfl) fun a hf => ?_
  refine stP hf rfl rfl rfl (pBuildS (cells := [.int .i64 start, .int .i64 start]) bt_26 rfl rfl) fun a hf => ?_
  refine stP hf rfl rfl rfl (pM rfl) fun a hf => ?_
  obtain ⟨r, hr, hF⟩ := bnd_some hF
  refine stE hf hc rfl rfl rfl (eC (v := .int .i64 r) (vs := [.agg #[.slice b__Table_p b_.Table.length b__Table_c, .int .i64 b_.Credit], .agg #[.int .i64 start, .int .i64 start], .slice years_p years.length years_c]) (caps := []) en_99 rfl rfl rfl rfl (fun w hc => share_asked_ok b_ (⟨start, start⟩ : api_Span) years h_b__Table h_years hc hr)) fun a w hf hc => ?_
  refine stP hf rfl rfl rfl (pA rfl) fun a hf => ?_
  refine cNil ?_
  refine h2 _ _ ?_
  refine wp_seq_k fun K3 h3 => ?_
  refine wp_block ?_
  refine wp_seq_k fun K4 h4 => ?_
  refine cReg ?_
  refine stP hf rfl rfl rfl (pM rfl) fun a hf => ?_
  refine stP hf rfl rfl rfl (pNe rfl rfl) fun a hf => ?_
  refine stP hf rfl rfl rfl (pA rfl) fun a hf => ?_
  refine cNil ?_
  refine h4 _ _ ?_
  refine cCond (b := (r != 0)) hf rfl (fun hb => ?_) (fun hb => ?_)
  · replace hF := condT hb hF
    clear hb
    refine wp_seq_k fun K5 h5 => ?_
    refine cReg ?_
    refine stP hf rfl rfl rfl (pM rfl) fun a hf => ?_
    refine stP hf rfl rfl rfl (pA rfl) fun a hf => ?_
    refine stP hf rfl rfl rfl (pA rfl) fun a hf => ?_
    refine cNil ?_
    refine h5 _ _ ?_
    refine wp_ret ?_
    refine xBlkR ?_
    refine xThenR ?_
    obtain rfl := Option.some.inj hF
    replace hc := hc.nilRow 3 1
    replace hc := hc.drop k1
    exact fnOut2 (by simp) rfl Try.results52 hf hc (show look _ 8 = _ from rfl) (show look _ 9 = _ from rfl) ⟨none, 0, rfl, hc⟩
  · replace hF := condF hb hF
    clear hb
    refine wp_seq_k fun K6 h6 => ?_
    refine cReg ?_
    refine stP hf rfl rfl rfl (pM rfl) fun a hf => ?_
    refine stP hf rfl rfl rfl (pLenS Try.underlying90 rfl) fun a hf => ?_
    refine stP hf rfl rfl rfl (pM rfl) fun a hf => ?_
    refine stP hf rfl rfl rfl (pLenS Try.underlying89 rfl) fun a hf => ?_
    refine stP hf rfl rfl rfl (pNe rfl rfl) fun a hf => ?_
    refine stP hf rfl rfl rfl (pA rfl) fun a hf => ?_
    refine cNil ?_
    refine h6 _ _ ?_
    refine cCond (b := (((truth.length : Nat) : Int) != ((years.length : Nat) : Int))) hf rfl (fun hb => ?_) (fun hb => ?_)
    · replace hF := condT hb hF
      clear hb
      refine wp_seq_k fun K7 h7 => ?_
      refine cReg ?_
      refine stP hf rfl rfl rfl (pA rfl) fun a hf => ?_
      refine stP hf rfl rfl rfl (pA rfl) fun a hf => ?_
      refine cNil ?_
      refine h7 _ _ ?_
      refine wp_ret ?_
      refine xBlkR ?_
      refine xThenR ?_
      obtain rfl := Option.some.inj hF
      replace hc := hc.nilRow 3 1
      replace hc := hc.drop k1
      exact fnOut2 (by simp) rfl Try.results52 hf hc (show look _ 8 = _ from rfl) (show look _ 9 = _ from rfl) ⟨none, 0, rfl, hc⟩
    · replace hF := condF hb hF
      clear hb
      refine wp_skip ?_
      refine h3 _ _ ?_
      refine wp_seq_k fun K8 h8 => ?_
      refine cReg ?_
      refine stP hf rfl rfl rfl (pA rfl) fun a hf => ?_
      refine cNil ?_
      refine h8 _ _ ?_
      refine wp_seq_k fun K9 h9 => ?_
      refine cReg ?_
      refine stE hf hc rfl rfl rfl (eLdN (vs := [.slice b__Table_p b_.Table.length b__Table_c, .int .i64 b_.Credit]) ag_88 rfl rfl (cells_box (n := 2) m0 rfl)) fun a w hf hc => ?_
      refine stP hf rfl rfl rfl (pM rfl) fun a hf => ?_
      obtain ⟨r_1, hr_1, hF⟩ := bnd_some hF
      refine stC (vs := [.agg #[.slice b__Table_p b_.Table.length b__Table_c, .int .i64 b_.Credit], .int .i64 start]) (caps := []) hf rfl rfl rfl en_100 rfl rfl rfl rfl (share_Border_goes_ok b_ start h_b__Table hc hr_1) ?_
      rintro _ w ⟨b_2, b_3, b_4, b_5, rfl, hc⟩
      refine ⟨_, rfl, fun a hf => ?_⟩
      refine stP hf rfl rfl rfl (pA rfl) fun a hf => ?_
      refine cNil ?_
      refine h9 _ _ ?_
      refine wp_seq_k fun K10 h10 => ?_
      refine wp_seq_k fun K11 h11 => ?_
      refine cReg ?_
      refine stP hf rfl rfl rfl (pM rfl) fun a hf => ?_
      refine stP hf rfl rfl rfl (pLenS Try.underlying89 rfl) fun a hf => ?_
      refine stP hf rfl rfl rfl (pM rfl) fun a hf => ?_
      refine cNil ?_
      refine h11 _ _ ?_
      refine wp_block ?_
      obtain ⟨x12, hx12, hF⟩ := bnd_some hF
      let S12 : ((List Int) × Int × Int × (Int → Option Int)) → Act → World → Prop := (fun (zz : (List Int) × Int × Int × (Int → Option Int)) a w => ∃ (p_1 : Option Addr) (c_1 : Nat), Has 78 a [(3, .slice truth_p truth.length truth_c), (11, .slice p_1 zz.1.length c_1), (12, .func (.func 129) #[] #[.pointer (some ⟨b_2, 0, none⟩), .pointer (some ⟨b_4, 0, none⟩), .pointer (some ⟨b_5, 0, none⟩)]), (35, .slice years_p years.length years_c), (36, .int .i64 ((years.length : Nat) : Int)), (37, .int .i64 zz.2.1)] ∧ Ctx G (.row p_1 c_1 (zz.1.map encI_i64) 3 1 :: .im b_3 (fun j => (zz.2.2.2 j).map (Value.int .i64)) none :: .box b_2 [.map (some b_3)] 213 :: .box b_4 [.slice b__Table_p b_.Table.length b__Table_c, .int .i64 r_1.2.1] 88 :: .box b_5 [.int .i64 zz.2.2.1] 3 :: Lf) w)
      have hr12 : ∀ (zz : (List Int) × Int × Int × (Int → Option Int)) a w, x12 = .go zz → S12 zz a w → K10 a w := by
        rintro ⟨out, x, x_1, mp⟩ a w rfl ⟨p_1, c_1, hf, hc⟩
        replace hF : _ = some res := hF
        refine h10 _ _ ?_
        refine wp_seq_k fun K13 h13 => ?_
        refine cReg ?_
        refine stP hf rfl rfl rfl (pM rfl) fun a hf => ?_
        refine stP hf rfl rfl rfl (pA rfl) fun a hf => ?_
        refine stP hf rfl rfl rfl (pA rfl) fun a hf => ?_
        refine cNil ?_
        refine h13 _ _ ?_
        refine wp_ret ?_
        obtain rfl := Option.some.inj hF
        replace hc := hc.drop k4
        replace hc := hc.drop k3
        replace hc := hc.drop k2
        replace hc := hc.drop k1
        exact fnOut2 (by simp) rfl Try.results52 hf hc (show look _ 8 = _ from rfl) (show look _ 9 = _ from rfl) ⟨p_1, c_1, rfl, hc⟩
      have ho12 : ∀ r, x12 = .out r → r = res := by
        rintro r rfl
        exact Option.some.inj hF
      replace hc := hc.nilRow 3 1
      replace hc := hc.drop k5
      refine cLoop N (loopW (S := S12) (x := x12) ?_ N (([] : List Int), 0, r_1.2.2, r_1.1) _ _ ⟨none, 0, hf.keep ⟨rfl, rfl, rfl, rfl, rfl, rfl, trivial⟩, hc⟩ hx12)
      clear hF hf hc
      rintro ⟨out, x, x_1, mp⟩ st12 a w KB12 ⟨p_1, c_1, hf, hc⟩ hF hfin12 hK12
      unfold share_Owed_b12 at hF
      refine wp_seq_k fun K14 h14 => ?_
      refine cReg ?_
      refine stP hf rfl rfl rfl (pLt rfl rfl) fun a hf => ?_
      refine cNil ?_
      refine h14 _ _ ?_
      refine wp_seq_k fun K15 h15 => ?_
      refine cCond (b := (decide (x < ((years.length : Nat) : Int)))) hf rfl (fun hb => ?_) (fun hb => ?_)
      · replace hF := condT hb hF
        clear hb
        refine wp_skip ?_
        refine h15 _ _ ?_
        refine wp_seq_k fun K16 h16 => ?_
        refine wp_block ?_
        refine wp_seq_k fun K17 h17 => ?_
        refine cReg ?_
        refine stP hf rfl rfl rfl (pM rfl) fun a hf => ?_
        obtain ⟨e_1, he_1, hF⟩ := bnd_some hF
        obtain ⟨b_6, o, qa, qp⟩ := h_years.atm he_1
        refine stP hf rfl rfl rfl (pIA Try.underlying89 sz_94 rfl rfl qa) fun a hf => ?_
        refine stE hf hc rfl rfl rfl (eLdN (vs := [.int .i64 e_1.Index.Lo, .int .i64 e_1.Index.Hi, .int .i64 e_1.Delivered.Lo, .int .i64 e_1.Delivered.Hi, .bool e_1.Spill]) ag_94 rfl rfl (cells_pc qp (n := 5) (o' := 0) rfl)) fun a w hf hc => ?_
        refine stAl (cs := [.int .i64 0, .int .i64 0, .int .i64 0, .int .i64 0, .bool false]) hf hc rfl rfl zr_94 rfl fun b_7 a w hf hc => ?_
        refine stP hf rfl rfl rfl (pA rfl) fun a hf => ?_
        refine stSt (vs := [.int .i64 e_1.Index.Lo, .int .i64 e_1.Index.Hi, .int .i64 e_1.Delivered.Lo, .int .i64 e_1.Delivered.Hi, .bool e_1.Spill]) hf hc rfl rfl rfl rfl sz_94 rfl rfl u0 fun w hc => ?_
        refine cNil ?_
        refine h17 _ _ ?_
        refine wp_seq_k fun K18 h18 => ?_
        refine cReg ?_
        refine stP hf rfl rfl rfl (pM rfl) fun a hf => ?_
        refine stP hf rfl rfl rfl (pM rfl) fun a hf => ?_
        obtain ⟨e_2, he_2, hF⟩ := bnd_some hF
        obtain ⟨b_8, o_1, qa_1, qp_1⟩ := h_truth.atm he_2
        refine stP hf rfl rfl rfl (pIA Try.underlying90 sz_97 rfl rfl qa_1) fun a hf => ?_
        refine stE hf hc rfl rfl rfl (eLdN (vs := [.int .i64 e_2.Index, .int .i64 e_2.Delivered]) ag_97 rfl rfl (cells_pc qp_1 (n := 2) (o' := 0) rfl)) fun a w hf hc => ?_
        refine stAl (cs := [.int .i64 0, .int .i64 0]) hf hc rfl rfl zr_97 rfl fun b_9 a w hf hc => ?_
        refine stSt (vs := [.int .i64 e_2.Index, .int .i64 e_2.Delivered]) hf hc rfl rfl rfl rfl sz_97 rfl rfl u0 fun w hc => ?_
        refine cNil ?_
        refine h18 _ _ ?_
        refine wp_seq_k fun K19 h19 => ?_
        refine wp_seq_k fun K20 h20 => ?_
        refine cReg ?_
        refine stP hf rfl rfl rfl (pFA fa_97_0 rfl) fun a hf => ?_
        refine stE hf hc rfl rfl rfl (eLd1 sc_3 rfl (cell_box m0 rfl)) fun a w hf hc => ?_
        refine stP hf rfl rfl rfl (pFA fa_94_0 rfl) fun a hf => ?_
        refine stP hf rfl rfl rfl (pFA fa_26_0 rfl) fun a hf => ?_
        refine stE hf hc rfl rfl rfl (eLd1 sc_3 rfl (cell_box m1 rfl)) fun a w hf hc => ?_
        refine stP hf rfl rfl rfl (pFA fa_94_0 rfl) fun a hf => ?_
        refine stP hf rfl rfl rfl (pFA fa_26_1 rfl) fun a hf => ?_
        refine stE hf hc rfl rfl rfl (eLd1 sc_3 rfl (cell_box m1 rfl)) fun a w hf hc => ?_
        refine stE hf hc rfl rfl rfl (eC (v := .bool (share_in e_2.Index e_1.Index.Lo e_1.Index.Hi)) (vs := [.int .i64 e_2.Index, .int .i64 e_1.Index.Lo, .int .i64 e_1.Index.Hi]) (caps := []) en_70 rfl rfl rfl rfl (fun w hc => share_in_ok e_2.Index e_1.Index.Lo e_1.Index.Hi hc rfl)) fun a w hf hc => ?_
        refine stP hf rfl rfl rfl (pNot rfl) fun a hf => ?_
        refine stP hf rfl rfl rfl (pM rfl) fun a hf => ?_
        refine stCut 11 (fun a w => Has 78 a [(3, .slice truth_p truth.length truth_c), (11, .slice p_1 out.length c_1), (12, .func (.func 129) #[] #[.pointer (some ⟨b_2, 0, none⟩), .pointer (some ⟨b_4, 0, none⟩), .pointer (some ⟨b_5, 0, none⟩)]), (35, .slice years_p years.length years_c), (36, .int .i64 ((years.length : Nat) : Int)), (37, .int .i64 x), (14, .pointer (some ⟨b_7, 0, none⟩)), (15, .pointer (some ⟨b_9, 0, none⟩)), (46, .pointer (some ⟨b_9, 0, none⟩)), (47, .int .i64 e_2.Index), (48, .pointer (some ⟨b_7, 0, none⟩)), (49, .pointer (some ⟨b_7, 0, none⟩)), (50, .int .i64 e_1.Index.Lo), (51, .pointer (some ⟨b_7, 0, none⟩)), (52, .pointer (some ⟨b_7, 1, none⟩)), (53, .int .i64 e_1.Index.Hi), (54, .bool (share_in e_2.Index e_1.Index.Lo e_1.Index.Hi)), (55, .bool (!(share_in e_2.Index e_1.Index.Lo e_1.Index.Hi))), (56, .bool (!(share_in e_2.Index e_1.Index.Lo e_1.Index.Hi))), (67, .bool ((!(share_in e_2.Index e_1.Index.Lo e_1.Index.Hi)) || (!(share_in e_2.Delivered e_1.Delivered.Lo e_1.Delivered.Hi))))] ∧ Ctx G (.box b_9 [.int .i64 e_2.Index, .int .i64 e_2.Delivered] 97 :: .box b_7 [.int .i64 e_1.Index.Lo, .int .i64 e_1.Index.Hi, .int .i64 e_1.Delivered.Lo, .int .i64 e_1.Delivered.Hi, .bool e_1.Spill] 94 :: .row p_1 c_1 (out.map encI_i64) 3 1 :: .im b_3 (fun j => (mp j).map (Value.int .i64)) none :: .box b_2 [.map (some b_3)] 213 :: .box b_4 [.slice b__Table_p b_.Table.length b__Table_c, .int .i64 r_1.2.1] 88 :: .box b_5 [.int .i64 x_1] 3 :: Lf) w) ?_ ?_
        · cases hb : (!(share_in e_2.Index e_1.Index.Lo e_1.Index.Hi))
          · rw [hb] at hf
            refine stP hf rfl rfl rfl (pFA fa_97_1 rfl) fun a hf => ?_
            refine stE hf hc rfl rfl rfl (eLd1 sc_3 rfl (cell_box m0 rfl)) fun a w hf hc => ?_
            refine stP hf rfl rfl rfl (pFA fa_94_1 rfl) fun a hf => ?_
            refine stP hf rfl rfl rfl (pFA fa_26_0 rfl) fun a hf => ?_
            refine stE hf hc rfl rfl rfl (eLd1 sc_3 rfl (cell_box m1 rfl)) fun a w hf hc => ?_
            refine stP hf rfl rfl rfl (pFA fa_94_1 rfl) fun a hf => ?_
            refine stP hf rfl rfl rfl (pFA fa_26_1 rfl) fun a hf => ?_
            refine stE hf hc rfl rfl rfl (eLd1 sc_3 rfl (cell_box m1 rfl)) fun a w hf hc => ?_
            refine stE hf hc rfl rfl rfl (eC (v := .bool (share_in e_2.Delivered e_1.Delivered.Lo e_1.Delivered.Hi)) (vs := [.int .i64 e_2.Delivered, .int .i64 e_1.Delivered.Lo, .int .i64 e_1.Delivered.Hi]) (caps := []) en_70 rfl rfl rfl rfl (fun w hc => share_in_ok e_2.Delivered e_1.Delivered.Lo e_1.Delivered.Hi hc rfl)) fun a w hf hc => ?_
            refine stP hf rfl rfl rfl (pNot rfl) fun a hf => ?_
            refine stP hf rfl rfl rfl (pPf rfl rfl) fun a hf => ?_
            exact cNil ⟨hf.keep ⟨rfl, rfl, rfl, rfl, rfl, rfl, rfl, rfl, rfl, rfl, rfl, rfl, rfl, rfl, rfl, rfl, rfl, rfl, rfl, rfl, trivial⟩, hc⟩
          · rw [hb] at hf
            refine stS hf rfl rfl rfl fun a hf => ?_
            refine stS hf rfl rfl rfl fun a hf => ?_
            refine stS hf rfl rfl rfl fun a hf => ?_
            refine stS hf rfl rfl rfl fun a hf => ?_
            refine stS hf rfl rfl rfl fun a hf => ?_
            refine stS hf rfl rfl rfl fun a hf => ?_
            refine stS hf rfl rfl rfl fun a hf => ?_
            refine stS hf rfl rfl rfl fun a hf => ?_
            refine stS hf rfl rfl rfl fun a hf => ?_
            refine stS hf rfl rfl rfl fun a hf => ?_
            refine stP hf rfl rfl rfl (pPt rfl rfl) fun a hf => ?_
            exact cNil ⟨hf.keep ⟨rfl, rfl, rfl, rfl, rfl, rfl, rfl, rfl, rfl, rfl, rfl, rfl, rfl, rfl, rfl, rfl, rfl, rfl, rfl, rfl, trivial⟩, hc⟩
        intro a w ⟨hf, hc⟩
        refine cNil ?_
        refine h20 _ _ ?_
        refine cCond (b := ((!(share_in e_2.Index e_1.Index.Lo e_1.Index.Hi)) || (!(share_in e_2.Delivered e_1.Delivered.Lo e_1.Delivered.Hi)))) hf rfl (fun hb => ?_) (fun hb => ?_)
        · replace hF := condT hb hF
          clear hb
          refine wp_seq_k fun K21 h21 => ?_
          refine cReg ?_
          refine stP hf rfl rfl rfl (pA rfl) fun a hf => ?_
          refine stP hf rfl rfl rfl (pA rfl) fun a hf => ?_
          refine cNil ?_
          refine h21 _ _ ?_
          refine wp_ret ?_
          refine xThenR ?_
          refine xBlkR ?_
          refine xThenR ?_
          refine xThenR ?_
          have he := Option.some.inj hF
          rw [← he] at hfin12
          replace hF := ho12 _ hfin12
          refine xBlkR ?_
          refine xThenR ?_
          obtain rfl := hF
          replace hc := hc.nilRow 3 1
          replace hc := hc.drop k7
          replace hc := hc.drop k6
          replace hc := hc.drop k5
          replace hc := hc.drop k4
          replace hc := hc.drop k3
          replace hc := hc.drop k2
          replace hc := hc.drop k1
          exact fnOut2 (by simp) rfl Try.results52 hf hc (show look _ 8 = _ from rfl) (show look _ 9 = _ from rfl) ⟨none, 0, rfl, hc⟩
        · replace hF := condF hb hF
          clear hb
          refine wp_skip ?_
          refine h19 _ _ ?_
          refine cReg ?_
          refine stP hf rfl rfl rfl (pM rfl) fun a hf => ?_
          refine stP hf rfl rfl rfl (pM rfl) fun a hf => ?_
          refine stE hf hc rfl rfl rfl (eLdN (vs := [.int .i64 e_2.Index, .int .i64 e_2.Delivered]) ag_97 rfl rfl (cells_box (n := 2) m0 rfl)) fun a w hf hc => ?_
          refine stP hf rfl rfl rfl (pFA fa_94_2 rfl) fun a hf => ?_
          refine stE hf hc rfl rfl rfl (eLd1 sc_4 rfl (cell_box m1 rfl)) fun a w hf hc => ?_
          obtain ⟨r_2, hr_2, hF⟩ := bnd_some hF
          refine stC (vs := [.agg #[.int .i64 e_2.Index, .int .i64 e_2.Delivered], .bool e_1.Spill]) (caps := [.pointer (some ⟨b_2, 0, none⟩), .pointer (some ⟨b_4, 0, none⟩), .pointer (some ⟨b_5, 0, none⟩)]) hf rfl rfl rfl en_129 rfl rfl rfl rfl (share_Border_goes_1_ok e_2 e_1.Spill mp (⟨b_.Table, r_1.2.1⟩ : share_Border) x_1 h_b__Table ((((hc.pick k6).pick k6).pick k5).pick k6) hr_2) ?_
          rintro _ w ⟨rfl, hc⟩
          refine ⟨_, rfl, fun a hf => ?_⟩
          refine stBS (rows := ([r_2.1] : List Int).map encI_i64) (vs := [(0, .int .i64 r_2.1)]) hf hc rfl rfl sl_36 rfl ⟨rfl, rfl, rfl, trivial⟩ rfl rfl fun b_10 a w hf hc => ?_
          obtain ⟨un, hun, hF⟩ := bnd_some hF
          refine stApm (xs := out) (ys := ([r_2.1] : List Int)) hf hc rfl rfl sl_36 rfl rfl rfl rfl rfl one_encI_i64 (src_row hc m0) (fun _ _ => u7) (by simpa using room_spec hun) fun p_2 c_2 a w hf hc => ?_
          refine stP hf rfl rfl rfl (pA rfl) fun a hf => ?_
          refine cNil ?_
          refine h16 _ _ ?_
          refine cReg ?_
          refine stP hf rfl rfl rfl (pAdd rfl rfl) fun a hf => ?_
          refine stP hf rfl rfl rfl (pM rfl) fun a hf => ?_
          refine cNil ?_
          replace hc := hc.drop k6
          replace hc := hc.drop k5
          replace hc := hc.drop k0
          replace hc := hc.pick k3
          replace hc := hc.pick k3
          replace hc := hc.pick k2
          replace hc := hc.pick k3
          replace hc := hc.pick k4
          exact hK12 ((out ++ [r_2.1]), W (x + 1), r_2.2.2, r_2.2.1) _ _ (Option.some.inj hF).symm ⟨p_2, c_2, hf.keep ⟨rfl, rfl, rfl, rfl, rfl, rfl, trivial⟩, hc⟩
      · replace hF := condF hb hF
        clear hb
        refine wp_exit ?_
        refine xThen ?_
        refine xThen ?_
        have he := Option.some.inj hF
        rw [← he] at hfin12
        refine cHit ?_
        exact hr12 _ _ _ hfin12 ⟨p_1, c_1, hf.keep ⟨rfl, rfl, rfl, rfl, rfl, rfl, trivial⟩, hc⟩

end Go.Nilo
