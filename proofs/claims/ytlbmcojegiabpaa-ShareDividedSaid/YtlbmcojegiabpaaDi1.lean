/-
  What functions of the Go text compute, as plain functions, and that they do, part 1 of 3. Conditions: what each theorem names.
-/
import Derived.Test.YtlbmcojegiabpaaNl15
import Derived.Test.YtlbmcojegiabpaaProg
set_option linter.unusedVariables false
set_option maxRecDepth 100000
set_option maxHeartbeats 4000000
namespace Go.Nilo
open Go.Proofs


structure kit_Stream where
  bytes : List Int
  used : Int
  mix : Int

structure share_quotient where
  claim : Int
  by_ : Int
@[reducible] def enc_share_quotient (x : share_quotient) : List Value := [.int .i64 x.claim, .int .i64 x.by_]
theorem one_enc_share_quotient : ∀ x, (enc_share_quotient x).length = 2 ∧ ones (enc_share_quotient x) = true := fun _ => ⟨rfl, rfl⟩

structure api_Ratio where
  N : Int
  D : Int
@[reducible] def enc_api_Ratio (x : api_Ratio) : List Value := [.int .i64 x.N, .int .i64 x.D]
theorem one_enc_api_Ratio : ∀ x, (enc_api_Ratio x).length = 2 ∧ ones (enc_api_Ratio x) = true := fun _ => ⟨rfl, rfl⟩

structure share_proof where
  rule : Int
  divisor : share_quotient
@[reducible] def enc_share_proof (x : share_proof) : List Value := [.int .i64 x.rule, .int .i64 x.divisor.claim, .int .i64 x.divisor.by_]
theorem one_enc_share_proof : ∀ x, (enc_share_proof x).length = 3 ∧ ones (enc_share_proof x) = true := fun _ => ⟨rfl, rfl⟩

structure share_Right where
  State : Int
  Amount : Int
  Loss : Int
@[reducible] def enc_share_Right (x : share_Right) : List Value := [.int .i64 x.State, .int .i64 x.Amount, .int .i64 x.Loss]
theorem one_enc_share_Right : ∀ x, (enc_share_Right x).length = 3 ∧ ones (enc_share_Right x) = true := fun _ => ⟨rfl, rfl⟩

structure share_Compact where
  States : Int
  Rights : List share_Right

structure share_office where
  Compact : share_Compact
  got : Nat → Int

structure api_Span where
  Lo : Int
  Hi : Int
@[reducible] def enc_api_Span (x : api_Span) : List Value := [.int .i64 x.Lo, .int .i64 x.Hi]
theorem one_enc_api_Span : ∀ x, (enc_api_Span x).length = 2 ∧ ones (enc_api_Span x) = true := fun _ => ⟨rfl, rfl⟩

structure share_Point where
  Index : Int
  Due : Int
@[reducible] def enc_share_Point (x : share_Point) : List Value := [.int .i64 x.Index, .int .i64 x.Due]
theorem one_enc_share_Point : ∀ x, (enc_share_Point x).length = 2 ∧ ones (enc_share_Point x) = true := fun _ => ⟨rfl, rfl⟩

structure share_Year where
  Index : api_Span
  Delivered : api_Span
  Spill : Bool
@[reducible] def enc_share_Year (x : share_Year) : List Value := [.int .i64 x.Index.Lo, .int .i64 x.Index.Hi, .int .i64 x.Delivered.Lo, .int .i64 x.Delivered.Hi, .bool x.Spill]
theorem one_enc_share_Year : ∀ x, (enc_share_Year x).length = 5 ∧ ones (enc_share_Year x) = true := fun _ => ⟨rfl, rfl⟩

structure share_Border where
  Table : List share_Point
  Credit : Int

structure share_Truth where
  Index : Int
  Delivered : Int
@[reducible] def enc_share_Truth (x : share_Truth) : List Value := [.int .i64 x.Index, .int .i64 x.Delivered]
theorem one_enc_share_Truth : ∀ x, (enc_share_Truth x).length = 2 ∧ ones (enc_share_Truth x) = true := fun _ => ⟨rfl, rfl⟩

structure share_Pact where
  Least : Int
  Part : Int
  Can : List Int

theorem bt_161 : builtInfo Try.prog 161 = some ([.slice none 0 0, .int .i64 0, .int .i64 0], [(0, 1), (1, 1), (2, 1)]) := by kernel_rfl

theorem en_27 : En Try.prog 27 := En.of Try.func27 (by kernel_rfl) (by kernel_rfl)

theorem fa_161_0 : ∀ (q : Addr) (w : World), (Instr.fieldAt 161 (.pointer (some q)) 0).run Try.prog w = .ok (.pointer (some (q.add 0))) w := fun _ _ => by kernel_rfl

theorem sc_53 : ScT Try.prog 53 := ⟨⟨_, Try.underlying53, trivial⟩, by kernel_rfl⟩

theorem fa_161_1 : ∀ (q : Addr) (w : World), (Instr.fieldAt 161 (.pointer (some q)) 1).run Try.prog w = .ok (.pointer (some (q.add 1))) w := fun _ _ => by kernel_rfl

theorem sc_3 : ScT Try.prog 3 := ⟨⟨_, Try.underlying3, trivial⟩, by kernel_rfl⟩

theorem sz_5 : (Try.prog.info? 5).map (·.size) = some 1 := by kernel_rfl

theorem sc_5 : ScT Try.prog 5 := ⟨⟨_, Try.underlying5, trivial⟩, by kernel_rfl⟩

theorem follows_mx : Try.prog.follows .mixedOrders = true := by kernel_rfl

theorem fa_161_2 : ∀ (q : Addr) (w : World), (Instr.fieldAt 161 (.pointer (some q)) 2).run Try.prog w = .ok (.pointer (some (q.add 2))) w := fun _ _ => by kernel_rfl

theorem sz_3 : (Try.prog.info? 3).map (·.size) = some 1 := by kernel_rfl

theorem en_29 : En Try.prog 29 := En.of Try.func29 (by kernel_rfl) (by kernel_rfl)

theorem en_28 : En Try.prog 28 := En.of Try.func28 (by kernel_rfl) (by kernel_rfl)

theorem sl_36 : SlT Try.prog 36 3 1 8 (.int .i64 0) := SlT.of Try.underlying36 (by kernel_rfl) (by decide)

theorem en_33 : En Try.prog 33 := En.of Try.func33 (by kernel_rfl) (by kernel_rfl)

theorem en_70 : En Try.prog 70 := En.of Try.func70 (by kernel_rfl) (by kernel_rfl)

theorem sc_146 : ScT Try.prog 146 := ⟨⟨_, Try.underlying146, trivial⟩, by kernel_rfl⟩

theorem en_121 : En Try.prog 121 := En.of Try.func121 (by kernel_rfl) (by kernel_rfl)

theorem en_120 : En Try.prog 120 := En.of Try.func120 (by kernel_rfl) (by kernel_rfl)

theorem en_145 : En Try.prog 145 := En.of Try.func145 (by kernel_rfl) (by kernel_rfl)

theorem en_119 : En Try.prog 119 := En.of Try.func119 (by kernel_rfl) (by kernel_rfl)

theorem en_80 : En Try.prog 80 := En.of Try.func80 (by kernel_rfl) (by kernel_rfl)

theorem en_81 : En Try.prog 81 := En.of Try.func81 (by kernel_rfl) (by kernel_rfl)

theorem en_82 : En Try.prog 82 := En.of Try.func82 (by kernel_rfl) (by kernel_rfl)

theorem zr_165 : (Try.prog.info? 165).map (·.zero) = some (some (.agg #[.int .i64 0, .int .i64 0])) := by kernel_rfl

theorem bt_165 : builtInfo Try.prog 165 = some ([.int .i64 0, .int .i64 0], [(0, 1), (1, 1)]) := by kernel_rfl

theorem sz_165 : (Try.prog.info? 165).map (·.size) = some 2 := by kernel_rfl

theorem ag_165 : AggT Try.prog 165 2 := ⟨⟨_, Try.underlying165, trivial⟩, by kernel_rfl⟩

theorem en_83 : En Try.prog 83 := En.of Try.func83 (by kernel_rfl) (by kernel_rfl)

theorem ge_165 : Try.prog.eqGuardType Try.prog.depth 165 = false := by kernel_rfl

theorem eqs_165 (x0 : Int) (x1 : Int) (y0 : Int) (y1 : Int) (w : World) : (Op.equalIn 10000 165 (.agg #[.int .i64 x0, .int .i64 x1]) (.agg #[.int .i64 y0, .int .i64 y1])).run Try.prog w = .ok (x0 == y0 && x1 == y1) w := by
  rw [run_equalIn_agg w 9999 165 _ _ (by kernel_rfl) (by kernel_rfl)]
  simp [Op.eqFields, part, go_sem]
  repeat' split
  all_goals simp_all

theorem fa_165_0 : ∀ (q : Addr) (w : World), (Instr.fieldAt 165 (.pointer (some q)) 0).run Try.prog w = .ok (.pointer (some (q.add 0))) w := fun _ _ => by kernel_rfl

theorem fa_165_1 : ∀ (q : Addr) (w : World), (Instr.fieldAt 165 (.pointer (some q)) 1).run Try.prog w = .ok (.pointer (some (q.add 1))) w := fun _ _ => by kernel_rfl

theorem en_84 : En Try.prog 84 := En.of Try.func84 (by kernel_rfl) (by kernel_rfl)

theorem en_34 : En Try.prog 34 := En.of Try.func34 (by kernel_rfl) (by kernel_rfl)

theorem en_122 : En Try.prog 122 := En.of Try.func122 (by kernel_rfl) (by kernel_rfl)

theorem en_88 : En Try.prog 88 := En.of Try.func88 (by kernel_rfl) (by kernel_rfl)

theorem en_37 : En Try.prog 37 := En.of Try.func37 (by kernel_rfl) (by kernel_rfl)

theorem zr_71 : (Try.prog.info? 71).map (·.zero) = some (some (.agg #[.int .i64 0, .int .i64 0])) := by kernel_rfl

theorem bt_71 : builtInfo Try.prog 71 = some ([.int .i64 0, .int .i64 0], [(0, 1), (1, 1)]) := by kernel_rfl

theorem sz_71 : (Try.prog.info? 71).map (·.size) = some 2 := by kernel_rfl

theorem sl_171 : SlT Try.prog 171 165 2 16 (.agg #[.int .i64 0, .int .i64 0]) := SlT.of Try.underlying171 (by kernel_rfl) (by decide)

theorem en_90 : En Try.prog 90 := En.of Try.func90 (by kernel_rfl) (by kernel_rfl)

theorem ag_71 : AggT Try.prog 71 2 := ⟨⟨_, Try.underlying71, trivial⟩, by kernel_rfl⟩

theorem en_91 : En Try.prog 91 := En.of Try.func91 (by kernel_rfl) (by kernel_rfl)

theorem en_39 : En Try.prog 39 := En.of Try.func39 (by kernel_rfl) (by kernel_rfl)

theorem en_31 : En Try.prog 31 := En.of Try.func31 (by kernel_rfl) (by kernel_rfl)

theorem fa_71_0 : ∀ (q : Addr) (w : World), (Instr.fieldAt 71 (.pointer (some q)) 0).run Try.prog w = .ok (.pointer (some (q.add 0))) w := fun _ _ => by kernel_rfl

theorem fa_71_1 : ∀ (q : Addr) (w : World), (Instr.fieldAt 71 (.pointer (some q)) 1).run Try.prog w = .ok (.pointer (some (q.add 1))) w := fun _ _ => by kernel_rfl

theorem sl_84 : SlT Try.prog 84 71 2 16 (.agg #[.int .i64 0, .int .i64 0]) := SlT.of Try.underlying84 (by kernel_rfl) (by decide)

theorem bt_177 : builtInfo Try.prog 177 = some ([.int .i64 0, .int .i64 0, .int .i64 0], [(0, 1), (1, 2)]) := by kernel_rfl

theorem fa_177_0 : ∀ (q : Addr) (w : World), (Instr.fieldAt 177 (.pointer (some q)) 0).run Try.prog w = .ok (.pointer (some (q.add 0))) w := fun _ _ => by kernel_rfl

theorem sc_65 : ScT Try.prog 65 := ⟨⟨_, Try.underlying65, trivial⟩, by kernel_rfl⟩

theorem fa_177_1 : ∀ (q : Addr) (w : World), (Instr.fieldAt 177 (.pointer (some q)) 1).run Try.prog w = .ok (.pointer (some (q.add 1))) w := fun _ _ => by kernel_rfl

theorem en_93 : En Try.prog 93 := En.of Try.func93 (by kernel_rfl) (by kernel_rfl)

theorem en_41 : En Try.prog 41 := En.of Try.func41 (by kernel_rfl) (by kernel_rfl)

theorem zr_24 : (Try.prog.info? 24).map (·.zero) = some (some (.agg #[.int .i64 0, .slice none 0 0])) := by kernel_rfl

theorem bt_51 : builtInfo Try.prog 51 = some ([.int .i64 0, .int .i64 0, .int .i64 0], [(0, 1), (1, 1), (2, 1)]) := by kernel_rfl

theorem sl_22 : SlT Try.prog 22 51 3 24 (.agg #[.int .i64 0, .int .i64 0, .int .i64 0]) := SlT.of Try.underlying22 (by kernel_rfl) (by decide)

theorem bt_24 : builtInfo Try.prog 24 = some ([.int .i64 0, .slice none 0 0], [(0, 1), (1, 1)]) := by kernel_rfl

theorem sz_24 : (Try.prog.info? 24).map (·.size) = some 2 := by kernel_rfl

theorem ag_24 : AggT Try.prog 24 2 := ⟨⟨_, Try.underlying24, trivial⟩, by kernel_rfl⟩

theorem en_67 : En Try.prog 67 := En.of Try.func67 (by kernel_rfl) (by kernel_rfl)

theorem fa_24_0 : ∀ (q : Addr) (w : World), (Instr.fieldAt 24 (.pointer (some q)) 0).run Try.prog w = .ok (.pointer (some (q.add 0))) w := fun _ _ => by kernel_rfl

theorem fa_24_1 : ∀ (q : Addr) (w : World), (Instr.fieldAt 24 (.pointer (some q)) 1).run Try.prog w = .ok (.pointer (some (q.add 1))) w := fun _ _ => by kernel_rfl

theorem sc_22 : ScT Try.prog 22 := ⟨⟨_, Try.underlying22, trivial⟩, by kernel_rfl⟩

theorem sz_51 : (Try.prog.info? 51).map (·.size) = some 3 := by kernel_rfl

theorem ag_51 : AggT Try.prog 51 3 := ⟨⟨_, Try.underlying51, trivial⟩, by kernel_rfl⟩

theorem sc_147 : ScT Try.prog 147 := ⟨⟨_, Try.underlying147, trivial⟩, by kernel_rfl⟩

theorem fa_51_0 : ∀ (q : Addr) (w : World), (Instr.fieldAt 51 (.pointer (some q)) 0).run Try.prog w = .ok (.pointer (some (q.add 0))) w := fun _ _ => by kernel_rfl

theorem fa_51_1 : ∀ (q : Addr) (w : World), (Instr.fieldAt 51 (.pointer (some q)) 1).run Try.prog w = .ok (.pointer (some (q.add 1))) w := fun _ _ => by kernel_rfl

theorem en_73 : En Try.prog 73 := En.of Try.func73 (by kernel_rfl) (by kernel_rfl)

theorem fa_51_2 : ∀ (q : Addr) (w : World), (Instr.fieldAt 51 (.pointer (some q)) 2).run Try.prog w = .ok (.pointer (some (q.add 2))) w := fun _ _ => by kernel_rfl

theorem en_72 : En Try.prog 72 := En.of Try.func72 (by kernel_rfl) (by kernel_rfl)

theorem en_116 : En Try.prog 116 := En.of Try.func116 (by kernel_rfl) (by kernel_rfl)

theorem en_144 : En Try.prog 144 := En.of Try.func144 (by kernel_rfl) (by kernel_rfl)

theorem en_115 : En Try.prog 115 := En.of Try.func115 (by kernel_rfl) (by kernel_rfl)

theorem en_71 : En Try.prog 71 := En.of Try.func71 (by kernel_rfl) (by kernel_rfl)

theorem en_15 : En Try.prog 15 := En.of Try.func15 (by kernel_rfl) (by kernel_rfl)

theorem bt_156 : builtInfo Try.prog 156 = some ((catc [.int .i64 0, .slice none 0 0] 12 encI_i64 (fun _ => 0) []), [(0, 2), (2, 12)]) := by kernel_rfl

theorem zr_153 : (Try.prog.info? 153).map (·.zero) = some (some (.pointer none)) := by kernel_rfl

theorem sz_153 : (Try.prog.info? 153).map (·.size) = some 1 := by kernel_rfl

theorem sc_153 : ScT Try.prog 153 := ⟨⟨_, Try.underlying153, trivial⟩, by kernel_rfl⟩

theorem en_79 : En Try.prog 79 := En.of Try.func79 (by kernel_rfl) (by kernel_rfl)

theorem fa_156_0 : ∀ (q : Addr) (w : World), (Instr.fieldAt 156 (.pointer (some q)) 0).run Try.prog w = .ok (.pointer (some (q.add 0))) w := fun _ _ => by kernel_rfl

theorem zr_51 : (Try.prog.info? 51).map (·.zero) = some (some (.agg #[.int .i64 0, .int .i64 0, .int .i64 0])) := by kernel_rfl

theorem fa_156_1 : ∀ (q : Addr) (w : World), (Instr.fieldAt 156 (.pointer (some q)) 1).run Try.prog w = .ok (.pointer (some (q.add 2))) w := fun _ _ => by kernel_rfl

theorem en_117 : En Try.prog 117 := En.of Try.func117 (by kernel_rfl) (by kernel_rfl)

theorem en_118 : En Try.prog 118 := En.of Try.func118 (by kernel_rfl) (by kernel_rfl)

theorem en_75 : En Try.prog 75 := En.of Try.func75 (by kernel_rfl) (by kernel_rfl)

theorem en_18 : En Try.prog 18 := En.of Try.func18 (by kernel_rfl) (by kernel_rfl)

theorem zr_26 : (Try.prog.info? 26).map (·.zero) = some (some (.agg #[.int .i64 0, .int .i64 0])) := by kernel_rfl

theorem bt_26 : builtInfo Try.prog 26 = some ([.int .i64 0, .int .i64 0], [(0, 1), (1, 1)]) := by kernel_rfl

theorem sz_26 : (Try.prog.info? 26).map (·.size) = some 2 := by kernel_rfl

theorem ag_26 : AggT Try.prog 26 2 := ⟨⟨_, Try.underlying26, trivial⟩, by kernel_rfl⟩

theorem en_60 : En Try.prog 60 := En.of Try.func60 (by kernel_rfl) (by kernel_rfl)

theorem fa_26_0 : ∀ (q : Addr) (w : World), (Instr.fieldAt 26 (.pointer (some q)) 0).run Try.prog w = .ok (.pointer (some (q.add 0))) w := fun _ _ => by kernel_rfl

theorem fa_26_1 : ∀ (q : Addr) (w : World), (Instr.fieldAt 26 (.pointer (some q)) 1).run Try.prog w = .ok (.pointer (some (q.add 1))) w := fun _ _ => by kernel_rfl

theorem en_77 : En Try.prog 77 := En.of Try.func77 (by kernel_rfl) (by kernel_rfl)

theorem sl_41 : SlT Try.prog 41 26 2 16 (.agg #[.int .i64 0, .int .i64 0]) := SlT.of Try.underlying41 (by kernel_rfl) (by decide)

theorem en_21 : En Try.prog 21 := En.of Try.func21 (by kernel_rfl) (by kernel_rfl)

theorem zr_3 : (Try.prog.info? 3).map (·.zero) = some (some (.int .i64 0)) := by kernel_rfl

theorem zr_29 : (Try.prog.info? 29).map (·.zero) = some (some (.int .i64 0)) := by kernel_rfl

theorem sz_29 : (Try.prog.info? 29).map (·.size) = some 1 := by kernel_rfl

theorem sc_29 : ScT Try.prog 29 := ⟨⟨_, Try.underlying29, trivial⟩, by kernel_rfl⟩

theorem en_24 : En Try.prog 24 := En.of Try.func24 (by kernel_rfl) (by kernel_rfl)

theorem zr_88 : (Try.prog.info? 88).map (·.zero) = some (some (.agg #[.slice none 0 0, .int .i64 0])) := by kernel_rfl

theorem bt_116 : builtInfo Try.prog 116 = some ([.int .i64 0, .int .i64 0], [(0, 1), (1, 1)]) := by kernel_rfl

theorem sl_86 : SlT Try.prog 86 116 2 16 (.agg #[.int .i64 0, .int .i64 0]) := SlT.of Try.underlying86 (by kernel_rfl) (by decide)

theorem bt_88 : builtInfo Try.prog 88 = some ([.slice none 0 0, .int .i64 0], [(0, 1), (1, 1)]) := by kernel_rfl

theorem bt_94 : builtInfo Try.prog 94 = some ([.int .i64 0, .int .i64 0, .int .i64 0, .int .i64 0, .bool false], [(0, 2), (2, 2), (4, 1)]) := by kernel_rfl

theorem sl_89 : SlT Try.prog 89 94 5 40 (.agg #[.int .i64 0, .int .i64 0, .int .i64 0, .int .i64 0, .bool false]) := SlT.of Try.underlying89 (by kernel_rfl) (by decide)

theorem sz_88 : (Try.prog.info? 88).map (·.size) = some 2 := by kernel_rfl

theorem ag_88 : AggT Try.prog 88 2 := ⟨⟨_, Try.underlying88, trivial⟩, by kernel_rfl⟩

theorem en_68 : En Try.prog 68 := En.of Try.func68 (by kernel_rfl) (by kernel_rfl)

theorem fa_88_0 : ∀ (q : Addr) (w : World), (Instr.fieldAt 88 (.pointer (some q)) 0).run Try.prog w = .ok (.pointer (some (q.add 0))) w := fun _ _ => by kernel_rfl

theorem sc_86 : ScT Try.prog 86 := ⟨⟨_, Try.underlying86, trivial⟩, by kernel_rfl⟩

theorem sz_116 : (Try.prog.info? 116).map (·.size) = some 2 := by kernel_rfl

theorem ag_116 : AggT Try.prog 116 2 := ⟨⟨_, Try.underlying116, trivial⟩, by kernel_rfl⟩

theorem sc_182 : ScT Try.prog 182 := ⟨⟨_, Try.underlying182, trivial⟩, by kernel_rfl⟩

theorem fa_116_0 : ∀ (q : Addr) (w : World), (Instr.fieldAt 116 (.pointer (some q)) 0).run Try.prog w = .ok (.pointer (some (q.add 0))) w := fun _ _ => by kernel_rfl

theorem fa_116_1 : ∀ (q : Addr) (w : World), (Instr.fieldAt 116 (.pointer (some q)) 1).run Try.prog w = .ok (.pointer (some (q.add 1))) w := fun _ _ => by kernel_rfl

theorem en_96 : En Try.prog 96 := En.of Try.func96 (by kernel_rfl) (by kernel_rfl)

theorem en_124 : En Try.prog 124 := En.of Try.func124 (by kernel_rfl) (by kernel_rfl)

theorem en_125 : En Try.prog 125 := En.of Try.func125 (by kernel_rfl) (by kernel_rfl)

theorem en_123 : En Try.prog 123 := En.of Try.func123 (by kernel_rfl) (by kernel_rfl)

theorem en_95 : En Try.prog 95 := En.of Try.func95 (by kernel_rfl) (by kernel_rfl)

theorem fa_88_1 : ∀ (q : Addr) (w : World), (Instr.fieldAt 88 (.pointer (some q)) 1).run Try.prog w = .ok (.pointer (some (q.add 1))) w := fun _ _ => by kernel_rfl

theorem zr_116 : (Try.prog.info? 116).map (·.zero) = some (some (.agg #[.int .i64 0, .int .i64 0])) := by kernel_rfl

theorem en_47 : En Try.prog 47 := En.of Try.func47 (by kernel_rfl) (by kernel_rfl)

theorem sz_94 : (Try.prog.info? 94).map (·.size) = some 5 := by kernel_rfl

theorem ag_94 : AggT Try.prog 94 5 := ⟨⟨_, Try.underlying94, trivial⟩, by kernel_rfl⟩

theorem sc_212 : ScT Try.prog 212 := ⟨⟨_, Try.underlying212, trivial⟩, by kernel_rfl⟩

theorem fa_94_0 : ∀ (q : Addr) (w : World), (Instr.fieldAt 94 (.pointer (some q)) 0).run Try.prog w = .ok (.pointer (some (q.add 0))) w := fun _ _ => by kernel_rfl

theorem fa_94_1 : ∀ (q : Addr) (w : World), (Instr.fieldAt 94 (.pointer (some q)) 1).run Try.prog w = .ok (.pointer (some (q.add 2))) w := fun _ _ => by kernel_rfl

theorem en_128 : En Try.prog 128 := En.of Try.func128 (by kernel_rfl) (by kernel_rfl)

theorem en_147 : En Try.prog 147 := En.of Try.func147 (by kernel_rfl) (by kernel_rfl)

theorem en_156 : En Try.prog 156 := En.of Try.func156 (by kernel_rfl) (by kernel_rfl)

theorem en_146 : En Try.prog 146 := En.of Try.func146 (by kernel_rfl) (by kernel_rfl)

theorem en_127 : En Try.prog 127 := En.of Try.func127 (by kernel_rfl) (by kernel_rfl)

theorem en_99 : En Try.prog 99 := En.of Try.func99 (by kernel_rfl) (by kernel_rfl)

theorem zr_213 : (Try.prog.info? 213).map (·.zero) = some (some (.map none)) := by kernel_rfl

theorem sz_213 : (Try.prog.info? 213).map (·.size) = some 1 := by kernel_rfl

theorem en_100 : En Try.prog 100 := En.of Try.func100 (by kernel_rfl) (by kernel_rfl)

theorem zr_192 : (Try.prog.info? 192).map (·.zero) = some (some (.agg #[.nilFunc, .nilFunc])) := by kernel_rfl

theorem bt_192 : builtInfo Try.prog 192 = some ([.nilFunc, .nilFunc], [(0, 1), (1, 1)]) := by kernel_rfl

theorem sz_192 : (Try.prog.info? 192).map (·.size) = some 2 := by kernel_rfl

theorem ag_192 : AggT Try.prog 192 2 := ⟨⟨_, Try.underlying192, trivial⟩, by kernel_rfl⟩

theorem en_103 : En Try.prog 103 := En.of Try.func103 (by kernel_rfl) (by kernel_rfl)

theorem en_104 : En Try.prog 104 := En.of Try.func104 (by kernel_rfl) (by kernel_rfl)

theorem zr_94 : (Try.prog.info? 94).map (·.zero) = some (some (.agg #[.int .i64 0, .int .i64 0, .int .i64 0, .int .i64 0, .bool false])) := by kernel_rfl

theorem fa_192_0 : ∀ (q : Addr) (w : World), (Instr.fieldAt 192 (.pointer (some q)) 0).run Try.prog w = .ok (.pointer (some (q.add 0))) w := fun _ _ => by kernel_rfl

theorem sc_190 : ScT Try.prog 190 := ⟨⟨_, Try.underlying190, trivial⟩, by kernel_rfl⟩

theorem en_130 : En Try.prog 130 := En.of Try.func130 (by kernel_rfl) (by kernel_rfl)

theorem fa_192_1 : ∀ (q : Addr) (w : World), (Instr.fieldAt 192 (.pointer (some q)) 1).run Try.prog w = .ok (.pointer (some (q.add 1))) w := fun _ _ => by kernel_rfl

theorem en_131 : En Try.prog 131 := En.of Try.func131 (by kernel_rfl) (by kernel_rfl)

theorem bt_97 : builtInfo Try.prog 97 = some ([.int .i64 0, .int .i64 0], [(0, 1), (1, 1)]) := by kernel_rfl

theorem fa_94_2 : ∀ (q : Addr) (w : World), (Instr.fieldAt 94 (.pointer (some q)) 2).run Try.prog w = .ok (.pointer (some (q.add 4))) w := fun _ _ => by kernel_rfl

theorem sc_4 : ScT Try.prog 4 := ⟨⟨_, Try.underlying4, trivial⟩, by kernel_rfl⟩

theorem sc_213 : ScT Try.prog 213 := ⟨⟨_, Try.underlying213, trivial⟩, by kernel_rfl⟩

theorem fa_97_0 : ∀ (q : Addr) (w : World), (Instr.fieldAt 97 (.pointer (some q)) 0).run Try.prog w = .ok (.pointer (some (q.add 0))) w := fun _ _ => by kernel_rfl

theorem en_126 : En Try.prog 126 := En.of Try.func126 (by kernel_rfl) (by kernel_rfl)

theorem en_97 : En Try.prog 97 := En.of Try.func97 (by kernel_rfl) (by kernel_rfl)

theorem fa_97_1 : ∀ (q : Addr) (w : World), (Instr.fieldAt 97 (.pointer (some q)) 1).run Try.prog w = .ok (.pointer (some (q.add 1))) w := fun _ _ => by kernel_rfl

theorem en_129 : En Try.prog 129 := En.of Try.func129 (by kernel_rfl) (by kernel_rfl)

theorem en_132 : En Try.prog 132 := En.of Try.func132 (by kernel_rfl) (by kernel_rfl)

theorem en_133 : En Try.prog 133 := En.of Try.func133 (by kernel_rfl) (by kernel_rfl)

theorem en_54 : En Try.prog 54 := En.of Try.func54 (by kernel_rfl) (by kernel_rfl)

theorem en_20 : En Try.prog 20 := En.of Try.func20 (by kernel_rfl) (by kernel_rfl)

theorem ge_26 : Try.prog.eqGuardType Try.prog.depth 26 = false := by kernel_rfl

theorem eqs_26 (x0 : Int) (x1 : Int) (y0 : Int) (y1 : Int) (w : World) : (Op.equalIn 10000 26 (.agg #[.int .i64 x0, .int .i64 x1]) (.agg #[.int .i64 y0, .int .i64 y1])).run Try.prog w = .ok (x0 == y0 && x1 == y1) w := by
  rw [run_equalIn_agg w 9999 26 _ _ (by kernel_rfl) (by kernel_rfl)]
  simp [Op.eqFields, part, go_sem]
  repeat' split
  all_goals simp_all

theorem en_23 : En Try.prog 23 := En.of Try.func23 (by kernel_rfl) (by kernel_rfl)

theorem bt_59 : builtInfo Try.prog 59 = some ([.int .i64 0, .int .i64 0, .slice none 0 0], [(0, 1), (1, 1), (2, 1)]) := by kernel_rfl

theorem fa_59_2 : ∀ (q : Addr) (w : World), (Instr.fieldAt 59 (.pointer (some q)) 2).run Try.prog w = .ok (.pointer (some (q.add 2))) w := fun _ _ => by kernel_rfl

theorem sc_36 : ScT Try.prog 36 := ⟨⟨_, Try.underlying36, trivial⟩, by kernel_rfl⟩

theorem fa_59_0 : ∀ (q : Addr) (w : World), (Instr.fieldAt 59 (.pointer (some q)) 0).run Try.prog w = .ok (.pointer (some (q.add 0))) w := fun _ _ => by kernel_rfl

theorem fa_59_1 : ∀ (q : Addr) (w : World), (Instr.fieldAt 59 (.pointer (some q)) 1).run Try.prog w = .ok (.pointer (some (q.add 1))) w := fun _ _ => by kernel_rfl

theorem en_30 : En Try.prog 30 := En.of Try.func30 (by kernel_rfl) (by kernel_rfl)

theorem ge_71 : Try.prog.eqGuardType Try.prog.depth 71 = false := by kernel_rfl

theorem eqs_71 (x0 : Int) (x1 : Int) (y0 : Int) (y1 : Int) (w : World) : (Op.equalIn 10000 71 (.agg #[.int .i64 x0, .int .i64 x1]) (.agg #[.int .i64 y0, .int .i64 y1])).run Try.prog w = .ok (x0 == y0 && x1 == y1) w := by
  rw [run_equalIn_agg w 9999 71 _ _ (by kernel_rfl) (by kernel_rfl)]
  simp [Op.eqFields, part, go_sem]
  repeat' split
  all_goals simp_all

theorem en_13 : En Try.prog 13 := En.of Try.func13 (by kernel_rfl) (by kernel_rfl)

theorem en_32 : En Try.prog 32 := En.of Try.func32 (by kernel_rfl) (by kernel_rfl)

def kit_New (N : Nat) (bytes : List Int) : Option (Int × Int) :=
  some (0, 0)
theorem kit_New_ok {N : Nat} {G : Pers} {Lf : List Ent} {w : World} (bytes : List Int) {bytes_p : Option Addr} {bytes_c : Nat} (h_bytes : Rd G 1 bytes_p bytes_c (bytes.map encI_u8)) (hc : Ctx G (Lf) w) {res : Int × Int} (hF : kit_New N bytes = some res) : Calls Try.prog 27 #[.slice bytes_p bytes.length bytes_c] w (fun e w => ∃ (b'1 : Nat), e = .returned (.pointer (some ⟨b'1, 0, none⟩)) ∧ Ctx G (.box b'1 [.slice bytes_p bytes.length bytes_c, .int .i64 res.1, .int .i64 res.2] 161 :: Lf) w) := by
  unfold kit_New at hF
  refine fnIn (args := [.slice bytes_p bytes.length bytes_c]) Try.func27 rfl Try.ntmps27 rfl fun a hf => ?_
  refine wp_seq_k fun K1 h1 => ?_
  refine cReg ?_
  refine stP hf rfl rfl rfl (pA rfl) fun a hf => ?_
  refine cNil ?_
  refine h1 _ _ ?_
  refine wp_seq_k fun K2 h2 => ?_
  refine cReg ?_
  refine stP hf rfl rfl rfl (pM rfl) fun a hf => ?_
  refine stP hf rfl rfl rfl (pBuildS (cells := [.slice bytes_p bytes.length bytes_c, .int .i64 0, .int .i64 0]) bt_161 rfl rfl) fun a hf => ?_
  refine stBx (cs := [.slice bytes_p bytes.length bytes_c, .int .i64 0, .int .i64 0]) hf hc rfl rfl rfl rfl fun b_1 a w hf hc => ?_
  refine stP hf rfl rfl rfl (pA rfl) fun a hf => ?_
  refine cNil ?_
  refine h2 _ _ ?_
  refine wp_ret ?_
  obtain rfl := Option.some.inj hF
  exact fnOut1 (by simp) rfl Try.results27 hf hc (show look _ 2 = _ from rfl) ⟨b_1, rfl, hc⟩

def kit_Stream_Next_j9 (N : Nat) (s_ : kit_Stream) (n : Int) (b_2 : Int) (b_3 : Int) : Option (Int × Int × Int) :=
  Option.bind (nz n) fun un_1 =>
  some (b_3.tmod n, W (s_.used + 1), (W ((W ((W (5 * s_.mix)) + b_2)) + 1)).tmod 251)
def kit_Stream_Next_j6 (N : Nat) (s_ : kit_Stream) (n : Int) (b_2 : Int) : Option (Int × Int × Int) :=
  cond (decide (256 < n))
  (kit_Stream_Next_j9 N s_ n b_2 (W ((W (256 * b_2)) + ((W ((W ((W (5 * s_.mix)) + b_2)) + 1)).tmod 251))))
  (kit_Stream_Next_j9 N s_ n b_2 b_2)
def kit_Stream_Next (N : Nat) (s_ : kit_Stream) (n : Int) : Option (Int × Int × Int) :=
  cond ((decide (n < 2)) || (((s_.bytes.length : Nat) : Int) == 0))
  (some (0, s_.used, s_.mix))
  (Option.bind (nz ((s_.bytes.length : Nat) : Int)) fun un =>
  Option.bind (getI s_.bytes (s_.used.tmod ((s_.bytes.length : Nat) : Int))) fun e_1 =>
  cond (decide (((s_.bytes.length : Nat) : Int) ≤ s_.used))
  (Option.bind (nz ((s_.bytes.length : Nat) : Int)) fun un_2 =>
  kit_Stream_Next_j6 N s_ n (W ((W (e_1)) + (W ((W (11 * s_.mix)) + (W (s_.used.tdiv ((s_.bytes.length : Nat) : Int))))))))
  (kit_Stream_Next_j6 N s_ n (W (e_1))))
theorem kit_Stream_Next_ok {N : Nat} {G : Pers} {Lf : List Ent} {w : World} (s_ : kit_Stream) (n : Int) {b_ : Nat} {s__bytes_p : Option Addr} {s__bytes_c : Nat} (h_s__bytes : Rd G 1 s__bytes_p s__bytes_c (s_.bytes.map encI_u8)) (hc : Ctx G (.box b_ [.slice s__bytes_p s_.bytes.length s__bytes_c, .int .i64 s_.used, .int .i64 s_.mix] 161 :: Lf) w) {res : Int × Int × Int} (hF : kit_Stream_Next N s_ n = some res) : Calls Try.prog 29 #[.pointer (some ⟨b_, 0, none⟩), .int .i64 n] w (fun e w => e = .returned (.int .i64 res.1) ∧ Ctx G (.box b_ [.slice s__bytes_p s_.bytes.length s__bytes_c, .int .i64 res.2.1, .int .i64 res.2.2] 161 :: Lf) w) := by
  unfold kit_Stream_Next at hF
  refine fnIn (args := [.pointer (some ⟨b_, 0, none⟩), .int .i64 n]) Try.func29 rfl Try.ntmps29 rfl fun a hf => ?_
  refine wp_seq_k fun K1 h1 => ?_
  refine cReg ?_
  refine stP hf rfl rfl rfl (pA rfl) fun a hf => ?_
  refine cNil ?_
  refine h1 _ _ ?_
  refine wp_seq_k fun K2 h2 => ?_
  refine wp_seq_k fun K3 h3 => ?_
  refine cReg ?_
  refine stP hf rfl rfl rfl (pM rfl) fun a hf => ?_
  refine stP hf rfl rfl rfl (pLt rfl rfl) fun a hf => ?_
  refine stP hf rfl rfl rfl (pM rfl) fun a hf => ?_
  refine stCut 7 (fun a w => Has 92 a [(0, .pointer (some ⟨b_, 0, none⟩)), (1, .int .i64 n), (6, .int .i64 n), (7, .bool (decide (n < 2))), (8, .bool (decide (n < 2))), (15, .bool ((decide (n < 2)) || (((s_.bytes.length : Nat) : Int) == 0)))] ∧ Ctx G (.box b_ [.slice s__bytes_p s_.bytes.length s__bytes_c, .int .i64 s_.used, .int .i64 s_.mix] 161 :: Lf) w) ?_ ?_
  · cases hb : (decide (n < 2))
    · rw [hb] at hf
      refine stP hf rfl rfl rfl (pM rfl) fun a hf => ?_
      refine stP hf rfl rfl rfl (pNC rfl) fun a hf => ?_
      refine stP hf rfl rfl rfl (pFA fa_161_0 rfl) fun a hf => ?_
      refine stE hf hc rfl rfl rfl (eLd1 sc_53 rfl (cell_box m0 rfl)) fun a w hf hc => ?_
      refine stP hf rfl rfl rfl (pLenS Try.underlying53 rfl) fun a hf => ?_
      refine stP hf rfl rfl rfl (pEq rfl rfl) fun a hf => ?_
      refine stP hf rfl rfl rfl (pPf rfl rfl) fun a hf => ?_
      exact cNil ⟨hf.keep ⟨rfl, rfl, rfl, rfl, rfl, rfl, trivial⟩, hc⟩
    · rw [hb] at hf
      refine stS hf rfl rfl rfl fun a hf => ?_
      refine stS hf rfl rfl rfl fun a hf => ?_
      refine stS hf rfl rfl rfl fun a hf => ?_
      refine stS hf rfl rfl rfl fun a hf => ?_
      refine stS hf rfl rfl rfl fun a hf => ?_
      refine stS hf rfl rfl rfl fun a hf => ?_
      refine stP hf rfl rfl rfl (pPt rfl rfl) fun a hf => ?_
      exact cNil ⟨hf.keep ⟨rfl, rfl, rfl, rfl, rfl, rfl, trivial⟩, hc⟩
  intro a w ⟨hf, hc⟩
  refine cNil ?_
  refine h3 _ _ ?_
  refine cCond (b := ((decide (n < 2)) || (((s_.bytes.length : Nat) : Int) == 0))) hf rfl (fun hb => ?_) (fun hb => ?_)
  · replace hF := condT hb hF
    clear hb
    refine wp_seq_k fun K4 h4 => ?_
    refine cReg ?_
    refine stP hf rfl rfl rfl (pA rfl) fun a hf => ?_
    refine cNil ?_
    refine h4 _ _ ?_
    refine wp_ret ?_
    refine xThenR ?_
    obtain rfl := Option.some.inj hF
    exact fnOut1 (by simp) rfl Try.results29 hf hc (show look _ 4 = _ from rfl) ⟨rfl, hc⟩
  · replace hF := condF hb hF
    clear hb
    refine wp_skip ?_
    refine h2 _ _ ?_
    refine wp_seq_k fun K5 h5 => ?_
    obtain ⟨un, hun, hF⟩ := bnd_some hF
    obtain ⟨e_1, he_1, hF⟩ := bnd_some hF
    obtain ⟨b_1, o, qa, qp⟩ := h_s__bytes.atm he_1
    refine cQ hc follows_mx (by kernel_rfl) ?_
    refine qE hf rfl rfl rfl (Pu.ev (pM rfl)) fun a hf => ?_
    refine qE hf rfl rfl rfl (Pu.ev (pNC rfl)) fun a hf => ?_
    refine qE hf rfl rfl rfl (Pu.ev (pFA fa_161_0 rfl)) fun a hf => ?_
    refine qE hf rfl rfl rfl (eLd1 sc_53 rfl (cell_box m0 rfl)) fun a hf => ?_
    refine qE hf rfl rfl rfl (Pu.ev (pM rfl)) fun a hf => ?_
    refine qE hf rfl rfl rfl (Pu.ev (pNC rfl)) fun a hf => ?_
    refine qE hf rfl rfl rfl (Pu.ev (pFA fa_161_1 rfl)) fun a hf => ?_
    refine qE hf rfl rfl rfl (eLd1 sc_3 rfl (cell_box m0 rfl)) fun a hf => ?_
    refine qE hf rfl rfl rfl (Pu.ev (pM rfl)) fun a hf => ?_
    refine qE hf rfl rfl rfl (Pu.ev (pNC rfl)) fun a hf => ?_
    refine qE hf rfl rfl rfl (Pu.ev (pFA fa_161_0 rfl)) fun a hf => ?_
    refine qE hf rfl rfl rfl (eLd1 sc_53 rfl (cell_box m0 rfl)) fun a hf => ?_
    refine qE hf rfl rfl rfl (Pu.ev (pLenS Try.underlying53 rfl)) fun a hf => ?_
    refine qE hf rfl rfl rfl (Pu.ev (pRem rfl rfl (nz_spec hun))) fun a hf => ?_
    refine qE hf rfl rfl rfl (Pu.ev (pIA Try.underlying53 sz_5 rfl rfl qa)) fun a hf => ?_
    refine qE hf rfl rfl rfl (eLd1 sc_5 rfl (cell_pc (j := 0) qp rfl)) fun a hf => ?_
    refine qE hf rfl rfl rfl (Pu.ev (pCv Try.underlying5 Try.underlying3 rfl)) fun a hf => ?_
    refine qE hf rfl rfl rfl (Pu.ev (pA rfl)) fun a hf => ?_
    intro w hc
    refine h5 _ _ ?_
    refine wp_seq_k fun K6 h6 => ?_
    have hj6 : ∀ (b_2 : Int) a w, Has 92 a [(0, .pointer (some ⟨b_, 0, none⟩)), (1, .int .i64 n), (5, .int .i64 b_2)] → Ctx G (.box b_ [.slice s__bytes_p s_.bytes.length s__bytes_c, .int .i64 s_.used, .int .i64 s_.mix] 161 :: Lf) w → kit_Stream_Next_j6 N s_ n b_2 = some res → K6 a w := by
      intro b_2 a w hf hc hF
      unfold kit_Stream_Next_j6 at hF
      refine h6 _ _ ?_
      refine wp_seq_k fun K7 h7 => ?_
      refine cReg ?_
      refine stP hf rfl rfl rfl (pM rfl) fun a hf => ?_
      refine stP hf rfl rfl rfl (pM rfl) fun a hf => ?_
      refine stP hf rfl rfl rfl (pNC rfl) fun a hf => ?_
      refine stP hf rfl rfl rfl (pFA fa_161_2 rfl) fun a hf => ?_
      refine stE hf hc rfl rfl rfl (eLd1 sc_3 rfl (cell_box m0 rfl)) fun a w hf hc => ?_
      refine stP hf rfl rfl rfl (pMul rfl rfl) fun a hf => ?_
      refine stP hf rfl rfl rfl (pM rfl) fun a hf => ?_
      refine stP hf rfl rfl rfl (pAdd rfl rfl) fun a hf => ?_
      refine stP hf rfl rfl rfl (pAdd rfl rfl) fun a hf => ?_
      refine stP hf rfl rfl rfl (pRem rfl rfl (by decide)) fun a hf => ?_
      refine stP hf rfl rfl rfl (pNC rfl) fun a hf => ?_
      refine stP hf rfl rfl rfl (pFA fa_161_2 rfl) fun a hf => ?_
      refine stSt (vs := [.int .i64 ((W ((W ((W (5 * s_.mix)) + b_2)) + 1)).tmod 251)]) hf hc rfl rfl rfl rfl sz_3 rfl rfl u0 fun w hc => ?_
      refine cNil ?_
      refine h7 _ _ ?_
      refine wp_seq_k fun K8 h8 => ?_
      refine cReg ?_
      refine stP hf rfl rfl rfl (pM rfl) fun a hf => ?_
      refine stP hf rfl rfl rfl (pNC rfl) fun a hf => ?_
      refine stP hf rfl rfl rfl (pFA fa_161_1 rfl) fun a hf => ?_
      refine stE hf hc rfl rfl rfl (eLd1 sc_3 rfl (cell_box m0 rfl)) fun a w hf hc => ?_
      refine stP hf rfl rfl rfl (pAdd rfl rfl) fun a hf => ?_
      refine stP hf rfl rfl rfl (pNC rfl) fun a hf => ?_
      refine stP hf rfl rfl rfl (pFA fa_161_1 rfl) fun a hf => ?_
      refine stSt (vs := [.int .i64 (W (s_.used + 1))]) hf hc rfl rfl rfl rfl sz_3 rfl rfl u0 fun w hc => ?_
      refine cNil ?_
      refine h8 _ _ ?_
      refine wp_seq_k fun K9 h9 => ?_
      have hj9 : ∀ (b_3 : Int) a w, Has 92 a [(1, .int .i64 n), (5, .int .i64 b_3)] → Ctx G (.box b_ [.slice s__bytes_p s_.bytes.length s__bytes_c, .int .i64 (W (s_.used + 1)), .int .i64 ((W ((W ((W (5 * s_.mix)) + b_2)) + 1)).tmod 251)] 161 :: Lf) w → kit_Stream_Next_j9 N s_ n b_2 b_3 = some res → K9 a w := by
        intro b_3 a w hf hc hF
        unfold kit_Stream_Next_j9 at hF
        refine h9 _ _ ?_
        refine wp_seq_k fun K10 h10 => ?_
        refine cReg ?_
        refine stP hf rfl rfl rfl (pM rfl) fun a hf => ?_
        refine stP hf rfl rfl rfl (pM rfl) fun a hf => ?_
        obtain ⟨un_1, hun_1, hF⟩ := bnd_some hF
        refine stP hf rfl rfl rfl (pRem rfl rfl (nz_spec hun_1)) fun a hf => ?_
        refine stP hf rfl rfl rfl (pA rfl) fun a hf => ?_
        refine cNil ?_
        refine h10 _ _ ?_
        refine wp_ret ?_
        obtain rfl := Option.some.inj hF
        exact fnOut1 (by simp) rfl Try.results29 hf hc (show look _ 4 = _ from rfl) ⟨rfl, hc⟩
      refine wp_seq_k fun K11 h11 => ?_
      refine cReg ?_
      refine stP hf rfl rfl rfl (pM rfl) fun a hf => ?_
      refine stP hf rfl rfl rfl (pGt rfl rfl) fun a hf => ?_
      refine cNil ?_
      refine h11 _ _ ?_
      refine cCond (b := (decide (256 < n))) hf rfl (fun hb => ?_) (fun hb => ?_)
      · replace hF := condT hb hF
        clear hb
        refine cReg ?_
        refine stP hf rfl rfl rfl (pM rfl) fun a hf => ?_
        refine stP hf rfl rfl rfl (pMul rfl rfl) fun a hf => ?_
        refine stP hf rfl rfl rfl (pM rfl) fun a hf => ?_
        refine stP hf rfl rfl rfl (pNC rfl) fun a hf => ?_
        refine stP hf rfl rfl rfl (pFA fa_161_2 rfl) fun a hf => ?_
        refine stE hf hc rfl rfl rfl (eLd1 sc_3 rfl (cell_box m0 rfl)) fun a w hf hc => ?_
        refine stP hf rfl rfl rfl (pAdd rfl rfl) fun a hf => ?_
        refine stP hf rfl rfl rfl (pA rfl) fun a hf => ?_
        refine cNil ?_
        exact hj9 (W ((W (256 * b_2)) + ((W ((W ((W (5 * s_.mix)) + b_2)) + 1)).tmod 251))) _ _  (hf.keep ⟨rfl, rfl, trivial⟩) hc hF
      · replace hF := condF hb hF
        clear hb
        refine wp_skip ?_
        exact hj9 b_2 _ _  (hf.keep ⟨rfl, rfl, trivial⟩) hc hF
    refine wp_seq_k fun K12 h12 => ?_
    refine cQ hc follows_mx (by kernel_rfl) ?_
    refine qE hf rfl rfl rfl (Pu.ev (pM rfl)) fun a hf => ?_
    refine qE hf rfl rfl rfl (Pu.ev (pNC rfl)) fun a hf => ?_
    refine qE hf rfl rfl rfl (Pu.ev (pFA fa_161_1 rfl)) fun a hf => ?_
    refine qE hf rfl rfl rfl (eLd1 sc_3 rfl (cell_box m0 rfl)) fun a hf => ?_
    refine qE hf rfl rfl rfl (Pu.ev (pM rfl)) fun a hf => ?_
    refine qE hf rfl rfl rfl (Pu.ev (pNC rfl)) fun a hf => ?_
    refine qE hf rfl rfl rfl (Pu.ev (pFA fa_161_0 rfl)) fun a hf => ?_
    refine qE hf rfl rfl rfl (eLd1 sc_53 rfl (cell_box m0 rfl)) fun a hf => ?_
    refine qE hf rfl rfl rfl (Pu.ev (pLenS Try.underlying53 rfl)) fun a hf => ?_
    refine qE hf rfl rfl rfl (Pu.ev (pGe rfl rfl)) fun a hf => ?_
    intro w hc
    refine h12 _ _ ?_
    refine cCond (b := (decide (((s_.bytes.length : Nat) : Int) ≤ s_.used))) hf rfl (fun hb => ?_) (fun hb => ?_)
    · replace hF := condT hb hF
      clear hb
      obtain ⟨un_2, hun_2, hF⟩ := bnd_some hF
      refine cQ hc follows_mx (by kernel_rfl) ?_
      refine qE hf rfl rfl rfl (Pu.ev (pM rfl)) fun a hf => ?_
      refine qE hf rfl rfl rfl (Pu.ev (pM rfl)) fun a hf => ?_
      refine qE hf rfl rfl rfl (Pu.ev (pNC rfl)) fun a hf => ?_
      refine qE hf rfl rfl rfl (Pu.ev (pFA fa_161_2 rfl)) fun a hf => ?_
      refine qE hf rfl rfl rfl (eLd1 sc_3 rfl (cell_box m0 rfl)) fun a hf => ?_
      refine qE hf rfl rfl rfl (Pu.ev (pMul rfl rfl)) fun a hf => ?_
      refine qE hf rfl rfl rfl (Pu.ev (pM rfl)) fun a hf => ?_
      refine qE hf rfl rfl rfl (Pu.ev (pNC rfl)) fun a hf => ?_
      refine qE hf rfl rfl rfl (Pu.ev (pFA fa_161_1 rfl)) fun a hf => ?_
      refine qE hf rfl rfl rfl (eLd1 sc_3 rfl (cell_box m0 rfl)) fun a hf => ?_
      refine qE hf rfl rfl rfl (Pu.ev (pM rfl)) fun a hf => ?_
      refine qE hf rfl rfl rfl (Pu.ev (pNC rfl)) fun a hf => ?_
      refine qE hf rfl rfl rfl (Pu.ev (pFA fa_161_0 rfl)) fun a hf => ?_
      refine qE hf rfl rfl rfl (eLd1 sc_53 rfl (cell_box m0 rfl)) fun a hf => ?_
      refine qE hf rfl rfl rfl (Pu.ev (pLenS Try.underlying53 rfl)) fun a hf => ?_
      refine qE hf rfl rfl rfl (Pu.ev (pQuo rfl rfl (nz_spec hun_2))) fun a hf => ?_
      refine qE hf rfl rfl rfl (Pu.ev (pAdd rfl rfl)) fun a hf => ?_
      refine qE hf rfl rfl rfl (Pu.ev (pAdd rfl rfl)) fun a hf => ?_
      refine qE hf rfl rfl rfl (Pu.ev (pA rfl)) fun a hf => ?_
      intro w hc
      exact hj6 (W ((W (e_1)) + (W ((W (11 * s_.mix)) + (W (s_.used.tdiv ((s_.bytes.length : Nat) : Int))))))) _ _  (hf.keep ⟨rfl, rfl, rfl, trivial⟩) hc hF
    · replace hF := condF hb hF
      clear hb
      refine wp_skip ?_
      exact hj6 (W (e_1)) _ _  (hf.keep ⟨rfl, rfl, rfl, trivial⟩) hc hF

def kit_Stream_Within (N : Nat) (s_ : kit_Stream) (lo : Int) (hi_ : Int) : Option (Int × Int × Int) :=
  Option.bind (kit_Stream_Next N s_ (W ((W (hi_ - lo)) + 1))) fun r =>
  some (W (lo + r.1), r.2.1, r.2.2)
theorem kit_Stream_Within_ok {N : Nat} {G : Pers} {Lf : List Ent} {w : World} (s_ : kit_Stream) (lo : Int) (hi_ : Int) {b_ : Nat} {s__bytes_p : Option Addr} {s__bytes_c : Nat} (h_s__bytes : Rd G 1 s__bytes_p s__bytes_c (s_.bytes.map encI_u8)) (hc : Ctx G (.box b_ [.slice s__bytes_p s_.bytes.length s__bytes_c, .int .i64 s_.used, .int .i64 s_.mix] 161 :: Lf) w) {res : Int × Int × Int} (hF : kit_Stream_Within N s_ lo hi_ = some res) : Calls Try.prog 28 #[.pointer (some ⟨b_, 0, none⟩), .int .i64 lo, .int .i64 hi_] w (fun e w => e = .returned (.int .i64 res.1) ∧ Ctx G (.box b_ [.slice s__bytes_p s_.bytes.length s__bytes_c, .int .i64 res.2.1, .int .i64 res.2.2] 161 :: Lf) w) := by
  unfold kit_Stream_Within at hF
  refine fnIn (args := [.pointer (some ⟨b_, 0, none⟩), .int .i64 lo, .int .i64 hi_]) Try.func28 rfl Try.ntmps28 rfl fun a hf => ?_
  refine wp_seq_k fun K1 h1 => ?_
  refine cReg ?_
  refine stP hf rfl rfl rfl (pA rfl) fun a hf => ?_
  refine cNil ?_
  refine h1 _ _ ?_
  refine wp_seq_k fun K2 h2 => ?_
  refine cReg ?_
  refine stP hf rfl rfl rfl (pM rfl) fun a hf => ?_
  refine stP hf rfl rfl rfl (pM rfl) fun a hf => ?_
  refine stP hf rfl rfl rfl (pM rfl) fun a hf => ?_
  refine stP hf rfl rfl rfl (pM rfl) fun a hf => ?_
  refine stP hf rfl rfl rfl (pSub rfl rfl) fun a hf => ?_
  refine stP hf rfl rfl rfl (pAdd rfl rfl) fun a hf => ?_
  obtain ⟨r, hr, hF⟩ := bnd_some hF
  refine stC (vs := [.pointer (some ⟨b_, 0, none⟩), .int .i64 (W ((W (hi_ - lo)) + 1))]) (caps := []) hf rfl rfl rfl en_29 rfl rfl rfl rfl (kit_Stream_Next_ok s_ (W ((W (hi_ - lo)) + 1)) h_s__bytes (hc.pick k0) hr) ?_
  rintro _ w ⟨rfl, hc⟩
  refine ⟨_, rfl, fun a hf => ?_⟩
  refine stP hf rfl rfl rfl (pAdd rfl rfl) fun a hf => ?_
  refine stP hf rfl rfl rfl (pA rfl) fun a hf => ?_
  refine cNil ?_
  refine h2 _ _ ?_
  refine wp_ret ?_
  obtain rfl := Option.some.inj hF
  exact fnOut1 (by simp) rfl Try.results28 hf hc (show look _ 6 = _ from rfl) ⟨rfl, hc⟩

def law09_Claimed_b5 (N : Nat) (s_ : kit_Stream) (r : Int × Int × Int) (claims : List Int) (x : Int) (b__0 : Int) (b__1 : Int) : Option (Step ((List Int) × Int × Int × Int) ((List Int) × Int × Int × Int × Int)) :=
  cond (decide (x < r.1))
  (Option.bind (kit_Stream_Within N (⟨s_.bytes, b__0, b__1⟩ : kit_Stream) 1 250) fun r_3 =>
  Option.bind (room ((claims ++ [r_3.1])).length) fun un =>
  some (.cont ((claims ++ [r_3.1]), W (x + 1), r_3.2.1, r_3.2.2)))
  (some (.brk (claims, x, b__0, b__1)))
def law09_Claimed (N : Nat) (s_ : kit_Stream) : Option ((List Int) × Int × Int × Int × Int) :=
  Option.bind (kit_Stream_Within N s_ 1 9) fun r =>
  Option.bind (loopO (fun s5 => law09_Claimed_b5 N s_ r s5.1 s5.2.1 s5.2.2.1 s5.2.2.2) N (([] : List Int), 0, r.2.1, r.2.2)) fun x5 =>
  exK x5 (fun s5 => Option.bind (kit_Stream_Within N (⟨s_.bytes, s5.2.2.1, s5.2.2.2⟩ : kit_Stream) ((s5.1.length : Nat) : Int) 120) fun r_1 =>
  Option.bind (kit_Stream_Next N (⟨s_.bytes, r_1.2.1, r_1.2.2⟩ : kit_Stream) 3) fun r_2 =>
  some (s5.1, r_1.1, r_2.1, r_2.2.1, r_2.2.2)) some
theorem law09_Claimed_ok {N : Nat} {G : Pers} {Lf : List Ent} {w : World} (s_ : kit_Stream) {b_ : Nat} {s__bytes_p : Option Addr} {s__bytes_c : Nat} (h_s__bytes : Rd G 1 s__bytes_p s__bytes_c (s_.bytes.map encI_u8)) (hc : Ctx G (.box b_ [.slice s__bytes_p s_.bytes.length s__bytes_c, .int .i64 s_.used, .int .i64 s_.mix] 161 :: Lf) w) {res : (List Int) × Int × Int × Int × Int} (hF : law09_Claimed N s_ = some res) : Calls Try.prog 33 #[.pointer (some ⟨b_, 0, none⟩)] w (fun e w => ∃ (p'1 : Option Addr) (c'1 : Nat), e = .returned (.tuple #[.slice p'1 res.1.length c'1, .int .i64 res.2.1, .int .i64 res.2.2.1]) ∧ Ctx G (.row p'1 c'1 (res.1.map encI_i64) 3 1 :: .box b_ [.slice s__bytes_p s_.bytes.length s__bytes_c, .int .i64 res.2.2.2.1, .int .i64 res.2.2.2.2] 161 :: Lf) w) := by
  unfold law09_Claimed at hF
  refine fnIn (args := [.pointer (some ⟨b_, 0, none⟩)]) Try.func33 rfl Try.ntmps33 rfl fun a hf => ?_
  refine wp_seq_k fun K1 h1 => ?_
  refine cReg ?_
  refine stP hf rfl rfl rfl (pA rfl) fun a hf => ?_
  refine stP hf rfl rfl rfl (pA rfl) fun a hf => ?_
  refine stP hf rfl rfl rfl (pA rfl) fun a hf => ?_
  refine cNil ?_
  refine h1 _ _ ?_
  refine wp_seq_k fun K2 h2 => ?_
  refine cReg ?_
  refine stP hf rfl rfl rfl (pA rfl) fun a hf => ?_
  refine cNil ?_
  refine h2 _ _ ?_
  refine wp_seq_k fun K3 h3 => ?_
  refine wp_seq_k fun K4 h4 => ?_
  refine cReg ?_
  refine stP hf rfl rfl rfl (pM rfl) fun a hf => ?_
  obtain ⟨r, hr, hF⟩ := bnd_some hF
  refine stC (vs := [.pointer (some ⟨b_, 0, none⟩), .int .i64 1, .int .i64 9]) (caps := []) hf rfl rfl rfl en_28 rfl rfl rfl rfl (kit_Stream_Within_ok s_ 1 9 h_s__bytes (hc.pick k0) hr) ?_
  rintro _ w ⟨rfl, hc⟩
  refine ⟨_, rfl, fun a hf => ?_⟩
  refine stP hf rfl rfl rfl (pM rfl) fun a hf => ?_
  refine cNil ?_
  refine h4 _ _ ?_
  refine wp_block ?_
  obtain ⟨x5, hx5, hF⟩ := bnd_some hF
  let S5 : ((List Int) × Int × Int × Int) → Act → World → Prop := (fun (zz : (List Int) × Int × Int × Int) a w => ∃ (p_1 : Option Addr) (c_1 : Nat), Has 23 a [(0, .pointer (some ⟨b_, 0, none⟩)), (5, .slice p_1 zz.1.length c_1), (7, .int .i64 r.1), (8, .int .i64 zz.2.1)] ∧ Ctx G (.row p_1 c_1 (zz.1.map encI_i64) 3 1 :: .box b_ [.slice s__bytes_p s_.bytes.length s__bytes_c, .int .i64 zz.2.2.1, .int .i64 zz.2.2.2] 161 :: Lf) w)
  have hr5 : ∀ (zz : (List Int) × Int × Int × Int) a w, x5 = .go zz → S5 zz a w → K3 a w := by
    rintro ⟨claims, x, b__0, b__1⟩ a w rfl ⟨p_1, c_1, hf, hc⟩
    replace hF : _ = some res := hF
    refine h3 _ _ ?_
    refine wp_seq_k fun K6 h6 => ?_
    refine cReg ?_
    refine stP hf rfl rfl rfl (pM rfl) fun a hf => ?_
    refine stP hf rfl rfl rfl (pM rfl) fun a hf => ?_
    refine stP hf rfl rfl rfl (pM rfl) fun a hf => ?_
    refine stP hf rfl rfl rfl (pLenS Try.underlying36 rfl) fun a hf => ?_
    obtain ⟨r_1, hr_1, hF⟩ := bnd_some hF
    refine stC (vs := [.pointer (some ⟨b_, 0, none⟩), .int .i64 ((claims.length : Nat) : Int), .int .i64 120]) (caps := []) hf rfl rfl rfl en_28 rfl rfl rfl rfl (kit_Stream_Within_ok (⟨s_.bytes, b__0, b__1⟩ : kit_Stream) ((claims.length : Nat) : Int) 120 h_s__bytes (hc.pick k1) hr_1) ?_
    rintro _ w ⟨rfl, hc⟩
    refine ⟨_, rfl, fun a hf => ?_⟩
    refine stP hf rfl rfl rfl (pM rfl) fun a hf => ?_
    obtain ⟨r_2, hr_2, hF⟩ := bnd_some hF
    refine stC (vs := [.pointer (some ⟨b_, 0, none⟩), .int .i64 3]) (caps := []) hf rfl rfl rfl en_29 rfl rfl rfl rfl (kit_Stream_Next_ok (⟨s_.bytes, r_1.2.1, r_1.2.2⟩ : kit_Stream) 3 h_s__bytes (hc.pick k0) hr_2) ?_
    rintro _ w ⟨rfl, hc⟩
    refine ⟨_, rfl, fun a hf => ?_⟩
    refine stP hf rfl rfl rfl (pA rfl) fun a hf => ?_
    refine stP hf rfl rfl rfl (pA rfl) fun a hf => ?_
    refine stP hf rfl rfl rfl (pA rfl) fun a hf => ?_
    refine cNil ?_
    refine h6 _ _ ?_
    refine wp_ret ?_
    obtain rfl := Option.some.inj hF
    replace hc := hc.pick k0
    replace hc := hc.pick k1
    exact fnOut3 (by simp) rfl Try.results33 hf hc (show look _ 2 = _ from rfl) (show look _ 3 = _ from rfl) (show look _ 4 = _ from rfl) ⟨p_1, c_1, rfl, hc⟩
  have ho5 : ∀ r, x5 = .out r → r = res := by
    rintro r rfl
    exact Option.some.inj hF
  replace hc := hc.nilRow 3 1
  refine cLoop N (loopW (S := S5) (x := x5) ?_ N (([] : List Int), 0, r.2.1, r.2.2) _ _ ⟨none, 0, hf.keep ⟨rfl, rfl, rfl, rfl, trivial⟩, hc⟩ hx5)
  clear hF hf hc
  rintro ⟨claims, x, b__0, b__1⟩ st5 a w KB5 ⟨p_1, c_1, hf, hc⟩ hF hfin5 hK5
  unfold law09_Claimed_b5 at hF
  refine wp_seq_k fun K7 h7 => ?_
  refine cReg ?_
  refine stP hf rfl rfl rfl (pLt rfl rfl) fun a hf => ?_
  refine cNil ?_
  refine h7 _ _ ?_
  refine wp_seq_k fun K8 h8 => ?_
  refine cCond (b := (decide (x < r.1))) hf rfl (fun hb => ?_) (fun hb => ?_)
  · replace hF := condT hb hF
    clear hb
    refine wp_skip ?_
    refine h8 _ _ ?_
    refine wp_seq_k fun K9 h9 => ?_
    refine wp_block ?_
    refine cReg ?_
    refine stP hf rfl rfl rfl (pM rfl) fun a hf => ?_
    refine stP hf rfl rfl rfl (pM rfl) fun a hf => ?_
    obtain ⟨r_3, hr_3, hF⟩ := bnd_some hF
    refine stC (vs := [.pointer (some ⟨b_, 0, none⟩), .int .i64 1, .int .i64 250]) (caps := []) hf rfl rfl rfl en_28 rfl rfl rfl rfl (kit_Stream_Within_ok (⟨s_.bytes, b__0, b__1⟩ : kit_Stream) 1 250 h_s__bytes (hc.pick k1) hr_3) ?_
    rintro _ w ⟨rfl, hc⟩
    refine ⟨_, rfl, fun a hf => ?_⟩
    refine stBS (rows := ([r_3.1] : List Int).map encI_i64) (vs := [(0, .int .i64 r_3.1)]) hf hc rfl rfl sl_36 rfl ⟨rfl, rfl, rfl, trivial⟩ rfl rfl fun b_1 a w hf hc => ?_
    obtain ⟨un, hun, hF⟩ := bnd_some hF
    refine stApm (xs := claims) (ys := ([r_3.1] : List Int)) hf hc rfl rfl sl_36 rfl rfl rfl rfl rfl one_encI_i64 (src_row hc m0) (fun _ _ => u2) (by simpa using room_spec hun) fun p_2 c_2 a w hf hc => ?_
    refine stP hf rfl rfl rfl (pA rfl) fun a hf => ?_
    refine cNil ?_
    refine h9 _ _ ?_
    refine cReg ?_
    refine stP hf rfl rfl rfl (pAdd rfl rfl) fun a hf => ?_
    refine stP hf rfl rfl rfl (pM rfl) fun a hf => ?_
    refine cNil ?_
    replace hc := hc.drop k0
    replace hc := hc.pick k0
    replace hc := hc.pick k1
    exact hK5 ((claims ++ [r_3.1]), W (x + 1), r_3.2.1, r_3.2.2) _ _ (Option.some.inj hF).symm ⟨p_2, c_2, hf.keep ⟨rfl, rfl, rfl, rfl, trivial⟩, hc⟩
  · replace hF := condF hb hF
    clear hb
    refine wp_exit ?_
    refine xThen ?_
    refine xThen ?_
    have he := Option.some.inj hF
    rw [← he] at hfin5
    refine cHit ?_
    exact hr5 _ _ _ hfin5 ⟨p_1, c_1, hf.keep ⟨rfl, rfl, rfl, rfl, trivial⟩, hc⟩

def share_in (n : Int) (least : Int) (greatest : Int) : Bool :=
  ((decide (least ≤ n)) && (decide (n ≤ greatest)))
theorem share_in_ok {G : Pers} {Lf : List Ent} {w : World} (n : Int) (least : Int) (greatest : Int)   (hc : Ctx G (Lf) w) {res : Bool} (hF : share_in n least greatest = res) : Calls Try.prog 70 #[.int .i64 n, .int .i64 least, .int .i64 greatest] w (fun e w => e = .returned (.bool res) ∧ Ctx G (Lf) w) := by
  unfold share_in at hF
  refine fnIn (args := [.int .i64 n, .int .i64 least, .int .i64 greatest]) Try.func70 rfl Try.ntmps70 rfl fun a hf => ?_
  refine wp_seq_k fun K1 h1 => ?_
  refine cReg ?_
  refine stP hf rfl rfl rfl (pA rfl) fun a hf => ?_
  refine cNil ?_
  refine h1 _ _ ?_
  refine wp_seq_k fun K2 h2 => ?_
  refine cReg ?_
  refine stP hf rfl rfl rfl (pM rfl) fun a hf => ?_
  refine stP hf rfl rfl rfl (pM rfl) fun a hf => ?_
  refine stP hf rfl rfl rfl (pGe rfl rfl) fun a hf => ?_
  refine stP hf rfl rfl rfl (pM rfl) fun a hf => ?_
  refine stCut 4 (fun a w => Has 15 a [(0, .int .i64 n), (1, .int .i64 least), (2, .int .i64 greatest), (6, .bool false), (7, .int .i64 n), (8, .int .i64 least), (9, .bool (decide (least ≤ n))), (10, .bool (decide (least ≤ n))), (14, .bool ((decide (least ≤ n)) && (decide (n ≤ greatest))))] ∧ Ctx G (Lf) w) ?_ ?_
  · cases hb : (decide (least ≤ n))
    · rw [hb] at hf
      refine stS hf rfl rfl rfl fun a hf => ?_
      refine stS hf rfl rfl rfl fun a hf => ?_
      refine stS hf rfl rfl rfl fun a hf => ?_
      refine stP hf rfl rfl rfl (pPf rfl rfl) fun a hf => ?_
      exact cNil ⟨hf.keep ⟨rfl, rfl, rfl, rfl, rfl, rfl, rfl, rfl, rfl, trivial⟩, hc⟩
    · rw [hb] at hf
      refine stP hf rfl rfl rfl (pM rfl) fun a hf => ?_
      refine stP hf rfl rfl rfl (pM rfl) fun a hf => ?_
      refine stP hf rfl rfl rfl (pLe rfl rfl) fun a hf => ?_
      refine stP hf rfl rfl rfl (pPt rfl rfl) fun a hf => ?_
      exact cNil ⟨hf.keep ⟨rfl, rfl, rfl, rfl, rfl, rfl, rfl, rfl, rfl, trivial⟩, hc⟩
  intro a w ⟨hf, hc⟩
  refine stP hf rfl rfl rfl (pA rfl) fun a hf => ?_
  refine cNil ?_
  refine h2 _ _ ?_
  refine wp_ret ?_
  obtain rfl := hF
  exact fnOut1 (by simp) rfl Try.results70 hf hc (show look _ 6 = _ from rfl) ⟨rfl, hc⟩

def share_claimed_1 (n : Int) : Bool :=
  (share_in n 1 1000000)
theorem share_claimed_1_ok {G : Pers} {Lf : List Ent} {w : World} (n : Int)   (hc : Ctx G (Lf) w) {res : Bool} (hF : share_claimed_1 n = res) : Calls Try.prog 121 #[.int .i64 n] w (fun e w => e = .returned (.bool res) ∧ Ctx G (Lf) w) := by
  unfold share_claimed_1 at hF
  refine fnIn (args := [.int .i64 n]) Try.func121 rfl Try.ntmps121 rfl fun a hf => ?_
  refine wp_seq_k fun K1 h1 => ?_
  refine cReg ?_
  refine stP hf rfl rfl rfl (pA rfl) fun a hf => ?_
  refine cNil ?_
  refine h1 _ _ ?_
  refine wp_seq_k fun K2 h2 => ?_
  refine cReg ?_
  refine stP hf rfl rfl rfl (pM rfl) fun a hf => ?_
  refine stE hf hc rfl rfl rfl (eC (v := .bool (share_in n 1 1000000)) (vs := [.int .i64 n, .int .i64 1, .int .i64 1000000]) (caps := []) en_70 rfl rfl rfl rfl (fun w hc => share_in_ok n 1 1000000 hc rfl)) fun a w hf hc => ?_
  refine stP hf rfl rfl rfl (pA rfl) fun a hf => ?_
  refine cNil ?_
  refine h2 _ _ ?_
  refine wp_ret ?_
  obtain rfl := hF
  exact fnOut1 (by simp) rfl Try.results121 hf hc (show look _ 2 = _ from rfl) ⟨rfl, hc⟩

def share_every_int_1 (x : Int) : Bool :=
  (!(share_claimed_1 x))
theorem share_every_int_1_ok {G : Pers} {Lf : List Ent} {w : World} (x : Int) {b_ : Nat}  (hc : Ctx G (.box b_ [.func (.func 121) #[] #[]] 146 :: Lf) w) {res : Bool} (hF : share_every_int_1 x = res) : Calls Try.prog 120 #[.int .i64 x, .pointer (some ⟨b_, 0, none⟩)] w (fun e w => e = .returned (.bool res) ∧ Ctx G (.box b_ [.func (.func 121) #[] #[]] 146 :: Lf) w) := by
  unfold share_every_int_1 at hF
  refine fnIn (args := [.int .i64 x, .pointer (some ⟨b_, 0, none⟩)]) Try.func120 rfl Try.ntmps120 rfl fun a hf => ?_
  refine wp_seq_k fun K1 h1 => ?_
  refine cReg ?_
  refine stP hf rfl rfl rfl (pA rfl) fun a hf => ?_
  refine cNil ?_
  refine h1 _ _ ?_
  refine wp_seq_k fun K2 h2 => ?_
  refine cReg ?_
  refine stE hf hc rfl rfl rfl (eLd1 sc_146 rfl (cell_box m0 rfl)) fun a w hf hc => ?_
  refine stP hf rfl rfl rfl (pM rfl) fun a hf => ?_
  refine stE hf hc rfl rfl rfl (eC (v := .bool (share_claimed_1 x)) (vs := [.int .i64 x]) (caps := []) en_121 rfl rfl rfl rfl (fun w hc => share_claimed_1_ok x hc rfl)) fun a w hf hc => ?_
  refine stP hf rfl rfl rfl (pNot rfl) fun a hf => ?_
  refine stP hf rfl rfl rfl (pA rfl) fun a hf => ?_
  refine cNil ?_
  refine h2 _ _ ?_
  refine wp_ret ?_
  obtain rfl := hF
  exact fnOut1 (by simp) rfl Try.results120 hf hc (show look _ 3 = _ from rfl) ⟨rfl, hc⟩

def slices_IndexFunc_Lint_int_b4 (N : Nat) (s_ : List Int) (x : Int) : Option (Step (Int) (Int)) :=
  cond (decide (x < ((s_.length : Nat) : Int)))
  (Option.bind (getI s_ x) fun e_1 =>
  cond (share_every_int_1 e_1)
  (some (.ret x))
  (some (.cont (W (x + 1)))))
  (some (.brk x))
def slices_IndexFunc_Lint_int (N : Nat) (s_ : List Int) : Option (Int) :=
  Option.bind (loopO (fun s4 => slices_IndexFunc_Lint_int_b4 N s_ s4) N 0) fun x4 =>
  exK x4 (fun s4 => some (-1)) some
theorem slices_IndexFunc_Lint_int_ok {N : Nat} {G : Pers} {Lf : List Ent} {w : World} (s_ : List Int) {s__p : Option Addr} {s__c : Nat} {b_ : Nat} (h_s_ : Rd G 1 s__p s__c (s_.map encI_i64)) (hc : Ctx G (.box b_ [.func (.func 121) #[] #[]] 146 :: Lf) w) {res : Int} (hF : slices_IndexFunc_Lint_int N s_ = some res) : Calls Try.prog 145 #[.slice s__p s_.length s__c, .func (.func 120) #[] #[.pointer (some ⟨b_, 0, none⟩)]] w (fun e w => e = .returned (.int .i64 res) ∧ Ctx G (.box b_ [.func (.func 121) #[] #[]] 146 :: Lf) w) := by
  unfold slices_IndexFunc_Lint_int at hF
  refine fnIn (args := [.slice s__p s_.length s__c, .func (.func 120) #[] #[.pointer (some ⟨b_, 0, none⟩)]]) Try.func145 rfl Try.ntmps145 rfl fun a hf => ?_
  refine wp_seq_k fun K1 h1 => ?_
  refine cReg ?_
  refine stP hf rfl rfl rfl (pA rfl) fun a hf => ?_
  refine cNil ?_
  refine h1 _ _ ?_
  refine wp_seq_k fun K2 h2 => ?_
  refine wp_seq_k fun K3 h3 => ?_
  refine cReg ?_
  refine stP hf rfl rfl rfl (pM rfl) fun a hf => ?_
  refine stP hf rfl rfl rfl (pLenS Try.underlying36 rfl) fun a hf => ?_
  refine stP hf rfl rfl rfl (pM rfl) fun a hf => ?_
  refine cNil ?_
  refine h3 _ _ ?_
  refine wp_block ?_
  obtain ⟨x4, hx4, hF⟩ := bnd_some hF
  let S4 : Int → Act → World → Prop := (fun (zz : Int) a w => Has 19 a [(0, .slice s__p s_.length s__c), (1, .func (.func 120) #[] #[.pointer (some ⟨b_, 0, none⟩)]), (7, .int .i64 ((s_.length : Nat) : Int)), (8, .int .i64 zz)] ∧ Ctx G (.box b_ [.func (.func 121) #[] #[]] 146 :: Lf) w)
  have hr4 : ∀ (zz : Int) a w, x4 = .go zz → S4 zz a w → K2 a w := by
    rintro x a w rfl ⟨hf, hc⟩
    replace hF : _ = some res := hF
    refine h2 _ _ ?_
    refine wp_seq_k fun K5 h5 => ?_
    refine cReg ?_
    refine stP hf rfl rfl rfl (pA rfl) fun a hf => ?_
    refine cNil ?_
    refine h5 _ _ ?_
    refine wp_ret ?_
    obtain rfl := Option.some.inj hF
    exact fnOut1 (by simp) rfl Try.results145 hf hc (show look _ 4 = _ from rfl) ⟨rfl, hc⟩
  have ho4 : ∀ r, x4 = .out r → r = res := by
    rintro r rfl
    exact Option.some.inj hF
  refine cLoop N (loopW (S := S4) (x := x4) ?_ N 0 _ _ ⟨hf.keep ⟨rfl, rfl, rfl, rfl, trivial⟩, hc⟩ hx4)
  clear hF hf hc
  rintro x st4 a w KB4 ⟨hf, hc⟩ hF hfin4 hK4
  unfold slices_IndexFunc_Lint_int_b4 at hF
  refine wp_seq_k fun K6 h6 => ?_
  refine cReg ?_
  refine stP hf rfl rfl rfl (pLt rfl rfl) fun a hf => ?_
  refine cNil ?_
  refine h6 _ _ ?_
  refine wp_seq_k fun K7 h7 => ?_
  refine cCond (b := (decide (x < ((s_.length : Nat) : Int)))) hf rfl (fun hb => ?_) (fun hb => ?_)
  · replace hF := condT hb hF
    clear hb
    refine wp_skip ?_
    refine h7 _ _ ?_
    refine wp_seq_k fun K8 h8 => ?_
    refine wp_block ?_
    refine wp_seq_k fun K9 h9 => ?_
    refine cReg ?_
    refine stP hf rfl rfl rfl (pM rfl) fun a hf => ?_
    refine stP hf rfl rfl rfl (pA rfl) fun a hf => ?_
    refine cNil ?_
    refine h9 _ _ ?_
    refine wp_seq_k fun K10 h10 => ?_
    refine cReg ?_
    refine stP hf rfl rfl rfl (pM rfl) fun a hf => ?_
    refine stP hf rfl rfl rfl (pM rfl) fun a hf => ?_
    refine stP hf rfl rfl rfl (pM rfl) fun a hf => ?_
    obtain ⟨e_1, he_1, hF⟩ := bnd_some hF
    obtain ⟨b_1, o, qa, qp⟩ := h_s_.atm he_1
    refine stP hf rfl rfl rfl (pIA Try.underlying36 sz_3 rfl rfl qa) fun a hf => ?_
    refine stE hf hc rfl rfl rfl (eLd1 sc_3 rfl (cell_pc (j := 0) qp rfl)) fun a w hf hc => ?_
    refine stE hf hc rfl rfl rfl (eC (v := .bool (share_every_int_1 e_1)) (vs := [.int .i64 e_1]) (caps := [.pointer (some ⟨b_, 0, none⟩)]) en_120 rfl rfl rfl rfl (fun w hc => (share_every_int_1_ok e_1 (hc.pick k0) rfl).mono fun e w h => ⟨h.1, (h.2.unpick k0)⟩)) fun a w hf hc => ?_
    refine cNil ?_
    refine h10 _ _ ?_
    refine cCond (b := (share_every_int_1 e_1)) hf rfl (fun hb => ?_) (fun hb => ?_)
    · replace hF := condT hb hF
      clear hb
      refine wp_seq_k fun K11 h11 => ?_
      refine cReg ?_
      refine stP hf rfl rfl rfl (pM rfl) fun a hf => ?_
      refine stP hf rfl rfl rfl (pA rfl) fun a hf => ?_
      refine cNil ?_
      refine h11 _ _ ?_
      refine wp_ret ?_
      refine xBlkR ?_
      refine xThenR ?_
      refine xThenR ?_
      have he := Option.some.inj hF
      rw [← he] at hfin4
      replace hF := ho4 _ hfin4
      refine xBlkR ?_
      refine xThenR ?_
      obtain rfl := hF
      exact fnOut1 (by simp) rfl Try.results145 hf hc (show look _ 4 = _ from rfl) ⟨rfl, hc⟩
    · replace hF := condF hb hF
      clear hb
      refine wp_skip ?_
      refine h8 _ _ ?_
      refine cReg ?_
      refine stP hf rfl rfl rfl (pAdd rfl rfl) fun a hf => ?_
      refine stP hf rfl rfl rfl (pM rfl) fun a hf => ?_
      refine cNil ?_
      exact hK4 (W (x + 1)) _ _ (Option.some.inj hF).symm ⟨hf.keep ⟨rfl, rfl, rfl, rfl, trivial⟩, hc⟩
  · replace hF := condF hb hF
    clear hb
    refine wp_exit ?_
    refine xThen ?_
    refine xThen ?_
    have he := Option.some.inj hF
    rw [← he] at hfin4
    refine cHit ?_
    exact hr4 _ _ _ hfin4 ⟨hf.keep ⟨rfl, rfl, rfl, rfl, trivial⟩, hc⟩

def slices_ContainsFunc_Lint_int (N : Nat) (s_ : List Int) : Option (Bool) :=
  Option.bind (slices_IndexFunc_Lint_int N s_) fun r =>
  some (decide (0 ≤ r))
theorem slices_ContainsFunc_Lint_int_ok {N : Nat} {G : Pers} {Lf : List Ent} {w : World} (s_ : List Int) {s__p : Option Addr} {s__c : Nat} {b_ : Nat} (h_s_ : Rd G 1 s__p s__c (s_.map encI_i64)) (hc : Ctx G (.box b_ [.func (.func 121) #[] #[]] 146 :: Lf) w) {res : Bool} (hF : slices_ContainsFunc_Lint_int N s_ = some res) : Calls Try.prog 119 #[.slice s__p s_.length s__c, .func (.func 120) #[] #[.pointer (some ⟨b_, 0, none⟩)]] w (fun e w => e = .returned (.bool res) ∧ Ctx G (.box b_ [.func (.func 121) #[] #[]] 146 :: Lf) w) := by
  unfold slices_ContainsFunc_Lint_int at hF
  refine fnIn (args := [.slice s__p s_.length s__c, .func (.func 120) #[] #[.pointer (some ⟨b_, 0, none⟩)]]) Try.func119 rfl Try.ntmps119 rfl fun a hf => ?_
  refine wp_seq_k fun K1 h1 => ?_
  refine cReg ?_
  refine stP hf rfl rfl rfl (pA rfl) fun a hf => ?_
  refine cNil ?_
  refine h1 _ _ ?_
  refine wp_seq_k fun K2 h2 => ?_
  refine cReg ?_
  refine stP hf rfl rfl rfl (pM rfl) fun a hf => ?_
  refine stP hf rfl rfl rfl (pM rfl) fun a hf => ?_
  obtain ⟨r, hr, hF⟩ := bnd_some hF
  refine stE hf hc rfl rfl rfl (eC (v := .int .i64 r) (vs := [.slice s__p s_.length s__c, .func (.func 120) #[] #[.pointer (some ⟨b_, 0, none⟩)]]) (caps := []) en_145 rfl rfl rfl rfl (fun w hc => (slices_IndexFunc_Lint_int_ok s_ h_s_ (hc.pick k0) hr).mono fun e w h => ⟨h.1, (h.2.unpick k0)⟩)) fun a w hf hc => ?_
  refine stP hf rfl rfl rfl (pGe rfl rfl) fun a hf => ?_
  refine stP hf rfl rfl rfl (pA rfl) fun a hf => ?_
  refine cNil ?_
  refine h2 _ _ ?_
  refine wp_ret ?_
  obtain rfl := Option.some.inj hF
  exact fnOut1 (by simp) rfl Try.results119 hf hc (show look _ 4 = _ from rfl) ⟨rfl, hc⟩

def share_every_int (N : Nat) (l : List Int) : Option (Bool) :=
  Option.bind (slices_ContainsFunc_Lint_int N l) fun r =>
  some (!r)
theorem share_every_int_ok {N : Nat} {G : Pers} {Lf : List Ent} {w : World} (l : List Int) {l_p : Option Addr} {l_c : Nat} (h_l : Rd G 1 l_p l_c (l.map encI_i64)) (hc : Ctx G (Lf) w) {res : Bool} (hF : share_every_int N l = some res) : Calls Try.prog 80 #[.slice l_p l.length l_c, .func (.func 121) #[] #[]] w (fun e w => e = .returned (.bool res) ∧ Ctx G (Lf) w) := by
  unfold share_every_int at hF
  refine fnIn (args := [.slice l_p l.length l_c, .func (.func 121) #[] #[]]) Try.func80 rfl Try.ntmps80 rfl fun a hf => ?_
  refine wp_seq_k fun K1 h1 => ?_
  refine cReg ?_
  refine stBx (cs := [.func (.func 121) #[] #[]]) hf hc rfl rfl rfl rfl fun b_1 a w hf hc => ?_
  refine stP hf rfl rfl rfl (pA rfl) fun a hf => ?_
  refine cNil ?_
  refine h1 _ _ ?_
  refine wp_seq_k fun K2 h2 => ?_
  refine cReg ?_
  refine stP hf rfl rfl rfl (pM rfl) fun a hf => ?_
  refine stP hf rfl rfl rfl (pMF (us := [.pointer (some ⟨b_1, 0, none⟩)]) rfl rfl) fun a hf => ?_
  obtain ⟨r, hr, hF⟩ := bnd_some hF
  refine stE hf hc rfl rfl rfl (eC (v := .bool r) (vs := [.slice l_p l.length l_c, .func (.func 120) #[] #[.pointer (some ⟨b_1, 0, none⟩)]]) (caps := []) en_119 rfl rfl rfl rfl (fun w hc => (slices_ContainsFunc_Lint_int_ok l h_l (hc.pick k0) hr).mono fun e w h => ⟨h.1, (h.2.unpick k0)⟩)) fun a w hf hc => ?_
  refine stP hf rfl rfl rfl (pNot rfl) fun a hf => ?_
  refine stP hf rfl rfl rfl (pA rfl) fun a hf => ?_
  refine cNil ?_
  refine h2 _ _ ?_
  refine wp_ret ?_
  obtain rfl := Option.some.inj hF
  replace hc := hc.drop k0
  exact fnOut1 (by simp) rfl Try.results80 hf hc (show look _ 4 = _ from rfl) ⟨rfl, hc⟩

def share_claimed (N : Nat) (claims : List Int) : Option (Int) :=
  cond (!(share_in ((claims.length : Nat) : Int) 1 12))
  (some 3)
  (Option.bind (share_every_int N claims) fun r =>
  cond (!r)
  (some 4)
  (some 0))
theorem share_claimed_ok {N : Nat} {G : Pers} {Lf : List Ent} {w : World} (claims : List Int) {claims_p : Option Addr} {claims_c : Nat} (h_claims : Rd G 1 claims_p claims_c (claims.map encI_i64)) (hc : Ctx G (Lf) w) {res : Int} (hF : share_claimed N claims = some res) : Calls Try.prog 81 #[.slice claims_p claims.length claims_c] w (fun e w => e = .returned (.int .i64 res) ∧ Ctx G (Lf) w) := by
  unfold share_claimed at hF
  refine fnIn (args := [.slice claims_p claims.length claims_c]) Try.func81 rfl Try.ntmps81 rfl fun a hf => ?_
  refine wp_seq_k fun K1 h1 => ?_
  refine cReg ?_
  refine stP hf rfl rfl rfl (pA rfl) fun a hf => ?_
  refine cNil ?_
  refine h1 _ _ ?_
  refine wp_seq_k fun K2 h2 => ?_
  refine wp_block ?_
  refine wp_seq_k fun K3 h3 => ?_
  refine cReg ?_
  refine stP hf rfl rfl rfl (pM rfl) fun a hf => ?_
  refine stP hf rfl rfl rfl (pLenS Try.underlying36 rfl) fun a hf => ?_
  refine stE hf hc rfl rfl rfl (eC (v := .bool (share_in ((claims.length : Nat) : Int) 1 12)) (vs := [.int .i64 ((claims.length : Nat) : Int), .int .i64 1, .int .i64 12]) (caps := []) en_70 rfl rfl rfl rfl (fun w hc => share_in_ok ((claims.length : Nat) : Int) 1 12 hc rfl)) fun a w hf hc => ?_
  refine stP hf rfl rfl rfl (pNot rfl) fun a hf => ?_
  refine stP hf rfl rfl rfl (pA rfl) fun a hf => ?_
  refine cNil ?_
  refine h3 _ _ ?_
  refine cCond (b := (!(share_in ((claims.length : Nat) : Int) 1 12))) hf rfl (fun hb => ?_) (fun hb => ?_)
  · replace hF := condT hb hF
    clear hb
    refine wp_seq_k fun K4 h4 => ?_
    refine cReg ?_
    refine stP hf rfl rfl rfl (pA rfl) fun a hf => ?_
    refine cNil ?_
    refine h4 _ _ ?_
    refine wp_ret ?_
    refine xBlkR ?_
    refine xThenR ?_
    obtain rfl := Option.some.inj hF
    exact fnOut1 (by simp) rfl Try.results81 hf hc (show look _ 2 = _ from rfl) ⟨rfl, hc⟩
  · replace hF := condF hb hF
    clear hb
    refine wp_seq_k fun K5 h5 => ?_
    refine cReg ?_
    refine stP hf rfl rfl rfl (pM rfl) fun a hf => ?_
    obtain ⟨r, hr, hF⟩ := bnd_some hF
    refine stE hf hc rfl rfl rfl (eC (v := .bool r) (vs := [.slice claims_p claims.length claims_c, .func (.func 121) #[] #[]]) (caps := []) en_80 rfl rfl rfl rfl (fun w hc => share_every_int_ok claims h_claims hc hr)) fun a w hf hc => ?_
    refine stP hf rfl rfl rfl (pNot rfl) fun a hf => ?_
    refine stP hf rfl rfl rfl (pA rfl) fun a hf => ?_
    refine cNil ?_
    refine h5 _ _ ?_
    refine cCond (b := (!r)) hf rfl (fun hb => ?_) (fun hb => ?_)
    · replace hF := condT hb hF
      clear hb
      refine wp_seq_k fun K6 h6 => ?_
      refine cReg ?_
      refine stP hf rfl rfl rfl (pA rfl) fun a hf => ?_
      refine cNil ?_
      refine h6 _ _ ?_
      refine wp_ret ?_
      refine xBlkR ?_
      refine xThenR ?_
      obtain rfl := Option.some.inj hF
      exact fnOut1 (by simp) rfl Try.results81 hf hc (show look _ 2 = _ from rfl) ⟨rfl, hc⟩
    · replace hF := condF hb hF
      clear hb
      refine wp_skip ?_
      refine h2 _ _ ?_
      refine wp_seq_k fun K7 h7 => ?_
      refine cReg ?_
      refine stP hf rfl rfl rfl (pA rfl) fun a hf => ?_
      refine cNil ?_
      refine h7 _ _ ?_
      refine wp_ret ?_
      obtain rfl := Option.some.inj hF
      exact fnOut1 (by simp) rfl Try.results81 hf hc (show look _ 2 = _ from rfl) ⟨rfl, hc⟩

def share_Rule_right (r : Int) : Bool :=
  ((decide (0 ≤ r)) && (decide (r ≤ 2)))
theorem share_Rule_right_ok {G : Pers} {Lf : List Ent} {w : World} (r : Int)   (hc : Ctx G (Lf) w) {res : Bool} (hF : share_Rule_right r = res) : Calls Try.prog 82 #[.int .i64 r] w (fun e w => e = .returned (.bool res) ∧ Ctx G (Lf) w) := by
  unfold share_Rule_right at hF
  refine fnIn (args := [.int .i64 r]) Try.func82 rfl Try.ntmps82 rfl fun a hf => ?_
  refine wp_seq_k fun K1 h1 => ?_
  refine cReg ?_
  refine stP hf rfl rfl rfl (pA rfl) fun a hf => ?_
  refine cNil ?_
  refine h1 _ _ ?_
  refine wp_seq_k fun K2 h2 => ?_
  refine cReg ?_
  refine stP hf rfl rfl rfl (pM rfl) fun a hf => ?_
  refine stP hf rfl rfl rfl (pGe rfl rfl) fun a hf => ?_
  refine stP hf rfl rfl rfl (pM rfl) fun a hf => ?_
  refine stCut 3 (fun a w => Has 9 a [(0, .int .i64 r), (2, .bool false), (3, .int .i64 r), (4, .bool (decide (0 ≤ r))), (5, .bool (decide (0 ≤ r))), (8, .bool ((decide (0 ≤ r)) && (decide (r ≤ 2))))] ∧ Ctx G (Lf) w) ?_ ?_
  · cases hb : (decide (0 ≤ r))
    · rw [hb] at hf
      refine stS hf rfl rfl rfl fun a hf => ?_
      refine stS hf rfl rfl rfl fun a hf => ?_
      refine stP hf rfl rfl rfl (pPf rfl rfl) fun a hf => ?_
      exact cNil ⟨hf.keep ⟨rfl, rfl, rfl, rfl, rfl, rfl, trivial⟩, hc⟩
    · rw [hb] at hf
      refine stP hf rfl rfl rfl (pM rfl) fun a hf => ?_
      refine stP hf rfl rfl rfl (pLe rfl rfl) fun a hf => ?_
      refine stP hf rfl rfl rfl (pPt rfl rfl) fun a hf => ?_
      exact cNil ⟨hf.keep ⟨rfl, rfl, rfl, rfl, rfl, rfl, trivial⟩, hc⟩
  intro a w ⟨hf, hc⟩
  refine stP hf rfl rfl rfl (pA rfl) fun a hf => ?_
  refine cNil ?_
  refine h2 _ _ ?_
  refine wp_ret ?_
  obtain rfl := hF
  exact fnOut1 (by simp) rfl Try.results82 hf hc (show look _ 2 = _ from rfl) ⟨rfl, hc⟩

def share_Rule_day (N : Nat) (r : Int) (claim : Int) (n : Int) : Option (share_quotient) :=
  cond (r == 0)
  (some (⟨W (2 * claim), W (2 * n)⟩ : share_quotient))
  (cond (r == 1)
  (some (⟨W (2 * claim), W ((W (2 * n)) - 1)⟩ : share_quotient))
  (some (⟨W (2 * claim), W ((W (2 * n)) - 2)⟩ : share_quotient)))
theorem share_Rule_day_ok {N : Nat} {G : Pers} {Lf : List Ent} {w : World} (r : Int) (claim : Int) (n : Int)   (hc : Ctx G (Lf) w) {res : share_quotient} (hF : share_Rule_day N r claim n = some res) : Calls Try.prog 83 #[.int .i64 r, .int .i64 claim, .int .i64 n] w (fun e w => e = .returned (.agg #[.int .i64 res.claim, .int .i64 res.by_]) ∧ Ctx G (Lf) w) := by
  unfold share_Rule_day at hF
  refine fnIn (args := [.int .i64 r, .int .i64 claim, .int .i64 n]) Try.func83 rfl Try.ntmps83 rfl fun a hf => ?_
  refine wp_seq_k fun K1 h1 => ?_
  refine cReg ?_
  refine stAl (cs := [.int .i64 0, .int .i64 0]) hf hc rfl rfl zr_165 rfl fun b_1 a w hf hc => ?_
  refine cNil ?_
  refine h1 _ _ ?_
  refine wp_seq_k fun K2 h2 => ?_
  refine wp_seq_k fun K3 h3 => ?_
  refine cReg ?_
  refine stP hf rfl rfl rfl (pM rfl) fun a hf => ?_
  refine cNil ?_
  refine h3 _ _ ?_
  refine wp_block ?_
  refine wp_seq_k fun K4 h4 => ?_
  refine cReg ?_
  refine stP hf rfl rfl rfl (pEq rfl rfl) fun a hf => ?_
  refine stP hf rfl rfl rfl (pA rfl) fun a hf => ?_
  refine cNil ?_
  refine h4 _ _ ?_
  refine cCond (b := (r == 0)) hf rfl (fun hb => ?_) (fun hb => ?_)
  · replace hF := condT hb hF
    clear hb
    refine wp_seq_k fun K5 h5 => ?_
    refine cReg ?_
    refine stP hf rfl rfl rfl (pM rfl) fun a hf => ?_
    refine stP hf rfl rfl rfl (pMul rfl rfl) fun a hf => ?_
    refine stP hf rfl rfl rfl (pM rfl) fun a hf => ?_
    refine stP hf rfl rfl rfl (pMul rfl rfl) fun a hf => ?_
    refine stP hf rfl rfl rfl (pBuildS (cells := [.int .i64 (W (2 * claim)), .int .i64 (W (2 * n))]) bt_165 rfl rfl) fun a hf => ?_
    refine stSt (vs := [.int .i64 (W (2 * claim)), .int .i64 (W (2 * n))]) hf hc rfl rfl rfl rfl sz_165 rfl rfl u0 fun w hc => ?_
    refine cNil ?_
    refine h5 _ _ ?_
    refine wp_ret ?_
    refine xBlkR ?_
    refine xThenR ?_
    obtain rfl := Option.some.inj hF
    exact fnOut1 (by simp) rfl Try.results83 hf hc (rv_cellN (vs := [.int .i64 (W (2 * claim)), .int .i64 (W (2 * n))]) ag_165 rfl rfl (cells_box (n := 2) m0 rfl)) ⟨rfl, (hc.drop k0)⟩
  · replace hF := condF hb hF
    clear hb
    refine wp_seq_k fun K6 h6 => ?_
    refine cReg ?_
    refine stP hf rfl rfl rfl (pEq rfl rfl) fun a hf => ?_
    refine stP hf rfl rfl rfl (pA rfl) fun a hf => ?_
    refine cNil ?_
    refine h6 _ _ ?_
    refine cCond (b := (r == 1)) hf rfl (fun hb => ?_) (fun hb => ?_)
    · replace hF := condT hb hF
      clear hb
      refine wp_seq_k fun K7 h7 => ?_
      refine cReg ?_
      refine stP hf rfl rfl rfl (pM rfl) fun a hf => ?_
      refine stP hf rfl rfl rfl (pMul rfl rfl) fun a hf => ?_
      refine stP hf rfl rfl rfl (pM rfl) fun a hf => ?_
      refine stP hf rfl rfl rfl (pMul rfl rfl) fun a hf => ?_
      refine stP hf rfl rfl rfl (pSub rfl rfl) fun a hf => ?_
      refine stP hf rfl rfl rfl (pBuildS (cells := [.int .i64 (W (2 * claim)), .int .i64 (W ((W (2 * n)) - 1))]) bt_165 rfl rfl) fun a hf => ?_
      refine stSt (vs := [.int .i64 (W (2 * claim)), .int .i64 (W ((W (2 * n)) - 1))]) hf hc rfl rfl rfl rfl sz_165 rfl rfl u0 fun w hc => ?_
      refine cNil ?_
      refine h7 _ _ ?_
      refine wp_ret ?_
      refine xBlkR ?_
      refine xThenR ?_
      obtain rfl := Option.some.inj hF
      exact fnOut1 (by simp) rfl Try.results83 hf hc (rv_cellN (vs := [.int .i64 (W (2 * claim)), .int .i64 (W ((W (2 * n)) - 1))]) ag_165 rfl rfl (cells_box (n := 2) m0 rfl)) ⟨rfl, (hc.drop k0)⟩
    · replace hF := condF hb hF
      clear hb
      refine wp_skip ?_
      refine h2 _ _ ?_
      refine wp_seq_k fun K8 h8 => ?_
      refine cReg ?_
      refine stP hf rfl rfl rfl (pM rfl) fun a hf => ?_
      refine stP hf rfl rfl rfl (pMul rfl rfl) fun a hf => ?_
      refine stP hf rfl rfl rfl (pM rfl) fun a hf => ?_
      refine stP hf rfl rfl rfl (pMul rfl rfl) fun a hf => ?_
      refine stP hf rfl rfl rfl (pSub rfl rfl) fun a hf => ?_
      refine stP hf rfl rfl rfl (pBuildS (cells := [.int .i64 (W (2 * claim)), .int .i64 (W ((W (2 * n)) - 2))]) bt_165 rfl rfl) fun a hf => ?_
      refine stSt (vs := [.int .i64 (W (2 * claim)), .int .i64 (W ((W (2 * n)) - 2))]) hf hc rfl rfl rfl rfl sz_165 rfl rfl u0 fun w hc => ?_
      refine cNil ?_
      refine h8 _ _ ?_
      refine wp_ret ?_
      obtain rfl := Option.some.inj hF
      exact fnOut1 (by simp) rfl Try.results83 hf hc (rv_cellN (vs := [.int .i64 (W (2 * claim)), .int .i64 (W ((W (2 * n)) - 2))]) ag_165 rfl rfl (cells_box (n := 2) m0 rfl)) ⟨rfl, (hc.drop k0)⟩

def share_quotient_more (q : share_quotient) (r : share_quotient) : Bool :=
  (decide ((W (r.claim * q.by_)) < (W (q.claim * r.by_))))
theorem share_quotient_more_ok {G : Pers} {Lf : List Ent} {w : World} (q : share_quotient) (r : share_quotient)   (hc : Ctx G (Lf) w) {res : Bool} (hF : share_quotient_more q r = res) : Calls Try.prog 84 #[.agg #[.int .i64 q.claim, .int .i64 q.by_], .agg #[.int .i64 r.claim, .int .i64 r.by_]] w (fun e w => e = .returned (.bool res) ∧ Ctx G (Lf) w) := by
  unfold share_quotient_more at hF
  refine fnIn (args := [.agg #[.int .i64 q.claim, .int .i64 q.by_], .agg #[.int .i64 r.claim, .int .i64 r.by_]]) Try.func84 rfl Try.ntmps84 rfl fun a hf => ?_
  refine wp_seq_k fun K1 h1 => ?_
  refine cReg ?_
  refine stBx (cs := [.int .i64 q.claim, .int .i64 q.by_]) hf hc rfl rfl rfl rfl fun b_1 a w hf hc => ?_
  refine stBx (cs := [.int .i64 r.claim, .int .i64 r.by_]) hf hc rfl rfl rfl rfl fun b_2 a w hf hc => ?_
  refine stP hf rfl rfl rfl (pA rfl) fun a hf => ?_
  refine cNil ?_
  refine h1 _ _ ?_
  refine wp_seq_k fun K2 h2 => ?_
  refine cReg ?_
  refine stP hf rfl rfl rfl (pFA fa_165_0 rfl) fun a hf => ?_
  refine stE hf hc rfl rfl rfl (eLd1 sc_3 rfl (cell_box m1 rfl)) fun a w hf hc => ?_
  refine stP hf rfl rfl rfl (pFA fa_165_1 rfl) fun a hf => ?_
  refine stE hf hc rfl rfl rfl (eLd1 sc_3 rfl (cell_box m0 rfl)) fun a w hf hc => ?_
  refine stP hf rfl rfl rfl (pMul rfl rfl) fun a hf => ?_
  refine stP hf rfl rfl rfl (pFA fa_165_0 rfl) fun a hf => ?_
  refine stE hf hc rfl rfl rfl (eLd1 sc_3 rfl (cell_box m0 rfl)) fun a w hf hc => ?_
  refine stP hf rfl rfl rfl (pFA fa_165_1 rfl) fun a hf => ?_
  refine stE hf hc rfl rfl rfl (eLd1 sc_3 rfl (cell_box m1 rfl)) fun a w hf hc => ?_
  refine stP hf rfl rfl rfl (pMul rfl rfl) fun a hf => ?_
  refine stP hf rfl rfl rfl (pGt rfl rfl) fun a hf => ?_
  refine stP hf rfl rfl rfl (pA rfl) fun a hf => ?_
  refine cNil ?_
  refine h2 _ _ ?_
  refine wp_ret ?_
  obtain rfl := hF
  replace hc := hc.drop k1
  replace hc := hc.drop k0
  exact fnOut1 (by simp) rfl Try.results84 hf hc (show look _ 4 = _ from rfl) ⟨rfl, hc⟩

def share_Turns_j26 (N : Nat) (x_1 : Int) (who_1 : Int) (x_4 : Int) (x_5 : Int) : Option (Step (Int × Int × Int × Int) (Step ((List Int) × Int) ((List Int) × Int))) :=
  some (.cont (who_1, W (x_1 + 1), x_4, x_5))
def share_Turns_b23 (N : Nat) (claims : List Int) (rule : Int) (out : List Int) (who : Int) (x_1 : Int) (x_2 : Int) (x_3 : Int) : Option (Step (Int × Int × Int × Int) (Step ((List Int) × Int) ((List Int) × Int))) :=
  cond (decide (x_1 < ((claims.length : Nat) : Int)))
  (Option.bind (getI claims x_1) fun e_5 =>
  Option.bind (getI out x_1) fun e_6 =>
  Option.bind (share_Rule_day N rule e_5 (W (e_6 + 1))) fun r_2 =>
  cond ((!(r_2.claim == x_2 && r_2.by_ == x_3)) && (share_quotient_more r_2 (⟨x_2, x_3⟩ : share_quotient)))
  (share_Turns_j26 N x_1 x_1 r_2.claim r_2.by_)
  (share_Turns_j26 N x_1 who x_2 x_3))
  (some (.brk (who, x_1, x_2, x_3)))
def share_Turns_b15 (N : Nat) (claims : List Int) (days : Int) (rule : Int) (out : List Int) (x : Int) : Option (Step ((List Int) × Int) ((List Int) × Int)) :=
  cond (decide (x < days))
  (Option.bind (getI claims 0) fun e_1 =>
  Option.bind (getI out 0) fun e_2 =>
  Option.bind (share_Rule_day N rule e_1 (W (e_2 + 1))) fun r_1 =>
  Option.bind (loopO (fun s23 => share_Turns_b23 N claims rule out s23.1 s23.2.1 s23.2.2.1 s23.2.2.2) N (0, 0, r_1.claim, r_1.by_)) fun x23 =>
  exK x23 (fun s23 => Option.bind (getI out s23.1) fun e_3 =>
  Option.bind (getI out s23.1) fun e_4 =>
  some (.cont ((out.set s23.1.toNat (W (e_3 + 1))), W (x + 1)))) some)
  (some (.brk (out, x)))
def share_Turns (N : Nat) (claims : List Int) (days : Int) (rule : Int) : Option ((List Int) × Int) :=
  Option.bind (share_claimed N claims) fun r =>
  cond (r != 0)
  (some (([] : List Int), r))
  (cond (!(share_in days 1 366))
  (some (([] : List Int), 4))
  (cond (!(share_Rule_right rule))
  (some (([] : List Int), 2))
  (cond ((rule == 2) && (decide (days < ((claims.length : Nat) : Int))))
  (some (([] : List Int), 6))
  (Option.bind (inM ((claims.length : Nat) : Int)) fun un =>
  Option.bind (loopO (fun s15 => share_Turns_b15 N claims days rule s15.1 s15.2) N ((List.replicate ((claims.length : Nat) : Int).toNat (0 : Int)), 0)) fun x15 =>
  exK x15 (fun s15 => some (s15.1, 0)) some))))
theorem share_Turns_ok {N : Nat} {G : Pers} {Lf : List Ent} {w : World} (claims : List Int) (days : Int) (rule : Int) {claims_p : Option Addr} {claims_c : Nat} (h_claims : Rd G 1 claims_p claims_c (claims.map encI_i64)) (hc : Ctx G (Lf) w) {res : (List Int) × Int} (hF : share_Turns N claims days rule = some res) : Calls Try.prog 34 #[.slice claims_p claims.length claims_c, .int .i64 days, .int .i64 rule] w (fun e w => ∃ (p'1 : Option Addr) (c'1 : Nat), e = .returned (.tuple #[.slice p'1 res.1.length c'1, .int .i64 res.2]) ∧ Ctx G (.row p'1 c'1 (res.1.map encI_i64) 3 1 :: Lf) w) := by
  unfold share_Turns at hF
  refine fnIn (args := [.slice claims_p claims.length claims_c, .int .i64 days, .int .i64 rule]) Try.func34 rfl Try.ntmps34 rfl fun a hf => ?_
  refine wp_seq_k fun K1 h1 => ?_
  refine cReg ?_
  refine stP hf rfl rfl rfl (pA rfl) fun a hf => ?_
  refine stP hf rfl rfl rfl (pA rfl) fun a hf => ?_
  refine cNil ?_
  refine h1 _ _ ?_
  refine wp_seq_k fun K2 h2 => ?_
  refine cReg ?_
  refine stP hf rfl rfl rfl (pM rfl) fun a hf => ?_
  obtain ⟨r, hr, hF⟩ := bnd_some hF
  refine stE hf hc rfl rfl rfl (eC (v := .int .i64 r) (vs := [.slice claims_p claims.length claims_c]) (caps := []) en_81 rfl rfl rfl rfl (fun w hc => share_claimed_ok claims h_claims hc hr)) fun a w hf hc => ?_
  refine stP hf rfl rfl rfl (pA rfl) fun a hf => ?_
  refine cNil ?_
  refine h2 _ _ ?_
  refine wp_seq_k fun K3 h3 => ?_
  refine wp_block ?_
  refine wp_seq_k fun K4 h4 => ?_
  refine cReg ?_
  refine stP hf rfl rfl rfl (pM rfl) fun a hf => ?_
  refine stP hf rfl rfl rfl (pNe rfl rfl) fun a hf => ?_
  refine stP hf rfl rfl rfl (pA rfl) fun a hf => ?_
  refine cNil ?_
  refine h4 _ _ ?_
  refine cCond (b := (r != 0)) hf rfl (fun hb => ?_) (fun hb => ?_)
  · replace hF := condT hb hF
    clear hb
    refine wp_seq_k fun K5 h5 => ?_
    refine cReg ?_
    refine stP hf rfl rfl rfl (pM rfl) fun a hf => ?_
    refine stP hf rfl rfl rfl (pA rfl) fun a hf => ?_
    refine stP hf rfl rfl rfl (pA rfl) fun a hf => ?_
    refine cNil ?_
    refine h5 _ _ ?_
    refine wp_ret ?_
    refine xBlkR ?_
    refine xThenR ?_
    obtain rfl := Option.some.inj hF
    replace hc := hc.nilRow 3 1
    exact fnOut2 (by simp) rfl Try.results34 hf hc (show look _ 6 = _ from rfl) (show look _ 7 = _ from rfl) ⟨none, 0, rfl, hc⟩
  · replace hF := condF hb hF
    clear hb
    refine wp_seq_k fun K6 h6 => ?_
    refine cReg ?_
    refine stP hf rfl rfl rfl (pM rfl) fun a hf => ?_
    refine stE hf hc rfl rfl rfl (eC (v := .bool (share_in days 1 366)) (vs := [.int .i64 days, .int .i64 1, .int .i64 366]) (caps := []) en_70 rfl rfl rfl rfl (fun w hc => share_in_ok days 1 366 hc rfl)) fun a w hf hc => ?_
    refine stP hf rfl rfl rfl (pNot rfl) fun a hf => ?_
    refine stP hf rfl rfl rfl (pA rfl) fun a hf => ?_
    refine cNil ?_
    refine h6 _ _ ?_
    refine cCond (b := (!(share_in days 1 366))) hf rfl (fun hb => ?_) (fun hb => ?_)
    · replace hF := condT hb hF
      clear hb
      refine wp_seq_k fun K7 h7 => ?_
      refine cReg ?_
      refine stP hf rfl rfl rfl (pA rfl) fun a hf => ?_
      refine stP hf rfl rfl rfl (pA rfl) fun a hf => ?_
      refine cNil ?_
      refine h7 _ _ ?_
      refine wp_ret ?_
      refine xBlkR ?_
      refine xThenR ?_
      obtain rfl := Option.some.inj hF
      replace hc := hc.nilRow 3 1
      exact fnOut2 (by simp) rfl Try.results34 hf hc (show look _ 6 = _ from rfl) (show look _ 7 = _ from rfl) ⟨none, 0, rfl, hc⟩
    · replace hF := condF hb hF
      clear hb
      refine wp_seq_k fun K8 h8 => ?_
      refine cReg ?_
      refine stP hf rfl rfl rfl (pM rfl) fun a hf => ?_
      refine stE hf hc rfl rfl rfl (eC (v := .bool (share_Rule_right rule)) (vs := [.int .i64 rule]) (caps := []) en_82 rfl rfl rfl rfl (fun w hc => share_Rule_right_ok rule hc rfl)) fun a w hf hc => ?_
      refine stP hf rfl rfl rfl (pNot rfl) fun a hf => ?_
      refine stP hf rfl rfl rfl (pA rfl) fun a hf => ?_
      refine cNil ?_
      refine h8 _ _ ?_
      refine cCond (b := (!(share_Rule_right rule))) hf rfl (fun hb => ?_) (fun hb => ?_)
      · replace hF := condT hb hF
        clear hb
        refine wp_seq_k fun K9 h9 => ?_
        refine cReg ?_
        refine stP hf rfl rfl rfl (pA rfl) fun a hf => ?_
        refine stP hf rfl rfl rfl (pA rfl) fun a hf => ?_
        refine cNil ?_
        refine h9 _ _ ?_
        refine wp_ret ?_
        refine xBlkR ?_
        refine xThenR ?_
        obtain rfl := Option.some.inj hF
        replace hc := hc.nilRow 3 1
        exact fnOut2 (by simp) rfl Try.results34 hf hc (show look _ 6 = _ from rfl) (show look _ 7 = _ from rfl) ⟨none, 0, rfl, hc⟩
      · replace hF := condF hb hF
        clear hb
        refine wp_seq_k fun K10 h10 => ?_
        refine cReg ?_
        refine stP hf rfl rfl rfl (pM rfl) fun a hf => ?_
        refine stP hf rfl rfl rfl (pEq rfl rfl) fun a hf => ?_
        refine stP hf rfl rfl rfl (pM rfl) fun a hf => ?_
        refine stCut 5 (fun a w => Has 87 a [(0, .slice claims_p claims.length claims_c), (1, .int .i64 days), (2, .int .i64 rule), (30, .int .i64 rule), (31, .bool (rule == 2)), (32, .bool (rule == 2)), (37, .bool ((rule == 2) && (decide (days < ((claims.length : Nat) : Int)))))] ∧ Ctx G (Lf) w) ?_ ?_
        · cases hb : (rule == 2)
          · rw [hb] at hf
            refine stS hf rfl rfl rfl fun a hf => ?_
            refine stS hf rfl rfl rfl fun a hf => ?_
            refine stS hf rfl rfl rfl fun a hf => ?_
            refine stS hf rfl rfl rfl fun a hf => ?_
            refine stP hf rfl rfl rfl (pPf rfl rfl) fun a hf => ?_
            exact cNil ⟨hf.keep ⟨rfl, rfl, rfl, rfl, rfl, rfl, rfl, trivial⟩, hc⟩
          · rw [hb] at hf
            refine stP hf rfl rfl rfl (pM rfl) fun a hf => ?_
            refine stP hf rfl rfl rfl (pM rfl) fun a hf => ?_
            refine stP hf rfl rfl rfl (pLenS Try.underlying36 rfl) fun a hf => ?_
            refine stP hf rfl rfl rfl (pLt rfl rfl) fun a hf => ?_
            refine stP hf rfl rfl rfl (pPt rfl rfl) fun a hf => ?_
            exact cNil ⟨hf.keep ⟨rfl, rfl, rfl, rfl, rfl, rfl, rfl, trivial⟩, hc⟩
        intro a w ⟨hf, hc⟩
        refine stP hf rfl rfl rfl (pA rfl) fun a hf => ?_
        refine cNil ?_
        refine h10 _ _ ?_
        refine cCond (b := ((rule == 2) && (decide (days < ((claims.length : Nat) : Int))))) hf rfl (fun hb => ?_) (fun hb => ?_)
        · replace hF := condT hb hF
          clear hb
          refine wp_seq_k fun K11 h11 => ?_
          refine cReg ?_
          refine stP hf rfl rfl rfl (pA rfl) fun a hf => ?_
          refine stP hf rfl rfl rfl (pA rfl) fun a hf => ?_
          refine cNil ?_
          refine h11 _ _ ?_
          refine wp_ret ?_
          refine xBlkR ?_
          refine xThenR ?_
          obtain rfl := Option.some.inj hF
          replace hc := hc.nilRow 3 1
          exact fnOut2 (by simp) rfl Try.results34 hf hc (show look _ 6 = _ from rfl) (show look _ 7 = _ from rfl) ⟨none, 0, rfl, hc⟩
        · replace hF := condF hb hF
          clear hb
          refine wp_skip ?_
          refine h3 _ _ ?_
          refine wp_seq_k fun K12 h12 => ?_
          refine cReg ?_
          refine stP hf rfl rfl rfl (pM rfl) fun a hf => ?_
          refine stP hf rfl rfl rfl (pLenS Try.underlying36 rfl) fun a hf => ?_
          obtain ⟨un, hun, hF⟩ := bnd_some hF
          refine stMk (m := (List.replicate ((claims.length : Nat) : Int).toNat (0 : Int)).length) (rows := (List.replicate ((claims.length : Nat) : Int).toNat (0 : Int)).map encI_i64) hf hc rfl rfl sl_36 rfl rfl (inM_spec hun) rfl rfl (by simp [List.map_replicate, Value.cells]) (by simp) fun b_1 a w hf hc => ?_
          refine stP hf rfl rfl rfl (pA rfl) fun a hf => ?_
          refine cNil ?_
          refine h12 _ _ ?_
          refine wp_seq_k fun K13 h13 => ?_
          refine wp_seq_k fun K14 h14 => ?_
          refine cReg ?_
          refine stP hf rfl rfl rfl (pM rfl) fun a hf => ?_
          refine stP hf rfl rfl rfl (pM rfl) fun a hf => ?_
          refine cNil ?_
          refine h14 _ _ ?_
          refine wp_block ?_
          obtain ⟨x15, hx15, hF⟩ := bnd_some hF
          let S15 : ((List Int) × Int) → Act → World → Prop := (fun (zz : (List Int) × Int) a w => ∃ (p_1 : Option Addr) (c_1 : Nat), Has 87 a [(0, .slice claims_p claims.length claims_c), (2, .int .i64 rule), (9, .slice p_1 zz.1.length c_1), (41, .int .i64 days), (42, .int .i64 zz.2)] ∧ Ctx G (.row p_1 c_1 (zz.1.map encI_i64) 3 1 :: Lf) w)
          have hr15 : ∀ (zz : (List Int) × Int) a w, x15 = .go zz → S15 zz a w → K13 a w := by
            rintro ⟨out, x⟩ a w rfl ⟨p_1, c_1, hf, hc⟩
            replace hF : _ = some res := hF
            refine h13 _ _ ?_
            refine wp_seq_k fun K16 h16 => ?_
            refine cReg ?_
            refine stP hf rfl rfl rfl (pM rfl) fun a hf => ?_
            refine stP hf rfl rfl rfl (pA rfl) fun a hf => ?_
            refine stP hf rfl rfl rfl (pA rfl) fun a hf => ?_
            refine cNil ?_
            refine h16 _ _ ?_
            refine wp_ret ?_
            obtain rfl := Option.some.inj hF
            exact fnOut2 (by simp) rfl Try.results34 hf hc (show look _ 6 = _ from rfl) (show look _ 7 = _ from rfl) ⟨p_1, c_1, rfl, hc⟩
          have ho15 : ∀ r, x15 = .out r → r = res := by
            rintro r rfl
            exact Option.some.inj hF
          refine cLoop N (loopW (S := S15) (x := x15) ?_ N ((List.replicate ((claims.length : Nat) : Int).toNat (0 : Int)), 0) _ _ ⟨(some ⟨b_1, 0, none⟩), ((claims.length : Nat) : Int).toNat, hf.keep ⟨rfl, rfl, rfl, rfl, rfl, trivial⟩, hc⟩ hx15)
          clear hF hf hc
          rintro ⟨out, x⟩ st15 a w KB15 ⟨p_1, c_1, hf, hc⟩ hF hfin15 hK15
          unfold share_Turns_b15 at hF
          refine wp_seq_k fun K17 h17 => ?_
          refine cReg ?_
          refine stP hf rfl rfl rfl (pLt rfl rfl) fun a hf => ?_
          refine cNil ?_
          refine h17 _ _ ?_
          refine wp_seq_k fun K18 h18 => ?_
          refine cCond (b := (decide (x < days))) hf rfl (fun hb => ?_) (fun hb => ?_)
          · replace hF := condT hb hF
            clear hb
            refine wp_skip ?_
            refine h18 _ _ ?_
            refine wp_seq_k fun K19 h19 => ?_
            refine wp_block ?_
            refine wp_seq_k fun K20 h20 => ?_
            obtain ⟨e_1, he_1, hF⟩ := bnd_some hF
            obtain ⟨b_2, o, qa, qp⟩ := h_claims.atm he_1
            obtain ⟨e_2, he_2, hF⟩ := bnd_some hF
            obtain ⟨g, rfl, qa_1, qr⟩ := row_atm hc m0 he_2
            obtain ⟨r_1, hr_1, hF⟩ := bnd_some hF
            replace hc := hc.nilRow 0 0
            refine regionE (fun θ => [⟨none, none, 0, .slice claims_p claims.length claims_c⟩, ⟨none, none, 2, .int .i64 rule⟩, ⟨none, none, 9, .slice (some ⟨g, 0, none⟩) out.length c_1⟩, ⟨none, none, 41, .int .i64 days⟩, ⟨none, none, 42, .int .i64 x⟩, ⟨some 0, none, 44, .int .i64 rule⟩, ⟨some 1, none, 45, .slice claims_p claims.length claims_c⟩, ⟨some 2, none, 46, .pointer (some ⟨b_2, o, none⟩)⟩, ⟨some 3, none, 47, .int .i64 e_1⟩, ⟨some 4, none, 48, .slice (some ⟨g, 0, none⟩) out.length c_1⟩, ⟨some 5, none, 49, .pointer (some ⟨g, (0 : Int).toNat * 1, none⟩)⟩, ⟨some 6, none, 50, .int .i64 e_2⟩, ⟨some 7, none, 51, .int .i64 (W (e_2 + 1))⟩, ⟨some 8, none, 52, .agg #[.int .i64 r_1.claim, .int .i64 r_1.by_]⟩, ⟨some 9, none, 11, .pointer (some ⟨(θ 72).b, 0, none⟩)⟩, ⟨some 10, none, 10, .int .i64 0⟩]) (fun E θ => (bif E 11 then .box (θ 72).b [.int .i64 r_1.claim, .int .i64 r_1.by_] 165 else bif E 9 then .box (θ 72).b [.int .i64 0, .int .i64 0] 165 else .row none 0 [] 0 0) :: .row (some ⟨g, 0, none⟩) c_1 (out.map encI_i64) 3 1 :: Lf) [(11, 9)] (fun a w => ∃ (b_4 : Nat), Has 87 a [(0, .slice claims_p claims.length claims_c), (2, .int .i64 rule), (9, .slice (some ⟨g, 0, none⟩) out.length c_1), (41, .int .i64 days), (42, .int .i64 x), (11, .pointer (some ⟨b_4, 0, none⟩)), (10, .int .i64 0)] ∧ Ctx G (.box b_4 [.int .i64 r_1.claim, .int .i64 r_1.by_] 165 :: .row (some ⟨g, 0, none⟩) c_1 (out.map encI_i64) 3 1 :: Lf) w) follows_mx (by kernel_rfl) (by kernel_rfl) (HasE.of hf ⟨rfl, rfl, rfl, rfl, rfl, trivial, trivial, trivial, trivial, trivial, trivial, trivial, trivial, trivial, trivial, trivial, trivial⟩) hc ⟨?_, ?_, ?_, ?_, ?_, ?_, ?_, ?_, ?_, ?_, ?_, ?_, trivial⟩ ?_ ?_
            · intro E θ a w hD hi hp he hc
              have hf := he.h0
              replace hf := hf.more he 1 rfl onT
              refine stP hf rfl rfl rfl (pM rfl) fun a hf => ?_
              refine cNil ?_
              refine xThenN ?_
              intro ds u hau
              refine ⟨θ, he.put0 hi hau hf rfl 5 rfl rfl, ?_⟩
              exact hc
            · intro E θ a w hD hi hp he hc
              have hf := he.h0
              replace hf := hf.more he 0 rfl onT
              refine stP hf rfl rfl rfl (pM rfl) fun a hf => ?_
              refine cNil ?_
              refine xThenN ?_
              intro ds u hau
              refine ⟨θ, he.put0 hi hau hf rfl 6 rfl rfl, ?_⟩
              exact hc
            · intro E θ a w hD hi hp he hc
              have e1 := hp.of (k := 1) rfl
              have hf := he.h0
              replace hf := hf.more he 6 rfl (onP e1)
              refine stP hf rfl rfl rfl (pIA Try.underlying36 sz_3 rfl rfl qa) fun a hf => ?_
              refine cNil ?_
              refine xThenN ?_
              intro ds u hau
              refine ⟨θ, he.put0 hi hau hf rfl 7 rfl rfl, ?_⟩
              exact hc
            · intro E θ a w hD hi hp he hc
              have e2 := hp.of (k := 2) rfl
              have hf := he.h0
              replace hf := hf.more he 7 rfl (onP e2)
              refine stE hf hc rfl rfl rfl (eLd1 sc_3 rfl (cell_pc (j := 0) qp rfl)) fun a w hf hc => ?_
              refine cNil ?_
              refine xThenN ?_
              intro ds u hau
              refine ⟨θ, he.put0 hi hau hf rfl 8 rfl rfl, ?_⟩
              exact hc
            · intro E θ a w hD hi hp he hc
              have hf := he.h0
              replace hf := hf.more he 2 rfl onT
              refine stP hf rfl rfl rfl (pM rfl) fun a hf => ?_
              refine cNil ?_
              refine xThenN ?_
              intro ds u hau
              refine ⟨θ, he.put0 hi hau hf rfl 9 rfl rfl, ?_⟩
              exact hc
            · intro E θ a w hD hi hp he hc
              have e4 := hp.of (k := 4) rfl
              have hf := he.h0
              replace hf := hf.more he 9 rfl (onP e4)
              refine stP hf rfl rfl rfl (pIA Try.underlying36 sz_3 rfl rfl qa_1) fun a hf => ?_
              refine cNil ?_
              refine xThenN ?_
              intro ds u hau
              refine ⟨θ, he.put0 hi hau hf rfl 10 rfl rfl, ?_⟩
              exact hc
            · intro E θ a w hD hi hp he hc
              have e5 := hp.of (k := 5) rfl
              have hf := he.h0
              replace hf := hf.more he 10 rfl (onP e5)
              refine stE hf hc rfl rfl rfl (eLd1 sc_3 rfl (cell_row (sz := 1) (i := (0 : Int).toNat) (j := 0) m1 qr rfl)) fun a w hf hc => ?_
              refine cNil ?_
              refine xThenN ?_
              intro ds u hau
              refine ⟨θ, he.put0 hi hau hf rfl 11 rfl rfl, ?_⟩
              exact hc
            · intro E θ a w hD hi hp he hc
              have e6 := hp.of (k := 6) rfl
              have hf := he.h0
              replace hf := hf.more he 11 rfl (onP e6)
              refine stP hf rfl rfl rfl (pAdd rfl rfl) fun a hf => ?_
              refine cNil ?_
              refine xThenN ?_
              intro ds u hau
              refine ⟨θ, he.put0 hi hau hf rfl 12 rfl rfl, ?_⟩
              exact hc
            · intro E θ a w hD hi hp he hc
              have e0 := hp.of (k := 0) rfl
              have e3 := hp.of (k := 3) rfl
              have e7 := hp.of (k := 7) rfl
              have hf := he.h0
              replace hf := hf.more he 5 rfl (onP e0)
              replace hf := hf.more he 8 rfl (onP e3)
              replace hf := hf.more he 12 rfl (onP e7)
              refine stE hf hc rfl rfl rfl (eC (v := .agg #[.int .i64 r_1.claim, .int .i64 r_1.by_]) (vs := [.int .i64 rule, .int .i64 e_1, .int .i64 (W (e_2 + 1))]) (caps := []) en_83 rfl rfl rfl rfl (fun w hc => share_Rule_day_ok rule e_1 (W (e_2 + 1)) hc hr_1)) fun a w hf hc => ?_
              refine cNil ?_
              refine xThenN ?_
              intro ds u hau
              refine ⟨θ, he.put0 hi hau hf rfl 13 rfl rfl, ?_⟩
              exact hc
            · intro E θ a w hD hi hp he hc
              have e11 := hD.f 0 rfl hi
              try dsimp only at hc
              rw [hi, e11] at hc
              have hf := he.h0
              refine stAl (cs := [.int .i64 0, .int .i64 0]) hf hc rfl rfl zr_165 rfl fun b_3 a w hf hc => ?_
              refine cNil ?_
              refine xThenN ?_
              intro ds u hau
              replace hc := hc.drop k1
              refine ⟨(setT θ 72 ⟨b_3, none, 0⟩), he.put hi hau hf rfl [] trivial ⟨qq, qq, qq, qq, qq, qq, qq, qq, qq, qq, qq, qq, qq, qq, qq, qq, trivial⟩, ?_⟩
              try dsimp only
              rw [updE_self E 9, updE_fls 9 e11 rfl]
              exact hc
            · intro E θ a w hD hi hp he hc
              have hf := he.h0
              refine stP hf rfl rfl rfl (pA rfl) fun a hf => ?_
              refine cNil ?_
              refine xThenN ?_
              intro ds u hau
              refine ⟨θ, he.put0 hi hau hf rfl 15 rfl rfl, ?_⟩
              exact hc
            · intro E θ a w hD hi hp he hc
              have e8 := hp.of (k := 8) rfl
              have e9 := hp.of (k := 9) rfl
              try dsimp only at hc
              rw [e9, hi] at hc
              have hf := he.h0
              replace hf := hf.more he 13 rfl (onP e8)
              replace hf := hf.more he 14 rfl (onP e9)
              refine stSt (vs := [.int .i64 r_1.claim, .int .i64 r_1.by_]) hf hc rfl rfl rfl rfl sz_165 rfl rfl u0 fun w hc => ?_
              refine cNil ?_
              refine xThenN ?_
              intro ds u hau
              refine ⟨θ, he.stay0 hi hau hf rfl, ?_⟩
              try dsimp only
              rw [updE_tru 11 e9, updE_self E 11]
              exact hc
            · intro E θ a w hall he hc
              have hf := he.h0
              have e9 := hall 9 rfl
              have e10 := hall 10 rfl
              have e11 := hall 11 rfl
              replace hf := hf.more he 15 rfl (onP e10)
              replace hf := hf.more he 14 rfl (onP e9)
              replace hf := hf.more he 4 rfl (onT)
              replace hf := hf.more he 3 rfl (onT)
              replace hf := hf.more he 2 rfl (onT)
              replace hf := hf.more he 1 rfl (onT)
              replace hf := hf.more he 0 rfl (onT)
              try dsimp only at hc
              rw [e9, e11] at hc
              exact ⟨(θ 72).b, hf.keep ⟨rfl, rfl, rfl, rfl, rfl, rfl, rfl, trivial⟩, hc⟩
            rintro a w ⟨b_4, hf, hc⟩
            refine h20 _ _ ?_
            refine wp_seq_k fun K21 h21 => ?_
            refine wp_seq_k fun K22 h22 => ?_
            refine cReg ?_
            refine stP hf rfl rfl rfl (pM rfl) fun a hf => ?_
            refine stP hf rfl rfl rfl (pLenS Try.underlying36 rfl) fun a hf => ?_
            refine stP hf rfl rfl rfl (pM rfl) fun a hf => ?_
            refine cNil ?_
            refine h22 _ _ ?_
            refine wp_block ?_
            obtain ⟨x23, hx23, hF⟩ := bnd_some hF
            let S23 : (Int × Int × Int × Int) → Act → World → Prop := (fun (zz : Int × Int × Int × Int) a w => Has 87 a [(0, .slice claims_p claims.length claims_c), (2, .int .i64 rule), (9, .slice (some ⟨g, 0, none⟩) out.length c_1), (10, .int .i64 zz.1), (11, .pointer (some ⟨b_4, 0, none⟩)), (41, .int .i64 days), (42, .int .i64 x), (53, .slice claims_p claims.length claims_c), (54, .int .i64 ((claims.length : Nat) : Int)), (55, .int .i64 zz.2.1)] ∧ Ctx G (.box b_4 [.int .i64 zz.2.2.1, .int .i64 zz.2.2.2] 165 :: .row (some ⟨g, 0, none⟩) c_1 (out.map encI_i64) 3 1 :: Lf) w)
            have hr23 : ∀ (zz : Int × Int × Int × Int) a w, x23 = .go zz → S23 zz a w → K21 a w := by
              rintro ⟨who, x_1, x_2, x_3⟩ a w rfl ⟨hf, hc⟩
              replace hF : _ = some st15 := hF
              refine h21 _ _ ?_
              refine cReg ?_
              refine stP hf rfl rfl rfl (pM rfl) fun a hf => ?_
              refine stP hf rfl rfl rfl (pM rfl) fun a hf => ?_
              obtain ⟨e_3, he_3, hF⟩ := bnd_some hF
              obtain ⟨qa_2, qr_1⟩ := row_atk hc m1 he_3
              refine stP hf rfl rfl rfl (pIA Try.underlying36 sz_3 rfl rfl qa_2) fun a hf => ?_
              refine stE hf hc rfl rfl rfl (eLd1 sc_3 rfl (cell_row (sz := 1) (i := who.toNat) (j := 0) m1 qr_1 rfl)) fun a w hf hc => ?_
              refine stP hf rfl rfl rfl (pAdd rfl rfl) fun a hf => ?_
              obtain ⟨e_4, he_4, hF⟩ := bnd_some hF
              obtain ⟨qa_3, qr_2⟩ := row_atk hc m1 he_4
              refine stP hf rfl rfl rfl (pIA Try.underlying36 sz_3 rfl rfl qa_3) fun a hf => ?_
              refine stRw (vs := [.int .i64 (W (e_3 + 1))]) (o' := 0) (z := W (e_3 + 1)) (xs := out) hf hc rfl rfl rfl rfl sz_3 rfl (fun x => (one_encI_i64 x).1) (getI_lt he_4) (fun _ _ => rfl) rfl u1 fun w hc => ?_
              refine cNil ?_
              refine h19 _ _ ?_
              refine cReg ?_
              refine stP hf rfl rfl rfl (pAdd rfl rfl) fun a hf => ?_
              refine stP hf rfl rfl rfl (pM rfl) fun a hf => ?_
              refine cNil ?_
              rw [(by simp : out.length = (out.set who.toNat (W (e_3 + 1))).length)] at hf
              replace hc := hc.drop k0
              exact hK15 ((out.set who.toNat (W (e_3 + 1))), W (x + 1)) _ _ (Option.some.inj hF).symm ⟨(some ⟨g, 0, none⟩), c_1, hf.keep ⟨rfl, rfl, rfl, rfl, rfl, trivial⟩, hc⟩
            have ho23 : ∀ r, x23 = .out r → r = st15 := by
              rintro r rfl
              exact Option.some.inj hF
            refine cLoop N (loopW (S := S23) (x := x23) ?_ N (0, 0, r_1.claim, r_1.by_) _ _ ⟨hf.keep ⟨rfl, rfl, rfl, rfl, rfl, rfl, rfl, rfl, rfl, rfl, trivial⟩, hc⟩ hx23)
            clear hF hf hc
            rintro ⟨who, x_1, x_2, x_3⟩ st23 a w KB23 ⟨hf, hc⟩ hF hfin23 hK23
            unfold share_Turns_b23 at hF
            refine wp_seq_k fun K24 h24 => ?_
            refine cReg ?_
            refine stP hf rfl rfl rfl (pLt rfl rfl) fun a hf => ?_
            refine cNil ?_
            refine h24 _ _ ?_
            refine wp_seq_k fun K25 h25 => ?_
            refine cCond (b := (decide (x_1 < ((claims.length : Nat) : Int)))) hf rfl (fun hb => ?_) (fun hb => ?_)
            · replace hF := condT hb hF
              clear hb
              refine wp_skip ?_
              refine h25 _ _ ?_
              refine wp_seq_k fun K26 h26 => ?_
              have hj26 : ∀ (who_1 : Int) (x_4 : Int) (x_5 : Int) a w, Has 87 a [(0, .slice claims_p claims.length claims_c), (2, .int .i64 rule), (9, .slice (some ⟨g, 0, none⟩) out.length c_1), (10, .int .i64 who_1), (11, .pointer (some ⟨b_4, 0, none⟩)), (41, .int .i64 days), (42, .int .i64 x), (53, .slice claims_p claims.length claims_c), (54, .int .i64 ((claims.length : Nat) : Int)), (55, .int .i64 x_1)] → Ctx G (.box b_4 [.int .i64 x_4, .int .i64 x_5] 165 :: .row (some ⟨g, 0, none⟩) c_1 (out.map encI_i64) 3 1 :: Lf) w → share_Turns_j26 N x_1 who_1 x_4 x_5 = some st23 → K26 a w := by
                intro who_1 x_4 x_5 a w hf hc hF
                unfold share_Turns_j26 at hF
                refine h26 _ _ ?_
                refine cReg ?_
                refine stP hf rfl rfl rfl (pAdd rfl rfl) fun a hf => ?_
                refine stP hf rfl rfl rfl (pM rfl) fun a hf => ?_
                refine cNil ?_
                exact hK23 (who_1, W (x_1 + 1), x_4, x_5) _ _ (Option.some.inj hF).symm ⟨hf.keep ⟨rfl, rfl, rfl, rfl, rfl, rfl, rfl, rfl, rfl, rfl, trivial⟩, hc⟩
              refine wp_block ?_
              refine wp_seq_k fun K27 h27 => ?_
              refine cReg ?_
              refine stP hf rfl rfl rfl (pM rfl) fun a hf => ?_
              obtain ⟨e_5, he_5, hF⟩ := bnd_some hF
              obtain ⟨b_5, o_1, qa_4, qp_1⟩ := h_claims.atm he_5
              refine stP hf rfl rfl rfl (pIA Try.underlying36 sz_3 rfl rfl qa_4) fun a hf => ?_
              refine stE hf hc rfl rfl rfl (eLd1 sc_3 rfl (cell_pc (j := 0) qp_1 rfl)) fun a w hf hc => ?_
              refine stP hf rfl rfl rfl (pA rfl) fun a hf => ?_
              refine stP hf rfl rfl rfl (pA rfl) fun a hf => ?_
              refine cNil ?_
              refine h27 _ _ ?_
              refine wp_seq_k fun K28 h28 => ?_
              refine cReg ?_
              refine stP hf rfl rfl rfl (pM rfl) fun a hf => ?_
              refine stP hf rfl rfl rfl (pM rfl) fun a hf => ?_
              refine stP hf rfl rfl rfl (pM rfl) fun a hf => ?_
              refine stP hf rfl rfl rfl (pM rfl) fun a hf => ?_
              obtain ⟨e_6, he_6, hF⟩ := bnd_some hF
              obtain ⟨qa_5, qr_3⟩ := row_atk hc m1 he_6
              refine stP hf rfl rfl rfl (pIA Try.underlying36 sz_3 rfl rfl qa_5) fun a hf => ?_
              refine stE hf hc rfl rfl rfl (eLd1 sc_3 rfl (cell_row (sz := 1) (i := x_1.toNat) (j := 0) m1 qr_3 rfl)) fun a w hf hc => ?_
              refine stP hf rfl rfl rfl (pAdd rfl rfl) fun a hf => ?_
              obtain ⟨r_2, hr_2, hF⟩ := bnd_some hF
              refine stE hf hc rfl rfl rfl (eC (v := .agg #[.int .i64 r_2.claim, .int .i64 r_2.by_]) (vs := [.int .i64 rule, .int .i64 e_5, .int .i64 (W (e_6 + 1))]) (caps := []) en_83 rfl rfl rfl rfl (fun w hc => share_Rule_day_ok rule e_5 (W (e_6 + 1)) hc hr_2)) fun a w hf hc => ?_
              refine stAl (cs := [.int .i64 0, .int .i64 0]) hf hc rfl rfl zr_165 rfl fun b_6 a w hf hc => ?_
              refine stSt (vs := [.int .i64 r_2.claim, .int .i64 r_2.by_]) hf hc rfl rfl rfl rfl sz_165 rfl rfl u0 fun w hc => ?_
              refine cNil ?_
              refine h28 _ _ ?_
              refine wp_seq_k fun K29 h29 => ?_
              refine cReg ?_
              refine stE hf hc rfl rfl rfl (eLdN (vs := [.int .i64 r_2.claim, .int .i64 r_2.by_]) ag_165 rfl rfl (cells_box (n := 2) m0 rfl)) fun a w hf hc => ?_
              refine stE hf hc rfl rfl rfl (eLdN (vs := [.int .i64 x_2, .int .i64 x_3]) ag_165 rfl rfl (cells_box (n := 2) m1 rfl)) fun a w hf hc => ?_
              refine stP hf rfl rfl rfl (pNeA ge_165 rfl rfl (eqs_165 _ _ _ _)) fun a hf => ?_
              refine stP hf rfl rfl rfl (pM rfl) fun a hf => ?_
              refine stCut 4 (fun a w => Has 87 a [(0, .slice claims_p claims.length claims_c), (2, .int .i64 rule), (9, .slice (some ⟨g, 0, none⟩) out.length c_1), (10, .int .i64 who), (11, .pointer (some ⟨b_4, 0, none⟩)), (41, .int .i64 days), (42, .int .i64 x), (53, .slice claims_p claims.length claims_c), (54, .int .i64 ((claims.length : Nat) : Int)), (55, .int .i64 x_1), (12, .int .i64 x_1), (14, .pointer (some ⟨b_6, 0, none⟩)), (68, .agg #[.int .i64 r_2.claim, .int .i64 r_2.by_]), (69, .agg #[.int .i64 x_2, .int .i64 x_3]), (70, .bool (!(r_2.claim == x_2 && r_2.by_ == x_3))), (71, .bool (!(r_2.claim == x_2 && r_2.by_ == x_3))), (75, .bool ((!(r_2.claim == x_2 && r_2.by_ == x_3)) && (share_quotient_more r_2 (⟨x_2, x_3⟩ : share_quotient))))] ∧ Ctx G (.box b_6 [.int .i64 r_2.claim, .int .i64 r_2.by_] 165 :: .box b_4 [.int .i64 x_2, .int .i64 x_3] 165 :: .row (some ⟨g, 0, none⟩) c_1 (out.map encI_i64) 3 1 :: Lf) w) ?_ ?_
              · cases hb : (!(r_2.claim == x_2 && r_2.by_ == x_3))
                · rw [hb] at hf
                  refine stS hf rfl rfl rfl fun a hf => ?_
                  refine stS hf rfl rfl rfl fun a hf => ?_
                  refine stS hf rfl rfl rfl fun a hf => ?_
                  refine stP hf rfl rfl rfl (pPf rfl rfl) fun a hf => ?_
                  exact cNil ⟨hf.keep ⟨rfl, rfl, rfl, rfl, rfl, rfl, rfl, rfl, rfl, rfl, rfl, rfl, rfl, rfl, rfl, rfl, rfl, trivial⟩, hc⟩
                · rw [hb] at hf
                  refine stE hf hc rfl rfl rfl (eLdN (vs := [.int .i64 r_2.claim, .int .i64 r_2.by_]) ag_165 rfl rfl (cells_box (n := 2) m0 rfl)) fun a w hf hc => ?_
                  refine stE hf hc rfl rfl rfl (eLdN (vs := [.int .i64 x_2, .int .i64 x_3]) ag_165 rfl rfl (cells_box (n := 2) m1 rfl)) fun a w hf hc => ?_
                  refine stE hf hc rfl rfl rfl (eC (v := .bool (share_quotient_more r_2 (⟨x_2, x_3⟩ : share_quotient))) (vs := [.agg #[.int .i64 r_2.claim, .int .i64 r_2.by_], .agg #[.int .i64 x_2, .int .i64 x_3]]) (caps := []) en_84 rfl rfl rfl rfl (fun w hc => share_quotient_more_ok r_2 (⟨x_2, x_3⟩ : share_quotient) hc rfl)) fun a w hf hc => ?_
                  refine stP hf rfl rfl rfl (pPt rfl rfl) fun a hf => ?_
                  exact cNil ⟨hf.keep ⟨rfl, rfl, rfl, rfl, rfl, rfl, rfl, rfl, rfl, rfl, rfl, rfl, rfl, rfl, rfl, rfl, rfl, trivial⟩, hc⟩
              intro a w ⟨hf, hc⟩
              refine cNil ?_
              refine h29 _ _ ?_
              refine cCond (b := ((!(r_2.claim == x_2 && r_2.by_ == x_3)) && (share_quotient_more r_2 (⟨x_2, x_3⟩ : share_quotient)))) hf rfl (fun hb => ?_) (fun hb => ?_)
              · replace hF := condT hb hF
                clear hb
                refine regionE (fun θ => [⟨none, none, 0, .slice claims_p claims.length claims_c⟩, ⟨none, none, 2, .int .i64 rule⟩, ⟨none, none, 9, .slice (some ⟨g, 0, none⟩) out.length c_1⟩, ⟨none, some 2, 10, .int .i64 who⟩, ⟨none, none, 11, .pointer (some ⟨b_4, 0, none⟩)⟩, ⟨none, none, 12, .int .i64 x_1⟩, ⟨none, none, 14, .pointer (some ⟨b_6, 0, none⟩)⟩, ⟨none, none, 41, .int .i64 days⟩, ⟨none, none, 42, .int .i64 x⟩, ⟨none, none, 53, .slice claims_p claims.length claims_c⟩, ⟨none, none, 54, .int .i64 ((claims.length : Nat) : Int)⟩, ⟨none, none, 55, .int .i64 x_1⟩, ⟨some 0, none, 76, .int .i64 x_1⟩, ⟨some 1, none, 77, .agg #[.int .i64 r_2.claim, .int .i64 r_2.by_]⟩, ⟨some 2, none, 10, .int .i64 x_1⟩]) (fun E θ => .box b_6 [.int .i64 r_2.claim, .int .i64 r_2.by_] 165 :: (bif E 3 then .box b_4 [.int .i64 r_2.claim, .int .i64 r_2.by_] 165 else .box b_4 [.int .i64 x_2, .int .i64 x_3] 165) :: .row (some ⟨g, 0, none⟩) c_1 (out.map encI_i64) 3 1 :: Lf) [] (fun a w => Has 87 a [(0, .slice claims_p claims.length claims_c), (2, .int .i64 rule), (9, .slice (some ⟨g, 0, none⟩) out.length c_1), (11, .pointer (some ⟨b_4, 0, none⟩)), (41, .int .i64 days), (42, .int .i64 x), (53, .slice claims_p claims.length claims_c), (54, .int .i64 ((claims.length : Nat) : Int)), (55, .int .i64 x_1), (10, .int .i64 x_1)] ∧ Ctx G (.box b_6 [.int .i64 r_2.claim, .int .i64 r_2.by_] 165 :: .box b_4 [.int .i64 r_2.claim, .int .i64 r_2.by_] 165 :: .row (some ⟨g, 0, none⟩) c_1 (out.map encI_i64) 3 1 :: Lf) w) follows_mx (by kernel_rfl) (by kernel_rfl) (HasE.of hf ⟨rfl, rfl, rfl, rfl, rfl, rfl, rfl, rfl, rfl, rfl, rfl, rfl, trivial, trivial, trivial, trivial⟩) hc ⟨?_, ?_, ?_, ?_, trivial⟩ ?_ ?_
                · intro E θ a w hD hi hp he hc
                  have hf := he.h0
                  replace hf := hf.more he 5 rfl onT
                  refine stP hf rfl rfl rfl (pM rfl) fun a hf => ?_
                  refine cNil ?_
                  refine xThenN ?_
                  intro ds u hau
                  refine ⟨θ, he.put0 hi hau hf rfl 12 rfl rfl, ?_⟩
                  exact hc
                · intro E θ a w hD hi hp he hc
                  have hf := he.h0
                  replace hf := hf.more he 6 rfl onT
                  refine stE hf hc rfl rfl rfl (eLdN (vs := [.int .i64 r_2.claim, .int .i64 r_2.by_]) ag_165 rfl rfl (cells_box (n := 2) m0 rfl)) fun a w hf hc => ?_
                  refine cNil ?_
                  refine xThenN ?_
                  intro ds u hau
                  refine ⟨θ, he.put0 hi hau hf rfl 13 rfl rfl, ?_⟩
                  exact hc
                · intro E θ a w hD hi hp he hc
                  have e0 := hp.of (k := 0) rfl
                  have hf := he.h0
                  replace hf := hf.more he 12 rfl (onP e0)
                  refine stP hf rfl rfl rfl (pA rfl) fun a hf => ?_
                  refine cNil ?_
                  refine xThenN ?_
                  intro ds u hau
                  refine ⟨θ, he.put0 hi hau hf rfl 14 rfl rfl, ?_⟩
                  exact hc
                · intro E θ a w hD hi hp he hc
                  have e1 := hp.of (k := 1) rfl
                  try dsimp only at hc
                  rw [hi] at hc
                  have hf := he.h0
                  replace hf := hf.more he 4 rfl onT
                  replace hf := hf.more he 13 rfl (onP e1)
                  refine stSt (vs := [.int .i64 r_2.claim, .int .i64 r_2.by_]) hf hc rfl rfl rfl rfl sz_165 rfl rfl u1 fun w hc => ?_
                  refine cNil ?_
                  refine xThenN ?_
                  intro ds u hau
                  refine ⟨θ, he.stay0 hi hau hf rfl, ?_⟩
                  try dsimp only
                  rw [updE_self E 3]
                  exact hc
                · intro E θ a w hall he hc
                  have hf := he.h0
                  have e2 := hall 2 rfl
                  have e3 := hall 3 rfl
                  replace hf := hf.more he 14 rfl (onP e2)
                  replace hf := hf.more he 11 rfl (onT)
                  replace hf := hf.more he 10 rfl (onT)
                  replace hf := hf.more he 9 rfl (onT)
                  replace hf := hf.more he 8 rfl (onT)
                  replace hf := hf.more he 7 rfl (onT)
                  replace hf := hf.more he 4 rfl (onT)
                  replace hf := hf.more he 2 rfl (onT)
                  replace hf := hf.more he 1 rfl (onT)
                  replace hf := hf.more he 0 rfl (onT)
                  try dsimp only at hc
                  rw [e3] at hc
                  exact ⟨hf.keep ⟨rfl, rfl, rfl, rfl, rfl, rfl, rfl, rfl, rfl, rfl, trivial⟩, hc⟩
                rintro a w ⟨hf, hc⟩
                replace hc := hc.drop k0
                exact hj26 x_1 r_2.claim r_2.by_ _ _  (hf.keep ⟨rfl, rfl, rfl, rfl, rfl, rfl, rfl, rfl, rfl, rfl, trivial⟩) hc hF
              · replace hF := condF hb hF
                clear hb
                refine wp_skip ?_
                replace hc := hc.drop k0
                exact hj26 who x_2 x_3 _ _  (hf.keep ⟨rfl, rfl, rfl, rfl, rfl, rfl, rfl, rfl, rfl, rfl, trivial⟩) hc hF
            · replace hF := condF hb hF
              clear hb
              refine wp_exit ?_
              refine xThen ?_
              refine xThen ?_
              have he := Option.some.inj hF
              rw [← he] at hfin23
              refine cHit ?_
              exact hr23 _ _ _ hfin23 ⟨hf.keep ⟨rfl, rfl, rfl, rfl, rfl, rfl, rfl, rfl, rfl, rfl, trivial⟩, hc⟩
          · replace hF := condF hb hF
            clear hb
            refine wp_exit ?_
            refine xThen ?_
            refine xThen ?_
            have he := Option.some.inj hF
            rw [← he] at hfin15
            refine cHit ?_
            exact hr15 _ _ _ hfin15 ⟨p_1, c_1, hf.keep ⟨rfl, rfl, rfl, rfl, rfl, trivial⟩, hc⟩

def share_shared_1 (n : Int) : Bool :=
  (share_in n 0 366)
theorem share_shared_1_ok {G : Pers} {Lf : List Ent} {w : World} (n : Int)   (hc : Ctx G (Lf) w) {res : Bool} (hF : share_shared_1 n = res) : Calls Try.prog 122 #[.int .i64 n] w (fun e w => e = .returned (.bool res) ∧ Ctx G (Lf) w) := by
  unfold share_shared_1 at hF
  refine fnIn (args := [.int .i64 n]) Try.func122 rfl Try.ntmps122 rfl fun a hf => ?_
  refine wp_seq_k fun K1 h1 => ?_
  refine cReg ?_
  refine stP hf rfl rfl rfl (pA rfl) fun a hf => ?_
  refine cNil ?_
  refine h1 _ _ ?_
  refine wp_seq_k fun K2 h2 => ?_
  refine cReg ?_
  refine stP hf rfl rfl rfl (pM rfl) fun a hf => ?_
  refine stE hf hc rfl rfl rfl (eC (v := .bool (share_in n 0 366)) (vs := [.int .i64 n, .int .i64 0, .int .i64 366]) (caps := []) en_70 rfl rfl rfl rfl (fun w hc => share_in_ok n 0 366 hc rfl)) fun a w hf hc => ?_
  refine stP hf rfl rfl rfl (pA rfl) fun a hf => ?_
  refine cNil ?_
  refine h2 _ _ ?_
  refine wp_ret ?_
  obtain rfl := hF
  exact fnOut1 (by simp) rfl Try.results122 hf hc (show look _ 2 = _ from rfl) ⟨rfl, hc⟩

def share_every_int_1_s2 (x : Int) : Bool :=
  (!(share_shared_1 x))
theorem share_every_int_1_s2_ok {G : Pers} {Lf : List Ent} {w : World} (x : Int) {b_ : Nat}  (hc : Ctx G (.box b_ [.func (.func 122) #[] #[]] 146 :: Lf) w) {res : Bool} (hF : share_every_int_1_s2 x = res) : Calls Try.prog 120 #[.int .i64 x, .pointer (some ⟨b_, 0, none⟩)] w (fun e w => e = .returned (.bool res) ∧ Ctx G (.box b_ [.func (.func 122) #[] #[]] 146 :: Lf) w) := by
  unfold share_every_int_1_s2 at hF
  refine fnIn (args := [.int .i64 x, .pointer (some ⟨b_, 0, none⟩)]) Try.func120 rfl Try.ntmps120 rfl fun a hf => ?_
  refine wp_seq_k fun K1 h1 => ?_
  refine cReg ?_
  refine stP hf rfl rfl rfl (pA rfl) fun a hf => ?_
  refine cNil ?_
  refine h1 _ _ ?_
  refine wp_seq_k fun K2 h2 => ?_
  refine cReg ?_
  refine stE hf hc rfl rfl rfl (eLd1 sc_146 rfl (cell_box m0 rfl)) fun a w hf hc => ?_
  refine stP hf rfl rfl rfl (pM rfl) fun a hf => ?_
  refine stE hf hc rfl rfl rfl (eC (v := .bool (share_shared_1 x)) (vs := [.int .i64 x]) (caps := []) en_122 rfl rfl rfl rfl (fun w hc => share_shared_1_ok x hc rfl)) fun a w hf hc => ?_
  refine stP hf rfl rfl rfl (pNot rfl) fun a hf => ?_
  refine stP hf rfl rfl rfl (pA rfl) fun a hf => ?_
  refine cNil ?_
  refine h2 _ _ ?_
  refine wp_ret ?_
  obtain rfl := hF
  exact fnOut1 (by simp) rfl Try.results120 hf hc (show look _ 3 = _ from rfl) ⟨rfl, hc⟩

def slices_IndexFunc_Lint_int_s2_b4 (N : Nat) (s_ : List Int) (x : Int) : Option (Step (Int) (Int)) :=
  cond (decide (x < ((s_.length : Nat) : Int)))
  (Option.bind (getI s_ x) fun e_1 =>
  cond (share_every_int_1_s2 e_1)
  (some (.ret x))
  (some (.cont (W (x + 1)))))
  (some (.brk x))
def slices_IndexFunc_Lint_int_s2 (N : Nat) (s_ : List Int) : Option (Int) :=
  Option.bind (loopO (fun s4 => slices_IndexFunc_Lint_int_s2_b4 N s_ s4) N 0) fun x4 =>
  exK x4 (fun s4 => some (-1)) some
theorem slices_IndexFunc_Lint_int_s2_ok {N : Nat} {G : Pers} {Lf : List Ent} {w : World} (s_ : List Int) {s__p : Option Addr} {s__c : Nat} {b_ : Nat} (h_s_ : Rd G 1 s__p s__c (s_.map encI_i64)) (hc : Ctx G (.box b_ [.func (.func 122) #[] #[]] 146 :: Lf) w) {res : Int} (hF : slices_IndexFunc_Lint_int_s2 N s_ = some res) : Calls Try.prog 145 #[.slice s__p s_.length s__c, .func (.func 120) #[] #[.pointer (some ⟨b_, 0, none⟩)]] w (fun e w => e = .returned (.int .i64 res) ∧ Ctx G (.box b_ [.func (.func 122) #[] #[]] 146 :: Lf) w) := by
  unfold slices_IndexFunc_Lint_int_s2 at hF
  refine fnIn (args := [.slice s__p s_.length s__c, .func (.func 120) #[] #[.pointer (some ⟨b_, 0, none⟩)]]) Try.func145 rfl Try.ntmps145 rfl fun a hf => ?_
  refine wp_seq_k fun K1 h1 => ?_
  refine cReg ?_
  refine stP hf rfl rfl rfl (pA rfl) fun a hf => ?_
  refine cNil ?_
  refine h1 _ _ ?_
  refine wp_seq_k fun K2 h2 => ?_
  refine wp_seq_k fun K3 h3 => ?_
  refine cReg ?_
  refine stP hf rfl rfl rfl (pM rfl) fun a hf => ?_
  refine stP hf rfl rfl rfl (pLenS Try.underlying36 rfl) fun a hf => ?_
  refine stP hf rfl rfl rfl (pM rfl) fun a hf => ?_
  refine cNil ?_
  refine h3 _ _ ?_
  refine wp_block ?_
  obtain ⟨x4, hx4, hF⟩ := bnd_some hF
  let S4 : Int → Act → World → Prop := (fun (zz : Int) a w => Has 19 a [(0, .slice s__p s_.length s__c), (1, .func (.func 120) #[] #[.pointer (some ⟨b_, 0, none⟩)]), (7, .int .i64 ((s_.length : Nat) : Int)), (8, .int .i64 zz)] ∧ Ctx G (.box b_ [.func (.func 122) #[] #[]] 146 :: Lf) w)
  have hr4 : ∀ (zz : Int) a w, x4 = .go zz → S4 zz a w → K2 a w := by
    rintro x a w rfl ⟨hf, hc⟩
    replace hF : _ = some res := hF
    refine h2 _ _ ?_
    refine wp_seq_k fun K5 h5 => ?_
    refine cReg ?_
    refine stP hf rfl rfl rfl (pA rfl) fun a hf => ?_
    refine cNil ?_
    refine h5 _ _ ?_
    refine wp_ret ?_
    obtain rfl := Option.some.inj hF
    exact fnOut1 (by simp) rfl Try.results145 hf hc (show look _ 4 = _ from rfl) ⟨rfl, hc⟩
  have ho4 : ∀ r, x4 = .out r → r = res := by
    rintro r rfl
    exact Option.some.inj hF
  refine cLoop N (loopW (S := S4) (x := x4) ?_ N 0 _ _ ⟨hf.keep ⟨rfl, rfl, rfl, rfl, trivial⟩, hc⟩ hx4)
  clear hF hf hc
  rintro x st4 a w KB4 ⟨hf, hc⟩ hF hfin4 hK4
  unfold slices_IndexFunc_Lint_int_s2_b4 at hF
  refine wp_seq_k fun K6 h6 => ?_
  refine cReg ?_
  refine stP hf rfl rfl rfl (pLt rfl rfl) fun a hf => ?_
  refine cNil ?_
  refine h6 _ _ ?_
  refine wp_seq_k fun K7 h7 => ?_
  refine cCond (b := (decide (x < ((s_.length : Nat) : Int)))) hf rfl (fun hb => ?_) (fun hb => ?_)
  · replace hF := condT hb hF
    clear hb
    refine wp_skip ?_
    refine h7 _ _ ?_
    refine wp_seq_k fun K8 h8 => ?_
    refine wp_block ?_
    refine wp_seq_k fun K9 h9 => ?_
    refine cReg ?_
    refine stP hf rfl rfl rfl (pM rfl) fun a hf => ?_
    refine stP hf rfl rfl rfl (pA rfl) fun a hf => ?_
    refine cNil ?_
    refine h9 _ _ ?_
    refine wp_seq_k fun K10 h10 => ?_
    refine cReg ?_
    refine stP hf rfl rfl rfl (pM rfl) fun a hf => ?_
    refine stP hf rfl rfl rfl (pM rfl) fun a hf => ?_
    refine stP hf rfl rfl rfl (pM rfl) fun a hf => ?_
    obtain ⟨e_1, he_1, hF⟩ := bnd_some hF
    obtain ⟨b_1, o, qa, qp⟩ := h_s_.atm he_1
    refine stP hf rfl rfl rfl (pIA Try.underlying36 sz_3 rfl rfl qa) fun a hf => ?_
    refine stE hf hc rfl rfl rfl (eLd1 sc_3 rfl (cell_pc (j := 0) qp rfl)) fun a w hf hc => ?_
    refine stE hf hc rfl rfl rfl (eC (v := .bool (share_every_int_1_s2 e_1)) (vs := [.int .i64 e_1]) (caps := [.pointer (some ⟨b_, 0, none⟩)]) en_120 rfl rfl rfl rfl (fun w hc => (share_every_int_1_s2_ok e_1 (hc.pick k0) rfl).mono fun e w h => ⟨h.1, (h.2.unpick k0)⟩)) fun a w hf hc => ?_
    refine cNil ?_
    refine h10 _ _ ?_
    refine cCond (b := (share_every_int_1_s2 e_1)) hf rfl (fun hb => ?_) (fun hb => ?_)
    · replace hF := condT hb hF
      clear hb
      refine wp_seq_k fun K11 h11 => ?_
      refine cReg ?_
      refine stP hf rfl rfl rfl (pM rfl) fun a hf => ?_
      refine stP hf rfl rfl rfl (pA rfl) fun a hf => ?_
      refine cNil ?_
      refine h11 _ _ ?_
      refine wp_ret ?_
      refine xBlkR ?_
      refine xThenR ?_
      refine xThenR ?_
      have he := Option.some.inj hF
      rw [← he] at hfin4
      replace hF := ho4 _ hfin4
      refine xBlkR ?_
      refine xThenR ?_
      obtain rfl := hF
      exact fnOut1 (by simp) rfl Try.results145 hf hc (show look _ 4 = _ from rfl) ⟨rfl, hc⟩
    · replace hF := condF hb hF
      clear hb
      refine wp_skip ?_
      refine h8 _ _ ?_
      refine cReg ?_
      refine stP hf rfl rfl rfl (pAdd rfl rfl) fun a hf => ?_
      refine stP hf rfl rfl rfl (pM rfl) fun a hf => ?_
      refine cNil ?_
      exact hK4 (W (x + 1)) _ _ (Option.some.inj hF).symm ⟨hf.keep ⟨rfl, rfl, rfl, rfl, trivial⟩, hc⟩
  · replace hF := condF hb hF
    clear hb
    refine wp_exit ?_
    refine xThen ?_
    refine xThen ?_
    have he := Option.some.inj hF
    rw [← he] at hfin4
    refine cHit ?_
    exact hr4 _ _ _ hfin4 ⟨hf.keep ⟨rfl, rfl, rfl, rfl, trivial⟩, hc⟩

def slices_ContainsFunc_Lint_int_s2 (N : Nat) (s_ : List Int) : Option (Bool) :=
  Option.bind (slices_IndexFunc_Lint_int_s2 N s_) fun r =>
  some (decide (0 ≤ r))
theorem slices_ContainsFunc_Lint_int_s2_ok {N : Nat} {G : Pers} {Lf : List Ent} {w : World} (s_ : List Int) {s__p : Option Addr} {s__c : Nat} {b_ : Nat} (h_s_ : Rd G 1 s__p s__c (s_.map encI_i64)) (hc : Ctx G (.box b_ [.func (.func 122) #[] #[]] 146 :: Lf) w) {res : Bool} (hF : slices_ContainsFunc_Lint_int_s2 N s_ = some res) : Calls Try.prog 119 #[.slice s__p s_.length s__c, .func (.func 120) #[] #[.pointer (some ⟨b_, 0, none⟩)]] w (fun e w => e = .returned (.bool res) ∧ Ctx G (.box b_ [.func (.func 122) #[] #[]] 146 :: Lf) w) := by
  unfold slices_ContainsFunc_Lint_int_s2 at hF
  refine fnIn (args := [.slice s__p s_.length s__c, .func (.func 120) #[] #[.pointer (some ⟨b_, 0, none⟩)]]) Try.func119 rfl Try.ntmps119 rfl fun a hf => ?_
  refine wp_seq_k fun K1 h1 => ?_
  refine cReg ?_
  refine stP hf rfl rfl rfl (pA rfl) fun a hf => ?_
  refine cNil ?_
  refine h1 _ _ ?_
  refine wp_seq_k fun K2 h2 => ?_
  refine cReg ?_
  refine stP hf rfl rfl rfl (pM rfl) fun a hf => ?_
  refine stP hf rfl rfl rfl (pM rfl) fun a hf => ?_
  obtain ⟨r, hr, hF⟩ := bnd_some hF
  refine stE hf hc rfl rfl rfl (eC (v := .int .i64 r) (vs := [.slice s__p s_.length s__c, .func (.func 120) #[] #[.pointer (some ⟨b_, 0, none⟩)]]) (caps := []) en_145 rfl rfl rfl rfl (fun w hc => (slices_IndexFunc_Lint_int_s2_ok s_ h_s_ (hc.pick k0) hr).mono fun e w h => ⟨h.1, (h.2.unpick k0)⟩)) fun a w hf hc => ?_
  refine stP hf rfl rfl rfl (pGe rfl rfl) fun a hf => ?_
  refine stP hf rfl rfl rfl (pA rfl) fun a hf => ?_
  refine cNil ?_
  refine h2 _ _ ?_
  refine wp_ret ?_
  obtain rfl := Option.some.inj hF
  exact fnOut1 (by simp) rfl Try.results119 hf hc (show look _ 4 = _ from rfl) ⟨rfl, hc⟩

def share_every_int_s2 (N : Nat) (l : List Int) : Option (Bool) :=
  Option.bind (slices_ContainsFunc_Lint_int_s2 N l) fun r =>
  some (!r)
theorem share_every_int_s2_ok {N : Nat} {G : Pers} {Lf : List Ent} {w : World} (l : List Int) {l_p : Option Addr} {l_c : Nat} (h_l : Rd G 1 l_p l_c (l.map encI_i64)) (hc : Ctx G (Lf) w) {res : Bool} (hF : share_every_int_s2 N l = some res) : Calls Try.prog 80 #[.slice l_p l.length l_c, .func (.func 122) #[] #[]] w (fun e w => e = .returned (.bool res) ∧ Ctx G (Lf) w) := by
  unfold share_every_int_s2 at hF
  refine fnIn (args := [.slice l_p l.length l_c, .func (.func 122) #[] #[]]) Try.func80 rfl Try.ntmps80 rfl fun a hf => ?_
  refine wp_seq_k fun K1 h1 => ?_
  refine cReg ?_
  refine stBx (cs := [.func (.func 122) #[] #[]]) hf hc rfl rfl rfl rfl fun b_1 a w hf hc => ?_
  refine stP hf rfl rfl rfl (pA rfl) fun a hf => ?_
  refine cNil ?_
  refine h1 _ _ ?_
  refine wp_seq_k fun K2 h2 => ?_
  refine cReg ?_
  refine stP hf rfl rfl rfl (pM rfl) fun a hf => ?_
  refine stP hf rfl rfl rfl (pMF (us := [.pointer (some ⟨b_1, 0, none⟩)]) rfl rfl) fun a hf => ?_
  obtain ⟨r, hr, hF⟩ := bnd_some hF
  refine stE hf hc rfl rfl rfl (eC (v := .bool r) (vs := [.slice l_p l.length l_c, .func (.func 120) #[] #[.pointer (some ⟨b_1, 0, none⟩)]]) (caps := []) en_119 rfl rfl rfl rfl (fun w hc => (slices_ContainsFunc_Lint_int_s2_ok l h_l (hc.pick k0) hr).mono fun e w h => ⟨h.1, (h.2.unpick k0)⟩)) fun a w hf hc => ?_
  refine stP hf rfl rfl rfl (pNot rfl) fun a hf => ?_
  refine stP hf rfl rfl rfl (pA rfl) fun a hf => ?_
  refine cNil ?_
  refine h2 _ _ ?_
  refine wp_ret ?_
  obtain rfl := Option.some.inj hF
  replace hc := hc.drop k0
  exact fnOut1 (by simp) rfl Try.results80 hf hc (show look _ 4 = _ from rfl) ⟨rfl, hc⟩

def share_shared (N : Nat) (claims : List Int) (shares : List Int) (rule : Int) : Option (Int) :=
  Option.bind (share_claimed N claims) fun r =>
  cond (r != 0)
  (some r)
  (cond (((shares.length : Nat) : Int) != ((claims.length : Nat) : Int))
  (some 2)
  (Option.bind (share_every_int_s2 N shares) fun r_1 =>
  cond (!r_1)
  (some 4)
  (cond (!(share_Rule_right rule))
  (some 2)
  (some 0))))
theorem share_shared_ok {N : Nat} {G : Pers} {Lf : List Ent} {w : World} (claims : List Int) (shares : List Int) (rule : Int) {claims_p : Option Addr} {claims_c : Nat} {shares_p : Option Addr} {shares_c : Nat} (h_claims : Rd G 1 claims_p claims_c (claims.map encI_i64)) (h_shares : Rd G 1 shares_p shares_c (shares.map encI_i64)) (hc : Ctx G (Lf) w) {res : Int} (hF : share_shared N claims shares rule = some res) : Calls Try.prog 88 #[.slice claims_p claims.length claims_c, .slice shares_p shares.length shares_c, .int .i64 rule] w (fun e w => e = .returned (.int .i64 res) ∧ Ctx G (Lf) w) := by
  unfold share_shared at hF
  refine fnIn (args := [.slice claims_p claims.length claims_c, .slice shares_p shares.length shares_c, .int .i64 rule]) Try.func88 rfl Try.ntmps88 rfl fun a hf => ?_
  refine wp_seq_k fun K1 h1 => ?_
  refine cReg ?_
  refine stP hf rfl rfl rfl (pA rfl) fun a hf => ?_
  refine cNil ?_
  refine h1 _ _ ?_
  refine wp_seq_k fun K2 h2 => ?_
  refine cReg ?_
  refine stP hf rfl rfl rfl (pM rfl) fun a hf => ?_
  obtain ⟨r, hr, hF⟩ := bnd_some hF
  refine stE hf hc rfl rfl rfl (eC (v := .int .i64 r) (vs := [.slice claims_p claims.length claims_c]) (caps := []) en_81 rfl rfl rfl rfl (fun w hc => share_claimed_ok claims h_claims hc hr)) fun a w hf hc => ?_
  refine stP hf rfl rfl rfl (pA rfl) fun a hf => ?_
  refine cNil ?_
  refine h2 _ _ ?_
  refine wp_seq_k fun K3 h3 => ?_
  refine wp_block ?_
  refine wp_seq_k fun K4 h4 => ?_
  refine cReg ?_
  refine stP hf rfl rfl rfl (pM rfl) fun a hf => ?_
  refine stP hf rfl rfl rfl (pNe rfl rfl) fun a hf => ?_
  refine stP hf rfl rfl rfl (pA rfl) fun a hf => ?_
  refine cNil ?_
  refine h4 _ _ ?_
  refine cCond (b := (r != 0)) hf rfl (fun hb => ?_) (fun hb => ?_)
  · replace hF := condT hb hF
    clear hb
    refine wp_seq_k fun K5 h5 => ?_
    refine cReg ?_
    refine stP hf rfl rfl rfl (pM rfl) fun a hf => ?_
    refine stP hf rfl rfl rfl (pA rfl) fun a hf => ?_
    refine cNil ?_
    refine h5 _ _ ?_
    refine wp_ret ?_
    refine xBlkR ?_
    refine xThenR ?_
    obtain rfl := Option.some.inj hF
    exact fnOut1 (by simp) rfl Try.results88 hf hc (show look _ 6 = _ from rfl) ⟨rfl, hc⟩
  · replace hF := condF hb hF
    clear hb
    refine wp_seq_k fun K6 h6 => ?_
    refine cReg ?_
    refine stP hf rfl rfl rfl (pM rfl) fun a hf => ?_
    refine stP hf rfl rfl rfl (pLenS Try.underlying36 rfl) fun a hf => ?_
    refine stP hf rfl rfl rfl (pM rfl) fun a hf => ?_
    refine stP hf rfl rfl rfl (pLenS Try.underlying36 rfl) fun a hf => ?_
    refine stP hf rfl rfl rfl (pNe rfl rfl) fun a hf => ?_
    refine stP hf rfl rfl rfl (pA rfl) fun a hf => ?_
    refine cNil ?_
    refine h6 _ _ ?_
    refine cCond (b := (((shares.length : Nat) : Int) != ((claims.length : Nat) : Int))) hf rfl (fun hb => ?_) (fun hb => ?_)
    · replace hF := condT hb hF
      clear hb
      refine wp_seq_k fun K7 h7 => ?_
      refine cReg ?_
      refine stP hf rfl rfl rfl (pA rfl) fun a hf => ?_
      refine cNil ?_
      refine h7 _ _ ?_
      refine wp_ret ?_
      refine xBlkR ?_
      refine xThenR ?_
      obtain rfl := Option.some.inj hF
      exact fnOut1 (by simp) rfl Try.results88 hf hc (show look _ 6 = _ from rfl) ⟨rfl, hc⟩
    · replace hF := condF hb hF
      clear hb
      refine wp_seq_k fun K8 h8 => ?_
      refine cReg ?_
      refine stP hf rfl rfl rfl (pM rfl) fun a hf => ?_
      obtain ⟨r_1, hr_1, hF⟩ := bnd_some hF
      refine stE hf hc rfl rfl rfl (eC (v := .bool r_1) (vs := [.slice shares_p shares.length shares_c, .func (.func 122) #[] #[]]) (caps := []) en_80 rfl rfl rfl rfl (fun w hc => share_every_int_s2_ok shares h_shares hc hr_1)) fun a w hf hc => ?_
      refine stP hf rfl rfl rfl (pNot rfl) fun a hf => ?_
      refine stP hf rfl rfl rfl (pA rfl) fun a hf => ?_
      refine cNil ?_
      refine h8 _ _ ?_
      refine cCond (b := (!r_1)) hf rfl (fun hb => ?_) (fun hb => ?_)
      · replace hF := condT hb hF
        clear hb
        refine wp_seq_k fun K9 h9 => ?_
        refine cReg ?_
        refine stP hf rfl rfl rfl (pA rfl) fun a hf => ?_
        refine cNil ?_
        refine h9 _ _ ?_
        refine wp_ret ?_
        refine xBlkR ?_
        refine xThenR ?_
        obtain rfl := Option.some.inj hF
        exact fnOut1 (by simp) rfl Try.results88 hf hc (show look _ 6 = _ from rfl) ⟨rfl, hc⟩
      · replace hF := condF hb hF
        clear hb
        refine wp_seq_k fun K10 h10 => ?_
        refine cReg ?_
        refine stP hf rfl rfl rfl (pM rfl) fun a hf => ?_
        refine stE hf hc rfl rfl rfl (eC (v := .bool (share_Rule_right rule)) (vs := [.int .i64 rule]) (caps := []) en_82 rfl rfl rfl rfl (fun w hc => share_Rule_right_ok rule hc rfl)) fun a w hf hc => ?_
        refine stP hf rfl rfl rfl (pNot rfl) fun a hf => ?_
        refine stP hf rfl rfl rfl (pA rfl) fun a hf => ?_
        refine cNil ?_
        refine h10 _ _ ?_
        refine cCond (b := (!(share_Rule_right rule))) hf rfl (fun hb => ?_) (fun hb => ?_)
        · replace hF := condT hb hF
          clear hb
          refine wp_seq_k fun K11 h11 => ?_
          refine cReg ?_
          refine stP hf rfl rfl rfl (pA rfl) fun a hf => ?_
          refine cNil ?_
          refine h11 _ _ ?_
          refine wp_ret ?_
          refine xBlkR ?_
          refine xThenR ?_
          obtain rfl := Option.some.inj hF
          exact fnOut1 (by simp) rfl Try.results88 hf hc (show look _ 6 = _ from rfl) ⟨rfl, hc⟩
        · replace hF := condF hb hF
          clear hb
          refine wp_skip ?_
          refine h3 _ _ ?_
          refine wp_seq_k fun K12 h12 => ?_
          refine cReg ?_
          refine stP hf rfl rfl rfl (pA rfl) fun a hf => ?_
          refine cNil ?_
          refine h12 _ _ ?_
          refine wp_ret ?_
          obtain rfl := Option.some.inj hF
          exact fnOut1 (by simp) rfl Try.results88 hf hc (show look _ 6 = _ from rfl) ⟨rfl, hc⟩

def share_Unfair_b18 (N : Nat) (claims : List Int) (shares : List Int) (rule : Int) (x : Int) (e_2 : Int) (x_1 : Int) : Option (Step (Int) (Step (Int × Int × Int × Int) (Int × Int × Int))) :=
  cond (decide (x_1 < ((shares.length : Nat) : Int)))
  (Option.bind (getI shares x_1) fun e_3 =>
  Option.bind (cond ((decide (0 < e_2)) && (x_1 != x)) (Option.bind (getI claims x_1) fun e_4 =>
  Option.bind (share_Rule_day N rule e_4 (W (e_3 + 1))) fun r_1 =>
  Option.bind (getI claims x) fun e_5 =>
  Option.bind (share_Rule_day N rule e_5 e_2) fun r_2 =>
  some (share_quotient_more r_1 r_2)) (some false)) fun t_1 =>
  cond t_1
  (some (.ret (.brk (x, x_1, 0, x))))
  (some (.cont (W (x_1 + 1)))))
  (some (.brk x_1))
def share_Unfair_b10 (N : Nat) (claims : List Int) (shares : List Int) (rule : Int) (a_1 : Int) (b_1 : Int) (e_1 : Int) (x : Int) : Option (Step (Int × Int × Int × Int) (Int × Int × Int)) :=
  cond (decide (x < ((shares.length : Nat) : Int)))
  (Option.bind (getI shares x) fun e_2 =>
  Option.bind (loopO (fun s18 => share_Unfair_b18 N claims shares rule x e_2 s18) N 0) fun x18 =>
  exK x18 (fun s18 => some (.cont (a_1, b_1, e_1, W (x + 1)))) some)
  (some (.brk (a_1, b_1, e_1, x)))
def share_Unfair (N : Nat) (claims : List Int) (shares : List Int) (rule : Int) : Option (Int × Int × Int) :=
  Option.bind (share_shared N claims shares rule) fun r =>
  cond (r != 0)
  (some (0, 0, r))
  (Option.bind (loopO (fun s10 => share_Unfair_b10 N claims shares rule s10.1 s10.2.1 s10.2.2.1 s10.2.2.2) N (0, 0, 5, 0)) fun x10 =>
  exK x10 (fun s10 => some (s10.1, s10.2.1, s10.2.2.1)) some)
theorem share_Unfair_ok {N : Nat} {G : Pers} {Lf : List Ent} {w : World} (claims : List Int) (shares : List Int) (rule : Int) {claims_p : Option Addr} {claims_c : Nat} {shares_p : Option Addr} {shares_c : Nat} (h_claims : Rd G 1 claims_p claims_c (claims.map encI_i64)) (h_shares : Rd G 1 shares_p shares_c (shares.map encI_i64)) (hc : Ctx G (Lf) w) {res : Int × Int × Int} (hF : share_Unfair N claims shares rule = some res) : Calls Try.prog 37 #[.slice claims_p claims.length claims_c, .slice shares_p shares.length shares_c, .int .i64 rule] w (fun e w => e = .returned (.tuple #[.int .i64 res.1, .int .i64 res.2.1, .int .i64 res.2.2]) ∧ Ctx G (Lf) w) := by
  unfold share_Unfair at hF
  refine fnIn (args := [.slice claims_p claims.length claims_c, .slice shares_p shares.length shares_c, .int .i64 rule]) Try.func37 rfl Try.ntmps37 rfl fun a hf => ?_
  refine wp_seq_k fun K1 h1 => ?_
  refine cReg ?_
  refine stP hf rfl rfl rfl (pA rfl) fun a hf => ?_
  refine stP hf rfl rfl rfl (pA rfl) fun a hf => ?_
  refine stP hf rfl rfl rfl (pA rfl) fun a hf => ?_
  refine cNil ?_
  refine h1 _ _ ?_
  refine wp_scope_straight ?_
  refine wp_seq_k fun K2 h2 => ?_
  refine wp_seq_k fun K3 h3 => ?_
  refine cReg ?_
  refine stP hf rfl rfl rfl (pM rfl) fun a hf => ?_
  refine stP hf rfl rfl rfl (pM rfl) fun a hf => ?_
  refine stP hf rfl rfl rfl (pM rfl) fun a hf => ?_
  obtain ⟨r, hr, hF⟩ := bnd_some hF
  refine stE hf hc rfl rfl rfl (eC (v := .int .i64 r) (vs := [.slice claims_p claims.length claims_c, .slice shares_p shares.length shares_c, .int .i64 rule]) (caps := []) en_88 rfl rfl rfl rfl (fun w hc => share_shared_ok claims shares rule h_claims h_shares hc hr)) fun a w hf hc => ?_
  refine stP hf rfl rfl rfl (pA rfl) fun a hf => ?_
  refine cNil ?_
  refine h3 _ _ ?_
  refine wp_seq_k fun K4 h4 => ?_
  refine cReg ?_
  refine stP hf rfl rfl rfl (pM rfl) fun a hf => ?_
  refine stP hf rfl rfl rfl (pNe rfl rfl) fun a hf => ?_
  refine cNil ?_
  refine h4 _ _ ?_
  refine cCond (b := (r != 0)) hf rfl (fun hb => ?_) (fun hb => ?_)
  · replace hF := condT hb hF
    clear hb
    refine wp_seq_k fun K5 h5 => ?_
    refine cReg ?_
    refine stP hf rfl rfl rfl (pM rfl) fun a hf => ?_
    refine stP hf rfl rfl rfl (pA rfl) fun a hf => ?_
    refine stP hf rfl rfl rfl (pA rfl) fun a hf => ?_
    refine stP hf rfl rfl rfl (pA rfl) fun a hf => ?_
    refine cNil ?_
    refine h5 _ _ ?_
    refine wp_ret ?_
    refine xThenR ?_
    refine xScopeR ?_
    obtain rfl := Option.some.inj hF
    exact fnOut3 (by simp) rfl Try.results37 hf hc (show look _ 6 = _ from rfl) (show look _ 7 = _ from rfl) (show look _ 8 = _ from rfl) ⟨rfl, hc⟩
  · replace hF := condF hb hF
    clear hb
    refine wp_skip ?_
    refine h2 _ _ ?_
    refine wp_seq_k fun K6 h6 => ?_
    refine cReg ?_
    refine stP hf rfl rfl rfl (pA rfl) fun a hf => ?_
    refine stP hf rfl rfl rfl (pA rfl) fun a hf => ?_
    refine stP hf rfl rfl rfl (pA rfl) fun a hf => ?_
    refine cNil ?_
    refine h6 _ _ ?_
    refine wp_seq_k fun K7 h7 => ?_
    refine wp_label ?_
    refine h7 _ _ ?_
    refine wp_seq_k fun K8 h8 => ?_
    refine wp_seq_k fun K9 h9 => ?_
    refine cReg ?_
    refine stP hf rfl rfl rfl (pM rfl) fun a hf => ?_
    refine stP hf rfl rfl rfl (pLenS Try.underlying36 rfl) fun a hf => ?_
    refine stP hf rfl rfl rfl (pM rfl) fun a hf => ?_
    refine cNil ?_
    refine h9 _ _ ?_
    refine wp_block ?_
    obtain ⟨x10, hx10, hF⟩ := bnd_some hF
    let S10 : (Int × Int × Int × Int) → Act → World → Prop := (fun (zz : Int × Int × Int × Int) a w => Has 70 a [(0, .slice claims_p claims.length claims_c), (1, .slice shares_p shares.length shares_c), (2, .int .i64 rule), (10, .int .i64 zz.1), (11, .int .i64 zz.2.1), (12, .int .i64 zz.2.2.1), (24, .slice shares_p shares.length shares_c), (25, .int .i64 ((shares.length : Nat) : Int)), (26, .int .i64 zz.2.2.2)] ∧ Ctx G (Lf) w)
    have hr10 : ∀ (zz : Int × Int × Int × Int) a w, x10 = .go zz → S10 zz a w → K8 a w := by
      rintro ⟨a_1, b_1, e_1, x⟩ a w rfl ⟨hf, hc⟩
      replace hF : _ = some res := hF
      refine h8 _ _ ?_
      refine wp_seq_k fun K11 h11 => ?_
      refine cReg ?_
      refine stP hf rfl rfl rfl (pM rfl) fun a hf => ?_
      refine stP hf rfl rfl rfl (pM rfl) fun a hf => ?_
      refine stP hf rfl rfl rfl (pM rfl) fun a hf => ?_
      refine stP hf rfl rfl rfl (pA rfl) fun a hf => ?_
      refine stP hf rfl rfl rfl (pA rfl) fun a hf => ?_
      refine stP hf rfl rfl rfl (pA rfl) fun a hf => ?_
      refine cNil ?_
      refine h11 _ _ ?_
      refine wp_ret ?_
      refine xScopeR ?_
      obtain rfl := Option.some.inj hF
      exact fnOut3 (by simp) rfl Try.results37 hf hc (show look _ 6 = _ from rfl) (show look _ 7 = _ from rfl) (show look _ 8 = _ from rfl) ⟨rfl, hc⟩
    have ho10 : ∀ r, x10 = .out r → r = res := by
      rintro r rfl
      exact Option.some.inj hF
    refine cLoop N (loopW (S := S10) (x := x10) ?_ N (0, 0, 5, 0) _ _ ⟨hf.keep ⟨rfl, rfl, rfl, rfl, rfl, rfl, rfl, rfl, rfl, trivial⟩, hc⟩ hx10)
    clear hF hf hc
    rintro ⟨a_1, b_1, e_1, x⟩ st10 a w KB10 ⟨hf, hc⟩ hF hfin10 hK10
    unfold share_Unfair_b10 at hF
    refine wp_seq_k fun K12 h12 => ?_
    refine cReg ?_
    refine stP hf rfl rfl rfl (pLt rfl rfl) fun a hf => ?_
    refine cNil ?_
    refine h12 _ _ ?_
    refine wp_seq_k fun K13 h13 => ?_
    refine cCond (b := (decide (x < ((shares.length : Nat) : Int)))) hf rfl (fun hb => ?_) (fun hb => ?_)
    · replace hF := condT hb hF
      clear hb
      refine wp_skip ?_
      refine h13 _ _ ?_
      refine wp_seq_k fun K14 h14 => ?_
      refine wp_block ?_
      refine wp_seq_k fun K15 h15 => ?_
      refine cReg ?_
      refine stP hf rfl rfl rfl (pM rfl) fun a hf => ?_
      obtain ⟨e_2, he_2, hF⟩ := bnd_some hF
      obtain ⟨b_2, o, qa, qp⟩ := h_shares.atm he_2
      refine stP hf rfl rfl rfl (pIA Try.underlying36 sz_3 rfl rfl qa) fun a hf => ?_
      refine stE hf hc rfl rfl rfl (eLd1 sc_3 rfl (cell_pc (j := 0) qp rfl)) fun a w hf hc => ?_
      refine stP hf rfl rfl rfl (pA rfl) fun a hf => ?_
      refine stP hf rfl rfl rfl (pA rfl) fun a hf => ?_
      refine cNil ?_
      refine h15 _ _ ?_
      refine wp_seq_k fun K16 h16 => ?_
      refine cReg ?_
      refine stP hf rfl rfl rfl (pM rfl) fun a hf => ?_
      refine stP hf rfl rfl rfl (pLenS Try.underlying36 rfl) fun a hf => ?_
      refine stP hf rfl rfl rfl (pM rfl) fun a hf => ?_
      refine cNil ?_
      refine h16 _ _ ?_
      refine wp_thenK fun K17 h17 => ?_
      refine wp_block ?_
      obtain ⟨x18, hx18, hF⟩ := bnd_some hF
      let S18 : Int → Act → World → Prop := (fun (zz : Int) a w => Has 70 a [(0, .slice claims_p claims.length claims_c), (1, .slice shares_p shares.length shares_c), (2, .int .i64 rule), (10, .int .i64 a_1), (11, .int .i64 b_1), (12, .int .i64 e_1), (13, .int .i64 x), (14, .int .i64 e_2), (24, .slice shares_p shares.length shares_c), (25, .int .i64 ((shares.length : Nat) : Int)), (26, .int .i64 x), (31, .slice shares_p shares.length shares_c), (32, .int .i64 ((shares.length : Nat) : Int)), (33, .int .i64 zz)] ∧ Ctx G (Lf) w)
      have hr18 : ∀ (zz : Int) a w, x18 = .go zz → S18 zz a w → K17 a w := by
        rintro x_1 a w rfl ⟨hf, hc⟩
        replace hF : _ = some st10 := hF
        refine h17 _ _ ?_
        refine h14 _ _ ?_
        refine cReg ?_
        refine stP hf rfl rfl rfl (pAdd rfl rfl) fun a hf => ?_
        refine stP hf rfl rfl rfl (pM rfl) fun a hf => ?_
        refine cNil ?_
        exact hK10 (a_1, b_1, e_1, W (x + 1)) _ _ (Option.some.inj hF).symm ⟨hf.keep ⟨rfl, rfl, rfl, rfl, rfl, rfl, rfl, rfl, rfl, trivial⟩, hc⟩
      have ho18 : ∀ r, x18 = .out r → r = st10 := by
        rintro r rfl
        exact Option.some.inj hF
      refine cLoop N (loopW (S := S18) (x := x18) ?_ N 0 _ _ ⟨hf.keep ⟨rfl, rfl, rfl, rfl, rfl, rfl, rfl, rfl, rfl, rfl, rfl, rfl, rfl, rfl, trivial⟩, hc⟩ hx18)
      clear hF hf hc
      rintro x_1 st18 a w KB18 ⟨hf, hc⟩ hF hfin18 hK18
      unfold share_Unfair_b18 at hF
      refine wp_seq_k fun K19 h19 => ?_
      refine cReg ?_
      refine stP hf rfl rfl rfl (pLt rfl rfl) fun a hf => ?_
      refine cNil ?_
      refine h19 _ _ ?_
      refine wp_seq_k fun K20 h20 => ?_
      refine cCond (b := (decide (x_1 < ((shares.length : Nat) : Int)))) hf rfl (fun hb => ?_) (fun hb => ?_)
      · replace hF := condT hb hF
        clear hb
        refine wp_skip ?_
        refine h20 _ _ ?_
        refine wp_seq_k fun K21 h21 => ?_
        refine wp_block ?_
        refine wp_seq_k fun K22 h22 => ?_
        refine cReg ?_
        refine stP hf rfl rfl rfl (pM rfl) fun a hf => ?_
        obtain ⟨e_3, he_3, hF⟩ := bnd_some hF
        obtain ⟨b_3, o_1, qa_1, qp_1⟩ := h_shares.atm he_3
        refine stP hf rfl rfl rfl (pIA Try.underlying36 sz_3 rfl rfl qa_1) fun a hf => ?_
        refine stE hf hc rfl rfl rfl (eLd1 sc_3 rfl (cell_pc (j := 0) qp_1 rfl)) fun a w hf hc => ?_
        refine stP hf rfl rfl rfl (pA rfl) fun a hf => ?_
        refine stP hf rfl rfl rfl (pA rfl) fun a hf => ?_
        refine cNil ?_
        refine h22 _ _ ?_
        refine wp_seq_k fun K23 h23 => ?_
        obtain ⟨t_1, ht_1, hF⟩ := bnd_some hF
        refine cQ hc follows_mx (by kernel_rfl) ?_
        refine qE hf rfl rfl rfl (Pu.ev (pM rfl)) fun a hf => ?_
        refine qE hf rfl rfl rfl (Pu.ev (pGt rfl rfl)) fun a hf => ?_
        refine qE hf rfl rfl rfl (Pu.ev (pM rfl)) fun a hf => ?_
        refine qCut 4 (fun a => Has 70 a [(0, .slice claims_p claims.length claims_c), (1, .slice shares_p shares.length shares_c), (2, .int .i64 rule), (10, .int .i64 a_1), (11, .int .i64 b_1), (12, .int .i64 e_1), (13, .int .i64 x), (14, .int .i64 e_2), (24, .slice shares_p shares.length shares_c), (25, .int .i64 ((shares.length : Nat) : Int)), (26, .int .i64 x), (31, .slice shares_p shares.length shares_c), (32, .int .i64 ((shares.length : Nat) : Int)), (33, .int .i64 x_1), (15, .int .i64 x_1), (16, .int .i64 e_3), (38, .int .i64 e_2), (39, .bool (decide (0 < e_2))), (40, .bool (decide (0 < e_2))), (44, .bool ((decide (0 < e_2)) && (x_1 != x)))]) ?_ ?_
        · cases hb : (decide (0 < e_2))
          · rw [hb] at hf
            refine qS hf rfl rfl rfl fun a hf => ?_
            refine qS hf rfl rfl rfl fun a hf => ?_
            refine qS hf rfl rfl rfl fun a hf => ?_
            refine qE hf rfl rfl rfl (Pu.ev (pPf rfl rfl)) fun a hf => ?_
            exact qNil (hf.keep ⟨rfl, rfl, rfl, rfl, rfl, rfl, rfl, rfl, rfl, rfl, rfl, rfl, rfl, rfl, rfl, rfl, rfl, rfl, rfl, rfl, trivial⟩)
          · rw [hb] at hf
            refine qE hf rfl rfl rfl (Pu.ev (pM rfl)) fun a hf => ?_
            refine qE hf rfl rfl rfl (Pu.ev (pM rfl)) fun a hf => ?_
            refine qE hf rfl rfl rfl (Pu.ev (pNe rfl rfl)) fun a hf => ?_
            refine qE hf rfl rfl rfl (Pu.ev (pPt rfl rfl)) fun a hf => ?_
            exact qNil (hf.keep ⟨rfl, rfl, rfl, rfl, rfl, rfl, rfl, rfl, rfl, rfl, rfl, rfl, rfl, rfl, rfl, rfl, rfl, rfl, rfl, rfl, trivial⟩)
        intro a hf
        refine qE hf rfl rfl rfl (Pu.ev (pM rfl)) fun a hf => ?_
        refine qCut 17 (fun a => Has 70 a [(0, .slice claims_p claims.length claims_c), (1, .slice shares_p shares.length shares_c), (2, .int .i64 rule), (10, .int .i64 a_1), (11, .int .i64 b_1), (12, .int .i64 e_1), (13, .int .i64 x), (14, .int .i64 e_2), (24, .slice shares_p shares.length shares_c), (25, .int .i64 ((shares.length : Nat) : Int)), (26, .int .i64 x), (31, .slice shares_p shares.length shares_c), (32, .int .i64 ((shares.length : Nat) : Int)), (33, .int .i64 x_1), (15, .int .i64 x_1), (16, .int .i64 e_3), (38, .int .i64 e_2), (39, .bool (decide (0 < e_2))), (40, .bool (decide (0 < e_2))), (44, .bool ((decide (0 < e_2)) && (x_1 != x))), (45, .bool ((decide (0 < e_2)) && (x_1 != x))), (62, .bool t_1)]) ?_ ?_
        · cases hb : ((decide (0 < e_2)) && (x_1 != x))
          · rw [hb] at hf
            have hF := condF hb ht_1
            obtain rfl := Option.some.inj hF
            refine qS hf rfl rfl rfl fun a hf => ?_
            refine qS hf rfl rfl rfl fun a hf => ?_
            refine qS hf rfl rfl rfl fun a hf => ?_
            refine qS hf rfl rfl rfl fun a hf => ?_
            refine qS hf rfl rfl rfl fun a hf => ?_
            refine qS hf rfl rfl rfl fun a hf => ?_
            refine qS hf rfl rfl rfl fun a hf => ?_
            refine qS hf rfl rfl rfl fun a hf => ?_
            refine qS hf rfl rfl rfl fun a hf => ?_
            refine qS hf rfl rfl rfl fun a hf => ?_
            refine qS hf rfl rfl rfl fun a hf => ?_
            refine qS hf rfl rfl rfl fun a hf => ?_
            refine qS hf rfl rfl rfl fun a hf => ?_
            refine qS hf rfl rfl rfl fun a hf => ?_
            refine qS hf rfl rfl rfl fun a hf => ?_
            refine qS hf rfl rfl rfl fun a hf => ?_
            refine qE hf rfl rfl rfl (Pu.ev (pPf rfl rfl)) fun a hf => ?_
            exact qNil (hf.keep ⟨rfl, rfl, rfl, rfl, rfl, rfl, rfl, rfl, rfl, rfl, rfl, rfl, rfl, rfl, rfl, rfl, rfl, rfl, rfl, rfl, rfl, rfl, trivial⟩)
          · rw [hb] at hf
            have hF := condT hb ht_1
            obtain ⟨e_4, he_4, hF⟩ := bnd_some hF
            obtain ⟨b_4, o_2, qa_2, qp_2⟩ := h_claims.atm he_4
            obtain ⟨r_1, hr_1, hF⟩ := bnd_some hF
            obtain ⟨e_5, he_5, hF⟩ := bnd_some hF
            obtain ⟨b_5, o_3, qa_3, qp_3⟩ := h_claims.atm he_5
            obtain ⟨r_2, hr_2, hF⟩ := bnd_some hF
            refine qE hf rfl rfl rfl (Pu.ev (pM rfl)) fun a hf => ?_
            refine qE hf rfl rfl rfl (Pu.ev (pM rfl)) fun a hf => ?_
            refine qE hf rfl rfl rfl (Pu.ev (pM rfl)) fun a hf => ?_
            refine qE hf rfl rfl rfl (Pu.ev (pIA Try.underlying36 sz_3 rfl rfl qa_2)) fun a hf => ?_
            refine qE hf rfl rfl rfl (eLd1 sc_3 rfl (cell_pc (j := 0) qp_2 rfl)) fun a hf => ?_
            refine qE hf rfl rfl rfl (Pu.ev (pM rfl)) fun a hf => ?_
            refine qE hf rfl rfl rfl (Pu.ev (pAdd rfl rfl)) fun a hf => ?_
            refine qE hf rfl rfl rfl (eC (v := .agg #[.int .i64 r_1.claim, .int .i64 r_1.by_]) (vs := [.int .i64 rule, .int .i64 e_4, .int .i64 (W (e_3 + 1))]) (caps := []) en_83 rfl rfl rfl rfl (fun w hc => share_Rule_day_ok rule e_4 (W (e_3 + 1)) hc hr_1)) fun a hf => ?_
            refine qE hf rfl rfl rfl (Pu.ev (pM rfl)) fun a hf => ?_
            refine qE hf rfl rfl rfl (Pu.ev (pM rfl)) fun a hf => ?_
            refine qE hf rfl rfl rfl (Pu.ev (pM rfl)) fun a hf => ?_
            refine qE hf rfl rfl rfl (Pu.ev (pIA Try.underlying36 sz_3 rfl rfl qa_3)) fun a hf => ?_
            refine qE hf rfl rfl rfl (eLd1 sc_3 rfl (cell_pc (j := 0) qp_3 rfl)) fun a hf => ?_
            refine qE hf rfl rfl rfl (Pu.ev (pM rfl)) fun a hf => ?_
            refine qE hf rfl rfl rfl (eC (v := .agg #[.int .i64 r_2.claim, .int .i64 r_2.by_]) (vs := [.int .i64 rule, .int .i64 e_5, .int .i64 e_2]) (caps := []) en_83 rfl rfl rfl rfl (fun w hc => share_Rule_day_ok rule e_5 e_2 hc hr_2)) fun a hf => ?_
            refine qE hf rfl rfl rfl (eC (v := .bool (share_quotient_more r_1 r_2)) (vs := [.agg #[.int .i64 r_1.claim, .int .i64 r_1.by_], .agg #[.int .i64 r_2.claim, .int .i64 r_2.by_]]) (caps := []) en_84 rfl rfl rfl rfl (fun w hc => share_quotient_more_ok r_1 r_2 hc rfl)) fun a hf => ?_
            refine qE hf rfl rfl rfl (Pu.ev (pPt rfl rfl)) fun a hf => ?_
            obtain rfl := Option.some.inj hF
            exact qNil (hf.keep ⟨rfl, rfl, rfl, rfl, rfl, rfl, rfl, rfl, rfl, rfl, rfl, rfl, rfl, rfl, rfl, rfl, rfl, rfl, rfl, rfl, rfl, rfl, trivial⟩)
        intro a hf
        intro w hc
        refine h23 _ _ ?_
        refine cCond (b := t_1) hf rfl (fun hb => ?_) (fun hb => ?_)
        · replace hF := condT hb hF
          clear hb
          refine wp_seq_k fun K24 h24 => ?_
          refine cReg ?_
          refine stP hf rfl rfl rfl (pM rfl) fun a hf => ?_
          refine stP hf rfl rfl rfl (pM rfl) fun a hf => ?_
          refine stP hf rfl rfl rfl (pA rfl) fun a hf => ?_
          refine stP hf rfl rfl rfl (pA rfl) fun a hf => ?_
          refine stP hf rfl rfl rfl (pA rfl) fun a hf => ?_
          refine cNil ?_
          refine h24 _ _ ?_
          refine wp_exit ?_
          refine cMiss rfl ?_
          refine xThen ?_
          refine xThen ?_
          have he := Option.some.inj hF
          rw [← he] at hfin18
          replace hF := ho18 _ hfin18
          refine cMiss rfl ?_
          refine xThen ?_
          refine cMiss rfl ?_
          refine xThen ?_
          refine xThen ?_
          have he := hF
          rw [← he] at hfin10
          refine cHit ?_
          exact hr10 _ _ _ hfin10 ⟨hf.keep ⟨rfl, rfl, rfl, rfl, rfl, rfl, rfl, rfl, rfl, trivial⟩, hc⟩
        · replace hF := condF hb hF
          clear hb
          refine wp_skip ?_
          refine h21 _ _ ?_
          refine cReg ?_
          refine stP hf rfl rfl rfl (pAdd rfl rfl) fun a hf => ?_
          refine stP hf rfl rfl rfl (pM rfl) fun a hf => ?_
          refine cNil ?_
          exact hK18 (W (x_1 + 1)) _ _ (Option.some.inj hF).symm ⟨hf.keep ⟨rfl, rfl, rfl, rfl, rfl, rfl, rfl, rfl, rfl, rfl, rfl, rfl, rfl, rfl, trivial⟩, hc⟩
      · replace hF := condF hb hF
        clear hb
        refine wp_exit ?_
        refine xThen ?_
        refine xThen ?_
        have he := Option.some.inj hF
        rw [← he] at hfin18
        refine cHit ?_
        exact hr18 _ _ _ hfin18 ⟨hf.keep ⟨rfl, rfl, rfl, rfl, rfl, rfl, rfl, rfl, rfl, rfl, rfl, rfl, rfl, rfl, trivial⟩, hc⟩
    · replace hF := condF hb hF
      clear hb
      refine wp_exit ?_
      refine xThen ?_
      refine xThen ?_
      have he := Option.some.inj hF
      rw [← he] at hfin10
      refine cHit ?_
      exact hr10 _ _ _ hfin10 ⟨hf.keep ⟨rfl, rfl, rfl, rfl, rfl, rfl, rfl, rfl, rfl, trivial⟩, hc⟩

def share_greatest_j8 (N : Nat) (x : Int) (x_3 : Int) (x_4 : Int) : Option (Step (Int × Int × Int) (share_quotient)) :=
  some (.cont (W (x + 1), x_3, x_4))
def share_greatest_b4 (N : Nat) (l : List share_quotient) (x : Int) (x_1 : Int) (x_2 : Int) : Option (Step (Int × Int × Int) (share_quotient)) :=
  cond (decide (x < ((l.length : Nat) : Int)))
  (Option.bind (getI l x) fun e_1 =>
  cond (share_quotient_more e_1 (⟨x_1, x_2⟩ : share_quotient))
  (share_greatest_j8 N x e_1.claim e_1.by_)
  (share_greatest_j8 N x x_1 x_2))
  (some (.brk (x, x_1, x_2)))
def share_greatest (N : Nat) (first : share_quotient) (l : List share_quotient) : Option (share_quotient) :=
  Option.bind (loopO (fun s4 => share_greatest_b4 N l s4.1 s4.2.1 s4.2.2) N (0, first.claim, first.by_)) fun x4 =>
  exK x4 (fun s4 => some (⟨s4.2.1, s4.2.2⟩ : share_quotient)) some
theorem share_greatest_ok {N : Nat} {G : Pers} {Lf : List Ent} {w : World} (first : share_quotient) (l : List share_quotient) {l_p : Option Addr} {l_c : Nat} (h_l : Rd G 2 l_p l_c (l.map enc_share_quotient)) (hc : Ctx G (Lf) w) {res : share_quotient} (hF : share_greatest N first l = some res) : Calls Try.prog 90 #[.agg #[.int .i64 first.claim, .int .i64 first.by_], .slice l_p l.length l_c] w (fun e w => e = .returned (.agg #[.int .i64 res.claim, .int .i64 res.by_]) ∧ Ctx G (Lf) w) := by
  unfold share_greatest at hF
  refine fnIn (args := [.agg #[.int .i64 first.claim, .int .i64 first.by_], .slice l_p l.length l_c]) Try.func90 rfl Try.ntmps90 rfl fun a hf => ?_
  refine wp_seq_k fun K1 h1 => ?_
  refine cReg ?_
  refine stBx (cs := [.int .i64 first.claim, .int .i64 first.by_]) hf hc rfl rfl rfl rfl fun b_1 a w hf hc => ?_
  refine stAl (cs := [.int .i64 0, .int .i64 0]) hf hc rfl rfl zr_165 rfl fun b_2 a w hf hc => ?_
  refine cNil ?_
  refine h1 _ _ ?_
  refine wp_seq_k fun K2 h2 => ?_
  refine wp_seq_k fun K3 h3 => ?_
  refine cReg ?_
  refine stP hf rfl rfl rfl (pM rfl) fun a hf => ?_
  refine stP hf rfl rfl rfl (pLenS Try.underlying171 rfl) fun a hf => ?_
  refine stP hf rfl rfl rfl (pM rfl) fun a hf => ?_
  refine cNil ?_
  refine h3 _ _ ?_
  refine wp_block ?_
  obtain ⟨x4, hx4, hF⟩ := bnd_some hF
  let S4 : (Int × Int × Int) → Act → World → Prop := (fun (zz : Int × Int × Int) a w => Has 19 a [(2, .pointer (some ⟨b_1, 0, none⟩)), (4, .pointer (some ⟨b_2, 0, none⟩)), (7, .slice l_p l.length l_c), (8, .int .i64 ((l.length : Nat) : Int)), (9, .int .i64 zz.1)] ∧ Ctx G (.box b_2 [.int .i64 0, .int .i64 0] 165 :: .box b_1 [.int .i64 zz.2.1, .int .i64 zz.2.2] 165 :: Lf) w)
  have hr4 : ∀ (zz : Int × Int × Int) a w, x4 = .go zz → S4 zz a w → K2 a w := by
    rintro ⟨x, x_1, x_2⟩ a w rfl ⟨hf, hc⟩
    replace hF : _ = some res := hF
    refine h2 _ _ ?_
    refine wp_seq_k fun K5 h5 => ?_
    refine cReg ?_
    refine stE hf hc rfl rfl rfl (eLdN (vs := [.int .i64 x_1, .int .i64 x_2]) ag_165 rfl rfl (cells_box (n := 2) m1 rfl)) fun a w hf hc => ?_
    refine stSt (vs := [.int .i64 x_1, .int .i64 x_2]) hf hc rfl rfl rfl rfl sz_165 rfl rfl u0 fun w hc => ?_
    refine cNil ?_
    refine h5 _ _ ?_
    refine wp_ret ?_
    obtain rfl := Option.some.inj hF
    replace hc := hc.drop k1
    exact fnOut1 (by simp) rfl Try.results90 hf hc (rv_cellN (vs := [.int .i64 x_1, .int .i64 x_2]) ag_165 rfl rfl (cells_box (n := 2) m0 rfl)) ⟨rfl, (hc.drop k0)⟩
  have ho4 : ∀ r, x4 = .out r → r = res := by
    rintro r rfl
    exact Option.some.inj hF
  refine cLoop N (loopW (S := S4) (x := x4) ?_ N (0, first.claim, first.by_) _ _ ⟨hf.keep ⟨rfl, rfl, rfl, rfl, rfl, trivial⟩, hc⟩ hx4)
  clear hF hf hc
  rintro ⟨x, x_1, x_2⟩ st4 a w KB4 ⟨hf, hc⟩ hF hfin4 hK4
  unfold share_greatest_b4 at hF
  refine wp_seq_k fun K6 h6 => ?_
  refine cReg ?_
  refine stP hf rfl rfl rfl (pLt rfl rfl) fun a hf => ?_
  refine cNil ?_
  refine h6 _ _ ?_
  refine wp_seq_k fun K7 h7 => ?_
  refine cCond (b := (decide (x < ((l.length : Nat) : Int)))) hf rfl (fun hb => ?_) (fun hb => ?_)
  · replace hF := condT hb hF
    clear hb
    refine wp_skip ?_
    refine h7 _ _ ?_
    refine wp_seq_k fun K8 h8 => ?_
    have hj8 : ∀ (x_3 : Int) (x_4 : Int) a w, Has 19 a [(2, .pointer (some ⟨b_1, 0, none⟩)), (4, .pointer (some ⟨b_2, 0, none⟩)), (7, .slice l_p l.length l_c), (8, .int .i64 ((l.length : Nat) : Int)), (9, .int .i64 x)] → Ctx G (.box b_2 [.int .i64 0, .int .i64 0] 165 :: .box b_1 [.int .i64 x_3, .int .i64 x_4] 165 :: Lf) w → share_greatest_j8 N x x_3 x_4 = some st4 → K8 a w := by
      intro x_3 x_4 a w hf hc hF
      unfold share_greatest_j8 at hF
      refine h8 _ _ ?_
      refine cReg ?_
      refine stP hf rfl rfl rfl (pAdd rfl rfl) fun a hf => ?_
      refine stP hf rfl rfl rfl (pM rfl) fun a hf => ?_
      refine cNil ?_
      exact hK4 (W (x + 1), x_3, x_4) _ _ (Option.some.inj hF).symm ⟨hf.keep ⟨rfl, rfl, rfl, rfl, rfl, trivial⟩, hc⟩
    refine wp_block ?_
    refine wp_seq_k fun K9 h9 => ?_
    refine cReg ?_
    obtain ⟨e_1, he_1, hF⟩ := bnd_some hF
    obtain ⟨b_3, o, qa, qp⟩ := h_l.atm he_1
    refine stP hf rfl rfl rfl (pIA Try.underlying171 sz_165 rfl rfl qa) fun a hf => ?_
    refine stE hf hc rfl rfl rfl (eLdN (vs := [.int .i64 e_1.claim, .int .i64 e_1.by_]) ag_165 rfl rfl (cells_pc qp (n := 2) (o' := 0) rfl)) fun a w hf hc => ?_
    refine stAl (cs := [.int .i64 0, .int .i64 0]) hf hc rfl rfl zr_165 rfl fun b_4 a w hf hc => ?_
    refine stSt (vs := [.int .i64 e_1.claim, .int .i64 e_1.by_]) hf hc rfl rfl rfl rfl sz_165 rfl rfl u0 fun w hc => ?_
    refine cNil ?_
    refine h9 _ _ ?_
    refine wp_seq_k fun K10 h10 => ?_
    refine cReg ?_
    refine stE hf hc rfl rfl rfl (eLdN (vs := [.int .i64 e_1.claim, .int .i64 e_1.by_]) ag_165 rfl rfl (cells_box (n := 2) m0 rfl)) fun a w hf hc => ?_
    refine stE hf hc rfl rfl rfl (eLdN (vs := [.int .i64 x_1, .int .i64 x_2]) ag_165 rfl rfl (cells_box (n := 2) m2 rfl)) fun a w hf hc => ?_
    refine stE hf hc rfl rfl rfl (eC (v := .bool (share_quotient_more e_1 (⟨x_1, x_2⟩ : share_quotient))) (vs := [.agg #[.int .i64 e_1.claim, .int .i64 e_1.by_], .agg #[.int .i64 x_1, .int .i64 x_2]]) (caps := []) en_84 rfl rfl rfl rfl (fun w hc => share_quotient_more_ok e_1 (⟨x_1, x_2⟩ : share_quotient) hc rfl)) fun a w hf hc => ?_
    refine cNil ?_
    refine h10 _ _ ?_
    refine cCond (b := (share_quotient_more e_1 (⟨x_1, x_2⟩ : share_quotient))) hf rfl (fun hb => ?_) (fun hb => ?_)
    · replace hF := condT hb hF
      clear hb
      refine cReg ?_
      refine stE hf hc rfl rfl rfl (eLdN (vs := [.int .i64 e_1.claim, .int .i64 e_1.by_]) ag_165 rfl rfl (cells_box (n := 2) m0 rfl)) fun a w hf hc => ?_
      refine stSt (vs := [.int .i64 e_1.claim, .int .i64 e_1.by_]) hf hc rfl rfl rfl rfl sz_165 rfl rfl u2 fun w hc => ?_
      refine cNil ?_
      replace hc := hc.drop k0
      exact hj8 e_1.claim e_1.by_ _ _  (hf.keep ⟨rfl, rfl, rfl, rfl, rfl, trivial⟩) hc hF
    · replace hF := condF hb hF
      clear hb
      refine wp_skip ?_
      replace hc := hc.drop k0
      exact hj8 x_1 x_2 _ _  (hf.keep ⟨rfl, rfl, rfl, rfl, rfl, trivial⟩) hc hF
  · replace hF := condF hb hF
    clear hb
    refine wp_exit ?_
    refine xThen ?_
    refine xThen ?_
    have he := Option.some.inj hF
    rw [← he] at hfin4
    refine cHit ?_
    exact hr4 _ _ _ hfin4 ⟨hf.keep ⟨rfl, rfl, rfl, rfl, rfl, trivial⟩, hc⟩

def share_quotient_ratio_b4 (N : Nat) (a_1 : Int) (b_3 : Int) : Option (Step (Int × Int) (api_Ratio)) :=
  cond (b_3 != 0)
  (Option.bind (nz b_3) fun un_2 =>
  some (.cont (b_3, a_1.tmod b_3)))
  (some (.brk (a_1, b_3)))
def share_quotient_ratio (N : Nat) (q : share_quotient) : Option (api_Ratio) :=
  Option.bind (loopO (fun s4 => share_quotient_ratio_b4 N s4.1 s4.2) N (q.claim, q.by_)) fun x4 =>
  exK x4 (fun s4 => Option.bind (nz s4.1) fun un =>
  Option.bind (nz s4.1) fun un_1 =>
  some (⟨W (q.claim.tdiv s4.1), W (q.by_.tdiv s4.1)⟩ : api_Ratio)) some
theorem share_quotient_ratio_ok {N : Nat} {G : Pers} {Lf : List Ent} {w : World} (q : share_quotient)   (hc : Ctx G (Lf) w) {res : api_Ratio} (hF : share_quotient_ratio N q = some res) : Calls Try.prog 91 #[.agg #[.int .i64 q.claim, .int .i64 q.by_]] w (fun e w => e = .returned (.agg #[.int .i64 res.N, .int .i64 res.D]) ∧ Ctx G (Lf) w) := by
  unfold share_quotient_ratio at hF
  refine fnIn (args := [.agg #[.int .i64 q.claim, .int .i64 q.by_]]) Try.func91 rfl Try.ntmps91 rfl fun a hf => ?_
  refine wp_seq_k fun K1 h1 => ?_
  refine cReg ?_
  refine stBx (cs := [.int .i64 q.claim, .int .i64 q.by_]) hf hc rfl rfl rfl rfl fun b_1 a w hf hc => ?_
  refine stAl (cs := [.int .i64 0, .int .i64 0]) hf hc rfl rfl zr_71 rfl fun b_2 a w hf hc => ?_
  refine cNil ?_
  refine h1 _ _ ?_
  refine wp_seq_k fun K2 h2 => ?_
  refine cQ hc follows_mx (by kernel_rfl) ?_
  refine qE hf rfl rfl rfl (Pu.ev (pFA fa_165_0 rfl)) fun a hf => ?_
  refine qE hf rfl rfl rfl (eLd1 sc_3 rfl (cell_box m1 rfl)) fun a hf => ?_
  refine qE hf rfl rfl rfl (Pu.ev (pFA fa_165_1 rfl)) fun a hf => ?_
  refine qE hf rfl rfl rfl (eLd1 sc_3 rfl (cell_box m1 rfl)) fun a hf => ?_
  refine qE hf rfl rfl rfl (Pu.ev (pA rfl)) fun a hf => ?_
  refine qE hf rfl rfl rfl (Pu.ev (pA rfl)) fun a hf => ?_
  intro w hc
  refine h2 _ _ ?_
  refine wp_seq_k fun K3 h3 => ?_
  refine wp_block ?_
  obtain ⟨x4, hx4, hF⟩ := bnd_some hF
  let S4 : (Int × Int) → Act → World → Prop := (fun (zz : Int × Int) a w => Has 24 a [(1, .pointer (some ⟨b_1, 0, none⟩)), (2, .pointer (some ⟨b_2, 0, none⟩)), (3, .int .i64 zz.1), (4, .int .i64 zz.2)] ∧ Ctx G (.box b_2 [.int .i64 0, .int .i64 0] 71 :: .box b_1 [.int .i64 q.claim, .int .i64 q.by_] 165 :: Lf) w)
  have hr4 : ∀ (zz : Int × Int) a w, x4 = .go zz → S4 zz a w → K3 a w := by
    rintro ⟨a_1, b_3⟩ a w rfl ⟨hf, hc⟩
    replace hF : _ = some res := hF
    refine h3 _ _ ?_
    refine wp_seq_k fun K5 h5 => ?_
    obtain ⟨un, hun, hF⟩ := bnd_some hF
    obtain ⟨un_1, hun_1, hF⟩ := bnd_some hF
    refine regionE (fun θ => [⟨none, none, 1, .pointer (some ⟨b_1, 0, none⟩)⟩, ⟨none, none, 2, .pointer (some ⟨b_2, 0, none⟩)⟩, ⟨none, none, 3, .int .i64 a_1⟩, ⟨some 0, none, 15, .pointer (some ⟨b_1, 0, none⟩)⟩, ⟨some 1, none, 16, .int .i64 q.claim⟩, ⟨some 2, none, 17, .int .i64 a_1⟩, ⟨some 3, none, 18, .int .i64 (W (q.claim.tdiv a_1))⟩, ⟨some 4, none, 19, .pointer (some ⟨b_1, 1, none⟩)⟩, ⟨some 5, none, 20, .int .i64 q.by_⟩, ⟨some 6, none, 21, .int .i64 a_1⟩, ⟨some 7, none, 22, .int .i64 (W (q.by_.tdiv a_1))⟩, ⟨some 8, none, 23, .agg #[.int .i64 (W (q.claim.tdiv a_1)), .int .i64 (W (q.by_.tdiv a_1))]⟩]) (fun E θ => (bif E 9 then .box b_2 [.int .i64 (W (q.claim.tdiv a_1)), .int .i64 (W (q.by_.tdiv a_1))] 71 else .box b_2 [.int .i64 0, .int .i64 0] 71) :: .box b_1 [.int .i64 q.claim, .int .i64 q.by_] 165 :: Lf) [] (fun a w => Has 24 a [(2, .pointer (some ⟨b_2, 0, none⟩))] ∧ Ctx G (.box b_2 [.int .i64 (W (q.claim.tdiv a_1)), .int .i64 (W (q.by_.tdiv a_1))] 71 :: .box b_1 [.int .i64 q.claim, .int .i64 q.by_] 165 :: Lf) w) follows_mx (by kernel_rfl) (by kernel_rfl) (HasE.of hf ⟨rfl, rfl, rfl, trivial, trivial, trivial, trivial, trivial, trivial, trivial, trivial, trivial, trivial⟩) hc ⟨?_, ?_, ?_, ?_, ?_, ?_, ?_, ?_, ?_, ?_, trivial⟩ ?_ ?_
    · intro E θ a w hD hi hp he hc
      have hf := he.h0
      replace hf := hf.more he 0 rfl onT
      refine stP hf rfl rfl rfl (pFA fa_165_0 rfl) fun a hf => ?_
      refine cNil ?_
      refine xThenN ?_
      intro ds u hau
      refine ⟨θ, he.put0 hi hau hf rfl 3 rfl rfl, ?_⟩
      exact hc
    · intro E θ a w hD hi hp he hc
      have e0 := hp.of (k := 0) rfl
      have hf := he.h0
      replace hf := hf.more he 3 rfl (onP e0)
      refine stE hf hc rfl rfl rfl (eLd1 sc_3 rfl (cell_box m1 rfl)) fun a w hf hc => ?_
      refine cNil ?_
      refine xThenN ?_
      intro ds u hau
      refine ⟨θ, he.put0 hi hau hf rfl 4 rfl rfl, ?_⟩
      exact hc
    · intro E θ a w hD hi hp he hc
      have hf := he.h0
      replace hf := hf.more he 2 rfl onT
      refine stP hf rfl rfl rfl (pM rfl) fun a hf => ?_
      refine cNil ?_
      refine xThenN ?_
      intro ds u hau
      refine ⟨θ, he.put0 hi hau hf rfl 5 rfl rfl, ?_⟩
      exact hc
    · intro E θ a w hD hi hp he hc
      have e1 := hp.of (k := 1) rfl
      have e2 := hp.of (k := 2) rfl
      have hf := he.h0
      replace hf := hf.more he 4 rfl (onP e1)
      replace hf := hf.more he 5 rfl (onP e2)
      refine stP hf rfl rfl rfl (pQuo rfl rfl (nz_spec hun)) fun a hf => ?_
      refine cNil ?_
      refine xThenN ?_
      intro ds u hau
      refine ⟨θ, he.put0 hi hau hf rfl 6 rfl rfl, ?_⟩
      exact hc
    · intro E θ a w hD hi hp he hc
      have hf := he.h0
      replace hf := hf.more he 0 rfl onT
      refine stP hf rfl rfl rfl (pFA fa_165_1 rfl) fun a hf => ?_
      refine cNil ?_
      refine xThenN ?_
      intro ds u hau
      refine ⟨θ, he.put0 hi hau hf rfl 7 rfl rfl, ?_⟩
      exact hc
    · intro E θ a w hD hi hp he hc
      have e4 := hp.of (k := 4) rfl
      have hf := he.h0
      replace hf := hf.more he 7 rfl (onP e4)
      refine stE hf hc rfl rfl rfl (eLd1 sc_3 rfl (cell_box m1 rfl)) fun a w hf hc => ?_
      refine cNil ?_
      refine xThenN ?_
      intro ds u hau
      refine ⟨θ, he.put0 hi hau hf rfl 8 rfl rfl, ?_⟩
      exact hc
    · intro E θ a w hD hi hp he hc
      have hf := he.h0
      replace hf := hf.more he 2 rfl onT
      refine stP hf rfl rfl rfl (pM rfl) fun a hf => ?_
      refine cNil ?_
      refine xThenN ?_
      intro ds u hau
      refine ⟨θ, he.put0 hi hau hf rfl 9 rfl rfl, ?_⟩
      exact hc
    · intro E θ a w hD hi hp he hc
      have e5 := hp.of (k := 5) rfl
      have e6 := hp.of (k := 6) rfl
      have hf := he.h0
      replace hf := hf.more he 8 rfl (onP e5)
      replace hf := hf.more he 9 rfl (onP e6)
      refine stP hf rfl rfl rfl (pQuo rfl rfl (nz_spec hun_1)) fun a hf => ?_
      refine cNil ?_
      refine xThenN ?_
      intro ds u hau
      refine ⟨θ, he.put0 hi hau hf rfl 10 rfl rfl, ?_⟩
      exact hc
    · intro E θ a w hD hi hp he hc
      have e3 := hp.of (k := 3) rfl
      have e7 := hp.of (k := 7) rfl
      have hf := he.h0
      replace hf := hf.more he 6 rfl (onP e3)
      replace hf := hf.more he 10 rfl (onP e7)
      refine stP hf rfl rfl rfl (pBuildS (cells := [.int .i64 (W (q.claim.tdiv a_1)), .int .i64 (W (q.by_.tdiv a_1))]) bt_71 rfl rfl) fun a hf => ?_
      refine cNil ?_
      refine xThenN ?_
      intro ds u hau
      refine ⟨θ, he.put0 hi hau hf rfl 11 rfl rfl, ?_⟩
      exact hc
    · intro E θ a w hD hi hp he hc
      have e8 := hp.of (k := 8) rfl
      try dsimp only at hc
      rw [hi] at hc
      have hf := he.h0
      replace hf := hf.more he 1 rfl onT
      replace hf := hf.more he 11 rfl (onP e8)
      refine stSt (vs := [.int .i64 (W (q.claim.tdiv a_1)), .int .i64 (W (q.by_.tdiv a_1))]) hf hc rfl rfl rfl rfl sz_71 rfl rfl u0 fun w hc => ?_
      refine cNil ?_
      refine xThenN ?_
      intro ds u hau
      refine ⟨θ, he.stay0 hi hau hf rfl, ?_⟩
      try dsimp only
      rw [updE_self E 9]
      exact hc
    · intro E θ a w hall he hc
      have hf := he.h0
      have e9 := hall 9 rfl
      replace hf := hf.more he 1 rfl (onT)
      try dsimp only at hc
      rw [e9] at hc
      exact ⟨hf.keep ⟨rfl, trivial⟩, hc⟩
    rintro a w ⟨hf, hc⟩
    refine h5 _ _ ?_
    refine wp_ret ?_
    obtain rfl := Option.some.inj hF
    replace hc := hc.drop k1
    exact fnOut1 (by simp) rfl Try.results91 hf hc (rv_cellN (vs := [.int .i64 (W (q.claim.tdiv a_1)), .int .i64 (W (q.by_.tdiv a_1))]) ag_71 rfl rfl (cells_box (n := 2) m0 rfl)) ⟨rfl, (hc.drop k0)⟩
  have ho4 : ∀ r, x4 = .out r → r = res := by
    rintro r rfl
    exact Option.some.inj hF
  refine cLoop N (loopW (S := S4) (x := x4) ?_ N (q.claim, q.by_) _ _ ⟨hf.keep ⟨rfl, rfl, rfl, rfl, trivial⟩, hc⟩ hx4)
  clear hF hf hc
  rintro ⟨a_1, b_3⟩ st4 a w KB4 ⟨hf, hc⟩ hF hfin4 hK4
  unfold share_quotient_ratio_b4 at hF
  refine wp_seq_k fun K6 h6 => ?_
  refine wp_seq_k fun K7 h7 => ?_
  refine cReg ?_
  refine stP hf rfl rfl rfl (pM rfl) fun a hf => ?_
  refine stP hf rfl rfl rfl (pNe rfl rfl) fun a hf => ?_
  refine cNil ?_
  refine h7 _ _ ?_
  refine cCond (b := (b_3 != 0)) hf rfl (fun hb => ?_) (fun hb => ?_)
  · replace hF := condT hb hF
    clear hb
    refine wp_skip ?_
    refine h6 _ _ ?_
    refine wp_thenK fun K8 h8 => ?_
    refine wp_block ?_
    obtain ⟨un_2, hun_2, hF⟩ := bnd_some hF
    refine cQ hc follows_mx (by kernel_rfl) ?_
    refine qE hf rfl rfl rfl (Pu.ev (pM rfl)) fun a hf => ?_
    refine qE hf rfl rfl rfl (Pu.ev (pM rfl)) fun a hf => ?_
    refine qE hf rfl rfl rfl (Pu.ev (pM rfl)) fun a hf => ?_
    refine qE hf rfl rfl rfl (Pu.ev (pRem rfl rfl (nz_spec hun_2))) fun a hf => ?_
    refine qE hf rfl rfl rfl (Pu.ev (pA rfl)) fun a hf => ?_
    refine qE hf rfl rfl rfl (Pu.ev (pA rfl)) fun a hf => ?_
    intro w hc
    refine h8 _ _ ?_
    exact hK4 (b_3, a_1.tmod b_3) _ _ (Option.some.inj hF).symm ⟨hf.keep ⟨rfl, rfl, rfl, rfl, trivial⟩, hc⟩
  · replace hF := condF hb hF
    clear hb
    refine wp_exit ?_
    refine xThen ?_
    refine xThen ?_
    have he := Option.some.inj hF
    rw [← he] at hfin4
    refine cHit ?_
    exact hr4 _ _ _ hfin4 ⟨hf.keep ⟨rfl, rfl, rfl, rfl, trivial⟩, hc⟩

def share_Divisors_j18 (N : Nat) (x : Int) (next__1 : List share_quotient) (x_3 : Int) (x_4 : Int) : Option (Step ((List share_quotient) × Int × Int × Int) (api_Ratio × api_Ratio × Int)) :=
  some (.cont (next__1, W (x + 1), x_3, x_4))
def share_Divisors_b10 (N : Nat) (claims : List Int) (shares : List Int) (rule : Int) (next_ : List share_quotient) (x : Int) (x_1 : Int) (x_2 : Int) : Option (Step ((List share_quotient) × Int × Int × Int) (api_Ratio × api_Ratio × Int)) :=
  cond (decide (x < ((shares.length : Nat) : Int)))
  (Option.bind (getI shares x) fun e_2 =>
  Option.bind (getI claims x) fun e_3 =>
  Option.bind (share_Rule_day N rule e_3 (W (e_2 + 1))) fun r_4 =>
  Option.bind (room ((next_ ++ [r_4])).length) fun un =>
  Option.bind (getI claims x) fun e_4 =>
  Option.bind (share_Rule_day N rule e_4 e_2) fun r_5 =>
  cond ((decide (0 < r_5.by_)) && (share_quotient_more (⟨x_1, x_2⟩ : share_quotient) r_5))
  (share_Divisors_j18 N x (next_ ++ [r_4]) r_5.claim r_5.by_)
  (share_Divisors_j18 N x (next_ ++ [r_4]) x_1 x_2))
  (some (.brk (next_, x, x_1, x_2)))
def share_Divisors (N : Nat) (claims : List Int) (shares : List Int) (rule : Int) : Option (api_Ratio × api_Ratio × Int) :=
  Option.bind (share_shared N claims shares rule) fun r =>
  cond (r != 0)
  (some ((⟨0, 0⟩ : api_Ratio), (⟨0, 0⟩ : api_Ratio), r))
  (Option.bind (loopO (fun s10 => share_Divisors_b10 N claims shares rule s10.1 s10.2.1 s10.2.2.1 s10.2.2.2) N (([] : List share_quotient), 0, 2000000, 1)) fun x10 =>
  exK x10 (fun s10 => Option.bind (getI s10.1 0) fun e_1 =>
  Option.bind (subO s10.1 1 ((s10.1.length : Nat) : Int)) fun sub =>
  Option.bind (share_greatest N e_1 sub) fun r_1 =>
  cond (share_quotient_more r_1 (⟨s10.2.2.1, s10.2.2.2⟩ : share_quotient))
  (some ((⟨0, 0⟩ : api_Ratio), (⟨0, 0⟩ : api_Ratio), 7))
  (Option.bind (share_quotient_ratio N r_1) fun r_2 =>
  Option.bind (share_quotient_ratio N (⟨s10.2.2.1, s10.2.2.2⟩ : share_quotient)) fun r_3 =>
  some (r_2, r_3, 0))) some)
theorem share_Divisors_ok {N : Nat} {G : Pers} {Lf : List Ent} {w : World} (claims : List Int) (shares : List Int) (rule : Int) {claims_p : Option Addr} {claims_c : Nat} {shares_p : Option Addr} {shares_c : Nat} (h_claims : Rd G 1 claims_p claims_c (claims.map encI_i64)) (h_shares : Rd G 1 shares_p shares_c (shares.map encI_i64)) (hc : Ctx G (Lf) w) {res : api_Ratio × api_Ratio × Int} (hF : share_Divisors N claims shares rule = some res) : Calls Try.prog 39 #[.slice claims_p claims.length claims_c, .slice shares_p shares.length shares_c, .int .i64 rule] w (fun e w => e = .returned (.tuple #[.agg #[.int .i64 res.1.N, .int .i64 res.1.D], .agg #[.int .i64 res.2.1.N, .int .i64 res.2.1.D], .int .i64 res.2.2]) ∧ Ctx G (Lf) w) := by
  unfold share_Divisors at hF
  refine fnIn (args := [.slice claims_p claims.length claims_c, .slice shares_p shares.length shares_c, .int .i64 rule]) Try.func39 rfl Try.ntmps39 rfl fun a hf => ?_
  refine wp_seq_k fun K1 h1 => ?_
  refine cReg ?_
  refine stAl (cs := [.int .i64 0, .int .i64 0]) hf hc rfl rfl zr_71 rfl fun b_1 a w hf hc => ?_
  refine stAl (cs := [.int .i64 0, .int .i64 0]) hf hc rfl rfl zr_71 rfl fun b_2 a w hf hc => ?_
  refine stP hf rfl rfl rfl (pA rfl) fun a hf => ?_
  refine cNil ?_
  refine h1 _ _ ?_
  refine wp_seq_k fun K2 h2 => ?_
  refine wp_seq_k fun K3 h3 => ?_
  refine cReg ?_
  refine stP hf rfl rfl rfl (pM rfl) fun a hf => ?_
  refine stP hf rfl rfl rfl (pM rfl) fun a hf => ?_
  refine stP hf rfl rfl rfl (pM rfl) fun a hf => ?_
  obtain ⟨r, hr, hF⟩ := bnd_some hF
  refine stE hf hc rfl rfl rfl (eC (v := .int .i64 r) (vs := [.slice claims_p claims.length claims_c, .slice shares_p shares.length shares_c, .int .i64 rule]) (caps := []) en_88 rfl rfl rfl rfl (fun w hc => share_shared_ok claims shares rule h_claims h_shares hc hr)) fun a w hf hc => ?_
  refine stP hf rfl rfl rfl (pA rfl) fun a hf => ?_
  refine cNil ?_
  refine h3 _ _ ?_
  refine wp_seq_k fun K4 h4 => ?_
  refine cReg ?_
  refine stP hf rfl rfl rfl (pM rfl) fun a hf => ?_
  refine stP hf rfl rfl rfl (pNe rfl rfl) fun a hf => ?_
  refine cNil ?_
  refine h4 _ _ ?_
  refine cCond (b := (r != 0)) hf rfl (fun hb => ?_) (fun hb => ?_)
  · replace hF := condT hb hF
    clear hb
    refine wp_seq_k fun K5 h5 => ?_
    refine cReg ?_
    refine stP hf rfl rfl rfl (pBuildS (cells := [.int .i64 0, .int .i64 0]) bt_71 rfl rfl) fun a hf => ?_
    refine stP hf rfl rfl rfl (pBuildS (cells := [.int .i64 0, .int .i64 0]) bt_71 rfl rfl) fun a hf => ?_
    refine stP hf rfl rfl rfl (pM rfl) fun a hf => ?_
    refine stSt (vs := [.int .i64 0, .int .i64 0]) hf hc rfl rfl rfl rfl sz_71 rfl rfl u1 fun w hc => ?_
    refine stSt (vs := [.int .i64 0, .int .i64 0]) hf hc rfl rfl rfl rfl sz_71 rfl rfl u0 fun w hc => ?_
    refine stP hf rfl rfl rfl (pA rfl) fun a hf => ?_
    refine cNil ?_
    refine h5 _ _ ?_
    refine wp_ret ?_
    refine xThenR ?_
    obtain rfl := Option.some.inj hF
    replace hc := hc.pick k0
    replace hc := hc.pick k1
    exact fnOut3 (by simp) rfl Try.results39 hf hc (rv_cellN (vs := [.int .i64 0, .int .i64 0]) ag_71 rfl rfl (cells_box (n := 2) m0 rfl)) (rv_cellN (vs := [.int .i64 0, .int .i64 0]) ag_71 rfl rfl (cells_box (n := 2) m1 rfl)) (show look _ 8 = _ from rfl) ⟨rfl, ((hc.drop k1).drop k0)⟩
  · replace hF := condF hb hF
    clear hb
    refine wp_skip ?_
    refine h2 _ _ ?_
    refine wp_seq_k fun K6 h6 => ?_
    refine cReg ?_
    refine stP hf rfl rfl rfl (pA rfl) fun a hf => ?_
    refine cNil ?_
    refine h6 _ _ ?_
    refine wp_seq_k fun K7 h7 => ?_
    refine cReg ?_
    refine stP hf rfl rfl rfl (pBuildS (cells := [.int .i64 2000000, .int .i64 1]) bt_165 rfl rfl) fun a hf => ?_
    refine stAl (cs := [.int .i64 0, .int .i64 0]) hf hc rfl rfl zr_165 rfl fun b_3 a w hf hc => ?_
    refine stSt (vs := [.int .i64 2000000, .int .i64 1]) hf hc rfl rfl rfl rfl sz_165 rfl rfl u0 fun w hc => ?_
    refine cNil ?_
    refine h7 _ _ ?_
    refine wp_seq_k fun K8 h8 => ?_
    refine wp_seq_k fun K9 h9 => ?_
    refine cReg ?_
    refine stP hf rfl rfl rfl (pM rfl) fun a hf => ?_
    refine stP hf rfl rfl rfl (pLenS Try.underlying36 rfl) fun a hf => ?_
    refine stP hf rfl rfl rfl (pM rfl) fun a hf => ?_
    refine cNil ?_
    refine h9 _ _ ?_
    refine wp_block ?_
    obtain ⟨x10, hx10, hF⟩ := bnd_some hF
    let S10 : ((List share_quotient) × Int × Int × Int) → Act → World → Prop := (fun (zz : (List share_quotient) × Int × Int × Int) a w => ∃ (p_1 : Option Addr) (c_1 : Nat), Has 76 a [(0, .slice claims_p claims.length claims_c), (2, .int .i64 rule), (6, .pointer (some ⟨b_1, 0, none⟩)), (7, .pointer (some ⟨b_2, 0, none⟩)), (10, .slice p_1 zz.1.length c_1), (11, .pointer (some ⟨b_3, 0, none⟩)), (26, .slice shares_p shares.length shares_c), (27, .int .i64 ((shares.length : Nat) : Int)), (28, .int .i64 zz.2.1)] ∧ Ctx G (.row p_1 c_1 (zz.1.map enc_share_quotient) 165 2 :: .box b_3 [.int .i64 zz.2.2.1, .int .i64 zz.2.2.2] 165 :: .box b_2 [.int .i64 0, .int .i64 0] 71 :: .box b_1 [.int .i64 0, .int .i64 0] 71 :: Lf) w)
    have hr10 : ∀ (zz : (List share_quotient) × Int × Int × Int) a w, x10 = .go zz → S10 zz a w → K8 a w := by
      rintro ⟨next_, x, x_1, x_2⟩ a w rfl ⟨p_1, c_1, hf, hc⟩
      replace hF : _ = some res := hF
      refine h8 _ _ ?_
      refine wp_seq_k fun K11 h11 => ?_
      obtain ⟨e_1, he_1, hF⟩ := bnd_some hF
      obtain ⟨g, rfl, qa, qr⟩ := row_atm hc m0 he_1
      have qc := row_cap hc m0
      obtain ⟨sub, hsub, hF⟩ := bnd_some hF
      obtain ⟨r_1, hr_1, hF⟩ := bnd_some hF
      replace hc := hc.nilRow 0 0
      refine regionE (fun θ => [⟨none, none, 6, .pointer (some ⟨b_1, 0, none⟩)⟩, ⟨none, none, 7, .pointer (some ⟨b_2, 0, none⟩)⟩, ⟨none, none, 10, .slice (some ⟨g, 0, none⟩) next_.length c_1⟩, ⟨none, none, 11, .pointer (some ⟨b_3, 0, none⟩)⟩, ⟨some 0, none, 61, .slice (some ⟨g, 0, none⟩) next_.length c_1⟩, ⟨some 1, none, 62, .pointer (some ⟨g, (0 : Int).toNat * 2, none⟩)⟩, ⟨some 2, none, 63, .agg #[.int .i64 e_1.claim, .int .i64 e_1.by_]⟩, ⟨some 3, none, 64, .slice (some ⟨g, 0, none⟩) next_.length c_1⟩, ⟨some 4, none, 65, .slice (subP (some ⟨g, 0, none⟩) c_1 (1 : Int).toNat 2) sub.length (c_1 - (1 : Int).toNat)⟩, ⟨some 5, none, 66, .agg #[.int .i64 r_1.claim, .int .i64 r_1.by_]⟩, ⟨some 6, none, 15, .pointer (some ⟨(θ 48).b, 0, none⟩)⟩]) (fun E θ => (bif E 7 then .box (θ 48).b [.int .i64 r_1.claim, .int .i64 r_1.by_] 165 else bif E 6 then .box (θ 48).b [.int .i64 0, .int .i64 0] 165 else .row none 0 [] 0 0) :: .row (some ⟨g, 0, none⟩) c_1 (next_.map enc_share_quotient) 165 2 :: .box b_3 [.int .i64 x_1, .int .i64 x_2] 165 :: .box b_2 [.int .i64 0, .int .i64 0] 71 :: .box b_1 [.int .i64 0, .int .i64 0] 71 :: Lf) [(7, 6)] (fun a w => ∃ (b_5 : Nat), Has 76 a [(6, .pointer (some ⟨b_1, 0, none⟩)), (7, .pointer (some ⟨b_2, 0, none⟩)), (11, .pointer (some ⟨b_3, 0, none⟩)), (15, .pointer (some ⟨b_5, 0, none⟩))] ∧ Ctx G (.box b_5 [.int .i64 r_1.claim, .int .i64 r_1.by_] 165 :: .row (some ⟨g, 0, none⟩) c_1 (next_.map enc_share_quotient) 165 2 :: .box b_3 [.int .i64 x_1, .int .i64 x_2] 165 :: .box b_2 [.int .i64 0, .int .i64 0] 71 :: .box b_1 [.int .i64 0, .int .i64 0] 71 :: Lf) w) follows_mx (by kernel_rfl) (by kernel_rfl) (HasE.of hf ⟨rfl, rfl, rfl, rfl, trivial, trivial, trivial, trivial, trivial, trivial, trivial, trivial⟩) hc ⟨?_, ?_, ?_, ?_, ?_, ?_, ?_, ?_, trivial⟩ ?_ ?_
      · intro E θ a w hD hi hp he hc
        have hf := he.h0
        replace hf := hf.more he 2 rfl onT
        refine stP hf rfl rfl rfl (pM rfl) fun a hf => ?_
        refine cNil ?_
        refine xThenN ?_
        intro ds u hau
        refine ⟨θ, he.put0 hi hau hf rfl 4 rfl rfl, ?_⟩
        exact hc
      · intro E θ a w hD hi hp he hc
        have e0 := hp.of (k := 0) rfl
        have hf := he.h0
        replace hf := hf.more he 4 rfl (onP e0)
        refine stP hf rfl rfl rfl (pIA Try.underlying171 sz_165 rfl rfl qa) fun a hf => ?_
        refine cNil ?_
        refine xThenN ?_
        intro ds u hau
        refine ⟨θ, he.put0 hi hau hf rfl 5 rfl rfl, ?_⟩
        exact hc
      · intro E θ a w hD hi hp he hc
        have e1 := hp.of (k := 1) rfl
        have hf := he.h0
        replace hf := hf.more he 5 rfl (onP e1)
        refine stE hf hc rfl rfl rfl (eLdN (vs := [.int .i64 e_1.claim, .int .i64 e_1.by_]) ag_165 rfl rfl (cells_rw (sz := 2) (i := (0 : Int).toNat) m1 qr (n := 2) (o' := 0) rfl)) fun a w hf hc => ?_
        refine cNil ?_
        refine xThenN ?_
        intro ds u hau
        refine ⟨θ, he.put0 hi hau hf rfl 6 rfl rfl, ?_⟩
        exact hc
      · intro E θ a w hD hi hp he hc
        have hf := he.h0
        replace hf := hf.more he 2 rfl onT
        refine stP hf rfl rfl rfl (pM rfl) fun a hf => ?_
        refine cNil ?_
        refine xThenN ?_
        intro ds u hau
        refine ⟨θ, he.put0 hi hau hf rfl 7 rfl rfl, ?_⟩
        exact hc
      · intro E θ a w hD hi hp he hc
        have e3 := hp.of (k := 3) rfl
        have hf := he.h0
        replace hf := hf.more he 7 rfl (onP e3)
        refine stP hf rfl rfl rfl (pSl Try.underlying171 sz_165 rfl rfl qc rfl rfl hsub) fun a hf => ?_
        refine cNil ?_
        refine xThenN ?_
        intro ds u hau
        refine ⟨θ, he.put0 hi hau hf rfl 8 rfl rfl, ?_⟩
        exact hc
      · intro E θ a w hD hi hp he hc
        have e2 := hp.of (k := 2) rfl
        have e4 := hp.of (k := 4) rfl
        have hf := he.h0
        replace hf := hf.more he 6 rfl (onP e2)
        replace hf := hf.more he 8 rfl (onP e4)
        refine stE hf hc rfl rfl rfl (eC (v := .agg #[.int .i64 r_1.claim, .int .i64 r_1.by_]) (vs := [.agg #[.int .i64 e_1.claim, .int .i64 e_1.by_], .slice (subP (some ⟨g, 0, none⟩) c_1 (1 : Int).toNat 2) sub.length (c_1 - (1 : Int).toNat)]) (caps := []) en_90 rfl rfl rfl rfl (fun w hc => by obtain ⟨G1, hle1, hrd1, hc, hth1⟩ := lend hc k1; exact (share_greatest_ok e_1 sub (Rd.sub hrd1 hsub) hc hr_1).mono fun e w h => ⟨h.1, ((hth1 _ _ h.2).unpick k1)⟩)) fun a w hf hc => ?_
        refine cNil ?_
        refine xThenN ?_
        intro ds u hau
        refine ⟨θ, he.put0 hi hau hf rfl 9 rfl rfl, ?_⟩
        exact hc
      · intro E θ a w hD hi hp he hc
        have e7 := hD.f 0 rfl hi
        try dsimp only at hc
        rw [hi, e7] at hc
        have hf := he.h0
        refine stAl (cs := [.int .i64 0, .int .i64 0]) hf hc rfl rfl zr_165 rfl fun b_4 a w hf hc => ?_
        refine cNil ?_
        refine xThenN ?_
        intro ds u hau
        replace hc := hc.drop k1
        refine ⟨(setT θ 48 ⟨b_4, none, 0⟩), he.put hi hau hf rfl [] trivial ⟨qq, qq, qq, qq, qq, qq, qq, qq, qq, qq, qq, trivial⟩, ?_⟩
        try dsimp only
        rw [updE_self E 6, updE_fls 6 e7 rfl]
        exact hc
      · intro E θ a w hD hi hp he hc
        have e5 := hp.of (k := 5) rfl
        have e6 := hp.of (k := 6) rfl
        try dsimp only at hc
        rw [e6, hi] at hc
        have hf := he.h0
        replace hf := hf.more he 9 rfl (onP e5)
        replace hf := hf.more he 10 rfl (onP e6)
        refine stSt (vs := [.int .i64 r_1.claim, .int .i64 r_1.by_]) hf hc rfl rfl rfl rfl sz_165 rfl rfl u0 fun w hc => ?_
        refine cNil ?_
        refine xThenN ?_
        intro ds u hau
        refine ⟨θ, he.stay0 hi hau hf rfl, ?_⟩
        try dsimp only
        rw [updE_tru 7 e6, updE_self E 7]
        exact hc
      · intro E θ a w hall he hc
        have hf := he.h0
        have e6 := hall 6 rfl
        have e7 := hall 7 rfl
        replace hf := hf.more he 10 rfl (onP e6)
        replace hf := hf.more he 3 rfl (onT)
        replace hf := hf.more he 1 rfl (onT)
        replace hf := hf.more he 0 rfl (onT)
        try dsimp only at hc
        rw [e6, e7] at hc
        exact ⟨(θ 48).b, hf.keep ⟨rfl, rfl, rfl, rfl, trivial⟩, hc⟩
      rintro a w ⟨b_5, hf, hc⟩
      refine h11 _ _ ?_
      refine wp_seq_k fun K12 h12 => ?_
      refine wp_seq_k fun K13 h13 => ?_
      refine cReg ?_
      refine stE hf hc rfl rfl rfl (eLdN (vs := [.int .i64 r_1.claim, .int .i64 r_1.by_]) ag_165 rfl rfl (cells_box (n := 2) m0 rfl)) fun a w hf hc => ?_
      refine stE hf hc rfl rfl rfl (eLdN (vs := [.int .i64 x_1, .int .i64 x_2]) ag_165 rfl rfl (cells_box (n := 2) m2 rfl)) fun a w hf hc => ?_
      refine stE hf hc rfl rfl rfl (eC (v := .bool (share_quotient_more r_1 (⟨x_1, x_2⟩ : share_quotient))) (vs := [.agg #[.int .i64 r_1.claim, .int .i64 r_1.by_], .agg #[.int .i64 x_1, .int .i64 x_2]]) (caps := []) en_84 rfl rfl rfl rfl (fun w hc => share_quotient_more_ok r_1 (⟨x_1, x_2⟩ : share_quotient) hc rfl)) fun a w hf hc => ?_
      refine cNil ?_
      refine h13 _ _ ?_
      refine cCond (b := (share_quotient_more r_1 (⟨x_1, x_2⟩ : share_quotient))) hf rfl (fun hb => ?_) (fun hb => ?_)
      · replace hF := condT hb hF
        clear hb
        refine wp_seq_k fun K14 h14 => ?_
        refine cReg ?_
        refine stP hf rfl rfl rfl (pBuildS (cells := [.int .i64 0, .int .i64 0]) bt_71 rfl rfl) fun a hf => ?_
        refine stP hf rfl rfl rfl (pBuildS (cells := [.int .i64 0, .int .i64 0]) bt_71 rfl rfl) fun a hf => ?_
        refine stSt (vs := [.int .i64 0, .int .i64 0]) hf hc rfl rfl rfl rfl sz_71 rfl rfl u4 fun w hc => ?_
        refine stSt (vs := [.int .i64 0, .int .i64 0]) hf hc rfl rfl rfl rfl sz_71 rfl rfl u3 fun w hc => ?_
        refine stP hf rfl rfl rfl (pA rfl) fun a hf => ?_
        refine cNil ?_
        refine h14 _ _ ?_
        refine wp_ret ?_
        refine xThenR ?_
        obtain rfl := Option.some.inj hF
        replace hc := hc.drop k2
        replace hc := hc.drop k1
        replace hc := hc.drop k0
        replace hc := hc.pick k0
        replace hc := hc.pick k1
        exact fnOut3 (by simp) rfl Try.results39 hf hc (rv_cellN (vs := [.int .i64 0, .int .i64 0]) ag_71 rfl rfl (cells_box (n := 2) m0 rfl)) (rv_cellN (vs := [.int .i64 0, .int .i64 0]) ag_71 rfl rfl (cells_box (n := 2) m1 rfl)) (show look _ 8 = _ from rfl) ⟨rfl, ((hc.drop k1).drop k0)⟩
      · replace hF := condF hb hF
        clear hb
        refine wp_skip ?_
        refine h12 _ _ ?_
        refine wp_seq_k fun K15 h15 => ?_
        obtain ⟨r_2, hr_2, hF⟩ := bnd_some hF
        obtain ⟨r_3, hr_3, hF⟩ := bnd_some hF
        refine regionE (fun θ => [⟨none, none, 6, .pointer (some ⟨b_1, 0, none⟩)⟩, ⟨none, none, 7, .pointer (some ⟨b_2, 0, none⟩)⟩, ⟨none, none, 11, .pointer (some ⟨b_3, 0, none⟩)⟩, ⟨none, none, 15, .pointer (some ⟨b_5, 0, none⟩)⟩, ⟨some 0, none, 72, .agg #[.int .i64 r_1.claim, .int .i64 r_1.by_]⟩, ⟨some 1, none, 73, .agg #[.int .i64 r_2.N, .int .i64 r_2.D]⟩, ⟨some 2, none, 74, .agg #[.int .i64 x_1, .int .i64 x_2]⟩, ⟨some 3, none, 75, .agg #[.int .i64 r_3.N, .int .i64 r_3.D]⟩, ⟨some 6, none, 8, .int .i64 0⟩]) (fun E θ => .box b_5 [.int .i64 r_1.claim, .int .i64 r_1.by_] 165 :: .row (some ⟨g, 0, none⟩) c_1 (next_.map enc_share_quotient) 165 2 :: .box b_3 [.int .i64 x_1, .int .i64 x_2] 165 :: (bif E 5 then .box b_2 [.int .i64 r_3.N, .int .i64 r_3.D] 71 else .box b_2 [.int .i64 0, .int .i64 0] 71) :: (bif E 4 then .box b_1 [.int .i64 r_2.N, .int .i64 r_2.D] 71 else .box b_1 [.int .i64 0, .int .i64 0] 71) :: Lf) [] (fun a w => Has 76 a [(6, .pointer (some ⟨b_1, 0, none⟩)), (7, .pointer (some ⟨b_2, 0, none⟩)), (8, .int .i64 0)] ∧ Ctx G (.box b_5 [.int .i64 r_1.claim, .int .i64 r_1.by_] 165 :: .row (some ⟨g, 0, none⟩) c_1 (next_.map enc_share_quotient) 165 2 :: .box b_3 [.int .i64 x_1, .int .i64 x_2] 165 :: .box b_2 [.int .i64 r_3.N, .int .i64 r_3.D] 71 :: .box b_1 [.int .i64 r_2.N, .int .i64 r_2.D] 71 :: Lf) w) follows_mx (by kernel_rfl) (by kernel_rfl) (HasE.of hf ⟨rfl, rfl, rfl, rfl, trivial, trivial, trivial, trivial, trivial, trivial⟩) hc ⟨?_, ?_, ?_, ?_, ?_, ?_, ?_, trivial⟩ ?_ ?_
        · intro E θ a w hD hi hp he hc
          have hf := he.h0
          replace hf := hf.more he 3 rfl onT
          refine stE hf hc rfl rfl rfl (eLdN (vs := [.int .i64 r_1.claim, .int .i64 r_1.by_]) ag_165 rfl rfl (cells_box (n := 2) m0 rfl)) fun a w hf hc => ?_
          refine cNil ?_
          refine xThenN ?_
          intro ds u hau
          refine ⟨θ, he.put0 hi hau hf rfl 4 rfl rfl, ?_⟩
          exact hc
        · intro E θ a w hD hi hp he hc
          have e0 := hp.of (k := 0) rfl
          have hf := he.h0
          replace hf := hf.more he 4 rfl (onP e0)
          refine stE hf hc rfl rfl rfl (eC (v := .agg #[.int .i64 r_2.N, .int .i64 r_2.D]) (vs := [.agg #[.int .i64 r_1.claim, .int .i64 r_1.by_]]) (caps := []) en_91 rfl rfl rfl rfl (fun w hc => share_quotient_ratio_ok r_1 hc hr_2)) fun a w hf hc => ?_
          refine cNil ?_
          refine xThenN ?_
          intro ds u hau
          refine ⟨θ, he.put0 hi hau hf rfl 5 rfl rfl, ?_⟩
          exact hc
        · intro E θ a w hD hi hp he hc
          have hf := he.h0
          replace hf := hf.more he 2 rfl onT
          refine stE hf hc rfl rfl rfl (eLdN (vs := [.int .i64 x_1, .int .i64 x_2]) ag_165 rfl rfl (cells_box (n := 2) m2 rfl)) fun a w hf hc => ?_
          refine cNil ?_
          refine xThenN ?_
          intro ds u hau
          refine ⟨θ, he.put0 hi hau hf rfl 6 rfl rfl, ?_⟩
          exact hc
        · intro E θ a w hD hi hp he hc
          have e2 := hp.of (k := 2) rfl
          have hf := he.h0
          replace hf := hf.more he 6 rfl (onP e2)
          refine stE hf hc rfl rfl rfl (eC (v := .agg #[.int .i64 r_3.N, .int .i64 r_3.D]) (vs := [.agg #[.int .i64 x_1, .int .i64 x_2]]) (caps := []) en_91 rfl rfl rfl rfl (fun w hc => share_quotient_ratio_ok (⟨x_1, x_2⟩ : share_quotient) hc hr_3)) fun a w hf hc => ?_
          refine cNil ?_
          refine xThenN ?_
          intro ds u hau
          refine ⟨θ, he.put0 hi hau hf rfl 7 rfl rfl, ?_⟩
          exact hc
        · intro E θ a w hD hi hp he hc
          have e1 := hp.of (k := 1) rfl
          try dsimp only at hc
          rw [hi] at hc
          have hf := he.h0
          replace hf := hf.more he 0 rfl onT
          replace hf := hf.more he 5 rfl (onP e1)
          refine stSt (vs := [.int .i64 r_2.N, .int .i64 r_2.D]) hf hc rfl rfl rfl rfl sz_71 rfl rfl u4 fun w hc => ?_
          refine cNil ?_
          refine xThenN ?_
          intro ds u hau
          refine ⟨θ, he.stay0 hi hau hf rfl, ?_⟩
          try dsimp only
          rw [updE_self E 4]
          exact hc
        · intro E θ a w hD hi hp he hc
          have e3 := hp.of (k := 3) rfl
          try dsimp only at hc
          rw [hi] at hc
          have hf := he.h0
          replace hf := hf.more he 1 rfl onT
          replace hf := hf.more he 7 rfl (onP e3)
          refine stSt (vs := [.int .i64 r_3.N, .int .i64 r_3.D]) hf hc rfl rfl rfl rfl sz_71 rfl rfl u3 fun w hc => ?_
          refine cNil ?_
          refine xThenN ?_
          intro ds u hau
          refine ⟨θ, he.stay0 hi hau hf rfl, ?_⟩
          try dsimp only
          rw [updE_self E 5]
          exact hc
        · intro E θ a w hD hi hp he hc
          have hf := he.h0
          refine stP hf rfl rfl rfl (pA rfl) fun a hf => ?_
          refine cNil ?_
          refine xThenN ?_
          intro ds u hau
          refine ⟨θ, he.put0 hi hau hf rfl 8 rfl rfl, ?_⟩
          exact hc
        · intro E θ a w hall he hc
          have hf := he.h0
          have e4 := hall 4 rfl
          have e5 := hall 5 rfl
          have e6 := hall 6 rfl
          replace hf := hf.more he 8 rfl (onP e6)
          replace hf := hf.more he 1 rfl (onT)
          replace hf := hf.more he 0 rfl (onT)
          try dsimp only at hc
          rw [e4, e5] at hc
          exact ⟨hf.keep ⟨rfl, rfl, rfl, trivial⟩, hc⟩
        rintro a w ⟨hf, hc⟩
        refine h15 _ _ ?_
        refine wp_ret ?_
        obtain rfl := Option.some.inj hF
        replace hc := hc.drop k2
        replace hc := hc.drop k1
        replace hc := hc.drop k0
        replace hc := hc.pick k0
        replace hc := hc.pick k1
        exact fnOut3 (by simp) rfl Try.results39 hf hc (rv_cellN (vs := [.int .i64 r_2.N, .int .i64 r_2.D]) ag_71 rfl rfl (cells_box (n := 2) m0 rfl)) (rv_cellN (vs := [.int .i64 r_3.N, .int .i64 r_3.D]) ag_71 rfl rfl (cells_box (n := 2) m1 rfl)) (show look _ 8 = _ from rfl) ⟨rfl, ((hc.drop k1).drop k0)⟩
    have ho10 : ∀ r, x10 = .out r → r = res := by
      rintro r rfl
      exact Option.some.inj hF
    replace hc := hc.nilRow 165 2
    refine cLoop N (loopW (S := S10) (x := x10) ?_ N (([] : List share_quotient), 0, 2000000, 1) _ _ ⟨none, 0, hf.keep ⟨rfl, rfl, rfl, rfl, rfl, rfl, rfl, rfl, rfl, trivial⟩, hc⟩ hx10)
    clear hF hf hc
    rintro ⟨next_, x, x_1, x_2⟩ st10 a w KB10 ⟨p_1, c_1, hf, hc⟩ hF hfin10 hK10
    unfold share_Divisors_b10 at hF
    refine wp_seq_k fun K16 h16 => ?_
    refine cReg ?_
    refine stP hf rfl rfl rfl (pLt rfl rfl) fun a hf => ?_
    refine cNil ?_
    refine h16 _ _ ?_
    refine wp_seq_k fun K17 h17 => ?_
    refine cCond (b := (decide (x < ((shares.length : Nat) : Int)))) hf rfl (fun hb => ?_) (fun hb => ?_)
    · replace hF := condT hb hF
      clear hb
      refine wp_skip ?_
      refine h17 _ _ ?_
      refine wp_seq_k fun K18 h18 => ?_
      have hj18 : ∀ (next__1 : List share_quotient) (x_3 : Int) (x_4 : Int) (p_2 : Option Addr) (c_2 : Nat) a w, Has 76 a [(0, .slice claims_p claims.length claims_c), (2, .int .i64 rule), (6, .pointer (some ⟨b_1, 0, none⟩)), (7, .pointer (some ⟨b_2, 0, none⟩)), (10, .slice p_2 next__1.length c_2), (11, .pointer (some ⟨b_3, 0, none⟩)), (26, .slice shares_p shares.length shares_c), (27, .int .i64 ((shares.length : Nat) : Int)), (28, .int .i64 x)] → Ctx G (.row p_2 c_2 (next__1.map enc_share_quotient) 165 2 :: .box b_3 [.int .i64 x_3, .int .i64 x_4] 165 :: .box b_2 [.int .i64 0, .int .i64 0] 71 :: .box b_1 [.int .i64 0, .int .i64 0] 71 :: Lf) w → share_Divisors_j18 N x next__1 x_3 x_4 = some st10 → K18 a w := by
        intro next__1 x_3 x_4 p_2 c_2 a w hf hc hF
        unfold share_Divisors_j18 at hF
        refine h18 _ _ ?_
        refine cReg ?_
        refine stP hf rfl rfl rfl (pAdd rfl rfl) fun a hf => ?_
        refine stP hf rfl rfl rfl (pM rfl) fun a hf => ?_
        refine cNil ?_
        exact hK10 (next__1, W (x + 1), x_3, x_4) _ _ (Option.some.inj hF).symm ⟨p_2, c_2, hf.keep ⟨rfl, rfl, rfl, rfl, rfl, rfl, rfl, rfl, rfl, trivial⟩, hc⟩
      refine wp_block ?_
      refine wp_seq_k fun K19 h19 => ?_
      refine cReg ?_
      refine stP hf rfl rfl rfl (pM rfl) fun a hf => ?_
      obtain ⟨e_2, he_2, hF⟩ := bnd_some hF
      obtain ⟨b_6, o, qa_1, qp⟩ := h_shares.atm he_2
      refine stP hf rfl rfl rfl (pIA Try.underlying36 sz_3 rfl rfl qa_1) fun a hf => ?_
      refine stE hf hc rfl rfl rfl (eLd1 sc_3 rfl (cell_pc (j := 0) qp rfl)) fun a w hf hc => ?_
      refine stP hf rfl rfl rfl (pA rfl) fun a hf => ?_
      refine stP hf rfl rfl rfl (pA rfl) fun a hf => ?_
      refine cNil ?_
      refine h19 _ _ ?_
      refine wp_seq_k fun K20 h20 => ?_
      refine cReg ?_
      refine stP hf rfl rfl rfl (pM rfl) fun a hf => ?_
      refine stP hf rfl rfl rfl (pM rfl) fun a hf => ?_
      refine stP hf rfl rfl rfl (pM rfl) fun a hf => ?_
      refine stP hf rfl rfl rfl (pM rfl) fun a hf => ?_
      obtain ⟨e_3, he_3, hF⟩ := bnd_some hF
      obtain ⟨b_7, o_1, qa_2, qp_1⟩ := h_claims.atm he_3
      refine stP hf rfl rfl rfl (pIA Try.underlying36 sz_3 rfl rfl qa_2) fun a hf => ?_
      refine stE hf hc rfl rfl rfl (eLd1 sc_3 rfl (cell_pc (j := 0) qp_1 rfl)) fun a w hf hc => ?_
      refine stP hf rfl rfl rfl (pM rfl) fun a hf => ?_
      refine stP hf rfl rfl rfl (pAdd rfl rfl) fun a hf => ?_
      obtain ⟨r_4, hr_4, hF⟩ := bnd_some hF
      refine stE hf hc rfl rfl rfl (eC (v := .agg #[.int .i64 r_4.claim, .int .i64 r_4.by_]) (vs := [.int .i64 rule, .int .i64 e_3, .int .i64 (W (e_2 + 1))]) (caps := []) en_83 rfl rfl rfl rfl (fun w hc => share_Rule_day_ok rule e_3 (W (e_2 + 1)) hc hr_4)) fun a w hf hc => ?_
      refine stBS (rows := ([r_4] : List share_quotient).map enc_share_quotient) (vs := [(0, .agg #[.int .i64 r_4.claim, .int .i64 r_4.by_])]) hf hc rfl rfl sl_171 rfl ⟨rfl, rfl, rfl, trivial⟩ rfl rfl fun b_8 a w hf hc => ?_
      obtain ⟨un, hun, hF⟩ := bnd_some hF
      refine stApm (xs := next_) (ys := ([r_4] : List share_quotient)) hf hc rfl rfl sl_171 rfl rfl rfl rfl rfl one_enc_share_quotient (src_row hc m0) (fun _ _ => u1) (by simpa using room_spec hun) fun p_3 c_3 a w hf hc => ?_
      refine stP hf rfl rfl rfl (pA rfl) fun a hf => ?_
      refine cNil ?_
      refine h20 _ _ ?_
      refine wp_seq_k fun K21 h21 => ?_
      refine cReg ?_
      refine stP hf rfl rfl rfl (pM rfl) fun a hf => ?_
      refine stP hf rfl rfl rfl (pM rfl) fun a hf => ?_
      refine stP hf rfl rfl rfl (pM rfl) fun a hf => ?_
      obtain ⟨e_4, he_4, hF⟩ := bnd_some hF
      obtain ⟨b_9, o_2, qa_3, qp_2⟩ := h_claims.atm he_4
      refine stP hf rfl rfl rfl (pIA Try.underlying36 sz_3 rfl rfl qa_3) fun a hf => ?_
      refine stE hf hc rfl rfl rfl (eLd1 sc_3 rfl (cell_pc (j := 0) qp_2 rfl)) fun a w hf hc => ?_
      refine stP hf rfl rfl rfl (pM rfl) fun a hf => ?_
      obtain ⟨r_5, hr_5, hF⟩ := bnd_some hF
      refine stE hf hc rfl rfl rfl (eC (v := .agg #[.int .i64 r_5.claim, .int .i64 r_5.by_]) (vs := [.int .i64 rule, .int .i64 e_4, .int .i64 e_2]) (caps := []) en_83 rfl rfl rfl rfl (fun w hc => share_Rule_day_ok rule e_4 e_2 hc hr_5)) fun a w hf hc => ?_
      refine stAl (cs := [.int .i64 0, .int .i64 0]) hf hc rfl rfl zr_165 rfl fun b_10 a w hf hc => ?_
      refine stSt (vs := [.int .i64 r_5.claim, .int .i64 r_5.by_]) hf hc rfl rfl rfl rfl sz_165 rfl rfl u0 fun w hc => ?_
      refine cNil ?_
      refine h21 _ _ ?_
      refine wp_seq_k fun K22 h22 => ?_
      refine cReg ?_
      refine stP hf rfl rfl rfl (pFA fa_165_1 rfl) fun a hf => ?_
      refine stE hf hc rfl rfl rfl (eLd1 sc_3 rfl (cell_box m0 rfl)) fun a w hf hc => ?_
      refine stP hf rfl rfl rfl (pGt rfl rfl) fun a hf => ?_
      refine stP hf rfl rfl rfl (pM rfl) fun a hf => ?_
      refine stCut 4 (fun a w => Has 76 a [(0, .slice claims_p claims.length claims_c), (2, .int .i64 rule), (6, .pointer (some ⟨b_1, 0, none⟩)), (7, .pointer (some ⟨b_2, 0, none⟩)), (10, .slice p_3 ((next_ ++ [r_4]).length) c_3), (11, .pointer (some ⟨b_3, 0, none⟩)), (26, .slice shares_p shares.length shares_c), (27, .int .i64 ((shares.length : Nat) : Int)), (28, .int .i64 x), (14, .pointer (some ⟨b_10, 0, none⟩)), (51, .pointer (some ⟨b_10, 1, none⟩)), (52, .int .i64 r_5.by_), (53, .bool (decide (0 < r_5.by_))), (54, .bool (decide (0 < r_5.by_))), (58, .bool ((decide (0 < r_5.by_)) && (share_quotient_more (⟨x_1, x_2⟩ : share_quotient) r_5)))] ∧ Ctx G (.box b_10 [.int .i64 r_5.claim, .int .i64 r_5.by_] 165 :: .row (some ⟨b_8, 0, none⟩) 1 (([r_4] : List share_quotient).map enc_share_quotient) 165 2 :: .row p_3 c_3 ((next_ ++ [r_4]).map enc_share_quotient) 165 2 :: .box b_3 [.int .i64 x_1, .int .i64 x_2] 165 :: .box b_2 [.int .i64 0, .int .i64 0] 71 :: .box b_1 [.int .i64 0, .int .i64 0] 71 :: Lf) w) ?_ ?_
      · cases hb : (decide (0 < r_5.by_))
        · rw [hb] at hf
          refine stS hf rfl rfl rfl fun a hf => ?_
          refine stS hf rfl rfl rfl fun a hf => ?_
          refine stS hf rfl rfl rfl fun a hf => ?_
          refine stP hf rfl rfl rfl (pPf rfl rfl) fun a hf => ?_
          exact cNil ⟨hf.keep ⟨rfl, rfl, rfl, rfl, rfl, rfl, rfl, rfl, rfl, rfl, rfl, rfl, rfl, rfl, rfl, trivial⟩, hc⟩
        · rw [hb] at hf
          refine stE hf hc rfl rfl rfl (eLdN (vs := [.int .i64 x_1, .int .i64 x_2]) ag_165 rfl rfl (cells_box (n := 2) m3 rfl)) fun a w hf hc => ?_
          refine stE hf hc rfl rfl rfl (eLdN (vs := [.int .i64 r_5.claim, .int .i64 r_5.by_]) ag_165 rfl rfl (cells_box (n := 2) m0 rfl)) fun a w hf hc => ?_
          refine stE hf hc rfl rfl rfl (eC (v := .bool (share_quotient_more (⟨x_1, x_2⟩ : share_quotient) r_5)) (vs := [.agg #[.int .i64 x_1, .int .i64 x_2], .agg #[.int .i64 r_5.claim, .int .i64 r_5.by_]]) (caps := []) en_84 rfl rfl rfl rfl (fun w hc => share_quotient_more_ok (⟨x_1, x_2⟩ : share_quotient) r_5 hc rfl)) fun a w hf hc => ?_
          refine stP hf rfl rfl rfl (pPt rfl rfl) fun a hf => ?_
          exact cNil ⟨hf.keep ⟨rfl, rfl, rfl, rfl, rfl, rfl, rfl, rfl, rfl, rfl, rfl, rfl, rfl, rfl, rfl, trivial⟩, hc⟩
      intro a w ⟨hf, hc⟩
      refine cNil ?_
      refine h22 _ _ ?_
      refine cCond (b := ((decide (0 < r_5.by_)) && (share_quotient_more (⟨x_1, x_2⟩ : share_quotient) r_5))) hf rfl (fun hb => ?_) (fun hb => ?_)
      · replace hF := condT hb hF
        clear hb
        refine cReg ?_
        refine stE hf hc rfl rfl rfl (eLdN (vs := [.int .i64 r_5.claim, .int .i64 r_5.by_]) ag_165 rfl rfl (cells_box (n := 2) m0 rfl)) fun a w hf hc => ?_
        refine stSt (vs := [.int .i64 r_5.claim, .int .i64 r_5.by_]) hf hc rfl rfl rfl rfl sz_165 rfl rfl u3 fun w hc => ?_
        refine cNil ?_
        replace hc := hc.drop k1
        replace hc := hc.drop k0
        exact hj18 (next_ ++ [r_4]) r_5.claim r_5.by_ p_3 c_3 _ _  (hf.keep ⟨rfl, rfl, rfl, rfl, rfl, rfl, rfl, rfl, rfl, trivial⟩) hc hF
      · replace hF := condF hb hF
        clear hb
        refine wp_skip ?_
        replace hc := hc.drop k1
        replace hc := hc.drop k0
        exact hj18 (next_ ++ [r_4]) x_1 x_2 p_3 c_3 _ _  (hf.keep ⟨rfl, rfl, rfl, rfl, rfl, rfl, rfl, rfl, rfl, trivial⟩) hc hF
    · replace hF := condF hb hF
      clear hb
      refine wp_exit ?_
      refine xThen ?_
      refine xThen ?_
      have he := Option.some.inj hF
      rw [← he] at hfin10
      refine cHit ?_
      exact hr10 _ _ _ hfin10 ⟨p_1, c_1, hf.keep ⟨rfl, rfl, rfl, rfl, rfl, rfl, rfl, rfl, rfl, trivial⟩, hc⟩

def law09_total_b5 (N : Nat) (l : List Int) (n : Int) (x : Int) : Option (Step (Int × Int) (Int)) :=
  cond (decide (x < ((l.length : Nat) : Int)))
  (Option.bind (getI l x) fun e_1 =>
  some (.cont (W (n + e_1), W (x + 1))))
  (some (.brk (n, x)))
def law09_total (N : Nat) (l : List Int) : Option (Int) :=
  Option.bind (loopO (fun s5 => law09_total_b5 N l s5.1 s5.2) N (0, 0)) fun x5 =>
  exK x5 (fun s5 => some s5.1) some
theorem law09_total_ok {N : Nat} {G : Pers} {Lf : List Ent} {w : World} (l : List Int) {l_p : Option Addr} {l_c : Nat} (h_l : Rd G 1 l_p l_c (l.map encI_i64)) (hc : Ctx G (Lf) w) {res : Int} (hF : law09_total N l = some res) : Calls Try.prog 31 #[.slice l_p l.length l_c] w (fun e w => e = .returned (.int .i64 res) ∧ Ctx G (Lf) w) := by
  unfold law09_total at hF
  refine fnIn (args := [.slice l_p l.length l_c]) Try.func31 rfl Try.ntmps31 rfl fun a hf => ?_
  refine wp_seq_k fun K1 h1 => ?_
  refine cReg ?_
  refine stP hf rfl rfl rfl (pA rfl) fun a hf => ?_
  refine cNil ?_
  refine h1 _ _ ?_
  refine wp_seq_k fun K2 h2 => ?_
  refine cReg ?_
  refine stP hf rfl rfl rfl (pA rfl) fun a hf => ?_
  refine cNil ?_
  refine h2 _ _ ?_
  refine wp_seq_k fun K3 h3 => ?_
  refine wp_seq_k fun K4 h4 => ?_
  refine cReg ?_
  refine stP hf rfl rfl rfl (pM rfl) fun a hf => ?_
  refine stP hf rfl rfl rfl (pLenS Try.underlying36 rfl) fun a hf => ?_
  refine stP hf rfl rfl rfl (pM rfl) fun a hf => ?_
  refine cNil ?_
  refine h4 _ _ ?_
  refine wp_block ?_
  obtain ⟨x5, hx5, hF⟩ := bnd_some hF
  let S5 : (Int × Int) → Act → World → Prop := (fun (zz : Int × Int) a w => Has 17 a [(3, .int .i64 zz.1), (6, .slice l_p l.length l_c), (7, .int .i64 ((l.length : Nat) : Int)), (8, .int .i64 zz.2)] ∧ Ctx G (Lf) w)
  have hr5 : ∀ (zz : Int × Int) a w, x5 = .go zz → S5 zz a w → K3 a w := by
    rintro ⟨n, x⟩ a w rfl ⟨hf, hc⟩
    replace hF : _ = some res := hF
    refine h3 _ _ ?_
    refine wp_seq_k fun K6 h6 => ?_
    refine cReg ?_
    refine stP hf rfl rfl rfl (pM rfl) fun a hf => ?_
    refine stP hf rfl rfl rfl (pA rfl) fun a hf => ?_
    refine cNil ?_
    refine h6 _ _ ?_
    refine wp_ret ?_
    obtain rfl := Option.some.inj hF
    exact fnOut1 (by simp) rfl Try.results31 hf hc (show look _ 2 = _ from rfl) ⟨rfl, hc⟩
  have ho5 : ∀ r, x5 = .out r → r = res := by
    rintro r rfl
    exact Option.some.inj hF
  refine cLoop N (loopW (S := S5) (x := x5) ?_ N (0, 0) _ _ ⟨hf.keep ⟨rfl, rfl, rfl, rfl, trivial⟩, hc⟩ hx5)
  clear hF hf hc
  rintro ⟨n, x⟩ st5 a w KB5 ⟨hf, hc⟩ hF hfin5 hK5
  unfold law09_total_b5 at hF
  refine wp_seq_k fun K7 h7 => ?_
  refine cReg ?_
  refine stP hf rfl rfl rfl (pLt rfl rfl) fun a hf => ?_
  refine cNil ?_
  refine h7 _ _ ?_
  refine wp_seq_k fun K8 h8 => ?_
  refine cCond (b := (decide (x < ((l.length : Nat) : Int)))) hf rfl (fun hb => ?_) (fun hb => ?_)
  · replace hF := condT hb hF
    clear hb
    refine wp_skip ?_
    refine h8 _ _ ?_
    refine wp_seq_k fun K9 h9 => ?_
    refine wp_block ?_
    refine wp_seq_k fun K10 h10 => ?_
    refine cReg ?_
    obtain ⟨e_1, he_1, hF⟩ := bnd_some hF
    obtain ⟨b_1, o, qa, qp⟩ := h_l.atm he_1
    refine stP hf rfl rfl rfl (pIA Try.underlying36 sz_3 rfl rfl qa) fun a hf => ?_
    refine stE hf hc rfl rfl rfl (eLd1 sc_3 rfl (cell_pc (j := 0) qp rfl)) fun a w hf hc => ?_
    refine stP hf rfl rfl rfl (pA rfl) fun a hf => ?_
    refine cNil ?_
    refine h10 _ _ ?_
    refine cReg ?_
    refine stP hf rfl rfl rfl (pM rfl) fun a hf => ?_
    refine stP hf rfl rfl rfl (pM rfl) fun a hf => ?_
    refine stP hf rfl rfl rfl (pAdd rfl rfl) fun a hf => ?_
    refine stP hf rfl rfl rfl (pA rfl) fun a hf => ?_
    refine cNil ?_
    refine h9 _ _ ?_
    refine cReg ?_
    refine stP hf rfl rfl rfl (pAdd rfl rfl) fun a hf => ?_
    refine stP hf rfl rfl rfl (pM rfl) fun a hf => ?_
    refine cNil ?_
    exact hK5 (W (n + e_1), W (x + 1)) _ _ (Option.some.inj hF).symm ⟨hf.keep ⟨rfl, rfl, rfl, rfl, trivial⟩, hc⟩
  · replace hF := condF hb hF
    clear hb
    refine wp_exit ?_
    refine xThen ?_
    refine xThen ?_
    have he := Option.some.inj hF
    rw [← he] at hfin5
    refine cHit ?_
    exact hr5 _ _ _ hfin5 ⟨hf.keep ⟨rfl, rfl, rfl, rfl, trivial⟩, hc⟩

def share_proof_proves (N : Nat) (p_ : share_proof) (claim : Int) (n : Int) : Option (Bool) :=
  Option.bind (share_Rule_day N p_.rule claim n) fun r =>
  Option.bind (share_Rule_day N p_.rule claim (W (n + 1))) fun r_1 =>
  some (((decide (r.by_ ≤ 0)) || (!(share_quotient_more p_.divisor r))) && (!(share_quotient_more r_1 p_.divisor)))
theorem share_proof_proves_ok {N : Nat} {G : Pers} {Lf : List Ent} {w : World} (p_ : share_proof) (claim : Int) (n : Int)   (hc : Ctx G (Lf) w) {res : Bool} (hF : share_proof_proves N p_ claim n = some res) : Calls Try.prog 93 #[.agg #[.int .i64 p_.rule, .int .i64 p_.divisor.claim, .int .i64 p_.divisor.by_], .int .i64 claim, .int .i64 n] w (fun e w => e = .returned (.bool res) ∧ Ctx G (Lf) w) := by
  unfold share_proof_proves at hF
  refine fnIn (args := [.agg #[.int .i64 p_.rule, .int .i64 p_.divisor.claim, .int .i64 p_.divisor.by_], .int .i64 claim, .int .i64 n]) Try.func93 rfl Try.ntmps93 rfl fun a hf => ?_
  refine wp_seq_k fun K1 h1 => ?_
  refine cReg ?_
  refine stBx (cs := [.int .i64 p_.rule, .int .i64 p_.divisor.claim, .int .i64 p_.divisor.by_]) hf hc rfl rfl rfl rfl fun b_1 a w hf hc => ?_
  refine stP hf rfl rfl rfl (pA rfl) fun a hf => ?_
  refine cNil ?_
  refine h1 _ _ ?_
  refine wp_seq_k fun K2 h2 => ?_
  obtain ⟨r, hr, hF⟩ := bnd_some hF
  obtain ⟨r_1, hr_1, hF⟩ := bnd_some hF
  replace hc := hc.nilRow 0 0
  replace hc := hc.nilRow 0 0
  refine regionE (fun θ => [⟨none, none, 1, .int .i64 claim⟩, ⟨none, none, 2, .int .i64 n⟩, ⟨none, none, 3, .pointer (some ⟨b_1, 0, none⟩)⟩, ⟨some 0, none, 9, .pointer (some ⟨b_1, 0, none⟩)⟩, ⟨some 1, none, 10, .int .i64 p_.rule⟩, ⟨some 2, none, 11, .int .i64 claim⟩, ⟨some 3, none, 12, .int .i64 n⟩, ⟨some 4, none, 13, .agg #[.int .i64 r.claim, .int .i64 r.by_]⟩, ⟨some 5, none, 14, .pointer (some ⟨b_1, 0, none⟩)⟩, ⟨some 6, none, 15, .int .i64 p_.rule⟩, ⟨some 7, none, 16, .int .i64 claim⟩, ⟨some 8, none, 17, .int .i64 n⟩, ⟨some 9, none, 18, .int .i64 (W (n + 1))⟩, ⟨some 10, none, 19, .agg #[.int .i64 r_1.claim, .int .i64 r_1.by_]⟩, ⟨some 11, none, 7, .pointer (some ⟨(θ 88).b, 0, none⟩)⟩, ⟨some 12, none, 8, .pointer (some ⟨(θ 96).b, 0, none⟩)⟩]) (fun E θ => (bif E 14 then .box (θ 96).b [.int .i64 r_1.claim, .int .i64 r_1.by_] 165 else bif E 12 then .box (θ 96).b [.int .i64 0, .int .i64 0] 165 else .row none 0 [] 0 0) :: (bif E 13 then .box (θ 88).b [.int .i64 r.claim, .int .i64 r.by_] 165 else bif E 11 then .box (θ 88).b [.int .i64 0, .int .i64 0] 165 else .row none 0 [] 0 0) :: .box b_1 [.int .i64 p_.rule, .int .i64 p_.divisor.claim, .int .i64 p_.divisor.by_] 177 :: Lf) [(13, 11), (14, 12)] (fun a w => ∃ (b_4 : Nat) (b_5 : Nat), Has 37 a [(3, .pointer (some ⟨b_1, 0, none⟩)), (7, .pointer (some ⟨b_4, 0, none⟩)), (8, .pointer (some ⟨b_5, 0, none⟩))] ∧ Ctx G (.box b_5 [.int .i64 r_1.claim, .int .i64 r_1.by_] 165 :: .box b_4 [.int .i64 r.claim, .int .i64 r.by_] 165 :: .box b_1 [.int .i64 p_.rule, .int .i64 p_.divisor.claim, .int .i64 p_.divisor.by_] 177 :: Lf) w) follows_mx (by kernel_rfl) (by kernel_rfl) (HasE.of hf ⟨rfl, rfl, rfl, trivial, trivial, trivial, trivial, trivial, trivial, trivial, trivial, trivial, trivial, trivial, trivial, trivial, trivial⟩) hc ⟨?_, ?_, ?_, ?_, ?_, ?_, ?_, ?_, ?_, ?_, ?_, ?_, ?_, ?_, ?_, trivial⟩ ?_ ?_
  · intro E θ a w hD hi hp he hc
    have hf := he.h0
    replace hf := hf.more he 2 rfl onT
    refine stP hf rfl rfl rfl (pFA fa_177_0 rfl) fun a hf => ?_
    refine cNil ?_
    refine xThenN ?_
    intro ds u hau
    refine ⟨θ, he.put0 hi hau hf rfl 3 rfl rfl, ?_⟩
    exact hc
  · intro E θ a w hD hi hp he hc
    have e0 := hp.of (k := 0) rfl
    have hf := he.h0
    replace hf := hf.more he 3 rfl (onP e0)
    refine stE hf hc rfl rfl rfl (eLd1 sc_65 rfl (cell_box m2 rfl)) fun a w hf hc => ?_
    refine cNil ?_
    refine xThenN ?_
    intro ds u hau
    refine ⟨θ, he.put0 hi hau hf rfl 4 rfl rfl, ?_⟩
    exact hc
  · intro E θ a w hD hi hp he hc
    have hf := he.h0
    replace hf := hf.more he 0 rfl onT
    refine stP hf rfl rfl rfl (pM rfl) fun a hf => ?_
    refine cNil ?_
    refine xThenN ?_
    intro ds u hau
    refine ⟨θ, he.put0 hi hau hf rfl 5 rfl rfl, ?_⟩
    exact hc
  · intro E θ a w hD hi hp he hc
    have hf := he.h0
    replace hf := hf.more he 1 rfl onT
    refine stP hf rfl rfl rfl (pM rfl) fun a hf => ?_
    refine cNil ?_
    refine xThenN ?_
    intro ds u hau
    refine ⟨θ, he.put0 hi hau hf rfl 6 rfl rfl, ?_⟩
    exact hc
  · intro E θ a w hD hi hp he hc
    have e1 := hp.of (k := 1) rfl
    have e2 := hp.of (k := 2) rfl
    have e3 := hp.of (k := 3) rfl
    have hf := he.h0
    replace hf := hf.more he 4 rfl (onP e1)
    replace hf := hf.more he 5 rfl (onP e2)
    replace hf := hf.more he 6 rfl (onP e3)
    refine stE hf hc rfl rfl rfl (eC (v := .agg #[.int .i64 r.claim, .int .i64 r.by_]) (vs := [.int .i64 p_.rule, .int .i64 claim, .int .i64 n]) (caps := []) en_83 rfl rfl rfl rfl (fun w hc => share_Rule_day_ok p_.rule claim n hc hr)) fun a w hf hc => ?_
    refine cNil ?_
    refine xThenN ?_
    intro ds u hau
    refine ⟨θ, he.put0 hi hau hf rfl 7 rfl rfl, ?_⟩
    exact hc
  · intro E θ a w hD hi hp he hc
    have hf := he.h0
    replace hf := hf.more he 2 rfl onT
    refine stP hf rfl rfl rfl (pFA fa_177_0 rfl) fun a hf => ?_
    refine cNil ?_
    refine xThenN ?_
    intro ds u hau
    refine ⟨θ, he.put0 hi hau hf rfl 8 rfl rfl, ?_⟩
    exact hc
  · intro E θ a w hD hi hp he hc
    have e5 := hp.of (k := 5) rfl
    have hf := he.h0
    replace hf := hf.more he 8 rfl (onP e5)
    refine stE hf hc rfl rfl rfl (eLd1 sc_65 rfl (cell_box m2 rfl)) fun a w hf hc => ?_
    refine cNil ?_
    refine xThenN ?_
    intro ds u hau
    refine ⟨θ, he.put0 hi hau hf rfl 9 rfl rfl, ?_⟩
    exact hc
  · intro E θ a w hD hi hp he hc
    have hf := he.h0
    replace hf := hf.more he 0 rfl onT
    refine stP hf rfl rfl rfl (pM rfl) fun a hf => ?_
    refine cNil ?_
    refine xThenN ?_
    intro ds u hau
    refine ⟨θ, he.put0 hi hau hf rfl 10 rfl rfl, ?_⟩
    exact hc
  · intro E θ a w hD hi hp he hc
    have hf := he.h0
    replace hf := hf.more he 1 rfl onT
    refine stP hf rfl rfl rfl (pM rfl) fun a hf => ?_
    refine cNil ?_
    refine xThenN ?_
    intro ds u hau
    refine ⟨θ, he.put0 hi hau hf rfl 11 rfl rfl, ?_⟩
    exact hc
  · intro E θ a w hD hi hp he hc
    have e8 := hp.of (k := 8) rfl
    have hf := he.h0
    replace hf := hf.more he 11 rfl (onP e8)
    refine stP hf rfl rfl rfl (pAdd rfl rfl) fun a hf => ?_
    refine cNil ?_
    refine xThenN ?_
    intro ds u hau
    refine ⟨θ, he.put0 hi hau hf rfl 12 rfl rfl, ?_⟩
    exact hc
  · intro E θ a w hD hi hp he hc
    have e6 := hp.of (k := 6) rfl
    have e7 := hp.of (k := 7) rfl
    have e9 := hp.of (k := 9) rfl
    have hf := he.h0
    replace hf := hf.more he 9 rfl (onP e6)
    replace hf := hf.more he 10 rfl (onP e7)
    replace hf := hf.more he 12 rfl (onP e9)
    refine stE hf hc rfl rfl rfl (eC (v := .agg #[.int .i64 r_1.claim, .int .i64 r_1.by_]) (vs := [.int .i64 p_.rule, .int .i64 claim, .int .i64 (W (n + 1))]) (caps := []) en_83 rfl rfl rfl rfl (fun w hc => share_Rule_day_ok p_.rule claim (W (n + 1)) hc hr_1)) fun a w hf hc => ?_
    refine cNil ?_
    refine xThenN ?_
    intro ds u hau
    refine ⟨θ, he.put0 hi hau hf rfl 13 rfl rfl, ?_⟩
    exact hc
  · intro E θ a w hD hi hp he hc
    have e13 := hD.f 0 rfl hi
    try dsimp only at hc
    rw [hi, e13] at hc
    have hf := he.h0
    refine stAl (cs := [.int .i64 0, .int .i64 0]) hf hc rfl rfl zr_165 rfl fun b_2 a w hf hc => ?_
    refine cNil ?_
    refine xThenN ?_
    intro ds u hau
    replace hc := hc.drop k2
    replace hc := hc.pick k0
    replace hc := hc.pick k1
    refine ⟨(setT θ 88 ⟨b_2, none, 0⟩), he.put hi hau hf rfl [] trivial ⟨qq, qq, qq, qq, qq, qq, qq, qq, qq, qq, qq, qq, qq, qq, qq, qq, trivial⟩, ?_⟩
    try dsimp only
    rw [updE_self E 11, updE_fls 11 e13 rfl]
    exact hc
  · intro E θ a w hD hi hp he hc
    have e14 := hD.f 1 rfl hi
    try dsimp only at hc
    rw [hi, e14] at hc
    have hf := he.h0
    refine stAl (cs := [.int .i64 0, .int .i64 0]) hf hc rfl rfl zr_165 rfl fun b_3 a w hf hc => ?_
    refine cNil ?_
    refine xThenN ?_
    intro ds u hau
    replace hc := hc.drop k1
    refine ⟨(setT θ 96 ⟨b_3, none, 0⟩), he.put hi hau hf rfl [] trivial ⟨qq, qq, qq, qq, qq, qq, qq, qq, qq, qq, qq, qq, qq, qq, qq, qq, trivial⟩, ?_⟩
    try dsimp only
    rw [updE_self E 12, updE_fls 12 e14 rfl]
    exact hc
  · intro E θ a w hD hi hp he hc
    have e4 := hp.of (k := 4) rfl
    have e11 := hp.of (k := 11) rfl
    try dsimp only at hc
    rw [e11, hi] at hc
    have hf := he.h0
    replace hf := hf.more he 7 rfl (onP e4)
    replace hf := hf.more he 14 rfl (onP e11)
    refine stSt (vs := [.int .i64 r.claim, .int .i64 r.by_]) hf hc rfl rfl rfl rfl sz_165 rfl rfl u1 fun w hc => ?_
    refine cNil ?_
    refine xThenN ?_
    intro ds u hau
    refine ⟨θ, he.stay0 hi hau hf rfl, ?_⟩
    try dsimp only
    rw [updE_tru 13 e11, updE_self E 13]
    exact hc
  · intro E θ a w hD hi hp he hc
    have e10 := hp.of (k := 10) rfl
    have e12 := hp.of (k := 12) rfl
    try dsimp only at hc
    rw [e12, hi] at hc
    have hf := he.h0
    replace hf := hf.more he 13 rfl (onP e10)
    replace hf := hf.more he 15 rfl (onP e12)
    refine stSt (vs := [.int .i64 r_1.claim, .int .i64 r_1.by_]) hf hc rfl rfl rfl rfl sz_165 rfl rfl u0 fun w hc => ?_
    refine cNil ?_
    refine xThenN ?_
    intro ds u hau
    refine ⟨θ, he.stay0 hi hau hf rfl, ?_⟩
    try dsimp only
    rw [updE_tru 14 e12, updE_self E 14]
    exact hc
  · intro E θ a w hall he hc
    have hf := he.h0
    have e11 := hall 11 rfl
    have e12 := hall 12 rfl
    have e13 := hall 13 rfl
    have e14 := hall 14 rfl
    replace hf := hf.more he 15 rfl (onP e12)
    replace hf := hf.more he 14 rfl (onP e11)
    replace hf := hf.more he 2 rfl (onT)
    try dsimp only at hc
    rw [e11, e12, e13, e14] at hc
    exact ⟨(θ 88).b, (θ 96).b, hf.keep ⟨rfl, rfl, rfl, trivial⟩, hc⟩
  rintro a w ⟨b_4, b_5, hf, hc⟩
  refine h2 _ _ ?_
  refine wp_seq_k fun K3 h3 => ?_
  refine cReg ?_
  refine stP hf rfl rfl rfl (pFA fa_165_1 rfl) fun a hf => ?_
  refine stE hf hc rfl rfl rfl (eLd1 sc_3 rfl (cell_box m1 rfl)) fun a w hf hc => ?_
  refine stP hf rfl rfl rfl (pLe rfl rfl) fun a hf => ?_
  refine stP hf rfl rfl rfl (pM rfl) fun a hf => ?_
  refine stCut 6 (fun a w => Has 37 a [(3, .pointer (some ⟨b_1, 0, none⟩)), (7, .pointer (some ⟨b_4, 0, none⟩)), (8, .pointer (some ⟨b_5, 0, none⟩)), (20, .pointer (some ⟨b_4, 1, none⟩)), (21, .int .i64 r.by_), (22, .bool (decide (r.by_ ≤ 0))), (23, .bool (decide (r.by_ ≤ 0))), (29, .bool ((decide (r.by_ ≤ 0)) || (!(share_quotient_more p_.divisor r))))] ∧ Ctx G (.box b_5 [.int .i64 r_1.claim, .int .i64 r_1.by_] 165 :: .box b_4 [.int .i64 r.claim, .int .i64 r.by_] 165 :: .box b_1 [.int .i64 p_.rule, .int .i64 p_.divisor.claim, .int .i64 p_.divisor.by_] 177 :: Lf) w) ?_ ?_
  · cases hb : (decide (r.by_ ≤ 0))
    · rw [hb] at hf
      refine stP hf rfl rfl rfl (pFA fa_177_1 rfl) fun a hf => ?_
      refine stE hf hc rfl rfl rfl (eLdN (vs := [.int .i64 p_.divisor.claim, .int .i64 p_.divisor.by_]) ag_165 rfl rfl (cells_box (n := 2) m2 rfl)) fun a w hf hc => ?_
      refine stE hf hc rfl rfl rfl (eLdN (vs := [.int .i64 r.claim, .int .i64 r.by_]) ag_165 rfl rfl (cells_box (n := 2) m1 rfl)) fun a w hf hc => ?_
      refine stE hf hc rfl rfl rfl (eC (v := .bool (share_quotient_more p_.divisor r)) (vs := [.agg #[.int .i64 p_.divisor.claim, .int .i64 p_.divisor.by_], .agg #[.int .i64 r.claim, .int .i64 r.by_]]) (caps := []) en_84 rfl rfl rfl rfl (fun w hc => share_quotient_more_ok p_.divisor r hc rfl)) fun a w hf hc => ?_
      refine stP hf rfl rfl rfl (pNot rfl) fun a hf => ?_
      refine stP hf rfl rfl rfl (pPf rfl rfl) fun a hf => ?_
      exact cNil ⟨hf.keep ⟨rfl, rfl, rfl, rfl, rfl, rfl, rfl, rfl, trivial⟩, hc⟩
    · rw [hb] at hf
      refine stS hf rfl rfl rfl fun a hf => ?_
      refine stS hf rfl rfl rfl fun a hf => ?_
      refine stS hf rfl rfl rfl fun a hf => ?_
      refine stS hf rfl rfl rfl fun a hf => ?_
      refine stS hf rfl rfl rfl fun a hf => ?_
      refine stP hf rfl rfl rfl (pPt rfl rfl) fun a hf => ?_
      exact cNil ⟨hf.keep ⟨rfl, rfl, rfl, rfl, rfl, rfl, rfl, rfl, trivial⟩, hc⟩
  intro a w ⟨hf, hc⟩
  refine stP hf rfl rfl rfl (pM rfl) fun a hf => ?_
  refine stCut 6 (fun a w => Has 37 a [(3, .pointer (some ⟨b_1, 0, none⟩)), (7, .pointer (some ⟨b_4, 0, none⟩)), (8, .pointer (some ⟨b_5, 0, none⟩)), (20, .pointer (some ⟨b_4, 1, none⟩)), (21, .int .i64 r.by_), (22, .bool (decide (r.by_ ≤ 0))), (23, .bool (decide (r.by_ ≤ 0))), (29, .bool ((decide (r.by_ ≤ 0)) || (!(share_quotient_more p_.divisor r)))), (30, .bool ((decide (r.by_ ≤ 0)) || (!(share_quotient_more p_.divisor r)))), (36, .bool (((decide (r.by_ ≤ 0)) || (!(share_quotient_more p_.divisor r))) && (!(share_quotient_more r_1 p_.divisor))))] ∧ Ctx G (.box b_5 [.int .i64 r_1.claim, .int .i64 r_1.by_] 165 :: .box b_4 [.int .i64 r.claim, .int .i64 r.by_] 165 :: .box b_1 [.int .i64 p_.rule, .int .i64 p_.divisor.claim, .int .i64 p_.divisor.by_] 177 :: Lf) w) ?_ ?_
  · cases hb : ((decide (r.by_ ≤ 0)) || (!(share_quotient_more p_.divisor r)))
    · rw [hb] at hf
      refine stS hf rfl rfl rfl fun a hf => ?_
      refine stS hf rfl rfl rfl fun a hf => ?_
      refine stS hf rfl rfl rfl fun a hf => ?_
      refine stS hf rfl rfl rfl fun a hf => ?_
      refine stS hf rfl rfl rfl fun a hf => ?_
      refine stP hf rfl rfl rfl (pPf rfl rfl) fun a hf => ?_
      exact cNil ⟨hf.keep ⟨rfl, rfl, rfl, rfl, rfl, rfl, rfl, rfl, rfl, rfl, trivial⟩, hc⟩
    · rw [hb] at hf
      refine stE hf hc rfl rfl rfl (eLdN (vs := [.int .i64 r_1.claim, .int .i64 r_1.by_]) ag_165 rfl rfl (cells_box (n := 2) m0 rfl)) fun a w hf hc => ?_
      refine stP hf rfl rfl rfl (pFA fa_177_1 rfl) fun a hf => ?_
      refine stE hf hc rfl rfl rfl (eLdN (vs := [.int .i64 p_.divisor.claim, .int .i64 p_.divisor.by_]) ag_165 rfl rfl (cells_box (n := 2) m2 rfl)) fun a w hf hc => ?_
      refine stE hf hc rfl rfl rfl (eC (v := .bool (share_quotient_more r_1 p_.divisor)) (vs := [.agg #[.int .i64 r_1.claim, .int .i64 r_1.by_], .agg #[.int .i64 p_.divisor.claim, .int .i64 p_.divisor.by_]]) (caps := []) en_84 rfl rfl rfl rfl (fun w hc => share_quotient_more_ok r_1 p_.divisor hc rfl)) fun a w hf hc => ?_
      refine stP hf rfl rfl rfl (pNot rfl) fun a hf => ?_
      refine stP hf rfl rfl rfl (pPt rfl rfl) fun a hf => ?_
      exact cNil ⟨hf.keep ⟨rfl, rfl, rfl, rfl, rfl, rfl, rfl, rfl, rfl, rfl, trivial⟩, hc⟩
  intro a w ⟨hf, hc⟩
  refine stP hf rfl rfl rfl (pA rfl) fun a hf => ?_
  refine cNil ?_
  refine h3 _ _ ?_
  refine wp_ret ?_
  obtain rfl := Option.some.inj hF
  replace hc := hc.drop k2
  replace hc := hc.drop k1
  replace hc := hc.drop k0
  exact fnOut1 (by simp) rfl Try.results93 hf hc (show look _ 6 = _ from rfl) ⟨rfl, hc⟩

def share_Proves_b11 (N : Nat) (claims : List Int) (shares : List Int) (rule : Int) (divisor : api_Ratio) (x : Int) : Option (Step (Int) (Bool × Int)) :=
  cond (decide (x < ((shares.length : Nat) : Int)))
  (Option.bind (getI shares x) fun e_1 =>
  Option.bind (getI claims x) fun e_2 =>
  Option.bind (share_proof_proves N (⟨rule, (⟨divisor.N, divisor.D⟩ : share_quotient)⟩ : share_proof) e_2 e_1) fun r_1 =>
  cond (!r_1)
  (some (.ret (false, 0)))
  (some (.cont (W (x + 1)))))
  (some (.brk x))
def share_Proves (N : Nat) (claims : List Int) (shares : List Int) (rule : Int) (divisor : api_Ratio) : Option (Bool × Int) :=
  Option.bind (share_shared N claims shares rule) fun r =>
  cond (r != 0)
  (some (false, r))
  (cond (((!(share_in divisor.N 1 1000000000)) || (!(share_in divisor.D 1 1000000000))) || (decide ((W (2000000 * divisor.D)) < divisor.N)))
  (some (false, 4))
  (Option.bind (loopO (fun s11 => share_Proves_b11 N claims shares rule divisor s11) N 0) fun x11 =>
  exK x11 (fun s11 => some (true, 0)) some))
theorem share_Proves_ok {N : Nat} {G : Pers} {Lf : List Ent} {w : World} (claims : List Int) (shares : List Int) (rule : Int) (divisor : api_Ratio) {claims_p : Option Addr} {claims_c : Nat} {shares_p : Option Addr} {shares_c : Nat} (h_claims : Rd G 1 claims_p claims_c (claims.map encI_i64)) (h_shares : Rd G 1 shares_p shares_c (shares.map encI_i64)) (hc : Ctx G (Lf) w) {res : Bool × Int} (hF : share_Proves N claims shares rule divisor = some res) : Calls Try.prog 41 #[.slice claims_p claims.length claims_c, .slice shares_p shares.length shares_c, .int .i64 rule, .agg #[.int .i64 divisor.N, .int .i64 divisor.D]] w (fun e w => e = .returned (.tuple #[.bool res.1, .int .i64 res.2]) ∧ Ctx G (Lf) w) := by
  unfold share_Proves at hF
  refine fnIn (args := [.slice claims_p claims.length claims_c, .slice shares_p shares.length shares_c, .int .i64 rule, .agg #[.int .i64 divisor.N, .int .i64 divisor.D]]) Try.func41 rfl Try.ntmps41 rfl fun a hf => ?_
  refine wp_seq_k fun K1 h1 => ?_
  refine cReg ?_
  refine stBx (cs := [.int .i64 divisor.N, .int .i64 divisor.D]) hf hc rfl rfl rfl rfl fun b_1 a w hf hc => ?_
  refine stP hf rfl rfl rfl (pA rfl) fun a hf => ?_
  refine stP hf rfl rfl rfl (pA rfl) fun a hf => ?_
  refine cNil ?_
  refine h1 _ _ ?_
  refine wp_seq_k fun K2 h2 => ?_
  refine cReg ?_
  refine stP hf rfl rfl rfl (pM rfl) fun a hf => ?_
  refine stP hf rfl rfl rfl (pM rfl) fun a hf => ?_
  refine stP hf rfl rfl rfl (pM rfl) fun a hf => ?_
  obtain ⟨r, hr, hF⟩ := bnd_some hF
  refine stE hf hc rfl rfl rfl (eC (v := .int .i64 r) (vs := [.slice claims_p claims.length claims_c, .slice shares_p shares.length shares_c, .int .i64 rule]) (caps := []) en_88 rfl rfl rfl rfl (fun w hc => share_shared_ok claims shares rule h_claims h_shares hc hr)) fun a w hf hc => ?_
  refine stP hf rfl rfl rfl (pA rfl) fun a hf => ?_
  refine cNil ?_
  refine h2 _ _ ?_
  refine wp_seq_k fun K3 h3 => ?_
  refine wp_block ?_
  refine wp_seq_k fun K4 h4 => ?_
  refine cReg ?_
  refine stP hf rfl rfl rfl (pM rfl) fun a hf => ?_
  refine stP hf rfl rfl rfl (pNe rfl rfl) fun a hf => ?_
  refine stP hf rfl rfl rfl (pA rfl) fun a hf => ?_
  refine cNil ?_
  refine h4 _ _ ?_
  refine cCond (b := (r != 0)) hf rfl (fun hb => ?_) (fun hb => ?_)
  · replace hF := condT hb hF
    clear hb
    refine wp_seq_k fun K5 h5 => ?_
    refine cReg ?_
    refine stP hf rfl rfl rfl (pM rfl) fun a hf => ?_
    refine stP hf rfl rfl rfl (pA rfl) fun a hf => ?_
    refine stP hf rfl rfl rfl (pA rfl) fun a hf => ?_
    refine cNil ?_
    refine h5 _ _ ?_
    refine wp_ret ?_
    refine xBlkR ?_
    refine xThenR ?_
    obtain rfl := Option.some.inj hF
    replace hc := hc.drop k0
    exact fnOut2 (by simp) rfl Try.results41 hf hc (show look _ 8 = _ from rfl) (show look _ 9 = _ from rfl) ⟨rfl, hc⟩
  · replace hF := condF hb hF
    clear hb
    refine wp_seq_k fun K6 h6 => ?_
    refine cReg ?_
    refine stP hf rfl rfl rfl (pFA fa_71_0 rfl) fun a hf => ?_
    refine stE hf hc rfl rfl rfl (eLd1 sc_3 rfl (cell_box m0 rfl)) fun a w hf hc => ?_
    refine stE hf hc rfl rfl rfl (eC (v := .bool (share_in divisor.N 1 1000000000)) (vs := [.int .i64 divisor.N, .int .i64 1, .int .i64 1000000000]) (caps := []) en_70 rfl rfl rfl rfl (fun w hc => share_in_ok divisor.N 1 1000000000 hc rfl)) fun a w hf hc => ?_
    refine stP hf rfl rfl rfl (pNot rfl) fun a hf => ?_
    refine stP hf rfl rfl rfl (pM rfl) fun a hf => ?_
    refine stCut 5 (fun a w => Has 65 a [(0, .slice claims_p claims.length claims_c), (1, .slice shares_p shares.length shares_c), (2, .int .i64 rule), (7, .pointer (some ⟨b_1, 0, none⟩)), (23, .pointer (some ⟨b_1, 0, none⟩)), (24, .int .i64 divisor.N), (25, .bool (share_in divisor.N 1 1000000000)), (26, .bool (!(share_in divisor.N 1 1000000000))), (27, .bool (!(share_in divisor.N 1 1000000000))), (32, .bool ((!(share_in divisor.N 1 1000000000)) || (!(share_in divisor.D 1 1000000000))))] ∧ Ctx G (.box b_1 [.int .i64 divisor.N, .int .i64 divisor.D] 71 :: Lf) w) ?_ ?_
    · cases hb : (!(share_in divisor.N 1 1000000000))
      · rw [hb] at hf
        refine stP hf rfl rfl rfl (pFA fa_71_1 rfl) fun a hf => ?_
        refine stE hf hc rfl rfl rfl (eLd1 sc_3 rfl (cell_box m0 rfl)) fun a w hf hc => ?_
        refine stE hf hc rfl rfl rfl (eC (v := .bool (share_in divisor.D 1 1000000000)) (vs := [.int .i64 divisor.D, .int .i64 1, .int .i64 1000000000]) (caps := []) en_70 rfl rfl rfl rfl (fun w hc => share_in_ok divisor.D 1 1000000000 hc rfl)) fun a w hf hc => ?_
        refine stP hf rfl rfl rfl (pNot rfl) fun a hf => ?_
        refine stP hf rfl rfl rfl (pPf rfl rfl) fun a hf => ?_
        exact cNil ⟨hf.keep ⟨rfl, rfl, rfl, rfl, rfl, rfl, rfl, rfl, rfl, rfl, trivial⟩, hc⟩
      · rw [hb] at hf
        refine stS hf rfl rfl rfl fun a hf => ?_
        refine stS hf rfl rfl rfl fun a hf => ?_
        refine stS hf rfl rfl rfl fun a hf => ?_
        refine stS hf rfl rfl rfl fun a hf => ?_
        refine stP hf rfl rfl rfl (pPt rfl rfl) fun a hf => ?_
        exact cNil ⟨hf.keep ⟨rfl, rfl, rfl, rfl, rfl, rfl, rfl, rfl, rfl, rfl, trivial⟩, hc⟩
    intro a w ⟨hf, hc⟩
    refine stP hf rfl rfl rfl (pM rfl) fun a hf => ?_
    refine stCut 7 (fun a w => Has 65 a [(0, .slice claims_p claims.length claims_c), (1, .slice shares_p shares.length shares_c), (2, .int .i64 rule), (7, .pointer (some ⟨b_1, 0, none⟩)), (23, .pointer (some ⟨b_1, 0, none⟩)), (24, .int .i64 divisor.N), (25, .bool (share_in divisor.N 1 1000000000)), (26, .bool (!(share_in divisor.N 1 1000000000))), (27, .bool (!(share_in divisor.N 1 1000000000))), (32, .bool ((!(share_in divisor.N 1 1000000000)) || (!(share_in divisor.D 1 1000000000)))), (33, .bool ((!(share_in divisor.N 1 1000000000)) || (!(share_in divisor.D 1 1000000000)))), (40, .bool (((!(share_in divisor.N 1 1000000000)) || (!(share_in divisor.D 1 1000000000))) || (decide ((W (2000000 * divisor.D)) < divisor.N))))] ∧ Ctx G (.box b_1 [.int .i64 divisor.N, .int .i64 divisor.D] 71 :: Lf) w) ?_ ?_
    · cases hb : ((!(share_in divisor.N 1 1000000000)) || (!(share_in divisor.D 1 1000000000)))
      · rw [hb] at hf
        refine stP hf rfl rfl rfl (pFA fa_71_0 rfl) fun a hf => ?_
        refine stE hf hc rfl rfl rfl (eLd1 sc_3 rfl (cell_box m0 rfl)) fun a w hf hc => ?_
        refine stP hf rfl rfl rfl (pFA fa_71_1 rfl) fun a hf => ?_
        refine stE hf hc rfl rfl rfl (eLd1 sc_3 rfl (cell_box m0 rfl)) fun a w hf hc => ?_
        refine stP hf rfl rfl rfl (pMul rfl rfl) fun a hf => ?_
        refine stP hf rfl rfl rfl (pGt rfl rfl) fun a hf => ?_
        refine stP hf rfl rfl rfl (pPf rfl rfl) fun a hf => ?_
        exact cNil ⟨hf.keep ⟨rfl, rfl, rfl, rfl, rfl, rfl, rfl, rfl, rfl, rfl, rfl, rfl, trivial⟩, hc⟩
      · rw [hb] at hf
        refine stS hf rfl rfl rfl fun a hf => ?_
        refine stS hf rfl rfl rfl fun a hf => ?_
        refine stS hf rfl rfl rfl fun a hf => ?_
        refine stS hf rfl rfl rfl fun a hf => ?_
        refine stS hf rfl rfl rfl fun a hf => ?_
        refine stS hf rfl rfl rfl fun a hf => ?_
        refine stP hf rfl rfl rfl (pPt rfl rfl) fun a hf => ?_
        exact cNil ⟨hf.keep ⟨rfl, rfl, rfl, rfl, rfl, rfl, rfl, rfl, rfl, rfl, rfl, rfl, trivial⟩, hc⟩
    intro a w ⟨hf, hc⟩
    refine stP hf rfl rfl rfl (pA rfl) fun a hf => ?_
    refine cNil ?_
    refine h6 _ _ ?_
    refine cCond (b := (((!(share_in divisor.N 1 1000000000)) || (!(share_in divisor.D 1 1000000000))) || (decide ((W (2000000 * divisor.D)) < divisor.N)))) hf rfl (fun hb => ?_) (fun hb => ?_)
    · replace hF := condT hb hF
      clear hb
      refine wp_seq_k fun K7 h7 => ?_
      refine cReg ?_
      refine stP hf rfl rfl rfl (pA rfl) fun a hf => ?_
      refine stP hf rfl rfl rfl (pA rfl) fun a hf => ?_
      refine cNil ?_
      refine h7 _ _ ?_
      refine wp_ret ?_
      refine xBlkR ?_
      refine xThenR ?_
      obtain rfl := Option.some.inj hF
      replace hc := hc.drop k0
      exact fnOut2 (by simp) rfl Try.results41 hf hc (show look _ 8 = _ from rfl) (show look _ 9 = _ from rfl) ⟨rfl, hc⟩
    · replace hF := condF hb hF
      clear hb
      refine wp_skip ?_
      refine h3 _ _ ?_
      refine wp_seq_k fun K8 h8 => ?_
      refine cReg ?_
      refine stP hf rfl rfl rfl (pM rfl) fun a hf => ?_
      refine stP hf rfl rfl rfl (pFA fa_71_0 rfl) fun a hf => ?_
      refine stE hf hc rfl rfl rfl (eLd1 sc_3 rfl (cell_box m0 rfl)) fun a w hf hc => ?_
      refine stP hf rfl rfl rfl (pFA fa_71_1 rfl) fun a hf => ?_
      refine stE hf hc rfl rfl rfl (eLd1 sc_3 rfl (cell_box m0 rfl)) fun a w hf hc => ?_
      refine stP hf rfl rfl rfl (pBuildS (cells := [.int .i64 divisor.N, .int .i64 divisor.D]) bt_165 rfl rfl) fun a hf => ?_
      refine stP hf rfl rfl rfl (pBuildS (cells := [.int .i64 rule, .int .i64 divisor.N, .int .i64 divisor.D]) bt_177 rfl rfl) fun a hf => ?_
      refine stP hf rfl rfl rfl (pMF (vs := [.agg #[.int .i64 rule, .int .i64 divisor.N, .int .i64 divisor.D]]) (us := []) rfl rfl) fun a hf => ?_
      refine stP hf rfl rfl rfl (pA rfl) fun a hf => ?_
      refine cNil ?_
      refine h8 _ _ ?_
      refine wp_seq_k fun K9 h9 => ?_
      refine wp_seq_k fun K10 h10 => ?_
      refine cReg ?_
      refine stP hf rfl rfl rfl (pM rfl) fun a hf => ?_
      refine stP hf rfl rfl rfl (pLenS Try.underlying36 rfl) fun a hf => ?_
      refine stP hf rfl rfl rfl (pM rfl) fun a hf => ?_
      refine cNil ?_
      refine h10 _ _ ?_
      refine wp_block ?_
      obtain ⟨x11, hx11, hF⟩ := bnd_some hF
      let S11 : Int → Act → World → Prop := (fun (zz : Int) a w => Has 65 a [(0, .slice claims_p claims.length claims_c), (11, .func (.func 93) #[.agg #[.int .i64 rule, .int .i64 divisor.N, .int .i64 divisor.D]] #[]), (49, .slice shares_p shares.length shares_c), (50, .int .i64 ((shares.length : Nat) : Int)), (51, .int .i64 zz)] ∧ Ctx G (Lf) w)
      have hr11 : ∀ (zz : Int) a w, x11 = .go zz → S11 zz a w → K9 a w := by
        rintro x a w rfl ⟨hf, hc⟩
        replace hF : _ = some res := hF
        refine h9 _ _ ?_
        refine wp_seq_k fun K12 h12 => ?_
        refine cReg ?_
        refine stP hf rfl rfl rfl (pA rfl) fun a hf => ?_
        refine stP hf rfl rfl rfl (pA rfl) fun a hf => ?_
        refine cNil ?_
        refine h12 _ _ ?_
        refine wp_ret ?_
        obtain rfl := Option.some.inj hF
        exact fnOut2 (by simp) rfl Try.results41 hf hc (show look _ 8 = _ from rfl) (show look _ 9 = _ from rfl) ⟨rfl, hc⟩
      have ho11 : ∀ r, x11 = .out r → r = res := by
        rintro r rfl
        exact Option.some.inj hF
      replace hc := hc.drop k0
      refine cLoop N (loopW (S := S11) (x := x11) ?_ N 0 _ _ ⟨hf.keep ⟨rfl, rfl, rfl, rfl, rfl, trivial⟩, hc⟩ hx11)
      clear hF hf hc
      rintro x st11 a w KB11 ⟨hf, hc⟩ hF hfin11 hK11
      unfold share_Proves_b11 at hF
      refine wp_seq_k fun K13 h13 => ?_
      refine cReg ?_
      refine stP hf rfl rfl rfl (pLt rfl rfl) fun a hf => ?_
      refine cNil ?_
      refine h13 _ _ ?_
      refine wp_seq_k fun K14 h14 => ?_
      refine cCond (b := (decide (x < ((shares.length : Nat) : Int)))) hf rfl (fun hb => ?_) (fun hb => ?_)
      · replace hF := condT hb hF
        clear hb
        refine wp_skip ?_
        refine h14 _ _ ?_
        refine wp_seq_k fun K15 h15 => ?_
        refine wp_block ?_
        refine wp_seq_k fun K16 h16 => ?_
        refine cReg ?_
        refine stP hf rfl rfl rfl (pM rfl) fun a hf => ?_
        obtain ⟨e_1, he_1, hF⟩ := bnd_some hF
        obtain ⟨b_2, o, qa, qp⟩ := h_shares.atm he_1
        refine stP hf rfl rfl rfl (pIA Try.underlying36 sz_3 rfl rfl qa) fun a hf => ?_
        refine stE hf hc rfl rfl rfl (eLd1 sc_3 rfl (cell_pc (j := 0) qp rfl)) fun a w hf hc => ?_
        refine stP hf rfl rfl rfl (pA rfl) fun a hf => ?_
        refine stP hf rfl rfl rfl (pA rfl) fun a hf => ?_
        refine cNil ?_
        refine h16 _ _ ?_
        refine wp_seq_k fun K17 h17 => ?_
        refine cReg ?_
        refine stP hf rfl rfl rfl (pM rfl) fun a hf => ?_
        refine stP hf rfl rfl rfl (pM rfl) fun a hf => ?_
        refine stP hf rfl rfl rfl (pM rfl) fun a hf => ?_
        obtain ⟨e_2, he_2, hF⟩ := bnd_some hF
        obtain ⟨b_3, o_1, qa_1, qp_1⟩ := h_claims.atm he_2
        refine stP hf rfl rfl rfl (pIA Try.underlying36 sz_3 rfl rfl qa_1) fun a hf => ?_
        refine stE hf hc rfl rfl rfl (eLd1 sc_3 rfl (cell_pc (j := 0) qp_1 rfl)) fun a w hf hc => ?_
        refine stP hf rfl rfl rfl (pM rfl) fun a hf => ?_
        obtain ⟨r_1, hr_1, hF⟩ := bnd_some hF
        refine stE hf hc rfl rfl rfl (eCB (v := .bool r_1) (bs := [.agg #[.int .i64 rule, .int .i64 divisor.N, .int .i64 divisor.D]]) (vs := [.int .i64 e_2, .int .i64 e_1]) (caps := []) en_93 rfl rfl rfl rfl (fun w hc => share_proof_proves_ok (⟨rule, (⟨divisor.N, divisor.D⟩ : share_quotient)⟩ : share_proof) e_2 e_1 hc hr_1)) fun a w hf hc => ?_
        refine stP hf rfl rfl rfl (pNot rfl) fun a hf => ?_
        refine cNil ?_
        refine h17 _ _ ?_
        refine cCond (b := (!r_1)) hf rfl (fun hb => ?_) (fun hb => ?_)
        · replace hF := condT hb hF
          clear hb
          refine wp_seq_k fun K18 h18 => ?_
          refine cReg ?_
          refine stP hf rfl rfl rfl (pA rfl) fun a hf => ?_
          refine stP hf rfl rfl rfl (pA rfl) fun a hf => ?_
          refine cNil ?_
          refine h18 _ _ ?_
          refine wp_ret ?_
          refine xBlkR ?_
          refine xThenR ?_
          refine xThenR ?_
          have he := Option.some.inj hF
          rw [← he] at hfin11
          replace hF := ho11 _ hfin11
          refine xBlkR ?_
          refine xThenR ?_
          obtain rfl := hF
          exact fnOut2 (by simp) rfl Try.results41 hf hc (show look _ 8 = _ from rfl) (show look _ 9 = _ from rfl) ⟨rfl, hc⟩
        · replace hF := condF hb hF
          clear hb
          refine wp_skip ?_
          refine h15 _ _ ?_
          refine cReg ?_
          refine stP hf rfl rfl rfl (pAdd rfl rfl) fun a hf => ?_
          refine stP hf rfl rfl rfl (pM rfl) fun a hf => ?_
          refine cNil ?_
          exact hK11 (W (x + 1)) _ _ (Option.some.inj hF).symm ⟨hf.keep ⟨rfl, rfl, rfl, rfl, rfl, trivial⟩, hc⟩
      · replace hF := condF hb hF
        clear hb
        refine wp_exit ?_
        refine xThen ?_
        refine xThen ?_
        have he := Option.some.inj hF
        rw [← he] at hfin11
        refine cHit ?_
        exact hr11 _ _ _ hfin11 ⟨hf.keep ⟨rfl, rfl, rfl, rfl, rfl, trivial⟩, hc⟩

def law09_Two (N : Nat)  : Option (share_Compact) :=
  some (⟨2, ([(⟨0, 100, 50⟩ : share_Right), (⟨1, 60, 100⟩ : share_Right), (⟨0, 40, 0⟩ : share_Right)] : List share_Right)⟩ : share_Compact)
theorem law09_Two_ok {N : Nat} {G : Pers} {Lf : List Ent} {w : World}    (hc : Ctx G (Lf) w) {res : share_Compact} (hF : law09_Two N = some res) : Calls Try.prog 67 #[] w (fun e w => ∃ (p'1 : Option Addr) (c'1 : Nat), e = .returned (.agg #[.int .i64 res.States, .slice p'1 res.Rights.length c'1]) ∧ Ctx G (.row p'1 c'1 (res.Rights.map enc_share_Right) 51 3 :: Lf) w) := by
  unfold law09_Two at hF
  refine fnIn (args := []) Try.func67 rfl Try.ntmps67 rfl fun a hf => ?_
  refine wp_seq_k fun K1 h1 => ?_
  refine cReg ?_
  refine stAl (cs := [.int .i64 0, .slice none 0 0]) hf hc rfl rfl zr_24 rfl fun b_1 a w hf hc => ?_
  refine cNil ?_
  refine h1 _ _ ?_
  refine wp_seq_k fun K2 h2 => ?_
  refine cReg ?_
  refine stP hf rfl rfl rfl (pBuildS (cells := [.int .i64 0, .int .i64 100, .int .i64 50]) bt_51 rfl rfl) fun a hf => ?_
  refine stP hf rfl rfl rfl (pBuildS (cells := [.int .i64 1, .int .i64 60, .int .i64 100]) bt_51 rfl rfl) fun a hf => ?_
  refine stP hf rfl rfl rfl (pBuildS (cells := [.int .i64 0, .int .i64 40, .int .i64 0]) bt_51 rfl rfl) fun a hf => ?_
  refine stBS (rows := ([(⟨0, 100, 50⟩ : share_Right), (⟨1, 60, 100⟩ : share_Right), (⟨0, 40, 0⟩ : share_Right)] : List share_Right).map enc_share_Right) (vs := [(0, .agg #[.int .i64 0, .int .i64 100, .int .i64 50]), (1, .agg #[.int .i64 1, .int .i64 60, .int .i64 100]), (2, .agg #[.int .i64 0, .int .i64 40, .int .i64 0])]) hf hc rfl rfl sl_22 rfl ⟨rfl, rfl, rfl, rfl, rfl, rfl, rfl, rfl, rfl, trivial⟩ rfl rfl fun b_2 a w hf hc => ?_
  refine stP hf rfl rfl rfl (pBuildS (cells := [.int .i64 2, .slice (some ⟨b_2, 0, none⟩) 3 3]) bt_24 rfl rfl) fun a hf => ?_
  refine stSt (vs := [.int .i64 2, .slice (some ⟨b_2, 0, none⟩) 3 3]) hf hc rfl rfl rfl rfl sz_24 rfl rfl u1 fun w hc => ?_
  refine cNil ?_
  refine h2 _ _ ?_
  refine wp_ret ?_
  obtain rfl := Option.some.inj hF
  exact fnOut1 (by simp) rfl Try.results67 hf hc (rv_cellN (vs := [.int .i64 2, .slice (some ⟨b_2, 0, none⟩) 3 3]) ag_24 rfl rfl (cells_box (n := 2) m1 rfl)) ⟨(some ⟨b_2, 0, none⟩), 3, rfl, (hc.drop k1)⟩

def share_water (n : Int) : Bool :=
  (share_in n 0 1000000000)
theorem share_water_ok {G : Pers} {Lf : List Ent} {w : World} (n : Int)   (hc : Ctx G (Lf) w) {res : Bool} (hF : share_water n = res) : Calls Try.prog 73 #[.int .i64 n] w (fun e w => e = .returned (.bool res) ∧ Ctx G (Lf) w) := by
  unfold share_water at hF
  refine fnIn (args := [.int .i64 n]) Try.func73 rfl Try.ntmps73 rfl fun a hf => ?_
  refine wp_seq_k fun K1 h1 => ?_
  refine cReg ?_
  refine stP hf rfl rfl rfl (pA rfl) fun a hf => ?_
  refine cNil ?_
  refine h1 _ _ ?_
  refine wp_seq_k fun K2 h2 => ?_
  refine cReg ?_
  refine stP hf rfl rfl rfl (pM rfl) fun a hf => ?_
  refine stE hf hc rfl rfl rfl (eC (v := .bool (share_in n 0 1000000000)) (vs := [.int .i64 n, .int .i64 0, .int .i64 1000000000]) (caps := []) en_70 rfl rfl rfl rfl (fun w hc => share_in_ok n 0 1000000000 hc rfl)) fun a w hf hc => ?_
  refine stP hf rfl rfl rfl (pA rfl) fun a hf => ?_
  refine cNil ?_
  refine h2 _ _ ?_
  refine wp_ret ?_
  obtain rfl := hF
  exact fnOut1 (by simp) rfl Try.results73 hf hc (show look _ 2 = _ from rfl) ⟨rfl, hc⟩

def share_Check_1 (r : share_Right) (x : share_Compact) : Bool :=
  (((share_in r.State 0 (W (x.States - 1))) && (share_water r.Amount)) && (share_in r.Loss 0 1000))
theorem share_Check_1_ok {G : Pers} {Lf : List Ent} {w : World} (r : share_Right) (x : share_Compact) {b_ : Nat} {x_Rights_p : Option Addr} {x_Rights_c : Nat} (h_x_Rights : Rd G 3 x_Rights_p x_Rights_c (x.Rights.map enc_share_Right)) (hc : Ctx G (.box b_ [.int .i64 x.States, .slice x_Rights_p x.Rights.length x_Rights_c] 24 :: Lf) w) {res : Bool} (hF : share_Check_1 r x = res) : Calls Try.prog 72 #[.agg #[.int .i64 r.State, .int .i64 r.Amount, .int .i64 r.Loss], .pointer (some ⟨b_, 0, none⟩)] w (fun e w => e = .returned (.bool res) ∧ Ctx G (.box b_ [.int .i64 x.States, .slice x_Rights_p x.Rights.length x_Rights_c] 24 :: Lf) w) := by
  unfold share_Check_1 at hF
  refine fnIn (args := [.agg #[.int .i64 r.State, .int .i64 r.Amount, .int .i64 r.Loss], .pointer (some ⟨b_, 0, none⟩)]) Try.func72 rfl Try.ntmps72 rfl fun a hf => ?_
  refine wp_seq_k fun K1 h1 => ?_
  refine cReg ?_
  refine stBx (cs := [.int .i64 r.State, .int .i64 r.Amount, .int .i64 r.Loss]) hf hc rfl rfl rfl rfl fun b_1 a w hf hc => ?_
  refine stP hf rfl rfl rfl (pA rfl) fun a hf => ?_
  refine cNil ?_
  refine h1 _ _ ?_
  refine wp_seq_k fun K2 h2 => ?_
  refine cReg ?_
  refine stP hf rfl rfl rfl (pFA fa_51_0 rfl) fun a hf => ?_
  refine stE hf hc rfl rfl rfl (eLd1 sc_3 rfl (cell_box m0 rfl)) fun a w hf hc => ?_
  refine stP hf rfl rfl rfl (pFA fa_24_0 rfl) fun a hf => ?_
  refine stE hf hc rfl rfl rfl (eLd1 sc_3 rfl (cell_box m1 rfl)) fun a w hf hc => ?_
  refine stP hf rfl rfl rfl (pSub rfl rfl) fun a hf => ?_
  refine stE hf hc rfl rfl rfl (eC (v := .bool (share_in r.State 0 (W (x.States - 1)))) (vs := [.int .i64 r.State, .int .i64 0, .int .i64 (W (x.States - 1))]) (caps := []) en_70 rfl rfl rfl rfl (fun w hc => share_in_ok r.State 0 (W (x.States - 1)) hc rfl)) fun a w hf hc => ?_
  refine stP hf rfl rfl rfl (pM rfl) fun a hf => ?_
  refine stCut 4 (fun a w => Has 20 a [(1, .pointer (some ⟨b_, 0, none⟩)), (2, .pointer (some ⟨b_1, 0, none⟩)), (3, .bool false), (4, .pointer (some ⟨b_1, 0, none⟩)), (5, .int .i64 r.State), (6, .pointer (some ⟨b_, 0, none⟩)), (7, .int .i64 x.States), (8, .int .i64 (W (x.States - 1))), (9, .bool (share_in r.State 0 (W (x.States - 1)))), (10, .bool (share_in r.State 0 (W (x.States - 1)))), (14, .bool ((share_in r.State 0 (W (x.States - 1))) && (share_water r.Amount)))] ∧ Ctx G (.box b_1 [.int .i64 r.State, .int .i64 r.Amount, .int .i64 r.Loss] 51 :: .box b_ [.int .i64 x.States, .slice x_Rights_p x.Rights.length x_Rights_c] 24 :: Lf) w) ?_ ?_
  · cases hb : (share_in r.State 0 (W (x.States - 1)))
    · rw [hb] at hf
      refine stS hf rfl rfl rfl fun a hf => ?_
      refine stS hf rfl rfl rfl fun a hf => ?_
      refine stS hf rfl rfl rfl fun a hf => ?_
      refine stP hf rfl rfl rfl (pPf rfl rfl) fun a hf => ?_
      exact cNil ⟨hf.keep ⟨rfl, rfl, rfl, rfl, rfl, rfl, rfl, rfl, rfl, rfl, rfl, trivial⟩, hc⟩
    · rw [hb] at hf
      refine stP hf rfl rfl rfl (pFA fa_51_1 rfl) fun a hf => ?_
      refine stE hf hc rfl rfl rfl (eLd1 sc_3 rfl (cell_box m0 rfl)) fun a w hf hc => ?_
      refine stE hf hc rfl rfl rfl (eC (v := .bool (share_water r.Amount)) (vs := [.int .i64 r.Amount]) (caps := []) en_73 rfl rfl rfl rfl (fun w hc => share_water_ok r.Amount hc rfl)) fun a w hf hc => ?_
      refine stP hf rfl rfl rfl (pPt rfl rfl) fun a hf => ?_
      exact cNil ⟨hf.keep ⟨rfl, rfl, rfl, rfl, rfl, rfl, rfl, rfl, rfl, rfl, rfl, trivial⟩, hc⟩
  intro a w ⟨hf, hc⟩
  refine stP hf rfl rfl rfl (pM rfl) fun a hf => ?_
  refine stCut 4 (fun a w => Has 20 a [(1, .pointer (some ⟨b_, 0, none⟩)), (2, .pointer (some ⟨b_1, 0, none⟩)), (3, .bool false), (4, .pointer (some ⟨b_1, 0, none⟩)), (5, .int .i64 r.State), (6, .pointer (some ⟨b_, 0, none⟩)), (7, .int .i64 x.States), (8, .int .i64 (W (x.States - 1))), (9, .bool (share_in r.State 0 (W (x.States - 1)))), (10, .bool (share_in r.State 0 (W (x.States - 1)))), (14, .bool ((share_in r.State 0 (W (x.States - 1))) && (share_water r.Amount))), (15, .bool ((share_in r.State 0 (W (x.States - 1))) && (share_water r.Amount))), (19, .bool (((share_in r.State 0 (W (x.States - 1))) && (share_water r.Amount)) && (share_in r.Loss 0 1000)))] ∧ Ctx G (.box b_1 [.int .i64 r.State, .int .i64 r.Amount, .int .i64 r.Loss] 51 :: .box b_ [.int .i64 x.States, .slice x_Rights_p x.Rights.length x_Rights_c] 24 :: Lf) w) ?_ ?_
  · cases hb : ((share_in r.State 0 (W (x.States - 1))) && (share_water r.Amount))
    · rw [hb] at hf
      refine stS hf rfl rfl rfl fun a hf => ?_
      refine stS hf rfl rfl rfl fun a hf => ?_
      refine stS hf rfl rfl rfl fun a hf => ?_
      refine stP hf rfl rfl rfl (pPf rfl rfl) fun a hf => ?_
      exact cNil ⟨hf.keep ⟨rfl, rfl, rfl, rfl, rfl, rfl, rfl, rfl, rfl, rfl, rfl, rfl, rfl, trivial⟩, hc⟩
    · rw [hb] at hf
      refine stP hf rfl rfl rfl (pFA fa_51_2 rfl) fun a hf => ?_
      refine stE hf hc rfl rfl rfl (eLd1 sc_3 rfl (cell_box m0 rfl)) fun a w hf hc => ?_
      refine stE hf hc rfl rfl rfl (eC (v := .bool (share_in r.Loss 0 1000)) (vs := [.int .i64 r.Loss, .int .i64 0, .int .i64 1000]) (caps := []) en_70 rfl rfl rfl rfl (fun w hc => share_in_ok r.Loss 0 1000 hc rfl)) fun a w hf hc => ?_
      refine stP hf rfl rfl rfl (pPt rfl rfl) fun a hf => ?_
      exact cNil ⟨hf.keep ⟨rfl, rfl, rfl, rfl, rfl, rfl, rfl, rfl, rfl, rfl, rfl, rfl, rfl, trivial⟩, hc⟩
  intro a w ⟨hf, hc⟩
  refine stP hf rfl rfl rfl (pA rfl) fun a hf => ?_
  refine cNil ?_
  refine h2 _ _ ?_
  refine wp_ret ?_
  obtain rfl := hF
  replace hc := hc.drop k0
  exact fnOut1 (by simp) rfl Try.results72 hf hc (show look _ 3 = _ from rfl) ⟨rfl, hc⟩

def share_every_share_Right_1 (x : share_Right) (x_1 : share_Compact) : Bool :=
  (!(share_Check_1 (⟨x.State, x.Amount, x.Loss⟩ : share_Right) x_1))
theorem share_every_share_Right_1_ok {G : Pers} {Lf : List Ent} {w : World} (x : share_Right) (x_1 : share_Compact) {b_ : Nat} {b__1 : Nat} {x_1_Rights_p : Option Addr} {x_1_Rights_c : Nat} (h_x_1_Rights : Rd G 3 x_1_Rights_p x_1_Rights_c (x_1.Rights.map enc_share_Right)) (hc : Ctx G (.box b_ [.func (.func 72) #[] #[.pointer (some ⟨b__1, 0, none⟩)]] 147 :: .box b__1 [.int .i64 x_1.States, .slice x_1_Rights_p x_1.Rights.length x_1_Rights_c] 24 :: Lf) w) {res : Bool} (hF : share_every_share_Right_1 x x_1 = res) : Calls Try.prog 116 #[.agg #[.int .i64 x.State, .int .i64 x.Amount, .int .i64 x.Loss], .pointer (some ⟨b_, 0, none⟩)] w (fun e w => e = .returned (.bool res) ∧ Ctx G (.box b_ [.func (.func 72) #[] #[.pointer (some ⟨b__1, 0, none⟩)]] 147 :: .box b__1 [.int .i64 x_1.States, .slice x_1_Rights_p x_1.Rights.length x_1_Rights_c] 24 :: Lf) w) := by
  unfold share_every_share_Right_1 at hF
  refine fnIn (args := [.agg #[.int .i64 x.State, .int .i64 x.Amount, .int .i64 x.Loss], .pointer (some ⟨b_, 0, none⟩)]) Try.func116 rfl Try.ntmps116 rfl fun a hf => ?_
  refine wp_seq_k fun K1 h1 => ?_
  refine cReg ?_
  refine stBx (cs := [.int .i64 x.State, .int .i64 x.Amount, .int .i64 x.Loss]) hf hc rfl rfl rfl rfl fun b_1 a w hf hc => ?_
  refine stP hf rfl rfl rfl (pA rfl) fun a hf => ?_
  refine cNil ?_
  refine h1 _ _ ?_
  refine wp_seq_k fun K2 h2 => ?_
  refine cReg ?_
  refine stE hf hc rfl rfl rfl (eLd1 sc_147 rfl (cell_box m1 rfl)) fun a w hf hc => ?_
  refine stE hf hc rfl rfl rfl (eLdN (vs := [.int .i64 x.State, .int .i64 x.Amount, .int .i64 x.Loss]) ag_51 rfl rfl (cells_box (n := 3) m0 rfl)) fun a w hf hc => ?_
  refine stE hf hc rfl rfl rfl (eC (v := .bool (share_Check_1 (⟨x.State, x.Amount, x.Loss⟩ : share_Right) x_1)) (vs := [.agg #[.int .i64 x.State, .int .i64 x.Amount, .int .i64 x.Loss]]) (caps := [.pointer (some ⟨b__1, 0, none⟩)]) en_72 rfl rfl rfl rfl (fun w hc => (share_Check_1_ok (⟨x.State, x.Amount, x.Loss⟩ : share_Right) x_1 h_x_1_Rights (hc.pick k2) rfl).mono fun e w h => ⟨h.1, (h.2.unpick k2)⟩)) fun a w hf hc => ?_
  refine stP hf rfl rfl rfl (pNot rfl) fun a hf => ?_
  refine stP hf rfl rfl rfl (pA rfl) fun a hf => ?_
  refine cNil ?_
  refine h2 _ _ ?_
  refine wp_ret ?_
  obtain rfl := hF
  replace hc := hc.drop k0
  exact fnOut1 (by simp) rfl Try.results116 hf hc (show look _ 3 = _ from rfl) ⟨rfl, hc⟩

def slices_IndexFunc_Lshare_Right_share_Right_b4 (N : Nat) (s_ : List share_Right) (f_ : share_Compact) (x : Int) : Option (Step (Int) (Int)) :=
  cond (decide (x < ((s_.length : Nat) : Int)))
  (Option.bind (getI s_ x) fun e_1 =>
  cond (share_every_share_Right_1 e_1 f_)
  (some (.ret x))
  (some (.cont (W (x + 1)))))
  (some (.brk x))
def slices_IndexFunc_Lshare_Right_share_Right (N : Nat) (s_ : List share_Right) (f_ : share_Compact) : Option (Int) :=
  Option.bind (loopO (fun s4 => slices_IndexFunc_Lshare_Right_share_Right_b4 N s_ f_ s4) N 0) fun x4 =>
  exK x4 (fun s4 => some (-1)) some
theorem slices_IndexFunc_Lshare_Right_share_Right_ok {N : Nat} {G : Pers} {Lf : List Ent} {w : World} (s_ : List share_Right) (f_ : share_Compact) {s__p : Option Addr} {s__c : Nat} {b_ : Nat} {b__1 : Nat} {f__Rights_p : Option Addr} {f__Rights_c : Nat} (h_s_ : Rd G 3 s__p s__c (s_.map enc_share_Right)) (h_f__Rights : Rd G 3 f__Rights_p f__Rights_c (f_.Rights.map enc_share_Right)) (hc : Ctx G (.box b_ [.func (.func 72) #[] #[.pointer (some ⟨b__1, 0, none⟩)]] 147 :: .box b__1 [.int .i64 f_.States, .slice f__Rights_p f_.Rights.length f__Rights_c] 24 :: Lf) w) {res : Int} (hF : slices_IndexFunc_Lshare_Right_share_Right N s_ f_ = some res) : Calls Try.prog 144 #[.slice s__p s_.length s__c, .func (.func 116) #[] #[.pointer (some ⟨b_, 0, none⟩)]] w (fun e w => e = .returned (.int .i64 res) ∧ Ctx G (.box b_ [.func (.func 72) #[] #[.pointer (some ⟨b__1, 0, none⟩)]] 147 :: .box b__1 [.int .i64 f_.States, .slice f__Rights_p f_.Rights.length f__Rights_c] 24 :: Lf) w) := by
  unfold slices_IndexFunc_Lshare_Right_share_Right at hF
  refine fnIn (args := [.slice s__p s_.length s__c, .func (.func 116) #[] #[.pointer (some ⟨b_, 0, none⟩)]]) Try.func144 rfl Try.ntmps144 rfl fun a hf => ?_
  refine wp_seq_k fun K1 h1 => ?_
  refine cReg ?_
  refine stP hf rfl rfl rfl (pA rfl) fun a hf => ?_
  refine cNil ?_
  refine h1 _ _ ?_
  refine wp_seq_k fun K2 h2 => ?_
  refine wp_seq_k fun K3 h3 => ?_
  refine cReg ?_
  refine stP hf rfl rfl rfl (pM rfl) fun a hf => ?_
  refine stP hf rfl rfl rfl (pLenS Try.underlying22 rfl) fun a hf => ?_
  refine stP hf rfl rfl rfl (pM rfl) fun a hf => ?_
  refine cNil ?_
  refine h3 _ _ ?_
  refine wp_block ?_
  obtain ⟨x4, hx4, hF⟩ := bnd_some hF
  let S4 : Int → Act → World → Prop := (fun (zz : Int) a w => Has 19 a [(0, .slice s__p s_.length s__c), (1, .func (.func 116) #[] #[.pointer (some ⟨b_, 0, none⟩)]), (7, .int .i64 ((s_.length : Nat) : Int)), (8, .int .i64 zz)] ∧ Ctx G (.box b_ [.func (.func 72) #[] #[.pointer (some ⟨b__1, 0, none⟩)]] 147 :: .box b__1 [.int .i64 f_.States, .slice f__Rights_p f_.Rights.length f__Rights_c] 24 :: Lf) w)
  have hr4 : ∀ (zz : Int) a w, x4 = .go zz → S4 zz a w → K2 a w := by
    rintro x a w rfl ⟨hf, hc⟩
    replace hF : _ = some res := hF
    refine h2 _ _ ?_
    refine wp_seq_k fun K5 h5 => ?_
    refine cReg ?_
    refine stP hf rfl rfl rfl (pA rfl) fun a hf => ?_
    refine cNil ?_
    refine h5 _ _ ?_
    refine wp_ret ?_
    obtain rfl := Option.some.inj hF
    exact fnOut1 (by simp) rfl Try.results144 hf hc (show look _ 4 = _ from rfl) ⟨rfl, hc⟩
  have ho4 : ∀ r, x4 = .out r → r = res := by
    rintro r rfl
    exact Option.some.inj hF
  refine cLoop N (loopW (S := S4) (x := x4) ?_ N 0 _ _ ⟨hf.keep ⟨rfl, rfl, rfl, rfl, trivial⟩, hc⟩ hx4)
  clear hF hf hc
  rintro x st4 a w KB4 ⟨hf, hc⟩ hF hfin4 hK4
  unfold slices_IndexFunc_Lshare_Right_share_Right_b4 at hF
  refine wp_seq_k fun K6 h6 => ?_
  refine cReg ?_
  refine stP hf rfl rfl rfl (pLt rfl rfl) fun a hf => ?_
  refine cNil ?_
  refine h6 _ _ ?_
  refine wp_seq_k fun K7 h7 => ?_
  refine cCond (b := (decide (x < ((s_.length : Nat) : Int)))) hf rfl (fun hb => ?_) (fun hb => ?_)
  · replace hF := condT hb hF
    clear hb
    refine wp_skip ?_
    refine h7 _ _ ?_
    refine wp_seq_k fun K8 h8 => ?_
    refine wp_block ?_
    refine wp_seq_k fun K9 h9 => ?_
    refine cReg ?_
    refine stP hf rfl rfl rfl (pM rfl) fun a hf => ?_
    refine stP hf rfl rfl rfl (pA rfl) fun a hf => ?_
    refine cNil ?_
    refine h9 _ _ ?_
    refine wp_seq_k fun K10 h10 => ?_
    refine cReg ?_
    refine stP hf rfl rfl rfl (pM rfl) fun a hf => ?_
    refine stP hf rfl rfl rfl (pM rfl) fun a hf => ?_
    refine stP hf rfl rfl rfl (pM rfl) fun a hf => ?_
    obtain ⟨e_1, he_1, hF⟩ := bnd_some hF
    obtain ⟨b_1, o, qa, qp⟩ := h_s_.atm he_1
    refine stP hf rfl rfl rfl (pIA Try.underlying22 sz_51 rfl rfl qa) fun a hf => ?_
    refine stE hf hc rfl rfl rfl (eLdN (vs := [.int .i64 e_1.State, .int .i64 e_1.Amount, .int .i64 e_1.Loss]) ag_51 rfl rfl (cells_pc qp (n := 3) (o' := 0) rfl)) fun a w hf hc => ?_
    refine stE hf hc rfl rfl rfl (eC (v := .bool (share_every_share_Right_1 e_1 f_)) (vs := [.agg #[.int .i64 e_1.State, .int .i64 e_1.Amount, .int .i64 e_1.Loss]]) (caps := [.pointer (some ⟨b_, 0, none⟩)]) en_116 rfl rfl rfl rfl (fun w hc => (share_every_share_Right_1_ok e_1 f_ h_f__Rights ((hc.pick k1).pick k1) rfl).mono fun e w h => ⟨h.1, ((h.2.unpick k1).unpick k1)⟩)) fun a w hf hc => ?_
    refine cNil ?_
    refine h10 _ _ ?_
    refine cCond (b := (share_every_share_Right_1 e_1 f_)) hf rfl (fun hb => ?_) (fun hb => ?_)
    · replace hF := condT hb hF
      clear hb
      refine wp_seq_k fun K11 h11 => ?_
      refine cReg ?_
      refine stP hf rfl rfl rfl (pM rfl) fun a hf => ?_
      refine stP hf rfl rfl rfl (pA rfl) fun a hf => ?_
      refine cNil ?_
      refine h11 _ _ ?_
      refine wp_ret ?_
      refine xBlkR ?_
      refine xThenR ?_
      refine xThenR ?_
      have he := Option.some.inj hF
      rw [← he] at hfin4
      replace hF := ho4 _ hfin4
      refine xBlkR ?_
      refine xThenR ?_
      obtain rfl := hF
      exact fnOut1 (by simp) rfl Try.results144 hf hc (show look _ 4 = _ from rfl) ⟨rfl, hc⟩
    · replace hF := condF hb hF
      clear hb
      refine wp_skip ?_
      refine h8 _ _ ?_
      refine cReg ?_
      refine stP hf rfl rfl rfl (pAdd rfl rfl) fun a hf => ?_
      refine stP hf rfl rfl rfl (pM rfl) fun a hf => ?_
      refine cNil ?_
      exact hK4 (W (x + 1)) _ _ (Option.some.inj hF).symm ⟨hf.keep ⟨rfl, rfl, rfl, rfl, trivial⟩, hc⟩
  · replace hF := condF hb hF
    clear hb
    refine wp_exit ?_
    refine xThen ?_
    refine xThen ?_
    have he := Option.some.inj hF
    rw [← he] at hfin4
    refine cHit ?_
    exact hr4 _ _ _ hfin4 ⟨hf.keep ⟨rfl, rfl, rfl, rfl, trivial⟩, hc⟩

def slices_ContainsFunc_Lshare_Right_share_Right (N : Nat) (s_ : List share_Right) (f_ : share_Compact) : Option (Bool) :=
  Option.bind (slices_IndexFunc_Lshare_Right_share_Right N s_ f_) fun r =>
  some (decide (0 ≤ r))
theorem slices_ContainsFunc_Lshare_Right_share_Right_ok {N : Nat} {G : Pers} {Lf : List Ent} {w : World} (s_ : List share_Right) (f_ : share_Compact) {s__p : Option Addr} {s__c : Nat} {b_ : Nat} {b__1 : Nat} {f__Rights_p : Option Addr} {f__Rights_c : Nat} (h_s_ : Rd G 3 s__p s__c (s_.map enc_share_Right)) (h_f__Rights : Rd G 3 f__Rights_p f__Rights_c (f_.Rights.map enc_share_Right)) (hc : Ctx G (.box b_ [.func (.func 72) #[] #[.pointer (some ⟨b__1, 0, none⟩)]] 147 :: .box b__1 [.int .i64 f_.States, .slice f__Rights_p f_.Rights.length f__Rights_c] 24 :: Lf) w) {res : Bool} (hF : slices_ContainsFunc_Lshare_Right_share_Right N s_ f_ = some res) : Calls Try.prog 115 #[.slice s__p s_.length s__c, .func (.func 116) #[] #[.pointer (some ⟨b_, 0, none⟩)]] w (fun e w => e = .returned (.bool res) ∧ Ctx G (.box b_ [.func (.func 72) #[] #[.pointer (some ⟨b__1, 0, none⟩)]] 147 :: .box b__1 [.int .i64 f_.States, .slice f__Rights_p f_.Rights.length f__Rights_c] 24 :: Lf) w) := by
  unfold slices_ContainsFunc_Lshare_Right_share_Right at hF
  refine fnIn (args := [.slice s__p s_.length s__c, .func (.func 116) #[] #[.pointer (some ⟨b_, 0, none⟩)]]) Try.func115 rfl Try.ntmps115 rfl fun a hf => ?_
  refine wp_seq_k fun K1 h1 => ?_
  refine cReg ?_
  refine stP hf rfl rfl rfl (pA rfl) fun a hf => ?_
  refine cNil ?_
  refine h1 _ _ ?_
  refine wp_seq_k fun K2 h2 => ?_
  refine cReg ?_
  refine stP hf rfl rfl rfl (pM rfl) fun a hf => ?_
  refine stP hf rfl rfl rfl (pM rfl) fun a hf => ?_
  obtain ⟨r, hr, hF⟩ := bnd_some hF
  refine stE hf hc rfl rfl rfl (eC (v := .int .i64 r) (vs := [.slice s__p s_.length s__c, .func (.func 116) #[] #[.pointer (some ⟨b_, 0, none⟩)]]) (caps := []) en_144 rfl rfl rfl rfl (fun w hc => (slices_IndexFunc_Lshare_Right_share_Right_ok s_ f_ h_s_ h_f__Rights ((hc.pick k1).pick k1) hr).mono fun e w h => ⟨h.1, ((h.2.unpick k1).unpick k1)⟩)) fun a w hf hc => ?_
  refine stP hf rfl rfl rfl (pGe rfl rfl) fun a hf => ?_
  refine stP hf rfl rfl rfl (pA rfl) fun a hf => ?_
  refine cNil ?_
  refine h2 _ _ ?_
  refine wp_ret ?_
  obtain rfl := Option.some.inj hF
  exact fnOut1 (by simp) rfl Try.results115 hf hc (show look _ 4 = _ from rfl) ⟨rfl, hc⟩

def share_every_share_Right (N : Nat) (l : List share_Right) (so : share_Compact) : Option (Bool) :=
  Option.bind (slices_ContainsFunc_Lshare_Right_share_Right N l so) fun r =>
  some (!r)
theorem share_every_share_Right_ok {N : Nat} {G : Pers} {Lf : List Ent} {w : World} (l : List share_Right) (so : share_Compact) {l_p : Option Addr} {l_c : Nat} {b_ : Nat} {so_Rights_p : Option Addr} {so_Rights_c : Nat} (h_l : Rd G 3 l_p l_c (l.map enc_share_Right)) (h_so_Rights : Rd G 3 so_Rights_p so_Rights_c (so.Rights.map enc_share_Right)) (hc : Ctx G (.box b_ [.int .i64 so.States, .slice so_Rights_p so.Rights.length so_Rights_c] 24 :: Lf) w) {res : Bool} (hF : share_every_share_Right N l so = some res) : Calls Try.prog 71 #[.slice l_p l.length l_c, .func (.func 72) #[] #[.pointer (some ⟨b_, 0, none⟩)]] w (fun e w => e = .returned (.bool res) ∧ Ctx G (.box b_ [.int .i64 so.States, .slice so_Rights_p so.Rights.length so_Rights_c] 24 :: Lf) w) := by
  unfold share_every_share_Right at hF
  refine fnIn (args := [.slice l_p l.length l_c, .func (.func 72) #[] #[.pointer (some ⟨b_, 0, none⟩)]]) Try.func71 rfl Try.ntmps71 rfl fun a hf => ?_
  refine wp_seq_k fun K1 h1 => ?_
  refine cReg ?_
  refine stBx (cs := [.func (.func 72) #[] #[.pointer (some ⟨b_, 0, none⟩)]]) hf hc rfl rfl rfl rfl fun b_1 a w hf hc => ?_
  refine stP hf rfl rfl rfl (pA rfl) fun a hf => ?_
  refine cNil ?_
  refine h1 _ _ ?_
  refine wp_seq_k fun K2 h2 => ?_
  refine cReg ?_
  refine stP hf rfl rfl rfl (pM rfl) fun a hf => ?_
  refine stP hf rfl rfl rfl (pMF (us := [.pointer (some ⟨b_1, 0, none⟩)]) rfl rfl) fun a hf => ?_
  obtain ⟨r, hr, hF⟩ := bnd_some hF
  refine stE hf hc rfl rfl rfl (eC (v := .bool r) (vs := [.slice l_p l.length l_c, .func (.func 116) #[] #[.pointer (some ⟨b_1, 0, none⟩)]]) (caps := []) en_115 rfl rfl rfl rfl (fun w hc => (slices_ContainsFunc_Lshare_Right_share_Right_ok l so h_l h_so_Rights ((hc.pick k1).pick k1) hr).mono fun e w h => ⟨h.1, ((h.2.unpick k1).unpick k1)⟩)) fun a w hf hc => ?_
  refine stP hf rfl rfl rfl (pNot rfl) fun a hf => ?_
  refine stP hf rfl rfl rfl (pA rfl) fun a hf => ?_
  refine cNil ?_
  refine h2 _ _ ?_
  refine wp_ret ?_
  obtain rfl := Option.some.inj hF
  replace hc := hc.drop k0
  exact fnOut1 (by simp) rfl Try.results71 hf hc (show look _ 4 = _ from rfl) ⟨rfl, hc⟩

def share_Check (N : Nat) (c_ : share_Compact) : Option (Int) :=
  cond ((!(share_in c_.States 1 12)) || (!(share_in ((c_.Rights.length : Nat) : Int) 1 30)))
  (some 3)
  (Option.bind (share_every_share_Right N c_.Rights c_) fun r =>
  cond (!r)
  (some 100)
  (some 0))
theorem share_Check_ok {N : Nat} {G : Pers} {Lf : List Ent} {w : World} (c_ : share_Compact) {c__Rights_p : Option Addr} {c__Rights_c : Nat} (h_c__Rights : Rd G 3 c__Rights_p c__Rights_c (c_.Rights.map enc_share_Right)) (hc : Ctx G (Lf) w) {res : Int} (hF : share_Check N c_ = some res) : Calls Try.prog 15 #[.agg #[.int .i64 c_.States, .slice c__Rights_p c_.Rights.length c__Rights_c]] w (fun e w => e = .returned (.int .i64 res) ∧ Ctx G (Lf) w) := by
  unfold share_Check at hF
  refine fnIn (args := [.agg #[.int .i64 c_.States, .slice c__Rights_p c_.Rights.length c__Rights_c]]) Try.func15 rfl Try.ntmps15 rfl fun a hf => ?_
  refine wp_seq_k fun K1 h1 => ?_
  refine cReg ?_
  refine stBx (cs := [.int .i64 c_.States, .slice c__Rights_p c_.Rights.length c__Rights_c]) hf hc rfl rfl rfl rfl fun b_1 a w hf hc => ?_
  refine stP hf rfl rfl rfl (pA rfl) fun a hf => ?_
  refine cNil ?_
  refine h1 _ _ ?_
  refine wp_seq_k fun K2 h2 => ?_
  refine wp_block ?_
  refine wp_seq_k fun K3 h3 => ?_
  refine cReg ?_
  refine stP hf rfl rfl rfl (pFA fa_24_0 rfl) fun a hf => ?_
  refine stE hf hc rfl rfl rfl (eLd1 sc_3 rfl (cell_box m0 rfl)) fun a w hf hc => ?_
  refine stE hf hc rfl rfl rfl (eC (v := .bool (share_in c_.States 1 12)) (vs := [.int .i64 c_.States, .int .i64 1, .int .i64 12]) (caps := []) en_70 rfl rfl rfl rfl (fun w hc => share_in_ok c_.States 1 12 hc rfl)) fun a w hf hc => ?_
  refine stP hf rfl rfl rfl (pNot rfl) fun a hf => ?_
  refine stP hf rfl rfl rfl (pM rfl) fun a hf => ?_
  refine stCut 6 (fun a w => Has 21 a [(1, .pointer (some ⟨b_1, 0, none⟩)), (4, .pointer (some ⟨b_1, 0, none⟩)), (5, .int .i64 c_.States), (6, .bool (share_in c_.States 1 12)), (7, .bool (!(share_in c_.States 1 12))), (8, .bool (!(share_in c_.States 1 12))), (14, .bool ((!(share_in c_.States 1 12)) || (!(share_in ((c_.Rights.length : Nat) : Int) 1 30))))] ∧ Ctx G (.box b_1 [.int .i64 c_.States, .slice c__Rights_p c_.Rights.length c__Rights_c] 24 :: Lf) w) ?_ ?_
  · cases hb : (!(share_in c_.States 1 12))
    · rw [hb] at hf
      refine stP hf rfl rfl rfl (pFA fa_24_1 rfl) fun a hf => ?_
      refine stE hf hc rfl rfl rfl (eLd1 sc_22 rfl (cell_box m0 rfl)) fun a w hf hc => ?_
      refine stP hf rfl rfl rfl (pLenS Try.underlying22 rfl) fun a hf => ?_
      refine stE hf hc rfl rfl rfl (eC (v := .bool (share_in ((c_.Rights.length : Nat) : Int) 1 30)) (vs := [.int .i64 ((c_.Rights.length : Nat) : Int), .int .i64 1, .int .i64 30]) (caps := []) en_70 rfl rfl rfl rfl (fun w hc => share_in_ok ((c_.Rights.length : Nat) : Int) 1 30 hc rfl)) fun a w hf hc => ?_
      refine stP hf rfl rfl rfl (pNot rfl) fun a hf => ?_
      refine stP hf rfl rfl rfl (pPf rfl rfl) fun a hf => ?_
      exact cNil ⟨hf.keep ⟨rfl, rfl, rfl, rfl, rfl, rfl, rfl, trivial⟩, hc⟩
    · rw [hb] at hf
      refine stS hf rfl rfl rfl fun a hf => ?_
      refine stS hf rfl rfl rfl fun a hf => ?_
      refine stS hf rfl rfl rfl fun a hf => ?_
      refine stS hf rfl rfl rfl fun a hf => ?_
      refine stS hf rfl rfl rfl fun a hf => ?_
      refine stP hf rfl rfl rfl (pPt rfl rfl) fun a hf => ?_
      exact cNil ⟨hf.keep ⟨rfl, rfl, rfl, rfl, rfl, rfl, rfl, trivial⟩, hc⟩
  intro a w ⟨hf, hc⟩
  refine stP hf rfl rfl rfl (pA rfl) fun a hf => ?_
  refine cNil ?_
  refine h3 _ _ ?_
  refine cCond (b := ((!(share_in c_.States 1 12)) || (!(share_in ((c_.Rights.length : Nat) : Int) 1 30)))) hf rfl (fun hb => ?_) (fun hb => ?_)
  · replace hF := condT hb hF
    clear hb
    refine wp_seq_k fun K4 h4 => ?_
    refine cReg ?_
    refine stP hf rfl rfl rfl (pA rfl) fun a hf => ?_
    refine cNil ?_
    refine h4 _ _ ?_
    refine wp_ret ?_
    refine xBlkR ?_
    refine xThenR ?_
    obtain rfl := Option.some.inj hF
    replace hc := hc.drop k0
    exact fnOut1 (by simp) rfl Try.results15 hf hc (show look _ 2 = _ from rfl) ⟨rfl, hc⟩
  · replace hF := condF hb hF
    clear hb
    refine wp_seq_k fun K5 h5 => ?_
    refine cReg ?_
    refine stP hf rfl rfl rfl (pFA fa_24_1 rfl) fun a hf => ?_
    refine stE hf hc rfl rfl rfl (eLd1 sc_22 rfl (cell_box m0 rfl)) fun a w hf hc => ?_
    refine stP hf rfl rfl rfl (pMF (us := [.pointer (some ⟨b_1, 0, none⟩)]) rfl rfl) fun a hf => ?_
    obtain ⟨r, hr, hF⟩ := bnd_some hF
    refine stE hf hc rfl rfl rfl (eC (v := .bool r) (vs := [.slice c__Rights_p c_.Rights.length c__Rights_c, .func (.func 72) #[] #[.pointer (some ⟨b_1, 0, none⟩)]]) (caps := []) en_71 rfl rfl rfl rfl (fun w hc => (share_every_share_Right_ok c_.Rights c_ h_c__Rights h_c__Rights (hc.pick k0) hr).mono fun e w h => ⟨h.1, (h.2.unpick k0)⟩)) fun a w hf hc => ?_
    refine stP hf rfl rfl rfl (pNot rfl) fun a hf => ?_
    refine stP hf rfl rfl rfl (pA rfl) fun a hf => ?_
    refine cNil ?_
    refine h5 _ _ ?_
    refine cCond (b := (!r)) hf rfl (fun hb => ?_) (fun hb => ?_)
    · replace hF := condT hb hF
      clear hb
      refine wp_seq_k fun K6 h6 => ?_
      refine cReg ?_
      refine stP hf rfl rfl rfl (pA rfl) fun a hf => ?_
      refine cNil ?_
      refine h6 _ _ ?_
      refine wp_ret ?_
      refine xBlkR ?_
      refine xThenR ?_
      obtain rfl := Option.some.inj hF
      replace hc := hc.drop k0
      exact fnOut1 (by simp) rfl Try.results15 hf hc (show look _ 2 = _ from rfl) ⟨rfl, hc⟩
    · replace hF := condF hb hF
      clear hb
      refine wp_skip ?_
      refine h2 _ _ ?_
      refine wp_seq_k fun K7 h7 => ?_
      refine cReg ?_
      refine stP hf rfl rfl rfl (pA rfl) fun a hf => ?_
      refine cNil ?_
      refine h7 _ _ ?_
      refine wp_ret ?_
      obtain rfl := Option.some.inj hF
      replace hc := hc.drop k0
      exact fnOut1 (by simp) rfl Try.results15 hf hc (show look _ 2 = _ from rfl) ⟨rfl, hc⟩

def share_office_taken (N : Nat) (w_ : share_office) (flow : Int) : Option (Int) :=
  some flow
theorem share_office_taken_ok {N : Nat} {G : Pers} {Lf : List Ent} {w : World} (w_ : share_office) (flow : Int) {b_ : Nat} {w__Compact_Rights_p : Option Addr} {w__Compact_Rights_c : Nat} (h_w__Compact_Rights : Rd G 3 w__Compact_Rights_p w__Compact_Rights_c (w_.Compact.Rights.map enc_share_Right)) (hc : Ctx G (.box b_ (catc [.int .i64 w_.Compact.States, .slice w__Compact_Rights_p w_.Compact.Rights.length w__Compact_Rights_c] 12 encI_i64 w_.got []) 156 :: Lf) w) {res : Int} (hF : share_office_taken N w_ flow = some res) : Calls Try.prog 79 #[.pointer (some ⟨b_, 0, none⟩), .int .i64 flow] w (fun e w => ∃ (b'1 : Nat) (b'2 : Nat), e = .returned (.func (.func 118) #[] #[.pointer (some ⟨b'1, 0, none⟩), .pointer (some ⟨b'2, 0, none⟩)]) ∧ Ctx G (.box b'1 [.pointer (some ⟨b_, 0, none⟩)] 153 :: .box b'2 [.int .i64 res] 3 :: .box b_ (catc [.int .i64 w_.Compact.States, .slice w__Compact_Rights_p w_.Compact.Rights.length w__Compact_Rights_c] 12 encI_i64 w_.got []) 156 :: Lf) w) := by
  unfold share_office_taken at hF
  refine fnIn (args := [.pointer (some ⟨b_, 0, none⟩), .int .i64 flow]) Try.func79 rfl Try.ntmps79 rfl fun a hf => ?_
  refine wp_seq_k fun K1 h1 => ?_
  refine cReg ?_
  refine stBx (cs := [.pointer (some ⟨b_, 0, none⟩)]) hf hc rfl rfl rfl rfl fun b_1 a w hf hc => ?_
  refine stBx (cs := [.int .i64 flow]) hf hc rfl rfl rfl rfl fun b_2 a w hf hc => ?_
  refine stP hf rfl rfl rfl (pA rfl) fun a hf => ?_
  refine cNil ?_
  refine h1 _ _ ?_
  refine wp_seq_k fun K2 h2 => ?_
  refine cReg ?_
  refine stP hf rfl rfl rfl (pMF (us := [.pointer (some ⟨b_1, 0, none⟩), .pointer (some ⟨b_2, 0, none⟩)]) rfl rfl) fun a hf => ?_
  refine stP hf rfl rfl rfl (pA rfl) fun a hf => ?_
  refine cNil ?_
  refine h2 _ _ ?_
  refine wp_ret ?_
  obtain rfl := Option.some.inj hF
  replace hc := hc.pick k0
  replace hc := hc.pick k1
  exact fnOut1 (by simp) rfl Try.results79 hf hc (show look _ 4 = _ from rfl) ⟨b_1, b_2, rfl, hc⟩

def share_office_taken_1_b3 (N : Nat) {σ : Type} (x : share_office) (y : σ → (share_Right × Int) → Option (σ × Bool)) (x_0 : Int) (b__0 : Int) (sg : σ) : Option (Step (Int × Int × σ) (σ × Int)) :=
  cond (decide (x_0 < ((x.Compact.Rights.length : Nat) : Int)))
  (Option.bind (getI x.Compact.Rights x_0) fun e_1 =>
  Option.bind (y sg (e_1, min e_1.Amount b__0)) fun ry =>
  cond (!ry.2)
  (some (.ret (ry.1, W (b__0 - (min e_1.Amount b__0)))))
  (some (.cont (W (x_0 + 1), W (b__0 - (min e_1.Amount b__0)), ry.1))))
  (some (.brk (x_0, b__0, sg)))
def share_office_taken_1 (N : Nat) {σ : Type} (x : share_office) (x_1 : Int) (y : σ → (share_Right × Int) → Option (σ × Bool)) (sg0 : σ) : Option (σ × Int) :=
  Option.bind (loopO (fun s3 => share_office_taken_1_b3 N x y s3.1 s3.2.1 s3.2.2) N (0, x_1, sg0)) fun x3 =>
  exK x3 (fun s3 => some (s3.2.2, s3.2.1)) some
theorem share_office_taken_1_ok {N : Nat} {G : Pers} {Lf : List Ent} {w : World} {σ : Type} (x : share_office) (x_1 : Int) {b_ : Nat} {b__1 : Nat} {x_Compact_Rights_p : Option Addr} {x_Compact_Rights_c : Nat} {b__2 : Nat} (h_x_Compact_Rights : Rd G 3 x_Compact_Rights_p x_Compact_Rights_c (x.Compact.Rights.map enc_share_Right)) (J : σ → List Ent → Prop) (y : σ → (share_Right × Int) → Option (σ × Bool)) {l : Nat} (hy : YieldsTo Try.prog G l (fun x : (share_Right × Int) => [.agg #[.int .i64 x.1.State, .int .i64 x.1.Amount, .int .i64 x.1.Loss], .int .i64 x.2]) J y) (sg0 : σ) {A0 Ls1 : List Ent} (hJ0 : J sg0 (A0 ++ (.box b__1 (catc [.int .i64 x.Compact.States, .slice x_Compact_Rights_p x.Compact.Rights.length x_Compact_Rights_c] 12 encI_i64 x.got []) 156 :: Ls1))) (hc : Ctx G (.box b_ [.pointer (some ⟨b__1, 0, none⟩)] 153 :: .box b__2 [.int .i64 x_1] 3 :: ((A0 ++ (.box b__1 (catc [.int .i64 x.Compact.States, .slice x_Compact_Rights_p x.Compact.Rights.length x_Compact_Rights_c] 12 encI_i64 x.got []) 156 :: Ls1)) ++ Lf)) w) {res : σ × Int} (hF : share_office_taken_1 N x x_1 y sg0 = some res) : Calls Try.prog 118 #[.func (.yield l) #[] #[], .pointer (some ⟨b_, 0, none⟩), .pointer (some ⟨b__2, 0, none⟩)] w (fun e w => (∃ v, e = .returned v) ∧ ∃ L, J res.1 L ∧ Ctx G (.box b_ [.pointer (some ⟨b__1, 0, none⟩)] 153 :: .box b__2 [.int .i64 res.2] 3 :: (L ++ Lf)) w) := by
  unfold share_office_taken_1 at hF
  refine fnIn (args := [.func (.yield l) #[] #[], .pointer (some ⟨b_, 0, none⟩), .pointer (some ⟨b__2, 0, none⟩)]) Try.func118 rfl Try.ntmps118 rfl fun a hf => ?_
  replace hc : Ctx G (.box b__1 (catc [.int .i64 x.Compact.States, .slice x_Compact_Rights_p x.Compact.Rights.length x_Compact_Rights_c] 12 encI_i64 x.got []) 156 :: .box b_ [.pointer (some ⟨b__1, 0, none⟩)] 153 :: .box b__2 [.int .i64 x_1] 3 :: ((A0 ++ Ls1) ++ Lf)) w := shOut [.box b_ [.pointer (some ⟨b__1, 0, none⟩)] 153, .box b__2 [.int .i64 x_1] 3] hc
  refine wp_seq_k fun K1 h1 => ?_
  refine cReg ?_
  refine stE hf hc rfl rfl rfl (eLd1 sc_153 rfl (cell_box m1 rfl)) fun a w hf hc => ?_
  refine stP hf rfl rfl rfl (pNC rfl) fun a hf => ?_
  refine stP hf rfl rfl rfl (pFA fa_156_0 rfl) fun a hf => ?_
  refine stP hf rfl rfl rfl (pFA fa_24_1 rfl) fun a hf => ?_
  refine stE hf hc rfl rfl rfl (eLd1 sc_22 rfl (cell_box m0 rfl)) fun a w hf hc => ?_
  refine stP hf rfl rfl rfl (pLenS Try.underlying22 rfl) fun a hf => ?_
  refine stP hf rfl rfl rfl (pM rfl) fun a hf => ?_
  refine cNil ?_
  refine h1 _ _ ?_
  refine wp_thenK fun K2 h2 => ?_
  refine wp_block ?_
  replace hc : Ctx G (.box b_ [.pointer (some ⟨b__1, 0, none⟩)] 153 :: .box b__2 [.int .i64 x_1] 3 :: ((A0 ++ (.box b__1 (catc [.int .i64 x.Compact.States, .slice x_Compact_Rights_p x.Compact.Rights.length x_Compact_Rights_c] 12 encI_i64 x.got []) 156 :: Ls1)) ++ Lf)) w := shIn [.box b_ [.pointer (some ⟨b__1, 0, none⟩)] 153, .box b__2 [.int .i64 x_1] 3] hc
  obtain ⟨x3, hx3, hF⟩ := bnd_some hF
  let S3 : (Int × Int × σ) → Act → World → Prop := (fun (zz : Int × Int × σ) a w => ∃ (Ls : List Ent), J zz.2.2 Ls ∧ Has 30 a [(0, .func (.yield l) #[] #[]), (2, .pointer (some ⟨b__2, 0, none⟩)), (11, .slice x_Compact_Rights_p x.Compact.Rights.length x_Compact_Rights_c), (12, .int .i64 ((x.Compact.Rights.length : Nat) : Int)), (13, .int .i64 zz.1)] ∧ Ctx G (.box b_ [.pointer (some ⟨b__1, 0, none⟩)] 153 :: .box b__2 [.int .i64 zz.2.1] 3 :: (Ls ++ Lf)) w)
  have hr3 : ∀ (zz : Int × Int × σ) a w, x3 = .go zz → S3 zz a w → K2 a w := by
    rintro ⟨x_0, b__0, sg⟩ a w rfl ⟨Ls, hJ, hf, hc⟩
    replace hF : _ = some res := hF
    refine h2 _ _ ?_
    obtain rfl := Option.some.inj hF
    exact fnOut0 (by simp) rfl Try.results118 hf ⟨⟨_, rfl⟩, Ls, hJ, hc⟩
  have ho3 : ∀ r, x3 = .out r → r = res := by
    rintro r rfl
    exact Option.some.inj hF
  refine cLoop N (loopW (S := S3) (x := x3) ?_ N (0, x_1, sg0) _ _ ⟨(A0 ++ (.box b__1 (catc [.int .i64 x.Compact.States, .slice x_Compact_Rights_p x.Compact.Rights.length x_Compact_Rights_c] 12 encI_i64 x.got []) 156 :: Ls1)), hJ0, hf.keep ⟨rfl, rfl, rfl, rfl, rfl, trivial⟩, hc⟩ hx3)
  clear hF hf hc
  rintro ⟨x_0, b__0, sg⟩ st3 a w KB3 ⟨Ls, hJ, hf, hc⟩ hF hfin3 hK3
  unfold share_office_taken_1_b3 at hF
  refine wp_seq_k fun K4 h4 => ?_
  refine cReg ?_
  refine stP hf rfl rfl rfl (pLt rfl rfl) fun a hf => ?_
  refine cNil ?_
  refine h4 _ _ ?_
  refine wp_seq_k fun K5 h5 => ?_
  refine cCond (b := (decide (x_0 < ((x.Compact.Rights.length : Nat) : Int)))) hf rfl (fun hb => ?_) (fun hb => ?_)
  · replace hF := condT hb hF
    clear hb
    refine wp_skip ?_
    refine h5 _ _ ?_
    refine wp_seq_k fun K6 h6 => ?_
    refine wp_block ?_
    refine wp_seq_k fun K7 h7 => ?_
    refine cReg ?_
    obtain ⟨e_1, he_1, hF⟩ := bnd_some hF
    obtain ⟨b_1, o, qa, qp⟩ := h_x_Compact_Rights.atm he_1
    refine stP hf rfl rfl rfl (pIA Try.underlying22 sz_51 rfl rfl qa) fun a hf => ?_
    refine stE hf hc rfl rfl rfl (eLdN (vs := [.int .i64 e_1.State, .int .i64 e_1.Amount, .int .i64 e_1.Loss]) ag_51 rfl rfl (cells_pc qp (n := 3) (o' := 0) rfl)) fun a w hf hc => ?_
    refine stAl (cs := [.int .i64 0, .int .i64 0, .int .i64 0]) hf hc rfl rfl zr_51 rfl fun b_2 a w hf hc => ?_
    refine stSt (vs := [.int .i64 e_1.State, .int .i64 e_1.Amount, .int .i64 e_1.Loss]) hf hc rfl rfl rfl rfl sz_51 rfl rfl u0 fun w hc => ?_
    refine cNil ?_
    refine h7 _ _ ?_
    refine wp_seq_k fun K8 h8 => ?_
    refine cReg ?_
    refine stP hf rfl rfl rfl (pFA fa_51_1 rfl) fun a hf => ?_
    refine stE hf hc rfl rfl rfl (eLd1 sc_3 rfl (cell_box m0 rfl)) fun a w hf hc => ?_
    refine stE hf hc rfl rfl rfl (eLd1 sc_3 rfl (cell_box m2 rfl)) fun a w hf hc => ?_
    refine stP hf rfl rfl rfl (pMin2 rfl rfl) fun a hf => ?_
    refine stP hf rfl rfl rfl (pA rfl) fun a hf => ?_
    refine cNil ?_
    refine h8 _ _ ?_
    refine wp_seq_k fun K9 h9 => ?_
    refine cReg ?_
    refine stE hf hc rfl rfl rfl (eLd1 sc_3 rfl (cell_box m2 rfl)) fun a w hf hc => ?_
    refine stP hf rfl rfl rfl (pM rfl) fun a hf => ?_
    refine stP hf rfl rfl rfl (pSub rfl rfl) fun a hf => ?_
    refine stSt (vs := [.int .i64 (W (b__0 - (min e_1.Amount b__0)))]) hf hc rfl rfl rfl rfl sz_3 rfl rfl u2 fun w hc => ?_
    refine cNil ?_
    refine h9 _ _ ?_
    refine wp_seq_k fun K10 h10 => ?_
    obtain ⟨ry, hry, hF⟩ := bnd_some hF
    refine yReg 3 (fun a w => Has 30 a [(0, .func (.yield l) #[] #[]), (2, .pointer (some ⟨b__2, 0, none⟩)), (11, .slice x_Compact_Rights_p x.Compact.Rights.length x_Compact_Rights_c), (12, .int .i64 ((x.Compact.Rights.length : Nat) : Int)), (13, .int .i64 x_0), (5, .pointer (some ⟨b_2, 0, none⟩)), (6, .int .i64 (min e_1.Amount b__0)), (24, .func (.yield l) #[] #[]), (25, .agg #[.int .i64 e_1.State, .int .i64 e_1.Amount, .int .i64 e_1.Loss]), (26, .int .i64 (min e_1.Amount b__0))] ∧ Ctx G (.box b_2 [.int .i64 e_1.State, .int .i64 e_1.Amount, .int .i64 e_1.Loss] 51 :: .box b_ [.pointer (some ⟨b__1, 0, none⟩)] 153 :: .box b__2 [.int .i64 (W (b__0 - (min e_1.Amount b__0)))] 3 :: (Ls ++ Lf)) w) (fun _ _ h => by obtain ⟨⟨_, h⟩, _⟩ := h; cases h) ?_ ?_
    · refine stP hf rfl rfl rfl (pM rfl) fun a hf => ?_
      refine stE hf hc rfl rfl rfl (eLdN (vs := [.int .i64 e_1.State, .int .i64 e_1.Amount, .int .i64 e_1.Loss]) ag_51 rfl rfl (cells_box (n := 3) m0 rfl)) fun a w hf hc => ?_
      refine stP hf rfl rfl rfl (pM rfl) fun a hf => ?_
      exact cNil ⟨hf.keep ⟨rfl, rfl, rfl, rfl, rfl, rfl, rfl, rfl, rfl, rfl, trivial⟩, hc⟩
    rintro a w ⟨hf, hc⟩
    refine stY (own := [.box b_2 [.int .i64 e_1.State, .int .i64 e_1.Amount, .int .i64 e_1.Loss] 51, .box b_ [.pointer (some ⟨b__1, 0, none⟩)] 153, .box b__2 [.int .i64 (W (b__0 - (min e_1.Amount b__0)))] 3]) (v := (e_1, min e_1.Amount b__0)) hy hJ hry hf hc rfl rfl rfl rfl rfl fun a w Ls_1 hJ_1 hf hc => ?_
    replace hc : Ctx G (.box b_2 [.int .i64 e_1.State, .int .i64 e_1.Amount, .int .i64 e_1.Loss] 51 :: .box b_ [.pointer (some ⟨b__1, 0, none⟩)] 153 :: .box b__2 [.int .i64 (W (b__0 - (min e_1.Amount b__0)))] 3 :: (Ls_1 ++ Lf)) w := hc
    refine yRest (fun _ _ h => by obtain ⟨⟨_, h⟩, _⟩ := h; cases h) ?_
    refine stP hf rfl rfl rfl (pNot rfl) fun a hf => ?_
    refine cNil ?_
    refine h10 _ _ ?_
    refine cCond (b := (!ry.2)) hf rfl (fun hb => ?_) (fun hb => ?_)
    · replace hF := condT hb hF
      clear hb
      refine wp_ret ?_
      refine xBlkR ?_
      refine xThenR ?_
      refine xThenR ?_
      have he := Option.some.inj hF
      rw [← he] at hfin3
      replace hF := ho3 _ hfin3
      refine xBlkR ?_
      refine xThenR ?_
      obtain rfl := hF
      replace hc := hc.drop k0
      exact fnOut0 (by simp) rfl Try.results118 hf ⟨⟨_, rfl⟩, Ls_1, hJ_1, hc⟩
    · replace hF := condF hb hF
      clear hb
      refine wp_skip ?_
      refine h6 _ _ ?_
      refine cReg ?_
      refine stP hf rfl rfl rfl (pAdd rfl rfl) fun a hf => ?_
      refine stP hf rfl rfl rfl (pM rfl) fun a hf => ?_
      refine cNil ?_
      replace hc := hc.drop k0
      exact hK3 (W (x_0 + 1), W (b__0 - (min e_1.Amount b__0)), ry.1) _ _ (Option.some.inj hF).symm ⟨Ls_1, hJ_1, hf.keep ⟨rfl, rfl, rfl, rfl, rfl, trivial⟩, hc⟩
  · replace hF := condF hb hF
    clear hb
    refine wp_exit ?_
    refine xThen ?_
    refine xThen ?_
    have he := Option.some.inj hF
    rw [← he] at hfin3
    refine cHit ?_
    exact hr3 _ _ _ hfin3 ⟨Ls, hJ, hf.keep ⟨rfl, rfl, rfl, rfl, rfl, trivial⟩, hc⟩

def slices_Clone_Lint_int (N : Nat) (s_ : List Int) : Option ((List Int)) :=
  Option.bind (room (s_).length) fun un =>
  some s_
theorem slices_Clone_Lint_int_ok {N : Nat} {G : Pers} {Lf : List Ent} {w : World} (s_ : List Int) {s__p : Option Addr} {s__c : Nat} (h_s_ : Rd G 1 s__p s__c (s_.map encI_i64)) (hc : Ctx G (Lf) w) {res : (List Int)} (hF : slices_Clone_Lint_int N s_ = some res) : Calls Try.prog 117 #[.slice s__p s_.length s__c] w (fun e w => ∃ (p'1 : Option Addr) (c'1 : Nat), e = .returned (.slice p'1 res.length c'1) ∧ Ctx G (.row p'1 c'1 (res.map encI_i64) 3 1 :: Lf) w) := by
  unfold slices_Clone_Lint_int at hF
  refine fnIn (args := [.slice s__p s_.length s__c]) Try.func117 rfl Try.ntmps117 rfl fun a hf => ?_
  refine wp_seq_k fun K1 h1 => ?_
  refine cReg ?_
  refine stP hf rfl rfl rfl (pA rfl) fun a hf => ?_
  refine cNil ?_
  refine h1 _ _ ?_
  refine wp_seq_k fun K2 h2 => ?_
  refine wp_seq_k fun K3 h3 => ?_
  refine cReg ?_
  refine stP hf rfl rfl rfl (pM rfl) fun a hf => ?_
  refine stP hf rfl rfl rfl (pEqN Try.underlying36 rfl rfl) fun a hf => ?_
  refine cNil ?_
  refine h3 _ _ ?_
  rcases rd_nilq h_s_ with ⟨hp, hx⟩ | hp
  · rw [hp] at hf
    replace hF : (some ([] : List Int)) = some res := by
      try rw [hx] at hF
      exact hF
    refine cCondT hf rfl ?_
    refine wp_seq_k fun K4 h4 => ?_
    refine cReg ?_
    refine stP hf rfl rfl rfl (pA rfl) fun a hf => ?_
    refine cNil ?_
    refine h4 _ _ ?_
    refine wp_ret ?_
    refine xThenR ?_
    obtain rfl := Option.some.inj hF
    replace hc := hc.nilRow 3 1
    exact fnOut1 (by simp) rfl Try.results117 hf hc (show look _ 2 = _ from rfl) ⟨none, 0, rfl, hc⟩
  · rw [hp] at hf
    refine cCondF hf rfl ?_
    refine wp_skip ?_
    refine h2 _ _ ?_
    refine wp_seq_k fun K5 h5 => ?_
    refine cReg ?_
    refine stBS (rows := ([] : List Int).map encI_i64) (vs := []) hf hc rfl rfl sl_36 rfl trivial rfl rfl fun b_1 a w hf hc => ?_
    refine stP hf rfl rfl rfl (pM rfl) fun a hf => ?_
    obtain ⟨un, hun, hF⟩ := bnd_some hF
    refine stApm (xs := ([] : List Int)) (ys := s_) hf hc rfl rfl sl_36 rfl rfl rfl rfl rfl one_encI_i64 (src_rd hc h_s_) (fun _ _ => u0) (by simpa using room_spec hun) fun p_1 c_1 a w hf hc => ?_
    refine stP hf rfl rfl rfl (pA rfl) fun a hf => ?_
    refine cNil ?_
    refine h5 _ _ ?_
    refine wp_ret ?_
    obtain rfl := Option.some.inj hF
    exact fnOut1 (by simp) rfl Try.results117 hf hc (show look _ 2 = _ from rfl) ⟨p_1, c_1, rfl, hc⟩

end Go.Nilo
