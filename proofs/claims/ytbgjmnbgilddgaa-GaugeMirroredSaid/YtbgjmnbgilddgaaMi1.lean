/-
  What functions of the Go text compute, as plain functions, and that they do, part 1 of 4. Conditions: what each theorem names.
-/
import Derived.Test.YtbgjmnbgilddgaaNl17
import Derived.Test.YtbgjmnbgilddgaaProg
set_option linter.unusedVariables false
set_option maxRecDepth 100000
set_option maxHeartbeats 4000000
namespace Go.Nilo
open Go.Proofs


structure kit_Stream where
  bytes : List Int
  used : Int
  mix : Int

structure law03_River where
  Left : Int
  Right : Int
  At : List Int
  Depth : List Int
  Speeds : List Int

structure api_Span where
  Lo : Int
  Hi : Int
@[reducible] def enc_api_Span (x : api_Span) : List Value := [.int .i64 x.Lo, .int .i64 x.Hi]
theorem one_enc_api_Span : ∀ x, (enc_api_Span x).length = 2 ∧ ones (enc_api_Span x) = true := fun _ => ⟨rfl, rfl⟩

structure gauge_Vertical where
  At : Int
  Depth : api_Span
  Speed : api_Span
@[reducible] def enc_gauge_Vertical (x : gauge_Vertical) : List Value := [.int .i64 x.At, .int .i64 x.Depth.Lo, .int .i64 x.Depth.Hi, .int .i64 x.Speed.Lo, .int .i64 x.Speed.Hi]
theorem one_enc_gauge_Vertical : ∀ x, (enc_gauge_Vertical x).length = 5 ∧ ones (enc_gauge_Vertical x) = true := fun _ => ⟨rfl, rfl⟩

structure gauge_Gauging where
  Left : Int
  Right : Int
  Verticals : List gauge_Vertical

structure gauge_Point where
  At : Int
  Depth : Int
  Cost : Int
@[reducible] def enc_gauge_Point (x : gauge_Point) : List Value := [.int .i64 x.At, .int .i64 x.Depth, .int .i64 x.Cost]
theorem one_enc_gauge_Point : ∀ x, (enc_gauge_Point x).length = 3 ∧ ones (enc_gauge_Point x) = true := fun _ => ⟨rfl, rfl⟩

structure gauge_Site where
  Left : Int
  Right : Int
  Gap : Int
  Step_ : Int
  Points : List gauge_Point

structure gauge_spent where
  cost : Int
  points : Int
@[reducible] def enc_gauge_spent (x : gauge_spent) : List Value := [.int .i64 x.cost, .int .i64 x.points]
theorem one_enc_gauge_spent : ∀ x, (enc_gauge_spent x).length = 2 ∧ ones (enc_gauge_spent x) = true := fun _ => ⟨rfl, rfl⟩

structure gauge_work where
  Site : gauge_Site
  least : Nat → gauge_spent
  from_ : Int → Option Int

structure gauge_Leg where
  X : api_Span
  Y : api_Span
  Depth : api_Span
  East : api_Span
  North : api_Span
@[reducible] def enc_gauge_Leg (x : gauge_Leg) : List Value := [.int .i64 x.X.Lo, .int .i64 x.X.Hi, .int .i64 x.Y.Lo, .int .i64 x.Y.Hi, .int .i64 x.Depth.Lo, .int .i64 x.Depth.Hi, .int .i64 x.East.Lo, .int .i64 x.East.Hi, .int .i64 x.North.Lo, .int .i64 x.North.Hi]
theorem one_enc_gauge_Leg : ∀ x, (enc_gauge_Leg x).length = 10 ∧ ones (enc_gauge_Leg x) = true := fun _ => ⟨rfl, rfl⟩

structure gauge_Dye where
  Rate : api_Span
  Strong : api_Span
  Found : api_Span
  Clean : api_Span
@[reducible] def enc_gauge_Dye (x : gauge_Dye) : List Value := [.int .i64 x.Rate.Lo, .int .i64 x.Rate.Hi, .int .i64 x.Strong.Lo, .int .i64 x.Strong.Hi, .int .i64 x.Found.Lo, .int .i64 x.Found.Hi, .int .i64 x.Clean.Lo, .int .i64 x.Clean.Hi]
theorem one_enc_gauge_Dye : ∀ x, (enc_gauge_Dye x).length = 8 ∧ ones (enc_gauge_Dye x) = true := fun _ => ⟨rfl, rfl⟩

theorem bt_104 : builtInfo Try.prog 104 = some ([.slice none 0 0, .int .i64 0, .int .i64 0], [(0, 1), (1, 1), (2, 1)]) := by kernel_rfl

theorem en_11 : En Try.prog 11 := En.of Try.func11 (by kernel_rfl) (by kernel_rfl)

theorem zr_51 : (Try.prog.info? 51).map (·.zero) = some (some (.agg #[.int .i64 0, .int .i64 0, .slice none 0 0, .slice none 0 0, .slice none 0 0])) := by kernel_rfl

theorem fa_104_0 : ∀ (q : Addr) (w : World), (Instr.fieldAt 104 (.pointer (some q)) 0).run Try.prog w = .ok (.pointer (some (q.add 0))) w := fun _ _ => by kernel_rfl

theorem sc_22 : ScT Try.prog 22 := ⟨⟨_, Try.underlying22, trivial⟩, by kernel_rfl⟩

theorem fa_104_1 : ∀ (q : Addr) (w : World), (Instr.fieldAt 104 (.pointer (some q)) 1).run Try.prog w = .ok (.pointer (some (q.add 1))) w := fun _ _ => by kernel_rfl

theorem sc_3 : ScT Try.prog 3 := ⟨⟨_, Try.underlying3, trivial⟩, by kernel_rfl⟩

theorem sz_5 : (Try.prog.info? 5).map (·.size) = some 1 := by kernel_rfl

theorem sc_5 : ScT Try.prog 5 := ⟨⟨_, Try.underlying5, trivial⟩, by kernel_rfl⟩

theorem follows_mx : Try.prog.follows .mixedOrders = true := by kernel_rfl

theorem fa_104_2 : ∀ (q : Addr) (w : World), (Instr.fieldAt 104 (.pointer (some q)) 2).run Try.prog w = .ok (.pointer (some (q.add 2))) w := fun _ _ => by kernel_rfl

theorem sz_3 : (Try.prog.info? 3).map (·.size) = some 1 := by kernel_rfl

theorem en_16 : En Try.prog 16 := En.of Try.func16 (by kernel_rfl) (by kernel_rfl)

theorem bt_51 : builtInfo Try.prog 51 = some ([.int .i64 0, .int .i64 0, .slice none 0 0, .slice none 0 0, .slice none 0 0], [(0, 1), (1, 1), (2, 1), (3, 1), (4, 1)]) := by kernel_rfl

theorem sz_51 : (Try.prog.info? 51).map (·.size) = some 5 := by kernel_rfl

theorem fa_51_0 : ∀ (q : Addr) (w : World), (Instr.fieldAt 51 (.pointer (some q)) 0).run Try.prog w = .ok (.pointer (some (q.add 0))) w := fun _ _ => by kernel_rfl

theorem en_12 : En Try.prog 12 := En.of Try.func12 (by kernel_rfl) (by kernel_rfl)

theorem fa_51_2 : ∀ (q : Addr) (w : World), (Instr.fieldAt 51 (.pointer (some q)) 2).run Try.prog w = .ok (.pointer (some (q.add 2))) w := fun _ _ => by kernel_rfl

theorem sc_43 : ScT Try.prog 43 := ⟨⟨_, Try.underlying43, trivial⟩, by kernel_rfl⟩

theorem sl_43 : SlT Try.prog 43 3 1 8 (.int .i64 0) := SlT.of Try.underlying43 (by kernel_rfl) (by decide)

theorem fa_51_3 : ∀ (q : Addr) (w : World), (Instr.fieldAt 51 (.pointer (some q)) 3).run Try.prog w = .ok (.pointer (some (q.add 3))) w := fun _ _ => by kernel_rfl

theorem fa_51_4 : ∀ (q : Addr) (w : World), (Instr.fieldAt 51 (.pointer (some q)) 4).run Try.prog w = .ok (.pointer (some (q.add 4))) w := fun _ _ => by kernel_rfl

theorem sz_43 : (Try.prog.info? 43).map (·.size) = some 1 := by kernel_rfl

theorem fa_51_1 : ∀ (q : Addr) (w : World), (Instr.fieldAt 51 (.pointer (some q)) 1).run Try.prog w = .ok (.pointer (some (q.add 1))) w := fun _ _ => by kernel_rfl

theorem ag_51 : AggT Try.prog 51 5 := ⟨⟨_, Try.underlying51, trivial⟩, by kernel_rfl⟩

theorem en_21 : En Try.prog 21 := En.of Try.func21 (by kernel_rfl) (by kernel_rfl)

theorem zr_48 : (Try.prog.info? 48).map (·.zero) = some (some (.agg #[.int .i64 0, .int .i64 0, .slice none 0 0])) := by kernel_rfl

theorem bt_48 : builtInfo Try.prog 48 = some ([.int .i64 0, .int .i64 0, .slice none 0 0], [(0, 1), (1, 1), (2, 1)]) := by kernel_rfl

theorem sz_48 : (Try.prog.info? 48).map (·.size) = some 3 := by kernel_rfl

theorem fa_48_2 : ∀ (q : Addr) (w : World), (Instr.fieldAt 48 (.pointer (some q)) 2).run Try.prog w = .ok (.pointer (some (q.add 2))) w := fun _ _ => by kernel_rfl

theorem sc_46 : ScT Try.prog 46 := ⟨⟨_, Try.underlying46, trivial⟩, by kernel_rfl⟩

theorem zr_24 : (Try.prog.info? 24).map (·.zero) = some (some (.agg #[.int .i64 0, .int .i64 0])) := by kernel_rfl

theorem bt_24 : builtInfo Try.prog 24 = some ([.int .i64 0, .int .i64 0], [(0, 1), (1, 1)]) := by kernel_rfl

theorem sz_24 : (Try.prog.info? 24).map (·.size) = some 2 := by kernel_rfl

theorem ag_24 : AggT Try.prog 24 2 := ⟨⟨_, Try.underlying24, trivial⟩, by kernel_rfl⟩

theorem en_17 : En Try.prog 17 := En.of Try.func17 (by kernel_rfl) (by kernel_rfl)

theorem bt_61 : builtInfo Try.prog 61 = some ([.int .i64 0, .int .i64 0, .int .i64 0, .int .i64 0, .int .i64 0], [(0, 1), (1, 2), (3, 2)]) := by kernel_rfl

theorem sl_46 : SlT Try.prog 46 61 5 40 (.agg #[.int .i64 0, .int .i64 0, .int .i64 0, .int .i64 0, .int .i64 0]) := SlT.of Try.underlying46 (by kernel_rfl) (by decide)

theorem sz_46 : (Try.prog.info? 46).map (·.size) = some 1 := by kernel_rfl

theorem ag_48 : AggT Try.prog 48 3 := ⟨⟨_, Try.underlying48, trivial⟩, by kernel_rfl⟩

theorem en_20 : En Try.prog 20 := En.of Try.func20 (by kernel_rfl) (by kernel_rfl)

theorem zr_55 : (Try.prog.info? 55).map (·.zero) = some (some (.agg #[.int .i64 0, .int .i64 0, .int .i64 0, .int .i64 0, .slice none 0 0])) := by kernel_rfl

theorem bt_55 : builtInfo Try.prog 55 = some ([.int .i64 0, .int .i64 0, .int .i64 0, .int .i64 0, .slice none 0 0], [(0, 1), (1, 1), (2, 1), (3, 1), (4, 1)]) := by kernel_rfl

theorem sz_55 : (Try.prog.info? 55).map (·.size) = some 5 := by kernel_rfl

theorem fa_55_0 : ∀ (q : Addr) (w : World), (Instr.fieldAt 55 (.pointer (some q)) 0).run Try.prog w = .ok (.pointer (some (q.add 0))) w := fun _ _ => by kernel_rfl

theorem fa_55_4 : ∀ (q : Addr) (w : World), (Instr.fieldAt 55 (.pointer (some q)) 4).run Try.prog w = .ok (.pointer (some (q.add 4))) w := fun _ _ => by kernel_rfl

theorem sc_53 : ScT Try.prog 53 := ⟨⟨_, Try.underlying53, trivial⟩, by kernel_rfl⟩

theorem bt_64 : builtInfo Try.prog 64 = some ([.int .i64 0, .int .i64 0, .int .i64 0], [(0, 1), (1, 1), (2, 1)]) := by kernel_rfl

theorem sl_53 : SlT Try.prog 53 64 3 24 (.agg #[.int .i64 0, .int .i64 0, .int .i64 0]) := SlT.of Try.underlying53 (by kernel_rfl) (by decide)

theorem sz_53 : (Try.prog.info? 53).map (·.size) = some 1 := by kernel_rfl

theorem fa_55_1 : ∀ (q : Addr) (w : World), (Instr.fieldAt 55 (.pointer (some q)) 1).run Try.prog w = .ok (.pointer (some (q.add 1))) w := fun _ _ => by kernel_rfl

theorem ag_55 : AggT Try.prog 55 5 := ⟨⟨_, Try.underlying55, trivial⟩, by kernel_rfl⟩

theorem en_22 : En Try.prog 22 := En.of Try.func22 (by kernel_rfl) (by kernel_rfl)

theorem en_61 : En Try.prog 61 := En.of Try.func61 (by kernel_rfl) (by kernel_rfl)

theorem en_23 : En Try.prog 23 := En.of Try.func23 (by kernel_rfl) (by kernel_rfl)

theorem en_62 : En Try.prog 62 := En.of Try.func62 (by kernel_rfl) (by kernel_rfl)

theorem en_24 : En Try.prog 24 := En.of Try.func24 (by kernel_rfl) (by kernel_rfl)

theorem sz_61 : (Try.prog.info? 61).map (·.size) = some 5 := by kernel_rfl

theorem ag_61 : AggT Try.prog 61 5 := ⟨⟨_, Try.underlying61, trivial⟩, by kernel_rfl⟩

theorem en_25 : En Try.prog 25 := En.of Try.func25 (by kernel_rfl) (by kernel_rfl)

theorem sz_64 : (Try.prog.info? 64).map (·.size) = some 3 := by kernel_rfl

theorem ag_64 : AggT Try.prog 64 3 := ⟨⟨_, Try.underlying64, trivial⟩, by kernel_rfl⟩

theorem en_26 : En Try.prog 26 := En.of Try.func26 (by kernel_rfl) (by kernel_rfl)

theorem fa_48_0 : ∀ (q : Addr) (w : World), (Instr.fieldAt 48 (.pointer (some q)) 0).run Try.prog w = .ok (.pointer (some (q.add 0))) w := fun _ _ => by kernel_rfl

theorem fa_48_1 : ∀ (q : Addr) (w : World), (Instr.fieldAt 48 (.pointer (some q)) 1).run Try.prog w = .ok (.pointer (some (q.add 1))) w := fun _ _ => by kernel_rfl

theorem fa_61_0 : ∀ (q : Addr) (w : World), (Instr.fieldAt 61 (.pointer (some q)) 0).run Try.prog w = .ok (.pointer (some (q.add 0))) w := fun _ _ => by kernel_rfl

theorem fa_64_0 : ∀ (q : Addr) (w : World), (Instr.fieldAt 64 (.pointer (some q)) 0).run Try.prog w = .ok (.pointer (some (q.add 0))) w := fun _ _ => by kernel_rfl

theorem en_55 : En Try.prog 55 := En.of Try.func55 (by kernel_rfl) (by kernel_rfl)

theorem en_73 : En Try.prog 73 := En.of Try.func73 (by kernel_rfl) (by kernel_rfl)

theorem sc_159 : ScT Try.prog 159 := ⟨⟨_, Try.underlying159, trivial⟩, by kernel_rfl⟩

theorem fa_61_1 : ∀ (q : Addr) (w : World), (Instr.fieldAt 61 (.pointer (some q)) 1).run Try.prog w = .ok (.pointer (some (q.add 1))) w := fun _ _ => by kernel_rfl

theorem fa_24_0 : ∀ (q : Addr) (w : World), (Instr.fieldAt 24 (.pointer (some q)) 0).run Try.prog w = .ok (.pointer (some (q.add 0))) w := fun _ _ => by kernel_rfl

theorem fa_24_1 : ∀ (q : Addr) (w : World), (Instr.fieldAt 24 (.pointer (some q)) 1).run Try.prog w = .ok (.pointer (some (q.add 1))) w := fun _ _ => by kernel_rfl

theorem en_52 : En Try.prog 52 := En.of Try.func52 (by kernel_rfl) (by kernel_rfl)

theorem fa_61_2 : ∀ (q : Addr) (w : World), (Instr.fieldAt 61 (.pointer (some q)) 2).run Try.prog w = .ok (.pointer (some (q.add 3))) w := fun _ _ => by kernel_rfl

theorem en_101 : En Try.prog 101 := En.of Try.func101 (by kernel_rfl) (by kernel_rfl)

theorem en_116 : En Try.prog 116 := En.of Try.func116 (by kernel_rfl) (by kernel_rfl)

theorem en_121 : En Try.prog 121 := En.of Try.func121 (by kernel_rfl) (by kernel_rfl)

theorem en_115 : En Try.prog 115 := En.of Try.func115 (by kernel_rfl) (by kernel_rfl)

theorem en_100 : En Try.prog 100 := En.of Try.func100 (by kernel_rfl) (by kernel_rfl)

theorem en_102 : En Try.prog 102 := En.of Try.func102 (by kernel_rfl) (by kernel_rfl)

theorem en_76 : En Try.prog 76 := En.of Try.func76 (by kernel_rfl) (by kernel_rfl)

theorem en_69 : En Try.prog 69 := En.of Try.func69 (by kernel_rfl) (by kernel_rfl)

theorem zr_72 : (Try.prog.info? 72).map (·.zero) = some (some (.slice none 0 0)) := by kernel_rfl

theorem en_70 : En Try.prog 70 := En.of Try.func70 (by kernel_rfl) (by kernel_rfl)

theorem zr_61 : (Try.prog.info? 61).map (·.zero) = some (some (.agg #[.int .i64 0, .int .i64 0, .int .i64 0, .int .i64 0, .int .i64 0])) := by kernel_rfl

theorem sc_72 : ScT Try.prog 72 := ⟨⟨_, Try.underlying72, trivial⟩, by kernel_rfl⟩

theorem en_71 : En Try.prog 71 := En.of Try.func71 (by kernel_rfl) (by kernel_rfl)

theorem sl_72 : SlT Try.prog 72 24 2 16 (.agg #[.int .i64 0, .int .i64 0]) := SlT.of Try.underlying72 (by kernel_rfl) (by decide)

theorem en_59 : En Try.prog 59 := En.of Try.func59 (by kernel_rfl) (by kernel_rfl)

theorem sz_72 : (Try.prog.info? 72).map (·.size) = some 1 := by kernel_rfl

theorem en_103 : En Try.prog 103 := En.of Try.func103 (by kernel_rfl) (by kernel_rfl)

theorem en_31 : En Try.prog 31 := En.of Try.func31 (by kernel_rfl) (by kernel_rfl)

theorem en_58 : En Try.prog 58 := En.of Try.func58 (by kernel_rfl) (by kernel_rfl)

theorem en_27 : En Try.prog 27 := En.of Try.func27 (by kernel_rfl) (by kernel_rfl)

theorem zr_120 : (Try.prog.info? 120).map (·.zero) = some (some (.agg #[.nilFunc])) := by kernel_rfl

theorem bt_120 : builtInfo Try.prog 120 = some ([.nilFunc], [(0, 1)]) := by kernel_rfl

theorem sz_120 : (Try.prog.info? 120).map (·.size) = some 1 := by kernel_rfl

theorem ag_120 : AggT Try.prog 120 1 := ⟨⟨_, Try.underlying120, trivial⟩, by kernel_rfl⟩

theorem en_64 : En Try.prog 64 := En.of Try.func64 (by kernel_rfl) (by kernel_rfl)

theorem en_65 : En Try.prog 65 := En.of Try.func65 (by kernel_rfl) (by kernel_rfl)

theorem fa_120_0 : ∀ (q : Addr) (w : World), (Instr.fieldAt 120 (.pointer (some q)) 0).run Try.prog w = .ok (.pointer (some (q.add 0))) w := fun _ _ => by kernel_rfl

theorem sc_118 : ScT Try.prog 118 := ⟨⟨_, Try.underlying118, trivial⟩, by kernel_rfl⟩

theorem en_97 : En Try.prog 97 := En.of Try.func97 (by kernel_rfl) (by kernel_rfl)

theorem en_98 : En Try.prog 98 := En.of Try.func98 (by kernel_rfl) (by kernel_rfl)

theorem en_63 : En Try.prog 63 := En.of Try.func63 (by kernel_rfl) (by kernel_rfl)

theorem en_28 : En Try.prog 28 := En.of Try.func28 (by kernel_rfl) (by kernel_rfl)

theorem ge_24 : Try.prog.eqGuardType Try.prog.depth 24 = false := by kernel_rfl

theorem eqs_24 (x0 : Int) (x1 : Int) (y0 : Int) (y1 : Int) (w : World) : (Op.equalIn 10000 24 (.agg #[.int .i64 x0, .int .i64 x1]) (.agg #[.int .i64 y0, .int .i64 y1])).run Try.prog w = .ok (x0 == y0 && x1 == y1) w := by
  rw [run_equalIn_agg w 9999 24 _ _ (by kernel_rfl) (by kernel_rfl)]
  simp [Op.eqFields, part, go_sem]
  repeat' split
  all_goals simp_all

theorem fa_55_2 : ∀ (q : Addr) (w : World), (Instr.fieldAt 55 (.pointer (some q)) 2).run Try.prog w = .ok (.pointer (some (q.add 2))) w := fun _ _ => by kernel_rfl

theorem fa_55_3 : ∀ (q : Addr) (w : World), (Instr.fieldAt 55 (.pointer (some q)) 3).run Try.prog w = .ok (.pointer (some (q.add 3))) w := fun _ _ => by kernel_rfl

theorem sc_141 : ScT Try.prog 141 := ⟨⟨_, Try.underlying141, trivial⟩, by kernel_rfl⟩

theorem fa_64_1 : ∀ (q : Addr) (w : World), (Instr.fieldAt 64 (.pointer (some q)) 1).run Try.prog w = .ok (.pointer (some (q.add 1))) w := fun _ _ => by kernel_rfl

theorem fa_64_2 : ∀ (q : Addr) (w : World), (Instr.fieldAt 64 (.pointer (some q)) 2).run Try.prog w = .ok (.pointer (some (q.add 2))) w := fun _ _ => by kernel_rfl

theorem en_75 : En Try.prog 75 := En.of Try.func75 (by kernel_rfl) (by kernel_rfl)

theorem en_106 : En Try.prog 106 := En.of Try.func106 (by kernel_rfl) (by kernel_rfl)

theorem en_117 : En Try.prog 117 := En.of Try.func117 (by kernel_rfl) (by kernel_rfl)

theorem en_105 : En Try.prog 105 := En.of Try.func105 (by kernel_rfl) (by kernel_rfl)

theorem en_74 : En Try.prog 74 := En.of Try.func74 (by kernel_rfl) (by kernel_rfl)

theorem en_77 : En Try.prog 77 := En.of Try.func77 (by kernel_rfl) (by kernel_rfl)

theorem en_35 : En Try.prog 35 := En.of Try.func35 (by kernel_rfl) (by kernel_rfl)

theorem bt_130 : builtInfo Try.prog 130 = some ((catc [.int .i64 0, .int .i64 0, .int .i64 0, .int .i64 0, .slice none 0 0] 32 enc_gauge_spent (fun _ => (⟨0, 0⟩ : gauge_spent)) [.map none]), [(0, 5), (5, 64), (69, 1)]) := by kernel_rfl

theorem zr_126 : (Try.prog.info? 126).map (·.zero) = some (some (.agg #[.int .i64 0, .int .i64 0])) := by kernel_rfl

theorem bt_126 : builtInfo Try.prog 126 = some ([.int .i64 0, .int .i64 0], [(0, 1), (1, 1)]) := by kernel_rfl

theorem sz_126 : (Try.prog.info? 126).map (·.size) = some 2 := by kernel_rfl

theorem ag_126 : AggT Try.prog 126 2 := ⟨⟨_, Try.underlying126, trivial⟩, by kernel_rfl⟩

theorem en_67 : En Try.prog 67 := En.of Try.func67 (by kernel_rfl) (by kernel_rfl)

theorem fa_130_1 : ∀ (q : Addr) (w : World), (Instr.fieldAt 130 (.pointer (some q)) 1).run Try.prog w = .ok (.pointer (some (q.add 5))) w := fun _ _ => by kernel_rfl

theorem zr_64 : (Try.prog.info? 64).map (·.zero) = some (some (.agg #[.int .i64 0, .int .i64 0, .int .i64 0])) := by kernel_rfl

theorem fa_130_0 : ∀ (q : Addr) (w : World), (Instr.fieldAt 130 (.pointer (some q)) 0).run Try.prog w = .ok (.pointer (some (q.add 0))) w := fun _ _ => by kernel_rfl

theorem en_84 : En Try.prog 84 := En.of Try.func84 (by kernel_rfl) (by kernel_rfl)

theorem en_82 : En Try.prog 82 := En.of Try.func82 (by kernel_rfl) (by kernel_rfl)

theorem ge_126 : Try.prog.eqGuardType Try.prog.depth 126 = false := by kernel_rfl

theorem eqs_126 (x0 : Int) (x1 : Int) (y0 : Int) (y1 : Int) (w : World) : (Op.equalIn 10000 126 (.agg #[.int .i64 x0, .int .i64 x1]) (.agg #[.int .i64 y0, .int .i64 y1])).run Try.prog w = .ok (x0 == y0 && x1 == y1) w := by
  rw [run_equalIn_agg w 9999 126 _ _ (by kernel_rfl) (by kernel_rfl)]
  simp [Op.eqFields, part, go_sem]
  repeat' split
  all_goals simp_all

theorem fa_126_0 : ∀ (q : Addr) (w : World), (Instr.fieldAt 126 (.pointer (some q)) 0).run Try.prog w = .ok (.pointer (some (q.add 0))) w := fun _ _ => by kernel_rfl

theorem fa_126_1 : ∀ (q : Addr) (w : World), (Instr.fieldAt 126 (.pointer (some q)) 1).run Try.prog w = .ok (.pointer (some (q.add 1))) w := fun _ _ => by kernel_rfl

theorem en_120 : En Try.prog 120 := En.of Try.func120 (by kernel_rfl) (by kernel_rfl)

theorem en_114 : En Try.prog 114 := En.of Try.func114 (by kernel_rfl) (by kernel_rfl)

theorem en_113 : En Try.prog 113 := En.of Try.func113 (by kernel_rfl) (by kernel_rfl)

theorem fa_130_2 : ∀ (q : Addr) (w : World), (Instr.fieldAt 130 (.pointer (some q)) 2).run Try.prog w = .ok (.pointer (some (q.add 69))) w := fun _ _ => by kernel_rfl

theorem sc_128 : ScT Try.prog 128 := ⟨⟨_, Try.underlying128, trivial⟩, by kernel_rfl⟩

theorem zr_3 : (Try.prog.info? 3).map (·.zero) = some (some (.int .i64 0)) := by kernel_rfl

theorem en_99 : En Try.prog 99 := En.of Try.func99 (by kernel_rfl) (by kernel_rfl)

theorem en_66 : En Try.prog 66 := En.of Try.func66 (by kernel_rfl) (by kernel_rfl)

theorem zr_122 : (Try.prog.info? 122).map (·.zero) = some (some (.pointer none)) := by kernel_rfl

theorem sz_122 : (Try.prog.info? 122).map (·.size) = some 1 := by kernel_rfl

theorem sc_122 : ScT Try.prog 122 := ⟨⟨_, Try.underlying122, trivial⟩, by kernel_rfl⟩

theorem zr_43 : (Try.prog.info? 43).map (·.zero) = some (some (.slice none 0 0)) := by kernel_rfl

theorem zr_132 : (Try.prog.info? 132).map (·.zero) = some (some (.nilFunc)) := by kernel_rfl

theorem sz_132 : (Try.prog.info? 132).map (·.size) = some 1 := by kernel_rfl

theorem sc_132 : ScT Try.prog 132 := ⟨⟨_, Try.underlying132, trivial⟩, by kernel_rfl⟩

theorem en_68 : En Try.prog 68 := En.of Try.func68 (by kernel_rfl) (by kernel_rfl)

theorem en_29 : En Try.prog 29 := En.of Try.func29 (by kernel_rfl) (by kernel_rfl)

theorem en_14 : En Try.prog 14 := En.of Try.func14 (by kernel_rfl) (by kernel_rfl)

theorem en_53 : En Try.prog 53 := En.of Try.func53 (by kernel_rfl) (by kernel_rfl)

theorem bt_40 : builtInfo Try.prog 40 = some ([.int .i64 0, .int .i64 0, .int .i64 0, .int .i64 0, .int .i64 0, .int .i64 0, .int .i64 0, .int .i64 0, .int .i64 0, .int .i64 0], [(0, 2), (2, 2), (4, 2), (6, 2), (8, 2)]) := by kernel_rfl

theorem zr_40 : (Try.prog.info? 40).map (·.zero) = some (some (.agg #[.int .i64 0, .int .i64 0, .int .i64 0, .int .i64 0, .int .i64 0, .int .i64 0, .int .i64 0, .int .i64 0, .int .i64 0, .int .i64 0])) := by kernel_rfl

theorem sz_40 : (Try.prog.info? 40).map (·.size) = some 10 := by kernel_rfl

theorem ag_40 : AggT Try.prog 40 10 := ⟨⟨_, Try.underlying40, trivial⟩, by kernel_rfl⟩

theorem sl_38 : SlT Try.prog 38 40 10 80 (.agg #[.int .i64 0, .int .i64 0, .int .i64 0, .int .i64 0, .int .i64 0, .int .i64 0, .int .i64 0, .int .i64 0, .int .i64 0, .int .i64 0]) := SlT.of Try.underlying38 (by kernel_rfl) (by decide)

theorem sc_112 : ScT Try.prog 112 := ⟨⟨_, Try.underlying112, trivial⟩, by kernel_rfl⟩

theorem fa_40_0 : ∀ (q : Addr) (w : World), (Instr.fieldAt 40 (.pointer (some q)) 0).run Try.prog w = .ok (.pointer (some (q.add 0))) w := fun _ _ => by kernel_rfl

theorem fa_40_1 : ∀ (q : Addr) (w : World), (Instr.fieldAt 40 (.pointer (some q)) 1).run Try.prog w = .ok (.pointer (some (q.add 2))) w := fun _ _ => by kernel_rfl

theorem fa_40_2 : ∀ (q : Addr) (w : World), (Instr.fieldAt 40 (.pointer (some q)) 2).run Try.prog w = .ok (.pointer (some (q.add 4))) w := fun _ _ => by kernel_rfl

theorem fa_40_3 : ∀ (q : Addr) (w : World), (Instr.fieldAt 40 (.pointer (some q)) 3).run Try.prog w = .ok (.pointer (some (q.add 6))) w := fun _ _ => by kernel_rfl

theorem fa_40_4 : ∀ (q : Addr) (w : World), (Instr.fieldAt 40 (.pointer (some q)) 4).run Try.prog w = .ok (.pointer (some (q.add 8))) w := fun _ _ => by kernel_rfl

theorem en_57 : En Try.prog 57 := En.of Try.func57 (by kernel_rfl) (by kernel_rfl)

theorem en_96 : En Try.prog 96 := En.of Try.func96 (by kernel_rfl) (by kernel_rfl)

theorem en_112 : En Try.prog 112 := En.of Try.func112 (by kernel_rfl) (by kernel_rfl)

theorem en_95 : En Try.prog 95 := En.of Try.func95 (by kernel_rfl) (by kernel_rfl)

theorem en_56 : En Try.prog 56 := En.of Try.func56 (by kernel_rfl) (by kernel_rfl)

theorem en_60 : En Try.prog 60 := En.of Try.func60 (by kernel_rfl) (by kernel_rfl)

theorem en_18 : En Try.prog 18 := En.of Try.func18 (by kernel_rfl) (by kernel_rfl)

theorem bt_26 : builtInfo Try.prog 26 = some ([.int .i64 0, .int .i64 0, .int .i64 0, .int .i64 0, .int .i64 0, .int .i64 0, .int .i64 0, .int .i64 0], [(0, 2), (2, 2), (4, 2), (6, 2)]) := by kernel_rfl

theorem fa_26_0 : ∀ (q : Addr) (w : World), (Instr.fieldAt 26 (.pointer (some q)) 0).run Try.prog w = .ok (.pointer (some (q.add 0))) w := fun _ _ => by kernel_rfl

theorem fa_26_1 : ∀ (q : Addr) (w : World), (Instr.fieldAt 26 (.pointer (some q)) 1).run Try.prog w = .ok (.pointer (some (q.add 2))) w := fun _ _ => by kernel_rfl

theorem fa_26_2 : ∀ (q : Addr) (w : World), (Instr.fieldAt 26 (.pointer (some q)) 2).run Try.prog w = .ok (.pointer (some (q.add 4))) w := fun _ _ => by kernel_rfl

theorem fa_26_3 : ∀ (q : Addr) (w : World), (Instr.fieldAt 26 (.pointer (some q)) 3).run Try.prog w = .ok (.pointer (some (q.add 6))) w := fun _ _ => by kernel_rfl

theorem sc_107 : ScT Try.prog 107 := ⟨⟨_, Try.underlying107, trivial⟩, by kernel_rfl⟩

theorem en_51 : En Try.prog 51 := En.of Try.func51 (by kernel_rfl) (by kernel_rfl)

theorem en_94 : En Try.prog 94 := En.of Try.func94 (by kernel_rfl) (by kernel_rfl)

theorem en_111 : En Try.prog 111 := En.of Try.func111 (by kernel_rfl) (by kernel_rfl)

theorem en_93 : En Try.prog 93 := En.of Try.func93 (by kernel_rfl) (by kernel_rfl)

theorem en_50 : En Try.prog 50 := En.of Try.func50 (by kernel_rfl) (by kernel_rfl)

theorem en_13 : En Try.prog 13 := En.of Try.func13 (by kernel_rfl) (by kernel_rfl)

theorem en_41 : En Try.prog 41 := En.of Try.func41 (by kernel_rfl) (by kernel_rfl)

theorem en_109 : En Try.prog 109 := En.of Try.func109 (by kernel_rfl) (by kernel_rfl)

theorem en_90 : En Try.prog 90 := En.of Try.func90 (by kernel_rfl) (by kernel_rfl)

theorem en_47 : En Try.prog 47 := En.of Try.func47 (by kernel_rfl) (by kernel_rfl)

theorem en_46 : En Try.prog 46 := En.of Try.func46 (by kernel_rfl) (by kernel_rfl)

theorem en_54 : En Try.prog 54 := En.of Try.func54 (by kernel_rfl) (by kernel_rfl)

theorem sc_145 : ScT Try.prog 145 := ⟨⟨_, Try.underlying145, trivial⟩, by kernel_rfl⟩

theorem en_88 : En Try.prog 88 := En.of Try.func88 (by kernel_rfl) (by kernel_rfl)

theorem en_108 : En Try.prog 108 := En.of Try.func108 (by kernel_rfl) (by kernel_rfl)

theorem en_118 : En Try.prog 118 := En.of Try.func118 (by kernel_rfl) (by kernel_rfl)

theorem en_107 : En Try.prog 107 := En.of Try.func107 (by kernel_rfl) (by kernel_rfl)

theorem en_79 : En Try.prog 79 := En.of Try.func79 (by kernel_rfl) (by kernel_rfl)

theorem en_44 : En Try.prog 44 := En.of Try.func44 (by kernel_rfl) (by kernel_rfl)

theorem en_15 : En Try.prog 15 := En.of Try.func15 (by kernel_rfl) (by kernel_rfl)

def kit_New (N : Nat) (bytes : List Int) : Option (Int × Int) :=
  some (0, 0)
theorem kit_New_ok {N : Nat} {G : Pers} {Lf : List Ent} {w : World} (bytes : List Int) {bytes_p : Option Addr} {bytes_c : Nat} (h_bytes : Rd G 1 bytes_p bytes_c (bytes.map encI_u8)) (hc : Ctx G (Lf) w) {res : Int × Int} (hF : kit_New N bytes = some res) : Calls Try.prog 11 #[.slice bytes_p bytes.length bytes_c] w (fun e w => ∃ (b'1 : Nat), e = .returned (.pointer (some ⟨b'1, 0, none⟩)) ∧ Ctx G (.box b'1 [.slice bytes_p bytes.length bytes_c, .int .i64 res.1, .int .i64 res.2] 104 :: Lf) w) := by
  unfold kit_New at hF
  refine fnIn (args := [.slice bytes_p bytes.length bytes_c]) Try.func11 rfl Try.ntmps11 rfl fun a hf => ?_
  refine wp_seq_k fun K1 h1 => ?_
  refine cReg ?_
  refine stP hf rfl rfl rfl (pA rfl) fun a hf => ?_
  refine cNil ?_
  refine h1 _ _ ?_
  refine wp_seq_k fun K2 h2 => ?_
  refine cReg ?_
  refine stP hf rfl rfl rfl (pM rfl) fun a hf => ?_
  refine stP hf rfl rfl rfl (pBuildS (cells := [.slice bytes_p bytes.length bytes_c, .int .i64 0, .int .i64 0]) bt_104 rfl rfl) fun a hf => ?_
  refine stBx (cs := [.slice bytes_p bytes.length bytes_c, .int .i64 0, .int .i64 0]) hf hc rfl rfl rfl rfl fun b_1 a w hf hc => ?_
  refine stP hf rfl rfl rfl (pA rfl) fun a hf => ?_
  refine cNil ?_
  refine h2 _ _ ?_
  refine wp_ret ?_
  obtain rfl := Option.some.inj hF
  exact fnOut1 (by simp) rfl Try.results11 hf hc (show look _ 2 = _ from rfl) ⟨b_1, rfl, hc⟩

def kit_Stream_Next_j9 (N : Nat) (s_ : kit_Stream) (n : Int) (b_2 : Int) (b_3 : Int) : Option (Int × Int × Int) :=
  Option.bind (nz n) fun un_1 =>
  some (b_3.tmod n, W (s_.used + 1), (W ((W ((W (5 * s_.mix)) + b_2)) + 1)).tmod 251)
def kit_Stream_Next_j6 (N : Nat) (s_ : kit_Stream) (n : Int) (b_2 : Int) : Option (Int × Int × Int) :=
  cond (decide (256 < n))
  (kit_Stream_Next_j9 N s_ n b_2 (W ((W (256 * b_2)) + ((W ((W ((W (5 * s_.mix)) + b_2)) + 1)).tmod 251))))
  (kit_Stream_Next_j9 N s_ n b_2 b_2)
def kit_Stream_Next (N : Nat) (s_ : kit_Stream) (n : Int) : Option (Int × Int × Int) :=
  cond ((decide (n < 2)) || (((s_.bytes.length : Nat) : Int) == 0))
  (some (0, s_.used, s_.mix))
  (Option.bind (nz ((s_.bytes.length : Nat) : Int)) fun un =>
  Option.bind (getI s_.bytes (s_.used.tmod ((s_.bytes.length : Nat) : Int))) fun e_1 =>
  cond (decide (((s_.bytes.length : Nat) : Int) ≤ s_.used))
  (Option.bind (nz ((s_.bytes.length : Nat) : Int)) fun un_2 =>
  kit_Stream_Next_j6 N s_ n (W ((W (e_1)) + (W ((W (11 * s_.mix)) + (W (s_.used.tdiv ((s_.bytes.length : Nat) : Int))))))))
  (kit_Stream_Next_j6 N s_ n (W (e_1))))
theorem kit_Stream_Next_ok {N : Nat} {G : Pers} {Lf : List Ent} {w : World} (s_ : kit_Stream) (n : Int) {b_ : Nat} {s__bytes_p : Option Addr} {s__bytes_c : Nat} (h_s__bytes : Rd G 1 s__bytes_p s__bytes_c (s_.bytes.map encI_u8)) (hc : Ctx G (.box b_ [.slice s__bytes_p s_.bytes.length s__bytes_c, .int .i64 s_.used, .int .i64 s_.mix] 104 :: Lf) w) {res : Int × Int × Int} (hF : kit_Stream_Next N s_ n = some res) : Calls Try.prog 16 #[.pointer (some ⟨b_, 0, none⟩), .int .i64 n] w (fun e w => e = .returned (.int .i64 res.1) ∧ Ctx G (.box b_ [.slice s__bytes_p s_.bytes.length s__bytes_c, .int .i64 res.2.1, .int .i64 res.2.2] 104 :: Lf) w) := by
  unfold kit_Stream_Next at hF
  refine fnIn (args := [.pointer (some ⟨b_, 0, none⟩), .int .i64 n]) Try.func16 rfl Try.ntmps16 rfl fun a hf => ?_
  refine wp_seq_k fun K1 h1 => ?_
  refine cReg ?_
  refine stP hf rfl rfl rfl (pA rfl) fun a hf => ?_
  refine cNil ?_
  refine h1 _ _ ?_
  refine wp_seq_k fun K2 h2 => ?_
  refine wp_seq_k fun K3 h3 => ?_
  refine cReg ?_
  refine stP hf rfl rfl rfl (pM rfl) fun a hf => ?_
  refine stP hf rfl rfl rfl (pLt rfl rfl) fun a hf => ?_
  refine stP hf rfl rfl rfl (pM rfl) fun a hf => ?_
  refine stCut 7 (fun a w => Has 92 a [(0, .pointer (some ⟨b_, 0, none⟩)), (1, .int .i64 n), (6, .int .i64 n), (7, .bool (decide (n < 2))), (8, .bool (decide (n < 2))), (15, .bool ((decide (n < 2)) || (((s_.bytes.length : Nat) : Int) == 0)))] ∧ Ctx G (.box b_ [.slice s__bytes_p s_.bytes.length s__bytes_c, .int .i64 s_.used, .int .i64 s_.mix] 104 :: Lf) w) ?_ ?_
  · cases hb : (decide (n < 2))
    · rw [hb] at hf
      refine stP hf rfl rfl rfl (pM rfl) fun a hf => ?_
      refine stP hf rfl rfl rfl (pNC rfl) fun a hf => ?_
      refine stP hf rfl rfl rfl (pFA fa_104_0 rfl) fun a hf => ?_
      refine stE hf hc rfl rfl rfl (eLd1 sc_22 rfl (cell_box m0 rfl)) fun a w hf hc => ?_
      refine stP hf rfl rfl rfl (pLenS Try.underlying22 rfl) fun a hf => ?_
      refine stP hf rfl rfl rfl (pEq rfl rfl) fun a hf => ?_
      refine stP hf rfl rfl rfl (pPf rfl rfl) fun a hf => ?_
      exact cNil ⟨hf.keep ⟨rfl, rfl, rfl, rfl, rfl, rfl, trivial⟩, hc⟩
    · rw [hb] at hf
      refine stS hf rfl rfl rfl fun a hf => ?_
      refine stS hf rfl rfl rfl fun a hf => ?_
      refine stS hf rfl rfl rfl fun a hf => ?_
      refine stS hf rfl rfl rfl fun a hf => ?_
      refine stS hf rfl rfl rfl fun a hf => ?_
      refine stS hf rfl rfl rfl fun a hf => ?_
      refine stP hf rfl rfl rfl (pPt rfl rfl) fun a hf => ?_
      exact cNil ⟨hf.keep ⟨rfl, rfl, rfl, rfl, rfl, rfl, trivial⟩, hc⟩
  intro a w ⟨hf, hc⟩
  refine cNil ?_
  refine h3 _ _ ?_
  refine cCond (b := ((decide (n < 2)) || (((s_.bytes.length : Nat) : Int) == 0))) hf rfl (fun hb => ?_) (fun hb => ?_)
  · replace hF := condT hb hF
    clear hb
    refine wp_seq_k fun K4 h4 => ?_
    refine cReg ?_
    refine stP hf rfl rfl rfl (pA rfl) fun a hf => ?_
    refine cNil ?_
    refine h4 _ _ ?_
    refine wp_ret ?_
    refine xThenR ?_
    obtain rfl := Option.some.inj hF
    exact fnOut1 (by simp) rfl Try.results16 hf hc (show look _ 4 = _ from rfl) ⟨rfl, hc⟩
  · replace hF := condF hb hF
    clear hb
    refine wp_skip ?_
    refine h2 _ _ ?_
    refine wp_seq_k fun K5 h5 => ?_
    obtain ⟨un, hun, hF⟩ := bnd_some hF
    obtain ⟨e_1, he_1, hF⟩ := bnd_some hF
    obtain ⟨b_1, o, qa, qp⟩ := h_s__bytes.atm he_1
    refine cQ hc follows_mx (by kernel_rfl) ?_
    refine qE hf rfl rfl rfl (Pu.ev (pM rfl)) fun a hf => ?_
    refine qE hf rfl rfl rfl (Pu.ev (pNC rfl)) fun a hf => ?_
    refine qE hf rfl rfl rfl (Pu.ev (pFA fa_104_0 rfl)) fun a hf => ?_
    refine qE hf rfl rfl rfl (eLd1 sc_22 rfl (cell_box m0 rfl)) fun a hf => ?_
    refine qE hf rfl rfl rfl (Pu.ev (pM rfl)) fun a hf => ?_
    refine qE hf rfl rfl rfl (Pu.ev (pNC rfl)) fun a hf => ?_
    refine qE hf rfl rfl rfl (Pu.ev (pFA fa_104_1 rfl)) fun a hf => ?_
    refine qE hf rfl rfl rfl (eLd1 sc_3 rfl (cell_box m0 rfl)) fun a hf => ?_
    refine qE hf rfl rfl rfl (Pu.ev (pM rfl)) fun a hf => ?_
    refine qE hf rfl rfl rfl (Pu.ev (pNC rfl)) fun a hf => ?_
    refine qE hf rfl rfl rfl (Pu.ev (pFA fa_104_0 rfl)) fun a hf => ?_
    refine qE hf rfl rfl rfl (eLd1 sc_22 rfl (cell_box m0 rfl)) fun a hf => ?_
    refine qE hf rfl rfl rfl (Pu.ev (pLenS Try.underlying22 rfl)) fun a hf => ?_
    refine qE hf rfl rfl rfl (Pu.ev (pRem rfl rfl (nz_spec hun))) fun a hf => ?_
    refine qE hf rfl rfl rfl (Pu.ev (pIA Try.underlying22 sz_5 rfl rfl qa)) fun a hf => ?_
    refine qE hf rfl rfl rfl (eLd1 sc_5 rfl (cell_pc (j := 0) qp rfl)) fun a hf => ?_
    refine qE hf rfl rfl rfl (Pu.ev (pCv Try.underlying5 Try.underlying3 rfl)) fun a hf => ?_
    refine qE hf rfl rfl rfl (Pu.ev (pA rfl)) fun a hf => ?_
    intro w hc
    refine h5 _ _ ?_
    refine wp_seq_k fun K6 h6 => ?_
    have hj6 : ∀ (b_2 : Int) a w, Has 92 a [(0, .pointer (some ⟨b_, 0, none⟩)), (1, .int .i64 n), (5, .int .i64 b_2)] → Ctx G (.box b_ [.slice s__bytes_p s_.bytes.length s__bytes_c, .int .i64 s_.used, .int .i64 s_.mix] 104 :: Lf) w → kit_Stream_Next_j6 N s_ n b_2 = some res → K6 a w := by
      intro b_2 a w hf hc hF
      unfold kit_Stream_Next_j6 at hF
      refine h6 _ _ ?_
      refine wp_seq_k fun K7 h7 => ?_
      refine cReg ?_
      refine stP hf rfl rfl rfl (pM rfl) fun a hf => ?_
      refine stP hf rfl rfl rfl (pM rfl) fun a hf => ?_
      refine stP hf rfl rfl rfl (pNC rfl) fun a hf => ?_
      refine stP hf rfl rfl rfl (pFA fa_104_2 rfl) fun a hf => ?_
      refine stE hf hc rfl rfl rfl (eLd1 sc_3 rfl (cell_box m0 rfl)) fun a w hf hc => ?_
      refine stP hf rfl rfl rfl (pMul rfl rfl) fun a hf => ?_
      refine stP hf rfl rfl rfl (pM rfl) fun a hf => ?_
      refine stP hf rfl rfl rfl (pAdd rfl rfl) fun a hf => ?_
      refine stP hf rfl rfl rfl (pAdd rfl rfl) fun a hf => ?_
      refine stP hf rfl rfl rfl (pRem rfl rfl (by decide)) fun a hf => ?_
      refine stP hf rfl rfl rfl (pNC rfl) fun a hf => ?_
      refine stP hf rfl rfl rfl (pFA fa_104_2 rfl) fun a hf => ?_
      refine stSt (vs := [.int .i64 ((W ((W ((W (5 * s_.mix)) + b_2)) + 1)).tmod 251)]) hf hc rfl rfl rfl rfl sz_3 rfl rfl u0 fun w hc => ?_
      refine cNil ?_
      refine h7 _ _ ?_
      refine wp_seq_k fun K8 h8 => ?_
      refine cReg ?_
      refine stP hf rfl rfl rfl (pM rfl) fun a hf => ?_
      refine stP hf rfl rfl rfl (pNC rfl) fun a hf => ?_
      refine stP hf rfl rfl rfl (pFA fa_104_1 rfl) fun a hf => ?_
      refine stE hf hc rfl rfl rfl (eLd1 sc_3 rfl (cell_box m0 rfl)) fun a w hf hc => ?_
      refine stP hf rfl rfl rfl (pAdd rfl rfl) fun a hf => ?_
      refine stP hf rfl rfl rfl (pNC rfl) fun a hf => ?_
      refine stP hf rfl rfl rfl (pFA fa_104_1 rfl) fun a hf => ?_
      refine stSt (vs := [.int .i64 (W (s_.used + 1))]) hf hc rfl rfl rfl rfl sz_3 rfl rfl u0 fun w hc => ?_
      refine cNil ?_
      refine h8 _ _ ?_
      refine wp_seq_k fun K9 h9 => ?_
      have hj9 : ∀ (b_3 : Int) a w, Has 92 a [(1, .int .i64 n), (5, .int .i64 b_3)] → Ctx G (.box b_ [.slice s__bytes_p s_.bytes.length s__bytes_c, .int .i64 (W (s_.used + 1)), .int .i64 ((W ((W ((W (5 * s_.mix)) + b_2)) + 1)).tmod 251)] 104 :: Lf) w → kit_Stream_Next_j9 N s_ n b_2 b_3 = some res → K9 a w := by
        intro b_3 a w hf hc hF
        unfold kit_Stream_Next_j9 at hF
        refine h9 _ _ ?_
        refine wp_seq_k fun K10 h10 => ?_
        refine cReg ?_
        refine stP hf rfl rfl rfl (pM rfl) fun a hf => ?_
        refine stP hf rfl rfl rfl (pM rfl) fun a hf => ?_
        obtain ⟨un_1, hun_1, hF⟩ := bnd_some hF
        refine stP hf rfl rfl rfl (pRem rfl rfl (nz_spec hun_1)) fun a hf => ?_
        refine stP hf rfl rfl rfl (pA rfl) fun a hf => ?_
        refine cNil ?_
        refine h10 _ _ ?_
        refine wp_ret ?_
        obtain rfl := Option.some.inj hF
        exact fnOut1 (by simp) rfl Try.results16 hf hc (show look _ 4 = _ from rfl) ⟨rfl, hc⟩
      refine wp_seq_k fun K11 h11 => ?_
      refine cReg ?_
      refine stP hf rfl rfl rfl (pM rfl) fun a hf => ?_
      refine stP hf rfl rfl rfl (pGt rfl rfl) fun a hf => ?_
      refine cNil ?_
      refine h11 _ _ ?_
      refine cCond (b := (decide (256 < n))) hf rfl (fun hb => ?_) (fun hb => ?_)
      · replace hF := condT hb hF
        clear hb
        refine cReg ?_
        refine stP hf rfl rfl rfl (pM rfl) fun a hf => ?_
        refine stP hf rfl rfl rfl (pMul rfl rfl) fun a hf => ?_
        refine stP hf rfl rfl rfl (pM rfl) fun a hf => ?_
        refine stP hf rfl rfl rfl (pNC rfl) fun a hf => ?_
        refine stP hf rfl rfl rfl (pFA fa_104_2 rfl) fun a hf => ?_
        refine stE hf hc rfl rfl rfl (eLd1 sc_3 rfl (cell_box m0 rfl)) fun a w hf hc => ?_
        refine stP hf rfl rfl rfl (pAdd rfl rfl) fun a hf => ?_
        refine stP hf rfl rfl rfl (pA rfl) fun a hf => ?_
        refine cNil ?_
        exact hj9 (W ((W (256 * b_2)) + ((W ((W ((W (5 * s_.mix)) + b_2)) + 1)).tmod 251))) _ _  (hf.keep ⟨rfl, rfl, trivial⟩) hc hF
      · replace hF := condF hb hF
        clear hb
        refine wp_skip ?_
        exact hj9 b_2 _ _  (hf.keep ⟨rfl, rfl, trivial⟩) hc hF
    refine wp_seq_k fun K12 h12 => ?_
    refine cQ hc follows_mx (by kernel_rfl) ?_
    refine qE hf rfl rfl rfl (Pu.ev (pM rfl)) fun a hf => ?_
    refine qE hf rfl rfl rfl (Pu.ev (pNC rfl)) fun a hf => ?_
    refine qE hf rfl rfl rfl (Pu.ev (pFA fa_104_1 rfl)) fun a hf => ?_
    refine qE hf rfl rfl rfl (eLd1 sc_3 rfl (cell_box m0 rfl)) fun a hf => ?_
    refine qE hf rfl rfl rfl (Pu.ev (pM rfl)) fun a hf => ?_
    refine qE hf rfl rfl rfl (Pu.ev (pNC rfl)) fun a hf => ?_
    refine qE hf rfl rfl rfl (Pu.ev (pFA fa_104_0 rfl)) fun a hf => ?_
    refine qE hf rfl rfl rfl (eLd1 sc_22 rfl (cell_box m0 rfl)) fun a hf => ?_
    refine qE hf rfl rfl rfl (Pu.ev (pLenS Try.underlying22 rfl)) fun a hf => ?_
    refine qE hf rfl rfl rfl (Pu.ev (pGe rfl rfl)) fun a hf => ?_
    intro w hc
    refine h12 _ _ ?_
    refine cCond (b := (decide (((s_.bytes.length : Nat) : Int) ≤ s_.used))) hf rfl (fun hb => ?_) (fun hb => ?_)
    · replace hF := condT hb hF
      clear hb
      obtain ⟨un_2, hun_2, hF⟩ := bnd_some hF
      refine cQ hc follows_mx (by kernel_rfl) ?_
      refine qE hf rfl rfl rfl (Pu.ev (pM rfl)) fun a hf => ?_
      refine qE hf rfl rfl rfl (Pu.ev (pM rfl)) fun a hf => ?_
      refine qE hf rfl rfl rfl (Pu.ev (pNC rfl)) fun a hf => ?_
      refine qE hf rfl rfl rfl (Pu.ev (pFA fa_104_2 rfl)) fun a hf => ?_
      refine qE hf rfl rfl rfl (eLd1 sc_3 rfl (cell_box m0 rfl)) fun a hf => ?_
      refine qE hf rfl rfl rfl (Pu.ev (pMul rfl rfl)) fun a hf => ?_
      refine qE hf rfl rfl rfl (Pu.ev (pM rfl)) fun a hf => ?_
      refine qE hf rfl rfl rfl (Pu.ev (pNC rfl)) fun a hf => ?_
      refine qE hf rfl rfl rfl (Pu.ev (pFA fa_104_1 rfl)) fun a hf => ?_
      refine qE hf rfl rfl rfl (eLd1 sc_3 rfl (cell_box m0 rfl)) fun a hf => ?_
      refine qE hf rfl rfl rfl (Pu.ev (pM rfl)) fun a hf => ?_
      refine qE hf rfl rfl rfl (Pu.ev (pNC rfl)) fun a hf => ?_
      refine qE hf rfl rfl rfl (Pu.ev (pFA fa_104_0 rfl)) fun a hf => ?_
      refine qE hf rfl rfl rfl (eLd1 sc_22 rfl (cell_box m0 rfl)) fun a hf => ?_
      refine qE hf rfl rfl rfl (Pu.ev (pLenS Try.underlying22 rfl)) fun a hf => ?_
      refine qE hf rfl rfl rfl (Pu.ev (pQuo rfl rfl (nz_spec hun_2))) fun a hf => ?_
      refine qE hf rfl rfl rfl (Pu.ev (pAdd rfl rfl)) fun a hf => ?_
      refine qE hf rfl rfl rfl (Pu.ev (pAdd rfl rfl)) fun a hf => ?_
      refine qE hf rfl rfl rfl (Pu.ev (pA rfl)) fun a hf => ?_
      intro w hc
      exact hj6 (W ((W (e_1)) + (W ((W (11 * s_.mix)) + (W (s_.used.tdiv ((s_.bytes.length : Nat) : Int))))))) _ _  (hf.keep ⟨rfl, rfl, rfl, trivial⟩) hc hF
    · replace hF := condF hb hF
      clear hb
      refine wp_skip ?_
      exact hj6 (W (e_1)) _ _  (hf.keep ⟨rfl, rfl, rfl, trivial⟩) hc hF

def kit_Stream_Within (N : Nat) (s_ : kit_Stream) (lo : Int) (hi_ : Int) : Option (Int × Int × Int) :=
  Option.bind (kit_Stream_Next N s_ (W ((W (hi_ - lo)) + 1))) fun r =>
  some (W (lo + r.1), r.2.1, r.2.2)
theorem kit_Stream_Within_ok {N : Nat} {G : Pers} {Lf : List Ent} {w : World} (s_ : kit_Stream) (lo : Int) (hi_ : Int) {b_ : Nat} {s__bytes_p : Option Addr} {s__bytes_c : Nat} (h_s__bytes : Rd G 1 s__bytes_p s__bytes_c (s_.bytes.map encI_u8)) (hc : Ctx G (.box b_ [.slice s__bytes_p s_.bytes.length s__bytes_c, .int .i64 s_.used, .int .i64 s_.mix] 104 :: Lf) w) {res : Int × Int × Int} (hF : kit_Stream_Within N s_ lo hi_ = some res) : Calls Try.prog 12 #[.pointer (some ⟨b_, 0, none⟩), .int .i64 lo, .int .i64 hi_] w (fun e w => e = .returned (.int .i64 res.1) ∧ Ctx G (.box b_ [.slice s__bytes_p s_.bytes.length s__bytes_c, .int .i64 res.2.1, .int .i64 res.2.2] 104 :: Lf) w) := by
  unfold kit_Stream_Within at hF
  refine fnIn (args := [.pointer (some ⟨b_, 0, none⟩), .int .i64 lo, .int .i64 hi_]) Try.func12 rfl Try.ntmps12 rfl fun a hf => ?_
  refine wp_seq_k fun K1 h1 => ?_
  refine cReg ?_
  refine stP hf rfl rfl rfl (pA rfl) fun a hf => ?_
  refine cNil ?_
  refine h1 _ _ ?_
  refine wp_seq_k fun K2 h2 => ?_
  refine cReg ?_
  refine stP hf rfl rfl rfl (pM rfl) fun a hf => ?_
  refine stP hf rfl rfl rfl (pM rfl) fun a hf => ?_
  refine stP hf rfl rfl rfl (pM rfl) fun a hf => ?_
  refine stP hf rfl rfl rfl (pM rfl) fun a hf => ?_
  refine stP hf rfl rfl rfl (pSub rfl rfl) fun a hf => ?_
  refine stP hf rfl rfl rfl (pAdd rfl rfl) fun a hf => ?_
  obtain ⟨r, hr, hF⟩ := bnd_some hF
  refine stC (vs := [.pointer (some ⟨b_, 0, none⟩), .int .i64 (W ((W (hi_ - lo)) + 1))]) (caps := []) hf rfl rfl rfl en_16 rfl rfl rfl rfl (kit_Stream_Next_ok s_ (W ((W (hi_ - lo)) + 1)) h_s__bytes (hc.pick k0) hr) ?_
  rintro _ w ⟨rfl, hc⟩
  refine ⟨_, rfl, fun a hf => ?_⟩
  refine stP hf rfl rfl rfl (pAdd rfl rfl) fun a hf => ?_
  refine stP hf rfl rfl rfl (pA rfl) fun a hf => ?_
  refine cNil ?_
  refine h2 _ _ ?_
  refine wp_ret ?_
  obtain rfl := Option.some.inj hF
  exact fnOut1 (by simp) rfl Try.results12 hf hc (show look _ 6 = _ from rfl) ⟨rfl, hc⟩

def law03_Section_b6 (N : Nat) (s_ : kit_Stream) (r_1 : Int × Int × Int) (at_ : Int) (x : Int) (b__0 : Int) (b__1 : Int) (x_1 : List Int) (x_2 : List Int) (x_3 : List Int) : Option (Step (Int × Int × Int × Int × (List Int) × (List Int) × (List Int)) (law03_River × Int × Int)) :=
  cond (decide (x < r_1.1))
  (Option.bind (kit_Stream_Within N (⟨s_.bytes, b__0, b__1⟩ : kit_Stream) 1 90) fun r_3 =>
  Option.bind (room ((x_1 ++ [W (at_ + r_3.1)])).length) fun un =>
  Option.bind (kit_Stream_Next N (⟨s_.bytes, r_3.2.1, r_3.2.2⟩ : kit_Stream) 300) fun r_4 =>
  Option.bind (room ((x_2 ++ [r_4.1])).length) fun un_1 =>
  Option.bind (kit_Stream_Within N (⟨s_.bytes, r_4.2.1, r_4.2.2⟩ : kit_Stream) (-40) 400) fun r_5 =>
  Option.bind (room ((x_3 ++ [r_5.1])).length) fun un_2 =>
  some (.cont (W (at_ + r_3.1), W (x + 1), r_5.2.1, r_5.2.2, (x_1 ++ [W (at_ + r_3.1)]), (x_2 ++ [r_4.1]), (x_3 ++ [r_5.1]))))
  (some (.brk (at_, x, b__0, b__1, x_1, x_2, x_3)))
def law03_Section (N : Nat) (s_ : kit_Stream) (most : Int) : Option (law03_River × Int × Int) :=
  Option.bind (kit_Stream_Next N s_ 50) fun r =>
  Option.bind (kit_Stream_Within N (⟨s_.bytes, r.2.1, r.2.2⟩ : kit_Stream) 1 most) fun r_1 =>
  Option.bind (loopO (fun s6 => law03_Section_b6 N s_ r_1 s6.1 s6.2.1 s6.2.2.1 s6.2.2.2.1 s6.2.2.2.2.1 s6.2.2.2.2.2.1 s6.2.2.2.2.2.2) N (r.1, 0, r_1.2.1, r_1.2.2, ([] : List Int), ([] : List Int), ([] : List Int))) fun x6 =>
  exK x6 (fun s6 => Option.bind (kit_Stream_Within N (⟨s_.bytes, s6.2.2.1, s6.2.2.2.1⟩ : kit_Stream) 1 90) fun r_2 =>
  some ((⟨r.1, W (s6.1 + r_2.1), s6.2.2.2.2.1, s6.2.2.2.2.2.1, s6.2.2.2.2.2.2⟩ : law03_River), r_2.2.1, r_2.2.2)) some
theorem law03_Section_ok {N : Nat} {G : Pers} {Lf : List Ent} {w : World} (s_ : kit_Stream) (most : Int) {b_ : Nat} {s__bytes_p : Option Addr} {s__bytes_c : Nat} (h_s__bytes : Rd G 1 s__bytes_p s__bytes_c (s_.bytes.map encI_u8)) (hc : Ctx G (.box b_ [.slice s__bytes_p s_.bytes.length s__bytes_c, .int .i64 s_.used, .int .i64 s_.mix] 104 :: Lf) w) {res : law03_River × Int × Int} (hF : law03_Section N s_ most = some res) : Calls Try.prog 21 #[.pointer (some ⟨b_, 0, none⟩), .int .i64 most] w (fun e w => ∃ (p'1 : Option Addr) (c'1 : Nat) (p'2 : Option Addr) (c'2 : Nat) (p'3 : Option Addr) (c'3 : Nat), e = .returned (.agg #[.int .i64 res.1.Left, .int .i64 res.1.Right, .slice p'1 res.1.At.length c'1, .slice p'2 res.1.Depth.length c'2, .slice p'3 res.1.Speeds.length c'3]) ∧ Ctx G (.row p'1 c'1 (res.1.At.map encI_i64) 3 1 :: .row p'2 c'2 (res.1.Depth.map encI_i64) 3 1 :: .row p'3 c'3 (res.1.Speeds.map encI_i64) 3 1 :: .box b_ [.slice s__bytes_p s_.bytes.length s__bytes_c, .int .i64 res.2.1, .int .i64 res.2.2] 104 :: Lf) w) := by
  unfold law03_Section at hF
  refine fnIn (args := [.pointer (some ⟨b_, 0, none⟩), .int .i64 most]) Try.func21 rfl Try.ntmps21 rfl fun a hf => ?_
  refine wp_seq_k fun K1 h1 => ?_
  refine cReg ?_
  refine stAl (cs := [.int .i64 0, .int .i64 0, .slice none 0 0, .slice none 0 0, .slice none 0 0]) hf hc rfl rfl zr_51 rfl fun b_1 a w hf hc => ?_
  refine cNil ?_
  refine h1 _ _ ?_
  refine wp_seq_k fun K2 h2 => ?_
  refine cReg ?_
  refine stP hf rfl rfl rfl (pM rfl) fun a hf => ?_
  obtain ⟨r, hr, hF⟩ := bnd_some hF
  refine stC (vs := [.pointer (some ⟨b_, 0, none⟩), .int .i64 50]) (caps := []) hf rfl rfl rfl en_16 rfl rfl rfl rfl (kit_Stream_Next_ok s_ 50 h_s__bytes (hc.pick k1) hr) ?_
  rintro _ w ⟨rfl, hc⟩
  refine ⟨_, rfl, fun a hf => ?_⟩
  refine stP hf rfl rfl rfl (pBuildS (cells := [.int .i64 r.1, .int .i64 0, .slice none 0 0, .slice none 0 0, .slice none 0 0]) bt_51 rfl rfl) fun a hf => ?_
  refine stAl (cs := [.int .i64 0, .int .i64 0, .slice none 0 0, .slice none 0 0, .slice none 0 0]) hf hc rfl rfl zr_51 rfl fun b_2 a w hf hc => ?_
  refine stSt (vs := [.int .i64 r.1, .int .i64 0, .slice none 0 0, .slice none 0 0, .slice none 0 0]) hf hc rfl rfl rfl rfl sz_51 rfl rfl u0 fun w hc => ?_
  refine cNil ?_
  refine h2 _ _ ?_
  refine wp_seq_k fun K3 h3 => ?_
  refine cReg ?_
  refine stP hf rfl rfl rfl (pFA fa_51_0 rfl) fun a hf => ?_
  refine stE hf hc rfl rfl rfl (eLd1 sc_3 rfl (cell_box m0 rfl)) fun a w hf hc => ?_
  refine stP hf rfl rfl rfl (pA rfl) fun a hf => ?_
  refine cNil ?_
  refine h3 _ _ ?_
  refine wp_seq_k fun K4 h4 => ?_
  refine wp_seq_k fun K5 h5 => ?_
  refine cReg ?_
  refine stP hf rfl rfl rfl (pM rfl) fun a hf => ?_
  refine stP hf rfl rfl rfl (pM rfl) fun a hf => ?_
  obtain ⟨r_1, hr_1, hF⟩ := bnd_some hF
  refine stC (vs := [.pointer (some ⟨b_, 0, none⟩), .int .i64 1, .int .i64 most]) (caps := []) hf rfl rfl rfl en_12 rfl rfl rfl rfl (kit_Stream_Within_ok (⟨s_.bytes, r.2.1, r.2.2⟩ : kit_Stream) 1 most h_s__bytes (hc.pick k1) hr_1) ?_
  rintro _ w ⟨rfl, hc⟩
  refine ⟨_, rfl, fun a hf => ?_⟩
  refine stP hf rfl rfl rfl (pM rfl) fun a hf => ?_
  refine cNil ?_
  refine h5 _ _ ?_
  refine wp_block ?_
  obtain ⟨x6, hx6, hF⟩ := bnd_some hF
  let S6 : (Int × Int × Int × Int × (List Int) × (List Int) × (List Int)) → Act → World → Prop := (fun (zz : Int × Int × Int × Int × (List Int) × (List Int) × (List Int)) a w => ∃ (p_1 : Option Addr) (c_1 : Nat) (p_2 : Option Addr) (c_2 : Nat) (p_3 : Option Addr) (c_3 : Nat), Has 48 a [(0, .pointer (some ⟨b_, 0, none⟩)), (4, .pointer (some ⟨b_1, 0, none⟩)), (5, .pointer (some ⟨b_2, 0, none⟩)), (6, .int .i64 zz.1), (14, .int .i64 r_1.1), (15, .int .i64 zz.2.1)] ∧ Ctx G (.row p_3 c_3 (zz.2.2.2.2.2.2.map encI_i64) 3 1 :: .row p_2 c_2 (zz.2.2.2.2.2.1.map encI_i64) 3 1 :: .row p_1 c_1 (zz.2.2.2.2.1.map encI_i64) 3 1 :: .box b_ [.slice s__bytes_p s_.bytes.length s__bytes_c, .int .i64 zz.2.2.1, .int .i64 zz.2.2.2.1] 104 :: .box b_2 [.int .i64 r.1, .int .i64 0, .slice p_1 zz.2.2.2.2.1.length c_1, .slice p_2 zz.2.2.2.2.2.1.length c_2, .slice p_3 zz.2.2.2.2.2.2.length c_3] 51 :: .box b_1 [.int .i64 0, .int .i64 0, .slice none 0 0, .slice none 0 0, .slice none 0 0] 51 :: Lf) w)
  have hr6 : ∀ (zz : Int × Int × Int × Int × (List Int) × (List Int) × (List Int)) a w, x6 = .go zz → S6 zz a w → K4 a w := by
    rintro ⟨at_, x, b__0, b__1, x_1, x_2, x_3⟩ a w rfl ⟨p_1, c_1, p_2, c_2, p_3, c_3, hf, hc⟩
    replace hF : _ = some res := hF
    refine h4 _ _ ?_
    refine wp_seq_k fun K7 h7 => ?_
    refine cReg ?_
    refine stP hf rfl rfl rfl (pM rfl) fun a hf => ?_
    refine stP hf rfl rfl rfl (pM rfl) fun a hf => ?_
    obtain ⟨r_2, hr_2, hF⟩ := bnd_some hF
    refine stC (vs := [.pointer (some ⟨b_, 0, none⟩), .int .i64 1, .int .i64 90]) (caps := []) hf rfl rfl rfl en_12 rfl rfl rfl rfl (kit_Stream_Within_ok (⟨s_.bytes, b__0, b__1⟩ : kit_Stream) 1 90 h_s__bytes (hc.pick k3) hr_2) ?_
    rintro _ w ⟨rfl, hc⟩
    refine ⟨_, rfl, fun a hf => ?_⟩
    refine stP hf rfl rfl rfl (pAdd rfl rfl) fun a hf => ?_
    refine stP hf rfl rfl rfl (pFA fa_51_1 rfl) fun a hf => ?_
    refine stSt (vs := [.int .i64 (W (at_ + r_2.1))]) hf hc rfl rfl rfl rfl sz_3 rfl rfl u4 fun w hc => ?_
    refine cNil ?_
    refine h7 _ _ ?_
    refine wp_seq_k fun K8 h8 => ?_
    refine cReg ?_
    refine stE hf hc rfl rfl rfl (eLdN (vs := [.int .i64 r.1, .int .i64 (W (at_ + r_2.1)), .slice p_1 x_1.length c_1, .slice p_2 x_2.length c_2, .slice p_3 x_3.length c_3]) ag_51 rfl rfl (cells_box (n := 5) m4 rfl)) fun a w hf hc => ?_
    refine stSt (vs := [.int .i64 r.1, .int .i64 (W (at_ + r_2.1)), .slice p_1 x_1.length c_1, .slice p_2 x_2.length c_2, .slice p_3 x_3.length c_3]) hf hc rfl rfl rfl rfl sz_51 rfl rfl u5 fun w hc => ?_
    refine cNil ?_
    refine h8 _ _ ?_
    refine wp_ret ?_
    obtain rfl := Option.some.inj hF
    replace hc := hc.drop k4
    replace hc := hc.pick k0
    replace hc := hc.pick k1
    replace hc := hc.pick k2
    replace hc := hc.pick k3
    exact fnOut1 (by simp) rfl Try.results21 hf hc (rv_cellN (vs := [.int .i64 r.1, .int .i64 (W (at_ + r_2.1)), .slice p_1 x_1.length c_1, .slice p_2 x_2.length c_2, .slice p_3 x_3.length c_3]) ag_51 rfl rfl (cells_box (n := 5) m4 rfl)) ⟨p_1, c_1, p_2, c_2, p_3, c_3, rfl, (hc.drop k4)⟩
  have ho6 : ∀ r, x6 = .out r → r = res := by
    rintro r rfl
    exact Option.some.inj hF
  replace hc := hc.nilRow 3 1
  replace hc := hc.nilRow 3 1
  replace hc := hc.nilRow 3 1
  refine cLoop N (loopW (S := S6) (x := x6) ?_ N (r.1, 0, r_1.2.1, r_1.2.2, ([] : List Int), ([] : List Int), ([] : List Int)) _ _ ⟨none, 0, none, 0, none, 0, hf.keep ⟨rfl, rfl, rfl, rfl, rfl, rfl, trivial⟩, hc⟩ hx6)
  clear hF hf hc
  rintro ⟨at_, x, b__0, b__1, x_1, x_2, x_3⟩ st6 a w KB6 ⟨p_1, c_1, p_2, c_2, p_3, c_3, hf, hc⟩ hF hfin6 hK6
  unfold law03_Section_b6 at hF
  refine wp_seq_k fun K9 h9 => ?_
  refine cReg ?_
  refine stP hf rfl rfl rfl (pLt rfl rfl) fun a hf => ?_
  refine cNil ?_
  refine h9 _ _ ?_
  refine wp_seq_k fun K10 h10 => ?_
  refine cCond (b := (decide (x < r_1.1))) hf rfl (fun hb => ?_) (fun hb => ?_)
  · replace hF := condT hb hF
    clear hb
    refine wp_skip ?_
    refine h10 _ _ ?_
    refine wp_seq_k fun K11 h11 => ?_
    refine wp_block ?_
    refine wp_seq_k fun K12 h12 => ?_
    refine cReg ?_
    refine stP hf rfl rfl rfl (pM rfl) fun a hf => ?_
    refine stP hf rfl rfl rfl (pM rfl) fun a hf => ?_
    obtain ⟨r_3, hr_3, hF⟩ := bnd_some hF
    refine stC (vs := [.pointer (some ⟨b_, 0, none⟩), .int .i64 1, .int .i64 90]) (caps := []) hf rfl rfl rfl en_12 rfl rfl rfl rfl (kit_Stream_Within_ok (⟨s_.bytes, b__0, b__1⟩ : kit_Stream) 1 90 h_s__bytes (hc.pick k3) hr_3) ?_
    rintro _ w ⟨rfl, hc⟩
    refine ⟨_, rfl, fun a hf => ?_⟩
    refine stP hf rfl rfl rfl (pAdd rfl rfl) fun a hf => ?_
    refine stP hf rfl rfl rfl (pA rfl) fun a hf => ?_
    refine cNil ?_
    refine h12 _ _ ?_
    obtain ⟨un, hun, hF⟩ := bnd_some hF
    obtain ⟨r_4, hr_4, hF⟩ := bnd_some hF
    obtain ⟨un_1, hun_1, hF⟩ := bnd_some hF
    obtain ⟨r_5, hr_5, hF⟩ := bnd_some hF
    obtain ⟨un_2, hun_2, hF⟩ := bnd_some hF
    replace hc := hc.nilRow 0 0
    replace hc := hc.nilRow 0 0
    replace hc := hc.nilRow 0 0
    refine regionE (fun θ => [⟨none, none, 0, .pointer (some ⟨b_, 0, none⟩)⟩, ⟨none, none, 4, .pointer (some ⟨b_1, 0, none⟩)⟩, ⟨none, none, 5, .pointer (some ⟨b_2, 0, none⟩)⟩, ⟨none, none, 6, .int .i64 (W (at_ + r_3.1))⟩, ⟨none, none, 14, .int .i64 r_1.1⟩, ⟨none, none, 15, .int .i64 x⟩, ⟨some 0, none, 21, .pointer (some ⟨b_2, 2, none⟩)⟩, ⟨some 1, none, 22, .slice p_1 x_1.length c_1⟩, ⟨some 2, none, 23, .int .i64 (W (at_ + r_3.1))⟩, ⟨some 3, none, 24, .slice (some ⟨(θ 24).b, 0, none⟩) 1 1⟩, ⟨some 4, none, 25, .slice ((θ 32).p) ((x_1 ++ [W (at_ + r_3.1)]).length) ((θ 32).c)⟩, ⟨some 5, none, 26, .pointer (some ⟨b_2, 3, none⟩)⟩, ⟨some 6, none, 27, .slice p_2 x_2.length c_2⟩, ⟨some 7, none, 28, .pointer (some ⟨b_, 0, none⟩)⟩, ⟨some 8, none, 29, .int .i64 r_4.1⟩, ⟨some 9, none, 30, .slice (some ⟨(θ 72).b, 0, none⟩) 1 1⟩, ⟨some 10, none, 31, .slice ((θ 80).p) ((x_2 ++ [r_4.1]).length) ((θ 80).c)⟩, ⟨some 11, none, 32, .pointer (some ⟨b_2, 4, none⟩)⟩, ⟨some 12, none, 33, .slice p_3 x_3.length c_3⟩, ⟨some 13, none, 34, .pointer (some ⟨b_, 0, none⟩)⟩, ⟨some 14, none, 35, .int .i64 r_5.1⟩, ⟨some 15, none, 36, .slice (some ⟨(θ 120).b, 0, none⟩) 1 1⟩, ⟨some 16, none, 37, .slice ((θ 128).p) ((x_3 ++ [r_5.1]).length) ((θ 128).c)⟩, ⟨some 17, none, 38, .pointer (some ⟨b_2, 2, none⟩)⟩, ⟨some 19, none, 39, .pointer (some ⟨b_2, 3, none⟩)⟩, ⟨some 21, none, 40, .pointer (some ⟨b_2, 4, none⟩)⟩]) (fun E θ => (bif E 15 then .row (some ⟨(θ 120).b, 0, none⟩) 1 (([r_5.1] : List Int).map encI_i64) 3 1 else .row none 0 [] 0 0) :: (bif E 9 then .row (some ⟨(θ 72).b, 0, none⟩) 1 (([r_4.1] : List Int).map encI_i64) 3 1 else .row none 0 [] 0 0) :: (bif E 3 then .row (some ⟨(θ 24).b, 0, none⟩) 1 (([W (at_ + r_3.1)] : List Int).map encI_i64) 3 1 else .row none 0 [] 0 0) :: (bif E 14 then .box b_ [.slice s__bytes_p s_.bytes.length s__bytes_c, .int .i64 r_5.2.1, .int .i64 r_5.2.2] 104 else bif E 8 then .box b_ [.slice s__bytes_p s_.bytes.length s__bytes_c, .int .i64 r_4.2.1, .int .i64 r_4.2.2] 104 else .box b_ [.slice s__bytes_p s_.bytes.length s__bytes_c, .int .i64 r_3.2.1, .int .i64 r_3.2.2] 104) :: (bif E 16 then .row ((θ 128).p) ((θ 128).c) ((x_3 ++ [r_5.1]).map encI_i64) 3 1 else .row p_3 c_3 (x_3.map encI_i64) 3 1) :: (bif E 10 then .row ((θ 80).p) ((θ 80).c) ((x_2 ++ [r_4.1]).map encI_i64) 3 1 else .row p_2 c_2 (x_2.map encI_i64) 3 1) :: (bif E 4 then .row ((θ 32).p) ((θ 32).c) ((x_1 ++ [W (at_ + r_3.1)]).map encI_i64) 3 1 else .row p_1 c_1 (x_1.map encI_i64) 3 1) :: (bif E 22 then .box b_2 [.int .i64 r.1, .int .i64 0, .slice ((θ 32).p) ((x_1 ++ [W (at_ + r_3.1)]).length) ((θ 32).c), .slice ((θ 80).p) ((x_2 ++ [r_4.1]).length) ((θ 80).c), .slice ((θ 128).p) ((x_3 ++ [r_5.1]).length) ((θ 128).c)] 51 else bif E 20 then .box b_2 [.int .i64 r.1, .int .i64 0, .slice ((θ 32).p) ((x_1 ++ [W (at_ + r_3.1)]).length) ((θ 32).c), .slice ((θ 80).p) ((x_2 ++ [r_4.1]).length) ((θ 80).c), .slice p_3 x_3.length c_3] 51 else bif E 18 then .box b_2 [.int .i64 r.1, .int .i64 0, .slice ((θ 32).p) ((x_1 ++ [W (at_ + r_3.1)]).length) ((θ 32).c), .slice p_2 x_2.length c_2, .slice p_3 x_3.length c_3] 51 else .box b_2 [.int .i64 r.1, .int .i64 0, .slice p_1 x_1.length c_1, .slice p_2 x_2.length c_2, .slice p_3 x_3.length c_3] 51) :: .box b_1 [.int .i64 0, .int .i64 0, .slice none 0 0, .slice none 0 0, .slice none 0 0] 51 :: Lf) [(10, 8), (18, 1), (20, 1), (22, 1), (18, 4), (20, 4), (22, 4), (18, 6), (20, 6), (22, 6), (14, 10), (20, 10), (22, 10), (18, 12), (20, 12), (22, 12), (22, 16), (20, 18), (22, 18), (22, 20)] (fun a w => ∃ (b_6 : Nat) (b_7 : Nat) (b_8 : Nat) (p_7 : Option Addr) (c_7 : Nat) (p_8 : Option Addr) (c_8 : Nat) (p_9 : Option Addr) (c_9 : Nat), Has 48 a [(0, .pointer (some ⟨b_, 0, none⟩)), (4, .pointer (some ⟨b_1, 0, none⟩)), (5, .pointer (some ⟨b_2, 0, none⟩)), (6, .int .i64 (W (at_ + r_3.1))), (14, .int .i64 r_1.1), (15, .int .i64 x)] ∧ Ctx G (.row (some ⟨b_6, 0, none⟩) 1 (([r_5.1] : List Int).map encI_i64) 3 1 :: .row (some ⟨b_7, 0, none⟩) 1 (([r_4.1] : List Int).map encI_i64) 3 1 :: .row (some ⟨b_8, 0, none⟩) 1 (([W (at_ + r_3.1)] : List Int).map encI_i64) 3 1 :: .box b_ [.slice s__bytes_p s_.bytes.length s__bytes_c, .int .i64 r_5.2.1, .int .i64 r_5.2.2] 104 :: .row p_7 c_7 ((x_3 ++ [r_5.1]).map encI_i64) 3 1 :: .row p_8 c_8 ((x_2 ++ [r_4.1]).map encI_i64) 3 1 :: .row p_9 c_9 ((x_1 ++ [W (at_ + r_3.1)]).map encI_i64) 3 1 :: .box b_2 [.int .i64 r.1, .int .i64 0, .slice p_9 ((x_1 ++ [W (at_ + r_3.1)]).length) c_9, .slice p_8 ((x_2 ++ [r_4.1]).length) c_8, .slice p_7 ((x_3 ++ [r_5.1]).length) c_7] 51 :: .box b_1 [.int .i64 0, .int .i64 0, .slice none 0 0, .slice none 0 0, .slice none 0 0] 51 :: Lf) w) follows_mx (by kernel_rfl) (by kernel_rfl) (HasE.of hf ⟨rfl, rfl, rfl, rfl, rfl, rfl, trivial, trivial, trivial, trivial, trivial, trivial, trivial, trivial, trivial, trivial, trivial, trivial, trivial, trivial, trivial, trivial, trivial, trivial, trivial, trivial, trivial⟩) hc ⟨?_, ?_, ?_, ?_, ?_, ?_, ?_, ?_, ?_, ?_, ?_, ?_, ?_, ?_, ?_, ?_, ?_, ?_, ?_, ?_, ?_, ?_, ?_, trivial⟩ ?_ ?_
    · intro E θ a w hD hi hp he hc
      have hf := he.h0
      replace hf := hf.more he 2 rfl onT
      refine stP hf rfl rfl rfl (pFA fa_51_2 rfl) fun a hf => ?_
      refine cNil ?_
      refine xThenN ?_
      intro ds u hau
      refine ⟨θ, he.put0 hi hau hf rfl 6 rfl rfl, ?_⟩
      exact hc
    · intro E θ a w hD hi hp he hc
      have e0 := hp.of (k := 0) rfl
      have e18 := hD.f 1 rfl hi
      have e20 := hD.f 2 rfl hi
      have e22 := hD.f 3 rfl hi
      try dsimp only at hc
      rw [e18, e20, e22] at hc
      have hf := he.h0
      replace hf := hf.more he 6 rfl (onP e0)
      refine stE hf hc rfl rfl rfl (eLd1 sc_43 rfl (cell_box m7 rfl)) fun a w hf hc => ?_
      refine cNil ?_
      refine xThenN ?_
      intro ds u hau
      refine ⟨θ, he.put0 hi hau hf rfl 7 rfl rfl, ?_⟩
      try dsimp only
      rw [updE_fls 1 e18 rfl, updE_fls 1 e20 rfl, updE_fls 1 e22 rfl]
      exact hc
    · intro E θ a w hD hi hp he hc
      have hf := he.h0
      replace hf := hf.more he 3 rfl onT
      refine stP hf rfl rfl rfl (pM rfl) fun a hf => ?_
      refine cNil ?_
      refine xThenN ?_
      intro ds u hau
      refine ⟨θ, he.put0 hi hau hf rfl 8 rfl rfl, ?_⟩
      exact hc
    · intro E θ a w hD hi hp he hc
      have e2 := hp.of (k := 2) rfl
      try dsimp only at hc
      rw [hi] at hc
      have hf := he.h0
      replace hf := hf.more he 8 rfl (onP e2)
      refine stBS (rows := ([W (at_ + r_3.1)] : List Int).map encI_i64) (vs := [(0, .int .i64 (W (at_ + r_3.1)))]) hf hc rfl rfl sl_43 rfl ⟨rfl, rfl, rfl, trivial⟩ rfl rfl fun b_3 a w hf hc => ?_
      refine cNil ?_
      refine xThenN ?_
      intro ds u hau
      replace hc := hc.drop k3
      replace hc := hc.pick k0
      replace hc := hc.pick k2
      replace hc := hc.pick k2
      refine ⟨(setT θ 24 ⟨b_3, none, 0⟩), he.put hi hau hf rfl [] trivial ⟨qq, qq, qq, qq, qq, qq, qq, qq, qq, qq, qq, qq, qq, qq, qq, qq, qq, qq, qq, qq, qq, qq, qq, qq, qq, qq, trivial⟩, ?_⟩
      try dsimp only
      rw [updE_self E 3]
      exact hc
    · intro E θ a w hD hi hp he hc
      have e1 := hp.of (k := 1) rfl
      have e3 := hp.of (k := 3) rfl
      have e18 := hD.f 4 rfl hi
      have e20 := hD.f 5 rfl hi
      have e22 := hD.f 6 rfl hi
      try dsimp only at hc
      rw [e3, hi, e18, e20, e22] at hc
      have hf := he.h0
      replace hf := hf.more he 7 rfl (onP e1)
      replace hf := hf.more he 9 rfl (onP e3)
      refine stApm (xs := x_1) (ys := ([W (at_ + r_3.1)] : List Int)) hf hc rfl rfl sl_43 rfl rfl rfl rfl rfl one_encI_i64 (src_row hc m2) (fun _ _ => u6) (by simpa using room_spec hun) fun p_4 c_4 a w hf hc => ?_
      refine cNil ?_
      refine xThenN ?_
      intro ds u hau
      refine ⟨(setT θ 32 ⟨0, p_4, c_4⟩), he.put hi hau hf rfl [] trivial ⟨qq, qq, qq, qq, qq, qq, qq, qq, qq, qq, qq, qq, qq, qq, qq, qq, qq, qq, qq, qq, qq, qq, qq, qq, qq, qq, trivial⟩, ?_⟩
      try dsimp only
      rw [updE_tru 4 e3, updE_self E 4, updE_fls 4 e18 rfl, updE_fls 4 e20 rfl, updE_fls 4 e22 rfl]
      exact hc
    · intro E θ a w hD hi hp he hc
      have hf := he.h0
      replace hf := hf.more he 2 rfl onT
      refine stP hf rfl rfl rfl (pFA fa_51_3 rfl) fun a hf => ?_
      refine cNil ?_
      refine xThenN ?_
      intro ds u hau
      refine ⟨θ, he.put0 hi hau hf rfl 11 rfl rfl, ?_⟩
      exact hc
    · intro E θ a w hD hi hp he hc
      have e5 := hp.of (k := 5) rfl
      have e18 := hD.f 7 rfl hi
      have e20 := hD.f 8 rfl hi
      have e22 := hD.f 9 rfl hi
      try dsimp only at hc
      rw [e18, e20, e22] at hc
      have hf := he.h0
      replace hf := hf.more he 11 rfl (onP e5)
      refine stE hf hc rfl rfl rfl (eLd1 sc_43 rfl (cell_box m7 rfl)) fun a w hf hc => ?_
      refine cNil ?_
      refine xThenN ?_
      intro ds u hau
      refine ⟨θ, he.put0 hi hau hf rfl 12 rfl rfl, ?_⟩
      try dsimp only
      rw [updE_fls 6 e18 rfl, updE_fls 6 e20 rfl, updE_fls 6 e22 rfl]
      exact hc
    · intro E θ a w hD hi hp he hc
      have hf := he.h0
      replace hf := hf.more he 0 rfl onT
      refine stP hf rfl rfl rfl (pM rfl) fun a hf => ?_
      refine cNil ?_
      refine xThenN ?_
      intro ds u hau
      refine ⟨θ, he.put0 hi hau hf rfl 13 rfl rfl, ?_⟩
      exact hc
    · intro E θ a w hD hi hp he hc
      have e7 := hp.of (k := 7) rfl
      have e10 := hD.f 0 rfl hi
      have e14 := hD.f 10 rfl e10
      try dsimp only at hc
      rw [hi, e14] at hc
      have hf := he.h0
      replace hf := hf.more he 13 rfl (onP e7)
      refine stC (vs := [.pointer (some ⟨b_, 0, none⟩), .int .i64 300]) (caps := []) hf rfl rfl rfl en_16 rfl rfl rfl rfl (kit_Stream_Next_ok (⟨s_.bytes, r_3.2.1, r_3.2.2⟩ : kit_Stream) 300 h_s__bytes (hc.pick k3) hr_4) ?_
      rintro _ w ⟨rfl, hc⟩
      refine ⟨_, rfl, fun a hf => ?_⟩
      refine cNil ?_
      refine xThenN ?_
      intro ds u hau
      replace hc := hc.pick k0
      replace hc := hc.pick k3
      replace hc := hc.pick k3
      replace hc := hc.pick k3
      refine ⟨θ, he.put0 hi hau hf rfl 14 rfl rfl, ?_⟩
      try dsimp only
      rw [updE_self E 8, updE_fls 8 e14 rfl]
      exact hc
    · intro E θ a w hD hi hp he hc
      have e8 := hp.of (k := 8) rfl
      try dsimp only at hc
      rw [hi] at hc
      have hf := he.h0
      replace hf := hf.more he 14 rfl (onP e8)
      refine stBS (rows := ([r_4.1] : List Int).map encI_i64) (vs := [(0, .int .i64 r_4.1)]) hf hc rfl rfl sl_43 rfl ⟨rfl, rfl, rfl, trivial⟩ rfl rfl fun b_4 a w hf hc => ?_
      refine cNil ?_
      refine xThenN ?_
      intro ds u hau
      replace hc := hc.drop k2
      replace hc := hc.pick k0
      replace hc := hc.pick k1
      refine ⟨(setT θ 72 ⟨b_4, none, 0⟩), he.put hi hau hf rfl [] trivial ⟨qq, qq, qq, qq, qq, qq, qq, qq, qq, qq, qq, qq, qq, qq, qq, qq, qq, qq, qq, qq, qq, qq, qq, qq, qq, qq, trivial⟩, ?_⟩
      try dsimp only
      rw [updE_self E 9]
      exact hc
    · intro E θ a w hD hi hp he hc
      have e6 := hp.of (k := 6) rfl
      have e9 := hp.of (k := 9) rfl
      have e20 := hD.f 11 rfl hi
      have e22 := hD.f 12 rfl hi
      try dsimp only at hc
      rw [e9, hi, e20, e22] at hc
      have hf := he.h0
      replace hf := hf.more he 12 rfl (onP e6)
      replace hf := hf.more he 15 rfl (onP e9)
      refine stApm (xs := x_2) (ys := ([r_4.1] : List Int)) hf hc rfl rfl sl_43 rfl rfl rfl rfl rfl one_encI_i64 (src_row hc m1) (fun _ _ => u5) (by simpa using room_spec hun_1) fun p_5 c_5 a w hf hc => ?_
      refine cNil ?_
      refine xThenN ?_
      intro ds u hau
      refine ⟨(setT θ 80 ⟨0, p_5, c_5⟩), he.put hi hau hf rfl [] trivial ⟨qq, qq, qq, qq, qq, qq, qq, qq, qq, qq, qq, qq, qq, qq, qq, qq, qq, qq, qq, qq, qq, qq, qq, qq, qq, qq, trivial⟩, ?_⟩
      try dsimp only
      rw [updE_tru 10 e9, updE_self E 10, updE_fls 10 e20 rfl, updE_fls 10 e22 rfl]
      exact hc
    · intro E θ a w hD hi hp he hc
      have hf := he.h0
      replace hf := hf.more he 2 rfl onT
      refine stP hf rfl rfl rfl (pFA fa_51_4 rfl) fun a hf => ?_
      refine cNil ?_
      refine xThenN ?_
      intro ds u hau
      refine ⟨θ, he.put0 hi hau hf rfl 17 rfl rfl, ?_⟩
      exact hc
    · intro E θ a w hD hi hp he hc
      have e11 := hp.of (k := 11) rfl
      have e18 := hD.f 13 rfl hi
      have e20 := hD.f 14 rfl hi
      have e22 := hD.f 15 rfl hi
      try dsimp only at hc
      rw [e18, e20, e22] at hc
      have hf := he.h0
      replace hf := hf.more he 17 rfl (onP e11)
      refine stE hf hc rfl rfl rfl (eLd1 sc_43 rfl (cell_box m7 rfl)) fun a w hf hc => ?_
      refine cNil ?_
      refine xThenN ?_
      intro ds u hau
      refine ⟨θ, he.put0 hi hau hf rfl 18 rfl rfl, ?_⟩
      try dsimp only
      rw [updE_fls 12 e18 rfl, updE_fls 12 e20 rfl, updE_fls 12 e22 rfl]
      exact hc
    · intro E θ a w hD hi hp he hc
      have hf := he.h0
      replace hf := hf.more he 0 rfl onT
      refine stP hf rfl rfl rfl (pM rfl) fun a hf => ?_
      refine cNil ?_
      refine xThenN ?_
      intro ds u hau
      refine ⟨θ, he.put0 hi hau hf rfl 19 rfl rfl, ?_⟩
      exact hc
    · intro E θ a w hD hi hp he hc
      have e13 := hp.of (k := 13) rfl
      have e10 := hp.of (k := 10) rfl
      have e8 := hD.t 0 rfl e10
      try dsimp only at hc
      rw [e8, hi] at hc
      have hf := he.h0
      replace hf := hf.more he 19 rfl (onP e13)
      refine stC (vs := [.pointer (some ⟨b_, 0, none⟩), .int .i64 (-40), .int .i64 400]) (caps := []) hf rfl rfl rfl en_12 rfl rfl rfl rfl (kit_Stream_Within_ok (⟨s_.bytes, r_4.2.1, r_4.2.2⟩ : kit_Stream) (-40) 400 h_s__bytes (hc.pick k3) hr_5) ?_
      rintro _ w ⟨rfl, hc⟩
      refine ⟨_, rfl, fun a hf => ?_⟩
      refine cNil ?_
      refine xThenN ?_
      intro ds u hau
      replace hc := hc.pick k0
      replace hc := hc.pick k3
      replace hc := hc.pick k3
      replace hc := hc.pick k3
      refine ⟨θ, he.put0 hi hau hf rfl 20 rfl rfl, ?_⟩
      try dsimp only
      rw [updE_tru 14 e8, updE_self E 14]
      exact hc
    · intro E θ a w hD hi hp he hc
      have e14 := hp.of (k := 14) rfl
      try dsimp only at hc
      rw [hi] at hc
      have hf := he.h0
      replace hf := hf.more he 20 rfl (onP e14)
      refine stBS (rows := ([r_5.1] : List Int).map encI_i64) (vs := [(0, .int .i64 r_5.1)]) hf hc rfl rfl sl_43 rfl ⟨rfl, rfl, rfl, trivial⟩ rfl rfl fun b_5 a w hf hc => ?_
      refine cNil ?_
      refine xThenN ?_
      intro ds u hau
      replace hc := hc.drop k1
      refine ⟨(setT θ 120 ⟨b_5, none, 0⟩), he.put hi hau hf rfl [] trivial ⟨qq, qq, qq, qq, qq, qq, qq, qq, qq, qq, qq, qq, qq, qq, qq, qq, qq, qq, qq, qq, qq, qq, qq, qq, qq, qq, trivial⟩, ?_⟩
      try dsimp only
      rw [updE_self E 15]
      exact hc
    · intro E θ a w hD hi hp he hc
      have e12 := hp.of (k := 12) rfl
      have e15 := hp.of (k := 15) rfl
      have e22 := hD.f 16 rfl hi
      try dsimp only at hc
      rw [e15, hi, e22] at hc
      have hf := he.h0
      replace hf := hf.more he 18 rfl (onP e12)
      replace hf := hf.more he 21 rfl (onP e15)
      refine stApm (xs := x_3) (ys := ([r_5.1] : List Int)) hf hc rfl rfl sl_43 rfl rfl rfl rfl rfl one_encI_i64 (src_row hc m0) (fun _ _ => u4) (by simpa using room_spec hun_2) fun p_6 c_6 a w hf hc => ?_
      refine cNil ?_
      refine xThenN ?_
      intro ds u hau
      refine ⟨(setT θ 128 ⟨0, p_6, c_6⟩), he.put hi hau hf rfl [] trivial ⟨qq, qq, qq, qq, qq, qq, qq, qq, qq, qq, qq, qq, qq, qq, qq, qq, qq, qq, qq, qq, qq, qq, qq, qq, qq, qq, trivial⟩, ?_⟩
      try dsimp only
      rw [updE_tru 16 e15, updE_self E 16, updE_fls 16 e22 rfl]
      exact hc
    · intro E θ a w hD hi hp he hc
      have hf := he.h0
      replace hf := hf.more he 2 rfl onT
      refine stP hf rfl rfl rfl (pFA fa_51_2 rfl) fun a hf => ?_
      refine cNil ?_
      refine xThenN ?_
      intro ds u hau
      refine ⟨θ, he.put0 hi hau hf rfl 23 rfl rfl, ?_⟩
      exact hc
    · intro E θ a w hD hi hp he hc
      have e4 := hp.of (k := 4) rfl
      have e17 := hp.of (k := 17) rfl
      have e20 := hD.f 17 rfl hi
      have e22 := hD.f 18 rfl hi
      try dsimp only at hc
      rw [hi, e20, e22] at hc
      have hf := he.h0
      replace hf := hf.more he 10 rfl (onP e4)
      replace hf := hf.more he 23 rfl (onP e17)
      refine stSt (vs := [.slice ((θ 32).p) ((x_1 ++ [W (at_ + r_3.1)]).length) ((θ 32).c)]) hf hc rfl rfl rfl rfl sz_43 rfl rfl u7 fun w hc => ?_
      refine cNil ?_
      refine xThenN ?_
      intro ds u hau
      refine ⟨θ, he.stay0 hi hau hf rfl, ?_⟩
      try dsimp only
      rw [updE_self E 18, updE_fls 18 e20 rfl, updE_fls 18 e22 rfl]
      exact hc
    · intro E θ a w hD hi hp he hc
      have hf := he.h0
      replace hf := hf.more he 2 rfl onT
      refine stP hf rfl rfl rfl (pFA fa_51_3 rfl) fun a hf => ?_
      refine cNil ?_
      refine xThenN ?_
      intro ds u hau
      refine ⟨θ, he.put0 hi hau hf rfl 24 rfl rfl, ?_⟩
      exact hc
    · intro E θ a w hD hi hp he hc
      have e10 := hp.of (k := 10) rfl
      have e19 := hp.of (k := 19) rfl
      have e18 := hp.of (k := 18) rfl
      have e22 := hD.f 19 rfl hi
      try dsimp only at hc
      rw [e18, hi, e22] at hc
      have hf := he.h0
      replace hf := hf.more he 16 rfl (onP e10)
      replace hf := hf.more he 24 rfl (onP e19)
      refine stSt (vs := [.slice ((θ 80).p) ((x_2 ++ [r_4.1]).length) ((θ 80).c)]) hf hc rfl rfl rfl rfl sz_43 rfl rfl u7 fun w hc => ?_
      refine cNil ?_
      refine xThenN ?_
      intro ds u hau
      refine ⟨θ, he.stay0 hi hau hf rfl, ?_⟩
      try dsimp only
      rw [updE_tru 20 e18, updE_self E 20, updE_fls 20 e22 rfl]
      exact hc
    · intro E θ a w hD hi hp he hc
      have hf := he.h0
      replace hf := hf.more he 2 rfl onT
      refine stP hf rfl rfl rfl (pFA fa_51_4 rfl) fun a hf => ?_
      refine cNil ?_
      refine xThenN ?_
      intro ds u hau
      refine ⟨θ, he.put0 hi hau hf rfl 25 rfl rfl, ?_⟩
      exact hc
    · intro E θ a w hD hi hp he hc
      have e16 := hp.of (k := 16) rfl
      have e21 := hp.of (k := 21) rfl
      have e18 := hp.of (k := 18) rfl
      have e20 := hp.of (k := 20) rfl
      try dsimp only at hc
      rw [e18, e20, hi] at hc
      have hf := he.h0
      replace hf := hf.more he 22 rfl (onP e16)
      replace hf := hf.more he 25 rfl (onP e21)
      refine stSt (vs := [.slice ((θ 128).p) ((x_3 ++ [r_5.1]).length) ((θ 128).c)]) hf hc rfl rfl rfl rfl sz_43 rfl rfl u7 fun w hc => ?_
      refine cNil ?_
      refine xThenN ?_
      intro ds u hau
      refine ⟨θ, he.stay0 hi hau hf rfl, ?_⟩
      try dsimp only
      rw [updE_tru 22 e18, updE_tru 22 e20, updE_self E 22]
      exact hc
    · intro E θ a w hall he hc
      have hf := he.h0
      have e3 := hall 3 rfl
      have e4 := hall 4 rfl
      have e8 := hall 8 rfl
      have e9 := hall 9 rfl
      have e10 := hall 10 rfl
      have e14 := hall 14 rfl
      have e15 := hall 15 rfl
      have e16 := hall 16 rfl
      have e18 := hall 18 rfl
      have e20 := hall 20 rfl
      have e22 := hall 22 rfl
      replace hf := hf.more he 5 rfl (onT)
      replace hf := hf.more he 4 rfl (onT)
      replace hf := hf.more he 3 rfl (onT)
      replace hf := hf.more he 2 rfl (onT)
      replace hf := hf.more he 1 rfl (onT)
      replace hf := hf.more he 0 rfl (onT)
      try dsimp only at hc
      rw [e3, e4, e8, e9, e10, e14, e15, e16, e18, e20, e22] at hc
      exact ⟨(θ 120).b, (θ 72).b, (θ 24).b, (θ 128).p, (θ 128).c, (θ 80).p, (θ 80).c, (θ 32).p, (θ 32).c, hf.keep ⟨rfl, rfl, rfl, rfl, rfl, rfl, trivial⟩, hc⟩
    rintro a w ⟨b_6, b_7, b_8, p_7, c_7, p_8, c_8, p_9, c_9, hf, hc⟩
    refine h11 _ _ ?_
    refine cReg ?_
    refine stP hf rfl rfl rfl (pAdd rfl rfl) fun a hf => ?_
    refine stP hf rfl rfl rfl (pM rfl) fun a hf => ?_
    refine cNil ?_
    replace hc := hc.drop k2
    replace hc := hc.drop k1
    replace hc := hc.drop k0
    replace hc := hc.pick k0
    replace hc := hc.pick k3
    replace hc := hc.pick k3
    replace hc := hc.pick k3
    exact hK6 (W (at_ + r_3.1), W (x + 1), r_5.2.1, r_5.2.2, (x_1 ++ [W (at_ + r_3.1)]), (x_2 ++ [r_4.1]), (x_3 ++ [r_5.1])) _ _ (Option.some.inj hF).symm ⟨p_9, c_9, p_8, c_8, p_7, c_7, hf.keep ⟨rfl, rfl, rfl, rfl, rfl, rfl, trivial⟩, hc⟩
  · replace hF := condF hb hF
    clear hb
    refine wp_exit ?_
    refine xThen ?_
    refine xThen ?_
    have he := Option.some.inj hF
    rw [← he] at hfin6
    refine cHit ?_
    exact hr6 _ _ _ hfin6 ⟨p_1, c_1, p_2, c_2, p_3, c_3, hf.keep ⟨rfl, rfl, rfl, rfl, rfl, rfl, trivial⟩, hc⟩

def law03_Around (N : Nat) (s_ : kit_Stream) (n : Int) (least : Int) (greatest : Int) (error : Int) : Option (api_Span × Int × Int) :=
  Option.bind (kit_Stream_Next N s_ (W (error + 1))) fun r =>
  Option.bind (kit_Stream_Next N (⟨s_.bytes, r.2.1, r.2.2⟩ : kit_Stream) (W (error + 1))) fun r_1 =>
  some ((⟨max least (W (n - r.1)), min greatest (W (n + r_1.1))⟩ : api_Span), r_1.2.1, r_1.2.2)
theorem law03_Around_ok {N : Nat} {G : Pers} {Lf : List Ent} {w : World} (s_ : kit_Stream) (n : Int) (least : Int) (greatest : Int) (error : Int) {b_ : Nat} {s__bytes_p : Option Addr} {s__bytes_c : Nat} (h_s__bytes : Rd G 1 s__bytes_p s__bytes_c (s_.bytes.map encI_u8)) (hc : Ctx G (.box b_ [.slice s__bytes_p s_.bytes.length s__bytes_c, .int .i64 s_.used, .int .i64 s_.mix] 104 :: Lf) w) {res : api_Span × Int × Int} (hF : law03_Around N s_ n least greatest error = some res) : Calls Try.prog 17 #[.pointer (some ⟨b_, 0, none⟩), .int .i64 n, .int .i64 least, .int .i64 greatest, .int .i64 error] w (fun e w => e = .returned (.agg #[.int .i64 res.1.Lo, .int .i64 res.1.Hi]) ∧ Ctx G (.box b_ [.slice s__bytes_p s_.bytes.length s__bytes_c, .int .i64 res.2.1, .int .i64 res.2.2] 104 :: Lf) w) := by
  unfold law03_Around at hF
  refine fnIn (args := [.pointer (some ⟨b_, 0, none⟩), .int .i64 n, .int .i64 least, .int .i64 greatest, .int .i64 error]) Try.func17 rfl Try.ntmps17 rfl fun a hf => ?_
  refine wp_seq_k fun K1 h1 => ?_
  refine cReg ?_
  refine stAl (cs := [.int .i64 0, .int .i64 0]) hf hc rfl rfl zr_24 rfl fun b_1 a w hf hc => ?_
  refine cNil ?_
  refine h1 _ _ ?_
  refine wp_seq_k fun K2 h2 => ?_
  refine cReg ?_
  refine stP hf rfl rfl rfl (pM rfl) fun a hf => ?_
  refine stP hf rfl rfl rfl (pM rfl) fun a hf => ?_
  refine stP hf rfl rfl rfl (pM rfl) fun a hf => ?_
  refine stP hf rfl rfl rfl (pM rfl) fun a hf => ?_
  refine stP hf rfl rfl rfl (pAdd rfl rfl) fun a hf => ?_
  obtain ⟨r, hr, hF⟩ := bnd_some hF
  refine stC (vs := [.pointer (some ⟨b_, 0, none⟩), .int .i64 (W (error + 1))]) (caps := []) hf rfl rfl rfl en_16 rfl rfl rfl rfl (kit_Stream_Next_ok s_ (W (error + 1)) h_s__bytes (hc.pick k1) hr) ?_
  rintro _ w ⟨rfl, hc⟩
  refine ⟨_, rfl, fun a hf => ?_⟩
  refine stP hf rfl rfl rfl (pSub rfl rfl) fun a hf => ?_
  refine stP hf rfl rfl rfl (pMax2 rfl rfl) fun a hf => ?_
  refine stP hf rfl rfl rfl (pM rfl) fun a hf => ?_
  refine stP hf rfl rfl rfl (pM rfl) fun a hf => ?_
  refine stP hf rfl rfl rfl (pM rfl) fun a hf => ?_
  refine stP hf rfl rfl rfl (pM rfl) fun a hf => ?_
  refine stP hf rfl rfl rfl (pAdd rfl rfl) fun a hf => ?_
  obtain ⟨r_1, hr_1, hF⟩ := bnd_some hF
  refine stC (vs := [.pointer (some ⟨b_, 0, none⟩), .int .i64 (W (error + 1))]) (caps := []) hf rfl rfl rfl en_16 rfl rfl rfl rfl (kit_Stream_Next_ok (⟨s_.bytes, r.2.1, r.2.2⟩ : kit_Stream) (W (error + 1)) h_s__bytes (hc.pick k0) hr_1) ?_
  rintro _ w ⟨rfl, hc⟩
  refine ⟨_, rfl, fun a hf => ?_⟩
  refine stP hf rfl rfl rfl (pAdd rfl rfl) fun a hf => ?_
  refine stP hf rfl rfl rfl (pMin2 rfl rfl) fun a hf => ?_
  refine stP hf rfl rfl rfl (pBuildS (cells := [.int .i64 (max least (W (n - r.1))), .int .i64 (min greatest (W (n + r_1.1)))]) bt_24 rfl rfl) fun a hf => ?_
  refine stSt (vs := [.int .i64 (max least (W (n - r.1))), .int .i64 (min greatest (W (n + r_1.1)))]) hf hc rfl rfl rfl rfl sz_24 rfl rfl u1 fun w hc => ?_
  refine cNil ?_
  refine h2 _ _ ?_
  refine wp_ret ?_
  obtain rfl := Option.some.inj hF
  exact fnOut1 (by simp) rfl Try.results17 hf hc (rv_cellN (vs := [.int .i64 (max least (W (n - r.1))), .int .i64 (min greatest (W (n + r_1.1)))]) ag_24 rfl rfl (cells_box (n := 2) m1 rfl)) ⟨rfl, (hc.drop k1)⟩

def law03_Gauged_b5 (N : Nat) (s_ : kit_Stream) (r : law03_River) (x : Int) (b__0 : Int) (b__1 : Int) (x_1 : List gauge_Vertical) : Option (Step (Int × Int × Int × (List gauge_Vertical)) (gauge_Gauging × Int × Int)) :=
  cond (decide (x < ((r.At.length : Nat) : Int)))
  (Option.bind (getI r.At x) fun e_1 =>
  Option.bind (getI r.Depth x) fun e_2 =>
  Option.bind (law03_Around N (⟨s_.bytes, b__0, b__1⟩ : kit_Stream) e_2 0 2000 9) fun r_0 =>
  Option.bind (getI r.Speeds x) fun e_3 =>
  Option.bind (law03_Around N (⟨s_.bytes, r_0.2.1, r_0.2.2⟩ : kit_Stream) e_3 (-5000) 5000 20) fun r_1 =>
  Option.bind (room ((x_1 ++ [(⟨e_1, r_0.1, r_1.1⟩ : gauge_Vertical)])).length) fun un =>
  some (.cont (W (x + 1), r_1.2.1, r_1.2.2, (x_1 ++ [(⟨e_1, r_0.1, r_1.1⟩ : gauge_Vertical)]))))
  (some (.brk (x, b__0, b__1, x_1)))
def law03_Gauged (N : Nat) (s_ : kit_Stream) (r : law03_River) : Option (gauge_Gauging × Int × Int) :=
  Option.bind (loopO (fun s5 => law03_Gauged_b5 N s_ r s5.1 s5.2.1 s5.2.2.1 s5.2.2.2) N (0, s_.used, s_.mix, ([] : List gauge_Vertical))) fun x5 =>
  exK x5 (fun s5 => some ((⟨r.Left, r.Right, s5.2.2.2⟩ : gauge_Gauging), s5.2.1, s5.2.2.1)) some
theorem law03_Gauged_ok {N : Nat} {G : Pers} {Lf : List Ent} {w : World} (s_ : kit_Stream) (r : law03_River) {b_ : Nat} {s__bytes_p : Option Addr} {s__bytes_c : Nat} {r_At_p : Option Addr} {r_At_c : Nat} {r_Depth_p : Option Addr} {r_Depth_c : Nat} {r_Speeds_p : Option Addr} {r_Speeds_c : Nat} (h_s__bytes : Rd G 1 s__bytes_p s__bytes_c (s_.bytes.map encI_u8)) (h_r_At : Rd G 1 r_At_p r_At_c (r.At.map encI_i64)) (h_r_Depth : Rd G 1 r_Depth_p r_Depth_c (r.Depth.map encI_i64)) (h_r_Speeds : Rd G 1 r_Speeds_p r_Speeds_c (r.Speeds.map encI_i64)) (hc : Ctx G (.box b_ [.slice s__bytes_p s_.bytes.length s__bytes_c, .int .i64 s_.used, .int .i64 s_.mix] 104 :: Lf) w) {res : gauge_Gauging × Int × Int} (hF : law03_Gauged N s_ r = some res) : Calls Try.prog 20 #[.pointer (some ⟨b_, 0, none⟩), .agg #[.int .i64 r.Left, .int .i64 r.Right, .slice r_At_p r.At.length r_At_c, .slice r_Depth_p r.Depth.length r_Depth_c, .slice r_Speeds_p r.Speeds.length r_Speeds_c]] w (fun e w => ∃ (p'1 : Option Addr) (c'1 : Nat), e = .returned (.agg #[.int .i64 res.1.Left, .int .i64 res.1.Right, .slice p'1 res.1.Verticals.length c'1]) ∧ Ctx G (.row p'1 c'1 (res.1.Verticals.map enc_gauge_Vertical) 61 5 :: .box b_ [.slice s__bytes_p s_.bytes.length s__bytes_c, .int .i64 res.2.1, .int .i64 res.2.2] 104 :: Lf) w) := by
  unfold law03_Gauged at hF
  refine fnIn (args := [.pointer (some ⟨b_, 0, none⟩), .agg #[.int .i64 r.Left, .int .i64 r.Right, .slice r_At_p r.At.length r_At_c, .slice r_Depth_p r.Depth.length r_Depth_c, .slice r_Speeds_p r.Speeds.length r_Speeds_c]]) Try.func20 rfl Try.ntmps20 rfl fun a hf => ?_
  refine wp_seq_k fun K1 h1 => ?_
  refine cReg ?_
  refine stBx (cs := [.int .i64 r.Left, .int .i64 r.Right, .slice r_At_p r.At.length r_At_c, .slice r_Depth_p r.Depth.length r_Depth_c, .slice r_Speeds_p r.Speeds.length r_Speeds_c]) hf hc rfl rfl rfl rfl fun b_1 a w hf hc => ?_
  refine stAl (cs := [.int .i64 0, .int .i64 0, .slice none 0 0]) hf hc rfl rfl zr_48 rfl fun b_2 a w hf hc => ?_
  refine cNil ?_
  refine h1 _ _ ?_
  refine wp_seq_k fun K2 h2 => ?_
  refine cReg ?_
  refine stP hf rfl rfl rfl (pFA fa_51_0 rfl) fun a hf => ?_
  refine stE hf hc rfl rfl rfl (eLd1 sc_3 rfl (cell_box m1 rfl)) fun a w hf hc => ?_
  refine stP hf rfl rfl rfl (pFA fa_51_1 rfl) fun a hf => ?_
  refine stE hf hc rfl rfl rfl (eLd1 sc_3 rfl (cell_box m1 rfl)) fun a w hf hc => ?_
  refine stP hf rfl rfl rfl (pBuildS (cells := [.int .i64 r.Left, .int .i64 r.Right, .slice none 0 0]) bt_48 rfl rfl) fun a hf => ?_
  refine stAl (cs := [.int .i64 0, .int .i64 0, .slice none 0 0]) hf hc rfl rfl zr_48 rfl fun b_3 a w hf hc => ?_
  refine stSt (vs := [.int .i64 r.Left, .int .i64 r.Right, .slice none 0 0]) hf hc rfl rfl rfl rfl sz_48 rfl rfl u0 fun w hc => ?_
  refine cNil ?_
  refine h2 _ _ ?_
  refine wp_seq_k fun K3 h3 => ?_
  refine wp_seq_k fun K4 h4 => ?_
  refine cReg ?_
  refine stP hf rfl rfl rfl (pFA fa_51_2 rfl) fun a hf => ?_
  refine stE hf hc rfl rfl rfl (eLd1 sc_43 rfl (cell_box m2 rfl)) fun a w hf hc => ?_
  refine stP hf rfl rfl rfl (pLenS Try.underlying43 rfl) fun a hf => ?_
  refine stP hf rfl rfl rfl (pM rfl) fun a hf => ?_
  refine cNil ?_
  refine h4 _ _ ?_
  refine wp_block ?_
  obtain ⟨x5, hx5, hF⟩ := bnd_some hF
  let S5 : (Int × Int × Int × (List gauge_Vertical)) → Act → World → Prop := (fun (zz : Int × Int × Int × (List gauge_Vertical)) a w => ∃ (p_1 : Option Addr) (c_1 : Nat), Has 44 a [(0, .pointer (some ⟨b_, 0, none⟩)), (3, .pointer (some ⟨b_1, 0, none⟩)), (4, .pointer (some ⟨b_2, 0, none⟩)), (5, .pointer (some ⟨b_3, 0, none⟩)), (14, .slice r_At_p r.At.length r_At_c), (15, .int .i64 ((r.At.length : Nat) : Int)), (16, .int .i64 zz.1)] ∧ Ctx G (.row p_1 c_1 (zz.2.2.2.map enc_gauge_Vertical) 61 5 :: .box b_3 [.int .i64 r.Left, .int .i64 r.Right, .slice p_1 zz.2.2.2.length c_1] 48 :: .box b_2 [.int .i64 0, .int .i64 0, .slice none 0 0] 48 :: .box b_1 [.int .i64 r.Left, .int .i64 r.Right, .slice r_At_p r.At.length r_At_c, .slice r_Depth_p r.Depth.length r_Depth_c, .slice r_Speeds_p r.Speeds.length r_Speeds_c] 51 :: .box b_ [.slice s__bytes_p s_.bytes.length s__bytes_c, .int .i64 zz.2.1, .int .i64 zz.2.2.1] 104 :: Lf) w)
  have hr5 : ∀ (zz : Int × Int × Int × (List gauge_Vertical)) a w, x5 = .go zz → S5 zz a w → K3 a w := by
    rintro ⟨x, b__0, b__1, x_1⟩ a w rfl ⟨p_1, c_1, hf, hc⟩
    replace hF : _ = some res := hF
    refine h3 _ _ ?_
    refine wp_seq_k fun K6 h6 => ?_
    refine cReg ?_
    refine stE hf hc rfl rfl rfl (eLdN (vs := [.int .i64 r.Left, .int .i64 r.Right, .slice p_1 x_1.length c_1]) ag_48 rfl rfl (cells_box (n := 3) m1 rfl)) fun a w hf hc => ?_
    refine stSt (vs := [.int .i64 r.Left, .int .i64 r.Right, .slice p_1 x_1.length c_1]) hf hc rfl rfl rfl rfl sz_48 rfl rfl u2 fun w hc => ?_
    refine cNil ?_
    refine h6 _ _ ?_
    refine wp_ret ?_
    obtain rfl := Option.some.inj hF
    replace hc := hc.drop k3
    replace hc := hc.drop k1
    replace hc := hc.pick k1
    replace hc := hc.pick k2
    replace hc := hc.pick k2
    exact fnOut1 (by simp) rfl Try.results20 hf hc (rv_cellN (vs := [.int .i64 r.Left, .int .i64 r.Right, .slice p_1 x_1.length c_1]) ag_48 rfl rfl (cells_box (n := 3) m2 rfl)) ⟨p_1, c_1, rfl, (hc.drop k2)⟩
  have ho5 : ∀ r, x5 = .out r → r = res := by
    rintro r rfl
    exact Option.some.inj hF
  replace hc := hc.nilRow 61 5
  refine cLoop N (loopW (S := S5) (x := x5) ?_ N (0, s_.used, s_.mix, ([] : List gauge_Vertical)) _ _ ⟨none, 0, hf.keep ⟨rfl, rfl, rfl, rfl, rfl, rfl, rfl, trivial⟩, hc⟩ hx5)
  clear hF hf hc
  rintro ⟨x, b__0, b__1, x_1⟩ st5 a w KB5 ⟨p_1, c_1, hf, hc⟩ hF hfin5 hK5
  unfold law03_Gauged_b5 at hF
  refine wp_seq_k fun K7 h7 => ?_
  refine cReg ?_
  refine stP hf rfl rfl rfl (pLt rfl rfl) fun a hf => ?_
  refine cNil ?_
  refine h7 _ _ ?_
  refine wp_seq_k fun K8 h8 => ?_
  refine cCond (b := (decide (x < ((r.At.length : Nat) : Int)))) hf rfl (fun hb => ?_) (fun hb => ?_)
  · replace hF := condT hb hF
    clear hb
    refine wp_skip ?_
    refine h8 _ _ ?_
    refine wp_seq_k fun K9 h9 => ?_
    refine wp_block ?_
    refine wp_seq_k fun K10 h10 => ?_
    refine cReg ?_
    refine stP hf rfl rfl rfl (pM rfl) fun a hf => ?_
    obtain ⟨e_1, he_1, hF⟩ := bnd_some hF
    obtain ⟨b_4, o, qa, qp⟩ := h_r_At.atm he_1
    refine stP hf rfl rfl rfl (pIA Try.underlying43 sz_3 rfl rfl qa) fun a hf => ?_
    refine stE hf hc rfl rfl rfl (eLd1 sc_3 rfl (cell_pc (j := 0) qp rfl)) fun a w hf hc => ?_
    refine stP hf rfl rfl rfl (pA rfl) fun a hf => ?_
    refine stP hf rfl rfl rfl (pA rfl) fun a hf => ?_
    refine cNil ?_
    refine h10 _ _ ?_
    obtain ⟨e_2, he_2, hF⟩ := bnd_some hF
    obtain ⟨b_5, o_1, qa_1, qp_1⟩ := h_r_Depth.atm he_2
    obtain ⟨r_0, hr_0, hF⟩ := bnd_some hF
    obtain ⟨e_3, he_3, hF⟩ := bnd_some hF
    obtain ⟨b_6, o_2, qa_2, qp_2⟩ := h_r_Speeds.atm he_3
    obtain ⟨r_1, hr_1, hF⟩ := bnd_some hF
    obtain ⟨un, hun, hF⟩ := bnd_some hF
    replace hc := hc.nilRow 0 0
    refine regionE (fun θ => (⟨none, none, 0, .pointer (some ⟨b_, 0, none⟩)⟩ :: ⟨none, none, 3, .pointer (some ⟨b_1, 0, none⟩)⟩ :: ⟨none, none, 4, .pointer (some ⟨b_2, 0, none⟩)⟩ :: ⟨none, none, 5, .pointer (some ⟨b_3, 0, none⟩)⟩ :: ⟨none, none, 6, .int .i64 x⟩ :: ⟨none, none, 7, .int .i64 e_1⟩ :: ⟨none, none, 14, .slice r_At_p r.At.length r_At_c⟩ :: ⟨none, none, 15, .int .i64 ((r.At.length : Nat) : Int)⟩ :: ⟨none, none, 16, .int .i64 x⟩ :: ⟨some 0, none, 21, .pointer (some ⟨b_3, 2, none⟩)⟩ :: ⟨some 1, none, 22, .slice p_1 x_1.length c_1⟩ :: ⟨some 2, none, 23, .int .i64 e_1⟩ :: ⟨some 3, none, 24, .pointer (some ⟨b_, 0, none⟩)⟩ :: ⟨some 4, none, 25, .pointer (some ⟨b_1, 3, none⟩)⟩ :: ⟨some 5, none, 26, .slice r_Depth_p r.Depth.length r_Depth_c⟩ :: ⟨some 6, none, 27, .int .i64 x⟩ :: ⟨some 7, none, 28, .pointer (some ⟨b_5, o_1, none⟩)⟩ :: ⟨some 8, none, 29, .int .i64 e_2⟩ :: ⟨some 9, none, 30, .agg #[.int .i64 r_0.1.Lo, .int .i64 r_0.1.Hi]⟩ :: ⟨some 10, none, 31, .pointer (some ⟨b_, 0, none⟩)⟩ :: ⟨some 11, none, 32, .pointer (some ⟨b_1, 4, none⟩)⟩ :: ⟨some 12, none, 33, .slice r_Speeds_p r.Speeds.length r_Speeds_c⟩ :: ⟨some 13, none, 34, .int .i64 x⟩ :: ⟨some 14, none, 35, .pointer (some ⟨b_6, o_2, none⟩)⟩ :: ⟨some 15, none, 36, .int .i64 e_3⟩ :: ⟨some 16, none, 37, .agg #[.int .i64 r_1.1.Lo, .int .i64 r_1.1.Hi]⟩ :: ⟨some 17, none, 38, .agg #[.int .i64 e_1, .int .i64 r_0.1.Lo, .int .i64 r_0.1.Hi, .int .i64 r_1.1.Lo, .int .i64 r_1.1.Hi]⟩ :: ⟨some 18, none, 39, .slice (some ⟨(θ 144).b, 0, none⟩) 1 1⟩ :: ⟨some 19, none, 40, .slice ((θ 152).p) ((x_1 ++ [(⟨e_1, r_0.1, r_1.1⟩ : gauge_Vertical)]).length) ((θ 152).c)⟩ :: ⟨some 20, none, 41, .pointer (some ⟨b_3, 2, none⟩)⟩ :: [])) (fun E θ => (bif E 18 then .row (some ⟨(θ 144).b, 0, none⟩) 1 (([(⟨e_1, r_0.1, r_1.1⟩ : gauge_Vertical)] : List gauge_Vertical).map enc_gauge_Vertical) 61 5 else .row none 0 [] 0 0) :: (bif E 19 then .row ((θ 152).p) ((θ 152).c) ((x_1 ++ [(⟨e_1, r_0.1, r_1.1⟩ : gauge_Vertical)]).map enc_gauge_Vertical) 61 5 else .row p_1 c_1 (x_1.map enc_gauge_Vertical) 61 5) :: (bif E 21 then .box b_3 [.int .i64 r.Left, .int .i64 r.Right, .slice ((θ 152).p) ((x_1 ++ [(⟨e_1, r_0.1, r_1.1⟩ : gauge_Vertical)]).length) ((θ 152).c)] 48 else .box b_3 [.int .i64 r.Left, .int .i64 r.Right, .slice p_1 x_1.length c_1] 48) :: .box b_2 [.int .i64 0, .int .i64 0, .slice none 0 0] 48 :: .box b_1 [.int .i64 r.Left, .int .i64 r.Right, .slice r_At_p r.At.length r_At_c, .slice r_Depth_p r.Depth.length r_Depth_c, .slice r_Speeds_p r.Speeds.length r_Speeds_c] 51 :: (bif E 16 then .box b_ [.slice s__bytes_p s_.bytes.length s__bytes_c, .int .i64 r_1.2.1, .int .i64 r_1.2.2] 104 else bif E 9 then .box b_ [.slice s__bytes_p s_.bytes.length s__bytes_c, .int .i64 r_0.2.1, .int .i64 r_0.2.2] 104 else .box b_ [.slice s__bytes_p s_.bytes.length s__bytes_c, .int .i64 b__0, .int .i64 b__1] 104) :: Lf) [(21, 1), (16, 9), (21, 19)] (fun a w => ∃ (b_8 : Nat) (p_3 : Option Addr) (c_3 : Nat), Has 44 a [(0, .pointer (some ⟨b_, 0, none⟩)), (3, .pointer (some ⟨b_1, 0, none⟩)), (4, .pointer (some ⟨b_2, 0, none⟩)), (5, .pointer (some ⟨b_3, 0, none⟩)), (14, .slice r_At_p r.At.length r_At_c), (15, .int .i64 ((r.At.length : Nat) : Int)), (16, .int .i64 x)] ∧ Ctx G (.row (some ⟨b_8, 0, none⟩) 1 (([(⟨e_1, r_0.1, r_1.1⟩ : gauge_Vertical)] : List gauge_Vertical).map enc_gauge_Vertical) 61 5 :: .row p_3 c_3 ((x_1 ++ [(⟨e_1, r_0.1, r_1.1⟩ : gauge_Vertical)]).map enc_gauge_Vertical) 61 5 :: .box b_3 [.int .i64 r.Left, .int .i64 r.Right, .slice p_3 ((x_1 ++ [(⟨e_1, r_0.1, r_1.1⟩ : gauge_Vertical)]).length) c_3] 48 :: .box b_2 [.int .i64 0, .int .i64 0, .slice none 0 0] 48 :: .box b_1 [.int .i64 r.Left, .int .i64 r.Right, .slice r_At_p r.At.length r_At_c, .slice r_Depth_p r.Depth.length r_Depth_c, .slice r_Speeds_p r.Speeds.length r_Speeds_c] 51 :: .box b_ [.slice s__bytes_p s_.bytes.length s__bytes_c, .int .i64 r_1.2.1, .int .i64 r_1.2.2] 104 :: Lf) w) follows_mx (by kernel_rfl) (by kernel_rfl) (HasE.of hf ⟨rfl, rfl, rfl, rfl, rfl, rfl, rfl, rfl, rfl, trivial, trivial, trivial, trivial, trivial, trivial, trivial, trivial, trivial, trivial, trivial, trivial, trivial, trivial, trivial, trivial, trivial, trivial, trivial, trivial, trivial, trivial⟩) hc ⟨?_, ?_, ?_, ?_, ?_, ?_, ?_, ?_, ?_, ?_, ?_, ?_, ?_, ?_, ?_, ?_, ?_, ?_, ?_, ?_, ?_, ?_, trivial⟩ ?_ ?_
    · intro E θ a w hD hi hp he hc
      have hf := he.h0
      replace hf := hf.more he 3 rfl onT
      refine stP hf rfl rfl rfl (pFA fa_48_2 rfl) fun a hf => ?_
      refine cNil ?_
      refine xThenN ?_
      intro ds u hau
      refine ⟨θ, he.put0 hi hau hf rfl 9 rfl rfl, ?_⟩
      exact hc
    · intro E θ a w hD hi hp he hc
      have e0 := hp.of (k := 0) rfl
      have e21 := hD.f 0 rfl hi
      try dsimp only at hc
      rw [e21] at hc
      have hf := he.h0
      replace hf := hf.more he 9 rfl (onP e0)
      refine stE hf hc rfl rfl rfl (eLd1 sc_46 rfl (cell_box m2 rfl)) fun a w hf hc => ?_
      refine cNil ?_
      refine xThenN ?_
      intro ds u hau
      refine ⟨θ, he.put0 hi hau hf rfl 10 rfl rfl, ?_⟩
      try dsimp only
      rw [updE_fls 1 e21 rfl]
      exact hc
    · intro E θ a w hD hi hp he hc
      have hf := he.h0
      replace hf := hf.more he 5 rfl onT
      refine stP hf rfl rfl rfl (pM rfl) fun a hf => ?_
      refine cNil ?_
      refine xThenN ?_
      intro ds u hau
      refine ⟨θ, he.put0 hi hau hf rfl 11 rfl rfl, ?_⟩
      exact hc
    · intro E θ a w hD hi hp he hc
      have hf := he.h0
      replace hf := hf.more he 0 rfl onT
      refine stP hf rfl rfl rfl (pM rfl) fun a hf => ?_
      refine cNil ?_
      refine xThenN ?_
      intro ds u hau
      refine ⟨θ, he.put0 hi hau hf rfl 12 rfl rfl, ?_⟩
      exact hc
    · intro E θ a w hD hi hp he hc
      have hf := he.h0
      replace hf := hf.more he 1 rfl onT
      refine stP hf rfl rfl rfl (pFA fa_51_3 rfl) fun a hf => ?_
      refine cNil ?_
      refine xThenN ?_
      intro ds u hau
      refine ⟨θ, he.put0 hi hau hf rfl 13 rfl rfl, ?_⟩
      exact hc
    · intro E θ a w hD hi hp he hc
      have e4 := hp.of (k := 4) rfl
      have hf := he.h0
      replace hf := hf.more he 13 rfl (onP e4)
      refine stE hf hc rfl rfl rfl (eLd1 sc_43 rfl (cell_box m4 rfl)) fun a w hf hc => ?_
      refine cNil ?_
      refine xThenN ?_
      intro ds u hau
      refine ⟨θ, he.put0 hi hau hf rfl 14 rfl rfl, ?_⟩
      exact hc
    · intro E θ a w hD hi hp he hc
      have hf := he.h0
      replace hf := hf.more he 4 rfl onT
      refine stP hf rfl rfl rfl (pM rfl) fun a hf => ?_
      refine cNil ?_
      refine xThenN ?_
      intro ds u hau
      refine ⟨θ, he.put0 hi hau hf rfl 15 rfl rfl, ?_⟩
      exact hc
    · intro E θ a w hD hi hp he hc
      have e5 := hp.of (k := 5) rfl
      have e6 := hp.of (k := 6) rfl
      have hf := he.h0
      replace hf := hf.more he 14 rfl (onP e5)
      replace hf := hf.more he 15 rfl (onP e6)
      refine stP hf rfl rfl rfl (pIA Try.underlying43 sz_3 rfl rfl qa_1) fun a hf => ?_
      refine cNil ?_
      refine xThenN ?_
      intro ds u hau
      refine ⟨θ, he.put0 hi hau hf rfl 16 rfl rfl, ?_⟩
      exact hc
    · intro E θ a w hD hi hp he hc
      have e7 := hp.of (k := 7) rfl
      have hf := he.h0
      replace hf := hf.more he 16 rfl (onP e7)
      refine stE hf hc rfl rfl rfl (eLd1 sc_3 rfl (cell_pc (j := 0) qp_1 rfl)) fun a w hf hc => ?_
      refine cNil ?_
      refine xThenN ?_
      intro ds u hau
      refine ⟨θ, he.put0 hi hau hf rfl 17 rfl rfl, ?_⟩
      exact hc
    · intro E θ a w hD hi hp he hc
      have e3 := hp.of (k := 3) rfl
      have e8 := hp.of (k := 8) rfl
      have e16 := hD.f 1 rfl hi
      try dsimp only at hc
      rw [hi, e16] at hc
      have hf := he.h0
      replace hf := hf.more he 12 rfl (onP e3)
      replace hf := hf.more he 17 rfl (onP e8)
      refine stC (vs := [.pointer (some ⟨b_, 0, none⟩), .int .i64 e_2, .int .i64 0, .int .i64 2000, .int .i64 9]) (caps := []) hf rfl rfl rfl en_17 rfl rfl rfl rfl (law03_Around_ok (⟨s_.bytes, b__0, b__1⟩ : kit_Stream) e_2 0 2000 9 h_s__bytes (hc.pick k5) hr_0) ?_
      rintro _ w ⟨rfl, hc⟩
      refine ⟨_, rfl, fun a hf => ?_⟩
      refine cNil ?_
      refine xThenN ?_
      intro ds u hau
      replace hc := hc.pick k0
      replace hc := hc.pick k5
      replace hc := hc.pick k5
      replace hc := hc.pick k5
      replace hc := hc.pick k5
      replace hc := hc.pick k5
      refine ⟨θ, he.put0 hi hau hf rfl 18 rfl rfl, ?_⟩
      try dsimp only
      rw [updE_self E 9, updE_fls 9 e16 rfl]
      exact hc
    · intro E θ a w hD hi hp he hc
      have hf := he.h0
      replace hf := hf.more he 0 rfl onT
      refine stP hf rfl rfl rfl (pM rfl) fun a hf => ?_
      refine cNil ?_
      refine xThenN ?_
      intro ds u hau
      refine ⟨θ, he.put0 hi hau hf rfl 19 rfl rfl, ?_⟩
      exact hc
    · intro E θ a w hD hi hp he hc
      have hf := he.h0
      replace hf := hf.more he 1 rfl onT
      refine stP hf rfl rfl rfl (pFA fa_51_4 rfl) fun a hf => ?_
      refine cNil ?_
      refine xThenN ?_
      intro ds u hau
      refine ⟨θ, he.put0 hi hau hf rfl 20 rfl rfl, ?_⟩
      exact hc
    · intro E θ a w hD hi hp he hc
      have e11 := hp.of (k := 11) rfl
      have hf := he.h0
      replace hf := hf.more he 20 rfl (onP e11)
      refine stE hf hc rfl rfl rfl (eLd1 sc_43 rfl (cell_box m4 rfl)) fun a w hf hc => ?_
      refine cNil ?_
      refine xThenN ?_
      intro ds u hau
      refine ⟨θ, he.put0 hi hau hf rfl 21 rfl rfl, ?_⟩
      exact hc
    · intro E θ a w hD hi hp he hc
      have hf := he.h0
      replace hf := hf.more he 4 rfl onT
      refine stP hf rfl rfl rfl (pM rfl) fun a hf => ?_
      refine cNil ?_
      refine xThenN ?_
      intro ds u hau
      refine ⟨θ, he.put0 hi hau hf rfl 22 rfl rfl, ?_⟩
      exact hc
    · intro E θ a w hD hi hp he hc
      have e12 := hp.of (k := 12) rfl
      have e13 := hp.of (k := 13) rfl
      have hf := he.h0
      replace hf := hf.more he 21 rfl (onP e12)
      replace hf := hf.more he 22 rfl (onP e13)
      refine stP hf rfl rfl rfl (pIA Try.underlying43 sz_3 rfl rfl qa_2) fun a hf => ?_
      refine cNil ?_
      refine xThenN ?_
      intro ds u hau
      refine ⟨θ, he.put0 hi hau hf rfl 23 rfl rfl, ?_⟩
      exact hc
    · intro E θ a w hD hi hp he hc
      have e14 := hp.of (k := 14) rfl
      have hf := he.h0
      replace hf := hf.more he 23 rfl (onP e14)
      refine stE hf hc rfl rfl rfl (eLd1 sc_3 rfl (cell_pc (j := 0) qp_2 rfl)) fun a w hf hc => ?_
      refine cNil ?_
      refine xThenN ?_
      intro ds u hau
      refine ⟨θ, he.put0 hi hau hf rfl 24 rfl rfl, ?_⟩
      exact hc
    · intro E θ a w hD hi hp he hc
      have e10 := hp.of (k := 10) rfl
      have e15 := hp.of (k := 15) rfl
      have e9 := hp.of (k := 9) rfl
      try dsimp only at hc
      rw [e9, hi] at hc
      have hf := he.h0
      replace hf := hf.more he 19 rfl (onP e10)
      replace hf := hf.more he 24 rfl (onP e15)
      refine stC (vs := [.pointer (some ⟨b_, 0, none⟩), .int .i64 e_3, .int .i64 (-5000), .int .i64 5000, .int .i64 20]) (caps := []) hf rfl rfl rfl en_17 rfl rfl rfl rfl (law03_Around_ok (⟨s_.bytes, r_0.2.1, r_0.2.2⟩ : kit_Stream) e_3 (-5000) 5000 20 h_s__bytes (hc.pick k5) hr_1) ?_
      rintro _ w ⟨rfl, hc⟩
      refine ⟨_, rfl, fun a hf => ?_⟩
      refine cNil ?_
      refine xThenN ?_
      intro ds u hau
      replace hc := hc.pick k0
      replace hc := hc.pick k5
      replace hc := hc.pick k5
      replace hc := hc.pick k5
      replace hc := hc.pick k5
      replace hc := hc.pick k5
      refine ⟨θ, he.put0 hi hau hf rfl 25 rfl rfl, ?_⟩
      try dsimp only
      rw [updE_tru 16 e9, updE_self E 16]
      exact hc
    · intro E θ a w hD hi hp he hc
      have e2 := hp.of (k := 2) rfl
      have e9 := hp.of (k := 9) rfl
      have e16 := hp.of (k := 16) rfl
      have hf := he.h0
      replace hf := hf.more he 11 rfl (onP e2)
      replace hf := hf.more he 18 rfl (onP e9)
      replace hf := hf.more he 25 rfl (onP e16)
      refine stP hf rfl rfl rfl (pBuildS (cells := [.int .i64 e_1, .int .i64 r_0.1.Lo, .int .i64 r_0.1.Hi, .int .i64 r_1.1.Lo, .int .i64 r_1.1.Hi]) bt_61 rfl rfl) fun a hf => ?_
      refine cNil ?_
      refine xThenN ?_
      intro ds u hau
      refine ⟨θ, he.put0 hi hau hf rfl 26 rfl rfl, ?_⟩
      exact hc
    · intro E θ a w hD hi hp he hc
      have e17 := hp.of (k := 17) rfl
      try dsimp only at hc
      rw [hi] at hc
      have hf := he.h0
      replace hf := hf.more he 26 rfl (onP e17)
      refine stBS (rows := ([(⟨e_1, r_0.1, r_1.1⟩ : gauge_Vertical)] : List gauge_Vertical).map enc_gauge_Vertical) (vs := [(0, .agg #[.int .i64 e_1, .int .i64 r_0.1.Lo, .int .i64 r_0.1.Hi, .int .i64 r_1.1.Lo, .int .i64 r_1.1.Hi])]) hf hc rfl rfl sl_46 rfl ⟨rfl, rfl, rfl, trivial⟩ rfl rfl fun b_7 a w hf hc => ?_
      refine cNil ?_
      refine xThenN ?_
      intro ds u hau
      replace hc := hc.drop k1
      refine ⟨(setT θ 144 ⟨b_7, none, 0⟩), he.put hi hau hf rfl [] trivial ⟨qq, qq, qq, qq, qq, qq, qq, qq, qq, qq, qq, qq, qq, qq, qq, qq, qq, qq, qq, qq, qq, qq, qq, qq, qq, qq, qq, qq, qq, qq, trivial⟩, ?_⟩
      try dsimp only
      rw [updE_self E 18]
      exact hc
    · intro E θ a w hD hi hp he hc
      have e1 := hp.of (k := 1) rfl
      have e18 := hp.of (k := 18) rfl
      have e21 := hD.f 2 rfl hi
      try dsimp only at hc
      rw [e18, hi, e21] at hc
      have hf := he.h0
      replace hf := hf.more he 10 rfl (onP e1)
      replace hf := hf.more he 27 rfl (onP e18)
      refine stApm (xs := x_1) (ys := ([(⟨e_1, r_0.1, r_1.1⟩ : gauge_Vertical)] : List gauge_Vertical)) hf hc rfl rfl sl_46 rfl rfl rfl rfl rfl one_enc_gauge_Vertical (src_row hc m0) (fun _ _ => u1) (by simpa using room_spec hun) fun p_2 c_2 a w hf hc => ?_
      refine cNil ?_
      refine xThenN ?_
      intro ds u hau
      refine ⟨(setT θ 152 ⟨0, p_2, c_2⟩), he.put hi hau hf rfl [] trivial ⟨qq, qq, qq, qq, qq, qq, qq, qq, qq, qq, qq, qq, qq, qq, qq, qq, qq, qq, qq, qq, qq, qq, qq, qq, qq, qq, qq, qq, qq, qq, trivial⟩, ?_⟩
      try dsimp only
      rw [updE_tru 19 e18, updE_self E 19, updE_fls 19 e21 rfl]
      exact hc
    · intro E θ a w hD hi hp he hc
      have hf := he.h0
      replace hf := hf.more he 3 rfl onT
      refine stP hf rfl rfl rfl (pFA fa_48_2 rfl) fun a hf => ?_
      refine cNil ?_
      refine xThenN ?_
      intro ds u hau
      refine ⟨θ, he.put0 hi hau hf rfl 29 rfl rfl, ?_⟩
      exact hc
    · intro E θ a w hD hi hp he hc
      have e19 := hp.of (k := 19) rfl
      have e20 := hp.of (k := 20) rfl
      try dsimp only at hc
      rw [hi] at hc
      have hf := he.h0
      replace hf := hf.more he 28 rfl (onP e19)
      replace hf := hf.more he 29 rfl (onP e20)
      refine stSt (vs := [.slice ((θ 152).p) ((x_1 ++ [(⟨e_1, r_0.1, r_1.1⟩ : gauge_Vertical)]).length) ((θ 152).c)]) hf hc rfl rfl rfl rfl sz_46 rfl rfl u2 fun w hc => ?_
      refine cNil ?_
      refine xThenN ?_
      intro ds u hau
      refine ⟨θ, he.stay0 hi hau hf rfl, ?_⟩
      try dsimp only
      rw [updE_self E 21]
      exact hc
    · intro E θ a w hall he hc
      have hf := he.h0
      have e9 := hall 9 rfl
      have e16 := hall 16 rfl
      have e18 := hall 18 rfl
      have e19 := hall 19 rfl
      have e21 := hall 21 rfl
      replace hf := hf.more he 8 rfl (onT)
      replace hf := hf.more he 7 rfl (onT)
      replace hf := hf.more he 6 rfl (onT)
      replace hf := hf.more he 3 rfl (onT)
      replace hf := hf.more he 2 rfl (onT)
      replace hf := hf.more he 1 rfl (onT)
      replace hf := hf.more he 0 rfl (onT)
      try dsimp only at hc
      rw [e9, e16, e18, e19, e21] at hc
      exact ⟨(θ 144).b, (θ 152).p, (θ 152).c, hf.keep ⟨rfl, rfl, rfl, rfl, rfl, rfl, rfl, trivial⟩, hc⟩
    rintro a w ⟨b_8, p_3, c_3, hf, hc⟩
    refine h9 _ _ ?_
    refine cReg ?_
    refine stP hf rfl rfl rfl (pAdd rfl rfl) fun a hf => ?_
    refine stP hf rfl rfl rfl (pM rfl) fun a hf => ?_
    refine cNil ?_
    replace hc := hc.drop k0
    exact hK5 (W (x + 1), r_1.2.1, r_1.2.2, (x_1 ++ [(⟨e_1, r_0.1, r_1.1⟩ : gauge_Vertical)])) _ _ (Option.some.inj hF).symm ⟨p_3, c_3, hf.keep ⟨rfl, rfl, rfl, rfl, rfl, rfl, rfl, trivial⟩, hc⟩
  · replace hF := condF hb hF
    clear hb
    refine wp_exit ?_
    refine xThen ?_
    refine xThen ?_
    have he := Option.some.inj hF
    rw [← he] at hfin5
    refine cHit ?_
    exact hr5 _ _ _ hfin5 ⟨p_1, c_1, hf.keep ⟨rfl, rfl, rfl, rfl, rfl, rfl, rfl, trivial⟩, hc⟩

def law03_Sited_b6 (N : Nat) (s_ : kit_Stream) (r_3 : Int × Int × Int) (at_ : Int) (x : Int) (b__0 : Int) (b__1 : Int) (x_1 : List gauge_Point) : Option (Step (Int × Int × Int × Int × (List gauge_Point)) (gauge_Site × Int × Int)) :=
  cond (decide (x < r_3.1))
  (Option.bind (kit_Stream_Within N (⟨s_.bytes, b__0, b__1⟩ : kit_Stream) 1 30) fun r_5 =>
  Option.bind (kit_Stream_Next N (⟨s_.bytes, r_5.2.1, r_5.2.2⟩ : kit_Stream) 100) fun r_6 =>
  Option.bind (kit_Stream_Next N (⟨s_.bytes, r_6.2.1, r_6.2.2⟩ : kit_Stream) 40) fun r_7 =>
  Option.bind (room ((x_1 ++ [(⟨W (at_ + r_5.1), r_6.1, r_7.1⟩ : gauge_Point)])).length) fun un =>
  some (.cont (W (at_ + r_5.1), W (x + 1), r_7.2.1, r_7.2.2, (x_1 ++ [(⟨W (at_ + r_5.1), r_6.1, r_7.1⟩ : gauge_Point)]))))
  (some (.brk (at_, x, b__0, b__1, x_1)))
def law03_Sited (N : Nat) (s_ : kit_Stream) (most : Int) : Option (gauge_Site × Int × Int) :=
  Option.bind (kit_Stream_Next N s_ 40) fun r =>
  Option.bind (kit_Stream_Within N (⟨s_.bytes, r.2.1, r.2.2⟩ : kit_Stream) 10 90) fun r_1 =>
  Option.bind (kit_Stream_Within N (⟨s_.bytes, r_1.2.1, r_1.2.2⟩ : kit_Stream) 20 90) fun r_2 =>
  Option.bind (kit_Stream_Next N (⟨s_.bytes, r_2.2.1, r_2.2.2⟩ : kit_Stream) (W (most + 1))) fun r_3 =>
  Option.bind (loopO (fun s6 => law03_Sited_b6 N s_ r_3 s6.1 s6.2.1 s6.2.2.1 s6.2.2.2.1 s6.2.2.2.2) N (r.1, 0, r_3.2.1, r_3.2.2, ([] : List gauge_Point))) fun x6 =>
  exK x6 (fun s6 => Option.bind (kit_Stream_Within N (⟨s_.bytes, s6.2.2.1, s6.2.2.2.1⟩ : kit_Stream) 1 30) fun r_4 =>
  some ((⟨r.1, W (s6.1 + r_4.1), r_1.1, r_2.1, s6.2.2.2.2⟩ : gauge_Site), r_4.2.1, r_4.2.2)) some
theorem law03_Sited_ok {N : Nat} {G : Pers} {Lf : List Ent} {w : World} (s_ : kit_Stream) (most : Int) {b_ : Nat} {s__bytes_p : Option Addr} {s__bytes_c : Nat} (h_s__bytes : Rd G 1 s__bytes_p s__bytes_c (s_.bytes.map encI_u8)) (hc : Ctx G (.box b_ [.slice s__bytes_p s_.bytes.length s__bytes_c, .int .i64 s_.used, .int .i64 s_.mix] 104 :: Lf) w) {res : gauge_Site × Int × Int} (hF : law03_Sited N s_ most = some res) : Calls Try.prog 22 #[.pointer (some ⟨b_, 0, none⟩), .int .i64 most] w (fun e w => ∃ (p'1 : Option Addr) (c'1 : Nat), e = .returned (.agg #[.int .i64 res.1.Left, .int .i64 res.1.Right, .int .i64 res.1.Gap, .int .i64 res.1.Step_, .slice p'1 res.1.Points.length c'1]) ∧ Ctx G (.row p'1 c'1 (res.1.Points.map enc_gauge_Point) 64 3 :: .box b_ [.slice s__bytes_p s_.bytes.length s__bytes_c, .int .i64 res.2.1, .int .i64 res.2.2] 104 :: Lf) w) := by
  unfold law03_Sited at hF
  refine fnIn (args := [.pointer (some ⟨b_, 0, none⟩), .int .i64 most]) Try.func22 rfl Try.ntmps22 rfl fun a hf => ?_
  refine wp_seq_k fun K1 h1 => ?_
  refine cReg ?_
  refine stAl (cs := [.int .i64 0, .int .i64 0, .int .i64 0, .int .i64 0, .slice none 0 0]) hf hc rfl rfl zr_55 rfl fun b_1 a w hf hc => ?_
  refine cNil ?_
  refine h1 _ _ ?_
  refine wp_seq_k fun K2 h2 => ?_
  refine cReg ?_
  refine stP hf rfl rfl rfl (pM rfl) fun a hf => ?_
  obtain ⟨r, hr, hF⟩ := bnd_some hF
  refine stC (vs := [.pointer (some ⟨b_, 0, none⟩), .int .i64 40]) (caps := []) hf rfl rfl rfl en_16 rfl rfl rfl rfl (kit_Stream_Next_ok s_ 40 h_s__bytes (hc.pick k1) hr) ?_
  rintro _ w ⟨rfl, hc⟩
  refine ⟨_, rfl, fun a hf => ?_⟩
  refine stP hf rfl rfl rfl (pM rfl) fun a hf => ?_
  obtain ⟨r_1, hr_1, hF⟩ := bnd_some hF
  refine stC (vs := [.pointer (some ⟨b_, 0, none⟩), .int .i64 10, .int .i64 90]) (caps := []) hf rfl rfl rfl en_12 rfl rfl rfl rfl (kit_Stream_Within_ok (⟨s_.bytes, r.2.1, r.2.2⟩ : kit_Stream) 10 90 h_s__bytes (hc.pick k0) hr_1) ?_
  rintro _ w ⟨rfl, hc⟩
  refine ⟨_, rfl, fun a hf => ?_⟩
  refine stP hf rfl rfl rfl (pM rfl) fun a hf => ?_
  obtain ⟨r_2, hr_2, hF⟩ := bnd_some hF
  refine stC (vs := [.pointer (some ⟨b_, 0, none⟩), .int .i64 20, .int .i64 90]) (caps := []) hf rfl rfl rfl en_12 rfl rfl rfl rfl (kit_Stream_Within_ok (⟨s_.bytes, r_1.2.1, r_1.2.2⟩ : kit_Stream) 20 90 h_s__bytes (hc.pick k0) hr_2) ?_
  rintro _ w ⟨rfl, hc⟩
  refine ⟨_, rfl, fun a hf => ?_⟩
  refine stP hf rfl rfl rfl (pBuildS (cells := [.int .i64 r.1, .int .i64 0, .int .i64 r_1.1, .int .i64 r_2.1, .slice none 0 0]) bt_55 rfl rfl) fun a hf => ?_
  refine stAl (cs := [.int .i64 0, .int .i64 0, .int .i64 0, .int .i64 0, .slice none 0 0]) hf hc rfl rfl zr_55 rfl fun b_2 a w hf hc => ?_
  refine stSt (vs := [.int .i64 r.1, .int .i64 0, .int .i64 r_1.1, .int .i64 r_2.1, .slice none 0 0]) hf hc rfl rfl rfl rfl sz_55 rfl rfl u0 fun w hc => ?_
  refine cNil ?_
  refine h2 _ _ ?_
  refine wp_seq_k fun K3 h3 => ?_
  refine cReg ?_
  refine stP hf rfl rfl rfl (pFA fa_55_0 rfl) fun a hf => ?_
  refine stE hf hc rfl rfl rfl (eLd1 sc_3 rfl (cell_box m0 rfl)) fun a w hf hc => ?_
  refine stP hf rfl rfl rfl (pA rfl) fun a hf => ?_
  refine cNil ?_
  refine h3 _ _ ?_
  refine wp_seq_k fun K4 h4 => ?_
  refine wp_seq_k fun K5 h5 => ?_
  refine cReg ?_
  refine stP hf rfl rfl rfl (pM rfl) fun a hf => ?_
  refine stP hf rfl rfl rfl (pM rfl) fun a hf => ?_
  refine stP hf rfl rfl rfl (pAdd rfl rfl) fun a hf => ?_
  obtain ⟨r_3, hr_3, hF⟩ := bnd_some hF
  refine stC (vs := [.pointer (some ⟨b_, 0, none⟩), .int .i64 (W (most + 1))]) (caps := []) hf rfl rfl rfl en_16 rfl rfl rfl rfl (kit_Stream_Next_ok (⟨s_.bytes, r_2.2.1, r_2.2.2⟩ : kit_Stream) (W (most + 1)) h_s__bytes (hc.pick k1) hr_3) ?_
  rintro _ w ⟨rfl, hc⟩
  refine ⟨_, rfl, fun a hf => ?_⟩
  refine stP hf rfl rfl rfl (pM rfl) fun a hf => ?_
  refine cNil ?_
  refine h5 _ _ ?_
  refine wp_block ?_
  obtain ⟨x6, hx6, hF⟩ := bnd_some hF
  let S6 : (Int × Int × Int × Int × (List gauge_Point)) → Act → World → Prop := (fun (zz : Int × Int × Int × Int × (List gauge_Point)) a w => ∃ (p_1 : Option Addr) (c_1 : Nat), Has 44 a [(0, .pointer (some ⟨b_, 0, none⟩)), (4, .pointer (some ⟨b_1, 0, none⟩)), (5, .pointer (some ⟨b_2, 0, none⟩)), (6, .int .i64 zz.1), (19, .int .i64 r_3.1), (20, .int .i64 zz.2.1)] ∧ Ctx G (.row p_1 c_1 (zz.2.2.2.2.map enc_gauge_Point) 64 3 :: .box b_ [.slice s__bytes_p s_.bytes.length s__bytes_c, .int .i64 zz.2.2.1, .int .i64 zz.2.2.2.1] 104 :: .box b_2 [.int .i64 r.1, .int .i64 0, .int .i64 r_1.1, .int .i64 r_2.1, .slice p_1 zz.2.2.2.2.length c_1] 55 :: .box b_1 [.int .i64 0, .int .i64 0, .int .i64 0, .int .i64 0, .slice none 0 0] 55 :: Lf) w)
  have hr6 : ∀ (zz : Int × Int × Int × Int × (List gauge_Point)) a w, x6 = .go zz → S6 zz a w → K4 a w := by
    rintro ⟨at_, x, b__0, b__1, x_1⟩ a w rfl ⟨p_1, c_1, hf, hc⟩
    replace hF : _ = some res := hF
    refine h4 _ _ ?_
    refine wp_seq_k fun K7 h7 => ?_
    refine cReg ?_
    refine stP hf rfl rfl rfl (pM rfl) fun a hf => ?_
    refine stP hf rfl rfl rfl (pM rfl) fun a hf => ?_
    obtain ⟨r_4, hr_4, hF⟩ := bnd_some hF
    refine stC (vs := [.pointer (some ⟨b_, 0, none⟩), .int .i64 1, .int .i64 30]) (caps := []) hf rfl rfl rfl en_12 rfl rfl rfl rfl (kit_Stream_Within_ok (⟨s_.bytes, b__0, b__1⟩ : kit_Stream) 1 30 h_s__bytes (hc.pick k1) hr_4) ?_
    rintro _ w ⟨rfl, hc⟩
    refine ⟨_, rfl, fun a hf => ?_⟩
    refine stP hf rfl rfl rfl (pAdd rfl rfl) fun a hf => ?_
    refine stP hf rfl rfl rfl (pFA fa_55_1 rfl) fun a hf => ?_
    refine stSt (vs := [.int .i64 (W (at_ + r_4.1))]) hf hc rfl rfl rfl rfl sz_3 rfl rfl u2 fun w hc => ?_
    refine cNil ?_
    refine h7 _ _ ?_
    refine wp_seq_k fun K8 h8 => ?_
    refine cReg ?_
    refine stE hf hc rfl rfl rfl (eLdN (vs := [.int .i64 r.1, .int .i64 (W (at_ + r_4.1)), .int .i64 r_1.1, .int .i64 r_2.1, .slice p_1 x_1.length c_1]) ag_55 rfl rfl (cells_box (n := 5) m2 rfl)) fun a w hf hc => ?_
    refine stSt (vs := [.int .i64 r.1, .int .i64 (W (at_ + r_4.1)), .int .i64 r_1.1, .int .i64 r_2.1, .slice p_1 x_1.length c_1]) hf hc rfl rfl rfl rfl sz_55 rfl rfl u3 fun w hc => ?_
    refine cNil ?_
    refine h8 _ _ ?_
    refine wp_ret ?_
    obtain rfl := Option.some.inj hF
    replace hc := hc.drop k2
    replace hc := hc.pick k0
    replace hc := hc.pick k1
    exact fnOut1 (by simp) rfl Try.results22 hf hc (rv_cellN (vs := [.int .i64 r.1, .int .i64 (W (at_ + r_4.1)), .int .i64 r_1.1, .int .i64 r_2.1, .slice p_1 x_1.length c_1]) ag_55 rfl rfl (cells_box (n := 5) m2 rfl)) ⟨p_1, c_1, rfl, (hc.drop k2)⟩
  have ho6 : ∀ r, x6 = .out r → r = res := by
    rintro r rfl
    exact Option.some.inj hF
  replace hc := hc.nilRow 64 3
  refine cLoop N (loopW (S := S6) (x := x6) ?_ N (r.1, 0, r_3.2.1, r_3.2.2, ([] : List gauge_Point)) _ _ ⟨none, 0, hf.keep ⟨rfl, rfl, rfl, rfl, rfl, rfl, trivial⟩, hc⟩ hx6)
  clear hF hf hc
  rintro ⟨at_, x, b__0, b__1, x_1⟩ st6 a w KB6 ⟨p_1, c_1, hf, hc⟩ hF hfin6 hK6
  unfold law03_Sited_b6 at hF
  refine wp_seq_k fun K9 h9 => ?_
  refine cReg ?_
  refine stP hf rfl rfl rfl (pLt rfl rfl) fun a hf => ?_
  refine cNil ?_
  refine h9 _ _ ?_
  refine wp_seq_k fun K10 h10 => ?_
  refine cCond (b := (decide (x < r_3.1))) hf rfl (fun hb => ?_) (fun hb => ?_)
  · replace hF := condT hb hF
    clear hb
    refine wp_skip ?_
    refine h10 _ _ ?_
    refine wp_seq_k fun K11 h11 => ?_
    refine wp_block ?_
    refine wp_seq_k fun K12 h12 => ?_
    refine cReg ?_
    refine stP hf rfl rfl rfl (pM rfl) fun a hf => ?_
    refine stP hf rfl rfl rfl (pM rfl) fun a hf => ?_
    obtain ⟨r_5, hr_5, hF⟩ := bnd_some hF
    refine stC (vs := [.pointer (some ⟨b_, 0, none⟩), .int .i64 1, .int .i64 30]) (caps := []) hf rfl rfl rfl en_12 rfl rfl rfl rfl (kit_Stream_Within_ok (⟨s_.bytes, b__0, b__1⟩ : kit_Stream) 1 30 h_s__bytes (hc.pick k1) hr_5) ?_
    rintro _ w ⟨rfl, hc⟩
    refine ⟨_, rfl, fun a hf => ?_⟩
    refine stP hf rfl rfl rfl (pAdd rfl rfl) fun a hf => ?_
    refine stP hf rfl rfl rfl (pA rfl) fun a hf => ?_
    refine cNil ?_
    refine h12 _ _ ?_
    obtain ⟨r_6, hr_6, hF⟩ := bnd_some hF
    obtain ⟨r_7, hr_7, hF⟩ := bnd_some hF
    obtain ⟨un, hun, hF⟩ := bnd_some hF
    replace hc := hc.nilRow 0 0
    refine regionE (fun θ => [⟨none, none, 0, .pointer (some ⟨b_, 0, none⟩)⟩, ⟨none, none, 4, .pointer (some ⟨b_1, 0, none⟩)⟩, ⟨none, none, 5, .pointer (some ⟨b_2, 0, none⟩)⟩, ⟨none, none, 6, .int .i64 (W (at_ + r_5.1))⟩, ⟨none, none, 19, .int .i64 r_3.1⟩, ⟨none, none, 20, .int .i64 x⟩, ⟨some 0, none, 26, .pointer (some ⟨b_2, 4, none⟩)⟩, ⟨some 1, none, 27, .slice p_1 x_1.length c_1⟩, ⟨some 2, none, 28, .int .i64 (W (at_ + r_5.1))⟩, ⟨some 3, none, 29, .pointer (some ⟨b_, 0, none⟩)⟩, ⟨some 4, none, 30, .int .i64 r_6.1⟩, ⟨some 5, none, 31, .pointer (some ⟨b_, 0, none⟩)⟩, ⟨some 6, none, 32, .int .i64 r_7.1⟩, ⟨some 7, none, 33, .agg #[.int .i64 (W (at_ + r_5.1)), .int .i64 r_6.1, .int .i64 r_7.1]⟩, ⟨some 8, none, 34, .slice (some ⟨(θ 64).b, 0, none⟩) 1 1⟩, ⟨some 9, none, 35, .slice ((θ 72).p) ((x_1 ++ [(⟨W (at_ + r_5.1), r_6.1, r_7.1⟩ : gauge_Point)]).length) ((θ 72).c)⟩, ⟨some 10, none, 36, .pointer (some ⟨b_2, 4, none⟩)⟩]) (fun E θ => (bif E 8 then .row (some ⟨(θ 64).b, 0, none⟩) 1 (([(⟨W (at_ + r_5.1), r_6.1, r_7.1⟩ : gauge_Point)] : List gauge_Point).map enc_gauge_Point) 64 3 else .row none 0 [] 0 0) :: (bif E 6 then .box b_ [.slice s__bytes_p s_.bytes.length s__bytes_c, .int .i64 r_7.2.1, .int .i64 r_7.2.2] 104 else bif E 4 then .box b_ [.slice s__bytes_p s_.bytes.length s__bytes_c, .int .i64 r_6.2.1, .int .i64 r_6.2.2] 104 else .box b_ [.slice s__bytes_p s_.bytes.length s__bytes_c, .int .i64 r_5.2.1, .int .i64 r_5.2.2] 104) :: (bif E 9 then .row ((θ 72).p) ((θ 72).c) ((x_1 ++ [(⟨W (at_ + r_5.1), r_6.1, r_7.1⟩ : gauge_Point)]).map enc_gauge_Point) 64 3 else .row p_1 c_1 (x_1.map enc_gauge_Point) 64 3) :: (bif E 11 then .box b_2 [.int .i64 r.1, .int .i64 0, .int .i64 r_1.1, .int .i64 r_2.1, .slice ((θ 72).p) ((x_1 ++ [(⟨W (at_ + r_5.1), r_6.1, r_7.1⟩ : gauge_Point)]).length) ((θ 72).c)] 55 else .box b_2 [.int .i64 r.1, .int .i64 0, .int .i64 r_1.1, .int .i64 r_2.1, .slice p_1 x_1.length c_1] 55) :: .box b_1 [.int .i64 0, .int .i64 0, .int .i64 0, .int .i64 0, .slice none 0 0] 55 :: Lf) [(11, 1), (6, 4), (11, 9)] (fun a w => ∃ (b_4 : Nat) (p_3 : Option Addr) (c_3 : Nat), Has 44 a [(0, .pointer (some ⟨b_, 0, none⟩)), (4, .pointer (some ⟨b_1, 0, none⟩)), (5, .pointer (some ⟨b_2, 0, none⟩)), (6, .int .i64 (W (at_ + r_5.1))), (19, .int .i64 r_3.1), (20, .int .i64 x)] ∧ Ctx G (.row (some ⟨b_4, 0, none⟩) 1 (([(⟨W (at_ + r_5.1), r_6.1, r_7.1⟩ : gauge_Point)] : List gauge_Point).map enc_gauge_Point) 64 3 :: .box b_ [.slice s__bytes_p s_.bytes.length s__bytes_c, .int .i64 r_7.2.1, .int .i64 r_7.2.2] 104 :: .row p_3 c_3 ((x_1 ++ [(⟨W (at_ + r_5.1), r_6.1, r_7.1⟩ : gauge_Point)]).map enc_gauge_Point) 64 3 :: .box b_2 [.int .i64 r.1, .int .i64 0, .int .i64 r_1.1, .int .i64 r_2.1, .slice p_3 ((x_1 ++ [(⟨W (at_ + r_5.1), r_6.1, r_7.1⟩ : gauge_Point)]).length) c_3] 55 :: .box b_1 [.int .i64 0, .int .i64 0, .int .i64 0, .int .i64 0, .slice none 0 0] 55 :: Lf) w) follows_mx (by kernel_rfl) (by kernel_rfl) (HasE.of hf ⟨rfl, rfl, rfl, rfl, rfl, rfl, trivial, trivial, trivial, trivial, trivial, trivial, trivial, trivial, trivial, trivial, trivial, trivial⟩) hc ⟨?_, ?_, ?_, ?_, ?_, ?_, ?_, ?_, ?_, ?_, ?_, ?_, trivial⟩ ?_ ?_
    · intro E θ a w hD hi hp he hc
      have hf := he.h0
      replace hf := hf.more he 2 rfl onT
      refine stP hf rfl rfl rfl (pFA fa_55_4 rfl) fun a hf => ?_
      refine cNil ?_
      refine xThenN ?_
      intro ds u hau
      refine ⟨θ, he.put0 hi hau hf rfl 6 rfl rfl, ?_⟩
      exact hc
    · intro E θ a w hD hi hp he hc
      have e0 := hp.of (k := 0) rfl
      have e11 := hD.f 0 rfl hi
      try dsimp only at hc
      rw [e11] at hc
      have hf := he.h0
      replace hf := hf.more he 6 rfl (onP e0)
      refine stE hf hc rfl rfl rfl (eLd1 sc_53 rfl (cell_box m3 rfl)) fun a w hf hc => ?_
      refine cNil ?_
      refine xThenN ?_
      intro ds u hau
      refine ⟨θ, he.put0 hi hau hf rfl 7 rfl rfl, ?_⟩
      try dsimp only
      rw [updE_fls 1 e11 rfl]
      exact hc
    · intro E θ a w hD hi hp he hc
      have hf := he.h0
      replace hf := hf.more he 3 rfl onT
      refine stP hf rfl rfl rfl (pM rfl) fun a hf => ?_
      refine cNil ?_
      refine xThenN ?_
      intro ds u hau
      refine ⟨θ, he.put0 hi hau hf rfl 8 rfl rfl, ?_⟩
      exact hc
    · intro E θ a w hD hi hp he hc
      have hf := he.h0
      replace hf := hf.more he 0 rfl onT
      refine stP hf rfl rfl rfl (pM rfl) fun a hf => ?_
      refine cNil ?_
      refine xThenN ?_
      intro ds u hau
      refine ⟨θ, he.put0 hi hau hf rfl 9 rfl rfl, ?_⟩
      exact hc
    · intro E θ a w hD hi hp he hc
      have e3 := hp.of (k := 3) rfl
      have e6 := hD.f 1 rfl hi
      try dsimp only at hc
      rw [hi, e6] at hc
      have hf := he.h0
      replace hf := hf.more he 9 rfl (onP e3)
      refine stC (vs := [.pointer (some ⟨b_, 0, none⟩), .int .i64 100]) (caps := []) hf rfl rfl rfl en_16 rfl rfl rfl rfl (kit_Stream_Next_ok (⟨s_.bytes, r_5.2.1, r_5.2.2⟩ : kit_Stream) 100 h_s__bytes (hc.pick k1) hr_6) ?_
      rintro _ w ⟨rfl, hc⟩
      refine ⟨_, rfl, fun a hf => ?_⟩
      refine cNil ?_
      refine xThenN ?_
      intro ds u hau
      replace hc := hc.pick k0
      replace hc := hc.pick k1
      refine ⟨θ, he.put0 hi hau hf rfl 10 rfl rfl, ?_⟩
      try dsimp only
      rw [updE_self E 4, updE_fls 4 e6 rfl]
      exact hc
    · intro E θ a w hD hi hp he hc
      have hf := he.h0
      replace hf := hf.more he 0 rfl onT
      refine stP hf rfl rfl rfl (pM rfl) fun a hf => ?_
      refine cNil ?_
      refine xThenN ?_
      intro ds u hau
      refine ⟨θ, he.put0 hi hau hf rfl 11 rfl rfl, ?_⟩
      exact hc
    · intro E θ a w hD hi hp he hc
      have e5 := hp.of (k := 5) rfl
      have e4 := hp.of (k := 4) rfl
      try dsimp only at hc
      rw [e4, hi] at hc
      have hf := he.h0
      replace hf := hf.more he 11 rfl (onP e5)
      refine stC (vs := [.pointer (some ⟨b_, 0, none⟩), .int .i64 40]) (caps := []) hf rfl rfl rfl en_16 rfl rfl rfl rfl (kit_Stream_Next_ok (⟨s_.bytes, r_6.2.1, r_6.2.2⟩ : kit_Stream) 40 h_s__bytes (hc.pick k1) hr_7) ?_
      rintro _ w ⟨rfl, hc⟩
      refine ⟨_, rfl, fun a hf => ?_⟩
      refine cNil ?_
      refine xThenN ?_
      intro ds u hau
      replace hc := hc.pick k0
      replace hc := hc.pick k1
      refine ⟨θ, he.put0 hi hau hf rfl 12 rfl rfl, ?_⟩
      try dsimp only
      rw [updE_tru 6 e4, updE_self E 6]
      exact hc
    · intro E θ a w hD hi hp he hc
      have e2 := hp.of (k := 2) rfl
      have e4 := hp.of (k := 4) rfl
      have e6 := hp.of (k := 6) rfl
      have hf := he.h0
      replace hf := hf.more he 8 rfl (onP e2)
      replace hf := hf.more he 10 rfl (onP e4)
      replace hf := hf.more he 12 rfl (onP e6)
      refine stP hf rfl rfl rfl (pBuildS (cells := [.int .i64 (W (at_ + r_5.1)), .int .i64 r_6.1, .int .i64 r_7.1]) bt_64 rfl rfl) fun a hf => ?_
      refine cNil ?_
      refine xThenN ?_
      intro ds u hau
      refine ⟨θ, he.put0 hi hau hf rfl 13 rfl rfl, ?_⟩
      exact hc
    · intro E θ a w hD hi hp he hc
      have e7 := hp.of (k := 7) rfl
      try dsimp only at hc
      rw [hi] at hc
      have hf := he.h0
      replace hf := hf.more he 13 rfl (onP e7)
      refine stBS (rows := ([(⟨W (at_ + r_5.1), r_6.1, r_7.1⟩ : gauge_Point)] : List gauge_Point).map enc_gauge_Point) (vs := [(0, .agg #[.int .i64 (W (at_ + r_5.1)), .int .i64 r_6.1, .int .i64 r_7.1])]) hf hc rfl rfl sl_53 rfl ⟨rfl, rfl, rfl, trivial⟩ rfl rfl fun b_3 a w hf hc => ?_
      refine cNil ?_
      refine xThenN ?_
      intro ds u hau
      replace hc := hc.drop k1
      refine ⟨(setT θ 64 ⟨b_3, none, 0⟩), he.put hi hau hf rfl [] trivial ⟨qq, qq, qq, qq, qq, qq, qq, qq, qq, qq, qq, qq, qq, qq, qq, qq, qq, trivial⟩, ?_⟩
      try dsimp only
      rw [updE_self E 8]
      exact hc
    · intro E θ a w hD hi hp he hc
      have e1 := hp.of (k := 1) rfl
      have e8 := hp.of (k := 8) rfl
      have e11 := hD.f 2 rfl hi
      try dsimp only at hc
      rw [e8, hi, e11] at hc
      have hf := he.h0
      replace hf := hf.more he 7 rfl (onP e1)
      replace hf := hf.more he 14 rfl (onP e8)
      refine stApm (xs := x_1) (ys := ([(⟨W (at_ + r_5.1), r_6.1, r_7.1⟩ : gauge_Point)] : List gauge_Point)) hf hc rfl rfl sl_53 rfl rfl rfl rfl rfl one_enc_gauge_Point (src_row hc m0) (fun _ _ => u2) (by simpa using room_spec hun) fun p_2 c_2 a w hf hc => ?_
      refine cNil ?_
      refine xThenN ?_
      intro ds u hau
      refine ⟨(setT θ 72 ⟨0, p_2, c_2⟩), he.put hi hau hf rfl [] trivial ⟨qq, qq, qq, qq, qq, qq, qq, qq, qq, qq, qq, qq, qq, qq, qq, qq, qq, trivial⟩, ?_⟩
      try dsimp only
      rw [updE_tru 9 e8, updE_self E 9, updE_fls 9 e11 rfl]
      exact hc
    · intro E θ a w hD hi hp he hc
      have hf := he.h0
      replace hf := hf.more he 2 rfl onT
      refine stP hf rfl rfl rfl (pFA fa_55_4 rfl) fun a hf => ?_
      refine cNil ?_
      refine xThenN ?_
      intro ds u hau
      refine ⟨θ, he.put0 hi hau hf rfl 16 rfl rfl, ?_⟩
      exact hc
    · intro E θ a w hD hi hp he hc
      have e9 := hp.of (k := 9) rfl
      have e10 := hp.of (k := 10) rfl
      try dsimp only at hc
      rw [hi] at hc
      have hf := he.h0
      replace hf := hf.more he 15 rfl (onP e9)
      replace hf := hf.more he 16 rfl (onP e10)
      refine stSt (vs := [.slice ((θ 72).p) ((x_1 ++ [(⟨W (at_ + r_5.1), r_6.1, r_7.1⟩ : gauge_Point)]).length) ((θ 72).c)]) hf hc rfl rfl rfl rfl sz_53 rfl rfl u3 fun w hc => ?_
      refine cNil ?_
      refine xThenN ?_
      intro ds u hau
      refine ⟨θ, he.stay0 hi hau hf rfl, ?_⟩
      try dsimp only
      rw [updE_self E 11]
      exact hc
    · intro E θ a w hall he hc
      have hf := he.h0
      have e4 := hall 4 rfl
      have e6 := hall 6 rfl
      have e8 := hall 8 rfl
      have e9 := hall 9 rfl
      have e11 := hall 11 rfl
      replace hf := hf.more he 5 rfl (onT)
      replace hf := hf.more he 4 rfl (onT)
      replace hf := hf.more he 3 rfl (onT)
      replace hf := hf.more he 2 rfl (onT)
      replace hf := hf.more he 1 rfl (onT)
      replace hf := hf.more he 0 rfl (onT)
      try dsimp only at hc
      rw [e4, e6, e8, e9, e11] at hc
      exact ⟨(θ 64).b, (θ 72).p, (θ 72).c, hf.keep ⟨rfl, rfl, rfl, rfl, rfl, rfl, trivial⟩, hc⟩
    rintro a w ⟨b_4, p_3, c_3, hf, hc⟩
    refine h11 _ _ ?_
    refine cReg ?_
    refine stP hf rfl rfl rfl (pAdd rfl rfl) fun a hf => ?_
    refine stP hf rfl rfl rfl (pM rfl) fun a hf => ?_
    refine cNil ?_
    replace hc := hc.drop k0
    replace hc := hc.pick k0
    replace hc := hc.pick k1
    exact hK6 (W (at_ + r_5.1), W (x + 1), r_7.2.1, r_7.2.2, (x_1 ++ [(⟨W (at_ + r_5.1), r_6.1, r_7.1⟩ : gauge_Point)])) _ _ (Option.some.inj hF).symm ⟨p_3, c_3, hf.keep ⟨rfl, rfl, rfl, rfl, rfl, rfl, trivial⟩, hc⟩
  · replace hF := condF hb hF
    clear hb
    refine wp_exit ?_
    refine xThen ?_
    refine xThen ?_
    have he := Option.some.inj hF
    rw [← he] at hfin6
    refine cHit ?_
    exact hr6 _ _ _ hfin6 ⟨p_1, c_1, hf.keep ⟨rfl, rfl, rfl, rfl, rfl, rfl, trivial⟩, hc⟩

def kit_Copy_gauge_Vertical (N : Nat) (l : List gauge_Vertical) : Option ((List gauge_Vertical)) :=
  Option.bind (room (l).length) fun un =>
  some l
theorem kit_Copy_gauge_Vertical_ok {N : Nat} {G : Pers} {Lf : List Ent} {w : World} (l : List gauge_Vertical) {l_p : Option Addr} {l_c : Nat} (h_l : Rd G 5 l_p l_c (l.map enc_gauge_Vertical)) (hc : Ctx G (Lf) w) {res : (List gauge_Vertical)} (hF : kit_Copy_gauge_Vertical N l = some res) : Calls Try.prog 61 #[.slice l_p l.length l_c] w (fun e w => ∃ (p'1 : Option Addr) (c'1 : Nat), e = .returned (.slice p'1 res.length c'1) ∧ Ctx G (.row p'1 c'1 (res.map enc_gauge_Vertical) 61 5 :: Lf) w) := by
  unfold kit_Copy_gauge_Vertical at hF
  refine fnIn (args := [.slice l_p l.length l_c]) Try.func61 rfl Try.ntmps61 rfl fun a hf => ?_
  refine wp_seq_k fun K1 h1 => ?_
  refine cReg ?_
  refine stP hf rfl rfl rfl (pA rfl) fun a hf => ?_
  refine cNil ?_
  refine h1 _ _ ?_
  refine wp_seq_k fun K2 h2 => ?_
  refine cReg ?_
  refine stP hf rfl rfl rfl (pA rfl) fun a hf => ?_
  refine cNil ?_
  refine h2 _ _ ?_
  refine wp_seq_k fun K3 h3 => ?_
  refine cReg ?_
  refine stP hf rfl rfl rfl (pM rfl) fun a hf => ?_
  refine stP hf rfl rfl rfl (pM rfl) fun a hf => ?_
  replace hc := hc.nilRow 61 5
  obtain ⟨un, hun, hF⟩ := bnd_some hF
  refine stApm (xs := ([] : List gauge_Vertical)) (ys := l) hf hc rfl rfl sl_46 rfl rfl rfl rfl rfl one_enc_gauge_Vertical (src_rd hc h_l) (fun _ _ => u0) (by simpa using room_spec hun) fun p_1 c_1 a w hf hc => ?_
  refine stP hf rfl rfl rfl (pA rfl) fun a hf => ?_
  refine cNil ?_
  refine h3 _ _ ?_
  refine wp_ret ?_
  obtain rfl := Option.some.inj hF
  exact fnOut1 (by simp) rfl Try.results61 hf hc (show look _ 2 = _ from rfl) ⟨p_1, c_1, rfl, hc⟩

def law03_CopyGauging (N : Nat) (g : gauge_Gauging) : Option (gauge_Gauging) :=
  Option.bind (kit_Copy_gauge_Vertical N g.Verticals) fun r =>
  some (⟨g.Left, g.Right, r⟩ : gauge_Gauging)
theorem law03_CopyGauging_ok {N : Nat} {G : Pers} {Lf : List Ent} {w : World} (g : gauge_Gauging) {g_Verticals_p : Option Addr} {g_Verticals_c : Nat} (h_g_Verticals : Rd G 5 g_Verticals_p g_Verticals_c (g.Verticals.map enc_gauge_Vertical)) (hc : Ctx G (Lf) w) {res : gauge_Gauging} (hF : law03_CopyGauging N g = some res) : Calls Try.prog 23 #[.agg #[.int .i64 g.Left, .int .i64 g.Right, .slice g_Verticals_p g.Verticals.length g_Verticals_c]] w (fun e w => ∃ (p'1 : Option Addr) (c'1 : Nat), e = .returned (.agg #[.int .i64 res.Left, .int .i64 res.Right, .slice p'1 res.Verticals.length c'1]) ∧ Ctx G (.row p'1 c'1 (res.Verticals.map enc_gauge_Vertical) 61 5 :: Lf) w) := by
  unfold law03_CopyGauging at hF
  refine fnIn (args := [.agg #[.int .i64 g.Left, .int .i64 g.Right, .slice g_Verticals_p g.Verticals.length g_Verticals_c]]) Try.func23 rfl Try.ntmps23 rfl fun a hf => ?_
  refine wp_seq_k fun K1 h1 => ?_
  refine cReg ?_
  refine stBx (cs := [.int .i64 g.Left, .int .i64 g.Right, .slice g_Verticals_p g.Verticals.length g_Verticals_c]) hf hc rfl rfl rfl rfl fun b_1 a w hf hc => ?_
  refine stAl (cs := [.int .i64 0, .int .i64 0, .slice none 0 0]) hf hc rfl rfl zr_48 rfl fun b_2 a w hf hc => ?_
  refine cNil ?_
  refine h1 _ _ ?_
  refine wp_seq_k fun K2 h2 => ?_
  refine cReg ?_
  refine stP hf rfl rfl rfl (pFA fa_48_2 rfl) fun a hf => ?_
  refine stE hf hc rfl rfl rfl (eLd1 sc_46 rfl (cell_box m1 rfl)) fun a w hf hc => ?_
  obtain ⟨r, hr, hF⟩ := bnd_some hF
  refine stC (vs := [.slice g_Verticals_p g.Verticals.length g_Verticals_c]) (caps := []) hf rfl rfl rfl en_61 rfl rfl rfl rfl (kit_Copy_gauge_Vertical_ok g.Verticals h_g_Verticals hc hr) ?_
  rintro _ w ⟨p_1, c_1, rfl, hc⟩
  refine ⟨_, rfl, fun a hf => ?_⟩
  refine stP hf rfl rfl rfl (pFA fa_48_2 rfl) fun a hf => ?_
  refine stSt (vs := [.slice p_1 r.length c_1]) hf hc rfl rfl rfl rfl sz_46 rfl rfl u2 fun w hc => ?_
  refine cNil ?_
  refine h2 _ _ ?_
  refine wp_seq_k fun K3 h3 => ?_
  refine cReg ?_
  refine stE hf hc rfl rfl rfl (eLdN (vs := [.int .i64 g.Left, .int .i64 g.Right, .slice p_1 r.length c_1]) ag_48 rfl rfl (cells_box (n := 3) m2 rfl)) fun a w hf hc => ?_
  refine stSt (vs := [.int .i64 g.Left, .int .i64 g.Right, .slice p_1 r.length c_1]) hf hc rfl rfl rfl rfl sz_48 rfl rfl u1 fun w hc => ?_
  refine cNil ?_
  refine h3 _ _ ?_
  refine wp_ret ?_
  obtain rfl := Option.some.inj hF
  replace hc := hc.drop k2
  exact fnOut1 (by simp) rfl Try.results23 hf hc (rv_cellN (vs := [.int .i64 g.Left, .int .i64 g.Right, .slice p_1 r.length c_1]) ag_48 rfl rfl (cells_box (n := 3) m1 rfl)) ⟨p_1, c_1, rfl, (hc.drop k1)⟩

def kit_Copy_gauge_Point (N : Nat) (l : List gauge_Point) : Option ((List gauge_Point)) :=
  Option.bind (room (l).length) fun un =>
  some l
theorem kit_Copy_gauge_Point_ok {N : Nat} {G : Pers} {Lf : List Ent} {w : World} (l : List gauge_Point) {l_p : Option Addr} {l_c : Nat} (h_l : Rd G 3 l_p l_c (l.map enc_gauge_Point)) (hc : Ctx G (Lf) w) {res : (List gauge_Point)} (hF : kit_Copy_gauge_Point N l = some res) : Calls Try.prog 62 #[.slice l_p l.length l_c] w (fun e w => ∃ (p'1 : Option Addr) (c'1 : Nat), e = .returned (.slice p'1 res.length c'1) ∧ Ctx G (.row p'1 c'1 (res.map enc_gauge_Point) 64 3 :: Lf) w) := by
  unfold kit_Copy_gauge_Point at hF
  refine fnIn (args := [.slice l_p l.length l_c]) Try.func62 rfl Try.ntmps62 rfl fun a hf => ?_
  refine wp_seq_k fun K1 h1 => ?_
  refine cReg ?_
  refine stP hf rfl rfl rfl (pA rfl) fun a hf => ?_
  refine cNil ?_
  refine h1 _ _ ?_
  refine wp_seq_k fun K2 h2 => ?_
  refine cReg ?_
  refine stP hf rfl rfl rfl (pA rfl) fun a hf => ?_
  refine cNil ?_
  refine h2 _ _ ?_
  refine wp_seq_k fun K3 h3 => ?_
  refine cReg ?_
  refine stP hf rfl rfl rfl (pM rfl) fun a hf => ?_
  refine stP hf rfl rfl rfl (pM rfl) fun a hf => ?_
  replace hc := hc.nilRow 64 3
  obtain ⟨un, hun, hF⟩ := bnd_some hF
  refine stApm (xs := ([] : List gauge_Point)) (ys := l) hf hc rfl rfl sl_53 rfl rfl rfl rfl rfl one_enc_gauge_Point (src_rd hc h_l) (fun _ _ => u0) (by simpa using room_spec hun) fun p_1 c_1 a w hf hc => ?_
  refine stP hf rfl rfl rfl (pA rfl) fun a hf => ?_
  refine cNil ?_
  refine h3 _ _ ?_
  refine wp_ret ?_
  obtain rfl := Option.some.inj hF
  exact fnOut1 (by simp) rfl Try.results62 hf hc (show look _ 2 = _ from rfl) ⟨p_1, c_1, rfl, hc⟩

def law03_CopySite (N : Nat) (s_ : gauge_Site) : Option (gauge_Site) :=
  Option.bind (kit_Copy_gauge_Point N s_.Points) fun r =>
  some (⟨s_.Left, s_.Right, s_.Gap, s_.Step_, r⟩ : gauge_Site)
theorem law03_CopySite_ok {N : Nat} {G : Pers} {Lf : List Ent} {w : World} (s_ : gauge_Site) {s__Points_p : Option Addr} {s__Points_c : Nat} (h_s__Points : Rd G 3 s__Points_p s__Points_c (s_.Points.map enc_gauge_Point)) (hc : Ctx G (Lf) w) {res : gauge_Site} (hF : law03_CopySite N s_ = some res) : Calls Try.prog 24 #[.agg #[.int .i64 s_.Left, .int .i64 s_.Right, .int .i64 s_.Gap, .int .i64 s_.Step_, .slice s__Points_p s_.Points.length s__Points_c]] w (fun e w => ∃ (p'1 : Option Addr) (c'1 : Nat), e = .returned (.agg #[.int .i64 res.Left, .int .i64 res.Right, .int .i64 res.Gap, .int .i64 res.Step_, .slice p'1 res.Points.length c'1]) ∧ Ctx G (.row p'1 c'1 (res.Points.map enc_gauge_Point) 64 3 :: Lf) w) := by
  unfold law03_CopySite at hF
  refine fnIn (args := [.agg #[.int .i64 s_.Left, .int .i64 s_.Right, .int .i64 s_.Gap, .int .i64 s_.Step_, .slice s__Points_p s_.Points.length s__Points_c]]) Try.func24 rfl Try.ntmps24 rfl fun a hf => ?_
  refine wp_seq_k fun K1 h1 => ?_
  refine cReg ?_
  refine stBx (cs := [.int .i64 s_.Left, .int .i64 s_.Right, .int .i64 s_.Gap, .int .i64 s_.Step_, .slice s__Points_p s_.Points.length s__Points_c]) hf hc rfl rfl rfl rfl fun b_1 a w hf hc => ?_
  refine stAl (cs := [.int .i64 0, .int .i64 0, .int .i64 0, .int .i64 0, .slice none 0 0]) hf hc rfl rfl zr_55 rfl fun b_2 a w hf hc => ?_
  refine cNil ?_
  refine h1 _ _ ?_
  refine wp_seq_k fun K2 h2 => ?_
  refine cReg ?_
  refine stP hf rfl rfl rfl (pFA fa_55_4 rfl) fun a hf => ?_
  refine stE hf hc rfl rfl rfl (eLd1 sc_53 rfl (cell_box m1 rfl)) fun a w hf hc => ?_
  obtain ⟨r, hr, hF⟩ := bnd_some hF
  refine stC (vs := [.slice s__Points_p s_.Points.length s__Points_c]) (caps := []) hf rfl rfl rfl en_62 rfl rfl rfl rfl (kit_Copy_gauge_Point_ok s_.Points h_s__Points hc hr) ?_
  rintro _ w ⟨p_1, c_1, rfl, hc⟩
  refine ⟨_, rfl, fun a hf => ?_⟩
  refine stP hf rfl rfl rfl (pFA fa_55_4 rfl) fun a hf => ?_
  refine stSt (vs := [.slice p_1 r.length c_1]) hf hc rfl rfl rfl rfl sz_53 rfl rfl u2 fun w hc => ?_
  refine cNil ?_
  refine h2 _ _ ?_
  refine wp_seq_k fun K3 h3 => ?_
  refine cReg ?_
  refine stE hf hc rfl rfl rfl (eLdN (vs := [.int .i64 s_.Left, .int .i64 s_.Right, .int .i64 s_.Gap, .int .i64 s_.Step_, .slice p_1 r.length c_1]) ag_55 rfl rfl (cells_box (n := 5) m2 rfl)) fun a w hf hc => ?_
  refine stSt (vs := [.int .i64 s_.Left, .int .i64 s_.Right, .int .i64 s_.Gap, .int .i64 s_.Step_, .slice p_1 r.length c_1]) hf hc rfl rfl rfl rfl sz_55 rfl rfl u1 fun w hc => ?_
  refine cNil ?_
  refine h3 _ _ ?_
  refine wp_ret ?_
  obtain rfl := Option.some.inj hF
  replace hc := hc.drop k2
  exact fnOut1 (by simp) rfl Try.results24 hf hc (rv_cellN (vs := [.int .i64 s_.Left, .int .i64 s_.Right, .int .i64 s_.Gap, .int .i64 s_.Step_, .slice p_1 r.length c_1]) ag_55 rfl rfl (cells_box (n := 5) m1 rfl)) ⟨p_1, c_1, rfl, (hc.drop k1)⟩

def slices_Reverse_Lgauge_Vertical_gauge_Vertical_b3 (N : Nat) (s_1 : List gauge_Vertical) (i_1 : Int) (j_1 : Int) : Option (Step ((List gauge_Vertical) × Int × Int) ((List gauge_Vertical))) :=
  cond (decide (i_1 < j_1))
  (Option.bind (getI s_1 j_1) fun e_1 =>
  Option.bind (getI s_1 i_1) fun e_2 =>
  Option.bind (getI s_1 i_1) fun e_3 =>
  Option.bind (getI s_1 j_1) fun e_4 =>
  some (.cont (((s_1.set i_1.toNat e_1).set j_1.toNat e_2), W (i_1 + 1), W (j_1 - 1))))
  (some (.brk (s_1, i_1, j_1)))
def slices_Reverse_Lgauge_Vertical_gauge_Vertical (N : Nat) (s_ : List gauge_Vertical) : Option ((List gauge_Vertical)) :=
  Option.bind (loopO (fun s3 => slices_Reverse_Lgauge_Vertical_gauge_Vertical_b3 N s3.1 s3.2.1 s3.2.2) N (s_, 0, W (((s_.length : Nat) : Int) - 1))) fun x3 =>
  exK x3 (fun s3 => Option.bind (sameL s3.1 s_) fun _ =>
  some s3.1) some
theorem slices_Reverse_Lgauge_Vertical_gauge_Vertical_ok {N : Nat} {G : Pers} {Lf : List Ent} {w : World} (s_ : List gauge_Vertical) {s__p : Option Addr} {s__c : Nat}  (hc : Ctx G (.row s__p s__c (s_.map enc_gauge_Vertical) 61 5 :: Lf) w) {res : (List gauge_Vertical)} (hF : slices_Reverse_Lgauge_Vertical_gauge_Vertical N s_ = some res) : Calls Try.prog 25 #[.slice s__p s_.length s__c] w (fun e w => e = .returned (.tuple #[]) ∧ res.length = s_.length ∧ Ctx G (.row s__p s__c (res.map enc_gauge_Vertical) 61 5 :: Lf) w) := by
  unfold slices_Reverse_Lgauge_Vertical_gauge_Vertical at hF
  refine fnIn (args := [.slice s__p s_.length s__c]) Try.func25 rfl Try.ntmps25 rfl fun a hf => ?_
  refine wp_seq_k fun K1 h1 => ?_
  refine cReg ?_
  refine stP hf rfl rfl rfl (pM rfl) fun a hf => ?_
  refine stP hf rfl rfl rfl (pLenS Try.underlying46 rfl) fun a hf => ?_
  refine stP hf rfl rfl rfl (pSub rfl rfl) fun a hf => ?_
  refine stP hf rfl rfl rfl (pA rfl) fun a hf => ?_
  refine stP hf rfl rfl rfl (pA rfl) fun a hf => ?_
  refine cNil ?_
  refine h1 _ _ ?_
  refine wp_thenK fun K2 h2 => ?_
  refine wp_block ?_
  obtain ⟨x3, hx3, hF⟩ := bnd_some hF
  let S3 : ((List gauge_Vertical) × Int × Int) → Act → World → Prop := (fun (zz : (List gauge_Vertical) × Int × Int) a w => Has 28 a [(0, .slice s__p zz.1.length s__c), (2, .int .i64 zz.2.1), (3, .int .i64 zz.2.2)] ∧ Ctx G (.row s__p s__c (zz.1.map enc_gauge_Vertical) 61 5 :: Lf) w)
  have hr3 : ∀ (zz : (List gauge_Vertical) × Int × Int) a w, x3 = .go zz → S3 zz a w → K2 a w := by
    rintro ⟨s_1, i_1, j_1⟩ a w rfl ⟨hf, hc⟩
    replace hF : _ = some res := hF
    refine h2 _ _ ?_
    obtain ⟨_, hl0, hF⟩ := same_len hF
    obtain rfl := Option.some.inj hF
    exact fnOut0 (by simp) rfl Try.results25 hf ⟨rfl, hl0, hc⟩
  have ho3 : ∀ r, x3 = .out r → r = res := by
    rintro r rfl
    exact Option.some.inj hF
  refine cLoop N (loopW (S := S3) (x := x3) ?_ N (s_, 0, W (((s_.length : Nat) : Int) - 1)) _ _ ⟨hf.keep ⟨rfl, rfl, rfl, trivial⟩, hc⟩ hx3)
  clear hF hf hc
  rintro ⟨s_1, i_1, j_1⟩ st3 a w KB3 ⟨hf, hc⟩ hF hfin3 hK3
  unfold slices_Reverse_Lgauge_Vertical_gauge_Vertical_b3 at hF
  refine wp_seq_k fun K4 h4 => ?_
  refine wp_seq_k fun K5 h5 => ?_
  refine cReg ?_
  refine stP hf rfl rfl rfl (pM rfl) fun a hf => ?_
  refine stP hf rfl rfl rfl (pM rfl) fun a hf => ?_
  refine stP hf rfl rfl rfl (pLt rfl rfl) fun a hf => ?_
  refine cNil ?_
  refine h5 _ _ ?_
  refine cCond (b := (decide (i_1 < j_1))) hf rfl (fun hb => ?_) (fun hb => ?_)
  · replace hF := condT hb hF
    clear hb
    refine wp_skip ?_
    refine h4 _ _ ?_
    refine wp_seq_k fun K6 h6 => ?_
    refine wp_block ?_
    obtain ⟨e_1, he_1, hF⟩ := bnd_some hF
    obtain ⟨g, rfl, qa, qr⟩ := row_atm hc m0 he_1
    obtain ⟨e_2, he_2, hF⟩ := bnd_some hF
    obtain ⟨qa_1, qr_1⟩ := row_atk hc m0 he_2
    obtain ⟨e_3, he_3, hF⟩ := bnd_some hF
    obtain ⟨qa_2, qr_2⟩ := row_atk hc m0 he_3
    obtain ⟨e_4, he_4, hF⟩ := bnd_some hF
    obtain ⟨qa_3, qr_3⟩ := row_atk hc m0 he_4
    refine regionE (fun θ => [⟨none, none, 0, .slice (some ⟨g, 0, none⟩) s_1.length s__c⟩, ⟨none, none, 2, .int .i64 i_1⟩, ⟨none, none, 3, .int .i64 j_1⟩, ⟨some 0, none, 14, .slice (some ⟨g, 0, none⟩) s_1.length s__c⟩, ⟨some 1, none, 15, .int .i64 i_1⟩, ⟨some 2, none, 16, .slice (some ⟨g, 0, none⟩) s_1.length s__c⟩, ⟨some 3, none, 17, .int .i64 j_1⟩, ⟨some 4, none, 18, .slice (some ⟨g, 0, none⟩) s_1.length s__c⟩, ⟨some 5, none, 19, .int .i64 j_1⟩, ⟨some 6, none, 20, .pointer (some ⟨g, j_1.toNat * 5, none⟩)⟩, ⟨some 7, none, 21, .agg #[.int .i64 e_1.At, .int .i64 e_1.Depth.Lo, .int .i64 e_1.Depth.Hi, .int .i64 e_1.Speed.Lo, .int .i64 e_1.Speed.Hi]⟩, ⟨some 8, none, 22, .slice (some ⟨g, 0, none⟩) s_1.length s__c⟩, ⟨some 9, none, 23, .int .i64 i_1⟩, ⟨some 10, none, 24, .pointer (some ⟨g, i_1.toNat * 5, none⟩)⟩, ⟨some 11, none, 25, .agg #[.int .i64 e_2.At, .int .i64 e_2.Depth.Lo, .int .i64 e_2.Depth.Hi, .int .i64 e_2.Speed.Lo, .int .i64 e_2.Speed.Hi]⟩, ⟨some 12, none, 26, .pointer (some ⟨g, i_1.toNat * 5, none⟩)⟩, ⟨some 14, none, 27, .pointer (some ⟨g, j_1.toNat * 5, none⟩)⟩]) (fun E θ => (bif E 15 then .row (some ⟨g, 0, none⟩) s__c (((s_1.set i_1.toNat e_1).set j_1.toNat e_2).map enc_gauge_Vertical) 61 5 else bif E 13 then .row (some ⟨g, 0, none⟩) s__c ((s_1.set i_1.toNat e_1).map enc_gauge_Vertical) 61 5 else .row (some ⟨g, 0, none⟩) s__c (s_1.map enc_gauge_Vertical) 61 5) :: Lf) [(13, 6), (15, 6), (13, 7), (15, 7), (11, 10), (13, 11), (15, 10), (15, 11), (13, 12), (15, 12), (15, 13), (15, 14)] (fun a w => Has 28 a [(0, .slice (some ⟨g, 0, none⟩) s_1.length s__c), (2, .int .i64 i_1), (3, .int .i64 j_1)] ∧ Ctx G (.row (some ⟨g, 0, none⟩) s__c (((s_1.set i_1.toNat e_1).set j_1.toNat e_2).map enc_gauge_Vertical) 61 5 :: Lf) w) follows_mx (by kernel_rfl) (by kernel_rfl) (HasE.of hf ⟨rfl, rfl, rfl, trivial, trivial, trivial, trivial, trivial, trivial, trivial, trivial, trivial, trivial, trivial, trivial, trivial, trivial, trivial⟩) hc ⟨?_, ?_, ?_, ?_, ?_, ?_, ?_, ?_, ?_, ?_, ?_, ?_, ?_, ?_, ?_, ?_, trivial⟩ ?_ ?_
    · intro E θ a w hD hi hp he hc
      have hf := he.h0
      replace hf := hf.more he 0 rfl onT
      refine stP hf rfl rfl rfl (pM rfl) fun a hf => ?_
      refine cNil ?_
      refine xThenN ?_
      intro ds u hau
      refine ⟨θ, he.put0 hi hau hf rfl 3 rfl rfl, ?_⟩
      exact hc
    · intro E θ a w hD hi hp he hc
      have hf := he.h0
      replace hf := hf.more he 1 rfl onT
      refine stP hf rfl rfl rfl (pM rfl) fun a hf => ?_
      refine cNil ?_
      refine xThenN ?_
      intro ds u hau
      refine ⟨θ, he.put0 hi hau hf rfl 4 rfl rfl, ?_⟩
      exact hc
    · intro E θ a w hD hi hp he hc
      have hf := he.h0
      replace hf := hf.more he 0 rfl onT
      refine stP hf rfl rfl rfl (pM rfl) fun a hf => ?_
      refine cNil ?_
      refine xThenN ?_
      intro ds u hau
      refine ⟨θ, he.put0 hi hau hf rfl 5 rfl rfl, ?_⟩
      exact hc
    · intro E θ a w hD hi hp he hc
      have hf := he.h0
      replace hf := hf.more he 2 rfl onT
      refine stP hf rfl rfl rfl (pM rfl) fun a hf => ?_
      refine cNil ?_
      refine xThenN ?_
      intro ds u hau
      refine ⟨θ, he.put0 hi hau hf rfl 6 rfl rfl, ?_⟩
      exact hc
    · intro E θ a w hD hi hp he hc
      have hf := he.h0
      replace hf := hf.more he 0 rfl onT
      refine stP hf rfl rfl rfl (pM rfl) fun a hf => ?_
      refine cNil ?_
      refine xThenN ?_
      intro ds u hau
      refine ⟨θ, he.put0 hi hau hf rfl 7 rfl rfl, ?_⟩
      exact hc
    · intro E θ a w hD hi hp he hc
      have hf := he.h0
      replace hf := hf.more he 2 rfl onT
      refine stP hf rfl rfl rfl (pM rfl) fun a hf => ?_
      refine cNil ?_
      refine xThenN ?_
      intro ds u hau
      refine ⟨θ, he.put0 hi hau hf rfl 8 rfl rfl, ?_⟩
      exact hc
    · intro E θ a w hD hi hp he hc
      have e4 := hp.of (k := 4) rfl
      have e5 := hp.of (k := 5) rfl
      have e13 := hD.f 0 rfl hi
      have e15 := hD.f 1 rfl hi
      try dsimp only at hc
      rw [e13, e15] at hc
      have hf := he.h0
      replace hf := hf.more he 7 rfl (onP e4)
      replace hf := hf.more he 8 rfl (onP e5)
      refine stP hf rfl rfl rfl (pIA Try.underlying46 sz_61 rfl rfl qa) fun a hf => ?_
      refine cNil ?_
      refine xThenN ?_
      intro ds u hau
      refine ⟨θ, he.put0 hi hau hf rfl 9 rfl rfl, ?_⟩
      try dsimp only
      rw [updE_fls 6 e13 rfl, updE_fls 6 e15 rfl]
      exact hc
    · intro E θ a w hD hi hp he hc
      have e6 := hp.of (k := 6) rfl
      have e13 := hD.f 2 rfl hi
      have e15 := hD.f 3 rfl hi
      try dsimp only at hc
      rw [e13, e15] at hc
      have hf := he.h0
      replace hf := hf.more he 9 rfl (onP e6)
      refine stE hf hc rfl rfl rfl (eLdN (vs := [.int .i64 e_1.At, .int .i64 e_1.Depth.Lo, .int .i64 e_1.Depth.Hi, .int .i64 e_1.Speed.Lo, .int .i64 e_1.Speed.Hi]) ag_61 rfl rfl (cells_rw (sz := 5) (i := j_1.toNat) m0 qr (n := 5) (o' := 0) rfl)) fun a w hf hc => ?_
      refine cNil ?_
      refine xThenN ?_
      intro ds u hau
      refine ⟨θ, he.put0 hi hau hf rfl 10 rfl rfl, ?_⟩
      try dsimp only
      rw [updE_fls 7 e13 rfl, updE_fls 7 e15 rfl]
      exact hc
    · intro E θ a w hD hi hp he hc
      have hf := he.h0
      replace hf := hf.more he 0 rfl onT
      refine stP hf rfl rfl rfl (pM rfl) fun a hf => ?_
      refine cNil ?_
      refine xThenN ?_
      intro ds u hau
      refine ⟨θ, he.put0 hi hau hf rfl 11 rfl rfl, ?_⟩
      exact hc
    · intro E θ a w hD hi hp he hc
      have hf := he.h0
      replace hf := hf.more he 1 rfl onT
      refine stP hf rfl rfl rfl (pM rfl) fun a hf => ?_
      refine cNil ?_
      refine xThenN ?_
      intro ds u hau
      refine ⟨θ, he.put0 hi hau hf rfl 12 rfl rfl, ?_⟩
      exact hc
    · intro E θ a w hD hi hp he hc
      have e8 := hp.of (k := 8) rfl
      have e9 := hp.of (k := 9) rfl
      have e11 := hD.f 4 rfl hi
      have e13 := hD.f 5 rfl e11
      have e15 := hD.f 6 rfl hi
      try dsimp only at hc
      rw [e13, e15] at hc
      have hf := he.h0
      replace hf := hf.more he 11 rfl (onP e8)
      replace hf := hf.more he 12 rfl (onP e9)
      refine stP hf rfl rfl rfl (pIA Try.underlying46 sz_61 rfl rfl qa_1) fun a hf => ?_
      refine cNil ?_
      refine xThenN ?_
      intro ds u hau
      refine ⟨θ, he.put0 hi hau hf rfl 13 rfl rfl, ?_⟩
      try dsimp only
      rw [updE_fls 10 e13 rfl, updE_fls 10 e15 rfl]
      exact hc
    · intro E θ a w hD hi hp he hc
      have e10 := hp.of (k := 10) rfl
      have e13 := hD.f 5 rfl hi
      have e15 := hD.f 7 rfl hi
      try dsimp only at hc
      rw [e13, e15] at hc
      have hf := he.h0
      replace hf := hf.more he 13 rfl (onP e10)
      refine stE hf hc rfl rfl rfl (eLdN (vs := [.int .i64 e_2.At, .int .i64 e_2.Depth.Lo, .int .i64 e_2.Depth.Hi, .int .i64 e_2.Speed.Lo, .int .i64 e_2.Speed.Hi]) ag_61 rfl rfl (cells_rw (sz := 5) (i := i_1.toNat) m0 qr_1 (n := 5) (o' := 0) rfl)) fun a w hf hc => ?_
      refine cNil ?_
      refine xThenN ?_
      intro ds u hau
      refine ⟨θ, he.put0 hi hau hf rfl 14 rfl rfl, ?_⟩
      try dsimp only
      rw [updE_fls 11 e13 rfl, updE_fls 11 e15 rfl]
      exact hc
    · intro E θ a w hD hi hp he hc
      have e0 := hp.of (k := 0) rfl
      have e1 := hp.of (k := 1) rfl
      have e13 := hD.f 8 rfl hi
      have e15 := hD.f 9 rfl hi
      try dsimp only at hc
      rw [e13, e15] at hc
      have hf := he.h0
      replace hf := hf.more he 3 rfl (onP e0)
      replace hf := hf.more he 4 rfl (onP e1)
      refine stP hf rfl rfl rfl (pIA Try.underlying46 sz_61 rfl rfl qa_2) fun a hf => ?_
      refine cNil ?_
      refine xThenN ?_
      intro ds u hau
      refine ⟨θ, he.put0 hi hau hf rfl 15 rfl rfl, ?_⟩
      try dsimp only
      rw [updE_fls 12 e13 rfl, updE_fls 12 e15 rfl]
      exact hc
    · intro E θ a w hD hi hp he hc
      have e7 := hp.of (k := 7) rfl
      have e12 := hp.of (k := 12) rfl
      have e15 := hD.f 10 rfl hi
      try dsimp only at hc
      rw [hi, e15] at hc
      have hf := he.h0
      replace hf := hf.more he 10 rfl (onP e7)
      replace hf := hf.more he 15 rfl (onP e12)
      refine stRw (vs := [.int .i64 e_1.At, .int .i64 e_1.Depth.Lo, .int .i64 e_1.Depth.Hi, .int .i64 e_1.Speed.Lo, .int .i64 e_1.Speed.Hi]) (o' := 0) (z := e_1) (xs := s_1) hf hc rfl rfl rfl rfl sz_61 rfl (fun x => (one_enc_gauge_Vertical x).1) (getI_lt he_3) (fun _ _ => rfl) rfl u0 fun w hc => ?_
      refine cNil ?_
      refine xThenN ?_
      intro ds u hau
      refine ⟨θ, he.stay0 hi hau hf rfl, ?_⟩
      try dsimp only
      rw [updE_self E 13, updE_fls 13 e15 rfl]
      exact hc
    · intro E θ a w hD hi hp he hc
      have e2 := hp.of (k := 2) rfl
      have e3 := hp.of (k := 3) rfl
      have e13 := hp.of (k := 13) rfl
      have e15 := hD.f 11 rfl hi
      try dsimp only at hc
      rw [e13, e15] at hc
      have hf := he.h0
      replace hf := hf.more he 5 rfl (onP e2)
      replace hf := hf.more he 6 rfl (onP e3)
      refine stP hf rfl rfl rfl (pIA Try.underlying46 sz_61 rfl rfl qa_3) fun a hf => ?_
      refine cNil ?_
      refine xThenN ?_
      intro ds u hau
      refine ⟨θ, he.put0 hi hau hf rfl 16 rfl rfl, ?_⟩
      try dsimp only
      rw [updE_tru 14 e13, updE_fls 14 e15 rfl]
      exact hc
    · intro E θ a w hD hi hp he hc
      have e11 := hp.of (k := 11) rfl
      have e14 := hp.of (k := 14) rfl
      have e13 := hp.of (k := 13) rfl
      try dsimp only at hc
      rw [e13, hi] at hc
      have hf := he.h0
      replace hf := hf.more he 14 rfl (onP e11)
      replace hf := hf.more he 16 rfl (onP e14)
      refine stRw (vs := [.int .i64 e_2.At, .int .i64 e_2.Depth.Lo, .int .i64 e_2.Depth.Hi, .int .i64 e_2.Speed.Lo, .int .i64 e_2.Speed.Hi]) (o' := 0) (z := e_2) (xs := (s_1.set i_1.toNat e_1)) hf hc rfl rfl rfl rfl sz_61 rfl (fun x => (one_enc_gauge_Vertical x).1) (by simpa using getI_lt he_4) (fun _ _ => rfl) rfl u0 fun w hc => ?_
      refine cNil ?_
      refine xThenN ?_
      intro ds u hau
      refine ⟨θ, he.stay0 hi hau hf rfl, ?_⟩
      try dsimp only
      rw [updE_tru 15 e13, updE_self E 15]
      exact hc
    · intro E θ a w hall he hc
      have hf := he.h0
      have e13 := hall 13 rfl
      have e15 := hall 15 rfl
      replace hf := hf.more he 2 rfl (onT)
      replace hf := hf.more he 1 rfl (onT)
      replace hf := hf.more he 0 rfl (onT)
      try dsimp only at hc
      rw [e13, e15] at hc
      exact ⟨hf.keep ⟨rfl, rfl, rfl, trivial⟩, hc⟩
    rintro a w ⟨hf, hc⟩
    refine h6 _ _ ?_
    refine cReg ?_
    refine stP hf rfl rfl rfl (pM rfl) fun a hf => ?_
    refine stP hf rfl rfl rfl (pAdd rfl rfl) fun a hf => ?_
    refine stP hf rfl rfl rfl (pM rfl) fun a hf => ?_
    refine stP hf rfl rfl rfl (pSub rfl rfl) fun a hf => ?_
    refine stP hf rfl rfl rfl (pA rfl) fun a hf => ?_
    refine stP hf rfl rfl rfl (pA rfl) fun a hf => ?_
    refine cNil ?_
    rw [(by simp : s_1.length = ((s_1.set i_1.toNat e_1).set j_1.toNat e_2).length)] at hf
    exact hK3 (((s_1.set i_1.toNat e_1).set j_1.toNat e_2), W (i_1 + 1), W (j_1 - 1)) _ _ (Option.some.inj hF).symm ⟨hf.keep ⟨rfl, rfl, rfl, trivial⟩, hc⟩
  · replace hF := condF hb hF
    clear hb
    refine wp_exit ?_
    refine xThen ?_
    refine xThen ?_
    have he := Option.some.inj hF
    rw [← he] at hfin3
    refine cHit ?_
    exact hr3 _ _ _ hfin3 ⟨hf.keep ⟨rfl, rfl, rfl, trivial⟩, hc⟩

def slices_Reverse_Lgauge_Point_gauge_Point_b3 (N : Nat) (s_1 : List gauge_Point) (i_1 : Int) (j_1 : Int) : Option (Step ((List gauge_Point) × Int × Int) ((List gauge_Point))) :=
  cond (decide (i_1 < j_1))
  (Option.bind (getI s_1 j_1) fun e_1 =>
  Option.bind (getI s_1 i_1) fun e_2 =>
  Option.bind (getI s_1 i_1) fun e_3 =>
  Option.bind (getI s_1 j_1) fun e_4 =>
  some (.cont (((s_1.set i_1.toNat e_1).set j_1.toNat e_2), W (i_1 + 1), W (j_1 - 1))))
  (some (.brk (s_1, i_1, j_1)))
def slices_Reverse_Lgauge_Point_gauge_Point (N : Nat) (s_ : List gauge_Point) : Option ((List gauge_Point)) :=
  Option.bind (loopO (fun s3 => slices_Reverse_Lgauge_Point_gauge_Point_b3 N s3.1 s3.2.1 s3.2.2) N (s_, 0, W (((s_.length : Nat) : Int) - 1))) fun x3 =>
  exK x3 (fun s3 => Option.bind (sameL s3.1 s_) fun _ =>
  some s3.1) some
theorem slices_Reverse_Lgauge_Point_gauge_Point_ok {N : Nat} {G : Pers} {Lf : List Ent} {w : World} (s_ : List gauge_Point) {s__p : Option Addr} {s__c : Nat}  (hc : Ctx G (.row s__p s__c (s_.map enc_gauge_Point) 64 3 :: Lf) w) {res : (List gauge_Point)} (hF : slices_Reverse_Lgauge_Point_gauge_Point N s_ = some res) : Calls Try.prog 26 #[.slice s__p s_.length s__c] w (fun e w => e = .returned (.tuple #[]) ∧ res.length = s_.length ∧ Ctx G (.row s__p s__c (res.map enc_gauge_Point) 64 3 :: Lf) w) := by
  unfold slices_Reverse_Lgauge_Point_gauge_Point at hF
  refine fnIn (args := [.slice s__p s_.length s__c]) Try.func26 rfl Try.ntmps26 rfl fun a hf => ?_
  refine wp_seq_k fun K1 h1 => ?_
  refine cReg ?_
  refine stP hf rfl rfl rfl (pM rfl) fun a hf => ?_
  refine stP hf rfl rfl rfl (pLenS Try.underlying53 rfl) fun a hf => ?_
  refine stP hf rfl rfl rfl (pSub rfl rfl) fun a hf => ?_
  refine stP hf rfl rfl rfl (pA rfl) fun a hf => ?_
  refine stP hf rfl rfl rfl (pA rfl) fun a hf => ?_
  refine cNil ?_
  refine h1 _ _ ?_
  refine wp_thenK fun K2 h2 => ?_
  refine wp_block ?_
  obtain ⟨x3, hx3, hF⟩ := bnd_some hF
  let S3 : ((List gauge_Point) × Int × Int) → Act → World → Prop := (fun (zz : (List gauge_Point) × Int × Int) a w => Has 28 a [(0, .slice s__p zz.1.length s__c), (2, .int .i64 zz.2.1), (3, .int .i64 zz.2.2)] ∧ Ctx G (.row s__p s__c (zz.1.map enc_gauge_Point) 64 3 :: Lf) w)
  have hr3 : ∀ (zz : (List gauge_Point) × Int × Int) a w, x3 = .go zz → S3 zz a w → K2 a w := by
    rintro ⟨s_1, i_1, j_1⟩ a w rfl ⟨hf, hc⟩
    replace hF : _ = some res := hF
    refine h2 _ _ ?_
    obtain ⟨_, hl0, hF⟩ := same_len hF
    obtain rfl := Option.some.inj hF
    exact fnOut0 (by simp) rfl Try.results26 hf ⟨rfl, hl0, hc⟩
  have ho3 : ∀ r, x3 = .out r → r = res := by
    rintro r rfl
    exact Option.some.inj hF
  refine cLoop N (loopW (S := S3) (x := x3) ?_ N (s_, 0, W (((s_.length : Nat) : Int) - 1)) _ _ ⟨hf.keep ⟨rfl, rfl, rfl, trivial⟩, hc⟩ hx3)
  clear hF hf hc
  rintro ⟨s_1, i_1, j_1⟩ st3 a w KB3 ⟨hf, hc⟩ hF hfin3 hK3
  unfold slices_Reverse_Lgauge_Point_gauge_Point_b3 at hF
  refine wp_seq_k fun K4 h4 => ?_
  refine wp_seq_k fun K5 h5 => ?_
  refine cReg ?_
  refine stP hf rfl rfl rfl (pM rfl) fun a hf => ?_
  refine stP hf rfl rfl rfl (pM rfl) fun a hf => ?_
  refine stP hf rfl rfl rfl (pLt rfl rfl) fun a hf => ?_
  refine cNil ?_
  refine h5 _ _ ?_
  refine cCond (b := (decide (i_1 < j_1))) hf rfl (fun hb => ?_) (fun hb => ?_)
  · replace hF := condT hb hF
    clear hb
    refine wp_skip ?_
    refine h4 _ _ ?_
    refine wp_seq_k fun K6 h6 => ?_
    refine wp_block ?_
    obtain ⟨e_1, he_1, hF⟩ := bnd_some hF
    obtain ⟨g, rfl, qa, qr⟩ := row_atm hc m0 he_1
    obtain ⟨e_2, he_2, hF⟩ := bnd_some hF
    obtain ⟨qa_1, qr_1⟩ := row_atk hc m0 he_2
    obtain ⟨e_3, he_3, hF⟩ := bnd_some hF
    obtain ⟨qa_2, qr_2⟩ := row_atk hc m0 he_3
    obtain ⟨e_4, he_4, hF⟩ := bnd_some hF
    obtain ⟨qa_3, qr_3⟩ := row_atk hc m0 he_4
    refine regionE (fun θ => [⟨none, none, 0, .slice (some ⟨g, 0, none⟩) s_1.length s__c⟩, ⟨none, none, 2, .int .i64 i_1⟩, ⟨none, none, 3, .int .i64 j_1⟩, ⟨some 0, none, 14, .slice (some ⟨g, 0, none⟩) s_1.length s__c⟩, ⟨some 1, none, 15, .int .i64 i_1⟩, ⟨some 2, none, 16, .slice (some ⟨g, 0, none⟩) s_1.length s__c⟩, ⟨some 3, none, 17, .int .i64 j_1⟩, ⟨some 4, none, 18, .slice (some ⟨g, 0, none⟩) s_1.length s__c⟩, ⟨some 5, none, 19, .int .i64 j_1⟩, ⟨some 6, none, 20, .pointer (some ⟨g, j_1.toNat * 3, none⟩)⟩, ⟨some 7, none, 21, .agg #[.int .i64 e_1.At, .int .i64 e_1.Depth, .int .i64 e_1.Cost]⟩, ⟨some 8, none, 22, .slice (some ⟨g, 0, none⟩) s_1.length s__c⟩, ⟨some 9, none, 23, .int .i64 i_1⟩, ⟨some 10, none, 24, .pointer (some ⟨g, i_1.toNat * 3, none⟩)⟩, ⟨some 11, none, 25, .agg #[.int .i64 e_2.At, .int .i64 e_2.Depth, .int .i64 e_2.Cost]⟩, ⟨some 12, none, 26, .pointer (some ⟨g, i_1.toNat * 3, none⟩)⟩, ⟨some 14, none, 27, .pointer (some ⟨g, j_1.toNat * 3, none⟩)⟩]) (fun E θ => (bif E 15 then .row (some ⟨g, 0, none⟩) s__c (((s_1.set i_1.toNat e_1).set j_1.toNat e_2).map enc_gauge_Point) 64 3 else bif E 13 then .row (some ⟨g, 0, none⟩) s__c ((s_1.set i_1.toNat e_1).map enc_gauge_Point) 64 3 else .row (some ⟨g, 0, none⟩) s__c (s_1.map enc_gauge_Point) 64 3) :: Lf) [(13, 6), (15, 6), (13, 7), (15, 7), (11, 10), (13, 11), (15, 10), (15, 11), (13, 12), (15, 12), (15, 13), (15, 14)] (fun a w => Has 28 a [(0, .slice (some ⟨g, 0, none⟩) s_1.length s__c), (2, .int .i64 i_1), (3, .int .i64 j_1)] ∧ Ctx G (.row (some ⟨g, 0, none⟩) s__c (((s_1.set i_1.toNat e_1).set j_1.toNat e_2).map enc_gauge_Point) 64 3 :: Lf) w) follows_mx (by kernel_rfl) (by kernel_rfl) (HasE.of hf ⟨rfl, rfl, rfl, trivial, trivial, trivial, trivial, trivial, trivial, trivial, trivial, trivial, trivial, trivial, trivial, trivial, trivial, trivial⟩) hc ⟨?_, ?_, ?_, ?_, ?_, ?_, ?_, ?_, ?_, ?_, ?_, ?_, ?_, ?_, ?_, ?_, trivial⟩ ?_ ?_
    · intro E θ a w hD hi hp he hc
      have hf := he.h0
      replace hf := hf.more he 0 rfl onT
      refine stP hf rfl rfl rfl (pM rfl) fun a hf => ?_
      refine cNil ?_
      refine xThenN ?_
      intro ds u hau
      refine ⟨θ, he.put0 hi hau hf rfl 3 rfl rfl, ?_⟩
      exact hc
    · intro E θ a w hD hi hp he hc
      have hf := he.h0
      replace hf := hf.more he 1 rfl onT
      refine stP hf rfl rfl rfl (pM rfl) fun a hf => ?_
      refine cNil ?_
      refine xThenN ?_
      intro ds u hau
      refine ⟨θ, he.put0 hi hau hf rfl 4 rfl rfl, ?_⟩
      exact hc
    · intro E θ a w hD hi hp he hc
      have hf := he.h0
      replace hf := hf.more he 0 rfl onT
      refine stP hf rfl rfl rfl (pM rfl) fun a hf => ?_
      refine cNil ?_
      refine xThenN ?_
      intro ds u hau
      refine ⟨θ, he.put0 hi hau hf rfl 5 rfl rfl, ?_⟩
      exact hc
    · intro E θ a w hD hi hp he hc
      have hf := he.h0
      replace hf := hf.more he 2 rfl onT
      refine stP hf rfl rfl rfl (pM rfl) fun a hf => ?_
      refine cNil ?_
      refine xThenN ?_
      intro ds u hau
      refine ⟨θ, he.put0 hi hau hf rfl 6 rfl rfl, ?_⟩
      exact hc
    · intro E θ a w hD hi hp he hc
      have hf := he.h0
      replace hf := hf.more he 0 rfl onT
      refine stP hf rfl rfl rfl (pM rfl) fun a hf => ?_
      refine cNil ?_
      refine xThenN ?_
      intro ds u hau
      refine ⟨θ, he.put0 hi hau hf rfl 7 rfl rfl, ?_⟩
      exact hc
    · intro E θ a w hD hi hp he hc
      have hf := he.h0
      replace hf := hf.more he 2 rfl onT
      refine stP hf rfl rfl rfl (pM rfl) fun a hf => ?_
      refine cNil ?_
      refine xThenN ?_
      intro ds u hau
      refine ⟨θ, he.put0 hi hau hf rfl 8 rfl rfl, ?_⟩
      exact hc
    · intro E θ a w hD hi hp he hc
      have e4 := hp.of (k := 4) rfl
      have e5 := hp.of (k := 5) rfl
      have e13 := hD.f 0 rfl hi
      have e15 := hD.f 1 rfl hi
      try dsimp only at hc
      rw [e13, e15] at hc
      have hf := he.h0
      replace hf := hf.more he 7 rfl (onP e4)
      replace hf := hf.more he 8 rfl (onP e5)
      refine stP hf rfl rfl rfl (pIA Try.underlying53 sz_64 rfl rfl qa) fun a hf => ?_
      refine cNil ?_
      refine xThenN ?_
      intro ds u hau
      refine ⟨θ, he.put0 hi hau hf rfl 9 rfl rfl, ?_⟩
      try dsimp only
      rw [updE_fls 6 e13 rfl, updE_fls 6 e15 rfl]
      exact hc
    · intro E θ a w hD hi hp he hc
      have e6 := hp.of (k := 6) rfl
      have e13 := hD.f 2 rfl hi
      have e15 := hD.f 3 rfl hi
      try dsimp only at hc
      rw [e13, e15] at hc
      have hf := he.h0
      replace hf := hf.more he 9 rfl (onP e6)
      refine stE hf hc rfl rfl rfl (eLdN (vs := [.int .i64 e_1.At, .int .i64 e_1.Depth, .int .i64 e_1.Cost]) ag_64 rfl rfl (cells_rw (sz := 3) (i := j_1.toNat) m0 qr (n := 3) (o' := 0) rfl)) fun a w hf hc => ?_
      refine cNil ?_
      refine xThenN ?_
      intro ds u hau
      refine ⟨θ, he.put0 hi hau hf rfl 10 rfl rfl, ?_⟩
      try dsimp only
      rw [updE_fls 7 e13 rfl, updE_fls 7 e15 rfl]
      exact hc
    · intro E θ a w hD hi hp he hc
      have hf := he.h0
      replace hf := hf.more he 0 rfl onT
      refine stP hf rfl rfl rfl (pM rfl) fun a hf => ?_
      refine cNil ?_
      refine xThenN ?_
      intro ds u hau
      refine ⟨θ, he.put0 hi hau hf rfl 11 rfl rfl, ?_⟩
      exact hc
    · intro E θ a w hD hi hp he hc
      have hf := he.h0
      replace hf := hf.more he 1 rfl onT
      refine stP hf rfl rfl rfl (pM rfl) fun a hf => ?_
      refine cNil ?_
      refine xThenN ?_
      intro ds u hau
      refine ⟨θ, he.put0 hi hau hf rfl 12 rfl rfl, ?_⟩
      exact hc
    · intro E θ a w hD hi hp he hc
      have e8 := hp.of (k := 8) rfl
      have e9 := hp.of (k := 9) rfl
      have e11 := hD.f 4 rfl hi
      have e13 := hD.f 5 rfl e11
      have e15 := hD.f 6 rfl hi
      try dsimp only at hc
      rw [e13, e15] at hc
      have hf := he.h0
      replace hf := hf.more he 11 rfl (onP e8)
      replace hf := hf.more he 12 rfl (onP e9)
      refine stP hf rfl rfl rfl (pIA Try.underlying53 sz_64 rfl rfl qa_1) fun a hf => ?_
      refine cNil ?_
      refine xThenN ?_
      intro ds u hau
      refine ⟨θ, he.put0 hi hau hf rfl 13 rfl rfl, ?_⟩
      try dsimp only
      rw [updE_fls 10 e13 rfl, updE_fls 10 e15 rfl]
      exact hc
    · intro E θ a w hD hi hp he hc
      have e10 := hp.of (k := 10) rfl
      have e13 := hD.f 5 rfl hi
      have e15 := hD.f 7 rfl hi
      try dsimp only at hc
      rw [e13, e15] at hc
      have hf := he.h0
      replace hf := hf.more he 13 rfl (onP e10)
      refine stE hf hc rfl rfl rfl (eLdN (vs := [.int .i64 e_2.At, .int .i64 e_2.Depth, .int .i64 e_2.Cost]) ag_64 rfl rfl (cells_rw (sz := 3) (i := i_1.toNat) m0 qr_1 (n := 3) (o' := 0) rfl)) fun a w hf hc => ?_
      refine cNil ?_
      refine xThenN ?_
      intro ds u hau
      refine ⟨θ, he.put0 hi hau hf rfl 14 rfl rfl, ?_⟩
      try dsimp only
      rw [updE_fls 11 e13 rfl, updE_fls 11 e15 rfl]
      exact hc
    · intro E θ a w hD hi hp he hc
      have e0 := hp.of (k := 0) rfl
      have e1 := hp.of (k := 1) rfl
      have e13 := hD.f 8 rfl hi
      have e15 := hD.f 9 rfl hi
      try dsimp only at hc
      rw [e13, e15] at hc
      have hf := he.h0
      replace hf := hf.more he 3 rfl (onP e0)
      replace hf := hf.more he 4 rfl (onP e1)
      refine stP hf rfl rfl rfl (pIA Try.underlying53 sz_64 rfl rfl qa_2) fun a hf => ?_
      refine cNil ?_
      refine xThenN ?_
      intro ds u hau
      refine ⟨θ, he.put0 hi hau hf rfl 15 rfl rfl, ?_⟩
      try dsimp only
      rw [updE_fls 12 e13 rfl, updE_fls 12 e15 rfl]
      exact hc
    · intro E θ a w hD hi hp he hc
      have e7 := hp.of (k := 7) rfl
      have e12 := hp.of (k := 12) rfl
      have e15 := hD.f 10 rfl hi
      try dsimp only at hc
      rw [hi, e15] at hc
      have hf := he.h0
      replace hf := hf.more he 10 rfl (onP e7)
      replace hf := hf.more he 15 rfl (onP e12)
      refine stRw (vs := [.int .i64 e_1.At, .int .i64 e_1.Depth, .int .i64 e_1.Cost]) (o' := 0) (z := e_1) (xs := s_1) hf hc rfl rfl rfl rfl sz_64 rfl (fun x => (one_enc_gauge_Point x).1) (getI_lt he_3) (fun _ _ => rfl) rfl u0 fun w hc => ?_
      refine cNil ?_
      refine xThenN ?_
      intro ds u hau
      refine ⟨θ, he.stay0 hi hau hf rfl, ?_⟩
      try dsimp only
      rw [updE_self E 13, updE_fls 13 e15 rfl]
      exact hc
    · intro E θ a w hD hi hp he hc
      have e2 := hp.of (k := 2) rfl
      have e3 := hp.of (k := 3) rfl
      have e13 := hp.of (k := 13) rfl
      have e15 := hD.f 11 rfl hi
      try dsimp only at hc
      rw [e13, e15] at hc
      have hf := he.h0
      replace hf := hf.more he 5 rfl (onP e2)
      replace hf := hf.more he 6 rfl (onP e3)
      refine stP hf rfl rfl rfl (pIA Try.underlying53 sz_64 rfl rfl qa_3) fun a hf => ?_
      refine cNil ?_
      refine xThenN ?_
      intro ds u hau
      refine ⟨θ, he.put0 hi hau hf rfl 16 rfl rfl, ?_⟩
      try dsimp only
      rw [updE_tru 14 e13, updE_fls 14 e15 rfl]
      exact hc
    · intro E θ a w hD hi hp he hc
      have e11 := hp.of (k := 11) rfl
      have e14 := hp.of (k := 14) rfl
      have e13 := hp.of (k := 13) rfl
      try dsimp only at hc
      rw [e13, hi] at hc
      have hf := he.h0
      replace hf := hf.more he 14 rfl (onP e11)
      replace hf := hf.more he 16 rfl (onP e14)
      refine stRw (vs := [.int .i64 e_2.At, .int .i64 e_2.Depth, .int .i64 e_2.Cost]) (o' := 0) (z := e_2) (xs := (s_1.set i_1.toNat e_1)) hf hc rfl rfl rfl rfl sz_64 rfl (fun x => (one_enc_gauge_Point x).1) (by simpa using getI_lt he_4) (fun _ _ => rfl) rfl u0 fun w hc => ?_
      refine cNil ?_
      refine xThenN ?_
      intro ds u hau
      refine ⟨θ, he.stay0 hi hau hf rfl, ?_⟩
      try dsimp only
      rw [updE_tru 15 e13, updE_self E 15]
      exact hc
    · intro E θ a w hall he hc
      have hf := he.h0
      have e13 := hall 13 rfl
      have e15 := hall 15 rfl
      replace hf := hf.more he 2 rfl (onT)
      replace hf := hf.more he 1 rfl (onT)
      replace hf := hf.more he 0 rfl (onT)
      try dsimp only at hc
      rw [e13, e15] at hc
      exact ⟨hf.keep ⟨rfl, rfl, rfl, trivial⟩, hc⟩
    rintro a w ⟨hf, hc⟩
    refine h6 _ _ ?_
    refine cReg ?_
    refine stP hf rfl rfl rfl (pM rfl) fun a hf => ?_
    refine stP hf rfl rfl rfl (pAdd rfl rfl) fun a hf => ?_
    refine stP hf rfl rfl rfl (pM rfl) fun a hf => ?_
    refine stP hf rfl rfl rfl (pSub rfl rfl) fun a hf => ?_
    refine stP hf rfl rfl rfl (pA rfl) fun a hf => ?_
    refine stP hf rfl rfl rfl (pA rfl) fun a hf => ?_
    refine cNil ?_
    rw [(by simp : s_1.length = ((s_1.set i_1.toNat e_1).set j_1.toNat e_2).length)] at hf
    exact hK3 (((s_1.set i_1.toNat e_1).set j_1.toNat e_2), W (i_1 + 1), W (j_1 - 1)) _ _ (Option.some.inj hF).symm ⟨hf.keep ⟨rfl, rfl, rfl, trivial⟩, hc⟩
  · replace hF := condF hb hF
    clear hb
    refine wp_exit ?_
    refine xThen ?_
    refine xThen ?_
    have he := Option.some.inj hF
    rw [← he] at hfin3
    refine cHit ?_
    exact hr3 _ _ _ hfin3 ⟨hf.keep ⟨rfl, rfl, rfl, trivial⟩, hc⟩

def gauge_in (n : Int) (least : Int) (greatest : Int) : Bool :=
  ((decide (least ≤ n)) && (decide (n ≤ greatest)))
theorem gauge_in_ok {G : Pers} {Lf : List Ent} {w : World} (n : Int) (least : Int) (greatest : Int)   (hc : Ctx G (Lf) w) {res : Bool} (hF : gauge_in n least greatest = res) : Calls Try.prog 55 #[.int .i64 n, .int .i64 least, .int .i64 greatest] w (fun e w => e = .returned (.bool res) ∧ Ctx G (Lf) w) := by
  unfold gauge_in at hF
  refine fnIn (args := [.int .i64 n, .int .i64 least, .int .i64 greatest]) Try.func55 rfl Try.ntmps55 rfl fun a hf => ?_
  refine wp_seq_k fun K1 h1 => ?_
  refine cReg ?_
  refine stP hf rfl rfl rfl (pA rfl) fun a hf => ?_
  refine cNil ?_
  refine h1 _ _ ?_
  refine wp_seq_k fun K2 h2 => ?_
  refine cReg ?_
  refine stP hf rfl rfl rfl (pM rfl) fun a hf => ?_
  refine stP hf rfl rfl rfl (pM rfl) fun a hf => ?_
  refine stP hf rfl rfl rfl (pGe rfl rfl) fun a hf => ?_
  refine stP hf rfl rfl rfl (pM rfl) fun a hf => ?_
  refine stCut 4 (fun a w => Has 15 a [(0, .int .i64 n), (1, .int .i64 least), (2, .int .i64 greatest), (6, .bool false), (7, .int .i64 n), (8, .int .i64 least), (9, .bool (decide (least ≤ n))), (10, .bool (decide (least ≤ n))), (14, .bool ((decide (least ≤ n)) && (decide (n ≤ greatest))))] ∧ Ctx G (Lf) w) ?_ ?_
  · cases hb : (decide (least ≤ n))
    · rw [hb] at hf
      refine stS hf rfl rfl rfl fun a hf => ?_
      refine stS hf rfl rfl rfl fun a hf => ?_
      refine stS hf rfl rfl rfl fun a hf => ?_
      refine stP hf rfl rfl rfl (pPf rfl rfl) fun a hf => ?_
      exact cNil ⟨hf.keep ⟨rfl, rfl, rfl, rfl, rfl, rfl, rfl, rfl, rfl, trivial⟩, hc⟩
    · rw [hb] at hf
      refine stP hf rfl rfl rfl (pM rfl) fun a hf => ?_
      refine stP hf rfl rfl rfl (pM rfl) fun a hf => ?_
      refine stP hf rfl rfl rfl (pLe rfl rfl) fun a hf => ?_
      refine stP hf rfl rfl rfl (pPt rfl rfl) fun a hf => ?_
      exact cNil ⟨hf.keep ⟨rfl, rfl, rfl, rfl, rfl, rfl, rfl, rfl, rfl, trivial⟩, hc⟩
  intro a w ⟨hf, hc⟩
  refine stP hf rfl rfl rfl (pA rfl) fun a hf => ?_
  refine cNil ?_
  refine h2 _ _ ?_
  refine wp_ret ?_
  obtain rfl := hF
  exact fnOut1 (by simp) rfl Try.results55 hf hc (show look _ 6 = _ from rfl) ⟨rfl, hc⟩

def gauge_shore (left : Int) (right : Int) : Bool :=
  ((gauge_in right 1 10000) && (gauge_in left 0 (W (right - 1))))
theorem gauge_shore_ok {G : Pers} {Lf : List Ent} {w : World} (left : Int) (right : Int)   (hc : Ctx G (Lf) w) {res : Bool} (hF : gauge_shore left right = res) : Calls Try.prog 73 #[.int .i64 left, .int .i64 right] w (fun e w => e = .returned (.bool res) ∧ Ctx G (Lf) w) := by
  unfold gauge_shore at hF
  refine fnIn (args := [.int .i64 left, .int .i64 right]) Try.func73 rfl Try.ntmps73 rfl fun a hf => ?_
  refine wp_seq_k fun K1 h1 => ?_
  refine cReg ?_
  refine stP hf rfl rfl rfl (pA rfl) fun a hf => ?_
  refine cNil ?_
  refine h1 _ _ ?_
  refine wp_seq_k fun K2 h2 => ?_
  refine cReg ?_
  refine stP hf rfl rfl rfl (pM rfl) fun a hf => ?_
  refine stE hf hc rfl rfl rfl (eC (v := .bool (gauge_in right 1 10000)) (vs := [.int .i64 right, .int .i64 1, .int .i64 10000]) (caps := []) en_55 rfl rfl rfl rfl (fun w hc => gauge_in_ok right 1 10000 hc rfl)) fun a w hf hc => ?_
  refine stP hf rfl rfl rfl (pM rfl) fun a hf => ?_
  refine stCut 5 (fun a w => Has 13 a [(0, .int .i64 left), (1, .int .i64 right), (4, .bool false), (5, .int .i64 right), (6, .bool (gauge_in right 1 10000)), (7, .bool (gauge_in right 1 10000)), (12, .bool ((gauge_in right 1 10000) && (gauge_in left 0 (W (right - 1)))))] ∧ Ctx G (Lf) w) ?_ ?_
  · cases hb : (gauge_in right 1 10000)
    · rw [hb] at hf
      refine stS hf rfl rfl rfl fun a hf => ?_
      refine stS hf rfl rfl rfl fun a hf => ?_
      refine stS hf rfl rfl rfl fun a hf => ?_
      refine stS hf rfl rfl rfl fun a hf => ?_
      refine stP hf rfl rfl rfl (pPf rfl rfl) fun a hf => ?_
      exact cNil ⟨hf.keep ⟨rfl, rfl, rfl, rfl, rfl, rfl, rfl, trivial⟩, hc⟩
    · rw [hb] at hf
      refine stP hf rfl rfl rfl (pM rfl) fun a hf => ?_
      refine stP hf rfl rfl rfl (pM rfl) fun a hf => ?_
      refine stP hf rfl rfl rfl (pSub rfl rfl) fun a hf => ?_
      refine stE hf hc rfl rfl rfl (eC (v := .bool (gauge_in left 0 (W (right - 1)))) (vs := [.int .i64 left, .int .i64 0, .int .i64 (W (right - 1))]) (caps := []) en_55 rfl rfl rfl rfl (fun w hc => gauge_in_ok left 0 (W (right - 1)) hc rfl)) fun a w hf hc => ?_
      refine stP hf rfl rfl rfl (pPt rfl rfl) fun a hf => ?_
      exact cNil ⟨hf.keep ⟨rfl, rfl, rfl, rfl, rfl, rfl, rfl, trivial⟩, hc⟩
  intro a w ⟨hf, hc⟩
  refine stP hf rfl rfl rfl (pA rfl) fun a hf => ?_
  refine cNil ?_
  refine h2 _ _ ?_
  refine wp_ret ?_
  obtain rfl := hF
  exact fnOut1 (by simp) rfl Try.results73 hf hc (show look _ 4 = _ from rfl) ⟨rfl, hc⟩

def gauge_right (s_ : api_Span) (least : Int) (greatest : Int) : Bool :=
  ((gauge_in s_.Lo least s_.Hi) && (decide (s_.Hi ≤ greatest)))
theorem gauge_right_ok {G : Pers} {Lf : List Ent} {w : World} (s_ : api_Span) (least : Int) (greatest : Int)   (hc : Ctx G (Lf) w) {res : Bool} (hF : gauge_right s_ least greatest = res) : Calls Try.prog 52 #[.agg #[.int .i64 s_.Lo, .int .i64 s_.Hi], .int .i64 least, .int .i64 greatest] w (fun e w => e = .returned (.bool res) ∧ Ctx G (Lf) w) := by
  unfold gauge_right at hF
  refine fnIn (args := [.agg #[.int .i64 s_.Lo, .int .i64 s_.Hi], .int .i64 least, .int .i64 greatest]) Try.func52 rfl Try.ntmps52 rfl fun a hf => ?_
  refine wp_seq_k fun K1 h1 => ?_
  refine cReg ?_
  refine stBx (cs := [.int .i64 s_.Lo, .int .i64 s_.Hi]) hf hc rfl rfl rfl rfl fun b_1 a w hf hc => ?_
  refine stP hf rfl rfl rfl (pA rfl) fun a hf => ?_
  refine cNil ?_
  refine h1 _ _ ?_
  refine wp_seq_k fun K2 h2 => ?_
  refine cReg ?_
  refine stP hf rfl rfl rfl (pFA fa_24_0 rfl) fun a hf => ?_
  refine stE hf hc rfl rfl rfl (eLd1 sc_3 rfl (cell_box m0 rfl)) fun a w hf hc => ?_
  refine stP hf rfl rfl rfl (pM rfl) fun a hf => ?_
  refine stP hf rfl rfl rfl (pFA fa_24_1 rfl) fun a hf => ?_
  refine stE hf hc rfl rfl rfl (eLd1 sc_3 rfl (cell_box m0 rfl)) fun a w hf hc => ?_
  refine stE hf hc rfl rfl rfl (eC (v := .bool (gauge_in s_.Lo least s_.Hi)) (vs := [.int .i64 s_.Lo, .int .i64 least, .int .i64 s_.Hi]) (caps := []) en_55 rfl rfl rfl rfl (fun w hc => gauge_in_ok s_.Lo least s_.Hi hc rfl)) fun a w hf hc => ?_
  refine stP hf rfl rfl rfl (pM rfl) fun a hf => ?_
  refine stCut 5 (fun a w => Has 19 a [(1, .int .i64 least), (2, .int .i64 greatest), (3, .pointer (some ⟨b_1, 0, none⟩)), (6, .bool false), (7, .pointer (some ⟨b_1, 0, none⟩)), (8, .int .i64 s_.Lo), (9, .int .i64 least), (10, .pointer (some ⟨b_1, 1, none⟩)), (11, .int .i64 s_.Hi), (12, .bool (gauge_in s_.Lo least s_.Hi)), (13, .bool (gauge_in s_.Lo least s_.Hi)), (18, .bool ((gauge_in s_.Lo least s_.Hi) && (decide (s_.Hi ≤ greatest))))] ∧ Ctx G (.box b_1 [.int .i64 s_.Lo, .int .i64 s_.Hi] 24 :: Lf) w) ?_ ?_
  · cases hb : (gauge_in s_.Lo least s_.Hi)
    · rw [hb] at hf
      refine stS hf rfl rfl rfl fun a hf => ?_
      refine stS hf rfl rfl rfl fun a hf => ?_
      refine stS hf rfl rfl rfl fun a hf => ?_
      refine stS hf rfl rfl rfl fun a hf => ?_
      refine stP hf rfl rfl rfl (pPf rfl rfl) fun a hf => ?_
      exact cNil ⟨hf.keep ⟨rfl, rfl, rfl, rfl, rfl, rfl, rfl, rfl, rfl, rfl, rfl, rfl, trivial⟩, hc⟩
    · rw [hb] at hf
      refine stP hf rfl rfl rfl (pFA fa_24_1 rfl) fun a hf => ?_
      refine stE hf hc rfl rfl rfl (eLd1 sc_3 rfl (cell_box m0 rfl)) fun a w hf hc => ?_
      refine stP hf rfl rfl rfl (pM rfl) fun a hf => ?_
      refine stP hf rfl rfl rfl (pLe rfl rfl) fun a hf => ?_
      refine stP hf rfl rfl rfl (pPt rfl rfl) fun a hf => ?_
      exact cNil ⟨hf.keep ⟨rfl, rfl, rfl, rfl, rfl, rfl, rfl, rfl, rfl, rfl, rfl, rfl, trivial⟩, hc⟩
  intro a w ⟨hf, hc⟩
  refine stP hf rfl rfl rfl (pA rfl) fun a hf => ?_
  refine cNil ?_
  refine h2 _ _ ?_
  refine wp_ret ?_
  obtain rfl := hF
  replace hc := hc.drop k0
  exact fnOut1 (by simp) rfl Try.results52 hf hc (show look _ 6 = _ from rfl) ⟨rfl, hc⟩

def gauge_Check_1 (v : gauge_Vertical) (x : gauge_Gauging) : Bool :=
  (((gauge_in v.At (W (x.Left + 1)) (W (x.Right - 1))) && (gauge_right v.Depth 0 2000)) && (gauge_right v.Speed (-5000) 5000))
theorem gauge_Check_1_ok {G : Pers} {Lf : List Ent} {w : World} (v : gauge_Vertical) (x : gauge_Gauging) {b_ : Nat} {x_Verticals_p : Option Addr} {x_Verticals_c : Nat} (h_x_Verticals : Rd G 5 x_Verticals_p x_Verticals_c (x.Verticals.map enc_gauge_Vertical)) (hc : Ctx G (.box b_ [.int .i64 x.Left, .int .i64 x.Right, .slice x_Verticals_p x.Verticals.length x_Verticals_c] 48 :: Lf) w) {res : Bool} (hF : gauge_Check_1 v x = res) : Calls Try.prog 101 #[.agg #[.int .i64 v.At, .int .i64 v.Depth.Lo, .int .i64 v.Depth.Hi, .int .i64 v.Speed.Lo, .int .i64 v.Speed.Hi], .pointer (some ⟨b_, 0, none⟩)] w (fun e w => e = .returned (.bool res) ∧ Ctx G (.box b_ [.int .i64 x.Left, .int .i64 x.Right, .slice x_Verticals_p x.Verticals.length x_Verticals_c] 48 :: Lf) w) := by
  unfold gauge_Check_1 at hF
  refine fnIn (args := [.agg #[.int .i64 v.At, .int .i64 v.Depth.Lo, .int .i64 v.Depth.Hi, .int .i64 v.Speed.Lo, .int .i64 v.Speed.Hi], .pointer (some ⟨b_, 0, none⟩)]) Try.func101 rfl Try.ntmps101 rfl fun a hf => ?_
  refine wp_seq_k fun K1 h1 => ?_
  refine cReg ?_
  refine stBx (cs := [.int .i64 v.At, .int .i64 v.Depth.Lo, .int .i64 v.Depth.Hi, .int .i64 v.Speed.Lo, .int .i64 v.Speed.Hi]) hf hc rfl rfl rfl rfl fun b_1 a w hf hc => ?_
  refine stP hf rfl rfl rfl (pA rfl) fun a hf => ?_
  refine cNil ?_
  refine h1 _ _ ?_
  refine wp_seq_k fun K2 h2 => ?_
  refine cReg ?_
  refine stP hf rfl rfl rfl (pFA fa_61_0 rfl) fun a hf => ?_
  refine stE hf hc rfl rfl rfl (eLd1 sc_3 rfl (cell_box m0 rfl)) fun a w hf hc => ?_
  refine stP hf rfl rfl rfl (pFA fa_48_0 rfl) fun a hf => ?_
  refine stE hf hc rfl rfl rfl (eLd1 sc_3 rfl (cell_box m1 rfl)) fun a w hf hc => ?_
  refine stP hf rfl rfl rfl (pAdd rfl rfl) fun a hf => ?_
  refine stP hf rfl rfl rfl (pFA fa_48_1 rfl) fun a hf => ?_
  refine stE hf hc rfl rfl rfl (eLd1 sc_3 rfl (cell_box m1 rfl)) fun a w hf hc => ?_
  refine stP hf rfl rfl rfl (pSub rfl rfl) fun a hf => ?_
  refine stE hf hc rfl rfl rfl (eC (v := .bool (gauge_in v.At (W (x.Left + 1)) (W (x.Right - 1)))) (vs := [.int .i64 v.At, .int .i64 (W (x.Left + 1)), .int .i64 (W (x.Right - 1))]) (caps := []) en_55 rfl rfl rfl rfl (fun w hc => gauge_in_ok v.At (W (x.Left + 1)) (W (x.Right - 1)) hc rfl)) fun a w hf hc => ?_
  refine stP hf rfl rfl rfl (pM rfl) fun a hf => ?_
  refine stCut 4 (fun a w => Has 23 a [(1, .pointer (some ⟨b_, 0, none⟩)), (2, .pointer (some ⟨b_1, 0, none⟩)), (3, .bool false), (4, .pointer (some ⟨b_1, 0, none⟩)), (5, .int .i64 v.At), (6, .pointer (some ⟨b_, 0, none⟩)), (7, .int .i64 x.Left), (8, .int .i64 (W (x.Left + 1))), (9, .pointer (some ⟨b_, 1, none⟩)), (10, .int .i64 x.Right), (11, .int .i64 (W (x.Right - 1))), (12, .bool (gauge_in v.At (W (x.Left + 1)) (W (x.Right - 1)))), (13, .bool (gauge_in v.At (W (x.Left + 1)) (W (x.Right - 1)))), (17, .bool ((gauge_in v.At (W (x.Left + 1)) (W (x.Right - 1))) && (gauge_right v.Depth 0 2000)))] ∧ Ctx G (.box b_1 [.int .i64 v.At, .int .i64 v.Depth.Lo, .int .i64 v.Depth.Hi, .int .i64 v.Speed.Lo, .int .i64 v.Speed.Hi] 61 :: .box b_ [.int .i64 x.Left, .int .i64 x.Right, .slice x_Verticals_p x.Verticals.length x_Verticals_c] 48 :: Lf) w) ?_ ?_
  · cases hb : (gauge_in v.At (W (x.Left + 1)) (W (x.Right - 1)))
    · rw [hb] at hf
      refine stS hf rfl rfl rfl fun a hf => ?_
      refine stS hf rfl rfl rfl fun a hf => ?_
      refine stS hf rfl rfl rfl fun a hf => ?_
      refine stP hf rfl rfl rfl (pPf rfl rfl) fun a hf => ?_
      exact cNil ⟨hf.keep ⟨rfl, rfl, rfl, rfl, rfl, rfl, rfl, rfl, rfl, rfl, rfl, rfl, rfl, rfl, trivial⟩, hc⟩
    · rw [hb] at hf
      refine stP hf rfl rfl rfl (pFA fa_61_1 rfl) fun a hf => ?_
      refine stE hf hc rfl rfl rfl (eLdN (vs := [.int .i64 v.Depth.Lo, .int .i64 v.Depth.Hi]) ag_24 rfl rfl (cells_box (n := 2) m0 rfl)) fun a w hf hc => ?_
      refine stE hf hc rfl rfl rfl (eC (v := .bool (gauge_right v.Depth 0 2000)) (vs := [.agg #[.int .i64 v.Depth.Lo, .int .i64 v.Depth.Hi], .int .i64 0, .int .i64 2000]) (caps := []) en_52 rfl rfl rfl rfl (fun w hc => gauge_right_ok v.Depth 0 2000 hc rfl)) fun a w hf hc => ?_
      refine stP hf rfl rfl rfl (pPt rfl rfl) fun a hf => ?_
      exact cNil ⟨hf.keep ⟨rfl, rfl, rfl, rfl, rfl, rfl, rfl, rfl, rfl, rfl, rfl, rfl, rfl, rfl, trivial⟩, hc⟩
  intro a w ⟨hf, hc⟩
  refine stP hf rfl rfl rfl (pM rfl) fun a hf => ?_
  refine stCut 4 (fun a w => Has 23 a [(1, .pointer (some ⟨b_, 0, none⟩)), (2, .pointer (some ⟨b_1, 0, none⟩)), (3, .bool false), (4, .pointer (some ⟨b_1, 0, none⟩)), (5, .int .i64 v.At), (6, .pointer (some ⟨b_, 0, none⟩)), (7, .int .i64 x.Left), (8, .int .i64 (W (x.Left + 1))), (9, .pointer (some ⟨b_, 1, none⟩)), (10, .int .i64 x.Right), (11, .int .i64 (W (x.Right - 1))), (12, .bool (gauge_in v.At (W (x.Left + 1)) (W (x.Right - 1)))), (13, .bool (gauge_in v.At (W (x.Left + 1)) (W (x.Right - 1)))), (17, .bool ((gauge_in v.At (W (x.Left + 1)) (W (x.Right - 1))) && (gauge_right v.Depth 0 2000))), (18, .bool ((gauge_in v.At (W (x.Left + 1)) (W (x.Right - 1))) && (gauge_right v.Depth 0 2000))), (22, .bool (((gauge_in v.At (W (x.Left + 1)) (W (x.Right - 1))) && (gauge_right v.Depth 0 2000)) && (gauge_right v.Speed (-5000) 5000)))] ∧ Ctx G (.box b_1 [.int .i64 v.At, .int .i64 v.Depth.Lo, .int .i64 v.Depth.Hi, .int .i64 v.Speed.Lo, .int .i64 v.Speed.Hi] 61 :: .box b_ [.int .i64 x.Left, .int .i64 x.Right, .slice x_Verticals_p x.Verticals.length x_Verticals_c] 48 :: Lf) w) ?_ ?_
  · cases hb : ((gauge_in v.At (W (x.Left + 1)) (W (x.Right - 1))) && (gauge_right v.Depth 0 2000))
    · rw [hb] at hf
      refine stS hf rfl rfl rfl fun a hf => ?_
      refine stS hf rfl rfl rfl fun a hf => ?_
      refine stS hf rfl rfl rfl fun a hf => ?_
      refine stP hf rfl rfl rfl (pPf rfl rfl) fun a hf => ?_
      exact cNil ⟨hf.keep ⟨rfl, rfl, rfl, rfl, rfl, rfl, rfl, rfl, rfl, rfl, rfl, rfl, rfl, rfl, rfl, rfl, trivial⟩, hc⟩
    · rw [hb] at hf
      refine stP hf rfl rfl rfl (pFA fa_61_2 rfl) fun a hf => ?_
      refine stE hf hc rfl rfl rfl (eLdN (vs := [.int .i64 v.Speed.Lo, .int .i64 v.Speed.Hi]) ag_24 rfl rfl (cells_box (n := 2) m0 rfl)) fun a w hf hc => ?_
      refine stE hf hc rfl rfl rfl (eC (v := .bool (gauge_right v.Speed (-5000) 5000)) (vs := [.agg #[.int .i64 v.Speed.Lo, .int .i64 v.Speed.Hi], .int .i64 (-5000), .int .i64 5000]) (caps := []) en_52 rfl rfl rfl rfl (fun w hc => gauge_right_ok v.Speed (-5000) 5000 hc rfl)) fun a w hf hc => ?_
      refine stP hf rfl rfl rfl (pPt rfl rfl) fun a hf => ?_
      exact cNil ⟨hf.keep ⟨rfl, rfl, rfl, rfl, rfl, rfl, rfl, rfl, rfl, rfl, rfl, rfl, rfl, rfl, rfl, rfl, trivial⟩, hc⟩
  intro a w ⟨hf, hc⟩
  refine stP hf rfl rfl rfl (pA rfl) fun a hf => ?_
  refine cNil ?_
  refine h2 _ _ ?_
  refine wp_ret ?_
  obtain rfl := hF
  replace hc := hc.drop k0
  exact fnOut1 (by simp) rfl Try.results101 hf hc (show look _ 3 = _ from rfl) ⟨rfl, hc⟩

def gauge_every_gauge_Vertical_1 (x : gauge_Vertical) (x_1 : gauge_Gauging) : Bool :=
  (!(gauge_Check_1 x x_1))
theorem gauge_every_gauge_Vertical_1_ok {G : Pers} {Lf : List Ent} {w : World} (x : gauge_Vertical) (x_1 : gauge_Gauging) {b_ : Nat} {b__1 : Nat} {x_1_Verticals_p : Option Addr} {x_1_Verticals_c : Nat} (h_x_1_Verticals : Rd G 5 x_1_Verticals_p x_1_Verticals_c (x_1.Verticals.map enc_gauge_Vertical)) (hc : Ctx G (.box b_ [.func (.func 101) #[] #[.pointer (some ⟨b__1, 0, none⟩)]] 159 :: .box b__1 [.int .i64 x_1.Left, .int .i64 x_1.Right, .slice x_1_Verticals_p x_1.Verticals.length x_1_Verticals_c] 48 :: Lf) w) {res : Bool} (hF : gauge_every_gauge_Vertical_1 x x_1 = res) : Calls Try.prog 116 #[.agg #[.int .i64 x.At, .int .i64 x.Depth.Lo, .int .i64 x.Depth.Hi, .int .i64 x.Speed.Lo, .int .i64 x.Speed.Hi], .pointer (some ⟨b_, 0, none⟩)] w (fun e w => e = .returned (.bool res) ∧ Ctx G (.box b_ [.func (.func 101) #[] #[.pointer (some ⟨b__1, 0, none⟩)]] 159 :: .box b__1 [.int .i64 x_1.Left, .int .i64 x_1.Right, .slice x_1_Verticals_p x_1.Verticals.length x_1_Verticals_c] 48 :: Lf) w) := by
  unfold gauge_every_gauge_Vertical_1 at hF
  refine fnIn (args := [.agg #[.int .i64 x.At, .int .i64 x.Depth.Lo, .int .i64 x.Depth.Hi, .int .i64 x.Speed.Lo, .int .i64 x.Speed.Hi], .pointer (some ⟨b_, 0, none⟩)]) Try.func116 rfl Try.ntmps116 rfl fun a hf => ?_
  refine wp_seq_k fun K1 h1 => ?_
  refine cReg ?_
  refine stBx (cs := [.int .i64 x.At, .int .i64 x.Depth.Lo, .int .i64 x.Depth.Hi, .int .i64 x.Speed.Lo, .int .i64 x.Speed.Hi]) hf hc rfl rfl rfl rfl fun b_1 a w hf hc => ?_
  refine stP hf rfl rfl rfl (pA rfl) fun a hf => ?_
  refine cNil ?_
  refine h1 _ _ ?_
  refine wp_seq_k fun K2 h2 => ?_
  refine cReg ?_
  refine stE hf hc rfl rfl rfl (eLd1 sc_159 rfl (cell_box m1 rfl)) fun a w hf hc => ?_
  refine stE hf hc rfl rfl rfl (eLdN (vs := [.int .i64 x.At, .int .i64 x.Depth.Lo, .int .i64 x.Depth.Hi, .int .i64 x.Speed.Lo, .int .i64 x.Speed.Hi]) ag_61 rfl rfl (cells_box (n := 5) m0 rfl)) fun a w hf hc => ?_
  refine stE hf hc rfl rfl rfl (eC (v := .bool (gauge_Check_1 x x_1)) (vs := [.agg #[.int .i64 x.At, .int .i64 x.Depth.Lo, .int .i64 x.Depth.Hi, .int .i64 x.Speed.Lo, .int .i64 x.Speed.Hi]]) (caps := [.pointer (some ⟨b__1, 0, none⟩)]) en_101 rfl rfl rfl rfl (fun w hc => (gauge_Check_1_ok x x_1 h_x_1_Verticals (hc.pick k2) rfl).mono fun e w h => ⟨h.1, (h.2.unpick k2)⟩)) fun a w hf hc => ?_
  refine stP hf rfl rfl rfl (pNot rfl) fun a hf => ?_
  refine stP hf rfl rfl rfl (pA rfl) fun a hf => ?_
  refine cNil ?_
  refine h2 _ _ ?_
  refine wp_ret ?_
  obtain rfl := hF
  replace hc := hc.drop k0
  exact fnOut1 (by simp) rfl Try.results116 hf hc (show look _ 3 = _ from rfl) ⟨rfl, hc⟩

def slices_IndexFunc_Lgauge_Vertical_gauge_Vertical_b4 (N : Nat) (s_ : List gauge_Vertical) (f_ : gauge_Gauging) (x : Int) : Option (Step (Int) (Int)) :=
  cond (decide (x < ((s_.length : Nat) : Int)))
  (Option.bind (getI s_ x) fun e_1 =>
  cond (gauge_every_gauge_Vertical_1 e_1 f_)
  (some (.ret x))
  (some (.cont (W (x + 1)))))
  (some (.brk x))
def slices_IndexFunc_Lgauge_Vertical_gauge_Vertical (N : Nat) (s_ : List gauge_Vertical) (f_ : gauge_Gauging) : Option (Int) :=
  Option.bind (loopO (fun s4 => slices_IndexFunc_Lgauge_Vertical_gauge_Vertical_b4 N s_ f_ s4) N 0) fun x4 =>
  exK x4 (fun s4 => some (-1)) some
theorem slices_IndexFunc_Lgauge_Vertical_gauge_Vertical_ok {N : Nat} {G : Pers} {Lf : List Ent} {w : World} (s_ : List gauge_Vertical) (f_ : gauge_Gauging) {s__p : Option Addr} {s__c : Nat} {b_ : Nat} {b__1 : Nat} {f__Verticals_p : Option Addr} {f__Verticals_c : Nat} (h_s_ : Rd G 5 s__p s__c (s_.map enc_gauge_Vertical)) (h_f__Verticals : Rd G 5 f__Verticals_p f__Verticals_c (f_.Verticals.map enc_gauge_Vertical)) (hc : Ctx G (.box b_ [.func (.func 101) #[] #[.pointer (some ⟨b__1, 0, none⟩)]] 159 :: .box b__1 [.int .i64 f_.Left, .int .i64 f_.Right, .slice f__Verticals_p f_.Verticals.length f__Verticals_c] 48 :: Lf) w) {res : Int} (hF : slices_IndexFunc_Lgauge_Vertical_gauge_Vertical N s_ f_ = some res) : Calls Try.prog 121 #[.slice s__p s_.length s__c, .func (.func 116) #[] #[.pointer (some ⟨b_, 0, none⟩)]] w (fun e w => e = .returned (.int .i64 res) ∧ Ctx G (.box b_ [.func (.func 101) #[] #[.pointer (some ⟨b__1, 0, none⟩)]] 159 :: .box b__1 [.int .i64 f_.Left, .int .i64 f_.Right, .slice f__Verticals_p f_.Verticals.length f__Verticals_c] 48 :: Lf) w) := by
  unfold slices_IndexFunc_Lgauge_Vertical_gauge_Vertical at hF
  refine fnIn (args := [.slice s__p s_.length s__c, .func (.func 116) #[] #[.pointer (some ⟨b_, 0, none⟩)]]) Try.func121 rfl Try.ntmps121 rfl fun a hf => ?_
  refine wp_seq_k fun K1 h1 => ?_
  refine cReg ?_
  refine stP hf rfl rfl rfl (pA rfl) fun a hf => ?_
  refine cNil ?_
  refine h1 _ _ ?_
  refine wp_seq_k fun K2 h2 => ?_
  refine wp_seq_k fun K3 h3 => ?_
  refine cReg ?_
  refine stP hf rfl rfl rfl (pM rfl) fun a hf => ?_
  refine stP hf rfl rfl rfl (pLenS Try.underlying46 rfl) fun a hf => ?_
  refine stP hf rfl rfl rfl (pM rfl) fun a hf => ?_
  refine cNil ?_
  refine h3 _ _ ?_
  refine wp_block ?_
  obtain ⟨x4, hx4, hF⟩ := bnd_some hF
  let S4 : Int → Act → World → Prop := (fun (zz : Int) a w => Has 19 a [(0, .slice s__p s_.length s__c), (1, .func (.func 116) #[] #[.pointer (some ⟨b_, 0, none⟩)]), (7, .int .i64 ((s_.length : Nat) : Int)), (8, .int .i64 zz)] ∧ Ctx G (.box b_ [.func (.func 101) #[] #[.pointer (some ⟨b__1, 0, none⟩)]] 159 :: .box b__1 [.int .i64 f_.Left, .int .i64 f_.Right, .slice f__Verticals_p f_.Verticals.length f__Verticals_c] 48 :: Lf) w)
  have hr4 : ∀ (zz : Int) a w, x4 = .go zz → S4 zz a w → K2 a w := by
    rintro x a w rfl ⟨hf, hc⟩
    replace hF : _ = some res := hF
    refine h2 _ _ ?_
    refine wp_seq_k fun K5 h5 => ?_
    refine cReg ?_
    refine stP hf rfl rfl rfl (pA rfl) fun a hf => ?_
    refine cNil ?_
    refine h5 _ _ ?_
    refine wp_ret ?_
    obtain rfl := Option.some.inj hF
    exact fnOut1 (by simp) rfl Try.results121 hf hc (show look _ 4 = _ from rfl) ⟨rfl, hc⟩
  have ho4 : ∀ r, x4 = .out r → r = res := by
    rintro r rfl
    exact Option.some.inj hF
  refine cLoop N (loopW (S := S4) (x := x4) ?_ N 0 _ _ ⟨hf.keep ⟨rfl, rfl, rfl, rfl, trivial⟩, hc⟩ hx4)
  clear hF hf hc
  rintro x st4 a w KB4 ⟨hf, hc⟩ hF hfin4 hK4
  unfold slices_IndexFunc_Lgauge_Vertical_gauge_Vertical_b4 at hF
  refine wp_seq_k fun K6 h6 => ?_
  refine cReg ?_
  refine stP hf rfl rfl rfl (pLt rfl rfl) fun a hf => ?_
  refine cNil ?_
  refine h6 _ _ ?_
  refine wp_seq_k fun K7 h7 => ?_
  refine cCond (b := (decide (x < ((s_.length : Nat) : Int)))) hf rfl (fun hb => ?_) (fun hb => ?_)
  · replace hF := condT hb hF
    clear hb
    refine wp_skip ?_
    refine h7 _ _ ?_
    refine wp_seq_k fun K8 h8 => ?_
    refine wp_block ?_
    refine wp_seq_k fun K9 h9 => ?_
    refine cReg ?_
    refine stP hf rfl rfl rfl (pM rfl) fun a hf => ?_
    refine stP hf rfl rfl rfl (pA rfl) fun a hf => ?_
    refine cNil ?_
    refine h9 _ _ ?_
    refine wp_seq_k fun K10 h10 => ?_
    refine cReg ?_
    refine stP hf rfl rfl rfl (pM rfl) fun a hf => ?_
    refine stP hf rfl rfl rfl (pM rfl) fun a hf => ?_
    refine stP hf rfl rfl rfl (pM rfl) fun a hf => ?_
    obtain ⟨e_1, he_1, hF⟩ := bnd_some hF
    obtain ⟨b_1, o, qa, qp⟩ := h_s_.atm he_1
    refine stP hf rfl rfl rfl (pIA Try.underlying46 sz_61 rfl rfl qa) fun a hf => ?_
    refine stE hf hc rfl rfl rfl (eLdN (vs := [.int .i64 e_1.At, .int .i64 e_1.Depth.Lo, .int .i64 e_1.Depth.Hi, .int .i64 e_1.Speed.Lo, .int .i64 e_1.Speed.Hi]) ag_61 rfl rfl (cells_pc qp (n := 5) (o' := 0) rfl)) fun a w hf hc => ?_
    refine stE hf hc rfl rfl rfl (eC (v := .bool (gauge_every_gauge_Vertical_1 e_1 f_)) (vs := [.agg #[.int .i64 e_1.At, .int .i64 e_1.Depth.Lo, .int .i64 e_1.Depth.Hi, .int .i64 e_1.Speed.Lo, .int .i64 e_1.Speed.Hi]]) (caps := [.pointer (some ⟨b_, 0, none⟩)]) en_116 rfl rfl rfl rfl (fun w hc => (gauge_every_gauge_Vertical_1_ok e_1 f_ h_f__Verticals ((hc.pick k1).pick k1) rfl).mono fun e w h => ⟨h.1, ((h.2.unpick k1).unpick k1)⟩)) fun a w hf hc => ?_
    refine cNil ?_
    refine h10 _ _ ?_
    refine cCond (b := (gauge_every_gauge_Vertical_1 e_1 f_)) hf rfl (fun hb => ?_) (fun hb => ?_)
    · replace hF := condT hb hF
      clear hb
      refine wp_seq_k fun K11 h11 => ?_
      refine cReg ?_
      refine stP hf rfl rfl rfl (pM rfl) fun a hf => ?_
      refine stP hf rfl rfl rfl (pA rfl) fun a hf => ?_
      refine cNil ?_
      refine h11 _ _ ?_
      refine wp_ret ?_
      refine xBlkR ?_
      refine xThenR ?_
      refine xThenR ?_
      have he := Option.some.inj hF
      rw [← he] at hfin4
      replace hF := ho4 _ hfin4
      refine xBlkR ?_
      refine xThenR ?_
      obtain rfl := hF
      exact fnOut1 (by simp) rfl Try.results121 hf hc (show look _ 4 = _ from rfl) ⟨rfl, hc⟩
    · replace hF := condF hb hF
      clear hb
      refine wp_skip ?_
      refine h8 _ _ ?_
      refine cReg ?_
      refine stP hf rfl rfl rfl (pAdd rfl rfl) fun a hf => ?_
      refine stP hf rfl rfl rfl (pM rfl) fun a hf => ?_
      refine cNil ?_
      exact hK4 (W (x + 1)) _ _ (Option.some.inj hF).symm ⟨hf.keep ⟨rfl, rfl, rfl, rfl, trivial⟩, hc⟩
  · replace hF := condF hb hF
    clear hb
    refine wp_exit ?_
    refine xThen ?_
    refine xThen ?_
    have he := Option.some.inj hF
    rw [← he] at hfin4
    refine cHit ?_
    exact hr4 _ _ _ hfin4 ⟨hf.keep ⟨rfl, rfl, rfl, rfl, trivial⟩, hc⟩

def slices_ContainsFunc_Lgauge_Vertical_gauge_Vertical (N : Nat) (s_ : List gauge_Vertical) (f_ : gauge_Gauging) : Option (Bool) :=
  Option.bind (slices_IndexFunc_Lgauge_Vertical_gauge_Vertical N s_ f_) fun r =>
  some (decide (0 ≤ r))
theorem slices_ContainsFunc_Lgauge_Vertical_gauge_Vertical_ok {N : Nat} {G : Pers} {Lf : List Ent} {w : World} (s_ : List gauge_Vertical) (f_ : gauge_Gauging) {s__p : Option Addr} {s__c : Nat} {b_ : Nat} {b__1 : Nat} {f__Verticals_p : Option Addr} {f__Verticals_c : Nat} (h_s_ : Rd G 5 s__p s__c (s_.map enc_gauge_Vertical)) (h_f__Verticals : Rd G 5 f__Verticals_p f__Verticals_c (f_.Verticals.map enc_gauge_Vertical)) (hc : Ctx G (.box b_ [.func (.func 101) #[] #[.pointer (some ⟨b__1, 0, none⟩)]] 159 :: .box b__1 [.int .i64 f_.Left, .int .i64 f_.Right, .slice f__Verticals_p f_.Verticals.length f__Verticals_c] 48 :: Lf) w) {res : Bool} (hF : slices_ContainsFunc_Lgauge_Vertical_gauge_Vertical N s_ f_ = some res) : Calls Try.prog 115 #[.slice s__p s_.length s__c, .func (.func 116) #[] #[.pointer (some ⟨b_, 0, none⟩)]] w (fun e w => e = .returned (.bool res) ∧ Ctx G (.box b_ [.func (.func 101) #[] #[.pointer (some ⟨b__1, 0, none⟩)]] 159 :: .box b__1 [.int .i64 f_.Left, .int .i64 f_.Right, .slice f__Verticals_p f_.Verticals.length f__Verticals_c] 48 :: Lf) w) := by
  unfold slices_ContainsFunc_Lgauge_Vertical_gauge_Vertical at hF
  refine fnIn (args := [.slice s__p s_.length s__c, .func (.func 116) #[] #[.pointer (some ⟨b_, 0, none⟩)]]) Try.func115 rfl Try.ntmps115 rfl fun a hf => ?_
  refine wp_seq_k fun K1 h1 => ?_
  refine cReg ?_
  refine stP hf rfl rfl rfl (pA rfl) fun a hf => ?_
  refine cNil ?_
  refine h1 _ _ ?_
  refine wp_seq_k fun K2 h2 => ?_
  refine cReg ?_
  refine stP hf rfl rfl rfl (pM rfl) fun a hf => ?_
  refine stP hf rfl rfl rfl (pM rfl) fun a hf => ?_
  obtain ⟨r, hr, hF⟩ := bnd_some hF
  refine stE hf hc rfl rfl rfl (eC (v := .int .i64 r) (vs := [.slice s__p s_.length s__c, .func (.func 116) #[] #[.pointer (some ⟨b_, 0, none⟩)]]) (caps := []) en_121 rfl rfl rfl rfl (fun w hc => (slices_IndexFunc_Lgauge_Vertical_gauge_Vertical_ok s_ f_ h_s_ h_f__Verticals ((hc.pick k1).pick k1) hr).mono fun e w h => ⟨h.1, ((h.2.unpick k1).unpick k1)⟩)) fun a w hf hc => ?_
  refine stP hf rfl rfl rfl (pGe rfl rfl) fun a hf => ?_
  refine stP hf rfl rfl rfl (pA rfl) fun a hf => ?_
  refine cNil ?_
  refine h2 _ _ ?_
  refine wp_ret ?_
  obtain rfl := Option.some.inj hF
  exact fnOut1 (by simp) rfl Try.results115 hf hc (show look _ 4 = _ from rfl) ⟨rfl, hc⟩

def gauge_every_gauge_Vertical (N : Nat) (l : List gauge_Vertical) (so : gauge_Gauging) : Option (Bool) :=
  Option.bind (slices_ContainsFunc_Lgauge_Vertical_gauge_Vertical N l so) fun r =>
  some (!r)
theorem gauge_every_gauge_Vertical_ok {N : Nat} {G : Pers} {Lf : List Ent} {w : World} (l : List gauge_Vertical) (so : gauge_Gauging) {l_p : Option Addr} {l_c : Nat} {b_ : Nat} {so_Verticals_p : Option Addr} {so_Verticals_c : Nat} (h_l : Rd G 5 l_p l_c (l.map enc_gauge_Vertical)) (h_so_Verticals : Rd G 5 so_Verticals_p so_Verticals_c (so.Verticals.map enc_gauge_Vertical)) (hc : Ctx G (.box b_ [.int .i64 so.Left, .int .i64 so.Right, .slice so_Verticals_p so.Verticals.length so_Verticals_c] 48 :: Lf) w) {res : Bool} (hF : gauge_every_gauge_Vertical N l so = some res) : Calls Try.prog 100 #[.slice l_p l.length l_c, .func (.func 101) #[] #[.pointer (some ⟨b_, 0, none⟩)]] w (fun e w => e = .returned (.bool res) ∧ Ctx G (.box b_ [.int .i64 so.Left, .int .i64 so.Right, .slice so_Verticals_p so.Verticals.length so_Verticals_c] 48 :: Lf) w) := by
  unfold gauge_every_gauge_Vertical at hF
  refine fnIn (args := [.slice l_p l.length l_c, .func (.func 101) #[] #[.pointer (some ⟨b_, 0, none⟩)]]) Try.func100 rfl Try.ntmps100 rfl fun a hf => ?_
  refine wp_seq_k fun K1 h1 => ?_
  refine cReg ?_
  refine stBx (cs := [.func (.func 101) #[] #[.pointer (some ⟨b_, 0, none⟩)]]) hf hc rfl rfl rfl rfl fun b_1 a w hf hc => ?_
  refine stP hf rfl rfl rfl (pA rfl) fun a hf => ?_
  refine cNil ?_
  refine h1 _ _ ?_
  refine wp_seq_k fun K2 h2 => ?_
  refine cReg ?_
  refine stP hf rfl rfl rfl (pM rfl) fun a hf => ?_
  refine stP hf rfl rfl rfl (pMF (us := [.pointer (some ⟨b_1, 0, none⟩)]) rfl rfl) fun a hf => ?_
  obtain ⟨r, hr, hF⟩ := bnd_some hF
  refine stE hf hc rfl rfl rfl (eC (v := .bool r) (vs := [.slice l_p l.length l_c, .func (.func 116) #[] #[.pointer (some ⟨b_1, 0, none⟩)]]) (caps := []) en_115 rfl rfl rfl rfl (fun w hc => (slices_ContainsFunc_Lgauge_Vertical_gauge_Vertical_ok l so h_l h_so_Verticals ((hc.pick k1).pick k1) hr).mono fun e w h => ⟨h.1, ((h.2.unpick k1).unpick k1)⟩)) fun a w hf hc => ?_
  refine stP hf rfl rfl rfl (pNot rfl) fun a hf => ?_
  refine stP hf rfl rfl rfl (pA rfl) fun a hf => ?_
  refine cNil ?_
  refine h2 _ _ ?_
  refine wp_ret ?_
  obtain rfl := Option.some.inj hF
  replace hc := hc.drop k0
  exact fnOut1 (by simp) rfl Try.results100 hf hc (show look _ 4 = _ from rfl) ⟨rfl, hc⟩

def gauge_Check_2 (N : Nat) (i_ : Int) (x : gauge_Gauging) : Option (Int) :=
  Option.bind (getI x.Verticals i_) fun e_1 =>
  some e_1.At
theorem gauge_Check_2_ok {N : Nat} {G : Pers} {Lf : List Ent} {w : World} (i_ : Int) (x : gauge_Gauging) {b_ : Nat} {x_Verticals_p : Option Addr} {x_Verticals_c : Nat} (h_x_Verticals : Rd G 5 x_Verticals_p x_Verticals_c (x.Verticals.map enc_gauge_Vertical)) (hc : Ctx G (.box b_ [.int .i64 x.Left, .int .i64 x.Right, .slice x_Verticals_p x.Verticals.length x_Verticals_c] 48 :: Lf) w) {res : Int} (hF : gauge_Check_2 N i_ x = some res) : Calls Try.prog 102 #[.int .i64 i_, .pointer (some ⟨b_, 0, none⟩)] w (fun e w => e = .returned (.int .i64 res) ∧ Ctx G (.box b_ [.int .i64 x.Left, .int .i64 x.Right, .slice x_Verticals_p x.Verticals.length x_Verticals_c] 48 :: Lf) w) := by
  unfold gauge_Check_2 at hF
  refine fnIn (args := [.int .i64 i_, .pointer (some ⟨b_, 0, none⟩)]) Try.func102 rfl Try.ntmps102 rfl fun a hf => ?_
  refine wp_seq_k fun K1 h1 => ?_
  refine cReg ?_
  refine stP hf rfl rfl rfl (pA rfl) fun a hf => ?_
  refine cNil ?_
  refine h1 _ _ ?_
  refine wp_seq_k fun K2 h2 => ?_
  refine cReg ?_
  refine stP hf rfl rfl rfl (pFA fa_48_2 rfl) fun a hf => ?_
  refine stE hf hc rfl rfl rfl (eLd1 sc_46 rfl (cell_box m0 rfl)) fun a w hf hc => ?_
  refine stP hf rfl rfl rfl (pM rfl) fun a hf => ?_
  obtain ⟨e_1, he_1, hF⟩ := bnd_some hF
  obtain ⟨b_1, o, qa, qp⟩ := h_x_Verticals.atm he_1
  refine stP hf rfl rfl rfl (pIA Try.underlying46 sz_61 rfl rfl qa) fun a hf => ?_
  refine stP hf rfl rfl rfl (pFA fa_61_0 rfl) fun a hf => ?_
  refine stE hf hc rfl rfl rfl (eLd1 sc_3 rfl (cell_pc (j := 0) qp rfl)) fun a w hf hc => ?_
  refine stP hf rfl rfl rfl (pA rfl) fun a hf => ?_
  refine cNil ?_
  refine h2 _ _ ?_
  refine wp_ret ?_
  obtain rfl := Option.some.inj hF
  exact fnOut1 (by simp) rfl Try.results102 hf hc (show look _ 3 = _ from rfl) ⟨rfl, hc⟩

def gauge_rising_b4 (N : Nat) (many : Int) (at_ : gauge_Gauging) (i_1 : Int) : Option (Step (Int) (Bool)) :=
  cond (decide (i_1 < many))
  (Option.bind (gauge_Check_2 N i_1 at_) fun r =>
  Option.bind (gauge_Check_2 N (W (i_1 - 1)) at_) fun r_1 =>
  cond (decide (r ≤ r_1))
  (some (.ret false))
  (some (.cont (W (i_1 + 1)))))
  (some (.brk i_1))
def gauge_rising (N : Nat) (many : Int) (at_ : gauge_Gauging) : Option (Bool) :=
  Option.bind (loopO (fun s4 => gauge_rising_b4 N many at_ s4) N 1) fun x4 =>
  exK x4 (fun s4 => some true) some
theorem gauge_rising_ok {N : Nat} {G : Pers} {Lf : List Ent} {w : World} (many : Int) (at_ : gauge_Gauging) {b_ : Nat} {at__Verticals_p : Option Addr} {at__Verticals_c : Nat} (h_at__Verticals : Rd G 5 at__Verticals_p at__Verticals_c (at_.Verticals.map enc_gauge_Vertical)) (hc : Ctx G (.box b_ [.int .i64 at_.Left, .int .i64 at_.Right, .slice at__Verticals_p at_.Verticals.length at__Verticals_c] 48 :: Lf) w) {res : Bool} (hF : gauge_rising N many at_ = some res) : Calls Try.prog 76 #[.int .i64 many, .func (.func 102) #[] #[.pointer (some ⟨b_, 0, none⟩)]] w (fun e w => e = .returned (.bool res) ∧ Ctx G (.box b_ [.int .i64 at_.Left, .int .i64 at_.Right, .slice at__Verticals_p at_.Verticals.length at__Verticals_c] 48 :: Lf) w) := by
  unfold gauge_rising at hF
  refine fnIn (args := [.int .i64 many, .func (.func 102) #[] #[.pointer (some ⟨b_, 0, none⟩)]]) Try.func76 rfl Try.ntmps76 rfl fun a hf => ?_
  refine wp_seq_k fun K1 h1 => ?_
  refine cReg ?_
  refine stP hf rfl rfl rfl (pA rfl) fun a hf => ?_
  refine cNil ?_
  refine h1 _ _ ?_
  refine wp_seq_k fun K2 h2 => ?_
  refine wp_seq_k fun K3 h3 => ?_
  refine cReg ?_
  refine stP hf rfl rfl rfl (pA rfl) fun a hf => ?_
  refine cNil ?_
  refine h3 _ _ ?_
  refine wp_block ?_
  obtain ⟨x4, hx4, hF⟩ := bnd_some hF
  let S4 : Int → Act → World → Prop := (fun (zz : Int) a w => Has 19 a [(0, .int .i64 many), (1, .func (.func 102) #[] #[.pointer (some ⟨b_, 0, none⟩)]), (5, .int .i64 zz)] ∧ Ctx G (.box b_ [.int .i64 at_.Left, .int .i64 at_.Right, .slice at__Verticals_p at_.Verticals.length at__Verticals_c] 48 :: Lf) w)
  have hr4 : ∀ (zz : Int) a w, x4 = .go zz → S4 zz a w → K2 a w := by
    rintro i_1 a w rfl ⟨hf, hc⟩
    replace hF : _ = some res := hF
    refine h2 _ _ ?_
    refine wp_seq_k fun K5 h5 => ?_
    refine cReg ?_
    refine stP hf rfl rfl rfl (pA rfl) fun a hf => ?_
    refine cNil ?_
    refine h5 _ _ ?_
    refine wp_ret ?_
    obtain rfl := Option.some.inj hF
    exact fnOut1 (by simp) rfl Try.results76 hf hc (show look _ 4 = _ from rfl) ⟨rfl, hc⟩
  have ho4 : ∀ r, x4 = .out r → r = res := by
    rintro r rfl
    exact Option.some.inj hF
  refine cLoop N (loopW (S := S4) (x := x4) ?_ N 1 _ _ ⟨hf.keep ⟨rfl, rfl, rfl, trivial⟩, hc⟩ hx4)
  clear hF hf hc
  rintro i_1 st4 a w KB4 ⟨hf, hc⟩ hF hfin4 hK4
  unfold gauge_rising_b4 at hF
  refine wp_seq_k fun K6 h6 => ?_
  refine wp_seq_k fun K7 h7 => ?_
  refine cReg ?_
  refine stP hf rfl rfl rfl (pM rfl) fun a hf => ?_
  refine stP hf rfl rfl rfl (pM rfl) fun a hf => ?_
  refine stP hf rfl rfl rfl (pLt rfl rfl) fun a hf => ?_
  refine cNil ?_
  refine h7 _ _ ?_
  refine cCond (b := (decide (i_1 < many))) hf rfl (fun hb => ?_) (fun hb => ?_)
  · replace hF := condT hb hF
    clear hb
    refine wp_skip ?_
    refine h6 _ _ ?_
    refine wp_seq_k fun K8 h8 => ?_
    refine wp_block ?_
    refine wp_seq_k fun K9 h9 => ?_
    refine cReg ?_
    refine stP hf rfl rfl rfl (pM rfl) fun a hf => ?_
    refine stP hf rfl rfl rfl (pM rfl) fun a hf => ?_
    obtain ⟨r, hr, hF⟩ := bnd_some hF
    refine stE hf hc rfl rfl rfl (eC (v := .int .i64 r) (vs := [.int .i64 i_1]) (caps := [.pointer (some ⟨b_, 0, none⟩)]) en_102 rfl rfl rfl rfl (fun w hc => (gauge_Check_2_ok i_1 at_ h_at__Verticals (hc.pick k0) hr).mono fun e w h => ⟨h.1, (h.2.unpick k0)⟩)) fun a w hf hc => ?_
    refine stP hf rfl rfl rfl (pM rfl) fun a hf => ?_
    refine stP hf rfl rfl rfl (pM rfl) fun a hf => ?_
    refine stP hf rfl rfl rfl (pSub rfl rfl) fun a hf => ?_
    obtain ⟨r_1, hr_1, hF⟩ := bnd_some hF
    refine stE hf hc rfl rfl rfl (eC (v := .int .i64 r_1) (vs := [.int .i64 (W (i_1 - 1))]) (caps := [.pointer (some ⟨b_, 0, none⟩)]) en_102 rfl rfl rfl rfl (fun w hc => (gauge_Check_2_ok (W (i_1 - 1)) at_ h_at__Verticals (hc.pick k0) hr_1).mono fun e w h => ⟨h.1, (h.2.unpick k0)⟩)) fun a w hf hc => ?_
    refine stP hf rfl rfl rfl (pLe rfl rfl) fun a hf => ?_
    refine cNil ?_
    refine h9 _ _ ?_
    refine cCond (b := (decide (r ≤ r_1))) hf rfl (fun hb => ?_) (fun hb => ?_)
    · replace hF := condT hb hF
      clear hb
      refine wp_seq_k fun K10 h10 => ?_
      refine cReg ?_
      refine stP hf rfl rfl rfl (pA rfl) fun a hf => ?_
      refine cNil ?_
      refine h10 _ _ ?_
      refine wp_ret ?_
      refine xBlkR ?_
      refine xThenR ?_
      refine xThenR ?_
      have he := Option.some.inj hF
      rw [← he] at hfin4
      replace hF := ho4 _ hfin4
      refine xBlkR ?_
      refine xThenR ?_
      obtain rfl := hF
      exact fnOut1 (by simp) rfl Try.results76 hf hc (show look _ 4 = _ from rfl) ⟨rfl, hc⟩
    · replace hF := condF hb hF
      clear hb
      refine wp_skip ?_
      refine h8 _ _ ?_
      refine cReg ?_
      refine stP hf rfl rfl rfl (pM rfl) fun a hf => ?_
      refine stP hf rfl rfl rfl (pAdd rfl rfl) fun a hf => ?_
      refine stP hf rfl rfl rfl (pA rfl) fun a hf => ?_
      refine cNil ?_
      exact hK4 (W (i_1 + 1)) _ _ (Option.some.inj hF).symm ⟨hf.keep ⟨rfl, rfl, rfl, trivial⟩, hc⟩
  · replace hF := condF hb hF
    clear hb
    refine wp_exit ?_
    refine xThen ?_
    refine xThen ?_
    have he := Option.some.inj hF
    rw [← he] at hfin4
    refine cHit ?_
    exact hr4 _ _ _ hfin4 ⟨hf.keep ⟨rfl, rfl, rfl, trivial⟩, hc⟩

def gauge_Check (N : Nat) (g : gauge_Gauging) : Option (Int) :=
  cond (!(gauge_in ((g.Verticals.length : Nat) : Int) 1 30))
  (some 3)
  (Option.bind (cond (!(gauge_shore g.Left g.Right)) (some true) (Option.bind (gauge_every_gauge_Vertical N g.Verticals g) fun r =>
  some (!r))) fun t_1 =>
  cond t_1
  (some 40)
  (Option.bind (gauge_rising N ((g.Verticals.length : Nat) : Int) g) fun r_1 =>
  cond (!r_1)
  (some 9)
  (some 0)))
theorem gauge_Check_ok {N : Nat} {G : Pers} {Lf : List Ent} {w : World} (g : gauge_Gauging) {g_Verticals_p : Option Addr} {g_Verticals_c : Nat} (h_g_Verticals : Rd G 5 g_Verticals_p g_Verticals_c (g.Verticals.map enc_gauge_Vertical)) (hc : Ctx G (Lf) w) {res : Int} (hF : gauge_Check N g = some res) : Calls Try.prog 69 #[.agg #[.int .i64 g.Left, .int .i64 g.Right, .slice g_Verticals_p g.Verticals.length g_Verticals_c]] w (fun e w => e = .returned (.int .i64 res) ∧ Ctx G (Lf) w) := by
  unfold gauge_Check at hF
  refine fnIn (args := [.agg #[.int .i64 g.Left, .int .i64 g.Right, .slice g_Verticals_p g.Verticals.length g_Verticals_c]]) Try.func69 rfl Try.ntmps69 rfl fun a hf => ?_
  refine wp_seq_k fun K1 h1 => ?_
  refine cReg ?_
  refine stBx (cs := [.int .i64 g.Left, .int .i64 g.Right, .slice g_Verticals_p g.Verticals.length g_Verticals_c]) hf hc rfl rfl rfl rfl fun b_1 a w hf hc => ?_
  refine stP hf rfl rfl rfl (pA rfl) fun a hf => ?_
  refine cNil ?_
  refine h1 _ _ ?_
  refine wp_seq_k fun K2 h2 => ?_
  refine wp_block ?_
  refine wp_seq_k fun K3 h3 => ?_
  refine cReg ?_
  refine stP hf rfl rfl rfl (pFA fa_48_2 rfl) fun a hf => ?_
  refine stE hf hc rfl rfl rfl (eLd1 sc_46 rfl (cell_box m0 rfl)) fun a w hf hc => ?_
  refine stP hf rfl rfl rfl (pLenS Try.underlying46 rfl) fun a hf => ?_
  refine stE hf hc rfl rfl rfl (eC (v := .bool (gauge_in ((g.Verticals.length : Nat) : Int) 1 30)) (vs := [.int .i64 ((g.Verticals.length : Nat) : Int), .int .i64 1, .int .i64 30]) (caps := []) en_55 rfl rfl rfl rfl (fun w hc => gauge_in_ok ((g.Verticals.length : Nat) : Int) 1 30 hc rfl)) fun a w hf hc => ?_
  refine stP hf rfl rfl rfl (pNot rfl) fun a hf => ?_
  refine stP hf rfl rfl rfl (pA rfl) fun a hf => ?_
  refine cNil ?_
  refine h3 _ _ ?_
  refine cCond (b := (!(gauge_in ((g.Verticals.length : Nat) : Int) 1 30))) hf rfl (fun hb => ?_) (fun hb => ?_)
  · replace hF := condT hb hF
    clear hb
    refine wp_seq_k fun K4 h4 => ?_
    refine cReg ?_
    refine stP hf rfl rfl rfl (pA rfl) fun a hf => ?_
    refine cNil ?_
    refine h4 _ _ ?_
    refine wp_ret ?_
    refine xBlkR ?_
    refine xThenR ?_
    obtain rfl := Option.some.inj hF
    replace hc := hc.drop k0
    exact fnOut1 (by simp) rfl Try.results69 hf hc (show look _ 2 = _ from rfl) ⟨rfl, hc⟩
  · replace hF := condF hb hF
    clear hb
    refine wp_seq_k fun K5 h5 => ?_
    refine cReg ?_
    refine stP hf rfl rfl rfl (pFA fa_48_0 rfl) fun a hf => ?_
    refine stE hf hc rfl rfl rfl (eLd1 sc_3 rfl (cell_box m0 rfl)) fun a w hf hc => ?_
    refine stP hf rfl rfl rfl (pFA fa_48_1 rfl) fun a hf => ?_
    refine stE hf hc rfl rfl rfl (eLd1 sc_3 rfl (cell_box m0 rfl)) fun a w hf hc => ?_
    refine stE hf hc rfl rfl rfl (eC (v := .bool (gauge_shore g.Left g.Right)) (vs := [.int .i64 g.Left, .int .i64 g.Right]) (caps := []) en_73 rfl rfl rfl rfl (fun w hc => gauge_shore_ok g.Left g.Right hc rfl)) fun a w hf hc => ?_
    refine stP hf rfl rfl rfl (pNot rfl) fun a hf => ?_
    refine stP hf rfl rfl rfl (pM rfl) fun a hf => ?_
    obtain ⟨t_1, ht_1, hF⟩ := bnd_some hF
    refine stCut 6 (fun a w => Has 30 a [(1, .pointer (some ⟨b_1, 0, none⟩)), (10, .pointer (some ⟨b_1, 0, none⟩)), (11, .int .i64 g.Left), (12, .pointer (some ⟨b_1, 1, none⟩)), (13, .int .i64 g.Right), (14, .bool (gauge_shore g.Left g.Right)), (15, .bool (!(gauge_shore g.Left g.Right))), (16, .bool (!(gauge_shore g.Left g.Right))), (22, .bool t_1)] ∧ Ctx G (.box b_1 [.int .i64 g.Left, .int .i64 g.Right, .slice g_Verticals_p g.Verticals.length g_Verticals_c] 48 :: Lf) w) ?_ ?_
    · cases hb : (!(gauge_shore g.Left g.Right))
      · rw [hb] at hf
        have hF := condF hb ht_1
        refine stP hf rfl rfl rfl (pFA fa_48_2 rfl) fun a hf => ?_
        refine stE hf hc rfl rfl rfl (eLd1 sc_46 rfl (cell_box m0 rfl)) fun a w hf hc => ?_
        refine stP hf rfl rfl rfl (pMF (us := [.pointer (some ⟨b_1, 0, none⟩)]) rfl rfl) fun a hf => ?_
        obtain ⟨r, hr, hF⟩ := bnd_some hF
        refine stE hf hc rfl rfl rfl (eC (v := .bool r) (vs := [.slice g_Verticals_p g.Verticals.length g_Verticals_c, .func (.func 101) #[] #[.pointer (some ⟨b_1, 0, none⟩)]]) (caps := []) en_100 rfl rfl rfl rfl (fun w hc => (gauge_every_gauge_Vertical_ok g.Verticals g h_g_Verticals h_g_Verticals (hc.pick k0) hr).mono fun e w h => ⟨h.1, (h.2.unpick k0)⟩)) fun a w hf hc => ?_
        refine stP hf rfl rfl rfl (pNot rfl) fun a hf => ?_
        refine stP hf rfl rfl rfl (pPf rfl rfl) fun a hf => ?_
        obtain rfl := Option.some.inj hF
        exact cNil ⟨hf.keep ⟨rfl, rfl, rfl, rfl, rfl, rfl, rfl, rfl, rfl, trivial⟩, hc⟩
      · rw [hb] at hf
        have hF := condT hb ht_1
        obtain rfl := Option.some.inj hF
        refine stS hf rfl rfl rfl fun a hf => ?_
        refine stS hf rfl rfl rfl fun a hf => ?_
        refine stS hf rfl rfl rfl fun a hf => ?_
        refine stS hf rfl rfl rfl fun a hf => ?_
        refine stS hf rfl rfl rfl fun a hf => ?_
        refine stP hf rfl rfl rfl (pPt rfl rfl) fun a hf => ?_
        exact cNil ⟨hf.keep ⟨rfl, rfl, rfl, rfl, rfl, rfl, rfl, rfl, rfl, trivial⟩, hc⟩
    intro a w ⟨hf, hc⟩
    refine stP hf rfl rfl rfl (pA rfl) fun a hf => ?_
    refine cNil ?_
    refine h5 _ _ ?_
    refine cCond (b := t_1) hf rfl (fun hb => ?_) (fun hb => ?_)
    · replace hF := condT hb hF
      clear hb
      refine wp_seq_k fun K6 h6 => ?_
      refine cReg ?_
      refine stP hf rfl rfl rfl (pA rfl) fun a hf => ?_
      refine cNil ?_
      refine h6 _ _ ?_
      refine wp_ret ?_
      refine xBlkR ?_
      refine xThenR ?_
      obtain rfl := Option.some.inj hF
      replace hc := hc.drop k0
      exact fnOut1 (by simp) rfl Try.results69 hf hc (show look _ 2 = _ from rfl) ⟨rfl, hc⟩
    · replace hF := condF hb hF
      clear hb
      refine wp_seq_k fun K7 h7 => ?_
      refine cReg ?_
      refine stP hf rfl rfl rfl (pFA fa_48_2 rfl) fun a hf => ?_
      refine stE hf hc rfl rfl rfl (eLd1 sc_46 rfl (cell_box m0 rfl)) fun a w hf hc => ?_
      refine stP hf rfl rfl rfl (pLenS Try.underlying46 rfl) fun a hf => ?_
      refine stP hf rfl rfl rfl (pMF (us := [.pointer (some ⟨b_1, 0, none⟩)]) rfl rfl) fun a hf => ?_
      obtain ⟨r_1, hr_1, hF⟩ := bnd_some hF
      refine stE hf hc rfl rfl rfl (eC (v := .bool r_1) (vs := [.int .i64 ((g.Verticals.length : Nat) : Int), .func (.func 102) #[] #[.pointer (some ⟨b_1, 0, none⟩)]]) (caps := []) en_76 rfl rfl rfl rfl (fun w hc => (gauge_rising_ok ((g.Verticals.length : Nat) : Int) g h_g_Verticals (hc.pick k0) hr_1).mono fun e w h => ⟨h.1, (h.2.unpick k0)⟩)) fun a w hf hc => ?_
      refine stP hf rfl rfl rfl (pNot rfl) fun a hf => ?_
      refine stP hf rfl rfl rfl (pA rfl) fun a hf => ?_
      refine cNil ?_
      refine h7 _ _ ?_
      refine cCond (b := (!r_1)) hf rfl (fun hb => ?_) (fun hb => ?_)
      · replace hF := condT hb hF
        clear hb
        refine wp_seq_k fun K8 h8 => ?_
        refine cReg ?_
        refine stP hf rfl rfl rfl (pA rfl) fun a hf => ?_
        refine cNil ?_
        refine h8 _ _ ?_
        refine wp_ret ?_
        refine xBlkR ?_
        refine xThenR ?_
        obtain rfl := Option.some.inj hF
        replace hc := hc.drop k0
        exact fnOut1 (by simp) rfl Try.results69 hf hc (show look _ 2 = _ from rfl) ⟨rfl, hc⟩
      · replace hF := condF hb hF
        clear hb
        refine wp_skip ?_
        refine h2 _ _ ?_
        refine wp_seq_k fun K9 h9 => ?_
        refine cReg ?_
        refine stP hf rfl rfl rfl (pA rfl) fun a hf => ?_
        refine cNil ?_
        refine h9 _ _ ?_
        refine wp_ret ?_
        obtain rfl := Option.some.inj hF
        replace hc := hc.drop k0
        exact fnOut1 (by simp) rfl Try.results69 hf hc (show look _ 2 = _ from rfl) ⟨rfl, hc⟩

def gauge_Gauging_widths (N : Nat) (g : gauge_Gauging) : Option (Int × Int) :=
  some (g.Left, g.Right)
theorem gauge_Gauging_widths_ok {N : Nat} {G : Pers} {Lf : List Ent} {w : World} (g : gauge_Gauging) {g_Verticals_p : Option Addr} {g_Verticals_c : Nat} (h_g_Verticals : Rd G 5 g_Verticals_p g_Verticals_c (g.Verticals.map enc_gauge_Vertical)) (hc : Ctx G (Lf) w) {res : Int × Int} (hF : gauge_Gauging_widths N g = some res) : Calls Try.prog 70 #[.agg #[.int .i64 g.Left, .int .i64 g.Right, .slice g_Verticals_p g.Verticals.length g_Verticals_c]] w (fun e w => ∃ (b'1 : Nat), e = .returned (.func (.func 103) #[] #[.pointer (some ⟨b'1, 0, none⟩)]) ∧ Ctx G (.box b'1 [.int .i64 res.1, .int .i64 res.2, .slice g_Verticals_p g.Verticals.length g_Verticals_c] 48 :: Lf) w) := by
  unfold gauge_Gauging_widths at hF
  refine fnIn (args := [.agg #[.int .i64 g.Left, .int .i64 g.Right, .slice g_Verticals_p g.Verticals.length g_Verticals_c]]) Try.func70 rfl Try.ntmps70 rfl fun a hf => ?_
  refine wp_seq_k fun K1 h1 => ?_
  refine cReg ?_
  refine stBx (cs := [.int .i64 g.Left, .int .i64 g.Right, .slice g_Verticals_p g.Verticals.length g_Verticals_c]) hf hc rfl rfl rfl rfl fun b_1 a w hf hc => ?_
  refine stP hf rfl rfl rfl (pA rfl) fun a hf => ?_
  refine cNil ?_
  refine h1 _ _ ?_
  refine wp_seq_k fun K2 h2 => ?_
  refine cReg ?_
  refine stP hf rfl rfl rfl (pMF (us := [.pointer (some ⟨b_1, 0, none⟩)]) rfl rfl) fun a hf => ?_
  refine stP hf rfl rfl rfl (pA rfl) fun a hf => ?_
  refine cNil ?_
  refine h2 _ _ ?_
  refine wp_ret ?_
  obtain rfl := Option.some.inj hF
  exact fnOut1 (by simp) rfl Try.results70 hf hc (show look _ 2 = _ from rfl) ⟨b_1, rfl, hc⟩

def gauge_Gauging_widths_1_j10 (N : Nat) {σ : Type} (y : σ → (gauge_Vertical × Int) → Option (σ × Bool)) (x_0 : Int) (sg : σ) (e_1 : gauge_Vertical) (from_ : Int) (to_ : Int) : Option (Step (Int × σ) (σ)) :=
  Option.bind (y sg (e_1, W (to_ - from_))) fun ry =>
  cond (!ry.2)
  (some (.ret ry.1))
  (some (.cont (W (x_0 + 1), ry.1)))
def gauge_Gauging_widths_1_j9 (N : Nat) {σ : Type} (x : gauge_Gauging) (y : σ → (gauge_Vertical × Int) → Option (σ × Bool)) (x_0 : Int) (sg : σ) (e_1 : gauge_Vertical) (from_ : Int) : Option (Step (Int × σ) (σ)) :=
  cond (decide ((W (x_0 + 1)) < ((x.Verticals.length : Nat) : Int)))
  (Option.bind (getI x.Verticals (W (x_0 + 1))) fun e_2 =>
  gauge_Gauging_widths_1_j10 N y x_0 sg e_1 from_ e_2.At)
  (gauge_Gauging_widths_1_j10 N y x_0 sg e_1 from_ x.Right)
def gauge_Gauging_widths_1_b3 (N : Nat) {σ : Type} (x : gauge_Gauging) (y : σ → (gauge_Vertical × Int) → Option (σ × Bool)) (x_0 : Int) (sg : σ) : Option (Step (Int × σ) (σ)) :=
  cond (decide (x_0 < ((x.Verticals.length : Nat) : Int)))
  (Option.bind (getI x.Verticals x_0) fun e_1 =>
  cond (decide (0 < x_0))
  (Option.bind (getI x.Verticals (W (x_0 - 1))) fun e_3 =>
  gauge_Gauging_widths_1_j9 N x y x_0 sg e_1 e_3.At)
  (gauge_Gauging_widths_1_j9 N x y x_0 sg e_1 x.Left))
  (some (.brk (x_0, sg)))
def gauge_Gauging_widths_1 (N : Nat) {σ : Type} (x : gauge_Gauging) (y : σ → (gauge_Vertical × Int) → Option (σ × Bool)) (sg0 : σ) : Option (σ) :=
  Option.bind (loopO (fun s3 => gauge_Gauging_widths_1_b3 N x y s3.1 s3.2) N (0, sg0)) fun x3 =>
  exK x3 (fun s3 => some s3.2) some
theorem gauge_Gauging_widths_1_ok {N : Nat} {G : Pers} {Lf : List Ent} {w : World} {σ : Type} (x : gauge_Gauging) {b_ : Nat} {x_Verticals_p : Option Addr} {x_Verticals_c : Nat} (h_x_Verticals : Rd G 5 x_Verticals_p x_Verticals_c (x.Verticals.map enc_gauge_Vertical)) (J : σ → List Ent → Prop) (y : σ → (gauge_Vertical × Int) → Option (σ × Bool)) {l : Nat} (hy : YieldsTo Try.prog G l (fun x : (gauge_Vertical × Int) => [.agg #[.int .i64 x.1.At, .int .i64 x.1.Depth.Lo, .int .i64 x.1.Depth.Hi, .int .i64 x.1.Speed.Lo, .int .i64 x.1.Speed.Hi], .int .i64 x.2]) J y) (sg0 : σ) {Ls0 : List Ent} (hJ0 : J sg0 Ls0) (hc : Ctx G (.box b_ [.int .i64 x.Left, .int .i64 x.Right, .slice x_Verticals_p x.Verticals.length x_Verticals_c] 48 :: (Ls0 ++ Lf)) w) {res : σ} (hF : gauge_Gauging_widths_1 N x y sg0 = some res) : Calls Try.prog 103 #[.func (.yield l) #[] #[], .pointer (some ⟨b_, 0, none⟩)] w (fun e w => (∃ v, e = .returned v) ∧ ∃ L, J res L ∧ Ctx G (.box b_ [.int .i64 x.Left, .int .i64 x.Right, .slice x_Verticals_p x.Verticals.length x_Verticals_c] 48 :: (L ++ Lf)) w) := by
  unfold gauge_Gauging_widths_1 at hF
  refine fnIn (args := [.func (.yield l) #[] #[], .pointer (some ⟨b_, 0, none⟩)]) Try.func103 rfl Try.ntmps103 rfl fun a hf => ?_
  refine wp_seq_k fun K1 h1 => ?_
  refine cReg ?_
  refine stP hf rfl rfl rfl (pFA fa_48_2 rfl) fun a hf => ?_
  refine stE hf hc rfl rfl rfl (eLd1 sc_46 rfl (cell_box m0 rfl)) fun a w hf hc => ?_
  refine stP hf rfl rfl rfl (pLenS Try.underlying46 rfl) fun a hf => ?_
  refine stP hf rfl rfl rfl (pM rfl) fun a hf => ?_
  refine cNil ?_
  refine h1 _ _ ?_
  refine wp_thenK fun K2 h2 => ?_
  refine wp_block ?_
  obtain ⟨x3, hx3, hF⟩ := bnd_some hF
  let S3 : (Int × σ) → Act → World → Prop := (fun (zz : Int × σ) a w => ∃ (Ls : List Ent), J zz.2 Ls ∧ Has 49 a [(0, .func (.yield l) #[] #[]), (1, .pointer (some ⟨b_, 0, none⟩)), (8, .slice x_Verticals_p x.Verticals.length x_Verticals_c), (9, .int .i64 ((x.Verticals.length : Nat) : Int)), (10, .int .i64 zz.1)] ∧ Ctx G (.box b_ [.int .i64 x.Left, .int .i64 x.Right, .slice x_Verticals_p x.Verticals.length x_Verticals_c] 48 :: (Ls ++ Lf)) w)
  have hr3 : ∀ (zz : Int × σ) a w, x3 = .go zz → S3 zz a w → K2 a w := by
    rintro ⟨x_0, sg⟩ a w rfl ⟨Ls, hJ, hf, hc⟩
    replace hF : _ = some res := hF
    refine h2 _ _ ?_
    obtain rfl := Option.some.inj hF
    exact fnOut0 (by simp) rfl Try.results103 hf ⟨⟨_, rfl⟩, Ls, hJ, hc⟩
  have ho3 : ∀ r, x3 = .out r → r = res := by
    rintro r rfl
    exact Option.some.inj hF
  refine cLoop N (loopW (S := S3) (x := x3) ?_ N (0, sg0) _ _ ⟨Ls0, hJ0, hf.keep ⟨rfl, rfl, rfl, rfl, rfl, trivial⟩, hc⟩ hx3)
  clear hF hf hc
  rintro ⟨x_0, sg⟩ st3 a w KB3 ⟨Ls, hJ, hf, hc⟩ hF hfin3 hK3
  unfold gauge_Gauging_widths_1_b3 at hF
  refine wp_seq_k fun K4 h4 => ?_
  refine cReg ?_
  refine stP hf rfl rfl rfl (pLt rfl rfl) fun a hf => ?_
  refine cNil ?_
  refine h4 _ _ ?_
  refine wp_seq_k fun K5 h5 => ?_
  refine cCond (b := (decide (x_0 < ((x.Verticals.length : Nat) : Int)))) hf rfl (fun hb => ?_) (fun hb => ?_)
  · replace hF := condT hb hF
    clear hb
    refine wp_skip ?_
    refine h5 _ _ ?_
    refine wp_seq_k fun K6 h6 => ?_
    refine wp_block ?_
    refine wp_seq_k fun K7 h7 => ?_
    refine cReg ?_
    refine stP hf rfl rfl rfl (pM rfl) fun a hf => ?_
    obtain ⟨e_1, he_1, hF⟩ := bnd_some hF
    obtain ⟨b_1, o, qa, qp⟩ := h_x_Verticals.atm he_1
    refine stP hf rfl rfl rfl (pIA Try.underlying46 sz_61 rfl rfl qa) fun a hf => ?_
    refine stE hf hc rfl rfl rfl (eLdN (vs := [.int .i64 e_1.At, .int .i64 e_1.Depth.Lo, .int .i64 e_1.Depth.Hi, .int .i64 e_1.Speed.Lo, .int .i64 e_1.Speed.Hi]) ag_61 rfl rfl (cells_pc qp (n := 5) (o' := 0) rfl)) fun a w hf hc => ?_
    refine stAl (cs := [.int .i64 0, .int .i64 0, .int .i64 0, .int .i64 0, .int .i64 0]) hf hc rfl rfl zr_61 rfl fun b_2 a w hf hc => ?_
    refine stP hf rfl rfl rfl (pA rfl) fun a hf => ?_
    refine stSt (vs := [.int .i64 e_1.At, .int .i64 e_1.Depth.Lo, .int .i64 e_1.Depth.Hi, .int .i64 e_1.Speed.Lo, .int .i64 e_1.Speed.Hi]) hf hc rfl rfl rfl rfl sz_61 rfl rfl u0 fun w hc => ?_
    refine cNil ?_
    refine h7 _ _ ?_
    refine wp_seq_k fun K8 h8 => ?_
    refine cQ hc follows_mx (by kernel_rfl) ?_
    refine qE hf rfl rfl rfl (Pu.ev (pFA fa_48_0 rfl)) fun a hf => ?_
    refine qE hf rfl rfl rfl (eLd1 sc_3 rfl (cell_box m1 rfl)) fun a hf => ?_
    refine qE hf rfl rfl rfl (Pu.ev (pFA fa_48_1 rfl)) fun a hf => ?_
    refine qE hf rfl rfl rfl (eLd1 sc_3 rfl (cell_box m1 rfl)) fun a hf => ?_
    refine qE hf rfl rfl rfl (Pu.ev (pA rfl)) fun a hf => ?_
    refine qE hf rfl rfl rfl (Pu.ev (pA rfl)) fun a hf => ?_
    intro w hc
    refine h8 _ _ ?_
    refine wp_seq_k fun K9 h9 => ?_
    have hj9 : ∀ (from_ : Int) a w, Has 49 a [(0, .func (.yield l) #[] #[]), (1, .pointer (some ⟨b_, 0, none⟩)), (3, .int .i64 x_0), (4, .pointer (some ⟨b_2, 0, none⟩)), (5, .int .i64 from_), (6, .int .i64 x.Right), (8, .slice x_Verticals_p x.Verticals.length x_Verticals_c), (9, .int .i64 ((x.Verticals.length : Nat) : Int)), (10, .int .i64 x_0)] → Ctx G (.box b_2 [.int .i64 e_1.At, .int .i64 e_1.Depth.Lo, .int .i64 e_1.Depth.Hi, .int .i64 e_1.Speed.Lo, .int .i64 e_1.Speed.Hi] 61 :: .box b_ [.int .i64 x.Left, .int .i64 x.Right, .slice x_Verticals_p x.Verticals.length x_Verticals_c] 48 :: (Ls ++ Lf)) w → gauge_Gauging_widths_1_j9 N x y x_0 sg e_1 from_ = some st3 → K9 a w := by
      intro from_ a w hf hc hF
      unfold gauge_Gauging_widths_1_j9 at hF
      refine h9 _ _ ?_
      refine wp_seq_k fun K10 h10 => ?_
      have hj10 : ∀ (to_ : Int) a w, Has 49 a [(0, .func (.yield l) #[] #[]), (1, .pointer (some ⟨b_, 0, none⟩)), (4, .pointer (some ⟨b_2, 0, none⟩)), (5, .int .i64 from_), (6, .int .i64 to_), (8, .slice x_Verticals_p x.Verticals.length x_Verticals_c), (9, .int .i64 ((x.Verticals.length : Nat) : Int)), (10, .int .i64 x_0)] → Ctx G (.box b_2 [.int .i64 e_1.At, .int .i64 e_1.Depth.Lo, .int .i64 e_1.Depth.Hi, .int .i64 e_1.Speed.Lo, .int .i64 e_1.Speed.Hi] 61 :: .box b_ [.int .i64 x.Left, .int .i64 x.Right, .slice x_Verticals_p x.Verticals.length x_Verticals_c] 48 :: (Ls ++ Lf)) w → gauge_Gauging_widths_1_j10 N y x_0 sg e_1 from_ to_ = some st3 → K10 a w := by
        intro to_ a w hf hc hF
        unfold gauge_Gauging_widths_1_j10 at hF
        refine h10 _ _ ?_
        refine wp_seq_k fun K11 h11 => ?_
        obtain ⟨ry, hry, hF⟩ := bnd_some hF
        refine yReg 5 (fun a w => Has 49 a [(0, .func (.yield l) #[] #[]), (1, .pointer (some ⟨b_, 0, none⟩)), (4, .pointer (some ⟨b_2, 0, none⟩)), (5, .int .i64 from_), (6, .int .i64 to_), (8, .slice x_Verticals_p x.Verticals.length x_Verticals_c), (9, .int .i64 ((x.Verticals.length : Nat) : Int)), (10, .int .i64 x_0), (41, .func (.yield l) #[] #[]), (42, .agg #[.int .i64 e_1.At, .int .i64 e_1.Depth.Lo, .int .i64 e_1.Depth.Hi, .int .i64 e_1.Speed.Lo, .int .i64 e_1.Speed.Hi]), (43, .int .i64 to_), (44, .int .i64 from_), (45, .int .i64 (W (to_ - from_)))] ∧ Ctx G (.box b_2 [.int .i64 e_1.At, .int .i64 e_1.Depth.Lo, .int .i64 e_1.Depth.Hi, .int .i64 e_1.Speed.Lo, .int .i64 e_1.Speed.Hi] 61 :: .box b_ [.int .i64 x.Left, .int .i64 x.Right, .slice x_Verticals_p x.Verticals.length x_Verticals_c] 48 :: (Ls ++ Lf)) w) (fun _ _ h => by obtain ⟨⟨_, h⟩, _⟩ := h; cases h) ?_ ?_
        · refine stP hf rfl rfl rfl (pM rfl) fun a hf => ?_
          refine stE hf hc rfl rfl rfl (eLdN (vs := [.int .i64 e_1.At, .int .i64 e_1.Depth.Lo, .int .i64 e_1.Depth.Hi, .int .i64 e_1.Speed.Lo, .int .i64 e_1.Speed.Hi]) ag_61 rfl rfl (cells_box (n := 5) m0 rfl)) fun a w hf hc => ?_
          refine stP hf rfl rfl rfl (pM rfl) fun a hf => ?_
          refine stP hf rfl rfl rfl (pM rfl) fun a hf => ?_
          refine stP hf rfl rfl rfl (pSub rfl rfl) fun a hf => ?_
          exact cNil ⟨hf.keep ⟨rfl, rfl, rfl, rfl, rfl, rfl, rfl, rfl, rfl, rfl, rfl, rfl, rfl, trivial⟩, hc⟩
        rintro a w ⟨hf, hc⟩
        refine stY (own := [.box b_2 [.int .i64 e_1.At, .int .i64 e_1.Depth.Lo, .int .i64 e_1.Depth.Hi, .int .i64 e_1.Speed.Lo, .int .i64 e_1.Speed.Hi] 61, .box b_ [.int .i64 x.Left, .int .i64 x.Right, .slice x_Verticals_p x.Verticals.length x_Verticals_c] 48]) (v := (e_1, W (to_ - from_))) hy hJ hry hf hc rfl rfl rfl rfl rfl fun a w Ls_1 hJ_1 hf hc => ?_
        replace hc : Ctx G (.box b_2 [.int .i64 e_1.At, .int .i64 e_1.Depth.Lo, .int .i64 e_1.Depth.Hi, .int .i64 e_1.Speed.Lo, .int .i64 e_1.Speed.Hi] 61 :: .box b_ [.int .i64 x.Left, .int .i64 x.Right, .slice x_Verticals_p x.Verticals.length x_Verticals_c] 48 :: (Ls_1 ++ Lf)) w := hc
        refine yRest (fun _ _ h => by obtain ⟨⟨_, h⟩, _⟩ := h; cases h) ?_
        refine stP hf rfl rfl rfl (pNot rfl) fun a hf => ?_
        refine cNil ?_
        refine h11 _ _ ?_
        refine cCond (b := (!ry.2)) hf rfl (fun hb => ?_) (fun hb => ?_)
        · replace hF := condT hb hF
          clear hb
          refine wp_ret ?_
          refine xBlkR ?_
          refine xThenR ?_
          refine xThenR ?_
          have he := Option.some.inj hF
          rw [← he] at hfin3
          replace hF := ho3 _ hfin3
          refine xBlkR ?_
          refine xThenR ?_
          obtain rfl := hF
          replace hc := hc.drop k0
          exact fnOut0 (by simp) rfl Try.results103 hf ⟨⟨_, rfl⟩, Ls_1, hJ_1, hc⟩
        · replace hF := condF hb hF
          clear hb
          refine wp_skip ?_
          refine h6 _ _ ?_
          refine cReg ?_
          refine stP hf rfl rfl rfl (pAdd rfl rfl) fun a hf => ?_
          refine stP hf rfl rfl rfl (pM rfl) fun a hf => ?_
          refine cNil ?_
          replace hc := hc.drop k0
          exact hK3 (W (x_0 + 1), ry.1) _ _ (Option.some.inj hF).symm ⟨Ls_1, hJ_1, hf.keep ⟨rfl, rfl, rfl, rfl, rfl, trivial⟩, hc⟩
      refine wp_seq_k fun K12 h12 => ?_
      refine cReg ?_
      refine stP hf rfl rfl rfl (pM rfl) fun a hf => ?_
      refine stP hf rfl rfl rfl (pAdd rfl rfl) fun a hf => ?_
      refine stP hf rfl rfl rfl (pFA fa_48_2 rfl) fun a hf => ?_
      refine stE hf hc rfl rfl rfl (eLd1 sc_46 rfl (cell_box m1 rfl)) fun a w hf hc => ?_
      refine stP hf rfl rfl rfl (pLenS Try.underlying46 rfl) fun a hf => ?_
      refine stP hf rfl rfl rfl (pLt rfl rfl) fun a hf => ?_
      refine cNil ?_
      refine h12 _ _ ?_
      refine cCond (b := (decide ((W (x_0 + 1)) < ((x.Verticals.length : Nat) : Int)))) hf rfl (fun hb => ?_) (fun hb => ?_)
      · replace hF := condT hb hF
        clear hb
        refine cReg ?_
        refine stP hf rfl rfl rfl (pFA fa_48_2 rfl) fun a hf => ?_
        refine stE hf hc rfl rfl rfl (eLd1 sc_46 rfl (cell_box m1 rfl)) fun a w hf hc => ?_
        refine stP hf rfl rfl rfl (pM rfl) fun a hf => ?_
        refine stP hf rfl rfl rfl (pAdd rfl rfl) fun a hf => ?_
        obtain ⟨e_2, he_2, hF⟩ := bnd_some hF
        obtain ⟨b_3, o_1, qa_1, qp_1⟩ := h_x_Verticals.atm he_2
        refine stP hf rfl rfl rfl (pIA Try.underlying46 sz_61 rfl rfl qa_1) fun a hf => ?_
        refine stP hf rfl rfl rfl (pFA fa_61_0 rfl) fun a hf => ?_
        refine stE hf hc rfl rfl rfl (eLd1 sc_3 rfl (cell_pc (j := 0) qp_1 rfl)) fun a w hf hc => ?_
        refine stP hf rfl rfl rfl (pA rfl) fun a hf => ?_
        refine cNil ?_
        exact hj10 e_2.At _ _  (hf.keep ⟨rfl, rfl, rfl, rfl, rfl, rfl, rfl, rfl, trivial⟩) hc hF
      · replace hF := condF hb hF
        clear hb
        refine wp_skip ?_
        exact hj10 x.Right _ _  (hf.keep ⟨rfl, rfl, rfl, rfl, rfl, rfl, rfl, rfl, trivial⟩) hc hF
    refine wp_seq_k fun K13 h13 => ?_
    refine cReg ?_
    refine stP hf rfl rfl rfl (pM rfl) fun a hf => ?_
    refine stP hf rfl rfl rfl (pGt rfl rfl) fun a hf => ?_
    refine cNil ?_
    refine h13 _ _ ?_
    refine cCond (b := (decide (0 < x_0))) hf rfl (fun hb => ?_) (fun hb => ?_)
    · replace hF := condT hb hF
      clear hb
      refine cReg ?_
      refine stP hf rfl rfl rfl (pFA fa_48_2 rfl) fun a hf => ?_
      refine stE hf hc rfl rfl rfl (eLd1 sc_46 rfl (cell_box m1 rfl)) fun a w hf hc => ?_
      refine stP hf rfl rfl rfl (pM rfl) fun a hf => ?_
      refine stP hf rfl rfl rfl (pSub rfl rfl) fun a hf => ?_
      obtain ⟨e_3, he_3, hF⟩ := bnd_some hF
      obtain ⟨b_4, o_2, qa_2, qp_2⟩ := h_x_Verticals.atm he_3
      refine stP hf rfl rfl rfl (pIA Try.underlying46 sz_61 rfl rfl qa_2) fun a hf => ?_
      refine stP hf rfl rfl rfl (pFA fa_61_0 rfl) fun a hf => ?_
      refine stE hf hc rfl rfl rfl (eLd1 sc_3 rfl (cell_pc (j := 0) qp_2 rfl)) fun a w hf hc => ?_
      refine stP hf rfl rfl rfl (pA rfl) fun a hf => ?_
      refine cNil ?_
      exact hj9 e_3.At _ _  (hf.keep ⟨rfl, rfl, rfl, rfl, rfl, rfl, rfl, rfl, rfl, trivial⟩) hc hF
    · replace hF := condF hb hF
      clear hb
      refine wp_skip ?_
      exact hj9 x.Left _ _  (hf.keep ⟨rfl, rfl, rfl, rfl, rfl, rfl, rfl, rfl, rfl, trivial⟩) hc hF
  · replace hF := condF hb hF
    clear hb
    refine wp_exit ?_
    refine xThen ?_
    refine xThen ?_
    have he := Option.some.inj hF
    rw [← he] at hfin3
    refine cHit ?_
    exact hr3 _ _ _ hfin3 ⟨Ls, hJ, hf.keep ⟨rfl, rfl, rfl, rfl, rfl, trivial⟩, hc⟩

def gauge_just (N : Nat) (n : Int) : Option (api_Span) :=
  some (⟨n, n⟩ : api_Span)
theorem gauge_just_ok {N : Nat} {G : Pers} {Lf : List Ent} {w : World} (n : Int)   (hc : Ctx G (Lf) w) {res : api_Span} (hF : gauge_just N n = some res) : Calls Try.prog 71 #[.int .i64 n] w (fun e w => e = .returned (.agg #[.int .i64 res.Lo, .int .i64 res.Hi]) ∧ Ctx G (Lf) w) := by
  unfold gauge_just at hF
  refine fnIn (args := [.int .i64 n]) Try.func71 rfl Try.ntmps71 rfl fun a hf => ?_
  refine wp_seq_k fun K1 h1 => ?_
  refine cReg ?_
  refine stAl (cs := [.int .i64 0, .int .i64 0]) hf hc rfl rfl zr_24 rfl fun b_1 a w hf hc => ?_
  refine cNil ?_
  refine h1 _ _ ?_
  refine wp_seq_k fun K2 h2 => ?_
  refine cReg ?_
  refine stP hf rfl rfl rfl (pM rfl) fun a hf => ?_
  refine stP hf rfl rfl rfl (pM rfl) fun a hf => ?_
  refine stP hf rfl rfl rfl (pBuildS (cells := [.int .i64 n, .int .i64 n]) bt_24 rfl rfl) fun a hf => ?_
  refine stSt (vs := [.int .i64 n, .int .i64 n]) hf hc rfl rfl rfl rfl sz_24 rfl rfl u0 fun w hc => ?_
  refine cNil ?_
  refine h2 _ _ ?_
  refine wp_ret ?_
  obtain rfl := Option.some.inj hF
  exact fnOut1 (by simp) rfl Try.results71 hf hc (rv_cellN (vs := [.int .i64 n, .int .i64 n]) ag_24 rfl rfl (cells_box (n := 2) m0 rfl)) ⟨rfl, (hc.drop k0)⟩

def gauge_times_b5 (N : Nat) (l : List api_Span) (x : Int) (x_1 : Int) (x_2 : Int) : Option (Step (Int × Int × Int) (api_Span)) :=
  cond (decide (x < ((l.length : Nat) : Int)))
  (Option.bind (getI l x) fun e_1 =>
  some (.cont (W (x + 1), min (min (min (W (x_1 * e_1.Lo)) (W (x_1 * e_1.Hi))) (W (x_2 * e_1.Lo))) (W (x_2 * e_1.Hi)), max (max (max (W (x_1 * e_1.Lo)) (W (x_1 * e_1.Hi))) (W (x_2 * e_1.Lo))) (W (x_2 * e_1.Hi)))))
  (some (.brk (x, x_1, x_2)))
def gauge_times (N : Nat) (l : List api_Span) : Option (api_Span) :=
  Option.bind (loopO (fun s5 => gauge_times_b5 N l s5.1 s5.2.1 s5.2.2) N (0, 1, 1)) fun x5 =>
  exK x5 (fun s5 => some (⟨s5.2.1, s5.2.2⟩ : api_Span)) some
theorem gauge_times_ok {N : Nat} {G : Pers} {Lf : List Ent} {w : World} (l : List api_Span) {l_p : Option Addr} {l_c : Nat} (h_l : Rd G 2 l_p l_c (l.map enc_api_Span)) (hc : Ctx G (Lf) w) {res : api_Span} (hF : gauge_times N l = some res) : Calls Try.prog 59 #[.slice l_p l.length l_c] w (fun e w => e = .returned (.agg #[.int .i64 res.Lo, .int .i64 res.Hi]) ∧ Ctx G (Lf) w) := by
  unfold gauge_times at hF
  refine fnIn (args := [.slice l_p l.length l_c]) Try.func59 rfl Try.ntmps59 rfl fun a hf => ?_
  refine wp_seq_k fun K1 h1 => ?_
  refine cReg ?_
  refine stAl (cs := [.int .i64 0, .int .i64 0]) hf hc rfl rfl zr_24 rfl fun b_1 a w hf hc => ?_
  refine cNil ?_
  refine h1 _ _ ?_
  refine wp_seq_k fun K2 h2 => ?_
  refine cReg ?_
  refine stP hf rfl rfl rfl (pBuildS (cells := [.int .i64 1, .int .i64 1]) bt_24 rfl rfl) fun a hf => ?_
  refine stAl (cs := [.int .i64 0, .int .i64 0]) hf hc rfl rfl zr_24 rfl fun b_2 a w hf hc => ?_
  refine stSt (vs := [.int .i64 1, .int .i64 1]) hf hc rfl rfl rfl rfl sz_24 rfl rfl u0 fun w hc => ?_
  refine cNil ?_
  refine h2 _ _ ?_
  refine wp_seq_k fun K3 h3 => ?_
  refine wp_seq_k fun K4 h4 => ?_
  refine cReg ?_
  refine stP hf rfl rfl rfl (pM rfl) fun a hf => ?_
  refine stP hf rfl rfl rfl (pLenS Try.underlying72 rfl) fun a hf => ?_
  refine stP hf rfl rfl rfl (pM rfl) fun a hf => ?_
  refine cNil ?_
  refine h4 _ _ ?_
  refine wp_block ?_
  obtain ⟨x5, hx5, hF⟩ := bnd_some hF
  let S5 : (Int × Int × Int) → Act → World → Prop := (fun (zz : Int × Int × Int) a w => Has 50 a [(2, .pointer (some ⟨b_1, 0, none⟩)), (3, .pointer (some ⟨b_2, 0, none⟩)), (11, .slice l_p l.length l_c), (12, .int .i64 ((l.length : Nat) : Int)), (13, .int .i64 zz.1)] ∧ Ctx G (.box b_2 [.int .i64 zz.2.1, .int .i64 zz.2.2] 24 :: .box b_1 [.int .i64 0, .int .i64 0] 24 :: Lf) w)
  have hr5 : ∀ (zz : Int × Int × Int) a w, x5 = .go zz → S5 zz a w → K3 a w := by
    rintro ⟨x, x_1, x_2⟩ a w rfl ⟨hf, hc⟩
    replace hF : _ = some res := hF
    refine h3 _ _ ?_
    refine wp_seq_k fun K6 h6 => ?_
    refine cReg ?_
    refine stE hf hc rfl rfl rfl (eLdN (vs := [.int .i64 x_1, .int .i64 x_2]) ag_24 rfl rfl (cells_box (n := 2) m0 rfl)) fun a w hf hc => ?_
    refine stSt (vs := [.int .i64 x_1, .int .i64 x_2]) hf hc rfl rfl rfl rfl sz_24 rfl rfl u1 fun w hc => ?_
    refine cNil ?_
    refine h6 _ _ ?_
    refine wp_ret ?_
    obtain rfl := Option.some.inj hF
    replace hc := hc.drop k0
    exact fnOut1 (by simp) rfl Try.results59 hf hc (rv_cellN (vs := [.int .i64 x_1, .int .i64 x_2]) ag_24 rfl rfl (cells_box (n := 2) m0 rfl)) ⟨rfl, (hc.drop k0)⟩
  have ho5 : ∀ r, x5 = .out r → r = res := by
    rintro r rfl
    exact Option.some.inj hF
  refine cLoop N (loopW (S := S5) (x := x5) ?_ N (0, 1, 1) _ _ ⟨hf.keep ⟨rfl, rfl, rfl, rfl, rfl, trivial⟩, hc⟩ hx5)
  clear hF hf hc
  rintro ⟨x, x_1, x_2⟩ st5 a w KB5 ⟨hf, hc⟩ hF hfin5 hK5
  unfold gauge_times_b5 at hF
  refine wp_seq_k fun K7 h7 => ?_
  refine cReg ?_
  refine stP hf rfl rfl rfl (pLt rfl rfl) fun a hf => ?_
  refine cNil ?_
  refine h7 _ _ ?_
  refine wp_seq_k fun K8 h8 => ?_
  refine cCond (b := (decide (x < ((l.length : Nat) : Int)))) hf rfl (fun hb => ?_) (fun hb => ?_)
  · replace hF := condT hb hF
    clear hb
    refine wp_skip ?_
    refine h8 _ _ ?_
    refine wp_seq_k fun K9 h9 => ?_
    refine wp_block ?_
    refine wp_seq_k fun K10 h10 => ?_
    refine cReg ?_
    obtain ⟨e_1, he_1, hF⟩ := bnd_some hF
    obtain ⟨b_3, o, qa, qp⟩ := h_l.atm he_1
    refine stP hf rfl rfl rfl (pIA Try.underlying72 sz_24 rfl rfl qa) fun a hf => ?_
    refine stE hf hc rfl rfl rfl (eLdN (vs := [.int .i64 e_1.Lo, .int .i64 e_1.Hi]) ag_24 rfl rfl (cells_pc qp (n := 2) (o' := 0) rfl)) fun a w hf hc => ?_
    refine stAl (cs := [.int .i64 0, .int .i64 0]) hf hc rfl rfl zr_24 rfl fun b_4 a w hf hc => ?_
    refine stSt (vs := [.int .i64 e_1.Lo, .int .i64 e_1.Hi]) hf hc rfl rfl rfl rfl sz_24 rfl rfl u0 fun w hc => ?_
    refine cNil ?_
    refine h10 _ _ ?_
    refine wp_seq_k fun K11 h11 => ?_
    refine cQ hc follows_mx (by kernel_rfl) ?_
    refine qE hf rfl rfl rfl (Pu.ev (pFA fa_24_0 rfl)) fun a hf => ?_
    refine qE hf rfl rfl rfl (eLd1 sc_3 rfl (cell_box m1 rfl)) fun a hf => ?_
    refine qE hf rfl rfl rfl (Pu.ev (pFA fa_24_0 rfl)) fun a hf => ?_
    refine qE hf rfl rfl rfl (eLd1 sc_3 rfl (cell_box m0 rfl)) fun a hf => ?_
    refine qE hf rfl rfl rfl (Pu.ev (pMul rfl rfl)) fun a hf => ?_
    refine qE hf rfl rfl rfl (Pu.ev (pFA fa_24_0 rfl)) fun a hf => ?_
    refine qE hf rfl rfl rfl (eLd1 sc_3 rfl (cell_box m1 rfl)) fun a hf => ?_
    refine qE hf rfl rfl rfl (Pu.ev (pFA fa_24_1 rfl)) fun a hf => ?_
    refine qE hf rfl rfl rfl (eLd1 sc_3 rfl (cell_box m0 rfl)) fun a hf => ?_
    refine qE hf rfl rfl rfl (Pu.ev (pMul rfl rfl)) fun a hf => ?_
    refine qE hf rfl rfl rfl (Pu.ev (pFA fa_24_1 rfl)) fun a hf => ?_
    refine qE hf rfl rfl rfl (eLd1 sc_3 rfl (cell_box m1 rfl)) fun a hf => ?_
    refine qE hf rfl rfl rfl (Pu.ev (pFA fa_24_0 rfl)) fun a hf => ?_
    refine qE hf rfl rfl rfl (eLd1 sc_3 rfl (cell_box m0 rfl)) fun a hf => ?_
    refine qE hf rfl rfl rfl (Pu.ev (pMul rfl rfl)) fun a hf => ?_
    refine qE hf rfl rfl rfl (Pu.ev (pFA fa_24_1 rfl)) fun a hf => ?_
    refine qE hf rfl rfl rfl (eLd1 sc_3 rfl (cell_box m1 rfl)) fun a hf => ?_
    refine qE hf rfl rfl rfl (Pu.ev (pFA fa_24_1 rfl)) fun a hf => ?_
    refine qE hf rfl rfl rfl (eLd1 sc_3 rfl (cell_box m0 rfl)) fun a hf => ?_
    refine qE hf rfl rfl rfl (Pu.ev (pMul rfl rfl)) fun a hf => ?_
    refine qE hf rfl rfl rfl (Pu.ev (pA rfl)) fun a hf => ?_
    refine qE hf rfl rfl rfl (Pu.ev (pA rfl)) fun a hf => ?_
    refine qE hf rfl rfl rfl (Pu.ev (pA rfl)) fun a hf => ?_
    refine qE hf rfl rfl rfl (Pu.ev (pA rfl)) fun a hf => ?_
    intro w hc
    refine h11 _ _ ?_
    refine cReg ?_
    refine stP hf rfl rfl rfl (pM rfl) fun a hf => ?_
    refine stP hf rfl rfl rfl (pM rfl) fun a hf => ?_
    refine stP hf rfl rfl rfl (pM rfl) fun a hf => ?_
    refine stP hf rfl rfl rfl (pM rfl) fun a hf => ?_
    refine stP hf rfl rfl rfl (pMin4 rfl rfl rfl rfl) fun a hf => ?_
    refine stP hf rfl rfl rfl (pM rfl) fun a hf => ?_
    refine stP hf rfl rfl rfl (pM rfl) fun a hf => ?_
    refine stP hf rfl rfl rfl (pM rfl) fun a hf => ?_
    refine stP hf rfl rfl rfl (pM rfl) fun a hf => ?_
    refine stP hf rfl rfl rfl (pMax4 rfl rfl rfl rfl) fun a hf => ?_
    refine stP hf rfl rfl rfl (pBuildS (cells := [.int .i64 (min (min (min (W (x_1 * e_1.Lo)) (W (x_1 * e_1.Hi))) (W (x_2 * e_1.Lo))) (W (x_2 * e_1.Hi))), .int .i64 (max (max (max (W (x_1 * e_1.Lo)) (W (x_1 * e_1.Hi))) (W (x_2 * e_1.Lo))) (W (x_2 * e_1.Hi)))]) bt_24 rfl rfl) fun a hf => ?_
    refine stSt (vs := [.int .i64 (min (min (min (W (x_1 * e_1.Lo)) (W (x_1 * e_1.Hi))) (W (x_2 * e_1.Lo))) (W (x_2 * e_1.Hi))), .int .i64 (max (max (max (W (x_1 * e_1.Lo)) (W (x_1 * e_1.Hi))) (W (x_2 * e_1.Lo))) (W (x_2 * e_1.Hi)))]) hf hc rfl rfl rfl rfl sz_24 rfl rfl u1 fun w hc => ?_
    refine cNil ?_
    refine h9 _ _ ?_
    refine cReg ?_
    refine stP hf rfl rfl rfl (pAdd rfl rfl) fun a hf => ?_
    refine stP hf rfl rfl rfl (pM rfl) fun a hf => ?_
    refine cNil ?_
    replace hc := hc.drop k0
    exact hK5 (W (x + 1), min (min (min (W (x_1 * e_1.Lo)) (W (x_1 * e_1.Hi))) (W (x_2 * e_1.Lo))) (W (x_2 * e_1.Hi)), max (max (max (W (x_1 * e_1.Lo)) (W (x_1 * e_1.Hi))) (W (x_2 * e_1.Lo))) (W (x_2 * e_1.Hi))) _ _ (Option.some.inj hF).symm ⟨hf.keep ⟨rfl, rfl, rfl, rfl, rfl, trivial⟩, hc⟩
  · replace hF := condF hb hF
    clear hb
    refine wp_exit ?_
    refine xThen ?_
    refine xThen ?_
    have he := Option.some.inj hF
    rw [← he] at hfin5
    refine cHit ?_
    exact hr5 _ _ _ hfin5 ⟨hf.keep ⟨rfl, rfl, rfl, rfl, rfl, trivial⟩, hc⟩

def gauge_Panels_r9 (N : Nat) (x : List api_Span) (xv : gauge_Vertical) (xv_1 : Int) : Option (Rs ((List api_Span))) :=
  Option.bind (gauge_just N xv_1) fun r_2 =>
  Option.bind (gauge_times N ([r_2, xv.Depth, xv.Speed] : List api_Span)) fun r_3 =>
  Option.bind (room ((x ++ [r_3])).length) fun un =>
  some (.go (x ++ [r_3]))
def gauge_Panels (N : Nat) (g : gauge_Gauging) : Option ((List api_Span) × Int) :=
  Option.bind (gauge_Check N g) fun r =>
  cond (r != 0)
  (some (([] : List api_Span), r))
  (Option.bind (gauge_Gauging_widths N g) fun r_1 =>
  Option.bind (gauge_Gauging_widths_1 N (⟨r_1.1, r_1.2, g.Verticals⟩ : gauge_Gauging) (rY (fun (zz : (List api_Span)) (x : (gauge_Vertical × Int)) => gauge_Panels_r9 N zz x.1 x.2)) (.go ([] : List api_Span))) fun x9 =>
  rsK x9 (fun zz => some (zz, 0)) (fun zz => none))
theorem gauge_Panels_ok {N : Nat} {G : Pers} {Lf : List Ent} {w : World} (g : gauge_Gauging) {g_Verticals_p : Option Addr} {g_Verticals_c : Nat} (h_g_Verticals : Rd G 5 g_Verticals_p g_Verticals_c (g.Verticals.map enc_gauge_Vertical)) (hc : Ctx G (Lf) w) {res : (List api_Span) × Int} (hF : gauge_Panels N g = some res) : Calls Try.prog 31 #[.agg #[.int .i64 g.Left, .int .i64 g.Right, .slice g_Verticals_p g.Verticals.length g_Verticals_c]] w (fun e w => ∃ (p'1 : Option Addr) (c'1 : Nat), e = .returned (.tuple #[.slice p'1 res.1.length c'1, .int .i64 res.2]) ∧ Ctx G (.row p'1 c'1 (res.1.map enc_api_Span) 24 2 :: Lf) w) := by
  unfold gauge_Panels at hF
  refine fnInM (args := [.agg #[.int .i64 g.Left, .int .i64 g.Right, .slice g_Verticals_p g.Verticals.length g_Verticals_c]]) Try.func31 rfl Try.ntmps31 rfl fun a hf => ?_
  refine wp_seq_k fun K1 h1 => ?_
  refine cReg ?_
  refine stBx (cs := [.int .i64 g.Left, .int .i64 g.Right, .slice g_Verticals_p g.Verticals.length g_Verticals_c]) hf hc rfl rfl rfl rfl fun b_1 a w hf hc => ?_
  refine stP hf rfl rfl rfl (pA rfl) fun a hf => ?_
  refine stP hf rfl rfl rfl (pA rfl) fun a hf => ?_
  refine cNil ?_
  refine h1 _ _ ?_
  refine wp_seq_k fun K2 h2 => ?_
  refine wp_seq_k fun K3 h3 => ?_
  refine cReg ?_
  refine stE hf hc rfl rfl rfl (eLdN (vs := [.int .i64 g.Left, .int .i64 g.Right, .slice g_Verticals_p g.Verticals.length g_Verticals_c]) ag_48 rfl rfl (cells_box (n := 3) m0 rfl)) fun a w hf hc => ?_
  obtain ⟨r, hr, hF⟩ := bnd_some hF
  refine stE hf hc rfl rfl rfl (eC (v := .int .i64 r) (vs := [.agg #[.int .i64 g.Left, .int .i64 g.Right, .slice g_Verticals_p g.Verticals.length g_Verticals_c]]) (caps := []) en_69 rfl rfl rfl rfl (fun w hc => gauge_Check_ok g h_g_Verticals hc hr)) fun a w hf hc => ?_
  refine stP hf rfl rfl rfl (pA rfl) fun a hf => ?_
  refine cNil ?_
  refine h3 _ _ ?_
  refine wp_seq_k fun K4 h4 => ?_
  refine cReg ?_
  refine stP hf rfl rfl rfl (pM rfl) fun a hf => ?_
  refine stP hf rfl rfl rfl (pNe rfl rfl) fun a hf => ?_
  refine cNil ?_
  refine h4 _ _ ?_
  refine cCond (b := (r != 0)) hf rfl (fun hb => ?_) (fun hb => ?_)
  · replace hF := condT hb hF
    clear hb
    refine wp_seq_k fun K5 h5 => ?_
    refine cReg ?_
    refine stP hf rfl rfl rfl (pM rfl) fun a hf => ?_
    refine stP hf rfl rfl rfl (pA rfl) fun a hf => ?_
    refine stP hf rfl rfl rfl (pA rfl) fun a hf => ?_
    refine cNil ?_
    refine h5 _ _ ?_
    refine wp_ret ?_
    refine xThenR ?_
    obtain rfl := Option.some.inj hF
    replace hc := hc.nilRow 24 2
    replace hc := hc.drop k1
    refine outM hf ?_
    exact outM2 Try.results31 hf hc (show look _ 2 = _ from rfl) (show look _ 3 = _ from rfl) ⟨none, 0, rfl, hc⟩
  · replace hF := condF hb hF
    clear hb
    refine wp_skip ?_
    refine h2 _ _ ?_
    refine wp_seq_k fun K6 h6 => ?_
    refine cReg ?_
    refine stAl (cs := [.slice none 0 0]) hf hc rfl rfl zr_72 rfl fun b_2 a w hf hc => ?_
    refine cNil ?_
    refine h6 _ _ ?_
    refine wp_seq_k fun K7 h7 => ?_
    refine wp_seq_k fun K8 h8 => ?_
    refine cReg ?_
    refine stE hf hc rfl rfl rfl (eLdN (vs := [.int .i64 g.Left, .int .i64 g.Right, .slice g_Verticals_p g.Verticals.length g_Verticals_c]) ag_48 rfl rfl (cells_box (n := 3) m1 rfl)) fun a w hf hc => ?_
    obtain ⟨r_1, hr_1, hF⟩ := bnd_some hF
    refine stC (vs := [.agg #[.int .i64 g.Left, .int .i64 g.Right, .slice g_Verticals_p g.Verticals.length g_Verticals_c]]) (caps := []) hf rfl rfl rfl en_70 rfl rfl rfl rfl (gauge_Gauging_widths_ok g h_g_Verticals hc hr_1) ?_
    rintro _ w ⟨b_3, rfl, hc⟩
    refine ⟨_, rfl, fun a hf => ?_⟩
    refine cNil ?_
    refine h8 _ _ ?_
    obtain ⟨x9, hx9, hF⟩ := bnd_some hF
    replace hc := hc.nilRow 24 2
    replace hc := hc.drop k3
    replace hc := hc.pick k0
    replace hc := hc.pick k1
    refine cRange (C := [.box b_3 [.int .i64 r_1.1, .int .i64 r_1.2, .slice g_Verticals_p g.Verticals.length g_Verticals_c] 48]) (C2 := [.box b_3 [.int .i64 r_1.1, .int .i64 r_1.2, .slice g_Verticals_p g.Verticals.length g_Verticals_c] 48]) (L0 := [.row none 0 ((([] : List api_Span)).map enc_api_Span) 24 2, .box b_2 [.slice none (([] : List api_Span)).length 0] 72]) (Lf := Lf) (encs := fun x : (gauge_Vertical × Int) => [.agg #[.int .i64 x.1.At, .int .i64 x.1.Depth.Lo, .int .i64 x.1.Depth.Hi, .int .i64 x.1.Speed.Lo, .int .i64 x.1.Speed.Hi], .int .i64 x.2]) (fun (zz : (List api_Span)) L => ∃ (p_1 : Option Addr) (c_1 : Nat), L = [.row p_1 c_1 (zz.map enc_api_Span) 24 2, .box b_2 [.slice p_1 zz.length c_1] 72]) (fun (zz : (List api_Span)) (x : (gauge_Vertical × Int)) => gauge_Panels_r9 N zz x.1 x.2) ([] : List api_Span) x9 hf hc rfl en_103 (fun _ => rfl) rfl ⟨none, 0, rfl⟩ ?_ ?_ ?_ ?_
    · intro l m J L Lx w hy hJ hc
      exact gauge_Gauging_widths_1_ok (⟨r_1.1, r_1.2, g.Verticals⟩ : gauge_Gauging) h_g_Verticals J _ hy _ hJ hc hx9
    · clear hF hf hc
      rintro l m x ⟨xv, xv_1⟩ o _ Lr Lb a w hK0 ⟨p_1, c_1, rfl⟩ hF hf hc hK
      replace hf : Has 29 a [(5, .pointer (some ⟨b_2, 0, none⟩)), (15, .agg #[.int .i64 xv.At, .int .i64 xv.Depth.Lo, .int .i64 xv.Depth.Hi, .int .i64 xv.Speed.Lo, .int .i64 xv.Speed.Hi]), (16, .int .i64 xv_1)] := hf.keep ⟨rfl, rfl, rfl, trivial⟩
      replace hc : Ctx G (.row p_1 c_1 (x.map enc_api_Span) 24 2 :: .box b_2 [.slice p_1 x.length c_1] 72 :: Lr) w := hc
      replace hF : gauge_Panels_r9 N x xv xv_1 = some o := hF
      unfold gauge_Panels_r9 at hF
      refine rSeq fun K10 h10 => ?_
      refine rReg (fun _ _ h => h) rfl ?_
      refine stAl (cs := [.int .i64 0, .int .i64 0, .int .i64 0, .int .i64 0, .int .i64 0]) hf hc rfl rfl zr_61 rfl fun b_4 a w hf hc => ?_
      refine stSt (vs := [.int .i64 xv.At, .int .i64 xv.Depth.Lo, .int .i64 xv.Depth.Hi, .int .i64 xv.Speed.Lo, .int .i64 xv.Speed.Hi]) hf hc rfl rfl rfl rfl sz_61 rfl rfl u0 fun w hc => ?_
      refine cNil ?_
      refine h10 _ _ ?_
      refine rReg (fun _ _ h => h) rfl ?_
      refine stP hf rfl rfl rfl (pA rfl) fun a hf => ?_
      refine cNil ?_
      refine hK _ _ [.box b_4 [.int .i64 xv.At, .int .i64 xv.Depth.Lo, .int .i64 xv.Depth.Hi, .int .i64 xv.Speed.Lo, .int .i64 xv.Speed.Hi] 61, .row p_1 c_1 (x.map enc_api_Span) 24 2, .box b_2 [.slice p_1 x.length c_1] 72] hc fun w hc => ?_
      replace hc : Ctx G (.box b_4 [.int .i64 xv.At, .int .i64 xv.Depth.Lo, .int .i64 xv.Depth.Hi, .int .i64 xv.Speed.Lo, .int .i64 xv.Speed.Hi] 61 :: .row p_1 c_1 (x.map enc_api_Span) 24 2 :: .box b_2 [.slice p_1 x.length c_1] 72 :: Lb) w := hc
      refine rThenK fun K11 h11 => ?_
      refine rBlock ?_
      obtain ⟨r_2, hr_2, hF⟩ := bnd_some hF
      obtain ⟨r_3, hr_3, hF⟩ := bnd_some hF
      obtain ⟨un, hun, hF⟩ := bnd_some hF
      replace hc := hc.nilRow 0 0
      replace hc := hc.nilRow 0 0
      refine rRegE (fun _ _ h => h) rfl (fun θ => [⟨none, none, 5, .pointer (some ⟨b_2, 0, none⟩)⟩, ⟨none, none, 6, .pointer (some ⟨b_4, 0, none⟩)⟩, ⟨none, none, 7, .int .i64 xv_1⟩, ⟨some 0, none, 17, .slice p_1 x.length c_1⟩, ⟨some 1, none, 18, .int .i64 xv_1⟩, ⟨some 2, none, 19, .agg #[.int .i64 r_2.Lo, .int .i64 r_2.Hi]⟩, ⟨some 3, none, 20, .pointer (some ⟨b_4, 1, none⟩)⟩, ⟨some 4, none, 21, .agg #[.int .i64 xv.Depth.Lo, .int .i64 xv.Depth.Hi]⟩, ⟨some 5, none, 22, .pointer (some ⟨b_4, 3, none⟩)⟩, ⟨some 6, none, 23, .agg #[.int .i64 xv.Speed.Lo, .int .i64 xv.Speed.Hi]⟩, ⟨some 7, none, 24, .slice (some ⟨(θ 56).b, 0, none⟩) 3 3⟩, ⟨some 8, none, 25, .agg #[.int .i64 r_3.Lo, .int .i64 r_3.Hi]⟩, ⟨some 9, none, 26, .slice (some ⟨(θ 72).b, 0, none⟩) 1 1⟩, ⟨some 10, none, 27, .slice ((θ 80).p) ((x ++ [r_3]).length) ((θ 80).c)⟩]) (fun E θ => (bif E 9 then .row (some ⟨(θ 72).b, 0, none⟩) 1 (([r_3] : List api_Span).map enc_api_Span) 24 2 else .row none 0 [] 0 0) :: (bif E 7 then .row (some ⟨(θ 56).b, 0, none⟩) 3 (([r_2, xv.Depth, xv.Speed] : List api_Span).map enc_api_Span) 24 2 else .row none 0 [] 0 0) :: .box b_4 [.int .i64 xv.At, .int .i64 xv.Depth.Lo, .int .i64 xv.Depth.Hi, .int .i64 xv.Speed.Lo, .int .i64 xv.Speed.Hi] 61 :: (bif E 10 then .row ((θ 80).p) ((θ 80).c) ((x ++ [r_3]).map enc_api_Span) 24 2 else .row p_1 c_1 (x.map enc_api_Span) 24 2) :: (bif E 11 then .box b_2 [.slice ((θ 80).p) ((x ++ [r_3]).length) ((θ 80).c)] 72 else .box b_2 [.slice p_1 x.length c_1] 72) :: Lb) [(11, 0), (11, 10)] (fun a w => ∃ (b_7 : Nat) (b_8 : Nat) (p_3 : Option Addr) (c_3 : Nat), Has 29 a [] ∧ Ctx G (.row (some ⟨b_7, 0, none⟩) 1 (([r_3] : List api_Span).map enc_api_Span) 24 2 :: .row (some ⟨b_8, 0, none⟩) 3 (([r_2, xv.Depth, xv.Speed] : List api_Span).map enc_api_Span) 24 2 :: .box b_4 [.int .i64 xv.At, .int .i64 xv.Depth.Lo, .int .i64 xv.Depth.Hi, .int .i64 xv.Speed.Lo, .int .i64 xv.Speed.Hi] 61 :: .row p_3 c_3 ((x ++ [r_3]).map enc_api_Span) 24 2 :: .box b_2 [.slice p_3 ((x ++ [r_3]).length) c_3] 72 :: Lb) w) follows_mx (by kernel_rfl) (by kernel_rfl) (HasE.of hf ⟨rfl, rfl, rfl, trivial, trivial, trivial, trivial, trivial, trivial, trivial, trivial, trivial, trivial, trivial, trivial⟩) hc ⟨?_, ?_, ?_, ?_, ?_, ?_, ?_, ?_, ?_, ?_, ?_, ?_, trivial⟩ ?_ ?_
      · intro E θ a w hD hi hp he hc
        have e11 := hD.f 0 rfl hi
        try dsimp only at hc
        rw [e11] at hc
        have hf := he.h0
        replace hf := hf.more he 0 rfl onT
        refine stE hf hc rfl rfl rfl (eLd1 sc_72 rfl (cell_box m4 rfl)) fun a w hf hc => ?_
        refine cNil ?_
        refine xThenN ?_
        intro ds u hau
        refine ⟨θ, he.put0 hi hau hf rfl 3 rfl rfl, ?_⟩
        try dsimp only
        rw [updE_fls 0 e11 rfl]
        exact hc
      · intro E θ a w hD hi hp he hc
        have hf := he.h0
        replace hf := hf.more he 2 rfl onT
        refine stP hf rfl rfl rfl (pM rfl) fun a hf => ?_
        refine cNil ?_
        refine xThenN ?_
        intro ds u hau
        refine ⟨θ, he.put0 hi hau hf rfl 4 rfl rfl, ?_⟩
        exact hc
      · intro E θ a w hD hi hp he hc
        have e1 := hp.of (k := 1) rfl
        have hf := he.h0
        replace hf := hf.more he 4 rfl (onP e1)
        refine stE hf hc rfl rfl rfl (eC (v := .agg #[.int .i64 r_2.Lo, .int .i64 r_2.Hi]) (vs := [.int .i64 xv_1]) (caps := []) en_71 rfl rfl rfl rfl (fun w hc => gauge_just_ok xv_1 hc hr_2)) fun a w hf hc => ?_
        refine cNil ?_
        refine xThenN ?_
        intro ds u hau
        refine ⟨θ, he.put0 hi hau hf rfl 5 rfl rfl, ?_⟩
        exact hc
      · intro E θ a w hD hi hp he hc
        have hf := he.h0
        replace hf := hf.more he 1 rfl onT
        refine stP hf rfl rfl rfl (pFA fa_61_1 rfl) fun a hf => ?_
        refine cNil ?_
        refine xThenN ?_
        intro ds u hau
        refine ⟨θ, he.put0 hi hau hf rfl 6 rfl rfl, ?_⟩
        exact hc
      · intro E θ a w hD hi hp he hc
        have e3 := hp.of (k := 3) rfl
        have hf := he.h0
        replace hf := hf.more he 6 rfl (onP e3)
        refine stE hf hc rfl rfl rfl (eLdN (vs := [.int .i64 xv.Depth.Lo, .int .i64 xv.Depth.Hi]) ag_24 rfl rfl (cells_box (n := 2) m2 rfl)) fun a w hf hc => ?_
        refine cNil ?_
        refine xThenN ?_
        intro ds u hau
        refine ⟨θ, he.put0 hi hau hf rfl 7 rfl rfl, ?_⟩
        exact hc
      · intro E θ a w hD hi hp he hc
        have hf := he.h0
        replace hf := hf.more he 1 rfl onT
        refine stP hf rfl rfl rfl (pFA fa_61_2 rfl) fun a hf => ?_
        refine cNil ?_
        refine xThenN ?_
        intro ds u hau
        refine ⟨θ, he.put0 hi hau hf rfl 8 rfl rfl, ?_⟩
        exact hc
      · intro E θ a w hD hi hp he hc
        have e5 := hp.of (k := 5) rfl
        have hf := he.h0
        replace hf := hf.more he 8 rfl (onP e5)
        refine stE hf hc rfl rfl rfl (eLdN (vs := [.int .i64 xv.Speed.Lo, .int .i64 xv.Speed.Hi]) ag_24 rfl rfl (cells_box (n := 2) m2 rfl)) fun a w hf hc => ?_
        refine cNil ?_
        refine xThenN ?_
        intro ds u hau
        refine ⟨θ, he.put0 hi hau hf rfl 9 rfl rfl, ?_⟩
        exact hc
      · intro E θ a w hD hi hp he hc
        have e2 := hp.of (k := 2) rfl
        have e4 := hp.of (k := 4) rfl
        have e6 := hp.of (k := 6) rfl
        try dsimp only at hc
        rw [hi] at hc
        have hf := he.h0
        replace hf := hf.more he 5 rfl (onP e2)
        replace hf := hf.more he 7 rfl (onP e4)
        replace hf := hf.more he 9 rfl (onP e6)
        refine stBS (rows := ([r_2, xv.Depth, xv.Speed] : List api_Span).map enc_api_Span) (vs := [(0, .agg #[.int .i64 r_2.Lo, .int .i64 r_2.Hi]), (1, .agg #[.int .i64 xv.Depth.Lo, .int .i64 xv.Depth.Hi]), (2, .agg #[.int .i64 xv.Speed.Lo, .int .i64 xv.Speed.Hi])]) hf hc rfl rfl sl_72 rfl ⟨rfl, rfl, rfl, rfl, rfl, rfl, rfl, rfl, rfl, trivial⟩ rfl rfl fun b_5 a w hf hc => ?_
        refine cNil ?_
        refine xThenN ?_
        intro ds u hau
        replace hc := hc.drop k2
        replace hc := hc.pick k0
        replace hc := hc.pick k1
        refine ⟨(setT θ 56 ⟨b_5, none, 0⟩), he.put hi hau hf rfl [] trivial ⟨qq, qq, qq, qq, qq, qq, qq, qq, qq, qq, qq, qq, qq, qq, trivial⟩, ?_⟩
        try dsimp only
        rw [updE_self E 7]
        exact hc
      · intro E θ a w hD hi hp he hc
        have e7 := hp.of (k := 7) rfl
        try dsimp only at hc
        rw [e7] at hc
        have hf := he.h0
        replace hf := hf.more he 10 rfl (onP e7)
        refine stE hf hc rfl rfl rfl (eC (v := .agg #[.int .i64 r_3.Lo, .int .i64 r_3.Hi]) (vs := [.slice (some ⟨(θ 56).b, 0, none⟩) 3 3]) (caps := []) en_59 rfl rfl rfl rfl (fun w hc => by obtain ⟨G1, hle1, hrd1, hc, hth1⟩ := lend hc k1; exact (gauge_times_ok ([r_2, xv.Depth, xv.Speed] : List api_Span) hrd1 hc hr_3).mono fun e w h => ⟨h.1, ((hth1 _ _ h.2).unpick k1)⟩)) fun a w hf hc => ?_
        refine cNil ?_
        refine xThenN ?_
        intro ds u hau
        refine ⟨θ, he.put0 hi hau hf rfl 11 rfl rfl, ?_⟩
        try dsimp only
        rw [updE_tru 8 e7]
        exact hc
      · intro E θ a w hD hi hp he hc
        have e8 := hp.of (k := 8) rfl
        try dsimp only at hc
        rw [hi] at hc
        have hf := he.h0
        replace hf := hf.more he 11 rfl (onP e8)
        refine stBS (rows := ([r_3] : List api_Span).map enc_api_Span) (vs := [(0, .agg #[.int .i64 r_3.Lo, .int .i64 r_3.Hi])]) hf hc rfl rfl sl_72 rfl ⟨rfl, rfl, rfl, trivial⟩ rfl rfl fun b_6 a w hf hc => ?_
        refine cNil ?_
        refine xThenN ?_
        intro ds u hau
        replace hc := hc.drop k1
        refine ⟨(setT θ 72 ⟨b_6, none, 0⟩), he.put hi hau hf rfl [] trivial ⟨qq, qq, qq, qq, qq, qq, qq, qq, qq, qq, qq, qq, qq, qq, trivial⟩, ?_⟩
        try dsimp only
        rw [updE_self E 9]
        exact hc
      · intro E θ a w hD hi hp he hc
        have e0 := hp.of (k := 0) rfl
        have e9 := hp.of (k := 9) rfl
        have e11 := hD.f 1 rfl hi
        try dsimp only at hc
        rw [e9, hi, e11] at hc
        have hf := he.h0
        replace hf := hf.more he 3 rfl (onP e0)
        replace hf := hf.more he 12 rfl (onP e9)
        refine stApm (xs := x) (ys := ([r_3] : List api_Span)) hf hc rfl rfl sl_72 rfl rfl rfl rfl rfl one_enc_api_Span (src_row hc m0) (fun _ _ => u3) (by simpa using room_spec hun) fun p_2 c_2 a w hf hc => ?_
        refine cNil ?_
        refine xThenN ?_
        intro ds u hau
        refine ⟨(setT θ 80 ⟨0, p_2, c_2⟩), he.put hi hau hf rfl [] trivial ⟨qq, qq, qq, qq, qq, qq, qq, qq, qq, qq, qq, qq, qq, qq, trivial⟩, ?_⟩
        try dsimp only
        rw [updE_tru 10 e9, updE_self E 10, updE_fls 10 e11 rfl]
        exact hc
      · intro E θ a w hD hi hp he hc
        have e10 := hp.of (k := 10) rfl
        try dsimp only at hc
        rw [hi] at hc
        have hf := he.h0
        replace hf := hf.more he 0 rfl onT
        replace hf := hf.more he 13 rfl (onP e10)
        refine stSt (vs := [.slice ((θ 80).p) ((x ++ [r_3]).length) ((θ 80).c)]) hf hc rfl rfl rfl rfl sz_72 rfl rfl u4 fun w hc => ?_
        refine cNil ?_
        refine xThenN ?_
        intro ds u hau
        refine ⟨θ, he.stay0 hi hau hf rfl, ?_⟩
        try dsimp only
        rw [updE_self E 11]
        exact hc
      · intro E θ a w hall he hc
        have hf := he.h0
        have e7 := hall 7 rfl
        have e9 := hall 9 rfl
        have e10 := hall 10 rfl
        have e11 := hall 11 rfl
        try dsimp only at hc
        rw [e7, e9, e10, e11] at hc
        exact ⟨(θ 72).b, (θ 56).b, (θ 80).p, (θ 80).c, hf.keep trivial, hc⟩
      rintro a w ⟨b_7, b_8, p_3, c_3, hf, hc⟩
      refine h11 _ _ ?_
      replace hc := hc.drop k2
      replace hc := hc.drop k1
      replace hc := hc.drop k0
      exact ⟨(x ++ [r_3]), _, (Option.some.inj hF).symm, ⟨p_3, c_3, rfl⟩, hc⟩
    · rintro D_1 x _ a w hsF ⟨p_1, c_1, rfl⟩ hf hc
      replace hc : Ctx G (.raw D_1 (.deferred (some [])) :: .box b_3 [.int .i64 r_1.1, .int .i64 r_1.2, .slice g_Verticals_p g.Verticals.length g_Verticals_c] 48 :: .row p_1 c_1 (x.map enc_api_Span) 24 2 :: .box b_2 [.slice p_1 x.length c_1] 72 :: Lf) w := hc
      replace hF : (some (x, 0)) = some res := by rcases hsF with rfl | rfl <;> exact hF
      refine h7 _ _ ?_
      refine wp_seq_k fun K12 h12 => ?_
      refine cReg ?_
      refine stE hf hc rfl rfl rfl (eLd1 sc_72 rfl (cell_box m3 rfl)) fun a w hf hc => ?_
      refine stP hf rfl rfl rfl (pA rfl) fun a hf => ?_
      refine stP hf rfl rfl rfl (pA rfl) fun a hf => ?_
      refine cNil ?_
      refine h12 _ _ ?_
      refine wp_ret ?_
      obtain rfl := Option.some.inj hF
      replace hc := hc.drop k3
      replace hc := hc.drop k1
      replace hc := hc.pick k0
      replace hc := hc.pick k1
      refine outM hf ?_
      refine outMc hc m1 u1 fun w hc => ?_
      exact outM2 Try.results31 hf hc (show look _ 2 = _ from rfl) (show look _ 3 = _ from rfl) ⟨p_1, c_1, rfl, (hc.drop k1)⟩
    · rintro D_1 x _ a w hsF ⟨p_1, c_1, rfl⟩ hf hc
      replace hc : Ctx G (.raw D_1 (.deferred (some [])) :: .box b_3 [.int .i64 r_1.1, .int .i64 r_1.2, .slice g_Verticals_p g.Verticals.length g_Verticals_c] 48 :: .row p_1 c_1 (x.map enc_api_Span) 24 2 :: .box b_2 [.slice p_1 x.length c_1] 72 :: Lf) w := hc
      replace hF : (none) = some res := by subst hsF; exact hF
      cases hF

def gauge_plus (N : Nat) (a_ : api_Span) (b_ : api_Span) : Option (api_Span) :=
  some (⟨W (a_.Lo + b_.Lo), W (a_.Hi + b_.Hi)⟩ : api_Span)
theorem gauge_plus_ok {N : Nat} {G : Pers} {Lf : List Ent} {w : World} (a_ : api_Span) (b_ : api_Span)   (hc : Ctx G (Lf) w) {res : api_Span} (hF : gauge_plus N a_ b_ = some res) : Calls Try.prog 58 #[.agg #[.int .i64 a_.Lo, .int .i64 a_.Hi], .agg #[.int .i64 b_.Lo, .int .i64 b_.Hi]] w (fun e w => e = .returned (.agg #[.int .i64 res.Lo, .int .i64 res.Hi]) ∧ Ctx G (Lf) w) := by
  unfold gauge_plus at hF
  refine fnIn (args := [.agg #[.int .i64 a_.Lo, .int .i64 a_.Hi], .agg #[.int .i64 b_.Lo, .int .i64 b_.Hi]]) Try.func58 rfl Try.ntmps58 rfl fun a hf => ?_
  refine wp_seq_k fun K1 h1 => ?_
  refine cReg ?_
  refine stBx (cs := [.int .i64 a_.Lo, .int .i64 a_.Hi]) hf hc rfl rfl rfl rfl fun b_1 a w hf hc => ?_
  refine stBx (cs := [.int .i64 b_.Lo, .int .i64 b_.Hi]) hf hc rfl rfl rfl rfl fun b_2 a w hf hc => ?_
  refine stAl (cs := [.int .i64 0, .int .i64 0]) hf hc rfl rfl zr_24 rfl fun b_3 a w hf hc => ?_
  refine cNil ?_
  refine h1 _ _ ?_
  refine wp_seq_k fun K2 h2 => ?_
  refine cReg ?_
  refine stP hf rfl rfl rfl (pFA fa_24_0 rfl) fun a hf => ?_
  refine stE hf hc rfl rfl rfl (eLd1 sc_3 rfl (cell_box m2 rfl)) fun a w hf hc => ?_
  refine stP hf rfl rfl rfl (pFA fa_24_0 rfl) fun a hf => ?_
  refine stE hf hc rfl rfl rfl (eLd1 sc_3 rfl (cell_box m1 rfl)) fun a w hf hc => ?_
  refine stP hf rfl rfl rfl (pAdd rfl rfl) fun a hf => ?_
  refine stP hf rfl rfl rfl (pFA fa_24_1 rfl) fun a hf => ?_
  refine stE hf hc rfl rfl rfl (eLd1 sc_3 rfl (cell_box m2 rfl)) fun a w hf hc => ?_
  refine stP hf rfl rfl rfl (pFA fa_24_1 rfl) fun a hf => ?_
  refine stE hf hc rfl rfl rfl (eLd1 sc_3 rfl (cell_box m1 rfl)) fun a w hf hc => ?_
  refine stP hf rfl rfl rfl (pAdd rfl rfl) fun a hf => ?_
  refine stP hf rfl rfl rfl (pBuildS (cells := [.int .i64 (W (a_.Lo + b_.Lo)), .int .i64 (W (a_.Hi + b_.Hi))]) bt_24 rfl rfl) fun a hf => ?_
  refine stSt (vs := [.int .i64 (W (a_.Lo + b_.Lo)), .int .i64 (W (a_.Hi + b_.Hi))]) hf hc rfl rfl rfl rfl sz_24 rfl rfl u0 fun w hc => ?_
  refine cNil ?_
  refine h2 _ _ ?_
  refine wp_ret ?_
  obtain rfl := Option.some.inj hF
  replace hc := hc.drop k2
  replace hc := hc.drop k1
  exact fnOut1 (by simp) rfl Try.results58 hf hc (rv_cellN (vs := [.int .i64 (W (a_.Lo + b_.Lo)), .int .i64 (W (a_.Hi + b_.Hi))]) ag_24 rfl rfl (cells_box (n := 2) m0 rfl)) ⟨rfl, (hc.drop k0)⟩

def gauge_Flow_b6 (N : Nat) (r : (List api_Span) × Int) (x : List api_Span) (x_1 : Int) (x_2 : Int) (x_3 : Int) : Option (Step ((List api_Span) × Int × Int × Int) (api_Span × Int)) :=
  cond (decide (x_1 < ((r.1.length : Nat) : Int)))
  (Option.bind (getI x x_1) fun e_1 =>
  Option.bind (gauge_plus N (⟨x_2, x_3⟩ : api_Span) e_1) fun r_1 =>
  some (.cont (x, W (x_1 + 1), r_1.Lo, r_1.Hi)))
  (some (.brk (x, x_1, x_2, x_3)))
def gauge_Flow (N : Nat) (g : gauge_Gauging) : Option (api_Span × Int) :=
  Option.bind (gauge_Panels N g) fun r =>
  Option.bind (loopO (fun s6 => gauge_Flow_b6 N r s6.1 s6.2.1 s6.2.2.1 s6.2.2.2) N (r.1, 0, 0, 0)) fun x6 =>
  exK x6 (fun s6 => some ((⟨s6.2.2.1, s6.2.2.2⟩ : api_Span), r.2)) some
theorem gauge_Flow_ok {N : Nat} {G : Pers} {Lf : List Ent} {w : World} (g : gauge_Gauging) {g_Verticals_p : Option Addr} {g_Verticals_c : Nat} (h_g_Verticals : Rd G 5 g_Verticals_p g_Verticals_c (g.Verticals.map enc_gauge_Vertical)) (hc : Ctx G (Lf) w) {res : api_Span × Int} (hF : gauge_Flow N g = some res) : Calls Try.prog 27 #[.agg #[.int .i64 g.Left, .int .i64 g.Right, .slice g_Verticals_p g.Verticals.length g_Verticals_c]] w (fun e w => e = .returned (.tuple #[.agg #[.int .i64 res.1.Lo, .int .i64 res.1.Hi], .int .i64 res.2]) ∧ Ctx G (Lf) w) := by
  unfold gauge_Flow at hF
  refine fnIn (args := [.agg #[.int .i64 g.Left, .int .i64 g.Right, .slice g_Verticals_p g.Verticals.length g_Verticals_c]]) Try.func27 rfl Try.ntmps27 rfl fun a hf => ?_
  refine wp_seq_k fun K1 h1 => ?_
  refine cReg ?_
  refine stBx (cs := [.int .i64 g.Left, .int .i64 g.Right, .slice g_Verticals_p g.Verticals.length g_Verticals_c]) hf hc rfl rfl rfl rfl fun b_1 a w hf hc => ?_
  refine stAl (cs := [.int .i64 0, .int .i64 0]) hf hc rfl rfl zr_24 rfl fun b_2 a w hf hc => ?_
  refine stP hf rfl rfl rfl (pA rfl) fun a hf => ?_
  refine cNil ?_
  refine h1 _ _ ?_
  refine wp_seq_k fun K2 h2 => ?_
  refine cReg ?_
  refine stE hf hc rfl rfl rfl (eLdN (vs := [.int .i64 g.Left, .int .i64 g.Right, .slice g_Verticals_p g.Verticals.length g_Verticals_c]) ag_48 rfl rfl (cells_box (n := 3) m1 rfl)) fun a w hf hc => ?_
  obtain ⟨r, hr, hF⟩ := bnd_some hF
  refine stC (vs := [.agg #[.int .i64 g.Left, .int .i64 g.Right, .slice g_Verticals_p g.Verticals.length g_Verticals_c]]) (caps := []) hf rfl rfl rfl en_31 rfl rfl rfl rfl (gauge_Panels_ok g h_g_Verticals hc hr) ?_
  rintro _ w ⟨p_1, c_1, rfl, hc⟩
  refine ⟨_, rfl, fun a hf => ?_⟩
  refine stP hf rfl rfl rfl (pM rfl) fun a hf => ?_
  refine stP hf rfl rfl rfl (pX rfl rfl) fun a hf => ?_
  refine stP hf rfl rfl rfl (pX rfl rfl) fun a hf => ?_
  refine stP hf rfl rfl rfl (pA rfl) fun a hf => ?_
  refine stP hf rfl rfl rfl (pA rfl) fun a hf => ?_
  refine cNil ?_
  refine h2 _ _ ?_
  refine wp_seq_k fun K3 h3 => ?_
  refine cReg ?_
  refine stAl (cs := [.int .i64 0, .int .i64 0]) hf hc rfl rfl zr_24 rfl fun b_3 a w hf hc => ?_
  refine cNil ?_
  refine h3 _ _ ?_
  refine wp_seq_k fun K4 h4 => ?_
  refine wp_seq_k fun K5 h5 => ?_
  refine cReg ?_
  refine stP hf rfl rfl rfl (pM rfl) fun a hf => ?_
  refine stP hf rfl rfl rfl (pLenS Try.underlying72 rfl) fun a hf => ?_
  refine stP hf rfl rfl rfl (pM rfl) fun a hf => ?_
  refine cNil ?_
  refine h5 _ _ ?_
  refine wp_block ?_
  obtain ⟨x6, hx6, hF⟩ := bnd_some hF
  let S6 : ((List api_Span) × Int × Int × Int) → Act → World → Prop := (fun (zz : (List api_Span) × Int × Int × Int) a w => ∃ (p_2 : Option Addr) (c_2 : Nat), Has 26 a [(2, .pointer (some ⟨b_2, 0, none⟩)), (5, .int .i64 r.2), (6, .pointer (some ⟨b_3, 0, none⟩)), (14, .slice p_2 zz.1.length c_2), (15, .int .i64 ((r.1.length : Nat) : Int)), (16, .int .i64 zz.2.1)] ∧ Ctx G (.box b_3 [.int .i64 zz.2.2.1, .int .i64 zz.2.2.2] 24 :: .row p_2 c_2 (zz.1.map enc_api_Span) 24 2 :: .box b_2 [.int .i64 0, .int .i64 0] 24 :: Lf) w)
  have hr6 : ∀ (zz : (List api_Span) × Int × Int × Int) a w, x6 = .go zz → S6 zz a w → K4 a w := by
    rintro ⟨x, x_1, x_2, x_3⟩ a w rfl ⟨p_2, c_2, hf, hc⟩
    replace hF : _ = some res := hF
    refine h4 _ _ ?_
    refine wp_seq_k fun K7 h7 => ?_
    refine cReg ?_
    refine stE hf hc rfl rfl rfl (eLdN (vs := [.int .i64 x_2, .int .i64 x_3]) ag_24 rfl rfl (cells_box (n := 2) m0 rfl)) fun a w hf hc => ?_
    refine stP hf rfl rfl rfl (pM rfl) fun a hf => ?_
    refine stSt (vs := [.int .i64 x_2, .int .i64 x_3]) hf hc rfl rfl rfl rfl sz_24 rfl rfl u2 fun w hc => ?_
    refine stP hf rfl rfl rfl (pA rfl) fun a hf => ?_
    refine cNil ?_
    refine h7 _ _ ?_
    refine wp_ret ?_
    obtain rfl := Option.some.inj hF
    replace hc := hc.drop k1
    replace hc := hc.drop k0
    exact fnOut2 (by simp) rfl Try.results27 hf hc (rv_cellN (vs := [.int .i64 x_2, .int .i64 x_3]) ag_24 rfl rfl (cells_box (n := 2) m0 rfl)) (show look _ 3 = _ from rfl) ⟨rfl, (hc.drop k0)⟩
  have ho6 : ∀ r, x6 = .out r → r = res := by
    rintro r rfl
    exact Option.some.inj hF
  replace hc := hc.drop k3
  refine cLoop N (loopW (S := S6) (x := x6) ?_ N (r.1, 0, 0, 0) _ _ ⟨p_1, c_1, hf.keep ⟨rfl, rfl, rfl, rfl, rfl, rfl, trivial⟩, hc⟩ hx6)
  clear hF hf hc
  rintro ⟨x, x_1, x_2, x_3⟩ st6 a w KB6 ⟨p_2, c_2, hf, hc⟩ hF hfin6 hK6
  unfold gauge_Flow_b6 at hF
  refine wp_seq_k fun K8 h8 => ?_
  refine cReg ?_
  refine stP hf rfl rfl rfl (pLt rfl rfl) fun a hf => ?_
  refine cNil ?_
  refine h8 _ _ ?_
  refine wp_seq_k fun K9 h9 => ?_
  refine cCond (b := (decide (x_1 < ((r.1.length : Nat) : Int)))) hf rfl (fun hb => ?_) (fun hb => ?_)
  · replace hF := condT hb hF
    clear hb
    refine wp_skip ?_
    refine h9 _ _ ?_
    refine wp_seq_k fun K10 h10 => ?_
    refine wp_block ?_
    refine wp_seq_k fun K11 h11 => ?_
    refine cReg ?_
    obtain ⟨e_1, he_1, hF⟩ := bnd_some hF
    obtain ⟨g_0, rfl, qa, qr⟩ := row_atm hc m1 he_1
    refine stP hf rfl rfl rfl (pIA Try.underlying72 sz_24 rfl rfl qa) fun a hf => ?_
    refine stE hf hc rfl rfl rfl (eLdN (vs := [.int .i64 e_1.Lo, .int .i64 e_1.Hi]) ag_24 rfl rfl (cells_rw (sz := 2) (i := x_1.toNat) m1 qr (n := 2) (o' := 0) rfl)) fun a w hf hc => ?_
    refine stAl (cs := [.int .i64 0, .int .i64 0]) hf hc rfl rfl zr_24 rfl fun b_4 a w hf hc => ?_
    refine stSt (vs := [.int .i64 e_1.Lo, .int .i64 e_1.Hi]) hf hc rfl rfl rfl rfl sz_24 rfl rfl u0 fun w hc => ?_
    refine cNil ?_
    refine h11 _ _ ?_
    refine cReg ?_
    refine stE hf hc rfl rfl rfl (eLdN (vs := [.int .i64 x_2, .int .i64 x_3]) ag_24 rfl rfl (cells_box (n := 2) m1 rfl)) fun a w hf hc => ?_
    refine stE hf hc rfl rfl rfl (eLdN (vs := [.int .i64 e_1.Lo, .int .i64 e_1.Hi]) ag_24 rfl rfl (cells_box (n := 2) m0 rfl)) fun a w hf hc => ?_
    obtain ⟨r_1, hr_1, hF⟩ := bnd_some hF
    refine stE hf hc rfl rfl rfl (eC (v := .agg #[.int .i64 r_1.Lo, .int .i64 r_1.Hi]) (vs := [.agg #[.int .i64 x_2, .int .i64 x_3], .agg #[.int .i64 e_1.Lo, .int .i64 e_1.Hi]]) (caps := []) en_58 rfl rfl rfl rfl (fun w hc => gauge_plus_ok (⟨x_2, x_3⟩ : api_Span) e_1 hc hr_1)) fun a w hf hc => ?_
    refine stSt (vs := [.int .i64 r_1.Lo, .int .i64 r_1.Hi]) hf hc rfl rfl rfl rfl sz_24 rfl rfl u1 fun w hc => ?_
    refine cNil ?_
    refine h10 _ _ ?_
    refine cReg ?_
    refine stP hf rfl rfl rfl (pAdd rfl rfl) fun a hf => ?_
    refine stP hf rfl rfl rfl (pM rfl) fun a hf => ?_
    refine cNil ?_
    replace hc := hc.drop k0
    exact hK6 (x, W (x_1 + 1), r_1.Lo, r_1.Hi) _ _ (Option.some.inj hF).symm ⟨(some ⟨g_0, 0, none⟩), c_2, hf.keep ⟨rfl, rfl, rfl, rfl, rfl, rfl, trivial⟩, hc⟩
  · replace hF := condF hb hF
    clear hb
    refine wp_exit ?_
    refine xThen ?_
    refine xThen ?_
    have he := Option.some.inj hF
    rw [← he] at hfin6
    refine cHit ?_
    exact hr6 _ _ _ hfin6 ⟨p_2, c_2, hf.keep ⟨rfl, rfl, rfl, rfl, rfl, rfl, trivial⟩, hc⟩

def gauge_high (N : Nat)  : Option (Unit) :=
  some ()
theorem gauge_high_ok {N : Nat} {G : Pers} {Lf : List Ent} {w : World}    (hc : Ctx G (Lf) w) {res : Unit} (hF : gauge_high N = some res) : Calls Try.prog 64 #[] w (fun e w => e = .returned (.agg #[.func (.func 97) #[] #[]]) ∧ Ctx G (Lf) w) := by
  unfold gauge_high at hF
  refine fnIn (args := []) Try.func64 rfl Try.ntmps64 rfl fun a hf => ?_
  refine wp_seq_k fun K1 h1 => ?_
  refine cReg ?_
  refine stAl (cs := [.nilFunc]) hf hc rfl rfl zr_120 rfl fun b_1 a w hf hc => ?_
  refine cNil ?_
  refine h1 _ _ ?_
  refine wp_seq_k fun K2 h2 => ?_
  refine cReg ?_
  refine stP hf rfl rfl rfl (pBuildS (cells := [.func (.func 97) #[] #[]]) bt_120 rfl rfl) fun a hf => ?_
  refine stSt (vs := [.func (.func 97) #[] #[]]) hf hc rfl rfl rfl rfl sz_120 rfl rfl u0 fun w hc => ?_
  refine cNil ?_
  refine h2 _ _ ?_
  refine wp_ret ?_
  obtain rfl := Option.some.inj hF
  exact fnOut1 (by simp) rfl Try.results64 hf hc (rv_cellN (vs := [.func (.func 97) #[] #[]]) ag_120 rfl rfl (cells_box (n := 1) m0 rfl)) ⟨rfl, (hc.drop k0)⟩

def gauge_low (N : Nat)  : Option (Unit) :=
  some ()
theorem gauge_low_ok {N : Nat} {G : Pers} {Lf : List Ent} {w : World}    (hc : Ctx G (Lf) w) {res : Unit} (hF : gauge_low N = some res) : Calls Try.prog 65 #[] w (fun e w => e = .returned (.agg #[.func (.func 98) #[] #[]]) ∧ Ctx G (Lf) w) := by
  unfold gauge_low at hF
  refine fnIn (args := []) Try.func65 rfl Try.ntmps65 rfl fun a hf => ?_
  refine wp_seq_k fun K1 h1 => ?_
  refine cReg ?_
  refine stAl (cs := [.nilFunc]) hf hc rfl rfl zr_120 rfl fun b_1 a w hf hc => ?_
  refine cNil ?_
  refine h1 _ _ ?_
  refine wp_seq_k fun K2 h2 => ?_
  refine cReg ?_
  refine stP hf rfl rfl rfl (pBuildS (cells := [.func (.func 98) #[] #[]]) bt_120 rfl rfl) fun a hf => ?_
  refine stSt (vs := [.func (.func 98) #[] #[]]) hf hc rfl rfl rfl rfl sz_120 rfl rfl u0 fun w hc => ?_
  refine cNil ?_
  refine h2 _ _ ?_
  refine wp_ret ?_
  obtain rfl := Option.some.inj hF
  exact fnOut1 (by simp) rfl Try.results65 hf hc (rv_cellN (vs := [.func (.func 98) #[] #[]]) ag_120 rfl rfl (cells_box (n := 1) m0 rfl)) ⟨rfl, (hc.drop k0)⟩

def gauge_high_1 (s_ : api_Span) : Int :=
  s_.Hi
theorem gauge_high_1_ok {G : Pers} {Lf : List Ent} {w : World} (s_ : api_Span)   (hc : Ctx G (Lf) w) {res : Int} (hF : gauge_high_1 s_ = res) : Calls Try.prog 97 #[.agg #[.int .i64 s_.Lo, .int .i64 s_.Hi]] w (fun e w => e = .returned (.int .i64 res) ∧ Ctx G (Lf) w) := by
  unfold gauge_high_1 at hF
  refine fnIn (args := [.agg #[.int .i64 s_.Lo, .int .i64 s_.Hi]]) Try.func97 rfl Try.ntmps97 rfl fun a hf => ?_
  refine wp_seq_k fun K1 h1 => ?_
  refine cReg ?_
  refine stBx (cs := [.int .i64 s_.Lo, .int .i64 s_.Hi]) hf hc rfl rfl rfl rfl fun b_1 a w hf hc => ?_
  refine stP hf rfl rfl rfl (pA rfl) fun a hf => ?_
  refine cNil ?_
  refine h1 _ _ ?_
  refine wp_seq_k fun K2 h2 => ?_
  refine cReg ?_
  refine stP hf rfl rfl rfl (pFA fa_24_1 rfl) fun a hf => ?_
  refine stE hf hc rfl rfl rfl (eLd1 sc_3 rfl (cell_box m0 rfl)) fun a w hf hc => ?_
  refine stP hf rfl rfl rfl (pA rfl) fun a hf => ?_
  refine cNil ?_
  refine h2 _ _ ?_
  refine wp_ret ?_
  obtain rfl := hF
  replace hc := hc.drop k0
  exact fnOut1 (by simp) rfl Try.results97 hf hc (show look _ 2 = _ from rfl) ⟨rfl, hc⟩

def gauge_low_1 (s_ : api_Span) : Int :=
  s_.Lo
theorem gauge_low_1_ok {G : Pers} {Lf : List Ent} {w : World} (s_ : api_Span)   (hc : Ctx G (Lf) w) {res : Int} (hF : gauge_low_1 s_ = res) : Calls Try.prog 98 #[.agg #[.int .i64 s_.Lo, .int .i64 s_.Hi]] w (fun e w => e = .returned (.int .i64 res) ∧ Ctx G (Lf) w) := by
  unfold gauge_low_1 at hF
  refine fnIn (args := [.agg #[.int .i64 s_.Lo, .int .i64 s_.Hi]]) Try.func98 rfl Try.ntmps98 rfl fun a hf => ?_
  refine wp_seq_k fun K1 h1 => ?_
  refine cReg ?_
  refine stBx (cs := [.int .i64 s_.Lo, .int .i64 s_.Hi]) hf hc rfl rfl rfl rfl fun b_1 a w hf hc => ?_
  refine stP hf rfl rfl rfl (pA rfl) fun a hf => ?_
  refine cNil ?_
  refine h1 _ _ ?_
  refine wp_seq_k fun K2 h2 => ?_
  refine cReg ?_
  refine stP hf rfl rfl rfl (pFA fa_24_0 rfl) fun a hf => ?_
  refine stE hf hc rfl rfl rfl (eLd1 sc_3 rfl (cell_box m0 rfl)) fun a w hf hc => ?_
  refine stP hf rfl rfl rfl (pA rfl) fun a hf => ?_
  refine cNil ?_
  refine h2 _ _ ?_
  refine wp_ret ?_
  obtain rfl := hF
  replace hc := hc.drop k0
  exact fnOut1 (by simp) rfl Try.results98 hf hc (show look _ 2 = _ from rfl) ⟨rfl, hc⟩

end Go.Nilo
