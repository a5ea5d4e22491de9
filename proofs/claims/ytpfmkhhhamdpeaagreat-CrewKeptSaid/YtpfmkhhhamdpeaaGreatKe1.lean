/-
 What functions of the Go text compute, as plain functions, and that they do, part 1 of 5. Conditions: what each theorem names.
-/
import Derived.Test.YtpfmkhhhamdpeaaGreatNl28
import Derived.Test.YtpfmkhhhamdpeaaGreatProg
set_option linter.unusedVariables false
set_option linter.unusedSimpArgs false
set_option maxRecDepth 100000
set_option maxHeartbeats 4000000
namespace Go.Nilo
open Go.Proofs


structure kit_Stream where
 bytes : List Int
 used : Int
 mix : Int

structure api_Span where
 Lo : Int
 Hi : Int
@[reducible] def enc_api_Span (x : api_Span) : List Value := [.int .i64 x.Lo,.int .i64 x.Hi]
theorem one_enc_api_Span : ∀ x,(enc_api_Span x).length = 2 ∧ ones (enc_api_Span x) = true := fun _ => ⟨rfl,rfl⟩

structure crew_Visit where
 Way : api_Span
 Work : api_Span
 Open : Int
 Close : Int
@[reducible] def enc_crew_Visit (x : crew_Visit) : List Value := [.int .i64 x.Way.Lo,.int .i64 x.Way.Hi,.int .i64 x.Work.Lo,.int .i64 x.Work.Hi,.int .i64 x.Open,.int .i64 x.Close]
theorem one_enc_crew_Visit : ∀ x,(enc_crew_Visit x).length = 6 ∧ ones (enc_crew_Visit x) = true := fun _ => ⟨rfl,rfl⟩

structure crew_Station where
 Places : Int
 Order : List Int

structure crew_Roster where
 People : List (List Int)
 Stations : List crew_Station

structure crew_work where
 Roster : crew_Roster
 rank : Nat → Int

structure crew_Refusal where
 Person : Int
 Station : Int
@[reducible] def enc_crew_Refusal (x : crew_Refusal) : List Value := [.int .i64 x.Person,.int .i64 x.Station]
theorem one_enc_crew_Refusal : ∀ x,(enc_crew_Refusal x).length = 2 ∧ ones (enc_crew_Refusal x) = true := fun _ => ⟨rfl,rfl⟩

structure crew_Ride where
 From : Int
 Long : Int
 Weight : api_Span
@[reducible] def enc_crew_Ride (x : crew_Ride) : List Value := [.int .i64 x.From,.int .i64 x.Long,.int .i64 x.Weight.Lo,.int .i64 x.Weight.Hi]
theorem one_enc_crew_Ride : ∀ x,(enc_crew_Ride x).length = 4 ∧ ones (enc_crew_Ride x) = true := fun _ => ⟨rfl,rfl⟩

structure crew_Cable where
 Car : Int
 Wide : Int
 Sag : Int
 Most : Int
 Rides : List crew_Ride

structure crew_Pay where
 Rate : Int
 Normal : Int
 Extra : Int
@[reducible] def enc_crew_Pay (x : crew_Pay) : List Value := [.int .i64 x.Rate,.int .i64 x.Normal,.int .i64 x.Extra]
theorem one_enc_crew_Pay : ∀ x,(enc_crew_Pay x).length = 3 ∧ ones (enc_crew_Pay x) = true := fun _ => ⟨rfl,rfl⟩

theorem bt_165 : builtInfo Tryz.prog 165 = some ([.slice none 0 0,.int .i64 0,.int .i64 0],[(0,1),(1,1),(2,1)]) := by kernel_rfl

theorem en_42 : En Tryz.prog 42 := En.of Tryz.func42 (by kernel_rfl) (by kernel_rfl)

theorem fa_165_0 : ∀ (q : Addr) (w : World),(Instr.fieldAt 165 (.pointer (some q)) 0).run Tryz.prog w = .ok (.pointer (some (q.add 0))) w := fun _ _ => by kernel_rfl

theorem sc_74 : ScT Tryz.prog 74 := ⟨⟨_,Tryz.underlying74,trivial⟩,by kernel_rfl⟩

theorem fa_165_1 : ∀ (q : Addr) (w : World),(Instr.fieldAt 165 (.pointer (some q)) 1).run Tryz.prog w = .ok (.pointer (some (q.add 1))) w := fun _ _ => by kernel_rfl

theorem sc_3 : ScT Tryz.prog 3 := ⟨⟨_,Tryz.underlying3,trivial⟩,by kernel_rfl⟩

theorem sz_5 : (Tryz.prog.info? 5).map (·.size) = some 1 := by kernel_rfl

theorem sc_5 : ScT Tryz.prog 5 := ⟨⟨_,Tryz.underlying5,trivial⟩,by kernel_rfl⟩

theorem follows_mx : Tryz.prog.follows .mixedOrders = true := by kernel_rfl

theorem fa_165_2 : ∀ (q : Addr) (w : World),(Instr.fieldAt 165 (.pointer (some q)) 2).run Tryz.prog w = .ok (.pointer (some (q.add 2))) w := fun _ _ => by kernel_rfl

theorem sz_3 : (Tryz.prog.info? 3).map (·.size) = some 1 := by kernel_rfl

theorem en_45 : En Tryz.prog 45 := En.of Tryz.func45 (by kernel_rfl) (by kernel_rfl)

theorem en_50 : En Tryz.prog 50 := En.of Tryz.func50 (by kernel_rfl) (by kernel_rfl)

theorem bt_31 : builtInfo Tryz.prog 31 = some ([.int .i64 0,.int .i64 0,.int .i64 0,.int .i64 0,.int .i64 0,.int .i64 0],[(0,2),(2,2),(4,1),(5,1)]) := by kernel_rfl

theorem zr_31 : (Tryz.prog.info? 31).map (·.zero) = some (some (.agg #[.int .i64 0,.int .i64 0,.int .i64 0,.int .i64 0,.int .i64 0,.int .i64 0])) := by kernel_rfl

theorem sz_31 : (Tryz.prog.info? 31).map (·.size) = some 6 := by kernel_rfl

theorem fa_31_0 : ∀ (q : Addr) (w : World),(Instr.fieldAt 31 (.pointer (some q)) 0).run Tryz.prog w = .ok (.pointer (some (q.add 0))) w := fun _ _ => by kernel_rfl

theorem fa_29_0 : ∀ (q : Addr) (w : World),(Instr.fieldAt 29 (.pointer (some q)) 0).run Tryz.prog w = .ok (.pointer (some (q.add 0))) w := fun _ _ => by kernel_rfl

theorem fa_29_1 : ∀ (q : Addr) (w : World),(Instr.fieldAt 29 (.pointer (some q)) 1).run Tryz.prog w = .ok (.pointer (some (q.add 1))) w := fun _ _ => by kernel_rfl

theorem fa_31_1 : ∀ (q : Addr) (w : World),(Instr.fieldAt 31 (.pointer (some q)) 1).run Tryz.prog w = .ok (.pointer (some (q.add 2))) w := fun _ _ => by kernel_rfl

theorem fa_31_2 : ∀ (q : Addr) (w : World),(Instr.fieldAt 31 (.pointer (some q)) 2).run Tryz.prog w = .ok (.pointer (some (q.add 4))) w := fun _ _ => by kernel_rfl

theorem fa_31_3 : ∀ (q : Addr) (w : World),(Instr.fieldAt 31 (.pointer (some q)) 3).run Tryz.prog w = .ok (.pointer (some (q.add 5))) w := fun _ _ => by kernel_rfl

theorem ag_31 : AggT Tryz.prog 31 6 := ⟨⟨_,Tryz.underlying31,trivial⟩,by kernel_rfl⟩

theorem sl_22 : SlT Tryz.prog 22 31 6 48 (.agg #[.int .i64 0,.int .i64 0,.int .i64 0,.int .i64 0,.int .i64 0,.int .i64 0]) := SlT.of Tryz.underlying22 (by kernel_rfl) (by decide)

theorem en_49 : En Tryz.prog 49 := En.of Tryz.func49 (by kernel_rfl) (by kernel_rfl)

theorem en_86 : En Tryz.prog 86 := En.of Tryz.func86 (by kernel_rfl) (by kernel_rfl)

theorem sc_219 : ScT Tryz.prog 219 := ⟨⟨_,Tryz.underlying219,trivial⟩,by kernel_rfl⟩

theorem ag_29 : AggT Tryz.prog 29 2 := ⟨⟨_,Tryz.underlying29,trivial⟩,by kernel_rfl⟩

theorem en_80 : En Tryz.prog 80 := En.of Tryz.func80 (by kernel_rfl) (by kernel_rfl)

theorem en_154 : En Tryz.prog 154 := En.of Tryz.func154 (by kernel_rfl) (by kernel_rfl)

theorem en_153 : En Tryz.prog 153 := En.of Tryz.func153 (by kernel_rfl) (by kernel_rfl)

theorem en_184 : En Tryz.prog 184 := En.of Tryz.func184 (by kernel_rfl) (by kernel_rfl)

theorem en_200 : En Tryz.prog 200 := En.of Tryz.func200 (by kernel_rfl) (by kernel_rfl)

theorem en_183 : En Tryz.prog 183 := En.of Tryz.func183 (by kernel_rfl) (by kernel_rfl)

theorem en_152 : En Tryz.prog 152 := En.of Tryz.func152 (by kernel_rfl) (by kernel_rfl)

theorem en_79 : En Tryz.prog 79 := En.of Tryz.func79 (by kernel_rfl) (by kernel_rfl)

theorem zr_147 : (Tryz.prog.info? 147).map (·.zero) = some (some (.agg #[.nilFunc])) := by kernel_rfl

theorem bt_147 : builtInfo Tryz.prog 147 = some ([.nilFunc],[(0,1)]) := by kernel_rfl

theorem sz_147 : (Tryz.prog.info? 147).map (·.size) = some 1 := by kernel_rfl

theorem ag_147 : AggT Tryz.prog 147 1 := ⟨⟨_,Tryz.underlying147,trivial⟩,by kernel_rfl⟩

theorem en_82 : En Tryz.prog 82 := En.of Tryz.func82 (by kernel_rfl) (by kernel_rfl)

theorem fa_147_0 : ∀ (q : Addr) (w : World),(Instr.fieldAt 147 (.pointer (some q)) 0).run Tryz.prog w = .ok (.pointer (some (q.add 0))) w := fun _ _ => by kernel_rfl

theorem sc_145 : ScT Tryz.prog 145 := ⟨⟨_,Tryz.underlying145,trivial⟩,by kernel_rfl⟩

theorem en_155 : En Tryz.prog 155 := En.of Tryz.func155 (by kernel_rfl) (by kernel_rfl)

theorem sl_25 : SlT Tryz.prog 25 3 1 8 (.int .i64 0) := SlT.of Tryz.underlying25 (by kernel_rfl) (by decide)

theorem en_81 : En Tryz.prog 81 := En.of Tryz.func81 (by kernel_rfl) (by kernel_rfl)

theorem en_83 : En Tryz.prog 83 := En.of Tryz.func83 (by kernel_rfl) (by kernel_rfl)

theorem en_156 : En Tryz.prog 156 := En.of Tryz.func156 (by kernel_rfl) (by kernel_rfl)

theorem bt_29 : builtInfo Tryz.prog 29 = some ([.int .i64 0,.int .i64 0],[(0,1),(1,1)]) := by kernel_rfl

theorem sl_33 : SlT Tryz.prog 33 29 2 16 (.agg #[.int .i64 0,.int .i64 0]) := SlT.of Tryz.underlying33 (by kernel_rfl) (by decide)

theorem en_18 : En Tryz.prog 18 := En.of Tryz.func18 (by kernel_rfl) (by kernel_rfl)

theorem sz_29 : (Tryz.prog.info? 29).map (·.size) = some 2 := by kernel_rfl

theorem en_22 : En Tryz.prog 22 := En.of Tryz.func22 (by kernel_rfl) (by kernel_rfl)

theorem zr_29 : (Tryz.prog.info? 29).map (·.zero) = some (some (.agg #[.int .i64 0,.int .i64 0])) := by kernel_rfl

theorem en_51 : En Tryz.prog 51 := En.of Tryz.func51 (by kernel_rfl) (by kernel_rfl)

theorem ge_29 : Tryz.prog.eqGuardType Tryz.prog.depth 29 = false := by kernel_rfl

theorem eqs_29 (x0 : Int) (x1 : Int) (y0 : Int) (y1 : Int) (w : World) : (Op.equalIn 10000 29 (.agg #[.int .i64 x0,.int .i64 x1]) (.agg #[.int .i64 y0,.int .i64 y1])).run Tryz.prog w = .ok (x0 == y0 && x1 == y1) w := by
 rw [run_equalIn_agg w 9999 29 _ _ (by kernel_rfl) (by kernel_rfl)]
 simp [Op.eqFields,part,go_sem]
 repeat' split
 all_goals simp_all

theorem en_24 : En Tryz.prog 24 := En.of Tryz.func24 (by kernel_rfl) (by kernel_rfl)

theorem zr_78 : (Tryz.prog.info? 78).map (·.zero) = some (some (.agg #[.slice none 0 0,.slice none 0 0])) := by kernel_rfl

@[reducible] def kd_25 : Kd (List Int) := kL encI_i64 3 1
theorem kdo_25 : KdOk kd_25 := kL_ok _ _ _
theorem one_kd_25 : ∀ r,(kd_25.v r).length = 1 ∧ ones (kd_25.v r) = true := fun _ => ⟨rfl,rfl⟩

theorem sl_75 : SlT Tryz.prog 75 25 1 24 (.slice none 0 0) := SlT.of Tryz.underlying75 (by kernel_rfl) (by decide)

theorem bt_101 : builtInfo Tryz.prog 101 = some ([.int .i64 0,.slice none 0 0],[(0,1),(1,1)]) := by kernel_rfl

@[reducible] def kd_101 : Kd crew_Station := Kd.comp (kL encI_i64 3 1) (fun x => x.Order) (fun h x => [.int .i64 x.Places,.slice h.1 x.Order.length h.2])
theorem kdo_101 : KdOk kd_101 := KdOk.comp (kL_ok _ _ _) _ _
theorem one_kd_101 : ∀ r,(kd_101.v r).length = 2 ∧ ones (kd_101.v r) = true := fun _ => ⟨rfl,rfl⟩

theorem sl_76 : SlT Tryz.prog 76 101 2 32 (.agg #[.int .i64 0,.slice none 0 0]) := SlT.of Tryz.underlying76 (by kernel_rfl) (by decide)

theorem bt_78 : builtInfo Tryz.prog 78 = some ([.slice none 0 0,.slice none 0 0],[(0,1),(1,1)]) := by kernel_rfl

theorem sz_78 : (Tryz.prog.info? 78).map (·.size) = some 2 := by kernel_rfl

theorem ag_78 : AggT Tryz.prog 78 2 := ⟨⟨_,Tryz.underlying78,trivial⟩,by kernel_rfl⟩

theorem en_67 : En Tryz.prog 67 := En.of Tryz.func67 (by kernel_rfl) (by kernel_rfl)

theorem fa_78_0 : ∀ (q : Addr) (w : World),(Instr.fieldAt 78 (.pointer (some q)) 0).run Tryz.prog w = .ok (.pointer (some (q.add 0))) w := fun _ _ => by kernel_rfl

theorem sc_75 : ScT Tryz.prog 75 := ⟨⟨_,Tryz.underlying75,trivial⟩,by kernel_rfl⟩

theorem fa_78_1 : ∀ (q : Addr) (w : World),(Instr.fieldAt 78 (.pointer (some q)) 1).run Tryz.prog w = .ok (.pointer (some (q.add 1))) w := fun _ _ => by kernel_rfl

theorem sc_76 : ScT Tryz.prog 76 := ⟨⟨_,Tryz.underlying76,trivial⟩,by kernel_rfl⟩

theorem sz_25 : (Tryz.prog.info? 25).map (·.size) = some 1 := by kernel_rfl

theorem sc_25 : ScT Tryz.prog 25 := ⟨⟨_,Tryz.underlying25,trivial⟩,by kernel_rfl⟩

theorem sc_185 : ScT Tryz.prog 185 := ⟨⟨_,Tryz.underlying185,trivial⟩,by kernel_rfl⟩

theorem sc_143 : ScT Tryz.prog 143 := ⟨⟨_,Tryz.underlying143,trivial⟩,by kernel_rfl⟩

theorem en_118 : En Tryz.prog 118 := En.of Tryz.func118 (by kernel_rfl) (by kernel_rfl)

theorem en_157 : En Tryz.prog 157 := En.of Tryz.func157 (by kernel_rfl) (by kernel_rfl)

theorem en_97 : En Tryz.prog 97 := En.of Tryz.func97 (by kernel_rfl) (by kernel_rfl)

theorem en_113 : En Tryz.prog 113 := En.of Tryz.func113 (by kernel_rfl) (by kernel_rfl)

theorem en_87 : En Tryz.prog 87 := En.of Tryz.func87 (by kernel_rfl) (by kernel_rfl)

theorem en_117 : En Tryz.prog 117 := En.of Tryz.func117 (by kernel_rfl) (by kernel_rfl)

theorem en_169 : En Tryz.prog 169 := En.of Tryz.func169 (by kernel_rfl) (by kernel_rfl)

theorem en_191 : En Tryz.prog 191 := En.of Tryz.func191 (by kernel_rfl) (by kernel_rfl)

theorem en_168 : En Tryz.prog 168 := En.of Tryz.func168 (by kernel_rfl) (by kernel_rfl)

theorem en_116 : En Tryz.prog 116 := En.of Tryz.func116 (by kernel_rfl) (by kernel_rfl)

theorem sz_101 : (Tryz.prog.info? 101).map (·.size) = some 2 := by kernel_rfl

theorem ag_101 : AggT Tryz.prog 101 2 := ⟨⟨_,Tryz.underlying101,trivial⟩,by kernel_rfl⟩

theorem sc_187 : ScT Tryz.prog 187 := ⟨⟨_,Tryz.underlying187,trivial⟩,by kernel_rfl⟩

theorem fa_101_0 : ∀ (q : Addr) (w : World),(Instr.fieldAt 101 (.pointer (some q)) 0).run Tryz.prog w = .ok (.pointer (some (q.add 0))) w := fun _ _ => by kernel_rfl

theorem fa_101_1 : ∀ (q : Addr) (w : World),(Instr.fieldAt 101 (.pointer (some q)) 1).run Tryz.prog w = .ok (.pointer (some (q.add 1))) w := fun _ _ => by kernel_rfl

theorem en_121 : En Tryz.prog 121 := En.of Tryz.func121 (by kernel_rfl) (by kernel_rfl)

theorem en_120 : En Tryz.prog 120 := En.of Tryz.func120 (by kernel_rfl) (by kernel_rfl)

theorem en_171 : En Tryz.prog 171 := En.of Tryz.func171 (by kernel_rfl) (by kernel_rfl)

theorem en_192 : En Tryz.prog 192 := En.of Tryz.func192 (by kernel_rfl) (by kernel_rfl)

theorem en_170 : En Tryz.prog 170 := En.of Tryz.func170 (by kernel_rfl) (by kernel_rfl)

theorem en_119 : En Tryz.prog 119 := En.of Tryz.func119 (by kernel_rfl) (by kernel_rfl)

theorem en_114 : En Tryz.prog 114 := En.of Tryz.func114 (by kernel_rfl) (by kernel_rfl)

theorem en_72 : En Tryz.prog 72 := En.of Tryz.func72 (by kernel_rfl) (by kernel_rfl)

theorem en_122 : En Tryz.prog 122 := En.of Tryz.func122 (by kernel_rfl) (by kernel_rfl)

theorem en_123 : En Tryz.prog 123 := En.of Tryz.func123 (by kernel_rfl) (by kernel_rfl)

theorem en_55 : En Tryz.prog 55 := En.of Tryz.func55 (by kernel_rfl) (by kernel_rfl)

theorem bt_181 : builtInfo Tryz.prog 181 = some ((catc [.slice none 0 0,.slice none 0 0] 144 encI_i64 (fun _ => 0) []),[(0,2),(2,144)]) := by kernel_rfl

theorem zr_101 : (Tryz.prog.info? 101).map (·.zero) = some (some (.agg #[.int .i64 0,.slice none 0 0])) := by kernel_rfl

theorem fa_181_1 : ∀ (q : Addr) (w : World),(Instr.fieldAt 181 (.pointer (some q)) 1).run Tryz.prog w = .ok (.pointer (some (q.add 2))) w := fun _ _ => by kernel_rfl

theorem sz_178 : (Tryz.prog.info? 178).map (·.size) = some 12 := by kernel_rfl

theorem en_105 : En Tryz.prog 105 := En.of Tryz.func105 (by kernel_rfl) (by kernel_rfl)

theorem sc_166 : ScT Tryz.prog 166 := ⟨⟨_,Tryz.underlying166,trivial⟩,by kernel_rfl⟩

theorem fa_181_0 : ∀ (q : Addr) (w : World),(Instr.fieldAt 181 (.pointer (some q)) 0).run Tryz.prog w = .ok (.pointer (some (q.add 0))) w := fun _ _ => by kernel_rfl

@[reducible] def kd_223 : Kd (Option (List (Int × Bool))) := kM Value.bool
theorem one_kd_223 : ∀ r,(kd_223.v r).length = 1 ∧ ones (kd_223.v r) = true := one_kM _

theorem sl_222 : SlT Tryz.prog 222 223 1 8 (.map none) := SlT.of Tryz.underlying222 (by kernel_rfl) (by decide)

theorem zr_222 : (Tryz.prog.info? 222).map (·.zero) = some (some (.slice none 0 0)) := by kernel_rfl

theorem sz_222 : (Tryz.prog.info? 222).map (·.size) = some 1 := by kernel_rfl

theorem sc_222 : ScT Tryz.prog 222 := ⟨⟨_,Tryz.underlying222,trivial⟩,by kernel_rfl⟩

theorem sz_223 : (Tryz.prog.info? 223).map (·.size) = some 1 := by kernel_rfl

theorem en_166 : En Tryz.prog 166 := En.of Tryz.func166 (by kernel_rfl) (by kernel_rfl)

theorem en_107 : En Tryz.prog 107 := En.of Tryz.func107 (by kernel_rfl) (by kernel_rfl)

theorem zr_25 : (Tryz.prog.info? 25).map (·.zero) = some (some (.slice none 0 0)) := by kernel_rfl

theorem zr_99 : (Tryz.prog.info? 99).map (·.zero) = some (some (.slice none 0 0)) := by kernel_rfl

theorem zr_213 : (Tryz.prog.info? 213).map (·.zero) = some (some (.nilFunc)) := by kernel_rfl

theorem sz_213 : (Tryz.prog.info? 213).map (·.size) = some 1 := by kernel_rfl

theorem sc_213 : ScT Tryz.prog 213 := ⟨⟨_,Tryz.underlying213,trivial⟩,by kernel_rfl⟩

theorem en_111 : En Tryz.prog 111 := En.of Tryz.func111 (by kernel_rfl) (by kernel_rfl)

theorem en_110 : En Tryz.prog 110 := En.of Tryz.func110 (by kernel_rfl) (by kernel_rfl)

theorem zr_3 : (Tryz.prog.info? 3).map (·.zero) = some (some (.int .i64 0)) := by kernel_rfl

theorem sc_99 : ScT Tryz.prog 99 := ⟨⟨_,Tryz.underlying99,trivial⟩,by kernel_rfl⟩

theorem sz_86 : (Tryz.prog.info? 86).map (·.size) = some 2 := by kernel_rfl

theorem ag_86 : AggT Tryz.prog 86 2 := ⟨⟨_,Tryz.underlying86,trivial⟩,by kernel_rfl⟩

theorem bt_86 : builtInfo Tryz.prog 86 = some ([.int .i64 0,.int .i64 0],[(0,1),(1,1)]) := by kernel_rfl

theorem ge_86 : Tryz.prog.eqGuardType Tryz.prog.depth 86 = false := by kernel_rfl

theorem eqs_86 (x0 : Int) (x1 : Int) (y0 : Int) (y1 : Int) (w : World) : (Op.equalIn 10000 86 (.agg #[.int .i64 x0,.int .i64 x1]) (.agg #[.int .i64 y0,.int .i64 y1])).run Tryz.prog w = .ok (x0 == y0 && x1 == y1) w := by
 rw [run_equalIn_agg w 9999 86 _ _ (by kernel_rfl) (by kernel_rfl)]
 simp [Op.eqFields,part,go_sem]
 repeat' split
 all_goals simp_all

theorem en_165 : En Tryz.prog 165 := En.of Tryz.func165 (by kernel_rfl) (by kernel_rfl)

theorem en_188 : En Tryz.prog 188 := En.of Tryz.func188 (by kernel_rfl) (by kernel_rfl)

theorem en_164 : En Tryz.prog 164 := En.of Tryz.func164 (by kernel_rfl) (by kernel_rfl)

theorem sc_223 : ScT Tryz.prog 223 := ⟨⟨_,Tryz.underlying223,trivial⟩,by kernel_rfl⟩

theorem zr_4 : (Tryz.prog.info? 4).map (·.zero) = some (some (.bool false)) := by kernel_rfl

theorem sl_99 : SlT Tryz.prog 99 86 2 16 (.agg #[.int .i64 0,.int .i64 0]) := SlT.of Tryz.underlying99 (by kernel_rfl) (by decide)

theorem sz_99 : (Tryz.prog.info? 99).map (·.size) = some 1 := by kernel_rfl

theorem en_163 : En Tryz.prog 163 := En.of Tryz.func163 (by kernel_rfl) (by kernel_rfl)

theorem en_167 : En Tryz.prog 167 := En.of Tryz.func167 (by kernel_rfl) (by kernel_rfl)

theorem en_106 : En Tryz.prog 106 := En.of Tryz.func106 (by kernel_rfl) (by kernel_rfl)

theorem en_43 : En Tryz.prog 43 := En.of Tryz.func43 (by kernel_rfl) (by kernel_rfl)

theorem zr_86 : (Tryz.prog.info? 86).map (·.zero) = some (some (.agg #[.int .i64 0,.int .i64 0])) := by kernel_rfl

theorem zr_166 : (Tryz.prog.info? 166).map (·.zero) = some (some (.pointer none)) := by kernel_rfl

theorem zr_34 : (Tryz.prog.info? 34).map (·.zero) = some (some (.int .i64 0)) := by kernel_rfl

theorem sz_166 : (Tryz.prog.info? 166).map (·.size) = some 1 := by kernel_rfl

theorem sz_34 : (Tryz.prog.info? 34).map (·.size) = some 1 := by kernel_rfl

theorem sc_34 : ScT Tryz.prog 34 := ⟨⟨_,Tryz.underlying34,trivial⟩,by kernel_rfl⟩

theorem en_108 : En Tryz.prog 108 := En.of Tryz.func108 (by kernel_rfl) (by kernel_rfl)

theorem zr_172 : (Tryz.prog.info? 172).map (·.zero) = some (some (.agg #[.slice none 0 0,.slice none 0 0,.slice none 0 0,.slice none 0 0,.slice none 0 0,.slice none 0 0,.slice none 0 0,.slice none 0 0,.slice none 0 0,.slice none 0 0,.slice none 0 0,.slice none 0 0])) := by kernel_rfl

theorem ag_172 : AggT Tryz.prog 172 12 := ⟨⟨_,Tryz.underlying172,trivial⟩,by kernel_rfl⟩

theorem sz_172 : (Tryz.prog.info? 172).map (·.size) = some 12 := by kernel_rfl

theorem en_109 : En Tryz.prog 109 := En.of Tryz.func109 (by kernel_rfl) (by kernel_rfl)

theorem en_112 : En Tryz.prog 112 := En.of Tryz.func112 (by kernel_rfl) (by kernel_rfl)

theorem en_46 : En Tryz.prog 46 := En.of Tryz.func46 (by kernel_rfl) (by kernel_rfl)

theorem sc_192 : ScT Tryz.prog 192 := ⟨⟨_,Tryz.underlying192,trivial⟩,by kernel_rfl⟩

theorem fa_86_0 : ∀ (q : Addr) (w : World),(Instr.fieldAt 86 (.pointer (some q)) 0).run Tryz.prog w = .ok (.pointer (some (q.add 0))) w := fun _ _ => by kernel_rfl

theorem fa_86_1 : ∀ (q : Addr) (w : World),(Instr.fieldAt 86 (.pointer (some q)) 1).run Tryz.prog w = .ok (.pointer (some (q.add 1))) w := fun _ _ => by kernel_rfl

theorem en_129 : En Tryz.prog 129 := En.of Tryz.func129 (by kernel_rfl) (by kernel_rfl)

theorem en_172 : En Tryz.prog 172 := En.of Tryz.func172 (by kernel_rfl) (by kernel_rfl)

theorem en_128 : En Tryz.prog 128 := En.of Tryz.func128 (by kernel_rfl) (by kernel_rfl)

theorem sz_4 : (Tryz.prog.info? 4).map (·.size) = some 1 := by kernel_rfl

theorem sc_4 : ScT Tryz.prog 4 := ⟨⟨_,Tryz.underlying4,trivial⟩,by kernel_rfl⟩

theorem en_193 : En Tryz.prog 193 := En.of Tryz.func193 (by kernel_rfl) (by kernel_rfl)

theorem en_173 : En Tryz.prog 173 := En.of Tryz.func173 (by kernel_rfl) (by kernel_rfl)

theorem en_130 : En Tryz.prog 130 := En.of Tryz.func130 (by kernel_rfl) (by kernel_rfl)

theorem en_59 : En Tryz.prog 59 := En.of Tryz.func59 (by kernel_rfl) (by kernel_rfl)

theorem en_68 : En Tryz.prog 68 := En.of Tryz.func68 (by kernel_rfl) (by kernel_rfl)

theorem en_29 : En Tryz.prog 29 := En.of Tryz.func29 (by kernel_rfl) (by kernel_rfl)

theorem en_21 : En Tryz.prog 21 := En.of Tryz.func21 (by kernel_rfl) (by kernel_rfl)

theorem zr_54 : (Tryz.prog.info? 54).map (·.zero) = some (some (.agg #[.int .i64 0,.int .i64 0,.int .i64 0,.int .i64 0,.slice none 0 0])) := by kernel_rfl

theorem bt_72 : builtInfo Tryz.prog 72 = some ([.int .i64 0,.int .i64 0,.int .i64 0,.int .i64 0],[(0,1),(1,1),(2,2)]) := by kernel_rfl

theorem sl_52 : SlT Tryz.prog 52 72 4 32 (.agg #[.int .i64 0,.int .i64 0,.int .i64 0,.int .i64 0]) := SlT.of Tryz.underlying52 (by kernel_rfl) (by decide)

theorem bt_54 : builtInfo Tryz.prog 54 = some ([.int .i64 0,.int .i64 0,.int .i64 0,.int .i64 0,.slice none 0 0],[(0,1),(1,1),(2,1),(3,1),(4,1)]) := by kernel_rfl

theorem sz_54 : (Tryz.prog.info? 54).map (·.size) = some 5 := by kernel_rfl

theorem ag_54 : AggT Tryz.prog 54 5 := ⟨⟨_,Tryz.underlying54,trivial⟩,by kernel_rfl⟩

theorem en_69 : En Tryz.prog 69 := En.of Tryz.func69 (by kernel_rfl) (by kernel_rfl)

theorem fa_54_4 : ∀ (q : Addr) (w : World),(Instr.fieldAt 54 (.pointer (some q)) 4).run Tryz.prog w = .ok (.pointer (some (q.add 4))) w := fun _ _ => by kernel_rfl

theorem sc_52 : ScT Tryz.prog 52 := ⟨⟨_,Tryz.underlying52,trivial⟩,by kernel_rfl⟩

theorem fa_54_0 : ∀ (q : Addr) (w : World),(Instr.fieldAt 54 (.pointer (some q)) 0).run Tryz.prog w = .ok (.pointer (some (q.add 0))) w := fun _ _ => by kernel_rfl

theorem fa_54_1 : ∀ (q : Addr) (w : World),(Instr.fieldAt 54 (.pointer (some q)) 1).run Tryz.prog w = .ok (.pointer (some (q.add 1))) w := fun _ _ => by kernel_rfl

theorem fa_54_2 : ∀ (q : Addr) (w : World),(Instr.fieldAt 54 (.pointer (some q)) 2).run Tryz.prog w = .ok (.pointer (some (q.add 2))) w := fun _ _ => by kernel_rfl

theorem fa_54_3 : ∀ (q : Addr) (w : World),(Instr.fieldAt 54 (.pointer (some q)) 3).run Tryz.prog w = .ok (.pointer (some (q.add 3))) w := fun _ _ => by kernel_rfl

theorem sz_72 : (Tryz.prog.info? 72).map (·.size) = some 4 := by kernel_rfl

theorem ag_72 : AggT Tryz.prog 72 4 := ⟨⟨_,Tryz.underlying72,trivial⟩,by kernel_rfl⟩

theorem sc_155 : ScT Tryz.prog 155 := ⟨⟨_,Tryz.underlying155,trivial⟩,by kernel_rfl⟩

theorem fa_72_0 : ∀ (q : Addr) (w : World),(Instr.fieldAt 72 (.pointer (some q)) 0).run Tryz.prog w = .ok (.pointer (some (q.add 0))) w := fun _ _ => by kernel_rfl

theorem fa_72_1 : ∀ (q : Addr) (w : World),(Instr.fieldAt 72 (.pointer (some q)) 1).run Tryz.prog w = .ok (.pointer (some (q.add 1))) w := fun _ _ => by kernel_rfl

theorem fa_72_2 : ∀ (q : Addr) (w : World),(Instr.fieldAt 72 (.pointer (some q)) 2).run Tryz.prog w = .ok (.pointer (some (q.add 2))) w := fun _ _ => by kernel_rfl

theorem en_91 : En Tryz.prog 91 := En.of Tryz.func91 (by kernel_rfl) (by kernel_rfl)

theorem en_159 : En Tryz.prog 159 := En.of Tryz.func159 (by kernel_rfl) (by kernel_rfl)

theorem en_185 : En Tryz.prog 185 := En.of Tryz.func185 (by kernel_rfl) (by kernel_rfl)

theorem en_158 : En Tryz.prog 158 := En.of Tryz.func158 (by kernel_rfl) (by kernel_rfl)

theorem en_90 : En Tryz.prog 90 := En.of Tryz.func90 (by kernel_rfl) (by kernel_rfl)

theorem en_31 : En Tryz.prog 31 := En.of Tryz.func31 (by kernel_rfl) (by kernel_rfl)

theorem zr_72 : (Tryz.prog.info? 72).map (·.zero) = some (some (.agg #[.int .i64 0,.int .i64 0,.int .i64 0,.int .i64 0])) := by kernel_rfl

theorem en_104 : En Tryz.prog 104 := En.of Tryz.func104 (by kernel_rfl) (by kernel_rfl)

theorem en_160 : En Tryz.prog 160 := En.of Tryz.func160 (by kernel_rfl) (by kernel_rfl)

theorem en_93 : En Tryz.prog 93 := En.of Tryz.func93 (by kernel_rfl) (by kernel_rfl)

theorem en_34 : En Tryz.prog 34 := En.of Tryz.func34 (by kernel_rfl) (by kernel_rfl)

theorem en_150 : En Tryz.prog 150 := En.of Tryz.func150 (by kernel_rfl) (by kernel_rfl)

theorem en_161 : En Tryz.prog 161 := En.of Tryz.func161 (by kernel_rfl) (by kernel_rfl)

theorem en_162 : En Tryz.prog 162 := En.of Tryz.func162 (by kernel_rfl) (by kernel_rfl)

theorem en_95 : En Tryz.prog 95 := En.of Tryz.func95 (by kernel_rfl) (by kernel_rfl)

theorem en_99 : En Tryz.prog 99 := En.of Tryz.func99 (by kernel_rfl) (by kernel_rfl)

theorem en_98 : En Tryz.prog 98 := En.of Tryz.func98 (by kernel_rfl) (by kernel_rfl)

theorem en_96 : En Tryz.prog 96 := En.of Tryz.func96 (by kernel_rfl) (by kernel_rfl)

theorem en_36 : En Tryz.prog 36 := En.of Tryz.func36 (by kernel_rfl) (by kernel_rfl)

theorem sz_52 : (Tryz.prog.info? 52).map (·.size) = some 1 := by kernel_rfl

theorem en_101 : En Tryz.prog 101 := En.of Tryz.func101 (by kernel_rfl) (by kernel_rfl)

theorem en_102 : En Tryz.prog 102 := En.of Tryz.func102 (by kernel_rfl) (by kernel_rfl)

theorem en_103 : En Tryz.prog 103 := En.of Tryz.func103 (by kernel_rfl) (by kernel_rfl)

theorem en_38 : En Tryz.prog 38 := En.of Tryz.func38 (by kernel_rfl) (by kernel_rfl)

theorem bt_24 : builtInfo Tryz.prog 24 = some ([.int .i64 0,.int .i64 0,.int .i64 0],[(0,1),(1,1),(2,1)]) := by kernel_rfl

theorem fa_24_0 : ∀ (q : Addr) (w : World),(Instr.fieldAt 24 (.pointer (some q)) 0).run Tryz.prog w = .ok (.pointer (some (q.add 0))) w := fun _ _ => by kernel_rfl

theorem fa_24_1 : ∀ (q : Addr) (w : World),(Instr.fieldAt 24 (.pointer (some q)) 1).run Tryz.prog w = .ok (.pointer (some (q.add 1))) w := fun _ _ => by kernel_rfl

theorem fa_24_2 : ∀ (q : Addr) (w : World),(Instr.fieldAt 24 (.pointer (some q)) 2).run Tryz.prog w = .ok (.pointer (some (q.add 2))) w := fun _ _ => by kernel_rfl

theorem en_88 : En Tryz.prog 88 := En.of Tryz.func88 (by kernel_rfl) (by kernel_rfl)

theorem en_26 : En Tryz.prog 26 := En.of Tryz.func26 (by kernel_rfl) (by kernel_rfl)

theorem en_15 : En Tryz.prog 15 := En.of Tryz.func15 (by kernel_rfl) (by kernel_rfl)

def kit_New (N : Nat) (bytes : List Int) : Option (Int × Int) :=
 some (0,0)
theorem kit_New_ok {N : Nat} {G : Pers} {Lf : List Ent} {w : World} (bytes : List Int) {bytes_p : Option Addr} {bytes_c : Nat} (h_bytes : Rd G 1 bytes_p bytes_c (bytes.map encI_u8)) (hc : Ctx G (Lf) w) {res : Int × Int} (hF : kit_New N bytes = some res) : Calls Tryz.prog 42 #[.slice bytes_p bytes.length bytes_c] w (fun e w => ∃ (b'1 : Nat),e = .returned (.pointer (some ⟨b'1,0,none⟩)) ∧ Ctx G (.box b'1 [.slice bytes_p bytes.length bytes_c,.int .i64 res.1,.int .i64 res.2] 165::Lf) w) := by
 unfold kit_New at hF
 refine fnIn (args := [.slice bytes_p bytes.length bytes_c]) Tryz.func42 rfl Tryz.ntmps42 rfl fun a hf => wp_seq_k fun K1 h1 => cReg ?_
 refine stP hf rfl rfl rfl (pA rfl) fun a hf => cNil ?_
 refine h1 _ _ ?_
 refine wp_seq_k fun K2 h2 => cReg ?_
 refine stP hf rfl rfl rfl (pM rfl) fun a hf => stP hf rfl rfl rfl (pBuildS (cells := [.slice bytes_p bytes.length bytes_c,.int .i64 0,.int .i64 0]) bt_165 rfl rfl) fun a hf => stBx (cs := [.slice bytes_p bytes.length bytes_c,.int .i64 0,.int .i64 0]) hf hc rfl rfl rfl rfl fun b_1 a w hf hc => stP hf rfl rfl rfl (pA rfl) fun a hf => cNil ?_
 refine h2 _ _ ?_
 refine wp_ret ?_
 obtain rfl := Option.some.inj hF
 exact fnOut1 (by simp) rfl Tryz.results42 hf hc (show look _ 2 = _ from rfl) ⟨b_1,rfl,hc⟩

def kit_Stream_Next_j9 (N : Nat) (s_ : kit_Stream) (n : Int) (b_2 : Int) (b_3 : Int) : Option (Int × Int × Int) :=
 Option.bind (nz n) fun un_1 =>
 some (b_3.tmod n,W (s_.used + 1),(W ((W ((W (5 * s_.mix)) + b_2)) + 1)).tmod 251)
def kit_Stream_Next_j6 (N : Nat) (s_ : kit_Stream) (n : Int) (b_2 : Int) : Option (Int × Int × Int) :=
 cond (decide (256 < n))
 (kit_Stream_Next_j9 N s_ n b_2 (W ((W (256 * b_2)) + ((W ((W ((W (5 * s_.mix)) + b_2)) + 1)).tmod 251))))
 (kit_Stream_Next_j9 N s_ n b_2 b_2)
def kit_Stream_Next (N : Nat) (s_ : kit_Stream) (n : Int) : Option (Int × Int × Int) :=
 cond ((decide (n < 2)) || (((s_.bytes.length : Nat) : Int) == 0))
 (some (0,s_.used,s_.mix))
 (Option.bind (nz ((s_.bytes.length : Nat) : Int)) fun un =>
 Option.bind (getI s_.bytes (s_.used.tmod ((s_.bytes.length : Nat) : Int))) fun e_1 =>
 cond (decide (((s_.bytes.length : Nat) : Int) ≤ s_.used))
 (Option.bind (nz ((s_.bytes.length : Nat) : Int)) fun un_2 =>
 kit_Stream_Next_j6 N s_ n (W ((W (e_1)) + (W ((W (11 * s_.mix)) + (W (s_.used.tdiv ((s_.bytes.length : Nat) : Int))))))))
 (kit_Stream_Next_j6 N s_ n (W (e_1))))
theorem kit_Stream_Next_ok {N : Nat} {G : Pers} {Lf : List Ent} {w : World} (s_ : kit_Stream) (n : Int) {b_ : Nat} {s__bytes_p : Option Addr} {s__bytes_c : Nat} (h_s__bytes : Rd G 1 s__bytes_p s__bytes_c (s_.bytes.map encI_u8)) (hc : Ctx G (.box b_ [.slice s__bytes_p s_.bytes.length s__bytes_c,.int .i64 s_.used,.int .i64 s_.mix] 165::Lf) w) {res : Int × Int × Int} (hF : kit_Stream_Next N s_ n = some res) : Calls Tryz.prog 45 #[.pointer (some ⟨b_,0,none⟩),.int .i64 n] w (fun e w => e = .returned (.int .i64 res.1) ∧ Ctx G (.box b_ [.slice s__bytes_p s_.bytes.length s__bytes_c,.int .i64 res.2.1,.int .i64 res.2.2] 165::Lf) w) := by
 unfold kit_Stream_Next at hF
 refine fnIn (args := [.pointer (some ⟨b_,0,none⟩),.int .i64 n]) Tryz.func45 rfl Tryz.ntmps45 rfl fun a hf => wp_seq_k fun K1 h1 => cReg ?_
 refine stP hf rfl rfl rfl (pA rfl) fun a hf => cNil ?_
 refine h1 _ _ ?_
 refine wp_seq_k fun K2 h2 => wp_seq_k fun K3 h3 => cReg ?_
 refine stP hf rfl rfl rfl (pM rfl) fun a hf => stP hf rfl rfl rfl (pLt rfl rfl) fun a hf => stP hf rfl rfl rfl (pM rfl) fun a hf => stCut 7 (fun a w => Has 92 a [(0,.pointer (some ⟨b_,0,none⟩)),(1,.int .i64 n),(6,.int .i64 n),(7,.bool (decide (n < 2))),(8,.bool (decide (n < 2))),(15,.bool ((decide (n < 2)) || (((s_.bytes.length : Nat) : Int) == 0)))] ∧ Ctx G (.box b_ [.slice s__bytes_p s_.bytes.length s__bytes_c,.int .i64 s_.used,.int .i64 s_.mix] 165::Lf) w) ?_ ?_
 ·cases hb : (decide (n < 2))
  ·rw [hb] at hf
   refine stP hf rfl rfl rfl (pM rfl) fun a hf => stP hf rfl rfl rfl (pNC rfl) fun a hf => stP hf rfl rfl rfl (pFA fa_165_0 rfl) fun a hf => stE hf hc rfl rfl rfl (eLd1 sc_74 rfl (cell_box m0 rfl)) fun a w hf hc => stP hf rfl rfl rfl (pLenS Tryz.underlying74 rfl) fun a hf => stP hf rfl rfl rfl (pEq rfl rfl) fun a hf => stP hf rfl rfl rfl (pPf rfl rfl) fun a hf => cNil ⟨hf.keep ⟨rfl,rfl,rfl,rfl,rfl,rfl,trivial⟩,hc⟩
  ·rw [hb] at hf
   refine stS hf rfl rfl rfl fun a hf => stS hf rfl rfl rfl fun a hf => stS hf rfl rfl rfl fun a hf => stS hf rfl rfl rfl fun a hf => stS hf rfl rfl rfl fun a hf => stS hf rfl rfl rfl fun a hf => stP hf rfl rfl rfl (pPt rfl rfl) fun a hf => cNil ⟨hf.keep ⟨rfl,rfl,rfl,rfl,rfl,rfl,trivial⟩,hc⟩
 intro a w ⟨hf,hc⟩
 refine cNil ?_
 refine h3 _ _ ?_
 refine cCond (b := ((decide (n < 2)) || (((s_.bytes.length : Nat) : Int) == 0))) hf rfl (fun hb => ?_) (fun hb => ?_)
 ·replace hF := condT hb hF
  clear hb
  refine wp_seq_k fun K4 h4 => cReg ?_
  refine stP hf rfl rfl rfl (pA rfl) fun a hf => cNil ?_
  refine h4 _ _ ?_
  refine wp_ret ?_
  refine xThenR ?_
  obtain rfl := Option.some.inj hF
  exact fnOut1 (by simp) rfl Tryz.results45 hf hc (show look _ 4 = _ from rfl) ⟨rfl,hc⟩
 ·replace hF := condF hb hF
  clear hb
  refine wp_skip ?_
  refine h2 _ _ ?_
  refine wp_seq_k fun K5 h5 => ?_
  obtain ⟨un,hun,hF⟩ := bnd_some hF
  obtain ⟨e_1,he_1,hF⟩ := bnd_some hF
  obtain ⟨b_1,o,qa,qp⟩ := h_s__bytes.atm he_1
  refine cQ hc follows_mx (by kernel_rfl) ?_
  refine qE hf rfl rfl rfl (Pu.ev (pM rfl)) fun a hf => qE hf rfl rfl rfl (Pu.ev (pNC rfl)) fun a hf => qE hf rfl rfl rfl (Pu.ev (pFA fa_165_0 rfl)) fun a hf => qE hf rfl rfl rfl (eLd1 sc_74 rfl (cell_box m0 rfl)) fun a hf => qE hf rfl rfl rfl (Pu.ev (pM rfl)) fun a hf => qE hf rfl rfl rfl (Pu.ev (pNC rfl)) fun a hf => qE hf rfl rfl rfl (Pu.ev (pFA fa_165_1 rfl)) fun a hf => qE hf rfl rfl rfl (eLd1 sc_3 rfl (cell_box m0 rfl)) fun a hf => qE hf rfl rfl rfl (Pu.ev (pM rfl)) fun a hf => qE hf rfl rfl rfl (Pu.ev (pNC rfl)) fun a hf => qE hf rfl rfl rfl (Pu.ev (pFA fa_165_0 rfl)) fun a hf => qE hf rfl rfl rfl (eLd1 sc_74 rfl (cell_box m0 rfl)) fun a hf => qE hf rfl rfl rfl (Pu.ev (pLenS Tryz.underlying74 rfl)) fun a hf => ?_
  refine qE hf rfl rfl rfl (Pu.ev (pRem rfl rfl (nz_spec hun))) fun a hf => qE hf rfl rfl rfl (Pu.ev (pIA Tryz.underlying74 sz_5 rfl rfl qa)) fun a hf => qE hf rfl rfl rfl (eLd1 sc_5 rfl (cell_pc (j := 0) qp rfl)) fun a hf => qE hf rfl rfl rfl (Pu.ev (pCv Tryz.underlying5 Tryz.underlying3 rfl)) fun a hf => qE hf rfl rfl rfl (Pu.ev (pA rfl)) fun a hf => ?_
  intro w hc
  refine h5 _ _ ?_
  refine wp_seq_k fun K6 h6 => ?_
  have hj6 : ∀ (b_2 : Int) a w,Has 92 a [(0,.pointer (some ⟨b_,0,none⟩)),(1,.int .i64 n),(5,.int .i64 b_2)] → Ctx G (.box b_ [.slice s__bytes_p s_.bytes.length s__bytes_c,.int .i64 s_.used,.int .i64 s_.mix] 165::Lf) w → kit_Stream_Next_j6 N s_ n b_2 = some res → K6 a w := by
   repeat (clear hF)
   repeat (clear hc)
   repeat (clear hf)
   intro b_2 a w hf hc hF
   unfold kit_Stream_Next_j6 at hF
   refine h6 _ _ ?_
   refine wp_seq_k fun K7 h7 => cReg ?_
   refine stP hf rfl rfl rfl (pM rfl) fun a hf => stP hf rfl rfl rfl (pM rfl) fun a hf => stP hf rfl rfl rfl (pNC rfl) fun a hf => stP hf rfl rfl rfl (pFA fa_165_2 rfl) fun a hf => stE hf hc rfl rfl rfl (eLd1 sc_3 rfl (cell_box m0 rfl)) fun a w hf hc => stP hf rfl rfl rfl (pMul rfl rfl) fun a hf => stP hf rfl rfl rfl (pM rfl) fun a hf => stP hf rfl rfl rfl (pAdd rfl rfl) fun a hf => stP hf rfl rfl rfl (pAdd rfl rfl) fun a hf => stP hf rfl rfl rfl (pRem rfl rfl (by decide)) fun a hf => stP hf rfl rfl rfl (pNC rfl) fun a hf => stP hf rfl rfl rfl (pFA fa_165_2 rfl) fun a hf => stSt (vs := [.int .i64 ((W ((W ((W (5 * s_.mix)) + b_2)) + 1)).tmod 251)]) hf hc rfl rfl rfl rfl sz_3 rfl rfl u0 fun w hc => ?_
   refine cNil ?_
   refine h7 _ _ ?_
   refine wp_seq_k fun K8 h8 => cReg ?_
   refine stP hf rfl rfl rfl (pM rfl) fun a hf => stP hf rfl rfl rfl (pNC rfl) fun a hf => stP hf rfl rfl rfl (pFA fa_165_1 rfl) fun a hf => stE hf hc rfl rfl rfl (eLd1 sc_3 rfl (cell_box m0 rfl)) fun a w hf hc => stP hf rfl rfl rfl (pAdd rfl rfl) fun a hf => stP hf rfl rfl rfl (pNC rfl) fun a hf => stP hf rfl rfl rfl (pFA fa_165_1 rfl) fun a hf => stSt (vs := [.int .i64 (W (s_.used + 1))]) hf hc rfl rfl rfl rfl sz_3 rfl rfl u0 fun w hc => cNil ?_
   refine h8 _ _ ?_
   refine wp_seq_k fun K9 h9 => ?_
   have hj9 : ∀ (b_3 : Int) a w,Has 92 a [(1,.int .i64 n),(5,.int .i64 b_3)] → Ctx G (.box b_ [.slice s__bytes_p s_.bytes.length s__bytes_c,.int .i64 (W (s_.used + 1)),.int .i64 ((W ((W ((W (5 * s_.mix)) + b_2)) + 1)).tmod 251)] 165::Lf) w → kit_Stream_Next_j9 N s_ n b_2 b_3 = some res → K9 a w := by
    repeat (clear hF)
    repeat (clear hc)
    repeat (clear hf)
    intro b_3 a w hf hc hF
    unfold kit_Stream_Next_j9 at hF
    refine h9 _ _ ?_
    refine wp_seq_k fun K10 h10 => cReg ?_
    refine stP hf rfl rfl rfl (pM rfl) fun a hf => stP hf rfl rfl rfl (pM rfl) fun a hf => ?_
    obtain ⟨un_1,hun_1,hF⟩ := bnd_some hF
    refine stP hf rfl rfl rfl (pRem rfl rfl (nz_spec hun_1)) fun a hf => stP hf rfl rfl rfl (pA rfl) fun a hf => cNil ?_
    refine h10 _ _ ?_
    refine wp_ret ?_
    obtain rfl := Option.some.inj hF
    exact fnOut1 (by simp) rfl Tryz.results45 hf hc (show look _ 4 = _ from rfl) ⟨rfl,hc⟩
   refine wp_seq_k fun K11 h11 => cReg ?_
   refine stP hf rfl rfl rfl (pM rfl) fun a hf => stP hf rfl rfl rfl (pGt rfl rfl) fun a hf => cNil ?_
   refine h11 _ _ ?_
   refine cCond (b := (decide (256 < n))) hf rfl (fun hb => ?_) (fun hb => ?_)
   ·replace hF := condT hb hF
    clear hb
    refine cReg ?_
    refine stP hf rfl rfl rfl (pM rfl) fun a hf => stP hf rfl rfl rfl (pMul rfl rfl) fun a hf => stP hf rfl rfl rfl (pM rfl) fun a hf => stP hf rfl rfl rfl (pNC rfl) fun a hf => stP hf rfl rfl rfl (pFA fa_165_2 rfl) fun a hf => stE hf hc rfl rfl rfl (eLd1 sc_3 rfl (cell_box m0 rfl)) fun a w hf hc => stP hf rfl rfl rfl (pAdd rfl rfl) fun a hf => stP hf rfl rfl rfl (pA rfl) fun a hf => cNil ?_
    exact hj9 (W ((W (256 * b_2)) + ((W ((W ((W (5 * s_.mix)) + b_2)) + 1)).tmod 251))) _ _  (hf.keep ⟨rfl,rfl,trivial⟩) hc hF
   ·replace hF := condF hb hF
    clear hb
    refine wp_skip ?_
    exact hj9 b_2 _ _  (hf.keep ⟨rfl,rfl,trivial⟩) hc hF
  refine wp_seq_k fun K12 h12 => cQ hc follows_mx (by kernel_rfl) ?_
  refine qE hf rfl rfl rfl (Pu.ev (pM rfl)) fun a hf => qE hf rfl rfl rfl (Pu.ev (pNC rfl)) fun a hf => qE hf rfl rfl rfl (Pu.ev (pFA fa_165_1 rfl)) fun a hf => qE hf rfl rfl rfl (eLd1 sc_3 rfl (cell_box m0 rfl)) fun a hf => qE hf rfl rfl rfl (Pu.ev (pM rfl)) fun a hf => qE hf rfl rfl rfl (Pu.ev (pNC rfl)) fun a hf => qE hf rfl rfl rfl (Pu.ev (pFA fa_165_0 rfl)) fun a hf => qE hf rfl rfl rfl (eLd1 sc_74 rfl (cell_box m0 rfl)) fun a hf => qE hf rfl rfl rfl (Pu.ev (pLenS Tryz.underlying74 rfl)) fun a hf => qE hf rfl rfl rfl (Pu.ev (pGe rfl rfl)) fun a hf => ?_
  intro w hc
  refine h12 _ _ ?_
  refine cCond (b := (decide (((s_.bytes.length : Nat) : Int) ≤ s_.used))) hf rfl (fun hb => ?_) (fun hb => ?_)
  ·replace hF := condT hb hF
   clear hb
   obtain ⟨un_2,hun_2,hF⟩ := bnd_some hF
   refine cQ hc follows_mx (by kernel_rfl) ?_
   refine qE hf rfl rfl rfl (Pu.ev (pM rfl)) fun a hf => qE hf rfl rfl rfl (Pu.ev (pM rfl)) fun a hf => qE hf rfl rfl rfl (Pu.ev (pNC rfl)) fun a hf => qE hf rfl rfl rfl (Pu.ev (pFA fa_165_2 rfl)) fun a hf => qE hf rfl rfl rfl (eLd1 sc_3 rfl (cell_box m0 rfl)) fun a hf => qE hf rfl rfl rfl (Pu.ev (pMul rfl rfl)) fun a hf => qE hf rfl rfl rfl (Pu.ev (pM rfl)) fun a hf => qE hf rfl rfl rfl (Pu.ev (pNC rfl)) fun a hf => qE hf rfl rfl rfl (Pu.ev (pFA fa_165_1 rfl)) fun a hf => qE hf rfl rfl rfl (eLd1 sc_3 rfl (cell_box m0 rfl)) fun a hf => qE hf rfl rfl rfl (Pu.ev (pM rfl)) fun a hf => qE hf rfl rfl rfl (Pu.ev (pNC rfl)) fun a hf => qE hf rfl rfl rfl (Pu.ev (pFA fa_165_0 rfl)) fun a hf => ?_
   refine qE hf rfl rfl rfl (eLd1 sc_74 rfl (cell_box m0 rfl)) fun a hf => qE hf rfl rfl rfl (Pu.ev (pLenS Tryz.underlying74 rfl)) fun a hf => qE hf rfl rfl rfl (Pu.ev (pQuo rfl rfl (nz_spec hun_2))) fun a hf => qE hf rfl rfl rfl (Pu.ev (pAdd rfl rfl)) fun a hf => qE hf rfl rfl rfl (Pu.ev (pAdd rfl rfl)) fun a hf => qE hf rfl rfl rfl (Pu.ev (pA rfl)) fun a hf => ?_
   intro w hc
   exact hj6 (W ((W (e_1)) + (W ((W (11 * s_.mix)) + (W (s_.used.tdiv ((s_.bytes.length : Nat) : Int))))))) _ _  (hf.keep ⟨rfl,rfl,rfl,trivial⟩) hc hF
  ·replace hF := condF hb hF
   clear hb
   refine wp_skip ?_
   exact hj6 (W (e_1)) _ _  (hf.keep ⟨rfl,rfl,rfl,trivial⟩) hc hF

def kit_Stream_Within (N : Nat) (s_ : kit_Stream) (lo : Int) (hi_ : Int) : Option (Int × Int × Int) :=
 Option.bind (kit_Stream_Next N s_ (W ((W (hi_ - lo)) + 1))) fun r =>
 some (W (lo + r.1),r.2.1,r.2.2)
theorem kit_Stream_Within_ok {N : Nat} {G : Pers} {Lf : List Ent} {w : World} (s_ : kit_Stream) (lo : Int) (hi_ : Int) {b_ : Nat} {s__bytes_p : Option Addr} {s__bytes_c : Nat} (h_s__bytes : Rd G 1 s__bytes_p s__bytes_c (s_.bytes.map encI_u8)) (hc : Ctx G (.box b_ [.slice s__bytes_p s_.bytes.length s__bytes_c,.int .i64 s_.used,.int .i64 s_.mix] 165::Lf) w) {res : Int × Int × Int} (hF : kit_Stream_Within N s_ lo hi_ = some res) : Calls Tryz.prog 50 #[.pointer (some ⟨b_,0,none⟩),.int .i64 lo,.int .i64 hi_] w (fun e w => e = .returned (.int .i64 res.1) ∧ Ctx G (.box b_ [.slice s__bytes_p s_.bytes.length s__bytes_c,.int .i64 res.2.1,.int .i64 res.2.2] 165::Lf) w) := by
 unfold kit_Stream_Within at hF
 refine fnIn (args := [.pointer (some ⟨b_,0,none⟩),.int .i64 lo,.int .i64 hi_]) Tryz.func50 rfl Tryz.ntmps50 rfl fun a hf => wp_seq_k fun K1 h1 => cReg ?_
 refine stP hf rfl rfl rfl (pA rfl) fun a hf => cNil ?_
 refine h1 _ _ ?_
 refine wp_seq_k fun K2 h2 => cReg ?_
 refine stP hf rfl rfl rfl (pM rfl) fun a hf => stP hf rfl rfl rfl (pM rfl) fun a hf => stP hf rfl rfl rfl (pM rfl) fun a hf => stP hf rfl rfl rfl (pM rfl) fun a hf => stP hf rfl rfl rfl (pSub rfl rfl) fun a hf => stP hf rfl rfl rfl (pAdd rfl rfl) fun a hf => ?_
 obtain ⟨r,hr,hF⟩ := bnd_some hF
 refine stC (vs := [.pointer (some ⟨b_,0,none⟩),.int .i64 (W ((W (hi_ - lo)) + 1))]) (caps := []) hf rfl rfl rfl en_45 rfl rfl rfl rfl (kit_Stream_Next_ok s_ (W ((W (hi_ - lo)) + 1)) h_s__bytes (hc.pick k0) hr) ?_
 rintro _ w ⟨rfl,hc⟩
 refine ⟨_,rfl,fun a hf => ?_⟩
 refine stP hf rfl rfl rfl (pAdd rfl rfl) fun a hf => stP hf rfl rfl rfl (pA rfl) fun a hf => cNil ?_
 refine h2 _ _ ?_
 refine wp_ret ?_
 obtain rfl := Option.some.inj hF
 exact fnOut1 (by simp) rfl Tryz.results50 hf hc (show look _ 6 = _ from rfl) ⟨rfl,hc⟩

def law11_Toured_b6 (N : Nat) (s_ : kit_Stream) (r : Int × Int × Int) (out : List crew_Visit) (at_ : Int) (x : Int) (b__0 : Int) (b__1 : Int) : Option (Step ((List crew_Visit) × Int × Int × Int × Int) ((List crew_Visit) × Int × Int)) :=
 cond (decide (x < r.1))
 (Option.bind (kit_Stream_Next N (⟨s_.bytes,b__0,b__1⟩ : kit_Stream) 60) fun r_1 =>
 Option.bind (kit_Stream_Next N (⟨s_.bytes,r_1.2.1,r_1.2.2⟩ : kit_Stream) 20) fun r_2 =>
 Option.bind (kit_Stream_Next N (⟨s_.bytes,r_2.2.1,r_2.2.2⟩ : kit_Stream) 40) fun r_3 =>
 Option.bind (kit_Stream_Next N (⟨s_.bytes,r_3.2.1,r_3.2.2⟩ : kit_Stream) 20) fun r_4 =>
 Option.bind (kit_Stream_Within N (⟨s_.bytes,r_4.2.1,r_4.2.2⟩ : kit_Stream) (-40) 20) fun r_5 =>
 Option.bind (kit_Stream_Within N (⟨s_.bytes,r_5.2.1,r_5.2.2⟩ : kit_Stream) 20 120) fun r_6 =>
 Option.bind (room ((out ++ [(⟨(⟨r_1.1,W (r_1.1 + r_2.1)⟩ : api_Span),(⟨r_3.1,W (r_3.1 + r_4.1)⟩ : api_Span),max 0 (W ((W (at_ + (W (r_1.1 + r_2.1)))) + r_5.1)),W ((max 0 (W ((W (at_ + (W (r_1.1 + r_2.1)))) + r_5.1))) + r_6.1)⟩ : crew_Visit)])).length) fun un =>
 some (.cont ((out ++ [(⟨(⟨r_1.1,W (r_1.1 + r_2.1)⟩ : api_Span),(⟨r_3.1,W (r_3.1 + r_4.1)⟩ : api_Span),max 0 (W ((W (at_ + (W (r_1.1 + r_2.1)))) + r_5.1)),W ((max 0 (W ((W (at_ + (W (r_1.1 + r_2.1)))) + r_5.1))) + r_6.1)⟩ : crew_Visit)]),W ((max (W (at_ + (W (r_1.1 + r_2.1)))) (max 0 (W ((W (at_ + (W (r_1.1 + r_2.1)))) + r_5.1)))) + (W (r_3.1 + r_4.1))),W (x + 1),r_6.2.1,r_6.2.2)))
 (some (.brk (out,at_,x,b__0,b__1)))
def law11_Toured (N : Nat) (s_ : kit_Stream) (most : Int) : Option ((List crew_Visit) × Int × Int) :=
 Option.bind (kit_Stream_Within N s_ 1 most) fun r =>
 Option.bind (loopO (fun s6 => law11_Toured_b6 N s_ r s6.1 s6.2.1 s6.2.2.1 s6.2.2.2.1 s6.2.2.2.2) N (([] : List crew_Visit),0,0,r.2.1,r.2.2)) fun x6 =>
 exK x6 (fun s6 => some (s6.1,s6.2.2.2.1,s6.2.2.2.2)) some
theorem law11_Toured_ok {N : Nat} {G : Pers} {Lf : List Ent} {w : World} (s_ : kit_Stream) (most : Int) {b_ : Nat} {s__bytes_p : Option Addr} {s__bytes_c : Nat} (h_s__bytes : Rd G 1 s__bytes_p s__bytes_c (s_.bytes.map encI_u8)) (hc : Ctx G (.box b_ [.slice s__bytes_p s_.bytes.length s__bytes_c,.int .i64 s_.used,.int .i64 s_.mix] 165::Lf) w) {res : (List crew_Visit) × Int × Int} (hF : law11_Toured N s_ most = some res) : Calls Tryz.prog 49 #[.pointer (some ⟨b_,0,none⟩),.int .i64 most] w (fun e w => ∃ (p'1 : Option Addr) (c'1 : Nat),e = .returned (.slice p'1 res.1.length c'1) ∧ Ctx G (.row p'1 c'1 (res.1.map enc_crew_Visit) 31 6::.box b_ [.slice s__bytes_p s_.bytes.length s__bytes_c,.int .i64 res.2.1,.int .i64 res.2.2] 165::Lf) w) := by
 unfold law11_Toured at hF
 refine fnIn (args := [.pointer (some ⟨b_,0,none⟩),.int .i64 most]) Tryz.func49 rfl Tryz.ntmps49 rfl fun a hf => wp_seq_k fun K1 h1 => cReg ?_
 refine stP hf rfl rfl rfl (pA rfl) fun a hf => cNil ?_
 refine h1 _ _ ?_
 refine wp_seq_k fun K2 h2 => cReg ?_
 refine stP hf rfl rfl rfl (pA rfl) fun a hf => cNil ?_
 refine h2 _ _ ?_
 refine wp_seq_k fun K3 h3 => cReg ?_
 refine stP hf rfl rfl rfl (pA rfl) fun a hf => cNil ?_
 refine h3 _ _ ?_
 refine wp_seq_k fun K4 h4 => wp_seq_k fun K5 h5 => cReg ?_
 refine stP hf rfl rfl rfl (pM rfl) fun a hf => stP hf rfl rfl rfl (pM rfl) fun a hf => ?_
 obtain ⟨r,hr,hF⟩ := bnd_some hF
 refine stC (vs := [.pointer (some ⟨b_,0,none⟩),.int .i64 1,.int .i64 most]) (caps := []) hf rfl rfl rfl en_50 rfl rfl rfl rfl (kit_Stream_Within_ok s_ 1 most h_s__bytes (hc.pick k0) hr) ?_
 rintro _ w ⟨rfl,hc⟩
 refine ⟨_,rfl,fun a hf => ?_⟩
 refine stP hf rfl rfl rfl (pM rfl) fun a hf => cNil ?_
 refine h5 _ _ ?_
 refine wp_block ?_
 obtain ⟨x6,hx6,hF⟩ := bnd_some hF
 let S6 : ((List crew_Visit) × Int × Int × Int × Int) → Act → World → Prop := (fun (zz : (List crew_Visit) × Int × Int × Int × Int) a w => ∃ (p_1 : Option Addr) (c_1 : Nat),Has 69 a [(0,.pointer (some ⟨b_,0,none⟩)),(5,.slice p_1 zz.1.length c_1),(6,.int .i64 zz.2.1),(10,.int .i64 r.1),(11,.int .i64 zz.2.2.1)] ∧ Ctx G (.row p_1 c_1 (zz.1.map enc_crew_Visit) 31 6::.box b_ [.slice s__bytes_p s_.bytes.length s__bytes_c,.int .i64 zz.2.2.2.1,.int .i64 zz.2.2.2.2] 165::Lf) w)
 have hr6 : ∀ (zz : (List crew_Visit) × Int × Int × Int × Int) a w,x6 = .go zz → S6 zz a w → K4 a w := by
  rintro ⟨out,at_,x,b__0,b__1⟩ a w rfl ⟨p_1,c_1,hf,hc⟩
  replace hF := exK_go hF
  refine h4 _ _ ?_
  refine wp_seq_k fun K7 h7 => cReg ?_
  refine stP hf rfl rfl rfl (pM rfl) fun a hf => stP hf rfl rfl rfl (pA rfl) fun a hf => cNil ?_
  refine h7 _ _ ?_
  refine wp_ret ?_
  obtain rfl := Option.some.inj hF
  exact fnOut1 (by simp) rfl Tryz.results49 hf hc (show look _ 4 = _ from rfl) ⟨p_1,c_1,rfl,hc⟩
 have ho6 : ∀ r,x6 = .out r → r = res := by
  rintro r rfl
  exact Option.some.inj hF
 replace hc := hc.nilRow 31 6
 refine cLoop N (loopW (S := S6) (x := x6) ?_ N (([] : List crew_Visit),0,0,r.2.1,r.2.2) _ _ ⟨none,0,hf.keep ⟨rfl,rfl,rfl,rfl,rfl,trivial⟩,hc⟩ hx6)
 clear hF hf hc
 rintro ⟨out,at_,x,b__0,b__1⟩ st6 a w KB6 ⟨p_1,c_1,hf,hc⟩ hF hfin6 hK6
 unfold law11_Toured_b6 at hF
 refine wp_seq_k fun K8 h8 => cReg ?_
 refine stP hf rfl rfl rfl (pLt rfl rfl) fun a hf => cNil ?_
 refine h8 _ _ ?_
 refine wp_seq_k fun K9 h9 => cCond (b := (decide (x < r.1))) hf rfl (fun hb => ?_) (fun hb => ?_)
 ·replace hF := condT hb hF
  clear hb
  refine wp_skip ?_
  refine h9 _ _ ?_
  refine wp_seq_k fun K10 h10 => wp_block ?_
  refine wp_seq_k fun K11 h11 => cReg ?_
  refine stP hf rfl rfl rfl (pBuildS (cells := [.int .i64 0,.int .i64 0,.int .i64 0,.int .i64 0,.int .i64 0,.int .i64 0]) bt_31 rfl rfl) fun a hf => stAl (cs := [.int .i64 0,.int .i64 0,.int .i64 0,.int .i64 0,.int .i64 0,.int .i64 0]) hf hc rfl rfl zr_31 rfl fun b_1 a w hf hc => stSt (vs := [.int .i64 0,.int .i64 0,.int .i64 0,.int .i64 0,.int .i64 0,.int .i64 0]) hf hc rfl rfl rfl rfl sz_31 rfl rfl u0 fun w hc => cNil ?_
  refine h11 _ _ ?_
  refine wp_seq_k fun K12 h12 => cReg ?_
  refine stP hf rfl rfl rfl (pM rfl) fun a hf => ?_
  obtain ⟨r_1,hr_1,hF⟩ := bnd_some hF
  refine stC (vs := [.pointer (some ⟨b_,0,none⟩),.int .i64 60]) (caps := []) hf rfl rfl rfl en_45 rfl rfl rfl rfl (kit_Stream_Next_ok (⟨s_.bytes,b__0,b__1⟩ : kit_Stream) 60 h_s__bytes (hc.pick k2) hr_1) ?_
  rintro _ w ⟨rfl,hc⟩
  refine ⟨_,rfl,fun a hf => ?_⟩
  refine stP hf rfl rfl rfl (pFA fa_31_0 rfl) fun a hf => stP hf rfl rfl rfl (pFA fa_29_0 rfl) fun a hf => stSt (vs := [.int .i64 r_1.1]) hf hc rfl rfl rfl rfl sz_3 rfl rfl u1 fun w hc => cNil ?_
  refine h12 _ _ ?_
  refine wp_seq_k fun K13 h13 => ?_
  obtain ⟨r_2,hr_2,hF⟩ := bnd_some hF
  refine regionE (fun θ => [⟨none,none,0,.pointer (some ⟨b_,0,none⟩)⟩,⟨none,none,5,.slice p_1 out.length c_1⟩,⟨none,none,6,.int .i64 at_⟩,⟨none,none,7,.pointer (some ⟨b_1,0,none⟩)⟩,⟨none,none,10,.int .i64 r.1⟩,⟨none,none,11,.int .i64 x⟩,⟨some 0,none,18,.pointer (some ⟨b_1,0,none⟩)⟩,⟨some 1,none,19,.pointer (some ⟨b_1,0,none⟩)⟩,⟨some 2,none,20,.int .i64 r_1.1⟩,⟨some 3,none,21,.pointer (some ⟨b_,0,none⟩)⟩,⟨some 4,none,22,.int .i64 r_2.1⟩,⟨some 5,none,23,.int .i64 (W (r_1.1 + r_2.1))⟩,⟨some 6,none,24,.pointer (some ⟨b_1,0,none⟩)⟩,⟨some 7,none,25,.pointer (some ⟨b_1,1,none⟩)⟩]) (fun E θ => (bif E 4 then .box b_ [.slice s__bytes_p s_.bytes.length s__bytes_c,.int .i64 r_2.2.1,.int .i64 r_2.2.2] 165 else .box b_ [.slice s__bytes_p s_.bytes.length s__bytes_c,.int .i64 r_1.2.1,.int .i64 r_1.2.2] 165)::(bif E 8 then .box b_1 [.int .i64 r_1.1,.int .i64 (W (r_1.1 + r_2.1)),.int .i64 0,.int .i64 0,.int .i64 0,.int .i64 0] 31 else .box b_1 [.int .i64 r_1.1,.int .i64 0,.int .i64 0,.int .i64 0,.int .i64 0,.int .i64 0] 31)::.row p_1 c_1 (out.map enc_crew_Visit) 31 6::Lf) [(8,2)] (fun a w => Has 69 a [(0,.pointer (some ⟨b_,0,none⟩)),(5,.slice p_1 out.length c_1),(6,.int .i64 at_),(7,.pointer (some ⟨b_1,0,none⟩)),(10,.int .i64 r.1),(11,.int .i64 x)] ∧ Ctx G (.box b_ [.slice s__bytes_p s_.bytes.length s__bytes_c,.int .i64 r_2.2.1,.int .i64 r_2.2.2] 165::.box b_1 [.int .i64 r_1.1,.int .i64 (W (r_1.1 + r_2.1)),.int .i64 0,.int .i64 0,.int .i64 0,.int .i64 0] 31::.row p_1 c_1 (out.map enc_crew_Visit) 31 6::Lf) w) follows_mx (by kernel_rfl) (by kernel_rfl) (HasE.of hf ⟨rfl,rfl,rfl,rfl,rfl,rfl,trivial,trivial,trivial,trivial,trivial,trivial,trivial,trivial,trivial⟩) hc ⟨?_,?_,?_,?_,?_,?_,?_,?_,?_,trivial⟩ ?_ ?_
  ·intro E θ a w hD hi hp he hc
   have hf := he.h0
   replace hf := hf.more he 3 rfl onT
   refine stP hf rfl rfl rfl (pFA fa_31_0 rfl) fun a hf => cNil ?_
   refine xThenN ?_
   intro ds u hau
   refine ⟨θ,he.put0 hi hau hf rfl 6 rfl rfl,?_⟩
   exact hc
  ·intro E θ a w hD hi hp he hc
   have e0 := hp.of (k := 0) rfl
   have hf := he.h0
   replace hf := hf.more he 6 rfl (onP e0)
   refine stP hf rfl rfl rfl (pFA fa_29_0 rfl) fun a hf => cNil ?_
   refine xThenN ?_
   intro ds u hau
   refine ⟨θ,he.put0 hi hau hf rfl 7 rfl rfl,?_⟩
   exact hc
  ·intro E θ a w hD hi hp he hc
   have e1 := hp.of (k := 1) rfl
   have e8 := hD.f 0 rfl hi
   try dsimp only at hc
   rw [e8] at hc
   have hf := he.h0
   replace hf := hf.more he 7 rfl (onP e1)
   refine stE hf hc rfl rfl rfl (eLd1 sc_3 rfl (cell_box m1 rfl)) fun a w hf hc => cNil ?_
   refine xThenN ?_
   intro ds u hau
   refine ⟨θ,he.put0 hi hau hf rfl 8 rfl rfl,?_⟩
   try dsimp only
   rw [updE_fls 2 e8 rfl]
   exact hc
  ·intro E θ a w hD hi hp he hc
   have hf := he.h0
   replace hf := hf.more he 0 rfl onT
   refine stP hf rfl rfl rfl (pM rfl) fun a hf => cNil ?_
   refine xThenN ?_
   intro ds u hau
   refine ⟨θ,he.put0 hi hau hf rfl 9 rfl rfl,?_⟩
   exact hc
  ·intro E θ a w hD hi hp he hc
   have e3 := hp.of (k := 3) rfl
   try dsimp only at hc
   rw [hi] at hc
   have hf := he.h0
   replace hf := hf.more he 9 rfl (onP e3)
   refine stC (vs := [.pointer (some ⟨b_,0,none⟩),.int .i64 20]) (caps := []) hf rfl rfl rfl en_45 rfl rfl rfl rfl (kit_Stream_Next_ok (⟨s_.bytes,r_1.2.1,r_1.2.2⟩ : kit_Stream) 20 h_s__bytes (hc.pick k0) hr_2) ?_
   rintro _ w ⟨rfl,hc⟩
   refine ⟨_,rfl,fun a hf => ?_⟩
   refine cNil ?_
   refine xThenN ?_
   intro ds u hau
   refine ⟨θ,he.put0 hi hau hf rfl 10 rfl rfl,?_⟩
   try dsimp only
   rw [updE_self E 4]
   exact hc
  ·intro E θ a w hD hi hp he hc
   have e2 := hp.of (k := 2) rfl
   have e4 := hp.of (k := 4) rfl
   have hf := he.h0
   replace hf := hf.more he 8 rfl (onP e2)
   replace hf := hf.more he 10 rfl (onP e4)
   refine stP hf rfl rfl rfl (pAdd rfl rfl) fun a hf => cNil ?_
   refine xThenN ?_
   intro ds u hau
   refine ⟨θ,he.put0 hi hau hf rfl 11 rfl rfl,?_⟩
   exact hc
  ·intro E θ a w hD hi hp he hc
   have hf := he.h0
   replace hf := hf.more he 3 rfl onT
   refine stP hf rfl rfl rfl (pFA fa_31_0 rfl) fun a hf => cNil ?_
   refine xThenN ?_
   intro ds u hau
   refine ⟨θ,he.put0 hi hau hf rfl 12 rfl rfl,?_⟩
   exact hc
  ·intro E θ a w hD hi hp he hc
   have e6 := hp.of (k := 6) rfl
   have hf := he.h0
   replace hf := hf.more he 12 rfl (onP e6)
   refine stP hf rfl rfl rfl (pFA fa_29_1 rfl) fun a hf => cNil ?_
   refine xThenN ?_
   intro ds u hau
   refine ⟨θ,he.put0 hi hau hf rfl 13 rfl rfl,?_⟩
   exact hc
  ·intro E θ a w hD hi hp he hc
   have e5 := hp.of (k := 5) rfl
   have e7 := hp.of (k := 7) rfl
   try dsimp only at hc
   rw [hi] at hc
   have hf := he.h0
   replace hf := hf.more he 11 rfl (onP e5)
   replace hf := hf.more he 13 rfl (onP e7)
   refine stSt (vs := [.int .i64 (W (r_1.1 + r_2.1))]) hf hc rfl rfl rfl rfl sz_3 rfl rfl u1 fun w hc => cNil ?_
   refine xThenN ?_
   intro ds u hau
   refine ⟨θ,he.stay0 hi hau hf rfl,?_⟩
   try dsimp only
   rw [updE_self E 8]
   exact hc
  ·intro E θ a w hall he hc
   have hf := he.h0
   have e4 := hall 4 rfl
   have e8 := hall 8 rfl
   replace hf := hf.more he 5 rfl (onT)
   replace hf := hf.more he 4 rfl (onT)
   replace hf := hf.more he 3 rfl (onT)
   replace hf := hf.more he 2 rfl (onT)
   replace hf := hf.more he 1 rfl (onT)
   replace hf := hf.more he 0 rfl (onT)
   try dsimp only at hc
   rw [e4,e8] at hc
   exact ⟨hf.keep ⟨rfl,rfl,rfl,rfl,rfl,rfl,trivial⟩,hc⟩
  rintro a w ⟨hf,hc⟩
  refine h13 _ _ ?_
  refine wp_seq_k fun K14 h14 => cReg ?_
  refine stP hf rfl rfl rfl (pM rfl) fun a hf => ?_
  obtain ⟨r_3,hr_3,hF⟩ := bnd_some hF
  refine stC (vs := [.pointer (some ⟨b_,0,none⟩),.int .i64 40]) (caps := []) hf rfl rfl rfl en_45 rfl rfl rfl rfl (kit_Stream_Next_ok (⟨s_.bytes,r_2.2.1,r_2.2.2⟩ : kit_Stream) 40 h_s__bytes (hc.pick k0) hr_3) ?_
  rintro _ w ⟨rfl,hc⟩
  refine ⟨_,rfl,fun a hf => ?_⟩
  refine stP hf rfl rfl rfl (pFA fa_31_1 rfl) fun a hf => stP hf rfl rfl rfl (pFA fa_29_0 rfl) fun a hf => stSt (vs := [.int .i64 r_3.1]) hf hc rfl rfl rfl rfl sz_3 rfl rfl u1 fun w hc => cNil ?_
  refine h14 _ _ ?_
  refine wp_seq_k fun K15 h15 => ?_
  obtain ⟨r_4,hr_4,hF⟩ := bnd_some hF
  refine regionE (fun θ => [⟨none,none,0,.pointer (some ⟨b_,0,none⟩)⟩,⟨none,none,5,.slice p_1 out.length c_1⟩,⟨none,none,6,.int .i64 at_⟩,⟨none,none,7,.pointer (some ⟨b_1,0,none⟩)⟩,⟨none,none,10,.int .i64 r.1⟩,⟨none,none,11,.int .i64 x⟩,⟨some 0,none,30,.pointer (some ⟨b_1,2,none⟩)⟩,⟨some 1,none,31,.pointer (some ⟨b_1,2,none⟩)⟩,⟨some 2,none,32,.int .i64 r_3.1⟩,⟨some 3,none,33,.pointer (some ⟨b_,0,none⟩)⟩,⟨some 4,none,34,.int .i64 r_4.1⟩,⟨some 5,none,35,.int .i64 (W (r_3.1 + r_4.1))⟩,⟨some 6,none,36,.pointer (some ⟨b_1,2,none⟩)⟩,⟨some 7,none,37,.pointer (some ⟨b_1,3,none⟩)⟩]) (fun E θ => (bif E 4 then .box b_ [.slice s__bytes_p s_.bytes.length s__bytes_c,.int .i64 r_4.2.1,.int .i64 r_4.2.2] 165 else .box b_ [.slice s__bytes_p s_.bytes.length s__bytes_c,.int .i64 r_3.2.1,.int .i64 r_3.2.2] 165)::(bif E 8 then .box b_1 [.int .i64 r_1.1,.int .i64 (W (r_1.1 + r_2.1)),.int .i64 r_3.1,.int .i64 (W (r_3.1 + r_4.1)),.int .i64 0,.int .i64 0] 31 else .box b_1 [.int .i64 r_1.1,.int .i64 (W (r_1.1 + r_2.1)),.int .i64 r_3.1,.int .i64 0,.int .i64 0,.int .i64 0] 31)::.row p_1 c_1 (out.map enc_crew_Visit) 31 6::Lf) [(8,2)] (fun a w => Has 69 a [(0,.pointer (some ⟨b_,0,none⟩)),(5,.slice p_1 out.length c_1),(6,.int .i64 at_),(7,.pointer (some ⟨b_1,0,none⟩)),(10,.int .i64 r.1),(11,.int .i64 x)] ∧ Ctx G (.box b_ [.slice s__bytes_p s_.bytes.length s__bytes_c,.int .i64 r_4.2.1,.int .i64 r_4.2.2] 165::.box b_1 [.int .i64 r_1.1,.int .i64 (W (r_1.1 + r_2.1)),.int .i64 r_3.1,.int .i64 (W (r_3.1 + r_4.1)),.int .i64 0,.int .i64 0] 31::.row p_1 c_1 (out.map enc_crew_Visit) 31 6::Lf) w) follows_mx (by kernel_rfl) (by kernel_rfl) (HasE.of hf ⟨rfl,rfl,rfl,rfl,rfl,rfl,trivial,trivial,trivial,trivial,trivial,trivial,trivial,trivial,trivial⟩) hc ⟨?_,?_,?_,?_,?_,?_,?_,?_,?_,trivial⟩ ?_ ?_
  ·intro E θ a w hD hi hp he hc
   have hf := he.h0
   replace hf := hf.more he 3 rfl onT
   refine stP hf rfl rfl rfl (pFA fa_31_1 rfl) fun a hf => cNil ?_
   refine xThenN ?_
   intro ds u hau
   refine ⟨θ,he.put0 hi hau hf rfl 6 rfl rfl,?_⟩
   exact hc
  ·intro E θ a w hD hi hp he hc
   have e0 := hp.of (k := 0) rfl
   have hf := he.h0
   replace hf := hf.more he 6 rfl (onP e0)
   refine stP hf rfl rfl rfl (pFA fa_29_0 rfl) fun a hf => cNil ?_
   refine xThenN ?_
   intro ds u hau
   refine ⟨θ,he.put0 hi hau hf rfl 7 rfl rfl,?_⟩
   exact hc
  ·intro E θ a w hD hi hp he hc
   have e1 := hp.of (k := 1) rfl
   have e8 := hD.f 0 rfl hi
   try dsimp only at hc
   rw [e8] at hc
   have hf := he.h0
   replace hf := hf.more he 7 rfl (onP e1)
   refine stE hf hc rfl rfl rfl (eLd1 sc_3 rfl (cell_box m1 rfl)) fun a w hf hc => cNil ?_
   refine xThenN ?_
   intro ds u hau
   refine ⟨θ,he.put0 hi hau hf rfl 8 rfl rfl,?_⟩
   try dsimp only
   rw [updE_fls 2 e8 rfl]
   exact hc
  ·intro E θ a w hD hi hp he hc
   have hf := he.h0
   replace hf := hf.more he 0 rfl onT
   refine stP hf rfl rfl rfl (pM rfl) fun a hf => cNil ?_
   refine xThenN ?_
   intro ds u hau
   refine ⟨θ,he.put0 hi hau hf rfl 9 rfl rfl,?_⟩
   exact hc
  ·intro E θ a w hD hi hp he hc
   have e3 := hp.of (k := 3) rfl
   try dsimp only at hc
   rw [hi] at hc
   have hf := he.h0
   replace hf := hf.more he 9 rfl (onP e3)
   refine stC (vs := [.pointer (some ⟨b_,0,none⟩),.int .i64 20]) (caps := []) hf rfl rfl rfl en_45 rfl rfl rfl rfl (kit_Stream_Next_ok (⟨s_.bytes,r_3.2.1,r_3.2.2⟩ : kit_Stream) 20 h_s__bytes (hc.pick k0) hr_4) ?_
   rintro _ w ⟨rfl,hc⟩
   refine ⟨_,rfl,fun a hf => ?_⟩
   refine cNil ?_
   refine xThenN ?_
   intro ds u hau
   refine ⟨θ,he.put0 hi hau hf rfl 10 rfl rfl,?_⟩
   try dsimp only
   rw [updE_self E 4]
   exact hc
  ·intro E θ a w hD hi hp he hc
   have e2 := hp.of (k := 2) rfl
   have e4 := hp.of (k := 4) rfl
   have hf := he.h0
   replace hf := hf.more he 8 rfl (onP e2)
   replace hf := hf.more he 10 rfl (onP e4)
   refine stP hf rfl rfl rfl (pAdd rfl rfl) fun a hf => cNil ?_
   refine xThenN ?_
   intro ds u hau
   refine ⟨θ,he.put0 hi hau hf rfl 11 rfl rfl,?_⟩
   exact hc
  ·intro E θ a w hD hi hp he hc
   have hf := he.h0
   replace hf := hf.more he 3 rfl onT
   refine stP hf rfl rfl rfl (pFA fa_31_1 rfl) fun a hf => cNil ?_
   refine xThenN ?_
   intro ds u hau
   refine ⟨θ,he.put0 hi hau hf rfl 12 rfl rfl,?_⟩
   exact hc
  ·intro E θ a w hD hi hp he hc
   have e6 := hp.of (k := 6) rfl
   have hf := he.h0
   replace hf := hf.more he 12 rfl (onP e6)
   refine stP hf rfl rfl rfl (pFA fa_29_1 rfl) fun a hf => cNil ?_
   refine xThenN ?_
   intro ds u hau
   refine ⟨θ,he.put0 hi hau hf rfl 13 rfl rfl,?_⟩
   exact hc
  ·intro E θ a w hD hi hp he hc
   have e5 := hp.of (k := 5) rfl
   have e7 := hp.of (k := 7) rfl
   try dsimp only at hc
   rw [hi] at hc
   have hf := he.h0
   replace hf := hf.more he 11 rfl (onP e5)
   replace hf := hf.more he 13 rfl (onP e7)
   refine stSt (vs := [.int .i64 (W (r_3.1 + r_4.1))]) hf hc rfl rfl rfl rfl sz_3 rfl rfl u1 fun w hc => cNil ?_
   refine xThenN ?_
   intro ds u hau
   refine ⟨θ,he.stay0 hi hau hf rfl,?_⟩
   try dsimp only
   rw [updE_self E 8]
   exact hc
  ·intro E θ a w hall he hc
   have hf := he.h0
   have e4 := hall 4 rfl
   have e8 := hall 8 rfl
   replace hf := hf.more he 5 rfl (onT)
   replace hf := hf.more he 4 rfl (onT)
   replace hf := hf.more he 3 rfl (onT)
   replace hf := hf.more he 2 rfl (onT)
   replace hf := hf.more he 1 rfl (onT)
   replace hf := hf.more he 0 rfl (onT)
   try dsimp only at hc
   rw [e4,e8] at hc
   exact ⟨hf.keep ⟨rfl,rfl,rfl,rfl,rfl,rfl,trivial⟩,hc⟩
  rintro a w ⟨hf,hc⟩
  refine h15 _ _ ?_
  refine wp_seq_k fun K16 h16 => cReg ?_
  refine stP hf rfl rfl rfl (pM rfl) fun a hf => stP hf rfl rfl rfl (pFA fa_31_0 rfl) fun a hf => stP hf rfl rfl rfl (pFA fa_29_1 rfl) fun a hf => stE hf hc rfl rfl rfl (eLd1 sc_3 rfl (cell_box m1 rfl)) fun a w hf hc => stP hf rfl rfl rfl (pAdd rfl rfl) fun a hf => stP hf rfl rfl rfl (pA rfl) fun a hf => cNil ?_
  refine h16 _ _ ?_
  refine wp_seq_k fun K17 h17 => cReg ?_
  refine stP hf rfl rfl rfl (pM rfl) fun a hf => stP hf rfl rfl rfl (pM rfl) fun a hf => ?_
  obtain ⟨r_5,hr_5,hF⟩ := bnd_some hF
  refine stC (vs := [.pointer (some ⟨b_,0,none⟩),.int .i64 (-40),.int .i64 20]) (caps := []) hf rfl rfl rfl en_50 rfl rfl rfl rfl (kit_Stream_Within_ok (⟨s_.bytes,r_4.2.1,r_4.2.2⟩ : kit_Stream) (-40) 20 h_s__bytes (hc.pick k0) hr_5) ?_
  rintro _ w ⟨rfl,hc⟩
  refine ⟨_,rfl,fun a hf => ?_⟩
  refine stP hf rfl rfl rfl (pAdd rfl rfl) fun a hf => stP hf rfl rfl rfl (pMax2 rfl rfl) fun a hf => stP hf rfl rfl rfl (pFA fa_31_2 rfl) fun a hf => stSt (vs := [.int .i64 (max 0 (W ((W (at_ + (W (r_1.1 + r_2.1)))) + r_5.1)))]) hf hc rfl rfl rfl rfl sz_3 rfl rfl u1 fun w hc => cNil ?_
  refine h17 _ _ ?_
  refine wp_seq_k fun K18 h18 => ?_
  obtain ⟨r_6,hr_6,hF⟩ := bnd_some hF
  refine regionE (fun θ => [⟨none,none,0,.pointer (some ⟨b_,0,none⟩)⟩,⟨none,none,5,.slice p_1 out.length c_1⟩,⟨none,none,6,.int .i64 (W (at_ + (W (r_1.1 + r_2.1))))⟩,⟨none,none,7,.pointer (some ⟨b_1,0,none⟩)⟩,⟨none,none,10,.int .i64 r.1⟩,⟨none,none,11,.int .i64 x⟩,⟨some 0,none,49,.pointer (some ⟨b_1,4,none⟩)⟩,⟨some 1,none,50,.int .i64 (max 0 (W ((W (at_ + (W (r_1.1 + r_2.1)))) + r_5.1)))⟩,⟨some 2,none,51,.pointer (some ⟨b_,0,none⟩)⟩,⟨some 3,none,52,.int .i64 r_6.1⟩,⟨some 4,none,53,.int .i64 (W ((max 0 (W ((W (at_ + (W (r_1.1 + r_2.1)))) + r_5.1))) + r_6.1))⟩,⟨some 5,none,54,.pointer (some ⟨b_1,5,none⟩)⟩]) (fun E θ => (bif E 3 then .box b_ [.slice s__bytes_p s_.bytes.length s__bytes_c,.int .i64 r_6.2.1,.int .i64 r_6.2.2] 165 else .box b_ [.slice s__bytes_p s_.bytes.length s__bytes_c,.int .i64 r_5.2.1,.int .i64 r_5.2.2] 165)::(bif E 6 then .box b_1 [.int .i64 r_1.1,.int .i64 (W (r_1.1 + r_2.1)),.int .i64 r_3.1,.int .i64 (W (r_3.1 + r_4.1)),.int .i64 (max 0 (W ((W (at_ + (W (r_1.1 + r_2.1)))) + r_5.1))),.int .i64 (W ((max 0 (W ((W (at_ + (W (r_1.1 + r_2.1)))) + r_5.1))) + r_6.1))] 31 else .box b_1 [.int .i64 r_1.1,.int .i64 (W (r_1.1 + r_2.1)),.int .i64 r_3.1,.int .i64 (W (r_3.1 + r_4.1)),.int .i64 (max 0 (W ((W (at_ + (W (r_1.1 + r_2.1)))) + r_5.1))),.int .i64 0] 31)::.row p_1 c_1 (out.map enc_crew_Visit) 31 6::Lf) [(6,1)] (fun a w => Has 69 a [(0,.pointer (some ⟨b_,0,none⟩)),(5,.slice p_1 out.length c_1),(6,.int .i64 (W (at_ + (W (r_1.1 + r_2.1))))),(7,.pointer (some ⟨b_1,0,none⟩)),(10,.int .i64 r.1),(11,.int .i64 x)] ∧ Ctx G (.box b_ [.slice s__bytes_p s_.bytes.length s__bytes_c,.int .i64 r_6.2.1,.int .i64 r_6.2.2] 165::.box b_1 [.int .i64 r_1.1,.int .i64 (W (r_1.1 + r_2.1)),.int .i64 r_3.1,.int .i64 (W (r_3.1 + r_4.1)),.int .i64 (max 0 (W ((W (at_ + (W (r_1.1 + r_2.1)))) + r_5.1))),.int .i64 (W ((max 0 (W ((W (at_ + (W (r_1.1 + r_2.1)))) + r_5.1))) + r_6.1))] 31::.row p_1 c_1 (out.map enc_crew_Visit) 31 6::Lf) w) follows_mx (by kernel_rfl) (by kernel_rfl) (HasE.of hf ⟨rfl,rfl,rfl,rfl,rfl,rfl,trivial,trivial,trivial,trivial,trivial,trivial,trivial⟩) hc ⟨?_,?_,?_,?_,?_,?_,?_,trivial⟩ ?_ ?_
  ·intro E θ a w hD hi hp he hc
   have hf := he.h0
   replace hf := hf.more he 3 rfl onT
   refine stP hf rfl rfl rfl (pFA fa_31_2 rfl) fun a hf => cNil ?_
   refine xThenN ?_
   intro ds u hau
   refine ⟨θ,he.put0 hi hau hf rfl 6 rfl rfl,?_⟩
   exact hc
  ·intro E θ a w hD hi hp he hc
   have e0 := hp.of (k := 0) rfl
   have e6 := hD.f 0 rfl hi
   try dsimp only at hc
   rw [e6] at hc
   have hf := he.h0
   replace hf := hf.more he 6 rfl (onP e0)
   refine stE hf hc rfl rfl rfl (eLd1 sc_3 rfl (cell_box m1 rfl)) fun a w hf hc => cNil ?_
   refine xThenN ?_
   intro ds u hau
   refine ⟨θ,he.put0 hi hau hf rfl 7 rfl rfl,?_⟩
   try dsimp only
   rw [updE_fls 1 e6 rfl]
   exact hc
  ·intro E θ a w hD hi hp he hc
   have hf := he.h0
   replace hf := hf.more he 0 rfl onT
   refine stP hf rfl rfl rfl (pM rfl) fun a hf => cNil ?_
   refine xThenN ?_
   intro ds u hau
   refine ⟨θ,he.put0 hi hau hf rfl 8 rfl rfl,?_⟩
   exact hc
  ·intro E θ a w hD hi hp he hc
   have e2 := hp.of (k := 2) rfl
   try dsimp only at hc
   rw [hi] at hc
   have hf := he.h0
   replace hf := hf.more he 8 rfl (onP e2)
   refine stC (vs := [.pointer (some ⟨b_,0,none⟩),.int .i64 20,.int .i64 120]) (caps := []) hf rfl rfl rfl en_50 rfl rfl rfl rfl (kit_Stream_Within_ok (⟨s_.bytes,r_5.2.1,r_5.2.2⟩ : kit_Stream) 20 120 h_s__bytes (hc.pick k0) hr_6) ?_
   rintro _ w ⟨rfl,hc⟩
   refine ⟨_,rfl,fun a hf => ?_⟩
   refine cNil ?_
   refine xThenN ?_
   intro ds u hau
   refine ⟨θ,he.put0 hi hau hf rfl 9 rfl rfl,?_⟩
   try dsimp only
   rw [updE_self E 3]
   exact hc
  ·intro E θ a w hD hi hp he hc
   have e1 := hp.of (k := 1) rfl
   have e3 := hp.of (k := 3) rfl
   have hf := he.h0
   replace hf := hf.more he 7 rfl (onP e1)
   replace hf := hf.more he 9 rfl (onP e3)
   refine stP hf rfl rfl rfl (pAdd rfl rfl) fun a hf => cNil ?_
   refine xThenN ?_
   intro ds u hau
   refine ⟨θ,he.put0 hi hau hf rfl 10 rfl rfl,?_⟩
   exact hc
  ·intro E θ a w hD hi hp he hc
   have hf := he.h0
   replace hf := hf.more he 3 rfl onT
   refine stP hf rfl rfl rfl (pFA fa_31_3 rfl) fun a hf => cNil ?_
   refine xThenN ?_
   intro ds u hau
   refine ⟨θ,he.put0 hi hau hf rfl 11 rfl rfl,?_⟩
   exact hc
  ·intro E θ a w hD hi hp he hc
   have e4 := hp.of (k := 4) rfl
   have e5 := hp.of (k := 5) rfl
   try dsimp only at hc
   rw [hi] at hc
   have hf := he.h0
   replace hf := hf.more he 10 rfl (onP e4)
   replace hf := hf.more he 11 rfl (onP e5)
   refine stSt (vs := [.int .i64 (W ((max 0 (W ((W (at_ + (W (r_1.1 + r_2.1)))) + r_5.1))) + r_6.1))]) hf hc rfl rfl rfl rfl sz_3 rfl rfl u1 fun w hc => cNil ?_
   refine xThenN ?_
   intro ds u hau
   refine ⟨θ,he.stay0 hi hau hf rfl,?_⟩
   try dsimp only
   rw [updE_self E 6]
   exact hc
  ·intro E θ a w hall he hc
   have hf := he.h0
   have e3 := hall 3 rfl
   have e6 := hall 6 rfl
   replace hf := hf.more he 5 rfl (onT)
   replace hf := hf.more he 4 rfl (onT)
   replace hf := hf.more he 3 rfl (onT)
   replace hf := hf.more he 2 rfl (onT)
   replace hf := hf.more he 1 rfl (onT)
   replace hf := hf.more he 0 rfl (onT)
   try dsimp only at hc
   rw [e3,e6] at hc
   exact ⟨hf.keep ⟨rfl,rfl,rfl,rfl,rfl,rfl,trivial⟩,hc⟩
  rintro a w ⟨hf,hc⟩
  refine h18 _ _ ?_
  refine wp_seq_k fun K19 h19 => cReg ?_
  refine stP hf rfl rfl rfl (pM rfl) fun a hf => stP hf rfl rfl rfl (pFA fa_31_2 rfl) fun a hf => stE hf hc rfl rfl rfl (eLd1 sc_3 rfl (cell_box m1 rfl)) fun a w hf hc => stP hf rfl rfl rfl (pMax2 rfl rfl) fun a hf => stP hf rfl rfl rfl (pFA fa_31_1 rfl) fun a hf => stP hf rfl rfl rfl (pFA fa_29_1 rfl) fun a hf => stE hf hc rfl rfl rfl (eLd1 sc_3 rfl (cell_box m1 rfl)) fun a w hf hc => stP hf rfl rfl rfl (pAdd rfl rfl) fun a hf => stP hf rfl rfl rfl (pA rfl) fun a hf => cNil ?_
  refine h19 _ _ ?_
  refine cReg ?_
  refine stP hf rfl rfl rfl (pM rfl) fun a hf => stE hf hc rfl rfl rfl (eLdN (vs := [.int .i64 r_1.1,.int .i64 (W (r_1.1 + r_2.1)),.int .i64 r_3.1,.int .i64 (W (r_3.1 + r_4.1)),.int .i64 (max 0 (W ((W (at_ + (W (r_1.1 + r_2.1)))) + r_5.1))),.int .i64 (W ((max 0 (W ((W (at_ + (W (r_1.1 + r_2.1)))) + r_5.1))) + r_6.1))]) ag_31 rfl rfl (cells_box (n := 6) m1 rfl)) fun a w hf hc => stBS (rows := ([(⟨(⟨r_1.1,W (r_1.1 + r_2.1)⟩ : api_Span),(⟨r_3.1,W (r_3.1 + r_4.1)⟩ : api_Span),max 0 (W ((W (at_ + (W (r_1.1 + r_2.1)))) + r_5.1)),W ((max 0 (W ((W (at_ + (W (r_1.1 + r_2.1)))) + r_5.1))) + r_6.1)⟩ : crew_Visit)] : List crew_Visit).map enc_crew_Visit) (vs := [(0,.agg #[.int .i64 r_1.1,.int .i64 (W (r_1.1 + r_2.1)),.int .i64 r_3.1,.int .i64 (W (r_3.1 + r_4.1)),.int .i64 (max 0 (W ((W (at_ + (W (r_1.1 + r_2.1)))) + r_5.1))),.int .i64 (W ((max 0 (W ((W (at_ + (W (r_1.1 + r_2.1)))) + r_5.1))) + r_6.1))])]) hf hc rfl rfl sl_22 rfl ⟨rfl,rfl,rfl,trivial⟩ rfl rfl fun b_2 a w hf hc => ?_
  obtain ⟨un,hun,hF⟩ := bnd_some hF
  refine stApm (xs := out) (ys := ([(⟨(⟨r_1.1,W (r_1.1 + r_2.1)⟩ : api_Span),(⟨r_3.1,W (r_3.1 + r_4.1)⟩ : api_Span),max 0 (W ((W (at_ + (W (r_1.1 + r_2.1)))) + r_5.1)),W ((max 0 (W ((W (at_ + (W (r_1.1 + r_2.1)))) + r_5.1))) + r_6.1)⟩ : crew_Visit)] : List crew_Visit)) hf hc rfl rfl sl_22 rfl rfl rfl rfl rfl one_enc_crew_Visit (src_row hc m0) (fun _ _ => u3) (by simpa using room_spec hun) fun p_2 c_2 a w hf hc => stP hf rfl rfl rfl (pA rfl) fun a hf => cNil ?_
  refine h10 _ _ ?_
  refine cReg ?_
  refine stP hf rfl rfl rfl (pAdd rfl rfl) fun a hf => stP hf rfl rfl rfl (pM rfl) fun a hf => cNil ?_
  replace hc := hc.drop k2
  replace hc := hc.drop k0
  replace hc := hc.pick k0
  replace hc := hc.pick k1
  exact hK6 ((out ++ [(⟨(⟨r_1.1,W (r_1.1 + r_2.1)⟩ : api_Span),(⟨r_3.1,W (r_3.1 + r_4.1)⟩ : api_Span),max 0 (W ((W (at_ + (W (r_1.1 + r_2.1)))) + r_5.1)),W ((max 0 (W ((W (at_ + (W (r_1.1 + r_2.1)))) + r_5.1))) + r_6.1)⟩ : crew_Visit)]),W ((max (W (at_ + (W (r_1.1 + r_2.1)))) (max 0 (W ((W (at_ + (W (r_1.1 + r_2.1)))) + r_5.1)))) + (W (r_3.1 + r_4.1))),W (x + 1),r_6.2.1,r_6.2.2) _ _ (Option.some.inj hF).symm ⟨p_2,c_2,hf.keep ⟨rfl,rfl,rfl,rfl,rfl,trivial⟩,hc⟩
 ·replace hF := condF hb hF
  clear hb
  refine wp_exit ?_
  refine xThen ?_
  refine xThen ?_
  have he := Option.some.inj hF
  rw [← he] at hfin6
  refine cHit ?_
  exact hr6 _ _ _ hfin6 ⟨p_1,c_1,hf.keep ⟨rfl,rfl,rfl,rfl,rfl,trivial⟩,hc⟩

def crew_in (n : Int) (least : Int) (greatest : Int) : Bool :=
 ((decide (least ≤ n)) && (decide (n ≤ greatest)))
theorem crew_in_ok {G : Pers} {Lf : List Ent} {w : World} (n : Int) (least : Int) (greatest : Int)   (hc : Ctx G (Lf) w) {res : Bool} (hF : crew_in n least greatest = res) : Calls Tryz.prog 86 #[.int .i64 n,.int .i64 least,.int .i64 greatest] w (fun e w => e = .returned (.bool res) ∧ Ctx G (Lf) w) := by
 unfold crew_in at hF
 refine fnIn (args := [.int .i64 n,.int .i64 least,.int .i64 greatest]) Tryz.func86 rfl Tryz.ntmps86 rfl fun a hf => wp_seq_k fun K1 h1 => cReg ?_
 refine stP hf rfl rfl rfl (pA rfl) fun a hf => cNil ?_
 refine h1 _ _ ?_
 refine wp_seq_k fun K2 h2 => cReg ?_
 refine stP hf rfl rfl rfl (pM rfl) fun a hf => stP hf rfl rfl rfl (pM rfl) fun a hf => stP hf rfl rfl rfl (pGe rfl rfl) fun a hf => stP hf rfl rfl rfl (pM rfl) fun a hf => stCut 4 (fun a w => Has 15 a [(0,.int .i64 n),(1,.int .i64 least),(2,.int .i64 greatest),(6,.bool false),(7,.int .i64 n),(8,.int .i64 least),(9,.bool (decide (least ≤ n))),(10,.bool (decide (least ≤ n))),(14,.bool ((decide (least ≤ n)) && (decide (n ≤ greatest))))] ∧ Ctx G (Lf) w) ?_ ?_
 ·cases hb : (decide (least ≤ n))
  ·rw [hb] at hf
   refine stS hf rfl rfl rfl fun a hf => stS hf rfl rfl rfl fun a hf => stS hf rfl rfl rfl fun a hf => stP hf rfl rfl rfl (pPf rfl rfl) fun a hf => cNil ⟨hf.keep ⟨rfl,rfl,rfl,rfl,rfl,rfl,rfl,rfl,rfl,trivial⟩,hc⟩
  ·rw [hb] at hf
   refine stP hf rfl rfl rfl (pM rfl) fun a hf => stP hf rfl rfl rfl (pM rfl) fun a hf => stP hf rfl rfl rfl (pLe rfl rfl) fun a hf => stP hf rfl rfl rfl (pPt rfl rfl) fun a hf => cNil ⟨hf.keep ⟨rfl,rfl,rfl,rfl,rfl,rfl,rfl,rfl,rfl,trivial⟩,hc⟩
 intro a w ⟨hf,hc⟩
 refine stP hf rfl rfl rfl (pA rfl) fun a hf => cNil ?_
 refine h2 _ _ ?_
 refine wp_ret ?_
 obtain rfl := hF
 exact fnOut1 (by simp) rfl Tryz.results86 hf hc (show look _ 6 = _ from rfl) ⟨rfl,hc⟩

def crew_minute (n : Int) : Bool :=
 (crew_in n 0 100000)
theorem crew_minute_ok {G : Pers} {Lf : List Ent} {w : World} (n : Int)   (hc : Ctx G (Lf) w) {res : Bool} (hF : crew_minute n = res) : Calls Tryz.prog 80 #[.int .i64 n] w (fun e w => e = .returned (.bool res) ∧ Ctx G (Lf) w) := by
 unfold crew_minute at hF
 refine fnIn (args := [.int .i64 n]) Tryz.func80 rfl Tryz.ntmps80 rfl fun a hf => wp_seq_k fun K1 h1 => cReg ?_
 refine stP hf rfl rfl rfl (pA rfl) fun a hf => cNil ?_
 refine h1 _ _ ?_
 refine wp_seq_k fun K2 h2 => cReg ?_
 refine stP hf rfl rfl rfl (pM rfl) fun a hf => stE hf hc rfl rfl rfl (eC (v := .bool (crew_in n 0 100000)) (vs := [.int .i64 n,.int .i64 0,.int .i64 100000]) (caps := []) en_86 rfl rfl rfl rfl (fun w hc => crew_in_ok n 0 100000 hc rfl)) fun a w hf hc => stP hf rfl rfl rfl (pA rfl) fun a hf => cNil ?_
 refine h2 _ _ ?_
 refine wp_ret ?_
 obtain rfl := hF
 exact fnOut1 (by simp) rfl Tryz.results80 hf hc (show look _ 2 = _ from rfl) ⟨rfl,hc⟩

def crew_minutes (s_ : api_Span) : Bool :=
 ((crew_in s_.Lo 0 s_.Hi) && (crew_minute s_.Hi))
theorem crew_minutes_ok {G : Pers} {Lf : List Ent} {w : World} (s_ : api_Span)   (hc : Ctx G (Lf) w) {res : Bool} (hF : crew_minutes s_ = res) : Calls Tryz.prog 154 #[.agg #[.int .i64 s_.Lo,.int .i64 s_.Hi]] w (fun e w => e = .returned (.bool res) ∧ Ctx G (Lf) w) := by
 unfold crew_minutes at hF
 refine fnIn (args := [.agg #[.int .i64 s_.Lo,.int .i64 s_.Hi]]) Tryz.func154 rfl Tryz.ntmps154 rfl fun a hf => wp_seq_k fun K1 h1 => cReg ?_
 refine stBx (cs := [.int .i64 s_.Lo,.int .i64 s_.Hi]) hf hc rfl rfl rfl rfl fun b_1 a w hf hc => stP hf rfl rfl rfl (pA rfl) fun a hf => cNil ?_
 refine h1 _ _ ?_
 refine wp_seq_k fun K2 h2 => cReg ?_
 refine stP hf rfl rfl rfl (pFA fa_29_0 rfl) fun a hf => stE hf hc rfl rfl rfl (eLd1 sc_3 rfl (cell_box m0 rfl)) fun a w hf hc => stP hf rfl rfl rfl (pFA fa_29_1 rfl) fun a hf => stE hf hc rfl rfl rfl (eLd1 sc_3 rfl (cell_box m0 rfl)) fun a w hf hc => stE hf hc rfl rfl rfl (eC (v := .bool (crew_in s_.Lo 0 s_.Hi)) (vs := [.int .i64 s_.Lo,.int .i64 0,.int .i64 s_.Hi]) (caps := []) en_86 rfl rfl rfl rfl (fun w hc => crew_in_ok s_.Lo 0 s_.Hi hc rfl)) fun a w hf hc => stP hf rfl rfl rfl (pM rfl) fun a hf => stCut 4 (fun a w => Has 13 a [(1,.pointer (some ⟨b_1,0,none⟩)),(2,.bool false),(3,.pointer (some ⟨b_1,0,none⟩)),(4,.int .i64 s_.Lo),(5,.pointer (some ⟨b_1,1,none⟩)),(6,.int .i64 s_.Hi),(7,.bool (crew_in s_.Lo 0 s_.Hi)),(8,.bool (crew_in s_.Lo 0 s_.Hi)),(12,.bool ((crew_in s_.Lo 0 s_.Hi) && (crew_minute s_.Hi)))] ∧ Ctx G (.box b_1 [.int .i64 s_.Lo,.int .i64 s_.Hi] 29::Lf) w) ?_ ?_
 ·cases hb : (crew_in s_.Lo 0 s_.Hi)
  ·rw [hb] at hf
   refine stS hf rfl rfl rfl fun a hf => stS hf rfl rfl rfl fun a hf => stS hf rfl rfl rfl fun a hf => stP hf rfl rfl rfl (pPf rfl rfl) fun a hf => cNil ⟨hf.keep ⟨rfl,rfl,rfl,rfl,rfl,rfl,rfl,rfl,rfl,trivial⟩,hc⟩
  ·rw [hb] at hf
   refine stP hf rfl rfl rfl (pFA fa_29_1 rfl) fun a hf => stE hf hc rfl rfl rfl (eLd1 sc_3 rfl (cell_box m0 rfl)) fun a w hf hc => stE hf hc rfl rfl rfl (eC (v := .bool (crew_minute s_.Hi)) (vs := [.int .i64 s_.Hi]) (caps := []) en_80 rfl rfl rfl rfl (fun w hc => crew_minute_ok s_.Hi hc rfl)) fun a w hf hc => stP hf rfl rfl rfl (pPt rfl rfl) fun a hf => cNil ⟨hf.keep ⟨rfl,rfl,rfl,rfl,rfl,rfl,rfl,rfl,rfl,trivial⟩,hc⟩
 intro a w ⟨hf,hc⟩
 refine stP hf rfl rfl rfl (pA rfl) fun a hf => cNil ?_
 refine h2 _ _ ?_
 refine wp_ret ?_
 obtain rfl := hF
 replace hc := hc.drop k0
 exact fnOut1 (by simp) rfl Tryz.results154 hf hc (show look _ 2 = _ from rfl) ⟨rfl,hc⟩

def crew_rounded_1 (v : crew_Visit) : Bool :=
 ((((crew_minutes v.Way) && (crew_minutes v.Work)) && (crew_in v.Open 0 v.Close)) && (crew_minute v.Close))
theorem crew_rounded_1_ok {G : Pers} {Lf : List Ent} {w : World} (v : crew_Visit)   (hc : Ctx G (Lf) w) {res : Bool} (hF : crew_rounded_1 v = res) : Calls Tryz.prog 153 #[.agg #[.int .i64 v.Way.Lo,.int .i64 v.Way.Hi,.int .i64 v.Work.Lo,.int .i64 v.Work.Hi,.int .i64 v.Open,.int .i64 v.Close]] w (fun e w => e = .returned (.bool res) ∧ Ctx G (Lf) w) := by
 unfold crew_rounded_1 at hF
 refine fnIn (args := [.agg #[.int .i64 v.Way.Lo,.int .i64 v.Way.Hi,.int .i64 v.Work.Lo,.int .i64 v.Work.Hi,.int .i64 v.Open,.int .i64 v.Close]]) Tryz.func153 rfl Tryz.ntmps153 rfl fun a hf => wp_seq_k fun K1 h1 => cReg ?_
 refine stBx (cs := [.int .i64 v.Way.Lo,.int .i64 v.Way.Hi,.int .i64 v.Work.Lo,.int .i64 v.Work.Hi,.int .i64 v.Open,.int .i64 v.Close]) hf hc rfl rfl rfl rfl fun b_1 a w hf hc => stP hf rfl rfl rfl (pA rfl) fun a hf => cNil ?_
 refine h1 _ _ ?_
 refine wp_seq_k fun K2 h2 => cReg ?_
 refine stP hf rfl rfl rfl (pFA fa_31_0 rfl) fun a hf => stE hf hc rfl rfl rfl (eLdN (vs := [.int .i64 v.Way.Lo,.int .i64 v.Way.Hi]) ag_29 rfl rfl (cells_box (n := 2) m0 rfl)) fun a w hf hc => stE hf hc rfl rfl rfl (eC (v := .bool (crew_minutes v.Way)) (vs := [.agg #[.int .i64 v.Way.Lo,.int .i64 v.Way.Hi]]) (caps := []) en_154 rfl rfl rfl rfl (fun w hc => crew_minutes_ok v.Way hc rfl)) fun a w hf hc => stP hf rfl rfl rfl (pM rfl) fun a hf => stCut 4 (fun a w => Has 23 a [(1,.pointer (some ⟨b_1,0,none⟩)),(2,.bool false),(3,.pointer (some ⟨b_1,0,none⟩)),(4,.agg #[.int .i64 v.Way.Lo,.int .i64 v.Way.Hi]),(5,.bool (crew_minutes v.Way)),(6,.bool (crew_minutes v.Way)),(10,.bool ((crew_minutes v.Way) && (crew_minutes v.Work)))] ∧ Ctx G (.box b_1 [.int .i64 v.Way.Lo,.int .i64 v.Way.Hi,.int .i64 v.Work.Lo,.int .i64 v.Work.Hi,.int .i64 v.Open,.int .i64 v.Close] 31::Lf) w) ?_ ?_
 ·cases hb : (crew_minutes v.Way)
  ·rw [hb] at hf
   refine stS hf rfl rfl rfl fun a hf => stS hf rfl rfl rfl fun a hf => stS hf rfl rfl rfl fun a hf => stP hf rfl rfl rfl (pPf rfl rfl) fun a hf => cNil ⟨hf.keep ⟨rfl,rfl,rfl,rfl,rfl,rfl,rfl,trivial⟩,hc⟩
  ·rw [hb] at hf
   refine stP hf rfl rfl rfl (pFA fa_31_1 rfl) fun a hf => stE hf hc rfl rfl rfl (eLdN (vs := [.int .i64 v.Work.Lo,.int .i64 v.Work.Hi]) ag_29 rfl rfl (cells_box (n := 2) m0 rfl)) fun a w hf hc => stE hf hc rfl rfl rfl (eC (v := .bool (crew_minutes v.Work)) (vs := [.agg #[.int .i64 v.Work.Lo,.int .i64 v.Work.Hi]]) (caps := []) en_154 rfl rfl rfl rfl (fun w hc => crew_minutes_ok v.Work hc rfl)) fun a w hf hc => stP hf rfl rfl rfl (pPt rfl rfl) fun a hf => cNil ⟨hf.keep ⟨rfl,rfl,rfl,rfl,rfl,rfl,rfl,trivial⟩,hc⟩
 intro a w ⟨hf,hc⟩
 refine stP hf rfl rfl rfl (pM rfl) fun a hf => stCut 6 (fun a w => Has 23 a [(1,.pointer (some ⟨b_1,0,none⟩)),(2,.bool false),(3,.pointer (some ⟨b_1,0,none⟩)),(4,.agg #[.int .i64 v.Way.Lo,.int .i64 v.Way.Hi]),(5,.bool (crew_minutes v.Way)),(6,.bool (crew_minutes v.Way)),(10,.bool ((crew_minutes v.Way) && (crew_minutes v.Work))),(11,.bool ((crew_minutes v.Way) && (crew_minutes v.Work))),(17,.bool (((crew_minutes v.Way) && (crew_minutes v.Work)) && (crew_in v.Open 0 v.Close)))] ∧ Ctx G (.box b_1 [.int .i64 v.Way.Lo,.int .i64 v.Way.Hi,.int .i64 v.Work.Lo,.int .i64 v.Work.Hi,.int .i64 v.Open,.int .i64 v.Close] 31::Lf) w) ?_ ?_
 ·cases hb : ((crew_minutes v.Way) && (crew_minutes v.Work))
  ·rw [hb] at hf
   refine stS hf rfl rfl rfl fun a hf => stS hf rfl rfl rfl fun a hf => stS hf rfl rfl rfl fun a hf => stS hf rfl rfl rfl fun a hf => stS hf rfl rfl rfl fun a hf => stP hf rfl rfl rfl (pPf rfl rfl) fun a hf => cNil ⟨hf.keep ⟨rfl,rfl,rfl,rfl,rfl,rfl,rfl,rfl,rfl,trivial⟩,hc⟩
  ·rw [hb] at hf
   refine stP hf rfl rfl rfl (pFA fa_31_2 rfl) fun a hf => stE hf hc rfl rfl rfl (eLd1 sc_3 rfl (cell_box m0 rfl)) fun a w hf hc => stP hf rfl rfl rfl (pFA fa_31_3 rfl) fun a hf => stE hf hc rfl rfl rfl (eLd1 sc_3 rfl (cell_box m0 rfl)) fun a w hf hc => stE hf hc rfl rfl rfl (eC (v := .bool (crew_in v.Open 0 v.Close)) (vs := [.int .i64 v.Open,.int .i64 0,.int .i64 v.Close]) (caps := []) en_86 rfl rfl rfl rfl (fun w hc => crew_in_ok v.Open 0 v.Close hc rfl)) fun a w hf hc => stP hf rfl rfl rfl (pPt rfl rfl) fun a hf => cNil ⟨hf.keep ⟨rfl,rfl,rfl,rfl,rfl,rfl,rfl,rfl,rfl,trivial⟩,hc⟩
 intro a w ⟨hf,hc⟩
 refine stP hf rfl rfl rfl (pM rfl) fun a hf => stCut 4 (fun a w => Has 23 a [(1,.pointer (some ⟨b_1,0,none⟩)),(2,.bool false),(3,.pointer (some ⟨b_1,0,none⟩)),(4,.agg #[.int .i64 v.Way.Lo,.int .i64 v.Way.Hi]),(5,.bool (crew_minutes v.Way)),(6,.bool (crew_minutes v.Way)),(10,.bool ((crew_minutes v.Way) && (crew_minutes v.Work))),(11,.bool ((crew_minutes v.Way) && (crew_minutes v.Work))),(17,.bool (((crew_minutes v.Way) && (crew_minutes v.Work)) && (crew_in v.Open 0 v.Close))),(18,.bool (((crew_minutes v.Way) && (crew_minutes v.Work)) && (crew_in v.Open 0 v.Close))),(22,.bool ((((crew_minutes v.Way) && (crew_minutes v.Work)) && (crew_in v.Open 0 v.Close)) && (crew_minute v.Close)))] ∧ Ctx G (.box b_1 [.int .i64 v.Way.Lo,.int .i64 v.Way.Hi,.int .i64 v.Work.Lo,.int .i64 v.Work.Hi,.int .i64 v.Open,.int .i64 v.Close] 31::Lf) w) ?_ ?_
 ·cases hb : (((crew_minutes v.Way) && (crew_minutes v.Work)) && (crew_in v.Open 0 v.Close))
  ·rw [hb] at hf
   refine stS hf rfl rfl rfl fun a hf => stS hf rfl rfl rfl fun a hf => stS hf rfl rfl rfl fun a hf => stP hf rfl rfl rfl (pPf rfl rfl) fun a hf => cNil ⟨hf.keep ⟨rfl,rfl,rfl,rfl,rfl,rfl,rfl,rfl,rfl,rfl,rfl,trivial⟩,hc⟩
  ·rw [hb] at hf
   refine stP hf rfl rfl rfl (pFA fa_31_3 rfl) fun a hf => stE hf hc rfl rfl rfl (eLd1 sc_3 rfl (cell_box m0 rfl)) fun a w hf hc => stE hf hc rfl rfl rfl (eC (v := .bool (crew_minute v.Close)) (vs := [.int .i64 v.Close]) (caps := []) en_80 rfl rfl rfl rfl (fun w hc => crew_minute_ok v.Close hc rfl)) fun a w hf hc => stP hf rfl rfl rfl (pPt rfl rfl) fun a hf => cNil ⟨hf.keep ⟨rfl,rfl,rfl,rfl,rfl,rfl,rfl,rfl,rfl,rfl,rfl,trivial⟩,hc⟩
 intro a w ⟨hf,hc⟩
 refine stP hf rfl rfl rfl (pA rfl) fun a hf => cNil ?_
 refine h2 _ _ ?_
 refine wp_ret ?_
 obtain rfl := hF
 replace hc := hc.drop k0
 exact fnOut1 (by simp) rfl Tryz.results153 hf hc (show look _ 2 = _ from rfl) ⟨rfl,hc⟩

def crew_every_crew_Visit_1 (x : crew_Visit) : Bool :=
 (!(crew_rounded_1 x))
theorem crew_every_crew_Visit_1_ok {G : Pers} {Lf : List Ent} {w : World} (x : crew_Visit) {b_ : Nat}  (hc : Ctx G (.box b_ [.func (.func 153) #[] #[]] 219::Lf) w) {res : Bool} (hF : crew_every_crew_Visit_1 x = res) : Calls Tryz.prog 184 #[.agg #[.int .i64 x.Way.Lo,.int .i64 x.Way.Hi,.int .i64 x.Work.Lo,.int .i64 x.Work.Hi,.int .i64 x.Open,.int .i64 x.Close],.pointer (some ⟨b_,0,none⟩)] w (fun e w => e = .returned (.bool res) ∧ Ctx G (.box b_ [.func (.func 153) #[] #[]] 219::Lf) w) := by
 unfold crew_every_crew_Visit_1 at hF
 refine fnIn (args := [.agg #[.int .i64 x.Way.Lo,.int .i64 x.Way.Hi,.int .i64 x.Work.Lo,.int .i64 x.Work.Hi,.int .i64 x.Open,.int .i64 x.Close],.pointer (some ⟨b_,0,none⟩)]) Tryz.func184 rfl Tryz.ntmps184 rfl fun a hf => wp_seq_k fun K1 h1 => cReg ?_
 refine stBx (cs := [.int .i64 x.Way.Lo,.int .i64 x.Way.Hi,.int .i64 x.Work.Lo,.int .i64 x.Work.Hi,.int .i64 x.Open,.int .i64 x.Close]) hf hc rfl rfl rfl rfl fun b_1 a w hf hc => stP hf rfl rfl rfl (pA rfl) fun a hf => cNil ?_
 refine h1 _ _ ?_
 refine wp_seq_k fun K2 h2 => cReg ?_
 refine stE hf hc rfl rfl rfl (eLd1 sc_219 rfl (cell_box m1 rfl)) fun a w hf hc => stE hf hc rfl rfl rfl (eLdN (vs := [.int .i64 x.Way.Lo,.int .i64 x.Way.Hi,.int .i64 x.Work.Lo,.int .i64 x.Work.Hi,.int .i64 x.Open,.int .i64 x.Close]) ag_31 rfl rfl (cells_box (n := 6) m0 rfl)) fun a w hf hc => stE hf hc rfl rfl rfl (eC (v := .bool (crew_rounded_1 x)) (vs := [.agg #[.int .i64 x.Way.Lo,.int .i64 x.Way.Hi,.int .i64 x.Work.Lo,.int .i64 x.Work.Hi,.int .i64 x.Open,.int .i64 x.Close]]) (caps := []) en_153 rfl rfl rfl rfl (fun w hc => crew_rounded_1_ok x hc rfl)) fun a w hf hc => stP hf rfl rfl rfl (pNot rfl) fun a hf => stP hf rfl rfl rfl (pA rfl) fun a hf => cNil ?_
 refine h2 _ _ ?_
 refine wp_ret ?_
 obtain rfl := hF
 replace hc := hc.drop k0
 exact fnOut1 (by simp) rfl Tryz.results184 hf hc (show look _ 3 = _ from rfl) ⟨rfl,hc⟩

def slices_IndexFunc_Lcrew_Visit_crew_Visit_b4 (N : Nat) (s_ : List crew_Visit) (x : Int) : Option (Step (Int) (Int)) :=
 cond (decide (x < ((s_.length : Nat) : Int)))
 (Option.bind (getI s_ x) fun e_1 =>
 cond (crew_every_crew_Visit_1 e_1)
 (some (.ret x))
 (some (.cont (W (x + 1)))))
 (some (.brk x))
def slices_IndexFunc_Lcrew_Visit_crew_Visit (N : Nat) (s_ : List crew_Visit) : Option (Int) :=
 Option.bind (loopO (fun s4 => slices_IndexFunc_Lcrew_Visit_crew_Visit_b4 N s_ s4) N 0) fun x4 =>
 exK x4 (fun s4 => some (-1)) some
theorem slices_IndexFunc_Lcrew_Visit_crew_Visit_ok {N : Nat} {G : Pers} {Lf : List Ent} {w : World} (s_ : List crew_Visit) {s__p : Option Addr} {s__c : Nat} {b_ : Nat} (h_s_ : Rd G 6 s__p s__c (s_.map enc_crew_Visit)) (hc : Ctx G (.box b_ [.func (.func 153) #[] #[]] 219::Lf) w) {res : Int} (hF : slices_IndexFunc_Lcrew_Visit_crew_Visit N s_ = some res) : Calls Tryz.prog 200 #[.slice s__p s_.length s__c,.func (.func 184) #[] #[.pointer (some ⟨b_,0,none⟩)]] w (fun e w => e = .returned (.int .i64 res) ∧ Ctx G (.box b_ [.func (.func 153) #[] #[]] 219::Lf) w) := by
 unfold slices_IndexFunc_Lcrew_Visit_crew_Visit at hF
 refine fnIn (args := [.slice s__p s_.length s__c,.func (.func 184) #[] #[.pointer (some ⟨b_,0,none⟩)]]) Tryz.func200 rfl Tryz.ntmps200 rfl fun a hf => wp_seq_k fun K1 h1 => cReg ?_
 refine stP hf rfl rfl rfl (pA rfl) fun a hf => cNil ?_
 refine h1 _ _ ?_
 refine wp_seq_k fun K2 h2 => wp_seq_k fun K3 h3 => cReg ?_
 refine stP hf rfl rfl rfl (pM rfl) fun a hf => stP hf rfl rfl rfl (pLenS Tryz.underlying22 rfl) fun a hf => stP hf rfl rfl rfl (pM rfl) fun a hf => cNil ?_
 refine h3 _ _ ?_
 refine wp_block ?_
 obtain ⟨x4,hx4,hF⟩ := bnd_some hF
 let S4 : Int → Act → World → Prop := (fun (zz : Int) a w => Has 19 a [(0,.slice s__p s_.length s__c),(1,.func (.func 184) #[] #[.pointer (some ⟨b_,0,none⟩)]),(7,.int .i64 ((s_.length : Nat) : Int)),(8,.int .i64 zz)] ∧ Ctx G (.box b_ [.func (.func 153) #[] #[]] 219::Lf) w)
 have hr4 : ∀ (zz : Int) a w,x4 = .go zz → S4 zz a w → K2 a w := by
  rintro x a w rfl ⟨hf,hc⟩
  replace hF := exK_go hF
  refine h2 _ _ ?_
  refine wp_seq_k fun K5 h5 => cReg ?_
  refine stP hf rfl rfl rfl (pA rfl) fun a hf => cNil ?_
  refine h5 _ _ ?_
  refine wp_ret ?_
  obtain rfl := Option.some.inj hF
  exact fnOut1 (by simp) rfl Tryz.results200 hf hc (show look _ 4 = _ from rfl) ⟨rfl,hc⟩
 have ho4 : ∀ r,x4 = .out r → r = res := by
  rintro r rfl
  exact Option.some.inj hF
 refine cLoop N (loopW (S := S4) (x := x4) ?_ N 0 _ _ ⟨hf.keep ⟨rfl,rfl,rfl,rfl,trivial⟩,hc⟩ hx4)
 clear hF hf hc
 rintro x st4 a w KB4 ⟨hf,hc⟩ hF hfin4 hK4
 unfold slices_IndexFunc_Lcrew_Visit_crew_Visit_b4 at hF
 refine wp_seq_k fun K6 h6 => cReg ?_
 refine stP hf rfl rfl rfl (pLt rfl rfl) fun a hf => cNil ?_
 refine h6 _ _ ?_
 refine wp_seq_k fun K7 h7 => cCond (b := (decide (x < ((s_.length : Nat) : Int)))) hf rfl (fun hb => ?_) (fun hb => ?_)
 ·replace hF := condT hb hF
  clear hb
  refine wp_skip ?_
  refine h7 _ _ ?_
  refine wp_seq_k fun K8 h8 => wp_block ?_
  refine wp_seq_k fun K9 h9 => cReg ?_
  refine stP hf rfl rfl rfl (pM rfl) fun a hf => stP hf rfl rfl rfl (pA rfl) fun a hf => cNil ?_
  refine h9 _ _ ?_
  refine wp_seq_k fun K10 h10 => cReg ?_
  refine stP hf rfl rfl rfl (pM rfl) fun a hf => stP hf rfl rfl rfl (pM rfl) fun a hf => stP hf rfl rfl rfl (pM rfl) fun a hf => ?_
  obtain ⟨e_1,he_1,hF⟩ := bnd_some hF
  obtain ⟨b_1,o,qa,qp⟩ := h_s_.atm he_1
  refine stP hf rfl rfl rfl (pIA Tryz.underlying22 sz_31 rfl rfl qa) fun a hf => stE hf hc rfl rfl rfl (eLdN (vs := [.int .i64 e_1.Way.Lo,.int .i64 e_1.Way.Hi,.int .i64 e_1.Work.Lo,.int .i64 e_1.Work.Hi,.int .i64 e_1.Open,.int .i64 e_1.Close]) ag_31 rfl rfl (cells_pc qp (n := 6) (o' := 0) rfl)) fun a w hf hc => stE hf hc rfl rfl rfl (eC (v := .bool (crew_every_crew_Visit_1 e_1)) (vs := [.agg #[.int .i64 e_1.Way.Lo,.int .i64 e_1.Way.Hi,.int .i64 e_1.Work.Lo,.int .i64 e_1.Work.Hi,.int .i64 e_1.Open,.int .i64 e_1.Close]]) (caps := [.pointer (some ⟨b_,0,none⟩)]) en_184 rfl rfl rfl rfl (fun w hc => (crew_every_crew_Visit_1_ok e_1 (hc.pick k0) rfl).mono fun e w h => ⟨h.1,(h.2.unpick k0)⟩)) fun a w hf hc => cNil ?_
  refine h10 _ _ ?_
  refine cCond (b := (crew_every_crew_Visit_1 e_1)) hf rfl (fun hb => ?_) (fun hb => ?_)
  ·replace hF := condT hb hF
   clear hb
   refine wp_seq_k fun K11 h11 => cReg ?_
   refine stP hf rfl rfl rfl (pM rfl) fun a hf => stP hf rfl rfl rfl (pA rfl) fun a hf => cNil ?_
   refine h11 _ _ ?_
   refine wp_ret ?_
   refine xBlkR ?_
   refine xThenR ?_
   refine xThenR ?_
   have he := Option.some.inj hF
   rw [← he] at hfin4
   replace hF := ho4 _ hfin4
   refine xBlkR ?_
   refine xThenR ?_
   obtain rfl := hF
   exact fnOut1 (by simp) rfl Tryz.results200 hf hc (show look _ 4 = _ from rfl) ⟨rfl,hc⟩
  ·replace hF := condF hb hF
   clear hb
   refine wp_skip ?_
   refine h8 _ _ ?_
   refine cReg ?_
   refine stP hf rfl rfl rfl (pAdd rfl rfl) fun a hf => stP hf rfl rfl rfl (pM rfl) fun a hf => cNil ?_
   exact hK4 (W (x + 1)) _ _ (Option.some.inj hF).symm ⟨hf.keep ⟨rfl,rfl,rfl,rfl,trivial⟩,hc⟩
 ·replace hF := condF hb hF
  clear hb
  refine wp_exit ?_
  refine xThen ?_
  refine xThen ?_
  have he := Option.some.inj hF
  rw [← he] at hfin4
  refine cHit ?_
  exact hr4 _ _ _ hfin4 ⟨hf.keep ⟨rfl,rfl,rfl,rfl,trivial⟩,hc⟩

def slices_ContainsFunc_Lcrew_Visit_crew_Visit (N : Nat) (s_ : List crew_Visit) : Option (Bool) :=
 Option.bind (slices_IndexFunc_Lcrew_Visit_crew_Visit N s_) fun r =>
 some (decide (0 ≤ r))
theorem slices_ContainsFunc_Lcrew_Visit_crew_Visit_ok {N : Nat} {G : Pers} {Lf : List Ent} {w : World} (s_ : List crew_Visit) {s__p : Option Addr} {s__c : Nat} {b_ : Nat} (h_s_ : Rd G 6 s__p s__c (s_.map enc_crew_Visit)) (hc : Ctx G (.box b_ [.func (.func 153) #[] #[]] 219::Lf) w) {res : Bool} (hF : slices_ContainsFunc_Lcrew_Visit_crew_Visit N s_ = some res) : Calls Tryz.prog 183 #[.slice s__p s_.length s__c,.func (.func 184) #[] #[.pointer (some ⟨b_,0,none⟩)]] w (fun e w => e = .returned (.bool res) ∧ Ctx G (.box b_ [.func (.func 153) #[] #[]] 219::Lf) w) := by
 unfold slices_ContainsFunc_Lcrew_Visit_crew_Visit at hF
 refine fnIn (args := [.slice s__p s_.length s__c,.func (.func 184) #[] #[.pointer (some ⟨b_,0,none⟩)]]) Tryz.func183 rfl Tryz.ntmps183 rfl fun a hf => wp_seq_k fun K1 h1 => cReg ?_
 refine stP hf rfl rfl rfl (pA rfl) fun a hf => cNil ?_
 refine h1 _ _ ?_
 refine wp_seq_k fun K2 h2 => cReg ?_
 refine stP hf rfl rfl rfl (pM rfl) fun a hf => stP hf rfl rfl rfl (pM rfl) fun a hf => ?_
 obtain ⟨r,hr,hF⟩ := bnd_some hF
 refine stE hf hc rfl rfl rfl (eC (v := .int .i64 r) (vs := [.slice s__p s_.length s__c,.func (.func 184) #[] #[.pointer (some ⟨b_,0,none⟩)]]) (caps := []) en_200 rfl rfl rfl rfl (fun w hc => (slices_IndexFunc_Lcrew_Visit_crew_Visit_ok s_ h_s_ (hc.pick k0) hr).mono fun e w h => ⟨h.1,(h.2.unpick k0)⟩)) fun a w hf hc => stP hf rfl rfl rfl (pGe rfl rfl) fun a hf => stP hf rfl rfl rfl (pA rfl) fun a hf => cNil ?_
 refine h2 _ _ ?_
 refine wp_ret ?_
 obtain rfl := Option.some.inj hF
 exact fnOut1 (by simp) rfl Tryz.results183 hf hc (show look _ 4 = _ from rfl) ⟨rfl,hc⟩

def crew_every_crew_Visit (N : Nat) (l : List crew_Visit) : Option (Bool) :=
 Option.bind (slices_ContainsFunc_Lcrew_Visit_crew_Visit N l) fun r =>
 some (!r)
theorem crew_every_crew_Visit_ok {N : Nat} {G : Pers} {Lf : List Ent} {w : World} (l : List crew_Visit) {l_p : Option Addr} {l_c : Nat} (h_l : Rd G 6 l_p l_c (l.map enc_crew_Visit)) (hc : Ctx G (Lf) w) {res : Bool} (hF : crew_every_crew_Visit N l = some res) : Calls Tryz.prog 152 #[.slice l_p l.length l_c,.func (.func 153) #[] #[]] w (fun e w => e = .returned (.bool res) ∧ Ctx G (Lf) w) := by
 unfold crew_every_crew_Visit at hF
 refine fnIn (args := [.slice l_p l.length l_c,.func (.func 153) #[] #[]]) Tryz.func152 rfl Tryz.ntmps152 rfl fun a hf => wp_seq_k fun K1 h1 => cReg ?_
 refine stBx (cs := [.func (.func 153) #[] #[]]) hf hc rfl rfl rfl rfl fun b_1 a w hf hc => stP hf rfl rfl rfl (pA rfl) fun a hf => cNil ?_
 refine h1 _ _ ?_
 refine wp_seq_k fun K2 h2 => cReg ?_
 refine stP hf rfl rfl rfl (pM rfl) fun a hf => stP hf rfl rfl rfl (pMF (us := [.pointer (some ⟨b_1,0,none⟩)]) rfl rfl) fun a hf => ?_
 obtain ⟨r,hr,hF⟩ := bnd_some hF
 refine stE hf hc rfl rfl rfl (eC (v := .bool r) (vs := [.slice l_p l.length l_c,.func (.func 184) #[] #[.pointer (some ⟨b_1,0,none⟩)]]) (caps := []) en_183 rfl rfl rfl rfl (fun w hc => (slices_ContainsFunc_Lcrew_Visit_crew_Visit_ok l h_l (hc.pick k0) hr).mono fun e w h => ⟨h.1,(h.2.unpick k0)⟩)) fun a w hf hc => stP hf rfl rfl rfl (pNot rfl) fun a hf => stP hf rfl rfl rfl (pA rfl) fun a hf => cNil ?_
 refine h2 _ _ ?_
 refine wp_ret ?_
 obtain rfl := Option.some.inj hF
 replace hc := hc.drop k0
 exact fnOut1 (by simp) rfl Tryz.results152 hf hc (show look _ 4 = _ from rfl) ⟨rfl,hc⟩

def crew_rounded (N : Nat) (l : List crew_Visit) : Option (Int) :=
 cond (!(crew_in ((l.length : Nat) : Int) 1 20))
 (some 3)
 (Option.bind (crew_every_crew_Visit N l) fun r =>
 cond (!r)
 (some 120)
 (some 0))
theorem crew_rounded_ok {N : Nat} {G : Pers} {Lf : List Ent} {w : World} (l : List crew_Visit) {l_p : Option Addr} {l_c : Nat} (h_l : Rd G 6 l_p l_c (l.map enc_crew_Visit)) (hc : Ctx G (Lf) w) {res : Int} (hF : crew_rounded N l = some res) : Calls Tryz.prog 79 #[.slice l_p l.length l_c] w (fun e w => e = .returned (.int .i64 res) ∧ Ctx G (Lf) w) := by
 unfold crew_rounded at hF
 refine fnIn (args := [.slice l_p l.length l_c]) Tryz.func79 rfl Tryz.ntmps79 rfl fun a hf => wp_seq_k fun K1 h1 => cReg ?_
 refine stP hf rfl rfl rfl (pA rfl) fun a hf => cNil ?_
 refine h1 _ _ ?_
 refine wp_seq_k fun K2 h2 => wp_block ?_
 refine wp_seq_k fun K3 h3 => cReg ?_
 refine stP hf rfl rfl rfl (pM rfl) fun a hf => stP hf rfl rfl rfl (pLenS Tryz.underlying22 rfl) fun a hf => stE hf hc rfl rfl rfl (eC (v := .bool (crew_in ((l.length : Nat) : Int) 1 20)) (vs := [.int .i64 ((l.length : Nat) : Int),.int .i64 1,.int .i64 20]) (caps := []) en_86 rfl rfl rfl rfl (fun w hc => crew_in_ok ((l.length : Nat) : Int) 1 20 hc rfl)) fun a w hf hc => stP hf rfl rfl rfl (pNot rfl) fun a hf => stP hf rfl rfl rfl (pA rfl) fun a hf => cNil ?_
 refine h3 _ _ ?_
 refine cCond (b := (!(crew_in ((l.length : Nat) : Int) 1 20))) hf rfl (fun hb => ?_) (fun hb => ?_)
 ·replace hF := condT hb hF
  clear hb
  refine wp_seq_k fun K4 h4 => cReg ?_
  refine stP hf rfl rfl rfl (pA rfl) fun a hf => cNil ?_
  refine h4 _ _ ?_
  refine wp_ret ?_
  refine xBlkR ?_
  refine xThenR ?_
  obtain rfl := Option.some.inj hF
  exact fnOut1 (by simp) rfl Tryz.results79 hf hc (show look _ 2 = _ from rfl) ⟨rfl,hc⟩
 ·replace hF := condF hb hF
  clear hb
  refine wp_seq_k fun K5 h5 => cReg ?_
  refine stP hf rfl rfl rfl (pM rfl) fun a hf => ?_
  obtain ⟨r,hr,hF⟩ := bnd_some hF
  refine stE hf hc rfl rfl rfl (eC (v := .bool r) (vs := [.slice l_p l.length l_c,.func (.func 153) #[] #[]]) (caps := []) en_152 rfl rfl rfl rfl (fun w hc => crew_every_crew_Visit_ok l h_l hc hr)) fun a w hf hc => stP hf rfl rfl rfl (pNot rfl) fun a hf => stP hf rfl rfl rfl (pA rfl) fun a hf => cNil ?_
  refine h5 _ _ ?_
  refine cCond (b := (!r)) hf rfl (fun hb => ?_) (fun hb => ?_)
  ·replace hF := condT hb hF
   clear hb
   refine wp_seq_k fun K6 h6 => cReg ?_
   refine stP hf rfl rfl rfl (pA rfl) fun a hf => cNil ?_
   refine h6 _ _ ?_
   refine wp_ret ?_
   refine xBlkR ?_
   refine xThenR ?_
   obtain rfl := Option.some.inj hF
   exact fnOut1 (by simp) rfl Tryz.results79 hf hc (show look _ 2 = _ from rfl) ⟨rfl,hc⟩
  ·replace hF := condF hb hF
   clear hb
   refine wp_skip ?_
   refine h2 _ _ ?_
   refine wp_seq_k fun K7 h7 => cReg ?_
   refine stP hf rfl rfl rfl (pA rfl) fun a hf => cNil ?_
   refine h7 _ _ ?_
   refine wp_ret ?_
   obtain rfl := Option.some.inj hF
   exact fnOut1 (by simp) rfl Tryz.results79 hf hc (show look _ 2 = _ from rfl) ⟨rfl,hc⟩

def crew_low  : Unit :=
 ()
theorem crew_low_ok {G : Pers} {Lf : List Ent} {w : World}    (hc : Ctx G (Lf) w) {res : Unit} (hF : crew_low = res) : Calls Tryz.prog 82 #[] w (fun e w => e = .returned (.agg #[.func (.func 155) #[] #[]]) ∧ Ctx G (Lf) w) := by
 unfold crew_low at hF
 refine fnIn (args := []) Tryz.func82 rfl Tryz.ntmps82 rfl fun a hf => wp_seq_k fun K1 h1 => cReg ?_
 refine stAl (cs := [.nilFunc]) hf hc rfl rfl zr_147 rfl fun b_1 a w hf hc => cNil ?_
 refine h1 _ _ ?_
 refine wp_seq_k fun K2 h2 => cReg ?_
 refine stP hf rfl rfl rfl (pBuildS (cells := [.func (.func 155) #[] #[]]) bt_147 rfl rfl) fun a hf => stSt (vs := [.func (.func 155) #[] #[]]) hf hc rfl rfl rfl rfl sz_147 rfl rfl u0 fun w hc => cNil ?_
 refine h2 _ _ ?_
 refine wp_ret ?_
 obtain rfl := hF
 exact fnOut1 (by simp) rfl Tryz.results82 hf hc (rv_cellN (vs := [.func (.func 155) #[] #[]]) ag_147 rfl rfl (cells_box (n := 1) m0 rfl)) ⟨rfl,(hc.drop k0)⟩

def crew_low_1 (s_ : api_Span) : Int :=
 s_.Lo
theorem crew_low_1_ok {G : Pers} {Lf : List Ent} {w : World} (s_ : api_Span)   (hc : Ctx G (Lf) w) {res : Int} (hF : crew_low_1 s_ = res) : Calls Tryz.prog 155 #[.agg #[.int .i64 s_.Lo,.int .i64 s_.Hi]] w (fun e w => e = .returned (.int .i64 res) ∧ Ctx G (Lf) w) := by
 unfold crew_low_1 at hF
 refine fnIn (args := [.agg #[.int .i64 s_.Lo,.int .i64 s_.Hi]]) Tryz.func155 rfl Tryz.ntmps155 rfl fun a hf => wp_seq_k fun K1 h1 => cReg ?_
 refine stBx (cs := [.int .i64 s_.Lo,.int .i64 s_.Hi]) hf hc rfl rfl rfl rfl fun b_1 a w hf hc => stP hf rfl rfl rfl (pA rfl) fun a hf => cNil ?_
 refine h1 _ _ ?_
 refine wp_seq_k fun K2 h2 => cReg ?_
 refine stP hf rfl rfl rfl (pFA fa_29_0 rfl) fun a hf => stE hf hc rfl rfl rfl (eLd1 sc_3 rfl (cell_box m0 rfl)) fun a w hf hc => stP hf rfl rfl rfl (pA rfl) fun a hf => cNil ?_
 refine h2 _ _ ?_
 refine wp_ret ?_
 obtain rfl := hF
 replace hc := hc.drop k0
 exact fnOut1 (by simp) rfl Tryz.results155 hf hc (show look _ 2 = _ from rfl) ⟨rfl,hc⟩

def crew_begins_b5 (N : Nat) (l : List crew_Visit) (start_0 : Int) (out : List Int) (x : Int) : Option (Step (Int × (List Int) × Int) ((List Int))) :=
 cond (decide (x < ((l.length : Nat) : Int)))
 (Option.bind (getI l x) fun e_1 =>
 Option.bind (room ((out ++ [max (W (start_0 + (crew_low_1 e_1.Way))) e_1.Open])).length) fun un =>
 some (.cont (W ((max (W (start_0 + (crew_low_1 e_1.Way))) e_1.Open) + (crew_low_1 e_1.Work)),(out ++ [max (W (start_0 + (crew_low_1 e_1.Way))) e_1.Open]),W (x + 1))))
 (some (.brk (start_0,out,x)))
def crew_begins (N : Nat) (start : Int) (l : List crew_Visit) : Option ((List Int)) :=
 Option.bind (loopO (fun s5 => crew_begins_b5 N l s5.1 s5.2.1 s5.2.2) N (start,([] : List Int),0)) fun x5 =>
 exK x5 (fun s5 => some s5.2.1) some
theorem crew_begins_ok {N : Nat} {G : Pers} {Lf : List Ent} {w : World} (start : Int) (l : List crew_Visit) {l_p : Option Addr} {l_c : Nat} (h_l : Rd G 6 l_p l_c (l.map enc_crew_Visit)) (hc : Ctx G (Lf) w) {res : (List Int)} (hF : crew_begins N start l = some res) : Calls Tryz.prog 81 #[.int .i64 start,.slice l_p l.length l_c,.agg #[.func (.func 155) #[] #[]]] w (fun e w => ∃ (p'1 : Option Addr) (c'1 : Nat),e = .returned (.slice p'1 res.length c'1) ∧ Ctx G (.row p'1 c'1 (res.map encI_i64) 3 1::Lf) w) := by
 unfold crew_begins at hF
 refine fnIn (args := [.int .i64 start,.slice l_p l.length l_c,.agg #[.func (.func 155) #[] #[]]]) Tryz.func81 rfl Tryz.ntmps81 rfl fun a hf => wp_seq_k fun K1 h1 => cReg ?_
 refine stBx (cs := [.func (.func 155) #[] #[]]) hf hc rfl rfl rfl rfl fun b_1 a w hf hc => stP hf rfl rfl rfl (pA rfl) fun a hf => cNil ?_
 refine h1 _ _ ?_
 refine wp_seq_k fun K2 h2 => cReg ?_
 refine stP hf rfl rfl rfl (pA rfl) fun a hf => cNil ?_
 refine h2 _ _ ?_
 refine wp_seq_k fun K3 h3 => wp_seq_k fun K4 h4 => cReg ?_
 refine stP hf rfl rfl rfl (pM rfl) fun a hf => stP hf rfl rfl rfl (pLenS Tryz.underlying22 rfl) fun a hf => stP hf rfl rfl rfl (pM rfl) fun a hf => cNil ?_
 refine h4 _ _ ?_
 refine wp_block ?_
 obtain ⟨x5,hx5,hF⟩ := bnd_some hF
 let S5 : (Int × (List Int) × Int) → Act → World → Prop := (fun (zz : Int × (List Int) × Int) a w => ∃ (p_1 : Option Addr) (c_1 : Nat),Has 40 a [(0,.int .i64 zz.1),(5,.pointer (some ⟨b_1,0,none⟩)),(7,.slice p_1 zz.2.1.length c_1),(11,.slice l_p l.length l_c),(12,.int .i64 ((l.length : Nat) : Int)),(13,.int .i64 zz.2.2)] ∧ Ctx G (.row p_1 c_1 (zz.2.1.map encI_i64) 3 1::.box b_1 [.func (.func 155) #[] #[]] 147::Lf) w)
 have hr5 : ∀ (zz : Int × (List Int) × Int) a w,x5 = .go zz → S5 zz a w → K3 a w := by
  rintro ⟨start_0,out,x⟩ a w rfl ⟨p_1,c_1,hf,hc⟩
  replace hF := exK_go hF
  refine h3 _ _ ?_
  refine wp_seq_k fun K6 h6 => cReg ?_
  refine stP hf rfl rfl rfl (pM rfl) fun a hf => stP hf rfl rfl rfl (pA rfl) fun a hf => cNil ?_
  refine h6 _ _ ?_
  refine wp_ret ?_
  obtain rfl := Option.some.inj hF
  replace hc := hc.drop k1
  exact fnOut1 (by simp) rfl Tryz.results81 hf hc (show look _ 6 = _ from rfl) ⟨p_1,c_1,rfl,hc⟩
 have ho5 : ∀ r,x5 = .out r → r = res := by
  rintro r rfl
  exact Option.some.inj hF
 replace hc := hc.nilRow 3 1
 refine cLoop N (loopW (S := S5) (x := x5) ?_ N (start,([] : List Int),0) _ _ ⟨none,0,hf.keep ⟨rfl,rfl,rfl,rfl,rfl,rfl,trivial⟩,hc⟩ hx5)
 clear hF hf hc
 rintro ⟨start_0,out,x⟩ st5 a w KB5 ⟨p_1,c_1,hf,hc⟩ hF hfin5 hK5
 unfold crew_begins_b5 at hF
 refine wp_seq_k fun K7 h7 => cReg ?_
 refine stP hf rfl rfl rfl (pLt rfl rfl) fun a hf => cNil ?_
 refine h7 _ _ ?_
 refine wp_seq_k fun K8 h8 => cCond (b := (decide (x < ((l.length : Nat) : Int)))) hf rfl (fun hb => ?_) (fun hb => ?_)
 ·replace hF := condT hb hF
  clear hb
  refine wp_skip ?_
  refine h8 _ _ ?_
  refine wp_seq_k fun K9 h9 => wp_block ?_
  refine wp_seq_k fun K10 h10 => cReg ?_
  obtain ⟨e_1,he_1,hF⟩ := bnd_some hF
  obtain ⟨b_2,o,qa,qp⟩ := h_l.atm he_1
  refine stP hf rfl rfl rfl (pIA Tryz.underlying22 sz_31 rfl rfl qa) fun a hf => stE hf hc rfl rfl rfl (eLdN (vs := [.int .i64 e_1.Way.Lo,.int .i64 e_1.Way.Hi,.int .i64 e_1.Work.Lo,.int .i64 e_1.Work.Hi,.int .i64 e_1.Open,.int .i64 e_1.Close]) ag_31 rfl rfl (cells_pc qp (n := 6) (o' := 0) rfl)) fun a w hf hc => stAl (cs := [.int .i64 0,.int .i64 0,.int .i64 0,.int .i64 0,.int .i64 0,.int .i64 0]) hf hc rfl rfl zr_31 rfl fun b_3 a w hf hc => stSt (vs := [.int .i64 e_1.Way.Lo,.int .i64 e_1.Way.Hi,.int .i64 e_1.Work.Lo,.int .i64 e_1.Work.Hi,.int .i64 e_1.Open,.int .i64 e_1.Close]) hf hc rfl rfl rfl rfl sz_31 rfl rfl u0 fun w hc => cNil ?_
  refine h10 _ _ ?_
  refine wp_seq_k fun K11 h11 => cQ hc follows_mx (by kernel_rfl) ?_
  refine qE hf rfl rfl rfl (Pu.ev (pM rfl)) fun a hf => qE hf rfl rfl rfl (Pu.ev (pFA fa_147_0 rfl)) fun a hf => qE hf rfl rfl rfl (eLd1 sc_145 rfl (cell_box m2 rfl)) fun a hf => qE hf rfl rfl rfl (Pu.ev (pFA fa_31_0 rfl)) fun a hf => qE hf rfl rfl rfl (eLdN (vs := [.int .i64 e_1.Way.Lo,.int .i64 e_1.Way.Hi]) ag_29 rfl rfl (cells_box (n := 2) m0 rfl)) fun a hf => qE hf rfl rfl rfl (eC (v := .int .i64 (crew_low_1 e_1.Way)) (vs := [.agg #[.int .i64 e_1.Way.Lo,.int .i64 e_1.Way.Hi]]) (caps := []) en_155 rfl rfl rfl rfl (fun w hc => crew_low_1_ok e_1.Way hc rfl)) fun a hf => qE hf rfl rfl rfl (Pu.ev (pAdd rfl rfl)) fun a hf => qE hf rfl rfl rfl (Pu.ev (pFA fa_31_2 rfl)) fun a hf => qE hf rfl rfl rfl (eLd1 sc_3 rfl (cell_box m0 rfl)) fun a hf => qE hf rfl rfl rfl (Pu.ev (pMax2 rfl rfl)) fun a hf => qE hf rfl rfl rfl (Pu.ev (pA rfl)) fun a hf => ?_
  intro w hc
  refine h11 _ _ ?_
  refine wp_seq_k fun K12 h12 => cReg ?_
  refine stP hf rfl rfl rfl (pM rfl) fun a hf => stP hf rfl rfl rfl (pM rfl) fun a hf => stBS (rows := ([max (W (start_0 + (crew_low_1 e_1.Way))) e_1.Open] : List Int).map encI_i64) (vs := [(0,.int .i64 (max (W (start_0 + (crew_low_1 e_1.Way))) e_1.Open))]) hf hc rfl rfl sl_25 rfl ⟨rfl,rfl,rfl,trivial⟩ rfl rfl fun b_4 a w hf hc => ?_
  obtain ⟨un,hun,hF⟩ := bnd_some hF
  refine stApm (xs := out) (ys := ([max (W (start_0 + (crew_low_1 e_1.Way))) e_1.Open] : List Int)) hf hc rfl rfl sl_25 rfl rfl rfl rfl rfl one_encI_i64 (src_row hc m0) (fun _ _ => u2) (by simpa using room_spec hun) fun p_2 c_2 a w hf hc => stP hf rfl rfl rfl (pA rfl) fun a hf => cNil ?_
  refine h12 _ _ ?_
  refine cReg ?_
  refine stP hf rfl rfl rfl (pM rfl) fun a hf => stP hf rfl rfl rfl (pFA fa_147_0 rfl) fun a hf => stE hf hc rfl rfl rfl (eLd1 sc_145 rfl (cell_box m3 rfl)) fun a w hf hc => stP hf rfl rfl rfl (pFA fa_31_1 rfl) fun a hf => stE hf hc rfl rfl rfl (eLdN (vs := [.int .i64 e_1.Work.Lo,.int .i64 e_1.Work.Hi]) ag_29 rfl rfl (cells_box (n := 2) m1 rfl)) fun a w hf hc => stE hf hc rfl rfl rfl (eC (v := .int .i64 (crew_low_1 e_1.Work)) (vs := [.agg #[.int .i64 e_1.Work.Lo,.int .i64 e_1.Work.Hi]]) (caps := []) en_155 rfl rfl rfl rfl (fun w hc => crew_low_1_ok e_1.Work hc rfl)) fun a w hf hc => stP hf rfl rfl rfl (pAdd rfl rfl) fun a hf => stP hf rfl rfl rfl (pA rfl) fun a hf => cNil ?_
  refine h9 _ _ ?_
  refine cReg ?_
  refine stP hf rfl rfl rfl (pAdd rfl rfl) fun a hf => stP hf rfl rfl rfl (pM rfl) fun a hf => cNil ?_
  replace hc := hc.drop k1
  replace hc := hc.drop k0
  exact hK5 (W ((max (W (start_0 + (crew_low_1 e_1.Way))) e_1.Open) + (crew_low_1 e_1.Work)),(out ++ [max (W (start_0 + (crew_low_1 e_1.Way))) e_1.Open]),W (x + 1)) _ _ (Option.some.inj hF).symm ⟨p_2,c_2,hf.keep ⟨rfl,rfl,rfl,rfl,rfl,rfl,trivial⟩,hc⟩
 ·replace hF := condF hb hF
  clear hb
  refine wp_exit ?_
  refine xThen ?_
  refine xThen ?_
  have he := Option.some.inj hF
  rw [← he] at hfin5
  refine cHit ?_
  exact hr5 _ _ _ hfin5 ⟨p_1,c_1,hf.keep ⟨rfl,rfl,rfl,rfl,rfl,rfl,trivial⟩,hc⟩

def crew_high  : Unit :=
 ()
theorem crew_high_ok {G : Pers} {Lf : List Ent} {w : World}    (hc : Ctx G (Lf) w) {res : Unit} (hF : crew_high = res) : Calls Tryz.prog 83 #[] w (fun e w => e = .returned (.agg #[.func (.func 156) #[] #[]]) ∧ Ctx G (Lf) w) := by
 unfold crew_high at hF
 refine fnIn (args := []) Tryz.func83 rfl Tryz.ntmps83 rfl fun a hf => wp_seq_k fun K1 h1 => cReg ?_
 refine stAl (cs := [.nilFunc]) hf hc rfl rfl zr_147 rfl fun b_1 a w hf hc => cNil ?_
 refine h1 _ _ ?_
 refine wp_seq_k fun K2 h2 => cReg ?_
 refine stP hf rfl rfl rfl (pBuildS (cells := [.func (.func 156) #[] #[]]) bt_147 rfl rfl) fun a hf => stSt (vs := [.func (.func 156) #[] #[]]) hf hc rfl rfl rfl rfl sz_147 rfl rfl u0 fun w hc => cNil ?_
 refine h2 _ _ ?_
 refine wp_ret ?_
 obtain rfl := hF
 exact fnOut1 (by simp) rfl Tryz.results83 hf hc (rv_cellN (vs := [.func (.func 156) #[] #[]]) ag_147 rfl rfl (cells_box (n := 1) m0 rfl)) ⟨rfl,(hc.drop k0)⟩

def crew_high_1 (s_ : api_Span) : Int :=
 s_.Hi
theorem crew_high_1_ok {G : Pers} {Lf : List Ent} {w : World} (s_ : api_Span)   (hc : Ctx G (Lf) w) {res : Int} (hF : crew_high_1 s_ = res) : Calls Tryz.prog 156 #[.agg #[.int .i64 s_.Lo,.int .i64 s_.Hi]] w (fun e w => e = .returned (.int .i64 res) ∧ Ctx G (Lf) w) := by
 unfold crew_high_1 at hF
 refine fnIn (args := [.agg #[.int .i64 s_.Lo,.int .i64 s_.Hi]]) Tryz.func156 rfl Tryz.ntmps156 rfl fun a hf => wp_seq_k fun K1 h1 => cReg ?_
 refine stBx (cs := [.int .i64 s_.Lo,.int .i64 s_.Hi]) hf hc rfl rfl rfl rfl fun b_1 a w hf hc => stP hf rfl rfl rfl (pA rfl) fun a hf => cNil ?_
 refine h1 _ _ ?_
 refine wp_seq_k fun K2 h2 => cReg ?_
 refine stP hf rfl rfl rfl (pFA fa_29_1 rfl) fun a hf => stE hf hc rfl rfl rfl (eLd1 sc_3 rfl (cell_box m0 rfl)) fun a w hf hc => stP hf rfl rfl rfl (pA rfl) fun a hf => cNil ?_
 refine h2 _ _ ?_
 refine wp_ret ?_
 obtain rfl := hF
 replace hc := hc.drop k0
 exact fnOut1 (by simp) rfl Tryz.results156 hf hc (show look _ 2 = _ from rfl) ⟨rfl,hc⟩

def crew_begins_s2_b5 (N : Nat) (l : List crew_Visit) (start_0 : Int) (out : List Int) (x : Int) : Option (Step (Int × (List Int) × Int) ((List Int))) :=
 cond (decide (x < ((l.length : Nat) : Int)))
 (Option.bind (getI l x) fun e_1 =>
 Option.bind (room ((out ++ [max (W (start_0 + (crew_high_1 e_1.Way))) e_1.Open])).length) fun un =>
 some (.cont (W ((max (W (start_0 + (crew_high_1 e_1.Way))) e_1.Open) + (crew_high_1 e_1.Work)),(out ++ [max (W (start_0 + (crew_high_1 e_1.Way))) e_1.Open]),W (x + 1))))
 (some (.brk (start_0,out,x)))
def crew_begins_s2 (N : Nat) (start : Int) (l : List crew_Visit) : Option ((List Int)) :=
 Option.bind (loopO (fun s5 => crew_begins_s2_b5 N l s5.1 s5.2.1 s5.2.2) N (start,([] : List Int),0)) fun x5 =>
 exK x5 (fun s5 => some s5.2.1) some
theorem crew_begins_s2_ok {N : Nat} {G : Pers} {Lf : List Ent} {w : World} (start : Int) (l : List crew_Visit) {l_p : Option Addr} {l_c : Nat} (h_l : Rd G 6 l_p l_c (l.map enc_crew_Visit)) (hc : Ctx G (Lf) w) {res : (List Int)} (hF : crew_begins_s2 N start l = some res) : Calls Tryz.prog 81 #[.int .i64 start,.slice l_p l.length l_c,.agg #[.func (.func 156) #[] #[]]] w (fun e w => ∃ (p'1 : Option Addr) (c'1 : Nat),e = .returned (.slice p'1 res.length c'1) ∧ Ctx G (.row p'1 c'1 (res.map encI_i64) 3 1::Lf) w) := by
 unfold crew_begins_s2 at hF
 refine fnIn (args := [.int .i64 start,.slice l_p l.length l_c,.agg #[.func (.func 156) #[] #[]]]) Tryz.func81 rfl Tryz.ntmps81 rfl fun a hf => wp_seq_k fun K1 h1 => cReg ?_
 refine stBx (cs := [.func (.func 156) #[] #[]]) hf hc rfl rfl rfl rfl fun b_1 a w hf hc => stP hf rfl rfl rfl (pA rfl) fun a hf => cNil ?_
 refine h1 _ _ ?_
 refine wp_seq_k fun K2 h2 => cReg ?_
 refine stP hf rfl rfl rfl (pA rfl) fun a hf => cNil ?_
 refine h2 _ _ ?_
 refine wp_seq_k fun K3 h3 => wp_seq_k fun K4 h4 => cReg ?_
 refine stP hf rfl rfl rfl (pM rfl) fun a hf => stP hf rfl rfl rfl (pLenS Tryz.underlying22 rfl) fun a hf => stP hf rfl rfl rfl (pM rfl) fun a hf => cNil ?_
 refine h4 _ _ ?_
 refine wp_block ?_
 obtain ⟨x5,hx5,hF⟩ := bnd_some hF
 let S5 : (Int × (List Int) × Int) → Act → World → Prop := (fun (zz : Int × (List Int) × Int) a w => ∃ (p_1 : Option Addr) (c_1 : Nat),Has 40 a [(0,.int .i64 zz.1),(5,.pointer (some ⟨b_1,0,none⟩)),(7,.slice p_1 zz.2.1.length c_1),(11,.slice l_p l.length l_c),(12,.int .i64 ((l.length : Nat) : Int)),(13,.int .i64 zz.2.2)] ∧ Ctx G (.row p_1 c_1 (zz.2.1.map encI_i64) 3 1::.box b_1 [.func (.func 156) #[] #[]] 147::Lf) w)
 have hr5 : ∀ (zz : Int × (List Int) × Int) a w,x5 = .go zz → S5 zz a w → K3 a w := by
  rintro ⟨start_0,out,x⟩ a w rfl ⟨p_1,c_1,hf,hc⟩
  replace hF := exK_go hF
  refine h3 _ _ ?_
  refine wp_seq_k fun K6 h6 => cReg ?_
  refine stP hf rfl rfl rfl (pM rfl) fun a hf => stP hf rfl rfl rfl (pA rfl) fun a hf => cNil ?_
  refine h6 _ _ ?_
  refine wp_ret ?_
  obtain rfl := Option.some.inj hF
  replace hc := hc.drop k1
  exact fnOut1 (by simp) rfl Tryz.results81 hf hc (show look _ 6 = _ from rfl) ⟨p_1,c_1,rfl,hc⟩
 have ho5 : ∀ r,x5 = .out r → r = res := by
  rintro r rfl
  exact Option.some.inj hF
 replace hc := hc.nilRow 3 1
 refine cLoop N (loopW (S := S5) (x := x5) ?_ N (start,([] : List Int),0) _ _ ⟨none,0,hf.keep ⟨rfl,rfl,rfl,rfl,rfl,rfl,trivial⟩,hc⟩ hx5)
 clear hF hf hc
 rintro ⟨start_0,out,x⟩ st5 a w KB5 ⟨p_1,c_1,hf,hc⟩ hF hfin5 hK5
 unfold crew_begins_s2_b5 at hF
 refine wp_seq_k fun K7 h7 => cReg ?_
 refine stP hf rfl rfl rfl (pLt rfl rfl) fun a hf => cNil ?_
 refine h7 _ _ ?_
 refine wp_seq_k fun K8 h8 => cCond (b := (decide (x < ((l.length : Nat) : Int)))) hf rfl (fun hb => ?_) (fun hb => ?_)
 ·replace hF := condT hb hF
  clear hb
  refine wp_skip ?_
  refine h8 _ _ ?_
  refine wp_seq_k fun K9 h9 => wp_block ?_
  refine wp_seq_k fun K10 h10 => cReg ?_
  obtain ⟨e_1,he_1,hF⟩ := bnd_some hF
  obtain ⟨b_2,o,qa,qp⟩ := h_l.atm he_1
  refine stP hf rfl rfl rfl (pIA Tryz.underlying22 sz_31 rfl rfl qa) fun a hf => stE hf hc rfl rfl rfl (eLdN (vs := [.int .i64 e_1.Way.Lo,.int .i64 e_1.Way.Hi,.int .i64 e_1.Work.Lo,.int .i64 e_1.Work.Hi,.int .i64 e_1.Open,.int .i64 e_1.Close]) ag_31 rfl rfl (cells_pc qp (n := 6) (o' := 0) rfl)) fun a w hf hc => stAl (cs := [.int .i64 0,.int .i64 0,.int .i64 0,.int .i64 0,.int .i64 0,.int .i64 0]) hf hc rfl rfl zr_31 rfl fun b_3 a w hf hc => stSt (vs := [.int .i64 e_1.Way.Lo,.int .i64 e_1.Way.Hi,.int .i64 e_1.Work.Lo,.int .i64 e_1.Work.Hi,.int .i64 e_1.Open,.int .i64 e_1.Close]) hf hc rfl rfl rfl rfl sz_31 rfl rfl u0 fun w hc => cNil ?_
  refine h10 _ _ ?_
  refine wp_seq_k fun K11 h11 => cQ hc follows_mx (by kernel_rfl) ?_
  refine qE hf rfl rfl rfl (Pu.ev (pM rfl)) fun a hf => qE hf rfl rfl rfl (Pu.ev (pFA fa_147_0 rfl)) fun a hf => qE hf rfl rfl rfl (eLd1 sc_145 rfl (cell_box m2 rfl)) fun a hf => qE hf rfl rfl rfl (Pu.ev (pFA fa_31_0 rfl)) fun a hf => qE hf rfl rfl rfl (eLdN (vs := [.int .i64 e_1.Way.Lo,.int .i64 e_1.Way.Hi]) ag_29 rfl rfl (cells_box (n := 2) m0 rfl)) fun a hf => qE hf rfl rfl rfl (eC (v := .int .i64 (crew_high_1 e_1.Way)) (vs := [.agg #[.int .i64 e_1.Way.Lo,.int .i64 e_1.Way.Hi]]) (caps := []) en_156 rfl rfl rfl rfl (fun w hc => crew_high_1_ok e_1.Way hc rfl)) fun a hf => qE hf rfl rfl rfl (Pu.ev (pAdd rfl rfl)) fun a hf => qE hf rfl rfl rfl (Pu.ev (pFA fa_31_2 rfl)) fun a hf => qE hf rfl rfl rfl (eLd1 sc_3 rfl (cell_box m0 rfl)) fun a hf => qE hf rfl rfl rfl (Pu.ev (pMax2 rfl rfl)) fun a hf => qE hf rfl rfl rfl (Pu.ev (pA rfl)) fun a hf => ?_
  intro w hc
  refine h11 _ _ ?_
  refine wp_seq_k fun K12 h12 => cReg ?_
  refine stP hf rfl rfl rfl (pM rfl) fun a hf => stP hf rfl rfl rfl (pM rfl) fun a hf => stBS (rows := ([max (W (start_0 + (crew_high_1 e_1.Way))) e_1.Open] : List Int).map encI_i64) (vs := [(0,.int .i64 (max (W (start_0 + (crew_high_1 e_1.Way))) e_1.Open))]) hf hc rfl rfl sl_25 rfl ⟨rfl,rfl,rfl,trivial⟩ rfl rfl fun b_4 a w hf hc => ?_
  obtain ⟨un,hun,hF⟩ := bnd_some hF
  refine stApm (xs := out) (ys := ([max (W (start_0 + (crew_high_1 e_1.Way))) e_1.Open] : List Int)) hf hc rfl rfl sl_25 rfl rfl rfl rfl rfl one_encI_i64 (src_row hc m0) (fun _ _ => u2) (by simpa using room_spec hun) fun p_2 c_2 a w hf hc => stP hf rfl rfl rfl (pA rfl) fun a hf => cNil ?_
  refine h12 _ _ ?_
  refine cReg ?_
  refine stP hf rfl rfl rfl (pM rfl) fun a hf => stP hf rfl rfl rfl (pFA fa_147_0 rfl) fun a hf => stE hf hc rfl rfl rfl (eLd1 sc_145 rfl (cell_box m3 rfl)) fun a w hf hc => stP hf rfl rfl rfl (pFA fa_31_1 rfl) fun a hf => stE hf hc rfl rfl rfl (eLdN (vs := [.int .i64 e_1.Work.Lo,.int .i64 e_1.Work.Hi]) ag_29 rfl rfl (cells_box (n := 2) m1 rfl)) fun a w hf hc => stE hf hc rfl rfl rfl (eC (v := .int .i64 (crew_high_1 e_1.Work)) (vs := [.agg #[.int .i64 e_1.Work.Lo,.int .i64 e_1.Work.Hi]]) (caps := []) en_156 rfl rfl rfl rfl (fun w hc => crew_high_1_ok e_1.Work hc rfl)) fun a w hf hc => stP hf rfl rfl rfl (pAdd rfl rfl) fun a hf => stP hf rfl rfl rfl (pA rfl) fun a hf => cNil ?_
  refine h9 _ _ ?_
  refine cReg ?_
  refine stP hf rfl rfl rfl (pAdd rfl rfl) fun a hf => stP hf rfl rfl rfl (pM rfl) fun a hf => cNil ?_
  replace hc := hc.drop k1
  replace hc := hc.drop k0
  exact hK5 (W ((max (W (start_0 + (crew_high_1 e_1.Way))) e_1.Open) + (crew_high_1 e_1.Work)),(out ++ [max (W (start_0 + (crew_high_1 e_1.Way))) e_1.Open]),W (x + 1)) _ _ (Option.some.inj hF).symm ⟨p_2,c_2,hf.keep ⟨rfl,rfl,rfl,rfl,rfl,rfl,trivial⟩,hc⟩
 ·replace hF := condF hb hF
  clear hb
  refine wp_exit ?_
  refine xThen ?_
  refine xThen ?_
  have he := Option.some.inj hF
  rw [← he] at hfin5
  refine cHit ?_
  exact hr5 _ _ _ hfin5 ⟨p_1,c_1,hf.keep ⟨rfl,rfl,rfl,rfl,rfl,rfl,trivial⟩,hc⟩

def crew_Hours_b12 (N : Nat) (l : List crew_Visit) (r_1 : (List Int)) (r_2 : (List Int)) (out : List api_Span) (x : Int) : Option (Step ((List api_Span) × Int) ((List api_Span) × Int)) :=
 cond (decide (x < ((l.length : Nat) : Int)))
 (Option.bind (getI r_1 x) fun e_1 =>
 Option.bind (getI r_2 x) fun e_2 =>
 Option.bind (room ((out ++ [(⟨e_1,e_2⟩ : api_Span)])).length) fun un =>
 some (.cont ((out ++ [(⟨e_1,e_2⟩ : api_Span)]),W (x + 1))))
 (some (.brk (out,x)))
def crew_Hours (N : Nat) (start : Int) (l : List crew_Visit) : Option ((List api_Span) × Int) :=
 Option.bind (crew_rounded N l) fun r =>
 cond (r != 0)
 (some (([] : List api_Span),r))
 (cond (!(crew_minute start))
 (some (([] : List api_Span),4))
 (Option.bind (crew_begins N start l) fun r_1 =>
 Option.bind (crew_begins_s2 N start l) fun r_2 =>
 Option.bind (loopO (fun s12 => crew_Hours_b12 N l r_1 r_2 s12.1 s12.2) N (([] : List api_Span),0)) fun x12 =>
 exK x12 (fun s12 => some (s12.1,0)) some))
theorem crew_Hours_ok {N : Nat} {G : Pers} {Lf : List Ent} {w : World} (start : Int) (l : List crew_Visit) {l_p : Option Addr} {l_c : Nat} (h_l : Rd G 6 l_p l_c (l.map enc_crew_Visit)) (hc : Ctx G (Lf) w) {res : (List api_Span) × Int} (hF : crew_Hours N start l = some res) : Calls Tryz.prog 18 #[.int .i64 start,.slice l_p l.length l_c] w (fun e w => ∃ (p'1 : Option Addr) (c'1 : Nat),e = .returned (.tuple #[.slice p'1 res.1.length c'1,.int .i64 res.2]) ∧ Ctx G (.row p'1 c'1 (res.1.map enc_api_Span) 29 2::Lf) w) := by
 unfold crew_Hours at hF
 refine fnIn (args := [.int .i64 start,.slice l_p l.length l_c]) Tryz.func18 rfl Tryz.ntmps18 rfl fun a hf => wp_seq_k fun K1 h1 => cReg ?_
 refine stP hf rfl rfl rfl (pA rfl) fun a hf => stP hf rfl rfl rfl (pA rfl) fun a hf => cNil ?_
 refine h1 _ _ ?_
 refine wp_seq_k fun K2 h2 => cReg ?_
 refine stP hf rfl rfl rfl (pM rfl) fun a hf => ?_
 obtain ⟨r,hr,hF⟩ := bnd_some hF
 refine stE hf hc rfl rfl rfl (eC (v := .int .i64 r) (vs := [.slice l_p l.length l_c]) (caps := []) en_79 rfl rfl rfl rfl (fun w hc => crew_rounded_ok l h_l hc hr)) fun a w hf hc => stP hf rfl rfl rfl (pA rfl) fun a hf => cNil ?_
 refine h2 _ _ ?_
 refine wp_seq_k fun K3 h3 => wp_block ?_
 refine wp_seq_k fun K4 h4 => cReg ?_
 refine stP hf rfl rfl rfl (pM rfl) fun a hf => stP hf rfl rfl rfl (pNe rfl rfl) fun a hf => stP hf rfl rfl rfl (pA rfl) fun a hf => cNil ?_
 refine h4 _ _ ?_
 refine cCond (b := (r != 0)) hf rfl (fun hb => ?_) (fun hb => ?_)
 ·replace hF := condT hb hF
  clear hb
  refine wp_seq_k fun K5 h5 => cReg ?_
  refine stP hf rfl rfl rfl (pM rfl) fun a hf => stP hf rfl rfl rfl (pA rfl) fun a hf => stP hf rfl rfl rfl (pA rfl) fun a hf => cNil ?_
  refine h5 _ _ ?_
  refine wp_ret ?_
  refine xBlkR ?_
  refine xThenR ?_
  obtain rfl := Option.some.inj hF
  replace hc := hc.nilRow 29 2
  exact fnOut2 (by simp) rfl Tryz.results18 hf hc (show look _ 4 = _ from rfl) (show look _ 5 = _ from rfl) ⟨none,0,rfl,hc⟩
 ·replace hF := condF hb hF
  clear hb
  refine wp_seq_k fun K6 h6 => cReg ?_
  refine stP hf rfl rfl rfl (pM rfl) fun a hf => stE hf hc rfl rfl rfl (eC (v := .bool (crew_minute start)) (vs := [.int .i64 start]) (caps := []) en_80 rfl rfl rfl rfl (fun w hc => crew_minute_ok start hc rfl)) fun a w hf hc => stP hf rfl rfl rfl (pNot rfl) fun a hf => stP hf rfl rfl rfl (pA rfl) fun a hf => cNil ?_
  refine h6 _ _ ?_
  refine cCond (b := (!(crew_minute start))) hf rfl (fun hb => ?_) (fun hb => ?_)
  ·replace hF := condT hb hF
   clear hb
   refine wp_seq_k fun K7 h7 => cReg ?_
   refine stP hf rfl rfl rfl (pA rfl) fun a hf => stP hf rfl rfl rfl (pA rfl) fun a hf => cNil ?_
   refine h7 _ _ ?_
   refine wp_ret ?_
   refine xBlkR ?_
   refine xThenR ?_
   obtain rfl := Option.some.inj hF
   replace hc := hc.nilRow 29 2
   exact fnOut2 (by simp) rfl Tryz.results18 hf hc (show look _ 4 = _ from rfl) (show look _ 5 = _ from rfl) ⟨none,0,rfl,hc⟩
  ·replace hF := condF hb hF
   clear hb
   refine wp_skip ?_
   refine h3 _ _ ?_
   refine wp_seq_k fun K8 h8 => cReg ?_
   refine stP hf rfl rfl rfl (pM rfl) fun a hf => stP hf rfl rfl rfl (pM rfl) fun a hf => stE hf hc rfl rfl rfl (eC (v := .agg #[.func (.func 155) #[] #[]]) (vs := []) (caps := []) en_82 rfl rfl rfl rfl (fun w hc => crew_low_ok hc rfl)) fun a w hf hc => ?_
   obtain ⟨r_1,hr_1,hF⟩ := bnd_some hF
   refine stC (vs := [.int .i64 start,.slice l_p l.length l_c,.agg #[.func (.func 155) #[] #[]]]) (caps := []) hf rfl rfl rfl en_81 rfl rfl rfl rfl (crew_begins_ok start l h_l hc hr_1) ?_
   rintro _ w ⟨p_1,c_1,rfl,hc⟩
   refine ⟨_,rfl,fun a hf => ?_⟩
   refine stP hf rfl rfl rfl (pM rfl) fun a hf => stP hf rfl rfl rfl (pM rfl) fun a hf => stE hf hc rfl rfl rfl (eC (v := .agg #[.func (.func 156) #[] #[]]) (vs := []) (caps := []) en_83 rfl rfl rfl rfl (fun w hc => crew_high_ok hc rfl)) fun a w hf hc => ?_
   obtain ⟨r_2,hr_2,hF⟩ := bnd_some hF
   refine stC (vs := [.int .i64 start,.slice l_p l.length l_c,.agg #[.func (.func 156) #[] #[]]]) (caps := []) hf rfl rfl rfl en_81 rfl rfl rfl rfl (crew_begins_s2_ok start l h_l hc hr_2) ?_
   rintro _ w ⟨p_2,c_2,rfl,hc⟩
   refine ⟨_,rfl,fun a hf => ?_⟩
   refine stP hf rfl rfl rfl (pA rfl) fun a hf => stP hf rfl rfl rfl (pA rfl) fun a hf => cNil ?_
   refine h8 _ _ ?_
   refine wp_seq_k fun K9 h9 => cReg ?_
   refine stP hf rfl rfl rfl (pA rfl) fun a hf => cNil ?_
   refine h9 _ _ ?_
   refine wp_seq_k fun K10 h10 => wp_seq_k fun K11 h11 => cReg ?_
   refine stP hf rfl rfl rfl (pM rfl) fun a hf => stP hf rfl rfl rfl (pLenS Tryz.underlying22 rfl) fun a hf => stP hf rfl rfl rfl (pM rfl) fun a hf => cNil ?_
   refine h11 _ _ ?_
   refine wp_block ?_
   obtain ⟨x12,hx12,hF⟩ := bnd_some hF
   let S12 : ((List api_Span) × Int) → Act → World → Prop := (fun (zz : (List api_Span) × Int) a w => ∃ (p_3 : Option Addr) (c_3 : Nat) (p_4 : Option Addr) (c_4 : Nat) (p_5 : Option Addr) (c_5 : Nat),Has 48 a [(7,.slice p_3 r_1.length c_3),(8,.slice p_4 r_2.length c_4),(9,.slice p_5 zz.1.length c_5),(30,.int .i64 ((l.length : Nat) : Int)),(31,.int .i64 zz.2)] ∧ Ctx G (.row p_5 c_5 (zz.1.map enc_api_Span) 29 2::.row p_4 c_4 (r_2.map encI_i64) 3 1::.row p_3 c_3 (r_1.map encI_i64) 3 1::Lf) w)
   have hr12 : ∀ (zz : (List api_Span) × Int) a w,x12 = .go zz → S12 zz a w → K10 a w := by
    rintro ⟨out,x⟩ a w rfl ⟨p_3,c_3,p_4,c_4,p_5,c_5,hf,hc⟩
    replace hF := exK_go hF
    refine h10 _ _ ?_
    refine wp_seq_k fun K13 h13 => cReg ?_
    refine stP hf rfl rfl rfl (pM rfl) fun a hf => stP hf rfl rfl rfl (pA rfl) fun a hf => stP hf rfl rfl rfl (pA rfl) fun a hf => cNil ?_
    refine h13 _ _ ?_
    refine wp_ret ?_
    obtain rfl := Option.some.inj hF
    replace hc := hc.drop k2
    replace hc := hc.drop k1
    exact fnOut2 (by simp) rfl Tryz.results18 hf hc (show look _ 4 = _ from rfl) (show look _ 5 = _ from rfl) ⟨p_5,c_5,rfl,hc⟩
   have ho12 : ∀ r,x12 = .out r → r = res := by
    rintro r rfl
    exact Option.some.inj hF
   replace hc := hc.nilRow 29 2
   refine cLoop N (loopW (S := S12) (x := x12) ?_ N (([] : List api_Span),0) _ _ ⟨p_1,c_1,p_2,c_2,none,0,hf.keep ⟨rfl,rfl,rfl,rfl,rfl,trivial⟩,hc⟩ hx12)
   clear hF hf hc
   rintro ⟨out,x⟩ st12 a w KB12 ⟨p_3,c_3,p_4,c_4,p_5,c_5,hf,hc⟩ hF hfin12 hK12
   unfold crew_Hours_b12 at hF
   refine wp_seq_k fun K14 h14 => cReg ?_
   refine stP hf rfl rfl rfl (pLt rfl rfl) fun a hf => cNil ?_
   refine h14 _ _ ?_
   refine wp_seq_k fun K15 h15 => cCond (b := (decide (x < ((l.length : Nat) : Int)))) hf rfl (fun hb => ?_) (fun hb => ?_)
   ·replace hF := condT hb hF
    clear hb
    refine wp_skip ?_
    refine h15 _ _ ?_
    refine wp_seq_k fun K16 h16 => wp_block ?_
    refine wp_seq_k fun K17 h17 => cReg ?_
    refine stP hf rfl rfl rfl (pM rfl) fun a hf => stP hf rfl rfl rfl (pA rfl) fun a hf => cNil ?_
    refine h17 _ _ ?_
    obtain ⟨e_1,he_1,hF⟩ := bnd_some hF
    obtain ⟨g,rfl,qa,qr⟩ := row_atm hc m2 he_1
    obtain ⟨e_2,he_2,hF⟩ := bnd_some hF
    obtain ⟨g_1,rfl,qa_1,qr_1⟩ := row_atm hc m1 he_2
    obtain ⟨un,hun,hF⟩ := bnd_some hF
    replace hc := hc.nilRow 0 0
    refine regionE (fun θ => [⟨none,none,7,.slice (some ⟨g,0,none⟩) r_1.length c_3⟩,⟨none,none,8,.slice (some ⟨g_1,0,none⟩) r_2.length c_4⟩,⟨none,some 12,9,.slice p_5 out.length c_5⟩,⟨none,none,10,.int .i64 x⟩,⟨none,none,30,.int .i64 ((l.length : Nat) : Int)⟩,⟨none,none,31,.int .i64 x⟩,⟨some 0,none,34,.slice p_5 out.length c_5⟩,⟨some 1,none,35,.slice (some ⟨g,0,none⟩) r_1.length c_3⟩,⟨some 2,none,36,.int .i64 x⟩,⟨some 3,none,37,.pointer (some ⟨g,x.toNat * 1,none⟩)⟩,⟨some 4,none,38,.int .i64 e_1⟩,⟨some 5,none,39,.slice (some ⟨g_1,0,none⟩) r_2.length c_4⟩,⟨some 6,none,40,.int .i64 x⟩,⟨some 7,none,41,.pointer (some ⟨g_1,x.toNat * 1,none⟩)⟩,⟨some 8,none,42,.int .i64 e_2⟩,⟨some 9,none,43,.agg #[.int .i64 e_1,.int .i64 e_2]⟩,⟨some 10,none,44,.slice (some ⟨(θ 80).b,0,none⟩) 1 1⟩,⟨some 11,none,45,.slice ((θ 88).p) ((out ++ [(⟨e_1,e_2⟩ : api_Span)]).length) ((θ 88).c)⟩,⟨some 12,none,9,.slice ((θ 88).p) ((out ++ [(⟨e_1,e_2⟩ : api_Span)]).length) ((θ 88).c)⟩]) (fun E θ => (bif E 10 then .row (some ⟨(θ 80).b,0,none⟩) 1 (([(⟨e_1,e_2⟩ : api_Span)] : List api_Span).map enc_api_Span) 29 2 else .row none 0 [] 0 0)::(bif E 11 then .row ((θ 88).p) ((θ 88).c) ((out ++ [(⟨e_1,e_2⟩ : api_Span)]).map enc_api_Span) 29 2 else .row p_5 c_5 (out.map enc_api_Span) 29 2)::.row (some ⟨g_1,0,none⟩) c_4 (r_2.map encI_i64) 3 1::.row (some ⟨g,0,none⟩) c_3 (r_1.map encI_i64) 3 1::Lf) [(12,0),(12,11)] (fun a w => ∃ (p_7 : Option Addr) (c_7 : Nat) (b_2 : Nat),Has 48 a [(7,.slice (some ⟨g,0,none⟩) r_1.length c_3),(8,.slice (some ⟨g_1,0,none⟩) r_2.length c_4),(30,.int .i64 ((l.length : Nat) : Int)),(31,.int .i64 x),(9,.slice p_7 ((out ++ [(⟨e_1,e_2⟩ : api_Span)]).length) c_7)] ∧ Ctx G (.row (some ⟨b_2,0,none⟩) 1 (([(⟨e_1,e_2⟩ : api_Span)] : List api_Span).map enc_api_Span) 29 2::.row p_7 c_7 ((out ++ [(⟨e_1,e_2⟩ : api_Span)]).map enc_api_Span) 29 2::.row (some ⟨g_1,0,none⟩) c_4 (r_2.map encI_i64) 3 1::.row (some ⟨g,0,none⟩) c_3 (r_1.map encI_i64) 3 1::Lf) w) follows_mx (by kernel_rfl) (by kernel_rfl) (HasE.of hf ⟨rfl,rfl,rfl,rfl,rfl,rfl,trivial,trivial,trivial,trivial,trivial,trivial,trivial,trivial,trivial,trivial,trivial,trivial,trivial,trivial⟩) hc ⟨?_,?_,?_,?_,?_,?_,?_,?_,?_,?_,?_,?_,?_,trivial⟩ ?_ ?_
    ·intro E θ a w hD hi hp he hc
     have e12 := hD.f 0 rfl hi
     have hf := he.h0
     replace hf := hf.more he 2 rfl (onN e12)
     refine stP hf rfl rfl rfl (pM rfl) fun a hf => cNil ?_
     refine xThenN ?_
     intro ds u hau
     refine ⟨θ,he.put0 hi hau hf rfl 6 rfl rfl,?_⟩
     exact hc
    ·intro E θ a w hD hi hp he hc
     have hf := he.h0
     replace hf := hf.more he 0 rfl onT
     refine stP hf rfl rfl rfl (pM rfl) fun a hf => cNil ?_
     refine xThenN ?_
     intro ds u hau
     refine ⟨θ,he.put0 hi hau hf rfl 7 rfl rfl,?_⟩
     exact hc
    ·intro E θ a w hD hi hp he hc
     have hf := he.h0
     replace hf := hf.more he 3 rfl onT
     refine stP hf rfl rfl rfl (pM rfl) fun a hf => cNil ?_
     refine xThenN ?_
     intro ds u hau
     refine ⟨θ,he.put0 hi hau hf rfl 8 rfl rfl,?_⟩
     exact hc
    ·intro E θ a w hD hi hp he hc
     have e1 := hp.of (k := 1) rfl
     have e2 := hp.of (k := 2) rfl
     have hf := he.h0
     replace hf := hf.more he 7 rfl (onP e1)
     replace hf := hf.more he 8 rfl (onP e2)
     refine stP hf rfl rfl rfl (pIA Tryz.underlying25 sz_3 rfl rfl qa) fun a hf => cNil ?_
     refine xThenN ?_
     intro ds u hau
     refine ⟨θ,he.put0 hi hau hf rfl 9 rfl rfl,?_⟩
     exact hc
    ·intro E θ a w hD hi hp he hc
     have e3 := hp.of (k := 3) rfl
     have hf := he.h0
     replace hf := hf.more he 9 rfl (onP e3)
     refine stE hf hc rfl rfl rfl (eLd1 sc_3 rfl (cell_row (sz := 1) (i := x.toNat) (j := 0) m3 qr rfl)) fun a w hf hc => cNil ?_
     refine xThenN ?_
     intro ds u hau
     refine ⟨θ,he.put0 hi hau hf rfl 10 rfl rfl,?_⟩
     exact hc
    ·intro E θ a w hD hi hp he hc
     have hf := he.h0
     replace hf := hf.more he 1 rfl onT
     refine stP hf rfl rfl rfl (pM rfl) fun a hf => cNil ?_
     refine xThenN ?_
     intro ds u hau
     refine ⟨θ,he.put0 hi hau hf rfl 11 rfl rfl,?_⟩
     exact hc
    ·intro E θ a w hD hi hp he hc
     have hf := he.h0
     replace hf := hf.more he 3 rfl onT
     refine stP hf rfl rfl rfl (pM rfl) fun a hf => cNil ?_
     refine xThenN ?_
     intro ds u hau
     refine ⟨θ,he.put0 hi hau hf rfl 12 rfl rfl,?_⟩
     exact hc
    ·intro E θ a w hD hi hp he hc
     have e5 := hp.of (k := 5) rfl
     have e6 := hp.of (k := 6) rfl
     have hf := he.h0
     replace hf := hf.more he 11 rfl (onP e5)
     replace hf := hf.more he 12 rfl (onP e6)
     refine stP hf rfl rfl rfl (pIA Tryz.underlying25 sz_3 rfl rfl qa_1) fun a hf => cNil ?_
     refine xThenN ?_
     intro ds u hau
     refine ⟨θ,he.put0 hi hau hf rfl 13 rfl rfl,?_⟩
     exact hc
    ·intro E θ a w hD hi hp he hc
     have e7 := hp.of (k := 7) rfl
     have hf := he.h0
     replace hf := hf.more he 13 rfl (onP e7)
     refine stE hf hc rfl rfl rfl (eLd1 sc_3 rfl (cell_row (sz := 1) (i := x.toNat) (j := 0) m2 qr_1 rfl)) fun a w hf hc => cNil ?_
     refine xThenN ?_
     intro ds u hau
     refine ⟨θ,he.put0 hi hau hf rfl 14 rfl rfl,?_⟩
     exact hc
    ·intro E θ a w hD hi hp he hc
     have e4 := hp.of (k := 4) rfl
     have e8 := hp.of (k := 8) rfl
     have hf := he.h0
     replace hf := hf.more he 10 rfl (onP e4)
     replace hf := hf.more he 14 rfl (onP e8)
     refine stP hf rfl rfl rfl (pBuildS (cells := [.int .i64 e_1,.int .i64 e_2]) bt_29 rfl rfl) fun a hf => cNil ?_
     refine xThenN ?_
     intro ds u hau
     refine ⟨θ,he.put0 hi hau hf rfl 15 rfl rfl,?_⟩
     exact hc
    ·intro E θ a w hD hi hp he hc
     have e9 := hp.of (k := 9) rfl
     try dsimp only at hc
     rw [hi] at hc
     have hf := he.h0
     replace hf := hf.more he 15 rfl (onP e9)
     refine stBS (rows := ([(⟨e_1,e_2⟩ : api_Span)] : List api_Span).map enc_api_Span) (vs := [(0,.agg #[.int .i64 e_1,.int .i64 e_2])]) hf hc rfl rfl sl_33 rfl ⟨rfl,rfl,rfl,trivial⟩ rfl rfl fun b_1 a w hf hc => cNil ?_
     refine xThenN ?_
     intro ds u hau
     replace hc := hc.drop k1
     refine ⟨(setT θ 80 ⟨b_1,none,0,(fun _ => (none,0))⟩),he.put hi hau hf rfl [] trivial ⟨qq,qq,qq,qq,qq,qq,qq,qq,qq,qq,qq,qq,qq,qq,qq,qq,qq,qq,qq,trivial⟩,?_⟩
     try dsimp only
     rw [updE_self E 10]
     exact hc
    ·intro E θ a w hD hi hp he hc
     have e0 := hp.of (k := 0) rfl
     have e10 := hp.of (k := 10) rfl
     have e12 := hD.f 1 rfl hi
     try dsimp only at hc
     rw [e10,hi] at hc
     have hf := he.h0
     replace hf := hf.more he 6 rfl (onP e0)
     replace hf := hf.more he 16 rfl (onP e10)
     refine stApm (xs := out) (ys := ([(⟨e_1,e_2⟩ : api_Span)] : List api_Span)) hf hc rfl rfl sl_33 rfl rfl rfl rfl rfl one_enc_api_Span (src_row hc m0) (fun _ _ => u1) (by simpa using room_spec hun) fun p_6 c_6 a w hf hc => cNil ?_
     refine xThenN ?_
     intro ds u hau
     refine ⟨(setT θ 88 ⟨0,p_6,c_6,(fun _ => (none,0))⟩),he.put hi hau hf rfl [12] ⟨⟨e12,rfl⟩,trivial⟩ ⟨qq,qq,qq,qq,qq,qq,qq,qq,qq,qq,qq,qq,qq,qq,qq,qq,qq,qq,trivial,trivial⟩,?_⟩
     try dsimp only
     rw [updE_tru 11 e10,updE_self E 11]
     exact hc
    ·intro E θ a w hD hi hp he hc
     have e11 := hp.of (k := 11) rfl
     have hf := he.h0
     replace hf := hf.more he 17 rfl (onP e11)
     refine stP hf rfl rfl rfl (pA rfl) fun a hf => cNil ?_
     refine xThenN ?_
     intro ds u hau
     refine ⟨θ,he.put0 hi hau hf rfl 18 rfl rfl,?_⟩
     exact hc
    ·intro E θ a w hall he hc
     have hf := he.h0
     have e10 := hall 10 rfl
     have e11 := hall 11 rfl
     have e12 := hall 12 rfl
     replace hf := hf.more he 18 rfl (onP e12)
     replace hf := hf.more he 5 rfl (onT)
     replace hf := hf.more he 4 rfl (onT)
     replace hf := hf.more he 1 rfl (onT)
     replace hf := hf.more he 0 rfl (onT)
     try dsimp only at hc
     rw [e10,e11] at hc
     exact ⟨(θ 88).p,(θ 88).c,(θ 80).b,hf.keep ⟨rfl,rfl,rfl,rfl,rfl,trivial⟩,hc⟩
    rintro a w ⟨p_7,c_7,b_2,hf,hc⟩
    refine h16 _ _ ?_
    refine cReg ?_
    refine stP hf rfl rfl rfl (pAdd rfl rfl) fun a hf => stP hf rfl rfl rfl (pM rfl) fun a hf => cNil ?_
    replace hc := hc.drop k0
    exact hK12 ((out ++ [(⟨e_1,e_2⟩ : api_Span)]),W (x + 1)) _ _ (Option.some.inj hF).symm ⟨(some ⟨g,0,none⟩),c_3,(some ⟨g_1,0,none⟩),c_4,p_7,c_7,hf.keep ⟨rfl,rfl,rfl,rfl,rfl,trivial⟩,hc⟩
   ·replace hF := condF hb hF
    clear hb
    refine wp_exit ?_
    refine xThen ?_
    refine xThen ?_
    have he := Option.some.inj hF
    rw [← he] at hfin12
    refine cHit ?_
    exact hr12 _ _ _ hfin12 ⟨p_3,c_3,p_4,c_4,p_5,c_5,hf.keep ⟨rfl,rfl,rfl,rfl,rfl,trivial⟩,hc⟩

def crew_Late_j13 (N : Nat) (i_1 : Int) (can_1 : Int) (surely_1 : Int) : Option (Step (Int × Int × Int) (Int × Int × Int)) :=
 some (.cont (can_1,surely_1,W (i_1 - 1)))
def crew_Late_j14 (N : Nat) (l : List crew_Visit) (r : (List api_Span) × Int) (surely : Int) (i_1 : Int) (can_2 : Int) : Option (Step (Int × Int × Int) (Int × Int × Int)) :=
 Option.bind (getI r.1 i_1) fun e_1 =>
 Option.bind (getI l i_1) fun e_2 =>
 cond (decide (e_2.Close < e_1.Lo))
 (crew_Late_j13 N i_1 can_2 i_1)
 (crew_Late_j13 N i_1 can_2 surely)
def crew_Late_b9 (N : Nat) (l : List crew_Visit) (r : (List api_Span) × Int) (can : Int) (surely : Int) (i_1 : Int) : Option (Step (Int × Int × Int) (Int × Int × Int)) :=
 cond (decide (0 ≤ i_1))
 (Option.bind (getI r.1 i_1) fun e_3 =>
 Option.bind (getI l i_1) fun e_4 =>
 cond (decide (e_4.Close < e_3.Hi))
 (crew_Late_j14 N l r surely i_1 i_1)
 (crew_Late_j14 N l r surely i_1 can))
 (some (.brk (can,surely,i_1)))
def crew_Late (N : Nat) (start : Int) (l : List crew_Visit) : Option (Int × Int × Int) :=
 Option.bind (crew_Hours N start l) fun r =>
 cond (r.2 != 0)
 (some (0,0,r.2))
 (Option.bind (loopO (fun s9 => crew_Late_b9 N l r s9.1 s9.2.1 s9.2.2) N ((-1),(-1),W (((l.length : Nat) : Int) - 1))) fun x9 =>
 exK x9 (fun s9 => some (s9.1,s9.2.1,0)) some)
theorem crew_Late_ok {N : Nat} {G : Pers} {Lf : List Ent} {w : World} (start : Int) (l : List crew_Visit) {l_p : Option Addr} {l_c : Nat} (h_l : Rd G 6 l_p l_c (l.map enc_crew_Visit)) (hc : Ctx G (Lf) w) {res : Int × Int × Int} (hF : crew_Late N start l = some res) : Calls Tryz.prog 22 #[.int .i64 start,.slice l_p l.length l_c] w (fun e w => e = .returned (.tuple #[.int .i64 res.1,.int .i64 res.2.1,.int .i64 res.2.2]) ∧ Ctx G (Lf) w) := by
 unfold crew_Late at hF
 refine fnIn (args := [.int .i64 start,.slice l_p l.length l_c]) Tryz.func22 rfl Tryz.ntmps22 rfl fun a hf => wp_seq_k fun K1 h1 => cReg ?_
 refine stP hf rfl rfl rfl (pA rfl) fun a hf => stP hf rfl rfl rfl (pA rfl) fun a hf => stP hf rfl rfl rfl (pA rfl) fun a hf => cNil ?_
 refine h1 _ _ ?_
 refine wp_seq_k fun K2 h2 => cReg ?_
 refine stP hf rfl rfl rfl (pM rfl) fun a hf => stP hf rfl rfl rfl (pM rfl) fun a hf => ?_
 obtain ⟨r,hr,hF⟩ := bnd_some hF
 refine stC (vs := [.int .i64 start,.slice l_p l.length l_c]) (caps := []) hf rfl rfl rfl en_18 rfl rfl rfl rfl (crew_Hours_ok start l h_l hc hr) ?_
 rintro _ w ⟨p_1,c_1,rfl,hc⟩
 refine ⟨_,rfl,fun a hf => ?_⟩
 refine stP hf rfl rfl rfl (pM rfl) fun a hf => stP hf rfl rfl rfl (pX rfl rfl) fun a hf => stP hf rfl rfl rfl (pX rfl rfl) fun a hf => stP hf rfl rfl rfl (pA rfl) fun a hf => stP hf rfl rfl rfl (pA rfl) fun a hf => cNil ?_
 refine h2 _ _ ?_
 refine wp_seq_k fun K3 h3 => wp_seq_k fun K4 h4 => cReg ?_
 refine stP hf rfl rfl rfl (pM rfl) fun a hf => stP hf rfl rfl rfl (pNe rfl rfl) fun a hf => cNil ?_
 refine h4 _ _ ?_
 refine cCond (b := (r.2 != 0)) hf rfl (fun hb => ?_) (fun hb => ?_)
 ·replace hF := condT hb hF
  clear hb
  refine wp_seq_k fun K5 h5 => cReg ?_
  refine stP hf rfl rfl rfl (pM rfl) fun a hf => stP hf rfl rfl rfl (pA rfl) fun a hf => stP hf rfl rfl rfl (pA rfl) fun a hf => stP hf rfl rfl rfl (pA rfl) fun a hf => cNil ?_
  refine h5 _ _ ?_
  refine wp_ret ?_
  refine xThenR ?_
  obtain rfl := Option.some.inj hF
  replace hc := hc.drop k0
  exact fnOut3 (by simp) rfl Tryz.results22 hf hc (show look _ 4 = _ from rfl) (show look _ 5 = _ from rfl) (show look _ 6 = _ from rfl) ⟨rfl,hc⟩
 ·replace hF := condF hb hF
  clear hb
  refine wp_skip ?_
  refine h3 _ _ ?_
  refine wp_seq_k fun K6 h6 => cReg ?_
  refine stP hf rfl rfl rfl (pA rfl) fun a hf => stP hf rfl rfl rfl (pA rfl) fun a hf => cNil ?_
  refine h6 _ _ ?_
  refine wp_seq_k fun K7 h7 => wp_seq_k fun K8 h8 => cReg ?_
  refine stP hf rfl rfl rfl (pM rfl) fun a hf => stP hf rfl rfl rfl (pLenS Tryz.underlying22 rfl) fun a hf => stP hf rfl rfl rfl (pSub rfl rfl) fun a hf => stP hf rfl rfl rfl (pA rfl) fun a hf => cNil ?_
  refine h8 _ _ ?_
  refine wp_block ?_
  obtain ⟨x9,hx9,hF⟩ := bnd_some hF
  let S9 : (Int × Int × Int) → Act → World → Prop := (fun (zz : Int × Int × Int) a w => ∃ (p_2 : Option Addr) (c_2 : Nat),Has 51 a [(1,.slice l_p l.length l_c),(4,.int .i64 zz.1),(5,.int .i64 zz.2.1),(7,.slice p_2 r.1.length c_2),(8,.int .i64 zz.2.2)] ∧ Ctx G (.row p_2 c_2 (r.1.map enc_api_Span) 29 2::Lf) w)
  have hr9 : ∀ (zz : Int × Int × Int) a w,x9 = .go zz → S9 zz a w → K7 a w := by
   rintro ⟨can,surely,i_1⟩ a w rfl ⟨p_2,c_2,hf,hc⟩
   replace hF := exK_go hF
   refine h7 _ _ ?_
   refine wp_seq_k fun K10 h10 => cReg ?_
   refine stP hf rfl rfl rfl (pM rfl) fun a hf => stP hf rfl rfl rfl (pM rfl) fun a hf => stP hf rfl rfl rfl (pA rfl) fun a hf => stP hf rfl rfl rfl (pA rfl) fun a hf => stP hf rfl rfl rfl (pA rfl) fun a hf => cNil ?_
   refine h10 _ _ ?_
   refine wp_ret ?_
   obtain rfl := Option.some.inj hF
   replace hc := hc.drop k0
   exact fnOut3 (by simp) rfl Tryz.results22 hf hc (show look _ 4 = _ from rfl) (show look _ 5 = _ from rfl) (show look _ 6 = _ from rfl) ⟨rfl,hc⟩
  have ho9 : ∀ r,x9 = .out r → r = res := by
   rintro r rfl
   exact Option.some.inj hF
  refine cLoop N (loopW (S := S9) (x := x9) ?_ N ((-1),(-1),W (((l.length : Nat) : Int) - 1)) _ _ ⟨p_1,c_1,hf.keep ⟨rfl,rfl,rfl,rfl,rfl,trivial⟩,hc⟩ hx9)
  clear hF hf hc
  rintro ⟨can,surely,i_1⟩ st9 a w KB9 ⟨p_2,c_2,hf,hc⟩ hF hfin9 hK9
  unfold crew_Late_b9 at hF
  refine wp_seq_k fun K11 h11 => wp_seq_k fun K12 h12 => cReg ?_
  refine stP hf rfl rfl rfl (pM rfl) fun a hf => stP hf rfl rfl rfl (pGe rfl rfl) fun a hf => cNil ?_
  refine h12 _ _ ?_
  refine cCond (b := (decide (0 ≤ i_1))) hf rfl (fun hb => ?_) (fun hb => ?_)
  ·replace hF := condT hb hF
   clear hb
   refine wp_skip ?_
   refine h11 _ _ ?_
   refine wp_seq_k fun K13 h13 => ?_
   have hj13 : ∀ (can_1 : Int) (surely_1 : Int) (p_3 : Option Addr) (c_3 : Nat) a w,Has 51 a [(1,.slice l_p l.length l_c),(4,.int .i64 can_1),(5,.int .i64 surely_1),(7,.slice p_3 r.1.length c_3),(8,.int .i64 i_1)] → Ctx G (.row p_3 c_3 (r.1.map enc_api_Span) 29 2::Lf) w → crew_Late_j13 N i_1 can_1 surely_1 = some st9 → K13 a w := by
    repeat (clear hF)
    repeat (clear hc)
    repeat (clear hf)
    intro can_1 surely_1 p_3 c_3 a w hf hc hF
    unfold crew_Late_j13 at hF
    refine h13 _ _ ?_
    refine cReg ?_
    refine stP hf rfl rfl rfl (pM rfl) fun a hf => stP hf rfl rfl rfl (pSub rfl rfl) fun a hf => stP hf rfl rfl rfl (pA rfl) fun a hf => cNil ?_
    exact hK9 (can_1,surely_1,W (i_1 - 1)) _ _ (Option.some.inj hF).symm ⟨p_3,c_3,hf.keep ⟨rfl,rfl,rfl,rfl,rfl,trivial⟩,hc⟩
   refine wp_block ?_
   refine wp_seq_k fun K14 h14 => ?_
   have hj14 : ∀ (can_2 : Int) (p_4 : Option Addr) (c_4 : Nat) a w,Has 51 a [(1,.slice l_p l.length l_c),(4,.int .i64 can_2),(5,.int .i64 surely),(7,.slice p_4 r.1.length c_4),(8,.int .i64 i_1)] → Ctx G (.row p_4 c_4 (r.1.map enc_api_Span) 29 2::Lf) w → crew_Late_j14 N l r surely i_1 can_2 = some st9 → K14 a w := by
    repeat (clear hF)
    repeat (clear hc)
    repeat (clear hf)
    intro can_2 p_4 c_4 a w hf hc hF
    unfold crew_Late_j14 at hF
    refine h14 _ _ ?_
    refine wp_seq_k fun K15 h15 => ?_
    obtain ⟨e_1,he_1,hF⟩ := bnd_some hF
    obtain ⟨g,rfl,qa,qr⟩ := row_atm hc m0 he_1
    obtain ⟨e_2,he_2,hF⟩ := bnd_some hF
    obtain ⟨b_1,o,qa_1,qp⟩ := h_l.atm he_2
    refine cQ hc follows_mx (by kernel_rfl) ?_
    refine qE hf rfl rfl rfl (Pu.ev (pM rfl)) fun a hf => qE hf rfl rfl rfl (Pu.ev (pM rfl)) fun a hf => qE hf rfl rfl rfl (Pu.ev (pIA Tryz.underlying33 sz_29 rfl rfl qa)) fun a hf => qE hf rfl rfl rfl (Pu.ev (pFA fa_29_0 rfl)) fun a hf => qE hf rfl rfl rfl (eLd1 sc_3 rfl (cell_row (sz := 2) (i := i_1.toNat) (j := 0) m0 qr rfl)) fun a hf => qE hf rfl rfl rfl (Pu.ev (pM rfl)) fun a hf => qE hf rfl rfl rfl (Pu.ev (pM rfl)) fun a hf => qE hf rfl rfl rfl (Pu.ev (pIA Tryz.underlying22 sz_31 rfl rfl qa_1)) fun a hf => qE hf rfl rfl rfl (Pu.ev (pFA fa_31_3 rfl)) fun a hf => qE hf rfl rfl rfl (eLd1 sc_3 rfl (cell_pc (j := 5) qp rfl)) fun a hf => qE hf rfl rfl rfl (Pu.ev (pGt rfl rfl)) fun a hf => ?_
    intro w hc
    refine h15 _ _ ?_
    refine cCond (b := (decide (e_2.Close < e_1.Lo))) hf rfl (fun hb => ?_) (fun hb => ?_)
    ·replace hF := condT hb hF
     clear hb
     refine cReg ?_
     refine stP hf rfl rfl rfl (pM rfl) fun a hf => stP hf rfl rfl rfl (pA rfl) fun a hf => cNil ?_
     exact hj13 can_2 i_1 (some ⟨g,0,none⟩) c_4 _ _  (hf.keep ⟨rfl,rfl,rfl,rfl,rfl,trivial⟩) hc hF
    ·replace hF := condF hb hF
     clear hb
     refine wp_skip ?_
     exact hj13 can_2 surely (some ⟨g,0,none⟩) c_4 _ _  (hf.keep ⟨rfl,rfl,rfl,rfl,rfl,trivial⟩) hc hF
   refine wp_seq_k fun K16 h16 => ?_
   obtain ⟨e_3,he_3,hF⟩ := bnd_some hF
   obtain ⟨g_1,rfl,qa_2,qr_1⟩ := row_atm hc m0 he_3
   obtain ⟨e_4,he_4,hF⟩ := bnd_some hF
   obtain ⟨b_2,o_1,qa_3,qp_1⟩ := h_l.atm he_4
   refine cQ hc follows_mx (by kernel_rfl) ?_
   refine qE hf rfl rfl rfl (Pu.ev (pM rfl)) fun a hf => qE hf rfl rfl rfl (Pu.ev (pM rfl)) fun a hf => qE hf rfl rfl rfl (Pu.ev (pIA Tryz.underlying33 sz_29 rfl rfl qa_2)) fun a hf => qE hf rfl rfl rfl (Pu.ev (pFA fa_29_1 rfl)) fun a hf => qE hf rfl rfl rfl (eLd1 sc_3 rfl (cell_row (sz := 2) (i := i_1.toNat) (j := 1) m0 qr_1 rfl)) fun a hf => qE hf rfl rfl rfl (Pu.ev (pM rfl)) fun a hf => qE hf rfl rfl rfl (Pu.ev (pM rfl)) fun a hf => qE hf rfl rfl rfl (Pu.ev (pIA Tryz.underlying22 sz_31 rfl rfl qa_3)) fun a hf => qE hf rfl rfl rfl (Pu.ev (pFA fa_31_3 rfl)) fun a hf => qE hf rfl rfl rfl (eLd1 sc_3 rfl (cell_pc (j := 5) qp_1 rfl)) fun a hf => qE hf rfl rfl rfl (Pu.ev (pGt rfl rfl)) fun a hf => ?_
   intro w hc
   refine h16 _ _ ?_
   refine cCond (b := (decide (e_4.Close < e_3.Hi))) hf rfl (fun hb => ?_) (fun hb => ?_)
   ·replace hF := condT hb hF
    clear hb
    refine cReg ?_
    refine stP hf rfl rfl rfl (pM rfl) fun a hf => stP hf rfl rfl rfl (pA rfl) fun a hf => cNil ?_
    exact hj14 i_1 (some ⟨g_1,0,none⟩) c_2 _ _  (hf.keep ⟨rfl,rfl,rfl,rfl,rfl,trivial⟩) hc hF
   ·replace hF := condF hb hF
    clear hb
    refine wp_skip ?_
    exact hj14 can (some ⟨g_1,0,none⟩) c_2 _ _  (hf.keep ⟨rfl,rfl,rfl,rfl,rfl,trivial⟩) hc hF
  ·replace hF := condF hb hF
   clear hb
   refine wp_exit ?_
   refine xThen ?_
   refine xThen ?_
   have he := Option.some.inj hF
   rw [← he] at hfin9
   refine cHit ?_
   exact hr9 _ _ _ hfin9 ⟨p_2,c_2,hf.keep ⟨rfl,rfl,rfl,rfl,rfl,trivial⟩,hc⟩

def law11_span (N : Nat) (lo : Int) (hi_ : Int) : Option (api_Span) :=
 some (⟨lo,hi_⟩ : api_Span)
theorem law11_span_ok {N : Nat} {G : Pers} {Lf : List Ent} {w : World} (lo : Int) (hi_ : Int)   (hc : Ctx G (Lf) w) {res : api_Span} (hF : law11_span N lo hi_ = some res) : Calls Tryz.prog 51 #[.int .i64 lo,.int .i64 hi_] w (fun e w => e = .returned (.agg #[.int .i64 res.Lo,.int .i64 res.Hi]) ∧ Ctx G (Lf) w) := by
 unfold law11_span at hF
 refine fnIn (args := [.int .i64 lo,.int .i64 hi_]) Tryz.func51 rfl Tryz.ntmps51 rfl fun a hf => wp_seq_k fun K1 h1 => cReg ?_
 refine stAl (cs := [.int .i64 0,.int .i64 0]) hf hc rfl rfl zr_29 rfl fun b_1 a w hf hc => cNil ?_
 refine h1 _ _ ?_
 refine wp_seq_k fun K2 h2 => cReg ?_
 refine stP hf rfl rfl rfl (pM rfl) fun a hf => stP hf rfl rfl rfl (pM rfl) fun a hf => stP hf rfl rfl rfl (pBuildS (cells := [.int .i64 lo,.int .i64 hi_]) bt_29 rfl rfl) fun a hf => stSt (vs := [.int .i64 lo,.int .i64 hi_]) hf hc rfl rfl rfl rfl sz_29 rfl rfl u0 fun w hc => cNil ?_
 refine h2 _ _ ?_
 refine wp_ret ?_
 obtain rfl := Option.some.inj hF
 exact fnOut1 (by simp) rfl Tryz.results51 hf hc (rv_cellN (vs := [.int .i64 lo,.int .i64 hi_]) ag_29 rfl rfl (cells_box (n := 2) m0 rfl)) ⟨rfl,(hc.drop k0)⟩

def crew_Latest_b9 (N : Nat) (l : List crew_Visit) (by_ : Int) (i_1 : Int) : Option (Step (Int × Int) (Int × Int)) :=
 cond (decide (0 ≤ i_1))
 (Option.bind (getI l i_1) fun e_1 =>
 Option.bind (getI l i_1) fun e_2 =>
 Option.bind (getI l i_1) fun e_3 =>
 cond (decide ((min e_1.Close (W (by_ - e_2.Work.Hi))) < e_3.Open))
 (some (.ret (0,5)))
 (Option.bind (getI l i_1) fun e_4 =>
 some (.cont (W ((min e_1.Close (W (by_ - e_2.Work.Hi))) - e_4.Way.Hi),W (i_1 - 1)))))
 (some (.brk (by_,i_1)))
def crew_Latest (N : Nat) (l : List crew_Visit) : Option (Int × Int) :=
 Option.bind (crew_rounded N l) fun r =>
 cond (r != 0)
 (some (0,r))
 (Option.bind (loopO (fun s9 => crew_Latest_b9 N l s9.1 s9.2) N (200000,W (((l.length : Nat) : Int) - 1))) fun x9 =>
 exK x9 (fun s9 => cond (decide (s9.1 < 0))
 (some (0,5))
 (some (s9.1,0))) some)
theorem crew_Latest_ok {N : Nat} {G : Pers} {Lf : List Ent} {w : World} (l : List crew_Visit) {l_p : Option Addr} {l_c : Nat} (h_l : Rd G 6 l_p l_c (l.map enc_crew_Visit)) (hc : Ctx G (Lf) w) {res : Int × Int} (hF : crew_Latest N l = some res) : Calls Tryz.prog 24 #[.slice l_p l.length l_c] w (fun e w => e = .returned (.tuple #[.int .i64 res.1,.int .i64 res.2]) ∧ Ctx G (Lf) w) := by
 unfold crew_Latest at hF
 refine fnIn (args := [.slice l_p l.length l_c]) Tryz.func24 rfl Tryz.ntmps24 rfl fun a hf => wp_seq_k fun K1 h1 => cReg ?_
 refine stP hf rfl rfl rfl (pA rfl) fun a hf => stP hf rfl rfl rfl (pA rfl) fun a hf => cNil ?_
 refine h1 _ _ ?_
 refine wp_seq_k fun K2 h2 => wp_seq_k fun K3 h3 => cReg ?_
 refine stP hf rfl rfl rfl (pM rfl) fun a hf => ?_
 obtain ⟨r,hr,hF⟩ := bnd_some hF
 refine stE hf hc rfl rfl rfl (eC (v := .int .i64 r) (vs := [.slice l_p l.length l_c]) (caps := []) en_79 rfl rfl rfl rfl (fun w hc => crew_rounded_ok l h_l hc hr)) fun a w hf hc => stP hf rfl rfl rfl (pA rfl) fun a hf => cNil ?_
 refine h3 _ _ ?_
 refine wp_seq_k fun K4 h4 => cReg ?_
 refine stP hf rfl rfl rfl (pM rfl) fun a hf => stP hf rfl rfl rfl (pNe rfl rfl) fun a hf => cNil ?_
 refine h4 _ _ ?_
 refine cCond (b := (r != 0)) hf rfl (fun hb => ?_) (fun hb => ?_)
 ·replace hF := condT hb hF
  clear hb
  refine wp_seq_k fun K5 h5 => cReg ?_
  refine stP hf rfl rfl rfl (pM rfl) fun a hf => stP hf rfl rfl rfl (pA rfl) fun a hf => stP hf rfl rfl rfl (pA rfl) fun a hf => cNil ?_
  refine h5 _ _ ?_
  refine wp_ret ?_
  refine xThenR ?_
  obtain rfl := Option.some.inj hF
  exact fnOut2 (by simp) rfl Tryz.results24 hf hc (show look _ 2 = _ from rfl) (show look _ 3 = _ from rfl) ⟨rfl,hc⟩
 ·replace hF := condF hb hF
  clear hb
  refine wp_skip ?_
  refine h2 _ _ ?_
  refine wp_seq_k fun K6 h6 => cReg ?_
  refine stP hf rfl rfl rfl (pA rfl) fun a hf => cNil ?_
  refine h6 _ _ ?_
  refine wp_seq_k fun K7 h7 => wp_seq_k fun K8 h8 => cReg ?_
  refine stP hf rfl rfl rfl (pM rfl) fun a hf => stP hf rfl rfl rfl (pLenS Tryz.underlying22 rfl) fun a hf => stP hf rfl rfl rfl (pSub rfl rfl) fun a hf => stP hf rfl rfl rfl (pA rfl) fun a hf => cNil ?_
  refine h8 _ _ ?_
  refine wp_block ?_
  obtain ⟨x9,hx9,hF⟩ := bnd_some hF
  let S9 : (Int × Int) → Act → World → Prop := (fun (zz : Int × Int) a w => Has 51 a [(0,.slice l_p l.length l_c),(5,.int .i64 zz.1),(6,.int .i64 zz.2)] ∧ Ctx G (Lf) w)
  have hr9 : ∀ (zz : Int × Int) a w,x9 = .go zz → S9 zz a w → K7 a w := by
   rintro ⟨by_,i_1⟩ a w rfl ⟨hf,hc⟩
   replace hF := exK_go hF
   refine h7 _ _ ?_
   refine wp_seq_k fun K10 h10 => wp_seq_k fun K11 h11 => cReg ?_
   refine stP hf rfl rfl rfl (pM rfl) fun a hf => stP hf rfl rfl rfl (pLt rfl rfl) fun a hf => cNil ?_
   refine h11 _ _ ?_
   refine cCond (b := (decide (by_ < 0))) hf rfl (fun hb => ?_) (fun hb => ?_)
   ·replace hF := condT hb hF
    clear hb
    refine wp_seq_k fun K12 h12 => cReg ?_
    refine stP hf rfl rfl rfl (pA rfl) fun a hf => stP hf rfl rfl rfl (pA rfl) fun a hf => cNil ?_
    refine h12 _ _ ?_
    refine wp_ret ?_
    refine xThenR ?_
    obtain rfl := Option.some.inj hF
    exact fnOut2 (by simp) rfl Tryz.results24 hf hc (show look _ 2 = _ from rfl) (show look _ 3 = _ from rfl) ⟨rfl,hc⟩
   ·replace hF := condF hb hF
    clear hb
    refine wp_skip ?_
    refine h10 _ _ ?_
    refine wp_seq_k fun K13 h13 => cReg ?_
    refine stP hf rfl rfl rfl (pM rfl) fun a hf => stP hf rfl rfl rfl (pA rfl) fun a hf => stP hf rfl rfl rfl (pA rfl) fun a hf => cNil ?_
    refine h13 _ _ ?_
    refine wp_ret ?_
    obtain rfl := Option.some.inj hF
    exact fnOut2 (by simp) rfl Tryz.results24 hf hc (show look _ 2 = _ from rfl) (show look _ 3 = _ from rfl) ⟨rfl,hc⟩
  have ho9 : ∀ r,x9 = .out r → r = res := by
   rintro r rfl
   exact Option.some.inj hF
  refine cLoop N (loopW (S := S9) (x := x9) ?_ N (200000,W (((l.length : Nat) : Int) - 1)) _ _ ⟨hf.keep ⟨rfl,rfl,rfl,trivial⟩,hc⟩ hx9)
  clear hF hf hc
  rintro ⟨by_,i_1⟩ st9 a w KB9 ⟨hf,hc⟩ hF hfin9 hK9
  unfold crew_Latest_b9 at hF
  refine wp_seq_k fun K14 h14 => wp_seq_k fun K15 h15 => cReg ?_
  refine stP hf rfl rfl rfl (pM rfl) fun a hf => stP hf rfl rfl rfl (pGe rfl rfl) fun a hf => cNil ?_
  refine h15 _ _ ?_
  refine cCond (b := (decide (0 ≤ i_1))) hf rfl (fun hb => ?_) (fun hb => ?_)
  ·replace hF := condT hb hF
   clear hb
   refine wp_skip ?_
   refine h14 _ _ ?_
   refine wp_seq_k fun K16 h16 => wp_block ?_
   refine wp_seq_k fun K17 h17 => ?_
   obtain ⟨e_1,he_1,hF⟩ := bnd_some hF
   obtain ⟨b_1,o,qa,qp⟩ := h_l.atm he_1
   obtain ⟨e_2,he_2,hF⟩ := bnd_some hF
   obtain ⟨b_2,o_1,qa_1,qp_1⟩ := h_l.atm he_2
   refine cQ hc follows_mx (by kernel_rfl) ?_
   refine qE hf rfl rfl rfl (Pu.ev (pM rfl)) fun a hf => qE hf rfl rfl rfl (Pu.ev (pM rfl)) fun a hf => qE hf rfl rfl rfl (Pu.ev (pIA Tryz.underlying22 sz_31 rfl rfl qa)) fun a hf => qE hf rfl rfl rfl (Pu.ev (pFA fa_31_3 rfl)) fun a hf => qE hf rfl rfl rfl (eLd1 sc_3 rfl (cell_pc (j := 5) qp rfl)) fun a hf => qE hf rfl rfl rfl (Pu.ev (pM rfl)) fun a hf => qE hf rfl rfl rfl (Pu.ev (pM rfl)) fun a hf => qE hf rfl rfl rfl (Pu.ev (pM rfl)) fun a hf => qE hf rfl rfl rfl (Pu.ev (pIA Tryz.underlying22 sz_31 rfl rfl qa_1)) fun a hf => qE hf rfl rfl rfl (Pu.ev (pFA fa_31_1 rfl)) fun a hf => qE hf rfl rfl rfl (Pu.ev (pFA fa_29_1 rfl)) fun a hf => qE hf rfl rfl rfl (eLd1 sc_3 rfl (cell_pc (j := 3) qp_1 rfl)) fun a hf => qE hf rfl rfl rfl (Pu.ev (pSub rfl rfl)) fun a hf => ?_
   refine qE hf rfl rfl rfl (Pu.ev (pMin2 rfl rfl)) fun a hf => qE hf rfl rfl rfl (Pu.ev (pA rfl)) fun a hf => ?_
   intro w hc
   refine h17 _ _ ?_
   refine wp_seq_k fun K18 h18 => wp_seq_k fun K19 h19 => cReg ?_
   refine stP hf rfl rfl rfl (pM rfl) fun a hf => stP hf rfl rfl rfl (pM rfl) fun a hf => stP hf rfl rfl rfl (pM rfl) fun a hf => ?_
   obtain ⟨e_3,he_3,hF⟩ := bnd_some hF
   obtain ⟨b_3,o_2,qa_2,qp_2⟩ := h_l.atm he_3
   refine stP hf rfl rfl rfl (pIA Tryz.underlying22 sz_31 rfl rfl qa_2) fun a hf => stP hf rfl rfl rfl (pFA fa_31_2 rfl) fun a hf => stE hf hc rfl rfl rfl (eLd1 sc_3 rfl (cell_pc (j := 4) qp_2 rfl)) fun a w hf hc => stP hf rfl rfl rfl (pLt rfl rfl) fun a hf => cNil ?_
   refine h19 _ _ ?_
   refine cCond (b := (decide ((min e_1.Close (W (by_ - e_2.Work.Hi))) < e_3.Open))) hf rfl (fun hb => ?_) (fun hb => ?_)
   ·replace hF := condT hb hF
    clear hb
    refine wp_seq_k fun K20 h20 => cReg ?_
    refine stP hf rfl rfl rfl (pA rfl) fun a hf => stP hf rfl rfl rfl (pA rfl) fun a hf => cNil ?_
    refine h20 _ _ ?_
    refine wp_ret ?_
    refine xThenR ?_
    refine xBlkR ?_
    refine xThenR ?_
    refine xThenR ?_
    have he := Option.some.inj hF
    rw [← he] at hfin9
    replace hF := ho9 _ hfin9
    refine xBlkR ?_
    refine xThenR ?_
    obtain rfl := hF
    exact fnOut2 (by simp) rfl Tryz.results24 hf hc (show look _ 2 = _ from rfl) (show look _ 3 = _ from rfl) ⟨rfl,hc⟩
   ·replace hF := condF hb hF
    clear hb
    refine wp_skip ?_
    refine h18 _ _ ?_
    refine cReg ?_
    refine stP hf rfl rfl rfl (pM rfl) fun a hf => stP hf rfl rfl rfl (pM rfl) fun a hf => stP hf rfl rfl rfl (pM rfl) fun a hf => ?_
    obtain ⟨e_4,he_4,hF⟩ := bnd_some hF
    obtain ⟨b_4,o_3,qa_3,qp_3⟩ := h_l.atm he_4
    refine stP hf rfl rfl rfl (pIA Tryz.underlying22 sz_31 rfl rfl qa_3) fun a hf => stP hf rfl rfl rfl (pFA fa_31_0 rfl) fun a hf => stP hf rfl rfl rfl (pFA fa_29_1 rfl) fun a hf => stE hf hc rfl rfl rfl (eLd1 sc_3 rfl (cell_pc (j := 1) qp_3 rfl)) fun a w hf hc => stP hf rfl rfl rfl (pSub rfl rfl) fun a hf => stP hf rfl rfl rfl (pA rfl) fun a hf => cNil ?_
    refine h16 _ _ ?_
    refine cReg ?_
    refine stP hf rfl rfl rfl (pM rfl) fun a hf => stP hf rfl rfl rfl (pSub rfl rfl) fun a hf => stP hf rfl rfl rfl (pA rfl) fun a hf => cNil ?_
    exact hK9 (W ((min e_1.Close (W (by_ - e_2.Work.Hi))) - e_4.Way.Hi),W (i_1 - 1)) _ _ (Option.some.inj hF).symm ⟨hf.keep ⟨rfl,rfl,rfl,trivial⟩,hc⟩
  ·replace hF := condF hb hF
   clear hb
   refine wp_exit ?_
   refine xThen ?_
   refine xThen ?_
   have he := Option.some.inj hF
   rw [← he] at hfin9
   refine cHit ?_
   exact hr9 _ _ _ hfin9 ⟨hf.keep ⟨rfl,rfl,rfl,trivial⟩,hc⟩

def law11_Two (N : Nat)  : Option (crew_Roster) :=
 some (⟨([([0,1] : List Int),([0,1] : List Int)] : List (List Int)),([(⟨1,([1,0] : List Int)⟩ : crew_Station),(⟨1,([0,1] : List Int)⟩ : crew_Station)] : List crew_Station)⟩ : crew_Roster)
theorem law11_Two_ok {N : Nat} {G : Pers} {Lf : List Ent} {w : World}    (hc : Ctx G (Lf) w) {res : crew_Roster} (hF : law11_Two N = some res) : Calls Tryz.prog 67 #[] w (fun e w => ∃ (p'1 : Option Addr) (tcq'1 : TabH) (p'2 : Option Addr) (tcq'2 : TabH),e = .returned (.agg #[.slice p'1 res.People.length tcq'1.1,.slice p'2 res.Stations.length tcq'2.1]) ∧ Ctx G (.row p'1 tcq'1.1 ((tabR tcq'1.2 res.People).map (Kd.v kd_25)) 25 1::tabI kd_25 (tabR tcq'1.2 res.People)::.row p'2 tcq'2.1 ((tabR tcq'2.2 res.Stations).map (Kd.v kd_101)) 101 2::tabI kd_101 (tabR tcq'2.2 res.Stations)::Lf) w) := by
 unfold law11_Two at hF
 refine fnIn (args := []) Tryz.func67 rfl Tryz.ntmps67 rfl fun a hf => wp_seq_k fun K1 h1 => cReg ?_
 refine stAl (cs := [.slice none 0 0,.slice none 0 0]) hf hc rfl rfl zr_78 rfl fun b_1 a w hf hc => cNil ?_
 refine h1 _ _ ?_
 refine wp_seq_k fun K2 h2 => cReg ?_
 refine stBS (rows := ([0,1] : List Int).map encI_i64) (vs := [(0,.int .i64 0),(1,.int .i64 1)]) hf hc rfl rfl sl_25 rfl ⟨rfl,rfl,rfl,rfl,rfl,rfl,trivial⟩ rfl rfl fun b_2 a w hf hc => stBS (rows := ([0,1] : List Int).map encI_i64) (vs := [(0,.int .i64 0),(1,.int .i64 1)]) hf hc rfl rfl sl_25 rfl ⟨rfl,rfl,rfl,rfl,rfl,rfl,trivial⟩ rfl rfl fun b_3 a w hf hc => stBS (rows := ([(((some ⟨b_2,0,none⟩),2),([0,1] : List Int)),(((some ⟨b_3,0,none⟩),2),([0,1] : List Int))] : List (H2 × (List Int))).map (Kd.v kd_25)) (vs := [(0,.slice (some ⟨b_2,0,none⟩) 2 2),(1,.slice (some ⟨b_3,0,none⟩) 2 2)]) hf hc rfl rfl sl_75 rfl ⟨rfl,rfl,rfl,rfl,rfl,rfl,trivial⟩ rfl rfl fun b_4 a w hf hc => stBS (rows := ([1,0] : List Int).map encI_i64) (vs := [(0,.int .i64 1),(1,.int .i64 0)]) hf hc rfl rfl sl_25 rfl ⟨rfl,rfl,rfl,rfl,rfl,rfl,trivial⟩ rfl rfl fun b_5 a w hf hc => stP hf rfl rfl rfl (pBuildS (cells := [.int .i64 1,.slice (some ⟨b_5,0,none⟩) 2 2]) bt_101 rfl rfl) fun a hf => stBS (rows := ([0,1] : List Int).map encI_i64) (vs := [(0,.int .i64 0),(1,.int .i64 1)]) hf hc rfl rfl sl_25 rfl ⟨rfl,rfl,rfl,rfl,rfl,rfl,trivial⟩ rfl rfl fun b_6 a w hf hc => stP hf rfl rfl rfl (pBuildS (cells := [.int .i64 1,.slice (some ⟨b_6,0,none⟩) 2 2]) bt_101 rfl rfl) fun a hf => stBS (rows := ([(((some ⟨b_5,0,none⟩),2),(⟨1,([1,0] : List Int)⟩ : crew_Station)),(((some ⟨b_6,0,none⟩),2),(⟨1,([0,1] : List Int)⟩ : crew_Station))] : List (H2 × crew_Station)).map (Kd.v kd_101)) (vs := [(0,.agg #[.int .i64 1,.slice (some ⟨b_5,0,none⟩) 2 2]),(1,.agg #[.int .i64 1,.slice (some ⟨b_6,0,none⟩) 2 2])]) hf hc rfl rfl sl_76 rfl ⟨rfl,rfl,rfl,rfl,rfl,rfl,trivial⟩ rfl rfl fun b_7 a w hf hc => stP hf rfl rfl rfl (pBuildS (cells := [.slice (some ⟨b_4,0,none⟩) 2 2,.slice (some ⟨b_7,0,none⟩) 2 2]) bt_78 rfl rfl) fun a hf => stSt (vs := [.slice (some ⟨b_4,0,none⟩) 2 2,.slice (some ⟨b_7,0,none⟩) 2 2]) hf hc rfl rfl rfl rfl sz_78 rfl rfl u6 fun w hc => cNil ?_
 replace hc := hc.pick k1
 replace hc := hc.pick k2
 replace hc := hc.pick k2
 obtain ⟨hsq,hc⟩ := tab_mk (K := kd_101) ([(((some ⟨b_5,0,none⟩),2),(⟨1,([1,0] : List Int)⟩ : crew_Station)),(((some ⟨b_6,0,none⟩),2),(⟨1,([0,1] : List Int)⟩ : crew_Station))] : List (H2 × crew_Station)) hc
 replace hc : Ctx G (.row (some ⟨b_7,0,none⟩) 2 ((tabR hsq ([(⟨1,([1,0] : List Int)⟩ : crew_Station),(⟨1,([0,1] : List Int)⟩ : crew_Station)] : List crew_Station)).map (Kd.v kd_101)) 101 2::tabI kd_101 (tabR hsq ([(⟨1,([1,0] : List Int)⟩ : crew_Station),(⟨1,([0,1] : List Int)⟩ : crew_Station)] : List crew_Station))::.row (some ⟨b_4,0,none⟩) 2 (([(((some ⟨b_2,0,none⟩),2),([0,1] : List Int)),(((some ⟨b_3,0,none⟩),2),([0,1] : List Int))] : List (H2 × (List Int))).map (Kd.v kd_25)) 25 1::.row (some ⟨b_3,0,none⟩) 2 (([0,1] : List Int).map encI_i64) 3 1::.row (some ⟨b_2,0,none⟩) 2 (([0,1] : List Int).map encI_i64) 3 1::.box b_1 [.slice (some ⟨b_4,0,none⟩) 2 2,.slice (some ⟨b_7,0,none⟩) 2 2] 78::Lf) w := hc
 replace hc := hc.pick k1
 replace hc := hc.pick k1
 replace hc := hc.pick k3
 replace hc := hc.pick k4
 replace hc := hc.pick k4
 obtain ⟨hsq_1,hc⟩ := tab_mk (K := kd_25) ([(((some ⟨b_2,0,none⟩),2),([0,1] : List Int)),(((some ⟨b_3,0,none⟩),2),([0,1] : List Int))] : List (H2 × (List Int))) hc
 replace hc : Ctx G (.row (some ⟨b_4,0,none⟩) 2 ((tabR hsq_1 ([([0,1] : List Int),([0,1] : List Int)] : List (List Int))).map (Kd.v kd_25)) 25 1::tabI kd_25 (tabR hsq_1 ([([0,1] : List Int),([0,1] : List Int)] : List (List Int)))::.row (some ⟨b_7,0,none⟩) 2 ((tabR hsq ([(⟨1,([1,0] : List Int)⟩ : crew_Station),(⟨1,([0,1] : List Int)⟩ : crew_Station)] : List crew_Station)).map (Kd.v kd_101)) 101 2::tabI kd_101 (tabR hsq ([(⟨1,([1,0] : List Int)⟩ : crew_Station),(⟨1,([0,1] : List Int)⟩ : crew_Station)] : List crew_Station))::.box b_1 [.slice (some ⟨b_4,0,none⟩) 2 2,.slice (some ⟨b_7,0,none⟩) 2 2] 78::Lf) w := hc
 refine h2 _ _ ?_
 refine wp_ret ?_
 obtain rfl := Option.some.inj hF
 exact fnOut1 (by simp) rfl Tryz.results67 hf hc (rv_cellN (vs := [.slice (some ⟨b_4,0,none⟩) 2 2,.slice (some ⟨b_7,0,none⟩) 2 2]) ag_78 rfl rfl (cells_box (n := 2) m4 rfl)) ⟨(some ⟨b_4,0,none⟩),(2,hsq_1),(some ⟨b_7,0,none⟩),(2,hsq),rfl,(hc.drop k4)⟩

def crew_Check_1_1 (s_ : Int) (x : crew_Roster) : Bool :=
 (crew_in s_ 0 (W (((x.Stations.length : Nat) : Int) - 1)))
theorem crew_Check_1_1_ok {G : Pers} {Lf : List Ent} {w : World} (s_ : Int) (x : crew_Roster) {b_ : Nat} {x_People_p : Option Addr} {x_People_c : Nat} {x_Stations_p : Option Addr} {x_Stations_c : Nat} (h_x_People : RdT kd_25 G 1 x_People_p x_People_c x.People) (h_x_Stations : RdT kd_101 G 2 x_Stations_p x_Stations_c x.Stations) (hc : Ctx G (.box b_ [.slice x_People_p x.People.length x_People_c,.slice x_Stations_p x.Stations.length x_Stations_c] 78::Lf) w) {res : Bool} (hF : crew_Check_1_1 s_ x = res) : Calls Tryz.prog 118 #[.int .i64 s_,.pointer (some ⟨b_,0,none⟩)] w (fun e w => e = .returned (.bool res) ∧ Ctx G (.box b_ [.slice x_People_p x.People.length x_People_c,.slice x_Stations_p x.Stations.length x_Stations_c] 78::Lf) w) := by
 unfold crew_Check_1_1 at hF
 refine fnIn (args := [.int .i64 s_,.pointer (some ⟨b_,0,none⟩)]) Tryz.func118 rfl Tryz.ntmps118 rfl fun a hf => wp_seq_k fun K1 h1 => cReg ?_
 refine stP hf rfl rfl rfl (pA rfl) fun a hf => cNil ?_
 refine h1 _ _ ?_
 refine wp_seq_k fun K2 h2 => cReg ?_
 refine stP hf rfl rfl rfl (pM rfl) fun a hf => stP hf rfl rfl rfl (pFA fa_78_1 rfl) fun a hf => stE hf hc rfl rfl rfl (eLd1 sc_76 rfl (cell_box m0 rfl)) fun a w hf hc => stP hf rfl rfl rfl (pLenS Tryz.underlying76 rfl) fun a hf => stP hf rfl rfl rfl (pSub rfl rfl) fun a hf => stE hf hc rfl rfl rfl (eC (v := .bool (crew_in s_ 0 (W (((x.Stations.length : Nat) : Int) - 1)))) (vs := [.int .i64 s_,.int .i64 0,.int .i64 (W (((x.Stations.length : Nat) : Int) - 1))]) (caps := []) en_86 rfl rfl rfl rfl (fun w hc => crew_in_ok s_ 0 (W (((x.Stations.length : Nat) : Int) - 1)) hc rfl)) fun a w hf hc => stP hf rfl rfl rfl (pA rfl) fun a hf => cNil ?_
 refine h2 _ _ ?_
 refine wp_ret ?_
 obtain rfl := hF
 exact fnOut1 (by simp) rfl Tryz.results118 hf hc (show look _ 3 = _ from rfl) ⟨rfl,hc⟩

def crew_every_int_1 (x : Int) (x_1 : crew_Roster) : Bool :=
 (!(crew_Check_1_1 x x_1))
theorem crew_every_int_1_ok {G : Pers} {Lf : List Ent} {w : World} (x : Int) (x_1 : crew_Roster) {b_ : Nat} {b__1 : Nat} {x_1_People_p : Option Addr} {x_1_People_c : Nat} {x_1_Stations_p : Option Addr} {x_1_Stations_c : Nat} (h_x_1_People : RdT kd_25 G 1 x_1_People_p x_1_People_c x_1.People) (h_x_1_Stations : RdT kd_101 G 2 x_1_Stations_p x_1_Stations_c x_1.Stations) (hc : Ctx G (.box b_ [.func (.func 118) #[] #[.pointer (some ⟨b__1,0,none⟩)]] 143::.box b__1 [.slice x_1_People_p x_1.People.length x_1_People_c,.slice x_1_Stations_p x_1.Stations.length x_1_Stations_c] 78::Lf) w) {res : Bool} (hF : crew_every_int_1 x x_1 = res) : Calls Tryz.prog 157 #[.int .i64 x,.pointer (some ⟨b_,0,none⟩)] w (fun e w => e = .returned (.bool res) ∧ Ctx G (.box b_ [.func (.func 118) #[] #[.pointer (some ⟨b__1,0,none⟩)]] 143::.box b__1 [.slice x_1_People_p x_1.People.length x_1_People_c,.slice x_1_Stations_p x_1.Stations.length x_1_Stations_c] 78::Lf) w) := by
 unfold crew_every_int_1 at hF
 refine fnIn (args := [.int .i64 x,.pointer (some ⟨b_,0,none⟩)]) Tryz.func157 rfl Tryz.ntmps157 rfl fun a hf => wp_seq_k fun K1 h1 => cReg ?_
 refine stP hf rfl rfl rfl (pA rfl) fun a hf => cNil ?_
 refine h1 _ _ ?_
 refine wp_seq_k fun K2 h2 => cReg ?_
 refine stE hf hc rfl rfl rfl (eLd1 sc_143 rfl (cell_box m0 rfl)) fun a w hf hc => stP hf rfl rfl rfl (pM rfl) fun a hf => stE hf hc rfl rfl rfl (eC (v := .bool (crew_Check_1_1 x x_1)) (vs := [.int .i64 x]) (caps := [.pointer (some ⟨b__1,0,none⟩)]) en_118 rfl rfl rfl rfl (fun w hc => (crew_Check_1_1_ok x x_1 h_x_1_People h_x_1_Stations (hc.pick k1) rfl).mono fun e w h => ⟨h.1,(h.2.unpick k1)⟩)) fun a w hf hc => stP hf rfl rfl rfl (pNot rfl) fun a hf => stP hf rfl rfl rfl (pA rfl) fun a hf => cNil ?_
 refine h2 _ _ ?_
 refine wp_ret ?_
 obtain rfl := hF
 exact fnOut1 (by simp) rfl Tryz.results157 hf hc (show look _ 3 = _ from rfl) ⟨rfl,hc⟩

def slices_IndexFunc_Lint_int_b4 (N : Nat) (s_ : List Int) (f_ : crew_Roster) (x : Int) : Option (Step (Int) (Int)) :=
 cond (decide (x < ((s_.length : Nat) : Int)))
 (Option.bind (getI s_ x) fun e_1 =>
 cond (crew_every_int_1 e_1 f_)
 (some (.ret x))
 (some (.cont (W (x + 1)))))
 (some (.brk x))
def slices_IndexFunc_Lint_int (N : Nat) (s_ : List Int) (f_ : crew_Roster) : Option (Int) :=
 Option.bind (loopO (fun s4 => slices_IndexFunc_Lint_int_b4 N s_ f_ s4) N 0) fun x4 =>
 exK x4 (fun s4 => some (-1)) some
theorem slices_IndexFunc_Lint_int_ok {N : Nat} {G : Pers} {Lf : List Ent} {w : World} (s_ : List Int) (f_ : crew_Roster) {s__p : Option Addr} {s__c : Nat} {b_ : Nat} {b__1 : Nat} {f__People_p : Option Addr} {f__People_c : Nat} {f__Stations_p : Option Addr} {f__Stations_c : Nat} (h_s_ : Rd G 1 s__p s__c (s_.map encI_i64)) (h_f__People : RdT kd_25 G 1 f__People_p f__People_c f_.People) (h_f__Stations : RdT kd_101 G 2 f__Stations_p f__Stations_c f_.Stations) (hc : Ctx G (.box b_ [.func (.func 118) #[] #[.pointer (some ⟨b__1,0,none⟩)]] 143::.box b__1 [.slice f__People_p f_.People.length f__People_c,.slice f__Stations_p f_.Stations.length f__Stations_c] 78::Lf) w) {res : Int} (hF : slices_IndexFunc_Lint_int N s_ f_ = some res) : Calls Tryz.prog 97 #[.slice s__p s_.length s__c,.func (.func 157) #[] #[.pointer (some ⟨b_,0,none⟩)]] w (fun e w => e = .returned (.int .i64 res) ∧ Ctx G (.box b_ [.func (.func 118) #[] #[.pointer (some ⟨b__1,0,none⟩)]] 143::.box b__1 [.slice f__People_p f_.People.length f__People_c,.slice f__Stations_p f_.Stations.length f__Stations_c] 78::Lf) w) := by
 unfold slices_IndexFunc_Lint_int at hF
 refine fnIn (args := [.slice s__p s_.length s__c,.func (.func 157) #[] #[.pointer (some ⟨b_,0,none⟩)]]) Tryz.func97 rfl Tryz.ntmps97 rfl fun a hf => wp_seq_k fun K1 h1 => cReg ?_
 refine stP hf rfl rfl rfl (pA rfl) fun a hf => cNil ?_
 refine h1 _ _ ?_
 refine wp_seq_k fun K2 h2 => wp_seq_k fun K3 h3 => cReg ?_
 refine stP hf rfl rfl rfl (pM rfl) fun a hf => stP hf rfl rfl rfl (pLenS Tryz.underlying25 rfl) fun a hf => stP hf rfl rfl rfl (pM rfl) fun a hf => cNil ?_
 refine h3 _ _ ?_
 refine wp_block ?_
 obtain ⟨x4,hx4,hF⟩ := bnd_some hF
 let S4 : Int → Act → World → Prop := (fun (zz : Int) a w => Has 19 a [(0,.slice s__p s_.length s__c),(1,.func (.func 157) #[] #[.pointer (some ⟨b_,0,none⟩)]),(7,.int .i64 ((s_.length : Nat) : Int)),(8,.int .i64 zz)] ∧ Ctx G (.box b_ [.func (.func 118) #[] #[.pointer (some ⟨b__1,0,none⟩)]] 143::.box b__1 [.slice f__People_p f_.People.length f__People_c,.slice f__Stations_p f_.Stations.length f__Stations_c] 78::Lf) w)
 have hr4 : ∀ (zz : Int) a w,x4 = .go zz → S4 zz a w → K2 a w := by
  rintro x a w rfl ⟨hf,hc⟩
  replace hF := exK_go hF
  refine h2 _ _ ?_
  refine wp_seq_k fun K5 h5 => cReg ?_
  refine stP hf rfl rfl rfl (pA rfl) fun a hf => cNil ?_
  refine h5 _ _ ?_
  refine wp_ret ?_
  obtain rfl := Option.some.inj hF
  exact fnOut1 (by simp) rfl Tryz.results97 hf hc (show look _ 4 = _ from rfl) ⟨rfl,hc⟩
 have ho4 : ∀ r,x4 = .out r → r = res := by
  rintro r rfl
  exact Option.some.inj hF
 refine cLoop N (loopW (S := S4) (x := x4) ?_ N 0 _ _ ⟨hf.keep ⟨rfl,rfl,rfl,rfl,trivial⟩,hc⟩ hx4)
 clear hF hf hc
 rintro x st4 a w KB4 ⟨hf,hc⟩ hF hfin4 hK4
 unfold slices_IndexFunc_Lint_int_b4 at hF
 refine wp_seq_k fun K6 h6 => cReg ?_
 refine stP hf rfl rfl rfl (pLt rfl rfl) fun a hf => cNil ?_
 refine h6 _ _ ?_
 refine wp_seq_k fun K7 h7 => cCond (b := (decide (x < ((s_.length : Nat) : Int)))) hf rfl (fun hb => ?_) (fun hb => ?_)
 ·replace hF := condT hb hF
  clear hb
  refine wp_skip ?_
  refine h7 _ _ ?_
  refine wp_seq_k fun K8 h8 => wp_block ?_
  refine wp_seq_k fun K9 h9 => cReg ?_
  refine stP hf rfl rfl rfl (pM rfl) fun a hf => stP hf rfl rfl rfl (pA rfl) fun a hf => cNil ?_
  refine h9 _ _ ?_
  refine wp_seq_k fun K10 h10 => cReg ?_
  refine stP hf rfl rfl rfl (pM rfl) fun a hf => stP hf rfl rfl rfl (pM rfl) fun a hf => stP hf rfl rfl rfl (pM rfl) fun a hf => ?_
  obtain ⟨e_1,he_1,hF⟩ := bnd_some hF
  obtain ⟨b_1,o,qa,qp⟩ := h_s_.atm he_1
  refine stP hf rfl rfl rfl (pIA Tryz.underlying25 sz_3 rfl rfl qa) fun a hf => stE hf hc rfl rfl rfl (eLd1 sc_3 rfl (cell_pc (j := 0) qp rfl)) fun a w hf hc => stE hf hc rfl rfl rfl (eC (v := .bool (crew_every_int_1 e_1 f_)) (vs := [.int .i64 e_1]) (caps := [.pointer (some ⟨b_,0,none⟩)]) en_157 rfl rfl rfl rfl (fun w hc => (crew_every_int_1_ok e_1 f_ h_f__People h_f__Stations ((hc.pick k1).pick k1) rfl).mono fun e w h => ⟨h.1,((h.2.unpick k1).unpick k1)⟩)) fun a w hf hc => cNil ?_
  refine h10 _ _ ?_
  refine cCond (b := (crew_every_int_1 e_1 f_)) hf rfl (fun hb => ?_) (fun hb => ?_)
  ·replace hF := condT hb hF
   clear hb
   refine wp_seq_k fun K11 h11 => cReg ?_
   refine stP hf rfl rfl rfl (pM rfl) fun a hf => stP hf rfl rfl rfl (pA rfl) fun a hf => cNil ?_
   refine h11 _ _ ?_
   refine wp_ret ?_
   refine xBlkR ?_
   refine xThenR ?_
   refine xThenR ?_
   have he := Option.some.inj hF
   rw [← he] at hfin4
   replace hF := ho4 _ hfin4
   refine xBlkR ?_
   refine xThenR ?_
   obtain rfl := hF
   exact fnOut1 (by simp) rfl Tryz.results97 hf hc (show look _ 4 = _ from rfl) ⟨rfl,hc⟩
  ·replace hF := condF hb hF
   clear hb
   refine wp_skip ?_
   refine h8 _ _ ?_
   refine cReg ?_
   refine stP hf rfl rfl rfl (pAdd rfl rfl) fun a hf => stP hf rfl rfl rfl (pM rfl) fun a hf => cNil ?_
   exact hK4 (W (x + 1)) _ _ (Option.some.inj hF).symm ⟨hf.keep ⟨rfl,rfl,rfl,rfl,trivial⟩,hc⟩
 ·replace hF := condF hb hF
  clear hb
  refine wp_exit ?_
  refine xThen ?_
  refine xThen ?_
  have he := Option.some.inj hF
  rw [← he] at hfin4
  refine cHit ?_
  exact hr4 _ _ _ hfin4 ⟨hf.keep ⟨rfl,rfl,rfl,rfl,trivial⟩,hc⟩

def slices_ContainsFunc_Lint_int (N : Nat) (s_ : List Int) (f_ : crew_Roster) : Option (Bool) :=
 Option.bind (slices_IndexFunc_Lint_int N s_ f_) fun r =>
 some (decide (0 ≤ r))
theorem slices_ContainsFunc_Lint_int_ok {N : Nat} {G : Pers} {Lf : List Ent} {w : World} (s_ : List Int) (f_ : crew_Roster) {s__p : Option Addr} {s__c : Nat} {b_ : Nat} {b__1 : Nat} {f__People_p : Option Addr} {f__People_c : Nat} {f__Stations_p : Option Addr} {f__Stations_c : Nat} (h_s_ : Rd G 1 s__p s__c (s_.map encI_i64)) (h_f__People : RdT kd_25 G 1 f__People_p f__People_c f_.People) (h_f__Stations : RdT kd_101 G 2 f__Stations_p f__Stations_c f_.Stations) (hc : Ctx G (.box b_ [.func (.func 118) #[] #[.pointer (some ⟨b__1,0,none⟩)]] 143::.box b__1 [.slice f__People_p f_.People.length f__People_c,.slice f__Stations_p f_.Stations.length f__Stations_c] 78::Lf) w) {res : Bool} (hF : slices_ContainsFunc_Lint_int N s_ f_ = some res) : Calls Tryz.prog 113 #[.slice s__p s_.length s__c,.func (.func 157) #[] #[.pointer (some ⟨b_,0,none⟩)]] w (fun e w => e = .returned (.bool res) ∧ Ctx G (.box b_ [.func (.func 118) #[] #[.pointer (some ⟨b__1,0,none⟩)]] 143::.box b__1 [.slice f__People_p f_.People.length f__People_c,.slice f__Stations_p f_.Stations.length f__Stations_c] 78::Lf) w) := by
 unfold slices_ContainsFunc_Lint_int at hF
 refine fnIn (args := [.slice s__p s_.length s__c,.func (.func 157) #[] #[.pointer (some ⟨b_,0,none⟩)]]) Tryz.func113 rfl Tryz.ntmps113 rfl fun a hf => wp_seq_k fun K1 h1 => cReg ?_
 refine stP hf rfl rfl rfl (pA rfl) fun a hf => cNil ?_
 refine h1 _ _ ?_
 refine wp_seq_k fun K2 h2 => cReg ?_
 refine stP hf rfl rfl rfl (pM rfl) fun a hf => stP hf rfl rfl rfl (pM rfl) fun a hf => ?_
 obtain ⟨r,hr,hF⟩ := bnd_some hF
 refine stE hf hc rfl rfl rfl (eC (v := .int .i64 r) (vs := [.slice s__p s_.length s__c,.func (.func 157) #[] #[.pointer (some ⟨b_,0,none⟩)]]) (caps := []) en_97 rfl rfl rfl rfl (fun w hc => (slices_IndexFunc_Lint_int_ok s_ f_ h_s_ h_f__People h_f__Stations ((hc.pick k1).pick k1) hr).mono fun e w h => ⟨h.1,((h.2.unpick k1).unpick k1)⟩)) fun a w hf hc => stP hf rfl rfl rfl (pGe rfl rfl) fun a hf => stP hf rfl rfl rfl (pA rfl) fun a hf => cNil ?_
 refine h2 _ _ ?_
 refine wp_ret ?_
 obtain rfl := Option.some.inj hF
 exact fnOut1 (by simp) rfl Tryz.results113 hf hc (show look _ 4 = _ from rfl) ⟨rfl,hc⟩

def crew_every_int (N : Nat) (l : List Int) (so : crew_Roster) : Option (Bool) :=
 Option.bind (slices_ContainsFunc_Lint_int N l so) fun r =>
 some (!r)
theorem crew_every_int_ok {N : Nat} {G : Pers} {Lf : List Ent} {w : World} (l : List Int) (so : crew_Roster) {l_p : Option Addr} {l_c : Nat} {b_ : Nat} {so_People_p : Option Addr} {so_People_c : Nat} {so_Stations_p : Option Addr} {so_Stations_c : Nat} (h_l : Rd G 1 l_p l_c (l.map encI_i64)) (h_so_People : RdT kd_25 G 1 so_People_p so_People_c so.People) (h_so_Stations : RdT kd_101 G 2 so_Stations_p so_Stations_c so.Stations) (hc : Ctx G (.box b_ [.slice so_People_p so.People.length so_People_c,.slice so_Stations_p so.Stations.length so_Stations_c] 78::Lf) w) {res : Bool} (hF : crew_every_int N l so = some res) : Calls Tryz.prog 87 #[.slice l_p l.length l_c,.func (.func 118) #[] #[.pointer (some ⟨b_,0,none⟩)]] w (fun e w => e = .returned (.bool res) ∧ Ctx G (.box b_ [.slice so_People_p so.People.length so_People_c,.slice so_Stations_p so.Stations.length so_Stations_c] 78::Lf) w) := by
 unfold crew_every_int at hF
 refine fnIn (args := [.slice l_p l.length l_c,.func (.func 118) #[] #[.pointer (some ⟨b_,0,none⟩)]]) Tryz.func87 rfl Tryz.ntmps87 rfl fun a hf => wp_seq_k fun K1 h1 => cReg ?_
 refine stBx (cs := [.func (.func 118) #[] #[.pointer (some ⟨b_,0,none⟩)]]) hf hc rfl rfl rfl rfl fun b_1 a w hf hc => stP hf rfl rfl rfl (pA rfl) fun a hf => cNil ?_
 refine h1 _ _ ?_
 refine wp_seq_k fun K2 h2 => cReg ?_
 refine stP hf rfl rfl rfl (pM rfl) fun a hf => stP hf rfl rfl rfl (pMF (us := [.pointer (some ⟨b_1,0,none⟩)]) rfl rfl) fun a hf => ?_
 obtain ⟨r,hr,hF⟩ := bnd_some hF
 refine stE hf hc rfl rfl rfl (eC (v := .bool r) (vs := [.slice l_p l.length l_c,.func (.func 157) #[] #[.pointer (some ⟨b_1,0,none⟩)]]) (caps := []) en_113 rfl rfl rfl rfl (fun w hc => (slices_ContainsFunc_Lint_int_ok l so h_l h_so_People h_so_Stations ((hc.pick k1).pick k1) hr).mono fun e w h => ⟨h.1,((h.2.unpick k1).unpick k1)⟩)) fun a w hf hc => stP hf rfl rfl rfl (pNot rfl) fun a hf => stP hf rfl rfl rfl (pA rfl) fun a hf => cNil ?_
 refine h2 _ _ ?_
 refine wp_ret ?_
 obtain rfl := Option.some.inj hF
 replace hc := hc.drop k0
 exact fnOut1 (by simp) rfl Tryz.results87 hf hc (show look _ 4 = _ from rfl) ⟨rfl,hc⟩

def crew_Check_1 (N : Nat) (l : List Int) (x : crew_Roster) : Option (Bool) :=
 Option.bind (crew_every_int N l (⟨x.People,x.Stations⟩ : crew_Roster)) fun r =>
 some r
theorem crew_Check_1_ok {N : Nat} {G : Pers} {Lf : List Ent} {w : World} (l : List Int) (x : crew_Roster) {l_p : Option Addr} {l_c : Nat} {b_ : Nat} {x_People_p : Option Addr} {x_People_c : Nat} {x_Stations_p : Option Addr} {x_Stations_c : Nat} (h_l : Rd G 1 l_p l_c (l.map encI_i64)) (h_x_People : RdT kd_25 G 1 x_People_p x_People_c x.People) (h_x_Stations : RdT kd_101 G 2 x_Stations_p x_Stations_c x.Stations) (hc : Ctx G (.box b_ [.slice x_People_p x.People.length x_People_c,.slice x_Stations_p x.Stations.length x_Stations_c] 78::Lf) w) {res : Bool} (hF : crew_Check_1 N l x = some res) : Calls Tryz.prog 117 #[.slice l_p l.length l_c,.pointer (some ⟨b_,0,none⟩)] w (fun e w => e = .returned (.bool res) ∧ Ctx G (.box b_ [.slice x_People_p x.People.length x_People_c,.slice x_Stations_p x.Stations.length x_Stations_c] 78::Lf) w) := by
 unfold crew_Check_1 at hF
 refine fnIn (args := [.slice l_p l.length l_c,.pointer (some ⟨b_,0,none⟩)]) Tryz.func117 rfl Tryz.ntmps117 rfl fun a hf => wp_seq_k fun K1 h1 => cReg ?_
 refine stP hf rfl rfl rfl (pA rfl) fun a hf => cNil ?_
 refine h1 _ _ ?_
 refine wp_seq_k fun K2 h2 => cReg ?_
 refine stP hf rfl rfl rfl (pM rfl) fun a hf => stP hf rfl rfl rfl (pMF (us := [.pointer (some ⟨b_,0,none⟩)]) rfl rfl) fun a hf => ?_
 obtain ⟨r,hr,hF⟩ := bnd_some hF
 refine stE hf hc rfl rfl rfl (eC (v := .bool r) (vs := [.slice l_p l.length l_c,.func (.func 118) #[] #[.pointer (some ⟨b_,0,none⟩)]]) (caps := []) en_87 rfl rfl rfl rfl (fun w hc => (crew_every_int_ok l (⟨x.People,x.Stations⟩ : crew_Roster) h_l h_x_People h_x_Stations (hc.pick k0) hr).mono fun e w h => ⟨h.1,(h.2.unpick k0)⟩)) fun a w hf hc => stP hf rfl rfl rfl (pA rfl) fun a hf => cNil ?_
 refine h2 _ _ ?_
 refine wp_ret ?_
 obtain rfl := Option.some.inj hF
 exact fnOut1 (by simp) rfl Tryz.results117 hf hc (show look _ 3 = _ from rfl) ⟨rfl,hc⟩

def crew_every_Lint_1 (N : Nat) (x : List Int) (x_1 : crew_Roster) : Option (Bool) :=
 Option.bind (crew_Check_1 N x x_1) fun r =>
 some (!r)
theorem crew_every_Lint_1_ok {N : Nat} {G : Pers} {Lf : List Ent} {w : World} (x : List Int) (x_1 : crew_Roster) {x_p : Option Addr} {x_c : Nat} {b_ : Nat} {b__1 : Nat} {x_1_People_p : Option Addr} {x_1_People_c : Nat} {x_1_Stations_p : Option Addr} {x_1_Stations_c : Nat} (h_x : Rd G 1 x_p x_c (x.map encI_i64)) (h_x_1_People : RdT kd_25 G 1 x_1_People_p x_1_People_c x_1.People) (h_x_1_Stations : RdT kd_101 G 2 x_1_Stations_p x_1_Stations_c x_1.Stations) (hc : Ctx G (.box b_ [.func (.func 117) #[] #[.pointer (some ⟨b__1,0,none⟩)]] 185::.box b__1 [.slice x_1_People_p x_1.People.length x_1_People_c,.slice x_1_Stations_p x_1.Stations.length x_1_Stations_c] 78::Lf) w) {res : Bool} (hF : crew_every_Lint_1 N x x_1 = some res) : Calls Tryz.prog 169 #[.slice x_p x.length x_c,.pointer (some ⟨b_,0,none⟩)] w (fun e w => e = .returned (.bool res) ∧ Ctx G (.box b_ [.func (.func 117) #[] #[.pointer (some ⟨b__1,0,none⟩)]] 185::.box b__1 [.slice x_1_People_p x_1.People.length x_1_People_c,.slice x_1_Stations_p x_1.Stations.length x_1_Stations_c] 78::Lf) w) := by
 unfold crew_every_Lint_1 at hF
 refine fnIn (args := [.slice x_p x.length x_c,.pointer (some ⟨b_,0,none⟩)]) Tryz.func169 rfl Tryz.ntmps169 rfl fun a hf => wp_seq_k fun K1 h1 => cReg ?_
 refine stP hf rfl rfl rfl (pA rfl) fun a hf => cNil ?_
 refine h1 _ _ ?_
 refine wp_seq_k fun K2 h2 => cReg ?_
 refine stE hf hc rfl rfl rfl (eLd1 sc_185 rfl (cell_box m0 rfl)) fun a w hf hc => stP hf rfl rfl rfl (pM rfl) fun a hf => ?_
 obtain ⟨r,hr,hF⟩ := bnd_some hF
 refine stE hf hc rfl rfl rfl (eC (v := .bool r) (vs := [.slice x_p x.length x_c]) (caps := [.pointer (some ⟨b__1,0,none⟩)]) en_117 rfl rfl rfl rfl (fun w hc => (crew_Check_1_ok x x_1 h_x h_x_1_People h_x_1_Stations (hc.pick k1) hr).mono fun e w h => ⟨h.1,(h.2.unpick k1)⟩)) fun a w hf hc => stP hf rfl rfl rfl (pNot rfl) fun a hf => stP hf rfl rfl rfl (pA rfl) fun a hf => cNil ?_
 refine h2 _ _ ?_
 refine wp_ret ?_
 obtain rfl := Option.some.inj hF
 exact fnOut1 (by simp) rfl Tryz.results169 hf hc (show look _ 3 = _ from rfl) ⟨rfl,hc⟩

def slices_IndexFunc_LLint_Lint_b4 (N : Nat) (s_ : List (List Int)) (f_ : crew_Roster) (x : Int) : Option (Step (Int) (Int)) :=
 cond (decide (x < ((s_.length : Nat) : Int)))
 (Option.bind (getI s_ x) fun e_1 =>
 Option.bind (crew_every_Lint_1 N e_1 f_) fun r =>
 cond r
 (some (.ret x))
 (some (.cont (W (x + 1)))))
 (some (.brk x))
def slices_IndexFunc_LLint_Lint (N : Nat) (s_ : List (List Int)) (f_ : crew_Roster) : Option (Int) :=
 Option.bind (loopO (fun s4 => slices_IndexFunc_LLint_Lint_b4 N s_ f_ s4) N 0) fun x4 =>
 exK x4 (fun s4 => some (-1)) some
theorem slices_IndexFunc_LLint_Lint_ok {N : Nat} {G : Pers} {Lf : List Ent} {w : World} (s_ : List (List Int)) (f_ : crew_Roster) {s__p : Option Addr} {s__c : Nat} {b_ : Nat} {b__1 : Nat} {f__People_p : Option Addr} {f__People_c : Nat} {f__Stations_p : Option Addr} {f__Stations_c : Nat} (h_s_ : RdT kd_25 G 1 s__p s__c s_) (h_f__People : RdT kd_25 G 1 f__People_p f__People_c f_.People) (h_f__Stations : RdT kd_101 G 2 f__Stations_p f__Stations_c f_.Stations) (hc : Ctx G (.box b_ [.func (.func 117) #[] #[.pointer (some ⟨b__1,0,none⟩)]] 185::.box b__1 [.slice f__People_p f_.People.length f__People_c,.slice f__Stations_p f_.Stations.length f__Stations_c] 78::Lf) w) {res : Int} (hF : slices_IndexFunc_LLint_Lint N s_ f_ = some res) : Calls Tryz.prog 191 #[.slice s__p s_.length s__c,.func (.func 169) #[] #[.pointer (some ⟨b_,0,none⟩)]] w (fun e w => e = .returned (.int .i64 res) ∧ Ctx G (.box b_ [.func (.func 117) #[] #[.pointer (some ⟨b__1,0,none⟩)]] 185::.box b__1 [.slice f__People_p f_.People.length f__People_c,.slice f__Stations_p f_.Stations.length f__Stations_c] 78::Lf) w) := by
 unfold slices_IndexFunc_LLint_Lint at hF
 refine fnIn (args := [.slice s__p s_.length s__c,.func (.func 169) #[] #[.pointer (some ⟨b_,0,none⟩)]]) Tryz.func191 rfl Tryz.ntmps191 rfl fun a hf => wp_seq_k fun K1 h1 => cReg ?_
 refine stP hf rfl rfl rfl (pA rfl) fun a hf => cNil ?_
 refine h1 _ _ ?_
 refine wp_seq_k fun K2 h2 => wp_seq_k fun K3 h3 => cReg ?_
 refine stP hf rfl rfl rfl (pM rfl) fun a hf => stP hf rfl rfl rfl (pLenS Tryz.underlying75 rfl) fun a hf => stP hf rfl rfl rfl (pM rfl) fun a hf => cNil ?_
 refine h3 _ _ ?_
 refine wp_block ?_
 obtain ⟨x4,hx4,hF⟩ := bnd_some hF
 let S4 : Int → Act → World → Prop := (fun (zz : Int) a w => Has 19 a [(0,.slice s__p s_.length s__c),(1,.func (.func 169) #[] #[.pointer (some ⟨b_,0,none⟩)]),(7,.int .i64 ((s_.length : Nat) : Int)),(8,.int .i64 zz)] ∧ Ctx G (.box b_ [.func (.func 117) #[] #[.pointer (some ⟨b__1,0,none⟩)]] 185::.box b__1 [.slice f__People_p f_.People.length f__People_c,.slice f__Stations_p f_.Stations.length f__Stations_c] 78::Lf) w)
 have hr4 : ∀ (zz : Int) a w,x4 = .go zz → S4 zz a w → K2 a w := by
  rintro x a w rfl ⟨hf,hc⟩
  replace hF := exK_go hF
  refine h2 _ _ ?_
  refine wp_seq_k fun K5 h5 => cReg ?_
  refine stP hf rfl rfl rfl (pA rfl) fun a hf => cNil ?_
  refine h5 _ _ ?_
  refine wp_ret ?_
  obtain rfl := Option.some.inj hF
  exact fnOut1 (by simp) rfl Tryz.results191 hf hc (show look _ 4 = _ from rfl) ⟨rfl,hc⟩
 have ho4 : ∀ r,x4 = .out r → r = res := by
  rintro r rfl
  exact Option.some.inj hF
 refine cLoop N (loopW (S := S4) (x := x4) ?_ N 0 _ _ ⟨hf.keep ⟨rfl,rfl,rfl,rfl,trivial⟩,hc⟩ hx4)
 clear hF hf hc
 rintro x st4 a w KB4 ⟨hf,hc⟩ hF hfin4 hK4
 unfold slices_IndexFunc_LLint_Lint_b4 at hF
 refine wp_seq_k fun K6 h6 => cReg ?_
 refine stP hf rfl rfl rfl (pLt rfl rfl) fun a hf => cNil ?_
 refine h6 _ _ ?_
 refine wp_seq_k fun K7 h7 => cCond (b := (decide (x < ((s_.length : Nat) : Int)))) hf rfl (fun hb => ?_) (fun hb => ?_)
 ·replace hF := condT hb hF
  clear hb
  refine wp_skip ?_
  refine h7 _ _ ?_
  refine wp_seq_k fun K8 h8 => wp_block ?_
  refine wp_seq_k fun K9 h9 => cReg ?_
  refine stP hf rfl rfl rfl (pM rfl) fun a hf => stP hf rfl rfl rfl (pA rfl) fun a hf => cNil ?_
  refine h9 _ _ ?_
  refine wp_seq_k fun K10 h10 => cReg ?_
  refine stP hf rfl rfl rfl (pM rfl) fun a hf => stP hf rfl rfl rfl (pM rfl) fun a hf => stP hf rfl rfl rfl (pM rfl) fun a hf => ?_
  obtain ⟨e_1,he_1,hF⟩ := bnd_some hF
  obtain ⟨b_1,o,hd,qa,qp,qr⟩ := h_s_.atm he_1
  refine stP hf rfl rfl rfl (pIA Tryz.underlying75 sz_25 rfl rfl qa) fun a hf => stE hf hc rfl rfl rfl (eLd1 sc_25 rfl (cell_pc (j := 0) qp rfl)) fun a w hf hc => ?_
  obtain ⟨r,hr,hF⟩ := bnd_some hF
  refine stE hf hc rfl rfl rfl (eC (v := .bool r) (vs := [.slice hd.1 e_1.length hd.2]) (caps := [.pointer (some ⟨b_,0,none⟩)]) en_169 rfl rfl rfl rfl (fun w hc => (crew_every_Lint_1_ok e_1 f_ qr h_f__People h_f__Stations ((hc.pick k1).pick k1) hr).mono fun e w h => ⟨h.1,((h.2.unpick k1).unpick k1)⟩)) fun a w hf hc => cNil ?_
  refine h10 _ _ ?_
  refine cCond (b := r) hf rfl (fun hb => ?_) (fun hb => ?_)
  ·replace hF := condT hb hF
   clear hb
   refine wp_seq_k fun K11 h11 => cReg ?_
   refine stP hf rfl rfl rfl (pM rfl) fun a hf => stP hf rfl rfl rfl (pA rfl) fun a hf => cNil ?_
   refine h11 _ _ ?_
   refine wp_ret ?_
   refine xBlkR ?_
   refine xThenR ?_
   refine xThenR ?_
   have he := Option.some.inj hF
   rw [← he] at hfin4
   replace hF := ho4 _ hfin4
   refine xBlkR ?_
   refine xThenR ?_
   obtain rfl := hF
   exact fnOut1 (by simp) rfl Tryz.results191 hf hc (show look _ 4 = _ from rfl) ⟨rfl,hc⟩
  ·replace hF := condF hb hF
   clear hb
   refine wp_skip ?_
   refine h8 _ _ ?_
   refine cReg ?_
   refine stP hf rfl rfl rfl (pAdd rfl rfl) fun a hf => stP hf rfl rfl rfl (pM rfl) fun a hf => cNil ?_
   exact hK4 (W (x + 1)) _ _ (Option.some.inj hF).symm ⟨hf.keep ⟨rfl,rfl,rfl,rfl,trivial⟩,hc⟩
 ·replace hF := condF hb hF
  clear hb
  refine wp_exit ?_
  refine xThen ?_
  refine xThen ?_
  have he := Option.some.inj hF
  rw [← he] at hfin4
  refine cHit ?_
  exact hr4 _ _ _ hfin4 ⟨hf.keep ⟨rfl,rfl,rfl,rfl,trivial⟩,hc⟩

def slices_ContainsFunc_LLint_Lint (N : Nat) (s_ : List (List Int)) (f_ : crew_Roster) : Option (Bool) :=
 Option.bind (slices_IndexFunc_LLint_Lint N s_ f_) fun r =>
 some (decide (0 ≤ r))
theorem slices_ContainsFunc_LLint_Lint_ok {N : Nat} {G : Pers} {Lf : List Ent} {w : World} (s_ : List (List Int)) (f_ : crew_Roster) {s__p : Option Addr} {s__c : Nat} {b_ : Nat} {b__1 : Nat} {f__People_p : Option Addr} {f__People_c : Nat} {f__Stations_p : Option Addr} {f__Stations_c : Nat} (h_s_ : RdT kd_25 G 1 s__p s__c s_) (h_f__People : RdT kd_25 G 1 f__People_p f__People_c f_.People) (h_f__Stations : RdT kd_101 G 2 f__Stations_p f__Stations_c f_.Stations) (hc : Ctx G (.box b_ [.func (.func 117) #[] #[.pointer (some ⟨b__1,0,none⟩)]] 185::.box b__1 [.slice f__People_p f_.People.length f__People_c,.slice f__Stations_p f_.Stations.length f__Stations_c] 78::Lf) w) {res : Bool} (hF : slices_ContainsFunc_LLint_Lint N s_ f_ = some res) : Calls Tryz.prog 168 #[.slice s__p s_.length s__c,.func (.func 169) #[] #[.pointer (some ⟨b_,0,none⟩)]] w (fun e w => e = .returned (.bool res) ∧ Ctx G (.box b_ [.func (.func 117) #[] #[.pointer (some ⟨b__1,0,none⟩)]] 185::.box b__1 [.slice f__People_p f_.People.length f__People_c,.slice f__Stations_p f_.Stations.length f__Stations_c] 78::Lf) w) := by
 unfold slices_ContainsFunc_LLint_Lint at hF
 refine fnIn (args := [.slice s__p s_.length s__c,.func (.func 169) #[] #[.pointer (some ⟨b_,0,none⟩)]]) Tryz.func168 rfl Tryz.ntmps168 rfl fun a hf => wp_seq_k fun K1 h1 => cReg ?_
 refine stP hf rfl rfl rfl (pA rfl) fun a hf => cNil ?_
 refine h1 _ _ ?_
 refine wp_seq_k fun K2 h2 => cReg ?_
 refine stP hf rfl rfl rfl (pM rfl) fun a hf => stP hf rfl rfl rfl (pM rfl) fun a hf => ?_
 obtain ⟨r,hr,hF⟩ := bnd_some hF
 refine stE hf hc rfl rfl rfl (eC (v := .int .i64 r) (vs := [.slice s__p s_.length s__c,.func (.func 169) #[] #[.pointer (some ⟨b_,0,none⟩)]]) (caps := []) en_191 rfl rfl rfl rfl (fun w hc => (slices_IndexFunc_LLint_Lint_ok s_ f_ h_s_ h_f__People h_f__Stations ((hc.pick k1).pick k1) hr).mono fun e w h => ⟨h.1,((h.2.unpick k1).unpick k1)⟩)) fun a w hf hc => stP hf rfl rfl rfl (pGe rfl rfl) fun a hf => stP hf rfl rfl rfl (pA rfl) fun a hf => cNil ?_
 refine h2 _ _ ?_
 refine wp_ret ?_
 obtain rfl := Option.some.inj hF
 exact fnOut1 (by simp) rfl Tryz.results168 hf hc (show look _ 4 = _ from rfl) ⟨rfl,hc⟩

def crew_every_Lint (N : Nat) (l : List (List Int)) (so : crew_Roster) : Option (Bool) :=
 Option.bind (slices_ContainsFunc_LLint_Lint N l so) fun r =>
 some (!r)
theorem crew_every_Lint_ok {N : Nat} {G : Pers} {Lf : List Ent} {w : World} (l : List (List Int)) (so : crew_Roster) {l_p : Option Addr} {l_c : Nat} {b_ : Nat} {so_People_p : Option Addr} {so_People_c : Nat} {so_Stations_p : Option Addr} {so_Stations_c : Nat} (h_l : RdT kd_25 G 1 l_p l_c l) (h_so_People : RdT kd_25 G 1 so_People_p so_People_c so.People) (h_so_Stations : RdT kd_101 G 2 so_Stations_p so_Stations_c so.Stations) (hc : Ctx G (.box b_ [.slice so_People_p so.People.length so_People_c,.slice so_Stations_p so.Stations.length so_Stations_c] 78::Lf) w) {res : Bool} (hF : crew_every_Lint N l so = some res) : Calls Tryz.prog 116 #[.slice l_p l.length l_c,.func (.func 117) #[] #[.pointer (some ⟨b_,0,none⟩)]] w (fun e w => e = .returned (.bool res) ∧ Ctx G (.box b_ [.slice so_People_p so.People.length so_People_c,.slice so_Stations_p so.Stations.length so_Stations_c] 78::Lf) w) := by
 unfold crew_every_Lint at hF
 refine fnIn (args := [.slice l_p l.length l_c,.func (.func 117) #[] #[.pointer (some ⟨b_,0,none⟩)]]) Tryz.func116 rfl Tryz.ntmps116 rfl fun a hf => wp_seq_k fun K1 h1 => cReg ?_
 refine stBx (cs := [.func (.func 117) #[] #[.pointer (some ⟨b_,0,none⟩)]]) hf hc rfl rfl rfl rfl fun b_1 a w hf hc => stP hf rfl rfl rfl (pA rfl) fun a hf => cNil ?_
 refine h1 _ _ ?_
 refine wp_seq_k fun K2 h2 => cReg ?_
 refine stP hf rfl rfl rfl (pM rfl) fun a hf => stP hf rfl rfl rfl (pMF (us := [.pointer (some ⟨b_1,0,none⟩)]) rfl rfl) fun a hf => ?_
 obtain ⟨r,hr,hF⟩ := bnd_some hF
 refine stE hf hc rfl rfl rfl (eC (v := .bool r) (vs := [.slice l_p l.length l_c,.func (.func 169) #[] #[.pointer (some ⟨b_1,0,none⟩)]]) (caps := []) en_168 rfl rfl rfl rfl (fun w hc => (slices_ContainsFunc_LLint_Lint_ok l so h_l h_so_People h_so_Stations ((hc.pick k1).pick k1) hr).mono fun e w h => ⟨h.1,((h.2.unpick k1).unpick k1)⟩)) fun a w hf hc => stP hf rfl rfl rfl (pNot rfl) fun a hf => stP hf rfl rfl rfl (pA rfl) fun a hf => cNil ?_
 refine h2 _ _ ?_
 refine wp_ret ?_
 obtain rfl := Option.some.inj hF
 replace hc := hc.drop k0
 exact fnOut1 (by simp) rfl Tryz.results116 hf hc (show look _ 4 = _ from rfl) ⟨rfl,hc⟩

def crew_Check_2_1 (p_ : Int) (x : crew_Roster) : Bool :=
 (crew_in p_ 0 (W (((x.People.length : Nat) : Int) - 1)))
theorem crew_Check_2_1_ok {G : Pers} {Lf : List Ent} {w : World} (p_ : Int) (x : crew_Roster) {b_ : Nat} {x_People_p : Option Addr} {x_People_c : Nat} {x_Stations_p : Option Addr} {x_Stations_c : Nat} (h_x_People : RdT kd_25 G 1 x_People_p x_People_c x.People) (h_x_Stations : RdT kd_101 G 2 x_Stations_p x_Stations_c x.Stations) (hc : Ctx G (.box b_ [.slice x_People_p x.People.length x_People_c,.slice x_Stations_p x.Stations.length x_Stations_c] 78::Lf) w) {res : Bool} (hF : crew_Check_2_1 p_ x = res) : Calls Tryz.prog 121 #[.int .i64 p_,.pointer (some ⟨b_,0,none⟩)] w (fun e w => e = .returned (.bool res) ∧ Ctx G (.box b_ [.slice x_People_p x.People.length x_People_c,.slice x_Stations_p x.Stations.length x_Stations_c] 78::Lf) w) := by
 unfold crew_Check_2_1 at hF
 refine fnIn (args := [.int .i64 p_,.pointer (some ⟨b_,0,none⟩)]) Tryz.func121 rfl Tryz.ntmps121 rfl fun a hf => wp_seq_k fun K1 h1 => cReg ?_
 refine stP hf rfl rfl rfl (pA rfl) fun a hf => cNil ?_
 refine h1 _ _ ?_
 refine wp_seq_k fun K2 h2 => cReg ?_
 refine stP hf rfl rfl rfl (pM rfl) fun a hf => stP hf rfl rfl rfl (pFA fa_78_0 rfl) fun a hf => stE hf hc rfl rfl rfl (eLd1 sc_75 rfl (cell_box m0 rfl)) fun a w hf hc => stP hf rfl rfl rfl (pLenS Tryz.underlying75 rfl) fun a hf => stP hf rfl rfl rfl (pSub rfl rfl) fun a hf => stE hf hc rfl rfl rfl (eC (v := .bool (crew_in p_ 0 (W (((x.People.length : Nat) : Int) - 1)))) (vs := [.int .i64 p_,.int .i64 0,.int .i64 (W (((x.People.length : Nat) : Int) - 1))]) (caps := []) en_86 rfl rfl rfl rfl (fun w hc => crew_in_ok p_ 0 (W (((x.People.length : Nat) : Int) - 1)) hc rfl)) fun a w hf hc => stP hf rfl rfl rfl (pA rfl) fun a hf => cNil ?_
 refine h2 _ _ ?_
 refine wp_ret ?_
 obtain rfl := hF
 exact fnOut1 (by simp) rfl Tryz.results121 hf hc (show look _ 3 = _ from rfl) ⟨rfl,hc⟩

def crew_every_int_1_s2 (x : Int) (x_1 : crew_Roster) : Bool :=
 (!(crew_Check_2_1 x x_1))
theorem crew_every_int_1_s2_ok {G : Pers} {Lf : List Ent} {w : World} (x : Int) (x_1 : crew_Roster) {b_ : Nat} {b__1 : Nat} {x_1_People_p : Option Addr} {x_1_People_c : Nat} {x_1_Stations_p : Option Addr} {x_1_Stations_c : Nat} (h_x_1_People : RdT kd_25 G 1 x_1_People_p x_1_People_c x_1.People) (h_x_1_Stations : RdT kd_101 G 2 x_1_Stations_p x_1_Stations_c x_1.Stations) (hc : Ctx G (.box b_ [.func (.func 121) #[] #[.pointer (some ⟨b__1,0,none⟩)]] 143::.box b__1 [.slice x_1_People_p x_1.People.length x_1_People_c,.slice x_1_Stations_p x_1.Stations.length x_1_Stations_c] 78::Lf) w) {res : Bool} (hF : crew_every_int_1_s2 x x_1 = res) : Calls Tryz.prog 157 #[.int .i64 x,.pointer (some ⟨b_,0,none⟩)] w (fun e w => e = .returned (.bool res) ∧ Ctx G (.box b_ [.func (.func 121) #[] #[.pointer (some ⟨b__1,0,none⟩)]] 143::.box b__1 [.slice x_1_People_p x_1.People.length x_1_People_c,.slice x_1_Stations_p x_1.Stations.length x_1_Stations_c] 78::Lf) w) := by
 unfold crew_every_int_1_s2 at hF
 refine fnIn (args := [.int .i64 x,.pointer (some ⟨b_,0,none⟩)]) Tryz.func157 rfl Tryz.ntmps157 rfl fun a hf => wp_seq_k fun K1 h1 => cReg ?_
 refine stP hf rfl rfl rfl (pA rfl) fun a hf => cNil ?_
 refine h1 _ _ ?_
 refine wp_seq_k fun K2 h2 => cReg ?_
 refine stE hf hc rfl rfl rfl (eLd1 sc_143 rfl (cell_box m0 rfl)) fun a w hf hc => stP hf rfl rfl rfl (pM rfl) fun a hf => stE hf hc rfl rfl rfl (eC (v := .bool (crew_Check_2_1 x x_1)) (vs := [.int .i64 x]) (caps := [.pointer (some ⟨b__1,0,none⟩)]) en_121 rfl rfl rfl rfl (fun w hc => (crew_Check_2_1_ok x x_1 h_x_1_People h_x_1_Stations (hc.pick k1) rfl).mono fun e w h => ⟨h.1,(h.2.unpick k1)⟩)) fun a w hf hc => stP hf rfl rfl rfl (pNot rfl) fun a hf => stP hf rfl rfl rfl (pA rfl) fun a hf => cNil ?_
 refine h2 _ _ ?_
 refine wp_ret ?_
 obtain rfl := hF
 exact fnOut1 (by simp) rfl Tryz.results157 hf hc (show look _ 3 = _ from rfl) ⟨rfl,hc⟩

def slices_IndexFunc_Lint_int_s2_b4 (N : Nat) (s_ : List Int) (f_ : crew_Roster) (x : Int) : Option (Step (Int) (Int)) :=
 cond (decide (x < ((s_.length : Nat) : Int)))
 (Option.bind (getI s_ x) fun e_1 =>
 cond (crew_every_int_1_s2 e_1 f_)
 (some (.ret x))
 (some (.cont (W (x + 1)))))
 (some (.brk x))
def slices_IndexFunc_Lint_int_s2 (N : Nat) (s_ : List Int) (f_ : crew_Roster) : Option (Int) :=
 Option.bind (loopO (fun s4 => slices_IndexFunc_Lint_int_s2_b4 N s_ f_ s4) N 0) fun x4 =>
 exK x4 (fun s4 => some (-1)) some
theorem slices_IndexFunc_Lint_int_s2_ok {N : Nat} {G : Pers} {Lf : List Ent} {w : World} (s_ : List Int) (f_ : crew_Roster) {s__p : Option Addr} {s__c : Nat} {b_ : Nat} {b__1 : Nat} {f__People_p : Option Addr} {f__People_c : Nat} {f__Stations_p : Option Addr} {f__Stations_c : Nat} (h_s_ : Rd G 1 s__p s__c (s_.map encI_i64)) (h_f__People : RdT kd_25 G 1 f__People_p f__People_c f_.People) (h_f__Stations : RdT kd_101 G 2 f__Stations_p f__Stations_c f_.Stations) (hc : Ctx G (.box b_ [.func (.func 121) #[] #[.pointer (some ⟨b__1,0,none⟩)]] 143::.box b__1 [.slice f__People_p f_.People.length f__People_c,.slice f__Stations_p f_.Stations.length f__Stations_c] 78::Lf) w) {res : Int} (hF : slices_IndexFunc_Lint_int_s2 N s_ f_ = some res) : Calls Tryz.prog 97 #[.slice s__p s_.length s__c,.func (.func 157) #[] #[.pointer (some ⟨b_,0,none⟩)]] w (fun e w => e = .returned (.int .i64 res) ∧ Ctx G (.box b_ [.func (.func 121) #[] #[.pointer (some ⟨b__1,0,none⟩)]] 143::.box b__1 [.slice f__People_p f_.People.length f__People_c,.slice f__Stations_p f_.Stations.length f__Stations_c] 78::Lf) w) := by
 unfold slices_IndexFunc_Lint_int_s2 at hF
 refine fnIn (args := [.slice s__p s_.length s__c,.func (.func 157) #[] #[.pointer (some ⟨b_,0,none⟩)]]) Tryz.func97 rfl Tryz.ntmps97 rfl fun a hf => wp_seq_k fun K1 h1 => cReg ?_
 refine stP hf rfl rfl rfl (pA rfl) fun a hf => cNil ?_
 refine h1 _ _ ?_
 refine wp_seq_k fun K2 h2 => wp_seq_k fun K3 h3 => cReg ?_
 refine stP hf rfl rfl rfl (pM rfl) fun a hf => stP hf rfl rfl rfl (pLenS Tryz.underlying25 rfl) fun a hf => stP hf rfl rfl rfl (pM rfl) fun a hf => cNil ?_
 refine h3 _ _ ?_
 refine wp_block ?_
 obtain ⟨x4,hx4,hF⟩ := bnd_some hF
 let S4 : Int → Act → World → Prop := (fun (zz : Int) a w => Has 19 a [(0,.slice s__p s_.length s__c),(1,.func (.func 157) #[] #[.pointer (some ⟨b_,0,none⟩)]),(7,.int .i64 ((s_.length : Nat) : Int)),(8,.int .i64 zz)] ∧ Ctx G (.box b_ [.func (.func 121) #[] #[.pointer (some ⟨b__1,0,none⟩)]] 143::.box b__1 [.slice f__People_p f_.People.length f__People_c,.slice f__Stations_p f_.Stations.length f__Stations_c] 78::Lf) w)
 have hr4 : ∀ (zz : Int) a w,x4 = .go zz → S4 zz a w → K2 a w := by
  rintro x a w rfl ⟨hf,hc⟩
  replace hF := exK_go hF
  refine h2 _ _ ?_
  refine wp_seq_k fun K5 h5 => cReg ?_
  refine stP hf rfl rfl rfl (pA rfl) fun a hf => cNil ?_
  refine h5 _ _ ?_
  refine wp_ret ?_
  obtain rfl := Option.some.inj hF
  exact fnOut1 (by simp) rfl Tryz.results97 hf hc (show look _ 4 = _ from rfl) ⟨rfl,hc⟩
 have ho4 : ∀ r,x4 = .out r → r = res := by
  rintro r rfl
  exact Option.some.inj hF
 refine cLoop N (loopW (S := S4) (x := x4) ?_ N 0 _ _ ⟨hf.keep ⟨rfl,rfl,rfl,rfl,trivial⟩,hc⟩ hx4)
 clear hF hf hc
 rintro x st4 a w KB4 ⟨hf,hc⟩ hF hfin4 hK4
 unfold slices_IndexFunc_Lint_int_s2_b4 at hF
 refine wp_seq_k fun K6 h6 => cReg ?_
 refine stP hf rfl rfl rfl (pLt rfl rfl) fun a hf => cNil ?_
 refine h6 _ _ ?_
 refine wp_seq_k fun K7 h7 => cCond (b := (decide (x < ((s_.length : Nat) : Int)))) hf rfl (fun hb => ?_) (fun hb => ?_)
 ·replace hF := condT hb hF
  clear hb
  refine wp_skip ?_
  refine h7 _ _ ?_
  refine wp_seq_k fun K8 h8 => wp_block ?_
  refine wp_seq_k fun K9 h9 => cReg ?_
  refine stP hf rfl rfl rfl (pM rfl) fun a hf => stP hf rfl rfl rfl (pA rfl) fun a hf => cNil ?_
  refine h9 _ _ ?_
  refine wp_seq_k fun K10 h10 => cReg ?_
  refine stP hf rfl rfl rfl (pM rfl) fun a hf => stP hf rfl rfl rfl (pM rfl) fun a hf => stP hf rfl rfl rfl (pM rfl) fun a hf => ?_
  obtain ⟨e_1,he_1,hF⟩ := bnd_some hF
  obtain ⟨b_1,o,qa,qp⟩ := h_s_.atm he_1
  refine stP hf rfl rfl rfl (pIA Tryz.underlying25 sz_3 rfl rfl qa) fun a hf => stE hf hc rfl rfl rfl (eLd1 sc_3 rfl (cell_pc (j := 0) qp rfl)) fun a w hf hc => stE hf hc rfl rfl rfl (eC (v := .bool (crew_every_int_1_s2 e_1 f_)) (vs := [.int .i64 e_1]) (caps := [.pointer (some ⟨b_,0,none⟩)]) en_157 rfl rfl rfl rfl (fun w hc => (crew_every_int_1_s2_ok e_1 f_ h_f__People h_f__Stations ((hc.pick k1).pick k1) rfl).mono fun e w h => ⟨h.1,((h.2.unpick k1).unpick k1)⟩)) fun a w hf hc => cNil ?_
  refine h10 _ _ ?_
  refine cCond (b := (crew_every_int_1_s2 e_1 f_)) hf rfl (fun hb => ?_) (fun hb => ?_)
  ·replace hF := condT hb hF
   clear hb
   refine wp_seq_k fun K11 h11 => cReg ?_
   refine stP hf rfl rfl rfl (pM rfl) fun a hf => stP hf rfl rfl rfl (pA rfl) fun a hf => cNil ?_
   refine h11 _ _ ?_
   refine wp_ret ?_
   refine xBlkR ?_
   refine xThenR ?_
   refine xThenR ?_
   have he := Option.some.inj hF
   rw [← he] at hfin4
   replace hF := ho4 _ hfin4
   refine xBlkR ?_
   refine xThenR ?_
   obtain rfl := hF
   exact fnOut1 (by simp) rfl Tryz.results97 hf hc (show look _ 4 = _ from rfl) ⟨rfl,hc⟩
  ·replace hF := condF hb hF
   clear hb
   refine wp_skip ?_
   refine h8 _ _ ?_
   refine cReg ?_
   refine stP hf rfl rfl rfl (pAdd rfl rfl) fun a hf => stP hf rfl rfl rfl (pM rfl) fun a hf => cNil ?_
   exact hK4 (W (x + 1)) _ _ (Option.some.inj hF).symm ⟨hf.keep ⟨rfl,rfl,rfl,rfl,trivial⟩,hc⟩
 ·replace hF := condF hb hF
  clear hb
  refine wp_exit ?_
  refine xThen ?_
  refine xThen ?_
  have he := Option.some.inj hF
  rw [← he] at hfin4
  refine cHit ?_
  exact hr4 _ _ _ hfin4 ⟨hf.keep ⟨rfl,rfl,rfl,rfl,trivial⟩,hc⟩

def slices_ContainsFunc_Lint_int_s2 (N : Nat) (s_ : List Int) (f_ : crew_Roster) : Option (Bool) :=
 Option.bind (slices_IndexFunc_Lint_int_s2 N s_ f_) fun r =>
 some (decide (0 ≤ r))
theorem slices_ContainsFunc_Lint_int_s2_ok {N : Nat} {G : Pers} {Lf : List Ent} {w : World} (s_ : List Int) (f_ : crew_Roster) {s__p : Option Addr} {s__c : Nat} {b_ : Nat} {b__1 : Nat} {f__People_p : Option Addr} {f__People_c : Nat} {f__Stations_p : Option Addr} {f__Stations_c : Nat} (h_s_ : Rd G 1 s__p s__c (s_.map encI_i64)) (h_f__People : RdT kd_25 G 1 f__People_p f__People_c f_.People) (h_f__Stations : RdT kd_101 G 2 f__Stations_p f__Stations_c f_.Stations) (hc : Ctx G (.box b_ [.func (.func 121) #[] #[.pointer (some ⟨b__1,0,none⟩)]] 143::.box b__1 [.slice f__People_p f_.People.length f__People_c,.slice f__Stations_p f_.Stations.length f__Stations_c] 78::Lf) w) {res : Bool} (hF : slices_ContainsFunc_Lint_int_s2 N s_ f_ = some res) : Calls Tryz.prog 113 #[.slice s__p s_.length s__c,.func (.func 157) #[] #[.pointer (some ⟨b_,0,none⟩)]] w (fun e w => e = .returned (.bool res) ∧ Ctx G (.box b_ [.func (.func 121) #[] #[.pointer (some ⟨b__1,0,none⟩)]] 143::.box b__1 [.slice f__People_p f_.People.length f__People_c,.slice f__Stations_p f_.Stations.length f__Stations_c] 78::Lf) w) := by
 unfold slices_ContainsFunc_Lint_int_s2 at hF
 refine fnIn (args := [.slice s__p s_.length s__c,.func (.func 157) #[] #[.pointer (some ⟨b_,0,none⟩)]]) Tryz.func113 rfl Tryz.ntmps113 rfl fun a hf => wp_seq_k fun K1 h1 => cReg ?_
 refine stP hf rfl rfl rfl (pA rfl) fun a hf => cNil ?_
 refine h1 _ _ ?_
 refine wp_seq_k fun K2 h2 => cReg ?_
 refine stP hf rfl rfl rfl (pM rfl) fun a hf => stP hf rfl rfl rfl (pM rfl) fun a hf => ?_
 obtain ⟨r,hr,hF⟩ := bnd_some hF
 refine stE hf hc rfl rfl rfl (eC (v := .int .i64 r) (vs := [.slice s__p s_.length s__c,.func (.func 157) #[] #[.pointer (some ⟨b_,0,none⟩)]]) (caps := []) en_97 rfl rfl rfl rfl (fun w hc => (slices_IndexFunc_Lint_int_s2_ok s_ f_ h_s_ h_f__People h_f__Stations ((hc.pick k1).pick k1) hr).mono fun e w h => ⟨h.1,((h.2.unpick k1).unpick k1)⟩)) fun a w hf hc => stP hf rfl rfl rfl (pGe rfl rfl) fun a hf => stP hf rfl rfl rfl (pA rfl) fun a hf => cNil ?_
 refine h2 _ _ ?_
 refine wp_ret ?_
 obtain rfl := Option.some.inj hF
 exact fnOut1 (by simp) rfl Tryz.results113 hf hc (show look _ 4 = _ from rfl) ⟨rfl,hc⟩

def crew_every_int_s2 (N : Nat) (l : List Int) (so : crew_Roster) : Option (Bool) :=
 Option.bind (slices_ContainsFunc_Lint_int_s2 N l so) fun r =>
 some (!r)
theorem crew_every_int_s2_ok {N : Nat} {G : Pers} {Lf : List Ent} {w : World} (l : List Int) (so : crew_Roster) {l_p : Option Addr} {l_c : Nat} {b_ : Nat} {so_People_p : Option Addr} {so_People_c : Nat} {so_Stations_p : Option Addr} {so_Stations_c : Nat} (h_l : Rd G 1 l_p l_c (l.map encI_i64)) (h_so_People : RdT kd_25 G 1 so_People_p so_People_c so.People) (h_so_Stations : RdT kd_101 G 2 so_Stations_p so_Stations_c so.Stations) (hc : Ctx G (.box b_ [.slice so_People_p so.People.length so_People_c,.slice so_Stations_p so.Stations.length so_Stations_c] 78::Lf) w) {res : Bool} (hF : crew_every_int_s2 N l so = some res) : Calls Tryz.prog 87 #[.slice l_p l.length l_c,.func (.func 121) #[] #[.pointer (some ⟨b_,0,none⟩)]] w (fun e w => e = .returned (.bool res) ∧ Ctx G (.box b_ [.slice so_People_p so.People.length so_People_c,.slice so_Stations_p so.Stations.length so_Stations_c] 78::Lf) w) := by
 unfold crew_every_int_s2 at hF
 refine fnIn (args := [.slice l_p l.length l_c,.func (.func 121) #[] #[.pointer (some ⟨b_,0,none⟩)]]) Tryz.func87 rfl Tryz.ntmps87 rfl fun a hf => wp_seq_k fun K1 h1 => cReg ?_
 refine stBx (cs := [.func (.func 121) #[] #[.pointer (some ⟨b_,0,none⟩)]]) hf hc rfl rfl rfl rfl fun b_1 a w hf hc => stP hf rfl rfl rfl (pA rfl) fun a hf => cNil ?_
 refine h1 _ _ ?_
 refine wp_seq_k fun K2 h2 => cReg ?_
 refine stP hf rfl rfl rfl (pM rfl) fun a hf => stP hf rfl rfl rfl (pMF (us := [.pointer (some ⟨b_1,0,none⟩)]) rfl rfl) fun a hf => ?_
 obtain ⟨r,hr,hF⟩ := bnd_some hF
 refine stE hf hc rfl rfl rfl (eC (v := .bool r) (vs := [.slice l_p l.length l_c,.func (.func 157) #[] #[.pointer (some ⟨b_1,0,none⟩)]]) (caps := []) en_113 rfl rfl rfl rfl (fun w hc => (slices_ContainsFunc_Lint_int_s2_ok l so h_l h_so_People h_so_Stations ((hc.pick k1).pick k1) hr).mono fun e w h => ⟨h.1,((h.2.unpick k1).unpick k1)⟩)) fun a w hf hc => stP hf rfl rfl rfl (pNot rfl) fun a hf => stP hf rfl rfl rfl (pA rfl) fun a hf => cNil ?_
 refine h2 _ _ ?_
 refine wp_ret ?_
 obtain rfl := Option.some.inj hF
 replace hc := hc.drop k0
 exact fnOut1 (by simp) rfl Tryz.results87 hf hc (show look _ 4 = _ from rfl) ⟨rfl,hc⟩

def crew_Check_2 (N : Nat) (s_ : crew_Station) (x : crew_Roster) : Option (Bool) :=
 Option.bind (cond (crew_in s_.Places 1 12) (Option.bind (crew_every_int_s2 N s_.Order (⟨x.People,x.Stations⟩ : crew_Roster)) fun r =>
 some r) (some false)) fun t_1 =>
 some t_1
theorem crew_Check_2_ok {N : Nat} {G : Pers} {Lf : List Ent} {w : World} (s_ : crew_Station) (x : crew_Roster) {s__Order_p : Option Addr} {s__Order_c : Nat} {b_ : Nat} {x_People_p : Option Addr} {x_People_c : Nat} {x_Stations_p : Option Addr} {x_Stations_c : Nat} (h_s__Order : Rd G 1 s__Order_p s__Order_c (s_.Order.map encI_i64)) (h_x_People : RdT kd_25 G 1 x_People_p x_People_c x.People) (h_x_Stations : RdT kd_101 G 2 x_Stations_p x_Stations_c x.Stations) (hc : Ctx G (.box b_ [.slice x_People_p x.People.length x_People_c,.slice x_Stations_p x.Stations.length x_Stations_c] 78::Lf) w) {res : Bool} (hF : crew_Check_2 N s_ x = some res) : Calls Tryz.prog 120 #[.agg #[.int .i64 s_.Places,.slice s__Order_p s_.Order.length s__Order_c],.pointer (some ⟨b_,0,none⟩)] w (fun e w => e = .returned (.bool res) ∧ Ctx G (.box b_ [.slice x_People_p x.People.length x_People_c,.slice x_Stations_p x.Stations.length x_Stations_c] 78::Lf) w) := by
 unfold crew_Check_2 at hF
 refine fnIn (args := [.agg #[.int .i64 s_.Places,.slice s__Order_p s_.Order.length s__Order_c],.pointer (some ⟨b_,0,none⟩)]) Tryz.func120 rfl Tryz.ntmps120 rfl fun a hf => wp_seq_k fun K1 h1 => cReg ?_
 refine stBx (cs := [.int .i64 s_.Places,.slice s__Order_p s_.Order.length s__Order_c]) hf hc rfl rfl rfl rfl fun b_1 a w hf hc => stP hf rfl rfl rfl (pA rfl) fun a hf => cNil ?_
 refine h1 _ _ ?_
 refine wp_seq_k fun K2 h2 => cReg ?_
 refine stP hf rfl rfl rfl (pFA fa_101_0 rfl) fun a hf => stE hf hc rfl rfl rfl (eLd1 sc_3 rfl (cell_box m0 rfl)) fun a w hf hc => stE hf hc rfl rfl rfl (eC (v := .bool (crew_in s_.Places 1 12)) (vs := [.int .i64 s_.Places,.int .i64 1,.int .i64 12]) (caps := []) en_86 rfl rfl rfl rfl (fun w hc => crew_in_ok s_.Places 1 12 hc rfl)) fun a w hf hc => stP hf rfl rfl rfl (pM rfl) fun a hf => ?_
 obtain ⟨t_1,ht_1,hF⟩ := bnd_some hF
 refine stCut 5 (fun a w => Has 13 a [(1,.pointer (some ⟨b_,0,none⟩)),(2,.pointer (some ⟨b_1,0,none⟩)),(3,.bool false),(4,.pointer (some ⟨b_1,0,none⟩)),(5,.int .i64 s_.Places),(6,.bool (crew_in s_.Places 1 12)),(7,.bool (crew_in s_.Places 1 12)),(12,.bool t_1)] ∧ Ctx G (.box b_1 [.int .i64 s_.Places,.slice s__Order_p s_.Order.length s__Order_c] 101::.box b_ [.slice x_People_p x.People.length x_People_c,.slice x_Stations_p x.Stations.length x_Stations_c] 78::Lf) w) ?_ ?_
 ·cases hb : (crew_in s_.Places 1 12)
  ·rw [hb] at hf
   have hF := condF hb ht_1
   obtain rfl := Option.some.inj hF
   refine stS hf rfl rfl rfl fun a hf => stS hf rfl rfl rfl fun a hf => stS hf rfl rfl rfl fun a hf => stS hf rfl rfl rfl fun a hf => stP hf rfl rfl rfl (pPf rfl rfl) fun a hf => cNil ⟨hf.keep ⟨rfl,rfl,rfl,rfl,rfl,rfl,rfl,rfl,trivial⟩,hc⟩
  ·rw [hb] at hf
   have hF := condT hb ht_1
   refine stP hf rfl rfl rfl (pFA fa_101_1 rfl) fun a hf => stE hf hc rfl rfl rfl (eLd1 sc_25 rfl (cell_box m0 rfl)) fun a w hf hc => stP hf rfl rfl rfl (pMF (us := [.pointer (some ⟨b_,0,none⟩)]) rfl rfl) fun a hf => ?_
   obtain ⟨r,hr,hF⟩ := bnd_some hF
   refine stE hf hc rfl rfl rfl (eC (v := .bool r) (vs := [.slice s__Order_p s_.Order.length s__Order_c,.func (.func 121) #[] #[.pointer (some ⟨b_,0,none⟩)]]) (caps := []) en_87 rfl rfl rfl rfl (fun w hc => (crew_every_int_s2_ok s_.Order (⟨x.People,x.Stations⟩ : crew_Roster) h_s__Order h_x_People h_x_Stations (hc.pick k1) hr).mono fun e w h => ⟨h.1,(h.2.unpick k1)⟩)) fun a w hf hc => stP hf rfl rfl rfl (pPt rfl rfl) fun a hf => ?_
   obtain rfl := Option.some.inj hF
   exact cNil ⟨hf.keep ⟨rfl,rfl,rfl,rfl,rfl,rfl,rfl,rfl,trivial⟩,hc⟩
 intro a w ⟨hf,hc⟩
 refine stP hf rfl rfl rfl (pA rfl) fun a hf => cNil ?_
 refine h2 _ _ ?_
 refine wp_ret ?_
 obtain rfl := Option.some.inj hF
 replace hc := hc.drop k0
 exact fnOut1 (by simp) rfl Tryz.results120 hf hc (show look _ 3 = _ from rfl) ⟨rfl,hc⟩

def crew_every_crew_Station_1 (N : Nat) (x : crew_Station) (x_1 : crew_Roster) : Option (Bool) :=
 Option.bind (crew_Check_2 N x x_1) fun r =>
 some (!r)
theorem crew_every_crew_Station_1_ok {N : Nat} {G : Pers} {Lf : List Ent} {w : World} (x : crew_Station) (x_1 : crew_Roster) {x_Order_p : Option Addr} {x_Order_c : Nat} {b_ : Nat} {b__1 : Nat} {x_1_People_p : Option Addr} {x_1_People_c : Nat} {x_1_Stations_p : Option Addr} {x_1_Stations_c : Nat} (h_x_Order : Rd G 1 x_Order_p x_Order_c (x.Order.map encI_i64)) (h_x_1_People : RdT kd_25 G 1 x_1_People_p x_1_People_c x_1.People) (h_x_1_Stations : RdT kd_101 G 2 x_1_Stations_p x_1_Stations_c x_1.Stations) (hc : Ctx G (.box b_ [.func (.func 120) #[] #[.pointer (some ⟨b__1,0,none⟩)]] 187::.box b__1 [.slice x_1_People_p x_1.People.length x_1_People_c,.slice x_1_Stations_p x_1.Stations.length x_1_Stations_c] 78::Lf) w) {res : Bool} (hF : crew_every_crew_Station_1 N x x_1 = some res) : Calls Tryz.prog 171 #[.agg #[.int .i64 x.Places,.slice x_Order_p x.Order.length x_Order_c],.pointer (some ⟨b_,0,none⟩)] w (fun e w => e = .returned (.bool res) ∧ Ctx G (.box b_ [.func (.func 120) #[] #[.pointer (some ⟨b__1,0,none⟩)]] 187::.box b__1 [.slice x_1_People_p x_1.People.length x_1_People_c,.slice x_1_Stations_p x_1.Stations.length x_1_Stations_c] 78::Lf) w) := by
 unfold crew_every_crew_Station_1 at hF
 refine fnIn (args := [.agg #[.int .i64 x.Places,.slice x_Order_p x.Order.length x_Order_c],.pointer (some ⟨b_,0,none⟩)]) Tryz.func171 rfl Tryz.ntmps171 rfl fun a hf => wp_seq_k fun K1 h1 => cReg ?_
 refine stBx (cs := [.int .i64 x.Places,.slice x_Order_p x.Order.length x_Order_c]) hf hc rfl rfl rfl rfl fun b_1 a w hf hc => stP hf rfl rfl rfl (pA rfl) fun a hf => cNil ?_
 refine h1 _ _ ?_
 refine wp_seq_k fun K2 h2 => cReg ?_
 refine stE hf hc rfl rfl rfl (eLd1 sc_187 rfl (cell_box m1 rfl)) fun a w hf hc => stE hf hc rfl rfl rfl (eLdN (vs := [.int .i64 x.Places,.slice x_Order_p x.Order.length x_Order_c]) ag_101 rfl rfl (cells_box (n := 2) m0 rfl)) fun a w hf hc => ?_
 obtain ⟨r,hr,hF⟩ := bnd_some hF
 refine stE hf hc rfl rfl rfl (eC (v := .bool r) (vs := [.agg #[.int .i64 x.Places,.slice x_Order_p x.Order.length x_Order_c]]) (caps := [.pointer (some ⟨b__1,0,none⟩)]) en_120 rfl rfl rfl rfl (fun w hc => (crew_Check_2_ok x x_1 h_x_Order h_x_1_People h_x_1_Stations (hc.pick k2) hr).mono fun e w h => ⟨h.1,(h.2.unpick k2)⟩)) fun a w hf hc => stP hf rfl rfl rfl (pNot rfl) fun a hf => stP hf rfl rfl rfl (pA rfl) fun a hf => cNil ?_
 refine h2 _ _ ?_
 refine wp_ret ?_
 obtain rfl := Option.some.inj hF
 replace hc := hc.drop k0
 exact fnOut1 (by simp) rfl Tryz.results171 hf hc (show look _ 3 = _ from rfl) ⟨rfl,hc⟩

def slices_IndexFunc_Lcrew_Station_crew_Station_b4 (N : Nat) (s_ : List crew_Station) (f_ : crew_Roster) (x : Int) : Option (Step (Int) (Int)) :=
 cond (decide (x < ((s_.length : Nat) : Int)))
 (Option.bind (getI s_ x) fun e_1 =>
 Option.bind (crew_every_crew_Station_1 N e_1 f_) fun r =>
 cond r
 (some (.ret x))
 (some (.cont (W (x + 1)))))
 (some (.brk x))
def slices_IndexFunc_Lcrew_Station_crew_Station (N : Nat) (s_ : List crew_Station) (f_ : crew_Roster) : Option (Int) :=
 Option.bind (loopO (fun s4 => slices_IndexFunc_Lcrew_Station_crew_Station_b4 N s_ f_ s4) N 0) fun x4 =>
 exK x4 (fun s4 => some (-1)) some
theorem slices_IndexFunc_Lcrew_Station_crew_Station_ok {N : Nat} {G : Pers} {Lf : List Ent} {w : World} (s_ : List crew_Station) (f_ : crew_Roster) {s__p : Option Addr} {s__c : Nat} {b_ : Nat} {b__1 : Nat} {f__People_p : Option Addr} {f__People_c : Nat} {f__Stations_p : Option Addr} {f__Stations_c : Nat} (h_s_ : RdT kd_101 G 2 s__p s__c s_) (h_f__People : RdT kd_25 G 1 f__People_p f__People_c f_.People) (h_f__Stations : RdT kd_101 G 2 f__Stations_p f__Stations_c f_.Stations) (hc : Ctx G (.box b_ [.func (.func 120) #[] #[.pointer (some ⟨b__1,0,none⟩)]] 187::.box b__1 [.slice f__People_p f_.People.length f__People_c,.slice f__Stations_p f_.Stations.length f__Stations_c] 78::Lf) w) {res : Int} (hF : slices_IndexFunc_Lcrew_Station_crew_Station N s_ f_ = some res) : Calls Tryz.prog 192 #[.slice s__p s_.length s__c,.func (.func 171) #[] #[.pointer (some ⟨b_,0,none⟩)]] w (fun e w => e = .returned (.int .i64 res) ∧ Ctx G (.box b_ [.func (.func 120) #[] #[.pointer (some ⟨b__1,0,none⟩)]] 187::.box b__1 [.slice f__People_p f_.People.length f__People_c,.slice f__Stations_p f_.Stations.length f__Stations_c] 78::Lf) w) := by
 unfold slices_IndexFunc_Lcrew_Station_crew_Station at hF
 refine fnIn (args := [.slice s__p s_.length s__c,.func (.func 171) #[] #[.pointer (some ⟨b_,0,none⟩)]]) Tryz.func192 rfl Tryz.ntmps192 rfl fun a hf => wp_seq_k fun K1 h1 => cReg ?_
 refine stP hf rfl rfl rfl (pA rfl) fun a hf => cNil ?_
 refine h1 _ _ ?_
 refine wp_seq_k fun K2 h2 => wp_seq_k fun K3 h3 => cReg ?_
 refine stP hf rfl rfl rfl (pM rfl) fun a hf => stP hf rfl rfl rfl (pLenS Tryz.underlying76 rfl) fun a hf => stP hf rfl rfl rfl (pM rfl) fun a hf => cNil ?_
 refine h3 _ _ ?_
 refine wp_block ?_
 obtain ⟨x4,hx4,hF⟩ := bnd_some hF
 let S4 : Int → Act → World → Prop := (fun (zz : Int) a w => Has 19 a [(0,.slice s__p s_.length s__c),(1,.func (.func 171) #[] #[.pointer (some ⟨b_,0,none⟩)]),(7,.int .i64 ((s_.length : Nat) : Int)),(8,.int .i64 zz)] ∧ Ctx G (.box b_ [.func (.func 120) #[] #[.pointer (some ⟨b__1,0,none⟩)]] 187::.box b__1 [.slice f__People_p f_.People.length f__People_c,.slice f__Stations_p f_.Stations.length f__Stations_c] 78::Lf) w)
 have hr4 : ∀ (zz : Int) a w,x4 = .go zz → S4 zz a w → K2 a w := by
  rintro x a w rfl ⟨hf,hc⟩
  replace hF := exK_go hF
  refine h2 _ _ ?_
  refine wp_seq_k fun K5 h5 => cReg ?_
  refine stP hf rfl rfl rfl (pA rfl) fun a hf => cNil ?_
  refine h5 _ _ ?_
  refine wp_ret ?_
  obtain rfl := Option.some.inj hF
  exact fnOut1 (by simp) rfl Tryz.results192 hf hc (show look _ 4 = _ from rfl) ⟨rfl,hc⟩
 have ho4 : ∀ r,x4 = .out r → r = res := by
  rintro r rfl
  exact Option.some.inj hF
 refine cLoop N (loopW (S := S4) (x := x4) ?_ N 0 _ _ ⟨hf.keep ⟨rfl,rfl,rfl,rfl,trivial⟩,hc⟩ hx4)
 clear hF hf hc
 rintro x st4 a w KB4 ⟨hf,hc⟩ hF hfin4 hK4
 unfold slices_IndexFunc_Lcrew_Station_crew_Station_b4 at hF
 refine wp_seq_k fun K6 h6 => cReg ?_
 refine stP hf rfl rfl rfl (pLt rfl rfl) fun a hf => cNil ?_
 refine h6 _ _ ?_
 refine wp_seq_k fun K7 h7 => cCond (b := (decide (x < ((s_.length : Nat) : Int)))) hf rfl (fun hb => ?_) (fun hb => ?_)
 ·replace hF := condT hb hF
  clear hb
  refine wp_skip ?_
  refine h7 _ _ ?_
  refine wp_seq_k fun K8 h8 => wp_block ?_
  refine wp_seq_k fun K9 h9 => cReg ?_
  refine stP hf rfl rfl rfl (pM rfl) fun a hf => stP hf rfl rfl rfl (pA rfl) fun a hf => cNil ?_
  refine h9 _ _ ?_
  refine wp_seq_k fun K10 h10 => cReg ?_
  refine stP hf rfl rfl rfl (pM rfl) fun a hf => stP hf rfl rfl rfl (pM rfl) fun a hf => stP hf rfl rfl rfl (pM rfl) fun a hf => ?_
  obtain ⟨e_1,he_1,hF⟩ := bnd_some hF
  obtain ⟨b_1,o,hd,qa,qp,qr⟩ := h_s_.atm he_1
  refine stP hf rfl rfl rfl (pIA Tryz.underlying76 sz_101 rfl rfl qa) fun a hf => stE hf hc rfl rfl rfl (eLdN (vs := [.int .i64 e_1.Places,.slice hd.1 e_1.Order.length hd.2]) ag_101 rfl rfl (cells_pc qp (n := 2) (o' := 0) rfl)) fun a w hf hc => ?_
  obtain ⟨r,hr,hF⟩ := bnd_some hF
  refine stE hf hc rfl rfl rfl (eC (v := .bool r) (vs := [.agg #[.int .i64 e_1.Places,.slice hd.1 e_1.Order.length hd.2]]) (caps := [.pointer (some ⟨b_,0,none⟩)]) en_171 rfl rfl rfl rfl (fun w hc => (crew_every_crew_Station_1_ok e_1 f_ qr h_f__People h_f__Stations ((hc.pick k1).pick k1) hr).mono fun e w h => ⟨h.1,((h.2.unpick k1).unpick k1)⟩)) fun a w hf hc => cNil ?_
  refine h10 _ _ ?_
  refine cCond (b := r) hf rfl (fun hb => ?_) (fun hb => ?_)
  ·replace hF := condT hb hF
   clear hb
   refine wp_seq_k fun K11 h11 => cReg ?_
   refine stP hf rfl rfl rfl (pM rfl) fun a hf => stP hf rfl rfl rfl (pA rfl) fun a hf => cNil ?_
   refine h11 _ _ ?_
   refine wp_ret ?_
   refine xBlkR ?_
   refine xThenR ?_
   refine xThenR ?_
   have he := Option.some.inj hF
   rw [← he] at hfin4
   replace hF := ho4 _ hfin4
   refine xBlkR ?_
   refine xThenR ?_
   obtain rfl := hF
   exact fnOut1 (by simp) rfl Tryz.results192 hf hc (show look _ 4 = _ from rfl) ⟨rfl,hc⟩
  ·replace hF := condF hb hF
   clear hb
   refine wp_skip ?_
   refine h8 _ _ ?_
   refine cReg ?_
   refine stP hf rfl rfl rfl (pAdd rfl rfl) fun a hf => stP hf rfl rfl rfl (pM rfl) fun a hf => cNil ?_
   exact hK4 (W (x + 1)) _ _ (Option.some.inj hF).symm ⟨hf.keep ⟨rfl,rfl,rfl,rfl,trivial⟩,hc⟩
 ·replace hF := condF hb hF
  clear hb
  refine wp_exit ?_
  refine xThen ?_
  refine xThen ?_
  have he := Option.some.inj hF
  rw [← he] at hfin4
  refine cHit ?_
  exact hr4 _ _ _ hfin4 ⟨hf.keep ⟨rfl,rfl,rfl,rfl,trivial⟩,hc⟩

def slices_ContainsFunc_Lcrew_Station_crew_Station (N : Nat) (s_ : List crew_Station) (f_ : crew_Roster) : Option (Bool) :=
 Option.bind (slices_IndexFunc_Lcrew_Station_crew_Station N s_ f_) fun r =>
 some (decide (0 ≤ r))
theorem slices_ContainsFunc_Lcrew_Station_crew_Station_ok {N : Nat} {G : Pers} {Lf : List Ent} {w : World} (s_ : List crew_Station) (f_ : crew_Roster) {s__p : Option Addr} {s__c : Nat} {b_ : Nat} {b__1 : Nat} {f__People_p : Option Addr} {f__People_c : Nat} {f__Stations_p : Option Addr} {f__Stations_c : Nat} (h_s_ : RdT kd_101 G 2 s__p s__c s_) (h_f__People : RdT kd_25 G 1 f__People_p f__People_c f_.People) (h_f__Stations : RdT kd_101 G 2 f__Stations_p f__Stations_c f_.Stations) (hc : Ctx G (.box b_ [.func (.func 120) #[] #[.pointer (some ⟨b__1,0,none⟩)]] 187::.box b__1 [.slice f__People_p f_.People.length f__People_c,.slice f__Stations_p f_.Stations.length f__Stations_c] 78::Lf) w) {res : Bool} (hF : slices_ContainsFunc_Lcrew_Station_crew_Station N s_ f_ = some res) : Calls Tryz.prog 170 #[.slice s__p s_.length s__c,.func (.func 171) #[] #[.pointer (some ⟨b_,0,none⟩)]] w (fun e w => e = .returned (.bool res) ∧ Ctx G (.box b_ [.func (.func 120) #[] #[.pointer (some ⟨b__1,0,none⟩)]] 187::.box b__1 [.slice f__People_p f_.People.length f__People_c,.slice f__Stations_p f_.Stations.length f__Stations_c] 78::Lf) w) := by
 unfold slices_ContainsFunc_Lcrew_Station_crew_Station at hF
 refine fnIn (args := [.slice s__p s_.length s__c,.func (.func 171) #[] #[.pointer (some ⟨b_,0,none⟩)]]) Tryz.func170 rfl Tryz.ntmps170 rfl fun a hf => wp_seq_k fun K1 h1 => cReg ?_
 refine stP hf rfl rfl rfl (pA rfl) fun a hf => cNil ?_
 refine h1 _ _ ?_
 refine wp_seq_k fun K2 h2 => cReg ?_
 refine stP hf rfl rfl rfl (pM rfl) fun a hf => stP hf rfl rfl rfl (pM rfl) fun a hf => ?_
 obtain ⟨r,hr,hF⟩ := bnd_some hF
 refine stE hf hc rfl rfl rfl (eC (v := .int .i64 r) (vs := [.slice s__p s_.length s__c,.func (.func 171) #[] #[.pointer (some ⟨b_,0,none⟩)]]) (caps := []) en_192 rfl rfl rfl rfl (fun w hc => (slices_IndexFunc_Lcrew_Station_crew_Station_ok s_ f_ h_s_ h_f__People h_f__Stations ((hc.pick k1).pick k1) hr).mono fun e w h => ⟨h.1,((h.2.unpick k1).unpick k1)⟩)) fun a w hf hc => stP hf rfl rfl rfl (pGe rfl rfl) fun a hf => stP hf rfl rfl rfl (pA rfl) fun a hf => cNil ?_
 refine h2 _ _ ?_
 refine wp_ret ?_
 obtain rfl := Option.some.inj hF
 exact fnOut1 (by simp) rfl Tryz.results170 hf hc (show look _ 4 = _ from rfl) ⟨rfl,hc⟩

def crew_every_crew_Station (N : Nat) (l : List crew_Station) (so : crew_Roster) : Option (Bool) :=
 Option.bind (slices_ContainsFunc_Lcrew_Station_crew_Station N l so) fun r =>
 some (!r)
theorem crew_every_crew_Station_ok {N : Nat} {G : Pers} {Lf : List Ent} {w : World} (l : List crew_Station) (so : crew_Roster) {l_p : Option Addr} {l_c : Nat} {b_ : Nat} {so_People_p : Option Addr} {so_People_c : Nat} {so_Stations_p : Option Addr} {so_Stations_c : Nat} (h_l : RdT kd_101 G 2 l_p l_c l) (h_so_People : RdT kd_25 G 1 so_People_p so_People_c so.People) (h_so_Stations : RdT kd_101 G 2 so_Stations_p so_Stations_c so.Stations) (hc : Ctx G (.box b_ [.slice so_People_p so.People.length so_People_c,.slice so_Stations_p so.Stations.length so_Stations_c] 78::Lf) w) {res : Bool} (hF : crew_every_crew_Station N l so = some res) : Calls Tryz.prog 119 #[.slice l_p l.length l_c,.func (.func 120) #[] #[.pointer (some ⟨b_,0,none⟩)]] w (fun e w => e = .returned (.bool res) ∧ Ctx G (.box b_ [.slice so_People_p so.People.length so_People_c,.slice so_Stations_p so.Stations.length so_Stations_c] 78::Lf) w) := by
 unfold crew_every_crew_Station at hF
 refine fnIn (args := [.slice l_p l.length l_c,.func (.func 120) #[] #[.pointer (some ⟨b_,0,none⟩)]]) Tryz.func119 rfl Tryz.ntmps119 rfl fun a hf => wp_seq_k fun K1 h1 => cReg ?_
 refine stBx (cs := [.func (.func 120) #[] #[.pointer (some ⟨b_,0,none⟩)]]) hf hc rfl rfl rfl rfl fun b_1 a w hf hc => stP hf rfl rfl rfl (pA rfl) fun a hf => cNil ?_
 refine h1 _ _ ?_
 refine wp_seq_k fun K2 h2 => cReg ?_
 refine stP hf rfl rfl rfl (pM rfl) fun a hf => stP hf rfl rfl rfl (pMF (us := [.pointer (some ⟨b_1,0,none⟩)]) rfl rfl) fun a hf => ?_
 obtain ⟨r,hr,hF⟩ := bnd_some hF
 refine stE hf hc rfl rfl rfl (eC (v := .bool r) (vs := [.slice l_p l.length l_c,.func (.func 171) #[] #[.pointer (some ⟨b_1,0,none⟩)]]) (caps := []) en_170 rfl rfl rfl rfl (fun w hc => (slices_ContainsFunc_Lcrew_Station_crew_Station_ok l so h_l h_so_People h_so_Stations ((hc.pick k1).pick k1) hr).mono fun e w h => ⟨h.1,((h.2.unpick k1).unpick k1)⟩)) fun a w hf hc => stP hf rfl rfl rfl (pNot rfl) fun a hf => stP hf rfl rfl rfl (pA rfl) fun a hf => cNil ?_
 refine h2 _ _ ?_
 refine wp_ret ?_
 obtain rfl := Option.some.inj hF
 replace hc := hc.drop k0
 exact fnOut1 (by simp) rfl Tryz.results119 hf hc (show look _ 4 = _ from rfl) ⟨rfl,hc⟩

def slices_Index_Lint_int_b4 (N : Nat) (s_ : List Int) (v : Int) (x : Int) : Option (Step (Int) (Int)) :=
 cond (decide (x < ((s_.length : Nat) : Int)))
 (Option.bind (getI s_ x) fun e_1 =>
 cond (v == e_1)
 (some (.ret x))
 (some (.cont (W (x + 1)))))
 (some (.brk x))
def slices_Index_Lint_int (N : Nat) (s_ : List Int) (v : Int) : Option (Int) :=
 Option.bind (loopO (fun s4 => slices_Index_Lint_int_b4 N s_ v s4) N 0) fun x4 =>
 exK x4 (fun s4 => some (-1)) some
theorem slices_Index_Lint_int_ok {N : Nat} {G : Pers} {Lf : List Ent} {w : World} (s_ : List Int) (v : Int) {s__p : Option Addr} {s__c : Nat} (h_s_ : Rd G 1 s__p s__c (s_.map encI_i64)) (hc : Ctx G (Lf) w) {res : Int} (hF : slices_Index_Lint_int N s_ v = some res) : Calls Tryz.prog 114 #[.slice s__p s_.length s__c,.int .i64 v] w (fun e w => e = .returned (.int .i64 res) ∧ Ctx G (Lf) w) := by
 unfold slices_Index_Lint_int at hF
 refine fnIn (args := [.slice s__p s_.length s__c,.int .i64 v]) Tryz.func114 rfl Tryz.ntmps114 rfl fun a hf => wp_seq_k fun K1 h1 => cReg ?_
 refine stP hf rfl rfl rfl (pA rfl) fun a hf => cNil ?_
 refine h1 _ _ ?_
 refine wp_seq_k fun K2 h2 => wp_seq_k fun K3 h3 => cReg ?_
 refine stP hf rfl rfl rfl (pM rfl) fun a hf => stP hf rfl rfl rfl (pLenS Tryz.underlying25 rfl) fun a hf => stP hf rfl rfl rfl (pM rfl) fun a hf => cNil ?_
 refine h3 _ _ ?_
 refine wp_block ?_
 obtain ⟨x4,hx4,hF⟩ := bnd_some hF
 let S4 : Int → Act → World → Prop := (fun (zz : Int) a w => Has 19 a [(0,.slice s__p s_.length s__c),(1,.int .i64 v),(7,.int .i64 ((s_.length : Nat) : Int)),(8,.int .i64 zz)] ∧ Ctx G (Lf) w)
 have hr4 : ∀ (zz : Int) a w,x4 = .go zz → S4 zz a w → K2 a w := by
  rintro x a w rfl ⟨hf,hc⟩
  replace hF := exK_go hF
  refine h2 _ _ ?_
  refine wp_seq_k fun K5 h5 => cReg ?_
  refine stP hf rfl rfl rfl (pA rfl) fun a hf => cNil ?_
  refine h5 _ _ ?_
  refine wp_ret ?_
  obtain rfl := Option.some.inj hF
  exact fnOut1 (by simp) rfl Tryz.results114 hf hc (show look _ 4 = _ from rfl) ⟨rfl,hc⟩
 have ho4 : ∀ r,x4 = .out r → r = res := by
  rintro r rfl
  exact Option.some.inj hF
 refine cLoop N (loopW (S := S4) (x := x4) ?_ N 0 _ _ ⟨hf.keep ⟨rfl,rfl,rfl,rfl,trivial⟩,hc⟩ hx4)
 clear hF hf hc
 rintro x st4 a w KB4 ⟨hf,hc⟩ hF hfin4 hK4
 unfold slices_Index_Lint_int_b4 at hF
 refine wp_seq_k fun K6 h6 => cReg ?_
 refine stP hf rfl rfl rfl (pLt rfl rfl) fun a hf => cNil ?_
 refine h6 _ _ ?_
 refine wp_seq_k fun K7 h7 => cCond (b := (decide (x < ((s_.length : Nat) : Int)))) hf rfl (fun hb => ?_) (fun hb => ?_)
 ·replace hF := condT hb hF
  clear hb
  refine wp_skip ?_
  refine h7 _ _ ?_
  refine wp_seq_k fun K8 h8 => wp_block ?_
  refine wp_seq_k fun K9 h9 => cReg ?_
  refine stP hf rfl rfl rfl (pM rfl) fun a hf => stP hf rfl rfl rfl (pA rfl) fun a hf => cNil ?_
  refine h9 _ _ ?_
  refine wp_seq_k fun K10 h10 => cReg ?_
  refine stP hf rfl rfl rfl (pM rfl) fun a hf => stP hf rfl rfl rfl (pM rfl) fun a hf => stP hf rfl rfl rfl (pM rfl) fun a hf => ?_
  obtain ⟨e_1,he_1,hF⟩ := bnd_some hF
  obtain ⟨b_1,o,qa,qp⟩ := h_s_.atm he_1
  refine stP hf rfl rfl rfl (pIA Tryz.underlying25 sz_3 rfl rfl qa) fun a hf => stE hf hc rfl rfl rfl (eLd1 sc_3 rfl (cell_pc (j := 0) qp rfl)) fun a w hf hc => stP hf rfl rfl rfl (pEq rfl rfl) fun a hf => cNil ?_
  refine h10 _ _ ?_
  refine cCond (b := (v == e_1)) hf rfl (fun hb => ?_) (fun hb => ?_)
  ·replace hF := condT hb hF
   clear hb
   refine wp_seq_k fun K11 h11 => cReg ?_
   refine stP hf rfl rfl rfl (pM rfl) fun a hf => stP hf rfl rfl rfl (pA rfl) fun a hf => cNil ?_
   refine h11 _ _ ?_
   refine wp_ret ?_
   refine xBlkR ?_
   refine xThenR ?_
   refine xThenR ?_
   have he := Option.some.inj hF
   rw [← he] at hfin4
   replace hF := ho4 _ hfin4
   refine xBlkR ?_
   refine xThenR ?_
   obtain rfl := hF
   exact fnOut1 (by simp) rfl Tryz.results114 hf hc (show look _ 4 = _ from rfl) ⟨rfl,hc⟩
  ·replace hF := condF hb hF
   clear hb
   refine wp_skip ?_
   refine h8 _ _ ?_
   refine cReg ?_
   refine stP hf rfl rfl rfl (pAdd rfl rfl) fun a hf => stP hf rfl rfl rfl (pM rfl) fun a hf => cNil ?_
   exact hK4 (W (x + 1)) _ _ (Option.some.inj hF).symm ⟨hf.keep ⟨rfl,rfl,rfl,rfl,trivial⟩,hc⟩
 ·replace hF := condF hb hF
  clear hb
  refine wp_exit ?_
  refine xThen ?_
  refine xThen ?_
  have he := Option.some.inj hF
  rw [← he] at hfin4
  refine cHit ?_
  exact hr4 _ _ _ hfin4 ⟨hf.keep ⟨rfl,rfl,rfl,rfl,trivial⟩,hc⟩

def slices_Contains_Lint_int (N : Nat) (s_ : List Int) (v : Int) : Option (Bool) :=
 Option.bind (slices_Index_Lint_int N s_ v) fun r =>
 some (decide (0 ≤ r))
theorem slices_Contains_Lint_int_ok {N : Nat} {G : Pers} {Lf : List Ent} {w : World} (s_ : List Int) (v : Int) {s__p : Option Addr} {s__c : Nat} (h_s_ : Rd G 1 s__p s__c (s_.map encI_i64)) (hc : Ctx G (Lf) w) {res : Bool} (hF : slices_Contains_Lint_int N s_ v = some res) : Calls Tryz.prog 72 #[.slice s__p s_.length s__c,.int .i64 v] w (fun e w => e = .returned (.bool res) ∧ Ctx G (Lf) w) := by
 unfold slices_Contains_Lint_int at hF
 refine fnIn (args := [.slice s__p s_.length s__c,.int .i64 v]) Tryz.func72 rfl Tryz.ntmps72 rfl fun a hf => wp_seq_k fun K1 h1 => cReg ?_
 refine stP hf rfl rfl rfl (pA rfl) fun a hf => cNil ?_
 refine h1 _ _ ?_
 refine wp_seq_k fun K2 h2 => cReg ?_
 refine stP hf rfl rfl rfl (pM rfl) fun a hf => stP hf rfl rfl rfl (pM rfl) fun a hf => ?_
 obtain ⟨r,hr,hF⟩ := bnd_some hF
 refine stE hf hc rfl rfl rfl (eC (v := .int .i64 r) (vs := [.slice s__p s_.length s__c,.int .i64 v]) (caps := []) en_114 rfl rfl rfl rfl (fun w hc => slices_Index_Lint_int_ok s_ v h_s_ hc hr)) fun a w hf hc => stP hf rfl rfl rfl (pGe rfl rfl) fun a hf => stP hf rfl rfl rfl (pA rfl) fun a hf => cNil ?_
 refine h2 _ _ ?_
 refine wp_ret ?_
 obtain rfl := Option.some.inj hF
 exact fnOut1 (by simp) rfl Tryz.results72 hf hc (show look _ 4 = _ from rfl) ⟨rfl,hc⟩

def crew_once_b4 (N : Nat) (l : List Int) (x : Int) : Option (Step (Int) (Bool)) :=
 cond (decide (x < ((l.length : Nat) : Int)))
 (Option.bind (getI l x) fun e_1 =>
 Option.bind (subO l 0 x) fun sub =>
 Option.bind (slices_Contains_Lint_int N sub e_1) fun r =>
 cond r
 (some (.ret false))
 (some (.cont (W (x + 1)))))
 (some (.brk x))
def crew_once (N : Nat) (l : List Int) : Option (Bool) :=
 Option.bind (loopO (fun s4 => crew_once_b4 N l s4) N 0) fun x4 =>
 exK x4 (fun s4 => some true) some
theorem crew_once_ok {N : Nat} {G : Pers} {Lf : List Ent} {w : World} (l : List Int) {l_p : Option Addr} {l_c : Nat} (h_l : Rd G 1 l_p l_c (l.map encI_i64)) (hc : Ctx G (Lf) w) {res : Bool} (hF : crew_once N l = some res) : Calls Tryz.prog 122 #[.slice l_p l.length l_c] w (fun e w => e = .returned (.bool res) ∧ Ctx G (Lf) w) := by
 unfold crew_once at hF
 refine fnIn (args := [.slice l_p l.length l_c]) Tryz.func122 rfl Tryz.ntmps122 rfl fun a hf => wp_seq_k fun K1 h1 => cReg ?_
 refine stP hf rfl rfl rfl (pA rfl) fun a hf => cNil ?_
 refine h1 _ _ ?_
 refine wp_seq_k fun K2 h2 => wp_seq_k fun K3 h3 => cReg ?_
 refine stP hf rfl rfl rfl (pM rfl) fun a hf => stP hf rfl rfl rfl (pLenS Tryz.underlying25 rfl) fun a hf => stP hf rfl rfl rfl (pM rfl) fun a hf => cNil ?_
 refine h3 _ _ ?_
 refine wp_block ?_
 obtain ⟨x4,hx4,hF⟩ := bnd_some hF
 let S4 : Int → Act → World → Prop := (fun (zz : Int) a w => Has 18 a [(0,.slice l_p l.length l_c),(5,.slice l_p l.length l_c),(6,.int .i64 ((l.length : Nat) : Int)),(7,.int .i64 zz)] ∧ Ctx G (Lf) w)
 have hr4 : ∀ (zz : Int) a w,x4 = .go zz → S4 zz a w → K2 a w := by
  rintro x a w rfl ⟨hf,hc⟩
  replace hF := exK_go hF
  refine h2 _ _ ?_
  refine wp_seq_k fun K5 h5 => cReg ?_
  refine stP hf rfl rfl rfl (pA rfl) fun a hf => cNil ?_
  refine h5 _ _ ?_
  refine wp_ret ?_
  obtain rfl := Option.some.inj hF
  exact fnOut1 (by simp) rfl Tryz.results122 hf hc (show look _ 2 = _ from rfl) ⟨rfl,hc⟩
 have ho4 : ∀ r,x4 = .out r → r = res := by
  rintro r rfl
  exact Option.some.inj hF
 refine cLoop N (loopW (S := S4) (x := x4) ?_ N 0 _ _ ⟨hf.keep ⟨rfl,rfl,rfl,rfl,trivial⟩,hc⟩ hx4)
 clear hF hf hc
 rintro x st4 a w KB4 ⟨hf,hc⟩ hF hfin4 hK4
 unfold crew_once_b4 at hF
 refine wp_seq_k fun K6 h6 => cReg ?_
 refine stP hf rfl rfl rfl (pLt rfl rfl) fun a hf => cNil ?_
 refine h6 _ _ ?_
 refine wp_seq_k fun K7 h7 => cCond (b := (decide (x < ((l.length : Nat) : Int)))) hf rfl (fun hb => ?_) (fun hb => ?_)
 ·replace hF := condT hb hF
  clear hb
  refine wp_skip ?_
  refine h7 _ _ ?_
  refine wp_seq_k fun K8 h8 => wp_block ?_
  refine wp_seq_k fun K9 h9 => cReg ?_
  refine stP hf rfl rfl rfl (pM rfl) fun a hf => ?_
  obtain ⟨e_1,he_1,hF⟩ := bnd_some hF
  obtain ⟨b_1,o,qa,qp⟩ := h_l.atm he_1
  refine stP hf rfl rfl rfl (pIA Tryz.underlying25 sz_3 rfl rfl qa) fun a hf => stE hf hc rfl rfl rfl (eLd1 sc_3 rfl (cell_pc (j := 0) qp rfl)) fun a w hf hc => stP hf rfl rfl rfl (pA rfl) fun a hf => stP hf rfl rfl rfl (pA rfl) fun a hf => cNil ?_
  refine h9 _ _ ?_
  refine wp_seq_k fun K10 h10 => cReg ?_
  refine stP hf rfl rfl rfl (pM rfl) fun a hf => stP hf rfl rfl rfl (pM rfl) fun a hf => ?_
  obtain ⟨sub,hsub,hF⟩ := bnd_some hF
  have qs := Rd.sub h_l hsub
  refine stP hf rfl rfl rfl (pSl Tryz.underlying25 sz_3 rfl rfl (by simpa using h_l.1) rfl rfl hsub) fun a hf => stP hf rfl rfl rfl (pM rfl) fun a hf => ?_
  obtain ⟨r,hr,hF⟩ := bnd_some hF
  refine stE hf hc rfl rfl rfl (eC (v := .bool r) (vs := [.slice (subP l_p l_c (0 : Int).toNat 1) sub.length (l_c - (0 : Int).toNat),.int .i64 e_1]) (caps := []) en_72 rfl rfl rfl rfl (fun w hc => slices_Contains_Lint_int_ok sub e_1 qs hc hr)) fun a w hf hc => cNil ?_
  refine h10 _ _ ?_
  refine cCond (b := r) hf rfl (fun hb => ?_) (fun hb => ?_)
  ·replace hF := condT hb hF
   clear hb
   refine wp_seq_k fun K11 h11 => cReg ?_
   refine stP hf rfl rfl rfl (pA rfl) fun a hf => cNil ?_
   refine h11 _ _ ?_
   refine wp_ret ?_
   refine xBlkR ?_
   refine xThenR ?_
   refine xThenR ?_
   have he := Option.some.inj hF
   rw [← he] at hfin4
   replace hF := ho4 _ hfin4
   refine xBlkR ?_
   refine xThenR ?_
   obtain rfl := hF
   exact fnOut1 (by simp) rfl Tryz.results122 hf hc (show look _ 2 = _ from rfl) ⟨rfl,hc⟩
  ·replace hF := condF hb hF
   clear hb
   refine wp_skip ?_
   refine h8 _ _ ?_
   refine cReg ?_
   refine stP hf rfl rfl rfl (pAdd rfl rfl) fun a hf => stP hf rfl rfl rfl (pM rfl) fun a hf => cNil ?_
   exact hK4 (W (x + 1)) _ _ (Option.some.inj hF).symm ⟨hf.keep ⟨rfl,rfl,rfl,rfl,trivial⟩,hc⟩
 ·replace hF := condF hb hF
  clear hb
  refine wp_exit ?_
  refine xThen ?_
  refine xThen ?_
  have he := Option.some.inj hF
  rw [← he] at hfin4
  refine cHit ?_
  exact hr4 _ _ _ hfin4 ⟨hf.keep ⟨rfl,rfl,rfl,rfl,trivial⟩,hc⟩

def crew_every_Lint_1_s2 (N : Nat) (x : List Int) : Option (Bool) :=
 Option.bind (crew_once N x) fun r =>
 some (!r)
theorem crew_every_Lint_1_s2_ok {N : Nat} {G : Pers} {Lf : List Ent} {w : World} (x : List Int) {x_p : Option Addr} {x_c : Nat} {b_ : Nat} (h_x : Rd G 1 x_p x_c (x.map encI_i64)) (hc : Ctx G (.box b_ [.func (.func 122) #[] #[]] 185::Lf) w) {res : Bool} (hF : crew_every_Lint_1_s2 N x = some res) : Calls Tryz.prog 169 #[.slice x_p x.length x_c,.pointer (some ⟨b_,0,none⟩)] w (fun e w => e = .returned (.bool res) ∧ Ctx G (.box b_ [.func (.func 122) #[] #[]] 185::Lf) w) := by
 unfold crew_every_Lint_1_s2 at hF
 refine fnIn (args := [.slice x_p x.length x_c,.pointer (some ⟨b_,0,none⟩)]) Tryz.func169 rfl Tryz.ntmps169 rfl fun a hf => wp_seq_k fun K1 h1 => cReg ?_
 refine stP hf rfl rfl rfl (pA rfl) fun a hf => cNil ?_
 refine h1 _ _ ?_
 refine wp_seq_k fun K2 h2 => cReg ?_
 refine stE hf hc rfl rfl rfl (eLd1 sc_185 rfl (cell_box m0 rfl)) fun a w hf hc => stP hf rfl rfl rfl (pM rfl) fun a hf => ?_
 obtain ⟨r,hr,hF⟩ := bnd_some hF
 refine stE hf hc rfl rfl rfl (eC (v := .bool r) (vs := [.slice x_p x.length x_c]) (caps := []) en_122 rfl rfl rfl rfl (fun w hc => crew_once_ok x h_x hc hr)) fun a w hf hc => stP hf rfl rfl rfl (pNot rfl) fun a hf => stP hf rfl rfl rfl (pA rfl) fun a hf => cNil ?_
 refine h2 _ _ ?_
 refine wp_ret ?_
 obtain rfl := Option.some.inj hF
 exact fnOut1 (by simp) rfl Tryz.results169 hf hc (show look _ 3 = _ from rfl) ⟨rfl,hc⟩

def slices_IndexFunc_LLint_Lint_s2_b4 (N : Nat) (s_ : List (List Int)) (x : Int) : Option (Step (Int) (Int)) :=
 cond (decide (x < ((s_.length : Nat) : Int)))
 (Option.bind (getI s_ x) fun e_1 =>
 Option.bind (crew_every_Lint_1_s2 N e_1) fun r =>
 cond r
 (some (.ret x))
 (some (.cont (W (x + 1)))))
 (some (.brk x))
def slices_IndexFunc_LLint_Lint_s2 (N : Nat) (s_ : List (List Int)) : Option (Int) :=
 Option.bind (loopO (fun s4 => slices_IndexFunc_LLint_Lint_s2_b4 N s_ s4) N 0) fun x4 =>
 exK x4 (fun s4 => some (-1)) some
theorem slices_IndexFunc_LLint_Lint_s2_ok {N : Nat} {G : Pers} {Lf : List Ent} {w : World} (s_ : List (List Int)) {s__p : Option Addr} {s__c : Nat} {b_ : Nat} (h_s_ : RdT kd_25 G 1 s__p s__c s_) (hc : Ctx G (.box b_ [.func (.func 122) #[] #[]] 185::Lf) w) {res : Int} (hF : slices_IndexFunc_LLint_Lint_s2 N s_ = some res) : Calls Tryz.prog 191 #[.slice s__p s_.length s__c,.func (.func 169) #[] #[.pointer (some ⟨b_,0,none⟩)]] w (fun e w => e = .returned (.int .i64 res) ∧ Ctx G (.box b_ [.func (.func 122) #[] #[]] 185::Lf) w) := by
 unfold slices_IndexFunc_LLint_Lint_s2 at hF
 refine fnIn (args := [.slice s__p s_.length s__c,.func (.func 169) #[] #[.pointer (some ⟨b_,0,none⟩)]]) Tryz.func191 rfl Tryz.ntmps191 rfl fun a hf => wp_seq_k fun K1 h1 => cReg ?_
 refine stP hf rfl rfl rfl (pA rfl) fun a hf => cNil ?_
 refine h1 _ _ ?_
 refine wp_seq_k fun K2 h2 => wp_seq_k fun K3 h3 => cReg ?_
 refine stP hf rfl rfl rfl (pM rfl) fun a hf => stP hf rfl rfl rfl (pLenS Tryz.underlying75 rfl) fun a hf => stP hf rfl rfl rfl (pM rfl) fun a hf => cNil ?_
 refine h3 _ _ ?_
 refine wp_block ?_
 obtain ⟨x4,hx4,hF⟩ := bnd_some hF
 let S4 : Int → Act → World → Prop := (fun (zz : Int) a w => Has 19 a [(0,.slice s__p s_.length s__c),(1,.func (.func 169) #[] #[.pointer (some ⟨b_,0,none⟩)]),(7,.int .i64 ((s_.length : Nat) : Int)),(8,.int .i64 zz)] ∧ Ctx G (.box b_ [.func (.func 122) #[] #[]] 185::Lf) w)
 have hr4 : ∀ (zz : Int) a w,x4 = .go zz → S4 zz a w → K2 a w := by
  rintro x a w rfl ⟨hf,hc⟩
  replace hF := exK_go hF
  refine h2 _ _ ?_
  refine wp_seq_k fun K5 h5 => cReg ?_
  refine stP hf rfl rfl rfl (pA rfl) fun a hf => cNil ?_
  refine h5 _ _ ?_
  refine wp_ret ?_
  obtain rfl := Option.some.inj hF
  exact fnOut1 (by simp) rfl Tryz.results191 hf hc (show look _ 4 = _ from rfl) ⟨rfl,hc⟩
 have ho4 : ∀ r,x4 = .out r → r = res := by
  rintro r rfl
  exact Option.some.inj hF
 refine cLoop N (loopW (S := S4) (x := x4) ?_ N 0 _ _ ⟨hf.keep ⟨rfl,rfl,rfl,rfl,trivial⟩,hc⟩ hx4)
 clear hF hf hc
 rintro x st4 a w KB4 ⟨hf,hc⟩ hF hfin4 hK4
 unfold slices_IndexFunc_LLint_Lint_s2_b4 at hF
 refine wp_seq_k fun K6 h6 => cReg ?_
 refine stP hf rfl rfl rfl (pLt rfl rfl) fun a hf => cNil ?_
 refine h6 _ _ ?_
 refine wp_seq_k fun K7 h7 => cCond (b := (decide (x < ((s_.length : Nat) : Int)))) hf rfl (fun hb => ?_) (fun hb => ?_)
 ·replace hF := condT hb hF
  clear hb
  refine wp_skip ?_
  refine h7 _ _ ?_
  refine wp_seq_k fun K8 h8 => wp_block ?_
  refine wp_seq_k fun K9 h9 => cReg ?_
  refine stP hf rfl rfl rfl (pM rfl) fun a hf => stP hf rfl rfl rfl (pA rfl) fun a hf => cNil ?_
  refine h9 _ _ ?_
  refine wp_seq_k fun K10 h10 => cReg ?_
  refine stP hf rfl rfl rfl (pM rfl) fun a hf => stP hf rfl rfl rfl (pM rfl) fun a hf => stP hf rfl rfl rfl (pM rfl) fun a hf => ?_
  obtain ⟨e_1,he_1,hF⟩ := bnd_some hF
  obtain ⟨b_1,o,hd,qa,qp,qr⟩ := h_s_.atm he_1
  refine stP hf rfl rfl rfl (pIA Tryz.underlying75 sz_25 rfl rfl qa) fun a hf => stE hf hc rfl rfl rfl (eLd1 sc_25 rfl (cell_pc (j := 0) qp rfl)) fun a w hf hc => ?_
  obtain ⟨r,hr,hF⟩ := bnd_some hF
  refine stE hf hc rfl rfl rfl (eC (v := .bool r) (vs := [.slice hd.1 e_1.length hd.2]) (caps := [.pointer (some ⟨b_,0,none⟩)]) en_169 rfl rfl rfl rfl (fun w hc => (crew_every_Lint_1_s2_ok e_1 qr (hc.pick k0) hr).mono fun e w h => ⟨h.1,(h.2.unpick k0)⟩)) fun a w hf hc => cNil ?_
  refine h10 _ _ ?_
  refine cCond (b := r) hf rfl (fun hb => ?_) (fun hb => ?_)
  ·replace hF := condT hb hF
   clear hb
   refine wp_seq_k fun K11 h11 => cReg ?_
   refine stP hf rfl rfl rfl (pM rfl) fun a hf => stP hf rfl rfl rfl (pA rfl) fun a hf => cNil ?_
   refine h11 _ _ ?_
   refine wp_ret ?_
   refine xBlkR ?_
   refine xThenR ?_
   refine xThenR ?_
   have he := Option.some.inj hF
   rw [← he] at hfin4
   replace hF := ho4 _ hfin4
   refine xBlkR ?_
   refine xThenR ?_
   obtain rfl := hF
   exact fnOut1 (by simp) rfl Tryz.results191 hf hc (show look _ 4 = _ from rfl) ⟨rfl,hc⟩
  ·replace hF := condF hb hF
   clear hb
   refine wp_skip ?_
   refine h8 _ _ ?_
   refine cReg ?_
   refine stP hf rfl rfl rfl (pAdd rfl rfl) fun a hf => stP hf rfl rfl rfl (pM rfl) fun a hf => cNil ?_
   exact hK4 (W (x + 1)) _ _ (Option.some.inj hF).symm ⟨hf.keep ⟨rfl,rfl,rfl,rfl,trivial⟩,hc⟩
 ·replace hF := condF hb hF
  clear hb
  refine wp_exit ?_
  refine xThen ?_
  refine xThen ?_
  have he := Option.some.inj hF
  rw [← he] at hfin4
  refine cHit ?_
  exact hr4 _ _ _ hfin4 ⟨hf.keep ⟨rfl,rfl,rfl,rfl,trivial⟩,hc⟩

def slices_ContainsFunc_LLint_Lint_s2 (N : Nat) (s_ : List (List Int)) : Option (Bool) :=
 Option.bind (slices_IndexFunc_LLint_Lint_s2 N s_) fun r =>
 some (decide (0 ≤ r))
theorem slices_ContainsFunc_LLint_Lint_s2_ok {N : Nat} {G : Pers} {Lf : List Ent} {w : World} (s_ : List (List Int)) {s__p : Option Addr} {s__c : Nat} {b_ : Nat} (h_s_ : RdT kd_25 G 1 s__p s__c s_) (hc : Ctx G (.box b_ [.func (.func 122) #[] #[]] 185::Lf) w) {res : Bool} (hF : slices_ContainsFunc_LLint_Lint_s2 N s_ = some res) : Calls Tryz.prog 168 #[.slice s__p s_.length s__c,.func (.func 169) #[] #[.pointer (some ⟨b_,0,none⟩)]] w (fun e w => e = .returned (.bool res) ∧ Ctx G (.box b_ [.func (.func 122) #[] #[]] 185::Lf) w) := by
 unfold slices_ContainsFunc_LLint_Lint_s2 at hF
 refine fnIn (args := [.slice s__p s_.length s__c,.func (.func 169) #[] #[.pointer (some ⟨b_,0,none⟩)]]) Tryz.func168 rfl Tryz.ntmps168 rfl fun a hf => wp_seq_k fun K1 h1 => cReg ?_
 refine stP hf rfl rfl rfl (pA rfl) fun a hf => cNil ?_
 refine h1 _ _ ?_
 refine wp_seq_k fun K2 h2 => cReg ?_
 refine stP hf rfl rfl rfl (pM rfl) fun a hf => stP hf rfl rfl rfl (pM rfl) fun a hf => ?_
 obtain ⟨r,hr,hF⟩ := bnd_some hF
 refine stE hf hc rfl rfl rfl (eC (v := .int .i64 r) (vs := [.slice s__p s_.length s__c,.func (.func 169) #[] #[.pointer (some ⟨b_,0,none⟩)]]) (caps := []) en_191 rfl rfl rfl rfl (fun w hc => (slices_IndexFunc_LLint_Lint_s2_ok s_ h_s_ (hc.pick k0) hr).mono fun e w h => ⟨h.1,(h.2.unpick k0)⟩)) fun a w hf hc => stP hf rfl rfl rfl (pGe rfl rfl) fun a hf => stP hf rfl rfl rfl (pA rfl) fun a hf => cNil ?_
 refine h2 _ _ ?_
 refine wp_ret ?_
 obtain rfl := Option.some.inj hF
 exact fnOut1 (by simp) rfl Tryz.results168 hf hc (show look _ 4 = _ from rfl) ⟨rfl,hc⟩

def crew_every_Lint_s2 (N : Nat) (l : List (List Int)) : Option (Bool) :=
 Option.bind (slices_ContainsFunc_LLint_Lint_s2 N l) fun r =>
 some (!r)
theorem crew_every_Lint_s2_ok {N : Nat} {G : Pers} {Lf : List Ent} {w : World} (l : List (List Int)) {l_p : Option Addr} {l_c : Nat} (h_l : RdT kd_25 G 1 l_p l_c l) (hc : Ctx G (Lf) w) {res : Bool} (hF : crew_every_Lint_s2 N l = some res) : Calls Tryz.prog 116 #[.slice l_p l.length l_c,.func (.func 122) #[] #[]] w (fun e w => e = .returned (.bool res) ∧ Ctx G (Lf) w) := by
 unfold crew_every_Lint_s2 at hF
 refine fnIn (args := [.slice l_p l.length l_c,.func (.func 122) #[] #[]]) Tryz.func116 rfl Tryz.ntmps116 rfl fun a hf => wp_seq_k fun K1 h1 => cReg ?_
 refine stBx (cs := [.func (.func 122) #[] #[]]) hf hc rfl rfl rfl rfl fun b_1 a w hf hc => stP hf rfl rfl rfl (pA rfl) fun a hf => cNil ?_
 refine h1 _ _ ?_
 refine wp_seq_k fun K2 h2 => cReg ?_
 refine stP hf rfl rfl rfl (pM rfl) fun a hf => stP hf rfl rfl rfl (pMF (us := [.pointer (some ⟨b_1,0,none⟩)]) rfl rfl) fun a hf => ?_
 obtain ⟨r,hr,hF⟩ := bnd_some hF
 refine stE hf hc rfl rfl rfl (eC (v := .bool r) (vs := [.slice l_p l.length l_c,.func (.func 169) #[] #[.pointer (some ⟨b_1,0,none⟩)]]) (caps := []) en_168 rfl rfl rfl rfl (fun w hc => (slices_ContainsFunc_LLint_Lint_s2_ok l h_l (hc.pick k0) hr).mono fun e w h => ⟨h.1,(h.2.unpick k0)⟩)) fun a w hf hc => stP hf rfl rfl rfl (pNot rfl) fun a hf => stP hf rfl rfl rfl (pA rfl) fun a hf => cNil ?_
 refine h2 _ _ ?_
 refine wp_ret ?_
 obtain rfl := Option.some.inj hF
 replace hc := hc.drop k0
 exact fnOut1 (by simp) rfl Tryz.results116 hf hc (show look _ 4 = _ from rfl) ⟨rfl,hc⟩

def crew_Check_3 (N : Nat) (s_ : crew_Station) : Option (Bool) :=
 Option.bind (crew_once N s_.Order) fun r =>
 some r
theorem crew_Check_3_ok {N : Nat} {G : Pers} {Lf : List Ent} {w : World} (s_ : crew_Station) {s__Order_p : Option Addr} {s__Order_c : Nat} (h_s__Order : Rd G 1 s__Order_p s__Order_c (s_.Order.map encI_i64)) (hc : Ctx G (Lf) w) {res : Bool} (hF : crew_Check_3 N s_ = some res) : Calls Tryz.prog 123 #[.agg #[.int .i64 s_.Places,.slice s__Order_p s_.Order.length s__Order_c]] w (fun e w => e = .returned (.bool res) ∧ Ctx G (Lf) w) := by
 unfold crew_Check_3 at hF
 refine fnIn (args := [.agg #[.int .i64 s_.Places,.slice s__Order_p s_.Order.length s__Order_c]]) Tryz.func123 rfl Tryz.ntmps123 rfl fun a hf => wp_seq_k fun K1 h1 => cReg ?_
 refine stBx (cs := [.int .i64 s_.Places,.slice s__Order_p s_.Order.length s__Order_c]) hf hc rfl rfl rfl rfl fun b_1 a w hf hc => stP hf rfl rfl rfl (pA rfl) fun a hf => cNil ?_
 refine h1 _ _ ?_
 refine wp_seq_k fun K2 h2 => cReg ?_
 refine stP hf rfl rfl rfl (pFA fa_101_1 rfl) fun a hf => stE hf hc rfl rfl rfl (eLd1 sc_25 rfl (cell_box m0 rfl)) fun a w hf hc => ?_
 obtain ⟨r,hr,hF⟩ := bnd_some hF
 refine stE hf hc rfl rfl rfl (eC (v := .bool r) (vs := [.slice s__Order_p s_.Order.length s__Order_c]) (caps := []) en_122 rfl rfl rfl rfl (fun w hc => crew_once_ok s_.Order h_s__Order hc hr)) fun a w hf hc => stP hf rfl rfl rfl (pA rfl) fun a hf => cNil ?_
 refine h2 _ _ ?_
 refine wp_ret ?_
 obtain rfl := Option.some.inj hF
 replace hc := hc.drop k0
 exact fnOut1 (by simp) rfl Tryz.results123 hf hc (show look _ 2 = _ from rfl) ⟨rfl,hc⟩

def crew_every_crew_Station_1_s2 (N : Nat) (x : crew_Station) : Option (Bool) :=
 Option.bind (crew_Check_3 N x) fun r =>
 some (!r)
theorem crew_every_crew_Station_1_s2_ok {N : Nat} {G : Pers} {Lf : List Ent} {w : World} (x : crew_Station) {x_Order_p : Option Addr} {x_Order_c : Nat} {b_ : Nat} (h_x_Order : Rd G 1 x_Order_p x_Order_c (x.Order.map encI_i64)) (hc : Ctx G (.box b_ [.func (.func 123) #[] #[]] 187::Lf) w) {res : Bool} (hF : crew_every_crew_Station_1_s2 N x = some res) : Calls Tryz.prog 171 #[.agg #[.int .i64 x.Places,.slice x_Order_p x.Order.length x_Order_c],.pointer (some ⟨b_,0,none⟩)] w (fun e w => e = .returned (.bool res) ∧ Ctx G (.box b_ [.func (.func 123) #[] #[]] 187::Lf) w) := by
 unfold crew_every_crew_Station_1_s2 at hF
 refine fnIn (args := [.agg #[.int .i64 x.Places,.slice x_Order_p x.Order.length x_Order_c],.pointer (some ⟨b_,0,none⟩)]) Tryz.func171 rfl Tryz.ntmps171 rfl fun a hf => wp_seq_k fun K1 h1 => cReg ?_
 refine stBx (cs := [.int .i64 x.Places,.slice x_Order_p x.Order.length x_Order_c]) hf hc rfl rfl rfl rfl fun b_1 a w hf hc => stP hf rfl rfl rfl (pA rfl) fun a hf => cNil ?_
 refine h1 _ _ ?_
 refine wp_seq_k fun K2 h2 => cReg ?_
 refine stE hf hc rfl rfl rfl (eLd1 sc_187 rfl (cell_box m1 rfl)) fun a w hf hc => stE hf hc rfl rfl rfl (eLdN (vs := [.int .i64 x.Places,.slice x_Order_p x.Order.length x_Order_c]) ag_101 rfl rfl (cells_box (n := 2) m0 rfl)) fun a w hf hc => ?_
 obtain ⟨r,hr,hF⟩ := bnd_some hF
 refine stE hf hc rfl rfl rfl (eC (v := .bool r) (vs := [.agg #[.int .i64 x.Places,.slice x_Order_p x.Order.length x_Order_c]]) (caps := []) en_123 rfl rfl rfl rfl (fun w hc => crew_Check_3_ok x h_x_Order hc hr)) fun a w hf hc => stP hf rfl rfl rfl (pNot rfl) fun a hf => stP hf rfl rfl rfl (pA rfl) fun a hf => cNil ?_
 refine h2 _ _ ?_
 refine wp_ret ?_
 obtain rfl := Option.some.inj hF
 replace hc := hc.drop k0
 exact fnOut1 (by simp) rfl Tryz.results171 hf hc (show look _ 3 = _ from rfl) ⟨rfl,hc⟩

def slices_IndexFunc_Lcrew_Station_crew_Station_s2_b4 (N : Nat) (s_ : List crew_Station) (x : Int) : Option (Step (Int) (Int)) :=
 cond (decide (x < ((s_.length : Nat) : Int)))
 (Option.bind (getI s_ x) fun e_1 =>
 Option.bind (crew_every_crew_Station_1_s2 N e_1) fun r =>
 cond r
 (some (.ret x))
 (some (.cont (W (x + 1)))))
 (some (.brk x))
def slices_IndexFunc_Lcrew_Station_crew_Station_s2 (N : Nat) (s_ : List crew_Station) : Option (Int) :=
 Option.bind (loopO (fun s4 => slices_IndexFunc_Lcrew_Station_crew_Station_s2_b4 N s_ s4) N 0) fun x4 =>
 exK x4 (fun s4 => some (-1)) some
theorem slices_IndexFunc_Lcrew_Station_crew_Station_s2_ok {N : Nat} {G : Pers} {Lf : List Ent} {w : World} (s_ : List crew_Station) {s__p : Option Addr} {s__c : Nat} {b_ : Nat} (h_s_ : RdT kd_101 G 2 s__p s__c s_) (hc : Ctx G (.box b_ [.func (.func 123) #[] #[]] 187::Lf) w) {res : Int} (hF : slices_IndexFunc_Lcrew_Station_crew_Station_s2 N s_ = some res) : Calls Tryz.prog 192 #[.slice s__p s_.length s__c,.func (.func 171) #[] #[.pointer (some ⟨b_,0,none⟩)]] w (fun e w => e = .returned (.int .i64 res) ∧ Ctx G (.box b_ [.func (.func 123) #[] #[]] 187::Lf) w) := by
 unfold slices_IndexFunc_Lcrew_Station_crew_Station_s2 at hF
 refine fnIn (args := [.slice s__p s_.length s__c,.func (.func 171) #[] #[.pointer (some ⟨b_,0,none⟩)]]) Tryz.func192 rfl Tryz.ntmps192 rfl fun a hf => wp_seq_k fun K1 h1 => cReg ?_
 refine stP hf rfl rfl rfl (pA rfl) fun a hf => cNil ?_
 refine h1 _ _ ?_
 refine wp_seq_k fun K2 h2 => wp_seq_k fun K3 h3 => cReg ?_
 refine stP hf rfl rfl rfl (pM rfl) fun a hf => stP hf rfl rfl rfl (pLenS Tryz.underlying76 rfl) fun a hf => stP hf rfl rfl rfl (pM rfl) fun a hf => cNil ?_
 refine h3 _ _ ?_
 refine wp_block ?_
 obtain ⟨x4,hx4,hF⟩ := bnd_some hF
 let S4 : Int → Act → World → Prop := (fun (zz : Int) a w => Has 19 a [(0,.slice s__p s_.length s__c),(1,.func (.func 171) #[] #[.pointer (some ⟨b_,0,none⟩)]),(7,.int .i64 ((s_.length : Nat) : Int)),(8,.int .i64 zz)] ∧ Ctx G (.box b_ [.func (.func 123) #[] #[]] 187::Lf) w)
 have hr4 : ∀ (zz : Int) a w,x4 = .go zz → S4 zz a w → K2 a w := by
  rintro x a w rfl ⟨hf,hc⟩
  replace hF := exK_go hF
  refine h2 _ _ ?_
  refine wp_seq_k fun K5 h5 => cReg ?_
  refine stP hf rfl rfl rfl (pA rfl) fun a hf => cNil ?_
  refine h5 _ _ ?_
  refine wp_ret ?_
  obtain rfl := Option.some.inj hF
  exact fnOut1 (by simp) rfl Tryz.results192 hf hc (show look _ 4 = _ from rfl) ⟨rfl,hc⟩
 have ho4 : ∀ r,x4 = .out r → r = res := by
  rintro r rfl
  exact Option.some.inj hF
 refine cLoop N (loopW (S := S4) (x := x4) ?_ N 0 _ _ ⟨hf.keep ⟨rfl,rfl,rfl,rfl,trivial⟩,hc⟩ hx4)
 clear hF hf hc
 rintro x st4 a w KB4 ⟨hf,hc⟩ hF hfin4 hK4
 unfold slices_IndexFunc_Lcrew_Station_crew_Station_s2_b4 at hF
 refine wp_seq_k fun K6 h6 => cReg ?_
 refine stP hf rfl rfl rfl (pLt rfl rfl) fun a hf => cNil ?_
 refine h6 _ _ ?_
 refine wp_seq_k fun K7 h7 => cCond (b := (decide (x < ((s_.length : Nat) : Int)))) hf rfl (fun hb => ?_) (fun hb => ?_)
 ·replace hF := condT hb hF
  clear hb
  refine wp_skip ?_
  refine h7 _ _ ?_
  refine wp_seq_k fun K8 h8 => wp_block ?_
  refine wp_seq_k fun K9 h9 => cReg ?_
  refine stP hf rfl rfl rfl (pM rfl) fun a hf => stP hf rfl rfl rfl (pA rfl) fun a hf => cNil ?_
  refine h9 _ _ ?_
  refine wp_seq_k fun K10 h10 => cReg ?_
  refine stP hf rfl rfl rfl (pM rfl) fun a hf => stP hf rfl rfl rfl (pM rfl) fun a hf => stP hf rfl rfl rfl (pM rfl) fun a hf => ?_
  obtain ⟨e_1,he_1,hF⟩ := bnd_some hF
  obtain ⟨b_1,o,hd,qa,qp,qr⟩ := h_s_.atm he_1
  refine stP hf rfl rfl rfl (pIA Tryz.underlying76 sz_101 rfl rfl qa) fun a hf => stE hf hc rfl rfl rfl (eLdN (vs := [.int .i64 e_1.Places,.slice hd.1 e_1.Order.length hd.2]) ag_101 rfl rfl (cells_pc qp (n := 2) (o' := 0) rfl)) fun a w hf hc => ?_
  obtain ⟨r,hr,hF⟩ := bnd_some hF
  refine stE hf hc rfl rfl rfl (eC (v := .bool r) (vs := [.agg #[.int .i64 e_1.Places,.slice hd.1 e_1.Order.length hd.2]]) (caps := [.pointer (some ⟨b_,0,none⟩)]) en_171 rfl rfl rfl rfl (fun w hc => (crew_every_crew_Station_1_s2_ok e_1 qr (hc.pick k0) hr).mono fun e w h => ⟨h.1,(h.2.unpick k0)⟩)) fun a w hf hc => cNil ?_
  refine h10 _ _ ?_
  refine cCond (b := r) hf rfl (fun hb => ?_) (fun hb => ?_)
  ·replace hF := condT hb hF
   clear hb
   refine wp_seq_k fun K11 h11 => cReg ?_
   refine stP hf rfl rfl rfl (pM rfl) fun a hf => stP hf rfl rfl rfl (pA rfl) fun a hf => cNil ?_
   refine h11 _ _ ?_
   refine wp_ret ?_
   refine xBlkR ?_
   refine xThenR ?_
   refine xThenR ?_
   have he := Option.some.inj hF
   rw [← he] at hfin4
   replace hF := ho4 _ hfin4
   refine xBlkR ?_
   refine xThenR ?_
   obtain rfl := hF
   exact fnOut1 (by simp) rfl Tryz.results192 hf hc (show look _ 4 = _ from rfl) ⟨rfl,hc⟩
  ·replace hF := condF hb hF
   clear hb
   refine wp_skip ?_
   refine h8 _ _ ?_
   refine cReg ?_
   refine stP hf rfl rfl rfl (pAdd rfl rfl) fun a hf => stP hf rfl rfl rfl (pM rfl) fun a hf => cNil ?_
   exact hK4 (W (x + 1)) _ _ (Option.some.inj hF).symm ⟨hf.keep ⟨rfl,rfl,rfl,rfl,trivial⟩,hc⟩
 ·replace hF := condF hb hF
  clear hb
  refine wp_exit ?_
  refine xThen ?_
  refine xThen ?_
  have he := Option.some.inj hF
  rw [← he] at hfin4
  refine cHit ?_
  exact hr4 _ _ _ hfin4 ⟨hf.keep ⟨rfl,rfl,rfl,rfl,trivial⟩,hc⟩

def slices_ContainsFunc_Lcrew_Station_crew_Station_s2 (N : Nat) (s_ : List crew_Station) : Option (Bool) :=
 Option.bind (slices_IndexFunc_Lcrew_Station_crew_Station_s2 N s_) fun r =>
 some (decide (0 ≤ r))
theorem slices_ContainsFunc_Lcrew_Station_crew_Station_s2_ok {N : Nat} {G : Pers} {Lf : List Ent} {w : World} (s_ : List crew_Station) {s__p : Option Addr} {s__c : Nat} {b_ : Nat} (h_s_ : RdT kd_101 G 2 s__p s__c s_) (hc : Ctx G (.box b_ [.func (.func 123) #[] #[]] 187::Lf) w) {res : Bool} (hF : slices_ContainsFunc_Lcrew_Station_crew_Station_s2 N s_ = some res) : Calls Tryz.prog 170 #[.slice s__p s_.length s__c,.func (.func 171) #[] #[.pointer (some ⟨b_,0,none⟩)]] w (fun e w => e = .returned (.bool res) ∧ Ctx G (.box b_ [.func (.func 123) #[] #[]] 187::Lf) w) := by
 unfold slices_ContainsFunc_Lcrew_Station_crew_Station_s2 at hF
 refine fnIn (args := [.slice s__p s_.length s__c,.func (.func 171) #[] #[.pointer (some ⟨b_,0,none⟩)]]) Tryz.func170 rfl Tryz.ntmps170 rfl fun a hf => wp_seq_k fun K1 h1 => cReg ?_
 refine stP hf rfl rfl rfl (pA rfl) fun a hf => cNil ?_
 refine h1 _ _ ?_
 refine wp_seq_k fun K2 h2 => cReg ?_
 refine stP hf rfl rfl rfl (pM rfl) fun a hf => stP hf rfl rfl rfl (pM rfl) fun a hf => ?_
 obtain ⟨r,hr,hF⟩ := bnd_some hF
 refine stE hf hc rfl rfl rfl (eC (v := .int .i64 r) (vs := [.slice s__p s_.length s__c,.func (.func 171) #[] #[.pointer (some ⟨b_,0,none⟩)]]) (caps := []) en_192 rfl rfl rfl rfl (fun w hc => (slices_IndexFunc_Lcrew_Station_crew_Station_s2_ok s_ h_s_ (hc.pick k0) hr).mono fun e w h => ⟨h.1,(h.2.unpick k0)⟩)) fun a w hf hc => stP hf rfl rfl rfl (pGe rfl rfl) fun a hf => stP hf rfl rfl rfl (pA rfl) fun a hf => cNil ?_
 refine h2 _ _ ?_
 refine wp_ret ?_
 obtain rfl := Option.some.inj hF
 exact fnOut1 (by simp) rfl Tryz.results170 hf hc (show look _ 4 = _ from rfl) ⟨rfl,hc⟩

def crew_every_crew_Station_s2 (N : Nat) (l : List crew_Station) : Option (Bool) :=
 Option.bind (slices_ContainsFunc_Lcrew_Station_crew_Station_s2 N l) fun r =>
 some (!r)
theorem crew_every_crew_Station_s2_ok {N : Nat} {G : Pers} {Lf : List Ent} {w : World} (l : List crew_Station) {l_p : Option Addr} {l_c : Nat} (h_l : RdT kd_101 G 2 l_p l_c l) (hc : Ctx G (Lf) w) {res : Bool} (hF : crew_every_crew_Station_s2 N l = some res) : Calls Tryz.prog 119 #[.slice l_p l.length l_c,.func (.func 123) #[] #[]] w (fun e w => e = .returned (.bool res) ∧ Ctx G (Lf) w) := by
 unfold crew_every_crew_Station_s2 at hF
 refine fnIn (args := [.slice l_p l.length l_c,.func (.func 123) #[] #[]]) Tryz.func119 rfl Tryz.ntmps119 rfl fun a hf => wp_seq_k fun K1 h1 => cReg ?_
 refine stBx (cs := [.func (.func 123) #[] #[]]) hf hc rfl rfl rfl rfl fun b_1 a w hf hc => stP hf rfl rfl rfl (pA rfl) fun a hf => cNil ?_
 refine h1 _ _ ?_
 refine wp_seq_k fun K2 h2 => cReg ?_
 refine stP hf rfl rfl rfl (pM rfl) fun a hf => stP hf rfl rfl rfl (pMF (us := [.pointer (some ⟨b_1,0,none⟩)]) rfl rfl) fun a hf => ?_
 obtain ⟨r,hr,hF⟩ := bnd_some hF
 refine stE hf hc rfl rfl rfl (eC (v := .bool r) (vs := [.slice l_p l.length l_c,.func (.func 171) #[] #[.pointer (some ⟨b_1,0,none⟩)]]) (caps := []) en_170 rfl rfl rfl rfl (fun w hc => (slices_ContainsFunc_Lcrew_Station_crew_Station_s2_ok l h_l (hc.pick k0) hr).mono fun e w h => ⟨h.1,(h.2.unpick k0)⟩)) fun a w hf hc => stP hf rfl rfl rfl (pNot rfl) fun a hf => stP hf rfl rfl rfl (pA rfl) fun a hf => cNil ?_
 refine h2 _ _ ?_
 refine wp_ret ?_
 obtain rfl := Option.some.inj hF
 replace hc := hc.drop k0
 exact fnOut1 (by simp) rfl Tryz.results119 hf hc (show look _ 4 = _ from rfl) ⟨rfl,hc⟩

end Go.Nilo
