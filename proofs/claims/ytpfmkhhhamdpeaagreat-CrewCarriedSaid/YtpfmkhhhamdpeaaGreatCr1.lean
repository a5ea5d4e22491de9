/-
 What functions of the Go text compute, as plain functions, and that they do, part 1 of 5. Conditions: what each theorem names.
-/
import Derived.Test.YtpfmkhhhamdpeaaGreatNl28
import Derived.Test.YtpfmkhhhamdpeaaGreatProg
set_option linter.unusedVariables false
set_option linter.unusedSimpArgs false
set_option maxRecDepth 100000
set_option maxHeartbeats 4000000
namespace Go.Nilo
open Go.Proofs


structure kit_Stream where
 bytes : List Int
 used : Int
 mix : Int

structure api_Span where
 Lo : Int
 Hi : Int
@[reducible] def enc_api_Span (x : api_Span) : List Value := [i6 x.Lo,i6 x.Hi]
theorem one_enc_api_Span : ∀ x,(enc_api_Span x).length = 2 ∧ ones (enc_api_Span x) = true := fun _ => ⟨rfl,rfl⟩

structure crew_Ride where
 From : Int
 Long : Int
 Weight : api_Span
@[reducible] def enc_crew_Ride (x : crew_Ride) : List Value := [i6 x.From,i6 x.Long,i6 x.Weight.Lo,i6 x.Weight.Hi]
theorem one_enc_crew_Ride : ∀ x,(enc_crew_Ride x).length = 4 ∧ ones (enc_crew_Ride x) = true := fun _ => ⟨rfl,rfl⟩

structure crew_Cable where
 Car : Int
 Wide : Int
 Sag : Int
 Most : Int
 Rides : List crew_Ride

structure crew_Station where
 Places : Int
 Order : List Int

structure crew_Roster where
 People : List (List Int)
 Stations : List crew_Station

structure crew_work where
 Roster : crew_Roster
 rank : Nat → Int

structure crew_Refusal where
 Person : Int
 Station : Int
@[reducible] def enc_crew_Refusal (x : crew_Refusal) : List Value := [i6 x.Person,i6 x.Station]
theorem one_enc_crew_Refusal : ∀ x,(enc_crew_Refusal x).length = 2 ∧ ones (enc_crew_Refusal x) = true := fun _ => ⟨rfl,rfl⟩

structure crew_Visit where
 Way : api_Span
 Work : api_Span
 Open : Int
 Close : Int
@[reducible] def enc_crew_Visit (x : crew_Visit) : List Value := [i6 x.Way.Lo,i6 x.Way.Hi,i6 x.Work.Lo,i6 x.Work.Hi,i6 x.Open,i6 x.Close]
theorem one_enc_crew_Visit : ∀ x,(enc_crew_Visit x).length = 6 ∧ ones (enc_crew_Visit x) = true := fun _ => ⟨rfl,rfl⟩

structure crew_Pay where
 Rate : Int
 Normal : Int
 Extra : Int
@[reducible] def enc_crew_Pay (x : crew_Pay) : List Value := [i6 x.Rate,i6 x.Normal,i6 x.Extra]
theorem one_enc_crew_Pay : ∀ x,(enc_crew_Pay x).length = 3 ∧ ones (enc_crew_Pay x) = true := fun _ => ⟨rfl,rfl⟩

theorem bt_165 : builtInfo Tryz.prog 165 = some ([.slice none 0 0,i6 0,i6 0],[(0,1),(1,1),(2,1)]) := by kernel_rfl

theorem en_42 : En Tryz.prog 42 := En.of Tryz.func42 (by kernel_rfl) (by kernel_rfl)

theorem zr_54 : (Tryz.prog.info? 54).map (·.zero) = some (some (.agg #[i6 0,i6 0,i6 0,i6 0,.slice none 0 0])) := by kernel_rfl

theorem fa_165_0 : ∀ (q : Addr) (w : World),(Instr.fieldAt 165 (.pointer (some q)) 0).run Tryz.prog w = .ok (.pointer (some (q.add 0))) w := fun _ _ => by kernel_rfl

theorem sc_74 : ScT Tryz.prog 74 := ⟨⟨_,Tryz.underlying74,trivial⟩,by kernel_rfl⟩

theorem fa_165_1 : ∀ (q : Addr) (w : World),(Instr.fieldAt 165 (.pointer (some q)) 1).run Tryz.prog w = .ok (.pointer (some (q.add 1))) w := fun _ _ => by kernel_rfl

theorem sc_3 : ScT Tryz.prog 3 := ⟨⟨_,Tryz.underlying3,trivial⟩,by kernel_rfl⟩

theorem sz_5 : (Tryz.prog.info? 5).map (·.size) = some 1 := by kernel_rfl

theorem sc_5 : ScT Tryz.prog 5 := ⟨⟨_,Tryz.underlying5,trivial⟩,by kernel_rfl⟩

theorem follows_mx : Tryz.prog.follows .mixedOrders = true := by kernel_rfl

theorem fa_165_2 : ∀ (q : Addr) (w : World),(Instr.fieldAt 165 (.pointer (some q)) 2).run Tryz.prog w = .ok (.pointer (some (q.add 2))) w := fun _ _ => by kernel_rfl

theorem sz_3 : (Tryz.prog.info? 3).map (·.size) = some 1 := by kernel_rfl

theorem en_45 : En Tryz.prog 45 := En.of Tryz.func45 (by kernel_rfl) (by kernel_rfl)

theorem en_50 : En Tryz.prog 50 := En.of Tryz.func50 (by kernel_rfl) (by kernel_rfl)

theorem bt_54 : builtInfo Tryz.prog 54 = some ([i6 0,i6 0,i6 0,i6 0,.slice none 0 0],[(0,1),(1,1),(2,1),(3,1),(4,1)]) := by kernel_rfl

theorem sz_54 : (Tryz.prog.info? 54).map (·.size) = some 5 := by kernel_rfl

theorem fa_54_0 : ∀ (q : Addr) (w : World),(Instr.fieldAt 54 (.pointer (some q)) 0).run Tryz.prog w = .ok (.pointer (some (q.add 0))) w := fun _ _ => by kernel_rfl

theorem fa_54_1 : ∀ (q : Addr) (w : World),(Instr.fieldAt 54 (.pointer (some q)) 1).run Tryz.prog w = .ok (.pointer (some (q.add 1))) w := fun _ _ => by kernel_rfl

theorem fa_54_2 : ∀ (q : Addr) (w : World),(Instr.fieldAt 54 (.pointer (some q)) 2).run Tryz.prog w = .ok (.pointer (some (q.add 2))) w := fun _ _ => by kernel_rfl

theorem fa_54_3 : ∀ (q : Addr) (w : World),(Instr.fieldAt 54 (.pointer (some q)) 3).run Tryz.prog w = .ok (.pointer (some (q.add 3))) w := fun _ _ => by kernel_rfl

theorem fa_54_4 : ∀ (q : Addr) (w : World),(Instr.fieldAt 54 (.pointer (some q)) 4).run Tryz.prog w = .ok (.pointer (some (q.add 4))) w := fun _ _ => by kernel_rfl

theorem sc_52 : ScT Tryz.prog 52 := ⟨⟨_,Tryz.underlying52,trivial⟩,by kernel_rfl⟩

theorem zr_29 : (Tryz.prog.info? 29).map (·.zero) = some (some (.agg #[i6 0,i6 0])) := by kernel_rfl

theorem bt_29 : builtInfo Tryz.prog 29 = some ([i6 0,i6 0],[(0,1),(1,1)]) := by kernel_rfl

theorem sz_29 : (Tryz.prog.info? 29).map (·.size) = some 2 := by kernel_rfl

theorem ag_29 : AggT Tryz.prog 29 2 := ⟨⟨_,Tryz.underlying29,trivial⟩,by kernel_rfl⟩

theorem en_51 : En Tryz.prog 51 := En.of Tryz.func51 (by kernel_rfl) (by kernel_rfl)

theorem bt_72 : builtInfo Tryz.prog 72 = some ([i6 0,i6 0,i6 0,i6 0],[(0,1),(1,1),(2,2)]) := by kernel_rfl

theorem sl_52 : SlT Tryz.prog 52 72 4 32 (.agg #[i6 0,i6 0,i6 0,i6 0]) := SlT.of Tryz.underlying52 (by kernel_rfl) (by decide)

theorem sz_52 : (Tryz.prog.info? 52).map (·.size) = some 1 := by kernel_rfl

theorem ag_54 : AggT Tryz.prog 54 5 := ⟨⟨_,Tryz.underlying54,trivial⟩,by kernel_rfl⟩

theorem en_52 : En Tryz.prog 52 := En.of Tryz.func52 (by kernel_rfl) (by kernel_rfl)

theorem en_86 : En Tryz.prog 86 := En.of Tryz.func86 (by kernel_rfl) (by kernel_rfl)

theorem sz_72 : (Tryz.prog.info? 72).map (·.size) = some 4 := by kernel_rfl

theorem ag_72 : AggT Tryz.prog 72 4 := ⟨⟨_,Tryz.underlying72,trivial⟩,by kernel_rfl⟩

theorem sc_155 : ScT Tryz.prog 155 := ⟨⟨_,Tryz.underlying155,trivial⟩,by kernel_rfl⟩

theorem fa_72_0 : ∀ (q : Addr) (w : World),(Instr.fieldAt 72 (.pointer (some q)) 0).run Tryz.prog w = .ok (.pointer (some (q.add 0))) w := fun _ _ => by kernel_rfl

theorem en_80 : En Tryz.prog 80 := En.of Tryz.func80 (by kernel_rfl) (by kernel_rfl)

theorem fa_72_1 : ∀ (q : Addr) (w : World),(Instr.fieldAt 72 (.pointer (some q)) 1).run Tryz.prog w = .ok (.pointer (some (q.add 1))) w := fun _ _ => by kernel_rfl

theorem fa_72_2 : ∀ (q : Addr) (w : World),(Instr.fieldAt 72 (.pointer (some q)) 2).run Tryz.prog w = .ok (.pointer (some (q.add 2))) w := fun _ _ => by kernel_rfl

theorem fa_29_0 : ∀ (q : Addr) (w : World),(Instr.fieldAt 29 (.pointer (some q)) 0).run Tryz.prog w = .ok (.pointer (some (q.add 0))) w := fun _ _ => by kernel_rfl

theorem fa_29_1 : ∀ (q : Addr) (w : World),(Instr.fieldAt 29 (.pointer (some q)) 1).run Tryz.prog w = .ok (.pointer (some (q.add 1))) w := fun _ _ => by kernel_rfl

theorem en_91 : En Tryz.prog 91 := En.of Tryz.func91 (by kernel_rfl) (by kernel_rfl)

theorem en_159 : En Tryz.prog 159 := En.of Tryz.func159 (by kernel_rfl) (by kernel_rfl)

theorem en_185 : En Tryz.prog 185 := En.of Tryz.func185 (by kernel_rfl) (by kernel_rfl)

theorem en_158 : En Tryz.prog 158 := En.of Tryz.func158 (by kernel_rfl) (by kernel_rfl)

theorem en_90 : En Tryz.prog 90 := En.of Tryz.func90 (by kernel_rfl) (by kernel_rfl)

theorem en_31 : En Tryz.prog 31 := En.of Tryz.func31 (by kernel_rfl) (by kernel_rfl)

theorem en_99 : En Tryz.prog 99 := En.of Tryz.func99 (by kernel_rfl) (by kernel_rfl)

theorem en_101 : En Tryz.prog 101 := En.of Tryz.func101 (by kernel_rfl) (by kernel_rfl)

theorem zr_72 : (Tryz.prog.info? 72).map (·.zero) = some (some (.agg #[i6 0,i6 0,i6 0,i6 0])) := by kernel_rfl

theorem en_102 : En Tryz.prog 102 := En.of Tryz.func102 (by kernel_rfl) (by kernel_rfl)

theorem zr_147 : (Tryz.prog.info? 147).map (·.zero) = some (some (.agg #[.nilFunc])) := by kernel_rfl

theorem bt_147 : builtInfo Tryz.prog 147 = some ([.nilFunc],[(0,1)]) := by kernel_rfl

theorem sz_147 : (Tryz.prog.info? 147).map (·.size) = some 1 := by kernel_rfl

theorem ag_147 : AggT Tryz.prog 147 1 := ⟨⟨_,Tryz.underlying147,trivial⟩,by kernel_rfl⟩

theorem en_83 : En Tryz.prog 83 := En.of Tryz.func83 (by kernel_rfl) (by kernel_rfl)

theorem sl_25 : SlT Tryz.prog 25 3 1 8 (i6 0) := SlT.of Tryz.underlying25 (by kernel_rfl) (by decide)

theorem en_104 : En Tryz.prog 104 := En.of Tryz.func104 (by kernel_rfl) (by kernel_rfl)

theorem fa_147_0 : ∀ (q : Addr) (w : World),(Instr.fieldAt 147 (.pointer (some q)) 0).run Tryz.prog w = .ok (.pointer (some (q.add 0))) w := fun _ _ => by kernel_rfl

theorem sc_145 : ScT Tryz.prog 145 := ⟨⟨_,Tryz.underlying145,trivial⟩,by kernel_rfl⟩

theorem en_156 : En Tryz.prog 156 := En.of Tryz.func156 (by kernel_rfl) (by kernel_rfl)

theorem en_160 : En Tryz.prog 160 := En.of Tryz.func160 (by kernel_rfl) (by kernel_rfl)

theorem en_93 : En Tryz.prog 93 := En.of Tryz.func93 (by kernel_rfl) (by kernel_rfl)

theorem en_103 : En Tryz.prog 103 := En.of Tryz.func103 (by kernel_rfl) (by kernel_rfl)

theorem en_38 : En Tryz.prog 38 := En.of Tryz.func38 (by kernel_rfl) (by kernel_rfl)

theorem zr_78 : (Tryz.prog.info? 78).map (·.zero) = some (some (.agg #[.slice none 0 0,.slice none 0 0])) := by kernel_rfl

@[reducible] def kd_25 : Kd (List Int) := kL encI_i64 3 1
theorem kdo_25 : KdOk kd_25 := kL_ok _ _ _
theorem one_kd_25 : ∀ r,(kd_25.v r).length = 1 ∧ ones (kd_25.v r) = true := fun _ => ⟨rfl,rfl⟩

theorem sl_75 : SlT Tryz.prog 75 25 1 24 (.slice none 0 0) := SlT.of Tryz.underlying75 (by kernel_rfl) (by decide)

theorem bt_101 : builtInfo Tryz.prog 101 = some ([i6 0,.slice none 0 0],[(0,1),(1,1)]) := by kernel_rfl

@[reducible] def kd_101 : Kd crew_Station := Kd.comp (kL encI_i64 3 1) (fun x => x.Order) (fun h x => [i6 x.Places,.slice h.1 x.Order.length h.2])
theorem kdo_101 : KdOk kd_101 := KdOk.comp (kL_ok _ _ _) _ _
theorem one_kd_101 : ∀ r,(kd_101.v r).length = 2 ∧ ones (kd_101.v r) = true := fun _ => ⟨rfl,rfl⟩

theorem sl_76 : SlT Tryz.prog 76 101 2 32 (.agg #[i6 0,.slice none 0 0]) := SlT.of Tryz.underlying76 (by kernel_rfl) (by decide)

theorem bt_78 : builtInfo Tryz.prog 78 = some ([.slice none 0 0,.slice none 0 0],[(0,1),(1,1)]) := by kernel_rfl

theorem sz_78 : (Tryz.prog.info? 78).map (·.size) = some 2 := by kernel_rfl

theorem ag_78 : AggT Tryz.prog 78 2 := ⟨⟨_,Tryz.underlying78,trivial⟩,by kernel_rfl⟩

theorem en_67 : En Tryz.prog 67 := En.of Tryz.func67 (by kernel_rfl) (by kernel_rfl)

theorem fa_78_0 : ∀ (q : Addr) (w : World),(Instr.fieldAt 78 (.pointer (some q)) 0).run Tryz.prog w = .ok (.pointer (some (q.add 0))) w := fun _ _ => by kernel_rfl

theorem sc_75 : ScT Tryz.prog 75 := ⟨⟨_,Tryz.underlying75,trivial⟩,by kernel_rfl⟩

theorem fa_78_1 : ∀ (q : Addr) (w : World),(Instr.fieldAt 78 (.pointer (some q)) 1).run Tryz.prog w = .ok (.pointer (some (q.add 1))) w := fun _ _ => by kernel_rfl

theorem sc_76 : ScT Tryz.prog 76 := ⟨⟨_,Tryz.underlying76,trivial⟩,by kernel_rfl⟩

theorem sz_25 : (Tryz.prog.info? 25).map (·.size) = some 1 := by kernel_rfl

theorem sc_25 : ScT Tryz.prog 25 := ⟨⟨_,Tryz.underlying25,trivial⟩,by kernel_rfl⟩

theorem sc_185 : ScT Tryz.prog 185 := ⟨⟨_,Tryz.underlying185,trivial⟩,by kernel_rfl⟩

theorem sc_143 : ScT Tryz.prog 143 := ⟨⟨_,Tryz.underlying143,trivial⟩,by kernel_rfl⟩

theorem en_118 : En Tryz.prog 118 := En.of Tryz.func118 (by kernel_rfl) (by kernel_rfl)

theorem en_157 : En Tryz.prog 157 := En.of Tryz.func157 (by kernel_rfl) (by kernel_rfl)

theorem en_97 : En Tryz.prog 97 := En.of Tryz.func97 (by kernel_rfl) (by kernel_rfl)

theorem en_113 : En Tryz.prog 113 := En.of Tryz.func113 (by kernel_rfl) (by kernel_rfl)

theorem en_87 : En Tryz.prog 87 := En.of Tryz.func87 (by kernel_rfl) (by kernel_rfl)

theorem en_117 : En Tryz.prog 117 := En.of Tryz.func117 (by kernel_rfl) (by kernel_rfl)

theorem en_169 : En Tryz.prog 169 := En.of Tryz.func169 (by kernel_rfl) (by kernel_rfl)

theorem en_191 : En Tryz.prog 191 := En.of Tryz.func191 (by kernel_rfl) (by kernel_rfl)

theorem en_168 : En Tryz.prog 168 := En.of Tryz.func168 (by kernel_rfl) (by kernel_rfl)

theorem en_116 : En Tryz.prog 116 := En.of Tryz.func116 (by kernel_rfl) (by kernel_rfl)

theorem sz_101 : (Tryz.prog.info? 101).map (·.size) = some 2 := by kernel_rfl

theorem ag_101 : AggT Tryz.prog 101 2 := ⟨⟨_,Tryz.underlying101,trivial⟩,by kernel_rfl⟩

theorem sc_187 : ScT Tryz.prog 187 := ⟨⟨_,Tryz.underlying187,trivial⟩,by kernel_rfl⟩

theorem fa_101_0 : ∀ (q : Addr) (w : World),(Instr.fieldAt 101 (.pointer (some q)) 0).run Tryz.prog w = .ok (.pointer (some (q.add 0))) w := fun _ _ => by kernel_rfl

theorem fa_101_1 : ∀ (q : Addr) (w : World),(Instr.fieldAt 101 (.pointer (some q)) 1).run Tryz.prog w = .ok (.pointer (some (q.add 1))) w := fun _ _ => by kernel_rfl

theorem en_121 : En Tryz.prog 121 := En.of Tryz.func121 (by kernel_rfl) (by kernel_rfl)

theorem en_120 : En Tryz.prog 120 := En.of Tryz.func120 (by kernel_rfl) (by kernel_rfl)

theorem en_171 : En Tryz.prog 171 := En.of Tryz.func171 (by kernel_rfl) (by kernel_rfl)

theorem en_192 : En Tryz.prog 192 := En.of Tryz.func192 (by kernel_rfl) (by kernel_rfl)

theorem en_170 : En Tryz.prog 170 := En.of Tryz.func170 (by kernel_rfl) (by kernel_rfl)

theorem en_119 : En Tryz.prog 119 := En.of Tryz.func119 (by kernel_rfl) (by kernel_rfl)

theorem en_114 : En Tryz.prog 114 := En.of Tryz.func114 (by kernel_rfl) (by kernel_rfl)

theorem en_72 : En Tryz.prog 72 := En.of Tryz.func72 (by kernel_rfl) (by kernel_rfl)

theorem en_122 : En Tryz.prog 122 := En.of Tryz.func122 (by kernel_rfl) (by kernel_rfl)

theorem en_123 : En Tryz.prog 123 := En.of Tryz.func123 (by kernel_rfl) (by kernel_rfl)

theorem en_55 : En Tryz.prog 55 := En.of Tryz.func55 (by kernel_rfl) (by kernel_rfl)

theorem bt_181 : builtInfo Tryz.prog 181 = some ((catc [.slice none 0 0,.slice none 0 0] 144 encI_i64 (fun _ => 0) []),[(0,2),(2,144)]) := by kernel_rfl

theorem zr_101 : (Tryz.prog.info? 101).map (·.zero) = some (some (.agg #[i6 0,.slice none 0 0])) := by kernel_rfl

theorem fa_181_1 : ∀ (q : Addr) (w : World),(Instr.fieldAt 181 (.pointer (some q)) 1).run Tryz.prog w = .ok (.pointer (some (q.add 2))) w := fun _ _ => by kernel_rfl

theorem sz_178 : (Tryz.prog.info? 178).map (·.size) = some 12 := by kernel_rfl

theorem en_105 : En Tryz.prog 105 := En.of Tryz.func105 (by kernel_rfl) (by kernel_rfl)

theorem sc_166 : ScT Tryz.prog 166 := ⟨⟨_,Tryz.underlying166,trivial⟩,by kernel_rfl⟩

theorem fa_181_0 : ∀ (q : Addr) (w : World),(Instr.fieldAt 181 (.pointer (some q)) 0).run Tryz.prog w = .ok (.pointer (some (q.add 0))) w := fun _ _ => by kernel_rfl

@[reducible] def kd_223 : Kd (Option (List (Int × Bool))) := kM Value.bool
theorem one_kd_223 : ∀ r,(kd_223.v r).length = 1 ∧ ones (kd_223.v r) = true := one_kM _

theorem sl_222 : SlT Tryz.prog 222 223 1 8 (.map none) := SlT.of Tryz.underlying222 (by kernel_rfl) (by decide)

theorem zr_222 : (Tryz.prog.info? 222).map (·.zero) = some (some (.slice none 0 0)) := by kernel_rfl

theorem sz_222 : (Tryz.prog.info? 222).map (·.size) = some 1 := by kernel_rfl

theorem sc_222 : ScT Tryz.prog 222 := ⟨⟨_,Tryz.underlying222,trivial⟩,by kernel_rfl⟩

theorem sz_223 : (Tryz.prog.info? 223).map (·.size) = some 1 := by kernel_rfl

theorem en_166 : En Tryz.prog 166 := En.of Tryz.func166 (by kernel_rfl) (by kernel_rfl)

theorem en_107 : En Tryz.prog 107 := En.of Tryz.func107 (by kernel_rfl) (by kernel_rfl)

theorem zr_25 : (Tryz.prog.info? 25).map (·.zero) = some (some (.slice none 0 0)) := by kernel_rfl

theorem zr_99 : (Tryz.prog.info? 99).map (·.zero) = some (some (.slice none 0 0)) := by kernel_rfl

theorem zr_213 : (Tryz.prog.info? 213).map (·.zero) = some (some (.nilFunc)) := by kernel_rfl

theorem sz_213 : (Tryz.prog.info? 213).map (·.size) = some 1 := by kernel_rfl

theorem sc_213 : ScT Tryz.prog 213 := ⟨⟨_,Tryz.underlying213,trivial⟩,by kernel_rfl⟩

theorem en_111 : En Tryz.prog 111 := En.of Tryz.func111 (by kernel_rfl) (by kernel_rfl)

theorem en_110 : En Tryz.prog 110 := En.of Tryz.func110 (by kernel_rfl) (by kernel_rfl)

theorem zr_3 : (Tryz.prog.info? 3).map (·.zero) = some (some (i6 0)) := by kernel_rfl

theorem sc_99 : ScT Tryz.prog 99 := ⟨⟨_,Tryz.underlying99,trivial⟩,by kernel_rfl⟩

theorem sz_86 : (Tryz.prog.info? 86).map (·.size) = some 2 := by kernel_rfl

theorem ag_86 : AggT Tryz.prog 86 2 := ⟨⟨_,Tryz.underlying86,trivial⟩,by kernel_rfl⟩

theorem bt_86 : builtInfo Tryz.prog 86 = some ([i6 0,i6 0],[(0,1),(1,1)]) := by kernel_rfl

theorem ge_86 : Tryz.prog.eqGuardType Tryz.prog.depth 86 = false := by kernel_rfl

theorem eqs_86 (x0 : Int) (x1 : Int) (y0 : Int) (y1 : Int) (w : World) : (Op.equalIn 10000 86 (.agg #[i6 x0,i6 x1]) (.agg #[i6 y0,i6 y1])).run Tryz.prog w = .ok (x0 == y0 && x1 == y1) w := by
 rw [run_equalIn_agg w 9999 86 _ _ (by kernel_rfl) (by kernel_rfl)]
 simp [Op.eqFields,part,go_sem]
 repeat' split
 all_goals simp_all

theorem en_165 : En Tryz.prog 165 := En.of Tryz.func165 (by kernel_rfl) (by kernel_rfl)

theorem en_188 : En Tryz.prog 188 := En.of Tryz.func188 (by kernel_rfl) (by kernel_rfl)

theorem en_164 : En Tryz.prog 164 := En.of Tryz.func164 (by kernel_rfl) (by kernel_rfl)

theorem sc_223 : ScT Tryz.prog 223 := ⟨⟨_,Tryz.underlying223,trivial⟩,by kernel_rfl⟩

theorem zr_4 : (Tryz.prog.info? 4).map (·.zero) = some (some (.bool false)) := by kernel_rfl

theorem sl_99 : SlT Tryz.prog 99 86 2 16 (.agg #[i6 0,i6 0]) := SlT.of Tryz.underlying99 (by kernel_rfl) (by decide)

theorem sz_99 : (Tryz.prog.info? 99).map (·.size) = some 1 := by kernel_rfl

theorem en_163 : En Tryz.prog 163 := En.of Tryz.func163 (by kernel_rfl) (by kernel_rfl)

theorem en_167 : En Tryz.prog 167 := En.of Tryz.func167 (by kernel_rfl) (by kernel_rfl)

theorem en_106 : En Tryz.prog 106 := En.of Tryz.func106 (by kernel_rfl) (by kernel_rfl)

theorem en_43 : En Tryz.prog 43 := En.of Tryz.func43 (by kernel_rfl) (by kernel_rfl)

theorem zr_86 : (Tryz.prog.info? 86).map (·.zero) = some (some (.agg #[i6 0,i6 0])) := by kernel_rfl

theorem zr_166 : (Tryz.prog.info? 166).map (·.zero) = some (some (.pointer none)) := by kernel_rfl

theorem zr_34 : (Tryz.prog.info? 34).map (·.zero) = some (some (i6 0)) := by kernel_rfl

theorem sz_166 : (Tryz.prog.info? 166).map (·.size) = some 1 := by kernel_rfl

theorem sz_34 : (Tryz.prog.info? 34).map (·.size) = some 1 := by kernel_rfl

theorem sc_34 : ScT Tryz.prog 34 := ⟨⟨_,Tryz.underlying34,trivial⟩,by kernel_rfl⟩

theorem en_108 : En Tryz.prog 108 := En.of Tryz.func108 (by kernel_rfl) (by kernel_rfl)

theorem zr_172 : (Tryz.prog.info? 172).map (·.zero) = some (some (.agg #[.slice none 0 0,.slice none 0 0,.slice none 0 0,.slice none 0 0,.slice none 0 0,.slice none 0 0,.slice none 0 0,.slice none 0 0,.slice none 0 0,.slice none 0 0,.slice none 0 0,.slice none 0 0])) := by kernel_rfl

theorem ag_172 : AggT Tryz.prog 172 12 := ⟨⟨_,Tryz.underlying172,trivial⟩,by kernel_rfl⟩

theorem sz_172 : (Tryz.prog.info? 172).map (·.size) = some 12 := by kernel_rfl

theorem en_109 : En Tryz.prog 109 := En.of Tryz.func109 (by kernel_rfl) (by kernel_rfl)

theorem en_112 : En Tryz.prog 112 := En.of Tryz.func112 (by kernel_rfl) (by kernel_rfl)

theorem en_46 : En Tryz.prog 46 := En.of Tryz.func46 (by kernel_rfl) (by kernel_rfl)

theorem sc_192 : ScT Tryz.prog 192 := ⟨⟨_,Tryz.underlying192,trivial⟩,by kernel_rfl⟩

theorem fa_86_0 : ∀ (q : Addr) (w : World),(Instr.fieldAt 86 (.pointer (some q)) 0).run Tryz.prog w = .ok (.pointer (some (q.add 0))) w := fun _ _ => by kernel_rfl

theorem fa_86_1 : ∀ (q : Addr) (w : World),(Instr.fieldAt 86 (.pointer (some q)) 1).run Tryz.prog w = .ok (.pointer (some (q.add 1))) w := fun _ _ => by kernel_rfl

theorem en_129 : En Tryz.prog 129 := En.of Tryz.func129 (by kernel_rfl) (by kernel_rfl)

theorem en_172 : En Tryz.prog 172 := En.of Tryz.func172 (by kernel_rfl) (by kernel_rfl)

theorem en_128 : En Tryz.prog 128 := En.of Tryz.func128 (by kernel_rfl) (by kernel_rfl)

theorem sz_4 : (Tryz.prog.info? 4).map (·.size) = some 1 := by kernel_rfl

theorem sc_4 : ScT Tryz.prog 4 := ⟨⟨_,Tryz.underlying4,trivial⟩,by kernel_rfl⟩

theorem en_193 : En Tryz.prog 193 := En.of Tryz.func193 (by kernel_rfl) (by kernel_rfl)

theorem en_173 : En Tryz.prog 173 := En.of Tryz.func173 (by kernel_rfl) (by kernel_rfl)

theorem en_130 : En Tryz.prog 130 := En.of Tryz.func130 (by kernel_rfl) (by kernel_rfl)

theorem en_59 : En Tryz.prog 59 := En.of Tryz.func59 (by kernel_rfl) (by kernel_rfl)

theorem bt_31 : builtInfo Tryz.prog 31 = some ([i6 0,i6 0,i6 0,i6 0,i6 0,i6 0],[(0,2),(2,2),(4,1),(5,1)]) := by kernel_rfl

theorem sl_22 : SlT Tryz.prog 22 31 6 48 (.agg #[i6 0,i6 0,i6 0,i6 0,i6 0,i6 0]) := SlT.of Tryz.underlying22 (by kernel_rfl) (by decide)

theorem en_68 : En Tryz.prog 68 := En.of Tryz.func68 (by kernel_rfl) (by kernel_rfl)

theorem sz_31 : (Tryz.prog.info? 31).map (·.size) = some 6 := by kernel_rfl

theorem ag_31 : AggT Tryz.prog 31 6 := ⟨⟨_,Tryz.underlying31,trivial⟩,by kernel_rfl⟩

theorem sc_219 : ScT Tryz.prog 219 := ⟨⟨_,Tryz.underlying219,trivial⟩,by kernel_rfl⟩

theorem fa_31_0 : ∀ (q : Addr) (w : World),(Instr.fieldAt 31 (.pointer (some q)) 0).run Tryz.prog w = .ok (.pointer (some (q.add 0))) w := fun _ _ => by kernel_rfl

theorem en_154 : En Tryz.prog 154 := En.of Tryz.func154 (by kernel_rfl) (by kernel_rfl)

theorem fa_31_1 : ∀ (q : Addr) (w : World),(Instr.fieldAt 31 (.pointer (some q)) 1).run Tryz.prog w = .ok (.pointer (some (q.add 2))) w := fun _ _ => by kernel_rfl

theorem fa_31_2 : ∀ (q : Addr) (w : World),(Instr.fieldAt 31 (.pointer (some q)) 2).run Tryz.prog w = .ok (.pointer (some (q.add 4))) w := fun _ _ => by kernel_rfl

theorem fa_31_3 : ∀ (q : Addr) (w : World),(Instr.fieldAt 31 (.pointer (some q)) 3).run Tryz.prog w = .ok (.pointer (some (q.add 5))) w := fun _ _ => by kernel_rfl

theorem en_153 : En Tryz.prog 153 := En.of Tryz.func153 (by kernel_rfl) (by kernel_rfl)

theorem en_184 : En Tryz.prog 184 := En.of Tryz.func184 (by kernel_rfl) (by kernel_rfl)

theorem en_200 : En Tryz.prog 200 := En.of Tryz.func200 (by kernel_rfl) (by kernel_rfl)

theorem en_183 : En Tryz.prog 183 := En.of Tryz.func183 (by kernel_rfl) (by kernel_rfl)

theorem en_152 : En Tryz.prog 152 := En.of Tryz.func152 (by kernel_rfl) (by kernel_rfl)

theorem en_79 : En Tryz.prog 79 := En.of Tryz.func79 (by kernel_rfl) (by kernel_rfl)

theorem en_82 : En Tryz.prog 82 := En.of Tryz.func82 (by kernel_rfl) (by kernel_rfl)

theorem zr_31 : (Tryz.prog.info? 31).map (·.zero) = some (some (.agg #[i6 0,i6 0,i6 0,i6 0,i6 0,i6 0])) := by kernel_rfl

theorem en_155 : En Tryz.prog 155 := En.of Tryz.func155 (by kernel_rfl) (by kernel_rfl)

theorem en_81 : En Tryz.prog 81 := En.of Tryz.func81 (by kernel_rfl) (by kernel_rfl)

theorem sl_33 : SlT Tryz.prog 33 29 2 16 (.agg #[i6 0,i6 0]) := SlT.of Tryz.underlying33 (by kernel_rfl) (by decide)

theorem en_18 : En Tryz.prog 18 := En.of Tryz.func18 (by kernel_rfl) (by kernel_rfl)

theorem en_22 : En Tryz.prog 22 := En.of Tryz.func22 (by kernel_rfl) (by kernel_rfl)

theorem en_29 : En Tryz.prog 29 := En.of Tryz.func29 (by kernel_rfl) (by kernel_rfl)

theorem ge_29 : Tryz.prog.eqGuardType Tryz.prog.depth 29 = false := by kernel_rfl

theorem eqs_29 (x0 : Int) (x1 : Int) (y0 : Int) (y1 : Int) (w : World) : (Op.equalIn 10000 29 (.agg #[i6 x0,i6 x1]) (.agg #[i6 y0,i6 y1])).run Tryz.prog w = .ok (x0 == y0 && x1 == y1) w := by
 rw [run_equalIn_agg w 9999 29 _ _ (by kernel_rfl) (by kernel_rfl)]
 simp [Op.eqFields,part,go_sem]
 repeat' split
 all_goals simp_all

theorem en_21 : En Tryz.prog 21 := En.of Tryz.func21 (by kernel_rfl) (by kernel_rfl)

theorem en_24 : En Tryz.prog 24 := En.of Tryz.func24 (by kernel_rfl) (by kernel_rfl)

theorem en_69 : En Tryz.prog 69 := En.of Tryz.func69 (by kernel_rfl) (by kernel_rfl)

theorem en_34 : En Tryz.prog 34 := En.of Tryz.func34 (by kernel_rfl) (by kernel_rfl)

theorem en_150 : En Tryz.prog 150 := En.of Tryz.func150 (by kernel_rfl) (by kernel_rfl)

theorem en_161 : En Tryz.prog 161 := En.of Tryz.func161 (by kernel_rfl) (by kernel_rfl)

theorem en_162 : En Tryz.prog 162 := En.of Tryz.func162 (by kernel_rfl) (by kernel_rfl)

theorem en_95 : En Tryz.prog 95 := En.of Tryz.func95 (by kernel_rfl) (by kernel_rfl)

theorem en_98 : En Tryz.prog 98 := En.of Tryz.func98 (by kernel_rfl) (by kernel_rfl)

theorem en_96 : En Tryz.prog 96 := En.of Tryz.func96 (by kernel_rfl) (by kernel_rfl)

theorem en_36 : En Tryz.prog 36 := En.of Tryz.func36 (by kernel_rfl) (by kernel_rfl)

theorem bt_24 : builtInfo Tryz.prog 24 = some ([i6 0,i6 0,i6 0],[(0,1),(1,1),(2,1)]) := by kernel_rfl

theorem fa_24_0 : ∀ (q : Addr) (w : World),(Instr.fieldAt 24 (.pointer (some q)) 0).run Tryz.prog w = .ok (.pointer (some (q.add 0))) w := fun _ _ => by kernel_rfl

theorem fa_24_1 : ∀ (q : Addr) (w : World),(Instr.fieldAt 24 (.pointer (some q)) 1).run Tryz.prog w = .ok (.pointer (some (q.add 1))) w := fun _ _ => by kernel_rfl

theorem fa_24_2 : ∀ (q : Addr) (w : World),(Instr.fieldAt 24 (.pointer (some q)) 2).run Tryz.prog w = .ok (.pointer (some (q.add 2))) w := fun _ _ => by kernel_rfl

theorem en_88 : En Tryz.prog 88 := En.of Tryz.func88 (by kernel_rfl) (by kernel_rfl)

theorem en_26 : En Tryz.prog 26 := En.of Tryz.func26 (by kernel_rfl) (by kernel_rfl)

theorem en_15 : En Tryz.prog 15 := En.of Tryz.func15 (by kernel_rfl) (by kernel_rfl)

theorem en_89 : En Tryz.prog 89 := En.of Tryz.func89 (by kernel_rfl) (by kernel_rfl)

theorem en_30 : En Tryz.prog 30 := En.of Tryz.func30 (by kernel_rfl) (by kernel_rfl)

def kit_New (N : Nat) (bytes : List Int) : Option (Int × Int) :=
 some (0,0)
theorem kit_New_ok {N : Nat} {G : Pers} {Lf : List Ent} {w : World} (bytes : List Int) {bytes_p : Option Addr} {bytes_c : Nat} (h_bytes : Rd G 1 bytes_p bytes_c (bytes.map encI_u8)) (hc : Ctx G (Lf) w) {res : Int × Int} (hF : kit_New N bytes = some res) : Calls Tryz.prog 42 #[.slice bytes_p bytes.length bytes_c] w (fun e w => ∃ (b'1 : Nat),e = .returned (pq b'1) ∧ Ctx G (.box b'1 [.slice bytes_p bytes.length bytes_c,i6 res.1,i6 res.2] 165::Lf) w) := by
 unfold kit_New at hF
 refine fnIn (args := [.slice bytes_p bytes.length bytes_c]) Tryz.func42 rfl Tryz.ntmps42 rfl fun a hf => wp_seq_k fun K1 h1 => cReg ?_
 refine stP hf rfl rfl rfl (pA rfl) fun a hf => cNil ?_
 refine h1 _ _ ?_
 refine wp_seq_k fun K2 h2 => cReg ?_
 refine stP hf rfl rfl rfl (pM rfl) fun a hf => stP hf rfl rfl rfl (pBuildS (cells := [.slice bytes_p bytes.length bytes_c,i6 0,i6 0]) bt_165 rfl rfl) fun a hf => stBx (cs := [.slice bytes_p bytes.length bytes_c,i6 0,i6 0]) hf hc rfl rfl rfl rfl fun b_1 a w hf hc => stP hf rfl rfl rfl (pA rfl) fun a hf => cNil ?_
 refine h2 _ _ ?_
 refine wp_ret ?_
 obtain rfl := sj hF
 exact fnOut1 (by simp) rfl Tryz.results42 hf hc (show look _ 2 = _ from rfl) ⟨b_1,rfl,hc⟩

def kit_Stream_Next_j9 (N : Nat) (s_ : kit_Stream) (n : Int) (b_2 : Int) (b_3 : Int) : Option (Int × Int × Int) :=
 Option.bind (nz n) fun un_1 =>
 some (b_3.tmod n,W (s_.used + 1),(W ((W ((W (5 * s_.mix)) + b_2)) + 1)).tmod 251)
def kit_Stream_Next_j6 (N : Nat) (s_ : kit_Stream) (n : Int) (b_2 : Int) : Option (Int × Int × Int) :=
 cond (decide (256 < n))
 (kit_Stream_Next_j9 N s_ n b_2 (W ((W (256 * b_2)) + ((W ((W ((W (5 * s_.mix)) + b_2)) + 1)).tmod 251))))
 (kit_Stream_Next_j9 N s_ n b_2 b_2)
def kit_Stream_Next (N : Nat) (s_ : kit_Stream) (n : Int) : Option (Int × Int × Int) :=
 cond ((decide (n < 2)) || (((s_.bytes.length : Nat) : Int) == 0))
 (some (0,s_.used,s_.mix))
 (Option.bind (nz ((s_.bytes.length : Nat) : Int)) fun un =>
 Option.bind (getI s_.bytes (s_.used.tmod ((s_.bytes.length : Nat) : Int))) fun e_1 =>
 cond (decide (((s_.bytes.length : Nat) : Int) ≤ s_.used))
 (Option.bind (nz ((s_.bytes.length : Nat) : Int)) fun un_2 =>
 kit_Stream_Next_j6 N s_ n (W ((W (e_1)) + (W ((W (11 * s_.mix)) + (W (s_.used.tdiv ((s_.bytes.length : Nat) : Int))))))))
 (kit_Stream_Next_j6 N s_ n (W (e_1))))
theorem kit_Stream_Next_ok {N : Nat} {G : Pers} {Lf : List Ent} {w : World} (s_ : kit_Stream) (n : Int) {b_ : Nat} {s__bytes_p : Option Addr} {s__bytes_c : Nat} (h_s__bytes : Rd G 1 s__bytes_p s__bytes_c (s_.bytes.map encI_u8)) (hc : Ctx G (.box b_ [.slice s__bytes_p s_.bytes.length s__bytes_c,i6 s_.used,i6 s_.mix] 165::Lf) w) {res : Int × Int × Int} (hF : kit_Stream_Next N s_ n = some res) : Calls Tryz.prog 45 #[pq b_,i6 n] w (fun e w => e = .returned (i6 res.1) ∧ Ctx G (.box b_ [.slice s__bytes_p s_.bytes.length s__bytes_c,i6 res.2.1,i6 res.2.2] 165::Lf) w) := by
 unfold kit_Stream_Next at hF
 refine fnIn (args := [pq b_,i6 n]) Tryz.func45 rfl Tryz.ntmps45 rfl fun a hf => wp_seq_k fun K1 h1 => cReg ?_
 refine stP hf rfl rfl rfl (pA rfl) fun a hf => cNil ?_
 refine h1 _ _ ?_
 refine wp_seq_k fun K2 h2 => wp_seq_k fun K3 h3 => cReg ?_
 refine stP hf rfl rfl rfl (pM rfl) fun a hf => stP hf rfl rfl rfl (pLt rfl rfl) fun a hf => stP hf rfl rfl rfl (pM rfl) fun a hf => stCut 7 (fun a w => Has 92 a [(0,pq b_),(1,i6 n),(6,i6 n),(7,.bool (decide (n < 2))),(8,.bool (decide (n < 2))),(15,.bool ((decide (n < 2)) || (((s_.bytes.length : Nat) : Int) == 0)))] ∧ Ctx G (.box b_ [.slice s__bytes_p s_.bytes.length s__bytes_c,i6 s_.used,i6 s_.mix] 165::Lf) w) ?_ ?_
 ·cases hb : (decide (n < 2))
  ·rw [hb] at hf
   refine stP hf rfl rfl rfl (pM rfl) fun a hf => stP hf rfl rfl rfl (pNC rfl) fun a hf => stP hf rfl rfl rfl (pFA fa_165_0 rfl) fun a hf => stE hf hc rfl rfl rfl (eLd1 sc_74 rfl (cell_box m0 rfl)) fun a w hf hc => stP hf rfl rfl rfl (pLenS Tryz.underlying74 rfl) fun a hf => stP hf rfl rfl rfl (pEq rfl rfl) fun a hf => stP hf rfl rfl rfl (pPf rfl rfl) fun a hf => cNil ⟨hf.kp rfl,hc⟩
  ·rw [hb] at hf
   refine stS hf rfl rfl rfl fun a hf => stS hf rfl rfl rfl fun a hf => stS hf rfl rfl rfl fun a hf => stS hf rfl rfl rfl fun a hf => stS hf rfl rfl rfl fun a hf => stS hf rfl rfl rfl fun a hf => stP hf rfl rfl rfl (pPt rfl rfl) fun a hf => cNil ⟨hf.kp rfl,hc⟩
 intro a w ⟨hf,hc⟩
 refine cNil ?_
 refine h3 _ _ ?_
 refine cCond (b := ((decide (n < 2)) || (((s_.bytes.length : Nat) : Int) == 0))) hf rfl (fun hb => ?_) (fun hb => ?_)
 ·replace hF := condT hb hF
  clear hb
  refine wp_seq_k fun K4 h4 => cReg ?_
  refine stP hf rfl rfl rfl (pA rfl) fun a hf => cNil ?_
  refine h4 _ _ ?_
  refine wp_ret ?_
  refine xThenR ?_
  obtain rfl := sj hF
  exact fnOut1 (by simp) rfl Tryz.results45 hf hc (show look _ 4 = _ from rfl) ⟨rfl,hc⟩
 ·replace hF := condF hb hF
  clear hb
  refine wp_skip ?_
  refine h2 _ _ ?_
  refine wp_seq_k fun K5 h5 => ?_
  obtain ⟨un,hun,hF⟩ := bnd_some hF
  obtain ⟨e_1,he_1,hF⟩ := bnd_some hF
  obtain ⟨b_1,o,qa,qp⟩ := h_s__bytes.atm he_1
  refine cQ hc follows_mx (by kernel_rfl) ?_
  refine qE hf rfl rfl rfl (Pu.ev (pM rfl)) fun a hf => qE hf rfl rfl rfl (Pu.ev (pNC rfl)) fun a hf => qE hf rfl rfl rfl (Pu.ev (pFA fa_165_0 rfl)) fun a hf => qE hf rfl rfl rfl (eLd1 sc_74 rfl (cell_box m0 rfl)) fun a hf => qE hf rfl rfl rfl (Pu.ev (pM rfl)) fun a hf => qE hf rfl rfl rfl (Pu.ev (pNC rfl)) fun a hf => qE hf rfl rfl rfl (Pu.ev (pFA fa_165_1 rfl)) fun a hf => qE hf rfl rfl rfl (eLd1 sc_3 rfl (cell_box m0 rfl)) fun a hf => qE hf rfl rfl rfl (Pu.ev (pM rfl)) fun a hf => qE hf rfl rfl rfl (Pu.ev (pNC rfl)) fun a hf => qE hf rfl rfl rfl (Pu.ev (pFA fa_165_0 rfl)) fun a hf => qE hf rfl rfl rfl (eLd1 sc_74 rfl (cell_box m0 rfl)) fun a hf => qE hf rfl rfl rfl (Pu.ev (pLenS Tryz.underlying74 rfl)) fun a hf => ?_
  refine qE hf rfl rfl rfl (Pu.ev (pRem rfl rfl (nz_spec hun))) fun a hf => qE hf rfl rfl rfl (Pu.ev (pIA Tryz.underlying74 sz_5 rfl rfl qa)) fun a hf => qE hf rfl rfl rfl (eLd1 sc_5 rfl (cell_pc (j := 0) qp rfl)) fun a hf => qE hf rfl rfl rfl (Pu.ev (pCv Tryz.underlying5 Tryz.underlying3 rfl)) fun a hf => qE hf rfl rfl rfl (Pu.ev (pA rfl)) fun a hf => ?_
  intro w hc
  refine h5 _ _ ?_
  refine wp_seq_k fun K6 h6 => ?_
  have hj6 : ∀ (b_2 : Int) a w,Has 92 a [(0,pq b_),(1,i6 n),(5,i6 b_2)] → Ctx G (.box b_ [.slice s__bytes_p s_.bytes.length s__bytes_c,i6 s_.used,i6 s_.mix] 165::Lf) w → kit_Stream_Next_j6 N s_ n b_2 = some res → K6 a w := by
   repeat (clear hF)
   repeat (clear hc)
   repeat (clear hf)
   intro b_2 a w hf hc hF
   unfold kit_Stream_Next_j6 at hF
   refine h6 _ _ ?_
   refine wp_seq_k fun K7 h7 => cReg ?_
   refine stP hf rfl rfl rfl (pM rfl) fun a hf => stP hf rfl rfl rfl (pM rfl) fun a hf => stP hf rfl rfl rfl (pNC rfl) fun a hf => stP hf rfl rfl rfl (pFA fa_165_2 rfl) fun a hf => stE hf hc rfl rfl rfl (eLd1 sc_3 rfl (cell_box m0 rfl)) fun a w hf hc => stP hf rfl rfl rfl (pMul rfl rfl) fun a hf => stP hf rfl rfl rfl (pM rfl) fun a hf => stP hf rfl rfl rfl (pAdd rfl rfl) fun a hf => stP hf rfl rfl rfl (pAdd rfl rfl) fun a hf => stP hf rfl rfl rfl (pRem rfl rfl (by decide)) fun a hf => stP hf rfl rfl rfl (pNC rfl) fun a hf => stP hf rfl rfl rfl (pFA fa_165_2 rfl) fun a hf => stSt (vs := [i6 ((W ((W ((W (5 * s_.mix)) + b_2)) + 1)).tmod 251)]) hf hc rfl rfl rfl rfl sz_3 rfl rfl u0 fun w hc => ?_
   refine cNil ?_
   refine h7 _ _ ?_
   refine wp_seq_k fun K8 h8 => cReg ?_
   refine stP hf rfl rfl rfl (pM rfl) fun a hf => stP hf rfl rfl rfl (pNC rfl) fun a hf => stP hf rfl rfl rfl (pFA fa_165_1 rfl) fun a hf => stE hf hc rfl rfl rfl (eLd1 sc_3 rfl (cell_box m0 rfl)) fun a w hf hc => stP hf rfl rfl rfl (pAdd rfl rfl) fun a hf => stP hf rfl rfl rfl (pNC rfl) fun a hf => stP hf rfl rfl rfl (pFA fa_165_1 rfl) fun a hf => stSt (vs := [i6 (W (s_.used + 1))]) hf hc rfl rfl rfl rfl sz_3 rfl rfl u0 fun w hc => cNil ?_
   refine h8 _ _ ?_
   refine wp_seq_k fun K9 h9 => ?_
   have hj9 : ∀ (b_3 : Int) a w,Has 92 a [(1,i6 n),(5,i6 b_3)] → Ctx G (.box b_ [.slice s__bytes_p s_.bytes.length s__bytes_c,i6 (W (s_.used + 1)),i6 ((W ((W ((W (5 * s_.mix)) + b_2)) + 1)).tmod 251)] 165::Lf) w → kit_Stream_Next_j9 N s_ n b_2 b_3 = some res → K9 a w := by
    repeat (clear hF)
    repeat (clear hc)
    repeat (clear hf)
    intro b_3 a w hf hc hF
    unfold kit_Stream_Next_j9 at hF
    refine h9 _ _ ?_
    refine wp_seq_k fun K10 h10 => cReg ?_
    refine stP hf rfl rfl rfl (pM rfl) fun a hf => stP hf rfl rfl rfl (pM rfl) fun a hf => ?_
    obtain ⟨un_1,hun_1,hF⟩ := bnd_some hF
    refine stP hf rfl rfl rfl (pRem rfl rfl (nz_spec hun_1)) fun a hf => stP hf rfl rfl rfl (pA rfl) fun a hf => cNil ?_
    refine h10 _ _ ?_
    refine wp_ret ?_
    obtain rfl := sj hF
    exact fnOut1 (by simp) rfl Tryz.results45 hf hc (show look _ 4 = _ from rfl) ⟨rfl,hc⟩
   refine wp_seq_k fun K11 h11 => cReg ?_
   refine stP hf rfl rfl rfl (pM rfl) fun a hf => stP hf rfl rfl rfl (pGt rfl rfl) fun a hf => cNil ?_
   refine h11 _ _ ?_
   refine cCond (b := (decide (256 < n))) hf rfl (fun hb => ?_) (fun hb => ?_)
   ·replace hF := condT hb hF
    clear hb
    refine cReg ?_
    refine stP hf rfl rfl rfl (pM rfl) fun a hf => stP hf rfl rfl rfl (pMul rfl rfl) fun a hf => stP hf rfl rfl rfl (pM rfl) fun a hf => stP hf rfl rfl rfl (pNC rfl) fun a hf => stP hf rfl rfl rfl (pFA fa_165_2 rfl) fun a hf => stE hf hc rfl rfl rfl (eLd1 sc_3 rfl (cell_box m0 rfl)) fun a w hf hc => stP hf rfl rfl rfl (pAdd rfl rfl) fun a hf => stP hf rfl rfl rfl (pA rfl) fun a hf => cNil ?_
    exact hj9 (W ((W (256 * b_2)) + ((W ((W ((W (5 * s_.mix)) + b_2)) + 1)).tmod 251))) _ _  (hf.kp rfl) hc hF
   ·replace hF := condF hb hF
    clear hb
    refine wp_skip ?_
    exact hj9 b_2 _ _  (hf.kp rfl) hc hF
  refine wp_seq_k fun K12 h12 => cQ hc follows_mx (by kernel_rfl) ?_
  refine qE hf rfl rfl rfl (Pu.ev (pM rfl)) fun a hf => qE hf rfl rfl rfl (Pu.ev (pNC rfl)) fun a hf => qE hf rfl rfl rfl (Pu.ev (pFA fa_165_1 rfl)) fun a hf => qE hf rfl rfl rfl (eLd1 sc_3 rfl (cell_box m0 rfl)) fun a hf => qE hf rfl rfl rfl (Pu.ev (pM rfl)) fun a hf => qE hf rfl rfl rfl (Pu.ev (pNC rfl)) fun a hf => qE hf rfl rfl rfl (Pu.ev (pFA fa_165_0 rfl)) fun a hf => qE hf rfl rfl rfl (eLd1 sc_74 rfl (cell_box m0 rfl)) fun a hf => qE hf rfl rfl rfl (Pu.ev (pLenS Tryz.underlying74 rfl)) fun a hf => qE hf rfl rfl rfl (Pu.ev (pGe rfl rfl)) fun a hf => ?_
  intro w hc
  refine h12 _ _ ?_
  refine cCond (b := (decide (((s_.bytes.length : Nat) : Int) ≤ s_.used))) hf rfl (fun hb => ?_) (fun hb => ?_)
  ·replace hF := condT hb hF
   clear hb
   obtain ⟨un_2,hun_2,hF⟩ := bnd_some hF
   refine cQ hc follows_mx (by kernel_rfl) ?_
   refine qE hf rfl rfl rfl (Pu.ev (pM rfl)) fun a hf => qE hf rfl rfl rfl (Pu.ev (pM rfl)) fun a hf => qE hf rfl rfl rfl (Pu.ev (pNC rfl)) fun a hf => qE hf rfl rfl rfl (Pu.ev (pFA fa_165_2 rfl)) fun a hf => qE hf rfl rfl rfl (eLd1 sc_3 rfl (cell_box m0 rfl)) fun a hf => qE hf rfl rfl rfl (Pu.ev (pMul rfl rfl)) fun a hf => qE hf rfl rfl rfl (Pu.ev (pM rfl)) fun a hf => qE hf rfl rfl rfl (Pu.ev (pNC rfl)) fun a hf => qE hf rfl rfl rfl (Pu.ev (pFA fa_165_1 rfl)) fun a hf => qE hf rfl rfl rfl (eLd1 sc_3 rfl (cell_box m0 rfl)) fun a hf => qE hf rfl rfl rfl (Pu.ev (pM rfl)) fun a hf => qE hf rfl rfl rfl (Pu.ev (pNC rfl)) fun a hf => qE hf rfl rfl rfl (Pu.ev (pFA fa_165_0 rfl)) fun a hf => ?_
   refine qE hf rfl rfl rfl (eLd1 sc_74 rfl (cell_box m0 rfl)) fun a hf => qE hf rfl rfl rfl (Pu.ev (pLenS Tryz.underlying74 rfl)) fun a hf => qE hf rfl rfl rfl (Pu.ev (pQuo rfl rfl (nz_spec hun_2))) fun a hf => qE hf rfl rfl rfl (Pu.ev (pAdd rfl rfl)) fun a hf => qE hf rfl rfl rfl (Pu.ev (pAdd rfl rfl)) fun a hf => qE hf rfl rfl rfl (Pu.ev (pA rfl)) fun a hf => ?_
   intro w hc
   exact hj6 (W ((W (e_1)) + (W ((W (11 * s_.mix)) + (W (s_.used.tdiv ((s_.bytes.length : Nat) : Int))))))) _ _  (hf.kp rfl) hc hF
  ·replace hF := condF hb hF
   clear hb
   refine wp_skip ?_
   exact hj6 (W (e_1)) _ _  (hf.kp rfl) hc hF

def kit_Stream_Within (N : Nat) (s_ : kit_Stream) (lo : Int) (hi_ : Int) : Option (Int × Int × Int) :=
 Option.bind (kit_Stream_Next N s_ (W ((W (hi_ - lo)) + 1))) fun r =>
 some (W (lo + r.1),r.2.1,r.2.2)
theorem kit_Stream_Within_ok {N : Nat} {G : Pers} {Lf : List Ent} {w : World} (s_ : kit_Stream) (lo : Int) (hi_ : Int) {b_ : Nat} {s__bytes_p : Option Addr} {s__bytes_c : Nat} (h_s__bytes : Rd G 1 s__bytes_p s__bytes_c (s_.bytes.map encI_u8)) (hc : Ctx G (.box b_ [.slice s__bytes_p s_.bytes.length s__bytes_c,i6 s_.used,i6 s_.mix] 165::Lf) w) {res : Int × Int × Int} (hF : kit_Stream_Within N s_ lo hi_ = some res) : Calls Tryz.prog 50 #[pq b_,i6 lo,i6 hi_] w (fun e w => e = .returned (i6 res.1) ∧ Ctx G (.box b_ [.slice s__bytes_p s_.bytes.length s__bytes_c,i6 res.2.1,i6 res.2.2] 165::Lf) w) := by
 unfold kit_Stream_Within at hF
 refine fnIn (args := [pq b_,i6 lo,i6 hi_]) Tryz.func50 rfl Tryz.ntmps50 rfl fun a hf => wp_seq_k fun K1 h1 => cReg ?_
 refine stP hf rfl rfl rfl (pA rfl) fun a hf => cNil ?_
 refine h1 _ _ ?_
 refine wp_seq_k fun K2 h2 => cReg ?_
 refine stP hf rfl rfl rfl (pM rfl) fun a hf => stP hf rfl rfl rfl (pM rfl) fun a hf => stP hf rfl rfl rfl (pM rfl) fun a hf => stP hf rfl rfl rfl (pM rfl) fun a hf => stP hf rfl rfl rfl (pSub rfl rfl) fun a hf => stP hf rfl rfl rfl (pAdd rfl rfl) fun a hf => ?_
 obtain ⟨r,hr,hF⟩ := bnd_some hF
 refine stC (vs := [pq b_,i6 (W ((W (hi_ - lo)) + 1))]) (caps := []) hf rfl rfl rfl en_45 rfl rfl rfl rfl (kit_Stream_Next_ok s_ (W ((W (hi_ - lo)) + 1)) h_s__bytes (hc.pick k0) hr) ?_
 rintro _ w ⟨rfl,hc⟩
 refine ⟨_,rfl,fun a hf => ?_⟩
 refine stP hf rfl rfl rfl (pAdd rfl rfl) fun a hf => stP hf rfl rfl rfl (pA rfl) fun a hf => cNil ?_
 refine h2 _ _ ?_
 refine wp_ret ?_
 obtain rfl := sj hF
 exact fnOut1 (by simp) rfl Tryz.results50 hf hc (show look _ 6 = _ from rfl) ⟨rfl,hc⟩

def law11_span (N : Nat) (lo : Int) (hi_ : Int) : Option (api_Span) :=
 some (⟨lo,hi_⟩ : api_Span)
theorem law11_span_ok {N : Nat} {G : Pers} {Lf : List Ent} {w : World} (lo : Int) (hi_ : Int)   (hc : Ctx G (Lf) w) {res : api_Span} (hF : law11_span N lo hi_ = some res) : Calls Tryz.prog 51 #[i6 lo,i6 hi_] w (fun e w => e = .returned (.agg #[i6 res.Lo,i6 res.Hi]) ∧ Ctx G (Lf) w) := by
 unfold law11_span at hF
 refine fnIn (args := [i6 lo,i6 hi_]) Tryz.func51 rfl Tryz.ntmps51 rfl fun a hf => wp_seq_k fun K1 h1 => cReg ?_
 refine stAl (cs := [i6 0,i6 0]) hf hc rfl rfl zr_29 rfl fun b_1 a w hf hc => cNil ?_
 refine h1 _ _ ?_
 refine wp_seq_k fun K2 h2 => cReg ?_
 refine stP hf rfl rfl rfl (pM rfl) fun a hf => stP hf rfl rfl rfl (pM rfl) fun a hf => stP hf rfl rfl rfl (pBuildS (cells := [i6 lo,i6 hi_]) bt_29 rfl rfl) fun a hf => stSt (vs := [i6 lo,i6 hi_]) hf hc rfl rfl rfl rfl sz_29 rfl rfl u0 fun w hc => cNil ?_
 refine h2 _ _ ?_
 refine wp_ret ?_
 obtain rfl := sj hF
 exact fnOut1 (by simp) rfl Tryz.results51 hf hc (rv_cellN (vs := [i6 lo,i6 hi_]) ag_29 rfl rfl (cells_box (n := 2) m0 rfl)) ⟨rfl,(hc.drop k0)⟩

def law11_Hung_b6 (N : Nat) (s_ : kit_Stream) (r_4 : Int × Int × Int) (x : Int) (b__0 : Int) (b__1 : Int) (x_1 : List crew_Ride) : Option (Step (Int × Int × Int × (List crew_Ride)) (crew_Cable × Int × Int)) :=
 cond (decide (x < r_4.1))
 (Option.bind (kit_Stream_Within N (⟨s_.bytes,b__0,b__1⟩ : kit_Stream) 40 110) fun r_5 =>
 Option.bind (kit_Stream_Next N (⟨s_.bytes,r_5.2.1,r_5.2.2⟩ : kit_Stream) 60) fun r_6 =>
 Option.bind (kit_Stream_Within N (⟨s_.bytes,r_6.2.1,r_6.2.2⟩ : kit_Stream) 1 30) fun r_7 =>
 Option.bind (kit_Stream_Next N (⟨s_.bytes,r_7.2.1,r_7.2.2⟩ : kit_Stream) 12) fun r_8 =>
 Option.bind (law11_span N r_5.1 (W (r_5.1 + r_8.1))) fun r_9 =>
 Option.bind (room ((x_1 ++ [(⟨r_6.1,r_7.1,r_9⟩ : crew_Ride)])).length) fun un_1 =>
 some (.cont (W (x + 1),r_8.2.1,r_8.2.2,(x_1 ++ [(⟨r_6.1,r_7.1,r_9⟩ : crew_Ride)]))))
 (some (.brk (x,b__0,b__1,x_1)))
def law11_Hung (N : Nat) (s_ : kit_Stream) (most : Int) : Option (crew_Cable × Int × Int) :=
 Option.bind (kit_Stream_Next N s_ 80) fun r =>
 Option.bind (kit_Stream_Within N (⟨s_.bytes,r.2.1,r.2.2⟩ : kit_Stream) 20 200) fun r_1 =>
 Option.bind (kit_Stream_Within N (⟨s_.bytes,r_1.2.1,r_1.2.2⟩ : kit_Stream) 100 500) fun r_2 =>
 Option.bind (kit_Stream_Within N (⟨s_.bytes,r_2.2.1,r_2.2.2⟩ : kit_Stream) 100 400) fun r_3 =>
 Option.bind (nz r_2.1) fun un =>
 Option.bind (kit_Stream_Next N (⟨s_.bytes,r_3.2.1,r_3.2.2⟩ : kit_Stream) (W (most + 1))) fun r_4 =>
 Option.bind (loopO (fun s6 => law11_Hung_b6 N s_ r_4 s6.1 s6.2.1 s6.2.2.1 s6.2.2.2) N (0,r_4.2.1,r_4.2.2,([] : List crew_Ride))) fun x6 =>
 exK x6 (fun s6 => some ((⟨r.1,r_1.1,r_2.1,W ((W ((W ((W (r.1 + r_3.1)) * r_1.1)) * 25)).tdiv r_2.1),s6.2.2.2⟩ : crew_Cable),s6.2.1,s6.2.2.1)) some
theorem law11_Hung_ok {N : Nat} {G : Pers} {Lf : List Ent} {w : World} (s_ : kit_Stream) (most : Int) {b_ : Nat} {s__bytes_p : Option Addr} {s__bytes_c : Nat} (h_s__bytes : Rd G 1 s__bytes_p s__bytes_c (s_.bytes.map encI_u8)) (hc : Ctx G (.box b_ [.slice s__bytes_p s_.bytes.length s__bytes_c,i6 s_.used,i6 s_.mix] 165::Lf) w) {res : crew_Cable × Int × Int} (hF : law11_Hung N s_ most = some res) : Calls Tryz.prog 52 #[pq b_,i6 most] w (fun e w => ∃ (p'1 : Option Addr) (c'1 : Nat),e = .returned (.agg #[i6 res.1.Car,i6 res.1.Wide,i6 res.1.Sag,i6 res.1.Most,.slice p'1 res.1.Rides.length c'1]) ∧ Ctx G (.row p'1 c'1 (res.1.Rides.map enc_crew_Ride) 72 4::.box b_ [.slice s__bytes_p s_.bytes.length s__bytes_c,i6 res.2.1,i6 res.2.2] 165::Lf) w) := by
 unfold law11_Hung at hF
 refine fnIn (args := [pq b_,i6 most]) Tryz.func52 rfl Tryz.ntmps52 rfl fun a hf => wp_seq_k fun K1 h1 => cReg ?_
 refine stAl (cs := [i6 0,i6 0,i6 0,i6 0,.slice none 0 0]) hf hc rfl rfl zr_54 rfl fun b_1 a w hf hc => cNil ?_
 refine h1 _ _ ?_
 refine wp_seq_k fun K2 h2 => cReg ?_
 refine stP hf rfl rfl rfl (pM rfl) fun a hf => ?_
 obtain ⟨r,hr,hF⟩ := bnd_some hF
 refine stC (vs := [pq b_,i6 80]) (caps := []) hf rfl rfl rfl en_45 rfl rfl rfl rfl (kit_Stream_Next_ok s_ 80 h_s__bytes (hc.pick k1) hr) ?_
 rintro _ w ⟨rfl,hc⟩
 refine ⟨_,rfl,fun a hf => ?_⟩
 refine stP hf rfl rfl rfl (pM rfl) fun a hf => ?_
 obtain ⟨r_1,hr_1,hF⟩ := bnd_some hF
 refine stC (vs := [pq b_,i6 20,i6 200]) (caps := []) hf rfl rfl rfl en_50 rfl rfl rfl rfl (kit_Stream_Within_ok (⟨s_.bytes,r.2.1,r.2.2⟩ : kit_Stream) 20 200 h_s__bytes (hc.pick k0) hr_1) ?_
 rintro _ w ⟨rfl,hc⟩
 refine ⟨_,rfl,fun a hf => ?_⟩
 refine stP hf rfl rfl rfl (pM rfl) fun a hf => ?_
 obtain ⟨r_2,hr_2,hF⟩ := bnd_some hF
 refine stC (vs := [pq b_,i6 100,i6 500]) (caps := []) hf rfl rfl rfl en_50 rfl rfl rfl rfl (kit_Stream_Within_ok (⟨s_.bytes,r_1.2.1,r_1.2.2⟩ : kit_Stream) 100 500 h_s__bytes (hc.pick k0) hr_2) ?_
 rintro _ w ⟨rfl,hc⟩
 refine ⟨_,rfl,fun a hf => ?_⟩
 refine stP hf rfl rfl rfl (pBuildS (cells := [i6 r.1,i6 r_1.1,i6 r_2.1,i6 0,.slice none 0 0]) bt_54 rfl rfl) fun a hf => stAl (cs := [i6 0,i6 0,i6 0,i6 0,.slice none 0 0]) hf hc rfl rfl zr_54 rfl fun b_2 a w hf hc => stSt (vs := [i6 r.1,i6 r_1.1,i6 r_2.1,i6 0,.slice none 0 0]) hf hc rfl rfl rfl rfl sz_54 rfl rfl u0 fun w hc => cNil ?_
 refine h2 _ _ ?_
 refine wp_seq_k fun K3 h3 => ?_
 obtain ⟨r_3,hr_3,hF⟩ := bnd_some hF
 obtain ⟨un,hun,hF⟩ := bnd_some hF
 refine regionE (fun θ => [⟨none,none,0,pq b_⟩,⟨none,none,1,i6 most⟩,⟨none,none,4,pq b_1⟩,⟨none,none,5,pq b_2⟩,⟨some 0,none,14,pq b_2⟩,⟨some 1,none,15,i6 r.1⟩,⟨some 2,none,16,pq b_⟩,⟨some 3,none,17,i6 r_3.1⟩,⟨some 4,none,18,i6 (W (r.1 + r_3.1))⟩,⟨some 5,none,19,.pointer (some ⟨b_2,1,none⟩)⟩,⟨some 6,none,20,i6 r_1.1⟩,⟨some 7,none,21,i6 (W ((W (r.1 + r_3.1)) * r_1.1))⟩,⟨some 8,none,22,i6 (W ((W ((W (r.1 + r_3.1)) * r_1.1)) * 25))⟩,⟨some 9,none,23,.pointer (some ⟨b_2,2,none⟩)⟩,⟨some 10,none,24,i6 r_2.1⟩,⟨some 11,none,25,i6 (W ((W ((W ((W (r.1 + r_3.1)) * r_1.1)) * 25)).tdiv r_2.1))⟩,⟨some 12,none,26,.pointer (some ⟨b_2,3,none⟩)⟩]) (fun E θ => (bif E 13 then .box b_2 [i6 r.1,i6 r_1.1,i6 r_2.1,i6 (W ((W ((W ((W (r.1 + r_3.1)) * r_1.1)) * 25)).tdiv r_2.1)),.slice none 0 0] 54 else .box b_2 [i6 r.1,i6 r_1.1,i6 r_2.1,i6 0,.slice none 0 0] 54)::(bif E 3 then .box b_ [.slice s__bytes_p s_.bytes.length s__bytes_c,i6 r_3.2.1,i6 r_3.2.2] 165 else .box b_ [.slice s__bytes_p s_.bytes.length s__bytes_c,i6 r_2.2.1,i6 r_2.2.2] 165)::.box b_1 [i6 0,i6 0,i6 0,i6 0,.slice none 0 0] 54::Lf) [(13,1),(13,6),(13,10)] (fun a w => Has 53 a [(0,pq b_),(1,i6 most),(4,pq b_1),(5,pq b_2)] ∧ Ctx G (.box b_2 [i6 r.1,i6 r_1.1,i6 r_2.1,i6 (W ((W ((W ((W (r.1 + r_3.1)) * r_1.1)) * 25)).tdiv r_2.1)),.slice none 0 0] 54::.box b_ [.slice s__bytes_p s_.bytes.length s__bytes_c,i6 r_3.2.1,i6 r_3.2.2] 165::.box b_1 [i6 0,i6 0,i6 0,i6 0,.slice none 0 0] 54::Lf) w) follows_mx (by kernel_rfl) (by kernel_rfl) (HasE.of hf ⟨rfl,rfl,rfl,rfl,trivial,trivial,trivial,trivial,trivial,trivial,trivial,trivial,trivial,trivial,trivial,trivial,trivial,trivial⟩) hc ⟨?_,?_,?_,?_,?_,?_,?_,?_,?_,?_,?_,?_,?_,?_,trivial⟩ ?_ ?_
 ·intro E θ a w hD hi hp he hc
  have hf := he.h0
  replace hf := hf.more he 3 rfl onT
  refine stP hf rfl rfl rfl (pFA fa_54_0 rfl) fun a hf => cNil ?_
  refine xThenN ?_
  intro ds u hau
  refine ⟨θ,he.put0 hi hau hf rfl 4 rfl rfl,?_⟩
  exact hc
 ·intro E θ a w hD hi hp he hc
  have e0 := hp.of (k := 0) rfl
  have e13 := hD.f 0 rfl hi
  try dsimp only at hc
  rw [e13] at hc
  have hf := he.h0
  replace hf := hf.more he 4 rfl (onP e0)
  refine stE hf hc rfl rfl rfl (eLd1 sc_3 rfl (cell_box m0 rfl)) fun a w hf hc => cNil ?_
  refine xThenN ?_
  intro ds u hau
  refine ⟨θ,he.put0 hi hau hf rfl 5 rfl rfl,?_⟩
  try dsimp only
  rw [updE_fls 1 e13 rfl]
  exact hc
 ·intro E θ a w hD hi hp he hc
  have hf := he.h0
  replace hf := hf.more he 0 rfl onT
  refine stP hf rfl rfl rfl (pM rfl) fun a hf => cNil ?_
  refine xThenN ?_
  intro ds u hau
  refine ⟨θ,he.put0 hi hau hf rfl 6 rfl rfl,?_⟩
  exact hc
 ·intro E θ a w hD hi hp he hc
  have e2 := hp.of (k := 2) rfl
  try dsimp only at hc
  rw [hi] at hc
  have hf := he.h0
  replace hf := hf.more he 6 rfl (onP e2)
  refine stC (vs := [pq b_,i6 100,i6 400]) (caps := []) hf rfl rfl rfl en_50 rfl rfl rfl rfl (kit_Stream_Within_ok (⟨s_.bytes,r_2.2.1,r_2.2.2⟩ : kit_Stream) 100 400 h_s__bytes (hc.pick k1) hr_3) ?_
  rintro _ w ⟨rfl,hc⟩
  refine ⟨_,rfl,fun a hf => ?_⟩
  refine cNil ?_
  refine xThenN ?_
  intro ds u hau
  replace hc := hc.pick k0
  replace hc := hc.pick k1
  refine ⟨θ,he.put0 hi hau hf rfl 7 rfl rfl,?_⟩
  try dsimp only
  rw [updE_self E 3]
  exact hc
 ·intro E θ a w hD hi hp he hc
  have e1 := hp.of (k := 1) rfl
  have e3 := hp.of (k := 3) rfl
  have hf := he.h0
  replace hf := hf.more he 5 rfl (onP e1)
  replace hf := hf.more he 7 rfl (onP e3)
  refine stP hf rfl rfl rfl (pAdd rfl rfl) fun a hf => cNil ?_
  refine xThenN ?_
  intro ds u hau
  refine ⟨θ,he.put0 hi hau hf rfl 8 rfl rfl,?_⟩
  exact hc
 ·intro E θ a w hD hi hp he hc
  have hf := he.h0
  replace hf := hf.more he 3 rfl onT
  refine stP hf rfl rfl rfl (pFA fa_54_1 rfl) fun a hf => cNil ?_
  refine xThenN ?_
  intro ds u hau
  refine ⟨θ,he.put0 hi hau hf rfl 9 rfl rfl,?_⟩
  exact hc
 ·intro E θ a w hD hi hp he hc
  have e5 := hp.of (k := 5) rfl
  have e13 := hD.f 1 rfl hi
  try dsimp only at hc
  rw [e13] at hc
  have hf := he.h0
  replace hf := hf.more he 9 rfl (onP e5)
  refine stE hf hc rfl rfl rfl (eLd1 sc_3 rfl (cell_box m0 rfl)) fun a w hf hc => cNil ?_
  refine xThenN ?_
  intro ds u hau
  refine ⟨θ,he.put0 hi hau hf rfl 10 rfl rfl,?_⟩
  try dsimp only
  rw [updE_fls 6 e13 rfl]
  exact hc
 ·intro E θ a w hD hi hp he hc
  have e4 := hp.of (k := 4) rfl
  have e6 := hp.of (k := 6) rfl
  have hf := he.h0
  replace hf := hf.more he 8 rfl (onP e4)
  replace hf := hf.more he 10 rfl (onP e6)
  refine stP hf rfl rfl rfl (pMul rfl rfl) fun a hf => cNil ?_
  refine xThenN ?_
  intro ds u hau
  refine ⟨θ,he.put0 hi hau hf rfl 11 rfl rfl,?_⟩
  exact hc
 ·intro E θ a w hD hi hp he hc
  have e7 := hp.of (k := 7) rfl
  have hf := he.h0
  replace hf := hf.more he 11 rfl (onP e7)
  refine stP hf rfl rfl rfl (pMul rfl rfl) fun a hf => cNil ?_
  refine xThenN ?_
  intro ds u hau
  refine ⟨θ,he.put0 hi hau hf rfl 12 rfl rfl,?_⟩
  exact hc
 ·intro E θ a w hD hi hp he hc
  have hf := he.h0
  replace hf := hf.more he 3 rfl onT
  refine stP hf rfl rfl rfl (pFA fa_54_2 rfl) fun a hf => cNil ?_
  refine xThenN ?_
  intro ds u hau
  refine ⟨θ,he.put0 hi hau hf rfl 13 rfl rfl,?_⟩
  exact hc
 ·intro E θ a w hD hi hp he hc
  have e9 := hp.of (k := 9) rfl
  have e13 := hD.f 2 rfl hi
  try dsimp only at hc
  rw [e13] at hc
  have hf := he.h0
  replace hf := hf.more he 13 rfl (onP e9)
  refine stE hf hc rfl rfl rfl (eLd1 sc_3 rfl (cell_box m0 rfl)) fun a w hf hc => cNil ?_
  refine xThenN ?_
  intro ds u hau
  refine ⟨θ,he.put0 hi hau hf rfl 14 rfl rfl,?_⟩
  try dsimp only
  rw [updE_fls 10 e13 rfl]
  exact hc
 ·intro E θ a w hD hi hp he hc
  have e8 := hp.of (k := 8) rfl
  have e10 := hp.of (k := 10) rfl
  have hf := he.h0
  replace hf := hf.more he 12 rfl (onP e8)
  replace hf := hf.more he 14 rfl (onP e10)
  refine stP hf rfl rfl rfl (pQuo rfl rfl (nz_spec hun)) fun a hf => cNil ?_
  refine xThenN ?_
  intro ds u hau
  refine ⟨θ,he.put0 hi hau hf rfl 15 rfl rfl,?_⟩
  exact hc
 ·intro E θ a w hD hi hp he hc
  have hf := he.h0
  replace hf := hf.more he 3 rfl onT
  refine stP hf rfl rfl rfl (pFA fa_54_3 rfl) fun a hf => cNil ?_
  refine xThenN ?_
  intro ds u hau
  refine ⟨θ,he.put0 hi hau hf rfl 16 rfl rfl,?_⟩
  exact hc
 ·intro E θ a w hD hi hp he hc
  have e11 := hp.of (k := 11) rfl
  have e12 := hp.of (k := 12) rfl
  try dsimp only at hc
  rw [hi] at hc
  have hf := he.h0
  replace hf := hf.more he 15 rfl (onP e11)
  replace hf := hf.more he 16 rfl (onP e12)
  refine stSt (vs := [i6 (W ((W ((W ((W (r.1 + r_3.1)) * r_1.1)) * 25)).tdiv r_2.1))]) hf hc rfl rfl rfl rfl sz_3 rfl rfl u0 fun w hc => cNil ?_
  refine xThenN ?_
  intro ds u hau
  refine ⟨θ,he.stay0 hi hau hf rfl,?_⟩
  try dsimp only
  rw [updE_self E 13]
  exact hc
 ·intro E θ a w hall he hc
  have hf := he.h0
  have e3 := hall 3 rfl
  have e13 := hall 13 rfl
  replace hf := hf.more he 3 rfl (onT)
  replace hf := hf.more he 2 rfl (onT)
  replace hf := hf.more he 1 rfl (onT)
  replace hf := hf.more he 0 rfl (onT)
  try dsimp only at hc
  rw [e3,e13] at hc
  exact ⟨hf.kp rfl,hc⟩
 rintro a w ⟨hf,hc⟩
 refine h3 _ _ ?_
 refine wp_seq_k fun K4 h4 => wp_seq_k fun K5 h5 => cReg ?_
 refine stP hf rfl rfl rfl (pM rfl) fun a hf => stP hf rfl rfl rfl (pM rfl) fun a hf => stP hf rfl rfl rfl (pAdd rfl rfl) fun a hf => ?_
 obtain ⟨r_4,hr_4,hF⟩ := bnd_some hF
 refine stC (vs := [pq b_,i6 (W (most + 1))]) (caps := []) hf rfl rfl rfl en_45 rfl rfl rfl rfl (kit_Stream_Next_ok (⟨s_.bytes,r_3.2.1,r_3.2.2⟩ : kit_Stream) (W (most + 1)) h_s__bytes (hc.pick k1) hr_4) ?_
 rintro _ w ⟨rfl,hc⟩
 refine ⟨_,rfl,fun a hf => ?_⟩
 refine stP hf rfl rfl rfl (pM rfl) fun a hf => cNil ?_
 refine h5 _ _ ?_
 refine wp_block ?_
 obtain ⟨x6,hx6,hF⟩ := bnd_some hF
 let S6 : (Int × Int × Int × (List crew_Ride)) → Act → World → Prop := (fun (zz : Int × Int × Int × (List crew_Ride)) a w => ∃ (p_1 : Option Addr) (c_1 : Nat),Has 53 a [(0,pq b_),(4,pq b_1),(5,pq b_2),(30,i6 r_4.1),(31,i6 zz.1)] ∧ Ctx G (.row p_1 c_1 (zz.2.2.2.map enc_crew_Ride) 72 4::.box b_ [.slice s__bytes_p s_.bytes.length s__bytes_c,i6 zz.2.1,i6 zz.2.2.1] 165::.box b_2 [i6 r.1,i6 r_1.1,i6 r_2.1,i6 (W ((W ((W ((W (r.1 + r_3.1)) * r_1.1)) * 25)).tdiv r_2.1)),.slice p_1 zz.2.2.2.length c_1] 54::.box b_1 [i6 0,i6 0,i6 0,i6 0,.slice none 0 0] 54::Lf) w)
 have hr6 : ∀ (zz : Int × Int × Int × (List crew_Ride)) a w,x6 = .go zz → S6 zz a w → K4 a w := by
  rintro ⟨x,b__0,b__1,x_1⟩ a w rfl ⟨p_1,c_1,hf,hc⟩
  replace hF := exK_go hF
  refine h4 _ _ ?_
  refine wp_seq_k fun K7 h7 => cReg ?_
  refine stE hf hc rfl rfl rfl (eLdN (vs := [i6 r.1,i6 r_1.1,i6 r_2.1,i6 (W ((W ((W ((W (r.1 + r_3.1)) * r_1.1)) * 25)).tdiv r_2.1)),.slice p_1 x_1.length c_1]) ag_54 rfl rfl (cells_box (n := 5) m2 rfl)) fun a w hf hc => stSt (vs := [i6 r.1,i6 r_1.1,i6 r_2.1,i6 (W ((W ((W ((W (r.1 + r_3.1)) * r_1.1)) * 25)).tdiv r_2.1)),.slice p_1 x_1.length c_1]) hf hc rfl rfl rfl rfl sz_54 rfl rfl u3 fun w hc => cNil ?_
  refine h7 _ _ ?_
  refine wp_ret ?_
  obtain rfl := sj hF
  replace hc := hc.drop k2
  exact fnOut1 (by simp) rfl Tryz.results52 hf hc (rv_cellN (vs := [i6 r.1,i6 r_1.1,i6 r_2.1,i6 (W ((W ((W ((W (r.1 + r_3.1)) * r_1.1)) * 25)).tdiv r_2.1)),.slice p_1 x_1.length c_1]) ag_54 rfl rfl (cells_box (n := 5) m2 rfl)) ⟨p_1,c_1,rfl,(hc.drop k2)⟩
 have ho6 : ∀ r,x6 = .out r → r = res := by
  rintro r rfl
  exact sj hF
 replace hc := hc.nilRow 72 4
 refine cLoop N (loopW (S := S6) (x := x6) ?_ N (0,r_4.2.1,r_4.2.2,([] : List crew_Ride)) _ _ ⟨none,0,hf.kp rfl,hc⟩ hx6)
 clear hF hf hc
 rintro ⟨x,b__0,b__1,x_1⟩ st6 a w KB6 ⟨p_1,c_1,hf,hc⟩ hF hfin6 hK6
 unfold law11_Hung_b6 at hF
 refine wp_seq_k fun K8 h8 => cReg ?_
 refine stP hf rfl rfl rfl (pLt rfl rfl) fun a hf => cNil ?_
 refine h8 _ _ ?_
 refine wp_seq_k fun K9 h9 => cCond (b := (decide (x < r_4.1))) hf rfl (fun hb => ?_) (fun hb => ?_)
 ·replace hF := condT hb hF
  clear hb
  refine wp_skip ?_
  refine h9 _ _ ?_
  refine wp_seq_k fun K10 h10 => wp_block ?_
  refine wp_seq_k fun K11 h11 => cReg ?_
  refine stP hf rfl rfl rfl (pM rfl) fun a hf => ?_
  obtain ⟨r_5,hr_5,hF⟩ := bnd_some hF
  refine stC (vs := [pq b_,i6 40,i6 110]) (caps := []) hf rfl rfl rfl en_50 rfl rfl rfl rfl (kit_Stream_Within_ok (⟨s_.bytes,b__0,b__1⟩ : kit_Stream) 40 110 h_s__bytes (hc.pick k1) hr_5) ?_
  rintro _ w ⟨rfl,hc⟩
  refine ⟨_,rfl,fun a hf => ?_⟩
  refine stP hf rfl rfl rfl (pA rfl) fun a hf => cNil ?_
  refine h11 _ _ ?_
  obtain ⟨r_6,hr_6,hF⟩ := bnd_some hF
  obtain ⟨r_7,hr_7,hF⟩ := bnd_some hF
  obtain ⟨r_8,hr_8,hF⟩ := bnd_some hF
  obtain ⟨r_9,hr_9,hF⟩ := bnd_some hF
  obtain ⟨un_1,hun_1,hF⟩ := bnd_some hF
  replace hc := hc.nilRow 0 0
  refine regionE (fun θ => [⟨none,none,0,pq b_⟩,⟨none,none,4,pq b_1⟩,⟨none,none,5,pq b_2⟩,⟨none,none,6,i6 r_5.1⟩,⟨none,none,30,i6 r_4.1⟩,⟨none,none,31,i6 x⟩,⟨some 0,none,35,.pointer (some ⟨b_2,4,none⟩)⟩,⟨some 1,none,36,.slice p_1 x_1.length c_1⟩,⟨some 2,none,37,pq b_⟩,⟨some 3,none,38,i6 r_6.1⟩,⟨some 4,none,39,pq b_⟩,⟨some 5,none,40,i6 r_7.1⟩,⟨some 6,none,41,i6 r_5.1⟩,⟨some 7,none,42,i6 r_5.1⟩,⟨some 8,none,43,pq b_⟩,⟨some 9,none,44,i6 r_8.1⟩,⟨some 10,none,45,i6 (W (r_5.1 + r_8.1))⟩,⟨some 11,none,46,.agg #[i6 r_9.Lo,i6 r_9.Hi]⟩,⟨some 12,none,47,.agg #[i6 r_6.1,i6 r_7.1,i6 r_9.Lo,i6 r_9.Hi]⟩,⟨some 13,none,48,.slice (some ⟨(θ 104).b,0,none⟩) 1 1⟩,⟨some 14,none,49,.slice ((θ 112).p) ((x_1 ++ [(⟨r_6.1,r_7.1,r_9⟩ : crew_Ride)]).length) ((θ 112).c)⟩,⟨some 15,none,50,.pointer (some ⟨b_2,4,none⟩)⟩]) (fun E θ => (bif E 13 then .row (some ⟨(θ 104).b,0,none⟩) 1 (([(⟨r_6.1,r_7.1,r_9⟩ : crew_Ride)] : List crew_Ride).map enc_crew_Ride) 72 4 else .row none 0 [] 0 0)::(bif E 9 then .box b_ [.slice s__bytes_p s_.bytes.length s__bytes_c,i6 r_8.2.1,i6 r_8.2.2] 165 else bif E 5 then .box b_ [.slice s__bytes_p s_.bytes.length s__bytes_c,i6 r_7.2.1,i6 r_7.2.2] 165 else bif E 3 then .box b_ [.slice s__bytes_p s_.bytes.length s__bytes_c,i6 r_6.2.1,i6 r_6.2.2] 165 else .box b_ [.slice s__bytes_p s_.bytes.length s__bytes_c,i6 r_5.2.1,i6 r_5.2.2] 165)::(bif E 14 then .row ((θ 112).p) ((θ 112).c) ((x_1 ++ [(⟨r_6.1,r_7.1,r_9⟩ : crew_Ride)]).map enc_crew_Ride) 72 4 else .row p_1 c_1 (x_1.map enc_crew_Ride) 72 4)::(bif E 16 then .box b_2 [i6 r.1,i6 r_1.1,i6 r_2.1,i6 (W ((W ((W ((W (r.1 + r_3.1)) * r_1.1)) * 25)).tdiv r_2.1)),.slice ((θ 112).p) ((x_1 ++ [(⟨r_6.1,r_7.1,r_9⟩ : crew_Ride)]).length) ((θ 112).c)] 54 else .box b_2 [i6 r.1,i6 r_1.1,i6 r_2.1,i6 (W ((W ((W ((W (r.1 + r_3.1)) * r_1.1)) * 25)).tdiv r_2.1)),.slice p_1 x_1.length c_1] 54)::.box b_1 [i6 0,i6 0,i6 0,i6 0,.slice none 0 0] 54::Lf) [(5,3),(16,1),(9,5),(11,9),(14,11),(16,14)] (fun a w => ∃ (b_4 : Nat) (p_3 : Option Addr) (c_3 : Nat),Has 53 a [(0,pq b_),(4,pq b_1),(5,pq b_2),(30,i6 r_4.1),(31,i6 x)] ∧ Ctx G (.row (some ⟨b_4,0,none⟩) 1 (([(⟨r_6.1,r_7.1,r_9⟩ : crew_Ride)] : List crew_Ride).map enc_crew_Ride) 72 4::.box b_ [.slice s__bytes_p s_.bytes.length s__bytes_c,i6 r_8.2.1,i6 r_8.2.2] 165::.row p_3 c_3 ((x_1 ++ [(⟨r_6.1,r_7.1,r_9⟩ : crew_Ride)]).map enc_crew_Ride) 72 4::.box b_2 [i6 r.1,i6 r_1.1,i6 r_2.1,i6 (W ((W ((W ((W (r.1 + r_3.1)) * r_1.1)) * 25)).tdiv r_2.1)),.slice p_3 ((x_1 ++ [(⟨r_6.1,r_7.1,r_9⟩ : crew_Ride)]).length) c_3] 54::.box b_1 [i6 0,i6 0,i6 0,i6 0,.slice none 0 0] 54::Lf) w) follows_mx (by kernel_rfl) (by kernel_rfl) (HasE.of hf ⟨rfl,rfl,rfl,rfl,rfl,rfl,trivial,trivial,trivial,trivial,trivial,trivial,trivial,trivial,trivial,trivial,trivial,trivial,trivial,trivial,trivial,trivial,trivial⟩) hc ⟨?_,?_,?_,?_,?_,?_,?_,?_,?_,?_,?_,?_,?_,?_,?_,?_,?_,trivial⟩ ?_ ?_
  ·intro E θ a w hD hi hp he hc
   have hf := he.h0
   replace hf := hf.more he 2 rfl onT
   refine stP hf rfl rfl rfl (pFA fa_54_4 rfl) fun a hf => cNil ?_
   refine xThenN ?_
   intro ds u hau
   refine ⟨θ,he.put0 hi hau hf rfl 6 rfl rfl,?_⟩
   exact hc
  ·intro E θ a w hD hi hp he hc
   have e0 := hp.of (k := 0) rfl
   have e16 := hD.f 1 rfl hi
   try dsimp only at hc
   rw [e16] at hc
   have hf := he.h0
   replace hf := hf.more he 6 rfl (onP e0)
   refine stE hf hc rfl rfl rfl (eLd1 sc_52 rfl (cell_box m3 rfl)) fun a w hf hc => cNil ?_
   refine xThenN ?_
   intro ds u hau
   refine ⟨θ,he.put0 hi hau hf rfl 7 rfl rfl,?_⟩
   try dsimp only
   rw [updE_fls 1 e16 rfl]
   exact hc
  ·intro E θ a w hD hi hp he hc
   have hf := he.h0
   replace hf := hf.more he 0 rfl onT
   refine stP hf rfl rfl rfl (pM rfl) fun a hf => cNil ?_
   refine xThenN ?_
   intro ds u hau
   refine ⟨θ,he.put0 hi hau hf rfl 8 rfl rfl,?_⟩
   exact hc
  ·intro E θ a w hD hi hp he hc
   have e2 := hp.of (k := 2) rfl
   have e5 := hD.f 0 rfl hi
   have e9 := hD.f 2 rfl e5
   have e11 := hD.f 3 rfl e9
   have e14 := hD.f 4 rfl e11
   try dsimp only at hc
   rw [hi,e5,e9,e14] at hc
   have hf := he.h0
   replace hf := hf.more he 8 rfl (onP e2)
   refine stC (vs := [pq b_,i6 60]) (caps := []) hf rfl rfl rfl en_45 rfl rfl rfl rfl (kit_Stream_Next_ok (⟨s_.bytes,r_5.2.1,r_5.2.2⟩ : kit_Stream) 60 h_s__bytes (hc.pick k1) hr_6) ?_
   rintro _ w ⟨rfl,hc⟩
   refine ⟨_,rfl,fun a hf => ?_⟩
   refine cNil ?_
   refine xThenN ?_
   intro ds u hau
   replace hc := hc.pick k0
   replace hc := hc.pick k1
   refine ⟨θ,he.put0 hi hau hf rfl 9 rfl rfl,?_⟩
   try dsimp only
   rw [updE_self E 3,updE_fls 3 e5 rfl,updE_fls 3 e9 rfl,updE_fls 3 e14 rfl]
   exact hc
  ·intro E θ a w hD hi hp he hc
   have hf := he.h0
   replace hf := hf.more he 0 rfl onT
   refine stP hf rfl rfl rfl (pM rfl) fun a hf => cNil ?_
   refine xThenN ?_
   intro ds u hau
   refine ⟨θ,he.put0 hi hau hf rfl 10 rfl rfl,?_⟩
   exact hc
  ·intro E θ a w hD hi hp he hc
   have e4 := hp.of (k := 4) rfl
   have e3 := hp.of (k := 3) rfl
   have e9 := hD.f 2 rfl hi
   have e11 := hD.f 3 rfl e9
   have e14 := hD.f 4 rfl e11
   try dsimp only at hc
   rw [e3,hi,e9,e14] at hc
   have hf := he.h0
   replace hf := hf.more he 10 rfl (onP e4)
   refine stC (vs := [pq b_,i6 1,i6 30]) (caps := []) hf rfl rfl rfl en_50 rfl rfl rfl rfl (kit_Stream_Within_ok (⟨s_.bytes,r_6.2.1,r_6.2.2⟩ : kit_Stream) 1 30 h_s__bytes (hc.pick k1) hr_7) ?_
   rintro _ w ⟨rfl,hc⟩
   refine ⟨_,rfl,fun a hf => ?_⟩
   refine cNil ?_
   refine xThenN ?_
   intro ds u hau
   replace hc := hc.pick k0
   replace hc := hc.pick k1
   refine ⟨θ,he.put0 hi hau hf rfl 11 rfl rfl,?_⟩
   try dsimp only
   rw [updE_tru 5 e3,updE_self E 5,updE_fls 5 e9 rfl,updE_fls 5 e14 rfl]
   exact hc
  ·intro E θ a w hD hi hp he hc
   have hf := he.h0
   replace hf := hf.more he 3 rfl onT
   refine stP hf rfl rfl rfl (pM rfl) fun a hf => cNil ?_
   refine xThenN ?_
   intro ds u hau
   refine ⟨θ,he.put0 hi hau hf rfl 12 rfl rfl,?_⟩
   exact hc
  ·intro E θ a w hD hi hp he hc
   have hf := he.h0
   replace hf := hf.more he 3 rfl onT
   refine stP hf rfl rfl rfl (pM rfl) fun a hf => cNil ?_
   refine xThenN ?_
   intro ds u hau
   refine ⟨θ,he.put0 hi hau hf rfl 13 rfl rfl,?_⟩
   exact hc
  ·intro E θ a w hD hi hp he hc
   have hf := he.h0
   replace hf := hf.more he 0 rfl onT
   refine stP hf rfl rfl rfl (pM rfl) fun a hf => cNil ?_
   refine xThenN ?_
   intro ds u hau
   refine ⟨θ,he.put0 hi hau hf rfl 14 rfl rfl,?_⟩
   exact hc
  ·intro E θ a w hD hi hp he hc
   have e8 := hp.of (k := 8) rfl
   have e5 := hp.of (k := 5) rfl
   have e3 := hD.t 0 rfl e5
   have e11 := hD.f 3 rfl hi
   have e14 := hD.f 4 rfl e11
   try dsimp only at hc
   rw [e3,e5,hi,e14] at hc
   have hf := he.h0
   replace hf := hf.more he 14 rfl (onP e8)
   refine stC (vs := [pq b_,i6 12]) (caps := []) hf rfl rfl rfl en_45 rfl rfl rfl rfl (kit_Stream_Next_ok (⟨s_.bytes,r_7.2.1,r_7.2.2⟩ : kit_Stream) 12 h_s__bytes (hc.pick k1) hr_8) ?_
   rintro _ w ⟨rfl,hc⟩
   refine ⟨_,rfl,fun a hf => ?_⟩
   refine cNil ?_
   refine xThenN ?_
   intro ds u hau
   replace hc := hc.pick k0
   replace hc := hc.pick k1
   refine ⟨θ,he.put0 hi hau hf rfl 15 rfl rfl,?_⟩
   try dsimp only
   rw [updE_tru 9 e3,updE_tru 9 e5,updE_self E 9,updE_fls 9 e14 rfl]
   exact hc
  ·intro E θ a w hD hi hp he hc
   have e7 := hp.of (k := 7) rfl
   have e9 := hp.of (k := 9) rfl
   have hf := he.h0
   replace hf := hf.more he 13 rfl (onP e7)
   replace hf := hf.more he 15 rfl (onP e9)
   refine stP hf rfl rfl rfl (pAdd rfl rfl) fun a hf => cNil ?_
   refine xThenN ?_
   intro ds u hau
   refine ⟨θ,he.put0 hi hau hf rfl 16 rfl rfl,?_⟩
   exact hc
  ·intro E θ a w hD hi hp he hc
   have e6 := hp.of (k := 6) rfl
   have e10 := hp.of (k := 10) rfl
   have hf := he.h0
   replace hf := hf.more he 12 rfl (onP e6)
   replace hf := hf.more he 16 rfl (onP e10)
   refine stE hf hc rfl rfl rfl (eC (v := .agg #[i6 r_9.Lo,i6 r_9.Hi]) (vs := [i6 r_5.1,i6 (W (r_5.1 + r_8.1))]) (caps := []) en_51 rfl rfl rfl rfl (fun w hc => law11_span_ok r_5.1 (W (r_5.1 + r_8.1)) hc hr_9)) fun a w hf hc => cNil ?_
   refine xThenN ?_
   intro ds u hau
   refine ⟨θ,he.put0 hi hau hf rfl 17 rfl rfl,?_⟩
   exact hc
  ·intro E θ a w hD hi hp he hc
   have e3 := hp.of (k := 3) rfl
   have e5 := hp.of (k := 5) rfl
   have e11 := hp.of (k := 11) rfl
   have hf := he.h0
   replace hf := hf.more he 9 rfl (onP e3)
   replace hf := hf.more he 11 rfl (onP e5)
   replace hf := hf.more he 17 rfl (onP e11)
   refine stP hf rfl rfl rfl (pBuildS (cells := [i6 r_6.1,i6 r_7.1,i6 r_9.Lo,i6 r_9.Hi]) bt_72 rfl rfl) fun a hf => cNil ?_
   refine xThenN ?_
   intro ds u hau
   refine ⟨θ,he.put0 hi hau hf rfl 18 rfl rfl,?_⟩
   exact hc
  ·intro E θ a w hD hi hp he hc
   have e12 := hp.of (k := 12) rfl
   try dsimp only at hc
   rw [hi] at hc
   have hf := he.h0
   replace hf := hf.more he 18 rfl (onP e12)
   refine stBS (rows := ([(⟨r_6.1,r_7.1,r_9⟩ : crew_Ride)] : List crew_Ride).map enc_crew_Ride) (vs := [(0,.agg #[i6 r_6.1,i6 r_7.1,i6 r_9.Lo,i6 r_9.Hi])]) hf hc rfl rfl sl_52 rfl ⟨rfl,rfl,rfl,trivial⟩ rfl rfl fun b_3 a w hf hc => cNil ?_
   refine xThenN ?_
   intro ds u hau
   replace hc := hc.drop k1
   refine ⟨(setT θ 104 ⟨b_3,none,0,(fun _ => (none,0))⟩),he.put hi hau hf rfl [] trivial ⟨qq,qq,qq,qq,qq,qq,qq,qq,qq,qq,qq,qq,qq,qq,qq,qq,qq,qq,qq,qq,qq,qq,trivial⟩,?_⟩
   try dsimp only
   rw [updE_self E 13]
   exact hc
  ·intro E θ a w hD hi hp he hc
   have e1 := hp.of (k := 1) rfl
   have e13 := hp.of (k := 13) rfl
   have e16 := hD.f 5 rfl hi
   try dsimp only at hc
   rw [e13,hi,e16] at hc
   have hf := he.h0
   replace hf := hf.more he 7 rfl (onP e1)
   replace hf := hf.more he 19 rfl (onP e13)
   refine stApm (xs := x_1) (ys := ([(⟨r_6.1,r_7.1,r_9⟩ : crew_Ride)] : List crew_Ride)) hf hc rfl rfl sl_52 rfl rfl rfl rfl rfl one_enc_crew_Ride (src_row hc m0) (fun _ _ => u2) (by simpa using room_spec hun_1) fun p_2 c_2 a w hf hc => cNil ?_
   refine xThenN ?_
   intro ds u hau
   refine ⟨(setT θ 112 ⟨0,p_2,c_2,(fun _ => (none,0))⟩),he.put hi hau hf rfl [] trivial ⟨qq,qq,qq,qq,qq,qq,qq,qq,qq,qq,qq,qq,qq,qq,qq,qq,qq,qq,qq,qq,qq,qq,trivial⟩,?_⟩
   try dsimp only
   rw [updE_tru 14 e13,updE_self E 14,updE_fls 14 e16 rfl]
   exact hc
  ·intro E θ a w hD hi hp he hc
   have hf := he.h0
   replace hf := hf.more he 2 rfl onT
   refine stP hf rfl rfl rfl (pFA fa_54_4 rfl) fun a hf => cNil ?_
   refine xThenN ?_
   intro ds u hau
   refine ⟨θ,he.put0 hi hau hf rfl 21 rfl rfl,?_⟩
   exact hc
  ·intro E θ a w hD hi hp he hc
   have e14 := hp.of (k := 14) rfl
   have e15 := hp.of (k := 15) rfl
   try dsimp only at hc
   rw [hi] at hc
   have hf := he.h0
   replace hf := hf.more he 20 rfl (onP e14)
   replace hf := hf.more he 21 rfl (onP e15)
   refine stSt (vs := [.slice ((θ 112).p) ((x_1 ++ [(⟨r_6.1,r_7.1,r_9⟩ : crew_Ride)]).length) ((θ 112).c)]) hf hc rfl rfl rfl rfl sz_52 rfl rfl u3 fun w hc => cNil ?_
   refine xThenN ?_
   intro ds u hau
   refine ⟨θ,he.stay0 hi hau hf rfl,?_⟩
   try dsimp only
   rw [updE_self E 16]
   exact hc
  ·intro E θ a w hall he hc
   have hf := he.h0
   have e3 := hall 3 rfl
   have e5 := hall 5 rfl
   have e9 := hall 9 rfl
   have e13 := hall 13 rfl
   have e14 := hall 14 rfl
   have e16 := hall 16 rfl
   replace hf := hf.more he 5 rfl (onT)
   replace hf := hf.more he 4 rfl (onT)
   replace hf := hf.more he 2 rfl (onT)
   replace hf := hf.more he 1 rfl (onT)
   replace hf := hf.more he 0 rfl (onT)
   try dsimp only at hc
   rw [e3,e5,e9,e13,e14,e16] at hc
   exact ⟨(θ 104).b,(θ 112).p,(θ 112).c,hf.kp rfl,hc⟩
  rintro a w ⟨b_4,p_3,c_3,hf,hc⟩
  refine h10 _ _ ?_
  refine cReg ?_
  refine stP hf rfl rfl rfl (pAdd rfl rfl) fun a hf => stP hf rfl rfl rfl (pM rfl) fun a hf => cNil ?_
  replace hc := hc.drop k0
  replace hc := hc.pick k0
  replace hc := hc.pick k1
  exact hK6 (W (x + 1),r_8.2.1,r_8.2.2,(x_1 ++ [(⟨r_6.1,r_7.1,r_9⟩ : crew_Ride)])) _ _ (sj hF).symm ⟨p_3,c_3,hf.kp rfl,hc⟩
 ·replace hF := condF hb hF
  clear hb
  refine wp_exit ?_
  refine xThen ?_
  refine xThen ?_
  have he := sj hF
  rw [← he] at hfin6
  refine cHit ?_
  exact hr6 _ _ _ hfin6 ⟨p_1,c_1,hf.kp rfl,hc⟩

def crew_in (n : Int) (least : Int) (greatest : Int) : Bool :=
 ((decide (least ≤ n)) && (decide (n ≤ greatest)))
theorem crew_in_ok {G : Pers} {Lf : List Ent} {w : World} (n : Int) (least : Int) (greatest : Int)   (hc : Ctx G (Lf) w) {res : Bool} (hF : crew_in n least greatest = res) : Calls Tryz.prog 86 #[i6 n,i6 least,i6 greatest] w (fun e w => e = .returned (.bool res) ∧ Ctx G (Lf) w) := by
 unfold crew_in at hF
 refine fnIn (args := [i6 n,i6 least,i6 greatest]) Tryz.func86 rfl Tryz.ntmps86 rfl fun a hf => wp_seq_k fun K1 h1 => cReg ?_
 refine stP hf rfl rfl rfl (pA rfl) fun a hf => cNil ?_
 refine h1 _ _ ?_
 refine wp_seq_k fun K2 h2 => cReg ?_
 refine stP hf rfl rfl rfl (pM rfl) fun a hf => stP hf rfl rfl rfl (pM rfl) fun a hf => stP hf rfl rfl rfl (pGe rfl rfl) fun a hf => stP hf rfl rfl rfl (pM rfl) fun a hf => stCut 4 (fun a w => Has 15 a [(0,i6 n),(1,i6 least),(2,i6 greatest),(6,.bool false),(7,i6 n),(8,i6 least),(9,.bool (decide (least ≤ n))),(10,.bool (decide (least ≤ n))),(14,.bool ((decide (least ≤ n)) && (decide (n ≤ greatest))))] ∧ Ctx G (Lf) w) ?_ ?_
 ·cases hb : (decide (least ≤ n))
  ·rw [hb] at hf
   refine stS hf rfl rfl rfl fun a hf => stS hf rfl rfl rfl fun a hf => stS hf rfl rfl rfl fun a hf => stP hf rfl rfl rfl (pPf rfl rfl) fun a hf => cNil ⟨hf.kp rfl,hc⟩
  ·rw [hb] at hf
   refine stP hf rfl rfl rfl (pM rfl) fun a hf => stP hf rfl rfl rfl (pM rfl) fun a hf => stP hf rfl rfl rfl (pLe rfl rfl) fun a hf => stP hf rfl rfl rfl (pPt rfl rfl) fun a hf => cNil ⟨hf.kp rfl,hc⟩
 intro a w ⟨hf,hc⟩
 refine stP hf rfl rfl rfl (pA rfl) fun a hf => cNil ?_
 refine h2 _ _ ?_
 refine wp_ret ?_
 obtain rfl := hF
 exact fnOut1 (by simp) rfl Tryz.results86 hf hc (show look _ 6 = _ from rfl) ⟨rfl,hc⟩

def crew_minute (n : Int) : Bool :=
 (crew_in n 0 100000)
theorem crew_minute_ok {G : Pers} {Lf : List Ent} {w : World} (n : Int)   (hc : Ctx G (Lf) w) {res : Bool} (hF : crew_minute n = res) : Calls Tryz.prog 80 #[i6 n] w (fun e w => e = .returned (.bool res) ∧ Ctx G (Lf) w) := by
 unfold crew_minute at hF
 refine fnIn (args := [i6 n]) Tryz.func80 rfl Tryz.ntmps80 rfl fun a hf => wp_seq_k fun K1 h1 => cReg ?_
 refine stP hf rfl rfl rfl (pA rfl) fun a hf => cNil ?_
 refine h1 _ _ ?_
 refine wp_seq_k fun K2 h2 => cReg ?_
 refine stP hf rfl rfl rfl (pM rfl) fun a hf => stE hf hc rfl rfl rfl (eC (v := .bool (crew_in n 0 100000)) (vs := [i6 n,i6 0,i6 100000]) (caps := []) en_86 rfl rfl rfl rfl (fun w hc => crew_in_ok n 0 100000 hc rfl)) fun a w hf hc => stP hf rfl rfl rfl (pA rfl) fun a hf => cNil ?_
 refine h2 _ _ ?_
 refine wp_ret ?_
 obtain rfl := hF
 exact fnOut1 (by simp) rfl Tryz.results80 hf hc (show look _ 2 = _ from rfl) ⟨rfl,hc⟩

def crew_CheckCable_1 (r : crew_Ride) : Bool :=
 ((((crew_minute r.From) && (crew_in r.Long 1 100000)) && (crew_in r.Weight.Lo 0 r.Weight.Hi)) && (decide (r.Weight.Hi ≤ 1000)))
theorem crew_CheckCable_1_ok {G : Pers} {Lf : List Ent} {w : World} (r : crew_Ride)   (hc : Ctx G (Lf) w) {res : Bool} (hF : crew_CheckCable_1 r = res) : Calls Tryz.prog 91 #[.agg #[i6 r.From,i6 r.Long,i6 r.Weight.Lo,i6 r.Weight.Hi]] w (fun e w => e = .returned (.bool res) ∧ Ctx G (Lf) w) := by
 unfold crew_CheckCable_1 at hF
 refine fnIn (args := [.agg #[i6 r.From,i6 r.Long,i6 r.Weight.Lo,i6 r.Weight.Hi]]) Tryz.func91 rfl Tryz.ntmps91 rfl fun a hf => wp_seq_k fun K1 h1 => cReg ?_
 refine stBx (cs := [i6 r.From,i6 r.Long,i6 r.Weight.Lo,i6 r.Weight.Hi]) hf hc rfl rfl rfl rfl fun b_1 a w hf hc => stP hf rfl rfl rfl (pA rfl) fun a hf => cNil ?_
 refine h1 _ _ ?_
 refine wp_seq_k fun K2 h2 => cReg ?_
 refine stP hf rfl rfl rfl (pFA fa_72_0 rfl) fun a hf => stE hf hc rfl rfl rfl (eLd1 sc_3 rfl (cell_box m0 rfl)) fun a w hf hc => stE hf hc rfl rfl rfl (eC (v := .bool (crew_minute r.From)) (vs := [i6 r.From]) (caps := []) en_80 rfl rfl rfl rfl (fun w hc => crew_minute_ok r.From hc rfl)) fun a w hf hc => stP hf rfl rfl rfl (pM rfl) fun a hf => stCut 4 (fun a w => Has 26 a [(1,pq b_1),(2,.bool false),(3,pq b_1),(4,i6 r.From),(5,.bool (crew_minute r.From)),(6,.bool (crew_minute r.From)),(10,.bool ((crew_minute r.From) && (crew_in r.Long 1 100000)))] ∧ Ctx G (.box b_1 [i6 r.From,i6 r.Long,i6 r.Weight.Lo,i6 r.Weight.Hi] 72::Lf) w) ?_ ?_
 ·cases hb : (crew_minute r.From)
  ·rw [hb] at hf
   refine stS hf rfl rfl rfl fun a hf => stS hf rfl rfl rfl fun a hf => stS hf rfl rfl rfl fun a hf => stP hf rfl rfl rfl (pPf rfl rfl) fun a hf => cNil ⟨hf.kp rfl,hc⟩
  ·rw [hb] at hf
   refine stP hf rfl rfl rfl (pFA fa_72_1 rfl) fun a hf => stE hf hc rfl rfl rfl (eLd1 sc_3 rfl (cell_box m0 rfl)) fun a w hf hc => stE hf hc rfl rfl rfl (eC (v := .bool (crew_in r.Long 1 100000)) (vs := [i6 r.Long,i6 1,i6 100000]) (caps := []) en_86 rfl rfl rfl rfl (fun w hc => crew_in_ok r.Long 1 100000 hc rfl)) fun a w hf hc => stP hf rfl rfl rfl (pPt rfl rfl) fun a hf => cNil ⟨hf.kp rfl,hc⟩
 intro a w ⟨hf,hc⟩
 refine stP hf rfl rfl rfl (pM rfl) fun a hf => stCut 8 (fun a w => Has 26 a [(1,pq b_1),(2,.bool false),(3,pq b_1),(4,i6 r.From),(5,.bool (crew_minute r.From)),(6,.bool (crew_minute r.From)),(10,.bool ((crew_minute r.From) && (crew_in r.Long 1 100000))),(11,.bool ((crew_minute r.From) && (crew_in r.Long 1 100000))),(19,.bool (((crew_minute r.From) && (crew_in r.Long 1 100000)) && (crew_in r.Weight.Lo 0 r.Weight.Hi)))] ∧ Ctx G (.box b_1 [i6 r.From,i6 r.Long,i6 r.Weight.Lo,i6 r.Weight.Hi] 72::Lf) w) ?_ ?_
 ·cases hb : ((crew_minute r.From) && (crew_in r.Long 1 100000))
  ·rw [hb] at hf
   refine stS hf rfl rfl rfl fun a hf => stS hf rfl rfl rfl fun a hf => stS hf rfl rfl rfl fun a hf => stS hf rfl rfl rfl fun a hf => stS hf rfl rfl rfl fun a hf => stS hf rfl rfl rfl fun a hf => stS hf rfl rfl rfl fun a hf => stP hf rfl rfl rfl (pPf rfl rfl) fun a hf => cNil ⟨hf.kp rfl,hc⟩
  ·rw [hb] at hf
   refine stP hf rfl rfl rfl (pFA fa_72_2 rfl) fun a hf => stP hf rfl rfl rfl (pFA fa_29_0 rfl) fun a hf => stE hf hc rfl rfl rfl (eLd1 sc_3 rfl (cell_box m0 rfl)) fun a w hf hc => stP hf rfl rfl rfl (pFA fa_72_2 rfl) fun a hf => stP hf rfl rfl rfl (pFA fa_29_1 rfl) fun a hf => stE hf hc rfl rfl rfl (eLd1 sc_3 rfl (cell_box m0 rfl)) fun a w hf hc => stE hf hc rfl rfl rfl (eC (v := .bool (crew_in r.Weight.Lo 0 r.Weight.Hi)) (vs := [i6 r.Weight.Lo,i6 0,i6 r.Weight.Hi]) (caps := []) en_86 rfl rfl rfl rfl (fun w hc => crew_in_ok r.Weight.Lo 0 r.Weight.Hi hc rfl)) fun a w hf hc => stP hf rfl rfl rfl (pPt rfl rfl) fun a hf => cNil ⟨hf.kp rfl,hc⟩
 intro a w ⟨hf,hc⟩
 refine stP hf rfl rfl rfl (pM rfl) fun a hf => stCut 5 (fun a w => Has 26 a [(1,pq b_1),(2,.bool false),(3,pq b_1),(4,i6 r.From),(5,.bool (crew_minute r.From)),(6,.bool (crew_minute r.From)),(10,.bool ((crew_minute r.From) && (crew_in r.Long 1 100000))),(11,.bool ((crew_minute r.From) && (crew_in r.Long 1 100000))),(19,.bool (((crew_minute r.From) && (crew_in r.Long 1 100000)) && (crew_in r.Weight.Lo 0 r.Weight.Hi))),(20,.bool (((crew_minute r.From) && (crew_in r.Long 1 100000)) && (crew_in r.Weight.Lo 0 r.Weight.Hi))),(25,.bool ((((crew_minute r.From) && (crew_in r.Long 1 100000)) && (crew_in r.Weight.Lo 0 r.Weight.Hi)) && (decide (r.Weight.Hi ≤ 1000))))] ∧ Ctx G (.box b_1 [i6 r.From,i6 r.Long,i6 r.Weight.Lo,i6 r.Weight.Hi] 72::Lf) w) ?_ ?_
 ·cases hb : (((crew_minute r.From) && (crew_in r.Long 1 100000)) && (crew_in r.Weight.Lo 0 r.Weight.Hi))
  ·rw [hb] at hf
   refine stS hf rfl rfl rfl fun a hf => stS hf rfl rfl rfl fun a hf => stS hf rfl rfl rfl fun a hf => stS hf rfl rfl rfl fun a hf => stP hf rfl rfl rfl (pPf rfl rfl) fun a hf => cNil ⟨hf.kp rfl,hc⟩
  ·rw [hb] at hf
   refine stP hf rfl rfl rfl (pFA fa_72_2 rfl) fun a hf => stP hf rfl rfl rfl (pFA fa_29_1 rfl) fun a hf => stE hf hc rfl rfl rfl (eLd1 sc_3 rfl (cell_box m0 rfl)) fun a w hf hc => stP hf rfl rfl rfl (pLe rfl rfl) fun a hf => stP hf rfl rfl rfl (pPt rfl rfl) fun a hf => cNil ⟨hf.kp rfl,hc⟩
 intro a w ⟨hf,hc⟩
 refine stP hf rfl rfl rfl (pA rfl) fun a hf => cNil ?_
 refine h2 _ _ ?_
 refine wp_ret ?_
 obtain rfl := hF
 replace hc := hc.drop k0
 exact fnOut1 (by simp) rfl Tryz.results91 hf hc (show look _ 2 = _ from rfl) ⟨rfl,hc⟩

def crew_every_crew_Ride_1 (x : crew_Ride) : Bool :=
 (!(crew_CheckCable_1 x))
theorem crew_every_crew_Ride_1_ok {G : Pers} {Lf : List Ent} {w : World} (x : crew_Ride) {b_ : Nat}  (hc : Ctx G (.box b_ [.func (.func 91) #[] #[]] 155::Lf) w) {res : Bool} (hF : crew_every_crew_Ride_1 x = res) : Calls Tryz.prog 159 #[.agg #[i6 x.From,i6 x.Long,i6 x.Weight.Lo,i6 x.Weight.Hi],pq b_] w (fun e w => e = .returned (.bool res) ∧ Ctx G (.box b_ [.func (.func 91) #[] #[]] 155::Lf) w) := by
 unfold crew_every_crew_Ride_1 at hF
 refine fnIn (args := [.agg #[i6 x.From,i6 x.Long,i6 x.Weight.Lo,i6 x.Weight.Hi],pq b_]) Tryz.func159 rfl Tryz.ntmps159 rfl fun a hf => wp_seq_k fun K1 h1 => cReg ?_
 refine stBx (cs := [i6 x.From,i6 x.Long,i6 x.Weight.Lo,i6 x.Weight.Hi]) hf hc rfl rfl rfl rfl fun b_1 a w hf hc => stP hf rfl rfl rfl (pA rfl) fun a hf => cNil ?_
 refine h1 _ _ ?_
 refine wp_seq_k fun K2 h2 => cReg ?_
 refine stE hf hc rfl rfl rfl (eLd1 sc_155 rfl (cell_box m1 rfl)) fun a w hf hc => stE hf hc rfl rfl rfl (eLdN (vs := [i6 x.From,i6 x.Long,i6 x.Weight.Lo,i6 x.Weight.Hi]) ag_72 rfl rfl (cells_box (n := 4) m0 rfl)) fun a w hf hc => stE hf hc rfl rfl rfl (eC (v := .bool (crew_CheckCable_1 x)) (vs := [.agg #[i6 x.From,i6 x.Long,i6 x.Weight.Lo,i6 x.Weight.Hi]]) (caps := []) en_91 rfl rfl rfl rfl (fun w hc => crew_CheckCable_1_ok x hc rfl)) fun a w hf hc => stP hf rfl rfl rfl (pNot rfl) fun a hf => stP hf rfl rfl rfl (pA rfl) fun a hf => cNil ?_
 refine h2 _ _ ?_
 refine wp_ret ?_
 obtain rfl := hF
 replace hc := hc.drop k0
 exact fnOut1 (by simp) rfl Tryz.results159 hf hc (show look _ 3 = _ from rfl) ⟨rfl,hc⟩

def slices_IndexFunc_Lcrew_Ride_crew_Ride_b4 (N : Nat) (s_ : List crew_Ride) (x : Int) : Option (Step (Int) (Int)) :=
 cond (decide (x < ((s_.length : Nat) : Int)))
 (Option.bind (getI s_ x) fun e_1 =>
 cond (crew_every_crew_Ride_1 e_1)
 (some (.ret x))
 (some (.cont (W (x + 1)))))
 (some (.brk x))
def slices_IndexFunc_Lcrew_Ride_crew_Ride (N : Nat) (s_ : List crew_Ride) : Option (Int) :=
 Option.bind (loopO (fun s4 => slices_IndexFunc_Lcrew_Ride_crew_Ride_b4 N s_ s4) N 0) fun x4 =>
 exK x4 (fun s4 => some (-1)) some
theorem slices_IndexFunc_Lcrew_Ride_crew_Ride_ok {N : Nat} {G : Pers} {Lf : List Ent} {w : World} (s_ : List crew_Ride) {s__p : Option Addr} {s__c : Nat} {b_ : Nat} (h_s_ : Rd G 4 s__p s__c (s_.map enc_crew_Ride)) (hc : Ctx G (.box b_ [.func (.func 91) #[] #[]] 155::Lf) w) {res : Int} (hF : slices_IndexFunc_Lcrew_Ride_crew_Ride N s_ = some res) : Calls Tryz.prog 185 #[.slice s__p s_.length s__c,.func (.func 159) #[] #[pq b_]] w (fun e w => e = .returned (i6 res) ∧ Ctx G (.box b_ [.func (.func 91) #[] #[]] 155::Lf) w) := by
 unfold slices_IndexFunc_Lcrew_Ride_crew_Ride at hF
 refine fnIn (args := [.slice s__p s_.length s__c,.func (.func 159) #[] #[pq b_]]) Tryz.func185 rfl Tryz.ntmps185 rfl fun a hf => wp_seq_k fun K1 h1 => cReg ?_
 refine stP hf rfl rfl rfl (pA rfl) fun a hf => cNil ?_
 refine h1 _ _ ?_
 refine wp_seq_k fun K2 h2 => wp_seq_k fun K3 h3 => cReg ?_
 refine stP hf rfl rfl rfl (pM rfl) fun a hf => stP hf rfl rfl rfl (pLenS Tryz.underlying52 rfl) fun a hf => stP hf rfl rfl rfl (pM rfl) fun a hf => cNil ?_
 refine h3 _ _ ?_
 refine wp_block ?_
 obtain ⟨x4,hx4,hF⟩ := bnd_some hF
 let S4 : Int → Act → World → Prop := (fun (zz : Int) a w => Has 19 a [(0,.slice s__p s_.length s__c),(1,.func (.func 159) #[] #[pq b_]),(7,i6 ((s_.length : Nat) : Int)),(8,i6 zz)] ∧ Ctx G (.box b_ [.func (.func 91) #[] #[]] 155::Lf) w)
 have hr4 : ∀ (zz : Int) a w,x4 = .go zz → S4 zz a w → K2 a w := by
  rintro x a w rfl ⟨hf,hc⟩
  replace hF := exK_go hF
  refine h2 _ _ ?_
  refine wp_seq_k fun K5 h5 => cReg ?_
  refine stP hf rfl rfl rfl (pA rfl) fun a hf => cNil ?_
  refine h5 _ _ ?_
  refine wp_ret ?_
  obtain rfl := sj hF
  exact fnOut1 (by simp) rfl Tryz.results185 hf hc (show look _ 4 = _ from rfl) ⟨rfl,hc⟩
 have ho4 : ∀ r,x4 = .out r → r = res := by
  rintro r rfl
  exact sj hF
 refine cLoop N (loopW (S := S4) (x := x4) ?_ N 0 _ _ ⟨hf.kp rfl,hc⟩ hx4)
 clear hF hf hc
 rintro x st4 a w KB4 ⟨hf,hc⟩ hF hfin4 hK4
 unfold slices_IndexFunc_Lcrew_Ride_crew_Ride_b4 at hF
 refine wp_seq_k fun K6 h6 => cReg ?_
 refine stP hf rfl rfl rfl (pLt rfl rfl) fun a hf => cNil ?_
 refine h6 _ _ ?_
 refine wp_seq_k fun K7 h7 => cCond (b := (decide (x < ((s_.length : Nat) : Int)))) hf rfl (fun hb => ?_) (fun hb => ?_)
 ·replace hF := condT hb hF
  clear hb
  refine wp_skip ?_
  refine h7 _ _ ?_
  refine wp_seq_k fun K8 h8 => wp_block ?_
  refine wp_seq_k fun K9 h9 => cReg ?_
  refine stP hf rfl rfl rfl (pM rfl) fun a hf => stP hf rfl rfl rfl (pA rfl) fun a hf => cNil ?_
  refine h9 _ _ ?_
  refine wp_seq_k fun K10 h10 => cReg ?_
  refine stP hf rfl rfl rfl (pM rfl) fun a hf => stP hf rfl rfl rfl (pM rfl) fun a hf => stP hf rfl rfl rfl (pM rfl) fun a hf => ?_
  obtain ⟨e_1,he_1,hF⟩ := bnd_some hF
  obtain ⟨b_1,o,qa,qp⟩ := h_s_.atm he_1
  refine stP hf rfl rfl rfl (pIA Tryz.underlying52 sz_72 rfl rfl qa) fun a hf => stE hf hc rfl rfl rfl (eLdN (vs := [i6 e_1.From,i6 e_1.Long,i6 e_1.Weight.Lo,i6 e_1.Weight.Hi]) ag_72 rfl rfl (cells_pc qp (n := 4) (o' := 0) rfl)) fun a w hf hc => stE hf hc rfl rfl rfl (eC (v := .bool (crew_every_crew_Ride_1 e_1)) (vs := [.agg #[i6 e_1.From,i6 e_1.Long,i6 e_1.Weight.Lo,i6 e_1.Weight.Hi]]) (caps := [pq b_]) en_159 rfl rfl rfl rfl (fun w hc => (crew_every_crew_Ride_1_ok e_1 (hc.pick k0) rfl).mono fun e w h => ⟨h.1,(h.2.unpick k0)⟩)) fun a w hf hc => cNil ?_
  refine h10 _ _ ?_
  refine cCond (b := (crew_every_crew_Ride_1 e_1)) hf rfl (fun hb => ?_) (fun hb => ?_)
  ·replace hF := condT hb hF
   clear hb
   refine wp_seq_k fun K11 h11 => cReg ?_
   refine stP hf rfl rfl rfl (pM rfl) fun a hf => stP hf rfl rfl rfl (pA rfl) fun a hf => cNil ?_
   refine h11 _ _ ?_
   refine wp_ret ?_
   refine xBlkR ?_
   refine xThenR ?_
   refine xThenR ?_
   have he := sj hF
   rw [← he] at hfin4
   replace hF := ho4 _ hfin4
   refine xBlkR ?_
   refine xThenR ?_
   obtain rfl := hF
   exact fnOut1 (by simp) rfl Tryz.results185 hf hc (show look _ 4 = _ from rfl) ⟨rfl,hc⟩
  ·replace hF := condF hb hF
   clear hb
   refine wp_skip ?_
   refine h8 _ _ ?_
   refine cReg ?_
   refine stP hf rfl rfl rfl (pAdd rfl rfl) fun a hf => stP hf rfl rfl rfl (pM rfl) fun a hf => cNil ?_
   exact hK4 (W (x + 1)) _ _ (sj hF).symm ⟨hf.kp rfl,hc⟩
 ·replace hF := condF hb hF
  clear hb
  refine wp_exit ?_
  refine xThen ?_
  refine xThen ?_
  have he := sj hF
  rw [← he] at hfin4
  refine cHit ?_
  exact hr4 _ _ _ hfin4 ⟨hf.kp rfl,hc⟩

def slices_ContainsFunc_Lcrew_Ride_crew_Ride (N : Nat) (s_ : List crew_Ride) : Option (Bool) :=
 Option.bind (slices_IndexFunc_Lcrew_Ride_crew_Ride N s_) fun r =>
 some (decide (0 ≤ r))
theorem slices_ContainsFunc_Lcrew_Ride_crew_Ride_ok {N : Nat} {G : Pers} {Lf : List Ent} {w : World} (s_ : List crew_Ride) {s__p : Option Addr} {s__c : Nat} {b_ : Nat} (h_s_ : Rd G 4 s__p s__c (s_.map enc_crew_Ride)) (hc : Ctx G (.box b_ [.func (.func 91) #[] #[]] 155::Lf) w) {res : Bool} (hF : slices_ContainsFunc_Lcrew_Ride_crew_Ride N s_ = some res) : Calls Tryz.prog 158 #[.slice s__p s_.length s__c,.func (.func 159) #[] #[pq b_]] w (fun e w => e = .returned (.bool res) ∧ Ctx G (.box b_ [.func (.func 91) #[] #[]] 155::Lf) w) := by
 unfold slices_ContainsFunc_Lcrew_Ride_crew_Ride at hF
 refine fnIn (args := [.slice s__p s_.length s__c,.func (.func 159) #[] #[pq b_]]) Tryz.func158 rfl Tryz.ntmps158 rfl fun a hf => wp_seq_k fun K1 h1 => cReg ?_
 refine stP hf rfl rfl rfl (pA rfl) fun a hf => cNil ?_
 refine h1 _ _ ?_
 refine wp_seq_k fun K2 h2 => cReg ?_
 refine stP hf rfl rfl rfl (pM rfl) fun a hf => stP hf rfl rfl rfl (pM rfl) fun a hf => ?_
 obtain ⟨r,hr,hF⟩ := bnd_some hF
 refine stE hf hc rfl rfl rfl (eC (v := i6 r) (vs := [.slice s__p s_.length s__c,.func (.func 159) #[] #[pq b_]]) (caps := []) en_185 rfl rfl rfl rfl (fun w hc => (slices_IndexFunc_Lcrew_Ride_crew_Ride_ok s_ h_s_ (hc.pick k0) hr).mono fun e w h => ⟨h.1,(h.2.unpick k0)⟩)) fun a w hf hc => stP hf rfl rfl rfl (pGe rfl rfl) fun a hf => stP hf rfl rfl rfl (pA rfl) fun a hf => cNil ?_
 refine h2 _ _ ?_
 refine wp_ret ?_
 obtain rfl := sj hF
 exact fnOut1 (by simp) rfl Tryz.results158 hf hc (show look _ 4 = _ from rfl) ⟨rfl,hc⟩

def crew_every_crew_Ride (N : Nat) (l : List crew_Ride) : Option (Bool) :=
 Option.bind (slices_ContainsFunc_Lcrew_Ride_crew_Ride N l) fun r =>
 some (!r)
theorem crew_every_crew_Ride_ok {N : Nat} {G : Pers} {Lf : List Ent} {w : World} (l : List crew_Ride) {l_p : Option Addr} {l_c : Nat} (h_l : Rd G 4 l_p l_c (l.map enc_crew_Ride)) (hc : Ctx G (Lf) w) {res : Bool} (hF : crew_every_crew_Ride N l = some res) : Calls Tryz.prog 90 #[.slice l_p l.length l_c,.func (.func 91) #[] #[]] w (fun e w => e = .returned (.bool res) ∧ Ctx G (Lf) w) := by
 unfold crew_every_crew_Ride at hF
 refine fnIn (args := [.slice l_p l.length l_c,.func (.func 91) #[] #[]]) Tryz.func90 rfl Tryz.ntmps90 rfl fun a hf => wp_seq_k fun K1 h1 => cReg ?_
 refine stBx (cs := [.func (.func 91) #[] #[]]) hf hc rfl rfl rfl rfl fun b_1 a w hf hc => stP hf rfl rfl rfl (pA rfl) fun a hf => cNil ?_
 refine h1 _ _ ?_
 refine wp_seq_k fun K2 h2 => cReg ?_
 refine stP hf rfl rfl rfl (pM rfl) fun a hf => stP hf rfl rfl rfl (pMF (us := [pq b_1]) rfl rfl) fun a hf => ?_
 obtain ⟨r,hr,hF⟩ := bnd_some hF
 refine stE hf hc rfl rfl rfl (eC (v := .bool r) (vs := [.slice l_p l.length l_c,.func (.func 159) #[] #[pq b_1]]) (caps := []) en_158 rfl rfl rfl rfl (fun w hc => (slices_ContainsFunc_Lcrew_Ride_crew_Ride_ok l h_l (hc.pick k0) hr).mono fun e w h => ⟨h.1,(h.2.unpick k0)⟩)) fun a w hf hc => stP hf rfl rfl rfl (pNot rfl) fun a hf => stP hf rfl rfl rfl (pA rfl) fun a hf => cNil ?_
 refine h2 _ _ ?_
 refine wp_ret ?_
 obtain rfl := sj hF
 replace hc := hc.drop k0
 exact fnOut1 (by simp) rfl Tryz.results90 hf hc (show look _ 4 = _ from rfl) ⟨rfl,hc⟩

def crew_CheckCable (N : Nat) (c_ : crew_Cable) : Option (Int) :=
 cond (decide (30 < ((c_.Rides.length : Nat) : Int)))
 (some 3)
 (Option.bind (cond ((((!(crew_in c_.Car 0 1000)) || (!(crew_in c_.Wide 1 1000))) || (!(crew_in c_.Sag 1 10000))) || (!(crew_in c_.Most 0 10000000))) (some true) (Option.bind (crew_every_crew_Ride N c_.Rides) fun r =>
 some (!r))) fun t_1 =>
 cond t_1
 (some 120)
 (some 0))
theorem crew_CheckCable_ok {N : Nat} {G : Pers} {Lf : List Ent} {w : World} (c_ : crew_Cable) {c__Rides_p : Option Addr} {c__Rides_c : Nat} (h_c__Rides : Rd G 4 c__Rides_p c__Rides_c (c_.Rides.map enc_crew_Ride)) (hc : Ctx G (Lf) w) {res : Int} (hF : crew_CheckCable N c_ = some res) : Calls Tryz.prog 31 #[.agg #[i6 c_.Car,i6 c_.Wide,i6 c_.Sag,i6 c_.Most,.slice c__Rides_p c_.Rides.length c__Rides_c]] w (fun e w => e = .returned (i6 res) ∧ Ctx G (Lf) w) := by
 unfold crew_CheckCable at hF
 refine fnIn (args := [.agg #[i6 c_.Car,i6 c_.Wide,i6 c_.Sag,i6 c_.Most,.slice c__Rides_p c_.Rides.length c__Rides_c]]) Tryz.func31 rfl Tryz.ntmps31 rfl fun a hf => wp_seq_k fun K1 h1 => cReg ?_
 refine stBx (cs := [i6 c_.Car,i6 c_.Wide,i6 c_.Sag,i6 c_.Most,.slice c__Rides_p c_.Rides.length c__Rides_c]) hf hc rfl rfl rfl rfl fun b_1 a w hf hc => stP hf rfl rfl rfl (pA rfl) fun a hf => cNil ?_
 refine h1 _ _ ?_
 refine wp_seq_k fun K2 h2 => wp_block ?_
 refine wp_seq_k fun K3 h3 => cReg ?_
 refine stP hf rfl rfl rfl (pFA fa_54_4 rfl) fun a hf => stE hf hc rfl rfl rfl (eLd1 sc_52 rfl (cell_box m0 rfl)) fun a w hf hc => stP hf rfl rfl rfl (pLenS Tryz.underlying52 rfl) fun a hf => stP hf rfl rfl rfl (pGt rfl rfl) fun a hf => stP hf rfl rfl rfl (pA rfl) fun a hf => cNil ?_
 refine h3 _ _ ?_
 refine cCond (b := (decide (30 < ((c_.Rides.length : Nat) : Int)))) hf rfl (fun hb => ?_) (fun hb => ?_)
 ·replace hF := condT hb hF
  clear hb
  refine wp_seq_k fun K4 h4 => cReg ?_
  refine stP hf rfl rfl rfl (pA rfl) fun a hf => cNil ?_
  refine h4 _ _ ?_
  refine wp_ret ?_
  refine xBlkR ?_
  refine xThenR ?_
  obtain rfl := sj hF
  replace hc := hc.drop k0
  exact fnOut1 (by simp) rfl Tryz.results31 hf hc (show look _ 2 = _ from rfl) ⟨rfl,hc⟩
 ·replace hF := condF hb hF
  clear hb
  refine wp_seq_k fun K5 h5 => cReg ?_
  refine stP hf rfl rfl rfl (pFA fa_54_0 rfl) fun a hf => stE hf hc rfl rfl rfl (eLd1 sc_3 rfl (cell_box m0 rfl)) fun a w hf hc => stE hf hc rfl rfl rfl (eC (v := .bool (crew_in c_.Car 0 1000)) (vs := [i6 c_.Car,i6 0,i6 1000]) (caps := []) en_86 rfl rfl rfl rfl (fun w hc => crew_in_ok c_.Car 0 1000 hc rfl)) fun a w hf hc => stP hf rfl rfl rfl (pNot rfl) fun a hf => stP hf rfl rfl rfl (pM rfl) fun a hf => stCut 5 (fun a w => Has 37 a [(1,pq b_1),(9,pq b_1),(10,i6 c_.Car),(11,.bool (crew_in c_.Car 0 1000)),(12,.bool (!(crew_in c_.Car 0 1000))),(13,.bool (!(crew_in c_.Car 0 1000))),(18,.bool ((!(crew_in c_.Car 0 1000)) || (!(crew_in c_.Wide 1 1000))))] ∧ Ctx G (.box b_1 [i6 c_.Car,i6 c_.Wide,i6 c_.Sag,i6 c_.Most,.slice c__Rides_p c_.Rides.length c__Rides_c] 54::Lf) w) ?_ ?_
  ·cases hb : (!(crew_in c_.Car 0 1000))
   ·rw [hb] at hf
    refine stP hf rfl rfl rfl (pFA fa_54_1 rfl) fun a hf => stE hf hc rfl rfl rfl (eLd1 sc_3 rfl (cell_box m0 rfl)) fun a w hf hc => stE hf hc rfl rfl rfl (eC (v := .bool (crew_in c_.Wide 1 1000)) (vs := [i6 c_.Wide,i6 1,i6 1000]) (caps := []) en_86 rfl rfl rfl rfl (fun w hc => crew_in_ok c_.Wide 1 1000 hc rfl)) fun a w hf hc => stP hf rfl rfl rfl (pNot rfl) fun a hf => stP hf rfl rfl rfl (pPf rfl rfl) fun a hf => cNil ⟨hf.kp rfl,hc⟩
   ·rw [hb] at hf
    refine stS hf rfl rfl rfl fun a hf => stS hf rfl rfl rfl fun a hf => stS hf rfl rfl rfl fun a hf => stS hf rfl rfl rfl fun a hf => stP hf rfl rfl rfl (pPt rfl rfl) fun a hf => cNil ⟨hf.kp rfl,hc⟩
  intro a w ⟨hf,hc⟩
  refine stP hf rfl rfl rfl (pM rfl) fun a hf => stCut 5 (fun a w => Has 37 a [(1,pq b_1),(9,pq b_1),(10,i6 c_.Car),(11,.bool (crew_in c_.Car 0 1000)),(12,.bool (!(crew_in c_.Car 0 1000))),(13,.bool (!(crew_in c_.Car 0 1000))),(18,.bool ((!(crew_in c_.Car 0 1000)) || (!(crew_in c_.Wide 1 1000)))),(19,.bool ((!(crew_in c_.Car 0 1000)) || (!(crew_in c_.Wide 1 1000)))),(24,.bool (((!(crew_in c_.Car 0 1000)) || (!(crew_in c_.Wide 1 1000))) || (!(crew_in c_.Sag 1 10000))))] ∧ Ctx G (.box b_1 [i6 c_.Car,i6 c_.Wide,i6 c_.Sag,i6 c_.Most,.slice c__Rides_p c_.Rides.length c__Rides_c] 54::Lf) w) ?_ ?_
  ·cases hb : ((!(crew_in c_.Car 0 1000)) || (!(crew_in c_.Wide 1 1000)))
   ·rw [hb] at hf
    refine stP hf rfl rfl rfl (pFA fa_54_2 rfl) fun a hf => stE hf hc rfl rfl rfl (eLd1 sc_3 rfl (cell_box m0 rfl)) fun a w hf hc => stE hf hc rfl rfl rfl (eC (v := .bool (crew_in c_.Sag 1 10000)) (vs := [i6 c_.Sag,i6 1,i6 10000]) (caps := []) en_86 rfl rfl rfl rfl (fun w hc => crew_in_ok c_.Sag 1 10000 hc rfl)) fun a w hf hc => stP hf rfl rfl rfl (pNot rfl) fun a hf => stP hf rfl rfl rfl (pPf rfl rfl) fun a hf => cNil ⟨hf.kp rfl,hc⟩
   ·rw [hb] at hf
    refine stS hf rfl rfl rfl fun a hf => stS hf rfl rfl rfl fun a hf => stS hf rfl rfl rfl fun a hf => stS hf rfl rfl rfl fun a hf => stP hf rfl rfl rfl (pPt rfl rfl) fun a hf => cNil ⟨hf.kp rfl,hc⟩
  intro a w ⟨hf,hc⟩
  refine stP hf rfl rfl rfl (pM rfl) fun a hf => stCut 5 (fun a w => Has 37 a [(1,pq b_1),(9,pq b_1),(10,i6 c_.Car),(11,.bool (crew_in c_.Car 0 1000)),(12,.bool (!(crew_in c_.Car 0 1000))),(13,.bool (!(crew_in c_.Car 0 1000))),(18,.bool ((!(crew_in c_.Car 0 1000)) || (!(crew_in c_.Wide 1 1000)))),(19,.bool ((!(crew_in c_.Car 0 1000)) || (!(crew_in c_.Wide 1 1000)))),(24,.bool (((!(crew_in c_.Car 0 1000)) || (!(crew_in c_.Wide 1 1000))) || (!(crew_in c_.Sag 1 10000)))),(25,.bool (((!(crew_in c_.Car 0 1000)) || (!(crew_in c_.Wide 1 1000))) || (!(crew_in c_.Sag 1 10000)))),(30,.bool ((((!(crew_in c_.Car 0 1000)) || (!(crew_in c_.Wide 1 1000))) || (!(crew_in c_.Sag 1 10000))) || (!(crew_in c_.Most 0 10000000))))] ∧ Ctx G (.box b_1 [i6 c_.Car,i6 c_.Wide,i6 c_.Sag,i6 c_.Most,.slice c__Rides_p c_.Rides.length c__Rides_c] 54::Lf) w) ?_ ?_
  ·cases hb : (((!(crew_in c_.Car 0 1000)) || (!(crew_in c_.Wide 1 1000))) || (!(crew_in c_.Sag 1 10000)))
   ·rw [hb] at hf
    refine stP hf rfl rfl rfl (pFA fa_54_3 rfl) fun a hf => stE hf hc rfl rfl rfl (eLd1 sc_3 rfl (cell_box m0 rfl)) fun a w hf hc => stE hf hc rfl rfl rfl (eC (v := .bool (crew_in c_.Most 0 10000000)) (vs := [i6 c_.Most,i6 0,i6 10000000]) (caps := []) en_86 rfl rfl rfl rfl (fun w hc => crew_in_ok c_.Most 0 10000000 hc rfl)) fun a w hf hc => stP hf rfl rfl rfl (pNot rfl) fun a hf => stP hf rfl rfl rfl (pPf rfl rfl) fun a hf => cNil ⟨hf.kp rfl,hc⟩
   ·rw [hb] at hf
    refine stS hf rfl rfl rfl fun a hf => stS hf rfl rfl rfl fun a hf => stS hf rfl rfl rfl fun a hf => stS hf rfl rfl rfl fun a hf => stP hf rfl rfl rfl (pPt rfl rfl) fun a hf => cNil ⟨hf.kp rfl,hc⟩
  intro a w ⟨hf,hc⟩
  refine stP hf rfl rfl rfl (pM rfl) fun a hf => ?_
  obtain ⟨t_1,ht_1,hF⟩ := bnd_some hF
  refine stCut 5 (fun a w => Has 37 a [(1,pq b_1),(9,pq b_1),(10,i6 c_.Car),(11,.bool (crew_in c_.Car 0 1000)),(12,.bool (!(crew_in c_.Car 0 1000))),(13,.bool (!(crew_in c_.Car 0 1000))),(18,.bool ((!(crew_in c_.Car 0 1000)) || (!(crew_in c_.Wide 1 1000)))),(19,.bool ((!(crew_in c_.Car 0 1000)) || (!(crew_in c_.Wide 1 1000)))),(24,.bool (((!(crew_in c_.Car 0 1000)) || (!(crew_in c_.Wide 1 1000))) || (!(crew_in c_.Sag 1 10000)))),(25,.bool (((!(crew_in c_.Car 0 1000)) || (!(crew_in c_.Wide 1 1000))) || (!(crew_in c_.Sag 1 10000)))),(30,.bool ((((!(crew_in c_.Car 0 1000)) || (!(crew_in c_.Wide 1 1000))) || (!(crew_in c_.Sag 1 10000))) || (!(crew_in c_.Most 0 10000000)))),(31,.bool ((((!(crew_in c_.Car 0 1000)) || (!(crew_in c_.Wide 1 1000))) || (!(crew_in c_.Sag 1 10000))) || (!(crew_in c_.Most 0 10000000)))),(36,.bool t_1)] ∧ Ctx G (.box b_1 [i6 c_.Car,i6 c_.Wide,i6 c_.Sag,i6 c_.Most,.slice c__Rides_p c_.Rides.length c__Rides_c] 54::Lf) w) ?_ ?_
  ·cases hb : ((((!(crew_in c_.Car 0 1000)) || (!(crew_in c_.Wide 1 1000))) || (!(crew_in c_.Sag 1 10000))) || (!(crew_in c_.Most 0 10000000)))
   ·rw [hb] at hf
    have hF := condF hb ht_1
    refine stP hf rfl rfl rfl (pFA fa_54_4 rfl) fun a hf => stE hf hc rfl rfl rfl (eLd1 sc_52 rfl (cell_box m0 rfl)) fun a w hf hc => ?_
    obtain ⟨r,hr,hF⟩ := bnd_some hF
    refine stE hf hc rfl rfl rfl (eC (v := .bool r) (vs := [.slice c__Rides_p c_.Rides.length c__Rides_c,.func (.func 91) #[] #[]]) (caps := []) en_90 rfl rfl rfl rfl (fun w hc => crew_every_crew_Ride_ok c_.Rides h_c__Rides hc hr)) fun a w hf hc => stP hf rfl rfl rfl (pNot rfl) fun a hf => stP hf rfl rfl rfl (pPf rfl rfl) fun a hf => ?_
    obtain rfl := sj hF
    exact cNil ⟨hf.kp rfl,hc⟩
   ·rw [hb] at hf
    have hF := condT hb ht_1
    obtain rfl := sj hF
    refine stS hf rfl rfl rfl fun a hf => stS hf rfl rfl rfl fun a hf => stS hf rfl rfl rfl fun a hf => stS hf rfl rfl rfl fun a hf => stP hf rfl rfl rfl (pPt rfl rfl) fun a hf => cNil ⟨hf.kp rfl,hc⟩
  intro a w ⟨hf,hc⟩
  refine stP hf rfl rfl rfl (pA rfl) fun a hf => cNil ?_
  refine h5 _ _ ?_
  refine cCond (b := t_1) hf rfl (fun hb => ?_) (fun hb => ?_)
  ·replace hF := condT hb hF
   clear hb
   refine wp_seq_k fun K6 h6 => cReg ?_
   refine stP hf rfl rfl rfl (pA rfl) fun a hf => cNil ?_
   refine h6 _ _ ?_
   refine wp_ret ?_
   refine xBlkR ?_
   refine xThenR ?_
   obtain rfl := sj hF
   replace hc := hc.drop k0
   exact fnOut1 (by simp) rfl Tryz.results31 hf hc (show look _ 2 = _ from rfl) ⟨rfl,hc⟩
  ·replace hF := condF hb hF
   clear hb
   refine wp_skip ?_
   refine h2 _ _ ?_
   refine wp_seq_k fun K7 h7 => cReg ?_
   refine stP hf rfl rfl rfl (pA rfl) fun a hf => cNil ?_
   refine h7 _ _ ?_
   refine wp_ret ?_
   obtain rfl := sj hF
   replace hc := hc.drop k0
   exact fnOut1 (by simp) rfl Tryz.results31 hf hc (show look _ 2 = _ from rfl) ⟨rfl,hc⟩

def crew_Cable_beyond (c_ : crew_Cable) (load : Int) : Bool :=
 (decide ((W (c_.Most * c_.Sag)) < (W ((W (load * c_.Wide)) * 25))))
theorem crew_Cable_beyond_ok {G : Pers} {Lf : List Ent} {w : World} (c_ : crew_Cable) (load : Int) {c__Rides_p : Option Addr} {c__Rides_c : Nat} (h_c__Rides : Rd G 4 c__Rides_p c__Rides_c (c_.Rides.map enc_crew_Ride)) (hc : Ctx G (Lf) w) {res : Bool} (hF : crew_Cable_beyond c_ load = res) : Calls Tryz.prog 99 #[.agg #[i6 c_.Car,i6 c_.Wide,i6 c_.Sag,i6 c_.Most,.slice c__Rides_p c_.Rides.length c__Rides_c],i6 load] w (fun e w => e = .returned (.bool res) ∧ Ctx G (Lf) w) := by
 unfold crew_Cable_beyond at hF
 refine fnIn (args := [.agg #[i6 c_.Car,i6 c_.Wide,i6 c_.Sag,i6 c_.Most,.slice c__Rides_p c_.Rides.length c__Rides_c],i6 load]) Tryz.func99 rfl Tryz.ntmps99 rfl fun a hf => wp_seq_k fun K1 h1 => cReg ?_
 refine stBx (cs := [i6 c_.Car,i6 c_.Wide,i6 c_.Sag,i6 c_.Most,.slice c__Rides_p c_.Rides.length c__Rides_c]) hf hc rfl rfl rfl rfl fun b_1 a w hf hc => stP hf rfl rfl rfl (pA rfl) fun a hf => cNil ?_
 refine h1 _ _ ?_
 refine wp_seq_k fun K2 h2 => cReg ?_
 refine stP hf rfl rfl rfl (pM rfl) fun a hf => stP hf rfl rfl rfl (pFA fa_54_1 rfl) fun a hf => stE hf hc rfl rfl rfl (eLd1 sc_3 rfl (cell_box m0 rfl)) fun a w hf hc => stP hf rfl rfl rfl (pMul rfl rfl) fun a hf => stP hf rfl rfl rfl (pMul rfl rfl) fun a hf => stP hf rfl rfl rfl (pFA fa_54_3 rfl) fun a hf => stE hf hc rfl rfl rfl (eLd1 sc_3 rfl (cell_box m0 rfl)) fun a w hf hc => stP hf rfl rfl rfl (pFA fa_54_2 rfl) fun a hf => stE hf hc rfl rfl rfl (eLd1 sc_3 rfl (cell_box m0 rfl)) fun a w hf hc => stP hf rfl rfl rfl (pMul rfl rfl) fun a hf => stP hf rfl rfl rfl (pGt rfl rfl) fun a hf => stP hf rfl rfl rfl (pA rfl) fun a hf => cNil ?_
 refine h2 _ _ ?_
 refine wp_ret ?_
 obtain rfl := hF
 replace hc := hc.drop k0
 exact fnOut1 (by simp) rfl Tryz.results99 hf hc (show look _ 4 = _ from rfl) ⟨rfl,hc⟩

def crew_Queue_1 (r : crew_Ride) (x : crew_Cable) : Bool :=
 (!(crew_Cable_beyond x (W (x.Car + r.Weight.Hi))))
theorem crew_Queue_1_ok {G : Pers} {Lf : List Ent} {w : World} (r : crew_Ride) (x : crew_Cable) {b_ : Nat} {x_Rides_p : Option Addr} {x_Rides_c : Nat} (h_x_Rides : Rd G 4 x_Rides_p x_Rides_c (x.Rides.map enc_crew_Ride)) (hc : Ctx G (.box b_ [i6 x.Car,i6 x.Wide,i6 x.Sag,i6 x.Most,.slice x_Rides_p x.Rides.length x_Rides_c] 54::Lf) w) {res : Bool} (hF : crew_Queue_1 r x = res) : Calls Tryz.prog 101 #[.agg #[i6 r.From,i6 r.Long,i6 r.Weight.Lo,i6 r.Weight.Hi],pq b_] w (fun e w => e = .returned (.bool res) ∧ Ctx G (.box b_ [i6 x.Car,i6 x.Wide,i6 x.Sag,i6 x.Most,.slice x_Rides_p x.Rides.length x_Rides_c] 54::Lf) w) := by
 unfold crew_Queue_1 at hF
 refine fnIn (args := [.agg #[i6 r.From,i6 r.Long,i6 r.Weight.Lo,i6 r.Weight.Hi],pq b_]) Tryz.func101 rfl Tryz.ntmps101 rfl fun a hf => wp_seq_k fun K1 h1 => cReg ?_
 refine stBx (cs := [i6 r.From,i6 r.Long,i6 r.Weight.Lo,i6 r.Weight.Hi]) hf hc rfl rfl rfl rfl fun b_1 a w hf hc => stP hf rfl rfl rfl (pA rfl) fun a hf => cNil ?_
 refine h1 _ _ ?_
 refine wp_seq_k fun K2 h2 => cReg ?_
 refine stE hf hc rfl rfl rfl (eLdN (vs := [i6 x.Car,i6 x.Wide,i6 x.Sag,i6 x.Most,.slice x_Rides_p x.Rides.length x_Rides_c]) ag_54 rfl rfl (cells_box (n := 5) m1 rfl)) fun a w hf hc => stP hf rfl rfl rfl (pFA fa_54_0 rfl) fun a hf => stE hf hc rfl rfl rfl (eLd1 sc_3 rfl (cell_box m1 rfl)) fun a w hf hc => stP hf rfl rfl rfl (pFA fa_72_2 rfl) fun a hf => stP hf rfl rfl rfl (pFA fa_29_1 rfl) fun a hf => stE hf hc rfl rfl rfl (eLd1 sc_3 rfl (cell_box m0 rfl)) fun a w hf hc => stP hf rfl rfl rfl (pAdd rfl rfl) fun a hf => stE hf hc rfl rfl rfl (eC (v := .bool (crew_Cable_beyond x (W (x.Car + r.Weight.Hi)))) (vs := [.agg #[i6 x.Car,i6 x.Wide,i6 x.Sag,i6 x.Most,.slice x_Rides_p x.Rides.length x_Rides_c],i6 (W (x.Car + r.Weight.Hi))]) (caps := []) en_99 rfl rfl rfl rfl (fun w hc => crew_Cable_beyond_ok x (W (x.Car + r.Weight.Hi)) h_x_Rides hc rfl)) fun a w hf hc => stP hf rfl rfl rfl (pNot rfl) fun a hf => stP hf rfl rfl rfl (pA rfl) fun a hf => cNil ?_
 refine h2 _ _ ?_
 refine wp_ret ?_
 obtain rfl := hF
 replace hc := hc.drop k0
 exact fnOut1 (by simp) rfl Tryz.results101 hf hc (show look _ 3 = _ from rfl) ⟨rfl,hc⟩

def crew_every_crew_Ride_1_s2 (x : crew_Ride) (x_1 : crew_Cable) : Bool :=
 (!(crew_Queue_1 x x_1))
theorem crew_every_crew_Ride_1_s2_ok {G : Pers} {Lf : List Ent} {w : World} (x : crew_Ride) (x_1 : crew_Cable) {b_ : Nat} {b__1 : Nat} {x_1_Rides_p : Option Addr} {x_1_Rides_c : Nat} (h_x_1_Rides : Rd G 4 x_1_Rides_p x_1_Rides_c (x_1.Rides.map enc_crew_Ride)) (hc : Ctx G (.box b_ [.func (.func 101) #[] #[pq b__1]] 155::.box b__1 [i6 x_1.Car,i6 x_1.Wide,i6 x_1.Sag,i6 x_1.Most,.slice x_1_Rides_p x_1.Rides.length x_1_Rides_c] 54::Lf) w) {res : Bool} (hF : crew_every_crew_Ride_1_s2 x x_1 = res) : Calls Tryz.prog 159 #[.agg #[i6 x.From,i6 x.Long,i6 x.Weight.Lo,i6 x.Weight.Hi],pq b_] w (fun e w => e = .returned (.bool res) ∧ Ctx G (.box b_ [.func (.func 101) #[] #[pq b__1]] 155::.box b__1 [i6 x_1.Car,i6 x_1.Wide,i6 x_1.Sag,i6 x_1.Most,.slice x_1_Rides_p x_1.Rides.length x_1_Rides_c] 54::Lf) w) := by
 unfold crew_every_crew_Ride_1_s2 at hF
 refine fnIn (args := [.agg #[i6 x.From,i6 x.Long,i6 x.Weight.Lo,i6 x.Weight.Hi],pq b_]) Tryz.func159 rfl Tryz.ntmps159 rfl fun a hf => wp_seq_k fun K1 h1 => cReg ?_
 refine stBx (cs := [i6 x.From,i6 x.Long,i6 x.Weight.Lo,i6 x.Weight.Hi]) hf hc rfl rfl rfl rfl fun b_1 a w hf hc => stP hf rfl rfl rfl (pA rfl) fun a hf => cNil ?_
 refine h1 _ _ ?_
 refine wp_seq_k fun K2 h2 => cReg ?_
 refine stE hf hc rfl rfl rfl (eLd1 sc_155 rfl (cell_box m1 rfl)) fun a w hf hc => stE hf hc rfl rfl rfl (eLdN (vs := [i6 x.From,i6 x.Long,i6 x.Weight.Lo,i6 x.Weight.Hi]) ag_72 rfl rfl (cells_box (n := 4) m0 rfl)) fun a w hf hc => stE hf hc rfl rfl rfl (eC (v := .bool (crew_Queue_1 x x_1)) (vs := [.agg #[i6 x.From,i6 x.Long,i6 x.Weight.Lo,i6 x.Weight.Hi]]) (caps := [pq b__1]) en_101 rfl rfl rfl rfl (fun w hc => (crew_Queue_1_ok x x_1 h_x_1_Rides (hc.pick k2) rfl).mono fun e w h => ⟨h.1,(h.2.unpick k2)⟩)) fun a w hf hc => stP hf rfl rfl rfl (pNot rfl) fun a hf => stP hf rfl rfl rfl (pA rfl) fun a hf => cNil ?_
 refine h2 _ _ ?_
 refine wp_ret ?_
 obtain rfl := hF
 replace hc := hc.drop k0
 exact fnOut1 (by simp) rfl Tryz.results159 hf hc (show look _ 3 = _ from rfl) ⟨rfl,hc⟩

def slices_IndexFunc_Lcrew_Ride_crew_Ride_s2_b4 (N : Nat) (s_ : List crew_Ride) (f_ : crew_Cable) (x : Int) : Option (Step (Int) (Int)) :=
 cond (decide (x < ((s_.length : Nat) : Int)))
 (Option.bind (getI s_ x) fun e_1 =>
 cond (crew_every_crew_Ride_1_s2 e_1 f_)
 (some (.ret x))
 (some (.cont (W (x + 1)))))
 (some (.brk x))
def slices_IndexFunc_Lcrew_Ride_crew_Ride_s2 (N : Nat) (s_ : List crew_Ride) (f_ : crew_Cable) : Option (Int) :=
 Option.bind (loopO (fun s4 => slices_IndexFunc_Lcrew_Ride_crew_Ride_s2_b4 N s_ f_ s4) N 0) fun x4 =>
 exK x4 (fun s4 => some (-1)) some
theorem slices_IndexFunc_Lcrew_Ride_crew_Ride_s2_ok {N : Nat} {G : Pers} {Lf : List Ent} {w : World} (s_ : List crew_Ride) (f_ : crew_Cable) {s__p : Option Addr} {s__c : Nat} {b_ : Nat} {b__1 : Nat} {f__Rides_p : Option Addr} {f__Rides_c : Nat} (h_s_ : Rd G 4 s__p s__c (s_.map enc_crew_Ride)) (h_f__Rides : Rd G 4 f__Rides_p f__Rides_c (f_.Rides.map enc_crew_Ride)) (hc : Ctx G (.box b_ [.func (.func 101) #[] #[pq b__1]] 155::.box b__1 [i6 f_.Car,i6 f_.Wide,i6 f_.Sag,i6 f_.Most,.slice f__Rides_p f_.Rides.length f__Rides_c] 54::Lf) w) {res : Int} (hF : slices_IndexFunc_Lcrew_Ride_crew_Ride_s2 N s_ f_ = some res) : Calls Tryz.prog 185 #[.slice s__p s_.length s__c,.func (.func 159) #[] #[pq b_]] w (fun e w => e = .returned (i6 res) ∧ Ctx G (.box b_ [.func (.func 101) #[] #[pq b__1]] 155::.box b__1 [i6 f_.Car,i6 f_.Wide,i6 f_.Sag,i6 f_.Most,.slice f__Rides_p f_.Rides.length f__Rides_c] 54::Lf) w) := by
 unfold slices_IndexFunc_Lcrew_Ride_crew_Ride_s2 at hF
 refine fnIn (args := [.slice s__p s_.length s__c,.func (.func 159) #[] #[pq b_]]) Tryz.func185 rfl Tryz.ntmps185 rfl fun a hf => wp_seq_k fun K1 h1 => cReg ?_
 refine stP hf rfl rfl rfl (pA rfl) fun a hf => cNil ?_
 refine h1 _ _ ?_
 refine wp_seq_k fun K2 h2 => wp_seq_k fun K3 h3 => cReg ?_
 refine stP hf rfl rfl rfl (pM rfl) fun a hf => stP hf rfl rfl rfl (pLenS Tryz.underlying52 rfl) fun a hf => stP hf rfl rfl rfl (pM rfl) fun a hf => cNil ?_
 refine h3 _ _ ?_
 refine wp_block ?_
 obtain ⟨x4,hx4,hF⟩ := bnd_some hF
 let S4 : Int → Act → World → Prop := (fun (zz : Int) a w => Has 19 a [(0,.slice s__p s_.length s__c),(1,.func (.func 159) #[] #[pq b_]),(7,i6 ((s_.length : Nat) : Int)),(8,i6 zz)] ∧ Ctx G (.box b_ [.func (.func 101) #[] #[pq b__1]] 155::.box b__1 [i6 f_.Car,i6 f_.Wide,i6 f_.Sag,i6 f_.Most,.slice f__Rides_p f_.Rides.length f__Rides_c] 54::Lf) w)
 have hr4 : ∀ (zz : Int) a w,x4 = .go zz → S4 zz a w → K2 a w := by
  rintro x a w rfl ⟨hf,hc⟩
  replace hF := exK_go hF
  refine h2 _ _ ?_
  refine wp_seq_k fun K5 h5 => cReg ?_
  refine stP hf rfl rfl rfl (pA rfl) fun a hf => cNil ?_
  refine h5 _ _ ?_
  refine wp_ret ?_
  obtain rfl := sj hF
  exact fnOut1 (by simp) rfl Tryz.results185 hf hc (show look _ 4 = _ from rfl) ⟨rfl,hc⟩
 have ho4 : ∀ r,x4 = .out r → r = res := by
  rintro r rfl
  exact sj hF
 refine cLoop N (loopW (S := S4) (x := x4) ?_ N 0 _ _ ⟨hf.kp rfl,hc⟩ hx4)
 clear hF hf hc
 rintro x st4 a w KB4 ⟨hf,hc⟩ hF hfin4 hK4
 unfold slices_IndexFunc_Lcrew_Ride_crew_Ride_s2_b4 at hF
 refine wp_seq_k fun K6 h6 => cReg ?_
 refine stP hf rfl rfl rfl (pLt rfl rfl) fun a hf => cNil ?_
 refine h6 _ _ ?_
 refine wp_seq_k fun K7 h7 => cCond (b := (decide (x < ((s_.length : Nat) : Int)))) hf rfl (fun hb => ?_) (fun hb => ?_)
 ·replace hF := condT hb hF
  clear hb
  refine wp_skip ?_
  refine h7 _ _ ?_
  refine wp_seq_k fun K8 h8 => wp_block ?_
  refine wp_seq_k fun K9 h9 => cReg ?_
  refine stP hf rfl rfl rfl (pM rfl) fun a hf => stP hf rfl rfl rfl (pA rfl) fun a hf => cNil ?_
  refine h9 _ _ ?_
  refine wp_seq_k fun K10 h10 => cReg ?_
  refine stP hf rfl rfl rfl (pM rfl) fun a hf => stP hf rfl rfl rfl (pM rfl) fun a hf => stP hf rfl rfl rfl (pM rfl) fun a hf => ?_
  obtain ⟨e_1,he_1,hF⟩ := bnd_some hF
  obtain ⟨b_1,o,qa,qp⟩ := h_s_.atm he_1
  refine stP hf rfl rfl rfl (pIA Tryz.underlying52 sz_72 rfl rfl qa) fun a hf => stE hf hc rfl rfl rfl (eLdN (vs := [i6 e_1.From,i6 e_1.Long,i6 e_1.Weight.Lo,i6 e_1.Weight.Hi]) ag_72 rfl rfl (cells_pc qp (n := 4) (o' := 0) rfl)) fun a w hf hc => stE hf hc rfl rfl rfl (eC (v := .bool (crew_every_crew_Ride_1_s2 e_1 f_)) (vs := [.agg #[i6 e_1.From,i6 e_1.Long,i6 e_1.Weight.Lo,i6 e_1.Weight.Hi]]) (caps := [pq b_]) en_159 rfl rfl rfl rfl (fun w hc => (crew_every_crew_Ride_1_s2_ok e_1 f_ h_f__Rides ((hc.pick k1).pick k1) rfl).mono fun e w h => ⟨h.1,((h.2.unpick k1).unpick k1)⟩)) fun a w hf hc => cNil ?_
  refine h10 _ _ ?_
  refine cCond (b := (crew_every_crew_Ride_1_s2 e_1 f_)) hf rfl (fun hb => ?_) (fun hb => ?_)
  ·replace hF := condT hb hF
   clear hb
   refine wp_seq_k fun K11 h11 => cReg ?_
   refine stP hf rfl rfl rfl (pM rfl) fun a hf => stP hf rfl rfl rfl (pA rfl) fun a hf => cNil ?_
   refine h11 _ _ ?_
   refine wp_ret ?_
   refine xBlkR ?_
   refine xThenR ?_
   refine xThenR ?_
   have he := sj hF
   rw [← he] at hfin4
   replace hF := ho4 _ hfin4
   refine xBlkR ?_
   refine xThenR ?_
   obtain rfl := hF
   exact fnOut1 (by simp) rfl Tryz.results185 hf hc (show look _ 4 = _ from rfl) ⟨rfl,hc⟩
  ·replace hF := condF hb hF
   clear hb
   refine wp_skip ?_
   refine h8 _ _ ?_
   refine cReg ?_
   refine stP hf rfl rfl rfl (pAdd rfl rfl) fun a hf => stP hf rfl rfl rfl (pM rfl) fun a hf => cNil ?_
   exact hK4 (W (x + 1)) _ _ (sj hF).symm ⟨hf.kp rfl,hc⟩
 ·replace hF := condF hb hF
  clear hb
  refine wp_exit ?_
  refine xThen ?_
  refine xThen ?_
  have he := sj hF
  rw [← he] at hfin4
  refine cHit ?_
  exact hr4 _ _ _ hfin4 ⟨hf.kp rfl,hc⟩

def slices_ContainsFunc_Lcrew_Ride_crew_Ride_s2 (N : Nat) (s_ : List crew_Ride) (f_ : crew_Cable) : Option (Bool) :=
 Option.bind (slices_IndexFunc_Lcrew_Ride_crew_Ride_s2 N s_ f_) fun r =>
 some (decide (0 ≤ r))
theorem slices_ContainsFunc_Lcrew_Ride_crew_Ride_s2_ok {N : Nat} {G : Pers} {Lf : List Ent} {w : World} (s_ : List crew_Ride) (f_ : crew_Cable) {s__p : Option Addr} {s__c : Nat} {b_ : Nat} {b__1 : Nat} {f__Rides_p : Option Addr} {f__Rides_c : Nat} (h_s_ : Rd G 4 s__p s__c (s_.map enc_crew_Ride)) (h_f__Rides : Rd G 4 f__Rides_p f__Rides_c (f_.Rides.map enc_crew_Ride)) (hc : Ctx G (.box b_ [.func (.func 101) #[] #[pq b__1]] 155::.box b__1 [i6 f_.Car,i6 f_.Wide,i6 f_.Sag,i6 f_.Most,.slice f__Rides_p f_.Rides.length f__Rides_c] 54::Lf) w) {res : Bool} (hF : slices_ContainsFunc_Lcrew_Ride_crew_Ride_s2 N s_ f_ = some res) : Calls Tryz.prog 158 #[.slice s__p s_.length s__c,.func (.func 159) #[] #[pq b_]] w (fun e w => e = .returned (.bool res) ∧ Ctx G (.box b_ [.func (.func 101) #[] #[pq b__1]] 155::.box b__1 [i6 f_.Car,i6 f_.Wide,i6 f_.Sag,i6 f_.Most,.slice f__Rides_p f_.Rides.length f__Rides_c] 54::Lf) w) := by
 unfold slices_ContainsFunc_Lcrew_Ride_crew_Ride_s2 at hF
 refine fnIn (args := [.slice s__p s_.length s__c,.func (.func 159) #[] #[pq b_]]) Tryz.func158 rfl Tryz.ntmps158 rfl fun a hf => wp_seq_k fun K1 h1 => cReg ?_
 refine stP hf rfl rfl rfl (pA rfl) fun a hf => cNil ?_
 refine h1 _ _ ?_
 refine wp_seq_k fun K2 h2 => cReg ?_
 refine stP hf rfl rfl rfl (pM rfl) fun a hf => stP hf rfl rfl rfl (pM rfl) fun a hf => ?_
 obtain ⟨r,hr,hF⟩ := bnd_some hF
 refine stE hf hc rfl rfl rfl (eC (v := i6 r) (vs := [.slice s__p s_.length s__c,.func (.func 159) #[] #[pq b_]]) (caps := []) en_185 rfl rfl rfl rfl (fun w hc => (slices_IndexFunc_Lcrew_Ride_crew_Ride_s2_ok s_ f_ h_s_ h_f__Rides ((hc.pick k1).pick k1) hr).mono fun e w h => ⟨h.1,((h.2.unpick k1).unpick k1)⟩)) fun a w hf hc => stP hf rfl rfl rfl (pGe rfl rfl) fun a hf => stP hf rfl rfl rfl (pA rfl) fun a hf => cNil ?_
 refine h2 _ _ ?_
 refine wp_ret ?_
 obtain rfl := sj hF
 exact fnOut1 (by simp) rfl Tryz.results158 hf hc (show look _ 4 = _ from rfl) ⟨rfl,hc⟩

def crew_every_crew_Ride_s2 (N : Nat) (l : List crew_Ride) (so : crew_Cable) : Option (Bool) :=
 Option.bind (slices_ContainsFunc_Lcrew_Ride_crew_Ride_s2 N l so) fun r =>
 some (!r)
theorem crew_every_crew_Ride_s2_ok {N : Nat} {G : Pers} {Lf : List Ent} {w : World} (l : List crew_Ride) (so : crew_Cable) {l_p : Option Addr} {l_c : Nat} {b_ : Nat} {so_Rides_p : Option Addr} {so_Rides_c : Nat} (h_l : Rd G 4 l_p l_c (l.map enc_crew_Ride)) (h_so_Rides : Rd G 4 so_Rides_p so_Rides_c (so.Rides.map enc_crew_Ride)) (hc : Ctx G (.box b_ [i6 so.Car,i6 so.Wide,i6 so.Sag,i6 so.Most,.slice so_Rides_p so.Rides.length so_Rides_c] 54::Lf) w) {res : Bool} (hF : crew_every_crew_Ride_s2 N l so = some res) : Calls Tryz.prog 90 #[.slice l_p l.length l_c,.func (.func 101) #[] #[pq b_]] w (fun e w => e = .returned (.bool res) ∧ Ctx G (.box b_ [i6 so.Car,i6 so.Wide,i6 so.Sag,i6 so.Most,.slice so_Rides_p so.Rides.length so_Rides_c] 54::Lf) w) := by
 unfold crew_every_crew_Ride_s2 at hF
 refine fnIn (args := [.slice l_p l.length l_c,.func (.func 101) #[] #[pq b_]]) Tryz.func90 rfl Tryz.ntmps90 rfl fun a hf => wp_seq_k fun K1 h1 => cReg ?_
 refine stBx (cs := [.func (.func 101) #[] #[pq b_]]) hf hc rfl rfl rfl rfl fun b_1 a w hf hc => stP hf rfl rfl rfl (pA rfl) fun a hf => cNil ?_
 refine h1 _ _ ?_
 refine wp_seq_k fun K2 h2 => cReg ?_
 refine stP hf rfl rfl rfl (pM rfl) fun a hf => stP hf rfl rfl rfl (pMF (us := [pq b_1]) rfl rfl) fun a hf => ?_
 obtain ⟨r,hr,hF⟩ := bnd_some hF
 refine stE hf hc rfl rfl rfl (eC (v := .bool r) (vs := [.slice l_p l.length l_c,.func (.func 159) #[] #[pq b_1]]) (caps := []) en_158 rfl rfl rfl rfl (fun w hc => (slices_ContainsFunc_Lcrew_Ride_crew_Ride_s2_ok l so h_l h_so_Rides ((hc.pick k1).pick k1) hr).mono fun e w h => ⟨h.1,((h.2.unpick k1).unpick k1)⟩)) fun a w hf hc => stP hf rfl rfl rfl (pNot rfl) fun a hf => stP hf rfl rfl rfl (pA rfl) fun a hf => cNil ?_
 refine h2 _ _ ?_
 refine wp_ret ?_
 obtain rfl := sj hF
 replace hc := hc.drop k0
 exact fnOut1 (by simp) rfl Tryz.results90 hf hc (show look _ 4 = _ from rfl) ⟨rfl,hc⟩

def slices_Clone_Lcrew_Ride_crew_Ride (N : Nat) (s_ : List crew_Ride) : Option ((List crew_Ride)) :=
 Option.bind (room (s_).length) fun un =>
 some s_
theorem slices_Clone_Lcrew_Ride_crew_Ride_ok {N : Nat} {G : Pers} {Lf : List Ent} {w : World} (s_ : List crew_Ride) {s__p : Option Addr} {s__c : Nat} (h_s_ : Rd G 4 s__p s__c (s_.map enc_crew_Ride)) (hc : Ctx G (Lf) w) {res : (List crew_Ride)} (hF : slices_Clone_Lcrew_Ride_crew_Ride N s_ = some res) : Calls Tryz.prog 102 #[.slice s__p s_.length s__c] w (fun e w => ∃ (p'1 : Option Addr) (c'1 : Nat),e = .returned (.slice p'1 res.length c'1) ∧ Ctx G (.row p'1 c'1 (res.map enc_crew_Ride) 72 4::Lf) w) := by
 unfold slices_Clone_Lcrew_Ride_crew_Ride at hF
 refine fnIn (args := [.slice s__p s_.length s__c]) Tryz.func102 rfl Tryz.ntmps102 rfl fun a hf => wp_seq_k fun K1 h1 => cReg ?_
 refine stP hf rfl rfl rfl (pA rfl) fun a hf => cNil ?_
 refine h1 _ _ ?_
 refine wp_seq_k fun K2 h2 => wp_seq_k fun K3 h3 => cReg ?_
 refine stP hf rfl rfl rfl (pM rfl) fun a hf => stP hf rfl rfl rfl (pEqN Tryz.underlying52 rfl rfl) fun a hf => cNil ?_
 refine h3 _ _ ?_
 rcases rd_nilq h_s_ with ⟨hp,hx⟩ | hp
 ·rw [hp] at hf
  replace hF : (some ([] : List crew_Ride)) = some res := by
   try rw [hx] at hF
   exact hF
  refine cCondT hf rfl ?_
  refine wp_seq_k fun K4 h4 => cReg ?_
  refine stP hf rfl rfl rfl (pA rfl) fun a hf => cNil ?_
  refine h4 _ _ ?_
  refine wp_ret ?_
  refine xThenR ?_
  obtain rfl := sj hF
  replace hc := hc.nilRow 72 4
  exact fnOut1 (by simp) rfl Tryz.results102 hf hc (show look _ 2 = _ from rfl) ⟨none,0,rfl,hc⟩
 ·rw [hp] at hf
  refine cCondF hf rfl ?_
  refine wp_skip ?_
  refine h2 _ _ ?_
  refine wp_seq_k fun K5 h5 => cReg ?_
  refine stBS (rows := ([] : List crew_Ride).map enc_crew_Ride) (vs := []) hf hc rfl rfl sl_52 rfl trivial rfl rfl fun b_1 a w hf hc => stP hf rfl rfl rfl (pM rfl) fun a hf => ?_
  obtain ⟨un,hun,hF⟩ := bnd_some hF
  refine stApm (xs := ([] : List crew_Ride)) (ys := s_) hf hc rfl rfl sl_52 rfl rfl rfl rfl rfl one_enc_crew_Ride (src_rd hc h_s_) (fun _ _ => u0) (by simpa using room_spec hun) fun p_1 c_1 a w hf hc => stP hf rfl rfl rfl (pA rfl) fun a hf => cNil ?_
  refine h5 _ _ ?_
  refine wp_ret ?_
  obtain rfl := sj hF
  exact fnOut1 (by simp) rfl Tryz.results102 hf hc (show look _ 2 = _ from rfl) ⟨p_1,c_1,rfl,hc⟩

def crew_high  : Unit :=
 ()
theorem crew_high_ok {G : Pers} {Lf : List Ent} {w : World}    (hc : Ctx G (Lf) w) {res : Unit} (hF : crew_high = res) : Calls Tryz.prog 83 #[] w (fun e w => e = .returned (.agg #[.func (.func 156) #[] #[]]) ∧ Ctx G (Lf) w) := by
 unfold crew_high at hF
 refine fnIn (args := []) Tryz.func83 rfl Tryz.ntmps83 rfl fun a hf => wp_seq_k fun K1 h1 => cReg ?_
 refine stAl (cs := [.nilFunc]) hf hc rfl rfl zr_147 rfl fun b_1 a w hf hc => cNil ?_
 refine h1 _ _ ?_
 refine wp_seq_k fun K2 h2 => cReg ?_
 refine stP hf rfl rfl rfl (pBuildS (cells := [.func (.func 156) #[] #[]]) bt_147 rfl rfl) fun a hf => stSt (vs := [.func (.func 156) #[] #[]]) hf hc rfl rfl rfl rfl sz_147 rfl rfl u0 fun w hc => cNil ?_
 refine h2 _ _ ?_
 refine wp_ret ?_
 obtain rfl := hF
 exact fnOut1 (by simp) rfl Tryz.results83 hf hc (rv_cellN (vs := [.func (.func 156) #[] #[]]) ag_147 rfl rfl (cells_box (n := 1) m0 rfl)) ⟨rfl,(hc.drop k0)⟩

def crew_Ride_on (r : crew_Ride) (n : Int) : Bool :=
 ((decide (r.From ≤ n)) && (decide ((W (n - r.From)) < r.Long)))
theorem crew_Ride_on_ok {G : Pers} {Lf : List Ent} {w : World} (r : crew_Ride) (n : Int)   (hc : Ctx G (Lf) w) {res : Bool} (hF : crew_Ride_on r n = res) : Calls Tryz.prog 104 #[.agg #[i6 r.From,i6 r.Long,i6 r.Weight.Lo,i6 r.Weight.Hi],i6 n] w (fun e w => e = .returned (.bool res) ∧ Ctx G (Lf) w) := by
 unfold crew_Ride_on at hF
 refine fnIn (args := [.agg #[i6 r.From,i6 r.Long,i6 r.Weight.Lo,i6 r.Weight.Hi],i6 n]) Tryz.func104 rfl Tryz.ntmps104 rfl fun a hf => wp_seq_k fun K1 h1 => cReg ?_
 refine stBx (cs := [i6 r.From,i6 r.Long,i6 r.Weight.Lo,i6 r.Weight.Hi]) hf hc rfl rfl rfl rfl fun b_1 a w hf hc => stP hf rfl rfl rfl (pA rfl) fun a hf => cNil ?_
 refine h1 _ _ ?_
 refine wp_seq_k fun K2 h2 => cReg ?_
 refine stP hf rfl rfl rfl (pM rfl) fun a hf => stP hf rfl rfl rfl (pFA fa_72_0 rfl) fun a hf => stE hf hc rfl rfl rfl (eLd1 sc_3 rfl (cell_box m0 rfl)) fun a w hf hc => stP hf rfl rfl rfl (pGe rfl rfl) fun a hf => stP hf rfl rfl rfl (pM rfl) fun a hf => stCut 8 (fun a w => Has 18 a [(1,i6 n),(2,pq b_1),(4,.bool false),(5,i6 n),(6,pq b_1),(7,i6 r.From),(8,.bool (decide (r.From ≤ n))),(9,.bool (decide (r.From ≤ n))),(17,.bool ((decide (r.From ≤ n)) && (decide ((W (n - r.From)) < r.Long))))] ∧ Ctx G (.box b_1 [i6 r.From,i6 r.Long,i6 r.Weight.Lo,i6 r.Weight.Hi] 72::Lf) w) ?_ ?_
 ·cases hb : (decide (r.From ≤ n))
  ·rw [hb] at hf
   refine stS hf rfl rfl rfl fun a hf => stS hf rfl rfl rfl fun a hf => stS hf rfl rfl rfl fun a hf => stS hf rfl rfl rfl fun a hf => stS hf rfl rfl rfl fun a hf => stS hf rfl rfl rfl fun a hf => stS hf rfl rfl rfl fun a hf => stP hf rfl rfl rfl (pPf rfl rfl) fun a hf => cNil ⟨hf.kp rfl,hc⟩
  ·rw [hb] at hf
   refine stP hf rfl rfl rfl (pM rfl) fun a hf => stP hf rfl rfl rfl (pFA fa_72_0 rfl) fun a hf => stE hf hc rfl rfl rfl (eLd1 sc_3 rfl (cell_box m0 rfl)) fun a w hf hc => stP hf rfl rfl rfl (pSub rfl rfl) fun a hf => stP hf rfl rfl rfl (pFA fa_72_1 rfl) fun a hf => stE hf hc rfl rfl rfl (eLd1 sc_3 rfl (cell_box m0 rfl)) fun a w hf hc => stP hf rfl rfl rfl (pLt rfl rfl) fun a hf => stP hf rfl rfl rfl (pPt rfl rfl) fun a hf => cNil ⟨hf.kp rfl,hc⟩
 intro a w ⟨hf,hc⟩
 refine stP hf rfl rfl rfl (pA rfl) fun a hf => cNil ?_
 refine h2 _ _ ?_
 refine wp_ret ?_
 obtain rfl := hF
 replace hc := hc.drop k0
 exact fnOut1 (by simp) rfl Tryz.results104 hf hc (show look _ 4 = _ from rfl) ⟨rfl,hc⟩

def crew_high_1 (s_ : api_Span) : Int :=
 s_.Hi
theorem crew_high_1_ok {G : Pers} {Lf : List Ent} {w : World} (s_ : api_Span)   (hc : Ctx G (Lf) w) {res : Int} (hF : crew_high_1 s_ = res) : Calls Tryz.prog 156 #[.agg #[i6 s_.Lo,i6 s_.Hi]] w (fun e w => e = .returned (i6 res) ∧ Ctx G (Lf) w) := by
 unfold crew_high_1 at hF
 refine fnIn (args := [.agg #[i6 s_.Lo,i6 s_.Hi]]) Tryz.func156 rfl Tryz.ntmps156 rfl fun a hf => wp_seq_k fun K1 h1 => cReg ?_
 refine stBx (cs := [i6 s_.Lo,i6 s_.Hi]) hf hc rfl rfl rfl rfl fun b_1 a w hf hc => stP hf rfl rfl rfl (pA rfl) fun a hf => cNil ?_
 refine h1 _ _ ?_
 refine wp_seq_k fun K2 h2 => cReg ?_
 refine stP hf rfl rfl rfl (pFA fa_29_1 rfl) fun a hf => stE hf hc rfl rfl rfl (eLd1 sc_3 rfl (cell_box m0 rfl)) fun a w hf hc => stP hf rfl rfl rfl (pA rfl) fun a hf => cNil ?_
 refine h2 _ _ ?_
 refine wp_ret ?_
 obtain rfl := hF
 replace hc := hc.drop k0
 exact fnOut1 (by simp) rfl Tryz.results156 hf hc (show look _ 2 = _ from rfl) ⟨rfl,hc⟩

def crew_sum_b5 (N : Nat) (l : List Int) (out : Int) (x : Int) : Option (Step (Int × Int) (Int)) :=
 cond (decide (x < ((l.length : Nat) : Int)))
 (Option.bind (getI l x) fun e_1 =>
 some (.cont (W (out + e_1),W (x + 1))))
 (some (.brk (out,x)))
def crew_sum (N : Nat) (l : List Int) : Option (Int) :=
 Option.bind (loopO (fun s5 => crew_sum_b5 N l s5.1 s5.2) N (0,0)) fun x5 =>
 exK x5 (fun s5 => some s5.1) some
theorem crew_sum_ok {N : Nat} {G : Pers} {Lf : List Ent} {w : World} (l : List Int) {l_p : Option Addr} {l_c : Nat} (h_l : Rd G 1 l_p l_c (l.map encI_i64)) (hc : Ctx G (Lf) w) {res : Int} (hF : crew_sum N l = some res) : Calls Tryz.prog 160 #[.slice l_p l.length l_c] w (fun e w => e = .returned (i6 res) ∧ Ctx G (Lf) w) := by
 unfold crew_sum at hF
 refine fnIn (args := [.slice l_p l.length l_c]) Tryz.func160 rfl Tryz.ntmps160 rfl fun a hf => wp_seq_k fun K1 h1 => cReg ?_
 refine stP hf rfl rfl rfl (pA rfl) fun a hf => cNil ?_
 refine h1 _ _ ?_
 refine wp_seq_k fun K2 h2 => cReg ?_
 refine stP hf rfl rfl rfl (pA rfl) fun a hf => cNil ?_
 refine h2 _ _ ?_
 refine wp_seq_k fun K3 h3 => wp_seq_k fun K4 h4 => cReg ?_
 refine stP hf rfl rfl rfl (pM rfl) fun a hf => stP hf rfl rfl rfl (pLenS Tryz.underlying25 rfl) fun a hf => stP hf rfl rfl rfl (pM rfl) fun a hf => cNil ?_
 refine h4 _ _ ?_
 refine wp_block ?_
 obtain ⟨x5,hx5,hF⟩ := bnd_some hF
 let S5 : (Int × Int) → Act → World → Prop := (fun (zz : Int × Int) a w => Has 17 a [(3,i6 zz.1),(6,.slice l_p l.length l_c),(7,i6 ((l.length : Nat) : Int)),(8,i6 zz.2)] ∧ Ctx G (Lf) w)
 have hr5 : ∀ (zz : Int × Int) a w,x5 = .go zz → S5 zz a w → K3 a w := by
  rintro ⟨out,x⟩ a w rfl ⟨hf,hc⟩
  replace hF := exK_go hF
  refine h3 _ _ ?_
  refine wp_seq_k fun K6 h6 => cReg ?_
  refine stP hf rfl rfl rfl (pM rfl) fun a hf => stP hf rfl rfl rfl (pA rfl) fun a hf => cNil ?_
  refine h6 _ _ ?_
  refine wp_ret ?_
  obtain rfl := sj hF
  exact fnOut1 (by simp) rfl Tryz.results160 hf hc (show look _ 2 = _ from rfl) ⟨rfl,hc⟩
 have ho5 : ∀ r,x5 = .out r → r = res := by
  rintro r rfl
  exact sj hF
 refine cLoop N (loopW (S := S5) (x := x5) ?_ N (0,0) _ _ ⟨hf.kp rfl,hc⟩ hx5)
 clear hF hf hc
 rintro ⟨out,x⟩ st5 a w KB5 ⟨hf,hc⟩ hF hfin5 hK5
 unfold crew_sum_b5 at hF
 refine wp_seq_k fun K7 h7 => cReg ?_
 refine stP hf rfl rfl rfl (pLt rfl rfl) fun a hf => cNil ?_
 refine h7 _ _ ?_
 refine wp_seq_k fun K8 h8 => cCond (b := (decide (x < ((l.length : Nat) : Int)))) hf rfl (fun hb => ?_) (fun hb => ?_)
 ·replace hF := condT hb hF
  clear hb
  refine wp_skip ?_
  refine h8 _ _ ?_
  refine wp_seq_k fun K9 h9 => wp_block ?_
  refine wp_seq_k fun K10 h10 => cReg ?_
  obtain ⟨e_1,he_1,hF⟩ := bnd_some hF
  obtain ⟨b_1,o,qa,qp⟩ := h_l.atm he_1
  refine stP hf rfl rfl rfl (pIA Tryz.underlying25 sz_3 rfl rfl qa) fun a hf => stE hf hc rfl rfl rfl (eLd1 sc_3 rfl (cell_pc (j := 0) qp rfl)) fun a w hf hc => stP hf rfl rfl rfl (pA rfl) fun a hf => cNil ?_
  refine h10 _ _ ?_
  refine cReg ?_
  refine stP hf rfl rfl rfl (pM rfl) fun a hf => stP hf rfl rfl rfl (pM rfl) fun a hf => stP hf rfl rfl rfl (pAdd rfl rfl) fun a hf => stP hf rfl rfl rfl (pA rfl) fun a hf => cNil ?_
  refine h9 _ _ ?_
  refine cReg ?_
  refine stP hf rfl rfl rfl (pAdd rfl rfl) fun a hf => stP hf rfl rfl rfl (pM rfl) fun a hf => cNil ?_
  exact hK5 (W (out + e_1),W (x + 1)) _ _ (sj hF).symm ⟨hf.kp rfl,hc⟩
 ·replace hF := condF hb hF
  clear hb
  refine wp_exit ?_
  refine xThen ?_
  refine xThen ?_
  have he := sj hF
  rw [← he] at hfin5
  refine cHit ?_
  exact hr5 _ _ _ hfin5 ⟨hf.kp rfl,hc⟩

def crew_Cable_load_j9 (N : Nat) (x : Int) (l_1 : List Int) : Option (Step ((List Int) × Int) (Int)) :=
 some (.cont (l_1,W (x + 1)))
def crew_Cable_load_b5 (N : Nat) (c_ : crew_Cable) (n : Int) (l : List Int) (x : Int) : Option (Step ((List Int) × Int) (Int)) :=
 cond (decide (x < ((c_.Rides.length : Nat) : Int)))
 (Option.bind (getI c_.Rides x) fun e_1 =>
 cond (crew_Ride_on e_1 n)
 (Option.bind (room ((l ++ [(crew_high_1 e_1.Weight)])).length) fun un =>
 crew_Cable_load_j9 N x (l ++ [(crew_high_1 e_1.Weight)]))
 (crew_Cable_load_j9 N x l))
 (some (.brk (l,x)))
def crew_Cable_load (N : Nat) (c_ : crew_Cable) (n : Int) : Option (Int) :=
 Option.bind (loopO (fun s5 => crew_Cable_load_b5 N c_ n s5.1 s5.2) N (([c_.Car] : List Int),0)) fun x5 =>
 exK x5 (fun s5 => Option.bind (crew_sum N s5.1) fun r =>
 some r) some
theorem crew_Cable_load_ok {N : Nat} {G : Pers} {Lf : List Ent} {w : World} (c_ : crew_Cable) (n : Int) {c__Rides_p : Option Addr} {c__Rides_c : Nat} (h_c__Rides : Rd G 4 c__Rides_p c__Rides_c (c_.Rides.map enc_crew_Ride)) (hc : Ctx G (Lf) w) {res : Int} (hF : crew_Cable_load N c_ n = some res) : Calls Tryz.prog 93 #[.agg #[i6 c_.Car,i6 c_.Wide,i6 c_.Sag,i6 c_.Most,.slice c__Rides_p c_.Rides.length c__Rides_c],i6 n,.agg #[.func (.func 156) #[] #[]]] w (fun e w => e = .returned (i6 res) ∧ Ctx G (Lf) w) := by
 unfold crew_Cable_load at hF
 refine fnIn (args := [.agg #[i6 c_.Car,i6 c_.Wide,i6 c_.Sag,i6 c_.Most,.slice c__Rides_p c_.Rides.length c__Rides_c],i6 n,.agg #[.func (.func 156) #[] #[]]]) Tryz.func93 rfl Tryz.ntmps93 rfl fun a hf => wp_seq_k fun K1 h1 => cReg ?_
 refine stBx (cs := [i6 c_.Car,i6 c_.Wide,i6 c_.Sag,i6 c_.Most,.slice c__Rides_p c_.Rides.length c__Rides_c]) hf hc rfl rfl rfl rfl fun b_1 a w hf hc => stBx (cs := [.func (.func 156) #[] #[]]) hf hc rfl rfl rfl rfl fun b_2 a w hf hc => stP hf rfl rfl rfl (pA rfl) fun a hf => cNil ?_
 refine h1 _ _ ?_
 refine wp_seq_k fun K2 h2 => cReg ?_
 refine stP hf rfl rfl rfl (pFA fa_54_0 rfl) fun a hf => stE hf hc rfl rfl rfl (eLd1 sc_3 rfl (cell_box m1 rfl)) fun a w hf hc => stBS (rows := ([c_.Car] : List Int).map encI_i64) (vs := [(0,i6 c_.Car)]) hf hc rfl rfl sl_25 rfl ⟨rfl,rfl,rfl,trivial⟩ rfl rfl fun b_3 a w hf hc => stP hf rfl rfl rfl (pA rfl) fun a hf => cNil ?_
 refine h2 _ _ ?_
 refine wp_seq_k fun K3 h3 => wp_seq_k fun K4 h4 => cReg ?_
 refine stP hf rfl rfl rfl (pFA fa_54_4 rfl) fun a hf => stE hf hc rfl rfl rfl (eLd1 sc_52 rfl (cell_box m2 rfl)) fun a w hf hc => stP hf rfl rfl rfl (pLenS Tryz.underlying52 rfl) fun a hf => stP hf rfl rfl rfl (pM rfl) fun a hf => cNil ?_
 refine h4 _ _ ?_
 refine wp_block ?_
 obtain ⟨x5,hx5,hF⟩ := bnd_some hF
 let S5 : ((List Int) × Int) → Act → World → Prop := (fun (zz : (List Int) × Int) a w => ∃ (p_1 : Option Addr) (c_1 : Nat),Has 34 a [(1,i6 n),(5,pq b_2),(7,.slice p_1 zz.1.length c_1),(14,.slice c__Rides_p c_.Rides.length c__Rides_c),(15,i6 ((c_.Rides.length : Nat) : Int)),(16,i6 zz.2)] ∧ Ctx G (.row p_1 c_1 (zz.1.map encI_i64) 3 1::.box b_2 [.func (.func 156) #[] #[]] 147::Lf) w)
 have hr5 : ∀ (zz : (List Int) × Int) a w,x5 = .go zz → S5 zz a w → K3 a w := by
  rintro ⟨l,x⟩ a w rfl ⟨p_1,c_1,hf,hc⟩
  replace hF := exK_go hF
  refine h3 _ _ ?_
  refine wp_seq_k fun K6 h6 => cReg ?_
  refine stP hf rfl rfl rfl (pM rfl) fun a hf => ?_
  obtain ⟨r,hr,hF⟩ := bnd_some hF
  refine stE hf hc rfl rfl rfl (eC (v := i6 r) (vs := [.slice p_1 l.length c_1]) (caps := []) en_160 rfl rfl rfl rfl (fun w hc => by obtain ⟨G1,hle1,hrd1,hc,hth1⟩ := lend hc k0; exact (crew_sum_ok l hrd1 hc hr).mono fun e w h => ⟨h.1,((hth1 _ _ h.2).unpick k0)⟩)) fun a w hf hc => stP hf rfl rfl rfl (pA rfl) fun a hf => cNil ?_
  refine h6 _ _ ?_
  refine wp_ret ?_
  obtain rfl := sj hF
  replace hc := hc.drop k1
  replace hc := hc.drop k0
  exact fnOut1 (by simp) rfl Tryz.results93 hf hc (show look _ 6 = _ from rfl) ⟨rfl,hc⟩
 have ho5 : ∀ r,x5 = .out r → r = res := by
  rintro r rfl
  exact sj hF
 replace hc := hc.drop k2
 refine cLoop N (loopW (S := S5) (x := x5) ?_ N (([c_.Car] : List Int),0) _ _ ⟨(some ⟨b_3,0,none⟩),1,hf.kp rfl,hc⟩ hx5)
 clear hF hf hc
 rintro ⟨l,x⟩ st5 a w KB5 ⟨p_1,c_1,hf,hc⟩ hF hfin5 hK5
 unfold crew_Cable_load_b5 at hF
 refine wp_seq_k fun K7 h7 => cReg ?_
 refine stP hf rfl rfl rfl (pLt rfl rfl) fun a hf => cNil ?_
 refine h7 _ _ ?_
 refine wp_seq_k fun K8 h8 => cCond (b := (decide (x < ((c_.Rides.length : Nat) : Int)))) hf rfl (fun hb => ?_) (fun hb => ?_)
 ·replace hF := condT hb hF
  clear hb
  refine wp_skip ?_
  refine h8 _ _ ?_
  refine wp_seq_k fun K9 h9 => ?_
  have hj9 : ∀ (l_1 : List Int) (p_2 : Option Addr) (c_2 : Nat) a w,Has 34 a [(1,i6 n),(5,pq b_2),(7,.slice p_2 l_1.length c_2),(14,.slice c__Rides_p c_.Rides.length c__Rides_c),(15,i6 ((c_.Rides.length : Nat) : Int)),(16,i6 x)] → Ctx G (.row p_2 c_2 (l_1.map encI_i64) 3 1::.box b_2 [.func (.func 156) #[] #[]] 147::Lf) w → crew_Cable_load_j9 N x l_1 = some st5 → K9 a w := by
   repeat (clear hF)
   repeat (clear hc)
   repeat (clear hf)
   intro l_1 p_2 c_2 a w hf hc hF
   unfold crew_Cable_load_j9 at hF
   refine h9 _ _ ?_
   refine cReg ?_
   refine stP hf rfl rfl rfl (pAdd rfl rfl) fun a hf => stP hf rfl rfl rfl (pM rfl) fun a hf => cNil ?_
   exact hK5 (l_1,W (x + 1)) _ _ (sj hF).symm ⟨p_2,c_2,hf.kp rfl,hc⟩
  refine wp_block ?_
  refine wp_seq_k fun K10 h10 => cReg ?_
  obtain ⟨e_1,he_1,hF⟩ := bnd_some hF
  obtain ⟨b_4,o,qa,qp⟩ := h_c__Rides.atm he_1
  refine stP hf rfl rfl rfl (pIA Tryz.underlying52 sz_72 rfl rfl qa) fun a hf => stE hf hc rfl rfl rfl (eLdN (vs := [i6 e_1.From,i6 e_1.Long,i6 e_1.Weight.Lo,i6 e_1.Weight.Hi]) ag_72 rfl rfl (cells_pc qp (n := 4) (o' := 0) rfl)) fun a w hf hc => stAl (cs := [i6 0,i6 0,i6 0,i6 0]) hf hc rfl rfl zr_72 rfl fun b_5 a w hf hc => stSt (vs := [i6 e_1.From,i6 e_1.Long,i6 e_1.Weight.Lo,i6 e_1.Weight.Hi]) hf hc rfl rfl rfl rfl sz_72 rfl rfl u0 fun w hc => cNil ?_
  refine h10 _ _ ?_
  refine wp_seq_k fun K11 h11 => cReg ?_
  refine stE hf hc rfl rfl rfl (eLdN (vs := [i6 e_1.From,i6 e_1.Long,i6 e_1.Weight.Lo,i6 e_1.Weight.Hi]) ag_72 rfl rfl (cells_box (n := 4) m0 rfl)) fun a w hf hc => stP hf rfl rfl rfl (pM rfl) fun a hf => stE hf hc rfl rfl rfl (eC (v := .bool (crew_Ride_on e_1 n)) (vs := [.agg #[i6 e_1.From,i6 e_1.Long,i6 e_1.Weight.Lo,i6 e_1.Weight.Hi],i6 n]) (caps := []) en_104 rfl rfl rfl rfl (fun w hc => crew_Ride_on_ok e_1 n hc rfl)) fun a w hf hc => cNil ?_
  refine h11 _ _ ?_
  refine cCond (b := (crew_Ride_on e_1 n)) hf rfl (fun hb => ?_) (fun hb => ?_)
  ·replace hF := condT hb hF
   clear hb
   refine cReg ?_
   refine stP hf rfl rfl rfl (pM rfl) fun a hf => stP hf rfl rfl rfl (pFA fa_147_0 rfl) fun a hf => stE hf hc rfl rfl rfl (eLd1 sc_145 rfl (cell_box m2 rfl)) fun a w hf hc => stP hf rfl rfl rfl (pFA fa_72_2 rfl) fun a hf => stE hf hc rfl rfl rfl (eLdN (vs := [i6 e_1.Weight.Lo,i6 e_1.Weight.Hi]) ag_29 rfl rfl (cells_box (n := 2) m0 rfl)) fun a w hf hc => stE hf hc rfl rfl rfl (eC (v := i6 (crew_high_1 e_1.Weight)) (vs := [.agg #[i6 e_1.Weight.Lo,i6 e_1.Weight.Hi]]) (caps := []) en_156 rfl rfl rfl rfl (fun w hc => crew_high_1_ok e_1.Weight hc rfl)) fun a w hf hc => stBS (rows := ([(crew_high_1 e_1.Weight)] : List Int).map encI_i64) (vs := [(0,i6 (crew_high_1 e_1.Weight))]) hf hc rfl rfl sl_25 rfl ⟨rfl,rfl,rfl,trivial⟩ rfl rfl fun b_6 a w hf hc => ?_
   obtain ⟨un,hun,hF⟩ := bnd_some hF
   refine stApm (xs := l) (ys := ([(crew_high_1 e_1.Weight)] : List Int)) hf hc rfl rfl sl_25 rfl rfl rfl rfl rfl one_encI_i64 (src_row hc m0) (fun _ _ => u2) (by simpa using room_spec hun) fun p_3 c_3 a w hf hc => stP hf rfl rfl rfl (pA rfl) fun a hf => cNil ?_
   replace hc := hc.drop k1
   replace hc := hc.drop k0
   exact hj9 (l ++ [(crew_high_1 e_1.Weight)]) p_3 c_3 _ _  (hf.kp rfl) hc hF
  ·replace hF := condF hb hF
   clear hb
   refine wp_skip ?_
   replace hc := hc.drop k0
   exact hj9 l p_1 c_1 _ _  (hf.kp rfl) hc hF
 ·replace hF := condF hb hF
  clear hb
  refine wp_exit ?_
  refine xThen ?_
  refine xThen ?_
  have he := sj hF
  rw [← he] at hfin5
  refine cHit ?_
  exact hr5 _ _ _ hfin5 ⟨p_1,c_1,hf.kp rfl,hc⟩

def crew_Cable_full (N : Nat) (c_ : crew_Cable) (r : crew_Ride) : Option (Bool) :=
 Option.bind (crew_Cable_load N c_ r.From) fun r_0 =>
 some (crew_Cable_beyond c_ r_0)
theorem crew_Cable_full_ok {N : Nat} {G : Pers} {Lf : List Ent} {w : World} (c_ : crew_Cable) (r : crew_Ride) {c__Rides_p : Option Addr} {c__Rides_c : Nat} (h_c__Rides : Rd G 4 c__Rides_p c__Rides_c (c_.Rides.map enc_crew_Ride)) (hc : Ctx G (Lf) w) {res : Bool} (hF : crew_Cable_full N c_ r = some res) : Calls Tryz.prog 103 #[.agg #[i6 c_.Car,i6 c_.Wide,i6 c_.Sag,i6 c_.Most,.slice c__Rides_p c_.Rides.length c__Rides_c],.agg #[i6 r.From,i6 r.Long,i6 r.Weight.Lo,i6 r.Weight.Hi]] w (fun e w => e = .returned (.bool res) ∧ Ctx G (Lf) w) := by
 unfold crew_Cable_full at hF
 refine fnIn (args := [.agg #[i6 c_.Car,i6 c_.Wide,i6 c_.Sag,i6 c_.Most,.slice c__Rides_p c_.Rides.length c__Rides_c],.agg #[i6 r.From,i6 r.Long,i6 r.Weight.Lo,i6 r.Weight.Hi]]) Tryz.func103 rfl Tryz.ntmps103 rfl fun a hf => wp_seq_k fun K1 h1 => cReg ?_
 refine stBx (cs := [i6 c_.Car,i6 c_.Wide,i6 c_.Sag,i6 c_.Most,.slice c__Rides_p c_.Rides.length c__Rides_c]) hf hc rfl rfl rfl rfl fun b_1 a w hf hc => stBx (cs := [i6 r.From,i6 r.Long,i6 r.Weight.Lo,i6 r.Weight.Hi]) hf hc rfl rfl rfl rfl fun b_2 a w hf hc => stP hf rfl rfl rfl (pA rfl) fun a hf => cNil ?_
 refine h1 _ _ ?_
 refine wp_seq_k fun K2 h2 => ?_
 obtain ⟨r_0,hr_0,hF⟩ := bnd_some hF
 refine cQ hc follows_mx (by kernel_rfl) ?_
 refine qE hf rfl rfl rfl (eLdN (vs := [i6 c_.Car,i6 c_.Wide,i6 c_.Sag,i6 c_.Most,.slice c__Rides_p c_.Rides.length c__Rides_c]) ag_54 rfl rfl (cells_box (n := 5) m1 rfl)) fun a hf => qE hf rfl rfl rfl (eLdN (vs := [i6 c_.Car,i6 c_.Wide,i6 c_.Sag,i6 c_.Most,.slice c__Rides_p c_.Rides.length c__Rides_c]) ag_54 rfl rfl (cells_box (n := 5) m1 rfl)) fun a hf => qE hf rfl rfl rfl (Pu.ev (pFA fa_72_0 rfl)) fun a hf => qE hf rfl rfl rfl (eLd1 sc_3 rfl (cell_box m0 rfl)) fun a hf => qE hf rfl rfl rfl (eC (v := .agg #[.func (.func 156) #[] #[]]) (vs := []) (caps := []) en_83 rfl rfl rfl rfl (fun w hc => crew_high_ok hc rfl)) fun a hf => qE hf rfl rfl rfl (eC (v := i6 r_0) (vs := [.agg #[i6 c_.Car,i6 c_.Wide,i6 c_.Sag,i6 c_.Most,.slice c__Rides_p c_.Rides.length c__Rides_c],i6 r.From,.agg #[.func (.func 156) #[] #[]]]) (caps := []) en_93 rfl rfl rfl rfl (fun w hc => crew_Cable_load_ok c_ r.From h_c__Rides hc hr_0)) fun a hf => qE hf rfl rfl rfl (eC (v := .bool (crew_Cable_beyond c_ r_0)) (vs := [.agg #[i6 c_.Car,i6 c_.Wide,i6 c_.Sag,i6 c_.Most,.slice c__Rides_p c_.Rides.length c__Rides_c],i6 r_0]) (caps := []) en_99 rfl rfl rfl rfl (fun w hc => crew_Cable_beyond_ok c_ r_0 h_c__Rides hc rfl)) fun a hf => qE hf rfl rfl rfl (Pu.ev (pA rfl)) fun a hf => ?_
 intro w hc
 refine h2 _ _ ?_
 refine wp_ret ?_
 obtain rfl := sj hF
 replace hc := hc.drop k1
 replace hc := hc.drop k0
 exact fnOut1 (by simp) rfl Tryz.results103 hf hc (show look _ 4 = _ from rfl) ⟨rfl,hc⟩

def crew_Queue_j38 (N : Nat) (x_4 : Int) (next__1 : Int) : Option (Step (Int × Int) (Step (Int × Int × (List crew_Ride)) (Step ((List Int) × Int × Int × (List crew_Ride)) ((List Int) × Int)))) :=
 some (.cont (next__1,W (x_4 + 1)))
def crew_Queue_b33 (N : Nat) (x_1 : List crew_Ride) (at__1 : Int) (next_ : Int) (x_4 : Int) : Option (Step (Int × Int) (Step (Int × Int × (List crew_Ride)) (Step ((List Int) × Int × Int × (List crew_Ride)) ((List Int) × Int)))) :=
 cond (decide (x_4 < ((x_1.length : Nat) : Int)))
 (Option.bind (getI x_1 x_4) fun e_3 =>
 cond ((crew_Ride_on e_3 at__1) && ((next_ == (-1)) || (decide ((W (e_3.From + e_3.Long)) < next_))))
 (crew_Queue_j38 N x_4 (W (e_3.From + e_3.Long)))
 (crew_Queue_j38 N x_4 next_))
 (some (.brk (next_,x_4)))
def crew_Queue_b25 (N : Nat) (c_ : crew_Cable) (x_1 : List crew_Ride) (e_1 : crew_Ride) (at__1 : Int) (x_2 : Int) (x_3 : List crew_Ride) : Option (Step (Int × Int × (List crew_Ride)) (Step ((List Int) × Int × Int × (List crew_Ride)) ((List Int) × Int))) :=
 Option.bind (crew_Cable_full N (⟨c_.Car,c_.Wide,c_.Sag,c_.Most,x_3⟩ : crew_Cable) (⟨x_2,e_1.Long,e_1.Weight⟩ : crew_Ride)) fun r_3 =>
 cond r_3
 (Option.bind (loopO (fun s33 => crew_Queue_b33 N x_1 at__1 s33.1 s33.2) N ((-1),0)) fun x33 =>
 exK x33 (fun s33 => Option.bind (getI x_3 (W (((x_3.length : Nat) : Int) - 1))) fun e_2 =>
 some (.cont (s33.1,s33.1,(x_3.set (W (((x_3.length : Nat) : Int) - 1)).toNat (⟨s33.1,e_1.Long,e_1.Weight⟩ : crew_Ride))))) some)
 (some (.brk (at__1,x_2,x_3)))
def crew_Queue_b14 (N : Nat) (c_ : crew_Cable) (out : List Int) (at_ : Int) (x : Int) (x_1 : List crew_Ride) : Option (Step ((List Int) × Int × Int × (List crew_Ride)) ((List Int) × Int)) :=
 cond (decide (x < ((c_.Rides.length : Nat) : Int)))
 (Option.bind (getI c_.Rides x) fun e_1 =>
 Option.bind (slices_Clone_Lcrew_Ride_crew_Ride N x_1) fun r_2 =>
 Option.bind (room ((r_2 ++ [(⟨max at_ e_1.From,e_1.Long,e_1.Weight⟩ : crew_Ride)])).length) fun un =>
 Option.bind (loopO (fun s25 => crew_Queue_b25 N c_ x_1 e_1 s25.1 s25.2.1 s25.2.2) N (max at_ e_1.From,max at_ e_1.From,(r_2 ++ [(⟨max at_ e_1.From,e_1.Long,e_1.Weight⟩ : crew_Ride)]))) fun x25 =>
 exK x25 (fun s25 => Option.bind (room ((out ++ [s25.1])).length) fun un_1 =>
 some (.cont ((out ++ [s25.1]),s25.1,W (x + 1),s25.2.2))) some)
 (some (.brk (out,at_,x,x_1)))
def crew_Queue (N : Nat) (c_ : crew_Cable) : Option ((List Int) × Int) :=
 Option.bind (crew_CheckCable N c_) fun r =>
 cond (r != 0)
 (some (([] : List Int),r))
 (Option.bind (cond (crew_Cable_beyond c_ c_.Car) (some true) (Option.bind (crew_every_crew_Ride_s2 N c_.Rides c_) fun r_1 =>
 some (!r_1))) fun t_1 =>
 cond t_1
 (some (([] : List Int),6))
 (Option.bind (loopO (fun s14 => crew_Queue_b14 N c_ s14.1 s14.2.1 s14.2.2.1 s14.2.2.2) N (([] : List Int),0,0,([] : List crew_Ride))) fun x14 =>
 exK x14 (fun s14 => some (s14.1,0)) some))
theorem crew_Queue_ok {N : Nat} {G : Pers} {Lf : List Ent} {w : World} (c_ : crew_Cable) {c__Rides_p : Option Addr} {c__Rides_c : Nat} (h_c__Rides : Rd G 4 c__Rides_p c__Rides_c (c_.Rides.map enc_crew_Ride)) (hc : Ctx G (Lf) w) {res : (List Int) × Int} (hF : crew_Queue N c_ = some res) : Calls Tryz.prog 38 #[.agg #[i6 c_.Car,i6 c_.Wide,i6 c_.Sag,i6 c_.Most,.slice c__Rides_p c_.Rides.length c__Rides_c]] w (fun e w => ∃ (p'1 : Option Addr) (c'1 : Nat),e = .returned (.tuple #[.slice p'1 res.1.length c'1,i6 res.2]) ∧ Ctx G (.row p'1 c'1 (res.1.map encI_i64) 3 1::Lf) w) := by
 unfold crew_Queue at hF
 refine fnIn (args := [.agg #[i6 c_.Car,i6 c_.Wide,i6 c_.Sag,i6 c_.Most,.slice c__Rides_p c_.Rides.length c__Rides_c]]) Tryz.func38 rfl Tryz.ntmps38 rfl fun a hf => wp_seq_k fun K1 h1 => cReg ?_
 refine stBx (cs := [i6 c_.Car,i6 c_.Wide,i6 c_.Sag,i6 c_.Most,.slice c__Rides_p c_.Rides.length c__Rides_c]) hf hc rfl rfl rfl rfl fun b_1 a w hf hc => stP hf rfl rfl rfl (pA rfl) fun a hf => stP hf rfl rfl rfl (pA rfl) fun a hf => cNil ?_
 refine h1 _ _ ?_
 refine wp_seq_k fun K2 h2 => cReg ?_
 refine stE hf hc rfl rfl rfl (eLdN (vs := [i6 c_.Car,i6 c_.Wide,i6 c_.Sag,i6 c_.Most,.slice c__Rides_p c_.Rides.length c__Rides_c]) ag_54 rfl rfl (cells_box (n := 5) m0 rfl)) fun a w hf hc => ?_
 obtain ⟨r,hr,hF⟩ := bnd_some hF
 refine stE hf hc rfl rfl rfl (eC (v := i6 r) (vs := [.agg #[i6 c_.Car,i6 c_.Wide,i6 c_.Sag,i6 c_.Most,.slice c__Rides_p c_.Rides.length c__Rides_c]]) (caps := []) en_31 rfl rfl rfl rfl (fun w hc => crew_CheckCable_ok c_ h_c__Rides hc hr)) fun a w hf hc => stP hf rfl rfl rfl (pA rfl) fun a hf => cNil ?_
 refine h2 _ _ ?_
 refine wp_seq_k fun K3 h3 => wp_block ?_
 refine wp_seq_k fun K4 h4 => cReg ?_
 refine stP hf rfl rfl rfl (pM rfl) fun a hf => stP hf rfl rfl rfl (pNe rfl rfl) fun a hf => stP hf rfl rfl rfl (pA rfl) fun a hf => cNil ?_
 refine h4 _ _ ?_
 refine cCond (b := (r != 0)) hf rfl (fun hb => ?_) (fun hb => ?_)
 ·replace hF := condT hb hF
  clear hb
  refine wp_seq_k fun K5 h5 => cReg ?_
  refine stP hf rfl rfl rfl (pM rfl) fun a hf => stP hf rfl rfl rfl (pA rfl) fun a hf => stP hf rfl rfl rfl (pA rfl) fun a hf => cNil ?_
  refine h5 _ _ ?_
  refine wp_ret ?_
  refine xBlkR ?_
  refine xThenR ?_
  obtain rfl := sj hF
  replace hc := hc.nilRow 3 1
  replace hc := hc.drop k1
  exact fnOut2 (by simp) rfl Tryz.results38 hf hc (show look _ 2 = _ from rfl) (show look _ 3 = _ from rfl) ⟨none,0,rfl,hc⟩
 ·replace hF := condF hb hF
  clear hb
  refine wp_seq_k fun K6 h6 => cReg ?_
  refine stE hf hc rfl rfl rfl (eLdN (vs := [i6 c_.Car,i6 c_.Wide,i6 c_.Sag,i6 c_.Most,.slice c__Rides_p c_.Rides.length c__Rides_c]) ag_54 rfl rfl (cells_box (n := 5) m0 rfl)) fun a w hf hc => stP hf rfl rfl rfl (pFA fa_54_0 rfl) fun a hf => stE hf hc rfl rfl rfl (eLd1 sc_3 rfl (cell_box m0 rfl)) fun a w hf hc => stE hf hc rfl rfl rfl (eC (v := .bool (crew_Cable_beyond c_ c_.Car)) (vs := [.agg #[i6 c_.Car,i6 c_.Wide,i6 c_.Sag,i6 c_.Most,.slice c__Rides_p c_.Rides.length c__Rides_c],i6 c_.Car]) (caps := []) en_99 rfl rfl rfl rfl (fun w hc => crew_Cable_beyond_ok c_ c_.Car h_c__Rides hc rfl)) fun a w hf hc => stP hf rfl rfl rfl (pM rfl) fun a hf => ?_
  obtain ⟨t_1,ht_1,hF⟩ := bnd_some hF
  refine stCut 6 (fun a w => Has 105 a [(1,pq b_1),(21,.agg #[i6 c_.Car,i6 c_.Wide,i6 c_.Sag,i6 c_.Most,.slice c__Rides_p c_.Rides.length c__Rides_c]),(22,pq b_1),(23,i6 c_.Car),(24,.bool (crew_Cable_beyond c_ c_.Car)),(25,.bool (crew_Cable_beyond c_ c_.Car)),(31,.bool t_1)] ∧ Ctx G (.box b_1 [i6 c_.Car,i6 c_.Wide,i6 c_.Sag,i6 c_.Most,.slice c__Rides_p c_.Rides.length c__Rides_c] 54::Lf) w) ?_ ?_
  ·cases hb : (crew_Cable_beyond c_ c_.Car)
   ·rw [hb] at hf
    have hF := condF hb ht_1
    refine stP hf rfl rfl rfl (pFA fa_54_4 rfl) fun a hf => stE hf hc rfl rfl rfl (eLd1 sc_52 rfl (cell_box m0 rfl)) fun a w hf hc => stP hf rfl rfl rfl (pMF (us := [pq b_1]) rfl rfl) fun a hf => ?_
    obtain ⟨r_1,hr_1,hF⟩ := bnd_some hF
    refine stE hf hc rfl rfl rfl (eC (v := .bool r_1) (vs := [.slice c__Rides_p c_.Rides.length c__Rides_c,.func (.func 101) #[] #[pq b_1]]) (caps := []) en_90 rfl rfl rfl rfl (fun w hc => (crew_every_crew_Ride_s2_ok c_.Rides c_ h_c__Rides h_c__Rides (hc.pick k0) hr_1).mono fun e w h => ⟨h.1,(h.2.unpick k0)⟩)) fun a w hf hc => stP hf rfl rfl rfl (pNot rfl) fun a hf => stP hf rfl rfl rfl (pPf rfl rfl) fun a hf => ?_
    obtain rfl := sj hF
    exact cNil ⟨hf.kp rfl,hc⟩
   ·rw [hb] at hf
    have hF := condT hb ht_1
    obtain rfl := sj hF
    refine stS hf rfl rfl rfl fun a hf => stS hf rfl rfl rfl fun a hf => stS hf rfl rfl rfl fun a hf => stS hf rfl rfl rfl fun a hf => stS hf rfl rfl rfl fun a hf => stP hf rfl rfl rfl (pPt rfl rfl) fun a hf => cNil ⟨hf.kp rfl,hc⟩
  intro a w ⟨hf,hc⟩
  refine stP hf rfl rfl rfl (pA rfl) fun a hf => cNil ?_
  refine h6 _ _ ?_
  refine cCond (b := t_1) hf rfl (fun hb => ?_) (fun hb => ?_)
  ·replace hF := condT hb hF
   clear hb
   refine wp_seq_k fun K7 h7 => cReg ?_
   refine stP hf rfl rfl rfl (pA rfl) fun a hf => stP hf rfl rfl rfl (pA rfl) fun a hf => cNil ?_
   refine h7 _ _ ?_
   refine wp_ret ?_
   refine xBlkR ?_
   refine xThenR ?_
   obtain rfl := sj hF
   replace hc := hc.nilRow 3 1
   replace hc := hc.drop k1
   exact fnOut2 (by simp) rfl Tryz.results38 hf hc (show look _ 2 = _ from rfl) (show look _ 3 = _ from rfl) ⟨none,0,rfl,hc⟩
  ·replace hF := condF hb hF
   clear hb
   refine wp_skip ?_
   refine h3 _ _ ?_
   refine wp_seq_k fun K8 h8 => cReg ?_
   refine stE hf hc rfl rfl rfl (eLdN (vs := [i6 c_.Car,i6 c_.Wide,i6 c_.Sag,i6 c_.Most,.slice c__Rides_p c_.Rides.length c__Rides_c]) ag_54 rfl rfl (cells_box (n := 5) m0 rfl)) fun a w hf hc => stAl (cs := [i6 0,i6 0,i6 0,i6 0,.slice none 0 0]) hf hc rfl rfl zr_54 rfl fun b_2 a w hf hc => stSt (vs := [i6 c_.Car,i6 c_.Wide,i6 c_.Sag,i6 c_.Most,.slice c__Rides_p c_.Rides.length c__Rides_c]) hf hc rfl rfl rfl rfl sz_54 rfl rfl u0 fun w hc => cNil ?_
   refine h8 _ _ ?_
   refine wp_seq_k fun K9 h9 => cReg ?_
   refine stP hf rfl rfl rfl (pFA fa_54_4 rfl) fun a hf => stSt (vs := [.slice none 0 0]) hf hc rfl rfl rfl rfl sz_52 rfl rfl u0 fun w hc => cNil ?_
   refine h9 _ _ ?_
   refine wp_seq_k fun K10 h10 => cReg ?_
   refine stP hf rfl rfl rfl (pA rfl) fun a hf => cNil ?_
   refine h10 _ _ ?_
   refine wp_seq_k fun K11 h11 => cReg ?_
   refine stP hf rfl rfl rfl (pA rfl) fun a hf => cNil ?_
   refine h11 _ _ ?_
   refine wp_seq_k fun K12 h12 => wp_seq_k fun K13 h13 => cReg ?_
   refine stP hf rfl rfl rfl (pFA fa_54_4 rfl) fun a hf => stE hf hc rfl rfl rfl (eLd1 sc_52 rfl (cell_box m1 rfl)) fun a w hf hc => stP hf rfl rfl rfl (pLenS Tryz.underlying52 rfl) fun a hf => stP hf rfl rfl rfl (pM rfl) fun a hf => cNil ?_
   refine h13 _ _ ?_
   refine wp_block ?_
   obtain ⟨x14,hx14,hF⟩ := bnd_some hF
   let S14 : ((List Int) × Int × Int × (List crew_Ride)) → Act → World → Prop := (fun (zz : (List Int) × Int × Int × (List crew_Ride)) a w => ∃ (p_1 : Option Addr) (c_1 : Nat) (p_2 : Option Addr) (c_2 : Nat),Has 105 a [(5,pq b_2),(6,.slice p_1 zz.1.length c_1),(7,i6 zz.2.1),(35,.slice c__Rides_p c_.Rides.length c__Rides_c),(36,i6 ((c_.Rides.length : Nat) : Int)),(37,i6 zz.2.2.1)] ∧ Ctx G (.row p_2 c_2 (zz.2.2.2.map enc_crew_Ride) 72 4::.row p_1 c_1 (zz.1.map encI_i64) 3 1::.box b_2 [i6 c_.Car,i6 c_.Wide,i6 c_.Sag,i6 c_.Most,.slice p_2 zz.2.2.2.length c_2] 54::Lf) w)
   have hr14 : ∀ (zz : (List Int) × Int × Int × (List crew_Ride)) a w,x14 = .go zz → S14 zz a w → K12 a w := by
    rintro ⟨out,at_,x,x_1⟩ a w rfl ⟨p_1,c_1,p_2,c_2,hf,hc⟩
    replace hF := exK_go hF
    refine h12 _ _ ?_
    refine wp_seq_k fun K15 h15 => cReg ?_
    refine stP hf rfl rfl rfl (pM rfl) fun a hf => stP hf rfl rfl rfl (pA rfl) fun a hf => stP hf rfl rfl rfl (pA rfl) fun a hf => cNil ?_
    refine h15 _ _ ?_
    refine wp_ret ?_
    obtain rfl := sj hF
    replace hc := hc.drop k2
    replace hc := hc.drop k0
    exact fnOut2 (by simp) rfl Tryz.results38 hf hc (show look _ 2 = _ from rfl) (show look _ 3 = _ from rfl) ⟨p_1,c_1,rfl,hc⟩
   have ho14 : ∀ r,x14 = .out r → r = res := by
    rintro r rfl
    exact sj hF
   replace hc := hc.nilRow 3 1
   replace hc := hc.nilRow 72 4
   replace hc := hc.drop k3
   refine cLoop N (loopW (S := S14) (x := x14) ?_ N (([] : List Int),0,0,([] : List crew_Ride)) _ _ ⟨none,0,none,0,hf.kp rfl,hc⟩ hx14)
   clear hF hf hc
   rintro ⟨out,at_,x,x_1⟩ st14 a w KB14 ⟨p_1,c_1,p_2,c_2,hf,hc⟩ hF hfin14 hK14
   unfold crew_Queue_b14 at hF
   refine wp_seq_k fun K16 h16 => cReg ?_
   refine stP hf rfl rfl rfl (pLt rfl rfl) fun a hf => cNil ?_
   refine h16 _ _ ?_
   refine wp_seq_k fun K17 h17 => cCond (b := (decide (x < ((c_.Rides.length : Nat) : Int)))) hf rfl (fun hb => ?_) (fun hb => ?_)
   ·replace hF := condT hb hF
    clear hb
    refine wp_skip ?_
    refine h17 _ _ ?_
    refine wp_seq_k fun K18 h18 => wp_block ?_
    refine wp_seq_k fun K19 h19 => cReg ?_
    obtain ⟨e_1,he_1,hF⟩ := bnd_some hF
    obtain ⟨b_3,o,qa,qp⟩ := h_c__Rides.atm he_1
    refine stP hf rfl rfl rfl (pIA Tryz.underlying52 sz_72 rfl rfl qa) fun a hf => stE hf hc rfl rfl rfl (eLdN (vs := [i6 e_1.From,i6 e_1.Long,i6 e_1.Weight.Lo,i6 e_1.Weight.Hi]) ag_72 rfl rfl (cells_pc qp (n := 4) (o' := 0) rfl)) fun a w hf hc => stAl (cs := [i6 0,i6 0,i6 0,i6 0]) hf hc rfl rfl zr_72 rfl fun b_4 a w hf hc => stSt (vs := [i6 e_1.From,i6 e_1.Long,i6 e_1.Weight.Lo,i6 e_1.Weight.Hi]) hf hc rfl rfl rfl rfl sz_72 rfl rfl u0 fun w hc => cNil ?_
    refine h19 _ _ ?_
    refine wp_seq_k fun K20 h20 => cReg ?_
    refine stP hf rfl rfl rfl (pM rfl) fun a hf => stP hf rfl rfl rfl (pFA fa_72_0 rfl) fun a hf => stE hf hc rfl rfl rfl (eLd1 sc_3 rfl (cell_box m0 rfl)) fun a w hf hc => stP hf rfl rfl rfl (pMax2 rfl rfl) fun a hf => stP hf rfl rfl rfl (pA rfl) fun a hf => cNil ?_
    refine h20 _ _ ?_
    refine wp_seq_k fun K21 h21 => cReg ?_
    refine stP hf rfl rfl rfl (pM rfl) fun a hf => stP hf rfl rfl rfl (pFA fa_72_0 rfl) fun a hf => stSt (vs := [i6 (max at_ e_1.From)]) hf hc rfl rfl rfl rfl sz_3 rfl rfl u0 fun w hc => cNil ?_
    refine h21 _ _ ?_
    refine wp_seq_k fun K22 h22 => cReg ?_
    refine stE hf hc rfl rfl rfl (eLdN (vs := [i6 c_.Car,i6 c_.Wide,i6 c_.Sag,i6 c_.Most,.slice p_2 x_1.length c_2]) ag_54 rfl rfl (cells_box (n := 5) m3 rfl)) fun a w hf hc => stAl (cs := [i6 0,i6 0,i6 0,i6 0,.slice none 0 0]) hf hc rfl rfl zr_54 rfl fun b_5 a w hf hc => stSt (vs := [i6 c_.Car,i6 c_.Wide,i6 c_.Sag,i6 c_.Most,.slice p_2 x_1.length c_2]) hf hc rfl rfl rfl rfl sz_54 rfl rfl u0 fun w hc => cNil ?_
    refine h22 _ _ ?_
    refine wp_seq_k fun K23 h23 => ?_
    obtain ⟨r_2,hr_2,hF⟩ := bnd_some hF
    obtain ⟨un,hun,hF⟩ := bnd_some hF
    replace hc := hc.nilRow 0 0
    replace hc := hc.nilRow 0 0
    refine regionE (fun θ => [⟨none,none,5,pq b_2⟩,⟨none,none,6,.slice p_1 out.length c_1⟩,⟨none,none,7,i6 (max at_ e_1.From)⟩,⟨none,none,9,pq b_4⟩,⟨none,none,10,pq b_5⟩,⟨none,none,35,.slice c__Rides_p c_.Rides.length c__Rides_c⟩,⟨none,none,36,i6 ((c_.Rides.length : Nat) : Int)⟩,⟨none,none,37,i6 x⟩,⟨some 0,none,48,.pointer (some ⟨b_2,4,none⟩)⟩,⟨some 1,none,49,.slice p_2 x_1.length c_2⟩,⟨some 2,none,50,.slice ((θ 16).p) r_2.length ((θ 16).c)⟩,⟨some 3,none,51,.agg #[i6 (max at_ e_1.From),i6 e_1.Long,i6 e_1.Weight.Lo,i6 e_1.Weight.Hi]⟩,⟨some 4,none,52,.slice (some ⟨(θ 32).b,0,none⟩) 1 1⟩,⟨some 5,none,53,.slice ((θ 40).p) ((r_2 ++ [(⟨max at_ e_1.From,e_1.Long,e_1.Weight⟩ : crew_Ride)]).length) ((θ 40).c)⟩,⟨some 6,none,54,.pointer (some ⟨b_5,4,none⟩)⟩]) (fun E θ => (bif E 4 then .row (some ⟨(θ 32).b,0,none⟩) 1 (([(⟨max at_ e_1.From,e_1.Long,e_1.Weight⟩ : crew_Ride)] : List crew_Ride).map enc_crew_Ride) 72 4 else .row none 0 [] 0 0)::(bif E 5 then .row ((θ 40).p) ((θ 40).c) ((r_2 ++ [(⟨max at_ e_1.From,e_1.Long,e_1.Weight⟩ : crew_Ride)]).map enc_crew_Ride) 72 4 else bif E 2 then .row ((θ 16).p) ((θ 16).c) (r_2.map enc_crew_Ride) 72 4 else .row none 0 [] 0 0)::(bif E 7 then .box b_5 [i6 c_.Car,i6 c_.Wide,i6 c_.Sag,i6 c_.Most,.slice ((θ 40).p) ((r_2 ++ [(⟨max at_ e_1.From,e_1.Long,e_1.Weight⟩ : crew_Ride)]).length) ((θ 40).c)] 54 else .box b_5 [i6 c_.Car,i6 c_.Wide,i6 c_.Sag,i6 c_.Most,.slice p_2 x_1.length c_2] 54)::.box b_4 [i6 (max at_ e_1.From),i6 e_1.Long,i6 e_1.Weight.Lo,i6 e_1.Weight.Hi] 72::.row p_2 c_2 (x_1.map enc_crew_Ride) 72 4::.row p_1 c_1 (out.map encI_i64) 3 1::.box b_2 [i6 c_.Car,i6 c_.Wide,i6 c_.Sag,i6 c_.Most,.slice p_2 x_1.length c_2] 54::Lf) [(5,2),(7,5)] (fun a w => ∃ (b_7 : Nat) (p_5 : Option Addr) (c_5 : Nat),Has 105 a [(5,pq b_2),(6,.slice p_1 out.length c_1),(7,i6 (max at_ e_1.From)),(9,pq b_4),(10,pq b_5),(35,.slice c__Rides_p c_.Rides.length c__Rides_c),(36,i6 ((c_.Rides.length : Nat) : Int)),(37,i6 x)] ∧ Ctx G (.row (some ⟨b_7,0,none⟩) 1 (([(⟨max at_ e_1.From,e_1.Long,e_1.Weight⟩ : crew_Ride)] : List crew_Ride).map enc_crew_Ride) 72 4::.row p_5 c_5 ((r_2 ++ [(⟨max at_ e_1.From,e_1.Long,e_1.Weight⟩ : crew_Ride)]).map enc_crew_Ride) 72 4::.box b_5 [i6 c_.Car,i6 c_.Wide,i6 c_.Sag,i6 c_.Most,.slice p_5 ((r_2 ++ [(⟨max at_ e_1.From,e_1.Long,e_1.Weight⟩ : crew_Ride)]).length) c_5] 54::.box b_4 [i6 (max at_ e_1.From),i6 e_1.Long,i6 e_1.Weight.Lo,i6 e_1.Weight.Hi] 72::.row p_2 c_2 (x_1.map enc_crew_Ride) 72 4::.row p_1 c_1 (out.map encI_i64) 3 1::.box b_2 [i6 c_.Car,i6 c_.Wide,i6 c_.Sag,i6 c_.Most,.slice p_2 x_1.length c_2] 54::Lf) w) follows_mx (by kernel_rfl) (by kernel_rfl) (HasE.of hf ⟨rfl,rfl,rfl,rfl,rfl,rfl,rfl,rfl,trivial,trivial,trivial,trivial,trivial,trivial,trivial,trivial⟩) hc ⟨?_,?_,?_,?_,?_,?_,?_,?_,trivial⟩ ?_ ?_
    ·intro E θ a w hD hi hp he hc
     have hf := he.h0
     replace hf := hf.more he 0 rfl onT
     refine stP hf rfl rfl rfl (pFA fa_54_4 rfl) fun a hf => cNil ?_
     refine xThenN ?_
     intro ds u hau
     refine ⟨θ,he.put0 hi hau hf rfl 8 rfl rfl,?_⟩
     exact hc
    ·intro E θ a w hD hi hp he hc
     have e0 := hp.of (k := 0) rfl
     have hf := he.h0
     replace hf := hf.more he 8 rfl (onP e0)
     refine stE hf hc rfl rfl rfl (eLd1 sc_52 rfl (cell_box m6 rfl)) fun a w hf hc => cNil ?_
     refine xThenN ?_
     intro ds u hau
     refine ⟨θ,he.put0 hi hau hf rfl 9 rfl rfl,?_⟩
     exact hc
    ·intro E θ a w hD hi hp he hc
     have e1 := hp.of (k := 1) rfl
     have e5 := hD.f 0 rfl hi
     try dsimp only at hc
     rw [hi,e5] at hc
     have hf := he.h0
     replace hf := hf.more he 9 rfl (onP e1)
     obtain ⟨G1,hle1,hrd1,hc,hth1⟩ := lend hc k4
     refine stC (vs := [.slice p_2 x_1.length c_2]) (caps := []) hf rfl rfl rfl en_102 rfl rfl rfl rfl (slices_Clone_Lcrew_Ride_crew_Ride_ok x_1 hrd1 hc hr_2) ?_
     rintro _ w ⟨p_3,c_3,rfl,hc⟩
     refine ⟨_,rfl,fun a hf => ?_⟩
     replace hc := hth1 _ _ hc
     refine cNil ?_
     refine xThenN ?_
     intro ds u hau
     replace hc := hc.drop k3
     replace hc := hc.pick k0
     replace hc := hc.pick k4
     replace hc := hc.pick k4
     replace hc := hc.pick k3
     replace hc := hc.pick k4
     refine ⟨(setT θ 16 ⟨0,p_3,c_3,(fun _ => (none,0))⟩),he.put hi hau hf rfl [] trivial ⟨qq,qq,qq,qq,qq,qq,qq,qq,qq,qq,qq,qq,qq,qq,qq,trivial⟩,?_⟩
     try dsimp only
     rw [updE_self E 2,updE_fls 2 e5 rfl]
     exact hc
    ·intro E θ a w hD hi hp he hc
     have hf := he.h0
     replace hf := hf.more he 3 rfl onT
     refine stE hf hc rfl rfl rfl (eLdN (vs := [i6 (max at_ e_1.From),i6 e_1.Long,i6 e_1.Weight.Lo,i6 e_1.Weight.Hi]) ag_72 rfl rfl (cells_box (n := 4) m3 rfl)) fun a w hf hc => cNil ?_
     refine xThenN ?_
     intro ds u hau
     refine ⟨θ,he.put0 hi hau hf rfl 11 rfl rfl,?_⟩
     exact hc
    ·intro E θ a w hD hi hp he hc
     have e3 := hp.of (k := 3) rfl
     try dsimp only at hc
     rw [hi] at hc
     have hf := he.h0
     replace hf := hf.more he 11 rfl (onP e3)
     refine stBS (rows := ([(⟨max at_ e_1.From,e_1.Long,e_1.Weight⟩ : crew_Ride)] : List crew_Ride).map enc_crew_Ride) (vs := [(0,.agg #[i6 (max at_ e_1.From),i6 e_1.Long,i6 e_1.Weight.Lo,i6 e_1.Weight.Hi])]) hf hc rfl rfl sl_52 rfl ⟨rfl,rfl,rfl,trivial⟩ rfl rfl fun b_6 a w hf hc => cNil ?_
     refine xThenN ?_
     intro ds u hau
     replace hc := hc.drop k1
     refine ⟨(setT θ 32 ⟨b_6,none,0,(fun _ => (none,0))⟩),he.put hi hau hf rfl [] trivial ⟨qq,qq,qq,qq,qq,qq,qq,qq,qq,qq,qq,qq,qq,qq,qq,trivial⟩,?_⟩
     try dsimp only
     rw [updE_self E 4]
     exact hc
    ·intro E θ a w hD hi hp he hc
     have e2 := hp.of (k := 2) rfl
     have e4 := hp.of (k := 4) rfl
     have e7 := hD.f 1 rfl hi
     try dsimp only at hc
     rw [e4,e2,hi,e7] at hc
     have hf := he.h0
     replace hf := hf.more he 10 rfl (onP e2)
     replace hf := hf.more he 12 rfl (onP e4)
     refine stApm (xs := r_2) (ys := ([(⟨max at_ e_1.From,e_1.Long,e_1.Weight⟩ : crew_Ride)] : List crew_Ride)) hf hc rfl rfl sl_52 rfl rfl rfl rfl rfl one_enc_crew_Ride (src_row hc m0) (fun _ _ => u1) (by simpa using room_spec hun) fun p_4 c_4 a w hf hc => cNil ?_
     refine xThenN ?_
     intro ds u hau
     refine ⟨(setT θ 40 ⟨0,p_4,c_4,(fun _ => (none,0))⟩),he.put hi hau hf rfl [] trivial ⟨qq,qq,qq,qq,qq,qq,qq,qq,qq,qq,qq,qq,qq,qq,qq,trivial⟩,?_⟩
     try dsimp only
     rw [updE_tru 5 e4,updE_tru 5 e2,updE_self E 5,updE_fls 5 e7 rfl]
     exact hc
    ·intro E θ a w hD hi hp he hc
     have hf := he.h0
     replace hf := hf.more he 4 rfl onT
     refine stP hf rfl rfl rfl (pFA fa_54_4 rfl) fun a hf => cNil ?_
     refine xThenN ?_
     intro ds u hau
     refine ⟨θ,he.put0 hi hau hf rfl 14 rfl rfl,?_⟩
     exact hc
    ·intro E θ a w hD hi hp he hc
     have e5 := hp.of (k := 5) rfl
     have e6 := hp.of (k := 6) rfl
     try dsimp only at hc
     rw [hi] at hc
     have hf := he.h0
     replace hf := hf.more he 13 rfl (onP e5)
     replace hf := hf.more he 14 rfl (onP e6)
     refine stSt (vs := [.slice ((θ 40).p) ((r_2 ++ [(⟨max at_ e_1.From,e_1.Long,e_1.Weight⟩ : crew_Ride)]).length) ((θ 40).c)]) hf hc rfl rfl rfl rfl sz_52 rfl rfl u2 fun w hc => cNil ?_
     refine xThenN ?_
     intro ds u hau
     refine ⟨θ,he.stay0 hi hau hf rfl,?_⟩
     try dsimp only
     rw [updE_self E 7]
     exact hc
    ·intro E θ a w hall he hc
     have hf := he.h0
     have e2 := hall 2 rfl
     have e4 := hall 4 rfl
     have e5 := hall 5 rfl
     have e7 := hall 7 rfl
     replace hf := hf.more he 7 rfl (onT)
     replace hf := hf.more he 6 rfl (onT)
     replace hf := hf.more he 5 rfl (onT)
     replace hf := hf.more he 4 rfl (onT)
     replace hf := hf.more he 3 rfl (onT)
     replace hf := hf.more he 2 rfl (onT)
     replace hf := hf.more he 1 rfl (onT)
     replace hf := hf.more he 0 rfl (onT)
     try dsimp only at hc
     rw [e2,e4,e5,e7] at hc
     exact ⟨(θ 32).b,(θ 40).p,(θ 40).c,hf.kp rfl,hc⟩
    rintro a w ⟨b_7,p_5,c_5,hf,hc⟩
    refine h23 _ _ ?_
    refine wp_seq_k fun K24 h24 => wp_block ?_
    obtain ⟨x25,hx25,hF⟩ := bnd_some hF
    let S25 : (Int × Int × (List crew_Ride)) → Act → World → Prop := (fun (zz : Int × Int × (List crew_Ride)) a w => ∃ (p_6 : Option Addr) (c_6 : Nat) (p_7 : Option Addr) (c_7 : Nat),Has 105 a [(5,pq b_2),(6,.slice p_1 out.length c_1),(7,i6 zz.1),(9,pq b_4),(10,pq b_5),(35,.slice c__Rides_p c_.Rides.length c__Rides_c),(36,i6 ((c_.Rides.length : Nat) : Int)),(37,i6 x)] ∧ Ctx G (.row p_7 c_7 (zz.2.2.map enc_crew_Ride) 72 4::.box b_5 [i6 c_.Car,i6 c_.Wide,i6 c_.Sag,i6 c_.Most,.slice p_7 zz.2.2.length c_7] 54::.box b_4 [i6 zz.2.1,i6 e_1.Long,i6 e_1.Weight.Lo,i6 e_1.Weight.Hi] 72::.row p_6 c_6 (x_1.map enc_crew_Ride) 72 4::.row p_1 c_1 (out.map encI_i64) 3 1::.box b_2 [i6 c_.Car,i6 c_.Wide,i6 c_.Sag,i6 c_.Most,.slice p_6 x_1.length c_6] 54::Lf) w)
    have hr25 : ∀ (zz : Int × Int × (List crew_Ride)) a w,x25 = .go zz → S25 zz a w → K24 a w := by
     rintro ⟨at__1,x_2,x_3⟩ a w rfl ⟨p_6,c_6,p_7,c_7,hf,hc⟩
     replace hF := exK_go hF
     refine h24 _ _ ?_
     refine wp_seq_k fun K26 h26 => cReg ?_
     refine stE hf hc rfl rfl rfl (eLdN (vs := [i6 c_.Car,i6 c_.Wide,i6 c_.Sag,i6 c_.Most,.slice p_7 x_3.length c_7]) ag_54 rfl rfl (cells_box (n := 5) m1 rfl)) fun a w hf hc => stSt (vs := [i6 c_.Car,i6 c_.Wide,i6 c_.Sag,i6 c_.Most,.slice p_7 x_3.length c_7]) hf hc rfl rfl rfl rfl sz_54 rfl rfl u5 fun w hc => cNil ?_
     refine h26 _ _ ?_
     refine cReg ?_
     refine stP hf rfl rfl rfl (pM rfl) fun a hf => stP hf rfl rfl rfl (pM rfl) fun a hf => stBS (rows := ([at__1] : List Int).map encI_i64) (vs := [(0,i6 at__1)]) hf hc rfl rfl sl_25 rfl ⟨rfl,rfl,rfl,trivial⟩ rfl rfl fun b_8 a w hf hc => ?_
     obtain ⟨un_1,hun_1,hF⟩ := bnd_some hF
     refine stApm (xs := out) (ys := ([at__1] : List Int)) hf hc rfl rfl sl_25 rfl rfl rfl rfl rfl one_encI_i64 (src_row hc m0) (fun _ _ => u5) (by simpa using room_spec hun_1) fun p_8 c_8 a w hf hc => stP hf rfl rfl rfl (pA rfl) fun a hf => cNil ?_
     refine h18 _ _ ?_
     refine cReg ?_
     refine stP hf rfl rfl rfl (pAdd rfl rfl) fun a hf => stP hf rfl rfl rfl (pM rfl) fun a hf => cNil ?_
     replace hc := hc.drop k4
     replace hc := hc.drop k3
     replace hc := hc.drop k2
     replace hc := hc.drop k0
     exact hK14 ((out ++ [at__1]),at__1,W (x + 1),x_3) _ _ (sj hF).symm ⟨p_8,c_8,p_7,c_7,hf.kp rfl,hc⟩
    have ho25 : ∀ r,x25 = .out r → r = st14 := by
     rintro r rfl
     exact sj hF
    replace hc := hc.drop k0
    refine cLoop N (loopW (S := S25) (x := x25) ?_ N (max at_ e_1.From,max at_ e_1.From,(r_2 ++ [(⟨max at_ e_1.From,e_1.Long,e_1.Weight⟩ : crew_Ride)])) _ _ ⟨p_2,c_2,p_5,c_5,hf.kp rfl,hc⟩ hx25)
    clear hF hf hc
    rintro ⟨at__1,x_2,x_3⟩ st25 a w KB25 ⟨p_6,c_6,p_7,c_7,hf,hc⟩ hF hfin25 hK25
    unfold crew_Queue_b25 at hF
    refine wp_seq_k fun K27 h27 => wp_seq_k fun K28 h28 => cReg ?_
    refine stE hf hc rfl rfl rfl (eLdN (vs := [i6 c_.Car,i6 c_.Wide,i6 c_.Sag,i6 c_.Most,.slice p_7 x_3.length c_7]) ag_54 rfl rfl (cells_box (n := 5) m1 rfl)) fun a w hf hc => stE hf hc rfl rfl rfl (eLdN (vs := [i6 x_2,i6 e_1.Long,i6 e_1.Weight.Lo,i6 e_1.Weight.Hi]) ag_72 rfl rfl (cells_box (n := 4) m2 rfl)) fun a w hf hc => ?_
    obtain ⟨r_3,hr_3,hF⟩ := bnd_some hF
    refine stE hf hc rfl rfl rfl (eC (v := .bool r_3) (vs := [.agg #[i6 c_.Car,i6 c_.Wide,i6 c_.Sag,i6 c_.Most,.slice p_7 x_3.length c_7],.agg #[i6 x_2,i6 e_1.Long,i6 e_1.Weight.Lo,i6 e_1.Weight.Hi]]) (caps := []) en_103 rfl rfl rfl rfl (fun w hc => by obtain ⟨G1,hle1,hrd1,hc,hth1⟩ := lend hc k0; exact (crew_Cable_full_ok (⟨c_.Car,c_.Wide,c_.Sag,c_.Most,x_3⟩ : crew_Cable) (⟨x_2,e_1.Long,e_1.Weight⟩ : crew_Ride) hrd1 hc hr_3).mono fun e w h => ⟨h.1,((hth1 _ _ h.2).unpick k0)⟩)) fun a w hf hc => cNil ?_
    refine h28 _ _ ?_
    refine cCond (b := r_3) hf rfl (fun hb => ?_) (fun hb => ?_)
    ·replace hF := condT hb hF
     clear hb
     refine wp_skip ?_
     refine h27 _ _ ?_
     refine wp_thenK fun K29 h29 => wp_block ?_
     refine wp_seq_k fun K30 h30 => cReg ?_
     refine stP hf rfl rfl rfl (pA rfl) fun a hf => cNil ?_
     refine h30 _ _ ?_
     refine wp_seq_k fun K31 h31 => wp_seq_k fun K32 h32 => cReg ?_
     refine stP hf rfl rfl rfl (pFA fa_54_4 rfl) fun a hf => stE hf hc rfl rfl rfl (eLd1 sc_52 rfl (cell_box m5 rfl)) fun a w hf hc => stP hf rfl rfl rfl (pLenS Tryz.underlying52 rfl) fun a hf => stP hf rfl rfl rfl (pM rfl) fun a hf => cNil ?_
     refine h32 _ _ ?_
     refine wp_block ?_
     obtain ⟨x33,hx33,hF⟩ := bnd_some hF
     let S33 : (Int × Int) → Act → World → Prop := (fun (zz : Int × Int) a w => ∃ (p_9 : Option Addr) (c_9 : Nat),Has 105 a [(5,pq b_2),(6,.slice p_1 out.length c_1),(7,i6 at__1),(9,pq b_4),(10,pq b_5),(11,i6 zz.1),(35,.slice c__Rides_p c_.Rides.length c__Rides_c),(36,i6 ((c_.Rides.length : Nat) : Int)),(37,i6 x),(59,.slice p_9 x_1.length c_9),(60,i6 ((x_1.length : Nat) : Int)),(61,i6 zz.2)] ∧ Ctx G (.row p_7 c_7 (x_3.map enc_crew_Ride) 72 4::.box b_5 [i6 c_.Car,i6 c_.Wide,i6 c_.Sag,i6 c_.Most,.slice p_7 x_3.length c_7] 54::.box b_4 [i6 x_2,i6 e_1.Long,i6 e_1.Weight.Lo,i6 e_1.Weight.Hi] 72::.row p_9 c_9 (x_1.map enc_crew_Ride) 72 4::.row p_1 c_1 (out.map encI_i64) 3 1::.box b_2 [i6 c_.Car,i6 c_.Wide,i6 c_.Sag,i6 c_.Most,.slice p_9 x_1.length c_9] 54::Lf) w)
     have hr33 : ∀ (zz : Int × Int) a w,x33 = .go zz → S33 zz a w → K31 a w := by
      rintro ⟨next_,x_4⟩ a w rfl ⟨p_9,c_9,hf,hc⟩
      replace hF := exK_go hF
      refine h31 _ _ ?_
      refine wp_seq_k fun K34 h34 => cReg ?_
      refine stP hf rfl rfl rfl (pM rfl) fun a hf => stP hf rfl rfl rfl (pA rfl) fun a hf => cNil ?_
      refine h34 _ _ ?_
      refine wp_seq_k fun K35 h35 => cReg ?_
      refine stP hf rfl rfl rfl (pM rfl) fun a hf => stP hf rfl rfl rfl (pFA fa_72_0 rfl) fun a hf => stSt (vs := [i6 next_]) hf hc rfl rfl rfl rfl sz_3 rfl rfl u2 fun w hc => cNil ?_
      refine h35 _ _ ?_
      refine cReg ?_
      refine stP hf rfl rfl rfl (pFA fa_54_4 rfl) fun a hf => stE hf hc rfl rfl rfl (eLd1 sc_52 rfl (cell_box m1 rfl)) fun a w hf hc => stP hf rfl rfl rfl (pFA fa_54_4 rfl) fun a hf => stE hf hc rfl rfl rfl (eLd1 sc_52 rfl (cell_box m1 rfl)) fun a w hf hc => stP hf rfl rfl rfl (pLenS Tryz.underlying52 rfl) fun a hf => stP hf rfl rfl rfl (pSub rfl rfl) fun a hf => stE hf hc rfl rfl rfl (eLdN (vs := [i6 next_,i6 e_1.Long,i6 e_1.Weight.Lo,i6 e_1.Weight.Hi]) ag_72 rfl rfl (cells_box (n := 4) m2 rfl)) fun a w hf hc => ?_
      obtain ⟨e_2,he_2,hF⟩ := bnd_some hF
      obtain ⟨g,rfl,qa_1,qr⟩ := row_atm hc m0 he_2
      refine stP hf rfl rfl rfl (pIA Tryz.underlying52 sz_72 rfl rfl qa_1) fun a hf => stRw (vs := [i6 next_,i6 e_1.Long,i6 e_1.Weight.Lo,i6 e_1.Weight.Hi]) (o' := 0) (z := (⟨next_,e_1.Long,e_1.Weight⟩ : crew_Ride)) (xs := x_3) hf hc rfl rfl rfl rfl sz_72 rfl (fun x => (one_enc_crew_Ride x).1) (getI_lt he_2) (fun _ _ => rfl) rfl u0 fun w hc => cNil ?_
      refine h29 _ _ ?_
      replace hc : Ctx G (.row (some ⟨g,0,none⟩) c_7 ((x_3.set (W (((x_3.length : Nat) : Int) - 1)).toNat (⟨next_,e_1.Long,e_1.Weight⟩ : crew_Ride)).map enc_crew_Ride) 72 4::.box b_5 [i6 c_.Car,i6 c_.Wide,i6 c_.Sag,i6 c_.Most,.slice (some ⟨g,0,none⟩) ((x_3.set (W (((x_3.length : Nat) : Int) - 1)).toNat (⟨next_,e_1.Long,e_1.Weight⟩ : crew_Ride)).length) c_7] 54::.box b_4 [i6 next_,i6 e_1.Long,i6 e_1.Weight.Lo,i6 e_1.Weight.Hi] 72::.row p_9 c_9 (x_1.map enc_crew_Ride) 72 4::.row p_1 c_1 (out.map encI_i64) 3 1::.box b_2 [i6 c_.Car,i6 c_.Wide,i6 c_.Sag,i6 c_.Most,.slice p_9 x_1.length c_9] 54::Lf) w := by simp only [List.length_set] at hc ⊢; exact hc
      exact hK25 (next_,next_,(x_3.set (W (((x_3.length : Nat) : Int) - 1)).toNat (⟨next_,e_1.Long,e_1.Weight⟩ : crew_Ride))) _ _ (sj hF).symm ⟨p_9,c_9,(some ⟨g,0,none⟩),c_7,hf.kp rfl,hc⟩
     have ho33 : ∀ r,x33 = .out r → r = st25 := by
      rintro r rfl
      exact sj hF
     refine cLoop N (loopW (S := S33) (x := x33) ?_ N ((-1),0) _ _ ⟨p_6,c_6,hf.kp rfl,hc⟩ hx33)
     clear hF hf hc
     rintro ⟨next_,x_4⟩ st33 a w KB33 ⟨p_9,c_9,hf,hc⟩ hF hfin33 hK33
     unfold crew_Queue_b33 at hF
     refine wp_seq_k fun K36 h36 => cReg ?_
     refine stP hf rfl rfl rfl (pLt rfl rfl) fun a hf => cNil ?_
     refine h36 _ _ ?_
     refine wp_seq_k fun K37 h37 => cCond (b := (decide (x_4 < ((x_1.length : Nat) : Int)))) hf rfl (fun hb => ?_) (fun hb => ?_)
     ·replace hF := condT hb hF
      clear hb
      refine wp_skip ?_
      refine h37 _ _ ?_
      refine wp_seq_k fun K38 h38 => ?_
      have hj38 : ∀ (next__1 : Int) (p_10 : Option Addr) (c_10 : Nat) a w,Has 105 a [(5,pq b_2),(6,.slice p_1 out.length c_1),(7,i6 at__1),(9,pq b_4),(10,pq b_5),(11,i6 next__1),(35,.slice c__Rides_p c_.Rides.length c__Rides_c),(36,i6 ((c_.Rides.length : Nat) : Int)),(37,i6 x),(59,.slice p_10 x_1.length c_10),(60,i6 ((x_1.length : Nat) : Int)),(61,i6 x_4)] → Ctx G (.row p_7 c_7 (x_3.map enc_crew_Ride) 72 4::.box b_5 [i6 c_.Car,i6 c_.Wide,i6 c_.Sag,i6 c_.Most,.slice p_7 x_3.length c_7] 54::.box b_4 [i6 x_2,i6 e_1.Long,i6 e_1.Weight.Lo,i6 e_1.Weight.Hi] 72::.row p_10 c_10 (x_1.map enc_crew_Ride) 72 4::.row p_1 c_1 (out.map encI_i64) 3 1::.box b_2 [i6 c_.Car,i6 c_.Wide,i6 c_.Sag,i6 c_.Most,.slice p_10 x_1.length c_10] 54::Lf) w → crew_Queue_j38 N x_4 next__1 = some st33 → K38 a w := by
       repeat (clear hF)
       repeat (clear hc)
       repeat (clear hf)
       intro next__1 p_10 c_10 a w hf hc hF
       unfold crew_Queue_j38 at hF
       refine h38 _ _ ?_
       refine cReg ?_
       refine stP hf rfl rfl rfl (pAdd rfl rfl) fun a hf => stP hf rfl rfl rfl (pM rfl) fun a hf => cNil ?_
       exact hK33 (next__1,W (x_4 + 1)) _ _ (sj hF).symm ⟨p_10,c_10,hf.kp rfl,hc⟩
      refine wp_block ?_
      refine wp_seq_k fun K39 h39 => cReg ?_
      obtain ⟨e_3,he_3,hF⟩ := bnd_some hF
      obtain ⟨g_1,rfl,qa_2,qr_1⟩ := row_atm hc m3 he_3
      refine stP hf rfl rfl rfl (pIA Tryz.underlying52 sz_72 rfl rfl qa_2) fun a hf => stE hf hc rfl rfl rfl (eLdN (vs := [i6 e_3.From,i6 e_3.Long,i6 e_3.Weight.Lo,i6 e_3.Weight.Hi]) ag_72 rfl rfl (cells_rw (sz := 4) (i := x_4.toNat) m3 qr_1 (n := 4) (o' := 0) rfl)) fun a w hf hc => stAl (cs := [i6 0,i6 0,i6 0,i6 0]) hf hc rfl rfl zr_72 rfl fun b_9 a w hf hc => stSt (vs := [i6 e_3.From,i6 e_3.Long,i6 e_3.Weight.Lo,i6 e_3.Weight.Hi]) hf hc rfl rfl rfl rfl sz_72 rfl rfl u0 fun w hc => cNil ?_
      refine h39 _ _ ?_
      refine wp_seq_k fun K40 h40 => cReg ?_
      refine stE hf hc rfl rfl rfl (eLdN (vs := [i6 e_3.From,i6 e_3.Long,i6 e_3.Weight.Lo,i6 e_3.Weight.Hi]) ag_72 rfl rfl (cells_box (n := 4) m0 rfl)) fun a w hf hc => stP hf rfl rfl rfl (pM rfl) fun a hf => stE hf hc rfl rfl rfl (eC (v := .bool (crew_Ride_on e_3 at__1)) (vs := [.agg #[i6 e_3.From,i6 e_3.Long,i6 e_3.Weight.Lo,i6 e_3.Weight.Hi],i6 at__1]) (caps := []) en_104 rfl rfl rfl rfl (fun w hc => crew_Ride_on_ok e_3 at__1 hc rfl)) fun a w hf hc => stP hf rfl rfl rfl (pM rfl) fun a hf => stCut 12 (fun a w => Has 105 a [(5,pq b_2),(6,.slice p_1 out.length c_1),(7,i6 at__1),(9,pq b_4),(10,pq b_5),(11,i6 next_),(35,.slice c__Rides_p c_.Rides.length c__Rides_c),(36,i6 ((c_.Rides.length : Nat) : Int)),(37,i6 x),(59,.slice (some ⟨g_1,0,none⟩) x_1.length c_9),(60,i6 ((x_1.length : Nat) : Int)),(61,i6 x_4),(13,pq b_9),(65,.agg #[i6 e_3.From,i6 e_3.Long,i6 e_3.Weight.Lo,i6 e_3.Weight.Hi]),(66,i6 at__1),(67,.bool (crew_Ride_on e_3 at__1)),(68,.bool (crew_Ride_on e_3 at__1)),(80,.bool ((crew_Ride_on e_3 at__1) && ((next_ == (-1)) || (decide ((W (e_3.From + e_3.Long)) < next_)))))] ∧ Ctx G (.box b_9 [i6 e_3.From,i6 e_3.Long,i6 e_3.Weight.Lo,i6 e_3.Weight.Hi] 72::.row p_7 c_7 (x_3.map enc_crew_Ride) 72 4::.box b_5 [i6 c_.Car,i6 c_.Wide,i6 c_.Sag,i6 c_.Most,.slice p_7 x_3.length c_7] 54::.box b_4 [i6 x_2,i6 e_1.Long,i6 e_1.Weight.Lo,i6 e_1.Weight.Hi] 72::.row (some ⟨g_1,0,none⟩) c_9 (x_1.map enc_crew_Ride) 72 4::.row p_1 c_1 (out.map encI_i64) 3 1::.box b_2 [i6 c_.Car,i6 c_.Wide,i6 c_.Sag,i6 c_.Most,.slice (some ⟨g_1,0,none⟩) x_1.length c_9] 54::Lf) w) ?_ ?_
      ·cases hb : (crew_Ride_on e_3 at__1)
       ·rw [hb] at hf
        refine stS hf rfl rfl rfl fun a hf => stS hf rfl rfl rfl fun a hf => stS hf rfl rfl rfl fun a hf => stS hf rfl rfl rfl fun a hf => stS hf rfl rfl rfl fun a hf => stS hf rfl rfl rfl fun a hf => stS hf rfl rfl rfl fun a hf => stS hf rfl rfl rfl fun a hf => stS hf rfl rfl rfl fun a hf => stS hf rfl rfl rfl fun a hf => stS hf rfl rfl rfl fun a hf => stP hf rfl rfl rfl (pPf rfl rfl) fun a hf => cNil ⟨hf.kp rfl,hc⟩
       ·rw [hb] at hf
        refine stP hf rfl rfl rfl (pM rfl) fun a hf => stP hf rfl rfl rfl (pEq rfl rfl) fun a hf => stP hf rfl rfl rfl (pM rfl) fun a hf => stCut 8 (fun a w => Has 105 a [(5,pq b_2),(6,.slice p_1 out.length c_1),(7,i6 at__1),(9,pq b_4),(10,pq b_5),(11,i6 next_),(35,.slice c__Rides_p c_.Rides.length c__Rides_c),(36,i6 ((c_.Rides.length : Nat) : Int)),(37,i6 x),(59,.slice (some ⟨g_1,0,none⟩) x_1.length c_9),(60,i6 ((x_1.length : Nat) : Int)),(61,i6 x_4),(13,pq b_9),(65,.agg #[i6 e_3.From,i6 e_3.Long,i6 e_3.Weight.Lo,i6 e_3.Weight.Hi]),(66,i6 at__1),(67,.bool true),(68,.bool true),(69,i6 next_),(70,.bool (next_ == (-1))),(71,.bool (next_ == (-1))),(79,.bool ((next_ == (-1)) || (decide ((W (e_3.From + e_3.Long)) < next_))))] ∧ Ctx G (.box b_9 [i6 e_3.From,i6 e_3.Long,i6 e_3.Weight.Lo,i6 e_3.Weight.Hi] 72::.row p_7 c_7 (x_3.map enc_crew_Ride) 72 4::.box b_5 [i6 c_.Car,i6 c_.Wide,i6 c_.Sag,i6 c_.Most,.slice p_7 x_3.length c_7] 54::.box b_4 [i6 x_2,i6 e_1.Long,i6 e_1.Weight.Lo,i6 e_1.Weight.Hi] 72::.row (some ⟨g_1,0,none⟩) c_9 (x_1.map enc_crew_Ride) 72 4::.row p_1 c_1 (out.map encI_i64) 3 1::.box b_2 [i6 c_.Car,i6 c_.Wide,i6 c_.Sag,i6 c_.Most,.slice (some ⟨g_1,0,none⟩) x_1.length c_9] 54::Lf) w) ?_ ?_
        ·cases hb : (next_ == (-1))
         ·rw [hb] at hf
          refine stP hf rfl rfl rfl (pFA fa_72_0 rfl) fun a hf => stE hf hc rfl rfl rfl (eLd1 sc_3 rfl (cell_box m0 rfl)) fun a w hf hc => stP hf rfl rfl rfl (pFA fa_72_1 rfl) fun a hf => stE hf hc rfl rfl rfl (eLd1 sc_3 rfl (cell_box m0 rfl)) fun a w hf hc => stP hf rfl rfl rfl (pAdd rfl rfl) fun a hf => stP hf rfl rfl rfl (pM rfl) fun a hf => stP hf rfl rfl rfl (pLt rfl rfl) fun a hf => stP hf rfl rfl rfl (pPf rfl rfl) fun a hf => cNil ⟨hf.kp rfl,hc⟩
         ·rw [hb] at hf
          refine stS hf rfl rfl rfl fun a hf => stS hf rfl rfl rfl fun a hf => stS hf rfl rfl rfl fun a hf => stS hf rfl rfl rfl fun a hf => stS hf rfl rfl rfl fun a hf => stS hf rfl rfl rfl fun a hf => stS hf rfl rfl rfl fun a hf => stP hf rfl rfl rfl (pPt rfl rfl) fun a hf => cNil ⟨hf.kp rfl,hc⟩
        intro a w ⟨hf,hc⟩
        refine stP hf rfl rfl rfl (pPt rfl rfl) fun a hf => cNil ⟨hf.kp rfl,hc⟩
      intro a w ⟨hf,hc⟩
      refine cNil ?_
      refine h40 _ _ ?_
      refine cCond (b := ((crew_Ride_on e_3 at__1) && ((next_ == (-1)) || (decide ((W (e_3.From + e_3.Long)) < next_))))) hf rfl (fun hb => ?_) (fun hb => ?_)
      ·replace hF := condT hb hF
       clear hb
       refine cReg ?_
       refine stP hf rfl rfl rfl (pFA fa_72_0 rfl) fun a hf => stE hf hc rfl rfl rfl (eLd1 sc_3 rfl (cell_box m0 rfl)) fun a w hf hc => stP hf rfl rfl rfl (pFA fa_72_1 rfl) fun a hf => stE hf hc rfl rfl rfl (eLd1 sc_3 rfl (cell_box m0 rfl)) fun a w hf hc => stP hf rfl rfl rfl (pAdd rfl rfl) fun a hf => stP hf rfl rfl rfl (pA rfl) fun a hf => cNil ?_
       replace hc := hc.drop k0
       exact hj38 (W (e_3.From + e_3.Long)) (some ⟨g_1,0,none⟩) c_9 _ _  (hf.kp rfl) hc hF
      ·replace hF := condF hb hF
       clear hb
       refine wp_skip ?_
       replace hc := hc.drop k0
       exact hj38 next_ (some ⟨g_1,0,none⟩) c_9 _ _  (hf.kp rfl) hc hF
     ·replace hF := condF hb hF
      clear hb
      refine wp_exit ?_
      refine xThen ?_
      refine xThen ?_
      have he := sj hF
      rw [← he] at hfin33
      refine cHit ?_
      exact hr33 _ _ _ hfin33 ⟨p_9,c_9,hf.kp rfl,hc⟩
    ·replace hF := condF hb hF
     clear hb
     refine wp_exit ?_
     refine xThen ?_
     refine xThen ?_
     have he := sj hF
     rw [← he] at hfin25
     refine cHit ?_
     exact hr25 _ _ _ hfin25 ⟨p_6,c_6,p_7,c_7,hf.kp rfl,hc⟩
   ·replace hF := condF hb hF
    clear hb
    refine wp_exit ?_
    refine xThen ?_
    refine xThen ?_
    have he := sj hF
    rw [← he] at hfin14
    refine cHit ?_
    exact hr14 _ _ _ hfin14 ⟨p_1,c_1,p_2,c_2,hf.kp rfl,hc⟩

def law11_Two (N : Nat)  : Option (crew_Roster) :=
 some (⟨([([0,1] : List Int),([0,1] : List Int)] : List (List Int)),([(⟨1,([1,0] : List Int)⟩ : crew_Station),(⟨1,([0,1] : List Int)⟩ : crew_Station)] : List crew_Station)⟩ : crew_Roster)
theorem law11_Two_ok {N : Nat} {G : Pers} {Lf : List Ent} {w : World}    (hc : Ctx G (Lf) w) {res : crew_Roster} (hF : law11_Two N = some res) : Calls Tryz.prog 67 #[] w (fun e w => ∃ (p'1 : Option Addr) (tcq'1 : TabH) (p'2 : Option Addr) (tcq'2 : TabH),e = .returned (.agg #[.slice p'1 res.People.length tcq'1.1,.slice p'2 res.Stations.length tcq'2.1]) ∧ Ctx G (.row p'1 tcq'1.1 ((tabR tcq'1.2 res.People).map (Kd.v kd_25)) 25 1::tabI kd_25 (tabR tcq'1.2 res.People)::.row p'2 tcq'2.1 ((tabR tcq'2.2 res.Stations).map (Kd.v kd_101)) 101 2::tabI kd_101 (tabR tcq'2.2 res.Stations)::Lf) w) := by
 unfold law11_Two at hF
 refine fnIn (args := []) Tryz.func67 rfl Tryz.ntmps67 rfl fun a hf => wp_seq_k fun K1 h1 => cReg ?_
 refine stAl (cs := [.slice none 0 0,.slice none 0 0]) hf hc rfl rfl zr_78 rfl fun b_1 a w hf hc => cNil ?_
 refine h1 _ _ ?_
 refine wp_seq_k fun K2 h2 => cReg ?_
 refine stBS (rows := ([0,1] : List Int).map encI_i64) (vs := [(0,i6 0),(1,i6 1)]) hf hc rfl rfl sl_25 rfl ⟨rfl,rfl,rfl,rfl,rfl,rfl,trivial⟩ rfl rfl fun b_2 a w hf hc => stBS (rows := ([0,1] : List Int).map encI_i64) (vs := [(0,i6 0),(1,i6 1)]) hf hc rfl rfl sl_25 rfl ⟨rfl,rfl,rfl,rfl,rfl,rfl,trivial⟩ rfl rfl fun b_3 a w hf hc => stBS (rows := ([(((some ⟨b_2,0,none⟩),2),([0,1] : List Int)),(((some ⟨b_3,0,none⟩),2),([0,1] : List Int))] : List (H2 × (List Int))).map (Kd.v kd_25)) (vs := [(0,.slice (some ⟨b_2,0,none⟩) 2 2),(1,.slice (some ⟨b_3,0,none⟩) 2 2)]) hf hc rfl rfl sl_75 rfl ⟨rfl,rfl,rfl,rfl,rfl,rfl,trivial⟩ rfl rfl fun b_4 a w hf hc => stBS (rows := ([1,0] : List Int).map encI_i64) (vs := [(0,i6 1),(1,i6 0)]) hf hc rfl rfl sl_25 rfl ⟨rfl,rfl,rfl,rfl,rfl,rfl,trivial⟩ rfl rfl fun b_5 a w hf hc => stP hf rfl rfl rfl (pBuildS (cells := [i6 1,.slice (some ⟨b_5,0,none⟩) 2 2]) bt_101 rfl rfl) fun a hf => stBS (rows := ([0,1] : List Int).map encI_i64) (vs := [(0,i6 0),(1,i6 1)]) hf hc rfl rfl sl_25 rfl ⟨rfl,rfl,rfl,rfl,rfl,rfl,trivial⟩ rfl rfl fun b_6 a w hf hc => stP hf rfl rfl rfl (pBuildS (cells := [i6 1,.slice (some ⟨b_6,0,none⟩) 2 2]) bt_101 rfl rfl) fun a hf => stBS (rows := ([(((some ⟨b_5,0,none⟩),2),(⟨1,([1,0] : List Int)⟩ : crew_Station)),(((some ⟨b_6,0,none⟩),2),(⟨1,([0,1] : List Int)⟩ : crew_Station))] : List (H2 × crew_Station)).map (Kd.v kd_101)) (vs := [(0,.agg #[i6 1,.slice (some ⟨b_5,0,none⟩) 2 2]),(1,.agg #[i6 1,.slice (some ⟨b_6,0,none⟩) 2 2])]) hf hc rfl rfl sl_76 rfl ⟨rfl,rfl,rfl,rfl,rfl,rfl,trivial⟩ rfl rfl fun b_7 a w hf hc => stP hf rfl rfl rfl (pBuildS (cells := [.slice (some ⟨b_4,0,none⟩) 2 2,.slice (some ⟨b_7,0,none⟩) 2 2]) bt_78 rfl rfl) fun a hf => stSt (vs := [.slice (some ⟨b_4,0,none⟩) 2 2,.slice (some ⟨b_7,0,none⟩) 2 2]) hf hc rfl rfl rfl rfl sz_78 rfl rfl u6 fun w hc => cNil ?_
 replace hc := hc.pick k1
 replace hc := hc.pick k2
 replace hc := hc.pick k2
 obtain ⟨hsq,hc⟩ := tab_mk (K := kd_101) ([(((some ⟨b_5,0,none⟩),2),(⟨1,([1,0] : List Int)⟩ : crew_Station)),(((some ⟨b_6,0,none⟩),2),(⟨1,([0,1] : List Int)⟩ : crew_Station))] : List (H2 × crew_Station)) hc
 replace hc : Ctx G (.row (some ⟨b_7,0,none⟩) 2 ((tabR hsq ([(⟨1,([1,0] : List Int)⟩ : crew_Station),(⟨1,([0,1] : List Int)⟩ : crew_Station)] : List crew_Station)).map (Kd.v kd_101)) 101 2::tabI kd_101 (tabR hsq ([(⟨1,([1,0] : List Int)⟩ : crew_Station),(⟨1,([0,1] : List Int)⟩ : crew_Station)] : List crew_Station))::.row (some ⟨b_4,0,none⟩) 2 (([(((some ⟨b_2,0,none⟩),2),([0,1] : List Int)),(((some ⟨b_3,0,none⟩),2),([0,1] : List Int))] : List (H2 × (List Int))).map (Kd.v kd_25)) 25 1::.row (some ⟨b_3,0,none⟩) 2 (([0,1] : List Int).map encI_i64) 3 1::.row (some ⟨b_2,0,none⟩) 2 (([0,1] : List Int).map encI_i64) 3 1::.box b_1 [.slice (some ⟨b_4,0,none⟩) 2 2,.slice (some ⟨b_7,0,none⟩) 2 2] 78::Lf) w := hc
 replace hc := hc.pick k1
 replace hc := hc.pick k1
 replace hc := hc.pick k3
 replace hc := hc.pick k4
 replace hc := hc.pick k4
 obtain ⟨hsq_1,hc⟩ := tab_mk (K := kd_25) ([(((some ⟨b_2,0,none⟩),2),([0,1] : List Int)),(((some ⟨b_3,0,none⟩),2),([0,1] : List Int))] : List (H2 × (List Int))) hc
 replace hc : Ctx G (.row (some ⟨b_4,0,none⟩) 2 ((tabR hsq_1 ([([0,1] : List Int),([0,1] : List Int)] : List (List Int))).map (Kd.v kd_25)) 25 1::tabI kd_25 (tabR hsq_1 ([([0,1] : List Int),([0,1] : List Int)] : List (List Int)))::.row (some ⟨b_7,0,none⟩) 2 ((tabR hsq ([(⟨1,([1,0] : List Int)⟩ : crew_Station),(⟨1,([0,1] : List Int)⟩ : crew_Station)] : List crew_Station)).map (Kd.v kd_101)) 101 2::tabI kd_101 (tabR hsq ([(⟨1,([1,0] : List Int)⟩ : crew_Station),(⟨1,([0,1] : List Int)⟩ : crew_Station)] : List crew_Station))::.box b_1 [.slice (some ⟨b_4,0,none⟩) 2 2,.slice (some ⟨b_7,0,none⟩) 2 2] 78::Lf) w := hc
 refine h2 _ _ ?_
 refine wp_ret ?_
 obtain rfl := sj hF
 exact fnOut1 (by simp) rfl Tryz.results67 hf hc (rv_cellN (vs := [.slice (some ⟨b_4,0,none⟩) 2 2,.slice (some ⟨b_7,0,none⟩) 2 2]) ag_78 rfl rfl (cells_box (n := 2) m4 rfl)) ⟨(some ⟨b_4,0,none⟩),(2,hsq_1),(some ⟨b_7,0,none⟩),(2,hsq),rfl,(hc.drop k4)⟩

def crew_Check_1_1 (s_ : Int) (x : crew_Roster) : Bool :=
 (crew_in s_ 0 (W (((x.Stations.length : Nat) : Int) - 1)))
theorem crew_Check_1_1_ok {G : Pers} {Lf : List Ent} {w : World} (s_ : Int) (x : crew_Roster) {b_ : Nat} {x_People_p : Option Addr} {x_People_c : Nat} {x_Stations_p : Option Addr} {x_Stations_c : Nat} (h_x_People : RdT kd_25 G 1 x_People_p x_People_c x.People) (h_x_Stations : RdT kd_101 G 2 x_Stations_p x_Stations_c x.Stations) (hc : Ctx G (.box b_ [.slice x_People_p x.People.length x_People_c,.slice x_Stations_p x.Stations.length x_Stations_c] 78::Lf) w) {res : Bool} (hF : crew_Check_1_1 s_ x = res) : Calls Tryz.prog 118 #[i6 s_,pq b_] w (fun e w => e = .returned (.bool res) ∧ Ctx G (.box b_ [.slice x_People_p x.People.length x_People_c,.slice x_Stations_p x.Stations.length x_Stations_c] 78::Lf) w) := by
 unfold crew_Check_1_1 at hF
 refine fnIn (args := [i6 s_,pq b_]) Tryz.func118 rfl Tryz.ntmps118 rfl fun a hf => wp_seq_k fun K1 h1 => cReg ?_
 refine stP hf rfl rfl rfl (pA rfl) fun a hf => cNil ?_
 refine h1 _ _ ?_
 refine wp_seq_k fun K2 h2 => cReg ?_
 refine stP hf rfl rfl rfl (pM rfl) fun a hf => stP hf rfl rfl rfl (pFA fa_78_1 rfl) fun a hf => stE hf hc rfl rfl rfl (eLd1 sc_76 rfl (cell_box m0 rfl)) fun a w hf hc => stP hf rfl rfl rfl (pLenS Tryz.underlying76 rfl) fun a hf => stP hf rfl rfl rfl (pSub rfl rfl) fun a hf => stE hf hc rfl rfl rfl (eC (v := .bool (crew_in s_ 0 (W (((x.Stations.length : Nat) : Int) - 1)))) (vs := [i6 s_,i6 0,i6 (W (((x.Stations.length : Nat) : Int) - 1))]) (caps := []) en_86 rfl rfl rfl rfl (fun w hc => crew_in_ok s_ 0 (W (((x.Stations.length : Nat) : Int) - 1)) hc rfl)) fun a w hf hc => stP hf rfl rfl rfl (pA rfl) fun a hf => cNil ?_
 refine h2 _ _ ?_
 refine wp_ret ?_
 obtain rfl := hF
 exact fnOut1 (by simp) rfl Tryz.results118 hf hc (show look _ 3 = _ from rfl) ⟨rfl,hc⟩

def crew_every_int_1 (x : Int) (x_1 : crew_Roster) : Bool :=
 (!(crew_Check_1_1 x x_1))
theorem crew_every_int_1_ok {G : Pers} {Lf : List Ent} {w : World} (x : Int) (x_1 : crew_Roster) {b_ : Nat} {b__1 : Nat} {x_1_People_p : Option Addr} {x_1_People_c : Nat} {x_1_Stations_p : Option Addr} {x_1_Stations_c : Nat} (h_x_1_People : RdT kd_25 G 1 x_1_People_p x_1_People_c x_1.People) (h_x_1_Stations : RdT kd_101 G 2 x_1_Stations_p x_1_Stations_c x_1.Stations) (hc : Ctx G (.box b_ [.func (.func 118) #[] #[pq b__1]] 143::.box b__1 [.slice x_1_People_p x_1.People.length x_1_People_c,.slice x_1_Stations_p x_1.Stations.length x_1_Stations_c] 78::Lf) w) {res : Bool} (hF : crew_every_int_1 x x_1 = res) : Calls Tryz.prog 157 #[i6 x,pq b_] w (fun e w => e = .returned (.bool res) ∧ Ctx G (.box b_ [.func (.func 118) #[] #[pq b__1]] 143::.box b__1 [.slice x_1_People_p x_1.People.length x_1_People_c,.slice x_1_Stations_p x_1.Stations.length x_1_Stations_c] 78::Lf) w) := by
 unfold crew_every_int_1 at hF
 refine fnIn (args := [i6 x,pq b_]) Tryz.func157 rfl Tryz.ntmps157 rfl fun a hf => wp_seq_k fun K1 h1 => cReg ?_
 refine stP hf rfl rfl rfl (pA rfl) fun a hf => cNil ?_
 refine h1 _ _ ?_
 refine wp_seq_k fun K2 h2 => cReg ?_
 refine stE hf hc rfl rfl rfl (eLd1 sc_143 rfl (cell_box m0 rfl)) fun a w hf hc => stP hf rfl rfl rfl (pM rfl) fun a hf => stE hf hc rfl rfl rfl (eC (v := .bool (crew_Check_1_1 x x_1)) (vs := [i6 x]) (caps := [pq b__1]) en_118 rfl rfl rfl rfl (fun w hc => (crew_Check_1_1_ok x x_1 h_x_1_People h_x_1_Stations (hc.pick k1) rfl).mono fun e w h => ⟨h.1,(h.2.unpick k1)⟩)) fun a w hf hc => stP hf rfl rfl rfl (pNot rfl) fun a hf => stP hf rfl rfl rfl (pA rfl) fun a hf => cNil ?_
 refine h2 _ _ ?_
 refine wp_ret ?_
 obtain rfl := hF
 exact fnOut1 (by simp) rfl Tryz.results157 hf hc (show look _ 3 = _ from rfl) ⟨rfl,hc⟩

def slices_IndexFunc_Lint_int_b4 (N : Nat) (s_ : List Int) (f_ : crew_Roster) (x : Int) : Option (Step (Int) (Int)) :=
 cond (decide (x < ((s_.length : Nat) : Int)))
 (Option.bind (getI s_ x) fun e_1 =>
 cond (crew_every_int_1 e_1 f_)
 (some (.ret x))
 (some (.cont (W (x + 1)))))
 (some (.brk x))
def slices_IndexFunc_Lint_int (N : Nat) (s_ : List Int) (f_ : crew_Roster) : Option (Int) :=
 Option.bind (loopO (fun s4 => slices_IndexFunc_Lint_int_b4 N s_ f_ s4) N 0) fun x4 =>
 exK x4 (fun s4 => some (-1)) some
theorem slices_IndexFunc_Lint_int_ok {N : Nat} {G : Pers} {Lf : List Ent} {w : World} (s_ : List Int) (f_ : crew_Roster) {s__p : Option Addr} {s__c : Nat} {b_ : Nat} {b__1 : Nat} {f__People_p : Option Addr} {f__People_c : Nat} {f__Stations_p : Option Addr} {f__Stations_c : Nat} (h_s_ : Rd G 1 s__p s__c (s_.map encI_i64)) (h_f__People : RdT kd_25 G 1 f__People_p f__People_c f_.People) (h_f__Stations : RdT kd_101 G 2 f__Stations_p f__Stations_c f_.Stations) (hc : Ctx G (.box b_ [.func (.func 118) #[] #[pq b__1]] 143::.box b__1 [.slice f__People_p f_.People.length f__People_c,.slice f__Stations_p f_.Stations.length f__Stations_c] 78::Lf) w) {res : Int} (hF : slices_IndexFunc_Lint_int N s_ f_ = some res) : Calls Tryz.prog 97 #[.slice s__p s_.length s__c,.func (.func 157) #[] #[pq b_]] w (fun e w => e = .returned (i6 res) ∧ Ctx G (.box b_ [.func (.func 118) #[] #[pq b__1]] 143::.box b__1 [.slice f__People_p f_.People.length f__People_c,.slice f__Stations_p f_.Stations.length f__Stations_c] 78::Lf) w) := by
 unfold slices_IndexFunc_Lint_int at hF
 refine fnIn (args := [.slice s__p s_.length s__c,.func (.func 157) #[] #[pq b_]]) Tryz.func97 rfl Tryz.ntmps97 rfl fun a hf => wp_seq_k fun K1 h1 => cReg ?_
 refine stP hf rfl rfl rfl (pA rfl) fun a hf => cNil ?_
 refine h1 _ _ ?_
 refine wp_seq_k fun K2 h2 => wp_seq_k fun K3 h3 => cReg ?_
 refine stP hf rfl rfl rfl (pM rfl) fun a hf => stP hf rfl rfl rfl (pLenS Tryz.underlying25 rfl) fun a hf => stP hf rfl rfl rfl (pM rfl) fun a hf => cNil ?_
 refine h3 _ _ ?_
 refine wp_block ?_
 obtain ⟨x4,hx4,hF⟩ := bnd_some hF
 let S4 : Int → Act → World → Prop := (fun (zz : Int) a w => Has 19 a [(0,.slice s__p s_.length s__c),(1,.func (.func 157) #[] #[pq b_]),(7,i6 ((s_.length : Nat) : Int)),(8,i6 zz)] ∧ Ctx G (.box b_ [.func (.func 118) #[] #[pq b__1]] 143::.box b__1 [.slice f__People_p f_.People.length f__People_c,.slice f__Stations_p f_.Stations.length f__Stations_c] 78::Lf) w)
 have hr4 : ∀ (zz : Int) a w,x4 = .go zz → S4 zz a w → K2 a w := by
  rintro x a w rfl ⟨hf,hc⟩
  replace hF := exK_go hF
  refine h2 _ _ ?_
  refine wp_seq_k fun K5 h5 => cReg ?_
  refine stP hf rfl rfl rfl (pA rfl) fun a hf => cNil ?_
  refine h5 _ _ ?_
  refine wp_ret ?_
  obtain rfl := sj hF
  exact fnOut1 (by simp) rfl Tryz.results97 hf hc (show look _ 4 = _ from rfl) ⟨rfl,hc⟩
 have ho4 : ∀ r,x4 = .out r → r = res := by
  rintro r rfl
  exact sj hF
 refine cLoop N (loopW (S := S4) (x := x4) ?_ N 0 _ _ ⟨hf.kp rfl,hc⟩ hx4)
 clear hF hf hc
 rintro x st4 a w KB4 ⟨hf,hc⟩ hF hfin4 hK4
 unfold slices_IndexFunc_Lint_int_b4 at hF
 refine wp_seq_k fun K6 h6 => cReg ?_
 refine stP hf rfl rfl rfl (pLt rfl rfl) fun a hf => cNil ?_
 refine h6 _ _ ?_
 refine wp_seq_k fun K7 h7 => cCond (b := (decide (x < ((s_.length : Nat) : Int)))) hf rfl (fun hb => ?_) (fun hb => ?_)
 ·replace hF := condT hb hF
  clear hb
  refine wp_skip ?_
  refine h7 _ _ ?_
  refine wp_seq_k fun K8 h8 => wp_block ?_
  refine wp_seq_k fun K9 h9 => cReg ?_
  refine stP hf rfl rfl rfl (pM rfl) fun a hf => stP hf rfl rfl rfl (pA rfl) fun a hf => cNil ?_
  refine h9 _ _ ?_
  refine wp_seq_k fun K10 h10 => cReg ?_
  refine stP hf rfl rfl rfl (pM rfl) fun a hf => stP hf rfl rfl rfl (pM rfl) fun a hf => stP hf rfl rfl rfl (pM rfl) fun a hf => ?_
  obtain ⟨e_1,he_1,hF⟩ := bnd_some hF
  obtain ⟨b_1,o,qa,qp⟩ := h_s_.atm he_1
  refine stP hf rfl rfl rfl (pIA Tryz.underlying25 sz_3 rfl rfl qa) fun a hf => stE hf hc rfl rfl rfl (eLd1 sc_3 rfl (cell_pc (j := 0) qp rfl)) fun a w hf hc => stE hf hc rfl rfl rfl (eC (v := .bool (crew_every_int_1 e_1 f_)) (vs := [i6 e_1]) (caps := [pq b_]) en_157 rfl rfl rfl rfl (fun w hc => (crew_every_int_1_ok e_1 f_ h_f__People h_f__Stations ((hc.pick k1).pick k1) rfl).mono fun e w h => ⟨h.1,((h.2.unpick k1).unpick k1)⟩)) fun a w hf hc => cNil ?_
  refine h10 _ _ ?_
  refine cCond (b := (crew_every_int_1 e_1 f_)) hf rfl (fun hb => ?_) (fun hb => ?_)
  ·replace hF := condT hb hF
   clear hb
   refine wp_seq_k fun K11 h11 => cReg ?_
   refine stP hf rfl rfl rfl (pM rfl) fun a hf => stP hf rfl rfl rfl (pA rfl) fun a hf => cNil ?_
   refine h11 _ _ ?_
   refine wp_ret ?_
   refine xBlkR ?_
   refine xThenR ?_
   refine xThenR ?_
   have he := sj hF
   rw [← he] at hfin4
   replace hF := ho4 _ hfin4
   refine xBlkR ?_
   refine xThenR ?_
   obtain rfl := hF
   exact fnOut1 (by simp) rfl Tryz.results97 hf hc (show look _ 4 = _ from rfl) ⟨rfl,hc⟩
  ·replace hF := condF hb hF
   clear hb
   refine wp_skip ?_
   refine h8 _ _ ?_
   refine cReg ?_
   refine stP hf rfl rfl rfl (pAdd rfl rfl) fun a hf => stP hf rfl rfl rfl (pM rfl) fun a hf => cNil ?_
   exact hK4 (W (x + 1)) _ _ (sj hF).symm ⟨hf.kp rfl,hc⟩
 ·replace hF := condF hb hF
  clear hb
  refine wp_exit ?_
  refine xThen ?_
  refine xThen ?_
  have he := sj hF
  rw [← he] at hfin4
  refine cHit ?_
  exact hr4 _ _ _ hfin4 ⟨hf.kp rfl,hc⟩

def slices_ContainsFunc_Lint_int (N : Nat) (s_ : List Int) (f_ : crew_Roster) : Option (Bool) :=
 Option.bind (slices_IndexFunc_Lint_int N s_ f_) fun r =>
 some (decide (0 ≤ r))
theorem slices_ContainsFunc_Lint_int_ok {N : Nat} {G : Pers} {Lf : List Ent} {w : World} (s_ : List Int) (f_ : crew_Roster) {s__p : Option Addr} {s__c : Nat} {b_ : Nat} {b__1 : Nat} {f__People_p : Option Addr} {f__People_c : Nat} {f__Stations_p : Option Addr} {f__Stations_c : Nat} (h_s_ : Rd G 1 s__p s__c (s_.map encI_i64)) (h_f__People : RdT kd_25 G 1 f__People_p f__People_c f_.People) (h_f__Stations : RdT kd_101 G 2 f__Stations_p f__Stations_c f_.Stations) (hc : Ctx G (.box b_ [.func (.func 118) #[] #[pq b__1]] 143::.box b__1 [.slice f__People_p f_.People.length f__People_c,.slice f__Stations_p f_.Stations.length f__Stations_c] 78::Lf) w) {res : Bool} (hF : slices_ContainsFunc_Lint_int N s_ f_ = some res) : Calls Tryz.prog 113 #[.slice s__p s_.length s__c,.func (.func 157) #[] #[pq b_]] w (fun e w => e = .returned (.bool res) ∧ Ctx G (.box b_ [.func (.func 118) #[] #[pq b__1]] 143::.box b__1 [.slice f__People_p f_.People.length f__People_c,.slice f__Stations_p f_.Stations.length f__Stations_c] 78::Lf) w) := by
 unfold slices_ContainsFunc_Lint_int at hF
 refine fnIn (args := [.slice s__p s_.length s__c,.func (.func 157) #[] #[pq b_]]) Tryz.func113 rfl Tryz.ntmps113 rfl fun a hf => wp_seq_k fun K1 h1 => cReg ?_
 refine stP hf rfl rfl rfl (pA rfl) fun a hf => cNil ?_
 refine h1 _ _ ?_
 refine wp_seq_k fun K2 h2 => cReg ?_
 refine stP hf rfl rfl rfl (pM rfl) fun a hf => stP hf rfl rfl rfl (pM rfl) fun a hf => ?_
 obtain ⟨r,hr,hF⟩ := bnd_some hF
 refine stE hf hc rfl rfl rfl (eC (v := i6 r) (vs := [.slice s__p s_.length s__c,.func (.func 157) #[] #[pq b_]]) (caps := []) en_97 rfl rfl rfl rfl (fun w hc => (slices_IndexFunc_Lint_int_ok s_ f_ h_s_ h_f__People h_f__Stations ((hc.pick k1).pick k1) hr).mono fun e w h => ⟨h.1,((h.2.unpick k1).unpick k1)⟩)) fun a w hf hc => stP hf rfl rfl rfl (pGe rfl rfl) fun a hf => stP hf rfl rfl rfl (pA rfl) fun a hf => cNil ?_
 refine h2 _ _ ?_
 refine wp_ret ?_
 obtain rfl := sj hF
 exact fnOut1 (by simp) rfl Tryz.results113 hf hc (show look _ 4 = _ from rfl) ⟨rfl,hc⟩

def crew_every_int (N : Nat) (l : List Int) (so : crew_Roster) : Option (Bool) :=
 Option.bind (slices_ContainsFunc_Lint_int N l so) fun r =>
 some (!r)
theorem crew_every_int_ok {N : Nat} {G : Pers} {Lf : List Ent} {w : World} (l : List Int) (so : crew_Roster) {l_p : Option Addr} {l_c : Nat} {b_ : Nat} {so_People_p : Option Addr} {so_People_c : Nat} {so_Stations_p : Option Addr} {so_Stations_c : Nat} (h_l : Rd G 1 l_p l_c (l.map encI_i64)) (h_so_People : RdT kd_25 G 1 so_People_p so_People_c so.People) (h_so_Stations : RdT kd_101 G 2 so_Stations_p so_Stations_c so.Stations) (hc : Ctx G (.box b_ [.slice so_People_p so.People.length so_People_c,.slice so_Stations_p so.Stations.length so_Stations_c] 78::Lf) w) {res : Bool} (hF : crew_every_int N l so = some res) : Calls Tryz.prog 87 #[.slice l_p l.length l_c,.func (.func 118) #[] #[pq b_]] w (fun e w => e = .returned (.bool res) ∧ Ctx G (.box b_ [.slice so_People_p so.People.length so_People_c,.slice so_Stations_p so.Stations.length so_Stations_c] 78::Lf) w) := by
 unfold crew_every_int at hF
 refine fnIn (args := [.slice l_p l.length l_c,.func (.func 118) #[] #[pq b_]]) Tryz.func87 rfl Tryz.ntmps87 rfl fun a hf => wp_seq_k fun K1 h1 => cReg ?_
 refine stBx (cs := [.func (.func 118) #[] #[pq b_]]) hf hc rfl rfl rfl rfl fun b_1 a w hf hc => stP hf rfl rfl rfl (pA rfl) fun a hf => cNil ?_
 refine h1 _ _ ?_
 refine wp_seq_k fun K2 h2 => cReg ?_
 refine stP hf rfl rfl rfl (pM rfl) fun a hf => stP hf rfl rfl rfl (pMF (us := [pq b_1]) rfl rfl) fun a hf => ?_
 obtain ⟨r,hr,hF⟩ := bnd_some hF
 refine stE hf hc rfl rfl rfl (eC (v := .bool r) (vs := [.slice l_p l.length l_c,.func (.func 157) #[] #[pq b_1]]) (caps := []) en_113 rfl rfl rfl rfl (fun w hc => (slices_ContainsFunc_Lint_int_ok l so h_l h_so_People h_so_Stations ((hc.pick k1).pick k1) hr).mono fun e w h => ⟨h.1,((h.2.unpick k1).unpick k1)⟩)) fun a w hf hc => stP hf rfl rfl rfl (pNot rfl) fun a hf => stP hf rfl rfl rfl (pA rfl) fun a hf => cNil ?_
 refine h2 _ _ ?_
 refine wp_ret ?_
 obtain rfl := sj hF
 replace hc := hc.drop k0
 exact fnOut1 (by simp) rfl Tryz.results87 hf hc (show look _ 4 = _ from rfl) ⟨rfl,hc⟩

def crew_Check_1 (N : Nat) (l : List Int) (x : crew_Roster) : Option (Bool) :=
 Option.bind (crew_every_int N l (⟨x.People,x.Stations⟩ : crew_Roster)) fun r =>
 some r
theorem crew_Check_1_ok {N : Nat} {G : Pers} {Lf : List Ent} {w : World} (l : List Int) (x : crew_Roster) {l_p : Option Addr} {l_c : Nat} {b_ : Nat} {x_People_p : Option Addr} {x_People_c : Nat} {x_Stations_p : Option Addr} {x_Stations_c : Nat} (h_l : Rd G 1 l_p l_c (l.map encI_i64)) (h_x_People : RdT kd_25 G 1 x_People_p x_People_c x.People) (h_x_Stations : RdT kd_101 G 2 x_Stations_p x_Stations_c x.Stations) (hc : Ctx G (.box b_ [.slice x_People_p x.People.length x_People_c,.slice x_Stations_p x.Stations.length x_Stations_c] 78::Lf) w) {res : Bool} (hF : crew_Check_1 N l x = some res) : Calls Tryz.prog 117 #[.slice l_p l.length l_c,pq b_] w (fun e w => e = .returned (.bool res) ∧ Ctx G (.box b_ [.slice x_People_p x.People.length x_People_c,.slice x_Stations_p x.Stations.length x_Stations_c] 78::Lf) w) := by
 unfold crew_Check_1 at hF
 refine fnIn (args := [.slice l_p l.length l_c,pq b_]) Tryz.func117 rfl Tryz.ntmps117 rfl fun a hf => wp_seq_k fun K1 h1 => cReg ?_
 refine stP hf rfl rfl rfl (pA rfl) fun a hf => cNil ?_
 refine h1 _ _ ?_
 refine wp_seq_k fun K2 h2 => cReg ?_
 refine stP hf rfl rfl rfl (pM rfl) fun a hf => stP hf rfl rfl rfl (pMF (us := [pq b_]) rfl rfl) fun a hf => ?_
 obtain ⟨r,hr,hF⟩ := bnd_some hF
 refine stE hf hc rfl rfl rfl (eC (v := .bool r) (vs := [.slice l_p l.length l_c,.func (.func 118) #[] #[pq b_]]) (caps := []) en_87 rfl rfl rfl rfl (fun w hc => (crew_every_int_ok l (⟨x.People,x.Stations⟩ : crew_Roster) h_l h_x_People h_x_Stations (hc.pick k0) hr).mono fun e w h => ⟨h.1,(h.2.unpick k0)⟩)) fun a w hf hc => stP hf rfl rfl rfl (pA rfl) fun a hf => cNil ?_
 refine h2 _ _ ?_
 refine wp_ret ?_
 obtain rfl := sj hF
 exact fnOut1 (by simp) rfl Tryz.results117 hf hc (show look _ 3 = _ from rfl) ⟨rfl,hc⟩

def crew_every_Lint_1 (N : Nat) (x : List Int) (x_1 : crew_Roster) : Option (Bool) :=
 Option.bind (crew_Check_1 N x x_1) fun r =>
 some (!r)
theorem crew_every_Lint_1_ok {N : Nat} {G : Pers} {Lf : List Ent} {w : World} (x : List Int) (x_1 : crew_Roster) {x_p : Option Addr} {x_c : Nat} {b_ : Nat} {b__1 : Nat} {x_1_People_p : Option Addr} {x_1_People_c : Nat} {x_1_Stations_p : Option Addr} {x_1_Stations_c : Nat} (h_x : Rd G 1 x_p x_c (x.map encI_i64)) (h_x_1_People : RdT kd_25 G 1 x_1_People_p x_1_People_c x_1.People) (h_x_1_Stations : RdT kd_101 G 2 x_1_Stations_p x_1_Stations_c x_1.Stations) (hc : Ctx G (.box b_ [.func (.func 117) #[] #[pq b__1]] 185::.box b__1 [.slice x_1_People_p x_1.People.length x_1_People_c,.slice x_1_Stations_p x_1.Stations.length x_1_Stations_c] 78::Lf) w) {res : Bool} (hF : crew_every_Lint_1 N x x_1 = some res) : Calls Tryz.prog 169 #[.slice x_p x.length x_c,pq b_] w (fun e w => e = .returned (.bool res) ∧ Ctx G (.box b_ [.func (.func 117) #[] #[pq b__1]] 185::.box b__1 [.slice x_1_People_p x_1.People.length x_1_People_c,.slice x_1_Stations_p x_1.Stations.length x_1_Stations_c] 78::Lf) w) := by
 unfold crew_every_Lint_1 at hF
 refine fnIn (args := [.slice x_p x.length x_c,pq b_]) Tryz.func169 rfl Tryz.ntmps169 rfl fun a hf => wp_seq_k fun K1 h1 => cReg ?_
 refine stP hf rfl rfl rfl (pA rfl) fun a hf => cNil ?_
 refine h1 _ _ ?_
 refine wp_seq_k fun K2 h2 => cReg ?_
 refine stE hf hc rfl rfl rfl (eLd1 sc_185 rfl (cell_box m0 rfl)) fun a w hf hc => stP hf rfl rfl rfl (pM rfl) fun a hf => ?_
 obtain ⟨r,hr,hF⟩ := bnd_some hF
 refine stE hf hc rfl rfl rfl (eC (v := .bool r) (vs := [.slice x_p x.length x_c]) (caps := [pq b__1]) en_117 rfl rfl rfl rfl (fun w hc => (crew_Check_1_ok x x_1 h_x h_x_1_People h_x_1_Stations (hc.pick k1) hr).mono fun e w h => ⟨h.1,(h.2.unpick k1)⟩)) fun a w hf hc => stP hf rfl rfl rfl (pNot rfl) fun a hf => stP hf rfl rfl rfl (pA rfl) fun a hf => cNil ?_
 refine h2 _ _ ?_
 refine wp_ret ?_
 obtain rfl := sj hF
 exact fnOut1 (by simp) rfl Tryz.results169 hf hc (show look _ 3 = _ from rfl) ⟨rfl,hc⟩

def slices_IndexFunc_LLint_Lint_b4 (N : Nat) (s_ : List (List Int)) (f_ : crew_Roster) (x : Int) : Option (Step (Int) (Int)) :=
 cond (decide (x < ((s_.length : Nat) : Int)))
 (Option.bind (getI s_ x) fun e_1 =>
 Option.bind (crew_every_Lint_1 N e_1 f_) fun r =>
 cond r
 (some (.ret x))
 (some (.cont (W (x + 1)))))
 (some (.brk x))
def slices_IndexFunc_LLint_Lint (N : Nat) (s_ : List (List Int)) (f_ : crew_Roster) : Option (Int) :=
 Option.bind (loopO (fun s4 => slices_IndexFunc_LLint_Lint_b4 N s_ f_ s4) N 0) fun x4 =>
 exK x4 (fun s4 => some (-1)) some
theorem slices_IndexFunc_LLint_Lint_ok {N : Nat} {G : Pers} {Lf : List Ent} {w : World} (s_ : List (List Int)) (f_ : crew_Roster) {s__p : Option Addr} {s__c : Nat} {b_ : Nat} {b__1 : Nat} {f__People_p : Option Addr} {f__People_c : Nat} {f__Stations_p : Option Addr} {f__Stations_c : Nat} (h_s_ : RdT kd_25 G 1 s__p s__c s_) (h_f__People : RdT kd_25 G 1 f__People_p f__People_c f_.People) (h_f__Stations : RdT kd_101 G 2 f__Stations_p f__Stations_c f_.Stations) (hc : Ctx G (.box b_ [.func (.func 117) #[] #[pq b__1]] 185::.box b__1 [.slice f__People_p f_.People.length f__People_c,.slice f__Stations_p f_.Stations.length f__Stations_c] 78::Lf) w) {res : Int} (hF : slices_IndexFunc_LLint_Lint N s_ f_ = some res) : Calls Tryz.prog 191 #[.slice s__p s_.length s__c,.func (.func 169) #[] #[pq b_]] w (fun e w => e = .returned (i6 res) ∧ Ctx G (.box b_ [.func (.func 117) #[] #[pq b__1]] 185::.box b__1 [.slice f__People_p f_.People.length f__People_c,.slice f__Stations_p f_.Stations.length f__Stations_c] 78::Lf) w) := by
 unfold slices_IndexFunc_LLint_Lint at hF
 refine fnIn (args := [.slice s__p s_.length s__c,.func (.func 169) #[] #[pq b_]]) Tryz.func191 rfl Tryz.ntmps191 rfl fun a hf => wp_seq_k fun K1 h1 => cReg ?_
 refine stP hf rfl rfl rfl (pA rfl) fun a hf => cNil ?_
 refine h1 _ _ ?_
 refine wp_seq_k fun K2 h2 => wp_seq_k fun K3 h3 => cReg ?_
 refine stP hf rfl rfl rfl (pM rfl) fun a hf => stP hf rfl rfl rfl (pLenS Tryz.underlying75 rfl) fun a hf => stP hf rfl rfl rfl (pM rfl) fun a hf => cNil ?_
 refine h3 _ _ ?_
 refine wp_block ?_
 obtain ⟨x4,hx4,hF⟩ := bnd_some hF
 let S4 : Int → Act → World → Prop := (fun (zz : Int) a w => Has 19 a [(0,.slice s__p s_.length s__c),(1,.func (.func 169) #[] #[pq b_]),(7,i6 ((s_.length : Nat) : Int)),(8,i6 zz)] ∧ Ctx G (.box b_ [.func (.func 117) #[] #[pq b__1]] 185::.box b__1 [.slice f__People_p f_.People.length f__People_c,.slice f__Stations_p f_.Stations.length f__Stations_c] 78::Lf) w)
 have hr4 : ∀ (zz : Int) a w,x4 = .go zz → S4 zz a w → K2 a w := by
  rintro x a w rfl ⟨hf,hc⟩
  replace hF := exK_go hF
  refine h2 _ _ ?_
  refine wp_seq_k fun K5 h5 => cReg ?_
  refine stP hf rfl rfl rfl (pA rfl) fun a hf => cNil ?_
  refine h5 _ _ ?_
  refine wp_ret ?_
  obtain rfl := sj hF
  exact fnOut1 (by simp) rfl Tryz.results191 hf hc (show look _ 4 = _ from rfl) ⟨rfl,hc⟩
 have ho4 : ∀ r,x4 = .out r → r = res := by
  rintro r rfl
  exact sj hF
 refine cLoop N (loopW (S := S4) (x := x4) ?_ N 0 _ _ ⟨hf.kp rfl,hc⟩ hx4)
 clear hF hf hc
 rintro x st4 a w KB4 ⟨hf,hc⟩ hF hfin4 hK4
 unfold slices_IndexFunc_LLint_Lint_b4 at hF
 refine wp_seq_k fun K6 h6 => cReg ?_
 refine stP hf rfl rfl rfl (pLt rfl rfl) fun a hf => cNil ?_
 refine h6 _ _ ?_
 refine wp_seq_k fun K7 h7 => cCond (b := (decide (x < ((s_.length : Nat) : Int)))) hf rfl (fun hb => ?_) (fun hb => ?_)
 ·replace hF := condT hb hF
  clear hb
  refine wp_skip ?_
  refine h7 _ _ ?_
  refine wp_seq_k fun K8 h8 => wp_block ?_
  refine wp_seq_k fun K9 h9 => cReg ?_
  refine stP hf rfl rfl rfl (pM rfl) fun a hf => stP hf rfl rfl rfl (pA rfl) fun a hf => cNil ?_
  refine h9 _ _ ?_
  refine wp_seq_k fun K10 h10 => cReg ?_
  refine stP hf rfl rfl rfl (pM rfl) fun a hf => stP hf rfl rfl rfl (pM rfl) fun a hf => stP hf rfl rfl rfl (pM rfl) fun a hf => ?_
  obtain ⟨e_1,he_1,hF⟩ := bnd_some hF
  obtain ⟨b_1,o,hd,qa,qp,qr⟩ := h_s_.atm he_1
  refine stP hf rfl rfl rfl (pIA Tryz.underlying75 sz_25 rfl rfl qa) fun a hf => stE hf hc rfl rfl rfl (eLd1 sc_25 rfl (cell_pc (j := 0) qp rfl)) fun a w hf hc => ?_
  obtain ⟨r,hr,hF⟩ := bnd_some hF
  refine stE hf hc rfl rfl rfl (eC (v := .bool r) (vs := [.slice hd.1 e_1.length hd.2]) (caps := [pq b_]) en_169 rfl rfl rfl rfl (fun w hc => (crew_every_Lint_1_ok e_1 f_ qr h_f__People h_f__Stations ((hc.pick k1).pick k1) hr).mono fun e w h => ⟨h.1,((h.2.unpick k1).unpick k1)⟩)) fun a w hf hc => cNil ?_
  refine h10 _ _ ?_
  refine cCond (b := r) hf rfl (fun hb => ?_) (fun hb => ?_)
  ·replace hF := condT hb hF
   clear hb
   refine wp_seq_k fun K11 h11 => cReg ?_
   refine stP hf rfl rfl rfl (pM rfl) fun a hf => stP hf rfl rfl rfl (pA rfl) fun a hf => cNil ?_
   refine h11 _ _ ?_
   refine wp_ret ?_
   refine xBlkR ?_
   refine xThenR ?_
   refine xThenR ?_
   have he := sj hF
   rw [← he] at hfin4
   replace hF := ho4 _ hfin4
   refine xBlkR ?_
   refine xThenR ?_
   obtain rfl := hF
   exact fnOut1 (by simp) rfl Tryz.results191 hf hc (show look _ 4 = _ from rfl) ⟨rfl,hc⟩
  ·replace hF := condF hb hF
   clear hb
   refine wp_skip ?_
   refine h8 _ _ ?_
   refine cReg ?_
   refine stP hf rfl rfl rfl (pAdd rfl rfl) fun a hf => stP hf rfl rfl rfl (pM rfl) fun a hf => cNil ?_
   exact hK4 (W (x + 1)) _ _ (sj hF).symm ⟨hf.kp rfl,hc⟩
 ·replace hF := condF hb hF
  clear hb
  refine wp_exit ?_
  refine xThen ?_
  refine xThen ?_
  have he := sj hF
  rw [← he] at hfin4
  refine cHit ?_
  exact hr4 _ _ _ hfin4 ⟨hf.kp rfl,hc⟩

def slices_ContainsFunc_LLint_Lint (N : Nat) (s_ : List (List Int)) (f_ : crew_Roster) : Option (Bool) :=
 Option.bind (slices_IndexFunc_LLint_Lint N s_ f_) fun r =>
 some (decide (0 ≤ r))
theorem slices_ContainsFunc_LLint_Lint_ok {N : Nat} {G : Pers} {Lf : List Ent} {w : World} (s_ : List (List Int)) (f_ : crew_Roster) {s__p : Option Addr} {s__c : Nat} {b_ : Nat} {b__1 : Nat} {f__People_p : Option Addr} {f__People_c : Nat} {f__Stations_p : Option Addr} {f__Stations_c : Nat} (h_s_ : RdT kd_25 G 1 s__p s__c s_) (h_f__People : RdT kd_25 G 1 f__People_p f__People_c f_.People) (h_f__Stations : RdT kd_101 G 2 f__Stations_p f__Stations_c f_.Stations) (hc : Ctx G (.box b_ [.func (.func 117) #[] #[pq b__1]] 185::.box b__1 [.slice f__People_p f_.People.length f__People_c,.slice f__Stations_p f_.Stations.length f__Stations_c] 78::Lf) w) {res : Bool} (hF : slices_ContainsFunc_LLint_Lint N s_ f_ = some res) : Calls Tryz.prog 168 #[.slice s__p s_.length s__c,.func (.func 169) #[] #[pq b_]] w (fun e w => e = .returned (.bool res) ∧ Ctx G (.box b_ [.func (.func 117) #[] #[pq b__1]] 185::.box b__1 [.slice f__People_p f_.People.length f__People_c,.slice f__Stations_p f_.Stations.length f__Stations_c] 78::Lf) w) := by
 unfold slices_ContainsFunc_LLint_Lint at hF
 refine fnIn (args := [.slice s__p s_.length s__c,.func (.func 169) #[] #[pq b_]]) Tryz.func168 rfl Tryz.ntmps168 rfl fun a hf => wp_seq_k fun K1 h1 => cReg ?_
 refine stP hf rfl rfl rfl (pA rfl) fun a hf => cNil ?_
 refine h1 _ _ ?_
 refine wp_seq_k fun K2 h2 => cReg ?_
 refine stP hf rfl rfl rfl (pM rfl) fun a hf => stP hf rfl rfl rfl (pM rfl) fun a hf => ?_
 obtain ⟨r,hr,hF⟩ := bnd_some hF
 refine stE hf hc rfl rfl rfl (eC (v := i6 r) (vs := [.slice s__p s_.length s__c,.func (.func 169) #[] #[pq b_]]) (caps := []) en_191 rfl rfl rfl rfl (fun w hc => (slices_IndexFunc_LLint_Lint_ok s_ f_ h_s_ h_f__People h_f__Stations ((hc.pick k1).pick k1) hr).mono fun e w h => ⟨h.1,((h.2.unpick k1).unpick k1)⟩)) fun a w hf hc => stP hf rfl rfl rfl (pGe rfl rfl) fun a hf => stP hf rfl rfl rfl (pA rfl) fun a hf => cNil ?_
 refine h2 _ _ ?_
 refine wp_ret ?_
 obtain rfl := sj hF
 exact fnOut1 (by simp) rfl Tryz.results168 hf hc (show look _ 4 = _ from rfl) ⟨rfl,hc⟩

def crew_every_Lint (N : Nat) (l : List (List Int)) (so : crew_Roster) : Option (Bool) :=
 Option.bind (slices_ContainsFunc_LLint_Lint N l so) fun r =>
 some (!r)
theorem crew_every_Lint_ok {N : Nat} {G : Pers} {Lf : List Ent} {w : World} (l : List (List Int)) (so : crew_Roster) {l_p : Option Addr} {l_c : Nat} {b_ : Nat} {so_People_p : Option Addr} {so_People_c : Nat} {so_Stations_p : Option Addr} {so_Stations_c : Nat} (h_l : RdT kd_25 G 1 l_p l_c l) (h_so_People : RdT kd_25 G 1 so_People_p so_People_c so.People) (h_so_Stations : RdT kd_101 G 2 so_Stations_p so_Stations_c so.Stations) (hc : Ctx G (.box b_ [.slice so_People_p so.People.length so_People_c,.slice so_Stations_p so.Stations.length so_Stations_c] 78::Lf) w) {res : Bool} (hF : crew_every_Lint N l so = some res) : Calls Tryz.prog 116 #[.slice l_p l.length l_c,.func (.func 117) #[] #[pq b_]] w (fun e w => e = .returned (.bool res) ∧ Ctx G (.box b_ [.slice so_People_p so.People.length so_People_c,.slice so_Stations_p so.Stations.length so_Stations_c] 78::Lf) w) := by
 unfold crew_every_Lint at hF
 refine fnIn (args := [.slice l_p l.length l_c,.func (.func 117) #[] #[pq b_]]) Tryz.func116 rfl Tryz.ntmps116 rfl fun a hf => wp_seq_k fun K1 h1 => cReg ?_
 refine stBx (cs := [.func (.func 117) #[] #[pq b_]]) hf hc rfl rfl rfl rfl fun b_1 a w hf hc => stP hf rfl rfl rfl (pA rfl) fun a hf => cNil ?_
 refine h1 _ _ ?_
 refine wp_seq_k fun K2 h2 => cReg ?_
 refine stP hf rfl rfl rfl (pM rfl) fun a hf => stP hf rfl rfl rfl (pMF (us := [pq b_1]) rfl rfl) fun a hf => ?_
 obtain ⟨r,hr,hF⟩ := bnd_some hF
 refine stE hf hc rfl rfl rfl (eC (v := .bool r) (vs := [.slice l_p l.length l_c,.func (.func 169) #[] #[pq b_1]]) (caps := []) en_168 rfl rfl rfl rfl (fun w hc => (slices_ContainsFunc_LLint_Lint_ok l so h_l h_so_People h_so_Stations ((hc.pick k1).pick k1) hr).mono fun e w h => ⟨h.1,((h.2.unpick k1).unpick k1)⟩)) fun a w hf hc => stP hf rfl rfl rfl (pNot rfl) fun a hf => stP hf rfl rfl rfl (pA rfl) fun a hf => cNil ?_
 refine h2 _ _ ?_
 refine wp_ret ?_
 obtain rfl := sj hF
 replace hc := hc.drop k0
 exact fnOut1 (by simp) rfl Tryz.results116 hf hc (show look _ 4 = _ from rfl) ⟨rfl,hc⟩

def crew_Check_2_1 (p_ : Int) (x : crew_Roster) : Bool :=
 (crew_in p_ 0 (W (((x.People.length : Nat) : Int) - 1)))
theorem crew_Check_2_1_ok {G : Pers} {Lf : List Ent} {w : World} (p_ : Int) (x : crew_Roster) {b_ : Nat} {x_People_p : Option Addr} {x_People_c : Nat} {x_Stations_p : Option Addr} {x_Stations_c : Nat} (h_x_People : RdT kd_25 G 1 x_People_p x_People_c x.People) (h_x_Stations : RdT kd_101 G 2 x_Stations_p x_Stations_c x.Stations) (hc : Ctx G (.box b_ [.slice x_People_p x.People.length x_People_c,.slice x_Stations_p x.Stations.length x_Stations_c] 78::Lf) w) {res : Bool} (hF : crew_Check_2_1 p_ x = res) : Calls Tryz.prog 121 #[i6 p_,pq b_] w (fun e w => e = .returned (.bool res) ∧ Ctx G (.box b_ [.slice x_People_p x.People.length x_People_c,.slice x_Stations_p x.Stations.length x_Stations_c] 78::Lf) w) := by
 unfold crew_Check_2_1 at hF
 refine fnIn (args := [i6 p_,pq b_]) Tryz.func121 rfl Tryz.ntmps121 rfl fun a hf => wp_seq_k fun K1 h1 => cReg ?_
 refine stP hf rfl rfl rfl (pA rfl) fun a hf => cNil ?_
 refine h1 _ _ ?_
 refine wp_seq_k fun K2 h2 => cReg ?_
 refine stP hf rfl rfl rfl (pM rfl) fun a hf => stP hf rfl rfl rfl (pFA fa_78_0 rfl) fun a hf => stE hf hc rfl rfl rfl (eLd1 sc_75 rfl (cell_box m0 rfl)) fun a w hf hc => stP hf rfl rfl rfl (pLenS Tryz.underlying75 rfl) fun a hf => stP hf rfl rfl rfl (pSub rfl rfl) fun a hf => stE hf hc rfl rfl rfl (eC (v := .bool (crew_in p_ 0 (W (((x.People.length : Nat) : Int) - 1)))) (vs := [i6 p_,i6 0,i6 (W (((x.People.length : Nat) : Int) - 1))]) (caps := []) en_86 rfl rfl rfl rfl (fun w hc => crew_in_ok p_ 0 (W (((x.People.length : Nat) : Int) - 1)) hc rfl)) fun a w hf hc => stP hf rfl rfl rfl (pA rfl) fun a hf => cNil ?_
 refine h2 _ _ ?_
 refine wp_ret ?_
 obtain rfl := hF
 exact fnOut1 (by simp) rfl Tryz.results121 hf hc (show look _ 3 = _ from rfl) ⟨rfl,hc⟩

def crew_every_int_1_s2 (x : Int) (x_1 : crew_Roster) : Bool :=
 (!(crew_Check_2_1 x x_1))
theorem crew_every_int_1_s2_ok {G : Pers} {Lf : List Ent} {w : World} (x : Int) (x_1 : crew_Roster) {b_ : Nat} {b__1 : Nat} {x_1_People_p : Option Addr} {x_1_People_c : Nat} {x_1_Stations_p : Option Addr} {x_1_Stations_c : Nat} (h_x_1_People : RdT kd_25 G 1 x_1_People_p x_1_People_c x_1.People) (h_x_1_Stations : RdT kd_101 G 2 x_1_Stations_p x_1_Stations_c x_1.Stations) (hc : Ctx G (.box b_ [.func (.func 121) #[] #[pq b__1]] 143::.box b__1 [.slice x_1_People_p x_1.People.length x_1_People_c,.slice x_1_Stations_p x_1.Stations.length x_1_Stations_c] 78::Lf) w) {res : Bool} (hF : crew_every_int_1_s2 x x_1 = res) : Calls Tryz.prog 157 #[i6 x,pq b_] w (fun e w => e = .returned (.bool res) ∧ Ctx G (.box b_ [.func (.func 121) #[] #[pq b__1]] 143::.box b__1 [.slice x_1_People_p x_1.People.length x_1_People_c,.slice x_1_Stations_p x_1.Stations.length x_1_Stations_c] 78::Lf) w) := by
 unfold crew_every_int_1_s2 at hF
 refine fnIn (args := [i6 x,pq b_]) Tryz.func157 rfl Tryz.ntmps157 rfl fun a hf => wp_seq_k fun K1 h1 => cReg ?_
 refine stP hf rfl rfl rfl (pA rfl) fun a hf => cNil ?_
 refine h1 _ _ ?_
 refine wp_seq_k fun K2 h2 => cReg ?_
 refine stE hf hc rfl rfl rfl (eLd1 sc_143 rfl (cell_box m0 rfl)) fun a w hf hc => stP hf rfl rfl rfl (pM rfl) fun a hf => stE hf hc rfl rfl rfl (eC (v := .bool (crew_Check_2_1 x x_1)) (vs := [i6 x]) (caps := [pq b__1]) en_121 rfl rfl rfl rfl (fun w hc => (crew_Check_2_1_ok x x_1 h_x_1_People h_x_1_Stations (hc.pick k1) rfl).mono fun e w h => ⟨h.1,(h.2.unpick k1)⟩)) fun a w hf hc => stP hf rfl rfl rfl (pNot rfl) fun a hf => stP hf rfl rfl rfl (pA rfl) fun a hf => cNil ?_
 refine h2 _ _ ?_
 refine wp_ret ?_
 obtain rfl := hF
 exact fnOut1 (by simp) rfl Tryz.results157 hf hc (show look _ 3 = _ from rfl) ⟨rfl,hc⟩

def slices_IndexFunc_Lint_int_s2_b4 (N : Nat) (s_ : List Int) (f_ : crew_Roster) (x : Int) : Option (Step (Int) (Int)) :=
 cond (decide (x < ((s_.length : Nat) : Int)))
 (Option.bind (getI s_ x) fun e_1 =>
 cond (crew_every_int_1_s2 e_1 f_)
 (some (.ret x))
 (some (.cont (W (x + 1)))))
 (some (.brk x))
def slices_IndexFunc_Lint_int_s2 (N : Nat) (s_ : List Int) (f_ : crew_Roster) : Option (Int) :=
 Option.bind (loopO (fun s4 => slices_IndexFunc_Lint_int_s2_b4 N s_ f_ s4) N 0) fun x4 =>
 exK x4 (fun s4 => some (-1)) some
theorem slices_IndexFunc_Lint_int_s2_ok {N : Nat} {G : Pers} {Lf : List Ent} {w : World} (s_ : List Int) (f_ : crew_Roster) {s__p : Option Addr} {s__c : Nat} {b_ : Nat} {b__1 : Nat} {f__People_p : Option Addr} {f__People_c : Nat} {f__Stations_p : Option Addr} {f__Stations_c : Nat} (h_s_ : Rd G 1 s__p s__c (s_.map encI_i64)) (h_f__People : RdT kd_25 G 1 f__People_p f__People_c f_.People) (h_f__Stations : RdT kd_101 G 2 f__Stations_p f__Stations_c f_.Stations) (hc : Ctx G (.box b_ [.func (.func 121) #[] #[pq b__1]] 143::.box b__1 [.slice f__People_p f_.People.length f__People_c,.slice f__Stations_p f_.Stations.length f__Stations_c] 78::Lf) w) {res : Int} (hF : slices_IndexFunc_Lint_int_s2 N s_ f_ = some res) : Calls Tryz.prog 97 #[.slice s__p s_.length s__c,.func (.func 157) #[] #[pq b_]] w (fun e w => e = .returned (i6 res) ∧ Ctx G (.box b_ [.func (.func 121) #[] #[pq b__1]] 143::.box b__1 [.slice f__People_p f_.People.length f__People_c,.slice f__Stations_p f_.Stations.length f__Stations_c] 78::Lf) w) := by
 unfold slices_IndexFunc_Lint_int_s2 at hF
 refine fnIn (args := [.slice s__p s_.length s__c,.func (.func 157) #[] #[pq b_]]) Tryz.func97 rfl Tryz.ntmps97 rfl fun a hf => wp_seq_k fun K1 h1 => cReg ?_
 refine stP hf rfl rfl rfl (pA rfl) fun a hf => cNil ?_
 refine h1 _ _ ?_
 refine wp_seq_k fun K2 h2 => wp_seq_k fun K3 h3 => cReg ?_
 refine stP hf rfl rfl rfl (pM rfl) fun a hf => stP hf rfl rfl rfl (pLenS Tryz.underlying25 rfl) fun a hf => stP hf rfl rfl rfl (pM rfl) fun a hf => cNil ?_
 refine h3 _ _ ?_
 refine wp_block ?_
 obtain ⟨x4,hx4,hF⟩ := bnd_some hF
 let S4 : Int → Act → World → Prop := (fun (zz : Int) a w => Has 19 a [(0,.slice s__p s_.length s__c),(1,.func (.func 157) #[] #[pq b_]),(7,i6 ((s_.length : Nat) : Int)),(8,i6 zz)] ∧ Ctx G (.box b_ [.func (.func 121) #[] #[pq b__1]] 143::.box b__1 [.slice f__People_p f_.People.length f__People_c,.slice f__Stations_p f_.Stations.length f__Stations_c] 78::Lf) w)
 have hr4 : ∀ (zz : Int) a w,x4 = .go zz → S4 zz a w → K2 a w := by
  rintro x a w rfl ⟨hf,hc⟩
  replace hF := exK_go hF
  refine h2 _ _ ?_
  refine wp_seq_k fun K5 h5 => cReg ?_
  refine stP hf rfl rfl rfl (pA rfl) fun a hf => cNil ?_
  refine h5 _ _ ?_
  refine wp_ret ?_
  obtain rfl := sj hF
  exact fnOut1 (by simp) rfl Tryz.results97 hf hc (show look _ 4 = _ from rfl) ⟨rfl,hc⟩
 have ho4 : ∀ r,x4 = .out r → r = res := by
  rintro r rfl
  exact sj hF
 refine cLoop N (loopW (S := S4) (x := x4) ?_ N 0 _ _ ⟨hf.kp rfl,hc⟩ hx4)
 clear hF hf hc
 rintro x st4 a w KB4 ⟨hf,hc⟩ hF hfin4 hK4
 unfold slices_IndexFunc_Lint_int_s2_b4 at hF
 refine wp_seq_k fun K6 h6 => cReg ?_
 refine stP hf rfl rfl rfl (pLt rfl rfl) fun a hf => cNil ?_
 refine h6 _ _ ?_
 refine wp_seq_k fun K7 h7 => cCond (b := (decide (x < ((s_.length : Nat) : Int)))) hf rfl (fun hb => ?_) (fun hb => ?_)
 ·replace hF := condT hb hF
  clear hb
  refine wp_skip ?_
  refine h7 _ _ ?_
  refine wp_seq_k fun K8 h8 => wp_block ?_
  refine wp_seq_k fun K9 h9 => cReg ?_
  refine stP hf rfl rfl rfl (pM rfl) fun a hf => stP hf rfl rfl rfl (pA rfl) fun a hf => cNil ?_
  refine h9 _ _ ?_
  refine wp_seq_k fun K10 h10 => cReg ?_
  refine stP hf rfl rfl rfl (pM rfl) fun a hf => stP hf rfl rfl rfl (pM rfl) fun a hf => stP hf rfl rfl rfl (pM rfl) fun a hf => ?_
  obtain ⟨e_1,he_1,hF⟩ := bnd_some hF
  obtain ⟨b_1,o,qa,qp⟩ := h_s_.atm he_1
  refine stP hf rfl rfl rfl (pIA Tryz.underlying25 sz_3 rfl rfl qa) fun a hf => stE hf hc rfl rfl rfl (eLd1 sc_3 rfl (cell_pc (j := 0) qp rfl)) fun a w hf hc => stE hf hc rfl rfl rfl (eC (v := .bool (crew_every_int_1_s2 e_1 f_)) (vs := [i6 e_1]) (caps := [pq b_]) en_157 rfl rfl rfl rfl (fun w hc => (crew_every_int_1_s2_ok e_1 f_ h_f__People h_f__Stations ((hc.pick k1).pick k1) rfl).mono fun e w h => ⟨h.1,((h.2.unpick k1).unpick k1)⟩)) fun a w hf hc => cNil ?_
  refine h10 _ _ ?_
  refine cCond (b := (crew_every_int_1_s2 e_1 f_)) hf rfl (fun hb => ?_) (fun hb => ?_)
  ·replace hF := condT hb hF
   clear hb
   refine wp_seq_k fun K11 h11 => cReg ?_
   refine stP hf rfl rfl rfl (pM rfl) fun a hf => stP hf rfl rfl rfl (pA rfl) fun a hf => cNil ?_
   refine h11 _ _ ?_
   refine wp_ret ?_
   refine xBlkR ?_
   refine xThenR ?_
   refine xThenR ?_
   have he := sj hF
   rw [← he] at hfin4
   replace hF := ho4 _ hfin4
   refine xBlkR ?_
   refine xThenR ?_
   obtain rfl := hF
   exact fnOut1 (by simp) rfl Tryz.results97 hf hc (show look _ 4 = _ from rfl) ⟨rfl,hc⟩
  ·replace hF := condF hb hF
   clear hb
   refine wp_skip ?_
   refine h8 _ _ ?_
   refine cReg ?_
   refine stP hf rfl rfl rfl (pAdd rfl rfl) fun a hf => stP hf rfl rfl rfl (pM rfl) fun a hf => cNil ?_
   exact hK4 (W (x + 1)) _ _ (sj hF).symm ⟨hf.kp rfl,hc⟩
 ·replace hF := condF hb hF
  clear hb
  refine wp_exit ?_
  refine xThen ?_
  refine xThen ?_
  have he := sj hF
  rw [← he] at hfin4
  refine cHit ?_
  exact hr4 _ _ _ hfin4 ⟨hf.kp rfl,hc⟩

def slices_ContainsFunc_Lint_int_s2 (N : Nat) (s_ : List Int) (f_ : crew_Roster) : Option (Bool) :=
 Option.bind (slices_IndexFunc_Lint_int_s2 N s_ f_) fun r =>
 some (decide (0 ≤ r))
theorem slices_ContainsFunc_Lint_int_s2_ok {N : Nat} {G : Pers} {Lf : List Ent} {w : World} (s_ : List Int) (f_ : crew_Roster) {s__p : Option Addr} {s__c : Nat} {b_ : Nat} {b__1 : Nat} {f__People_p : Option Addr} {f__People_c : Nat} {f__Stations_p : Option Addr} {f__Stations_c : Nat} (h_s_ : Rd G 1 s__p s__c (s_.map encI_i64)) (h_f__People : RdT kd_25 G 1 f__People_p f__People_c f_.People) (h_f__Stations : RdT kd_101 G 2 f__Stations_p f__Stations_c f_.Stations) (hc : Ctx G (.box b_ [.func (.func 121) #[] #[pq b__1]] 143::.box b__1 [.slice f__People_p f_.People.length f__People_c,.slice f__Stations_p f_.Stations.length f__Stations_c] 78::Lf) w) {res : Bool} (hF : slices_ContainsFunc_Lint_int_s2 N s_ f_ = some res) : Calls Tryz.prog 113 #[.slice s__p s_.length s__c,.func (.func 157) #[] #[pq b_]] w (fun e w => e = .returned (.bool res) ∧ Ctx G (.box b_ [.func (.func 121) #[] #[pq b__1]] 143::.box b__1 [.slice f__People_p f_.People.length f__People_c,.slice f__Stations_p f_.Stations.length f__Stations_c] 78::Lf) w) := by
 unfold slices_ContainsFunc_Lint_int_s2 at hF
 refine fnIn (args := [.slice s__p s_.length s__c,.func (.func 157) #[] #[pq b_]]) Tryz.func113 rfl Tryz.ntmps113 rfl fun a hf => wp_seq_k fun K1 h1 => cReg ?_
 refine stP hf rfl rfl rfl (pA rfl) fun a hf => cNil ?_
 refine h1 _ _ ?_
 refine wp_seq_k fun K2 h2 => cReg ?_
 refine stP hf rfl rfl rfl (pM rfl) fun a hf => stP hf rfl rfl rfl (pM rfl) fun a hf => ?_
 obtain ⟨r,hr,hF⟩ := bnd_some hF
 refine stE hf hc rfl rfl rfl (eC (v := i6 r) (vs := [.slice s__p s_.length s__c,.func (.func 157) #[] #[pq b_]]) (caps := []) en_97 rfl rfl rfl rfl (fun w hc => (slices_IndexFunc_Lint_int_s2_ok s_ f_ h_s_ h_f__People h_f__Stations ((hc.pick k1).pick k1) hr).mono fun e w h => ⟨h.1,((h.2.unpick k1).unpick k1)⟩)) fun a w hf hc => stP hf rfl rfl rfl (pGe rfl rfl) fun a hf => stP hf rfl rfl rfl (pA rfl) fun a hf => cNil ?_
 refine h2 _ _ ?_
 refine wp_ret ?_
 obtain rfl := sj hF
 exact fnOut1 (by simp) rfl Tryz.results113 hf hc (show look _ 4 = _ from rfl) ⟨rfl,hc⟩

def crew_every_int_s2 (N : Nat) (l : List Int) (so : crew_Roster) : Option (Bool) :=
 Option.bind (slices_ContainsFunc_Lint_int_s2 N l so) fun r =>
 some (!r)
theorem crew_every_int_s2_ok {N : Nat} {G : Pers} {Lf : List Ent} {w : World} (l : List Int) (so : crew_Roster) {l_p : Option Addr} {l_c : Nat} {b_ : Nat} {so_People_p : Option Addr} {so_People_c : Nat} {so_Stations_p : Option Addr} {so_Stations_c : Nat} (h_l : Rd G 1 l_p l_c (l.map encI_i64)) (h_so_People : RdT kd_25 G 1 so_People_p so_People_c so.People) (h_so_Stations : RdT kd_101 G 2 so_Stations_p so_Stations_c so.Stations) (hc : Ctx G (.box b_ [.slice so_People_p so.People.length so_People_c,.slice so_Stations_p so.Stations.length so_Stations_c] 78::Lf) w) {res : Bool} (hF : crew_every_int_s2 N l so = some res) : Calls Tryz.prog 87 #[.slice l_p l.length l_c,.func (.func 121) #[] #[pq b_]] w (fun e w => e = .returned (.bool res) ∧ Ctx G (.box b_ [.slice so_People_p so.People.length so_People_c,.slice so_Stations_p so.Stations.length so_Stations_c] 78::Lf) w) := by
 unfold crew_every_int_s2 at hF
 refine fnIn (args := [.slice l_p l.length l_c,.func (.func 121) #[] #[pq b_]]) Tryz.func87 rfl Tryz.ntmps87 rfl fun a hf => wp_seq_k fun K1 h1 => cReg ?_
 refine stBx (cs := [.func (.func 121) #[] #[pq b_]]) hf hc rfl rfl rfl rfl fun b_1 a w hf hc => stP hf rfl rfl rfl (pA rfl) fun a hf => cNil ?_
 refine h1 _ _ ?_
 refine wp_seq_k fun K2 h2 => cReg ?_
 refine stP hf rfl rfl rfl (pM rfl) fun a hf => stP hf rfl rfl rfl (pMF (us := [pq b_1]) rfl rfl) fun a hf => ?_
 obtain ⟨r,hr,hF⟩ := bnd_some hF
 refine stE hf hc rfl rfl rfl (eC (v := .bool r) (vs := [.slice l_p l.length l_c,.func (.func 157) #[] #[pq b_1]]) (caps := []) en_113 rfl rfl rfl rfl (fun w hc => (slices_ContainsFunc_Lint_int_s2_ok l so h_l h_so_People h_so_Stations ((hc.pick k1).pick k1) hr).mono fun e w h => ⟨h.1,((h.2.unpick k1).unpick k1)⟩)) fun a w hf hc => stP hf rfl rfl rfl (pNot rfl) fun a hf => stP hf rfl rfl rfl (pA rfl) fun a hf => cNil ?_
 refine h2 _ _ ?_
 refine wp_ret ?_
 obtain rfl := sj hF
 replace hc := hc.drop k0
 exact fnOut1 (by simp) rfl Tryz.results87 hf hc (show look _ 4 = _ from rfl) ⟨rfl,hc⟩

def crew_Check_2 (N : Nat) (s_ : crew_Station) (x : crew_Roster) : Option (Bool) :=
 Option.bind (cond (crew_in s_.Places 1 12) (Option.bind (crew_every_int_s2 N s_.Order (⟨x.People,x.Stations⟩ : crew_Roster)) fun r =>
 some r) (some false)) fun t_1 =>
 some t_1
theorem crew_Check_2_ok {N : Nat} {G : Pers} {Lf : List Ent} {w : World} (s_ : crew_Station) (x : crew_Roster) {s__Order_p : Option Addr} {s__Order_c : Nat} {b_ : Nat} {x_People_p : Option Addr} {x_People_c : Nat} {x_Stations_p : Option Addr} {x_Stations_c : Nat} (h_s__Order : Rd G 1 s__Order_p s__Order_c (s_.Order.map encI_i64)) (h_x_People : RdT kd_25 G 1 x_People_p x_People_c x.People) (h_x_Stations : RdT kd_101 G 2 x_Stations_p x_Stations_c x.Stations) (hc : Ctx G (.box b_ [.slice x_People_p x.People.length x_People_c,.slice x_Stations_p x.Stations.length x_Stations_c] 78::Lf) w) {res : Bool} (hF : crew_Check_2 N s_ x = some res) : Calls Tryz.prog 120 #[.agg #[i6 s_.Places,.slice s__Order_p s_.Order.length s__Order_c],pq b_] w (fun e w => e = .returned (.bool res) ∧ Ctx G (.box b_ [.slice x_People_p x.People.length x_People_c,.slice x_Stations_p x.Stations.length x_Stations_c] 78::Lf) w) := by
 unfold crew_Check_2 at hF
 refine fnIn (args := [.agg #[i6 s_.Places,.slice s__Order_p s_.Order.length s__Order_c],pq b_]) Tryz.func120 rfl Tryz.ntmps120 rfl fun a hf => wp_seq_k fun K1 h1 => cReg ?_
 refine stBx (cs := [i6 s_.Places,.slice s__Order_p s_.Order.length s__Order_c]) hf hc rfl rfl rfl rfl fun b_1 a w hf hc => stP hf rfl rfl rfl (pA rfl) fun a hf => cNil ?_
 refine h1 _ _ ?_
 refine wp_seq_k fun K2 h2 => cReg ?_
 refine stP hf rfl rfl rfl (pFA fa_101_0 rfl) fun a hf => stE hf hc rfl rfl rfl (eLd1 sc_3 rfl (cell_box m0 rfl)) fun a w hf hc => stE hf hc rfl rfl rfl (eC (v := .bool (crew_in s_.Places 1 12)) (vs := [i6 s_.Places,i6 1,i6 12]) (caps := []) en_86 rfl rfl rfl rfl (fun w hc => crew_in_ok s_.Places 1 12 hc rfl)) fun a w hf hc => stP hf rfl rfl rfl (pM rfl) fun a hf => ?_
 obtain ⟨t_1,ht_1,hF⟩ := bnd_some hF
 refine stCut 5 (fun a w => Has 13 a [(1,pq b_),(2,pq b_1),(3,.bool false),(4,pq b_1),(5,i6 s_.Places),(6,.bool (crew_in s_.Places 1 12)),(7,.bool (crew_in s_.Places 1 12)),(12,.bool t_1)] ∧ Ctx G (.box b_1 [i6 s_.Places,.slice s__Order_p s_.Order.length s__Order_c] 101::.box b_ [.slice x_People_p x.People.length x_People_c,.slice x_Stations_p x.Stations.length x_Stations_c] 78::Lf) w) ?_ ?_
 ·cases hb : (crew_in s_.Places 1 12)
  ·rw [hb] at hf
   have hF := condF hb ht_1
   obtain rfl := sj hF
   refine stS hf rfl rfl rfl fun a hf => stS hf rfl rfl rfl fun a hf => stS hf rfl rfl rfl fun a hf => stS hf rfl rfl rfl fun a hf => stP hf rfl rfl rfl (pPf rfl rfl) fun a hf => cNil ⟨hf.kp rfl,hc⟩
  ·rw [hb] at hf
   have hF := condT hb ht_1
   refine stP hf rfl rfl rfl (pFA fa_101_1 rfl) fun a hf => stE hf hc rfl rfl rfl (eLd1 sc_25 rfl (cell_box m0 rfl)) fun a w hf hc => stP hf rfl rfl rfl (pMF (us := [pq b_]) rfl rfl) fun a hf => ?_
   obtain ⟨r,hr,hF⟩ := bnd_some hF
   refine stE hf hc rfl rfl rfl (eC (v := .bool r) (vs := [.slice s__Order_p s_.Order.length s__Order_c,.func (.func 121) #[] #[pq b_]]) (caps := []) en_87 rfl rfl rfl rfl (fun w hc => (crew_every_int_s2_ok s_.Order (⟨x.People,x.Stations⟩ : crew_Roster) h_s__Order h_x_People h_x_Stations (hc.pick k1) hr).mono fun e w h => ⟨h.1,(h.2.unpick k1)⟩)) fun a w hf hc => stP hf rfl rfl rfl (pPt rfl rfl) fun a hf => ?_
   obtain rfl := sj hF
   exact cNil ⟨hf.kp rfl,hc⟩
 intro a w ⟨hf,hc⟩
 refine stP hf rfl rfl rfl (pA rfl) fun a hf => cNil ?_
 refine h2 _ _ ?_
 refine wp_ret ?_
 obtain rfl := sj hF
 replace hc := hc.drop k0
 exact fnOut1 (by simp) rfl Tryz.results120 hf hc (show look _ 3 = _ from rfl) ⟨rfl,hc⟩

def crew_every_crew_Station_1 (N : Nat) (x : crew_Station) (x_1 : crew_Roster) : Option (Bool) :=
 Option.bind (crew_Check_2 N x x_1) fun r =>
 some (!r)
theorem crew_every_crew_Station_1_ok {N : Nat} {G : Pers} {Lf : List Ent} {w : World} (x : crew_Station) (x_1 : crew_Roster) {x_Order_p : Option Addr} {x_Order_c : Nat} {b_ : Nat} {b__1 : Nat} {x_1_People_p : Option Addr} {x_1_People_c : Nat} {x_1_Stations_p : Option Addr} {x_1_Stations_c : Nat} (h_x_Order : Rd G 1 x_Order_p x_Order_c (x.Order.map encI_i64)) (h_x_1_People : RdT kd_25 G 1 x_1_People_p x_1_People_c x_1.People) (h_x_1_Stations : RdT kd_101 G 2 x_1_Stations_p x_1_Stations_c x_1.Stations) (hc : Ctx G (.box b_ [.func (.func 120) #[] #[pq b__1]] 187::.box b__1 [.slice x_1_People_p x_1.People.length x_1_People_c,.slice x_1_Stations_p x_1.Stations.length x_1_Stations_c] 78::Lf) w) {res : Bool} (hF : crew_every_crew_Station_1 N x x_1 = some res) : Calls Tryz.prog 171 #[.agg #[i6 x.Places,.slice x_Order_p x.Order.length x_Order_c],pq b_] w (fun e w => e = .returned (.bool res) ∧ Ctx G (.box b_ [.func (.func 120) #[] #[pq b__1]] 187::.box b__1 [.slice x_1_People_p x_1.People.length x_1_People_c,.slice x_1_Stations_p x_1.Stations.length x_1_Stations_c] 78::Lf) w) := by
 unfold crew_every_crew_Station_1 at hF
 refine fnIn (args := [.agg #[i6 x.Places,.slice x_Order_p x.Order.length x_Order_c],pq b_]) Tryz.func171 rfl Tryz.ntmps171 rfl fun a hf => wp_seq_k fun K1 h1 => cReg ?_
 refine stBx (cs := [i6 x.Places,.slice x_Order_p x.Order.length x_Order_c]) hf hc rfl rfl rfl rfl fun b_1 a w hf hc => stP hf rfl rfl rfl (pA rfl) fun a hf => cNil ?_
 refine h1 _ _ ?_
 refine wp_seq_k fun K2 h2 => cReg ?_
 refine stE hf hc rfl rfl rfl (eLd1 sc_187 rfl (cell_box m1 rfl)) fun a w hf hc => stE hf hc rfl rfl rfl (eLdN (vs := [i6 x.Places,.slice x_Order_p x.Order.length x_Order_c]) ag_101 rfl rfl (cells_box (n := 2) m0 rfl)) fun a w hf hc => ?_
 obtain ⟨r,hr,hF⟩ := bnd_some hF
 refine stE hf hc rfl rfl rfl (eC (v := .bool r) (vs := [.agg #[i6 x.Places,.slice x_Order_p x.Order.length x_Order_c]]) (caps := [pq b__1]) en_120 rfl rfl rfl rfl (fun w hc => (crew_Check_2_ok x x_1 h_x_Order h_x_1_People h_x_1_Stations (hc.pick k2) hr).mono fun e w h => ⟨h.1,(h.2.unpick k2)⟩)) fun a w hf hc => stP hf rfl rfl rfl (pNot rfl) fun a hf => stP hf rfl rfl rfl (pA rfl) fun a hf => cNil ?_
 refine h2 _ _ ?_
 refine wp_ret ?_
 obtain rfl := sj hF
 replace hc := hc.drop k0
 exact fnOut1 (by simp) rfl Tryz.results171 hf hc (show look _ 3 = _ from rfl) ⟨rfl,hc⟩

def slices_IndexFunc_Lcrew_Station_crew_Station_b4 (N : Nat) (s_ : List crew_Station) (f_ : crew_Roster) (x : Int) : Option (Step (Int) (Int)) :=
 cond (decide (x < ((s_.length : Nat) : Int)))
 (Option.bind (getI s_ x) fun e_1 =>
 Option.bind (crew_every_crew_Station_1 N e_1 f_) fun r =>
 cond r
 (some (.ret x))
 (some (.cont (W (x + 1)))))
 (some (.brk x))
def slices_IndexFunc_Lcrew_Station_crew_Station (N : Nat) (s_ : List crew_Station) (f_ : crew_Roster) : Option (Int) :=
 Option.bind (loopO (fun s4 => slices_IndexFunc_Lcrew_Station_crew_Station_b4 N s_ f_ s4) N 0) fun x4 =>
 exK x4 (fun s4 => some (-1)) some
theorem slices_IndexFunc_Lcrew_Station_crew_Station_ok {N : Nat} {G : Pers} {Lf : List Ent} {w : World} (s_ : List crew_Station) (f_ : crew_Roster) {s__p : Option Addr} {s__c : Nat} {b_ : Nat} {b__1 : Nat} {f__People_p : Option Addr} {f__People_c : Nat} {f__Stations_p : Option Addr} {f__Stations_c : Nat} (h_s_ : RdT kd_101 G 2 s__p s__c s_) (h_f__People : RdT kd_25 G 1 f__People_p f__People_c f_.People) (h_f__Stations : RdT kd_101 G 2 f__Stations_p f__Stations_c f_.Stations) (hc : Ctx G (.box b_ [.func (.func 120) #[] #[pq b__1]] 187::.box b__1 [.slice f__People_p f_.People.length f__People_c,.slice f__Stations_p f_.Stations.length f__Stations_c] 78::Lf) w) {res : Int} (hF : slices_IndexFunc_Lcrew_Station_crew_Station N s_ f_ = some res) : Calls Tryz.prog 192 #[.slice s__p s_.length s__c,.func (.func 171) #[] #[pq b_]] w (fun e w => e = .returned (i6 res) ∧ Ctx G (.box b_ [.func (.func 120) #[] #[pq b__1]] 187::.box b__1 [.slice f__People_p f_.People.length f__People_c,.slice f__Stations_p f_.Stations.length f__Stations_c] 78::Lf) w) := by
 unfold slices_IndexFunc_Lcrew_Station_crew_Station at hF
 refine fnIn (args := [.slice s__p s_.length s__c,.func (.func 171) #[] #[pq b_]]) Tryz.func192 rfl Tryz.ntmps192 rfl fun a hf => wp_seq_k fun K1 h1 => cReg ?_
 refine stP hf rfl rfl rfl (pA rfl) fun a hf => cNil ?_
 refine h1 _ _ ?_
 refine wp_seq_k fun K2 h2 => wp_seq_k fun K3 h3 => cReg ?_
 refine stP hf rfl rfl rfl (pM rfl) fun a hf => stP hf rfl rfl rfl (pLenS Tryz.underlying76 rfl) fun a hf => stP hf rfl rfl rfl (pM rfl) fun a hf => cNil ?_
 refine h3 _ _ ?_
 refine wp_block ?_
 obtain ⟨x4,hx4,hF⟩ := bnd_some hF
 let S4 : Int → Act → World → Prop := (fun (zz : Int) a w => Has 19 a [(0,.slice s__p s_.length s__c),(1,.func (.func 171) #[] #[pq b_]),(7,i6 ((s_.length : Nat) : Int)),(8,i6 zz)] ∧ Ctx G (.box b_ [.func (.func 120) #[] #[pq b__1]] 187::.box b__1 [.slice f__People_p f_.People.length f__People_c,.slice f__Stations_p f_.Stations.length f__Stations_c] 78::Lf) w)
 have hr4 : ∀ (zz : Int) a w,x4 = .go zz → S4 zz a w → K2 a w := by
  rintro x a w rfl ⟨hf,hc⟩
  replace hF := exK_go hF
  refine h2 _ _ ?_
  refine wp_seq_k fun K5 h5 => cReg ?_
  refine stP hf rfl rfl rfl (pA rfl) fun a hf => cNil ?_
  refine h5 _ _ ?_
  refine wp_ret ?_
  obtain rfl := sj hF
  exact fnOut1 (by simp) rfl Tryz.results192 hf hc (show look _ 4 = _ from rfl) ⟨rfl,hc⟩
 have ho4 : ∀ r,x4 = .out r → r = res := by
  rintro r rfl
  exact sj hF
 refine cLoop N (loopW (S := S4) (x := x4) ?_ N 0 _ _ ⟨hf.kp rfl,hc⟩ hx4)
 clear hF hf hc
 rintro x st4 a w KB4 ⟨hf,hc⟩ hF hfin4 hK4
 unfold slices_IndexFunc_Lcrew_Station_crew_Station_b4 at hF
 refine wp_seq_k fun K6 h6 => cReg ?_
 refine stP hf rfl rfl rfl (pLt rfl rfl) fun a hf => cNil ?_
 refine h6 _ _ ?_
 refine wp_seq_k fun K7 h7 => cCond (b := (decide (x < ((s_.length : Nat) : Int)))) hf rfl (fun hb => ?_) (fun hb => ?_)
 ·replace hF := condT hb hF
  clear hb
  refine wp_skip ?_
  refine h7 _ _ ?_
  refine wp_seq_k fun K8 h8 => wp_block ?_
  refine wp_seq_k fun K9 h9 => cReg ?_
  refine stP hf rfl rfl rfl (pM rfl) fun a hf => stP hf rfl rfl rfl (pA rfl) fun a hf => cNil ?_
  refine h9 _ _ ?_
  refine wp_seq_k fun K10 h10 => cReg ?_
  refine stP hf rfl rfl rfl (pM rfl) fun a hf => stP hf rfl rfl rfl (pM rfl) fun a hf => stP hf rfl rfl rfl (pM rfl) fun a hf => ?_
  obtain ⟨e_1,he_1,hF⟩ := bnd_some hF
  obtain ⟨b_1,o,hd,qa,qp,qr⟩ := h_s_.atm he_1
  refine stP hf rfl rfl rfl (pIA Tryz.underlying76 sz_101 rfl rfl qa) fun a hf => stE hf hc rfl rfl rfl (eLdN (vs := [i6 e_1.Places,.slice hd.1 e_1.Order.length hd.2]) ag_101 rfl rfl (cells_pc qp (n := 2) (o' := 0) rfl)) fun a w hf hc => ?_
  obtain ⟨r,hr,hF⟩ := bnd_some hF
  refine stE hf hc rfl rfl rfl (eC (v := .bool r) (vs := [.agg #[i6 e_1.Places,.slice hd.1 e_1.Order.length hd.2]]) (caps := [pq b_]) en_171 rfl rfl rfl rfl (fun w hc => (crew_every_crew_Station_1_ok e_1 f_ qr h_f__People h_f__Stations ((hc.pick k1).pick k1) hr).mono fun e w h => ⟨h.1,((h.2.unpick k1).unpick k1)⟩)) fun a w hf hc => cNil ?_
  refine h10 _ _ ?_
  refine cCond (b := r) hf rfl (fun hb => ?_) (fun hb => ?_)
  ·replace hF := condT hb hF
   clear hb
   refine wp_seq_k fun K11 h11 => cReg ?_
   refine stP hf rfl rfl rfl (pM rfl) fun a hf => stP hf rfl rfl rfl (pA rfl) fun a hf => cNil ?_
   refine h11 _ _ ?_
   refine wp_ret ?_
   refine xBlkR ?_
   refine xThenR ?_
   refine xThenR ?_
   have he := sj hF
   rw [← he] at hfin4
   replace hF := ho4 _ hfin4
   refine xBlkR ?_
   refine xThenR ?_
   obtain rfl := hF
   exact fnOut1 (by simp) rfl Tryz.results192 hf hc (show look _ 4 = _ from rfl) ⟨rfl,hc⟩
  ·replace hF := condF hb hF
   clear hb
   refine wp_skip ?_
   refine h8 _ _ ?_
   refine cReg ?_
   refine stP hf rfl rfl rfl (pAdd rfl rfl) fun a hf => stP hf rfl rfl rfl (pM rfl) fun a hf => cNil ?_
   exact hK4 (W (x + 1)) _ _ (sj hF).symm ⟨hf.kp rfl,hc⟩
 ·replace hF := condF hb hF
  clear hb
  refine wp_exit ?_
  refine xThen ?_
  refine xThen ?_
  have he := sj hF
  rw [← he] at hfin4
  refine cHit ?_
  exact hr4 _ _ _ hfin4 ⟨hf.kp rfl,hc⟩

def slices_ContainsFunc_Lcrew_Station_crew_Station (N : Nat) (s_ : List crew_Station) (f_ : crew_Roster) : Option (Bool) :=
 Option.bind (slices_IndexFunc_Lcrew_Station_crew_Station N s_ f_) fun r =>
 some (decide (0 ≤ r))
theorem slices_ContainsFunc_Lcrew_Station_crew_Station_ok {N : Nat} {G : Pers} {Lf : List Ent} {w : World} (s_ : List crew_Station) (f_ : crew_Roster) {s__p : Option Addr} {s__c : Nat} {b_ : Nat} {b__1 : Nat} {f__People_p : Option Addr} {f__People_c : Nat} {f__Stations_p : Option Addr} {f__Stations_c : Nat} (h_s_ : RdT kd_101 G 2 s__p s__c s_) (h_f__People : RdT kd_25 G 1 f__People_p f__People_c f_.People) (h_f__Stations : RdT kd_101 G 2 f__Stations_p f__Stations_c f_.Stations) (hc : Ctx G (.box b_ [.func (.func 120) #[] #[pq b__1]] 187::.box b__1 [.slice f__People_p f_.People.length f__People_c,.slice f__Stations_p f_.Stations.length f__Stations_c] 78::Lf) w) {res : Bool} (hF : slices_ContainsFunc_Lcrew_Station_crew_Station N s_ f_ = some res) : Calls Tryz.prog 170 #[.slice s__p s_.length s__c,.func (.func 171) #[] #[pq b_]] w (fun e w => e = .returned (.bool res) ∧ Ctx G (.box b_ [.func (.func 120) #[] #[pq b__1]] 187::.box b__1 [.slice f__People_p f_.People.length f__People_c,.slice f__Stations_p f_.Stations.length f__Stations_c] 78::Lf) w) := by
 unfold slices_ContainsFunc_Lcrew_Station_crew_Station at hF
 refine fnIn (args := [.slice s__p s_.length s__c,.func (.func 171) #[] #[pq b_]]) Tryz.func170 rfl Tryz.ntmps170 rfl fun a hf => wp_seq_k fun K1 h1 => cReg ?_
 refine stP hf rfl rfl rfl (pA rfl) fun a hf => cNil ?_
 refine h1 _ _ ?_
 refine wp_seq_k fun K2 h2 => cReg ?_
 refine stP hf rfl rfl rfl (pM rfl) fun a hf => stP hf rfl rfl rfl (pM rfl) fun a hf => ?_
 obtain ⟨r,hr,hF⟩ := bnd_some hF
 refine stE hf hc rfl rfl rfl (eC (v := i6 r) (vs := [.slice s__p s_.length s__c,.func (.func 171) #[] #[pq b_]]) (caps := []) en_192 rfl rfl rfl rfl (fun w hc => (slices_IndexFunc_Lcrew_Station_crew_Station_ok s_ f_ h_s_ h_f__People h_f__Stations ((hc.pick k1).pick k1) hr).mono fun e w h => ⟨h.1,((h.2.unpick k1).unpick k1)⟩)) fun a w hf hc => stP hf rfl rfl rfl (pGe rfl rfl) fun a hf => stP hf rfl rfl rfl (pA rfl) fun a hf => cNil ?_
 refine h2 _ _ ?_
 refine wp_ret ?_
 obtain rfl := sj hF
 exact fnOut1 (by simp) rfl Tryz.results170 hf hc (show look _ 4 = _ from rfl) ⟨rfl,hc⟩

def crew_every_crew_Station (N : Nat) (l : List crew_Station) (so : crew_Roster) : Option (Bool) :=
 Option.bind (slices_ContainsFunc_Lcrew_Station_crew_Station N l so) fun r =>
 some (!r)
theorem crew_every_crew_Station_ok {N : Nat} {G : Pers} {Lf : List Ent} {w : World} (l : List crew_Station) (so : crew_Roster) {l_p : Option Addr} {l_c : Nat} {b_ : Nat} {so_People_p : Option Addr} {so_People_c : Nat} {so_Stations_p : Option Addr} {so_Stations_c : Nat} (h_l : RdT kd_101 G 2 l_p l_c l) (h_so_People : RdT kd_25 G 1 so_People_p so_People_c so.People) (h_so_Stations : RdT kd_101 G 2 so_Stations_p so_Stations_c so.Stations) (hc : Ctx G (.box b_ [.slice so_People_p so.People.length so_People_c,.slice so_Stations_p so.Stations.length so_Stations_c] 78::Lf) w) {res : Bool} (hF : crew_every_crew_Station N l so = some res) : Calls Tryz.prog 119 #[.slice l_p l.length l_c,.func (.func 120) #[] #[pq b_]] w (fun e w => e = .returned (.bool res) ∧ Ctx G (.box b_ [.slice so_People_p so.People.length so_People_c,.slice so_Stations_p so.Stations.length so_Stations_c] 78::Lf) w) := by
 unfold crew_every_crew_Station at hF
 refine fnIn (args := [.slice l_p l.length l_c,.func (.func 120) #[] #[pq b_]]) Tryz.func119 rfl Tryz.ntmps119 rfl fun a hf => wp_seq_k fun K1 h1 => cReg ?_
 refine stBx (cs := [.func (.func 120) #[] #[pq b_]]) hf hc rfl rfl rfl rfl fun b_1 a w hf hc => stP hf rfl rfl rfl (pA rfl) fun a hf => cNil ?_
 refine h1 _ _ ?_
 refine wp_seq_k fun K2 h2 => cReg ?_
 refine stP hf rfl rfl rfl (pM rfl) fun a hf => stP hf rfl rfl rfl (pMF (us := [pq b_1]) rfl rfl) fun a hf => ?_
 obtain ⟨r,hr,hF⟩ := bnd_some hF
 refine stE hf hc rfl rfl rfl (eC (v := .bool r) (vs := [.slice l_p l.length l_c,.func (.func 171) #[] #[pq b_1]]) (caps := []) en_170 rfl rfl rfl rfl (fun w hc => (slices_ContainsFunc_Lcrew_Station_crew_Station_ok l so h_l h_so_People h_so_Stations ((hc.pick k1).pick k1) hr).mono fun e w h => ⟨h.1,((h.2.unpick k1).unpick k1)⟩)) fun a w hf hc => stP hf rfl rfl rfl (pNot rfl) fun a hf => stP hf rfl rfl rfl (pA rfl) fun a hf => cNil ?_
 refine h2 _ _ ?_
 refine wp_ret ?_
 obtain rfl := sj hF
 replace hc := hc.drop k0
 exact fnOut1 (by simp) rfl Tryz.results119 hf hc (show look _ 4 = _ from rfl) ⟨rfl,hc⟩

end Go.Nilo
