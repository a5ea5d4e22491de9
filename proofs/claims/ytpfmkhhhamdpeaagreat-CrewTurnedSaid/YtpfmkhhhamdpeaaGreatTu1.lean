/-
 What functions of the Go text compute, as plain functions, and that they do, part 1 of 5. Conditions: what each theorem names.
-/
import Derived.Test.YtpfmkhhhamdpeaaGreatNl28
import Derived.Test.YtpfmkhhhamdpeaaGreatProg
set_option linter.unusedVariables false
set_option linter.unusedSimpArgs false
set_option maxRecDepth 100000
set_option maxHeartbeats 4000000
namespace Go.Nilo
open Go.Proofs


structure kit_Stream where
 bytes : List Int
 used : Int
 mix : Int

structure share_quotient where
 claim : Int
 by_ : Int
@[reducible] def enc_share_quotient (x : share_quotient) : List Value := [i6 x.claim,i6 x.by_]
theorem one_enc_share_quotient : ∀ x,(enc_share_quotient x).length = 2 ∧ ones (enc_share_quotient x) = true := fun _ => ⟨rfl,rfl⟩

structure crew_Station where
 Places : Int
 Order : List Int

structure crew_Roster where
 People : List (List Int)
 Stations : List crew_Station

structure crew_work where
 Roster : crew_Roster
 rank : Nat → Int

structure crew_Refusal where
 Person : Int
 Station : Int
@[reducible] def enc_crew_Refusal (x : crew_Refusal) : List Value := [i6 x.Person,i6 x.Station]
theorem one_enc_crew_Refusal : ∀ x,(enc_crew_Refusal x).length = 2 ∧ ones (enc_crew_Refusal x) = true := fun _ => ⟨rfl,rfl⟩

structure api_Span where
 Lo : Int
 Hi : Int
@[reducible] def enc_api_Span (x : api_Span) : List Value := [i6 x.Lo,i6 x.Hi]
theorem one_enc_api_Span : ∀ x,(enc_api_Span x).length = 2 ∧ ones (enc_api_Span x) = true := fun _ => ⟨rfl,rfl⟩

structure crew_Visit where
 Way : api_Span
 Work : api_Span
 Open : Int
 Close : Int
@[reducible] def enc_crew_Visit (x : crew_Visit) : List Value := [i6 x.Way.Lo,i6 x.Way.Hi,i6 x.Work.Lo,i6 x.Work.Hi,i6 x.Open,i6 x.Close]
theorem one_enc_crew_Visit : ∀ x,(enc_crew_Visit x).length = 6 ∧ ones (enc_crew_Visit x) = true := fun _ => ⟨rfl,rfl⟩

structure crew_Ride where
 From : Int
 Long : Int
 Weight : api_Span
@[reducible] def enc_crew_Ride (x : crew_Ride) : List Value := [i6 x.From,i6 x.Long,i6 x.Weight.Lo,i6 x.Weight.Hi]
theorem one_enc_crew_Ride : ∀ x,(enc_crew_Ride x).length = 4 ∧ ones (enc_crew_Ride x) = true := fun _ => ⟨rfl,rfl⟩

structure crew_Cable where
 Car : Int
 Wide : Int
 Sag : Int
 Most : Int
 Rides : List crew_Ride

structure crew_Pay where
 Rate : Int
 Normal : Int
 Extra : Int
@[reducible] def enc_crew_Pay (x : crew_Pay) : List Value := [i6 x.Rate,i6 x.Normal,i6 x.Extra]
theorem one_enc_crew_Pay : ∀ x,(enc_crew_Pay x).length = 3 ∧ ones (enc_crew_Pay x) = true := fun _ => ⟨rfl,rfl⟩

theorem bt_165 : builtInfo Tryz.prog 165 = some ([.slice none 0 0,i6 0,i6 0],[(0,1),(1,1),(2,1)]) := by kernel_rfl

theorem en_42 : En Tryz.prog 42 := En.of Tryz.func42 (by kernel_rfl) (by kernel_rfl)

theorem fa_165_0 : ∀ (q : Addr) (w : World),(Instr.fieldAt 165 (.pointer (some q)) 0).run Tryz.prog w = .ok (.pointer (some (q.add 0))) w := fun _ _ => by kernel_rfl

theorem sc_74 : ScT Tryz.prog 74 := ⟨⟨_,Tryz.underlying74,trivial⟩,by kernel_rfl⟩

theorem fa_165_1 : ∀ (q : Addr) (w : World),(Instr.fieldAt 165 (.pointer (some q)) 1).run Tryz.prog w = .ok (.pointer (some (q.add 1))) w := fun _ _ => by kernel_rfl

theorem sc_3 : ScT Tryz.prog 3 := ⟨⟨_,Tryz.underlying3,trivial⟩,by kernel_rfl⟩

theorem sz_5 : (Tryz.prog.info? 5).map (·.size) = some 1 := by kernel_rfl

theorem sc_5 : ScT Tryz.prog 5 := ⟨⟨_,Tryz.underlying5,trivial⟩,by kernel_rfl⟩

theorem follows_mx : Tryz.prog.follows .mixedOrders = true := by kernel_rfl

theorem fa_165_2 : ∀ (q : Addr) (w : World),(Instr.fieldAt 165 (.pointer (some q)) 2).run Tryz.prog w = .ok (.pointer (some (q.add 2))) w := fun _ _ => by kernel_rfl

theorem sz_3 : (Tryz.prog.info? 3).map (·.size) = some 1 := by kernel_rfl

theorem en_45 : En Tryz.prog 45 := En.of Tryz.func45 (by kernel_rfl) (by kernel_rfl)

theorem en_50 : En Tryz.prog 50 := En.of Tryz.func50 (by kernel_rfl) (by kernel_rfl)

theorem sl_25 : SlT Tryz.prog 25 3 1 8 (i6 0) := SlT.of Tryz.underlying25 (by kernel_rfl) (by decide)

theorem en_134 : En Tryz.prog 134 := En.of Tryz.func134 (by kernel_rfl) (by kernel_rfl)

theorem sc_143 : ScT Tryz.prog 143 := ⟨⟨_,Tryz.underlying143,trivial⟩,by kernel_rfl⟩

theorem en_175 : En Tryz.prog 175 := En.of Tryz.func175 (by kernel_rfl) (by kernel_rfl)

theorem en_194 : En Tryz.prog 194 := En.of Tryz.func194 (by kernel_rfl) (by kernel_rfl)

theorem en_97 : En Tryz.prog 97 := En.of Tryz.func97 (by kernel_rfl) (by kernel_rfl)

theorem en_113 : En Tryz.prog 113 := En.of Tryz.func113 (by kernel_rfl) (by kernel_rfl)

theorem en_174 : En Tryz.prog 174 := En.of Tryz.func174 (by kernel_rfl) (by kernel_rfl)

theorem en_133 : En Tryz.prog 133 := En.of Tryz.func133 (by kernel_rfl) (by kernel_rfl)

theorem en_135 : En Tryz.prog 135 := En.of Tryz.func135 (by kernel_rfl) (by kernel_rfl)

theorem zr_197 : (Tryz.prog.info? 197).map (·.zero) = some (some (.agg #[i6 0,i6 0])) := by kernel_rfl

theorem bt_197 : builtInfo Tryz.prog 197 = some ([i6 0,i6 0],[(0,1),(1,1)]) := by kernel_rfl

theorem sz_197 : (Tryz.prog.info? 197).map (·.size) = some 2 := by kernel_rfl

theorem ag_197 : AggT Tryz.prog 197 2 := ⟨⟨_,Tryz.underlying197,trivial⟩,by kernel_rfl⟩

theorem en_136 : En Tryz.prog 136 := En.of Tryz.func136 (by kernel_rfl) (by kernel_rfl)

theorem ge_197 : Tryz.prog.eqGuardType Tryz.prog.depth 197 = false := by kernel_rfl

theorem eqs_197 (x0 : Int) (x1 : Int) (y0 : Int) (y1 : Int) (w : World) : (Op.equalIn 10000 197 (.agg #[i6 x0,i6 x1]) (.agg #[i6 y0,i6 y1])).run Tryz.prog w = .ok (x0 == y0 && x1 == y1) w := by
 rw [run_equalIn_agg w 9999 197 _ _ (by kernel_rfl) (by kernel_rfl)]
 simp [Op.eqFields,part,go_sem]
 repeat' split
 all_goals simp_all

theorem fa_197_0 : ∀ (q : Addr) (w : World),(Instr.fieldAt 197 (.pointer (some q)) 0).run Tryz.prog w = .ok (.pointer (some (q.add 0))) w := fun _ _ => by kernel_rfl

theorem fa_197_1 : ∀ (q : Addr) (w : World),(Instr.fieldAt 197 (.pointer (some q)) 1).run Tryz.prog w = .ok (.pointer (some (q.add 1))) w := fun _ _ => by kernel_rfl

theorem en_137 : En Tryz.prog 137 := En.of Tryz.func137 (by kernel_rfl) (by kernel_rfl)

theorem en_70 : En Tryz.prog 70 := En.of Tryz.func70 (by kernel_rfl) (by kernel_rfl)

theorem zr_78 : (Tryz.prog.info? 78).map (·.zero) = some (some (.agg #[.slice none 0 0,.slice none 0 0])) := by kernel_rfl

theorem fa_78_0 : ∀ (q : Addr) (w : World),(Instr.fieldAt 78 (.pointer (some q)) 0).run Tryz.prog w = .ok (.pointer (some (q.add 0))) w := fun _ _ => by kernel_rfl

theorem sc_75 : ScT Tryz.prog 75 := ⟨⟨_,Tryz.underlying75,trivial⟩,by kernel_rfl⟩

theorem en_71 : En Tryz.prog 71 := En.of Tryz.func71 (by kernel_rfl) (by kernel_rfl)

@[reducible] def kd_25 : Kd (List Int) := kL encI_i64 3 1
theorem kdo_25 : KdOk kd_25 := kL_ok _ _ _
theorem one_kd_25 : ∀ r,(kd_25.v r).length = 1 ∧ ones (kd_25.v r) = true := fun _ => ⟨rfl,rfl⟩

theorem sl_75 : SlT Tryz.prog 75 25 1 24 (.slice none 0 0) := SlT.of Tryz.underlying75 (by kernel_rfl) (by decide)

theorem sz_75 : (Tryz.prog.info? 75).map (·.size) = some 1 := by kernel_rfl

theorem fa_78_1 : ∀ (q : Addr) (w : World),(Instr.fieldAt 78 (.pointer (some q)) 1).run Tryz.prog w = .ok (.pointer (some (q.add 1))) w := fun _ _ => by kernel_rfl

theorem sc_76 : ScT Tryz.prog 76 := ⟨⟨_,Tryz.underlying76,trivial⟩,by kernel_rfl⟩

theorem bt_101 : builtInfo Tryz.prog 101 = some ([i6 0,.slice none 0 0],[(0,1),(1,1)]) := by kernel_rfl

@[reducible] def kd_101 : Kd crew_Station := Kd.comp (kL encI_i64 3 1) (fun x => x.Order) (fun h x => [i6 x.Places,.slice h.1 x.Order.length h.2])
theorem kdo_101 : KdOk kd_101 := KdOk.comp (kL_ok _ _ _) _ _
theorem one_kd_101 : ∀ r,(kd_101.v r).length = 2 ∧ ones (kd_101.v r) = true := fun _ => ⟨rfl,rfl⟩

theorem sl_76 : SlT Tryz.prog 76 101 2 32 (.agg #[i6 0,.slice none 0 0]) := SlT.of Tryz.underlying76 (by kernel_rfl) (by decide)

theorem sz_76 : (Tryz.prog.info? 76).map (·.size) = some 1 := by kernel_rfl

theorem ag_78 : AggT Tryz.prog 78 2 := ⟨⟨_,Tryz.underlying78,trivial⟩,by kernel_rfl⟩

theorem en_86 : En Tryz.prog 86 := En.of Tryz.func86 (by kernel_rfl) (by kernel_rfl)

theorem sz_25 : (Tryz.prog.info? 25).map (·.size) = some 1 := by kernel_rfl

theorem sc_25 : ScT Tryz.prog 25 := ⟨⟨_,Tryz.underlying25,trivial⟩,by kernel_rfl⟩

theorem sc_185 : ScT Tryz.prog 185 := ⟨⟨_,Tryz.underlying185,trivial⟩,by kernel_rfl⟩

theorem en_118 : En Tryz.prog 118 := En.of Tryz.func118 (by kernel_rfl) (by kernel_rfl)

theorem en_157 : En Tryz.prog 157 := En.of Tryz.func157 (by kernel_rfl) (by kernel_rfl)

theorem en_87 : En Tryz.prog 87 := En.of Tryz.func87 (by kernel_rfl) (by kernel_rfl)

theorem en_117 : En Tryz.prog 117 := En.of Tryz.func117 (by kernel_rfl) (by kernel_rfl)

theorem en_169 : En Tryz.prog 169 := En.of Tryz.func169 (by kernel_rfl) (by kernel_rfl)

theorem en_191 : En Tryz.prog 191 := En.of Tryz.func191 (by kernel_rfl) (by kernel_rfl)

theorem en_168 : En Tryz.prog 168 := En.of Tryz.func168 (by kernel_rfl) (by kernel_rfl)

theorem en_116 : En Tryz.prog 116 := En.of Tryz.func116 (by kernel_rfl) (by kernel_rfl)

theorem sz_101 : (Tryz.prog.info? 101).map (·.size) = some 2 := by kernel_rfl

theorem ag_101 : AggT Tryz.prog 101 2 := ⟨⟨_,Tryz.underlying101,trivial⟩,by kernel_rfl⟩

theorem sc_187 : ScT Tryz.prog 187 := ⟨⟨_,Tryz.underlying187,trivial⟩,by kernel_rfl⟩

theorem fa_101_0 : ∀ (q : Addr) (w : World),(Instr.fieldAt 101 (.pointer (some q)) 0).run Tryz.prog w = .ok (.pointer (some (q.add 0))) w := fun _ _ => by kernel_rfl

theorem fa_101_1 : ∀ (q : Addr) (w : World),(Instr.fieldAt 101 (.pointer (some q)) 1).run Tryz.prog w = .ok (.pointer (some (q.add 1))) w := fun _ _ => by kernel_rfl

theorem en_121 : En Tryz.prog 121 := En.of Tryz.func121 (by kernel_rfl) (by kernel_rfl)

theorem en_120 : En Tryz.prog 120 := En.of Tryz.func120 (by kernel_rfl) (by kernel_rfl)

theorem en_171 : En Tryz.prog 171 := En.of Tryz.func171 (by kernel_rfl) (by kernel_rfl)

theorem en_192 : En Tryz.prog 192 := En.of Tryz.func192 (by kernel_rfl) (by kernel_rfl)

theorem en_170 : En Tryz.prog 170 := En.of Tryz.func170 (by kernel_rfl) (by kernel_rfl)

theorem en_119 : En Tryz.prog 119 := En.of Tryz.func119 (by kernel_rfl) (by kernel_rfl)

theorem en_114 : En Tryz.prog 114 := En.of Tryz.func114 (by kernel_rfl) (by kernel_rfl)

theorem en_72 : En Tryz.prog 72 := En.of Tryz.func72 (by kernel_rfl) (by kernel_rfl)

theorem en_122 : En Tryz.prog 122 := En.of Tryz.func122 (by kernel_rfl) (by kernel_rfl)

theorem en_123 : En Tryz.prog 123 := En.of Tryz.func123 (by kernel_rfl) (by kernel_rfl)

theorem en_55 : En Tryz.prog 55 := En.of Tryz.func55 (by kernel_rfl) (by kernel_rfl)

theorem bt_181 : builtInfo Tryz.prog 181 = some ((catc [.slice none 0 0,.slice none 0 0] 144 encI_i64 (fun _ => 0) []),[(0,2),(2,144)]) := by kernel_rfl

theorem zr_101 : (Tryz.prog.info? 101).map (·.zero) = some (some (.agg #[i6 0,.slice none 0 0])) := by kernel_rfl

theorem fa_181_1 : ∀ (q : Addr) (w : World),(Instr.fieldAt 181 (.pointer (some q)) 1).run Tryz.prog w = .ok (.pointer (some (q.add 2))) w := fun _ _ => by kernel_rfl

theorem sz_178 : (Tryz.prog.info? 178).map (·.size) = some 12 := by kernel_rfl

theorem en_105 : En Tryz.prog 105 := En.of Tryz.func105 (by kernel_rfl) (by kernel_rfl)

theorem sc_166 : ScT Tryz.prog 166 := ⟨⟨_,Tryz.underlying166,trivial⟩,by kernel_rfl⟩

theorem fa_181_0 : ∀ (q : Addr) (w : World),(Instr.fieldAt 181 (.pointer (some q)) 0).run Tryz.prog w = .ok (.pointer (some (q.add 0))) w := fun _ _ => by kernel_rfl

@[reducible] def kd_223 : Kd (Option (List (Int × Bool))) := kM Value.bool
theorem one_kd_223 : ∀ r,(kd_223.v r).length = 1 ∧ ones (kd_223.v r) = true := one_kM _

theorem sl_222 : SlT Tryz.prog 222 223 1 8 (.map none) := SlT.of Tryz.underlying222 (by kernel_rfl) (by decide)

theorem zr_222 : (Tryz.prog.info? 222).map (·.zero) = some (some (.slice none 0 0)) := by kernel_rfl

theorem sz_222 : (Tryz.prog.info? 222).map (·.size) = some 1 := by kernel_rfl

theorem sc_222 : ScT Tryz.prog 222 := ⟨⟨_,Tryz.underlying222,trivial⟩,by kernel_rfl⟩

theorem sz_223 : (Tryz.prog.info? 223).map (·.size) = some 1 := by kernel_rfl

theorem en_166 : En Tryz.prog 166 := En.of Tryz.func166 (by kernel_rfl) (by kernel_rfl)

theorem en_107 : En Tryz.prog 107 := En.of Tryz.func107 (by kernel_rfl) (by kernel_rfl)

theorem zr_25 : (Tryz.prog.info? 25).map (·.zero) = some (some (.slice none 0 0)) := by kernel_rfl

theorem zr_99 : (Tryz.prog.info? 99).map (·.zero) = some (some (.slice none 0 0)) := by kernel_rfl

theorem zr_213 : (Tryz.prog.info? 213).map (·.zero) = some (some (.nilFunc)) := by kernel_rfl

theorem sz_213 : (Tryz.prog.info? 213).map (·.size) = some 1 := by kernel_rfl

theorem sc_213 : ScT Tryz.prog 213 := ⟨⟨_,Tryz.underlying213,trivial⟩,by kernel_rfl⟩

theorem en_111 : En Tryz.prog 111 := En.of Tryz.func111 (by kernel_rfl) (by kernel_rfl)

theorem en_110 : En Tryz.prog 110 := En.of Tryz.func110 (by kernel_rfl) (by kernel_rfl)

theorem zr_3 : (Tryz.prog.info? 3).map (·.zero) = some (some (i6 0)) := by kernel_rfl

theorem sc_99 : ScT Tryz.prog 99 := ⟨⟨_,Tryz.underlying99,trivial⟩,by kernel_rfl⟩

theorem sz_86 : (Tryz.prog.info? 86).map (·.size) = some 2 := by kernel_rfl

theorem ag_86 : AggT Tryz.prog 86 2 := ⟨⟨_,Tryz.underlying86,trivial⟩,by kernel_rfl⟩

theorem bt_86 : builtInfo Tryz.prog 86 = some ([i6 0,i6 0],[(0,1),(1,1)]) := by kernel_rfl

theorem ge_86 : Tryz.prog.eqGuardType Tryz.prog.depth 86 = false := by kernel_rfl

theorem eqs_86 (x0 : Int) (x1 : Int) (y0 : Int) (y1 : Int) (w : World) : (Op.equalIn 10000 86 (.agg #[i6 x0,i6 x1]) (.agg #[i6 y0,i6 y1])).run Tryz.prog w = .ok (x0 == y0 && x1 == y1) w := by
 rw [run_equalIn_agg w 9999 86 _ _ (by kernel_rfl) (by kernel_rfl)]
 simp [Op.eqFields,part,go_sem]
 repeat' split
 all_goals simp_all

theorem en_165 : En Tryz.prog 165 := En.of Tryz.func165 (by kernel_rfl) (by kernel_rfl)

theorem en_188 : En Tryz.prog 188 := En.of Tryz.func188 (by kernel_rfl) (by kernel_rfl)

theorem en_164 : En Tryz.prog 164 := En.of Tryz.func164 (by kernel_rfl) (by kernel_rfl)

theorem sc_223 : ScT Tryz.prog 223 := ⟨⟨_,Tryz.underlying223,trivial⟩,by kernel_rfl⟩

theorem zr_4 : (Tryz.prog.info? 4).map (·.zero) = some (some (.bool false)) := by kernel_rfl

theorem sl_99 : SlT Tryz.prog 99 86 2 16 (.agg #[i6 0,i6 0]) := SlT.of Tryz.underlying99 (by kernel_rfl) (by decide)

theorem sz_99 : (Tryz.prog.info? 99).map (·.size) = some 1 := by kernel_rfl

theorem en_163 : En Tryz.prog 163 := En.of Tryz.func163 (by kernel_rfl) (by kernel_rfl)

theorem en_167 : En Tryz.prog 167 := En.of Tryz.func167 (by kernel_rfl) (by kernel_rfl)

theorem en_106 : En Tryz.prog 106 := En.of Tryz.func106 (by kernel_rfl) (by kernel_rfl)

theorem en_43 : En Tryz.prog 43 := En.of Tryz.func43 (by kernel_rfl) (by kernel_rfl)

theorem en_47 : En Tryz.prog 47 := En.of Tryz.func47 (by kernel_rfl) (by kernel_rfl)

theorem en_29 : En Tryz.prog 29 := En.of Tryz.func29 (by kernel_rfl) (by kernel_rfl)

theorem bt_78 : builtInfo Tryz.prog 78 = some ([.slice none 0 0,.slice none 0 0],[(0,1),(1,1)]) := by kernel_rfl

theorem sz_78 : (Tryz.prog.info? 78).map (·.size) = some 2 := by kernel_rfl

theorem en_67 : En Tryz.prog 67 := En.of Tryz.func67 (by kernel_rfl) (by kernel_rfl)

theorem zr_86 : (Tryz.prog.info? 86).map (·.zero) = some (some (.agg #[i6 0,i6 0])) := by kernel_rfl

theorem zr_166 : (Tryz.prog.info? 166).map (·.zero) = some (some (.pointer none)) := by kernel_rfl

theorem zr_34 : (Tryz.prog.info? 34).map (·.zero) = some (some (i6 0)) := by kernel_rfl

theorem sz_166 : (Tryz.prog.info? 166).map (·.size) = some 1 := by kernel_rfl

theorem sz_34 : (Tryz.prog.info? 34).map (·.size) = some 1 := by kernel_rfl

theorem sc_34 : ScT Tryz.prog 34 := ⟨⟨_,Tryz.underlying34,trivial⟩,by kernel_rfl⟩

theorem en_108 : En Tryz.prog 108 := En.of Tryz.func108 (by kernel_rfl) (by kernel_rfl)

theorem zr_172 : (Tryz.prog.info? 172).map (·.zero) = some (some (.agg #[.slice none 0 0,.slice none 0 0,.slice none 0 0,.slice none 0 0,.slice none 0 0,.slice none 0 0,.slice none 0 0,.slice none 0 0,.slice none 0 0,.slice none 0 0,.slice none 0 0,.slice none 0 0])) := by kernel_rfl

theorem ag_172 : AggT Tryz.prog 172 12 := ⟨⟨_,Tryz.underlying172,trivial⟩,by kernel_rfl⟩

theorem sz_172 : (Tryz.prog.info? 172).map (·.size) = some 12 := by kernel_rfl

theorem en_109 : En Tryz.prog 109 := En.of Tryz.func109 (by kernel_rfl) (by kernel_rfl)

theorem en_112 : En Tryz.prog 112 := En.of Tryz.func112 (by kernel_rfl) (by kernel_rfl)

theorem en_46 : En Tryz.prog 46 := En.of Tryz.func46 (by kernel_rfl) (by kernel_rfl)

theorem sc_192 : ScT Tryz.prog 192 := ⟨⟨_,Tryz.underlying192,trivial⟩,by kernel_rfl⟩

theorem fa_86_0 : ∀ (q : Addr) (w : World),(Instr.fieldAt 86 (.pointer (some q)) 0).run Tryz.prog w = .ok (.pointer (some (q.add 0))) w := fun _ _ => by kernel_rfl

theorem fa_86_1 : ∀ (q : Addr) (w : World),(Instr.fieldAt 86 (.pointer (some q)) 1).run Tryz.prog w = .ok (.pointer (some (q.add 1))) w := fun _ _ => by kernel_rfl

theorem en_129 : En Tryz.prog 129 := En.of Tryz.func129 (by kernel_rfl) (by kernel_rfl)

theorem en_172 : En Tryz.prog 172 := En.of Tryz.func172 (by kernel_rfl) (by kernel_rfl)

theorem en_128 : En Tryz.prog 128 := En.of Tryz.func128 (by kernel_rfl) (by kernel_rfl)

theorem sz_4 : (Tryz.prog.info? 4).map (·.size) = some 1 := by kernel_rfl

theorem sc_4 : ScT Tryz.prog 4 := ⟨⟨_,Tryz.underlying4,trivial⟩,by kernel_rfl⟩

theorem en_193 : En Tryz.prog 193 := En.of Tryz.func193 (by kernel_rfl) (by kernel_rfl)

theorem en_173 : En Tryz.prog 173 := En.of Tryz.func173 (by kernel_rfl) (by kernel_rfl)

theorem en_130 : En Tryz.prog 130 := En.of Tryz.func130 (by kernel_rfl) (by kernel_rfl)

theorem en_59 : En Tryz.prog 59 := En.of Tryz.func59 (by kernel_rfl) (by kernel_rfl)

theorem zr_29 : (Tryz.prog.info? 29).map (·.zero) = some (some (.agg #[i6 0,i6 0])) := by kernel_rfl

theorem bt_29 : builtInfo Tryz.prog 29 = some ([i6 0,i6 0],[(0,1),(1,1)]) := by kernel_rfl

theorem sz_29 : (Tryz.prog.info? 29).map (·.size) = some 2 := by kernel_rfl

theorem ag_29 : AggT Tryz.prog 29 2 := ⟨⟨_,Tryz.underlying29,trivial⟩,by kernel_rfl⟩

theorem en_51 : En Tryz.prog 51 := En.of Tryz.func51 (by kernel_rfl) (by kernel_rfl)

theorem bt_31 : builtInfo Tryz.prog 31 = some ([i6 0,i6 0,i6 0,i6 0,i6 0,i6 0],[(0,2),(2,2),(4,1),(5,1)]) := by kernel_rfl

theorem sl_22 : SlT Tryz.prog 22 31 6 48 (.agg #[i6 0,i6 0,i6 0,i6 0,i6 0,i6 0]) := SlT.of Tryz.underlying22 (by kernel_rfl) (by decide)

theorem en_68 : En Tryz.prog 68 := En.of Tryz.func68 (by kernel_rfl) (by kernel_rfl)

theorem sz_31 : (Tryz.prog.info? 31).map (·.size) = some 6 := by kernel_rfl

theorem ag_31 : AggT Tryz.prog 31 6 := ⟨⟨_,Tryz.underlying31,trivial⟩,by kernel_rfl⟩

theorem sc_219 : ScT Tryz.prog 219 := ⟨⟨_,Tryz.underlying219,trivial⟩,by kernel_rfl⟩

theorem fa_31_0 : ∀ (q : Addr) (w : World),(Instr.fieldAt 31 (.pointer (some q)) 0).run Tryz.prog w = .ok (.pointer (some (q.add 0))) w := fun _ _ => by kernel_rfl

theorem fa_29_0 : ∀ (q : Addr) (w : World),(Instr.fieldAt 29 (.pointer (some q)) 0).run Tryz.prog w = .ok (.pointer (some (q.add 0))) w := fun _ _ => by kernel_rfl

theorem fa_29_1 : ∀ (q : Addr) (w : World),(Instr.fieldAt 29 (.pointer (some q)) 1).run Tryz.prog w = .ok (.pointer (some (q.add 1))) w := fun _ _ => by kernel_rfl

theorem en_80 : En Tryz.prog 80 := En.of Tryz.func80 (by kernel_rfl) (by kernel_rfl)

theorem en_154 : En Tryz.prog 154 := En.of Tryz.func154 (by kernel_rfl) (by kernel_rfl)

theorem fa_31_1 : ∀ (q : Addr) (w : World),(Instr.fieldAt 31 (.pointer (some q)) 1).run Tryz.prog w = .ok (.pointer (some (q.add 2))) w := fun _ _ => by kernel_rfl

theorem fa_31_2 : ∀ (q : Addr) (w : World),(Instr.fieldAt 31 (.pointer (some q)) 2).run Tryz.prog w = .ok (.pointer (some (q.add 4))) w := fun _ _ => by kernel_rfl

theorem fa_31_3 : ∀ (q : Addr) (w : World),(Instr.fieldAt 31 (.pointer (some q)) 3).run Tryz.prog w = .ok (.pointer (some (q.add 5))) w := fun _ _ => by kernel_rfl

theorem en_153 : En Tryz.prog 153 := En.of Tryz.func153 (by kernel_rfl) (by kernel_rfl)

theorem en_184 : En Tryz.prog 184 := En.of Tryz.func184 (by kernel_rfl) (by kernel_rfl)

theorem en_200 : En Tryz.prog 200 := En.of Tryz.func200 (by kernel_rfl) (by kernel_rfl)

theorem en_183 : En Tryz.prog 183 := En.of Tryz.func183 (by kernel_rfl) (by kernel_rfl)

theorem en_152 : En Tryz.prog 152 := En.of Tryz.func152 (by kernel_rfl) (by kernel_rfl)

theorem en_79 : En Tryz.prog 79 := En.of Tryz.func79 (by kernel_rfl) (by kernel_rfl)

theorem zr_147 : (Tryz.prog.info? 147).map (·.zero) = some (some (.agg #[.nilFunc])) := by kernel_rfl

theorem bt_147 : builtInfo Tryz.prog 147 = some ([.nilFunc],[(0,1)]) := by kernel_rfl

theorem sz_147 : (Tryz.prog.info? 147).map (·.size) = some 1 := by kernel_rfl

theorem ag_147 : AggT Tryz.prog 147 1 := ⟨⟨_,Tryz.underlying147,trivial⟩,by kernel_rfl⟩

theorem en_82 : En Tryz.prog 82 := En.of Tryz.func82 (by kernel_rfl) (by kernel_rfl)

theorem zr_31 : (Tryz.prog.info? 31).map (·.zero) = some (some (.agg #[i6 0,i6 0,i6 0,i6 0,i6 0,i6 0])) := by kernel_rfl

theorem fa_147_0 : ∀ (q : Addr) (w : World),(Instr.fieldAt 147 (.pointer (some q)) 0).run Tryz.prog w = .ok (.pointer (some (q.add 0))) w := fun _ _ => by kernel_rfl

theorem sc_145 : ScT Tryz.prog 145 := ⟨⟨_,Tryz.underlying145,trivial⟩,by kernel_rfl⟩

theorem en_155 : En Tryz.prog 155 := En.of Tryz.func155 (by kernel_rfl) (by kernel_rfl)

theorem en_81 : En Tryz.prog 81 := En.of Tryz.func81 (by kernel_rfl) (by kernel_rfl)

theorem en_83 : En Tryz.prog 83 := En.of Tryz.func83 (by kernel_rfl) (by kernel_rfl)

theorem en_156 : En Tryz.prog 156 := En.of Tryz.func156 (by kernel_rfl) (by kernel_rfl)

theorem sl_33 : SlT Tryz.prog 33 29 2 16 (.agg #[i6 0,i6 0]) := SlT.of Tryz.underlying33 (by kernel_rfl) (by decide)

theorem en_18 : En Tryz.prog 18 := En.of Tryz.func18 (by kernel_rfl) (by kernel_rfl)

theorem en_22 : En Tryz.prog 22 := En.of Tryz.func22 (by kernel_rfl) (by kernel_rfl)

theorem ge_29 : Tryz.prog.eqGuardType Tryz.prog.depth 29 = false := by kernel_rfl

theorem eqs_29 (x0 : Int) (x1 : Int) (y0 : Int) (y1 : Int) (w : World) : (Op.equalIn 10000 29 (.agg #[i6 x0,i6 x1]) (.agg #[i6 y0,i6 y1])).run Tryz.prog w = .ok (x0 == y0 && x1 == y1) w := by
 rw [run_equalIn_agg w 9999 29 _ _ (by kernel_rfl) (by kernel_rfl)]
 simp [Op.eqFields,part,go_sem]
 repeat' split
 all_goals simp_all

theorem en_21 : En Tryz.prog 21 := En.of Tryz.func21 (by kernel_rfl) (by kernel_rfl)

theorem en_24 : En Tryz.prog 24 := En.of Tryz.func24 (by kernel_rfl) (by kernel_rfl)

theorem zr_54 : (Tryz.prog.info? 54).map (·.zero) = some (some (.agg #[i6 0,i6 0,i6 0,i6 0,.slice none 0 0])) := by kernel_rfl

theorem bt_72 : builtInfo Tryz.prog 72 = some ([i6 0,i6 0,i6 0,i6 0],[(0,1),(1,1),(2,2)]) := by kernel_rfl

theorem sl_52 : SlT Tryz.prog 52 72 4 32 (.agg #[i6 0,i6 0,i6 0,i6 0]) := SlT.of Tryz.underlying52 (by kernel_rfl) (by decide)

theorem bt_54 : builtInfo Tryz.prog 54 = some ([i6 0,i6 0,i6 0,i6 0,.slice none 0 0],[(0,1),(1,1),(2,1),(3,1),(4,1)]) := by kernel_rfl

theorem sz_54 : (Tryz.prog.info? 54).map (·.size) = some 5 := by kernel_rfl

theorem ag_54 : AggT Tryz.prog 54 5 := ⟨⟨_,Tryz.underlying54,trivial⟩,by kernel_rfl⟩

theorem en_69 : En Tryz.prog 69 := En.of Tryz.func69 (by kernel_rfl) (by kernel_rfl)

theorem fa_54_4 : ∀ (q : Addr) (w : World),(Instr.fieldAt 54 (.pointer (some q)) 4).run Tryz.prog w = .ok (.pointer (some (q.add 4))) w := fun _ _ => by kernel_rfl

theorem sc_52 : ScT Tryz.prog 52 := ⟨⟨_,Tryz.underlying52,trivial⟩,by kernel_rfl⟩

theorem fa_54_0 : ∀ (q : Addr) (w : World),(Instr.fieldAt 54 (.pointer (some q)) 0).run Tryz.prog w = .ok (.pointer (some (q.add 0))) w := fun _ _ => by kernel_rfl

theorem fa_54_1 : ∀ (q : Addr) (w : World),(Instr.fieldAt 54 (.pointer (some q)) 1).run Tryz.prog w = .ok (.pointer (some (q.add 1))) w := fun _ _ => by kernel_rfl

theorem fa_54_2 : ∀ (q : Addr) (w : World),(Instr.fieldAt 54 (.pointer (some q)) 2).run Tryz.prog w = .ok (.pointer (some (q.add 2))) w := fun _ _ => by kernel_rfl

theorem fa_54_3 : ∀ (q : Addr) (w : World),(Instr.fieldAt 54 (.pointer (some q)) 3).run Tryz.prog w = .ok (.pointer (some (q.add 3))) w := fun _ _ => by kernel_rfl

theorem sz_72 : (Tryz.prog.info? 72).map (·.size) = some 4 := by kernel_rfl

theorem ag_72 : AggT Tryz.prog 72 4 := ⟨⟨_,Tryz.underlying72,trivial⟩,by kernel_rfl⟩

theorem sc_155 : ScT Tryz.prog 155 := ⟨⟨_,Tryz.underlying155,trivial⟩,by kernel_rfl⟩

theorem fa_72_0 : ∀ (q : Addr) (w : World),(Instr.fieldAt 72 (.pointer (some q)) 0).run Tryz.prog w = .ok (.pointer (some (q.add 0))) w := fun _ _ => by kernel_rfl

theorem fa_72_1 : ∀ (q : Addr) (w : World),(Instr.fieldAt 72 (.pointer (some q)) 1).run Tryz.prog w = .ok (.pointer (some (q.add 1))) w := fun _ _ => by kernel_rfl

theorem fa_72_2 : ∀ (q : Addr) (w : World),(Instr.fieldAt 72 (.pointer (some q)) 2).run Tryz.prog w = .ok (.pointer (some (q.add 2))) w := fun _ _ => by kernel_rfl

theorem en_91 : En Tryz.prog 91 := En.of Tryz.func91 (by kernel_rfl) (by kernel_rfl)

theorem en_159 : En Tryz.prog 159 := En.of Tryz.func159 (by kernel_rfl) (by kernel_rfl)

theorem en_185 : En Tryz.prog 185 := En.of Tryz.func185 (by kernel_rfl) (by kernel_rfl)

theorem en_158 : En Tryz.prog 158 := En.of Tryz.func158 (by kernel_rfl) (by kernel_rfl)

theorem en_90 : En Tryz.prog 90 := En.of Tryz.func90 (by kernel_rfl) (by kernel_rfl)

theorem en_31 : En Tryz.prog 31 := En.of Tryz.func31 (by kernel_rfl) (by kernel_rfl)

theorem zr_72 : (Tryz.prog.info? 72).map (·.zero) = some (some (.agg #[i6 0,i6 0,i6 0,i6 0])) := by kernel_rfl

theorem en_104 : En Tryz.prog 104 := En.of Tryz.func104 (by kernel_rfl) (by kernel_rfl)

theorem en_160 : En Tryz.prog 160 := En.of Tryz.func160 (by kernel_rfl) (by kernel_rfl)

theorem en_93 : En Tryz.prog 93 := En.of Tryz.func93 (by kernel_rfl) (by kernel_rfl)

theorem en_34 : En Tryz.prog 34 := En.of Tryz.func34 (by kernel_rfl) (by kernel_rfl)

theorem en_150 : En Tryz.prog 150 := En.of Tryz.func150 (by kernel_rfl) (by kernel_rfl)

theorem en_161 : En Tryz.prog 161 := En.of Tryz.func161 (by kernel_rfl) (by kernel_rfl)

theorem en_162 : En Tryz.prog 162 := En.of Tryz.func162 (by kernel_rfl) (by kernel_rfl)

theorem en_95 : En Tryz.prog 95 := En.of Tryz.func95 (by kernel_rfl) (by kernel_rfl)

theorem en_99 : En Tryz.prog 99 := En.of Tryz.func99 (by kernel_rfl) (by kernel_rfl)

theorem en_98 : En Tryz.prog 98 := En.of Tryz.func98 (by kernel_rfl) (by kernel_rfl)

theorem en_96 : En Tryz.prog 96 := En.of Tryz.func96 (by kernel_rfl) (by kernel_rfl)

theorem en_36 : En Tryz.prog 36 := En.of Tryz.func36 (by kernel_rfl) (by kernel_rfl)

theorem sz_52 : (Tryz.prog.info? 52).map (·.size) = some 1 := by kernel_rfl

theorem en_101 : En Tryz.prog 101 := En.of Tryz.func101 (by kernel_rfl) (by kernel_rfl)

theorem en_102 : En Tryz.prog 102 := En.of Tryz.func102 (by kernel_rfl) (by kernel_rfl)

theorem en_103 : En Tryz.prog 103 := En.of Tryz.func103 (by kernel_rfl) (by kernel_rfl)

theorem en_38 : En Tryz.prog 38 := En.of Tryz.func38 (by kernel_rfl) (by kernel_rfl)

theorem bt_24 : builtInfo Tryz.prog 24 = some ([i6 0,i6 0,i6 0],[(0,1),(1,1),(2,1)]) := by kernel_rfl

theorem fa_24_0 : ∀ (q : Addr) (w : World),(Instr.fieldAt 24 (.pointer (some q)) 0).run Tryz.prog w = .ok (.pointer (some (q.add 0))) w := fun _ _ => by kernel_rfl

theorem fa_24_1 : ∀ (q : Addr) (w : World),(Instr.fieldAt 24 (.pointer (some q)) 1).run Tryz.prog w = .ok (.pointer (some (q.add 1))) w := fun _ _ => by kernel_rfl

theorem fa_24_2 : ∀ (q : Addr) (w : World),(Instr.fieldAt 24 (.pointer (some q)) 2).run Tryz.prog w = .ok (.pointer (some (q.add 2))) w := fun _ _ => by kernel_rfl

theorem en_88 : En Tryz.prog 88 := En.of Tryz.func88 (by kernel_rfl) (by kernel_rfl)

theorem en_26 : En Tryz.prog 26 := En.of Tryz.func26 (by kernel_rfl) (by kernel_rfl)

theorem en_15 : En Tryz.prog 15 := En.of Tryz.func15 (by kernel_rfl) (by kernel_rfl)

def kit_New (N : Nat) (bytes : List Int) : Option (Int × Int) :=
 some (0,0)
theorem kit_New_ok {N : Nat} {G : Pers} {Lf : List Ent} {w : World} (bytes : List Int) {bytes_p : Option Addr} {bytes_c : Nat} (h_bytes : Rd G 1 bytes_p bytes_c (bytes.map encI_u8)) (hc : Ctx G (Lf) w) {res : Int × Int} (hF : kit_New N bytes = some res) : Calls Tryz.prog 42 #[.slice bytes_p bytes.length bytes_c] w (fun e w => ∃ (b'1 : Nat),e = .returned (pq b'1) ∧ Ctx G (.box b'1 [.slice bytes_p bytes.length bytes_c,i6 res.1,i6 res.2] 165::Lf) w) := by
 unfold kit_New at hF
 refine fnIn (args := [.slice bytes_p bytes.length bytes_c]) Tryz.func42 rfl Tryz.ntmps42 rfl fun a hf => wp_seq_k fun K1 h1 => cReg ?_
 refine stP hf rfl rfl rfl (pA rfl) fun a hf => cNil ?_
 refine h1 _ _ ?_
 refine wp_seq_k fun K2 h2 => cReg ?_
 refine stP hf rfl rfl rfl (pM rfl) fun a hf => stP hf rfl rfl rfl (pBuildS (cells := [.slice bytes_p bytes.length bytes_c,i6 0,i6 0]) bt_165 rfl rfl) fun a hf => stBx (cs := [.slice bytes_p bytes.length bytes_c,i6 0,i6 0]) hf hc rfl rfl rfl rfl fun b_1 a w hf hc => stP hf rfl rfl rfl (pA rfl) fun a hf => cNil ?_
 refine h2 _ _ ?_
 refine wp_ret ?_
 obtain rfl := sj hF
 exact fnOut1 (by simp) rfl Tryz.results42 hf hc (show look _ 2 = _ from rfl) ⟨b_1,rfl,hc⟩

def kit_Stream_Next_j9 (N : Nat) (s_ : kit_Stream) (n : Int) (b_2 : Int) (b_3 : Int) : Option (Int × Int × Int) :=
 Option.bind (nz n) fun un_1 =>
 some (b_3.tmod n,W (s_.used + 1),(W ((W ((W (5 * s_.mix)) + b_2)) + 1)).tmod 251)
def kit_Stream_Next_j6 (N : Nat) (s_ : kit_Stream) (n : Int) (b_2 : Int) : Option (Int × Int × Int) :=
 cond (decide (256 < n))
 (kit_Stream_Next_j9 N s_ n b_2 (W ((W (256 * b_2)) + ((W ((W ((W (5 * s_.mix)) + b_2)) + 1)).tmod 251))))
 (kit_Stream_Next_j9 N s_ n b_2 b_2)
def kit_Stream_Next (N : Nat) (s_ : kit_Stream) (n : Int) : Option (Int × Int × Int) :=
 cond ((decide (n < 2)) || (((s_.bytes.length : Nat) : Int) == 0))
 (some (0,s_.used,s_.mix))
 (Option.bind (nz ((s_.bytes.length : Nat) : Int)) fun un =>
 Option.bind (getI s_.bytes (s_.used.tmod ((s_.bytes.length : Nat) : Int))) fun e_1 =>
 cond (decide (((s_.bytes.length : Nat) : Int) ≤ s_.used))
 (Option.bind (nz ((s_.bytes.length : Nat) : Int)) fun un_2 =>
 kit_Stream_Next_j6 N s_ n (W ((W (e_1)) + (W ((W (11 * s_.mix)) + (W (s_.used.tdiv ((s_.bytes.length : Nat) : Int))))))))
 (kit_Stream_Next_j6 N s_ n (W (e_1))))
theorem kit_Stream_Next_ok {N : Nat} {G : Pers} {Lf : List Ent} {w : World} (s_ : kit_Stream) (n : Int) {b_ : Nat} {s__bytes_p : Option Addr} {s__bytes_c : Nat} (h_s__bytes : Rd G 1 s__bytes_p s__bytes_c (s_.bytes.map encI_u8)) (hc : Ctx G (.box b_ [.slice s__bytes_p s_.bytes.length s__bytes_c,i6 s_.used,i6 s_.mix] 165::Lf) w) {res : Int × Int × Int} (hF : kit_Stream_Next N s_ n = some res) : Calls Tryz.prog 45 #[pq b_,i6 n] w (fun e w => e = .returned (i6 res.1) ∧ Ctx G (.box b_ [.slice s__bytes_p s_.bytes.length s__bytes_c,i6 res.2.1,i6 res.2.2] 165::Lf) w) := by
 unfold kit_Stream_Next at hF
 refine fnIn (args := [pq b_,i6 n]) Tryz.func45 rfl Tryz.ntmps45 rfl fun a hf => wp_seq_k fun K1 h1 => cReg ?_
 refine stP hf rfl rfl rfl (pA rfl) fun a hf => cNil ?_
 refine h1 _ _ ?_
 refine wp_seq_k fun K2 h2 => wp_seq_k fun K3 h3 => cReg ?_
 refine stP hf rfl rfl rfl (pM rfl) fun a hf => stP hf rfl rfl rfl (pLt rfl rfl) fun a hf => stP hf rfl rfl rfl (pM rfl) fun a hf => stCut 7 (fun a w => Has 92 a [(0,pq b_),(1,i6 n),(6,i6 n),(7,.bool (decide (n < 2))),(8,.bool (decide (n < 2))),(15,.bool ((decide (n < 2)) || (((s_.bytes.length : Nat) : Int) == 0)))] ∧ Ctx G (.box b_ [.slice s__bytes_p s_.bytes.length s__bytes_c,i6 s_.used,i6 s_.mix] 165::Lf) w) ?_ ?_
 ·cases hb : (decide (n < 2))
  ·rw [hb] at hf
   refine stP hf rfl rfl rfl (pM rfl) fun a hf => stP hf rfl rfl rfl (pNC rfl) fun a hf => stP hf rfl rfl rfl (pFA fa_165_0 rfl) fun a hf => stE hf hc rfl rfl rfl (eLd1 sc_74 rfl (cell_box m0 rfl)) fun a w hf hc => stP hf rfl rfl rfl (pLenS Tryz.underlying74 rfl) fun a hf => stP hf rfl rfl rfl (pEq rfl rfl) fun a hf => stP hf rfl rfl rfl (pPf rfl rfl) fun a hf => cNil ⟨hf.kp rfl,hc⟩
  ·rw [hb] at hf
   refine stS hf rfl rfl rfl fun a hf => stS hf rfl rfl rfl fun a hf => stS hf rfl rfl rfl fun a hf => stS hf rfl rfl rfl fun a hf => stS hf rfl rfl rfl fun a hf => stS hf rfl rfl rfl fun a hf => stP hf rfl rfl rfl (pPt rfl rfl) fun a hf => cNil ⟨hf.kp rfl,hc⟩
 intro a w ⟨hf,hc⟩
 refine cNil ?_
 refine h3 _ _ ?_
 refine cCond (b := ((decide (n < 2)) || (((s_.bytes.length : Nat) : Int) == 0))) hf rfl (fun hb => ?_) (fun hb => ?_)
 ·replace hF := condT hb hF
  clear hb
  refine wp_seq_k fun K4 h4 => cReg ?_
  refine stP hf rfl rfl rfl (pA rfl) fun a hf => cNil ?_
  refine h4 _ _ ?_
  refine wp_ret ?_
  refine xThenR ?_
  obtain rfl := sj hF
  exact fnOut1 (by simp) rfl Tryz.results45 hf hc (show look _ 4 = _ from rfl) ⟨rfl,hc⟩
 ·replace hF := condF hb hF
  clear hb
  refine wp_skip ?_
  refine h2 _ _ ?_
  refine wp_seq_k fun K5 h5 => ?_
  obtain ⟨un,hun,hF⟩ := bnd_some hF
  obtain ⟨e_1,he_1,hF⟩ := bnd_some hF
  obtain ⟨b_1,o,qa,qp⟩ := h_s__bytes.atm he_1
  refine cQ hc follows_mx (by kernel_rfl) ?_
  refine qE hf rfl rfl rfl (Pu.ev (pM rfl)) fun a hf => qE hf rfl rfl rfl (Pu.ev (pNC rfl)) fun a hf => qE hf rfl rfl rfl (Pu.ev (pFA fa_165_0 rfl)) fun a hf => qE hf rfl rfl rfl (eLd1 sc_74 rfl (cell_box m0 rfl)) fun a hf => qE hf rfl rfl rfl (Pu.ev (pM rfl)) fun a hf => qE hf rfl rfl rfl (Pu.ev (pNC rfl)) fun a hf => qE hf rfl rfl rfl (Pu.ev (pFA fa_165_1 rfl)) fun a hf => qE hf rfl rfl rfl (eLd1 sc_3 rfl (cell_box m0 rfl)) fun a hf => qE hf rfl rfl rfl (Pu.ev (pM rfl)) fun a hf => qE hf rfl rfl rfl (Pu.ev (pNC rfl)) fun a hf => qE hf rfl rfl rfl (Pu.ev (pFA fa_165_0 rfl)) fun a hf => qE hf rfl rfl rfl (eLd1 sc_74 rfl (cell_box m0 rfl)) fun a hf => qE hf rfl rfl rfl (Pu.ev (pLenS Tryz.underlying74 rfl)) fun a hf => ?_
  refine qE hf rfl rfl rfl (Pu.ev (pRem rfl rfl (nz_spec hun))) fun a hf => qE hf rfl rfl rfl (Pu.ev (pIA Tryz.underlying74 sz_5 rfl rfl qa)) fun a hf => qE hf rfl rfl rfl (eLd1 sc_5 rfl (cell_pc (j := 0) qp rfl)) fun a hf => qE hf rfl rfl rfl (Pu.ev (pCv Tryz.underlying5 Tryz.underlying3 rfl)) fun a hf => qE hf rfl rfl rfl (Pu.ev (pA rfl)) fun a hf => ?_
  intro w hc
  refine h5 _ _ ?_
  refine wp_seq_k fun K6 h6 => ?_
  have hj6 : ∀ (b_2 : Int) a w,Has 92 a [(0,pq b_),(1,i6 n),(5,i6 b_2)] → Ctx G (.box b_ [.slice s__bytes_p s_.bytes.length s__bytes_c,i6 s_.used,i6 s_.mix] 165::Lf) w → kit_Stream_Next_j6 N s_ n b_2 = some res → K6 a w := by
   repeat (clear hF)
   repeat (clear hc)
   repeat (clear hf)
   intro b_2 a w hf hc hF
   unfold kit_Stream_Next_j6 at hF
   refine h6 _ _ ?_
   refine wp_seq_k fun K7 h7 => cReg ?_
   refine stP hf rfl rfl rfl (pM rfl) fun a hf => stP hf rfl rfl rfl (pM rfl) fun a hf => stP hf rfl rfl rfl (pNC rfl) fun a hf => stP hf rfl rfl rfl (pFA fa_165_2 rfl) fun a hf => stE hf hc rfl rfl rfl (eLd1 sc_3 rfl (cell_box m0 rfl)) fun a w hf hc => stP hf rfl rfl rfl (pMul rfl rfl) fun a hf => stP hf rfl rfl rfl (pM rfl) fun a hf => stP hf rfl rfl rfl (pAdd rfl rfl) fun a hf => stP hf rfl rfl rfl (pAdd rfl rfl) fun a hf => stP hf rfl rfl rfl (pRem rfl rfl (by decide)) fun a hf => stP hf rfl rfl rfl (pNC rfl) fun a hf => stP hf rfl rfl rfl (pFA fa_165_2 rfl) fun a hf => stSt (vs := [i6 ((W ((W ((W (5 * s_.mix)) + b_2)) + 1)).tmod 251)]) hf hc rfl rfl rfl rfl sz_3 rfl rfl u0 fun w hc => ?_
   refine cNil ?_
   refine h7 _ _ ?_
   refine wp_seq_k fun K8 h8 => cReg ?_
   refine stP hf rfl rfl rfl (pM rfl) fun a hf => stP hf rfl rfl rfl (pNC rfl) fun a hf => stP hf rfl rfl rfl (pFA fa_165_1 rfl) fun a hf => stE hf hc rfl rfl rfl (eLd1 sc_3 rfl (cell_box m0 rfl)) fun a w hf hc => stP hf rfl rfl rfl (pAdd rfl rfl) fun a hf => stP hf rfl rfl rfl (pNC rfl) fun a hf => stP hf rfl rfl rfl (pFA fa_165_1 rfl) fun a hf => stSt (vs := [i6 (W (s_.used + 1))]) hf hc rfl rfl rfl rfl sz_3 rfl rfl u0 fun w hc => cNil ?_
   refine h8 _ _ ?_
   refine wp_seq_k fun K9 h9 => ?_
   have hj9 : ∀ (b_3 : Int) a w,Has 92 a [(1,i6 n),(5,i6 b_3)] → Ctx G (.box b_ [.slice s__bytes_p s_.bytes.length s__bytes_c,i6 (W (s_.used + 1)),i6 ((W ((W ((W (5 * s_.mix)) + b_2)) + 1)).tmod 251)] 165::Lf) w → kit_Stream_Next_j9 N s_ n b_2 b_3 = some res → K9 a w := by
    repeat (clear hF)
    repeat (clear hc)
    repeat (clear hf)
    intro b_3 a w hf hc hF
    unfold kit_Stream_Next_j9 at hF
    refine h9 _ _ ?_
    refine wp_seq_k fun K10 h10 => cReg ?_
    refine stP hf rfl rfl rfl (pM rfl) fun a hf => stP hf rfl rfl rfl (pM rfl) fun a hf => ?_
    obtain ⟨un_1,hun_1,hF⟩ := bnd_some hF
    refine stP hf rfl rfl rfl (pRem rfl rfl (nz_spec hun_1)) fun a hf => stP hf rfl rfl rfl (pA rfl) fun a hf => cNil ?_
    refine h10 _ _ ?_
    refine wp_ret ?_
    obtain rfl := sj hF
    exact fnOut1 (by simp) rfl Tryz.results45 hf hc (show look _ 4 = _ from rfl) ⟨rfl,hc⟩
   refine wp_seq_k fun K11 h11 => cReg ?_
   refine stP hf rfl rfl rfl (pM rfl) fun a hf => stP hf rfl rfl rfl (pGt rfl rfl) fun a hf => cNil ?_
   refine h11 _ _ ?_
   refine cCond (b := (decide (256 < n))) hf rfl (fun hb => ?_) (fun hb => ?_)
   ·replace hF := condT hb hF
    clear hb
    refine cReg ?_
    refine stP hf rfl rfl rfl (pM rfl) fun a hf => stP hf rfl rfl rfl (pMul rfl rfl) fun a hf => stP hf rfl rfl rfl (pM rfl) fun a hf => stP hf rfl rfl rfl (pNC rfl) fun a hf => stP hf rfl rfl rfl (pFA fa_165_2 rfl) fun a hf => stE hf hc rfl rfl rfl (eLd1 sc_3 rfl (cell_box m0 rfl)) fun a w hf hc => stP hf rfl rfl rfl (pAdd rfl rfl) fun a hf => stP hf rfl rfl rfl (pA rfl) fun a hf => cNil ?_
    exact hj9 (W ((W (256 * b_2)) + ((W ((W ((W (5 * s_.mix)) + b_2)) + 1)).tmod 251))) _ _  (hf.kp rfl) hc hF
   ·replace hF := condF hb hF
    clear hb
    refine wp_skip ?_
    exact hj9 b_2 _ _  (hf.kp rfl) hc hF
  refine wp_seq_k fun K12 h12 => cQ hc follows_mx (by kernel_rfl) ?_
  refine qE hf rfl rfl rfl (Pu.ev (pM rfl)) fun a hf => qE hf rfl rfl rfl (Pu.ev (pNC rfl)) fun a hf => qE hf rfl rfl rfl (Pu.ev (pFA fa_165_1 rfl)) fun a hf => qE hf rfl rfl rfl (eLd1 sc_3 rfl (cell_box m0 rfl)) fun a hf => qE hf rfl rfl rfl (Pu.ev (pM rfl)) fun a hf => qE hf rfl rfl rfl (Pu.ev (pNC rfl)) fun a hf => qE hf rfl rfl rfl (Pu.ev (pFA fa_165_0 rfl)) fun a hf => qE hf rfl rfl rfl (eLd1 sc_74 rfl (cell_box m0 rfl)) fun a hf => qE hf rfl rfl rfl (Pu.ev (pLenS Tryz.underlying74 rfl)) fun a hf => qE hf rfl rfl rfl (Pu.ev (pGe rfl rfl)) fun a hf => ?_
  intro w hc
  refine h12 _ _ ?_
  refine cCond (b := (decide (((s_.bytes.length : Nat) : Int) ≤ s_.used))) hf rfl (fun hb => ?_) (fun hb => ?_)
  ·replace hF := condT hb hF
   clear hb
   obtain ⟨un_2,hun_2,hF⟩ := bnd_some hF
   refine cQ hc follows_mx (by kernel_rfl) ?_
   refine qE hf rfl rfl rfl (Pu.ev (pM rfl)) fun a hf => qE hf rfl rfl rfl (Pu.ev (pM rfl)) fun a hf => qE hf rfl rfl rfl (Pu.ev (pNC rfl)) fun a hf => qE hf rfl rfl rfl (Pu.ev (pFA fa_165_2 rfl)) fun a hf => qE hf rfl rfl rfl (eLd1 sc_3 rfl (cell_box m0 rfl)) fun a hf => qE hf rfl rfl rfl (Pu.ev (pMul rfl rfl)) fun a hf => qE hf rfl rfl rfl (Pu.ev (pM rfl)) fun a hf => qE hf rfl rfl rfl (Pu.ev (pNC rfl)) fun a hf => qE hf rfl rfl rfl (Pu.ev (pFA fa_165_1 rfl)) fun a hf => qE hf rfl rfl rfl (eLd1 sc_3 rfl (cell_box m0 rfl)) fun a hf => qE hf rfl rfl rfl (Pu.ev (pM rfl)) fun a hf => qE hf rfl rfl rfl (Pu.ev (pNC rfl)) fun a hf => qE hf rfl rfl rfl (Pu.ev (pFA fa_165_0 rfl)) fun a hf => ?_
   refine qE hf rfl rfl rfl (eLd1 sc_74 rfl (cell_box m0 rfl)) fun a hf => qE hf rfl rfl rfl (Pu.ev (pLenS Tryz.underlying74 rfl)) fun a hf => qE hf rfl rfl rfl (Pu.ev (pQuo rfl rfl (nz_spec hun_2))) fun a hf => qE hf rfl rfl rfl (Pu.ev (pAdd rfl rfl)) fun a hf => qE hf rfl rfl rfl (Pu.ev (pAdd rfl rfl)) fun a hf => qE hf rfl rfl rfl (Pu.ev (pA rfl)) fun a hf => ?_
   intro w hc
   exact hj6 (W ((W (e_1)) + (W ((W (11 * s_.mix)) + (W (s_.used.tdiv ((s_.bytes.length : Nat) : Int))))))) _ _  (hf.kp rfl) hc hF
  ·replace hF := condF hb hF
   clear hb
   refine wp_skip ?_
   exact hj6 (W (e_1)) _ _  (hf.kp rfl) hc hF

def kit_Stream_Within (N : Nat) (s_ : kit_Stream) (lo : Int) (hi_ : Int) : Option (Int × Int × Int) :=
 Option.bind (kit_Stream_Next N s_ (W ((W (hi_ - lo)) + 1))) fun r =>
 some (W (lo + r.1),r.2.1,r.2.2)
theorem kit_Stream_Within_ok {N : Nat} {G : Pers} {Lf : List Ent} {w : World} (s_ : kit_Stream) (lo : Int) (hi_ : Int) {b_ : Nat} {s__bytes_p : Option Addr} {s__bytes_c : Nat} (h_s__bytes : Rd G 1 s__bytes_p s__bytes_c (s_.bytes.map encI_u8)) (hc : Ctx G (.box b_ [.slice s__bytes_p s_.bytes.length s__bytes_c,i6 s_.used,i6 s_.mix] 165::Lf) w) {res : Int × Int × Int} (hF : kit_Stream_Within N s_ lo hi_ = some res) : Calls Tryz.prog 50 #[pq b_,i6 lo,i6 hi_] w (fun e w => e = .returned (i6 res.1) ∧ Ctx G (.box b_ [.slice s__bytes_p s_.bytes.length s__bytes_c,i6 res.2.1,i6 res.2.2] 165::Lf) w) := by
 unfold kit_Stream_Within at hF
 refine fnIn (args := [pq b_,i6 lo,i6 hi_]) Tryz.func50 rfl Tryz.ntmps50 rfl fun a hf => wp_seq_k fun K1 h1 => cReg ?_
 refine stP hf rfl rfl rfl (pA rfl) fun a hf => cNil ?_
 refine h1 _ _ ?_
 refine wp_seq_k fun K2 h2 => cReg ?_
 refine stP hf rfl rfl rfl (pM rfl) fun a hf => stP hf rfl rfl rfl (pM rfl) fun a hf => stP hf rfl rfl rfl (pM rfl) fun a hf => stP hf rfl rfl rfl (pM rfl) fun a hf => stP hf rfl rfl rfl (pSub rfl rfl) fun a hf => stP hf rfl rfl rfl (pAdd rfl rfl) fun a hf => ?_
 obtain ⟨r,hr,hF⟩ := bnd_some hF
 refine stC (vs := [pq b_,i6 (W ((W (hi_ - lo)) + 1))]) (caps := []) hf rfl rfl rfl en_45 rfl rfl rfl rfl (kit_Stream_Next_ok s_ (W ((W (hi_ - lo)) + 1)) h_s__bytes (hc.pick k0) hr) ?_
 rintro _ w ⟨rfl,hc⟩
 refine ⟨_,rfl,fun a hf => ?_⟩
 refine stP hf rfl rfl rfl (pAdd rfl rfl) fun a hf => stP hf rfl rfl rfl (pA rfl) fun a hf => cNil ?_
 refine h2 _ _ ?_
 refine wp_ret ?_
 obtain rfl := sj hF
 exact fnOut1 (by simp) rfl Tryz.results50 hf hc (show look _ 6 = _ from rfl) ⟨rfl,hc⟩

def share_in (n : Int) (least : Int) (greatest : Int) : Bool :=
 ((decide (least ≤ n)) && (decide (n ≤ greatest)))
theorem share_in_ok {G : Pers} {Lf : List Ent} {w : World} (n : Int) (least : Int) (greatest : Int)   (hc : Ctx G (Lf) w) {res : Bool} (hF : share_in n least greatest = res) : Calls Tryz.prog 134 #[i6 n,i6 least,i6 greatest] w (fun e w => e = .returned (.bool res) ∧ Ctx G (Lf) w) := by
 unfold share_in at hF
 refine fnIn (args := [i6 n,i6 least,i6 greatest]) Tryz.func134 rfl Tryz.ntmps134 rfl fun a hf => wp_seq_k fun K1 h1 => cReg ?_
 refine stP hf rfl rfl rfl (pA rfl) fun a hf => cNil ?_
 refine h1 _ _ ?_
 refine wp_seq_k fun K2 h2 => cReg ?_
 refine stP hf rfl rfl rfl (pM rfl) fun a hf => stP hf rfl rfl rfl (pM rfl) fun a hf => stP hf rfl rfl rfl (pGe rfl rfl) fun a hf => stP hf rfl rfl rfl (pM rfl) fun a hf => stCut 4 (fun a w => Has 15 a [(0,i6 n),(1,i6 least),(2,i6 greatest),(6,.bool false),(7,i6 n),(8,i6 least),(9,.bool (decide (least ≤ n))),(10,.bool (decide (least ≤ n))),(14,.bool ((decide (least ≤ n)) && (decide (n ≤ greatest))))] ∧ Ctx G (Lf) w) ?_ ?_
 ·cases hb : (decide (least ≤ n))
  ·rw [hb] at hf
   refine stS hf rfl rfl rfl fun a hf => stS hf rfl rfl rfl fun a hf => stS hf rfl rfl rfl fun a hf => stP hf rfl rfl rfl (pPf rfl rfl) fun a hf => cNil ⟨hf.kp rfl,hc⟩
  ·rw [hb] at hf
   refine stP hf rfl rfl rfl (pM rfl) fun a hf => stP hf rfl rfl rfl (pM rfl) fun a hf => stP hf rfl rfl rfl (pLe rfl rfl) fun a hf => stP hf rfl rfl rfl (pPt rfl rfl) fun a hf => cNil ⟨hf.kp rfl,hc⟩
 intro a w ⟨hf,hc⟩
 refine stP hf rfl rfl rfl (pA rfl) fun a hf => cNil ?_
 refine h2 _ _ ?_
 refine wp_ret ?_
 obtain rfl := hF
 exact fnOut1 (by simp) rfl Tryz.results134 hf hc (show look _ 6 = _ from rfl) ⟨rfl,hc⟩

def share_claimed_1 (n : Int) : Bool :=
 (share_in n 1 1000000)
theorem share_claimed_1_ok {G : Pers} {Lf : List Ent} {w : World} (n : Int)   (hc : Ctx G (Lf) w) {res : Bool} (hF : share_claimed_1 n = res) : Calls Tryz.prog 175 #[i6 n] w (fun e w => e = .returned (.bool res) ∧ Ctx G (Lf) w) := by
 unfold share_claimed_1 at hF
 refine fnIn (args := [i6 n]) Tryz.func175 rfl Tryz.ntmps175 rfl fun a hf => wp_seq_k fun K1 h1 => cReg ?_
 refine stP hf rfl rfl rfl (pA rfl) fun a hf => cNil ?_
 refine h1 _ _ ?_
 refine wp_seq_k fun K2 h2 => cReg ?_
 refine stP hf rfl rfl rfl (pM rfl) fun a hf => stE hf hc rfl rfl rfl (eC (v := .bool (share_in n 1 1000000)) (vs := [i6 n,i6 1,i6 1000000]) (caps := []) en_134 rfl rfl rfl rfl (fun w hc => share_in_ok n 1 1000000 hc rfl)) fun a w hf hc => stP hf rfl rfl rfl (pA rfl) fun a hf => cNil ?_
 refine h2 _ _ ?_
 refine wp_ret ?_
 obtain rfl := hF
 exact fnOut1 (by simp) rfl Tryz.results175 hf hc (show look _ 2 = _ from rfl) ⟨rfl,hc⟩

def share_every_int_1 (x : Int) : Bool :=
 (!(share_claimed_1 x))
theorem share_every_int_1_ok {G : Pers} {Lf : List Ent} {w : World} (x : Int) {b_ : Nat}  (hc : Ctx G (.box b_ [.func (.func 175) #[] #[]] 143::Lf) w) {res : Bool} (hF : share_every_int_1 x = res) : Calls Tryz.prog 194 #[i6 x,pq b_] w (fun e w => e = .returned (.bool res) ∧ Ctx G (.box b_ [.func (.func 175) #[] #[]] 143::Lf) w) := by
 unfold share_every_int_1 at hF
 refine fnIn (args := [i6 x,pq b_]) Tryz.func194 rfl Tryz.ntmps194 rfl fun a hf => wp_seq_k fun K1 h1 => cReg ?_
 refine stP hf rfl rfl rfl (pA rfl) fun a hf => cNil ?_
 refine h1 _ _ ?_
 refine wp_seq_k fun K2 h2 => cReg ?_
 refine stE hf hc rfl rfl rfl (eLd1 sc_143 rfl (cell_box m0 rfl)) fun a w hf hc => stP hf rfl rfl rfl (pM rfl) fun a hf => stE hf hc rfl rfl rfl (eC (v := .bool (share_claimed_1 x)) (vs := [i6 x]) (caps := []) en_175 rfl rfl rfl rfl (fun w hc => share_claimed_1_ok x hc rfl)) fun a w hf hc => stP hf rfl rfl rfl (pNot rfl) fun a hf => stP hf rfl rfl rfl (pA rfl) fun a hf => cNil ?_
 refine h2 _ _ ?_
 refine wp_ret ?_
 obtain rfl := hF
 exact fnOut1 (by simp) rfl Tryz.results194 hf hc (show look _ 3 = _ from rfl) ⟨rfl,hc⟩

def slices_IndexFunc_Lint_int_b4 (N : Nat) (s_ : List Int) (x : Int) : Option (Step (Int) (Int)) :=
 cond (decide (x < ((s_.length : Nat) : Int)))
 (Option.bind (getI s_ x) fun e_1 =>
 cond (share_every_int_1 e_1)
 (some (.ret x))
 (some (.cont (W (x + 1)))))
 (some (.brk x))
def slices_IndexFunc_Lint_int (N : Nat) (s_ : List Int) : Option (Int) :=
 Option.bind (loopO (fun s4 => slices_IndexFunc_Lint_int_b4 N s_ s4) N 0) fun x4 =>
 exK x4 (fun s4 => some (-1)) some
theorem slices_IndexFunc_Lint_int_ok {N : Nat} {G : Pers} {Lf : List Ent} {w : World} (s_ : List Int) {s__p : Option Addr} {s__c : Nat} {b_ : Nat} (h_s_ : Rd G 1 s__p s__c (s_.map encI_i64)) (hc : Ctx G (.box b_ [.func (.func 175) #[] #[]] 143::Lf) w) {res : Int} (hF : slices_IndexFunc_Lint_int N s_ = some res) : Calls Tryz.prog 97 #[.slice s__p s_.length s__c,.func (.func 194) #[] #[pq b_]] w (fun e w => e = .returned (i6 res) ∧ Ctx G (.box b_ [.func (.func 175) #[] #[]] 143::Lf) w) := by
 unfold slices_IndexFunc_Lint_int at hF
 refine fnIn (args := [.slice s__p s_.length s__c,.func (.func 194) #[] #[pq b_]]) Tryz.func97 rfl Tryz.ntmps97 rfl fun a hf => wp_seq_k fun K1 h1 => cReg ?_
 refine stP hf rfl rfl rfl (pA rfl) fun a hf => cNil ?_
 refine h1 _ _ ?_
 refine wp_seq_k fun K2 h2 => wp_seq_k fun K3 h3 => cReg ?_
 refine stP hf rfl rfl rfl (pM rfl) fun a hf => stP hf rfl rfl rfl (pLenS Tryz.underlying25 rfl) fun a hf => stP hf rfl rfl rfl (pM rfl) fun a hf => cNil ?_
 refine h3 _ _ ?_
 refine wp_block ?_
 obtain ⟨x4,hx4,hF⟩ := bnd_some hF
 let S4 : Int → Act → World → Prop := (fun (zz : Int) a w => Has 19 a [(0,.slice s__p s_.length s__c),(1,.func (.func 194) #[] #[pq b_]),(7,i6 ((s_.length : Nat) : Int)),(8,i6 zz)] ∧ Ctx G (.box b_ [.func (.func 175) #[] #[]] 143::Lf) w)
 have hr4 : ∀ (zz : Int) a w,x4 = .go zz → S4 zz a w → K2 a w := by
  rintro x a w rfl ⟨hf,hc⟩
  replace hF := exK_go hF
  refine h2 _ _ ?_
  refine wp_seq_k fun K5 h5 => cReg ?_
  refine stP hf rfl rfl rfl (pA rfl) fun a hf => cNil ?_
  refine h5 _ _ ?_
  refine wp_ret ?_
  obtain rfl := sj hF
  exact fnOut1 (by simp) rfl Tryz.results97 hf hc (show look _ 4 = _ from rfl) ⟨rfl,hc⟩
 have ho4 : ∀ r,x4 = .out r → r = res := by
  rintro r rfl
  exact sj hF
 refine cLoop N (loopW (S := S4) (x := x4) ?_ N 0 _ _ ⟨hf.kp rfl,hc⟩ hx4)
 clear hF hf hc
 rintro x st4 a w KB4 ⟨hf,hc⟩ hF hfin4 hK4
 unfold slices_IndexFunc_Lint_int_b4 at hF
 refine wp_seq_k fun K6 h6 => cReg ?_
 refine stP hf rfl rfl rfl (pLt rfl rfl) fun a hf => cNil ?_
 refine h6 _ _ ?_
 refine wp_seq_k fun K7 h7 => cCond (b := (decide (x < ((s_.length : Nat) : Int)))) hf rfl (fun hb => ?_) (fun hb => ?_)
 ·replace hF := condT hb hF
  clear hb
  refine wp_skip ?_
  refine h7 _ _ ?_
  refine wp_seq_k fun K8 h8 => wp_block ?_
  refine wp_seq_k fun K9 h9 => cReg ?_
  refine stP hf rfl rfl rfl (pM rfl) fun a hf => stP hf rfl rfl rfl (pA rfl) fun a hf => cNil ?_
  refine h9 _ _ ?_
  refine wp_seq_k fun K10 h10 => cReg ?_
  refine stP hf rfl rfl rfl (pM rfl) fun a hf => stP hf rfl rfl rfl (pM rfl) fun a hf => stP hf rfl rfl rfl (pM rfl) fun a hf => ?_
  obtain ⟨e_1,he_1,hF⟩ := bnd_some hF
  obtain ⟨b_1,o,qa,qp⟩ := h_s_.atm he_1
  refine stP hf rfl rfl rfl (pIA Tryz.underlying25 sz_3 rfl rfl qa) fun a hf => stE hf hc rfl rfl rfl (eLd1 sc_3 rfl (cell_pc (j := 0) qp rfl)) fun a w hf hc => stE hf hc rfl rfl rfl (eC (v := .bool (share_every_int_1 e_1)) (vs := [i6 e_1]) (caps := [pq b_]) en_194 rfl rfl rfl rfl (fun w hc => (share_every_int_1_ok e_1 (hc.pick k0) rfl).mono fun e w h => ⟨h.1,(h.2.unpick k0)⟩)) fun a w hf hc => cNil ?_
  refine h10 _ _ ?_
  refine cCond (b := (share_every_int_1 e_1)) hf rfl (fun hb => ?_) (fun hb => ?_)
  ·replace hF := condT hb hF
   clear hb
   refine wp_seq_k fun K11 h11 => cReg ?_
   refine stP hf rfl rfl rfl (pM rfl) fun a hf => stP hf rfl rfl rfl (pA rfl) fun a hf => cNil ?_
   refine h11 _ _ ?_
   refine wp_ret ?_
   refine xBlkR ?_
   refine xThenR ?_
   refine xThenR ?_
   have he := sj hF
   rw [← he] at hfin4
   replace hF := ho4 _ hfin4
   refine xBlkR ?_
   refine xThenR ?_
   obtain rfl := hF
   exact fnOut1 (by simp) rfl Tryz.results97 hf hc (show look _ 4 = _ from rfl) ⟨rfl,hc⟩
  ·replace hF := condF hb hF
   clear hb
   refine wp_skip ?_
   refine h8 _ _ ?_
   refine cReg ?_
   refine stP hf rfl rfl rfl (pAdd rfl rfl) fun a hf => stP hf rfl rfl rfl (pM rfl) fun a hf => cNil ?_
   exact hK4 (W (x + 1)) _ _ (sj hF).symm ⟨hf.kp rfl,hc⟩
 ·replace hF := condF hb hF
  clear hb
  refine wp_exit ?_
  refine xThen ?_
  refine xThen ?_
  have he := sj hF
  rw [← he] at hfin4
  refine cHit ?_
  exact hr4 _ _ _ hfin4 ⟨hf.kp rfl,hc⟩

def slices_ContainsFunc_Lint_int (N : Nat) (s_ : List Int) : Option (Bool) :=
 Option.bind (slices_IndexFunc_Lint_int N s_) fun r =>
 some (decide (0 ≤ r))
theorem slices_ContainsFunc_Lint_int_ok {N : Nat} {G : Pers} {Lf : List Ent} {w : World} (s_ : List Int) {s__p : Option Addr} {s__c : Nat} {b_ : Nat} (h_s_ : Rd G 1 s__p s__c (s_.map encI_i64)) (hc : Ctx G (.box b_ [.func (.func 175) #[] #[]] 143::Lf) w) {res : Bool} (hF : slices_ContainsFunc_Lint_int N s_ = some res) : Calls Tryz.prog 113 #[.slice s__p s_.length s__c,.func (.func 194) #[] #[pq b_]] w (fun e w => e = .returned (.bool res) ∧ Ctx G (.box b_ [.func (.func 175) #[] #[]] 143::Lf) w) := by
 unfold slices_ContainsFunc_Lint_int at hF
 refine fnIn (args := [.slice s__p s_.length s__c,.func (.func 194) #[] #[pq b_]]) Tryz.func113 rfl Tryz.ntmps113 rfl fun a hf => wp_seq_k fun K1 h1 => cReg ?_
 refine stP hf rfl rfl rfl (pA rfl) fun a hf => cNil ?_
 refine h1 _ _ ?_
 refine wp_seq_k fun K2 h2 => cReg ?_
 refine stP hf rfl rfl rfl (pM rfl) fun a hf => stP hf rfl rfl rfl (pM rfl) fun a hf => ?_
 obtain ⟨r,hr,hF⟩ := bnd_some hF
 refine stE hf hc rfl rfl rfl (eC (v := i6 r) (vs := [.slice s__p s_.length s__c,.func (.func 194) #[] #[pq b_]]) (caps := []) en_97 rfl rfl rfl rfl (fun w hc => (slices_IndexFunc_Lint_int_ok s_ h_s_ (hc.pick k0) hr).mono fun e w h => ⟨h.1,(h.2.unpick k0)⟩)) fun a w hf hc => stP hf rfl rfl rfl (pGe rfl rfl) fun a hf => stP hf rfl rfl rfl (pA rfl) fun a hf => cNil ?_
 refine h2 _ _ ?_
 refine wp_ret ?_
 obtain rfl := sj hF
 exact fnOut1 (by simp) rfl Tryz.results113 hf hc (show look _ 4 = _ from rfl) ⟨rfl,hc⟩

def share_every_int (N : Nat) (l : List Int) : Option (Bool) :=
 Option.bind (slices_ContainsFunc_Lint_int N l) fun r =>
 some (!r)
theorem share_every_int_ok {N : Nat} {G : Pers} {Lf : List Ent} {w : World} (l : List Int) {l_p : Option Addr} {l_c : Nat} (h_l : Rd G 1 l_p l_c (l.map encI_i64)) (hc : Ctx G (Lf) w) {res : Bool} (hF : share_every_int N l = some res) : Calls Tryz.prog 174 #[.slice l_p l.length l_c,.func (.func 175) #[] #[]] w (fun e w => e = .returned (.bool res) ∧ Ctx G (Lf) w) := by
 unfold share_every_int at hF
 refine fnIn (args := [.slice l_p l.length l_c,.func (.func 175) #[] #[]]) Tryz.func174 rfl Tryz.ntmps174 rfl fun a hf => wp_seq_k fun K1 h1 => cReg ?_
 refine stBx (cs := [.func (.func 175) #[] #[]]) hf hc rfl rfl rfl rfl fun b_1 a w hf hc => stP hf rfl rfl rfl (pA rfl) fun a hf => cNil ?_
 refine h1 _ _ ?_
 refine wp_seq_k fun K2 h2 => cReg ?_
 refine stP hf rfl rfl rfl (pM rfl) fun a hf => stP hf rfl rfl rfl (pMF (us := [pq b_1]) rfl rfl) fun a hf => ?_
 obtain ⟨r,hr,hF⟩ := bnd_some hF
 refine stE hf hc rfl rfl rfl (eC (v := .bool r) (vs := [.slice l_p l.length l_c,.func (.func 194) #[] #[pq b_1]]) (caps := []) en_113 rfl rfl rfl rfl (fun w hc => (slices_ContainsFunc_Lint_int_ok l h_l (hc.pick k0) hr).mono fun e w h => ⟨h.1,(h.2.unpick k0)⟩)) fun a w hf hc => stP hf rfl rfl rfl (pNot rfl) fun a hf => stP hf rfl rfl rfl (pA rfl) fun a hf => cNil ?_
 refine h2 _ _ ?_
 refine wp_ret ?_
 obtain rfl := sj hF
 replace hc := hc.drop k0
 exact fnOut1 (by simp) rfl Tryz.results174 hf hc (show look _ 4 = _ from rfl) ⟨rfl,hc⟩

def share_claimed (N : Nat) (claims : List Int) : Option (Int) :=
 cond (!(share_in ((claims.length : Nat) : Int) 1 12))
 (some 3)
 (Option.bind (share_every_int N claims) fun r =>
 cond (!r)
 (some 4)
 (some 0))
theorem share_claimed_ok {N : Nat} {G : Pers} {Lf : List Ent} {w : World} (claims : List Int) {claims_p : Option Addr} {claims_c : Nat} (h_claims : Rd G 1 claims_p claims_c (claims.map encI_i64)) (hc : Ctx G (Lf) w) {res : Int} (hF : share_claimed N claims = some res) : Calls Tryz.prog 133 #[.slice claims_p claims.length claims_c] w (fun e w => e = .returned (i6 res) ∧ Ctx G (Lf) w) := by
 unfold share_claimed at hF
 refine fnIn (args := [.slice claims_p claims.length claims_c]) Tryz.func133 rfl Tryz.ntmps133 rfl fun a hf => wp_seq_k fun K1 h1 => cReg ?_
 refine stP hf rfl rfl rfl (pA rfl) fun a hf => cNil ?_
 refine h1 _ _ ?_
 refine wp_seq_k fun K2 h2 => wp_block ?_
 refine wp_seq_k fun K3 h3 => cReg ?_
 refine stP hf rfl rfl rfl (pM rfl) fun a hf => stP hf rfl rfl rfl (pLenS Tryz.underlying25 rfl) fun a hf => stE hf hc rfl rfl rfl (eC (v := .bool (share_in ((claims.length : Nat) : Int) 1 12)) (vs := [i6 ((claims.length : Nat) : Int),i6 1,i6 12]) (caps := []) en_134 rfl rfl rfl rfl (fun w hc => share_in_ok ((claims.length : Nat) : Int) 1 12 hc rfl)) fun a w hf hc => stP hf rfl rfl rfl (pNot rfl) fun a hf => stP hf rfl rfl rfl (pA rfl) fun a hf => cNil ?_
 refine h3 _ _ ?_
 refine cCond (b := (!(share_in ((claims.length : Nat) : Int) 1 12))) hf rfl (fun hb => ?_) (fun hb => ?_)
 ·replace hF := condT hb hF
  clear hb
  refine wp_seq_k fun K4 h4 => cReg ?_
  refine stP hf rfl rfl rfl (pA rfl) fun a hf => cNil ?_
  refine h4 _ _ ?_
  refine wp_ret ?_
  refine xBlkR ?_
  refine xThenR ?_
  obtain rfl := sj hF
  exact fnOut1 (by simp) rfl Tryz.results133 hf hc (show look _ 2 = _ from rfl) ⟨rfl,hc⟩
 ·replace hF := condF hb hF
  clear hb
  refine wp_seq_k fun K5 h5 => cReg ?_
  refine stP hf rfl rfl rfl (pM rfl) fun a hf => ?_
  obtain ⟨r,hr,hF⟩ := bnd_some hF
  refine stE hf hc rfl rfl rfl (eC (v := .bool r) (vs := [.slice claims_p claims.length claims_c,.func (.func 175) #[] #[]]) (caps := []) en_174 rfl rfl rfl rfl (fun w hc => share_every_int_ok claims h_claims hc hr)) fun a w hf hc => stP hf rfl rfl rfl (pNot rfl) fun a hf => stP hf rfl rfl rfl (pA rfl) fun a hf => cNil ?_
  refine h5 _ _ ?_
  refine cCond (b := (!r)) hf rfl (fun hb => ?_) (fun hb => ?_)
  ·replace hF := condT hb hF
   clear hb
   refine wp_seq_k fun K6 h6 => cReg ?_
   refine stP hf rfl rfl rfl (pA rfl) fun a hf => cNil ?_
   refine h6 _ _ ?_
   refine wp_ret ?_
   refine xBlkR ?_
   refine xThenR ?_
   obtain rfl := sj hF
   exact fnOut1 (by simp) rfl Tryz.results133 hf hc (show look _ 2 = _ from rfl) ⟨rfl,hc⟩
  ·replace hF := condF hb hF
   clear hb
   refine wp_skip ?_
   refine h2 _ _ ?_
   refine wp_seq_k fun K7 h7 => cReg ?_
   refine stP hf rfl rfl rfl (pA rfl) fun a hf => cNil ?_
   refine h7 _ _ ?_
   refine wp_ret ?_
   obtain rfl := sj hF
   exact fnOut1 (by simp) rfl Tryz.results133 hf hc (show look _ 2 = _ from rfl) ⟨rfl,hc⟩

def share_Rule_right (r : Int) : Bool :=
 ((decide (0 ≤ r)) && (decide (r ≤ 2)))
theorem share_Rule_right_ok {G : Pers} {Lf : List Ent} {w : World} (r : Int)   (hc : Ctx G (Lf) w) {res : Bool} (hF : share_Rule_right r = res) : Calls Tryz.prog 135 #[i6 r] w (fun e w => e = .returned (.bool res) ∧ Ctx G (Lf) w) := by
 unfold share_Rule_right at hF
 refine fnIn (args := [i6 r]) Tryz.func135 rfl Tryz.ntmps135 rfl fun a hf => wp_seq_k fun K1 h1 => cReg ?_
 refine stP hf rfl rfl rfl (pA rfl) fun a hf => cNil ?_
 refine h1 _ _ ?_
 refine wp_seq_k fun K2 h2 => cReg ?_
 refine stP hf rfl rfl rfl (pM rfl) fun a hf => stP hf rfl rfl rfl (pGe rfl rfl) fun a hf => stP hf rfl rfl rfl (pM rfl) fun a hf => stCut 3 (fun a w => Has 9 a [(0,i6 r),(2,.bool false),(3,i6 r),(4,.bool (decide (0 ≤ r))),(5,.bool (decide (0 ≤ r))),(8,.bool ((decide (0 ≤ r)) && (decide (r ≤ 2))))] ∧ Ctx G (Lf) w) ?_ ?_
 ·cases hb : (decide (0 ≤ r))
  ·rw [hb] at hf
   refine stS hf rfl rfl rfl fun a hf => stS hf rfl rfl rfl fun a hf => stP hf rfl rfl rfl (pPf rfl rfl) fun a hf => cNil ⟨hf.kp rfl,hc⟩
  ·rw [hb] at hf
   refine stP hf rfl rfl rfl (pM rfl) fun a hf => stP hf rfl rfl rfl (pLe rfl rfl) fun a hf => stP hf rfl rfl rfl (pPt rfl rfl) fun a hf => cNil ⟨hf.kp rfl,hc⟩
 intro a w ⟨hf,hc⟩
 refine stP hf rfl rfl rfl (pA rfl) fun a hf => cNil ?_
 refine h2 _ _ ?_
 refine wp_ret ?_
 obtain rfl := hF
 exact fnOut1 (by simp) rfl Tryz.results135 hf hc (show look _ 2 = _ from rfl) ⟨rfl,hc⟩

def share_Rule_day (N : Nat) (r : Int) (claim : Int) (n : Int) : Option (share_quotient) :=
 cond (r == 0)
 (some (⟨W (2 * claim),W (2 * n)⟩ : share_quotient))
 (cond (r == 1)
 (some (⟨W (2 * claim),W ((W (2 * n)) - 1)⟩ : share_quotient))
 (some (⟨W (2 * claim),W ((W (2 * n)) - 2)⟩ : share_quotient)))
theorem share_Rule_day_ok {N : Nat} {G : Pers} {Lf : List Ent} {w : World} (r : Int) (claim : Int) (n : Int)   (hc : Ctx G (Lf) w) {res : share_quotient} (hF : share_Rule_day N r claim n = some res) : Calls Tryz.prog 136 #[i6 r,i6 claim,i6 n] w (fun e w => e = .returned (.agg #[i6 res.claim,i6 res.by_]) ∧ Ctx G (Lf) w) := by
 unfold share_Rule_day at hF
 refine fnIn (args := [i6 r,i6 claim,i6 n]) Tryz.func136 rfl Tryz.ntmps136 rfl fun a hf => wp_seq_k fun K1 h1 => cReg ?_
 refine stAl (cs := [i6 0,i6 0]) hf hc rfl rfl zr_197 rfl fun b_1 a w hf hc => cNil ?_
 refine h1 _ _ ?_
 refine wp_seq_k fun K2 h2 => wp_seq_k fun K3 h3 => cReg ?_
 refine stP hf rfl rfl rfl (pM rfl) fun a hf => cNil ?_
 refine h3 _ _ ?_
 refine wp_block ?_
 refine wp_seq_k fun K4 h4 => cReg ?_
 refine stP hf rfl rfl rfl (pEq rfl rfl) fun a hf => stP hf rfl rfl rfl (pA rfl) fun a hf => cNil ?_
 refine h4 _ _ ?_
 refine cCond (b := (r == 0)) hf rfl (fun hb => ?_) (fun hb => ?_)
 ·replace hF := condT hb hF
  clear hb
  refine wp_seq_k fun K5 h5 => cReg ?_
  refine stP hf rfl rfl rfl (pM rfl) fun a hf => stP hf rfl rfl rfl (pMul rfl rfl) fun a hf => stP hf rfl rfl rfl (pM rfl) fun a hf => stP hf rfl rfl rfl (pMul rfl rfl) fun a hf => stP hf rfl rfl rfl (pBuildS (cells := [i6 (W (2 * claim)),i6 (W (2 * n))]) bt_197 rfl rfl) fun a hf => stSt (vs := [i6 (W (2 * claim)),i6 (W (2 * n))]) hf hc rfl rfl rfl rfl sz_197 rfl rfl u0 fun w hc => cNil ?_
  refine h5 _ _ ?_
  refine wp_ret ?_
  refine xBlkR ?_
  refine xThenR ?_
  obtain rfl := sj hF
  exact fnOut1 (by simp) rfl Tryz.results136 hf hc (rv_cellN (vs := [i6 (W (2 * claim)),i6 (W (2 * n))]) ag_197 rfl rfl (cells_box (n := 2) m0 rfl)) ⟨rfl,(hc.drop k0)⟩
 ·replace hF := condF hb hF
  clear hb
  refine wp_seq_k fun K6 h6 => cReg ?_
  refine stP hf rfl rfl rfl (pEq rfl rfl) fun a hf => stP hf rfl rfl rfl (pA rfl) fun a hf => cNil ?_
  refine h6 _ _ ?_
  refine cCond (b := (r == 1)) hf rfl (fun hb => ?_) (fun hb => ?_)
  ·replace hF := condT hb hF
   clear hb
   refine wp_seq_k fun K7 h7 => cReg ?_
   refine stP hf rfl rfl rfl (pM rfl) fun a hf => stP hf rfl rfl rfl (pMul rfl rfl) fun a hf => stP hf rfl rfl rfl (pM rfl) fun a hf => stP hf rfl rfl rfl (pMul rfl rfl) fun a hf => stP hf rfl rfl rfl (pSub rfl rfl) fun a hf => stP hf rfl rfl rfl (pBuildS (cells := [i6 (W (2 * claim)),i6 (W ((W (2 * n)) - 1))]) bt_197 rfl rfl) fun a hf => stSt (vs := [i6 (W (2 * claim)),i6 (W ((W (2 * n)) - 1))]) hf hc rfl rfl rfl rfl sz_197 rfl rfl u0 fun w hc => cNil ?_
   refine h7 _ _ ?_
   refine wp_ret ?_
   refine xBlkR ?_
   refine xThenR ?_
   obtain rfl := sj hF
   exact fnOut1 (by simp) rfl Tryz.results136 hf hc (rv_cellN (vs := [i6 (W (2 * claim)),i6 (W ((W (2 * n)) - 1))]) ag_197 rfl rfl (cells_box (n := 2) m0 rfl)) ⟨rfl,(hc.drop k0)⟩
  ·replace hF := condF hb hF
   clear hb
   refine wp_skip ?_
   refine h2 _ _ ?_
   refine wp_seq_k fun K8 h8 => cReg ?_
   refine stP hf rfl rfl rfl (pM rfl) fun a hf => stP hf rfl rfl rfl (pMul rfl rfl) fun a hf => stP hf rfl rfl rfl (pM rfl) fun a hf => stP hf rfl rfl rfl (pMul rfl rfl) fun a hf => stP hf rfl rfl rfl (pSub rfl rfl) fun a hf => stP hf rfl rfl rfl (pBuildS (cells := [i6 (W (2 * claim)),i6 (W ((W (2 * n)) - 2))]) bt_197 rfl rfl) fun a hf => stSt (vs := [i6 (W (2 * claim)),i6 (W ((W (2 * n)) - 2))]) hf hc rfl rfl rfl rfl sz_197 rfl rfl u0 fun w hc => cNil ?_
   refine h8 _ _ ?_
   refine wp_ret ?_
   obtain rfl := sj hF
   exact fnOut1 (by simp) rfl Tryz.results136 hf hc (rv_cellN (vs := [i6 (W (2 * claim)),i6 (W ((W (2 * n)) - 2))]) ag_197 rfl rfl (cells_box (n := 2) m0 rfl)) ⟨rfl,(hc.drop k0)⟩

def share_quotient_more (q : share_quotient) (r : share_quotient) : Bool :=
 (decide ((W (r.claim * q.by_)) < (W (q.claim * r.by_))))
theorem share_quotient_more_ok {G : Pers} {Lf : List Ent} {w : World} (q : share_quotient) (r : share_quotient)   (hc : Ctx G (Lf) w) {res : Bool} (hF : share_quotient_more q r = res) : Calls Tryz.prog 137 #[.agg #[i6 q.claim,i6 q.by_],.agg #[i6 r.claim,i6 r.by_]] w (fun e w => e = .returned (.bool res) ∧ Ctx G (Lf) w) := by
 unfold share_quotient_more at hF
 refine fnIn (args := [.agg #[i6 q.claim,i6 q.by_],.agg #[i6 r.claim,i6 r.by_]]) Tryz.func137 rfl Tryz.ntmps137 rfl fun a hf => wp_seq_k fun K1 h1 => cReg ?_
 refine stBx (cs := [i6 q.claim,i6 q.by_]) hf hc rfl rfl rfl rfl fun b_1 a w hf hc => stBx (cs := [i6 r.claim,i6 r.by_]) hf hc rfl rfl rfl rfl fun b_2 a w hf hc => stP hf rfl rfl rfl (pA rfl) fun a hf => cNil ?_
 refine h1 _ _ ?_
 refine wp_seq_k fun K2 h2 => cReg ?_
 refine stP hf rfl rfl rfl (pFA fa_197_0 rfl) fun a hf => stE hf hc rfl rfl rfl (eLd1 sc_3 rfl (cell_box m1 rfl)) fun a w hf hc => stP hf rfl rfl rfl (pFA fa_197_1 rfl) fun a hf => stE hf hc rfl rfl rfl (eLd1 sc_3 rfl (cell_box m0 rfl)) fun a w hf hc => stP hf rfl rfl rfl (pMul rfl rfl) fun a hf => stP hf rfl rfl rfl (pFA fa_197_0 rfl) fun a hf => stE hf hc rfl rfl rfl (eLd1 sc_3 rfl (cell_box m0 rfl)) fun a w hf hc => stP hf rfl rfl rfl (pFA fa_197_1 rfl) fun a hf => stE hf hc rfl rfl rfl (eLd1 sc_3 rfl (cell_box m1 rfl)) fun a w hf hc => stP hf rfl rfl rfl (pMul rfl rfl) fun a hf => stP hf rfl rfl rfl (pGt rfl rfl) fun a hf => stP hf rfl rfl rfl (pA rfl) fun a hf => cNil ?_
 refine h2 _ _ ?_
 refine wp_ret ?_
 obtain rfl := hF
 replace hc := hc.drop k1
 replace hc := hc.drop k0
 exact fnOut1 (by simp) rfl Tryz.results137 hf hc (show look _ 4 = _ from rfl) ⟨rfl,hc⟩

def share_Turns_j26 (N : Nat) (x_1 : Int) (who_1 : Int) (x_4 : Int) (x_5 : Int) : Option (Step (Int × Int × Int × Int) (Step ((List Int) × Int) ((List Int) × Int))) :=
 some (.cont (who_1,W (x_1 + 1),x_4,x_5))
def share_Turns_b23 (N : Nat) (claims : List Int) (rule : Int) (out : List Int) (who : Int) (x_1 : Int) (x_2 : Int) (x_3 : Int) : Option (Step (Int × Int × Int × Int) (Step ((List Int) × Int) ((List Int) × Int))) :=
 cond (decide (x_1 < ((claims.length : Nat) : Int)))
 (Option.bind (getI claims x_1) fun e_5 =>
 Option.bind (getI out x_1) fun e_6 =>
 Option.bind (share_Rule_day N rule e_5 (W (e_6 + 1))) fun r_2 =>
 cond ((!(r_2.claim == x_2 && r_2.by_ == x_3)) && (share_quotient_more r_2 (⟨x_2,x_3⟩ : share_quotient)))
 (share_Turns_j26 N x_1 x_1 r_2.claim r_2.by_)
 (share_Turns_j26 N x_1 who x_2 x_3))
 (some (.brk (who,x_1,x_2,x_3)))
def share_Turns_b15 (N : Nat) (claims : List Int) (days : Int) (rule : Int) (out : List Int) (x : Int) : Option (Step ((List Int) × Int) ((List Int) × Int)) :=
 cond (decide (x < days))
 (Option.bind (getI claims 0) fun e_1 =>
 Option.bind (getI out 0) fun e_2 =>
 Option.bind (share_Rule_day N rule e_1 (W (e_2 + 1))) fun r_1 =>
 Option.bind (loopO (fun s23 => share_Turns_b23 N claims rule out s23.1 s23.2.1 s23.2.2.1 s23.2.2.2) N (0,0,r_1.claim,r_1.by_)) fun x23 =>
 exK x23 (fun s23 => Option.bind (getI out s23.1) fun e_3 =>
 Option.bind (getI out s23.1) fun e_4 =>
 some (.cont ((out.set s23.1.toNat (W (e_3 + 1))),W (x + 1)))) some)
 (some (.brk (out,x)))
def share_Turns (N : Nat) (claims : List Int) (days : Int) (rule : Int) : Option ((List Int) × Int) :=
 Option.bind (share_claimed N claims) fun r =>
 cond (r != 0)
 (some (([] : List Int),r))
 (cond (!(share_in days 1 366))
 (some (([] : List Int),4))
 (cond (!(share_Rule_right rule))
 (some (([] : List Int),2))
 (cond ((rule == 2) && (decide (days < ((claims.length : Nat) : Int))))
 (some (([] : List Int),6))
 (Option.bind (inM ((claims.length : Nat) : Int)) fun un =>
 Option.bind (loopO (fun s15 => share_Turns_b15 N claims days rule s15.1 s15.2) N ((List.replicate ((claims.length : Nat) : Int).toNat (0 : Int)),0)) fun x15 =>
 exK x15 (fun s15 => some (s15.1,0)) some))))
theorem share_Turns_ok {N : Nat} {G : Pers} {Lf : List Ent} {w : World} (claims : List Int) (days : Int) (rule : Int) {claims_p : Option Addr} {claims_c : Nat} (h_claims : Rd G 1 claims_p claims_c (claims.map encI_i64)) (hc : Ctx G (Lf) w) {res : (List Int) × Int} (hF : share_Turns N claims days rule = some res) : Calls Tryz.prog 70 #[.slice claims_p claims.length claims_c,i6 days,i6 rule] w (fun e w => ∃ (p'1 : Option Addr) (c'1 : Nat),e = .returned (.tuple #[.slice p'1 res.1.length c'1,i6 res.2]) ∧ Ctx G (.row p'1 c'1 (res.1.map encI_i64) 3 1::Lf) w) := by
 unfold share_Turns at hF
 refine fnIn (args := [.slice claims_p claims.length claims_c,i6 days,i6 rule]) Tryz.func70 rfl Tryz.ntmps70 rfl fun a hf => wp_seq_k fun K1 h1 => cReg ?_
 refine stP hf rfl rfl rfl (pA rfl) fun a hf => stP hf rfl rfl rfl (pA rfl) fun a hf => cNil ?_
 refine h1 _ _ ?_
 refine wp_seq_k fun K2 h2 => cReg ?_
 refine stP hf rfl rfl rfl (pM rfl) fun a hf => ?_
 obtain ⟨r,hr,hF⟩ := bnd_some hF
 refine stE hf hc rfl rfl rfl (eC (v := i6 r) (vs := [.slice claims_p claims.length claims_c]) (caps := []) en_133 rfl rfl rfl rfl (fun w hc => share_claimed_ok claims h_claims hc hr)) fun a w hf hc => stP hf rfl rfl rfl (pA rfl) fun a hf => cNil ?_
 refine h2 _ _ ?_
 refine wp_seq_k fun K3 h3 => wp_block ?_
 refine wp_seq_k fun K4 h4 => cReg ?_
 refine stP hf rfl rfl rfl (pM rfl) fun a hf => stP hf rfl rfl rfl (pNe rfl rfl) fun a hf => stP hf rfl rfl rfl (pA rfl) fun a hf => cNil ?_
 refine h4 _ _ ?_
 refine cCond (b := (r != 0)) hf rfl (fun hb => ?_) (fun hb => ?_)
 ·replace hF := condT hb hF
  clear hb
  refine wp_seq_k fun K5 h5 => cReg ?_
  refine stP hf rfl rfl rfl (pM rfl) fun a hf => stP hf rfl rfl rfl (pA rfl) fun a hf => stP hf rfl rfl rfl (pA rfl) fun a hf => cNil ?_
  refine h5 _ _ ?_
  refine wp_ret ?_
  refine xBlkR ?_
  refine xThenR ?_
  obtain rfl := sj hF
  replace hc := hc.nilRow 3 1
  exact fnOut2 (by simp) rfl Tryz.results70 hf hc (show look _ 6 = _ from rfl) (show look _ 7 = _ from rfl) ⟨none,0,rfl,hc⟩
 ·replace hF := condF hb hF
  clear hb
  refine wp_seq_k fun K6 h6 => cReg ?_
  refine stP hf rfl rfl rfl (pM rfl) fun a hf => stE hf hc rfl rfl rfl (eC (v := .bool (share_in days 1 366)) (vs := [i6 days,i6 1,i6 366]) (caps := []) en_134 rfl rfl rfl rfl (fun w hc => share_in_ok days 1 366 hc rfl)) fun a w hf hc => stP hf rfl rfl rfl (pNot rfl) fun a hf => stP hf rfl rfl rfl (pA rfl) fun a hf => cNil ?_
  refine h6 _ _ ?_
  refine cCond (b := (!(share_in days 1 366))) hf rfl (fun hb => ?_) (fun hb => ?_)
  ·replace hF := condT hb hF
   clear hb
   refine wp_seq_k fun K7 h7 => cReg ?_
   refine stP hf rfl rfl rfl (pA rfl) fun a hf => stP hf rfl rfl rfl (pA rfl) fun a hf => cNil ?_
   refine h7 _ _ ?_
   refine wp_ret ?_
   refine xBlkR ?_
   refine xThenR ?_
   obtain rfl := sj hF
   replace hc := hc.nilRow 3 1
   exact fnOut2 (by simp) rfl Tryz.results70 hf hc (show look _ 6 = _ from rfl) (show look _ 7 = _ from rfl) ⟨none,0,rfl,hc⟩
  ·replace hF := condF hb hF
   clear hb
   refine wp_seq_k fun K8 h8 => cReg ?_
   refine stP hf rfl rfl rfl (pM rfl) fun a hf => stE hf hc rfl rfl rfl (eC (v := .bool (share_Rule_right rule)) (vs := [i6 rule]) (caps := []) en_135 rfl rfl rfl rfl (fun w hc => share_Rule_right_ok rule hc rfl)) fun a w hf hc => stP hf rfl rfl rfl (pNot rfl) fun a hf => stP hf rfl rfl rfl (pA rfl) fun a hf => cNil ?_
   refine h8 _ _ ?_
   refine cCond (b := (!(share_Rule_right rule))) hf rfl (fun hb => ?_) (fun hb => ?_)
   ·replace hF := condT hb hF
    clear hb
    refine wp_seq_k fun K9 h9 => cReg ?_
    refine stP hf rfl rfl rfl (pA rfl) fun a hf => stP hf rfl rfl rfl (pA rfl) fun a hf => cNil ?_
    refine h9 _ _ ?_
    refine wp_ret ?_
    refine xBlkR ?_
    refine xThenR ?_
    obtain rfl := sj hF
    replace hc := hc.nilRow 3 1
    exact fnOut2 (by simp) rfl Tryz.results70 hf hc (show look _ 6 = _ from rfl) (show look _ 7 = _ from rfl) ⟨none,0,rfl,hc⟩
   ·replace hF := condF hb hF
    clear hb
    refine wp_seq_k fun K10 h10 => cReg ?_
    refine stP hf rfl rfl rfl (pM rfl) fun a hf => stP hf rfl rfl rfl (pEq rfl rfl) fun a hf => stP hf rfl rfl rfl (pM rfl) fun a hf => stCut 5 (fun a w => Has 87 a [(0,.slice claims_p claims.length claims_c),(1,i6 days),(2,i6 rule),(30,i6 rule),(31,.bool (rule == 2)),(32,.bool (rule == 2)),(37,.bool ((rule == 2) && (decide (days < ((claims.length : Nat) : Int)))))] ∧ Ctx G (Lf) w) ?_ ?_
    ·cases hb : (rule == 2)
     ·rw [hb] at hf
      refine stS hf rfl rfl rfl fun a hf => stS hf rfl rfl rfl fun a hf => stS hf rfl rfl rfl fun a hf => stS hf rfl rfl rfl fun a hf => stP hf rfl rfl rfl (pPf rfl rfl) fun a hf => cNil ⟨hf.kp rfl,hc⟩
     ·rw [hb] at hf
      refine stP hf rfl rfl rfl (pM rfl) fun a hf => stP hf rfl rfl rfl (pM rfl) fun a hf => stP hf rfl rfl rfl (pLenS Tryz.underlying25 rfl) fun a hf => stP hf rfl rfl rfl (pLt rfl rfl) fun a hf => stP hf rfl rfl rfl (pPt rfl rfl) fun a hf => cNil ⟨hf.kp rfl,hc⟩
    intro a w ⟨hf,hc⟩
    refine stP hf rfl rfl rfl (pA rfl) fun a hf => cNil ?_
    refine h10 _ _ ?_
    refine cCond (b := ((rule == 2) && (decide (days < ((claims.length : Nat) : Int))))) hf rfl (fun hb => ?_) (fun hb => ?_)
    ·replace hF := condT hb hF
     clear hb
     refine wp_seq_k fun K11 h11 => cReg ?_
     refine stP hf rfl rfl rfl (pA rfl) fun a hf => stP hf rfl rfl rfl (pA rfl) fun a hf => cNil ?_
     refine h11 _ _ ?_
     refine wp_ret ?_
     refine xBlkR ?_
     refine xThenR ?_
     obtain rfl := sj hF
     replace hc := hc.nilRow 3 1
     exact fnOut2 (by simp) rfl Tryz.results70 hf hc (show look _ 6 = _ from rfl) (show look _ 7 = _ from rfl) ⟨none,0,rfl,hc⟩
    ·replace hF := condF hb hF
     clear hb
     refine wp_skip ?_
     refine h3 _ _ ?_
     refine wp_seq_k fun K12 h12 => cReg ?_
     refine stP hf rfl rfl rfl (pM rfl) fun a hf => stP hf rfl rfl rfl (pLenS Tryz.underlying25 rfl) fun a hf => ?_
     obtain ⟨un,hun,hF⟩ := bnd_some hF
     refine stMk (m := (List.replicate ((claims.length : Nat) : Int).toNat (0 : Int)).length) (rows := (List.replicate ((claims.length : Nat) : Int).toNat (0 : Int)).map encI_i64) hf hc rfl rfl sl_25 rfl rfl (inM_spec hun) rfl rfl (by simp [List.map_replicate,Value.cells]) (by simp) fun b_1 a w hf hc => stP hf rfl rfl rfl (pA rfl) fun a hf => cNil ?_
     refine h12 _ _ ?_
     refine wp_seq_k fun K13 h13 => wp_seq_k fun K14 h14 => cReg ?_
     refine stP hf rfl rfl rfl (pM rfl) fun a hf => stP hf rfl rfl rfl (pM rfl) fun a hf => cNil ?_
     refine h14 _ _ ?_
     refine wp_block ?_
     obtain ⟨x15,hx15,hF⟩ := bnd_some hF
     let S15 : ((List Int) × Int) → Act → World → Prop := (fun (zz : (List Int) × Int) a w => ∃ (p_1 : Option Addr) (c_1 : Nat),Has 87 a [(0,.slice claims_p claims.length claims_c),(2,i6 rule),(9,.slice p_1 zz.1.length c_1),(41,i6 days),(42,i6 zz.2)] ∧ Ctx G (.row p_1 c_1 (zz.1.map encI_i64) 3 1::Lf) w)
     have hr15 : ∀ (zz : (List Int) × Int) a w,x15 = .go zz → S15 zz a w → K13 a w := by
      rintro ⟨out,x⟩ a w rfl ⟨p_1,c_1,hf,hc⟩
      replace hF := exK_go hF
      refine h13 _ _ ?_
      refine wp_seq_k fun K16 h16 => cReg ?_
      refine stP hf rfl rfl rfl (pM rfl) fun a hf => stP hf rfl rfl rfl (pA rfl) fun a hf => stP hf rfl rfl rfl (pA rfl) fun a hf => cNil ?_
      refine h16 _ _ ?_
      refine wp_ret ?_
      obtain rfl := sj hF
      exact fnOut2 (by simp) rfl Tryz.results70 hf hc (show look _ 6 = _ from rfl) (show look _ 7 = _ from rfl) ⟨p_1,c_1,rfl,hc⟩
     have ho15 : ∀ r,x15 = .out r → r = res := by
      rintro r rfl
      exact sj hF
     refine cLoop N (loopW (S := S15) (x := x15) ?_ N ((List.replicate ((claims.length : Nat) : Int).toNat (0 : Int)),0) _ _ ⟨(some ⟨b_1,0,none⟩),((claims.length : Nat) : Int).toNat,hf.kp rfl,hc⟩ hx15)
     clear hF hf hc
     rintro ⟨out,x⟩ st15 a w KB15 ⟨p_1,c_1,hf,hc⟩ hF hfin15 hK15
     unfold share_Turns_b15 at hF
     refine wp_seq_k fun K17 h17 => cReg ?_
     refine stP hf rfl rfl rfl (pLt rfl rfl) fun a hf => cNil ?_
     refine h17 _ _ ?_
     refine wp_seq_k fun K18 h18 => cCond (b := (decide (x < days))) hf rfl (fun hb => ?_) (fun hb => ?_)
     ·replace hF := condT hb hF
      clear hb
      refine wp_skip ?_
      refine h18 _ _ ?_
      refine wp_seq_k fun K19 h19 => wp_block ?_
      refine wp_seq_k fun K20 h20 => ?_
      obtain ⟨e_1,he_1,hF⟩ := bnd_some hF
      obtain ⟨b_2,o,qa,qp⟩ := h_claims.atm he_1
      obtain ⟨e_2,he_2,hF⟩ := bnd_some hF
      obtain ⟨g,rfl,qa_1,qr⟩ := row_atm hc m0 he_2
      obtain ⟨r_1,hr_1,hF⟩ := bnd_some hF
      replace hc := hc.nilRow 0 0
      refine regionE (fun θ => [⟨none,none,0,.slice claims_p claims.length claims_c⟩,⟨none,none,2,i6 rule⟩,⟨none,none,9,.slice (some ⟨g,0,none⟩) out.length c_1⟩,⟨none,none,41,i6 days⟩,⟨none,none,42,i6 x⟩,⟨some 0,none,44,i6 rule⟩,⟨some 1,none,45,.slice claims_p claims.length claims_c⟩,⟨some 2,none,46,.pointer (some ⟨b_2,o,none⟩)⟩,⟨some 3,none,47,i6 e_1⟩,⟨some 4,none,48,.slice (some ⟨g,0,none⟩) out.length c_1⟩,⟨some 5,none,49,.pointer (some ⟨g,(0 : Int).toNat * 1,none⟩)⟩,⟨some 6,none,50,i6 e_2⟩,⟨some 7,none,51,i6 (W (e_2 + 1))⟩,⟨some 8,none,52,.agg #[i6 r_1.claim,i6 r_1.by_]⟩,⟨some 9,none,11,.pointer (some ⟨(θ 72).b,0,none⟩)⟩,⟨some 10,none,10,i6 0⟩]) (fun E θ => (bif E 11 then .box (θ 72).b [i6 r_1.claim,i6 r_1.by_] 197 else bif E 9 then .box (θ 72).b [i6 0,i6 0] 197 else .row none 0 [] 0 0)::.row (some ⟨g,0,none⟩) c_1 (out.map encI_i64) 3 1::Lf) [(11,9)] (fun a w => ∃ (b_4 : Nat),Has 87 a [(0,.slice claims_p claims.length claims_c),(2,i6 rule),(9,.slice (some ⟨g,0,none⟩) out.length c_1),(41,i6 days),(42,i6 x),(11,pq b_4),(10,i6 0)] ∧ Ctx G (.box b_4 [i6 r_1.claim,i6 r_1.by_] 197::.row (some ⟨g,0,none⟩) c_1 (out.map encI_i64) 3 1::Lf) w) follows_mx (by kernel_rfl) (by kernel_rfl) (HasE.of hf ⟨rfl,rfl,rfl,rfl,rfl,trivial,trivial,trivial,trivial,trivial,trivial,trivial,trivial,trivial,trivial,trivial,trivial⟩) hc ⟨?_,?_,?_,?_,?_,?_,?_,?_,?_,?_,?_,?_,trivial⟩ ?_ ?_
      ·intro E θ a w hD hi hp he hc
       have hf := he.h0
       replace hf := hf.more he 1 rfl onT
       refine stP hf rfl rfl rfl (pM rfl) fun a hf => cNil ?_
       refine xThenN ?_
       intro ds u hau
       refine ⟨θ,he.put0 hi hau hf rfl 5 rfl rfl,?_⟩
       exact hc
      ·intro E θ a w hD hi hp he hc
       have hf := he.h0
       replace hf := hf.more he 0 rfl onT
       refine stP hf rfl rfl rfl (pM rfl) fun a hf => cNil ?_
       refine xThenN ?_
       intro ds u hau
       refine ⟨θ,he.put0 hi hau hf rfl 6 rfl rfl,?_⟩
       exact hc
      ·intro E θ a w hD hi hp he hc
       have e1 := hp.of (k := 1) rfl
       have hf := he.h0
       replace hf := hf.more he 6 rfl (onP e1)
       refine stP hf rfl rfl rfl (pIA Tryz.underlying25 sz_3 rfl rfl qa) fun a hf => cNil ?_
       refine xThenN ?_
       intro ds u hau
       refine ⟨θ,he.put0 hi hau hf rfl 7 rfl rfl,?_⟩
       exact hc
      ·intro E θ a w hD hi hp he hc
       have e2 := hp.of (k := 2) rfl
       have hf := he.h0
       replace hf := hf.more he 7 rfl (onP e2)
       refine stE hf hc rfl rfl rfl (eLd1 sc_3 rfl (cell_pc (j := 0) qp rfl)) fun a w hf hc => cNil ?_
       refine xThenN ?_
       intro ds u hau
       refine ⟨θ,he.put0 hi hau hf rfl 8 rfl rfl,?_⟩
       exact hc
      ·intro E θ a w hD hi hp he hc
       have hf := he.h0
       replace hf := hf.more he 2 rfl onT
       refine stP hf rfl rfl rfl (pM rfl) fun a hf => cNil ?_
       refine xThenN ?_
       intro ds u hau
       refine ⟨θ,he.put0 hi hau hf rfl 9 rfl rfl,?_⟩
       exact hc
      ·intro E θ a w hD hi hp he hc
       have e4 := hp.of (k := 4) rfl
       have hf := he.h0
       replace hf := hf.more he 9 rfl (onP e4)
       refine stP hf rfl rfl rfl (pIA Tryz.underlying25 sz_3 rfl rfl qa_1) fun a hf => cNil ?_
       refine xThenN ?_
       intro ds u hau
       refine ⟨θ,he.put0 hi hau hf rfl 10 rfl rfl,?_⟩
       exact hc
      ·intro E θ a w hD hi hp he hc
       have e5 := hp.of (k := 5) rfl
       have hf := he.h0
       replace hf := hf.more he 10 rfl (onP e5)
       refine stE hf hc rfl rfl rfl (eLd1 sc_3 rfl (cell_row (sz := 1) (i := (0 : Int).toNat) (j := 0) m1 qr rfl)) fun a w hf hc => cNil ?_
       refine xThenN ?_
       intro ds u hau
       refine ⟨θ,he.put0 hi hau hf rfl 11 rfl rfl,?_⟩
       exact hc
      ·intro E θ a w hD hi hp he hc
       have e6 := hp.of (k := 6) rfl
       have hf := he.h0
       replace hf := hf.more he 11 rfl (onP e6)
       refine stP hf rfl rfl rfl (pAdd rfl rfl) fun a hf => cNil ?_
       refine xThenN ?_
       intro ds u hau
       refine ⟨θ,he.put0 hi hau hf rfl 12 rfl rfl,?_⟩
       exact hc
      ·intro E θ a w hD hi hp he hc
       have e0 := hp.of (k := 0) rfl
       have e3 := hp.of (k := 3) rfl
       have e7 := hp.of (k := 7) rfl
       have hf := he.h0
       replace hf := hf.more he 5 rfl (onP e0)
       replace hf := hf.more he 8 rfl (onP e3)
       replace hf := hf.more he 12 rfl (onP e7)
       refine stE hf hc rfl rfl rfl (eC (v := .agg #[i6 r_1.claim,i6 r_1.by_]) (vs := [i6 rule,i6 e_1,i6 (W (e_2 + 1))]) (caps := []) en_136 rfl rfl rfl rfl (fun w hc => share_Rule_day_ok rule e_1 (W (e_2 + 1)) hc hr_1)) fun a w hf hc => cNil ?_
       refine xThenN ?_
       intro ds u hau
       refine ⟨θ,he.put0 hi hau hf rfl 13 rfl rfl,?_⟩
       exact hc
      ·intro E θ a w hD hi hp he hc
       have e11 := hD.f 0 rfl hi
       try dsimp only at hc
       rw [hi,e11] at hc
       have hf := he.h0
       refine stAl (cs := [i6 0,i6 0]) hf hc rfl rfl zr_197 rfl fun b_3 a w hf hc => cNil ?_
       refine xThenN ?_
       intro ds u hau
       replace hc := hc.drop k1
       refine ⟨(setT θ 72 ⟨b_3,none,0,(fun _ => (none,0))⟩),he.put hi hau hf rfl [] trivial ⟨qq,qq,qq,qq,qq,qq,qq,qq,qq,qq,qq,qq,qq,qq,qq,qq,trivial⟩,?_⟩
       try dsimp only
       rw [updE_self E 9,updE_fls 9 e11 rfl]
       exact hc
      ·intro E θ a w hD hi hp he hc
       have hf := he.h0
       refine stP hf rfl rfl rfl (pA rfl) fun a hf => cNil ?_
       refine xThenN ?_
       intro ds u hau
       refine ⟨θ,he.put0 hi hau hf rfl 15 rfl rfl,?_⟩
       exact hc
      ·intro E θ a w hD hi hp he hc
       have e8 := hp.of (k := 8) rfl
       have e9 := hp.of (k := 9) rfl
       try dsimp only at hc
       rw [e9,hi] at hc
       have hf := he.h0
       replace hf := hf.more he 13 rfl (onP e8)
       replace hf := hf.more he 14 rfl (onP e9)
       refine stSt (vs := [i6 r_1.claim,i6 r_1.by_]) hf hc rfl rfl rfl rfl sz_197 rfl rfl u0 fun w hc => cNil ?_
       refine xThenN ?_
       intro ds u hau
       refine ⟨θ,he.stay0 hi hau hf rfl,?_⟩
       try dsimp only
       rw [updE_tru 11 e9,updE_self E 11]
       exact hc
      ·intro E θ a w hall he hc
       have hf := he.h0
       have e9 := hall 9 rfl
       have e10 := hall 10 rfl
       have e11 := hall 11 rfl
       replace hf := hf.more he 15 rfl (onP e10)
       replace hf := hf.more he 14 rfl (onP e9)
       replace hf := hf.more he 4 rfl (onT)
       replace hf := hf.more he 3 rfl (onT)
       replace hf := hf.more he 2 rfl (onT)
       replace hf := hf.more he 1 rfl (onT)
       replace hf := hf.more he 0 rfl (onT)
       try dsimp only at hc
       rw [e9,e11] at hc
       exact ⟨(θ 72).b,hf.kp rfl,hc⟩
      rintro a w ⟨b_4,hf,hc⟩
      refine h20 _ _ ?_
      refine wp_seq_k fun K21 h21 => wp_seq_k fun K22 h22 => cReg ?_
      refine stP hf rfl rfl rfl (pM rfl) fun a hf => stP hf rfl rfl rfl (pLenS Tryz.underlying25 rfl) fun a hf => stP hf rfl rfl rfl (pM rfl) fun a hf => cNil ?_
      refine h22 _ _ ?_
      refine wp_block ?_
      obtain ⟨x23,hx23,hF⟩ := bnd_some hF
      let S23 : (Int × Int × Int × Int) → Act → World → Prop := (fun (zz : Int × Int × Int × Int) a w => Has 87 a [(0,.slice claims_p claims.length claims_c),(2,i6 rule),(9,.slice (some ⟨g,0,none⟩) out.length c_1),(10,i6 zz.1),(11,pq b_4),(41,i6 days),(42,i6 x),(53,.slice claims_p claims.length claims_c),(54,i6 ((claims.length : Nat) : Int)),(55,i6 zz.2.1)] ∧ Ctx G (.box b_4 [i6 zz.2.2.1,i6 zz.2.2.2] 197::.row (some ⟨g,0,none⟩) c_1 (out.map encI_i64) 3 1::Lf) w)
      have hr23 : ∀ (zz : Int × Int × Int × Int) a w,x23 = .go zz → S23 zz a w → K21 a w := by
       rintro ⟨who,x_1,x_2,x_3⟩ a w rfl ⟨hf,hc⟩
       replace hF := exK_go hF
       refine h21 _ _ ?_
       refine cReg ?_
       refine stP hf rfl rfl rfl (pM rfl) fun a hf => stP hf rfl rfl rfl (pM rfl) fun a hf => ?_
       obtain ⟨e_3,he_3,hF⟩ := bnd_some hF
       obtain ⟨qa_2,qr_1⟩ := row_atk hc m1 he_3
       refine stP hf rfl rfl rfl (pIA Tryz.underlying25 sz_3 rfl rfl qa_2) fun a hf => stE hf hc rfl rfl rfl (eLd1 sc_3 rfl (cell_row (sz := 1) (i := who.toNat) (j := 0) m1 qr_1 rfl)) fun a w hf hc => stP hf rfl rfl rfl (pAdd rfl rfl) fun a hf => ?_
       obtain ⟨e_4,he_4,hF⟩ := bnd_some hF
       obtain ⟨qa_3,qr_2⟩ := row_atk hc m1 he_4
       refine stP hf rfl rfl rfl (pIA Tryz.underlying25 sz_3 rfl rfl qa_3) fun a hf => stRw (vs := [i6 (W (e_3 + 1))]) (o' := 0) (z := W (e_3 + 1)) (xs := out) hf hc rfl rfl rfl rfl sz_3 rfl (fun x => (one_encI_i64 x).1) (getI_lt he_4) (fun _ _ => rfl) rfl u1 fun w hc => cNil ?_
       refine h19 _ _ ?_
       refine cReg ?_
       refine stP hf rfl rfl rfl (pAdd rfl rfl) fun a hf => stP hf rfl rfl rfl (pM rfl) fun a hf => cNil ?_
       replace hf := hf.castAt 9 (v' := .slice (some ⟨g,0,none⟩) ((out.set who.toNat (W (e_3 + 1))).length) c_1) rfl (congrArg (fun k => Value.slice (some ⟨g,0,none⟩) k c_1) (by simp))
       replace hc := hc.drop k0
       exact hK15 ((out.set who.toNat (W (e_3 + 1))),W (x + 1)) _ _ (sj hF).symm ⟨(some ⟨g,0,none⟩),c_1,hf.kp rfl,hc⟩
      have ho23 : ∀ r,x23 = .out r → r = st15 := by
       rintro r rfl
       exact sj hF
      refine cLoop N (loopW (S := S23) (x := x23) ?_ N (0,0,r_1.claim,r_1.by_) _ _ ⟨hf.kp rfl,hc⟩ hx23)
      clear hF hf hc
      rintro ⟨who,x_1,x_2,x_3⟩ st23 a w KB23 ⟨hf,hc⟩ hF hfin23 hK23
      unfold share_Turns_b23 at hF
      refine wp_seq_k fun K24 h24 => cReg ?_
      refine stP hf rfl rfl rfl (pLt rfl rfl) fun a hf => cNil ?_
      refine h24 _ _ ?_
      refine wp_seq_k fun K25 h25 => cCond (b := (decide (x_1 < ((claims.length : Nat) : Int)))) hf rfl (fun hb => ?_) (fun hb => ?_)
      ·replace hF := condT hb hF
       clear hb
       refine wp_skip ?_
       refine h25 _ _ ?_
       refine wp_seq_k fun K26 h26 => ?_
       have hj26 : ∀ (who_1 : Int) (x_4 : Int) (x_5 : Int) a w,Has 87 a [(0,.slice claims_p claims.length claims_c),(2,i6 rule),(9,.slice (some ⟨g,0,none⟩) out.length c_1),(10,i6 who_1),(11,pq b_4),(41,i6 days),(42,i6 x),(53,.slice claims_p claims.length claims_c),(54,i6 ((claims.length : Nat) : Int)),(55,i6 x_1)] → Ctx G (.box b_4 [i6 x_4,i6 x_5] 197::.row (some ⟨g,0,none⟩) c_1 (out.map encI_i64) 3 1::Lf) w → share_Turns_j26 N x_1 who_1 x_4 x_5 = some st23 → K26 a w := by
        repeat (clear hF)
        repeat (clear hc)
        repeat (clear hf)
        intro who_1 x_4 x_5 a w hf hc hF
        unfold share_Turns_j26 at hF
        refine h26 _ _ ?_
        refine cReg ?_
        refine stP hf rfl rfl rfl (pAdd rfl rfl) fun a hf => stP hf rfl rfl rfl (pM rfl) fun a hf => cNil ?_
        exact hK23 (who_1,W (x_1 + 1),x_4,x_5) _ _ (sj hF).symm ⟨hf.kp rfl,hc⟩
       refine wp_block ?_
       refine wp_seq_k fun K27 h27 => cReg ?_
       refine stP hf rfl rfl rfl (pM rfl) fun a hf => ?_
       obtain ⟨e_5,he_5,hF⟩ := bnd_some hF
       obtain ⟨b_5,o_1,qa_4,qp_1⟩ := h_claims.atm he_5
       refine stP hf rfl rfl rfl (pIA Tryz.underlying25 sz_3 rfl rfl qa_4) fun a hf => stE hf hc rfl rfl rfl (eLd1 sc_3 rfl (cell_pc (j := 0) qp_1 rfl)) fun a w hf hc => stP hf rfl rfl rfl (pA rfl) fun a hf => stP hf rfl rfl rfl (pA rfl) fun a hf => cNil ?_
       refine h27 _ _ ?_
       refine wp_seq_k fun K28 h28 => cReg ?_
       refine stP hf rfl rfl rfl (pM rfl) fun a hf => stP hf rfl rfl rfl (pM rfl) fun a hf => stP hf rfl rfl rfl (pM rfl) fun a hf => stP hf rfl rfl rfl (pM rfl) fun a hf => ?_
       obtain ⟨e_6,he_6,hF⟩ := bnd_some hF
       obtain ⟨qa_5,qr_3⟩ := row_atk hc m1 he_6
       refine stP hf rfl rfl rfl (pIA Tryz.underlying25 sz_3 rfl rfl qa_5) fun a hf => stE hf hc rfl rfl rfl (eLd1 sc_3 rfl (cell_row (sz := 1) (i := x_1.toNat) (j := 0) m1 qr_3 rfl)) fun a w hf hc => stP hf rfl rfl rfl (pAdd rfl rfl) fun a hf => ?_
       obtain ⟨r_2,hr_2,hF⟩ := bnd_some hF
       refine stE hf hc rfl rfl rfl (eC (v := .agg #[i6 r_2.claim,i6 r_2.by_]) (vs := [i6 rule,i6 e_5,i6 (W (e_6 + 1))]) (caps := []) en_136 rfl rfl rfl rfl (fun w hc => share_Rule_day_ok rule e_5 (W (e_6 + 1)) hc hr_2)) fun a w hf hc => stAl (cs := [i6 0,i6 0]) hf hc rfl rfl zr_197 rfl fun b_6 a w hf hc => stSt (vs := [i6 r_2.claim,i6 r_2.by_]) hf hc rfl rfl rfl rfl sz_197 rfl rfl u0 fun w hc => cNil ?_
       refine h28 _ _ ?_
       refine wp_seq_k fun K29 h29 => cReg ?_
       refine stE hf hc rfl rfl rfl (eLdN (vs := [i6 r_2.claim,i6 r_2.by_]) ag_197 rfl rfl (cells_box (n := 2) m0 rfl)) fun a w hf hc => stE hf hc rfl rfl rfl (eLdN (vs := [i6 x_2,i6 x_3]) ag_197 rfl rfl (cells_box (n := 2) m1 rfl)) fun a w hf hc => stP hf rfl rfl rfl (pNeA ge_197 rfl rfl (eqs_197 _ _ _ _)) fun a hf => stP hf rfl rfl rfl (pM rfl) fun a hf => stCut 4 (fun a w => Has 87 a [(0,.slice claims_p claims.length claims_c),(2,i6 rule),(9,.slice (some ⟨g,0,none⟩) out.length c_1),(10,i6 who),(11,pq b_4),(41,i6 days),(42,i6 x),(53,.slice claims_p claims.length claims_c),(54,i6 ((claims.length : Nat) : Int)),(55,i6 x_1),(12,i6 x_1),(14,pq b_6),(68,.agg #[i6 r_2.claim,i6 r_2.by_]),(69,.agg #[i6 x_2,i6 x_3]),(70,.bool (!(r_2.claim == x_2 && r_2.by_ == x_3))),(71,.bool (!(r_2.claim == x_2 && r_2.by_ == x_3))),(75,.bool ((!(r_2.claim == x_2 && r_2.by_ == x_3)) && (share_quotient_more r_2 (⟨x_2,x_3⟩ : share_quotient))))] ∧ Ctx G (.box b_6 [i6 r_2.claim,i6 r_2.by_] 197::.box b_4 [i6 x_2,i6 x_3] 197::.row (some ⟨g,0,none⟩) c_1 (out.map encI_i64) 3 1::Lf) w) ?_ ?_
       ·cases hb : (!(r_2.claim == x_2 && r_2.by_ == x_3))
        ·rw [hb] at hf
         refine stS hf rfl rfl rfl fun a hf => stS hf rfl rfl rfl fun a hf => stS hf rfl rfl rfl fun a hf => stP hf rfl rfl rfl (pPf rfl rfl) fun a hf => cNil ⟨hf.kp rfl,hc⟩
        ·rw [hb] at hf
         refine stE hf hc rfl rfl rfl (eLdN (vs := [i6 r_2.claim,i6 r_2.by_]) ag_197 rfl rfl (cells_box (n := 2) m0 rfl)) fun a w hf hc => stE hf hc rfl rfl rfl (eLdN (vs := [i6 x_2,i6 x_3]) ag_197 rfl rfl (cells_box (n := 2) m1 rfl)) fun a w hf hc => stE hf hc rfl rfl rfl (eC (v := .bool (share_quotient_more r_2 (⟨x_2,x_3⟩ : share_quotient))) (vs := [.agg #[i6 r_2.claim,i6 r_2.by_],.agg #[i6 x_2,i6 x_3]]) (caps := []) en_137 rfl rfl rfl rfl (fun w hc => share_quotient_more_ok r_2 (⟨x_2,x_3⟩ : share_quotient) hc rfl)) fun a w hf hc => stP hf rfl rfl rfl (pPt rfl rfl) fun a hf => cNil ⟨hf.kp rfl,hc⟩
       intro a w ⟨hf,hc⟩
       refine cNil ?_
       refine h29 _ _ ?_
       refine cCond (b := ((!(r_2.claim == x_2 && r_2.by_ == x_3)) && (share_quotient_more r_2 (⟨x_2,x_3⟩ : share_quotient)))) hf rfl (fun hb => ?_) (fun hb => ?_)
       ·replace hF := condT hb hF
        clear hb
        refine regionE (fun θ => [⟨none,none,0,.slice claims_p claims.length claims_c⟩,⟨none,none,2,i6 rule⟩,⟨none,none,9,.slice (some ⟨g,0,none⟩) out.length c_1⟩,⟨none,some 2,10,i6 who⟩,⟨none,none,11,pq b_4⟩,⟨none,none,12,i6 x_1⟩,⟨none,none,14,pq b_6⟩,⟨none,none,41,i6 days⟩,⟨none,none,42,i6 x⟩,⟨none,none,53,.slice claims_p claims.length claims_c⟩,⟨none,none,54,i6 ((claims.length : Nat) : Int)⟩,⟨none,none,55,i6 x_1⟩,⟨some 0,none,76,i6 x_1⟩,⟨some 1,none,77,.agg #[i6 r_2.claim,i6 r_2.by_]⟩,⟨some 2,none,10,i6 x_1⟩]) (fun E θ => .box b_6 [i6 r_2.claim,i6 r_2.by_] 197::(bif E 3 then .box b_4 [i6 r_2.claim,i6 r_2.by_] 197 else .box b_4 [i6 x_2,i6 x_3] 197)::.row (some ⟨g,0,none⟩) c_1 (out.map encI_i64) 3 1::Lf) [] (fun a w => Has 87 a [(0,.slice claims_p claims.length claims_c),(2,i6 rule),(9,.slice (some ⟨g,0,none⟩) out.length c_1),(11,pq b_4),(41,i6 days),(42,i6 x),(53,.slice claims_p claims.length claims_c),(54,i6 ((claims.length : Nat) : Int)),(55,i6 x_1),(10,i6 x_1)] ∧ Ctx G (.box b_6 [i6 r_2.claim,i6 r_2.by_] 197::.box b_4 [i6 r_2.claim,i6 r_2.by_] 197::.row (some ⟨g,0,none⟩) c_1 (out.map encI_i64) 3 1::Lf) w) follows_mx (by kernel_rfl) (by kernel_rfl) (HasE.of hf ⟨rfl,rfl,rfl,rfl,rfl,rfl,rfl,rfl,rfl,rfl,rfl,rfl,trivial,trivial,trivial,trivial⟩) hc ⟨?_,?_,?_,?_,trivial⟩ ?_ ?_
        ·intro E θ a w hD hi hp he hc
         have hf := he.h0
         replace hf := hf.more he 5 rfl onT
         refine stP hf rfl rfl rfl (pM rfl) fun a hf => cNil ?_
         refine xThenN ?_
         intro ds u hau
         refine ⟨θ,he.put0 hi hau hf rfl 12 rfl rfl,?_⟩
         exact hc
        ·intro E θ a w hD hi hp he hc
         have hf := he.h0
         replace hf := hf.more he 6 rfl onT
         refine stE hf hc rfl rfl rfl (eLdN (vs := [i6 r_2.claim,i6 r_2.by_]) ag_197 rfl rfl (cells_box (n := 2) m0 rfl)) fun a w hf hc => cNil ?_
         refine xThenN ?_
         intro ds u hau
         refine ⟨θ,he.put0 hi hau hf rfl 13 rfl rfl,?_⟩
         exact hc
        ·intro E θ a w hD hi hp he hc
         have e0 := hp.of (k := 0) rfl
         have hf := he.h0
         replace hf := hf.more he 12 rfl (onP e0)
         refine stP hf rfl rfl rfl (pA rfl) fun a hf => cNil ?_
         refine xThenN ?_
         intro ds u hau
         refine ⟨θ,he.put0 hi hau hf rfl 14 rfl rfl,?_⟩
         exact hc
        ·intro E θ a w hD hi hp he hc
         have e1 := hp.of (k := 1) rfl
         try dsimp only at hc
         rw [hi] at hc
         have hf := he.h0
         replace hf := hf.more he 4 rfl onT
         replace hf := hf.more he 13 rfl (onP e1)
         refine stSt (vs := [i6 r_2.claim,i6 r_2.by_]) hf hc rfl rfl rfl rfl sz_197 rfl rfl u1 fun w hc => cNil ?_
         refine xThenN ?_
         intro ds u hau
         refine ⟨θ,he.stay0 hi hau hf rfl,?_⟩
         try dsimp only
         rw [updE_self E 3]
         exact hc
        ·intro E θ a w hall he hc
         have hf := he.h0
         have e2 := hall 2 rfl
         have e3 := hall 3 rfl
         replace hf := hf.more he 14 rfl (onP e2)
         replace hf := hf.more he 11 rfl (onT)
         replace hf := hf.more he 10 rfl (onT)
         replace hf := hf.more he 9 rfl (onT)
         replace hf := hf.more he 8 rfl (onT)
         replace hf := hf.more he 7 rfl (onT)
         replace hf := hf.more he 4 rfl (onT)
         replace hf := hf.more he 2 rfl (onT)
         replace hf := hf.more he 1 rfl (onT)
         replace hf := hf.more he 0 rfl (onT)
         try dsimp only at hc
         rw [e3] at hc
         exact ⟨hf.kp rfl,hc⟩
        rintro a w ⟨hf,hc⟩
        replace hc := hc.drop k0
        exact hj26 x_1 r_2.claim r_2.by_ _ _  (hf.kp rfl) hc hF
       ·replace hF := condF hb hF
        clear hb
        refine wp_skip ?_
        replace hc := hc.drop k0
        exact hj26 who x_2 x_3 _ _  (hf.kp rfl) hc hF
      ·replace hF := condF hb hF
       clear hb
       refine wp_exit ?_
       refine xThen ?_
       refine xThen ?_
       have he := sj hF
       rw [← he] at hfin23
       refine cHit ?_
       exact hr23 _ _ _ hfin23 ⟨hf.kp rfl,hc⟩
     ·replace hF := condF hb hF
      clear hb
      refine wp_exit ?_
      refine xThen ?_
      refine xThen ?_
      have he := sj hF
      rw [← he] at hfin15
      refine cHit ?_
      exact hr15 _ _ _ hfin15 ⟨p_1,c_1,hf.kp rfl,hc⟩

def kit_Mixed_b5 (N : Nat) (s_ : kit_Stream) (n : Int) (out : List Int) (i_1 : Int) (b__0 : Int) (b__1 : Int) : Option (Step ((List Int) × Int × Int × Int) ((List Int) × Int × Int)) :=
 cond (decide (i_1 < n))
 (Option.bind (kit_Stream_Next N (⟨s_.bytes,b__0,b__1⟩ : kit_Stream) (W (i_1 + 1))) fun r =>
 Option.bind (room ((out ++ [i_1])).length) fun un =>
 Option.bind (getI (out ++ [i_1]) r.1) fun e_1 =>
 Option.bind (getI (out ++ [i_1]) i_1) fun e_2 =>
 Option.bind (getI (out ++ [i_1]) i_1) fun e_3 =>
 Option.bind (getI (out ++ [i_1]) r.1) fun e_4 =>
 some (.cont ((((out ++ [i_1]).set i_1.toNat e_1).set r.1.toNat e_2),W (i_1 + 1),r.2.1,r.2.2)))
 (some (.brk (out,i_1,b__0,b__1)))
def kit_Mixed (N : Nat) (s_ : kit_Stream) (n : Int) : Option ((List Int) × Int × Int) :=
 Option.bind (loopO (fun s5 => kit_Mixed_b5 N s_ n s5.1 s5.2.1 s5.2.2.1 s5.2.2.2) N (([] : List Int),0,s_.used,s_.mix)) fun x5 =>
 exK x5 (fun s5 => some (s5.1,s5.2.2.1,s5.2.2.2)) some
theorem kit_Mixed_ok {N : Nat} {G : Pers} {Lf : List Ent} {w : World} (s_ : kit_Stream) (n : Int) {b_ : Nat} {s__bytes_p : Option Addr} {s__bytes_c : Nat} (h_s__bytes : Rd G 1 s__bytes_p s__bytes_c (s_.bytes.map encI_u8)) (hc : Ctx G (.box b_ [.slice s__bytes_p s_.bytes.length s__bytes_c,i6 s_.used,i6 s_.mix] 165::Lf) w) {res : (List Int) × Int × Int} (hF : kit_Mixed N s_ n = some res) : Calls Tryz.prog 71 #[pq b_,i6 n] w (fun e w => ∃ (p'1 : Option Addr) (c'1 : Nat),e = .returned (.slice p'1 res.1.length c'1) ∧ Ctx G (.row p'1 c'1 (res.1.map encI_i64) 3 1::.box b_ [.slice s__bytes_p s_.bytes.length s__bytes_c,i6 res.2.1,i6 res.2.2] 165::Lf) w) := by
 unfold kit_Mixed at hF
 refine fnIn (args := [pq b_,i6 n]) Tryz.func71 rfl Tryz.ntmps71 rfl fun a hf => wp_seq_k fun K1 h1 => cReg ?_
 refine stP hf rfl rfl rfl (pA rfl) fun a hf => cNil ?_
 refine h1 _ _ ?_
 refine wp_seq_k fun K2 h2 => cReg ?_
 refine stP hf rfl rfl rfl (pA rfl) fun a hf => cNil ?_
 refine h2 _ _ ?_
 refine wp_seq_k fun K3 h3 => wp_seq_k fun K4 h4 => cReg ?_
 refine stP hf rfl rfl rfl (pA rfl) fun a hf => cNil ?_
 refine h4 _ _ ?_
 refine wp_block ?_
 obtain ⟨x5,hx5,hF⟩ := bnd_some hF
 let S5 : ((List Int) × Int × Int × Int) → Act → World → Prop := (fun (zz : (List Int) × Int × Int × Int) a w => ∃ (p_1 : Option Addr) (c_1 : Nat),Has 36 a [(0,pq b_),(1,i6 n),(5,.slice p_1 zz.1.length c_1),(6,i6 zz.2.1)] ∧ Ctx G (.row p_1 c_1 (zz.1.map encI_i64) 3 1::.box b_ [.slice s__bytes_p s_.bytes.length s__bytes_c,i6 zz.2.2.1,i6 zz.2.2.2] 165::Lf) w)
 have hr5 : ∀ (zz : (List Int) × Int × Int × Int) a w,x5 = .go zz → S5 zz a w → K3 a w := by
  rintro ⟨out,i_1,b__0,b__1⟩ a w rfl ⟨p_1,c_1,hf,hc⟩
  replace hF := exK_go hF
  refine h3 _ _ ?_
  refine wp_seq_k fun K6 h6 => cReg ?_
  refine stP hf rfl rfl rfl (pM rfl) fun a hf => stP hf rfl rfl rfl (pA rfl) fun a hf => cNil ?_
  refine h6 _ _ ?_
  refine wp_ret ?_
  obtain rfl := sj hF
  exact fnOut1 (by simp) rfl Tryz.results71 hf hc (show look _ 4 = _ from rfl) ⟨p_1,c_1,rfl,hc⟩
 have ho5 : ∀ r,x5 = .out r → r = res := by
  rintro r rfl
  exact sj hF
 replace hc := hc.nilRow 3 1
 refine cLoop N (loopW (S := S5) (x := x5) ?_ N (([] : List Int),0,s_.used,s_.mix) _ _ ⟨none,0,hf.kp rfl,hc⟩ hx5)
 clear hF hf hc
 rintro ⟨out,i_1,b__0,b__1⟩ st5 a w KB5 ⟨p_1,c_1,hf,hc⟩ hF hfin5 hK5
 unfold kit_Mixed_b5 at hF
 refine wp_seq_k fun K7 h7 => wp_seq_k fun K8 h8 => cReg ?_
 refine stP hf rfl rfl rfl (pM rfl) fun a hf => stP hf rfl rfl rfl (pM rfl) fun a hf => stP hf rfl rfl rfl (pLt rfl rfl) fun a hf => cNil ?_
 refine h8 _ _ ?_
 refine cCond (b := (decide (i_1 < n))) hf rfl (fun hb => ?_) (fun hb => ?_)
 ·replace hF := condT hb hF
  clear hb
  refine wp_skip ?_
  refine h7 _ _ ?_
  refine wp_seq_k fun K9 h9 => wp_block ?_
  refine wp_seq_k fun K10 h10 => cReg ?_
  refine stP hf rfl rfl rfl (pM rfl) fun a hf => stP hf rfl rfl rfl (pM rfl) fun a hf => stP hf rfl rfl rfl (pAdd rfl rfl) fun a hf => ?_
  obtain ⟨r,hr,hF⟩ := bnd_some hF
  refine stC (vs := [pq b_,i6 (W (i_1 + 1))]) (caps := []) hf rfl rfl rfl en_45 rfl rfl rfl rfl (kit_Stream_Next_ok (⟨s_.bytes,b__0,b__1⟩ : kit_Stream) (W (i_1 + 1)) h_s__bytes (hc.pick k1) hr) ?_
  rintro _ w ⟨rfl,hc⟩
  refine ⟨_,rfl,fun a hf => ?_⟩
  refine stP hf rfl rfl rfl (pA rfl) fun a hf => cNil ?_
  refine h10 _ _ ?_
  refine wp_seq_k fun K11 h11 => cReg ?_
  refine stP hf rfl rfl rfl (pM rfl) fun a hf => stP hf rfl rfl rfl (pM rfl) fun a hf => stBS (rows := ([i_1] : List Int).map encI_i64) (vs := [(0,i6 i_1)]) hf hc rfl rfl sl_25 rfl ⟨rfl,rfl,rfl,trivial⟩ rfl rfl fun b_1 a w hf hc => ?_
  obtain ⟨un,hun,hF⟩ := bnd_some hF
  refine stApm (xs := out) (ys := ([i_1] : List Int)) hf hc rfl rfl sl_25 rfl rfl rfl rfl rfl one_encI_i64 (src_row hc m0) (fun _ _ => u2) (by simpa using room_spec hun) fun p_2 c_2 a w hf hc => stP hf rfl rfl rfl (pA rfl) fun a hf => cNil ?_
  refine h11 _ _ ?_
  obtain ⟨e_1,he_1,hF⟩ := bnd_some hF
  obtain ⟨g,rfl,qa,qr⟩ := row_atm hc m2 he_1
  obtain ⟨e_2,he_2,hF⟩ := bnd_some hF
  obtain ⟨qa_1,qr_1⟩ := row_atk hc m2 he_2
  obtain ⟨e_3,he_3,hF⟩ := bnd_some hF
  obtain ⟨qa_2,qr_2⟩ := row_atk hc m2 he_3
  obtain ⟨e_4,he_4,hF⟩ := bnd_some hF
  obtain ⟨qa_3,qr_3⟩ := row_atk hc m2 he_4
  refine regionE (fun θ => [⟨none,none,0,pq b_⟩,⟨none,none,1,i6 n⟩,⟨none,none,5,.slice (some ⟨g,0,none⟩) ((out ++ [i_1]).length) c_2⟩,⟨none,none,6,i6 i_1⟩,⟨none,none,7,i6 r.1⟩,⟨some 0,none,21,.slice (some ⟨g,0,none⟩) ((out ++ [i_1]).length) c_2⟩,⟨some 1,none,22,i6 i_1⟩,⟨some 2,none,23,.slice (some ⟨g,0,none⟩) ((out ++ [i_1]).length) c_2⟩,⟨some 3,none,24,i6 r.1⟩,⟨some 4,none,25,.slice (some ⟨g,0,none⟩) ((out ++ [i_1]).length) c_2⟩,⟨some 5,none,26,i6 r.1⟩,⟨some 6,none,27,.pointer (some ⟨g,r.1.toNat * 1,none⟩)⟩,⟨some 7,none,28,i6 e_1⟩,⟨some 8,none,29,.slice (some ⟨g,0,none⟩) ((out ++ [i_1]).length) c_2⟩,⟨some 9,none,30,i6 i_1⟩,⟨some 10,none,31,.pointer (some ⟨g,i_1.toNat * 1,none⟩)⟩,⟨some 11,none,32,i6 e_2⟩,⟨some 12,none,33,.pointer (some ⟨g,i_1.toNat * 1,none⟩)⟩,⟨some 14,none,34,.pointer (some ⟨g,r.1.toNat * 1,none⟩)⟩]) (fun E θ => .row (some ⟨b_1,0,none⟩) 1 (([i_1] : List Int).map encI_i64) 3 1::.box b_ [.slice s__bytes_p s_.bytes.length s__bytes_c,i6 r.2.1,i6 r.2.2] 165::(bif E 15 then .row (some ⟨g,0,none⟩) c_2 ((((out ++ [i_1]).set i_1.toNat e_1).set r.1.toNat e_2).map encI_i64) 3 1 else bif E 13 then .row (some ⟨g,0,none⟩) c_2 (((out ++ [i_1]).set i_1.toNat e_1).map encI_i64) 3 1 else .row (some ⟨g,0,none⟩) c_2 ((out ++ [i_1]).map encI_i64) 3 1)::Lf) [(13,6),(15,6),(13,7),(15,7),(11,10),(13,11),(15,10),(15,11),(13,12),(15,12),(15,13),(15,14)] (fun a w => Has 36 a [(0,pq b_),(1,i6 n),(5,.slice (some ⟨g,0,none⟩) ((out ++ [i_1]).length) c_2),(6,i6 i_1)] ∧ Ctx G (.row (some ⟨b_1,0,none⟩) 1 (([i_1] : List Int).map encI_i64) 3 1::.box b_ [.slice s__bytes_p s_.bytes.length s__bytes_c,i6 r.2.1,i6 r.2.2] 165::.row (some ⟨g,0,none⟩) c_2 ((((out ++ [i_1]).set i_1.toNat e_1).set r.1.toNat e_2).map encI_i64) 3 1::Lf) w) follows_mx (by kernel_rfl) (by kernel_rfl) (HasE.of hf ⟨rfl,rfl,rfl,rfl,rfl,trivial,trivial,trivial,trivial,trivial,trivial,trivial,trivial,trivial,trivial,trivial,trivial,trivial,trivial,trivial⟩) hc ⟨?_,?_,?_,?_,?_,?_,?_,?_,?_,?_,?_,?_,?_,?_,?_,?_,trivial⟩ ?_ ?_
  ·intro E θ a w hD hi hp he hc
   have hf := he.h0
   replace hf := hf.more he 2 rfl onT
   refine stP hf rfl rfl rfl (pM rfl) fun a hf => cNil ?_
   refine xThenN ?_
   intro ds u hau
   refine ⟨θ,he.put0 hi hau hf rfl 5 rfl rfl,?_⟩
   exact hc
  ·intro E θ a w hD hi hp he hc
   have hf := he.h0
   replace hf := hf.more he 3 rfl onT
   refine stP hf rfl rfl rfl (pM rfl) fun a hf => cNil ?_
   refine xThenN ?_
   intro ds u hau
   refine ⟨θ,he.put0 hi hau hf rfl 6 rfl rfl,?_⟩
   exact hc
  ·intro E θ a w hD hi hp he hc
   have hf := he.h0
   replace hf := hf.more he 2 rfl onT
   refine stP hf rfl rfl rfl (pM rfl) fun a hf => cNil ?_
   refine xThenN ?_
   intro ds u hau
   refine ⟨θ,he.put0 hi hau hf rfl 7 rfl rfl,?_⟩
   exact hc
  ·intro E θ a w hD hi hp he hc
   have hf := he.h0
   replace hf := hf.more he 4 rfl onT
   refine stP hf rfl rfl rfl (pM rfl) fun a hf => cNil ?_
   refine xThenN ?_
   intro ds u hau
   refine ⟨θ,he.put0 hi hau hf rfl 8 rfl rfl,?_⟩
   exact hc
  ·intro E θ a w hD hi hp he hc
   have hf := he.h0
   replace hf := hf.more he 2 rfl onT
   refine stP hf rfl rfl rfl (pM rfl) fun a hf => cNil ?_
   refine xThenN ?_
   intro ds u hau
   refine ⟨θ,he.put0 hi hau hf rfl 9 rfl rfl,?_⟩
   exact hc
  ·intro E θ a w hD hi hp he hc
   have hf := he.h0
   replace hf := hf.more he 4 rfl onT
   refine stP hf rfl rfl rfl (pM rfl) fun a hf => cNil ?_
   refine xThenN ?_
   intro ds u hau
   refine ⟨θ,he.put0 hi hau hf rfl 10 rfl rfl,?_⟩
   exact hc
  ·intro E θ a w hD hi hp he hc
   have e4 := hp.of (k := 4) rfl
   have e5 := hp.of (k := 5) rfl
   have e13 := hD.f 0 rfl hi
   have e15 := hD.f 1 rfl hi
   try dsimp only at hc
   rw [e13,e15] at hc
   have hf := he.h0
   replace hf := hf.more he 9 rfl (onP e4)
   replace hf := hf.more he 10 rfl (onP e5)
   refine stP hf rfl rfl rfl (pIA Tryz.underlying25 sz_3 rfl rfl qa) fun a hf => cNil ?_
   refine xThenN ?_
   intro ds u hau
   refine ⟨θ,he.put0 hi hau hf rfl 11 rfl rfl,?_⟩
   try dsimp only
   rw [updE_fls 6 e13 rfl,updE_fls 6 e15 rfl]
   exact hc
  ·intro E θ a w hD hi hp he hc
   have e6 := hp.of (k := 6) rfl
   have e13 := hD.f 2 rfl hi
   have e15 := hD.f 3 rfl hi
   try dsimp only at hc
   rw [e13,e15] at hc
   have hf := he.h0
   replace hf := hf.more he 11 rfl (onP e6)
   refine stE hf hc rfl rfl rfl (eLd1 sc_3 rfl (cell_row (sz := 1) (i := r.1.toNat) (j := 0) m2 qr rfl)) fun a w hf hc => cNil ?_
   refine xThenN ?_
   intro ds u hau
   refine ⟨θ,he.put0 hi hau hf rfl 12 rfl rfl,?_⟩
   try dsimp only
   rw [updE_fls 7 e13 rfl,updE_fls 7 e15 rfl]
   exact hc
  ·intro E θ a w hD hi hp he hc
   have hf := he.h0
   replace hf := hf.more he 2 rfl onT
   refine stP hf rfl rfl rfl (pM rfl) fun a hf => cNil ?_
   refine xThenN ?_
   intro ds u hau
   refine ⟨θ,he.put0 hi hau hf rfl 13 rfl rfl,?_⟩
   exact hc
  ·intro E θ a w hD hi hp he hc
   have hf := he.h0
   replace hf := hf.more he 3 rfl onT
   refine stP hf rfl rfl rfl (pM rfl) fun a hf => cNil ?_
   refine xThenN ?_
   intro ds u hau
   refine ⟨θ,he.put0 hi hau hf rfl 14 rfl rfl,?_⟩
   exact hc
  ·intro E θ a w hD hi hp he hc
   have e8 := hp.of (k := 8) rfl
   have e9 := hp.of (k := 9) rfl
   have e11 := hD.f 4 rfl hi
   have e13 := hD.f 5 rfl e11
   have e15 := hD.f 6 rfl hi
   try dsimp only at hc
   rw [e13,e15] at hc
   have hf := he.h0
   replace hf := hf.more he 13 rfl (onP e8)
   replace hf := hf.more he 14 rfl (onP e9)
   refine stP hf rfl rfl rfl (pIA Tryz.underlying25 sz_3 rfl rfl qa_1) fun a hf => cNil ?_
   refine xThenN ?_
   intro ds u hau
   refine ⟨θ,he.put0 hi hau hf rfl 15 rfl rfl,?_⟩
   try dsimp only
   rw [updE_fls 10 e13 rfl,updE_fls 10 e15 rfl]
   exact hc
  ·intro E θ a w hD hi hp he hc
   have e10 := hp.of (k := 10) rfl
   have e13 := hD.f 5 rfl hi
   have e15 := hD.f 7 rfl hi
   try dsimp only at hc
   rw [e13,e15] at hc
   have hf := he.h0
   replace hf := hf.more he 15 rfl (onP e10)
   refine stE hf hc rfl rfl rfl (eLd1 sc_3 rfl (cell_row (sz := 1) (i := i_1.toNat) (j := 0) m2 qr_1 rfl)) fun a w hf hc => cNil ?_
   refine xThenN ?_
   intro ds u hau
   refine ⟨θ,he.put0 hi hau hf rfl 16 rfl rfl,?_⟩
   try dsimp only
   rw [updE_fls 11 e13 rfl,updE_fls 11 e15 rfl]
   exact hc
  ·intro E θ a w hD hi hp he hc
   have e0 := hp.of (k := 0) rfl
   have e1 := hp.of (k := 1) rfl
   have e13 := hD.f 8 rfl hi
   have e15 := hD.f 9 rfl hi
   try dsimp only at hc
   rw [e13,e15] at hc
   have hf := he.h0
   replace hf := hf.more he 5 rfl (onP e0)
   replace hf := hf.more he 6 rfl (onP e1)
   refine stP hf rfl rfl rfl (pIA Tryz.underlying25 sz_3 rfl rfl qa_2) fun a hf => cNil ?_
   refine xThenN ?_
   intro ds u hau
   refine ⟨θ,he.put0 hi hau hf rfl 17 rfl rfl,?_⟩
   try dsimp only
   rw [updE_fls 12 e13 rfl,updE_fls 12 e15 rfl]
   exact hc
  ·intro E θ a w hD hi hp he hc
   have e7 := hp.of (k := 7) rfl
   have e12 := hp.of (k := 12) rfl
   have e15 := hD.f 10 rfl hi
   try dsimp only at hc
   rw [hi,e15] at hc
   have hf := he.h0
   replace hf := hf.more he 12 rfl (onP e7)
   replace hf := hf.more he 17 rfl (onP e12)
   refine stRw (vs := [i6 e_1]) (o' := 0) (z := e_1) (xs := (out ++ [i_1])) hf hc rfl rfl rfl rfl sz_3 rfl (fun x => (one_encI_i64 x).1) (getI_lt he_3) (fun _ _ => rfl) rfl u2 fun w hc => cNil ?_
   refine xThenN ?_
   intro ds u hau
   refine ⟨θ,he.stay0 hi hau hf rfl,?_⟩
   try dsimp only
   rw [updE_self E 13,updE_fls 13 e15 rfl]
   exact hc
  ·intro E θ a w hD hi hp he hc
   have e2 := hp.of (k := 2) rfl
   have e3 := hp.of (k := 3) rfl
   have e13 := hp.of (k := 13) rfl
   have e15 := hD.f 11 rfl hi
   try dsimp only at hc
   rw [e13,e15] at hc
   have hf := he.h0
   replace hf := hf.more he 7 rfl (onP e2)
   replace hf := hf.more he 8 rfl (onP e3)
   refine stP hf rfl rfl rfl (pIA Tryz.underlying25 sz_3 rfl rfl qa_3) fun a hf => cNil ?_
   refine xThenN ?_
   intro ds u hau
   refine ⟨θ,he.put0 hi hau hf rfl 18 rfl rfl,?_⟩
   try dsimp only
   rw [updE_tru 14 e13,updE_fls 14 e15 rfl]
   exact hc
  ·intro E θ a w hD hi hp he hc
   have e11 := hp.of (k := 11) rfl
   have e14 := hp.of (k := 14) rfl
   have e13 := hp.of (k := 13) rfl
   try dsimp only at hc
   rw [e13,hi] at hc
   have hf := he.h0
   replace hf := hf.more he 16 rfl (onP e11)
   replace hf := hf.more he 18 rfl (onP e14)
   refine stRw (vs := [i6 e_2]) (o' := 0) (z := e_2) (xs := ((out ++ [i_1]).set i_1.toNat e_1)) hf hc rfl rfl rfl rfl sz_3 rfl (fun x => (one_encI_i64 x).1) (by simpa using getI_lt he_4) (fun _ _ => rfl) rfl u2 fun w hc => cNil ?_
   refine xThenN ?_
   intro ds u hau
   refine ⟨θ,he.stay0 hi hau hf rfl,?_⟩
   try dsimp only
   rw [updE_tru 15 e13,updE_self E 15]
   exact hc
  ·intro E θ a w hall he hc
   have hf := he.h0
   have e13 := hall 13 rfl
   have e15 := hall 15 rfl
   replace hf := hf.more he 3 rfl (onT)
   replace hf := hf.more he 2 rfl (onT)
   replace hf := hf.more he 1 rfl (onT)
   replace hf := hf.more he 0 rfl (onT)
   try dsimp only at hc
   rw [e13,e15] at hc
   exact ⟨hf.kp rfl,hc⟩
  rintro a w ⟨hf,hc⟩
  refine h9 _ _ ?_
  refine cReg ?_
  refine stP hf rfl rfl rfl (pM rfl) fun a hf => stP hf rfl rfl rfl (pAdd rfl rfl) fun a hf => stP hf rfl rfl rfl (pA rfl) fun a hf => cNil ?_
  replace hf := hf.castAt 5 (v' := .slice (some ⟨g,0,none⟩) ((((out ++ [i_1]).set i_1.toNat e_1).set r.1.toNat e_2).length) c_2) rfl (congrArg (fun k => Value.slice (some ⟨g,0,none⟩) k c_2) (by simp))
  replace hc := hc.drop k0
  replace hc := hc.pick k0
  replace hc := hc.pick k1
  exact hK5 ((((out ++ [i_1]).set i_1.toNat e_1).set r.1.toNat e_2),W (i_1 + 1),r.2.1,r.2.2) _ _ (sj hF).symm ⟨(some ⟨g,0,none⟩),c_2,hf.kp rfl,hc⟩
 ·replace hF := condF hb hF
  clear hb
  refine wp_exit ?_
  refine xThen ?_
  refine xThen ?_
  have he := sj hF
  rw [← he] at hfin5
  refine cHit ?_
  exact hr5 _ _ _ hfin5 ⟨p_1,c_1,hf.kp rfl,hc⟩

def crew_in (n : Int) (least : Int) (greatest : Int) : Bool :=
 ((decide (least ≤ n)) && (decide (n ≤ greatest)))
theorem crew_in_ok {G : Pers} {Lf : List Ent} {w : World} (n : Int) (least : Int) (greatest : Int)   (hc : Ctx G (Lf) w) {res : Bool} (hF : crew_in n least greatest = res) : Calls Tryz.prog 86 #[i6 n,i6 least,i6 greatest] w (fun e w => e = .returned (.bool res) ∧ Ctx G (Lf) w) := by
 unfold crew_in at hF
 refine fnIn (args := [i6 n,i6 least,i6 greatest]) Tryz.func86 rfl Tryz.ntmps86 rfl fun a hf => wp_seq_k fun K1 h1 => cReg ?_
 refine stP hf rfl rfl rfl (pA rfl) fun a hf => cNil ?_
 refine h1 _ _ ?_
 refine wp_seq_k fun K2 h2 => cReg ?_
 refine stP hf rfl rfl rfl (pM rfl) fun a hf => stP hf rfl rfl rfl (pM rfl) fun a hf => stP hf rfl rfl rfl (pGe rfl rfl) fun a hf => stP hf rfl rfl rfl (pM rfl) fun a hf => stCut 4 (fun a w => Has 15 a [(0,i6 n),(1,i6 least),(2,i6 greatest),(6,.bool false),(7,i6 n),(8,i6 least),(9,.bool (decide (least ≤ n))),(10,.bool (decide (least ≤ n))),(14,.bool ((decide (least ≤ n)) && (decide (n ≤ greatest))))] ∧ Ctx G (Lf) w) ?_ ?_
 ·cases hb : (decide (least ≤ n))
  ·rw [hb] at hf
   refine stS hf rfl rfl rfl fun a hf => stS hf rfl rfl rfl fun a hf => stS hf rfl rfl rfl fun a hf => stP hf rfl rfl rfl (pPf rfl rfl) fun a hf => cNil ⟨hf.kp rfl,hc⟩
  ·rw [hb] at hf
   refine stP hf rfl rfl rfl (pM rfl) fun a hf => stP hf rfl rfl rfl (pM rfl) fun a hf => stP hf rfl rfl rfl (pLe rfl rfl) fun a hf => stP hf rfl rfl rfl (pPt rfl rfl) fun a hf => cNil ⟨hf.kp rfl,hc⟩
 intro a w ⟨hf,hc⟩
 refine stP hf rfl rfl rfl (pA rfl) fun a hf => cNil ?_
 refine h2 _ _ ?_
 refine wp_ret ?_
 obtain rfl := hF
 exact fnOut1 (by simp) rfl Tryz.results86 hf hc (show look _ 6 = _ from rfl) ⟨rfl,hc⟩

def crew_Check_1_1 (s_ : Int) (x : crew_Roster) : Bool :=
 (crew_in s_ 0 (W (((x.Stations.length : Nat) : Int) - 1)))
theorem crew_Check_1_1_ok {G : Pers} {Lf : List Ent} {w : World} (s_ : Int) (x : crew_Roster) {b_ : Nat} {x_People_p : Option Addr} {x_People_c : Nat} {x_Stations_p : Option Addr} {x_Stations_c : Nat} (h_x_People : RdT kd_25 G 1 x_People_p x_People_c x.People) (h_x_Stations : RdT kd_101 G 2 x_Stations_p x_Stations_c x.Stations) (hc : Ctx G (.box b_ [.slice x_People_p x.People.length x_People_c,.slice x_Stations_p x.Stations.length x_Stations_c] 78::Lf) w) {res : Bool} (hF : crew_Check_1_1 s_ x = res) : Calls Tryz.prog 118 #[i6 s_,pq b_] w (fun e w => e = .returned (.bool res) ∧ Ctx G (.box b_ [.slice x_People_p x.People.length x_People_c,.slice x_Stations_p x.Stations.length x_Stations_c] 78::Lf) w) := by
 unfold crew_Check_1_1 at hF
 refine fnIn (args := [i6 s_,pq b_]) Tryz.func118 rfl Tryz.ntmps118 rfl fun a hf => wp_seq_k fun K1 h1 => cReg ?_
 refine stP hf rfl rfl rfl (pA rfl) fun a hf => cNil ?_
 refine h1 _ _ ?_
 refine wp_seq_k fun K2 h2 => cReg ?_
 refine stP hf rfl rfl rfl (pM rfl) fun a hf => stP hf rfl rfl rfl (pFA fa_78_1 rfl) fun a hf => stE hf hc rfl rfl rfl (eLd1 sc_76 rfl (cell_box m0 rfl)) fun a w hf hc => stP hf rfl rfl rfl (pLenS Tryz.underlying76 rfl) fun a hf => stP hf rfl rfl rfl (pSub rfl rfl) fun a hf => stE hf hc rfl rfl rfl (eC (v := .bool (crew_in s_ 0 (W (((x.Stations.length : Nat) : Int) - 1)))) (vs := [i6 s_,i6 0,i6 (W (((x.Stations.length : Nat) : Int) - 1))]) (caps := []) en_86 rfl rfl rfl rfl (fun w hc => crew_in_ok s_ 0 (W (((x.Stations.length : Nat) : Int) - 1)) hc rfl)) fun a w hf hc => stP hf rfl rfl rfl (pA rfl) fun a hf => cNil ?_
 refine h2 _ _ ?_
 refine wp_ret ?_
 obtain rfl := hF
 exact fnOut1 (by simp) rfl Tryz.results118 hf hc (show look _ 3 = _ from rfl) ⟨rfl,hc⟩

def crew_every_int_1 (x : Int) (x_1 : crew_Roster) : Bool :=
 (!(crew_Check_1_1 x x_1))
theorem crew_every_int_1_ok {G : Pers} {Lf : List Ent} {w : World} (x : Int) (x_1 : crew_Roster) {b_ : Nat} {b__1 : Nat} {x_1_People_p : Option Addr} {x_1_People_c : Nat} {x_1_Stations_p : Option Addr} {x_1_Stations_c : Nat} (h_x_1_People : RdT kd_25 G 1 x_1_People_p x_1_People_c x_1.People) (h_x_1_Stations : RdT kd_101 G 2 x_1_Stations_p x_1_Stations_c x_1.Stations) (hc : Ctx G (.box b_ [.func (.func 118) #[] #[pq b__1]] 143::.box b__1 [.slice x_1_People_p x_1.People.length x_1_People_c,.slice x_1_Stations_p x_1.Stations.length x_1_Stations_c] 78::Lf) w) {res : Bool} (hF : crew_every_int_1 x x_1 = res) : Calls Tryz.prog 157 #[i6 x,pq b_] w (fun e w => e = .returned (.bool res) ∧ Ctx G (.box b_ [.func (.func 118) #[] #[pq b__1]] 143::.box b__1 [.slice x_1_People_p x_1.People.length x_1_People_c,.slice x_1_Stations_p x_1.Stations.length x_1_Stations_c] 78::Lf) w) := by
 unfold crew_every_int_1 at hF
 refine fnIn (args := [i6 x,pq b_]) Tryz.func157 rfl Tryz.ntmps157 rfl fun a hf => wp_seq_k fun K1 h1 => cReg ?_
 refine stP hf rfl rfl rfl (pA rfl) fun a hf => cNil ?_
 refine h1 _ _ ?_
 refine wp_seq_k fun K2 h2 => cReg ?_
 refine stE hf hc rfl rfl rfl (eLd1 sc_143 rfl (cell_box m0 rfl)) fun a w hf hc => stP hf rfl rfl rfl (pM rfl) fun a hf => stE hf hc rfl rfl rfl (eC (v := .bool (crew_Check_1_1 x x_1)) (vs := [i6 x]) (caps := [pq b__1]) en_118 rfl rfl rfl rfl (fun w hc => (crew_Check_1_1_ok x x_1 h_x_1_People h_x_1_Stations (hc.pick k1) rfl).mono fun e w h => ⟨h.1,(h.2.unpick k1)⟩)) fun a w hf hc => stP hf rfl rfl rfl (pNot rfl) fun a hf => stP hf rfl rfl rfl (pA rfl) fun a hf => cNil ?_
 refine h2 _ _ ?_
 refine wp_ret ?_
 obtain rfl := hF
 exact fnOut1 (by simp) rfl Tryz.results157 hf hc (show look _ 3 = _ from rfl) ⟨rfl,hc⟩

def slices_IndexFunc_Lint_int_s2_b4 (N : Nat) (s_ : List Int) (f_ : crew_Roster) (x : Int) : Option (Step (Int) (Int)) :=
 cond (decide (x < ((s_.length : Nat) : Int)))
 (Option.bind (getI s_ x) fun e_1 =>
 cond (crew_every_int_1 e_1 f_)
 (some (.ret x))
 (some (.cont (W (x + 1)))))
 (some (.brk x))
def slices_IndexFunc_Lint_int_s2 (N : Nat) (s_ : List Int) (f_ : crew_Roster) : Option (Int) :=
 Option.bind (loopO (fun s4 => slices_IndexFunc_Lint_int_s2_b4 N s_ f_ s4) N 0) fun x4 =>
 exK x4 (fun s4 => some (-1)) some
theorem slices_IndexFunc_Lint_int_s2_ok {N : Nat} {G : Pers} {Lf : List Ent} {w : World} (s_ : List Int) (f_ : crew_Roster) {s__p : Option Addr} {s__c : Nat} {b_ : Nat} {b__1 : Nat} {f__People_p : Option Addr} {f__People_c : Nat} {f__Stations_p : Option Addr} {f__Stations_c : Nat} (h_s_ : Rd G 1 s__p s__c (s_.map encI_i64)) (h_f__People : RdT kd_25 G 1 f__People_p f__People_c f_.People) (h_f__Stations : RdT kd_101 G 2 f__Stations_p f__Stations_c f_.Stations) (hc : Ctx G (.box b_ [.func (.func 118) #[] #[pq b__1]] 143::.box b__1 [.slice f__People_p f_.People.length f__People_c,.slice f__Stations_p f_.Stations.length f__Stations_c] 78::Lf) w) {res : Int} (hF : slices_IndexFunc_Lint_int_s2 N s_ f_ = some res) : Calls Tryz.prog 97 #[.slice s__p s_.length s__c,.func (.func 157) #[] #[pq b_]] w (fun e w => e = .returned (i6 res) ∧ Ctx G (.box b_ [.func (.func 118) #[] #[pq b__1]] 143::.box b__1 [.slice f__People_p f_.People.length f__People_c,.slice f__Stations_p f_.Stations.length f__Stations_c] 78::Lf) w) := by
 unfold slices_IndexFunc_Lint_int_s2 at hF
 refine fnIn (args := [.slice s__p s_.length s__c,.func (.func 157) #[] #[pq b_]]) Tryz.func97 rfl Tryz.ntmps97 rfl fun a hf => wp_seq_k fun K1 h1 => cReg ?_
 refine stP hf rfl rfl rfl (pA rfl) fun a hf => cNil ?_
 refine h1 _ _ ?_
 refine wp_seq_k fun K2 h2 => wp_seq_k fun K3 h3 => cReg ?_
 refine stP hf rfl rfl rfl (pM rfl) fun a hf => stP hf rfl rfl rfl (pLenS Tryz.underlying25 rfl) fun a hf => stP hf rfl rfl rfl (pM rfl) fun a hf => cNil ?_
 refine h3 _ _ ?_
 refine wp_block ?_
 obtain ⟨x4,hx4,hF⟩ := bnd_some hF
 let S4 : Int → Act → World → Prop := (fun (zz : Int) a w => Has 19 a [(0,.slice s__p s_.length s__c),(1,.func (.func 157) #[] #[pq b_]),(7,i6 ((s_.length : Nat) : Int)),(8,i6 zz)] ∧ Ctx G (.box b_ [.func (.func 118) #[] #[pq b__1]] 143::.box b__1 [.slice f__People_p f_.People.length f__People_c,.slice f__Stations_p f_.Stations.length f__Stations_c] 78::Lf) w)
 have hr4 : ∀ (zz : Int) a w,x4 = .go zz → S4 zz a w → K2 a w := by
  rintro x a w rfl ⟨hf,hc⟩
  replace hF := exK_go hF
  refine h2 _ _ ?_
  refine wp_seq_k fun K5 h5 => cReg ?_
  refine stP hf rfl rfl rfl (pA rfl) fun a hf => cNil ?_
  refine h5 _ _ ?_
  refine wp_ret ?_
  obtain rfl := sj hF
  exact fnOut1 (by simp) rfl Tryz.results97 hf hc (show look _ 4 = _ from rfl) ⟨rfl,hc⟩
 have ho4 : ∀ r,x4 = .out r → r = res := by
  rintro r rfl
  exact sj hF
 refine cLoop N (loopW (S := S4) (x := x4) ?_ N 0 _ _ ⟨hf.kp rfl,hc⟩ hx4)
 clear hF hf hc
 rintro x st4 a w KB4 ⟨hf,hc⟩ hF hfin4 hK4
 unfold slices_IndexFunc_Lint_int_s2_b4 at hF
 refine wp_seq_k fun K6 h6 => cReg ?_
 refine stP hf rfl rfl rfl (pLt rfl rfl) fun a hf => cNil ?_
 refine h6 _ _ ?_
 refine wp_seq_k fun K7 h7 => cCond (b := (decide (x < ((s_.length : Nat) : Int)))) hf rfl (fun hb => ?_) (fun hb => ?_)
 ·replace hF := condT hb hF
  clear hb
  refine wp_skip ?_
  refine h7 _ _ ?_
  refine wp_seq_k fun K8 h8 => wp_block ?_
  refine wp_seq_k fun K9 h9 => cReg ?_
  refine stP hf rfl rfl rfl (pM rfl) fun a hf => stP hf rfl rfl rfl (pA rfl) fun a hf => cNil ?_
  refine h9 _ _ ?_
  refine wp_seq_k fun K10 h10 => cReg ?_
  refine stP hf rfl rfl rfl (pM rfl) fun a hf => stP hf rfl rfl rfl (pM rfl) fun a hf => stP hf rfl rfl rfl (pM rfl) fun a hf => ?_
  obtain ⟨e_1,he_1,hF⟩ := bnd_some hF
  obtain ⟨b_1,o,qa,qp⟩ := h_s_.atm he_1
  refine stP hf rfl rfl rfl (pIA Tryz.underlying25 sz_3 rfl rfl qa) fun a hf => stE hf hc rfl rfl rfl (eLd1 sc_3 rfl (cell_pc (j := 0) qp rfl)) fun a w hf hc => stE hf hc rfl rfl rfl (eC (v := .bool (crew_every_int_1 e_1 f_)) (vs := [i6 e_1]) (caps := [pq b_]) en_157 rfl rfl rfl rfl (fun w hc => (crew_every_int_1_ok e_1 f_ h_f__People h_f__Stations ((hc.pick k1).pick k1) rfl).mono fun e w h => ⟨h.1,((h.2.unpick k1).unpick k1)⟩)) fun a w hf hc => cNil ?_
  refine h10 _ _ ?_
  refine cCond (b := (crew_every_int_1 e_1 f_)) hf rfl (fun hb => ?_) (fun hb => ?_)
  ·replace hF := condT hb hF
   clear hb
   refine wp_seq_k fun K11 h11 => cReg ?_
   refine stP hf rfl rfl rfl (pM rfl) fun a hf => stP hf rfl rfl rfl (pA rfl) fun a hf => cNil ?_
   refine h11 _ _ ?_
   refine wp_ret ?_
   refine xBlkR ?_
   refine xThenR ?_
   refine xThenR ?_
   have he := sj hF
   rw [← he] at hfin4
   replace hF := ho4 _ hfin4
   refine xBlkR ?_
   refine xThenR ?_
   obtain rfl := hF
   exact fnOut1 (by simp) rfl Tryz.results97 hf hc (show look _ 4 = _ from rfl) ⟨rfl,hc⟩
  ·replace hF := condF hb hF
   clear hb
   refine wp_skip ?_
   refine h8 _ _ ?_
   refine cReg ?_
   refine stP hf rfl rfl rfl (pAdd rfl rfl) fun a hf => stP hf rfl rfl rfl (pM rfl) fun a hf => cNil ?_
   exact hK4 (W (x + 1)) _ _ (sj hF).symm ⟨hf.kp rfl,hc⟩
 ·replace hF := condF hb hF
  clear hb
  refine wp_exit ?_
  refine xThen ?_
  refine xThen ?_
  have he := sj hF
  rw [← he] at hfin4
  refine cHit ?_
  exact hr4 _ _ _ hfin4 ⟨hf.kp rfl,hc⟩

def slices_ContainsFunc_Lint_int_s2 (N : Nat) (s_ : List Int) (f_ : crew_Roster) : Option (Bool) :=
 Option.bind (slices_IndexFunc_Lint_int_s2 N s_ f_) fun r =>
 some (decide (0 ≤ r))
theorem slices_ContainsFunc_Lint_int_s2_ok {N : Nat} {G : Pers} {Lf : List Ent} {w : World} (s_ : List Int) (f_ : crew_Roster) {s__p : Option Addr} {s__c : Nat} {b_ : Nat} {b__1 : Nat} {f__People_p : Option Addr} {f__People_c : Nat} {f__Stations_p : Option Addr} {f__Stations_c : Nat} (h_s_ : Rd G 1 s__p s__c (s_.map encI_i64)) (h_f__People : RdT kd_25 G 1 f__People_p f__People_c f_.People) (h_f__Stations : RdT kd_101 G 2 f__Stations_p f__Stations_c f_.Stations) (hc : Ctx G (.box b_ [.func (.func 118) #[] #[pq b__1]] 143::.box b__1 [.slice f__People_p f_.People.length f__People_c,.slice f__Stations_p f_.Stations.length f__Stations_c] 78::Lf) w) {res : Bool} (hF : slices_ContainsFunc_Lint_int_s2 N s_ f_ = some res) : Calls Tryz.prog 113 #[.slice s__p s_.length s__c,.func (.func 157) #[] #[pq b_]] w (fun e w => e = .returned (.bool res) ∧ Ctx G (.box b_ [.func (.func 118) #[] #[pq b__1]] 143::.box b__1 [.slice f__People_p f_.People.length f__People_c,.slice f__Stations_p f_.Stations.length f__Stations_c] 78::Lf) w) := by
 unfold slices_ContainsFunc_Lint_int_s2 at hF
 refine fnIn (args := [.slice s__p s_.length s__c,.func (.func 157) #[] #[pq b_]]) Tryz.func113 rfl Tryz.ntmps113 rfl fun a hf => wp_seq_k fun K1 h1 => cReg ?_
 refine stP hf rfl rfl rfl (pA rfl) fun a hf => cNil ?_
 refine h1 _ _ ?_
 refine wp_seq_k fun K2 h2 => cReg ?_
 refine stP hf rfl rfl rfl (pM rfl) fun a hf => stP hf rfl rfl rfl (pM rfl) fun a hf => ?_
 obtain ⟨r,hr,hF⟩ := bnd_some hF
 refine stE hf hc rfl rfl rfl (eC (v := i6 r) (vs := [.slice s__p s_.length s__c,.func (.func 157) #[] #[pq b_]]) (caps := []) en_97 rfl rfl rfl rfl (fun w hc => (slices_IndexFunc_Lint_int_s2_ok s_ f_ h_s_ h_f__People h_f__Stations ((hc.pick k1).pick k1) hr).mono fun e w h => ⟨h.1,((h.2.unpick k1).unpick k1)⟩)) fun a w hf hc => stP hf rfl rfl rfl (pGe rfl rfl) fun a hf => stP hf rfl rfl rfl (pA rfl) fun a hf => cNil ?_
 refine h2 _ _ ?_
 refine wp_ret ?_
 obtain rfl := sj hF
 exact fnOut1 (by simp) rfl Tryz.results113 hf hc (show look _ 4 = _ from rfl) ⟨rfl,hc⟩

def crew_every_int (N : Nat) (l : List Int) (so : crew_Roster) : Option (Bool) :=
 Option.bind (slices_ContainsFunc_Lint_int_s2 N l so) fun r =>
 some (!r)
theorem crew_every_int_ok {N : Nat} {G : Pers} {Lf : List Ent} {w : World} (l : List Int) (so : crew_Roster) {l_p : Option Addr} {l_c : Nat} {b_ : Nat} {so_People_p : Option Addr} {so_People_c : Nat} {so_Stations_p : Option Addr} {so_Stations_c : Nat} (h_l : Rd G 1 l_p l_c (l.map encI_i64)) (h_so_People : RdT kd_25 G 1 so_People_p so_People_c so.People) (h_so_Stations : RdT kd_101 G 2 so_Stations_p so_Stations_c so.Stations) (hc : Ctx G (.box b_ [.slice so_People_p so.People.length so_People_c,.slice so_Stations_p so.Stations.length so_Stations_c] 78::Lf) w) {res : Bool} (hF : crew_every_int N l so = some res) : Calls Tryz.prog 87 #[.slice l_p l.length l_c,.func (.func 118) #[] #[pq b_]] w (fun e w => e = .returned (.bool res) ∧ Ctx G (.box b_ [.slice so_People_p so.People.length so_People_c,.slice so_Stations_p so.Stations.length so_Stations_c] 78::Lf) w) := by
 unfold crew_every_int at hF
 refine fnIn (args := [.slice l_p l.length l_c,.func (.func 118) #[] #[pq b_]]) Tryz.func87 rfl Tryz.ntmps87 rfl fun a hf => wp_seq_k fun K1 h1 => cReg ?_
 refine stBx (cs := [.func (.func 118) #[] #[pq b_]]) hf hc rfl rfl rfl rfl fun b_1 a w hf hc => stP hf rfl rfl rfl (pA rfl) fun a hf => cNil ?_
 refine h1 _ _ ?_
 refine wp_seq_k fun K2 h2 => cReg ?_
 refine stP hf rfl rfl rfl (pM rfl) fun a hf => stP hf rfl rfl rfl (pMF (us := [pq b_1]) rfl rfl) fun a hf => ?_
 obtain ⟨r,hr,hF⟩ := bnd_some hF
 refine stE hf hc rfl rfl rfl (eC (v := .bool r) (vs := [.slice l_p l.length l_c,.func (.func 157) #[] #[pq b_1]]) (caps := []) en_113 rfl rfl rfl rfl (fun w hc => (slices_ContainsFunc_Lint_int_s2_ok l so h_l h_so_People h_so_Stations ((hc.pick k1).pick k1) hr).mono fun e w h => ⟨h.1,((h.2.unpick k1).unpick k1)⟩)) fun a w hf hc => stP hf rfl rfl rfl (pNot rfl) fun a hf => stP hf rfl rfl rfl (pA rfl) fun a hf => cNil ?_
 refine h2 _ _ ?_
 refine wp_ret ?_
 obtain rfl := sj hF
 replace hc := hc.drop k0
 exact fnOut1 (by simp) rfl Tryz.results87 hf hc (show look _ 4 = _ from rfl) ⟨rfl,hc⟩

def crew_Check_1 (N : Nat) (l : List Int) (x : crew_Roster) : Option (Bool) :=
 Option.bind (crew_every_int N l (⟨x.People,x.Stations⟩ : crew_Roster)) fun r =>
 some r
theorem crew_Check_1_ok {N : Nat} {G : Pers} {Lf : List Ent} {w : World} (l : List Int) (x : crew_Roster) {l_p : Option Addr} {l_c : Nat} {b_ : Nat} {x_People_p : Option Addr} {x_People_c : Nat} {x_Stations_p : Option Addr} {x_Stations_c : Nat} (h_l : Rd G 1 l_p l_c (l.map encI_i64)) (h_x_People : RdT kd_25 G 1 x_People_p x_People_c x.People) (h_x_Stations : RdT kd_101 G 2 x_Stations_p x_Stations_c x.Stations) (hc : Ctx G (.box b_ [.slice x_People_p x.People.length x_People_c,.slice x_Stations_p x.Stations.length x_Stations_c] 78::Lf) w) {res : Bool} (hF : crew_Check_1 N l x = some res) : Calls Tryz.prog 117 #[.slice l_p l.length l_c,pq b_] w (fun e w => e = .returned (.bool res) ∧ Ctx G (.box b_ [.slice x_People_p x.People.length x_People_c,.slice x_Stations_p x.Stations.length x_Stations_c] 78::Lf) w) := by
 unfold crew_Check_1 at hF
 refine fnIn (args := [.slice l_p l.length l_c,pq b_]) Tryz.func117 rfl Tryz.ntmps117 rfl fun a hf => wp_seq_k fun K1 h1 => cReg ?_
 refine stP hf rfl rfl rfl (pA rfl) fun a hf => cNil ?_
 refine h1 _ _ ?_
 refine wp_seq_k fun K2 h2 => cReg ?_
 refine stP hf rfl rfl rfl (pM rfl) fun a hf => stP hf rfl rfl rfl (pMF (us := [pq b_]) rfl rfl) fun a hf => ?_
 obtain ⟨r,hr,hF⟩ := bnd_some hF
 refine stE hf hc rfl rfl rfl (eC (v := .bool r) (vs := [.slice l_p l.length l_c,.func (.func 118) #[] #[pq b_]]) (caps := []) en_87 rfl rfl rfl rfl (fun w hc => (crew_every_int_ok l (⟨x.People,x.Stations⟩ : crew_Roster) h_l h_x_People h_x_Stations (hc.pick k0) hr).mono fun e w h => ⟨h.1,(h.2.unpick k0)⟩)) fun a w hf hc => stP hf rfl rfl rfl (pA rfl) fun a hf => cNil ?_
 refine h2 _ _ ?_
 refine wp_ret ?_
 obtain rfl := sj hF
 exact fnOut1 (by simp) rfl Tryz.results117 hf hc (show look _ 3 = _ from rfl) ⟨rfl,hc⟩

def crew_every_Lint_1 (N : Nat) (x : List Int) (x_1 : crew_Roster) : Option (Bool) :=
 Option.bind (crew_Check_1 N x x_1) fun r =>
 some (!r)
theorem crew_every_Lint_1_ok {N : Nat} {G : Pers} {Lf : List Ent} {w : World} (x : List Int) (x_1 : crew_Roster) {x_p : Option Addr} {x_c : Nat} {b_ : Nat} {b__1 : Nat} {x_1_People_p : Option Addr} {x_1_People_c : Nat} {x_1_Stations_p : Option Addr} {x_1_Stations_c : Nat} (h_x : Rd G 1 x_p x_c (x.map encI_i64)) (h_x_1_People : RdT kd_25 G 1 x_1_People_p x_1_People_c x_1.People) (h_x_1_Stations : RdT kd_101 G 2 x_1_Stations_p x_1_Stations_c x_1.Stations) (hc : Ctx G (.box b_ [.func (.func 117) #[] #[pq b__1]] 185::.box b__1 [.slice x_1_People_p x_1.People.length x_1_People_c,.slice x_1_Stations_p x_1.Stations.length x_1_Stations_c] 78::Lf) w) {res : Bool} (hF : crew_every_Lint_1 N x x_1 = some res) : Calls Tryz.prog 169 #[.slice x_p x.length x_c,pq b_] w (fun e w => e = .returned (.bool res) ∧ Ctx G (.box b_ [.func (.func 117) #[] #[pq b__1]] 185::.box b__1 [.slice x_1_People_p x_1.People.length x_1_People_c,.slice x_1_Stations_p x_1.Stations.length x_1_Stations_c] 78::Lf) w) := by
 unfold crew_every_Lint_1 at hF
 refine fnIn (args := [.slice x_p x.length x_c,pq b_]) Tryz.func169 rfl Tryz.ntmps169 rfl fun a hf => wp_seq_k fun K1 h1 => cReg ?_
 refine stP hf rfl rfl rfl (pA rfl) fun a hf => cNil ?_
 refine h1 _ _ ?_
 refine wp_seq_k fun K2 h2 => cReg ?_
 refine stE hf hc rfl rfl rfl (eLd1 sc_185 rfl (cell_box m0 rfl)) fun a w hf hc => stP hf rfl rfl rfl (pM rfl) fun a hf => ?_
 obtain ⟨r,hr,hF⟩ := bnd_some hF
 refine stE hf hc rfl rfl rfl (eC (v := .bool r) (vs := [.slice x_p x.length x_c]) (caps := [pq b__1]) en_117 rfl rfl rfl rfl (fun w hc => (crew_Check_1_ok x x_1 h_x h_x_1_People h_x_1_Stations (hc.pick k1) hr).mono fun e w h => ⟨h.1,(h.2.unpick k1)⟩)) fun a w hf hc => stP hf rfl rfl rfl (pNot rfl) fun a hf => stP hf rfl rfl rfl (pA rfl) fun a hf => cNil ?_
 refine h2 _ _ ?_
 refine wp_ret ?_
 obtain rfl := sj hF
 exact fnOut1 (by simp) rfl Tryz.results169 hf hc (show look _ 3 = _ from rfl) ⟨rfl,hc⟩

def slices_IndexFunc_LLint_Lint_b4 (N : Nat) (s_ : List (List Int)) (f_ : crew_Roster) (x : Int) : Option (Step (Int) (Int)) :=
 cond (decide (x < ((s_.length : Nat) : Int)))
 (Option.bind (getI s_ x) fun e_1 =>
 Option.bind (crew_every_Lint_1 N e_1 f_) fun r =>
 cond r
 (some (.ret x))
 (some (.cont (W (x + 1)))))
 (some (.brk x))
def slices_IndexFunc_LLint_Lint (N : Nat) (s_ : List (List Int)) (f_ : crew_Roster) : Option (Int) :=
 Option.bind (loopO (fun s4 => slices_IndexFunc_LLint_Lint_b4 N s_ f_ s4) N 0) fun x4 =>
 exK x4 (fun s4 => some (-1)) some
theorem slices_IndexFunc_LLint_Lint_ok {N : Nat} {G : Pers} {Lf : List Ent} {w : World} (s_ : List (List Int)) (f_ : crew_Roster) {s__p : Option Addr} {s__c : Nat} {b_ : Nat} {b__1 : Nat} {f__People_p : Option Addr} {f__People_c : Nat} {f__Stations_p : Option Addr} {f__Stations_c : Nat} (h_s_ : RdT kd_25 G 1 s__p s__c s_) (h_f__People : RdT kd_25 G 1 f__People_p f__People_c f_.People) (h_f__Stations : RdT kd_101 G 2 f__Stations_p f__Stations_c f_.Stations) (hc : Ctx G (.box b_ [.func (.func 117) #[] #[pq b__1]] 185::.box b__1 [.slice f__People_p f_.People.length f__People_c,.slice f__Stations_p f_.Stations.length f__Stations_c] 78::Lf) w) {res : Int} (hF : slices_IndexFunc_LLint_Lint N s_ f_ = some res) : Calls Tryz.prog 191 #[.slice s__p s_.length s__c,.func (.func 169) #[] #[pq b_]] w (fun e w => e = .returned (i6 res) ∧ Ctx G (.box b_ [.func (.func 117) #[] #[pq b__1]] 185::.box b__1 [.slice f__People_p f_.People.length f__People_c,.slice f__Stations_p f_.Stations.length f__Stations_c] 78::Lf) w) := by
 unfold slices_IndexFunc_LLint_Lint at hF
 refine fnIn (args := [.slice s__p s_.length s__c,.func (.func 169) #[] #[pq b_]]) Tryz.func191 rfl Tryz.ntmps191 rfl fun a hf => wp_seq_k fun K1 h1 => cReg ?_
 refine stP hf rfl rfl rfl (pA rfl) fun a hf => cNil ?_
 refine h1 _ _ ?_
 refine wp_seq_k fun K2 h2 => wp_seq_k fun K3 h3 => cReg ?_
 refine stP hf rfl rfl rfl (pM rfl) fun a hf => stP hf rfl rfl rfl (pLenS Tryz.underlying75 rfl) fun a hf => stP hf rfl rfl rfl (pM rfl) fun a hf => cNil ?_
 refine h3 _ _ ?_
 refine wp_block ?_
 obtain ⟨x4,hx4,hF⟩ := bnd_some hF
 let S4 : Int → Act → World → Prop := (fun (zz : Int) a w => Has 19 a [(0,.slice s__p s_.length s__c),(1,.func (.func 169) #[] #[pq b_]),(7,i6 ((s_.length : Nat) : Int)),(8,i6 zz)] ∧ Ctx G (.box b_ [.func (.func 117) #[] #[pq b__1]] 185::.box b__1 [.slice f__People_p f_.People.length f__People_c,.slice f__Stations_p f_.Stations.length f__Stations_c] 78::Lf) w)
 have hr4 : ∀ (zz : Int) a w,x4 = .go zz → S4 zz a w → K2 a w := by
  rintro x a w rfl ⟨hf,hc⟩
  replace hF := exK_go hF
  refine h2 _ _ ?_
  refine wp_seq_k fun K5 h5 => cReg ?_
  refine stP hf rfl rfl rfl (pA rfl) fun a hf => cNil ?_
  refine h5 _ _ ?_
  refine wp_ret ?_
  obtain rfl := sj hF
  exact fnOut1 (by simp) rfl Tryz.results191 hf hc (show look _ 4 = _ from rfl) ⟨rfl,hc⟩
 have ho4 : ∀ r,x4 = .out r → r = res := by
  rintro r rfl
  exact sj hF
 refine cLoop N (loopW (S := S4) (x := x4) ?_ N 0 _ _ ⟨hf.kp rfl,hc⟩ hx4)
 clear hF hf hc
 rintro x st4 a w KB4 ⟨hf,hc⟩ hF hfin4 hK4
 unfold slices_IndexFunc_LLint_Lint_b4 at hF
 refine wp_seq_k fun K6 h6 => cReg ?_
 refine stP hf rfl rfl rfl (pLt rfl rfl) fun a hf => cNil ?_
 refine h6 _ _ ?_
 refine wp_seq_k fun K7 h7 => cCond (b := (decide (x < ((s_.length : Nat) : Int)))) hf rfl (fun hb => ?_) (fun hb => ?_)
 ·replace hF := condT hb hF
  clear hb
  refine wp_skip ?_
  refine h7 _ _ ?_
  refine wp_seq_k fun K8 h8 => wp_block ?_
  refine wp_seq_k fun K9 h9 => cReg ?_
  refine stP hf rfl rfl rfl (pM rfl) fun a hf => stP hf rfl rfl rfl (pA rfl) fun a hf => cNil ?_
  refine h9 _ _ ?_
  refine wp_seq_k fun K10 h10 => cReg ?_
  refine stP hf rfl rfl rfl (pM rfl) fun a hf => stP hf rfl rfl rfl (pM rfl) fun a hf => stP hf rfl rfl rfl (pM rfl) fun a hf => ?_
  obtain ⟨e_1,he_1,hF⟩ := bnd_some hF
  obtain ⟨b_1,o,hd,qa,qp,qr⟩ := h_s_.atm he_1
  refine stP hf rfl rfl rfl (pIA Tryz.underlying75 sz_25 rfl rfl qa) fun a hf => stE hf hc rfl rfl rfl (eLd1 sc_25 rfl (cell_pc (j := 0) qp rfl)) fun a w hf hc => ?_
  obtain ⟨r,hr,hF⟩ := bnd_some hF
  refine stE hf hc rfl rfl rfl (eC (v := .bool r) (vs := [.slice hd.1 e_1.length hd.2]) (caps := [pq b_]) en_169 rfl rfl rfl rfl (fun w hc => (crew_every_Lint_1_ok e_1 f_ qr h_f__People h_f__Stations ((hc.pick k1).pick k1) hr).mono fun e w h => ⟨h.1,((h.2.unpick k1).unpick k1)⟩)) fun a w hf hc => cNil ?_
  refine h10 _ _ ?_
  refine cCond (b := r) hf rfl (fun hb => ?_) (fun hb => ?_)
  ·replace hF := condT hb hF
   clear hb
   refine wp_seq_k fun K11 h11 => cReg ?_
   refine stP hf rfl rfl rfl (pM rfl) fun a hf => stP hf rfl rfl rfl (pA rfl) fun a hf => cNil ?_
   refine h11 _ _ ?_
   refine wp_ret ?_
   refine xBlkR ?_
   refine xThenR ?_
   refine xThenR ?_
   have he := sj hF
   rw [← he] at hfin4
   replace hF := ho4 _ hfin4
   refine xBlkR ?_
   refine xThenR ?_
   obtain rfl := hF
   exact fnOut1 (by simp) rfl Tryz.results191 hf hc (show look _ 4 = _ from rfl) ⟨rfl,hc⟩
  ·replace hF := condF hb hF
   clear hb
   refine wp_skip ?_
   refine h8 _ _ ?_
   refine cReg ?_
   refine stP hf rfl rfl rfl (pAdd rfl rfl) fun a hf => stP hf rfl rfl rfl (pM rfl) fun a hf => cNil ?_
   exact hK4 (W (x + 1)) _ _ (sj hF).symm ⟨hf.kp rfl,hc⟩
 ·replace hF := condF hb hF
  clear hb
  refine wp_exit ?_
  refine xThen ?_
  refine xThen ?_
  have he := sj hF
  rw [← he] at hfin4
  refine cHit ?_
  exact hr4 _ _ _ hfin4 ⟨hf.kp rfl,hc⟩

def slices_ContainsFunc_LLint_Lint (N : Nat) (s_ : List (List Int)) (f_ : crew_Roster) : Option (Bool) :=
 Option.bind (slices_IndexFunc_LLint_Lint N s_ f_) fun r =>
 some (decide (0 ≤ r))
theorem slices_ContainsFunc_LLint_Lint_ok {N : Nat} {G : Pers} {Lf : List Ent} {w : World} (s_ : List (List Int)) (f_ : crew_Roster) {s__p : Option Addr} {s__c : Nat} {b_ : Nat} {b__1 : Nat} {f__People_p : Option Addr} {f__People_c : Nat} {f__Stations_p : Option Addr} {f__Stations_c : Nat} (h_s_ : RdT kd_25 G 1 s__p s__c s_) (h_f__People : RdT kd_25 G 1 f__People_p f__People_c f_.People) (h_f__Stations : RdT kd_101 G 2 f__Stations_p f__Stations_c f_.Stations) (hc : Ctx G (.box b_ [.func (.func 117) #[] #[pq b__1]] 185::.box b__1 [.slice f__People_p f_.People.length f__People_c,.slice f__Stations_p f_.Stations.length f__Stations_c] 78::Lf) w) {res : Bool} (hF : slices_ContainsFunc_LLint_Lint N s_ f_ = some res) : Calls Tryz.prog 168 #[.slice s__p s_.length s__c,.func (.func 169) #[] #[pq b_]] w (fun e w => e = .returned (.bool res) ∧ Ctx G (.box b_ [.func (.func 117) #[] #[pq b__1]] 185::.box b__1 [.slice f__People_p f_.People.length f__People_c,.slice f__Stations_p f_.Stations.length f__Stations_c] 78::Lf) w) := by
 unfold slices_ContainsFunc_LLint_Lint at hF
 refine fnIn (args := [.slice s__p s_.length s__c,.func (.func 169) #[] #[pq b_]]) Tryz.func168 rfl Tryz.ntmps168 rfl fun a hf => wp_seq_k fun K1 h1 => cReg ?_
 refine stP hf rfl rfl rfl (pA rfl) fun a hf => cNil ?_
 refine h1 _ _ ?_
 refine wp_seq_k fun K2 h2 => cReg ?_
 refine stP hf rfl rfl rfl (pM rfl) fun a hf => stP hf rfl rfl rfl (pM rfl) fun a hf => ?_
 obtain ⟨r,hr,hF⟩ := bnd_some hF
 refine stE hf hc rfl rfl rfl (eC (v := i6 r) (vs := [.slice s__p s_.length s__c,.func (.func 169) #[] #[pq b_]]) (caps := []) en_191 rfl rfl rfl rfl (fun w hc => (slices_IndexFunc_LLint_Lint_ok s_ f_ h_s_ h_f__People h_f__Stations ((hc.pick k1).pick k1) hr).mono fun e w h => ⟨h.1,((h.2.unpick k1).unpick k1)⟩)) fun a w hf hc => stP hf rfl rfl rfl (pGe rfl rfl) fun a hf => stP hf rfl rfl rfl (pA rfl) fun a hf => cNil ?_
 refine h2 _ _ ?_
 refine wp_ret ?_
 obtain rfl := sj hF
 exact fnOut1 (by simp) rfl Tryz.results168 hf hc (show look _ 4 = _ from rfl) ⟨rfl,hc⟩

def crew_every_Lint (N : Nat) (l : List (List Int)) (so : crew_Roster) : Option (Bool) :=
 Option.bind (slices_ContainsFunc_LLint_Lint N l so) fun r =>
 some (!r)
theorem crew_every_Lint_ok {N : Nat} {G : Pers} {Lf : List Ent} {w : World} (l : List (List Int)) (so : crew_Roster) {l_p : Option Addr} {l_c : Nat} {b_ : Nat} {so_People_p : Option Addr} {so_People_c : Nat} {so_Stations_p : Option Addr} {so_Stations_c : Nat} (h_l : RdT kd_25 G 1 l_p l_c l) (h_so_People : RdT kd_25 G 1 so_People_p so_People_c so.People) (h_so_Stations : RdT kd_101 G 2 so_Stations_p so_Stations_c so.Stations) (hc : Ctx G (.box b_ [.slice so_People_p so.People.length so_People_c,.slice so_Stations_p so.Stations.length so_Stations_c] 78::Lf) w) {res : Bool} (hF : crew_every_Lint N l so = some res) : Calls Tryz.prog 116 #[.slice l_p l.length l_c,.func (.func 117) #[] #[pq b_]] w (fun e w => e = .returned (.bool res) ∧ Ctx G (.box b_ [.slice so_People_p so.People.length so_People_c,.slice so_Stations_p so.Stations.length so_Stations_c] 78::Lf) w) := by
 unfold crew_every_Lint at hF
 refine fnIn (args := [.slice l_p l.length l_c,.func (.func 117) #[] #[pq b_]]) Tryz.func116 rfl Tryz.ntmps116 rfl fun a hf => wp_seq_k fun K1 h1 => cReg ?_
 refine stBx (cs := [.func (.func 117) #[] #[pq b_]]) hf hc rfl rfl rfl rfl fun b_1 a w hf hc => stP hf rfl rfl rfl (pA rfl) fun a hf => cNil ?_
 refine h1 _ _ ?_
 refine wp_seq_k fun K2 h2 => cReg ?_
 refine stP hf rfl rfl rfl (pM rfl) fun a hf => stP hf rfl rfl rfl (pMF (us := [pq b_1]) rfl rfl) fun a hf => ?_
 obtain ⟨r,hr,hF⟩ := bnd_some hF
 refine stE hf hc rfl rfl rfl (eC (v := .bool r) (vs := [.slice l_p l.length l_c,.func (.func 169) #[] #[pq b_1]]) (caps := []) en_168 rfl rfl rfl rfl (fun w hc => (slices_ContainsFunc_LLint_Lint_ok l so h_l h_so_People h_so_Stations ((hc.pick k1).pick k1) hr).mono fun e w h => ⟨h.1,((h.2.unpick k1).unpick k1)⟩)) fun a w hf hc => stP hf rfl rfl rfl (pNot rfl) fun a hf => stP hf rfl rfl rfl (pA rfl) fun a hf => cNil ?_
 refine h2 _ _ ?_
 refine wp_ret ?_
 obtain rfl := sj hF
 replace hc := hc.drop k0
 exact fnOut1 (by simp) rfl Tryz.results116 hf hc (show look _ 4 = _ from rfl) ⟨rfl,hc⟩

def crew_Check_2_1 (p_ : Int) (x : crew_Roster) : Bool :=
 (crew_in p_ 0 (W (((x.People.length : Nat) : Int) - 1)))
theorem crew_Check_2_1_ok {G : Pers} {Lf : List Ent} {w : World} (p_ : Int) (x : crew_Roster) {b_ : Nat} {x_People_p : Option Addr} {x_People_c : Nat} {x_Stations_p : Option Addr} {x_Stations_c : Nat} (h_x_People : RdT kd_25 G 1 x_People_p x_People_c x.People) (h_x_Stations : RdT kd_101 G 2 x_Stations_p x_Stations_c x.Stations) (hc : Ctx G (.box b_ [.slice x_People_p x.People.length x_People_c,.slice x_Stations_p x.Stations.length x_Stations_c] 78::Lf) w) {res : Bool} (hF : crew_Check_2_1 p_ x = res) : Calls Tryz.prog 121 #[i6 p_,pq b_] w (fun e w => e = .returned (.bool res) ∧ Ctx G (.box b_ [.slice x_People_p x.People.length x_People_c,.slice x_Stations_p x.Stations.length x_Stations_c] 78::Lf) w) := by
 unfold crew_Check_2_1 at hF
 refine fnIn (args := [i6 p_,pq b_]) Tryz.func121 rfl Tryz.ntmps121 rfl fun a hf => wp_seq_k fun K1 h1 => cReg ?_
 refine stP hf rfl rfl rfl (pA rfl) fun a hf => cNil ?_
 refine h1 _ _ ?_
 refine wp_seq_k fun K2 h2 => cReg ?_
 refine stP hf rfl rfl rfl (pM rfl) fun a hf => stP hf rfl rfl rfl (pFA fa_78_0 rfl) fun a hf => stE hf hc rfl rfl rfl (eLd1 sc_75 rfl (cell_box m0 rfl)) fun a w hf hc => stP hf rfl rfl rfl (pLenS Tryz.underlying75 rfl) fun a hf => stP hf rfl rfl rfl (pSub rfl rfl) fun a hf => stE hf hc rfl rfl rfl (eC (v := .bool (crew_in p_ 0 (W (((x.People.length : Nat) : Int) - 1)))) (vs := [i6 p_,i6 0,i6 (W (((x.People.length : Nat) : Int) - 1))]) (caps := []) en_86 rfl rfl rfl rfl (fun w hc => crew_in_ok p_ 0 (W (((x.People.length : Nat) : Int) - 1)) hc rfl)) fun a w hf hc => stP hf rfl rfl rfl (pA rfl) fun a hf => cNil ?_
 refine h2 _ _ ?_
 refine wp_ret ?_
 obtain rfl := hF
 exact fnOut1 (by simp) rfl Tryz.results121 hf hc (show look _ 3 = _ from rfl) ⟨rfl,hc⟩

def crew_every_int_1_s2 (x : Int) (x_1 : crew_Roster) : Bool :=
 (!(crew_Check_2_1 x x_1))
theorem crew_every_int_1_s2_ok {G : Pers} {Lf : List Ent} {w : World} (x : Int) (x_1 : crew_Roster) {b_ : Nat} {b__1 : Nat} {x_1_People_p : Option Addr} {x_1_People_c : Nat} {x_1_Stations_p : Option Addr} {x_1_Stations_c : Nat} (h_x_1_People : RdT kd_25 G 1 x_1_People_p x_1_People_c x_1.People) (h_x_1_Stations : RdT kd_101 G 2 x_1_Stations_p x_1_Stations_c x_1.Stations) (hc : Ctx G (.box b_ [.func (.func 121) #[] #[pq b__1]] 143::.box b__1 [.slice x_1_People_p x_1.People.length x_1_People_c,.slice x_1_Stations_p x_1.Stations.length x_1_Stations_c] 78::Lf) w) {res : Bool} (hF : crew_every_int_1_s2 x x_1 = res) : Calls Tryz.prog 157 #[i6 x,pq b_] w (fun e w => e = .returned (.bool res) ∧ Ctx G (.box b_ [.func (.func 121) #[] #[pq b__1]] 143::.box b__1 [.slice x_1_People_p x_1.People.length x_1_People_c,.slice x_1_Stations_p x_1.Stations.length x_1_Stations_c] 78::Lf) w) := by
 unfold crew_every_int_1_s2 at hF
 refine fnIn (args := [i6 x,pq b_]) Tryz.func157 rfl Tryz.ntmps157 rfl fun a hf => wp_seq_k fun K1 h1 => cReg ?_
 refine stP hf rfl rfl rfl (pA rfl) fun a hf => cNil ?_
 refine h1 _ _ ?_
 refine wp_seq_k fun K2 h2 => cReg ?_
 refine stE hf hc rfl rfl rfl (eLd1 sc_143 rfl (cell_box m0 rfl)) fun a w hf hc => stP hf rfl rfl rfl (pM rfl) fun a hf => stE hf hc rfl rfl rfl (eC (v := .bool (crew_Check_2_1 x x_1)) (vs := [i6 x]) (caps := [pq b__1]) en_121 rfl rfl rfl rfl (fun w hc => (crew_Check_2_1_ok x x_1 h_x_1_People h_x_1_Stations (hc.pick k1) rfl).mono fun e w h => ⟨h.1,(h.2.unpick k1)⟩)) fun a w hf hc => stP hf rfl rfl rfl (pNot rfl) fun a hf => stP hf rfl rfl rfl (pA rfl) fun a hf => cNil ?_
 refine h2 _ _ ?_
 refine wp_ret ?_
 obtain rfl := hF
 exact fnOut1 (by simp) rfl Tryz.results157 hf hc (show look _ 3 = _ from rfl) ⟨rfl,hc⟩

def slices_IndexFunc_Lint_int_s3_b4 (N : Nat) (s_ : List Int) (f_ : crew_Roster) (x : Int) : Option (Step (Int) (Int)) :=
 cond (decide (x < ((s_.length : Nat) : Int)))
 (Option.bind (getI s_ x) fun e_1 =>
 cond (crew_every_int_1_s2 e_1 f_)
 (some (.ret x))
 (some (.cont (W (x + 1)))))
 (some (.brk x))
def slices_IndexFunc_Lint_int_s3 (N : Nat) (s_ : List Int) (f_ : crew_Roster) : Option (Int) :=
 Option.bind (loopO (fun s4 => slices_IndexFunc_Lint_int_s3_b4 N s_ f_ s4) N 0) fun x4 =>
 exK x4 (fun s4 => some (-1)) some
theorem slices_IndexFunc_Lint_int_s3_ok {N : Nat} {G : Pers} {Lf : List Ent} {w : World} (s_ : List Int) (f_ : crew_Roster) {s__p : Option Addr} {s__c : Nat} {b_ : Nat} {b__1 : Nat} {f__People_p : Option Addr} {f__People_c : Nat} {f__Stations_p : Option Addr} {f__Stations_c : Nat} (h_s_ : Rd G 1 s__p s__c (s_.map encI_i64)) (h_f__People : RdT kd_25 G 1 f__People_p f__People_c f_.People) (h_f__Stations : RdT kd_101 G 2 f__Stations_p f__Stations_c f_.Stations) (hc : Ctx G (.box b_ [.func (.func 121) #[] #[pq b__1]] 143::.box b__1 [.slice f__People_p f_.People.length f__People_c,.slice f__Stations_p f_.Stations.length f__Stations_c] 78::Lf) w) {res : Int} (hF : slices_IndexFunc_Lint_int_s3 N s_ f_ = some res) : Calls Tryz.prog 97 #[.slice s__p s_.length s__c,.func (.func 157) #[] #[pq b_]] w (fun e w => e = .returned (i6 res) ∧ Ctx G (.box b_ [.func (.func 121) #[] #[pq b__1]] 143::.box b__1 [.slice f__People_p f_.People.length f__People_c,.slice f__Stations_p f_.Stations.length f__Stations_c] 78::Lf) w) := by
 unfold slices_IndexFunc_Lint_int_s3 at hF
 refine fnIn (args := [.slice s__p s_.length s__c,.func (.func 157) #[] #[pq b_]]) Tryz.func97 rfl Tryz.ntmps97 rfl fun a hf => wp_seq_k fun K1 h1 => cReg ?_
 refine stP hf rfl rfl rfl (pA rfl) fun a hf => cNil ?_
 refine h1 _ _ ?_
 refine wp_seq_k fun K2 h2 => wp_seq_k fun K3 h3 => cReg ?_
 refine stP hf rfl rfl rfl (pM rfl) fun a hf => stP hf rfl rfl rfl (pLenS Tryz.underlying25 rfl) fun a hf => stP hf rfl rfl rfl (pM rfl) fun a hf => cNil ?_
 refine h3 _ _ ?_
 refine wp_block ?_
 obtain ⟨x4,hx4,hF⟩ := bnd_some hF
 let S4 : Int → Act → World → Prop := (fun (zz : Int) a w => Has 19 a [(0,.slice s__p s_.length s__c),(1,.func (.func 157) #[] #[pq b_]),(7,i6 ((s_.length : Nat) : Int)),(8,i6 zz)] ∧ Ctx G (.box b_ [.func (.func 121) #[] #[pq b__1]] 143::.box b__1 [.slice f__People_p f_.People.length f__People_c,.slice f__Stations_p f_.Stations.length f__Stations_c] 78::Lf) w)
 have hr4 : ∀ (zz : Int) a w,x4 = .go zz → S4 zz a w → K2 a w := by
  rintro x a w rfl ⟨hf,hc⟩
  replace hF := exK_go hF
  refine h2 _ _ ?_
  refine wp_seq_k fun K5 h5 => cReg ?_
  refine stP hf rfl rfl rfl (pA rfl) fun a hf => cNil ?_
  refine h5 _ _ ?_
  refine wp_ret ?_
  obtain rfl := sj hF
  exact fnOut1 (by simp) rfl Tryz.results97 hf hc (show look _ 4 = _ from rfl) ⟨rfl,hc⟩
 have ho4 : ∀ r,x4 = .out r → r = res := by
  rintro r rfl
  exact sj hF
 refine cLoop N (loopW (S := S4) (x := x4) ?_ N 0 _ _ ⟨hf.kp rfl,hc⟩ hx4)
 clear hF hf hc
 rintro x st4 a w KB4 ⟨hf,hc⟩ hF hfin4 hK4
 unfold slices_IndexFunc_Lint_int_s3_b4 at hF
 refine wp_seq_k fun K6 h6 => cReg ?_
 refine stP hf rfl rfl rfl (pLt rfl rfl) fun a hf => cNil ?_
 refine h6 _ _ ?_
 refine wp_seq_k fun K7 h7 => cCond (b := (decide (x < ((s_.length : Nat) : Int)))) hf rfl (fun hb => ?_) (fun hb => ?_)
 ·replace hF := condT hb hF
  clear hb
  refine wp_skip ?_
  refine h7 _ _ ?_
  refine wp_seq_k fun K8 h8 => wp_block ?_
  refine wp_seq_k fun K9 h9 => cReg ?_
  refine stP hf rfl rfl rfl (pM rfl) fun a hf => stP hf rfl rfl rfl (pA rfl) fun a hf => cNil ?_
  refine h9 _ _ ?_
  refine wp_seq_k fun K10 h10 => cReg ?_
  refine stP hf rfl rfl rfl (pM rfl) fun a hf => stP hf rfl rfl rfl (pM rfl) fun a hf => stP hf rfl rfl rfl (pM rfl) fun a hf => ?_
  obtain ⟨e_1,he_1,hF⟩ := bnd_some hF
  obtain ⟨b_1,o,qa,qp⟩ := h_s_.atm he_1
  refine stP hf rfl rfl rfl (pIA Tryz.underlying25 sz_3 rfl rfl qa) fun a hf => stE hf hc rfl rfl rfl (eLd1 sc_3 rfl (cell_pc (j := 0) qp rfl)) fun a w hf hc => stE hf hc rfl rfl rfl (eC (v := .bool (crew_every_int_1_s2 e_1 f_)) (vs := [i6 e_1]) (caps := [pq b_]) en_157 rfl rfl rfl rfl (fun w hc => (crew_every_int_1_s2_ok e_1 f_ h_f__People h_f__Stations ((hc.pick k1).pick k1) rfl).mono fun e w h => ⟨h.1,((h.2.unpick k1).unpick k1)⟩)) fun a w hf hc => cNil ?_
  refine h10 _ _ ?_
  refine cCond (b := (crew_every_int_1_s2 e_1 f_)) hf rfl (fun hb => ?_) (fun hb => ?_)
  ·replace hF := condT hb hF
   clear hb
   refine wp_seq_k fun K11 h11 => cReg ?_
   refine stP hf rfl rfl rfl (pM rfl) fun a hf => stP hf rfl rfl rfl (pA rfl) fun a hf => cNil ?_
   refine h11 _ _ ?_
   refine wp_ret ?_
   refine xBlkR ?_
   refine xThenR ?_
   refine xThenR ?_
   have he := sj hF
   rw [← he] at hfin4
   replace hF := ho4 _ hfin4
   refine xBlkR ?_
   refine xThenR ?_
   obtain rfl := hF
   exact fnOut1 (by simp) rfl Tryz.results97 hf hc (show look _ 4 = _ from rfl) ⟨rfl,hc⟩
  ·replace hF := condF hb hF
   clear hb
   refine wp_skip ?_
   refine h8 _ _ ?_
   refine cReg ?_
   refine stP hf rfl rfl rfl (pAdd rfl rfl) fun a hf => stP hf rfl rfl rfl (pM rfl) fun a hf => cNil ?_
   exact hK4 (W (x + 1)) _ _ (sj hF).symm ⟨hf.kp rfl,hc⟩
 ·replace hF := condF hb hF
  clear hb
  refine wp_exit ?_
  refine xThen ?_
  refine xThen ?_
  have he := sj hF
  rw [← he] at hfin4
  refine cHit ?_
  exact hr4 _ _ _ hfin4 ⟨hf.kp rfl,hc⟩

def slices_ContainsFunc_Lint_int_s3 (N : Nat) (s_ : List Int) (f_ : crew_Roster) : Option (Bool) :=
 Option.bind (slices_IndexFunc_Lint_int_s3 N s_ f_) fun r =>
 some (decide (0 ≤ r))
theorem slices_ContainsFunc_Lint_int_s3_ok {N : Nat} {G : Pers} {Lf : List Ent} {w : World} (s_ : List Int) (f_ : crew_Roster) {s__p : Option Addr} {s__c : Nat} {b_ : Nat} {b__1 : Nat} {f__People_p : Option Addr} {f__People_c : Nat} {f__Stations_p : Option Addr} {f__Stations_c : Nat} (h_s_ : Rd G 1 s__p s__c (s_.map encI_i64)) (h_f__People : RdT kd_25 G 1 f__People_p f__People_c f_.People) (h_f__Stations : RdT kd_101 G 2 f__Stations_p f__Stations_c f_.Stations) (hc : Ctx G (.box b_ [.func (.func 121) #[] #[pq b__1]] 143::.box b__1 [.slice f__People_p f_.People.length f__People_c,.slice f__Stations_p f_.Stations.length f__Stations_c] 78::Lf) w) {res : Bool} (hF : slices_ContainsFunc_Lint_int_s3 N s_ f_ = some res) : Calls Tryz.prog 113 #[.slice s__p s_.length s__c,.func (.func 157) #[] #[pq b_]] w (fun e w => e = .returned (.bool res) ∧ Ctx G (.box b_ [.func (.func 121) #[] #[pq b__1]] 143::.box b__1 [.slice f__People_p f_.People.length f__People_c,.slice f__Stations_p f_.Stations.length f__Stations_c] 78::Lf) w) := by
 unfold slices_ContainsFunc_Lint_int_s3 at hF
 refine fnIn (args := [.slice s__p s_.length s__c,.func (.func 157) #[] #[pq b_]]) Tryz.func113 rfl Tryz.ntmps113 rfl fun a hf => wp_seq_k fun K1 h1 => cReg ?_
 refine stP hf rfl rfl rfl (pA rfl) fun a hf => cNil ?_
 refine h1 _ _ ?_
 refine wp_seq_k fun K2 h2 => cReg ?_
 refine stP hf rfl rfl rfl (pM rfl) fun a hf => stP hf rfl rfl rfl (pM rfl) fun a hf => ?_
 obtain ⟨r,hr,hF⟩ := bnd_some hF
 refine stE hf hc rfl rfl rfl (eC (v := i6 r) (vs := [.slice s__p s_.length s__c,.func (.func 157) #[] #[pq b_]]) (caps := []) en_97 rfl rfl rfl rfl (fun w hc => (slices_IndexFunc_Lint_int_s3_ok s_ f_ h_s_ h_f__People h_f__Stations ((hc.pick k1).pick k1) hr).mono fun e w h => ⟨h.1,((h.2.unpick k1).unpick k1)⟩)) fun a w hf hc => stP hf rfl rfl rfl (pGe rfl rfl) fun a hf => stP hf rfl rfl rfl (pA rfl) fun a hf => cNil ?_
 refine h2 _ _ ?_
 refine wp_ret ?_
 obtain rfl := sj hF
 exact fnOut1 (by simp) rfl Tryz.results113 hf hc (show look _ 4 = _ from rfl) ⟨rfl,hc⟩

def crew_every_int_s2 (N : Nat) (l : List Int) (so : crew_Roster) : Option (Bool) :=
 Option.bind (slices_ContainsFunc_Lint_int_s3 N l so) fun r =>
 some (!r)
theorem crew_every_int_s2_ok {N : Nat} {G : Pers} {Lf : List Ent} {w : World} (l : List Int) (so : crew_Roster) {l_p : Option Addr} {l_c : Nat} {b_ : Nat} {so_People_p : Option Addr} {so_People_c : Nat} {so_Stations_p : Option Addr} {so_Stations_c : Nat} (h_l : Rd G 1 l_p l_c (l.map encI_i64)) (h_so_People : RdT kd_25 G 1 so_People_p so_People_c so.People) (h_so_Stations : RdT kd_101 G 2 so_Stations_p so_Stations_c so.Stations) (hc : Ctx G (.box b_ [.slice so_People_p so.People.length so_People_c,.slice so_Stations_p so.Stations.length so_Stations_c] 78::Lf) w) {res : Bool} (hF : crew_every_int_s2 N l so = some res) : Calls Tryz.prog 87 #[.slice l_p l.length l_c,.func (.func 121) #[] #[pq b_]] w (fun e w => e = .returned (.bool res) ∧ Ctx G (.box b_ [.slice so_People_p so.People.length so_People_c,.slice so_Stations_p so.Stations.length so_Stations_c] 78::Lf) w) := by
 unfold crew_every_int_s2 at hF
 refine fnIn (args := [.slice l_p l.length l_c,.func (.func 121) #[] #[pq b_]]) Tryz.func87 rfl Tryz.ntmps87 rfl fun a hf => wp_seq_k fun K1 h1 => cReg ?_
 refine stBx (cs := [.func (.func 121) #[] #[pq b_]]) hf hc rfl rfl rfl rfl fun b_1 a w hf hc => stP hf rfl rfl rfl (pA rfl) fun a hf => cNil ?_
 refine h1 _ _ ?_
 refine wp_seq_k fun K2 h2 => cReg ?_
 refine stP hf rfl rfl rfl (pM rfl) fun a hf => stP hf rfl rfl rfl (pMF (us := [pq b_1]) rfl rfl) fun a hf => ?_
 obtain ⟨r,hr,hF⟩ := bnd_some hF
 refine stE hf hc rfl rfl rfl (eC (v := .bool r) (vs := [.slice l_p l.length l_c,.func (.func 157) #[] #[pq b_1]]) (caps := []) en_113 rfl rfl rfl rfl (fun w hc => (slices_ContainsFunc_Lint_int_s3_ok l so h_l h_so_People h_so_Stations ((hc.pick k1).pick k1) hr).mono fun e w h => ⟨h.1,((h.2.unpick k1).unpick k1)⟩)) fun a w hf hc => stP hf rfl rfl rfl (pNot rfl) fun a hf => stP hf rfl rfl rfl (pA rfl) fun a hf => cNil ?_
 refine h2 _ _ ?_
 refine wp_ret ?_
 obtain rfl := sj hF
 replace hc := hc.drop k0
 exact fnOut1 (by simp) rfl Tryz.results87 hf hc (show look _ 4 = _ from rfl) ⟨rfl,hc⟩

def crew_Check_2 (N : Nat) (s_ : crew_Station) (x : crew_Roster) : Option (Bool) :=
 Option.bind (cond (crew_in s_.Places 1 12) (Option.bind (crew_every_int_s2 N s_.Order (⟨x.People,x.Stations⟩ : crew_Roster)) fun r =>
 some r) (some false)) fun t_1 =>
 some t_1
theorem crew_Check_2_ok {N : Nat} {G : Pers} {Lf : List Ent} {w : World} (s_ : crew_Station) (x : crew_Roster) {s__Order_p : Option Addr} {s__Order_c : Nat} {b_ : Nat} {x_People_p : Option Addr} {x_People_c : Nat} {x_Stations_p : Option Addr} {x_Stations_c : Nat} (h_s__Order : Rd G 1 s__Order_p s__Order_c (s_.Order.map encI_i64)) (h_x_People : RdT kd_25 G 1 x_People_p x_People_c x.People) (h_x_Stations : RdT kd_101 G 2 x_Stations_p x_Stations_c x.Stations) (hc : Ctx G (.box b_ [.slice x_People_p x.People.length x_People_c,.slice x_Stations_p x.Stations.length x_Stations_c] 78::Lf) w) {res : Bool} (hF : crew_Check_2 N s_ x = some res) : Calls Tryz.prog 120 #[.agg #[i6 s_.Places,.slice s__Order_p s_.Order.length s__Order_c],pq b_] w (fun e w => e = .returned (.bool res) ∧ Ctx G (.box b_ [.slice x_People_p x.People.length x_People_c,.slice x_Stations_p x.Stations.length x_Stations_c] 78::Lf) w) := by
 unfold crew_Check_2 at hF
 refine fnIn (args := [.agg #[i6 s_.Places,.slice s__Order_p s_.Order.length s__Order_c],pq b_]) Tryz.func120 rfl Tryz.ntmps120 rfl fun a hf => wp_seq_k fun K1 h1 => cReg ?_
 refine stBx (cs := [i6 s_.Places,.slice s__Order_p s_.Order.length s__Order_c]) hf hc rfl rfl rfl rfl fun b_1 a w hf hc => stP hf rfl rfl rfl (pA rfl) fun a hf => cNil ?_
 refine h1 _ _ ?_
 refine wp_seq_k fun K2 h2 => cReg ?_
 refine stP hf rfl rfl rfl (pFA fa_101_0 rfl) fun a hf => stE hf hc rfl rfl rfl (eLd1 sc_3 rfl (cell_box m0 rfl)) fun a w hf hc => stE hf hc rfl rfl rfl (eC (v := .bool (crew_in s_.Places 1 12)) (vs := [i6 s_.Places,i6 1,i6 12]) (caps := []) en_86 rfl rfl rfl rfl (fun w hc => crew_in_ok s_.Places 1 12 hc rfl)) fun a w hf hc => stP hf rfl rfl rfl (pM rfl) fun a hf => ?_
 obtain ⟨t_1,ht_1,hF⟩ := bnd_some hF
 refine stCut 5 (fun a w => Has 13 a [(1,pq b_),(2,pq b_1),(3,.bool false),(4,pq b_1),(5,i6 s_.Places),(6,.bool (crew_in s_.Places 1 12)),(7,.bool (crew_in s_.Places 1 12)),(12,.bool t_1)] ∧ Ctx G (.box b_1 [i6 s_.Places,.slice s__Order_p s_.Order.length s__Order_c] 101::.box b_ [.slice x_People_p x.People.length x_People_c,.slice x_Stations_p x.Stations.length x_Stations_c] 78::Lf) w) ?_ ?_
 ·cases hb : (crew_in s_.Places 1 12)
  ·rw [hb] at hf
   have hF := condF hb ht_1
   obtain rfl := sj hF
   refine stS hf rfl rfl rfl fun a hf => stS hf rfl rfl rfl fun a hf => stS hf rfl rfl rfl fun a hf => stS hf rfl rfl rfl fun a hf => stP hf rfl rfl rfl (pPf rfl rfl) fun a hf => cNil ⟨hf.kp rfl,hc⟩
  ·rw [hb] at hf
   have hF := condT hb ht_1
   refine stP hf rfl rfl rfl (pFA fa_101_1 rfl) fun a hf => stE hf hc rfl rfl rfl (eLd1 sc_25 rfl (cell_box m0 rfl)) fun a w hf hc => stP hf rfl rfl rfl (pMF (us := [pq b_]) rfl rfl) fun a hf => ?_
   obtain ⟨r,hr,hF⟩ := bnd_some hF
   refine stE hf hc rfl rfl rfl (eC (v := .bool r) (vs := [.slice s__Order_p s_.Order.length s__Order_c,.func (.func 121) #[] #[pq b_]]) (caps := []) en_87 rfl rfl rfl rfl (fun w hc => (crew_every_int_s2_ok s_.Order (⟨x.People,x.Stations⟩ : crew_Roster) h_s__Order h_x_People h_x_Stations (hc.pick k1) hr).mono fun e w h => ⟨h.1,(h.2.unpick k1)⟩)) fun a w hf hc => stP hf rfl rfl rfl (pPt rfl rfl) fun a hf => ?_
   obtain rfl := sj hF
   exact cNil ⟨hf.kp rfl,hc⟩
 intro a w ⟨hf,hc⟩
 refine stP hf rfl rfl rfl (pA rfl) fun a hf => cNil ?_
 refine h2 _ _ ?_
 refine wp_ret ?_
 obtain rfl := sj hF
 replace hc := hc.drop k0
 exact fnOut1 (by simp) rfl Tryz.results120 hf hc (show look _ 3 = _ from rfl) ⟨rfl,hc⟩

def crew_every_crew_Station_1 (N : Nat) (x : crew_Station) (x_1 : crew_Roster) : Option (Bool) :=
 Option.bind (crew_Check_2 N x x_1) fun r =>
 some (!r)
theorem crew_every_crew_Station_1_ok {N : Nat} {G : Pers} {Lf : List Ent} {w : World} (x : crew_Station) (x_1 : crew_Roster) {x_Order_p : Option Addr} {x_Order_c : Nat} {b_ : Nat} {b__1 : Nat} {x_1_People_p : Option Addr} {x_1_People_c : Nat} {x_1_Stations_p : Option Addr} {x_1_Stations_c : Nat} (h_x_Order : Rd G 1 x_Order_p x_Order_c (x.Order.map encI_i64)) (h_x_1_People : RdT kd_25 G 1 x_1_People_p x_1_People_c x_1.People) (h_x_1_Stations : RdT kd_101 G 2 x_1_Stations_p x_1_Stations_c x_1.Stations) (hc : Ctx G (.box b_ [.func (.func 120) #[] #[pq b__1]] 187::.box b__1 [.slice x_1_People_p x_1.People.length x_1_People_c,.slice x_1_Stations_p x_1.Stations.length x_1_Stations_c] 78::Lf) w) {res : Bool} (hF : crew_every_crew_Station_1 N x x_1 = some res) : Calls Tryz.prog 171 #[.agg #[i6 x.Places,.slice x_Order_p x.Order.length x_Order_c],pq b_] w (fun e w => e = .returned (.bool res) ∧ Ctx G (.box b_ [.func (.func 120) #[] #[pq b__1]] 187::.box b__1 [.slice x_1_People_p x_1.People.length x_1_People_c,.slice x_1_Stations_p x_1.Stations.length x_1_Stations_c] 78::Lf) w) := by
 unfold crew_every_crew_Station_1 at hF
 refine fnIn (args := [.agg #[i6 x.Places,.slice x_Order_p x.Order.length x_Order_c],pq b_]) Tryz.func171 rfl Tryz.ntmps171 rfl fun a hf => wp_seq_k fun K1 h1 => cReg ?_
 refine stBx (cs := [i6 x.Places,.slice x_Order_p x.Order.length x_Order_c]) hf hc rfl rfl rfl rfl fun b_1 a w hf hc => stP hf rfl rfl rfl (pA rfl) fun a hf => cNil ?_
 refine h1 _ _ ?_
 refine wp_seq_k fun K2 h2 => cReg ?_
 refine stE hf hc rfl rfl rfl (eLd1 sc_187 rfl (cell_box m1 rfl)) fun a w hf hc => stE hf hc rfl rfl rfl (eLdN (vs := [i6 x.Places,.slice x_Order_p x.Order.length x_Order_c]) ag_101 rfl rfl (cells_box (n := 2) m0 rfl)) fun a w hf hc => ?_
 obtain ⟨r,hr,hF⟩ := bnd_some hF
 refine stE hf hc rfl rfl rfl (eC (v := .bool r) (vs := [.agg #[i6 x.Places,.slice x_Order_p x.Order.length x_Order_c]]) (caps := [pq b__1]) en_120 rfl rfl rfl rfl (fun w hc => (crew_Check_2_ok x x_1 h_x_Order h_x_1_People h_x_1_Stations (hc.pick k2) hr).mono fun e w h => ⟨h.1,(h.2.unpick k2)⟩)) fun a w hf hc => stP hf rfl rfl rfl (pNot rfl) fun a hf => stP hf rfl rfl rfl (pA rfl) fun a hf => cNil ?_
 refine h2 _ _ ?_
 refine wp_ret ?_
 obtain rfl := sj hF
 replace hc := hc.drop k0
 exact fnOut1 (by simp) rfl Tryz.results171 hf hc (show look _ 3 = _ from rfl) ⟨rfl,hc⟩

def slices_IndexFunc_Lcrew_Station_crew_Station_b4 (N : Nat) (s_ : List crew_Station) (f_ : crew_Roster) (x : Int) : Option (Step (Int) (Int)) :=
 cond (decide (x < ((s_.length : Nat) : Int)))
 (Option.bind (getI s_ x) fun e_1 =>
 Option.bind (crew_every_crew_Station_1 N e_1 f_) fun r =>
 cond r
 (some (.ret x))
 (some (.cont (W (x + 1)))))
 (some (.brk x))
def slices_IndexFunc_Lcrew_Station_crew_Station (N : Nat) (s_ : List crew_Station) (f_ : crew_Roster) : Option (Int) :=
 Option.bind (loopO (fun s4 => slices_IndexFunc_Lcrew_Station_crew_Station_b4 N s_ f_ s4) N 0) fun x4 =>
 exK x4 (fun s4 => some (-1)) some
theorem slices_IndexFunc_Lcrew_Station_crew_Station_ok {N : Nat} {G : Pers} {Lf : List Ent} {w : World} (s_ : List crew_Station) (f_ : crew_Roster) {s__p : Option Addr} {s__c : Nat} {b_ : Nat} {b__1 : Nat} {f__People_p : Option Addr} {f__People_c : Nat} {f__Stations_p : Option Addr} {f__Stations_c : Nat} (h_s_ : RdT kd_101 G 2 s__p s__c s_) (h_f__People : RdT kd_25 G 1 f__People_p f__People_c f_.People) (h_f__Stations : RdT kd_101 G 2 f__Stations_p f__Stations_c f_.Stations) (hc : Ctx G (.box b_ [.func (.func 120) #[] #[pq b__1]] 187::.box b__1 [.slice f__People_p f_.People.length f__People_c,.slice f__Stations_p f_.Stations.length f__Stations_c] 78::Lf) w) {res : Int} (hF : slices_IndexFunc_Lcrew_Station_crew_Station N s_ f_ = some res) : Calls Tryz.prog 192 #[.slice s__p s_.length s__c,.func (.func 171) #[] #[pq b_]] w (fun e w => e = .returned (i6 res) ∧ Ctx G (.box b_ [.func (.func 120) #[] #[pq b__1]] 187::.box b__1 [.slice f__People_p f_.People.length f__People_c,.slice f__Stations_p f_.Stations.length f__Stations_c] 78::Lf) w) := by
 unfold slices_IndexFunc_Lcrew_Station_crew_Station at hF
 refine fnIn (args := [.slice s__p s_.length s__c,.func (.func 171) #[] #[pq b_]]) Tryz.func192 rfl Tryz.ntmps192 rfl fun a hf => wp_seq_k fun K1 h1 => cReg ?_
 refine stP hf rfl rfl rfl (pA rfl) fun a hf => cNil ?_
 refine h1 _ _ ?_
 refine wp_seq_k fun K2 h2 => wp_seq_k fun K3 h3 => cReg ?_
 refine stP hf rfl rfl rfl (pM rfl) fun a hf => stP hf rfl rfl rfl (pLenS Tryz.underlying76 rfl) fun a hf => stP hf rfl rfl rfl (pM rfl) fun a hf => cNil ?_
 refine h3 _ _ ?_
 refine wp_block ?_
 obtain ⟨x4,hx4,hF⟩ := bnd_some hF
 let S4 : Int → Act → World → Prop := (fun (zz : Int) a w => Has 19 a [(0,.slice s__p s_.length s__c),(1,.func (.func 171) #[] #[pq b_]),(7,i6 ((s_.length : Nat) : Int)),(8,i6 zz)] ∧ Ctx G (.box b_ [.func (.func 120) #[] #[pq b__1]] 187::.box b__1 [.slice f__People_p f_.People.length f__People_c,.slice f__Stations_p f_.Stations.length f__Stations_c] 78::Lf) w)
 have hr4 : ∀ (zz : Int) a w,x4 = .go zz → S4 zz a w → K2 a w := by
  rintro x a w rfl ⟨hf,hc⟩
  replace hF := exK_go hF
  refine h2 _ _ ?_
  refine wp_seq_k fun K5 h5 => cReg ?_
  refine stP hf rfl rfl rfl (pA rfl) fun a hf => cNil ?_
  refine h5 _ _ ?_
  refine wp_ret ?_
  obtain rfl := sj hF
  exact fnOut1 (by simp) rfl Tryz.results192 hf hc (show look _ 4 = _ from rfl) ⟨rfl,hc⟩
 have ho4 : ∀ r,x4 = .out r → r = res := by
  rintro r rfl
  exact sj hF
 refine cLoop N (loopW (S := S4) (x := x4) ?_ N 0 _ _ ⟨hf.kp rfl,hc⟩ hx4)
 clear hF hf hc
 rintro x st4 a w KB4 ⟨hf,hc⟩ hF hfin4 hK4
 unfold slices_IndexFunc_Lcrew_Station_crew_Station_b4 at hF
 refine wp_seq_k fun K6 h6 => cReg ?_
 refine stP hf rfl rfl rfl (pLt rfl rfl) fun a hf => cNil ?_
 refine h6 _ _ ?_
 refine wp_seq_k fun K7 h7 => cCond (b := (decide (x < ((s_.length : Nat) : Int)))) hf rfl (fun hb => ?_) (fun hb => ?_)
 ·replace hF := condT hb hF
  clear hb
  refine wp_skip ?_
  refine h7 _ _ ?_
  refine wp_seq_k fun K8 h8 => wp_block ?_
  refine wp_seq_k fun K9 h9 => cReg ?_
  refine stP hf rfl rfl rfl (pM rfl) fun a hf => stP hf rfl rfl rfl (pA rfl) fun a hf => cNil ?_
  refine h9 _ _ ?_
  refine wp_seq_k fun K10 h10 => cReg ?_
  refine stP hf rfl rfl rfl (pM rfl) fun a hf => stP hf rfl rfl rfl (pM rfl) fun a hf => stP hf rfl rfl rfl (pM rfl) fun a hf => ?_
  obtain ⟨e_1,he_1,hF⟩ := bnd_some hF
  obtain ⟨b_1,o,hd,qa,qp,qr⟩ := h_s_.atm he_1
  refine stP hf rfl rfl rfl (pIA Tryz.underlying76 sz_101 rfl rfl qa) fun a hf => stE hf hc rfl rfl rfl (eLdN (vs := [i6 e_1.Places,.slice hd.1 e_1.Order.length hd.2]) ag_101 rfl rfl (cells_pc qp (n := 2) (o' := 0) rfl)) fun a w hf hc => ?_
  obtain ⟨r,hr,hF⟩ := bnd_some hF
  refine stE hf hc rfl rfl rfl (eC (v := .bool r) (vs := [.agg #[i6 e_1.Places,.slice hd.1 e_1.Order.length hd.2]]) (caps := [pq b_]) en_171 rfl rfl rfl rfl (fun w hc => (crew_every_crew_Station_1_ok e_1 f_ qr h_f__People h_f__Stations ((hc.pick k1).pick k1) hr).mono fun e w h => ⟨h.1,((h.2.unpick k1).unpick k1)⟩)) fun a w hf hc => cNil ?_
  refine h10 _ _ ?_
  refine cCond (b := r) hf rfl (fun hb => ?_) (fun hb => ?_)
  ·replace hF := condT hb hF
   clear hb
   refine wp_seq_k fun K11 h11 => cReg ?_
   refine stP hf rfl rfl rfl (pM rfl) fun a hf => stP hf rfl rfl rfl (pA rfl) fun a hf => cNil ?_
   refine h11 _ _ ?_
   refine wp_ret ?_
   refine xBlkR ?_
   refine xThenR ?_
   refine xThenR ?_
   have he := sj hF
   rw [← he] at hfin4
   replace hF := ho4 _ hfin4
   refine xBlkR ?_
   refine xThenR ?_
   obtain rfl := hF
   exact fnOut1 (by simp) rfl Tryz.results192 hf hc (show look _ 4 = _ from rfl) ⟨rfl,hc⟩
  ·replace hF := condF hb hF
   clear hb
   refine wp_skip ?_
   refine h8 _ _ ?_
   refine cReg ?_
   refine stP hf rfl rfl rfl (pAdd rfl rfl) fun a hf => stP hf rfl rfl rfl (pM rfl) fun a hf => cNil ?_
   exact hK4 (W (x + 1)) _ _ (sj hF).symm ⟨hf.kp rfl,hc⟩
 ·replace hF := condF hb hF
  clear hb
  refine wp_exit ?_
  refine xThen ?_
  refine xThen ?_
  have he := sj hF
  rw [← he] at hfin4
  refine cHit ?_
  exact hr4 _ _ _ hfin4 ⟨hf.kp rfl,hc⟩

def slices_ContainsFunc_Lcrew_Station_crew_Station (N : Nat) (s_ : List crew_Station) (f_ : crew_Roster) : Option (Bool) :=
 Option.bind (slices_IndexFunc_Lcrew_Station_crew_Station N s_ f_) fun r =>
 some (decide (0 ≤ r))
theorem slices_ContainsFunc_Lcrew_Station_crew_Station_ok {N : Nat} {G : Pers} {Lf : List Ent} {w : World} (s_ : List crew_Station) (f_ : crew_Roster) {s__p : Option Addr} {s__c : Nat} {b_ : Nat} {b__1 : Nat} {f__People_p : Option Addr} {f__People_c : Nat} {f__Stations_p : Option Addr} {f__Stations_c : Nat} (h_s_ : RdT kd_101 G 2 s__p s__c s_) (h_f__People : RdT kd_25 G 1 f__People_p f__People_c f_.People) (h_f__Stations : RdT kd_101 G 2 f__Stations_p f__Stations_c f_.Stations) (hc : Ctx G (.box b_ [.func (.func 120) #[] #[pq b__1]] 187::.box b__1 [.slice f__People_p f_.People.length f__People_c,.slice f__Stations_p f_.Stations.length f__Stations_c] 78::Lf) w) {res : Bool} (hF : slices_ContainsFunc_Lcrew_Station_crew_Station N s_ f_ = some res) : Calls Tryz.prog 170 #[.slice s__p s_.length s__c,.func (.func 171) #[] #[pq b_]] w (fun e w => e = .returned (.bool res) ∧ Ctx G (.box b_ [.func (.func 120) #[] #[pq b__1]] 187::.box b__1 [.slice f__People_p f_.People.length f__People_c,.slice f__Stations_p f_.Stations.length f__Stations_c] 78::Lf) w) := by
 unfold slices_ContainsFunc_Lcrew_Station_crew_Station at hF
 refine fnIn (args := [.slice s__p s_.length s__c,.func (.func 171) #[] #[pq b_]]) Tryz.func170 rfl Tryz.ntmps170 rfl fun a hf => wp_seq_k fun K1 h1 => cReg ?_
 refine stP hf rfl rfl rfl (pA rfl) fun a hf => cNil ?_
 refine h1 _ _ ?_
 refine wp_seq_k fun K2 h2 => cReg ?_
 refine stP hf rfl rfl rfl (pM rfl) fun a hf => stP hf rfl rfl rfl (pM rfl) fun a hf => ?_
 obtain ⟨r,hr,hF⟩ := bnd_some hF
 refine stE hf hc rfl rfl rfl (eC (v := i6 r) (vs := [.slice s__p s_.length s__c,.func (.func 171) #[] #[pq b_]]) (caps := []) en_192 rfl rfl rfl rfl (fun w hc => (slices_IndexFunc_Lcrew_Station_crew_Station_ok s_ f_ h_s_ h_f__People h_f__Stations ((hc.pick k1).pick k1) hr).mono fun e w h => ⟨h.1,((h.2.unpick k1).unpick k1)⟩)) fun a w hf hc => stP hf rfl rfl rfl (pGe rfl rfl) fun a hf => stP hf rfl rfl rfl (pA rfl) fun a hf => cNil ?_
 refine h2 _ _ ?_
 refine wp_ret ?_
 obtain rfl := sj hF
 exact fnOut1 (by simp) rfl Tryz.results170 hf hc (show look _ 4 = _ from rfl) ⟨rfl,hc⟩

def crew_every_crew_Station (N : Nat) (l : List crew_Station) (so : crew_Roster) : Option (Bool) :=
 Option.bind (slices_ContainsFunc_Lcrew_Station_crew_Station N l so) fun r =>
 some (!r)
theorem crew_every_crew_Station_ok {N : Nat} {G : Pers} {Lf : List Ent} {w : World} (l : List crew_Station) (so : crew_Roster) {l_p : Option Addr} {l_c : Nat} {b_ : Nat} {so_People_p : Option Addr} {so_People_c : Nat} {so_Stations_p : Option Addr} {so_Stations_c : Nat} (h_l : RdT kd_101 G 2 l_p l_c l) (h_so_People : RdT kd_25 G 1 so_People_p so_People_c so.People) (h_so_Stations : RdT kd_101 G 2 so_Stations_p so_Stations_c so.Stations) (hc : Ctx G (.box b_ [.slice so_People_p so.People.length so_People_c,.slice so_Stations_p so.Stations.length so_Stations_c] 78::Lf) w) {res : Bool} (hF : crew_every_crew_Station N l so = some res) : Calls Tryz.prog 119 #[.slice l_p l.length l_c,.func (.func 120) #[] #[pq b_]] w (fun e w => e = .returned (.bool res) ∧ Ctx G (.box b_ [.slice so_People_p so.People.length so_People_c,.slice so_Stations_p so.Stations.length so_Stations_c] 78::Lf) w) := by
 unfold crew_every_crew_Station at hF
 refine fnIn (args := [.slice l_p l.length l_c,.func (.func 120) #[] #[pq b_]]) Tryz.func119 rfl Tryz.ntmps119 rfl fun a hf => wp_seq_k fun K1 h1 => cReg ?_
 refine stBx (cs := [.func (.func 120) #[] #[pq b_]]) hf hc rfl rfl rfl rfl fun b_1 a w hf hc => stP hf rfl rfl rfl (pA rfl) fun a hf => cNil ?_
 refine h1 _ _ ?_
 refine wp_seq_k fun K2 h2 => cReg ?_
 refine stP hf rfl rfl rfl (pM rfl) fun a hf => stP hf rfl rfl rfl (pMF (us := [pq b_1]) rfl rfl) fun a hf => ?_
 obtain ⟨r,hr,hF⟩ := bnd_some hF
 refine stE hf hc rfl rfl rfl (eC (v := .bool r) (vs := [.slice l_p l.length l_c,.func (.func 171) #[] #[pq b_1]]) (caps := []) en_170 rfl rfl rfl rfl (fun w hc => (slices_ContainsFunc_Lcrew_Station_crew_Station_ok l so h_l h_so_People h_so_Stations ((hc.pick k1).pick k1) hr).mono fun e w h => ⟨h.1,((h.2.unpick k1).unpick k1)⟩)) fun a w hf hc => stP hf rfl rfl rfl (pNot rfl) fun a hf => stP hf rfl rfl rfl (pA rfl) fun a hf => cNil ?_
 refine h2 _ _ ?_
 refine wp_ret ?_
 obtain rfl := sj hF
 replace hc := hc.drop k0
 exact fnOut1 (by simp) rfl Tryz.results119 hf hc (show look _ 4 = _ from rfl) ⟨rfl,hc⟩

def slices_Index_Lint_int_b4 (N : Nat) (s_ : List Int) (v : Int) (x : Int) : Option (Step (Int) (Int)) :=
 cond (decide (x < ((s_.length : Nat) : Int)))
 (Option.bind (getI s_ x) fun e_1 =>
 cond (v == e_1)
 (some (.ret x))
 (some (.cont (W (x + 1)))))
 (some (.brk x))
def slices_Index_Lint_int (N : Nat) (s_ : List Int) (v : Int) : Option (Int) :=
 Option.bind (loopO (fun s4 => slices_Index_Lint_int_b4 N s_ v s4) N 0) fun x4 =>
 exK x4 (fun s4 => some (-1)) some
theorem slices_Index_Lint_int_ok {N : Nat} {G : Pers} {Lf : List Ent} {w : World} (s_ : List Int) (v : Int) {s__p : Option Addr} {s__c : Nat} (h_s_ : Rd G 1 s__p s__c (s_.map encI_i64)) (hc : Ctx G (Lf) w) {res : Int} (hF : slices_Index_Lint_int N s_ v = some res) : Calls Tryz.prog 114 #[.slice s__p s_.length s__c,i6 v] w (fun e w => e = .returned (i6 res) ∧ Ctx G (Lf) w) := by
 unfold slices_Index_Lint_int at hF
 refine fnIn (args := [.slice s__p s_.length s__c,i6 v]) Tryz.func114 rfl Tryz.ntmps114 rfl fun a hf => wp_seq_k fun K1 h1 => cReg ?_
 refine stP hf rfl rfl rfl (pA rfl) fun a hf => cNil ?_
 refine h1 _ _ ?_
 refine wp_seq_k fun K2 h2 => wp_seq_k fun K3 h3 => cReg ?_
 refine stP hf rfl rfl rfl (pM rfl) fun a hf => stP hf rfl rfl rfl (pLenS Tryz.underlying25 rfl) fun a hf => stP hf rfl rfl rfl (pM rfl) fun a hf => cNil ?_
 refine h3 _ _ ?_
 refine wp_block ?_
 obtain ⟨x4,hx4,hF⟩ := bnd_some hF
 let S4 : Int → Act → World → Prop := (fun (zz : Int) a w => Has 19 a [(0,.slice s__p s_.length s__c),(1,i6 v),(7,i6 ((s_.length : Nat) : Int)),(8,i6 zz)] ∧ Ctx G (Lf) w)
 have hr4 : ∀ (zz : Int) a w,x4 = .go zz → S4 zz a w → K2 a w := by
  rintro x a w rfl ⟨hf,hc⟩
  replace hF := exK_go hF
  refine h2 _ _ ?_
  refine wp_seq_k fun K5 h5 => cReg ?_
  refine stP hf rfl rfl rfl (pA rfl) fun a hf => cNil ?_
  refine h5 _ _ ?_
  refine wp_ret ?_
  obtain rfl := sj hF
  exact fnOut1 (by simp) rfl Tryz.results114 hf hc (show look _ 4 = _ from rfl) ⟨rfl,hc⟩
 have ho4 : ∀ r,x4 = .out r → r = res := by
  rintro r rfl
  exact sj hF
 refine cLoop N (loopW (S := S4) (x := x4) ?_ N 0 _ _ ⟨hf.kp rfl,hc⟩ hx4)
 clear hF hf hc
 rintro x st4 a w KB4 ⟨hf,hc⟩ hF hfin4 hK4
 unfold slices_Index_Lint_int_b4 at hF
 refine wp_seq_k fun K6 h6 => cReg ?_
 refine stP hf rfl rfl rfl (pLt rfl rfl) fun a hf => cNil ?_
 refine h6 _ _ ?_
 refine wp_seq_k fun K7 h7 => cCond (b := (decide (x < ((s_.length : Nat) : Int)))) hf rfl (fun hb => ?_) (fun hb => ?_)
 ·replace hF := condT hb hF
  clear hb
  refine wp_skip ?_
  refine h7 _ _ ?_
  refine wp_seq_k fun K8 h8 => wp_block ?_
  refine wp_seq_k fun K9 h9 => cReg ?_
  refine stP hf rfl rfl rfl (pM rfl) fun a hf => stP hf rfl rfl rfl (pA rfl) fun a hf => cNil ?_
  refine h9 _ _ ?_
  refine wp_seq_k fun K10 h10 => cReg ?_
  refine stP hf rfl rfl rfl (pM rfl) fun a hf => stP hf rfl rfl rfl (pM rfl) fun a hf => stP hf rfl rfl rfl (pM rfl) fun a hf => ?_
  obtain ⟨e_1,he_1,hF⟩ := bnd_some hF
  obtain ⟨b_1,o,qa,qp⟩ := h_s_.atm he_1
  refine stP hf rfl rfl rfl (pIA Tryz.underlying25 sz_3 rfl rfl qa) fun a hf => stE hf hc rfl rfl rfl (eLd1 sc_3 rfl (cell_pc (j := 0) qp rfl)) fun a w hf hc => stP hf rfl rfl rfl (pEq rfl rfl) fun a hf => cNil ?_
  refine h10 _ _ ?_
  refine cCond (b := (v == e_1)) hf rfl (fun hb => ?_) (fun hb => ?_)
  ·replace hF := condT hb hF
   clear hb
   refine wp_seq_k fun K11 h11 => cReg ?_
   refine stP hf rfl rfl rfl (pM rfl) fun a hf => stP hf rfl rfl rfl (pA rfl) fun a hf => cNil ?_
   refine h11 _ _ ?_
   refine wp_ret ?_
   refine xBlkR ?_
   refine xThenR ?_
   refine xThenR ?_
   have he := sj hF
   rw [← he] at hfin4
   replace hF := ho4 _ hfin4
   refine xBlkR ?_
   refine xThenR ?_
   obtain rfl := hF
   exact fnOut1 (by simp) rfl Tryz.results114 hf hc (show look _ 4 = _ from rfl) ⟨rfl,hc⟩
  ·replace hF := condF hb hF
   clear hb
   refine wp_skip ?_
   refine h8 _ _ ?_
   refine cReg ?_
   refine stP hf rfl rfl rfl (pAdd rfl rfl) fun a hf => stP hf rfl rfl rfl (pM rfl) fun a hf => cNil ?_
   exact hK4 (W (x + 1)) _ _ (sj hF).symm ⟨hf.kp rfl,hc⟩
 ·replace hF := condF hb hF
  clear hb
  refine wp_exit ?_
  refine xThen ?_
  refine xThen ?_
  have he := sj hF
  rw [← he] at hfin4
  refine cHit ?_
  exact hr4 _ _ _ hfin4 ⟨hf.kp rfl,hc⟩

def slices_Contains_Lint_int (N : Nat) (s_ : List Int) (v : Int) : Option (Bool) :=
 Option.bind (slices_Index_Lint_int N s_ v) fun r =>
 some (decide (0 ≤ r))
theorem slices_Contains_Lint_int_ok {N : Nat} {G : Pers} {Lf : List Ent} {w : World} (s_ : List Int) (v : Int) {s__p : Option Addr} {s__c : Nat} (h_s_ : Rd G 1 s__p s__c (s_.map encI_i64)) (hc : Ctx G (Lf) w) {res : Bool} (hF : slices_Contains_Lint_int N s_ v = some res) : Calls Tryz.prog 72 #[.slice s__p s_.length s__c,i6 v] w (fun e w => e = .returned (.bool res) ∧ Ctx G (Lf) w) := by
 unfold slices_Contains_Lint_int at hF
 refine fnIn (args := [.slice s__p s_.length s__c,i6 v]) Tryz.func72 rfl Tryz.ntmps72 rfl fun a hf => wp_seq_k fun K1 h1 => cReg ?_
 refine stP hf rfl rfl rfl (pA rfl) fun a hf => cNil ?_
 refine h1 _ _ ?_
 refine wp_seq_k fun K2 h2 => cReg ?_
 refine stP hf rfl rfl rfl (pM rfl) fun a hf => stP hf rfl rfl rfl (pM rfl) fun a hf => ?_
 obtain ⟨r,hr,hF⟩ := bnd_some hF
 refine stE hf hc rfl rfl rfl (eC (v := i6 r) (vs := [.slice s__p s_.length s__c,i6 v]) (caps := []) en_114 rfl rfl rfl rfl (fun w hc => slices_Index_Lint_int_ok s_ v h_s_ hc hr)) fun a w hf hc => stP hf rfl rfl rfl (pGe rfl rfl) fun a hf => stP hf rfl rfl rfl (pA rfl) fun a hf => cNil ?_
 refine h2 _ _ ?_
 refine wp_ret ?_
 obtain rfl := sj hF
 exact fnOut1 (by simp) rfl Tryz.results72 hf hc (show look _ 4 = _ from rfl) ⟨rfl,hc⟩

def crew_once_b4 (N : Nat) (l : List Int) (x : Int) : Option (Step (Int) (Bool)) :=
 cond (decide (x < ((l.length : Nat) : Int)))
 (Option.bind (getI l x) fun e_1 =>
 Option.bind (subO l 0 x) fun sub =>
 Option.bind (slices_Contains_Lint_int N sub e_1) fun r =>
 cond r
 (some (.ret false))
 (some (.cont (W (x + 1)))))
 (some (.brk x))
def crew_once (N : Nat) (l : List Int) : Option (Bool) :=
 Option.bind (loopO (fun s4 => crew_once_b4 N l s4) N 0) fun x4 =>
 exK x4 (fun s4 => some true) some
theorem crew_once_ok {N : Nat} {G : Pers} {Lf : List Ent} {w : World} (l : List Int) {l_p : Option Addr} {l_c : Nat} (h_l : Rd G 1 l_p l_c (l.map encI_i64)) (hc : Ctx G (Lf) w) {res : Bool} (hF : crew_once N l = some res) : Calls Tryz.prog 122 #[.slice l_p l.length l_c] w (fun e w => e = .returned (.bool res) ∧ Ctx G (Lf) w) := by
 unfold crew_once at hF
 refine fnIn (args := [.slice l_p l.length l_c]) Tryz.func122 rfl Tryz.ntmps122 rfl fun a hf => wp_seq_k fun K1 h1 => cReg ?_
 refine stP hf rfl rfl rfl (pA rfl) fun a hf => cNil ?_
 refine h1 _ _ ?_
 refine wp_seq_k fun K2 h2 => wp_seq_k fun K3 h3 => cReg ?_
 refine stP hf rfl rfl rfl (pM rfl) fun a hf => stP hf rfl rfl rfl (pLenS Tryz.underlying25 rfl) fun a hf => stP hf rfl rfl rfl (pM rfl) fun a hf => cNil ?_
 refine h3 _ _ ?_
 refine wp_block ?_
 obtain ⟨x4,hx4,hF⟩ := bnd_some hF
 let S4 : Int → Act → World → Prop := (fun (zz : Int) a w => Has 18 a [(0,.slice l_p l.length l_c),(5,.slice l_p l.length l_c),(6,i6 ((l.length : Nat) : Int)),(7,i6 zz)] ∧ Ctx G (Lf) w)
 have hr4 : ∀ (zz : Int) a w,x4 = .go zz → S4 zz a w → K2 a w := by
  rintro x a w rfl ⟨hf,hc⟩
  replace hF := exK_go hF
  refine h2 _ _ ?_
  refine wp_seq_k fun K5 h5 => cReg ?_
  refine stP hf rfl rfl rfl (pA rfl) fun a hf => cNil ?_
  refine h5 _ _ ?_
  refine wp_ret ?_
  obtain rfl := sj hF
  exact fnOut1 (by simp) rfl Tryz.results122 hf hc (show look _ 2 = _ from rfl) ⟨rfl,hc⟩
 have ho4 : ∀ r,x4 = .out r → r = res := by
  rintro r rfl
  exact sj hF
 refine cLoop N (loopW (S := S4) (x := x4) ?_ N 0 _ _ ⟨hf.kp rfl,hc⟩ hx4)
 clear hF hf hc
 rintro x st4 a w KB4 ⟨hf,hc⟩ hF hfin4 hK4
 unfold crew_once_b4 at hF
 refine wp_seq_k fun K6 h6 => cReg ?_
 refine stP hf rfl rfl rfl (pLt rfl rfl) fun a hf => cNil ?_
 refine h6 _ _ ?_
 refine wp_seq_k fun K7 h7 => cCond (b := (decide (x < ((l.length : Nat) : Int)))) hf rfl (fun hb => ?_) (fun hb => ?_)
 ·replace hF := condT hb hF
  clear hb
  refine wp_skip ?_
  refine h7 _ _ ?_
  refine wp_seq_k fun K8 h8 => wp_block ?_
  refine wp_seq_k fun K9 h9 => cReg ?_
  refine stP hf rfl rfl rfl (pM rfl) fun a hf => ?_
  obtain ⟨e_1,he_1,hF⟩ := bnd_some hF
  obtain ⟨b_1,o,qa,qp⟩ := h_l.atm he_1
  refine stP hf rfl rfl rfl (pIA Tryz.underlying25 sz_3 rfl rfl qa) fun a hf => stE hf hc rfl rfl rfl (eLd1 sc_3 rfl (cell_pc (j := 0) qp rfl)) fun a w hf hc => stP hf rfl rfl rfl (pA rfl) fun a hf => stP hf rfl rfl rfl (pA rfl) fun a hf => cNil ?_
  refine h9 _ _ ?_
  refine wp_seq_k fun K10 h10 => cReg ?_
  refine stP hf rfl rfl rfl (pM rfl) fun a hf => stP hf rfl rfl rfl (pM rfl) fun a hf => ?_
  obtain ⟨sub,hsub,hF⟩ := bnd_some hF
  have qs := Rd.sub h_l hsub
  refine stP hf rfl rfl rfl (pSl Tryz.underlying25 sz_3 rfl rfl (by simpa using h_l.1) rfl rfl hsub) fun a hf => stP hf rfl rfl rfl (pM rfl) fun a hf => ?_
  obtain ⟨r,hr,hF⟩ := bnd_some hF
  refine stE hf hc rfl rfl rfl (eC (v := .bool r) (vs := [.slice (subP l_p l_c (0 : Int).toNat 1) sub.length (l_c - (0 : Int).toNat),i6 e_1]) (caps := []) en_72 rfl rfl rfl rfl (fun w hc => slices_Contains_Lint_int_ok sub e_1 qs hc hr)) fun a w hf hc => cNil ?_
  refine h10 _ _ ?_
  refine cCond (b := r) hf rfl (fun hb => ?_) (fun hb => ?_)
  ·replace hF := condT hb hF
   clear hb
   refine wp_seq_k fun K11 h11 => cReg ?_
   refine stP hf rfl rfl rfl (pA rfl) fun a hf => cNil ?_
   refine h11 _ _ ?_
   refine wp_ret ?_
   refine xBlkR ?_
   refine xThenR ?_
   refine xThenR ?_
   have he := sj hF
   rw [← he] at hfin4
   replace hF := ho4 _ hfin4
   refine xBlkR ?_
   refine xThenR ?_
   obtain rfl := hF
   exact fnOut1 (by simp) rfl Tryz.results122 hf hc (show look _ 2 = _ from rfl) ⟨rfl,hc⟩
  ·replace hF := condF hb hF
   clear hb
   refine wp_skip ?_
   refine h8 _ _ ?_
   refine cReg ?_
   refine stP hf rfl rfl rfl (pAdd rfl rfl) fun a hf => stP hf rfl rfl rfl (pM rfl) fun a hf => cNil ?_
   exact hK4 (W (x + 1)) _ _ (sj hF).symm ⟨hf.kp rfl,hc⟩
 ·replace hF := condF hb hF
  clear hb
  refine wp_exit ?_
  refine xThen ?_
  refine xThen ?_
  have he := sj hF
  rw [← he] at hfin4
  refine cHit ?_
  exact hr4 _ _ _ hfin4 ⟨hf.kp rfl,hc⟩

def crew_every_Lint_1_s2 (N : Nat) (x : List Int) : Option (Bool) :=
 Option.bind (crew_once N x) fun r =>
 some (!r)
theorem crew_every_Lint_1_s2_ok {N : Nat} {G : Pers} {Lf : List Ent} {w : World} (x : List Int) {x_p : Option Addr} {x_c : Nat} {b_ : Nat} (h_x : Rd G 1 x_p x_c (x.map encI_i64)) (hc : Ctx G (.box b_ [.func (.func 122) #[] #[]] 185::Lf) w) {res : Bool} (hF : crew_every_Lint_1_s2 N x = some res) : Calls Tryz.prog 169 #[.slice x_p x.length x_c,pq b_] w (fun e w => e = .returned (.bool res) ∧ Ctx G (.box b_ [.func (.func 122) #[] #[]] 185::Lf) w) := by
 unfold crew_every_Lint_1_s2 at hF
 refine fnIn (args := [.slice x_p x.length x_c,pq b_]) Tryz.func169 rfl Tryz.ntmps169 rfl fun a hf => wp_seq_k fun K1 h1 => cReg ?_
 refine stP hf rfl rfl rfl (pA rfl) fun a hf => cNil ?_
 refine h1 _ _ ?_
 refine wp_seq_k fun K2 h2 => cReg ?_
 refine stE hf hc rfl rfl rfl (eLd1 sc_185 rfl (cell_box m0 rfl)) fun a w hf hc => stP hf rfl rfl rfl (pM rfl) fun a hf => ?_
 obtain ⟨r,hr,hF⟩ := bnd_some hF
 refine stE hf hc rfl rfl rfl (eC (v := .bool r) (vs := [.slice x_p x.length x_c]) (caps := []) en_122 rfl rfl rfl rfl (fun w hc => crew_once_ok x h_x hc hr)) fun a w hf hc => stP hf rfl rfl rfl (pNot rfl) fun a hf => stP hf rfl rfl rfl (pA rfl) fun a hf => cNil ?_
 refine h2 _ _ ?_
 refine wp_ret ?_
 obtain rfl := sj hF
 exact fnOut1 (by simp) rfl Tryz.results169 hf hc (show look _ 3 = _ from rfl) ⟨rfl,hc⟩

def slices_IndexFunc_LLint_Lint_s2_b4 (N : Nat) (s_ : List (List Int)) (x : Int) : Option (Step (Int) (Int)) :=
 cond (decide (x < ((s_.length : Nat) : Int)))
 (Option.bind (getI s_ x) fun e_1 =>
 Option.bind (crew_every_Lint_1_s2 N e_1) fun r =>
 cond r
 (some (.ret x))
 (some (.cont (W (x + 1)))))
 (some (.brk x))
def slices_IndexFunc_LLint_Lint_s2 (N : Nat) (s_ : List (List Int)) : Option (Int) :=
 Option.bind (loopO (fun s4 => slices_IndexFunc_LLint_Lint_s2_b4 N s_ s4) N 0) fun x4 =>
 exK x4 (fun s4 => some (-1)) some
theorem slices_IndexFunc_LLint_Lint_s2_ok {N : Nat} {G : Pers} {Lf : List Ent} {w : World} (s_ : List (List Int)) {s__p : Option Addr} {s__c : Nat} {b_ : Nat} (h_s_ : RdT kd_25 G 1 s__p s__c s_) (hc : Ctx G (.box b_ [.func (.func 122) #[] #[]] 185::Lf) w) {res : Int} (hF : slices_IndexFunc_LLint_Lint_s2 N s_ = some res) : Calls Tryz.prog 191 #[.slice s__p s_.length s__c,.func (.func 169) #[] #[pq b_]] w (fun e w => e = .returned (i6 res) ∧ Ctx G (.box b_ [.func (.func 122) #[] #[]] 185::Lf) w) := by
 unfold slices_IndexFunc_LLint_Lint_s2 at hF
 refine fnIn (args := [.slice s__p s_.length s__c,.func (.func 169) #[] #[pq b_]]) Tryz.func191 rfl Tryz.ntmps191 rfl fun a hf => wp_seq_k fun K1 h1 => cReg ?_
 refine stP hf rfl rfl rfl (pA rfl) fun a hf => cNil ?_
 refine h1 _ _ ?_
 refine wp_seq_k fun K2 h2 => wp_seq_k fun K3 h3 => cReg ?_
 refine stP hf rfl rfl rfl (pM rfl) fun a hf => stP hf rfl rfl rfl (pLenS Tryz.underlying75 rfl) fun a hf => stP hf rfl rfl rfl (pM rfl) fun a hf => cNil ?_
 refine h3 _ _ ?_
 refine wp_block ?_
 obtain ⟨x4,hx4,hF⟩ := bnd_some hF
 let S4 : Int → Act → World → Prop := (fun (zz : Int) a w => Has 19 a [(0,.slice s__p s_.length s__c),(1,.func (.func 169) #[] #[pq b_]),(7,i6 ((s_.length : Nat) : Int)),(8,i6 zz)] ∧ Ctx G (.box b_ [.func (.func 122) #[] #[]] 185::Lf) w)
 have hr4 : ∀ (zz : Int) a w,x4 = .go zz → S4 zz a w → K2 a w := by
  rintro x a w rfl ⟨hf,hc⟩
  replace hF := exK_go hF
  refine h2 _ _ ?_
  refine wp_seq_k fun K5 h5 => cReg ?_
  refine stP hf rfl rfl rfl (pA rfl) fun a hf => cNil ?_
  refine h5 _ _ ?_
  refine wp_ret ?_
  obtain rfl := sj hF
  exact fnOut1 (by simp) rfl Tryz.results191 hf hc (show look _ 4 = _ from rfl) ⟨rfl,hc⟩
 have ho4 : ∀ r,x4 = .out r → r = res := by
  rintro r rfl
  exact sj hF
 refine cLoop N (loopW (S := S4) (x := x4) ?_ N 0 _ _ ⟨hf.kp rfl,hc⟩ hx4)
 clear hF hf hc
 rintro x st4 a w KB4 ⟨hf,hc⟩ hF hfin4 hK4
 unfold slices_IndexFunc_LLint_Lint_s2_b4 at hF
 refine wp_seq_k fun K6 h6 => cReg ?_
 refine stP hf rfl rfl rfl (pLt rfl rfl) fun a hf => cNil ?_
 refine h6 _ _ ?_
 refine wp_seq_k fun K7 h7 => cCond (b := (decide (x < ((s_.length : Nat) : Int)))) hf rfl (fun hb => ?_) (fun hb => ?_)
 ·replace hF := condT hb hF
  clear hb
  refine wp_skip ?_
  refine h7 _ _ ?_
  refine wp_seq_k fun K8 h8 => wp_block ?_
  refine wp_seq_k fun K9 h9 => cReg ?_
  refine stP hf rfl rfl rfl (pM rfl) fun a hf => stP hf rfl rfl rfl (pA rfl) fun a hf => cNil ?_
  refine h9 _ _ ?_
  refine wp_seq_k fun K10 h10 => cReg ?_
  refine stP hf rfl rfl rfl (pM rfl) fun a hf => stP hf rfl rfl rfl (pM rfl) fun a hf => stP hf rfl rfl rfl (pM rfl) fun a hf => ?_
  obtain ⟨e_1,he_1,hF⟩ := bnd_some hF
  obtain ⟨b_1,o,hd,qa,qp,qr⟩ := h_s_.atm he_1
  refine stP hf rfl rfl rfl (pIA Tryz.underlying75 sz_25 rfl rfl qa) fun a hf => stE hf hc rfl rfl rfl (eLd1 sc_25 rfl (cell_pc (j := 0) qp rfl)) fun a w hf hc => ?_
  obtain ⟨r,hr,hF⟩ := bnd_some hF
  refine stE hf hc rfl rfl rfl (eC (v := .bool r) (vs := [.slice hd.1 e_1.length hd.2]) (caps := [pq b_]) en_169 rfl rfl rfl rfl (fun w hc => (crew_every_Lint_1_s2_ok e_1 qr (hc.pick k0) hr).mono fun e w h => ⟨h.1,(h.2.unpick k0)⟩)) fun a w hf hc => cNil ?_
  refine h10 _ _ ?_
  refine cCond (b := r) hf rfl (fun hb => ?_) (fun hb => ?_)
  ·replace hF := condT hb hF
   clear hb
   refine wp_seq_k fun K11 h11 => cReg ?_
   refine stP hf rfl rfl rfl (pM rfl) fun a hf => stP hf rfl rfl rfl (pA rfl) fun a hf => cNil ?_
   refine h11 _ _ ?_
   refine wp_ret ?_
   refine xBlkR ?_
   refine xThenR ?_
   refine xThenR ?_
   have he := sj hF
   rw [← he] at hfin4
   replace hF := ho4 _ hfin4
   refine xBlkR ?_
   refine xThenR ?_
   obtain rfl := hF
   exact fnOut1 (by simp) rfl Tryz.results191 hf hc (show look _ 4 = _ from rfl) ⟨rfl,hc⟩
  ·replace hF := condF hb hF
   clear hb
   refine wp_skip ?_
   refine h8 _ _ ?_
   refine cReg ?_
   refine stP hf rfl rfl rfl (pAdd rfl rfl) fun a hf => stP hf rfl rfl rfl (pM rfl) fun a hf => cNil ?_
   exact hK4 (W (x + 1)) _ _ (sj hF).symm ⟨hf.kp rfl,hc⟩
 ·replace hF := condF hb hF
  clear hb
  refine wp_exit ?_
  refine xThen ?_
  refine xThen ?_
  have he := sj hF
  rw [← he] at hfin4
  refine cHit ?_
  exact hr4 _ _ _ hfin4 ⟨hf.kp rfl,hc⟩

def slices_ContainsFunc_LLint_Lint_s2 (N : Nat) (s_ : List (List Int)) : Option (Bool) :=
 Option.bind (slices_IndexFunc_LLint_Lint_s2 N s_) fun r =>
 some (decide (0 ≤ r))
theorem slices_ContainsFunc_LLint_Lint_s2_ok {N : Nat} {G : Pers} {Lf : List Ent} {w : World} (s_ : List (List Int)) {s__p : Option Addr} {s__c : Nat} {b_ : Nat} (h_s_ : RdT kd_25 G 1 s__p s__c s_) (hc : Ctx G (.box b_ [.func (.func 122) #[] #[]] 185::Lf) w) {res : Bool} (hF : slices_ContainsFunc_LLint_Lint_s2 N s_ = some res) : Calls Tryz.prog 168 #[.slice s__p s_.length s__c,.func (.func 169) #[] #[pq b_]] w (fun e w => e = .returned (.bool res) ∧ Ctx G (.box b_ [.func (.func 122) #[] #[]] 185::Lf) w) := by
 unfold slices_ContainsFunc_LLint_Lint_s2 at hF
 refine fnIn (args := [.slice s__p s_.length s__c,.func (.func 169) #[] #[pq b_]]) Tryz.func168 rfl Tryz.ntmps168 rfl fun a hf => wp_seq_k fun K1 h1 => cReg ?_
 refine stP hf rfl rfl rfl (pA rfl) fun a hf => cNil ?_
 refine h1 _ _ ?_
 refine wp_seq_k fun K2 h2 => cReg ?_
 refine stP hf rfl rfl rfl (pM rfl) fun a hf => stP hf rfl rfl rfl (pM rfl) fun a hf => ?_
 obtain ⟨r,hr,hF⟩ := bnd_some hF
 refine stE hf hc rfl rfl rfl (eC (v := i6 r) (vs := [.slice s__p s_.length s__c,.func (.func 169) #[] #[pq b_]]) (caps := []) en_191 rfl rfl rfl rfl (fun w hc => (slices_IndexFunc_LLint_Lint_s2_ok s_ h_s_ (hc.pick k0) hr).mono fun e w h => ⟨h.1,(h.2.unpick k0)⟩)) fun a w hf hc => stP hf rfl rfl rfl (pGe rfl rfl) fun a hf => stP hf rfl rfl rfl (pA rfl) fun a hf => cNil ?_
 refine h2 _ _ ?_
 refine wp_ret ?_
 obtain rfl := sj hF
 exact fnOut1 (by simp) rfl Tryz.results168 hf hc (show look _ 4 = _ from rfl) ⟨rfl,hc⟩

def crew_every_Lint_s2 (N : Nat) (l : List (List Int)) : Option (Bool) :=
 Option.bind (slices_ContainsFunc_LLint_Lint_s2 N l) fun r =>
 some (!r)
theorem crew_every_Lint_s2_ok {N : Nat} {G : Pers} {Lf : List Ent} {w : World} (l : List (List Int)) {l_p : Option Addr} {l_c : Nat} (h_l : RdT kd_25 G 1 l_p l_c l) (hc : Ctx G (Lf) w) {res : Bool} (hF : crew_every_Lint_s2 N l = some res) : Calls Tryz.prog 116 #[.slice l_p l.length l_c,.func (.func 122) #[] #[]] w (fun e w => e = .returned (.bool res) ∧ Ctx G (Lf) w) := by
 unfold crew_every_Lint_s2 at hF
 refine fnIn (args := [.slice l_p l.length l_c,.func (.func 122) #[] #[]]) Tryz.func116 rfl Tryz.ntmps116 rfl fun a hf => wp_seq_k fun K1 h1 => cReg ?_
 refine stBx (cs := [.func (.func 122) #[] #[]]) hf hc rfl rfl rfl rfl fun b_1 a w hf hc => stP hf rfl rfl rfl (pA rfl) fun a hf => cNil ?_
 refine h1 _ _ ?_
 refine wp_seq_k fun K2 h2 => cReg ?_
 refine stP hf rfl rfl rfl (pM rfl) fun a hf => stP hf rfl rfl rfl (pMF (us := [pq b_1]) rfl rfl) fun a hf => ?_
 obtain ⟨r,hr,hF⟩ := bnd_some hF
 refine stE hf hc rfl rfl rfl (eC (v := .bool r) (vs := [.slice l_p l.length l_c,.func (.func 169) #[] #[pq b_1]]) (caps := []) en_168 rfl rfl rfl rfl (fun w hc => (slices_ContainsFunc_LLint_Lint_s2_ok l h_l (hc.pick k0) hr).mono fun e w h => ⟨h.1,(h.2.unpick k0)⟩)) fun a w hf hc => stP hf rfl rfl rfl (pNot rfl) fun a hf => stP hf rfl rfl rfl (pA rfl) fun a hf => cNil ?_
 refine h2 _ _ ?_
 refine wp_ret ?_
 obtain rfl := sj hF
 replace hc := hc.drop k0
 exact fnOut1 (by simp) rfl Tryz.results116 hf hc (show look _ 4 = _ from rfl) ⟨rfl,hc⟩

def crew_Check_3 (N : Nat) (s_ : crew_Station) : Option (Bool) :=
 Option.bind (crew_once N s_.Order) fun r =>
 some r
theorem crew_Check_3_ok {N : Nat} {G : Pers} {Lf : List Ent} {w : World} (s_ : crew_Station) {s__Order_p : Option Addr} {s__Order_c : Nat} (h_s__Order : Rd G 1 s__Order_p s__Order_c (s_.Order.map encI_i64)) (hc : Ctx G (Lf) w) {res : Bool} (hF : crew_Check_3 N s_ = some res) : Calls Tryz.prog 123 #[.agg #[i6 s_.Places,.slice s__Order_p s_.Order.length s__Order_c]] w (fun e w => e = .returned (.bool res) ∧ Ctx G (Lf) w) := by
 unfold crew_Check_3 at hF
 refine fnIn (args := [.agg #[i6 s_.Places,.slice s__Order_p s_.Order.length s__Order_c]]) Tryz.func123 rfl Tryz.ntmps123 rfl fun a hf => wp_seq_k fun K1 h1 => cReg ?_
 refine stBx (cs := [i6 s_.Places,.slice s__Order_p s_.Order.length s__Order_c]) hf hc rfl rfl rfl rfl fun b_1 a w hf hc => stP hf rfl rfl rfl (pA rfl) fun a hf => cNil ?_
 refine h1 _ _ ?_
 refine wp_seq_k fun K2 h2 => cReg ?_
 refine stP hf rfl rfl rfl (pFA fa_101_1 rfl) fun a hf => stE hf hc rfl rfl rfl (eLd1 sc_25 rfl (cell_box m0 rfl)) fun a w hf hc => ?_
 obtain ⟨r,hr,hF⟩ := bnd_some hF
 refine stE hf hc rfl rfl rfl (eC (v := .bool r) (vs := [.slice s__Order_p s_.Order.length s__Order_c]) (caps := []) en_122 rfl rfl rfl rfl (fun w hc => crew_once_ok s_.Order h_s__Order hc hr)) fun a w hf hc => stP hf rfl rfl rfl (pA rfl) fun a hf => cNil ?_
 refine h2 _ _ ?_
 refine wp_ret ?_
 obtain rfl := sj hF
 replace hc := hc.drop k0
 exact fnOut1 (by simp) rfl Tryz.results123 hf hc (show look _ 2 = _ from rfl) ⟨rfl,hc⟩

def crew_every_crew_Station_1_s2 (N : Nat) (x : crew_Station) : Option (Bool) :=
 Option.bind (crew_Check_3 N x) fun r =>
 some (!r)
theorem crew_every_crew_Station_1_s2_ok {N : Nat} {G : Pers} {Lf : List Ent} {w : World} (x : crew_Station) {x_Order_p : Option Addr} {x_Order_c : Nat} {b_ : Nat} (h_x_Order : Rd G 1 x_Order_p x_Order_c (x.Order.map encI_i64)) (hc : Ctx G (.box b_ [.func (.func 123) #[] #[]] 187::Lf) w) {res : Bool} (hF : crew_every_crew_Station_1_s2 N x = some res) : Calls Tryz.prog 171 #[.agg #[i6 x.Places,.slice x_Order_p x.Order.length x_Order_c],pq b_] w (fun e w => e = .returned (.bool res) ∧ Ctx G (.box b_ [.func (.func 123) #[] #[]] 187::Lf) w) := by
 unfold crew_every_crew_Station_1_s2 at hF
 refine fnIn (args := [.agg #[i6 x.Places,.slice x_Order_p x.Order.length x_Order_c],pq b_]) Tryz.func171 rfl Tryz.ntmps171 rfl fun a hf => wp_seq_k fun K1 h1 => cReg ?_
 refine stBx (cs := [i6 x.Places,.slice x_Order_p x.Order.length x_Order_c]) hf hc rfl rfl rfl rfl fun b_1 a w hf hc => stP hf rfl rfl rfl (pA rfl) fun a hf => cNil ?_
 refine h1 _ _ ?_
 refine wp_seq_k fun K2 h2 => cReg ?_
 refine stE hf hc rfl rfl rfl (eLd1 sc_187 rfl (cell_box m1 rfl)) fun a w hf hc => stE hf hc rfl rfl rfl (eLdN (vs := [i6 x.Places,.slice x_Order_p x.Order.length x_Order_c]) ag_101 rfl rfl (cells_box (n := 2) m0 rfl)) fun a w hf hc => ?_
 obtain ⟨r,hr,hF⟩ := bnd_some hF
 refine stE hf hc rfl rfl rfl (eC (v := .bool r) (vs := [.agg #[i6 x.Places,.slice x_Order_p x.Order.length x_Order_c]]) (caps := []) en_123 rfl rfl rfl rfl (fun w hc => crew_Check_3_ok x h_x_Order hc hr)) fun a w hf hc => stP hf rfl rfl rfl (pNot rfl) fun a hf => stP hf rfl rfl rfl (pA rfl) fun a hf => cNil ?_
 refine h2 _ _ ?_
 refine wp_ret ?_
 obtain rfl := sj hF
 replace hc := hc.drop k0
 exact fnOut1 (by simp) rfl Tryz.results171 hf hc (show look _ 3 = _ from rfl) ⟨rfl,hc⟩

def slices_IndexFunc_Lcrew_Station_crew_Station_s2_b4 (N : Nat) (s_ : List crew_Station) (x : Int) : Option (Step (Int) (Int)) :=
 cond (decide (x < ((s_.length : Nat) : Int)))
 (Option.bind (getI s_ x) fun e_1 =>
 Option.bind (crew_every_crew_Station_1_s2 N e_1) fun r =>
 cond r
 (some (.ret x))
 (some (.cont (W (x + 1)))))
 (some (.brk x))
def slices_IndexFunc_Lcrew_Station_crew_Station_s2 (N : Nat) (s_ : List crew_Station) : Option (Int) :=
 Option.bind (loopO (fun s4 => slices_IndexFunc_Lcrew_Station_crew_Station_s2_b4 N s_ s4) N 0) fun x4 =>
 exK x4 (fun s4 => some (-1)) some
theorem slices_IndexFunc_Lcrew_Station_crew_Station_s2_ok {N : Nat} {G : Pers} {Lf : List Ent} {w : World} (s_ : List crew_Station) {s__p : Option Addr} {s__c : Nat} {b_ : Nat} (h_s_ : RdT kd_101 G 2 s__p s__c s_) (hc : Ctx G (.box b_ [.func (.func 123) #[] #[]] 187::Lf) w) {res : Int} (hF : slices_IndexFunc_Lcrew_Station_crew_Station_s2 N s_ = some res) : Calls Tryz.prog 192 #[.slice s__p s_.length s__c,.func (.func 171) #[] #[pq b_]] w (fun e w => e = .returned (i6 res) ∧ Ctx G (.box b_ [.func (.func 123) #[] #[]] 187::Lf) w) := by
 unfold slices_IndexFunc_Lcrew_Station_crew_Station_s2 at hF
 refine fnIn (args := [.slice s__p s_.length s__c,.func (.func 171) #[] #[pq b_]]) Tryz.func192 rfl Tryz.ntmps192 rfl fun a hf => wp_seq_k fun K1 h1 => cReg ?_
 refine stP hf rfl rfl rfl (pA rfl) fun a hf => cNil ?_
 refine h1 _ _ ?_
 refine wp_seq_k fun K2 h2 => wp_seq_k fun K3 h3 => cReg ?_
 refine stP hf rfl rfl rfl (pM rfl) fun a hf => stP hf rfl rfl rfl (pLenS Tryz.underlying76 rfl) fun a hf => stP hf rfl rfl rfl (pM rfl) fun a hf => cNil ?_
 refine h3 _ _ ?_
 refine wp_block ?_
 obtain ⟨x4,hx4,hF⟩ := bnd_some hF
 let S4 : Int → Act → World → Prop := (fun (zz : Int) a w => Has 19 a [(0,.slice s__p s_.length s__c),(1,.func (.func 171) #[] #[pq b_]),(7,i6 ((s_.length : Nat) : Int)),(8,i6 zz)] ∧ Ctx G (.box b_ [.func (.func 123) #[] #[]] 187::Lf) w)
 have hr4 : ∀ (zz : Int) a w,x4 = .go zz → S4 zz a w → K2 a w := by
  rintro x a w rfl ⟨hf,hc⟩
  replace hF := exK_go hF
  refine h2 _ _ ?_
  refine wp_seq_k fun K5 h5 => cReg ?_
  refine stP hf rfl rfl rfl (pA rfl) fun a hf => cNil ?_
  refine h5 _ _ ?_
  refine wp_ret ?_
  obtain rfl := sj hF
  exact fnOut1 (by simp) rfl Tryz.results192 hf hc (show look _ 4 = _ from rfl) ⟨rfl,hc⟩
 have ho4 : ∀ r,x4 = .out r → r = res := by
  rintro r rfl
  exact sj hF
 refine cLoop N (loopW (S := S4) (x := x4) ?_ N 0 _ _ ⟨hf.kp rfl,hc⟩ hx4)
 clear hF hf hc
 rintro x st4 a w KB4 ⟨hf,hc⟩ hF hfin4 hK4
 unfold slices_IndexFunc_Lcrew_Station_crew_Station_s2_b4 at hF
 refine wp_seq_k fun K6 h6 => cReg ?_
 refine stP hf rfl rfl rfl (pLt rfl rfl) fun a hf => cNil ?_
 refine h6 _ _ ?_
 refine wp_seq_k fun K7 h7 => cCond (b := (decide (x < ((s_.length : Nat) : Int)))) hf rfl (fun hb => ?_) (fun hb => ?_)
 ·replace hF := condT hb hF
  clear hb
  refine wp_skip ?_
  refine h7 _ _ ?_
  refine wp_seq_k fun K8 h8 => wp_block ?_
  refine wp_seq_k fun K9 h9 => cReg ?_
  refine stP hf rfl rfl rfl (pM rfl) fun a hf => stP hf rfl rfl rfl (pA rfl) fun a hf => cNil ?_
  refine h9 _ _ ?_
  refine wp_seq_k fun K10 h10 => cReg ?_
  refine stP hf rfl rfl rfl (pM rfl) fun a hf => stP hf rfl rfl rfl (pM rfl) fun a hf => stP hf rfl rfl rfl (pM rfl) fun a hf => ?_
  obtain ⟨e_1,he_1,hF⟩ := bnd_some hF
  obtain ⟨b_1,o,hd,qa,qp,qr⟩ := h_s_.atm he_1
  refine stP hf rfl rfl rfl (pIA Tryz.underlying76 sz_101 rfl rfl qa) fun a hf => stE hf hc rfl rfl rfl (eLdN (vs := [i6 e_1.Places,.slice hd.1 e_1.Order.length hd.2]) ag_101 rfl rfl (cells_pc qp (n := 2) (o' := 0) rfl)) fun a w hf hc => ?_
  obtain ⟨r,hr,hF⟩ := bnd_some hF
  refine stE hf hc rfl rfl rfl (eC (v := .bool r) (vs := [.agg #[i6 e_1.Places,.slice hd.1 e_1.Order.length hd.2]]) (caps := [pq b_]) en_171 rfl rfl rfl rfl (fun w hc => (crew_every_crew_Station_1_s2_ok e_1 qr (hc.pick k0) hr).mono fun e w h => ⟨h.1,(h.2.unpick k0)⟩)) fun a w hf hc => cNil ?_
  refine h10 _ _ ?_
  refine cCond (b := r) hf rfl (fun hb => ?_) (fun hb => ?_)
  ·replace hF := condT hb hF
   clear hb
   refine wp_seq_k fun K11 h11 => cReg ?_
   refine stP hf rfl rfl rfl (pM rfl) fun a hf => stP hf rfl rfl rfl (pA rfl) fun a hf => cNil ?_
   refine h11 _ _ ?_
   refine wp_ret ?_
   refine xBlkR ?_
   refine xThenR ?_
   refine xThenR ?_
   have he := sj hF
   rw [← he] at hfin4
   replace hF := ho4 _ hfin4
   refine xBlkR ?_
   refine xThenR ?_
   obtain rfl := hF
   exact fnOut1 (by simp) rfl Tryz.results192 hf hc (show look _ 4 = _ from rfl) ⟨rfl,hc⟩
  ·replace hF := condF hb hF
   clear hb
   refine wp_skip ?_
   refine h8 _ _ ?_
   refine cReg ?_
   refine stP hf rfl rfl rfl (pAdd rfl rfl) fun a hf => stP hf rfl rfl rfl (pM rfl) fun a hf => cNil ?_
   exact hK4 (W (x + 1)) _ _ (sj hF).symm ⟨hf.kp rfl,hc⟩
 ·replace hF := condF hb hF
  clear hb
  refine wp_exit ?_
  refine xThen ?_
  refine xThen ?_
  have he := sj hF
  rw [← he] at hfin4
  refine cHit ?_
  exact hr4 _ _ _ hfin4 ⟨hf.kp rfl,hc⟩

def slices_ContainsFunc_Lcrew_Station_crew_Station_s2 (N : Nat) (s_ : List crew_Station) : Option (Bool) :=
 Option.bind (slices_IndexFunc_Lcrew_Station_crew_Station_s2 N s_) fun r =>
 some (decide (0 ≤ r))
theorem slices_ContainsFunc_Lcrew_Station_crew_Station_s2_ok {N : Nat} {G : Pers} {Lf : List Ent} {w : World} (s_ : List crew_Station) {s__p : Option Addr} {s__c : Nat} {b_ : Nat} (h_s_ : RdT kd_101 G 2 s__p s__c s_) (hc : Ctx G (.box b_ [.func (.func 123) #[] #[]] 187::Lf) w) {res : Bool} (hF : slices_ContainsFunc_Lcrew_Station_crew_Station_s2 N s_ = some res) : Calls Tryz.prog 170 #[.slice s__p s_.length s__c,.func (.func 171) #[] #[pq b_]] w (fun e w => e = .returned (.bool res) ∧ Ctx G (.box b_ [.func (.func 123) #[] #[]] 187::Lf) w) := by
 unfold slices_ContainsFunc_Lcrew_Station_crew_Station_s2 at hF
 refine fnIn (args := [.slice s__p s_.length s__c,.func (.func 171) #[] #[pq b_]]) Tryz.func170 rfl Tryz.ntmps170 rfl fun a hf => wp_seq_k fun K1 h1 => cReg ?_
 refine stP hf rfl rfl rfl (pA rfl) fun a hf => cNil ?_
 refine h1 _ _ ?_
 refine wp_seq_k fun K2 h2 => cReg ?_
 refine stP hf rfl rfl rfl (pM rfl) fun a hf => stP hf rfl rfl rfl (pM rfl) fun a hf => ?_
 obtain ⟨r,hr,hF⟩ := bnd_some hF
 refine stE hf hc rfl rfl rfl (eC (v := i6 r) (vs := [.slice s__p s_.length s__c,.func (.func 171) #[] #[pq b_]]) (caps := []) en_192 rfl rfl rfl rfl (fun w hc => (slices_IndexFunc_Lcrew_Station_crew_Station_s2_ok s_ h_s_ (hc.pick k0) hr).mono fun e w h => ⟨h.1,(h.2.unpick k0)⟩)) fun a w hf hc => stP hf rfl rfl rfl (pGe rfl rfl) fun a hf => stP hf rfl rfl rfl (pA rfl) fun a hf => cNil ?_
 refine h2 _ _ ?_
 refine wp_ret ?_
 obtain rfl := sj hF
 exact fnOut1 (by simp) rfl Tryz.results170 hf hc (show look _ 4 = _ from rfl) ⟨rfl,hc⟩

def crew_every_crew_Station_s2 (N : Nat) (l : List crew_Station) : Option (Bool) :=
 Option.bind (slices_ContainsFunc_Lcrew_Station_crew_Station_s2 N l) fun r =>
 some (!r)
theorem crew_every_crew_Station_s2_ok {N : Nat} {G : Pers} {Lf : List Ent} {w : World} (l : List crew_Station) {l_p : Option Addr} {l_c : Nat} (h_l : RdT kd_101 G 2 l_p l_c l) (hc : Ctx G (Lf) w) {res : Bool} (hF : crew_every_crew_Station_s2 N l = some res) : Calls Tryz.prog 119 #[.slice l_p l.length l_c,.func (.func 123) #[] #[]] w (fun e w => e = .returned (.bool res) ∧ Ctx G (Lf) w) := by
 unfold crew_every_crew_Station_s2 at hF
 refine fnIn (args := [.slice l_p l.length l_c,.func (.func 123) #[] #[]]) Tryz.func119 rfl Tryz.ntmps119 rfl fun a hf => wp_seq_k fun K1 h1 => cReg ?_
 refine stBx (cs := [.func (.func 123) #[] #[]]) hf hc rfl rfl rfl rfl fun b_1 a w hf hc => stP hf rfl rfl rfl (pA rfl) fun a hf => cNil ?_
 refine h1 _ _ ?_
 refine wp_seq_k fun K2 h2 => cReg ?_
 refine stP hf rfl rfl rfl (pM rfl) fun a hf => stP hf rfl rfl rfl (pMF (us := [pq b_1]) rfl rfl) fun a hf => ?_
 obtain ⟨r,hr,hF⟩ := bnd_some hF
 refine stE hf hc rfl rfl rfl (eC (v := .bool r) (vs := [.slice l_p l.length l_c,.func (.func 171) #[] #[pq b_1]]) (caps := []) en_170 rfl rfl rfl rfl (fun w hc => (slices_ContainsFunc_Lcrew_Station_crew_Station_s2_ok l h_l (hc.pick k0) hr).mono fun e w h => ⟨h.1,(h.2.unpick k0)⟩)) fun a w hf hc => stP hf rfl rfl rfl (pNot rfl) fun a hf => stP hf rfl rfl rfl (pA rfl) fun a hf => cNil ?_
 refine h2 _ _ ?_
 refine wp_ret ?_
 obtain rfl := sj hF
 replace hc := hc.drop k0
 exact fnOut1 (by simp) rfl Tryz.results119 hf hc (show look _ 4 = _ from rfl) ⟨rfl,hc⟩

def crew_Check (N : Nat) (r : crew_Roster) : Option (Int) :=
 cond ((!(crew_in ((r.People.length : Nat) : Int) 1 12)) || (!(crew_in ((r.Stations.length : Nat) : Int) 1 12)))
 (some 3)
 (Option.bind (crew_every_Lint N r.People r) fun r_0 =>
 Option.bind (cond (!r_0) (some true) (Option.bind (crew_every_crew_Station N r.Stations r) fun r_1 =>
 some (!r_1))) fun t_1 =>
 cond t_1
 (some 120)
 (Option.bind (crew_every_Lint_s2 N r.People) fun r_2 =>
 Option.bind (cond (!r_2) (some true) (Option.bind (crew_every_crew_Station_s2 N r.Stations) fun r_3 =>
 some (!r_3))) fun t_2 =>
 cond t_2
 (some 10)
 (some 0)))
theorem crew_Check_ok {N : Nat} {G : Pers} {Lf : List Ent} {w : World} (r : crew_Roster) {r_People_p : Option Addr} {r_People_c : Nat} {r_Stations_p : Option Addr} {r_Stations_c : Nat} (h_r_People : RdT kd_25 G 1 r_People_p r_People_c r.People) (h_r_Stations : RdT kd_101 G 2 r_Stations_p r_Stations_c r.Stations) (hc : Ctx G (Lf) w) {res : Int} (hF : crew_Check N r = some res) : Calls Tryz.prog 55 #[.agg #[.slice r_People_p r.People.length r_People_c,.slice r_Stations_p r.Stations.length r_Stations_c]] w (fun e w => e = .returned (i6 res) ∧ Ctx G (Lf) w) := by
 unfold crew_Check at hF
 refine fnIn (args := [.agg #[.slice r_People_p r.People.length r_People_c,.slice r_Stations_p r.Stations.length r_Stations_c]]) Tryz.func55 rfl Tryz.ntmps55 rfl fun a hf => wp_seq_k fun K1 h1 => cReg ?_
 refine stBx (cs := [.slice r_People_p r.People.length r_People_c,.slice r_Stations_p r.Stations.length r_Stations_c]) hf hc rfl rfl rfl rfl fun b_1 a w hf hc => stP hf rfl rfl rfl (pA rfl) fun a hf => cNil ?_
 refine h1 _ _ ?_
 refine wp_seq_k fun K2 h2 => wp_block ?_
 refine wp_seq_k fun K3 h3 => cReg ?_
 refine stP hf rfl rfl rfl (pFA fa_78_0 rfl) fun a hf => stE hf hc rfl rfl rfl (eLd1 sc_75 rfl (cell_box m0 rfl)) fun a w hf hc => stP hf rfl rfl rfl (pLenS Tryz.underlying75 rfl) fun a hf => stE hf hc rfl rfl rfl (eC (v := .bool (crew_in ((r.People.length : Nat) : Int) 1 12)) (vs := [i6 ((r.People.length : Nat) : Int),i6 1,i6 12]) (caps := []) en_86 rfl rfl rfl rfl (fun w hc => crew_in_ok ((r.People.length : Nat) : Int) 1 12 hc rfl)) fun a w hf hc => stP hf rfl rfl rfl (pNot rfl) fun a hf => stP hf rfl rfl rfl (pM rfl) fun a hf => stCut 6 (fun a w => Has 40 a [(1,pq b_1),(4,pq b_1),(5,.slice r_People_p r.People.length r_People_c),(6,i6 ((r.People.length : Nat) : Int)),(7,.bool (crew_in ((r.People.length : Nat) : Int) 1 12)),(8,.bool (!(crew_in ((r.People.length : Nat) : Int) 1 12))),(9,.bool (!(crew_in ((r.People.length : Nat) : Int) 1 12))),(15,.bool ((!(crew_in ((r.People.length : Nat) : Int) 1 12)) || (!(crew_in ((r.Stations.length : Nat) : Int) 1 12))))] ∧ Ctx G (.box b_1 [.slice r_People_p r.People.length r_People_c,.slice r_Stations_p r.Stations.length r_Stations_c] 78::Lf) w) ?_ ?_
 ·cases hb : (!(crew_in ((r.People.length : Nat) : Int) 1 12))
  ·rw [hb] at hf
   refine stP hf rfl rfl rfl (pFA fa_78_1 rfl) fun a hf => stE hf hc rfl rfl rfl (eLd1 sc_76 rfl (cell_box m0 rfl)) fun a w hf hc => stP hf rfl rfl rfl (pLenS Tryz.underlying76 rfl) fun a hf => stE hf hc rfl rfl rfl (eC (v := .bool (crew_in ((r.Stations.length : Nat) : Int) 1 12)) (vs := [i6 ((r.Stations.length : Nat) : Int),i6 1,i6 12]) (caps := []) en_86 rfl rfl rfl rfl (fun w hc => crew_in_ok ((r.Stations.length : Nat) : Int) 1 12 hc rfl)) fun a w hf hc => stP hf rfl rfl rfl (pNot rfl) fun a hf => stP hf rfl rfl rfl (pPf rfl rfl) fun a hf => cNil ⟨hf.kp rfl,hc⟩
  ·rw [hb] at hf
   refine stS hf rfl rfl rfl fun a hf => stS hf rfl rfl rfl fun a hf => stS hf rfl rfl rfl fun a hf => stS hf rfl rfl rfl fun a hf => stS hf rfl rfl rfl fun a hf => stP hf rfl rfl rfl (pPt rfl rfl) fun a hf => cNil ⟨hf.kp rfl,hc⟩
 intro a w ⟨hf,hc⟩
 refine stP hf rfl rfl rfl (pA rfl) fun a hf => cNil ?_
 refine h3 _ _ ?_
 refine cCond (b := ((!(crew_in ((r.People.length : Nat) : Int) 1 12)) || (!(crew_in ((r.Stations.length : Nat) : Int) 1 12)))) hf rfl (fun hb => ?_) (fun hb => ?_)
 ·replace hF := condT hb hF
  clear hb
  refine wp_seq_k fun K4 h4 => cReg ?_
  refine stP hf rfl rfl rfl (pA rfl) fun a hf => cNil ?_
  refine h4 _ _ ?_
  refine wp_ret ?_
  refine xBlkR ?_
  refine xThenR ?_
  obtain rfl := sj hF
  replace hc := hc.drop k0
  exact fnOut1 (by simp) rfl Tryz.results55 hf hc (show look _ 2 = _ from rfl) ⟨rfl,hc⟩
 ·replace hF := condF hb hF
  clear hb
  refine wp_seq_k fun K5 h5 => cReg ?_
  refine stP hf rfl rfl rfl (pFA fa_78_0 rfl) fun a hf => stE hf hc rfl rfl rfl (eLd1 sc_75 rfl (cell_box m0 rfl)) fun a w hf hc => stP hf rfl rfl rfl (pMF (us := [pq b_1]) rfl rfl) fun a hf => ?_
  obtain ⟨r_0,hr_0,hF⟩ := bnd_some hF
  refine stE hf hc rfl rfl rfl (eC (v := .bool r_0) (vs := [.slice r_People_p r.People.length r_People_c,.func (.func 117) #[] #[pq b_1]]) (caps := []) en_116 rfl rfl rfl rfl (fun w hc => (crew_every_Lint_ok r.People r h_r_People h_r_People h_r_Stations (hc.pick k0) hr_0).mono fun e w h => ⟨h.1,(h.2.unpick k0)⟩)) fun a w hf hc => stP hf rfl rfl rfl (pNot rfl) fun a hf => stP hf rfl rfl rfl (pM rfl) fun a hf => ?_
  obtain ⟨t_1,ht_1,hF⟩ := bnd_some hF
  refine stCut 6 (fun a w => Has 40 a [(1,pq b_1),(17,pq b_1),(18,.slice r_People_p r.People.length r_People_c),(19,.func (.func 117) #[] #[pq b_1]),(20,.bool r_0),(21,.bool (!r_0)),(22,.bool (!r_0)),(28,.bool t_1)] ∧ Ctx G (.box b_1 [.slice r_People_p r.People.length r_People_c,.slice r_Stations_p r.Stations.length r_Stations_c] 78::Lf) w) ?_ ?_
  ·cases hb : (!r_0)
   ·rw [hb] at hf
    have hF := condF hb ht_1
    refine stP hf rfl rfl rfl (pFA fa_78_1 rfl) fun a hf => stE hf hc rfl rfl rfl (eLd1 sc_76 rfl (cell_box m0 rfl)) fun a w hf hc => stP hf rfl rfl rfl (pMF (us := [pq b_1]) rfl rfl) fun a hf => ?_
    obtain ⟨r_1,hr_1,hF⟩ := bnd_some hF
    refine stE hf hc rfl rfl rfl (eC (v := .bool r_1) (vs := [.slice r_Stations_p r.Stations.length r_Stations_c,.func (.func 120) #[] #[pq b_1]]) (caps := []) en_119 rfl rfl rfl rfl (fun w hc => (crew_every_crew_Station_ok r.Stations r h_r_Stations h_r_People h_r_Stations (hc.pick k0) hr_1).mono fun e w h => ⟨h.1,(h.2.unpick k0)⟩)) fun a w hf hc => stP hf rfl rfl rfl (pNot rfl) fun a hf => stP hf rfl rfl rfl (pPf rfl rfl) fun a hf => ?_
    obtain rfl := sj hF
    exact cNil ⟨hf.kp rfl,hc⟩
   ·rw [hb] at hf
    have hF := condT hb ht_1
    obtain rfl := sj hF
    refine stS hf rfl rfl rfl fun a hf => stS hf rfl rfl rfl fun a hf => stS hf rfl rfl rfl fun a hf => stS hf rfl rfl rfl fun a hf => stS hf rfl rfl rfl fun a hf => stP hf rfl rfl rfl (pPt rfl rfl) fun a hf => cNil ⟨hf.kp rfl,hc⟩
  intro a w ⟨hf,hc⟩
  refine stP hf rfl rfl rfl (pA rfl) fun a hf => cNil ?_
  refine h5 _ _ ?_
  refine cCond (b := t_1) hf rfl (fun hb => ?_) (fun hb => ?_)
  ·replace hF := condT hb hF
   clear hb
   refine wp_seq_k fun K6 h6 => cReg ?_
   refine stP hf rfl rfl rfl (pA rfl) fun a hf => cNil ?_
   refine h6 _ _ ?_
   refine wp_ret ?_
   refine xBlkR ?_
   refine xThenR ?_
   obtain rfl := sj hF
   replace hc := hc.drop k0
   exact fnOut1 (by simp) rfl Tryz.results55 hf hc (show look _ 2 = _ from rfl) ⟨rfl,hc⟩
  ·replace hF := condF hb hF
   clear hb
   refine wp_seq_k fun K7 h7 => cReg ?_
   refine stP hf rfl rfl rfl (pFA fa_78_0 rfl) fun a hf => stE hf hc rfl rfl rfl (eLd1 sc_75 rfl (cell_box m0 rfl)) fun a w hf hc => ?_
   obtain ⟨r_2,hr_2,hF⟩ := bnd_some hF
   refine stE hf hc rfl rfl rfl (eC (v := .bool r_2) (vs := [.slice r_People_p r.People.length r_People_c,.func (.func 122) #[] #[]]) (caps := []) en_116 rfl rfl rfl rfl (fun w hc => crew_every_Lint_s2_ok r.People h_r_People hc hr_2)) fun a w hf hc => stP hf rfl rfl rfl (pNot rfl) fun a hf => stP hf rfl rfl rfl (pM rfl) fun a hf => ?_
   obtain ⟨t_2,ht_2,hF⟩ := bnd_some hF
   refine stCut 5 (fun a w => Has 40 a [(1,pq b_1),(30,pq b_1),(31,.slice r_People_p r.People.length r_People_c),(32,.bool r_2),(33,.bool (!r_2)),(34,.bool (!r_2)),(39,.bool t_2)] ∧ Ctx G (.box b_1 [.slice r_People_p r.People.length r_People_c,.slice r_Stations_p r.Stations.length r_Stations_c] 78::Lf) w) ?_ ?_
   ·cases hb : (!r_2)
    ·rw [hb] at hf
     have hF := condF hb ht_2
     refine stP hf rfl rfl rfl (pFA fa_78_1 rfl) fun a hf => stE hf hc rfl rfl rfl (eLd1 sc_76 rfl (cell_box m0 rfl)) fun a w hf hc => ?_
     obtain ⟨r_3,hr_3,hF⟩ := bnd_some hF
     refine stE hf hc rfl rfl rfl (eC (v := .bool r_3) (vs := [.slice r_Stations_p r.Stations.length r_Stations_c,.func (.func 123) #[] #[]]) (caps := []) en_119 rfl rfl rfl rfl (fun w hc => crew_every_crew_Station_s2_ok r.Stations h_r_Stations hc hr_3)) fun a w hf hc => stP hf rfl rfl rfl (pNot rfl) fun a hf => stP hf rfl rfl rfl (pPf rfl rfl) fun a hf => ?_
     obtain rfl := sj hF
     exact cNil ⟨hf.kp rfl,hc⟩
    ·rw [hb] at hf
     have hF := condT hb ht_2
     obtain rfl := sj hF
     refine stS hf rfl rfl rfl fun a hf => stS hf rfl rfl rfl fun a hf => stS hf rfl rfl rfl fun a hf => stS hf rfl rfl rfl fun a hf => stP hf rfl rfl rfl (pPt rfl rfl) fun a hf => cNil ⟨hf.kp rfl,hc⟩
   intro a w ⟨hf,hc⟩
   refine stP hf rfl rfl rfl (pA rfl) fun a hf => cNil ?_
   refine h7 _ _ ?_
   refine cCond (b := t_2) hf rfl (fun hb => ?_) (fun hb => ?_)
   ·replace hF := condT hb hF
    clear hb
    refine wp_seq_k fun K8 h8 => cReg ?_
    refine stP hf rfl rfl rfl (pA rfl) fun a hf => cNil ?_
    refine h8 _ _ ?_
    refine wp_ret ?_
    refine xBlkR ?_
    refine xThenR ?_
    obtain rfl := sj hF
    replace hc := hc.drop k0
    exact fnOut1 (by simp) rfl Tryz.results55 hf hc (show look _ 2 = _ from rfl) ⟨rfl,hc⟩
   ·replace hF := condF hb hF
    clear hb
    refine wp_skip ?_
    refine h2 _ _ ?_
    refine wp_seq_k fun K9 h9 => cReg ?_
    refine stP hf rfl rfl rfl (pA rfl) fun a hf => cNil ?_
    refine h9 _ _ ?_
    refine wp_ret ?_
    obtain rfl := sj hF
    replace hc := hc.drop k0
    exact fnOut1 (by simp) rfl Tryz.results55 hf hc (show look _ 2 = _ from rfl) ⟨rfl,hc⟩

def crew_opened_b17 (N : Nat) (r : crew_Roster) (x : Int) (e_1 : crew_Station) (x_2 : Int) (x_3 : Nat → Int) : Option (Step (Int × (Nat → Int)) (Step (Int × (Nat → Int)) ((Int) ⊕ ((Nat → Int) × Int)))) :=
 cond (decide (x_2 < ((r.People.length : Nat) : Int)))
 (Option.bind (slices_Index_Lint_int N e_1.Order x_2) fun r_1 =>
 Option.bind (inR x 12) fun un =>
 Option.bind (inR x_2 12) fun un_1 =>
 some (.cont (W (x_2 + 1),(setF x_3 (x * 12 + x_2).toNat r_1))))
 (some (.brk (x_2,x_3)))
def crew_opened_b9 (N : Nat) (r : crew_Roster) (x : Int) (x_1 : Nat → Int) : Option (Step (Int × (Nat → Int)) ((Int) ⊕ ((Nat → Int) × Int))) :=
 cond (decide (x < ((r.Stations.length : Nat) : Int)))
 (Option.bind (getI r.Stations x) fun e_1 =>
 Option.bind (loopO (fun s17 => crew_opened_b17 N r x e_1 s17.1 s17.2) N (0,x_1)) fun x17 =>
 exK x17 (fun s17 => some (.cont (W (x + 1),s17.2))) some)
 (some (.brk (x,x_1)))
def crew_opened (N : Nat) (r : crew_Roster) : Option ((Int) ⊕ ((Nat → Int) × Int)) :=
 Option.bind (crew_Check N r) fun r_0 =>
 cond (r_0 != 0)
 (some (.inl r_0))
 (Option.bind (loopO (fun s9 => crew_opened_b9 N r s9.1 s9.2) N (0,(fun _ => 0))) fun x9 =>
 exK x9 (fun s9 => some (.inr (s9.2,0))) some)
theorem crew_opened_ok {N : Nat} {G : Pers} {Lf : List Ent} {w : World} (r : crew_Roster) {r_People_p : Option Addr} {r_People_c : Nat} {r_Stations_p : Option Addr} {r_Stations_c : Nat} (h_r_People : RdT kd_25 G 1 r_People_p r_People_c r.People) (h_r_Stations : RdT kd_101 G 2 r_Stations_p r_Stations_c r.Stations) (hc : Ctx G (Lf) w) {res : (Int) ⊕ ((Nat → Int) × Int)} (hF : crew_opened N r = some res) : Calls Tryz.prog 105 #[.agg #[.slice r_People_p r.People.length r_People_c,.slice r_Stations_p r.Stations.length r_Stations_c]] w (fun e w => sumK (fun rr => e = .returned (.tuple #[.pointer none,i6 rr]) ∧ Ctx G (Lf) w) (fun rr => ∃ (b'1 : Nat),e = .returned (.tuple #[pq b'1,i6 rr.2]) ∧ Ctx G (.box b'1 (catc [.slice r_People_p r.People.length r_People_c,.slice r_Stations_p r.Stations.length r_Stations_c] 144 encI_i64 rr.1 []) 181::Lf) w) res) := by
 unfold crew_opened at hF
 refine fnIn (args := [.agg #[.slice r_People_p r.People.length r_People_c,.slice r_Stations_p r.Stations.length r_Stations_c]]) Tryz.func105 rfl Tryz.ntmps105 rfl fun a hf => wp_seq_k fun K1 h1 => cReg ?_
 refine stBx (cs := [.slice r_People_p r.People.length r_People_c,.slice r_Stations_p r.Stations.length r_Stations_c]) hf hc rfl rfl rfl rfl fun b_1 a w hf hc => stP hf rfl rfl rfl (pA rfl) fun a hf => stP hf rfl rfl rfl (pA rfl) fun a hf => cNil ?_
 refine h1 _ _ ?_
 refine wp_seq_k fun K2 h2 => wp_seq_k fun K3 h3 => cReg ?_
 refine stE hf hc rfl rfl rfl (eLdN (vs := [.slice r_People_p r.People.length r_People_c,.slice r_Stations_p r.Stations.length r_Stations_c]) ag_78 rfl rfl (cells_box (n := 2) m0 rfl)) fun a w hf hc => ?_
 obtain ⟨r_0,hr_0,hF⟩ := bnd_some hF
 refine stE hf hc rfl rfl rfl (eC (v := i6 r_0) (vs := [.agg #[.slice r_People_p r.People.length r_People_c,.slice r_Stations_p r.Stations.length r_Stations_c]]) (caps := []) en_55 rfl rfl rfl rfl (fun w hc => crew_Check_ok r h_r_People h_r_Stations hc hr_0)) fun a w hf hc => stP hf rfl rfl rfl (pA rfl) fun a hf => cNil ?_
 refine h3 _ _ ?_
 refine wp_seq_k fun K4 h4 => cReg ?_
 refine stP hf rfl rfl rfl (pM rfl) fun a hf => stP hf rfl rfl rfl (pNe rfl rfl) fun a hf => cNil ?_
 refine h4 _ _ ?_
 refine cCond (b := (r_0 != 0)) hf rfl (fun hb => ?_) (fun hb => ?_)
 ·replace hF := condT hb hF
  clear hb
  refine wp_seq_k fun K5 h5 => cReg ?_
  refine stP hf rfl rfl rfl (pM rfl) fun a hf => stP hf rfl rfl rfl (pA rfl) fun a hf => stP hf rfl rfl rfl (pA rfl) fun a hf => cNil ?_
  refine h5 _ _ ?_
  refine wp_ret ?_
  refine xThenR ?_
  obtain rfl := sj hF
  replace hc := hc.drop k0
  exact fnOut2 (by simp) rfl Tryz.results105 hf hc (show look _ 2 = _ from rfl) (show look _ 3 = _ from rfl) ⟨rfl,hc⟩
 ·replace hF := condF hb hF
  clear hb
  refine wp_skip ?_
  refine h2 _ _ ?_
  refine wp_seq_k fun K6 h6 => cReg ?_
  refine stE hf hc rfl rfl rfl (eLdN (vs := [.slice r_People_p r.People.length r_People_c,.slice r_Stations_p r.Stations.length r_Stations_c]) ag_78 rfl rfl (cells_box (n := 2) m0 rfl)) fun a w hf hc => stP hf rfl rfl rfl (pBuildS (cells := (catc [.slice r_People_p r.People.length r_People_c,.slice r_Stations_p r.Stations.length r_Stations_c] 144 encI_i64 (fun _ => 0) [])) bt_181 rfl rfl) fun a hf => stBx (cs := (catc [.slice r_People_p r.People.length r_People_c,.slice r_Stations_p r.Stations.length r_Stations_c] 144 encI_i64 (fun _ => 0) [])) hf hc rfl rfl rfl rfl fun b_2 a w hf hc => stP hf rfl rfl rfl (pA rfl) fun a hf => cNil ?_
  refine h6 _ _ ?_
  refine wp_seq_k fun K7 h7 => wp_seq_k fun K8 h8 => cReg ?_
  refine stP hf rfl rfl rfl (pFA fa_78_1 rfl) fun a hf => stE hf hc rfl rfl rfl (eLd1 sc_76 rfl (cell_box m1 rfl)) fun a w hf hc => stP hf rfl rfl rfl (pLenS Tryz.underlying76 rfl) fun a hf => stP hf rfl rfl rfl (pM rfl) fun a hf => cNil ?_
  refine h8 _ _ ?_
  refine wp_block ?_
  obtain ⟨x9,hx9,hF⟩ := bnd_some hF
  let S9 : (Int × (Nat → Int)) → Act → World → Prop := (fun (zz : Int × (Nat → Int)) a w => Has 45 a [(1,pq b_1),(5,pq b_2),(18,.slice r_Stations_p r.Stations.length r_Stations_c),(19,i6 ((r.Stations.length : Nat) : Int)),(20,i6 zz.1)] ∧ Ctx G (.box b_2 (catc [.slice r_People_p r.People.length r_People_c,.slice r_Stations_p r.Stations.length r_Stations_c] 144 encI_i64 zz.2 []) 181::.box b_1 [.slice r_People_p r.People.length r_People_c,.slice r_Stations_p r.Stations.length r_Stations_c] 78::Lf) w)
  have hr9 : ∀ (zz : Int × (Nat → Int)) a w,x9 = .go zz → S9 zz a w → K7 a w := by
   rintro ⟨x,x_1⟩ a w rfl ⟨hf,hc⟩
   replace hF := exK_go hF
   refine h7 _ _ ?_
   refine wp_seq_k fun K10 h10 => cReg ?_
   refine stP hf rfl rfl rfl (pM rfl) fun a hf => stP hf rfl rfl rfl (pA rfl) fun a hf => stP hf rfl rfl rfl (pA rfl) fun a hf => cNil ?_
   refine h10 _ _ ?_
   refine wp_ret ?_
   obtain rfl := sj hF
   replace hc := hc.drop k1
   exact fnOut2 (by simp) rfl Tryz.results105 hf hc (show look _ 2 = _ from rfl) (show look _ 3 = _ from rfl) ⟨b_2,rfl,hc⟩
  have ho9 : ∀ r,x9 = .out r → r = res := by
   rintro r rfl
   exact sj hF
  refine cLoop N (loopW (S := S9) (x := x9) ?_ N (0,(fun _ => 0)) _ _ ⟨hf.kp rfl,hc⟩ hx9)
  clear hF hf hc
  rintro ⟨x,x_1⟩ st9 a w KB9 ⟨hf,hc⟩ hF hfin9 hK9
  unfold crew_opened_b9 at hF
  refine wp_seq_k fun K11 h11 => cReg ?_
  refine stP hf rfl rfl rfl (pLt rfl rfl) fun a hf => cNil ?_
  refine h11 _ _ ?_
  refine wp_seq_k fun K12 h12 => cCond (b := (decide (x < ((r.Stations.length : Nat) : Int)))) hf rfl (fun hb => ?_) (fun hb => ?_)
  ·replace hF := condT hb hF
   clear hb
   refine wp_skip ?_
   refine h12 _ _ ?_
   refine wp_seq_k fun K13 h13 => wp_block ?_
   refine wp_seq_k fun K14 h14 => cReg ?_
   refine stP hf rfl rfl rfl (pM rfl) fun a hf => ?_
   obtain ⟨e_1,he_1,hF⟩ := bnd_some hF
   obtain ⟨b_3,o,hd,qa,qp,qr⟩ := h_r_Stations.atm he_1
   refine stP hf rfl rfl rfl (pIA Tryz.underlying76 sz_101 rfl rfl qa) fun a hf => stE hf hc rfl rfl rfl (eLdN (vs := [i6 e_1.Places,.slice hd.1 e_1.Order.length hd.2]) ag_101 rfl rfl (cells_pc qp (n := 2) (o' := 0) rfl)) fun a w hf hc => stAl (cs := [i6 0,.slice none 0 0]) hf hc rfl rfl zr_101 rfl fun b_4 a w hf hc => stP hf rfl rfl rfl (pA rfl) fun a hf => stSt (vs := [i6 e_1.Places,.slice hd.1 e_1.Order.length hd.2]) hf hc rfl rfl rfl rfl sz_101 rfl rfl u0 fun w hc => cNil ?_
   refine h14 _ _ ?_
   refine wp_seq_k fun K15 h15 => cReg ?_
   refine stP hf rfl rfl rfl (pFA fa_78_0 rfl) fun a hf => stE hf hc rfl rfl rfl (eLd1 sc_75 rfl (cell_box m2 rfl)) fun a w hf hc => stP hf rfl rfl rfl (pLenS Tryz.underlying75 rfl) fun a hf => stP hf rfl rfl rfl (pM rfl) fun a hf => cNil ?_
   refine h15 _ _ ?_
   refine wp_thenK fun K16 h16 => wp_block ?_
   obtain ⟨x17,hx17,hF⟩ := bnd_some hF
   let S17 : (Int × (Nat → Int)) → Act → World → Prop := (fun (zz : Int × (Nat → Int)) a w => Has 45 a [(1,pq b_1),(5,pq b_2),(6,i6 x),(7,pq b_4),(18,.slice r_Stations_p r.Stations.length r_Stations_c),(19,i6 ((r.Stations.length : Nat) : Int)),(20,i6 x),(27,i6 ((r.People.length : Nat) : Int)),(28,i6 zz.1)] ∧ Ctx G (.box b_4 [i6 e_1.Places,.slice hd.1 e_1.Order.length hd.2] 101::.box b_2 (catc [.slice r_People_p r.People.length r_People_c,.slice r_Stations_p r.Stations.length r_Stations_c] 144 encI_i64 zz.2 []) 181::.box b_1 [.slice r_People_p r.People.length r_People_c,.slice r_Stations_p r.Stations.length r_Stations_c] 78::Lf) w)
   have hr17 : ∀ (zz : Int × (Nat → Int)) a w,x17 = .go zz → S17 zz a w → K16 a w := by
    rintro ⟨x_2,x_3⟩ a w rfl ⟨hf,hc⟩
    replace hF := exK_go hF
    refine h16 _ _ ?_
    refine h13 _ _ ?_
    refine cReg ?_
    refine stP hf rfl rfl rfl (pAdd rfl rfl) fun a hf => stP hf rfl rfl rfl (pM rfl) fun a hf => cNil ?_
    replace hc := hc.drop k0
    exact hK9 (W (x + 1),x_3) _ _ (sj hF).symm ⟨hf.kp rfl,hc⟩
   have ho17 : ∀ r,x17 = .out r → r = st9 := by
    rintro r rfl
    exact sj hF
   refine cLoop N (loopW (S := S17) (x := x17) ?_ N (0,x_1) _ _ ⟨hf.kp rfl,hc⟩ hx17)
   clear hF hf hc
   rintro ⟨x_2,x_3⟩ st17 a w KB17 ⟨hf,hc⟩ hF hfin17 hK17
   unfold crew_opened_b17 at hF
   refine wp_seq_k fun K18 h18 => cReg ?_
   refine stP hf rfl rfl rfl (pLt rfl rfl) fun a hf => cNil ?_
   refine h18 _ _ ?_
   refine wp_seq_k fun K19 h19 => cCond (b := (decide (x_2 < ((r.People.length : Nat) : Int)))) hf rfl (fun hb => ?_) (fun hb => ?_)
   ·replace hF := condT hb hF
    clear hb
    refine wp_skip ?_
    refine h19 _ _ ?_
    refine wp_seq_k fun K20 h20 => wp_block ?_
    refine wp_seq_k fun K21 h21 => cReg ?_
    refine stP hf rfl rfl rfl (pM rfl) fun a hf => stP hf rfl rfl rfl (pA rfl) fun a hf => cNil ?_
    refine h21 _ _ ?_
    obtain ⟨r_1,hr_1,hF⟩ := bnd_some hF
    obtain ⟨un,hun,hF⟩ := bnd_some hF
    obtain ⟨un_1,hun_1,hF⟩ := bnd_some hF
    refine regionE (fun θ => [⟨none,none,1,pq b_1⟩,⟨none,none,5,pq b_2⟩,⟨none,none,6,i6 x⟩,⟨none,none,7,pq b_4⟩,⟨none,none,8,i6 x_2⟩,⟨none,none,18,.slice r_Stations_p r.Stations.length r_Stations_c⟩,⟨none,none,19,i6 ((r.Stations.length : Nat) : Int)⟩,⟨none,none,20,i6 x⟩,⟨none,none,27,i6 ((r.People.length : Nat) : Int)⟩,⟨none,none,28,i6 x_2⟩,⟨some 0,none,31,pq b_2⟩,⟨some 1,none,32,i6 x⟩,⟨some 2,none,33,i6 x_2⟩,⟨some 3,none,34,.pointer (some ⟨b_4,1,none⟩)⟩,⟨some 4,none,35,.slice hd.1 e_1.Order.length hd.2⟩,⟨some 5,none,36,i6 x_2⟩,⟨some 6,none,37,i6 r_1⟩,⟨some 7,none,38,pq b_2⟩,⟨some 8,none,39,.pointer (some ⟨b_2,2,none⟩)⟩,⟨some 9,none,40,.pointer (some ⟨b_2,2 + x.toNat * 12,none⟩)⟩,⟨some 10,none,41,.pointer (some ⟨b_2,2 + (x * 12 + x_2).toNat * 1,none⟩)⟩]) (fun E θ => .box b_4 [i6 e_1.Places,.slice hd.1 e_1.Order.length hd.2] 101::(bif E 11 then .box b_2 (catc [.slice r_People_p r.People.length r_People_c,.slice r_Stations_p r.Stations.length r_Stations_c] 144 encI_i64 (setF x_3 (x * 12 + x_2).toNat r_1) []) 181 else .box b_2 (catc [.slice r_People_p r.People.length r_People_c,.slice r_Stations_p r.Stations.length r_Stations_c] 144 encI_i64 x_3 []) 181)::.box b_1 [.slice r_People_p r.People.length r_People_c,.slice r_Stations_p r.Stations.length r_Stations_c] 78::Lf) [] (fun a w => Has 45 a [(1,pq b_1),(5,pq b_2),(6,i6 x),(7,pq b_4),(18,.slice r_Stations_p r.Stations.length r_Stations_c),(19,i6 ((r.Stations.length : Nat) : Int)),(20,i6 x),(27,i6 ((r.People.length : Nat) : Int)),(28,i6 x_2)] ∧ Ctx G (.box b_4 [i6 e_1.Places,.slice hd.1 e_1.Order.length hd.2] 101::.box b_2 (catc [.slice r_People_p r.People.length r_People_c,.slice r_Stations_p r.Stations.length r_Stations_c] 144 encI_i64 (setF x_3 (x * 12 + x_2).toNat r_1) []) 181::.box b_1 [.slice r_People_p r.People.length r_People_c,.slice r_Stations_p r.Stations.length r_Stations_c] 78::Lf) w) follows_mx (by kernel_rfl) (by kernel_rfl) (HasE.of hf ⟨rfl,rfl,rfl,rfl,rfl,rfl,rfl,rfl,rfl,rfl,trivial,trivial,trivial,trivial,trivial,trivial,trivial,trivial,trivial,trivial,trivial,trivial⟩) hc ⟨?_,?_,?_,?_,?_,?_,?_,?_,?_,?_,?_,?_,trivial⟩ ?_ ?_
    ·intro E θ a w hD hi hp he hc
     have hf := he.h0
     replace hf := hf.more he 1 rfl onT
     refine stP hf rfl rfl rfl (pM rfl) fun a hf => cNil ?_
     refine xThenN ?_
     intro ds u hau
     refine ⟨θ,he.put0 hi hau hf rfl 10 rfl rfl,?_⟩
     exact hc
    ·intro E θ a w hD hi hp he hc
     have hf := he.h0
     replace hf := hf.more he 2 rfl onT
     refine stP hf rfl rfl rfl (pM rfl) fun a hf => cNil ?_
     refine xThenN ?_
     intro ds u hau
     refine ⟨θ,he.put0 hi hau hf rfl 11 rfl rfl,?_⟩
     exact hc
    ·intro E θ a w hD hi hp he hc
     have hf := he.h0
     replace hf := hf.more he 4 rfl onT
     refine stP hf rfl rfl rfl (pM rfl) fun a hf => cNil ?_
     refine xThenN ?_
     intro ds u hau
     refine ⟨θ,he.put0 hi hau hf rfl 12 rfl rfl,?_⟩
     exact hc
    ·intro E θ a w hD hi hp he hc
     have hf := he.h0
     replace hf := hf.more he 3 rfl onT
     refine stP hf rfl rfl rfl (pFA fa_101_1 rfl) fun a hf => cNil ?_
     refine xThenN ?_
     intro ds u hau
     refine ⟨θ,he.put0 hi hau hf rfl 13 rfl rfl,?_⟩
     exact hc
    ·intro E θ a w hD hi hp he hc
     have e3 := hp.of (k := 3) rfl
     have hf := he.h0
     replace hf := hf.more he 13 rfl (onP e3)
     refine stE hf hc rfl rfl rfl (eLd1 sc_25 rfl (cell_box m0 rfl)) fun a w hf hc => cNil ?_
     refine xThenN ?_
     intro ds u hau
     refine ⟨θ,he.put0 hi hau hf rfl 14 rfl rfl,?_⟩
     exact hc
    ·intro E θ a w hD hi hp he hc
     have hf := he.h0
     replace hf := hf.more he 4 rfl onT
     refine stP hf rfl rfl rfl (pM rfl) fun a hf => cNil ?_
     refine xThenN ?_
     intro ds u hau
     refine ⟨θ,he.put0 hi hau hf rfl 15 rfl rfl,?_⟩
     exact hc
    ·intro E θ a w hD hi hp he hc
     have e4 := hp.of (k := 4) rfl
     have e5 := hp.of (k := 5) rfl
     have hf := he.h0
     replace hf := hf.more he 14 rfl (onP e4)
     replace hf := hf.more he 15 rfl (onP e5)
     refine stE hf hc rfl rfl rfl (eC (v := i6 r_1) (vs := [.slice hd.1 e_1.Order.length hd.2,i6 x_2]) (caps := []) en_114 rfl rfl rfl rfl (fun w hc => slices_Index_Lint_int_ok e_1.Order x_2 qr hc hr_1)) fun a w hf hc => cNil ?_
     refine xThenN ?_
     intro ds u hau
     refine ⟨θ,he.put0 hi hau hf rfl 16 rfl rfl,?_⟩
     exact hc
    ·intro E θ a w hD hi hp he hc
     have e0 := hp.of (k := 0) rfl
     have hf := he.h0
     replace hf := hf.more he 10 rfl (onP e0)
     refine stP hf rfl rfl rfl (pNC rfl) fun a hf => cNil ?_
     refine xThenN ?_
     intro ds u hau
     refine ⟨θ,he.put0 hi hau hf rfl 17 rfl rfl,?_⟩
     exact hc
    ·intro E θ a w hD hi hp he hc
     have e7 := hp.of (k := 7) rfl
     have hf := he.h0
     replace hf := hf.more he 17 rfl (onP e7)
     refine stP hf rfl rfl rfl (pFA fa_181_1 rfl) fun a hf => cNil ?_
     refine xThenN ?_
     intro ds u hau
     refine ⟨θ,he.put0 hi hau hf rfl 18 rfl rfl,?_⟩
     exact hc
    ·intro E θ a w hD hi hp he hc
     have e1 := hp.of (k := 1) rfl
     have e8 := hp.of (k := 8) rfl
     have hf := he.h0
     replace hf := hf.more he 11 rfl (onP e1)
     replace hf := hf.more he 18 rfl (onP e8)
     refine stP hf rfl rfl rfl (pIAA Tryz.underlying179 sz_178 rfl rfl (inR_spec hun).1 (inR_spec hun).2) fun a hf => cNil ?_
     refine xThenN ?_
     intro ds u hau
     refine ⟨θ,he.put0 hi hau hf rfl 19 rfl rfl,?_⟩
     exact hc
    ·intro E θ a w hD hi hp he hc
     have e2 := hp.of (k := 2) rfl
     have e9 := hp.of (k := 9) rfl
     have hf := he.h0
     replace hf := hf.more he 12 rfl (onP e2)
     replace hf := hf.more he 19 rfl (onP e9)
     refine stP hf rfl rfl rfl (Pu.cast (pIAA Tryz.underlying178 sz_3 rfl rfl (inR_spec hun_1).1 (inR_spec hun_1).2) (congrArg (fun k => Value.pointer (some ⟨b_2,k,none⟩)) (flat_off (M := 12) (2) hun hun_1 rfl))) fun a hf => cNil ?_
     refine xThenN ?_
     intro ds u hau
     refine ⟨θ,he.put0 hi hau hf rfl 20 rfl rfl,?_⟩
     exact hc
    ·intro E θ a w hD hi hp he hc
     have e6 := hp.of (k := 6) rfl
     have e10 := hp.of (k := 10) rfl
     try dsimp only at hc
     rw [hi] at hc
     have hf := he.h0
     replace hf := hf.more he 16 rfl (onP e6)
     replace hf := hf.more he 20 rfl (onP e10)
     refine stAr (vs := [i6 r_1]) (o' := 0) (z := r_1) hf hc rfl rfl rfl rfl sz_3 rfl (fun x => (one_encI_i64 x).1) rfl (inR2 hun hun_1 rfl) rfl rfl u1 fun w hc => cNil ?_
     refine xThenN ?_
     intro ds u hau
     refine ⟨θ,he.stay0 hi hau hf rfl,?_⟩
     try dsimp only
     rw [updE_self E 11]
     exact hc
    ·intro E θ a w hall he hc
     have hf := he.h0
     have e11 := hall 11 rfl
     replace hf := hf.more he 9 rfl (onT)
     replace hf := hf.more he 8 rfl (onT)
     replace hf := hf.more he 7 rfl (onT)
     replace hf := hf.more he 6 rfl (onT)
     replace hf := hf.more he 5 rfl (onT)
     replace hf := hf.more he 3 rfl (onT)
     replace hf := hf.more he 2 rfl (onT)
     replace hf := hf.more he 1 rfl (onT)
     replace hf := hf.more he 0 rfl (onT)
     try dsimp only at hc
     rw [e11] at hc
     exact ⟨hf.kp rfl,hc⟩
    rintro a w ⟨hf,hc⟩
    refine h20 _ _ ?_
    refine cReg ?_
    refine stP hf rfl rfl rfl (pAdd rfl rfl) fun a hf => stP hf rfl rfl rfl (pM rfl) fun a hf => cNil ?_
    exact hK17 (W (x_2 + 1),(setF x_3 (x * 12 + x_2).toNat r_1)) _ _ (sj hF).symm ⟨hf.kp rfl,hc⟩
   ·replace hF := condF hb hF
    clear hb
    refine wp_exit ?_
    refine xThen ?_
    refine xThen ?_
    have he := sj hF
    rw [← he] at hfin17
    refine cHit ?_
    exact hr17 _ _ _ hfin17 ⟨hf.kp rfl,hc⟩
  ·replace hF := condF hb hF
   clear hb
   refine wp_exit ?_
   refine xThen ?_
   refine xThen ?_
   have he := sj hF
   rw [← he] at hfin9
   refine cHit ?_
   exact hr9 _ _ _ hfin9 ⟨hf.kp rfl,hc⟩

def math_bits_Mul (N : Nat) (x : Int) (y : Int) : Option (Int × Int) :=
 mulU x y
/-! ### Walks of the library -/
end Go.Nilo
namespace Go.Proofs
open Go.Shelf
def Tryz.lays189_ren : Go.Shelf.Ren := ⟨fun | 189 => 161 | 125 => 187 | 257 => 186 | 128 => 210 | 129 => 211 | 294 => 201 | 295 => 202 | 296 => 203 | 297 => 204 | 298 => 205 | 299 => 206 | 216 => 207 | 300 => 208 | 301 => 209 | 328 => 214 | 329 => 215 | 330 => 216 | 331 => 217 | 332 => 218 | 215 => 212 | 343 => 219 | n => n,fun | 28 => 25 | 3 => 3 | 46 => 224 | 0 => 0 | 51 => 235 | 53 => 238 | 4 => 4 | 183 => 247 | 182 => 246 | 131 => 251 | 5 => 5 | 9 => 9 | 218 => 256 | 222 => 127 | 228 => 261 | 229 => 262 | n => n,fun | n => n⟩
theorem Tryz.lays189 : Go.Proofs.Lays.n189 Tryz.prog Tryz.lays189_ren := {
 mixed := by kernel_rfl
 f125 := Tryz.func187.trans (congrArg some (by kernel_rfl))
 f128 := Tryz.func210.trans (congrArg some (by kernel_rfl))
 f129 := Tryz.func211.trans (congrArg some (by kernel_rfl))
 f189 := Tryz.func161.trans (congrArg some (by kernel_rfl))
 f215 := Tryz.func212.trans (congrArg some (by kernel_rfl))
 f216 := Tryz.func207.trans (congrArg some (by kernel_rfl))
 f257 := Tryz.func186.trans (congrArg some (by kernel_rfl))
 f294 := Tryz.func201.trans (congrArg some (by kernel_rfl))
 f295 := Tryz.func202.trans (congrArg some (by kernel_rfl))
 f296 := Tryz.func203.trans (congrArg some (by kernel_rfl))
 f297 := Tryz.func204.trans (congrArg some (by kernel_rfl))
 f298 := Tryz.func205.trans (congrArg some (by kernel_rfl))
 f299 := Tryz.func206.trans (congrArg some (by kernel_rfl))
 f300 := Tryz.func208.trans (congrArg some (by kernel_rfl))
 f301 := Tryz.func209.trans (congrArg some (by kernel_rfl))
 f328 := Tryz.func214.trans (congrArg some (by kernel_rfl))
 f329 := Tryz.func215.trans (congrArg some (by kernel_rfl))
 f330 := Tryz.func216.trans (congrArg some (by kernel_rfl))
 f331 := Tryz.func217.trans (congrArg some (by kernel_rfl))
 f332 := Tryz.func218.trans (congrArg some (by kernel_rfl))
 f343 := Tryz.func219.trans (congrArg some (by kernel_rfl))
 t0 := Tryz.underlying0
 a0 := Tryz.isAgg0
 z0 := Tryz.sizeOf0
 v0 := Tryz.zeroValue0
 t3 := Tryz.underlying3
 a3 := Tryz.isAgg3
 z3 := Tryz.sizeOf3
 v3 := Tryz.zeroValue3
 t4 := Tryz.underlying4
 a4 := Tryz.isAgg4
 z4 := Tryz.sizeOf4
 v4 := Tryz.zeroValue4
 t5 := Tryz.underlying5
 a5 := Tryz.isAgg5
 z5 := Tryz.sizeOf5
 v5 := Tryz.zeroValue5
 t9 := Tryz.underlying9
 a9 := Tryz.isAgg9
 z9 := Tryz.sizeOf9
 v9 := Tryz.zeroValue9
 t28 := Tryz.underlying25
 a28 := Tryz.isAgg25
 z28 := Tryz.sizeOf25
 v28 := Tryz.zeroValue25
 t46 := Tryz.underlying224
 a46 := Tryz.isAgg224
 z46 := Tryz.sizeOf224
 v46 := Tryz.zeroValue224
 t51 := Tryz.underlying235
 a51 := Tryz.isAgg235
 z51 := Tryz.sizeOf235
 v51 := Tryz.zeroValue235
 t53 := Tryz.underlying238
 a53 := Tryz.isAgg238
 z53 := Tryz.sizeOf238
 v53 := Tryz.zeroValue238
 t131 := Tryz.underlying251
 a131 := Tryz.isAgg251
 z131 := Tryz.sizeOf251
 v131 := Tryz.zeroValue251
 t182 := Tryz.underlying246
 a182 := Tryz.isAgg246
 z182 := Tryz.sizeOf246
 v182 := Tryz.zeroValue246
 t183 := Tryz.underlying247
 a183 := Tryz.isAgg247
 z183 := Tryz.sizeOf247
 v183 := Tryz.zeroValue247
 t218 := Tryz.underlying256
 a218 := Tryz.isAgg256
 z218 := Tryz.sizeOf256
 v218 := Tryz.zeroValue256
 t222 := Tryz.underlying127
 a222 := Tryz.isAgg127
 z222 := Tryz.sizeOf127
 v222 := Tryz.zeroValue127
 t228 := Tryz.underlying261
 a228 := Tryz.isAgg261
 z228 := Tryz.sizeOf261
 v228 := Tryz.zeroValue261
 t229 := Tryz.underlying262
 a229 := Tryz.isAgg262
 z229 := Tryz.sizeOf262
 v229 := Tryz.zeroValue262 }
def Tryz.lays20_ren : Go.Shelf.Ren := ⟨fun | 20 => 162 | n => n,fun | 22 => 25 | 3 => 3 | 4 => 4 | 0 => 0 | n => n,fun | n => n⟩
theorem Tryz.lays20 : Go.Proofs.Lays2.n20 Tryz.prog Tryz.lays20_ren := {
 mixed := by kernel_rfl
 f20 := Tryz.func162.trans (congrArg some (by kernel_rfl))
 t0 := Tryz.underlying0
 a0 := Tryz.isAgg0
 z0 := Tryz.sizeOf0
 v0 := Tryz.zeroValue0
 t3 := Tryz.underlying3
 a3 := Tryz.isAgg3
 z3 := Tryz.sizeOf3
 v3 := Tryz.zeroValue3
 t4 := Tryz.underlying4
 a4 := Tryz.isAgg4
 z4 := Tryz.sizeOf4
 v4 := Tryz.zeroValue4
 t22 := Tryz.underlying25
 a22 := Tryz.isAgg25
 z22 := Tryz.sizeOf25
 v22 := Tryz.zeroValue25
 i3 := by kernel_rfl }
def Tryz.lays212_ren : Go.Shelf.Ren := ⟨fun | 212 => 166 | 263 => 189 | 264 => 190 | n => n,fun | 46 => 224 | 51 => 235 | 146 => 236 | 53 => 238 | 148 => 239 | n => n,fun | n => n⟩
theorem Tryz.lays212 : Go.Proofs.Lays.n212 Tryz.prog Tryz.lays212_ren := {
 mixed := by kernel_rfl
 f212 := Tryz.func166.trans (congrArg some (by kernel_rfl))
 f263 := Tryz.func189.trans (congrArg some (by kernel_rfl))
 f264 := Tryz.func190.trans (congrArg some (by kernel_rfl))
 t46 := Tryz.underlying224
 a46 := Tryz.isAgg224
 z46 := Tryz.sizeOf224
 v46 := Tryz.zeroValue224
 t51 := Tryz.underlying235
 a51 := Tryz.isAgg235
 z51 := Tryz.sizeOf235
 v51 := Tryz.zeroValue235
 t53 := Tryz.underlying238
 a53 := Tryz.isAgg238
 z53 := Tryz.sizeOf238
 v53 := Tryz.zeroValue238
 t146 := Tryz.underlying236
 a146 := Tryz.isAgg236
 z146 := Tryz.sizeOf236
 v146 := Tryz.zeroValue236
 t148 := Tryz.underlying239
 a148 := Tryz.isAgg239
 z148 := Tryz.sizeOf239
 v148 := Tryz.zeroValue239 }
end Go.Proofs
namespace Go.Nilo
open Go.Proofs

theorem math_bits_Mul_ok {N : Nat} {G : Pers} {Lf : List Ent} {w : World} (x : Int) (y : Int)   (hc : Ctx G (Lf) w) {res : Int × Int} (hF : math_bits_Mul N x y = some res) : Calls Tryz.prog 166 #[.int .u64 x,.int .u64 y] w (fun e w => e = .returned (.tuple #[.int .u64 res.1,.int .u64 res.2]) ∧ Ctx G (Lf) w) := by
 unfold math_bits_Mul at hF
 exact mul_ctx (fun x y h1 h2 w => Go.Proofs.Any.bits_Mul Go.Proofs.Tryz.lays212 x y h1 h2 w) hc hF

end Go.Nilo
