/-
 What functions of the Go text compute, as plain functions, and that they do, part 1 of 4. Conditions: what each theorem names.
-/
import Derived.Test.YtpfmkhhhamdpeaaGreatNl29
import Derived.Test.YtpfmkhhhamdpeaaGreatProg
set_option linter.unusedVariables false
set_option linter.unusedSimpArgs false
set_option maxRecDepth 100000
set_option maxHeartbeats 4000000
namespace Go.Nilo
open Go.Proofs


structure kit_Stream where
 bytes : List Int
 used : Int
 mix : Int

structure api_Span where
 Lo : Int
 Hi : Int
@[reducible] def enc_api_Span (x : api_Span) : List Value := [i6 x.Lo,i6 x.Hi]
theorem one_enc_api_Span : ∀ x,(enc_api_Span x).length = 2 ∧ ones (enc_api_Span x) = true := fun _ => ⟨rfl,rfl⟩

structure crew_Visit where
 Way : api_Span
 Work : api_Span
 Open : Int
 Close : Int
@[reducible] def enc_crew_Visit (x : crew_Visit) : List Value := [i6 x.Way.Lo,i6 x.Way.Hi,i6 x.Work.Lo,i6 x.Work.Hi,i6 x.Open,i6 x.Close]
theorem one_enc_crew_Visit : ∀ x,(enc_crew_Visit x).length = 6 ∧ ones (enc_crew_Visit x) = true := fun _ => ⟨rfl,rfl⟩

structure gauge_Point where
 At : Int
 Depth : Int
 Cost : Int
@[reducible] def enc_gauge_Point (x : gauge_Point) : List Value := [i6 x.At,i6 x.Depth,i6 x.Cost]
theorem one_enc_gauge_Point : ∀ x,(enc_gauge_Point x).length = 3 ∧ ones (enc_gauge_Point x) = true := fun _ => ⟨rfl,rfl⟩

structure gauge_Site where
 Left : Int
 Right : Int
 Gap : Int
 Step_ : Int
 Points : List gauge_Point

structure gauge_spent where
 cost : Int
 points : Int
@[reducible] def enc_gauge_spent (x : gauge_spent) : List Value := [i6 x.cost,i6 x.points]
theorem one_enc_gauge_spent : ∀ x,(enc_gauge_spent x).length = 2 ∧ ones (enc_gauge_spent x) = true := fun _ => ⟨rfl,rfl⟩

structure gauge_work where
 Site : gauge_Site
 least : Nat → gauge_spent
 from_ : Int → Option Int

structure crew_Station where
 Places : Int
 Order : List Int

structure crew_Roster where
 People : List (List Int)
 Stations : List crew_Station

structure crew_work where
 Roster : crew_Roster
 rank : Nat → Int

structure crew_Refusal where
 Person : Int
 Station : Int
@[reducible] def enc_crew_Refusal (x : crew_Refusal) : List Value := [i6 x.Person,i6 x.Station]
theorem one_enc_crew_Refusal : ∀ x,(enc_crew_Refusal x).length = 2 ∧ ones (enc_crew_Refusal x) = true := fun _ => ⟨rfl,rfl⟩

structure crew_Ride where
 From : Int
 Long : Int
 Weight : api_Span
@[reducible] def enc_crew_Ride (x : crew_Ride) : List Value := [i6 x.From,i6 x.Long,i6 x.Weight.Lo,i6 x.Weight.Hi]
theorem one_enc_crew_Ride : ∀ x,(enc_crew_Ride x).length = 4 ∧ ones (enc_crew_Ride x) = true := fun _ => ⟨rfl,rfl⟩

structure crew_Cable where
 Car : Int
 Wide : Int
 Sag : Int
 Most : Int
 Rides : List crew_Ride

structure crew_Pay where
 Rate : Int
 Normal : Int
 Extra : Int
@[reducible] def enc_crew_Pay (x : crew_Pay) : List Value := [i6 x.Rate,i6 x.Normal,i6 x.Extra]
theorem one_enc_crew_Pay : ∀ x,(enc_crew_Pay x).length = 3 ∧ ones (enc_crew_Pay x) = true := fun _ => ⟨rfl,rfl⟩

theorem bt_165 : builtInfo Tryz.prog 165 = some ([.slice none 0 0,i6 0,i6 0],[(0,1),(1,1),(2,1)]) := by kernel_rfl

theorem en_42 : En Tryz.prog 42 := En.of Tryz.func42 (by kernel_rfl) (by kernel_rfl)

theorem fa_165_0 : ∀ (q : Addr) (w : World),(Instr.fieldAt 165 (.pointer (some q)) 0).run Tryz.prog w = .ok (.pointer (some (q.add 0))) w := fun _ _ => by kernel_rfl

theorem sc_74 : ScT Tryz.prog 74 := ⟨⟨_,Tryz.underlying74,trivial⟩,by kernel_rfl⟩

theorem fa_165_1 : ∀ (q : Addr) (w : World),(Instr.fieldAt 165 (.pointer (some q)) 1).run Tryz.prog w = .ok (.pointer (some (q.add 1))) w := fun _ _ => by kernel_rfl

theorem sc_3 : ScT Tryz.prog 3 := ⟨⟨_,Tryz.underlying3,trivial⟩,by kernel_rfl⟩

theorem sz_5 : (Tryz.prog.info? 5).map (·.size) = some 1 := by kernel_rfl

theorem sc_5 : ScT Tryz.prog 5 := ⟨⟨_,Tryz.underlying5,trivial⟩,by kernel_rfl⟩

theorem follows_mx : Tryz.prog.follows .mixedOrders = true := by kernel_rfl

theorem fa_165_2 : ∀ (q : Addr) (w : World),(Instr.fieldAt 165 (.pointer (some q)) 2).run Tryz.prog w = .ok (.pointer (some (q.add 2))) w := fun _ _ => by kernel_rfl

theorem sz_3 : (Tryz.prog.info? 3).map (·.size) = some 1 := by kernel_rfl

theorem en_45 : En Tryz.prog 45 := En.of Tryz.func45 (by kernel_rfl) (by kernel_rfl)

theorem en_50 : En Tryz.prog 50 := En.of Tryz.func50 (by kernel_rfl) (by kernel_rfl)

theorem bt_31 : builtInfo Tryz.prog 31 = some ([i6 0,i6 0,i6 0,i6 0,i6 0,i6 0],[(0,2),(2,2),(4,1),(5,1)]) := by kernel_rfl

theorem zr_31 : (Tryz.prog.info? 31).map (·.zero) = some (some (.agg #[i6 0,i6 0,i6 0,i6 0,i6 0,i6 0])) := by kernel_rfl

theorem sz_31 : (Tryz.prog.info? 31).map (·.size) = some 6 := by kernel_rfl

theorem fa_31_0 : ∀ (q : Addr) (w : World),(Instr.fieldAt 31 (.pointer (some q)) 0).run Tryz.prog w = .ok (.pointer (some (q.add 0))) w := fun _ _ => by kernel_rfl

theorem fa_29_0 : ∀ (q : Addr) (w : World),(Instr.fieldAt 29 (.pointer (some q)) 0).run Tryz.prog w = .ok (.pointer (some (q.add 0))) w := fun _ _ => by kernel_rfl

theorem fa_29_1 : ∀ (q : Addr) (w : World),(Instr.fieldAt 29 (.pointer (some q)) 1).run Tryz.prog w = .ok (.pointer (some (q.add 1))) w := fun _ _ => by kernel_rfl

theorem fa_31_1 : ∀ (q : Addr) (w : World),(Instr.fieldAt 31 (.pointer (some q)) 1).run Tryz.prog w = .ok (.pointer (some (q.add 2))) w := fun _ _ => by kernel_rfl

theorem fa_31_2 : ∀ (q : Addr) (w : World),(Instr.fieldAt 31 (.pointer (some q)) 2).run Tryz.prog w = .ok (.pointer (some (q.add 4))) w := fun _ _ => by kernel_rfl

theorem fa_31_3 : ∀ (q : Addr) (w : World),(Instr.fieldAt 31 (.pointer (some q)) 3).run Tryz.prog w = .ok (.pointer (some (q.add 5))) w := fun _ _ => by kernel_rfl

theorem ag_31 : AggT Tryz.prog 31 6 := ⟨⟨_,Tryz.underlying31,trivial⟩,by kernel_rfl⟩

theorem sl_22 : SlT Tryz.prog 22 31 6 48 (.agg #[i6 0,i6 0,i6 0,i6 0,i6 0,i6 0]) := SlT.of Tryz.underlying22 (by kernel_rfl) (by decide)

theorem en_49 : En Tryz.prog 49 := En.of Tryz.func49 (by kernel_rfl) (by kernel_rfl)

theorem en_16 : En Tryz.prog 16 := En.of Tryz.func16 (by kernel_rfl) (by kernel_rfl)

theorem zr_136 : (Tryz.prog.info? 136).map (·.zero) = some (some (.agg #[i6 0,i6 0,i6 0,i6 0,.slice none 0 0])) := by kernel_rfl

theorem bt_136 : builtInfo Tryz.prog 136 = some ([i6 0,i6 0,i6 0,i6 0,.slice none 0 0],[(0,1),(1,1),(2,1),(3,1),(4,1)]) := by kernel_rfl

theorem sz_136 : (Tryz.prog.info? 136).map (·.size) = some 5 := by kernel_rfl

theorem fa_136_0 : ∀ (q : Addr) (w : World),(Instr.fieldAt 136 (.pointer (some q)) 0).run Tryz.prog w = .ok (.pointer (some (q.add 0))) w := fun _ _ => by kernel_rfl

theorem fa_136_4 : ∀ (q : Addr) (w : World),(Instr.fieldAt 136 (.pointer (some q)) 4).run Tryz.prog w = .ok (.pointer (some (q.add 4))) w := fun _ _ => by kernel_rfl

theorem sc_134 : ScT Tryz.prog 134 := ⟨⟨_,Tryz.underlying134,trivial⟩,by kernel_rfl⟩

theorem bt_202 : builtInfo Tryz.prog 202 = some ([i6 0,i6 0,i6 0],[(0,1),(1,1),(2,1)]) := by kernel_rfl

theorem sl_134 : SlT Tryz.prog 134 202 3 24 (.agg #[i6 0,i6 0,i6 0]) := SlT.of Tryz.underlying134 (by kernel_rfl) (by decide)

theorem sz_134 : (Tryz.prog.info? 134).map (·.size) = some 1 := by kernel_rfl

theorem fa_136_1 : ∀ (q : Addr) (w : World),(Instr.fieldAt 136 (.pointer (some q)) 1).run Tryz.prog w = .ok (.pointer (some (q.add 1))) w := fun _ _ => by kernel_rfl

theorem ag_136 : AggT Tryz.prog 136 5 := ⟨⟨_,Tryz.underlying136,trivial⟩,by kernel_rfl⟩

theorem en_75 : En Tryz.prog 75 := En.of Tryz.func75 (by kernel_rfl) (by kernel_rfl)

theorem fa_136_2 : ∀ (q : Addr) (w : World),(Instr.fieldAt 136 (.pointer (some q)) 2).run Tryz.prog w = .ok (.pointer (some (q.add 2))) w := fun _ _ => by kernel_rfl

theorem fa_136_3 : ∀ (q : Addr) (w : World),(Instr.fieldAt 136 (.pointer (some q)) 3).run Tryz.prog w = .ok (.pointer (some (q.add 3))) w := fun _ _ => by kernel_rfl

theorem en_146 : En Tryz.prog 146 := En.of Tryz.func146 (by kernel_rfl) (by kernel_rfl)

theorem en_178 : En Tryz.prog 178 := En.of Tryz.func178 (by kernel_rfl) (by kernel_rfl)

theorem sz_202 : (Tryz.prog.info? 202).map (·.size) = some 3 := by kernel_rfl

theorem ag_202 : AggT Tryz.prog 202 3 := ⟨⟨_,Tryz.underlying202,trivial⟩,by kernel_rfl⟩

theorem sc_230 : ScT Tryz.prog 230 := ⟨⟨_,Tryz.underlying230,trivial⟩,by kernel_rfl⟩

theorem fa_202_0 : ∀ (q : Addr) (w : World),(Instr.fieldAt 202 (.pointer (some q)) 0).run Tryz.prog w = .ok (.pointer (some (q.add 0))) w := fun _ _ => by kernel_rfl

theorem fa_202_1 : ∀ (q : Addr) (w : World),(Instr.fieldAt 202 (.pointer (some q)) 1).run Tryz.prog w = .ok (.pointer (some (q.add 1))) w := fun _ _ => by kernel_rfl

theorem fa_202_2 : ∀ (q : Addr) (w : World),(Instr.fieldAt 202 (.pointer (some q)) 2).run Tryz.prog w = .ok (.pointer (some (q.add 2))) w := fun _ _ => by kernel_rfl

theorem en_180 : En Tryz.prog 180 := En.of Tryz.func180 (by kernel_rfl) (by kernel_rfl)

theorem en_199 : En Tryz.prog 199 := En.of Tryz.func199 (by kernel_rfl) (by kernel_rfl)

theorem en_213 : En Tryz.prog 213 := En.of Tryz.func213 (by kernel_rfl) (by kernel_rfl)

theorem en_198 : En Tryz.prog 198 := En.of Tryz.func198 (by kernel_rfl) (by kernel_rfl)

theorem en_179 : En Tryz.prog 179 := En.of Tryz.func179 (by kernel_rfl) (by kernel_rfl)

theorem en_181 : En Tryz.prog 181 := En.of Tryz.func181 (by kernel_rfl) (by kernel_rfl)

theorem en_147 : En Tryz.prog 147 := En.of Tryz.func147 (by kernel_rfl) (by kernel_rfl)

theorem en_143 : En Tryz.prog 143 := En.of Tryz.func143 (by kernel_rfl) (by kernel_rfl)

theorem bt_211 : builtInfo Tryz.prog 211 = some ((catc [i6 0,i6 0,i6 0,i6 0,.slice none 0 0] 32 enc_gauge_spent (fun _ => (⟨0,0⟩ : gauge_spent)) [.map none]),[(0,5),(5,64),(69,1)]) := by kernel_rfl

theorem zr_207 : (Tryz.prog.info? 207).map (·.zero) = some (some (.agg #[i6 0,i6 0])) := by kernel_rfl

theorem bt_207 : builtInfo Tryz.prog 207 = some ([i6 0,i6 0],[(0,1),(1,1)]) := by kernel_rfl

theorem sz_207 : (Tryz.prog.info? 207).map (·.size) = some 2 := by kernel_rfl

theorem ag_207 : AggT Tryz.prog 207 2 := ⟨⟨_,Tryz.underlying207,trivial⟩,by kernel_rfl⟩

theorem en_141 : En Tryz.prog 141 := En.of Tryz.func141 (by kernel_rfl) (by kernel_rfl)

theorem fa_211_1 : ∀ (q : Addr) (w : World),(Instr.fieldAt 211 (.pointer (some q)) 1).run Tryz.prog w = .ok (.pointer (some (q.add 5))) w := fun _ _ => by kernel_rfl

theorem zr_202 : (Tryz.prog.info? 202).map (·.zero) = some (some (.agg #[i6 0,i6 0,i6 0])) := by kernel_rfl

theorem fa_211_0 : ∀ (q : Addr) (w : World),(Instr.fieldAt 211 (.pointer (some q)) 0).run Tryz.prog w = .ok (.pointer (some (q.add 0))) w := fun _ _ => by kernel_rfl

theorem en_151 : En Tryz.prog 151 := En.of Tryz.func151 (by kernel_rfl) (by kernel_rfl)

theorem en_149 : En Tryz.prog 149 := En.of Tryz.func149 (by kernel_rfl) (by kernel_rfl)

theorem ge_207 : Tryz.prog.eqGuardType Tryz.prog.depth 207 = false := by kernel_rfl

theorem eqs_207 (x0 : Int) (x1 : Int) (y0 : Int) (y1 : Int) (w : World) : (Op.equalIn 10000 207 (.agg #[i6 x0,i6 x1]) (.agg #[i6 y0,i6 y1])).run Tryz.prog w = .ok (x0 == y0 && x1 == y1) w := by
 rw [run_equalIn_agg w 9999 207 _ _ (by kernel_rfl) (by kernel_rfl)]
 simp [Op.eqFields,part,go_sem]
 repeat' split
 all_goals simp_all

theorem fa_207_0 : ∀ (q : Addr) (w : World),(Instr.fieldAt 207 (.pointer (some q)) 0).run Tryz.prog w = .ok (.pointer (some (q.add 0))) w := fun _ _ => by kernel_rfl

theorem fa_207_1 : ∀ (q : Addr) (w : World),(Instr.fieldAt 207 (.pointer (some q)) 1).run Tryz.prog w = .ok (.pointer (some (q.add 1))) w := fun _ _ => by kernel_rfl

theorem en_212 : En Tryz.prog 212 := En.of Tryz.func212 (by kernel_rfl) (by kernel_rfl)

theorem en_197 : En Tryz.prog 197 := En.of Tryz.func197 (by kernel_rfl) (by kernel_rfl)

theorem sl_25 : SlT Tryz.prog 25 3 1 8 (i6 0) := SlT.of Tryz.underlying25 (by kernel_rfl) (by decide)

theorem en_196 : En Tryz.prog 196 := En.of Tryz.func196 (by kernel_rfl) (by kernel_rfl)

theorem fa_211_2 : ∀ (q : Addr) (w : World),(Instr.fieldAt 211 (.pointer (some q)) 2).run Tryz.prog w = .ok (.pointer (some (q.add 69))) w := fun _ _ => by kernel_rfl

theorem sc_209 : ScT Tryz.prog 209 := ⟨⟨_,Tryz.underlying209,trivial⟩,by kernel_rfl⟩

theorem zr_3 : (Tryz.prog.info? 3).map (·.zero) = some (some (i6 0)) := by kernel_rfl

theorem en_177 : En Tryz.prog 177 := En.of Tryz.func177 (by kernel_rfl) (by kernel_rfl)

theorem en_140 : En Tryz.prog 140 := En.of Tryz.func140 (by kernel_rfl) (by kernel_rfl)

theorem zr_203 : (Tryz.prog.info? 203).map (·.zero) = some (some (.pointer none)) := by kernel_rfl

theorem sz_203 : (Tryz.prog.info? 203).map (·.size) = some 1 := by kernel_rfl

theorem sc_203 : ScT Tryz.prog 203 := ⟨⟨_,Tryz.underlying203,trivial⟩,by kernel_rfl⟩

theorem zr_25 : (Tryz.prog.info? 25).map (·.zero) = some (some (.slice none 0 0)) := by kernel_rfl

theorem zr_213 : (Tryz.prog.info? 213).map (·.zero) = some (some (.nilFunc)) := by kernel_rfl

theorem sz_213 : (Tryz.prog.info? 213).map (·.size) = some 1 := by kernel_rfl

theorem sc_213 : ScT Tryz.prog 213 := ⟨⟨_,Tryz.underlying213,trivial⟩,by kernel_rfl⟩

theorem sc_25 : ScT Tryz.prog 25 := ⟨⟨_,Tryz.underlying25,trivial⟩,by kernel_rfl⟩

theorem sz_25 : (Tryz.prog.info? 25).map (·.size) = some 1 := by kernel_rfl

theorem en_142 : En Tryz.prog 142 := En.of Tryz.func142 (by kernel_rfl) (by kernel_rfl)

theorem en_76 : En Tryz.prog 76 := En.of Tryz.func76 (by kernel_rfl) (by kernel_rfl)

theorem en_17 : En Tryz.prog 17 := En.of Tryz.func17 (by kernel_rfl) (by kernel_rfl)

theorem en_77 : En Tryz.prog 77 := En.of Tryz.func77 (by kernel_rfl) (by kernel_rfl)

theorem sc_143 : ScT Tryz.prog 143 := ⟨⟨_,Tryz.underlying143,trivial⟩,by kernel_rfl⟩

theorem en_145 : En Tryz.prog 145 := En.of Tryz.func145 (by kernel_rfl) (by kernel_rfl)

theorem en_182 : En Tryz.prog 182 := En.of Tryz.func182 (by kernel_rfl) (by kernel_rfl)

theorem en_97 : En Tryz.prog 97 := En.of Tryz.func97 (by kernel_rfl) (by kernel_rfl)

theorem en_113 : En Tryz.prog 113 := En.of Tryz.func113 (by kernel_rfl) (by kernel_rfl)

theorem en_144 : En Tryz.prog 144 := En.of Tryz.func144 (by kernel_rfl) (by kernel_rfl)

theorem en_148 : En Tryz.prog 148 := En.of Tryz.func148 (by kernel_rfl) (by kernel_rfl)

theorem en_150 : En Tryz.prog 150 := En.of Tryz.func150 (by kernel_rfl) (by kernel_rfl)

theorem en_78 : En Tryz.prog 78 := En.of Tryz.func78 (by kernel_rfl) (by kernel_rfl)

theorem zr_29 : (Tryz.prog.info? 29).map (·.zero) = some (some (.agg #[i6 0,i6 0])) := by kernel_rfl

theorem bt_29 : builtInfo Tryz.prog 29 = some ([i6 0,i6 0],[(0,1),(1,1)]) := by kernel_rfl

theorem sz_29 : (Tryz.prog.info? 29).map (·.size) = some 2 := by kernel_rfl

theorem ag_29 : AggT Tryz.prog 29 2 := ⟨⟨_,Tryz.underlying29,trivial⟩,by kernel_rfl⟩

theorem en_51 : En Tryz.prog 51 := En.of Tryz.func51 (by kernel_rfl) (by kernel_rfl)

theorem en_86 : En Tryz.prog 86 := En.of Tryz.func86 (by kernel_rfl) (by kernel_rfl)

theorem sc_219 : ScT Tryz.prog 219 := ⟨⟨_,Tryz.underlying219,trivial⟩,by kernel_rfl⟩

theorem en_80 : En Tryz.prog 80 := En.of Tryz.func80 (by kernel_rfl) (by kernel_rfl)

theorem en_154 : En Tryz.prog 154 := En.of Tryz.func154 (by kernel_rfl) (by kernel_rfl)

theorem en_153 : En Tryz.prog 153 := En.of Tryz.func153 (by kernel_rfl) (by kernel_rfl)

theorem en_184 : En Tryz.prog 184 := En.of Tryz.func184 (by kernel_rfl) (by kernel_rfl)

theorem en_200 : En Tryz.prog 200 := En.of Tryz.func200 (by kernel_rfl) (by kernel_rfl)

theorem en_183 : En Tryz.prog 183 := En.of Tryz.func183 (by kernel_rfl) (by kernel_rfl)

theorem en_152 : En Tryz.prog 152 := En.of Tryz.func152 (by kernel_rfl) (by kernel_rfl)

theorem en_79 : En Tryz.prog 79 := En.of Tryz.func79 (by kernel_rfl) (by kernel_rfl)

theorem zr_147 : (Tryz.prog.info? 147).map (·.zero) = some (some (.agg #[.nilFunc])) := by kernel_rfl

theorem bt_147 : builtInfo Tryz.prog 147 = some ([.nilFunc],[(0,1)]) := by kernel_rfl

theorem sz_147 : (Tryz.prog.info? 147).map (·.size) = some 1 := by kernel_rfl

theorem ag_147 : AggT Tryz.prog 147 1 := ⟨⟨_,Tryz.underlying147,trivial⟩,by kernel_rfl⟩

theorem en_82 : En Tryz.prog 82 := En.of Tryz.func82 (by kernel_rfl) (by kernel_rfl)

theorem fa_147_0 : ∀ (q : Addr) (w : World),(Instr.fieldAt 147 (.pointer (some q)) 0).run Tryz.prog w = .ok (.pointer (some (q.add 0))) w := fun _ _ => by kernel_rfl

theorem sc_145 : ScT Tryz.prog 145 := ⟨⟨_,Tryz.underlying145,trivial⟩,by kernel_rfl⟩

theorem en_155 : En Tryz.prog 155 := En.of Tryz.func155 (by kernel_rfl) (by kernel_rfl)

theorem en_81 : En Tryz.prog 81 := En.of Tryz.func81 (by kernel_rfl) (by kernel_rfl)

theorem en_83 : En Tryz.prog 83 := En.of Tryz.func83 (by kernel_rfl) (by kernel_rfl)

theorem en_156 : En Tryz.prog 156 := En.of Tryz.func156 (by kernel_rfl) (by kernel_rfl)

theorem sl_33 : SlT Tryz.prog 33 29 2 16 (.agg #[i6 0,i6 0]) := SlT.of Tryz.underlying33 (by kernel_rfl) (by decide)

theorem en_18 : En Tryz.prog 18 := En.of Tryz.func18 (by kernel_rfl) (by kernel_rfl)

theorem en_22 : En Tryz.prog 22 := En.of Tryz.func22 (by kernel_rfl) (by kernel_rfl)

theorem en_24 : En Tryz.prog 24 := En.of Tryz.func24 (by kernel_rfl) (by kernel_rfl)

theorem zr_78 : (Tryz.prog.info? 78).map (·.zero) = some (some (.agg #[.slice none 0 0,.slice none 0 0])) := by kernel_rfl

@[reducible] def kd_25 : Kd (List Int) := kL encI_i64 3 1
theorem kdo_25 : KdOk kd_25 := kL_ok _ _ _
theorem one_kd_25 : ∀ r,(kd_25.v r).length = 1 ∧ ones (kd_25.v r) = true := fun _ => ⟨rfl,rfl⟩

theorem sl_75 : SlT Tryz.prog 75 25 1 24 (.slice none 0 0) := SlT.of Tryz.underlying75 (by kernel_rfl) (by decide)

theorem bt_101 : builtInfo Tryz.prog 101 = some ([i6 0,.slice none 0 0],[(0,1),(1,1)]) := by kernel_rfl

@[reducible] def kd_101 : Kd crew_Station := Kd.comp (kL encI_i64 3 1) (fun x => x.Order) (fun h x => [i6 x.Places,.slice h.1 x.Order.length h.2])
theorem kdo_101 : KdOk kd_101 := KdOk.comp (kL_ok _ _ _) _ _
theorem one_kd_101 : ∀ r,(kd_101.v r).length = 2 ∧ ones (kd_101.v r) = true := fun _ => ⟨rfl,rfl⟩

theorem sl_76 : SlT Tryz.prog 76 101 2 32 (.agg #[i6 0,.slice none 0 0]) := SlT.of Tryz.underlying76 (by kernel_rfl) (by decide)

theorem bt_78 : builtInfo Tryz.prog 78 = some ([.slice none 0 0,.slice none 0 0],[(0,1),(1,1)]) := by kernel_rfl

theorem sz_78 : (Tryz.prog.info? 78).map (·.size) = some 2 := by kernel_rfl

theorem ag_78 : AggT Tryz.prog 78 2 := ⟨⟨_,Tryz.underlying78,trivial⟩,by kernel_rfl⟩

theorem en_67 : En Tryz.prog 67 := En.of Tryz.func67 (by kernel_rfl) (by kernel_rfl)

theorem fa_78_0 : ∀ (q : Addr) (w : World),(Instr.fieldAt 78 (.pointer (some q)) 0).run Tryz.prog w = .ok (.pointer (some (q.add 0))) w := fun _ _ => by kernel_rfl

theorem sc_75 : ScT Tryz.prog 75 := ⟨⟨_,Tryz.underlying75,trivial⟩,by kernel_rfl⟩

theorem fa_78_1 : ∀ (q : Addr) (w : World),(Instr.fieldAt 78 (.pointer (some q)) 1).run Tryz.prog w = .ok (.pointer (some (q.add 1))) w := fun _ _ => by kernel_rfl

theorem sc_76 : ScT Tryz.prog 76 := ⟨⟨_,Tryz.underlying76,trivial⟩,by kernel_rfl⟩

theorem sc_185 : ScT Tryz.prog 185 := ⟨⟨_,Tryz.underlying185,trivial⟩,by kernel_rfl⟩

theorem en_118 : En Tryz.prog 118 := En.of Tryz.func118 (by kernel_rfl) (by kernel_rfl)

theorem en_157 : En Tryz.prog 157 := En.of Tryz.func157 (by kernel_rfl) (by kernel_rfl)

theorem en_87 : En Tryz.prog 87 := En.of Tryz.func87 (by kernel_rfl) (by kernel_rfl)

theorem en_117 : En Tryz.prog 117 := En.of Tryz.func117 (by kernel_rfl) (by kernel_rfl)

theorem en_169 : En Tryz.prog 169 := En.of Tryz.func169 (by kernel_rfl) (by kernel_rfl)

theorem en_191 : En Tryz.prog 191 := En.of Tryz.func191 (by kernel_rfl) (by kernel_rfl)

theorem en_168 : En Tryz.prog 168 := En.of Tryz.func168 (by kernel_rfl) (by kernel_rfl)

theorem en_116 : En Tryz.prog 116 := En.of Tryz.func116 (by kernel_rfl) (by kernel_rfl)

theorem sz_101 : (Tryz.prog.info? 101).map (·.size) = some 2 := by kernel_rfl

theorem ag_101 : AggT Tryz.prog 101 2 := ⟨⟨_,Tryz.underlying101,trivial⟩,by kernel_rfl⟩

theorem sc_187 : ScT Tryz.prog 187 := ⟨⟨_,Tryz.underlying187,trivial⟩,by kernel_rfl⟩

theorem fa_101_0 : ∀ (q : Addr) (w : World),(Instr.fieldAt 101 (.pointer (some q)) 0).run Tryz.prog w = .ok (.pointer (some (q.add 0))) w := fun _ _ => by kernel_rfl

theorem fa_101_1 : ∀ (q : Addr) (w : World),(Instr.fieldAt 101 (.pointer (some q)) 1).run Tryz.prog w = .ok (.pointer (some (q.add 1))) w := fun _ _ => by kernel_rfl

theorem en_121 : En Tryz.prog 121 := En.of Tryz.func121 (by kernel_rfl) (by kernel_rfl)

theorem en_120 : En Tryz.prog 120 := En.of Tryz.func120 (by kernel_rfl) (by kernel_rfl)

theorem en_171 : En Tryz.prog 171 := En.of Tryz.func171 (by kernel_rfl) (by kernel_rfl)

theorem en_192 : En Tryz.prog 192 := En.of Tryz.func192 (by kernel_rfl) (by kernel_rfl)

theorem en_170 : En Tryz.prog 170 := En.of Tryz.func170 (by kernel_rfl) (by kernel_rfl)

theorem en_119 : En Tryz.prog 119 := En.of Tryz.func119 (by kernel_rfl) (by kernel_rfl)

theorem en_114 : En Tryz.prog 114 := En.of Tryz.func114 (by kernel_rfl) (by kernel_rfl)

theorem en_72 : En Tryz.prog 72 := En.of Tryz.func72 (by kernel_rfl) (by kernel_rfl)

theorem en_122 : En Tryz.prog 122 := En.of Tryz.func122 (by kernel_rfl) (by kernel_rfl)

theorem en_123 : En Tryz.prog 123 := En.of Tryz.func123 (by kernel_rfl) (by kernel_rfl)

theorem en_55 : En Tryz.prog 55 := En.of Tryz.func55 (by kernel_rfl) (by kernel_rfl)

theorem bt_181 : builtInfo Tryz.prog 181 = some ((catc [.slice none 0 0,.slice none 0 0] 144 encI_i64 (fun _ => 0) []),[(0,2),(2,144)]) := by kernel_rfl

theorem zr_101 : (Tryz.prog.info? 101).map (·.zero) = some (some (.agg #[i6 0,.slice none 0 0])) := by kernel_rfl

theorem fa_181_1 : ∀ (q : Addr) (w : World),(Instr.fieldAt 181 (.pointer (some q)) 1).run Tryz.prog w = .ok (.pointer (some (q.add 2))) w := fun _ _ => by kernel_rfl

theorem sz_178 : (Tryz.prog.info? 178).map (·.size) = some 12 := by kernel_rfl

theorem en_105 : En Tryz.prog 105 := En.of Tryz.func105 (by kernel_rfl) (by kernel_rfl)

theorem sc_166 : ScT Tryz.prog 166 := ⟨⟨_,Tryz.underlying166,trivial⟩,by kernel_rfl⟩

theorem fa_181_0 : ∀ (q : Addr) (w : World),(Instr.fieldAt 181 (.pointer (some q)) 0).run Tryz.prog w = .ok (.pointer (some (q.add 0))) w := fun _ _ => by kernel_rfl

@[reducible] def kd_223 : Kd (Option (List (Int × Bool))) := kM Value.bool
theorem one_kd_223 : ∀ r,(kd_223.v r).length = 1 ∧ ones (kd_223.v r) = true := one_kM _

theorem sl_222 : SlT Tryz.prog 222 223 1 8 (.map none) := SlT.of Tryz.underlying222 (by kernel_rfl) (by decide)

theorem zr_222 : (Tryz.prog.info? 222).map (·.zero) = some (some (.slice none 0 0)) := by kernel_rfl

theorem sz_222 : (Tryz.prog.info? 222).map (·.size) = some 1 := by kernel_rfl

theorem sc_222 : ScT Tryz.prog 222 := ⟨⟨_,Tryz.underlying222,trivial⟩,by kernel_rfl⟩

theorem sz_223 : (Tryz.prog.info? 223).map (·.size) = some 1 := by kernel_rfl

theorem en_166 : En Tryz.prog 166 := En.of Tryz.func166 (by kernel_rfl) (by kernel_rfl)

theorem en_107 : En Tryz.prog 107 := En.of Tryz.func107 (by kernel_rfl) (by kernel_rfl)

theorem zr_99 : (Tryz.prog.info? 99).map (·.zero) = some (some (.slice none 0 0)) := by kernel_rfl

theorem en_111 : En Tryz.prog 111 := En.of Tryz.func111 (by kernel_rfl) (by kernel_rfl)

theorem en_110 : En Tryz.prog 110 := En.of Tryz.func110 (by kernel_rfl) (by kernel_rfl)

theorem sc_99 : ScT Tryz.prog 99 := ⟨⟨_,Tryz.underlying99,trivial⟩,by kernel_rfl⟩

theorem sz_86 : (Tryz.prog.info? 86).map (·.size) = some 2 := by kernel_rfl

theorem ag_86 : AggT Tryz.prog 86 2 := ⟨⟨_,Tryz.underlying86,trivial⟩,by kernel_rfl⟩

theorem bt_86 : builtInfo Tryz.prog 86 = some ([i6 0,i6 0],[(0,1),(1,1)]) := by kernel_rfl

theorem ge_86 : Tryz.prog.eqGuardType Tryz.prog.depth 86 = false := by kernel_rfl

theorem eqs_86 (x0 : Int) (x1 : Int) (y0 : Int) (y1 : Int) (w : World) : (Op.equalIn 10000 86 (.agg #[i6 x0,i6 x1]) (.agg #[i6 y0,i6 y1])).run Tryz.prog w = .ok (x0 == y0 && x1 == y1) w := by
 rw [run_equalIn_agg w 9999 86 _ _ (by kernel_rfl) (by kernel_rfl)]
 simp [Op.eqFields,part,go_sem]
 repeat' split
 all_goals simp_all

theorem en_165 : En Tryz.prog 165 := En.of Tryz.func165 (by kernel_rfl) (by kernel_rfl)

theorem en_188 : En Tryz.prog 188 := En.of Tryz.func188 (by kernel_rfl) (by kernel_rfl)

theorem en_164 : En Tryz.prog 164 := En.of Tryz.func164 (by kernel_rfl) (by kernel_rfl)

theorem sc_223 : ScT Tryz.prog 223 := ⟨⟨_,Tryz.underlying223,trivial⟩,by kernel_rfl⟩

theorem zr_4 : (Tryz.prog.info? 4).map (·.zero) = some (some (.bool false)) := by kernel_rfl

theorem sl_99 : SlT Tryz.prog 99 86 2 16 (.agg #[i6 0,i6 0]) := SlT.of Tryz.underlying99 (by kernel_rfl) (by decide)

theorem sz_99 : (Tryz.prog.info? 99).map (·.size) = some 1 := by kernel_rfl

theorem en_163 : En Tryz.prog 163 := En.of Tryz.func163 (by kernel_rfl) (by kernel_rfl)

theorem en_167 : En Tryz.prog 167 := En.of Tryz.func167 (by kernel_rfl) (by kernel_rfl)

theorem en_106 : En Tryz.prog 106 := En.of Tryz.func106 (by kernel_rfl) (by kernel_rfl)

theorem en_43 : En Tryz.prog 43 := En.of Tryz.func43 (by kernel_rfl) (by kernel_rfl)

theorem zr_86 : (Tryz.prog.info? 86).map (·.zero) = some (some (.agg #[i6 0,i6 0])) := by kernel_rfl

theorem zr_166 : (Tryz.prog.info? 166).map (·.zero) = some (some (.pointer none)) := by kernel_rfl

theorem zr_34 : (Tryz.prog.info? 34).map (·.zero) = some (some (i6 0)) := by kernel_rfl

theorem sz_166 : (Tryz.prog.info? 166).map (·.size) = some 1 := by kernel_rfl

theorem sz_34 : (Tryz.prog.info? 34).map (·.size) = some 1 := by kernel_rfl

theorem sc_34 : ScT Tryz.prog 34 := ⟨⟨_,Tryz.underlying34,trivial⟩,by kernel_rfl⟩

theorem en_108 : En Tryz.prog 108 := En.of Tryz.func108 (by kernel_rfl) (by kernel_rfl)

theorem zr_172 : (Tryz.prog.info? 172).map (·.zero) = some (some (.agg #[.slice none 0 0,.slice none 0 0,.slice none 0 0,.slice none 0 0,.slice none 0 0,.slice none 0 0,.slice none 0 0,.slice none 0 0,.slice none 0 0,.slice none 0 0,.slice none 0 0,.slice none 0 0])) := by kernel_rfl

theorem ag_172 : AggT Tryz.prog 172 12 := ⟨⟨_,Tryz.underlying172,trivial⟩,by kernel_rfl⟩

theorem sz_172 : (Tryz.prog.info? 172).map (·.size) = some 12 := by kernel_rfl

theorem en_109 : En Tryz.prog 109 := En.of Tryz.func109 (by kernel_rfl) (by kernel_rfl)

theorem en_112 : En Tryz.prog 112 := En.of Tryz.func112 (by kernel_rfl) (by kernel_rfl)

theorem en_46 : En Tryz.prog 46 := En.of Tryz.func46 (by kernel_rfl) (by kernel_rfl)

theorem sc_192 : ScT Tryz.prog 192 := ⟨⟨_,Tryz.underlying192,trivial⟩,by kernel_rfl⟩

theorem fa_86_0 : ∀ (q : Addr) (w : World),(Instr.fieldAt 86 (.pointer (some q)) 0).run Tryz.prog w = .ok (.pointer (some (q.add 0))) w := fun _ _ => by kernel_rfl

theorem fa_86_1 : ∀ (q : Addr) (w : World),(Instr.fieldAt 86 (.pointer (some q)) 1).run Tryz.prog w = .ok (.pointer (some (q.add 1))) w := fun _ _ => by kernel_rfl

theorem en_129 : En Tryz.prog 129 := En.of Tryz.func129 (by kernel_rfl) (by kernel_rfl)

theorem en_172 : En Tryz.prog 172 := En.of Tryz.func172 (by kernel_rfl) (by kernel_rfl)

theorem en_128 : En Tryz.prog 128 := En.of Tryz.func128 (by kernel_rfl) (by kernel_rfl)

theorem sz_4 : (Tryz.prog.info? 4).map (·.size) = some 1 := by kernel_rfl

theorem sc_4 : ScT Tryz.prog 4 := ⟨⟨_,Tryz.underlying4,trivial⟩,by kernel_rfl⟩

theorem en_193 : En Tryz.prog 193 := En.of Tryz.func193 (by kernel_rfl) (by kernel_rfl)

theorem en_173 : En Tryz.prog 173 := En.of Tryz.func173 (by kernel_rfl) (by kernel_rfl)

theorem en_130 : En Tryz.prog 130 := En.of Tryz.func130 (by kernel_rfl) (by kernel_rfl)

theorem en_59 : En Tryz.prog 59 := En.of Tryz.func59 (by kernel_rfl) (by kernel_rfl)

theorem en_68 : En Tryz.prog 68 := En.of Tryz.func68 (by kernel_rfl) (by kernel_rfl)

theorem en_29 : En Tryz.prog 29 := En.of Tryz.func29 (by kernel_rfl) (by kernel_rfl)

theorem ge_29 : Tryz.prog.eqGuardType Tryz.prog.depth 29 = false := by kernel_rfl

theorem eqs_29 (x0 : Int) (x1 : Int) (y0 : Int) (y1 : Int) (w : World) : (Op.equalIn 10000 29 (.agg #[i6 x0,i6 x1]) (.agg #[i6 y0,i6 y1])).run Tryz.prog w = .ok (x0 == y0 && x1 == y1) w := by
 rw [run_equalIn_agg w 9999 29 _ _ (by kernel_rfl) (by kernel_rfl)]
 simp [Op.eqFields,part,go_sem]
 repeat' split
 all_goals simp_all

theorem en_21 : En Tryz.prog 21 := En.of Tryz.func21 (by kernel_rfl) (by kernel_rfl)

theorem zr_54 : (Tryz.prog.info? 54).map (·.zero) = some (some (.agg #[i6 0,i6 0,i6 0,i6 0,.slice none 0 0])) := by kernel_rfl

theorem bt_72 : builtInfo Tryz.prog 72 = some ([i6 0,i6 0,i6 0,i6 0],[(0,1),(1,1),(2,2)]) := by kernel_rfl

theorem sl_52 : SlT Tryz.prog 52 72 4 32 (.agg #[i6 0,i6 0,i6 0,i6 0]) := SlT.of Tryz.underlying52 (by kernel_rfl) (by decide)

theorem bt_54 : builtInfo Tryz.prog 54 = some ([i6 0,i6 0,i6 0,i6 0,.slice none 0 0],[(0,1),(1,1),(2,1),(3,1),(4,1)]) := by kernel_rfl

theorem sz_54 : (Tryz.prog.info? 54).map (·.size) = some 5 := by kernel_rfl

theorem ag_54 : AggT Tryz.prog 54 5 := ⟨⟨_,Tryz.underlying54,trivial⟩,by kernel_rfl⟩

theorem en_69 : En Tryz.prog 69 := En.of Tryz.func69 (by kernel_rfl) (by kernel_rfl)

theorem fa_54_4 : ∀ (q : Addr) (w : World),(Instr.fieldAt 54 (.pointer (some q)) 4).run Tryz.prog w = .ok (.pointer (some (q.add 4))) w := fun _ _ => by kernel_rfl

theorem sc_52 : ScT Tryz.prog 52 := ⟨⟨_,Tryz.underlying52,trivial⟩,by kernel_rfl⟩

theorem fa_54_0 : ∀ (q : Addr) (w : World),(Instr.fieldAt 54 (.pointer (some q)) 0).run Tryz.prog w = .ok (.pointer (some (q.add 0))) w := fun _ _ => by kernel_rfl

theorem fa_54_1 : ∀ (q : Addr) (w : World),(Instr.fieldAt 54 (.pointer (some q)) 1).run Tryz.prog w = .ok (.pointer (some (q.add 1))) w := fun _ _ => by kernel_rfl

theorem fa_54_2 : ∀ (q : Addr) (w : World),(Instr.fieldAt 54 (.pointer (some q)) 2).run Tryz.prog w = .ok (.pointer (some (q.add 2))) w := fun _ _ => by kernel_rfl

theorem fa_54_3 : ∀ (q : Addr) (w : World),(Instr.fieldAt 54 (.pointer (some q)) 3).run Tryz.prog w = .ok (.pointer (some (q.add 3))) w := fun _ _ => by kernel_rfl

theorem sz_72 : (Tryz.prog.info? 72).map (·.size) = some 4 := by kernel_rfl

theorem ag_72 : AggT Tryz.prog 72 4 := ⟨⟨_,Tryz.underlying72,trivial⟩,by kernel_rfl⟩

theorem sc_155 : ScT Tryz.prog 155 := ⟨⟨_,Tryz.underlying155,trivial⟩,by kernel_rfl⟩

theorem fa_72_0 : ∀ (q : Addr) (w : World),(Instr.fieldAt 72 (.pointer (some q)) 0).run Tryz.prog w = .ok (.pointer (some (q.add 0))) w := fun _ _ => by kernel_rfl

theorem fa_72_1 : ∀ (q : Addr) (w : World),(Instr.fieldAt 72 (.pointer (some q)) 1).run Tryz.prog w = .ok (.pointer (some (q.add 1))) w := fun _ _ => by kernel_rfl

theorem fa_72_2 : ∀ (q : Addr) (w : World),(Instr.fieldAt 72 (.pointer (some q)) 2).run Tryz.prog w = .ok (.pointer (some (q.add 2))) w := fun _ _ => by kernel_rfl

theorem en_91 : En Tryz.prog 91 := En.of Tryz.func91 (by kernel_rfl) (by kernel_rfl)

theorem en_159 : En Tryz.prog 159 := En.of Tryz.func159 (by kernel_rfl) (by kernel_rfl)

theorem en_185 : En Tryz.prog 185 := En.of Tryz.func185 (by kernel_rfl) (by kernel_rfl)

theorem en_158 : En Tryz.prog 158 := En.of Tryz.func158 (by kernel_rfl) (by kernel_rfl)

theorem en_90 : En Tryz.prog 90 := En.of Tryz.func90 (by kernel_rfl) (by kernel_rfl)

theorem en_31 : En Tryz.prog 31 := En.of Tryz.func31 (by kernel_rfl) (by kernel_rfl)

theorem zr_72 : (Tryz.prog.info? 72).map (·.zero) = some (some (.agg #[i6 0,i6 0,i6 0,i6 0])) := by kernel_rfl

theorem en_104 : En Tryz.prog 104 := En.of Tryz.func104 (by kernel_rfl) (by kernel_rfl)

theorem en_160 : En Tryz.prog 160 := En.of Tryz.func160 (by kernel_rfl) (by kernel_rfl)

theorem en_93 : En Tryz.prog 93 := En.of Tryz.func93 (by kernel_rfl) (by kernel_rfl)

theorem en_34 : En Tryz.prog 34 := En.of Tryz.func34 (by kernel_rfl) (by kernel_rfl)

theorem en_161 : En Tryz.prog 161 := En.of Tryz.func161 (by kernel_rfl) (by kernel_rfl)

theorem en_162 : En Tryz.prog 162 := En.of Tryz.func162 (by kernel_rfl) (by kernel_rfl)

theorem en_95 : En Tryz.prog 95 := En.of Tryz.func95 (by kernel_rfl) (by kernel_rfl)

theorem en_99 : En Tryz.prog 99 := En.of Tryz.func99 (by kernel_rfl) (by kernel_rfl)

theorem en_98 : En Tryz.prog 98 := En.of Tryz.func98 (by kernel_rfl) (by kernel_rfl)

theorem en_96 : En Tryz.prog 96 := En.of Tryz.func96 (by kernel_rfl) (by kernel_rfl)

theorem en_36 : En Tryz.prog 36 := En.of Tryz.func36 (by kernel_rfl) (by kernel_rfl)

theorem sz_52 : (Tryz.prog.info? 52).map (·.size) = some 1 := by kernel_rfl

theorem en_101 : En Tryz.prog 101 := En.of Tryz.func101 (by kernel_rfl) (by kernel_rfl)

theorem en_102 : En Tryz.prog 102 := En.of Tryz.func102 (by kernel_rfl) (by kernel_rfl)

theorem en_103 : En Tryz.prog 103 := En.of Tryz.func103 (by kernel_rfl) (by kernel_rfl)

theorem en_38 : En Tryz.prog 38 := En.of Tryz.func38 (by kernel_rfl) (by kernel_rfl)

theorem bt_24 : builtInfo Tryz.prog 24 = some ([i6 0,i6 0,i6 0],[(0,1),(1,1),(2,1)]) := by kernel_rfl

theorem fa_24_0 : ∀ (q : Addr) (w : World),(Instr.fieldAt 24 (.pointer (some q)) 0).run Tryz.prog w = .ok (.pointer (some (q.add 0))) w := fun _ _ => by kernel_rfl

theorem fa_24_1 : ∀ (q : Addr) (w : World),(Instr.fieldAt 24 (.pointer (some q)) 1).run Tryz.prog w = .ok (.pointer (some (q.add 1))) w := fun _ _ => by kernel_rfl

theorem fa_24_2 : ∀ (q : Addr) (w : World),(Instr.fieldAt 24 (.pointer (some q)) 2).run Tryz.prog w = .ok (.pointer (some (q.add 2))) w := fun _ _ => by kernel_rfl

theorem en_88 : En Tryz.prog 88 := En.of Tryz.func88 (by kernel_rfl) (by kernel_rfl)

theorem en_26 : En Tryz.prog 26 := En.of Tryz.func26 (by kernel_rfl) (by kernel_rfl)

theorem en_15 : En Tryz.prog 15 := En.of Tryz.func15 (by kernel_rfl) (by kernel_rfl)

def kit_New (N : Nat) (bytes : List Int) : Option (Int × Int) :=
 some (0,0)
theorem kit_New_ok {N : Nat} {G : Pers} {Lf : List Ent} {w : World} (bytes : List Int) {bytes_p : Option Addr} {bytes_c : Nat} (h_bytes : Rd G 1 bytes_p bytes_c (bytes.map encI_u8)) (hc : Ctx G (Lf) w) {res : Int × Int} (hF : kit_New N bytes = some res) : Calls Tryz.prog 42 #[.slice bytes_p bytes.length bytes_c] w (fun e w => ∃ (b'1 : Nat),e = .returned (pq b'1) ∧ Ctx G (.box b'1 [.slice bytes_p bytes.length bytes_c,i6 res.1,i6 res.2] 165::Lf) w) := by
 unfold kit_New at hF
 refine fnIn Tryz.func42 rfl Tryz.ntmps42 rfl fun a hf => zS fun K h => sp 1 hf rfl fun a hf => zT h ?_
 refine zS fun K h => sp 1 hf rfl fun a hf => zP hf rfl (pBuildS (cells := [.slice bytes_p bytes.length bytes_c,i6 0,i6 0]) bt_165 rfl rfl) fun a hf => zB hf hc rfl fun b_1 a w hf hc => sp 1 hf rfl fun a hf => zT h ?_
 refine wp_ret ?_
 obtain rfl := sj hF
 exact zO1 Tryz.results42 hf rfl ⟨b_1,rfl,hc⟩

def kit_Stream_Next_j9 (N : Nat) (s_ : kit_Stream) (n : Int) (b_2 : Int) (b_3 : Int) : Option (Int × Int × Int) :=
 Option.bind (nz n) fun un_1 =>
 some (b_3.tmod n,W (s_.used + 1),(W ((W ((W (5 * s_.mix)) + b_2)) + 1)).tmod 251)
def kit_Stream_Next_j6 (N : Nat) (s_ : kit_Stream) (n : Int) (b_2 : Int) : Option (Int × Int × Int) :=
 cond (decide (256 < n))
 (kit_Stream_Next_j9 N s_ n b_2 (W ((W (256 * b_2)) + ((W ((W ((W (5 * s_.mix)) + b_2)) + 1)).tmod 251))))
 (kit_Stream_Next_j9 N s_ n b_2 b_2)
def kit_Stream_Next (N : Nat) (s_ : kit_Stream) (n : Int) : Option (Int × Int × Int) :=
 cond ((decide (n < 2)) || (((s_.bytes.length : Nat) : Int) == 0))
 (some (0,s_.used,s_.mix))
 (Option.bind (nz ((s_.bytes.length : Nat) : Int)) fun un =>
 Option.bind (getI s_.bytes (s_.used.tmod ((s_.bytes.length : Nat) : Int))) fun e_1 =>
 cond (decide (((s_.bytes.length : Nat) : Int) ≤ s_.used))
 (Option.bind (nz ((s_.bytes.length : Nat) : Int)) fun un_2 =>
 kit_Stream_Next_j6 N s_ n (W ((W (e_1)) + (W ((W (11 * s_.mix)) + (W (s_.used.tdiv ((s_.bytes.length : Nat) : Int))))))))
 (kit_Stream_Next_j6 N s_ n (W (e_1))))
theorem kit_Stream_Next_ok {N : Nat} {G : Pers} {Lf : List Ent} {w : World} (s_ : kit_Stream) (n : Int) {b_ : Nat} {s__bytes_p : Option Addr} {s__bytes_c : Nat} (h_s__bytes : Rd G 1 s__bytes_p s__bytes_c (s_.bytes.map encI_u8)) (hc : Ctx G (.box b_ [.slice s__bytes_p s_.bytes.length s__bytes_c,i6 s_.used,i6 s_.mix] 165::Lf) w) {res : Int × Int × Int} (hF : kit_Stream_Next N s_ n = some res) : Calls Tryz.prog 45 #[pq b_,i6 n] w (fun e w => e = .returned (i6 res.1) ∧ Ctx G (.box b_ [.slice s__bytes_p s_.bytes.length s__bytes_c,i6 res.2.1,i6 res.2.2] 165::Lf) w) := by
 unfold kit_Stream_Next at hF
 refine fnIn Tryz.func45 rfl Tryz.ntmps45 rfl fun a hf => zS fun K h => sp 1 hf rfl fun a hf => zT h ?_
 refine wp_seq_k fun K2 h2 => zS fun K h => sp 3 hf rfl fun a hf => stCc 7 (fun a => Has 92 a [(0,pq b_),(1,i6 n),(6,i6 n),(7,.bool (decide (n < 2))),(8,.bool (decide (n < 2))),(15,.bool ((decide (n < 2)) || (((s_.bytes.length : Nat) : Int) == 0)))]) hc ?_ ?_
 ·cases hb : (decide (n < 2))
  ·rw [hb] at hf
   refine sp 2 hf rfl fun a hf => zP hf rfl (pFA fa_165_0 rfl) fun a hf => zL hf hc sc_74 m0 rfl fun a w hf hc => zP hf rfl (pLenS Tryz.underlying74 rfl) fun a hf => sp 2 hf rfl fun a hf => cNil ⟨hf.kp rfl,hc⟩
  ·rw [hb] at hf
   refine stS hf rfl rfl rfl fun a hf => stS hf rfl rfl rfl fun a hf => stS hf rfl rfl rfl fun a hf => stS hf rfl rfl rfl fun a hf => stS hf rfl rfl rfl fun a hf => stS hf rfl rfl rfl fun a hf => sp 1 hf rfl fun a hf => cNil ⟨hf.kp rfl,hc⟩
 intro a w ⟨hf,hc⟩
 refine zT h ?_
 refine zI hf rfl hF ?_ ?_ <;> clear hF <;> intro hF
 ·refine zS fun K h => sp 1 hf rfl fun a hf => zT h ?_
  refine wp_ret ?_
  refine xThenR ?_
  obtain rfl := sj hF
  exact zO1 Tryz.results45 hf rfl ⟨rfl,hc⟩
 ·refine wp_skip ?_
  refine h2 _ _ ?_
  refine wp_seq_k fun K5 h5 => ?_
  obtain ⟨un,hun,hF⟩ := bnd_some hF
  obtain ⟨e_1,he_1,hF⟩ := bnd_some hF
  obtain ⟨b_1,o,qa,qp⟩ := h_s__bytes.atm he_1
  refine cQ hc follows_mx (by kernel_rfl) ?_
  refine qE hf rfl rfl rfl (Pu.ev (pM rfl)) fun a hf => qE hf rfl rfl rfl (Pu.ev (pNC rfl)) fun a hf => qE hf rfl rfl rfl (Pu.ev (pFA fa_165_0 rfl)) fun a hf => qE hf rfl rfl rfl (eLd1 sc_74 rfl (cell_box m0 rfl)) fun a hf => qE hf rfl rfl rfl (Pu.ev (pM rfl)) fun a hf => qE hf rfl rfl rfl (Pu.ev (pNC rfl)) fun a hf => qE hf rfl rfl rfl (Pu.ev (pFA fa_165_1 rfl)) fun a hf => qE hf rfl rfl rfl (eLd1 sc_3 rfl (cell_box m0 rfl)) fun a hf => qE hf rfl rfl rfl (Pu.ev (pM rfl)) fun a hf => qE hf rfl rfl rfl (Pu.ev (pNC rfl)) fun a hf => qE hf rfl rfl rfl (Pu.ev (pFA fa_165_0 rfl)) fun a hf => qE hf rfl rfl rfl (eLd1 sc_74 rfl (cell_box m0 rfl)) fun a hf => qE hf rfl rfl rfl (Pu.ev (pLenS Tryz.underlying74 rfl)) fun a hf => ?_
  refine qE hf rfl rfl rfl (Pu.ev (pRem rfl rfl (nz_spec hun))) fun a hf => qE hf rfl rfl rfl (Pu.ev (pIA Tryz.underlying74 sz_5 rfl rfl qa)) fun a hf => qE hf rfl rfl rfl (eLd1 sc_5 rfl (cell_pc (j := 0) qp rfl)) fun a hf => qE hf rfl rfl rfl (Pu.ev (pCv Tryz.underlying5 Tryz.underlying3 rfl)) fun a hf => qE hf rfl rfl rfl (Pu.ev (pA rfl)) fun a hf => ?_
  intro w hc
  refine h5 _ _ ?_
  refine wp_seq_k fun K6 h6 => ?_
  have hj6 : ∀ (b_2 : Int) a w,Has 92 a [(0,pq b_),(1,i6 n),(5,i6 b_2)] → Ctx G (.box b_ [.slice s__bytes_p s_.bytes.length s__bytes_c,i6 s_.used,i6 s_.mix] 165::Lf) w → kit_Stream_Next_j6 N s_ n b_2 = some res → K6 a w := by
   repeat (clear hF)
   repeat (clear hc)
   repeat (clear hf)
   intro b_2 a w hf hc hF
   unfold kit_Stream_Next_j6 at hF
   refine h6 _ _ ?_
   refine zS fun K h => sp 3 hf rfl fun a hf => zP hf rfl (pFA fa_165_2 rfl) fun a hf => zL hf hc sc_3 m0 rfl fun a w hf hc => sp 4 hf rfl fun a hf => zP hf rfl (pRem rfl rfl (by decide)) fun a hf => sp 1 hf rfl fun a hf => zP hf rfl (pFA fa_165_2 rfl) fun a hf => zW hf hc sz_3 u0 rfl fun w hc => zT h ?_
   refine zS fun K h => sp 2 hf rfl fun a hf => zP hf rfl (pFA fa_165_1 rfl) fun a hf => zL hf hc sc_3 m0 rfl fun a w hf hc => sp 2 hf rfl fun a hf => zP hf rfl (pFA fa_165_1 rfl) fun a hf => zW hf hc sz_3 u0 rfl fun w hc => zT h ?_
   refine wp_seq_k fun K9 h9 => ?_
   have hj9 : ∀ (b_3 : Int) a w,Has 92 a [(1,i6 n),(5,i6 b_3)] → Ctx G (.box b_ [.slice s__bytes_p s_.bytes.length s__bytes_c,i6 (W (s_.used + 1)),i6 ((W ((W ((W (5 * s_.mix)) + b_2)) + 1)).tmod 251)] 165::Lf) w → kit_Stream_Next_j9 N s_ n b_2 b_3 = some res → K9 a w := by
    repeat (clear hF)
    repeat (clear hc)
    repeat (clear hf)
    intro b_3 a w hf hc hF
    unfold kit_Stream_Next_j9 at hF
    refine h9 _ _ ?_
    refine zS fun K h => sp 2 hf rfl fun a hf => ?_
    obtain ⟨un_1,hun_1,hF⟩ := bnd_some hF
    refine zP hf rfl (pRem rfl rfl (nz_spec hun_1)) fun a hf => sp 1 hf rfl fun a hf => zT h ?_
    refine wp_ret ?_
    obtain rfl := sj hF
    exact zO1 Tryz.results45 hf rfl ⟨rfl,hc⟩
   refine zS fun K h => sp 2 hf rfl fun a hf => zT h ?_
   refine zI hf rfl hF ?_ ?_ <;> clear hF <;> intro hF
   ·refine cReg ?_
    refine sp 4 hf rfl fun a hf => zP hf rfl (pFA fa_165_2 rfl) fun a hf => zL hf hc sc_3 m0 rfl fun a w hf hc => sp 2 hf rfl fun a hf => cNil ?_
    exact hj9 (W ((W (256 * b_2)) + ((W ((W ((W (5 * s_.mix)) + b_2)) + 1)).tmod 251))) _ _  (hf.kp rfl) hc hF
   ·refine wp_skip ?_
    exact hj9 b_2 _ _  (hf.kp rfl) hc hF
  refine wp_seq_k fun K12 h12 => cQ hc follows_mx (by kernel_rfl) ?_
  refine qE hf rfl rfl rfl (Pu.ev (pM rfl)) fun a hf => qE hf rfl rfl rfl (Pu.ev (pNC rfl)) fun a hf => qE hf rfl rfl rfl (Pu.ev (pFA fa_165_1 rfl)) fun a hf => qE hf rfl rfl rfl (eLd1 sc_3 rfl (cell_box m0 rfl)) fun a hf => qE hf rfl rfl rfl (Pu.ev (pM rfl)) fun a hf => qE hf rfl rfl rfl (Pu.ev (pNC rfl)) fun a hf => qE hf rfl rfl rfl (Pu.ev (pFA fa_165_0 rfl)) fun a hf => qE hf rfl rfl rfl (eLd1 sc_74 rfl (cell_box m0 rfl)) fun a hf => qE hf rfl rfl rfl (Pu.ev (pLenS Tryz.underlying74 rfl)) fun a hf => qE hf rfl rfl rfl (Pu.ev (pGe rfl rfl)) fun a hf => ?_
  intro w hc
  refine h12 _ _ ?_
  refine zI hf rfl hF ?_ ?_ <;> clear hF <;> intro hF
  ·obtain ⟨un_2,hun_2,hF⟩ := bnd_some hF
   refine cQ hc follows_mx (by kernel_rfl) ?_
   refine qE hf rfl rfl rfl (Pu.ev (pM rfl)) fun a hf => qE hf rfl rfl rfl (Pu.ev (pM rfl)) fun a hf => qE hf rfl rfl rfl (Pu.ev (pNC rfl)) fun a hf => qE hf rfl rfl rfl (Pu.ev (pFA fa_165_2 rfl)) fun a hf => qE hf rfl rfl rfl (eLd1 sc_3 rfl (cell_box m0 rfl)) fun a hf => qE hf rfl rfl rfl (Pu.ev (pMul rfl rfl)) fun a hf => qE hf rfl rfl rfl (Pu.ev (pM rfl)) fun a hf => qE hf rfl rfl rfl (Pu.ev (pNC rfl)) fun a hf => qE hf rfl rfl rfl (Pu.ev (pFA fa_165_1 rfl)) fun a hf => qE hf rfl rfl rfl (eLd1 sc_3 rfl (cell_box m0 rfl)) fun a hf => qE hf rfl rfl rfl (Pu.ev (pM rfl)) fun a hf => qE hf rfl rfl rfl (Pu.ev (pNC rfl)) fun a hf => qE hf rfl rfl rfl (Pu.ev (pFA fa_165_0 rfl)) fun a hf => ?_
   refine qE hf rfl rfl rfl (eLd1 sc_74 rfl (cell_box m0 rfl)) fun a hf => qE hf rfl rfl rfl (Pu.ev (pLenS Tryz.underlying74 rfl)) fun a hf => qE hf rfl rfl rfl (Pu.ev (pQuo rfl rfl (nz_spec hun_2))) fun a hf => qE hf rfl rfl rfl (Pu.ev (pAdd rfl rfl)) fun a hf => qE hf rfl rfl rfl (Pu.ev (pAdd rfl rfl)) fun a hf => qE hf rfl rfl rfl (Pu.ev (pA rfl)) fun a hf => ?_
   intro w hc
   exact hj6 (W ((W (e_1)) + (W ((W (11 * s_.mix)) + (W (s_.used.tdiv ((s_.bytes.length : Nat) : Int))))))) _ _  (hf.kp rfl) hc hF
  ·refine wp_skip ?_
   exact hj6 (W (e_1)) _ _  (hf.kp rfl) hc hF

def kit_Stream_Within (N : Nat) (s_ : kit_Stream) (lo : Int) (hi_ : Int) : Option (Int × Int × Int) :=
 Option.bind (kit_Stream_Next N s_ (W ((W (hi_ - lo)) + 1))) fun r =>
 some (W (lo + r.1),r.2.1,r.2.2)
theorem kit_Stream_Within_ok {N : Nat} {G : Pers} {Lf : List Ent} {w : World} (s_ : kit_Stream) (lo : Int) (hi_ : Int) {b_ : Nat} {s__bytes_p : Option Addr} {s__bytes_c : Nat} (h_s__bytes : Rd G 1 s__bytes_p s__bytes_c (s_.bytes.map encI_u8)) (hc : Ctx G (.box b_ [.slice s__bytes_p s_.bytes.length s__bytes_c,i6 s_.used,i6 s_.mix] 165::Lf) w) {res : Int × Int × Int} (hF : kit_Stream_Within N s_ lo hi_ = some res) : Calls Tryz.prog 50 #[pq b_,i6 lo,i6 hi_] w (fun e w => e = .returned (i6 res.1) ∧ Ctx G (.box b_ [.slice s__bytes_p s_.bytes.length s__bytes_c,i6 res.2.1,i6 res.2.2] 165::Lf) w) := by
 unfold kit_Stream_Within at hF
 refine fnIn Tryz.func50 rfl Tryz.ntmps50 rfl fun a hf => zS fun K h => sp 1 hf rfl fun a hf => zT h ?_
 refine zS fun K h => sp 6 hf rfl fun a hf => ?_
 obtain ⟨r,hr,hF⟩ := bnd_some hF
 refine zC hf en_45 rfl (kit_Stream_Next_ok s_ (W ((W (hi_ - lo)) + 1)) h_s__bytes (hc.pick k0) hr) ?_
 rintro _ w ⟨rfl,hc⟩
 refine ⟨_,rfl,fun a hf => ?_⟩
 refine sp 2 hf rfl fun a hf => zT h ?_
 refine wp_ret ?_
 obtain rfl := sj hF
 exact zO1 Tryz.results50 hf rfl ⟨rfl,hc⟩

def law11_Toured_b6 (N : Nat) (s_ : kit_Stream) (r : Int × Int × Int) (out : List crew_Visit) (at_ : Int) (x : Int) (b__0 : Int) (b__1 : Int) : Option (Step ((List crew_Visit) × Int × Int × Int × Int) ((List crew_Visit) × Int × Int)) :=
 cond (decide (x < r.1))
 (Option.bind (kit_Stream_Next N (⟨s_.bytes,b__0,b__1⟩ : kit_Stream) 60) fun r_1 =>
 Option.bind (kit_Stream_Next N (⟨s_.bytes,r_1.2.1,r_1.2.2⟩ : kit_Stream) 20) fun r_2 =>
 Option.bind (kit_Stream_Next N (⟨s_.bytes,r_2.2.1,r_2.2.2⟩ : kit_Stream) 40) fun r_3 =>
 Option.bind (kit_Stream_Next N (⟨s_.bytes,r_3.2.1,r_3.2.2⟩ : kit_Stream) 20) fun r_4 =>
 Option.bind (kit_Stream_Within N (⟨s_.bytes,r_4.2.1,r_4.2.2⟩ : kit_Stream) (-40) 20) fun r_5 =>
 Option.bind (kit_Stream_Within N (⟨s_.bytes,r_5.2.1,r_5.2.2⟩ : kit_Stream) 20 120) fun r_6 =>
 Option.bind (room ((out ++ [(⟨(⟨r_1.1,W (r_1.1 + r_2.1)⟩ : api_Span),(⟨r_3.1,W (r_3.1 + r_4.1)⟩ : api_Span),max 0 (W ((W (at_ + (W (r_1.1 + r_2.1)))) + r_5.1)),W ((max 0 (W ((W (at_ + (W (r_1.1 + r_2.1)))) + r_5.1))) + r_6.1)⟩ : crew_Visit)])).length) fun un =>
 some (.cont ((out ++ [(⟨(⟨r_1.1,W (r_1.1 + r_2.1)⟩ : api_Span),(⟨r_3.1,W (r_3.1 + r_4.1)⟩ : api_Span),max 0 (W ((W (at_ + (W (r_1.1 + r_2.1)))) + r_5.1)),W ((max 0 (W ((W (at_ + (W (r_1.1 + r_2.1)))) + r_5.1))) + r_6.1)⟩ : crew_Visit)]),W ((max (W (at_ + (W (r_1.1 + r_2.1)))) (max 0 (W ((W (at_ + (W (r_1.1 + r_2.1)))) + r_5.1)))) + (W (r_3.1 + r_4.1))),W (x + 1),r_6.2.1,r_6.2.2)))
 (some (.brk (out,at_,x,b__0,b__1)))
def law11_Toured (N : Nat) (s_ : kit_Stream) (most : Int) : Option ((List crew_Visit) × Int × Int) :=
 Option.bind (kit_Stream_Within N s_ 1 most) fun r =>
 Option.bind (loopO (fun s6 => law11_Toured_b6 N s_ r s6.1 s6.2.1 s6.2.2.1 s6.2.2.2.1 s6.2.2.2.2) N (([] : List crew_Visit),0,0,r.2.1,r.2.2)) fun x6 =>
 exK x6 (fun s6 => some (s6.1,s6.2.2.2.1,s6.2.2.2.2)) some
theorem law11_Toured_ok {N : Nat} {G : Pers} {Lf : List Ent} {w : World} (s_ : kit_Stream) (most : Int) {b_ : Nat} {s__bytes_p : Option Addr} {s__bytes_c : Nat} (h_s__bytes : Rd G 1 s__bytes_p s__bytes_c (s_.bytes.map encI_u8)) (hc : Ctx G (.box b_ [.slice s__bytes_p s_.bytes.length s__bytes_c,i6 s_.used,i6 s_.mix] 165::Lf) w) {res : (List crew_Visit) × Int × Int} (hF : law11_Toured N s_ most = some res) : Calls Tryz.prog 49 #[pq b_,i6 most] w (fun e w => ∃ (p'1 : Option Addr) (c'1 : Nat),e = .returned (.slice p'1 res.1.length c'1) ∧ Ctx G (.row p'1 c'1 (res.1.map enc_crew_Visit) 31 6::.box b_ [.slice s__bytes_p s_.bytes.length s__bytes_c,i6 res.2.1,i6 res.2.2] 165::Lf) w) := by
 unfold law11_Toured at hF
 refine fnIn Tryz.func49 rfl Tryz.ntmps49 rfl fun a hf => zS fun K h => sp 1 hf rfl fun a hf => zT h ?_
 refine zS fun K h => sp 1 hf rfl fun a hf => zT h ?_
 refine zS fun K h => sp 1 hf rfl fun a hf => zT h ?_
 refine wp_seq_k fun K4 h4 => zS fun K h => sp 2 hf rfl fun a hf => ?_
 obtain ⟨r,hr,hF⟩ := bnd_some hF
 refine zC hf en_50 rfl (kit_Stream_Within_ok s_ 1 most h_s__bytes (hc.pick k0) hr) ?_
 rintro _ w ⟨rfl,hc⟩
 refine ⟨_,rfl,fun a hf => ?_⟩
 refine sp 1 hf rfl fun a hf => zT h ?_
 refine wp_block ?_
 obtain ⟨x6,hx6,hF⟩ := bnd_some hF
 let S6 : ((List crew_Visit) × Int × Int × Int × Int) → Act → World → Prop := (fun (zz : (List crew_Visit) × Int × Int × Int × Int) a w => ∃ (p_1 : Option Addr) (c_1 : Nat),Has 69 a [(0,pq b_),(5,.slice p_1 zz.1.length c_1),(6,i6 zz.2.1),(10,i6 r.1),(11,i6 zz.2.2.1)] ∧ Ctx G (.row p_1 c_1 (zz.1.map enc_crew_Visit) 31 6::.box b_ [.slice s__bytes_p s_.bytes.length s__bytes_c,i6 zz.2.2.2.1,i6 zz.2.2.2.2] 165::Lf) w)
 have hr6 : ∀ (zz : (List crew_Visit) × Int × Int × Int × Int) a w,x6 = .go zz → S6 zz a w → K4 a w := by
  rintro ⟨out,at_,x,b__0,b__1⟩ a w rfl ⟨p_1,c_1,hf,hc⟩
  replace hF := exK_go hF
  refine h4 _ _ ?_
  refine zS fun K h => sp 2 hf rfl fun a hf => zT h ?_
  refine wp_ret ?_
  obtain rfl := sj hF
  exact zO1 Tryz.results49 hf rfl ⟨p_1,c_1,rfl,hc⟩
 have ho6 : ∀ r,x6 = .out r → r = res := by
  rintro r rfl
  exact sj hF
 replace hc := hc.nilRow 31 6
 refine cLoop N (loopW (S := S6) (x := x6) ?_ N (([] : List crew_Visit),0,0,r.2.1,r.2.2) _ _ ⟨none,0,hf.kp rfl,hc⟩ hx6)
 clear hF hf hc
 rintro ⟨out,at_,x,b__0,b__1⟩ st6 a w KB6 ⟨p_1,c_1,hf,hc⟩ hF hfin6 hK6
 unfold law11_Toured_b6 at hF
 refine zS fun K h => sp 1 hf rfl fun a hf => zT h ?_
 refine wp_seq_k fun K9 h9 => zI hf rfl hF ?_ ?_ <;> clear hF <;> intro hF
 ·refine wp_skip ?_
  refine h9 _ _ ?_
  refine wp_seq_k fun K10 h10 => wp_block ?_
  refine zS fun K h => zP hf rfl (pBuildS (cells := [i6 0,i6 0,i6 0,i6 0,i6 0,i6 0]) bt_31 rfl rfl) fun a hf => zA hf hc zr_31 rfl fun b_1 a w hf hc => zW hf hc sz_31 u0 rfl fun w hc => zT h ?_
  refine zS fun K h => sp 1 hf rfl fun a hf => ?_
  obtain ⟨r_1,hr_1,hF⟩ := bnd_some hF
  refine zC hf en_45 rfl (kit_Stream_Next_ok (⟨s_.bytes,b__0,b__1⟩ : kit_Stream) 60 h_s__bytes (hc.pick k2) hr_1) ?_
  rintro _ w ⟨rfl,hc⟩
  refine ⟨_,rfl,fun a hf => ?_⟩
  refine zP hf rfl (pFA fa_31_0 rfl) fun a hf => zP hf rfl (pFA fa_29_0 rfl) fun a hf => zW hf hc sz_3 u1 rfl fun w hc => zT h ?_
  refine wp_seq_k fun K13 h13 => ?_
  obtain ⟨r_2,hr_2,hF⟩ := bnd_some hF
  refine regionE (fun θ => [⟨none,none,0,pq b_⟩,⟨none,none,5,.slice p_1 out.length c_1⟩,⟨none,none,6,i6 at_⟩,⟨none,none,7,pq b_1⟩,⟨none,none,10,i6 r.1⟩,⟨none,none,11,i6 x⟩,⟨some 0,none,18,pq b_1⟩,⟨some 1,none,19,pq b_1⟩,⟨some 2,none,20,i6 r_1.1⟩,⟨some 3,none,21,pq b_⟩,⟨some 4,none,22,i6 r_2.1⟩,⟨some 5,none,23,i6 (W (r_1.1 + r_2.1))⟩,⟨some 6,none,24,pq b_1⟩,⟨some 7,none,25,.pointer (some ⟨b_1,1,none⟩)⟩]) (fun E θ => (bif E 4 then .box b_ [.slice s__bytes_p s_.bytes.length s__bytes_c,i6 r_2.2.1,i6 r_2.2.2] 165 else .box b_ [.slice s__bytes_p s_.bytes.length s__bytes_c,i6 r_1.2.1,i6 r_1.2.2] 165)::(bif E 8 then .box b_1 [i6 r_1.1,i6 (W (r_1.1 + r_2.1)),i6 0,i6 0,i6 0,i6 0] 31 else .box b_1 [i6 r_1.1,i6 0,i6 0,i6 0,i6 0,i6 0] 31)::.row p_1 c_1 (out.map enc_crew_Visit) 31 6::Lf) [(8,2)] (fun a w => Has 69 a [(0,pq b_),(5,.slice p_1 out.length c_1),(6,i6 at_),(7,pq b_1),(10,i6 r.1),(11,i6 x)] ∧ Ctx G (.box b_ [.slice s__bytes_p s_.bytes.length s__bytes_c,i6 r_2.2.1,i6 r_2.2.2] 165::.box b_1 [i6 r_1.1,i6 (W (r_1.1 + r_2.1)),i6 0,i6 0,i6 0,i6 0] 31::.row p_1 c_1 (out.map enc_crew_Visit) 31 6::Lf) w) follows_mx (by kernel_rfl) (by kernel_rfl) (HasE.of hf ⟨rfl,rfl,rfl,rfl,rfl,rfl,trivial,trivial,trivial,trivial,trivial,trivial,trivial,trivial,trivial⟩) hc ⟨?_,?_,?_,?_,?_,?_,?_,?_,?_,trivial⟩ ?_ ?_
  ·intro E θ a w hD hi hp he hc
   have hf := he.h0.mT he 3 rfl
   refine zP hf rfl (pFA fa_31_0 rfl) fun a hf => zD θ he hi hf 6 rfl rfl rfl hc
  ·intro E θ a w hD hi hp he hc
   have e0 := hp.o 0 rfl
   have hf := he.h0.mP he 6 rfl e0
   refine zP hf rfl (pFA fa_29_0 rfl) fun a hf => zD θ he hi hf 7 rfl rfl rfl hc
  ·intro E θ a w hD hi hp he hc
   have e1 := hp.o 1 rfl
   have e8 := hD.f 0 rfl hi
   try dsimp only at hc
   rw [e8] at hc
   have hf := he.h0.mP he 7 rfl e1
   refine zL hf hc sc_3 m1 rfl fun a w hf hc => zD θ he hi hf 8 rfl rfl rfl ?_
   try dsimp only
   rw [updE_fls 2 e8 rfl]
   exact hc
  ·intro E θ a w hD hi hp he hc
   have hf := he.h0.mT he 0 rfl
   refine sp 1 hf rfl fun a hf => zD θ he hi hf 9 rfl rfl rfl hc
  ·intro E θ a w hD hi hp he hc
   have e3 := hp.o 3 rfl
   try dsimp only at hc
   rw [hi] at hc
   have hf := he.h0.mP he 9 rfl e3
   refine zC hf en_45 rfl (kit_Stream_Next_ok (⟨s_.bytes,r_1.2.1,r_1.2.2⟩ : kit_Stream) 20 h_s__bytes (hc.pick k0) hr_2) ?_
   rintro _ w ⟨rfl,hc⟩
   refine ⟨_,rfl,fun a hf => ?_⟩
   refine zD θ he hi hf 10 rfl rfl rfl ?_
   try dsimp only
   rw [updE_self E 4]
   exact hc
  ·intro E θ a w hD hi hp he hc
   have e2 := hp.o 2 rfl
   have e4 := hp.o 4 rfl
   have hf := (he.h0.mP he 8 rfl e2).mP he 10 rfl e4
   refine sp 1 hf rfl fun a hf => zD θ he hi hf 11 rfl rfl rfl hc
  ·intro E θ a w hD hi hp he hc
   have hf := he.h0.mT he 3 rfl
   refine zP hf rfl (pFA fa_31_0 rfl) fun a hf => zD θ he hi hf 12 rfl rfl rfl hc
  ·intro E θ a w hD hi hp he hc
   have e6 := hp.o 6 rfl
   have hf := he.h0.mP he 12 rfl e6
   refine zP hf rfl (pFA fa_29_1 rfl) fun a hf => zD θ he hi hf 13 rfl rfl rfl hc
  ·intro E θ a w hD hi hp he hc
   have e5 := hp.o 5 rfl
   have e7 := hp.o 7 rfl
   try dsimp only at hc
   rw [hi] at hc
   have hf := (he.h0.mP he 11 rfl e5).mP he 13 rfl e7
   refine zW hf hc sz_3 u1 rfl fun w hc => zG θ he hi hf rfl ?_
   try dsimp only
   rw [updE_self E 8]
   exact hc
  ·intro E θ a w hall he hc
   have hf := he.h0
   have e4 := hall 4 rfl
   have e8 := hall 8 rfl
   replace hf := hf.more he 5 rfl (onT)
   replace hf := hf.more he 4 rfl (onT)
   replace hf := hf.more he 3 rfl (onT)
   replace hf := hf.more he 2 rfl (onT)
   replace hf := hf.more he 1 rfl (onT)
   replace hf := hf.more he 0 rfl (onT)
   try dsimp only at hc
   rw [e4,e8] at hc
   exact ⟨hf.kp rfl,hc⟩
  rintro a w ⟨hf,hc⟩
  refine h13 _ _ ?_
  refine zS fun K h => sp 1 hf rfl fun a hf => ?_
  obtain ⟨r_3,hr_3,hF⟩ := bnd_some hF
  refine zC hf en_45 rfl (kit_Stream_Next_ok (⟨s_.bytes,r_2.2.1,r_2.2.2⟩ : kit_Stream) 40 h_s__bytes (hc.pick k0) hr_3) ?_
  rintro _ w ⟨rfl,hc⟩
  refine ⟨_,rfl,fun a hf => ?_⟩
  refine zP hf rfl (pFA fa_31_1 rfl) fun a hf => zP hf rfl (pFA fa_29_0 rfl) fun a hf => zW hf hc sz_3 u1 rfl fun w hc => zT h ?_
  refine wp_seq_k fun K15 h15 => ?_
  obtain ⟨r_4,hr_4,hF⟩ := bnd_some hF
  refine regionE (fun θ => [⟨none,none,0,pq b_⟩,⟨none,none,5,.slice p_1 out.length c_1⟩,⟨none,none,6,i6 at_⟩,⟨none,none,7,pq b_1⟩,⟨none,none,10,i6 r.1⟩,⟨none,none,11,i6 x⟩,⟨some 0,none,30,.pointer (some ⟨b_1,2,none⟩)⟩,⟨some 1,none,31,.pointer (some ⟨b_1,2,none⟩)⟩,⟨some 2,none,32,i6 r_3.1⟩,⟨some 3,none,33,pq b_⟩,⟨some 4,none,34,i6 r_4.1⟩,⟨some 5,none,35,i6 (W (r_3.1 + r_4.1))⟩,⟨some 6,none,36,.pointer (some ⟨b_1,2,none⟩)⟩,⟨some 7,none,37,.pointer (some ⟨b_1,3,none⟩)⟩]) (fun E θ => (bif E 4 then .box b_ [.slice s__bytes_p s_.bytes.length s__bytes_c,i6 r_4.2.1,i6 r_4.2.2] 165 else .box b_ [.slice s__bytes_p s_.bytes.length s__bytes_c,i6 r_3.2.1,i6 r_3.2.2] 165)::(bif E 8 then .box b_1 [i6 r_1.1,i6 (W (r_1.1 + r_2.1)),i6 r_3.1,i6 (W (r_3.1 + r_4.1)),i6 0,i6 0] 31 else .box b_1 [i6 r_1.1,i6 (W (r_1.1 + r_2.1)),i6 r_3.1,i6 0,i6 0,i6 0] 31)::.row p_1 c_1 (out.map enc_crew_Visit) 31 6::Lf) [(8,2)] (fun a w => Has 69 a [(0,pq b_),(5,.slice p_1 out.length c_1),(6,i6 at_),(7,pq b_1),(10,i6 r.1),(11,i6 x)] ∧ Ctx G (.box b_ [.slice s__bytes_p s_.bytes.length s__bytes_c,i6 r_4.2.1,i6 r_4.2.2] 165::.box b_1 [i6 r_1.1,i6 (W (r_1.1 + r_2.1)),i6 r_3.1,i6 (W (r_3.1 + r_4.1)),i6 0,i6 0] 31::.row p_1 c_1 (out.map enc_crew_Visit) 31 6::Lf) w) follows_mx (by kernel_rfl) (by kernel_rfl) (HasE.of hf ⟨rfl,rfl,rfl,rfl,rfl,rfl,trivial,trivial,trivial,trivial,trivial,trivial,trivial,trivial,trivial⟩) hc ⟨?_,?_,?_,?_,?_,?_,?_,?_,?_,trivial⟩ ?_ ?_
  ·intro E θ a w hD hi hp he hc
   have hf := he.h0.mT he 3 rfl
   refine zP hf rfl (pFA fa_31_1 rfl) fun a hf => zD θ he hi hf 6 rfl rfl rfl hc
  ·intro E θ a w hD hi hp he hc
   have e0 := hp.o 0 rfl
   have hf := he.h0.mP he 6 rfl e0
   refine zP hf rfl (pFA fa_29_0 rfl) fun a hf => zD θ he hi hf 7 rfl rfl rfl hc
  ·intro E θ a w hD hi hp he hc
   have e1 := hp.o 1 rfl
   have e8 := hD.f 0 rfl hi
   try dsimp only at hc
   rw [e8] at hc
   have hf := he.h0.mP he 7 rfl e1
   refine zL hf hc sc_3 m1 rfl fun a w hf hc => zD θ he hi hf 8 rfl rfl rfl ?_
   try dsimp only
   rw [updE_fls 2 e8 rfl]
   exact hc
  ·intro E θ a w hD hi hp he hc
   have hf := he.h0.mT he 0 rfl
   refine sp 1 hf rfl fun a hf => zD θ he hi hf 9 rfl rfl rfl hc
  ·intro E θ a w hD hi hp he hc
   have e3 := hp.o 3 rfl
   try dsimp only at hc
   rw [hi] at hc
   have hf := he.h0.mP he 9 rfl e3
   refine zC hf en_45 rfl (kit_Stream_Next_ok (⟨s_.bytes,r_3.2.1,r_3.2.2⟩ : kit_Stream) 20 h_s__bytes (hc.pick k0) hr_4) ?_
   rintro _ w ⟨rfl,hc⟩
   refine ⟨_,rfl,fun a hf => ?_⟩
   refine zD θ he hi hf 10 rfl rfl rfl ?_
   try dsimp only
   rw [updE_self E 4]
   exact hc
  ·intro E θ a w hD hi hp he hc
   have e2 := hp.o 2 rfl
   have e4 := hp.o 4 rfl
   have hf := (he.h0.mP he 8 rfl e2).mP he 10 rfl e4
   refine sp 1 hf rfl fun a hf => zD θ he hi hf 11 rfl rfl rfl hc
  ·intro E θ a w hD hi hp he hc
   have hf := he.h0.mT he 3 rfl
   refine zP hf rfl (pFA fa_31_1 rfl) fun a hf => zD θ he hi hf 12 rfl rfl rfl hc
  ·intro E θ a w hD hi hp he hc
   have e6 := hp.o 6 rfl
   have hf := he.h0.mP he 12 rfl e6
   refine zP hf rfl (pFA fa_29_1 rfl) fun a hf => zD θ he hi hf 13 rfl rfl rfl hc
  ·intro E θ a w hD hi hp he hc
   have e5 := hp.o 5 rfl
   have e7 := hp.o 7 rfl
   try dsimp only at hc
   rw [hi] at hc
   have hf := (he.h0.mP he 11 rfl e5).mP he 13 rfl e7
   refine zW hf hc sz_3 u1 rfl fun w hc => zG θ he hi hf rfl ?_
   try dsimp only
   rw [updE_self E 8]
   exact hc
  ·intro E θ a w hall he hc
   have hf := he.h0
   have e4 := hall 4 rfl
   have e8 := hall 8 rfl
   replace hf := hf.more he 5 rfl (onT)
   replace hf := hf.more he 4 rfl (onT)
   replace hf := hf.more he 3 rfl (onT)
   replace hf := hf.more he 2 rfl (onT)
   replace hf := hf.more he 1 rfl (onT)
   replace hf := hf.more he 0 rfl (onT)
   try dsimp only at hc
   rw [e4,e8] at hc
   exact ⟨hf.kp rfl,hc⟩
  rintro a w ⟨hf,hc⟩
  refine h15 _ _ ?_
  refine zS fun K h => sp 1 hf rfl fun a hf => zP hf rfl (pFA fa_31_0 rfl) fun a hf => zP hf rfl (pFA fa_29_1 rfl) fun a hf => zL hf hc sc_3 m1 rfl fun a w hf hc => sp 2 hf rfl fun a hf => zT h ?_
  refine zS fun K h => sp 2 hf rfl fun a hf => ?_
  obtain ⟨r_5,hr_5,hF⟩ := bnd_some hF
  refine zC hf en_50 rfl (kit_Stream_Within_ok (⟨s_.bytes,r_4.2.1,r_4.2.2⟩ : kit_Stream) (-40) 20 h_s__bytes (hc.pick k0) hr_5) ?_
  rintro _ w ⟨rfl,hc⟩
  refine ⟨_,rfl,fun a hf => ?_⟩
  refine sp 1 hf rfl fun a hf => zP hf rfl (pMax2 rfl rfl) fun a hf => zP hf rfl (pFA fa_31_2 rfl) fun a hf => zW hf hc sz_3 u1 rfl fun w hc => zT h ?_
  refine wp_seq_k fun K18 h18 => ?_
  obtain ⟨r_6,hr_6,hF⟩ := bnd_some hF
  refine regionE (fun θ => [⟨none,none,0,pq b_⟩,⟨none,none,5,.slice p_1 out.length c_1⟩,⟨none,none,6,i6 (W (at_ + (W (r_1.1 + r_2.1))))⟩,⟨none,none,7,pq b_1⟩,⟨none,none,10,i6 r.1⟩,⟨none,none,11,i6 x⟩,⟨some 0,none,49,.pointer (some ⟨b_1,4,none⟩)⟩,⟨some 1,none,50,i6 (max 0 (W ((W (at_ + (W (r_1.1 + r_2.1)))) + r_5.1)))⟩,⟨some 2,none,51,pq b_⟩,⟨some 3,none,52,i6 r_6.1⟩,⟨some 4,none,53,i6 (W ((max 0 (W ((W (at_ + (W (r_1.1 + r_2.1)))) + r_5.1))) + r_6.1))⟩,⟨some 5,none,54,.pointer (some ⟨b_1,5,none⟩)⟩]) (fun E θ => (bif E 3 then .box b_ [.slice s__bytes_p s_.bytes.length s__bytes_c,i6 r_6.2.1,i6 r_6.2.2] 165 else .box b_ [.slice s__bytes_p s_.bytes.length s__bytes_c,i6 r_5.2.1,i6 r_5.2.2] 165)::(bif E 6 then .box b_1 [i6 r_1.1,i6 (W (r_1.1 + r_2.1)),i6 r_3.1,i6 (W (r_3.1 + r_4.1)),i6 (max 0 (W ((W (at_ + (W (r_1.1 + r_2.1)))) + r_5.1))),i6 (W ((max 0 (W ((W (at_ + (W (r_1.1 + r_2.1)))) + r_5.1))) + r_6.1))] 31 else .box b_1 [i6 r_1.1,i6 (W (r_1.1 + r_2.1)),i6 r_3.1,i6 (W (r_3.1 + r_4.1)),i6 (max 0 (W ((W (at_ + (W (r_1.1 + r_2.1)))) + r_5.1))),i6 0] 31)::.row p_1 c_1 (out.map enc_crew_Visit) 31 6::Lf) [(6,1)] (fun a w => Has 69 a [(0,pq b_),(5,.slice p_1 out.length c_1),(6,i6 (W (at_ + (W (r_1.1 + r_2.1))))),(7,pq b_1),(10,i6 r.1),(11,i6 x)] ∧ Ctx G (.box b_ [.slice s__bytes_p s_.bytes.length s__bytes_c,i6 r_6.2.1,i6 r_6.2.2] 165::.box b_1 [i6 r_1.1,i6 (W (r_1.1 + r_2.1)),i6 r_3.1,i6 (W (r_3.1 + r_4.1)),i6 (max 0 (W ((W (at_ + (W (r_1.1 + r_2.1)))) + r_5.1))),i6 (W ((max 0 (W ((W (at_ + (W (r_1.1 + r_2.1)))) + r_5.1))) + r_6.1))] 31::.row p_1 c_1 (out.map enc_crew_Visit) 31 6::Lf) w) follows_mx (by kernel_rfl) (by kernel_rfl) (HasE.of hf ⟨rfl,rfl,rfl,rfl,rfl,rfl,trivial,trivial,trivial,trivial,trivial,trivial,trivial⟩) hc ⟨?_,?_,?_,?_,?_,?_,?_,trivial⟩ ?_ ?_
  ·intro E θ a w hD hi hp he hc
   have hf := he.h0.mT he 3 rfl
   refine zP hf rfl (pFA fa_31_2 rfl) fun a hf => zD θ he hi hf 6 rfl rfl rfl hc
  ·intro E θ a w hD hi hp he hc
   have e0 := hp.o 0 rfl
   have e6 := hD.f 0 rfl hi
   try dsimp only at hc
   rw [e6] at hc
   have hf := he.h0.mP he 6 rfl e0
   refine zL hf hc sc_3 m1 rfl fun a w hf hc => zD θ he hi hf 7 rfl rfl rfl ?_
   try dsimp only
   rw [updE_fls 1 e6 rfl]
   exact hc
  ·intro E θ a w hD hi hp he hc
   have hf := he.h0.mT he 0 rfl
   refine sp 1 hf rfl fun a hf => zD θ he hi hf 8 rfl rfl rfl hc
  ·intro E θ a w hD hi hp he hc
   have e2 := hp.o 2 rfl
   try dsimp only at hc
   rw [hi] at hc
   have hf := he.h0.mP he 8 rfl e2
   refine zC hf en_50 rfl (kit_Stream_Within_ok (⟨s_.bytes,r_5.2.1,r_5.2.2⟩ : kit_Stream) 20 120 h_s__bytes (hc.pick k0) hr_6) ?_
   rintro _ w ⟨rfl,hc⟩
   refine ⟨_,rfl,fun a hf => ?_⟩
   refine zD θ he hi hf 9 rfl rfl rfl ?_
   try dsimp only
   rw [updE_self E 3]
   exact hc
  ·intro E θ a w hD hi hp he hc
   have e1 := hp.o 1 rfl
   have e3 := hp.o 3 rfl
   have hf := (he.h0.mP he 7 rfl e1).mP he 9 rfl e3
   refine sp 1 hf rfl fun a hf => zD θ he hi hf 10 rfl rfl rfl hc
  ·intro E θ a w hD hi hp he hc
   have hf := he.h0.mT he 3 rfl
   refine zP hf rfl (pFA fa_31_3 rfl) fun a hf => zD θ he hi hf 11 rfl rfl rfl hc
  ·intro E θ a w hD hi hp he hc
   have e4 := hp.o 4 rfl
   have e5 := hp.o 5 rfl
   try dsimp only at hc
   rw [hi] at hc
   have hf := (he.h0.mP he 10 rfl e4).mP he 11 rfl e5
   refine zW hf hc sz_3 u1 rfl fun w hc => zG θ he hi hf rfl ?_
   try dsimp only
   rw [updE_self E 6]
   exact hc
  ·intro E θ a w hall he hc
   have hf := he.h0
   have e3 := hall 3 rfl
   have e6 := hall 6 rfl
   replace hf := hf.more he 5 rfl (onT)
   replace hf := hf.more he 4 rfl (onT)
   replace hf := hf.more he 3 rfl (onT)
   replace hf := hf.more he 2 rfl (onT)
   replace hf := hf.more he 1 rfl (onT)
   replace hf := hf.more he 0 rfl (onT)
   try dsimp only at hc
   rw [e3,e6] at hc
   exact ⟨hf.kp rfl,hc⟩
  rintro a w ⟨hf,hc⟩
  refine h18 _ _ ?_
  refine zS fun K h => sp 1 hf rfl fun a hf => zP hf rfl (pFA fa_31_2 rfl) fun a hf => zL hf hc sc_3 m1 rfl fun a w hf hc => zP hf rfl (pMax2 rfl rfl) fun a hf => zP hf rfl (pFA fa_31_1 rfl) fun a hf => zP hf rfl (pFA fa_29_1 rfl) fun a hf => zL hf hc sc_3 m1 rfl fun a w hf hc => sp 2 hf rfl fun a hf => zT h ?_
  refine cReg ?_
  refine sp 1 hf rfl fun a hf => zN hf hc ag_31 m1 rfl fun a w hf hc => stBS (rows := ([(⟨(⟨r_1.1,W (r_1.1 + r_2.1)⟩ : api_Span),(⟨r_3.1,W (r_3.1 + r_4.1)⟩ : api_Span),max 0 (W ((W (at_ + (W (r_1.1 + r_2.1)))) + r_5.1)),W ((max 0 (W ((W (at_ + (W (r_1.1 + r_2.1)))) + r_5.1))) + r_6.1)⟩ : crew_Visit)] : List crew_Visit).map enc_crew_Visit) (vs := [(0,.agg #[i6 r_1.1,i6 (W (r_1.1 + r_2.1)),i6 r_3.1,i6 (W (r_3.1 + r_4.1)),i6 (max 0 (W ((W (at_ + (W (r_1.1 + r_2.1)))) + r_5.1))),i6 (W ((max 0 (W ((W (at_ + (W (r_1.1 + r_2.1)))) + r_5.1))) + r_6.1))])]) hf hc rfl rfl sl_22 rfl ⟨rfl,rfl,rfl,trivial⟩ rfl rfl fun b_2 a w hf hc => ?_
  obtain ⟨un,hun,hF⟩ := bnd_some hF
  refine stApm (xs := out) (ys := ([(⟨(⟨r_1.1,W (r_1.1 + r_2.1)⟩ : api_Span),(⟨r_3.1,W (r_3.1 + r_4.1)⟩ : api_Span),max 0 (W ((W (at_ + (W (r_1.1 + r_2.1)))) + r_5.1)),W ((max 0 (W ((W (at_ + (W (r_1.1 + r_2.1)))) + r_5.1))) + r_6.1)⟩ : crew_Visit)] : List crew_Visit)) hf hc rfl rfl sl_22 rfl rfl rfl rfl rfl one_enc_crew_Visit (src_row hc m0) (fun _ _ => u3) (by simpa using room_spec hun) fun p_2 c_2 a w hf hc => sp 1 hf rfl fun a hf => cNil ?_
  refine h10 _ _ ?_
  refine cReg ?_
  refine sp 2 hf rfl fun a hf => cNil ?_
  replace hc := (((hc.drop k2).drop k0).pick k0).pick k1
  exact hK6 ((out ++ [(⟨(⟨r_1.1,W (r_1.1 + r_2.1)⟩ : api_Span),(⟨r_3.1,W (r_3.1 + r_4.1)⟩ : api_Span),max 0 (W ((W (at_ + (W (r_1.1 + r_2.1)))) + r_5.1)),W ((max 0 (W ((W (at_ + (W (r_1.1 + r_2.1)))) + r_5.1))) + r_6.1)⟩ : crew_Visit)]),W ((max (W (at_ + (W (r_1.1 + r_2.1)))) (max 0 (W ((W (at_ + (W (r_1.1 + r_2.1)))) + r_5.1)))) + (W (r_3.1 + r_4.1))),W (x + 1),r_6.2.1,r_6.2.2) _ _ (sj hF).symm ⟨p_2,c_2,hf.kp rfl,hc⟩
 ·refine wp_exit ?_
  refine xThen ?_
  refine xThen ?_
  have he := sj hF
  rw [← he] at hfin6
  refine cHit ?_
  exact hr6 _ _ _ hfin6 ⟨p_1,c_1,hf.kp rfl,hc⟩

def kit_Copy_crew_Visit (N : Nat) (l : List crew_Visit) : Option ((List crew_Visit)) :=
 Option.bind (room (l).length) fun un =>
 some l
theorem kit_Copy_crew_Visit_ok {N : Nat} {G : Pers} {Lf : List Ent} {w : World} (l : List crew_Visit) {l_p : Option Addr} {l_c : Nat} (h_l : Rd G 6 l_p l_c (l.map enc_crew_Visit)) (hc : Ctx G (Lf) w) {res : (List crew_Visit)} (hF : kit_Copy_crew_Visit N l = some res) : Calls Tryz.prog 16 #[.slice l_p l.length l_c] w (fun e w => ∃ (p'1 : Option Addr) (c'1 : Nat),e = .returned (.slice p'1 res.length c'1) ∧ Ctx G (.row p'1 c'1 (res.map enc_crew_Visit) 31 6::Lf) w) := by
 unfold kit_Copy_crew_Visit at hF
 refine fnIn Tryz.func16 rfl Tryz.ntmps16 rfl fun a hf => zS fun K h => sp 1 hf rfl fun a hf => zT h ?_
 refine zS fun K h => sp 1 hf rfl fun a hf => zT h ?_
 refine zS fun K h => sp 2 hf rfl fun a hf => ?_
 replace hc := hc.nilRow 31 6
 obtain ⟨un,hun,hF⟩ := bnd_some hF
 refine stApm (xs := ([] : List crew_Visit)) (ys := l) hf hc rfl rfl sl_22 rfl rfl rfl rfl rfl one_enc_crew_Visit (src_rd hc h_l) (fun _ _ => u0) (by simpa using room_spec hun) fun p_1 c_1 a w hf hc => sp 1 hf rfl fun a hf => zT h ?_
 refine wp_ret ?_
 obtain rfl := sj hF
 exact zO1 Tryz.results16 hf rfl ⟨p_1,c_1,rfl,hc⟩

def law03_Sited_b6 (N : Nat) (s_ : kit_Stream) (r_3 : Int × Int × Int) (at_ : Int) (x : Int) (b__0 : Int) (b__1 : Int) (x_1 : List gauge_Point) : Option (Step (Int × Int × Int × Int × (List gauge_Point)) (gauge_Site × Int × Int)) :=
 cond (decide (x < r_3.1))
 (Option.bind (kit_Stream_Within N (⟨s_.bytes,b__0,b__1⟩ : kit_Stream) 1 30) fun r_5 =>
 Option.bind (kit_Stream_Next N (⟨s_.bytes,r_5.2.1,r_5.2.2⟩ : kit_Stream) 100) fun r_6 =>
 Option.bind (kit_Stream_Next N (⟨s_.bytes,r_6.2.1,r_6.2.2⟩ : kit_Stream) 40) fun r_7 =>
 Option.bind (room ((x_1 ++ [(⟨W (at_ + r_5.1),r_6.1,r_7.1⟩ : gauge_Point)])).length) fun un =>
 some (.cont (W (at_ + r_5.1),W (x + 1),r_7.2.1,r_7.2.2,(x_1 ++ [(⟨W (at_ + r_5.1),r_6.1,r_7.1⟩ : gauge_Point)]))))
 (some (.brk (at_,x,b__0,b__1,x_1)))
def law03_Sited (N : Nat) (s_ : kit_Stream) (most : Int) : Option (gauge_Site × Int × Int) :=
 Option.bind (kit_Stream_Next N s_ 40) fun r =>
 Option.bind (kit_Stream_Within N (⟨s_.bytes,r.2.1,r.2.2⟩ : kit_Stream) 10 90) fun r_1 =>
 Option.bind (kit_Stream_Within N (⟨s_.bytes,r_1.2.1,r_1.2.2⟩ : kit_Stream) 20 90) fun r_2 =>
 Option.bind (kit_Stream_Next N (⟨s_.bytes,r_2.2.1,r_2.2.2⟩ : kit_Stream) (W (most + 1))) fun r_3 =>
 Option.bind (loopO (fun s6 => law03_Sited_b6 N s_ r_3 s6.1 s6.2.1 s6.2.2.1 s6.2.2.2.1 s6.2.2.2.2) N (r.1,0,r_3.2.1,r_3.2.2,([] : List gauge_Point))) fun x6 =>
 exK x6 (fun s6 => Option.bind (kit_Stream_Within N (⟨s_.bytes,s6.2.2.1,s6.2.2.2.1⟩ : kit_Stream) 1 30) fun r_4 =>
 some ((⟨r.1,W (s6.1 + r_4.1),r_1.1,r_2.1,s6.2.2.2.2⟩ : gauge_Site),r_4.2.1,r_4.2.2)) some
theorem law03_Sited_ok {N : Nat} {G : Pers} {Lf : List Ent} {w : World} (s_ : kit_Stream) (most : Int) {b_ : Nat} {s__bytes_p : Option Addr} {s__bytes_c : Nat} (h_s__bytes : Rd G 1 s__bytes_p s__bytes_c (s_.bytes.map encI_u8)) (hc : Ctx G (.box b_ [.slice s__bytes_p s_.bytes.length s__bytes_c,i6 s_.used,i6 s_.mix] 165::Lf) w) {res : gauge_Site × Int × Int} (hF : law03_Sited N s_ most = some res) : Calls Tryz.prog 75 #[pq b_,i6 most] w (fun e w => ∃ (p'1 : Option Addr) (c'1 : Nat),e = .returned (.agg #[i6 res.1.Left,i6 res.1.Right,i6 res.1.Gap,i6 res.1.Step_,.slice p'1 res.1.Points.length c'1]) ∧ Ctx G (.row p'1 c'1 (res.1.Points.map enc_gauge_Point) 202 3::.box b_ [.slice s__bytes_p s_.bytes.length s__bytes_c,i6 res.2.1,i6 res.2.2] 165::Lf) w) := by
 unfold law03_Sited at hF
 refine fnIn Tryz.func75 rfl Tryz.ntmps75 rfl fun a hf => zS fun K h => zA hf hc zr_136 rfl fun b_1 a w hf hc => zT h ?_
 refine zS fun K h => sp 1 hf rfl fun a hf => ?_
 obtain ⟨r,hr,hF⟩ := bnd_some hF
 refine zC hf en_45 rfl (kit_Stream_Next_ok s_ 40 h_s__bytes (hc.pick k1) hr) ?_
 rintro _ w ⟨rfl,hc⟩
 refine ⟨_,rfl,fun a hf => ?_⟩
 refine sp 1 hf rfl fun a hf => ?_
 obtain ⟨r_1,hr_1,hF⟩ := bnd_some hF
 refine zC hf en_50 rfl (kit_Stream_Within_ok (⟨s_.bytes,r.2.1,r.2.2⟩ : kit_Stream) 10 90 h_s__bytes (hc.pick k0) hr_1) ?_
 rintro _ w ⟨rfl,hc⟩
 refine ⟨_,rfl,fun a hf => ?_⟩
 refine sp 1 hf rfl fun a hf => ?_
 obtain ⟨r_2,hr_2,hF⟩ := bnd_some hF
 refine zC hf en_50 rfl (kit_Stream_Within_ok (⟨s_.bytes,r_1.2.1,r_1.2.2⟩ : kit_Stream) 20 90 h_s__bytes (hc.pick k0) hr_2) ?_
 rintro _ w ⟨rfl,hc⟩
 refine ⟨_,rfl,fun a hf => ?_⟩
 refine zP hf rfl (pBuildS (cells := [i6 r.1,i6 0,i6 r_1.1,i6 r_2.1,.slice none 0 0]) bt_136 rfl rfl) fun a hf => zA hf hc zr_136 rfl fun b_2 a w hf hc => zW hf hc sz_136 u0 rfl fun w hc => zT h ?_
 refine zS fun K h => zP hf rfl (pFA fa_136_0 rfl) fun a hf => zL hf hc sc_3 m0 rfl fun a w hf hc => sp 1 hf rfl fun a hf => zT h ?_
 refine wp_seq_k fun K4 h4 => zS fun K h => sp 3 hf rfl fun a hf => ?_
 obtain ⟨r_3,hr_3,hF⟩ := bnd_some hF
 refine zC hf en_45 rfl (kit_Stream_Next_ok (⟨s_.bytes,r_2.2.1,r_2.2.2⟩ : kit_Stream) (W (most + 1)) h_s__bytes (hc.pick k1) hr_3) ?_
 rintro _ w ⟨rfl,hc⟩
 refine ⟨_,rfl,fun a hf => ?_⟩
 refine sp 1 hf rfl fun a hf => zT h ?_
 refine wp_block ?_
 obtain ⟨x6,hx6,hF⟩ := bnd_some hF
 let S6 : (Int × Int × Int × Int × (List gauge_Point)) → Act → World → Prop := (fun (zz : Int × Int × Int × Int × (List gauge_Point)) a w => ∃ (p_1 : Option Addr) (c_1 : Nat),Has 44 a [(0,pq b_),(4,pq b_1),(5,pq b_2),(6,i6 zz.1),(19,i6 r_3.1),(20,i6 zz.2.1)] ∧ Ctx G (.row p_1 c_1 (zz.2.2.2.2.map enc_gauge_Point) 202 3::.box b_ [.slice s__bytes_p s_.bytes.length s__bytes_c,i6 zz.2.2.1,i6 zz.2.2.2.1] 165::.box b_2 [i6 r.1,i6 0,i6 r_1.1,i6 r_2.1,.slice p_1 zz.2.2.2.2.length c_1] 136::.box b_1 [i6 0,i6 0,i6 0,i6 0,.slice none 0 0] 136::Lf) w)
 have hr6 : ∀ (zz : Int × Int × Int × Int × (List gauge_Point)) a w,x6 = .go zz → S6 zz a w → K4 a w := by
  rintro ⟨at_,x,b__0,b__1,x_1⟩ a w rfl ⟨p_1,c_1,hf,hc⟩
  replace hF := exK_go hF
  refine h4 _ _ ?_
  refine zS fun K h => sp 2 hf rfl fun a hf => ?_
  obtain ⟨r_4,hr_4,hF⟩ := bnd_some hF
  refine zC hf en_50 rfl (kit_Stream_Within_ok (⟨s_.bytes,b__0,b__1⟩ : kit_Stream) 1 30 h_s__bytes (hc.pick k1) hr_4) ?_
  rintro _ w ⟨rfl,hc⟩
  refine ⟨_,rfl,fun a hf => ?_⟩
  refine sp 1 hf rfl fun a hf => zP hf rfl (pFA fa_136_1 rfl) fun a hf => zW hf hc sz_3 u2 rfl fun w hc => zT h ?_
  refine zS fun K h => zN hf hc ag_136 m2 rfl fun a w hf hc => zW hf hc sz_136 u3 rfl fun w hc => zT h ?_
  refine wp_ret ?_
  obtain rfl := sj hF
  replace hc := ((hc.drop k2).pick k0).pick k1
  exact fnOut1 (by simp) rfl Tryz.results75 hf hc (rv_cellN (vs := [i6 r.1,i6 (W (at_ + r_4.1)),i6 r_1.1,i6 r_2.1,.slice p_1 x_1.length c_1]) ag_136 rfl rfl (cells_box (n := 5) m2 rfl)) ⟨p_1,c_1,rfl,(hc.drop k2)⟩
 have ho6 : ∀ r,x6 = .out r → r = res := by
  rintro r rfl
  exact sj hF
 replace hc := hc.nilRow 202 3
 refine cLoop N (loopW (S := S6) (x := x6) ?_ N (r.1,0,r_3.2.1,r_3.2.2,([] : List gauge_Point)) _ _ ⟨none,0,hf.kp rfl,hc⟩ hx6)
 clear hF hf hc
 rintro ⟨at_,x,b__0,b__1,x_1⟩ st6 a w KB6 ⟨p_1,c_1,hf,hc⟩ hF hfin6 hK6
 unfold law03_Sited_b6 at hF
 refine zS fun K h => sp 1 hf rfl fun a hf => zT h ?_
 refine wp_seq_k fun K10 h10 => zI hf rfl hF ?_ ?_ <;> clear hF <;> intro hF
 ·refine wp_skip ?_
  refine h10 _ _ ?_
  refine wp_seq_k fun K11 h11 => wp_block ?_
  refine zS fun K h => sp 2 hf rfl fun a hf => ?_
  obtain ⟨r_5,hr_5,hF⟩ := bnd_some hF
  refine zC hf en_50 rfl (kit_Stream_Within_ok (⟨s_.bytes,b__0,b__1⟩ : kit_Stream) 1 30 h_s__bytes (hc.pick k1) hr_5) ?_
  rintro _ w ⟨rfl,hc⟩
  refine ⟨_,rfl,fun a hf => ?_⟩
  refine sp 2 hf rfl fun a hf => zT h ?_
  obtain ⟨r_6,hr_6,hF⟩ := bnd_some hF
  obtain ⟨r_7,hr_7,hF⟩ := bnd_some hF
  obtain ⟨un,hun,hF⟩ := bnd_some hF
  replace hc := hc.nilRow 0 0
  refine regionE (fun θ => [⟨none,none,0,pq b_⟩,⟨none,none,4,pq b_1⟩,⟨none,none,5,pq b_2⟩,⟨none,none,6,i6 (W (at_ + r_5.1))⟩,⟨none,none,19,i6 r_3.1⟩,⟨none,none,20,i6 x⟩,⟨some 0,none,26,.pointer (some ⟨b_2,4,none⟩)⟩,⟨some 1,none,27,.slice p_1 x_1.length c_1⟩,⟨some 2,none,28,i6 (W (at_ + r_5.1))⟩,⟨some 3,none,29,pq b_⟩,⟨some 4,none,30,i6 r_6.1⟩,⟨some 5,none,31,pq b_⟩,⟨some 6,none,32,i6 r_7.1⟩,⟨some 7,none,33,.agg #[i6 (W (at_ + r_5.1)),i6 r_6.1,i6 r_7.1]⟩,⟨some 8,none,34,.slice (some ⟨(θ 64).b,0,none⟩) 1 1⟩,⟨some 9,none,35,.slice ((θ 72).p) ((x_1 ++ [(⟨W (at_ + r_5.1),r_6.1,r_7.1⟩ : gauge_Point)]).length) ((θ 72).c)⟩,⟨some 10,none,36,.pointer (some ⟨b_2,4,none⟩)⟩]) (fun E θ => (bif E 8 then .row (some ⟨(θ 64).b,0,none⟩) 1 (([(⟨W (at_ + r_5.1),r_6.1,r_7.1⟩ : gauge_Point)] : List gauge_Point).map enc_gauge_Point) 202 3 else .row none 0 [] 0 0)::(bif E 6 then .box b_ [.slice s__bytes_p s_.bytes.length s__bytes_c,i6 r_7.2.1,i6 r_7.2.2] 165 else bif E 4 then .box b_ [.slice s__bytes_p s_.bytes.length s__bytes_c,i6 r_6.2.1,i6 r_6.2.2] 165 else .box b_ [.slice s__bytes_p s_.bytes.length s__bytes_c,i6 r_5.2.1,i6 r_5.2.2] 165)::(bif E 9 then .row ((θ 72).p) ((θ 72).c) ((x_1 ++ [(⟨W (at_ + r_5.1),r_6.1,r_7.1⟩ : gauge_Point)]).map enc_gauge_Point) 202 3 else .row p_1 c_1 (x_1.map enc_gauge_Point) 202 3)::(bif E 11 then .box b_2 [i6 r.1,i6 0,i6 r_1.1,i6 r_2.1,.slice ((θ 72).p) ((x_1 ++ [(⟨W (at_ + r_5.1),r_6.1,r_7.1⟩ : gauge_Point)]).length) ((θ 72).c)] 136 else .box b_2 [i6 r.1,i6 0,i6 r_1.1,i6 r_2.1,.slice p_1 x_1.length c_1] 136)::.box b_1 [i6 0,i6 0,i6 0,i6 0,.slice none 0 0] 136::Lf) [(11,1),(6,4),(9,6),(11,9)] (fun a w => ∃ (b_4 : Nat) (p_3 : Option Addr) (c_3 : Nat),Has 44 a [(0,pq b_),(4,pq b_1),(5,pq b_2),(6,i6 (W (at_ + r_5.1))),(19,i6 r_3.1),(20,i6 x)] ∧ Ctx G (.row (some ⟨b_4,0,none⟩) 1 (([(⟨W (at_ + r_5.1),r_6.1,r_7.1⟩ : gauge_Point)] : List gauge_Point).map enc_gauge_Point) 202 3::.box b_ [.slice s__bytes_p s_.bytes.length s__bytes_c,i6 r_7.2.1,i6 r_7.2.2] 165::.row p_3 c_3 ((x_1 ++ [(⟨W (at_ + r_5.1),r_6.1,r_7.1⟩ : gauge_Point)]).map enc_gauge_Point) 202 3::.box b_2 [i6 r.1,i6 0,i6 r_1.1,i6 r_2.1,.slice p_3 ((x_1 ++ [(⟨W (at_ + r_5.1),r_6.1,r_7.1⟩ : gauge_Point)]).length) c_3] 136::.box b_1 [i6 0,i6 0,i6 0,i6 0,.slice none 0 0] 136::Lf) w) follows_mx (by kernel_rfl) (by kernel_rfl) (HasE.of hf ⟨rfl,rfl,rfl,rfl,rfl,rfl,trivial,trivial,trivial,trivial,trivial,trivial,trivial,trivial,trivial,trivial,trivial,trivial⟩) hc ⟨?_,?_,?_,?_,?_,?_,?_,?_,?_,?_,?_,?_,trivial⟩ ?_ ?_
  ·intro E θ a w hD hi hp he hc
   have hf := he.h0.mT he 2 rfl
   refine zP hf rfl (pFA fa_136_4 rfl) fun a hf => zD θ he hi hf 6 rfl rfl rfl hc
  ·intro E θ a w hD hi hp he hc
   have e0 := hp.o 0 rfl
   have e11 := hD.f 0 rfl hi
   try dsimp only at hc
   rw [e11] at hc
   have hf := he.h0.mP he 6 rfl e0
   refine zL hf hc sc_134 m3 rfl fun a w hf hc => zD θ he hi hf 7 rfl rfl rfl ?_
   try dsimp only
   rw [updE_fls 1 e11 rfl]
   exact hc
  ·intro E θ a w hD hi hp he hc
   have hf := he.h0.mT he 3 rfl
   refine sp 1 hf rfl fun a hf => zD θ he hi hf 8 rfl rfl rfl hc
  ·intro E θ a w hD hi hp he hc
   have hf := he.h0.mT he 0 rfl
   refine sp 1 hf rfl fun a hf => zD θ he hi hf 9 rfl rfl rfl hc
  ·intro E θ a w hD hi hp he hc
   have e3 := hp.o 3 rfl
   have e6 := hD.f 1 rfl hi
   have e9 := hD.f 2 rfl e6
   try dsimp only at hc
   rw [hi,e6,e9] at hc
   have hf := he.h0.mP he 9 rfl e3
   refine zC hf en_45 rfl (kit_Stream_Next_ok (⟨s_.bytes,r_5.2.1,r_5.2.2⟩ : kit_Stream) 100 h_s__bytes (hc.pick k1) hr_6) ?_
   rintro _ w ⟨rfl,hc⟩
   refine ⟨_,rfl,fun a hf => ?_⟩
   refine cNil ?_
   refine xThenN ?_
   intro ds u hau
   replace hc := (hc.pick k0).pick k1
   refine ⟨θ,he.put0 hi hau hf rfl 10 rfl rfl,?_⟩
   try dsimp only
   rw [updE_self E 4,updE_fls 4 e6 rfl,updE_fls 4 e9 rfl]
   exact hc
  ·intro E θ a w hD hi hp he hc
   have hf := he.h0.mT he 0 rfl
   refine sp 1 hf rfl fun a hf => zD θ he hi hf 11 rfl rfl rfl hc
  ·intro E θ a w hD hi hp he hc
   have e5 := hp.o 5 rfl
   have e4 := hp.o 4 rfl
   have e9 := hD.f 2 rfl hi
   try dsimp only at hc
   rw [e4,hi,e9] at hc
   have hf := he.h0.mP he 11 rfl e5
   refine zC hf en_45 rfl (kit_Stream_Next_ok (⟨s_.bytes,r_6.2.1,r_6.2.2⟩ : kit_Stream) 40 h_s__bytes (hc.pick k1) hr_7) ?_
   rintro _ w ⟨rfl,hc⟩
   refine ⟨_,rfl,fun a hf => ?_⟩
   refine cNil ?_
   refine xThenN ?_
   intro ds u hau
   replace hc := (hc.pick k0).pick k1
   refine ⟨θ,he.put0 hi hau hf rfl 12 rfl rfl,?_⟩
   try dsimp only
   rw [updE_tru 6 e4,updE_self E 6,updE_fls 6 e9 rfl]
   exact hc
  ·intro E θ a w hD hi hp he hc
   have e2 := hp.o 2 rfl
   have e4 := hp.o 4 rfl
   have e6 := hp.o 6 rfl
   have hf := ((he.h0.mP he 8 rfl e2).mP he 10 rfl e4).mP he 12 rfl e6
   refine zP hf rfl (pBuildS (cells := [i6 (W (at_ + r_5.1)),i6 r_6.1,i6 r_7.1]) bt_202 rfl rfl) fun a hf => zD θ he hi hf 13 rfl rfl rfl hc
  ·intro E θ a w hD hi hp he hc
   have e7 := hp.o 7 rfl
   try dsimp only at hc
   rw [hi] at hc
   have hf := he.h0.mP he 13 rfl e7
   refine stBS (rows := ([(⟨W (at_ + r_5.1),r_6.1,r_7.1⟩ : gauge_Point)] : List gauge_Point).map enc_gauge_Point) (vs := [(0,.agg #[i6 (W (at_ + r_5.1)),i6 r_6.1,i6 r_7.1])]) hf hc rfl rfl sl_134 rfl ⟨rfl,rfl,rfl,trivial⟩ rfl rfl fun b_3 a w hf hc => cNil ?_
   refine xThenN ?_
   intro ds u hau
   replace hc := hc.drop k1
   refine ⟨(setT θ 64 ⟨b_3,none,0,(fun _ => (none,0))⟩),he.put hi hau hf rfl [] trivial ⟨qq,qq,qq,qq,qq,qq,qq,qq,qq,qq,qq,qq,qq,qq,qq,qq,qq,trivial⟩,?_⟩
   try dsimp only
   rw [updE_self E 8]
   exact hc
  ·intro E θ a w hD hi hp he hc
   have e1 := hp.o 1 rfl
   have e8 := hp.o 8 rfl
   have e11 := hD.f 3 rfl hi
   try dsimp only at hc
   rw [e8,hi,e11] at hc
   have hf := (he.h0.mP he 7 rfl e1).mP he 14 rfl e8
   refine stApm (xs := x_1) (ys := ([(⟨W (at_ + r_5.1),r_6.1,r_7.1⟩ : gauge_Point)] : List gauge_Point)) hf hc rfl rfl sl_134 rfl rfl rfl rfl rfl one_enc_gauge_Point (src_row hc m0) (fun _ _ => u2) (by simpa using room_spec hun) fun p_2 c_2 a w hf hc => cNil ?_
   refine xThenN ?_
   intro ds u hau
   refine ⟨(setT θ 72 ⟨0,p_2,c_2,(fun _ => (none,0))⟩),he.put hi hau hf rfl [] trivial ⟨qq,qq,qq,qq,qq,qq,qq,qq,qq,qq,qq,qq,qq,qq,qq,qq,qq,trivial⟩,?_⟩
   try dsimp only
   rw [updE_tru 9 e8,updE_self E 9,updE_fls 9 e11 rfl]
   exact hc
  ·intro E θ a w hD hi hp he hc
   have hf := he.h0.mT he 2 rfl
   refine zP hf rfl (pFA fa_136_4 rfl) fun a hf => zD θ he hi hf 16 rfl rfl rfl hc
  ·intro E θ a w hD hi hp he hc
   have e9 := hp.o 9 rfl
   have e10 := hp.o 10 rfl
   try dsimp only at hc
   rw [hi] at hc
   have hf := (he.h0.mP he 15 rfl e9).mP he 16 rfl e10
   refine zW hf hc sz_134 u3 rfl fun w hc => zG θ he hi hf rfl ?_
   try dsimp only
   rw [updE_self E 11]
   exact hc
  ·intro E θ a w hall he hc
   have hf := he.h0
   have e4 := hall 4 rfl
   have e6 := hall 6 rfl
   have e8 := hall 8 rfl
   have e9 := hall 9 rfl
   have e11 := hall 11 rfl
   replace hf := hf.more he 5 rfl (onT)
   replace hf := hf.more he 4 rfl (onT)
   replace hf := hf.more he 3 rfl (onT)
   replace hf := hf.more he 2 rfl (onT)
   replace hf := hf.more he 1 rfl (onT)
   replace hf := hf.more he 0 rfl (onT)
   try dsimp only at hc
   rw [e4,e6,e8,e9,e11] at hc
   exact ⟨(θ 64).b,(θ 72).p,(θ 72).c,hf.kp rfl,hc⟩
  rintro a w ⟨b_4,p_3,c_3,hf,hc⟩
  refine h11 _ _ ?_
  refine cReg ?_
  refine sp 2 hf rfl fun a hf => cNil ?_
  replace hc := ((hc.drop k0).pick k0).pick k1
  exact hK6 (W (at_ + r_5.1),W (x + 1),r_7.2.1,r_7.2.2,(x_1 ++ [(⟨W (at_ + r_5.1),r_6.1,r_7.1⟩ : gauge_Point)])) _ _ (sj hF).symm ⟨p_3,c_3,hf.kp rfl,hc⟩
 ·refine wp_exit ?_
  refine xThen ?_
  refine xThen ?_
  have he := sj hF
  rw [← he] at hfin6
  refine cHit ?_
  exact hr6 _ _ _ hfin6 ⟨p_1,c_1,hf.kp rfl,hc⟩

def gauge_in (n : Int) (least : Int) (greatest : Int) : Bool :=
 ((decide (least ≤ n)) && (decide (n ≤ greatest)))
theorem gauge_in_ok {G : Pers} {Lf : List Ent} {w : World} (n : Int) (least : Int) (greatest : Int)   (hc : Ctx G (Lf) w) {res : Bool} (hF : gauge_in n least greatest = res) : Calls Tryz.prog 146 #[i6 n,i6 least,i6 greatest] w (fun e w => e = .returned (.bool res) ∧ Ctx G (Lf) w) := by
 unfold gauge_in at hF
 refine fnIn Tryz.func146 rfl Tryz.ntmps146 rfl fun a hf => zS fun K h => sp 1 hf rfl fun a hf => zT h ?_
 refine zS fun K h => sp 4 hf rfl fun a hf => stCc 4 (fun a => Has 15 a [(0,i6 n),(1,i6 least),(2,i6 greatest),(6,.bool false),(7,i6 n),(8,i6 least),(9,.bool (decide (least ≤ n))),(10,.bool (decide (least ≤ n))),(14,.bool ((decide (least ≤ n)) && (decide (n ≤ greatest))))]) hc ?_ ?_
 ·cases hb : (decide (least ≤ n))
  ·rw [hb] at hf
   refine stS hf rfl rfl rfl fun a hf => stS hf rfl rfl rfl fun a hf => stS hf rfl rfl rfl fun a hf => sp 1 hf rfl fun a hf => cNil ⟨hf.kp rfl,hc⟩
  ·rw [hb] at hf
   refine sp 4 hf rfl fun a hf => cNil ⟨hf.kp rfl,hc⟩
 intro a w ⟨hf,hc⟩
 refine sp 1 hf rfl fun a hf => zT h ?_
 refine wp_ret ?_
 obtain rfl := hF
 exact zO1 Tryz.results146 hf rfl ⟨rfl,hc⟩

def gauge_shore (left : Int) (right : Int) : Bool :=
 ((gauge_in right 1 10000) && (gauge_in left 0 (W (right - 1))))
theorem gauge_shore_ok {G : Pers} {Lf : List Ent} {w : World} (left : Int) (right : Int)   (hc : Ctx G (Lf) w) {res : Bool} (hF : gauge_shore left right = res) : Calls Tryz.prog 178 #[i6 left,i6 right] w (fun e w => e = .returned (.bool res) ∧ Ctx G (Lf) w) := by
 unfold gauge_shore at hF
 refine fnIn Tryz.func178 rfl Tryz.ntmps178 rfl fun a hf => zS fun K h => sp 1 hf rfl fun a hf => zT h ?_
 refine zS fun K h => sp 1 hf rfl fun a hf => zQ (v := .bool (gauge_in right 1 10000)) hf hc en_146 rfl (fun w hc => gauge_in_ok right 1 10000 hc rfl) fun a w hf hc => sp 1 hf rfl fun a hf => stCc 5 (fun a => Has 13 a [(0,i6 left),(1,i6 right),(4,.bool false),(5,i6 right),(6,.bool (gauge_in right 1 10000)),(7,.bool (gauge_in right 1 10000)),(12,.bool ((gauge_in right 1 10000) && (gauge_in left 0 (W (right - 1)))))]) hc ?_ ?_
 ·cases hb : (gauge_in right 1 10000)
  ·rw [hb] at hf
   refine stS hf rfl rfl rfl fun a hf => stS hf rfl rfl rfl fun a hf => stS hf rfl rfl rfl fun a hf => stS hf rfl rfl rfl fun a hf => sp 1 hf rfl fun a hf => cNil ⟨hf.kp rfl,hc⟩
  ·rw [hb] at hf
   refine sp 3 hf rfl fun a hf => zQ (v := .bool (gauge_in left 0 (W (right - 1)))) hf hc en_146 rfl (fun w hc => gauge_in_ok left 0 (W (right - 1)) hc rfl) fun a w hf hc => sp 1 hf rfl fun a hf => cNil ⟨hf.kp rfl,hc⟩
 intro a w ⟨hf,hc⟩
 refine sp 1 hf rfl fun a hf => zT h ?_
 refine wp_ret ?_
 obtain rfl := hF
 exact zO1 Tryz.results178 hf rfl ⟨rfl,hc⟩

def gauge_CheckSite_1 (p_ : gauge_Point) (x : gauge_Site) : Bool :=
 (((gauge_in p_.At (W (x.Left + 1)) (W (x.Right - 1))) && (gauge_in p_.Depth 0 2000)) && (gauge_in p_.Cost 0 1000000))
theorem gauge_CheckSite_1_ok {G : Pers} {Lf : List Ent} {w : World} (p_ : gauge_Point) (x : gauge_Site) {b_ : Nat} {x_Points_p : Option Addr} {x_Points_c : Nat} (h_x_Points : Rd G 3 x_Points_p x_Points_c (x.Points.map enc_gauge_Point)) (hc : Ctx G (.box b_ [i6 x.Left,i6 x.Right,i6 x.Gap,i6 x.Step_,.slice x_Points_p x.Points.length x_Points_c] 136::Lf) w) {res : Bool} (hF : gauge_CheckSite_1 p_ x = res) : Calls Tryz.prog 180 #[.agg #[i6 p_.At,i6 p_.Depth,i6 p_.Cost],pq b_] w (fun e w => e = .returned (.bool res) ∧ Ctx G (.box b_ [i6 x.Left,i6 x.Right,i6 x.Gap,i6 x.Step_,.slice x_Points_p x.Points.length x_Points_c] 136::Lf) w) := by
 unfold gauge_CheckSite_1 at hF
 refine fnIn Tryz.func180 rfl Tryz.ntmps180 rfl fun a hf => zS fun K h => zB hf hc rfl fun b_1 a w hf hc => sp 1 hf rfl fun a hf => zT h ?_
 refine zS fun K h => zP hf rfl (pFA fa_202_0 rfl) fun a hf => zL hf hc sc_3 m0 rfl fun a w hf hc => zP hf rfl (pFA fa_136_0 rfl) fun a hf => zL hf hc sc_3 m1 rfl fun a w hf hc => sp 1 hf rfl fun a hf => zP hf rfl (pFA fa_136_1 rfl) fun a hf => zL hf hc sc_3 m1 rfl fun a w hf hc => sp 1 hf rfl fun a hf => zQ (v := .bool (gauge_in p_.At (W (x.Left + 1)) (W (x.Right - 1)))) hf hc en_146 rfl (fun w hc => gauge_in_ok p_.At (W (x.Left + 1)) (W (x.Right - 1)) hc rfl) fun a w hf hc => sp 1 hf rfl fun a hf => stCc 4 (fun a => Has 23 a [(1,pq b_),(2,pq b_1),(3,.bool false),(4,pq b_1),(5,i6 p_.At),(6,pq b_),(7,i6 x.Left),(8,i6 (W (x.Left + 1))),(9,.pointer (some ⟨b_,1,none⟩)),(10,i6 x.Right),(11,i6 (W (x.Right - 1))),(12,.bool (gauge_in p_.At (W (x.Left + 1)) (W (x.Right - 1)))),(13,.bool (gauge_in p_.At (W (x.Left + 1)) (W (x.Right - 1)))),(17,.bool ((gauge_in p_.At (W (x.Left + 1)) (W (x.Right - 1))) && (gauge_in p_.Depth 0 2000)))]) hc ?_ ?_
 ·cases hb : (gauge_in p_.At (W (x.Left + 1)) (W (x.Right - 1)))
  ·rw [hb] at hf
   refine stS hf rfl rfl rfl fun a hf => stS hf rfl rfl rfl fun a hf => stS hf rfl rfl rfl fun a hf => sp 1 hf rfl fun a hf => cNil ⟨hf.kp rfl,hc⟩
  ·rw [hb] at hf
   refine zP hf rfl (pFA fa_202_1 rfl) fun a hf => zL hf hc sc_3 m0 rfl fun a w hf hc => zQ (v := .bool (gauge_in p_.Depth 0 2000)) hf hc en_146 rfl (fun w hc => gauge_in_ok p_.Depth 0 2000 hc rfl) fun a w hf hc => sp 1 hf rfl fun a hf => cNil ⟨hf.kp rfl,hc⟩
 intro a w ⟨hf,hc⟩
 refine sp 1 hf rfl fun a hf => stCc 4 (fun a => Has 23 a [(1,pq b_),(2,pq b_1),(3,.bool false),(4,pq b_1),(5,i6 p_.At),(6,pq b_),(7,i6 x.Left),(8,i6 (W (x.Left + 1))),(9,.pointer (some ⟨b_,1,none⟩)),(10,i6 x.Right),(11,i6 (W (x.Right - 1))),(12,.bool (gauge_in p_.At (W (x.Left + 1)) (W (x.Right - 1)))),(13,.bool (gauge_in p_.At (W (x.Left + 1)) (W (x.Right - 1)))),(17,.bool ((gauge_in p_.At (W (x.Left + 1)) (W (x.Right - 1))) && (gauge_in p_.Depth 0 2000))),(18,.bool ((gauge_in p_.At (W (x.Left + 1)) (W (x.Right - 1))) && (gauge_in p_.Depth 0 2000))),(22,.bool (((gauge_in p_.At (W (x.Left + 1)) (W (x.Right - 1))) && (gauge_in p_.Depth 0 2000)) && (gauge_in p_.Cost 0 1000000)))]) hc ?_ ?_
 ·cases hb : ((gauge_in p_.At (W (x.Left + 1)) (W (x.Right - 1))) && (gauge_in p_.Depth 0 2000))
  ·rw [hb] at hf
   refine stS hf rfl rfl rfl fun a hf => stS hf rfl rfl rfl fun a hf => stS hf rfl rfl rfl fun a hf => sp 1 hf rfl fun a hf => cNil ⟨hf.kp rfl,hc⟩
  ·rw [hb] at hf
   refine zP hf rfl (pFA fa_202_2 rfl) fun a hf => zL hf hc sc_3 m0 rfl fun a w hf hc => zQ (v := .bool (gauge_in p_.Cost 0 1000000)) hf hc en_146 rfl (fun w hc => gauge_in_ok p_.Cost 0 1000000 hc rfl) fun a w hf hc => sp 1 hf rfl fun a hf => cNil ⟨hf.kp rfl,hc⟩
 intro a w ⟨hf,hc⟩
 refine sp 1 hf rfl fun a hf => zT h ?_
 refine wp_ret ?_
 obtain rfl := hF
 replace hc := hc.drop k0
 exact zO1 Tryz.results180 hf rfl ⟨rfl,hc⟩

def gauge_every_gauge_Point_1 (x : gauge_Point) (x_1 : gauge_Site) : Bool :=
 (!(gauge_CheckSite_1 x x_1))
theorem gauge_every_gauge_Point_1_ok {G : Pers} {Lf : List Ent} {w : World} (x : gauge_Point) (x_1 : gauge_Site) {b_ : Nat} {b__1 : Nat} {x_1_Points_p : Option Addr} {x_1_Points_c : Nat} (h_x_1_Points : Rd G 3 x_1_Points_p x_1_Points_c (x_1.Points.map enc_gauge_Point)) (hc : Ctx G (.box b_ [.func (.func 180) #[] #[pq b__1]] 230::.box b__1 [i6 x_1.Left,i6 x_1.Right,i6 x_1.Gap,i6 x_1.Step_,.slice x_1_Points_p x_1.Points.length x_1_Points_c] 136::Lf) w) {res : Bool} (hF : gauge_every_gauge_Point_1 x x_1 = res) : Calls Tryz.prog 199 #[.agg #[i6 x.At,i6 x.Depth,i6 x.Cost],pq b_] w (fun e w => e = .returned (.bool res) ∧ Ctx G (.box b_ [.func (.func 180) #[] #[pq b__1]] 230::.box b__1 [i6 x_1.Left,i6 x_1.Right,i6 x_1.Gap,i6 x_1.Step_,.slice x_1_Points_p x_1.Points.length x_1_Points_c] 136::Lf) w) := by
 unfold gauge_every_gauge_Point_1 at hF
 refine fnIn Tryz.func199 rfl Tryz.ntmps199 rfl fun a hf => zS fun K h => zB hf hc rfl fun b_1 a w hf hc => sp 1 hf rfl fun a hf => zT h ?_
 refine zS fun K h => zL hf hc sc_230 m1 rfl fun a w hf hc => zN hf hc ag_202 m0 rfl fun a w hf hc => zQ (v := .bool (gauge_CheckSite_1 x x_1)) hf hc en_180 rfl (fun w hc => (gauge_CheckSite_1_ok x x_1 h_x_1_Points (hc.pick k2) rfl).mono fun e w h => ⟨h.1,(h.2.unpick k2)⟩) fun a w hf hc => sp 2 hf rfl fun a hf => zT h ?_
 refine wp_ret ?_
 obtain rfl := hF
 replace hc := hc.drop k0
 exact zO1 Tryz.results199 hf rfl ⟨rfl,hc⟩

def slices_IndexFunc_Lgauge_Point_gauge_Point_b4 (N : Nat) (s_ : List gauge_Point) (f_ : gauge_Site) (x : Int) : Option (Step (Int) (Int)) :=
 cond (decide (x < ((s_.length : Nat) : Int)))
 (Option.bind (getI s_ x) fun e_1 =>
 cond (gauge_every_gauge_Point_1 e_1 f_)
 (some (.ret x))
 (some (.cont (W (x + 1)))))
 (some (.brk x))
def slices_IndexFunc_Lgauge_Point_gauge_Point (N : Nat) (s_ : List gauge_Point) (f_ : gauge_Site) : Option (Int) :=
 Option.bind (loopO (fun s4 => slices_IndexFunc_Lgauge_Point_gauge_Point_b4 N s_ f_ s4) N 0) fun x4 =>
 exK x4 (fun s4 => some (-1)) some
theorem slices_IndexFunc_Lgauge_Point_gauge_Point_ok {N : Nat} {G : Pers} {Lf : List Ent} {w : World} (s_ : List gauge_Point) (f_ : gauge_Site) {s__p : Option Addr} {s__c : Nat} {b_ : Nat} {b__1 : Nat} {f__Points_p : Option Addr} {f__Points_c : Nat} (h_s_ : Rd G 3 s__p s__c (s_.map enc_gauge_Point)) (h_f__Points : Rd G 3 f__Points_p f__Points_c (f_.Points.map enc_gauge_Point)) (hc : Ctx G (.box b_ [.func (.func 180) #[] #[pq b__1]] 230::.box b__1 [i6 f_.Left,i6 f_.Right,i6 f_.Gap,i6 f_.Step_,.slice f__Points_p f_.Points.length f__Points_c] 136::Lf) w) {res : Int} (hF : slices_IndexFunc_Lgauge_Point_gauge_Point N s_ f_ = some res) : Calls Tryz.prog 213 #[.slice s__p s_.length s__c,.func (.func 199) #[] #[pq b_]] w (fun e w => e = .returned (i6 res) ∧ Ctx G (.box b_ [.func (.func 180) #[] #[pq b__1]] 230::.box b__1 [i6 f_.Left,i6 f_.Right,i6 f_.Gap,i6 f_.Step_,.slice f__Points_p f_.Points.length f__Points_c] 136::Lf) w) := by
 unfold slices_IndexFunc_Lgauge_Point_gauge_Point at hF
 refine fnIn Tryz.func213 rfl Tryz.ntmps213 rfl fun a hf => zS fun K h => sp 1 hf rfl fun a hf => zT h ?_
 refine wp_seq_k fun K2 h2 => zS fun K h => sp 1 hf rfl fun a hf => zP hf rfl (pLenS Tryz.underlying134 rfl) fun a hf => sp 1 hf rfl fun a hf => zT h ?_
 refine wp_block ?_
 obtain ⟨x4,hx4,hF⟩ := bnd_some hF
 let S4 : Int → Act → World → Prop := (fun (zz : Int) a w => Has 19 a [(0,.slice s__p s_.length s__c),(1,.func (.func 199) #[] #[pq b_]),(7,i6 ((s_.length : Nat) : Int)),(8,i6 zz)] ∧ Ctx G (.box b_ [.func (.func 180) #[] #[pq b__1]] 230::.box b__1 [i6 f_.Left,i6 f_.Right,i6 f_.Gap,i6 f_.Step_,.slice f__Points_p f_.Points.length f__Points_c] 136::Lf) w)
 have hr4 : ∀ (zz : Int) a w,x4 = .go zz → S4 zz a w → K2 a w := by
  rintro x a w rfl ⟨hf,hc⟩
  replace hF := exK_go hF
  refine h2 _ _ ?_
  refine zS fun K h => sp 1 hf rfl fun a hf => zT h ?_
  refine wp_ret ?_
  obtain rfl := sj hF
  exact zO1 Tryz.results213 hf rfl ⟨rfl,hc⟩
 have ho4 : ∀ r,x4 = .out r → r = res := by
  rintro r rfl
  exact sj hF
 refine cLoop N (loopW (S := S4) (x := x4) ?_ N 0 _ _ ⟨hf.kp rfl,hc⟩ hx4)
 clear hF hf hc
 rintro x st4 a w KB4 ⟨hf,hc⟩ hF hfin4 hK4
 unfold slices_IndexFunc_Lgauge_Point_gauge_Point_b4 at hF
 refine zS fun K h => sp 1 hf rfl fun a hf => zT h ?_
 refine wp_seq_k fun K7 h7 => zI hf rfl hF ?_ ?_ <;> clear hF <;> intro hF
 ·refine wp_skip ?_
  refine h7 _ _ ?_
  refine wp_seq_k fun K8 h8 => wp_block ?_
  refine zS fun K h => sp 2 hf rfl fun a hf => zT h ?_
  refine zS fun K h => sp 3 hf rfl fun a hf => ?_
  obtain ⟨e_1,he_1,hF⟩ := bnd_some hF
  obtain ⟨b_1,o,qa,qp⟩ := h_s_.atm he_1
  refine zP hf rfl (pIA Tryz.underlying134 sz_202 rfl rfl qa) fun a hf => zE hf hc rfl (eLdN (vs := [i6 e_1.At,i6 e_1.Depth,i6 e_1.Cost]) ag_202 rfl rfl (cells_pc qp (n := 3) (o' := 0) rfl)) fun a w hf hc => zQ (v := .bool (gauge_every_gauge_Point_1 e_1 f_)) hf hc en_199 rfl (fun w hc => (gauge_every_gauge_Point_1_ok e_1 f_ h_f__Points ((hc.pick k1).pick k1) rfl).mono fun e w h => ⟨h.1,((h.2.unpick k1).unpick k1)⟩) fun a w hf hc => zT h ?_
  refine zI hf rfl hF ?_ ?_ <;> clear hF <;> intro hF
  ·refine zS fun K h => sp 2 hf rfl fun a hf => zT h ?_
   refine wp_ret ?_
   refine xBlkR ?_
   refine xThenR ?_
   refine xThenR ?_
   have he := sj hF
   rw [← he] at hfin4
   replace hF := ho4 _ hfin4
   refine xBlkR ?_
   refine xThenR ?_
   obtain rfl := hF
   exact zO1 Tryz.results213 hf rfl ⟨rfl,hc⟩
  ·refine wp_skip ?_
   refine h8 _ _ ?_
   refine cReg ?_
   refine sp 2 hf rfl fun a hf => cNil ?_
   exact hK4 (W (x + 1)) _ _ (sj hF).symm ⟨hf.kp rfl,hc⟩
 ·refine wp_exit ?_
  refine xThen ?_
  refine xThen ?_
  have he := sj hF
  rw [← he] at hfin4
  refine cHit ?_
  exact hr4 _ _ _ hfin4 ⟨hf.kp rfl,hc⟩

def slices_ContainsFunc_Lgauge_Point_gauge_Point (N : Nat) (s_ : List gauge_Point) (f_ : gauge_Site) : Option (Bool) :=
 Option.bind (slices_IndexFunc_Lgauge_Point_gauge_Point N s_ f_) fun r =>
 some (decide (0 ≤ r))
theorem slices_ContainsFunc_Lgauge_Point_gauge_Point_ok {N : Nat} {G : Pers} {Lf : List Ent} {w : World} (s_ : List gauge_Point) (f_ : gauge_Site) {s__p : Option Addr} {s__c : Nat} {b_ : Nat} {b__1 : Nat} {f__Points_p : Option Addr} {f__Points_c : Nat} (h_s_ : Rd G 3 s__p s__c (s_.map enc_gauge_Point)) (h_f__Points : Rd G 3 f__Points_p f__Points_c (f_.Points.map enc_gauge_Point)) (hc : Ctx G (.box b_ [.func (.func 180) #[] #[pq b__1]] 230::.box b__1 [i6 f_.Left,i6 f_.Right,i6 f_.Gap,i6 f_.Step_,.slice f__Points_p f_.Points.length f__Points_c] 136::Lf) w) {res : Bool} (hF : slices_ContainsFunc_Lgauge_Point_gauge_Point N s_ f_ = some res) : Calls Tryz.prog 198 #[.slice s__p s_.length s__c,.func (.func 199) #[] #[pq b_]] w (fun e w => e = .returned (.bool res) ∧ Ctx G (.box b_ [.func (.func 180) #[] #[pq b__1]] 230::.box b__1 [i6 f_.Left,i6 f_.Right,i6 f_.Gap,i6 f_.Step_,.slice f__Points_p f_.Points.length f__Points_c] 136::Lf) w) := by
 unfold slices_ContainsFunc_Lgauge_Point_gauge_Point at hF
 refine fnIn Tryz.func198 rfl Tryz.ntmps198 rfl fun a hf => zS fun K h => sp 1 hf rfl fun a hf => zT h ?_
 refine zS fun K h => sp 2 hf rfl fun a hf => ?_
 obtain ⟨r,hr,hF⟩ := bnd_some hF
 refine zQ (v := i6 r) hf hc en_213 rfl (fun w hc => (slices_IndexFunc_Lgauge_Point_gauge_Point_ok s_ f_ h_s_ h_f__Points ((hc.pick k1).pick k1) hr).mono fun e w h => ⟨h.1,((h.2.unpick k1).unpick k1)⟩) fun a w hf hc => sp 2 hf rfl fun a hf => zT h ?_
 refine wp_ret ?_
 obtain rfl := sj hF
 exact zO1 Tryz.results198 hf rfl ⟨rfl,hc⟩

def gauge_every_gauge_Point (N : Nat) (l : List gauge_Point) (so : gauge_Site) : Option (Bool) :=
 Option.bind (slices_ContainsFunc_Lgauge_Point_gauge_Point N l so) fun r =>
 some (!r)
theorem gauge_every_gauge_Point_ok {N : Nat} {G : Pers} {Lf : List Ent} {w : World} (l : List gauge_Point) (so : gauge_Site) {l_p : Option Addr} {l_c : Nat} {b_ : Nat} {so_Points_p : Option Addr} {so_Points_c : Nat} (h_l : Rd G 3 l_p l_c (l.map enc_gauge_Point)) (h_so_Points : Rd G 3 so_Points_p so_Points_c (so.Points.map enc_gauge_Point)) (hc : Ctx G (.box b_ [i6 so.Left,i6 so.Right,i6 so.Gap,i6 so.Step_,.slice so_Points_p so.Points.length so_Points_c] 136::Lf) w) {res : Bool} (hF : gauge_every_gauge_Point N l so = some res) : Calls Tryz.prog 179 #[.slice l_p l.length l_c,.func (.func 180) #[] #[pq b_]] w (fun e w => e = .returned (.bool res) ∧ Ctx G (.box b_ [i6 so.Left,i6 so.Right,i6 so.Gap,i6 so.Step_,.slice so_Points_p so.Points.length so_Points_c] 136::Lf) w) := by
 unfold gauge_every_gauge_Point at hF
 refine fnIn Tryz.func179 rfl Tryz.ntmps179 rfl fun a hf => zS fun K h => zB hf hc rfl fun b_1 a w hf hc => sp 1 hf rfl fun a hf => zT h ?_
 refine zS fun K h => sp 1 hf rfl fun a hf => zP hf rfl (pMF (us := [pq b_1]) rfl rfl) fun a hf => ?_
 obtain ⟨r,hr,hF⟩ := bnd_some hF
 refine zQ (v := .bool r) hf hc en_198 rfl (fun w hc => (slices_ContainsFunc_Lgauge_Point_gauge_Point_ok l so h_l h_so_Points ((hc.pick k1).pick k1) hr).mono fun e w h => ⟨h.1,((h.2.unpick k1).unpick k1)⟩) fun a w hf hc => sp 2 hf rfl fun a hf => zT h ?_
 refine wp_ret ?_
 obtain rfl := sj hF
 replace hc := hc.drop k0
 exact zO1 Tryz.results179 hf rfl ⟨rfl,hc⟩

def gauge_CheckSite_2 (N : Nat) (i_ : Int) (x : gauge_Site) : Option (Int) :=
 Option.bind (getI x.Points i_) fun e_1 =>
 some e_1.At
theorem gauge_CheckSite_2_ok {N : Nat} {G : Pers} {Lf : List Ent} {w : World} (i_ : Int) (x : gauge_Site) {b_ : Nat} {x_Points_p : Option Addr} {x_Points_c : Nat} (h_x_Points : Rd G 3 x_Points_p x_Points_c (x.Points.map enc_gauge_Point)) (hc : Ctx G (.box b_ [i6 x.Left,i6 x.Right,i6 x.Gap,i6 x.Step_,.slice x_Points_p x.Points.length x_Points_c] 136::Lf) w) {res : Int} (hF : gauge_CheckSite_2 N i_ x = some res) : Calls Tryz.prog 181 #[i6 i_,pq b_] w (fun e w => e = .returned (i6 res) ∧ Ctx G (.box b_ [i6 x.Left,i6 x.Right,i6 x.Gap,i6 x.Step_,.slice x_Points_p x.Points.length x_Points_c] 136::Lf) w) := by
 unfold gauge_CheckSite_2 at hF
 refine fnIn Tryz.func181 rfl Tryz.ntmps181 rfl fun a hf => zS fun K h => sp 1 hf rfl fun a hf => zT h ?_
 refine zS fun K h => zP hf rfl (pFA fa_136_4 rfl) fun a hf => zL hf hc sc_134 m0 rfl fun a w hf hc => sp 1 hf rfl fun a hf => ?_
 obtain ⟨e_1,he_1,hF⟩ := bnd_some hF
 obtain ⟨b_1,o,qa,qp⟩ := h_x_Points.atm he_1
 refine zP hf rfl (pIA Tryz.underlying134 sz_202 rfl rfl qa) fun a hf => zP hf rfl (pFA fa_202_0 rfl) fun a hf => zE hf hc rfl (eLd1 sc_3 rfl (cell_pc (j := 0) qp rfl)) fun a w hf hc => sp 1 hf rfl fun a hf => zT h ?_
 refine wp_ret ?_
 obtain rfl := sj hF
 exact zO1 Tryz.results181 hf rfl ⟨rfl,hc⟩

def gauge_rising_b4 (N : Nat) (many : Int) (at_ : gauge_Site) (i_1 : Int) : Option (Step (Int) (Bool)) :=
 cond (decide (i_1 < many))
 (Option.bind (gauge_CheckSite_2 N i_1 at_) fun r =>
 Option.bind (gauge_CheckSite_2 N (W (i_1 - 1)) at_) fun r_1 =>
 cond (decide (r ≤ r_1))
 (some (.ret false))
 (some (.cont (W (i_1 + 1)))))
 (some (.brk i_1))
def gauge_rising (N : Nat) (many : Int) (at_ : gauge_Site) : Option (Bool) :=
 Option.bind (loopO (fun s4 => gauge_rising_b4 N many at_ s4) N 1) fun x4 =>
 exK x4 (fun s4 => some true) some
theorem gauge_rising_ok {N : Nat} {G : Pers} {Lf : List Ent} {w : World} (many : Int) (at_ : gauge_Site) {b_ : Nat} {at__Points_p : Option Addr} {at__Points_c : Nat} (h_at__Points : Rd G 3 at__Points_p at__Points_c (at_.Points.map enc_gauge_Point)) (hc : Ctx G (.box b_ [i6 at_.Left,i6 at_.Right,i6 at_.Gap,i6 at_.Step_,.slice at__Points_p at_.Points.length at__Points_c] 136::Lf) w) {res : Bool} (hF : gauge_rising N many at_ = some res) : Calls Tryz.prog 147 #[i6 many,.func (.func 181) #[] #[pq b_]] w (fun e w => e = .returned (.bool res) ∧ Ctx G (.box b_ [i6 at_.Left,i6 at_.Right,i6 at_.Gap,i6 at_.Step_,.slice at__Points_p at_.Points.length at__Points_c] 136::Lf) w) := by
 unfold gauge_rising at hF
 refine fnIn Tryz.func147 rfl Tryz.ntmps147 rfl fun a hf => zS fun K h => sp 1 hf rfl fun a hf => zT h ?_
 refine wp_seq_k fun K2 h2 => zS fun K h => sp 1 hf rfl fun a hf => zT h ?_
 refine wp_block ?_
 obtain ⟨x4,hx4,hF⟩ := bnd_some hF
 let S4 : Int → Act → World → Prop := (fun (zz : Int) a w => Has 19 a [(0,i6 many),(1,.func (.func 181) #[] #[pq b_]),(5,i6 zz)] ∧ Ctx G (.box b_ [i6 at_.Left,i6 at_.Right,i6 at_.Gap,i6 at_.Step_,.slice at__Points_p at_.Points.length at__Points_c] 136::Lf) w)
 have hr4 : ∀ (zz : Int) a w,x4 = .go zz → S4 zz a w → K2 a w := by
  rintro i_1 a w rfl ⟨hf,hc⟩
  replace hF := exK_go hF
  refine h2 _ _ ?_
  refine zS fun K h => sp 1 hf rfl fun a hf => zT h ?_
  refine wp_ret ?_
  obtain rfl := sj hF
  exact zO1 Tryz.results147 hf rfl ⟨rfl,hc⟩
 have ho4 : ∀ r,x4 = .out r → r = res := by
  rintro r rfl
  exact sj hF
 refine cLoop N (loopW (S := S4) (x := x4) ?_ N 1 _ _ ⟨hf.kp rfl,hc⟩ hx4)
 clear hF hf hc
 rintro i_1 st4 a w KB4 ⟨hf,hc⟩ hF hfin4 hK4
 unfold gauge_rising_b4 at hF
 refine wp_seq_k fun K6 h6 => zS fun K h => sp 3 hf rfl fun a hf => zT h ?_
 refine zI hf rfl hF ?_ ?_ <;> clear hF <;> intro hF
 ·refine wp_skip ?_
  refine h6 _ _ ?_
  refine wp_seq_k fun K8 h8 => wp_block ?_
  refine zS fun K h => sp 2 hf rfl fun a hf => ?_
  obtain ⟨r,hr,hF⟩ := bnd_some hF
  refine zQ (v := i6 r) hf hc en_181 rfl (fun w hc => (gauge_CheckSite_2_ok i_1 at_ h_at__Points (hc.pick k0) hr).mono fun e w h => ⟨h.1,(h.2.unpick k0)⟩) fun a w hf hc => sp 3 hf rfl fun a hf => ?_
  obtain ⟨r_1,hr_1,hF⟩ := bnd_some hF
  refine zQ (v := i6 r_1) hf hc en_181 rfl (fun w hc => (gauge_CheckSite_2_ok (W (i_1 - 1)) at_ h_at__Points (hc.pick k0) hr_1).mono fun e w h => ⟨h.1,(h.2.unpick k0)⟩) fun a w hf hc => sp 1 hf rfl fun a hf => zT h ?_
  refine zI hf rfl hF ?_ ?_ <;> clear hF <;> intro hF
  ·refine zS fun K h => sp 1 hf rfl fun a hf => zT h ?_
   refine wp_ret ?_
   refine xBlkR ?_
   refine xThenR ?_
   refine xThenR ?_
   have he := sj hF
   rw [← he] at hfin4
   replace hF := ho4 _ hfin4
   refine xBlkR ?_
   refine xThenR ?_
   obtain rfl := hF
   exact zO1 Tryz.results147 hf rfl ⟨rfl,hc⟩
  ·refine wp_skip ?_
   refine h8 _ _ ?_
   refine cReg ?_
   refine sp 3 hf rfl fun a hf => cNil ?_
   exact hK4 (W (i_1 + 1)) _ _ (sj hF).symm ⟨hf.kp rfl,hc⟩
 ·refine wp_exit ?_
  refine xThen ?_
  refine xThen ?_
  have he := sj hF
  rw [← he] at hfin4
  refine cHit ?_
  exact hr4 _ _ _ hfin4 ⟨hf.kp rfl,hc⟩

def gauge_CheckSite (N : Nat) (s_ : gauge_Site) : Option (Int) :=
 cond (decide (30 < ((s_.Points.length : Nat) : Int)))
 (some 3)
 (Option.bind (cond (((!(gauge_shore s_.Left s_.Right)) || (!(gauge_in s_.Gap 1 10000))) || (!(gauge_in s_.Step_ 0 2000))) (some true) (Option.bind (gauge_every_gauge_Point N s_.Points s_) fun r =>
 some (!r))) fun t_1 =>
 cond t_1
 (some 40)
 (Option.bind (gauge_rising N ((s_.Points.length : Nat) : Int) s_) fun r_1 =>
 cond (!r_1)
 (some 9)
 (some 0)))
theorem gauge_CheckSite_ok {N : Nat} {G : Pers} {Lf : List Ent} {w : World} (s_ : gauge_Site) {s__Points_p : Option Addr} {s__Points_c : Nat} (h_s__Points : Rd G 3 s__Points_p s__Points_c (s_.Points.map enc_gauge_Point)) (hc : Ctx G (Lf) w) {res : Int} (hF : gauge_CheckSite N s_ = some res) : Calls Tryz.prog 143 #[.agg #[i6 s_.Left,i6 s_.Right,i6 s_.Gap,i6 s_.Step_,.slice s__Points_p s_.Points.length s__Points_c]] w (fun e w => e = .returned (i6 res) ∧ Ctx G (Lf) w) := by
 unfold gauge_CheckSite at hF
 refine fnIn Tryz.func143 rfl Tryz.ntmps143 rfl fun a hf => zS fun K h => zB hf hc rfl fun b_1 a w hf hc => sp 1 hf rfl fun a hf => zT h ?_
 refine wp_seq_k fun K2 h2 => wp_block ?_
 refine zS fun K h => zP hf rfl (pFA fa_136_4 rfl) fun a hf => zL hf hc sc_134 m0 rfl fun a w hf hc => zP hf rfl (pLenS Tryz.underlying134 rfl) fun a hf => sp 2 hf rfl fun a hf => zT h ?_
 refine zI hf rfl hF ?_ ?_ <;> clear hF <;> intro hF
 ·refine zS fun K h => sp 1 hf rfl fun a hf => zT h ?_
  refine wp_ret ?_
  refine xBlkR ?_
  refine xThenR ?_
  obtain rfl := sj hF
  replace hc := hc.drop k0
  exact zO1 Tryz.results143 hf rfl ⟨rfl,hc⟩
 ·refine zS fun K h => zP hf rfl (pFA fa_136_0 rfl) fun a hf => zL hf hc sc_3 m0 rfl fun a w hf hc => zP hf rfl (pFA fa_136_1 rfl) fun a hf => zL hf hc sc_3 m0 rfl fun a w hf hc => zQ (v := .bool (gauge_shore s_.Left s_.Right)) hf hc en_178 rfl (fun w hc => gauge_shore_ok s_.Left s_.Right hc rfl) fun a w hf hc => sp 2 hf rfl fun a hf => stCc 5 (fun a => Has 41 a [(1,pq b_1),(9,pq b_1),(10,i6 s_.Left),(11,.pointer (some ⟨b_1,1,none⟩)),(12,i6 s_.Right),(13,.bool (gauge_shore s_.Left s_.Right)),(14,.bool (!(gauge_shore s_.Left s_.Right))),(15,.bool (!(gauge_shore s_.Left s_.Right))),(20,.bool ((!(gauge_shore s_.Left s_.Right)) || (!(gauge_in s_.Gap 1 10000))))]) hc ?_ ?_
  ·cases hb : (!(gauge_shore s_.Left s_.Right))
   ·rw [hb] at hf
    refine zP hf rfl (pFA fa_136_2 rfl) fun a hf => zL hf hc sc_3 m0 rfl fun a w hf hc => zQ (v := .bool (gauge_in s_.Gap 1 10000)) hf hc en_146 rfl (fun w hc => gauge_in_ok s_.Gap 1 10000 hc rfl) fun a w hf hc => sp 2 hf rfl fun a hf => cNil ⟨hf.kp rfl,hc⟩
   ·rw [hb] at hf
    refine stS hf rfl rfl rfl fun a hf => stS hf rfl rfl rfl fun a hf => stS hf rfl rfl rfl fun a hf => stS hf rfl rfl rfl fun a hf => sp 1 hf rfl fun a hf => cNil ⟨hf.kp rfl,hc⟩
  intro a w ⟨hf,hc⟩
  refine sp 1 hf rfl fun a hf => stCc 5 (fun a => Has 41 a [(1,pq b_1),(9,pq b_1),(10,i6 s_.Left),(11,.pointer (some ⟨b_1,1,none⟩)),(12,i6 s_.Right),(13,.bool (gauge_shore s_.Left s_.Right)),(14,.bool (!(gauge_shore s_.Left s_.Right))),(15,.bool (!(gauge_shore s_.Left s_.Right))),(20,.bool ((!(gauge_shore s_.Left s_.Right)) || (!(gauge_in s_.Gap 1 10000)))),(21,.bool ((!(gauge_shore s_.Left s_.Right)) || (!(gauge_in s_.Gap 1 10000)))),(26,.bool (((!(gauge_shore s_.Left s_.Right)) || (!(gauge_in s_.Gap 1 10000))) || (!(gauge_in s_.Step_ 0 2000))))]) hc ?_ ?_
  ·cases hb : ((!(gauge_shore s_.Left s_.Right)) || (!(gauge_in s_.Gap 1 10000)))
   ·rw [hb] at hf
    refine zP hf rfl (pFA fa_136_3 rfl) fun a hf => zL hf hc sc_3 m0 rfl fun a w hf hc => zQ (v := .bool (gauge_in s_.Step_ 0 2000)) hf hc en_146 rfl (fun w hc => gauge_in_ok s_.Step_ 0 2000 hc rfl) fun a w hf hc => sp 2 hf rfl fun a hf => cNil ⟨hf.kp rfl,hc⟩
   ·rw [hb] at hf
    refine stS hf rfl rfl rfl fun a hf => stS hf rfl rfl rfl fun a hf => stS hf rfl rfl rfl fun a hf => stS hf rfl rfl rfl fun a hf => sp 1 hf rfl fun a hf => cNil ⟨hf.kp rfl,hc⟩
  intro a w ⟨hf,hc⟩
  refine sp 1 hf rfl fun a hf => ?_
  obtain ⟨t_1,ht_1,hF⟩ := bnd_some hF
  refine stCc 6 (fun a => Has 41 a [(1,pq b_1),(9,pq b_1),(10,i6 s_.Left),(11,.pointer (some ⟨b_1,1,none⟩)),(12,i6 s_.Right),(13,.bool (gauge_shore s_.Left s_.Right)),(14,.bool (!(gauge_shore s_.Left s_.Right))),(15,.bool (!(gauge_shore s_.Left s_.Right))),(20,.bool ((!(gauge_shore s_.Left s_.Right)) || (!(gauge_in s_.Gap 1 10000)))),(21,.bool ((!(gauge_shore s_.Left s_.Right)) || (!(gauge_in s_.Gap 1 10000)))),(26,.bool (((!(gauge_shore s_.Left s_.Right)) || (!(gauge_in s_.Gap 1 10000))) || (!(gauge_in s_.Step_ 0 2000)))),(27,.bool (((!(gauge_shore s_.Left s_.Right)) || (!(gauge_in s_.Gap 1 10000))) || (!(gauge_in s_.Step_ 0 2000)))),(33,.bool t_1)]) hc ?_ ?_
  ·cases hb : (((!(gauge_shore s_.Left s_.Right)) || (!(gauge_in s_.Gap 1 10000))) || (!(gauge_in s_.Step_ 0 2000)))
   ·rw [hb] at hf
    have hF := condF hb ht_1
    refine zP hf rfl (pFA fa_136_4 rfl) fun a hf => zL hf hc sc_134 m0 rfl fun a w hf hc => zP hf rfl (pMF (us := [pq b_1]) rfl rfl) fun a hf => ?_
    obtain ⟨r,hr,hF⟩ := bnd_some hF
    refine zQ (v := .bool r) hf hc en_179 rfl (fun w hc => (gauge_every_gauge_Point_ok s_.Points s_ h_s__Points h_s__Points (hc.pick k0) hr).mono fun e w h => ⟨h.1,(h.2.unpick k0)⟩) fun a w hf hc => sp 2 hf rfl fun a hf => ?_
    obtain rfl := sj hF
    exact cNil ⟨hf.kp rfl,hc⟩
   ·rw [hb] at hf
    have hF := condT hb ht_1
    obtain rfl := sj hF
    refine stS hf rfl rfl rfl fun a hf => stS hf rfl rfl rfl fun a hf => stS hf rfl rfl rfl fun a hf => stS hf rfl rfl rfl fun a hf => stS hf rfl rfl rfl fun a hf => sp 1 hf rfl fun a hf => cNil ⟨hf.kp rfl,hc⟩
  intro a w ⟨hf,hc⟩
  refine sp 1 hf rfl fun a hf => zT h ?_
  refine zI hf rfl hF ?_ ?_ <;> clear hF <;> intro hF
  ·refine zS fun K h => sp 1 hf rfl fun a hf => zT h ?_
   refine wp_ret ?_
   refine xBlkR ?_
   refine xThenR ?_
   obtain rfl := sj hF
   replace hc := hc.drop k0
   exact zO1 Tryz.results143 hf rfl ⟨rfl,hc⟩
  ·refine zS fun K h => zP hf rfl (pFA fa_136_4 rfl) fun a hf => zL hf hc sc_134 m0 rfl fun a w hf hc => zP hf rfl (pLenS Tryz.underlying134 rfl) fun a hf => zP hf rfl (pMF (us := [pq b_1]) rfl rfl) fun a hf => ?_
   obtain ⟨r_1,hr_1,hF⟩ := bnd_some hF
   refine zQ (v := .bool r_1) hf hc en_147 rfl (fun w hc => (gauge_rising_ok ((s_.Points.length : Nat) : Int) s_ h_s__Points (hc.pick k0) hr_1).mono fun e w h => ⟨h.1,(h.2.unpick k0)⟩) fun a w hf hc => sp 2 hf rfl fun a hf => zT h ?_
   refine zI hf rfl hF ?_ ?_ <;> clear hF <;> intro hF
   ·refine zS fun K h => sp 1 hf rfl fun a hf => zT h ?_
    refine wp_ret ?_
    refine xBlkR ?_
    refine xThenR ?_
    obtain rfl := sj hF
    replace hc := hc.drop k0
    exact zO1 Tryz.results143 hf rfl ⟨rfl,hc⟩
   ·refine wp_skip ?_
    refine h2 _ _ ?_
    refine zS fun K h => sp 1 hf rfl fun a hf => zT h ?_
    refine wp_ret ?_
    obtain rfl := sj hF
    replace hc := hc.drop k0
    exact zO1 Tryz.results143 hf rfl ⟨rfl,hc⟩

def gauge_far (N : Nat)  : Option (gauge_spent) :=
 some (⟨1000000000,0⟩ : gauge_spent)
theorem gauge_far_ok {N : Nat} {G : Pers} {Lf : List Ent} {w : World}    (hc : Ctx G (Lf) w) {res : gauge_spent} (hF : gauge_far N = some res) : Calls Tryz.prog 141 #[] w (fun e w => e = .returned (.agg #[i6 res.cost,i6 res.points]) ∧ Ctx G (Lf) w) := by
 unfold gauge_far at hF
 refine fnIn Tryz.func141 rfl Tryz.ntmps141 rfl fun a hf => zS fun K h => zA hf hc zr_207 rfl fun b_1 a w hf hc => zT h ?_
 refine zS fun K h => zP hf rfl (pBuildS (cells := [i6 1000000000,i6 0]) bt_207 rfl rfl) fun a hf => zW hf hc sz_207 u0 rfl fun w hc => zT h ?_
 refine wp_ret ?_
 obtain rfl := sj hF
 exact fnOut1 (by simp) rfl Tryz.results141 hf hc (rv_cellN (vs := [i6 1000000000,i6 0]) ag_207 rfl rfl (cells_box (n := 2) m0 rfl)) ⟨rfl,(hc.drop k0)⟩

def gauge_work_station (N : Nat) (w_ : gauge_work) (i_ : Int) : Option (gauge_Point) :=
 cond (i_ == 0)
 (some (⟨w_.Site.Left,0,0⟩ : gauge_Point))
 (cond (i_ == (W (((w_.Site.Points.length : Nat) : Int) + 1)))
 (some (⟨w_.Site.Right,0,0⟩ : gauge_Point))
 (Option.bind (getI w_.Site.Points (W (i_ - 1))) fun e_1 =>
 some e_1))
theorem gauge_work_station_ok {N : Nat} {G : Pers} {Lf : List Ent} {w : World} (w_ : gauge_work) (i_ : Int) {b_ : Nat} {w__Site_Points_p : Option Addr} {w__Site_Points_c : Nat} {mb : Nat} (h_w__Site_Points : Rd G 3 w__Site_Points_p w__Site_Points_c (w_.Site.Points.map enc_gauge_Point)) (hc : Ctx G (.box b_ (catc [i6 w_.Site.Left,i6 w_.Site.Right,i6 w_.Site.Gap,i6 w_.Site.Step_,.slice w__Site_Points_p w_.Site.Points.length w__Site_Points_c] 32 enc_gauge_spent w_.least [.map (some mb)]) 211::.im mb (fun j => (w_.from_ j).map (Value.int .i64)) none::Lf) w) {res : gauge_Point} (hF : gauge_work_station N w_ i_ = some res) : Calls Tryz.prog 151 #[pq b_,i6 i_] w (fun e w => e = .returned (.agg #[i6 res.At,i6 res.Depth,i6 res.Cost]) ∧ Ctx G (.box b_ (catc [i6 w_.Site.Left,i6 w_.Site.Right,i6 w_.Site.Gap,i6 w_.Site.Step_,.slice w__Site_Points_p w_.Site.Points.length w__Site_Points_c] 32 enc_gauge_spent w_.least [.map (some mb)]) 211::.im mb (fun j => (w_.from_ j).map (Value.int .i64)) none::Lf) w) := by
 unfold gauge_work_station at hF
 refine fnIn Tryz.func151 rfl Tryz.ntmps151 rfl fun a hf => zS fun K h => zA hf hc zr_202 rfl fun b_1 a w hf hc => zT h ?_
 refine wp_seq_k fun K2 h2 => zS fun K h => sp 1 hf rfl fun a hf => zT h ?_
 refine wp_block ?_
 refine zS fun K h => sp 2 hf rfl fun a hf => zT h ?_
 refine zI hf rfl hF ?_ ?_ <;> clear hF <;> intro hF
 ·refine zS fun K h => sp 2 hf rfl fun a hf => zP hf rfl (pFA fa_211_0 rfl) fun a hf => zP hf rfl (pFA fa_136_0 rfl) fun a hf => zL hf hc sc_3 m1 rfl fun a w hf hc => zP hf rfl (pBuildS (cells := [i6 w_.Site.Left,i6 0,i6 0]) bt_202 rfl rfl) fun a hf => zW hf hc sz_202 u0 rfl fun w hc => zT h ?_
  refine wp_ret ?_
  refine xBlkR ?_
  refine xThenR ?_
  obtain rfl := sj hF
  replace hc := ((hc.pick k0).pick k2).pick k2
  exact fnOut1 (by simp) rfl Tryz.results151 hf hc (rv_cellN (vs := [i6 w_.Site.Left,i6 0,i6 0]) ag_202 rfl rfl (cells_box (n := 3) m2 rfl)) ⟨rfl,(hc.drop k2)⟩
 ·refine zS fun K h => sp 2 hf rfl fun a hf => zP hf rfl (pFA fa_211_0 rfl) fun a hf => zP hf rfl (pFA fa_136_4 rfl) fun a hf => zL hf hc sc_134 m1 rfl fun a w hf hc => zP hf rfl (pLenS Tryz.underlying134 rfl) fun a hf => sp 3 hf rfl fun a hf => zT h ?_
  refine zI hf rfl hF ?_ ?_ <;> clear hF <;> intro hF
  ·refine zS fun K h => sp 2 hf rfl fun a hf => zP hf rfl (pFA fa_211_0 rfl) fun a hf => zP hf rfl (pFA fa_136_1 rfl) fun a hf => zL hf hc sc_3 m1 rfl fun a w hf hc => zP hf rfl (pBuildS (cells := [i6 w_.Site.Right,i6 0,i6 0]) bt_202 rfl rfl) fun a hf => zW hf hc sz_202 u0 rfl fun w hc => zT h ?_
   refine wp_ret ?_
   refine xBlkR ?_
   refine xThenR ?_
   obtain rfl := sj hF
   replace hc := ((hc.pick k0).pick k2).pick k2
   exact fnOut1 (by simp) rfl Tryz.results151 hf hc (rv_cellN (vs := [i6 w_.Site.Right,i6 0,i6 0]) ag_202 rfl rfl (cells_box (n := 3) m2 rfl)) ⟨rfl,(hc.drop k2)⟩
  ·refine wp_skip ?_
   refine h2 _ _ ?_
   refine zS fun K h => sp 2 hf rfl fun a hf => zP hf rfl (pFA fa_211_0 rfl) fun a hf => zP hf rfl (pFA fa_136_4 rfl) fun a hf => zL hf hc sc_134 m1 rfl fun a w hf hc => sp 2 hf rfl fun a hf => ?_
   obtain ⟨e_1,he_1,hF⟩ := bnd_some hF
   obtain ⟨b_2,o,qa,qp⟩ := h_w__Site_Points.atm he_1
   refine zP hf rfl (pIA Tryz.underlying134 sz_202 rfl rfl qa) fun a hf => zE hf hc rfl (eLdN (vs := [i6 e_1.At,i6 e_1.Depth,i6 e_1.Cost]) ag_202 rfl rfl (cells_pc qp (n := 3) (o' := 0) rfl)) fun a w hf hc => zW hf hc sz_202 u0 rfl fun w hc => zT h ?_
   refine wp_ret ?_
   obtain rfl := sj hF
   replace hc := ((hc.pick k0).pick k2).pick k2
   exact fnOut1 (by simp) rfl Tryz.results151 hf hc (rv_cellN (vs := [i6 e_1.At,i6 e_1.Depth,i6 e_1.Cost]) ag_202 rfl rfl (cells_box (n := 3) m2 rfl)) ⟨rfl,(hc.drop k2)⟩

def gauge_work_steps (N : Nat) (w_ : gauge_work) (a_ : Int) (b__1 : Int) : Option (Bool) :=
 Option.bind (gauge_work_station N w_ a_) fun r =>
 Option.bind (gauge_work_station N w_ b__1) fun r_1 =>
 some ((decide ((W (r_1.At - r.At)) ≤ w_.Site.Gap)) && (decide ((max (W (r.Depth - r_1.Depth)) (W (r_1.Depth - r.Depth))) ≤ w_.Site.Step_)))
theorem gauge_work_steps_ok {N : Nat} {G : Pers} {Lf : List Ent} {w : World} (w_ : gauge_work) (a_ : Int) (b__1 : Int) {b_ : Nat} {w__Site_Points_p : Option Addr} {w__Site_Points_c : Nat} {mb : Nat} (h_w__Site_Points : Rd G 3 w__Site_Points_p w__Site_Points_c (w_.Site.Points.map enc_gauge_Point)) (hc : Ctx G (.box b_ (catc [i6 w_.Site.Left,i6 w_.Site.Right,i6 w_.Site.Gap,i6 w_.Site.Step_,.slice w__Site_Points_p w_.Site.Points.length w__Site_Points_c] 32 enc_gauge_spent w_.least [.map (some mb)]) 211::.im mb (fun j => (w_.from_ j).map (Value.int .i64)) none::Lf) w) {res : Bool} (hF : gauge_work_steps N w_ a_ b__1 = some res) : Calls Tryz.prog 149 #[pq b_,i6 a_,i6 b__1] w (fun e w => e = .returned (.bool res) ∧ Ctx G (.box b_ (catc [i6 w_.Site.Left,i6 w_.Site.Right,i6 w_.Site.Gap,i6 w_.Site.Step_,.slice w__Site_Points_p w_.Site.Points.length w__Site_Points_c] 32 enc_gauge_spent w_.least [.map (some mb)]) 211::.im mb (fun j => (w_.from_ j).map (Value.int .i64)) none::Lf) w) := by
 unfold gauge_work_steps at hF
 refine fnIn Tryz.func149 rfl Tryz.ntmps149 rfl fun a hf => zS fun K h => sp 1 hf rfl fun a hf => zT h ?_
 refine zS fun K h => sp 2 hf rfl fun a hf => ?_
 obtain ⟨r,hr,hF⟩ := bnd_some hF
 refine zQ (v := .agg #[i6 r.At,i6 r.Depth,i6 r.Cost]) hf hc en_151 rfl (fun w hc => (gauge_work_station_ok w_ a_ h_w__Site_Points ((hc.pick k1).pick k1) hr).mono fun e w h => ⟨h.1,((h.2.unpick k1).unpick k1)⟩) fun a w hf hc => sp 2 hf rfl fun a hf => ?_
 obtain ⟨r_1,hr_1,hF⟩ := bnd_some hF
 refine zQ (v := .agg #[i6 r_1.At,i6 r_1.Depth,i6 r_1.Cost]) hf hc en_151 rfl (fun w hc => (gauge_work_station_ok w_ b__1 h_w__Site_Points ((hc.pick k1).pick k1) hr_1).mono fun e w h => ⟨h.1,((h.2.unpick k1).unpick k1)⟩) fun a w hf hc => zA hf hc zr_202 rfl fun b_1 a w hf hc => zA hf hc zr_202 rfl fun b_2 a w hf hc => zW hf hc sz_202 u1 rfl fun w hc => zW hf hc sz_202 u0 rfl fun w hc => zT h ?_
 refine wp_seq_k fun K3 h3 => cQ hc follows_mx (by kernel_rfl) ?_
 refine qE hf rfl rfl rfl (Pu.ev (pFA fa_202_0 rfl)) fun a hf => qE hf rfl rfl rfl (eLd1 sc_3 rfl (cell_box m0 rfl)) fun a hf => qE hf rfl rfl rfl (Pu.ev (pFA fa_202_0 rfl)) fun a hf => qE hf rfl rfl rfl (eLd1 sc_3 rfl (cell_box m1 rfl)) fun a hf => qE hf rfl rfl rfl (Pu.ev (pSub rfl rfl)) fun a hf => qE hf rfl rfl rfl (Pu.ev (pM rfl)) fun a hf => qE hf rfl rfl rfl (Pu.ev (pNC rfl)) fun a hf => qE hf rfl rfl rfl (Pu.ev (pFA fa_211_0 rfl)) fun a hf => qE hf rfl rfl rfl (Pu.ev (pFA fa_136_2 rfl)) fun a hf => qE hf rfl rfl rfl (eLd1 sc_3 rfl (cell_box m2 rfl)) fun a hf => qE hf rfl rfl rfl (Pu.ev (pLe rfl rfl)) fun a hf => qE hf rfl rfl rfl (Pu.ev (pM rfl)) fun a hf => qCut 18 (fun a => Has 45 a [(0,pq b_),(6,.bool false),(7,pq b_1),(8,pq b_2),(15,pq b_2),(16,i6 r_1.At),(17,pq b_1),(18,i6 r.At),(19,i6 (W (r_1.At - r.At))),(20,pq b_),(21,pq b_),(22,pq b_),(23,.pointer (some ⟨b_,2,none⟩)),(24,i6 w_.Site.Gap),(25,.bool (decide ((W (r_1.At - r.At)) ≤ w_.Site.Gap))),(26,.bool (decide ((W (r_1.At - r.At)) ≤ w_.Site.Gap))),(44,.bool ((decide ((W (r_1.At - r.At)) ≤ w_.Site.Gap)) && (decide ((max (W (r.Depth - r_1.Depth)) (W (r_1.Depth - r.Depth))) ≤ w_.Site.Step_))))]) ?_ ?_
 ·cases hb : (decide ((W (r_1.At - r.At)) ≤ w_.Site.Gap))
  ·rw [hb] at hf
   refine qS hf rfl rfl rfl fun a hf => qS hf rfl rfl rfl fun a hf => qS hf rfl rfl rfl fun a hf => qS hf rfl rfl rfl fun a hf => qS hf rfl rfl rfl fun a hf => qS hf rfl rfl rfl fun a hf => qS hf rfl rfl rfl fun a hf => qS hf rfl rfl rfl fun a hf => qS hf rfl rfl rfl fun a hf => qS hf rfl rfl rfl fun a hf => qS hf rfl rfl rfl fun a hf => qS hf rfl rfl rfl fun a hf => qS hf rfl rfl rfl fun a hf => ?_
   refine qS hf rfl rfl rfl fun a hf => qS hf rfl rfl rfl fun a hf => qS hf rfl rfl rfl fun a hf => qS hf rfl rfl rfl fun a hf => qE hf rfl rfl rfl (Pu.ev (pPf rfl rfl)) fun a hf => qNil (hf.kp rfl)
  ·rw [hb] at hf
   refine qE hf rfl rfl rfl (Pu.ev (pFA fa_202_1 rfl)) fun a hf => qE hf rfl rfl rfl (eLd1 sc_3 rfl (cell_box m1 rfl)) fun a hf => qE hf rfl rfl rfl (Pu.ev (pFA fa_202_1 rfl)) fun a hf => qE hf rfl rfl rfl (eLd1 sc_3 rfl (cell_box m0 rfl)) fun a hf => qE hf rfl rfl rfl (Pu.ev (pSub rfl rfl)) fun a hf => qE hf rfl rfl rfl (Pu.ev (pFA fa_202_1 rfl)) fun a hf => qE hf rfl rfl rfl (eLd1 sc_3 rfl (cell_box m0 rfl)) fun a hf => qE hf rfl rfl rfl (Pu.ev (pFA fa_202_1 rfl)) fun a hf => qE hf rfl rfl rfl (eLd1 sc_3 rfl (cell_box m1 rfl)) fun a hf => qE hf rfl rfl rfl (Pu.ev (pSub rfl rfl)) fun a hf => qE hf rfl rfl rfl (Pu.ev (pMax2 rfl rfl)) fun a hf => qE hf rfl rfl rfl (Pu.ev (pM rfl)) fun a hf => qE hf rfl rfl rfl (Pu.ev (pNC rfl)) fun a hf => ?_
   refine qE hf rfl rfl rfl (Pu.ev (pFA fa_211_0 rfl)) fun a hf => qE hf rfl rfl rfl (Pu.ev (pFA fa_136_3 rfl)) fun a hf => qE hf rfl rfl rfl (eLd1 sc_3 rfl (cell_box m2 rfl)) fun a hf => qE hf rfl rfl rfl (Pu.ev (pLe rfl rfl)) fun a hf => qE hf rfl rfl rfl (Pu.ev (pPt rfl rfl)) fun a hf => qNil (hf.kp rfl)
 intro a hf
 refine qE hf rfl rfl rfl (Pu.ev (pA rfl)) fun a hf => ?_
 intro w hc
 refine h3 _ _ ?_
 refine wp_ret ?_
 obtain rfl := sj hF
 replace hc := (hc.drop k1).drop k0
 exact zO1 Tryz.results149 hf rfl ⟨rfl,hc⟩

def cmp_isNaN_int (x : Int) : Bool :=
 (x != x)
theorem cmp_isNaN_int_ok {G : Pers} {Lf : List Ent} {w : World} (x : Int)   (hc : Ctx G (Lf) w) {res : Bool} (hF : cmp_isNaN_int x = res) : Calls Tryz.prog 212 #[i6 x] w (fun e w => e = .returned (.bool res) ∧ Ctx G (Lf) w) := by
 unfold cmp_isNaN_int at hF
 refine fnIn Tryz.func212 rfl Tryz.ntmps212 rfl fun a hf => zS fun K h => sp 1 hf rfl fun a hf => zT h ?_
 refine zS fun K h => sp 4 hf rfl fun a hf => zT h ?_
 refine wp_ret ?_
 obtain rfl := hF
 exact zO1 Tryz.results212 hf rfl ⟨rfl,hc⟩

def cmp_Compare_int (x : Int) (y : Int) : Int :=
 cond (cmp_isNaN_int x)
 (cond (cmp_isNaN_int y)
 (0)
 ((-1)))
 (cond (cmp_isNaN_int y)
 (1)
 (cond (decide (x < y))
 ((-1))
 (cond (decide (y < x))
 (1)
 (0))))
theorem cmp_Compare_int_ok {G : Pers} {Lf : List Ent} {w : World} (x : Int) (y : Int)   (hc : Ctx G (Lf) w) {res : Int} (hF : cmp_Compare_int x y = res) : Calls Tryz.prog 197 #[i6 x,i6 y] w (fun e w => e = .returned (i6 res) ∧ Ctx G (Lf) w) := by
 unfold cmp_Compare_int at hF
 refine fnIn Tryz.func197 rfl Tryz.ntmps197 rfl fun a hf => zS fun K h => sp 1 hf rfl fun a hf => zT h ?_
 refine zS fun K h => sp 1 hf rfl fun a hf => zQ (v := .bool (cmp_isNaN_int x)) hf hc en_212 rfl (fun w hc => cmp_isNaN_int_ok x hc rfl) fun a w hf hc => sp 1 hf rfl fun a hf => zT h ?_
 refine zS fun K h => sp 1 hf rfl fun a hf => zQ (v := .bool (cmp_isNaN_int y)) hf hc en_212 rfl (fun w hc => cmp_isNaN_int_ok y hc rfl) fun a w hf hc => sp 1 hf rfl fun a hf => zT h ?_
 refine wp_seq_k fun K4 h4 => zS fun K h => sp 1 hf rfl fun a hf => zT h ?_
 refine zI hf rfl hF ?_ ?_ <;> clear hF <;> intro hF
 ·refine wp_seq_k fun K6 h6 => zS fun K h => sp 1 hf rfl fun a hf => zT h ?_
  refine zI hf rfl hF ?_ ?_ <;> clear hF <;> intro hF
  ·refine zS fun K h => sp 1 hf rfl fun a hf => zT h ?_
   refine wp_ret ?_
   refine xThenR ?_
   refine xThenR ?_
   obtain rfl := hF
   exact zO1 Tryz.results197 hf rfl ⟨rfl,hc⟩
  ·refine wp_skip ?_
   refine h6 _ _ ?_
   refine zS fun K h => sp 1 hf rfl fun a hf => zT h ?_
   refine wp_ret ?_
   refine xThenR ?_
   obtain rfl := hF
   exact zO1 Tryz.results197 hf rfl ⟨rfl,hc⟩
 ·refine wp_skip ?_
  refine h4 _ _ ?_
  refine wp_seq_k fun K10 h10 => zS fun K h => sp 1 hf rfl fun a hf => zT h ?_
  refine zI hf rfl hF ?_ ?_ <;> clear hF <;> intro hF
  ·refine zS fun K h => sp 1 hf rfl fun a hf => zT h ?_
   refine wp_ret ?_
   refine xThenR ?_
   obtain rfl := hF
   exact zO1 Tryz.results197 hf rfl ⟨rfl,hc⟩
  ·refine wp_skip ?_
   refine h10 _ _ ?_
   refine wp_seq_k fun K13 h13 => zS fun K h => sp 3 hf rfl fun a hf => zT h ?_
   refine zI hf rfl hF ?_ ?_ <;> clear hF <;> intro hF
   ·refine zS fun K h => sp 1 hf rfl fun a hf => zT h ?_
    refine wp_ret ?_
    refine xThenR ?_
    obtain rfl := hF
    exact zO1 Tryz.results197 hf rfl ⟨rfl,hc⟩
   ·refine wp_skip ?_
    refine h13 _ _ ?_
    refine wp_seq_k fun K16 h16 => zS fun K h => sp 3 hf rfl fun a hf => zT h ?_
    refine zI hf rfl hF ?_ ?_ <;> clear hF <;> intro hF
    ·refine zS fun K h => sp 1 hf rfl fun a hf => zT h ?_
     refine wp_ret ?_
     refine xThenR ?_
     obtain rfl := hF
     exact zO1 Tryz.results197 hf rfl ⟨rfl,hc⟩
    ·refine wp_skip ?_
     refine h16 _ _ ?_
     refine zS fun K h => sp 1 hf rfl fun a hf => zT h ?_
     refine wp_ret ?_
     obtain rfl := hF
     exact zO1 Tryz.results197 hf rfl ⟨rfl,hc⟩

def cmp_Or_int_b5 (N : Nat) (vals : List Int) (x : Int) : Option (Step (Int) (Int)) :=
 cond (decide (x < ((vals.length : Nat) : Int)))
 (Option.bind (getI vals x) fun e_1 =>
 cond (e_1 != 0)
 (some (.ret e_1))
 (some (.cont (W (x + 1)))))
 (some (.brk x))
def cmp_Or_int (N : Nat) (vals : List Int) : Option (Int) :=
 Option.bind (loopO (fun s5 => cmp_Or_int_b5 N vals s5) N 0) fun x5 =>
 exK x5 (fun s5 => some 0) some
theorem cmp_Or_int_ok {N : Nat} {G : Pers} {Lf : List Ent} {w : World} (vals : List Int) {vals_p : Option Addr} {vals_c : Nat} (h_vals : Rd G 1 vals_p vals_c (vals.map encI_i64)) (hc : Ctx G (Lf) w) {res : Int} (hF : cmp_Or_int N vals = some res) : Calls Tryz.prog 196 #[.slice vals_p vals.length vals_c] w (fun e w => e = .returned (i6 res) ∧ Ctx G (Lf) w) := by
 unfold cmp_Or_int at hF
 refine fnIn Tryz.func196 rfl Tryz.ntmps196 rfl fun a hf => zS fun K h => sp 1 hf rfl fun a hf => zT h ?_
 refine zS fun K h => sp 1 hf rfl fun a hf => zT h ?_
 refine wp_seq_k fun K3 h3 => zS fun K h => sp 1 hf rfl fun a hf => zP hf rfl (pLenS Tryz.underlying25 rfl) fun a hf => sp 1 hf rfl fun a hf => zT h ?_
 refine wp_block ?_
 obtain ⟨x5,hx5,hF⟩ := bnd_some hF
 let S5 : Int → Act → World → Prop := (fun (zz : Int) a w => Has 18 a [(3,i6 0),(6,.slice vals_p vals.length vals_c),(7,i6 ((vals.length : Nat) : Int)),(8,i6 zz)] ∧ Ctx G (Lf) w)
 have hr5 : ∀ (zz : Int) a w,x5 = .go zz → S5 zz a w → K3 a w := by
  rintro x a w rfl ⟨hf,hc⟩
  replace hF := exK_go hF
  refine h3 _ _ ?_
  refine zS fun K h => sp 2 hf rfl fun a hf => zT h ?_
  refine wp_ret ?_
  obtain rfl := sj hF
  exact zO1 Tryz.results196 hf rfl ⟨rfl,hc⟩
 have ho5 : ∀ r,x5 = .out r → r = res := by
  rintro r rfl
  exact sj hF
 refine cLoop N (loopW (S := S5) (x := x5) ?_ N 0 _ _ ⟨hf.kp rfl,hc⟩ hx5)
 clear hF hf hc
 rintro x st5 a w KB5 ⟨hf,hc⟩ hF hfin5 hK5
 unfold cmp_Or_int_b5 at hF
 refine zS fun K h => sp 1 hf rfl fun a hf => zT h ?_
 refine wp_seq_k fun K8 h8 => zI hf rfl hF ?_ ?_ <;> clear hF <;> intro hF
 ·refine wp_skip ?_
  refine h8 _ _ ?_
  refine wp_seq_k fun K9 h9 => wp_block ?_
  refine zS fun K h => ?_
  obtain ⟨e_1,he_1,hF⟩ := bnd_some hF
  obtain ⟨b_1,o,qa,qp⟩ := h_vals.atm he_1
  refine zP hf rfl (pIA Tryz.underlying25 sz_3 rfl rfl qa) fun a hf => zE hf hc rfl (eLd1 sc_3 rfl (cell_pc (j := 0) qp rfl)) fun a w hf hc => sp 1 hf rfl fun a hf => zT h ?_
  refine zS fun K h => sp 3 hf rfl fun a hf => zT h ?_
  refine zI hf rfl hF ?_ ?_ <;> clear hF <;> intro hF
  ·refine zS fun K h => sp 2 hf rfl fun a hf => zT h ?_
   refine wp_ret ?_
   refine xBlkR ?_
   refine xThenR ?_
   refine xThenR ?_
   have he := sj hF
   rw [← he] at hfin5
   replace hF := ho5 _ hfin5
   refine xBlkR ?_
   refine xThenR ?_
   obtain rfl := hF
   exact zO1 Tryz.results196 hf rfl ⟨rfl,hc⟩
  ·refine wp_skip ?_
   refine h9 _ _ ?_
   refine cReg ?_
   refine sp 2 hf rfl fun a hf => cNil ?_
   exact hK5 (W (x + 1)) _ _ (sj hF).symm ⟨hf.kp rfl,hc⟩
 ·refine wp_exit ?_
  refine xThen ?_
  refine xThen ?_
  have he := sj hF
  rw [← he] at hfin5
  refine cHit ?_
  exact hr5 _ _ _ hfin5 ⟨hf.kp rfl,hc⟩

def gauge_work_better_j2 (N : Nat) (w_ : gauge_work) (a_ : Int) (b__1 : Int) (x : Int) (x_1 : Int) : Option ((Nat → gauge_spent) × (Int → Option Int)) :=
 Option.bind (inR a_ 32) fun un_1 =>
 Option.bind (cmp_Or_int N ([(cmp_Compare_int x ((w_.least a_.toNat).cost)),(cmp_Compare_int x_1 ((w_.least a_.toNat).points))] : List Int)) fun r =>
 Option.bind (cond (decide (r < 0)) (some true) (Option.bind (gauge_far N) fun r_1 =>
 some (((w_.least a_.toNat).cost) == r_1.cost && ((w_.least a_.toNat).points) == r_1.points))) fun t_1 =>
 cond t_1
 (Option.bind (inR a_ 32) fun un_2 =>
 some ((setF w_.least a_.toNat (⟨x,x_1⟩ : gauge_spent)),(setM (setM w_.from_ a_ ((w_.from_ a_).getD 0)) a_ b__1)))
 (some (w_.least,w_.from_))
def gauge_work_better (N : Nat) (w_ : gauge_work) (a_ : Int) (b__1 : Int) : Option ((Nat → gauge_spent) × (Int → Option Int)) :=
 Option.bind (inR b__1 32) fun un =>
 cond (decide (b__1 ≤ ((w_.Site.Points.length : Nat) : Int)))
 (Option.bind (gauge_work_station N w_ b__1) fun r_2 =>
 gauge_work_better_j2 N w_ a_ b__1 (W (((w_.least b__1.toNat).cost) + r_2.Cost)) (W (((w_.least b__1.toNat).points) + 1)))
 (gauge_work_better_j2 N w_ a_ b__1 ((w_.least b__1.toNat).cost) ((w_.least b__1.toNat).points))
theorem gauge_work_better_ok {N : Nat} {G : Pers} {Lf : List Ent} {w : World} (w_ : gauge_work) (a_ : Int) (b__1 : Int) {b_ : Nat} {w__Site_Points_p : Option Addr} {w__Site_Points_c : Nat} {mb : Nat} (h_w__Site_Points : Rd G 3 w__Site_Points_p w__Site_Points_c (w_.Site.Points.map enc_gauge_Point)) (hc : Ctx G (.box b_ (catc [i6 w_.Site.Left,i6 w_.Site.Right,i6 w_.Site.Gap,i6 w_.Site.Step_,.slice w__Site_Points_p w_.Site.Points.length w__Site_Points_c] 32 enc_gauge_spent w_.least [.map (some mb)]) 211::.im mb (fun j => (w_.from_ j).map (Value.int .i64)) none::Lf) w) {res : (Nat → gauge_spent) × (Int → Option Int)} (hF : gauge_work_better N w_ a_ b__1 = some res) : Calls Tryz.prog 177 #[pq b_,i6 a_,i6 b__1] w (fun e w => e = .returned (.tuple #[]) ∧ Ctx G (.box b_ (catc [i6 w_.Site.Left,i6 w_.Site.Right,i6 w_.Site.Gap,i6 w_.Site.Step_,.slice w__Site_Points_p w_.Site.Points.length w__Site_Points_c] 32 enc_gauge_spent res.1 [.map (some mb)]) 211::.im mb (fun j => (res.2 j).map (Value.int .i64)) none::Lf) w) := by
 unfold gauge_work_better at hF
 refine fnIn Tryz.func177 rfl Tryz.ntmps177 rfl fun a hf => zS fun K h => sp 3 hf rfl fun a hf => zP hf rfl (pFA fa_211_1 rfl) fun a hf => ?_
 obtain ⟨un,hun,hF⟩ := bnd_some hF
 refine zP hf rfl (pIAA Tryz.underlying208 sz_207 rfl rfl (inR_spec hun).1 (inR_spec hun).2) fun a hf => zE hf hc rfl (eLdN (vs := [i6 ((w_.least b__1.toNat).cost),i6 ((w_.least b__1.toNat).points)]) ag_207 rfl rfl (cells_arr (o' := 0) (m := 2) m0 (fun x => (one_enc_gauge_spent x).1) rfl hun rfl)) fun a w hf hc => zA hf hc zr_207 rfl fun b_1 a w hf hc => zW hf hc sz_207 u0 rfl fun w hc => zT h ?_
 refine wp_seq_k fun K2 h2 => ?_
 have hj2 : ∀ (x : Int) (x_1 : Int) a w,Has 73 a [(0,pq b_),(1,i6 a_),(2,i6 b__1),(6,pq b_1)] → Ctx G (.box b_1 [i6 x,i6 x_1] 207::.box b_ (catc [i6 w_.Site.Left,i6 w_.Site.Right,i6 w_.Site.Gap,i6 w_.Site.Step_,.slice w__Site_Points_p w_.Site.Points.length w__Site_Points_c] 32 enc_gauge_spent w_.least [.map (some mb)]) 211::.im mb (fun j => (w_.from_ j).map (Value.int .i64)) none::Lf) w → gauge_work_better_j2 N w_ a_ b__1 x x_1 = some res → K2 a w := by
  repeat (clear hF)
  repeat (clear hc)
  repeat (clear hf)
  intro x x_1 a w hf hc hF
  unfold gauge_work_better_j2 at hF
  refine h2 _ _ ?_
  refine zS fun K h => sp 3 hf rfl fun a hf => zP hf rfl (pFA fa_211_1 rfl) fun a hf => ?_
  obtain ⟨un_1,hun_1,hF⟩ := bnd_some hF
  refine zP hf rfl (pIAA Tryz.underlying208 sz_207 rfl rfl (inR_spec hun_1).1 (inR_spec hun_1).2) fun a hf => zE hf hc rfl (eLdN (vs := [i6 ((w_.least a_.toNat).cost),i6 ((w_.least a_.toNat).points)]) ag_207 rfl rfl (cells_arr (o' := 0) (m := 2) m1 (fun x => (one_enc_gauge_spent x).1) rfl hun_1 rfl)) fun a w hf hc => zA hf hc zr_207 rfl fun b_2 a w hf hc => zW hf hc sz_207 u0 rfl fun w hc => zT h ?_
  refine wp_seq_k fun K4 h4 => ?_
  obtain ⟨r,hr,hF⟩ := bnd_some hF
  replace hc := hc.nilRow 0 0
  refine regionE (fun θ => [⟨none,none,0,pq b_⟩,⟨none,none,1,i6 a_⟩,⟨none,none,2,i6 b__1⟩,⟨none,none,6,pq b_1⟩,⟨none,none,7,pq b_2⟩,⟨some 0,none,40,pq b_1⟩,⟨some 1,none,41,i6 x⟩,⟨some 2,none,42,pq b_2⟩,⟨some 3,none,43,i6 ((w_.least a_.toNat).cost)⟩,⟨some 4,none,44,i6 (cmp_Compare_int x ((w_.least a_.toNat).cost))⟩,⟨some 5,none,45,.pointer (some ⟨b_1,1,none⟩)⟩,⟨some 6,none,46,i6 x_1⟩,⟨some 7,none,47,.pointer (some ⟨b_2,1,none⟩)⟩,⟨some 8,none,48,i6 ((w_.least a_.toNat).points)⟩,⟨some 9,none,49,i6 (cmp_Compare_int x_1 ((w_.least a_.toNat).points))⟩,⟨some 10,none,50,.slice (some ⟨(θ 80).b,0,none⟩) 2 2⟩,⟨some 11,none,51,i6 r⟩,⟨some 12,none,8,i6 r⟩]) (fun E θ => (bif E 10 then .row (some ⟨(θ 80).b,0,none⟩) 2 (([(cmp_Compare_int x ((w_.least a_.toNat).cost)),(cmp_Compare_int x_1 ((w_.least a_.toNat).points))] : List Int).map encI_i64) 3 1 else .row none 0 [] 0 0)::.box b_2 [i6 ((w_.least a_.toNat).cost),i6 ((w_.least a_.toNat).points)] 207::.box b_1 [i6 x,i6 x_1] 207::.box b_ (catc [i6 w_.Site.Left,i6 w_.Site.Right,i6 w_.Site.Gap,i6 w_.Site.Step_,.slice w__Site_Points_p w_.Site.Points.length w__Site_Points_c] 32 enc_gauge_spent w_.least [.map (some mb)]) 211::.im mb (fun j => (w_.from_ j).map (Value.int .i64)) none::Lf) [] (fun a w => ∃ (b_4 : Nat),Has 73 a [(0,pq b_),(1,i6 a_),(2,i6 b__1),(6,pq b_1),(7,pq b_2),(8,i6 r)] ∧ Ctx G (.row (some ⟨b_4,0,none⟩) 2 (([(cmp_Compare_int x ((w_.least a_.toNat).cost)),(cmp_Compare_int x_1 ((w_.least a_.toNat).points))] : List Int).map encI_i64) 3 1::.box b_2 [i6 ((w_.least a_.toNat).cost),i6 ((w_.least a_.toNat).points)] 207::.box b_1 [i6 x,i6 x_1] 207::.box b_ (catc [i6 w_.Site.Left,i6 w_.Site.Right,i6 w_.Site.Gap,i6 w_.Site.Step_,.slice w__Site_Points_p w_.Site.Points.length w__Site_Points_c] 32 enc_gauge_spent w_.least [.map (some mb)]) 211::.im mb (fun j => (w_.from_ j).map (Value.int .i64)) none::Lf) w) follows_mx (by kernel_rfl) (by kernel_rfl) (HasE.of hf ⟨rfl,rfl,rfl,rfl,rfl,trivial,trivial,trivial,trivial,trivial,trivial,trivial,trivial,trivial,trivial,trivial,trivial,trivial,trivial⟩) hc ⟨?_,?_,?_,?_,?_,?_,?_,?_,?_,?_,?_,?_,?_,trivial⟩ ?_ ?_
  ·intro E θ a w hD hi hp he hc
   have hf := he.h0.mT he 3 rfl
   refine zP hf rfl (pFA fa_207_0 rfl) fun a hf => zD θ he hi hf 5 rfl rfl rfl hc
  ·intro E θ a w hD hi hp he hc
   have e0 := hp.o 0 rfl
   have hf := he.h0.mP he 5 rfl e0
   refine zL hf hc sc_3 m2 rfl fun a w hf hc => zD θ he hi hf 6 rfl rfl rfl hc
  ·intro E θ a w hD hi hp he hc
   have hf := he.h0.mT he 4 rfl
   refine zP hf rfl (pFA fa_207_0 rfl) fun a hf => zD θ he hi hf 7 rfl rfl rfl hc
  ·intro E θ a w hD hi hp he hc
   have e2 := hp.o 2 rfl
   have hf := he.h0.mP he 7 rfl e2
   refine zL hf hc sc_3 m1 rfl fun a w hf hc => zD θ he hi hf 8 rfl rfl rfl hc
  ·intro E θ a w hD hi hp he hc
   have e1 := hp.o 1 rfl
   have e3 := hp.o 3 rfl
   have hf := (he.h0.mP he 6 rfl e1).mP he 8 rfl e3
   refine zQ (v := i6 (cmp_Compare_int x ((w_.least a_.toNat).cost))) hf hc en_197 rfl (fun w hc => cmp_Compare_int_ok x ((w_.least a_.toNat).cost) hc rfl) fun a w hf hc => zD θ he hi hf 9 rfl rfl rfl hc
  ·intro E θ a w hD hi hp he hc
   have hf := he.h0.mT he 3 rfl
   refine zP hf rfl (pFA fa_207_1 rfl) fun a hf => zD θ he hi hf 10 rfl rfl rfl hc
  ·intro E θ a w hD hi hp he hc
   have e5 := hp.o 5 rfl
   have hf := he.h0.mP he 10 rfl e5
   refine zL hf hc sc_3 m2 rfl fun a w hf hc => zD θ he hi hf 11 rfl rfl rfl hc
  ·intro E θ a w hD hi hp he hc
   have hf := he.h0.mT he 4 rfl
   refine zP hf rfl (pFA fa_207_1 rfl) fun a hf => zD θ he hi hf 12 rfl rfl rfl hc
  ·intro E θ a w hD hi hp he hc
   have e7 := hp.o 7 rfl
   have hf := he.h0.mP he 12 rfl e7
   refine zL hf hc sc_3 m1 rfl fun a w hf hc => zD θ he hi hf 13 rfl rfl rfl hc
  ·intro E θ a w hD hi hp he hc
   have e6 := hp.o 6 rfl
   have e8 := hp.o 8 rfl
   have hf := (he.h0.mP he 11 rfl e6).mP he 13 rfl e8
   refine zQ (v := i6 (cmp_Compare_int x_1 ((w_.least a_.toNat).points))) hf hc en_197 rfl (fun w hc => cmp_Compare_int_ok x_1 ((w_.least a_.toNat).points) hc rfl) fun a w hf hc => zD θ he hi hf 14 rfl rfl rfl hc
  ·intro E θ a w hD hi hp he hc
   have e4 := hp.o 4 rfl
   have e9 := hp.o 9 rfl
   try dsimp only at hc
   rw [hi] at hc
   have hf := (he.h0.mP he 9 rfl e4).mP he 14 rfl e9
   refine stBS (rows := ([(cmp_Compare_int x ((w_.least a_.toNat).cost)),(cmp_Compare_int x_1 ((w_.least a_.toNat).points))] : List Int).map encI_i64) (vs := [(0,i6 (cmp_Compare_int x ((w_.least a_.toNat).cost))),(1,i6 (cmp_Compare_int x_1 ((w_.least a_.toNat).points)))]) hf hc rfl rfl sl_25 rfl ⟨rfl,rfl,rfl,rfl,rfl,rfl,trivial⟩ rfl rfl fun b_3 a w hf hc => cNil ?_
   refine xThenN ?_
   intro ds u hau
   replace hc := hc.drop k1
   refine ⟨(setT θ 80 ⟨b_3,none,0,(fun _ => (none,0))⟩),he.put hi hau hf rfl [] trivial ⟨qq,qq,qq,qq,qq,qq,qq,qq,qq,qq,qq,qq,qq,qq,qq,qq,qq,qq,trivial⟩,?_⟩
   try dsimp only
   rw [updE_self E 10]
   exact hc
  ·intro E θ a w hD hi hp he hc
   have e10 := hp.o 10 rfl
   try dsimp only at hc
   rw [e10] at hc
   have hf := he.h0.mP he 15 rfl e10
   refine zQ (v := i6 r) hf hc en_196 rfl (fun w hc => by obtain ⟨G1,hle1,hrd1,hc,hth1⟩ := lend hc k0; exact (cmp_Or_int_ok ([(cmp_Compare_int x ((w_.least a_.toNat).cost)),(cmp_Compare_int x_1 ((w_.least a_.toNat).points))] : List Int) hrd1 hc hr).mono fun e w h => ⟨h.1,((hth1 _ _ h.2).unpick k0)⟩) fun a w hf hc => zD θ he hi hf 16 rfl rfl rfl ?_
   try dsimp only
   rw [updE_tru 11 e10]
   exact hc
  ·intro E θ a w hD hi hp he hc
   have e11 := hp.o 11 rfl
   have hf := he.h0.mP he 16 rfl e11
   refine sp 1 hf rfl fun a hf => zD θ he hi hf 17 rfl rfl rfl hc
  ·intro E θ a w hall he hc
   have hf := he.h0
   have e10 := hall 10 rfl
   have e12 := hall 12 rfl
   replace hf := hf.more he 17 rfl (onP e12)
   replace hf := hf.more he 4 rfl (onT)
   replace hf := hf.more he 3 rfl (onT)
   replace hf := hf.more he 2 rfl (onT)
   replace hf := hf.more he 1 rfl (onT)
   replace hf := hf.more he 0 rfl (onT)
   try dsimp only at hc
   rw [e10] at hc
   exact ⟨(θ 80).b,hf.kp rfl,hc⟩
  rintro a w ⟨b_4,hf,hc⟩
  refine h4 _ _ ?_
  refine wp_seq_k fun K5 h5 => ?_
  obtain ⟨t_1,ht_1,hF⟩ := bnd_some hF
  refine cQ hc follows_mx (by kernel_rfl) ?_
  refine qE hf rfl rfl rfl (Pu.ev (pM rfl)) fun a hf => qE hf rfl rfl rfl (Pu.ev (pLt rfl rfl)) fun a hf => qE hf rfl rfl rfl (Pu.ev (pM rfl)) fun a hf => qCut 4 (fun a => Has 73 a [(0,pq b_),(1,i6 a_),(2,i6 b__1),(6,pq b_1),(7,pq b_2),(8,i6 r),(52,i6 r),(53,.bool (decide (r < 0))),(54,.bool (decide (r < 0))),(58,.bool t_1)]) ?_ ?_
  ·cases hb : (decide (r < 0))
   ·rw [hb] at hf
    have hF := condF hb ht_1
    obtain ⟨r_1,hr_1,hF⟩ := bnd_some hF
    refine qE hf rfl rfl rfl (eLdN (vs := [i6 ((w_.least a_.toNat).cost),i6 ((w_.least a_.toNat).points)]) ag_207 rfl rfl (cells_box (n := 2) m1 rfl)) fun a hf => qE hf rfl rfl rfl (eC (v := .agg #[i6 r_1.cost,i6 r_1.points]) (vs := []) (caps := []) en_141 rfl rfl rfl rfl (fun w hc => gauge_far_ok hc hr_1)) fun a hf => qE hf rfl rfl rfl (Pu.ev (pEqA ge_207 rfl rfl (eqs_207 _ _ _ _))) fun a hf => qE hf rfl rfl rfl (Pu.ev (pPf rfl rfl)) fun a hf => ?_
    obtain rfl := sj hF
    exact qNil (hf.kp rfl)
   ·rw [hb] at hf
    have hF := condT hb ht_1
    obtain rfl := sj hF
    refine qS hf rfl rfl rfl fun a hf => qS hf rfl rfl rfl fun a hf => qS hf rfl rfl rfl fun a hf => qE hf rfl rfl rfl (Pu.ev (pPt rfl rfl)) fun a hf => qNil (hf.kp rfl)
  intro a hf
  intro w hc
  refine h5 _ _ ?_
  refine zI hf rfl hF ?_ ?_ <;> clear hF <;> intro hF
  ·obtain ⟨un_2,hun_2,hF⟩ := bnd_some hF
   refine regionE (fun θ => [⟨none,none,0,pq b_⟩,⟨none,none,1,i6 a_⟩,⟨none,none,2,i6 b__1⟩,⟨none,none,6,pq b_1⟩,⟨some 0,none,59,pq b_⟩,⟨some 1,none,60,i6 a_⟩,⟨some 2,none,61,pq b_⟩,⟨some 3,none,62,pq b_⟩,⟨some 4,none,63,.pointer (some ⟨b_,69,none⟩)⟩,⟨some 5,none,64,.map (some mb)⟩,⟨some 6,none,65,i6 a_⟩,⟨some 7,none,66,.agg #[i6 x,i6 x_1]⟩,⟨some 8,none,67,i6 b__1⟩,⟨some 9,none,68,pq b_⟩,⟨some 10,none,69,.pointer (some ⟨b_,5,none⟩)⟩,⟨some 11,none,70,.pointer (some ⟨b_,5 + a_.toNat * 2,none⟩)⟩,⟨some 13,none,71,.tuple #[i6 ((w_.from_ a_).getD 0),i6 (((θ 104).c : Nat) : Int)]⟩,⟨some 14,none,72,i6 (((θ 104).c : Nat) : Int)⟩]) (fun E θ => .row (some ⟨b_4,0,none⟩) 2 (([(cmp_Compare_int x ((w_.least a_.toNat).cost)),(cmp_Compare_int x_1 ((w_.least a_.toNat).points))] : List Int).map encI_i64) 3 1::.box b_2 [i6 ((w_.least a_.toNat).cost),i6 ((w_.least a_.toNat).points)] 207::.box b_1 [i6 x,i6 x_1] 207::(bif E 12 then .box b_ (catc [i6 w_.Site.Left,i6 w_.Site.Right,i6 w_.Site.Gap,i6 w_.Site.Step_,.slice w__Site_Points_p w_.Site.Points.length w__Site_Points_c] 32 enc_gauge_spent (setF w_.least a_.toNat (⟨x,x_1⟩ : gauge_spent)) [.map (some mb)]) 211 else .box b_ (catc [i6 w_.Site.Left,i6 w_.Site.Right,i6 w_.Site.Gap,i6 w_.Site.Step_,.slice w__Site_Points_p w_.Site.Points.length w__Site_Points_c] 32 enc_gauge_spent w_.least [.map (some mb)]) 211)::(bif E 15 then .im mb (fun j => ((setM (setM w_.from_ a_ ((w_.from_ a_).getD 0)) a_ b__1) j).map (Value.int .i64)) none else bif E 13 then .im mb (fun j => ((setM w_.from_ a_ ((w_.from_ a_).getD 0)) j).map (Value.int .i64)) (some ((θ 104).c,a_)) else .im mb (fun j => (w_.from_ j).map (Value.int .i64)) none)::Lf) [(12,5),(15,13),(14,13)] (fun a w => Has 73 a [] ∧ Ctx G (.row (some ⟨b_4,0,none⟩) 2 (([(cmp_Compare_int x ((w_.least a_.toNat).cost)),(cmp_Compare_int x_1 ((w_.least a_.toNat).points))] : List Int).map encI_i64) 3 1::.box b_2 [i6 ((w_.least a_.toNat).cost),i6 ((w_.least a_.toNat).points)] 207::.box b_1 [i6 x,i6 x_1] 207::.box b_ (catc [i6 w_.Site.Left,i6 w_.Site.Right,i6 w_.Site.Gap,i6 w_.Site.Step_,.slice w__Site_Points_p w_.Site.Points.length w__Site_Points_c] 32 enc_gauge_spent (setF w_.least a_.toNat (⟨x,x_1⟩ : gauge_spent)) [.map (some mb)]) 211::.im mb (fun j => ((setM (setM w_.from_ a_ ((w_.from_ a_).getD 0)) a_ b__1) j).map (Value.int .i64)) none::Lf) w) follows_mx (by kernel_rfl) (by kernel_rfl) (HasE.of hf ⟨rfl,rfl,rfl,rfl,trivial,trivial,trivial,trivial,trivial,trivial,trivial,trivial,trivial,trivial,trivial,trivial,trivial,trivial,trivial⟩) hc ⟨?_,?_,?_,?_,?_,?_,?_,?_,?_,?_,?_,?_,?_,?_,?_,?_,trivial⟩ ?_ ?_
   ·intro E θ a w hD hi hp he hc
    have hf := he.h0.mT he 0 rfl
    refine sp 1 hf rfl fun a hf => zD θ he hi hf 4 rfl rfl rfl hc
   ·intro E θ a w hD hi hp he hc
    have hf := he.h0.mT he 1 rfl
    refine sp 1 hf rfl fun a hf => zD θ he hi hf 5 rfl rfl rfl hc
   ·intro E θ a w hD hi hp he hc
    have hf := he.h0.mT he 0 rfl
    refine sp 1 hf rfl fun a hf => zD θ he hi hf 6 rfl rfl rfl hc
   ·intro E θ a w hD hi hp he hc
    have e2 := hp.o 2 rfl
    have hf := he.h0.mP he 6 rfl e2
    refine sp 1 hf rfl fun a hf => zD θ he hi hf 7 rfl rfl rfl hc
   ·intro E θ a w hD hi hp he hc
    have e3 := hp.o 3 rfl
    have hf := he.h0.mP he 7 rfl e3
    refine zP hf rfl (pFA fa_211_2 rfl) fun a hf => zD θ he hi hf 8 rfl rfl rfl hc
   ·intro E θ a w hD hi hp he hc
    have e4 := hp.o 4 rfl
    have e12 := hD.f 0 rfl hi
    try dsimp only at hc
    rw [e12] at hc
    have hf := he.h0.mP he 8 rfl e4
    refine zL hf hc sc_209 m3 rfl fun a w hf hc => zD θ he hi hf 9 rfl rfl rfl ?_
    try dsimp only
    rw [updE_fls 5 e12 rfl]
    exact hc
   ·intro E θ a w hD hi hp he hc
    have hf := he.h0.mT he 1 rfl
    refine sp 1 hf rfl fun a hf => zD θ he hi hf 10 rfl rfl rfl hc
   ·intro E θ a w hD hi hp he hc
    have hf := he.h0.mT he 3 rfl
    refine zN hf hc ag_207 m2 rfl fun a w hf hc => zD θ he hi hf 11 rfl rfl rfl hc
   ·intro E θ a w hD hi hp he hc
    have hf := he.h0.mT he 2 rfl
    refine sp 1 hf rfl fun a hf => zD θ he hi hf 12 rfl rfl rfl hc
   ·intro E θ a w hD hi hp he hc
    have e0 := hp.o 0 rfl
    have hf := he.h0.mP he 4 rfl e0
    refine sp 1 hf rfl fun a hf => zD θ he hi hf 13 rfl rfl rfl hc
   ·intro E θ a w hD hi hp he hc
    have e9 := hp.o 9 rfl
    have hf := he.h0.mP he 13 rfl e9
    refine zP hf rfl (pFA fa_211_1 rfl) fun a hf => zD θ he hi hf 14 rfl rfl rfl hc
   ·intro E θ a w hD hi hp he hc
    have e1 := hp.o 1 rfl
    have e10 := hp.o 10 rfl
    have hf := (he.h0.mP he 5 rfl e1).mP he 14 rfl e10
    refine zP hf rfl (pIAA Tryz.underlying208 sz_207 rfl rfl (inR_spec hun_2).1 (inR_spec hun_2).2) fun a hf => zD θ he hi hf 15 rfl rfl rfl hc
   ·intro E θ a w hD hi hp he hc
    have e7 := hp.o 7 rfl
    have e11 := hp.o 11 rfl
    try dsimp only at hc
    rw [hi] at hc
    have hf := (he.h0.mP he 11 rfl e7).mP he 15 rfl e11
    refine stAr (vs := [i6 x,i6 x_1]) (o' := 0) (z := (⟨x,x_1⟩ : gauge_spent)) hf hc rfl rfl rfl rfl sz_207 rfl (fun x => (one_enc_gauge_spent x).1) rfl hun_2 rfl rfl u3 fun w hc => zG θ he hi hf rfl ?_
    try dsimp only
    rw [updE_self E 12]
    exact hc
   ·intro E θ a w hD hi hp he hc
    have e5 := hp.o 5 rfl
    have e6 := hp.o 6 rfl
    have e15 := hD.f 1 rfl hi
    have e14 := hD.f 2 rfl hi
    try dsimp only at hc
    rw [hi,e15] at hc
    have hf := (he.h0.mP he 9 rfl e5).mP he 10 rfl e6
    refine stME (enc := (Value.int .i64)) (z0 := 0) (m := w_.from_) hf hc rfl rfl Tryz.underlying209 Tryz.underlying3 zr_3 rfl rfl (fun _ => u4) fun stp a w hf hc => cNil ?_
    refine xThenN ?_
    intro ds u hau
    refine ⟨(setT θ 104 ⟨0,none,stp,(fun _ => (none,0))⟩),he.put hi hau hf rfl [14] ⟨⟨e14,rfl⟩,trivial⟩ ⟨qq,qq,qq,qq,qq,qq,qq,qq,qq,qq,qq,qq,qq,qq,qq,qq,qq,trivial,trivial⟩,?_⟩
    try dsimp only
    rw [updE_self E 13,updE_fls 13 e15 rfl]
    exact hc
   ·intro E θ a w hD hi hp he hc
    have e13 := hp.o 13 rfl
    have hf := he.h0.mP he 16 rfl e13
    refine sp 1 hf rfl fun a hf => zD θ he hi hf 17 rfl rfl rfl hc
   ·intro E θ a w hD hi hp he hc
    have e5 := hp.o 5 rfl
    have e8 := hp.o 8 rfl
    have e14 := hp.o 14 rfl
    have e13 := hp.o 13 rfl
    try dsimp only at hc
    rw [e13,hi] at hc
    have hf := ((he.h0.mP he 9 rfl e5).mP he 12 rfl e8).mP he 17 rfl e14
    refine stES (enc := (Value.int .i64)) (m := (setM w_.from_ a_ ((w_.from_ a_).getD 0))) (v := b__1) hf hc rfl rfl rfl rfl u4 fun w hc => zG θ he hi hf rfl ?_
    try dsimp only
    rw [updE_tru 15 e13,updE_self E 15]
    exact hc
   ·intro E θ a w hall he hc
    have hf := he.h0
    have e12 := hall 12 rfl
    have e13 := hall 13 rfl
    have e15 := hall 15 rfl
    try dsimp only at hc
    rw [e12,e13,e15] at hc
    exact ⟨hf.keep trivial,hc⟩
   rintro a w ⟨hf,hc⟩
   obtain rfl := sj hF
   replace hc := ((hc.drop k2).drop k1).drop k0
   exact fnOut0 (by simp) rfl Tryz.results177 hf ⟨rfl,hc⟩
  ·refine wp_skip ?_
   obtain rfl := sj hF
   replace hc := ((hc.drop k2).drop k1).drop k0
   exact fnOut0 (by simp) rfl Tryz.results177 hf ⟨rfl,hc⟩
 refine zS fun K h => sp 3 hf rfl fun a hf => zP hf rfl (pFA fa_211_0 rfl) fun a hf => zP hf rfl (pFA fa_136_4 rfl) fun a hf => zL hf hc sc_134 m1 rfl fun a w hf hc => zP hf rfl (pLenS Tryz.underlying134 rfl) fun a hf => sp 1 hf rfl fun a hf => zT h ?_
 refine zI hf rfl hF ?_ ?_ <;> clear hF <;> intro hF
 ·obtain ⟨r_2,hr_2,hF⟩ := bnd_some hF
  refine regionE (fun θ => [⟨none,none,0,pq b_⟩,⟨none,none,1,i6 a_⟩,⟨none,none,2,i6 b__1⟩,⟨none,none,6,pq b_1⟩,⟨some 0,none,23,pq b_1⟩,⟨some 1,none,24,i6 ((w_.least b__1.toNat).cost)⟩,⟨some 2,none,25,pq b_⟩,⟨some 3,none,26,i6 b__1⟩,⟨some 4,none,27,.agg #[i6 r_2.At,i6 r_2.Depth,i6 r_2.Cost]⟩,⟨some 5,none,28,i6 r_2.Cost⟩,⟨some 6,none,29,i6 (W (((w_.least b__1.toNat).cost) + r_2.Cost))⟩,⟨some 7,none,30,.pointer (some ⟨b_1,1,none⟩)⟩,⟨some 8,none,31,i6 ((w_.least b__1.toNat).points)⟩,⟨some 9,none,32,i6 (W (((w_.least b__1.toNat).points) + 1))⟩,⟨some 10,none,33,.agg #[i6 (W (((w_.least b__1.toNat).cost) + r_2.Cost)),i6 (W (((w_.least b__1.toNat).points) + 1))]⟩]) (fun E θ => (bif E 11 then .box b_1 [i6 (W (((w_.least b__1.toNat).cost) + r_2.Cost)),i6 (W (((w_.least b__1.toNat).points) + 1))] 207 else .box b_1 [i6 ((w_.least b__1.toNat).cost),i6 ((w_.least b__1.toNat).points)] 207)::.box b_ (catc [i6 w_.Site.Left,i6 w_.Site.Right,i6 w_.Site.Gap,i6 w_.Site.Step_,.slice w__Site_Points_p w_.Site.Points.length w__Site_Points_c] 32 enc_gauge_spent w_.least [.map (some mb)]) 211::.im mb (fun j => (w_.from_ j).map (Value.int .i64)) none::Lf) [(11,1),(11,8)] (fun a w => Has 73 a [(0,pq b_),(1,i6 a_),(2,i6 b__1),(6,pq b_1)] ∧ Ctx G (.box b_1 [i6 (W (((w_.least b__1.toNat).cost) + r_2.Cost)),i6 (W (((w_.least b__1.toNat).points) + 1))] 207::.box b_ (catc [i6 w_.Site.Left,i6 w_.Site.Right,i6 w_.Site.Gap,i6 w_.Site.Step_,.slice w__Site_Points_p w_.Site.Points.length w__Site_Points_c] 32 enc_gauge_spent w_.least [.map (some mb)]) 211::.im mb (fun j => (w_.from_ j).map (Value.int .i64)) none::Lf) w) follows_mx (by kernel_rfl) (by kernel_rfl) (HasE.of hf ⟨rfl,rfl,rfl,rfl,trivial,trivial,trivial,trivial,trivial,trivial,trivial,trivial,trivial,trivial,trivial,trivial⟩) hc ⟨?_,?_,?_,?_,?_,?_,?_,?_,?_,?_,?_,?_,trivial⟩ ?_ ?_
  ·intro E θ a w hD hi hp he hc
   have hf := he.h0.mT he 3 rfl
   refine zP hf rfl (pFA fa_207_0 rfl) fun a hf => zD θ he hi hf 4 rfl rfl rfl hc
  ·intro E θ a w hD hi hp he hc
   have e0 := hp.o 0 rfl
   have e11 := hD.f 0 rfl hi
   try dsimp only at hc
   rw [e11] at hc
   have hf := he.h0.mP he 4 rfl e0
   refine zL hf hc sc_3 m0 rfl fun a w hf hc => zD θ he hi hf 5 rfl rfl rfl ?_
   try dsimp only
   rw [updE_fls 1 e11 rfl]
   exact hc
  ·intro E θ a w hD hi hp he hc
   have hf := he.h0.mT he 0 rfl
   refine sp 1 hf rfl fun a hf => zD θ he hi hf 6 rfl rfl rfl hc
  ·intro E θ a w hD hi hp he hc
   have hf := he.h0.mT he 2 rfl
   refine sp 1 hf rfl fun a hf => zD θ he hi hf 7 rfl rfl rfl hc
  ·intro E θ a w hD hi hp he hc
   have e2 := hp.o 2 rfl
   have e3 := hp.o 3 rfl
   have hf := (he.h0.mP he 6 rfl e2).mP he 7 rfl e3
   refine zQ (v := .agg #[i6 r_2.At,i6 r_2.Depth,i6 r_2.Cost]) hf hc en_151 rfl (fun w hc => (gauge_work_station_ok w_ b__1 h_w__Site_Points ((hc.pick k2).pick k2) hr_2).mono fun e w h => ⟨h.1,((h.2.unpick k2).unpick k2)⟩) fun a w hf hc => zD θ he hi hf 8 rfl rfl rfl hc
  ·intro E θ a w hD hi hp he hc
   have e4 := hp.o 4 rfl
   have hf := he.h0.mP he 8 rfl e4
   refine zP hf rfl (pField1 Tryz.underlying202 rfl sc_3 rfl rfl) fun a hf => zD θ he hi hf 9 rfl rfl rfl hc
  ·intro E θ a w hD hi hp he hc
   have e1 := hp.o 1 rfl
   have e5 := hp.o 5 rfl
   have hf := (he.h0.mP he 5 rfl e1).mP he 9 rfl e5
   refine sp 1 hf rfl fun a hf => zD θ he hi hf 10 rfl rfl rfl hc
  ·intro E θ a w hD hi hp he hc
   have hf := he.h0.mT he 3 rfl
   refine zP hf rfl (pFA fa_207_1 rfl) fun a hf => zD θ he hi hf 11 rfl rfl rfl hc
  ·intro E θ a w hD hi hp he hc
   have e7 := hp.o 7 rfl
   have e11 := hD.f 1 rfl hi
   try dsimp only at hc
   rw [e11] at hc
   have hf := he.h0.mP he 11 rfl e7
   refine zL hf hc sc_3 m0 rfl fun a w hf hc => zD θ he hi hf 12 rfl rfl rfl ?_
   try dsimp only
   rw [updE_fls 8 e11 rfl]
   exact hc
  ·intro E θ a w hD hi hp he hc
   have e8 := hp.o 8 rfl
   have hf := he.h0.mP he 12 rfl e8
   refine sp 1 hf rfl fun a hf => zD θ he hi hf 13 rfl rfl rfl hc
  ·intro E θ a w hD hi hp he hc
   have e6 := hp.o 6 rfl
   have e9 := hp.o 9 rfl
   have hf := (he.h0.mP he 10 rfl e6).mP he 13 rfl e9
   refine zP hf rfl (pBuildS (cells := [i6 (W (((w_.least b__1.toNat).cost) + r_2.Cost)),i6 (W (((w_.least b__1.toNat).points) + 1))]) bt_207 rfl rfl) fun a hf => zD θ he hi hf 14 rfl rfl rfl hc
  ·intro E θ a w hD hi hp he hc
   have e10 := hp.o 10 rfl
   try dsimp only at hc
   rw [hi] at hc
   have hf := (he.h0.mT he 3 rfl).mP he 14 rfl e10
   refine zW hf hc sz_207 u0 rfl fun w hc => zG θ he hi hf rfl ?_
   try dsimp only
   rw [updE_self E 11]
   exact hc
  ·intro E θ a w hall he hc
   have hf := he.h0
   have e11 := hall 11 rfl
   replace hf := hf.more he 3 rfl (onT)
   replace hf := hf.more he 2 rfl (onT)
   replace hf := hf.more he 1 rfl (onT)
   replace hf := hf.more he 0 rfl (onT)
   try dsimp only at hc
   rw [e11] at hc
   exact ⟨hf.kp rfl,hc⟩
  rintro a w ⟨hf,hc⟩
  exact hj2 (W (((w_.least b__1.toNat).cost) + r_2.Cost)) (W (((w_.least b__1.toNat).points) + 1)) _ _  (hf.kp rfl) hc hF
 ·refine wp_skip ?_
  exact hj2 ((w_.least b__1.toNat).cost) ((w_.least b__1.toNat).points) _ _  (hf.kp rfl) hc hF

def gauge_opened_j21 (N : Nat) (b_3 : Int) (x_2 : Nat → gauge_spent) (mp_2 : Int → Option Int) : Option (Step (Int × (Nat → gauge_spent) × (Int → Option Int)) (Step (Int × (Nat → gauge_spent) × (Int → Option Int)) ((Int) ⊕ (Int × Int × Int × Int × (Nat → gauge_spent) × (Int → Option Int) × Int)))) :=
 some (.cont (W (b_3 + 1),x_2,mp_2))
def gauge_opened_b18 (N : Nat) (s_ : gauge_Site) (a_1 : Int) (b_3 : Int) (x_1 : Nat → gauge_spent) (mp_1 : Int → Option Int) : Option (Step (Int × (Nat → gauge_spent) × (Int → Option Int)) (Step (Int × (Nat → gauge_spent) × (Int → Option Int)) ((Int) ⊕ (Int × Int × Int × Int × (Nat → gauge_spent) × (Int → Option Int) × Int)))) :=
 cond (decide (b_3 ≤ (W (((s_.Points.length : Nat) : Int) + 1))))
 (Option.bind (gauge_work_steps N (⟨s_,x_1,mp_1⟩ : gauge_work) a_1 b_3) fun r_2 =>
 Option.bind (cond r_2 (Option.bind (inR b_3 32) fun un_1 =>
 Option.bind (gauge_far N) fun r_3 =>
 some (!(((x_1 b_3.toNat).cost) == r_3.cost && ((x_1 b_3.toNat).points) == r_3.points))) (some false)) fun t_1 =>
 cond t_1
 (Option.bind (gauge_work_better N (⟨s_,x_1,mp_1⟩ : gauge_work) a_1 b_3) fun r_4 =>
 gauge_opened_j21 N b_3 r_4.1 r_4.2)
 (gauge_opened_j21 N b_3 x_1 mp_1))
 (some (.brk (b_3,x_1,mp_1)))
def gauge_opened_b10 (N : Nat) (s_ : gauge_Site) (a_1 : Int) (x : Nat → gauge_spent) (mp : Int → Option Int) : Option (Step (Int × (Nat → gauge_spent) × (Int → Option Int)) ((Int) ⊕ (Int × Int × Int × Int × (Nat → gauge_spent) × (Int → Option Int) × Int))) :=
 cond (decide (0 ≤ a_1))
 (Option.bind (gauge_far N) fun r_1 =>
 Option.bind (inR a_1 32) fun un =>
 Option.bind (loopO (fun s18 => gauge_opened_b18 N s_ a_1 s18.1 s18.2.1 s18.2.2) N (W (a_1 + 1),(setF x a_1.toNat r_1),mp)) fun x18 =>
 exK x18 (fun s18 => some (.cont (W (a_1 - 1),s18.2.1,s18.2.2))) some)
 (some (.brk (a_1,x,mp)))
def gauge_opened (N : Nat) (s_ : gauge_Site) : Option ((Int) ⊕ (Int × Int × Int × Int × (Nat → gauge_spent) × (Int → Option Int) × Int)) :=
 Option.bind (gauge_CheckSite N s_) fun r =>
 cond (r != 0)
 (some (.inl r))
 (Option.bind (loopO (fun s10 => gauge_opened_b10 N s_ s10.1 s10.2.1 s10.2.2) N (W ((W (((s_.Points.length : Nat) : Int) + 1)) - 1),(fun _ => (⟨0,0⟩ : gauge_spent)),(fun _ => none : Int → Option Int))) fun x10 =>
 exK x10 (fun s10 => some (.inr (s_.Left,s_.Right,s_.Gap,s_.Step_,s10.2.1,s10.2.2,0))) some)
theorem gauge_opened_ok {N : Nat} {G : Pers} {Lf : List Ent} {w : World} (s_ : gauge_Site) {s__Points_p : Option Addr} {s__Points_c : Nat} (h_s__Points : Rd G 3 s__Points_p s__Points_c (s_.Points.map enc_gauge_Point)) (hc : Ctx G (Lf) w) {res : (Int) ⊕ (Int × Int × Int × Int × (Nat → gauge_spent) × (Int → Option Int) × Int)} (hF : gauge_opened N s_ = some res) : Calls Tryz.prog 140 #[.agg #[i6 s_.Left,i6 s_.Right,i6 s_.Gap,i6 s_.Step_,.slice s__Points_p s_.Points.length s__Points_c]] w (fun e w => sumK (fun rr => e = .returned (.tuple #[.pointer none,i6 rr]) ∧ Ctx G (Lf) w) (fun rr => ∃ (b'1 : Nat) (b'2 : Nat),e = .returned (.tuple #[pq b'1,i6 rr.2.2.2.2.2.2]) ∧ Ctx G (.im b'2 (fun j => (rr.2.2.2.2.2.1 j).map (Value.int .i64)) none::.box b'1 (catc [i6 rr.1,i6 rr.2.1,i6 rr.2.2.1,i6 rr.2.2.2.1,.slice s__Points_p s_.Points.length s__Points_c] 32 enc_gauge_spent rr.2.2.2.2.1 [.map (some b'2)]) 211::Lf) w) res) := by
 unfold gauge_opened at hF
 refine fnIn Tryz.func140 rfl Tryz.ntmps140 rfl fun a hf => zS fun K h => zB hf hc rfl fun b_1 a w hf hc => sp 2 hf rfl fun a hf => zT h ?_
 refine wp_seq_k fun K2 h2 => zS fun K h => zN hf hc ag_136 m0 rfl fun a w hf hc => ?_
 obtain ⟨r,hr,hF⟩ := bnd_some hF
 refine zQ (v := i6 r) hf hc en_143 rfl (fun w hc => gauge_CheckSite_ok s_ h_s__Points hc hr) fun a w hf hc => sp 1 hf rfl fun a hf => zT h ?_
 refine zS fun K h => sp 2 hf rfl fun a hf => zT h ?_
 refine zI hf rfl hF ?_ ?_ <;> clear hF <;> intro hF
 ·refine zS fun K h => sp 3 hf rfl fun a hf => zT h ?_
  refine wp_ret ?_
  refine xThenR ?_
  obtain rfl := sj hF
  replace hc := hc.drop k0
  exact zO2 Tryz.results140 hf rfl rfl ⟨rfl,hc⟩
 ·refine wp_skip ?_
  refine h2 _ _ ?_
  refine zS fun K h => zN hf hc ag_136 m0 rfl fun a w hf hc => stMM hf hc rfl rfl fun mb a w hf hc => ?_
  replace hc : Ctx _ (.im mb (fun j => ((fun _ => none : Int → Option Int) j).map (Value.int .i64)) none::_) w := hc
  refine zP hf rfl (pBuildS (cells := (catc [i6 s_.Left,i6 s_.Right,i6 s_.Gap,i6 s_.Step_,.slice s__Points_p s_.Points.length s__Points_c] 32 enc_gauge_spent (fun _ => (⟨0,0⟩ : gauge_spent)) [.map (some mb)])) bt_211 rfl rfl) fun a hf => stBx (cs := (catc [i6 s_.Left,i6 s_.Right,i6 s_.Gap,i6 s_.Step_,.slice s__Points_p s_.Points.length s__Points_c] 32 enc_gauge_spent (fun _ => (⟨0,0⟩ : gauge_spent)) [.map (some mb)])) hf hc rfl rfl rfl rfl fun b_2 a w hf hc => sp 1 hf rfl fun a hf => zT h ?_
  refine zS fun K h => zP hf rfl (pFA fa_136_4 rfl) fun a hf => zL hf hc sc_134 m2 rfl fun a w hf hc => zP hf rfl (pLenS Tryz.underlying134 rfl) fun a hf => sp 2 hf rfl fun a hf => zT h ?_
  refine wp_seq_k fun K8 h8 => zS fun K h => sp 3 hf rfl fun a hf => zT h ?_
  refine wp_block ?_
  obtain ⟨x10,hx10,hF⟩ := bnd_some hF
  let S10 : (Int × (Nat → gauge_spent) × (Int → Option Int)) → Act → World → Prop := (fun (zz : Int × (Nat → gauge_spent) × (Int → Option Int)) a w => Has 60 a [(5,pq b_2),(6,i6 (W (((s_.Points.length : Nat) : Int) + 1))),(7,i6 zz.1)] ∧ Ctx G (.box b_2 (catc [i6 s_.Left,i6 s_.Right,i6 s_.Gap,i6 s_.Step_,.slice s__Points_p s_.Points.length s__Points_c] 32 enc_gauge_spent zz.2.1 [.map (some mb)]) 211::.im mb (fun j => (zz.2.2 j).map (Value.int .i64)) none::Lf) w)
  have hr10 : ∀ (zz : Int × (Nat → gauge_spent) × (Int → Option Int)) a w,x10 = .go zz → S10 zz a w → K8 a w := by
   rintro ⟨a_1,x,mp⟩ a w rfl ⟨hf,hc⟩
   replace hF := exK_go hF
   refine h8 _ _ ?_
   refine zS fun K h => sp 3 hf rfl fun a hf => zT h ?_
   refine wp_ret ?_
   obtain rfl := sj hF
   replace hc := (hc.pick k0).pick k1
   exact zO2 Tryz.results140 hf rfl rfl ⟨b_2,mb,rfl,hc⟩
  have ho10 : ∀ r,x10 = .out r → r = res := by
   rintro r rfl
   exact sj hF
  replace hc := hc.drop k2
  refine cLoop N (loopW (S := S10) (x := x10) ?_ N (W ((W (((s_.Points.length : Nat) : Int) + 1)) - 1),(fun _ => (⟨0,0⟩ : gauge_spent)),(fun _ => none : Int → Option Int)) _ _ ⟨hf.kp rfl,hc⟩ hx10)
  clear hF hf hc
  rintro ⟨a_1,x,mp⟩ st10 a w KB10 ⟨hf,hc⟩ hF hfin10 hK10
  unfold gauge_opened_b10 at hF
  refine wp_seq_k fun K12 h12 => zS fun K h => sp 2 hf rfl fun a hf => zT h ?_
  refine zI hf rfl hF ?_ ?_ <;> clear hF <;> intro hF
  ·refine wp_skip ?_
   refine h12 _ _ ?_
   refine wp_seq_k fun K14 h14 => wp_block ?_
   refine wp_seq_k fun K15 h15 => ?_
   obtain ⟨r_1,hr_1,hF⟩ := bnd_some hF
   obtain ⟨un,hun,hF⟩ := bnd_some hF
   refine regionE (fun θ => [⟨none,none,5,pq b_2⟩,⟨none,none,6,i6 (W (((s_.Points.length : Nat) : Int) + 1))⟩,⟨none,none,7,i6 a_1⟩,⟨some 0,none,28,pq b_2⟩,⟨some 1,none,29,i6 a_1⟩,⟨some 2,none,30,.agg #[i6 r_1.cost,i6 r_1.points]⟩,⟨some 3,none,31,pq b_2⟩,⟨some 4,none,32,.pointer (some ⟨b_2,5,none⟩)⟩,⟨some 5,none,33,.pointer (some ⟨b_2,5 + a_1.toNat * 2,none⟩)⟩]) (fun E θ => (bif E 6 then .box b_2 (catc [i6 s_.Left,i6 s_.Right,i6 s_.Gap,i6 s_.Step_,.slice s__Points_p s_.Points.length s__Points_c] 32 enc_gauge_spent (setF x a_1.toNat r_1) [.map (some mb)]) 211 else .box b_2 (catc [i6 s_.Left,i6 s_.Right,i6 s_.Gap,i6 s_.Step_,.slice s__Points_p s_.Points.length s__Points_c] 32 enc_gauge_spent x [.map (some mb)]) 211)::.im mb (fun j => (mp j).map (Value.int .i64)) none::Lf) [] (fun a w => Has 60 a [(5,pq b_2),(6,i6 (W (((s_.Points.length : Nat) : Int) + 1))),(7,i6 a_1)] ∧ Ctx G (.box b_2 (catc [i6 s_.Left,i6 s_.Right,i6 s_.Gap,i6 s_.Step_,.slice s__Points_p s_.Points.length s__Points_c] 32 enc_gauge_spent (setF x a_1.toNat r_1) [.map (some mb)]) 211::.im mb (fun j => (mp j).map (Value.int .i64)) none::Lf) w) follows_mx (by kernel_rfl) (by kernel_rfl) (HasE.of hf ⟨rfl,rfl,rfl,trivial,trivial,trivial,trivial,trivial,trivial,trivial⟩) hc ⟨?_,?_,?_,?_,?_,?_,?_,trivial⟩ ?_ ?_
   ·intro E θ a w hD hi hp he hc
    have hf := he.h0.mT he 0 rfl
    refine sp 1 hf rfl fun a hf => zD θ he hi hf 3 rfl rfl rfl hc
   ·intro E θ a w hD hi hp he hc
    have hf := he.h0.mT he 2 rfl
    refine sp 1 hf rfl fun a hf => zD θ he hi hf 4 rfl rfl rfl hc
   ·intro E θ a w hD hi hp he hc
    have hf := he.h0
    refine zQ (v := .agg #[i6 r_1.cost,i6 r_1.points]) hf hc en_141 rfl (fun w hc => gauge_far_ok hc hr_1) fun a w hf hc => zD θ he hi hf 5 rfl rfl rfl hc
   ·intro E θ a w hD hi hp he hc
    have e0 := hp.o 0 rfl
    have hf := he.h0.mP he 3 rfl e0
    refine sp 1 hf rfl fun a hf => zD θ he hi hf 6 rfl rfl rfl hc
   ·intro E θ a w hD hi hp he hc
    have e3 := hp.o 3 rfl
    have hf := he.h0.mP he 6 rfl e3
    refine zP hf rfl (pFA fa_211_1 rfl) fun a hf => zD θ he hi hf 7 rfl rfl rfl hc
   ·intro E θ a w hD hi hp he hc
    have e1 := hp.o 1 rfl
    have e4 := hp.o 4 rfl
    have hf := (he.h0.mP he 4 rfl e1).mP he 7 rfl e4
    refine zP hf rfl (pIAA Tryz.underlying208 sz_207 rfl rfl (inR_spec hun).1 (inR_spec hun).2) fun a hf => zD θ he hi hf 8 rfl rfl rfl hc
   ·intro E θ a w hD hi hp he hc
    have e2 := hp.o 2 rfl
    have e5 := hp.o 5 rfl
    try dsimp only at hc
    rw [hi] at hc
    have hf := (he.h0.mP he 5 rfl e2).mP he 8 rfl e5
    refine stAr (vs := [i6 r_1.cost,i6 r_1.points]) (o' := 0) (z := r_1) hf hc rfl rfl rfl rfl sz_207 rfl (fun x => (one_enc_gauge_spent x).1) rfl hun rfl rfl u0 fun w hc => zG θ he hi hf rfl ?_
    try dsimp only
    rw [updE_self E 6]
    exact hc
   ·intro E θ a w hall he hc
    have hf := he.h0
    have e6 := hall 6 rfl
    replace hf := hf.more he 2 rfl (onT)
    replace hf := hf.more he 1 rfl (onT)
    replace hf := hf.more he 0 rfl (onT)
    try dsimp only at hc
    rw [e6] at hc
    exact ⟨hf.kp rfl,hc⟩
   rintro a w ⟨hf,hc⟩
   refine h15 _ _ ?_
   refine zS fun K h => sp 3 hf rfl fun a hf => zT h ?_
   refine wp_thenK fun K17 h17 => wp_block ?_
   obtain ⟨x18,hx18,hF⟩ := bnd_some hF
   let S18 : (Int × (Nat → gauge_spent) × (Int → Option Int)) → Act → World → Prop := (fun (zz : Int × (Nat → gauge_spent) × (Int → Option Int)) a w => Has 60 a [(5,pq b_2),(6,i6 (W (((s_.Points.length : Nat) : Int) + 1))),(7,i6 a_1),(8,i6 zz.1)] ∧ Ctx G (.box b_2 (catc [i6 s_.Left,i6 s_.Right,i6 s_.Gap,i6 s_.Step_,.slice s__Points_p s_.Points.length s__Points_c] 32 enc_gauge_spent zz.2.1 [.map (some mb)]) 211::.im mb (fun j => (zz.2.2 j).map (Value.int .i64)) none::Lf) w)
   have hr18 : ∀ (zz : Int × (Nat → gauge_spent) × (Int → Option Int)) a w,x18 = .go zz → S18 zz a w → K17 a w := by
    rintro ⟨b_3,x_1,mp_1⟩ a w rfl ⟨hf,hc⟩
    replace hF := exK_go hF
    refine h17 _ _ ?_
    refine h14 _ _ ?_
    refine cReg ?_
    refine sp 3 hf rfl fun a hf => cNil ?_
    exact hK10 (W (a_1 - 1),x_1,mp_1) _ _ (sj hF).symm ⟨hf.kp rfl,hc⟩
   have ho18 : ∀ r,x18 = .out r → r = st10 := by
    rintro r rfl
    exact sj hF
   refine cLoop N (loopW (S := S18) (x := x18) ?_ N (W (a_1 + 1),(setF x a_1.toNat r_1),mp) _ _ ⟨hf.kp rfl,hc⟩ hx18)
   clear hF hf hc
   rintro ⟨b_3,x_1,mp_1⟩ st18 a w KB18 ⟨hf,hc⟩ hF hfin18 hK18
   unfold gauge_opened_b18 at hF
   refine wp_seq_k fun K19 h19 => zS fun K h => sp 3 hf rfl fun a hf => zT h ?_
   refine zI hf rfl hF ?_ ?_ <;> clear hF <;> intro hF
   ·refine wp_skip ?_
    refine h19 _ _ ?_
    refine wp_seq_k fun K21 h21 => ?_
    have hj21 : ∀ (x_2 : Nat → gauge_spent) (mp_2 : Int → Option Int) a w,Has 60 a [(5,pq b_2),(6,i6 (W (((s_.Points.length : Nat) : Int) + 1))),(7,i6 a_1),(8,i6 b_3)] → Ctx G (.box b_2 (catc [i6 s_.Left,i6 s_.Right,i6 s_.Gap,i6 s_.Step_,.slice s__Points_p s_.Points.length s__Points_c] 32 enc_gauge_spent x_2 [.map (some mb)]) 211::.im mb (fun j => (mp_2 j).map (Value.int .i64)) none::Lf) w → gauge_opened_j21 N b_3 x_2 mp_2 = some st18 → K21 a w := by
     repeat (clear hF)
     repeat (clear hc)
     repeat (clear hf)
     intro x_2 mp_2 a w hf hc hF
     unfold gauge_opened_j21 at hF
     refine h21 _ _ ?_
     refine cReg ?_
     refine sp 3 hf rfl fun a hf => cNil ?_
     exact hK18 (W (b_3 + 1),x_2,mp_2) _ _ (sj hF).symm ⟨hf.kp rfl,hc⟩
    refine wp_block ?_
    refine wp_seq_k fun K22 h22 => ?_
    obtain ⟨r_2,hr_2,hF⟩ := bnd_some hF
    obtain ⟨t_1,ht_1,hF⟩ := bnd_some hF
    refine cQ hc follows_mx (by kernel_rfl) ?_
    refine qE hf rfl rfl rfl (Pu.ev (pM rfl)) fun a hf => qE hf rfl rfl rfl (Pu.ev (pM rfl)) fun a hf => qE hf rfl rfl rfl (Pu.ev (pM rfl)) fun a hf => qE hf rfl rfl rfl (eC (v := .bool r_2) (vs := [pq b_2,i6 a_1,i6 b_3]) (caps := []) en_149 rfl rfl rfl rfl (fun w hc => (gauge_work_steps_ok (⟨s_,x_1,mp_1⟩ : gauge_work) a_1 b_3 h_s__Points ((hc.pick k1).pick k1) hr_2).mono fun e w h => ⟨h.1,((h.2.unpick k1).unpick k1)⟩)) fun a hf => qE hf rfl rfl rfl (Pu.ev (pM rfl)) fun a hf => qCut 9 (fun a => Has 60 a [(5,pq b_2),(6,i6 (W (((s_.Points.length : Nat) : Int) + 1))),(7,i6 a_1),(8,i6 b_3),(41,pq b_2),(42,i6 a_1),(43,i6 b_3),(44,.bool r_2),(45,.bool r_2),(54,.bool t_1)]) ?_ ?_
    ·cases hb : r_2
     ·rw [hb] at hf
      have hF := condF hb ht_1
      obtain rfl := sj hF
      refine qS hf rfl rfl rfl fun a hf => qS hf rfl rfl rfl fun a hf => qS hf rfl rfl rfl fun a hf => qS hf rfl rfl rfl fun a hf => qS hf rfl rfl rfl fun a hf => qS hf rfl rfl rfl fun a hf => qS hf rfl rfl rfl fun a hf => qS hf rfl rfl rfl fun a hf => qE hf rfl rfl rfl (Pu.ev (pPf rfl rfl)) fun a hf => qNil (hf.kp rfl)
     ·rw [hb] at hf
      have hF := condT hb ht_1
      obtain ⟨un_1,hun_1,hF⟩ := bnd_some hF
      obtain ⟨r_3,hr_3,hF⟩ := bnd_some hF
      refine qE hf rfl rfl rfl (Pu.ev (pM rfl)) fun a hf => qE hf rfl rfl rfl (Pu.ev (pM rfl)) fun a hf => qE hf rfl rfl rfl (Pu.ev (pNC rfl)) fun a hf => qE hf rfl rfl rfl (Pu.ev (pFA fa_211_1 rfl)) fun a hf => qE hf rfl rfl rfl (Pu.ev (pIAA Tryz.underlying208 sz_207 rfl rfl (inR_spec hun_1).1 (inR_spec hun_1).2)) fun a hf => qE hf rfl rfl rfl (eLdN (vs := [i6 ((x_1 b_3.toNat).cost),i6 ((x_1 b_3.toNat).points)]) ag_207 rfl rfl (cells_arr (o' := 0) (m := 2) m0 (fun x => (one_enc_gauge_spent x).1) rfl hun_1 rfl)) fun a hf => qE hf rfl rfl rfl (eC (v := .agg #[i6 r_3.cost,i6 r_3.points]) (vs := []) (caps := []) en_141 rfl rfl rfl rfl (fun w hc => gauge_far_ok hc hr_3)) fun a hf => qE hf rfl rfl rfl (Pu.ev (pNeA ge_207 rfl rfl (eqs_207 _ _ _ _))) fun a hf => qE hf rfl rfl rfl (Pu.ev (pPt rfl rfl)) fun a hf => ?_
      obtain rfl := sj hF
      exact qNil (hf.kp rfl)
    intro a hf
    intro w hc
    refine h22 _ _ ?_
    refine zI hf rfl hF ?_ ?_ <;> clear hF <;> intro hF
    ·refine cReg ?_
     refine sp 3 hf rfl fun a hf => ?_
     obtain ⟨r_4,hr_4,hF⟩ := bnd_some hF
     refine zC hf en_177 rfl (gauge_work_better_ok (⟨s_,x_1,mp_1⟩ : gauge_work) a_1 b_3 h_s__Points ((hc.pick k1).pick k1) hr_4) ?_
     rintro _ w ⟨rfl,hc⟩
     refine ⟨_,rfl,fun a hf => ?_⟩
     refine cNil ?_
     exact hj21 r_4.1 r_4.2 _ _  (hf.kp rfl) hc hF
    ·refine wp_skip ?_
     exact hj21 x_1 mp_1 _ _  (hf.kp rfl) hc hF
   ·refine wp_exit ?_
    refine xThen ?_
    refine xThen ?_
    have he := sj hF
    rw [← he] at hfin18
    refine cHit ?_
    exact hr18 _ _ _ hfin18 ⟨hf.kp rfl,hc⟩
  ·refine wp_exit ?_
   refine xThen ?_
   refine xThen ?_
   have he := sj hF
   rw [← he] at hfin10
   refine cHit ?_
   exact hr10 _ _ _ hfin10 ⟨hf.kp rfl,hc⟩

def gauge_Plan_1 : Nat → Int → gauge_work → gauge_Site → (List Int) → Option ((List Int))
| 0,_,_,_,_ => none
| N + 1,at_,x,x_1,x_2 =>
 cond (decide (((x.from_ at_).getD 0) ≤ ((x_1.Points.length : Nat) : Int)))
 (Option.bind (room ((x_2 ++ [((x.from_ at_).getD 0)])).length) fun un =>
 Option.bind (gauge_Plan_1 N ((x.from_ at_).getD 0) (⟨x.Site,x.least,x.from_⟩ : gauge_work) x_1 (x_2 ++ [((x.from_ at_).getD 0)])) fun r =>
 some r)
 (some x_2)
theorem gauge_Plan_1_ok {N : Nat} : ∀ {G : Pers} {Lf : List Ent} {w : World} (at_ : Int) (x : gauge_work) (x_1 : gauge_Site) (x_2 : List Int) {b_ : Nat} {b__1 : Nat} {x_Site_Points_p : Option Addr} {x_Site_Points_c : Nat} {mb : Nat} {b__2 : Nat} {x_1_Points_p : Option Addr} {x_1_Points_c : Nat} {b__3 : Nat} {x_2_p : Option Addr} {x_2_c : Nat} {b__4 : Nat} (h_x_Site_Points : Rd G 3 x_Site_Points_p x_Site_Points_c (x.Site.Points.map enc_gauge_Point)) (h_x_1_Points : Rd G 3 x_1_Points_p x_1_Points_c (x_1.Points.map enc_gauge_Point)) (hc : Ctx G (.box b_ [pq b__1] 203::.box b__1 (catc [i6 x.Site.Left,i6 x.Site.Right,i6 x.Site.Gap,i6 x.Site.Step_,.slice x_Site_Points_p x.Site.Points.length x_Site_Points_c] 32 enc_gauge_spent x.least [.map (some mb)]) 211::.im mb (fun j => (x.from_ j).map (Value.int .i64)) none::.box b__2 [i6 x_1.Left,i6 x_1.Right,i6 x_1.Gap,i6 x_1.Step_,.slice x_1_Points_p x_1.Points.length x_1_Points_c] 136::.box b__3 [.slice x_2_p x_2.length x_2_c] 25::.row x_2_p x_2_c (x_2.map encI_i64) 3 1::.box b__4 [.func (.func 142) #[] #[pq b_,pq b__2,pq b__3,pq b__4]] 213::Lf) w) {res : (List Int)} (hF : gauge_Plan_1 N at_ x x_1 x_2 = some res),Calls Tryz.prog 142 #[i6 at_,pq b_,pq b__2,pq b__3,pq b__4] w (fun e w => ∃ (p'1 : Option Addr) (c'1 : Nat),e = .returned (.tuple #[]) ∧ Ctx G (.row p'1 c'1 (res.map encI_i64) 3 1::.box b_ [pq b__1] 203::.box b__1 (catc [i6 x.Site.Left,i6 x.Site.Right,i6 x.Site.Gap,i6 x.Site.Step_,.slice x_Site_Points_p x.Site.Points.length x_Site_Points_c] 32 enc_gauge_spent x.least [.map (some mb)]) 211::.im mb (fun j => (x.from_ j).map (Value.int .i64)) none::.box b__2 [i6 x_1.Left,i6 x_1.Right,i6 x_1.Gap,i6 x_1.Step_,.slice x_1_Points_p x_1.Points.length x_1_Points_c] 136::.box b__3 [.slice p'1 res.length c'1] 25::.box b__4 [.func (.func 142) #[] #[pq b_,pq b__2,pq b__3,pq b__4]] 213::Lf) w) := by
 induction N with
 | zero =>
  intro G Lf w at_ x x_1 x_2 b_ b__1 x_Site_Points_p x_Site_Points_c mb b__2 x_1_Points_p x_1_Points_c b__3 x_2_p x_2_c b__4 h_x_Site_Points h_x_1_Points hc res hF
  exact noneO hF
 | succ N ih =>
 intro G Lf w at_ x x_1 x_2 b_ b__1 x_Site_Points_p x_Site_Points_c mb b__2 x_1_Points_p x_1_Points_c b__3 x_2_p x_2_c b__4 h_x_Site_Points h_x_1_Points hc res hF
 rw [gauge_Plan_1] at hF
 refine fnIn Tryz.func142 rfl Tryz.ntmps142 rfl fun a hf => zS fun K h => zL hf hc sc_203 m0 rfl fun a w hf hc => sp 1 hf rfl fun a hf => zP hf rfl (pFA fa_211_2 rfl) fun a hf => zL hf hc sc_209 m1 rfl fun a w hf hc => sp 1 hf rfl fun a hf => zE hf hc rfl (eLk (enc := (Value.int .i64)) (z0 := 0) (m := x.from_) m2 Tryz.underlying209 Tryz.underlying3 zr_3 rfl rfl) fun a w hf hc => sp 1 hf rfl fun a hf => zT h ?_
 refine zS fun K h => sp 1 hf rfl fun a hf => zP hf rfl (pFA fa_136_4 rfl) fun a hf => zL hf hc sc_134 m3 rfl fun a w hf hc => zP hf rfl (pLenS Tryz.underlying134 rfl) fun a hf => sp 1 hf rfl fun a hf => zT h ?_
 refine zI hf rfl hF ?_ ?_ <;> clear hF <;> intro hF
 ·refine zS fun K h => zL hf hc sc_25 m4 rfl fun a w hf hc => sp 1 hf rfl fun a hf => stBS (rows := ([((x.from_ at_).getD 0)] : List Int).map encI_i64) (vs := [(0,i6 ((x.from_ at_).getD 0))]) hf hc rfl rfl sl_25 rfl ⟨rfl,rfl,rfl,trivial⟩ rfl rfl fun b_1 a w hf hc => ?_
  obtain ⟨un,hun,hF⟩ := bnd_some hF
  refine stApm (xs := x_2) (ys := ([((x.from_ at_).getD 0)] : List Int)) hf hc rfl rfl sl_25 rfl rfl rfl rfl rfl one_encI_i64 (src_row hc m0) (fun _ _ => u6) (by simpa using room_spec hun) fun p_1 c_1 a w hf hc => zW hf hc sz_25 u5 rfl fun w hc => zT h ?_
  refine cReg ?_
  refine zL hf hc sc_213 m7 rfl fun a w hf hc => sp 1 hf rfl fun a hf => ?_
  obtain ⟨r,hr,hF⟩ := bnd_some hF
  refine zC hf en_142 rfl (ih ((x.from_ at_).getD 0) (⟨x.Site,x.least,x.from_⟩ : gauge_work) x_1 (x_2 ++ [((x.from_ at_).getD 0)]) h_x_Site_Points h_x_1_Points (((((((hc.pick k7).pick k7).pick k7).pick k7).pick k7).pick k7).pick k7) hr) ?_
  rintro _ w ⟨p_2,c_2,rfl,hc⟩
  refine ⟨_,rfl,fun a hf => ?_⟩
  refine cNil ?_
  obtain rfl := sj hF
  replace hc := hc.drop k7
  exact fnOut0 (by simp) rfl Tryz.results142 hf ⟨p_2,c_2,rfl,hc⟩
 ·refine wp_skip ?_
  obtain rfl := sj hF
  replace hc := (((((hc.pick k4).pick k4).pick k4).pick k4).pick k4).pick k5
  exact fnOut0 (by simp) rfl Tryz.results142 hf ⟨x_2_p,x_2_c,rfl,hc⟩

def gauge_Plan (N : Nat) (s_ : gauge_Site) : Option ((List Int) × Int × Int) :=
 Option.bind (gauge_opened N s_) (sumK (fun r => cond (r != 0)
 (some (([] : List Int),0,r))
 (none))
 (fun r_1 => cond (r_1.2.2.2.2.2.2 != 0)
 (some (([] : List Int),0,r_1.2.2.2.2.2.2))
 (Option.bind (inR 0 32) fun un =>
 Option.bind (gauge_far N) fun r_2 =>
 cond (((r_1.2.2.2.2.1 (0 : Int).toNat).cost) == r_2.cost && ((r_1.2.2.2.2.1 (0 : Int).toNat).points) == r_2.points)
 (some (([] : List Int),0,5))
 (Option.bind (gauge_Plan_1 N 0 (⟨(⟨r_1.1,r_1.2.1,r_1.2.2.1,r_1.2.2.2.1,s_.Points⟩ : gauge_Site),r_1.2.2.2.2.1,r_1.2.2.2.2.2.1⟩ : gauge_work) s_ ([] : List Int)) fun r_3 =>
 Option.bind (inR 0 32) fun un_1 =>
 some (r_3,(r_1.2.2.2.2.1 (0 : Int).toNat).cost,0)))))
theorem gauge_Plan_ok {N : Nat} {G : Pers} {Lf : List Ent} {w : World} (s_ : gauge_Site) {s__Points_p : Option Addr} {s__Points_c : Nat} (h_s__Points : Rd G 3 s__Points_p s__Points_c (s_.Points.map enc_gauge_Point)) (hc : Ctx G (Lf) w) {res : (List Int) × Int × Int} (hF : gauge_Plan N s_ = some res) : Calls Tryz.prog 76 #[.agg #[i6 s_.Left,i6 s_.Right,i6 s_.Gap,i6 s_.Step_,.slice s__Points_p s_.Points.length s__Points_c]] w (fun e w => ∃ (p'1 : Option Addr) (c'1 : Nat),e = .returned (.tuple #[.slice p'1 res.1.length c'1,i6 res.2.1,i6 res.2.2]) ∧ Ctx G (.row p'1 c'1 (res.1.map encI_i64) 3 1::Lf) w) := by
 unfold gauge_Plan at hF
 refine fnIn Tryz.func76 rfl Tryz.ntmps76 rfl fun a hf => zS fun K h => zB hf hc rfl fun b_1 a w hf hc => sp 3 hf rfl fun a hf => zT h ?_
 refine zS fun K h => zN hf hc ag_136 m0 rfl fun a w hf hc => ?_
 obtain ⟨r,hr,hF⟩ := bnd_some hF
 cases r with
 | inl r =>
  replace hF := sumKl hF
  refine zC hf en_140 rfl (gauge_opened_ok s_ h_s__Points hc hr) ?_
  rintro _ w ⟨rfl,hc⟩
  refine ⟨_,rfl,fun a hf => ?_⟩
  refine sp 3 hf rfl fun a hf => zA hf hc zr_203 rfl fun b_2 a w hf hc => zW hf hc sz_203 u0 rfl fun w hc => sp 1 hf rfl fun a hf => zT h ?_
  refine wp_seq_k fun K3 h3 => wp_block ?_
  refine zS fun K h => sp 3 hf rfl fun a hf => zT h ?_
  refine zI hf rfl hF ?_ ?_ <;> clear hF <;> intro hF
  ·refine zS fun K h => sp 4 hf rfl fun a hf => zT h ?_
   refine wp_ret ?_
   refine xBlkR ?_
   refine xThenR ?_
   obtain rfl := sj hF
   replace hc := hc.nilRow 3 1
   replace hc := (hc.drop k2).drop k1
   exact zO3 Tryz.results76 hf rfl rfl rfl ⟨none,0,rfl,hc⟩
  ·refine wp_seq_k fun K6 h6 => noneO hF
 | inr r_1 =>
  replace hF := sumKr hF
  have hr_1 := hr
  refine zC hf en_140 rfl (gauge_opened_ok s_ h_s__Points hc hr_1) ?_
  rintro _ w ⟨b_3,b_4,rfl,hc⟩
  refine ⟨_,rfl,fun a hf => ?_⟩
  refine sp 3 hf rfl fun a hf => zA hf hc zr_203 rfl fun b_5 a w hf hc => zW hf hc sz_203 u0 rfl fun w hc => sp 1 hf rfl fun a hf => zT h ?_
  refine wp_seq_k fun K7 h7 => wp_block ?_
  refine zS fun K h => sp 3 hf rfl fun a hf => zT h ?_
  refine zI hf rfl hF ?_ ?_ <;> clear hF <;> intro hF
  ·refine zS fun K h => sp 4 hf rfl fun a hf => zT h ?_
   refine wp_ret ?_
   refine xBlkR ?_
   refine xThenR ?_
   obtain rfl := sj hF
   replace hc := hc.nilRow 3 1
   replace hc := (((hc.drop k4).drop k3).drop k2).drop k1
   exact zO3 Tryz.results76 hf rfl rfl rfl ⟨none,0,rfl,hc⟩
  ·refine wp_seq_k fun K10 h10 => ?_
   obtain ⟨un,hun,hF⟩ := bnd_some hF
   obtain ⟨r_2,hr_2,hF⟩ := bnd_some hF
   refine cQ hc follows_mx (by kernel_rfl) ?_
   refine qE hf rfl rfl rfl (eLd1 sc_203 rfl (cell_box m0 rfl)) fun a hf => qE hf rfl rfl rfl (Pu.ev (pNC rfl)) fun a hf => qE hf rfl rfl rfl (Pu.ev (pFA fa_211_1 rfl)) fun a hf => qE hf rfl rfl rfl (Pu.ev (pIAA Tryz.underlying208 sz_207 rfl rfl (inR_spec hun).1 (inR_spec hun).2)) fun a hf => qE hf rfl rfl rfl (eLdN (vs := [i6 ((r_1.2.2.2.2.1 (0 : Int).toNat).cost),i6 ((r_1.2.2.2.2.1 (0 : Int).toNat).points)]) ag_207 rfl rfl (cells_arr (o' := 0) (m := 2) m2 (fun x => (one_enc_gauge_spent x).1) rfl hun rfl)) fun a hf => qE hf rfl rfl rfl (eC (v := .agg #[i6 r_2.cost,i6 r_2.points]) (vs := []) (caps := []) en_141 rfl rfl rfl rfl (fun w hc => gauge_far_ok hc hr_2)) fun a hf => qE hf rfl rfl rfl (Pu.ev (pEqA ge_207 rfl rfl (eqs_207 _ _ _ _))) fun a hf => qE hf rfl rfl rfl (Pu.ev (pA rfl)) fun a hf => ?_
   intro w hc
   refine h10 _ _ ?_
   refine zI hf rfl hF ?_ ?_ <;> clear hF <;> intro hF
   ·refine zS fun K h => sp 3 hf rfl fun a hf => zT h ?_
    refine wp_ret ?_
    refine xBlkR ?_
    refine xThenR ?_
    obtain rfl := sj hF
    replace hc := hc.nilRow 3 1
    replace hc := (((hc.drop k4).drop k3).drop k2).drop k1
    exact zO3 Tryz.results76 hf rfl rfl rfl ⟨none,0,rfl,hc⟩
   ·refine wp_skip ?_
    refine h7 _ _ ?_
    refine zS fun K h => zA hf hc zr_25 rfl fun b_6 a w hf hc => zT h ?_
    refine zS fun K h => zA hf hc zr_213 rfl fun b_7 a w hf hc => zT h ?_
    refine zS fun K h => zP hf rfl (pMF (us := [pq b_5,pq b_1,pq b_6,pq b_7]) rfl rfl) fun a hf => zW hf hc sz_213 u0 rfl fun w hc => zT h ?_
    refine zS fun K h => zL hf hc sc_213 m0 rfl fun a w hf hc => ?_
    replace hc := hc.nilRow 3 1
    obtain ⟨r_3,hr_3,hF⟩ := bnd_some hF
    refine zC hf en_142 rfl (gauge_Plan_1_ok 0 (⟨(⟨r_1.1,r_1.2.1,r_1.2.2.1,r_1.2.2.2.1,s_.Points⟩ : gauge_Site),r_1.2.2.2.2.1,r_1.2.2.2.2.2.1⟩ : gauge_work) s_ ([] : List Int) h_s__Points h_s__Points (((((((hc.pick k1).pick k1).pick k2).pick k6).pick k5).pick k6).pick k6) hr_3) ?_
    rintro _ w ⟨p_1,c_1,rfl,hc⟩
    refine ⟨_,rfl,fun a hf => ?_⟩
    refine zT h ?_
    refine wp_seq_k fun K16 h16 => ?_
    obtain ⟨un_1,hun_1,hF⟩ := bnd_some hF
    refine cQ hc follows_mx (by kernel_rfl) ?_
    refine qE hf rfl rfl rfl (eLd1 sc_25 rfl (cell_box m5 rfl)) fun a hf => qE hf rfl rfl rfl (eLd1 sc_203 rfl (cell_box m1 rfl)) fun a hf => qE hf rfl rfl rfl (Pu.ev (pNC rfl)) fun a hf => qE hf rfl rfl rfl (Pu.ev (pFA fa_211_1 rfl)) fun a hf => qE hf rfl rfl rfl (Pu.ev (pIAA Tryz.underlying208 sz_207 rfl rfl (inR_spec hun_1).1 (inR_spec hun_1).2)) fun a hf => qE hf rfl rfl rfl (Pu.ev (pFA fa_207_0 rfl)) fun a hf => qE hf rfl rfl rfl (eLd1 sc_3 rfl (cell_arr (j := 0) m2 (fun x => (one_enc_gauge_spent x).1) rfl hun_1 rfl)) fun a hf => qE hf rfl rfl rfl (Pu.ev (pA rfl)) fun a hf => qE hf rfl rfl rfl (Pu.ev (pA rfl)) fun a hf => qE hf rfl rfl rfl (Pu.ev (pA rfl)) fun a hf => ?_
    intro w hc
    refine h16 _ _ ?_
    refine wp_ret ?_
    obtain rfl := sj hF
    replace hc := (((((hc.drop k6).drop k5).drop k4).drop k3).drop k2).drop k1
    exact zO3 Tryz.results76 hf rfl rfl rfl ⟨p_1,c_1,rfl,hc⟩

def kit_Copy_int (N : Nat) (l : List Int) : Option ((List Int)) :=
 Option.bind (room (l).length) fun un =>
 some l
theorem kit_Copy_int_ok {N : Nat} {G : Pers} {Lf : List Ent} {w : World} (l : List Int) {l_p : Option Addr} {l_c : Nat} (h_l : Rd G 1 l_p l_c (l.map encI_i64)) (hc : Ctx G (Lf) w) {res : (List Int)} (hF : kit_Copy_int N l = some res) : Calls Tryz.prog 17 #[.slice l_p l.length l_c] w (fun e w => ∃ (p'1 : Option Addr) (c'1 : Nat),e = .returned (.slice p'1 res.length c'1) ∧ Ctx G (.row p'1 c'1 (res.map encI_i64) 3 1::Lf) w) := by
 unfold kit_Copy_int at hF
 refine fnIn Tryz.func17 rfl Tryz.ntmps17 rfl fun a hf => zS fun K h => sp 1 hf rfl fun a hf => zT h ?_
 refine zS fun K h => sp 1 hf rfl fun a hf => zT h ?_
 refine zS fun K h => sp 2 hf rfl fun a hf => ?_
 replace hc := hc.nilRow 3 1
 obtain ⟨un,hun,hF⟩ := bnd_some hF
 refine stApm (xs := ([] : List Int)) (ys := l) hf hc rfl rfl sl_25 rfl rfl rfl rfl rfl one_encI_i64 (src_rd hc h_l) (fun _ _ => u0) (by simpa using room_spec hun) fun p_1 c_1 a w hf hc => sp 1 hf rfl fun a hf => zT h ?_
 refine wp_ret ?_
 obtain rfl := sj hF
 exact zO1 Tryz.results17 hf rfl ⟨p_1,c_1,rfl,hc⟩

def slices_Delete_Lint_int (N : Nat) (s_ : List Int) (i_ : Int) (j_ : Int) : Option ((List Int)) :=
 delO s_ i_ j_
/-! ### Walks of the library -/
end Go.Nilo
namespace Go.Proofs
open Go.Shelf
def Tryz.lays189_ren : Go.Shelf.Ren := ⟨fun | 189 => 161 | 125 => 187 | 257 => 186 | 128 => 210 | 129 => 211 | 294 => 201 | 295 => 202 | 296 => 203 | 297 => 204 | 298 => 205 | 299 => 206 | 216 => 207 | 300 => 208 | 301 => 209 | 328 => 214 | 329 => 215 | 330 => 216 | 331 => 217 | 332 => 218 | 215 => 212 | 343 => 219 | n => n,fun | 28 => 25 | 3 => 3 | 46 => 224 | 0 => 0 | 51 => 235 | 53 => 238 | 4 => 4 | 183 => 247 | 182 => 246 | 131 => 251 | 5 => 5 | 9 => 9 | 218 => 256 | 222 => 127 | 228 => 261 | 229 => 262 | n => n,fun | n => n⟩
theorem Tryz.lays189 : Go.Proofs.Lays.n189 Tryz.prog Tryz.lays189_ren := {
 mixed := by kernel_rfl
 f125 := Tryz.func187.trans (congrArg some (by kernel_rfl))
 f128 := Tryz.func210.trans (congrArg some (by kernel_rfl))
 f129 := Tryz.func211.trans (congrArg some (by kernel_rfl))
 f189 := Tryz.func161.trans (congrArg some (by kernel_rfl))
 f215 := Tryz.func212.trans (congrArg some (by kernel_rfl))
 f216 := Tryz.func207.trans (congrArg some (by kernel_rfl))
 f257 := Tryz.func186.trans (congrArg some (by kernel_rfl))
 f294 := Tryz.func201.trans (congrArg some (by kernel_rfl))
 f295 := Tryz.func202.trans (congrArg some (by kernel_rfl))
 f296 := Tryz.func203.trans (congrArg some (by kernel_rfl))
 f297 := Tryz.func204.trans (congrArg some (by kernel_rfl))
 f298 := Tryz.func205.trans (congrArg some (by kernel_rfl))
 f299 := Tryz.func206.trans (congrArg some (by kernel_rfl))
 f300 := Tryz.func208.trans (congrArg some (by kernel_rfl))
 f301 := Tryz.func209.trans (congrArg some (by kernel_rfl))
 f328 := Tryz.func214.trans (congrArg some (by kernel_rfl))
 f329 := Tryz.func215.trans (congrArg some (by kernel_rfl))
 f330 := Tryz.func216.trans (congrArg some (by kernel_rfl))
 f331 := Tryz.func217.trans (congrArg some (by kernel_rfl))
 f332 := Tryz.func218.trans (congrArg some (by kernel_rfl))
 f343 := Tryz.func219.trans (congrArg some (by kernel_rfl))
 t0 := Tryz.underlying0
 a0 := Tryz.isAgg0
 z0 := Tryz.sizeOf0
 v0 := Tryz.zeroValue0
 t3 := Tryz.underlying3
 a3 := Tryz.isAgg3
 z3 := Tryz.sizeOf3
 v3 := Tryz.zeroValue3
 t4 := Tryz.underlying4
 a4 := Tryz.isAgg4
 z4 := Tryz.sizeOf4
 v4 := Tryz.zeroValue4
 t5 := Tryz.underlying5
 a5 := Tryz.isAgg5
 z5 := Tryz.sizeOf5
 v5 := Tryz.zeroValue5
 t9 := Tryz.underlying9
 a9 := Tryz.isAgg9
 z9 := Tryz.sizeOf9
 v9 := Tryz.zeroValue9
 t28 := Tryz.underlying25
 a28 := Tryz.isAgg25
 z28 := Tryz.sizeOf25
 v28 := Tryz.zeroValue25
 t46 := Tryz.underlying224
 a46 := Tryz.isAgg224
 z46 := Tryz.sizeOf224
 v46 := Tryz.zeroValue224
 t51 := Tryz.underlying235
 a51 := Tryz.isAgg235
 z51 := Tryz.sizeOf235
 v51 := Tryz.zeroValue235
 t53 := Tryz.underlying238
 a53 := Tryz.isAgg238
 z53 := Tryz.sizeOf238
 v53 := Tryz.zeroValue238
 t131 := Tryz.underlying251
 a131 := Tryz.isAgg251
 z131 := Tryz.sizeOf251
 v131 := Tryz.zeroValue251
 t182 := Tryz.underlying246
 a182 := Tryz.isAgg246
 z182 := Tryz.sizeOf246
 v182 := Tryz.zeroValue246
 t183 := Tryz.underlying247
 a183 := Tryz.isAgg247
 z183 := Tryz.sizeOf247
 v183 := Tryz.zeroValue247
 t218 := Tryz.underlying256
 a218 := Tryz.isAgg256
 z218 := Tryz.sizeOf256
 v218 := Tryz.zeroValue256
 t222 := Tryz.underlying127
 a222 := Tryz.isAgg127
 z222 := Tryz.sizeOf127
 v222 := Tryz.zeroValue127
 t228 := Tryz.underlying261
 a228 := Tryz.isAgg261
 z228 := Tryz.sizeOf261
 v228 := Tryz.zeroValue261
 t229 := Tryz.underlying262
 a229 := Tryz.isAgg262
 z229 := Tryz.sizeOf262
 v229 := Tryz.zeroValue262 }
def Tryz.lays20_ren : Go.Shelf.Ren := ⟨fun | 20 => 162 | n => n,fun | 22 => 25 | 3 => 3 | 4 => 4 | 0 => 0 | n => n,fun | n => n⟩
theorem Tryz.lays20 : Go.Proofs.Lays2.n20 Tryz.prog Tryz.lays20_ren := {
 mixed := by kernel_rfl
 f20 := Tryz.func162.trans (congrArg some (by kernel_rfl))
 t0 := Tryz.underlying0
 a0 := Tryz.isAgg0
 z0 := Tryz.sizeOf0
 v0 := Tryz.zeroValue0
 t3 := Tryz.underlying3
 a3 := Tryz.isAgg3
 z3 := Tryz.sizeOf3
 v3 := Tryz.zeroValue3
 t4 := Tryz.underlying4
 a4 := Tryz.isAgg4
 z4 := Tryz.sizeOf4
 v4 := Tryz.zeroValue4
 t22 := Tryz.underlying25
 a22 := Tryz.isAgg25
 z22 := Tryz.sizeOf25
 v22 := Tryz.zeroValue25
 i3 := by kernel_rfl }
def Tryz.lays212_ren : Go.Shelf.Ren := ⟨fun | 212 => 166 | 263 => 189 | 264 => 190 | n => n,fun | 46 => 224 | 51 => 235 | 146 => 236 | 53 => 238 | 148 => 239 | n => n,fun | n => n⟩
theorem Tryz.lays212 : Go.Proofs.Lays.n212 Tryz.prog Tryz.lays212_ren := {
 mixed := by kernel_rfl
 f212 := Tryz.func166.trans (congrArg some (by kernel_rfl))
 f263 := Tryz.func189.trans (congrArg some (by kernel_rfl))
 f264 := Tryz.func190.trans (congrArg some (by kernel_rfl))
 t46 := Tryz.underlying224
 a46 := Tryz.isAgg224
 z46 := Tryz.sizeOf224
 v46 := Tryz.zeroValue224
 t51 := Tryz.underlying235
 a51 := Tryz.isAgg235
 z51 := Tryz.sizeOf235
 v51 := Tryz.zeroValue235
 t53 := Tryz.underlying238
 a53 := Tryz.isAgg238
 z53 := Tryz.sizeOf238
 v53 := Tryz.zeroValue238
 t146 := Tryz.underlying236
 a146 := Tryz.isAgg236
 z146 := Tryz.sizeOf236
 v146 := Tryz.zeroValue236
 t148 := Tryz.underlying239
 a148 := Tryz.isAgg239
 z148 := Tryz.sizeOf239
 v148 := Tryz.zeroValue239 }
def Tryz.lays23_ren : Go.Shelf.Ren := ⟨fun | 23 => 77 | n => n,fun | 22 => 25 | 3 => 3 | 4 => 4 | 0 => 0 | n => n,fun | n => n⟩
theorem Tryz.lays23 : Go.Proofs.Lays2.n23 Tryz.prog Tryz.lays23_ren := {
 mixed := by kernel_rfl
 f23 := Tryz.func77.trans (congrArg some (by kernel_rfl))
 t0 := Tryz.underlying0
 a0 := Tryz.isAgg0
 z0 := Tryz.sizeOf0
 v0 := Tryz.zeroValue0
 t3 := Tryz.underlying3
 a3 := Tryz.isAgg3
 z3 := Tryz.sizeOf3
 v3 := Tryz.zeroValue3
 t4 := Tryz.underlying4
 a4 := Tryz.isAgg4
 z4 := Tryz.sizeOf4
 v4 := Tryz.zeroValue4
 t22 := Tryz.underlying25
 a22 := Tryz.isAgg25
 z22 := Tryz.sizeOf25
 v22 := Tryz.zeroValue25
 i3 := by kernel_rfl }
end Go.Proofs
namespace Go.Nilo
open Go.Proofs

theorem slices_Delete_Lint_int_ok {N : Nat} {G : Pers} {Lf : List Ent} {w : World} (s_ : List Int) (i_ : Int) (j_ : Int) {s__p : Option Addr} {s__c : Nat}  (hc : Ctx G (.row s__p s__c (s_.map encI_i64) 3 1::Lf) w) {res : (List Int)} (hF : slices_Delete_Lint_int N s_ i_ j_ = some res) : Calls Tryz.prog 77 #[.slice s__p s_.length s__c,i6 i_,i6 j_] w (fun e w => ∃ (p'1 : Option Addr) (c'1 : Nat),e = .returned (.slice p'1 res.length c'1) ∧ Ctx G (.row p'1 c'1 (res.map encI_i64) 3 1::Lf) w) := by
 unfold slices_Delete_Lint_int at hF
 exact delI_ctx (fun a c w => Go.Proofs.Any.slices_Delete_int_empty Go.Proofs.Tryz.lays23 a c w) (fun b o c i j zs w h1 h2 h3 h4 h5 => Go.Proofs.Any.slices_Delete_int Go.Proofs.Tryz.lays23 b o c i j zs w h1 h2 h3 h4 h5) hc hF

def gauge_Cost_1 (i_ : Int) (x : gauge_Site) : Bool :=
 (gauge_in i_ 1 ((x.Points.length : Nat) : Int))
theorem gauge_Cost_1_ok {G : Pers} {Lf : List Ent} {w : World} (i_ : Int) (x : gauge_Site) {b_ : Nat} {x_Points_p : Option Addr} {x_Points_c : Nat} (h_x_Points : Rd G 3 x_Points_p x_Points_c (x.Points.map enc_gauge_Point)) (hc : Ctx G (.box b_ [i6 x.Left,i6 x.Right,i6 x.Gap,i6 x.Step_,.slice x_Points_p x.Points.length x_Points_c] 136::Lf) w) {res : Bool} (hF : gauge_Cost_1 i_ x = res) : Calls Tryz.prog 145 #[i6 i_,pq b_] w (fun e w => e = .returned (.bool res) ∧ Ctx G (.box b_ [i6 x.Left,i6 x.Right,i6 x.Gap,i6 x.Step_,.slice x_Points_p x.Points.length x_Points_c] 136::Lf) w) := by
 unfold gauge_Cost_1 at hF
 refine fnIn Tryz.func145 rfl Tryz.ntmps145 rfl fun a hf => zS fun K h => sp 1 hf rfl fun a hf => zT h ?_
 refine zS fun K h => sp 1 hf rfl fun a hf => zP hf rfl (pFA fa_136_4 rfl) fun a hf => zL hf hc sc_134 m0 rfl fun a w hf hc => zP hf rfl (pLenS Tryz.underlying134 rfl) fun a hf => zQ (v := .bool (gauge_in i_ 1 ((x.Points.length : Nat) : Int))) hf hc en_146 rfl (fun w hc => gauge_in_ok i_ 1 ((x.Points.length : Nat) : Int) hc rfl) fun a w hf hc => sp 1 hf rfl fun a hf => zT h ?_
 refine wp_ret ?_
 obtain rfl := hF
 exact zO1 Tryz.results145 hf rfl ⟨rfl,hc⟩

def gauge_every_int_1 (x : Int) (x_1 : gauge_Site) : Bool :=
 (!(gauge_Cost_1 x x_1))
theorem gauge_every_int_1_ok {G : Pers} {Lf : List Ent} {w : World} (x : Int) (x_1 : gauge_Site) {b_ : Nat} {b__1 : Nat} {x_1_Points_p : Option Addr} {x_1_Points_c : Nat} (h_x_1_Points : Rd G 3 x_1_Points_p x_1_Points_c (x_1.Points.map enc_gauge_Point)) (hc : Ctx G (.box b_ [.func (.func 145) #[] #[pq b__1]] 143::.box b__1 [i6 x_1.Left,i6 x_1.Right,i6 x_1.Gap,i6 x_1.Step_,.slice x_1_Points_p x_1.Points.length x_1_Points_c] 136::Lf) w) {res : Bool} (hF : gauge_every_int_1 x x_1 = res) : Calls Tryz.prog 182 #[i6 x,pq b_] w (fun e w => e = .returned (.bool res) ∧ Ctx G (.box b_ [.func (.func 145) #[] #[pq b__1]] 143::.box b__1 [i6 x_1.Left,i6 x_1.Right,i6 x_1.Gap,i6 x_1.Step_,.slice x_1_Points_p x_1.Points.length x_1_Points_c] 136::Lf) w) := by
 unfold gauge_every_int_1 at hF
 refine fnIn Tryz.func182 rfl Tryz.ntmps182 rfl fun a hf => zS fun K h => sp 1 hf rfl fun a hf => zT h ?_
 refine zS fun K h => zL hf hc sc_143 m0 rfl fun a w hf hc => sp 1 hf rfl fun a hf => zQ (v := .bool (gauge_Cost_1 x x_1)) hf hc en_145 rfl (fun w hc => (gauge_Cost_1_ok x x_1 h_x_1_Points (hc.pick k1) rfl).mono fun e w h => ⟨h.1,(h.2.unpick k1)⟩) fun a w hf hc => sp 2 hf rfl fun a hf => zT h ?_
 refine wp_ret ?_
 obtain rfl := hF
 exact zO1 Tryz.results182 hf rfl ⟨rfl,hc⟩

def slices_IndexFunc_Lint_int_b4 (N : Nat) (s_ : List Int) (f_ : gauge_Site) (x : Int) : Option (Step (Int) (Int)) :=
 cond (decide (x < ((s_.length : Nat) : Int)))
 (Option.bind (getI s_ x) fun e_1 =>
 cond (gauge_every_int_1 e_1 f_)
 (some (.ret x))
 (some (.cont (W (x + 1)))))
 (some (.brk x))
def slices_IndexFunc_Lint_int (N : Nat) (s_ : List Int) (f_ : gauge_Site) : Option (Int) :=
 Option.bind (loopO (fun s4 => slices_IndexFunc_Lint_int_b4 N s_ f_ s4) N 0) fun x4 =>
 exK x4 (fun s4 => some (-1)) some
theorem slices_IndexFunc_Lint_int_ok {N : Nat} {G : Pers} {Lf : List Ent} {w : World} (s_ : List Int) (f_ : gauge_Site) {s__p : Option Addr} {s__c : Nat} {b_ : Nat} {b__1 : Nat} {f__Points_p : Option Addr} {f__Points_c : Nat} (h_s_ : Rd G 1 s__p s__c (s_.map encI_i64)) (h_f__Points : Rd G 3 f__Points_p f__Points_c (f_.Points.map enc_gauge_Point)) (hc : Ctx G (.box b_ [.func (.func 145) #[] #[pq b__1]] 143::.box b__1 [i6 f_.Left,i6 f_.Right,i6 f_.Gap,i6 f_.Step_,.slice f__Points_p f_.Points.length f__Points_c] 136::Lf) w) {res : Int} (hF : slices_IndexFunc_Lint_int N s_ f_ = some res) : Calls Tryz.prog 97 #[.slice s__p s_.length s__c,.func (.func 182) #[] #[pq b_]] w (fun e w => e = .returned (i6 res) ∧ Ctx G (.box b_ [.func (.func 145) #[] #[pq b__1]] 143::.box b__1 [i6 f_.Left,i6 f_.Right,i6 f_.Gap,i6 f_.Step_,.slice f__Points_p f_.Points.length f__Points_c] 136::Lf) w) := by
 unfold slices_IndexFunc_Lint_int at hF
 refine fnIn Tryz.func97 rfl Tryz.ntmps97 rfl fun a hf => zS fun K h => sp 1 hf rfl fun a hf => zT h ?_
 refine wp_seq_k fun K2 h2 => zS fun K h => sp 1 hf rfl fun a hf => zP hf rfl (pLenS Tryz.underlying25 rfl) fun a hf => sp 1 hf rfl fun a hf => zT h ?_
 refine wp_block ?_
 obtain ⟨x4,hx4,hF⟩ := bnd_some hF
 let S4 : Int → Act → World → Prop := (fun (zz : Int) a w => Has 19 a [(0,.slice s__p s_.length s__c),(1,.func (.func 182) #[] #[pq b_]),(7,i6 ((s_.length : Nat) : Int)),(8,i6 zz)] ∧ Ctx G (.box b_ [.func (.func 145) #[] #[pq b__1]] 143::.box b__1 [i6 f_.Left,i6 f_.Right,i6 f_.Gap,i6 f_.Step_,.slice f__Points_p f_.Points.length f__Points_c] 136::Lf) w)
 have hr4 : ∀ (zz : Int) a w,x4 = .go zz → S4 zz a w → K2 a w := by
  rintro x a w rfl ⟨hf,hc⟩
  replace hF := exK_go hF
  refine h2 _ _ ?_
  refine zS fun K h => sp 1 hf rfl fun a hf => zT h ?_
  refine wp_ret ?_
  obtain rfl := sj hF
  exact zO1 Tryz.results97 hf rfl ⟨rfl,hc⟩
 have ho4 : ∀ r,x4 = .out r → r = res := by
  rintro r rfl
  exact sj hF
 refine cLoop N (loopW (S := S4) (x := x4) ?_ N 0 _ _ ⟨hf.kp rfl,hc⟩ hx4)
 clear hF hf hc
 rintro x st4 a w KB4 ⟨hf,hc⟩ hF hfin4 hK4
 unfold slices_IndexFunc_Lint_int_b4 at hF
 refine zS fun K h => sp 1 hf rfl fun a hf => zT h ?_
 refine wp_seq_k fun K7 h7 => zI hf rfl hF ?_ ?_ <;> clear hF <;> intro hF
 ·refine wp_skip ?_
  refine h7 _ _ ?_
  refine wp_seq_k fun K8 h8 => wp_block ?_
  refine zS fun K h => sp 2 hf rfl fun a hf => zT h ?_
  refine zS fun K h => sp 3 hf rfl fun a hf => ?_
  obtain ⟨e_1,he_1,hF⟩ := bnd_some hF
  obtain ⟨b_1,o,qa,qp⟩ := h_s_.atm he_1
  refine zP hf rfl (pIA Tryz.underlying25 sz_3 rfl rfl qa) fun a hf => zE hf hc rfl (eLd1 sc_3 rfl (cell_pc (j := 0) qp rfl)) fun a w hf hc => zQ (v := .bool (gauge_every_int_1 e_1 f_)) hf hc en_182 rfl (fun w hc => (gauge_every_int_1_ok e_1 f_ h_f__Points ((hc.pick k1).pick k1) rfl).mono fun e w h => ⟨h.1,((h.2.unpick k1).unpick k1)⟩) fun a w hf hc => zT h ?_
  refine zI hf rfl hF ?_ ?_ <;> clear hF <;> intro hF
  ·refine zS fun K h => sp 2 hf rfl fun a hf => zT h ?_
   refine wp_ret ?_
   refine xBlkR ?_
   refine xThenR ?_
   refine xThenR ?_
   have he := sj hF
   rw [← he] at hfin4
   replace hF := ho4 _ hfin4
   refine xBlkR ?_
   refine xThenR ?_
   obtain rfl := hF
   exact zO1 Tryz.results97 hf rfl ⟨rfl,hc⟩
  ·refine wp_skip ?_
   refine h8 _ _ ?_
   refine cReg ?_
   refine sp 2 hf rfl fun a hf => cNil ?_
   exact hK4 (W (x + 1)) _ _ (sj hF).symm ⟨hf.kp rfl,hc⟩
 ·refine wp_exit ?_
  refine xThen ?_
  refine xThen ?_
  have he := sj hF
  rw [← he] at hfin4
  refine cHit ?_
  exact hr4 _ _ _ hfin4 ⟨hf.kp rfl,hc⟩

def slices_ContainsFunc_Lint_int (N : Nat) (s_ : List Int) (f_ : gauge_Site) : Option (Bool) :=
 Option.bind (slices_IndexFunc_Lint_int N s_ f_) fun r =>
 some (decide (0 ≤ r))
theorem slices_ContainsFunc_Lint_int_ok {N : Nat} {G : Pers} {Lf : List Ent} {w : World} (s_ : List Int) (f_ : gauge_Site) {s__p : Option Addr} {s__c : Nat} {b_ : Nat} {b__1 : Nat} {f__Points_p : Option Addr} {f__Points_c : Nat} (h_s_ : Rd G 1 s__p s__c (s_.map encI_i64)) (h_f__Points : Rd G 3 f__Points_p f__Points_c (f_.Points.map enc_gauge_Point)) (hc : Ctx G (.box b_ [.func (.func 145) #[] #[pq b__1]] 143::.box b__1 [i6 f_.Left,i6 f_.Right,i6 f_.Gap,i6 f_.Step_,.slice f__Points_p f_.Points.length f__Points_c] 136::Lf) w) {res : Bool} (hF : slices_ContainsFunc_Lint_int N s_ f_ = some res) : Calls Tryz.prog 113 #[.slice s__p s_.length s__c,.func (.func 182) #[] #[pq b_]] w (fun e w => e = .returned (.bool res) ∧ Ctx G (.box b_ [.func (.func 145) #[] #[pq b__1]] 143::.box b__1 [i6 f_.Left,i6 f_.Right,i6 f_.Gap,i6 f_.Step_,.slice f__Points_p f_.Points.length f__Points_c] 136::Lf) w) := by
 unfold slices_ContainsFunc_Lint_int at hF
 refine fnIn Tryz.func113 rfl Tryz.ntmps113 rfl fun a hf => zS fun K h => sp 1 hf rfl fun a hf => zT h ?_
 refine zS fun K h => sp 2 hf rfl fun a hf => ?_
 obtain ⟨r,hr,hF⟩ := bnd_some hF
 refine zQ (v := i6 r) hf hc en_97 rfl (fun w hc => (slices_IndexFunc_Lint_int_ok s_ f_ h_s_ h_f__Points ((hc.pick k1).pick k1) hr).mono fun e w h => ⟨h.1,((h.2.unpick k1).unpick k1)⟩) fun a w hf hc => sp 2 hf rfl fun a hf => zT h ?_
 refine wp_ret ?_
 obtain rfl := sj hF
 exact zO1 Tryz.results113 hf rfl ⟨rfl,hc⟩

def gauge_every_int (N : Nat) (l : List Int) (so : gauge_Site) : Option (Bool) :=
 Option.bind (slices_ContainsFunc_Lint_int N l so) fun r =>
 some (!r)
theorem gauge_every_int_ok {N : Nat} {G : Pers} {Lf : List Ent} {w : World} (l : List Int) (so : gauge_Site) {l_p : Option Addr} {l_c : Nat} {b_ : Nat} {so_Points_p : Option Addr} {so_Points_c : Nat} (h_l : Rd G 1 l_p l_c (l.map encI_i64)) (h_so_Points : Rd G 3 so_Points_p so_Points_c (so.Points.map enc_gauge_Point)) (hc : Ctx G (.box b_ [i6 so.Left,i6 so.Right,i6 so.Gap,i6 so.Step_,.slice so_Points_p so.Points.length so_Points_c] 136::Lf) w) {res : Bool} (hF : gauge_every_int N l so = some res) : Calls Tryz.prog 144 #[.slice l_p l.length l_c,.func (.func 145) #[] #[pq b_]] w (fun e w => e = .returned (.bool res) ∧ Ctx G (.box b_ [i6 so.Left,i6 so.Right,i6 so.Gap,i6 so.Step_,.slice so_Points_p so.Points.length so_Points_c] 136::Lf) w) := by
 unfold gauge_every_int at hF
 refine fnIn Tryz.func144 rfl Tryz.ntmps144 rfl fun a hf => zS fun K h => zB hf hc rfl fun b_1 a w hf hc => sp 1 hf rfl fun a hf => zT h ?_
 refine zS fun K h => sp 1 hf rfl fun a hf => zP hf rfl (pMF (us := [pq b_1]) rfl rfl) fun a hf => ?_
 obtain ⟨r,hr,hF⟩ := bnd_some hF
 refine zQ (v := .bool r) hf hc en_113 rfl (fun w hc => (slices_ContainsFunc_Lint_int_ok l so h_l h_so_Points ((hc.pick k1).pick k1) hr).mono fun e w h => ⟨h.1,((h.2.unpick k1).unpick k1)⟩) fun a w hf hc => sp 2 hf rfl fun a hf => zT h ?_
 refine wp_ret ?_
 obtain rfl := sj hF
 replace hc := hc.drop k0
 exact zO1 Tryz.results144 hf rfl ⟨rfl,hc⟩

def gauge_Cost_2 (N : Nat) (i_ : Int) (x : List Int) : Option (Int) :=
 Option.bind (getI x i_) fun e_1 =>
 some e_1
theorem gauge_Cost_2_ok {N : Nat} {G : Pers} {Lf : List Ent} {w : World} (i_ : Int) (x : List Int) {b_ : Nat} {x_p : Option Addr} {x_c : Nat} (h_x : Rd G 1 x_p x_c (x.map encI_i64)) (hc : Ctx G (.box b_ [.slice x_p x.length x_c] 25::Lf) w) {res : Int} (hF : gauge_Cost_2 N i_ x = some res) : Calls Tryz.prog 148 #[i6 i_,pq b_] w (fun e w => e = .returned (i6 res) ∧ Ctx G (.box b_ [.slice x_p x.length x_c] 25::Lf) w) := by
 unfold gauge_Cost_2 at hF
 refine fnIn Tryz.func148 rfl Tryz.ntmps148 rfl fun a hf => zS fun K h => sp 1 hf rfl fun a hf => zT h ?_
 refine zS fun K h => zL hf hc sc_25 m0 rfl fun a w hf hc => sp 1 hf rfl fun a hf => ?_
 obtain ⟨e_1,he_1,hF⟩ := bnd_some hF
 obtain ⟨b_1,o,qa,qp⟩ := h_x.atm he_1
 refine zP hf rfl (pIA Tryz.underlying25 sz_3 rfl rfl qa) fun a hf => zE hf hc rfl (eLd1 sc_3 rfl (cell_pc (j := 0) qp rfl)) fun a w hf hc => sp 1 hf rfl fun a hf => zT h ?_
 refine wp_ret ?_
 obtain rfl := sj hF
 exact zO1 Tryz.results148 hf rfl ⟨rfl,hc⟩

def gauge_rising_s2_b4 (N : Nat) (many : Int) (at_ : List Int) (i_1 : Int) : Option (Step (Int) (Bool)) :=
 cond (decide (i_1 < many))
 (Option.bind (gauge_Cost_2 N i_1 at_) fun r =>
 Option.bind (gauge_Cost_2 N (W (i_1 - 1)) at_) fun r_1 =>
 cond (decide (r ≤ r_1))
 (some (.ret false))
 (some (.cont (W (i_1 + 1)))))
 (some (.brk i_1))
def gauge_rising_s2 (N : Nat) (many : Int) (at_ : List Int) : Option (Bool) :=
 Option.bind (loopO (fun s4 => gauge_rising_s2_b4 N many at_ s4) N 1) fun x4 =>
 exK x4 (fun s4 => some true) some
theorem gauge_rising_s2_ok {N : Nat} {G : Pers} {Lf : List Ent} {w : World} (many : Int) (at_ : List Int) {b_ : Nat} {at__p : Option Addr} {at__c : Nat} (h_at_ : Rd G 1 at__p at__c (at_.map encI_i64)) (hc : Ctx G (.box b_ [.slice at__p at_.length at__c] 25::Lf) w) {res : Bool} (hF : gauge_rising_s2 N many at_ = some res) : Calls Tryz.prog 147 #[i6 many,.func (.func 148) #[] #[pq b_]] w (fun e w => e = .returned (.bool res) ∧ Ctx G (.box b_ [.slice at__p at_.length at__c] 25::Lf) w) := by
 unfold gauge_rising_s2 at hF
 refine fnIn Tryz.func147 rfl Tryz.ntmps147 rfl fun a hf => zS fun K h => sp 1 hf rfl fun a hf => zT h ?_
 refine wp_seq_k fun K2 h2 => zS fun K h => sp 1 hf rfl fun a hf => zT h ?_
 refine wp_block ?_
 obtain ⟨x4,hx4,hF⟩ := bnd_some hF
 let S4 : Int → Act → World → Prop := (fun (zz : Int) a w => Has 19 a [(0,i6 many),(1,.func (.func 148) #[] #[pq b_]),(5,i6 zz)] ∧ Ctx G (.box b_ [.slice at__p at_.length at__c] 25::Lf) w)
 have hr4 : ∀ (zz : Int) a w,x4 = .go zz → S4 zz a w → K2 a w := by
  rintro i_1 a w rfl ⟨hf,hc⟩
  replace hF := exK_go hF
  refine h2 _ _ ?_
  refine zS fun K h => sp 1 hf rfl fun a hf => zT h ?_
  refine wp_ret ?_
  obtain rfl := sj hF
  exact zO1 Tryz.results147 hf rfl ⟨rfl,hc⟩
 have ho4 : ∀ r,x4 = .out r → r = res := by
  rintro r rfl
  exact sj hF
 refine cLoop N (loopW (S := S4) (x := x4) ?_ N 1 _ _ ⟨hf.kp rfl,hc⟩ hx4)
 clear hF hf hc
 rintro i_1 st4 a w KB4 ⟨hf,hc⟩ hF hfin4 hK4
 unfold gauge_rising_s2_b4 at hF
 refine wp_seq_k fun K6 h6 => zS fun K h => sp 3 hf rfl fun a hf => zT h ?_
 refine zI hf rfl hF ?_ ?_ <;> clear hF <;> intro hF
 ·refine wp_skip ?_
  refine h6 _ _ ?_
  refine wp_seq_k fun K8 h8 => wp_block ?_
  refine zS fun K h => sp 2 hf rfl fun a hf => ?_
  obtain ⟨r,hr,hF⟩ := bnd_some hF
  refine zQ (v := i6 r) hf hc en_148 rfl (fun w hc => (gauge_Cost_2_ok i_1 at_ h_at_ (hc.pick k0) hr).mono fun e w h => ⟨h.1,(h.2.unpick k0)⟩) fun a w hf hc => sp 3 hf rfl fun a hf => ?_
  obtain ⟨r_1,hr_1,hF⟩ := bnd_some hF
  refine zQ (v := i6 r_1) hf hc en_148 rfl (fun w hc => (gauge_Cost_2_ok (W (i_1 - 1)) at_ h_at_ (hc.pick k0) hr_1).mono fun e w h => ⟨h.1,(h.2.unpick k0)⟩) fun a w hf hc => sp 1 hf rfl fun a hf => zT h ?_
  refine zI hf rfl hF ?_ ?_ <;> clear hF <;> intro hF
  ·refine zS fun K h => sp 1 hf rfl fun a hf => zT h ?_
   refine wp_ret ?_
   refine xBlkR ?_
   refine xThenR ?_
   refine xThenR ?_
   have he := sj hF
   rw [← he] at hfin4
   replace hF := ho4 _ hfin4
   refine xBlkR ?_
   refine xThenR ?_
   obtain rfl := hF
   exact zO1 Tryz.results147 hf rfl ⟨rfl,hc⟩
  ·refine wp_skip ?_
   refine h8 _ _ ?_
   refine cReg ?_
   refine sp 3 hf rfl fun a hf => cNil ?_
   exact hK4 (W (i_1 + 1)) _ _ (sj hF).symm ⟨hf.kp rfl,hc⟩
 ·refine wp_exit ?_
  refine xThen ?_
  refine xThen ?_
  have he := sj hF
  rw [← he] at hfin4
  refine cHit ?_
  exact hr4 _ _ _ hfin4 ⟨hf.kp rfl,hc⟩

def slices_Clone_Lint_int (N : Nat) (s_ : List Int) : Option ((List Int)) :=
 Option.bind (room (s_).length) fun un =>
 some s_
theorem slices_Clone_Lint_int_ok {N : Nat} {G : Pers} {Lf : List Ent} {w : World} (s_ : List Int) {s__p : Option Addr} {s__c : Nat} (h_s_ : Rd G 1 s__p s__c (s_.map encI_i64)) (hc : Ctx G (Lf) w) {res : (List Int)} (hF : slices_Clone_Lint_int N s_ = some res) : Calls Tryz.prog 150 #[.slice s__p s_.length s__c] w (fun e w => ∃ (p'1 : Option Addr) (c'1 : Nat),e = .returned (.slice p'1 res.length c'1) ∧ Ctx G (.row p'1 c'1 (res.map encI_i64) 3 1::Lf) w) := by
 unfold slices_Clone_Lint_int at hF
 refine fnIn Tryz.func150 rfl Tryz.ntmps150 rfl fun a hf => zS fun K h => sp 1 hf rfl fun a hf => zT h ?_
 refine wp_seq_k fun K2 h2 => zS fun K h => sp 1 hf rfl fun a hf => zP hf rfl (pEqN Tryz.underlying25 rfl rfl) fun a hf => zT h ?_
 rcases rd_nilq h_s_ with ⟨hp,hx⟩ | hp
 ·rw [hp] at hf
  replace hF : (some ([] : List Int)) = some res := by
   try rw [hx] at hF
   exact hF
  refine cCondT hf rfl ?_
  refine zS fun K h => sp 1 hf rfl fun a hf => zT h ?_
  refine wp_ret ?_
  refine xThenR ?_
  obtain rfl := sj hF
  replace hc := hc.nilRow 3 1
  exact zO1 Tryz.results150 hf rfl ⟨none,0,rfl,hc⟩
 ·rw [hp] at hf
  refine cCondF hf rfl ?_
  refine wp_skip ?_
  refine h2 _ _ ?_
  refine zS fun K h => stBS (rows := ([] : List Int).map encI_i64) (vs := []) hf hc rfl rfl sl_25 rfl trivial rfl rfl fun b_1 a w hf hc => sp 1 hf rfl fun a hf => ?_
  obtain ⟨un,hun,hF⟩ := bnd_some hF
  refine stApm (xs := ([] : List Int)) (ys := s_) hf hc rfl rfl sl_25 rfl rfl rfl rfl rfl one_encI_i64 (src_rd hc h_s_) (fun _ _ => u0) (by simpa using room_spec hun) fun p_1 c_1 a w hf hc => sp 1 hf rfl fun a hf => zT h ?_
  refine wp_ret ?_
  obtain rfl := sj hF
  exact zO1 Tryz.results150 hf rfl ⟨p_1,c_1,rfl,hc⟩

def gauge_work_station_s2 (N : Nat) (w_ : Int) (w__1 : Int) (w__2 : Int) (w__3 : Int) (w__4 : List gauge_Point) (w__5 : Nat → gauge_spent) (i_ : Int) : Option (gauge_Point) :=
 cond (i_ == 0)
 (some (⟨w_,0,0⟩ : gauge_Point))
 (cond (i_ == (W (((w__4.length : Nat) : Int) + 1)))
 (some (⟨w__1,0,0⟩ : gauge_Point))
 (Option.bind (getI w__4 (W (i_ - 1))) fun e_1 =>
 some e_1))
theorem gauge_work_station_s2_ok {N : Nat} {G : Pers} {Lf : List Ent} {w : World} (w_ : Int) (w__1 : Int) (w__2 : Int) (w__3 : Int) (w__4 : List gauge_Point) (w__5 : Nat → gauge_spent) (i_ : Int) {b_ : Nat} {w__4_p : Option Addr} {w__4_c : Nat} (h_w__4 : Rd G 3 w__4_p w__4_c (w__4.map enc_gauge_Point)) (hc : Ctx G (.box b_ (catc [i6 w_,i6 w__1,i6 w__2,i6 w__3,.slice w__4_p w__4.length w__4_c] 32 enc_gauge_spent w__5 [.map none]) 211::Lf) w) {res : gauge_Point} (hF : gauge_work_station_s2 N w_ w__1 w__2 w__3 w__4 w__5 i_ = some res) : Calls Tryz.prog 151 #[pq b_,i6 i_] w (fun e w => e = .returned (.agg #[i6 res.At,i6 res.Depth,i6 res.Cost]) ∧ Ctx G (.box b_ (catc [i6 w_,i6 w__1,i6 w__2,i6 w__3,.slice w__4_p w__4.length w__4_c] 32 enc_gauge_spent w__5 [.map none]) 211::Lf) w) := by
 unfold gauge_work_station_s2 at hF
 refine fnIn Tryz.func151 rfl Tryz.ntmps151 rfl fun a hf => zS fun K h => zA hf hc zr_202 rfl fun b_1 a w hf hc => zT h ?_
 refine wp_seq_k fun K2 h2 => zS fun K h => sp 1 hf rfl fun a hf => zT h ?_
 refine wp_block ?_
 refine zS fun K h => sp 2 hf rfl fun a hf => zT h ?_
 refine zI hf rfl hF ?_ ?_ <;> clear hF <;> intro hF
 ·refine zS fun K h => sp 2 hf rfl fun a hf => zP hf rfl (pFA fa_211_0 rfl) fun a hf => zP hf rfl (pFA fa_136_0 rfl) fun a hf => zL hf hc sc_3 m1 rfl fun a w hf hc => zP hf rfl (pBuildS (cells := [i6 w_,i6 0,i6 0]) bt_202 rfl rfl) fun a hf => zW hf hc sz_202 u0 rfl fun w hc => zT h ?_
  refine wp_ret ?_
  refine xBlkR ?_
  refine xThenR ?_
  obtain rfl := sj hF
  replace hc := (hc.pick k0).pick k1
  exact fnOut1 (by simp) rfl Tryz.results151 hf hc (rv_cellN (vs := [i6 w_,i6 0,i6 0]) ag_202 rfl rfl (cells_box (n := 3) m1 rfl)) ⟨rfl,(hc.drop k1)⟩
 ·refine zS fun K h => sp 2 hf rfl fun a hf => zP hf rfl (pFA fa_211_0 rfl) fun a hf => zP hf rfl (pFA fa_136_4 rfl) fun a hf => zL hf hc sc_134 m1 rfl fun a w hf hc => zP hf rfl (pLenS Tryz.underlying134 rfl) fun a hf => sp 3 hf rfl fun a hf => zT h ?_
  refine zI hf rfl hF ?_ ?_ <;> clear hF <;> intro hF
  ·refine zS fun K h => sp 2 hf rfl fun a hf => zP hf rfl (pFA fa_211_0 rfl) fun a hf => zP hf rfl (pFA fa_136_1 rfl) fun a hf => zL hf hc sc_3 m1 rfl fun a w hf hc => zP hf rfl (pBuildS (cells := [i6 w__1,i6 0,i6 0]) bt_202 rfl rfl) fun a hf => zW hf hc sz_202 u0 rfl fun w hc => zT h ?_
   refine wp_ret ?_
   refine xBlkR ?_
   refine xThenR ?_
   obtain rfl := sj hF
   replace hc := (hc.pick k0).pick k1
   exact fnOut1 (by simp) rfl Tryz.results151 hf hc (rv_cellN (vs := [i6 w__1,i6 0,i6 0]) ag_202 rfl rfl (cells_box (n := 3) m1 rfl)) ⟨rfl,(hc.drop k1)⟩
  ·refine wp_skip ?_
   refine h2 _ _ ?_
   refine zS fun K h => sp 2 hf rfl fun a hf => zP hf rfl (pFA fa_211_0 rfl) fun a hf => zP hf rfl (pFA fa_136_4 rfl) fun a hf => zL hf hc sc_134 m1 rfl fun a w hf hc => sp 2 hf rfl fun a hf => ?_
   obtain ⟨e_1,he_1,hF⟩ := bnd_some hF
   obtain ⟨b_2,o,qa,qp⟩ := h_w__4.atm he_1
   refine zP hf rfl (pIA Tryz.underlying134 sz_202 rfl rfl qa) fun a hf => zE hf hc rfl (eLdN (vs := [i6 e_1.At,i6 e_1.Depth,i6 e_1.Cost]) ag_202 rfl rfl (cells_pc qp (n := 3) (o' := 0) rfl)) fun a w hf hc => zW hf hc sz_202 u0 rfl fun w hc => zT h ?_
   refine wp_ret ?_
   obtain rfl := sj hF
   replace hc := (hc.pick k0).pick k1
   exact fnOut1 (by simp) rfl Tryz.results151 hf hc (rv_cellN (vs := [i6 e_1.At,i6 e_1.Depth,i6 e_1.Cost]) ag_202 rfl rfl (cells_box (n := 3) m1 rfl)) ⟨rfl,(hc.drop k1)⟩

def gauge_work_steps_s2 (N : Nat) (w_ : Int) (w__1 : Int) (w__2 : Int) (w__3 : Int) (w__4 : List gauge_Point) (w__5 : Nat → gauge_spent) (a_ : Int) (b__1 : Int) : Option (Bool) :=
 Option.bind (gauge_work_station_s2 N w_ w__1 w__2 w__3 w__4 w__5 a_) fun r =>
 Option.bind (gauge_work_station_s2 N w_ w__1 w__2 w__3 w__4 w__5 b__1) fun r_1 =>
 some ((decide ((W (r_1.At - r.At)) ≤ w__2)) && (decide ((max (W (r.Depth - r_1.Depth)) (W (r_1.Depth - r.Depth))) ≤ w__3)))
theorem gauge_work_steps_s2_ok {N : Nat} {G : Pers} {Lf : List Ent} {w : World} (w_ : Int) (w__1 : Int) (w__2 : Int) (w__3 : Int) (w__4 : List gauge_Point) (w__5 : Nat → gauge_spent) (a_ : Int) (b__1 : Int) {b_ : Nat} {w__4_p : Option Addr} {w__4_c : Nat} (h_w__4 : Rd G 3 w__4_p w__4_c (w__4.map enc_gauge_Point)) (hc : Ctx G (.box b_ (catc [i6 w_,i6 w__1,i6 w__2,i6 w__3,.slice w__4_p w__4.length w__4_c] 32 enc_gauge_spent w__5 [.map none]) 211::Lf) w) {res : Bool} (hF : gauge_work_steps_s2 N w_ w__1 w__2 w__3 w__4 w__5 a_ b__1 = some res) : Calls Tryz.prog 149 #[pq b_,i6 a_,i6 b__1] w (fun e w => e = .returned (.bool res) ∧ Ctx G (.box b_ (catc [i6 w_,i6 w__1,i6 w__2,i6 w__3,.slice w__4_p w__4.length w__4_c] 32 enc_gauge_spent w__5 [.map none]) 211::Lf) w) := by
 unfold gauge_work_steps_s2 at hF
 refine fnIn Tryz.func149 rfl Tryz.ntmps149 rfl fun a hf => zS fun K h => sp 1 hf rfl fun a hf => zT h ?_
 refine zS fun K h => sp 2 hf rfl fun a hf => ?_
 obtain ⟨r,hr,hF⟩ := bnd_some hF
 refine zQ (v := .agg #[i6 r.At,i6 r.Depth,i6 r.Cost]) hf hc en_151 rfl (fun w hc => (gauge_work_station_s2_ok w_ w__1 w__2 w__3 w__4 w__5 a_ h_w__4 (hc.pick k0) hr).mono fun e w h => ⟨h.1,(h.2.unpick k0)⟩) fun a w hf hc => sp 2 hf rfl fun a hf => ?_
 obtain ⟨r_1,hr_1,hF⟩ := bnd_some hF
 refine zQ (v := .agg #[i6 r_1.At,i6 r_1.Depth,i6 r_1.Cost]) hf hc en_151 rfl (fun w hc => (gauge_work_station_s2_ok w_ w__1 w__2 w__3 w__4 w__5 b__1 h_w__4 (hc.pick k0) hr_1).mono fun e w h => ⟨h.1,(h.2.unpick k0)⟩) fun a w hf hc => zA hf hc zr_202 rfl fun b_1 a w hf hc => zA hf hc zr_202 rfl fun b_2 a w hf hc => zW hf hc sz_202 u1 rfl fun w hc => zW hf hc sz_202 u0 rfl fun w hc => zT h ?_
 refine wp_seq_k fun K3 h3 => cQ hc follows_mx (by kernel_rfl) ?_
 refine qE hf rfl rfl rfl (Pu.ev (pFA fa_202_0 rfl)) fun a hf => qE hf rfl rfl rfl (eLd1 sc_3 rfl (cell_box m0 rfl)) fun a hf => qE hf rfl rfl rfl (Pu.ev (pFA fa_202_0 rfl)) fun a hf => qE hf rfl rfl rfl (eLd1 sc_3 rfl (cell_box m1 rfl)) fun a hf => qE hf rfl rfl rfl (Pu.ev (pSub rfl rfl)) fun a hf => qE hf rfl rfl rfl (Pu.ev (pM rfl)) fun a hf => qE hf rfl rfl rfl (Pu.ev (pNC rfl)) fun a hf => qE hf rfl rfl rfl (Pu.ev (pFA fa_211_0 rfl)) fun a hf => qE hf rfl rfl rfl (Pu.ev (pFA fa_136_2 rfl)) fun a hf => qE hf rfl rfl rfl (eLd1 sc_3 rfl (cell_box m2 rfl)) fun a hf => qE hf rfl rfl rfl (Pu.ev (pLe rfl rfl)) fun a hf => qE hf rfl rfl rfl (Pu.ev (pM rfl)) fun a hf => qCut 18 (fun a => Has 45 a [(0,pq b_),(6,.bool false),(7,pq b_1),(8,pq b_2),(15,pq b_2),(16,i6 r_1.At),(17,pq b_1),(18,i6 r.At),(19,i6 (W (r_1.At - r.At))),(20,pq b_),(21,pq b_),(22,pq b_),(23,.pointer (some ⟨b_,2,none⟩)),(24,i6 w__2),(25,.bool (decide ((W (r_1.At - r.At)) ≤ w__2))),(26,.bool (decide ((W (r_1.At - r.At)) ≤ w__2))),(44,.bool ((decide ((W (r_1.At - r.At)) ≤ w__2)) && (decide ((max (W (r.Depth - r_1.Depth)) (W (r_1.Depth - r.Depth))) ≤ w__3))))]) ?_ ?_
 ·cases hb : (decide ((W (r_1.At - r.At)) ≤ w__2))
  ·rw [hb] at hf
   refine qS hf rfl rfl rfl fun a hf => qS hf rfl rfl rfl fun a hf => qS hf rfl rfl rfl fun a hf => qS hf rfl rfl rfl fun a hf => qS hf rfl rfl rfl fun a hf => qS hf rfl rfl rfl fun a hf => qS hf rfl rfl rfl fun a hf => qS hf rfl rfl rfl fun a hf => qS hf rfl rfl rfl fun a hf => qS hf rfl rfl rfl fun a hf => qS hf rfl rfl rfl fun a hf => qS hf rfl rfl rfl fun a hf => qS hf rfl rfl rfl fun a hf => ?_
   refine qS hf rfl rfl rfl fun a hf => qS hf rfl rfl rfl fun a hf => qS hf rfl rfl rfl fun a hf => qS hf rfl rfl rfl fun a hf => qE hf rfl rfl rfl (Pu.ev (pPf rfl rfl)) fun a hf => qNil (hf.kp rfl)
  ·rw [hb] at hf
   refine qE hf rfl rfl rfl (Pu.ev (pFA fa_202_1 rfl)) fun a hf => qE hf rfl rfl rfl (eLd1 sc_3 rfl (cell_box m1 rfl)) fun a hf => qE hf rfl rfl rfl (Pu.ev (pFA fa_202_1 rfl)) fun a hf => qE hf rfl rfl rfl (eLd1 sc_3 rfl (cell_box m0 rfl)) fun a hf => qE hf rfl rfl rfl (Pu.ev (pSub rfl rfl)) fun a hf => qE hf rfl rfl rfl (Pu.ev (pFA fa_202_1 rfl)) fun a hf => qE hf rfl rfl rfl (eLd1 sc_3 rfl (cell_box m0 rfl)) fun a hf => qE hf rfl rfl rfl (Pu.ev (pFA fa_202_1 rfl)) fun a hf => qE hf rfl rfl rfl (eLd1 sc_3 rfl (cell_box m1 rfl)) fun a hf => qE hf rfl rfl rfl (Pu.ev (pSub rfl rfl)) fun a hf => qE hf rfl rfl rfl (Pu.ev (pMax2 rfl rfl)) fun a hf => qE hf rfl rfl rfl (Pu.ev (pM rfl)) fun a hf => qE hf rfl rfl rfl (Pu.ev (pNC rfl)) fun a hf => ?_
   refine qE hf rfl rfl rfl (Pu.ev (pFA fa_211_0 rfl)) fun a hf => qE hf rfl rfl rfl (Pu.ev (pFA fa_136_3 rfl)) fun a hf => qE hf rfl rfl rfl (eLd1 sc_3 rfl (cell_box m2 rfl)) fun a hf => qE hf rfl rfl rfl (Pu.ev (pLe rfl rfl)) fun a hf => qE hf rfl rfl rfl (Pu.ev (pPt rfl rfl)) fun a hf => qNil (hf.kp rfl)
 intro a hf
 refine qE hf rfl rfl rfl (Pu.ev (pA rfl)) fun a hf => ?_
 intro w hc
 refine h3 _ _ ?_
 refine wp_ret ?_
 obtain rfl := sj hF
 replace hc := (hc.drop k1).drop k0
 exact zO1 Tryz.results149 hf rfl ⟨rfl,hc⟩

def gauge_Cost_b15 (N : Nat) (s_ : gauge_Site) (r_3 : (List Int)) (sum : Int) (at_ : Int) (x : Int) : Option (Step (Int × Int × Int) (Int × Int)) :=
 cond (decide (x < (((r_3 ++ [W (((s_.Points.length : Nat) : Int) + 1)]).length : Nat) : Int)))
 (Option.bind (getI (r_3 ++ [W (((s_.Points.length : Nat) : Int) + 1)]) x) fun e_1 =>
 Option.bind (gauge_work_steps_s2 N s_.Left s_.Right s_.Gap s_.Step_ s_.Points (fun _ => (⟨0,0⟩ : gauge_spent)) at_ e_1) fun r_4 =>
 cond (!r_4)
 (some (.ret (0,7)))
 (Option.bind (gauge_work_station_s2 N s_.Left s_.Right s_.Gap s_.Step_ s_.Points (fun _ => (⟨0,0⟩ : gauge_spent)) e_1) fun r_5 =>
 some (.cont (W (sum + r_5.Cost),e_1,W (x + 1)))))
 (some (.brk (sum,at_,x)))
def gauge_Cost (N : Nat) (s_ : gauge_Site) (plan : List Int) : Option (Int × Int) :=
 Option.bind (gauge_CheckSite N s_) fun r =>
 cond (r != 0)
 (some (0,r))
 (Option.bind (gauge_every_int N plan s_) fun r_1 =>
 cond (!r_1)
 (some (0,2))
 (Option.bind (gauge_rising_s2 N ((plan.length : Nat) : Int) plan) fun r_2 =>
 cond (!r_2)
 (some (0,9))
 (Option.bind (slices_Clone_Lint_int N plan) fun r_3 =>
 Option.bind (room ((r_3 ++ [W (((s_.Points.length : Nat) : Int) + 1)])).length) fun un =>
 Option.bind (loopO (fun s15 => gauge_Cost_b15 N s_ r_3 s15.1 s15.2.1 s15.2.2) N (0,0,0)) fun x15 =>
 exK x15 (fun s15 => some (s15.1,0)) some)))
theorem gauge_Cost_ok {N : Nat} {G : Pers} {Lf : List Ent} {w : World} (s_ : gauge_Site) (plan : List Int) {s__Points_p : Option Addr} {s__Points_c : Nat} {plan_p : Option Addr} {plan_c : Nat} (h_s__Points : Rd G 3 s__Points_p s__Points_c (s_.Points.map enc_gauge_Point)) (h_plan : Rd G 1 plan_p plan_c (plan.map encI_i64)) (hc : Ctx G (Lf) w) {res : Int × Int} (hF : gauge_Cost N s_ plan = some res) : Calls Tryz.prog 78 #[.agg #[i6 s_.Left,i6 s_.Right,i6 s_.Gap,i6 s_.Step_,.slice s__Points_p s_.Points.length s__Points_c],.slice plan_p plan.length plan_c] w (fun e w => e = .returned (.tuple #[i6 res.1,i6 res.2]) ∧ Ctx G (Lf) w) := by
 unfold gauge_Cost at hF
 refine fnIn Tryz.func78 rfl Tryz.ntmps78 rfl fun a hf => zS fun K h => zB hf hc rfl fun b_1 a w hf hc => zB hf hc rfl fun b_2 a w hf hc => sp 2 hf rfl fun a hf => zT h ?_
 refine wp_seq_k fun K2 h2 => zS fun K h => zN hf hc ag_136 m1 rfl fun a w hf hc => ?_
 obtain ⟨r,hr,hF⟩ := bnd_some hF
 refine zQ (v := i6 r) hf hc en_143 rfl (fun w hc => gauge_CheckSite_ok s_ h_s__Points hc hr) fun a w hf hc => sp 1 hf rfl fun a hf => zT h ?_
 refine zS fun K h => sp 2 hf rfl fun a hf => zT h ?_
 refine zI hf rfl hF ?_ ?_ <;> clear hF <;> intro hF
 ·refine zS fun K h => sp 3 hf rfl fun a hf => zT h ?_
  refine wp_ret ?_
  refine xThenR ?_
  obtain rfl := sj hF
  replace hc := (hc.drop k1).drop k0
  exact zO2 Tryz.results78 hf rfl rfl ⟨rfl,hc⟩
 ·refine wp_skip ?_
  refine h2 _ _ ?_
  refine zS fun K h => zN hf hc ag_136 m1 rfl fun a w hf hc => zP hf rfl (pBuildS (cells := (catc [i6 s_.Left,i6 s_.Right,i6 s_.Gap,i6 s_.Step_,.slice s__Points_p s_.Points.length s__Points_c] 32 enc_gauge_spent (fun _ => (⟨0,0⟩ : gauge_spent)) [.map none])) bt_211 rfl rfl) fun a hf => stBx (cs := (catc [i6 s_.Left,i6 s_.Right,i6 s_.Gap,i6 s_.Step_,.slice s__Points_p s_.Points.length s__Points_c] 32 enc_gauge_spent (fun _ => (⟨0,0⟩ : gauge_spent)) [.map none])) hf hc rfl rfl rfl rfl fun b_3 a w hf hc => sp 1 hf rfl fun a hf => zT h ?_
  refine wp_seq_k fun K7 h7 => wp_block ?_
  refine zS fun K h => zL hf hc sc_25 m1 rfl fun a w hf hc => zP hf rfl (pMF (us := [pq b_1]) rfl rfl) fun a hf => ?_
  obtain ⟨r_1,hr_1,hF⟩ := bnd_some hF
  refine zQ (v := .bool r_1) hf hc en_144 rfl (fun w hc => (gauge_every_int_ok plan s_ h_plan h_s__Points (hc.pick k2) hr_1).mono fun e w h => ⟨h.1,(h.2.unpick k2)⟩) fun a w hf hc => sp 2 hf rfl fun a hf => zT h ?_
  refine zI hf rfl hF ?_ ?_ <;> clear hF <;> intro hF
  ·refine zS fun K h => sp 2 hf rfl fun a hf => zT h ?_
   refine wp_ret ?_
   refine xBlkR ?_
   refine xThenR ?_
   obtain rfl := sj hF
   replace hc := ((hc.drop k2).drop k1).drop k0
   exact zO2 Tryz.results78 hf rfl rfl ⟨rfl,hc⟩
  ·refine zS fun K h => zL hf hc sc_25 m1 rfl fun a w hf hc => zP hf rfl (pLenS Tryz.underlying25 rfl) fun a hf => zP hf rfl (pMF (us := [pq b_2]) rfl rfl) fun a hf => ?_
   obtain ⟨r_2,hr_2,hF⟩ := bnd_some hF
   refine zQ (v := .bool r_2) hf hc en_147 rfl (fun w hc => (gauge_rising_s2_ok ((plan.length : Nat) : Int) plan h_plan (hc.pick k1) hr_2).mono fun e w h => ⟨h.1,(h.2.unpick k1)⟩) fun a w hf hc => sp 2 hf rfl fun a hf => zT h ?_
   refine zI hf rfl hF ?_ ?_ <;> clear hF <;> intro hF
   ·refine zS fun K h => sp 2 hf rfl fun a hf => zT h ?_
    refine wp_ret ?_
    refine xBlkR ?_
    refine xThenR ?_
    obtain rfl := sj hF
    replace hc := ((hc.drop k2).drop k1).drop k0
    exact zO2 Tryz.results78 hf rfl rfl ⟨rfl,hc⟩
   ·refine wp_skip ?_
    refine h7 _ _ ?_
    refine zS fun K h => sp 1 hf rfl fun a hf => zP hf rfl (pMF (vs := [pq b_3]) (us := []) rfl rfl) fun a hf => sp 3 hf rfl fun a hf => zT h ?_
    refine wp_seq_k fun K13 h13 => wp_seq_k fun K14 h14 => ?_
    obtain ⟨r_3,hr_3,hF⟩ := bnd_some hF
    obtain ⟨un,hun,hF⟩ := bnd_some hF
    replace hc := hc.nilRow 0 0
    replace hc := hc.nilRow 0 0
    refine regionE (fun θ => [⟨none,none,2,pq b_1⟩,⟨none,none,3,pq b_2⟩,⟨none,none,7,pq b_3⟩,⟨none,none,8,i6 0⟩,⟨none,none,9,i6 0⟩,⟨none,none,10,.func (.func 149) #[pq b_3] #[]⟩,⟨some 0,none,34,.slice plan_p plan.length plan_c⟩,⟨some 1,none,35,.slice ((θ 8).p) r_3.length ((θ 8).c)⟩,⟨some 2,none,36,.pointer (some ⟨b_1,4,none⟩)⟩,⟨some 3,none,37,.slice s__Points_p s_.Points.length s__Points_c⟩,⟨some 4,none,38,i6 ((s_.Points.length : Nat) : Int)⟩,⟨some 5,none,39,i6 (W (((s_.Points.length : Nat) : Int) + 1))⟩,⟨some 6,none,40,.slice (some ⟨(θ 48).b,0,none⟩) 1 1⟩,⟨some 7,none,41,.slice ((θ 56).p) ((r_3 ++ [W (((s_.Points.length : Nat) : Int) + 1)]).length) ((θ 56).c)⟩,⟨some 8,none,42,i6 (((r_3 ++ [W (((s_.Points.length : Nat) : Int) + 1)]).length : Nat) : Int)⟩,⟨some 9,none,43,i6 0⟩]) (fun E θ => (bif E 6 then .row (some ⟨(θ 48).b,0,none⟩) 1 (([W (((s_.Points.length : Nat) : Int) + 1)] : List Int).map encI_i64) 3 1 else .row none 0 [] 0 0)::(bif E 7 then .row ((θ 56).p) ((θ 56).c) ((r_3 ++ [W (((s_.Points.length : Nat) : Int) + 1)]).map encI_i64) 3 1 else bif E 1 then .row ((θ 8).p) ((θ 8).c) (r_3.map encI_i64) 3 1 else .row none 0 [] 0 0)::.box b_3 (catc [i6 s_.Left,i6 s_.Right,i6 s_.Gap,i6 s_.Step_,.slice s__Points_p s_.Points.length s__Points_c] 32 enc_gauge_spent (fun _ => (⟨0,0⟩ : gauge_spent)) [.map none]) 211::.box b_2 [.slice plan_p plan.length plan_c] 25::.box b_1 [i6 s_.Left,i6 s_.Right,i6 s_.Gap,i6 s_.Step_,.slice s__Points_p s_.Points.length s__Points_c] 136::Lf) [(7,1)] (fun a w => ∃ (p_3 : Option Addr) (c_3 : Nat) (b_5 : Nat),Has 61 a [(7,pq b_3),(8,i6 0),(9,i6 0),(10,.func (.func 149) #[pq b_3] #[]),(41,.slice p_3 ((r_3 ++ [W (((s_.Points.length : Nat) : Int) + 1)]).length) c_3),(42,i6 (((r_3 ++ [W (((s_.Points.length : Nat) : Int) + 1)]).length : Nat) : Int)),(43,i6 0)] ∧ Ctx G (.row (some ⟨b_5,0,none⟩) 1 (([W (((s_.Points.length : Nat) : Int) + 1)] : List Int).map encI_i64) 3 1::.row p_3 c_3 ((r_3 ++ [W (((s_.Points.length : Nat) : Int) + 1)]).map encI_i64) 3 1::.box b_3 (catc [i6 s_.Left,i6 s_.Right,i6 s_.Gap,i6 s_.Step_,.slice s__Points_p s_.Points.length s__Points_c] 32 enc_gauge_spent (fun _ => (⟨0,0⟩ : gauge_spent)) [.map none]) 211::.box b_2 [.slice plan_p plan.length plan_c] 25::.box b_1 [i6 s_.Left,i6 s_.Right,i6 s_.Gap,i6 s_.Step_,.slice s__Points_p s_.Points.length s__Points_c] 136::Lf) w) follows_mx (by kernel_rfl) (by kernel_rfl) (HasE.of hf ⟨rfl,rfl,rfl,rfl,rfl,rfl,trivial,trivial,trivial,trivial,trivial,trivial,trivial,trivial,trivial,trivial,trivial⟩) hc ⟨?_,?_,?_,?_,?_,?_,?_,?_,?_,?_,trivial⟩ ?_ ?_
    ·intro E θ a w hD hi hp he hc
     have hf := he.h0.mT he 1 rfl
     refine zL hf hc sc_25 m3 rfl fun a w hf hc => zD θ he hi hf 6 rfl rfl rfl hc
    ·intro E θ a w hD hi hp he hc
     have e0 := hp.o 0 rfl
     have e7 := hD.f 0 rfl hi
     try dsimp only at hc
     rw [hi,e7] at hc
     have hf := he.h0.mP he 6 rfl e0
     refine zC hf en_150 rfl (slices_Clone_Lint_int_ok plan h_plan hc hr_3) ?_
     rintro _ w ⟨p_1,c_1,rfl,hc⟩
     refine ⟨_,rfl,fun a hf => ?_⟩
     refine cNil ?_
     refine xThenN ?_
     intro ds u hau
     replace hc := ((hc.drop k2).pick k0).pick k1
     refine ⟨(setT θ 8 ⟨0,p_1,c_1,(fun _ => (none,0))⟩),he.put hi hau hf rfl [] trivial ⟨qq,qq,qq,qq,qq,qq,qq,qq,qq,qq,qq,qq,qq,qq,qq,qq,trivial⟩,?_⟩
     try dsimp only
     rw [updE_self E 1,updE_fls 1 e7 rfl]
     exact hc
    ·intro E θ a w hD hi hp he hc
     have hf := he.h0.mT he 0 rfl
     refine zP hf rfl (pFA fa_136_4 rfl) fun a hf => zD θ he hi hf 8 rfl rfl rfl hc
    ·intro E θ a w hD hi hp he hc
     have e2 := hp.o 2 rfl
     have hf := he.h0.mP he 8 rfl e2
     refine zL hf hc sc_134 m4 rfl fun a w hf hc => zD θ he hi hf 9 rfl rfl rfl hc
    ·intro E θ a w hD hi hp he hc
     have e3 := hp.o 3 rfl
     have hf := he.h0.mP he 9 rfl e3
     refine zP hf rfl (pLenS Tryz.underlying134 rfl) fun a hf => zD θ he hi hf 10 rfl rfl rfl hc
    ·intro E θ a w hD hi hp he hc
     have e4 := hp.o 4 rfl
     have hf := he.h0.mP he 10 rfl e4
     refine sp 1 hf rfl fun a hf => zD θ he hi hf 11 rfl rfl rfl hc
    ·intro E θ a w hD hi hp he hc
     have e5 := hp.o 5 rfl
     try dsimp only at hc
     rw [hi] at hc
     have hf := he.h0.mP he 11 rfl e5
     refine stBS (rows := ([W (((s_.Points.length : Nat) : Int) + 1)] : List Int).map encI_i64) (vs := [(0,i6 (W (((s_.Points.length : Nat) : Int) + 1)))]) hf hc rfl rfl sl_25 rfl ⟨rfl,rfl,rfl,trivial⟩ rfl rfl fun b_4 a w hf hc => cNil ?_
     refine xThenN ?_
     intro ds u hau
     replace hc := hc.drop k1
     refine ⟨(setT θ 48 ⟨b_4,none,0,(fun _ => (none,0))⟩),he.put hi hau hf rfl [] trivial ⟨qq,qq,qq,qq,qq,qq,qq,qq,qq,qq,qq,qq,qq,qq,qq,qq,trivial⟩,?_⟩
     try dsimp only
     rw [updE_self E 6]
     exact hc
    ·intro E θ a w hD hi hp he hc
     have e1 := hp.o 1 rfl
     have e6 := hp.o 6 rfl
     try dsimp only at hc
     rw [e6,e1,hi] at hc
     have hf := (he.h0.mP he 7 rfl e1).mP he 12 rfl e6
     refine stApm (xs := r_3) (ys := ([W (((s_.Points.length : Nat) : Int) + 1)] : List Int)) hf hc rfl rfl sl_25 rfl rfl rfl rfl rfl one_encI_i64 (src_row hc m0) (fun _ _ => u1) (by simpa using room_spec hun) fun p_2 c_2 a w hf hc => cNil ?_
     refine xThenN ?_
     intro ds u hau
     refine ⟨(setT θ 56 ⟨0,p_2,c_2,(fun _ => (none,0))⟩),he.put hi hau hf rfl [] trivial ⟨qq,qq,qq,qq,qq,qq,qq,qq,qq,qq,qq,qq,qq,qq,qq,qq,trivial⟩,?_⟩
     try dsimp only
     rw [updE_tru 7 e6,updE_tru 7 e1,updE_self E 7]
     exact hc
    ·intro E θ a w hD hi hp he hc
     have e7 := hp.o 7 rfl
     have hf := he.h0.mP he 13 rfl e7
     refine zP hf rfl (pLenS Tryz.underlying25 rfl) fun a hf => zD θ he hi hf 14 rfl rfl rfl hc
    ·intro E θ a w hD hi hp he hc
     have hf := he.h0
     refine sp 1 hf rfl fun a hf => zD θ he hi hf 15 rfl rfl rfl hc
    ·intro E θ a w hall he hc
     have hf := he.h0
     have e1 := hall 1 rfl
     have e6 := hall 6 rfl
     have e7 := hall 7 rfl
     have e8 := hall 8 rfl
     have e9 := hall 9 rfl
     replace hf := hf.more he 15 rfl (onP e9)
     replace hf := hf.more he 14 rfl (onP e8)
     replace hf := hf.more he 13 rfl (onP e7)
     replace hf := hf.more he 5 rfl (onT)
     replace hf := hf.more he 4 rfl (onT)
     replace hf := hf.more he 3 rfl (onT)
     replace hf := hf.more he 2 rfl (onT)
     try dsimp only at hc
     rw [e1,e6,e7] at hc
     exact ⟨(θ 56).p,(θ 56).c,(θ 48).b,hf.kp rfl,hc⟩
    rintro a w ⟨p_3,c_3,b_5,hf,hc⟩
    refine h14 _ _ ?_
    refine wp_block ?_
    obtain ⟨x15,hx15,hF⟩ := bnd_some hF
    let S15 : (Int × Int × Int) → Act → World → Prop := (fun (zz : Int × Int × Int) a w => ∃ (p_4 : Option Addr) (c_4 : Nat),Has 61 a [(7,pq b_3),(8,i6 zz.1),(9,i6 zz.2.1),(10,.func (.func 149) #[pq b_3] #[]),(41,.slice p_4 ((r_3 ++ [W (((s_.Points.length : Nat) : Int) + 1)]).length) c_4),(42,i6 (((r_3 ++ [W (((s_.Points.length : Nat) : Int) + 1)]).length : Nat) : Int)),(43,i6 zz.2.2)] ∧ Ctx G (.row p_4 c_4 ((r_3 ++ [W (((s_.Points.length : Nat) : Int) + 1)]).map encI_i64) 3 1::.box b_3 (catc [i6 s_.Left,i6 s_.Right,i6 s_.Gap,i6 s_.Step_,.slice s__Points_p s_.Points.length s__Points_c] 32 enc_gauge_spent (fun _ => (⟨0,0⟩ : gauge_spent)) [.map none]) 211::Lf) w)
    have hr15 : ∀ (zz : Int × Int × Int) a w,x15 = .go zz → S15 zz a w → K13 a w := by
     rintro ⟨sum,at_,x⟩ a w rfl ⟨p_4,c_4,hf,hc⟩
     replace hF := exK_go hF
     refine h13 _ _ ?_
     refine zS fun K h => sp 3 hf rfl fun a hf => zT h ?_
     refine wp_ret ?_
     obtain rfl := sj hF
     replace hc := (hc.drop k1).drop k0
     exact zO2 Tryz.results78 hf rfl rfl ⟨rfl,hc⟩
    have ho15 : ∀ r,x15 = .out r → r = res := by
     rintro r rfl
     exact sj hF
    replace hc := ((hc.drop k4).drop k3).drop k0
    refine cLoop N (loopW (S := S15) (x := x15) ?_ N (0,0,0) _ _ ⟨p_3,c_3,hf.kp rfl,hc⟩ hx15)
    clear hF hf hc
    rintro ⟨sum,at_,x⟩ st15 a w KB15 ⟨p_4,c_4,hf,hc⟩ hF hfin15 hK15
    unfold gauge_Cost_b15 at hF
    refine zS fun K h => sp 1 hf rfl fun a hf => zT h ?_
    refine wp_seq_k fun K18 h18 => zI hf rfl hF ?_ ?_ <;> clear hF <;> intro hF
    ·refine wp_skip ?_
     refine h18 _ _ ?_
     refine wp_seq_k fun K19 h19 => wp_block ?_
     refine zS fun K h => ?_
     obtain ⟨e_1,he_1,hF⟩ := bnd_some hF
     obtain ⟨g,rfl,qa,qr⟩ := row_atm hc m0 he_1
     refine zP hf rfl (pIA Tryz.underlying25 sz_3 rfl rfl qa) fun a hf => zE hf hc rfl (eLd1 sc_3 rfl (cell_row (sz := 1) (i := x.toNat) (j := 0) m0 qr rfl)) fun a w hf hc => sp 1 hf rfl fun a hf => zT h ?_
     refine wp_seq_k fun K21 h21 => zS fun K h => sp 3 hf rfl fun a hf => ?_
     obtain ⟨r_4,hr_4,hF⟩ := bnd_some hF
     refine zQ (v := .bool r_4) hf hc en_149 rfl (fun w hc => (gauge_work_steps_s2_ok s_.Left s_.Right s_.Gap s_.Step_ s_.Points (fun _ => (⟨0,0⟩ : gauge_spent)) at_ e_1 h_s__Points (hc.pick k1) hr_4).mono fun e w h => ⟨h.1,(h.2.unpick k1)⟩) fun a w hf hc => sp 1 hf rfl fun a hf => zT h ?_
     refine zI hf rfl hF ?_ ?_ <;> clear hF <;> intro hF
     ·refine zS fun K h => sp 2 hf rfl fun a hf => zT h ?_
      refine wp_ret ?_
      refine xThenR ?_
      refine xBlkR ?_
      refine xThenR ?_
      refine xThenR ?_
      have he := sj hF
      rw [← he] at hfin15
      replace hF := ho15 _ hfin15
      refine xBlkR ?_
      refine xThenR ?_
      obtain rfl := hF
      replace hc := (hc.drop k1).drop k0
      exact zO2 Tryz.results78 hf rfl rfl ⟨rfl,hc⟩
     ·refine wp_skip ?_
      refine h21 _ _ ?_
      refine cReg ?_
      refine sp 3 hf rfl fun a hf => ?_
      obtain ⟨r_5,hr_5,hF⟩ := bnd_some hF
      refine zQ (v := .agg #[i6 r_5.At,i6 r_5.Depth,i6 r_5.Cost]) hf hc en_151 rfl (fun w hc => (gauge_work_station_s2_ok s_.Left s_.Right s_.Gap s_.Step_ s_.Points (fun _ => (⟨0,0⟩ : gauge_spent)) e_1 h_s__Points (hc.pick k1) hr_5).mono fun e w h => ⟨h.1,(h.2.unpick k1)⟩) fun a w hf hc => zP hf rfl (pField1 Tryz.underlying202 rfl sc_3 rfl rfl) fun a hf => sp 4 hf rfl fun a hf => cNil ?_
      refine h19 _ _ ?_
      refine cReg ?_
      refine sp 2 hf rfl fun a hf => cNil ?_
      exact hK15 (W (sum + r_5.Cost),e_1,W (x + 1)) _ _ (sj hF).symm ⟨(some ⟨g,0,none⟩),c_4,hf.kp rfl,hc⟩
    ·refine wp_exit ?_
     refine xThen ?_
     refine xThen ?_
     have he := sj hF
     rw [← he] at hfin15
     refine cHit ?_
     exact hr15 _ _ _ hfin15 ⟨p_4,c_4,hf.kp rfl,hc⟩

def law11_span (N : Nat) (lo : Int) (hi_ : Int) : Option (api_Span) :=
 some (⟨lo,hi_⟩ : api_Span)
theorem law11_span_ok {N : Nat} {G : Pers} {Lf : List Ent} {w : World} (lo : Int) (hi_ : Int)   (hc : Ctx G (Lf) w) {res : api_Span} (hF : law11_span N lo hi_ = some res) : Calls Tryz.prog 51 #[i6 lo,i6 hi_] w (fun e w => e = .returned (.agg #[i6 res.Lo,i6 res.Hi]) ∧ Ctx G (Lf) w) := by
 unfold law11_span at hF
 refine fnIn Tryz.func51 rfl Tryz.ntmps51 rfl fun a hf => zS fun K h => zA hf hc zr_29 rfl fun b_1 a w hf hc => zT h ?_
 refine zS fun K h => sp 2 hf rfl fun a hf => zP hf rfl (pBuildS (cells := [i6 lo,i6 hi_]) bt_29 rfl rfl) fun a hf => zW hf hc sz_29 u0 rfl fun w hc => zT h ?_
 refine wp_ret ?_
 obtain rfl := sj hF
 exact fnOut1 (by simp) rfl Tryz.results51 hf hc (rv_cellN (vs := [i6 lo,i6 hi_]) ag_29 rfl rfl (cells_box (n := 2) m0 rfl)) ⟨rfl,(hc.drop k0)⟩

def crew_in (n : Int) (least : Int) (greatest : Int) : Bool :=
 ((decide (least ≤ n)) && (decide (n ≤ greatest)))
theorem crew_in_ok {G : Pers} {Lf : List Ent} {w : World} (n : Int) (least : Int) (greatest : Int)   (hc : Ctx G (Lf) w) {res : Bool} (hF : crew_in n least greatest = res) : Calls Tryz.prog 86 #[i6 n,i6 least,i6 greatest] w (fun e w => e = .returned (.bool res) ∧ Ctx G (Lf) w) := by
 unfold crew_in at hF
 refine fnIn Tryz.func86 rfl Tryz.ntmps86 rfl fun a hf => zS fun K h => sp 1 hf rfl fun a hf => zT h ?_
 refine zS fun K h => sp 4 hf rfl fun a hf => stCc 4 (fun a => Has 15 a [(0,i6 n),(1,i6 least),(2,i6 greatest),(6,.bool false),(7,i6 n),(8,i6 least),(9,.bool (decide (least ≤ n))),(10,.bool (decide (least ≤ n))),(14,.bool ((decide (least ≤ n)) && (decide (n ≤ greatest))))]) hc ?_ ?_
 ·cases hb : (decide (least ≤ n))
  ·rw [hb] at hf
   refine stS hf rfl rfl rfl fun a hf => stS hf rfl rfl rfl fun a hf => stS hf rfl rfl rfl fun a hf => sp 1 hf rfl fun a hf => cNil ⟨hf.kp rfl,hc⟩
  ·rw [hb] at hf
   refine sp 4 hf rfl fun a hf => cNil ⟨hf.kp rfl,hc⟩
 intro a w ⟨hf,hc⟩
 refine sp 1 hf rfl fun a hf => zT h ?_
 refine wp_ret ?_
 obtain rfl := hF
 exact zO1 Tryz.results86 hf rfl ⟨rfl,hc⟩

def crew_minute (n : Int) : Bool :=
 (crew_in n 0 100000)
theorem crew_minute_ok {G : Pers} {Lf : List Ent} {w : World} (n : Int)   (hc : Ctx G (Lf) w) {res : Bool} (hF : crew_minute n = res) : Calls Tryz.prog 80 #[i6 n] w (fun e w => e = .returned (.bool res) ∧ Ctx G (Lf) w) := by
 unfold crew_minute at hF
 refine fnIn Tryz.func80 rfl Tryz.ntmps80 rfl fun a hf => zS fun K h => sp 1 hf rfl fun a hf => zT h ?_
 refine zS fun K h => sp 1 hf rfl fun a hf => zQ (v := .bool (crew_in n 0 100000)) hf hc en_86 rfl (fun w hc => crew_in_ok n 0 100000 hc rfl) fun a w hf hc => sp 1 hf rfl fun a hf => zT h ?_
 refine wp_ret ?_
 obtain rfl := hF
 exact zO1 Tryz.results80 hf rfl ⟨rfl,hc⟩

def crew_minutes (s_ : api_Span) : Bool :=
 ((crew_in s_.Lo 0 s_.Hi) && (crew_minute s_.Hi))
theorem crew_minutes_ok {G : Pers} {Lf : List Ent} {w : World} (s_ : api_Span)   (hc : Ctx G (Lf) w) {res : Bool} (hF : crew_minutes s_ = res) : Calls Tryz.prog 154 #[.agg #[i6 s_.Lo,i6 s_.Hi]] w (fun e w => e = .returned (.bool res) ∧ Ctx G (Lf) w) := by
 unfold crew_minutes at hF
 refine fnIn Tryz.func154 rfl Tryz.ntmps154 rfl fun a hf => zS fun K h => zB hf hc rfl fun b_1 a w hf hc => sp 1 hf rfl fun a hf => zT h ?_
 refine zS fun K h => zP hf rfl (pFA fa_29_0 rfl) fun a hf => zL hf hc sc_3 m0 rfl fun a w hf hc => zP hf rfl (pFA fa_29_1 rfl) fun a hf => zL hf hc sc_3 m0 rfl fun a w hf hc => zQ (v := .bool (crew_in s_.Lo 0 s_.Hi)) hf hc en_86 rfl (fun w hc => crew_in_ok s_.Lo 0 s_.Hi hc rfl) fun a w hf hc => sp 1 hf rfl fun a hf => stCc 4 (fun a => Has 13 a [(1,pq b_1),(2,.bool false),(3,pq b_1),(4,i6 s_.Lo),(5,.pointer (some ⟨b_1,1,none⟩)),(6,i6 s_.Hi),(7,.bool (crew_in s_.Lo 0 s_.Hi)),(8,.bool (crew_in s_.Lo 0 s_.Hi)),(12,.bool ((crew_in s_.Lo 0 s_.Hi) && (crew_minute s_.Hi)))]) hc ?_ ?_
 ·cases hb : (crew_in s_.Lo 0 s_.Hi)
  ·rw [hb] at hf
   refine stS hf rfl rfl rfl fun a hf => stS hf rfl rfl rfl fun a hf => stS hf rfl rfl rfl fun a hf => sp 1 hf rfl fun a hf => cNil ⟨hf.kp rfl,hc⟩
  ·rw [hb] at hf
   refine zP hf rfl (pFA fa_29_1 rfl) fun a hf => zL hf hc sc_3 m0 rfl fun a w hf hc => zQ (v := .bool (crew_minute s_.Hi)) hf hc en_80 rfl (fun w hc => crew_minute_ok s_.Hi hc rfl) fun a w hf hc => sp 1 hf rfl fun a hf => cNil ⟨hf.kp rfl,hc⟩
 intro a w ⟨hf,hc⟩
 refine sp 1 hf rfl fun a hf => zT h ?_
 refine wp_ret ?_
 obtain rfl := hF
 replace hc := hc.drop k0
 exact zO1 Tryz.results154 hf rfl ⟨rfl,hc⟩

def crew_rounded_1 (v : crew_Visit) : Bool :=
 ((((crew_minutes v.Way) && (crew_minutes v.Work)) && (crew_in v.Open 0 v.Close)) && (crew_minute v.Close))
theorem crew_rounded_1_ok {G : Pers} {Lf : List Ent} {w : World} (v : crew_Visit)   (hc : Ctx G (Lf) w) {res : Bool} (hF : crew_rounded_1 v = res) : Calls Tryz.prog 153 #[.agg #[i6 v.Way.Lo,i6 v.Way.Hi,i6 v.Work.Lo,i6 v.Work.Hi,i6 v.Open,i6 v.Close]] w (fun e w => e = .returned (.bool res) ∧ Ctx G (Lf) w) := by
 unfold crew_rounded_1 at hF
 refine fnIn Tryz.func153 rfl Tryz.ntmps153 rfl fun a hf => zS fun K h => zB hf hc rfl fun b_1 a w hf hc => sp 1 hf rfl fun a hf => zT h ?_
 refine zS fun K h => zP hf rfl (pFA fa_31_0 rfl) fun a hf => zN hf hc ag_29 m0 rfl fun a w hf hc => zQ (v := .bool (crew_minutes v.Way)) hf hc en_154 rfl (fun w hc => crew_minutes_ok v.Way hc rfl) fun a w hf hc => sp 1 hf rfl fun a hf => stCc 4 (fun a => Has 23 a [(1,pq b_1),(2,.bool false),(3,pq b_1),(4,.agg #[i6 v.Way.Lo,i6 v.Way.Hi]),(5,.bool (crew_minutes v.Way)),(6,.bool (crew_minutes v.Way)),(10,.bool ((crew_minutes v.Way) && (crew_minutes v.Work)))]) hc ?_ ?_
 ·cases hb : (crew_minutes v.Way)
  ·rw [hb] at hf
   refine stS hf rfl rfl rfl fun a hf => stS hf rfl rfl rfl fun a hf => stS hf rfl rfl rfl fun a hf => sp 1 hf rfl fun a hf => cNil ⟨hf.kp rfl,hc⟩
  ·rw [hb] at hf
   refine zP hf rfl (pFA fa_31_1 rfl) fun a hf => zN hf hc ag_29 m0 rfl fun a w hf hc => zQ (v := .bool (crew_minutes v.Work)) hf hc en_154 rfl (fun w hc => crew_minutes_ok v.Work hc rfl) fun a w hf hc => sp 1 hf rfl fun a hf => cNil ⟨hf.kp rfl,hc⟩
 intro a w ⟨hf,hc⟩
 refine sp 1 hf rfl fun a hf => stCc 6 (fun a => Has 23 a [(1,pq b_1),(2,.bool false),(3,pq b_1),(4,.agg #[i6 v.Way.Lo,i6 v.Way.Hi]),(5,.bool (crew_minutes v.Way)),(6,.bool (crew_minutes v.Way)),(10,.bool ((crew_minutes v.Way) && (crew_minutes v.Work))),(11,.bool ((crew_minutes v.Way) && (crew_minutes v.Work))),(17,.bool (((crew_minutes v.Way) && (crew_minutes v.Work)) && (crew_in v.Open 0 v.Close)))]) hc ?_ ?_
 ·cases hb : ((crew_minutes v.Way) && (crew_minutes v.Work))
  ·rw [hb] at hf
   refine stS hf rfl rfl rfl fun a hf => stS hf rfl rfl rfl fun a hf => stS hf rfl rfl rfl fun a hf => stS hf rfl rfl rfl fun a hf => stS hf rfl rfl rfl fun a hf => sp 1 hf rfl fun a hf => cNil ⟨hf.kp rfl,hc⟩
  ·rw [hb] at hf
   refine zP hf rfl (pFA fa_31_2 rfl) fun a hf => zL hf hc sc_3 m0 rfl fun a w hf hc => zP hf rfl (pFA fa_31_3 rfl) fun a hf => zL hf hc sc_3 m0 rfl fun a w hf hc => zQ (v := .bool (crew_in v.Open 0 v.Close)) hf hc en_86 rfl (fun w hc => crew_in_ok v.Open 0 v.Close hc rfl) fun a w hf hc => sp 1 hf rfl fun a hf => cNil ⟨hf.kp rfl,hc⟩
 intro a w ⟨hf,hc⟩
 refine sp 1 hf rfl fun a hf => stCc 4 (fun a => Has 23 a [(1,pq b_1),(2,.bool false),(3,pq b_1),(4,.agg #[i6 v.Way.Lo,i6 v.Way.Hi]),(5,.bool (crew_minutes v.Way)),(6,.bool (crew_minutes v.Way)),(10,.bool ((crew_minutes v.Way) && (crew_minutes v.Work))),(11,.bool ((crew_minutes v.Way) && (crew_minutes v.Work))),(17,.bool (((crew_minutes v.Way) && (crew_minutes v.Work)) && (crew_in v.Open 0 v.Close))),(18,.bool (((crew_minutes v.Way) && (crew_minutes v.Work)) && (crew_in v.Open 0 v.Close))),(22,.bool ((((crew_minutes v.Way) && (crew_minutes v.Work)) && (crew_in v.Open 0 v.Close)) && (crew_minute v.Close)))]) hc ?_ ?_
 ·cases hb : (((crew_minutes v.Way) && (crew_minutes v.Work)) && (crew_in v.Open 0 v.Close))
  ·rw [hb] at hf
   refine stS hf rfl rfl rfl fun a hf => stS hf rfl rfl rfl fun a hf => stS hf rfl rfl rfl fun a hf => sp 1 hf rfl fun a hf => cNil ⟨hf.kp rfl,hc⟩
  ·rw [hb] at hf
   refine zP hf rfl (pFA fa_31_3 rfl) fun a hf => zL hf hc sc_3 m0 rfl fun a w hf hc => zQ (v := .bool (crew_minute v.Close)) hf hc en_80 rfl (fun w hc => crew_minute_ok v.Close hc rfl) fun a w hf hc => sp 1 hf rfl fun a hf => cNil ⟨hf.kp rfl,hc⟩
 intro a w ⟨hf,hc⟩
 refine sp 1 hf rfl fun a hf => zT h ?_
 refine wp_ret ?_
 obtain rfl := hF
 replace hc := hc.drop k0
 exact zO1 Tryz.results153 hf rfl ⟨rfl,hc⟩

def crew_every_crew_Visit_1 (x : crew_Visit) : Bool :=
 (!(crew_rounded_1 (⟨x.Way,x.Work,x.Open,x.Close⟩ : crew_Visit)))
theorem crew_every_crew_Visit_1_ok {G : Pers} {Lf : List Ent} {w : World} (x : crew_Visit) {b_ : Nat}  (hc : Ctx G (.box b_ [.func (.func 153) #[] #[]] 219::Lf) w) {res : Bool} (hF : crew_every_crew_Visit_1 x = res) : Calls Tryz.prog 184 #[.agg #[i6 x.Way.Lo,i6 x.Way.Hi,i6 x.Work.Lo,i6 x.Work.Hi,i6 x.Open,i6 x.Close],pq b_] w (fun e w => e = .returned (.bool res) ∧ Ctx G (.box b_ [.func (.func 153) #[] #[]] 219::Lf) w) := by
 unfold crew_every_crew_Visit_1 at hF
 refine fnIn Tryz.func184 rfl Tryz.ntmps184 rfl fun a hf => zS fun K h => zB hf hc rfl fun b_1 a w hf hc => sp 1 hf rfl fun a hf => zT h ?_
 refine zS fun K h => zL hf hc sc_219 m1 rfl fun a w hf hc => zN hf hc ag_31 m0 rfl fun a w hf hc => zQ (v := .bool (crew_rounded_1 (⟨x.Way,x.Work,x.Open,x.Close⟩ : crew_Visit))) hf hc en_153 rfl (fun w hc => crew_rounded_1_ok (⟨x.Way,x.Work,x.Open,x.Close⟩ : crew_Visit) hc rfl) fun a w hf hc => sp 2 hf rfl fun a hf => zT h ?_
 refine wp_ret ?_
 obtain rfl := hF
 replace hc := hc.drop k0
 exact zO1 Tryz.results184 hf rfl ⟨rfl,hc⟩

def slices_IndexFunc_Lcrew_Visit_crew_Visit_b4 (N : Nat) (s_ : List crew_Visit) (x : Int) : Option (Step (Int) (Int)) :=
 cond (decide (x < ((s_.length : Nat) : Int)))
 (Option.bind (getI s_ x) fun e_1 =>
 cond (crew_every_crew_Visit_1 e_1)
 (some (.ret x))
 (some (.cont (W (x + 1)))))
 (some (.brk x))
def slices_IndexFunc_Lcrew_Visit_crew_Visit (N : Nat) (s_ : List crew_Visit) : Option (Int) :=
 Option.bind (loopO (fun s4 => slices_IndexFunc_Lcrew_Visit_crew_Visit_b4 N s_ s4) N 0) fun x4 =>
 exK x4 (fun s4 => some (-1)) some
theorem slices_IndexFunc_Lcrew_Visit_crew_Visit_ok {N : Nat} {G : Pers} {Lf : List Ent} {w : World} (s_ : List crew_Visit) {s__p : Option Addr} {s__c : Nat} {b_ : Nat} (h_s_ : Rd G 6 s__p s__c (s_.map enc_crew_Visit)) (hc : Ctx G (.box b_ [.func (.func 153) #[] #[]] 219::Lf) w) {res : Int} (hF : slices_IndexFunc_Lcrew_Visit_crew_Visit N s_ = some res) : Calls Tryz.prog 200 #[.slice s__p s_.length s__c,.func (.func 184) #[] #[pq b_]] w (fun e w => e = .returned (i6 res) ∧ Ctx G (.box b_ [.func (.func 153) #[] #[]] 219::Lf) w) := by
 unfold slices_IndexFunc_Lcrew_Visit_crew_Visit at hF
 refine fnIn Tryz.func200 rfl Tryz.ntmps200 rfl fun a hf => zS fun K h => sp 1 hf rfl fun a hf => zT h ?_
 refine wp_seq_k fun K2 h2 => zS fun K h => sp 1 hf rfl fun a hf => zP hf rfl (pLenS Tryz.underlying22 rfl) fun a hf => sp 1 hf rfl fun a hf => zT h ?_
 refine wp_block ?_
 obtain ⟨x4,hx4,hF⟩ := bnd_some hF
 let S4 : Int → Act → World → Prop := (fun (zz : Int) a w => Has 19 a [(0,.slice s__p s_.length s__c),(1,.func (.func 184) #[] #[pq b_]),(7,i6 ((s_.length : Nat) : Int)),(8,i6 zz)] ∧ Ctx G (.box b_ [.func (.func 153) #[] #[]] 219::Lf) w)
 have hr4 : ∀ (zz : Int) a w,x4 = .go zz → S4 zz a w → K2 a w := by
  rintro x a w rfl ⟨hf,hc⟩
  replace hF := exK_go hF
  refine h2 _ _ ?_
  refine zS fun K h => sp 1 hf rfl fun a hf => zT h ?_
  refine wp_ret ?_
  obtain rfl := sj hF
  exact zO1 Tryz.results200 hf rfl ⟨rfl,hc⟩
 have ho4 : ∀ r,x4 = .out r → r = res := by
  rintro r rfl
  exact sj hF
 refine cLoop N (loopW (S := S4) (x := x4) ?_ N 0 _ _ ⟨hf.kp rfl,hc⟩ hx4)
 clear hF hf hc
 rintro x st4 a w KB4 ⟨hf,hc⟩ hF hfin4 hK4
 unfold slices_IndexFunc_Lcrew_Visit_crew_Visit_b4 at hF
 refine zS fun K h => sp 1 hf rfl fun a hf => zT h ?_
 refine wp_seq_k fun K7 h7 => zI hf rfl hF ?_ ?_ <;> clear hF <;> intro hF
 ·refine wp_skip ?_
  refine h7 _ _ ?_
  refine wp_seq_k fun K8 h8 => wp_block ?_
  refine zS fun K h => sp 2 hf rfl fun a hf => zT h ?_
  refine zS fun K h => sp 3 hf rfl fun a hf => ?_
  obtain ⟨e_1,he_1,hF⟩ := bnd_some hF
  obtain ⟨b_1,o,qa,qp⟩ := h_s_.atm he_1
  refine zP hf rfl (pIA Tryz.underlying22 sz_31 rfl rfl qa) fun a hf => zE hf hc rfl (eLdN (vs := [i6 e_1.Way.Lo,i6 e_1.Way.Hi,i6 e_1.Work.Lo,i6 e_1.Work.Hi,i6 e_1.Open,i6 e_1.Close]) ag_31 rfl rfl (cells_pc qp (n := 6) (o' := 0) rfl)) fun a w hf hc => zQ (v := .bool (crew_every_crew_Visit_1 e_1)) hf hc en_184 rfl (fun w hc => (crew_every_crew_Visit_1_ok e_1 (hc.pick k0) rfl).mono fun e w h => ⟨h.1,(h.2.unpick k0)⟩) fun a w hf hc => zT h ?_
  refine zI hf rfl hF ?_ ?_ <;> clear hF <;> intro hF
  ·refine zS fun K h => sp 2 hf rfl fun a hf => zT h ?_
   refine wp_ret ?_
   refine xBlkR ?_
   refine xThenR ?_
   refine xThenR ?_
   have he := sj hF
   rw [← he] at hfin4
   replace hF := ho4 _ hfin4
   refine xBlkR ?_
   refine xThenR ?_
   obtain rfl := hF
   exact zO1 Tryz.results200 hf rfl ⟨rfl,hc⟩
  ·refine wp_skip ?_
   refine h8 _ _ ?_
   refine cReg ?_
   refine sp 2 hf rfl fun a hf => cNil ?_
   exact hK4 (W (x + 1)) _ _ (sj hF).symm ⟨hf.kp rfl,hc⟩
 ·refine wp_exit ?_
  refine xThen ?_
  refine xThen ?_
  have he := sj hF
  rw [← he] at hfin4
  refine cHit ?_
  exact hr4 _ _ _ hfin4 ⟨hf.kp rfl,hc⟩

def slices_ContainsFunc_Lcrew_Visit_crew_Visit (N : Nat) (s_ : List crew_Visit) : Option (Bool) :=
 Option.bind (slices_IndexFunc_Lcrew_Visit_crew_Visit N s_) fun r =>
 some (decide (0 ≤ r))
theorem slices_ContainsFunc_Lcrew_Visit_crew_Visit_ok {N : Nat} {G : Pers} {Lf : List Ent} {w : World} (s_ : List crew_Visit) {s__p : Option Addr} {s__c : Nat} {b_ : Nat} (h_s_ : Rd G 6 s__p s__c (s_.map enc_crew_Visit)) (hc : Ctx G (.box b_ [.func (.func 153) #[] #[]] 219::Lf) w) {res : Bool} (hF : slices_ContainsFunc_Lcrew_Visit_crew_Visit N s_ = some res) : Calls Tryz.prog 183 #[.slice s__p s_.length s__c,.func (.func 184) #[] #[pq b_]] w (fun e w => e = .returned (.bool res) ∧ Ctx G (.box b_ [.func (.func 153) #[] #[]] 219::Lf) w) := by
 unfold slices_ContainsFunc_Lcrew_Visit_crew_Visit at hF
 refine fnIn Tryz.func183 rfl Tryz.ntmps183 rfl fun a hf => zS fun K h => sp 1 hf rfl fun a hf => zT h ?_
 refine zS fun K h => sp 2 hf rfl fun a hf => ?_
 obtain ⟨r,hr,hF⟩ := bnd_some hF
 refine zQ (v := i6 r) hf hc en_200 rfl (fun w hc => (slices_IndexFunc_Lcrew_Visit_crew_Visit_ok s_ h_s_ (hc.pick k0) hr).mono fun e w h => ⟨h.1,(h.2.unpick k0)⟩) fun a w hf hc => sp 2 hf rfl fun a hf => zT h ?_
 refine wp_ret ?_
 obtain rfl := sj hF
 exact zO1 Tryz.results183 hf rfl ⟨rfl,hc⟩

def crew_every_crew_Visit (N : Nat) (l : List crew_Visit) : Option (Bool) :=
 Option.bind (slices_ContainsFunc_Lcrew_Visit_crew_Visit N l) fun r =>
 some (!r)
theorem crew_every_crew_Visit_ok {N : Nat} {G : Pers} {Lf : List Ent} {w : World} (l : List crew_Visit) {l_p : Option Addr} {l_c : Nat} (h_l : Rd G 6 l_p l_c (l.map enc_crew_Visit)) (hc : Ctx G (Lf) w) {res : Bool} (hF : crew_every_crew_Visit N l = some res) : Calls Tryz.prog 152 #[.slice l_p l.length l_c,.func (.func 153) #[] #[]] w (fun e w => e = .returned (.bool res) ∧ Ctx G (Lf) w) := by
 unfold crew_every_crew_Visit at hF
 refine fnIn Tryz.func152 rfl Tryz.ntmps152 rfl fun a hf => zS fun K h => zB hf hc rfl fun b_1 a w hf hc => sp 1 hf rfl fun a hf => zT h ?_
 refine zS fun K h => sp 1 hf rfl fun a hf => zP hf rfl (pMF (us := [pq b_1]) rfl rfl) fun a hf => ?_
 obtain ⟨r,hr,hF⟩ := bnd_some hF
 refine zQ (v := .bool r) hf hc en_183 rfl (fun w hc => (slices_ContainsFunc_Lcrew_Visit_crew_Visit_ok l h_l (hc.pick k0) hr).mono fun e w h => ⟨h.1,(h.2.unpick k0)⟩) fun a w hf hc => sp 2 hf rfl fun a hf => zT h ?_
 refine wp_ret ?_
 obtain rfl := sj hF
 replace hc := hc.drop k0
 exact zO1 Tryz.results152 hf rfl ⟨rfl,hc⟩

def crew_rounded (N : Nat) (l : List crew_Visit) : Option (Int) :=
 cond (!(crew_in ((l.length : Nat) : Int) 1 20))
 (some 3)
 (Option.bind (crew_every_crew_Visit N l) fun r =>
 cond (!r)
 (some 120)
 (some 0))
theorem crew_rounded_ok {N : Nat} {G : Pers} {Lf : List Ent} {w : World} (l : List crew_Visit) {l_p : Option Addr} {l_c : Nat} (h_l : Rd G 6 l_p l_c (l.map enc_crew_Visit)) (hc : Ctx G (Lf) w) {res : Int} (hF : crew_rounded N l = some res) : Calls Tryz.prog 79 #[.slice l_p l.length l_c] w (fun e w => e = .returned (i6 res) ∧ Ctx G (Lf) w) := by
 unfold crew_rounded at hF
 refine fnIn Tryz.func79 rfl Tryz.ntmps79 rfl fun a hf => zS fun K h => sp 1 hf rfl fun a hf => zT h ?_
 refine wp_seq_k fun K2 h2 => wp_block ?_
 refine zS fun K h => sp 1 hf rfl fun a hf => zP hf rfl (pLenS Tryz.underlying22 rfl) fun a hf => zQ (v := .bool (crew_in ((l.length : Nat) : Int) 1 20)) hf hc en_86 rfl (fun w hc => crew_in_ok ((l.length : Nat) : Int) 1 20 hc rfl) fun a w hf hc => sp 2 hf rfl fun a hf => zT h ?_
 refine zI hf rfl hF ?_ ?_ <;> clear hF <;> intro hF
 ·refine zS fun K h => sp 1 hf rfl fun a hf => zT h ?_
  refine wp_ret ?_
  refine xBlkR ?_
  refine xThenR ?_
  obtain rfl := sj hF
  exact zO1 Tryz.results79 hf rfl ⟨rfl,hc⟩
 ·refine zS fun K h => sp 1 hf rfl fun a hf => ?_
  obtain ⟨r,hr,hF⟩ := bnd_some hF
  refine zQ (v := .bool r) hf hc en_152 rfl (fun w hc => crew_every_crew_Visit_ok l h_l hc hr) fun a w hf hc => sp 2 hf rfl fun a hf => zT h ?_
  refine zI hf rfl hF ?_ ?_ <;> clear hF <;> intro hF
  ·refine zS fun K h => sp 1 hf rfl fun a hf => zT h ?_
   refine wp_ret ?_
   refine xBlkR ?_
   refine xThenR ?_
   obtain rfl := sj hF
   exact zO1 Tryz.results79 hf rfl ⟨rfl,hc⟩
  ·refine wp_skip ?_
   refine h2 _ _ ?_
   refine zS fun K h => sp 1 hf rfl fun a hf => zT h ?_
   refine wp_ret ?_
   obtain rfl := sj hF
   exact zO1 Tryz.results79 hf rfl ⟨rfl,hc⟩

def crew_low  : Unit :=
 ()
theorem crew_low_ok {G : Pers} {Lf : List Ent} {w : World}    (hc : Ctx G (Lf) w) {res : Unit} (hF : crew_low = res) : Calls Tryz.prog 82 #[] w (fun e w => e = .returned (.agg #[.func (.func 155) #[] #[]]) ∧ Ctx G (Lf) w) := by
 unfold crew_low at hF
 refine fnIn Tryz.func82 rfl Tryz.ntmps82 rfl fun a hf => zS fun K h => zA hf hc zr_147 rfl fun b_1 a w hf hc => zT h ?_
 refine zS fun K h => zP hf rfl (pBuildS (cells := [.func (.func 155) #[] #[]]) bt_147 rfl rfl) fun a hf => zW hf hc sz_147 u0 rfl fun w hc => zT h ?_
 refine wp_ret ?_
 obtain rfl := hF
 exact fnOut1 (by simp) rfl Tryz.results82 hf hc (rv_cellN (vs := [.func (.func 155) #[] #[]]) ag_147 rfl rfl (cells_box (n := 1) m0 rfl)) ⟨rfl,(hc.drop k0)⟩

def crew_low_1 (s_ : api_Span) : Int :=
 s_.Lo
theorem crew_low_1_ok {G : Pers} {Lf : List Ent} {w : World} (s_ : api_Span)   (hc : Ctx G (Lf) w) {res : Int} (hF : crew_low_1 s_ = res) : Calls Tryz.prog 155 #[.agg #[i6 s_.Lo,i6 s_.Hi]] w (fun e w => e = .returned (i6 res) ∧ Ctx G (Lf) w) := by
 unfold crew_low_1 at hF
 refine fnIn Tryz.func155 rfl Tryz.ntmps155 rfl fun a hf => zS fun K h => zB hf hc rfl fun b_1 a w hf hc => sp 1 hf rfl fun a hf => zT h ?_
 refine zS fun K h => zP hf rfl (pFA fa_29_0 rfl) fun a hf => zL hf hc sc_3 m0 rfl fun a w hf hc => sp 1 hf rfl fun a hf => zT h ?_
 refine wp_ret ?_
 obtain rfl := hF
 replace hc := hc.drop k0
 exact zO1 Tryz.results155 hf rfl ⟨rfl,hc⟩

def crew_begins_b5 (N : Nat) (l : List crew_Visit) (start_0 : Int) (out : List Int) (x : Int) : Option (Step (Int × (List Int) × Int) ((List Int))) :=
 cond (decide (x < ((l.length : Nat) : Int)))
 (Option.bind (getI l x) fun e_1 =>
 Option.bind (room ((out ++ [max (W (start_0 + (crew_low_1 e_1.Way))) e_1.Open])).length) fun un =>
 some (.cont (W ((max (W (start_0 + (crew_low_1 e_1.Way))) e_1.Open) + (crew_low_1 e_1.Work)),(out ++ [max (W (start_0 + (crew_low_1 e_1.Way))) e_1.Open]),W (x + 1))))
 (some (.brk (start_0,out,x)))
def crew_begins (N : Nat) (start : Int) (l : List crew_Visit) : Option ((List Int)) :=
 Option.bind (loopO (fun s5 => crew_begins_b5 N l s5.1 s5.2.1 s5.2.2) N (start,([] : List Int),0)) fun x5 =>
 exK x5 (fun s5 => some s5.2.1) some
theorem crew_begins_ok {N : Nat} {G : Pers} {Lf : List Ent} {w : World} (start : Int) (l : List crew_Visit) {l_p : Option Addr} {l_c : Nat} (h_l : Rd G 6 l_p l_c (l.map enc_crew_Visit)) (hc : Ctx G (Lf) w) {res : (List Int)} (hF : crew_begins N start l = some res) : Calls Tryz.prog 81 #[i6 start,.slice l_p l.length l_c,.agg #[.func (.func 155) #[] #[]]] w (fun e w => ∃ (p'1 : Option Addr) (c'1 : Nat),e = .returned (.slice p'1 res.length c'1) ∧ Ctx G (.row p'1 c'1 (res.map encI_i64) 3 1::Lf) w) := by
 unfold crew_begins at hF
 refine fnIn Tryz.func81 rfl Tryz.ntmps81 rfl fun a hf => zS fun K h => zB hf hc rfl fun b_1 a w hf hc => sp 1 hf rfl fun a hf => zT h ?_
 refine zS fun K h => sp 1 hf rfl fun a hf => zT h ?_
 refine wp_seq_k fun K3 h3 => zS fun K h => sp 1 hf rfl fun a hf => zP hf rfl (pLenS Tryz.underlying22 rfl) fun a hf => sp 1 hf rfl fun a hf => zT h ?_
 refine wp_block ?_
 obtain ⟨x5,hx5,hF⟩ := bnd_some hF
 let S5 : (Int × (List Int) × Int) → Act → World → Prop := (fun (zz : Int × (List Int) × Int) a w => ∃ (p_1 : Option Addr) (c_1 : Nat),Has 40 a [(0,i6 zz.1),(5,pq b_1),(7,.slice p_1 zz.2.1.length c_1),(11,.slice l_p l.length l_c),(12,i6 ((l.length : Nat) : Int)),(13,i6 zz.2.2)] ∧ Ctx G (.row p_1 c_1 (zz.2.1.map encI_i64) 3 1::.box b_1 [.func (.func 155) #[] #[]] 147::Lf) w)
 have hr5 : ∀ (zz : Int × (List Int) × Int) a w,x5 = .go zz → S5 zz a w → K3 a w := by
  rintro ⟨start_0,out,x⟩ a w rfl ⟨p_1,c_1,hf,hc⟩
  replace hF := exK_go hF
  refine h3 _ _ ?_
  refine zS fun K h => sp 2 hf rfl fun a hf => zT h ?_
  refine wp_ret ?_
  obtain rfl := sj hF
  replace hc := hc.drop k1
  exact zO1 Tryz.results81 hf rfl ⟨p_1,c_1,rfl,hc⟩
 have ho5 : ∀ r,x5 = .out r → r = res := by
  rintro r rfl
  exact sj hF
 replace hc := hc.nilRow 3 1
 refine cLoop N (loopW (S := S5) (x := x5) ?_ N (start,([] : List Int),0) _ _ ⟨none,0,hf.kp rfl,hc⟩ hx5)
 clear hF hf hc
 rintro ⟨start_0,out,x⟩ st5 a w KB5 ⟨p_1,c_1,hf,hc⟩ hF hfin5 hK5
 unfold crew_begins_b5 at hF
 refine zS fun K h => sp 1 hf rfl fun a hf => zT h ?_
 refine wp_seq_k fun K8 h8 => zI hf rfl hF ?_ ?_ <;> clear hF <;> intro hF
 ·refine wp_skip ?_
  refine h8 _ _ ?_
  refine wp_seq_k fun K9 h9 => wp_block ?_
  refine zS fun K h => ?_
  obtain ⟨e_1,he_1,hF⟩ := bnd_some hF
  obtain ⟨b_2,o,qa,qp⟩ := h_l.atm he_1
  refine zP hf rfl (pIA Tryz.underlying22 sz_31 rfl rfl qa) fun a hf => zE hf hc rfl (eLdN (vs := [i6 e_1.Way.Lo,i6 e_1.Way.Hi,i6 e_1.Work.Lo,i6 e_1.Work.Hi,i6 e_1.Open,i6 e_1.Close]) ag_31 rfl rfl (cells_pc qp (n := 6) (o' := 0) rfl)) fun a w hf hc => zA hf hc zr_31 rfl fun b_3 a w hf hc => zW hf hc sz_31 u0 rfl fun w hc => zT h ?_
  refine wp_seq_k fun K11 h11 => cQ hc follows_mx (by kernel_rfl) ?_
  refine qE hf rfl rfl rfl (Pu.ev (pM rfl)) fun a hf => qE hf rfl rfl rfl (Pu.ev (pFA fa_147_0 rfl)) fun a hf => qE hf rfl rfl rfl (eLd1 sc_145 rfl (cell_box m2 rfl)) fun a hf => qE hf rfl rfl rfl (Pu.ev (pFA fa_31_0 rfl)) fun a hf => qE hf rfl rfl rfl (eLdN (vs := [i6 e_1.Way.Lo,i6 e_1.Way.Hi]) ag_29 rfl rfl (cells_box (n := 2) m0 rfl)) fun a hf => qE hf rfl rfl rfl (eC (v := i6 (crew_low_1 e_1.Way)) (vs := [.agg #[i6 e_1.Way.Lo,i6 e_1.Way.Hi]]) (caps := []) en_155 rfl rfl rfl rfl (fun w hc => crew_low_1_ok e_1.Way hc rfl)) fun a hf => qE hf rfl rfl rfl (Pu.ev (pAdd rfl rfl)) fun a hf => qE hf rfl rfl rfl (Pu.ev (pFA fa_31_2 rfl)) fun a hf => qE hf rfl rfl rfl (eLd1 sc_3 rfl (cell_box m0 rfl)) fun a hf => qE hf rfl rfl rfl (Pu.ev (pMax2 rfl rfl)) fun a hf => qE hf rfl rfl rfl (Pu.ev (pA rfl)) fun a hf => ?_
  intro w hc
  refine h11 _ _ ?_
  refine zS fun K h => sp 2 hf rfl fun a hf => stBS (rows := ([max (W (start_0 + (crew_low_1 e_1.Way))) e_1.Open] : List Int).map encI_i64) (vs := [(0,i6 (max (W (start_0 + (crew_low_1 e_1.Way))) e_1.Open))]) hf hc rfl rfl sl_25 rfl ⟨rfl,rfl,rfl,trivial⟩ rfl rfl fun b_4 a w hf hc => ?_
  obtain ⟨un,hun,hF⟩ := bnd_some hF
  refine stApm (xs := out) (ys := ([max (W (start_0 + (crew_low_1 e_1.Way))) e_1.Open] : List Int)) hf hc rfl rfl sl_25 rfl rfl rfl rfl rfl one_encI_i64 (src_row hc m0) (fun _ _ => u2) (by simpa using room_spec hun) fun p_2 c_2 a w hf hc => sp 1 hf rfl fun a hf => zT h ?_
  refine cReg ?_
  refine sp 1 hf rfl fun a hf => zP hf rfl (pFA fa_147_0 rfl) fun a hf => zL hf hc sc_145 m3 rfl fun a w hf hc => zP hf rfl (pFA fa_31_1 rfl) fun a hf => zN hf hc ag_29 m1 rfl fun a w hf hc => zQ (v := i6 (crew_low_1 e_1.Work)) hf hc en_155 rfl (fun w hc => crew_low_1_ok e_1.Work hc rfl) fun a w hf hc => sp 2 hf rfl fun a hf => cNil ?_
  refine h9 _ _ ?_
  refine cReg ?_
  refine sp 2 hf rfl fun a hf => cNil ?_
  replace hc := (hc.drop k1).drop k0
  exact hK5 (W ((max (W (start_0 + (crew_low_1 e_1.Way))) e_1.Open) + (crew_low_1 e_1.Work)),(out ++ [max (W (start_0 + (crew_low_1 e_1.Way))) e_1.Open]),W (x + 1)) _ _ (sj hF).symm ⟨p_2,c_2,hf.kp rfl,hc⟩
 ·refine wp_exit ?_
  refine xThen ?_
  refine xThen ?_
  have he := sj hF
  rw [← he] at hfin5
  refine cHit ?_
  exact hr5 _ _ _ hfin5 ⟨p_1,c_1,hf.kp rfl,hc⟩

def crew_high  : Unit :=
 ()
theorem crew_high_ok {G : Pers} {Lf : List Ent} {w : World}    (hc : Ctx G (Lf) w) {res : Unit} (hF : crew_high = res) : Calls Tryz.prog 83 #[] w (fun e w => e = .returned (.agg #[.func (.func 156) #[] #[]]) ∧ Ctx G (Lf) w) := by
 unfold crew_high at hF
 refine fnIn Tryz.func83 rfl Tryz.ntmps83 rfl fun a hf => zS fun K h => zA hf hc zr_147 rfl fun b_1 a w hf hc => zT h ?_
 refine zS fun K h => zP hf rfl (pBuildS (cells := [.func (.func 156) #[] #[]]) bt_147 rfl rfl) fun a hf => zW hf hc sz_147 u0 rfl fun w hc => zT h ?_
 refine wp_ret ?_
 obtain rfl := hF
 exact fnOut1 (by simp) rfl Tryz.results83 hf hc (rv_cellN (vs := [.func (.func 156) #[] #[]]) ag_147 rfl rfl (cells_box (n := 1) m0 rfl)) ⟨rfl,(hc.drop k0)⟩

def crew_high_1 (s_ : api_Span) : Int :=
 s_.Hi
theorem crew_high_1_ok {G : Pers} {Lf : List Ent} {w : World} (s_ : api_Span)   (hc : Ctx G (Lf) w) {res : Int} (hF : crew_high_1 s_ = res) : Calls Tryz.prog 156 #[.agg #[i6 s_.Lo,i6 s_.Hi]] w (fun e w => e = .returned (i6 res) ∧ Ctx G (Lf) w) := by
 unfold crew_high_1 at hF
 refine fnIn Tryz.func156 rfl Tryz.ntmps156 rfl fun a hf => zS fun K h => zB hf hc rfl fun b_1 a w hf hc => sp 1 hf rfl fun a hf => zT h ?_
 refine zS fun K h => zP hf rfl (pFA fa_29_1 rfl) fun a hf => zL hf hc sc_3 m0 rfl fun a w hf hc => sp 1 hf rfl fun a hf => zT h ?_
 refine wp_ret ?_
 obtain rfl := hF
 replace hc := hc.drop k0
 exact zO1 Tryz.results156 hf rfl ⟨rfl,hc⟩

def crew_begins_s2_b5 (N : Nat) (l : List crew_Visit) (start_0 : Int) (out : List Int) (x : Int) : Option (Step (Int × (List Int) × Int) ((List Int))) :=
 cond (decide (x < ((l.length : Nat) : Int)))
 (Option.bind (getI l x) fun e_1 =>
 Option.bind (room ((out ++ [max (W (start_0 + (crew_high_1 e_1.Way))) e_1.Open])).length) fun un =>
 some (.cont (W ((max (W (start_0 + (crew_high_1 e_1.Way))) e_1.Open) + (crew_high_1 e_1.Work)),(out ++ [max (W (start_0 + (crew_high_1 e_1.Way))) e_1.Open]),W (x + 1))))
 (some (.brk (start_0,out,x)))
def crew_begins_s2 (N : Nat) (start : Int) (l : List crew_Visit) : Option ((List Int)) :=
 Option.bind (loopO (fun s5 => crew_begins_s2_b5 N l s5.1 s5.2.1 s5.2.2) N (start,([] : List Int),0)) fun x5 =>
 exK x5 (fun s5 => some s5.2.1) some
theorem crew_begins_s2_ok {N : Nat} {G : Pers} {Lf : List Ent} {w : World} (start : Int) (l : List crew_Visit) {l_p : Option Addr} {l_c : Nat} (h_l : Rd G 6 l_p l_c (l.map enc_crew_Visit)) (hc : Ctx G (Lf) w) {res : (List Int)} (hF : crew_begins_s2 N start l = some res) : Calls Tryz.prog 81 #[i6 start,.slice l_p l.length l_c,.agg #[.func (.func 156) #[] #[]]] w (fun e w => ∃ (p'1 : Option Addr) (c'1 : Nat),e = .returned (.slice p'1 res.length c'1) ∧ Ctx G (.row p'1 c'1 (res.map encI_i64) 3 1::Lf) w) := by
 unfold crew_begins_s2 at hF
 refine fnIn Tryz.func81 rfl Tryz.ntmps81 rfl fun a hf => zS fun K h => zB hf hc rfl fun b_1 a w hf hc => sp 1 hf rfl fun a hf => zT h ?_
 refine zS fun K h => sp 1 hf rfl fun a hf => zT h ?_
 refine wp_seq_k fun K3 h3 => zS fun K h => sp 1 hf rfl fun a hf => zP hf rfl (pLenS Tryz.underlying22 rfl) fun a hf => sp 1 hf rfl fun a hf => zT h ?_
 refine wp_block ?_
 obtain ⟨x5,hx5,hF⟩ := bnd_some hF
 let S5 : (Int × (List Int) × Int) → Act → World → Prop := (fun (zz : Int × (List Int) × Int) a w => ∃ (p_1 : Option Addr) (c_1 : Nat),Has 40 a [(0,i6 zz.1),(5,pq b_1),(7,.slice p_1 zz.2.1.length c_1),(11,.slice l_p l.length l_c),(12,i6 ((l.length : Nat) : Int)),(13,i6 zz.2.2)] ∧ Ctx G (.row p_1 c_1 (zz.2.1.map encI_i64) 3 1::.box b_1 [.func (.func 156) #[] #[]] 147::Lf) w)
 have hr5 : ∀ (zz : Int × (List Int) × Int) a w,x5 = .go zz → S5 zz a w → K3 a w := by
  rintro ⟨start_0,out,x⟩ a w rfl ⟨p_1,c_1,hf,hc⟩
  replace hF := exK_go hF
  refine h3 _ _ ?_
  refine zS fun K h => sp 2 hf rfl fun a hf => zT h ?_
  refine wp_ret ?_
  obtain rfl := sj hF
  replace hc := hc.drop k1
  exact zO1 Tryz.results81 hf rfl ⟨p_1,c_1,rfl,hc⟩
 have ho5 : ∀ r,x5 = .out r → r = res := by
  rintro r rfl
  exact sj hF
 replace hc := hc.nilRow 3 1
 refine cLoop N (loopW (S := S5) (x := x5) ?_ N (start,([] : List Int),0) _ _ ⟨none,0,hf.kp rfl,hc⟩ hx5)
 clear hF hf hc
 rintro ⟨start_0,out,x⟩ st5 a w KB5 ⟨p_1,c_1,hf,hc⟩ hF hfin5 hK5
 unfold crew_begins_s2_b5 at hF
 refine zS fun K h => sp 1 hf rfl fun a hf => zT h ?_
 refine wp_seq_k fun K8 h8 => zI hf rfl hF ?_ ?_ <;> clear hF <;> intro hF
 ·refine wp_skip ?_
  refine h8 _ _ ?_
  refine wp_seq_k fun K9 h9 => wp_block ?_
  refine zS fun K h => ?_
  obtain ⟨e_1,he_1,hF⟩ := bnd_some hF
  obtain ⟨b_2,o,qa,qp⟩ := h_l.atm he_1
  refine zP hf rfl (pIA Tryz.underlying22 sz_31 rfl rfl qa) fun a hf => zE hf hc rfl (eLdN (vs := [i6 e_1.Way.Lo,i6 e_1.Way.Hi,i6 e_1.Work.Lo,i6 e_1.Work.Hi,i6 e_1.Open,i6 e_1.Close]) ag_31 rfl rfl (cells_pc qp (n := 6) (o' := 0) rfl)) fun a w hf hc => zA hf hc zr_31 rfl fun b_3 a w hf hc => zW hf hc sz_31 u0 rfl fun w hc => zT h ?_
  refine wp_seq_k fun K11 h11 => cQ hc follows_mx (by kernel_rfl) ?_
  refine qE hf rfl rfl rfl (Pu.ev (pM rfl)) fun a hf => qE hf rfl rfl rfl (Pu.ev (pFA fa_147_0 rfl)) fun a hf => qE hf rfl rfl rfl (eLd1 sc_145 rfl (cell_box m2 rfl)) fun a hf => qE hf rfl rfl rfl (Pu.ev (pFA fa_31_0 rfl)) fun a hf => qE hf rfl rfl rfl (eLdN (vs := [i6 e_1.Way.Lo,i6 e_1.Way.Hi]) ag_29 rfl rfl (cells_box (n := 2) m0 rfl)) fun a hf => qE hf rfl rfl rfl (eC (v := i6 (crew_high_1 e_1.Way)) (vs := [.agg #[i6 e_1.Way.Lo,i6 e_1.Way.Hi]]) (caps := []) en_156 rfl rfl rfl rfl (fun w hc => crew_high_1_ok e_1.Way hc rfl)) fun a hf => qE hf rfl rfl rfl (Pu.ev (pAdd rfl rfl)) fun a hf => qE hf rfl rfl rfl (Pu.ev (pFA fa_31_2 rfl)) fun a hf => qE hf rfl rfl rfl (eLd1 sc_3 rfl (cell_box m0 rfl)) fun a hf => qE hf rfl rfl rfl (Pu.ev (pMax2 rfl rfl)) fun a hf => qE hf rfl rfl rfl (Pu.ev (pA rfl)) fun a hf => ?_
  intro w hc
  refine h11 _ _ ?_
  refine zS fun K h => sp 2 hf rfl fun a hf => stBS (rows := ([max (W (start_0 + (crew_high_1 e_1.Way))) e_1.Open] : List Int).map encI_i64) (vs := [(0,i6 (max (W (start_0 + (crew_high_1 e_1.Way))) e_1.Open))]) hf hc rfl rfl sl_25 rfl ⟨rfl,rfl,rfl,trivial⟩ rfl rfl fun b_4 a w hf hc => ?_
  obtain ⟨un,hun,hF⟩ := bnd_some hF
  refine stApm (xs := out) (ys := ([max (W (start_0 + (crew_high_1 e_1.Way))) e_1.Open] : List Int)) hf hc rfl rfl sl_25 rfl rfl rfl rfl rfl one_encI_i64 (src_row hc m0) (fun _ _ => u2) (by simpa using room_spec hun) fun p_2 c_2 a w hf hc => sp 1 hf rfl fun a hf => zT h ?_
  refine cReg ?_
  refine sp 1 hf rfl fun a hf => zP hf rfl (pFA fa_147_0 rfl) fun a hf => zL hf hc sc_145 m3 rfl fun a w hf hc => zP hf rfl (pFA fa_31_1 rfl) fun a hf => zN hf hc ag_29 m1 rfl fun a w hf hc => zQ (v := i6 (crew_high_1 e_1.Work)) hf hc en_156 rfl (fun w hc => crew_high_1_ok e_1.Work hc rfl) fun a w hf hc => sp 2 hf rfl fun a hf => cNil ?_
  refine h9 _ _ ?_
  refine cReg ?_
  refine sp 2 hf rfl fun a hf => cNil ?_
  replace hc := (hc.drop k1).drop k0
  exact hK5 (W ((max (W (start_0 + (crew_high_1 e_1.Way))) e_1.Open) + (crew_high_1 e_1.Work)),(out ++ [max (W (start_0 + (crew_high_1 e_1.Way))) e_1.Open]),W (x + 1)) _ _ (sj hF).symm ⟨p_2,c_2,hf.kp rfl,hc⟩
 ·refine wp_exit ?_
  refine xThen ?_
  refine xThen ?_
  have he := sj hF
  rw [← he] at hfin5
  refine cHit ?_
  exact hr5 _ _ _ hfin5 ⟨p_1,c_1,hf.kp rfl,hc⟩

end Go.Nilo
