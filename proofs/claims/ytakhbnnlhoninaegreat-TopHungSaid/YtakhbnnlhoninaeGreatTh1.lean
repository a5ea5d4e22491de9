/-
 What functions of the Go text compute, as plain functions, and that they do, part 1 of 4. Conditions: what each theorem names.
-/
import Derived.Test.YtakhbnnlhoninaeGreatNl29
import Derived.Test.YtakhbnnlhoninaeGreatProg
set_option linter.unusedVariables false
set_option linter.unusedSimpArgs false
set_option maxRecDepth 100000
set_option maxHeartbeats 4000000
namespace Go.Nilo
open Go.Proofs


structure kit_Stream where
 bytes : List Int
 used : Int
 mix : Int

structure api_Span where
 Lo : Int
 Hi : Int
@[reducible] def enc_api_Span (x : api_Span) : List Value := [i6 x.Lo,i6 x.Hi]
theorem one_enc_api_Span : ∀ x,(enc_api_Span x).length = 2 ∧ ones (enc_api_Span x) = true := fun _ => ⟨rfl,rfl⟩

structure crew_Ride where
 From : Int
 Long : Int
 Weight : api_Span
@[reducible] def enc_crew_Ride (x : crew_Ride) : List Value := [i6 x.From,i6 x.Long,i6 x.Weight.Lo,i6 x.Weight.Hi]
theorem one_enc_crew_Ride : ∀ x,(enc_crew_Ride x).length = 4 ∧ ones (enc_crew_Ride x) = true := fun _ => ⟨rfl,rfl⟩

structure crew_Cable where
 Car : Int
 Wide : Int
 Sag : Int
 Most : Int
 Rides : List crew_Ride

structure gauge_Point where
 At : Int
 Depth : Int
 Cost : Int
@[reducible] def enc_gauge_Point (x : gauge_Point) : List Value := [i6 x.At,i6 x.Depth,i6 x.Cost]
theorem one_enc_gauge_Point : ∀ x,(enc_gauge_Point x).length = 3 ∧ ones (enc_gauge_Point x) = true := fun _ => ⟨rfl,rfl⟩

structure gauge_Site where
 Left : Int
 Right : Int
 Gap : Int
 Step_ : Int
 Points : List gauge_Point

structure gauge_spent where
 cost : Int
 points : Int
@[reducible] def enc_gauge_spent (x : gauge_spent) : List Value := [i6 x.cost,i6 x.points]
theorem one_enc_gauge_spent : ∀ x,(enc_gauge_spent x).length = 2 ∧ ones (enc_gauge_spent x) = true := fun _ => ⟨rfl,rfl⟩

structure gauge_work where
 Site : gauge_Site
 least : Nat → gauge_spent
 from_ : Int → Option Int

structure notes_Work where
 Of : List Int
 Base : Int
 Minutes : Int

structure notes_list where
 works : List notes_Work

structure notes_web where
 list : notes_list

structure crew_Station where
 Places : Int
 Order : List Int

structure crew_Roster where
 People : List (List Int)
 Stations : List crew_Station

structure crew_work where
 Roster : crew_Roster
 rank : Nat → Int

structure crew_Refusal where
 Person : Int
 Station : Int
@[reducible] def enc_crew_Refusal (x : crew_Refusal) : List Value := [i6 x.Person,i6 x.Station]
theorem one_enc_crew_Refusal : ∀ x,(enc_crew_Refusal x).length = 2 ∧ ones (enc_crew_Refusal x) = true := fun _ => ⟨rfl,rfl⟩

structure share_quotient where
 claim : Int
 by_ : Int
@[reducible] def enc_share_quotient (x : share_quotient) : List Value := [i6 x.claim,i6 x.by_]
theorem one_enc_share_quotient : ∀ x,(enc_share_quotient x).length = 2 ∧ ones (enc_share_quotient x) = true := fun _ => ⟨rfl,rfl⟩

theorem bt_53 : builtInfo Tryz.prog 53 = some ([.slice none 0 0,i6 0,i6 0],[(0,1),(1,1),(2,1)]) := by kernel_rfl

theorem en_4 : En Tryz.prog 4 := En.of Tryz.func4 (by kernel_rfl) (by kernel_rfl)

theorem zr_27 : (Tryz.prog.info? 27).map (·.zero) = some (some (.agg #[i6 0,i6 0,i6 0,i6 0,.slice none 0 0])) := by kernel_rfl

theorem fa_53_0 : ∀ (q : Addr) (w : World),(Instr.fieldAt 53 (.pointer (some q)) 0).run Tryz.prog w = .ok (.pointer (some (q.add 0))) w := fun _ _ => by kernel_rfl

theorem sc_22 : ScT Tryz.prog 22 := ⟨⟨_,Tryz.underlying22,trivial⟩,by kernel_rfl⟩

theorem fa_53_1 : ∀ (q : Addr) (w : World),(Instr.fieldAt 53 (.pointer (some q)) 1).run Tryz.prog w = .ok (.pointer (some (q.add 1))) w := fun _ _ => by kernel_rfl

theorem sc_3 : ScT Tryz.prog 3 := ⟨⟨_,Tryz.underlying3,trivial⟩,by kernel_rfl⟩

theorem sz_5 : (Tryz.prog.info? 5).map (·.size) = some 1 := by kernel_rfl

theorem sc_5 : ScT Tryz.prog 5 := ⟨⟨_,Tryz.underlying5,trivial⟩,by kernel_rfl⟩

theorem follows_mx : Tryz.prog.follows .mixedOrders = true := by kernel_rfl

theorem fa_53_2 : ∀ (q : Addr) (w : World),(Instr.fieldAt 53 (.pointer (some q)) 2).run Tryz.prog w = .ok (.pointer (some (q.add 2))) w := fun _ _ => by kernel_rfl

theorem sz_3 : (Tryz.prog.info? 3).map (·.size) = some 1 := by kernel_rfl

theorem en_11 : En Tryz.prog 11 := En.of Tryz.func11 (by kernel_rfl) (by kernel_rfl)

theorem en_6 : En Tryz.prog 6 := En.of Tryz.func6 (by kernel_rfl) (by kernel_rfl)

theorem bt_27 : builtInfo Tryz.prog 27 = some ([i6 0,i6 0,i6 0,i6 0,.slice none 0 0],[(0,1),(1,1),(2,1),(3,1),(4,1)]) := by kernel_rfl

theorem sz_27 : (Tryz.prog.info? 27).map (·.size) = some 5 := by kernel_rfl

theorem fa_27_0 : ∀ (q : Addr) (w : World),(Instr.fieldAt 27 (.pointer (some q)) 0).run Tryz.prog w = .ok (.pointer (some (q.add 0))) w := fun _ _ => by kernel_rfl

theorem fa_27_1 : ∀ (q : Addr) (w : World),(Instr.fieldAt 27 (.pointer (some q)) 1).run Tryz.prog w = .ok (.pointer (some (q.add 1))) w := fun _ _ => by kernel_rfl

theorem fa_27_2 : ∀ (q : Addr) (w : World),(Instr.fieldAt 27 (.pointer (some q)) 2).run Tryz.prog w = .ok (.pointer (some (q.add 2))) w := fun _ _ => by kernel_rfl

theorem fa_27_3 : ∀ (q : Addr) (w : World),(Instr.fieldAt 27 (.pointer (some q)) 3).run Tryz.prog w = .ok (.pointer (some (q.add 3))) w := fun _ _ => by kernel_rfl

theorem fa_27_4 : ∀ (q : Addr) (w : World),(Instr.fieldAt 27 (.pointer (some q)) 4).run Tryz.prog w = .ok (.pointer (some (q.add 4))) w := fun _ _ => by kernel_rfl

theorem sc_25 : ScT Tryz.prog 25 := ⟨⟨_,Tryz.underlying25,trivial⟩,by kernel_rfl⟩

theorem zr_43 : (Tryz.prog.info? 43).map (·.zero) = some (some (.agg #[i6 0,i6 0])) := by kernel_rfl

theorem bt_43 : builtInfo Tryz.prog 43 = some ([i6 0,i6 0],[(0,1),(1,1)]) := by kernel_rfl

theorem sz_43 : (Tryz.prog.info? 43).map (·.size) = some 2 := by kernel_rfl

theorem ag_43 : AggT Tryz.prog 43 2 := ⟨⟨_,Tryz.underlying43,trivial⟩,by kernel_rfl⟩

theorem en_15 : En Tryz.prog 15 := En.of Tryz.func15 (by kernel_rfl) (by kernel_rfl)

theorem bt_45 : builtInfo Tryz.prog 45 = some ([i6 0,i6 0,i6 0,i6 0],[(0,1),(1,1),(2,2)]) := by kernel_rfl

theorem sl_25 : SlT Tryz.prog 25 45 4 32 (.agg #[i6 0,i6 0,i6 0,i6 0]) := SlT.of Tryz.underlying25 (by kernel_rfl) (by decide)

theorem sz_25 : (Tryz.prog.info? 25).map (·.size) = some 1 := by kernel_rfl

theorem ag_27 : AggT Tryz.prog 27 5 := ⟨⟨_,Tryz.underlying27,trivial⟩,by kernel_rfl⟩

theorem en_5 : En Tryz.prog 5 := En.of Tryz.func5 (by kernel_rfl) (by kernel_rfl)

theorem en_16 : En Tryz.prog 16 := En.of Tryz.func16 (by kernel_rfl) (by kernel_rfl)

theorem en_7 : En Tryz.prog 7 := En.of Tryz.func7 (by kernel_rfl) (by kernel_rfl)

theorem zr_33 : (Tryz.prog.info? 33).map (·.zero) = some (some (.agg #[i6 0,i6 0,i6 0,i6 0,.slice none 0 0])) := by kernel_rfl

theorem bt_33 : builtInfo Tryz.prog 33 = some ([i6 0,i6 0,i6 0,i6 0,.slice none 0 0],[(0,1),(1,1),(2,1),(3,1),(4,1)]) := by kernel_rfl

theorem sz_33 : (Tryz.prog.info? 33).map (·.size) = some 5 := by kernel_rfl

theorem fa_33_0 : ∀ (q : Addr) (w : World),(Instr.fieldAt 33 (.pointer (some q)) 0).run Tryz.prog w = .ok (.pointer (some (q.add 0))) w := fun _ _ => by kernel_rfl

theorem fa_33_4 : ∀ (q : Addr) (w : World),(Instr.fieldAt 33 (.pointer (some q)) 4).run Tryz.prog w = .ok (.pointer (some (q.add 4))) w := fun _ _ => by kernel_rfl

theorem sc_31 : ScT Tryz.prog 31 := ⟨⟨_,Tryz.underlying31,trivial⟩,by kernel_rfl⟩

theorem bt_57 : builtInfo Tryz.prog 57 = some ([i6 0,i6 0,i6 0],[(0,1),(1,1),(2,1)]) := by kernel_rfl

theorem sl_31 : SlT Tryz.prog 31 57 3 24 (.agg #[i6 0,i6 0,i6 0]) := SlT.of Tryz.underlying31 (by kernel_rfl) (by decide)

theorem sz_31 : (Tryz.prog.info? 31).map (·.size) = some 1 := by kernel_rfl

theorem fa_33_1 : ∀ (q : Addr) (w : World),(Instr.fieldAt 33 (.pointer (some q)) 1).run Tryz.prog w = .ok (.pointer (some (q.add 1))) w := fun _ _ => by kernel_rfl

theorem ag_33 : AggT Tryz.prog 33 5 := ⟨⟨_,Tryz.underlying33,trivial⟩,by kernel_rfl⟩

theorem en_8 : En Tryz.prog 8 := En.of Tryz.func8 (by kernel_rfl) (by kernel_rfl)

theorem fa_33_2 : ∀ (q : Addr) (w : World),(Instr.fieldAt 33 (.pointer (some q)) 2).run Tryz.prog w = .ok (.pointer (some (q.add 2))) w := fun _ _ => by kernel_rfl

theorem fa_33_3 : ∀ (q : Addr) (w : World),(Instr.fieldAt 33 (.pointer (some q)) 3).run Tryz.prog w = .ok (.pointer (some (q.add 3))) w := fun _ _ => by kernel_rfl

theorem en_23 : En Tryz.prog 23 := En.of Tryz.func23 (by kernel_rfl) (by kernel_rfl)

theorem en_50 : En Tryz.prog 50 := En.of Tryz.func50 (by kernel_rfl) (by kernel_rfl)

theorem sz_57 : (Tryz.prog.info? 57).map (·.size) = some 3 := by kernel_rfl

theorem ag_57 : AggT Tryz.prog 57 3 := ⟨⟨_,Tryz.underlying57,trivial⟩,by kernel_rfl⟩

theorem sc_102 : ScT Tryz.prog 102 := ⟨⟨_,Tryz.underlying102,trivial⟩,by kernel_rfl⟩

theorem fa_57_0 : ∀ (q : Addr) (w : World),(Instr.fieldAt 57 (.pointer (some q)) 0).run Tryz.prog w = .ok (.pointer (some (q.add 0))) w := fun _ _ => by kernel_rfl

theorem fa_57_1 : ∀ (q : Addr) (w : World),(Instr.fieldAt 57 (.pointer (some q)) 1).run Tryz.prog w = .ok (.pointer (some (q.add 1))) w := fun _ _ => by kernel_rfl

theorem fa_57_2 : ∀ (q : Addr) (w : World),(Instr.fieldAt 57 (.pointer (some q)) 2).run Tryz.prog w = .ok (.pointer (some (q.add 2))) w := fun _ _ => by kernel_rfl

theorem en_52 : En Tryz.prog 52 := En.of Tryz.func52 (by kernel_rfl) (by kernel_rfl)

theorem en_77 : En Tryz.prog 77 := En.of Tryz.func77 (by kernel_rfl) (by kernel_rfl)

theorem en_95 : En Tryz.prog 95 := En.of Tryz.func95 (by kernel_rfl) (by kernel_rfl)

theorem en_76 : En Tryz.prog 76 := En.of Tryz.func76 (by kernel_rfl) (by kernel_rfl)

theorem en_51 : En Tryz.prog 51 := En.of Tryz.func51 (by kernel_rfl) (by kernel_rfl)

theorem en_53 : En Tryz.prog 53 := En.of Tryz.func53 (by kernel_rfl) (by kernel_rfl)

theorem en_24 : En Tryz.prog 24 := En.of Tryz.func24 (by kernel_rfl) (by kernel_rfl)

theorem en_20 : En Tryz.prog 20 := En.of Tryz.func20 (by kernel_rfl) (by kernel_rfl)

theorem bt_66 : builtInfo Tryz.prog 66 = some ((catc [i6 0,i6 0,i6 0,i6 0,.slice none 0 0] 32 enc_gauge_spent (fun _ => (⟨0,0⟩ : gauge_spent)) [.map none]),[(0,5),(5,64),(69,1)]) := by kernel_rfl

theorem zr_62 : (Tryz.prog.info? 62).map (·.zero) = some (some (.agg #[i6 0,i6 0])) := by kernel_rfl

theorem bt_62 : builtInfo Tryz.prog 62 = some ([i6 0,i6 0],[(0,1),(1,1)]) := by kernel_rfl

theorem sz_62 : (Tryz.prog.info? 62).map (·.size) = some 2 := by kernel_rfl

theorem ag_62 : AggT Tryz.prog 62 2 := ⟨⟨_,Tryz.underlying62,trivial⟩,by kernel_rfl⟩

theorem en_18 : En Tryz.prog 18 := En.of Tryz.func18 (by kernel_rfl) (by kernel_rfl)

theorem fa_66_1 : ∀ (q : Addr) (w : World),(Instr.fieldAt 66 (.pointer (some q)) 1).run Tryz.prog w = .ok (.pointer (some (q.add 5))) w := fun _ _ => by kernel_rfl

theorem zr_57 : (Tryz.prog.info? 57).map (·.zero) = some (some (.agg #[i6 0,i6 0,i6 0])) := by kernel_rfl

theorem fa_66_0 : ∀ (q : Addr) (w : World),(Instr.fieldAt 66 (.pointer (some q)) 0).run Tryz.prog w = .ok (.pointer (some (q.add 0))) w := fun _ _ => by kernel_rfl

theorem en_28 : En Tryz.prog 28 := En.of Tryz.func28 (by kernel_rfl) (by kernel_rfl)

theorem en_26 : En Tryz.prog 26 := En.of Tryz.func26 (by kernel_rfl) (by kernel_rfl)

theorem ge_62 : Tryz.prog.eqGuardType Tryz.prog.depth 62 = false := by kernel_rfl

theorem eqs_62 (x0 : Int) (x1 : Int) (y0 : Int) (y1 : Int) (w : World) : (Op.equalIn 10000 62 (.agg #[i6 x0,i6 x1]) (.agg #[i6 y0,i6 y1])).run Tryz.prog w = .ok (x0 == y0 && x1 == y1) w := by
 rw [run_equalIn_agg w 9999 62 _ _ (by kernel_rfl) (by kernel_rfl)]
 simp [Op.eqFields,part,go_sem]
 repeat' split
 all_goals simp_all

theorem fa_62_0 : ∀ (q : Addr) (w : World),(Instr.fieldAt 62 (.pointer (some q)) 0).run Tryz.prog w = .ok (.pointer (some (q.add 0))) w := fun _ _ => by kernel_rfl

theorem fa_62_1 : ∀ (q : Addr) (w : World),(Instr.fieldAt 62 (.pointer (some q)) 1).run Tryz.prog w = .ok (.pointer (some (q.add 1))) w := fun _ _ => by kernel_rfl

theorem en_94 : En Tryz.prog 94 := En.of Tryz.func94 (by kernel_rfl) (by kernel_rfl)

theorem en_75 : En Tryz.prog 75 := En.of Tryz.func75 (by kernel_rfl) (by kernel_rfl)

theorem sl_35 : SlT Tryz.prog 35 3 1 8 (i6 0) := SlT.of Tryz.underlying35 (by kernel_rfl) (by decide)

theorem en_74 : En Tryz.prog 74 := En.of Tryz.func74 (by kernel_rfl) (by kernel_rfl)

theorem fa_66_2 : ∀ (q : Addr) (w : World),(Instr.fieldAt 66 (.pointer (some q)) 2).run Tryz.prog w = .ok (.pointer (some (q.add 69))) w := fun _ _ => by kernel_rfl

theorem sc_64 : ScT Tryz.prog 64 := ⟨⟨_,Tryz.underlying64,trivial⟩,by kernel_rfl⟩

theorem zr_3 : (Tryz.prog.info? 3).map (·.zero) = some (some (i6 0)) := by kernel_rfl

theorem en_49 : En Tryz.prog 49 := En.of Tryz.func49 (by kernel_rfl) (by kernel_rfl)

theorem en_17 : En Tryz.prog 17 := En.of Tryz.func17 (by kernel_rfl) (by kernel_rfl)

theorem zr_58 : (Tryz.prog.info? 58).map (·.zero) = some (some (.pointer none)) := by kernel_rfl

theorem sz_58 : (Tryz.prog.info? 58).map (·.size) = some 1 := by kernel_rfl

theorem sc_58 : ScT Tryz.prog 58 := ⟨⟨_,Tryz.underlying58,trivial⟩,by kernel_rfl⟩

theorem zr_35 : (Tryz.prog.info? 35).map (·.zero) = some (some (.slice none 0 0)) := by kernel_rfl

theorem zr_68 : (Tryz.prog.info? 68).map (·.zero) = some (some (.nilFunc)) := by kernel_rfl

theorem sz_68 : (Tryz.prog.info? 68).map (·.size) = some 1 := by kernel_rfl

theorem sc_68 : ScT Tryz.prog 68 := ⟨⟨_,Tryz.underlying68,trivial⟩,by kernel_rfl⟩

theorem sc_35 : ScT Tryz.prog 35 := ⟨⟨_,Tryz.underlying35,trivial⟩,by kernel_rfl⟩

theorem sz_35 : (Tryz.prog.info? 35).map (·.size) = some 1 := by kernel_rfl

theorem en_19 : En Tryz.prog 19 := En.of Tryz.func19 (by kernel_rfl) (by kernel_rfl)

theorem en_9 : En Tryz.prog 9 := En.of Tryz.func9 (by kernel_rfl) (by kernel_rfl)

theorem sc_72 : ScT Tryz.prog 72 := ⟨⟨_,Tryz.underlying72,trivial⟩,by kernel_rfl⟩

theorem en_22 : En Tryz.prog 22 := En.of Tryz.func22 (by kernel_rfl) (by kernel_rfl)

theorem en_55 : En Tryz.prog 55 := En.of Tryz.func55 (by kernel_rfl) (by kernel_rfl)

theorem en_38 : En Tryz.prog 38 := En.of Tryz.func38 (by kernel_rfl) (by kernel_rfl)

theorem en_54 : En Tryz.prog 54 := En.of Tryz.func54 (by kernel_rfl) (by kernel_rfl)

theorem en_21 : En Tryz.prog 21 := En.of Tryz.func21 (by kernel_rfl) (by kernel_rfl)

theorem en_25 : En Tryz.prog 25 := En.of Tryz.func25 (by kernel_rfl) (by kernel_rfl)

theorem en_27 : En Tryz.prog 27 := En.of Tryz.func27 (by kernel_rfl) (by kernel_rfl)

theorem en_10 : En Tryz.prog 10 := En.of Tryz.func10 (by kernel_rfl) (by kernel_rfl)

theorem zr_45 : (Tryz.prog.info? 45).map (·.zero) = some (some (.agg #[i6 0,i6 0,i6 0,i6 0])) := by kernel_rfl

theorem sz_45 : (Tryz.prog.info? 45).map (·.size) = some 4 := by kernel_rfl

theorem ag_45 : AggT Tryz.prog 45 4 := ⟨⟨_,Tryz.underlying45,trivial⟩,by kernel_rfl⟩

theorem fa_45_1 : ∀ (q : Addr) (w : World),(Instr.fieldAt 45 (.pointer (some q)) 1).run Tryz.prog w = .ok (.pointer (some (q.add 1))) w := fun _ _ => by kernel_rfl

theorem en_56 : En Tryz.prog 56 := En.of Tryz.func56 (by kernel_rfl) (by kernel_rfl)

theorem sc_79 : ScT Tryz.prog 79 := ⟨⟨_,Tryz.underlying79,trivial⟩,by kernel_rfl⟩

theorem fa_45_0 : ∀ (q : Addr) (w : World),(Instr.fieldAt 45 (.pointer (some q)) 0).run Tryz.prog w = .ok (.pointer (some (q.add 0))) w := fun _ _ => by kernel_rfl

theorem en_58 : En Tryz.prog 58 := En.of Tryz.func58 (by kernel_rfl) (by kernel_rfl)

theorem fa_45_2 : ∀ (q : Addr) (w : World),(Instr.fieldAt 45 (.pointer (some q)) 2).run Tryz.prog w = .ok (.pointer (some (q.add 2))) w := fun _ _ => by kernel_rfl

theorem fa_43_0 : ∀ (q : Addr) (w : World),(Instr.fieldAt 43 (.pointer (some q)) 0).run Tryz.prog w = .ok (.pointer (some (q.add 0))) w := fun _ _ => by kernel_rfl

theorem fa_43_1 : ∀ (q : Addr) (w : World),(Instr.fieldAt 43 (.pointer (some q)) 1).run Tryz.prog w = .ok (.pointer (some (q.add 1))) w := fun _ _ => by kernel_rfl

theorem en_57 : En Tryz.prog 57 := En.of Tryz.func57 (by kernel_rfl) (by kernel_rfl)

theorem en_60 : En Tryz.prog 60 := En.of Tryz.func60 (by kernel_rfl) (by kernel_rfl)

theorem en_78 : En Tryz.prog 78 := En.of Tryz.func78 (by kernel_rfl) (by kernel_rfl)

theorem en_59 : En Tryz.prog 59 := En.of Tryz.func59 (by kernel_rfl) (by kernel_rfl)

theorem en_31 : En Tryz.prog 31 := En.of Tryz.func31 (by kernel_rfl) (by kernel_rfl)

theorem en_29 : En Tryz.prog 29 := En.of Tryz.func29 (by kernel_rfl) (by kernel_rfl)

theorem en_30 : En Tryz.prog 30 := En.of Tryz.func30 (by kernel_rfl) (by kernel_rfl)

theorem en_32 : En Tryz.prog 32 := En.of Tryz.func32 (by kernel_rfl) (by kernel_rfl)

theorem en_33 : En Tryz.prog 33 := En.of Tryz.func33 (by kernel_rfl) (by kernel_rfl)

theorem zr_83 : (Tryz.prog.info? 83).map (·.zero) = some (some (.agg #[.nilFunc])) := by kernel_rfl

theorem bt_83 : builtInfo Tryz.prog 83 = some ([.nilFunc],[(0,1)]) := by kernel_rfl

theorem sz_83 : (Tryz.prog.info? 83).map (·.size) = some 1 := by kernel_rfl

theorem ag_83 : AggT Tryz.prog 83 1 := ⟨⟨_,Tryz.underlying83,trivial⟩,by kernel_rfl⟩

theorem en_41 : En Tryz.prog 41 := En.of Tryz.func41 (by kernel_rfl) (by kernel_rfl)

theorem en_35 : En Tryz.prog 35 := En.of Tryz.func35 (by kernel_rfl) (by kernel_rfl)

theorem fa_83_0 : ∀ (q : Addr) (w : World),(Instr.fieldAt 83 (.pointer (some q)) 0).run Tryz.prog w = .ok (.pointer (some (q.add 0))) w := fun _ _ => by kernel_rfl

theorem sc_81 : ScT Tryz.prog 81 := ⟨⟨_,Tryz.underlying81,trivial⟩,by kernel_rfl⟩

theorem en_64 : En Tryz.prog 64 := En.of Tryz.func64 (by kernel_rfl) (by kernel_rfl)

theorem en_63 : En Tryz.prog 63 := En.of Tryz.func63 (by kernel_rfl) (by kernel_rfl)

theorem en_40 : En Tryz.prog 40 := En.of Tryz.func40 (by kernel_rfl) (by kernel_rfl)

theorem en_34 : En Tryz.prog 34 := En.of Tryz.func34 (by kernel_rfl) (by kernel_rfl)

theorem en_12 : En Tryz.prog 12 := En.of Tryz.func12 (by kernel_rfl) (by kernel_rfl)

theorem en_61 : En Tryz.prog 61 := En.of Tryz.func61 (by kernel_rfl) (by kernel_rfl)

theorem en_62 : En Tryz.prog 62 := En.of Tryz.func62 (by kernel_rfl) (by kernel_rfl)

theorem en_36 : En Tryz.prog 36 := En.of Tryz.func36 (by kernel_rfl) (by kernel_rfl)

theorem en_39 : En Tryz.prog 39 := En.of Tryz.func39 (by kernel_rfl) (by kernel_rfl)

theorem en_37 : En Tryz.prog 37 := En.of Tryz.func37 (by kernel_rfl) (by kernel_rfl)

theorem en_42 : En Tryz.prog 42 := En.of Tryz.func42 (by kernel_rfl) (by kernel_rfl)

theorem en_65 : En Tryz.prog 65 := En.of Tryz.func65 (by kernel_rfl) (by kernel_rfl)

theorem en_13 : En Tryz.prog 13 := En.of Tryz.func13 (by kernel_rfl) (by kernel_rfl)

theorem bt_110 : builtInfo Tryz.prog 110 = some ([.slice none 0 0,i6 0,i6 0],[(0,1),(1,1),(2,1)]) := by kernel_rfl

@[reducible] def kd_110 : Kd notes_Work := Kd.comp (kL encI_i64 3 1) (fun x => x.Of) (fun h x => [.slice h.1 x.Of.length h.2,i6 x.Base,i6 x.Minutes])
theorem kdo_110 : KdOk kd_110 := KdOk.comp (kL_ok _ _ _) _ _
theorem one_kd_110 : ∀ r,(kd_110.v r).length = 3 ∧ ones (kd_110.v r) = true := fun _ => ⟨rfl,rfl⟩

theorem sl_89 : SlT Tryz.prog 89 110 3 40 (.agg #[.slice none 0 0,i6 0,i6 0]) := SlT.of Tryz.underlying89 (by kernel_rfl) (by decide)

theorem en_44 : En Tryz.prog 44 := En.of Tryz.func44 (by kernel_rfl) (by kernel_rfl)

theorem zr_106 : (Tryz.prog.info? 106).map (·.zero) = some (some (.agg (catc [] 30 encB (fun _ => false) []).toArray)) := by kernel_rfl

theorem sc_89 : ScT Tryz.prog 89 := ⟨⟨_,Tryz.underlying89,trivial⟩,by kernel_rfl⟩

theorem en_111 : En Tryz.prog 111 := En.of Tryz.func111 (by kernel_rfl) (by kernel_rfl)

theorem sz_110 : (Tryz.prog.info? 110).map (·.size) = some 3 := by kernel_rfl

theorem ag_110 : AggT Tryz.prog 110 3 := ⟨⟨_,Tryz.underlying110,trivial⟩,by kernel_rfl⟩

theorem sc_181 : ScT Tryz.prog 181 := ⟨⟨_,Tryz.underlying181,trivial⟩,by kernel_rfl⟩

theorem fa_110_0 : ∀ (q : Addr) (w : World),(Instr.fieldAt 110 (.pointer (some q)) 0).run Tryz.prog w = .ok (.pointer (some (q.add 0))) w := fun _ _ => by kernel_rfl

theorem en_132 : En Tryz.prog 132 := En.of Tryz.func132 (by kernel_rfl) (by kernel_rfl)

theorem en_145 : En Tryz.prog 145 := En.of Tryz.func145 (by kernel_rfl) (by kernel_rfl)

theorem en_148 : En Tryz.prog 148 := En.of Tryz.func148 (by kernel_rfl) (by kernel_rfl)

theorem en_144 : En Tryz.prog 144 := En.of Tryz.func144 (by kernel_rfl) (by kernel_rfl)

theorem en_131 : En Tryz.prog 131 := En.of Tryz.func131 (by kernel_rfl) (by kernel_rfl)

theorem zr_110 : (Tryz.prog.info? 110).map (·.zero) = some (some (.agg #[.slice none 0 0,i6 0,i6 0])) := by kernel_rfl

theorem fa_110_1 : ∀ (q : Addr) (w : World),(Instr.fieldAt 110 (.pointer (some q)) 1).run Tryz.prog w = .ok (.pointer (some (q.add 1))) w := fun _ _ => by kernel_rfl

theorem fa_110_2 : ∀ (q : Addr) (w : World),(Instr.fieldAt 110 (.pointer (some q)) 2).run Tryz.prog w = .ok (.pointer (some (q.add 2))) w := fun _ _ => by kernel_rfl

theorem en_133 : En Tryz.prog 133 := En.of Tryz.func133 (by kernel_rfl) (by kernel_rfl)

theorem en_135 : En Tryz.prog 135 := En.of Tryz.func135 (by kernel_rfl) (by kernel_rfl)

theorem en_109 : En Tryz.prog 109 := En.of Tryz.func109 (by kernel_rfl) (by kernel_rfl)

theorem en_86 : En Tryz.prog 86 := En.of Tryz.func86 (by kernel_rfl) (by kernel_rfl)

theorem en_83 : En Tryz.prog 83 := En.of Tryz.func83 (by kernel_rfl) (by kernel_rfl)

theorem en_107 : En Tryz.prog 107 := En.of Tryz.func107 (by kernel_rfl) (by kernel_rfl)

theorem bt_163 : builtInfo Tryz.prog 163 = some ([.slice none 0 0],[(0,1)]) := by kernel_rfl

theorem bt_165 : builtInfo Tryz.prog 165 = some ([.slice none 0 0],[(0,1)]) := by kernel_rfl

theorem fa_165_0 : ∀ (q : Addr) (w : World),(Instr.fieldAt 165 (.pointer (some q)) 0).run Tryz.prog w = .ok (.pointer (some (q.add 0))) w := fun _ _ => by kernel_rfl

theorem fa_163_0 : ∀ (q : Addr) (w : World),(Instr.fieldAt 163 (.pointer (some q)) 0).run Tryz.prog w = .ok (.pointer (some (q.add 0))) w := fun _ _ => by kernel_rfl

theorem en_134 : En Tryz.prog 134 := En.of Tryz.func134 (by kernel_rfl) (by kernel_rfl)

theorem en_108 : En Tryz.prog 108 := En.of Tryz.func108 (by kernel_rfl) (by kernel_rfl)

theorem en_81 : En Tryz.prog 81 := En.of Tryz.func81 (by kernel_rfl) (by kernel_rfl)

theorem en_110 : En Tryz.prog 110 := En.of Tryz.func110 (by kernel_rfl) (by kernel_rfl)

theorem en_82 : En Tryz.prog 82 := En.of Tryz.func82 (by kernel_rfl) (by kernel_rfl)

@[reducible] def encA_106 (x : Nat → Bool) : List Value := catc [] 30 encB x []
theorem one_encA_106 : ∀ x,(encA_106 x).length = 30 ∧ ones (encA_106 x) = true := fun x => ⟨(catc_one one_encB 30 x).1.trans (by decide),(catc_one one_encB 30 x).2⟩

theorem ag_106 : AggT Tryz.prog 106 30 := ⟨⟨_,Tryz.underlying106,trivial⟩,by kernel_rfl⟩

theorem sz_106 : (Tryz.prog.info? 106).map (·.size) = some 30 := by kernel_rfl

theorem sz_4 : (Tryz.prog.info? 4).map (·.size) = some 1 := by kernel_rfl

theorem sc_4 : ScT Tryz.prog 4 := ⟨⟨_,Tryz.underlying4,trivial⟩,by kernel_rfl⟩

theorem en_84 : En Tryz.prog 84 := En.of Tryz.func84 (by kernel_rfl) (by kernel_rfl)

theorem en_66 : En Tryz.prog 66 := En.of Tryz.func66 (by kernel_rfl) (by kernel_rfl)

theorem en_43 : En Tryz.prog 43 := En.of Tryz.func43 (by kernel_rfl) (by kernel_rfl)

theorem zr_95 : (Tryz.prog.info? 95).map (·.zero) = some (some (.agg #[.slice none 0 0,.slice none 0 0])) := by kernel_rfl

@[reducible] def kd_35 : Kd (List Int) := kL encI_i64 3 1
theorem kdo_35 : KdOk kd_35 := kL_ok _ _ _
theorem one_kd_35 : ∀ r,(kd_35.v r).length = 1 ∧ ones (kd_35.v r) = true := fun _ => ⟨rfl,rfl⟩

theorem sl_92 : SlT Tryz.prog 92 35 1 24 (.slice none 0 0) := SlT.of Tryz.underlying92 (by kernel_rfl) (by decide)

theorem bt_118 : builtInfo Tryz.prog 118 = some ([i6 0,.slice none 0 0],[(0,1),(1,1)]) := by kernel_rfl

@[reducible] def kd_118 : Kd crew_Station := Kd.comp (kL encI_i64 3 1) (fun x => x.Order) (fun h x => [i6 x.Places,.slice h.1 x.Order.length h.2])
theorem kdo_118 : KdOk kd_118 := KdOk.comp (kL_ok _ _ _) _ _
theorem one_kd_118 : ∀ r,(kd_118.v r).length = 2 ∧ ones (kd_118.v r) = true := fun _ => ⟨rfl,rfl⟩

theorem sl_93 : SlT Tryz.prog 93 118 2 32 (.agg #[i6 0,.slice none 0 0]) := SlT.of Tryz.underlying93 (by kernel_rfl) (by decide)

theorem bt_95 : builtInfo Tryz.prog 95 = some ([.slice none 0 0,.slice none 0 0],[(0,1),(1,1)]) := by kernel_rfl

theorem sz_95 : (Tryz.prog.info? 95).map (·.size) = some 2 := by kernel_rfl

theorem ag_95 : AggT Tryz.prog 95 2 := ⟨⟨_,Tryz.underlying95,trivial⟩,by kernel_rfl⟩

theorem en_46 : En Tryz.prog 46 := En.of Tryz.func46 (by kernel_rfl) (by kernel_rfl)

theorem fa_95_0 : ∀ (q : Addr) (w : World),(Instr.fieldAt 95 (.pointer (some q)) 0).run Tryz.prog w = .ok (.pointer (some (q.add 0))) w := fun _ _ => by kernel_rfl

theorem sc_92 : ScT Tryz.prog 92 := ⟨⟨_,Tryz.underlying92,trivial⟩,by kernel_rfl⟩

theorem fa_95_1 : ∀ (q : Addr) (w : World),(Instr.fieldAt 95 (.pointer (some q)) 1).run Tryz.prog w = .ok (.pointer (some (q.add 1))) w := fun _ _ => by kernel_rfl

theorem sc_93 : ScT Tryz.prog 93 := ⟨⟨_,Tryz.underlying93,trivial⟩,by kernel_rfl⟩

theorem sc_168 : ScT Tryz.prog 168 := ⟨⟨_,Tryz.underlying168,trivial⟩,by kernel_rfl⟩

theorem en_115 : En Tryz.prog 115 := En.of Tryz.func115 (by kernel_rfl) (by kernel_rfl)

theorem en_138 : En Tryz.prog 138 := En.of Tryz.func138 (by kernel_rfl) (by kernel_rfl)

theorem en_114 : En Tryz.prog 114 := En.of Tryz.func114 (by kernel_rfl) (by kernel_rfl)

theorem en_113 : En Tryz.prog 113 := En.of Tryz.func113 (by kernel_rfl) (by kernel_rfl)

theorem en_137 : En Tryz.prog 137 := En.of Tryz.func137 (by kernel_rfl) (by kernel_rfl)

theorem en_146 : En Tryz.prog 146 := En.of Tryz.func146 (by kernel_rfl) (by kernel_rfl)

theorem en_136 : En Tryz.prog 136 := En.of Tryz.func136 (by kernel_rfl) (by kernel_rfl)

theorem en_112 : En Tryz.prog 112 := En.of Tryz.func112 (by kernel_rfl) (by kernel_rfl)

theorem sz_118 : (Tryz.prog.info? 118).map (·.size) = some 2 := by kernel_rfl

theorem ag_118 : AggT Tryz.prog 118 2 := ⟨⟨_,Tryz.underlying118,trivial⟩,by kernel_rfl⟩

theorem sc_170 : ScT Tryz.prog 170 := ⟨⟨_,Tryz.underlying170,trivial⟩,by kernel_rfl⟩

theorem fa_118_0 : ∀ (q : Addr) (w : World),(Instr.fieldAt 118 (.pointer (some q)) 0).run Tryz.prog w = .ok (.pointer (some (q.add 0))) w := fun _ _ => by kernel_rfl

theorem fa_118_1 : ∀ (q : Addr) (w : World),(Instr.fieldAt 118 (.pointer (some q)) 1).run Tryz.prog w = .ok (.pointer (some (q.add 1))) w := fun _ _ => by kernel_rfl

theorem en_118 : En Tryz.prog 118 := En.of Tryz.func118 (by kernel_rfl) (by kernel_rfl)

theorem en_117 : En Tryz.prog 117 := En.of Tryz.func117 (by kernel_rfl) (by kernel_rfl)

theorem en_140 : En Tryz.prog 140 := En.of Tryz.func140 (by kernel_rfl) (by kernel_rfl)

theorem en_147 : En Tryz.prog 147 := En.of Tryz.func147 (by kernel_rfl) (by kernel_rfl)

theorem en_139 : En Tryz.prog 139 := En.of Tryz.func139 (by kernel_rfl) (by kernel_rfl)

theorem en_116 : En Tryz.prog 116 := En.of Tryz.func116 (by kernel_rfl) (by kernel_rfl)

theorem en_119 : En Tryz.prog 119 := En.of Tryz.func119 (by kernel_rfl) (by kernel_rfl)

theorem en_120 : En Tryz.prog 120 := En.of Tryz.func120 (by kernel_rfl) (by kernel_rfl)

theorem en_85 : En Tryz.prog 85 := En.of Tryz.func85 (by kernel_rfl) (by kernel_rfl)

theorem bt_136 : builtInfo Tryz.prog 136 = some ((catc [.slice none 0 0,.slice none 0 0] 144 encI_i64 (fun _ => 0) []),[(0,2),(2,144)]) := by kernel_rfl

theorem zr_118 : (Tryz.prog.info? 118).map (·.zero) = some (some (.agg #[i6 0,.slice none 0 0])) := by kernel_rfl

theorem fa_136_1 : ∀ (q : Addr) (w : World),(Instr.fieldAt 136 (.pointer (some q)) 1).run Tryz.prog w = .ok (.pointer (some (q.add 2))) w := fun _ _ => by kernel_rfl

theorem sz_133 : (Tryz.prog.info? 133).map (·.size) = some 12 := by kernel_rfl

theorem en_67 : En Tryz.prog 67 := En.of Tryz.func67 (by kernel_rfl) (by kernel_rfl)

theorem sc_111 : ScT Tryz.prog 111 := ⟨⟨_,Tryz.underlying111,trivial⟩,by kernel_rfl⟩

theorem fa_136_0 : ∀ (q : Addr) (w : World),(Instr.fieldAt 136 (.pointer (some q)) 0).run Tryz.prog w = .ok (.pointer (some (q.add 0))) w := fun _ _ => by kernel_rfl

@[reducible] def kd_139 : Kd (Option (List (Int × Bool))) := kM Value.bool
theorem one_kd_139 : ∀ r,(kd_139.v r).length = 1 ∧ ones (kd_139.v r) = true := one_kM _

theorem sl_138 : SlT Tryz.prog 138 139 1 8 (.map none) := SlT.of Tryz.underlying138 (by kernel_rfl) (by decide)

theorem zr_138 : (Tryz.prog.info? 138).map (·.zero) = some (some (.slice none 0 0)) := by kernel_rfl

theorem sz_138 : (Tryz.prog.info? 138).map (·.size) = some 1 := by kernel_rfl

theorem sc_138 : ScT Tryz.prog 138 := ⟨⟨_,Tryz.underlying138,trivial⟩,by kernel_rfl⟩

theorem sz_139 : (Tryz.prog.info? 139).map (·.size) = some 1 := by kernel_rfl

theorem en_121 : En Tryz.prog 121 := En.of Tryz.func121 (by kernel_rfl) (by kernel_rfl)

theorem en_87 : En Tryz.prog 87 := En.of Tryz.func87 (by kernel_rfl) (by kernel_rfl)

theorem zr_114 : (Tryz.prog.info? 114).map (·.zero) = some (some (.slice none 0 0)) := by kernel_rfl

theorem en_89 : En Tryz.prog 89 := En.of Tryz.func89 (by kernel_rfl) (by kernel_rfl)

theorem en_123 : En Tryz.prog 123 := En.of Tryz.func123 (by kernel_rfl) (by kernel_rfl)

theorem sc_114 : ScT Tryz.prog 114 := ⟨⟨_,Tryz.underlying114,trivial⟩,by kernel_rfl⟩

theorem sz_146 : (Tryz.prog.info? 146).map (·.size) = some 2 := by kernel_rfl

theorem ag_146 : AggT Tryz.prog 146 2 := ⟨⟨_,Tryz.underlying146,trivial⟩,by kernel_rfl⟩

theorem bt_146 : builtInfo Tryz.prog 146 = some ([i6 0,i6 0],[(0,1),(1,1)]) := by kernel_rfl

theorem ge_146 : Tryz.prog.eqGuardType Tryz.prog.depth 146 = false := by kernel_rfl

theorem eqs_146 (x0 : Int) (x1 : Int) (y0 : Int) (y1 : Int) (w : World) : (Op.equalIn 10000 146 (.agg #[i6 x0,i6 x1]) (.agg #[i6 y0,i6 y1])).run Tryz.prog w = .ok (x0 == y0 && x1 == y1) w := by
 rw [run_equalIn_agg w 9999 146 _ _ (by kernel_rfl) (by kernel_rfl)]
 simp [Op.eqFields,part,go_sem]
 repeat' split
 all_goals simp_all

theorem en_91 : En Tryz.prog 91 := En.of Tryz.func91 (by kernel_rfl) (by kernel_rfl)

theorem en_124 : En Tryz.prog 124 := En.of Tryz.func124 (by kernel_rfl) (by kernel_rfl)

theorem en_90 : En Tryz.prog 90 := En.of Tryz.func90 (by kernel_rfl) (by kernel_rfl)

theorem sc_139 : ScT Tryz.prog 139 := ⟨⟨_,Tryz.underlying139,trivial⟩,by kernel_rfl⟩

theorem zr_4 : (Tryz.prog.info? 4).map (·.zero) = some (some (.bool false)) := by kernel_rfl

theorem sl_114 : SlT Tryz.prog 114 146 2 16 (.agg #[i6 0,i6 0]) := SlT.of Tryz.underlying114 (by kernel_rfl) (by decide)

theorem sz_114 : (Tryz.prog.info? 114).map (·.size) = some 1 := by kernel_rfl

theorem en_88 : En Tryz.prog 88 := En.of Tryz.func88 (by kernel_rfl) (by kernel_rfl)

theorem en_122 : En Tryz.prog 122 := En.of Tryz.func122 (by kernel_rfl) (by kernel_rfl)

theorem en_68 : En Tryz.prog 68 := En.of Tryz.func68 (by kernel_rfl) (by kernel_rfl)

theorem en_45 : En Tryz.prog 45 := En.of Tryz.func45 (by kernel_rfl) (by kernel_rfl)

theorem en_70 : En Tryz.prog 70 := En.of Tryz.func70 (by kernel_rfl) (by kernel_rfl)

theorem en_93 : En Tryz.prog 93 := En.of Tryz.func93 (by kernel_rfl) (by kernel_rfl)

theorem en_125 : En Tryz.prog 125 := En.of Tryz.func125 (by kernel_rfl) (by kernel_rfl)

theorem en_92 : En Tryz.prog 92 := En.of Tryz.func92 (by kernel_rfl) (by kernel_rfl)

theorem en_69 : En Tryz.prog 69 := En.of Tryz.func69 (by kernel_rfl) (by kernel_rfl)

theorem en_71 : En Tryz.prog 71 := En.of Tryz.func71 (by kernel_rfl) (by kernel_rfl)

theorem zr_121 : (Tryz.prog.info? 121).map (·.zero) = some (some (.agg #[i6 0,i6 0])) := by kernel_rfl

theorem bt_121 : builtInfo Tryz.prog 121 = some ([i6 0,i6 0],[(0,1),(1,1)]) := by kernel_rfl

theorem sz_121 : (Tryz.prog.info? 121).map (·.size) = some 2 := by kernel_rfl

theorem ag_121 : AggT Tryz.prog 121 2 := ⟨⟨_,Tryz.underlying121,trivial⟩,by kernel_rfl⟩

theorem en_72 : En Tryz.prog 72 := En.of Tryz.func72 (by kernel_rfl) (by kernel_rfl)

theorem ge_121 : Tryz.prog.eqGuardType Tryz.prog.depth 121 = false := by kernel_rfl

theorem eqs_121 (x0 : Int) (x1 : Int) (y0 : Int) (y1 : Int) (w : World) : (Op.equalIn 10000 121 (.agg #[i6 x0,i6 x1]) (.agg #[i6 y0,i6 y1])).run Tryz.prog w = .ok (x0 == y0 && x1 == y1) w := by
 rw [run_equalIn_agg w 9999 121 _ _ (by kernel_rfl) (by kernel_rfl)]
 simp [Op.eqFields,part,go_sem]
 repeat' split
 all_goals simp_all

theorem fa_121_0 : ∀ (q : Addr) (w : World),(Instr.fieldAt 121 (.pointer (some q)) 0).run Tryz.prog w = .ok (.pointer (some (q.add 0))) w := fun _ _ => by kernel_rfl

theorem fa_121_1 : ∀ (q : Addr) (w : World),(Instr.fieldAt 121 (.pointer (some q)) 1).run Tryz.prog w = .ok (.pointer (some (q.add 1))) w := fun _ _ => by kernel_rfl

theorem en_73 : En Tryz.prog 73 := En.of Tryz.func73 (by kernel_rfl) (by kernel_rfl)

theorem en_47 : En Tryz.prog 47 := En.of Tryz.func47 (by kernel_rfl) (by kernel_rfl)

theorem en_48 : En Tryz.prog 48 := En.of Tryz.func48 (by kernel_rfl) (by kernel_rfl)

theorem en_14 : En Tryz.prog 14 := En.of Tryz.func14 (by kernel_rfl) (by kernel_rfl)

def kit_New (N : Nat) (bytes : List Int) : Option (Int × Int) :=
 some (0,0)
theorem kit_New_ok {N : Nat} {G : Pers} {Lf : List Ent} {w : World} (bytes : List Int) {bytes_p : Option Addr} {bytes_c : Nat} (h_bytes : Rd G 1 bytes_p bytes_c (bytes.map encI_u8)) (hc : Ctx G (Lf) w) {res : Int × Int} (hF : kit_New N bytes = some res) : Calls Tryz.prog 4 #[.slice bytes_p bytes.length bytes_c] w (fun e w => ∃ (b'1 : Nat),e = .returned (pq b'1) ∧ Ctx G (.box b'1 [.slice bytes_p bytes.length bytes_c,i6 res.1,i6 res.2] 53::Lf) w) := by
 unfold kit_New at hF
 refine fnIn Tryz.func4 rfl Tryz.ntmps4 rfl fun a hf => zS fun K h => sp 1 hf rfl fun a hf => zT h ?_
 refine zS fun K h => sp 1 hf rfl fun a hf => zP hf rfl (pBuildS (cells := [.slice bytes_p bytes.length bytes_c,i6 0,i6 0]) bt_53 rfl rfl) fun a hf => zB hf hc rfl fun b_1 a w hf hc => sp 1 hf rfl fun a hf => zT h ?_
 refine wp_ret ?_
 obtain rfl := sj hF
 exact zO1 Tryz.results4 hf rfl ⟨b_1,rfl,hc⟩

def kit_Stream_Next_j9 (N : Nat) (s_ : kit_Stream) (n : Int) (b_2 : Int) (b_3 : Int) : Option (Int × Int × Int) :=
 Option.bind (nz n) fun un_1 =>
 some (b_3.tmod n,W (s_.used + 1),(W ((W ((W (5 * s_.mix)) + b_2)) + 1)).tmod 251)
def kit_Stream_Next_j6 (N : Nat) (s_ : kit_Stream) (n : Int) (b_2 : Int) : Option (Int × Int × Int) :=
 cond (decide (256 < n))
 (kit_Stream_Next_j9 N s_ n b_2 (W ((W (256 * b_2)) + ((W ((W ((W (5 * s_.mix)) + b_2)) + 1)).tmod 251))))
 (kit_Stream_Next_j9 N s_ n b_2 b_2)
def kit_Stream_Next (N : Nat) (s_ : kit_Stream) (n : Int) : Option (Int × Int × Int) :=
 cond ((decide (n < 2)) || (((s_.bytes.length : Nat) : Int) == 0))
 (some (0,s_.used,s_.mix))
 (Option.bind (nz ((s_.bytes.length : Nat) : Int)) fun un =>
 Option.bind (getI s_.bytes (s_.used.tmod ((s_.bytes.length : Nat) : Int))) fun e_1 =>
 cond (decide (((s_.bytes.length : Nat) : Int) ≤ s_.used))
 (Option.bind (nz ((s_.bytes.length : Nat) : Int)) fun un_2 =>
 kit_Stream_Next_j6 N s_ n (W ((W (e_1)) + (W ((W (11 * s_.mix)) + (W (s_.used.tdiv ((s_.bytes.length : Nat) : Int))))))))
 (kit_Stream_Next_j6 N s_ n (W (e_1))))
theorem kit_Stream_Next_ok {N : Nat} {G : Pers} {Lf : List Ent} {w : World} (s_ : kit_Stream) (n : Int) {b_ : Nat} {s__bytes_p : Option Addr} {s__bytes_c : Nat} (h_s__bytes : Rd G 1 s__bytes_p s__bytes_c (s_.bytes.map encI_u8)) (hc : Ctx G (.box b_ [.slice s__bytes_p s_.bytes.length s__bytes_c,i6 s_.used,i6 s_.mix] 53::Lf) w) {res : Int × Int × Int} (hF : kit_Stream_Next N s_ n = some res) : Calls Tryz.prog 11 #[pq b_,i6 n] w (fun e w => e = .returned (i6 res.1) ∧ Ctx G (.box b_ [.slice s__bytes_p s_.bytes.length s__bytes_c,i6 res.2.1,i6 res.2.2] 53::Lf) w) := by
 unfold kit_Stream_Next at hF
 refine fnIn Tryz.func11 rfl Tryz.ntmps11 rfl fun a hf => zS fun K h => sp 1 hf rfl fun a hf => zT h ?_
 refine wp_seq_k fun K2 h2 => zS fun K h => sp 3 hf rfl fun a hf => stCc 7 (fun a => Has 92 a [(0,pq b_),(1,i6 n),(6,i6 n),(7,.bool (decide (n < 2))),(8,.bool (decide (n < 2))),(15,.bool ((decide (n < 2)) || (((s_.bytes.length : Nat) : Int) == 0)))]) hc ?_ ?_
 ·cases hb : (decide (n < 2))
  ·rw [hb] at hf
   refine sp 2 hf rfl fun a hf => zP hf rfl (pFA fa_53_0 rfl) fun a hf => zL hf hc sc_22 m0 rfl fun a w hf hc => zP hf rfl (pLenS Tryz.underlying22 rfl) fun a hf => sp 2 hf rfl fun a hf => cNil ⟨hf.kp rfl,hc⟩
  ·rw [hb] at hf
   refine stS hf rfl rfl rfl fun a hf => stS hf rfl rfl rfl fun a hf => stS hf rfl rfl rfl fun a hf => stS hf rfl rfl rfl fun a hf => stS hf rfl rfl rfl fun a hf => stS hf rfl rfl rfl fun a hf => sp 1 hf rfl fun a hf => cNil ⟨hf.kp rfl,hc⟩
 intro a w ⟨hf,hc⟩
 refine zT h ?_
 refine zI hf rfl hF ?_ ?_ <;> clear hF <;> intro hF
 ·refine zS fun K h => sp 1 hf rfl fun a hf => zT h ?_
  refine wp_ret ?_
  refine xThenR ?_
  obtain rfl := sj hF
  exact zO1 Tryz.results11 hf rfl ⟨rfl,hc⟩
 ·refine wp_skip ?_
  refine h2 _ _ ?_
  refine wp_seq_k fun K5 h5 => ?_
  obtain ⟨un,hun,hF⟩ := bnd_some hF
  obtain ⟨e_1,he_1,hF⟩ := bnd_some hF
  obtain ⟨b_1,o,qa,qp⟩ := h_s__bytes.atm he_1
  refine cQ hc follows_mx (by kernel_rfl) ?_
  refine qE hf rfl rfl rfl (Pu.ev (pM rfl)) fun a hf => qE hf rfl rfl rfl (Pu.ev (pNC rfl)) fun a hf => qE hf rfl rfl rfl (Pu.ev (pFA fa_53_0 rfl)) fun a hf => qE hf rfl rfl rfl (eLd1 sc_22 rfl (cell_box m0 rfl)) fun a hf => qE hf rfl rfl rfl (Pu.ev (pM rfl)) fun a hf => qE hf rfl rfl rfl (Pu.ev (pNC rfl)) fun a hf => qE hf rfl rfl rfl (Pu.ev (pFA fa_53_1 rfl)) fun a hf => qE hf rfl rfl rfl (eLd1 sc_3 rfl (cell_box m0 rfl)) fun a hf => qE hf rfl rfl rfl (Pu.ev (pM rfl)) fun a hf => qE hf rfl rfl rfl (Pu.ev (pNC rfl)) fun a hf => qE hf rfl rfl rfl (Pu.ev (pFA fa_53_0 rfl)) fun a hf => qE hf rfl rfl rfl (eLd1 sc_22 rfl (cell_box m0 rfl)) fun a hf => qE hf rfl rfl rfl (Pu.ev (pLenS Tryz.underlying22 rfl)) fun a hf => ?_
  refine qE hf rfl rfl rfl (Pu.ev (pRem rfl rfl (nz_spec hun))) fun a hf => qE hf rfl rfl rfl (Pu.ev (pIA Tryz.underlying22 sz_5 rfl rfl qa)) fun a hf => qE hf rfl rfl rfl (eLd1 sc_5 rfl (cell_pc (j := 0) qp rfl)) fun a hf => qE hf rfl rfl rfl (Pu.ev (pCv Tryz.underlying5 Tryz.underlying3 rfl)) fun a hf => qE hf rfl rfl rfl (Pu.ev (pA rfl)) fun a hf => ?_
  intro w hc
  refine h5 _ _ ?_
  refine wp_seq_k fun K6 h6 => ?_
  have hj6 : ∀ (b_2 : Int) a w,Has 92 a [(0,pq b_),(1,i6 n),(5,i6 b_2)] → Ctx G (.box b_ [.slice s__bytes_p s_.bytes.length s__bytes_c,i6 s_.used,i6 s_.mix] 53::Lf) w → kit_Stream_Next_j6 N s_ n b_2 = some res → K6 a w := by
   repeat (clear hF)
   repeat (clear hc)
   repeat (clear hf)
   intro b_2 a w hf hc hF
   unfold kit_Stream_Next_j6 at hF
   refine h6 _ _ ?_
   refine zS fun K h => sp 3 hf rfl fun a hf => zP hf rfl (pFA fa_53_2 rfl) fun a hf => zL hf hc sc_3 m0 rfl fun a w hf hc => sp 4 hf rfl fun a hf => zP hf rfl (pRem rfl rfl (by decide)) fun a hf => sp 1 hf rfl fun a hf => zP hf rfl (pFA fa_53_2 rfl) fun a hf => zW hf hc sz_3 u0 rfl fun w hc => zT h ?_
   refine zS fun K h => sp 2 hf rfl fun a hf => zP hf rfl (pFA fa_53_1 rfl) fun a hf => zL hf hc sc_3 m0 rfl fun a w hf hc => sp 2 hf rfl fun a hf => zP hf rfl (pFA fa_53_1 rfl) fun a hf => zW hf hc sz_3 u0 rfl fun w hc => zT h ?_
   refine wp_seq_k fun K9 h9 => ?_
   have hj9 : ∀ (b_3 : Int) a w,Has 92 a [(1,i6 n),(5,i6 b_3)] → Ctx G (.box b_ [.slice s__bytes_p s_.bytes.length s__bytes_c,i6 (W (s_.used + 1)),i6 ((W ((W ((W (5 * s_.mix)) + b_2)) + 1)).tmod 251)] 53::Lf) w → kit_Stream_Next_j9 N s_ n b_2 b_3 = some res → K9 a w := by
    repeat (clear hF)
    repeat (clear hc)
    repeat (clear hf)
    intro b_3 a w hf hc hF
    unfold kit_Stream_Next_j9 at hF
    refine h9 _ _ ?_
    refine zS fun K h => sp 2 hf rfl fun a hf => ?_
    obtain ⟨un_1,hun_1,hF⟩ := bnd_some hF
    refine zP hf rfl (pRem rfl rfl (nz_spec hun_1)) fun a hf => sp 1 hf rfl fun a hf => zT h ?_
    refine wp_ret ?_
    obtain rfl := sj hF
    exact zO1 Tryz.results11 hf rfl ⟨rfl,hc⟩
   refine zS fun K h => sp 2 hf rfl fun a hf => zT h ?_
   refine zI hf rfl hF ?_ ?_ <;> clear hF <;> intro hF
   ·refine cReg ?_
    refine sp 4 hf rfl fun a hf => zP hf rfl (pFA fa_53_2 rfl) fun a hf => zL hf hc sc_3 m0 rfl fun a w hf hc => sp 2 hf rfl fun a hf => cNil ?_
    exact hj9 (W ((W (256 * b_2)) + ((W ((W ((W (5 * s_.mix)) + b_2)) + 1)).tmod 251))) _ _  (hf.kp rfl) hc hF
   ·refine wp_skip ?_
    exact hj9 b_2 _ _  (hf.kp rfl) hc hF
  refine wp_seq_k fun K12 h12 => cQ hc follows_mx (by kernel_rfl) ?_
  refine qE hf rfl rfl rfl (Pu.ev (pM rfl)) fun a hf => qE hf rfl rfl rfl (Pu.ev (pNC rfl)) fun a hf => qE hf rfl rfl rfl (Pu.ev (pFA fa_53_1 rfl)) fun a hf => qE hf rfl rfl rfl (eLd1 sc_3 rfl (cell_box m0 rfl)) fun a hf => qE hf rfl rfl rfl (Pu.ev (pM rfl)) fun a hf => qE hf rfl rfl rfl (Pu.ev (pNC rfl)) fun a hf => qE hf rfl rfl rfl (Pu.ev (pFA fa_53_0 rfl)) fun a hf => qE hf rfl rfl rfl (eLd1 sc_22 rfl (cell_box m0 rfl)) fun a hf => qE hf rfl rfl rfl (Pu.ev (pLenS Tryz.underlying22 rfl)) fun a hf => qE hf rfl rfl rfl (Pu.ev (pGe rfl rfl)) fun a hf => ?_
  intro w hc
  refine h12 _ _ ?_
  refine zI hf rfl hF ?_ ?_ <;> clear hF <;> intro hF
  ·obtain ⟨un_2,hun_2,hF⟩ := bnd_some hF
   refine cQ hc follows_mx (by kernel_rfl) ?_
   refine qE hf rfl rfl rfl (Pu.ev (pM rfl)) fun a hf => qE hf rfl rfl rfl (Pu.ev (pM rfl)) fun a hf => qE hf rfl rfl rfl (Pu.ev (pNC rfl)) fun a hf => qE hf rfl rfl rfl (Pu.ev (pFA fa_53_2 rfl)) fun a hf => qE hf rfl rfl rfl (eLd1 sc_3 rfl (cell_box m0 rfl)) fun a hf => qE hf rfl rfl rfl (Pu.ev (pMul rfl rfl)) fun a hf => qE hf rfl rfl rfl (Pu.ev (pM rfl)) fun a hf => qE hf rfl rfl rfl (Pu.ev (pNC rfl)) fun a hf => qE hf rfl rfl rfl (Pu.ev (pFA fa_53_1 rfl)) fun a hf => qE hf rfl rfl rfl (eLd1 sc_3 rfl (cell_box m0 rfl)) fun a hf => qE hf rfl rfl rfl (Pu.ev (pM rfl)) fun a hf => qE hf rfl rfl rfl (Pu.ev (pNC rfl)) fun a hf => qE hf rfl rfl rfl (Pu.ev (pFA fa_53_0 rfl)) fun a hf => ?_
   refine qE hf rfl rfl rfl (eLd1 sc_22 rfl (cell_box m0 rfl)) fun a hf => qE hf rfl rfl rfl (Pu.ev (pLenS Tryz.underlying22 rfl)) fun a hf => qE hf rfl rfl rfl (Pu.ev (pQuo rfl rfl (nz_spec hun_2))) fun a hf => qE hf rfl rfl rfl (Pu.ev (pAdd rfl rfl)) fun a hf => qE hf rfl rfl rfl (Pu.ev (pAdd rfl rfl)) fun a hf => qE hf rfl rfl rfl (Pu.ev (pA rfl)) fun a hf => ?_
   intro w hc
   exact hj6 (W ((W (e_1)) + (W ((W (11 * s_.mix)) + (W (s_.used.tdiv ((s_.bytes.length : Nat) : Int))))))) _ _  (hf.kp rfl) hc hF
  ·refine wp_skip ?_
   exact hj6 (W (e_1)) _ _  (hf.kp rfl) hc hF

def kit_Stream_Within (N : Nat) (s_ : kit_Stream) (lo : Int) (hi_ : Int) : Option (Int × Int × Int) :=
 Option.bind (kit_Stream_Next N s_ (W ((W (hi_ - lo)) + 1))) fun r =>
 some (W (lo + r.1),r.2.1,r.2.2)
theorem kit_Stream_Within_ok {N : Nat} {G : Pers} {Lf : List Ent} {w : World} (s_ : kit_Stream) (lo : Int) (hi_ : Int) {b_ : Nat} {s__bytes_p : Option Addr} {s__bytes_c : Nat} (h_s__bytes : Rd G 1 s__bytes_p s__bytes_c (s_.bytes.map encI_u8)) (hc : Ctx G (.box b_ [.slice s__bytes_p s_.bytes.length s__bytes_c,i6 s_.used,i6 s_.mix] 53::Lf) w) {res : Int × Int × Int} (hF : kit_Stream_Within N s_ lo hi_ = some res) : Calls Tryz.prog 6 #[pq b_,i6 lo,i6 hi_] w (fun e w => e = .returned (i6 res.1) ∧ Ctx G (.box b_ [.slice s__bytes_p s_.bytes.length s__bytes_c,i6 res.2.1,i6 res.2.2] 53::Lf) w) := by
 unfold kit_Stream_Within at hF
 refine fnIn Tryz.func6 rfl Tryz.ntmps6 rfl fun a hf => zS fun K h => sp 1 hf rfl fun a hf => zT h ?_
 refine zS fun K h => sp 6 hf rfl fun a hf => ?_
 obtain ⟨r,hr,hF⟩ := bnd_some hF
 refine zC hf en_11 rfl (kit_Stream_Next_ok s_ (W ((W (hi_ - lo)) + 1)) h_s__bytes (hc.pick k0) hr) ?_
 rintro _ w ⟨rfl,hc⟩
 refine ⟨_,rfl,fun a hf => ?_⟩
 refine sp 2 hf rfl fun a hf => zT h ?_
 refine wp_ret ?_
 obtain rfl := sj hF
 exact zO1 Tryz.results6 hf rfl ⟨rfl,hc⟩

def law11_span (N : Nat) (lo : Int) (hi_ : Int) : Option (api_Span) :=
 some (⟨lo,hi_⟩ : api_Span)
theorem law11_span_ok {N : Nat} {G : Pers} {Lf : List Ent} {w : World} (lo : Int) (hi_ : Int)   (hc : Ctx G (Lf) w) {res : api_Span} (hF : law11_span N lo hi_ = some res) : Calls Tryz.prog 15 #[i6 lo,i6 hi_] w (fun e w => e = .returned (.agg #[i6 res.Lo,i6 res.Hi]) ∧ Ctx G (Lf) w) := by
 unfold law11_span at hF
 refine fnIn Tryz.func15 rfl Tryz.ntmps15 rfl fun a hf => zS fun K h => zA hf hc zr_43 rfl fun b_1 a w hf hc => zT h ?_
 refine zS fun K h => sp 2 hf rfl fun a hf => zP hf rfl (pBuildS (cells := [i6 lo,i6 hi_]) bt_43 rfl rfl) fun a hf => zW hf hc sz_43 u0 rfl fun w hc => zT h ?_
 refine wp_ret ?_
 obtain rfl := sj hF
 exact fnOut1 (by simp) rfl Tryz.results15 hf hc (rv_cellN (vs := [i6 lo,i6 hi_]) ag_43 rfl rfl (cells_box (n := 2) m0 rfl)) ⟨rfl,(hc.drop k0)⟩

def law11_Hung_b6 (N : Nat) (s_ : kit_Stream) (r_4 : Int × Int × Int) (x : Int) (b__0 : Int) (b__1 : Int) (x_1 : List crew_Ride) : Option (Step (Int × Int × Int × (List crew_Ride)) (crew_Cable × Int × Int)) :=
 cond (decide (x < r_4.1))
 (Option.bind (kit_Stream_Within N (⟨s_.bytes,b__0,b__1⟩ : kit_Stream) 40 110) fun r_5 =>
 Option.bind (kit_Stream_Next N (⟨s_.bytes,r_5.2.1,r_5.2.2⟩ : kit_Stream) 60) fun r_6 =>
 Option.bind (kit_Stream_Within N (⟨s_.bytes,r_6.2.1,r_6.2.2⟩ : kit_Stream) 1 30) fun r_7 =>
 Option.bind (kit_Stream_Next N (⟨s_.bytes,r_7.2.1,r_7.2.2⟩ : kit_Stream) 12) fun r_8 =>
 Option.bind (law11_span N r_5.1 (W (r_5.1 + r_8.1))) fun r_9 =>
 Option.bind (room ((x_1 ++ [(⟨r_6.1,r_7.1,r_9⟩ : crew_Ride)])).length) fun un_1 =>
 some (.cont (W (x + 1),r_8.2.1,r_8.2.2,(x_1 ++ [(⟨r_6.1,r_7.1,r_9⟩ : crew_Ride)]))))
 (some (.brk (x,b__0,b__1,x_1)))
def law11_Hung (N : Nat) (s_ : kit_Stream) (most : Int) : Option (crew_Cable × Int × Int) :=
 Option.bind (kit_Stream_Next N s_ 80) fun r =>
 Option.bind (kit_Stream_Within N (⟨s_.bytes,r.2.1,r.2.2⟩ : kit_Stream) 20 200) fun r_1 =>
 Option.bind (kit_Stream_Within N (⟨s_.bytes,r_1.2.1,r_1.2.2⟩ : kit_Stream) 100 500) fun r_2 =>
 Option.bind (kit_Stream_Within N (⟨s_.bytes,r_2.2.1,r_2.2.2⟩ : kit_Stream) 100 400) fun r_3 =>
 Option.bind (nz r_2.1) fun un =>
 Option.bind (kit_Stream_Next N (⟨s_.bytes,r_3.2.1,r_3.2.2⟩ : kit_Stream) (W (most + 1))) fun r_4 =>
 Option.bind (loopO (fun s6 => law11_Hung_b6 N s_ r_4 s6.1 s6.2.1 s6.2.2.1 s6.2.2.2) N (0,r_4.2.1,r_4.2.2,([] : List crew_Ride))) fun x6 =>
 exK x6 (fun s6 => some ((⟨r.1,r_1.1,r_2.1,W ((W ((W ((W (r.1 + r_3.1)) * r_1.1)) * 25)).tdiv r_2.1),s6.2.2.2⟩ : crew_Cable),s6.2.1,s6.2.2.1)) some
theorem law11_Hung_ok {N : Nat} {G : Pers} {Lf : List Ent} {w : World} (s_ : kit_Stream) (most : Int) {b_ : Nat} {s__bytes_p : Option Addr} {s__bytes_c : Nat} (h_s__bytes : Rd G 1 s__bytes_p s__bytes_c (s_.bytes.map encI_u8)) (hc : Ctx G (.box b_ [.slice s__bytes_p s_.bytes.length s__bytes_c,i6 s_.used,i6 s_.mix] 53::Lf) w) {res : crew_Cable × Int × Int} (hF : law11_Hung N s_ most = some res) : Calls Tryz.prog 5 #[pq b_,i6 most] w (fun e w => ∃ (p'1 : Option Addr) (c'1 : Nat),e = .returned (.agg #[i6 res.1.Car,i6 res.1.Wide,i6 res.1.Sag,i6 res.1.Most,.slice p'1 res.1.Rides.length c'1]) ∧ Ctx G (.row p'1 c'1 (res.1.Rides.map enc_crew_Ride) 45 4::.box b_ [.slice s__bytes_p s_.bytes.length s__bytes_c,i6 res.2.1,i6 res.2.2] 53::Lf) w) := by
 unfold law11_Hung at hF
 refine fnIn Tryz.func5 rfl Tryz.ntmps5 rfl fun a hf => zS fun K h => zA hf hc zr_27 rfl fun b_1 a w hf hc => zT h ?_
 refine zS fun K h => sp 1 hf rfl fun a hf => ?_
 obtain ⟨r,hr,hF⟩ := bnd_some hF
 refine zC hf en_11 rfl (kit_Stream_Next_ok s_ 80 h_s__bytes (hc.pick k1) hr) ?_
 rintro _ w ⟨rfl,hc⟩
 refine ⟨_,rfl,fun a hf => ?_⟩
 refine sp 1 hf rfl fun a hf => ?_
 obtain ⟨r_1,hr_1,hF⟩ := bnd_some hF
 refine zC hf en_6 rfl (kit_Stream_Within_ok (⟨s_.bytes,r.2.1,r.2.2⟩ : kit_Stream) 20 200 h_s__bytes (hc.pick k0) hr_1) ?_
 rintro _ w ⟨rfl,hc⟩
 refine ⟨_,rfl,fun a hf => ?_⟩
 refine sp 1 hf rfl fun a hf => ?_
 obtain ⟨r_2,hr_2,hF⟩ := bnd_some hF
 refine zC hf en_6 rfl (kit_Stream_Within_ok (⟨s_.bytes,r_1.2.1,r_1.2.2⟩ : kit_Stream) 100 500 h_s__bytes (hc.pick k0) hr_2) ?_
 rintro _ w ⟨rfl,hc⟩
 refine ⟨_,rfl,fun a hf => ?_⟩
 refine zP hf rfl (pBuildS (cells := [i6 r.1,i6 r_1.1,i6 r_2.1,i6 0,.slice none 0 0]) bt_27 rfl rfl) fun a hf => zA hf hc zr_27 rfl fun b_2 a w hf hc => zW hf hc sz_27 u0 rfl fun w hc => zT h ?_
 refine wp_seq_k fun K3 h3 => ?_
 obtain ⟨r_3,hr_3,hF⟩ := bnd_some hF
 obtain ⟨un,hun,hF⟩ := bnd_some hF
 refine regionE (fun θ => [⟨none,none,0,pq b_⟩,⟨none,none,1,i6 most⟩,⟨none,none,4,pq b_1⟩,⟨none,none,5,pq b_2⟩,⟨some 0,none,14,pq b_2⟩,⟨some 1,none,15,i6 r.1⟩,⟨some 2,none,16,pq b_⟩,⟨some 3,none,17,i6 r_3.1⟩,⟨some 4,none,18,i6 (W (r.1 + r_3.1))⟩,⟨some 5,none,19,.pointer (some ⟨b_2,1,none⟩)⟩,⟨some 6,none,20,i6 r_1.1⟩,⟨some 7,none,21,i6 (W ((W (r.1 + r_3.1)) * r_1.1))⟩,⟨some 8,none,22,i6 (W ((W ((W (r.1 + r_3.1)) * r_1.1)) * 25))⟩,⟨some 9,none,23,.pointer (some ⟨b_2,2,none⟩)⟩,⟨some 10,none,24,i6 r_2.1⟩,⟨some 11,none,25,i6 (W ((W ((W ((W (r.1 + r_3.1)) * r_1.1)) * 25)).tdiv r_2.1))⟩,⟨some 12,none,26,.pointer (some ⟨b_2,3,none⟩)⟩]) (fun E θ => (bif E 13 then .box b_2 [i6 r.1,i6 r_1.1,i6 r_2.1,i6 (W ((W ((W ((W (r.1 + r_3.1)) * r_1.1)) * 25)).tdiv r_2.1)),.slice none 0 0] 27 else .box b_2 [i6 r.1,i6 r_1.1,i6 r_2.1,i6 0,.slice none 0 0] 27)::(bif E 3 then .box b_ [.slice s__bytes_p s_.bytes.length s__bytes_c,i6 r_3.2.1,i6 r_3.2.2] 53 else .box b_ [.slice s__bytes_p s_.bytes.length s__bytes_c,i6 r_2.2.1,i6 r_2.2.2] 53)::.box b_1 [i6 0,i6 0,i6 0,i6 0,.slice none 0 0] 27::Lf) [(13,1),(13,6),(13,10)] (fun a w => Has 53 a [(0,pq b_),(1,i6 most),(4,pq b_1),(5,pq b_2)] ∧ Ctx G (.box b_2 [i6 r.1,i6 r_1.1,i6 r_2.1,i6 (W ((W ((W ((W (r.1 + r_3.1)) * r_1.1)) * 25)).tdiv r_2.1)),.slice none 0 0] 27::.box b_ [.slice s__bytes_p s_.bytes.length s__bytes_c,i6 r_3.2.1,i6 r_3.2.2] 53::.box b_1 [i6 0,i6 0,i6 0,i6 0,.slice none 0 0] 27::Lf) w) follows_mx (by kernel_rfl) (by kernel_rfl) (HasE.of hf ⟨rfl,rfl,rfl,rfl,trivial,trivial,trivial,trivial,trivial,trivial,trivial,trivial,trivial,trivial,trivial,trivial,trivial,trivial⟩) hc ⟨?_,?_,?_,?_,?_,?_,?_,?_,?_,?_,?_,?_,?_,?_,trivial⟩ ?_ ?_
 ·intro E θ a w hD hi hp he hc
  have hf := he.h0.mT he 3 rfl
  refine zP hf rfl (pFA fa_27_0 rfl) fun a hf => zD θ he hi hf 4 rfl rfl rfl hc
 ·intro E θ a w hD hi hp he hc
  have e0 := hp.o 0 rfl
  have e13 := hD.f 0 rfl hi
  try dsimp only at hc
  rw [e13] at hc
  have hf := he.h0.mP he 4 rfl e0
  refine zL hf hc sc_3 m0 rfl fun a w hf hc => zD θ he hi hf 5 rfl rfl rfl ?_
  try dsimp only
  rw [updE_fls 1 e13 rfl]
  exact hc
 ·intro E θ a w hD hi hp he hc
  have hf := he.h0.mT he 0 rfl
  refine sp 1 hf rfl fun a hf => zD θ he hi hf 6 rfl rfl rfl hc
 ·intro E θ a w hD hi hp he hc
  have e2 := hp.o 2 rfl
  try dsimp only at hc
  rw [hi] at hc
  have hf := he.h0.mP he 6 rfl e2
  refine zC hf en_6 rfl (kit_Stream_Within_ok (⟨s_.bytes,r_2.2.1,r_2.2.2⟩ : kit_Stream) 100 400 h_s__bytes (hc.pick k1) hr_3) ?_
  rintro _ w ⟨rfl,hc⟩
  refine ⟨_,rfl,fun a hf => ?_⟩
  refine cNil ?_
  refine xThenN ?_
  intro ds u hau
  replace hc := (hc.pick k0).pick k1
  refine ⟨θ,he.put0 hi hau hf rfl 7 rfl rfl,?_⟩
  try dsimp only
  rw [updE_self E 3]
  exact hc
 ·intro E θ a w hD hi hp he hc
  have e1 := hp.o 1 rfl
  have e3 := hp.o 3 rfl
  have hf := (he.h0.mP he 5 rfl e1).mP he 7 rfl e3
  refine sp 1 hf rfl fun a hf => zD θ he hi hf 8 rfl rfl rfl hc
 ·intro E θ a w hD hi hp he hc
  have hf := he.h0.mT he 3 rfl
  refine zP hf rfl (pFA fa_27_1 rfl) fun a hf => zD θ he hi hf 9 rfl rfl rfl hc
 ·intro E θ a w hD hi hp he hc
  have e5 := hp.o 5 rfl
  have e13 := hD.f 1 rfl hi
  try dsimp only at hc
  rw [e13] at hc
  have hf := he.h0.mP he 9 rfl e5
  refine zL hf hc sc_3 m0 rfl fun a w hf hc => zD θ he hi hf 10 rfl rfl rfl ?_
  try dsimp only
  rw [updE_fls 6 e13 rfl]
  exact hc
 ·intro E θ a w hD hi hp he hc
  have e4 := hp.o 4 rfl
  have e6 := hp.o 6 rfl
  have hf := (he.h0.mP he 8 rfl e4).mP he 10 rfl e6
  refine sp 1 hf rfl fun a hf => zD θ he hi hf 11 rfl rfl rfl hc
 ·intro E θ a w hD hi hp he hc
  have e7 := hp.o 7 rfl
  have hf := he.h0.mP he 11 rfl e7
  refine sp 1 hf rfl fun a hf => zD θ he hi hf 12 rfl rfl rfl hc
 ·intro E θ a w hD hi hp he hc
  have hf := he.h0.mT he 3 rfl
  refine zP hf rfl (pFA fa_27_2 rfl) fun a hf => zD θ he hi hf 13 rfl rfl rfl hc
 ·intro E θ a w hD hi hp he hc
  have e9 := hp.o 9 rfl
  have e13 := hD.f 2 rfl hi
  try dsimp only at hc
  rw [e13] at hc
  have hf := he.h0.mP he 13 rfl e9
  refine zL hf hc sc_3 m0 rfl fun a w hf hc => zD θ he hi hf 14 rfl rfl rfl ?_
  try dsimp only
  rw [updE_fls 10 e13 rfl]
  exact hc
 ·intro E θ a w hD hi hp he hc
  have e8 := hp.o 8 rfl
  have e10 := hp.o 10 rfl
  have hf := (he.h0.mP he 12 rfl e8).mP he 14 rfl e10
  refine zP hf rfl (pQuo rfl rfl (nz_spec hun)) fun a hf => zD θ he hi hf 15 rfl rfl rfl hc
 ·intro E θ a w hD hi hp he hc
  have hf := he.h0.mT he 3 rfl
  refine zP hf rfl (pFA fa_27_3 rfl) fun a hf => zD θ he hi hf 16 rfl rfl rfl hc
 ·intro E θ a w hD hi hp he hc
  have e11 := hp.o 11 rfl
  have e12 := hp.o 12 rfl
  try dsimp only at hc
  rw [hi] at hc
  have hf := (he.h0.mP he 15 rfl e11).mP he 16 rfl e12
  refine zW hf hc sz_3 u0 rfl fun w hc => zG θ he hi hf rfl ?_
  try dsimp only
  rw [updE_self E 13]
  exact hc
 ·intro E θ a w hall he hc
  have hf := he.h0
  have e3 := hall 3 rfl
  have e13 := hall 13 rfl
  replace hf := hf.more he 3 rfl (onT)
  replace hf := hf.more he 2 rfl (onT)
  replace hf := hf.more he 1 rfl (onT)
  replace hf := hf.more he 0 rfl (onT)
  try dsimp only at hc
  rw [e3,e13] at hc
  exact ⟨hf.kp rfl,hc⟩
 rintro a w ⟨hf,hc⟩
 refine h3 _ _ ?_
 refine wp_seq_k fun K4 h4 => zS fun K h => sp 3 hf rfl fun a hf => ?_
 obtain ⟨r_4,hr_4,hF⟩ := bnd_some hF
 refine zC hf en_11 rfl (kit_Stream_Next_ok (⟨s_.bytes,r_3.2.1,r_3.2.2⟩ : kit_Stream) (W (most + 1)) h_s__bytes (hc.pick k1) hr_4) ?_
 rintro _ w ⟨rfl,hc⟩
 refine ⟨_,rfl,fun a hf => ?_⟩
 refine sp 1 hf rfl fun a hf => zT h ?_
 refine wp_block ?_
 obtain ⟨x6,hx6,hF⟩ := bnd_some hF
 let S6 : (Int × Int × Int × (List crew_Ride)) → Act → World → Prop := (fun (zz : Int × Int × Int × (List crew_Ride)) a w => ∃ (p_1 : Option Addr) (c_1 : Nat),Has 53 a [(0,pq b_),(4,pq b_1),(5,pq b_2),(30,i6 r_4.1),(31,i6 zz.1)] ∧ Ctx G (.row p_1 c_1 (zz.2.2.2.map enc_crew_Ride) 45 4::.box b_ [.slice s__bytes_p s_.bytes.length s__bytes_c,i6 zz.2.1,i6 zz.2.2.1] 53::.box b_2 [i6 r.1,i6 r_1.1,i6 r_2.1,i6 (W ((W ((W ((W (r.1 + r_3.1)) * r_1.1)) * 25)).tdiv r_2.1)),.slice p_1 zz.2.2.2.length c_1] 27::.box b_1 [i6 0,i6 0,i6 0,i6 0,.slice none 0 0] 27::Lf) w)
 have hr6 : ∀ (zz : Int × Int × Int × (List crew_Ride)) a w,x6 = .go zz → S6 zz a w → K4 a w := by
  rintro ⟨x,b__0,b__1,x_1⟩ a w rfl ⟨p_1,c_1,hf,hc⟩
  replace hF := exK_go hF
  refine h4 _ _ ?_
  refine zS fun K h => zN hf hc ag_27 m2 rfl fun a w hf hc => zW hf hc sz_27 u3 rfl fun w hc => zT h ?_
  refine wp_ret ?_
  obtain rfl := sj hF
  replace hc := hc.drop k2
  exact fnOut1 (by simp) rfl Tryz.results5 hf hc (rv_cellN (vs := [i6 r.1,i6 r_1.1,i6 r_2.1,i6 (W ((W ((W ((W (r.1 + r_3.1)) * r_1.1)) * 25)).tdiv r_2.1)),.slice p_1 x_1.length c_1]) ag_27 rfl rfl (cells_box (n := 5) m2 rfl)) ⟨p_1,c_1,rfl,(hc.drop k2)⟩
 have ho6 : ∀ r,x6 = .out r → r = res := by
  rintro r rfl
  exact sj hF
 replace hc := hc.nilRow 45 4
 refine cLoop N (loopW (S := S6) (x := x6) ?_ N (0,r_4.2.1,r_4.2.2,([] : List crew_Ride)) _ _ ⟨none,0,hf.kp rfl,hc⟩ hx6)
 clear hF hf hc
 rintro ⟨x,b__0,b__1,x_1⟩ st6 a w KB6 ⟨p_1,c_1,hf,hc⟩ hF hfin6 hK6
 unfold law11_Hung_b6 at hF
 refine zS fun K h => sp 1 hf rfl fun a hf => zT h ?_
 refine wp_seq_k fun K9 h9 => zI hf rfl hF ?_ ?_ <;> clear hF <;> intro hF
 ·refine wp_skip ?_
  refine h9 _ _ ?_
  refine wp_seq_k fun K10 h10 => wp_block ?_
  refine zS fun K h => sp 1 hf rfl fun a hf => ?_
  obtain ⟨r_5,hr_5,hF⟩ := bnd_some hF
  refine zC hf en_6 rfl (kit_Stream_Within_ok (⟨s_.bytes,b__0,b__1⟩ : kit_Stream) 40 110 h_s__bytes (hc.pick k1) hr_5) ?_
  rintro _ w ⟨rfl,hc⟩
  refine ⟨_,rfl,fun a hf => ?_⟩
  refine sp 1 hf rfl fun a hf => zT h ?_
  obtain ⟨r_6,hr_6,hF⟩ := bnd_some hF
  obtain ⟨r_7,hr_7,hF⟩ := bnd_some hF
  obtain ⟨r_8,hr_8,hF⟩ := bnd_some hF
  obtain ⟨r_9,hr_9,hF⟩ := bnd_some hF
  obtain ⟨un_1,hun_1,hF⟩ := bnd_some hF
  replace hc := hc.nilRow 0 0
  refine regionE (fun θ => [⟨none,none,0,pq b_⟩,⟨none,none,4,pq b_1⟩,⟨none,none,5,pq b_2⟩,⟨none,none,6,i6 r_5.1⟩,⟨none,none,30,i6 r_4.1⟩,⟨none,none,31,i6 x⟩,⟨some 0,none,35,.pointer (some ⟨b_2,4,none⟩)⟩,⟨some 1,none,36,.slice p_1 x_1.length c_1⟩,⟨some 2,none,37,pq b_⟩,⟨some 3,none,38,i6 r_6.1⟩,⟨some 4,none,39,pq b_⟩,⟨some 5,none,40,i6 r_7.1⟩,⟨some 6,none,41,i6 r_5.1⟩,⟨some 7,none,42,i6 r_5.1⟩,⟨some 8,none,43,pq b_⟩,⟨some 9,none,44,i6 r_8.1⟩,⟨some 10,none,45,i6 (W (r_5.1 + r_8.1))⟩,⟨some 11,none,46,.agg #[i6 r_9.Lo,i6 r_9.Hi]⟩,⟨some 12,none,47,.agg #[i6 r_6.1,i6 r_7.1,i6 r_9.Lo,i6 r_9.Hi]⟩,⟨some 13,none,48,.slice (some ⟨(θ 104).b,0,none⟩) 1 1⟩,⟨some 14,none,49,.slice ((θ 112).p) ((x_1 ++ [(⟨r_6.1,r_7.1,r_9⟩ : crew_Ride)]).length) ((θ 112).c)⟩,⟨some 15,none,50,.pointer (some ⟨b_2,4,none⟩)⟩]) (fun E θ => (bif E 13 then .row (some ⟨(θ 104).b,0,none⟩) 1 (([(⟨r_6.1,r_7.1,r_9⟩ : crew_Ride)] : List crew_Ride).map enc_crew_Ride) 45 4 else .row none 0 [] 0 0)::(bif E 9 then .box b_ [.slice s__bytes_p s_.bytes.length s__bytes_c,i6 r_8.2.1,i6 r_8.2.2] 53 else bif E 5 then .box b_ [.slice s__bytes_p s_.bytes.length s__bytes_c,i6 r_7.2.1,i6 r_7.2.2] 53 else bif E 3 then .box b_ [.slice s__bytes_p s_.bytes.length s__bytes_c,i6 r_6.2.1,i6 r_6.2.2] 53 else .box b_ [.slice s__bytes_p s_.bytes.length s__bytes_c,i6 r_5.2.1,i6 r_5.2.2] 53)::(bif E 14 then .row ((θ 112).p) ((θ 112).c) ((x_1 ++ [(⟨r_6.1,r_7.1,r_9⟩ : crew_Ride)]).map enc_crew_Ride) 45 4 else .row p_1 c_1 (x_1.map enc_crew_Ride) 45 4)::(bif E 16 then .box b_2 [i6 r.1,i6 r_1.1,i6 r_2.1,i6 (W ((W ((W ((W (r.1 + r_3.1)) * r_1.1)) * 25)).tdiv r_2.1)),.slice ((θ 112).p) ((x_1 ++ [(⟨r_6.1,r_7.1,r_9⟩ : crew_Ride)]).length) ((θ 112).c)] 27 else .box b_2 [i6 r.1,i6 r_1.1,i6 r_2.1,i6 (W ((W ((W ((W (r.1 + r_3.1)) * r_1.1)) * 25)).tdiv r_2.1)),.slice p_1 x_1.length c_1] 27)::.box b_1 [i6 0,i6 0,i6 0,i6 0,.slice none 0 0] 27::Lf) [(5,3),(16,1),(9,5),(11,9),(14,11),(16,14)] (fun a w => ∃ (b_4 : Nat) (p_3 : Option Addr) (c_3 : Nat),Has 53 a [(0,pq b_),(4,pq b_1),(5,pq b_2),(30,i6 r_4.1),(31,i6 x)] ∧ Ctx G (.row (some ⟨b_4,0,none⟩) 1 (([(⟨r_6.1,r_7.1,r_9⟩ : crew_Ride)] : List crew_Ride).map enc_crew_Ride) 45 4::.box b_ [.slice s__bytes_p s_.bytes.length s__bytes_c,i6 r_8.2.1,i6 r_8.2.2] 53::.row p_3 c_3 ((x_1 ++ [(⟨r_6.1,r_7.1,r_9⟩ : crew_Ride)]).map enc_crew_Ride) 45 4::.box b_2 [i6 r.1,i6 r_1.1,i6 r_2.1,i6 (W ((W ((W ((W (r.1 + r_3.1)) * r_1.1)) * 25)).tdiv r_2.1)),.slice p_3 ((x_1 ++ [(⟨r_6.1,r_7.1,r_9⟩ : crew_Ride)]).length) c_3] 27::.box b_1 [i6 0,i6 0,i6 0,i6 0,.slice none 0 0] 27::Lf) w) follows_mx (by kernel_rfl) (by kernel_rfl) (HasE.of hf ⟨rfl,rfl,rfl,rfl,rfl,rfl,trivial,trivial,trivial,trivial,trivial,trivial,trivial,trivial,trivial,trivial,trivial,trivial,trivial,trivial,trivial,trivial,trivial⟩) hc ⟨?_,?_,?_,?_,?_,?_,?_,?_,?_,?_,?_,?_,?_,?_,?_,?_,?_,trivial⟩ ?_ ?_
  ·intro E θ a w hD hi hp he hc
   have hf := he.h0.mT he 2 rfl
   refine zP hf rfl (pFA fa_27_4 rfl) fun a hf => zD θ he hi hf 6 rfl rfl rfl hc
  ·intro E θ a w hD hi hp he hc
   have e0 := hp.o 0 rfl
   have e16 := hD.f 1 rfl hi
   try dsimp only at hc
   rw [e16] at hc
   have hf := he.h0.mP he 6 rfl e0
   refine zL hf hc sc_25 m3 rfl fun a w hf hc => zD θ he hi hf 7 rfl rfl rfl ?_
   try dsimp only
   rw [updE_fls 1 e16 rfl]
   exact hc
  ·intro E θ a w hD hi hp he hc
   have hf := he.h0.mT he 0 rfl
   refine sp 1 hf rfl fun a hf => zD θ he hi hf 8 rfl rfl rfl hc
  ·intro E θ a w hD hi hp he hc
   have e2 := hp.o 2 rfl
   have e5 := hD.f 0 rfl hi
   have e9 := hD.f 2 rfl e5
   have e11 := hD.f 3 rfl e9
   have e14 := hD.f 4 rfl e11
   try dsimp only at hc
   rw [hi,e5,e9,e14] at hc
   have hf := he.h0.mP he 8 rfl e2
   refine zC hf en_11 rfl (kit_Stream_Next_ok (⟨s_.bytes,r_5.2.1,r_5.2.2⟩ : kit_Stream) 60 h_s__bytes (hc.pick k1) hr_6) ?_
   rintro _ w ⟨rfl,hc⟩
   refine ⟨_,rfl,fun a hf => ?_⟩
   refine cNil ?_
   refine xThenN ?_
   intro ds u hau
   replace hc := (hc.pick k0).pick k1
   refine ⟨θ,he.put0 hi hau hf rfl 9 rfl rfl,?_⟩
   try dsimp only
   rw [updE_self E 3,updE_fls 3 e5 rfl,updE_fls 3 e9 rfl,updE_fls 3 e14 rfl]
   exact hc
  ·intro E θ a w hD hi hp he hc
   have hf := he.h0.mT he 0 rfl
   refine sp 1 hf rfl fun a hf => zD θ he hi hf 10 rfl rfl rfl hc
  ·intro E θ a w hD hi hp he hc
   have e4 := hp.o 4 rfl
   have e3 := hp.o 3 rfl
   have e9 := hD.f 2 rfl hi
   have e11 := hD.f 3 rfl e9
   have e14 := hD.f 4 rfl e11
   try dsimp only at hc
   rw [e3,hi,e9,e14] at hc
   have hf := he.h0.mP he 10 rfl e4
   refine zC hf en_6 rfl (kit_Stream_Within_ok (⟨s_.bytes,r_6.2.1,r_6.2.2⟩ : kit_Stream) 1 30 h_s__bytes (hc.pick k1) hr_7) ?_
   rintro _ w ⟨rfl,hc⟩
   refine ⟨_,rfl,fun a hf => ?_⟩
   refine cNil ?_
   refine xThenN ?_
   intro ds u hau
   replace hc := (hc.pick k0).pick k1
   refine ⟨θ,he.put0 hi hau hf rfl 11 rfl rfl,?_⟩
   try dsimp only
   rw [updE_tru 5 e3,updE_self E 5,updE_fls 5 e9 rfl,updE_fls 5 e14 rfl]
   exact hc
  ·intro E θ a w hD hi hp he hc
   have hf := he.h0.mT he 3 rfl
   refine sp 1 hf rfl fun a hf => zD θ he hi hf 12 rfl rfl rfl hc
  ·intro E θ a w hD hi hp he hc
   have hf := he.h0.mT he 3 rfl
   refine sp 1 hf rfl fun a hf => zD θ he hi hf 13 rfl rfl rfl hc
  ·intro E θ a w hD hi hp he hc
   have hf := he.h0.mT he 0 rfl
   refine sp 1 hf rfl fun a hf => zD θ he hi hf 14 rfl rfl rfl hc
  ·intro E θ a w hD hi hp he hc
   have e8 := hp.o 8 rfl
   have e5 := hp.o 5 rfl
   have e3 := hD.t 0 rfl e5
   have e11 := hD.f 3 rfl hi
   have e14 := hD.f 4 rfl e11
   try dsimp only at hc
   rw [e3,e5,hi,e14] at hc
   have hf := he.h0.mP he 14 rfl e8
   refine zC hf en_11 rfl (kit_Stream_Next_ok (⟨s_.bytes,r_7.2.1,r_7.2.2⟩ : kit_Stream) 12 h_s__bytes (hc.pick k1) hr_8) ?_
   rintro _ w ⟨rfl,hc⟩
   refine ⟨_,rfl,fun a hf => ?_⟩
   refine cNil ?_
   refine xThenN ?_
   intro ds u hau
   replace hc := (hc.pick k0).pick k1
   refine ⟨θ,he.put0 hi hau hf rfl 15 rfl rfl,?_⟩
   try dsimp only
   rw [updE_tru 9 e3,updE_tru 9 e5,updE_self E 9,updE_fls 9 e14 rfl]
   exact hc
  ·intro E θ a w hD hi hp he hc
   have e7 := hp.o 7 rfl
   have e9 := hp.o 9 rfl
   have hf := (he.h0.mP he 13 rfl e7).mP he 15 rfl e9
   refine sp 1 hf rfl fun a hf => zD θ he hi hf 16 rfl rfl rfl hc
  ·intro E θ a w hD hi hp he hc
   have e6 := hp.o 6 rfl
   have e10 := hp.o 10 rfl
   have hf := (he.h0.mP he 12 rfl e6).mP he 16 rfl e10
   refine zQ (v := .agg #[i6 r_9.Lo,i6 r_9.Hi]) hf hc en_15 rfl (fun w hc => law11_span_ok r_5.1 (W (r_5.1 + r_8.1)) hc hr_9) fun a w hf hc => zD θ he hi hf 17 rfl rfl rfl hc
  ·intro E θ a w hD hi hp he hc
   have e3 := hp.o 3 rfl
   have e5 := hp.o 5 rfl
   have e11 := hp.o 11 rfl
   have hf := ((he.h0.mP he 9 rfl e3).mP he 11 rfl e5).mP he 17 rfl e11
   refine zP hf rfl (pBuildS (cells := [i6 r_6.1,i6 r_7.1,i6 r_9.Lo,i6 r_9.Hi]) bt_45 rfl rfl) fun a hf => zD θ he hi hf 18 rfl rfl rfl hc
  ·intro E θ a w hD hi hp he hc
   have e12 := hp.o 12 rfl
   try dsimp only at hc
   rw [hi] at hc
   have hf := he.h0.mP he 18 rfl e12
   refine stBS (rows := ([(⟨r_6.1,r_7.1,r_9⟩ : crew_Ride)] : List crew_Ride).map enc_crew_Ride) (vs := [(0,.agg #[i6 r_6.1,i6 r_7.1,i6 r_9.Lo,i6 r_9.Hi])]) hf hc rfl rfl sl_25 rfl ⟨rfl,rfl,rfl,trivial⟩ rfl rfl fun b_3 a w hf hc => cNil ?_
   refine xThenN ?_
   intro ds u hau
   replace hc := hc.drop k1
   refine ⟨(setT θ 104 ⟨b_3,none,0,(fun _ => (none,0))⟩),he.put hi hau hf rfl [] trivial ⟨qq,qq,qq,qq,qq,qq,qq,qq,qq,qq,qq,qq,qq,qq,qq,qq,qq,qq,qq,qq,qq,qq,trivial⟩,?_⟩
   try dsimp only
   rw [updE_self E 13]
   exact hc
  ·intro E θ a w hD hi hp he hc
   have e1 := hp.o 1 rfl
   have e13 := hp.o 13 rfl
   have e16 := hD.f 5 rfl hi
   try dsimp only at hc
   rw [e13,hi,e16] at hc
   have hf := (he.h0.mP he 7 rfl e1).mP he 19 rfl e13
   refine stApm (xs := x_1) (ys := ([(⟨r_6.1,r_7.1,r_9⟩ : crew_Ride)] : List crew_Ride)) hf hc rfl rfl sl_25 rfl rfl rfl rfl rfl one_enc_crew_Ride (src_row hc m0) (fun _ _ => u2) (by simpa using room_spec hun_1) fun p_2 c_2 a w hf hc => cNil ?_
   refine xThenN ?_
   intro ds u hau
   refine ⟨(setT θ 112 ⟨0,p_2,c_2,(fun _ => (none,0))⟩),he.put hi hau hf rfl [] trivial ⟨qq,qq,qq,qq,qq,qq,qq,qq,qq,qq,qq,qq,qq,qq,qq,qq,qq,qq,qq,qq,qq,qq,trivial⟩,?_⟩
   try dsimp only
   rw [updE_tru 14 e13,updE_self E 14,updE_fls 14 e16 rfl]
   exact hc
  ·intro E θ a w hD hi hp he hc
   have hf := he.h0.mT he 2 rfl
   refine zP hf rfl (pFA fa_27_4 rfl) fun a hf => zD θ he hi hf 21 rfl rfl rfl hc
  ·intro E θ a w hD hi hp he hc
   have e14 := hp.o 14 rfl
   have e15 := hp.o 15 rfl
   try dsimp only at hc
   rw [hi] at hc
   have hf := (he.h0.mP he 20 rfl e14).mP he 21 rfl e15
   refine zW hf hc sz_25 u3 rfl fun w hc => zG θ he hi hf rfl ?_
   try dsimp only
   rw [updE_self E 16]
   exact hc
  ·intro E θ a w hall he hc
   have hf := he.h0
   have e3 := hall 3 rfl
   have e5 := hall 5 rfl
   have e9 := hall 9 rfl
   have e13 := hall 13 rfl
   have e14 := hall 14 rfl
   have e16 := hall 16 rfl
   replace hf := hf.more he 5 rfl (onT)
   replace hf := hf.more he 4 rfl (onT)
   replace hf := hf.more he 2 rfl (onT)
   replace hf := hf.more he 1 rfl (onT)
   replace hf := hf.more he 0 rfl (onT)
   try dsimp only at hc
   rw [e3,e5,e9,e13,e14,e16] at hc
   exact ⟨(θ 104).b,(θ 112).p,(θ 112).c,hf.kp rfl,hc⟩
  rintro a w ⟨b_4,p_3,c_3,hf,hc⟩
  refine h10 _ _ ?_
  refine cReg ?_
  refine sp 2 hf rfl fun a hf => cNil ?_
  replace hc := ((hc.drop k0).pick k0).pick k1
  exact hK6 (W (x + 1),r_8.2.1,r_8.2.2,(x_1 ++ [(⟨r_6.1,r_7.1,r_9⟩ : crew_Ride)])) _ _ (sj hF).symm ⟨p_3,c_3,hf.kp rfl,hc⟩
 ·refine wp_exit ?_
  refine xThen ?_
  refine xThen ?_
  have he := sj hF
  rw [← he] at hfin6
  refine cHit ?_
  exact hr6 _ _ _ hfin6 ⟨p_1,c_1,hf.kp rfl,hc⟩

def kit_Copy_crew_Ride (N : Nat) (l : List crew_Ride) : Option ((List crew_Ride)) :=
 Option.bind (room (l).length) fun un =>
 some l
theorem kit_Copy_crew_Ride_ok {N : Nat} {G : Pers} {Lf : List Ent} {w : World} (l : List crew_Ride) {l_p : Option Addr} {l_c : Nat} (h_l : Rd G 4 l_p l_c (l.map enc_crew_Ride)) (hc : Ctx G (Lf) w) {res : (List crew_Ride)} (hF : kit_Copy_crew_Ride N l = some res) : Calls Tryz.prog 16 #[.slice l_p l.length l_c] w (fun e w => ∃ (p'1 : Option Addr) (c'1 : Nat),e = .returned (.slice p'1 res.length c'1) ∧ Ctx G (.row p'1 c'1 (res.map enc_crew_Ride) 45 4::Lf) w) := by
 unfold kit_Copy_crew_Ride at hF
 refine fnIn Tryz.func16 rfl Tryz.ntmps16 rfl fun a hf => zS fun K h => sp 1 hf rfl fun a hf => zT h ?_
 refine zS fun K h => sp 1 hf rfl fun a hf => zT h ?_
 refine zS fun K h => sp 2 hf rfl fun a hf => ?_
 replace hc := hc.nilRow 45 4
 obtain ⟨un,hun,hF⟩ := bnd_some hF
 refine stApm (xs := ([] : List crew_Ride)) (ys := l) hf hc rfl rfl sl_25 rfl rfl rfl rfl rfl one_enc_crew_Ride (src_rd hc h_l) (fun _ _ => u0) (by simpa using room_spec hun) fun p_1 c_1 a w hf hc => sp 1 hf rfl fun a hf => zT h ?_
 refine wp_ret ?_
 obtain rfl := sj hF
 exact zO1 Tryz.results16 hf rfl ⟨p_1,c_1,rfl,hc⟩

def law11_CopyCable (N : Nat) (c_ : crew_Cable) : Option (crew_Cable) :=
 Option.bind (kit_Copy_crew_Ride N c_.Rides) fun r =>
 some (⟨c_.Car,c_.Wide,c_.Sag,c_.Most,r⟩ : crew_Cable)
theorem law11_CopyCable_ok {N : Nat} {G : Pers} {Lf : List Ent} {w : World} (c_ : crew_Cable) {c__Rides_p : Option Addr} {c__Rides_c : Nat} (h_c__Rides : Rd G 4 c__Rides_p c__Rides_c (c_.Rides.map enc_crew_Ride)) (hc : Ctx G (Lf) w) {res : crew_Cable} (hF : law11_CopyCable N c_ = some res) : Calls Tryz.prog 7 #[.agg #[i6 c_.Car,i6 c_.Wide,i6 c_.Sag,i6 c_.Most,.slice c__Rides_p c_.Rides.length c__Rides_c]] w (fun e w => ∃ (p'1 : Option Addr) (c'1 : Nat),e = .returned (.agg #[i6 res.Car,i6 res.Wide,i6 res.Sag,i6 res.Most,.slice p'1 res.Rides.length c'1]) ∧ Ctx G (.row p'1 c'1 (res.Rides.map enc_crew_Ride) 45 4::Lf) w) := by
 unfold law11_CopyCable at hF
 refine fnIn Tryz.func7 rfl Tryz.ntmps7 rfl fun a hf => zS fun K h => zB hf hc rfl fun b_1 a w hf hc => zA hf hc zr_27 rfl fun b_2 a w hf hc => zT h ?_
 refine zS fun K h => zP hf rfl (pFA fa_27_4 rfl) fun a hf => zL hf hc sc_25 m1 rfl fun a w hf hc => ?_
 obtain ⟨r,hr,hF⟩ := bnd_some hF
 refine zC hf en_16 rfl (kit_Copy_crew_Ride_ok c_.Rides h_c__Rides hc hr) ?_
 rintro _ w ⟨p_1,c_1,rfl,hc⟩
 refine ⟨_,rfl,fun a hf => ?_⟩
 refine zP hf rfl (pFA fa_27_4 rfl) fun a hf => zW hf hc sz_25 u2 rfl fun w hc => zT h ?_
 refine zS fun K h => zN hf hc ag_27 m2 rfl fun a w hf hc => zW hf hc sz_27 u1 rfl fun w hc => zT h ?_
 refine wp_ret ?_
 obtain rfl := sj hF
 replace hc := hc.drop k2
 exact fnOut1 (by simp) rfl Tryz.results7 hf hc (rv_cellN (vs := [i6 c_.Car,i6 c_.Wide,i6 c_.Sag,i6 c_.Most,.slice p_1 r.length c_1]) ag_27 rfl rfl (cells_box (n := 5) m1 rfl)) ⟨p_1,c_1,rfl,(hc.drop k1)⟩

def law03_Sited_b6 (N : Nat) (s_ : kit_Stream) (r_3 : Int × Int × Int) (at_ : Int) (x : Int) (b__0 : Int) (b__1 : Int) (x_1 : List gauge_Point) : Option (Step (Int × Int × Int × Int × (List gauge_Point)) (gauge_Site × Int × Int)) :=
 cond (decide (x < r_3.1))
 (Option.bind (kit_Stream_Within N (⟨s_.bytes,b__0,b__1⟩ : kit_Stream) 1 30) fun r_5 =>
 Option.bind (kit_Stream_Next N (⟨s_.bytes,r_5.2.1,r_5.2.2⟩ : kit_Stream) 100) fun r_6 =>
 Option.bind (kit_Stream_Next N (⟨s_.bytes,r_6.2.1,r_6.2.2⟩ : kit_Stream) 40) fun r_7 =>
 Option.bind (room ((x_1 ++ [(⟨W (at_ + r_5.1),r_6.1,r_7.1⟩ : gauge_Point)])).length) fun un =>
 some (.cont (W (at_ + r_5.1),W (x + 1),r_7.2.1,r_7.2.2,(x_1 ++ [(⟨W (at_ + r_5.1),r_6.1,r_7.1⟩ : gauge_Point)]))))
 (some (.brk (at_,x,b__0,b__1,x_1)))
def law03_Sited (N : Nat) (s_ : kit_Stream) (most : Int) : Option (gauge_Site × Int × Int) :=
 Option.bind (kit_Stream_Next N s_ 40) fun r =>
 Option.bind (kit_Stream_Within N (⟨s_.bytes,r.2.1,r.2.2⟩ : kit_Stream) 10 90) fun r_1 =>
 Option.bind (kit_Stream_Within N (⟨s_.bytes,r_1.2.1,r_1.2.2⟩ : kit_Stream) 20 90) fun r_2 =>
 Option.bind (kit_Stream_Next N (⟨s_.bytes,r_2.2.1,r_2.2.2⟩ : kit_Stream) (W (most + 1))) fun r_3 =>
 Option.bind (loopO (fun s6 => law03_Sited_b6 N s_ r_3 s6.1 s6.2.1 s6.2.2.1 s6.2.2.2.1 s6.2.2.2.2) N (r.1,0,r_3.2.1,r_3.2.2,([] : List gauge_Point))) fun x6 =>
 exK x6 (fun s6 => Option.bind (kit_Stream_Within N (⟨s_.bytes,s6.2.2.1,s6.2.2.2.1⟩ : kit_Stream) 1 30) fun r_4 =>
 some ((⟨r.1,W (s6.1 + r_4.1),r_1.1,r_2.1,s6.2.2.2.2⟩ : gauge_Site),r_4.2.1,r_4.2.2)) some
theorem law03_Sited_ok {N : Nat} {G : Pers} {Lf : List Ent} {w : World} (s_ : kit_Stream) (most : Int) {b_ : Nat} {s__bytes_p : Option Addr} {s__bytes_c : Nat} (h_s__bytes : Rd G 1 s__bytes_p s__bytes_c (s_.bytes.map encI_u8)) (hc : Ctx G (.box b_ [.slice s__bytes_p s_.bytes.length s__bytes_c,i6 s_.used,i6 s_.mix] 53::Lf) w) {res : gauge_Site × Int × Int} (hF : law03_Sited N s_ most = some res) : Calls Tryz.prog 8 #[pq b_,i6 most] w (fun e w => ∃ (p'1 : Option Addr) (c'1 : Nat),e = .returned (.agg #[i6 res.1.Left,i6 res.1.Right,i6 res.1.Gap,i6 res.1.Step_,.slice p'1 res.1.Points.length c'1]) ∧ Ctx G (.row p'1 c'1 (res.1.Points.map enc_gauge_Point) 57 3::.box b_ [.slice s__bytes_p s_.bytes.length s__bytes_c,i6 res.2.1,i6 res.2.2] 53::Lf) w) := by
 unfold law03_Sited at hF
 refine fnIn Tryz.func8 rfl Tryz.ntmps8 rfl fun a hf => zS fun K h => zA hf hc zr_33 rfl fun b_1 a w hf hc => zT h ?_
 refine zS fun K h => sp 1 hf rfl fun a hf => ?_
 obtain ⟨r,hr,hF⟩ := bnd_some hF
 refine zC hf en_11 rfl (kit_Stream_Next_ok s_ 40 h_s__bytes (hc.pick k1) hr) ?_
 rintro _ w ⟨rfl,hc⟩
 refine ⟨_,rfl,fun a hf => ?_⟩
 refine sp 1 hf rfl fun a hf => ?_
 obtain ⟨r_1,hr_1,hF⟩ := bnd_some hF
 refine zC hf en_6 rfl (kit_Stream_Within_ok (⟨s_.bytes,r.2.1,r.2.2⟩ : kit_Stream) 10 90 h_s__bytes (hc.pick k0) hr_1) ?_
 rintro _ w ⟨rfl,hc⟩
 refine ⟨_,rfl,fun a hf => ?_⟩
 refine sp 1 hf rfl fun a hf => ?_
 obtain ⟨r_2,hr_2,hF⟩ := bnd_some hF
 refine zC hf en_6 rfl (kit_Stream_Within_ok (⟨s_.bytes,r_1.2.1,r_1.2.2⟩ : kit_Stream) 20 90 h_s__bytes (hc.pick k0) hr_2) ?_
 rintro _ w ⟨rfl,hc⟩
 refine ⟨_,rfl,fun a hf => ?_⟩
 refine zP hf rfl (pBuildS (cells := [i6 r.1,i6 0,i6 r_1.1,i6 r_2.1,.slice none 0 0]) bt_33 rfl rfl) fun a hf => zA hf hc zr_33 rfl fun b_2 a w hf hc => zW hf hc sz_33 u0 rfl fun w hc => zT h ?_
 refine zS fun K h => zP hf rfl (pFA fa_33_0 rfl) fun a hf => zL hf hc sc_3 m0 rfl fun a w hf hc => sp 1 hf rfl fun a hf => zT h ?_
 refine wp_seq_k fun K4 h4 => zS fun K h => sp 3 hf rfl fun a hf => ?_
 obtain ⟨r_3,hr_3,hF⟩ := bnd_some hF
 refine zC hf en_11 rfl (kit_Stream_Next_ok (⟨s_.bytes,r_2.2.1,r_2.2.2⟩ : kit_Stream) (W (most + 1)) h_s__bytes (hc.pick k1) hr_3) ?_
 rintro _ w ⟨rfl,hc⟩
 refine ⟨_,rfl,fun a hf => ?_⟩
 refine sp 1 hf rfl fun a hf => zT h ?_
 refine wp_block ?_
 obtain ⟨x6,hx6,hF⟩ := bnd_some hF
 let S6 : (Int × Int × Int × Int × (List gauge_Point)) → Act → World → Prop := (fun (zz : Int × Int × Int × Int × (List gauge_Point)) a w => ∃ (p_1 : Option Addr) (c_1 : Nat),Has 44 a [(0,pq b_),(4,pq b_1),(5,pq b_2),(6,i6 zz.1),(19,i6 r_3.1),(20,i6 zz.2.1)] ∧ Ctx G (.row p_1 c_1 (zz.2.2.2.2.map enc_gauge_Point) 57 3::.box b_ [.slice s__bytes_p s_.bytes.length s__bytes_c,i6 zz.2.2.1,i6 zz.2.2.2.1] 53::.box b_2 [i6 r.1,i6 0,i6 r_1.1,i6 r_2.1,.slice p_1 zz.2.2.2.2.length c_1] 33::.box b_1 [i6 0,i6 0,i6 0,i6 0,.slice none 0 0] 33::Lf) w)
 have hr6 : ∀ (zz : Int × Int × Int × Int × (List gauge_Point)) a w,x6 = .go zz → S6 zz a w → K4 a w := by
  rintro ⟨at_,x,b__0,b__1,x_1⟩ a w rfl ⟨p_1,c_1,hf,hc⟩
  replace hF := exK_go hF
  refine h4 _ _ ?_
  refine zS fun K h => sp 2 hf rfl fun a hf => ?_
  obtain ⟨r_4,hr_4,hF⟩ := bnd_some hF
  refine zC hf en_6 rfl (kit_Stream_Within_ok (⟨s_.bytes,b__0,b__1⟩ : kit_Stream) 1 30 h_s__bytes (hc.pick k1) hr_4) ?_
  rintro _ w ⟨rfl,hc⟩
  refine ⟨_,rfl,fun a hf => ?_⟩
  refine sp 1 hf rfl fun a hf => zP hf rfl (pFA fa_33_1 rfl) fun a hf => zW hf hc sz_3 u2 rfl fun w hc => zT h ?_
  refine zS fun K h => zN hf hc ag_33 m2 rfl fun a w hf hc => zW hf hc sz_33 u3 rfl fun w hc => zT h ?_
  refine wp_ret ?_
  obtain rfl := sj hF
  replace hc := ((hc.drop k2).pick k0).pick k1
  exact fnOut1 (by simp) rfl Tryz.results8 hf hc (rv_cellN (vs := [i6 r.1,i6 (W (at_ + r_4.1)),i6 r_1.1,i6 r_2.1,.slice p_1 x_1.length c_1]) ag_33 rfl rfl (cells_box (n := 5) m2 rfl)) ⟨p_1,c_1,rfl,(hc.drop k2)⟩
 have ho6 : ∀ r,x6 = .out r → r = res := by
  rintro r rfl
  exact sj hF
 replace hc := hc.nilRow 57 3
 refine cLoop N (loopW (S := S6) (x := x6) ?_ N (r.1,0,r_3.2.1,r_3.2.2,([] : List gauge_Point)) _ _ ⟨none,0,hf.kp rfl,hc⟩ hx6)
 clear hF hf hc
 rintro ⟨at_,x,b__0,b__1,x_1⟩ st6 a w KB6 ⟨p_1,c_1,hf,hc⟩ hF hfin6 hK6
 unfold law03_Sited_b6 at hF
 refine zS fun K h => sp 1 hf rfl fun a hf => zT h ?_
 refine wp_seq_k fun K10 h10 => zI hf rfl hF ?_ ?_ <;> clear hF <;> intro hF
 ·refine wp_skip ?_
  refine h10 _ _ ?_
  refine wp_seq_k fun K11 h11 => wp_block ?_
  refine zS fun K h => sp 2 hf rfl fun a hf => ?_
  obtain ⟨r_5,hr_5,hF⟩ := bnd_some hF
  refine zC hf en_6 rfl (kit_Stream_Within_ok (⟨s_.bytes,b__0,b__1⟩ : kit_Stream) 1 30 h_s__bytes (hc.pick k1) hr_5) ?_
  rintro _ w ⟨rfl,hc⟩
  refine ⟨_,rfl,fun a hf => ?_⟩
  refine sp 2 hf rfl fun a hf => zT h ?_
  obtain ⟨r_6,hr_6,hF⟩ := bnd_some hF
  obtain ⟨r_7,hr_7,hF⟩ := bnd_some hF
  obtain ⟨un,hun,hF⟩ := bnd_some hF
  replace hc := hc.nilRow 0 0
  refine regionE (fun θ => [⟨none,none,0,pq b_⟩,⟨none,none,4,pq b_1⟩,⟨none,none,5,pq b_2⟩,⟨none,none,6,i6 (W (at_ + r_5.1))⟩,⟨none,none,19,i6 r_3.1⟩,⟨none,none,20,i6 x⟩,⟨some 0,none,26,.pointer (some ⟨b_2,4,none⟩)⟩,⟨some 1,none,27,.slice p_1 x_1.length c_1⟩,⟨some 2,none,28,i6 (W (at_ + r_5.1))⟩,⟨some 3,none,29,pq b_⟩,⟨some 4,none,30,i6 r_6.1⟩,⟨some 5,none,31,pq b_⟩,⟨some 6,none,32,i6 r_7.1⟩,⟨some 7,none,33,.agg #[i6 (W (at_ + r_5.1)),i6 r_6.1,i6 r_7.1]⟩,⟨some 8,none,34,.slice (some ⟨(θ 64).b,0,none⟩) 1 1⟩,⟨some 9,none,35,.slice ((θ 72).p) ((x_1 ++ [(⟨W (at_ + r_5.1),r_6.1,r_7.1⟩ : gauge_Point)]).length) ((θ 72).c)⟩,⟨some 10,none,36,.pointer (some ⟨b_2,4,none⟩)⟩]) (fun E θ => (bif E 8 then .row (some ⟨(θ 64).b,0,none⟩) 1 (([(⟨W (at_ + r_5.1),r_6.1,r_7.1⟩ : gauge_Point)] : List gauge_Point).map enc_gauge_Point) 57 3 else .row none 0 [] 0 0)::(bif E 6 then .box b_ [.slice s__bytes_p s_.bytes.length s__bytes_c,i6 r_7.2.1,i6 r_7.2.2] 53 else bif E 4 then .box b_ [.slice s__bytes_p s_.bytes.length s__bytes_c,i6 r_6.2.1,i6 r_6.2.2] 53 else .box b_ [.slice s__bytes_p s_.bytes.length s__bytes_c,i6 r_5.2.1,i6 r_5.2.2] 53)::(bif E 9 then .row ((θ 72).p) ((θ 72).c) ((x_1 ++ [(⟨W (at_ + r_5.1),r_6.1,r_7.1⟩ : gauge_Point)]).map enc_gauge_Point) 57 3 else .row p_1 c_1 (x_1.map enc_gauge_Point) 57 3)::(bif E 11 then .box b_2 [i6 r.1,i6 0,i6 r_1.1,i6 r_2.1,.slice ((θ 72).p) ((x_1 ++ [(⟨W (at_ + r_5.1),r_6.1,r_7.1⟩ : gauge_Point)]).length) ((θ 72).c)] 33 else .box b_2 [i6 r.1,i6 0,i6 r_1.1,i6 r_2.1,.slice p_1 x_1.length c_1] 33)::.box b_1 [i6 0,i6 0,i6 0,i6 0,.slice none 0 0] 33::Lf) [(11,1),(6,4),(9,6),(11,9)] (fun a w => ∃ (b_4 : Nat) (p_3 : Option Addr) (c_3 : Nat),Has 44 a [(0,pq b_),(4,pq b_1),(5,pq b_2),(6,i6 (W (at_ + r_5.1))),(19,i6 r_3.1),(20,i6 x)] ∧ Ctx G (.row (some ⟨b_4,0,none⟩) 1 (([(⟨W (at_ + r_5.1),r_6.1,r_7.1⟩ : gauge_Point)] : List gauge_Point).map enc_gauge_Point) 57 3::.box b_ [.slice s__bytes_p s_.bytes.length s__bytes_c,i6 r_7.2.1,i6 r_7.2.2] 53::.row p_3 c_3 ((x_1 ++ [(⟨W (at_ + r_5.1),r_6.1,r_7.1⟩ : gauge_Point)]).map enc_gauge_Point) 57 3::.box b_2 [i6 r.1,i6 0,i6 r_1.1,i6 r_2.1,.slice p_3 ((x_1 ++ [(⟨W (at_ + r_5.1),r_6.1,r_7.1⟩ : gauge_Point)]).length) c_3] 33::.box b_1 [i6 0,i6 0,i6 0,i6 0,.slice none 0 0] 33::Lf) w) follows_mx (by kernel_rfl) (by kernel_rfl) (HasE.of hf ⟨rfl,rfl,rfl,rfl,rfl,rfl,trivial,trivial,trivial,trivial,trivial,trivial,trivial,trivial,trivial,trivial,trivial,trivial⟩) hc ⟨?_,?_,?_,?_,?_,?_,?_,?_,?_,?_,?_,?_,trivial⟩ ?_ ?_
  ·intro E θ a w hD hi hp he hc
   have hf := he.h0.mT he 2 rfl
   refine zP hf rfl (pFA fa_33_4 rfl) fun a hf => zD θ he hi hf 6 rfl rfl rfl hc
  ·intro E θ a w hD hi hp he hc
   have e0 := hp.o 0 rfl
   have e11 := hD.f 0 rfl hi
   try dsimp only at hc
   rw [e11] at hc
   have hf := he.h0.mP he 6 rfl e0
   refine zL hf hc sc_31 m3 rfl fun a w hf hc => zD θ he hi hf 7 rfl rfl rfl ?_
   try dsimp only
   rw [updE_fls 1 e11 rfl]
   exact hc
  ·intro E θ a w hD hi hp he hc
   have hf := he.h0.mT he 3 rfl
   refine sp 1 hf rfl fun a hf => zD θ he hi hf 8 rfl rfl rfl hc
  ·intro E θ a w hD hi hp he hc
   have hf := he.h0.mT he 0 rfl
   refine sp 1 hf rfl fun a hf => zD θ he hi hf 9 rfl rfl rfl hc
  ·intro E θ a w hD hi hp he hc
   have e3 := hp.o 3 rfl
   have e6 := hD.f 1 rfl hi
   have e9 := hD.f 2 rfl e6
   try dsimp only at hc
   rw [hi,e6,e9] at hc
   have hf := he.h0.mP he 9 rfl e3
   refine zC hf en_11 rfl (kit_Stream_Next_ok (⟨s_.bytes,r_5.2.1,r_5.2.2⟩ : kit_Stream) 100 h_s__bytes (hc.pick k1) hr_6) ?_
   rintro _ w ⟨rfl,hc⟩
   refine ⟨_,rfl,fun a hf => ?_⟩
   refine cNil ?_
   refine xThenN ?_
   intro ds u hau
   replace hc := (hc.pick k0).pick k1
   refine ⟨θ,he.put0 hi hau hf rfl 10 rfl rfl,?_⟩
   try dsimp only
   rw [updE_self E 4,updE_fls 4 e6 rfl,updE_fls 4 e9 rfl]
   exact hc
  ·intro E θ a w hD hi hp he hc
   have hf := he.h0.mT he 0 rfl
   refine sp 1 hf rfl fun a hf => zD θ he hi hf 11 rfl rfl rfl hc
  ·intro E θ a w hD hi hp he hc
   have e5 := hp.o 5 rfl
   have e4 := hp.o 4 rfl
   have e9 := hD.f 2 rfl hi
   try dsimp only at hc
   rw [e4,hi,e9] at hc
   have hf := he.h0.mP he 11 rfl e5
   refine zC hf en_11 rfl (kit_Stream_Next_ok (⟨s_.bytes,r_6.2.1,r_6.2.2⟩ : kit_Stream) 40 h_s__bytes (hc.pick k1) hr_7) ?_
   rintro _ w ⟨rfl,hc⟩
   refine ⟨_,rfl,fun a hf => ?_⟩
   refine cNil ?_
   refine xThenN ?_
   intro ds u hau
   replace hc := (hc.pick k0).pick k1
   refine ⟨θ,he.put0 hi hau hf rfl 12 rfl rfl,?_⟩
   try dsimp only
   rw [updE_tru 6 e4,updE_self E 6,updE_fls 6 e9 rfl]
   exact hc
  ·intro E θ a w hD hi hp he hc
   have e2 := hp.o 2 rfl
   have e4 := hp.o 4 rfl
   have e6 := hp.o 6 rfl
   have hf := ((he.h0.mP he 8 rfl e2).mP he 10 rfl e4).mP he 12 rfl e6
   refine zP hf rfl (pBuildS (cells := [i6 (W (at_ + r_5.1)),i6 r_6.1,i6 r_7.1]) bt_57 rfl rfl) fun a hf => zD θ he hi hf 13 rfl rfl rfl hc
  ·intro E θ a w hD hi hp he hc
   have e7 := hp.o 7 rfl
   try dsimp only at hc
   rw [hi] at hc
   have hf := he.h0.mP he 13 rfl e7
   refine stBS (rows := ([(⟨W (at_ + r_5.1),r_6.1,r_7.1⟩ : gauge_Point)] : List gauge_Point).map enc_gauge_Point) (vs := [(0,.agg #[i6 (W (at_ + r_5.1)),i6 r_6.1,i6 r_7.1])]) hf hc rfl rfl sl_31 rfl ⟨rfl,rfl,rfl,trivial⟩ rfl rfl fun b_3 a w hf hc => cNil ?_
   refine xThenN ?_
   intro ds u hau
   replace hc := hc.drop k1
   refine ⟨(setT θ 64 ⟨b_3,none,0,(fun _ => (none,0))⟩),he.put hi hau hf rfl [] trivial ⟨qq,qq,qq,qq,qq,qq,qq,qq,qq,qq,qq,qq,qq,qq,qq,qq,qq,trivial⟩,?_⟩
   try dsimp only
   rw [updE_self E 8]
   exact hc
  ·intro E θ a w hD hi hp he hc
   have e1 := hp.o 1 rfl
   have e8 := hp.o 8 rfl
   have e11 := hD.f 3 rfl hi
   try dsimp only at hc
   rw [e8,hi,e11] at hc
   have hf := (he.h0.mP he 7 rfl e1).mP he 14 rfl e8
   refine stApm (xs := x_1) (ys := ([(⟨W (at_ + r_5.1),r_6.1,r_7.1⟩ : gauge_Point)] : List gauge_Point)) hf hc rfl rfl sl_31 rfl rfl rfl rfl rfl one_enc_gauge_Point (src_row hc m0) (fun _ _ => u2) (by simpa using room_spec hun) fun p_2 c_2 a w hf hc => cNil ?_
   refine xThenN ?_
   intro ds u hau
   refine ⟨(setT θ 72 ⟨0,p_2,c_2,(fun _ => (none,0))⟩),he.put hi hau hf rfl [] trivial ⟨qq,qq,qq,qq,qq,qq,qq,qq,qq,qq,qq,qq,qq,qq,qq,qq,qq,trivial⟩,?_⟩
   try dsimp only
   rw [updE_tru 9 e8,updE_self E 9,updE_fls 9 e11 rfl]
   exact hc
  ·intro E θ a w hD hi hp he hc
   have hf := he.h0.mT he 2 rfl
   refine zP hf rfl (pFA fa_33_4 rfl) fun a hf => zD θ he hi hf 16 rfl rfl rfl hc
  ·intro E θ a w hD hi hp he hc
   have e9 := hp.o 9 rfl
   have e10 := hp.o 10 rfl
   try dsimp only at hc
   rw [hi] at hc
   have hf := (he.h0.mP he 15 rfl e9).mP he 16 rfl e10
   refine zW hf hc sz_31 u3 rfl fun w hc => zG θ he hi hf rfl ?_
   try dsimp only
   rw [updE_self E 11]
   exact hc
  ·intro E θ a w hall he hc
   have hf := he.h0
   have e4 := hall 4 rfl
   have e6 := hall 6 rfl
   have e8 := hall 8 rfl
   have e9 := hall 9 rfl
   have e11 := hall 11 rfl
   replace hf := hf.more he 5 rfl (onT)
   replace hf := hf.more he 4 rfl (onT)
   replace hf := hf.more he 3 rfl (onT)
   replace hf := hf.more he 2 rfl (onT)
   replace hf := hf.more he 1 rfl (onT)
   replace hf := hf.more he 0 rfl (onT)
   try dsimp only at hc
   rw [e4,e6,e8,e9,e11] at hc
   exact ⟨(θ 64).b,(θ 72).p,(θ 72).c,hf.kp rfl,hc⟩
  rintro a w ⟨b_4,p_3,c_3,hf,hc⟩
  refine h11 _ _ ?_
  refine cReg ?_
  refine sp 2 hf rfl fun a hf => cNil ?_
  replace hc := ((hc.drop k0).pick k0).pick k1
  exact hK6 (W (at_ + r_5.1),W (x + 1),r_7.2.1,r_7.2.2,(x_1 ++ [(⟨W (at_ + r_5.1),r_6.1,r_7.1⟩ : gauge_Point)])) _ _ (sj hF).symm ⟨p_3,c_3,hf.kp rfl,hc⟩
 ·refine wp_exit ?_
  refine xThen ?_
  refine xThen ?_
  have he := sj hF
  rw [← he] at hfin6
  refine cHit ?_
  exact hr6 _ _ _ hfin6 ⟨p_1,c_1,hf.kp rfl,hc⟩

def gauge_in (n : Int) (least : Int) (greatest : Int) : Bool :=
 ((decide (least ≤ n)) && (decide (n ≤ greatest)))
theorem gauge_in_ok {G : Pers} {Lf : List Ent} {w : World} (n : Int) (least : Int) (greatest : Int)   (hc : Ctx G (Lf) w) {res : Bool} (hF : gauge_in n least greatest = res) : Calls Tryz.prog 23 #[i6 n,i6 least,i6 greatest] w (fun e w => e = .returned (.bool res) ∧ Ctx G (Lf) w) := by
 unfold gauge_in at hF
 refine fnIn Tryz.func23 rfl Tryz.ntmps23 rfl fun a hf => zS fun K h => sp 1 hf rfl fun a hf => zT h ?_
 refine zS fun K h => sp 4 hf rfl fun a hf => stCc 4 (fun a => Has 15 a [(0,i6 n),(1,i6 least),(2,i6 greatest),(6,.bool false),(7,i6 n),(8,i6 least),(9,.bool (decide (least ≤ n))),(10,.bool (decide (least ≤ n))),(14,.bool ((decide (least ≤ n)) && (decide (n ≤ greatest))))]) hc ?_ ?_
 ·cases hb : (decide (least ≤ n))
  ·rw [hb] at hf
   refine stS hf rfl rfl rfl fun a hf => stS hf rfl rfl rfl fun a hf => stS hf rfl rfl rfl fun a hf => sp 1 hf rfl fun a hf => cNil ⟨hf.kp rfl,hc⟩
  ·rw [hb] at hf
   refine sp 4 hf rfl fun a hf => cNil ⟨hf.kp rfl,hc⟩
 intro a w ⟨hf,hc⟩
 refine sp 1 hf rfl fun a hf => zT h ?_
 refine wp_ret ?_
 obtain rfl := hF
 exact zO1 Tryz.results23 hf rfl ⟨rfl,hc⟩

def gauge_shore (left : Int) (right : Int) : Bool :=
 ((gauge_in right 1 10000) && (gauge_in left 0 (W (right - 1))))
theorem gauge_shore_ok {G : Pers} {Lf : List Ent} {w : World} (left : Int) (right : Int)   (hc : Ctx G (Lf) w) {res : Bool} (hF : gauge_shore left right = res) : Calls Tryz.prog 50 #[i6 left,i6 right] w (fun e w => e = .returned (.bool res) ∧ Ctx G (Lf) w) := by
 unfold gauge_shore at hF
 refine fnIn Tryz.func50 rfl Tryz.ntmps50 rfl fun a hf => zS fun K h => sp 1 hf rfl fun a hf => zT h ?_
 refine zS fun K h => sp 1 hf rfl fun a hf => zQ (v := .bool (gauge_in right 1 10000)) hf hc en_23 rfl (fun w hc => gauge_in_ok right 1 10000 hc rfl) fun a w hf hc => sp 1 hf rfl fun a hf => stCc 5 (fun a => Has 13 a [(0,i6 left),(1,i6 right),(4,.bool false),(5,i6 right),(6,.bool (gauge_in right 1 10000)),(7,.bool (gauge_in right 1 10000)),(12,.bool ((gauge_in right 1 10000) && (gauge_in left 0 (W (right - 1)))))]) hc ?_ ?_
 ·cases hb : (gauge_in right 1 10000)
  ·rw [hb] at hf
   refine stS hf rfl rfl rfl fun a hf => stS hf rfl rfl rfl fun a hf => stS hf rfl rfl rfl fun a hf => stS hf rfl rfl rfl fun a hf => sp 1 hf rfl fun a hf => cNil ⟨hf.kp rfl,hc⟩
  ·rw [hb] at hf
   refine sp 3 hf rfl fun a hf => zQ (v := .bool (gauge_in left 0 (W (right - 1)))) hf hc en_23 rfl (fun w hc => gauge_in_ok left 0 (W (right - 1)) hc rfl) fun a w hf hc => sp 1 hf rfl fun a hf => cNil ⟨hf.kp rfl,hc⟩
 intro a w ⟨hf,hc⟩
 refine sp 1 hf rfl fun a hf => zT h ?_
 refine wp_ret ?_
 obtain rfl := hF
 exact zO1 Tryz.results50 hf rfl ⟨rfl,hc⟩

def gauge_CheckSite_1 (p_ : gauge_Point) (x : gauge_Site) : Bool :=
 (((gauge_in p_.At (W (x.Left + 1)) (W (x.Right - 1))) && (gauge_in p_.Depth 0 2000)) && (gauge_in p_.Cost 0 1000000))
theorem gauge_CheckSite_1_ok {G : Pers} {Lf : List Ent} {w : World} (p_ : gauge_Point) (x : gauge_Site) {b_ : Nat} {x_Points_p : Option Addr} {x_Points_c : Nat} (h_x_Points : Rd G 3 x_Points_p x_Points_c (x.Points.map enc_gauge_Point)) (hc : Ctx G (.box b_ [i6 x.Left,i6 x.Right,i6 x.Gap,i6 x.Step_,.slice x_Points_p x.Points.length x_Points_c] 33::Lf) w) {res : Bool} (hF : gauge_CheckSite_1 p_ x = res) : Calls Tryz.prog 52 #[.agg #[i6 p_.At,i6 p_.Depth,i6 p_.Cost],pq b_] w (fun e w => e = .returned (.bool res) ∧ Ctx G (.box b_ [i6 x.Left,i6 x.Right,i6 x.Gap,i6 x.Step_,.slice x_Points_p x.Points.length x_Points_c] 33::Lf) w) := by
 unfold gauge_CheckSite_1 at hF
 refine fnIn Tryz.func52 rfl Tryz.ntmps52 rfl fun a hf => zS fun K h => zB hf hc rfl fun b_1 a w hf hc => sp 1 hf rfl fun a hf => zT h ?_
 refine zS fun K h => zP hf rfl (pFA fa_57_0 rfl) fun a hf => zL hf hc sc_3 m0 rfl fun a w hf hc => zP hf rfl (pFA fa_33_0 rfl) fun a hf => zL hf hc sc_3 m1 rfl fun a w hf hc => sp 1 hf rfl fun a hf => zP hf rfl (pFA fa_33_1 rfl) fun a hf => zL hf hc sc_3 m1 rfl fun a w hf hc => sp 1 hf rfl fun a hf => zQ (v := .bool (gauge_in p_.At (W (x.Left + 1)) (W (x.Right - 1)))) hf hc en_23 rfl (fun w hc => gauge_in_ok p_.At (W (x.Left + 1)) (W (x.Right - 1)) hc rfl) fun a w hf hc => sp 1 hf rfl fun a hf => stCc 4 (fun a => Has 23 a [(1,pq b_),(2,pq b_1),(3,.bool false),(4,pq b_1),(5,i6 p_.At),(6,pq b_),(7,i6 x.Left),(8,i6 (W (x.Left + 1))),(9,.pointer (some ⟨b_,1,none⟩)),(10,i6 x.Right),(11,i6 (W (x.Right - 1))),(12,.bool (gauge_in p_.At (W (x.Left + 1)) (W (x.Right - 1)))),(13,.bool (gauge_in p_.At (W (x.Left + 1)) (W (x.Right - 1)))),(17,.bool ((gauge_in p_.At (W (x.Left + 1)) (W (x.Right - 1))) && (gauge_in p_.Depth 0 2000)))]) hc ?_ ?_
 ·cases hb : (gauge_in p_.At (W (x.Left + 1)) (W (x.Right - 1)))
  ·rw [hb] at hf
   refine stS hf rfl rfl rfl fun a hf => stS hf rfl rfl rfl fun a hf => stS hf rfl rfl rfl fun a hf => sp 1 hf rfl fun a hf => cNil ⟨hf.kp rfl,hc⟩
  ·rw [hb] at hf
   refine zP hf rfl (pFA fa_57_1 rfl) fun a hf => zL hf hc sc_3 m0 rfl fun a w hf hc => zQ (v := .bool (gauge_in p_.Depth 0 2000)) hf hc en_23 rfl (fun w hc => gauge_in_ok p_.Depth 0 2000 hc rfl) fun a w hf hc => sp 1 hf rfl fun a hf => cNil ⟨hf.kp rfl,hc⟩
 intro a w ⟨hf,hc⟩
 refine sp 1 hf rfl fun a hf => stCc 4 (fun a => Has 23 a [(1,pq b_),(2,pq b_1),(3,.bool false),(4,pq b_1),(5,i6 p_.At),(6,pq b_),(7,i6 x.Left),(8,i6 (W (x.Left + 1))),(9,.pointer (some ⟨b_,1,none⟩)),(10,i6 x.Right),(11,i6 (W (x.Right - 1))),(12,.bool (gauge_in p_.At (W (x.Left + 1)) (W (x.Right - 1)))),(13,.bool (gauge_in p_.At (W (x.Left + 1)) (W (x.Right - 1)))),(17,.bool ((gauge_in p_.At (W (x.Left + 1)) (W (x.Right - 1))) && (gauge_in p_.Depth 0 2000))),(18,.bool ((gauge_in p_.At (W (x.Left + 1)) (W (x.Right - 1))) && (gauge_in p_.Depth 0 2000))),(22,.bool (((gauge_in p_.At (W (x.Left + 1)) (W (x.Right - 1))) && (gauge_in p_.Depth 0 2000)) && (gauge_in p_.Cost 0 1000000)))]) hc ?_ ?_
 ·cases hb : ((gauge_in p_.At (W (x.Left + 1)) (W (x.Right - 1))) && (gauge_in p_.Depth 0 2000))
  ·rw [hb] at hf
   refine stS hf rfl rfl rfl fun a hf => stS hf rfl rfl rfl fun a hf => stS hf rfl rfl rfl fun a hf => sp 1 hf rfl fun a hf => cNil ⟨hf.kp rfl,hc⟩
  ·rw [hb] at hf
   refine zP hf rfl (pFA fa_57_2 rfl) fun a hf => zL hf hc sc_3 m0 rfl fun a w hf hc => zQ (v := .bool (gauge_in p_.Cost 0 1000000)) hf hc en_23 rfl (fun w hc => gauge_in_ok p_.Cost 0 1000000 hc rfl) fun a w hf hc => sp 1 hf rfl fun a hf => cNil ⟨hf.kp rfl,hc⟩
 intro a w ⟨hf,hc⟩
 refine sp 1 hf rfl fun a hf => zT h ?_
 refine wp_ret ?_
 obtain rfl := hF
 replace hc := hc.drop k0
 exact zO1 Tryz.results52 hf rfl ⟨rfl,hc⟩

def gauge_every_gauge_Point_1 (x : gauge_Point) (x_1 : gauge_Site) : Bool :=
 (!(gauge_CheckSite_1 x x_1))
theorem gauge_every_gauge_Point_1_ok {G : Pers} {Lf : List Ent} {w : World} (x : gauge_Point) (x_1 : gauge_Site) {b_ : Nat} {b__1 : Nat} {x_1_Points_p : Option Addr} {x_1_Points_c : Nat} (h_x_1_Points : Rd G 3 x_1_Points_p x_1_Points_c (x_1.Points.map enc_gauge_Point)) (hc : Ctx G (.box b_ [.func (.func 52) #[] #[pq b__1]] 102::.box b__1 [i6 x_1.Left,i6 x_1.Right,i6 x_1.Gap,i6 x_1.Step_,.slice x_1_Points_p x_1.Points.length x_1_Points_c] 33::Lf) w) {res : Bool} (hF : gauge_every_gauge_Point_1 x x_1 = res) : Calls Tryz.prog 77 #[.agg #[i6 x.At,i6 x.Depth,i6 x.Cost],pq b_] w (fun e w => e = .returned (.bool res) ∧ Ctx G (.box b_ [.func (.func 52) #[] #[pq b__1]] 102::.box b__1 [i6 x_1.Left,i6 x_1.Right,i6 x_1.Gap,i6 x_1.Step_,.slice x_1_Points_p x_1.Points.length x_1_Points_c] 33::Lf) w) := by
 unfold gauge_every_gauge_Point_1 at hF
 refine fnIn Tryz.func77 rfl Tryz.ntmps77 rfl fun a hf => zS fun K h => zB hf hc rfl fun b_1 a w hf hc => sp 1 hf rfl fun a hf => zT h ?_
 refine zS fun K h => zL hf hc sc_102 m1 rfl fun a w hf hc => zN hf hc ag_57 m0 rfl fun a w hf hc => zQ (v := .bool (gauge_CheckSite_1 x x_1)) hf hc en_52 rfl (fun w hc => (gauge_CheckSite_1_ok x x_1 h_x_1_Points (hc.pick k2) rfl).mono fun e w h => ⟨h.1,(h.2.unpick k2)⟩) fun a w hf hc => sp 2 hf rfl fun a hf => zT h ?_
 refine wp_ret ?_
 obtain rfl := hF
 replace hc := hc.drop k0
 exact zO1 Tryz.results77 hf rfl ⟨rfl,hc⟩

def slices_IndexFunc_Lgauge_Point_gauge_Point_b4 (N : Nat) (s_ : List gauge_Point) (f_ : gauge_Site) (x : Int) : Option (Step (Int) (Int)) :=
 cond (decide (x < ((s_.length : Nat) : Int)))
 (Option.bind (getI s_ x) fun e_1 =>
 cond (gauge_every_gauge_Point_1 e_1 f_)
 (some (.ret x))
 (some (.cont (W (x + 1)))))
 (some (.brk x))
def slices_IndexFunc_Lgauge_Point_gauge_Point (N : Nat) (s_ : List gauge_Point) (f_ : gauge_Site) : Option (Int) :=
 Option.bind (loopO (fun s4 => slices_IndexFunc_Lgauge_Point_gauge_Point_b4 N s_ f_ s4) N 0) fun x4 =>
 exK x4 (fun s4 => some (-1)) some
theorem slices_IndexFunc_Lgauge_Point_gauge_Point_ok {N : Nat} {G : Pers} {Lf : List Ent} {w : World} (s_ : List gauge_Point) (f_ : gauge_Site) {s__p : Option Addr} {s__c : Nat} {b_ : Nat} {b__1 : Nat} {f__Points_p : Option Addr} {f__Points_c : Nat} (h_s_ : Rd G 3 s__p s__c (s_.map enc_gauge_Point)) (h_f__Points : Rd G 3 f__Points_p f__Points_c (f_.Points.map enc_gauge_Point)) (hc : Ctx G (.box b_ [.func (.func 52) #[] #[pq b__1]] 102::.box b__1 [i6 f_.Left,i6 f_.Right,i6 f_.Gap,i6 f_.Step_,.slice f__Points_p f_.Points.length f__Points_c] 33::Lf) w) {res : Int} (hF : slices_IndexFunc_Lgauge_Point_gauge_Point N s_ f_ = some res) : Calls Tryz.prog 95 #[.slice s__p s_.length s__c,.func (.func 77) #[] #[pq b_]] w (fun e w => e = .returned (i6 res) ∧ Ctx G (.box b_ [.func (.func 52) #[] #[pq b__1]] 102::.box b__1 [i6 f_.Left,i6 f_.Right,i6 f_.Gap,i6 f_.Step_,.slice f__Points_p f_.Points.length f__Points_c] 33::Lf) w) := by
 unfold slices_IndexFunc_Lgauge_Point_gauge_Point at hF
 refine fnIn Tryz.func95 rfl Tryz.ntmps95 rfl fun a hf => zS fun K h => sp 1 hf rfl fun a hf => zT h ?_
 refine wp_seq_k fun K2 h2 => zS fun K h => sp 1 hf rfl fun a hf => zP hf rfl (pLenS Tryz.underlying31 rfl) fun a hf => sp 1 hf rfl fun a hf => zT h ?_
 refine wp_block ?_
 obtain ⟨x4,hx4,hF⟩ := bnd_some hF
 let S4 : Int → Act → World → Prop := (fun (zz : Int) a w => Has 19 a [(0,.slice s__p s_.length s__c),(1,.func (.func 77) #[] #[pq b_]),(7,i6 ((s_.length : Nat) : Int)),(8,i6 zz)] ∧ Ctx G (.box b_ [.func (.func 52) #[] #[pq b__1]] 102::.box b__1 [i6 f_.Left,i6 f_.Right,i6 f_.Gap,i6 f_.Step_,.slice f__Points_p f_.Points.length f__Points_c] 33::Lf) w)
 have hr4 : ∀ (zz : Int) a w,x4 = .go zz → S4 zz a w → K2 a w := by
  rintro x a w rfl ⟨hf,hc⟩
  replace hF := exK_go hF
  refine h2 _ _ ?_
  refine zS fun K h => sp 1 hf rfl fun a hf => zT h ?_
  refine wp_ret ?_
  obtain rfl := sj hF
  exact zO1 Tryz.results95 hf rfl ⟨rfl,hc⟩
 have ho4 : ∀ r,x4 = .out r → r = res := by
  rintro r rfl
  exact sj hF
 refine cLoop N (loopW (S := S4) (x := x4) ?_ N 0 _ _ ⟨hf.kp rfl,hc⟩ hx4)
 clear hF hf hc
 rintro x st4 a w KB4 ⟨hf,hc⟩ hF hfin4 hK4
 unfold slices_IndexFunc_Lgauge_Point_gauge_Point_b4 at hF
 refine zS fun K h => sp 1 hf rfl fun a hf => zT h ?_
 refine wp_seq_k fun K7 h7 => zI hf rfl hF ?_ ?_ <;> clear hF <;> intro hF
 ·refine wp_skip ?_
  refine h7 _ _ ?_
  refine wp_seq_k fun K8 h8 => wp_block ?_
  refine zS fun K h => sp 2 hf rfl fun a hf => zT h ?_
  refine zS fun K h => sp 3 hf rfl fun a hf => ?_
  obtain ⟨e_1,he_1,hF⟩ := bnd_some hF
  obtain ⟨b_1,o,qa,qp⟩ := h_s_.atm he_1
  refine zP hf rfl (pIA Tryz.underlying31 sz_57 rfl rfl qa) fun a hf => zE hf hc rfl (eLdN (vs := [i6 e_1.At,i6 e_1.Depth,i6 e_1.Cost]) ag_57 rfl rfl (cells_pc qp (n := 3) (o' := 0) rfl)) fun a w hf hc => zQ (v := .bool (gauge_every_gauge_Point_1 e_1 f_)) hf hc en_77 rfl (fun w hc => (gauge_every_gauge_Point_1_ok e_1 f_ h_f__Points ((hc.pick k1).pick k1) rfl).mono fun e w h => ⟨h.1,((h.2.unpick k1).unpick k1)⟩) fun a w hf hc => zT h ?_
  refine zI hf rfl hF ?_ ?_ <;> clear hF <;> intro hF
  ·refine zS fun K h => sp 2 hf rfl fun a hf => zT h ?_
   refine wp_ret ?_
   refine xBlkR ?_
   refine xThenR ?_
   refine xThenR ?_
   have he := sj hF
   rw [← he] at hfin4
   replace hF := ho4 _ hfin4
   refine xBlkR ?_
   refine xThenR ?_
   obtain rfl := hF
   exact zO1 Tryz.results95 hf rfl ⟨rfl,hc⟩
  ·refine wp_skip ?_
   refine h8 _ _ ?_
   refine cReg ?_
   refine sp 2 hf rfl fun a hf => cNil ?_
   exact hK4 (W (x + 1)) _ _ (sj hF).symm ⟨hf.kp rfl,hc⟩
 ·refine wp_exit ?_
  refine xThen ?_
  refine xThen ?_
  have he := sj hF
  rw [← he] at hfin4
  refine cHit ?_
  exact hr4 _ _ _ hfin4 ⟨hf.kp rfl,hc⟩

def slices_ContainsFunc_Lgauge_Point_gauge_Point (N : Nat) (s_ : List gauge_Point) (f_ : gauge_Site) : Option (Bool) :=
 Option.bind (slices_IndexFunc_Lgauge_Point_gauge_Point N s_ f_) fun r =>
 some (decide (0 ≤ r))
theorem slices_ContainsFunc_Lgauge_Point_gauge_Point_ok {N : Nat} {G : Pers} {Lf : List Ent} {w : World} (s_ : List gauge_Point) (f_ : gauge_Site) {s__p : Option Addr} {s__c : Nat} {b_ : Nat} {b__1 : Nat} {f__Points_p : Option Addr} {f__Points_c : Nat} (h_s_ : Rd G 3 s__p s__c (s_.map enc_gauge_Point)) (h_f__Points : Rd G 3 f__Points_p f__Points_c (f_.Points.map enc_gauge_Point)) (hc : Ctx G (.box b_ [.func (.func 52) #[] #[pq b__1]] 102::.box b__1 [i6 f_.Left,i6 f_.Right,i6 f_.Gap,i6 f_.Step_,.slice f__Points_p f_.Points.length f__Points_c] 33::Lf) w) {res : Bool} (hF : slices_ContainsFunc_Lgauge_Point_gauge_Point N s_ f_ = some res) : Calls Tryz.prog 76 #[.slice s__p s_.length s__c,.func (.func 77) #[] #[pq b_]] w (fun e w => e = .returned (.bool res) ∧ Ctx G (.box b_ [.func (.func 52) #[] #[pq b__1]] 102::.box b__1 [i6 f_.Left,i6 f_.Right,i6 f_.Gap,i6 f_.Step_,.slice f__Points_p f_.Points.length f__Points_c] 33::Lf) w) := by
 unfold slices_ContainsFunc_Lgauge_Point_gauge_Point at hF
 refine fnIn Tryz.func76 rfl Tryz.ntmps76 rfl fun a hf => zS fun K h => sp 1 hf rfl fun a hf => zT h ?_
 refine zS fun K h => sp 2 hf rfl fun a hf => ?_
 obtain ⟨r,hr,hF⟩ := bnd_some hF
 refine zQ (v := i6 r) hf hc en_95 rfl (fun w hc => (slices_IndexFunc_Lgauge_Point_gauge_Point_ok s_ f_ h_s_ h_f__Points ((hc.pick k1).pick k1) hr).mono fun e w h => ⟨h.1,((h.2.unpick k1).unpick k1)⟩) fun a w hf hc => sp 2 hf rfl fun a hf => zT h ?_
 refine wp_ret ?_
 obtain rfl := sj hF
 exact zO1 Tryz.results76 hf rfl ⟨rfl,hc⟩

def gauge_every_gauge_Point (N : Nat) (l : List gauge_Point) (so : gauge_Site) : Option (Bool) :=
 Option.bind (slices_ContainsFunc_Lgauge_Point_gauge_Point N l so) fun r =>
 some (!r)
theorem gauge_every_gauge_Point_ok {N : Nat} {G : Pers} {Lf : List Ent} {w : World} (l : List gauge_Point) (so : gauge_Site) {l_p : Option Addr} {l_c : Nat} {b_ : Nat} {so_Points_p : Option Addr} {so_Points_c : Nat} (h_l : Rd G 3 l_p l_c (l.map enc_gauge_Point)) (h_so_Points : Rd G 3 so_Points_p so_Points_c (so.Points.map enc_gauge_Point)) (hc : Ctx G (.box b_ [i6 so.Left,i6 so.Right,i6 so.Gap,i6 so.Step_,.slice so_Points_p so.Points.length so_Points_c] 33::Lf) w) {res : Bool} (hF : gauge_every_gauge_Point N l so = some res) : Calls Tryz.prog 51 #[.slice l_p l.length l_c,.func (.func 52) #[] #[pq b_]] w (fun e w => e = .returned (.bool res) ∧ Ctx G (.box b_ [i6 so.Left,i6 so.Right,i6 so.Gap,i6 so.Step_,.slice so_Points_p so.Points.length so_Points_c] 33::Lf) w) := by
 unfold gauge_every_gauge_Point at hF
 refine fnIn Tryz.func51 rfl Tryz.ntmps51 rfl fun a hf => zS fun K h => zB hf hc rfl fun b_1 a w hf hc => sp 1 hf rfl fun a hf => zT h ?_
 refine zS fun K h => sp 1 hf rfl fun a hf => zP hf rfl (pMF (us := [pq b_1]) rfl rfl) fun a hf => ?_
 obtain ⟨r,hr,hF⟩ := bnd_some hF
 refine zQ (v := .bool r) hf hc en_76 rfl (fun w hc => (slices_ContainsFunc_Lgauge_Point_gauge_Point_ok l so h_l h_so_Points ((hc.pick k1).pick k1) hr).mono fun e w h => ⟨h.1,((h.2.unpick k1).unpick k1)⟩) fun a w hf hc => sp 2 hf rfl fun a hf => zT h ?_
 refine wp_ret ?_
 obtain rfl := sj hF
 replace hc := hc.drop k0
 exact zO1 Tryz.results51 hf rfl ⟨rfl,hc⟩

def gauge_CheckSite_2 (N : Nat) (i_ : Int) (x : gauge_Site) : Option (Int) :=
 Option.bind (getI x.Points i_) fun e_1 =>
 some e_1.At
theorem gauge_CheckSite_2_ok {N : Nat} {G : Pers} {Lf : List Ent} {w : World} (i_ : Int) (x : gauge_Site) {b_ : Nat} {x_Points_p : Option Addr} {x_Points_c : Nat} (h_x_Points : Rd G 3 x_Points_p x_Points_c (x.Points.map enc_gauge_Point)) (hc : Ctx G (.box b_ [i6 x.Left,i6 x.Right,i6 x.Gap,i6 x.Step_,.slice x_Points_p x.Points.length x_Points_c] 33::Lf) w) {res : Int} (hF : gauge_CheckSite_2 N i_ x = some res) : Calls Tryz.prog 53 #[i6 i_,pq b_] w (fun e w => e = .returned (i6 res) ∧ Ctx G (.box b_ [i6 x.Left,i6 x.Right,i6 x.Gap,i6 x.Step_,.slice x_Points_p x.Points.length x_Points_c] 33::Lf) w) := by
 unfold gauge_CheckSite_2 at hF
 refine fnIn Tryz.func53 rfl Tryz.ntmps53 rfl fun a hf => zS fun K h => sp 1 hf rfl fun a hf => zT h ?_
 refine zS fun K h => zP hf rfl (pFA fa_33_4 rfl) fun a hf => zL hf hc sc_31 m0 rfl fun a w hf hc => sp 1 hf rfl fun a hf => ?_
 obtain ⟨e_1,he_1,hF⟩ := bnd_some hF
 obtain ⟨b_1,o,qa,qp⟩ := h_x_Points.atm he_1
 refine zP hf rfl (pIA Tryz.underlying31 sz_57 rfl rfl qa) fun a hf => zP hf rfl (pFA fa_57_0 rfl) fun a hf => zE hf hc rfl (eLd1 sc_3 rfl (cell_pc (j := 0) qp rfl)) fun a w hf hc => sp 1 hf rfl fun a hf => zT h ?_
 refine wp_ret ?_
 obtain rfl := sj hF
 exact zO1 Tryz.results53 hf rfl ⟨rfl,hc⟩

def gauge_rising_b4 (N : Nat) (many : Int) (at_ : gauge_Site) (i_1 : Int) : Option (Step (Int) (Bool)) :=
 cond (decide (i_1 < many))
 (Option.bind (gauge_CheckSite_2 N i_1 at_) fun r =>
 Option.bind (gauge_CheckSite_2 N (W (i_1 - 1)) at_) fun r_1 =>
 cond (decide (r ≤ r_1))
 (some (.ret false))
 (some (.cont (W (i_1 + 1)))))
 (some (.brk i_1))
def gauge_rising (N : Nat) (many : Int) (at_ : gauge_Site) : Option (Bool) :=
 Option.bind (loopO (fun s4 => gauge_rising_b4 N many at_ s4) N 1) fun x4 =>
 exK x4 (fun s4 => some true) some
theorem gauge_rising_ok {N : Nat} {G : Pers} {Lf : List Ent} {w : World} (many : Int) (at_ : gauge_Site) {b_ : Nat} {at__Points_p : Option Addr} {at__Points_c : Nat} (h_at__Points : Rd G 3 at__Points_p at__Points_c (at_.Points.map enc_gauge_Point)) (hc : Ctx G (.box b_ [i6 at_.Left,i6 at_.Right,i6 at_.Gap,i6 at_.Step_,.slice at__Points_p at_.Points.length at__Points_c] 33::Lf) w) {res : Bool} (hF : gauge_rising N many at_ = some res) : Calls Tryz.prog 24 #[i6 many,.func (.func 53) #[] #[pq b_]] w (fun e w => e = .returned (.bool res) ∧ Ctx G (.box b_ [i6 at_.Left,i6 at_.Right,i6 at_.Gap,i6 at_.Step_,.slice at__Points_p at_.Points.length at__Points_c] 33::Lf) w) := by
 unfold gauge_rising at hF
 refine fnIn Tryz.func24 rfl Tryz.ntmps24 rfl fun a hf => zS fun K h => sp 1 hf rfl fun a hf => zT h ?_
 refine wp_seq_k fun K2 h2 => zS fun K h => sp 1 hf rfl fun a hf => zT h ?_
 refine wp_block ?_
 obtain ⟨x4,hx4,hF⟩ := bnd_some hF
 let S4 : Int → Act → World → Prop := (fun (zz : Int) a w => Has 19 a [(0,i6 many),(1,.func (.func 53) #[] #[pq b_]),(5,i6 zz)] ∧ Ctx G (.box b_ [i6 at_.Left,i6 at_.Right,i6 at_.Gap,i6 at_.Step_,.slice at__Points_p at_.Points.length at__Points_c] 33::Lf) w)
 have hr4 : ∀ (zz : Int) a w,x4 = .go zz → S4 zz a w → K2 a w := by
  rintro i_1 a w rfl ⟨hf,hc⟩
  replace hF := exK_go hF
  refine h2 _ _ ?_
  refine zS fun K h => sp 1 hf rfl fun a hf => zT h ?_
  refine wp_ret ?_
  obtain rfl := sj hF
  exact zO1 Tryz.results24 hf rfl ⟨rfl,hc⟩
 have ho4 : ∀ r,x4 = .out r → r = res := by
  rintro r rfl
  exact sj hF
 refine cLoop N (loopW (S := S4) (x := x4) ?_ N 1 _ _ ⟨hf.kp rfl,hc⟩ hx4)
 clear hF hf hc
 rintro i_1 st4 a w KB4 ⟨hf,hc⟩ hF hfin4 hK4
 unfold gauge_rising_b4 at hF
 refine wp_seq_k fun K6 h6 => zS fun K h => sp 3 hf rfl fun a hf => zT h ?_
 refine zI hf rfl hF ?_ ?_ <;> clear hF <;> intro hF
 ·refine wp_skip ?_
  refine h6 _ _ ?_
  refine wp_seq_k fun K8 h8 => wp_block ?_
  refine zS fun K h => sp 2 hf rfl fun a hf => ?_
  obtain ⟨r,hr,hF⟩ := bnd_some hF
  refine zQ (v := i6 r) hf hc en_53 rfl (fun w hc => (gauge_CheckSite_2_ok i_1 at_ h_at__Points (hc.pick k0) hr).mono fun e w h => ⟨h.1,(h.2.unpick k0)⟩) fun a w hf hc => sp 3 hf rfl fun a hf => ?_
  obtain ⟨r_1,hr_1,hF⟩ := bnd_some hF
  refine zQ (v := i6 r_1) hf hc en_53 rfl (fun w hc => (gauge_CheckSite_2_ok (W (i_1 - 1)) at_ h_at__Points (hc.pick k0) hr_1).mono fun e w h => ⟨h.1,(h.2.unpick k0)⟩) fun a w hf hc => sp 1 hf rfl fun a hf => zT h ?_
  refine zI hf rfl hF ?_ ?_ <;> clear hF <;> intro hF
  ·refine zS fun K h => sp 1 hf rfl fun a hf => zT h ?_
   refine wp_ret ?_
   refine xBlkR ?_
   refine xThenR ?_
   refine xThenR ?_
   have he := sj hF
   rw [← he] at hfin4
   replace hF := ho4 _ hfin4
   refine xBlkR ?_
   refine xThenR ?_
   obtain rfl := hF
   exact zO1 Tryz.results24 hf rfl ⟨rfl,hc⟩
  ·refine wp_skip ?_
   refine h8 _ _ ?_
   refine cReg ?_
   refine sp 3 hf rfl fun a hf => cNil ?_
   exact hK4 (W (i_1 + 1)) _ _ (sj hF).symm ⟨hf.kp rfl,hc⟩
 ·refine wp_exit ?_
  refine xThen ?_
  refine xThen ?_
  have he := sj hF
  rw [← he] at hfin4
  refine cHit ?_
  exact hr4 _ _ _ hfin4 ⟨hf.kp rfl,hc⟩

def gauge_CheckSite (N : Nat) (s_ : gauge_Site) : Option (Int) :=
 cond (decide (30 < ((s_.Points.length : Nat) : Int)))
 (some 3)
 (Option.bind (cond (((!(gauge_shore s_.Left s_.Right)) || (!(gauge_in s_.Gap 1 10000))) || (!(gauge_in s_.Step_ 0 2000))) (some true) (Option.bind (gauge_every_gauge_Point N s_.Points s_) fun r =>
 some (!r))) fun t_1 =>
 cond t_1
 (some 40)
 (Option.bind (gauge_rising N ((s_.Points.length : Nat) : Int) s_) fun r_1 =>
 cond (!r_1)
 (some 9)
 (some 0)))
theorem gauge_CheckSite_ok {N : Nat} {G : Pers} {Lf : List Ent} {w : World} (s_ : gauge_Site) {s__Points_p : Option Addr} {s__Points_c : Nat} (h_s__Points : Rd G 3 s__Points_p s__Points_c (s_.Points.map enc_gauge_Point)) (hc : Ctx G (Lf) w) {res : Int} (hF : gauge_CheckSite N s_ = some res) : Calls Tryz.prog 20 #[.agg #[i6 s_.Left,i6 s_.Right,i6 s_.Gap,i6 s_.Step_,.slice s__Points_p s_.Points.length s__Points_c]] w (fun e w => e = .returned (i6 res) ∧ Ctx G (Lf) w) := by
 unfold gauge_CheckSite at hF
 refine fnIn Tryz.func20 rfl Tryz.ntmps20 rfl fun a hf => zS fun K h => zB hf hc rfl fun b_1 a w hf hc => sp 1 hf rfl fun a hf => zT h ?_
 refine wp_seq_k fun K2 h2 => wp_block ?_
 refine zS fun K h => zP hf rfl (pFA fa_33_4 rfl) fun a hf => zL hf hc sc_31 m0 rfl fun a w hf hc => zP hf rfl (pLenS Tryz.underlying31 rfl) fun a hf => sp 2 hf rfl fun a hf => zT h ?_
 refine zI hf rfl hF ?_ ?_ <;> clear hF <;> intro hF
 ·refine zS fun K h => sp 1 hf rfl fun a hf => zT h ?_
  refine wp_ret ?_
  refine xBlkR ?_
  refine xThenR ?_
  obtain rfl := sj hF
  replace hc := hc.drop k0
  exact zO1 Tryz.results20 hf rfl ⟨rfl,hc⟩
 ·refine zS fun K h => zP hf rfl (pFA fa_33_0 rfl) fun a hf => zL hf hc sc_3 m0 rfl fun a w hf hc => zP hf rfl (pFA fa_33_1 rfl) fun a hf => zL hf hc sc_3 m0 rfl fun a w hf hc => zQ (v := .bool (gauge_shore s_.Left s_.Right)) hf hc en_50 rfl (fun w hc => gauge_shore_ok s_.Left s_.Right hc rfl) fun a w hf hc => sp 2 hf rfl fun a hf => stCc 5 (fun a => Has 41 a [(1,pq b_1),(9,pq b_1),(10,i6 s_.Left),(11,.pointer (some ⟨b_1,1,none⟩)),(12,i6 s_.Right),(13,.bool (gauge_shore s_.Left s_.Right)),(14,.bool (!(gauge_shore s_.Left s_.Right))),(15,.bool (!(gauge_shore s_.Left s_.Right))),(20,.bool ((!(gauge_shore s_.Left s_.Right)) || (!(gauge_in s_.Gap 1 10000))))]) hc ?_ ?_
  ·cases hb : (!(gauge_shore s_.Left s_.Right))
   ·rw [hb] at hf
    refine zP hf rfl (pFA fa_33_2 rfl) fun a hf => zL hf hc sc_3 m0 rfl fun a w hf hc => zQ (v := .bool (gauge_in s_.Gap 1 10000)) hf hc en_23 rfl (fun w hc => gauge_in_ok s_.Gap 1 10000 hc rfl) fun a w hf hc => sp 2 hf rfl fun a hf => cNil ⟨hf.kp rfl,hc⟩
   ·rw [hb] at hf
    refine stS hf rfl rfl rfl fun a hf => stS hf rfl rfl rfl fun a hf => stS hf rfl rfl rfl fun a hf => stS hf rfl rfl rfl fun a hf => sp 1 hf rfl fun a hf => cNil ⟨hf.kp rfl,hc⟩
  intro a w ⟨hf,hc⟩
  refine sp 1 hf rfl fun a hf => stCc 5 (fun a => Has 41 a [(1,pq b_1),(9,pq b_1),(10,i6 s_.Left),(11,.pointer (some ⟨b_1,1,none⟩)),(12,i6 s_.Right),(13,.bool (gauge_shore s_.Left s_.Right)),(14,.bool (!(gauge_shore s_.Left s_.Right))),(15,.bool (!(gauge_shore s_.Left s_.Right))),(20,.bool ((!(gauge_shore s_.Left s_.Right)) || (!(gauge_in s_.Gap 1 10000)))),(21,.bool ((!(gauge_shore s_.Left s_.Right)) || (!(gauge_in s_.Gap 1 10000)))),(26,.bool (((!(gauge_shore s_.Left s_.Right)) || (!(gauge_in s_.Gap 1 10000))) || (!(gauge_in s_.Step_ 0 2000))))]) hc ?_ ?_
  ·cases hb : ((!(gauge_shore s_.Left s_.Right)) || (!(gauge_in s_.Gap 1 10000)))
   ·rw [hb] at hf
    refine zP hf rfl (pFA fa_33_3 rfl) fun a hf => zL hf hc sc_3 m0 rfl fun a w hf hc => zQ (v := .bool (gauge_in s_.Step_ 0 2000)) hf hc en_23 rfl (fun w hc => gauge_in_ok s_.Step_ 0 2000 hc rfl) fun a w hf hc => sp 2 hf rfl fun a hf => cNil ⟨hf.kp rfl,hc⟩
   ·rw [hb] at hf
    refine stS hf rfl rfl rfl fun a hf => stS hf rfl rfl rfl fun a hf => stS hf rfl rfl rfl fun a hf => stS hf rfl rfl rfl fun a hf => sp 1 hf rfl fun a hf => cNil ⟨hf.kp rfl,hc⟩
  intro a w ⟨hf,hc⟩
  refine sp 1 hf rfl fun a hf => ?_
  obtain ⟨t_1,ht_1,hF⟩ := bnd_some hF
  refine stCc 6 (fun a => Has 41 a [(1,pq b_1),(9,pq b_1),(10,i6 s_.Left),(11,.pointer (some ⟨b_1,1,none⟩)),(12,i6 s_.Right),(13,.bool (gauge_shore s_.Left s_.Right)),(14,.bool (!(gauge_shore s_.Left s_.Right))),(15,.bool (!(gauge_shore s_.Left s_.Right))),(20,.bool ((!(gauge_shore s_.Left s_.Right)) || (!(gauge_in s_.Gap 1 10000)))),(21,.bool ((!(gauge_shore s_.Left s_.Right)) || (!(gauge_in s_.Gap 1 10000)))),(26,.bool (((!(gauge_shore s_.Left s_.Right)) || (!(gauge_in s_.Gap 1 10000))) || (!(gauge_in s_.Step_ 0 2000)))),(27,.bool (((!(gauge_shore s_.Left s_.Right)) || (!(gauge_in s_.Gap 1 10000))) || (!(gauge_in s_.Step_ 0 2000)))),(33,.bool t_1)]) hc ?_ ?_
  ·cases hb : (((!(gauge_shore s_.Left s_.Right)) || (!(gauge_in s_.Gap 1 10000))) || (!(gauge_in s_.Step_ 0 2000)))
   ·rw [hb] at hf
    have hF := condF hb ht_1
    refine zP hf rfl (pFA fa_33_4 rfl) fun a hf => zL hf hc sc_31 m0 rfl fun a w hf hc => zP hf rfl (pMF (us := [pq b_1]) rfl rfl) fun a hf => ?_
    obtain ⟨r,hr,hF⟩ := bnd_some hF
    refine zQ (v := .bool r) hf hc en_51 rfl (fun w hc => (gauge_every_gauge_Point_ok s_.Points s_ h_s__Points h_s__Points (hc.pick k0) hr).mono fun e w h => ⟨h.1,(h.2.unpick k0)⟩) fun a w hf hc => sp 2 hf rfl fun a hf => ?_
    obtain rfl := sj hF
    exact cNil ⟨hf.kp rfl,hc⟩
   ·rw [hb] at hf
    have hF := condT hb ht_1
    obtain rfl := sj hF
    refine stS hf rfl rfl rfl fun a hf => stS hf rfl rfl rfl fun a hf => stS hf rfl rfl rfl fun a hf => stS hf rfl rfl rfl fun a hf => stS hf rfl rfl rfl fun a hf => sp 1 hf rfl fun a hf => cNil ⟨hf.kp rfl,hc⟩
  intro a w ⟨hf,hc⟩
  refine sp 1 hf rfl fun a hf => zT h ?_
  refine zI hf rfl hF ?_ ?_ <;> clear hF <;> intro hF
  ·refine zS fun K h => sp 1 hf rfl fun a hf => zT h ?_
   refine wp_ret ?_
   refine xBlkR ?_
   refine xThenR ?_
   obtain rfl := sj hF
   replace hc := hc.drop k0
   exact zO1 Tryz.results20 hf rfl ⟨rfl,hc⟩
  ·refine zS fun K h => zP hf rfl (pFA fa_33_4 rfl) fun a hf => zL hf hc sc_31 m0 rfl fun a w hf hc => zP hf rfl (pLenS Tryz.underlying31 rfl) fun a hf => zP hf rfl (pMF (us := [pq b_1]) rfl rfl) fun a hf => ?_
   obtain ⟨r_1,hr_1,hF⟩ := bnd_some hF
   refine zQ (v := .bool r_1) hf hc en_24 rfl (fun w hc => (gauge_rising_ok ((s_.Points.length : Nat) : Int) s_ h_s__Points (hc.pick k0) hr_1).mono fun e w h => ⟨h.1,(h.2.unpick k0)⟩) fun a w hf hc => sp 2 hf rfl fun a hf => zT h ?_
   refine zI hf rfl hF ?_ ?_ <;> clear hF <;> intro hF
   ·refine zS fun K h => sp 1 hf rfl fun a hf => zT h ?_
    refine wp_ret ?_
    refine xBlkR ?_
    refine xThenR ?_
    obtain rfl := sj hF
    replace hc := hc.drop k0
    exact zO1 Tryz.results20 hf rfl ⟨rfl,hc⟩
   ·refine wp_skip ?_
    refine h2 _ _ ?_
    refine zS fun K h => sp 1 hf rfl fun a hf => zT h ?_
    refine wp_ret ?_
    obtain rfl := sj hF
    replace hc := hc.drop k0
    exact zO1 Tryz.results20 hf rfl ⟨rfl,hc⟩

def gauge_far (N : Nat)  : Option (gauge_spent) :=
 some (⟨1000000000,0⟩ : gauge_spent)
theorem gauge_far_ok {N : Nat} {G : Pers} {Lf : List Ent} {w : World}    (hc : Ctx G (Lf) w) {res : gauge_spent} (hF : gauge_far N = some res) : Calls Tryz.prog 18 #[] w (fun e w => e = .returned (.agg #[i6 res.cost,i6 res.points]) ∧ Ctx G (Lf) w) := by
 unfold gauge_far at hF
 refine fnIn Tryz.func18 rfl Tryz.ntmps18 rfl fun a hf => zS fun K h => zA hf hc zr_62 rfl fun b_1 a w hf hc => zT h ?_
 refine zS fun K h => zP hf rfl (pBuildS (cells := [i6 1000000000,i6 0]) bt_62 rfl rfl) fun a hf => zW hf hc sz_62 u0 rfl fun w hc => zT h ?_
 refine wp_ret ?_
 obtain rfl := sj hF
 exact fnOut1 (by simp) rfl Tryz.results18 hf hc (rv_cellN (vs := [i6 1000000000,i6 0]) ag_62 rfl rfl (cells_box (n := 2) m0 rfl)) ⟨rfl,(hc.drop k0)⟩

def gauge_work_station (N : Nat) (w_ : gauge_work) (i_ : Int) : Option (gauge_Point) :=
 cond (i_ == 0)
 (some (⟨w_.Site.Left,0,0⟩ : gauge_Point))
 (cond (i_ == (W (((w_.Site.Points.length : Nat) : Int) + 1)))
 (some (⟨w_.Site.Right,0,0⟩ : gauge_Point))
 (Option.bind (getI w_.Site.Points (W (i_ - 1))) fun e_1 =>
 some e_1))
theorem gauge_work_station_ok {N : Nat} {G : Pers} {Lf : List Ent} {w : World} (w_ : gauge_work) (i_ : Int) {b_ : Nat} {w__Site_Points_p : Option Addr} {w__Site_Points_c : Nat} {mb : Nat} (h_w__Site_Points : Rd G 3 w__Site_Points_p w__Site_Points_c (w_.Site.Points.map enc_gauge_Point)) (hc : Ctx G (.box b_ (catc [i6 w_.Site.Left,i6 w_.Site.Right,i6 w_.Site.Gap,i6 w_.Site.Step_,.slice w__Site_Points_p w_.Site.Points.length w__Site_Points_c] 32 enc_gauge_spent w_.least [.map (some mb)]) 66::.im mb (fun j => (w_.from_ j).map (Value.int .i64)) none::Lf) w) {res : gauge_Point} (hF : gauge_work_station N w_ i_ = some res) : Calls Tryz.prog 28 #[pq b_,i6 i_] w (fun e w => e = .returned (.agg #[i6 res.At,i6 res.Depth,i6 res.Cost]) ∧ Ctx G (.box b_ (catc [i6 w_.Site.Left,i6 w_.Site.Right,i6 w_.Site.Gap,i6 w_.Site.Step_,.slice w__Site_Points_p w_.Site.Points.length w__Site_Points_c] 32 enc_gauge_spent w_.least [.map (some mb)]) 66::.im mb (fun j => (w_.from_ j).map (Value.int .i64)) none::Lf) w) := by
 unfold gauge_work_station at hF
 refine fnIn Tryz.func28 rfl Tryz.ntmps28 rfl fun a hf => zS fun K h => zA hf hc zr_57 rfl fun b_1 a w hf hc => zT h ?_
 refine wp_seq_k fun K2 h2 => zS fun K h => sp 1 hf rfl fun a hf => zT h ?_
 refine wp_block ?_
 refine zS fun K h => sp 2 hf rfl fun a hf => zT h ?_
 refine zI hf rfl hF ?_ ?_ <;> clear hF <;> intro hF
 ·refine zS fun K h => sp 2 hf rfl fun a hf => zP hf rfl (pFA fa_66_0 rfl) fun a hf => zP hf rfl (pFA fa_33_0 rfl) fun a hf => zL hf hc sc_3 m1 rfl fun a w hf hc => zP hf rfl (pBuildS (cells := [i6 w_.Site.Left,i6 0,i6 0]) bt_57 rfl rfl) fun a hf => zW hf hc sz_57 u0 rfl fun w hc => zT h ?_
  refine wp_ret ?_
  refine xBlkR ?_
  refine xThenR ?_
  obtain rfl := sj hF
  replace hc := ((hc.pick k0).pick k2).pick k2
  exact fnOut1 (by simp) rfl Tryz.results28 hf hc (rv_cellN (vs := [i6 w_.Site.Left,i6 0,i6 0]) ag_57 rfl rfl (cells_box (n := 3) m2 rfl)) ⟨rfl,(hc.drop k2)⟩
 ·refine zS fun K h => sp 2 hf rfl fun a hf => zP hf rfl (pFA fa_66_0 rfl) fun a hf => zP hf rfl (pFA fa_33_4 rfl) fun a hf => zL hf hc sc_31 m1 rfl fun a w hf hc => zP hf rfl (pLenS Tryz.underlying31 rfl) fun a hf => sp 3 hf rfl fun a hf => zT h ?_
  refine zI hf rfl hF ?_ ?_ <;> clear hF <;> intro hF
  ·refine zS fun K h => sp 2 hf rfl fun a hf => zP hf rfl (pFA fa_66_0 rfl) fun a hf => zP hf rfl (pFA fa_33_1 rfl) fun a hf => zL hf hc sc_3 m1 rfl fun a w hf hc => zP hf rfl (pBuildS (cells := [i6 w_.Site.Right,i6 0,i6 0]) bt_57 rfl rfl) fun a hf => zW hf hc sz_57 u0 rfl fun w hc => zT h ?_
   refine wp_ret ?_
   refine xBlkR ?_
   refine xThenR ?_
   obtain rfl := sj hF
   replace hc := ((hc.pick k0).pick k2).pick k2
   exact fnOut1 (by simp) rfl Tryz.results28 hf hc (rv_cellN (vs := [i6 w_.Site.Right,i6 0,i6 0]) ag_57 rfl rfl (cells_box (n := 3) m2 rfl)) ⟨rfl,(hc.drop k2)⟩
  ·refine wp_skip ?_
   refine h2 _ _ ?_
   refine zS fun K h => sp 2 hf rfl fun a hf => zP hf rfl (pFA fa_66_0 rfl) fun a hf => zP hf rfl (pFA fa_33_4 rfl) fun a hf => zL hf hc sc_31 m1 rfl fun a w hf hc => sp 2 hf rfl fun a hf => ?_
   obtain ⟨e_1,he_1,hF⟩ := bnd_some hF
   obtain ⟨b_2,o,qa,qp⟩ := h_w__Site_Points.atm he_1
   refine zP hf rfl (pIA Tryz.underlying31 sz_57 rfl rfl qa) fun a hf => zE hf hc rfl (eLdN (vs := [i6 e_1.At,i6 e_1.Depth,i6 e_1.Cost]) ag_57 rfl rfl (cells_pc qp (n := 3) (o' := 0) rfl)) fun a w hf hc => zW hf hc sz_57 u0 rfl fun w hc => zT h ?_
   refine wp_ret ?_
   obtain rfl := sj hF
   replace hc := ((hc.pick k0).pick k2).pick k2
   exact fnOut1 (by simp) rfl Tryz.results28 hf hc (rv_cellN (vs := [i6 e_1.At,i6 e_1.Depth,i6 e_1.Cost]) ag_57 rfl rfl (cells_box (n := 3) m2 rfl)) ⟨rfl,(hc.drop k2)⟩

def gauge_work_steps (N : Nat) (w_ : gauge_work) (a_ : Int) (b__1 : Int) : Option (Bool) :=
 Option.bind (gauge_work_station N w_ a_) fun r =>
 Option.bind (gauge_work_station N w_ b__1) fun r_1 =>
 some ((decide ((W (r_1.At - r.At)) ≤ w_.Site.Gap)) && (decide ((max (W (r.Depth - r_1.Depth)) (W (r_1.Depth - r.Depth))) ≤ w_.Site.Step_)))
theorem gauge_work_steps_ok {N : Nat} {G : Pers} {Lf : List Ent} {w : World} (w_ : gauge_work) (a_ : Int) (b__1 : Int) {b_ : Nat} {w__Site_Points_p : Option Addr} {w__Site_Points_c : Nat} {mb : Nat} (h_w__Site_Points : Rd G 3 w__Site_Points_p w__Site_Points_c (w_.Site.Points.map enc_gauge_Point)) (hc : Ctx G (.box b_ (catc [i6 w_.Site.Left,i6 w_.Site.Right,i6 w_.Site.Gap,i6 w_.Site.Step_,.slice w__Site_Points_p w_.Site.Points.length w__Site_Points_c] 32 enc_gauge_spent w_.least [.map (some mb)]) 66::.im mb (fun j => (w_.from_ j).map (Value.int .i64)) none::Lf) w) {res : Bool} (hF : gauge_work_steps N w_ a_ b__1 = some res) : Calls Tryz.prog 26 #[pq b_,i6 a_,i6 b__1] w (fun e w => e = .returned (.bool res) ∧ Ctx G (.box b_ (catc [i6 w_.Site.Left,i6 w_.Site.Right,i6 w_.Site.Gap,i6 w_.Site.Step_,.slice w__Site_Points_p w_.Site.Points.length w__Site_Points_c] 32 enc_gauge_spent w_.least [.map (some mb)]) 66::.im mb (fun j => (w_.from_ j).map (Value.int .i64)) none::Lf) w) := by
 unfold gauge_work_steps at hF
 refine fnIn Tryz.func26 rfl Tryz.ntmps26 rfl fun a hf => zS fun K h => sp 1 hf rfl fun a hf => zT h ?_
 refine zS fun K h => sp 2 hf rfl fun a hf => ?_
 obtain ⟨r,hr,hF⟩ := bnd_some hF
 refine zQ (v := .agg #[i6 r.At,i6 r.Depth,i6 r.Cost]) hf hc en_28 rfl (fun w hc => (gauge_work_station_ok w_ a_ h_w__Site_Points ((hc.pick k1).pick k1) hr).mono fun e w h => ⟨h.1,((h.2.unpick k1).unpick k1)⟩) fun a w hf hc => sp 2 hf rfl fun a hf => ?_
 obtain ⟨r_1,hr_1,hF⟩ := bnd_some hF
 refine zQ (v := .agg #[i6 r_1.At,i6 r_1.Depth,i6 r_1.Cost]) hf hc en_28 rfl (fun w hc => (gauge_work_station_ok w_ b__1 h_w__Site_Points ((hc.pick k1).pick k1) hr_1).mono fun e w h => ⟨h.1,((h.2.unpick k1).unpick k1)⟩) fun a w hf hc => zA hf hc zr_57 rfl fun b_1 a w hf hc => zA hf hc zr_57 rfl fun b_2 a w hf hc => zW hf hc sz_57 u1 rfl fun w hc => zW hf hc sz_57 u0 rfl fun w hc => zT h ?_
 refine wp_seq_k fun K3 h3 => cQ hc follows_mx (by kernel_rfl) ?_
 refine qE hf rfl rfl rfl (Pu.ev (pFA fa_57_0 rfl)) fun a hf => qE hf rfl rfl rfl (eLd1 sc_3 rfl (cell_box m0 rfl)) fun a hf => qE hf rfl rfl rfl (Pu.ev (pFA fa_57_0 rfl)) fun a hf => qE hf rfl rfl rfl (eLd1 sc_3 rfl (cell_box m1 rfl)) fun a hf => qE hf rfl rfl rfl (Pu.ev (pSub rfl rfl)) fun a hf => qE hf rfl rfl rfl (Pu.ev (pM rfl)) fun a hf => qE hf rfl rfl rfl (Pu.ev (pNC rfl)) fun a hf => qE hf rfl rfl rfl (Pu.ev (pFA fa_66_0 rfl)) fun a hf => qE hf rfl rfl rfl (Pu.ev (pFA fa_33_2 rfl)) fun a hf => qE hf rfl rfl rfl (eLd1 sc_3 rfl (cell_box m2 rfl)) fun a hf => qE hf rfl rfl rfl (Pu.ev (pLe rfl rfl)) fun a hf => qE hf rfl rfl rfl (Pu.ev (pM rfl)) fun a hf => qCut 18 (fun a => Has 45 a [(0,pq b_),(6,.bool false),(7,pq b_1),(8,pq b_2),(15,pq b_2),(16,i6 r_1.At),(17,pq b_1),(18,i6 r.At),(19,i6 (W (r_1.At - r.At))),(20,pq b_),(21,pq b_),(22,pq b_),(23,.pointer (some ⟨b_,2,none⟩)),(24,i6 w_.Site.Gap),(25,.bool (decide ((W (r_1.At - r.At)) ≤ w_.Site.Gap))),(26,.bool (decide ((W (r_1.At - r.At)) ≤ w_.Site.Gap))),(44,.bool ((decide ((W (r_1.At - r.At)) ≤ w_.Site.Gap)) && (decide ((max (W (r.Depth - r_1.Depth)) (W (r_1.Depth - r.Depth))) ≤ w_.Site.Step_))))]) ?_ ?_
 ·cases hb : (decide ((W (r_1.At - r.At)) ≤ w_.Site.Gap))
  ·rw [hb] at hf
   refine qS hf rfl rfl rfl fun a hf => qS hf rfl rfl rfl fun a hf => qS hf rfl rfl rfl fun a hf => qS hf rfl rfl rfl fun a hf => qS hf rfl rfl rfl fun a hf => qS hf rfl rfl rfl fun a hf => qS hf rfl rfl rfl fun a hf => qS hf rfl rfl rfl fun a hf => qS hf rfl rfl rfl fun a hf => qS hf rfl rfl rfl fun a hf => qS hf rfl rfl rfl fun a hf => qS hf rfl rfl rfl fun a hf => qS hf rfl rfl rfl fun a hf => ?_
   refine qS hf rfl rfl rfl fun a hf => qS hf rfl rfl rfl fun a hf => qS hf rfl rfl rfl fun a hf => qS hf rfl rfl rfl fun a hf => qE hf rfl rfl rfl (Pu.ev (pPf rfl rfl)) fun a hf => qNil (hf.kp rfl)
  ·rw [hb] at hf
   refine qE hf rfl rfl rfl (Pu.ev (pFA fa_57_1 rfl)) fun a hf => qE hf rfl rfl rfl (eLd1 sc_3 rfl (cell_box m1 rfl)) fun a hf => qE hf rfl rfl rfl (Pu.ev (pFA fa_57_1 rfl)) fun a hf => qE hf rfl rfl rfl (eLd1 sc_3 rfl (cell_box m0 rfl)) fun a hf => qE hf rfl rfl rfl (Pu.ev (pSub rfl rfl)) fun a hf => qE hf rfl rfl rfl (Pu.ev (pFA fa_57_1 rfl)) fun a hf => qE hf rfl rfl rfl (eLd1 sc_3 rfl (cell_box m0 rfl)) fun a hf => qE hf rfl rfl rfl (Pu.ev (pFA fa_57_1 rfl)) fun a hf => qE hf rfl rfl rfl (eLd1 sc_3 rfl (cell_box m1 rfl)) fun a hf => qE hf rfl rfl rfl (Pu.ev (pSub rfl rfl)) fun a hf => qE hf rfl rfl rfl (Pu.ev (pMax2 rfl rfl)) fun a hf => qE hf rfl rfl rfl (Pu.ev (pM rfl)) fun a hf => qE hf rfl rfl rfl (Pu.ev (pNC rfl)) fun a hf => ?_
   refine qE hf rfl rfl rfl (Pu.ev (pFA fa_66_0 rfl)) fun a hf => qE hf rfl rfl rfl (Pu.ev (pFA fa_33_3 rfl)) fun a hf => qE hf rfl rfl rfl (eLd1 sc_3 rfl (cell_box m2 rfl)) fun a hf => qE hf rfl rfl rfl (Pu.ev (pLe rfl rfl)) fun a hf => qE hf rfl rfl rfl (Pu.ev (pPt rfl rfl)) fun a hf => qNil (hf.kp rfl)
 intro a hf
 refine qE hf rfl rfl rfl (Pu.ev (pA rfl)) fun a hf => ?_
 intro w hc
 refine h3 _ _ ?_
 refine wp_ret ?_
 obtain rfl := sj hF
 replace hc := (hc.drop k1).drop k0
 exact zO1 Tryz.results26 hf rfl ⟨rfl,hc⟩

def cmp_isNaN_int (x : Int) : Bool :=
 (x != x)
theorem cmp_isNaN_int_ok {G : Pers} {Lf : List Ent} {w : World} (x : Int)   (hc : Ctx G (Lf) w) {res : Bool} (hF : cmp_isNaN_int x = res) : Calls Tryz.prog 94 #[i6 x] w (fun e w => e = .returned (.bool res) ∧ Ctx G (Lf) w) := by
 unfold cmp_isNaN_int at hF
 refine fnIn Tryz.func94 rfl Tryz.ntmps94 rfl fun a hf => zS fun K h => sp 1 hf rfl fun a hf => zT h ?_
 refine zS fun K h => sp 4 hf rfl fun a hf => zT h ?_
 refine wp_ret ?_
 obtain rfl := hF
 exact zO1 Tryz.results94 hf rfl ⟨rfl,hc⟩

def cmp_Compare_int (x : Int) (y : Int) : Int :=
 cond (cmp_isNaN_int x)
 (cond (cmp_isNaN_int y)
 (0)
 ((-1)))
 (cond (cmp_isNaN_int y)
 (1)
 (cond (decide (x < y))
 ((-1))
 (cond (decide (y < x))
 (1)
 (0))))
theorem cmp_Compare_int_ok {G : Pers} {Lf : List Ent} {w : World} (x : Int) (y : Int)   (hc : Ctx G (Lf) w) {res : Int} (hF : cmp_Compare_int x y = res) : Calls Tryz.prog 75 #[i6 x,i6 y] w (fun e w => e = .returned (i6 res) ∧ Ctx G (Lf) w) := by
 unfold cmp_Compare_int at hF
 refine fnIn Tryz.func75 rfl Tryz.ntmps75 rfl fun a hf => zS fun K h => sp 1 hf rfl fun a hf => zT h ?_
 refine zS fun K h => sp 1 hf rfl fun a hf => zQ (v := .bool (cmp_isNaN_int x)) hf hc en_94 rfl (fun w hc => cmp_isNaN_int_ok x hc rfl) fun a w hf hc => sp 1 hf rfl fun a hf => zT h ?_
 refine zS fun K h => sp 1 hf rfl fun a hf => zQ (v := .bool (cmp_isNaN_int y)) hf hc en_94 rfl (fun w hc => cmp_isNaN_int_ok y hc rfl) fun a w hf hc => sp 1 hf rfl fun a hf => zT h ?_
 refine wp_seq_k fun K4 h4 => zS fun K h => sp 1 hf rfl fun a hf => zT h ?_
 refine zI hf rfl hF ?_ ?_ <;> clear hF <;> intro hF
 ·refine wp_seq_k fun K6 h6 => zS fun K h => sp 1 hf rfl fun a hf => zT h ?_
  refine zI hf rfl hF ?_ ?_ <;> clear hF <;> intro hF
  ·refine zS fun K h => sp 1 hf rfl fun a hf => zT h ?_
   refine wp_ret ?_
   refine xThenR ?_
   refine xThenR ?_
   obtain rfl := hF
   exact zO1 Tryz.results75 hf rfl ⟨rfl,hc⟩
  ·refine wp_skip ?_
   refine h6 _ _ ?_
   refine zS fun K h => sp 1 hf rfl fun a hf => zT h ?_
   refine wp_ret ?_
   refine xThenR ?_
   obtain rfl := hF
   exact zO1 Tryz.results75 hf rfl ⟨rfl,hc⟩
 ·refine wp_skip ?_
  refine h4 _ _ ?_
  refine wp_seq_k fun K10 h10 => zS fun K h => sp 1 hf rfl fun a hf => zT h ?_
  refine zI hf rfl hF ?_ ?_ <;> clear hF <;> intro hF
  ·refine zS fun K h => sp 1 hf rfl fun a hf => zT h ?_
   refine wp_ret ?_
   refine xThenR ?_
   obtain rfl := hF
   exact zO1 Tryz.results75 hf rfl ⟨rfl,hc⟩
  ·refine wp_skip ?_
   refine h10 _ _ ?_
   refine wp_seq_k fun K13 h13 => zS fun K h => sp 3 hf rfl fun a hf => zT h ?_
   refine zI hf rfl hF ?_ ?_ <;> clear hF <;> intro hF
   ·refine zS fun K h => sp 1 hf rfl fun a hf => zT h ?_
    refine wp_ret ?_
    refine xThenR ?_
    obtain rfl := hF
    exact zO1 Tryz.results75 hf rfl ⟨rfl,hc⟩
   ·refine wp_skip ?_
    refine h13 _ _ ?_
    refine wp_seq_k fun K16 h16 => zS fun K h => sp 3 hf rfl fun a hf => zT h ?_
    refine zI hf rfl hF ?_ ?_ <;> clear hF <;> intro hF
    ·refine zS fun K h => sp 1 hf rfl fun a hf => zT h ?_
     refine wp_ret ?_
     refine xThenR ?_
     obtain rfl := hF
     exact zO1 Tryz.results75 hf rfl ⟨rfl,hc⟩
    ·refine wp_skip ?_
     refine h16 _ _ ?_
     refine zS fun K h => sp 1 hf rfl fun a hf => zT h ?_
     refine wp_ret ?_
     obtain rfl := hF
     exact zO1 Tryz.results75 hf rfl ⟨rfl,hc⟩

def cmp_Or_int_b5 (N : Nat) (vals : List Int) (x : Int) : Option (Step (Int) (Int)) :=
 cond (decide (x < ((vals.length : Nat) : Int)))
 (Option.bind (getI vals x) fun e_1 =>
 cond (e_1 != 0)
 (some (.ret e_1))
 (some (.cont (W (x + 1)))))
 (some (.brk x))
def cmp_Or_int (N : Nat) (vals : List Int) : Option (Int) :=
 Option.bind (loopO (fun s5 => cmp_Or_int_b5 N vals s5) N 0) fun x5 =>
 exK x5 (fun s5 => some 0) some
theorem cmp_Or_int_ok {N : Nat} {G : Pers} {Lf : List Ent} {w : World} (vals : List Int) {vals_p : Option Addr} {vals_c : Nat} (h_vals : Rd G 1 vals_p vals_c (vals.map encI_i64)) (hc : Ctx G (Lf) w) {res : Int} (hF : cmp_Or_int N vals = some res) : Calls Tryz.prog 74 #[.slice vals_p vals.length vals_c] w (fun e w => e = .returned (i6 res) ∧ Ctx G (Lf) w) := by
 unfold cmp_Or_int at hF
 refine fnIn Tryz.func74 rfl Tryz.ntmps74 rfl fun a hf => zS fun K h => sp 1 hf rfl fun a hf => zT h ?_
 refine zS fun K h => sp 1 hf rfl fun a hf => zT h ?_
 refine wp_seq_k fun K3 h3 => zS fun K h => sp 1 hf rfl fun a hf => zP hf rfl (pLenS Tryz.underlying35 rfl) fun a hf => sp 1 hf rfl fun a hf => zT h ?_
 refine wp_block ?_
 obtain ⟨x5,hx5,hF⟩ := bnd_some hF
 let S5 : Int → Act → World → Prop := (fun (zz : Int) a w => Has 18 a [(3,i6 0),(6,.slice vals_p vals.length vals_c),(7,i6 ((vals.length : Nat) : Int)),(8,i6 zz)] ∧ Ctx G (Lf) w)
 have hr5 : ∀ (zz : Int) a w,x5 = .go zz → S5 zz a w → K3 a w := by
  rintro x a w rfl ⟨hf,hc⟩
  replace hF := exK_go hF
  refine h3 _ _ ?_
  refine zS fun K h => sp 2 hf rfl fun a hf => zT h ?_
  refine wp_ret ?_
  obtain rfl := sj hF
  exact zO1 Tryz.results74 hf rfl ⟨rfl,hc⟩
 have ho5 : ∀ r,x5 = .out r → r = res := by
  rintro r rfl
  exact sj hF
 refine cLoop N (loopW (S := S5) (x := x5) ?_ N 0 _ _ ⟨hf.kp rfl,hc⟩ hx5)
 clear hF hf hc
 rintro x st5 a w KB5 ⟨hf,hc⟩ hF hfin5 hK5
 unfold cmp_Or_int_b5 at hF
 refine zS fun K h => sp 1 hf rfl fun a hf => zT h ?_
 refine wp_seq_k fun K8 h8 => zI hf rfl hF ?_ ?_ <;> clear hF <;> intro hF
 ·refine wp_skip ?_
  refine h8 _ _ ?_
  refine wp_seq_k fun K9 h9 => wp_block ?_
  refine zS fun K h => ?_
  obtain ⟨e_1,he_1,hF⟩ := bnd_some hF
  obtain ⟨b_1,o,qa,qp⟩ := h_vals.atm he_1
  refine zP hf rfl (pIA Tryz.underlying35 sz_3 rfl rfl qa) fun a hf => zE hf hc rfl (eLd1 sc_3 rfl (cell_pc (j := 0) qp rfl)) fun a w hf hc => sp 1 hf rfl fun a hf => zT h ?_
  refine zS fun K h => sp 3 hf rfl fun a hf => zT h ?_
  refine zI hf rfl hF ?_ ?_ <;> clear hF <;> intro hF
  ·refine zS fun K h => sp 2 hf rfl fun a hf => zT h ?_
   refine wp_ret ?_
   refine xBlkR ?_
   refine xThenR ?_
   refine xThenR ?_
   have he := sj hF
   rw [← he] at hfin5
   replace hF := ho5 _ hfin5
   refine xBlkR ?_
   refine xThenR ?_
   obtain rfl := hF
   exact zO1 Tryz.results74 hf rfl ⟨rfl,hc⟩
  ·refine wp_skip ?_
   refine h9 _ _ ?_
   refine cReg ?_
   refine sp 2 hf rfl fun a hf => cNil ?_
   exact hK5 (W (x + 1)) _ _ (sj hF).symm ⟨hf.kp rfl,hc⟩
 ·refine wp_exit ?_
  refine xThen ?_
  refine xThen ?_
  have he := sj hF
  rw [← he] at hfin5
  refine cHit ?_
  exact hr5 _ _ _ hfin5 ⟨hf.kp rfl,hc⟩

def gauge_work_better_j2 (N : Nat) (w_ : gauge_work) (a_ : Int) (b__1 : Int) (x : Int) (x_1 : Int) : Option ((Nat → gauge_spent) × (Int → Option Int)) :=
 Option.bind (inR a_ 32) fun un_1 =>
 Option.bind (cmp_Or_int N ([(cmp_Compare_int x ((w_.least a_.toNat).cost)),(cmp_Compare_int x_1 ((w_.least a_.toNat).points))] : List Int)) fun r =>
 Option.bind (cond (decide (r < 0)) (some true) (Option.bind (gauge_far N) fun r_1 =>
 some (((w_.least a_.toNat).cost) == r_1.cost && ((w_.least a_.toNat).points) == r_1.points))) fun t_1 =>
 cond t_1
 (Option.bind (inR a_ 32) fun un_2 =>
 some ((setF w_.least a_.toNat (⟨x,x_1⟩ : gauge_spent)),(setM (setM w_.from_ a_ ((w_.from_ a_).getD 0)) a_ b__1)))
 (some (w_.least,w_.from_))
def gauge_work_better (N : Nat) (w_ : gauge_work) (a_ : Int) (b__1 : Int) : Option ((Nat → gauge_spent) × (Int → Option Int)) :=
 Option.bind (inR b__1 32) fun un =>
 cond (decide (b__1 ≤ ((w_.Site.Points.length : Nat) : Int)))
 (Option.bind (gauge_work_station N w_ b__1) fun r_2 =>
 gauge_work_better_j2 N w_ a_ b__1 (W (((w_.least b__1.toNat).cost) + r_2.Cost)) (W (((w_.least b__1.toNat).points) + 1)))
 (gauge_work_better_j2 N w_ a_ b__1 ((w_.least b__1.toNat).cost) ((w_.least b__1.toNat).points))
theorem gauge_work_better_ok {N : Nat} {G : Pers} {Lf : List Ent} {w : World} (w_ : gauge_work) (a_ : Int) (b__1 : Int) {b_ : Nat} {w__Site_Points_p : Option Addr} {w__Site_Points_c : Nat} {mb : Nat} (h_w__Site_Points : Rd G 3 w__Site_Points_p w__Site_Points_c (w_.Site.Points.map enc_gauge_Point)) (hc : Ctx G (.box b_ (catc [i6 w_.Site.Left,i6 w_.Site.Right,i6 w_.Site.Gap,i6 w_.Site.Step_,.slice w__Site_Points_p w_.Site.Points.length w__Site_Points_c] 32 enc_gauge_spent w_.least [.map (some mb)]) 66::.im mb (fun j => (w_.from_ j).map (Value.int .i64)) none::Lf) w) {res : (Nat → gauge_spent) × (Int → Option Int)} (hF : gauge_work_better N w_ a_ b__1 = some res) : Calls Tryz.prog 49 #[pq b_,i6 a_,i6 b__1] w (fun e w => e = .returned (.tuple #[]) ∧ Ctx G (.box b_ (catc [i6 w_.Site.Left,i6 w_.Site.Right,i6 w_.Site.Gap,i6 w_.Site.Step_,.slice w__Site_Points_p w_.Site.Points.length w__Site_Points_c] 32 enc_gauge_spent res.1 [.map (some mb)]) 66::.im mb (fun j => (res.2 j).map (Value.int .i64)) none::Lf) w) := by
 unfold gauge_work_better at hF
 refine fnIn Tryz.func49 rfl Tryz.ntmps49 rfl fun a hf => zS fun K h => sp 3 hf rfl fun a hf => zP hf rfl (pFA fa_66_1 rfl) fun a hf => ?_
 obtain ⟨un,hun,hF⟩ := bnd_some hF
 refine zP hf rfl (pIAA Tryz.underlying63 sz_62 rfl rfl (inR_spec hun).1 (inR_spec hun).2) fun a hf => zE hf hc rfl (eLdN (vs := [i6 ((w_.least b__1.toNat).cost),i6 ((w_.least b__1.toNat).points)]) ag_62 rfl rfl (cells_arr (o' := 0) (m := 2) m0 (fun x => (one_enc_gauge_spent x).1) rfl hun rfl)) fun a w hf hc => zA hf hc zr_62 rfl fun b_1 a w hf hc => zW hf hc sz_62 u0 rfl fun w hc => zT h ?_
 refine wp_seq_k fun K2 h2 => ?_
 have hj2 : ∀ (x : Int) (x_1 : Int) a w,Has 73 a [(0,pq b_),(1,i6 a_),(2,i6 b__1),(6,pq b_1)] → Ctx G (.box b_1 [i6 x,i6 x_1] 62::.box b_ (catc [i6 w_.Site.Left,i6 w_.Site.Right,i6 w_.Site.Gap,i6 w_.Site.Step_,.slice w__Site_Points_p w_.Site.Points.length w__Site_Points_c] 32 enc_gauge_spent w_.least [.map (some mb)]) 66::.im mb (fun j => (w_.from_ j).map (Value.int .i64)) none::Lf) w → gauge_work_better_j2 N w_ a_ b__1 x x_1 = some res → K2 a w := by
  repeat (clear hF)
  repeat (clear hc)
  repeat (clear hf)
  intro x x_1 a w hf hc hF
  unfold gauge_work_better_j2 at hF
  refine h2 _ _ ?_
  refine zS fun K h => sp 3 hf rfl fun a hf => zP hf rfl (pFA fa_66_1 rfl) fun a hf => ?_
  obtain ⟨un_1,hun_1,hF⟩ := bnd_some hF
  refine zP hf rfl (pIAA Tryz.underlying63 sz_62 rfl rfl (inR_spec hun_1).1 (inR_spec hun_1).2) fun a hf => zE hf hc rfl (eLdN (vs := [i6 ((w_.least a_.toNat).cost),i6 ((w_.least a_.toNat).points)]) ag_62 rfl rfl (cells_arr (o' := 0) (m := 2) m1 (fun x => (one_enc_gauge_spent x).1) rfl hun_1 rfl)) fun a w hf hc => zA hf hc zr_62 rfl fun b_2 a w hf hc => zW hf hc sz_62 u0 rfl fun w hc => zT h ?_
  refine wp_seq_k fun K4 h4 => ?_
  obtain ⟨r,hr,hF⟩ := bnd_some hF
  replace hc := hc.nilRow 0 0
  refine regionE (fun θ => [⟨none,none,0,pq b_⟩,⟨none,none,1,i6 a_⟩,⟨none,none,2,i6 b__1⟩,⟨none,none,6,pq b_1⟩,⟨none,none,7,pq b_2⟩,⟨some 0,none,40,pq b_1⟩,⟨some 1,none,41,i6 x⟩,⟨some 2,none,42,pq b_2⟩,⟨some 3,none,43,i6 ((w_.least a_.toNat).cost)⟩,⟨some 4,none,44,i6 (cmp_Compare_int x ((w_.least a_.toNat).cost))⟩,⟨some 5,none,45,.pointer (some ⟨b_1,1,none⟩)⟩,⟨some 6,none,46,i6 x_1⟩,⟨some 7,none,47,.pointer (some ⟨b_2,1,none⟩)⟩,⟨some 8,none,48,i6 ((w_.least a_.toNat).points)⟩,⟨some 9,none,49,i6 (cmp_Compare_int x_1 ((w_.least a_.toNat).points))⟩,⟨some 10,none,50,.slice (some ⟨(θ 80).b,0,none⟩) 2 2⟩,⟨some 11,none,51,i6 r⟩,⟨some 12,none,8,i6 r⟩]) (fun E θ => (bif E 10 then .row (some ⟨(θ 80).b,0,none⟩) 2 (([(cmp_Compare_int x ((w_.least a_.toNat).cost)),(cmp_Compare_int x_1 ((w_.least a_.toNat).points))] : List Int).map encI_i64) 3 1 else .row none 0 [] 0 0)::.box b_2 [i6 ((w_.least a_.toNat).cost),i6 ((w_.least a_.toNat).points)] 62::.box b_1 [i6 x,i6 x_1] 62::.box b_ (catc [i6 w_.Site.Left,i6 w_.Site.Right,i6 w_.Site.Gap,i6 w_.Site.Step_,.slice w__Site_Points_p w_.Site.Points.length w__Site_Points_c] 32 enc_gauge_spent w_.least [.map (some mb)]) 66::.im mb (fun j => (w_.from_ j).map (Value.int .i64)) none::Lf) [] (fun a w => ∃ (b_4 : Nat),Has 73 a [(0,pq b_),(1,i6 a_),(2,i6 b__1),(6,pq b_1),(7,pq b_2),(8,i6 r)] ∧ Ctx G (.row (some ⟨b_4,0,none⟩) 2 (([(cmp_Compare_int x ((w_.least a_.toNat).cost)),(cmp_Compare_int x_1 ((w_.least a_.toNat).points))] : List Int).map encI_i64) 3 1::.box b_2 [i6 ((w_.least a_.toNat).cost),i6 ((w_.least a_.toNat).points)] 62::.box b_1 [i6 x,i6 x_1] 62::.box b_ (catc [i6 w_.Site.Left,i6 w_.Site.Right,i6 w_.Site.Gap,i6 w_.Site.Step_,.slice w__Site_Points_p w_.Site.Points.length w__Site_Points_c] 32 enc_gauge_spent w_.least [.map (some mb)]) 66::.im mb (fun j => (w_.from_ j).map (Value.int .i64)) none::Lf) w) follows_mx (by kernel_rfl) (by kernel_rfl) (HasE.of hf ⟨rfl,rfl,rfl,rfl,rfl,trivial,trivial,trivial,trivial,trivial,trivial,trivial,trivial,trivial,trivial,trivial,trivial,trivial,trivial⟩) hc ⟨?_,?_,?_,?_,?_,?_,?_,?_,?_,?_,?_,?_,?_,trivial⟩ ?_ ?_
  ·intro E θ a w hD hi hp he hc
   have hf := he.h0.mT he 3 rfl
   refine zP hf rfl (pFA fa_62_0 rfl) fun a hf => zD θ he hi hf 5 rfl rfl rfl hc
  ·intro E θ a w hD hi hp he hc
   have e0 := hp.o 0 rfl
   have hf := he.h0.mP he 5 rfl e0
   refine zL hf hc sc_3 m2 rfl fun a w hf hc => zD θ he hi hf 6 rfl rfl rfl hc
  ·intro E θ a w hD hi hp he hc
   have hf := he.h0.mT he 4 rfl
   refine zP hf rfl (pFA fa_62_0 rfl) fun a hf => zD θ he hi hf 7 rfl rfl rfl hc
  ·intro E θ a w hD hi hp he hc
   have e2 := hp.o 2 rfl
   have hf := he.h0.mP he 7 rfl e2
   refine zL hf hc sc_3 m1 rfl fun a w hf hc => zD θ he hi hf 8 rfl rfl rfl hc
  ·intro E θ a w hD hi hp he hc
   have e1 := hp.o 1 rfl
   have e3 := hp.o 3 rfl
   have hf := (he.h0.mP he 6 rfl e1).mP he 8 rfl e3
   refine zQ (v := i6 (cmp_Compare_int x ((w_.least a_.toNat).cost))) hf hc en_75 rfl (fun w hc => cmp_Compare_int_ok x ((w_.least a_.toNat).cost) hc rfl) fun a w hf hc => zD θ he hi hf 9 rfl rfl rfl hc
  ·intro E θ a w hD hi hp he hc
   have hf := he.h0.mT he 3 rfl
   refine zP hf rfl (pFA fa_62_1 rfl) fun a hf => zD θ he hi hf 10 rfl rfl rfl hc
  ·intro E θ a w hD hi hp he hc
   have e5 := hp.o 5 rfl
   have hf := he.h0.mP he 10 rfl e5
   refine zL hf hc sc_3 m2 rfl fun a w hf hc => zD θ he hi hf 11 rfl rfl rfl hc
  ·intro E θ a w hD hi hp he hc
   have hf := he.h0.mT he 4 rfl
   refine zP hf rfl (pFA fa_62_1 rfl) fun a hf => zD θ he hi hf 12 rfl rfl rfl hc
  ·intro E θ a w hD hi hp he hc
   have e7 := hp.o 7 rfl
   have hf := he.h0.mP he 12 rfl e7
   refine zL hf hc sc_3 m1 rfl fun a w hf hc => zD θ he hi hf 13 rfl rfl rfl hc
  ·intro E θ a w hD hi hp he hc
   have e6 := hp.o 6 rfl
   have e8 := hp.o 8 rfl
   have hf := (he.h0.mP he 11 rfl e6).mP he 13 rfl e8
   refine zQ (v := i6 (cmp_Compare_int x_1 ((w_.least a_.toNat).points))) hf hc en_75 rfl (fun w hc => cmp_Compare_int_ok x_1 ((w_.least a_.toNat).points) hc rfl) fun a w hf hc => zD θ he hi hf 14 rfl rfl rfl hc
  ·intro E θ a w hD hi hp he hc
   have e4 := hp.o 4 rfl
   have e9 := hp.o 9 rfl
   try dsimp only at hc
   rw [hi] at hc
   have hf := (he.h0.mP he 9 rfl e4).mP he 14 rfl e9
   refine stBS (rows := ([(cmp_Compare_int x ((w_.least a_.toNat).cost)),(cmp_Compare_int x_1 ((w_.least a_.toNat).points))] : List Int).map encI_i64) (vs := [(0,i6 (cmp_Compare_int x ((w_.least a_.toNat).cost))),(1,i6 (cmp_Compare_int x_1 ((w_.least a_.toNat).points)))]) hf hc rfl rfl sl_35 rfl ⟨rfl,rfl,rfl,rfl,rfl,rfl,trivial⟩ rfl rfl fun b_3 a w hf hc => cNil ?_
   refine xThenN ?_
   intro ds u hau
   replace hc := hc.drop k1
   refine ⟨(setT θ 80 ⟨b_3,none,0,(fun _ => (none,0))⟩),he.put hi hau hf rfl [] trivial ⟨qq,qq,qq,qq,qq,qq,qq,qq,qq,qq,qq,qq,qq,qq,qq,qq,qq,qq,trivial⟩,?_⟩
   try dsimp only
   rw [updE_self E 10]
   exact hc
  ·intro E θ a w hD hi hp he hc
   have e10 := hp.o 10 rfl
   try dsimp only at hc
   rw [e10] at hc
   have hf := he.h0.mP he 15 rfl e10
   refine zQ (v := i6 r) hf hc en_74 rfl (fun w hc => by obtain ⟨G1,hle1,hrd1,hc,hth1⟩ := lend hc k0; exact (cmp_Or_int_ok ([(cmp_Compare_int x ((w_.least a_.toNat).cost)),(cmp_Compare_int x_1 ((w_.least a_.toNat).points))] : List Int) hrd1 hc hr).mono fun e w h => ⟨h.1,((hth1 _ _ h.2).unpick k0)⟩) fun a w hf hc => zD θ he hi hf 16 rfl rfl rfl ?_
   try dsimp only
   rw [updE_tru 11 e10]
   exact hc
  ·intro E θ a w hD hi hp he hc
   have e11 := hp.o 11 rfl
   have hf := he.h0.mP he 16 rfl e11
   refine sp 1 hf rfl fun a hf => zD θ he hi hf 17 rfl rfl rfl hc
  ·intro E θ a w hall he hc
   have hf := he.h0
   have e10 := hall 10 rfl
   have e12 := hall 12 rfl
   replace hf := hf.more he 17 rfl (onP e12)
   replace hf := hf.more he 4 rfl (onT)
   replace hf := hf.more he 3 rfl (onT)
   replace hf := hf.more he 2 rfl (onT)
   replace hf := hf.more he 1 rfl (onT)
   replace hf := hf.more he 0 rfl (onT)
   try dsimp only at hc
   rw [e10] at hc
   exact ⟨(θ 80).b,hf.kp rfl,hc⟩
  rintro a w ⟨b_4,hf,hc⟩
  refine h4 _ _ ?_
  refine wp_seq_k fun K5 h5 => ?_
  obtain ⟨t_1,ht_1,hF⟩ := bnd_some hF
  refine cQ hc follows_mx (by kernel_rfl) ?_
  refine qE hf rfl rfl rfl (Pu.ev (pM rfl)) fun a hf => qE hf rfl rfl rfl (Pu.ev (pLt rfl rfl)) fun a hf => qE hf rfl rfl rfl (Pu.ev (pM rfl)) fun a hf => qCut 4 (fun a => Has 73 a [(0,pq b_),(1,i6 a_),(2,i6 b__1),(6,pq b_1),(7,pq b_2),(8,i6 r),(52,i6 r),(53,.bool (decide (r < 0))),(54,.bool (decide (r < 0))),(58,.bool t_1)]) ?_ ?_
  ·cases hb : (decide (r < 0))
   ·rw [hb] at hf
    have hF := condF hb ht_1
    obtain ⟨r_1,hr_1,hF⟩ := bnd_some hF
    refine qE hf rfl rfl rfl (eLdN (vs := [i6 ((w_.least a_.toNat).cost),i6 ((w_.least a_.toNat).points)]) ag_62 rfl rfl (cells_box (n := 2) m1 rfl)) fun a hf => qE hf rfl rfl rfl (eC (v := .agg #[i6 r_1.cost,i6 r_1.points]) (vs := []) (caps := []) en_18 rfl rfl rfl rfl (fun w hc => gauge_far_ok hc hr_1)) fun a hf => qE hf rfl rfl rfl (Pu.ev (pEqA ge_62 rfl rfl (eqs_62 _ _ _ _))) fun a hf => qE hf rfl rfl rfl (Pu.ev (pPf rfl rfl)) fun a hf => ?_
    obtain rfl := sj hF
    exact qNil (hf.kp rfl)
   ·rw [hb] at hf
    have hF := condT hb ht_1
    obtain rfl := sj hF
    refine qS hf rfl rfl rfl fun a hf => qS hf rfl rfl rfl fun a hf => qS hf rfl rfl rfl fun a hf => qE hf rfl rfl rfl (Pu.ev (pPt rfl rfl)) fun a hf => qNil (hf.kp rfl)
  intro a hf
  intro w hc
  refine h5 _ _ ?_
  refine zI hf rfl hF ?_ ?_ <;> clear hF <;> intro hF
  ·obtain ⟨un_2,hun_2,hF⟩ := bnd_some hF
   refine regionE (fun θ => [⟨none,none,0,pq b_⟩,⟨none,none,1,i6 a_⟩,⟨none,none,2,i6 b__1⟩,⟨none,none,6,pq b_1⟩,⟨some 0,none,59,pq b_⟩,⟨some 1,none,60,i6 a_⟩,⟨some 2,none,61,pq b_⟩,⟨some 3,none,62,pq b_⟩,⟨some 4,none,63,.pointer (some ⟨b_,69,none⟩)⟩,⟨some 5,none,64,.map (some mb)⟩,⟨some 6,none,65,i6 a_⟩,⟨some 7,none,66,.agg #[i6 x,i6 x_1]⟩,⟨some 8,none,67,i6 b__1⟩,⟨some 9,none,68,pq b_⟩,⟨some 10,none,69,.pointer (some ⟨b_,5,none⟩)⟩,⟨some 11,none,70,.pointer (some ⟨b_,5 + a_.toNat * 2,none⟩)⟩,⟨some 13,none,71,.tuple #[i6 ((w_.from_ a_).getD 0),i6 (((θ 104).c : Nat) : Int)]⟩,⟨some 14,none,72,i6 (((θ 104).c : Nat) : Int)⟩]) (fun E θ => .row (some ⟨b_4,0,none⟩) 2 (([(cmp_Compare_int x ((w_.least a_.toNat).cost)),(cmp_Compare_int x_1 ((w_.least a_.toNat).points))] : List Int).map encI_i64) 3 1::.box b_2 [i6 ((w_.least a_.toNat).cost),i6 ((w_.least a_.toNat).points)] 62::.box b_1 [i6 x,i6 x_1] 62::(bif E 12 then .box b_ (catc [i6 w_.Site.Left,i6 w_.Site.Right,i6 w_.Site.Gap,i6 w_.Site.Step_,.slice w__Site_Points_p w_.Site.Points.length w__Site_Points_c] 32 enc_gauge_spent (setF w_.least a_.toNat (⟨x,x_1⟩ : gauge_spent)) [.map (some mb)]) 66 else .box b_ (catc [i6 w_.Site.Left,i6 w_.Site.Right,i6 w_.Site.Gap,i6 w_.Site.Step_,.slice w__Site_Points_p w_.Site.Points.length w__Site_Points_c] 32 enc_gauge_spent w_.least [.map (some mb)]) 66)::(bif E 15 then .im mb (fun j => ((setM (setM w_.from_ a_ ((w_.from_ a_).getD 0)) a_ b__1) j).map (Value.int .i64)) none else bif E 13 then .im mb (fun j => ((setM w_.from_ a_ ((w_.from_ a_).getD 0)) j).map (Value.int .i64)) (some ((θ 104).c,a_)) else .im mb (fun j => (w_.from_ j).map (Value.int .i64)) none)::Lf) [(12,5),(15,13),(14,13)] (fun a w => Has 73 a [] ∧ Ctx G (.row (some ⟨b_4,0,none⟩) 2 (([(cmp_Compare_int x ((w_.least a_.toNat).cost)),(cmp_Compare_int x_1 ((w_.least a_.toNat).points))] : List Int).map encI_i64) 3 1::.box b_2 [i6 ((w_.least a_.toNat).cost),i6 ((w_.least a_.toNat).points)] 62::.box b_1 [i6 x,i6 x_1] 62::.box b_ (catc [i6 w_.Site.Left,i6 w_.Site.Right,i6 w_.Site.Gap,i6 w_.Site.Step_,.slice w__Site_Points_p w_.Site.Points.length w__Site_Points_c] 32 enc_gauge_spent (setF w_.least a_.toNat (⟨x,x_1⟩ : gauge_spent)) [.map (some mb)]) 66::.im mb (fun j => ((setM (setM w_.from_ a_ ((w_.from_ a_).getD 0)) a_ b__1) j).map (Value.int .i64)) none::Lf) w) follows_mx (by kernel_rfl) (by kernel_rfl) (HasE.of hf ⟨rfl,rfl,rfl,rfl,trivial,trivial,trivial,trivial,trivial,trivial,trivial,trivial,trivial,trivial,trivial,trivial,trivial,trivial,trivial⟩) hc ⟨?_,?_,?_,?_,?_,?_,?_,?_,?_,?_,?_,?_,?_,?_,?_,?_,trivial⟩ ?_ ?_
   ·intro E θ a w hD hi hp he hc
    have hf := he.h0.mT he 0 rfl
    refine sp 1 hf rfl fun a hf => zD θ he hi hf 4 rfl rfl rfl hc
   ·intro E θ a w hD hi hp he hc
    have hf := he.h0.mT he 1 rfl
    refine sp 1 hf rfl fun a hf => zD θ he hi hf 5 rfl rfl rfl hc
   ·intro E θ a w hD hi hp he hc
    have hf := he.h0.mT he 0 rfl
    refine sp 1 hf rfl fun a hf => zD θ he hi hf 6 rfl rfl rfl hc
   ·intro E θ a w hD hi hp he hc
    have e2 := hp.o 2 rfl
    have hf := he.h0.mP he 6 rfl e2
    refine sp 1 hf rfl fun a hf => zD θ he hi hf 7 rfl rfl rfl hc
   ·intro E θ a w hD hi hp he hc
    have e3 := hp.o 3 rfl
    have hf := he.h0.mP he 7 rfl e3
    refine zP hf rfl (pFA fa_66_2 rfl) fun a hf => zD θ he hi hf 8 rfl rfl rfl hc
   ·intro E θ a w hD hi hp he hc
    have e4 := hp.o 4 rfl
    have e12 := hD.f 0 rfl hi
    try dsimp only at hc
    rw [e12] at hc
    have hf := he.h0.mP he 8 rfl e4
    refine zL hf hc sc_64 m3 rfl fun a w hf hc => zD θ he hi hf 9 rfl rfl rfl ?_
    try dsimp only
    rw [updE_fls 5 e12 rfl]
    exact hc
   ·intro E θ a w hD hi hp he hc
    have hf := he.h0.mT he 1 rfl
    refine sp 1 hf rfl fun a hf => zD θ he hi hf 10 rfl rfl rfl hc
   ·intro E θ a w hD hi hp he hc
    have hf := he.h0.mT he 3 rfl
    refine zN hf hc ag_62 m2 rfl fun a w hf hc => zD θ he hi hf 11 rfl rfl rfl hc
   ·intro E θ a w hD hi hp he hc
    have hf := he.h0.mT he 2 rfl
    refine sp 1 hf rfl fun a hf => zD θ he hi hf 12 rfl rfl rfl hc
   ·intro E θ a w hD hi hp he hc
    have e0 := hp.o 0 rfl
    have hf := he.h0.mP he 4 rfl e0
    refine sp 1 hf rfl fun a hf => zD θ he hi hf 13 rfl rfl rfl hc
   ·intro E θ a w hD hi hp he hc
    have e9 := hp.o 9 rfl
    have hf := he.h0.mP he 13 rfl e9
    refine zP hf rfl (pFA fa_66_1 rfl) fun a hf => zD θ he hi hf 14 rfl rfl rfl hc
   ·intro E θ a w hD hi hp he hc
    have e1 := hp.o 1 rfl
    have e10 := hp.o 10 rfl
    have hf := (he.h0.mP he 5 rfl e1).mP he 14 rfl e10
    refine zP hf rfl (pIAA Tryz.underlying63 sz_62 rfl rfl (inR_spec hun_2).1 (inR_spec hun_2).2) fun a hf => zD θ he hi hf 15 rfl rfl rfl hc
   ·intro E θ a w hD hi hp he hc
    have e7 := hp.o 7 rfl
    have e11 := hp.o 11 rfl
    try dsimp only at hc
    rw [hi] at hc
    have hf := (he.h0.mP he 11 rfl e7).mP he 15 rfl e11
    refine stAr (vs := [i6 x,i6 x_1]) (o' := 0) (z := (⟨x,x_1⟩ : gauge_spent)) hf hc rfl rfl rfl rfl sz_62 rfl (fun x => (one_enc_gauge_spent x).1) rfl hun_2 rfl rfl u3 fun w hc => zG θ he hi hf rfl ?_
    try dsimp only
    rw [updE_self E 12]
    exact hc
   ·intro E θ a w hD hi hp he hc
    have e5 := hp.o 5 rfl
    have e6 := hp.o 6 rfl
    have e15 := hD.f 1 rfl hi
    have e14 := hD.f 2 rfl hi
    try dsimp only at hc
    rw [hi,e15] at hc
    have hf := (he.h0.mP he 9 rfl e5).mP he 10 rfl e6
    refine stME (enc := (Value.int .i64)) (z0 := 0) (m := w_.from_) hf hc rfl rfl Tryz.underlying64 Tryz.underlying3 zr_3 rfl rfl (fun _ => u4) fun stp a w hf hc => cNil ?_
    refine xThenN ?_
    intro ds u hau
    refine ⟨(setT θ 104 ⟨0,none,stp,(fun _ => (none,0))⟩),he.put hi hau hf rfl [14] ⟨⟨e14,rfl⟩,trivial⟩ ⟨qq,qq,qq,qq,qq,qq,qq,qq,qq,qq,qq,qq,qq,qq,qq,qq,qq,trivial,trivial⟩,?_⟩
    try dsimp only
    rw [updE_self E 13,updE_fls 13 e15 rfl]
    exact hc
   ·intro E θ a w hD hi hp he hc
    have e13 := hp.o 13 rfl
    have hf := he.h0.mP he 16 rfl e13
    refine sp 1 hf rfl fun a hf => zD θ he hi hf 17 rfl rfl rfl hc
   ·intro E θ a w hD hi hp he hc
    have e5 := hp.o 5 rfl
    have e8 := hp.o 8 rfl
    have e14 := hp.o 14 rfl
    have e13 := hp.o 13 rfl
    try dsimp only at hc
    rw [e13,hi] at hc
    have hf := ((he.h0.mP he 9 rfl e5).mP he 12 rfl e8).mP he 17 rfl e14
    refine stES (enc := (Value.int .i64)) (m := (setM w_.from_ a_ ((w_.from_ a_).getD 0))) (v := b__1) hf hc rfl rfl rfl rfl u4 fun w hc => zG θ he hi hf rfl ?_
    try dsimp only
    rw [updE_tru 15 e13,updE_self E 15]
    exact hc
   ·intro E θ a w hall he hc
    have hf := he.h0
    have e12 := hall 12 rfl
    have e13 := hall 13 rfl
    have e15 := hall 15 rfl
    try dsimp only at hc
    rw [e12,e13,e15] at hc
    exact ⟨hf.keep trivial,hc⟩
   rintro a w ⟨hf,hc⟩
   obtain rfl := sj hF
   replace hc := ((hc.drop k2).drop k1).drop k0
   exact fnOut0 (by simp) rfl Tryz.results49 hf ⟨rfl,hc⟩
  ·refine wp_skip ?_
   obtain rfl := sj hF
   replace hc := ((hc.drop k2).drop k1).drop k0
   exact fnOut0 (by simp) rfl Tryz.results49 hf ⟨rfl,hc⟩
 refine zS fun K h => sp 3 hf rfl fun a hf => zP hf rfl (pFA fa_66_0 rfl) fun a hf => zP hf rfl (pFA fa_33_4 rfl) fun a hf => zL hf hc sc_31 m1 rfl fun a w hf hc => zP hf rfl (pLenS Tryz.underlying31 rfl) fun a hf => sp 1 hf rfl fun a hf => zT h ?_
 refine zI hf rfl hF ?_ ?_ <;> clear hF <;> intro hF
 ·obtain ⟨r_2,hr_2,hF⟩ := bnd_some hF
  refine regionE (fun θ => [⟨none,none,0,pq b_⟩,⟨none,none,1,i6 a_⟩,⟨none,none,2,i6 b__1⟩,⟨none,none,6,pq b_1⟩,⟨some 0,none,23,pq b_1⟩,⟨some 1,none,24,i6 ((w_.least b__1.toNat).cost)⟩,⟨some 2,none,25,pq b_⟩,⟨some 3,none,26,i6 b__1⟩,⟨some 4,none,27,.agg #[i6 r_2.At,i6 r_2.Depth,i6 r_2.Cost]⟩,⟨some 5,none,28,i6 r_2.Cost⟩,⟨some 6,none,29,i6 (W (((w_.least b__1.toNat).cost) + r_2.Cost))⟩,⟨some 7,none,30,.pointer (some ⟨b_1,1,none⟩)⟩,⟨some 8,none,31,i6 ((w_.least b__1.toNat).points)⟩,⟨some 9,none,32,i6 (W (((w_.least b__1.toNat).points) + 1))⟩,⟨some 10,none,33,.agg #[i6 (W (((w_.least b__1.toNat).cost) + r_2.Cost)),i6 (W (((w_.least b__1.toNat).points) + 1))]⟩]) (fun E θ => (bif E 11 then .box b_1 [i6 (W (((w_.least b__1.toNat).cost) + r_2.Cost)),i6 (W (((w_.least b__1.toNat).points) + 1))] 62 else .box b_1 [i6 ((w_.least b__1.toNat).cost),i6 ((w_.least b__1.toNat).points)] 62)::.box b_ (catc [i6 w_.Site.Left,i6 w_.Site.Right,i6 w_.Site.Gap,i6 w_.Site.Step_,.slice w__Site_Points_p w_.Site.Points.length w__Site_Points_c] 32 enc_gauge_spent w_.least [.map (some mb)]) 66::.im mb (fun j => (w_.from_ j).map (Value.int .i64)) none::Lf) [(11,1),(11,8)] (fun a w => Has 73 a [(0,pq b_),(1,i6 a_),(2,i6 b__1),(6,pq b_1)] ∧ Ctx G (.box b_1 [i6 (W (((w_.least b__1.toNat).cost) + r_2.Cost)),i6 (W (((w_.least b__1.toNat).points) + 1))] 62::.box b_ (catc [i6 w_.Site.Left,i6 w_.Site.Right,i6 w_.Site.Gap,i6 w_.Site.Step_,.slice w__Site_Points_p w_.Site.Points.length w__Site_Points_c] 32 enc_gauge_spent w_.least [.map (some mb)]) 66::.im mb (fun j => (w_.from_ j).map (Value.int .i64)) none::Lf) w) follows_mx (by kernel_rfl) (by kernel_rfl) (HasE.of hf ⟨rfl,rfl,rfl,rfl,trivial,trivial,trivial,trivial,trivial,trivial,trivial,trivial,trivial,trivial,trivial,trivial⟩) hc ⟨?_,?_,?_,?_,?_,?_,?_,?_,?_,?_,?_,?_,trivial⟩ ?_ ?_
  ·intro E θ a w hD hi hp he hc
   have hf := he.h0.mT he 3 rfl
   refine zP hf rfl (pFA fa_62_0 rfl) fun a hf => zD θ he hi hf 4 rfl rfl rfl hc
  ·intro E θ a w hD hi hp he hc
   have e0 := hp.o 0 rfl
   have e11 := hD.f 0 rfl hi
   try dsimp only at hc
   rw [e11] at hc
   have hf := he.h0.mP he 4 rfl e0
   refine zL hf hc sc_3 m0 rfl fun a w hf hc => zD θ he hi hf 5 rfl rfl rfl ?_
   try dsimp only
   rw [updE_fls 1 e11 rfl]
   exact hc
  ·intro E θ a w hD hi hp he hc
   have hf := he.h0.mT he 0 rfl
   refine sp 1 hf rfl fun a hf => zD θ he hi hf 6 rfl rfl rfl hc
  ·intro E θ a w hD hi hp he hc
   have hf := he.h0.mT he 2 rfl
   refine sp 1 hf rfl fun a hf => zD θ he hi hf 7 rfl rfl rfl hc
  ·intro E θ a w hD hi hp he hc
   have e2 := hp.o 2 rfl
   have e3 := hp.o 3 rfl
   have hf := (he.h0.mP he 6 rfl e2).mP he 7 rfl e3
   refine zQ (v := .agg #[i6 r_2.At,i6 r_2.Depth,i6 r_2.Cost]) hf hc en_28 rfl (fun w hc => (gauge_work_station_ok w_ b__1 h_w__Site_Points ((hc.pick k2).pick k2) hr_2).mono fun e w h => ⟨h.1,((h.2.unpick k2).unpick k2)⟩) fun a w hf hc => zD θ he hi hf 8 rfl rfl rfl hc
  ·intro E θ a w hD hi hp he hc
   have e4 := hp.o 4 rfl
   have hf := he.h0.mP he 8 rfl e4
   refine zP hf rfl (pField1 Tryz.underlying57 rfl sc_3 rfl rfl) fun a hf => zD θ he hi hf 9 rfl rfl rfl hc
  ·intro E θ a w hD hi hp he hc
   have e1 := hp.o 1 rfl
   have e5 := hp.o 5 rfl
   have hf := (he.h0.mP he 5 rfl e1).mP he 9 rfl e5
   refine sp 1 hf rfl fun a hf => zD θ he hi hf 10 rfl rfl rfl hc
  ·intro E θ a w hD hi hp he hc
   have hf := he.h0.mT he 3 rfl
   refine zP hf rfl (pFA fa_62_1 rfl) fun a hf => zD θ he hi hf 11 rfl rfl rfl hc
  ·intro E θ a w hD hi hp he hc
   have e7 := hp.o 7 rfl
   have e11 := hD.f 1 rfl hi
   try dsimp only at hc
   rw [e11] at hc
   have hf := he.h0.mP he 11 rfl e7
   refine zL hf hc sc_3 m0 rfl fun a w hf hc => zD θ he hi hf 12 rfl rfl rfl ?_
   try dsimp only
   rw [updE_fls 8 e11 rfl]
   exact hc
  ·intro E θ a w hD hi hp he hc
   have e8 := hp.o 8 rfl
   have hf := he.h0.mP he 12 rfl e8
   refine sp 1 hf rfl fun a hf => zD θ he hi hf 13 rfl rfl rfl hc
  ·intro E θ a w hD hi hp he hc
   have e6 := hp.o 6 rfl
   have e9 := hp.o 9 rfl
   have hf := (he.h0.mP he 10 rfl e6).mP he 13 rfl e9
   refine zP hf rfl (pBuildS (cells := [i6 (W (((w_.least b__1.toNat).cost) + r_2.Cost)),i6 (W (((w_.least b__1.toNat).points) + 1))]) bt_62 rfl rfl) fun a hf => zD θ he hi hf 14 rfl rfl rfl hc
  ·intro E θ a w hD hi hp he hc
   have e10 := hp.o 10 rfl
   try dsimp only at hc
   rw [hi] at hc
   have hf := (he.h0.mT he 3 rfl).mP he 14 rfl e10
   refine zW hf hc sz_62 u0 rfl fun w hc => zG θ he hi hf rfl ?_
   try dsimp only
   rw [updE_self E 11]
   exact hc
  ·intro E θ a w hall he hc
   have hf := he.h0
   have e11 := hall 11 rfl
   replace hf := hf.more he 3 rfl (onT)
   replace hf := hf.more he 2 rfl (onT)
   replace hf := hf.more he 1 rfl (onT)
   replace hf := hf.more he 0 rfl (onT)
   try dsimp only at hc
   rw [e11] at hc
   exact ⟨hf.kp rfl,hc⟩
  rintro a w ⟨hf,hc⟩
  exact hj2 (W (((w_.least b__1.toNat).cost) + r_2.Cost)) (W (((w_.least b__1.toNat).points) + 1)) _ _  (hf.kp rfl) hc hF
 ·refine wp_skip ?_
  exact hj2 ((w_.least b__1.toNat).cost) ((w_.least b__1.toNat).points) _ _  (hf.kp rfl) hc hF

def gauge_opened_j21 (N : Nat) (b_3 : Int) (x_2 : Nat → gauge_spent) (mp_2 : Int → Option Int) : Option (Step (Int × (Nat → gauge_spent) × (Int → Option Int)) (Step (Int × (Nat → gauge_spent) × (Int → Option Int)) ((Int) ⊕ (Int × Int × Int × Int × (Nat → gauge_spent) × (Int → Option Int) × Int)))) :=
 some (.cont (W (b_3 + 1),x_2,mp_2))
def gauge_opened_b18 (N : Nat) (s_ : gauge_Site) (a_1 : Int) (b_3 : Int) (x_1 : Nat → gauge_spent) (mp_1 : Int → Option Int) : Option (Step (Int × (Nat → gauge_spent) × (Int → Option Int)) (Step (Int × (Nat → gauge_spent) × (Int → Option Int)) ((Int) ⊕ (Int × Int × Int × Int × (Nat → gauge_spent) × (Int → Option Int) × Int)))) :=
 cond (decide (b_3 ≤ (W (((s_.Points.length : Nat) : Int) + 1))))
 (Option.bind (gauge_work_steps N (⟨s_,x_1,mp_1⟩ : gauge_work) a_1 b_3) fun r_2 =>
 Option.bind (cond r_2 (Option.bind (inR b_3 32) fun un_1 =>
 Option.bind (gauge_far N) fun r_3 =>
 some (!(((x_1 b_3.toNat).cost) == r_3.cost && ((x_1 b_3.toNat).points) == r_3.points))) (some false)) fun t_1 =>
 cond t_1
 (Option.bind (gauge_work_better N (⟨s_,x_1,mp_1⟩ : gauge_work) a_1 b_3) fun r_4 =>
 gauge_opened_j21 N b_3 r_4.1 r_4.2)
 (gauge_opened_j21 N b_3 x_1 mp_1))
 (some (.brk (b_3,x_1,mp_1)))
def gauge_opened_b10 (N : Nat) (s_ : gauge_Site) (a_1 : Int) (x : Nat → gauge_spent) (mp : Int → Option Int) : Option (Step (Int × (Nat → gauge_spent) × (Int → Option Int)) ((Int) ⊕ (Int × Int × Int × Int × (Nat → gauge_spent) × (Int → Option Int) × Int))) :=
 cond (decide (0 ≤ a_1))
 (Option.bind (gauge_far N) fun r_1 =>
 Option.bind (inR a_1 32) fun un =>
 Option.bind (loopO (fun s18 => gauge_opened_b18 N s_ a_1 s18.1 s18.2.1 s18.2.2) N (W (a_1 + 1),(setF x a_1.toNat r_1),mp)) fun x18 =>
 exK x18 (fun s18 => some (.cont (W (a_1 - 1),s18.2.1,s18.2.2))) some)
 (some (.brk (a_1,x,mp)))
def gauge_opened (N : Nat) (s_ : gauge_Site) : Option ((Int) ⊕ (Int × Int × Int × Int × (Nat → gauge_spent) × (Int → Option Int) × Int)) :=
 Option.bind (gauge_CheckSite N s_) fun r =>
 cond (r != 0)
 (some (.inl r))
 (Option.bind (loopO (fun s10 => gauge_opened_b10 N s_ s10.1 s10.2.1 s10.2.2) N (W ((W (((s_.Points.length : Nat) : Int) + 1)) - 1),(fun _ => (⟨0,0⟩ : gauge_spent)),(fun _ => none : Int → Option Int))) fun x10 =>
 exK x10 (fun s10 => some (.inr (s_.Left,s_.Right,s_.Gap,s_.Step_,s10.2.1,s10.2.2,0))) some)
theorem gauge_opened_ok {N : Nat} {G : Pers} {Lf : List Ent} {w : World} (s_ : gauge_Site) {s__Points_p : Option Addr} {s__Points_c : Nat} (h_s__Points : Rd G 3 s__Points_p s__Points_c (s_.Points.map enc_gauge_Point)) (hc : Ctx G (Lf) w) {res : (Int) ⊕ (Int × Int × Int × Int × (Nat → gauge_spent) × (Int → Option Int) × Int)} (hF : gauge_opened N s_ = some res) : Calls Tryz.prog 17 #[.agg #[i6 s_.Left,i6 s_.Right,i6 s_.Gap,i6 s_.Step_,.slice s__Points_p s_.Points.length s__Points_c]] w (fun e w => sumK (fun rr => e = .returned (.tuple #[.pointer none,i6 rr]) ∧ Ctx G (Lf) w) (fun rr => ∃ (b'1 : Nat) (b'2 : Nat),e = .returned (.tuple #[pq b'1,i6 rr.2.2.2.2.2.2]) ∧ Ctx G (.im b'2 (fun j => (rr.2.2.2.2.2.1 j).map (Value.int .i64)) none::.box b'1 (catc [i6 rr.1,i6 rr.2.1,i6 rr.2.2.1,i6 rr.2.2.2.1,.slice s__Points_p s_.Points.length s__Points_c] 32 enc_gauge_spent rr.2.2.2.2.1 [.map (some b'2)]) 66::Lf) w) res) := by
 unfold gauge_opened at hF
 refine fnIn Tryz.func17 rfl Tryz.ntmps17 rfl fun a hf => zS fun K h => zB hf hc rfl fun b_1 a w hf hc => sp 2 hf rfl fun a hf => zT h ?_
 refine wp_seq_k fun K2 h2 => zS fun K h => zN hf hc ag_33 m0 rfl fun a w hf hc => ?_
 obtain ⟨r,hr,hF⟩ := bnd_some hF
 refine zQ (v := i6 r) hf hc en_20 rfl (fun w hc => gauge_CheckSite_ok s_ h_s__Points hc hr) fun a w hf hc => sp 1 hf rfl fun a hf => zT h ?_
 refine zS fun K h => sp 2 hf rfl fun a hf => zT h ?_
 refine zI hf rfl hF ?_ ?_ <;> clear hF <;> intro hF
 ·refine zS fun K h => sp 3 hf rfl fun a hf => zT h ?_
  refine wp_ret ?_
  refine xThenR ?_
  obtain rfl := sj hF
  replace hc := hc.drop k0
  exact zO2 Tryz.results17 hf rfl rfl ⟨rfl,hc⟩
 ·refine wp_skip ?_
  refine h2 _ _ ?_
  refine zS fun K h => zN hf hc ag_33 m0 rfl fun a w hf hc => stMM hf hc rfl rfl fun mb a w hf hc => ?_
  replace hc : Ctx _ (.im mb (fun j => ((fun _ => none : Int → Option Int) j).map (Value.int .i64)) none::_) w := hc
  refine zP hf rfl (pBuildS (cells := (catc [i6 s_.Left,i6 s_.Right,i6 s_.Gap,i6 s_.Step_,.slice s__Points_p s_.Points.length s__Points_c] 32 enc_gauge_spent (fun _ => (⟨0,0⟩ : gauge_spent)) [.map (some mb)])) bt_66 rfl rfl) fun a hf => stBx (cs := (catc [i6 s_.Left,i6 s_.Right,i6 s_.Gap,i6 s_.Step_,.slice s__Points_p s_.Points.length s__Points_c] 32 enc_gauge_spent (fun _ => (⟨0,0⟩ : gauge_spent)) [.map (some mb)])) hf hc rfl rfl rfl rfl fun b_2 a w hf hc => sp 1 hf rfl fun a hf => zT h ?_
  refine zS fun K h => zP hf rfl (pFA fa_33_4 rfl) fun a hf => zL hf hc sc_31 m2 rfl fun a w hf hc => zP hf rfl (pLenS Tryz.underlying31 rfl) fun a hf => sp 2 hf rfl fun a hf => zT h ?_
  refine wp_seq_k fun K8 h8 => zS fun K h => sp 3 hf rfl fun a hf => zT h ?_
  refine wp_block ?_
  obtain ⟨x10,hx10,hF⟩ := bnd_some hF
  let S10 : (Int × (Nat → gauge_spent) × (Int → Option Int)) → Act → World → Prop := (fun (zz : Int × (Nat → gauge_spent) × (Int → Option Int)) a w => Has 60 a [(5,pq b_2),(6,i6 (W (((s_.Points.length : Nat) : Int) + 1))),(7,i6 zz.1)] ∧ Ctx G (.box b_2 (catc [i6 s_.Left,i6 s_.Right,i6 s_.Gap,i6 s_.Step_,.slice s__Points_p s_.Points.length s__Points_c] 32 enc_gauge_spent zz.2.1 [.map (some mb)]) 66::.im mb (fun j => (zz.2.2 j).map (Value.int .i64)) none::Lf) w)
  have hr10 : ∀ (zz : Int × (Nat → gauge_spent) × (Int → Option Int)) a w,x10 = .go zz → S10 zz a w → K8 a w := by
   rintro ⟨a_1,x,mp⟩ a w rfl ⟨hf,hc⟩
   replace hF := exK_go hF
   refine h8 _ _ ?_
   refine zS fun K h => sp 3 hf rfl fun a hf => zT h ?_
   refine wp_ret ?_
   obtain rfl := sj hF
   replace hc := (hc.pick k0).pick k1
   exact zO2 Tryz.results17 hf rfl rfl ⟨b_2,mb,rfl,hc⟩
  have ho10 : ∀ r,x10 = .out r → r = res := by
   rintro r rfl
   exact sj hF
  replace hc := hc.drop k2
  refine cLoop N (loopW (S := S10) (x := x10) ?_ N (W ((W (((s_.Points.length : Nat) : Int) + 1)) - 1),(fun _ => (⟨0,0⟩ : gauge_spent)),(fun _ => none : Int → Option Int)) _ _ ⟨hf.kp rfl,hc⟩ hx10)
  clear hF hf hc
  rintro ⟨a_1,x,mp⟩ st10 a w KB10 ⟨hf,hc⟩ hF hfin10 hK10
  unfold gauge_opened_b10 at hF
  refine wp_seq_k fun K12 h12 => zS fun K h => sp 2 hf rfl fun a hf => zT h ?_
  refine zI hf rfl hF ?_ ?_ <;> clear hF <;> intro hF
  ·refine wp_skip ?_
   refine h12 _ _ ?_
   refine wp_seq_k fun K14 h14 => wp_block ?_
   refine wp_seq_k fun K15 h15 => ?_
   obtain ⟨r_1,hr_1,hF⟩ := bnd_some hF
   obtain ⟨un,hun,hF⟩ := bnd_some hF
   refine regionE (fun θ => [⟨none,none,5,pq b_2⟩,⟨none,none,6,i6 (W (((s_.Points.length : Nat) : Int) + 1))⟩,⟨none,none,7,i6 a_1⟩,⟨some 0,none,28,pq b_2⟩,⟨some 1,none,29,i6 a_1⟩,⟨some 2,none,30,.agg #[i6 r_1.cost,i6 r_1.points]⟩,⟨some 3,none,31,pq b_2⟩,⟨some 4,none,32,.pointer (some ⟨b_2,5,none⟩)⟩,⟨some 5,none,33,.pointer (some ⟨b_2,5 + a_1.toNat * 2,none⟩)⟩]) (fun E θ => (bif E 6 then .box b_2 (catc [i6 s_.Left,i6 s_.Right,i6 s_.Gap,i6 s_.Step_,.slice s__Points_p s_.Points.length s__Points_c] 32 enc_gauge_spent (setF x a_1.toNat r_1) [.map (some mb)]) 66 else .box b_2 (catc [i6 s_.Left,i6 s_.Right,i6 s_.Gap,i6 s_.Step_,.slice s__Points_p s_.Points.length s__Points_c] 32 enc_gauge_spent x [.map (some mb)]) 66)::.im mb (fun j => (mp j).map (Value.int .i64)) none::Lf) [] (fun a w => Has 60 a [(5,pq b_2),(6,i6 (W (((s_.Points.length : Nat) : Int) + 1))),(7,i6 a_1)] ∧ Ctx G (.box b_2 (catc [i6 s_.Left,i6 s_.Right,i6 s_.Gap,i6 s_.Step_,.slice s__Points_p s_.Points.length s__Points_c] 32 enc_gauge_spent (setF x a_1.toNat r_1) [.map (some mb)]) 66::.im mb (fun j => (mp j).map (Value.int .i64)) none::Lf) w) follows_mx (by kernel_rfl) (by kernel_rfl) (HasE.of hf ⟨rfl,rfl,rfl,trivial,trivial,trivial,trivial,trivial,trivial,trivial⟩) hc ⟨?_,?_,?_,?_,?_,?_,?_,trivial⟩ ?_ ?_
   ·intro E θ a w hD hi hp he hc
    have hf := he.h0.mT he 0 rfl
    refine sp 1 hf rfl fun a hf => zD θ he hi hf 3 rfl rfl rfl hc
   ·intro E θ a w hD hi hp he hc
    have hf := he.h0.mT he 2 rfl
    refine sp 1 hf rfl fun a hf => zD θ he hi hf 4 rfl rfl rfl hc
   ·intro E θ a w hD hi hp he hc
    have hf := he.h0
    refine zQ (v := .agg #[i6 r_1.cost,i6 r_1.points]) hf hc en_18 rfl (fun w hc => gauge_far_ok hc hr_1) fun a w hf hc => zD θ he hi hf 5 rfl rfl rfl hc
   ·intro E θ a w hD hi hp he hc
    have e0 := hp.o 0 rfl
    have hf := he.h0.mP he 3 rfl e0
    refine sp 1 hf rfl fun a hf => zD θ he hi hf 6 rfl rfl rfl hc
   ·intro E θ a w hD hi hp he hc
    have e3 := hp.o 3 rfl
    have hf := he.h0.mP he 6 rfl e3
    refine zP hf rfl (pFA fa_66_1 rfl) fun a hf => zD θ he hi hf 7 rfl rfl rfl hc
   ·intro E θ a w hD hi hp he hc
    have e1 := hp.o 1 rfl
    have e4 := hp.o 4 rfl
    have hf := (he.h0.mP he 4 rfl e1).mP he 7 rfl e4
    refine zP hf rfl (pIAA Tryz.underlying63 sz_62 rfl rfl (inR_spec hun).1 (inR_spec hun).2) fun a hf => zD θ he hi hf 8 rfl rfl rfl hc
   ·intro E θ a w hD hi hp he hc
    have e2 := hp.o 2 rfl
    have e5 := hp.o 5 rfl
    try dsimp only at hc
    rw [hi] at hc
    have hf := (he.h0.mP he 5 rfl e2).mP he 8 rfl e5
    refine stAr (vs := [i6 r_1.cost,i6 r_1.points]) (o' := 0) (z := r_1) hf hc rfl rfl rfl rfl sz_62 rfl (fun x => (one_enc_gauge_spent x).1) rfl hun rfl rfl u0 fun w hc => zG θ he hi hf rfl ?_
    try dsimp only
    rw [updE_self E 6]
    exact hc
   ·intro E θ a w hall he hc
    have hf := he.h0
    have e6 := hall 6 rfl
    replace hf := hf.more he 2 rfl (onT)
    replace hf := hf.more he 1 rfl (onT)
    replace hf := hf.more he 0 rfl (onT)
    try dsimp only at hc
    rw [e6] at hc
    exact ⟨hf.kp rfl,hc⟩
   rintro a w ⟨hf,hc⟩
   refine h15 _ _ ?_
   refine zS fun K h => sp 3 hf rfl fun a hf => zT h ?_
   refine wp_thenK fun K17 h17 => wp_block ?_
   obtain ⟨x18,hx18,hF⟩ := bnd_some hF
   let S18 : (Int × (Nat → gauge_spent) × (Int → Option Int)) → Act → World → Prop := (fun (zz : Int × (Nat → gauge_spent) × (Int → Option Int)) a w => Has 60 a [(5,pq b_2),(6,i6 (W (((s_.Points.length : Nat) : Int) + 1))),(7,i6 a_1),(8,i6 zz.1)] ∧ Ctx G (.box b_2 (catc [i6 s_.Left,i6 s_.Right,i6 s_.Gap,i6 s_.Step_,.slice s__Points_p s_.Points.length s__Points_c] 32 enc_gauge_spent zz.2.1 [.map (some mb)]) 66::.im mb (fun j => (zz.2.2 j).map (Value.int .i64)) none::Lf) w)
   have hr18 : ∀ (zz : Int × (Nat → gauge_spent) × (Int → Option Int)) a w,x18 = .go zz → S18 zz a w → K17 a w := by
    rintro ⟨b_3,x_1,mp_1⟩ a w rfl ⟨hf,hc⟩
    replace hF := exK_go hF
    refine h17 _ _ ?_
    refine h14 _ _ ?_
    refine cReg ?_
    refine sp 3 hf rfl fun a hf => cNil ?_
    exact hK10 (W (a_1 - 1),x_1,mp_1) _ _ (sj hF).symm ⟨hf.kp rfl,hc⟩
   have ho18 : ∀ r,x18 = .out r → r = st10 := by
    rintro r rfl
    exact sj hF
   refine cLoop N (loopW (S := S18) (x := x18) ?_ N (W (a_1 + 1),(setF x a_1.toNat r_1),mp) _ _ ⟨hf.kp rfl,hc⟩ hx18)
   clear hF hf hc
   rintro ⟨b_3,x_1,mp_1⟩ st18 a w KB18 ⟨hf,hc⟩ hF hfin18 hK18
   unfold gauge_opened_b18 at hF
   refine wp_seq_k fun K19 h19 => zS fun K h => sp 3 hf rfl fun a hf => zT h ?_
   refine zI hf rfl hF ?_ ?_ <;> clear hF <;> intro hF
   ·refine wp_skip ?_
    refine h19 _ _ ?_
    refine wp_seq_k fun K21 h21 => ?_
    have hj21 : ∀ (x_2 : Nat → gauge_spent) (mp_2 : Int → Option Int) a w,Has 60 a [(5,pq b_2),(6,i6 (W (((s_.Points.length : Nat) : Int) + 1))),(7,i6 a_1),(8,i6 b_3)] → Ctx G (.box b_2 (catc [i6 s_.Left,i6 s_.Right,i6 s_.Gap,i6 s_.Step_,.slice s__Points_p s_.Points.length s__Points_c] 32 enc_gauge_spent x_2 [.map (some mb)]) 66::.im mb (fun j => (mp_2 j).map (Value.int .i64)) none::Lf) w → gauge_opened_j21 N b_3 x_2 mp_2 = some st18 → K21 a w := by
     repeat (clear hF)
     repeat (clear hc)
     repeat (clear hf)
     intro x_2 mp_2 a w hf hc hF
     unfold gauge_opened_j21 at hF
     refine h21 _ _ ?_
     refine cReg ?_
     refine sp 3 hf rfl fun a hf => cNil ?_
     exact hK18 (W (b_3 + 1),x_2,mp_2) _ _ (sj hF).symm ⟨hf.kp rfl,hc⟩
    refine wp_block ?_
    refine wp_seq_k fun K22 h22 => ?_
    obtain ⟨r_2,hr_2,hF⟩ := bnd_some hF
    obtain ⟨t_1,ht_1,hF⟩ := bnd_some hF
    refine cQ hc follows_mx (by kernel_rfl) ?_
    refine qE hf rfl rfl rfl (Pu.ev (pM rfl)) fun a hf => qE hf rfl rfl rfl (Pu.ev (pM rfl)) fun a hf => qE hf rfl rfl rfl (Pu.ev (pM rfl)) fun a hf => qE hf rfl rfl rfl (eC (v := .bool r_2) (vs := [pq b_2,i6 a_1,i6 b_3]) (caps := []) en_26 rfl rfl rfl rfl (fun w hc => (gauge_work_steps_ok (⟨s_,x_1,mp_1⟩ : gauge_work) a_1 b_3 h_s__Points ((hc.pick k1).pick k1) hr_2).mono fun e w h => ⟨h.1,((h.2.unpick k1).unpick k1)⟩)) fun a hf => qE hf rfl rfl rfl (Pu.ev (pM rfl)) fun a hf => qCut 9 (fun a => Has 60 a [(5,pq b_2),(6,i6 (W (((s_.Points.length : Nat) : Int) + 1))),(7,i6 a_1),(8,i6 b_3),(41,pq b_2),(42,i6 a_1),(43,i6 b_3),(44,.bool r_2),(45,.bool r_2),(54,.bool t_1)]) ?_ ?_
    ·cases hb : r_2
     ·rw [hb] at hf
      have hF := condF hb ht_1
      obtain rfl := sj hF
      refine qS hf rfl rfl rfl fun a hf => qS hf rfl rfl rfl fun a hf => qS hf rfl rfl rfl fun a hf => qS hf rfl rfl rfl fun a hf => qS hf rfl rfl rfl fun a hf => qS hf rfl rfl rfl fun a hf => qS hf rfl rfl rfl fun a hf => qS hf rfl rfl rfl fun a hf => qE hf rfl rfl rfl (Pu.ev (pPf rfl rfl)) fun a hf => qNil (hf.kp rfl)
     ·rw [hb] at hf
      have hF := condT hb ht_1
      obtain ⟨un_1,hun_1,hF⟩ := bnd_some hF
      obtain ⟨r_3,hr_3,hF⟩ := bnd_some hF
      refine qE hf rfl rfl rfl (Pu.ev (pM rfl)) fun a hf => qE hf rfl rfl rfl (Pu.ev (pM rfl)) fun a hf => qE hf rfl rfl rfl (Pu.ev (pNC rfl)) fun a hf => qE hf rfl rfl rfl (Pu.ev (pFA fa_66_1 rfl)) fun a hf => qE hf rfl rfl rfl (Pu.ev (pIAA Tryz.underlying63 sz_62 rfl rfl (inR_spec hun_1).1 (inR_spec hun_1).2)) fun a hf => qE hf rfl rfl rfl (eLdN (vs := [i6 ((x_1 b_3.toNat).cost),i6 ((x_1 b_3.toNat).points)]) ag_62 rfl rfl (cells_arr (o' := 0) (m := 2) m0 (fun x => (one_enc_gauge_spent x).1) rfl hun_1 rfl)) fun a hf => qE hf rfl rfl rfl (eC (v := .agg #[i6 r_3.cost,i6 r_3.points]) (vs := []) (caps := []) en_18 rfl rfl rfl rfl (fun w hc => gauge_far_ok hc hr_3)) fun a hf => qE hf rfl rfl rfl (Pu.ev (pNeA ge_62 rfl rfl (eqs_62 _ _ _ _))) fun a hf => qE hf rfl rfl rfl (Pu.ev (pPt rfl rfl)) fun a hf => ?_
      obtain rfl := sj hF
      exact qNil (hf.kp rfl)
    intro a hf
    intro w hc
    refine h22 _ _ ?_
    refine zI hf rfl hF ?_ ?_ <;> clear hF <;> intro hF
    ·refine cReg ?_
     refine sp 3 hf rfl fun a hf => ?_
     obtain ⟨r_4,hr_4,hF⟩ := bnd_some hF
     refine zC hf en_49 rfl (gauge_work_better_ok (⟨s_,x_1,mp_1⟩ : gauge_work) a_1 b_3 h_s__Points ((hc.pick k1).pick k1) hr_4) ?_
     rintro _ w ⟨rfl,hc⟩
     refine ⟨_,rfl,fun a hf => ?_⟩
     refine cNil ?_
     exact hj21 r_4.1 r_4.2 _ _  (hf.kp rfl) hc hF
    ·refine wp_skip ?_
     exact hj21 x_1 mp_1 _ _  (hf.kp rfl) hc hF
   ·refine wp_exit ?_
    refine xThen ?_
    refine xThen ?_
    have he := sj hF
    rw [← he] at hfin18
    refine cHit ?_
    exact hr18 _ _ _ hfin18 ⟨hf.kp rfl,hc⟩
  ·refine wp_exit ?_
   refine xThen ?_
   refine xThen ?_
   have he := sj hF
   rw [← he] at hfin10
   refine cHit ?_
   exact hr10 _ _ _ hfin10 ⟨hf.kp rfl,hc⟩

def gauge_Plan_1 : Nat → Int → gauge_work → gauge_Site → (List Int) → Option ((List Int))
| 0,_,_,_,_ => none
| N + 1,at_,x,x_1,x_2 =>
 cond (decide (((x.from_ at_).getD 0) ≤ ((x_1.Points.length : Nat) : Int)))
 (Option.bind (room ((x_2 ++ [((x.from_ at_).getD 0)])).length) fun un =>
 Option.bind (gauge_Plan_1 N ((x.from_ at_).getD 0) (⟨x.Site,x.least,x.from_⟩ : gauge_work) x_1 (x_2 ++ [((x.from_ at_).getD 0)])) fun r =>
 some r)
 (some x_2)
theorem gauge_Plan_1_ok {N : Nat} : ∀ {G : Pers} {Lf : List Ent} {w : World} (at_ : Int) (x : gauge_work) (x_1 : gauge_Site) (x_2 : List Int) {b_ : Nat} {b__1 : Nat} {x_Site_Points_p : Option Addr} {x_Site_Points_c : Nat} {mb : Nat} {b__2 : Nat} {x_1_Points_p : Option Addr} {x_1_Points_c : Nat} {b__3 : Nat} {x_2_p : Option Addr} {x_2_c : Nat} {b__4 : Nat} (h_x_Site_Points : Rd G 3 x_Site_Points_p x_Site_Points_c (x.Site.Points.map enc_gauge_Point)) (h_x_1_Points : Rd G 3 x_1_Points_p x_1_Points_c (x_1.Points.map enc_gauge_Point)) (hc : Ctx G (.box b_ [pq b__1] 58::.box b__1 (catc [i6 x.Site.Left,i6 x.Site.Right,i6 x.Site.Gap,i6 x.Site.Step_,.slice x_Site_Points_p x.Site.Points.length x_Site_Points_c] 32 enc_gauge_spent x.least [.map (some mb)]) 66::.im mb (fun j => (x.from_ j).map (Value.int .i64)) none::.box b__2 [i6 x_1.Left,i6 x_1.Right,i6 x_1.Gap,i6 x_1.Step_,.slice x_1_Points_p x_1.Points.length x_1_Points_c] 33::.box b__3 [.slice x_2_p x_2.length x_2_c] 35::.row x_2_p x_2_c (x_2.map encI_i64) 3 1::.box b__4 [.func (.func 19) #[] #[pq b_,pq b__2,pq b__3,pq b__4]] 68::Lf) w) {res : (List Int)} (hF : gauge_Plan_1 N at_ x x_1 x_2 = some res),Calls Tryz.prog 19 #[i6 at_,pq b_,pq b__2,pq b__3,pq b__4] w (fun e w => ∃ (p'1 : Option Addr) (c'1 : Nat),e = .returned (.tuple #[]) ∧ Ctx G (.row p'1 c'1 (res.map encI_i64) 3 1::.box b_ [pq b__1] 58::.box b__1 (catc [i6 x.Site.Left,i6 x.Site.Right,i6 x.Site.Gap,i6 x.Site.Step_,.slice x_Site_Points_p x.Site.Points.length x_Site_Points_c] 32 enc_gauge_spent x.least [.map (some mb)]) 66::.im mb (fun j => (x.from_ j).map (Value.int .i64)) none::.box b__2 [i6 x_1.Left,i6 x_1.Right,i6 x_1.Gap,i6 x_1.Step_,.slice x_1_Points_p x_1.Points.length x_1_Points_c] 33::.box b__3 [.slice p'1 res.length c'1] 35::.box b__4 [.func (.func 19) #[] #[pq b_,pq b__2,pq b__3,pq b__4]] 68::Lf) w) := by
 induction N with
 | zero =>
  intro G Lf w at_ x x_1 x_2 b_ b__1 x_Site_Points_p x_Site_Points_c mb b__2 x_1_Points_p x_1_Points_c b__3 x_2_p x_2_c b__4 h_x_Site_Points h_x_1_Points hc res hF
  exact noneO hF
 | succ N ih =>
 intro G Lf w at_ x x_1 x_2 b_ b__1 x_Site_Points_p x_Site_Points_c mb b__2 x_1_Points_p x_1_Points_c b__3 x_2_p x_2_c b__4 h_x_Site_Points h_x_1_Points hc res hF
 rw [gauge_Plan_1] at hF
 refine fnIn Tryz.func19 rfl Tryz.ntmps19 rfl fun a hf => zS fun K h => zL hf hc sc_58 m0 rfl fun a w hf hc => sp 1 hf rfl fun a hf => zP hf rfl (pFA fa_66_2 rfl) fun a hf => zL hf hc sc_64 m1 rfl fun a w hf hc => sp 1 hf rfl fun a hf => zE hf hc rfl (eLk (enc := (Value.int .i64)) (z0 := 0) (m := x.from_) m2 Tryz.underlying64 Tryz.underlying3 zr_3 rfl rfl) fun a w hf hc => sp 1 hf rfl fun a hf => zT h ?_
 refine zS fun K h => sp 1 hf rfl fun a hf => zP hf rfl (pFA fa_33_4 rfl) fun a hf => zL hf hc sc_31 m3 rfl fun a w hf hc => zP hf rfl (pLenS Tryz.underlying31 rfl) fun a hf => sp 1 hf rfl fun a hf => zT h ?_
 refine zI hf rfl hF ?_ ?_ <;> clear hF <;> intro hF
 ·refine zS fun K h => zL hf hc sc_35 m4 rfl fun a w hf hc => sp 1 hf rfl fun a hf => stBS (rows := ([((x.from_ at_).getD 0)] : List Int).map encI_i64) (vs := [(0,i6 ((x.from_ at_).getD 0))]) hf hc rfl rfl sl_35 rfl ⟨rfl,rfl,rfl,trivial⟩ rfl rfl fun b_1 a w hf hc => ?_
  obtain ⟨un,hun,hF⟩ := bnd_some hF
  refine stApm (xs := x_2) (ys := ([((x.from_ at_).getD 0)] : List Int)) hf hc rfl rfl sl_35 rfl rfl rfl rfl rfl one_encI_i64 (src_row hc m0) (fun _ _ => u6) (by simpa using room_spec hun) fun p_1 c_1 a w hf hc => zW hf hc sz_35 u5 rfl fun w hc => zT h ?_
  refine cReg ?_
  refine zL hf hc sc_68 m7 rfl fun a w hf hc => sp 1 hf rfl fun a hf => ?_
  obtain ⟨r,hr,hF⟩ := bnd_some hF
  refine zC hf en_19 rfl (ih ((x.from_ at_).getD 0) (⟨x.Site,x.least,x.from_⟩ : gauge_work) x_1 (x_2 ++ [((x.from_ at_).getD 0)]) h_x_Site_Points h_x_1_Points (((((((hc.pick k7).pick k7).pick k7).pick k7).pick k7).pick k7).pick k7) hr) ?_
  rintro _ w ⟨p_2,c_2,rfl,hc⟩
  refine ⟨_,rfl,fun a hf => ?_⟩
  refine cNil ?_
  obtain rfl := sj hF
  replace hc := hc.drop k7
  exact fnOut0 (by simp) rfl Tryz.results19 hf ⟨p_2,c_2,rfl,hc⟩
 ·refine wp_skip ?_
  obtain rfl := sj hF
  replace hc := (((((hc.pick k4).pick k4).pick k4).pick k4).pick k4).pick k5
  exact fnOut0 (by simp) rfl Tryz.results19 hf ⟨x_2_p,x_2_c,rfl,hc⟩

def gauge_Plan (N : Nat) (s_ : gauge_Site) : Option ((List Int) × Int × Int) :=
 Option.bind (gauge_opened N s_) (sumK (fun r => cond (r != 0)
 (some (([] : List Int),0,r))
 (none))
 (fun r_1 => cond (r_1.2.2.2.2.2.2 != 0)
 (some (([] : List Int),0,r_1.2.2.2.2.2.2))
 (Option.bind (inR 0 32) fun un =>
 Option.bind (gauge_far N) fun r_2 =>
 cond (((r_1.2.2.2.2.1 (0 : Int).toNat).cost) == r_2.cost && ((r_1.2.2.2.2.1 (0 : Int).toNat).points) == r_2.points)
 (some (([] : List Int),0,5))
 (Option.bind (gauge_Plan_1 N 0 (⟨(⟨r_1.1,r_1.2.1,r_1.2.2.1,r_1.2.2.2.1,s_.Points⟩ : gauge_Site),r_1.2.2.2.2.1,r_1.2.2.2.2.2.1⟩ : gauge_work) s_ ([] : List Int)) fun r_3 =>
 Option.bind (inR 0 32) fun un_1 =>
 some (r_3,(r_1.2.2.2.2.1 (0 : Int).toNat).cost,0)))))
theorem gauge_Plan_ok {N : Nat} {G : Pers} {Lf : List Ent} {w : World} (s_ : gauge_Site) {s__Points_p : Option Addr} {s__Points_c : Nat} (h_s__Points : Rd G 3 s__Points_p s__Points_c (s_.Points.map enc_gauge_Point)) (hc : Ctx G (Lf) w) {res : (List Int) × Int × Int} (hF : gauge_Plan N s_ = some res) : Calls Tryz.prog 9 #[.agg #[i6 s_.Left,i6 s_.Right,i6 s_.Gap,i6 s_.Step_,.slice s__Points_p s_.Points.length s__Points_c]] w (fun e w => ∃ (p'1 : Option Addr) (c'1 : Nat),e = .returned (.tuple #[.slice p'1 res.1.length c'1,i6 res.2.1,i6 res.2.2]) ∧ Ctx G (.row p'1 c'1 (res.1.map encI_i64) 3 1::Lf) w) := by
 unfold gauge_Plan at hF
 refine fnIn Tryz.func9 rfl Tryz.ntmps9 rfl fun a hf => zS fun K h => zB hf hc rfl fun b_1 a w hf hc => sp 3 hf rfl fun a hf => zT h ?_
 refine zS fun K h => zN hf hc ag_33 m0 rfl fun a w hf hc => ?_
 obtain ⟨r,hr,hF⟩ := bnd_some hF
 cases r with
 | inl r =>
  replace hF := sumKl hF
  refine zC hf en_17 rfl (gauge_opened_ok s_ h_s__Points hc hr) ?_
  rintro _ w ⟨rfl,hc⟩
  refine ⟨_,rfl,fun a hf => ?_⟩
  refine sp 3 hf rfl fun a hf => zA hf hc zr_58 rfl fun b_2 a w hf hc => zW hf hc sz_58 u0 rfl fun w hc => sp 1 hf rfl fun a hf => zT h ?_
  refine wp_seq_k fun K3 h3 => wp_block ?_
  refine zS fun K h => sp 3 hf rfl fun a hf => zT h ?_
  refine zI hf rfl hF ?_ ?_ <;> clear hF <;> intro hF
  ·refine zS fun K h => sp 4 hf rfl fun a hf => zT h ?_
   refine wp_ret ?_
   refine xBlkR ?_
   refine xThenR ?_
   obtain rfl := sj hF
   replace hc := hc.nilRow 3 1
   replace hc := (hc.drop k2).drop k1
   exact zO3 Tryz.results9 hf rfl rfl rfl ⟨none,0,rfl,hc⟩
  ·refine wp_seq_k fun K6 h6 => noneO hF
 | inr r_1 =>
  replace hF := sumKr hF
  have hr_1 := hr
  refine zC hf en_17 rfl (gauge_opened_ok s_ h_s__Points hc hr_1) ?_
  rintro _ w ⟨b_3,b_4,rfl,hc⟩
  refine ⟨_,rfl,fun a hf => ?_⟩
  refine sp 3 hf rfl fun a hf => zA hf hc zr_58 rfl fun b_5 a w hf hc => zW hf hc sz_58 u0 rfl fun w hc => sp 1 hf rfl fun a hf => zT h ?_
  refine wp_seq_k fun K7 h7 => wp_block ?_
  refine zS fun K h => sp 3 hf rfl fun a hf => zT h ?_
  refine zI hf rfl hF ?_ ?_ <;> clear hF <;> intro hF
  ·refine zS fun K h => sp 4 hf rfl fun a hf => zT h ?_
   refine wp_ret ?_
   refine xBlkR ?_
   refine xThenR ?_
   obtain rfl := sj hF
   replace hc := hc.nilRow 3 1
   replace hc := (((hc.drop k4).drop k3).drop k2).drop k1
   exact zO3 Tryz.results9 hf rfl rfl rfl ⟨none,0,rfl,hc⟩
  ·refine wp_seq_k fun K10 h10 => ?_
   obtain ⟨un,hun,hF⟩ := bnd_some hF
   obtain ⟨r_2,hr_2,hF⟩ := bnd_some hF
   refine cQ hc follows_mx (by kernel_rfl) ?_
   refine qE hf rfl rfl rfl (eLd1 sc_58 rfl (cell_box m0 rfl)) fun a hf => qE hf rfl rfl rfl (Pu.ev (pNC rfl)) fun a hf => qE hf rfl rfl rfl (Pu.ev (pFA fa_66_1 rfl)) fun a hf => qE hf rfl rfl rfl (Pu.ev (pIAA Tryz.underlying63 sz_62 rfl rfl (inR_spec hun).1 (inR_spec hun).2)) fun a hf => qE hf rfl rfl rfl (eLdN (vs := [i6 ((r_1.2.2.2.2.1 (0 : Int).toNat).cost),i6 ((r_1.2.2.2.2.1 (0 : Int).toNat).points)]) ag_62 rfl rfl (cells_arr (o' := 0) (m := 2) m2 (fun x => (one_enc_gauge_spent x).1) rfl hun rfl)) fun a hf => qE hf rfl rfl rfl (eC (v := .agg #[i6 r_2.cost,i6 r_2.points]) (vs := []) (caps := []) en_18 rfl rfl rfl rfl (fun w hc => gauge_far_ok hc hr_2)) fun a hf => qE hf rfl rfl rfl (Pu.ev (pEqA ge_62 rfl rfl (eqs_62 _ _ _ _))) fun a hf => qE hf rfl rfl rfl (Pu.ev (pA rfl)) fun a hf => ?_
   intro w hc
   refine h10 _ _ ?_
   refine zI hf rfl hF ?_ ?_ <;> clear hF <;> intro hF
   ·refine zS fun K h => sp 3 hf rfl fun a hf => zT h ?_
    refine wp_ret ?_
    refine xBlkR ?_
    refine xThenR ?_
    obtain rfl := sj hF
    replace hc := hc.nilRow 3 1
    replace hc := (((hc.drop k4).drop k3).drop k2).drop k1
    exact zO3 Tryz.results9 hf rfl rfl rfl ⟨none,0,rfl,hc⟩
   ·refine wp_skip ?_
    refine h7 _ _ ?_
    refine zS fun K h => zA hf hc zr_35 rfl fun b_6 a w hf hc => zT h ?_
    refine zS fun K h => zA hf hc zr_68 rfl fun b_7 a w hf hc => zT h ?_
    refine zS fun K h => zP hf rfl (pMF (us := [pq b_5,pq b_1,pq b_6,pq b_7]) rfl rfl) fun a hf => zW hf hc sz_68 u0 rfl fun w hc => zT h ?_
    refine zS fun K h => zL hf hc sc_68 m0 rfl fun a w hf hc => ?_
    replace hc := hc.nilRow 3 1
    obtain ⟨r_3,hr_3,hF⟩ := bnd_some hF
    refine zC hf en_19 rfl (gauge_Plan_1_ok 0 (⟨(⟨r_1.1,r_1.2.1,r_1.2.2.1,r_1.2.2.2.1,s_.Points⟩ : gauge_Site),r_1.2.2.2.2.1,r_1.2.2.2.2.2.1⟩ : gauge_work) s_ ([] : List Int) h_s__Points h_s__Points (((((((hc.pick k1).pick k1).pick k2).pick k6).pick k5).pick k6).pick k6) hr_3) ?_
    rintro _ w ⟨p_1,c_1,rfl,hc⟩
    refine ⟨_,rfl,fun a hf => ?_⟩
    refine zT h ?_
    refine wp_seq_k fun K16 h16 => ?_
    obtain ⟨un_1,hun_1,hF⟩ := bnd_some hF
    refine cQ hc follows_mx (by kernel_rfl) ?_
    refine qE hf rfl rfl rfl (eLd1 sc_35 rfl (cell_box m5 rfl)) fun a hf => qE hf rfl rfl rfl (eLd1 sc_58 rfl (cell_box m1 rfl)) fun a hf => qE hf rfl rfl rfl (Pu.ev (pNC rfl)) fun a hf => qE hf rfl rfl rfl (Pu.ev (pFA fa_66_1 rfl)) fun a hf => qE hf rfl rfl rfl (Pu.ev (pIAA Tryz.underlying63 sz_62 rfl rfl (inR_spec hun_1).1 (inR_spec hun_1).2)) fun a hf => qE hf rfl rfl rfl (Pu.ev (pFA fa_62_0 rfl)) fun a hf => qE hf rfl rfl rfl (eLd1 sc_3 rfl (cell_arr (j := 0) m2 (fun x => (one_enc_gauge_spent x).1) rfl hun_1 rfl)) fun a hf => qE hf rfl rfl rfl (Pu.ev (pA rfl)) fun a hf => qE hf rfl rfl rfl (Pu.ev (pA rfl)) fun a hf => qE hf rfl rfl rfl (Pu.ev (pA rfl)) fun a hf => ?_
    intro w hc
    refine h16 _ _ ?_
    refine wp_ret ?_
    obtain rfl := sj hF
    replace hc := (((((hc.drop k6).drop k5).drop k4).drop k3).drop k2).drop k1
    exact zO3 Tryz.results9 hf rfl rfl rfl ⟨p_1,c_1,rfl,hc⟩

def gauge_Cost_1 (i_ : Int) (x : gauge_Site) : Bool :=
 (gauge_in i_ 1 ((x.Points.length : Nat) : Int))
theorem gauge_Cost_1_ok {G : Pers} {Lf : List Ent} {w : World} (i_ : Int) (x : gauge_Site) {b_ : Nat} {x_Points_p : Option Addr} {x_Points_c : Nat} (h_x_Points : Rd G 3 x_Points_p x_Points_c (x.Points.map enc_gauge_Point)) (hc : Ctx G (.box b_ [i6 x.Left,i6 x.Right,i6 x.Gap,i6 x.Step_,.slice x_Points_p x.Points.length x_Points_c] 33::Lf) w) {res : Bool} (hF : gauge_Cost_1 i_ x = res) : Calls Tryz.prog 22 #[i6 i_,pq b_] w (fun e w => e = .returned (.bool res) ∧ Ctx G (.box b_ [i6 x.Left,i6 x.Right,i6 x.Gap,i6 x.Step_,.slice x_Points_p x.Points.length x_Points_c] 33::Lf) w) := by
 unfold gauge_Cost_1 at hF
 refine fnIn Tryz.func22 rfl Tryz.ntmps22 rfl fun a hf => zS fun K h => sp 1 hf rfl fun a hf => zT h ?_
 refine zS fun K h => sp 1 hf rfl fun a hf => zP hf rfl (pFA fa_33_4 rfl) fun a hf => zL hf hc sc_31 m0 rfl fun a w hf hc => zP hf rfl (pLenS Tryz.underlying31 rfl) fun a hf => zQ (v := .bool (gauge_in i_ 1 ((x.Points.length : Nat) : Int))) hf hc en_23 rfl (fun w hc => gauge_in_ok i_ 1 ((x.Points.length : Nat) : Int) hc rfl) fun a w hf hc => sp 1 hf rfl fun a hf => zT h ?_
 refine wp_ret ?_
 obtain rfl := hF
 exact zO1 Tryz.results22 hf rfl ⟨rfl,hc⟩

def gauge_every_int_1 (x : Int) (x_1 : gauge_Site) : Bool :=
 (!(gauge_Cost_1 x x_1))
theorem gauge_every_int_1_ok {G : Pers} {Lf : List Ent} {w : World} (x : Int) (x_1 : gauge_Site) {b_ : Nat} {b__1 : Nat} {x_1_Points_p : Option Addr} {x_1_Points_c : Nat} (h_x_1_Points : Rd G 3 x_1_Points_p x_1_Points_c (x_1.Points.map enc_gauge_Point)) (hc : Ctx G (.box b_ [.func (.func 22) #[] #[pq b__1]] 72::.box b__1 [i6 x_1.Left,i6 x_1.Right,i6 x_1.Gap,i6 x_1.Step_,.slice x_1_Points_p x_1.Points.length x_1_Points_c] 33::Lf) w) {res : Bool} (hF : gauge_every_int_1 x x_1 = res) : Calls Tryz.prog 55 #[i6 x,pq b_] w (fun e w => e = .returned (.bool res) ∧ Ctx G (.box b_ [.func (.func 22) #[] #[pq b__1]] 72::.box b__1 [i6 x_1.Left,i6 x_1.Right,i6 x_1.Gap,i6 x_1.Step_,.slice x_1_Points_p x_1.Points.length x_1_Points_c] 33::Lf) w) := by
 unfold gauge_every_int_1 at hF
 refine fnIn Tryz.func55 rfl Tryz.ntmps55 rfl fun a hf => zS fun K h => sp 1 hf rfl fun a hf => zT h ?_
 refine zS fun K h => zL hf hc sc_72 m0 rfl fun a w hf hc => sp 1 hf rfl fun a hf => zQ (v := .bool (gauge_Cost_1 x x_1)) hf hc en_22 rfl (fun w hc => (gauge_Cost_1_ok x x_1 h_x_1_Points (hc.pick k1) rfl).mono fun e w h => ⟨h.1,(h.2.unpick k1)⟩) fun a w hf hc => sp 2 hf rfl fun a hf => zT h ?_
 refine wp_ret ?_
 obtain rfl := hF
 exact zO1 Tryz.results55 hf rfl ⟨rfl,hc⟩

def slices_IndexFunc_Lint_int_b4 (N : Nat) (s_ : List Int) (f_ : gauge_Site) (x : Int) : Option (Step (Int) (Int)) :=
 cond (decide (x < ((s_.length : Nat) : Int)))
 (Option.bind (getI s_ x) fun e_1 =>
 cond (gauge_every_int_1 e_1 f_)
 (some (.ret x))
 (some (.cont (W (x + 1)))))
 (some (.brk x))
def slices_IndexFunc_Lint_int (N : Nat) (s_ : List Int) (f_ : gauge_Site) : Option (Int) :=
 Option.bind (loopO (fun s4 => slices_IndexFunc_Lint_int_b4 N s_ f_ s4) N 0) fun x4 =>
 exK x4 (fun s4 => some (-1)) some
theorem slices_IndexFunc_Lint_int_ok {N : Nat} {G : Pers} {Lf : List Ent} {w : World} (s_ : List Int) (f_ : gauge_Site) {s__p : Option Addr} {s__c : Nat} {b_ : Nat} {b__1 : Nat} {f__Points_p : Option Addr} {f__Points_c : Nat} (h_s_ : Rd G 1 s__p s__c (s_.map encI_i64)) (h_f__Points : Rd G 3 f__Points_p f__Points_c (f_.Points.map enc_gauge_Point)) (hc : Ctx G (.box b_ [.func (.func 22) #[] #[pq b__1]] 72::.box b__1 [i6 f_.Left,i6 f_.Right,i6 f_.Gap,i6 f_.Step_,.slice f__Points_p f_.Points.length f__Points_c] 33::Lf) w) {res : Int} (hF : slices_IndexFunc_Lint_int N s_ f_ = some res) : Calls Tryz.prog 38 #[.slice s__p s_.length s__c,.func (.func 55) #[] #[pq b_]] w (fun e w => e = .returned (i6 res) ∧ Ctx G (.box b_ [.func (.func 22) #[] #[pq b__1]] 72::.box b__1 [i6 f_.Left,i6 f_.Right,i6 f_.Gap,i6 f_.Step_,.slice f__Points_p f_.Points.length f__Points_c] 33::Lf) w) := by
 unfold slices_IndexFunc_Lint_int at hF
 refine fnIn Tryz.func38 rfl Tryz.ntmps38 rfl fun a hf => zS fun K h => sp 1 hf rfl fun a hf => zT h ?_
 refine wp_seq_k fun K2 h2 => zS fun K h => sp 1 hf rfl fun a hf => zP hf rfl (pLenS Tryz.underlying35 rfl) fun a hf => sp 1 hf rfl fun a hf => zT h ?_
 refine wp_block ?_
 obtain ⟨x4,hx4,hF⟩ := bnd_some hF
 let S4 : Int → Act → World → Prop := (fun (zz : Int) a w => Has 19 a [(0,.slice s__p s_.length s__c),(1,.func (.func 55) #[] #[pq b_]),(7,i6 ((s_.length : Nat) : Int)),(8,i6 zz)] ∧ Ctx G (.box b_ [.func (.func 22) #[] #[pq b__1]] 72::.box b__1 [i6 f_.Left,i6 f_.Right,i6 f_.Gap,i6 f_.Step_,.slice f__Points_p f_.Points.length f__Points_c] 33::Lf) w)
 have hr4 : ∀ (zz : Int) a w,x4 = .go zz → S4 zz a w → K2 a w := by
  rintro x a w rfl ⟨hf,hc⟩
  replace hF := exK_go hF
  refine h2 _ _ ?_
  refine zS fun K h => sp 1 hf rfl fun a hf => zT h ?_
  refine wp_ret ?_
  obtain rfl := sj hF
  exact zO1 Tryz.results38 hf rfl ⟨rfl,hc⟩
 have ho4 : ∀ r,x4 = .out r → r = res := by
  rintro r rfl
  exact sj hF
 refine cLoop N (loopW (S := S4) (x := x4) ?_ N 0 _ _ ⟨hf.kp rfl,hc⟩ hx4)
 clear hF hf hc
 rintro x st4 a w KB4 ⟨hf,hc⟩ hF hfin4 hK4
 unfold slices_IndexFunc_Lint_int_b4 at hF
 refine zS fun K h => sp 1 hf rfl fun a hf => zT h ?_
 refine wp_seq_k fun K7 h7 => zI hf rfl hF ?_ ?_ <;> clear hF <;> intro hF
 ·refine wp_skip ?_
  refine h7 _ _ ?_
  refine wp_seq_k fun K8 h8 => wp_block ?_
  refine zS fun K h => sp 2 hf rfl fun a hf => zT h ?_
  refine zS fun K h => sp 3 hf rfl fun a hf => ?_
  obtain ⟨e_1,he_1,hF⟩ := bnd_some hF
  obtain ⟨b_1,o,qa,qp⟩ := h_s_.atm he_1
  refine zP hf rfl (pIA Tryz.underlying35 sz_3 rfl rfl qa) fun a hf => zE hf hc rfl (eLd1 sc_3 rfl (cell_pc (j := 0) qp rfl)) fun a w hf hc => zQ (v := .bool (gauge_every_int_1 e_1 f_)) hf hc en_55 rfl (fun w hc => (gauge_every_int_1_ok e_1 f_ h_f__Points ((hc.pick k1).pick k1) rfl).mono fun e w h => ⟨h.1,((h.2.unpick k1).unpick k1)⟩) fun a w hf hc => zT h ?_
  refine zI hf rfl hF ?_ ?_ <;> clear hF <;> intro hF
  ·refine zS fun K h => sp 2 hf rfl fun a hf => zT h ?_
   refine wp_ret ?_
   refine xBlkR ?_
   refine xThenR ?_
   refine xThenR ?_
   have he := sj hF
   rw [← he] at hfin4
   replace hF := ho4 _ hfin4
   refine xBlkR ?_
   refine xThenR ?_
   obtain rfl := hF
   exact zO1 Tryz.results38 hf rfl ⟨rfl,hc⟩
  ·refine wp_skip ?_
   refine h8 _ _ ?_
   refine cReg ?_
   refine sp 2 hf rfl fun a hf => cNil ?_
   exact hK4 (W (x + 1)) _ _ (sj hF).symm ⟨hf.kp rfl,hc⟩
 ·refine wp_exit ?_
  refine xThen ?_
  refine xThen ?_
  have he := sj hF
  rw [← he] at hfin4
  refine cHit ?_
  exact hr4 _ _ _ hfin4 ⟨hf.kp rfl,hc⟩

def slices_ContainsFunc_Lint_int (N : Nat) (s_ : List Int) (f_ : gauge_Site) : Option (Bool) :=
 Option.bind (slices_IndexFunc_Lint_int N s_ f_) fun r =>
 some (decide (0 ≤ r))
theorem slices_ContainsFunc_Lint_int_ok {N : Nat} {G : Pers} {Lf : List Ent} {w : World} (s_ : List Int) (f_ : gauge_Site) {s__p : Option Addr} {s__c : Nat} {b_ : Nat} {b__1 : Nat} {f__Points_p : Option Addr} {f__Points_c : Nat} (h_s_ : Rd G 1 s__p s__c (s_.map encI_i64)) (h_f__Points : Rd G 3 f__Points_p f__Points_c (f_.Points.map enc_gauge_Point)) (hc : Ctx G (.box b_ [.func (.func 22) #[] #[pq b__1]] 72::.box b__1 [i6 f_.Left,i6 f_.Right,i6 f_.Gap,i6 f_.Step_,.slice f__Points_p f_.Points.length f__Points_c] 33::Lf) w) {res : Bool} (hF : slices_ContainsFunc_Lint_int N s_ f_ = some res) : Calls Tryz.prog 54 #[.slice s__p s_.length s__c,.func (.func 55) #[] #[pq b_]] w (fun e w => e = .returned (.bool res) ∧ Ctx G (.box b_ [.func (.func 22) #[] #[pq b__1]] 72::.box b__1 [i6 f_.Left,i6 f_.Right,i6 f_.Gap,i6 f_.Step_,.slice f__Points_p f_.Points.length f__Points_c] 33::Lf) w) := by
 unfold slices_ContainsFunc_Lint_int at hF
 refine fnIn Tryz.func54 rfl Tryz.ntmps54 rfl fun a hf => zS fun K h => sp 1 hf rfl fun a hf => zT h ?_
 refine zS fun K h => sp 2 hf rfl fun a hf => ?_
 obtain ⟨r,hr,hF⟩ := bnd_some hF
 refine zQ (v := i6 r) hf hc en_38 rfl (fun w hc => (slices_IndexFunc_Lint_int_ok s_ f_ h_s_ h_f__Points ((hc.pick k1).pick k1) hr).mono fun e w h => ⟨h.1,((h.2.unpick k1).unpick k1)⟩) fun a w hf hc => sp 2 hf rfl fun a hf => zT h ?_
 refine wp_ret ?_
 obtain rfl := sj hF
 exact zO1 Tryz.results54 hf rfl ⟨rfl,hc⟩

def gauge_every_int (N : Nat) (l : List Int) (so : gauge_Site) : Option (Bool) :=
 Option.bind (slices_ContainsFunc_Lint_int N l so) fun r =>
 some (!r)
theorem gauge_every_int_ok {N : Nat} {G : Pers} {Lf : List Ent} {w : World} (l : List Int) (so : gauge_Site) {l_p : Option Addr} {l_c : Nat} {b_ : Nat} {so_Points_p : Option Addr} {so_Points_c : Nat} (h_l : Rd G 1 l_p l_c (l.map encI_i64)) (h_so_Points : Rd G 3 so_Points_p so_Points_c (so.Points.map enc_gauge_Point)) (hc : Ctx G (.box b_ [i6 so.Left,i6 so.Right,i6 so.Gap,i6 so.Step_,.slice so_Points_p so.Points.length so_Points_c] 33::Lf) w) {res : Bool} (hF : gauge_every_int N l so = some res) : Calls Tryz.prog 21 #[.slice l_p l.length l_c,.func (.func 22) #[] #[pq b_]] w (fun e w => e = .returned (.bool res) ∧ Ctx G (.box b_ [i6 so.Left,i6 so.Right,i6 so.Gap,i6 so.Step_,.slice so_Points_p so.Points.length so_Points_c] 33::Lf) w) := by
 unfold gauge_every_int at hF
 refine fnIn Tryz.func21 rfl Tryz.ntmps21 rfl fun a hf => zS fun K h => zB hf hc rfl fun b_1 a w hf hc => sp 1 hf rfl fun a hf => zT h ?_
 refine zS fun K h => sp 1 hf rfl fun a hf => zP hf rfl (pMF (us := [pq b_1]) rfl rfl) fun a hf => ?_
 obtain ⟨r,hr,hF⟩ := bnd_some hF
 refine zQ (v := .bool r) hf hc en_54 rfl (fun w hc => (slices_ContainsFunc_Lint_int_ok l so h_l h_so_Points ((hc.pick k1).pick k1) hr).mono fun e w h => ⟨h.1,((h.2.unpick k1).unpick k1)⟩) fun a w hf hc => sp 2 hf rfl fun a hf => zT h ?_
 refine wp_ret ?_
 obtain rfl := sj hF
 replace hc := hc.drop k0
 exact zO1 Tryz.results21 hf rfl ⟨rfl,hc⟩

def gauge_Cost_2 (N : Nat) (i_ : Int) (x : List Int) : Option (Int) :=
 Option.bind (getI x i_) fun e_1 =>
 some e_1
theorem gauge_Cost_2_ok {N : Nat} {G : Pers} {Lf : List Ent} {w : World} (i_ : Int) (x : List Int) {b_ : Nat} {x_p : Option Addr} {x_c : Nat} (h_x : Rd G 1 x_p x_c (x.map encI_i64)) (hc : Ctx G (.box b_ [.slice x_p x.length x_c] 35::Lf) w) {res : Int} (hF : gauge_Cost_2 N i_ x = some res) : Calls Tryz.prog 25 #[i6 i_,pq b_] w (fun e w => e = .returned (i6 res) ∧ Ctx G (.box b_ [.slice x_p x.length x_c] 35::Lf) w) := by
 unfold gauge_Cost_2 at hF
 refine fnIn Tryz.func25 rfl Tryz.ntmps25 rfl fun a hf => zS fun K h => sp 1 hf rfl fun a hf => zT h ?_
 refine zS fun K h => zL hf hc sc_35 m0 rfl fun a w hf hc => sp 1 hf rfl fun a hf => ?_
 obtain ⟨e_1,he_1,hF⟩ := bnd_some hF
 obtain ⟨b_1,o,qa,qp⟩ := h_x.atm he_1
 refine zP hf rfl (pIA Tryz.underlying35 sz_3 rfl rfl qa) fun a hf => zE hf hc rfl (eLd1 sc_3 rfl (cell_pc (j := 0) qp rfl)) fun a w hf hc => sp 1 hf rfl fun a hf => zT h ?_
 refine wp_ret ?_
 obtain rfl := sj hF
 exact zO1 Tryz.results25 hf rfl ⟨rfl,hc⟩

def gauge_rising_s2_b4 (N : Nat) (many : Int) (at_ : List Int) (i_1 : Int) : Option (Step (Int) (Bool)) :=
 cond (decide (i_1 < many))
 (Option.bind (gauge_Cost_2 N i_1 at_) fun r =>
 Option.bind (gauge_Cost_2 N (W (i_1 - 1)) at_) fun r_1 =>
 cond (decide (r ≤ r_1))
 (some (.ret false))
 (some (.cont (W (i_1 + 1)))))
 (some (.brk i_1))
def gauge_rising_s2 (N : Nat) (many : Int) (at_ : List Int) : Option (Bool) :=
 Option.bind (loopO (fun s4 => gauge_rising_s2_b4 N many at_ s4) N 1) fun x4 =>
 exK x4 (fun s4 => some true) some
theorem gauge_rising_s2_ok {N : Nat} {G : Pers} {Lf : List Ent} {w : World} (many : Int) (at_ : List Int) {b_ : Nat} {at__p : Option Addr} {at__c : Nat} (h_at_ : Rd G 1 at__p at__c (at_.map encI_i64)) (hc : Ctx G (.box b_ [.slice at__p at_.length at__c] 35::Lf) w) {res : Bool} (hF : gauge_rising_s2 N many at_ = some res) : Calls Tryz.prog 24 #[i6 many,.func (.func 25) #[] #[pq b_]] w (fun e w => e = .returned (.bool res) ∧ Ctx G (.box b_ [.slice at__p at_.length at__c] 35::Lf) w) := by
 unfold gauge_rising_s2 at hF
 refine fnIn Tryz.func24 rfl Tryz.ntmps24 rfl fun a hf => zS fun K h => sp 1 hf rfl fun a hf => zT h ?_
 refine wp_seq_k fun K2 h2 => zS fun K h => sp 1 hf rfl fun a hf => zT h ?_
 refine wp_block ?_
 obtain ⟨x4,hx4,hF⟩ := bnd_some hF
 let S4 : Int → Act → World → Prop := (fun (zz : Int) a w => Has 19 a [(0,i6 many),(1,.func (.func 25) #[] #[pq b_]),(5,i6 zz)] ∧ Ctx G (.box b_ [.slice at__p at_.length at__c] 35::Lf) w)
 have hr4 : ∀ (zz : Int) a w,x4 = .go zz → S4 zz a w → K2 a w := by
  rintro i_1 a w rfl ⟨hf,hc⟩
  replace hF := exK_go hF
  refine h2 _ _ ?_
  refine zS fun K h => sp 1 hf rfl fun a hf => zT h ?_
  refine wp_ret ?_
  obtain rfl := sj hF
  exact zO1 Tryz.results24 hf rfl ⟨rfl,hc⟩
 have ho4 : ∀ r,x4 = .out r → r = res := by
  rintro r rfl
  exact sj hF
 refine cLoop N (loopW (S := S4) (x := x4) ?_ N 1 _ _ ⟨hf.kp rfl,hc⟩ hx4)
 clear hF hf hc
 rintro i_1 st4 a w KB4 ⟨hf,hc⟩ hF hfin4 hK4
 unfold gauge_rising_s2_b4 at hF
 refine wp_seq_k fun K6 h6 => zS fun K h => sp 3 hf rfl fun a hf => zT h ?_
 refine zI hf rfl hF ?_ ?_ <;> clear hF <;> intro hF
 ·refine wp_skip ?_
  refine h6 _ _ ?_
  refine wp_seq_k fun K8 h8 => wp_block ?_
  refine zS fun K h => sp 2 hf rfl fun a hf => ?_
  obtain ⟨r,hr,hF⟩ := bnd_some hF
  refine zQ (v := i6 r) hf hc en_25 rfl (fun w hc => (gauge_Cost_2_ok i_1 at_ h_at_ (hc.pick k0) hr).mono fun e w h => ⟨h.1,(h.2.unpick k0)⟩) fun a w hf hc => sp 3 hf rfl fun a hf => ?_
  obtain ⟨r_1,hr_1,hF⟩ := bnd_some hF
  refine zQ (v := i6 r_1) hf hc en_25 rfl (fun w hc => (gauge_Cost_2_ok (W (i_1 - 1)) at_ h_at_ (hc.pick k0) hr_1).mono fun e w h => ⟨h.1,(h.2.unpick k0)⟩) fun a w hf hc => sp 1 hf rfl fun a hf => zT h ?_
  refine zI hf rfl hF ?_ ?_ <;> clear hF <;> intro hF
  ·refine zS fun K h => sp 1 hf rfl fun a hf => zT h ?_
   refine wp_ret ?_
   refine xBlkR ?_
   refine xThenR ?_
   refine xThenR ?_
   have he := sj hF
   rw [← he] at hfin4
   replace hF := ho4 _ hfin4
   refine xBlkR ?_
   refine xThenR ?_
   obtain rfl := hF
   exact zO1 Tryz.results24 hf rfl ⟨rfl,hc⟩
  ·refine wp_skip ?_
   refine h8 _ _ ?_
   refine cReg ?_
   refine sp 3 hf rfl fun a hf => cNil ?_
   exact hK4 (W (i_1 + 1)) _ _ (sj hF).symm ⟨hf.kp rfl,hc⟩
 ·refine wp_exit ?_
  refine xThen ?_
  refine xThen ?_
  have he := sj hF
  rw [← he] at hfin4
  refine cHit ?_
  exact hr4 _ _ _ hfin4 ⟨hf.kp rfl,hc⟩

def slices_Clone_Lint_int (N : Nat) (s_ : List Int) : Option ((List Int)) :=
 Option.bind (room (s_).length) fun un =>
 some s_
theorem slices_Clone_Lint_int_ok {N : Nat} {G : Pers} {Lf : List Ent} {w : World} (s_ : List Int) {s__p : Option Addr} {s__c : Nat} (h_s_ : Rd G 1 s__p s__c (s_.map encI_i64)) (hc : Ctx G (Lf) w) {res : (List Int)} (hF : slices_Clone_Lint_int N s_ = some res) : Calls Tryz.prog 27 #[.slice s__p s_.length s__c] w (fun e w => ∃ (p'1 : Option Addr) (c'1 : Nat),e = .returned (.slice p'1 res.length c'1) ∧ Ctx G (.row p'1 c'1 (res.map encI_i64) 3 1::Lf) w) := by
 unfold slices_Clone_Lint_int at hF
 refine fnIn Tryz.func27 rfl Tryz.ntmps27 rfl fun a hf => zS fun K h => sp 1 hf rfl fun a hf => zT h ?_
 refine wp_seq_k fun K2 h2 => zS fun K h => sp 1 hf rfl fun a hf => zP hf rfl (pEqN Tryz.underlying35 rfl rfl) fun a hf => zT h ?_
 rcases rd_nilq h_s_ with ⟨hp,hx⟩ | hp
 ·rw [hp] at hf
  replace hF : (some ([] : List Int)) = some res := by
   try rw [hx] at hF
   exact hF
  refine cCondT hf rfl ?_
  refine zS fun K h => sp 1 hf rfl fun a hf => zT h ?_
  refine wp_ret ?_
  refine xThenR ?_
  obtain rfl := sj hF
  replace hc := hc.nilRow 3 1
  exact zO1 Tryz.results27 hf rfl ⟨none,0,rfl,hc⟩
 ·rw [hp] at hf
  refine cCondF hf rfl ?_
  refine wp_skip ?_
  refine h2 _ _ ?_
  refine zS fun K h => stBS (rows := ([] : List Int).map encI_i64) (vs := []) hf hc rfl rfl sl_35 rfl trivial rfl rfl fun b_1 a w hf hc => sp 1 hf rfl fun a hf => ?_
  obtain ⟨un,hun,hF⟩ := bnd_some hF
  refine stApm (xs := ([] : List Int)) (ys := s_) hf hc rfl rfl sl_35 rfl rfl rfl rfl rfl one_encI_i64 (src_rd hc h_s_) (fun _ _ => u0) (by simpa using room_spec hun) fun p_1 c_1 a w hf hc => sp 1 hf rfl fun a hf => zT h ?_
  refine wp_ret ?_
  obtain rfl := sj hF
  exact zO1 Tryz.results27 hf rfl ⟨p_1,c_1,rfl,hc⟩

def gauge_work_station_s2 (N : Nat) (w_ : Int) (w__1 : Int) (w__2 : Int) (w__3 : Int) (w__4 : List gauge_Point) (w__5 : Nat → gauge_spent) (i_ : Int) : Option (gauge_Point) :=
 cond (i_ == 0)
 (some (⟨w_,0,0⟩ : gauge_Point))
 (cond (i_ == (W (((w__4.length : Nat) : Int) + 1)))
 (some (⟨w__1,0,0⟩ : gauge_Point))
 (Option.bind (getI w__4 (W (i_ - 1))) fun e_1 =>
 some e_1))
theorem gauge_work_station_s2_ok {N : Nat} {G : Pers} {Lf : List Ent} {w : World} (w_ : Int) (w__1 : Int) (w__2 : Int) (w__3 : Int) (w__4 : List gauge_Point) (w__5 : Nat → gauge_spent) (i_ : Int) {b_ : Nat} {w__4_p : Option Addr} {w__4_c : Nat} (h_w__4 : Rd G 3 w__4_p w__4_c (w__4.map enc_gauge_Point)) (hc : Ctx G (.box b_ (catc [i6 w_,i6 w__1,i6 w__2,i6 w__3,.slice w__4_p w__4.length w__4_c] 32 enc_gauge_spent w__5 [.map none]) 66::Lf) w) {res : gauge_Point} (hF : gauge_work_station_s2 N w_ w__1 w__2 w__3 w__4 w__5 i_ = some res) : Calls Tryz.prog 28 #[pq b_,i6 i_] w (fun e w => e = .returned (.agg #[i6 res.At,i6 res.Depth,i6 res.Cost]) ∧ Ctx G (.box b_ (catc [i6 w_,i6 w__1,i6 w__2,i6 w__3,.slice w__4_p w__4.length w__4_c] 32 enc_gauge_spent w__5 [.map none]) 66::Lf) w) := by
 unfold gauge_work_station_s2 at hF
 refine fnIn Tryz.func28 rfl Tryz.ntmps28 rfl fun a hf => zS fun K h => zA hf hc zr_57 rfl fun b_1 a w hf hc => zT h ?_
 refine wp_seq_k fun K2 h2 => zS fun K h => sp 1 hf rfl fun a hf => zT h ?_
 refine wp_block ?_
 refine zS fun K h => sp 2 hf rfl fun a hf => zT h ?_
 refine zI hf rfl hF ?_ ?_ <;> clear hF <;> intro hF
 ·refine zS fun K h => sp 2 hf rfl fun a hf => zP hf rfl (pFA fa_66_0 rfl) fun a hf => zP hf rfl (pFA fa_33_0 rfl) fun a hf => zL hf hc sc_3 m1 rfl fun a w hf hc => zP hf rfl (pBuildS (cells := [i6 w_,i6 0,i6 0]) bt_57 rfl rfl) fun a hf => zW hf hc sz_57 u0 rfl fun w hc => zT h ?_
  refine wp_ret ?_
  refine xBlkR ?_
  refine xThenR ?_
  obtain rfl := sj hF
  replace hc := (hc.pick k0).pick k1
  exact fnOut1 (by simp) rfl Tryz.results28 hf hc (rv_cellN (vs := [i6 w_,i6 0,i6 0]) ag_57 rfl rfl (cells_box (n := 3) m1 rfl)) ⟨rfl,(hc.drop k1)⟩
 ·refine zS fun K h => sp 2 hf rfl fun a hf => zP hf rfl (pFA fa_66_0 rfl) fun a hf => zP hf rfl (pFA fa_33_4 rfl) fun a hf => zL hf hc sc_31 m1 rfl fun a w hf hc => zP hf rfl (pLenS Tryz.underlying31 rfl) fun a hf => sp 3 hf rfl fun a hf => zT h ?_
  refine zI hf rfl hF ?_ ?_ <;> clear hF <;> intro hF
  ·refine zS fun K h => sp 2 hf rfl fun a hf => zP hf rfl (pFA fa_66_0 rfl) fun a hf => zP hf rfl (pFA fa_33_1 rfl) fun a hf => zL hf hc sc_3 m1 rfl fun a w hf hc => zP hf rfl (pBuildS (cells := [i6 w__1,i6 0,i6 0]) bt_57 rfl rfl) fun a hf => zW hf hc sz_57 u0 rfl fun w hc => zT h ?_
   refine wp_ret ?_
   refine xBlkR ?_
   refine xThenR ?_
   obtain rfl := sj hF
   replace hc := (hc.pick k0).pick k1
   exact fnOut1 (by simp) rfl Tryz.results28 hf hc (rv_cellN (vs := [i6 w__1,i6 0,i6 0]) ag_57 rfl rfl (cells_box (n := 3) m1 rfl)) ⟨rfl,(hc.drop k1)⟩
  ·refine wp_skip ?_
   refine h2 _ _ ?_
   refine zS fun K h => sp 2 hf rfl fun a hf => zP hf rfl (pFA fa_66_0 rfl) fun a hf => zP hf rfl (pFA fa_33_4 rfl) fun a hf => zL hf hc sc_31 m1 rfl fun a w hf hc => sp 2 hf rfl fun a hf => ?_
   obtain ⟨e_1,he_1,hF⟩ := bnd_some hF
   obtain ⟨b_2,o,qa,qp⟩ := h_w__4.atm he_1
   refine zP hf rfl (pIA Tryz.underlying31 sz_57 rfl rfl qa) fun a hf => zE hf hc rfl (eLdN (vs := [i6 e_1.At,i6 e_1.Depth,i6 e_1.Cost]) ag_57 rfl rfl (cells_pc qp (n := 3) (o' := 0) rfl)) fun a w hf hc => zW hf hc sz_57 u0 rfl fun w hc => zT h ?_
   refine wp_ret ?_
   obtain rfl := sj hF
   replace hc := (hc.pick k0).pick k1
   exact fnOut1 (by simp) rfl Tryz.results28 hf hc (rv_cellN (vs := [i6 e_1.At,i6 e_1.Depth,i6 e_1.Cost]) ag_57 rfl rfl (cells_box (n := 3) m1 rfl)) ⟨rfl,(hc.drop k1)⟩

def gauge_work_steps_s2 (N : Nat) (w_ : Int) (w__1 : Int) (w__2 : Int) (w__3 : Int) (w__4 : List gauge_Point) (w__5 : Nat → gauge_spent) (a_ : Int) (b__1 : Int) : Option (Bool) :=
 Option.bind (gauge_work_station_s2 N w_ w__1 w__2 w__3 w__4 w__5 a_) fun r =>
 Option.bind (gauge_work_station_s2 N w_ w__1 w__2 w__3 w__4 w__5 b__1) fun r_1 =>
 some ((decide ((W (r_1.At - r.At)) ≤ w__2)) && (decide ((max (W (r.Depth - r_1.Depth)) (W (r_1.Depth - r.Depth))) ≤ w__3)))
theorem gauge_work_steps_s2_ok {N : Nat} {G : Pers} {Lf : List Ent} {w : World} (w_ : Int) (w__1 : Int) (w__2 : Int) (w__3 : Int) (w__4 : List gauge_Point) (w__5 : Nat → gauge_spent) (a_ : Int) (b__1 : Int) {b_ : Nat} {w__4_p : Option Addr} {w__4_c : Nat} (h_w__4 : Rd G 3 w__4_p w__4_c (w__4.map enc_gauge_Point)) (hc : Ctx G (.box b_ (catc [i6 w_,i6 w__1,i6 w__2,i6 w__3,.slice w__4_p w__4.length w__4_c] 32 enc_gauge_spent w__5 [.map none]) 66::Lf) w) {res : Bool} (hF : gauge_work_steps_s2 N w_ w__1 w__2 w__3 w__4 w__5 a_ b__1 = some res) : Calls Tryz.prog 26 #[pq b_,i6 a_,i6 b__1] w (fun e w => e = .returned (.bool res) ∧ Ctx G (.box b_ (catc [i6 w_,i6 w__1,i6 w__2,i6 w__3,.slice w__4_p w__4.length w__4_c] 32 enc_gauge_spent w__5 [.map none]) 66::Lf) w) := by
 unfold gauge_work_steps_s2 at hF
 refine fnIn Tryz.func26 rfl Tryz.ntmps26 rfl fun a hf => zS fun K h => sp 1 hf rfl fun a hf => zT h ?_
 refine zS fun K h => sp 2 hf rfl fun a hf => ?_
 obtain ⟨r,hr,hF⟩ := bnd_some hF
 refine zQ (v := .agg #[i6 r.At,i6 r.Depth,i6 r.Cost]) hf hc en_28 rfl (fun w hc => (gauge_work_station_s2_ok w_ w__1 w__2 w__3 w__4 w__5 a_ h_w__4 (hc.pick k0) hr).mono fun e w h => ⟨h.1,(h.2.unpick k0)⟩) fun a w hf hc => sp 2 hf rfl fun a hf => ?_
 obtain ⟨r_1,hr_1,hF⟩ := bnd_some hF
 refine zQ (v := .agg #[i6 r_1.At,i6 r_1.Depth,i6 r_1.Cost]) hf hc en_28 rfl (fun w hc => (gauge_work_station_s2_ok w_ w__1 w__2 w__3 w__4 w__5 b__1 h_w__4 (hc.pick k0) hr_1).mono fun e w h => ⟨h.1,(h.2.unpick k0)⟩) fun a w hf hc => zA hf hc zr_57 rfl fun b_1 a w hf hc => zA hf hc zr_57 rfl fun b_2 a w hf hc => zW hf hc sz_57 u1 rfl fun w hc => zW hf hc sz_57 u0 rfl fun w hc => zT h ?_
 refine wp_seq_k fun K3 h3 => cQ hc follows_mx (by kernel_rfl) ?_
 refine qE hf rfl rfl rfl (Pu.ev (pFA fa_57_0 rfl)) fun a hf => qE hf rfl rfl rfl (eLd1 sc_3 rfl (cell_box m0 rfl)) fun a hf => qE hf rfl rfl rfl (Pu.ev (pFA fa_57_0 rfl)) fun a hf => qE hf rfl rfl rfl (eLd1 sc_3 rfl (cell_box m1 rfl)) fun a hf => qE hf rfl rfl rfl (Pu.ev (pSub rfl rfl)) fun a hf => qE hf rfl rfl rfl (Pu.ev (pM rfl)) fun a hf => qE hf rfl rfl rfl (Pu.ev (pNC rfl)) fun a hf => qE hf rfl rfl rfl (Pu.ev (pFA fa_66_0 rfl)) fun a hf => qE hf rfl rfl rfl (Pu.ev (pFA fa_33_2 rfl)) fun a hf => qE hf rfl rfl rfl (eLd1 sc_3 rfl (cell_box m2 rfl)) fun a hf => qE hf rfl rfl rfl (Pu.ev (pLe rfl rfl)) fun a hf => qE hf rfl rfl rfl (Pu.ev (pM rfl)) fun a hf => qCut 18 (fun a => Has 45 a [(0,pq b_),(6,.bool false),(7,pq b_1),(8,pq b_2),(15,pq b_2),(16,i6 r_1.At),(17,pq b_1),(18,i6 r.At),(19,i6 (W (r_1.At - r.At))),(20,pq b_),(21,pq b_),(22,pq b_),(23,.pointer (some ⟨b_,2,none⟩)),(24,i6 w__2),(25,.bool (decide ((W (r_1.At - r.At)) ≤ w__2))),(26,.bool (decide ((W (r_1.At - r.At)) ≤ w__2))),(44,.bool ((decide ((W (r_1.At - r.At)) ≤ w__2)) && (decide ((max (W (r.Depth - r_1.Depth)) (W (r_1.Depth - r.Depth))) ≤ w__3))))]) ?_ ?_
 ·cases hb : (decide ((W (r_1.At - r.At)) ≤ w__2))
  ·rw [hb] at hf
   refine qS hf rfl rfl rfl fun a hf => qS hf rfl rfl rfl fun a hf => qS hf rfl rfl rfl fun a hf => qS hf rfl rfl rfl fun a hf => qS hf rfl rfl rfl fun a hf => qS hf rfl rfl rfl fun a hf => qS hf rfl rfl rfl fun a hf => qS hf rfl rfl rfl fun a hf => qS hf rfl rfl rfl fun a hf => qS hf rfl rfl rfl fun a hf => qS hf rfl rfl rfl fun a hf => qS hf rfl rfl rfl fun a hf => qS hf rfl rfl rfl fun a hf => ?_
   refine qS hf rfl rfl rfl fun a hf => qS hf rfl rfl rfl fun a hf => qS hf rfl rfl rfl fun a hf => qS hf rfl rfl rfl fun a hf => qE hf rfl rfl rfl (Pu.ev (pPf rfl rfl)) fun a hf => qNil (hf.kp rfl)
  ·rw [hb] at hf
   refine qE hf rfl rfl rfl (Pu.ev (pFA fa_57_1 rfl)) fun a hf => qE hf rfl rfl rfl (eLd1 sc_3 rfl (cell_box m1 rfl)) fun a hf => qE hf rfl rfl rfl (Pu.ev (pFA fa_57_1 rfl)) fun a hf => qE hf rfl rfl rfl (eLd1 sc_3 rfl (cell_box m0 rfl)) fun a hf => qE hf rfl rfl rfl (Pu.ev (pSub rfl rfl)) fun a hf => qE hf rfl rfl rfl (Pu.ev (pFA fa_57_1 rfl)) fun a hf => qE hf rfl rfl rfl (eLd1 sc_3 rfl (cell_box m0 rfl)) fun a hf => qE hf rfl rfl rfl (Pu.ev (pFA fa_57_1 rfl)) fun a hf => qE hf rfl rfl rfl (eLd1 sc_3 rfl (cell_box m1 rfl)) fun a hf => qE hf rfl rfl rfl (Pu.ev (pSub rfl rfl)) fun a hf => qE hf rfl rfl rfl (Pu.ev (pMax2 rfl rfl)) fun a hf => qE hf rfl rfl rfl (Pu.ev (pM rfl)) fun a hf => qE hf rfl rfl rfl (Pu.ev (pNC rfl)) fun a hf => ?_
   refine qE hf rfl rfl rfl (Pu.ev (pFA fa_66_0 rfl)) fun a hf => qE hf rfl rfl rfl (Pu.ev (pFA fa_33_3 rfl)) fun a hf => qE hf rfl rfl rfl (eLd1 sc_3 rfl (cell_box m2 rfl)) fun a hf => qE hf rfl rfl rfl (Pu.ev (pLe rfl rfl)) fun a hf => qE hf rfl rfl rfl (Pu.ev (pPt rfl rfl)) fun a hf => qNil (hf.kp rfl)
 intro a hf
 refine qE hf rfl rfl rfl (Pu.ev (pA rfl)) fun a hf => ?_
 intro w hc
 refine h3 _ _ ?_
 refine wp_ret ?_
 obtain rfl := sj hF
 replace hc := (hc.drop k1).drop k0
 exact zO1 Tryz.results26 hf rfl ⟨rfl,hc⟩

def gauge_Cost_b15 (N : Nat) (s_ : gauge_Site) (r_3 : (List Int)) (sum : Int) (at_ : Int) (x : Int) : Option (Step (Int × Int × Int) (Int × Int)) :=
 cond (decide (x < (((r_3 ++ [W (((s_.Points.length : Nat) : Int) + 1)]).length : Nat) : Int)))
 (Option.bind (getI (r_3 ++ [W (((s_.Points.length : Nat) : Int) + 1)]) x) fun e_1 =>
 Option.bind (gauge_work_steps_s2 N s_.Left s_.Right s_.Gap s_.Step_ s_.Points (fun _ => (⟨0,0⟩ : gauge_spent)) at_ e_1) fun r_4 =>
 cond (!r_4)
 (some (.ret (0,7)))
 (Option.bind (gauge_work_station_s2 N s_.Left s_.Right s_.Gap s_.Step_ s_.Points (fun _ => (⟨0,0⟩ : gauge_spent)) e_1) fun r_5 =>
 some (.cont (W (sum + r_5.Cost),e_1,W (x + 1)))))
 (some (.brk (sum,at_,x)))
def gauge_Cost (N : Nat) (s_ : gauge_Site) (plan : List Int) : Option (Int × Int) :=
 Option.bind (gauge_CheckSite N s_) fun r =>
 cond (r != 0)
 (some (0,r))
 (Option.bind (gauge_every_int N plan s_) fun r_1 =>
 cond (!r_1)
 (some (0,2))
 (Option.bind (gauge_rising_s2 N ((plan.length : Nat) : Int) plan) fun r_2 =>
 cond (!r_2)
 (some (0,9))
 (Option.bind (slices_Clone_Lint_int N plan) fun r_3 =>
 Option.bind (room ((r_3 ++ [W (((s_.Points.length : Nat) : Int) + 1)])).length) fun un =>
 Option.bind (loopO (fun s15 => gauge_Cost_b15 N s_ r_3 s15.1 s15.2.1 s15.2.2) N (0,0,0)) fun x15 =>
 exK x15 (fun s15 => some (s15.1,0)) some)))
theorem gauge_Cost_ok {N : Nat} {G : Pers} {Lf : List Ent} {w : World} (s_ : gauge_Site) (plan : List Int) {s__Points_p : Option Addr} {s__Points_c : Nat} {plan_p : Option Addr} {plan_c : Nat} (h_s__Points : Rd G 3 s__Points_p s__Points_c (s_.Points.map enc_gauge_Point)) (h_plan : Rd G 1 plan_p plan_c (plan.map encI_i64)) (hc : Ctx G (Lf) w) {res : Int × Int} (hF : gauge_Cost N s_ plan = some res) : Calls Tryz.prog 10 #[.agg #[i6 s_.Left,i6 s_.Right,i6 s_.Gap,i6 s_.Step_,.slice s__Points_p s_.Points.length s__Points_c],.slice plan_p plan.length plan_c] w (fun e w => e = .returned (.tuple #[i6 res.1,i6 res.2]) ∧ Ctx G (Lf) w) := by
 unfold gauge_Cost at hF
 refine fnIn Tryz.func10 rfl Tryz.ntmps10 rfl fun a hf => zS fun K h => zB hf hc rfl fun b_1 a w hf hc => zB hf hc rfl fun b_2 a w hf hc => sp 2 hf rfl fun a hf => zT h ?_
 refine wp_seq_k fun K2 h2 => zS fun K h => zN hf hc ag_33 m1 rfl fun a w hf hc => ?_
 obtain ⟨r,hr,hF⟩ := bnd_some hF
 refine zQ (v := i6 r) hf hc en_20 rfl (fun w hc => gauge_CheckSite_ok s_ h_s__Points hc hr) fun a w hf hc => sp 1 hf rfl fun a hf => zT h ?_
 refine zS fun K h => sp 2 hf rfl fun a hf => zT h ?_
 refine zI hf rfl hF ?_ ?_ <;> clear hF <;> intro hF
 ·refine zS fun K h => sp 3 hf rfl fun a hf => zT h ?_
  refine wp_ret ?_
  refine xThenR ?_
  obtain rfl := sj hF
  replace hc := (hc.drop k1).drop k0
  exact zO2 Tryz.results10 hf rfl rfl ⟨rfl,hc⟩
 ·refine wp_skip ?_
  refine h2 _ _ ?_
  refine zS fun K h => zN hf hc ag_33 m1 rfl fun a w hf hc => zP hf rfl (pBuildS (cells := (catc [i6 s_.Left,i6 s_.Right,i6 s_.Gap,i6 s_.Step_,.slice s__Points_p s_.Points.length s__Points_c] 32 enc_gauge_spent (fun _ => (⟨0,0⟩ : gauge_spent)) [.map none])) bt_66 rfl rfl) fun a hf => stBx (cs := (catc [i6 s_.Left,i6 s_.Right,i6 s_.Gap,i6 s_.Step_,.slice s__Points_p s_.Points.length s__Points_c] 32 enc_gauge_spent (fun _ => (⟨0,0⟩ : gauge_spent)) [.map none])) hf hc rfl rfl rfl rfl fun b_3 a w hf hc => sp 1 hf rfl fun a hf => zT h ?_
  refine wp_seq_k fun K7 h7 => wp_block ?_
  refine zS fun K h => zL hf hc sc_35 m1 rfl fun a w hf hc => zP hf rfl (pMF (us := [pq b_1]) rfl rfl) fun a hf => ?_
  obtain ⟨r_1,hr_1,hF⟩ := bnd_some hF
  refine zQ (v := .bool r_1) hf hc en_21 rfl (fun w hc => (gauge_every_int_ok plan s_ h_plan h_s__Points (hc.pick k2) hr_1).mono fun e w h => ⟨h.1,(h.2.unpick k2)⟩) fun a w hf hc => sp 2 hf rfl fun a hf => zT h ?_
  refine zI hf rfl hF ?_ ?_ <;> clear hF <;> intro hF
  ·refine zS fun K h => sp 2 hf rfl fun a hf => zT h ?_
   refine wp_ret ?_
   refine xBlkR ?_
   refine xThenR ?_
   obtain rfl := sj hF
   replace hc := ((hc.drop k2).drop k1).drop k0
   exact zO2 Tryz.results10 hf rfl rfl ⟨rfl,hc⟩
  ·refine zS fun K h => zL hf hc sc_35 m1 rfl fun a w hf hc => zP hf rfl (pLenS Tryz.underlying35 rfl) fun a hf => zP hf rfl (pMF (us := [pq b_2]) rfl rfl) fun a hf => ?_
   obtain ⟨r_2,hr_2,hF⟩ := bnd_some hF
   refine zQ (v := .bool r_2) hf hc en_24 rfl (fun w hc => (gauge_rising_s2_ok ((plan.length : Nat) : Int) plan h_plan (hc.pick k1) hr_2).mono fun e w h => ⟨h.1,(h.2.unpick k1)⟩) fun a w hf hc => sp 2 hf rfl fun a hf => zT h ?_
   refine zI hf rfl hF ?_ ?_ <;> clear hF <;> intro hF
   ·refine zS fun K h => sp 2 hf rfl fun a hf => zT h ?_
    refine wp_ret ?_
    refine xBlkR ?_
    refine xThenR ?_
    obtain rfl := sj hF
    replace hc := ((hc.drop k2).drop k1).drop k0
    exact zO2 Tryz.results10 hf rfl rfl ⟨rfl,hc⟩
   ·refine wp_skip ?_
    refine h7 _ _ ?_
    refine zS fun K h => sp 1 hf rfl fun a hf => zP hf rfl (pMF (vs := [pq b_3]) (us := []) rfl rfl) fun a hf => sp 3 hf rfl fun a hf => zT h ?_
    refine wp_seq_k fun K13 h13 => wp_seq_k fun K14 h14 => ?_
    obtain ⟨r_3,hr_3,hF⟩ := bnd_some hF
    obtain ⟨un,hun,hF⟩ := bnd_some hF
    replace hc := hc.nilRow 0 0
    replace hc := hc.nilRow 0 0
    refine regionE (fun θ => [⟨none,none,2,pq b_1⟩,⟨none,none,3,pq b_2⟩,⟨none,none,7,pq b_3⟩,⟨none,none,8,i6 0⟩,⟨none,none,9,i6 0⟩,⟨none,none,10,.func (.func 26) #[pq b_3] #[]⟩,⟨some 0,none,34,.slice plan_p plan.length plan_c⟩,⟨some 1,none,35,.slice ((θ 8).p) r_3.length ((θ 8).c)⟩,⟨some 2,none,36,.pointer (some ⟨b_1,4,none⟩)⟩,⟨some 3,none,37,.slice s__Points_p s_.Points.length s__Points_c⟩,⟨some 4,none,38,i6 ((s_.Points.length : Nat) : Int)⟩,⟨some 5,none,39,i6 (W (((s_.Points.length : Nat) : Int) + 1))⟩,⟨some 6,none,40,.slice (some ⟨(θ 48).b,0,none⟩) 1 1⟩,⟨some 7,none,41,.slice ((θ 56).p) ((r_3 ++ [W (((s_.Points.length : Nat) : Int) + 1)]).length) ((θ 56).c)⟩,⟨some 8,none,42,i6 (((r_3 ++ [W (((s_.Points.length : Nat) : Int) + 1)]).length : Nat) : Int)⟩,⟨some 9,none,43,i6 0⟩]) (fun E θ => (bif E 6 then .row (some ⟨(θ 48).b,0,none⟩) 1 (([W (((s_.Points.length : Nat) : Int) + 1)] : List Int).map encI_i64) 3 1 else .row none 0 [] 0 0)::(bif E 7 then .row ((θ 56).p) ((θ 56).c) ((r_3 ++ [W (((s_.Points.length : Nat) : Int) + 1)]).map encI_i64) 3 1 else bif E 1 then .row ((θ 8).p) ((θ 8).c) (r_3.map encI_i64) 3 1 else .row none 0 [] 0 0)::.box b_3 (catc [i6 s_.Left,i6 s_.Right,i6 s_.Gap,i6 s_.Step_,.slice s__Points_p s_.Points.length s__Points_c] 32 enc_gauge_spent (fun _ => (⟨0,0⟩ : gauge_spent)) [.map none]) 66::.box b_2 [.slice plan_p plan.length plan_c] 35::.box b_1 [i6 s_.Left,i6 s_.Right,i6 s_.Gap,i6 s_.Step_,.slice s__Points_p s_.Points.length s__Points_c] 33::Lf) [(7,1)] (fun a w => ∃ (p_3 : Option Addr) (c_3 : Nat) (b_5 : Nat),Has 61 a [(7,pq b_3),(8,i6 0),(9,i6 0),(10,.func (.func 26) #[pq b_3] #[]),(41,.slice p_3 ((r_3 ++ [W (((s_.Points.length : Nat) : Int) + 1)]).length) c_3),(42,i6 (((r_3 ++ [W (((s_.Points.length : Nat) : Int) + 1)]).length : Nat) : Int)),(43,i6 0)] ∧ Ctx G (.row (some ⟨b_5,0,none⟩) 1 (([W (((s_.Points.length : Nat) : Int) + 1)] : List Int).map encI_i64) 3 1::.row p_3 c_3 ((r_3 ++ [W (((s_.Points.length : Nat) : Int) + 1)]).map encI_i64) 3 1::.box b_3 (catc [i6 s_.Left,i6 s_.Right,i6 s_.Gap,i6 s_.Step_,.slice s__Points_p s_.Points.length s__Points_c] 32 enc_gauge_spent (fun _ => (⟨0,0⟩ : gauge_spent)) [.map none]) 66::.box b_2 [.slice plan_p plan.length plan_c] 35::.box b_1 [i6 s_.Left,i6 s_.Right,i6 s_.Gap,i6 s_.Step_,.slice s__Points_p s_.Points.length s__Points_c] 33::Lf) w) follows_mx (by kernel_rfl) (by kernel_rfl) (HasE.of hf ⟨rfl,rfl,rfl,rfl,rfl,rfl,trivial,trivial,trivial,trivial,trivial,trivial,trivial,trivial,trivial,trivial,trivial⟩) hc ⟨?_,?_,?_,?_,?_,?_,?_,?_,?_,?_,trivial⟩ ?_ ?_
    ·intro E θ a w hD hi hp he hc
     have hf := he.h0.mT he 1 rfl
     refine zL hf hc sc_35 m3 rfl fun a w hf hc => zD θ he hi hf 6 rfl rfl rfl hc
    ·intro E θ a w hD hi hp he hc
     have e0 := hp.o 0 rfl
     have e7 := hD.f 0 rfl hi
     try dsimp only at hc
     rw [hi,e7] at hc
     have hf := he.h0.mP he 6 rfl e0
     refine zC hf en_27 rfl (slices_Clone_Lint_int_ok plan h_plan hc hr_3) ?_
     rintro _ w ⟨p_1,c_1,rfl,hc⟩
     refine ⟨_,rfl,fun a hf => ?_⟩
     refine cNil ?_
     refine xThenN ?_
     intro ds u hau
     replace hc := ((hc.drop k2).pick k0).pick k1
     refine ⟨(setT θ 8 ⟨0,p_1,c_1,(fun _ => (none,0))⟩),he.put hi hau hf rfl [] trivial ⟨qq,qq,qq,qq,qq,qq,qq,qq,qq,qq,qq,qq,qq,qq,qq,qq,trivial⟩,?_⟩
     try dsimp only
     rw [updE_self E 1,updE_fls 1 e7 rfl]
     exact hc
    ·intro E θ a w hD hi hp he hc
     have hf := he.h0.mT he 0 rfl
     refine zP hf rfl (pFA fa_33_4 rfl) fun a hf => zD θ he hi hf 8 rfl rfl rfl hc
    ·intro E θ a w hD hi hp he hc
     have e2 := hp.o 2 rfl
     have hf := he.h0.mP he 8 rfl e2
     refine zL hf hc sc_31 m4 rfl fun a w hf hc => zD θ he hi hf 9 rfl rfl rfl hc
    ·intro E θ a w hD hi hp he hc
     have e3 := hp.o 3 rfl
     have hf := he.h0.mP he 9 rfl e3
     refine zP hf rfl (pLenS Tryz.underlying31 rfl) fun a hf => zD θ he hi hf 10 rfl rfl rfl hc
    ·intro E θ a w hD hi hp he hc
     have e4 := hp.o 4 rfl
     have hf := he.h0.mP he 10 rfl e4
     refine sp 1 hf rfl fun a hf => zD θ he hi hf 11 rfl rfl rfl hc
    ·intro E θ a w hD hi hp he hc
     have e5 := hp.o 5 rfl
     try dsimp only at hc
     rw [hi] at hc
     have hf := he.h0.mP he 11 rfl e5
     refine stBS (rows := ([W (((s_.Points.length : Nat) : Int) + 1)] : List Int).map encI_i64) (vs := [(0,i6 (W (((s_.Points.length : Nat) : Int) + 1)))]) hf hc rfl rfl sl_35 rfl ⟨rfl,rfl,rfl,trivial⟩ rfl rfl fun b_4 a w hf hc => cNil ?_
     refine xThenN ?_
     intro ds u hau
     replace hc := hc.drop k1
     refine ⟨(setT θ 48 ⟨b_4,none,0,(fun _ => (none,0))⟩),he.put hi hau hf rfl [] trivial ⟨qq,qq,qq,qq,qq,qq,qq,qq,qq,qq,qq,qq,qq,qq,qq,qq,trivial⟩,?_⟩
     try dsimp only
     rw [updE_self E 6]
     exact hc
    ·intro E θ a w hD hi hp he hc
     have e1 := hp.o 1 rfl
     have e6 := hp.o 6 rfl
     try dsimp only at hc
     rw [e6,e1,hi] at hc
     have hf := (he.h0.mP he 7 rfl e1).mP he 12 rfl e6
     refine stApm (xs := r_3) (ys := ([W (((s_.Points.length : Nat) : Int) + 1)] : List Int)) hf hc rfl rfl sl_35 rfl rfl rfl rfl rfl one_encI_i64 (src_row hc m0) (fun _ _ => u1) (by simpa using room_spec hun) fun p_2 c_2 a w hf hc => cNil ?_
     refine xThenN ?_
     intro ds u hau
     refine ⟨(setT θ 56 ⟨0,p_2,c_2,(fun _ => (none,0))⟩),he.put hi hau hf rfl [] trivial ⟨qq,qq,qq,qq,qq,qq,qq,qq,qq,qq,qq,qq,qq,qq,qq,qq,trivial⟩,?_⟩
     try dsimp only
     rw [updE_tru 7 e6,updE_tru 7 e1,updE_self E 7]
     exact hc
    ·intro E θ a w hD hi hp he hc
     have e7 := hp.o 7 rfl
     have hf := he.h0.mP he 13 rfl e7
     refine zP hf rfl (pLenS Tryz.underlying35 rfl) fun a hf => zD θ he hi hf 14 rfl rfl rfl hc
    ·intro E θ a w hD hi hp he hc
     have hf := he.h0
     refine sp 1 hf rfl fun a hf => zD θ he hi hf 15 rfl rfl rfl hc
    ·intro E θ a w hall he hc
     have hf := he.h0
     have e1 := hall 1 rfl
     have e6 := hall 6 rfl
     have e7 := hall 7 rfl
     have e8 := hall 8 rfl
     have e9 := hall 9 rfl
     replace hf := hf.more he 15 rfl (onP e9)
     replace hf := hf.more he 14 rfl (onP e8)
     replace hf := hf.more he 13 rfl (onP e7)
     replace hf := hf.more he 5 rfl (onT)
     replace hf := hf.more he 4 rfl (onT)
     replace hf := hf.more he 3 rfl (onT)
     replace hf := hf.more he 2 rfl (onT)
     try dsimp only at hc
     rw [e1,e6,e7] at hc
     exact ⟨(θ 56).p,(θ 56).c,(θ 48).b,hf.kp rfl,hc⟩
    rintro a w ⟨p_3,c_3,b_5,hf,hc⟩
    refine h14 _ _ ?_
    refine wp_block ?_
    obtain ⟨x15,hx15,hF⟩ := bnd_some hF
    let S15 : (Int × Int × Int) → Act → World → Prop := (fun (zz : Int × Int × Int) a w => ∃ (p_4 : Option Addr) (c_4 : Nat),Has 61 a [(7,pq b_3),(8,i6 zz.1),(9,i6 zz.2.1),(10,.func (.func 26) #[pq b_3] #[]),(41,.slice p_4 ((r_3 ++ [W (((s_.Points.length : Nat) : Int) + 1)]).length) c_4),(42,i6 (((r_3 ++ [W (((s_.Points.length : Nat) : Int) + 1)]).length : Nat) : Int)),(43,i6 zz.2.2)] ∧ Ctx G (.row p_4 c_4 ((r_3 ++ [W (((s_.Points.length : Nat) : Int) + 1)]).map encI_i64) 3 1::.box b_3 (catc [i6 s_.Left,i6 s_.Right,i6 s_.Gap,i6 s_.Step_,.slice s__Points_p s_.Points.length s__Points_c] 32 enc_gauge_spent (fun _ => (⟨0,0⟩ : gauge_spent)) [.map none]) 66::Lf) w)
    have hr15 : ∀ (zz : Int × Int × Int) a w,x15 = .go zz → S15 zz a w → K13 a w := by
     rintro ⟨sum,at_,x⟩ a w rfl ⟨p_4,c_4,hf,hc⟩
     replace hF := exK_go hF
     refine h13 _ _ ?_
     refine zS fun K h => sp 3 hf rfl fun a hf => zT h ?_
     refine wp_ret ?_
     obtain rfl := sj hF
     replace hc := (hc.drop k1).drop k0
     exact zO2 Tryz.results10 hf rfl rfl ⟨rfl,hc⟩
    have ho15 : ∀ r,x15 = .out r → r = res := by
     rintro r rfl
     exact sj hF
    replace hc := ((hc.drop k4).drop k3).drop k0
    refine cLoop N (loopW (S := S15) (x := x15) ?_ N (0,0,0) _ _ ⟨p_3,c_3,hf.kp rfl,hc⟩ hx15)
    clear hF hf hc
    rintro ⟨sum,at_,x⟩ st15 a w KB15 ⟨p_4,c_4,hf,hc⟩ hF hfin15 hK15
    unfold gauge_Cost_b15 at hF
    refine zS fun K h => sp 1 hf rfl fun a hf => zT h ?_
    refine wp_seq_k fun K18 h18 => zI hf rfl hF ?_ ?_ <;> clear hF <;> intro hF
    ·refine wp_skip ?_
     refine h18 _ _ ?_
     refine wp_seq_k fun K19 h19 => wp_block ?_
     refine zS fun K h => ?_
     obtain ⟨e_1,he_1,hF⟩ := bnd_some hF
     obtain ⟨g,rfl,qa,qr⟩ := row_atm hc m0 he_1
     refine zP hf rfl (pIA Tryz.underlying35 sz_3 rfl rfl qa) fun a hf => zE hf hc rfl (eLd1 sc_3 rfl (cell_row (sz := 1) (i := x.toNat) (j := 0) m0 qr rfl)) fun a w hf hc => sp 1 hf rfl fun a hf => zT h ?_
     refine wp_seq_k fun K21 h21 => zS fun K h => sp 3 hf rfl fun a hf => ?_
     obtain ⟨r_4,hr_4,hF⟩ := bnd_some hF
     refine zQ (v := .bool r_4) hf hc en_26 rfl (fun w hc => (gauge_work_steps_s2_ok s_.Left s_.Right s_.Gap s_.Step_ s_.Points (fun _ => (⟨0,0⟩ : gauge_spent)) at_ e_1 h_s__Points (hc.pick k1) hr_4).mono fun e w h => ⟨h.1,(h.2.unpick k1)⟩) fun a w hf hc => sp 1 hf rfl fun a hf => zT h ?_
     refine zI hf rfl hF ?_ ?_ <;> clear hF <;> intro hF
     ·refine zS fun K h => sp 2 hf rfl fun a hf => zT h ?_
      refine wp_ret ?_
      refine xThenR ?_
      refine xBlkR ?_
      refine xThenR ?_
      refine xThenR ?_
      have he := sj hF
      rw [← he] at hfin15
      replace hF := ho15 _ hfin15
      refine xBlkR ?_
      refine xThenR ?_
      obtain rfl := hF
      replace hc := (hc.drop k1).drop k0
      exact zO2 Tryz.results10 hf rfl rfl ⟨rfl,hc⟩
     ·refine wp_skip ?_
      refine h21 _ _ ?_
      refine cReg ?_
      refine sp 3 hf rfl fun a hf => ?_
      obtain ⟨r_5,hr_5,hF⟩ := bnd_some hF
      refine zQ (v := .agg #[i6 r_5.At,i6 r_5.Depth,i6 r_5.Cost]) hf hc en_28 rfl (fun w hc => (gauge_work_station_s2_ok s_.Left s_.Right s_.Gap s_.Step_ s_.Points (fun _ => (⟨0,0⟩ : gauge_spent)) e_1 h_s__Points (hc.pick k1) hr_5).mono fun e w h => ⟨h.1,(h.2.unpick k1)⟩) fun a w hf hc => zP hf rfl (pField1 Tryz.underlying57 rfl sc_3 rfl rfl) fun a hf => sp 4 hf rfl fun a hf => cNil ?_
      refine h19 _ _ ?_
      refine cReg ?_
      refine sp 2 hf rfl fun a hf => cNil ?_
      exact hK15 (W (sum + r_5.Cost),e_1,W (x + 1)) _ _ (sj hF).symm ⟨(some ⟨g,0,none⟩),c_4,hf.kp rfl,hc⟩
    ·refine wp_exit ?_
     refine xThen ?_
     refine xThen ?_
     have he := sj hF
     rw [← he] at hfin15
     refine cHit ?_
     exact hr15 _ _ _ hfin15 ⟨p_4,c_4,hf.kp rfl,hc⟩

def crew_in (n : Int) (least : Int) (greatest : Int) : Bool :=
 ((decide (least ≤ n)) && (decide (n ≤ greatest)))
theorem crew_in_ok {G : Pers} {Lf : List Ent} {w : World} (n : Int) (least : Int) (greatest : Int)   (hc : Ctx G (Lf) w) {res : Bool} (hF : crew_in n least greatest = res) : Calls Tryz.prog 56 #[i6 n,i6 least,i6 greatest] w (fun e w => e = .returned (.bool res) ∧ Ctx G (Lf) w) := by
 unfold crew_in at hF
 refine fnIn Tryz.func56 rfl Tryz.ntmps56 rfl fun a hf => zS fun K h => sp 1 hf rfl fun a hf => zT h ?_
 refine zS fun K h => sp 4 hf rfl fun a hf => stCc 4 (fun a => Has 15 a [(0,i6 n),(1,i6 least),(2,i6 greatest),(6,.bool false),(7,i6 n),(8,i6 least),(9,.bool (decide (least ≤ n))),(10,.bool (decide (least ≤ n))),(14,.bool ((decide (least ≤ n)) && (decide (n ≤ greatest))))]) hc ?_ ?_
 ·cases hb : (decide (least ≤ n))
  ·rw [hb] at hf
   refine stS hf rfl rfl rfl fun a hf => stS hf rfl rfl rfl fun a hf => stS hf rfl rfl rfl fun a hf => sp 1 hf rfl fun a hf => cNil ⟨hf.kp rfl,hc⟩
  ·rw [hb] at hf
   refine sp 4 hf rfl fun a hf => cNil ⟨hf.kp rfl,hc⟩
 intro a w ⟨hf,hc⟩
 refine sp 1 hf rfl fun a hf => zT h ?_
 refine wp_ret ?_
 obtain rfl := hF
 exact zO1 Tryz.results56 hf rfl ⟨rfl,hc⟩

def crew_minute (n : Int) : Bool :=
 (crew_in n 0 100000)
theorem crew_minute_ok {G : Pers} {Lf : List Ent} {w : World} (n : Int)   (hc : Ctx G (Lf) w) {res : Bool} (hF : crew_minute n = res) : Calls Tryz.prog 58 #[i6 n] w (fun e w => e = .returned (.bool res) ∧ Ctx G (Lf) w) := by
 unfold crew_minute at hF
 refine fnIn Tryz.func58 rfl Tryz.ntmps58 rfl fun a hf => zS fun K h => sp 1 hf rfl fun a hf => zT h ?_
 refine zS fun K h => sp 1 hf rfl fun a hf => zQ (v := .bool (crew_in n 0 100000)) hf hc en_56 rfl (fun w hc => crew_in_ok n 0 100000 hc rfl) fun a w hf hc => sp 1 hf rfl fun a hf => zT h ?_
 refine wp_ret ?_
 obtain rfl := hF
 exact zO1 Tryz.results58 hf rfl ⟨rfl,hc⟩

def crew_CheckCable_1 (r : crew_Ride) : Bool :=
 ((((crew_minute r.From) && (crew_in r.Long 1 100000)) && (crew_in r.Weight.Lo 0 r.Weight.Hi)) && (decide (r.Weight.Hi ≤ 1000)))
theorem crew_CheckCable_1_ok {G : Pers} {Lf : List Ent} {w : World} (r : crew_Ride)   (hc : Ctx G (Lf) w) {res : Bool} (hF : crew_CheckCable_1 r = res) : Calls Tryz.prog 57 #[.agg #[i6 r.From,i6 r.Long,i6 r.Weight.Lo,i6 r.Weight.Hi]] w (fun e w => e = .returned (.bool res) ∧ Ctx G (Lf) w) := by
 unfold crew_CheckCable_1 at hF
 refine fnIn Tryz.func57 rfl Tryz.ntmps57 rfl fun a hf => zS fun K h => zB hf hc rfl fun b_1 a w hf hc => sp 1 hf rfl fun a hf => zT h ?_
 refine zS fun K h => zP hf rfl (pFA fa_45_0 rfl) fun a hf => zL hf hc sc_3 m0 rfl fun a w hf hc => zQ (v := .bool (crew_minute r.From)) hf hc en_58 rfl (fun w hc => crew_minute_ok r.From hc rfl) fun a w hf hc => sp 1 hf rfl fun a hf => stCc 4 (fun a => Has 26 a [(1,pq b_1),(2,.bool false),(3,pq b_1),(4,i6 r.From),(5,.bool (crew_minute r.From)),(6,.bool (crew_minute r.From)),(10,.bool ((crew_minute r.From) && (crew_in r.Long 1 100000)))]) hc ?_ ?_
 ·cases hb : (crew_minute r.From)
  ·rw [hb] at hf
   refine stS hf rfl rfl rfl fun a hf => stS hf rfl rfl rfl fun a hf => stS hf rfl rfl rfl fun a hf => sp 1 hf rfl fun a hf => cNil ⟨hf.kp rfl,hc⟩
  ·rw [hb] at hf
   refine zP hf rfl (pFA fa_45_1 rfl) fun a hf => zL hf hc sc_3 m0 rfl fun a w hf hc => zQ (v := .bool (crew_in r.Long 1 100000)) hf hc en_56 rfl (fun w hc => crew_in_ok r.Long 1 100000 hc rfl) fun a w hf hc => sp 1 hf rfl fun a hf => cNil ⟨hf.kp rfl,hc⟩
 intro a w ⟨hf,hc⟩
 refine sp 1 hf rfl fun a hf => stCc 8 (fun a => Has 26 a [(1,pq b_1),(2,.bool false),(3,pq b_1),(4,i6 r.From),(5,.bool (crew_minute r.From)),(6,.bool (crew_minute r.From)),(10,.bool ((crew_minute r.From) && (crew_in r.Long 1 100000))),(11,.bool ((crew_minute r.From) && (crew_in r.Long 1 100000))),(19,.bool (((crew_minute r.From) && (crew_in r.Long 1 100000)) && (crew_in r.Weight.Lo 0 r.Weight.Hi)))]) hc ?_ ?_
 ·cases hb : ((crew_minute r.From) && (crew_in r.Long 1 100000))
  ·rw [hb] at hf
   refine stS hf rfl rfl rfl fun a hf => stS hf rfl rfl rfl fun a hf => stS hf rfl rfl rfl fun a hf => stS hf rfl rfl rfl fun a hf => stS hf rfl rfl rfl fun a hf => stS hf rfl rfl rfl fun a hf => stS hf rfl rfl rfl fun a hf => sp 1 hf rfl fun a hf => cNil ⟨hf.kp rfl,hc⟩
  ·rw [hb] at hf
   refine zP hf rfl (pFA fa_45_2 rfl) fun a hf => zP hf rfl (pFA fa_43_0 rfl) fun a hf => zL hf hc sc_3 m0 rfl fun a w hf hc => zP hf rfl (pFA fa_45_2 rfl) fun a hf => zP hf rfl (pFA fa_43_1 rfl) fun a hf => zL hf hc sc_3 m0 rfl fun a w hf hc => zQ (v := .bool (crew_in r.Weight.Lo 0 r.Weight.Hi)) hf hc en_56 rfl (fun w hc => crew_in_ok r.Weight.Lo 0 r.Weight.Hi hc rfl) fun a w hf hc => sp 1 hf rfl fun a hf => cNil ⟨hf.kp rfl,hc⟩
 intro a w ⟨hf,hc⟩
 refine sp 1 hf rfl fun a hf => stCc 5 (fun a => Has 26 a [(1,pq b_1),(2,.bool false),(3,pq b_1),(4,i6 r.From),(5,.bool (crew_minute r.From)),(6,.bool (crew_minute r.From)),(10,.bool ((crew_minute r.From) && (crew_in r.Long 1 100000))),(11,.bool ((crew_minute r.From) && (crew_in r.Long 1 100000))),(19,.bool (((crew_minute r.From) && (crew_in r.Long 1 100000)) && (crew_in r.Weight.Lo 0 r.Weight.Hi))),(20,.bool (((crew_minute r.From) && (crew_in r.Long 1 100000)) && (crew_in r.Weight.Lo 0 r.Weight.Hi))),(25,.bool ((((crew_minute r.From) && (crew_in r.Long 1 100000)) && (crew_in r.Weight.Lo 0 r.Weight.Hi)) && (decide (r.Weight.Hi ≤ 1000))))]) hc ?_ ?_
 ·cases hb : (((crew_minute r.From) && (crew_in r.Long 1 100000)) && (crew_in r.Weight.Lo 0 r.Weight.Hi))
  ·rw [hb] at hf
   refine stS hf rfl rfl rfl fun a hf => stS hf rfl rfl rfl fun a hf => stS hf rfl rfl rfl fun a hf => stS hf rfl rfl rfl fun a hf => sp 1 hf rfl fun a hf => cNil ⟨hf.kp rfl,hc⟩
  ·rw [hb] at hf
   refine zP hf rfl (pFA fa_45_2 rfl) fun a hf => zP hf rfl (pFA fa_43_1 rfl) fun a hf => zL hf hc sc_3 m0 rfl fun a w hf hc => sp 2 hf rfl fun a hf => cNil ⟨hf.kp rfl,hc⟩
 intro a w ⟨hf,hc⟩
 refine sp 1 hf rfl fun a hf => zT h ?_
 refine wp_ret ?_
 obtain rfl := hF
 replace hc := hc.drop k0
 exact zO1 Tryz.results57 hf rfl ⟨rfl,hc⟩

def crew_every_crew_Ride_1 (x : crew_Ride) : Bool :=
 (!(crew_CheckCable_1 (⟨x.From,x.Long,x.Weight⟩ : crew_Ride)))
theorem crew_every_crew_Ride_1_ok {G : Pers} {Lf : List Ent} {w : World} (x : crew_Ride) {b_ : Nat}  (hc : Ctx G (.box b_ [.func (.func 57) #[] #[]] 79::Lf) w) {res : Bool} (hF : crew_every_crew_Ride_1 x = res) : Calls Tryz.prog 60 #[.agg #[i6 x.From,i6 x.Long,i6 x.Weight.Lo,i6 x.Weight.Hi],pq b_] w (fun e w => e = .returned (.bool res) ∧ Ctx G (.box b_ [.func (.func 57) #[] #[]] 79::Lf) w) := by
 unfold crew_every_crew_Ride_1 at hF
 refine fnIn Tryz.func60 rfl Tryz.ntmps60 rfl fun a hf => zS fun K h => zB hf hc rfl fun b_1 a w hf hc => sp 1 hf rfl fun a hf => zT h ?_
 refine zS fun K h => zL hf hc sc_79 m1 rfl fun a w hf hc => zN hf hc ag_45 m0 rfl fun a w hf hc => zQ (v := .bool (crew_CheckCable_1 (⟨x.From,x.Long,x.Weight⟩ : crew_Ride))) hf hc en_57 rfl (fun w hc => crew_CheckCable_1_ok (⟨x.From,x.Long,x.Weight⟩ : crew_Ride) hc rfl) fun a w hf hc => sp 2 hf rfl fun a hf => zT h ?_
 refine wp_ret ?_
 obtain rfl := hF
 replace hc := hc.drop k0
 exact zO1 Tryz.results60 hf rfl ⟨rfl,hc⟩

def slices_IndexFunc_Lcrew_Ride_crew_Ride_b4 (N : Nat) (s_ : List crew_Ride) (x : Int) : Option (Step (Int) (Int)) :=
 cond (decide (x < ((s_.length : Nat) : Int)))
 (Option.bind (getI s_ x) fun e_1 =>
 cond (crew_every_crew_Ride_1 e_1)
 (some (.ret x))
 (some (.cont (W (x + 1)))))
 (some (.brk x))
def slices_IndexFunc_Lcrew_Ride_crew_Ride (N : Nat) (s_ : List crew_Ride) : Option (Int) :=
 Option.bind (loopO (fun s4 => slices_IndexFunc_Lcrew_Ride_crew_Ride_b4 N s_ s4) N 0) fun x4 =>
 exK x4 (fun s4 => some (-1)) some
theorem slices_IndexFunc_Lcrew_Ride_crew_Ride_ok {N : Nat} {G : Pers} {Lf : List Ent} {w : World} (s_ : List crew_Ride) {s__p : Option Addr} {s__c : Nat} {b_ : Nat} (h_s_ : Rd G 4 s__p s__c (s_.map enc_crew_Ride)) (hc : Ctx G (.box b_ [.func (.func 57) #[] #[]] 79::Lf) w) {res : Int} (hF : slices_IndexFunc_Lcrew_Ride_crew_Ride N s_ = some res) : Calls Tryz.prog 78 #[.slice s__p s_.length s__c,.func (.func 60) #[] #[pq b_]] w (fun e w => e = .returned (i6 res) ∧ Ctx G (.box b_ [.func (.func 57) #[] #[]] 79::Lf) w) := by
 unfold slices_IndexFunc_Lcrew_Ride_crew_Ride at hF
 refine fnIn Tryz.func78 rfl Tryz.ntmps78 rfl fun a hf => zS fun K h => sp 1 hf rfl fun a hf => zT h ?_
 refine wp_seq_k fun K2 h2 => zS fun K h => sp 1 hf rfl fun a hf => zP hf rfl (pLenS Tryz.underlying25 rfl) fun a hf => sp 1 hf rfl fun a hf => zT h ?_
 refine wp_block ?_
 obtain ⟨x4,hx4,hF⟩ := bnd_some hF
 let S4 : Int → Act → World → Prop := (fun (zz : Int) a w => Has 19 a [(0,.slice s__p s_.length s__c),(1,.func (.func 60) #[] #[pq b_]),(7,i6 ((s_.length : Nat) : Int)),(8,i6 zz)] ∧ Ctx G (.box b_ [.func (.func 57) #[] #[]] 79::Lf) w)
 have hr4 : ∀ (zz : Int) a w,x4 = .go zz → S4 zz a w → K2 a w := by
  rintro x a w rfl ⟨hf,hc⟩
  replace hF := exK_go hF
  refine h2 _ _ ?_
  refine zS fun K h => sp 1 hf rfl fun a hf => zT h ?_
  refine wp_ret ?_
  obtain rfl := sj hF
  exact zO1 Tryz.results78 hf rfl ⟨rfl,hc⟩
 have ho4 : ∀ r,x4 = .out r → r = res := by
  rintro r rfl
  exact sj hF
 refine cLoop N (loopW (S := S4) (x := x4) ?_ N 0 _ _ ⟨hf.kp rfl,hc⟩ hx4)
 clear hF hf hc
 rintro x st4 a w KB4 ⟨hf,hc⟩ hF hfin4 hK4
 unfold slices_IndexFunc_Lcrew_Ride_crew_Ride_b4 at hF
 refine zS fun K h => sp 1 hf rfl fun a hf => zT h ?_
 refine wp_seq_k fun K7 h7 => zI hf rfl hF ?_ ?_ <;> clear hF <;> intro hF
 ·refine wp_skip ?_
  refine h7 _ _ ?_
  refine wp_seq_k fun K8 h8 => wp_block ?_
  refine zS fun K h => sp 2 hf rfl fun a hf => zT h ?_
  refine zS fun K h => sp 3 hf rfl fun a hf => ?_
  obtain ⟨e_1,he_1,hF⟩ := bnd_some hF
  obtain ⟨b_1,o,qa,qp⟩ := h_s_.atm he_1
  refine zP hf rfl (pIA Tryz.underlying25 sz_45 rfl rfl qa) fun a hf => zE hf hc rfl (eLdN (vs := [i6 e_1.From,i6 e_1.Long,i6 e_1.Weight.Lo,i6 e_1.Weight.Hi]) ag_45 rfl rfl (cells_pc qp (n := 4) (o' := 0) rfl)) fun a w hf hc => zQ (v := .bool (crew_every_crew_Ride_1 e_1)) hf hc en_60 rfl (fun w hc => (crew_every_crew_Ride_1_ok e_1 (hc.pick k0) rfl).mono fun e w h => ⟨h.1,(h.2.unpick k0)⟩) fun a w hf hc => zT h ?_
  refine zI hf rfl hF ?_ ?_ <;> clear hF <;> intro hF
  ·refine zS fun K h => sp 2 hf rfl fun a hf => zT h ?_
   refine wp_ret ?_
   refine xBlkR ?_
   refine xThenR ?_
   refine xThenR ?_
   have he := sj hF
   rw [← he] at hfin4
   replace hF := ho4 _ hfin4
   refine xBlkR ?_
   refine xThenR ?_
   obtain rfl := hF
   exact zO1 Tryz.results78 hf rfl ⟨rfl,hc⟩
  ·refine wp_skip ?_
   refine h8 _ _ ?_
   refine cReg ?_
   refine sp 2 hf rfl fun a hf => cNil ?_
   exact hK4 (W (x + 1)) _ _ (sj hF).symm ⟨hf.kp rfl,hc⟩
 ·refine wp_exit ?_
  refine xThen ?_
  refine xThen ?_
  have he := sj hF
  rw [← he] at hfin4
  refine cHit ?_
  exact hr4 _ _ _ hfin4 ⟨hf.kp rfl,hc⟩

def slices_ContainsFunc_Lcrew_Ride_crew_Ride (N : Nat) (s_ : List crew_Ride) : Option (Bool) :=
 Option.bind (slices_IndexFunc_Lcrew_Ride_crew_Ride N s_) fun r =>
 some (decide (0 ≤ r))
theorem slices_ContainsFunc_Lcrew_Ride_crew_Ride_ok {N : Nat} {G : Pers} {Lf : List Ent} {w : World} (s_ : List crew_Ride) {s__p : Option Addr} {s__c : Nat} {b_ : Nat} (h_s_ : Rd G 4 s__p s__c (s_.map enc_crew_Ride)) (hc : Ctx G (.box b_ [.func (.func 57) #[] #[]] 79::Lf) w) {res : Bool} (hF : slices_ContainsFunc_Lcrew_Ride_crew_Ride N s_ = some res) : Calls Tryz.prog 59 #[.slice s__p s_.length s__c,.func (.func 60) #[] #[pq b_]] w (fun e w => e = .returned (.bool res) ∧ Ctx G (.box b_ [.func (.func 57) #[] #[]] 79::Lf) w) := by
 unfold slices_ContainsFunc_Lcrew_Ride_crew_Ride at hF
 refine fnIn Tryz.func59 rfl Tryz.ntmps59 rfl fun a hf => zS fun K h => sp 1 hf rfl fun a hf => zT h ?_
 refine zS fun K h => sp 2 hf rfl fun a hf => ?_
 obtain ⟨r,hr,hF⟩ := bnd_some hF
 refine zQ (v := i6 r) hf hc en_78 rfl (fun w hc => (slices_IndexFunc_Lcrew_Ride_crew_Ride_ok s_ h_s_ (hc.pick k0) hr).mono fun e w h => ⟨h.1,(h.2.unpick k0)⟩) fun a w hf hc => sp 2 hf rfl fun a hf => zT h ?_
 refine wp_ret ?_
 obtain rfl := sj hF
 exact zO1 Tryz.results59 hf rfl ⟨rfl,hc⟩

def crew_every_crew_Ride (N : Nat) (l : List crew_Ride) : Option (Bool) :=
 Option.bind (slices_ContainsFunc_Lcrew_Ride_crew_Ride N l) fun r =>
 some (!r)
theorem crew_every_crew_Ride_ok {N : Nat} {G : Pers} {Lf : List Ent} {w : World} (l : List crew_Ride) {l_p : Option Addr} {l_c : Nat} (h_l : Rd G 4 l_p l_c (l.map enc_crew_Ride)) (hc : Ctx G (Lf) w) {res : Bool} (hF : crew_every_crew_Ride N l = some res) : Calls Tryz.prog 31 #[.slice l_p l.length l_c,.func (.func 57) #[] #[]] w (fun e w => e = .returned (.bool res) ∧ Ctx G (Lf) w) := by
 unfold crew_every_crew_Ride at hF
 refine fnIn Tryz.func31 rfl Tryz.ntmps31 rfl fun a hf => zS fun K h => zB hf hc rfl fun b_1 a w hf hc => sp 1 hf rfl fun a hf => zT h ?_
 refine zS fun K h => sp 1 hf rfl fun a hf => zP hf rfl (pMF (us := [pq b_1]) rfl rfl) fun a hf => ?_
 obtain ⟨r,hr,hF⟩ := bnd_some hF
 refine zQ (v := .bool r) hf hc en_59 rfl (fun w hc => (slices_ContainsFunc_Lcrew_Ride_crew_Ride_ok l h_l (hc.pick k0) hr).mono fun e w h => ⟨h.1,(h.2.unpick k0)⟩) fun a w hf hc => sp 2 hf rfl fun a hf => zT h ?_
 refine wp_ret ?_
 obtain rfl := sj hF
 replace hc := hc.drop k0
 exact zO1 Tryz.results31 hf rfl ⟨rfl,hc⟩

def crew_CheckCable (N : Nat) (c_ : crew_Cable) : Option (Int) :=
 cond (decide (30 < ((c_.Rides.length : Nat) : Int)))
 (some 3)
 (Option.bind (cond ((((!(crew_in c_.Car 0 1000)) || (!(crew_in c_.Wide 1 1000))) || (!(crew_in c_.Sag 1 10000))) || (!(crew_in c_.Most 0 10000000))) (some true) (Option.bind (crew_every_crew_Ride N c_.Rides) fun r =>
 some (!r))) fun t_1 =>
 cond t_1
 (some 120)
 (some 0))
theorem crew_CheckCable_ok {N : Nat} {G : Pers} {Lf : List Ent} {w : World} (c_ : crew_Cable) {c__Rides_p : Option Addr} {c__Rides_c : Nat} (h_c__Rides : Rd G 4 c__Rides_p c__Rides_c (c_.Rides.map enc_crew_Ride)) (hc : Ctx G (Lf) w) {res : Int} (hF : crew_CheckCable N c_ = some res) : Calls Tryz.prog 29 #[.agg #[i6 c_.Car,i6 c_.Wide,i6 c_.Sag,i6 c_.Most,.slice c__Rides_p c_.Rides.length c__Rides_c]] w (fun e w => e = .returned (i6 res) ∧ Ctx G (Lf) w) := by
 unfold crew_CheckCable at hF
 refine fnIn Tryz.func29 rfl Tryz.ntmps29 rfl fun a hf => zS fun K h => zB hf hc rfl fun b_1 a w hf hc => sp 1 hf rfl fun a hf => zT h ?_
 refine wp_seq_k fun K2 h2 => wp_block ?_
 refine zS fun K h => zP hf rfl (pFA fa_27_4 rfl) fun a hf => zL hf hc sc_25 m0 rfl fun a w hf hc => zP hf rfl (pLenS Tryz.underlying25 rfl) fun a hf => sp 2 hf rfl fun a hf => zT h ?_
 refine zI hf rfl hF ?_ ?_ <;> clear hF <;> intro hF
 ·refine zS fun K h => sp 1 hf rfl fun a hf => zT h ?_
  refine wp_ret ?_
  refine xBlkR ?_
  refine xThenR ?_
  obtain rfl := sj hF
  replace hc := hc.drop k0
  exact zO1 Tryz.results29 hf rfl ⟨rfl,hc⟩
 ·refine zS fun K h => zP hf rfl (pFA fa_27_0 rfl) fun a hf => zL hf hc sc_3 m0 rfl fun a w hf hc => zQ (v := .bool (crew_in c_.Car 0 1000)) hf hc en_56 rfl (fun w hc => crew_in_ok c_.Car 0 1000 hc rfl) fun a w hf hc => sp 2 hf rfl fun a hf => stCc 5 (fun a => Has 37 a [(1,pq b_1),(9,pq b_1),(10,i6 c_.Car),(11,.bool (crew_in c_.Car 0 1000)),(12,.bool (!(crew_in c_.Car 0 1000))),(13,.bool (!(crew_in c_.Car 0 1000))),(18,.bool ((!(crew_in c_.Car 0 1000)) || (!(crew_in c_.Wide 1 1000))))]) hc ?_ ?_
  ·cases hb : (!(crew_in c_.Car 0 1000))
   ·rw [hb] at hf
    refine zP hf rfl (pFA fa_27_1 rfl) fun a hf => zL hf hc sc_3 m0 rfl fun a w hf hc => zQ (v := .bool (crew_in c_.Wide 1 1000)) hf hc en_56 rfl (fun w hc => crew_in_ok c_.Wide 1 1000 hc rfl) fun a w hf hc => sp 2 hf rfl fun a hf => cNil ⟨hf.kp rfl,hc⟩
   ·rw [hb] at hf
    refine stS hf rfl rfl rfl fun a hf => stS hf rfl rfl rfl fun a hf => stS hf rfl rfl rfl fun a hf => stS hf rfl rfl rfl fun a hf => sp 1 hf rfl fun a hf => cNil ⟨hf.kp rfl,hc⟩
  intro a w ⟨hf,hc⟩
  refine sp 1 hf rfl fun a hf => stCc 5 (fun a => Has 37 a [(1,pq b_1),(9,pq b_1),(10,i6 c_.Car),(11,.bool (crew_in c_.Car 0 1000)),(12,.bool (!(crew_in c_.Car 0 1000))),(13,.bool (!(crew_in c_.Car 0 1000))),(18,.bool ((!(crew_in c_.Car 0 1000)) || (!(crew_in c_.Wide 1 1000)))),(19,.bool ((!(crew_in c_.Car 0 1000)) || (!(crew_in c_.Wide 1 1000)))),(24,.bool (((!(crew_in c_.Car 0 1000)) || (!(crew_in c_.Wide 1 1000))) || (!(crew_in c_.Sag 1 10000))))]) hc ?_ ?_
  ·cases hb : ((!(crew_in c_.Car 0 1000)) || (!(crew_in c_.Wide 1 1000)))
   ·rw [hb] at hf
    refine zP hf rfl (pFA fa_27_2 rfl) fun a hf => zL hf hc sc_3 m0 rfl fun a w hf hc => zQ (v := .bool (crew_in c_.Sag 1 10000)) hf hc en_56 rfl (fun w hc => crew_in_ok c_.Sag 1 10000 hc rfl) fun a w hf hc => sp 2 hf rfl fun a hf => cNil ⟨hf.kp rfl,hc⟩
   ·rw [hb] at hf
    refine stS hf rfl rfl rfl fun a hf => stS hf rfl rfl rfl fun a hf => stS hf rfl rfl rfl fun a hf => stS hf rfl rfl rfl fun a hf => sp 1 hf rfl fun a hf => cNil ⟨hf.kp rfl,hc⟩
  intro a w ⟨hf,hc⟩
  refine sp 1 hf rfl fun a hf => stCc 5 (fun a => Has 37 a [(1,pq b_1),(9,pq b_1),(10,i6 c_.Car),(11,.bool (crew_in c_.Car 0 1000)),(12,.bool (!(crew_in c_.Car 0 1000))),(13,.bool (!(crew_in c_.Car 0 1000))),(18,.bool ((!(crew_in c_.Car 0 1000)) || (!(crew_in c_.Wide 1 1000)))),(19,.bool ((!(crew_in c_.Car 0 1000)) || (!(crew_in c_.Wide 1 1000)))),(24,.bool (((!(crew_in c_.Car 0 1000)) || (!(crew_in c_.Wide 1 1000))) || (!(crew_in c_.Sag 1 10000)))),(25,.bool (((!(crew_in c_.Car 0 1000)) || (!(crew_in c_.Wide 1 1000))) || (!(crew_in c_.Sag 1 10000)))),(30,.bool ((((!(crew_in c_.Car 0 1000)) || (!(crew_in c_.Wide 1 1000))) || (!(crew_in c_.Sag 1 10000))) || (!(crew_in c_.Most 0 10000000))))]) hc ?_ ?_
  ·cases hb : (((!(crew_in c_.Car 0 1000)) || (!(crew_in c_.Wide 1 1000))) || (!(crew_in c_.Sag 1 10000)))
   ·rw [hb] at hf
    refine zP hf rfl (pFA fa_27_3 rfl) fun a hf => zL hf hc sc_3 m0 rfl fun a w hf hc => zQ (v := .bool (crew_in c_.Most 0 10000000)) hf hc en_56 rfl (fun w hc => crew_in_ok c_.Most 0 10000000 hc rfl) fun a w hf hc => sp 2 hf rfl fun a hf => cNil ⟨hf.kp rfl,hc⟩
   ·rw [hb] at hf
    refine stS hf rfl rfl rfl fun a hf => stS hf rfl rfl rfl fun a hf => stS hf rfl rfl rfl fun a hf => stS hf rfl rfl rfl fun a hf => sp 1 hf rfl fun a hf => cNil ⟨hf.kp rfl,hc⟩
  intro a w ⟨hf,hc⟩
  refine sp 1 hf rfl fun a hf => ?_
  obtain ⟨t_1,ht_1,hF⟩ := bnd_some hF
  refine stCc 5 (fun a => Has 37 a [(1,pq b_1),(9,pq b_1),(10,i6 c_.Car),(11,.bool (crew_in c_.Car 0 1000)),(12,.bool (!(crew_in c_.Car 0 1000))),(13,.bool (!(crew_in c_.Car 0 1000))),(18,.bool ((!(crew_in c_.Car 0 1000)) || (!(crew_in c_.Wide 1 1000)))),(19,.bool ((!(crew_in c_.Car 0 1000)) || (!(crew_in c_.Wide 1 1000)))),(24,.bool (((!(crew_in c_.Car 0 1000)) || (!(crew_in c_.Wide 1 1000))) || (!(crew_in c_.Sag 1 10000)))),(25,.bool (((!(crew_in c_.Car 0 1000)) || (!(crew_in c_.Wide 1 1000))) || (!(crew_in c_.Sag 1 10000)))),(30,.bool ((((!(crew_in c_.Car 0 1000)) || (!(crew_in c_.Wide 1 1000))) || (!(crew_in c_.Sag 1 10000))) || (!(crew_in c_.Most 0 10000000)))),(31,.bool ((((!(crew_in c_.Car 0 1000)) || (!(crew_in c_.Wide 1 1000))) || (!(crew_in c_.Sag 1 10000))) || (!(crew_in c_.Most 0 10000000)))),(36,.bool t_1)]) hc ?_ ?_
  ·cases hb : ((((!(crew_in c_.Car 0 1000)) || (!(crew_in c_.Wide 1 1000))) || (!(crew_in c_.Sag 1 10000))) || (!(crew_in c_.Most 0 10000000)))
   ·rw [hb] at hf
    have hF := condF hb ht_1
    refine zP hf rfl (pFA fa_27_4 rfl) fun a hf => zL hf hc sc_25 m0 rfl fun a w hf hc => ?_
    obtain ⟨r,hr,hF⟩ := bnd_some hF
    refine zQ (v := .bool r) hf hc en_31 rfl (fun w hc => crew_every_crew_Ride_ok c_.Rides h_c__Rides hc hr) fun a w hf hc => sp 2 hf rfl fun a hf => ?_
    obtain rfl := sj hF
    exact cNil ⟨hf.kp rfl,hc⟩
   ·rw [hb] at hf
    have hF := condT hb ht_1
    obtain rfl := sj hF
    refine stS hf rfl rfl rfl fun a hf => stS hf rfl rfl rfl fun a hf => stS hf rfl rfl rfl fun a hf => stS hf rfl rfl rfl fun a hf => sp 1 hf rfl fun a hf => cNil ⟨hf.kp rfl,hc⟩
  intro a w ⟨hf,hc⟩
  refine sp 1 hf rfl fun a hf => zT h ?_
  refine zI hf rfl hF ?_ ?_ <;> clear hF <;> intro hF
  ·refine zS fun K h => sp 1 hf rfl fun a hf => zT h ?_
   refine wp_ret ?_
   refine xBlkR ?_
   refine xThenR ?_
   obtain rfl := sj hF
   replace hc := hc.drop k0
   exact zO1 Tryz.results29 hf rfl ⟨rfl,hc⟩
  ·refine wp_skip ?_
   refine h2 _ _ ?_
   refine zS fun K h => sp 1 hf rfl fun a hf => zT h ?_
   refine wp_ret ?_
   obtain rfl := sj hF
   replace hc := hc.drop k0
   exact zO1 Tryz.results29 hf rfl ⟨rfl,hc⟩

def crew_Cable_beyond (c_ : crew_Cable) (load : Int) : Bool :=
 (decide ((W (c_.Most * c_.Sag)) < (W ((W (load * c_.Wide)) * 25))))
theorem crew_Cable_beyond_ok {G : Pers} {Lf : List Ent} {w : World} (c_ : crew_Cable) (load : Int) {c__Rides_p : Option Addr} {c__Rides_c : Nat} (h_c__Rides : Rd G 4 c__Rides_p c__Rides_c (c_.Rides.map enc_crew_Ride)) (hc : Ctx G (Lf) w) {res : Bool} (hF : crew_Cable_beyond c_ load = res) : Calls Tryz.prog 30 #[.agg #[i6 c_.Car,i6 c_.Wide,i6 c_.Sag,i6 c_.Most,.slice c__Rides_p c_.Rides.length c__Rides_c],i6 load] w (fun e w => e = .returned (.bool res) ∧ Ctx G (Lf) w) := by
 unfold crew_Cable_beyond at hF
 refine fnIn Tryz.func30 rfl Tryz.ntmps30 rfl fun a hf => zS fun K h => zB hf hc rfl fun b_1 a w hf hc => sp 1 hf rfl fun a hf => zT h ?_
 refine zS fun K h => sp 1 hf rfl fun a hf => zP hf rfl (pFA fa_27_1 rfl) fun a hf => zL hf hc sc_3 m0 rfl fun a w hf hc => sp 2 hf rfl fun a hf => zP hf rfl (pFA fa_27_3 rfl) fun a hf => zL hf hc sc_3 m0 rfl fun a w hf hc => zP hf rfl (pFA fa_27_2 rfl) fun a hf => zL hf hc sc_3 m0 rfl fun a w hf hc => sp 3 hf rfl fun a hf => zT h ?_
 refine wp_ret ?_
 obtain rfl := hF
 replace hc := hc.drop k0
 exact zO1 Tryz.results30 hf rfl ⟨rfl,hc⟩

def crew_Queue_1 (r : crew_Ride) (x : crew_Cable) : Bool :=
 (!(crew_Cable_beyond (⟨x.Car,x.Wide,x.Sag,x.Most,x.Rides⟩ : crew_Cable) (W (x.Car + r.Weight.Hi))))
theorem crew_Queue_1_ok {G : Pers} {Lf : List Ent} {w : World} (r : crew_Ride) (x : crew_Cable) {b_ : Nat} {x_Rides_p : Option Addr} {x_Rides_c : Nat} (h_x_Rides : Rd G 4 x_Rides_p x_Rides_c (x.Rides.map enc_crew_Ride)) (hc : Ctx G (.box b_ [i6 x.Car,i6 x.Wide,i6 x.Sag,i6 x.Most,.slice x_Rides_p x.Rides.length x_Rides_c] 27::Lf) w) {res : Bool} (hF : crew_Queue_1 r x = res) : Calls Tryz.prog 32 #[.agg #[i6 r.From,i6 r.Long,i6 r.Weight.Lo,i6 r.Weight.Hi],pq b_] w (fun e w => e = .returned (.bool res) ∧ Ctx G (.box b_ [i6 x.Car,i6 x.Wide,i6 x.Sag,i6 x.Most,.slice x_Rides_p x.Rides.length x_Rides_c] 27::Lf) w) := by
 unfold crew_Queue_1 at hF
 refine fnIn Tryz.func32 rfl Tryz.ntmps32 rfl fun a hf => zS fun K h => zB hf hc rfl fun b_1 a w hf hc => sp 1 hf rfl fun a hf => zT h ?_
 refine zS fun K h => zN hf hc ag_27 m1 rfl fun a w hf hc => zP hf rfl (pFA fa_27_0 rfl) fun a hf => zL hf hc sc_3 m1 rfl fun a w hf hc => zP hf rfl (pFA fa_45_2 rfl) fun a hf => zP hf rfl (pFA fa_43_1 rfl) fun a hf => zL hf hc sc_3 m0 rfl fun a w hf hc => sp 1 hf rfl fun a hf => zQ (v := .bool (crew_Cable_beyond (⟨x.Car,x.Wide,x.Sag,x.Most,x.Rides⟩ : crew_Cable) (W (x.Car + r.Weight.Hi)))) hf hc en_30 rfl (fun w hc => crew_Cable_beyond_ok (⟨x.Car,x.Wide,x.Sag,x.Most,x.Rides⟩ : crew_Cable) (W (x.Car + r.Weight.Hi)) h_x_Rides hc rfl) fun a w hf hc => sp 2 hf rfl fun a hf => zT h ?_
 refine wp_ret ?_
 obtain rfl := hF
 replace hc := hc.drop k0
 exact zO1 Tryz.results32 hf rfl ⟨rfl,hc⟩

def crew_every_crew_Ride_1_s2 (x : crew_Ride) (x_1 : crew_Cable) : Bool :=
 (!(crew_Queue_1 (⟨x.From,x.Long,x.Weight⟩ : crew_Ride) x_1))
theorem crew_every_crew_Ride_1_s2_ok {G : Pers} {Lf : List Ent} {w : World} (x : crew_Ride) (x_1 : crew_Cable) {b_ : Nat} {b__1 : Nat} {x_1_Rides_p : Option Addr} {x_1_Rides_c : Nat} (h_x_1_Rides : Rd G 4 x_1_Rides_p x_1_Rides_c (x_1.Rides.map enc_crew_Ride)) (hc : Ctx G (.box b_ [.func (.func 32) #[] #[pq b__1]] 79::.box b__1 [i6 x_1.Car,i6 x_1.Wide,i6 x_1.Sag,i6 x_1.Most,.slice x_1_Rides_p x_1.Rides.length x_1_Rides_c] 27::Lf) w) {res : Bool} (hF : crew_every_crew_Ride_1_s2 x x_1 = res) : Calls Tryz.prog 60 #[.agg #[i6 x.From,i6 x.Long,i6 x.Weight.Lo,i6 x.Weight.Hi],pq b_] w (fun e w => e = .returned (.bool res) ∧ Ctx G (.box b_ [.func (.func 32) #[] #[pq b__1]] 79::.box b__1 [i6 x_1.Car,i6 x_1.Wide,i6 x_1.Sag,i6 x_1.Most,.slice x_1_Rides_p x_1.Rides.length x_1_Rides_c] 27::Lf) w) := by
 unfold crew_every_crew_Ride_1_s2 at hF
 refine fnIn Tryz.func60 rfl Tryz.ntmps60 rfl fun a hf => zS fun K h => zB hf hc rfl fun b_1 a w hf hc => sp 1 hf rfl fun a hf => zT h ?_
 refine zS fun K h => zL hf hc sc_79 m1 rfl fun a w hf hc => zN hf hc ag_45 m0 rfl fun a w hf hc => zQ (v := .bool (crew_Queue_1 (⟨x.From,x.Long,x.Weight⟩ : crew_Ride) x_1)) hf hc en_32 rfl (fun w hc => (crew_Queue_1_ok (⟨x.From,x.Long,x.Weight⟩ : crew_Ride) x_1 h_x_1_Rides (hc.pick k2) rfl).mono fun e w h => ⟨h.1,(h.2.unpick k2)⟩) fun a w hf hc => sp 2 hf rfl fun a hf => zT h ?_
 refine wp_ret ?_
 obtain rfl := hF
 replace hc := hc.drop k0
 exact zO1 Tryz.results60 hf rfl ⟨rfl,hc⟩

def slices_IndexFunc_Lcrew_Ride_crew_Ride_s2_b4 (N : Nat) (s_ : List crew_Ride) (f_ : crew_Cable) (x : Int) : Option (Step (Int) (Int)) :=
 cond (decide (x < ((s_.length : Nat) : Int)))
 (Option.bind (getI s_ x) fun e_1 =>
 cond (crew_every_crew_Ride_1_s2 e_1 f_)
 (some (.ret x))
 (some (.cont (W (x + 1)))))
 (some (.brk x))
def slices_IndexFunc_Lcrew_Ride_crew_Ride_s2 (N : Nat) (s_ : List crew_Ride) (f_ : crew_Cable) : Option (Int) :=
 Option.bind (loopO (fun s4 => slices_IndexFunc_Lcrew_Ride_crew_Ride_s2_b4 N s_ f_ s4) N 0) fun x4 =>
 exK x4 (fun s4 => some (-1)) some
theorem slices_IndexFunc_Lcrew_Ride_crew_Ride_s2_ok {N : Nat} {G : Pers} {Lf : List Ent} {w : World} (s_ : List crew_Ride) (f_ : crew_Cable) {s__p : Option Addr} {s__c : Nat} {b_ : Nat} {b__1 : Nat} {f__Rides_p : Option Addr} {f__Rides_c : Nat} (h_s_ : Rd G 4 s__p s__c (s_.map enc_crew_Ride)) (h_f__Rides : Rd G 4 f__Rides_p f__Rides_c (f_.Rides.map enc_crew_Ride)) (hc : Ctx G (.box b_ [.func (.func 32) #[] #[pq b__1]] 79::.box b__1 [i6 f_.Car,i6 f_.Wide,i6 f_.Sag,i6 f_.Most,.slice f__Rides_p f_.Rides.length f__Rides_c] 27::Lf) w) {res : Int} (hF : slices_IndexFunc_Lcrew_Ride_crew_Ride_s2 N s_ f_ = some res) : Calls Tryz.prog 78 #[.slice s__p s_.length s__c,.func (.func 60) #[] #[pq b_]] w (fun e w => e = .returned (i6 res) ∧ Ctx G (.box b_ [.func (.func 32) #[] #[pq b__1]] 79::.box b__1 [i6 f_.Car,i6 f_.Wide,i6 f_.Sag,i6 f_.Most,.slice f__Rides_p f_.Rides.length f__Rides_c] 27::Lf) w) := by
 unfold slices_IndexFunc_Lcrew_Ride_crew_Ride_s2 at hF
 refine fnIn Tryz.func78 rfl Tryz.ntmps78 rfl fun a hf => zS fun K h => sp 1 hf rfl fun a hf => zT h ?_
 refine wp_seq_k fun K2 h2 => zS fun K h => sp 1 hf rfl fun a hf => zP hf rfl (pLenS Tryz.underlying25 rfl) fun a hf => sp 1 hf rfl fun a hf => zT h ?_
 refine wp_block ?_
 obtain ⟨x4,hx4,hF⟩ := bnd_some hF
 let S4 : Int → Act → World → Prop := (fun (zz : Int) a w => Has 19 a [(0,.slice s__p s_.length s__c),(1,.func (.func 60) #[] #[pq b_]),(7,i6 ((s_.length : Nat) : Int)),(8,i6 zz)] ∧ Ctx G (.box b_ [.func (.func 32) #[] #[pq b__1]] 79::.box b__1 [i6 f_.Car,i6 f_.Wide,i6 f_.Sag,i6 f_.Most,.slice f__Rides_p f_.Rides.length f__Rides_c] 27::Lf) w)
 have hr4 : ∀ (zz : Int) a w,x4 = .go zz → S4 zz a w → K2 a w := by
  rintro x a w rfl ⟨hf,hc⟩
  replace hF := exK_go hF
  refine h2 _ _ ?_
  refine zS fun K h => sp 1 hf rfl fun a hf => zT h ?_
  refine wp_ret ?_
  obtain rfl := sj hF
  exact zO1 Tryz.results78 hf rfl ⟨rfl,hc⟩
 have ho4 : ∀ r,x4 = .out r → r = res := by
  rintro r rfl
  exact sj hF
 refine cLoop N (loopW (S := S4) (x := x4) ?_ N 0 _ _ ⟨hf.kp rfl,hc⟩ hx4)
 clear hF hf hc
 rintro x st4 a w KB4 ⟨hf,hc⟩ hF hfin4 hK4
 unfold slices_IndexFunc_Lcrew_Ride_crew_Ride_s2_b4 at hF
 refine zS fun K h => sp 1 hf rfl fun a hf => zT h ?_
 refine wp_seq_k fun K7 h7 => zI hf rfl hF ?_ ?_ <;> clear hF <;> intro hF
 ·refine wp_skip ?_
  refine h7 _ _ ?_
  refine wp_seq_k fun K8 h8 => wp_block ?_
  refine zS fun K h => sp 2 hf rfl fun a hf => zT h ?_
  refine zS fun K h => sp 3 hf rfl fun a hf => ?_
  obtain ⟨e_1,he_1,hF⟩ := bnd_some hF
  obtain ⟨b_1,o,qa,qp⟩ := h_s_.atm he_1
  refine zP hf rfl (pIA Tryz.underlying25 sz_45 rfl rfl qa) fun a hf => zE hf hc rfl (eLdN (vs := [i6 e_1.From,i6 e_1.Long,i6 e_1.Weight.Lo,i6 e_1.Weight.Hi]) ag_45 rfl rfl (cells_pc qp (n := 4) (o' := 0) rfl)) fun a w hf hc => zQ (v := .bool (crew_every_crew_Ride_1_s2 e_1 f_)) hf hc en_60 rfl (fun w hc => (crew_every_crew_Ride_1_s2_ok e_1 f_ h_f__Rides ((hc.pick k1).pick k1) rfl).mono fun e w h => ⟨h.1,((h.2.unpick k1).unpick k1)⟩) fun a w hf hc => zT h ?_
  refine zI hf rfl hF ?_ ?_ <;> clear hF <;> intro hF
  ·refine zS fun K h => sp 2 hf rfl fun a hf => zT h ?_
   refine wp_ret ?_
   refine xBlkR ?_
   refine xThenR ?_
   refine xThenR ?_
   have he := sj hF
   rw [← he] at hfin4
   replace hF := ho4 _ hfin4
   refine xBlkR ?_
   refine xThenR ?_
   obtain rfl := hF
   exact zO1 Tryz.results78 hf rfl ⟨rfl,hc⟩
  ·refine wp_skip ?_
   refine h8 _ _ ?_
   refine cReg ?_
   refine sp 2 hf rfl fun a hf => cNil ?_
   exact hK4 (W (x + 1)) _ _ (sj hF).symm ⟨hf.kp rfl,hc⟩
 ·refine wp_exit ?_
  refine xThen ?_
  refine xThen ?_
  have he := sj hF
  rw [← he] at hfin4
  refine cHit ?_
  exact hr4 _ _ _ hfin4 ⟨hf.kp rfl,hc⟩

def slices_ContainsFunc_Lcrew_Ride_crew_Ride_s2 (N : Nat) (s_ : List crew_Ride) (f_ : crew_Cable) : Option (Bool) :=
 Option.bind (slices_IndexFunc_Lcrew_Ride_crew_Ride_s2 N s_ f_) fun r =>
 some (decide (0 ≤ r))
theorem slices_ContainsFunc_Lcrew_Ride_crew_Ride_s2_ok {N : Nat} {G : Pers} {Lf : List Ent} {w : World} (s_ : List crew_Ride) (f_ : crew_Cable) {s__p : Option Addr} {s__c : Nat} {b_ : Nat} {b__1 : Nat} {f__Rides_p : Option Addr} {f__Rides_c : Nat} (h_s_ : Rd G 4 s__p s__c (s_.map enc_crew_Ride)) (h_f__Rides : Rd G 4 f__Rides_p f__Rides_c (f_.Rides.map enc_crew_Ride)) (hc : Ctx G (.box b_ [.func (.func 32) #[] #[pq b__1]] 79::.box b__1 [i6 f_.Car,i6 f_.Wide,i6 f_.Sag,i6 f_.Most,.slice f__Rides_p f_.Rides.length f__Rides_c] 27::Lf) w) {res : Bool} (hF : slices_ContainsFunc_Lcrew_Ride_crew_Ride_s2 N s_ f_ = some res) : Calls Tryz.prog 59 #[.slice s__p s_.length s__c,.func (.func 60) #[] #[pq b_]] w (fun e w => e = .returned (.bool res) ∧ Ctx G (.box b_ [.func (.func 32) #[] #[pq b__1]] 79::.box b__1 [i6 f_.Car,i6 f_.Wide,i6 f_.Sag,i6 f_.Most,.slice f__Rides_p f_.Rides.length f__Rides_c] 27::Lf) w) := by
 unfold slices_ContainsFunc_Lcrew_Ride_crew_Ride_s2 at hF
 refine fnIn Tryz.func59 rfl Tryz.ntmps59 rfl fun a hf => zS fun K h => sp 1 hf rfl fun a hf => zT h ?_
 refine zS fun K h => sp 2 hf rfl fun a hf => ?_
 obtain ⟨r,hr,hF⟩ := bnd_some hF
 refine zQ (v := i6 r) hf hc en_78 rfl (fun w hc => (slices_IndexFunc_Lcrew_Ride_crew_Ride_s2_ok s_ f_ h_s_ h_f__Rides ((hc.pick k1).pick k1) hr).mono fun e w h => ⟨h.1,((h.2.unpick k1).unpick k1)⟩) fun a w hf hc => sp 2 hf rfl fun a hf => zT h ?_
 refine wp_ret ?_
 obtain rfl := sj hF
 exact zO1 Tryz.results59 hf rfl ⟨rfl,hc⟩

def crew_every_crew_Ride_s2 (N : Nat) (l : List crew_Ride) (so : crew_Cable) : Option (Bool) :=
 Option.bind (slices_ContainsFunc_Lcrew_Ride_crew_Ride_s2 N l so) fun r =>
 some (!r)
theorem crew_every_crew_Ride_s2_ok {N : Nat} {G : Pers} {Lf : List Ent} {w : World} (l : List crew_Ride) (so : crew_Cable) {l_p : Option Addr} {l_c : Nat} {b_ : Nat} {so_Rides_p : Option Addr} {so_Rides_c : Nat} (h_l : Rd G 4 l_p l_c (l.map enc_crew_Ride)) (h_so_Rides : Rd G 4 so_Rides_p so_Rides_c (so.Rides.map enc_crew_Ride)) (hc : Ctx G (.box b_ [i6 so.Car,i6 so.Wide,i6 so.Sag,i6 so.Most,.slice so_Rides_p so.Rides.length so_Rides_c] 27::Lf) w) {res : Bool} (hF : crew_every_crew_Ride_s2 N l so = some res) : Calls Tryz.prog 31 #[.slice l_p l.length l_c,.func (.func 32) #[] #[pq b_]] w (fun e w => e = .returned (.bool res) ∧ Ctx G (.box b_ [i6 so.Car,i6 so.Wide,i6 so.Sag,i6 so.Most,.slice so_Rides_p so.Rides.length so_Rides_c] 27::Lf) w) := by
 unfold crew_every_crew_Ride_s2 at hF
 refine fnIn Tryz.func31 rfl Tryz.ntmps31 rfl fun a hf => zS fun K h => zB hf hc rfl fun b_1 a w hf hc => sp 1 hf rfl fun a hf => zT h ?_
 refine zS fun K h => sp 1 hf rfl fun a hf => zP hf rfl (pMF (us := [pq b_1]) rfl rfl) fun a hf => ?_
 obtain ⟨r,hr,hF⟩ := bnd_some hF
 refine zQ (v := .bool r) hf hc en_59 rfl (fun w hc => (slices_ContainsFunc_Lcrew_Ride_crew_Ride_s2_ok l so h_l h_so_Rides ((hc.pick k1).pick k1) hr).mono fun e w h => ⟨h.1,((h.2.unpick k1).unpick k1)⟩) fun a w hf hc => sp 2 hf rfl fun a hf => zT h ?_
 refine wp_ret ?_
 obtain rfl := sj hF
 replace hc := hc.drop k0
 exact zO1 Tryz.results31 hf rfl ⟨rfl,hc⟩

def slices_Clone_Lcrew_Ride_crew_Ride (N : Nat) (s_ : List crew_Ride) : Option ((List crew_Ride)) :=
 Option.bind (room (s_).length) fun un =>
 some s_
theorem slices_Clone_Lcrew_Ride_crew_Ride_ok {N : Nat} {G : Pers} {Lf : List Ent} {w : World} (s_ : List crew_Ride) {s__p : Option Addr} {s__c : Nat} (h_s_ : Rd G 4 s__p s__c (s_.map enc_crew_Ride)) (hc : Ctx G (Lf) w) {res : (List crew_Ride)} (hF : slices_Clone_Lcrew_Ride_crew_Ride N s_ = some res) : Calls Tryz.prog 33 #[.slice s__p s_.length s__c] w (fun e w => ∃ (p'1 : Option Addr) (c'1 : Nat),e = .returned (.slice p'1 res.length c'1) ∧ Ctx G (.row p'1 c'1 (res.map enc_crew_Ride) 45 4::Lf) w) := by
 unfold slices_Clone_Lcrew_Ride_crew_Ride at hF
 refine fnIn Tryz.func33 rfl Tryz.ntmps33 rfl fun a hf => zS fun K h => sp 1 hf rfl fun a hf => zT h ?_
 refine wp_seq_k fun K2 h2 => zS fun K h => sp 1 hf rfl fun a hf => zP hf rfl (pEqN Tryz.underlying25 rfl rfl) fun a hf => zT h ?_
 rcases rd_nilq h_s_ with ⟨hp,hx⟩ | hp
 ·rw [hp] at hf
  replace hF : (some ([] : List crew_Ride)) = some res := by
   try rw [hx] at hF
   exact hF
  refine cCondT hf rfl ?_
  refine zS fun K h => sp 1 hf rfl fun a hf => zT h ?_
  refine wp_ret ?_
  refine xThenR ?_
  obtain rfl := sj hF
  replace hc := hc.nilRow 45 4
  exact zO1 Tryz.results33 hf rfl ⟨none,0,rfl,hc⟩
 ·rw [hp] at hf
  refine cCondF hf rfl ?_
  refine wp_skip ?_
  refine h2 _ _ ?_
  refine zS fun K h => stBS (rows := ([] : List crew_Ride).map enc_crew_Ride) (vs := []) hf hc rfl rfl sl_25 rfl trivial rfl rfl fun b_1 a w hf hc => sp 1 hf rfl fun a hf => ?_
  obtain ⟨un,hun,hF⟩ := bnd_some hF
  refine stApm (xs := ([] : List crew_Ride)) (ys := s_) hf hc rfl rfl sl_25 rfl rfl rfl rfl rfl one_enc_crew_Ride (src_rd hc h_s_) (fun _ _ => u0) (by simpa using room_spec hun) fun p_1 c_1 a w hf hc => sp 1 hf rfl fun a hf => zT h ?_
  refine wp_ret ?_
  obtain rfl := sj hF
  exact zO1 Tryz.results33 hf rfl ⟨p_1,c_1,rfl,hc⟩

def crew_high  : Unit :=
 ()
theorem crew_high_ok {G : Pers} {Lf : List Ent} {w : World}    (hc : Ctx G (Lf) w) {res : Unit} (hF : crew_high = res) : Calls Tryz.prog 41 #[] w (fun e w => e = .returned (.agg #[.func (.func 64) #[] #[]]) ∧ Ctx G (Lf) w) := by
 unfold crew_high at hF
 refine fnIn Tryz.func41 rfl Tryz.ntmps41 rfl fun a hf => zS fun K h => zA hf hc zr_83 rfl fun b_1 a w hf hc => zT h ?_
 refine zS fun K h => zP hf rfl (pBuildS (cells := [.func (.func 64) #[] #[]]) bt_83 rfl rfl) fun a hf => zW hf hc sz_83 u0 rfl fun w hc => zT h ?_
 refine wp_ret ?_
 obtain rfl := hF
 exact fnOut1 (by simp) rfl Tryz.results41 hf hc (rv_cellN (vs := [.func (.func 64) #[] #[]]) ag_83 rfl rfl (cells_box (n := 1) m0 rfl)) ⟨rfl,(hc.drop k0)⟩

def crew_Ride_on (r : crew_Ride) (n : Int) : Bool :=
 ((decide (r.From ≤ n)) && (decide ((W (n - r.From)) < r.Long)))
theorem crew_Ride_on_ok {G : Pers} {Lf : List Ent} {w : World} (r : crew_Ride) (n : Int)   (hc : Ctx G (Lf) w) {res : Bool} (hF : crew_Ride_on r n = res) : Calls Tryz.prog 35 #[.agg #[i6 r.From,i6 r.Long,i6 r.Weight.Lo,i6 r.Weight.Hi],i6 n] w (fun e w => e = .returned (.bool res) ∧ Ctx G (Lf) w) := by
 unfold crew_Ride_on at hF
 refine fnIn Tryz.func35 rfl Tryz.ntmps35 rfl fun a hf => zS fun K h => zB hf hc rfl fun b_1 a w hf hc => sp 1 hf rfl fun a hf => zT h ?_
 refine zS fun K h => sp 1 hf rfl fun a hf => zP hf rfl (pFA fa_45_0 rfl) fun a hf => zL hf hc sc_3 m0 rfl fun a w hf hc => sp 2 hf rfl fun a hf => stCc 8 (fun a => Has 18 a [(1,i6 n),(2,pq b_1),(4,.bool false),(5,i6 n),(6,pq b_1),(7,i6 r.From),(8,.bool (decide (r.From ≤ n))),(9,.bool (decide (r.From ≤ n))),(17,.bool ((decide (r.From ≤ n)) && (decide ((W (n - r.From)) < r.Long))))]) hc ?_ ?_
 ·cases hb : (decide (r.From ≤ n))
  ·rw [hb] at hf
   refine stS hf rfl rfl rfl fun a hf => stS hf rfl rfl rfl fun a hf => stS hf rfl rfl rfl fun a hf => stS hf rfl rfl rfl fun a hf => stS hf rfl rfl rfl fun a hf => stS hf rfl rfl rfl fun a hf => stS hf rfl rfl rfl fun a hf => sp 1 hf rfl fun a hf => cNil ⟨hf.kp rfl,hc⟩
  ·rw [hb] at hf
   refine sp 1 hf rfl fun a hf => zP hf rfl (pFA fa_45_0 rfl) fun a hf => zL hf hc sc_3 m0 rfl fun a w hf hc => sp 1 hf rfl fun a hf => zP hf rfl (pFA fa_45_1 rfl) fun a hf => zL hf hc sc_3 m0 rfl fun a w hf hc => sp 2 hf rfl fun a hf => cNil ⟨hf.kp rfl,hc⟩
 intro a w ⟨hf,hc⟩
 refine sp 1 hf rfl fun a hf => zT h ?_
 refine wp_ret ?_
 obtain rfl := hF
 replace hc := hc.drop k0
 exact zO1 Tryz.results35 hf rfl ⟨rfl,hc⟩

def crew_high_1 (s_ : api_Span) : Int :=
 s_.Hi
theorem crew_high_1_ok {G : Pers} {Lf : List Ent} {w : World} (s_ : api_Span)   (hc : Ctx G (Lf) w) {res : Int} (hF : crew_high_1 s_ = res) : Calls Tryz.prog 64 #[.agg #[i6 s_.Lo,i6 s_.Hi]] w (fun e w => e = .returned (i6 res) ∧ Ctx G (Lf) w) := by
 unfold crew_high_1 at hF
 refine fnIn Tryz.func64 rfl Tryz.ntmps64 rfl fun a hf => zS fun K h => zB hf hc rfl fun b_1 a w hf hc => sp 1 hf rfl fun a hf => zT h ?_
 refine zS fun K h => zP hf rfl (pFA fa_43_1 rfl) fun a hf => zL hf hc sc_3 m0 rfl fun a w hf hc => sp 1 hf rfl fun a hf => zT h ?_
 refine wp_ret ?_
 obtain rfl := hF
 replace hc := hc.drop k0
 exact zO1 Tryz.results64 hf rfl ⟨rfl,hc⟩

def crew_sum_b5 (N : Nat) (l : List Int) (out : Int) (x : Int) : Option (Step (Int × Int) (Int)) :=
 cond (decide (x < ((l.length : Nat) : Int)))
 (Option.bind (getI l x) fun e_1 =>
 some (.cont (W (out + e_1),W (x + 1))))
 (some (.brk (out,x)))
def crew_sum (N : Nat) (l : List Int) : Option (Int) :=
 Option.bind (loopO (fun s5 => crew_sum_b5 N l s5.1 s5.2) N (0,0)) fun x5 =>
 exK x5 (fun s5 => some s5.1) some
theorem crew_sum_ok {N : Nat} {G : Pers} {Lf : List Ent} {w : World} (l : List Int) {l_p : Option Addr} {l_c : Nat} (h_l : Rd G 1 l_p l_c (l.map encI_i64)) (hc : Ctx G (Lf) w) {res : Int} (hF : crew_sum N l = some res) : Calls Tryz.prog 63 #[.slice l_p l.length l_c] w (fun e w => e = .returned (i6 res) ∧ Ctx G (Lf) w) := by
 unfold crew_sum at hF
 refine fnIn Tryz.func63 rfl Tryz.ntmps63 rfl fun a hf => zS fun K h => sp 1 hf rfl fun a hf => zT h ?_
 refine zS fun K h => sp 1 hf rfl fun a hf => zT h ?_
 refine wp_seq_k fun K3 h3 => zS fun K h => sp 1 hf rfl fun a hf => zP hf rfl (pLenS Tryz.underlying35 rfl) fun a hf => sp 1 hf rfl fun a hf => zT h ?_
 refine wp_block ?_
 obtain ⟨x5,hx5,hF⟩ := bnd_some hF
 let S5 : (Int × Int) → Act → World → Prop := (fun (zz : Int × Int) a w => Has 17 a [(3,i6 zz.1),(6,.slice l_p l.length l_c),(7,i6 ((l.length : Nat) : Int)),(8,i6 zz.2)] ∧ Ctx G (Lf) w)
 have hr5 : ∀ (zz : Int × Int) a w,x5 = .go zz → S5 zz a w → K3 a w := by
  rintro ⟨out,x⟩ a w rfl ⟨hf,hc⟩
  replace hF := exK_go hF
  refine h3 _ _ ?_
  refine zS fun K h => sp 2 hf rfl fun a hf => zT h ?_
  refine wp_ret ?_
  obtain rfl := sj hF
  exact zO1 Tryz.results63 hf rfl ⟨rfl,hc⟩
 have ho5 : ∀ r,x5 = .out r → r = res := by
  rintro r rfl
  exact sj hF
 refine cLoop N (loopW (S := S5) (x := x5) ?_ N (0,0) _ _ ⟨hf.kp rfl,hc⟩ hx5)
 clear hF hf hc
 rintro ⟨out,x⟩ st5 a w KB5 ⟨hf,hc⟩ hF hfin5 hK5
 unfold crew_sum_b5 at hF
 refine zS fun K h => sp 1 hf rfl fun a hf => zT h ?_
 refine wp_seq_k fun K8 h8 => zI hf rfl hF ?_ ?_ <;> clear hF <;> intro hF
 ·refine wp_skip ?_
  refine h8 _ _ ?_
  refine wp_seq_k fun K9 h9 => wp_block ?_
  refine zS fun K h => ?_
  obtain ⟨e_1,he_1,hF⟩ := bnd_some hF
  obtain ⟨b_1,o,qa,qp⟩ := h_l.atm he_1
  refine zP hf rfl (pIA Tryz.underlying35 sz_3 rfl rfl qa) fun a hf => zE hf hc rfl (eLd1 sc_3 rfl (cell_pc (j := 0) qp rfl)) fun a w hf hc => sp 1 hf rfl fun a hf => zT h ?_
  refine cReg ?_
  refine sp 4 hf rfl fun a hf => cNil ?_
  refine h9 _ _ ?_
  refine cReg ?_
  refine sp 2 hf rfl fun a hf => cNil ?_
  exact hK5 (W (out + e_1),W (x + 1)) _ _ (sj hF).symm ⟨hf.kp rfl,hc⟩
 ·refine wp_exit ?_
  refine xThen ?_
  refine xThen ?_
  have he := sj hF
  rw [← he] at hfin5
  refine cHit ?_
  exact hr5 _ _ _ hfin5 ⟨hf.kp rfl,hc⟩

end Go.Nilo
