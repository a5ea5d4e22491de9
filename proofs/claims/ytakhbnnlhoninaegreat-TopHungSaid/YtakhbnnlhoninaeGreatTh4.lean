/-
 What functions of the Go text compute, as plain functions, and that they do, part 4 of 4. Conditions: what each theorem names.
-/
import Derived.Test.YtakhbnnlhoninaeGreatTh3
import Derived.Test.YtakhbnnlhoninaeGreatProg
set_option linter.unusedVariables false
set_option linter.unusedSimpArgs false
set_option maxRecDepth 100000
set_option maxHeartbeats 4000000
namespace Go.Nilo
open Go.Proofs


def top_TopHung_b19 (N : Nat) (x_7 : List crew_Ride) (x_8 : List crew_Ride) (r_7 : (List Int) × Int) (r_8 : (List Int) × Int) (end_ : Int) (late : Int) (x_9 : Int) (x_10 : List crew_Ride) : Option (Step (Int × Int × Int × (List crew_Ride)) (Bool)) :=
 cond (decide (x_9 < ((r_7.1.length : Nat) : Int)))
 (Option.bind (getI r_7.1 x_9) fun e_1 =>
 Option.bind (getI r_8.1 x_9) fun e_2 =>
 Option.bind (cond (decide (e_2 < e_1)) (some true) (Option.bind (getI r_7.1 x_9) fun e_3 =>
 Option.bind (getI x_7 x_9) fun e_4 =>
 some (decide (e_3 < e_4.From)))) fun t_2 =>
 Option.bind (cond t_2 (some true) (Option.bind (getI r_7.1 x_9) fun e_5 =>
 some (decide (10000 < e_5)))) fun t_3 =>
 cond t_3
 (some (.ret false))
 (Option.bind (getI r_7.1 x_9) fun e_6 =>
 Option.bind (getI x_10 x_9) fun e_7 =>
 Option.bind (getI r_7.1 x_9) fun e_8 =>
 Option.bind (getI x_7 x_9) fun e_9 =>
 Option.bind (getI r_8.1 x_9) fun e_10 =>
 Option.bind (getI x_8 x_9) fun e_11 =>
 some (.cont (max end_ (W (e_8 + e_9.Long)),max late (W (e_10 + e_11.Long)),W (x_9 + 1),(x_10.set x_9.toNat (⟨e_6,e_7.Long,e_7.Weight⟩ : crew_Ride))))))
 (some (.brk (end_,late,x_9,x_10)))
def top_TopHung_j44 (N : Nat) (cables : List Int) (x : Int) (x_3 : Int) (x_4 : Int) (x_7 : List crew_Ride) (x_8 : List crew_Ride) (r_12 : gauge_Site × Int × Int) (r_13 : (List Int) × Int × Int) (m : Int) (x_12 : Int) (x_13 : Int) : Option (Step (Int × Int × Int × Int × Int × Int × Int × (List crew_Ride) × (List crew_Ride)) (Bool)) :=
 Option.bind (kit_Stream_Within N (⟨cables,x_3,x_4⟩ : kit_Stream) 40 110) fun r_15 =>
 Option.bind (kit_Stream_Next N (⟨cables,r_15.2.1,r_15.2.2⟩ : kit_Stream) 90) fun r_16 =>
 Option.bind (kit_Stream_Next N (⟨cables,r_16.2.1,r_16.2.2⟩ : kit_Stream) 12) fun r_17 =>
 Option.bind (room ((x_7 ++ [(⟨r_16.1,W (r_13.2.1 + 1),(⟨r_15.1,W (r_15.1 + r_17.1)⟩ : api_Span)⟩ : crew_Ride)])).length) fun un_1 =>
 Option.bind (room ((x_8 ++ [(⟨r_16.1,W (m + 1),(⟨r_15.1,W (r_15.1 + r_17.1)⟩ : api_Span)⟩ : crew_Ride)])).length) fun un_2 =>
 some (.cont (W (x + 1),r_12.2.1,r_12.2.2,r_17.2.1,r_17.2.2,x_12,x_13,(x_7 ++ [(⟨r_16.1,W (r_13.2.1 + 1),(⟨r_15.1,W (r_15.1 + r_17.1)⟩ : api_Span)⟩ : crew_Ride)]),(x_8 ++ [(⟨r_16.1,W (m + 1),(⟨r_15.1,W (r_15.1 + r_17.1)⟩ : api_Span)⟩ : crew_Ride)])))
def top_TopHung_b39 (N : Nat) (r_12 : gauge_Site × Int × Int) (all : List Int) (x_11 : Int) : Option (Step ((List Int) × Int) (Step (Int × Int × Int × Int × Int × Int × Int × (List crew_Ride) × (List crew_Ride)) (Bool))) :=
 cond (decide (x_11 < ((r_12.1.Points.length : Nat) : Int)))
 (Option.bind (room ((all ++ [W (x_11 + 1)])).length) fun un_3 =>
 some (.cont ((all ++ [W (x_11 + 1)]),W (x_11 + 1))))
 (some (.brk (all,x_11)))
def top_TopHung_b9 (N : Nat) (numbers : List Int) (cables : List Int) (dearer : List Int) (r_6 : Int × Int × Int) (x : Int) (x_1 : Int) (x_2 : Int) (x_3 : Int) (x_4 : Int) (x_5 : Int) (x_6 : Int) (x_7 : List crew_Ride) (x_8 : List crew_Ride) : Option (Step (Int × Int × Int × Int × Int × Int × Int × (List crew_Ride) × (List crew_Ride)) (Bool)) :=
 cond (decide (x < r_6.1))
 (Option.bind (law03_Sited N (⟨numbers,x_1,x_2⟩ : kit_Stream) 8) fun r_12 =>
 Option.bind (gauge_Plan N (⟨r_12.1.Left,r_12.1.Right,50,100,r_12.1.Points⟩ : gauge_Site)) fun r_13 =>
 Option.bind (loopO (fun s39 => top_TopHung_b39 N r_12 s39.1 s39.2) N (([] : List Int),0)) fun x39 =>
 exK x39 (fun s39 => Option.bind (gauge_Cost N (⟨r_12.1.Left,r_12.1.Right,50,100,r_12.1.Points⟩ : gauge_Site) s39.1) fun r_14 =>
 cond ((((r_13.2.2 != 0) || (r_14.2 != 0)) || (decide (r_13.2.1 < 0))) || (decide (r_14.1 < r_13.2.1)))
 (some (.ret false))
 (Option.bind (kit_Stream_Next N (⟨dearer,x_5,x_6⟩ : kit_Stream) 2) fun r_18 =>
 cond (r_18.1 == 0)
 (top_TopHung_j44 N cables x x_3 x_4 x_7 x_8 r_12 r_13 r_13.2.1 r_18.2.1 r_18.2.2)
 (top_TopHung_j44 N cables x x_3 x_4 x_7 x_8 r_12 r_13 r_14.1 r_18.2.1 r_18.2.2))) some)
 (some (.brk (x,x_1,x_2,x_3,x_4,x_5,x_6,x_7,x_8)))
def top_TopHung (N : Nat) (numbers : List Int) (cables : List Int) (dearer : List Int) : Option (Bool) :=
 Option.bind (kit_New N numbers) fun r =>
 Option.bind (kit_New N cables) fun r_1 =>
 Option.bind (kit_New N dearer) fun r_2 =>
 Option.bind (law11_Hung N (⟨cables,r_1.1,r_1.2⟩ : kit_Stream) 0) fun r_3 =>
 Option.bind (kit_Stream_Within N (⟨cables,r_3.2.1,r_3.2.2⟩ : kit_Stream) 130 400) fun r_4 =>
 Option.bind (nz r_3.1.Sag) fun un =>
 Option.bind (law11_CopyCable N (⟨r_3.1.Car,r_3.1.Wide,r_3.1.Sag,W ((W ((W ((W ((W (r_3.1.Car + r_4.1)) * r_3.1.Wide)) * 25)).tdiv r_3.1.Sag)) + 1),r_3.1.Rides⟩ : crew_Cable)) fun r_5 =>
 Option.bind (kit_Stream_Within N (⟨numbers,r.1,r.2⟩ : kit_Stream) 1 6) fun r_6 =>
 Option.bind (loopO (fun s9 => top_TopHung_b9 N numbers cables dearer r_6 s9.1 s9.2.1 s9.2.2.1 s9.2.2.2.1 s9.2.2.2.2.1 s9.2.2.2.2.2.1 s9.2.2.2.2.2.2.1 s9.2.2.2.2.2.2.2.1 s9.2.2.2.2.2.2.2.2) N (0,r_6.2.1,r_6.2.2,r_4.2.1,r_4.2.2,r_2.1,r_2.2,r_3.1.Rides,r_5.Rides)) fun x9 =>
 exK x9 (fun s9 => Option.bind (crew_Queue N (⟨r_3.1.Car,r_3.1.Wide,r_3.1.Sag,W ((W ((W ((W ((W (r_3.1.Car + r_4.1)) * r_3.1.Wide)) * 25)).tdiv r_3.1.Sag)) + 1),s9.2.2.2.2.2.2.2.1⟩ : crew_Cable)) fun r_7 =>
 Option.bind (crew_Queue N (⟨r_5.Car,r_5.Wide,r_5.Sag,r_5.Most,s9.2.2.2.2.2.2.2.2⟩ : crew_Cable)) fun r_8 =>
 cond ((((r_7.2 != 0) || (r_8.2 != 0)) || (((r_7.1.length : Nat) : Int) != ((s9.2.2.2.2.2.2.2.1.length : Nat) : Int))) || (((r_8.1.length : Nat) : Int) != ((s9.2.2.2.2.2.2.2.1.length : Nat) : Int)))
 (some false)
 (Option.bind (law11_CopyCable N (⟨r_3.1.Car,r_3.1.Wide,r_3.1.Sag,W ((W ((W ((W ((W (r_3.1.Car + r_4.1)) * r_3.1.Wide)) * 25)).tdiv r_3.1.Sag)) + 1),s9.2.2.2.2.2.2.2.1⟩ : crew_Cable)) fun r_9 =>
 Option.bind (loopO (fun s19 => top_TopHung_b19 N s9.2.2.2.2.2.2.2.1 s9.2.2.2.2.2.2.2.2 r_7 r_8 s19.1 s19.2.1 s19.2.2.1 s19.2.2.2) N (0,0,0,r_9.Rides)) fun x19 =>
 exK x19 (fun s19 => Option.bind (crew_Beyond N (⟨r_9.Car,r_9.Wide,r_9.Sag,r_9.Most,s19.2.2.2⟩ : crew_Cable)) fun r_10 =>
 Option.bind (cond (((r_10.2.2 == 0) && (r_10.1 == (-1))) && (decide (s19.1 ≤ s19.2.1))) (Option.bind (top_aware13 N) fun r_11 =>
 some r_11) (some false)) fun t_1 =>
 some t_1) some)) some
theorem top_TopHung_ok {N : Nat} {G : Pers} {Lf : List Ent} {w : World} (numbers : List Int) (cables : List Int) (dearer : List Int) {numbers_p : Option Addr} {numbers_c : Nat} {cables_p : Option Addr} {cables_c : Nat} {dearer_p : Option Addr} {dearer_c : Nat} (h_numbers : Rd G 1 numbers_p numbers_c (numbers.map encI_u8)) (h_cables : Rd G 1 cables_p cables_c (cables.map encI_u8)) (h_dearer : Rd G 1 dearer_p dearer_c (dearer.map encI_u8)) (hc : Ctx G (Lf) w) {res : Bool} (hF : top_TopHung N numbers cables dearer = some res) : Calls Tryz.prog 3 #[.slice numbers_p numbers.length numbers_c,.slice cables_p cables.length cables_c,.slice dearer_p dearer.length dearer_c] w (fun e w => e = .returned (.bool res) ∧ Ctx G (Lf) w) := by
 unfold top_TopHung at hF
 refine fnIn Tryz.func3 rfl Tryz.ntmps3 rfl fun a hf => zS fun K h => sp 1 hf rfl fun a hf => zT h ?_
 refine zS fun K h => sp 1 hf rfl fun a hf => ?_
 obtain ⟨r,hr,hF⟩ := bnd_some hF
 refine zC hf en_4 rfl (kit_New_ok numbers h_numbers hc hr) ?_
 rintro _ w ⟨b_1,rfl,hc⟩
 refine ⟨_,rfl,fun a hf => ?_⟩
 refine sp 1 hf rfl fun a hf => ?_
 obtain ⟨r_1,hr_1,hF⟩ := bnd_some hF
 refine zC hf en_4 rfl (kit_New_ok cables h_cables hc hr_1) ?_
 rintro _ w ⟨b_2,rfl,hc⟩
 refine ⟨_,rfl,fun a hf => ?_⟩
 refine sp 1 hf rfl fun a hf => ?_
 obtain ⟨r_2,hr_2,hF⟩ := bnd_some hF
 refine zC hf en_4 rfl (kit_New_ok dearer h_dearer hc hr_2) ?_
 rintro _ w ⟨b_3,rfl,hc⟩
 refine ⟨_,rfl,fun a hf => ?_⟩
 refine sp 3 hf rfl fun a hf => zT h ?_
 refine zS fun K h => sp 1 hf rfl fun a hf => ?_
 obtain ⟨r_3,hr_3,hF⟩ := bnd_some hF
 refine zC hf en_5 rfl (law11_Hung_ok (⟨cables,r_1.1,r_1.2⟩ : kit_Stream) 0 h_cables (hc.pick k1) hr_3) ?_
 rintro _ w ⟨p_1,c_1,rfl,hc⟩
 refine ⟨_,rfl,fun a hf => ?_⟩
 refine zA hf hc zr_27 rfl fun b_4 a w hf hc => zW hf hc sz_27 u0 rfl fun w hc => zT h ?_
 refine wp_seq_k fun K4 h4 => ?_
 obtain ⟨r_4,hr_4,hF⟩ := bnd_some hF
 obtain ⟨un,hun,hF⟩ := bnd_some hF
 refine regionE (fun θ => [⟨none,none,7,pq b_1⟩,⟨none,none,8,pq b_2⟩,⟨none,none,9,pq b_3⟩,⟨none,none,10,pq b_4⟩,⟨some 0,none,40,pq b_4⟩,⟨some 1,none,41,i6 r_3.1.Car⟩,⟨some 2,none,42,pq b_2⟩,⟨some 3,none,43,i6 r_4.1⟩,⟨some 4,none,44,i6 (W (r_3.1.Car + r_4.1))⟩,⟨some 5,none,45,.pointer (some ⟨b_4,1,none⟩)⟩,⟨some 6,none,46,i6 r_3.1.Wide⟩,⟨some 7,none,47,i6 (W ((W (r_3.1.Car + r_4.1)) * r_3.1.Wide))⟩,⟨some 8,none,48,i6 (W ((W ((W (r_3.1.Car + r_4.1)) * r_3.1.Wide)) * 25))⟩,⟨some 9,none,49,.pointer (some ⟨b_4,2,none⟩)⟩,⟨some 10,none,50,i6 r_3.1.Sag⟩,⟨some 11,none,51,i6 (W ((W ((W ((W (r_3.1.Car + r_4.1)) * r_3.1.Wide)) * 25)).tdiv r_3.1.Sag))⟩,⟨some 12,none,52,.pointer (some ⟨b_4,3,none⟩)⟩]) (fun E θ => (bif E 13 then .box b_4 [i6 r_3.1.Car,i6 r_3.1.Wide,i6 r_3.1.Sag,i6 (W ((W ((W ((W (r_3.1.Car + r_4.1)) * r_3.1.Wide)) * 25)).tdiv r_3.1.Sag)),.slice p_1 r_3.1.Rides.length c_1] 27 else .box b_4 [i6 r_3.1.Car,i6 r_3.1.Wide,i6 r_3.1.Sag,i6 r_3.1.Most,.slice p_1 r_3.1.Rides.length c_1] 27)::.row p_1 c_1 (r_3.1.Rides.map enc_crew_Ride) 45 4::(bif E 3 then .box b_2 [.slice cables_p cables.length cables_c,i6 r_4.2.1,i6 r_4.2.2] 53 else .box b_2 [.slice cables_p cables.length cables_c,i6 r_3.2.1,i6 r_3.2.2] 53)::.box b_3 [.slice dearer_p dearer.length dearer_c,i6 r_2.1,i6 r_2.2] 53::.box b_1 [.slice numbers_p numbers.length numbers_c,i6 r.1,i6 r.2] 53::Lf) [(13,1),(13,6),(13,10)] (fun a w => Has 263 a [(7,pq b_1),(8,pq b_2),(9,pq b_3),(10,pq b_4)] ∧ Ctx G (.box b_4 [i6 r_3.1.Car,i6 r_3.1.Wide,i6 r_3.1.Sag,i6 (W ((W ((W ((W (r_3.1.Car + r_4.1)) * r_3.1.Wide)) * 25)).tdiv r_3.1.Sag)),.slice p_1 r_3.1.Rides.length c_1] 27::.row p_1 c_1 (r_3.1.Rides.map enc_crew_Ride) 45 4::.box b_2 [.slice cables_p cables.length cables_c,i6 r_4.2.1,i6 r_4.2.2] 53::.box b_3 [.slice dearer_p dearer.length dearer_c,i6 r_2.1,i6 r_2.2] 53::.box b_1 [.slice numbers_p numbers.length numbers_c,i6 r.1,i6 r.2] 53::Lf) w) follows_mx (by kernel_rfl) (by kernel_rfl) (HasE.of hf ⟨rfl,rfl,rfl,rfl,trivial,trivial,trivial,trivial,trivial,trivial,trivial,trivial,trivial,trivial,trivial,trivial,trivial,trivial⟩) hc ⟨?_,?_,?_,?_,?_,?_,?_,?_,?_,?_,?_,?_,?_,?_,trivial⟩ ?_ ?_
 ·intro E θ a w hD hi hp he hc
  have hf := he.h0.mT he 3 rfl
  refine zP hf rfl (pFA fa_27_0 rfl) fun a hf => zD θ he hi hf 4 rfl rfl rfl hc
 ·intro E θ a w hD hi hp he hc
  have e0 := hp.o 0 rfl
  have e13 := hD.f 0 rfl hi
  try dsimp only at hc
  rw [e13] at hc
  have hf := he.h0.mP he 4 rfl e0
  refine zL hf hc sc_3 m0 rfl fun a w hf hc => zD θ he hi hf 5 rfl rfl rfl ?_
  try dsimp only
  rw [updE_fls 1 e13 rfl]
  exact hc
 ·intro E θ a w hD hi hp he hc
  have hf := he.h0.mT he 1 rfl
  refine sp 1 hf rfl fun a hf => zD θ he hi hf 6 rfl rfl rfl hc
 ·intro E θ a w hD hi hp he hc
  have e2 := hp.o 2 rfl
  try dsimp only at hc
  rw [hi] at hc
  have hf := he.h0.mP he 6 rfl e2
  refine zC hf en_6 rfl (kit_Stream_Within_ok (⟨cables,r_3.2.1,r_3.2.2⟩ : kit_Stream) 130 400 h_cables (hc.pick k2) hr_4) ?_
  rintro _ w ⟨rfl,hc⟩
  refine ⟨_,rfl,fun a hf => ?_⟩
  refine cNil ?_
  refine xThenN ?_
  intro ds u hau
  replace hc := ((hc.pick k0).pick k2).pick k2
  refine ⟨θ,he.put0 hi hau hf rfl 7 rfl rfl,?_⟩
  try dsimp only
  rw [updE_self E 3]
  exact hc
 ·intro E θ a w hD hi hp he hc
  have e1 := hp.o 1 rfl
  have e3 := hp.o 3 rfl
  have hf := (he.h0.mP he 5 rfl e1).mP he 7 rfl e3
  refine sp 1 hf rfl fun a hf => zD θ he hi hf 8 rfl rfl rfl hc
 ·intro E θ a w hD hi hp he hc
  have hf := he.h0.mT he 3 rfl
  refine zP hf rfl (pFA fa_27_1 rfl) fun a hf => zD θ he hi hf 9 rfl rfl rfl hc
 ·intro E θ a w hD hi hp he hc
  have e5 := hp.o 5 rfl
  have e13 := hD.f 1 rfl hi
  try dsimp only at hc
  rw [e13] at hc
  have hf := he.h0.mP he 9 rfl e5
  refine zL hf hc sc_3 m0 rfl fun a w hf hc => zD θ he hi hf 10 rfl rfl rfl ?_
  try dsimp only
  rw [updE_fls 6 e13 rfl]
  exact hc
 ·intro E θ a w hD hi hp he hc
  have e4 := hp.o 4 rfl
  have e6 := hp.o 6 rfl
  have hf := (he.h0.mP he 8 rfl e4).mP he 10 rfl e6
  refine sp 1 hf rfl fun a hf => zD θ he hi hf 11 rfl rfl rfl hc
 ·intro E θ a w hD hi hp he hc
  have e7 := hp.o 7 rfl
  have hf := he.h0.mP he 11 rfl e7
  refine sp 1 hf rfl fun a hf => zD θ he hi hf 12 rfl rfl rfl hc
 ·intro E θ a w hD hi hp he hc
  have hf := he.h0.mT he 3 rfl
  refine zP hf rfl (pFA fa_27_2 rfl) fun a hf => zD θ he hi hf 13 rfl rfl rfl hc
 ·intro E θ a w hD hi hp he hc
  have e9 := hp.o 9 rfl
  have e13 := hD.f 2 rfl hi
  try dsimp only at hc
  rw [e13] at hc
  have hf := he.h0.mP he 13 rfl e9
  refine zL hf hc sc_3 m0 rfl fun a w hf hc => zD θ he hi hf 14 rfl rfl rfl ?_
  try dsimp only
  rw [updE_fls 10 e13 rfl]
  exact hc
 ·intro E θ a w hD hi hp he hc
  have e8 := hp.o 8 rfl
  have e10 := hp.o 10 rfl
  have hf := (he.h0.mP he 12 rfl e8).mP he 14 rfl e10
  refine zP hf rfl (pQuo rfl rfl (nz_spec hun)) fun a hf => zD θ he hi hf 15 rfl rfl rfl hc
 ·intro E θ a w hD hi hp he hc
  have hf := he.h0.mT he 3 rfl
  refine zP hf rfl (pFA fa_27_3 rfl) fun a hf => zD θ he hi hf 16 rfl rfl rfl hc
 ·intro E θ a w hD hi hp he hc
  have e11 := hp.o 11 rfl
  have e12 := hp.o 12 rfl
  try dsimp only at hc
  rw [hi] at hc
  have hf := (he.h0.mP he 15 rfl e11).mP he 16 rfl e12
  refine zW hf hc sz_3 u0 rfl fun w hc => zG θ he hi hf rfl ?_
  try dsimp only
  rw [updE_self E 13]
  exact hc
 ·intro E θ a w hall he hc
  have hf := he.h0
  have e3 := hall 3 rfl
  have e13 := hall 13 rfl
  replace hf := hf.more he 3 rfl (onT)
  replace hf := hf.more he 2 rfl (onT)
  replace hf := hf.more he 1 rfl (onT)
  replace hf := hf.more he 0 rfl (onT)
  try dsimp only at hc
  rw [e3,e13] at hc
  exact ⟨hf.kp rfl,hc⟩
 rintro a w ⟨hf,hc⟩
 refine h4 _ _ ?_
 refine zS fun K h => zP hf rfl (pFA fa_27_3 rfl) fun a hf => zL hf hc sc_3 m0 rfl fun a w hf hc => sp 1 hf rfl fun a hf => zP hf rfl (pFA fa_27_3 rfl) fun a hf => zW hf hc sz_3 u0 rfl fun w hc => zT h ?_
 refine zS fun K h => zN hf hc ag_27 m0 rfl fun a w hf hc => ?_
 obtain ⟨r_5,hr_5,hF⟩ := bnd_some hF
 obtain ⟨G1,hle1,hrd1,hc,hth1⟩ := lend hc k1
 refine zC hf en_7 rfl (law11_CopyCable_ok (⟨r_3.1.Car,r_3.1.Wide,r_3.1.Sag,W ((W ((W ((W ((W (r_3.1.Car + r_4.1)) * r_3.1.Wide)) * 25)).tdiv r_3.1.Sag)) + 1),r_3.1.Rides⟩ : crew_Cable) hrd1 hc hr_5) ?_
 rintro _ w ⟨p_2,c_2,rfl,hc⟩
 refine ⟨_,rfl,fun a hf => ?_⟩
 replace hc := hth1 _ _ hc
 refine zA hf hc zr_27 rfl fun b_5 a w hf hc => zW hf hc sz_27 u0 rfl fun w hc => zT h ?_
 refine wp_seq_k fun K7 h7 => zS fun K h => sp 1 hf rfl fun a hf => ?_
 obtain ⟨r_6,hr_6,hF⟩ := bnd_some hF
 refine zC hf en_6 rfl (kit_Stream_Within_ok (⟨numbers,r.1,r.2⟩ : kit_Stream) 1 6 h_numbers (hc.pick k6) hr_6) ?_
 rintro _ w ⟨rfl,hc⟩
 refine ⟨_,rfl,fun a hf => ?_⟩
 refine sp 1 hf rfl fun a hf => zT h ?_
 refine wp_block ?_
 obtain ⟨x9,hx9,hF⟩ := bnd_some hF
 let S9 : (Int × Int × Int × Int × Int × Int × Int × (List crew_Ride) × (List crew_Ride)) → Act → World → Prop := (fun (zz : Int × Int × Int × Int × Int × Int × Int × (List crew_Ride) × (List crew_Ride)) a w => ∃ (p_3 : Option Addr) (c_3 : Nat) (p_4 : Option Addr) (c_4 : Nat),Has 263 a [(7,pq b_1),(8,pq b_2),(9,pq b_3),(10,pq b_4),(11,pq b_5),(60,i6 r_6.1),(61,i6 zz.1)] ∧ Ctx G (.box b_1 [.slice numbers_p numbers.length numbers_c,i6 zz.2.1,i6 zz.2.2.1] 53::.box b_5 [i6 r_5.Car,i6 r_5.Wide,i6 r_5.Sag,i6 r_5.Most,.slice p_4 zz.2.2.2.2.2.2.2.2.length c_4] 27::.row p_3 c_3 (zz.2.2.2.2.2.2.2.1.map enc_crew_Ride) 45 4::.row p_4 c_4 (zz.2.2.2.2.2.2.2.2.map enc_crew_Ride) 45 4::.box b_4 [i6 r_3.1.Car,i6 r_3.1.Wide,i6 r_3.1.Sag,i6 (W ((W ((W ((W ((W (r_3.1.Car + r_4.1)) * r_3.1.Wide)) * 25)).tdiv r_3.1.Sag)) + 1)),.slice p_3 zz.2.2.2.2.2.2.2.1.length c_3] 27::.box b_2 [.slice cables_p cables.length cables_c,i6 zz.2.2.2.1,i6 zz.2.2.2.2.1] 53::.box b_3 [.slice dearer_p dearer.length dearer_c,i6 zz.2.2.2.2.2.1,i6 zz.2.2.2.2.2.2.1] 53::Lf) w)
 have hr9 : ∀ (zz : Int × Int × Int × Int × Int × Int × Int × (List crew_Ride) × (List crew_Ride)) a w,x9 = .go zz → S9 zz a w → K7 a w := by
  rintro ⟨x,x_1,x_2,x_3,x_4,x_5,x_6,x_7,x_8⟩ a w rfl ⟨p_3,c_3,p_4,c_4,hf,hc⟩
  replace hF := exK_go hF
  refine h7 _ _ ?_
  refine zS fun K h => zN hf hc ag_27 m4 rfl fun a w hf hc => ?_
  obtain ⟨r_7,hr_7,hF⟩ := bnd_some hF
  obtain ⟨G1,hle1,hrd1,hc,hth1⟩ := lend hc k2
  refine zC hf en_12 rfl (crew_Queue_ok (⟨r_3.1.Car,r_3.1.Wide,r_3.1.Sag,W ((W ((W ((W ((W (r_3.1.Car + r_4.1)) * r_3.1.Wide)) * 25)).tdiv r_3.1.Sag)) + 1),x_7⟩ : crew_Cable) hrd1 hc hr_7) ?_
  rintro _ w ⟨p_5,c_5,rfl,hc⟩
  refine ⟨_,rfl,fun a hf => ?_⟩
  replace hc := hth1 _ _ hc
  refine sp 5 hf rfl fun a hf => zT h ?_
  refine wp_seq_k fun K11 h11 => cReg ?_
  refine zN hf hc ag_27 m3 rfl fun a w hf hc => ?_
  obtain ⟨r_8,hr_8,hF⟩ := bnd_some hF
  obtain ⟨G1,hle1,hrd1,hc,hth1⟩ := lend hc k4
  refine zC hf en_12 rfl (crew_Queue_ok (⟨r_5.Car,r_5.Wide,r_5.Sag,r_5.Most,x_8⟩ : crew_Cable) hrd1 hc hr_8) ?_
  rintro _ w ⟨p_6,c_6,rfl,hc⟩
  refine ⟨_,rfl,fun a hf => ?_⟩
  replace hc := hth1 _ _ hc
  refine sp 5 hf rfl fun a hf => cNil ?_
  replace hc := ((hc.drop k8).drop k7).drop k4
  refine h11 _ _ ?_
  refine wp_seq_k fun K12 h12 => zS fun K h => sp 3 hf rfl fun a hf => stCc 3 (fun a => Has 263 a [(10,pq b_4),(11,pq b_5),(22,.slice p_5 r_7.1.length c_5),(23,i6 r_7.2),(24,.slice p_6 r_8.1.length c_6),(25,i6 r_8.2),(149,i6 r_7.2),(150,.bool (r_7.2 != 0)),(151,.bool (r_7.2 != 0)),(154,.bool ((r_7.2 != 0) || (r_8.2 != 0)))]) hc ?_ ?_
  ·cases hb : (r_7.2 != 0)
   ·rw [hb] at hf
    refine sp 3 hf rfl fun a hf => cNil ⟨hf.kp rfl,hc⟩
   ·rw [hb] at hf
    refine stS hf rfl rfl rfl fun a hf => stS hf rfl rfl rfl fun a hf => sp 1 hf rfl fun a hf => cNil ⟨hf.kp rfl,hc⟩
  intro a w ⟨hf,hc⟩
  refine sp 1 hf rfl fun a hf => stCc 7 (fun a => Has 263 a [(10,pq b_4),(11,pq b_5),(22,.slice p_5 r_7.1.length c_5),(23,i6 r_7.2),(24,.slice p_6 r_8.1.length c_6),(25,i6 r_8.2),(149,i6 r_7.2),(150,.bool (r_7.2 != 0)),(151,.bool (r_7.2 != 0)),(154,.bool ((r_7.2 != 0) || (r_8.2 != 0))),(155,.bool ((r_7.2 != 0) || (r_8.2 != 0))),(162,.bool (((r_7.2 != 0) || (r_8.2 != 0)) || (((r_7.1.length : Nat) : Int) != ((x_7.length : Nat) : Int))))]) hc ?_ ?_
  ·cases hb : ((r_7.2 != 0) || (r_8.2 != 0))
   ·rw [hb] at hf
    refine sp 1 hf rfl fun a hf => zP hf rfl (pLenS Tryz.underlying35 rfl) fun a hf => zP hf rfl (pFA fa_27_4 rfl) fun a hf => zL hf hc sc_25 m5 rfl fun a w hf hc => zP hf rfl (pLenS Tryz.underlying25 rfl) fun a hf => sp 2 hf rfl fun a hf => cNil ⟨hf.kp rfl,hc⟩
   ·rw [hb] at hf
    refine stS hf rfl rfl rfl fun a hf => stS hf rfl rfl rfl fun a hf => stS hf rfl rfl rfl fun a hf => stS hf rfl rfl rfl fun a hf => stS hf rfl rfl rfl fun a hf => stS hf rfl rfl rfl fun a hf => sp 1 hf rfl fun a hf => cNil ⟨hf.kp rfl,hc⟩
  intro a w ⟨hf,hc⟩
  refine sp 1 hf rfl fun a hf => stCc 7 (fun a => Has 263 a [(10,pq b_4),(11,pq b_5),(22,.slice p_5 r_7.1.length c_5),(23,i6 r_7.2),(24,.slice p_6 r_8.1.length c_6),(25,i6 r_8.2),(149,i6 r_7.2),(150,.bool (r_7.2 != 0)),(151,.bool (r_7.2 != 0)),(154,.bool ((r_7.2 != 0) || (r_8.2 != 0))),(155,.bool ((r_7.2 != 0) || (r_8.2 != 0))),(162,.bool (((r_7.2 != 0) || (r_8.2 != 0)) || (((r_7.1.length : Nat) : Int) != ((x_7.length : Nat) : Int)))),(163,.bool (((r_7.2 != 0) || (r_8.2 != 0)) || (((r_7.1.length : Nat) : Int) != ((x_7.length : Nat) : Int)))),(170,.bool ((((r_7.2 != 0) || (r_8.2 != 0)) || (((r_7.1.length : Nat) : Int) != ((x_7.length : Nat) : Int))) || (((r_8.1.length : Nat) : Int) != ((x_7.length : Nat) : Int))))]) hc ?_ ?_
  ·cases hb : (((r_7.2 != 0) || (r_8.2 != 0)) || (((r_7.1.length : Nat) : Int) != ((x_7.length : Nat) : Int)))
   ·rw [hb] at hf
    refine sp 1 hf rfl fun a hf => zP hf rfl (pLenS Tryz.underlying35 rfl) fun a hf => zP hf rfl (pFA fa_27_4 rfl) fun a hf => zL hf hc sc_25 m5 rfl fun a w hf hc => zP hf rfl (pLenS Tryz.underlying25 rfl) fun a hf => sp 2 hf rfl fun a hf => cNil ⟨hf.kp rfl,hc⟩
   ·rw [hb] at hf
    refine stS hf rfl rfl rfl fun a hf => stS hf rfl rfl rfl fun a hf => stS hf rfl rfl rfl fun a hf => stS hf rfl rfl rfl fun a hf => stS hf rfl rfl rfl fun a hf => stS hf rfl rfl rfl fun a hf => sp 1 hf rfl fun a hf => cNil ⟨hf.kp rfl,hc⟩
  intro a w ⟨hf,hc⟩
  refine zT h ?_
  refine zI hf rfl hF ?_ ?_ <;> clear hF <;> intro hF
  ·refine zS fun K h => sp 1 hf rfl fun a hf => zT h ?_
   refine wp_ret ?_
   refine xThenR ?_
   obtain rfl := sj hF
   replace hc := (((((hc.drop k5).drop k4).drop k3).drop k2).drop k1).drop k0
   exact zO1 Tryz.results3 hf rfl ⟨rfl,hc⟩
  ·refine wp_skip ?_
   refine h12 _ _ ?_
   refine zS fun K h => sp 2 hf rfl fun a hf => zT h ?_
   refine zS fun K h => zN hf hc ag_27 m5 rfl fun a w hf hc => ?_
   obtain ⟨r_9,hr_9,hF⟩ := bnd_some hF
   obtain ⟨G1,hle1,hrd1,hc,hth1⟩ := lend hc k2
   refine zC hf en_7 rfl (law11_CopyCable_ok (⟨r_3.1.Car,r_3.1.Wide,r_3.1.Sag,W ((W ((W ((W ((W (r_3.1.Car + r_4.1)) * r_3.1.Wide)) * 25)).tdiv r_3.1.Sag)) + 1),x_7⟩ : crew_Cable) hrd1 hc hr_9) ?_
   rintro _ w ⟨p_7,c_7,rfl,hc⟩
   refine ⟨_,rfl,fun a hf => ?_⟩
   replace hc := hth1 _ _ hc
   refine zA hf hc zr_27 rfl fun b_6 a w hf hc => zW hf hc sz_27 u0 rfl fun w hc => zT h ?_
   refine wp_seq_k fun K17 h17 => zS fun K h => sp 1 hf rfl fun a hf => zP hf rfl (pLenS Tryz.underlying35 rfl) fun a hf => sp 1 hf rfl fun a hf => zT h ?_
   refine wp_block ?_
   obtain ⟨x19,hx19,hF⟩ := bnd_some hF
   let S19 : (Int × Int × Int × (List crew_Ride)) → Act → World → Prop := (fun (zz : Int × Int × Int × (List crew_Ride)) a w => ∃ (p_8 : Option Addr) (c_8 : Nat) (p_9 : Option Addr) (c_9 : Nat) (p_10 : Option Addr) (c_10 : Nat) (p_11 : Option Addr) (c_11 : Nat) (p_12 : Option Addr) (c_12 : Nat),Has 263 a [(10,pq b_4),(11,pq b_5),(22,.slice p_8 r_7.1.length c_8),(24,.slice p_9 r_8.1.length c_9),(26,i6 zz.1),(27,i6 zz.2.1),(28,pq b_6),(174,i6 ((r_7.1.length : Nat) : Int)),(175,i6 zz.2.2.1)] ∧ Ctx G (.box b_6 [i6 r_9.Car,i6 r_9.Wide,i6 r_9.Sag,i6 r_9.Most,.slice p_12 zz.2.2.2.length c_12] 27::.row p_10 c_10 (x_7.map enc_crew_Ride) 45 4::.row p_12 c_12 (zz.2.2.2.map enc_crew_Ride) 45 4::.row p_11 c_11 (x_8.map enc_crew_Ride) 45 4::.row p_9 c_9 (r_8.1.map encI_i64) 3 1::.row p_8 c_8 (r_7.1.map encI_i64) 3 1::.box b_5 [i6 r_5.Car,i6 r_5.Wide,i6 r_5.Sag,i6 r_5.Most,.slice p_11 x_8.length c_11] 27::.box b_4 [i6 r_3.1.Car,i6 r_3.1.Wide,i6 r_3.1.Sag,i6 (W ((W ((W ((W ((W (r_3.1.Car + r_4.1)) * r_3.1.Wide)) * 25)).tdiv r_3.1.Sag)) + 1)),.slice p_10 x_7.length c_10] 27::Lf) w)
   have hr19 : ∀ (zz : Int × Int × Int × (List crew_Ride)) a w,x19 = .go zz → S19 zz a w → K17 a w := by
    rintro ⟨end_,late,x_9,x_10⟩ a w rfl ⟨p_8,c_8,p_9,c_9,p_10,c_10,p_11,c_11,p_12,c_12,hf,hc⟩
    replace hF := exK_go hF
    refine h17 _ _ ?_
    refine zS fun K h => zN hf hc ag_27 m0 rfl fun a w hf hc => ?_
    obtain ⟨r_10,hr_10,hF⟩ := bnd_some hF
    refine zQ (v := .tuple #[i6 r_10.1,i6 r_10.2.1,i6 r_10.2.2]) hf hc en_13 rfl (fun w hc => by obtain ⟨G1,hle1,hrd1,hc,hth1⟩ := lend hc k2; exact (crew_Beyond_ok (⟨r_9.Car,r_9.Wide,r_9.Sag,r_9.Most,x_10⟩ : crew_Cable) hrd1 hc hr_10).mono fun e w h => ⟨h.1,((hth1 _ _ h.2).unpick k2)⟩) fun a w hf hc => sp 7 hf rfl fun a hf => zT h ?_
    refine zS fun K h => sp 3 hf rfl fun a hf => stCc 3 (fun a => Has 263 a [(26,i6 end_),(27,i6 late),(30,i6 r_10.1),(23,i6 r_10.2.2),(249,i6 r_10.2.2),(250,.bool (r_10.2.2 == 0)),(251,.bool (r_10.2.2 == 0)),(254,.bool ((r_10.2.2 == 0) && (r_10.1 == (-1))))]) hc ?_ ?_
    ·cases hb : (r_10.2.2 == 0)
     ·rw [hb] at hf
      refine stS hf rfl rfl rfl fun a hf => stS hf rfl rfl rfl fun a hf => sp 1 hf rfl fun a hf => cNil ⟨hf.kp rfl,hc⟩
     ·rw [hb] at hf
      refine sp 3 hf rfl fun a hf => cNil ⟨hf.kp rfl,hc⟩
    intro a w ⟨hf,hc⟩
    refine sp 1 hf rfl fun a hf => stCc 4 (fun a => Has 263 a [(26,i6 end_),(27,i6 late),(30,i6 r_10.1),(23,i6 r_10.2.2),(249,i6 r_10.2.2),(250,.bool (r_10.2.2 == 0)),(251,.bool (r_10.2.2 == 0)),(254,.bool ((r_10.2.2 == 0) && (r_10.1 == (-1)))),(255,.bool ((r_10.2.2 == 0) && (r_10.1 == (-1)))),(259,.bool (((r_10.2.2 == 0) && (r_10.1 == (-1))) && (decide (end_ ≤ late))))]) hc ?_ ?_
    ·cases hb : ((r_10.2.2 == 0) && (r_10.1 == (-1)))
     ·rw [hb] at hf
      refine stS hf rfl rfl rfl fun a hf => stS hf rfl rfl rfl fun a hf => stS hf rfl rfl rfl fun a hf => sp 1 hf rfl fun a hf => cNil ⟨hf.kp rfl,hc⟩
     ·rw [hb] at hf
      refine sp 4 hf rfl fun a hf => cNil ⟨hf.kp rfl,hc⟩
    intro a w ⟨hf,hc⟩
    refine sp 1 hf rfl fun a hf => ?_
    obtain ⟨t_1,ht_1,hF⟩ := bnd_some hF
    refine stCc 2 (fun a => Has 263 a [(26,i6 end_),(27,i6 late),(30,i6 r_10.1),(23,i6 r_10.2.2),(249,i6 r_10.2.2),(250,.bool (r_10.2.2 == 0)),(251,.bool (r_10.2.2 == 0)),(254,.bool ((r_10.2.2 == 0) && (r_10.1 == (-1)))),(255,.bool ((r_10.2.2 == 0) && (r_10.1 == (-1)))),(259,.bool (((r_10.2.2 == 0) && (r_10.1 == (-1))) && (decide (end_ ≤ late)))),(260,.bool (((r_10.2.2 == 0) && (r_10.1 == (-1))) && (decide (end_ ≤ late)))),(262,.bool t_1)]) hc ?_ ?_
    ·cases hb : (((r_10.2.2 == 0) && (r_10.1 == (-1))) && (decide (end_ ≤ late)))
     ·rw [hb] at hf
      have hF := condF hb ht_1
      obtain rfl := sj hF
      refine stS hf rfl rfl rfl fun a hf => sp 1 hf rfl fun a hf => cNil ⟨hf.kp rfl,hc⟩
     ·rw [hb] at hf
      have hF := condT hb ht_1
      obtain ⟨r_11,hr_11,hF⟩ := bnd_some hF
      refine zQ (v := .bool r_11) hf hc en_14 rfl (fun w hc => top_aware13_ok hc hr_11) fun a w hf hc => sp 1 hf rfl fun a hf => ?_
      obtain rfl := sj hF
      exact cNil ⟨hf.kp rfl,hc⟩
    intro a w ⟨hf,hc⟩
    refine sp 1 hf rfl fun a hf => zT h ?_
    refine wp_ret ?_
    obtain rfl := sj hF
    replace hc := (((((((hc.drop k7).drop k6).drop k5).drop k4).drop k3).drop k2).drop k1).drop k0
    exact zO1 Tryz.results3 hf rfl ⟨rfl,hc⟩
   have ho19 : ∀ r,x19 = .out r → r = res := by
    rintro r rfl
    exact sj hF
   refine cLoop N (loopW (S := S19) (x := x19) ?_ N (0,0,0,r_9.Rides) _ _ ⟨p_5,c_5,p_6,c_6,p_3,c_3,p_4,c_4,p_7,c_7,hf.kp rfl,hc⟩ hx19)
   clear hF hf hc
   rintro ⟨end_,late,x_9,x_10⟩ st19 a w KB19 ⟨p_8,c_8,p_9,c_9,p_10,c_10,p_11,c_11,p_12,c_12,hf,hc⟩ hF hfin19 hK19
   unfold top_TopHung_b19 at hF
   refine zS fun K h => sp 1 hf rfl fun a hf => zT h ?_
   refine wp_seq_k fun K23 h23 => zI hf rfl hF ?_ ?_ <;> clear hF <;> intro hF
   ·refine wp_skip ?_
    refine h23 _ _ ?_
    refine wp_seq_k fun K24 h24 => wp_block ?_
    refine zS fun K h => sp 2 hf rfl fun a hf => zT h ?_
    refine wp_seq_k fun K26 h26 => wp_seq_k fun K27 h27 => ?_
    obtain ⟨e_1,he_1,hF⟩ := bnd_some hF
    obtain ⟨g,rfl,qa,qr⟩ := row_atm hc m5 he_1
    obtain ⟨e_2,he_2,hF⟩ := bnd_some hF
    obtain ⟨g_1,rfl,qa_1,qr_1⟩ := row_atm hc m4 he_2
    obtain ⟨t_2,ht_2,hF⟩ := bnd_some hF
    obtain ⟨t_3,ht_3,hF⟩ := bnd_some hF
    refine cQ hc follows_mx (by kernel_rfl) ?_
    refine qE hf rfl rfl rfl (Pu.ev (pM rfl)) fun a hf => qE hf rfl rfl rfl (Pu.ev (pM rfl)) fun a hf => qE hf rfl rfl rfl (Pu.ev (pIA Tryz.underlying35 sz_3 rfl rfl qa)) fun a hf => qE hf rfl rfl rfl (eLd1 sc_3 rfl (cell_row (sz := 1) (i := x_9.toNat) (j := 0) m5 qr rfl)) fun a hf => qE hf rfl rfl rfl (Pu.ev (pM rfl)) fun a hf => qE hf rfl rfl rfl (Pu.ev (pM rfl)) fun a hf => qE hf rfl rfl rfl (Pu.ev (pIA Tryz.underlying35 sz_3 rfl rfl qa_1)) fun a hf => qE hf rfl rfl rfl (eLd1 sc_3 rfl (cell_row (sz := 1) (i := x_9.toNat) (j := 0) m4 qr_1 rfl)) fun a hf => qE hf rfl rfl rfl (Pu.ev (pGt rfl rfl)) fun a hf => qE hf rfl rfl rfl (Pu.ev (pM rfl)) fun a hf => qCut 12 (fun a => Has 263 a [(10,pq b_4),(11,pq b_5),(22,.slice (some ⟨g,0,none⟩) r_7.1.length c_8),(24,.slice (some ⟨g_1,0,none⟩) r_8.1.length c_9),(26,i6 end_),(27,i6 late),(28,pq b_6),(174,i6 ((r_7.1.length : Nat) : Int)),(175,i6 x_9),(29,i6 x_9),(178,.slice (some ⟨g,0,none⟩) r_7.1.length c_8),(179,i6 x_9),(180,.pointer (some ⟨g,x_9.toNat * 1,none⟩)),(181,i6 e_1),(182,.slice (some ⟨g_1,0,none⟩) r_8.1.length c_9),(183,i6 x_9),(184,.pointer (some ⟨g_1,x_9.toNat * 1,none⟩)),(185,i6 e_2),(186,.bool (decide (e_2 < e_1))),(187,.bool (decide (e_2 < e_1))),(199,.bool t_2)]) ?_ ?_
    ·cases hb : (decide (e_2 < e_1))
     ·rw [hb] at hf
      have hF := condF hb ht_2
      obtain ⟨e_3,he_3,hF⟩ := bnd_some hF
      obtain ⟨qa_2,qr_2⟩ := row_atk hc m5 he_3
      obtain ⟨e_4,he_4,hF⟩ := bnd_some hF
      obtain ⟨g_2,rfl,qa_3,qr_3⟩ := row_atm hc m1 he_4
      refine qE hf rfl rfl rfl (Pu.ev (pM rfl)) fun a hf => qE hf rfl rfl rfl (Pu.ev (pM rfl)) fun a hf => qE hf rfl rfl rfl (Pu.ev (pIA Tryz.underlying35 sz_3 rfl rfl qa_2)) fun a hf => qE hf rfl rfl rfl (eLd1 sc_3 rfl (cell_row (sz := 1) (i := x_9.toNat) (j := 0) m5 qr_2 rfl)) fun a hf => qE hf rfl rfl rfl (Pu.ev (pFA fa_27_4 rfl)) fun a hf => qE hf rfl rfl rfl (eLd1 sc_25 rfl (cell_box m7 rfl)) fun a hf => qE hf rfl rfl rfl (Pu.ev (pM rfl)) fun a hf => qE hf rfl rfl rfl (Pu.ev (pIA Tryz.underlying25 sz_45 rfl rfl qa_3)) fun a hf => qE hf rfl rfl rfl (Pu.ev (pFA fa_45_0 rfl)) fun a hf => qE hf rfl rfl rfl (eLd1 sc_3 rfl (cell_row (sz := 4) (i := x_9.toNat) (j := 0) m1 qr_3 rfl)) fun a hf => qE hf rfl rfl rfl (Pu.ev (pLt rfl rfl)) fun a hf => qE hf rfl rfl rfl (Pu.ev (pPf rfl rfl)) fun a hf => ?_
      obtain rfl := sj hF
      exact qNil (hf.kp rfl)
     ·rw [hb] at hf
      have hF := condT hb ht_2
      obtain rfl := sj hF
      refine qS hf rfl rfl rfl fun a hf => qS hf rfl rfl rfl fun a hf => qS hf rfl rfl rfl fun a hf => qS hf rfl rfl rfl fun a hf => qS hf rfl rfl rfl fun a hf => qS hf rfl rfl rfl fun a hf => qS hf rfl rfl rfl fun a hf => qS hf rfl rfl rfl fun a hf => qS hf rfl rfl rfl fun a hf => qS hf rfl rfl rfl fun a hf => qS hf rfl rfl rfl fun a hf => qE hf rfl rfl rfl (Pu.ev (pPt rfl rfl)) fun a hf => qNil (hf.kp rfl)
    intro a hf
    refine qE hf rfl rfl rfl (Pu.ev (pM rfl)) fun a hf => qCut 6 (fun a => Has 263 a [(10,pq b_4),(11,pq b_5),(22,.slice (some ⟨g,0,none⟩) r_7.1.length c_8),(24,.slice (some ⟨g_1,0,none⟩) r_8.1.length c_9),(26,i6 end_),(27,i6 late),(28,pq b_6),(174,i6 ((r_7.1.length : Nat) : Int)),(175,i6 x_9),(29,i6 x_9),(178,.slice (some ⟨g,0,none⟩) r_7.1.length c_8),(179,i6 x_9),(180,.pointer (some ⟨g,x_9.toNat * 1,none⟩)),(181,i6 e_1),(182,.slice (some ⟨g_1,0,none⟩) r_8.1.length c_9),(183,i6 x_9),(184,.pointer (some ⟨g_1,x_9.toNat * 1,none⟩)),(185,i6 e_2),(186,.bool (decide (e_2 < e_1))),(187,.bool (decide (e_2 < e_1))),(199,.bool t_2),(200,.bool t_2),(206,.bool t_3)]) ?_ ?_
    ·cases hb : t_2
     ·rw [hb] at hf
      have hF := condF hb ht_3
      obtain ⟨e_5,he_5,hF⟩ := bnd_some hF
      obtain ⟨qa_4,qr_4⟩ := row_atk hc m5 he_5
      refine qE hf rfl rfl rfl (Pu.ev (pM rfl)) fun a hf => qE hf rfl rfl rfl (Pu.ev (pM rfl)) fun a hf => qE hf rfl rfl rfl (Pu.ev (pIA Tryz.underlying35 sz_3 rfl rfl qa_4)) fun a hf => qE hf rfl rfl rfl (eLd1 sc_3 rfl (cell_row (sz := 1) (i := x_9.toNat) (j := 0) m5 qr_4 rfl)) fun a hf => qE hf rfl rfl rfl (Pu.ev (pGt rfl rfl)) fun a hf => qE hf rfl rfl rfl (Pu.ev (pPf rfl rfl)) fun a hf => ?_
      obtain rfl := sj hF
      exact qNil (hf.kp rfl)
     ·rw [hb] at hf
      have hF := condT hb ht_3
      obtain rfl := sj hF
      refine qS hf rfl rfl rfl fun a hf => qS hf rfl rfl rfl fun a hf => qS hf rfl rfl rfl fun a hf => qS hf rfl rfl rfl fun a hf => qS hf rfl rfl rfl fun a hf => qE hf rfl rfl rfl (Pu.ev (pPt rfl rfl)) fun a hf => qNil (hf.kp rfl)
    intro a hf
    intro w hc
    refine h27 _ _ ?_
    refine zI hf rfl hF ?_ ?_ <;> clear hF <;> intro hF
    ·refine zS fun K h => sp 1 hf rfl fun a hf => zT h ?_
     refine wp_ret ?_
     refine xThenR ?_
     refine xBlkR ?_
     refine xThenR ?_
     refine xThenR ?_
     have he := sj hF
     rw [← he] at hfin19
     replace hF := ho19 _ hfin19
     refine xBlkR ?_
     refine xThenR ?_
     obtain rfl := hF
     replace hc := (((((((hc.drop k7).drop k6).drop k5).drop k4).drop k3).drop k2).drop k1).drop k0
     exact zO1 Tryz.results3 hf rfl ⟨rfl,hc⟩
    ·refine wp_skip ?_
     refine h26 _ _ ?_
     refine wp_seq_k fun K29 h29 => ?_
     obtain ⟨e_6,he_6,hF⟩ := bnd_some hF
     obtain ⟨qa_5,qr_5⟩ := row_atk hc m5 he_6
     obtain ⟨e_7,he_7,hF⟩ := bnd_some hF
     obtain ⟨g_3,rfl,qa_6,qr_6⟩ := row_atm hc m2 he_7
     refine regionE (fun θ => [⟨none,none,10,pq b_4⟩,⟨none,none,11,pq b_5⟩,⟨none,none,22,.slice (some ⟨g,0,none⟩) r_7.1.length c_8⟩,⟨none,none,24,.slice (some ⟨g_1,0,none⟩) r_8.1.length c_9⟩,⟨none,none,26,i6 end_⟩,⟨none,none,27,i6 late⟩,⟨none,none,28,pq b_6⟩,⟨none,none,29,i6 x_9⟩,⟨none,none,174,i6 ((r_7.1.length : Nat) : Int)⟩,⟨none,none,175,i6 x_9⟩,⟨some 0,none,207,.pointer (some ⟨b_6,4,none⟩)⟩,⟨some 1,none,208,.slice (some ⟨g_3,0,none⟩) x_10.length c_12⟩,⟨some 2,none,209,i6 x_9⟩,⟨some 3,none,210,.slice (some ⟨g,0,none⟩) r_7.1.length c_8⟩,⟨some 4,none,211,i6 x_9⟩,⟨some 5,none,212,.pointer (some ⟨g,x_9.toNat * 1,none⟩)⟩,⟨some 6,none,213,i6 e_6⟩,⟨some 7,none,214,.pointer (some ⟨g_3,x_9.toNat * 4,none⟩)⟩,⟨some 8,none,215,.pointer (some ⟨g_3,x_9.toNat * 4 + 0,none⟩)⟩]) (fun E θ => .box b_6 [i6 r_9.Car,i6 r_9.Wide,i6 r_9.Sag,i6 r_9.Most,.slice (some ⟨g_3,0,none⟩) x_10.length c_12] 27::.row p_10 c_10 (x_7.map enc_crew_Ride) 45 4::(bif E 9 then .row (some ⟨g_3,0,none⟩) c_12 ((x_10.set x_9.toNat (⟨e_6,e_7.Long,e_7.Weight⟩ : crew_Ride)).map enc_crew_Ride) 45 4 else .row (some ⟨g_3,0,none⟩) c_12 (x_10.map enc_crew_Ride) 45 4)::.row p_11 c_11 (x_8.map enc_crew_Ride) 45 4::.row (some ⟨g_1,0,none⟩) c_9 (r_8.1.map encI_i64) 3 1::.row (some ⟨g,0,none⟩) c_8 (r_7.1.map encI_i64) 3 1::.box b_5 [i6 r_5.Car,i6 r_5.Wide,i6 r_5.Sag,i6 r_5.Most,.slice p_11 x_8.length c_11] 27::.box b_4 [i6 r_3.1.Car,i6 r_3.1.Wide,i6 r_3.1.Sag,i6 (W ((W ((W ((W ((W (r_3.1.Car + r_4.1)) * r_3.1.Wide)) * 25)).tdiv r_3.1.Sag)) + 1)),.slice p_10 x_7.length c_10] 27::Lf) [(8,7),(9,8)] (fun a w => Has 263 a [(10,pq b_4),(11,pq b_5),(22,.slice (some ⟨g,0,none⟩) r_7.1.length c_8),(24,.slice (some ⟨g_1,0,none⟩) r_8.1.length c_9),(26,i6 end_),(27,i6 late),(28,pq b_6),(29,i6 x_9),(174,i6 ((r_7.1.length : Nat) : Int)),(175,i6 x_9)] ∧ Ctx G (.box b_6 [i6 r_9.Car,i6 r_9.Wide,i6 r_9.Sag,i6 r_9.Most,.slice (some ⟨g_3,0,none⟩) x_10.length c_12] 27::.row p_10 c_10 (x_7.map enc_crew_Ride) 45 4::.row (some ⟨g_3,0,none⟩) c_12 ((x_10.set x_9.toNat (⟨e_6,e_7.Long,e_7.Weight⟩ : crew_Ride)).map enc_crew_Ride) 45 4::.row p_11 c_11 (x_8.map enc_crew_Ride) 45 4::.row (some ⟨g_1,0,none⟩) c_9 (r_8.1.map encI_i64) 3 1::.row (some ⟨g,0,none⟩) c_8 (r_7.1.map encI_i64) 3 1::.box b_5 [i6 r_5.Car,i6 r_5.Wide,i6 r_5.Sag,i6 r_5.Most,.slice p_11 x_8.length c_11] 27::.box b_4 [i6 r_3.1.Car,i6 r_3.1.Wide,i6 r_3.1.Sag,i6 (W ((W ((W ((W ((W (r_3.1.Car + r_4.1)) * r_3.1.Wide)) * 25)).tdiv r_3.1.Sag)) + 1)),.slice p_10 x_7.length c_10] 27::Lf) w) follows_mx (by kernel_rfl) (by kernel_rfl) (HasE.of hf ⟨rfl,rfl,rfl,rfl,rfl,rfl,rfl,rfl,rfl,rfl,trivial,trivial,trivial,trivial,trivial,trivial,trivial,trivial,trivial,trivial⟩) hc ⟨?_,?_,?_,?_,?_,?_,?_,?_,?_,?_,trivial⟩ ?_ ?_
     ·intro E θ a w hD hi hp he hc
      have hf := he.h0.mT he 6 rfl
      refine zP hf rfl (pFA fa_27_4 rfl) fun a hf => zD θ he hi hf 10 rfl rfl rfl hc
     ·intro E θ a w hD hi hp he hc
      have e0 := hp.o 0 rfl
      have hf := he.h0.mP he 10 rfl e0
      refine zL hf hc sc_25 m0 rfl fun a w hf hc => zD θ he hi hf 11 rfl rfl rfl hc
     ·intro E θ a w hD hi hp he hc
      have hf := he.h0.mT he 7 rfl
      refine sp 1 hf rfl fun a hf => zD θ he hi hf 12 rfl rfl rfl hc
     ·intro E θ a w hD hi hp he hc
      have hf := he.h0.mT he 2 rfl
      refine sp 1 hf rfl fun a hf => zD θ he hi hf 13 rfl rfl rfl hc
     ·intro E θ a w hD hi hp he hc
      have hf := he.h0.mT he 7 rfl
      refine sp 1 hf rfl fun a hf => zD θ he hi hf 14 rfl rfl rfl hc
     ·intro E θ a w hD hi hp he hc
      have e3 := hp.o 3 rfl
      have e4 := hp.o 4 rfl
      have hf := (he.h0.mP he 13 rfl e3).mP he 14 rfl e4
      refine zP hf rfl (pIA Tryz.underlying35 sz_3 rfl rfl qa_5) fun a hf => zD θ he hi hf 15 rfl rfl rfl hc
     ·intro E θ a w hD hi hp he hc
      have e5 := hp.o 5 rfl
      have hf := he.h0.mP he 15 rfl e5
      refine zE hf hc rfl (eLd1 sc_3 rfl (cell_row (sz := 1) (i := x_9.toNat) (j := 0) m5 qr_5 rfl)) fun a w hf hc => zD θ he hi hf 16 rfl rfl rfl hc
     ·intro E θ a w hD hi hp he hc
      have e1 := hp.o 1 rfl
      have e2 := hp.o 2 rfl
      have e8 := hD.f 0 rfl hi
      have e9 := hD.f 1 rfl e8
      try dsimp only at hc
      rw [e9] at hc
      have hf := (he.h0.mP he 11 rfl e1).mP he 12 rfl e2
      refine zP hf rfl (pIA Tryz.underlying25 sz_45 rfl rfl qa_6) fun a hf => zD θ he hi hf 17 rfl rfl rfl ?_
      try dsimp only
      rw [updE_fls 7 e9 rfl]
      exact hc
     ·intro E θ a w hD hi hp he hc
      have e7 := hp.o 7 rfl
      have hf := he.h0.mP he 17 rfl e7
      refine zP hf rfl (pFA fa_45_0 rfl) fun a hf => zD θ he hi hf 18 rfl rfl rfl hc
     ·intro E θ a w hD hi hp he hc
      have e6 := hp.o 6 rfl
      have e8 := hp.o 8 rfl
      try dsimp only at hc
      rw [hi] at hc
      have hf := (he.h0.mP he 16 rfl e6).mP he 18 rfl e8
      refine stRw (sz := 4) (vs := [i6 e_6]) (o' := 0) (z := (⟨e_6,e_7.Long,e_7.Weight⟩ : crew_Ride)) (xs := x_10) hf hc rfl rfl rfl rfl sz_3 rfl (fun x => (one_enc_crew_Ride x).1) (getI_lt he_7) (fun e' he' => by cases (he'.symm.trans (getI_spec he_7).2); rfl) rfl u2 fun w hc => zG θ he hi hf rfl ?_
      try dsimp only
      rw [updE_self E 9]
      exact hc
     ·intro E θ a w hall he hc
      have hf := he.h0
      have e9 := hall 9 rfl
      replace hf := hf.more he 9 rfl (onT)
      replace hf := hf.more he 8 rfl (onT)
      replace hf := hf.more he 7 rfl (onT)
      replace hf := hf.more he 6 rfl (onT)
      replace hf := hf.more he 5 rfl (onT)
      replace hf := hf.more he 4 rfl (onT)
      replace hf := hf.more he 3 rfl (onT)
      replace hf := hf.more he 2 rfl (onT)
      replace hf := hf.more he 1 rfl (onT)
      replace hf := hf.more he 0 rfl (onT)
      try dsimp only at hc
      rw [e9] at hc
      exact ⟨hf.kp rfl,hc⟩
     rintro a w ⟨hf,hc⟩
     refine h29 _ _ ?_
     obtain ⟨e_8,he_8,hF⟩ := bnd_some hF
     obtain ⟨qa_7,qr_7⟩ := row_atk hc m5 he_8
     obtain ⟨e_9,he_9,hF⟩ := bnd_some hF
     obtain ⟨g_4,rfl,qa_8,qr_8⟩ := row_atm hc m1 he_9
     obtain ⟨e_10,he_10,hF⟩ := bnd_some hF
     obtain ⟨qa_9,qr_9⟩ := row_atk hc m4 he_10
     obtain ⟨e_11,he_11,hF⟩ := bnd_some hF
     obtain ⟨g_5,rfl,qa_10,qr_10⟩ := row_atm hc m3 he_11
     refine cQ hc follows_mx (by kernel_rfl) ?_
     refine qE hf rfl rfl rfl (Pu.ev (pM rfl)) fun a hf => qE hf rfl rfl rfl (Pu.ev (pM rfl)) fun a hf => qE hf rfl rfl rfl (Pu.ev (pM rfl)) fun a hf => qE hf rfl rfl rfl (Pu.ev (pIA Tryz.underlying35 sz_3 rfl rfl qa_7)) fun a hf => qE hf rfl rfl rfl (eLd1 sc_3 rfl (cell_row (sz := 1) (i := x_9.toNat) (j := 0) m5 qr_7 rfl)) fun a hf => qE hf rfl rfl rfl (Pu.ev (pFA fa_27_4 rfl)) fun a hf => qE hf rfl rfl rfl (eLd1 sc_25 rfl (cell_box m7 rfl)) fun a hf => qE hf rfl rfl rfl (Pu.ev (pM rfl)) fun a hf => qE hf rfl rfl rfl (Pu.ev (pIA Tryz.underlying25 sz_45 rfl rfl qa_8)) fun a hf => qE hf rfl rfl rfl (Pu.ev (pFA fa_45_1 rfl)) fun a hf => qE hf rfl rfl rfl (eLd1 sc_3 rfl (cell_row (sz := 4) (i := x_9.toNat) (j := 1) m1 qr_8 rfl)) fun a hf => qE hf rfl rfl rfl (Pu.ev (pAdd rfl rfl)) fun a hf => qE hf rfl rfl rfl (Pu.ev (pMax2 rfl rfl)) fun a hf => ?_
     refine qE hf rfl rfl rfl (Pu.ev (pM rfl)) fun a hf => qE hf rfl rfl rfl (Pu.ev (pM rfl)) fun a hf => qE hf rfl rfl rfl (Pu.ev (pM rfl)) fun a hf => qE hf rfl rfl rfl (Pu.ev (pIA Tryz.underlying35 sz_3 rfl rfl qa_9)) fun a hf => qE hf rfl rfl rfl (eLd1 sc_3 rfl (cell_row (sz := 1) (i := x_9.toNat) (j := 0) m4 qr_9 rfl)) fun a hf => qE hf rfl rfl rfl (Pu.ev (pFA fa_27_4 rfl)) fun a hf => qE hf rfl rfl rfl (eLd1 sc_25 rfl (cell_box m6 rfl)) fun a hf => qE hf rfl rfl rfl (Pu.ev (pM rfl)) fun a hf => qE hf rfl rfl rfl (Pu.ev (pIA Tryz.underlying25 sz_45 rfl rfl qa_10)) fun a hf => qE hf rfl rfl rfl (Pu.ev (pFA fa_45_1 rfl)) fun a hf => qE hf rfl rfl rfl (eLd1 sc_3 rfl (cell_row (sz := 4) (i := x_9.toNat) (j := 1) m3 qr_10 rfl)) fun a hf => qE hf rfl rfl rfl (Pu.ev (pAdd rfl rfl)) fun a hf => qE hf rfl rfl rfl (Pu.ev (pMax2 rfl rfl)) fun a hf => ?_
     refine qE hf rfl rfl rfl (Pu.ev (pA rfl)) fun a hf => qE hf rfl rfl rfl (Pu.ev (pA rfl)) fun a hf => ?_
     intro w hc
     refine h24 _ _ ?_
     refine cReg ?_
     refine sp 2 hf rfl fun a hf => cNil ?_
     replace hc : Ctx G (.box b_6 [i6 r_9.Car,i6 r_9.Wide,i6 r_9.Sag,i6 r_9.Most,.slice (some ⟨g_3,0,none⟩) ((x_10.set x_9.toNat (⟨e_6,e_7.Long,e_7.Weight⟩ : crew_Ride)).length) c_12] 27::.row (some ⟨g_4,0,none⟩) c_10 (x_7.map enc_crew_Ride) 45 4::.row (some ⟨g_3,0,none⟩) c_12 ((x_10.set x_9.toNat (⟨e_6,e_7.Long,e_7.Weight⟩ : crew_Ride)).map enc_crew_Ride) 45 4::.row (some ⟨g_5,0,none⟩) c_11 (x_8.map enc_crew_Ride) 45 4::.row (some ⟨g_1,0,none⟩) c_9 (r_8.1.map encI_i64) 3 1::.row (some ⟨g,0,none⟩) c_8 (r_7.1.map encI_i64) 3 1::.box b_5 [i6 r_5.Car,i6 r_5.Wide,i6 r_5.Sag,i6 r_5.Most,.slice (some ⟨g_5,0,none⟩) x_8.length c_11] 27::.box b_4 [i6 r_3.1.Car,i6 r_3.1.Wide,i6 r_3.1.Sag,i6 (W ((W ((W ((W ((W (r_3.1.Car + r_4.1)) * r_3.1.Wide)) * 25)).tdiv r_3.1.Sag)) + 1)),.slice (some ⟨g_4,0,none⟩) x_7.length c_10] 27::Lf) w := by simp only [List.length_set] at hc ⊢; exact hc
     exact hK19 (max end_ (W (e_8 + e_9.Long)),max late (W (e_10 + e_11.Long)),W (x_9 + 1),(x_10.set x_9.toNat (⟨e_6,e_7.Long,e_7.Weight⟩ : crew_Ride))) _ _ (sj hF).symm ⟨(some ⟨g,0,none⟩),c_8,(some ⟨g_1,0,none⟩),c_9,(some ⟨g_4,0,none⟩),c_10,(some ⟨g_5,0,none⟩),c_11,(some ⟨g_3,0,none⟩),c_12,hf.kp rfl,hc⟩
   ·refine wp_exit ?_
    refine xThen ?_
    refine xThen ?_
    have he := sj hF
    rw [← he] at hfin19
    refine cHit ?_
    exact hr19 _ _ _ hfin19 ⟨p_8,c_8,p_9,c_9,p_10,c_10,p_11,c_11,p_12,c_12,hf.kp rfl,hc⟩
 have ho9 : ∀ r,x9 = .out r → r = res := by
  rintro r rfl
  exact sj hF
 refine cLoop N (loopW (S := S9) (x := x9) ?_ N (0,r_6.2.1,r_6.2.2,r_4.2.1,r_4.2.2,r_2.1,r_2.2,r_3.1.Rides,r_5.Rides) _ _ ⟨p_1,c_1,p_2,c_2,hf.kp rfl,hc⟩ hx9)
 clear hF hf hc
 rintro ⟨x,x_1,x_2,x_3,x_4,x_5,x_6,x_7,x_8⟩ st9 a w KB9 ⟨p_3,c_3,p_4,c_4,hf,hc⟩ hF hfin9 hK9
 unfold top_TopHung_b9 at hF
 refine zS fun K h => sp 1 hf rfl fun a hf => zT h ?_
 refine wp_seq_k fun K31 h31 => zI hf rfl hF ?_ ?_ <;> clear hF <;> intro hF
 ·refine wp_skip ?_
  refine h31 _ _ ?_
  refine wp_seq_k fun K32 h32 => wp_block ?_
  refine zS fun K h => sp 1 hf rfl fun a hf => ?_
  obtain ⟨r_12,hr_12,hF⟩ := bnd_some hF
  refine zC hf en_8 rfl (law03_Sited_ok (⟨numbers,x_1,x_2⟩ : kit_Stream) 8 h_numbers (hc.pick k0) hr_12) ?_
  rintro _ w ⟨p_13,c_13,rfl,hc⟩
  refine ⟨_,rfl,fun a hf => ?_⟩
  refine zA hf hc zr_33 rfl fun b_7 a w hf hc => zW hf hc sz_33 u0 rfl fun w hc => zT h ?_
  refine zS fun K h => zP hf rfl (pFA fa_33_2 rfl) fun a hf => zW hf hc sz_3 u0 rfl fun w hc => zP hf rfl (pFA fa_33_3 rfl) fun a hf => zW hf hc sz_3 u0 rfl fun w hc => zT h ?_
  refine wp_seq_k fun K35 h35 => cReg ?_
  refine zN hf hc ag_33 m0 rfl fun a w hf hc => ?_
  obtain ⟨r_13,hr_13,hF⟩ := bnd_some hF
  obtain ⟨G1,hle1,hrd1,hc,hth1⟩ := lend hc k1
  refine zC hf en_9 rfl (gauge_Plan_ok (⟨r_12.1.Left,r_12.1.Right,50,100,r_12.1.Points⟩ : gauge_Site) hrd1 hc hr_13) ?_
  rintro _ w ⟨p_14,c_14,rfl,hc⟩
  refine ⟨_,rfl,fun a hf => ?_⟩
  replace hc := hth1 _ _ hc
  refine sp 7 hf rfl fun a hf => cNil ?_
  replace hc := hc.drop k1
  refine h35 _ _ ?_
  refine zS fun K h => sp 1 hf rfl fun a hf => zT h ?_
  refine wp_seq_k fun K37 h37 => zS fun K h => zP hf rfl (pFA fa_33_4 rfl) fun a hf => zL hf hc sc_31 m1 rfl fun a w hf hc => zP hf rfl (pLenS Tryz.underlying31 rfl) fun a hf => sp 1 hf rfl fun a hf => zT h ?_
  refine wp_block ?_
  obtain ⟨x39,hx39,hF⟩ := bnd_some hF
  let S39 : ((List Int) × Int) → Act → World → Prop := (fun (zz : (List Int) × Int) a w => ∃ (p_15 : Option Addr) (c_15 : Nat),Has 263 a [(7,pq b_1),(8,pq b_2),(9,pq b_3),(10,pq b_4),(11,pq b_5),(12,pq b_7),(14,i6 r_13.2.1),(15,i6 r_13.2.2),(16,.slice p_15 zz.1.length c_15),(60,i6 r_6.1),(61,i6 x),(75,i6 ((r_12.1.Points.length : Nat) : Int)),(76,i6 zz.2)] ∧ Ctx G (.row p_15 c_15 (zz.1.map encI_i64) 3 1::.row p_13 c_13 (r_12.1.Points.map enc_gauge_Point) 57 3::.box b_7 [i6 r_12.1.Left,i6 r_12.1.Right,i6 50,i6 100,.slice p_13 r_12.1.Points.length c_13] 33::.box b_1 [.slice numbers_p numbers.length numbers_c,i6 r_12.2.1,i6 r_12.2.2] 53::.box b_5 [i6 r_5.Car,i6 r_5.Wide,i6 r_5.Sag,i6 r_5.Most,.slice p_4 x_8.length c_4] 27::.row p_3 c_3 (x_7.map enc_crew_Ride) 45 4::.row p_4 c_4 (x_8.map enc_crew_Ride) 45 4::.box b_4 [i6 r_3.1.Car,i6 r_3.1.Wide,i6 r_3.1.Sag,i6 (W ((W ((W ((W ((W (r_3.1.Car + r_4.1)) * r_3.1.Wide)) * 25)).tdiv r_3.1.Sag)) + 1)),.slice p_3 x_7.length c_3] 27::.box b_2 [.slice cables_p cables.length cables_c,i6 x_3,i6 x_4] 53::.box b_3 [.slice dearer_p dearer.length dearer_c,i6 x_5,i6 x_6] 53::Lf) w)
  have hr39 : ∀ (zz : (List Int) × Int) a w,x39 = .go zz → S39 zz a w → K37 a w := by
   rintro ⟨all,x_11⟩ a w rfl ⟨p_15,c_15,hf,hc⟩
   replace hF := exK_go hF
   refine h37 _ _ ?_
   refine wp_seq_k fun K40 h40 => cReg ?_
   refine zN hf hc ag_33 m2 rfl fun a w hf hc => sp 1 hf rfl fun a hf => ?_
   obtain ⟨r_14,hr_14,hF⟩ := bnd_some hF
   refine zQ (v := .tuple #[i6 r_14.1,i6 r_14.2]) hf hc en_10 rfl (fun w hc => by obtain ⟨G1,hle1,hrd1,hc,hth1⟩ := lend hc k1; obtain ⟨G2,hle2,hrd2,hc,hth2⟩ := lend hc k0; exact (gauge_Cost_ok (⟨r_12.1.Left,r_12.1.Right,50,100,r_12.1.Points⟩ : gauge_Site) all (hrd1.mono hle2) hrd2 hc hr_14).mono fun e w h => ⟨h.1,((hth1 _ _ ((hth2 _ _ h.2).unpick k0)).unpick k1)⟩) fun a w hf hc => sp 5 hf rfl fun a hf => cNil ?_
   replace hc := ((hc.drop k2).drop k1).drop k0
   refine h40 _ _ ?_
   refine wp_seq_k fun K41 h41 => zS fun K h => sp 3 hf rfl fun a hf => stCc 3 (fun a => Has 263 a [(7,pq b_1),(8,pq b_2),(9,pq b_3),(10,pq b_4),(11,pq b_5),(14,i6 r_13.2.1),(15,i6 r_13.2.2),(60,i6 r_6.1),(61,i6 x),(18,i6 r_14.1),(19,i6 r_14.2),(91,i6 r_13.2.2),(92,.bool (r_13.2.2 != 0)),(93,.bool (r_13.2.2 != 0)),(96,.bool ((r_13.2.2 != 0) || (r_14.2 != 0)))]) hc ?_ ?_
   ·cases hb : (r_13.2.2 != 0)
    ·rw [hb] at hf
     refine sp 3 hf rfl fun a hf => cNil ⟨hf.kp rfl,hc⟩
    ·rw [hb] at hf
     refine stS hf rfl rfl rfl fun a hf => stS hf rfl rfl rfl fun a hf => sp 1 hf rfl fun a hf => cNil ⟨hf.kp rfl,hc⟩
   intro a w ⟨hf,hc⟩
   refine sp 1 hf rfl fun a hf => stCc 3 (fun a => Has 263 a [(7,pq b_1),(8,pq b_2),(9,pq b_3),(10,pq b_4),(11,pq b_5),(14,i6 r_13.2.1),(15,i6 r_13.2.2),(60,i6 r_6.1),(61,i6 x),(18,i6 r_14.1),(19,i6 r_14.2),(91,i6 r_13.2.2),(92,.bool (r_13.2.2 != 0)),(93,.bool (r_13.2.2 != 0)),(96,.bool ((r_13.2.2 != 0) || (r_14.2 != 0))),(97,.bool ((r_13.2.2 != 0) || (r_14.2 != 0))),(100,.bool (((r_13.2.2 != 0) || (r_14.2 != 0)) || (decide (r_13.2.1 < 0))))]) hc ?_ ?_
   ·cases hb : ((r_13.2.2 != 0) || (r_14.2 != 0))
    ·rw [hb] at hf
     refine sp 3 hf rfl fun a hf => cNil ⟨hf.kp rfl,hc⟩
    ·rw [hb] at hf
     refine stS hf rfl rfl rfl fun a hf => stS hf rfl rfl rfl fun a hf => sp 1 hf rfl fun a hf => cNil ⟨hf.kp rfl,hc⟩
   intro a w ⟨hf,hc⟩
   refine sp 1 hf rfl fun a hf => stCc 4 (fun a => Has 263 a [(7,pq b_1),(8,pq b_2),(9,pq b_3),(10,pq b_4),(11,pq b_5),(14,i6 r_13.2.1),(15,i6 r_13.2.2),(60,i6 r_6.1),(61,i6 x),(18,i6 r_14.1),(19,i6 r_14.2),(91,i6 r_13.2.2),(92,.bool (r_13.2.2 != 0)),(93,.bool (r_13.2.2 != 0)),(96,.bool ((r_13.2.2 != 0) || (r_14.2 != 0))),(97,.bool ((r_13.2.2 != 0) || (r_14.2 != 0))),(100,.bool (((r_13.2.2 != 0) || (r_14.2 != 0)) || (decide (r_13.2.1 < 0)))),(101,.bool (((r_13.2.2 != 0) || (r_14.2 != 0)) || (decide (r_13.2.1 < 0)))),(105,.bool ((((r_13.2.2 != 0) || (r_14.2 != 0)) || (decide (r_13.2.1 < 0))) || (decide (r_14.1 < r_13.2.1))))]) hc ?_ ?_
   ·cases hb : (((r_13.2.2 != 0) || (r_14.2 != 0)) || (decide (r_13.2.1 < 0)))
    ·rw [hb] at hf
     refine sp 4 hf rfl fun a hf => cNil ⟨hf.kp rfl,hc⟩
    ·rw [hb] at hf
     refine stS hf rfl rfl rfl fun a hf => stS hf rfl rfl rfl fun a hf => stS hf rfl rfl rfl fun a hf => sp 1 hf rfl fun a hf => cNil ⟨hf.kp rfl,hc⟩
   intro a w ⟨hf,hc⟩
   refine zT h ?_
   refine zI hf rfl hF ?_ ?_ <;> clear hF <;> intro hF
   ·refine zS fun K h => sp 1 hf rfl fun a hf => zT h ?_
    refine wp_ret ?_
    refine xThenR ?_
    refine xBlkR ?_
    refine xThenR ?_
    refine xThenR ?_
    have he := sj hF
    rw [← he] at hfin9
    replace hF := ho9 _ hfin9
    refine xBlkR ?_
    refine xThenR ?_
    obtain rfl := hF
    replace hc := ((((((hc.drop k6).drop k5).drop k4).drop k3).drop k2).drop k1).drop k0
    exact zO1 Tryz.results3 hf rfl ⟨rfl,hc⟩
   ·refine wp_skip ?_
    refine h41 _ _ ?_
    refine wp_seq_k fun K44 h44 => ?_
    have hj44 : ∀ (m : Int) (x_12 : Int) (x_13 : Int) a w,Has 263 a [(7,pq b_1),(8,pq b_2),(9,pq b_3),(10,pq b_4),(11,pq b_5),(14,i6 r_13.2.1),(18,i6 m),(60,i6 r_6.1),(61,i6 x)] → Ctx G (.box b_3 [.slice dearer_p dearer.length dearer_c,i6 x_12,i6 x_13] 53::.box b_1 [.slice numbers_p numbers.length numbers_c,i6 r_12.2.1,i6 r_12.2.2] 53::.box b_5 [i6 r_5.Car,i6 r_5.Wide,i6 r_5.Sag,i6 r_5.Most,.slice p_4 x_8.length c_4] 27::.row p_3 c_3 (x_7.map enc_crew_Ride) 45 4::.row p_4 c_4 (x_8.map enc_crew_Ride) 45 4::.box b_4 [i6 r_3.1.Car,i6 r_3.1.Wide,i6 r_3.1.Sag,i6 (W ((W ((W ((W ((W (r_3.1.Car + r_4.1)) * r_3.1.Wide)) * 25)).tdiv r_3.1.Sag)) + 1)),.slice p_3 x_7.length c_3] 27::.box b_2 [.slice cables_p cables.length cables_c,i6 x_3,i6 x_4] 53::Lf) w → top_TopHung_j44 N cables x x_3 x_4 x_7 x_8 r_12 r_13 m x_12 x_13 = some st9 → K44 a w := by
     repeat (clear hF)
     repeat (clear hc)
     repeat (clear hf)
     intro m x_12 x_13 a w hf hc hF
     unfold top_TopHung_j44 at hF
     refine h44 _ _ ?_
     refine zS fun K h => sp 1 hf rfl fun a hf => ?_
     obtain ⟨r_15,hr_15,hF⟩ := bnd_some hF
     refine zC hf en_6 rfl (kit_Stream_Within_ok (⟨cables,x_3,x_4⟩ : kit_Stream) 40 110 h_cables (hc.pick k6) hr_15) ?_
     rintro _ w ⟨rfl,hc⟩
     refine ⟨_,rfl,fun a hf => ?_⟩
     refine sp 1 hf rfl fun a hf => zT h ?_
     refine zS fun K h => sp 1 hf rfl fun a hf => ?_
     obtain ⟨r_16,hr_16,hF⟩ := bnd_some hF
     refine zC hf en_11 rfl (kit_Stream_Next_ok (⟨cables,r_15.2.1,r_15.2.2⟩ : kit_Stream) 90 h_cables (hc.pick k0) hr_16) ?_
     rintro _ w ⟨rfl,hc⟩
     refine ⟨_,rfl,fun a hf => ?_⟩
     refine sp 5 hf rfl fun a hf => ?_
     obtain ⟨r_17,hr_17,hF⟩ := bnd_some hF
     refine zC hf en_11 rfl (kit_Stream_Next_ok (⟨cables,r_16.2.1,r_16.2.2⟩ : kit_Stream) 12 h_cables (hc.pick k0) hr_17) ?_
     rintro _ w ⟨rfl,hc⟩
     refine ⟨_,rfl,fun a hf => ?_⟩
     refine sp 1 hf rfl fun a hf => zP hf rfl (pBuildS (cells := [i6 r_15.1,i6 (W (r_15.1 + r_17.1))]) bt_43 rfl rfl) fun a hf => zP hf rfl (pBuildS (cells := [i6 r_16.1,i6 (W (r_13.2.1 + 1)),i6 r_15.1,i6 (W (r_15.1 + r_17.1))]) bt_45 rfl rfl) fun a hf => zA hf hc zr_45 rfl fun b_8 a w hf hc => zW hf hc sz_45 u0 rfl fun w hc => zT h ?_
     refine wp_seq_k fun K47 h47 => cReg ?_
     refine zP hf rfl (pFA fa_27_4 rfl) fun a hf => zL hf hc sc_25 m7 rfl fun a w hf hc => zN hf hc ag_45 m0 rfl fun a w hf hc => stBS (rows := ([(⟨r_16.1,W (r_13.2.1 + 1),(⟨r_15.1,W (r_15.1 + r_17.1)⟩ : api_Span)⟩ : crew_Ride)] : List crew_Ride).map enc_crew_Ride) (vs := [(0,.agg #[i6 r_16.1,i6 (W (r_13.2.1 + 1)),i6 r_15.1,i6 (W (r_15.1 + r_17.1))])]) hf hc rfl rfl sl_25 rfl ⟨rfl,rfl,rfl,trivial⟩ rfl rfl fun b_9 a w hf hc => ?_
     obtain ⟨un_1,hun_1,hF⟩ := bnd_some hF
     refine stApm (xs := x_7) (ys := ([(⟨r_16.1,W (r_13.2.1 + 1),(⟨r_15.1,W (r_15.1 + r_17.1)⟩ : api_Span)⟩ : crew_Ride)] : List crew_Ride)) hf hc rfl rfl sl_25 rfl rfl rfl rfl rfl one_enc_crew_Ride (src_row hc m0) (fun _ _ => u6) (by simpa using room_spec hun_1) fun p_16 c_16 a w hf hc => zP hf rfl (pFA fa_27_4 rfl) fun a hf => zW hf hc sz_25 u8 rfl fun w hc => cNil ?_
     replace hc := hc.drop k0
     refine h47 _ _ ?_
     refine zS fun K h => sp 2 hf rfl fun a hf => zP hf rfl (pFA fa_45_1 rfl) fun a hf => zW hf hc sz_3 u0 rfl fun w hc => zT h ?_
     refine cReg ?_
     refine zP hf rfl (pFA fa_27_4 rfl) fun a hf => zL hf hc sc_25 m4 rfl fun a w hf hc => zN hf hc ag_45 m0 rfl fun a w hf hc => stBS (rows := ([(⟨r_16.1,W (m + 1),(⟨r_15.1,W (r_15.1 + r_17.1)⟩ : api_Span)⟩ : crew_Ride)] : List crew_Ride).map enc_crew_Ride) (vs := [(0,.agg #[i6 r_16.1,i6 (W (m + 1)),i6 r_15.1,i6 (W (r_15.1 + r_17.1))])]) hf hc rfl rfl sl_25 rfl ⟨rfl,rfl,rfl,trivial⟩ rfl rfl fun b_10 a w hf hc => ?_
     obtain ⟨un_2,hun_2,hF⟩ := bnd_some hF
     refine stApm (xs := x_8) (ys := ([(⟨r_16.1,W (m + 1),(⟨r_15.1,W (r_15.1 + r_17.1)⟩ : api_Span)⟩ : crew_Ride)] : List crew_Ride)) hf hc rfl rfl sl_25 rfl rfl rfl rfl rfl one_enc_crew_Ride (src_row hc m0) (fun _ _ => u7) (by simpa using room_spec hun_2) fun p_17 c_17 a w hf hc => zP hf rfl (pFA fa_27_4 rfl) fun a hf => zW hf hc sz_25 u5 rfl fun w hc => cNil ?_
     replace hc := (hc.drop k1).drop k0
     refine h32 _ _ ?_
     refine cReg ?_
     refine sp 2 hf rfl fun a hf => cNil ?_
     replace hc := ((((((hc.pick k1).pick k1).pick k6).pick k6).pick k6).pick k6).pick k6
     exact hK9 (W (x + 1),r_12.2.1,r_12.2.2,r_17.2.1,r_17.2.2,x_12,x_13,(x_7 ++ [(⟨r_16.1,W (r_13.2.1 + 1),(⟨r_15.1,W (r_15.1 + r_17.1)⟩ : api_Span)⟩ : crew_Ride)]),(x_8 ++ [(⟨r_16.1,W (m + 1),(⟨r_15.1,W (r_15.1 + r_17.1)⟩ : api_Span)⟩ : crew_Ride)])) _ _ (sj hF).symm ⟨p_16,c_16,p_17,c_17,hf.kp rfl,hc⟩
    refine zS fun K h => sp 1 hf rfl fun a hf => ?_
    obtain ⟨r_18,hr_18,hF⟩ := bnd_some hF
    refine zC hf en_11 rfl (kit_Stream_Next_ok (⟨dearer,x_5,x_6⟩ : kit_Stream) 2 h_dearer (hc.pick k6) hr_18) ?_
    rintro _ w ⟨rfl,hc⟩
    refine ⟨_,rfl,fun a hf => ?_⟩
    refine sp 1 hf rfl fun a hf => zT h ?_
    refine zI hf rfl hF ?_ ?_ <;> clear hF <;> intro hF
    ·refine cReg ?_
     refine sp 2 hf rfl fun a hf => cNil ?_
     exact hj44 r_13.2.1 r_18.2.1 r_18.2.2 _ _  (hf.kp rfl) hc hF
    ·refine wp_skip ?_
     exact hj44 r_14.1 r_18.2.1 r_18.2.2 _ _  (hf.kp rfl) hc hF
  have ho39 : ∀ r,x39 = .out r → r = st9 := by
   rintro r rfl
   exact sj hF
  replace hc := hc.nilRow 3 1
  refine cLoop N (loopW (S := S39) (x := x39) ?_ N (([] : List Int),0) _ _ ⟨none,0,hf.kp rfl,hc⟩ hx39)
  clear hF hf hc
  rintro ⟨all,x_11⟩ st39 a w KB39 ⟨p_15,c_15,hf,hc⟩ hF hfin39 hK39
  unfold top_TopHung_b39 at hF
  refine zS fun K h => sp 1 hf rfl fun a hf => zT h ?_
  refine wp_seq_k fun K51 h51 => zI hf rfl hF ?_ ?_ <;> clear hF <;> intro hF
  ·refine wp_skip ?_
   refine h51 _ _ ?_
   refine wp_seq_k fun K52 h52 => wp_block ?_
   refine zS fun K h => sp 2 hf rfl fun a hf => zT h ?_
   refine cReg ?_
   refine sp 3 hf rfl fun a hf => stBS (rows := ([W (x_11 + 1)] : List Int).map encI_i64) (vs := [(0,i6 (W (x_11 + 1)))]) hf hc rfl rfl sl_35 rfl ⟨rfl,rfl,rfl,trivial⟩ rfl rfl fun b_11 a w hf hc => ?_
   obtain ⟨un_3,hun_3,hF⟩ := bnd_some hF
   refine stApm (xs := all) (ys := ([W (x_11 + 1)] : List Int)) hf hc rfl rfl sl_35 rfl rfl rfl rfl rfl one_encI_i64 (src_row hc m0) (fun _ _ => u1) (by simpa using room_spec hun_3) fun p_18 c_18 a w hf hc => sp 1 hf rfl fun a hf => cNil ?_
   replace hc := hc.drop k0
   refine h52 _ _ ?_
   refine cReg ?_
   refine sp 2 hf rfl fun a hf => cNil ?_
   exact hK39 ((all ++ [W (x_11 + 1)]),W (x_11 + 1)) _ _ (sj hF).symm ⟨p_18,c_18,hf.kp rfl,hc⟩
  ·refine wp_exit ?_
   refine xThen ?_
   refine xThen ?_
   have he := sj hF
   rw [← he] at hfin39
   refine cHit ?_
   exact hr39 _ _ _ hfin39 ⟨p_15,c_15,hf.kp rfl,hc⟩
 ·refine wp_exit ?_
  refine xThen ?_
  refine xThen ?_
  have he := sj hF
  rw [← he] at hfin9
  refine cHit ?_
  exact hr9 _ _ _ hfin9 ⟨p_3,c_3,p_4,c_4,hf.kp rfl,hc⟩

end Go.Nilo
