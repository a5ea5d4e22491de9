/-
 What functions of the Go text compute, as plain functions, and that they do, part 3 of 5. Conditions: what each theorem names.
-/
import Derived.Test.YtbkcdekgmilmcaaGreatTw2
import Derived.Test.YtbkcdekgmilmcaaGreatProg
set_option linter.unusedVariables false
set_option linter.unusedSimpArgs false
set_option maxRecDepth 100000
set_option maxHeartbeats 4000000
namespace Go.Nilo
open Go.Proofs


def dV (N:Nat) (D:Int) (B:List aC) (k:Int):Option (bY ((List aC) × Int) ((List aC))) :=
 cond (decide (k < (W (D - 1))))
 (Option.bind (bE B (W (k + 1))) fun I=>
 Option.bind (bE B k) fun H=>
 Option.bind (bE B k) fun J=>
 Option.bind (bE B (W (k + 1))) fun M=>
 some (.cont (((B.set k.toNat I).set (W (k + 1)).toNat H),W (k + 1))))
 (some (.brk (B,k)))
def dY (N:Nat) (H:List aC) (a_:Int) (M:aF) (B:Int) (D:Int):Option (bY (Int × Int) ((List aC))) :=
 cond (decide (B < D))
 (Option.bind (bE H (W (((IntKind.u64.wrap (W (B + D))) / 2)))) fun I=>
 Option.bind (bE H a_) fun J=>
 Option.bind (eW N I J M) fun r=>
 cond (decide (r < 0))
 (some (.cont (W ((W (((IntKind.u64.wrap (W (B + D))) / 2))) + 1),D)))
 (some (.cont (B,W (((IntKind.u64.wrap (W (B + D))) / 2))))))
 (some (.brk (B,D)))
def dO (N:Nat) (J:Int) (B:List aC) (D:Int):Option (bY ((List aC) × Int) ((List aC))) :=
 cond (decide (J < D))
 (Option.bind (bE B (W (D - 1))) fun I=>
 Option.bind (bE B D) fun H=>
 Option.bind (bE B D) fun O=>
 Option.bind (bE B (W (D - 1))) fun M=>
 some (.cont (((B.set D.toNat I).set (W (D - 1)).toNat H),W (D - 1))))
 (some (.brk (B,D)))
def dR (N:Nat) (H:List aC) (m:Int) (O:aF) (B:Int) (D:Int):Option (bY (Int × Int) ((List aC))) :=
 cond (decide (B < D))
 (Option.bind (bE H m) fun I=>
 Option.bind (bE H (W (((IntKind.u64.wrap (W (B + D))) / 2)))) fun J=>
 Option.bind (eW N I J O) fun M=>
 cond (!(decide (M < 0)))
 (some (.cont (W ((W (((IntKind.u64.wrap (W (B + D))) / 2))) + 1),D)))
 (some (.cont (B,W (((IntKind.u64.wrap (W (B + D))) / 2))))))
 (some (.brk (B,D)))
def bH (N:Nat) (J:(List aC)→Int→Int→Int→aF→Option ((List aC))) (H:List aC) (a_:Int) (m:Int) (b_:Int) (M:aF) (B:Int) (D:List aC):Option ((List aC)) :=
 cond ((decide ((W (((IntKind.u64.wrap (W (a_ + b_))) / 2))) < (W ((W ((W (((IntKind.u64.wrap (W (a_ + b_))) / 2))) + m)) - B)))) && (decide ((W ((W ((W (((IntKind.u64.wrap (W (a_ + b_))) / 2))) + m)) - B)) < b_)))
 (Option.bind (J D (W (((IntKind.u64.wrap (W (a_ + b_))) / 2))) (W ((W ((W (((IntKind.u64.wrap (W (a_ + b_))) / 2))) + m)) - B)) b_ M) fun I=>
 Option.bind (pN I H) fun _=>
 some I)
 (Option.bind (pN D H) fun _=>
 some D)
def cO (N:Nat) (H:(List aC)→Int→Int→Int→aF→Option ((List aC))) (I:List aC) (a_:Int) (m:Int) (b_:Int) (J:aF) (B:Int) (D:List aC):Option ((List aC)) :=
 cond ((decide (a_ < B)) && (decide (B < (W (((IntKind.u64.wrap (W (a_ + b_))) / 2))))))
 (Option.bind (H D a_ B (W (((IntKind.u64.wrap (W (a_ + b_))) / 2))) J) fun M=>
 bH N H I a_ m b_ J B M)
 (bH N H I a_ m b_ J B D)
def dU (N:Nat) (H:List aC) (a_:Int) (m:Int) (b_:Int) (O:aF) (B:Int) (D:Int):Option (bY (Int × Int) ((List aC))) :=
 cond (decide (B < D))
 (Option.bind (bE H (W ((W ((W ((W (((IntKind.u64.wrap (W (a_ + b_))) / 2))) + m)) - 1)) - (W (((IntKind.u64.wrap (W (B + D))) / 2)))))) fun J=>
 Option.bind (bE H (W (((IntKind.u64.wrap (W (B + D))) / 2)))) fun I=>
 Option.bind (eW N J I O) fun M=>
 cond (!(decide (M < 0)))
 (some (.cont (W ((W (((IntKind.u64.wrap (W (B + D))) / 2))) + 1),D)))
 (some (.cont (B,W (((IntKind.u64.wrap (W (B + D))) / 2))))))
 (some (.brk (B,D)))
def cM (N:Nat) (I:(List aC)→Int→Int→Int→aF→Option ((List aC))) (D:List aC) (a_:Int) (m:Int) (b_:Int) (H:aF) (J:Int) (R:Int):Option ((List aC)) :=
 Option.bind (aX (fun B=>dU N D a_ m b_ H B.1 B.2) N (J,R)) fun M=>
 exK M (fun B=>cond ((decide (B.1 < m)) && (decide (m < (W ((W ((W (((IntKind.u64.wrap (W (a_ + b_))) / 2))) + m)) - B.1)))))
 (Option.bind (eS N D B.1 m (W ((W ((W (((IntKind.u64.wrap (W (a_ + b_))) / 2))) + m)) - B.1)) H) fun O=>
 cO N I D a_ m b_ H B.1 O)
 (cO N I D a_ m b_ H B.1 D)) some
def aK:Nat→(List aC)→Int→Int→Int→aF→Option ((List aC))
| 0,_,_,_,_,_=>none
| N + 1,data,a_,m,b_,cmp=>
 cond ((W (m - a_)) == 1)
 (Option.bind (aX (fun s6=>dY N data a_ cmp s6.1 s6.2) N (m,b_)) fun x6=>
 exK x6 (fun s6=>Option.bind (aX (fun s9=>dV N s6.1 s9.1 s9.2) N (data,a_)) fun x9=>
 exK x9 (fun s9=>Option.bind (pN s9.1 data) fun _=>
 some s9.1) some) some)
 (cond ((W (b_ - m)) == 1)
 (Option.bind (aX (fun D=>dR N data m cmp D.1 D.2) N (a_,m)) fun I=>
 exK I (fun D=>Option.bind (aX (fun B=>dO N D.1 B.1 B.2) N (data,m)) fun H=>
 exK H (fun B=>Option.bind (pN B.1 data) fun _=>
 some B.1) some) some)
 (cond (decide ((W (((IntKind.u64.wrap (W (a_ + b_))) / 2))) < m))
 (cM N (aK N) data a_ m b_ cmp (W ((W ((W (((IntKind.u64.wrap (W (a_ + b_))) / 2))) + m)) - b_)) (W (((IntKind.u64.wrap (W (a_ + b_))) / 2))))
 (cM N (aK N) data a_ m b_ cmp a_ m)))
theorem kK {N:Nat}:∀ {G:aT} {Lf:List Ent} {w:World} (s:List aC) (a_:Int) (m:Int) (b_:Int) (B:aF) {aa:Option Addr} {V:Nat} {q:Nat} {j:Nat} {b:Nat} {X:Option Addr} {Y:Nat} {O:Option Addr} {I:Nat} {D:Option Addr} {H:Nat} {U:Option Addr} {R:Nat} {M:Option Addr} {J:Nat} {mb:Nat} {bn:Hds} {d:Nat} (ab:Rd G 1 X Y (B.River.Down.map aB)) (t:Rd G 2 O I (B.River.Travel.map aI)) (p:Rd G 1 D H (B.River.Springs.map aB)) (y:Rd G 3 U R (B.River.Towns.map aG)) (v:RdT cH G 2 M J B.River.Floods) (hc:Ctx G (.row aa V (s.map aD) 62 2::.box q [.func (.func 45) #[] #[pq j,pq d]] 107::.box j [.func (.func 37) #[pq b] #[]] 96::.box b [.slice X B.River.Down.length Y,.slice O B.River.Travel.length I,.slice D B.River.Springs.length H,.slice U B.River.Towns.length R,i6 B.River.Delay.Lo,i6 B.River.Delay.Hi,.slice M B.River.Floods.length J,.map (some mb)] 102::bI mb aW B.found 3 bn::.box d [pq b] 71::Lf) w) {au:(List aC)} (hF:aK N s a_ m b_ B=some au),Calls Tryz.prog 105 #[.slice aa s.length V,i6 a_,i6 m,i6 b_,.func (.func 48) #[] #[pq q]] w (fun e w=>∃ (cv:Hds),e=.returned (.tuple #[])∧au.length=s.length∧Ctx G (.row aa V (au.map aD) 62 2::.box q [.func (.func 45) #[] #[pq j,pq d]] 107::.box j [.func (.func 37) #[pq b] #[]] 96::.box b [.slice X B.River.Down.length Y,.slice O B.River.Travel.length I,.slice D B.River.Springs.length H,.slice U B.River.Towns.length R,i6 B.River.Delay.Lo,i6 B.River.Delay.Hi,.slice M B.River.Floods.length J,.map (some mb)] 102::bI mb aW B.found 3 cv::.box d [pq b] 71::Lf) w):=by
 induction N with
 | zero=>
  intro G Lf w s a_ m b_ B aa V q j b X Y O I D H U R M J mb bn d ab t p y v hc au hF
  exact aBn hF
 | succ N ih=>
 intro G Lf w s a_ m b_ B aa V q j b X Y O I D H U R M J mb bn d ab t p y v hc au hF
 rw [aK] at hF
 refine bL Tryz.func105 rfl Tryz.ntmps105 rfl fun a hf=>wp_seq_k fun K1 h1=>zS fun K h=>sp 4 hf rfl fun a hf=>zT h ?_
 refine zI hf rfl hF ?_ ?_ <;> clear hF <;> intro hF
 ·refine zS fun K h=>sp 2 hf rfl fun a hf=>zT h ?_
  refine zS fun K h=>sp 2 hf rfl fun a hf=>zT h ?_
  refine wp_seq_k fun K5 h5=>wp_block ?_
  obtain ⟨x6,gk,hF⟩:=aA hF
  let S6:(Int × Int)→Act→World→Prop:=(fun (zz:Int × Int) a w=>∃ (a4:Hds),Has 220 a [(0,.slice aa s.length V),(1,i6 a_),(4,.func (.func 48) #[] #[pq q]),(10,i6 zz.1),(11,i6 zz.2)]∧Ctx G (.row aa V (s.map aD) 62 2::.box q [.func (.func 45) #[] #[pq j,pq d]] 107::.box j [.func (.func 37) #[pq b] #[]] 96::.box b [.slice X B.River.Down.length Y,.slice O B.River.Travel.length I,.slice D B.River.Springs.length H,.slice U B.River.Towns.length R,i6 B.River.Delay.Lo,i6 B.River.Delay.Hi,.slice M B.River.Floods.length J,.map (some mb)] 102::bI mb aW B.found 3 a4::.box d [pq b] 71::Lf) w)
  have gs:∀ (zz:Int × Int) a w,x6=.go zz→S6 zz a w→K5 a w:=by
   rintro ⟨ar,a1⟩ a w rfl ⟨a4,hf,hc⟩
   replace hF:=bK hF
   refine h5 _ _ ?_
   refine wp_seq_k fun K7 h7=>zS fun K h=>sp 2 hf rfl fun a hf=>zT h ?_
   refine wp_block ?_
   obtain ⟨x9,gy,hF⟩:=aA hF
   let S9:((List aC) × Int)→Act→World→Prop:=(fun (zz:(List aC) × Int) a w=>Has 220 a [(0,.slice aa zz.1.length V),(10,i6 ar),(13,i6 zz.2)]∧Ctx G (.row aa V (zz.1.map aD) 62 2::.box q [.func (.func 45) #[] #[pq j,pq d]] 107::.box j [.func (.func 37) #[pq b] #[]] 96::.box b [.slice X B.River.Down.length Y,.slice O B.River.Travel.length I,.slice D B.River.Springs.length H,.slice U B.River.Towns.length R,i6 B.River.Delay.Lo,i6 B.River.Delay.Hi,.slice M B.River.Floods.length J,.map (some mb)] 102::bI mb aW B.found 3 a4::.box d [pq b] 71::Lf) w)
   have g7:∀ (zz:(List aC) × Int) a w,x9=.go zz→S9 zz a w→K7 a w:=by
    rintro ⟨af,k⟩ a w rfl ⟨hf,hc⟩
    replace hF:=bK hF
    refine h7 _ _ ?_
    refine wp_ret ?_
    refine aL ?_
    obtain ⟨_,bi,hF⟩:=rI hF
    obtain rfl:=sj hF
    exact qZ (by simp) rfl Tryz.results105 hf ⟨a4,rfl,bi,hc⟩
   have i1:∀ r,x9=.out r→r=au:=by
    rintro r rfl
    exact sj hF
   refine cZ N (cW (S:=S9) (x:=x9) ?_ N (s,a_) _ _ ⟨hf.kp rfl,hc⟩ gy)
   clear hF hf hc
   rintro ⟨af,k⟩ it a w KB9 ⟨hf,hc⟩ hF b1 gg
   unfold dV at hF
   refine wp_seq_k fun K10 gu=>zS fun K h=>sp 4 hf rfl fun a hf=>zT h ?_
   refine zI hf rfl hF ?_ ?_ <;> clear hF <;> intro hF
   ·refine wp_skip ?_
    refine gu _ _ ?_
    refine wp_seq_k fun K12 gx=>wp_block ?_
    obtain ⟨ay,dq,hF⟩:=aA hF
    have a5:=hf
    obtain ⟨g,rfl,qa,qr⟩:=hP hc m0 dq
    have hf:=a5
    obtain ⟨a2,dr,hF⟩:=aA hF
    obtain ⟨d2,dp⟩:=eY hc m0 dr
    obtain ⟨iz,b9,hF⟩:=aA hF
    obtain ⟨d9,g9⟩:=eY hc m0 b9
    obtain ⟨i0,ca,hF⟩:=aA hF
    obtain ⟨dc,ip⟩:=eY hc m0 ca
    refine eL (fun θ=>[⟨none,none,0,.slice (some ⟨g,0,none⟩) af.length V⟩,⟨none,none,10,i6 ar⟩,⟨none,none,13,i6 k⟩,⟨some 0,none,61,.slice (some ⟨g,0,none⟩) af.length V⟩,⟨some 1,none,62,i6 k⟩,⟨some 2,none,63,.slice (some ⟨g,0,none⟩) af.length V⟩,⟨some 3,none,64,i6 k⟩,⟨some 4,none,65,i6 (W (k + 1))⟩,⟨some 5,none,66,.slice (some ⟨g,0,none⟩) af.length V⟩,⟨some 6,none,67,i6 k⟩,⟨some 7,none,68,i6 (W (k + 1))⟩,⟨some 8,none,69,.pointer (some ⟨g,(W (k + 1)).toNat * 2,none⟩)⟩,⟨some 9,none,70,.agg #[i6 ay.Spring,i6 ay.Town]⟩,⟨some 10,none,71,.slice (some ⟨g,0,none⟩) af.length V⟩,⟨some 11,none,72,i6 k⟩,⟨some 12,none,73,.pointer (some ⟨g,k.toNat * 2,none⟩)⟩,⟨some 13,none,74,.agg #[i6 a2.Spring,i6 a2.Town]⟩,⟨some 14,none,75,.pointer (some ⟨g,k.toNat * 2,none⟩)⟩,⟨some 16,none,76,.pointer (some ⟨g,(W (k + 1)).toNat * 2,none⟩)⟩]) (fun E θ=>(bif E 17 then .row (some ⟨g,0,none⟩) V (((af.set k.toNat ay).set (W (k + 1)).toNat a2).map aD) 62 2 else bif E 15 then .row (some ⟨g,0,none⟩) V ((af.set k.toNat ay).map aD) 62 2 else .row (some ⟨g,0,none⟩) V (af.map aD) 62 2)::.box q [.func (.func 45) #[] #[pq j,pq d]] 107::.box j [.func (.func 37) #[pq b] #[]] 96::.box b [.slice X B.River.Down.length Y,.slice O B.River.Travel.length I,.slice D B.River.Springs.length H,.slice U B.River.Towns.length R,i6 B.River.Delay.Lo,i6 B.River.Delay.Hi,.slice M B.River.Floods.length J,.map (some mb)] 102::bI mb aW B.found 3 a4::.box d [pq b] 71::Lf) [(15,8),(17,8),(15,9),(17,9),(13,12),(15,13),(17,12),(17,13),(15,14),(17,14),(17,15),(17,16)] (fun a w=>Has 220 a [(0,.slice (some ⟨g,0,none⟩) af.length V),(10,i6 ar),(13,i6 k)]∧Ctx G (.row (some ⟨g,0,none⟩) V (((af.set k.toNat ay).set (W (k + 1)).toNat a2).map aD) 62 2::.box q [.func (.func 45) #[] #[pq j,pq d]] 107::.box j [.func (.func 37) #[pq b] #[]] 96::.box b [.slice X B.River.Down.length Y,.slice O B.River.Travel.length I,.slice D B.River.Springs.length H,.slice U B.River.Towns.length R,i6 B.River.Delay.Lo,i6 B.River.Delay.Hi,.slice M B.River.Floods.length J,.map (some mb)] 102::bI mb aW B.found 3 a4::.box d [pq b] 71::Lf) w) bA (by kernel_rfl) (by kernel_rfl) (fN.of hf ⟨rfl,rfl,rfl,trivial,trivial,trivial,trivial,trivial,trivial,trivial,trivial,trivial,trivial,trivial,trivial,trivial,trivial,trivial,trivial,trivial⟩) hc ⟨?_,?_,?_,?_,?_,?_,?_,?_,?_,?_,?_,?_,?_,?_,?_,?_,?_,?_,trivial⟩ ?_ ?_
    ·intro E θ a w hD hi hp he hc
     have hf:=he.h0.mT he 0 rfl
     refine sp 1 hf rfl fun a hf=>zD θ he hi hf 3 rfl rfl rfl hc
    ·intro E θ a w hD hi hp he hc
     have hf:=he.h0.mT he 2 rfl
     refine sp 1 hf rfl fun a hf=>zD θ he hi hf 4 rfl rfl rfl hc
    ·intro E θ a w hD hi hp he hc
     have hf:=he.h0.mT he 0 rfl
     refine sp 1 hf rfl fun a hf=>zD θ he hi hf 5 rfl rfl rfl hc
    ·intro E θ a w hD hi hp he hc
     have hf:=he.h0.mT he 2 rfl
     refine sp 1 hf rfl fun a hf=>zD θ he hi hf 6 rfl rfl rfl hc
    ·intro E θ a w hD hi hp he hc
     have e3:=hp.o 3 rfl
     have hf:=he.h0.mP he 6 rfl e3
     refine sp 1 hf rfl fun a hf=>zD θ he hi hf 7 rfl rfl rfl hc
    ·intro E θ a w hD hi hp he hc
     have hf:=he.h0.mT he 0 rfl
     refine sp 1 hf rfl fun a hf=>zD θ he hi hf 8 rfl rfl rfl hc
    ·intro E θ a w hD hi hp he hc
     have hf:=he.h0.mT he 2 rfl
     refine sp 1 hf rfl fun a hf=>zD θ he hi hf 9 rfl rfl rfl hc
    ·intro E θ a w hD hi hp he hc
     have e6:=hp.o 6 rfl
     have hf:=he.h0.mP he 9 rfl e6
     refine sp 1 hf rfl fun a hf=>zD θ he hi hf 10 rfl rfl rfl hc
    ·intro E θ a w hD hi hp he hc
     have e5:=hp.o 5 rfl
     have e7:=hp.o 7 rfl
     have ac:=hD.f 0 rfl hi
     have ad:=hD.f 1 rfl hi
     try dsimp only at hc
     rw [ac,ad] at hc
     have hf:=(he.h0.mP he 8 rfl e5).mP he 10 rfl e7
     refine zP hf rfl (pIA Tryz.underlying49 gG rfl rfl qa) fun a hf=>zD θ he hi hf 11 rfl rfl rfl ?_
     try dsimp only
     rw [aQ 8 ac rfl,aQ 8 ad rfl]
     exact hc
    ·intro E θ a w hD hi hp he hc
     have e8:=hp.o 8 rfl
     have ac:=hD.f 2 rfl hi
     have ad:=hD.f 3 rfl hi
     try dsimp only at hc
     rw [ac,ad] at hc
     have hf:=he.h0.mP he 11 rfl e8
     refine zE hf hc rfl (lK (vs:=[i6 ay.Spring,i6 ay.Town]) jE rfl rfl (jL (sz:=2) (i:=(W (k + 1)).toNat) m0 qr (n:=2) (o':=0) rfl)) fun a w hf hc=>zD θ he hi hf 12 rfl rfl rfl ?_
     try dsimp only
     rw [aQ 9 ac rfl,aQ 9 ad rfl]
     exact hc
    ·intro E θ a w hD hi hp he hc
     have hf:=he.h0.mT he 0 rfl
     refine sp 1 hf rfl fun a hf=>zD θ he hi hf 13 rfl rfl rfl hc
    ·intro E θ a w hD hi hp he hc
     have hf:=he.h0.mT he 2 rfl
     refine sp 1 hf rfl fun a hf=>zD θ he hi hf 14 rfl rfl rfl hc
    ·intro E θ a w hD hi hp he hc
     have a8:=hp.o 10 rfl
     have a6:=hp.o 11 rfl
     have a7:=hD.f 4 rfl hi
     have ac:=hD.f 5 rfl a7
     have ad:=hD.f 6 rfl hi
     try dsimp only at hc
     rw [ac,ad] at hc
     have hf:=(he.h0.mP he 13 rfl a8).mP he 14 rfl a6
     refine zP hf rfl (pIA Tryz.underlying49 gG rfl rfl d2) fun a hf=>zD θ he hi hf 15 rfl rfl rfl ?_
     try dsimp only
     rw [aQ 12 ac rfl,aQ 12 ad rfl]
     exact hc
    ·intro E θ a w hD hi hp he hc
     have bu:=hp.o 12 rfl
     have ac:=hD.f 5 rfl hi
     have ad:=hD.f 7 rfl hi
     try dsimp only at hc
     rw [ac,ad] at hc
     have hf:=he.h0.mP he 15 rfl bu
     refine zE hf hc rfl (lK (vs:=[i6 a2.Spring,i6 a2.Town]) jE rfl rfl (jL (sz:=2) (i:=k.toNat) m0 dp (n:=2) (o':=0) rfl)) fun a w hf hc=>zD θ he hi hf 16 rfl rfl rfl ?_
     try dsimp only
     rw [aQ 13 ac rfl,aQ 13 ad rfl]
     exact hc
    ·intro E θ a w hD hi hp he hc
     have e0:=hp.o 0 rfl
     have e1:=hp.o 1 rfl
     have ac:=hD.f 8 rfl hi
     have ad:=hD.f 9 rfl hi
     try dsimp only at hc
     rw [ac,ad] at hc
     have hf:=(he.h0.mP he 3 rfl e0).mP he 4 rfl e1
     refine zP hf rfl (pIA Tryz.underlying49 gG rfl rfl d9) fun a hf=>zD θ he hi hf 17 rfl rfl rfl ?_
     try dsimp only
     rw [aQ 14 ac rfl,aQ 14 ad rfl]
     exact hc
    ·intro E θ a w hD hi hp he hc
     have e9:=hp.o 9 rfl
     have cb:=hp.o 14 rfl
     have ad:=hD.f 10 rfl hi
     try dsimp only at hc
     rw [hi,ad] at hc
     have hf:=(he.h0.mP he 12 rfl e9).mP he 17 rfl cb
     refine yA (sz:=2) (vs:=[i6 ay.Spring,i6 ay.Town]) (o':=0) (z:=ay) (xs:=af) hf hc rfl rfl rfl rfl gG rfl (fun x=>(dJ x).1) (mL b9) (fun _ _=>rfl) rfl u0 fun w hc=>zG θ he hi hf rfl ?_
     try dsimp only
     rw [aS E 15,aQ 15 ad rfl]
     exact hc
    ·intro E θ a w hD hi hp he hc
     have e2:=hp.o 2 rfl
     have e4:=hp.o 4 rfl
     have ac:=hp.o 15 rfl
     have ad:=hD.f 11 rfl hi
     try dsimp only at hc
     rw [ac,ad] at hc
     have hf:=(he.h0.mP he 5 rfl e2).mP he 7 rfl e4
     refine zP hf rfl (pIA Tryz.underlying49 gG rfl rfl dc) fun a hf=>zD θ he hi hf 18 rfl rfl rfl ?_
     try dsimp only
     rw [eC 16 ac,aQ 16 ad rfl]
     exact hc
    ·intro E θ a w hD hi hp he hc
     have a7:=hp.o 13 rfl
     have cc:=hp.o 16 rfl
     have ac:=hp.o 15 rfl
     try dsimp only at hc
     rw [ac,hi] at hc
     have hf:=(he.h0.mP he 16 rfl a7).mP he 18 rfl cc
     refine yA (sz:=2) (vs:=[i6 a2.Spring,i6 a2.Town]) (o':=0) (z:=a2) (xs:=(af.set k.toNat ay)) hf hc rfl rfl rfl rfl gG rfl (fun x=>(dJ x).1) (by simpa using mL ca) (fun _ _=>rfl) rfl u0 fun w hc=>zG θ he hi hf rfl ?_
     try dsimp only
     rw [eC 17 ac,aS E 17]
     exact hc
    ·intro E θ a w aj he hc
     have hf:=he.h0
     have ac:=aj 15 rfl
     have ad:=aj 17 rfl
     replace hf:=hf.more he 2 rfl (onT)
     replace hf:=hf.more he 1 rfl (onT)
     replace hf:=hf.more he 0 rfl (onT)
     try dsimp only at hc
     rw [ac,ad] at hc
     exact ⟨hf.kp rfl,hc⟩
    rintro a w ⟨hf,hc⟩
    refine gx _ _ ?_
    refine bV ?_
    refine sp 3 hf rfl fun a hf=>aP ?_
    replace hf:=hf.castAt 0 (v':=.slice (some ⟨g,0,none⟩) (((af.set k.toNat ay).set (W (k + 1)).toNat a2).length) V) rfl (congrArg (fun k=>Value.slice (some ⟨g,0,none⟩) k V) (by simp))
    exact gg (((af.set k.toNat ay).set (W (k + 1)).toNat a2),W (k + 1)) _ _ (sj hF).symm ⟨hf.kp rfl,hc⟩
   ·refine wp_exit ?_
    refine aY ?_
    refine aY ?_
    have he:=sj hF
    rw [← he] at b1
    refine fJ ?_
    exact g7 _ _ _ b1 ⟨hf.kp rfl,hc⟩
  have iv:∀ r,x6=.out r→r=au:=by
   rintro r rfl
   exact sj hF
  refine cZ N (cW (S:=S6) (x:=x6) ?_ N (m,b_) _ _ ⟨bn,hf.kp rfl,hc⟩ gk)
  clear hF hf hc
  rintro ⟨ar,a1⟩ iy a w KB6 ⟨a4,hf,hc⟩ hF b4 c9
  unfold dY at hF
  refine wp_seq_k fun K13 gj=>zS fun K h=>sp 3 hf rfl fun a hf=>zT h ?_
  refine zI hf rfl hF ?_ ?_ <;> clear hF <;> intro hF
  ·refine wp_skip ?_
   refine gj _ _ ?_
   refine iK fun K15 db=>wp_block ?_
   refine zS fun K h=>sp 3 hf rfl fun a hf=>zP hf rfl (pCv Tryz.underlying3 Tryz.underlying150 rfl) fun a hf=>zP hf rfl (aJ4 rfl rfl) fun a hf=>zP hf rfl (pCv Tryz.underlying150 Tryz.underlying3 rfl) fun a hf=>sp 1 hf rfl fun a hf=>zT h ?_
   refine wp_seq_k fun K17 gi=>?_
   obtain ⟨bz,d6,hF⟩:=aA hF
   have a5:=hf
   obtain ⟨bc,rfl,d5,di⟩:=hP hc m0 d6
   have hf:=a5
   obtain ⟨br,ga,hF⟩:=aA hF
   obtain ⟨du,d0⟩:=eY hc m0 ga
   obtain ⟨r,hr,hF⟩:=aA hF
   refine eL (fun θ=>[⟨none,none,0,.slice (some ⟨bc,0,none⟩) s.length V⟩,⟨none,none,1,i6 a_⟩,⟨none,none,4,.func (.func 48) #[] #[pq q]⟩,⟨none,none,10,i6 ar⟩,⟨none,none,11,i6 a1⟩,⟨none,none,12,i6 (W (((IntKind.u64.wrap (W (ar + a1))) / 2)))⟩,⟨some 0,none,40,.func (.func 48) #[] #[pq q]⟩,⟨some 1,none,41,.slice (some ⟨bc,0,none⟩) s.length V⟩,⟨some 2,none,42,i6 (W (((IntKind.u64.wrap (W (ar + a1))) / 2)))⟩,⟨some 3,none,43,.pointer (some ⟨bc,(W (((IntKind.u64.wrap (W (ar + a1))) / 2))).toNat * 2,none⟩)⟩,⟨some 4,none,44,.agg #[i6 bz.Spring,i6 bz.Town]⟩,⟨some 5,none,45,.slice (some ⟨bc,0,none⟩) s.length V⟩,⟨some 6,none,46,i6 a_⟩,⟨some 7,none,47,.pointer (some ⟨bc,a_.toNat * 2,none⟩)⟩,⟨some 8,none,48,.agg #[i6 br.Spring,i6 br.Town]⟩,⟨some 9,none,49,i6 r⟩,⟨some 10,none,50,.bool (decide (r < 0))⟩]) (fun E θ=>.row (some ⟨bc,0,none⟩) V (s.map aD) 62 2::.box q [.func (.func 45) #[] #[pq j,pq d]] 107::.box j [.func (.func 37) #[pq b] #[]] 96::.box b [.slice X B.River.Down.length Y,.slice O B.River.Travel.length I,.slice D B.River.Springs.length H,.slice U B.River.Towns.length R,i6 B.River.Delay.Lo,i6 B.River.Delay.Hi,.slice M B.River.Floods.length J,.map (some mb)] 102::(bif E 9 then bI mb aW B.found 3 ((θ 72).h) else bI mb aW B.found 3 a4)::.box d [pq b] 71::Lf) [] (fun a w=>∃ (bf:Hds),Has 220 a [(0,.slice (some ⟨bc,0,none⟩) s.length V),(1,i6 a_),(4,.func (.func 48) #[] #[pq q]),(10,i6 ar),(11,i6 a1),(12,i6 (W (((IntKind.u64.wrap (W (ar + a1))) / 2)))),(50,.bool (decide (r < 0)))]∧Ctx G (.row (some ⟨bc,0,none⟩) V (s.map aD) 62 2::.box q [.func (.func 45) #[] #[pq j,pq d]] 107::.box j [.func (.func 37) #[pq b] #[]] 96::.box b [.slice X B.River.Down.length Y,.slice O B.River.Travel.length I,.slice D B.River.Springs.length H,.slice U B.River.Towns.length R,i6 B.River.Delay.Lo,i6 B.River.Delay.Hi,.slice M B.River.Floods.length J,.map (some mb)] 102::bI mb aW B.found 3 bf::.box d [pq b] 71::Lf) w) bA (by kernel_rfl) (by kernel_rfl) (fN.of hf ⟨rfl,rfl,rfl,rfl,rfl,rfl,trivial,trivial,trivial,trivial,trivial,trivial,trivial,trivial,trivial,trivial,trivial,trivial⟩) hc ⟨?_,?_,?_,?_,?_,?_,?_,?_,?_,?_,?_,trivial⟩ ?_ ?_
   ·intro E θ a w hD hi hp he hc
    have hf:=he.h0.mT he 2 rfl
    refine sp 1 hf rfl fun a hf=>zD θ he hi hf 6 rfl rfl rfl hc
   ·intro E θ a w hD hi hp he hc
    have hf:=he.h0.mT he 0 rfl
    refine sp 1 hf rfl fun a hf=>zD θ he hi hf 7 rfl rfl rfl hc
   ·intro E θ a w hD hi hp he hc
    have hf:=he.h0.mT he 5 rfl
    refine sp 1 hf rfl fun a hf=>zD θ he hi hf 8 rfl rfl rfl hc
   ·intro E θ a w hD hi hp he hc
    have e1:=hp.o 1 rfl
    have e2:=hp.o 2 rfl
    have hf:=(he.h0.mP he 7 rfl e1).mP he 8 rfl e2
    refine zP hf rfl (pIA Tryz.underlying49 gG rfl rfl d5) fun a hf=>zD θ he hi hf 9 rfl rfl rfl hc
   ·intro E θ a w hD hi hp he hc
    have e3:=hp.o 3 rfl
    have hf:=he.h0.mP he 9 rfl e3
    refine zE hf hc rfl (lK (vs:=[i6 bz.Spring,i6 bz.Town]) jE rfl rfl (jL (sz:=2) (i:=(W (((IntKind.u64.wrap (W (ar + a1))) / 2))).toNat) m0 di (n:=2) (o':=0) rfl)) fun a w hf hc=>zD θ he hi hf 10 rfl rfl rfl hc
   ·intro E θ a w hD hi hp he hc
    have hf:=he.h0.mT he 0 rfl
    refine sp 1 hf rfl fun a hf=>zD θ he hi hf 11 rfl rfl rfl hc
   ·intro E θ a w hD hi hp he hc
    have hf:=he.h0.mT he 1 rfl
    refine sp 1 hf rfl fun a hf=>zD θ he hi hf 12 rfl rfl rfl hc
   ·intro E θ a w hD hi hp he hc
    have e5:=hp.o 5 rfl
    have e6:=hp.o 6 rfl
    have hf:=(he.h0.mP he 11 rfl e5).mP he 12 rfl e6
    refine zP hf rfl (pIA Tryz.underlying49 gG rfl rfl du) fun a hf=>zD θ he hi hf 13 rfl rfl rfl hc
   ·intro E θ a w hD hi hp he hc
    have e7:=hp.o 7 rfl
    have hf:=he.h0.mP he 13 rfl e7
    refine zE hf hc rfl (lK (vs:=[i6 br.Spring,i6 br.Town]) jE rfl rfl (jL (sz:=2) (i:=a_.toNat) m0 d0 (n:=2) (o':=0) rfl)) fun a w hf hc=>zD θ he hi hf 14 rfl rfl rfl hc
   ·intro E θ a w hD hi hp he hc
    have e0:=hp.o 0 rfl
    have e4:=hp.o 4 rfl
    have e8:=hp.o 8 rfl
    try dsimp only at hc
    rw [hi] at hc
    have hf:=((he.h0.mP he 6 rfl e0).mP he 10 rfl e4).mP he 14 rfl e8
    refine zC hf aKi rfl (kB bz br B ab t p y v (((((hc.pick k5).pick k5).pick k5).pick k5).pick k5) hr) ?_
    rintro _ w ⟨cu,rfl,hc⟩
    refine ⟨_,rfl,fun a hf=>?_⟩
    refine aP ?_
    refine eJ ?_
    intro ds u bx
    replace hc:=(((((hc.pick k4).pick k4).pick k4).pick k4).pick k4).pick k5
    refine ⟨(nF θ 72 ⟨0,none,0,cu⟩),he.put hi bx hf rfl [] trivial ⟨qq,qq,qq,qq,qq,qq,qq,qq,qq,qq,qq,qq,qq,qq,qq,qq,qq,trivial⟩,?_⟩
    try dsimp only
    rw [aS E 9]
    exact hc
   ·intro E θ a w hD hi hp he hc
    have e9:=hp.o 9 rfl
    have hf:=he.h0.mP he 15 rfl e9
    refine sp 1 hf rfl fun a hf=>zD θ he hi hf 16 rfl rfl rfl hc
   ·intro E θ a w aj he hc
    have hf:=he.h0
    have e9:=aj 9 rfl
    have a8:=aj 10 rfl
    replace hf:=hf.more he 16 rfl (onP a8)
    replace hf:=hf.more he 5 rfl (onT)
    replace hf:=hf.more he 4 rfl (onT)
    replace hf:=hf.more he 3 rfl (onT)
    replace hf:=hf.more he 2 rfl (onT)
    replace hf:=hf.more he 1 rfl (onT)
    replace hf:=hf.more he 0 rfl (onT)
    try dsimp only at hc
    rw [e9] at hc
    exact ⟨(θ 72).h,hf.kp rfl,hc⟩
   rintro a w ⟨bf,hf,hc⟩
   refine gi _ _ ?_
   refine zI hf rfl hF ?_ ?_ <;> clear hF <;> intro hF
   ·refine bV ?_
    refine sp 3 hf rfl fun a hf=>aP ?_
    refine db _ _ ?_
    exact c9 (W ((W (((IntKind.u64.wrap (W (ar + a1))) / 2))) + 1),a1) _ _ (sj hF).symm ⟨bf,hf.kp rfl,hc⟩
   ·refine bV ?_
    refine sp 2 hf rfl fun a hf=>aP ?_
    refine db _ _ ?_
    exact c9 (ar,W (((IntKind.u64.wrap (W (ar + a1))) / 2))) _ _ (sj hF).symm ⟨bf,hf.kp rfl,hc⟩
  ·refine wp_exit ?_
   refine aY ?_
   refine aY ?_
   have he:=sj hF
   rw [← he] at b4
   refine fJ ?_
   exact gs _ _ _ b4 ⟨a4,hf.kp rfl,hc⟩
 ·refine wp_skip ?_
  refine h1 _ _ ?_
  refine wp_seq_k fun K18 gq=>zS fun K h=>sp 4 hf rfl fun a hf=>zT h ?_
  refine zI hf rfl hF ?_ ?_ <;> clear hF <;> intro hF
  ·refine zS fun K h=>sp 2 hf rfl fun a hf=>zT h ?_
   refine zS fun K h=>sp 2 hf rfl fun a hf=>zT h ?_
   refine wp_seq_k fun K22 g6=>wp_block ?_
   obtain ⟨cj,dd,hF⟩:=aA hF
   let S23:(Int × Int)→Act→World→Prop:=(fun (zz:Int × Int) a w=>∃ (am:Hds),Has 220 a [(0,.slice aa s.length V),(2,i6 m),(4,.func (.func 48) #[] #[pq q]),(14,i6 zz.1),(15,i6 zz.2)]∧Ctx G (.row aa V (s.map aD) 62 2::.box q [.func (.func 45) #[] #[pq j,pq d]] 107::.box j [.func (.func 37) #[pq b] #[]] 96::.box b [.slice X B.River.Down.length Y,.slice O B.River.Travel.length I,.slice D B.River.Springs.length H,.slice U B.River.Towns.length R,i6 B.River.Delay.Lo,i6 B.River.Delay.Hi,.slice M B.River.Floods.length J,.map (some mb)] 102::bI mb aW B.found 3 am::.box d [pq b] 71::Lf) w)
   have dk:∀ (zz:Int × Int) a w,cj=.go zz→S23 zz a w→K22 a w:=by
    rintro ⟨aq,a3⟩ a w rfl ⟨am,hf,hc⟩
    replace hF:=bK hF
    refine g6 _ _ ?_
    refine wp_seq_k fun K24 g1=>zS fun K h=>sp 2 hf rfl fun a hf=>zT h ?_
    refine wp_block ?_
    obtain ⟨cf,dz,hF⟩:=aA hF
    let S26:((List aC) × Int)→Act→World→Prop:=(fun (zz:(List aC) × Int) a w=>Has 220 a [(0,.slice aa zz.1.length V),(14,i6 aq),(17,i6 zz.2)]∧Ctx G (.row aa V (zz.1.map aD) 62 2::.box q [.func (.func 45) #[] #[pq j,pq d]] 107::.box j [.func (.func 37) #[pq b] #[]] 96::.box b [.slice X B.River.Down.length Y,.slice O B.River.Travel.length I,.slice D B.River.Springs.length H,.slice U B.River.Towns.length R,i6 B.River.Delay.Lo,i6 B.River.Delay.Hi,.slice M B.River.Floods.length J,.map (some mb)] 102::bI mb aW B.found 3 am::.box d [pq b] 71::Lf) w)
    have dy:∀ (zz:(List aC) × Int) a w,cf=.go zz→S26 zz a w→K24 a w:=by
     rintro ⟨ag,ai⟩ a w rfl ⟨hf,hc⟩
     replace hF:=bK hF
     refine g1 _ _ ?_
     refine wp_ret ?_
     refine aL ?_
     obtain ⟨_,bi,hF⟩:=rI hF
     obtain rfl:=sj hF
     exact qZ (by simp) rfl Tryz.results105 hf ⟨am,rfl,bi,hc⟩
    have ia:∀ r,cf=.out r→r=au:=by
     rintro r rfl
     exact sj hF
    refine cZ N (cW (S:=S26) (x:=cf) ?_ N (s,m) _ _ ⟨hf.kp rfl,hc⟩ dz)
    clear hF hf hc
    rintro ⟨ag,ai⟩ ii a w KB26 ⟨hf,hc⟩ hF bs dv
    unfold dO at hF
    refine wp_seq_k fun K27 gz=>zS fun K h=>sp 3 hf rfl fun a hf=>zT h ?_
    refine zI hf rfl hF ?_ ?_ <;> clear hF <;> intro hF
    ·refine wp_skip ?_
     refine gz _ _ ?_
     refine wp_seq_k fun K29 gf=>wp_block ?_
     obtain ⟨av,gd,hF⟩:=aA hF
     have a5:=hf
     obtain ⟨ak,rfl,dg,dx⟩:=hP hc m0 gd
     have hf:=a5
     obtain ⟨a0,df,hF⟩:=aA hF
     obtain ⟨dj,d4⟩:=eY hc m0 df
     obtain ⟨ix,cg,hF⟩:=aA hF
     obtain ⟨d8,ij⟩:=eY hc m0 cg
     obtain ⟨ib,b5,hF⟩:=aA hF
     obtain ⟨d7,iq⟩:=eY hc m0 b5
     refine eL (fun θ=>[⟨none,none,0,.slice (some ⟨ak,0,none⟩) ag.length V⟩,⟨none,none,14,i6 aq⟩,⟨none,none,17,i6 ai⟩,⟨some 0,none,113,.slice (some ⟨ak,0,none⟩) ag.length V⟩,⟨some 1,none,114,i6 ai⟩,⟨some 2,none,115,.slice (some ⟨ak,0,none⟩) ag.length V⟩,⟨some 3,none,116,i6 ai⟩,⟨some 4,none,117,i6 (W (ai - 1))⟩,⟨some 5,none,118,.slice (some ⟨ak,0,none⟩) ag.length V⟩,⟨some 6,none,119,i6 ai⟩,⟨some 7,none,120,i6 (W (ai - 1))⟩,⟨some 8,none,121,.pointer (some ⟨ak,(W (ai - 1)).toNat * 2,none⟩)⟩,⟨some 9,none,122,.agg #[i6 av.Spring,i6 av.Town]⟩,⟨some 10,none,123,.slice (some ⟨ak,0,none⟩) ag.length V⟩,⟨some 11,none,124,i6 ai⟩,⟨some 12,none,125,.pointer (some ⟨ak,ai.toNat * 2,none⟩)⟩,⟨some 13,none,126,.agg #[i6 a0.Spring,i6 a0.Town]⟩,⟨some 14,none,127,.pointer (some ⟨ak,ai.toNat * 2,none⟩)⟩,⟨some 16,none,128,.pointer (some ⟨ak,(W (ai - 1)).toNat * 2,none⟩)⟩]) (fun E θ=>(bif E 17 then .row (some ⟨ak,0,none⟩) V (((ag.set ai.toNat av).set (W (ai - 1)).toNat a0).map aD) 62 2 else bif E 15 then .row (some ⟨ak,0,none⟩) V ((ag.set ai.toNat av).map aD) 62 2 else .row (some ⟨ak,0,none⟩) V (ag.map aD) 62 2)::.box q [.func (.func 45) #[] #[pq j,pq d]] 107::.box j [.func (.func 37) #[pq b] #[]] 96::.box b [.slice X B.River.Down.length Y,.slice O B.River.Travel.length I,.slice D B.River.Springs.length H,.slice U B.River.Towns.length R,i6 B.River.Delay.Lo,i6 B.River.Delay.Hi,.slice M B.River.Floods.length J,.map (some mb)] 102::bI mb aW B.found 3 am::.box d [pq b] 71::Lf) [(15,8),(17,8),(15,9),(17,9),(13,12),(15,13),(17,12),(17,13),(15,14),(17,14),(17,15),(17,16)] (fun a w=>Has 220 a [(0,.slice (some ⟨ak,0,none⟩) ag.length V),(14,i6 aq),(17,i6 ai)]∧Ctx G (.row (some ⟨ak,0,none⟩) V (((ag.set ai.toNat av).set (W (ai - 1)).toNat a0).map aD) 62 2::.box q [.func (.func 45) #[] #[pq j,pq d]] 107::.box j [.func (.func 37) #[pq b] #[]] 96::.box b [.slice X B.River.Down.length Y,.slice O B.River.Travel.length I,.slice D B.River.Springs.length H,.slice U B.River.Towns.length R,i6 B.River.Delay.Lo,i6 B.River.Delay.Hi,.slice M B.River.Floods.length J,.map (some mb)] 102::bI mb aW B.found 3 am::.box d [pq b] 71::Lf) w) bA (by kernel_rfl) (by kernel_rfl) (fN.of hf ⟨rfl,rfl,rfl,trivial,trivial,trivial,trivial,trivial,trivial,trivial,trivial,trivial,trivial,trivial,trivial,trivial,trivial,trivial,trivial,trivial⟩) hc ⟨?_,?_,?_,?_,?_,?_,?_,?_,?_,?_,?_,?_,?_,?_,?_,?_,?_,?_,trivial⟩ ?_ ?_
     ·intro E θ a w hD hi hp he hc
      have hf:=he.h0.mT he 0 rfl
      refine sp 1 hf rfl fun a hf=>zD θ he hi hf 3 rfl rfl rfl hc
     ·intro E θ a w hD hi hp he hc
      have hf:=he.h0.mT he 2 rfl
      refine sp 1 hf rfl fun a hf=>zD θ he hi hf 4 rfl rfl rfl hc
     ·intro E θ a w hD hi hp he hc
      have hf:=he.h0.mT he 0 rfl
      refine sp 1 hf rfl fun a hf=>zD θ he hi hf 5 rfl rfl rfl hc
     ·intro E θ a w hD hi hp he hc
      have hf:=he.h0.mT he 2 rfl
      refine sp 1 hf rfl fun a hf=>zD θ he hi hf 6 rfl rfl rfl hc
     ·intro E θ a w hD hi hp he hc
      have e3:=hp.o 3 rfl
      have hf:=he.h0.mP he 6 rfl e3
      refine sp 1 hf rfl fun a hf=>zD θ he hi hf 7 rfl rfl rfl hc
     ·intro E θ a w hD hi hp he hc
      have hf:=he.h0.mT he 0 rfl
      refine sp 1 hf rfl fun a hf=>zD θ he hi hf 8 rfl rfl rfl hc
     ·intro E θ a w hD hi hp he hc
      have hf:=he.h0.mT he 2 rfl
      refine sp 1 hf rfl fun a hf=>zD θ he hi hf 9 rfl rfl rfl hc
     ·intro E θ a w hD hi hp he hc
      have e6:=hp.o 6 rfl
      have hf:=he.h0.mP he 9 rfl e6
      refine sp 1 hf rfl fun a hf=>zD θ he hi hf 10 rfl rfl rfl hc
     ·intro E θ a w hD hi hp he hc
      have e5:=hp.o 5 rfl
      have e7:=hp.o 7 rfl
      have ac:=hD.f 0 rfl hi
      have ad:=hD.f 1 rfl hi
      try dsimp only at hc
      rw [ac,ad] at hc
      have hf:=(he.h0.mP he 8 rfl e5).mP he 10 rfl e7
      refine zP hf rfl (pIA Tryz.underlying49 gG rfl rfl dg) fun a hf=>zD θ he hi hf 11 rfl rfl rfl ?_
      try dsimp only
      rw [aQ 8 ac rfl,aQ 8 ad rfl]
      exact hc
     ·intro E θ a w hD hi hp he hc
      have e8:=hp.o 8 rfl
      have ac:=hD.f 2 rfl hi
      have ad:=hD.f 3 rfl hi
      try dsimp only at hc
      rw [ac,ad] at hc
      have hf:=he.h0.mP he 11 rfl e8
      refine zE hf hc rfl (lK (vs:=[i6 av.Spring,i6 av.Town]) jE rfl rfl (jL (sz:=2) (i:=(W (ai - 1)).toNat) m0 dx (n:=2) (o':=0) rfl)) fun a w hf hc=>zD θ he hi hf 12 rfl rfl rfl ?_
      try dsimp only
      rw [aQ 9 ac rfl,aQ 9 ad rfl]
      exact hc
     ·intro E θ a w hD hi hp he hc
      have hf:=he.h0.mT he 0 rfl
      refine sp 1 hf rfl fun a hf=>zD θ he hi hf 13 rfl rfl rfl hc
     ·intro E θ a w hD hi hp he hc
      have hf:=he.h0.mT he 2 rfl
      refine sp 1 hf rfl fun a hf=>zD θ he hi hf 14 rfl rfl rfl hc
     ·intro E θ a w hD hi hp he hc
      have a8:=hp.o 10 rfl
      have a6:=hp.o 11 rfl
      have a7:=hD.f 4 rfl hi
      have ac:=hD.f 5 rfl a7
      have ad:=hD.f 6 rfl hi
      try dsimp only at hc
      rw [ac,ad] at hc
      have hf:=(he.h0.mP he 13 rfl a8).mP he 14 rfl a6
      refine zP hf rfl (pIA Tryz.underlying49 gG rfl rfl dj) fun a hf=>zD θ he hi hf 15 rfl rfl rfl ?_
      try dsimp only
      rw [aQ 12 ac rfl,aQ 12 ad rfl]
      exact hc
     ·intro E θ a w hD hi hp he hc
      have bu:=hp.o 12 rfl
      have ac:=hD.f 5 rfl hi
      have ad:=hD.f 7 rfl hi
      try dsimp only at hc
      rw [ac,ad] at hc
      have hf:=he.h0.mP he 15 rfl bu
      refine zE hf hc rfl (lK (vs:=[i6 a0.Spring,i6 a0.Town]) jE rfl rfl (jL (sz:=2) (i:=ai.toNat) m0 d4 (n:=2) (o':=0) rfl)) fun a w hf hc=>zD θ he hi hf 16 rfl rfl rfl ?_
      try dsimp only
      rw [aQ 13 ac rfl,aQ 13 ad rfl]
      exact hc
     ·intro E θ a w hD hi hp he hc
      have e0:=hp.o 0 rfl
      have e1:=hp.o 1 rfl
      have ac:=hD.f 8 rfl hi
      have ad:=hD.f 9 rfl hi
      try dsimp only at hc
      rw [ac,ad] at hc
      have hf:=(he.h0.mP he 3 rfl e0).mP he 4 rfl e1
      refine zP hf rfl (pIA Tryz.underlying49 gG rfl rfl d8) fun a hf=>zD θ he hi hf 17 rfl rfl rfl ?_
      try dsimp only
      rw [aQ 14 ac rfl,aQ 14 ad rfl]
      exact hc
     ·intro E θ a w hD hi hp he hc
      have e9:=hp.o 9 rfl
      have cb:=hp.o 14 rfl
      have ad:=hD.f 10 rfl hi
      try dsimp only at hc
      rw [hi,ad] at hc
      have hf:=(he.h0.mP he 12 rfl e9).mP he 17 rfl cb
      refine yA (sz:=2) (vs:=[i6 av.Spring,i6 av.Town]) (o':=0) (z:=av) (xs:=ag) hf hc rfl rfl rfl rfl gG rfl (fun x=>(dJ x).1) (mL cg) (fun _ _=>rfl) rfl u0 fun w hc=>zG θ he hi hf rfl ?_
      try dsimp only
      rw [aS E 15,aQ 15 ad rfl]
      exact hc
     ·intro E θ a w hD hi hp he hc
      have e2:=hp.o 2 rfl
      have e4:=hp.o 4 rfl
      have ac:=hp.o 15 rfl
      have ad:=hD.f 11 rfl hi
      try dsimp only at hc
      rw [ac,ad] at hc
      have hf:=(he.h0.mP he 5 rfl e2).mP he 7 rfl e4
      refine zP hf rfl (pIA Tryz.underlying49 gG rfl rfl d7) fun a hf=>zD θ he hi hf 18 rfl rfl rfl ?_
      try dsimp only
      rw [eC 16 ac,aQ 16 ad rfl]
      exact hc
     ·intro E θ a w hD hi hp he hc
      have a7:=hp.o 13 rfl
      have cc:=hp.o 16 rfl
      have ac:=hp.o 15 rfl
      try dsimp only at hc
      rw [ac,hi] at hc
      have hf:=(he.h0.mP he 16 rfl a7).mP he 18 rfl cc
      refine yA (sz:=2) (vs:=[i6 a0.Spring,i6 a0.Town]) (o':=0) (z:=a0) (xs:=(ag.set ai.toNat av)) hf hc rfl rfl rfl rfl gG rfl (fun x=>(dJ x).1) (by simpa using mL b5) (fun _ _=>rfl) rfl u0 fun w hc=>zG θ he hi hf rfl ?_
      try dsimp only
      rw [eC 17 ac,aS E 17]
      exact hc
     ·intro E θ a w aj he hc
      have hf:=he.h0
      have ac:=aj 15 rfl
      have ad:=aj 17 rfl
      replace hf:=hf.more he 2 rfl (onT)
      replace hf:=hf.more he 1 rfl (onT)
      replace hf:=hf.more he 0 rfl (onT)
      try dsimp only at hc
      rw [ac,ad] at hc
      exact ⟨hf.kp rfl,hc⟩
     rintro a w ⟨hf,hc⟩
     refine gf _ _ ?_
     refine bV ?_
     refine sp 3 hf rfl fun a hf=>aP ?_
     replace hf:=hf.castAt 0 (v':=.slice (some ⟨ak,0,none⟩) (((ag.set ai.toNat av).set (W (ai - 1)).toNat a0).length) V) rfl (congrArg (fun k=>Value.slice (some ⟨ak,0,none⟩) k V) (by simp))
     exact dv (((ag.set ai.toNat av).set (W (ai - 1)).toNat a0),W (ai - 1)) _ _ (sj hF).symm ⟨hf.kp rfl,hc⟩
    ·refine wp_exit ?_
     refine aY ?_
     refine aY ?_
     have he:=sj hF
     rw [← he] at bs
     refine fJ ?_
     exact dy _ _ _ bs ⟨hf.kp rfl,hc⟩
   have ig:∀ r,cj=.out r→r=au:=by
    rintro r rfl
    exact sj hF
   refine cZ N (cW (S:=S23) (x:=cj) ?_ N (a_,m) _ _ ⟨bn,hf.kp rfl,hc⟩ dd)
   clear hF hf hc
   rintro ⟨aq,a3⟩ ir a w KB23 ⟨am,hf,hc⟩ hF bv b8
   unfold dR at hF
   refine wp_seq_k fun K30 g3=>zS fun K h=>sp 3 hf rfl fun a hf=>zT h ?_
   refine zI hf rfl hF ?_ ?_ <;> clear hF <;> intro hF
   ·refine wp_skip ?_
    refine g3 _ _ ?_
    refine iK fun K32 c8=>wp_block ?_
    refine zS fun K h=>sp 3 hf rfl fun a hf=>zP hf rfl (pCv Tryz.underlying3 Tryz.underlying150 rfl) fun a hf=>zP hf rfl (aJ4 rfl rfl) fun a hf=>zP hf rfl (pCv Tryz.underlying150 Tryz.underlying3 rfl) fun a hf=>sp 1 hf rfl fun a hf=>zT h ?_
    refine wp_seq_k fun K34 g4=>?_
    obtain ⟨bp,c0,hF⟩:=aA hF
    have a5:=hf
    obtain ⟨ba,rfl,c2,cz⟩:=hP hc m0 c0
    have hf:=a5
    obtain ⟨bj,cs,hF⟩:=aA hF
    obtain ⟨c5,cy⟩:=eY hc m0 cs
    obtain ⟨b3,gb,hF⟩:=aA hF
    refine eL (fun θ=>[⟨none,none,0,.slice (some ⟨ba,0,none⟩) s.length V⟩,⟨none,none,2,i6 m⟩,⟨none,none,4,.func (.func 48) #[] #[pq q]⟩,⟨none,none,14,i6 aq⟩,⟨none,none,15,i6 a3⟩,⟨none,none,16,i6 (W (((IntKind.u64.wrap (W (aq + a3))) / 2)))⟩,⟨some 0,none,92,.func (.func 48) #[] #[pq q]⟩,⟨some 1,none,93,.slice (some ⟨ba,0,none⟩) s.length V⟩,⟨some 2,none,94,i6 m⟩,⟨some 3,none,95,.pointer (some ⟨ba,m.toNat * 2,none⟩)⟩,⟨some 4,none,96,.agg #[i6 bp.Spring,i6 bp.Town]⟩,⟨some 5,none,97,.slice (some ⟨ba,0,none⟩) s.length V⟩,⟨some 6,none,98,i6 (W (((IntKind.u64.wrap (W (aq + a3))) / 2)))⟩,⟨some 7,none,99,.pointer (some ⟨ba,(W (((IntKind.u64.wrap (W (aq + a3))) / 2))).toNat * 2,none⟩)⟩,⟨some 8,none,100,.agg #[i6 bj.Spring,i6 bj.Town]⟩,⟨some 9,none,101,i6 b3⟩,⟨some 10,none,102,.bool (decide (b3 < 0))⟩,⟨some 11,none,103,.bool (!(decide (b3 < 0)))⟩]) (fun E θ=>.row (some ⟨ba,0,none⟩) V (s.map aD) 62 2::.box q [.func (.func 45) #[] #[pq j,pq d]] 107::.box j [.func (.func 37) #[pq b] #[]] 96::.box b [.slice X B.River.Down.length Y,.slice O B.River.Travel.length I,.slice D B.River.Springs.length H,.slice U B.River.Towns.length R,i6 B.River.Delay.Lo,i6 B.River.Delay.Hi,.slice M B.River.Floods.length J,.map (some mb)] 102::(bif E 9 then bI mb aW B.found 3 ((θ 72).h) else bI mb aW B.found 3 am)::.box d [pq b] 71::Lf) [] (fun a w=>∃ (bg:Hds),Has 220 a [(0,.slice (some ⟨ba,0,none⟩) s.length V),(2,i6 m),(4,.func (.func 48) #[] #[pq q]),(14,i6 aq),(15,i6 a3),(16,i6 (W (((IntKind.u64.wrap (W (aq + a3))) / 2)))),(103,.bool (!(decide (b3 < 0))))]∧Ctx G (.row (some ⟨ba,0,none⟩) V (s.map aD) 62 2::.box q [.func (.func 45) #[] #[pq j,pq d]] 107::.box j [.func (.func 37) #[pq b] #[]] 96::.box b [.slice X B.River.Down.length Y,.slice O B.River.Travel.length I,.slice D B.River.Springs.length H,.slice U B.River.Towns.length R,i6 B.River.Delay.Lo,i6 B.River.Delay.Hi,.slice M B.River.Floods.length J,.map (some mb)] 102::bI mb aW B.found 3 bg::.box d [pq b] 71::Lf) w) bA (by kernel_rfl) (by kernel_rfl) (fN.of hf ⟨rfl,rfl,rfl,rfl,rfl,rfl,trivial,trivial,trivial,trivial,trivial,trivial,trivial,trivial,trivial,trivial,trivial,trivial,trivial⟩) hc ⟨?_,?_,?_,?_,?_,?_,?_,?_,?_,?_,?_,?_,trivial⟩ ?_ ?_
    ·intro E θ a w hD hi hp he hc
     have hf:=he.h0.mT he 2 rfl
     refine sp 1 hf rfl fun a hf=>zD θ he hi hf 6 rfl rfl rfl hc
    ·intro E θ a w hD hi hp he hc
     have hf:=he.h0.mT he 0 rfl
     refine sp 1 hf rfl fun a hf=>zD θ he hi hf 7 rfl rfl rfl hc
    ·intro E θ a w hD hi hp he hc
     have hf:=he.h0.mT he 1 rfl
     refine sp 1 hf rfl fun a hf=>zD θ he hi hf 8 rfl rfl rfl hc
    ·intro E θ a w hD hi hp he hc
     have e1:=hp.o 1 rfl
     have e2:=hp.o 2 rfl
     have hf:=(he.h0.mP he 7 rfl e1).mP he 8 rfl e2
     refine zP hf rfl (pIA Tryz.underlying49 gG rfl rfl c2) fun a hf=>zD θ he hi hf 9 rfl rfl rfl hc
    ·intro E θ a w hD hi hp he hc
     have e3:=hp.o 3 rfl
     have hf:=he.h0.mP he 9 rfl e3
     refine zE hf hc rfl (lK (vs:=[i6 bp.Spring,i6 bp.Town]) jE rfl rfl (jL (sz:=2) (i:=m.toNat) m0 cz (n:=2) (o':=0) rfl)) fun a w hf hc=>zD θ he hi hf 10 rfl rfl rfl hc
    ·intro E θ a w hD hi hp he hc
     have hf:=he.h0.mT he 0 rfl
     refine sp 1 hf rfl fun a hf=>zD θ he hi hf 11 rfl rfl rfl hc
    ·intro E θ a w hD hi hp he hc
     have hf:=he.h0.mT he 5 rfl
     refine sp 1 hf rfl fun a hf=>zD θ he hi hf 12 rfl rfl rfl hc
    ·intro E θ a w hD hi hp he hc
     have e5:=hp.o 5 rfl
     have e6:=hp.o 6 rfl
     have hf:=(he.h0.mP he 11 rfl e5).mP he 12 rfl e6
     refine zP hf rfl (pIA Tryz.underlying49 gG rfl rfl c5) fun a hf=>zD θ he hi hf 13 rfl rfl rfl hc
    ·intro E θ a w hD hi hp he hc
     have e7:=hp.o 7 rfl
     have hf:=he.h0.mP he 13 rfl e7
     refine zE hf hc rfl (lK (vs:=[i6 bj.Spring,i6 bj.Town]) jE rfl rfl (jL (sz:=2) (i:=(W (((IntKind.u64.wrap (W (aq + a3))) / 2))).toNat) m0 cy (n:=2) (o':=0) rfl)) fun a w hf hc=>zD θ he hi hf 14 rfl rfl rfl hc
    ·intro E θ a w hD hi hp he hc
     have e0:=hp.o 0 rfl
     have e4:=hp.o 4 rfl
     have e8:=hp.o 8 rfl
     try dsimp only at hc
     rw [hi] at hc
     have hf:=((he.h0.mP he 6 rfl e0).mP he 10 rfl e4).mP he 14 rfl e8
     refine zC hf aKi rfl (kB bp bj B ab t p y v (((((hc.pick k5).pick k5).pick k5).pick k5).pick k5) gb) ?_
     rintro _ w ⟨cx,rfl,hc⟩
     refine ⟨_,rfl,fun a hf=>?_⟩
     refine aP ?_
     refine eJ ?_
     intro ds u bx
     replace hc:=(((((hc.pick k4).pick k4).pick k4).pick k4).pick k4).pick k5
     refine ⟨(nF θ 72 ⟨0,none,0,cx⟩),he.put hi bx hf rfl [] trivial ⟨qq,qq,qq,qq,qq,qq,qq,qq,qq,qq,qq,qq,qq,qq,qq,qq,qq,qq,trivial⟩,?_⟩
     try dsimp only
     rw [aS E 9]
     exact hc
    ·intro E θ a w hD hi hp he hc
     have e9:=hp.o 9 rfl
     have hf:=he.h0.mP he 15 rfl e9
     refine sp 1 hf rfl fun a hf=>zD θ he hi hf 16 rfl rfl rfl hc
    ·intro E θ a w hD hi hp he hc
     have a8:=hp.o 10 rfl
     have hf:=he.h0.mP he 16 rfl a8
     refine sp 1 hf rfl fun a hf=>zD θ he hi hf 17 rfl rfl rfl hc
    ·intro E θ a w aj he hc
     have hf:=he.h0
     have e9:=aj 9 rfl
     have a6:=aj 11 rfl
     replace hf:=hf.more he 17 rfl (onP a6)
     replace hf:=hf.more he 5 rfl (onT)
     replace hf:=hf.more he 4 rfl (onT)
     replace hf:=hf.more he 3 rfl (onT)
     replace hf:=hf.more he 2 rfl (onT)
     replace hf:=hf.more he 1 rfl (onT)
     replace hf:=hf.more he 0 rfl (onT)
     try dsimp only at hc
     rw [e9] at hc
     exact ⟨(θ 72).h,hf.kp rfl,hc⟩
    rintro a w ⟨bg,hf,hc⟩
    refine g4 _ _ ?_
    refine zI hf rfl hF ?_ ?_ <;> clear hF <;> intro hF
    ·refine bV ?_
     refine sp 3 hf rfl fun a hf=>aP ?_
     refine c8 _ _ ?_
     exact b8 (W ((W (((IntKind.u64.wrap (W (aq + a3))) / 2))) + 1),a3) _ _ (sj hF).symm ⟨bg,hf.kp rfl,hc⟩
    ·refine bV ?_
     refine sp 2 hf rfl fun a hf=>aP ?_
     refine c8 _ _ ?_
     exact b8 (aq,W (((IntKind.u64.wrap (W (aq + a3))) / 2))) _ _ (sj hF).symm ⟨bg,hf.kp rfl,hc⟩
   ·refine wp_exit ?_
    refine aY ?_
    refine aY ?_
    have he:=sj hF
    rw [← he] at bv
    refine fJ ?_
    exact dk _ _ _ bv ⟨am,hf.kp rfl,hc⟩
  ·refine wp_skip ?_
   refine gq _ _ ?_
   refine zS fun K h=>sp 3 hf rfl fun a hf=>zP hf rfl (pCv Tryz.underlying3 Tryz.underlying150 rfl) fun a hf=>zP hf rfl (aJ4 rfl rfl) fun a hf=>zP hf rfl (pCv Tryz.underlying150 Tryz.underlying3 rfl) fun a hf=>sp 1 hf rfl fun a hf=>zT h ?_
   refine zS fun K h=>sp 4 hf rfl fun a hf=>zT h ?_
   refine zS fun K h=>sp 2 hf rfl fun a hf=>zT h ?_
   refine wp_seq_k fun K38 gn=>?_
   have cm:∀ (bd:Int) (b2:Int) a w,Has 220 a [(0,.slice aa s.length V),(1,i6 a_),(2,i6 m),(3,i6 b_),(4,.func (.func 48) #[] #[pq q]),(18,i6 (W (((IntKind.u64.wrap (W (a_ + b_))) / 2)))),(19,i6 (W ((W (((IntKind.u64.wrap (W (a_ + b_))) / 2))) + m))),(20,i6 bd),(21,i6 b2)]→Ctx G (.row aa V (s.map aD) 62 2::.box q [.func (.func 45) #[] #[pq j,pq d]] 107::.box j [.func (.func 37) #[pq b] #[]] 96::.box b [.slice X B.River.Down.length Y,.slice O B.River.Travel.length I,.slice D B.River.Springs.length H,.slice U B.River.Towns.length R,i6 B.River.Delay.Lo,i6 B.River.Delay.Hi,.slice M B.River.Floods.length J,.map (some mb)] 102::bI mb aW B.found 3 bn::.box d [pq b] 71::Lf) w→cM N (aK N) s a_ m b_ B bd b2=some au→K38 a w:=by
    repeat (clear hF)
    repeat (clear hc)
    repeat (clear hf)
    intro bd b2 a w hf hc hF
    unfold cM at hF
    refine gn _ _ ?_
    refine zS fun K h=>sp 3 hf rfl fun a hf=>zT h ?_
    refine wp_seq_k fun K40 g5=>wp_block ?_
    obtain ⟨ck,dt,hF⟩:=aA hF
    let S41:(Int × Int)→Act→World→Prop:=(fun (zz:Int × Int) a w=>∃ (az:Hds),Has 220 a [(0,.slice aa s.length V),(1,i6 a_),(2,i6 m),(3,i6 b_),(4,.func (.func 48) #[] #[pq q]),(18,i6 (W (((IntKind.u64.wrap (W (a_ + b_))) / 2)))),(19,i6 (W ((W (((IntKind.u64.wrap (W (a_ + b_))) / 2))) + m))),(20,i6 zz.1),(21,i6 zz.2),(22,i6 (W ((W ((W (((IntKind.u64.wrap (W (a_ + b_))) / 2))) + m)) - 1)))]∧Ctx G (.row aa V (s.map aD) 62 2::.box q [.func (.func 45) #[] #[pq j,pq d]] 107::.box j [.func (.func 37) #[pq b] #[]] 96::.box b [.slice X B.River.Down.length Y,.slice O B.River.Travel.length I,.slice D B.River.Springs.length H,.slice U B.River.Towns.length R,i6 B.River.Delay.Lo,i6 B.River.Delay.Hi,.slice M B.River.Floods.length J,.map (some mb)] 102::bI mb aW B.found 3 az::.box d [pq b] 71::Lf) w)
    have dn:∀ (zz:Int × Int) a w,ck=.go zz→S41 zz a w→K40 a w:=by
     rintro ⟨Z,ap⟩ a w rfl ⟨az,hf,hc⟩
     replace hF:=bK hF
     refine g5 _ _ ?_
     refine zS fun K h=>sp 4 hf rfl fun a hf=>zT h ?_
     refine wp_seq_k fun K43 g2=>?_
     have cd:∀ (an:List aC) a w,Has 220 a [(0,.slice aa an.length V),(1,i6 a_),(3,i6 b_),(4,.func (.func 48) #[] #[pq q]),(18,i6 (W (((IntKind.u64.wrap (W (a_ + b_))) / 2)))),(20,i6 Z),(24,i6 (W ((W ((W (((IntKind.u64.wrap (W (a_ + b_))) / 2))) + m)) - Z)))]→Ctx G (.row aa V (an.map aD) 62 2::.box q [.func (.func 45) #[] #[pq j,pq d]] 107::.box j [.func (.func 37) #[pq b] #[]] 96::.box b [.slice X B.River.Down.length Y,.slice O B.River.Travel.length I,.slice D B.River.Springs.length H,.slice U B.River.Towns.length R,i6 B.River.Delay.Lo,i6 B.River.Delay.Hi,.slice M B.River.Floods.length J,.map (some mb)] 102::bI mb aW B.found 3 az::.box d [pq b] 71::Lf) w→cO N (aK N) s a_ m b_ B Z an=some au→K43 a w:=by
      repeat (clear hF)
      repeat (clear hc)
      repeat (clear hf)
      intro an a w hf hc hF
      unfold cO at hF
      refine g2 _ _ ?_
      refine wp_seq_k fun K44 gv=>?_
      have ci:∀ (ax:List aC) (bq:Hds) a w,Has 220 a [(0,.slice aa ax.length V),(3,i6 b_),(4,.func (.func 48) #[] #[pq q]),(18,i6 (W (((IntKind.u64.wrap (W (a_ + b_))) / 2)))),(24,i6 (W ((W ((W (((IntKind.u64.wrap (W (a_ + b_))) / 2))) + m)) - Z)))]→Ctx G (.row aa V (ax.map aD) 62 2::.box q [.func (.func 45) #[] #[pq j,pq d]] 107::.box j [.func (.func 37) #[pq b] #[]] 96::.box b [.slice X B.River.Down.length Y,.slice O B.River.Travel.length I,.slice D B.River.Springs.length H,.slice U B.River.Towns.length R,i6 B.River.Delay.Lo,i6 B.River.Delay.Hi,.slice M B.River.Floods.length J,.map (some mb)] 102::bI mb aW B.found 3 bq::.box d [pq b] 71::Lf) w→bH N (aK N) s a_ m b_ B Z ax=some au→K44 a w:=by
       repeat (clear hF)
       repeat (clear hc)
       repeat (clear hf)
       intro ax bq a w hf hc hF
       unfold bH at hF
       refine gv _ _ ?_
       refine zS fun K h=>sp 4 hf rfl fun a hf=>jX 4 (fun a=>Has 220 a [(0,.slice aa ax.length V),(3,i6 b_),(4,.func (.func 48) #[] #[pq q]),(18,i6 (W (((IntKind.u64.wrap (W (a_ + b_))) / 2)))),(24,i6 (W ((W ((W (((IntKind.u64.wrap (W (a_ + b_))) / 2))) + m)) - Z))),(206,i6 (W (((IntKind.u64.wrap (W (a_ + b_))) / 2)))),(207,i6 (W ((W ((W (((IntKind.u64.wrap (W (a_ + b_))) / 2))) + m)) - Z))),(208,.bool (decide ((W (((IntKind.u64.wrap (W (a_ + b_))) / 2))) < (W ((W ((W (((IntKind.u64.wrap (W (a_ + b_))) / 2))) + m)) - Z))))),(209,.bool (decide ((W (((IntKind.u64.wrap (W (a_ + b_))) / 2))) < (W ((W ((W (((IntKind.u64.wrap (W (a_ + b_))) / 2))) + m)) - Z))))),(213,.bool ((decide ((W (((IntKind.u64.wrap (W (a_ + b_))) / 2))) < (W ((W ((W (((IntKind.u64.wrap (W (a_ + b_))) / 2))) + m)) - Z)))) && (decide ((W ((W ((W (((IntKind.u64.wrap (W (a_ + b_))) / 2))) + m)) - Z)) < b_))))]) hc ?_ ?_
       ·cases hb:(decide ((W (((IntKind.u64.wrap (W (a_ + b_))) / 2))) < (W ((W ((W (((IntKind.u64.wrap (W (a_ + b_))) / 2))) + m)) - Z))))
        ·rw [hb] at hf
         refine stS hf rfl rfl rfl fun a hf=>stS hf rfl rfl rfl fun a hf=>stS hf rfl rfl rfl fun a hf=>sp 1 hf rfl fun a hf=>aP ⟨hf.kp rfl,hc⟩
        ·rw [hb] at hf
         refine sp 4 hf rfl fun a hf=>aP ⟨hf.kp rfl,hc⟩
       intro a w ⟨hf,hc⟩
       refine zT h ?_
       refine zI hf rfl hF ?_ ?_ <;> clear hF <;> intro hF
       ·refine bV ?_
        refine sp 5 hf rfl fun a hf=>?_
        obtain ⟨iu,gc,hF⟩:=aA hF
        refine zC hf aGz rfl (ih ax (W (((IntKind.u64.wrap (W (a_ + b_))) / 2))) (W ((W ((W (((IntKind.u64.wrap (W (a_ + b_))) / 2))) + m)) - Z)) b_ B ab t p y v ((((((hc.pick k5).pick k5).pick k5).pick k5).pick k5).pick k5) gc) ?_
        rintro _ w ⟨c4,rfl,hl,hc⟩
        refine ⟨_,rfl,fun a hf=>?_⟩
        try rw [← hl] at hf
        try rw [← hl] at hc
        refine aP ?_
        obtain ⟨_,bi,hF⟩:=rI hF
        obtain rfl:=sj hF
        exact qZ (by simp) rfl Tryz.results105 hf ⟨c4,rfl,bi,hc⟩
       ·refine wp_skip ?_
        obtain ⟨_,bi,hF⟩:=rI hF
        obtain rfl:=sj hF
        exact qZ (by simp) rfl Tryz.results105 hf ⟨bq,rfl,bi,hc⟩
      refine zS fun K h=>sp 4 hf rfl fun a hf=>jX 4 (fun a=>Has 220 a [(0,.slice aa an.length V),(1,i6 a_),(3,i6 b_),(4,.func (.func 48) #[] #[pq q]),(18,i6 (W (((IntKind.u64.wrap (W (a_ + b_))) / 2)))),(20,i6 Z),(24,i6 (W ((W ((W (((IntKind.u64.wrap (W (a_ + b_))) / 2))) + m)) - Z))),(192,i6 a_),(193,i6 Z),(194,.bool (decide (a_ < Z))),(195,.bool (decide (a_ < Z))),(199,.bool ((decide (a_ < Z)) && (decide (Z < (W (((IntKind.u64.wrap (W (a_ + b_))) / 2)))))))]) hc ?_ ?_
      ·cases hb:(decide (a_ < Z))
       ·rw [hb] at hf
        refine stS hf rfl rfl rfl fun a hf=>stS hf rfl rfl rfl fun a hf=>stS hf rfl rfl rfl fun a hf=>sp 1 hf rfl fun a hf=>aP ⟨hf.kp rfl,hc⟩
       ·rw [hb] at hf
        refine sp 4 hf rfl fun a hf=>aP ⟨hf.kp rfl,hc⟩
      intro a w ⟨hf,hc⟩
      refine zT h ?_
      refine zI hf rfl hF ?_ ?_ <;> clear hF <;> intro hF
      ·refine bV ?_
       refine sp 5 hf rfl fun a hf=>?_
       obtain ⟨gr,d3,hF⟩:=aA hF
       refine zC hf aGz rfl (ih an a_ Z (W (((IntKind.u64.wrap (W (a_ + b_))) / 2))) B ab t p y v ((((((hc.pick k5).pick k5).pick k5).pick k5).pick k5).pick k5) d3) ?_
       rintro _ w ⟨cr,rfl,b7,hc⟩
       refine ⟨_,rfl,fun a hf=>?_⟩
       try rw [← b7] at hf
       try rw [← b7] at hc
       refine aP ?_
       exact ci gr cr _ _  (hf.kp rfl) hc hF
      ·refine wp_skip ?_
       exact ci an az _ _  (hf.kp rfl) hc hF
     refine zS fun K h=>sp 4 hf rfl fun a hf=>jX 4 (fun a=>Has 220 a [(0,.slice aa s.length V),(1,i6 a_),(2,i6 m),(3,i6 b_),(4,.func (.func 48) #[] #[pq q]),(18,i6 (W (((IntKind.u64.wrap (W (a_ + b_))) / 2)))),(20,i6 Z),(24,i6 (W ((W ((W (((IntKind.u64.wrap (W (a_ + b_))) / 2))) + m)) - Z))),(178,i6 Z),(179,i6 m),(180,.bool (decide (Z < m))),(181,.bool (decide (Z < m))),(185,.bool ((decide (Z < m)) && (decide (m < (W ((W ((W (((IntKind.u64.wrap (W (a_ + b_))) / 2))) + m)) - Z))))))]) hc ?_ ?_
     ·cases hb:(decide (Z < m))
      ·rw [hb] at hf
       refine stS hf rfl rfl rfl fun a hf=>stS hf rfl rfl rfl fun a hf=>stS hf rfl rfl rfl fun a hf=>sp 1 hf rfl fun a hf=>aP ⟨hf.kp rfl,hc⟩
      ·rw [hb] at hf
       refine sp 4 hf rfl fun a hf=>aP ⟨hf.kp rfl,hc⟩
     intro a w ⟨hf,hc⟩
     refine zT h ?_
     refine zI hf rfl hF ?_ ?_ <;> clear hF <;> intro hF
     ·refine bV ?_
      refine sp 5 hf rfl fun a hf=>?_
      obtain ⟨gp,d1,hF⟩:=aA hF
      refine zC hf aQx rfl (pS s Z m (W ((W ((W (((IntKind.u64.wrap (W (a_ + b_))) / 2))) + m)) - Z)) B ab t p y v ((((((hc.pick k5).pick k5).pick k5).pick k5).pick k5).pick k5) d1) ?_
      rintro _ w ⟨rfl,cn,hc⟩
      refine ⟨_,rfl,fun a hf=>?_⟩
      try rw [← cn] at hf
      try rw [← cn] at hc
      refine aP ?_
      exact cd gp _ _  (hf.kp rfl) hc hF
     ·refine wp_skip ?_
      exact cd s _ _  (hf.kp rfl) hc hF
    have ik:∀ r,ck=.out r→r=au:=by
     rintro r rfl
     exact sj hF
    refine cZ N (cW (S:=S41) (x:=ck) ?_ N (bd,b2) _ _ ⟨bn,hf.kp rfl,hc⟩ dt)
    clear hF hf hc
    rintro ⟨Z,ap⟩ ic a w KB41 ⟨az,hf,hc⟩ hF bt b6
    unfold dU at hF
    refine wp_seq_k fun K48 g8=>zS fun K h=>sp 3 hf rfl fun a hf=>zT h ?_
    refine zI hf rfl hF ?_ ?_ <;> clear hF <;> intro hF
    ·refine wp_skip ?_
     refine g8 _ _ ?_
     refine iK fun K50 da=>wp_block ?_
     refine zS fun K h=>sp 3 hf rfl fun a hf=>zP hf rfl (pCv Tryz.underlying3 Tryz.underlying150 rfl) fun a hf=>zP hf rfl (aJ4 rfl rfl) fun a hf=>zP hf rfl (pCv Tryz.underlying150 Tryz.underlying3 rfl) fun a hf=>sp 1 hf rfl fun a hf=>zT h ?_
     refine wp_seq_k fun K52 g0=>?_
     obtain ⟨bk,c6,hF⟩:=aA hF
     have a5:=hf
     obtain ⟨bb,rfl,c1,c7⟩:=hP hc m0 c6
     have hf:=a5
     obtain ⟨bm,c3,hF⟩:=aA hF
     obtain ⟨ct,cq⟩:=eY hc m0 c3
     obtain ⟨b0,dm,hF⟩:=aA hF
     refine eL (fun θ=>[⟨none,none,0,.slice (some ⟨bb,0,none⟩) s.length V⟩,⟨none,none,1,i6 a_⟩,⟨none,none,2,i6 m⟩,⟨none,none,3,i6 b_⟩,⟨none,none,4,.func (.func 48) #[] #[pq q]⟩,⟨none,none,18,i6 (W (((IntKind.u64.wrap (W (a_ + b_))) / 2)))⟩,⟨none,none,19,i6 (W ((W (((IntKind.u64.wrap (W (a_ + b_))) / 2))) + m))⟩,⟨none,none,20,i6 Z⟩,⟨none,none,21,i6 ap⟩,⟨none,none,22,i6 (W ((W ((W (((IntKind.u64.wrap (W (a_ + b_))) / 2))) + m)) - 1))⟩,⟨none,none,23,i6 (W (((IntKind.u64.wrap (W (Z + ap))) / 2)))⟩,⟨some 0,none,158,.func (.func 48) #[] #[pq q]⟩,⟨some 1,none,159,.slice (some ⟨bb,0,none⟩) s.length V⟩,⟨some 2,none,160,i6 (W ((W ((W (((IntKind.u64.wrap (W (a_ + b_))) / 2))) + m)) - 1))⟩,⟨some 3,none,161,i6 (W (((IntKind.u64.wrap (W (Z + ap))) / 2)))⟩,⟨some 4,none,162,i6 (W ((W ((W ((W (((IntKind.u64.wrap (W (a_ + b_))) / 2))) + m)) - 1)) - (W (((IntKind.u64.wrap (W (Z + ap))) / 2)))))⟩,⟨some 5,none,163,.pointer (some ⟨bb,(W ((W ((W ((W (((IntKind.u64.wrap (W (a_ + b_))) / 2))) + m)) - 1)) - (W (((IntKind.u64.wrap (W (Z + ap))) / 2))))).toNat * 2,none⟩)⟩,⟨some 6,none,164,.agg #[i6 bk.Spring,i6 bk.Town]⟩,⟨some 7,none,165,.slice (some ⟨bb,0,none⟩) s.length V⟩,⟨some 8,none,166,i6 (W (((IntKind.u64.wrap (W (Z + ap))) / 2)))⟩,⟨some 9,none,167,.pointer (some ⟨bb,(W (((IntKind.u64.wrap (W (Z + ap))) / 2))).toNat * 2,none⟩)⟩,⟨some 10,none,168,.agg #[i6 bm.Spring,i6 bm.Town]⟩,⟨some 11,none,169,i6 b0⟩,⟨some 12,none,170,.bool (decide (b0 < 0))⟩,⟨some 13,none,171,.bool (!(decide (b0 < 0)))⟩]) (fun E θ=>.row (some ⟨bb,0,none⟩) V (s.map aD) 62 2::.box q [.func (.func 45) #[] #[pq j,pq d]] 107::.box j [.func (.func 37) #[pq b] #[]] 96::.box b [.slice X B.River.Down.length Y,.slice O B.River.Travel.length I,.slice D B.River.Springs.length H,.slice U B.River.Towns.length R,i6 B.River.Delay.Lo,i6 B.River.Delay.Hi,.slice M B.River.Floods.length J,.map (some mb)] 102::(bif E 11 then bI mb aW B.found 3 ((θ 88).h) else bI mb aW B.found 3 az)::.box d [pq b] 71::Lf) [] (fun a w=>∃ (a9:Hds),Has 220 a [(0,.slice (some ⟨bb,0,none⟩) s.length V),(1,i6 a_),(2,i6 m),(3,i6 b_),(4,.func (.func 48) #[] #[pq q]),(18,i6 (W (((IntKind.u64.wrap (W (a_ + b_))) / 2)))),(19,i6 (W ((W (((IntKind.u64.wrap (W (a_ + b_))) / 2))) + m))),(20,i6 Z),(21,i6 ap),(22,i6 (W ((W ((W (((IntKind.u64.wrap (W (a_ + b_))) / 2))) + m)) - 1))),(23,i6 (W (((IntKind.u64.wrap (W (Z + ap))) / 2)))),(171,.bool (!(decide (b0 < 0))))]∧Ctx G (.row (some ⟨bb,0,none⟩) V (s.map aD) 62 2::.box q [.func (.func 45) #[] #[pq j,pq d]] 107::.box j [.func (.func 37) #[pq b] #[]] 96::.box b [.slice X B.River.Down.length Y,.slice O B.River.Travel.length I,.slice D B.River.Springs.length H,.slice U B.River.Towns.length R,i6 B.River.Delay.Lo,i6 B.River.Delay.Hi,.slice M B.River.Floods.length J,.map (some mb)] 102::bI mb aW B.found 3 a9::.box d [pq b] 71::Lf) w) bA (by kernel_rfl) (by kernel_rfl) (fN.of hf ⟨rfl,rfl,rfl,rfl,rfl,rfl,rfl,rfl,rfl,rfl,rfl,trivial,trivial,trivial,trivial,trivial,trivial,trivial,trivial,trivial,trivial,trivial,trivial,trivial,trivial,trivial⟩) hc ⟨?_,?_,?_,?_,?_,?_,?_,?_,?_,?_,?_,?_,?_,?_,trivial⟩ ?_ ?_
     ·intro E θ a w hD hi hp he hc
      have hf:=he.h0.mT he 4 rfl
      refine sp 1 hf rfl fun a hf=>zD θ he hi hf 11 rfl rfl rfl hc
     ·intro E θ a w hD hi hp he hc
      have hf:=he.h0.mT he 0 rfl
      refine sp 1 hf rfl fun a hf=>zD θ he hi hf 12 rfl rfl rfl hc
     ·intro E θ a w hD hi hp he hc
      have hf:=he.h0.mT he 9 rfl
      refine sp 1 hf rfl fun a hf=>zD θ he hi hf 13 rfl rfl rfl hc
     ·intro E θ a w hD hi hp he hc
      have hf:=he.h0.mT he 10 rfl
      refine sp 1 hf rfl fun a hf=>zD θ he hi hf 14 rfl rfl rfl hc
     ·intro E θ a w hD hi hp he hc
      have e2:=hp.o 2 rfl
      have e3:=hp.o 3 rfl
      have hf:=(he.h0.mP he 13 rfl e2).mP he 14 rfl e3
      refine sp 1 hf rfl fun a hf=>zD θ he hi hf 15 rfl rfl rfl hc
     ·intro E θ a w hD hi hp he hc
      have e1:=hp.o 1 rfl
      have e4:=hp.o 4 rfl
      have hf:=(he.h0.mP he 12 rfl e1).mP he 15 rfl e4
      refine zP hf rfl (pIA Tryz.underlying49 gG rfl rfl c1) fun a hf=>zD θ he hi hf 16 rfl rfl rfl hc
     ·intro E θ a w hD hi hp he hc
      have e5:=hp.o 5 rfl
      have hf:=he.h0.mP he 16 rfl e5
      refine zE hf hc rfl (lK (vs:=[i6 bk.Spring,i6 bk.Town]) jE rfl rfl (jL (sz:=2) (i:=(W ((W ((W ((W (((IntKind.u64.wrap (W (a_ + b_))) / 2))) + m)) - 1)) - (W (((IntKind.u64.wrap (W (Z + ap))) / 2))))).toNat) m0 c7 (n:=2) (o':=0) rfl)) fun a w hf hc=>zD θ he hi hf 17 rfl rfl rfl hc
     ·intro E θ a w hD hi hp he hc
      have hf:=he.h0.mT he 0 rfl
      refine sp 1 hf rfl fun a hf=>zD θ he hi hf 18 rfl rfl rfl hc
     ·intro E θ a w hD hi hp he hc
      have hf:=he.h0.mT he 10 rfl
      refine sp 1 hf rfl fun a hf=>zD θ he hi hf 19 rfl rfl rfl hc
     ·intro E θ a w hD hi hp he hc
      have e7:=hp.o 7 rfl
      have e8:=hp.o 8 rfl
      have hf:=(he.h0.mP he 18 rfl e7).mP he 19 rfl e8
      refine zP hf rfl (pIA Tryz.underlying49 gG rfl rfl ct) fun a hf=>zD θ he hi hf 20 rfl rfl rfl hc
     ·intro E θ a w hD hi hp he hc
      have e9:=hp.o 9 rfl
      have hf:=he.h0.mP he 20 rfl e9
      refine zE hf hc rfl (lK (vs:=[i6 bm.Spring,i6 bm.Town]) jE rfl rfl (jL (sz:=2) (i:=(W (((IntKind.u64.wrap (W (Z + ap))) / 2))).toNat) m0 cq (n:=2) (o':=0) rfl)) fun a w hf hc=>zD θ he hi hf 21 rfl rfl rfl hc
     ·intro E θ a w hD hi hp he hc
      have e0:=hp.o 0 rfl
      have e6:=hp.o 6 rfl
      have a8:=hp.o 10 rfl
      try dsimp only at hc
      rw [hi] at hc
      have hf:=((he.h0.mP he 11 rfl e0).mP he 17 rfl e6).mP he 21 rfl a8
      refine zC hf aKi rfl (kB bk bm B ab t p y v (((((hc.pick k5).pick k5).pick k5).pick k5).pick k5) dm) ?_
      rintro _ w ⟨cp,rfl,hc⟩
      refine ⟨_,rfl,fun a hf=>?_⟩
      refine aP ?_
      refine eJ ?_
      intro ds u bx
      replace hc:=(((((hc.pick k4).pick k4).pick k4).pick k4).pick k4).pick k5
      refine ⟨(nF θ 88 ⟨0,none,0,cp⟩),he.put hi bx hf rfl [] trivial ⟨qq,qq,qq,qq,qq,qq,qq,qq,qq,qq,qq,qq,qq,qq,qq,qq,qq,qq,qq,qq,qq,qq,qq,qq,qq,trivial⟩,?_⟩
      try dsimp only
      rw [aS E 11]
      exact hc
     ·intro E θ a w hD hi hp he hc
      have a6:=hp.o 11 rfl
      have hf:=he.h0.mP he 22 rfl a6
      refine sp 1 hf rfl fun a hf=>zD θ he hi hf 23 rfl rfl rfl hc
     ·intro E θ a w hD hi hp he hc
      have bu:=hp.o 12 rfl
      have hf:=he.h0.mP he 23 rfl bu
      refine sp 1 hf rfl fun a hf=>zD θ he hi hf 24 rfl rfl rfl hc
     ·intro E θ a w aj he hc
      have hf:=he.h0
      have a6:=aj 11 rfl
      have a7:=aj 13 rfl
      replace hf:=hf.more he 24 rfl (onP a7)
      replace hf:=hf.more he 10 rfl (onT)
      replace hf:=hf.more he 9 rfl (onT)
      replace hf:=hf.more he 8 rfl (onT)
      replace hf:=hf.more he 7 rfl (onT)
      replace hf:=hf.more he 6 rfl (onT)
      replace hf:=hf.more he 5 rfl (onT)
      replace hf:=hf.more he 4 rfl (onT)
      replace hf:=hf.more he 3 rfl (onT)
      replace hf:=hf.more he 2 rfl (onT)
      replace hf:=hf.more he 1 rfl (onT)
      replace hf:=hf.more he 0 rfl (onT)
      try dsimp only at hc
      rw [a6] at hc
      exact ⟨(θ 88).h,hf.kp rfl,hc⟩
     rintro a w ⟨a9,hf,hc⟩
     refine g0 _ _ ?_
     refine zI hf rfl hF ?_ ?_ <;> clear hF <;> intro hF
     ·refine bV ?_
      refine sp 3 hf rfl fun a hf=>aP ?_
      refine da _ _ ?_
      exact b6 (W ((W (((IntKind.u64.wrap (W (Z + ap))) / 2))) + 1),ap) _ _ (sj hF).symm ⟨a9,hf.kp rfl,hc⟩
     ·refine bV ?_
      refine sp 2 hf rfl fun a hf=>aP ?_
      refine da _ _ ?_
      exact b6 (Z,W (((IntKind.u64.wrap (W (Z + ap))) / 2))) _ _ (sj hF).symm ⟨a9,hf.kp rfl,hc⟩
    ·refine wp_exit ?_
     refine aY ?_
     refine aY ?_
     have he:=sj hF
     rw [← he] at bt
     refine fJ ?_
     exact dn _ _ _ bt ⟨az,hf.kp rfl,hc⟩
   refine zS fun K h=>sp 3 hf rfl fun a hf=>zT h ?_
   refine zI hf rfl hF ?_ ?_ <;> clear hF <;> intro hF
   ·refine zS fun K h=>sp 4 hf rfl fun a hf=>zT h ?_
    refine bV ?_
    refine sp 2 hf rfl fun a hf=>aP ?_
    exact cm (W ((W ((W (((IntKind.u64.wrap (W (a_ + b_))) / 2))) + m)) - b_)) (W (((IntKind.u64.wrap (W (a_ + b_))) / 2))) _ _  (hf.kp rfl) hc hF
   ·refine zS fun K h=>sp 2 hf rfl fun a hf=>zT h ?_
    refine bV ?_
    refine sp 2 hf rfl fun a hf=>aP ?_
    exact cm a_ m _ _  (hf.kp rfl) hc hF

def bO (N:Nat) (B:Int) (D:List aC):Option (bY ((List aC) × Int) ((List aC))) :=
 some (.cont (D,W (B * 2)))
def bM (N:Nat) (n:Int) (J:aF) (B:Int) (D:List aC) (I:Int) (H:Int):Option (bY ((List aC) × Int × Int) (bY ((List aC) × Int) ((List aC)))) :=
 cond (decide (H≤n))
 (Option.bind (aK N D I (W (I + B)) H J) fun M=>
 some (.cont (M,H,W (H + (W (2 * B))))))
 (some (.brk (D,I,H)))
def fE (N:Nat) (n:Int) (I:aF) (H:List aC) (B:Int):Option (bY ((List aC) × Int) ((List aC))) :=
 cond (decide (B < n))
 (Option.bind (aX (fun D=>bM N n I B D.1 D.2.1 D.2.2) N (H,0,W (2 * B))) fun M=>
 exK M (fun D=>cond (decide ((W (D.2.1 + B)) < n))
 (Option.bind (aK N D.1 D.2.1 (W (D.2.1 + B)) n I) fun J=>
 bO N B J)
 (bO N B D.1)) some)
 (some (.brk (H,B)))
def bP (N:Nat) (n:Int) (I:aF) (B:List aC) (H:Int) (D:Int):Option (bY ((List aC) × Int × Int) ((List aC))) :=
 cond (decide (D≤n))
 (Option.bind (bQ N B H D I) fun J=>
 some (.cont (J,D,W (D + 20))))
 (some (.brk (B,H,D)))
def eQ (N:Nat) (B:List aC) (n:Int) (D:aF):Option ((List aC)) :=
 Option.bind (aX (fun s4=>bP N n D s4.1 s4.2.1 s4.2.2) N (B,0,20)) fun x4=>
 exK x4 (fun s4=>Option.bind (bQ N s4.1 s4.2.1 n D) fun r=>
 Option.bind (aX (fun s7=>fE N n D s7.1 s7.2) N (r,20)) fun x7=>
 exK x7 (fun s7=>Option.bind (pN s7.1 B) fun _=>
 some s7.1) some) some
theorem pR {N:Nat} {G:aT} {Lf:List Ent} {w:World} (y:List aC) (n:Int) (B:aF) {k:Option Addr} {m:Nat} {b_:Nat} {p:Nat} {j:Nat} {V:Option Addr} {X:Nat} {O:Option Addr} {I:Nat} {D:Option Addr} {H:Nat} {R:Option Addr} {U:Nat} {M:Option Addr} {J:Nat} {mb:Nat} {a2:Hds} {o:Nat} (i:Rd G 1 V X (B.River.Down.map aB)) (d:Rd G 2 O I (B.River.Travel.map aI)) (Y:Rd G 1 D H (B.River.Springs.map aB)) (g:Rd G 3 R U (B.River.Towns.map aG)) (Z:RdT cH G 2 M J B.River.Floods) (hc:Ctx G (.row k m (y.map aD) 62 2::.box b_ [.func (.func 45) #[] #[pq p,pq o]] 107::.box p [.func (.func 37) #[pq j] #[]] 96::.box j [.slice V B.River.Down.length X,.slice O B.River.Travel.length I,.slice D B.River.Springs.length H,.slice R B.River.Towns.length U,i6 B.River.Delay.Lo,i6 B.River.Delay.Hi,.slice M B.River.Floods.length J,.map (some mb)] 102::bI mb aW B.found 3 a2::.box o [pq j] 71::Lf) w) {ad:(List aC)} (hF:eQ N y n B=some ad):Calls Tryz.prog 77 #[.slice k y.length m,i6 n,.func (.func 48) #[] #[pq b_]] w (fun e w=>∃ (az:Hds),e=.returned (.tuple #[])∧ad.length=y.length∧Ctx G (.row k m (ad.map aD) 62 2::.box b_ [.func (.func 45) #[] #[pq p,pq o]] 107::.box p [.func (.func 37) #[pq j] #[]] 96::.box j [.slice V B.River.Down.length X,.slice O B.River.Travel.length I,.slice D B.River.Springs.length H,.slice R B.River.Towns.length U,i6 B.River.Delay.Lo,i6 B.River.Delay.Hi,.slice M B.River.Floods.length J,.map (some mb)] 102::bI mb aW B.found 3 az::.box o [pq j] 71::Lf) w):=by
 unfold eQ at hF
 refine bL Tryz.func77 rfl Tryz.ntmps77 rfl fun a hf=>zS fun K h=>sp 1 hf rfl fun a hf=>zT h ?_
 refine zS fun K h=>sp 3 hf rfl fun a hf=>zT h ?_
 refine wp_seq_k fun K3 h3=>wp_block ?_
 obtain ⟨x4,bq,hF⟩:=aA hF
 let S4:((List aC) × Int × Int)→Act→World→Prop:=(fun (zz:(List aC) × Int × Int) a w=>∃ (ai:Hds),Has 63 a [(0,.slice k zz.1.length m),(1,i6 n),(2,.func (.func 48) #[] #[pq b_]),(6,i6 20),(7,i6 zz.2.1),(8,i6 zz.2.2)]∧Ctx G (.row k m (zz.1.map aD) 62 2::.box b_ [.func (.func 45) #[] #[pq p,pq o]] 107::.box p [.func (.func 37) #[pq j] #[]] 96::.box j [.slice V B.River.Down.length X,.slice O B.River.Travel.length I,.slice D B.River.Springs.length H,.slice R B.River.Towns.length U,i6 B.River.Delay.Lo,i6 B.River.Delay.Hi,.slice M B.River.Floods.length J,.map (some mb)] 102::bI mb aW B.found 3 ai::.box o [pq j] 71::Lf) w)
 have ba:∀ (zz:(List aC) × Int × Int) a w,x4=.go zz→S4 zz a w→K3 a w:=by
  rintro ⟨v,au,af⟩ a w rfl ⟨ai,hf,hc⟩
  replace hF:=bK hF
  refine h3 _ _ ?_
  refine zS fun K h=>sp 4 hf rfl fun a hf=>?_
  obtain ⟨r,hr,hF⟩:=aA hF
  refine zC hf aNs rfl (jF v au n B i d Y g Z ((((((hc.pick k5).pick k5).pick k5).pick k5).pick k5).pick k5) hr) ?_
  rintro _ w ⟨ay,rfl,hl,hc⟩
  refine ⟨_,rfl,fun a hf=>?_⟩
  try rw [← hl] at hf
  try rw [← hl] at hc
  refine zT h ?_
  refine iK fun K6 h6=>wp_block ?_
  obtain ⟨x7,bn,hF⟩:=aA hF
  let S7:((List aC) × Int)→Act→World→Prop:=(fun (zz:(List aC) × Int) a w=>∃ (s:Hds),Has 63 a [(0,.slice k zz.1.length m),(1,i6 n),(2,.func (.func 48) #[] #[pq b_]),(6,i6 zz.2)]∧Ctx G (.row k m (zz.1.map aD) 62 2::.box b_ [.func (.func 45) #[] #[pq p,pq o]] 107::.box p [.func (.func 37) #[pq j] #[]] 96::.box j [.slice V B.River.Down.length X,.slice O B.River.Travel.length I,.slice D B.River.Springs.length H,.slice R B.River.Towns.length U,i6 B.River.Delay.Lo,i6 B.River.Delay.Hi,.slice M B.River.Floods.length J,.map (some mb)] 102::bI mb aW B.found 3 s::.box o [pq j] 71::Lf) w)
  have bd:∀ (zz:(List aC) × Int) a w,x7=.go zz→S7 zz a w→K6 a w:=by
   rintro ⟨ac,b⟩ a w rfl ⟨s,hf,hc⟩
   replace hF:=bK hF
   refine h6 _ _ ?_
   obtain ⟨_,bc,hF⟩:=rI hF
   obtain rfl:=sj hF
   exact qZ (by simp) rfl Tryz.results77 hf ⟨s,rfl,bc,hc⟩
  have bz:∀ r,x7=.out r→r=ad:=by
   rintro r rfl
   exact sj hF
  refine cZ N (cW (S:=S7) (x:=x7) ?_ N (r,20) _ _ ⟨ay,hf.kp rfl,hc⟩ bn)
  clear hF hf hc
  rintro ⟨ac,b⟩ a1 a w KB7 ⟨s,hf,hc⟩ hF aj bj
  unfold fE at hF
  refine wp_seq_k fun K8 h8=>zS fun K h=>sp 3 hf rfl fun a hf=>zT h ?_
  refine zI hf rfl hF ?_ ?_ <;> clear hF <;> intro hF
  ·refine wp_skip ?_
   refine h8 _ _ ?_
   refine iK fun K10 bf=>wp_block ?_
   refine zS fun K h=>sp 4 hf rfl fun a hf=>zT h ?_
   refine wp_seq_k fun K12 bp=>wp_block ?_
   obtain ⟨am,a4,hF⟩:=aA hF
   let S13:((List aC) × Int × Int)→Act→World→Prop:=(fun (zz:(List aC) × Int × Int) a w=>∃ (u:Hds),Has 63 a [(0,.slice k zz.1.length m),(1,i6 n),(2,.func (.func 48) #[] #[pq b_]),(6,i6 b),(7,i6 zz.2.1),(8,i6 zz.2.2)]∧Ctx G (.row k m (zz.1.map aD) 62 2::.box b_ [.func (.func 45) #[] #[pq p,pq o]] 107::.box p [.func (.func 37) #[pq j] #[]] 96::.box j [.slice V B.River.Down.length X,.slice O B.River.Travel.length I,.slice D B.River.Springs.length H,.slice R B.River.Towns.length U,i6 B.River.Delay.Lo,i6 B.River.Delay.Hi,.slice M B.River.Floods.length J,.map (some mb)] 102::bI mb aW B.found 3 u::.box o [pq j] 71::Lf) w)
   have a3:∀ (zz:(List aC) × Int × Int) a w,am=.go zz→S13 zz a w→K12 a w:=by
    rintro ⟨t,ab,ag⟩ a w rfl ⟨u,hf,hc⟩
    replace hF:=bK hF
    refine bp _ _ ?_
    refine wp_seq_k fun K14 bg=>?_
    have an:∀ (q:List aC) (z:Hds) a w,Has 63 a [(0,.slice k q.length m),(1,i6 n),(2,.func (.func 48) #[] #[pq b_]),(6,i6 b)]→Ctx G (.row k m (q.map aD) 62 2::.box b_ [.func (.func 45) #[] #[pq p,pq o]] 107::.box p [.func (.func 37) #[pq j] #[]] 96::.box j [.slice V B.River.Down.length X,.slice O B.River.Travel.length I,.slice D B.River.Springs.length H,.slice R B.River.Towns.length U,i6 B.River.Delay.Lo,i6 B.River.Delay.Hi,.slice M B.River.Floods.length J,.map (some mb)] 102::bI mb aW B.found 3 z::.box o [pq j] 71::Lf) w→bO N b q=some a1→K14 a w:=by
     repeat (clear hF)
     repeat (clear hc)
     repeat (clear hf)
     intro q z a w hf hc hF
     unfold bO at hF
     refine bg _ _ ?_
     refine bV ?_
     refine sp 3 hf rfl fun a hf=>aP ?_
     refine bf _ _ ?_
     exact bj (q,W (b * 2)) _ _ (sj hF).symm ⟨z,hf.kp rfl,hc⟩
    refine zS fun K h=>sp 4 hf rfl fun a hf=>zT h ?_
    refine zS fun K h=>sp 3 hf rfl fun a hf=>zT h ?_
    refine zI hf rfl hF ?_ ?_ <;> clear hF <;> intro hF
    ·refine bV ?_
     refine sp 5 hf rfl fun a hf=>?_
     obtain ⟨bk,a6,hF⟩:=aA hF
     refine zC hf aGz rfl (kK t ab (W (ab + b)) n B i d Y g Z ((((((hc.pick k5).pick k5).pick k5).pick k5).pick k5).pick k5) a6) ?_
     rintro _ w ⟨a0,rfl,ap,hc⟩
     refine ⟨_,rfl,fun a hf=>?_⟩
     try rw [← ap] at hf
     try rw [← ap] at hc
     refine aP ?_
     exact an bk a0 _ _  (hf.kp rfl) hc hF
    ·refine wp_skip ?_
     exact an t u _ _  (hf.kp rfl) hc hF
   have bu:∀ r,am=.out r→r=a1:=by
    rintro r rfl
    exact sj hF
   refine cZ N (cW (S:=S13) (x:=am) ?_ N (ac,0,W (2 * b)) _ _ ⟨s,hf.kp rfl,hc⟩ a4)
   clear hF hf hc
   rintro ⟨t,ab,ag⟩ bv a w KB13 ⟨u,hf,hc⟩ hF aa a5
   unfold bM at hF
   refine wp_seq_k fun K17 a9=>zS fun K h=>sp 3 hf rfl fun a hf=>zT h ?_
   refine zI hf rfl hF ?_ ?_ <;> clear hF <;> intro hF
   ·refine wp_skip ?_
    refine a9 _ _ ?_
    refine iK fun K19 bt=>wp_block ?_
    refine zS fun K h=>sp 7 hf rfl fun a hf=>?_
    obtain ⟨bi,a7,hF⟩:=aA hF
    refine zC hf aGz rfl (kK t ab (W (ab + b)) ag B i d Y g Z ((((((hc.pick k5).pick k5).pick k5).pick k5).pick k5).pick k5) a7) ?_
    rintro _ w ⟨ax,rfl,aq,hc⟩
    refine ⟨_,rfl,fun a hf=>?_⟩
    try rw [← aq] at hf
    try rw [← aq] at hc
    refine zT h ?_
    refine zS fun K h=>sp 2 hf rfl fun a hf=>zT h ?_
    refine bV ?_
    refine sp 5 hf rfl fun a hf=>aP ?_
    refine bt _ _ ?_
    exact a5 (bi,ag,W (ag + (W (2 * b)))) _ _ (sj hF).symm ⟨ax,hf.kp rfl,hc⟩
   ·refine wp_exit ?_
    refine aY ?_
    refine aY ?_
    have he:=sj hF
    rw [← he] at aa
    refine fJ ?_
    exact a3 _ _ _ aa ⟨u,hf.kp rfl,hc⟩
  ·refine wp_exit ?_
   refine aY ?_
   refine aY ?_
   have he:=sj hF
   rw [← he] at aj
   refine fJ ?_
   exact bd _ _ _ aj ⟨s,hf.kp rfl,hc⟩
 have bx:∀ r,x4=.out r→r=ad:=by
  rintro r rfl
  exact sj hF
 refine cZ N (cW (S:=S4) (x:=x4) ?_ N (y,0,20) _ _ ⟨a2,hf.kp rfl,hc⟩ bq)
 clear hF hf hc
 rintro ⟨v,au,af⟩ b0 a w KB4 ⟨ai,hf,hc⟩ hF ak bm
 unfold bP at hF
 refine wp_seq_k fun K22 br=>zS fun K h=>sp 3 hf rfl fun a hf=>zT h ?_
 refine zI hf rfl hF ?_ ?_ <;> clear hF <;> intro hF
 ·refine wp_skip ?_
  refine br _ _ ?_
  refine iK fun K24 bb=>wp_block ?_
  refine zS fun K h=>sp 4 hf rfl fun a hf=>?_
  obtain ⟨bs,a8,hF⟩:=aA hF
  refine zC hf aNs rfl (jF v au af B i d Y g Z ((((((hc.pick k5).pick k5).pick k5).pick k5).pick k5).pick k5) a8) ?_
  rintro _ w ⟨av,rfl,ar,hc⟩
  refine ⟨_,rfl,fun a hf=>?_⟩
  try rw [← ar] at hf
  try rw [← ar] at hc
  refine zT h ?_
  refine zS fun K h=>sp 2 hf rfl fun a hf=>zT h ?_
  refine bV ?_
  refine sp 4 hf rfl fun a hf=>aP ?_
  refine bb _ _ ?_
  exact bm (bs,af,W (af + 20)) _ _ (sj hF).symm ⟨av,hf.kp rfl,hc⟩
 ·refine wp_exit ?_
  refine aY ?_
  refine aY ?_
  have he:=sj hF
  rw [← he] at ak
  refine fJ ?_
  exact ba _ _ _ ak ⟨ai,hf.kp rfl,hc⟩

def cE (N:Nat) (x:List aC) (B:aF):Option ((List aC)) :=
 Option.bind (eQ N x ((x.length:Nat):Int) B) fun r=>
 Option.bind (pN r x) fun _=>
 some r
theorem lU {N:Nat} {G:aT} {Lf:List Ent} {w:World} (x:List aC) (O:aF) {m:Option Addr} {k:Nat} {b_:Nat} {j:Nat} {g:Nat} {U:Option Addr} {V:Nat} {M:Option Addr} {H:Nat} {B:Option Addr} {D:Nat} {S:Option Addr} {R:Nat} {J:Option Addr} {I:Nat} {mb:Nat} {s:Hds} {i:Nat} (d:Rd G 1 U V (O.River.Down.map aB)) (Z:Rd G 2 M H (O.River.Travel.map aI)) (X:Rd G 1 B D (O.River.Springs.map aB)) (b:Rd G 3 S R (O.River.Towns.map aG)) (Y:RdT cH G 2 J I O.River.Floods) (hc:Ctx G (.row m k (x.map aD) 62 2::.box b_ [.func (.func 45) #[] #[pq j,pq i]] 107::.box j [.func (.func 37) #[pq g] #[]] 96::.box g [.slice U O.River.Down.length V,.slice M O.River.Travel.length H,.slice B O.River.Springs.length D,.slice S O.River.Towns.length R,i6 O.River.Delay.Lo,i6 O.River.Delay.Hi,.slice J O.River.Floods.length I,.map (some mb)] 102::bI mb aW O.found 3 s::.box i [pq g] 71::Lf) w) {n:(List aC)} (hF:cE N x O=some n):Calls Tryz.prog 47 #[.slice m x.length k,.func (.func 48) #[] #[pq b_]] w (fun e w=>∃ (o:Hds),e=.returned (.tuple #[])∧n.length=x.length∧Ctx G (.row m k (n.map aD) 62 2::.box b_ [.func (.func 45) #[] #[pq j,pq i]] 107::.box j [.func (.func 37) #[pq g] #[]] 96::.box g [.slice U O.River.Down.length V,.slice M O.River.Travel.length H,.slice B O.River.Springs.length D,.slice S O.River.Towns.length R,i6 O.River.Delay.Lo,i6 O.River.Delay.Hi,.slice J O.River.Floods.length I,.map (some mb)] 102::bI mb aW O.found 3 o::.box i [pq g] 71::Lf) w):=by
 unfold cE at hF
 refine bL Tryz.func47 rfl Tryz.ntmps47 rfl fun a hf=>bV ?_
 refine sp 2 hf rfl fun a hf=>zP hf rfl (bG Tryz.underlying49 rfl) fun a hf=>sp 1 hf rfl fun a hf=>?_
 obtain ⟨r,hr,hF⟩:=aA hF
 refine zC hf en_77 rfl (pR x ((x.length:Nat):Int) O d Z X b Y ((((((hc.pick k5).pick k5).pick k5).pick k5).pick k5).pick k5) hr) ?_
 rintro _ w ⟨p,rfl,hl,hc⟩
 refine ⟨_,rfl,fun a hf=>?_⟩
 try rw [← hl] at hf
 try rw [← hl] at hc
 refine aP ?_
 obtain ⟨_,q,hF⟩:=rI hF
 obtain rfl:=sj hF
 exact qZ (by simp) rfl Tryz.results47 hf ⟨p,rfl,q,hc⟩

def mC (N:Nat) (x:List Int):Option ((List Int)) :=
 aKc x
/-! ### Walks of the library -/
end Go.Nilo
namespace Go.Proofs
open Go.Shelf
def Tryz.lays189_ren:Go.Shelf.Ren:=⟨fun | 189=>50 | 125=>80 | 257=>79 | 128=>115 | 129=>116 | 294=>106 | 295=>107 | 296=>108 | 297=>109 | 298=>110 | 299=>111 | 216=>112 | 300=>113 | 301=>114 | 328=>132 | 329=>133 | 330=>134 | 331=>135 | 332=>136 | 215=>78 | 343=>145 | n=>n,fun | 28=>23 | 3=>3 | 46=>150 | 0=>0 | 51=>173 | 53=>175 | 4=>4 | 183=>166 | 182=>165 | 131=>170 | 5=>5 | 9=>9 | 218=>188 | 222=>192 | 228=>198 | 229=>199 | n=>n,fun | n=>n⟩
theorem Tryz.lays189:Go.Proofs.Lays.n189 Tryz.prog Tryz.lays189_ren:={
 mixed:=by kernel_rfl
 f125:=Tryz.func80.trans (congrArg some (by kernel_rfl))
 f128:=Tryz.func115.trans (congrArg some (by kernel_rfl))
 f129:=Tryz.func116.trans (congrArg some (by kernel_rfl))
 f189:=Tryz.func50.trans (congrArg some (by kernel_rfl))
 f215:=Tryz.func78.trans (congrArg some (by kernel_rfl))
 f216:=Tryz.func112.trans (congrArg some (by kernel_rfl))
 f257:=Tryz.func79.trans (congrArg some (by kernel_rfl))
 f294:=Tryz.func106.trans (congrArg some (by kernel_rfl))
 f295:=Tryz.func107.trans (congrArg some (by kernel_rfl))
 f296:=Tryz.func108.trans (congrArg some (by kernel_rfl))
 f297:=Tryz.func109.trans (congrArg some (by kernel_rfl))
 f298:=Tryz.func110.trans (congrArg some (by kernel_rfl))
 f299:=Tryz.func111.trans (congrArg some (by kernel_rfl))
 f300:=Tryz.func113.trans (congrArg some (by kernel_rfl))
 f301:=Tryz.func114.trans (congrArg some (by kernel_rfl))
 f328:=Tryz.func132.trans (congrArg some (by kernel_rfl))
 f329:=Tryz.func133.trans (congrArg some (by kernel_rfl))
 f330:=Tryz.func134.trans (congrArg some (by kernel_rfl))
 f331:=Tryz.func135.trans (congrArg some (by kernel_rfl))
 f332:=Tryz.func136.trans (congrArg some (by kernel_rfl))
 f343:=Tryz.func145.trans (congrArg some (by kernel_rfl))
 t0:=Tryz.underlying0
 a0:=Tryz.isAgg0
 z0:=Tryz.sizeOf0
 v0:=Tryz.zeroValue0
 t3:=Tryz.underlying3
 a3:=Tryz.isAgg3
 z3:=Tryz.sizeOf3
 v3:=Tryz.zeroValue3
 t4:=Tryz.underlying4
 a4:=Tryz.isAgg4
 z4:=Tryz.sizeOf4
 v4:=Tryz.zeroValue4
 t5:=Tryz.underlying5
 a5:=Tryz.isAgg5
 z5:=Tryz.sizeOf5
 v5:=Tryz.zeroValue5
 t9:=Tryz.underlying9
 a9:=Tryz.isAgg9
 z9:=Tryz.sizeOf9
 v9:=Tryz.zeroValue9
 t28:=Tryz.underlying23
 a28:=Tryz.isAgg23
 z28:=Tryz.sizeOf23
 v28:=Tryz.zeroValue23
 t46:=Tryz.underlying150
 a46:=Tryz.isAgg150
 z46:=Tryz.sizeOf150
 v46:=Tryz.zeroValue150
 t51:=Tryz.underlying173
 a51:=Tryz.isAgg173
 z51:=Tryz.sizeOf173
 v51:=Tryz.zeroValue173
 t53:=Tryz.underlying175
 a53:=Tryz.isAgg175
 z53:=Tryz.sizeOf175
 v53:=Tryz.zeroValue175
 t131:=Tryz.underlying170
 a131:=Tryz.isAgg170
 z131:=Tryz.sizeOf170
 v131:=Tryz.zeroValue170
 t182:=Tryz.underlying165
 a182:=Tryz.isAgg165
 z182:=Tryz.sizeOf165
 v182:=Tryz.zeroValue165
 t183:=Tryz.underlying166
 a183:=Tryz.isAgg166
 z183:=Tryz.sizeOf166
 v183:=Tryz.zeroValue166
 t218:=Tryz.underlying188
 a218:=Tryz.isAgg188
 z218:=Tryz.sizeOf188
 v218:=Tryz.zeroValue188
 t222:=Tryz.underlying192
 a222:=Tryz.isAgg192
 z222:=Tryz.sizeOf192
 v222:=Tryz.zeroValue192
 t228:=Tryz.underlying198
 a228:=Tryz.isAgg198
 z228:=Tryz.sizeOf198
 v228:=Tryz.zeroValue198
 t229:=Tryz.underlying199
 a229:=Tryz.isAgg199
 z229:=Tryz.sizeOf199
 v229:=Tryz.zeroValue199 }
def Tryz.lays212_ren:Go.Shelf.Ren:=⟨fun | 212=>96 | 263=>128 | 264=>129 | n=>n,fun | 46=>150 | 51=>173 | 146=>183 | 53=>175 | 148=>185 | n=>n,fun | n=>n⟩
theorem Tryz.lays212:Go.Proofs.Lays.n212 Tryz.prog Tryz.lays212_ren:={
 mixed:=by kernel_rfl
 f212:=Tryz.func96.trans (congrArg some (by kernel_rfl))
 f263:=Tryz.func128.trans (congrArg some (by kernel_rfl))
 f264:=Tryz.func129.trans (congrArg some (by kernel_rfl))
 t46:=Tryz.underlying150
 a46:=Tryz.isAgg150
 z46:=Tryz.sizeOf150
 v46:=Tryz.zeroValue150
 t51:=Tryz.underlying173
 a51:=Tryz.isAgg173
 z51:=Tryz.sizeOf173
 v51:=Tryz.zeroValue173
 t53:=Tryz.underlying175
 a53:=Tryz.isAgg175
 z53:=Tryz.sizeOf175
 v53:=Tryz.zeroValue175
 t146:=Tryz.underlying183
 a146:=Tryz.isAgg183
 z146:=Tryz.sizeOf183
 v146:=Tryz.zeroValue183
 t148:=Tryz.underlying185
 a148:=Tryz.isAgg185
 z148:=Tryz.sizeOf185
 v148:=Tryz.zeroValue185 }
def Tryz.lays23_ren:Go.Shelf.Ren:=⟨fun | 23=>18 | n=>n,fun | 22=>23 | 3=>3 | 4=>4 | 0=>0 | n=>n,fun | n=>n⟩
theorem Tryz.lays23:Go.Proofs.Lays2.n23 Tryz.prog Tryz.lays23_ren:={
 mixed:=by kernel_rfl
 f23:=Tryz.func18.trans (congrArg some (by kernel_rfl))
 t0:=Tryz.underlying0
 a0:=Tryz.isAgg0
 z0:=Tryz.sizeOf0
 v0:=Tryz.zeroValue0
 t3:=Tryz.underlying3
 a3:=Tryz.isAgg3
 z3:=Tryz.sizeOf3
 v3:=Tryz.zeroValue3
 t4:=Tryz.underlying4
 a4:=Tryz.isAgg4
 z4:=Tryz.sizeOf4
 v4:=Tryz.zeroValue4
 t22:=Tryz.underlying23
 a22:=Tryz.isAgg23
 z22:=Tryz.sizeOf23
 v22:=Tryz.zeroValue23
 i3:=by kernel_rfl }
end Go.Proofs
namespace Go.Nilo
open Go.Proofs

theorem vU {N:Nat} {G:aT} {Lf:List Ent} {w:World} (x:List Int) {D:Option Addr} {B:Nat}  (hc:Ctx G (.row D B (x.map aB) 3 1::Lf) w) {H:(List Int)} (hF:mC N x=some H):Calls Tryz.prog 50 #[.slice D x.length B] w (fun e w=>e=.returned (.tuple #[])∧H.length=x.length∧Ctx G (.row D B (H.map aB) 3 1::Lf) w):=by
 unfold mC at hF
 exact aMl (fun w=>aM7 Go.Proofs.Tryz.lays189 w) (fun b o c zs w h1 h2 h3=>Go.Proofs.Any.slices_Sort_int Go.Proofs.Tryz.lays189 b o c zs w h1 h2 h3) hc hF

def gF (N:Nat) (x:Int) (B:List Int) (D:List aC) (H:Nat→Bool):Option (bY ((List Int) × (List aC) × Int × (Nat→Bool)) ((List Int) × (List aC) × Bool)) :=
 some (.cont (B,D,W (x + 1),H))
def gE (N:Nat) (D:List Int) (H:List aC) (x:Int) (J:Nat→Bool) (M:(List Int)) (B:Int):Option (bY (Int) (bY ((List Int) × (List aC) × Int × (Nat→Bool)) ((List Int) × (List aC) × Bool))) :=
 cond (decide (B < ((M.length:Nat):Int)))
 (Option.bind (bE M B) fun I=>
 Option.bind (inR I 12) fun R=>
 cond (J I.toNat)
 (Option.bind (gF N x D H J) fun O=>some (.ret O))
 (some (.cont (W (B + 1)))))
 (some (.brk B))
def fA (N:Nat) (w_:aF) (O:(List aC)) (B:List Int) (D:List aC) (x:Int) (J:Nat→Bool):Option (bY ((List Int) × (List aC) × Int × (Nat→Bool)) ((List Int) × (List aC) × Bool)) :=
 cond (decide (x < ((O.length:Nat):Int)))
 (Option.bind (bE O x) fun I=>
 Option.bind (bN N w_ I) fun M=>
 Option.bind (aX (fun R=>gE N B D x J M R) N 0) fun S=>
 exK S (fun R=>Option.bind (bE M (W (((M.length:Nat):Int) - 1))) fun H=>
 Option.bind (inR H 12) fun un=>
 Option.bind (room ((B++[H])).length) fun V=>
 Option.bind (room ((D++[I])).length) fun U=>
 gF N x (B++[H]) (D++[I]) (rT J H.toNat true)) some)
 (some (.brk (B,D,x,J)))
def jQ (N:Nat) (w_:aF):Option ((List Int) × (List aC) × Bool) :=
 Option.bind (eN N w_) fun r=>
 Option.bind (jG N r w_) fun D=>
 cond (!D)
 (some (([]:List Int),([]:List aC),false))
 (Option.bind (cE N r w_) fun I=>
 Option.bind (aX (fun B=>fA N w_ I B.1 B.2.1 B.2.2.1 B.2.2.2) N (([]:List Int),([]:List aC),0,(fun _=>false))) fun H=>
 exK H (fun B=>Option.bind (mC N B.1) fun J=>
 some (J,B.2.1,true)) some)
theorem wV {N:Nat} {G:aT} {Lf:List Ent} {w:World} (w_:aF) {b_:Nat} {U:Option Addr} {V:Nat} {I:Option Addr} {M:Nat} {D:Option Addr} {B:Nat} {R:Option Addr} {O:Nat} {J:Option Addr} {H:Nat} {mb:Nat} {di:Hds} (s:Rd G 1 U V (w_.River.Down.map aB)) (d:Rd G 2 I M (w_.River.Travel.map aI)) (Z:Rd G 1 D B (w_.River.Springs.map aB)) (q:Rd G 3 R O (w_.River.Towns.map aG)) (k:RdT cH G 2 J H w_.River.Floods) (hc:Ctx G (.box b_ [.slice U w_.River.Down.length V,.slice I w_.River.Travel.length M,.slice D w_.River.Springs.length B,.slice R w_.River.Towns.length O,i6 w_.River.Delay.Lo,i6 w_.River.Delay.Hi,.slice J w_.River.Floods.length H,.map (some mb)] 102::bI mb aW w_.found 3 di::Lf) w) {ay:(List Int) × (List aC) × Bool} (hF:jQ N w_=some ay):Calls Tryz.prog 24 #[pq b_] w (fun e w=>∃ (b2:Option Addr) (b5:Nat) (b3:Option Addr) (b4:Nat) (bz:Hds),e=.returned (.tuple #[.slice b2 ay.1.length b5,.slice b3 ay.2.1.length b4,.bool ay.2.2])∧Ctx G (.row b2 b5 (ay.1.map aB) 3 1::.row b3 b4 (ay.2.1.map aD) 62 2::.box b_ [.slice U w_.River.Down.length V,.slice I w_.River.Travel.length M,.slice D w_.River.Springs.length B,.slice R w_.River.Towns.length O,i6 w_.River.Delay.Lo,i6 w_.River.Delay.Hi,.slice J w_.River.Floods.length H,.map (some mb)] 102::bI mb aW w_.found 3 bz::Lf) w):=by
 unfold jQ at hF
 refine bL Tryz.func24 rfl Tryz.ntmps24 rfl fun a hf=>zS fun K h=>zB hf hc rfl fun dc a w hf hc=>sp 3 hf rfl fun a hf=>zT h ?_
 refine wp_scope_straight ?_
 refine zS fun K h=>zL hf hc vB m0 rfl fun a w hf hc=>?_
 obtain ⟨r,hr,hF⟩:=aA hF
 refine zC hf aKb rfl (kO w_ s d Z q k ((hc.pick k2).pick k2) hr) ?_
 rintro _ w ⟨dn,c6,rfl,hc⟩
 refine ⟨_,rfl,fun a hf=>?_⟩
 refine sp 1 hf rfl fun a hf=>zT h ?_
 refine zS fun K h=>zL hf hc vB m3 rfl fun a w hf hc=>zP hf rfl (pMF (vs:=[pq b_]) (us:=[]) rfl rfl) fun a hf=>zA hf hc zr_96 rfl fun ac a w hf hc=>zW hf hc sz_96 u0 rfl fun w hc=>zT h ?_
 refine wp_seq_k fun K4 h4=>zS fun K h=>sp 1 hf rfl fun a hf=>zP hf rfl (pMF (us:=[pq ac]) rfl rfl) fun a hf=>?_
 obtain ⟨dx,cv,hF⟩:=aA hF
 obtain ⟨G1,a0,ck,hc,b7⟩:=lend hc k1
 refine zC hf en_43 rfl (uV r w_ ck (s.mono a0) (d.mono a0) (Z.mono a0) (q.mono a0) (k.mono a0) (((hc.pick k2).pick k2).pick k2) cv) ?_
 rintro _ w ⟨c5,rfl,hc⟩
 refine ⟨_,rfl,fun a hf=>?_⟩
 replace hc:=b7 _ _ hc
 refine sp 1 hf rfl fun a hf=>zT h ?_
 refine zI hf rfl hF ?_ ?_ <;> clear hF <;> intro hF
 ·refine zS fun K h=>sp 3 hf rfl fun a hf=>zT h ?_
  refine wp_ret ?_
  refine aL ?_
  refine aJz ?_
  obtain rfl:=sj hF
  replace hc:=hc.nilRow 3 1
  replace hc:=hc.nilRow 62 2
  replace hc:=((((hc.drop k6).drop k3).drop k2).pick k0).pick k1
  exact zO3 Tryz.results24 hf rfl rfl rfl ⟨none,0,none,0,c5,rfl,hc⟩
 ·refine wp_skip ?_
  refine h4 _ _ ?_
  refine zS fun K h=>zP hf rfl (pMF (us:=[pq ac,pq dc]) rfl rfl) fun a hf=>zA hf hc aRg rfl fun dg a w hf hc=>zW hf hc aQ8 u0 rfl fun w hc=>zT h ?_
  refine zS fun K h=>sp 1 hf rfl fun a hf=>zP hf rfl (pMF (us:=[pq dg]) rfl rfl) fun a hf=>?_
  obtain ⟨t,c1,hF⟩:=aA hF
  refine zC hf en_47 rfl (lU r w_ s d Z q k ((((((hc.pick k5).pick k5).pick k5).pick k5).pick k4).pick k5) c1) ?_
  rintro _ w ⟨bx,rfl,hl,hc⟩
  refine ⟨_,rfl,fun a hf=>?_⟩
  try rw [← hl] at hf
  try rw [← hl] at hc
  refine zT h ?_
  refine zS fun K h=>aFg (cs:=(bR [] 12 cG (fun _=>false) [])) hf hc rfl rfl aIi rfl fun aj a w hf hc=>zT h ?_
  refine zS fun K h=>sp 1 hf rfl fun a hf=>zT h ?_
  refine zS fun K h=>sp 1 hf rfl fun a hf=>zT h ?_
  refine wp_seq_k fun K12 c8=>wp_label ?_
  refine c8 _ _ ?_
  refine wp_seq_k fun K13 c3=>zS fun K h=>sp 1 hf rfl fun a hf=>zP hf rfl (bG Tryz.underlying49 rfl) fun a hf=>sp 1 hf rfl fun a hf=>zT h ?_
  refine wp_block ?_
  obtain ⟨bs,cj,hF⟩:=aA hF
  let S15:((List Int) × (List aC) × Int × (Nat→Bool))→Act→World→Prop:=(fun (zz:(List Int) × (List aC) × Int × (Nat→Bool)) a w=>∃ (ab:Option Addr) (ad:Nat) (ag:Option Addr) (af:Nat) (a9:Option Addr) (aa:Nat) (am:Hds),Has 69 a [(6,pq ac),(8,pq aj),(9,.slice ab zz.1.length ad),(10,.slice ag zz.2.1.length af),(29,.slice a9 t.length aa),(30,i6 ((t.length:Nat):Int)),(31,i6 zz.2.2.1)]∧Ctx G (.row ag af (zz.2.1.map aD) 62 2::.row ab ad (zz.1.map aB) 3 1::.box aj (bR [] 12 cG zz.2.2.2 []) 90::.row a9 aa (t.map aD) 62 2::.box ac [.func (.func 37) #[pq b_] #[]] 96::.box b_ [.slice U w_.River.Down.length V,.slice I w_.River.Travel.length M,.slice D w_.River.Springs.length B,.slice R w_.River.Towns.length O,i6 w_.River.Delay.Lo,i6 w_.River.Delay.Hi,.slice J w_.River.Floods.length H,.map (some mb)] 102::bI mb aW w_.found 3 am::Lf) w)
  have cq:∀ (zz:(List Int) × (List aC) × Int × (Nat→Bool)) a w,bs=.go zz→S15 zz a w→K13 a w:=by
   rintro ⟨X,m,x,aq⟩ a w rfl ⟨ab,ad,ag,af,a9,aa,am,hf,hc⟩
   replace hF:=bK hF
   refine c3 _ _ ?_
   refine zS fun K h=>sp 1 hf rfl fun a hf=>?_
   obtain ⟨dy,cm,hF⟩:=aA hF
   refine zC hf en_50 rfl (vU X (hc.pick k1) cm) ?_
   rintro _ w ⟨rfl,bn,hc⟩
   refine ⟨_,rfl,fun a hf=>?_⟩
   try rw [← bn] at hf
   try rw [← bn] at hc
   refine zT h ?_
   refine zS fun K h=>sp 5 hf rfl fun a hf=>zT h ?_
   refine wp_ret ?_
   refine aJz ?_
   obtain rfl:=sj hF
   replace hc:=((hc.drop k4).drop k3).drop k2
   exact zO3 Tryz.results24 hf rfl rfl rfl ⟨ab,ad,ag,af,am,rfl,hc⟩
  have dq:∀ r,bs=.out r→r=ay:=by
   rintro r rfl
   exact sj hF
  replace hc:=hc.nilRow 3 1
  replace hc:=hc.nilRow 62 2
  replace hc:=(hc.drop k8).drop k4
  refine cZ N (cW (S:=S15) (x:=bs) ?_ N (([]:List Int),([]:List aC),0,(fun _=>false)) _ _ ⟨none,0,none,0,dn,c6,bx,hf.kp rfl,hc⟩ cj)
  clear hF hf hc
  rintro ⟨X,m,x,aq⟩ bq a w KB15 ⟨ab,ad,ag,af,a9,aa,am,hf,hc⟩ hF ba cn
  unfold fA at hF
  refine zS fun K h=>sp 1 hf rfl fun a hf=>zT h ?_
  refine wp_seq_k fun K19 c9=>zI hf rfl hF ?_ ?_ <;> clear hF <;> intro hF
  ·refine wp_skip ?_
   refine c9 _ _ ?_
   refine wp_seq_k fun K20 dm=>?_
   have br:∀ (v:List Int) (ai:List aC) (bi:Nat→Bool) (bb:Option Addr) (bd:Nat) (bk:Option Addr) (bf:Nat) (bj:Option Addr) (bc:Nat) (a3:Hds) a w,Has 69 a [(6,pq ac),(8,pq aj),(9,.slice bb v.length bd),(10,.slice bk ai.length bf),(29,.slice bj t.length bc),(30,i6 ((t.length:Nat):Int)),(31,i6 x)]→Ctx G (.box b_ [.slice U w_.River.Down.length V,.slice I w_.River.Travel.length M,.slice D w_.River.Springs.length B,.slice R w_.River.Towns.length O,i6 w_.River.Delay.Lo,i6 w_.River.Delay.Hi,.slice J w_.River.Floods.length H,.map (some mb)] 102::bI mb aW w_.found 3 a3::.row bk bf (ai.map aD) 62 2::.row bb bd (v.map aB) 3 1::.box aj (bR [] 12 cG bi []) 90::.row bj bc (t.map aD) 62 2::.box ac [.func (.func 37) #[pq b_] #[]] 96::Lf) w→gF N x v ai bi=some bq→K20 a w:=by
    repeat (clear hF)
    repeat (clear hc)
    repeat (clear hf)
    intro v ai bi bb bd bk bf bj bc a3 a w hf hc hF
    unfold gF at hF
    refine dm _ _ ?_
    refine bV ?_
    refine sp 2 hf rfl fun a hf=>aP ?_
    replace hc:=((((((hc.pick k1).pick k1).pick k6).pick k6).pick k6).pick k6).pick k6
    exact cn (v,ai,W (x + 1),bi) _ _ (sj hF).symm ⟨bb,bd,bk,bf,bj,bc,a3,hf.kp rfl,hc⟩
   refine wp_block ?_
   refine zS fun K h=>?_
   obtain ⟨Y,cf,hF⟩:=aA hF
   have a8:=hf
   obtain ⟨g,rfl,qa,qr⟩:=hP hc m3 cf
   have hf:=a8
   refine zP hf rfl (pIA Tryz.underlying49 gG rfl rfl qa) fun a hf=>zE hf hc rfl (lK (vs:=[i6 Y.Spring,i6 Y.Town]) jE rfl rfl (jL (sz:=2) (i:=x.toNat) m3 qr (n:=2) (o':=0) rfl)) fun a w hf hc=>zA hf hc aLy rfl fun ax a w hf hc=>zW hf hc gG u0 rfl fun w hc=>zT h ?_
   refine zS fun K h=>zL hf hc aLx m5 rfl fun a w hf hc=>zN hf hc jE m0 rfl fun a w hf hc=>?_
   obtain ⟨a1,cy,hF⟩:=aA hF
   refine zC hf aH7 rfl (iS w_ Y s d Z q k ((hc.pick k7).pick k7) cy) ?_
   rintro _ w ⟨dd,db,b0,rfl,hc⟩
   refine ⟨_,rfl,fun a hf=>?_⟩
   refine sp 1 hf rfl fun a hf=>zT h ?_
   refine wp_seq_k fun K23 c4=>zS fun K h=>sp 1 hf rfl fun a hf=>zP hf rfl (bG Tryz.underlying23 rfl) fun a hf=>sp 1 hf rfl fun a hf=>zT h ?_
   refine wp_block ?_
   obtain ⟨bp,c0,hF⟩:=aA hF
   let S25:Int→Act→World→Prop:=(fun (zz:Int) a w=>∃ (av:Option Addr) (ar:Nat) (an:Hds),Has 69 a [(6,pq ac),(8,pq aj),(9,.slice ab X.length ad),(10,.slice ag m.length af),(12,pq ax),(13,.slice av a1.length ar),(29,.slice (some ⟨g,0,none⟩) t.length aa),(30,i6 ((t.length:Nat):Int)),(31,i6 x),(38,.slice av a1.length ar),(39,i6 ((a1.length:Nat):Int)),(40,i6 zz)]∧Ctx G (.row av ar (a1.map aB) 3 1::.box b_ [.slice U w_.River.Down.length V,.slice I w_.River.Travel.length M,.slice D w_.River.Springs.length B,.slice R w_.River.Towns.length O,i6 w_.River.Delay.Lo,i6 w_.River.Delay.Hi,.slice J w_.River.Floods.length H,.map (some mb)] 102::aAw mb aW w_.found 3 an (Y.Spring,Y.Town) av ar a1::.box ax [i6 Y.Spring,i6 Y.Town] 62::.row ag af (m.map aD) 62 2::.row ab ad (X.map aB) 3 1::.box aj (bR [] 12 cG aq []) 90::.row (some ⟨g,0,none⟩) aa (t.map aD) 62 2::.box ac [.func (.func 37) #[pq b_] #[]] 96::Lf) w)
   have cp:∀ (zz:Int) a w,bp=.go zz→S25 zz a w→K23 a w:=by
    rintro bt a w rfl ⟨av,ar,an,hf,hc⟩
    replace hF:=bK hF
    refine c4 _ _ ?_
    refine wp_seq_k fun K26 c7=>bV ?_
    refine sp 2 hf rfl fun a hf=>zP hf rfl (bG Tryz.underlying23 rfl) fun a hf=>sp 1 hf rfl fun a hf=>?_
    obtain ⟨y,cg,hF⟩:=aA hF
    have a8:=hf
    obtain ⟨dz,rfl,cr,cd⟩:=hP hc m0 cg
    have hf:=a8
    refine zP hf rfl (pIA Tryz.underlying23 fO rfl rfl cr) fun a hf=>zE hf hc rfl (eP cR rfl (fZ (sz:=1) (i:=(W (((a1.length:Nat):Int) - 1)).toNat) (j:=0) m0 cd rfl)) fun a w hf hc=>sp 1 hf rfl fun a hf=>aP ?_
    obtain ⟨au,hc⟩:=tU ((hc.pick k0).pick k2)
    replace hc:Ctx G (bI mb aW w_.found 3 au::.box b_ [.slice U w_.River.Down.length V,.slice I w_.River.Travel.length M,.slice D w_.River.Springs.length B,.slice R w_.River.Towns.length O,i6 w_.River.Delay.Lo,i6 w_.River.Delay.Hi,.slice J w_.River.Floods.length H,.map (some mb)] 102::.box ax [i6 Y.Spring,i6 Y.Town] 62::.row ag af (m.map aD) 62 2::.row ab ad (X.map aB) 3 1::.box aj (bR [] 12 cG aq []) 90::.row (some ⟨g,0,none⟩) aa (t.map aD) 62 2::.box ac [.func (.func 37) #[pq b_] #[]] 96::Lf) w:=hc
    refine c7 _ _ ?_
    refine zS fun K h=>sp 1 hf rfl fun a hf=>?_
    obtain ⟨un,bm,hF⟩:=aA hF
    refine zP hf rfl (xL Tryz.underlying90 yC rfl rfl (cF bm).1 (cF bm).2) fun a hf=>aK7 (vs:=[.bool true]) (o':=0) (z:=true) hf hc rfl rfl rfl rfl yC rfl (fun x=>(mD x).1) rfl bm rfl rfl u5 fun w hc=>zT h ?_
    obtain ⟨dr,bv,hF⟩:=aA hF
    obtain ⟨du,bu,hF⟩:=aA hF
    replace hc:=hc.nilRow 0 0
    replace hc:=hc.nilRow 0 0
    refine eL (fun θ=>[⟨none,none,6,pq ac⟩,⟨none,none,8,pq aj⟩,⟨none,some 8,9,.slice ab X.length ad⟩,⟨none,some 9,10,.slice ag m.length af⟩,⟨none,none,12,pq ax⟩,⟨none,none,16,i6 y⟩,⟨none,none,29,.slice (some ⟨g,0,none⟩) t.length aa⟩,⟨none,none,30,i6 ((t.length:Nat):Int)⟩,⟨none,none,31,i6 x⟩,⟨some 0,none,56,.slice ab X.length ad⟩,⟨some 1,none,57,i6 y⟩,⟨some 2,none,58,.slice (some ⟨(θ 16).b,0,none⟩) 1 1⟩,⟨some 3,none,59,.slice ((θ 24).p) ((X++[y]).length) ((θ 24).c)⟩,⟨some 4,none,60,.slice ag m.length af⟩,⟨some 5,none,61,.agg #[i6 Y.Spring,i6 Y.Town]⟩,⟨some 6,none,62,.slice (some ⟨(θ 48).b,0,none⟩) 1 1⟩,⟨some 7,none,63,.slice ((θ 56).p) ((m++[Y]).length) ((θ 56).c)⟩,⟨some 8,none,9,.slice ((θ 24).p) ((X++[y]).length) ((θ 24).c)⟩,⟨some 9,none,10,.slice ((θ 56).p) ((m++[Y]).length) ((θ 56).c)⟩]) (fun E θ=>(bif E 6 then .row (some ⟨(θ 48).b,0,none⟩) 1 (([Y]:List aC).map aD) 62 2 else .row none 0 [] 0 0)::(bif E 2 then .row (some ⟨(θ 16).b,0,none⟩) 1 (([y]:List Int).map aB) 3 1 else .row none 0 [] 0 0)::bI mb aW w_.found 3 au::.box b_ [.slice U w_.River.Down.length V,.slice I w_.River.Travel.length M,.slice D w_.River.Springs.length B,.slice R w_.River.Towns.length O,i6 w_.River.Delay.Lo,i6 w_.River.Delay.Hi,.slice J w_.River.Floods.length H,.map (some mb)] 102::.box ax [i6 Y.Spring,i6 Y.Town] 62::(bif E 7 then .row ((θ 56).p) ((θ 56).c) ((m++[Y]).map aD) 62 2 else .row ag af (m.map aD) 62 2)::(bif E 3 then .row ((θ 24).p) ((θ 24).c) ((X++[y]).map aB) 3 1 else .row ab ad (X.map aB) 3 1)::.box aj (bR [] 12 cG (rT aq y.toNat true) []) 90::.row (some ⟨g,0,none⟩) aa (t.map aD) 62 2::.box ac [.func (.func 37) #[pq b_] #[]] 96::Lf) [(8,0),(8,3),(9,4),(9,7)] (fun a w=>∃ (a7:Option Addr) (a4:Nat) (a2:Option Addr) (a5:Nat) (b6:Nat) (b1:Nat),Has 69 a [(6,pq ac),(8,pq aj),(29,.slice (some ⟨g,0,none⟩) t.length aa),(30,i6 ((t.length:Nat):Int)),(31,i6 x),(9,.slice a7 ((X++[y]).length) a4),(10,.slice a2 ((m++[Y]).length) a5)]∧Ctx G (.row (some ⟨b6,0,none⟩) 1 (([Y]:List aC).map aD) 62 2::.row (some ⟨b1,0,none⟩) 1 (([y]:List Int).map aB) 3 1::bI mb aW w_.found 3 au::.box b_ [.slice U w_.River.Down.length V,.slice I w_.River.Travel.length M,.slice D w_.River.Springs.length B,.slice R w_.River.Towns.length O,i6 w_.River.Delay.Lo,i6 w_.River.Delay.Hi,.slice J w_.River.Floods.length H,.map (some mb)] 102::.box ax [i6 Y.Spring,i6 Y.Town] 62::.row a2 a5 ((m++[Y]).map aD) 62 2::.row a7 a4 ((X++[y]).map aB) 3 1::.box aj (bR [] 12 cG (rT aq y.toNat true) []) 90::.row (some ⟨g,0,none⟩) aa (t.map aD) 62 2::.box ac [.func (.func 37) #[pq b_] #[]] 96::Lf) w) bA (by kernel_rfl) (by kernel_rfl) (fN.of hf ⟨rfl,rfl,rfl,rfl,rfl,rfl,rfl,rfl,rfl,trivial,trivial,trivial,trivial,trivial,trivial,trivial,trivial,trivial,trivial,trivial⟩) hc ⟨?_,?_,?_,?_,?_,?_,?_,?_,?_,?_,trivial⟩ ?_ ?_
    ·intro E θ a w hD hi hp he hc
     have e8:=hD.f 0 rfl hi
     have hf:=he.h0.mN he 2 rfl e8
     refine sp 1 hf rfl fun a hf=>zD θ he hi hf 9 rfl rfl rfl hc
    ·intro E θ a w hD hi hp he hc
     have hf:=he.h0.mT he 5 rfl
     refine sp 1 hf rfl fun a hf=>zD θ he hi hf 10 rfl rfl rfl hc
    ·intro E θ a w hD hi hp he hc
     have e1:=hp.o 1 rfl
     try dsimp only at hc
     rw [hi] at hc
     have hf:=he.h0.mP he 10 rfl e1
     refine oB (rows:=([y]:List Int).map aB) (vs:=[(0,i6 y)]) hf hc rfl rfl jA rfl ⟨rfl,rfl,rfl,trivial⟩ rfl rfl fun df a w hf hc=>aP ?_
     refine eJ ?_
     intro ds u az
     replace hc:=((hc.drop k2).pick k0).pick k1
     refine ⟨(nF θ 16 ⟨df,none,0,(fun _=>(none,0))⟩),he.put hi az hf rfl [] trivial ⟨qq,qq,qq,qq,qq,qq,qq,qq,qq,qq,qq,qq,qq,qq,qq,qq,qq,qq,qq,trivial⟩,?_⟩
     try dsimp only
     rw [aS E 2]
     exact hc
    ·intro E θ a w hD hi hp he hc
     have e0:=hp.o 0 rfl
     have e2:=hp.o 2 rfl
     have e8:=hD.f 1 rfl hi
     try dsimp only at hc
     rw [e2,hi] at hc
     have hf:=(he.h0.mP he 9 rfl e0).mP he 11 rfl e2
     refine pC (xs:=X) (ys:=([y]:List Int)) hf hc rfl rfl jA rfl rfl rfl rfl rfl bZ (kC hc m1) (fun _ _=>u6) (by simpa using fD bv) fun b9 b8 a w hf hc=>aP ?_
     refine eJ ?_
     intro ds u az
     refine ⟨(nF θ 24 ⟨0,b9,b8,(fun _=>(none,0))⟩),he.put hi az hf rfl [8] ⟨⟨e8,rfl⟩,trivial⟩ ⟨qq,qq,qq,qq,qq,qq,qq,qq,qq,qq,qq,qq,qq,qq,qq,qq,qq,trivial,qq,trivial⟩,?_⟩
     try dsimp only
     rw [eC 3 e2,aS E 3]
     exact hc
    ·intro E θ a w hD hi hp he hc
     have e9:=hD.f 2 rfl hi
     have hf:=he.h0.mN he 3 rfl e9
     refine sp 1 hf rfl fun a hf=>zD θ he hi hf 13 rfl rfl rfl hc
    ·intro E θ a w hD hi hp he hc
     have hf:=he.h0.mT he 4 rfl
     refine zN hf hc jE m4 rfl fun a w hf hc=>zD θ he hi hf 14 rfl rfl rfl hc
    ·intro E θ a w hD hi hp he hc
     have e5:=hp.o 5 rfl
     try dsimp only at hc
     rw [hi] at hc
     have hf:=he.h0.mP he 14 rfl e5
     refine oB (rows:=([Y]:List aC).map aD) (vs:=[(0,.agg #[i6 Y.Spring,i6 Y.Town])]) hf hc rfl rfl aKg rfl ⟨rfl,rfl,rfl,trivial⟩ rfl rfl fun dk a w hf hc=>aP ?_
     refine eJ ?_
     intro ds u az
     replace hc:=hc.drop k1
     refine ⟨(nF θ 48 ⟨dk,none,0,(fun _=>(none,0))⟩),he.put hi az hf rfl [] trivial ⟨qq,qq,qq,qq,qq,qq,qq,qq,qq,qq,qq,qq,qq,qq,qq,qq,qq,qq,qq,trivial⟩,?_⟩
     try dsimp only
     rw [aS E 6]
     exact hc
    ·intro E θ a w hD hi hp he hc
     have e4:=hp.o 4 rfl
     have e6:=hp.o 6 rfl
     have e9:=hD.f 3 rfl hi
     try dsimp only at hc
     rw [e6,hi] at hc
     have hf:=(he.h0.mP he 13 rfl e4).mP he 15 rfl e6
     refine pC (xs:=m) (ys:=([Y]:List aC)) hf hc rfl rfl aKg rfl rfl rfl rfl rfl dJ (kC hc m0) (fun _ _=>u5) (by simpa using fD bu) fun cu cx a w hf hc=>aP ?_
     refine eJ ?_
     intro ds u az
     refine ⟨(nF θ 56 ⟨0,cu,cx,(fun _=>(none,0))⟩),he.put hi az hf rfl [9] ⟨⟨e9,rfl⟩,trivial⟩ ⟨qq,qq,qq,qq,qq,qq,qq,qq,qq,qq,qq,qq,qq,qq,qq,qq,qq,qq,trivial,trivial⟩,?_⟩
     try dsimp only
     rw [eC 7 e6,aS E 7]
     exact hc
    ·intro E θ a w hD hi hp he hc
     have e3:=hp.o 3 rfl
     have hf:=he.h0.mP he 12 rfl e3
     refine sp 1 hf rfl fun a hf=>zD θ he hi hf 17 rfl rfl rfl hc
    ·intro E θ a w hD hi hp he hc
     have e7:=hp.o 7 rfl
     have hf:=he.h0.mP he 16 rfl e7
     refine sp 1 hf rfl fun a hf=>zD θ he hi hf 18 rfl rfl rfl hc
    ·intro E θ a w ap he hc
     have hf:=he.h0
     have e2:=ap 2 rfl
     have e3:=ap 3 rfl
     have e6:=ap 6 rfl
     have e7:=ap 7 rfl
     have e8:=ap 8 rfl
     have e9:=ap 9 rfl
     replace hf:=hf.more he 18 rfl (onP e9)
     replace hf:=hf.more he 17 rfl (onP e8)
     replace hf:=hf.more he 8 rfl (onT)
     replace hf:=hf.more he 7 rfl (onT)
     replace hf:=hf.more he 6 rfl (onT)
     replace hf:=hf.more he 1 rfl (onT)
     replace hf:=hf.more he 0 rfl (onT)
     try dsimp only at hc
     rw [e2,e3,e6,e7] at hc
     exact ⟨(θ 24).p,(θ 24).c,(θ 56).p,(θ 56).c,(θ 48).b,(θ 16).b,hf.kp rfl,hc⟩
    rintro a w ⟨a7,a4,a2,a5,b6,b1,hf,hc⟩
    replace hc:=((((hc.drop k4).drop k1).drop k0).pick k0).pick k1
    exact br (X++[y]) (m++[Y]) (rT aq y.toNat true) a7 a4 a2 a5 (some ⟨g,0,none⟩) aa au _ _  (hf.kp rfl) hc hF
   have ci:∀ r,bp=.out r→r=bq:=by
    rintro r rfl
    exact sj hF
   refine cZ N (cW (S:=S25) (x:=bp) ?_ N 0 _ _ ⟨dd,db,b0,hf.kp rfl,hc⟩ c0)
   clear hF hf hc
   rintro bt dp a w KB25 ⟨av,ar,an,hf,hc⟩ hF ak cb
   unfold gE at hF
   refine zS fun K h=>sp 1 hf rfl fun a hf=>zT h ?_
   refine wp_seq_k fun K29 c2=>zI hf rfl hF ?_ ?_ <;> clear hF <;> intro hF
   ·refine wp_skip ?_
    refine c2 _ _ ?_
    refine wp_seq_k fun K30 dj=>wp_block ?_
    refine zS fun K h=>?_
    obtain ⟨d0,ca,hF⟩:=aA hF
    have a8:=hf
    obtain ⟨da,rfl,ct,cc⟩:=hP hc m0 ca
    have hf:=a8
    refine zP hf rfl (pIA Tryz.underlying23 fO rfl rfl ct) fun a hf=>zE hf hc rfl (eP cR rfl (fZ (sz:=1) (i:=bt.toNat) (j:=0) m0 cc rfl)) fun a w hf hc=>sp 1 hf rfl fun a hf=>zT h ?_
    refine zS fun K h=>sp 1 hf rfl fun a hf=>?_
    obtain ⟨dt,a6,hF⟩:=aA hF
    refine zP hf rfl (xL Tryz.underlying90 yC rfl rfl (cF a6).1 (cF a6).2) fun a hf=>zE hf hc rfl (eP aJi rfl (yF (j:=0) m6 (fun x=>(mD x).1) rfl a6 rfl)) fun a w hf hc=>zT h ?_
    refine zI hf rfl hF ?_ ?_ <;> clear hF <;> intro hF
    ·refine wp_exit ?_
     refine aPh rfl ?_
     refine aY ?_
     refine aY ?_
     obtain ⟨dv,cz,hF⟩:=aA hF
     have he:=sj hF
     rw [← he] at ak
     have he:=ci _ ak
     replace hF:=cz.trans (congrArg some he)
     refine aPh rfl ?_
     refine aY ?_
     refine fJ ?_
     obtain ⟨bg,hc⟩:=tU ((hc.pick k0).pick k2)
     replace hc:Ctx G (bI mb aW w_.found 3 bg::.box b_ [.slice U w_.River.Down.length V,.slice I w_.River.Travel.length M,.slice D w_.River.Springs.length B,.slice R w_.River.Towns.length O,i6 w_.River.Delay.Lo,i6 w_.River.Delay.Hi,.slice J w_.River.Floods.length H,.map (some mb)] 102::.box ax [i6 Y.Spring,i6 Y.Town] 62::.row ag af (m.map aD) 62 2::.row ab ad (X.map aB) 3 1::.box aj (bR [] 12 cG aq []) 90::.row (some ⟨g,0,none⟩) aa (t.map aD) 62 2::.box ac [.func (.func 37) #[pq b_] #[]] 96::Lf) w:=hc
     replace hc:=((hc.drop k2).pick k0).pick k1
     exact br X m aq ab ad ag af (some ⟨g,0,none⟩) aa bg _ _  (hf.kp rfl) hc hF
    ·refine wp_skip ?_
     refine dj _ _ ?_
     refine bV ?_
     refine sp 2 hf rfl fun a hf=>aP ?_
     exact cb (W (bt + 1)) _ _ (sj hF).symm ⟨(some ⟨da,0,none⟩),ar,an,hf.kp rfl,hc⟩
   ·refine wp_exit ?_
    refine aY ?_
    refine aY ?_
    have he:=sj hF
    rw [← he] at ak
    refine fJ ?_
    exact cp _ _ _ ak ⟨av,ar,an,hf.kp rfl,hc⟩
  ·refine wp_exit ?_
   refine aY ?_
   refine aY ?_
   have he:=sj hF
   rw [← he] at ba
   refine fJ ?_
   exact cq _ _ _ ba ⟨ab,ad,ag,af,a9,aa,am,hf.kp rfl,hc⟩

def pG (N:Nat) (r:aH):Option ((List Int) × Int) :=
 Option.bind (nR N r) (aAg (fun H=>cond (H != 0)
 (some (([]:List Int),H))
 (none))
 (fun B=>cond (B.2.2.2 != 0)
 (some (([]:List Int),B.2.2.2))
 (Option.bind (jQ N (⟨(⟨r.Down,r.Travel,r.Springs,r.Towns,(⟨B.1,B.2.1⟩:aN),r.Floods⟩:aH),B.2.2.1⟩:aF)) fun D=>
 cond (!D.2.2)
 (some (([]:List Int),6))
 (some (D.1,0)))))
theorem aDg {N:Nat} {G:aT} {Lf:List Ent} {w:World} (r:aH) {Z:Option Addr} {b:Nat} {V:Option Addr} {S:Nat} {J:Option Addr} {M:Nat} {Y:Option Addr} {X:Nat} {R:Option Addr} {U:Nat} (O:Rd G 1 Z b (r.Down.map aB)) (H:Rd G 2 V S (r.Travel.map aI)) (B:Rd G 1 J M (r.Springs.map aB)) (I:Rd G 3 Y X (r.Towns.map aG)) (D:RdT cH G 2 R U r.Floods) (hc:Ctx G (Lf) w) {d:(List Int) × Int} (hF:pG N r=some d):Calls Tryz.prog 7 #[.agg #[.slice Z r.Down.length b,.slice V r.Travel.length S,.slice J r.Springs.length M,.slice Y r.Towns.length X,i6 r.Delay.Lo,i6 r.Delay.Hi,.slice R r.Floods.length U]] w (fun e w=>∃ (j:Option Addr) (k:Nat),e=.returned (.tuple #[.slice j d.1.length k,i6 d.2])∧Ctx G (.row j k (d.1.map aB) 3 1::Lf) w):=by
 unfold pG at hF
 refine bL Tryz.func7 rfl Tryz.ntmps7 rfl fun a hf=>zS fun K h=>zB hf hc rfl fun x a w hf hc=>sp 2 hf rfl fun a hf=>zT h ?_
 refine zS fun K h=>zN hf hc oK m0 rfl fun a w hf hc=>?_
 obtain ⟨m,i,hF⟩:=aA hF
 cases m with
 | inl m=>
  replace hF:=aC4 hF
  refine zC hf aDf rfl (kG r O H B I D hc i) ?_
  rintro _ w ⟨rfl,hc⟩
  refine ⟨_,rfl,fun a hf=>?_⟩
  refine sp 5 hf rfl fun a hf=>zT h ?_
  refine wp_seq_k fun K3 h3=>zS fun K h=>sp 2 hf rfl fun a hf=>zT h ?_
  refine zI hf rfl hF ?_ ?_ <;> clear hF <;> intro hF
  ·refine zS fun K h=>sp 3 hf rfl fun a hf=>zT h ?_
   refine wp_ret ?_
   refine aL ?_
   obtain rfl:=sj hF
   replace hc:=hc.nilRow 3 1
   replace hc:=hc.drop k1
   exact zO2 Tryz.results7 hf rfl rfl ⟨none,0,rfl,hc⟩
  ·refine wp_skip ?_
   refine h3 _ _ ?_
   refine wp_seq_k fun K6 h6=>aBn hF
 | inr g=>
  replace hF:=aC7 hF
  have n:=i
  refine zC hf aDf rfl (kG r O H B I D hc n) ?_
  rintro _ w ⟨y,aa,z,rfl,hc⟩
  refine ⟨_,rfl,fun a hf=>?_⟩
  refine sp 5 hf rfl fun a hf=>zT h ?_
  refine wp_seq_k fun K7 h7=>zS fun K h=>sp 2 hf rfl fun a hf=>zT h ?_
  refine zI hf rfl hF ?_ ?_ <;> clear hF <;> intro hF
  ·refine zS fun K h=>sp 3 hf rfl fun a hf=>zT h ?_
   refine wp_ret ?_
   refine aL ?_
   obtain rfl:=sj hF
   replace hc:=hc.nilRow 3 1
   replace hc:=((hc.drop k3).drop k2).drop k1
   exact zO2 Tryz.results7 hf rfl rfl ⟨none,0,rfl,hc⟩
  ·refine wp_skip ?_
   refine h7 _ _ ?_
   refine zS fun K h=>sp 1 hf rfl fun a hf=>?_
   obtain ⟨u,o,hF⟩:=aA hF
   refine zC hf en_24 rfl (wV (⟨(⟨r.Down,r.Travel,r.Springs,r.Towns,(⟨g.1,g.2.1⟩:aN),r.Floods⟩:aH),g.2.2.1⟩:aF) O H B I D ((hc.pick k0).pick k1) o) ?_
   rintro _ w ⟨s,q,v,ab,t,rfl,hc⟩
   refine ⟨_,rfl,fun a hf=>?_⟩
   refine sp 7 hf rfl fun a hf=>zT h ?_
   refine wp_seq_k fun K11 p=>zS fun K h=>sp 2 hf rfl fun a hf=>zT h ?_
   refine zI hf rfl hF ?_ ?_ <;> clear hF <;> intro hF
   ·refine zS fun K h=>sp 2 hf rfl fun a hf=>zT h ?_
    refine wp_ret ?_
    refine aL ?_
    obtain rfl:=sj hF
    replace hc:=hc.nilRow 3 1
    replace hc:=((((hc.drop k5).drop k4).drop k3).drop k2).drop k1
    exact zO2 Tryz.results7 hf rfl rfl ⟨none,0,rfl,hc⟩
   ·refine wp_skip ?_
    refine p _ _ ?_
    refine zS fun K h=>sp 3 hf rfl fun a hf=>zT h ?_
    refine wp_ret ?_
    obtain rfl:=sj hF
    replace hc:=(((hc.drop k4).drop k3).drop k2).drop k1
    exact zO2 Tryz.results7 hf rfl rfl ⟨s,q,rfl,hc⟩

def aC1 (N:Nat)  : Option ((List aM)) :=
 some ([(⟨([]:List Int),1,5⟩:aM),(⟨([]:List Int),1,6⟩:aM),(⟨([0,1]:List Int),1,10⟩:aM),(⟨([1]:List Int),1,30⟩:aM),(⟨([2,3]:List Int),1,20⟩:aM),(⟨([4]:List Int),1,1⟩:aM)]:List aM)
theorem aGn {N:Nat} {G:aT} {Lf:List Ent} {w:World}    (hc:Ctx G (Lf) w) {H:(List aM)} (hF:aC1 N=some H):Calls Tryz.prog 26 #[] w (fun e w=>∃ (S:Option Addr) (B:aCq),e=.returned (.slice S H.length B.1)∧Ctx G (.row S B.1 ((aU B.2 H).map (Kd.v jV)) 116 3::cK jV (aU B.2 H)::Lf) w):=by
 unfold aC1 at hF
 refine bL Tryz.func26 rfl Tryz.ntmps26 rfl fun a hf=>zS fun K h=>sp 1 hf rfl fun a hf=>zT h ?_
 refine wp_seq_k fun K2 h2=>bV ?_
 refine zP hf rfl (iF (cells:=[.slice none 0 0,i6 1,i6 5]) aC2 rfl rfl) fun a hf=>zP hf rfl (iF (cells:=[.slice none 0 0,i6 1,i6 6]) aC2 rfl rfl) fun a hf=>oB (rows:=([0,1]:List Int).map aB) (vs:=[(0,i6 0),(1,i6 1)]) hf hc rfl rfl jA rfl ⟨rfl,rfl,rfl,rfl,rfl,rfl,trivial⟩ rfl rfl fun M a w hf hc=>zP hf rfl (iF (cells:=[.slice (some ⟨M,0,none⟩) 2 2,i6 1,i6 10]) aC2 rfl rfl) fun a hf=>oB (rows:=([1]:List Int).map aB) (vs:=[(0,i6 1)]) hf hc rfl rfl jA rfl ⟨rfl,rfl,rfl,trivial⟩ rfl rfl fun D a w hf hc=>zP hf rfl (iF (cells:=[.slice (some ⟨D,0,none⟩) 1 1,i6 1,i6 30]) aC2 rfl rfl) fun a hf=>oB (rows:=([2,3]:List Int).map aB) (vs:=[(0,i6 2),(1,i6 3)]) hf hc rfl rfl jA rfl ⟨rfl,rfl,rfl,rfl,rfl,rfl,trivial⟩ rfl rfl fun I a w hf hc=>zP hf rfl (iF (cells:=[.slice (some ⟨I,0,none⟩) 2 2,i6 1,i6 20]) aC2 rfl rfl) fun a hf=>oB (rows:=([4]:List Int).map aB) (vs:=[(0,i6 4)]) hf hc rfl rfl jA rfl ⟨rfl,rfl,rfl,trivial⟩ rfl rfl fun J a w hf hc=>zP hf rfl (iF (cells:=[.slice (some ⟨J,0,none⟩) 1 1,i6 1,i6 1]) aC2 rfl rfl) fun a hf=>?_
 replace hc:=hc.nilRow 3 1
 replace hc:=hc.nilRow 3 1
 refine oB (rows:=([((none,0),(⟨([]:List Int),1,5⟩:aM)),((none,0),(⟨([]:List Int),1,6⟩:aM)),(((some ⟨M,0,none⟩),2),(⟨([0,1]:List Int),1,10⟩:aM)),(((some ⟨D,0,none⟩),1),(⟨([1]:List Int),1,30⟩:aM)),(((some ⟨I,0,none⟩),2),(⟨([2,3]:List Int),1,20⟩:aM)),(((some ⟨J,0,none⟩),1),(⟨([4]:List Int),1,1⟩:aM))]:List (H2 × aM)).map (Kd.v jV)) (vs:=[(0,.agg #[.slice none 0 0,i6 1,i6 5]),(1,.agg #[.slice none 0 0,i6 1,i6 6]),(2,.agg #[.slice (some ⟨M,0,none⟩) 2 2,i6 1,i6 10]),(3,.agg #[.slice (some ⟨D,0,none⟩) 1 1,i6 1,i6 30]),(4,.agg #[.slice (some ⟨I,0,none⟩) 2 2,i6 1,i6 20]),(5,.agg #[.slice (some ⟨J,0,none⟩) 1 1,i6 1,i6 1])]) hf hc rfl rfl sl_77 rfl ⟨rfl,rfl,rfl,rfl,rfl,rfl,rfl,rfl,rfl,rfl,rfl,rfl,rfl,rfl,rfl,rfl,rfl,rfl,trivial⟩ rfl rfl fun R a w hf hc=>sp 1 hf rfl fun a hf=>aP ?_
 replace hc:=((((((hc.pick k3).pick k4).pick k5).pick k6).pick k5).pick k6).pick k6
 obtain ⟨O,hc⟩:=aJd (K:=jV) ([((none,0),(⟨([]:List Int),1,5⟩:aM)),((none,0),(⟨([]:List Int),1,6⟩:aM)),(((some ⟨M,0,none⟩),2),(⟨([0,1]:List Int),1,10⟩:aM)),(((some ⟨D,0,none⟩),1),(⟨([1]:List Int),1,30⟩:aM)),(((some ⟨I,0,none⟩),2),(⟨([2,3]:List Int),1,20⟩:aM)),(((some ⟨J,0,none⟩),1),(⟨([4]:List Int),1,1⟩:aM))]:List (H2 × aM)) hc
 replace hc:Ctx G (.row (some ⟨R,0,none⟩) 6 ((aU O ([(⟨([]:List Int),1,5⟩:aM),(⟨([]:List Int),1,6⟩:aM),(⟨([0,1]:List Int),1,10⟩:aM),(⟨([1]:List Int),1,30⟩:aM),(⟨([2,3]:List Int),1,20⟩:aM),(⟨([4]:List Int),1,1⟩:aM)]:List aM)).map (Kd.v jV)) 116 3::cK jV (aU O ([(⟨([]:List Int),1,5⟩:aM),(⟨([]:List Int),1,6⟩:aM),(⟨([0,1]:List Int),1,10⟩:aM),(⟨([1]:List Int),1,30⟩:aM),(⟨([2,3]:List Int),1,20⟩:aM),(⟨([4]:List Int),1,1⟩:aM)]:List aM))::Lf) w:=hc
 refine h2 _ _ ?_
 refine wp_ret ?_
 obtain rfl:=sj hF
 exact zO1 Tryz.results26 hf rfl ⟨(some ⟨R,0,none⟩),(6,O),rfl,hc⟩

def dS (n:Int) (D:Int) (B:Int):Bool :=
 ((decide (D≤n)) && (decide (n≤B)))
theorem sL {G:aT} {Lf:List Ent} {w:World} (n:Int) (B:Int) (D:Int)   (hc:Ctx G (Lf) w) {H:Bool} (hF:dS n B D=H):Calls Tryz.prog 121 #[i6 n,i6 B,i6 D] w (fun e w=>e=.returned (.bool H)∧Ctx G (Lf) w):=by
 unfold dS at hF
 refine bL Tryz.func121 rfl Tryz.ntmps121 rfl fun a hf=>zS fun K h=>sp 1 hf rfl fun a hf=>zT h ?_
 refine zS fun K h=>sp 4 hf rfl fun a hf=>jX 4 (fun a=>Has 15 a [(0,i6 n),(1,i6 B),(2,i6 D),(6,.bool false),(7,i6 n),(8,i6 B),(9,.bool (decide (B≤n))),(10,.bool (decide (B≤n))),(14,.bool ((decide (B≤n)) && (decide (n≤D))))]) hc ?_ ?_
 ·cases hb:(decide (B≤n))
  ·rw [hb] at hf
   refine stS hf rfl rfl rfl fun a hf=>stS hf rfl rfl rfl fun a hf=>stS hf rfl rfl rfl fun a hf=>sp 1 hf rfl fun a hf=>aP ⟨hf.kp rfl,hc⟩
  ·rw [hb] at hf
   refine sp 4 hf rfl fun a hf=>aP ⟨hf.kp rfl,hc⟩
 intro a w ⟨hf,hc⟩
 refine sp 1 hf rfl fun a hf=>zT h ?_
 refine wp_ret ?_
 obtain rfl:=hF
 exact zO1 Tryz.results121 hf rfl ⟨rfl,hc⟩

def sJ (x:aM):Bool :=
 (decide (((x.Of.length:Nat):Int)≤5))
theorem aCx {G:aT} {Lf:List Ent} {w:World} (x:aM) {D:Option Addr} {B:Nat} (I:Rd G 1 D B (x.Of.map aB)) (hc:Ctx G (Lf) w) {H:Bool} (hF:sJ x=H):Calls Tryz.prog 138 #[.agg #[.slice D x.Of.length B,i6 x.Base,i6 x.Minutes]] w (fun e w=>e=.returned (.bool H)∧Ctx G (Lf) w):=by
 unfold sJ at hF
 refine bL Tryz.func138 rfl Tryz.ntmps138 rfl fun a hf=>zS fun K h=>zB hf hc rfl fun J a w hf hc=>sp 1 hf rfl fun a hf=>zT h ?_
 refine zS fun K h=>zP hf rfl (pFA uM rfl) fun a hf=>zL hf hc hY m0 rfl fun a w hf hc=>zP hf rfl (bG Tryz.underlying23 rfl) fun a hf=>sp 2 hf rfl fun a hf=>zT h ?_
 refine wp_ret ?_
 obtain rfl:=hF
 replace hc:=hc.drop k0
 exact zO1 Tryz.results138 hf rfl ⟨rfl,hc⟩

def kD (x:aM):Bool :=
 (!(sJ x))
theorem tQ {G:aT} {Lf:List Ent} {w:World} (x:aM) {D:Option Addr} {B:Nat} {b_:Nat} (H:Rd G 1 D B (x.Of.map aB)) (hc:Ctx G (.box b_ [.func (.func 138) #[] #[]] 195::Lf) w) {I:Bool} (hF:kD x=I):Calls Tryz.prog 147 #[.agg #[.slice D x.Of.length B,i6 x.Base,i6 x.Minutes],pq b_] w (fun e w=>e=.returned (.bool I)∧Ctx G (.box b_ [.func (.func 138) #[] #[]] 195::Lf) w):=by
 unfold kD at hF
 refine bL Tryz.func147 rfl Tryz.ntmps147 rfl fun a hf=>zS fun K h=>zB hf hc rfl fun J a w hf hc=>sp 1 hf rfl fun a hf=>zT h ?_
 refine zS fun K h=>zL hf hc aRr m1 rfl fun a w hf hc=>zN hf hc aIz m0 rfl fun a w hf hc=>zQ (v:=.bool (sJ x)) hf hc aRl rfl (fun w hc=>aCx x H hc rfl) fun a w hf hc=>sp 2 hf rfl fun a hf=>zT h ?_
 refine wp_ret ?_
 obtain rfl:=hF
 replace hc:=hc.drop k0
 exact zO1 Tryz.results147 hf rfl ⟨rfl,hc⟩

def jI (N:Nat) (s_:List aM) (x:Int):Option (bY (Int) (Int)) :=
 cond (decide (x < ((s_.length:Nat):Int)))
 (Option.bind (bE s_ x) fun B=>
 cond (kD B)
 (some (.ret x))
 (some (.cont (W (x + 1)))))
 (some (.brk x))
def gB (N:Nat) (s_:List aM):Option (Int) :=
 Option.bind (aX (fun s4=>jI N s_ s4) N 0) fun x4=>
 exK x4 (fun s4=>some (-1)) some
theorem nV {N:Nat} {G:aT} {Lf:List Ent} {w:World} (s_:List aM) {I:Option Addr} {H:Nat} {b_:Nat} (O:RdT jV G 3 I H s_) (hc:Ctx G (.box b_ [.func (.func 138) #[] #[]] 195::Lf) w) {J:Int} (hF:gB N s_=some J):Calls Tryz.prog 148 #[.slice I s_.length H,.func (.func 147) #[] #[pq b_]] w (fun e w=>e=.returned (i6 J)∧Ctx G (.box b_ [.func (.func 138) #[] #[]] 195::Lf) w):=by
 unfold gB at hF
 refine bL Tryz.func148 rfl Tryz.ntmps148 rfl fun a hf=>zS fun K h=>sp 1 hf rfl fun a hf=>zT h ?_
 refine wp_seq_k fun K2 h2=>zS fun K h=>sp 1 hf rfl fun a hf=>zP hf rfl (bG Tryz.underlying77 rfl) fun a hf=>sp 1 hf rfl fun a hf=>zT h ?_
 refine wp_block ?_
 obtain ⟨x4,V,hF⟩:=aA hF
 let S4:Int→Act→World→Prop:=(fun (zz:Int) a w=>Has 19 a [(0,.slice I s_.length H),(1,.func (.func 147) #[] #[pq b_]),(7,i6 ((s_.length:Nat):Int)),(8,i6 zz)]∧Ctx G (.box b_ [.func (.func 138) #[] #[]] 195::Lf) w)
 have R:∀ (zz:Int) a w,x4=.go zz→S4 zz a w→K2 a w:=by
  rintro x a w rfl ⟨hf,hc⟩
  replace hF:=bK hF
  refine h2 _ _ ?_
  refine zS fun K h=>sp 1 hf rfl fun a hf=>zT h ?_
  refine wp_ret ?_
  obtain rfl:=sj hF
  exact zO1 Tryz.results148 hf rfl ⟨rfl,hc⟩
 have X:∀ r,x4=.out r→r=J:=by
  rintro r rfl
  exact sj hF
 refine cZ N (cW (S:=S4) (x:=x4) ?_ N 0 _ _ ⟨hf.kp rfl,hc⟩ V)
 clear hF hf hc
 rintro x Z a w KB4 ⟨hf,hc⟩ hF B U
 unfold jI at hF
 refine zS fun K h=>sp 1 hf rfl fun a hf=>zT h ?_
 refine wp_seq_k fun K7 h7=>zI hf rfl hF ?_ ?_ <;> clear hF <;> intro hF
 ·refine wp_skip ?_
  refine h7 _ _ ?_
  refine wp_seq_k fun K8 h8=>wp_block ?_
  refine zS fun K h=>sp 2 hf rfl fun a hf=>zT h ?_
  refine zS fun K h=>sp 3 hf rfl fun a hf=>?_
  obtain ⟨D,M,hF⟩:=aA hF
  obtain ⟨Y,o,hd,qa,qp,qr⟩:=O.atm M
  refine zP hf rfl (pIA Tryz.underlying77 aCe rfl rfl qa) fun a hf=>zE hf hc rfl (lK (vs:=[.slice hd.1 D.Of.length hd.2,i6 D.Base,i6 D.Minutes]) aIz rfl rfl (kH qp (n:=3) (o':=0) rfl)) fun a w hf hc=>zQ (v:=.bool (kD D)) hf hc aRp rfl (fun w hc=>(tQ D qr (hc.pick k0) rfl).mono fun e w h=>⟨h.1,(h.2.unpick k0)⟩) fun a w hf hc=>zT h ?_
  refine zI hf rfl hF ?_ ?_ <;> clear hF <;> intro hF
  ·refine zS fun K h=>sp 2 hf rfl fun a hf=>zT h ?_
   refine wp_ret ?_
   refine bS ?_
   refine aL ?_
   refine aL ?_
   have he:=sj hF
   rw [← he] at B
   replace hF:=X _ B
   refine bS ?_
   refine aL ?_
   obtain rfl:=hF
   exact zO1 Tryz.results148 hf rfl ⟨rfl,hc⟩
  ·refine wp_skip ?_
   refine h8 _ _ ?_
   refine bV ?_
   refine sp 2 hf rfl fun a hf=>aP ?_
   exact U (W (x + 1)) _ _ (sj hF).symm ⟨hf.kp rfl,hc⟩
 ·refine wp_exit ?_
  refine aY ?_
  refine aY ?_
  have he:=sj hF
  rw [← he] at B
  refine fJ ?_
  exact R _ _ _ B ⟨hf.kp rfl,hc⟩

def fM (N:Nat) (s_:List aM):Option (Bool) :=
 Option.bind (gB N s_) fun r=>
 some (decide (0≤r))
theorem nE {N:Nat} {G:aT} {Lf:List Ent} {w:World} (s_:List aM) {B:Option Addr} {D:Nat} {b_:Nat} (I:RdT jV G 3 B D s_) (hc:Ctx G (.box b_ [.func (.func 138) #[] #[]] 195::Lf) w) {H:Bool} (hF:fM N s_=some H):Calls Tryz.prog 146 #[.slice B s_.length D,.func (.func 147) #[] #[pq b_]] w (fun e w=>e=.returned (.bool H)∧Ctx G (.box b_ [.func (.func 138) #[] #[]] 195::Lf) w):=by
 unfold fM at hF
 refine bL Tryz.func146 rfl Tryz.ntmps146 rfl fun a hf=>zS fun K h=>sp 1 hf rfl fun a hf=>zT h ?_
 refine zS fun K h=>sp 2 hf rfl fun a hf=>?_
 obtain ⟨r,hr,hF⟩:=aA hF
 refine zQ (v:=i6 r) hf hc aRm rfl (fun w hc=>(nV s_ I (hc.pick k0) hr).mono fun e w h=>⟨h.1,(h.2.unpick k0)⟩) fun a w hf hc=>sp 2 hf rfl fun a hf=>zT h ?_
 refine wp_ret ?_
 obtain rfl:=sj hF
 exact zO1 Tryz.results146 hf rfl ⟨rfl,hc⟩

def nX (N:Nat) (l:List aM):Option (Bool) :=
 Option.bind (fM N l) fun r=>
 some (!r)
theorem uX {N:Nat} {G:aT} {Lf:List Ent} {w:World} (l:List aM) {H:Option Addr} {B:Nat} (I:RdT jV G 3 H B l) (hc:Ctx G (Lf) w) {D:Bool} (hF:nX N l=some D):Calls Tryz.prog 137 #[.func (.func 138) #[] #[],.slice H l.length B] w (fun e w=>e=.returned (.bool D)∧Ctx G (Lf) w):=by
 unfold nX at hF
 refine bL Tryz.func137 rfl Tryz.ntmps137 rfl fun a hf=>zS fun K h=>zB hf hc rfl fun J a w hf hc=>sp 1 hf rfl fun a hf=>zT h ?_
 refine zS fun K h=>sp 1 hf rfl fun a hf=>zP hf rfl (pMF (us:=[pq J]) rfl rfl) fun a hf=>?_
 obtain ⟨r,hr,hF⟩:=aA hF
 refine zQ (v:=.bool r) hf hc aQi rfl (fun w hc=>(nE l I (hc.pick k0) hr).mono fun e w h=>⟨h.1,(h.2.unpick k0)⟩) fun a w hf hc=>sp 2 hf rfl fun a hf=>zT h ?_
 refine wp_ret ?_
 obtain rfl:=sj hF
 replace hc:=hc.drop k0
 exact zO1 Tryz.results137 hf rfl ⟨rfl,hc⟩

def sH (k:Int) (x:List aM) (B:Int):Bool :=
 ((dS k 0 (W (((x.length:Nat):Int) - 1))) && (k != B))
theorem aC0 {G:aT} {Lf:List Ent} {w:World} (k:Int) (x:List aM) (I:Int) {b_:Nat} {H:Option Addr} {D:Nat} {B:Nat} (M:RdT jV G 3 H D x) (hc:Ctx G (.box b_ [.slice H x.length D] 77::.box B [i6 I] 3::Lf) w) {J:Bool} (hF:sH k x I=J):Calls Tryz.prog 139 #[i6 k,pq b_,pq B] w (fun e w=>e=.returned (.bool J)∧Ctx G (.box b_ [.slice H x.length D] 77::.box B [i6 I] 3::Lf) w):=by
 unfold sH at hF
 refine bL Tryz.func139 rfl Tryz.ntmps139 rfl fun a hf=>zS fun K h=>sp 1 hf rfl fun a hf=>zT h ?_
 refine zS fun K h=>sp 1 hf rfl fun a hf=>zL hf hc aEe m0 rfl fun a w hf hc=>zP hf rfl (bG Tryz.underlying77 rfl) fun a hf=>sp 1 hf rfl fun a hf=>zQ (v:=.bool (dS k 0 (W (((x.length:Nat):Int) - 1)))) hf hc aEa rfl (fun w hc=>sL k 0 (W (((x.length:Nat):Int) - 1)) hc rfl) fun a w hf hc=>sp 1 hf rfl fun a hf=>jX 4 (fun a=>Has 15 a [(0,i6 k),(1,pq b_),(2,pq B),(4,.bool false),(5,i6 k),(6,.slice H x.length D),(7,i6 ((x.length:Nat):Int)),(8,i6 (W (((x.length:Nat):Int) - 1))),(9,.bool (dS k 0 (W (((x.length:Nat):Int) - 1)))),(10,.bool (dS k 0 (W (((x.length:Nat):Int) - 1)))),(14,.bool ((dS k 0 (W (((x.length:Nat):Int) - 1))) && (k != I)))]) hc ?_ ?_
 ·cases hb:(dS k 0 (W (((x.length:Nat):Int) - 1)))
  ·rw [hb] at hf
   refine stS hf rfl rfl rfl fun a hf=>stS hf rfl rfl rfl fun a hf=>stS hf rfl rfl rfl fun a hf=>sp 1 hf rfl fun a hf=>aP ⟨hf.kp rfl,hc⟩
  ·rw [hb] at hf
   refine sp 1 hf rfl fun a hf=>zL hf hc cR m1 rfl fun a w hf hc=>sp 2 hf rfl fun a hf=>aP ⟨hf.kp rfl,hc⟩
 intro a w ⟨hf,hc⟩
 refine sp 1 hf rfl fun a hf=>zT h ?_
 refine wp_ret ?_
 obtain rfl:=hF
 exact zO1 Tryz.results139 hf rfl ⟨rfl,hc⟩

def oO (x:Int) (D:List aM) (B:Int):Bool :=
 (!(sH x D B))
theorem xY {G:aT} {Lf:List Ent} {w:World} (x:Int) (B:List aM) (M:Int) {b_:Nat} {H:Nat} {J:Option Addr} {D:Nat} {I:Nat} (O:RdT jV G 3 J D B) (hc:Ctx G (.box b_ [.func (.func 139) #[] #[pq H,pq I]] 56::.box H [.slice J B.length D] 77::.box I [i6 M] 3::Lf) w) {R:Bool} (hF:oO x B M=R):Calls Tryz.prog 141 #[i6 x,pq b_] w (fun e w=>e=.returned (.bool R)∧Ctx G (.box b_ [.func (.func 139) #[] #[pq H,pq I]] 56::.box H [.slice J B.length D] 77::.box I [i6 M] 3::Lf) w):=by
 unfold oO at hF
 refine bL Tryz.func141 rfl Tryz.ntmps141 rfl fun a hf=>zS fun K h=>sp 1 hf rfl fun a hf=>zT h ?_
 refine zS fun K h=>zL hf hc aEm m0 rfl fun a w hf hc=>sp 1 hf rfl fun a hf=>zQ (v:=.bool (sH x B M)) hf hc aRc rfl (fun w hc=>(aC0 x B M O ((hc.pick k2).pick k2) rfl).mono fun e w h=>⟨h.1,((h.2.unpick k2).unpick k2)⟩) fun a w hf hc=>sp 2 hf rfl fun a hf=>zT h ?_
 refine wp_ret ?_
 obtain rfl:=hF
 exact zO1 Tryz.results141 hf rfl ⟨rfl,hc⟩

def nC (N:Nat) (s_:List Int) (f_:List aM) (B:Int) (x:Int):Option (bY (Int) (Int)) :=
 cond (decide (x < ((s_.length:Nat):Int)))
 (Option.bind (bE s_ x) fun D=>
 cond (oO D f_ B)
 (some (.ret x))
 (some (.cont (W (x + 1)))))
 (some (.brk x))
def kT (N:Nat) (s_:List Int) (f_:List aM) (B:Int):Option (Int) :=
 Option.bind (aX (fun s4=>nC N s_ f_ B s4) N 0) fun x4=>
 exK x4 (fun s4=>some (-1)) some
theorem rU {N:Nat} {G:aT} {Lf:List Ent} {w:World} (s_:List Int) (f_:List aM) (B:Int) {R:Option Addr} {O:Nat} {b_:Nat} {D:Nat} {M:Option Addr} {J:Nat} {H:Nat} (Z:Rd G 1 R O (s_.map aB)) (X:RdT jV G 3 M J f_) (hc:Ctx G (.box b_ [.func (.func 139) #[] #[pq D,pq H]] 56::.box D [.slice M f_.length J] 77::.box H [i6 B] 3::Lf) w) {U:Int} (hF:kT N s_ f_ B=some U):Calls Tryz.prog 39 #[.slice R s_.length O,.func (.func 141) #[] #[pq b_]] w (fun e w=>e=.returned (i6 U)∧Ctx G (.box b_ [.func (.func 139) #[] #[pq D,pq H]] 56::.box D [.slice M f_.length J] 77::.box H [i6 B] 3::Lf) w):=by
 unfold kT at hF
 refine bL Tryz.func39 rfl Tryz.ntmps39 rfl fun a hf=>zS fun K h=>sp 1 hf rfl fun a hf=>zT h ?_
 refine wp_seq_k fun K2 h2=>zS fun K h=>sp 1 hf rfl fun a hf=>zP hf rfl (bG Tryz.underlying23 rfl) fun a hf=>sp 1 hf rfl fun a hf=>zT h ?_
 refine wp_block ?_
 obtain ⟨x4,g,hF⟩:=aA hF
 let S4:Int→Act→World→Prop:=(fun (zz:Int) a w=>Has 19 a [(0,.slice R s_.length O),(1,.func (.func 141) #[] #[pq b_]),(7,i6 ((s_.length:Nat):Int)),(8,i6 zz)]∧Ctx G (.box b_ [.func (.func 139) #[] #[pq D,pq H]] 56::.box D [.slice M f_.length J] 77::.box H [i6 B] 3::Lf) w)
 have b:∀ (zz:Int) a w,x4=.go zz→S4 zz a w→K2 a w:=by
  rintro x a w rfl ⟨hf,hc⟩
  replace hF:=bK hF
  refine h2 _ _ ?_
  refine zS fun K h=>sp 1 hf rfl fun a hf=>zT h ?_
  refine wp_ret ?_
  obtain rfl:=sj hF
  exact zO1 Tryz.results39 hf rfl ⟨rfl,hc⟩
 have i:∀ r,x4=.out r→r=U:=by
  rintro r rfl
  exact sj hF
 refine cZ N (cW (S:=S4) (x:=x4) ?_ N 0 _ _ ⟨hf.kp rfl,hc⟩ g)
 clear hF hf hc
 rintro x m a w KB4 ⟨hf,hc⟩ hF I d
 unfold nC at hF
 refine zS fun K h=>sp 1 hf rfl fun a hf=>zT h ?_
 refine wp_seq_k fun K7 h7=>zI hf rfl hF ?_ ?_ <;> clear hF <;> intro hF
 ·refine wp_skip ?_
  refine h7 _ _ ?_
  refine wp_seq_k fun K8 h8=>wp_block ?_
  refine zS fun K h=>sp 2 hf rfl fun a hf=>zT h ?_
  refine zS fun K h=>sp 3 hf rfl fun a hf=>?_
  obtain ⟨V,Y,hF⟩:=aA hF
  obtain ⟨k,o,qa,qp⟩:=Z.atm Y
  refine zP hf rfl (pIA Tryz.underlying23 fO rfl rfl qa) fun a hf=>zE hf hc rfl (eP cR rfl (dI (j:=0) qp rfl)) fun a w hf hc=>zQ (v:=.bool (oO V f_ B)) hf hc aJa rfl (fun w hc=>(xY V f_ B X (((hc.pick k2).pick k2).pick k2) rfl).mono fun e w h=>⟨h.1,(((h.2.unpick k2).unpick k2).unpick k2)⟩) fun a w hf hc=>zT h ?_
  refine zI hf rfl hF ?_ ?_ <;> clear hF <;> intro hF
  ·refine zS fun K h=>sp 2 hf rfl fun a hf=>zT h ?_
   refine wp_ret ?_
   refine bS ?_
   refine aL ?_
   refine aL ?_
   have he:=sj hF
   rw [← he] at I
   replace hF:=i _ I
   refine bS ?_
   refine aL ?_
   obtain rfl:=hF
   exact zO1 Tryz.results39 hf rfl ⟨rfl,hc⟩
  ·refine wp_skip ?_
   refine h8 _ _ ?_
   refine bV ?_
   refine sp 2 hf rfl fun a hf=>aP ?_
   exact d (W (x + 1)) _ _ (sj hF).symm ⟨hf.kp rfl,hc⟩
 ·refine wp_exit ?_
  refine aY ?_
  refine aY ?_
  have he:=sj hF
  rw [← he] at I
  refine fJ ?_
  exact b _ _ _ I ⟨hf.kp rfl,hc⟩

def jR (N:Nat) (s_:List Int) (f_:List aM) (B:Int):Option (Bool) :=
 Option.bind (kT N s_ f_ B) fun r=>
 some (decide (0≤r))
theorem qH {N:Nat} {G:aT} {Lf:List Ent} {w:World} (s_:List Int) (f_:List aM) (B:Int) {O:Option Addr} {M:Nat} {b_:Nat} {D:Nat} {J:Option Addr} {I:Nat} {H:Nat} (U:Rd G 1 O M (s_.map aB)) (S:RdT jV G 3 J I f_) (hc:Ctx G (.box b_ [.func (.func 139) #[] #[pq D,pq H]] 56::.box D [.slice J f_.length I] 77::.box H [i6 B] 3::Lf) w) {R:Bool} (hF:jR N s_ f_ B=some R):Calls Tryz.prog 36 #[.slice O s_.length M,.func (.func 141) #[] #[pq b_]] w (fun e w=>e=.returned (.bool R)∧Ctx G (.box b_ [.func (.func 139) #[] #[pq D,pq H]] 56::.box D [.slice J f_.length I] 77::.box H [i6 B] 3::Lf) w):=by
 unfold jR at hF
 refine bL Tryz.func36 rfl Tryz.ntmps36 rfl fun a hf=>zS fun K h=>sp 1 hf rfl fun a hf=>zT h ?_
 refine zS fun K h=>sp 2 hf rfl fun a hf=>?_
 obtain ⟨r,hr,hF⟩:=aA hF
 refine zQ (v:=i6 r) hf hc aAn rfl (fun w hc=>(rU s_ f_ B U S (((hc.pick k2).pick k2).pick k2) hr).mono fun e w h=>⟨h.1,(((h.2.unpick k2).unpick k2).unpick k2)⟩) fun a w hf hc=>sp 2 hf rfl fun a hf=>zT h ?_
 refine wp_ret ?_
 obtain rfl:=sj hF
 exact zO1 Tryz.results36 hf rfl ⟨rfl,hc⟩

def sZ (N:Nat) (so:List aM) (B:Int) (l:List Int):Option (Bool) :=
 Option.bind (jR N l so B) fun r=>
 some (!r)
theorem aA1 {N:Nat} {G:aT} {Lf:List Ent} {w:World} (so:List aM) (B:Int) (l:List Int) {b_:Nat} {H:Option Addr} {I:Nat} {D:Nat} {O:Option Addr} {J:Nat} (R:RdT jV G 3 H I so) (S:Rd G 1 O J (l.map aB)) (hc:Ctx G (.box b_ [.slice H so.length I] 77::.box D [i6 B] 3::Lf) w) {M:Bool} (hF:sZ N so B l=some M):Calls Tryz.prog 119 #[.func (.func 139) #[] #[pq b_,pq D],.slice O l.length J] w (fun e w=>e=.returned (.bool M)∧Ctx G (.box b_ [.slice H so.length I] 77::.box D [i6 B] 3::Lf) w):=by
 unfold sZ at hF
 refine bL Tryz.func119 rfl Tryz.ntmps119 rfl fun a hf=>zS fun K h=>zB hf hc rfl fun U a w hf hc=>sp 1 hf rfl fun a hf=>zT h ?_
 refine zS fun K h=>sp 1 hf rfl fun a hf=>zP hf rfl (pMF (us:=[pq U]) rfl rfl) fun a hf=>?_
 obtain ⟨r,hr,hF⟩:=aA hF
 refine zQ (v:=.bool r) hf hc aAp rfl (fun w hc=>(qH l so B S R (((hc.pick k2).pick k2).pick k2) hr).mono fun e w h=>⟨h.1,(((h.2.unpick k2).unpick k2).unpick k2)⟩) fun a w hf hc=>sp 2 hf rfl fun a hf=>zT h ?_
 refine wp_ret ?_
 obtain rfl:=sj hF
 replace hc:=hc.drop k0
 exact zO1 Tryz.results119 hf rfl ⟨rfl,hc⟩

def xB (N:Nat) (H:aM) (B:Bool) (D:Int):Option (bY (Bool × Int) (bY (Bool × Int) (Int))) :=
 cond (decide (D < ((H.Of.length:Nat):Int)))
 (Option.bind (bE H.Of D) fun J=>
 Option.bind (cond B (some true) (Option.bind (rH H.Of 0 D) fun sub=>
 Option.bind (bB N sub J) fun M=>
 some M)) fun I=>
 some (.cont (I,W (D + 1))))
 (some (.brk (B,D)))
def yH (N:Nat) (w_:List aM) (H:Bool) (x:Int):Option (bY (Bool × Int) (Int)) :=
 cond (decide (x < ((w_.length:Nat):Int)))
 (Option.bind (bE w_ x) fun B=>
 Option.bind (cond ((!(dS B.Base 0 1000002)) || (!(dS B.Minutes 0 10000))) (some true) (Option.bind (sZ N w_ x B.Of) fun I=>
 some (!I))) fun J=>
 cond J
 (some (.ret 140))
 (Option.bind (aX (fun D=>xB N B D.1 D.2) N (H,0)) fun M=>
 exK M (fun D=>some (.cont (D.1,W (x + 1)))) some))
 (some (.brk (H,x)))
def yK (N:Nat) (w_:List aM):Option (Int) :=
 Option.bind (cond (!(dS ((w_.length:Nat):Int) 1 30)) (some true) (Option.bind (nX N w_) fun r=>
 some (!r))) fun B=>
 cond B
 (some 3)
 (Option.bind (aX (fun s8=>yH N w_ s8.1 s8.2) N (false,0)) fun x8=>
 exK x8 (fun s8=>cond s8.1
 (some 10)
 (some 0)) some)
theorem aE0 {N:Nat} {G:aT} {Lf:List Ent} {w:World} (w_:List aM) {H:Option Addr} {I:Nat} (V:RdT jV G 3 H I w_) (hc:Ctx G (Lf) w) {g:Int} (hF:yK N w_=some g):Calls Tryz.prog 117 #[.slice H w_.length I] w (fun e w=>e=.returned (i6 g)∧Ctx G (Lf) w):=by
 unfold yK at hF
 refine bL Tryz.func117 rfl Tryz.ntmps117 rfl fun a hf=>zS fun K h=>zB hf hc rfl fun J a w hf hc=>sp 1 hf rfl fun a hf=>zT h ?_
 refine wp_seq_k fun K2 h2=>zS fun K h=>zL hf hc aEe m0 rfl fun a w hf hc=>zP hf rfl (bG Tryz.underlying77 rfl) fun a hf=>zQ (v:=.bool (dS ((w_.length:Nat):Int) 1 30)) hf hc aEa rfl (fun w hc=>sL ((w_.length:Nat):Int) 1 30 hc rfl) fun a w hf hc=>sp 2 hf rfl fun a hf=>?_
 obtain ⟨ai,d,hF⟩:=aA hF
 refine jX 4 (fun a=>Has 61 a [(1,pq J),(8,.slice H w_.length I),(9,i6 ((w_.length:Nat):Int)),(10,.bool (dS ((w_.length:Nat):Int) 1 30)),(11,.bool (!(dS ((w_.length:Nat):Int) 1 30))),(12,.bool (!(dS ((w_.length:Nat):Int) 1 30))),(16,.bool ai)]) hc ?_ ?_
 ·cases hb:(!(dS ((w_.length:Nat):Int) 1 30))
  ·rw [hb] at hf
   have hF:=kI hb d
   refine zL hf hc aEe m0 rfl fun a w hf hc=>?_
   obtain ⟨r,hr,hF⟩:=aA hF
   refine zQ (v:=.bool r) hf hc aRs rfl (fun w hc=>uX w_ V hc hr) fun a w hf hc=>sp 2 hf rfl fun a hf=>?_
   obtain rfl:=sj hF
   exact aP ⟨hf.kp rfl,hc⟩
  ·rw [hb] at hf
   have hF:=fP hb d
   obtain rfl:=sj hF
   refine stS hf rfl rfl rfl fun a hf=>stS hf rfl rfl rfl fun a hf=>stS hf rfl rfl rfl fun a hf=>sp 1 hf rfl fun a hf=>aP ⟨hf.kp rfl,hc⟩
 intro a w ⟨hf,hc⟩
 refine zT h ?_
 refine zI hf rfl hF ?_ ?_ <;> clear hF <;> intro hF
 ·refine zS fun K h=>sp 1 hf rfl fun a hf=>zT h ?_
  refine wp_ret ?_
  refine aL ?_
  obtain rfl:=sj hF
  replace hc:=hc.drop k0
  exact zO1 Tryz.results117 hf rfl ⟨rfl,hc⟩
 ·refine wp_skip ?_
  refine h2 _ _ ?_
  refine zS fun K h=>sp 1 hf rfl fun a hf=>zT h ?_
  refine wp_seq_k fun K6 h6=>zS fun K h=>zL hf hc aEe m0 rfl fun a w hf hc=>zP hf rfl (bG Tryz.underlying77 rfl) fun a hf=>sp 1 hf rfl fun a hf=>zT h ?_
  refine wp_block ?_
  obtain ⟨x8,au,hF⟩:=aA hF
  let S8:(Bool × Int)→Act→World→Prop:=(fun (zz:Bool × Int) a w=>Has 61 a [(1,pq J),(3,.bool zz.1),(17,.slice H w_.length I),(18,i6 ((w_.length:Nat):Int)),(19,i6 zz.2)]∧Ctx G (.box J [.slice H w_.length I] 77::Lf) w)
  have ay:∀ (zz:Bool × Int) a w,x8=.go zz→S8 zz a w→K6 a w:=by
   rintro ⟨O,x⟩ a w rfl ⟨hf,hc⟩
   replace hF:=bK hF
   refine h6 _ _ ?_
   refine wp_seq_k fun K9 h9=>zS fun K h=>sp 1 hf rfl fun a hf=>zT h ?_
   refine zI hf rfl hF ?_ ?_ <;> clear hF <;> intro hF
   ·refine zS fun K h=>sp 1 hf rfl fun a hf=>zT h ?_
    refine wp_ret ?_
    refine aL ?_
    obtain rfl:=sj hF
    replace hc:=hc.drop k0
    exact zO1 Tryz.results117 hf rfl ⟨rfl,hc⟩
   ·refine wp_skip ?_
    refine h9 _ _ ?_
    refine zS fun K h=>sp 1 hf rfl fun a hf=>zT h ?_
    refine wp_ret ?_
    obtain rfl:=sj hF
    replace hc:=hc.drop k0
    exact zO1 Tryz.results117 hf rfl ⟨rfl,hc⟩
  have ax:∀ r,x8=.out r→r=g:=by
   rintro r rfl
   exact sj hF
  refine cZ N (cW (S:=S8) (x:=x8) ?_ N (false,0) _ _ ⟨hf.kp rfl,hc⟩ au)
  clear hF hf hc
  rintro ⟨O,x⟩ an a w KB8 ⟨hf,hc⟩ hF M af
  unfold yH at hF
  refine zS fun K h=>sp 1 hf rfl fun a hf=>zT h ?_
  refine wp_seq_k fun K14 am=>zI hf rfl hF ?_ ?_ <;> clear hF <;> intro hF
  ·refine wp_skip ?_
   refine am _ _ ?_
   refine wp_seq_k fun K15 ak=>wp_block ?_
   refine zS fun K h=>sp 1 hf rfl fun a hf=>?_
   obtain ⟨B,y,hF⟩:=aA hF
   obtain ⟨a2,o,hd,qa,qp,qr⟩:=V.atm y
   refine zP hf rfl (pIA Tryz.underlying77 aCe rfl rfl qa) fun a hf=>zE hf hc rfl (lK (vs:=[.slice hd.1 B.Of.length hd.2,i6 B.Base,i6 B.Minutes]) aIz rfl rfl (kH qp (n:=3) (o':=0) rfl)) fun a w hf hc=>zA hf hc aJs rfl fun Y a w hf hc=>zA hf hc aQ3 rfl fun R a w hf hc=>zW hf hc fO u1 rfl fun w hc=>zW hf hc aCe u0 rfl fun w hc=>zT h ?_
   refine wp_seq_k fun K17 ad=>zS fun K h=>zP hf rfl (pFA aMa rfl) fun a hf=>zL hf hc cR m0 rfl fun a w hf hc=>zQ (v:=.bool (dS B.Base 0 1000002)) hf hc aEa rfl (fun w hc=>sL B.Base 0 1000002 hc rfl) fun a w hf hc=>sp 2 hf rfl fun a hf=>jX 5 (fun a=>Has 61 a [(1,pq J),(3,.bool O),(17,.slice H w_.length I),(18,i6 ((w_.length:Nat):Int)),(19,i6 x),(4,pq Y),(5,pq R),(24,.pointer (some ⟨R,1,none⟩)),(25,i6 B.Base),(26,.bool (dS B.Base 0 1000002)),(27,.bool (!(dS B.Base 0 1000002))),(28,.bool (!(dS B.Base 0 1000002))),(33,.bool ((!(dS B.Base 0 1000002)) || (!(dS B.Minutes 0 10000))))]) hc ?_ ?_
   ·cases hb:(!(dS B.Base 0 1000002))
    ·rw [hb] at hf
     refine zP hf rfl (pFA aNa rfl) fun a hf=>zL hf hc cR m0 rfl fun a w hf hc=>zQ (v:=.bool (dS B.Minutes 0 10000)) hf hc aEa rfl (fun w hc=>sL B.Minutes 0 10000 hc rfl) fun a w hf hc=>sp 2 hf rfl fun a hf=>aP ⟨hf.kp rfl,hc⟩
    ·rw [hb] at hf
     refine stS hf rfl rfl rfl fun a hf=>stS hf rfl rfl rfl fun a hf=>stS hf rfl rfl rfl fun a hf=>stS hf rfl rfl rfl fun a hf=>sp 1 hf rfl fun a hf=>aP ⟨hf.kp rfl,hc⟩
   intro a w ⟨hf,hc⟩
   refine sp 1 hf rfl fun a hf=>?_
   obtain ⟨ap,b,hF⟩:=aA hF
   refine jX 6 (fun a=>Has 61 a [(1,pq J),(3,.bool O),(17,.slice H w_.length I),(18,i6 ((w_.length:Nat):Int)),(19,i6 x),(4,pq Y),(5,pq R),(24,.pointer (some ⟨R,1,none⟩)),(25,i6 B.Base),(26,.bool (dS B.Base 0 1000002)),(27,.bool (!(dS B.Base 0 1000002))),(28,.bool (!(dS B.Base 0 1000002))),(33,.bool ((!(dS B.Base 0 1000002)) || (!(dS B.Minutes 0 10000)))),(34,.bool ((!(dS B.Base 0 1000002)) || (!(dS B.Minutes 0 10000)))),(40,.bool ap)]) hc ?_ ?_
   ·cases hb:((!(dS B.Base 0 1000002)) || (!(dS B.Minutes 0 10000)))
    ·rw [hb] at hf
     have hF:=kI hb b
     refine zP hf rfl (pMF (us:=[pq J,pq Y]) rfl rfl) fun a hf=>zP hf rfl (pFA uM rfl) fun a hf=>zL hf hc hY m0 rfl fun a w hf hc=>?_
     obtain ⟨av,aa,hF⟩:=aA hF
     refine zQ (v:=.bool av) hf hc aJg rfl (fun w hc=>(aA1 w_ x B.Of V qr ((hc.pick k1).pick k2) aa).mono fun e w h=>⟨h.1,((h.2.unpick k2).unpick k1)⟩) fun a w hf hc=>sp 2 hf rfl fun a hf=>?_
     obtain rfl:=sj hF
     exact aP ⟨hf.kp rfl,hc⟩
    ·rw [hb] at hf
     have hF:=fP hb b
     obtain rfl:=sj hF
     refine stS hf rfl rfl rfl fun a hf=>stS hf rfl rfl rfl fun a hf=>stS hf rfl rfl rfl fun a hf=>stS hf rfl rfl rfl fun a hf=>stS hf rfl rfl rfl fun a hf=>sp 1 hf rfl fun a hf=>aP ⟨hf.kp rfl,hc⟩
   intro a w ⟨hf,hc⟩
   refine zT h ?_
   refine zI hf rfl hF ?_ ?_ <;> clear hF <;> intro hF
   ·refine zS fun K h=>sp 1 hf rfl fun a hf=>zT h ?_
    refine wp_ret ?_
    refine aL ?_
    refine bS ?_
    refine aL ?_
    refine aL ?_
    have he:=sj hF
    rw [← he] at M
    replace hF:=ax _ M
    refine bS ?_
    refine aL ?_
    obtain rfl:=hF
    replace hc:=((hc.drop k2).drop k1).drop k0
    exact zO1 Tryz.results117 hf rfl ⟨rfl,hc⟩
   ·refine wp_skip ?_
    refine ad _ _ ?_
    refine zS fun K h=>zP hf rfl (pFA uM rfl) fun a hf=>zL hf hc hY m0 rfl fun a w hf hc=>zP hf rfl (bG Tryz.underlying23 rfl) fun a hf=>sp 1 hf rfl fun a hf=>zT h ?_
    refine iK fun K21 aq=>wp_block ?_
    obtain ⟨Z,t,hF⟩:=aA hF
    let S22:(Bool × Int)→Act→World→Prop:=(fun (zz:Bool × Int) a w=>Has 61 a [(1,pq J),(3,.bool zz.1),(5,pq R),(17,.slice H w_.length I),(18,i6 ((w_.length:Nat):Int)),(19,i6 x),(42,.slice hd.1 B.Of.length hd.2),(43,i6 ((B.Of.length:Nat):Int)),(44,i6 zz.2)]∧Ctx G (.box R [.slice hd.1 B.Of.length hd.2,i6 B.Base,i6 B.Minutes] 116::.box J [.slice H w_.length I] 77::Lf) w)
    have u:∀ (zz:Bool × Int) a w,Z=.go zz→S22 zz a w→K21 a w:=by
     rintro ⟨D,X⟩ a w rfl ⟨hf,hc⟩
     replace hF:=bK hF
     refine aq _ _ ?_
     refine ak _ _ ?_
     refine bV ?_
     refine sp 2 hf rfl fun a hf=>aP ?_
     replace hc:=hc.drop k0
     exact af (D,W (x + 1)) _ _ (sj hF).symm ⟨hf.kp rfl,hc⟩
    have az:∀ r,Z=.out r→r=an:=by
     rintro r rfl
     exact sj hF
    replace hc:=hc.drop k1
    refine cZ N (cW (S:=S22) (x:=Z) ?_ N (O,0) _ _ ⟨hf.kp rfl,hc⟩ t)
    clear hF hf hc
    rintro ⟨D,X⟩ a0 a w KB22 ⟨hf,hc⟩ hF U s
    unfold xB at hF
    refine zS fun K h=>sp 1 hf rfl fun a hf=>zT h ?_
    refine wp_seq_k fun K24 ag=>zI hf rfl hF ?_ ?_ <;> clear hF <;> intro hF
    ·refine wp_skip ?_
     refine ag _ _ ?_
     refine wp_seq_k fun K25 aj=>wp_block ?_
     refine zS fun K h=>sp 1 hf rfl fun a hf=>?_
     obtain ⟨m,z,hF⟩:=aA hF
     obtain ⟨a3,a1,q,ab⟩:=qr.atm z
     refine zP hf rfl (pIA Tryz.underlying23 fO rfl rfl q) fun a hf=>zE hf hc rfl (eP cR rfl (dI (j:=0) ab rfl)) fun a w hf hc=>sp 2 hf rfl fun a hf=>zT h ?_
     refine bV ?_
     refine sp 2 hf rfl fun a hf=>?_
     obtain ⟨p,i,hF⟩:=aA hF
     refine jX 7 (fun a=>Has 61 a [(1,pq J),(3,.bool D),(5,pq R),(17,.slice H w_.length I),(18,i6 ((w_.length:Nat):Int)),(19,i6 x),(42,.slice hd.1 B.Of.length hd.2),(43,i6 ((B.Of.length:Nat):Int)),(44,i6 X),(6,i6 X),(7,i6 m),(49,.bool D),(50,.bool D),(57,.bool p)]) hc ?_ ?_
     ·cases hb:D
      ·rw [hb] at hf
       try rw [hb] at hc
       have hF:=kI hb i
       refine zP hf rfl (pFA uM rfl) fun a hf=>zL hf hc hY m0 rfl fun a w hf hc=>sp 1 hf rfl fun a hf=>?_
       obtain ⟨sub,k,hF⟩:=aA hF
       have qs:=Rd.sub qr k
       refine zP hf rfl (pSl Tryz.underlying23 fO rfl rfl (by simpa using qr.1) rfl rfl k) fun a hf=>sp 1 hf rfl fun a hf=>?_
       obtain ⟨ar,ac,hF⟩:=aA hF
       refine zQ (v:=.bool ar) hf hc aB4 rfl (fun w hc=>cP sub m qs hc ac) fun a w hf hc=>sp 1 hf rfl fun a hf=>?_
       obtain rfl:=sj hF
       exact aP ⟨hf.kp rfl,hc⟩
      ·rw [hb] at hf
       try rw [hb] at hc
       have hF:=fP hb i
       obtain rfl:=sj hF
       refine stS hf rfl rfl rfl fun a hf=>stS hf rfl rfl rfl fun a hf=>stS hf rfl rfl rfl fun a hf=>stS hf rfl rfl rfl fun a hf=>stS hf rfl rfl rfl fun a hf=>stS hf rfl rfl rfl fun a hf=>sp 1 hf rfl fun a hf=>aP ⟨hf.kp rfl,hc⟩
     intro a w ⟨hf,hc⟩
     refine sp 1 hf rfl fun a hf=>aP ?_
     refine aj _ _ ?_
     refine bV ?_
     refine sp 2 hf rfl fun a hf=>aP ?_
     exact s (p,W (X + 1)) _ _ (sj hF).symm ⟨hf.kp rfl,hc⟩
    ·refine wp_exit ?_
     refine aY ?_
     refine aY ?_
     have he:=sj hF
     rw [← he] at U
     refine fJ ?_
     exact u _ _ _ U ⟨hf.kp rfl,hc⟩
  ·refine wp_exit ?_
   refine aY ?_
   refine aY ?_
   have he:=sj hF
   rw [← he] at M
   refine fJ ?_
   exact ay _ _ _ M ⟨hf.kp rfl,hc⟩

def oJ (N:Nat) (i_:Int) (x:List Int):Option (Bool) :=
 Option.bind (bB N x i_) fun r=>
 some r
theorem sO {N:Nat} {G:aT} {Lf:List Ent} {w:World} (i_:Int) (x:List Int) {b_:Nat} {D:Option Addr} {B:Nat} (I:Rd G 1 D B (x.map aB)) (hc:Ctx G (.box b_ [.slice D x.length B] 23::Lf) w) {H:Bool} (hF:oJ N i_ x=some H):Calls Tryz.prog 140 #[i6 i_,pq b_] w (fun e w=>e=.returned (.bool H)∧Ctx G (.box b_ [.slice D x.length B] 23::Lf) w):=by
 unfold oJ at hF
 refine bL Tryz.func140 rfl Tryz.ntmps140 rfl fun a hf=>zS fun K h=>sp 1 hf rfl fun a hf=>zT h ?_
 refine zS fun K h=>zL hf hc hY m0 rfl fun a w hf hc=>sp 1 hf rfl fun a hf=>?_
 obtain ⟨r,hr,hF⟩:=aA hF
 refine zQ (v:=.bool r) hf hc aB4 rfl (fun w hc=>cP x i_ I hc hr) fun a w hf hc=>sp 1 hf rfl fun a hf=>zT h ?_
 refine wp_ret ?_
 obtain rfl:=sj hF
 exact zO1 Tryz.results140 hf rfl ⟨rfl,hc⟩

def oT (N:Nat) (x:Int) (B:List Int):Option (Bool) :=
 Option.bind (oJ N x B) fun r=>
 some (!r)
theorem vR {N:Nat} {G:aT} {Lf:List Ent} {w:World} (x:Int) (I:List Int) {b_:Nat} {D:Nat} {H:Option Addr} {B:Nat} (J:Rd G 1 H B (I.map aB)) (hc:Ctx G (.box b_ [.func (.func 140) #[] #[pq D]] 56::.box D [.slice H I.length B] 23::Lf) w) {M:Bool} (hF:oT N x I=some M):Calls Tryz.prog 141 #[i6 x,pq b_] w (fun e w=>e=.returned (.bool M)∧Ctx G (.box b_ [.func (.func 140) #[] #[pq D]] 56::.box D [.slice H I.length B] 23::Lf) w):=by
 unfold oT at hF
 refine bL Tryz.func141 rfl Tryz.ntmps141 rfl fun a hf=>zS fun K h=>sp 1 hf rfl fun a hf=>zT h ?_
 refine zS fun K h=>zL hf hc aEm m0 rfl fun a w hf hc=>sp 1 hf rfl fun a hf=>?_
 obtain ⟨r,hr,hF⟩:=aA hF
 refine zQ (v:=.bool r) hf hc aMh rfl (fun w hc=>(sO x I J (hc.pick k1) hr).mono fun e w h=>⟨h.1,(h.2.unpick k1)⟩) fun a w hf hc=>sp 2 hf rfl fun a hf=>zT h ?_
 refine wp_ret ?_
 obtain rfl:=sj hF
 exact zO1 Tryz.results141 hf rfl ⟨rfl,hc⟩

def nA (N:Nat) (s_:List Int) (f_:List Int) (x:Int):Option (bY (Int) (Int)) :=
 cond (decide (x < ((s_.length:Nat):Int)))
 (Option.bind (bE s_ x) fun B=>
 Option.bind (oT N B f_) fun r=>
 cond r
 (some (.ret x))
 (some (.cont (W (x + 1)))))
 (some (.brk x))
def kS (N:Nat) (s_:List Int) (f_:List Int):Option (Int) :=
 Option.bind (aX (fun s4=>nA N s_ f_ s4) N 0) fun x4=>
 exK x4 (fun s4=>some (-1)) some
theorem rS {N:Nat} {G:aT} {Lf:List Ent} {w:World} (s_:List Int) (f_:List Int) {M:Option Addr} {J:Nat} {b_:Nat} {B:Nat} {I:Option Addr} {H:Nat} (V:Rd G 1 M J (s_.map aB)) (R:Rd G 1 I H (f_.map aB)) (hc:Ctx G (.box b_ [.func (.func 140) #[] #[pq B]] 56::.box B [.slice I f_.length H] 23::Lf) w) {O:Int} (hF:kS N s_ f_=some O):Calls Tryz.prog 39 #[.slice M s_.length J,.func (.func 141) #[] #[pq b_]] w (fun e w=>e=.returned (i6 O)∧Ctx G (.box b_ [.func (.func 140) #[] #[pq B]] 56::.box B [.slice I f_.length H] 23::Lf) w):=by
 unfold kS at hF
 refine bL Tryz.func39 rfl Tryz.ntmps39 rfl fun a hf=>zS fun K h=>sp 1 hf rfl fun a hf=>zT h ?_
 refine wp_seq_k fun K2 h2=>zS fun K h=>sp 1 hf rfl fun a hf=>zP hf rfl (bG Tryz.underlying23 rfl) fun a hf=>sp 1 hf rfl fun a hf=>zT h ?_
 refine wp_block ?_
 obtain ⟨x4,b,hF⟩:=aA hF
 let S4:Int→Act→World→Prop:=(fun (zz:Int) a w=>Has 19 a [(0,.slice M s_.length J),(1,.func (.func 141) #[] #[pq b_]),(7,i6 ((s_.length:Nat):Int)),(8,i6 zz)]∧Ctx G (.box b_ [.func (.func 140) #[] #[pq B]] 56::.box B [.slice I f_.length H] 23::Lf) w)
 have X:∀ (zz:Int) a w,x4=.go zz→S4 zz a w→K2 a w:=by
  rintro x a w rfl ⟨hf,hc⟩
  replace hF:=bK hF
  refine h2 _ _ ?_
  refine zS fun K h=>sp 1 hf rfl fun a hf=>zT h ?_
  refine wp_ret ?_
  obtain rfl:=sj hF
  exact zO1 Tryz.results39 hf rfl ⟨rfl,hc⟩
 have d:∀ r,x4=.out r→r=O:=by
  rintro r rfl
  exact sj hF
 refine cZ N (cW (S:=S4) (x:=x4) ?_ N 0 _ _ ⟨hf.kp rfl,hc⟩ b)
 clear hF hf hc
 rintro x i a w KB4 ⟨hf,hc⟩ hF D Y
 unfold nA at hF
 refine zS fun K h=>sp 1 hf rfl fun a hf=>zT h ?_
 refine wp_seq_k fun K7 h7=>zI hf rfl hF ?_ ?_ <;> clear hF <;> intro hF
 ·refine wp_skip ?_
  refine h7 _ _ ?_
  refine wp_seq_k fun K8 h8=>wp_block ?_
  refine zS fun K h=>sp 2 hf rfl fun a hf=>zT h ?_
  refine zS fun K h=>sp 3 hf rfl fun a hf=>?_
  obtain ⟨Z,U,hF⟩:=aA hF
  obtain ⟨g,o,qa,qp⟩:=V.atm U
  refine zP hf rfl (pIA Tryz.underlying23 fO rfl rfl qa) fun a hf=>zE hf hc rfl (eP cR rfl (dI (j:=0) qp rfl)) fun a w hf hc=>?_
  obtain ⟨r,hr,hF⟩:=aA hF
  refine zQ (v:=.bool r) hf hc aJa rfl (fun w hc=>(vR Z f_ R ((hc.pick k1).pick k1) hr).mono fun e w h=>⟨h.1,((h.2.unpick k1).unpick k1)⟩) fun a w hf hc=>zT h ?_
  refine zI hf rfl hF ?_ ?_ <;> clear hF <;> intro hF
  ·refine zS fun K h=>sp 2 hf rfl fun a hf=>zT h ?_
   refine wp_ret ?_
   refine bS ?_
   refine aL ?_
   refine aL ?_
   have he:=sj hF
   rw [← he] at D
   replace hF:=d _ D
   refine bS ?_
   refine aL ?_
   obtain rfl:=hF
   exact zO1 Tryz.results39 hf rfl ⟨rfl,hc⟩
  ·refine wp_skip ?_
   refine h8 _ _ ?_
   refine bV ?_
   refine sp 2 hf rfl fun a hf=>aP ?_
   exact Y (W (x + 1)) _ _ (sj hF).symm ⟨hf.kp rfl,hc⟩
 ·refine wp_exit ?_
  refine aY ?_
  refine aY ?_
  have he:=sj hF
  rw [← he] at D
  refine fJ ?_
  exact X _ _ _ D ⟨hf.kp rfl,hc⟩

def jT (N:Nat) (s_:List Int) (f_:List Int):Option (Bool) :=
 Option.bind (kS N s_ f_) fun r=>
 some (decide (0≤r))
theorem qI {N:Nat} {G:aT} {Lf:List Ent} {w:World} (s_:List Int) (f_:List Int) {I:Option Addr} {J:Nat} {b_:Nat} {B:Nat} {H:Option Addr} {D:Nat} (R:Rd G 1 I J (s_.map aB)) (O:Rd G 1 H D (f_.map aB)) (hc:Ctx G (.box b_ [.func (.func 140) #[] #[pq B]] 56::.box B [.slice H f_.length D] 23::Lf) w) {M:Bool} (hF:jT N s_ f_=some M):Calls Tryz.prog 36 #[.slice I s_.length J,.func (.func 141) #[] #[pq b_]] w (fun e w=>e=.returned (.bool M)∧Ctx G (.box b_ [.func (.func 140) #[] #[pq B]] 56::.box B [.slice H f_.length D] 23::Lf) w):=by
 unfold jT at hF
 refine bL Tryz.func36 rfl Tryz.ntmps36 rfl fun a hf=>zS fun K h=>sp 1 hf rfl fun a hf=>zT h ?_
 refine zS fun K h=>sp 2 hf rfl fun a hf=>?_
 obtain ⟨r,hr,hF⟩:=aA hF
 refine zQ (v:=i6 r) hf hc aAn rfl (fun w hc=>(rS s_ f_ R O ((hc.pick k1).pick k1) hr).mono fun e w h=>⟨h.1,((h.2.unpick k1).unpick k1)⟩) fun a w hf hc=>sp 2 hf rfl fun a hf=>zT h ?_
 refine wp_ret ?_
 obtain rfl:=sj hF
 exact zO1 Tryz.results36 hf rfl ⟨rfl,hc⟩

def qK (N:Nat) (so:List Int) (l:List Int):Option (Bool) :=
 Option.bind (jT N l so) fun r=>
 some (!r)
theorem xK {N:Nat} {G:aT} {Lf:List Ent} {w:World} (so:List Int) (l:List Int) {b_:Nat} {B:Option Addr} {D:Nat} {J:Option Addr} {H:Nat} (M:Rd G 1 B D (so.map aB)) (O:Rd G 1 J H (l.map aB)) (hc:Ctx G (.box b_ [.slice B so.length D] 23::Lf) w) {I:Bool} (hF:qK N so l=some I):Calls Tryz.prog 119 #[.func (.func 140) #[] #[pq b_],.slice J l.length H] w (fun e w=>e=.returned (.bool I)∧Ctx G (.box b_ [.slice B so.length D] 23::Lf) w):=by
 unfold qK at hF
 refine bL Tryz.func119 rfl Tryz.ntmps119 rfl fun a hf=>zS fun K h=>zB hf hc rfl fun R a w hf hc=>sp 1 hf rfl fun a hf=>zT h ?_
 refine zS fun K h=>sp 1 hf rfl fun a hf=>zP hf rfl (pMF (us:=[pq R]) rfl rfl) fun a hf=>?_
 obtain ⟨r,hr,hF⟩:=aA hF
 refine zQ (v:=.bool r) hf hc aAp rfl (fun w hc=>(qI l so O M ((hc.pick k1).pick k1) hr).mono fun e w h=>⟨h.1,((h.2.unpick k1).unpick k1)⟩) fun a w hf hc=>sp 2 hf rfl fun a hf=>zT h ?_
 refine wp_ret ?_
 obtain rfl:=sj hF
 replace hc:=hc.drop k0
 exact zO1 Tryz.results119 hf rfl ⟨rfl,hc⟩

def nH (N:Nat) (D:Int) (B:List Int):Option (bY (Int × (List Int)) ((List Int))) :=
 some (.cont (W (D + 1),B))
def uL (N:Nat) (w_:wE) (B:Int) (x:List Int):Option (bY (Int × (List Int)) ((List Int))) :=
 cond (decide (B < ((w_.list.works.length:Nat):Int)))
 (Option.bind (oJ N B x) fun r=>
 Option.bind (cond (!r) (Option.bind (bE w_.list.works B) fun H=>
 Option.bind (qK N x H.Of) fun D=>
 some D) (some false)) fun I=>
 cond I
 (Option.bind (room ((x++[B])).length) fun un=>
 nH N (-1) (x++[B]))
 (nH N B x))
 (some (.brk (B,x)))
def sX (N:Nat) (w_:wE):Option ((List Int)) :=
 Option.bind (aX (fun s6=>uL N w_ s6.1 s6.2) N (0,([]:List Int))) fun x6=>
 exK x6 (fun s6=>some s6.2) some
theorem aA6 {N:Nat} {G:aT} {Lf:List Ent} {w:World} (w_:wE) {b_:Nat} {B:Option Addr} {D:Nat} (J:RdT jV G 3 B D w_.list.works) (hc:Ctx G (.box b_ [.slice B w_.list.works.length D] 180::Lf) w) {b:(List Int)} (hF:sX N w_=some b):Calls Tryz.prog 118 #[pq b_] w (fun e w=>∃ (n:Option Addr) (m:Nat),e=.returned (.slice n b.length m)∧Ctx G (.row n m (b.map aB) 3 1::.box b_ [.slice B w_.list.works.length D] 180::Lf) w):=by
 unfold sX at hF
 refine bL Tryz.func118 rfl Tryz.ntmps118 rfl fun a hf=>zS fun K h=>sp 1 hf rfl fun a hf=>zT h ?_
 refine zS fun K h=>zA hf hc aJw rfl fun H a w hf hc=>zT h ?_
 refine zS fun K h=>zP hf rfl (pMF (us:=[pq H]) rfl rfl) fun a hf=>sp 1 hf rfl fun a hf=>zT h ?_
 refine wp_seq_k fun K4 h4=>zS fun K h=>sp 1 hf rfl fun a hf=>zT h ?_
 refine wp_block ?_
 obtain ⟨x6,s,hF⟩:=aA hF
 let S6:(Int × (List Int))→Act→World→Prop:=(fun (zz:Int × (List Int)) a w=>∃ (O:Option Addr) (M:Nat),Has 39 a [(0,pq b_),(3,pq H),(4,.func (.func 140) #[] #[pq H]),(5,i6 zz.1)]∧Ctx G (.row O M (zz.2.map aB) 3 1::.box H [.slice O zz.2.length M] 23::.box b_ [.slice B w_.list.works.length D] 180::Lf) w)
 have ad:∀ (zz:Int × (List Int)) a w,x6=.go zz→S6 zz a w→K4 a w:=by
  rintro ⟨I,x⟩ a w rfl ⟨O,M,hf,hc⟩
  replace hF:=bK hF
  refine h4 _ _ ?_
  refine zS fun K h=>zL hf hc hY m1 rfl fun a w hf hc=>sp 1 hf rfl fun a hf=>zT h ?_
  refine wp_ret ?_
  obtain rfl:=sj hF
  replace hc:=hc.drop k1
  exact zO1 Tryz.results118 hf rfl ⟨O,M,rfl,hc⟩
 have ai:∀ r,x6=.out r→r=b:=by
  rintro r rfl
  exact sj hF
 replace hc:=hc.nilRow 3 1
 refine cZ N (cW (S:=S6) (x:=x6) ?_ N (0,([]:List Int)) _ _ ⟨none,0,hf.kp rfl,hc⟩ s)
 clear hF hf hc
 rintro ⟨I,x⟩ af a w KB6 ⟨O,M,hf,hc⟩ hF X z
 unfold uL at hF
 refine wp_seq_k fun K8 h8=>zS fun K h=>sp 3 hf rfl fun a hf=>zP hf rfl (pFA aIk rfl) fun a hf=>zP hf rfl (pFA aHr rfl) fun a hf=>zL hf hc aEe m2 rfl fun a w hf hc=>zP hf rfl (bG Tryz.underlying77 rfl) fun a hf=>sp 1 hf rfl fun a hf=>zT h ?_
 refine zI hf rfl hF ?_ ?_ <;> clear hF <;> intro hF
 ·refine wp_skip ?_
  refine h8 _ _ ?_
  refine wp_seq_k fun K10 ag=>?_
  have k:∀ (Y:Int) (R:List Int) (Z:Option Addr) (d:Nat) a w,Has 39 a [(0,pq b_),(3,pq H),(4,.func (.func 140) #[] #[pq H]),(5,i6 Y)]→Ctx G (.row Z d (R.map aB) 3 1::.box H [.slice Z R.length d] 23::.box b_ [.slice B w_.list.works.length D] 180::Lf) w→nH N Y R=some af→K10 a w:=by
   repeat (clear hF)
   repeat (clear hc)
   repeat (clear hf)
   intro Y R Z d a w hf hc hF
   unfold nH at hF
   refine ag _ _ ?_
   refine bV ?_
   refine sp 3 hf rfl fun a hf=>aP ?_
   exact z (W (Y + 1),R) _ _ (sj hF).symm ⟨Z,d,hf.kp rfl,hc⟩
  refine wp_block ?_
  refine zS fun K h=>sp 2 hf rfl fun a hf=>?_
  obtain ⟨r,hr,hF⟩:=aA hF
  refine zQ (v:=.bool r) hf hc aMh rfl (fun w hc=>by obtain ⟨G1,g,V,hc,U⟩:=lend hc k0; exact (sO I x V (hc.pick k0) hr).mono fun e w h=>⟨h.1,((U _ _ (h.2.unpick k0)).unpick k0)⟩) fun a w hf hc=>sp 2 hf rfl fun a hf=>?_
  obtain ⟨ab,i,hF⟩:=aA hF
  refine jX 12 (fun a=>Has 39 a [(0,pq b_),(3,pq H),(4,.func (.func 140) #[] #[pq H]),(5,i6 I),(17,.func (.func 140) #[] #[pq H]),(18,i6 I),(19,.bool r),(20,.bool (!r)),(21,.bool (!r)),(33,.bool ab)]) hc ?_ ?_
  ·cases hb:(!r)
   ·rw [hb] at hf
    have hF:=kI hb i
    obtain rfl:=sj hF
    refine stS hf rfl rfl rfl fun a hf=>stS hf rfl rfl rfl fun a hf=>stS hf rfl rfl rfl fun a hf=>stS hf rfl rfl rfl fun a hf=>stS hf rfl rfl rfl fun a hf=>stS hf rfl rfl rfl fun a hf=>stS hf rfl rfl rfl fun a hf=>stS hf rfl rfl rfl fun a hf=>stS hf rfl rfl rfl fun a hf=>stS hf rfl rfl rfl fun a hf=>stS hf rfl rfl rfl fun a hf=>sp 1 hf rfl fun a hf=>aP ⟨hf.kp rfl,hc⟩
   ·rw [hb] at hf
    have hF:=fP hb i
    refine sp 3 hf rfl fun a hf=>zP hf rfl (pFA aIk rfl) fun a hf=>zP hf rfl (pFA aHr rfl) fun a hf=>zL hf hc aEe m2 rfl fun a w hf hc=>sp 1 hf rfl fun a hf=>?_
    obtain ⟨y,p,hF⟩:=aA hF
    obtain ⟨aj,o,hd,qa,qp,qr⟩:=J.atm p
    refine zP hf rfl (pIA Tryz.underlying77 aCe rfl rfl qa) fun a hf=>zP hf rfl (pFA uM rfl) fun a hf=>zE hf hc rfl (eP hY rfl (dI (j:=0) qp rfl)) fun a w hf hc=>?_
    obtain ⟨u,q,hF⟩:=aA hF
    refine zQ (v:=.bool u) hf hc aJg rfl (fun w hc=>by obtain ⟨G1,g,V,hc,U⟩:=lend hc k0; exact (xK x y.Of V (qr.mono g) (hc.pick k0) q).mono fun e w h=>⟨h.1,((U _ _ (h.2.unpick k0)).unpick k0)⟩) fun a w hf hc=>sp 1 hf rfl fun a hf=>?_
    obtain rfl:=sj hF
    exact aP ⟨hf.kp rfl,hc⟩
  intro a w ⟨hf,hc⟩
  refine zT h ?_
  refine zI hf rfl hF ?_ ?_ <;> clear hF <;> intro hF
  ·refine zS fun K h=>zL hf hc hY m1 rfl fun a w hf hc=>sp 1 hf rfl fun a hf=>oB (rows:=([I]:List Int).map aB) (vs:=[(0,i6 I)]) hf hc rfl rfl jA rfl ⟨rfl,rfl,rfl,trivial⟩ rfl rfl fun ak a w hf hc=>?_
   obtain ⟨un,aa,hF⟩:=aA hF
   refine pC (xs:=x) (ys:=([I]:List Int)) hf hc rfl rfl jA rfl rfl rfl rfl rfl bZ (kC hc m0) (fun _ _=>u1) (by simpa using fD aa) fun ac t a w hf hc=>zW hf hc vI u2 rfl fun w hc=>zT h ?_
   refine bV ?_
   refine sp 1 hf rfl fun a hf=>aP ?_
   replace hc:=hc.drop k0
   exact k (-1) (x++[I]) ac t _ _  (hf.kp rfl) hc hF
  ·refine wp_skip ?_
   exact k I x O M _ _  (hf.kp rfl) hc hF
 ·refine wp_exit ?_
  refine aY ?_
  refine aY ?_
  have he:=sj hF
  rw [← he] at X
  refine fJ ?_
  exact ad _ _ _ X ⟨O,M,hf.kp rfl,hc⟩

def wP (N:Nat) (w_:List aM):Option (((List Int) × Int) ⊕ ((List Int) × Int)) :=
 Option.bind (yK N w_) fun r=>
 cond (r != 0)
 (some (.inl (([]:List Int),r)))
 (Option.bind (sX N (⟨(⟨w_⟩:aA0)⟩:wE)) fun B=>
 cond (decide (((B.length:Nat):Int) < ((w_.length:Nat):Int)))
 (some (.inl (([]:List Int),9)))
 (some (.inr (B,0))))
theorem xG {N:Nat} {G:aT} {Lf:List Ent} {w:World} (w_:List aM) {B:Option Addr} {D:Nat} (J:RdT jV G 3 B D w_) (hc:Ctx G (Lf) w) {O:((List Int) × Int) ⊕ ((List Int) × Int)} (hF:wP N w_=some O):Calls Tryz.prog 81 #[.slice B w_.length D] w (fun e w=>aAg (fun rr=>∃ (I:Option Addr) (H:Nat),e=.returned (.tuple #[.pointer none,.slice I rr.1.length H,i6 rr.2])∧Ctx G (.row I H (rr.1.map aB) 3 1::Lf) w) (fun rr=>∃ (M:Nat) (I:Option Addr) (H:Nat),e=.returned (.tuple #[pq M,.slice I rr.1.length H,i6 rr.2])∧Ctx G (.box M [.slice B w_.length D] 180::.row I H (rr.1.map aB) 3 1::Lf) w) O):=by
 unfold wP at hF
 refine bL Tryz.func81 rfl Tryz.ntmps81 rfl fun a hf=>zS fun K h=>sp 3 hf rfl fun a hf=>zT h ?_
 refine wp_seq_k fun K2 h2=>zS fun K h=>sp 1 hf rfl fun a hf=>?_
 obtain ⟨r,hr,hF⟩:=aA hF
 refine zQ (v:=i6 r) hf hc aQ4 rfl (fun w hc=>aE0 w_ J hc hr) fun a w hf hc=>sp 1 hf rfl fun a hf=>zT h ?_
 refine zS fun K h=>sp 2 hf rfl fun a hf=>zT h ?_
 refine zI hf rfl hF ?_ ?_ <;> clear hF <;> intro hF
 ·refine zS fun K h=>sp 4 hf rfl fun a hf=>zT h ?_
  refine wp_ret ?_
  refine aL ?_
  obtain rfl:=sj hF
  replace hc:=hc.nilRow 3 1
  exact zO3 Tryz.results81 hf rfl rfl rfl ⟨none,0,rfl,hc⟩
 ·refine wp_skip ?_
  refine h2 _ _ ?_
  refine zS fun K h=>sp 1 hf rfl fun a hf=>zP hf rfl (iF (cells:=[.slice B w_.length D]) aQm rfl rfl) fun a hf=>zP hf rfl (iF (cells:=[.slice B w_.length D]) aQs rfl rfl) fun a hf=>zB hf hc rfl fun V a w hf hc=>sp 1 hf rfl fun a hf=>zT h ?_
  refine zS fun K h=>sp 1 hf rfl fun a hf=>?_
  obtain ⟨X,R,hF⟩:=aA hF
  refine zC hf aQh rfl (aA6 (⟨(⟨w_⟩:aA0)⟩:wE) J (hc.pick k0) R) ?_
  rintro _ w ⟨U,S,rfl,hc⟩
  refine ⟨_,rfl,fun a hf=>?_⟩
  refine sp 1 hf rfl fun a hf=>zT h ?_
  refine wp_seq_k fun K8 h8=>zS fun K h=>sp 1 hf rfl fun a hf=>zP hf rfl (bG Tryz.underlying23 rfl) fun a hf=>sp 1 hf rfl fun a hf=>zP hf rfl (bG Tryz.underlying77 rfl) fun a hf=>sp 1 hf rfl fun a hf=>zT h ?_
  refine zI hf rfl hF ?_ ?_ <;> clear hF <;> intro hF
  ·refine zS fun K h=>sp 3 hf rfl fun a hf=>zT h ?_
   refine wp_ret ?_
   refine aL ?_
   obtain rfl:=sj hF
   replace hc:=hc.nilRow 3 1
   replace hc:=(hc.drop k2).drop k1
   exact zO3 Tryz.results81 hf rfl rfl rfl ⟨none,0,rfl,hc⟩
  ·refine wp_skip ?_
   refine h8 _ _ ?_
   refine zS fun K h=>sp 5 hf rfl fun a hf=>zT h ?_
   refine wp_ret ?_
   obtain rfl:=sj hF
   replace hc:=(hc.pick k0).pick k1
   exact zO3 Tryz.results81 hf rfl rfl rfl ⟨V,U,S,rfl,hc⟩

def rC (i_:Int) (x:List aM):Bool :=
 (dS i_ 0 (W (((x.length:Nat):Int) - 1)))
theorem aBi {G:aT} {Lf:List Ent} {w:World} (i_:Int) (x:List aM) {b_:Nat} {D:Option Addr} {B:Nat} (I:RdT jV G 3 D B x) (hc:Ctx G (.box b_ [.slice D x.length B] 77::Lf) w) {H:Bool} (hF:rC i_ x=H):Calls Tryz.prog 120 #[i6 i_,pq b_] w (fun e w=>e=.returned (.bool H)∧Ctx G (.box b_ [.slice D x.length B] 77::Lf) w):=by
 unfold rC at hF
 refine bL Tryz.func120 rfl Tryz.ntmps120 rfl fun a hf=>zS fun K h=>sp 1 hf rfl fun a hf=>zT h ?_
 refine zS fun K h=>sp 1 hf rfl fun a hf=>zL hf hc aEe m0 rfl fun a w hf hc=>zP hf rfl (bG Tryz.underlying77 rfl) fun a hf=>sp 1 hf rfl fun a hf=>zQ (v:=.bool (dS i_ 0 (W (((x.length:Nat):Int) - 1)))) hf hc aEa rfl (fun w hc=>sL i_ 0 (W (((x.length:Nat):Int) - 1)) hc rfl) fun a w hf hc=>sp 1 hf rfl fun a hf=>zT h ?_
 refine wp_ret ?_
 obtain rfl:=hF
 exact zO1 Tryz.results120 hf rfl ⟨rfl,hc⟩

def mQ (x:Int) (B:List aM):Bool :=
 (!(rC x B))
theorem wM {G:aT} {Lf:List Ent} {w:World} (x:Int) (B:List aM) {b_:Nat} {H:Nat} {I:Option Addr} {D:Nat} (J:RdT jV G 3 I D B) (hc:Ctx G (.box b_ [.func (.func 120) #[] #[pq H]] 56::.box H [.slice I B.length D] 77::Lf) w) {M:Bool} (hF:mQ x B=M):Calls Tryz.prog 141 #[i6 x,pq b_] w (fun e w=>e=.returned (.bool M)∧Ctx G (.box b_ [.func (.func 120) #[] #[pq H]] 56::.box H [.slice I B.length D] 77::Lf) w):=by
 unfold mQ at hF
 refine bL Tryz.func141 rfl Tryz.ntmps141 rfl fun a hf=>zS fun K h=>sp 1 hf rfl fun a hf=>zT h ?_
 refine zS fun K h=>zL hf hc aEm m0 rfl fun a w hf hc=>sp 1 hf rfl fun a hf=>zQ (v:=.bool (rC x B)) hf hc aQ1 rfl (fun w hc=>(aBi x B J (hc.pick k1) rfl).mono fun e w h=>⟨h.1,(h.2.unpick k1)⟩) fun a w hf hc=>sp 2 hf rfl fun a hf=>zT h ?_
 refine wp_ret ?_
 obtain rfl:=hF
 exact zO1 Tryz.results141 hf rfl ⟨rfl,hc⟩

def nB (N:Nat) (s_:List Int) (f_:List aM) (x:Int):Option (bY (Int) (Int)) :=
 cond (decide (x < ((s_.length:Nat):Int)))
 (Option.bind (bE s_ x) fun B=>
 cond (mQ B f_)
 (some (.ret x))
 (some (.cont (W (x + 1)))))
 (some (.brk x))
def kQ (N:Nat) (s_:List Int) (f_:List aM):Option (Int) :=
 Option.bind (aX (fun s4=>nB N s_ f_ s4) N 0) fun x4=>
 exK x4 (fun s4=>some (-1)) some
theorem rL {N:Nat} {G:aT} {Lf:List Ent} {w:World} (s_:List Int) (f_:List aM) {M:Option Addr} {J:Nat} {b_:Nat} {B:Nat} {I:Option Addr} {H:Nat} (X:Rd G 1 M J (s_.map aB)) (U:RdT jV G 3 I H f_) (hc:Ctx G (.box b_ [.func (.func 120) #[] #[pq B]] 56::.box B [.slice I f_.length H] 77::Lf) w) {O:Int} (hF:kQ N s_ f_=some O):Calls Tryz.prog 39 #[.slice M s_.length J,.func (.func 141) #[] #[pq b_]] w (fun e w=>e=.returned (i6 O)∧Ctx G (.box b_ [.func (.func 120) #[] #[pq B]] 56::.box B [.slice I f_.length H] 77::Lf) w):=by
 unfold kQ at hF
 refine bL Tryz.func39 rfl Tryz.ntmps39 rfl fun a hf=>zS fun K h=>sp 1 hf rfl fun a hf=>zT h ?_
 refine wp_seq_k fun K2 h2=>zS fun K h=>sp 1 hf rfl fun a hf=>zP hf rfl (bG Tryz.underlying23 rfl) fun a hf=>sp 1 hf rfl fun a hf=>zT h ?_
 refine wp_block ?_
 obtain ⟨x4,b,hF⟩:=aA hF
 let S4:Int→Act→World→Prop:=(fun (zz:Int) a w=>Has 19 a [(0,.slice M s_.length J),(1,.func (.func 141) #[] #[pq b_]),(7,i6 ((s_.length:Nat):Int)),(8,i6 zz)]∧Ctx G (.box b_ [.func (.func 120) #[] #[pq B]] 56::.box B [.slice I f_.length H] 77::Lf) w)
 have Y:∀ (zz:Int) a w,x4=.go zz→S4 zz a w→K2 a w:=by
  rintro x a w rfl ⟨hf,hc⟩
  replace hF:=bK hF
  refine h2 _ _ ?_
  refine zS fun K h=>sp 1 hf rfl fun a hf=>zT h ?_
  refine wp_ret ?_
  obtain rfl:=sj hF
  exact zO1 Tryz.results39 hf rfl ⟨rfl,hc⟩
 have d:∀ r,x4=.out r→r=O:=by
  rintro r rfl
  exact sj hF
 refine cZ N (cW (S:=S4) (x:=x4) ?_ N 0 _ _ ⟨hf.kp rfl,hc⟩ b)
 clear hF hf hc
 rintro x i a w KB4 ⟨hf,hc⟩ hF D Z
 unfold nB at hF
 refine zS fun K h=>sp 1 hf rfl fun a hf=>zT h ?_
 refine wp_seq_k fun K7 h7=>zI hf rfl hF ?_ ?_ <;> clear hF <;> intro hF
 ·refine wp_skip ?_
  refine h7 _ _ ?_
  refine wp_seq_k fun K8 h8=>wp_block ?_
  refine zS fun K h=>sp 2 hf rfl fun a hf=>zT h ?_
  refine zS fun K h=>sp 3 hf rfl fun a hf=>?_
  obtain ⟨R,V,hF⟩:=aA hF
  obtain ⟨g,o,qa,qp⟩:=X.atm V
  refine zP hf rfl (pIA Tryz.underlying23 fO rfl rfl qa) fun a hf=>zE hf hc rfl (eP cR rfl (dI (j:=0) qp rfl)) fun a w hf hc=>zQ (v:=.bool (mQ R f_)) hf hc aJa rfl (fun w hc=>(wM R f_ U ((hc.pick k1).pick k1) rfl).mono fun e w h=>⟨h.1,((h.2.unpick k1).unpick k1)⟩) fun a w hf hc=>zT h ?_
  refine zI hf rfl hF ?_ ?_ <;> clear hF <;> intro hF
  ·refine zS fun K h=>sp 2 hf rfl fun a hf=>zT h ?_
   refine wp_ret ?_
   refine bS ?_
   refine aL ?_
   refine aL ?_
   have he:=sj hF
   rw [← he] at D
   replace hF:=d _ D
   refine bS ?_
   refine aL ?_
   obtain rfl:=hF
   exact zO1 Tryz.results39 hf rfl ⟨rfl,hc⟩
  ·refine wp_skip ?_
   refine h8 _ _ ?_
   refine bV ?_
   refine sp 2 hf rfl fun a hf=>aP ?_
   exact Z (W (x + 1)) _ _ (sj hF).symm ⟨hf.kp rfl,hc⟩
 ·refine wp_exit ?_
  refine aY ?_
  refine aY ?_
  have he:=sj hF
  rw [← he] at D
  refine fJ ?_
  exact Y _ _ _ D ⟨hf.kp rfl,hc⟩

def jS (N:Nat) (s_:List Int) (f_:List aM):Option (Bool) :=
 Option.bind (kQ N s_ f_) fun r=>
 some (decide (0≤r))
theorem qF {N:Nat} {G:aT} {Lf:List Ent} {w:World} (s_:List Int) (f_:List aM) {I:Option Addr} {J:Nat} {b_:Nat} {B:Nat} {H:Option Addr} {D:Nat} (R:Rd G 1 I J (s_.map aB)) (O:RdT jV G 3 H D f_) (hc:Ctx G (.box b_ [.func (.func 120) #[] #[pq B]] 56::.box B [.slice H f_.length D] 77::Lf) w) {M:Bool} (hF:jS N s_ f_=some M):Calls Tryz.prog 36 #[.slice I s_.length J,.func (.func 141) #[] #[pq b_]] w (fun e w=>e=.returned (.bool M)∧Ctx G (.box b_ [.func (.func 120) #[] #[pq B]] 56::.box B [.slice H f_.length D] 77::Lf) w):=by
 unfold jS at hF
 refine bL Tryz.func36 rfl Tryz.ntmps36 rfl fun a hf=>zS fun K h=>sp 1 hf rfl fun a hf=>zT h ?_
 refine zS fun K h=>sp 2 hf rfl fun a hf=>?_
 obtain ⟨r,hr,hF⟩:=aA hF
 refine zQ (v:=i6 r) hf hc aAn rfl (fun w hc=>(rL s_ f_ R O ((hc.pick k1).pick k1) hr).mono fun e w h=>⟨h.1,((h.2.unpick k1).unpick k1)⟩) fun a w hf hc=>sp 2 hf rfl fun a hf=>zT h ?_
 refine wp_ret ?_
 obtain rfl:=sj hF
 exact zO1 Tryz.results36 hf rfl ⟨rfl,hc⟩

def qG (N:Nat) (so:List aM) (l:List Int):Option (Bool) :=
 Option.bind (jS N l so) fun r=>
 some (!r)
theorem xQ {N:Nat} {G:aT} {Lf:List Ent} {w:World} (so:List aM) (l:List Int) {b_:Nat} {B:Option Addr} {D:Nat} {J:Option Addr} {H:Nat} (M:RdT jV G 3 B D so) (O:Rd G 1 J H (l.map aB)) (hc:Ctx G (.box b_ [.slice B so.length D] 77::Lf) w) {I:Bool} (hF:qG N so l=some I):Calls Tryz.prog 119 #[.func (.func 120) #[] #[pq b_],.slice J l.length H] w (fun e w=>e=.returned (.bool I)∧Ctx G (.box b_ [.slice B so.length D] 77::Lf) w):=by
 unfold qG at hF
 refine bL Tryz.func119 rfl Tryz.ntmps119 rfl fun a hf=>zS fun K h=>zB hf hc rfl fun R a w hf hc=>sp 1 hf rfl fun a hf=>zT h ?_
 refine zS fun K h=>sp 1 hf rfl fun a hf=>zP hf rfl (pMF (us:=[pq R]) rfl rfl) fun a hf=>?_
 obtain ⟨r,hr,hF⟩:=aA hF
 refine zQ (v:=.bool r) hf hc aAp rfl (fun w hc=>(qF l so O M ((hc.pick k1).pick k1) hr).mono fun e w h=>⟨h.1,((h.2.unpick k1).unpick k1)⟩) fun a w hf hc=>sp 2 hf rfl fun a hf=>zT h ?_
 refine wp_ret ?_
 obtain rfl:=sj hF
 replace hc:=hc.drop k0
 exact zO1 Tryz.results119 hf rfl ⟨rfl,hc⟩

def xD (N:Nat) (l:List Int) (B:Int):Option (bY (Int) (Int)) :=
 cond (decide (B < ((l.length:Nat):Int)))
 (Option.bind (bE l B) fun H=>
 Option.bind (bE l (W (B - 1))) fun D=>
 cond (decide (H≤D))
 (some (.ret 9))
 (some (.cont (W (B + 1)))))
 (some (.brk B))
def tL (N:Nat) (w_:List aM) (l:List Int):Option (Int) :=
 Option.bind (qG N w_ l) fun r=>
 cond (!r)
 (some 2)
 (Option.bind (aX (fun s7=>xD N l s7) N 1) fun x7=>
 exK x7 (fun s7=>some 0) some)
theorem xH {N:Nat} {G:aT} {Lf:List Ent} {w:World} (w_:List aM) (l:List Int) {H:Option Addr} {J:Nat} {O:Option Addr} {D:Nat} (Y:RdT jV G 3 H J w_) (M:Rd G 1 O D (l.map aB)) (hc:Ctx G (Lf) w) {I:Int} (hF:tL N w_ l=some I):Calls Tryz.prog 82 #[.slice H w_.length J,.slice O l.length D] w (fun e w=>e=.returned (i6 I)∧Ctx G (Lf) w):=by
 unfold tL at hF
 refine bL Tryz.func82 rfl Tryz.ntmps82 rfl fun a hf=>zS fun K h=>zB hf hc rfl fun k a w hf hc=>sp 1 hf rfl fun a hf=>zT h ?_
 refine wp_seq_k fun K2 h2=>zS fun K h=>zP hf rfl (pMF (us:=[pq k]) rfl rfl) fun a hf=>sp 1 hf rfl fun a hf=>?_
 obtain ⟨r,hr,hF⟩:=aA hF
 refine zQ (v:=.bool r) hf hc aJg rfl (fun w hc=>(xQ w_ l Y M (hc.pick k0) hr).mono fun e w h=>⟨h.1,(h.2.unpick k0)⟩) fun a w hf hc=>sp 1 hf rfl fun a hf=>zT h ?_
 refine zI hf rfl hF ?_ ?_ <;> clear hF <;> intro hF
 ·refine zS fun K h=>sp 1 hf rfl fun a hf=>zT h ?_
  refine wp_ret ?_
  refine aL ?_
  obtain rfl:=sj hF
  replace hc:=hc.drop k0
  exact zO1 Tryz.results82 hf rfl ⟨rfl,hc⟩
 ·refine wp_skip ?_
  refine h2 _ _ ?_
  refine wp_seq_k fun K5 h5=>zS fun K h=>sp 1 hf rfl fun a hf=>zT h ?_
  refine wp_block ?_
  obtain ⟨x7,i,hF⟩:=aA hF
  let S7:Int→Act→World→Prop:=(fun (zz:Int) a w=>Has 26 a [(1,.slice O l.length D),(5,i6 zz)]∧Ctx G (Lf) w)
  have n:∀ (zz:Int) a w,x7=.go zz→S7 zz a w→K5 a w:=by
   rintro R a w rfl ⟨hf,hc⟩
   replace hF:=bK hF
   refine h5 _ _ ?_
   refine zS fun K h=>sp 1 hf rfl fun a hf=>zT h ?_
   refine wp_ret ?_
   obtain rfl:=sj hF
   exact zO1 Tryz.results82 hf rfl ⟨rfl,hc⟩
  have b:∀ r,x7=.out r→r=I:=by
   rintro r rfl
   exact sj hF
  replace hc:=hc.drop k0
  refine cZ N (cW (S:=S7) (x:=x7) ?_ N 1 _ _ ⟨hf.kp rfl,hc⟩ i)
  clear hF hf hc
  rintro R p a w KB7 ⟨hf,hc⟩ hF B g
  unfold xD at hF
  refine wp_seq_k fun K9 h9=>zS fun K h=>sp 2 hf rfl fun a hf=>zP hf rfl (bG Tryz.underlying23 rfl) fun a hf=>sp 1 hf rfl fun a hf=>zT h ?_
  refine zI hf rfl hF ?_ ?_ <;> clear hF <;> intro hF
  ·refine wp_skip ?_
   refine h9 _ _ ?_
   refine wp_seq_k fun K11 d=>wp_block ?_
   refine wp_seq_k fun K12 m=>?_
   obtain ⟨q,U,hF⟩:=aA hF
   obtain ⟨t,o,qa,qp⟩:=M.atm U
   obtain ⟨y,V,hF⟩:=aA hF
   obtain ⟨u,s,X,Z⟩:=M.atm V
   refine cQ hc bA (by kernel_rfl) ?_
   refine qE hf rfl rfl rfl (Pu.ev (pM rfl)) fun a hf=>qE hf rfl rfl rfl (Pu.ev (pM rfl)) fun a hf=>qE hf rfl rfl rfl (Pu.ev (pIA Tryz.underlying23 fO rfl rfl qa)) fun a hf=>qE hf rfl rfl rfl (eP cR rfl (dI (j:=0) qp rfl)) fun a hf=>qE hf rfl rfl rfl (Pu.ev (pM rfl)) fun a hf=>qE hf rfl rfl rfl (Pu.ev (pM rfl)) fun a hf=>qE hf rfl rfl rfl (Pu.ev (pSub rfl rfl)) fun a hf=>qE hf rfl rfl rfl (Pu.ev (pIA Tryz.underlying23 fO rfl rfl X)) fun a hf=>qE hf rfl rfl rfl (eP cR rfl (dI (j:=0) Z rfl)) fun a hf=>qE hf rfl rfl rfl (Pu.ev (pLe rfl rfl)) fun a hf=>?_
   intro w hc
   refine m _ _ ?_
   refine zI hf rfl hF ?_ ?_ <;> clear hF <;> intro hF
   ·refine zS fun K h=>sp 1 hf rfl fun a hf=>zT h ?_
    refine wp_ret ?_
    refine bS ?_
    refine aL ?_
    refine aL ?_
    have he:=sj hF
    rw [← he] at B
    replace hF:=b _ B
    refine bS ?_
    refine aL ?_
    obtain rfl:=hF
    exact zO1 Tryz.results82 hf rfl ⟨rfl,hc⟩
   ·refine wp_skip ?_
    refine d _ _ ?_
    refine bV ?_
    refine sp 3 hf rfl fun a hf=>aP ?_
    exact g (W (R + 1)) _ _ (sj hF).symm ⟨hf.kp rfl,hc⟩
  ·refine wp_exit ?_
   refine aY ?_
   refine aY ?_
   have he:=sj hF
   rw [← he] at B
   refine fJ ?_
   exact n _ _ _ B ⟨hf.kp rfl,hc⟩

def vM (N:Nat) (k:Int) (x:Nat→Bool):Option (Bool) :=
 Option.bind (inR k 30) fun un=>
 some (x k.toNat)
theorem aCo {N:Nat} {G:aT} {Lf:List Ent} {w:World} (k:Int) (x:Nat→Bool) {b_:Nat}  (hc:Ctx G (.box b_ (bR [] 30 cG x []) 112::Lf) w) {D:Bool} (hF:vM N k x=some D):Calls Tryz.prog 83 #[i6 k,pq b_] w (fun e w=>e=.returned (.bool D)∧Ctx G (.box b_ (bR [] 30 cG x []) 112::Lf) w):=by
 unfold vM at hF
 refine bL Tryz.func83 rfl Tryz.ntmps83 rfl fun a hf=>zS fun K h=>sp 1 hf rfl fun a hf=>zT h ?_
 refine zS fun K h=>sp 1 hf rfl fun a hf=>?_
 obtain ⟨un,B,hF⟩:=aA hF
 refine zP hf rfl (xL Tryz.underlying112 yC rfl rfl (cF B).1 (cF B).2) fun a hf=>zE hf hc rfl (eP aJi rfl (yF (j:=0) m0 (fun x=>(mD x).1) rfl B rfl)) fun a w hf hc=>sp 1 hf rfl fun a hf=>zT h ?_
 refine wp_ret ?_
 obtain rfl:=sj hF
 exact zO1 Tryz.results83 hf rfl ⟨rfl,hc⟩

def nD (N:Nat) (s_:List Int) (f_:Nat→Bool) (x:Int):Option (bY (Int) (Int)) :=
 cond (decide (x < ((s_.length:Nat):Int)))
 (Option.bind (bE s_ x) fun B=>
 Option.bind (vM N B f_) fun r=>
 cond r
 (some (.ret x))
 (some (.cont (W (x + 1)))))
 (some (.brk x))
def kV (N:Nat) (s_:List Int) (f_:Nat→Bool):Option (Int) :=
 Option.bind (aX (fun s4=>nD N s_ f_ s4) N 0) fun x4=>
 exK x4 (fun s4=>some (-1)) some
theorem rP {N:Nat} {G:aT} {Lf:List Ent} {w:World} (s_:List Int) (f_:Nat→Bool) {H:Option Addr} {D:Nat} {b_:Nat} (M:Rd G 1 H D (s_.map aB)) (hc:Ctx G (.box b_ (bR [] 30 cG f_ []) 112::Lf) w) {I:Int} (hF:kV N s_ f_=some I):Calls Tryz.prog 39 #[.slice H s_.length D,.func (.func 83) #[] #[pq b_]] w (fun e w=>e=.returned (i6 I)∧Ctx G (.box b_ (bR [] 30 cG f_ []) 112::Lf) w):=by
 unfold kV at hF
 refine bL Tryz.func39 rfl Tryz.ntmps39 rfl fun a hf=>zS fun K h=>sp 1 hf rfl fun a hf=>zT h ?_
 refine wp_seq_k fun K2 h2=>zS fun K h=>sp 1 hf rfl fun a hf=>zP hf rfl (bG Tryz.underlying23 rfl) fun a hf=>sp 1 hf rfl fun a hf=>zT h ?_
 refine wp_block ?_
 obtain ⟨x4,V,hF⟩:=aA hF
 let S4:Int→Act→World→Prop:=(fun (zz:Int) a w=>Has 19 a [(0,.slice H s_.length D),(1,.func (.func 83) #[] #[pq b_]),(7,i6 ((s_.length:Nat):Int)),(8,i6 zz)]∧Ctx G (.box b_ (bR [] 30 cG f_ []) 112::Lf) w)
 have O:∀ (zz:Int) a w,x4=.go zz→S4 zz a w→K2 a w:=by
  rintro x a w rfl ⟨hf,hc⟩
  replace hF:=bK hF
  refine h2 _ _ ?_
  refine zS fun K h=>sp 1 hf rfl fun a hf=>zT h ?_
  refine wp_ret ?_
  obtain rfl:=sj hF
  exact zO1 Tryz.results39 hf rfl ⟨rfl,hc⟩
 have X:∀ r,x4=.out r→r=I:=by
  rintro r rfl
  exact sj hF
 refine cZ N (cW (S:=S4) (x:=x4) ?_ N 0 _ _ ⟨hf.kp rfl,hc⟩ V)
 clear hF hf hc
 rintro x Z a w KB4 ⟨hf,hc⟩ hF B R
 unfold nD at hF
 refine zS fun K h=>sp 1 hf rfl fun a hf=>zT h ?_
 refine wp_seq_k fun K7 h7=>zI hf rfl hF ?_ ?_ <;> clear hF <;> intro hF
 ·refine wp_skip ?_
  refine h7 _ _ ?_
  refine wp_seq_k fun K8 h8=>wp_block ?_
  refine zS fun K h=>sp 2 hf rfl fun a hf=>zT h ?_
  refine zS fun K h=>sp 3 hf rfl fun a hf=>?_
  obtain ⟨U,J,hF⟩:=aA hF
  obtain ⟨Y,o,qa,qp⟩:=M.atm J
  refine zP hf rfl (pIA Tryz.underlying23 fO rfl rfl qa) fun a hf=>zE hf hc rfl (eP cR rfl (dI (j:=0) qp rfl)) fun a w hf hc=>?_
  obtain ⟨r,hr,hF⟩:=aA hF
  refine zQ (v:=.bool r) hf hc en_83 rfl (fun w hc=>(aCo U f_ (hc.pick k0) hr).mono fun e w h=>⟨h.1,(h.2.unpick k0)⟩) fun a w hf hc=>zT h ?_
  refine zI hf rfl hF ?_ ?_ <;> clear hF <;> intro hF
  ·refine zS fun K h=>sp 2 hf rfl fun a hf=>zT h ?_
   refine wp_ret ?_
   refine bS ?_
   refine aL ?_
   refine aL ?_
   have he:=sj hF
   rw [← he] at B
   replace hF:=X _ B
   refine bS ?_
   refine aL ?_
   obtain rfl:=hF
   exact zO1 Tryz.results39 hf rfl ⟨rfl,hc⟩
  ·refine wp_skip ?_
   refine h8 _ _ ?_
   refine bV ?_
   refine sp 2 hf rfl fun a hf=>aP ?_
   exact R (W (x + 1)) _ _ (sj hF).symm ⟨hf.kp rfl,hc⟩
 ·refine wp_exit ?_
  refine aY ?_
  refine aY ?_
  have he:=sj hF
  rw [← he] at B
  refine fJ ?_
  exact O _ _ _ B ⟨hf.kp rfl,hc⟩

def gI (N:Nat) (s_:List Int) (f_:Nat→Bool):Option (Bool) :=
 Option.bind (kV N s_ f_) fun r=>
 some (decide (0≤r))
theorem lG {N:Nat} {G:aT} {Lf:List Ent} {w:World} (s_:List Int) (f_:Nat→Bool) {B:Option Addr} {D:Nat} {b_:Nat} (I:Rd G 1 B D (s_.map aB)) (hc:Ctx G (.box b_ (bR [] 30 cG f_ []) 112::Lf) w) {H:Bool} (hF:gI N s_ f_=some H):Calls Tryz.prog 36 #[.slice B s_.length D,.func (.func 83) #[] #[pq b_]] w (fun e w=>e=.returned (.bool H)∧Ctx G (.box b_ (bR [] 30 cG f_ []) 112::Lf) w):=by
 unfold gI at hF
 refine bL Tryz.func36 rfl Tryz.ntmps36 rfl fun a hf=>zS fun K h=>sp 1 hf rfl fun a hf=>zT h ?_
 refine zS fun K h=>sp 2 hf rfl fun a hf=>?_
 obtain ⟨r,hr,hF⟩:=aA hF
 refine zQ (v:=i6 r) hf hc aAn rfl (fun w hc=>(rP s_ f_ I (hc.pick k0) hr).mono fun e w h=>⟨h.1,(h.2.unpick k0)⟩) fun a w hf hc=>sp 2 hf rfl fun a hf=>zT h ?_
 refine wp_ret ?_
 obtain rfl:=sj hF
 exact zO1 Tryz.results36 hf rfl ⟨rfl,hc⟩

def xC (N:Nat) (w_:List aM) (D:List Int) (r:(List Int) × Int) (x:Int) (H:Nat→Bool):Option (bY (Int × (Nat→Bool)) (((List Int) × (Nat→Bool) × Int) ⊕ ((List Int) × (Nat→Bool) × Int))) :=
 cond (decide (x < ((r.1.length:Nat):Int)))
 (Option.bind (bE r.1 x) fun B=>
 Option.bind (bB N D B) fun I=>
 Option.bind (cond I (some true) (Option.bind (bE w_ B) fun J=>
 Option.bind (gI N J.Of H) fun M=>
 some M)) fun O=>
 Option.bind (inR B 30) fun un=>
 some (.cont (W (x + 1),(rT H B.toNat O))))
 (some (.brk (x,H)))
def rD (N:Nat) (w_:List aM) (D:List Int) (r:(List Int) × Int) (H:Int):Option (((List Int) × (Nat→Bool) × Int) ⊕ ((List Int) × (Nat→Bool) × Int)) :=
 cond (H != 0)
 (some (.inl (([]:List Int),(fun _=>false),H)))
 (Option.bind (aX (fun B=>xC N w_ D r B.1 B.2) N (0,(fun _=>false))) fun I=>
 exK I (fun B=>some (.inl (r.1,B.2,0))) some)
def xF (N:Nat) (w_:List aM) (H:List Int) (J:(List Int) × Int) (B:Int) (I:Nat→Bool):Option (bY (Int × (Nat→Bool)) (((List Int) × (Nat→Bool) × Int) ⊕ ((List Int) × (Nat→Bool) × Int))) :=
 cond (decide (B < ((J.1.length:Nat):Int)))
 (Option.bind (bE J.1 B) fun D=>
 Option.bind (bB N H D) fun M=>
 Option.bind (cond M (some true) (Option.bind (bE w_ D) fun O=>
 Option.bind (gI N O.Of I) fun R=>
 some R)) fun S=>
 Option.bind (inR D 30) fun U=>
 some (.cont (W (B + 1),(rT I D.toNat S))))
 (some (.brk (B,I)))
def pY (N:Nat) (w_:List aM) (D:List Int) (I:(List Int) × Int) (H:Int):Option (((List Int) × (Nat→Bool) × Int) ⊕ ((List Int) × (Nat→Bool) × Int)) :=
 cond (H != 0)
 (some (.inl (([]:List Int),(fun _=>false),H)))
 (Option.bind (aX (fun B=>xF N w_ D I B.1 B.2) N (0,(fun _=>false))) fun J=>
 exK J (fun B=>some (.inr (I.1,B.2,0))) some)
def yB (N:Nat) (w_:List aM) (B:List Int):Option (((List Int) × (Nat→Bool) × Int) ⊕ ((List Int) × (Nat→Bool) × Int)) :=
 Option.bind (wP N w_) (aAg (fun r=>cond (r.2 == 0)
 (Option.bind (tL N w_ B) fun I=>
 rD N w_ B r I)
 (rD N w_ B r r.2))
 (fun D=>cond (D.2 == 0)
 (Option.bind (tL N w_ B) fun H=>
 pY N w_ B D H)
 (pY N w_ B D D.2)))
theorem yW {N:Nat} {G:aT} {Lf:List Ent} {w:World} (w_:List aM) (B:List Int) {O:Option Addr} {R:Nat} {H:Option Addr} {D:Nat} (p:RdT jV G 3 O R w_) (Z:Rd G 1 H D (B.map aB)) (hc:Ctx G (Lf) w) {t:((List Int) × (Nat→Bool) × Int) ⊕ ((List Int) × (Nat→Bool) × Int)} (hF:yB N w_ B=some t):Calls Tryz.prog 51 #[.slice O w_.length R,.slice H B.length D] w (fun e w=>aAg (fun rr=>∃ (ag:Option Addr) (aj:Nat),e=.returned (.tuple #[.pointer none,.slice ag rr.1.length aj,.agg (bR [] 30 cG rr.2.1 []).toArray,i6 rr.2.2])∧Ctx G (.row ag aj (rr.1.map aB) 3 1::Lf) w) (fun rr=>∃ (a4:Nat) (ag:Option Addr) (aj:Nat),e=.returned (.tuple #[pq a4,.slice ag rr.1.length aj,.agg (bR [] 30 cG rr.2.1 []).toArray,i6 rr.2.2])∧Ctx G (.box a4 [.slice O w_.length R] 180::.row ag aj (rr.1.map aB) 3 1::Lf) w) t):=by
 unfold yB at hF
 refine bL Tryz.func51 rfl Tryz.ntmps51 rfl fun a hf=>zS fun K h=>sp 2 hf rfl fun a hf=>aFg (cs:=(bR [] 30 cG (fun _=>false) [])) hf hc rfl rfl aG5 rfl fun I a w hf hc=>sp 1 hf rfl fun a hf=>zT h ?_
 refine zS fun K h=>aFg (cs:=(bR [] 30 cG (fun _=>false) [])) hf hc rfl rfl aG5 rfl fun J a w hf hc=>zT h ?_
 refine zS fun K h=>sp 1 hf rfl fun a hf=>?_
 obtain ⟨r,hr,hF⟩:=aA hF
 cases r with
 | inl r=>
  replace hF:=aC4 hF
  refine zC hf aQf rfl (xG w_ p hc hr) ?_
  rintro _ w ⟨ad,y,rfl,hc⟩
  refine ⟨_,rfl,fun a hf=>?_⟩
  refine sp 7 hf rfl fun a hf=>zT h ?_
  refine wp_seq_k fun K4 h4=>?_
  have a6:∀ (s:Int) a w,Has 53 a [(0,.slice O w_.length R),(1,.slice H B.length D),(6,pq I),(8,pq J),(9,.pointer none),(10,.slice ad r.1.length y),(11,i6 s)]→Ctx G (.row ad y (r.1.map aB) 3 1::.box J (bR [] 30 cG (fun _=>false) []) 112::.box I (bR [] 30 cG (fun _=>false) []) 112::Lf) w→rD N w_ B r s=some t→K4 a w:=by
   repeat (clear hF)
   repeat (clear hc)
   repeat (clear hf)
   intro s a w hf hc hF
   unfold rD at hF
   refine h4 _ _ ?_
   refine wp_seq_k fun K5 h5=>zS fun K h=>sp 2 hf rfl fun a hf=>zT h ?_
   refine zI hf rfl hF ?_ ?_ <;> clear hF <;> intro hF
   ·refine wp_seq_k fun K7 h7=>eL (fun θ=>[⟨none,none,6,pq I⟩,⟨none,none,8,pq J⟩,⟨none,none,11,i6 s⟩,⟨some 0,none,27,.agg (bR [] 30 cG (fun _=>false) []).toArray⟩,⟨some 1,none,28,i6 s⟩,⟨some 2,none,4,.pointer none⟩,⟨some 3,none,5,.slice none 0 0⟩,⟨some 5,none,7,i6 s⟩]) (fun E θ=>.row ad y (r.1.map aB) 3 1::.box J (bR [] 30 cG (fun _=>false) []) 112::.box I (bR [] 30 cG (fun _=>false) []) 112::Lf) [] (fun a w=>Has 53 a [(6,pq I),(4,.pointer none),(5,.slice none 0 0),(7,i6 s)]∧Ctx G (.row ad y (r.1.map aB) 3 1::.box J (bR [] 30 cG (fun _=>false) []) 112::.box I (bR [] 30 cG (fun _=>false) []) 112::Lf) w) bA (by kernel_rfl) (by kernel_rfl) (fN.of hf ⟨rfl,rfl,rfl,trivial,trivial,trivial,trivial,trivial,trivial⟩) hc ⟨?_,?_,?_,?_,?_,?_,trivial⟩ ?_ ?_
    ·intro E θ a w hD hi hp he hc
     have hf:=he.h0.mT he 1 rfl
     refine zE hf hc rfl (lK (vs:=(bR [] 30 cG (fun _=>false) [])) zF rfl (dE _).1 (dN (n:=30) m1 (tF (dE _).1))) fun a w hf hc=>zD θ he hi hf 3 rfl rfl rfl hc
    ·intro E θ a w hD hi hp he hc
     have hf:=he.h0.mT he 2 rfl
     refine sp 1 hf rfl fun a hf=>zD θ he hi hf 4 rfl rfl rfl hc
    ·intro E θ a w hD hi hp he hc
     have hf:=he.h0
     refine sp 1 hf rfl fun a hf=>zD θ he hi hf 5 rfl rfl rfl hc
    ·intro E θ a w hD hi hp he hc
     have hf:=he.h0
     refine sp 1 hf rfl fun a hf=>zD θ he hi hf 6 rfl rfl rfl hc
    ·intro E θ a w hD hi hp he hc
     have e0:=hp.o 0 rfl
     have hf:=(he.h0.mT he 0 rfl).mP he 3 rfl e0
     refine xI (enc:=sP) (f:=(fun _=>false)) (z:=(fun _=>false)) hf hc rfl rfl rfl dE aCn u2 fun w hc=>zG θ he hi hf rfl hc
    ·intro E θ a w hD hi hp he hc
     have e1:=hp.o 1 rfl
     have hf:=he.h0.mP he 4 rfl e1
     refine sp 1 hf rfl fun a hf=>zD θ he hi hf 7 rfl rfl rfl hc
    ·intro E θ a w M he hc
     have hf:=he.h0
     have e2:=M 2 rfl
     have e3:=M 3 rfl
     have e5:=M 5 rfl
     replace hf:=hf.more he 7 rfl (onP e5)
     replace hf:=hf.more he 6 rfl (onP e3)
     replace hf:=hf.more he 5 rfl (onP e2)
     replace hf:=hf.more he 0 rfl (onT)
     exact ⟨hf.kp rfl,hc⟩
    rintro a w ⟨hf,hc⟩
    refine h7 _ _ ?_
    refine wp_ret ?_
    refine aL ?_
    obtain rfl:=sj hF
    replace hc:=hc.nilRow 3 1
    replace hc:=(hc.drop k2).drop k1
    exact aG0 (by simp) rfl Tryz.results51 hf hc (show gR _ 4=_ from rfl) (show gR _ 5=_ from rfl) (jH (vs:=(bR [] 30 cG (fun _=>false) [])) zF rfl (dE _).1 (dN (n:=30) m1 (tF (dE _).1))) (show gR _ 7=_ from rfl) ⟨none,0,rfl,(hc.drop k1)⟩
   ·refine wp_skip ?_
    refine h5 _ _ ?_
    refine wp_seq_k fun K8 h8=>zS fun K h=>sp 1 hf rfl fun a hf=>zP hf rfl (bG Tryz.underlying23 rfl) fun a hf=>sp 1 hf rfl fun a hf=>zT h ?_
    refine wp_block ?_
    obtain ⟨a1,bz,hF⟩:=aA hF
    let S10:(Int × (Nat→Bool))→Act→World→Prop:=(fun (zz:Int × (Nat→Bool)) a w=>∃ (b:Option Addr) (X:Nat),Has 53 a [(0,.slice O w_.length R),(1,.slice H B.length D),(6,pq I),(8,pq J),(9,.pointer none),(10,.slice b r.1.length X),(29,.slice b r.1.length X),(30,i6 ((r.1.length:Nat):Int)),(31,i6 zz.1)]∧Ctx G (.row b X (r.1.map aB) 3 1::.box J (bR [] 30 cG zz.2 []) 112::.box I (bR [] 30 cG (fun _=>false) []) 112::Lf) w)
    have br:∀ (zz:Int × (Nat→Bool)) a w,a1=.go zz→S10 zz a w→K8 a w:=by
     rintro ⟨x,m⟩ a w rfl ⟨b,X,hf,hc⟩
     replace hF:=bK hF
     refine h8 _ _ ?_
     refine wp_seq_k fun K11 b6=>eL (fun θ=>[⟨none,none,6,pq I⟩,⟨none,none,8,pq J⟩,⟨none,none,9,.pointer none⟩,⟨none,none,10,.slice b r.1.length X⟩,⟨some 0,none,50,.pointer none⟩,⟨some 1,none,51,.slice b r.1.length X⟩,⟨some 2,none,52,.agg (bR [] 30 cG m []).toArray⟩,⟨some 3,none,4,.pointer none⟩,⟨some 4,none,5,.slice b r.1.length X⟩,⟨some 6,none,7,i6 0⟩]) (fun E θ=>.row b X (r.1.map aB) 3 1::.box J (bR [] 30 cG m []) 112::(bif E 5 then .box I (bR [] 30 cG m []) 112 else .box I (bR [] 30 cG (fun _=>false) []) 112)::Lf) [] (fun a w=>Has 53 a [(6,pq I),(4,.pointer none),(5,.slice b r.1.length X),(7,i6 0)]∧Ctx G (.row b X (r.1.map aB) 3 1::.box J (bR [] 30 cG m []) 112::.box I (bR [] 30 cG m []) 112::Lf) w) bA (by kernel_rfl) (by kernel_rfl) (fN.of hf ⟨rfl,rfl,rfl,rfl,trivial,trivial,trivial,trivial,trivial,trivial,trivial⟩) hc ⟨?_,?_,?_,?_,?_,?_,?_,trivial⟩ ?_ ?_
     ·intro E θ a w hD hi hp he hc
      have hf:=he.h0.mT he 2 rfl
      refine sp 1 hf rfl fun a hf=>zD θ he hi hf 4 rfl rfl rfl hc
     ·intro E θ a w hD hi hp he hc
      have hf:=he.h0.mT he 3 rfl
      refine sp 1 hf rfl fun a hf=>zD θ he hi hf 5 rfl rfl rfl hc
     ·intro E θ a w hD hi hp he hc
      have hf:=he.h0.mT he 1 rfl
      refine zE hf hc rfl (lK (vs:=(bR [] 30 cG m [])) zF rfl (dE _).1 (dN (n:=30) m1 (tF (dE _).1))) fun a w hf hc=>zD θ he hi hf 6 rfl rfl rfl hc
     ·intro E θ a w hD hi hp he hc
      have e0:=hp.o 0 rfl
      have hf:=he.h0.mP he 4 rfl e0
      refine sp 1 hf rfl fun a hf=>zD θ he hi hf 7 rfl rfl rfl hc
     ·intro E θ a w hD hi hp he hc
      have e1:=hp.o 1 rfl
      have hf:=he.h0.mP he 5 rfl e1
      refine sp 1 hf rfl fun a hf=>zD θ he hi hf 8 rfl rfl rfl hc
     ·intro E θ a w hD hi hp he hc
      have e2:=hp.o 2 rfl
      try dsimp only at hc
      rw [hi] at hc
      have hf:=(he.h0.mT he 0 rfl).mP he 6 rfl e2
      refine xI (enc:=sP) (f:=(fun _=>false)) (z:=m) hf hc rfl rfl rfl dE aCn u2 fun w hc=>zG θ he hi hf rfl ?_
      try dsimp only
      rw [aS E 5]
      exact hc
     ·intro E θ a w hD hi hp he hc
      have hf:=he.h0
      refine sp 1 hf rfl fun a hf=>zD θ he hi hf 9 rfl rfl rfl hc
     ·intro E θ a w M he hc
      have hf:=he.h0
      have e3:=M 3 rfl
      have e4:=M 4 rfl
      have e5:=M 5 rfl
      have e6:=M 6 rfl
      replace hf:=hf.more he 9 rfl (onP e6)
      replace hf:=hf.more he 8 rfl (onP e4)
      replace hf:=hf.more he 7 rfl (onP e3)
      replace hf:=hf.more he 0 rfl (onT)
      try dsimp only at hc
      rw [e5] at hc
      exact ⟨hf.kp rfl,hc⟩
     rintro a w ⟨hf,hc⟩
     refine b6 _ _ ?_
     refine wp_ret ?_
     obtain rfl:=sj hF
     replace hc:=hc.drop k1
     exact aG0 (by simp) rfl Tryz.results51 hf hc (show gR _ 4=_ from rfl) (show gR _ 5=_ from rfl) (jH (vs:=(bR [] 30 cG m [])) zF rfl (dE _).1 (dN (n:=30) m1 (tF (dE _).1))) (show gR _ 7=_ from rfl) ⟨b,X,rfl,(hc.drop k1)⟩
    have cm:∀ r,a1=.out r→r=t:=by
     rintro r rfl
     exact sj hF
    refine cZ N (cW (S:=S10) (x:=a1) ?_ N (0,(fun _=>false)) _ _ ⟨ad,y,hf.kp rfl,hc⟩ bz)
    clear hF hf hc
    rintro ⟨x,m⟩ cg a w KB10 ⟨b,X,hf,hc⟩ hF ai bp
    unfold xC at hF
    refine zS fun K h=>sp 1 hf rfl fun a hf=>zT h ?_
    refine wp_seq_k fun K13 b2=>zI hf rfl hF ?_ ?_ <;> clear hF <;> intro hF
    ·refine wp_skip ?_
     refine b2 _ _ ?_
     refine wp_seq_k fun K14 cd=>wp_block ?_
     refine zS fun K h=>?_
     obtain ⟨ab,bq,hF⟩:=aA hF
     have az:=hf
     obtain ⟨g,rfl,qa,qr⟩:=hP hc m0 bq
     have hf:=az
     refine zP hf rfl (pIA Tryz.underlying23 fO rfl rfl qa) fun a hf=>zE hf hc rfl (eP cR rfl (fZ (sz:=1) (i:=x.toNat) (j:=0) m0 qr rfl)) fun a w hf hc=>sp 1 hf rfl fun a hf=>zT h ?_
     refine bV ?_
     refine sp 3 hf rfl fun a hf=>?_
     obtain ⟨aq,bx,hF⟩:=aA hF
     refine zQ (v:=.bool aq) hf hc aB4 rfl (fun w hc=>cP B ab Z hc bx) fun a w hf hc=>sp 1 hf rfl fun a hf=>?_
     obtain ⟨ap,a2,hF⟩:=aA hF
     refine jX 8 (fun a=>Has 53 a [(0,.slice O w_.length R),(1,.slice H B.length D),(6,pq I),(8,pq J),(9,.pointer none),(10,.slice (some ⟨g,0,none⟩) r.1.length X),(29,.slice (some ⟨g,0,none⟩) r.1.length X),(30,i6 ((r.1.length:Nat):Int)),(31,i6 x),(13,i6 ab),(35,i6 ab),(36,.slice H B.length D),(37,i6 ab),(38,.bool aq),(39,.bool aq),(47,.bool ap)]) hc ?_ ?_
     ·cases hb:aq
      ·rw [hb] at hf
       try rw [hb] at hc
       have hF:=kI hb a2
       refine sp 2 hf rfl fun a hf=>?_
       obtain ⟨b7,bm,hF⟩:=aA hF
       obtain ⟨cr,o,hd,bt,qp,bn⟩:=p.atm bm
       refine zP hf rfl (pIA Tryz.underlying77 aCe rfl rfl bt) fun a hf=>zP hf rfl (pFA uM rfl) fun a hf=>zE hf hc rfl (eP hY rfl (dI (j:=0) qp rfl)) fun a w hf hc=>zP hf rfl (pMF (us:=[pq J]) rfl rfl) fun a hf=>?_
       obtain ⟨b5,b0,hF⟩:=aA hF
       refine zQ (v:=.bool b5) hf hc aAp rfl (fun w hc=>(lG b7.Of m bn (hc.pick k1) b0).mono fun e w h=>⟨h.1,(h.2.unpick k1)⟩) fun a w hf hc=>sp 1 hf rfl fun a hf=>?_
       obtain rfl:=sj hF
       exact aP ⟨hf.kp rfl,hc⟩
      ·rw [hb] at hf
       try rw [hb] at hc
       have hF:=fP hb a2
       obtain rfl:=sj hF
       refine stS hf rfl rfl rfl fun a hf=>stS hf rfl rfl rfl fun a hf=>stS hf rfl rfl rfl fun a hf=>stS hf rfl rfl rfl fun a hf=>stS hf rfl rfl rfl fun a hf=>stS hf rfl rfl rfl fun a hf=>stS hf rfl rfl rfl fun a hf=>sp 1 hf rfl fun a hf=>aP ⟨hf.kp rfl,hc⟩
     intro a w ⟨hf,hc⟩
     obtain ⟨un,au,hF⟩:=aA hF
     refine zP hf rfl (xL Tryz.underlying112 yC rfl rfl (cF au).1 (cF au).2) fun a hf=>aK7 (vs:=[.bool ap]) (o':=0) (z:=ap) hf hc rfl rfl rfl rfl yC rfl (fun x=>(mD x).1) rfl au rfl rfl u1 fun w hc=>aP ?_
     refine cd _ _ ?_
     refine bV ?_
     refine sp 2 hf rfl fun a hf=>aP ?_
     exact bp (W (x + 1),(rT m ab.toNat ap)) _ _ (sj hF).symm ⟨(some ⟨g,0,none⟩),X,hf.kp rfl,hc⟩
    ·refine wp_exit ?_
     refine aY ?_
     refine aY ?_
     have he:=sj hF
     rw [← he] at ai
     refine fJ ?_
     exact br _ _ _ ai ⟨b,X,hf.kp rfl,hc⟩
  refine zS fun K h=>sp 2 hf rfl fun a hf=>zT h ?_
  refine zI hf rfl hF ?_ ?_ <;> clear hF <;> intro hF
  ·refine bV ?_
   refine sp 2 hf rfl fun a hf=>?_
   obtain ⟨a3,bc,hF⟩:=aA hF
   refine zQ (v:=i6 a3) hf hc aPi rfl (fun w hc=>xH w_ B p Z hc bc) fun a w hf hc=>sp 1 hf rfl fun a hf=>aP ?_
   exact a6 a3 _ _  (hf.kp rfl) hc hF
  ·refine wp_skip ?_
   exact a6 r.2 _ _  (hf.kp rfl) hc hF
 | inr U=>
  replace hF:=aC7 hF
  have bi:=hr
  refine zC hf aQf rfl (xG w_ p hc bi) ?_
  rintro _ w ⟨Y,af,ac,rfl,hc⟩
  refine ⟨_,rfl,fun a hf=>?_⟩
  refine sp 7 hf rfl fun a hf=>zT h ?_
  refine wp_seq_k fun K17 b1=>?_
  have av:∀ (q:Int) a w,Has 53 a [(0,.slice O w_.length R),(1,.slice H B.length D),(6,pq I),(8,pq J),(9,pq Y),(10,.slice af U.1.length ac),(11,i6 q)]→Ctx G (.box Y [.slice O w_.length R] 180::.row af ac (U.1.map aB) 3 1::.box J (bR [] 30 cG (fun _=>false) []) 112::.box I (bR [] 30 cG (fun _=>false) []) 112::Lf) w→pY N w_ B U q=some t→K17 a w:=by
   repeat (clear hF)
   repeat (clear hc)
   repeat (clear hf)
   intro q a w hf hc hF
   unfold pY at hF
   refine b1 _ _ ?_
   refine wp_seq_k fun K18 b3=>zS fun K h=>sp 2 hf rfl fun a hf=>zT h ?_
   refine zI hf rfl hF ?_ ?_ <;> clear hF <;> intro hF
   ·refine wp_seq_k fun K20 cf=>eL (fun θ=>[⟨none,none,6,pq I⟩,⟨none,none,8,pq J⟩,⟨none,none,11,i6 q⟩,⟨some 0,none,27,.agg (bR [] 30 cG (fun _=>false) []).toArray⟩,⟨some 1,none,28,i6 q⟩,⟨some 2,none,4,.pointer none⟩,⟨some 3,none,5,.slice none 0 0⟩,⟨some 5,none,7,i6 q⟩]) (fun E θ=>.box Y [.slice O w_.length R] 180::.row af ac (U.1.map aB) 3 1::.box J (bR [] 30 cG (fun _=>false) []) 112::.box I (bR [] 30 cG (fun _=>false) []) 112::Lf) [] (fun a w=>Has 53 a [(6,pq I),(4,.pointer none),(5,.slice none 0 0),(7,i6 q)]∧Ctx G (.box Y [.slice O w_.length R] 180::.row af ac (U.1.map aB) 3 1::.box J (bR [] 30 cG (fun _=>false) []) 112::.box I (bR [] 30 cG (fun _=>false) []) 112::Lf) w) bA (by kernel_rfl) (by kernel_rfl) (fN.of hf ⟨rfl,rfl,rfl,trivial,trivial,trivial,trivial,trivial,trivial⟩) hc ⟨?_,?_,?_,?_,?_,?_,trivial⟩ ?_ ?_
    ·intro E θ a w hD hi hp he hc
     have hf:=he.h0.mT he 1 rfl
     refine zE hf hc rfl (lK (vs:=(bR [] 30 cG (fun _=>false) [])) zF rfl (dE _).1 (dN (n:=30) m2 (tF (dE _).1))) fun a w hf hc=>zD θ he hi hf 3 rfl rfl rfl hc
    ·intro E θ a w hD hi hp he hc
     have hf:=he.h0.mT he 2 rfl
     refine sp 1 hf rfl fun a hf=>zD θ he hi hf 4 rfl rfl rfl hc
    ·intro E θ a w hD hi hp he hc
     have hf:=he.h0
     refine sp 1 hf rfl fun a hf=>zD θ he hi hf 5 rfl rfl rfl hc
    ·intro E θ a w hD hi hp he hc
     have hf:=he.h0
     refine sp 1 hf rfl fun a hf=>zD θ he hi hf 6 rfl rfl rfl hc
    ·intro E θ a w hD hi hp he hc
     have e0:=hp.o 0 rfl
     have hf:=(he.h0.mT he 0 rfl).mP he 3 rfl e0
     refine xI (enc:=sP) (f:=(fun _=>false)) (z:=(fun _=>false)) hf hc rfl rfl rfl dE aCn u3 fun w hc=>zG θ he hi hf rfl hc
    ·intro E θ a w hD hi hp he hc
     have e1:=hp.o 1 rfl
     have hf:=he.h0.mP he 4 rfl e1
     refine sp 1 hf rfl fun a hf=>zD θ he hi hf 7 rfl rfl rfl hc
    ·intro E θ a w M he hc
     have hf:=he.h0
     have e2:=M 2 rfl
     have e3:=M 3 rfl
     have e5:=M 5 rfl
     replace hf:=hf.more he 7 rfl (onP e5)
     replace hf:=hf.more he 6 rfl (onP e3)
     replace hf:=hf.more he 5 rfl (onP e2)
     replace hf:=hf.more he 0 rfl (onT)
     exact ⟨hf.kp rfl,hc⟩
    rintro a w ⟨hf,hc⟩
    refine cf _ _ ?_
    refine wp_ret ?_
    refine aL ?_
    obtain rfl:=sj hF
    replace hc:=hc.nilRow 3 1
    replace hc:=((hc.drop k3).drop k2).drop k1
    exact aG0 (by simp) rfl Tryz.results51 hf hc (show gR _ 4=_ from rfl) (show gR _ 5=_ from rfl) (jH (vs:=(bR [] 30 cG (fun _=>false) [])) zF rfl (dE _).1 (dN (n:=30) m1 (tF (dE _).1))) (show gR _ 7=_ from rfl) ⟨none,0,rfl,(hc.drop k1)⟩
   ·refine wp_skip ?_
    refine b3 _ _ ?_
    refine wp_seq_k fun K21 b4=>zS fun K h=>sp 1 hf rfl fun a hf=>zP hf rfl (bG Tryz.underlying23 rfl) fun a hf=>sp 1 hf rfl fun a hf=>zT h ?_
    refine wp_block ?_
    obtain ⟨ax,a8,hF⟩:=aA hF
    let S23:(Int × (Nat→Bool))→Act→World→Prop:=(fun (zz:Int × (Nat→Bool)) a w=>∃ (d:Option Addr) (V:Nat),Has 53 a [(0,.slice O w_.length R),(1,.slice H B.length D),(6,pq I),(8,pq J),(9,pq Y),(10,.slice d U.1.length V),(29,.slice d U.1.length V),(30,i6 ((U.1.length:Nat):Int)),(31,i6 zz.1)]∧Ctx G (.box Y [.slice O w_.length R] 180::.row d V (U.1.map aB) 3 1::.box J (bR [] 30 cG zz.2 []) 112::.box I (bR [] 30 cG (fun _=>false) []) 112::Lf) w)
    have a9:∀ (zz:Int × (Nat→Bool)) a w,ax=.go zz→S23 zz a w→K21 a w:=by
     rintro ⟨ar,k⟩ a w rfl ⟨d,V,hf,hc⟩
     replace hF:=bK hF
     refine b4 _ _ ?_
     refine wp_seq_k fun K24 cc=>eL (fun θ=>[⟨none,none,6,pq I⟩,⟨none,none,8,pq J⟩,⟨none,none,9,pq Y⟩,⟨none,none,10,.slice d U.1.length V⟩,⟨some 0,none,50,pq Y⟩,⟨some 1,none,51,.slice d U.1.length V⟩,⟨some 2,none,52,.agg (bR [] 30 cG k []).toArray⟩,⟨some 3,none,4,pq Y⟩,⟨some 4,none,5,.slice d U.1.length V⟩,⟨some 6,none,7,i6 0⟩]) (fun E θ=>.box Y [.slice O w_.length R] 180::.row d V (U.1.map aB) 3 1::.box J (bR [] 30 cG k []) 112::(bif E 5 then .box I (bR [] 30 cG k []) 112 else .box I (bR [] 30 cG (fun _=>false) []) 112)::Lf) [] (fun a w=>Has 53 a [(6,pq I),(4,pq Y),(5,.slice d U.1.length V),(7,i6 0)]∧Ctx G (.box Y [.slice O w_.length R] 180::.row d V (U.1.map aB) 3 1::.box J (bR [] 30 cG k []) 112::.box I (bR [] 30 cG k []) 112::Lf) w) bA (by kernel_rfl) (by kernel_rfl) (fN.of hf ⟨rfl,rfl,rfl,rfl,trivial,trivial,trivial,trivial,trivial,trivial,trivial⟩) hc ⟨?_,?_,?_,?_,?_,?_,?_,trivial⟩ ?_ ?_
     ·intro E θ a w hD hi hp he hc
      have hf:=he.h0.mT he 2 rfl
      refine sp 1 hf rfl fun a hf=>zD θ he hi hf 4 rfl rfl rfl hc
     ·intro E θ a w hD hi hp he hc
      have hf:=he.h0.mT he 3 rfl
      refine sp 1 hf rfl fun a hf=>zD θ he hi hf 5 rfl rfl rfl hc
     ·intro E θ a w hD hi hp he hc
      have hf:=he.h0.mT he 1 rfl
      refine zE hf hc rfl (lK (vs:=(bR [] 30 cG k [])) zF rfl (dE _).1 (dN (n:=30) m2 (tF (dE _).1))) fun a w hf hc=>zD θ he hi hf 6 rfl rfl rfl hc
     ·intro E θ a w hD hi hp he hc
      have e0:=hp.o 0 rfl
      have hf:=he.h0.mP he 4 rfl e0
      refine sp 1 hf rfl fun a hf=>zD θ he hi hf 7 rfl rfl rfl hc
     ·intro E θ a w hD hi hp he hc
      have e1:=hp.o 1 rfl
      have hf:=he.h0.mP he 5 rfl e1
      refine sp 1 hf rfl fun a hf=>zD θ he hi hf 8 rfl rfl rfl hc
     ·intro E θ a w hD hi hp he hc
      have e2:=hp.o 2 rfl
      try dsimp only at hc
      rw [hi] at hc
      have hf:=(he.h0.mT he 0 rfl).mP he 6 rfl e2
      refine xI (enc:=sP) (f:=(fun _=>false)) (z:=k) hf hc rfl rfl rfl dE aCn u3 fun w hc=>zG θ he hi hf rfl ?_
      try dsimp only
      rw [aS E 5]
      exact hc
     ·intro E θ a w hD hi hp he hc
      have hf:=he.h0
      refine sp 1 hf rfl fun a hf=>zD θ he hi hf 9 rfl rfl rfl hc
     ·intro E θ a w M he hc
      have hf:=he.h0
      have e3:=M 3 rfl
      have e4:=M 4 rfl
      have e5:=M 5 rfl
      have e6:=M 6 rfl
      replace hf:=hf.more he 9 rfl (onP e6)
      replace hf:=hf.more he 8 rfl (onP e4)
      replace hf:=hf.more he 7 rfl (onP e3)
      replace hf:=hf.more he 0 rfl (onT)
      try dsimp only at hc
      rw [e5] at hc
      exact ⟨hf.kp rfl,hc⟩
     rintro a w ⟨hf,hc⟩
     refine cc _ _ ?_
     refine wp_ret ?_
     obtain rfl:=sj hF
     replace hc:=hc.drop k2
     exact aG0 (by simp) rfl Tryz.results51 hf hc (show gR _ 4=_ from rfl) (show gR _ 5=_ from rfl) (jH (vs:=(bR [] 30 cG k [])) zF rfl (dE _).1 (dN (n:=30) m2 (tF (dE _).1))) (show gR _ 7=_ from rfl) ⟨Y,d,V,rfl,(hc.drop k2)⟩
    have cn:∀ r,ax=.out r→r=t:=by
     rintro r rfl
     exact sj hF
    refine cZ N (cW (S:=S23) (x:=ax) ?_ N (0,(fun _=>false)) _ _ ⟨af,ac,hf.kp rfl,hc⟩ a8)
    clear hF hf hc
    rintro ⟨ar,k⟩ ck a w KB23 ⟨d,V,hf,hc⟩ hF aa bk
    unfold xF at hF
    refine zS fun K h=>sp 1 hf rfl fun a hf=>zT h ?_
    refine wp_seq_k fun K26 ca=>zI hf rfl hF ?_ ?_ <;> clear hF <;> intro hF
    ·refine wp_skip ?_
     refine ca _ _ ?_
     refine wp_seq_k fun K27 cb=>wp_block ?_
     refine zS fun K h=>?_
     obtain ⟨ak,bf,hF⟩:=aA hF
     have az:=hf
     obtain ⟨ay,rfl,bg,bb⟩:=hP hc m1 bf
     have hf:=az
     refine zP hf rfl (pIA Tryz.underlying23 fO rfl rfl bg) fun a hf=>zE hf hc rfl (eP cR rfl (fZ (sz:=1) (i:=ar.toNat) (j:=0) m1 bb rfl)) fun a w hf hc=>sp 1 hf rfl fun a hf=>zT h ?_
     refine bV ?_
     refine sp 3 hf rfl fun a hf=>?_
     obtain ⟨am,bd,hF⟩:=aA hF
     refine zQ (v:=.bool am) hf hc aB4 rfl (fun w hc=>cP B ak Z hc bd) fun a w hf hc=>sp 1 hf rfl fun a hf=>?_
     obtain ⟨an,a0,hF⟩:=aA hF
     refine jX 8 (fun a=>Has 53 a [(0,.slice O w_.length R),(1,.slice H B.length D),(6,pq I),(8,pq J),(9,pq Y),(10,.slice (some ⟨ay,0,none⟩) U.1.length V),(29,.slice (some ⟨ay,0,none⟩) U.1.length V),(30,i6 ((U.1.length:Nat):Int)),(31,i6 ar),(13,i6 ak),(35,i6 ak),(36,.slice H B.length D),(37,i6 ak),(38,.bool am),(39,.bool am),(47,.bool an)]) hc ?_ ?_
     ·cases hb:am
      ·rw [hb] at hf
       try rw [hb] at hc
       have hF:=kI hb a0
       refine sp 2 hf rfl fun a hf=>?_
       obtain ⟨b9,bv,hF⟩:=aA hF
       obtain ⟨cp,cq,cj,a7,bj,bu⟩:=p.atm bv
       refine zP hf rfl (pIA Tryz.underlying77 aCe rfl rfl a7) fun a hf=>zP hf rfl (pFA uM rfl) fun a hf=>zE hf hc rfl (eP hY rfl (dI (j:=0) bj rfl)) fun a w hf hc=>zP hf rfl (pMF (us:=[pq J]) rfl rfl) fun a hf=>?_
       obtain ⟨b8,bs,hF⟩:=aA hF
       refine zQ (v:=.bool b8) hf hc aAp rfl (fun w hc=>(lG b9.Of k bu (hc.pick k2) bs).mono fun e w h=>⟨h.1,(h.2.unpick k2)⟩) fun a w hf hc=>sp 1 hf rfl fun a hf=>?_
       obtain rfl:=sj hF
       exact aP ⟨hf.kp rfl,hc⟩
      ·rw [hb] at hf
       try rw [hb] at hc
       have hF:=fP hb a0
       obtain rfl:=sj hF
       refine stS hf rfl rfl rfl fun a hf=>stS hf rfl rfl rfl fun a hf=>stS hf rfl rfl rfl fun a hf=>stS hf rfl rfl rfl fun a hf=>stS hf rfl rfl rfl fun a hf=>stS hf rfl rfl rfl fun a hf=>stS hf rfl rfl rfl fun a hf=>sp 1 hf rfl fun a hf=>aP ⟨hf.kp rfl,hc⟩
     intro a w ⟨hf,hc⟩
     obtain ⟨ci,u,hF⟩:=aA hF
     refine zP hf rfl (xL Tryz.underlying112 yC rfl rfl (cF u).1 (cF u).2) fun a hf=>aK7 (vs:=[.bool an]) (o':=0) (z:=an) hf hc rfl rfl rfl rfl yC rfl (fun x=>(mD x).1) rfl u rfl rfl u2 fun w hc=>aP ?_
     refine cb _ _ ?_
     refine bV ?_
     refine sp 2 hf rfl fun a hf=>aP ?_
     exact bk (W (ar + 1),(rT k ak.toNat an)) _ _ (sj hF).symm ⟨(some ⟨ay,0,none⟩),V,hf.kp rfl,hc⟩
    ·refine wp_exit ?_
     refine aY ?_
     refine aY ?_
     have he:=sj hF
     rw [← he] at aa
     refine fJ ?_
     exact a9 _ _ _ aa ⟨d,V,hf.kp rfl,hc⟩
  refine zS fun K h=>sp 2 hf rfl fun a hf=>zT h ?_
  refine zI hf rfl hF ?_ ?_ <;> clear hF <;> intro hF
  ·refine bV ?_
   refine sp 2 hf rfl fun a hf=>?_
   obtain ⟨a5,ba,hF⟩:=aA hF
   refine zQ (v:=i6 a5) hf hc aPi rfl (fun w hc=>xH w_ B p Z hc ba) fun a w hf hc=>sp 1 hf rfl fun a hf=>aP ?_
   exact av a5 _ _  (hf.kp rfl) hc hF
  ·refine wp_skip ?_
   exact av U.2 _ _  (hf.kp rfl) hc hF

def qC (N:Nat) (x:Int) (B:List Int):Option (bY ((List Int) × Int) ((List Int) × Int)) :=
 some (.cont (B,W (x + 1)))
def yZ (N:Nat) (w_:List aM) (r:(List Int) × (Nat→Bool) × Int) (out:List Int) (x:Int):Option (bY ((List Int) × Int) ((List Int) × Int)) :=
 cond (decide (x < ((w_.length:Nat):Int)))
 (Option.bind (cond (r.2.2 == 0) (Option.bind (inR x 30) fun un=>
 some (r.2.1 x.toNat)) (some false)) fun B=>
 cond B
 (Option.bind (room ((out++[x])).length) fun D=>
 qC N x (out++[x]))
 (qC N x out))
 (some (.brk (out,x)))
def pW (N:Nat) (D:Int) (B:List Int):Option (bY ((List Int) × Int) ((List Int) × Int)) :=
 some (.cont (B,W (D + 1)))
def xA (N:Nat) (w_:List aM) (H:(List Int) × (Nat→Bool) × Int) (D:List Int) (B:Int):Option (bY ((List Int) × Int) ((List Int) × Int)) :=
 cond (decide (B < ((w_.length:Nat):Int)))
 (Option.bind (cond (H.2.2 == 0) (Option.bind (inR B 30) fun J=>
 some (H.2.1 B.toNat)) (some false)) fun I=>
 cond I
 (Option.bind (room ((D++[B])).length) fun M=>
 pW N B (D++[B]))
 (pW N B D))
 (some (.brk (D,B)))
def yE (N:Nat) (w_:List aM) (D:List Int):Option ((List Int) × Int) :=
 Option.bind (yB N w_ D) (aAg (fun r=>Option.bind (aX (fun s6=>yZ N w_ r s6.1 s6.2) N (([]:List Int),0)) fun x6=>
 exK x6 (fun s6=>some (s6.1,r.2.2)) some)
 (fun H=>Option.bind (aX (fun B=>xA N w_ H B.1 B.2) N (([]:List Int),0)) fun I=>
 exK I (fun B=>some (B.1,H.2.2)) some))
theorem aE1 {N:Nat} {G:aT} {Lf:List Ent} {w:World} (w_:List aM) (B:List Int) {y:Option Addr} {ab:Nat} {Y:Option Addr} {V:Nat} (u:RdT jV G 3 y ab w_) (Z:Rd G 1 Y V (B.map aB)) (hc:Ctx G (Lf) w) {b:(List Int) × Int} (hF:yE N w_ B=some b):Calls Tryz.prog 25 #[.slice y w_.length ab,.slice Y B.length V] w (fun e w=>∃ (aj:Option Addr) (ai:Nat),e=.returned (.tuple #[.slice aj b.1.length ai,i6 b.2])∧Ctx G (.row aj ai (b.1.map aB) 3 1::Lf) w):=by
 unfold yE at hF
 refine bL Tryz.func25 rfl Tryz.ntmps25 rfl fun a hf=>zS fun K h=>sp 2 hf rfl fun a hf=>zT h ?_
 refine zS fun K h=>sp 2 hf rfl fun a hf=>?_
 obtain ⟨r,hr,hF⟩:=aA hF
 cases r with
 | inl r=>
  replace hF:=aC4 hF
  refine zC hf aP9 rfl (yW w_ B u Z hc hr) ?_
  rintro _ w ⟨bj,bi,rfl,hc⟩
  refine ⟨_,rfl,fun a hf=>?_⟩
  refine sp 5 hf rfl fun a hf=>aFg (cs:=(bR [] 30 cG (fun _=>false) [])) hf hc rfl rfl aG5 rfl fun g a w hf hc=>sp 2 hf rfl fun a hf=>xI (enc:=sP) (f:=(fun _=>false)) (z:=r.2.1) hf hc rfl rfl rfl dE aCn u0 fun w hc=>sp 1 hf rfl fun a hf=>zT h ?_
  refine zS fun K h=>sp 1 hf rfl fun a hf=>zT h ?_
  refine wp_seq_k fun K4 h4=>zS fun K h=>sp 1 hf rfl fun a hf=>zP hf rfl (bG Tryz.underlying77 rfl) fun a hf=>sp 1 hf rfl fun a hf=>zT h ?_
  refine wp_block ?_
  obtain ⟨x6,au,hF⟩:=aA hF
  let S6:((List Int) × Int)→Act→World→Prop:=(fun (zz:(List Int) × Int) a w=>∃ (R:Option Addr) (U:Nat),Has 39 a [(8,pq g),(9,i6 r.2.2),(10,.slice R zz.1.length U),(21,i6 ((w_.length:Nat):Int)),(22,i6 zz.2)]∧Ctx G (.row R U (zz.1.map aB) 3 1::.box g (bR [] 30 cG r.2.1 []) 112::Lf) w)
  have a1:∀ (zz:(List Int) × Int) a w,x6=.go zz→S6 zz a w→K4 a w:=by
   rintro ⟨out,x⟩ a w rfl ⟨R,U,hf,hc⟩
   replace hF:=bK hF
   refine h4 _ _ ?_
   refine zS fun K h=>sp 4 hf rfl fun a hf=>zT h ?_
   refine wp_ret ?_
   obtain rfl:=sj hF
   replace hc:=hc.drop k1
   exact zO2 Tryz.results25 hf rfl rfl ⟨R,U,rfl,hc⟩
  have bd:∀ r,x6=.out r→r=b:=by
   rintro r rfl
   exact sj hF
  replace hc:=hc.nilRow 3 1
  replace hc:=hc.drop k2
  refine cZ N (cW (S:=S6) (x:=x6) ?_ N (([]:List Int),0) _ _ ⟨none,0,hf.kp rfl,hc⟩ au)
  clear hF hf hc
  rintro ⟨out,x⟩ a2 a w KB6 ⟨R,U,hf,hc⟩ hF n az
  unfold yZ at hF
  refine zS fun K h=>sp 1 hf rfl fun a hf=>zT h ?_
  refine wp_seq_k fun K9 h9=>zI hf rfl hF ?_ ?_ <;> clear hF <;> intro hF
  ·refine wp_skip ?_
   refine h9 _ _ ?_
   refine wp_seq_k fun K10 a3=>?_
   have aa:∀ (M:List Int) (q:Option Addr) (p:Nat) a w,Has 39 a [(8,pq g),(9,i6 r.2.2),(10,.slice q M.length p),(21,i6 ((w_.length:Nat):Int)),(22,i6 x)]→Ctx G (.row q p (M.map aB) 3 1::.box g (bR [] 30 cG r.2.1 []) 112::Lf) w→qC N x M=some a2→K10 a w:=by
    repeat (clear hF)
    repeat (clear hc)
    repeat (clear hf)
    intro M q p a w hf hc hF
    unfold qC at hF
    refine a3 _ _ ?_
    refine bV ?_
    refine sp 2 hf rfl fun a hf=>aP ?_
    exact az (M,W (x + 1)) _ _ (sj hF).symm ⟨q,p,hf.kp rfl,hc⟩
   refine wp_block ?_
   refine zS fun K h=>sp 2 hf rfl fun a hf=>zT h ?_
   refine zS fun K h=>sp 3 hf rfl fun a hf=>?_
   obtain ⟨a0,v,hF⟩:=aA hF
   refine jX 4 (fun a=>Has 39 a [(8,pq g),(9,i6 r.2.2),(10,.slice R out.length U),(21,i6 ((w_.length:Nat):Int)),(22,i6 x),(11,i6 x),(25,i6 r.2.2),(26,.bool (r.2.2 == 0)),(27,.bool (r.2.2 == 0)),(31,.bool a0)]) hc ?_ ?_
   ·cases hb:(r.2.2 == 0)
    ·rw [hb] at hf
     have hF:=kI hb v
     obtain rfl:=sj hF
     refine stS hf rfl rfl rfl fun a hf=>stS hf rfl rfl rfl fun a hf=>stS hf rfl rfl rfl fun a hf=>sp 1 hf rfl fun a hf=>aP ⟨hf.kp rfl,hc⟩
    ·rw [hb] at hf
     have hF:=fP hb v
     refine sp 1 hf rfl fun a hf=>?_
     obtain ⟨un,s,hF⟩:=aA hF
     refine zP hf rfl (xL Tryz.underlying112 yC rfl rfl (cF s).1 (cF s).2) fun a hf=>zE hf hc rfl (eP aJi rfl (yF (j:=0) m1 (fun x=>(mD x).1) rfl s rfl)) fun a w hf hc=>sp 1 hf rfl fun a hf=>?_
     obtain rfl:=sj hF
     exact aP ⟨hf.kp rfl,hc⟩
   intro a w ⟨hf,hc⟩
   refine zT h ?_
   refine zI hf rfl hF ?_ ?_ <;> clear hF <;> intro hF
   ·refine bV ?_
    refine sp 2 hf rfl fun a hf=>oB (rows:=([x]:List Int).map aB) (vs:=[(0,i6 x)]) hf hc rfl rfl jA rfl ⟨rfl,rfl,rfl,trivial⟩ rfl rfl fun bf a w hf hc=>?_
    obtain ⟨bb,af,hF⟩:=aA hF
    refine pC (xs:=out) (ys:=([x]:List Int)) hf hc rfl rfl jA rfl rfl rfl rfl rfl bZ (kC hc m0) (fun _ _=>u1) (by simpa using fD af) fun ar ax a w hf hc=>sp 1 hf rfl fun a hf=>aP ?_
    replace hc:=hc.drop k0
    exact aa (out++[x]) ar ax _ _  (hf.kp rfl) hc hF
   ·refine wp_skip ?_
    exact aa out R U _ _  (hf.kp rfl) hc hF
  ·refine wp_exit ?_
   refine aY ?_
   refine aY ?_
   have he:=sj hF
   rw [← he] at n
   refine fJ ?_
   exact a1 _ _ _ n ⟨R,U,hf.kp rfl,hc⟩
 | inr H=>
  replace hF:=aC7 hF
  have an:=hr
  refine zC hf aP9 rfl (yW w_ B u Z hc an) ?_
  rintro _ w ⟨bg,bc,bm,rfl,hc⟩
  refine ⟨_,rfl,fun a hf=>?_⟩
  refine sp 5 hf rfl fun a hf=>aFg (cs:=(bR [] 30 cG (fun _=>false) [])) hf hc rfl rfl aG5 rfl fun i a w hf hc=>sp 2 hf rfl fun a hf=>xI (enc:=sP) (f:=(fun _=>false)) (z:=H.2.1) hf hc rfl rfl rfl dE aCn u0 fun w hc=>sp 1 hf rfl fun a hf=>zT h ?_
  refine zS fun K h=>sp 1 hf rfl fun a hf=>zT h ?_
  refine wp_seq_k fun K14 a4=>zS fun K h=>sp 1 hf rfl fun a hf=>zP hf rfl (bG Tryz.underlying77 rfl) fun a hf=>sp 1 hf rfl fun a hf=>zT h ?_
  refine wp_block ?_
  obtain ⟨ad,ak,hF⟩:=aA hF
  let S16:((List Int) × Int)→Act→World→Prop:=(fun (zz:(List Int) × Int) a w=>∃ (X:Option Addr) (O:Nat),Has 39 a [(8,pq i),(9,i6 H.2.2),(10,.slice X zz.1.length O),(21,i6 ((w_.length:Nat):Int)),(22,i6 zz.2)]∧Ctx G (.row X O (zz.1.map aB) 3 1::.box i (bR [] 30 cG H.2.1 []) 112::Lf) w)
  have am:∀ (zz:(List Int) × Int) a w,ad=.go zz→S16 zz a w→K14 a w:=by
   rintro ⟨J,D⟩ a w rfl ⟨X,O,hf,hc⟩
   replace hF:=bK hF
   refine a4 _ _ ?_
   refine zS fun K h=>sp 4 hf rfl fun a hf=>zT h ?_
   refine wp_ret ?_
   obtain rfl:=sj hF
   replace hc:=hc.drop k1
   exact zO2 Tryz.results25 hf rfl rfl ⟨X,O,rfl,hc⟩
  have a8:∀ r,ad=.out r→r=b:=by
   rintro r rfl
   exact sj hF
  replace hc:=hc.nilRow 3 1
  replace hc:=(hc.drop k3).drop k2
  refine cZ N (cW (S:=S16) (x:=ad) ?_ N (([]:List Int),0) _ _ ⟨none,0,hf.kp rfl,hc⟩ ak)
  clear hF hf hc
  rintro ⟨J,D⟩ ap a w KB16 ⟨X,O,hf,hc⟩ hF k aq
  unfold xA at hF
  refine zS fun K h=>sp 1 hf rfl fun a hf=>zT h ?_
  refine wp_seq_k fun K19 a7=>zI hf rfl hF ?_ ?_ <;> clear hF <;> intro hF
  ·refine wp_skip ?_
   refine a7 _ _ ?_
   refine wp_seq_k fun K20 a6=>?_
   have ac:∀ (I:List Int) (o:Option Addr) (m:Nat) a w,Has 39 a [(8,pq i),(9,i6 H.2.2),(10,.slice o I.length m),(21,i6 ((w_.length:Nat):Int)),(22,i6 D)]→Ctx G (.row o m (I.map aB) 3 1::.box i (bR [] 30 cG H.2.1 []) 112::Lf) w→pW N D I=some ap→K20 a w:=by
    repeat (clear hF)
    repeat (clear hc)
    repeat (clear hf)
    intro I o m a w hf hc hF
    unfold pW at hF
    refine a6 _ _ ?_
    refine bV ?_
    refine sp 2 hf rfl fun a hf=>aP ?_
    exact aq (I,W (D + 1)) _ _ (sj hF).symm ⟨o,m,hf.kp rfl,hc⟩
   refine wp_block ?_
   refine zS fun K h=>sp 2 hf rfl fun a hf=>zT h ?_
   refine zS fun K h=>sp 3 hf rfl fun a hf=>?_
   obtain ⟨a5,t,hF⟩:=aA hF
   refine jX 4 (fun a=>Has 39 a [(8,pq i),(9,i6 H.2.2),(10,.slice X J.length O),(21,i6 ((w_.length:Nat):Int)),(22,i6 D),(11,i6 D),(25,i6 H.2.2),(26,.bool (H.2.2 == 0)),(27,.bool (H.2.2 == 0)),(31,.bool a5)]) hc ?_ ?_
   ·cases hb:(H.2.2 == 0)
    ·rw [hb] at hf
     have hF:=kI hb t
     obtain rfl:=sj hF
     refine stS hf rfl rfl rfl fun a hf=>stS hf rfl rfl rfl fun a hf=>stS hf rfl rfl rfl fun a hf=>sp 1 hf rfl fun a hf=>aP ⟨hf.kp rfl,hc⟩
    ·rw [hb] at hf
     have hF:=fP hb t
     refine sp 1 hf rfl fun a hf=>?_
     obtain ⟨ba,d,hF⟩:=aA hF
     refine zP hf rfl (xL Tryz.underlying112 yC rfl rfl (cF d).1 (cF d).2) fun a hf=>zE hf hc rfl (eP aJi rfl (yF (j:=0) m1 (fun x=>(mD x).1) rfl d rfl)) fun a w hf hc=>sp 1 hf rfl fun a hf=>?_
     obtain rfl:=sj hF
     exact aP ⟨hf.kp rfl,hc⟩
   intro a w ⟨hf,hc⟩
   refine zT h ?_
   refine zI hf rfl hF ?_ ?_ <;> clear hF <;> intro hF
   ·refine bV ?_
    refine sp 2 hf rfl fun a hf=>oB (rows:=([D]:List Int).map aB) (vs:=[(0,i6 D)]) hf hc rfl rfl jA rfl ⟨rfl,rfl,rfl,trivial⟩ rfl rfl fun bk a w hf hc=>?_
    obtain ⟨a9,ag,hF⟩:=aA hF
    refine pC (xs:=J) (ys:=([D]:List Int)) hf hc rfl rfl jA rfl rfl rfl rfl rfl bZ (kC hc m0) (fun _ _=>u1) (by simpa using fD ag) fun ay av a w hf hc=>sp 1 hf rfl fun a hf=>aP ?_
    replace hc:=hc.drop k0
    exact ac (J++[D]) ay av _ _  (hf.kp rfl) hc hF
   ·refine wp_skip ?_
    exact ac J X O _ _  (hf.kp rfl) hc hF
  ·refine wp_exit ?_
   refine aY ?_
   refine aY ?_
   have he:=sj hF
   rw [← he] at k
   refine fJ ?_
   exact am _ _ _ k ⟨X,O,hf.kp rfl,hc⟩

def aCm (N:Nat)  : Option (aE) :=
 some (⟨([([0,1]:List Int),([0,1]:List Int)]:List (List Int)),([(⟨1,([1,0]:List Int)⟩:aJ),(⟨1,([0,1]:List Int)⟩:aJ)]:List aJ)⟩:aE)
theorem aG1 {N:Nat} {G:aT} {Lf:List Ent} {w:World}    (hc:Ctx G (Lf) w) {I:aE} (hF:aCm N=some I):Calls Tryz.prog 27 #[] w (fun e w=>∃ (Y:Option Addr) (D:aCq) (X:Option Addr) (B:aCq),e=.returned (.agg #[.slice Y I.People.length D.1,.slice X I.Stations.length B.1])∧Ctx G (.row Y D.1 ((aU D.2 I.People).map (Kd.v cL)) 23 1::cK cL (aU D.2 I.People)::.row X B.1 ((aU B.2 I.Stations).map (Kd.v dP)) 46 2::cK dP (aU B.2 I.Stations)::Lf) w):=by
 unfold aCm at hF
 refine bL Tryz.func27 rfl Tryz.ntmps27 rfl fun a hf=>zS fun K h=>zA hf hc aP7 rfl fun Z a w hf hc=>zT h ?_
 refine wp_seq_k fun K2 h2=>bV ?_
 refine oB (rows:=([0,1]:List Int).map aB) (vs:=[(0,i6 0),(1,i6 1)]) hf hc rfl rfl jA rfl ⟨rfl,rfl,rfl,rfl,rfl,rfl,trivial⟩ rfl rfl fun O a w hf hc=>oB (rows:=([0,1]:List Int).map aB) (vs:=[(0,i6 0),(1,i6 1)]) hf hc rfl rfl jA rfl ⟨rfl,rfl,rfl,rfl,rfl,rfl,trivial⟩ rfl rfl fun S a w hf hc=>oB (rows:=([(((some ⟨O,0,none⟩),2),([0,1]:List Int)),(((some ⟨S,0,none⟩),2),([0,1]:List Int))]:List (H2 × (List Int))).map (Kd.v cL)) (vs:=[(0,.slice (some ⟨O,0,none⟩) 2 2),(1,.slice (some ⟨S,0,none⟩) 2 2)]) hf hc rfl rfl aMr rfl ⟨rfl,rfl,rfl,rfl,rfl,rfl,trivial⟩ rfl rfl fun J a w hf hc=>oB (rows:=([1,0]:List Int).map aB) (vs:=[(0,i6 1),(1,i6 0)]) hf hc rfl rfl jA rfl ⟨rfl,rfl,rfl,rfl,rfl,rfl,trivial⟩ rfl rfl fun U a w hf hc=>zP hf rfl (iF (cells:=[i6 1,.slice (some ⟨U,0,none⟩) 2 2]) aL6 rfl rfl) fun a hf=>oB (rows:=([0,1]:List Int).map aB) (vs:=[(0,i6 0),(1,i6 1)]) hf hc rfl rfl jA rfl ⟨rfl,rfl,rfl,rfl,rfl,rfl,trivial⟩ rfl rfl fun V a w hf hc=>zP hf rfl (iF (cells:=[i6 1,.slice (some ⟨V,0,none⟩) 2 2]) aL6 rfl rfl) fun a hf=>oB (rows:=([(((some ⟨U,0,none⟩),2),(⟨1,([1,0]:List Int)⟩:aJ)),(((some ⟨V,0,none⟩),2),(⟨1,([0,1]:List Int)⟩:aJ))]:List (H2 × aJ)).map (Kd.v dP)) (vs:=[(0,.agg #[i6 1,.slice (some ⟨U,0,none⟩) 2 2]),(1,.agg #[i6 1,.slice (some ⟨V,0,none⟩) 2 2])]) hf hc rfl rfl aN5 rfl ⟨rfl,rfl,rfl,rfl,rfl,rfl,trivial⟩ rfl rfl fun H a w hf hc=>zP hf rfl (iF (cells:=[.slice (some ⟨J,0,none⟩) 2 2,.slice (some ⟨H,0,none⟩) 2 2]) bt_43 rfl rfl) fun a hf=>zW hf hc sz_43 u6 rfl fun w hc=>aP ?_
 replace hc:=((hc.pick k1).pick k2).pick k2
 obtain ⟨R,hc⟩:=aJd (K:=dP) ([(((some ⟨U,0,none⟩),2),(⟨1,([1,0]:List Int)⟩:aJ)),(((some ⟨V,0,none⟩),2),(⟨1,([0,1]:List Int)⟩:aJ))]:List (H2 × aJ)) hc
 replace hc:Ctx G (.row (some ⟨H,0,none⟩) 2 ((aU R ([(⟨1,([1,0]:List Int)⟩:aJ),(⟨1,([0,1]:List Int)⟩:aJ)]:List aJ)).map (Kd.v dP)) 46 2::cK dP (aU R ([(⟨1,([1,0]:List Int)⟩:aJ),(⟨1,([0,1]:List Int)⟩:aJ)]:List aJ))::.row (some ⟨J,0,none⟩) 2 (([(((some ⟨O,0,none⟩),2),([0,1]:List Int)),(((some ⟨S,0,none⟩),2),([0,1]:List Int))]:List (H2 × (List Int))).map (Kd.v cL)) 23 1::.row (some ⟨S,0,none⟩) 2 (([0,1]:List Int).map aB) 3 1::.row (some ⟨O,0,none⟩) 2 (([0,1]:List Int).map aB) 3 1::.box Z [.slice (some ⟨J,0,none⟩) 2 2,.slice (some ⟨H,0,none⟩) 2 2] 43::Lf) w:=hc
 replace hc:=((((hc.pick k1).pick k1).pick k3).pick k4).pick k4
 obtain ⟨M,hc⟩:=aJd (K:=cL) ([(((some ⟨O,0,none⟩),2),([0,1]:List Int)),(((some ⟨S,0,none⟩),2),([0,1]:List Int))]:List (H2 × (List Int))) hc
 replace hc:Ctx G (.row (some ⟨J,0,none⟩) 2 ((aU M ([([0,1]:List Int),([0,1]:List Int)]:List (List Int))).map (Kd.v cL)) 23 1::cK cL (aU M ([([0,1]:List Int),([0,1]:List Int)]:List (List Int)))::.row (some ⟨H,0,none⟩) 2 ((aU R ([(⟨1,([1,0]:List Int)⟩:aJ),(⟨1,([0,1]:List Int)⟩:aJ)]:List aJ)).map (Kd.v dP)) 46 2::cK dP (aU R ([(⟨1,([1,0]:List Int)⟩:aJ),(⟨1,([0,1]:List Int)⟩:aJ)]:List aJ))::.box Z [.slice (some ⟨J,0,none⟩) 2 2,.slice (some ⟨H,0,none⟩) 2 2] 43::Lf) w:=hc
 refine h2 _ _ ?_
 refine wp_ret ?_
 obtain rfl:=sj hF
 exact aCi (by simp) rfl Tryz.results27 hf hc (jH (vs:=[.slice (some ⟨J,0,none⟩) 2 2,.slice (some ⟨H,0,none⟩) 2 2]) aFl rfl rfl (dN (n:=2) m4 rfl)) ⟨(some ⟨J,0,none⟩),(2,M),(some ⟨H,0,none⟩),(2,R),rfl,(hc.drop k4)⟩

def jC (n:Int) (D:Int) (B:Int):Bool :=
 ((decide (D≤n)) && (decide (n≤B)))
theorem uK {G:aT} {Lf:List Ent} {w:World} (n:Int) (B:Int) (D:Int)   (hc:Ctx G (Lf) w) {H:Bool} (hF:jC n B D=H):Calls Tryz.prog 86 #[i6 n,i6 B,i6 D] w (fun e w=>e=.returned (.bool H)∧Ctx G (Lf) w):=by
 unfold jC at hF
 refine bL Tryz.func86 rfl Tryz.ntmps86 rfl fun a hf=>zS fun K h=>sp 1 hf rfl fun a hf=>zT h ?_
 refine zS fun K h=>sp 4 hf rfl fun a hf=>jX 4 (fun a=>Has 15 a [(0,i6 n),(1,i6 B),(2,i6 D),(6,.bool false),(7,i6 n),(8,i6 B),(9,.bool (decide (B≤n))),(10,.bool (decide (B≤n))),(14,.bool ((decide (B≤n)) && (decide (n≤D))))]) hc ?_ ?_
 ·cases hb:(decide (B≤n))
  ·rw [hb] at hf
   refine stS hf rfl rfl rfl fun a hf=>stS hf rfl rfl rfl fun a hf=>stS hf rfl rfl rfl fun a hf=>sp 1 hf rfl fun a hf=>aP ⟨hf.kp rfl,hc⟩
  ·rw [hb] at hf
   refine sp 4 hf rfl fun a hf=>aP ⟨hf.kp rfl,hc⟩
 intro a w ⟨hf,hc⟩
 refine sp 1 hf rfl fun a hf=>zT h ?_
 refine wp_ret ?_
 obtain rfl:=hF
 exact zO1 Tryz.results86 hf rfl ⟨rfl,hc⟩

def oW (s_:Int) (x:aE):Bool :=
 (jC s_ 0 (W (((x.Stations.length:Nat):Int) - 1)))
theorem aB6 {G:aT} {Lf:List Ent} {w:World} (s_:Int) (x:aE) {b_:Nat} {I:Option Addr} {H:Nat} {B:Option Addr} {D:Nat} (M:RdT cL G 1 I H x.People) (J:RdT dP G 2 B D x.Stations) (hc:Ctx G (.box b_ [.slice I x.People.length H,.slice B x.Stations.length D] 43::Lf) w) {O:Bool} (hF:oW s_ x=O):Calls Tryz.prog 90 #[i6 s_,pq b_] w (fun e w=>e=.returned (.bool O)∧Ctx G (.box b_ [.slice I x.People.length H,.slice B x.Stations.length D] 43::Lf) w):=by
 unfold oW at hF
 refine bL Tryz.func90 rfl Tryz.ntmps90 rfl fun a hf=>zS fun K h=>sp 1 hf rfl fun a hf=>zT h ?_
 refine zS fun K h=>sp 1 hf rfl fun a hf=>zP hf rfl (pFA tK rfl) fun a hf=>zL hf hc aDb m0 rfl fun a w hf hc=>zP hf rfl (bG Tryz.underlying41 rfl) fun a hf=>sp 1 hf rfl fun a hf=>zQ (v:=.bool (jC s_ 0 (W (((x.Stations.length:Nat):Int) - 1)))) hf hc aHx rfl (fun w hc=>uK s_ 0 (W (((x.Stations.length:Nat):Int) - 1)) hc rfl) fun a w hf hc=>sp 1 hf rfl fun a hf=>zT h ?_
 refine wp_ret ?_
 obtain rfl:=hF
 exact zO1 Tryz.results90 hf rfl ⟨rfl,hc⟩

def lC (x:Int) (B:aE):Bool :=
 (!(oW x B))
theorem aAa {G:aT} {Lf:List Ent} {w:World} (x:Int) (J:aE) {b_:Nat} {R:Nat} {H:Option Addr} {I:Nat} {B:Option Addr} {D:Nat} (O:RdT cL G 1 H I J.People) (M:RdT dP G 2 B D J.Stations) (hc:Ctx G (.box b_ [.func (.func 90) #[] #[pq R]] 56::.box R [.slice H J.People.length I,.slice B J.Stations.length D] 43::Lf) w) {S:Bool} (hF:lC x J=S):Calls Tryz.prog 125 #[i6 x,pq b_] w (fun e w=>e=.returned (.bool S)∧Ctx G (.box b_ [.func (.func 90) #[] #[pq R]] 56::.box R [.slice H J.People.length I,.slice B J.Stations.length D] 43::Lf) w):=by
 unfold lC at hF
 refine bL Tryz.func125 rfl Tryz.ntmps125 rfl fun a hf=>zS fun K h=>sp 1 hf rfl fun a hf=>zT h ?_
 refine zS fun K h=>zL hf hc aEm m0 rfl fun a w hf hc=>sp 1 hf rfl fun a hf=>zQ (v:=.bool (oW x J)) hf hc en_90 rfl (fun w hc=>(aB6 x J O M (hc.pick k1) rfl).mono fun e w h=>⟨h.1,(h.2.unpick k1)⟩) fun a w hf hc=>sp 2 hf rfl fun a hf=>zT h ?_
 refine wp_ret ?_
 obtain rfl:=hF
 exact zO1 Tryz.results125 hf rfl ⟨rfl,hc⟩

def gL (N:Nat) (s_:List Int) (f_:aE) (x:Int):Option (bY (Int) (Int)) :=
 cond (decide (x < ((s_.length:Nat):Int)))
 (Option.bind (bE s_ x) fun B=>
 cond (lC B f_)
 (some (.ret x))
 (some (.cont (W (x + 1)))))
 (some (.brk x))
def iL (N:Nat) (s_:List Int) (f_:aE):Option (Int) :=
 Option.bind (aX (fun s4=>gL N s_ f_ s4) N 0) fun x4=>
 exK x4 (fun s4=>some (-1)) some
theorem rN {N:Nat} {G:aT} {Lf:List Ent} {w:World} (s_:List Int) (f_:aE) {V:Option Addr} {U:Nat} {b_:Nat} {J:Nat} {H:Option Addr} {I:Nat} {B:Option Addr} {D:Nat} (b:Rd G 1 V U (s_.map aB)) (R:RdT cL G 1 H I f_.People) (M:RdT dP G 2 B D f_.Stations) (hc:Ctx G (.box b_ [.func (.func 90) #[] #[pq J]] 56::.box J [.slice H f_.People.length I,.slice B f_.Stations.length D] 43::Lf) w) {X:Int} (hF:iL N s_ f_=some X):Calls Tryz.prog 39 #[.slice V s_.length U,.func (.func 125) #[] #[pq b_]] w (fun e w=>e=.returned (i6 X)∧Ctx G (.box b_ [.func (.func 90) #[] #[pq J]] 56::.box J [.slice H f_.People.length I,.slice B f_.Stations.length D] 43::Lf) w):=by
 unfold iL at hF
 refine bL Tryz.func39 rfl Tryz.ntmps39 rfl fun a hf=>zS fun K h=>sp 1 hf rfl fun a hf=>zT h ?_
 refine wp_seq_k fun K2 h2=>zS fun K h=>sp 1 hf rfl fun a hf=>zP hf rfl (bG Tryz.underlying23 rfl) fun a hf=>sp 1 hf rfl fun a hf=>zT h ?_
 refine wp_block ?_
 obtain ⟨x4,i,hF⟩:=aA hF
 let S4:Int→Act→World→Prop:=(fun (zz:Int) a w=>Has 19 a [(0,.slice V s_.length U),(1,.func (.func 125) #[] #[pq b_]),(7,i6 ((s_.length:Nat):Int)),(8,i6 zz)]∧Ctx G (.box b_ [.func (.func 90) #[] #[pq J]] 56::.box J [.slice H f_.People.length I,.slice B f_.Stations.length D] 43::Lf) w)
 have d:∀ (zz:Int) a w,x4=.go zz→S4 zz a w→K2 a w:=by
  rintro x a w rfl ⟨hf,hc⟩
  replace hF:=bK hF
  refine h2 _ _ ?_
  refine zS fun K h=>sp 1 hf rfl fun a hf=>zT h ?_
  refine wp_ret ?_
  obtain rfl:=sj hF
  exact zO1 Tryz.results39 hf rfl ⟨rfl,hc⟩
 have k:∀ r,x4=.out r→r=X:=by
  rintro r rfl
  exact sj hF
 refine cZ N (cW (S:=S4) (x:=x4) ?_ N 0 _ _ ⟨hf.kp rfl,hc⟩ i)
 clear hF hf hc
 rintro x n a w KB4 ⟨hf,hc⟩ hF O g
 unfold gL at hF
 refine zS fun K h=>sp 1 hf rfl fun a hf=>zT h ?_
 refine wp_seq_k fun K7 h7=>zI hf rfl hF ?_ ?_ <;> clear hF <;> intro hF
 ·refine wp_skip ?_
  refine h7 _ _ ?_
  refine wp_seq_k fun K8 h8=>wp_block ?_
  refine zS fun K h=>sp 2 hf rfl fun a hf=>zT h ?_
  refine zS fun K h=>sp 3 hf rfl fun a hf=>?_
  obtain ⟨Y,Z,hF⟩:=aA hF
  obtain ⟨m,o,qa,qp⟩:=b.atm Z
  refine zP hf rfl (pIA Tryz.underlying23 fO rfl rfl qa) fun a hf=>zE hf hc rfl (eP cR rfl (dI (j:=0) qp rfl)) fun a w hf hc=>zQ (v:=.bool (lC Y f_)) hf hc aNr rfl (fun w hc=>(aAa Y f_ R M ((hc.pick k1).pick k1) rfl).mono fun e w h=>⟨h.1,((h.2.unpick k1).unpick k1)⟩) fun a w hf hc=>zT h ?_
  refine zI hf rfl hF ?_ ?_ <;> clear hF <;> intro hF
  ·refine zS fun K h=>sp 2 hf rfl fun a hf=>zT h ?_
   refine wp_ret ?_
   refine bS ?_
   refine aL ?_
   refine aL ?_
   have he:=sj hF
   rw [← he] at O
   replace hF:=k _ O
   refine bS ?_
   refine aL ?_
   obtain rfl:=hF
   exact zO1 Tryz.results39 hf rfl ⟨rfl,hc⟩
  ·refine wp_skip ?_
   refine h8 _ _ ?_
   refine bV ?_
   refine sp 2 hf rfl fun a hf=>aP ?_
   exact g (W (x + 1)) _ _ (sj hF).symm ⟨hf.kp rfl,hc⟩
 ·refine wp_exit ?_
  refine aY ?_
  refine aY ?_
  have he:=sj hF
  rw [← he] at O
  refine fJ ?_
  exact d _ _ _ O ⟨hf.kp rfl,hc⟩

end Go.Nilo
